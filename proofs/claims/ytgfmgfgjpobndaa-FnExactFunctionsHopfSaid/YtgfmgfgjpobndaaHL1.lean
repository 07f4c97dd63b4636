/- The program computes these functions. -/
import Derived.Test.YtgfmgfgjpobndaaHL0
namespace Go.Proofs.Ytgfmgfgjpobndaa.H
set_option linter.unusedVariables false
set_option linter.unusedSimpArgs false
open Go Go.RowKit Go.Proofs.Ytgfmgfgjpobndaa.Hy
set_option linter.unusedVariables false
set_option maxRecDepth 100000
noncomputable def spec_l04Is_sh.kp : Keeps := ⟨[(0, [0, 3, 4], [], []), (2, [0, 3, 4, 5], [], []), (4, [0, 3, 6], [], []), (6, [0, 3, 6, 7, 8], [], []), (8, [0, 3, 6, 7, 8, 9], [], [])], [(0, [0, 3], [], []), (2, [0, 3, 4], [], []), (4, [], [], []), (6, [0, 3, 6, 7], [], []), (8, [0, 3, 6, 7, 8], [], [])], []⟩

noncomputable def spec_l04Is_sh.bd : Code := bodyOf Go.Proofs.Try.f24

noncomputable def spec_l04Is_sh.fin {ρ : Type} (N : Nat) (K : AV → Heap → Option ρ) (gv2 : Nat) (gv3 : Nat) (gv4 : Nat → Nat) (gv5 : Nat → Nat) (gv6 : Nat → Nat) (gv7 : Nat → Int) : XE → St → Option ρ := finK (E7 N) spec_l04Is_sh.kp.fins Go.Proofs.Try.f24 [⟨false, .hdr 1 gv2 gv3 gv4 gv5 (some gv6)⟩, ⟨false, .flat 0 (.ints .i64 gv7)⟩] K

noncomputable def spec_l04Is_sh.k0 {ρ : Type} (N : Nat) (K : AV → Heap → Option ρ) (gv2 : Nat) (gv3 : Nat) (gv4 : Nat → Nat) (gv5 : Nat → Nat) (gv6 : Nat → Nat) (gv7 : Nat → Int) : XE → St → Option ρ := (blockK spec_l04Is_sh.kp 2 0 (seqK (xcode (E7 N) ents spec_l04Is_sh.kp 2 N (cB (cB (cB (cB spec_l04Is_sh.bd)))) 0) (spec_l04Is_sh.fin N K gv2 gv3 gv4 gv5 gv6 gv7)))

theorem spec_l04Is_sh.k0_mix {ρ : Type} (N : Nat) (K : AV → Heap → Option ρ) (gv2 : Nat) (gv3 : Nat) (gv4 : Nat → Nat) (gv5 : Nat → Nat) (gv6 : Nat → Nat) (gv7 : Nat → Int) : mixK (spec_l04Is_sh.fin N K gv2 gv3 gv4 gv5 gv6 gv7 .ret) (spec_l04Is_sh.k0 N K gv2 gv3 gv4 gv5 gv6 gv7) = (spec_l04Is_sh.k0 N K gv2 gv3 gv4 gv5 gv6 gv7) := by
  funext e s; cases e <;> kernel_rfl

noncomputable def spec_l04Is_sh.st0 (table0 : Nat) (table1 : Nat) (gv2 : Nat) (gv3 : Nat) (gv4 : Nat → Nat) (gv5 : Nat → Nat) (gv6 : Nat → Nat) (gv7 : Nat → Int) (i9 : Int) : St := ⟨sl 128 [(0, .slice true 0 0 table0 (.exact table1) 1), (3, .int .i64 ((table0 : Int))), (4, .int .i64 (i9))], [⟨false, .hdr 1 gv2 gv3 gv4 gv5 (some gv6)⟩, ⟨false, .flat 0 (.ints .i64 gv7)⟩]⟩

noncomputable def spec_l04Is_sh.sx0_0 (table0 : Nat) (table1 : Nat) (gv2 : Nat) (gv3 : Nat) (gv4 : Nat → Nat) (gv5 : Nat → Nat) (gv6 : Nat → Nat) (gv7 : Nat → Int) : St := ⟨sl 128 [(0, .slice true 0 0 table0 (.exact table1) 1), (3, .int .i64 ((table0 : Int)))], [⟨false, .hdr 1 gv2 gv3 gv4 gv5 (some gv6)⟩, ⟨false, .flat 0 (.ints .i64 gv7)⟩]⟩

noncomputable def spec_l04Is_sh.k1g {ρ : Type} (N : Nat) (L0 : St → Option ρ) (kv : XE → St → Option ρ) : XE → St → Option ρ := (blockK spec_l04Is_sh.kp 2 2 (blockK spec_l04Is_sh.kp 2 1 (seqK (xcode (E7 N) ents spec_l04Is_sh.kp 2 N (cB (cB (cL (cK (cB (cA (cB (cB (cB spec_l04Is_sh.bd))))))))) 0) (roundK spec_l04Is_sh.kp 2 0 L0 kv))))

theorem spec_l04Is_sh.k1_mix {ρ : Type} (N : Nat) (K : AV → Heap → Option ρ) (L0 : St → Option ρ) (gv2 : Nat) (gv3 : Nat) (gv4 : Nat → Nat) (gv5 : Nat → Nat) (gv6 : Nat → Nat) (gv7 : Nat → Int) : mixK (spec_l04Is_sh.fin N K gv2 gv3 gv4 gv5 gv6 gv7 .ret) (spec_l04Is_sh.k1g N L0 (spec_l04Is_sh.k0 N K gv2 gv3 gv4 gv5 gv6 gv7)) = (spec_l04Is_sh.k1g N L0 (spec_l04Is_sh.k0 N K gv2 gv3 gv4 gv5 gv6 gv7)) := by
  funext e s; cases e <;> kernel_rfl

noncomputable def spec_l04Is_sh.st1 (table0 : Nat) (table1 : Nat) (gv2 : Nat) (gv3 : Nat) (gv4 : Nat → Nat) (gv5 : Nat → Nat) (gv6 : Nat → Nat) (gv7 : Nat → Int) (i9 : Int) (j10 : Int) : St := ⟨sl 128 [(0, .slice true 0 0 table0 (.exact table1) 1), (3, .int .i64 ((table0 : Int))), (4, .int .i64 (i9)), (5, .int .i64 (j10))], [⟨false, .hdr 1 gv2 gv3 gv4 gv5 (some gv6)⟩, ⟨false, .flat 0 (.ints .i64 gv7)⟩]⟩

noncomputable def spec_l04Is_sh.sx1_0 (table0 : Nat) (table1 : Nat) (gv2 : Nat) (gv3 : Nat) (gv4 : Nat → Nat) (gv5 : Nat → Nat) (gv6 : Nat → Nat) (gv7 : Nat → Int) (i9 : Int) : St := ⟨sl 128 [(0, .slice true 0 0 table0 (.exact table1) 1), (3, .int .i64 ((table0 : Int))), (4, .int .i64 (i9))], [⟨false, .hdr 1 gv2 gv3 gv4 gv5 (some gv6)⟩, ⟨false, .flat 0 (.ints .i64 gv7)⟩]⟩

noncomputable def spec_l04Is_sh.k2 {ρ : Type} (N : Nat) (K : AV → Heap → Option ρ) (gv2 : Nat) (gv3 : Nat) (gv4 : Nat → Nat) (gv5 : Nat → Nat) (gv6 : Nat → Nat) (gv7 : Nat → Int) : XE → St → Option ρ := (blockK spec_l04Is_sh.kp 2 4 (seqK (xcode (E7 N) ents spec_l04Is_sh.kp 2 N (cB (cB (cB (cB (cB spec_l04Is_sh.bd))))) 0) (spec_l04Is_sh.fin N K gv2 gv3 gv4 gv5 gv6 gv7)))

theorem spec_l04Is_sh.k2_mix {ρ : Type} (N : Nat) (K : AV → Heap → Option ρ) (gv2 : Nat) (gv3 : Nat) (gv4 : Nat → Nat) (gv5 : Nat → Nat) (gv6 : Nat → Nat) (gv7 : Nat → Int) : mixK (spec_l04Is_sh.fin N K gv2 gv3 gv4 gv5 gv6 gv7 .ret) (spec_l04Is_sh.k2 N K gv2 gv3 gv4 gv5 gv6 gv7) = (spec_l04Is_sh.k2 N K gv2 gv3 gv4 gv5 gv6 gv7) := by
  funext e s; cases e <;> kernel_rfl

noncomputable def spec_l04Is_sh.st2 (table0 : Nat) (table1 : Nat) (gv2 : Nat) (gv3 : Nat) (gv4 : Nat → Nat) (gv5 : Nat → Nat) (gv6 : Nat → Nat) (gv7 : Nat → Int) (i12 : Int) : St := ⟨sl 128 [(0, .slice true 0 0 table0 (.exact table1) 1), (3, .int .i64 ((table0 : Int))), (6, .int .i64 (i12))], [⟨false, .hdr 1 gv2 gv3 gv4 gv5 (some gv6)⟩, ⟨false, .flat 0 (.ints .i64 gv7)⟩]⟩

noncomputable def spec_l04Is_sh.sx2_0 (gv2 : Nat) (gv3 : Nat) (gv4 : Nat → Nat) (gv5 : Nat → Nat) (gv6 : Nat → Nat) (gv7 : Nat → Int) : St := ⟨sl 128 [], [⟨false, .hdr 1 gv2 gv3 gv4 gv5 (some gv6)⟩, ⟨false, .flat 0 (.ints .i64 gv7)⟩]⟩

noncomputable def spec_l04Is_sh.k3g {ρ : Type} (N : Nat) (L2 : St → Option ρ) (kv : XE → St → Option ρ) : XE → St → Option ρ := (blockK spec_l04Is_sh.kp 2 6 (seqK (xcode (E7 N) ents spec_l04Is_sh.kp 2 N (cB (cB (cK (cA (cB (cL (cK (cB (cA (cB (cB (cB (cB spec_l04Is_sh.bd))))))))))))) 5) (blockK spec_l04Is_sh.kp 2 5 (seqK (xcode (E7 N) ents spec_l04Is_sh.kp 2 N (cB (cB (cL (cK (cB (cA (cB (cB (cB (cB spec_l04Is_sh.bd)))))))))) 4) (roundK spec_l04Is_sh.kp 2 4 L2 kv)))))

theorem spec_l04Is_sh.k3_mix {ρ : Type} (N : Nat) (K : AV → Heap → Option ρ) (L2 : St → Option ρ) (gv2 : Nat) (gv3 : Nat) (gv4 : Nat → Nat) (gv5 : Nat → Nat) (gv6 : Nat → Nat) (gv7 : Nat → Int) : mixK (spec_l04Is_sh.fin N K gv2 gv3 gv4 gv5 gv6 gv7 .ret) (spec_l04Is_sh.k3g N L2 (spec_l04Is_sh.k2 N K gv2 gv3 gv4 gv5 gv6 gv7)) = (spec_l04Is_sh.k3g N L2 (spec_l04Is_sh.k2 N K gv2 gv3 gv4 gv5 gv6 gv7)) := by
  funext e s; cases e <;> kernel_rfl

noncomputable def spec_l04Is_sh.st3 (table0 : Nat) (table1 : Nat) (gv2 : Nat) (gv3 : Nat) (gv4 : Nat → Nat) (gv5 : Nat → Nat) (gv6 : Nat → Nat) (gv7 : Nat → Int) (i12 : Int) (inverse13 : Bool) (j14 : Int) : St := ⟨sl 128 [(0, .slice true 0 0 table0 (.exact table1) 1), (3, .int .i64 ((table0 : Int))), (6, .int .i64 (i12)), (7, .bool (inverse13)), (8, .int .i64 (j14))], [⟨false, .hdr 1 gv2 gv3 gv4 gv5 (some gv6)⟩, ⟨false, .flat 0 (.ints .i64 gv7)⟩]⟩

noncomputable def spec_l04Is_sh.sx3_0 (table0 : Nat) (table1 : Nat) (gv2 : Nat) (gv3 : Nat) (gv4 : Nat → Nat) (gv5 : Nat → Nat) (gv6 : Nat → Nat) (gv7 : Nat → Int) (i12 : Int) (ov18 : Bool) : St := ⟨sl 128 [(0, .slice true 0 0 table0 (.exact table1) 1), (3, .int .i64 ((table0 : Int))), (6, .int .i64 (i12)), (7, .bool (ov18))], [⟨false, .hdr 1 gv2 gv3 gv4 gv5 (some gv6)⟩, ⟨false, .flat 0 (.ints .i64 gv7)⟩]⟩

noncomputable def spec_l04Is_sh.k4g {ρ : Type} (N : Nat) (L3 : St → Option ρ) (kv : XE → St → Option ρ) : XE → St → Option ρ := (blockK spec_l04Is_sh.kp 2 8 (blockK spec_l04Is_sh.kp 2 7 (seqK (xcode (E7 N) ents spec_l04Is_sh.kp 2 N (cB (cB (cL (cK (cB (cA (cB (cK (cA (cB (cL (cK (cB (cA (cB (cB (cB (cB spec_l04Is_sh.bd)))))))))))))))))) 6) (roundK spec_l04Is_sh.kp 2 6 L3 kv))))

theorem spec_l04Is_sh.k4_mix {ρ : Type} (N : Nat) (K : AV → Heap → Option ρ) (L2 : St → Option ρ) (L3 : St → Option ρ) (gv2 : Nat) (gv3 : Nat) (gv4 : Nat → Nat) (gv5 : Nat → Nat) (gv6 : Nat → Nat) (gv7 : Nat → Int) : mixK (spec_l04Is_sh.fin N K gv2 gv3 gv4 gv5 gv6 gv7 .ret) (spec_l04Is_sh.k4g N L3 (spec_l04Is_sh.k3g N L2 (spec_l04Is_sh.k2 N K gv2 gv3 gv4 gv5 gv6 gv7))) = (spec_l04Is_sh.k4g N L3 (spec_l04Is_sh.k3g N L2 (spec_l04Is_sh.k2 N K gv2 gv3 gv4 gv5 gv6 gv7))) := by
  funext e s; cases e <;> kernel_rfl

noncomputable def spec_l04Is_sh.st4 (table0 : Nat) (table1 : Nat) (gv2 : Nat) (gv3 : Nat) (gv4 : Nat → Nat) (gv5 : Nat → Nat) (gv6 : Nat → Nat) (gv7 : Nat → Int) (i12 : Int) (j14 : Int) (k15 : Int) : St := ⟨sl 128 [(0, .slice true 0 0 table0 (.exact table1) 1), (3, .int .i64 ((table0 : Int))), (6, .int .i64 (i12)), (7, .bool true), (8, .int .i64 (j14)), (9, .int .i64 (k15))], [⟨false, .hdr 1 gv2 gv3 gv4 gv5 (some gv6)⟩, ⟨false, .flat 0 (.ints .i64 gv7)⟩]⟩

noncomputable def spec_l04Is_sh.sx4_0 (table0 : Nat) (table1 : Nat) (gv2 : Nat) (gv3 : Nat) (gv4 : Nat → Nat) (gv5 : Nat → Nat) (gv6 : Nat → Nat) (gv7 : Nat → Int) (i12 : Int) (j14 : Int) : St := ⟨sl 128 [(0, .slice true 0 0 table0 (.exact table1) 1), (3, .int .i64 ((table0 : Int))), (6, .int .i64 (i12)), (7, .bool true), (8, .int .i64 (j14))], [⟨false, .hdr 1 gv2 gv3 gv4 gv5 (some gv6)⟩, ⟨false, .flat 0 (.ints .i64 gv7)⟩]⟩

noncomputable def spec_l04Is_sh.k5g {ρ : Type} (N : Nat) (L3 : St → Option ρ) (kv : XE → St → Option ρ) : XE → St → Option ρ := (blockK spec_l04Is_sh.kp 2 8 (blockK spec_l04Is_sh.kp 2 7 (seqK (xcode (E7 N) ents spec_l04Is_sh.kp 2 N (cB (cB (cL (cK (cB (cA (cB (cK (cA (cB (cL (cK (cB (cA (cB (cB (cB (cB spec_l04Is_sh.bd)))))))))))))))))) 6) (roundK spec_l04Is_sh.kp 2 6 L3 kv))))

theorem spec_l04Is_sh.k5_mix {ρ : Type} (N : Nat) (K : AV → Heap → Option ρ) (L2 : St → Option ρ) (L3 : St → Option ρ) (gv2 : Nat) (gv3 : Nat) (gv4 : Nat → Nat) (gv5 : Nat → Nat) (gv6 : Nat → Nat) (gv7 : Nat → Int) : mixK (spec_l04Is_sh.fin N K gv2 gv3 gv4 gv5 gv6 gv7 .ret) (spec_l04Is_sh.k5g N L3 (spec_l04Is_sh.k3g N L2 (spec_l04Is_sh.k2 N K gv2 gv3 gv4 gv5 gv6 gv7))) = (spec_l04Is_sh.k5g N L3 (spec_l04Is_sh.k3g N L2 (spec_l04Is_sh.k2 N K gv2 gv3 gv4 gv5 gv6 gv7))) := by
  funext e s; cases e <;> kernel_rfl

noncomputable def spec_l04Is_sh.st5 (table0 : Nat) (table1 : Nat) (gv2 : Nat) (gv3 : Nat) (gv4 : Nat → Nat) (gv5 : Nat → Nat) (gv6 : Nat → Nat) (gv7 : Nat → Int) (i12 : Int) (j14 : Int) (k16 : Int) : St := ⟨sl 128 [(0, .slice true 0 0 table0 (.exact table1) 1), (3, .int .i64 ((table0 : Int))), (6, .int .i64 (i12)), (7, .bool (((gv7 ((gv4 (0 + (j14.toNat * 1))) + (i12.toNat * 1))) == 0))), (8, .int .i64 (j14)), (9, .int .i64 (k16))], [⟨false, .hdr 1 gv2 gv3 gv4 gv5 (some gv6)⟩, ⟨false, .flat 0 (.ints .i64 gv7)⟩]⟩

noncomputable def spec_l04Is_sh.sx5_0 (table0 : Nat) (table1 : Nat) (gv2 : Nat) (gv3 : Nat) (gv4 : Nat → Nat) (gv5 : Nat → Nat) (gv6 : Nat → Nat) (gv7 : Nat → Int) (i12 : Int) (j14 : Int) : St := ⟨sl 128 [(0, .slice true 0 0 table0 (.exact table1) 1), (3, .int .i64 ((table0 : Int))), (6, .int .i64 (i12)), (7, .bool (((gv7 ((gv4 (0 + (j14.toNat * 1))) + (i12.toNat * 1))) == 0))), (8, .int .i64 (j14))], [⟨false, .hdr 1 gv2 gv3 gv4 gv5 (some gv6)⟩, ⟨false, .flat 0 (.ints .i64 gv7)⟩]⟩

noncomputable def spec_l04Is_sh.k6g {ρ : Type} (N : Nat) (L3 : St → Option ρ) (kv : XE → St → Option ρ) : XE → St → Option ρ := (blockK spec_l04Is_sh.kp 2 8 (blockK spec_l04Is_sh.kp 2 7 (seqK (xcode (E7 N) ents spec_l04Is_sh.kp 2 N (cB (cB (cL (cK (cB (cA (cB (cK (cA (cB (cL (cK (cB (cA (cB (cB (cB (cB spec_l04Is_sh.bd)))))))))))))))))) 6) (roundK spec_l04Is_sh.kp 2 6 L3 kv))))

theorem spec_l04Is_sh.k6_mix {ρ : Type} (N : Nat) (K : AV → Heap → Option ρ) (L2 : St → Option ρ) (L3 : St → Option ρ) (gv2 : Nat) (gv3 : Nat) (gv4 : Nat → Nat) (gv5 : Nat → Nat) (gv6 : Nat → Nat) (gv7 : Nat → Int) : mixK (spec_l04Is_sh.fin N K gv2 gv3 gv4 gv5 gv6 gv7 .ret) (spec_l04Is_sh.k6g N L3 (spec_l04Is_sh.k3g N L2 (spec_l04Is_sh.k2 N K gv2 gv3 gv4 gv5 gv6 gv7))) = (spec_l04Is_sh.k6g N L3 (spec_l04Is_sh.k3g N L2 (spec_l04Is_sh.k2 N K gv2 gv3 gv4 gv5 gv6 gv7))) := by
  funext e s; cases e <;> kernel_rfl

noncomputable def spec_l04Is_sh.st6 (table0 : Nat) (table1 : Nat) (gv2 : Nat) (gv3 : Nat) (gv4 : Nat → Nat) (gv5 : Nat → Nat) (gv6 : Nat → Nat) (gv7 : Nat → Int) (i12 : Int) (j14 : Int) (k17 : Int) : St := ⟨sl 128 [(0, .slice true 0 0 table0 (.exact table1) 1), (3, .int .i64 ((table0 : Int))), (6, .int .i64 (i12)), (7, .bool false), (8, .int .i64 (j14)), (9, .int .i64 (k17))], [⟨false, .hdr 1 gv2 gv3 gv4 gv5 (some gv6)⟩, ⟨false, .flat 0 (.ints .i64 gv7)⟩]⟩

noncomputable def spec_l04Is_sh.sx6_0 (table0 : Nat) (table1 : Nat) (gv2 : Nat) (gv3 : Nat) (gv4 : Nat → Nat) (gv5 : Nat → Nat) (gv6 : Nat → Nat) (gv7 : Nat → Int) (i12 : Int) (j14 : Int) : St := ⟨sl 128 [(0, .slice true 0 0 table0 (.exact table1) 1), (3, .int .i64 ((table0 : Int))), (6, .int .i64 (i12)), (7, .bool false), (8, .int .i64 (j14))], [⟨false, .hdr 1 gv2 gv3 gv4 gv5 (some gv6)⟩, ⟨false, .flat 0 (.ints .i64 gv7)⟩]⟩

theorem spec_l04Is_sh.b1_gen {ρ : Type} (N : Nat) (K : AV → Heap → Option ρ) (L1 : St → Option ρ) (kv : XE → St → Option ρ) (table0 : Nat) (table1 : Nat) (gv2 : Nat) (gv3 : Nat) (gv4 : Nat → Nat) (gv5 : Nat → Nat) (gv6 : Nat → Nat) (gv7 : Nat → Int) (i9 : Int) (j10 : Int) :
    xcode (E7 N) ents spec_l04Is_sh.kp 2 N (cL (cK (cB (cB (cK (cA (cB (cL (cK (cB (cA (cB (cB (cB spec_l04Is_sh.bd)))))))))))))) 2 (spec_l04Is_sh.st1 table0 table1 gv2 gv3 gv4 gv5 gv6 gv7 i9 j10) (roundK spec_l04Is_sh.kp 2 2 L1 (mixK (spec_l04Is_sh.fin N K gv2 gv3 gv4 gv5 gv6 gv7 .ret) kv)) = (spec_l04Is_sh.b1 N (fun d0 => K (.bool (d0)) [⟨false, .hdr 1 gv2 gv3 gv4 gv5 (some gv6)⟩, ⟨false, .flat 0 (.ints .i64 gv7)⟩]) (fun j10 => L1 (spec_l04Is_sh.st1 table0 table1 gv2 gv3 gv4 gv5 gv6 gv7 i9 j10)) (kv (.exit 2) (spec_l04Is_sh.sx1_0 table0 table1 gv2 gv3 gv4 gv5 gv6 gv7 i9)) table0 gv4 gv5 gv7 i9 j10) := by kernel_rfl

theorem spec_l04Is_sh.b1_eq {ρ : Type} (N : Nat) (K : AV → Heap → Option ρ) (L0 : St → Option ρ) (L1 : St → Option ρ) (table0 : Nat) (table1 : Nat) (gv2 : Nat) (gv3 : Nat) (gv4 : Nat → Nat) (gv5 : Nat → Nat) (gv6 : Nat → Nat) (gv7 : Nat → Int) (i9 : Int) (j10 : Int) :
    xcode (E7 N) ents spec_l04Is_sh.kp 2 N (cL (cK (cB (cB (cK (cA (cB (cL (cK (cB (cA (cB (cB (cB spec_l04Is_sh.bd)))))))))))))) 2 (spec_l04Is_sh.st1 table0 table1 gv2 gv3 gv4 gv5 gv6 gv7 i9 j10) (roundK spec_l04Is_sh.kp 2 2 L1 (spec_l04Is_sh.k1g N L0 (spec_l04Is_sh.k0 N K gv2 gv3 gv4 gv5 gv6 gv7))) = (spec_l04Is_sh.b1 N (fun d0 => K (.bool (d0)) [⟨false, .hdr 1 gv2 gv3 gv4 gv5 (some gv6)⟩, ⟨false, .flat 0 (.ints .i64 gv7)⟩]) (fun j10 => L1 (spec_l04Is_sh.st1 table0 table1 gv2 gv3 gv4 gv5 gv6 gv7 i9 j10)) ((spec_l04Is_sh.k1g N L0 (spec_l04Is_sh.k0 N K gv2 gv3 gv4 gv5 gv6 gv7)) (.exit 2) (spec_l04Is_sh.sx1_0 table0 table1 gv2 gv3 gv4 gv5 gv6 gv7 i9)) table0 gv4 gv5 gv7 i9 j10) := by
  have h := spec_l04Is_sh.b1_gen N K L1 (spec_l04Is_sh.k1g N L0 (spec_l04Is_sh.k0 N K gv2 gv3 gv4 gv5 gv6 gv7)) table0 table1 gv2 gv3 gv4 gv5 gv6 gv7 i9 j10
  rw [spec_l04Is_sh.k1_mix] at h
  exact h

theorem spec_l04Is_sh.a1_0_gen {ρ : Type} (N : Nat) (K : AV → Heap → Option ρ) (L0 : St → Option ρ) (kv : XE → St → Option ρ) (table0 : Nat) (table1 : Nat) (gv2 : Nat) (gv3 : Nat) (gv4 : Nat → Nat) (gv5 : Nat → Nat) (gv6 : Nat → Nat) (gv7 : Nat → Int) (i9 : Int) :
    (spec_l04Is_sh.k1g N L0 (mixK (spec_l04Is_sh.fin N K gv2 gv3 gv4 gv5 gv6 gv7 .ret) kv)) (.exit 2) (spec_l04Is_sh.sx1_0 table0 table1 gv2 gv3 gv4 gv5 gv6 gv7 i9) = (spec_l04Is_sh.a1_0 N (fun d0 => K (.bool (d0)) [⟨false, .hdr 1 gv2 gv3 gv4 gv5 (some gv6)⟩, ⟨false, .flat 0 (.ints .i64 gv7)⟩]) (fun i9 => L0 (spec_l04Is_sh.st0 table0 table1 gv2 gv3 gv4 gv5 gv6 gv7 i9)) (kv (.exit 0) (spec_l04Is_sh.sx0_0 table0 table1 gv2 gv3 gv4 gv5 gv6 gv7)) i9) := by kernel_rfl

theorem spec_l04Is_sh.a1_0_eq {ρ : Type} (N : Nat) (K : AV → Heap → Option ρ) (L0 : St → Option ρ) (table0 : Nat) (table1 : Nat) (gv2 : Nat) (gv3 : Nat) (gv4 : Nat → Nat) (gv5 : Nat → Nat) (gv6 : Nat → Nat) (gv7 : Nat → Int) (i9 : Int) :
    (spec_l04Is_sh.k1g N L0 (spec_l04Is_sh.k0 N K gv2 gv3 gv4 gv5 gv6 gv7)) (.exit 2) (spec_l04Is_sh.sx1_0 table0 table1 gv2 gv3 gv4 gv5 gv6 gv7 i9) = (spec_l04Is_sh.a1_0 N (fun d0 => K (.bool (d0)) [⟨false, .hdr 1 gv2 gv3 gv4 gv5 (some gv6)⟩, ⟨false, .flat 0 (.ints .i64 gv7)⟩]) (fun i9 => L0 (spec_l04Is_sh.st0 table0 table1 gv2 gv3 gv4 gv5 gv6 gv7 i9)) ((spec_l04Is_sh.k0 N K gv2 gv3 gv4 gv5 gv6 gv7) (.exit 0) (spec_l04Is_sh.sx0_0 table0 table1 gv2 gv3 gv4 gv5 gv6 gv7)) i9) := by
  have h := spec_l04Is_sh.a1_0_gen N K L0 (spec_l04Is_sh.k0 N K gv2 gv3 gv4 gv5 gv6 gv7) table0 table1 gv2 gv3 gv4 gv5 gv6 gv7 i9
  rw [spec_l04Is_sh.k0_mix] at h
  exact h

theorem spec_l04Is_sh.b4_gen {ρ : Type} (N : Nat) (K : AV → Heap → Option ρ) (L4 : St → Option ρ) (kv : XE → St → Option ρ) (table0 : Nat) (table1 : Nat) (gv2 : Nat) (gv3 : Nat) (gv4 : Nat → Nat) (gv5 : Nat → Nat) (gv6 : Nat → Nat) (gv7 : Nat → Int) (i12 : Int) (j14 : Int) (k15 : Int) :
    xcode (E7 N) ents spec_l04Is_sh.kp 2 N (cL (cK (cB (cB (cK (cA (cB (cL (cK (cB (cA (cB (cK (cA (cB (cL (cK (cB (cA (cB (cB (cB (cB spec_l04Is_sh.bd))))))))))))))))))))))) 8 (spec_l04Is_sh.st4 table0 table1 gv2 gv3 gv4 gv5 gv6 gv7 i12 j14 k15) (roundK spec_l04Is_sh.kp 2 8 L4 (mixK (spec_l04Is_sh.fin N K gv2 gv3 gv4 gv5 gv6 gv7 .ret) kv)) = (spec_l04Is_sh.b4 N (fun d0 => K (.bool (d0)) [⟨false, .hdr 1 gv2 gv3 gv4 gv5 (some gv6)⟩, ⟨false, .flat 0 (.ints .i64 gv7)⟩]) (fun k15 => L4 (spec_l04Is_sh.st4 table0 table1 gv2 gv3 gv4 gv5 gv6 gv7 i12 j14 k15)) (kv (.exit 8) (spec_l04Is_sh.sx4_0 table0 table1 gv2 gv3 gv4 gv5 gv6 gv7 i12 j14)) table0 gv4 gv5 gv7 i12 j14 k15) := by kernel_rfl

theorem spec_l04Is_sh.b4_eq {ρ : Type} (N : Nat) (K : AV → Heap → Option ρ) (L2 : St → Option ρ) (L3 : St → Option ρ) (L4 : St → Option ρ) (table0 : Nat) (table1 : Nat) (gv2 : Nat) (gv3 : Nat) (gv4 : Nat → Nat) (gv5 : Nat → Nat) (gv6 : Nat → Nat) (gv7 : Nat → Int) (i12 : Int) (j14 : Int) (k15 : Int) :
    xcode (E7 N) ents spec_l04Is_sh.kp 2 N (cL (cK (cB (cB (cK (cA (cB (cL (cK (cB (cA (cB (cK (cA (cB (cL (cK (cB (cA (cB (cB (cB (cB spec_l04Is_sh.bd))))))))))))))))))))))) 8 (spec_l04Is_sh.st4 table0 table1 gv2 gv3 gv4 gv5 gv6 gv7 i12 j14 k15) (roundK spec_l04Is_sh.kp 2 8 L4 (spec_l04Is_sh.k4g N L3 (spec_l04Is_sh.k3g N L2 (spec_l04Is_sh.k2 N K gv2 gv3 gv4 gv5 gv6 gv7)))) = (spec_l04Is_sh.b4 N (fun d0 => K (.bool (d0)) [⟨false, .hdr 1 gv2 gv3 gv4 gv5 (some gv6)⟩, ⟨false, .flat 0 (.ints .i64 gv7)⟩]) (fun k15 => L4 (spec_l04Is_sh.st4 table0 table1 gv2 gv3 gv4 gv5 gv6 gv7 i12 j14 k15)) ((spec_l04Is_sh.k4g N L3 (spec_l04Is_sh.k3g N L2 (spec_l04Is_sh.k2 N K gv2 gv3 gv4 gv5 gv6 gv7))) (.exit 8) (spec_l04Is_sh.sx4_0 table0 table1 gv2 gv3 gv4 gv5 gv6 gv7 i12 j14)) table0 gv4 gv5 gv7 i12 j14 k15) := by
  have h := spec_l04Is_sh.b4_gen N K L4 (spec_l04Is_sh.k4g N L3 (spec_l04Is_sh.k3g N L2 (spec_l04Is_sh.k2 N K gv2 gv3 gv4 gv5 gv6 gv7))) table0 table1 gv2 gv3 gv4 gv5 gv6 gv7 i12 j14 k15
  rw [spec_l04Is_sh.k4_mix] at h
  exact h

theorem spec_l04Is_sh.a4_0_gen {ρ : Type} (N : Nat) (K : AV → Heap → Option ρ) (L3 : St → Option ρ) (kv : XE → St → Option ρ) (table0 : Nat) (table1 : Nat) (gv2 : Nat) (gv3 : Nat) (gv4 : Nat → Nat) (gv5 : Nat → Nat) (gv6 : Nat → Nat) (gv7 : Nat → Int) (i12 : Int) (j14 : Int) :
    (spec_l04Is_sh.k4g N L3 (mixK (spec_l04Is_sh.fin N K gv2 gv3 gv4 gv5 gv6 gv7 .ret) kv)) (.exit 8) (spec_l04Is_sh.sx4_0 table0 table1 gv2 gv3 gv4 gv5 gv6 gv7 i12 j14) = (spec_l04Is_sh.a4_0 N (fun d0 => K (.bool (d0)) [⟨false, .hdr 1 gv2 gv3 gv4 gv5 (some gv6)⟩, ⟨false, .flat 0 (.ints .i64 gv7)⟩]) (fun inverse13 j14 => L3 (spec_l04Is_sh.st3 table0 table1 gv2 gv3 gv4 gv5 gv6 gv7 i12 inverse13 j14)) (fun ov18 => kv (.exit 6) (spec_l04Is_sh.sx3_0 table0 table1 gv2 gv3 gv4 gv5 gv6 gv7 i12 ov18)) j14) := by kernel_rfl

theorem spec_l04Is_sh.a4_0_eq {ρ : Type} (N : Nat) (K : AV → Heap → Option ρ) (L2 : St → Option ρ) (L3 : St → Option ρ) (table0 : Nat) (table1 : Nat) (gv2 : Nat) (gv3 : Nat) (gv4 : Nat → Nat) (gv5 : Nat → Nat) (gv6 : Nat → Nat) (gv7 : Nat → Int) (i12 : Int) (j14 : Int) :
    (spec_l04Is_sh.k4g N L3 (spec_l04Is_sh.k3g N L2 (spec_l04Is_sh.k2 N K gv2 gv3 gv4 gv5 gv6 gv7))) (.exit 8) (spec_l04Is_sh.sx4_0 table0 table1 gv2 gv3 gv4 gv5 gv6 gv7 i12 j14) = (spec_l04Is_sh.a4_0 N (fun d0 => K (.bool (d0)) [⟨false, .hdr 1 gv2 gv3 gv4 gv5 (some gv6)⟩, ⟨false, .flat 0 (.ints .i64 gv7)⟩]) (fun inverse13 j14 => L3 (spec_l04Is_sh.st3 table0 table1 gv2 gv3 gv4 gv5 gv6 gv7 i12 inverse13 j14)) (fun ov18 => (spec_l04Is_sh.k3g N L2 (spec_l04Is_sh.k2 N K gv2 gv3 gv4 gv5 gv6 gv7)) (.exit 6) (spec_l04Is_sh.sx3_0 table0 table1 gv2 gv3 gv4 gv5 gv6 gv7 i12 ov18)) j14) := by
  have h := spec_l04Is_sh.a4_0_gen N K L3 (spec_l04Is_sh.k3g N L2 (spec_l04Is_sh.k2 N K gv2 gv3 gv4 gv5 gv6 gv7)) table0 table1 gv2 gv3 gv4 gv5 gv6 gv7 i12 j14
  rw [spec_l04Is_sh.k3_mix] at h
  exact h

theorem spec_l04Is_sh.b5_gen {ρ : Type} (N : Nat) (K : AV → Heap → Option ρ) (L5 : St → Option ρ) (kv : XE → St → Option ρ) (table0 : Nat) (table1 : Nat) (gv2 : Nat) (gv3 : Nat) (gv4 : Nat → Nat) (gv5 : Nat → Nat) (gv6 : Nat → Nat) (gv7 : Nat → Int) (i12 : Int) (j14 : Int) (k16 : Int) :
    xcode (E7 N) ents spec_l04Is_sh.kp 2 N (cL (cK (cB (cB (cK (cA (cB (cL (cK (cB (cA (cB (cK (cA (cB (cL (cK (cB (cA (cB (cB (cB (cB spec_l04Is_sh.bd))))))))))))))))))))))) 8 (spec_l04Is_sh.st5 table0 table1 gv2 gv3 gv4 gv5 gv6 gv7 i12 j14 k16) (roundK spec_l04Is_sh.kp 2 8 L5 (mixK (spec_l04Is_sh.fin N K gv2 gv3 gv4 gv5 gv6 gv7 .ret) kv)) = (spec_l04Is_sh.b5 N (fun d0 => K (.bool (d0)) [⟨false, .hdr 1 gv2 gv3 gv4 gv5 (some gv6)⟩, ⟨false, .flat 0 (.ints .i64 gv7)⟩]) (fun k16 => L5 (spec_l04Is_sh.st5 table0 table1 gv2 gv3 gv4 gv5 gv6 gv7 i12 j14 k16)) (kv (.exit 8) (spec_l04Is_sh.sx5_0 table0 table1 gv2 gv3 gv4 gv5 gv6 gv7 i12 j14)) table0 gv4 gv5 gv7 i12 j14 k16) := by kernel_rfl

theorem spec_l04Is_sh.b5_eq {ρ : Type} (N : Nat) (K : AV → Heap → Option ρ) (L2 : St → Option ρ) (L3 : St → Option ρ) (L5 : St → Option ρ) (table0 : Nat) (table1 : Nat) (gv2 : Nat) (gv3 : Nat) (gv4 : Nat → Nat) (gv5 : Nat → Nat) (gv6 : Nat → Nat) (gv7 : Nat → Int) (i12 : Int) (j14 : Int) (k16 : Int) :
    xcode (E7 N) ents spec_l04Is_sh.kp 2 N (cL (cK (cB (cB (cK (cA (cB (cL (cK (cB (cA (cB (cK (cA (cB (cL (cK (cB (cA (cB (cB (cB (cB spec_l04Is_sh.bd))))))))))))))))))))))) 8 (spec_l04Is_sh.st5 table0 table1 gv2 gv3 gv4 gv5 gv6 gv7 i12 j14 k16) (roundK spec_l04Is_sh.kp 2 8 L5 (spec_l04Is_sh.k5g N L3 (spec_l04Is_sh.k3g N L2 (spec_l04Is_sh.k2 N K gv2 gv3 gv4 gv5 gv6 gv7)))) = (spec_l04Is_sh.b5 N (fun d0 => K (.bool (d0)) [⟨false, .hdr 1 gv2 gv3 gv4 gv5 (some gv6)⟩, ⟨false, .flat 0 (.ints .i64 gv7)⟩]) (fun k16 => L5 (spec_l04Is_sh.st5 table0 table1 gv2 gv3 gv4 gv5 gv6 gv7 i12 j14 k16)) ((spec_l04Is_sh.k5g N L3 (spec_l04Is_sh.k3g N L2 (spec_l04Is_sh.k2 N K gv2 gv3 gv4 gv5 gv6 gv7))) (.exit 8) (spec_l04Is_sh.sx5_0 table0 table1 gv2 gv3 gv4 gv5 gv6 gv7 i12 j14)) table0 gv4 gv5 gv7 i12 j14 k16) := by
  have h := spec_l04Is_sh.b5_gen N K L5 (spec_l04Is_sh.k5g N L3 (spec_l04Is_sh.k3g N L2 (spec_l04Is_sh.k2 N K gv2 gv3 gv4 gv5 gv6 gv7))) table0 table1 gv2 gv3 gv4 gv5 gv6 gv7 i12 j14 k16
  rw [spec_l04Is_sh.k5_mix] at h
  exact h

theorem spec_l04Is_sh.a5_0_gen {ρ : Type} (N : Nat) (K : AV → Heap → Option ρ) (L3 : St → Option ρ) (kv : XE → St → Option ρ) (table0 : Nat) (table1 : Nat) (gv2 : Nat) (gv3 : Nat) (gv4 : Nat → Nat) (gv5 : Nat → Nat) (gv6 : Nat → Nat) (gv7 : Nat → Int) (i12 : Int) (j14 : Int) :
    (spec_l04Is_sh.k5g N L3 (mixK (spec_l04Is_sh.fin N K gv2 gv3 gv4 gv5 gv6 gv7 .ret) kv)) (.exit 8) (spec_l04Is_sh.sx5_0 table0 table1 gv2 gv3 gv4 gv5 gv6 gv7 i12 j14) = (spec_l04Is_sh.a5_0 N (fun d0 => K (.bool (d0)) [⟨false, .hdr 1 gv2 gv3 gv4 gv5 (some gv6)⟩, ⟨false, .flat 0 (.ints .i64 gv7)⟩]) (fun inverse13 j14 => L3 (spec_l04Is_sh.st3 table0 table1 gv2 gv3 gv4 gv5 gv6 gv7 i12 inverse13 j14)) (fun ov18 => kv (.exit 6) (spec_l04Is_sh.sx3_0 table0 table1 gv2 gv3 gv4 gv5 gv6 gv7 i12 ov18)) gv4 gv7 i12 j14) := by kernel_rfl

theorem spec_l04Is_sh.a5_0_eq {ρ : Type} (N : Nat) (K : AV → Heap → Option ρ) (L2 : St → Option ρ) (L3 : St → Option ρ) (table0 : Nat) (table1 : Nat) (gv2 : Nat) (gv3 : Nat) (gv4 : Nat → Nat) (gv5 : Nat → Nat) (gv6 : Nat → Nat) (gv7 : Nat → Int) (i12 : Int) (j14 : Int) :
    (spec_l04Is_sh.k5g N L3 (spec_l04Is_sh.k3g N L2 (spec_l04Is_sh.k2 N K gv2 gv3 gv4 gv5 gv6 gv7))) (.exit 8) (spec_l04Is_sh.sx5_0 table0 table1 gv2 gv3 gv4 gv5 gv6 gv7 i12 j14) = (spec_l04Is_sh.a5_0 N (fun d0 => K (.bool (d0)) [⟨false, .hdr 1 gv2 gv3 gv4 gv5 (some gv6)⟩, ⟨false, .flat 0 (.ints .i64 gv7)⟩]) (fun inverse13 j14 => L3 (spec_l04Is_sh.st3 table0 table1 gv2 gv3 gv4 gv5 gv6 gv7 i12 inverse13 j14)) (fun ov18 => (spec_l04Is_sh.k3g N L2 (spec_l04Is_sh.k2 N K gv2 gv3 gv4 gv5 gv6 gv7)) (.exit 6) (spec_l04Is_sh.sx3_0 table0 table1 gv2 gv3 gv4 gv5 gv6 gv7 i12 ov18)) gv4 gv7 i12 j14) := by
  have h := spec_l04Is_sh.a5_0_gen N K L3 (spec_l04Is_sh.k3g N L2 (spec_l04Is_sh.k2 N K gv2 gv3 gv4 gv5 gv6 gv7)) table0 table1 gv2 gv3 gv4 gv5 gv6 gv7 i12 j14
  rw [spec_l04Is_sh.k3_mix] at h
  exact h

theorem spec_l04Is_sh.b6_gen {ρ : Type} (N : Nat) (K : AV → Heap → Option ρ) (L6 : St → Option ρ) (kv : XE → St → Option ρ) (table0 : Nat) (table1 : Nat) (gv2 : Nat) (gv3 : Nat) (gv4 : Nat → Nat) (gv5 : Nat → Nat) (gv6 : Nat → Nat) (gv7 : Nat → Int) (i12 : Int) (j14 : Int) (k17 : Int) :
    xcode (E7 N) ents spec_l04Is_sh.kp 2 N (cL (cK (cB (cB (cK (cA (cB (cL (cK (cB (cA (cB (cK (cA (cB (cL (cK (cB (cA (cB (cB (cB (cB spec_l04Is_sh.bd))))))))))))))))))))))) 8 (spec_l04Is_sh.st6 table0 table1 gv2 gv3 gv4 gv5 gv6 gv7 i12 j14 k17) (roundK spec_l04Is_sh.kp 2 8 L6 (mixK (spec_l04Is_sh.fin N K gv2 gv3 gv4 gv5 gv6 gv7 .ret) kv)) = (spec_l04Is_sh.b6 N (fun d0 => K (.bool (d0)) [⟨false, .hdr 1 gv2 gv3 gv4 gv5 (some gv6)⟩, ⟨false, .flat 0 (.ints .i64 gv7)⟩]) (fun k17 => L6 (spec_l04Is_sh.st6 table0 table1 gv2 gv3 gv4 gv5 gv6 gv7 i12 j14 k17)) (kv (.exit 8) (spec_l04Is_sh.sx6_0 table0 table1 gv2 gv3 gv4 gv5 gv6 gv7 i12 j14)) table0 gv4 gv5 gv7 i12 j14 k17) := by kernel_rfl

theorem spec_l04Is_sh.b6_eq {ρ : Type} (N : Nat) (K : AV → Heap → Option ρ) (L2 : St → Option ρ) (L3 : St → Option ρ) (L6 : St → Option ρ) (table0 : Nat) (table1 : Nat) (gv2 : Nat) (gv3 : Nat) (gv4 : Nat → Nat) (gv5 : Nat → Nat) (gv6 : Nat → Nat) (gv7 : Nat → Int) (i12 : Int) (j14 : Int) (k17 : Int) :
    xcode (E7 N) ents spec_l04Is_sh.kp 2 N (cL (cK (cB (cB (cK (cA (cB (cL (cK (cB (cA (cB (cK (cA (cB (cL (cK (cB (cA (cB (cB (cB (cB spec_l04Is_sh.bd))))))))))))))))))))))) 8 (spec_l04Is_sh.st6 table0 table1 gv2 gv3 gv4 gv5 gv6 gv7 i12 j14 k17) (roundK spec_l04Is_sh.kp 2 8 L6 (spec_l04Is_sh.k6g N L3 (spec_l04Is_sh.k3g N L2 (spec_l04Is_sh.k2 N K gv2 gv3 gv4 gv5 gv6 gv7)))) = (spec_l04Is_sh.b6 N (fun d0 => K (.bool (d0)) [⟨false, .hdr 1 gv2 gv3 gv4 gv5 (some gv6)⟩, ⟨false, .flat 0 (.ints .i64 gv7)⟩]) (fun k17 => L6 (spec_l04Is_sh.st6 table0 table1 gv2 gv3 gv4 gv5 gv6 gv7 i12 j14 k17)) ((spec_l04Is_sh.k6g N L3 (spec_l04Is_sh.k3g N L2 (spec_l04Is_sh.k2 N K gv2 gv3 gv4 gv5 gv6 gv7))) (.exit 8) (spec_l04Is_sh.sx6_0 table0 table1 gv2 gv3 gv4 gv5 gv6 gv7 i12 j14)) table0 gv4 gv5 gv7 i12 j14 k17) := by
  have h := spec_l04Is_sh.b6_gen N K L6 (spec_l04Is_sh.k6g N L3 (spec_l04Is_sh.k3g N L2 (spec_l04Is_sh.k2 N K gv2 gv3 gv4 gv5 gv6 gv7))) table0 table1 gv2 gv3 gv4 gv5 gv6 gv7 i12 j14 k17
  rw [spec_l04Is_sh.k6_mix] at h
  exact h

theorem spec_l04Is_sh.a6_0_gen {ρ : Type} (N : Nat) (K : AV → Heap → Option ρ) (L3 : St → Option ρ) (kv : XE → St → Option ρ) (table0 : Nat) (table1 : Nat) (gv2 : Nat) (gv3 : Nat) (gv4 : Nat → Nat) (gv5 : Nat → Nat) (gv6 : Nat → Nat) (gv7 : Nat → Int) (i12 : Int) (j14 : Int) :
    (spec_l04Is_sh.k6g N L3 (mixK (spec_l04Is_sh.fin N K gv2 gv3 gv4 gv5 gv6 gv7 .ret) kv)) (.exit 8) (spec_l04Is_sh.sx6_0 table0 table1 gv2 gv3 gv4 gv5 gv6 gv7 i12 j14) = (spec_l04Is_sh.a6_0 N (fun d0 => K (.bool (d0)) [⟨false, .hdr 1 gv2 gv3 gv4 gv5 (some gv6)⟩, ⟨false, .flat 0 (.ints .i64 gv7)⟩]) (fun inverse13 j14 => L3 (spec_l04Is_sh.st3 table0 table1 gv2 gv3 gv4 gv5 gv6 gv7 i12 inverse13 j14)) (fun ov18 => kv (.exit 6) (spec_l04Is_sh.sx3_0 table0 table1 gv2 gv3 gv4 gv5 gv6 gv7 i12 ov18)) j14) := by kernel_rfl

theorem spec_l04Is_sh.a6_0_eq {ρ : Type} (N : Nat) (K : AV → Heap → Option ρ) (L2 : St → Option ρ) (L3 : St → Option ρ) (table0 : Nat) (table1 : Nat) (gv2 : Nat) (gv3 : Nat) (gv4 : Nat → Nat) (gv5 : Nat → Nat) (gv6 : Nat → Nat) (gv7 : Nat → Int) (i12 : Int) (j14 : Int) :
    (spec_l04Is_sh.k6g N L3 (spec_l04Is_sh.k3g N L2 (spec_l04Is_sh.k2 N K gv2 gv3 gv4 gv5 gv6 gv7))) (.exit 8) (spec_l04Is_sh.sx6_0 table0 table1 gv2 gv3 gv4 gv5 gv6 gv7 i12 j14) = (spec_l04Is_sh.a6_0 N (fun d0 => K (.bool (d0)) [⟨false, .hdr 1 gv2 gv3 gv4 gv5 (some gv6)⟩, ⟨false, .flat 0 (.ints .i64 gv7)⟩]) (fun inverse13 j14 => L3 (spec_l04Is_sh.st3 table0 table1 gv2 gv3 gv4 gv5 gv6 gv7 i12 inverse13 j14)) (fun ov18 => (spec_l04Is_sh.k3g N L2 (spec_l04Is_sh.k2 N K gv2 gv3 gv4 gv5 gv6 gv7)) (.exit 6) (spec_l04Is_sh.sx3_0 table0 table1 gv2 gv3 gv4 gv5 gv6 gv7 i12 ov18)) j14) := by
  have h := spec_l04Is_sh.a6_0_gen N K L3 (spec_l04Is_sh.k3g N L2 (spec_l04Is_sh.k2 N K gv2 gv3 gv4 gv5 gv6 gv7)) table0 table1 gv2 gv3 gv4 gv5 gv6 gv7 i12 j14
  rw [spec_l04Is_sh.k3_mix] at h
  exact h

theorem spec_l04Is_sh.b3_gen {ρ : Type} (N : Nat) (K : AV → Heap → Option ρ) (L3 : St → Option ρ) (kv : XE → St → Option ρ) (table0 : Nat) (table1 : Nat) (gv2 : Nat) (gv3 : Nat) (gv4 : Nat → Nat) (gv5 : Nat → Nat) (gv6 : Nat → Nat) (gv7 : Nat → Int) (i12 : Int) (inverse13 : Bool) (j14 : Int) :
    xcode (E7 N) ents spec_l04Is_sh.kp 2 N (cL (cK (cB (cA (cB (cK (cA (cB (cL (cK (cB (cA (cB (cB (cB (cB spec_l04Is_sh.bd)))))))))))))))) 6 (spec_l04Is_sh.st3 table0 table1 gv2 gv3 gv4 gv5 gv6 gv7 i12 inverse13 j14) (roundK spec_l04Is_sh.kp 2 6 L3 (mixK (spec_l04Is_sh.fin N K gv2 gv3 gv4 gv5 gv6 gv7 .ret) kv)) = (spec_l04Is_sh.b3 N (fun d0 => K (.bool (d0)) [⟨false, .hdr 1 gv2 gv3 gv4 gv5 (some gv6)⟩, ⟨false, .flat 0 (.ints .i64 gv7)⟩]) (fun k15 => xloop (xcode (E7 N) ents spec_l04Is_sh.kp 2 N (cL (cK (cB (cB (cK (cA (cB (cL (cK (cB (cA (cB (cK (cA (cB (cL (cK (cB (cA (cB (cB (cB (cB spec_l04Is_sh.bd))))))))))))))))))))))) 8) spec_l04Is_sh.kp 2 8 N (spec_l04Is_sh.st4 table0 table1 gv2 gv3 gv4 gv5 gv6 gv7 i12 j14 k15) (spec_l04Is_sh.k4g N L3 (mixK (spec_l04Is_sh.fin N K gv2 gv3 gv4 gv5 gv6 gv7 .ret) kv))) (fun k16 => xloop (xcode (E7 N) ents spec_l04Is_sh.kp 2 N (cL (cK (cB (cB (cK (cA (cB (cL (cK (cB (cA (cB (cK (cA (cB (cL (cK (cB (cA (cB (cB (cB (cB spec_l04Is_sh.bd))))))))))))))))))))))) 8) spec_l04Is_sh.kp 2 8 N (spec_l04Is_sh.st5 table0 table1 gv2 gv3 gv4 gv5 gv6 gv7 i12 j14 k16) (spec_l04Is_sh.k5g N L3 (mixK (spec_l04Is_sh.fin N K gv2 gv3 gv4 gv5 gv6 gv7 .ret) kv))) (fun k17 => xloop (xcode (E7 N) ents spec_l04Is_sh.kp 2 N (cL (cK (cB (cB (cK (cA (cB (cL (cK (cB (cA (cB (cK (cA (cB (cL (cK (cB (cA (cB (cB (cB (cB spec_l04Is_sh.bd))))))))))))))))))))))) 8) spec_l04Is_sh.kp 2 8 N (spec_l04Is_sh.st6 table0 table1 gv2 gv3 gv4 gv5 gv6 gv7 i12 j14 k17) (spec_l04Is_sh.k6g N L3 (mixK (spec_l04Is_sh.fin N K gv2 gv3 gv4 gv5 gv6 gv7 .ret) kv))) (fun inverse13 j14 => L3 (spec_l04Is_sh.st3 table0 table1 gv2 gv3 gv4 gv5 gv6 gv7 i12 inverse13 j14)) (fun ov18 => kv (.exit 6) (spec_l04Is_sh.sx3_0 table0 table1 gv2 gv3 gv4 gv5 gv6 gv7 i12 ov18)) table0 gv4 gv5 gv7 i12 inverse13 j14) := by kernel_rfl

theorem spec_l04Is_sh.b3_eq {ρ : Type} (N : Nat) (K : AV → Heap → Option ρ) (L2 : St → Option ρ) (L3 : St → Option ρ) (table0 : Nat) (table1 : Nat) (gv2 : Nat) (gv3 : Nat) (gv4 : Nat → Nat) (gv5 : Nat → Nat) (gv6 : Nat → Nat) (gv7 : Nat → Int) (i12 : Int) (inverse13 : Bool) (j14 : Int) :
    xcode (E7 N) ents spec_l04Is_sh.kp 2 N (cL (cK (cB (cA (cB (cK (cA (cB (cL (cK (cB (cA (cB (cB (cB (cB spec_l04Is_sh.bd)))))))))))))))) 6 (spec_l04Is_sh.st3 table0 table1 gv2 gv3 gv4 gv5 gv6 gv7 i12 inverse13 j14) (roundK spec_l04Is_sh.kp 2 6 L3 (spec_l04Is_sh.k3g N L2 (spec_l04Is_sh.k2 N K gv2 gv3 gv4 gv5 gv6 gv7))) = (spec_l04Is_sh.b3 N (fun d0 => K (.bool (d0)) [⟨false, .hdr 1 gv2 gv3 gv4 gv5 (some gv6)⟩, ⟨false, .flat 0 (.ints .i64 gv7)⟩]) (fun k15 => xloop (xcode (E7 N) ents spec_l04Is_sh.kp 2 N (cL (cK (cB (cB (cK (cA (cB (cL (cK (cB (cA (cB (cK (cA (cB (cL (cK (cB (cA (cB (cB (cB (cB spec_l04Is_sh.bd))))))))))))))))))))))) 8) spec_l04Is_sh.kp 2 8 N (spec_l04Is_sh.st4 table0 table1 gv2 gv3 gv4 gv5 gv6 gv7 i12 j14 k15) (spec_l04Is_sh.k4g N L3 (spec_l04Is_sh.k3g N L2 (spec_l04Is_sh.k2 N K gv2 gv3 gv4 gv5 gv6 gv7)))) (fun k16 => xloop (xcode (E7 N) ents spec_l04Is_sh.kp 2 N (cL (cK (cB (cB (cK (cA (cB (cL (cK (cB (cA (cB (cK (cA (cB (cL (cK (cB (cA (cB (cB (cB (cB spec_l04Is_sh.bd))))))))))))))))))))))) 8) spec_l04Is_sh.kp 2 8 N (spec_l04Is_sh.st5 table0 table1 gv2 gv3 gv4 gv5 gv6 gv7 i12 j14 k16) (spec_l04Is_sh.k5g N L3 (spec_l04Is_sh.k3g N L2 (spec_l04Is_sh.k2 N K gv2 gv3 gv4 gv5 gv6 gv7)))) (fun k17 => xloop (xcode (E7 N) ents spec_l04Is_sh.kp 2 N (cL (cK (cB (cB (cK (cA (cB (cL (cK (cB (cA (cB (cK (cA (cB (cL (cK (cB (cA (cB (cB (cB (cB spec_l04Is_sh.bd))))))))))))))))))))))) 8) spec_l04Is_sh.kp 2 8 N (spec_l04Is_sh.st6 table0 table1 gv2 gv3 gv4 gv5 gv6 gv7 i12 j14 k17) (spec_l04Is_sh.k6g N L3 (spec_l04Is_sh.k3g N L2 (spec_l04Is_sh.k2 N K gv2 gv3 gv4 gv5 gv6 gv7)))) (fun inverse13 j14 => L3 (spec_l04Is_sh.st3 table0 table1 gv2 gv3 gv4 gv5 gv6 gv7 i12 inverse13 j14)) (fun ov18 => (spec_l04Is_sh.k3g N L2 (spec_l04Is_sh.k2 N K gv2 gv3 gv4 gv5 gv6 gv7)) (.exit 6) (spec_l04Is_sh.sx3_0 table0 table1 gv2 gv3 gv4 gv5 gv6 gv7 i12 ov18)) table0 gv4 gv5 gv7 i12 inverse13 j14) := by
  have h := spec_l04Is_sh.b3_gen N K L3 (spec_l04Is_sh.k3g N L2 (spec_l04Is_sh.k2 N K gv2 gv3 gv4 gv5 gv6 gv7)) table0 table1 gv2 gv3 gv4 gv5 gv6 gv7 i12 inverse13 j14
  rw [spec_l04Is_sh.k3_mix] at h
  exact h

theorem spec_l04Is_sh.a3_0_gen {ρ : Type} (N : Nat) (K : AV → Heap → Option ρ) (L2 : St → Option ρ) (kv : XE → St → Option ρ) (table0 : Nat) (table1 : Nat) (gv2 : Nat) (gv3 : Nat) (gv4 : Nat → Nat) (gv5 : Nat → Nat) (gv6 : Nat → Nat) (gv7 : Nat → Int) (i12 : Int) (ov18 : Bool) :
    (spec_l04Is_sh.k3g N L2 (mixK (spec_l04Is_sh.fin N K gv2 gv3 gv4 gv5 gv6 gv7 .ret) kv)) (.exit 6) (spec_l04Is_sh.sx3_0 table0 table1 gv2 gv3 gv4 gv5 gv6 gv7 i12 ov18) = (spec_l04Is_sh.a3_0 N (fun d0 => K (.bool (d0)) [⟨false, .hdr 1 gv2 gv3 gv4 gv5 (some gv6)⟩, ⟨false, .flat 0 (.ints .i64 gv7)⟩]) (fun i12 => L2 (spec_l04Is_sh.st2 table0 table1 gv2 gv3 gv4 gv5 gv6 gv7 i12)) (kv (.exit 4) (spec_l04Is_sh.sx2_0 gv2 gv3 gv4 gv5 gv6 gv7)) table0 gv4 gv5 gv7 i12 ov18) := by kernel_rfl

theorem spec_l04Is_sh.a3_0_eq {ρ : Type} (N : Nat) (K : AV → Heap → Option ρ) (L2 : St → Option ρ) (table0 : Nat) (table1 : Nat) (gv2 : Nat) (gv3 : Nat) (gv4 : Nat → Nat) (gv5 : Nat → Nat) (gv6 : Nat → Nat) (gv7 : Nat → Int) (i12 : Int) (ov18 : Bool) :
    (spec_l04Is_sh.k3g N L2 (spec_l04Is_sh.k2 N K gv2 gv3 gv4 gv5 gv6 gv7)) (.exit 6) (spec_l04Is_sh.sx3_0 table0 table1 gv2 gv3 gv4 gv5 gv6 gv7 i12 ov18) = (spec_l04Is_sh.a3_0 N (fun d0 => K (.bool (d0)) [⟨false, .hdr 1 gv2 gv3 gv4 gv5 (some gv6)⟩, ⟨false, .flat 0 (.ints .i64 gv7)⟩]) (fun i12 => L2 (spec_l04Is_sh.st2 table0 table1 gv2 gv3 gv4 gv5 gv6 gv7 i12)) ((spec_l04Is_sh.k2 N K gv2 gv3 gv4 gv5 gv6 gv7) (.exit 4) (spec_l04Is_sh.sx2_0 gv2 gv3 gv4 gv5 gv6 gv7)) table0 gv4 gv5 gv7 i12 ov18) := by
  have h := spec_l04Is_sh.a3_0_gen N K L2 (spec_l04Is_sh.k2 N K gv2 gv3 gv4 gv5 gv6 gv7) table0 table1 gv2 gv3 gv4 gv5 gv6 gv7 i12 ov18
  rw [spec_l04Is_sh.k2_mix] at h
  exact h

theorem spec_l04Is_sh.b2_gen {ρ : Type} (N : Nat) (K : AV → Heap → Option ρ) (L2 : St → Option ρ) (kv : XE → St → Option ρ) (table0 : Nat) (table1 : Nat) (gv2 : Nat) (gv3 : Nat) (gv4 : Nat → Nat) (gv5 : Nat → Nat) (gv6 : Nat → Nat) (gv7 : Nat → Int) (i12 : Int) :
    xcode (E7 N) ents spec_l04Is_sh.kp 2 N (cL (cK (cB (cA (cB (cB (cB (cB spec_l04Is_sh.bd)))))))) 4 (spec_l04Is_sh.st2 table0 table1 gv2 gv3 gv4 gv5 gv6 gv7 i12) (roundK spec_l04Is_sh.kp 2 4 L2 (mixK (spec_l04Is_sh.fin N K gv2 gv3 gv4 gv5 gv6 gv7 .ret) kv)) = (spec_l04Is_sh.b2 N (fun d0 => K (.bool (d0)) [⟨false, .hdr 1 gv2 gv3 gv4 gv5 (some gv6)⟩, ⟨false, .flat 0 (.ints .i64 gv7)⟩]) (fun inverse13 j14 => xloop (xcode (E7 N) ents spec_l04Is_sh.kp 2 N (cL (cK (cB (cA (cB (cK (cA (cB (cL (cK (cB (cA (cB (cB (cB (cB spec_l04Is_sh.bd)))))))))))))))) 6) spec_l04Is_sh.kp 2 6 N (spec_l04Is_sh.st3 table0 table1 gv2 gv3 gv4 gv5 gv6 gv7 i12 inverse13 j14) (spec_l04Is_sh.k3g N L2 (mixK (spec_l04Is_sh.fin N K gv2 gv3 gv4 gv5 gv6 gv7 .ret) kv))) (fun i12 => L2 (spec_l04Is_sh.st2 table0 table1 gv2 gv3 gv4 gv5 gv6 gv7 i12)) (kv (.exit 4) (spec_l04Is_sh.sx2_0 gv2 gv3 gv4 gv5 gv6 gv7)) table0 i12) := by kernel_rfl

theorem spec_l04Is_sh.b2_eq {ρ : Type} (N : Nat) (K : AV → Heap → Option ρ) (L2 : St → Option ρ) (table0 : Nat) (table1 : Nat) (gv2 : Nat) (gv3 : Nat) (gv4 : Nat → Nat) (gv5 : Nat → Nat) (gv6 : Nat → Nat) (gv7 : Nat → Int) (i12 : Int) :
    xcode (E7 N) ents spec_l04Is_sh.kp 2 N (cL (cK (cB (cA (cB (cB (cB (cB spec_l04Is_sh.bd)))))))) 4 (spec_l04Is_sh.st2 table0 table1 gv2 gv3 gv4 gv5 gv6 gv7 i12) (roundK spec_l04Is_sh.kp 2 4 L2 (spec_l04Is_sh.k2 N K gv2 gv3 gv4 gv5 gv6 gv7)) = (spec_l04Is_sh.b2 N (fun d0 => K (.bool (d0)) [⟨false, .hdr 1 gv2 gv3 gv4 gv5 (some gv6)⟩, ⟨false, .flat 0 (.ints .i64 gv7)⟩]) (fun inverse13 j14 => xloop (xcode (E7 N) ents spec_l04Is_sh.kp 2 N (cL (cK (cB (cA (cB (cK (cA (cB (cL (cK (cB (cA (cB (cB (cB (cB spec_l04Is_sh.bd)))))))))))))))) 6) spec_l04Is_sh.kp 2 6 N (spec_l04Is_sh.st3 table0 table1 gv2 gv3 gv4 gv5 gv6 gv7 i12 inverse13 j14) (spec_l04Is_sh.k3g N L2 (spec_l04Is_sh.k2 N K gv2 gv3 gv4 gv5 gv6 gv7))) (fun i12 => L2 (spec_l04Is_sh.st2 table0 table1 gv2 gv3 gv4 gv5 gv6 gv7 i12)) ((spec_l04Is_sh.k2 N K gv2 gv3 gv4 gv5 gv6 gv7) (.exit 4) (spec_l04Is_sh.sx2_0 gv2 gv3 gv4 gv5 gv6 gv7)) table0 i12) := by
  have h := spec_l04Is_sh.b2_gen N K L2 (spec_l04Is_sh.k2 N K gv2 gv3 gv4 gv5 gv6 gv7) table0 table1 gv2 gv3 gv4 gv5 gv6 gv7 i12
  rw [spec_l04Is_sh.k2_mix] at h
  exact h

theorem spec_l04Is_sh.a2_0_eq {ρ : Type} (N : Nat) (K : AV → Heap → Option ρ) (gv2 : Nat) (gv3 : Nat) (gv4 : Nat → Nat) (gv5 : Nat → Nat) (gv6 : Nat → Nat) (gv7 : Nat → Int) :
    (spec_l04Is_sh.k2 N K gv2 gv3 gv4 gv5 gv6 gv7) (.exit 4) (spec_l04Is_sh.sx2_0 gv2 gv3 gv4 gv5 gv6 gv7) = (spec_l04Is_sh.a2_0 N (fun d0 => K (.bool (d0)) [⟨false, .hdr 1 gv2 gv3 gv4 gv5 (some gv6)⟩, ⟨false, .flat 0 (.ints .i64 gv7)⟩])) := by kernel_rfl

theorem spec_l04Is_sh.b0_gen {ρ : Type} (N : Nat) (K : AV → Heap → Option ρ) (L0 : St → Option ρ) (kv : XE → St → Option ρ) (table0 : Nat) (table1 : Nat) (gv2 : Nat) (gv3 : Nat) (gv4 : Nat → Nat) (gv5 : Nat → Nat) (gv6 : Nat → Nat) (gv7 : Nat → Int) (i9 : Int) :
    xcode (E7 N) ents spec_l04Is_sh.kp 2 N (cL (cK (cB (cA (cB (cB (cB spec_l04Is_sh.bd))))))) 0 (spec_l04Is_sh.st0 table0 table1 gv2 gv3 gv4 gv5 gv6 gv7 i9) (roundK spec_l04Is_sh.kp 2 0 L0 (mixK (spec_l04Is_sh.fin N K gv2 gv3 gv4 gv5 gv6 gv7 .ret) kv)) = (spec_l04Is_sh.b0 N (fun d0 => K (.bool (d0)) [⟨false, .hdr 1 gv2 gv3 gv4 gv5 (some gv6)⟩, ⟨false, .flat 0 (.ints .i64 gv7)⟩]) (fun j10 => xloop (xcode (E7 N) ents spec_l04Is_sh.kp 2 N (cL (cK (cB (cB (cK (cA (cB (cL (cK (cB (cA (cB (cB (cB spec_l04Is_sh.bd)))))))))))))) 2) spec_l04Is_sh.kp 2 2 N (spec_l04Is_sh.st1 table0 table1 gv2 gv3 gv4 gv5 gv6 gv7 i9 j10) (spec_l04Is_sh.k1g N L0 (mixK (spec_l04Is_sh.fin N K gv2 gv3 gv4 gv5 gv6 gv7 .ret) kv))) (fun i9 => L0 (spec_l04Is_sh.st0 table0 table1 gv2 gv3 gv4 gv5 gv6 gv7 i9)) (kv (.exit 0) (spec_l04Is_sh.sx0_0 table0 table1 gv2 gv3 gv4 gv5 gv6 gv7)) table0 gv5 i9) := by kernel_rfl

theorem spec_l04Is_sh.b0_eq {ρ : Type} (N : Nat) (K : AV → Heap → Option ρ) (L0 : St → Option ρ) (table0 : Nat) (table1 : Nat) (gv2 : Nat) (gv3 : Nat) (gv4 : Nat → Nat) (gv5 : Nat → Nat) (gv6 : Nat → Nat) (gv7 : Nat → Int) (i9 : Int) :
    xcode (E7 N) ents spec_l04Is_sh.kp 2 N (cL (cK (cB (cA (cB (cB (cB spec_l04Is_sh.bd))))))) 0 (spec_l04Is_sh.st0 table0 table1 gv2 gv3 gv4 gv5 gv6 gv7 i9) (roundK spec_l04Is_sh.kp 2 0 L0 (spec_l04Is_sh.k0 N K gv2 gv3 gv4 gv5 gv6 gv7)) = (spec_l04Is_sh.b0 N (fun d0 => K (.bool (d0)) [⟨false, .hdr 1 gv2 gv3 gv4 gv5 (some gv6)⟩, ⟨false, .flat 0 (.ints .i64 gv7)⟩]) (fun j10 => xloop (xcode (E7 N) ents spec_l04Is_sh.kp 2 N (cL (cK (cB (cB (cK (cA (cB (cL (cK (cB (cA (cB (cB (cB spec_l04Is_sh.bd)))))))))))))) 2) spec_l04Is_sh.kp 2 2 N (spec_l04Is_sh.st1 table0 table1 gv2 gv3 gv4 gv5 gv6 gv7 i9 j10) (spec_l04Is_sh.k1g N L0 (spec_l04Is_sh.k0 N K gv2 gv3 gv4 gv5 gv6 gv7))) (fun i9 => L0 (spec_l04Is_sh.st0 table0 table1 gv2 gv3 gv4 gv5 gv6 gv7 i9)) ((spec_l04Is_sh.k0 N K gv2 gv3 gv4 gv5 gv6 gv7) (.exit 0) (spec_l04Is_sh.sx0_0 table0 table1 gv2 gv3 gv4 gv5 gv6 gv7)) table0 gv5 i9) := by
  have h := spec_l04Is_sh.b0_gen N K L0 (spec_l04Is_sh.k0 N K gv2 gv3 gv4 gv5 gv6 gv7) table0 table1 gv2 gv3 gv4 gv5 gv6 gv7 i9
  rw [spec_l04Is_sh.k0_mix] at h
  exact h

theorem spec_l04Is_sh.a0_0_eq {ρ : Type} (N : Nat) (K : AV → Heap → Option ρ) (table0 : Nat) (table1 : Nat) (gv2 : Nat) (gv3 : Nat) (gv4 : Nat → Nat) (gv5 : Nat → Nat) (gv6 : Nat → Nat) (gv7 : Nat → Int) :
    (spec_l04Is_sh.k0 N K gv2 gv3 gv4 gv5 gv6 gv7) (.exit 0) (spec_l04Is_sh.sx0_0 table0 table1 gv2 gv3 gv4 gv5 gv6 gv7) = (spec_l04Is_sh.a0_0 N (fun d0 => K (.bool (d0)) [⟨false, .hdr 1 gv2 gv3 gv4 gv5 (some gv6)⟩, ⟨false, .flat 0 (.ints .i64 gv7)⟩]) (fun i12 => xloop (xcode (E7 N) ents spec_l04Is_sh.kp 2 N (cL (cK (cB (cA (cB (cB (cB (cB spec_l04Is_sh.bd)))))))) 4) spec_l04Is_sh.kp 2 4 N (spec_l04Is_sh.st2 table0 table1 gv2 gv3 gv4 gv5 gv6 gv7 i12) (spec_l04Is_sh.k2 N K gv2 gv3 gv4 gv5 gv6 gv7))) := by kernel_rfl

theorem spec_l04Is_sh.l1_eq {ρ : Type} (N : Nat) (K : AV → Heap → Option ρ) (L0 : St → Option ρ) (table0 : Nat) (table1 : Nat) (gv2 : Nat) (gv3 : Nat) (gv4 : Nat → Nat) (gv5 : Nat → Nat) (gv6 : Nat → Nat) (gv7 : Nat → Int) (i9 : Int) :
    ∀ (m : Nat) (j10 : Int), xloop (xcode (E7 N) ents spec_l04Is_sh.kp 2 N (cL (cK (cB (cB (cK (cA (cB (cL (cK (cB (cA (cB (cB (cB spec_l04Is_sh.bd)))))))))))))) 2) spec_l04Is_sh.kp 2 2 m (spec_l04Is_sh.st1 table0 table1 gv2 gv3 gv4 gv5 gv6 gv7 i9 j10) (spec_l04Is_sh.k1g N L0 (spec_l04Is_sh.k0 N K gv2 gv3 gv4 gv5 gv6 gv7)) = (spec_l04Is_sh.l1 N (fun d0 => K (.bool (d0)) [⟨false, .hdr 1 gv2 gv3 gv4 gv5 (some gv6)⟩, ⟨false, .flat 0 (.ints .i64 gv7)⟩]) table0 gv4 gv5 gv7 i9 ((spec_l04Is_sh.k1g N L0 (spec_l04Is_sh.k0 N K gv2 gv3 gv4 gv5 gv6 gv7)) (.exit 2) (spec_l04Is_sh.sx1_0 table0 table1 gv2 gv3 gv4 gv5 gv6 gv7 i9)) m j10) := by
  intro m
  induction m with
  | zero => intros; rfl
  | succ m ih =>
    intro j10
    refine (spec_l04Is_sh.b1_eq N K L0 (fun s => xloop (xcode (E7 N) ents spec_l04Is_sh.kp 2 N (cL (cK (cB (cB (cK (cA (cB (cL (cK (cB (cA (cB (cB (cB spec_l04Is_sh.bd)))))))))))))) 2) spec_l04Is_sh.kp 2 2 m s (spec_l04Is_sh.k1g N L0 (spec_l04Is_sh.k0 N K gv2 gv3 gv4 gv5 gv6 gv7))) table0 table1 gv2 gv3 gv4 gv5 gv6 gv7 i9 j10).trans ?_
    simp only [ih]
    kernel_rfl

theorem spec_l04Is_sh.l4_eq {ρ : Type} (N : Nat) (K : AV → Heap → Option ρ) (L2 : St → Option ρ) (L3 : St → Option ρ) (table0 : Nat) (table1 : Nat) (gv2 : Nat) (gv3 : Nat) (gv4 : Nat → Nat) (gv5 : Nat → Nat) (gv6 : Nat → Nat) (gv7 : Nat → Int) (i12 : Int) (j14 : Int) :
    ∀ (m : Nat) (k15 : Int), xloop (xcode (E7 N) ents spec_l04Is_sh.kp 2 N (cL (cK (cB (cB (cK (cA (cB (cL (cK (cB (cA (cB (cK (cA (cB (cL (cK (cB (cA (cB (cB (cB (cB spec_l04Is_sh.bd))))))))))))))))))))))) 8) spec_l04Is_sh.kp 2 8 m (spec_l04Is_sh.st4 table0 table1 gv2 gv3 gv4 gv5 gv6 gv7 i12 j14 k15) (spec_l04Is_sh.k4g N L3 (spec_l04Is_sh.k3g N L2 (spec_l04Is_sh.k2 N K gv2 gv3 gv4 gv5 gv6 gv7))) = (spec_l04Is_sh.l4 N (fun d0 => K (.bool (d0)) [⟨false, .hdr 1 gv2 gv3 gv4 gv5 (some gv6)⟩, ⟨false, .flat 0 (.ints .i64 gv7)⟩]) table0 gv4 gv5 gv7 i12 j14 ((spec_l04Is_sh.k4g N L3 (spec_l04Is_sh.k3g N L2 (spec_l04Is_sh.k2 N K gv2 gv3 gv4 gv5 gv6 gv7))) (.exit 8) (spec_l04Is_sh.sx4_0 table0 table1 gv2 gv3 gv4 gv5 gv6 gv7 i12 j14)) m k15) := by
  intro m
  induction m with
  | zero => intros; rfl
  | succ m ih =>
    intro k15
    refine (spec_l04Is_sh.b4_eq N K L2 L3 (fun s => xloop (xcode (E7 N) ents spec_l04Is_sh.kp 2 N (cL (cK (cB (cB (cK (cA (cB (cL (cK (cB (cA (cB (cK (cA (cB (cL (cK (cB (cA (cB (cB (cB (cB spec_l04Is_sh.bd))))))))))))))))))))))) 8) spec_l04Is_sh.kp 2 8 m s (spec_l04Is_sh.k4g N L3 (spec_l04Is_sh.k3g N L2 (spec_l04Is_sh.k2 N K gv2 gv3 gv4 gv5 gv6 gv7)))) table0 table1 gv2 gv3 gv4 gv5 gv6 gv7 i12 j14 k15).trans ?_
    simp only [ih]
    kernel_rfl

theorem spec_l04Is_sh.l5_eq {ρ : Type} (N : Nat) (K : AV → Heap → Option ρ) (L2 : St → Option ρ) (L3 : St → Option ρ) (table0 : Nat) (table1 : Nat) (gv2 : Nat) (gv3 : Nat) (gv4 : Nat → Nat) (gv5 : Nat → Nat) (gv6 : Nat → Nat) (gv7 : Nat → Int) (i12 : Int) (j14 : Int) :
    ∀ (m : Nat) (k16 : Int), xloop (xcode (E7 N) ents spec_l04Is_sh.kp 2 N (cL (cK (cB (cB (cK (cA (cB (cL (cK (cB (cA (cB (cK (cA (cB (cL (cK (cB (cA (cB (cB (cB (cB spec_l04Is_sh.bd))))))))))))))))))))))) 8) spec_l04Is_sh.kp 2 8 m (spec_l04Is_sh.st5 table0 table1 gv2 gv3 gv4 gv5 gv6 gv7 i12 j14 k16) (spec_l04Is_sh.k5g N L3 (spec_l04Is_sh.k3g N L2 (spec_l04Is_sh.k2 N K gv2 gv3 gv4 gv5 gv6 gv7))) = (spec_l04Is_sh.l5 N (fun d0 => K (.bool (d0)) [⟨false, .hdr 1 gv2 gv3 gv4 gv5 (some gv6)⟩, ⟨false, .flat 0 (.ints .i64 gv7)⟩]) table0 gv4 gv5 gv7 i12 j14 ((spec_l04Is_sh.k5g N L3 (spec_l04Is_sh.k3g N L2 (spec_l04Is_sh.k2 N K gv2 gv3 gv4 gv5 gv6 gv7))) (.exit 8) (spec_l04Is_sh.sx5_0 table0 table1 gv2 gv3 gv4 gv5 gv6 gv7 i12 j14)) m k16) := by
  intro m
  induction m with
  | zero => intros; rfl
  | succ m ih =>
    intro k16
    refine (spec_l04Is_sh.b5_eq N K L2 L3 (fun s => xloop (xcode (E7 N) ents spec_l04Is_sh.kp 2 N (cL (cK (cB (cB (cK (cA (cB (cL (cK (cB (cA (cB (cK (cA (cB (cL (cK (cB (cA (cB (cB (cB (cB spec_l04Is_sh.bd))))))))))))))))))))))) 8) spec_l04Is_sh.kp 2 8 m s (spec_l04Is_sh.k5g N L3 (spec_l04Is_sh.k3g N L2 (spec_l04Is_sh.k2 N K gv2 gv3 gv4 gv5 gv6 gv7)))) table0 table1 gv2 gv3 gv4 gv5 gv6 gv7 i12 j14 k16).trans ?_
    simp only [ih]
    kernel_rfl

theorem spec_l04Is_sh.l6_eq {ρ : Type} (N : Nat) (K : AV → Heap → Option ρ) (L2 : St → Option ρ) (L3 : St → Option ρ) (table0 : Nat) (table1 : Nat) (gv2 : Nat) (gv3 : Nat) (gv4 : Nat → Nat) (gv5 : Nat → Nat) (gv6 : Nat → Nat) (gv7 : Nat → Int) (i12 : Int) (j14 : Int) :
    ∀ (m : Nat) (k17 : Int), xloop (xcode (E7 N) ents spec_l04Is_sh.kp 2 N (cL (cK (cB (cB (cK (cA (cB (cL (cK (cB (cA (cB (cK (cA (cB (cL (cK (cB (cA (cB (cB (cB (cB spec_l04Is_sh.bd))))))))))))))))))))))) 8) spec_l04Is_sh.kp 2 8 m (spec_l04Is_sh.st6 table0 table1 gv2 gv3 gv4 gv5 gv6 gv7 i12 j14 k17) (spec_l04Is_sh.k6g N L3 (spec_l04Is_sh.k3g N L2 (spec_l04Is_sh.k2 N K gv2 gv3 gv4 gv5 gv6 gv7))) = (spec_l04Is_sh.l6 N (fun d0 => K (.bool (d0)) [⟨false, .hdr 1 gv2 gv3 gv4 gv5 (some gv6)⟩, ⟨false, .flat 0 (.ints .i64 gv7)⟩]) table0 gv4 gv5 gv7 i12 j14 ((spec_l04Is_sh.k6g N L3 (spec_l04Is_sh.k3g N L2 (spec_l04Is_sh.k2 N K gv2 gv3 gv4 gv5 gv6 gv7))) (.exit 8) (spec_l04Is_sh.sx6_0 table0 table1 gv2 gv3 gv4 gv5 gv6 gv7 i12 j14)) m k17) := by
  intro m
  induction m with
  | zero => intros; rfl
  | succ m ih =>
    intro k17
    refine (spec_l04Is_sh.b6_eq N K L2 L3 (fun s => xloop (xcode (E7 N) ents spec_l04Is_sh.kp 2 N (cL (cK (cB (cB (cK (cA (cB (cL (cK (cB (cA (cB (cK (cA (cB (cL (cK (cB (cA (cB (cB (cB (cB spec_l04Is_sh.bd))))))))))))))))))))))) 8) spec_l04Is_sh.kp 2 8 m s (spec_l04Is_sh.k6g N L3 (spec_l04Is_sh.k3g N L2 (spec_l04Is_sh.k2 N K gv2 gv3 gv4 gv5 gv6 gv7)))) table0 table1 gv2 gv3 gv4 gv5 gv6 gv7 i12 j14 k17).trans ?_
    simp only [ih]
    kernel_rfl

theorem spec_l04Is_sh.l3_eq {ρ : Type} (N : Nat) (K : AV → Heap → Option ρ) (L2 : St → Option ρ) (table0 : Nat) (table1 : Nat) (gv2 : Nat) (gv3 : Nat) (gv4 : Nat → Nat) (gv5 : Nat → Nat) (gv6 : Nat → Nat) (gv7 : Nat → Int) (i12 : Int) :
    ∀ (m : Nat) (inverse13 : Bool) (j14 : Int), xloop (xcode (E7 N) ents spec_l04Is_sh.kp 2 N (cL (cK (cB (cA (cB (cK (cA (cB (cL (cK (cB (cA (cB (cB (cB (cB spec_l04Is_sh.bd)))))))))))))))) 6) spec_l04Is_sh.kp 2 6 m (spec_l04Is_sh.st3 table0 table1 gv2 gv3 gv4 gv5 gv6 gv7 i12 inverse13 j14) (spec_l04Is_sh.k3g N L2 (spec_l04Is_sh.k2 N K gv2 gv3 gv4 gv5 gv6 gv7)) = (spec_l04Is_sh.l3 N (fun d0 => K (.bool (d0)) [⟨false, .hdr 1 gv2 gv3 gv4 gv5 (some gv6)⟩, ⟨false, .flat 0 (.ints .i64 gv7)⟩]) table0 gv4 gv5 gv7 i12 (fun ov18 => (spec_l04Is_sh.k3g N L2 (spec_l04Is_sh.k2 N K gv2 gv3 gv4 gv5 gv6 gv7)) (.exit 6) (spec_l04Is_sh.sx3_0 table0 table1 gv2 gv3 gv4 gv5 gv6 gv7 i12 ov18)) m inverse13 j14) := by
  intro m
  induction m with
  | zero => intros; rfl
  | succ m ih =>
    intro inverse13 j14
    refine (spec_l04Is_sh.b3_eq N K L2 (fun s => xloop (xcode (E7 N) ents spec_l04Is_sh.kp 2 N (cL (cK (cB (cA (cB (cK (cA (cB (cL (cK (cB (cA (cB (cB (cB (cB spec_l04Is_sh.bd)))))))))))))))) 6) spec_l04Is_sh.kp 2 6 m s (spec_l04Is_sh.k3g N L2 (spec_l04Is_sh.k2 N K gv2 gv3 gv4 gv5 gv6 gv7))) table0 table1 gv2 gv3 gv4 gv5 gv6 gv7 i12 inverse13 j14).trans ?_
    simp only [ih, spec_l04Is_sh.l4_eq, spec_l04Is_sh.a4_0_eq, spec_l04Is_sh.l5_eq, spec_l04Is_sh.a5_0_eq, spec_l04Is_sh.l6_eq, spec_l04Is_sh.a6_0_eq]
    kernel_rfl

theorem spec_l04Is_sh.l2_eq {ρ : Type} (N : Nat) (K : AV → Heap → Option ρ) (table0 : Nat) (table1 : Nat) (gv2 : Nat) (gv3 : Nat) (gv4 : Nat → Nat) (gv5 : Nat → Nat) (gv6 : Nat → Nat) (gv7 : Nat → Int) :
    ∀ (m : Nat) (i12 : Int), xloop (xcode (E7 N) ents spec_l04Is_sh.kp 2 N (cL (cK (cB (cA (cB (cB (cB (cB spec_l04Is_sh.bd)))))))) 4) spec_l04Is_sh.kp 2 4 m (spec_l04Is_sh.st2 table0 table1 gv2 gv3 gv4 gv5 gv6 gv7 i12) (spec_l04Is_sh.k2 N K gv2 gv3 gv4 gv5 gv6 gv7) = (spec_l04Is_sh.l2 N (fun d0 => K (.bool (d0)) [⟨false, .hdr 1 gv2 gv3 gv4 gv5 (some gv6)⟩, ⟨false, .flat 0 (.ints .i64 gv7)⟩]) table0 gv4 gv5 gv7 ((spec_l04Is_sh.k2 N K gv2 gv3 gv4 gv5 gv6 gv7) (.exit 4) (spec_l04Is_sh.sx2_0 gv2 gv3 gv4 gv5 gv6 gv7)) m i12) := by
  intro m
  induction m with
  | zero => intros; rfl
  | succ m ih =>
    intro i12
    refine (spec_l04Is_sh.b2_eq N K (fun s => xloop (xcode (E7 N) ents spec_l04Is_sh.kp 2 N (cL (cK (cB (cA (cB (cB (cB (cB spec_l04Is_sh.bd)))))))) 4) spec_l04Is_sh.kp 2 4 m s (spec_l04Is_sh.k2 N K gv2 gv3 gv4 gv5 gv6 gv7)) table0 table1 gv2 gv3 gv4 gv5 gv6 gv7 i12).trans ?_
    simp only [ih, spec_l04Is_sh.l3_eq, spec_l04Is_sh.a3_0_eq]
    kernel_rfl

theorem spec_l04Is_sh.l0_eq {ρ : Type} (N : Nat) (K : AV → Heap → Option ρ) (table0 : Nat) (table1 : Nat) (gv2 : Nat) (gv3 : Nat) (gv4 : Nat → Nat) (gv5 : Nat → Nat) (gv6 : Nat → Nat) (gv7 : Nat → Int) :
    ∀ (m : Nat) (i9 : Int), xloop (xcode (E7 N) ents spec_l04Is_sh.kp 2 N (cL (cK (cB (cA (cB (cB (cB spec_l04Is_sh.bd))))))) 0) spec_l04Is_sh.kp 2 0 m (spec_l04Is_sh.st0 table0 table1 gv2 gv3 gv4 gv5 gv6 gv7 i9) (spec_l04Is_sh.k0 N K gv2 gv3 gv4 gv5 gv6 gv7) = (spec_l04Is_sh.l0 N (fun d0 => K (.bool (d0)) [⟨false, .hdr 1 gv2 gv3 gv4 gv5 (some gv6)⟩, ⟨false, .flat 0 (.ints .i64 gv7)⟩]) table0 gv4 gv5 gv7 ((spec_l04Is_sh.k0 N K gv2 gv3 gv4 gv5 gv6 gv7) (.exit 0) (spec_l04Is_sh.sx0_0 table0 table1 gv2 gv3 gv4 gv5 gv6 gv7)) m i9) := by
  intro m
  induction m with
  | zero => intros; rfl
  | succ m ih =>
    intro i9
    refine (spec_l04Is_sh.b0_eq N K (fun s => xloop (xcode (E7 N) ents spec_l04Is_sh.kp 2 N (cL (cK (cB (cA (cB (cB (cB spec_l04Is_sh.bd))))))) 0) spec_l04Is_sh.kp 2 0 m s (spec_l04Is_sh.k0 N K gv2 gv3 gv4 gv5 gv6 gv7)) table0 table1 gv2 gv3 gv4 gv5 gv6 gv7 i9).trans ?_
    simp only [ih, spec_l04Is_sh.l1_eq, spec_l04Is_sh.a1_0_eq]
    kernel_rfl

theorem spec_l04Is_sh.s_eq {ρ : Type} (N : Nat) (K : AV → Heap → Option ρ) (table0 : Nat) (table1 : Nat) (gv2 : Nat) (gv3 : Nat) (gv4 : Nat → Nat) (gv5 : Nat → Nat) (gv6 : Nat → Nat) (gv7 : Nat → Int) :
    xbody (E7 N) ents spec_l04Is_sh.kp N Go.Proofs.Try.f24 spec_l04Is_sh.bd [.slice true 0 0 table0 (.exact table1) 1] [⟨false, .hdr 1 gv2 gv3 gv4 gv5 (some gv6)⟩, ⟨false, .flat 0 (.ints .i64 gv7)⟩] K = (spec_l04Is_sh.s N (fun d0 => K (.bool (d0)) [⟨false, .hdr 1 gv2 gv3 gv4 gv5 (some gv6)⟩, ⟨false, .flat 0 (.ints .i64 gv7)⟩]) (fun i9 => xloop (xcode (E7 N) ents spec_l04Is_sh.kp 2 N (cL (cK (cB (cA (cB (cB (cB spec_l04Is_sh.bd))))))) 0) spec_l04Is_sh.kp 2 0 N (spec_l04Is_sh.st0 table0 table1 gv2 gv3 gv4 gv5 gv6 gv7 i9) (spec_l04Is_sh.k0 N K gv2 gv3 gv4 gv5 gv6 gv7)) table0) := by kernel_rfl

theorem spec_l04Is_sh.eq {ρ : Type} (N : Nat) (K : AV → Heap → Option ρ) (table0 : Nat) (table1 : Nat) (gv2 : Nat) (gv3 : Nat) (gv4 : Nat → Nat) (gv5 : Nat → Nat) (gv6 : Nat → Nat) (gv7 : Nat → Int) :
    xbody (E7 N) ents spec_l04Is_sh.kp N Go.Proofs.Try.f24 spec_l04Is_sh.bd [.slice true 0 0 table0 (.exact table1) 1] [⟨false, .hdr 1 gv2 gv3 gv4 gv5 (some gv6)⟩, ⟨false, .flat 0 (.ints .i64 gv7)⟩] K = (spec_l04Is_sh N (fun d0 => K (.bool (d0)) [⟨false, .hdr 1 gv2 gv3 gv4 gv5 (some gv6)⟩, ⟨false, .flat 0 (.ints .i64 gv7)⟩]) table0 table1 gv2 gv3 gv4 gv5 gv6 gv7) := by
  refine (spec_l04Is_sh.s_eq N K table0 table1 gv2 gv3 gv4 gv5 gv6 gv7).trans ?_
  simp only [spec_l04Is_sh.l0_eq, spec_l04Is_sh.a0_0_eq, spec_l04Is_sh.l2_eq, spec_l04Is_sh.a2_0_eq]
  kernel_rfl

noncomputable def spec_l04Is_sh.en (N : Nat) (ρ : Type) : List AV → Heap → (AV → Heap → Option ρ) → Option ρ
  | [.slice true 0 0 table0 (.exact table1) 1], [⟨false, .hdr 1 gv2 gv3 gv4 gv5 (some gv6)⟩, ⟨false, .flat 0 (.ints .i64 gv7)⟩], K => (spec_l04Is_sh N (fun d0 => K (.bool (d0)) [⟨false, .hdr 1 gv2 gv3 gv4 gv5 (some gv6)⟩, ⟨false, .flat 0 (.ints .i64 gv7)⟩]) table0 table1 gv2 gv3 gv4 gv5 gv6 gv7)
  | _, _, _ => none

theorem spec_l04Is_sh.en_ok (N : Nat) (hE : EnvOk (E7 N) ents) (ρ : Type) (args : List AV) (sh : Heap) (K : AV → Heap → Option ρ) (r : ρ) (h : spec_l04Is_sh.en N ρ args sh K = some r) : ∃ v sh', K v sh' = some r ∧ FnOk (E7 N).P 24 args sh v sh' := by
  unfold spec_l04Is_sh.en at h
  split at h
  · exact fn_ok hE (kp := spec_l04Is_sh.kp) (N := N) Go.Proofs.Try.func24 (c := spec_l04Is_sh.bd) (by kernel_rfl) ((spec_l04Is_sh.eq N _ _ _ _ _ _ _ _ _).trans h)
  · cases h

noncomputable def E8 (N : Nat) : Env := (E7 N).add 24 (spec_l04Is_sh.en N)

theorem E8_ok (N : Nat) : EnvOk (E8 N) ents := Env.add_ok (E7_ok N) (spec_l04Is_sh.en_ok N (E7_ok N))

noncomputable def spec_l04Code_sh.kp : Keeps := ⟨[], [], []⟩

noncomputable def spec_l04Code_sh.bd : Code := bodyOf Go.Proofs.Try.f11

noncomputable def spec_l04Code_sh.fin {ρ : Type} (N : Nat) (K : AV → Heap → Option ρ) (gv3 : Nat) (gv4 : Nat) (gv5 : Nat → Nat) (gv6 : Nat → Nat) (gv7 : Nat → Nat) (gv8 : Nat → Int) : XE → St → Option ρ := finK (E8 N) spec_l04Code_sh.kp.fins Go.Proofs.Try.f11 [⟨false, .hdr 1 gv3 gv4 gv5 gv6 (some gv7)⟩, ⟨false, .flat 0 (.ints .i64 gv8)⟩] K

theorem spec_l04Code_sh.eq {ρ : Type} (N : Nat) (K : AV → Heap → Option ρ) (p0 : Int) (table1 : Nat) (table2 : Nat) (gv3 : Nat) (gv4 : Nat) (gv5 : Nat → Nat) (gv6 : Nat → Nat) (gv7 : Nat → Nat) (gv8 : Nat → Int) :
    xbody (E8 N) ents spec_l04Code_sh.kp N Go.Proofs.Try.f11 spec_l04Code_sh.bd [.int .i64 (p0), .slice true 0 0 table1 (.exact table2) 1] [⟨false, .hdr 1 gv3 gv4 gv5 gv6 (some gv7)⟩, ⟨false, .flat 0 (.ints .i64 gv8)⟩] K = (spec_l04Code_sh N (fun d0 => K (.int .i64 (d0)) [⟨false, .hdr 1 gv3 gv4 gv5 gv6 (some gv7)⟩, ⟨false, .flat 0 (.ints .i64 gv8)⟩]) p0 table1 table2 gv3 gv4 gv5 gv6 gv7 gv8) := by kernel_rfl

noncomputable def spec_l04Code_sh.en (N : Nat) (ρ : Type) : List AV → Heap → (AV → Heap → Option ρ) → Option ρ
  | [.int .i64 (p0), .slice true 0 0 table1 (.exact table2) 1], [⟨false, .hdr 1 gv3 gv4 gv5 gv6 (some gv7)⟩, ⟨false, .flat 0 (.ints .i64 gv8)⟩], K => (spec_l04Code_sh N (fun d0 => K (.int .i64 (d0)) [⟨false, .hdr 1 gv3 gv4 gv5 gv6 (some gv7)⟩, ⟨false, .flat 0 (.ints .i64 gv8)⟩]) p0 table1 table2 gv3 gv4 gv5 gv6 gv7 gv8)
  | _, _, _ => none

theorem spec_l04Code_sh.en_ok (N : Nat) (hE : EnvOk (E8 N) ents) (ρ : Type) (args : List AV) (sh : Heap) (K : AV → Heap → Option ρ) (r : ρ) (h : spec_l04Code_sh.en N ρ args sh K = some r) : ∃ v sh', K v sh' = some r ∧ FnOk (E8 N).P 11 args sh v sh' := by
  unfold spec_l04Code_sh.en at h
  split at h
  · exact fn_ok hE (kp := spec_l04Code_sh.kp) (N := N) Go.Proofs.Try.func11 (c := spec_l04Code_sh.bd) (by kernel_rfl) ((spec_l04Code_sh.eq N _ _ _ _ _ _ _ _ _ _).trans h)
  · cases h

noncomputable def E9 (N : Nat) : Env := (E8 N).add 11 (spec_l04Code_sh.en N)

theorem E9_ok (N : Nat) : EnvOk (E9 N) ents := Env.add_ok (E8_ok N) (spec_l04Code_sh.en_ok N (E8_ok N))

noncomputable def spec_l04Group_sh.kp : Keeps := ⟨[(0, [1, 4, 5, 6, 7], [], []), (2, [1, 4, 5, 6, 7, 8], [], [])], [(0, [4, 6], [], []), (2, [1, 4, 5, 6, 7], [], [])], []⟩

noncomputable def spec_l04Group_sh.bd : Code := bodyOf Go.Proofs.Try.f13

noncomputable def spec_l04Group_sh.fin {ρ : Type} (N : Nat) (K : AV → Heap → Option ρ) (gv3 : Nat) (gv4 : Nat) (gv5 : Nat → Nat) (gv6 : Nat → Nat) (gv7 : Nat → Nat) (gv8 : Nat → Int) : XE → St → Option ρ := finK (E9 N) spec_l04Group_sh.kp.fins Go.Proofs.Try.f13 [⟨false, .hdr 1 gv3 gv4 gv5 gv6 (some gv7)⟩, ⟨false, .flat 0 (.ints .i64 gv8)⟩] K

noncomputable def spec_l04Group_sh.k0 {ρ : Type} (N : Nat) (K : AV → Heap → Option ρ) (gv3 : Nat) (gv4 : Nat) (gv5 : Nat → Nat) (gv6 : Nat → Nat) (gv7 : Nat → Nat) (gv8 : Nat → Int) : XE → St → Option ρ := (blockK spec_l04Group_sh.kp 2 0 (seqK (xcode (E9 N) ents spec_l04Group_sh.kp 2 N (cB (cB (cB (cB (cB spec_l04Group_sh.bd))))) 0) (spec_l04Group_sh.fin N K gv3 gv4 gv5 gv6 gv7 gv8)))

theorem spec_l04Group_sh.k0_mix {ρ : Type} (N : Nat) (K : AV → Heap → Option ρ) (gv3 : Nat) (gv4 : Nat) (gv5 : Nat → Nat) (gv6 : Nat → Nat) (gv7 : Nat → Nat) (gv8 : Nat → Int) : mixK (spec_l04Group_sh.fin N K gv3 gv4 gv5 gv6 gv7 gv8 .ret) (spec_l04Group_sh.k0 N K gv3 gv4 gv5 gv6 gv7 gv8) = (spec_l04Group_sh.k0 N K gv3 gv4 gv5 gv6 gv7 gv8) := by
  funext e s; cases e <;> kernel_rfl

noncomputable def spec_l04Group_sh.st0 (p0 : Int) (table1 : Nat) (table2 : Nat) (gv3 : Nat) (gv4 : Nat) (gv5 : Nat → Nat) (gv6 : Nat → Nat) (gv7 : Nat → Nat) (gv8 : Nat → Int) (i9 : Int) (gv10 : Nat → Int) : St := ⟨sl 63 [(1, .slice true 0 0 table1 (.exact table2) 1), (4, .sptr [(2, 2), (3, 1104)]), (5, .int .i64 ((table1 : Int))), (6, .sptr [(4, 2), (5, 1104)]), (7, .int .i64 (i9))], [⟨false, .hdr 1 gv3 gv4 gv5 gv6 (some gv7)⟩, ⟨false, .flat 0 (.ints .i64 gv8)⟩, ⟨true, .flat 2 (.ints .i64 (fun _ => 0))⟩, ⟨true, .flat 1104 (.ints .u8 (fun _ => 0))⟩, ⟨true, .flat 2 (.ints .i64 (upd (upd (fun _ => 0) 0 p0) 1 (table1 : Int)))⟩, ⟨true, .flat 1104 (.ints .u8 gv10)⟩]⟩

noncomputable def spec_l04Group_sh.sx0_0 (p0 : Int) (table1 : Nat) (gv3 : Nat) (gv4 : Nat) (gv5 : Nat → Nat) (gv6 : Nat → Nat) (gv7 : Nat → Nat) (gv8 : Nat → Int) (ov14 : Nat → Int) : St := ⟨sl 63 [(4, .sptr [(2, 2), (3, 1104)]), (6, .sptr [(4, 2), (5, 1104)])], [⟨false, .hdr 1 gv3 gv4 gv5 gv6 (some gv7)⟩, ⟨false, .flat 0 (.ints .i64 gv8)⟩, ⟨true, .flat 2 (.ints .i64 (fun _ => 0))⟩, ⟨true, .flat 1104 (.ints .u8 (fun _ => 0))⟩, ⟨true, .flat 2 (.ints .i64 (upd (upd (fun _ => 0) 0 p0) 1 (table1 : Int)))⟩, ⟨true, .flat 1104 (.ints .u8 ov14)⟩]⟩

noncomputable def spec_l04Group_sh.k1g {ρ : Type} (N : Nat) (L0 : St → Option ρ) (kv : XE → St → Option ρ) : XE → St → Option ρ := (blockK spec_l04Group_sh.kp 2 2 (blockK spec_l04Group_sh.kp 2 1 (seqK (xcode (E9 N) ents spec_l04Group_sh.kp 2 N (cB (cB (cL (cK (cB (cA (cB (cB (cB (cB spec_l04Group_sh.bd)))))))))) 0) (roundK spec_l04Group_sh.kp 2 0 L0 kv))))

theorem spec_l04Group_sh.k1_mix {ρ : Type} (N : Nat) (K : AV → Heap → Option ρ) (L0 : St → Option ρ) (gv3 : Nat) (gv4 : Nat) (gv5 : Nat → Nat) (gv6 : Nat → Nat) (gv7 : Nat → Nat) (gv8 : Nat → Int) : mixK (spec_l04Group_sh.fin N K gv3 gv4 gv5 gv6 gv7 gv8 .ret) (spec_l04Group_sh.k1g N L0 (spec_l04Group_sh.k0 N K gv3 gv4 gv5 gv6 gv7 gv8)) = (spec_l04Group_sh.k1g N L0 (spec_l04Group_sh.k0 N K gv3 gv4 gv5 gv6 gv7 gv8)) := by
  funext e s; cases e <;> kernel_rfl

noncomputable def spec_l04Group_sh.st1 (p0 : Int) (table1 : Nat) (table2 : Nat) (gv3 : Nat) (gv4 : Nat) (gv5 : Nat → Nat) (gv6 : Nat → Nat) (gv7 : Nat → Nat) (gv8 : Nat → Int) (i9 : Int) (j11 : Int) (gv12 : Nat → Int) : St := ⟨sl 63 [(1, .slice true 0 0 table1 (.exact table2) 1), (4, .sptr [(2, 2), (3, 1104)]), (5, .int .i64 ((table1 : Int))), (6, .sptr [(4, 2), (5, 1104)]), (7, .int .i64 (i9)), (8, .int .i64 (j11))], [⟨false, .hdr 1 gv3 gv4 gv5 gv6 (some gv7)⟩, ⟨false, .flat 0 (.ints .i64 gv8)⟩, ⟨true, .flat 2 (.ints .i64 (fun _ => 0))⟩, ⟨true, .flat 1104 (.ints .u8 (fun _ => 0))⟩, ⟨true, .flat 2 (.ints .i64 (upd (upd (fun _ => 0) 0 p0) 1 (table1 : Int)))⟩, ⟨true, .flat 1104 (.ints .u8 gv12)⟩]⟩

noncomputable def spec_l04Group_sh.sx1_0 (p0 : Int) (table1 : Nat) (table2 : Nat) (gv3 : Nat) (gv4 : Nat) (gv5 : Nat → Nat) (gv6 : Nat → Nat) (gv7 : Nat → Nat) (gv8 : Nat → Int) (i9 : Int) (ov13 : Nat → Int) : St := ⟨sl 63 [(1, .slice true 0 0 table1 (.exact table2) 1), (4, .sptr [(2, 2), (3, 1104)]), (5, .int .i64 ((table1 : Int))), (6, .sptr [(4, 2), (5, 1104)]), (7, .int .i64 (i9))], [⟨false, .hdr 1 gv3 gv4 gv5 gv6 (some gv7)⟩, ⟨false, .flat 0 (.ints .i64 gv8)⟩, ⟨true, .flat 2 (.ints .i64 (fun _ => 0))⟩, ⟨true, .flat 1104 (.ints .u8 (fun _ => 0))⟩, ⟨true, .flat 2 (.ints .i64 (upd (upd (fun _ => 0) 0 p0) 1 (table1 : Int)))⟩, ⟨true, .flat 1104 (.ints .u8 ov13)⟩]⟩

theorem spec_l04Group_sh.b1_gen {ρ : Type} (N : Nat) (K : AV → Heap → Option ρ) (L1 : St → Option ρ) (kv : XE → St → Option ρ) (p0 : Int) (table1 : Nat) (table2 : Nat) (gv3 : Nat) (gv4 : Nat) (gv5 : Nat → Nat) (gv6 : Nat → Nat) (gv7 : Nat → Nat) (gv8 : Nat → Int) (i9 : Int) (j11 : Int) (gv12 : Nat → Int) :
    xcode (E9 N) ents spec_l04Group_sh.kp 2 N (cL (cK (cB (cB (cB (cK (cA (cB (cL (cK (cB (cA (cB (cB (cB (cB spec_l04Group_sh.bd)))))))))))))))) 2 (spec_l04Group_sh.st1 p0 table1 table2 gv3 gv4 gv5 gv6 gv7 gv8 i9 j11 gv12) (roundK spec_l04Group_sh.kp 2 2 L1 (mixK (spec_l04Group_sh.fin N K gv3 gv4 gv5 gv6 gv7 gv8 .ret) kv)) = (spec_l04Group_sh.b1 N (fun d0 d1 => K (.agg [⟨.i64, 2, d0⟩, ⟨.u8, 1104, d1⟩]) [⟨false, .hdr 1 gv3 gv4 gv5 gv6 (some gv7)⟩, ⟨false, .flat 0 (.ints .i64 gv8)⟩]) (fun j11 gv12 => L1 (spec_l04Group_sh.st1 p0 table1 table2 gv3 gv4 gv5 gv6 gv7 gv8 i9 j11 gv12)) (fun ov13 => kv (.exit 2) (spec_l04Group_sh.sx1_0 p0 table1 table2 gv3 gv4 gv5 gv6 gv7 gv8 i9 ov13)) table1 gv5 gv6 gv8 i9 j11 gv12) := by kernel_rfl

theorem spec_l04Group_sh.b1_eq {ρ : Type} (N : Nat) (K : AV → Heap → Option ρ) (L0 : St → Option ρ) (L1 : St → Option ρ) (p0 : Int) (table1 : Nat) (table2 : Nat) (gv3 : Nat) (gv4 : Nat) (gv5 : Nat → Nat) (gv6 : Nat → Nat) (gv7 : Nat → Nat) (gv8 : Nat → Int) (i9 : Int) (j11 : Int) (gv12 : Nat → Int) :
    xcode (E9 N) ents spec_l04Group_sh.kp 2 N (cL (cK (cB (cB (cB (cK (cA (cB (cL (cK (cB (cA (cB (cB (cB (cB spec_l04Group_sh.bd)))))))))))))))) 2 (spec_l04Group_sh.st1 p0 table1 table2 gv3 gv4 gv5 gv6 gv7 gv8 i9 j11 gv12) (roundK spec_l04Group_sh.kp 2 2 L1 (spec_l04Group_sh.k1g N L0 (spec_l04Group_sh.k0 N K gv3 gv4 gv5 gv6 gv7 gv8))) = (spec_l04Group_sh.b1 N (fun d0 d1 => K (.agg [⟨.i64, 2, d0⟩, ⟨.u8, 1104, d1⟩]) [⟨false, .hdr 1 gv3 gv4 gv5 gv6 (some gv7)⟩, ⟨false, .flat 0 (.ints .i64 gv8)⟩]) (fun j11 gv12 => L1 (spec_l04Group_sh.st1 p0 table1 table2 gv3 gv4 gv5 gv6 gv7 gv8 i9 j11 gv12)) (fun ov13 => (spec_l04Group_sh.k1g N L0 (spec_l04Group_sh.k0 N K gv3 gv4 gv5 gv6 gv7 gv8)) (.exit 2) (spec_l04Group_sh.sx1_0 p0 table1 table2 gv3 gv4 gv5 gv6 gv7 gv8 i9 ov13)) table1 gv5 gv6 gv8 i9 j11 gv12) := by
  have h := spec_l04Group_sh.b1_gen N K L1 (spec_l04Group_sh.k1g N L0 (spec_l04Group_sh.k0 N K gv3 gv4 gv5 gv6 gv7 gv8)) p0 table1 table2 gv3 gv4 gv5 gv6 gv7 gv8 i9 j11 gv12
  rw [spec_l04Group_sh.k1_mix] at h
  exact h

theorem spec_l04Group_sh.a1_0_gen {ρ : Type} (N : Nat) (K : AV → Heap → Option ρ) (L0 : St → Option ρ) (kv : XE → St → Option ρ) (p0 : Int) (table1 : Nat) (table2 : Nat) (gv3 : Nat) (gv4 : Nat) (gv5 : Nat → Nat) (gv6 : Nat → Nat) (gv7 : Nat → Nat) (gv8 : Nat → Int) (i9 : Int) (ov13 : Nat → Int) :
    (spec_l04Group_sh.k1g N L0 (mixK (spec_l04Group_sh.fin N K gv3 gv4 gv5 gv6 gv7 gv8 .ret) kv)) (.exit 2) (spec_l04Group_sh.sx1_0 p0 table1 table2 gv3 gv4 gv5 gv6 gv7 gv8 i9 ov13) = (spec_l04Group_sh.a1_0 N (fun d0 d1 => K (.agg [⟨.i64, 2, d0⟩, ⟨.u8, 1104, d1⟩]) [⟨false, .hdr 1 gv3 gv4 gv5 gv6 (some gv7)⟩, ⟨false, .flat 0 (.ints .i64 gv8)⟩]) (fun i9 gv10 => L0 (spec_l04Group_sh.st0 p0 table1 table2 gv3 gv4 gv5 gv6 gv7 gv8 i9 gv10)) (fun ov14 => kv (.exit 0) (spec_l04Group_sh.sx0_0 p0 table1 gv3 gv4 gv5 gv6 gv7 gv8 ov14)) i9 ov13) := by kernel_rfl

theorem spec_l04Group_sh.a1_0_eq {ρ : Type} (N : Nat) (K : AV → Heap → Option ρ) (L0 : St → Option ρ) (p0 : Int) (table1 : Nat) (table2 : Nat) (gv3 : Nat) (gv4 : Nat) (gv5 : Nat → Nat) (gv6 : Nat → Nat) (gv7 : Nat → Nat) (gv8 : Nat → Int) (i9 : Int) (ov13 : Nat → Int) :
    (spec_l04Group_sh.k1g N L0 (spec_l04Group_sh.k0 N K gv3 gv4 gv5 gv6 gv7 gv8)) (.exit 2) (spec_l04Group_sh.sx1_0 p0 table1 table2 gv3 gv4 gv5 gv6 gv7 gv8 i9 ov13) = (spec_l04Group_sh.a1_0 N (fun d0 d1 => K (.agg [⟨.i64, 2, d0⟩, ⟨.u8, 1104, d1⟩]) [⟨false, .hdr 1 gv3 gv4 gv5 gv6 (some gv7)⟩, ⟨false, .flat 0 (.ints .i64 gv8)⟩]) (fun i9 gv10 => L0 (spec_l04Group_sh.st0 p0 table1 table2 gv3 gv4 gv5 gv6 gv7 gv8 i9 gv10)) (fun ov14 => (spec_l04Group_sh.k0 N K gv3 gv4 gv5 gv6 gv7 gv8) (.exit 0) (spec_l04Group_sh.sx0_0 p0 table1 gv3 gv4 gv5 gv6 gv7 gv8 ov14)) i9 ov13) := by
  have h := spec_l04Group_sh.a1_0_gen N K L0 (spec_l04Group_sh.k0 N K gv3 gv4 gv5 gv6 gv7 gv8) p0 table1 table2 gv3 gv4 gv5 gv6 gv7 gv8 i9 ov13
  rw [spec_l04Group_sh.k0_mix] at h
  exact h

theorem spec_l04Group_sh.b0_gen {ρ : Type} (N : Nat) (K : AV → Heap → Option ρ) (L0 : St → Option ρ) (kv : XE → St → Option ρ) (p0 : Int) (table1 : Nat) (table2 : Nat) (gv3 : Nat) (gv4 : Nat) (gv5 : Nat → Nat) (gv6 : Nat → Nat) (gv7 : Nat → Nat) (gv8 : Nat → Int) (i9 : Int) (gv10 : Nat → Int) :
    xcode (E9 N) ents spec_l04Group_sh.kp 2 N (cL (cK (cB (cA (cB (cB (cB (cB spec_l04Group_sh.bd)))))))) 0 (spec_l04Group_sh.st0 p0 table1 table2 gv3 gv4 gv5 gv6 gv7 gv8 i9 gv10) (roundK spec_l04Group_sh.kp 2 0 L0 (mixK (spec_l04Group_sh.fin N K gv3 gv4 gv5 gv6 gv7 gv8 .ret) kv)) = (spec_l04Group_sh.b0 N (fun d0 d1 => K (.agg [⟨.i64, 2, d0⟩, ⟨.u8, 1104, d1⟩]) [⟨false, .hdr 1 gv3 gv4 gv5 gv6 (some gv7)⟩, ⟨false, .flat 0 (.ints .i64 gv8)⟩]) (fun j11 gv12 => xloop (xcode (E9 N) ents spec_l04Group_sh.kp 2 N (cL (cK (cB (cB (cB (cK (cA (cB (cL (cK (cB (cA (cB (cB (cB (cB spec_l04Group_sh.bd)))))))))))))))) 2) spec_l04Group_sh.kp 2 2 N (spec_l04Group_sh.st1 p0 table1 table2 gv3 gv4 gv5 gv6 gv7 gv8 i9 j11 gv12) (spec_l04Group_sh.k1g N L0 (mixK (spec_l04Group_sh.fin N K gv3 gv4 gv5 gv6 gv7 gv8 .ret) kv))) (fun i9 gv10 => L0 (spec_l04Group_sh.st0 p0 table1 table2 gv3 gv4 gv5 gv6 gv7 gv8 i9 gv10)) (fun ov14 => kv (.exit 0) (spec_l04Group_sh.sx0_0 p0 table1 gv3 gv4 gv5 gv6 gv7 gv8 ov14)) table1 i9 gv10) := by kernel_rfl

theorem spec_l04Group_sh.b0_eq {ρ : Type} (N : Nat) (K : AV → Heap → Option ρ) (L0 : St → Option ρ) (p0 : Int) (table1 : Nat) (table2 : Nat) (gv3 : Nat) (gv4 : Nat) (gv5 : Nat → Nat) (gv6 : Nat → Nat) (gv7 : Nat → Nat) (gv8 : Nat → Int) (i9 : Int) (gv10 : Nat → Int) :
    xcode (E9 N) ents spec_l04Group_sh.kp 2 N (cL (cK (cB (cA (cB (cB (cB (cB spec_l04Group_sh.bd)))))))) 0 (spec_l04Group_sh.st0 p0 table1 table2 gv3 gv4 gv5 gv6 gv7 gv8 i9 gv10) (roundK spec_l04Group_sh.kp 2 0 L0 (spec_l04Group_sh.k0 N K gv3 gv4 gv5 gv6 gv7 gv8)) = (spec_l04Group_sh.b0 N (fun d0 d1 => K (.agg [⟨.i64, 2, d0⟩, ⟨.u8, 1104, d1⟩]) [⟨false, .hdr 1 gv3 gv4 gv5 gv6 (some gv7)⟩, ⟨false, .flat 0 (.ints .i64 gv8)⟩]) (fun j11 gv12 => xloop (xcode (E9 N) ents spec_l04Group_sh.kp 2 N (cL (cK (cB (cB (cB (cK (cA (cB (cL (cK (cB (cA (cB (cB (cB (cB spec_l04Group_sh.bd)))))))))))))))) 2) spec_l04Group_sh.kp 2 2 N (spec_l04Group_sh.st1 p0 table1 table2 gv3 gv4 gv5 gv6 gv7 gv8 i9 j11 gv12) (spec_l04Group_sh.k1g N L0 (spec_l04Group_sh.k0 N K gv3 gv4 gv5 gv6 gv7 gv8))) (fun i9 gv10 => L0 (spec_l04Group_sh.st0 p0 table1 table2 gv3 gv4 gv5 gv6 gv7 gv8 i9 gv10)) (fun ov14 => (spec_l04Group_sh.k0 N K gv3 gv4 gv5 gv6 gv7 gv8) (.exit 0) (spec_l04Group_sh.sx0_0 p0 table1 gv3 gv4 gv5 gv6 gv7 gv8 ov14)) table1 i9 gv10) := by
  have h := spec_l04Group_sh.b0_gen N K L0 (spec_l04Group_sh.k0 N K gv3 gv4 gv5 gv6 gv7 gv8) p0 table1 table2 gv3 gv4 gv5 gv6 gv7 gv8 i9 gv10
  rw [spec_l04Group_sh.k0_mix] at h
  exact h

theorem spec_l04Group_sh.a0_0_eq {ρ : Type} (N : Nat) (K : AV → Heap → Option ρ) (p0 : Int) (table1 : Nat) (gv3 : Nat) (gv4 : Nat) (gv5 : Nat → Nat) (gv6 : Nat → Nat) (gv7 : Nat → Nat) (gv8 : Nat → Int) (ov14 : Nat → Int) :
    (spec_l04Group_sh.k0 N K gv3 gv4 gv5 gv6 gv7 gv8) (.exit 0) (spec_l04Group_sh.sx0_0 p0 table1 gv3 gv4 gv5 gv6 gv7 gv8 ov14) = (spec_l04Group_sh.a0_0 N (fun d0 d1 => K (.agg [⟨.i64, 2, d0⟩, ⟨.u8, 1104, d1⟩]) [⟨false, .hdr 1 gv3 gv4 gv5 gv6 (some gv7)⟩, ⟨false, .flat 0 (.ints .i64 gv8)⟩]) p0 table1 ov14) := by kernel_rfl

theorem spec_l04Group_sh.l1_eq {ρ : Type} (N : Nat) (K : AV → Heap → Option ρ) (L0 : St → Option ρ) (p0 : Int) (table1 : Nat) (table2 : Nat) (gv3 : Nat) (gv4 : Nat) (gv5 : Nat → Nat) (gv6 : Nat → Nat) (gv7 : Nat → Nat) (gv8 : Nat → Int) (i9 : Int) :
    ∀ (m : Nat) (j11 : Int) (gv12 : Nat → Int), xloop (xcode (E9 N) ents spec_l04Group_sh.kp 2 N (cL (cK (cB (cB (cB (cK (cA (cB (cL (cK (cB (cA (cB (cB (cB (cB spec_l04Group_sh.bd)))))))))))))))) 2) spec_l04Group_sh.kp 2 2 m (spec_l04Group_sh.st1 p0 table1 table2 gv3 gv4 gv5 gv6 gv7 gv8 i9 j11 gv12) (spec_l04Group_sh.k1g N L0 (spec_l04Group_sh.k0 N K gv3 gv4 gv5 gv6 gv7 gv8)) = (spec_l04Group_sh.l1 N (fun d0 d1 => K (.agg [⟨.i64, 2, d0⟩, ⟨.u8, 1104, d1⟩]) [⟨false, .hdr 1 gv3 gv4 gv5 gv6 (some gv7)⟩, ⟨false, .flat 0 (.ints .i64 gv8)⟩]) table1 gv5 gv6 gv8 i9 (fun ov13 => (spec_l04Group_sh.k1g N L0 (spec_l04Group_sh.k0 N K gv3 gv4 gv5 gv6 gv7 gv8)) (.exit 2) (spec_l04Group_sh.sx1_0 p0 table1 table2 gv3 gv4 gv5 gv6 gv7 gv8 i9 ov13)) m j11 gv12) := by
  intro m
  induction m with
  | zero => intros; rfl
  | succ m ih =>
    intro j11 gv12
    refine (spec_l04Group_sh.b1_eq N K L0 (fun s => xloop (xcode (E9 N) ents spec_l04Group_sh.kp 2 N (cL (cK (cB (cB (cB (cK (cA (cB (cL (cK (cB (cA (cB (cB (cB (cB spec_l04Group_sh.bd)))))))))))))))) 2) spec_l04Group_sh.kp 2 2 m s (spec_l04Group_sh.k1g N L0 (spec_l04Group_sh.k0 N K gv3 gv4 gv5 gv6 gv7 gv8))) p0 table1 table2 gv3 gv4 gv5 gv6 gv7 gv8 i9 j11 gv12).trans ?_
    simp only [ih]
    kernel_rfl

theorem spec_l04Group_sh.l0_eq {ρ : Type} (N : Nat) (K : AV → Heap → Option ρ) (p0 : Int) (table1 : Nat) (table2 : Nat) (gv3 : Nat) (gv4 : Nat) (gv5 : Nat → Nat) (gv6 : Nat → Nat) (gv7 : Nat → Nat) (gv8 : Nat → Int) :
    ∀ (m : Nat) (i9 : Int) (gv10 : Nat → Int), xloop (xcode (E9 N) ents spec_l04Group_sh.kp 2 N (cL (cK (cB (cA (cB (cB (cB (cB spec_l04Group_sh.bd)))))))) 0) spec_l04Group_sh.kp 2 0 m (spec_l04Group_sh.st0 p0 table1 table2 gv3 gv4 gv5 gv6 gv7 gv8 i9 gv10) (spec_l04Group_sh.k0 N K gv3 gv4 gv5 gv6 gv7 gv8) = (spec_l04Group_sh.l0 N (fun d0 d1 => K (.agg [⟨.i64, 2, d0⟩, ⟨.u8, 1104, d1⟩]) [⟨false, .hdr 1 gv3 gv4 gv5 gv6 (some gv7)⟩, ⟨false, .flat 0 (.ints .i64 gv8)⟩]) table1 gv5 gv6 gv8 (fun ov14 => (spec_l04Group_sh.k0 N K gv3 gv4 gv5 gv6 gv7 gv8) (.exit 0) (spec_l04Group_sh.sx0_0 p0 table1 gv3 gv4 gv5 gv6 gv7 gv8 ov14)) m i9 gv10) := by
  intro m
  induction m with
  | zero => intros; rfl
  | succ m ih =>
    intro i9 gv10
    refine (spec_l04Group_sh.b0_eq N K (fun s => xloop (xcode (E9 N) ents spec_l04Group_sh.kp 2 N (cL (cK (cB (cA (cB (cB (cB (cB spec_l04Group_sh.bd)))))))) 0) spec_l04Group_sh.kp 2 0 m s (spec_l04Group_sh.k0 N K gv3 gv4 gv5 gv6 gv7 gv8)) p0 table1 table2 gv3 gv4 gv5 gv6 gv7 gv8 i9 gv10).trans ?_
    simp only [ih, spec_l04Group_sh.l1_eq, spec_l04Group_sh.a1_0_eq]
    kernel_rfl

theorem spec_l04Group_sh.s_eq {ρ : Type} (N : Nat) (K : AV → Heap → Option ρ) (p0 : Int) (table1 : Nat) (table2 : Nat) (gv3 : Nat) (gv4 : Nat) (gv5 : Nat → Nat) (gv6 : Nat → Nat) (gv7 : Nat → Nat) (gv8 : Nat → Int) :
    xbody (E9 N) ents spec_l04Group_sh.kp N Go.Proofs.Try.f13 spec_l04Group_sh.bd [.int .i64 (p0), .slice true 0 0 table1 (.exact table2) 1] [⟨false, .hdr 1 gv3 gv4 gv5 gv6 (some gv7)⟩, ⟨false, .flat 0 (.ints .i64 gv8)⟩] K = (spec_l04Group_sh.s N (fun d0 d1 => K (.agg [⟨.i64, 2, d0⟩, ⟨.u8, 1104, d1⟩]) [⟨false, .hdr 1 gv3 gv4 gv5 gv6 (some gv7)⟩, ⟨false, .flat 0 (.ints .i64 gv8)⟩]) (fun i9 gv10 => xloop (xcode (E9 N) ents spec_l04Group_sh.kp 2 N (cL (cK (cB (cA (cB (cB (cB (cB spec_l04Group_sh.bd)))))))) 0) spec_l04Group_sh.kp 2 0 N (spec_l04Group_sh.st0 p0 table1 table2 gv3 gv4 gv5 gv6 gv7 gv8 i9 gv10) (spec_l04Group_sh.k0 N K gv3 gv4 gv5 gv6 gv7 gv8))) := by kernel_rfl

theorem spec_l04Group_sh.eq {ρ : Type} (N : Nat) (K : AV → Heap → Option ρ) (p0 : Int) (table1 : Nat) (table2 : Nat) (gv3 : Nat) (gv4 : Nat) (gv5 : Nat → Nat) (gv6 : Nat → Nat) (gv7 : Nat → Nat) (gv8 : Nat → Int) :
    xbody (E9 N) ents spec_l04Group_sh.kp N Go.Proofs.Try.f13 spec_l04Group_sh.bd [.int .i64 (p0), .slice true 0 0 table1 (.exact table2) 1] [⟨false, .hdr 1 gv3 gv4 gv5 gv6 (some gv7)⟩, ⟨false, .flat 0 (.ints .i64 gv8)⟩] K = (spec_l04Group_sh N (fun d0 d1 => K (.agg [⟨.i64, 2, d0⟩, ⟨.u8, 1104, d1⟩]) [⟨false, .hdr 1 gv3 gv4 gv5 gv6 (some gv7)⟩, ⟨false, .flat 0 (.ints .i64 gv8)⟩]) p0 table1 table2 gv3 gv4 gv5 gv6 gv7 gv8) := by
  refine (spec_l04Group_sh.s_eq N K p0 table1 table2 gv3 gv4 gv5 gv6 gv7 gv8).trans ?_
  simp only [spec_l04Group_sh.l0_eq, spec_l04Group_sh.a0_0_eq]
  kernel_rfl

noncomputable def spec_l04Group_sh.en (N : Nat) (ρ : Type) : List AV → Heap → (AV → Heap → Option ρ) → Option ρ
  | [.int .i64 (p0), .slice true 0 0 table1 (.exact table2) 1], [⟨false, .hdr 1 gv3 gv4 gv5 gv6 (some gv7)⟩, ⟨false, .flat 0 (.ints .i64 gv8)⟩], K => (spec_l04Group_sh N (fun d0 d1 => K (.agg [⟨.i64, 2, d0⟩, ⟨.u8, 1104, d1⟩]) [⟨false, .hdr 1 gv3 gv4 gv5 gv6 (some gv7)⟩, ⟨false, .flat 0 (.ints .i64 gv8)⟩]) p0 table1 table2 gv3 gv4 gv5 gv6 gv7 gv8)
  | _, _, _ => none

theorem spec_l04Group_sh.en_ok (N : Nat) (hE : EnvOk (E9 N) ents) (ρ : Type) (args : List AV) (sh : Heap) (K : AV → Heap → Option ρ) (r : ρ) (h : spec_l04Group_sh.en N ρ args sh K = some r) : ∃ v sh', K v sh' = some r ∧ FnOk (E9 N).P 13 args sh v sh' := by
  unfold spec_l04Group_sh.en at h
  split at h
  · exact fn_ok hE (kp := spec_l04Group_sh.kp) (N := N) Go.Proofs.Try.func13 (c := spec_l04Group_sh.bd) (by kernel_rfl) ((spec_l04Group_sh.eq N _ _ _ _ _ _ _ _ _ _).trans h)
  · cases h

noncomputable def E10 (N : Nat) : Env := (E9 N).add 13 (spec_l04Group_sh.en N)

theorem E10_ok (N : Nat) : EnvOk (E10 N) ents := Env.add_ok (E9_ok N) (spec_l04Group_sh.en_ok N (E9_ok N))

noncomputable def spec_l03Dual.kp : Keeps := ⟨[(0, [1, 2, 3, 4, 5], [], []), (2, [1, 2, 3, 4, 5, 6], [], []), (4, [1, 2, 3, 4, 5, 6, 7], [], [])], [(0, [2, 4], [], []), (2, [1, 2, 3, 4, 5], [], []), (4, [1, 2, 3, 4, 5, 6], [], [])], []⟩

noncomputable def spec_l03Dual.bd : Code := bodyOf Go.Proofs.Try.f12

noncomputable def spec_l03Dual.fin {ρ : Type} (N : Nat) (K : AV → Heap → Option ρ) : XE → St → Option ρ := finK (E10 N) spec_l03Dual.kp.fins Go.Proofs.Try.f12 [] K

noncomputable def spec_l03Dual.k0 {ρ : Type} (N : Nat) (K : AV → Heap → Option ρ) : XE → St → Option ρ := (blockK spec_l03Dual.kp 0 0 (seqK (xcode (E10 N) ents spec_l03Dual.kp 0 N (cB (cB (cB (cB spec_l03Dual.bd)))) 0) (spec_l03Dual.fin N K)))

theorem spec_l03Dual.k0_mix {ρ : Type} (N : Nat) (K : AV → Heap → Option ρ) : mixK (spec_l03Dual.fin N K .ret) (spec_l03Dual.k0 N K) = (spec_l03Dual.k0 N K) := by
  funext e s; cases e <;> kernel_rfl

noncomputable def spec_l03Dual.st0 (h0 : Nat → Int) (h1 : Nat → Int) (i2 : Int) (gv3 : Nat → Int) : St := ⟨sl 75 [(1, .sptr [(0, 2), (1, 1104)]), (2, .sptr [(2, 2), (3, 1104)]), (3, .int .i64 ((h0 1))), (4, .sptr [(4, 2), (5, 1104)]), (5, .int .i64 (i2))], [⟨true, .flat 2 (.ints .i64 h0)⟩, ⟨true, .flat 1104 (.ints .u8 h1)⟩, ⟨true, .flat 2 (.ints .i64 (fun _ => 0))⟩, ⟨true, .flat 1104 (.ints .u8 (fun _ => 0))⟩, ⟨true, .flat 2 (.ints .i64 (upd (upd (fun _ => 0) 0 (h0 0)) 1 (h0 1)))⟩, ⟨true, .flat 1104 (.ints .u8 gv3)⟩]⟩

noncomputable def spec_l03Dual.sx0_0 (h0 : Nat → Int) (ov10 : Nat → Int) : St := ⟨sl 75 [(2, .sptr [(0, 2), (1, 1104)]), (4, .sptr [(2, 2), (3, 1104)])], [⟨true, .flat 2 (.ints .i64 (fun _ => 0))⟩, ⟨true, .flat 1104 (.ints .u8 (fun _ => 0))⟩, ⟨true, .flat 2 (.ints .i64 (upd (upd (fun _ => 0) 0 (h0 0)) 1 (h0 1)))⟩, ⟨true, .flat 1104 (.ints .u8 ov10)⟩]⟩

noncomputable def spec_l03Dual.k1g {ρ : Type} (N : Nat) (L0 : St → Option ρ) (kv : XE → St → Option ρ) : XE → St → Option ρ := (blockK spec_l03Dual.kp 0 2 (blockK spec_l03Dual.kp 0 1 (seqK (xcode (E10 N) ents spec_l03Dual.kp 0 N (cB (cB (cL (cK (cB (cA (cB (cB (cB spec_l03Dual.bd))))))))) 0) (roundK spec_l03Dual.kp 0 0 L0 kv))))

theorem spec_l03Dual.k1_mix {ρ : Type} (N : Nat) (K : AV → Heap → Option ρ) (L0 : St → Option ρ) : mixK (spec_l03Dual.fin N K .ret) (spec_l03Dual.k1g N L0 (spec_l03Dual.k0 N K)) = (spec_l03Dual.k1g N L0 (spec_l03Dual.k0 N K)) := by
  funext e s; cases e <;> kernel_rfl

noncomputable def spec_l03Dual.st1 (h0 : Nat → Int) (h1 : Nat → Int) (i2 : Int) (j4 : Int) (gv5 : Nat → Int) : St := ⟨sl 75 [(1, .sptr [(0, 2), (1, 1104)]), (2, .sptr [(2, 2), (3, 1104)]), (3, .int .i64 ((h0 1))), (4, .sptr [(4, 2), (5, 1104)]), (5, .int .i64 (i2)), (6, .int .i64 (j4))], [⟨true, .flat 2 (.ints .i64 h0)⟩, ⟨true, .flat 1104 (.ints .u8 h1)⟩, ⟨true, .flat 2 (.ints .i64 (fun _ => 0))⟩, ⟨true, .flat 1104 (.ints .u8 (fun _ => 0))⟩, ⟨true, .flat 2 (.ints .i64 (upd (upd (fun _ => 0) 0 (h0 0)) 1 (h0 1)))⟩, ⟨true, .flat 1104 (.ints .u8 gv5)⟩]⟩

noncomputable def spec_l03Dual.sx1_0 (h0 : Nat → Int) (h1 : Nat → Int) (i2 : Int) (ov9 : Nat → Int) : St := ⟨sl 75 [(1, .sptr [(0, 2), (1, 1104)]), (2, .sptr [(2, 2), (3, 1104)]), (3, .int .i64 ((h0 1))), (4, .sptr [(4, 2), (5, 1104)]), (5, .int .i64 (i2))], [⟨true, .flat 2 (.ints .i64 h0)⟩, ⟨true, .flat 1104 (.ints .u8 h1)⟩, ⟨true, .flat 2 (.ints .i64 (fun _ => 0))⟩, ⟨true, .flat 1104 (.ints .u8 (fun _ => 0))⟩, ⟨true, .flat 2 (.ints .i64 (upd (upd (fun _ => 0) 0 (h0 0)) 1 (h0 1)))⟩, ⟨true, .flat 1104 (.ints .u8 ov9)⟩]⟩

noncomputable def spec_l03Dual.k2g {ρ : Type} (N : Nat) (L1 : St → Option ρ) (kv : XE → St → Option ρ) : XE → St → Option ρ := (blockK spec_l03Dual.kp 0 4 (blockK spec_l03Dual.kp 0 3 (seqK (xcode (E10 N) ents spec_l03Dual.kp 0 N (cB (cB (cL (cK (cB (cK (cA (cB (cL (cK (cB (cA (cB (cB (cB spec_l03Dual.bd))))))))))))))) 2) (roundK spec_l03Dual.kp 0 2 L1 kv))))

theorem spec_l03Dual.k2_mix {ρ : Type} (N : Nat) (K : AV → Heap → Option ρ) (L0 : St → Option ρ) (L1 : St → Option ρ) : mixK (spec_l03Dual.fin N K .ret) (spec_l03Dual.k2g N L1 (spec_l03Dual.k1g N L0 (spec_l03Dual.k0 N K))) = (spec_l03Dual.k2g N L1 (spec_l03Dual.k1g N L0 (spec_l03Dual.k0 N K))) := by
  funext e s; cases e <;> kernel_rfl

noncomputable def spec_l03Dual.st2 (h0 : Nat → Int) (h1 : Nat → Int) (i2 : Int) (j4 : Int) (k6 : Int) (gv7 : Nat → Int) : St := ⟨sl 75 [(1, .sptr [(0, 2), (1, 1104)]), (2, .sptr [(2, 2), (3, 1104)]), (3, .int .i64 ((h0 1))), (4, .sptr [(4, 2), (5, 1104)]), (5, .int .i64 (i2)), (6, .int .i64 (j4)), (7, .int .i64 (k6))], [⟨true, .flat 2 (.ints .i64 h0)⟩, ⟨true, .flat 1104 (.ints .u8 h1)⟩, ⟨true, .flat 2 (.ints .i64 (fun _ => 0))⟩, ⟨true, .flat 1104 (.ints .u8 (fun _ => 0))⟩, ⟨true, .flat 2 (.ints .i64 (upd (upd (fun _ => 0) 0 (h0 0)) 1 (h0 1)))⟩, ⟨true, .flat 1104 (.ints .u8 gv7)⟩]⟩

noncomputable def spec_l03Dual.sx2_0 (h0 : Nat → Int) (h1 : Nat → Int) (i2 : Int) (j4 : Int) (ov8 : Nat → Int) : St := ⟨sl 75 [(1, .sptr [(0, 2), (1, 1104)]), (2, .sptr [(2, 2), (3, 1104)]), (3, .int .i64 ((h0 1))), (4, .sptr [(4, 2), (5, 1104)]), (5, .int .i64 (i2)), (6, .int .i64 (j4))], [⟨true, .flat 2 (.ints .i64 h0)⟩, ⟨true, .flat 1104 (.ints .u8 h1)⟩, ⟨true, .flat 2 (.ints .i64 (fun _ => 0))⟩, ⟨true, .flat 1104 (.ints .u8 (fun _ => 0))⟩, ⟨true, .flat 2 (.ints .i64 (upd (upd (fun _ => 0) 0 (h0 0)) 1 (h0 1)))⟩, ⟨true, .flat 1104 (.ints .u8 ov8)⟩]⟩

theorem spec_l03Dual.b2_gen {ρ : Type} (N : Nat) (K : AV → Heap → Option ρ) (L2 : St → Option ρ) (kv : XE → St → Option ρ) (h0 : Nat → Int) (h1 : Nat → Int) (i2 : Int) (j4 : Int) (k6 : Int) (gv7 : Nat → Int) :
    xcode (E10 N) ents spec_l03Dual.kp 0 N (cL (cK (cB (cB (cK (cA (cB (cL (cK (cB (cK (cA (cB (cL (cK (cB (cA (cB (cB (cB spec_l03Dual.bd)))))))))))))))))))) 4 (spec_l03Dual.st2 h0 h1 i2 j4 k6 gv7) (roundK spec_l03Dual.kp 0 4 L2 (mixK (spec_l03Dual.fin N K .ret) kv)) = (spec_l03Dual.b2 N (fun d0 d1 => K (.agg [⟨.i64, 2, d0⟩, ⟨.u8, 1104, d1⟩]) []) (fun k6 gv7 => L2 (spec_l03Dual.st2 h0 h1 i2 j4 k6 gv7)) (fun ov8 => kv (.exit 4) (spec_l03Dual.sx2_0 h0 h1 i2 j4 ov8)) h0 h1 i2 j4 k6 gv7) := by kernel_rfl

theorem spec_l03Dual.b2_eq {ρ : Type} (N : Nat) (K : AV → Heap → Option ρ) (L0 : St → Option ρ) (L1 : St → Option ρ) (L2 : St → Option ρ) (h0 : Nat → Int) (h1 : Nat → Int) (i2 : Int) (j4 : Int) (k6 : Int) (gv7 : Nat → Int) :
    xcode (E10 N) ents spec_l03Dual.kp 0 N (cL (cK (cB (cB (cK (cA (cB (cL (cK (cB (cK (cA (cB (cL (cK (cB (cA (cB (cB (cB spec_l03Dual.bd)))))))))))))))))))) 4 (spec_l03Dual.st2 h0 h1 i2 j4 k6 gv7) (roundK spec_l03Dual.kp 0 4 L2 (spec_l03Dual.k2g N L1 (spec_l03Dual.k1g N L0 (spec_l03Dual.k0 N K)))) = (spec_l03Dual.b2 N (fun d0 d1 => K (.agg [⟨.i64, 2, d0⟩, ⟨.u8, 1104, d1⟩]) []) (fun k6 gv7 => L2 (spec_l03Dual.st2 h0 h1 i2 j4 k6 gv7)) (fun ov8 => (spec_l03Dual.k2g N L1 (spec_l03Dual.k1g N L0 (spec_l03Dual.k0 N K))) (.exit 4) (spec_l03Dual.sx2_0 h0 h1 i2 j4 ov8)) h0 h1 i2 j4 k6 gv7) := by
  have h := spec_l03Dual.b2_gen N K L2 (spec_l03Dual.k2g N L1 (spec_l03Dual.k1g N L0 (spec_l03Dual.k0 N K))) h0 h1 i2 j4 k6 gv7
  rw [spec_l03Dual.k2_mix] at h
  exact h

theorem spec_l03Dual.a2_0_gen {ρ : Type} (N : Nat) (K : AV → Heap → Option ρ) (L1 : St → Option ρ) (kv : XE → St → Option ρ) (h0 : Nat → Int) (h1 : Nat → Int) (i2 : Int) (j4 : Int) (ov8 : Nat → Int) :
    (spec_l03Dual.k2g N L1 (mixK (spec_l03Dual.fin N K .ret) kv)) (.exit 4) (spec_l03Dual.sx2_0 h0 h1 i2 j4 ov8) = (spec_l03Dual.a2_0 N (fun d0 d1 => K (.agg [⟨.i64, 2, d0⟩, ⟨.u8, 1104, d1⟩]) []) (fun j4 gv5 => L1 (spec_l03Dual.st1 h0 h1 i2 j4 gv5)) (fun ov9 => kv (.exit 2) (spec_l03Dual.sx1_0 h0 h1 i2 ov9)) j4 ov8) := by kernel_rfl

theorem spec_l03Dual.a2_0_eq {ρ : Type} (N : Nat) (K : AV → Heap → Option ρ) (L0 : St → Option ρ) (L1 : St → Option ρ) (h0 : Nat → Int) (h1 : Nat → Int) (i2 : Int) (j4 : Int) (ov8 : Nat → Int) :
    (spec_l03Dual.k2g N L1 (spec_l03Dual.k1g N L0 (spec_l03Dual.k0 N K))) (.exit 4) (spec_l03Dual.sx2_0 h0 h1 i2 j4 ov8) = (spec_l03Dual.a2_0 N (fun d0 d1 => K (.agg [⟨.i64, 2, d0⟩, ⟨.u8, 1104, d1⟩]) []) (fun j4 gv5 => L1 (spec_l03Dual.st1 h0 h1 i2 j4 gv5)) (fun ov9 => (spec_l03Dual.k1g N L0 (spec_l03Dual.k0 N K)) (.exit 2) (spec_l03Dual.sx1_0 h0 h1 i2 ov9)) j4 ov8) := by
  have h := spec_l03Dual.a2_0_gen N K L1 (spec_l03Dual.k1g N L0 (spec_l03Dual.k0 N K)) h0 h1 i2 j4 ov8
  rw [spec_l03Dual.k1_mix] at h
  exact h

theorem spec_l03Dual.b1_gen {ρ : Type} (N : Nat) (K : AV → Heap → Option ρ) (L1 : St → Option ρ) (kv : XE → St → Option ρ) (h0 : Nat → Int) (h1 : Nat → Int) (i2 : Int) (j4 : Int) (gv5 : Nat → Int) :
    xcode (E10 N) ents spec_l03Dual.kp 0 N (cL (cK (cB (cK (cA (cB (cL (cK (cB (cA (cB (cB (cB spec_l03Dual.bd))))))))))))) 2 (spec_l03Dual.st1 h0 h1 i2 j4 gv5) (roundK spec_l03Dual.kp 0 2 L1 (mixK (spec_l03Dual.fin N K .ret) kv)) = (spec_l03Dual.b1 N (fun d0 d1 => K (.agg [⟨.i64, 2, d0⟩, ⟨.u8, 1104, d1⟩]) []) (fun k6 gv7 => xloop (xcode (E10 N) ents spec_l03Dual.kp 0 N (cL (cK (cB (cB (cK (cA (cB (cL (cK (cB (cK (cA (cB (cL (cK (cB (cA (cB (cB (cB spec_l03Dual.bd)))))))))))))))))))) 4) spec_l03Dual.kp 0 4 N (spec_l03Dual.st2 h0 h1 i2 j4 k6 gv7) (spec_l03Dual.k2g N L1 (mixK (spec_l03Dual.fin N K .ret) kv))) (fun j4 gv5 => L1 (spec_l03Dual.st1 h0 h1 i2 j4 gv5)) (fun ov9 => kv (.exit 2) (spec_l03Dual.sx1_0 h0 h1 i2 ov9)) h0 h1 i2 j4 gv5) := by kernel_rfl

theorem spec_l03Dual.b1_eq {ρ : Type} (N : Nat) (K : AV → Heap → Option ρ) (L0 : St → Option ρ) (L1 : St → Option ρ) (h0 : Nat → Int) (h1 : Nat → Int) (i2 : Int) (j4 : Int) (gv5 : Nat → Int) :
    xcode (E10 N) ents spec_l03Dual.kp 0 N (cL (cK (cB (cK (cA (cB (cL (cK (cB (cA (cB (cB (cB spec_l03Dual.bd))))))))))))) 2 (spec_l03Dual.st1 h0 h1 i2 j4 gv5) (roundK spec_l03Dual.kp 0 2 L1 (spec_l03Dual.k1g N L0 (spec_l03Dual.k0 N K))) = (spec_l03Dual.b1 N (fun d0 d1 => K (.agg [⟨.i64, 2, d0⟩, ⟨.u8, 1104, d1⟩]) []) (fun k6 gv7 => xloop (xcode (E10 N) ents spec_l03Dual.kp 0 N (cL (cK (cB (cB (cK (cA (cB (cL (cK (cB (cK (cA (cB (cL (cK (cB (cA (cB (cB (cB spec_l03Dual.bd)))))))))))))))))))) 4) spec_l03Dual.kp 0 4 N (spec_l03Dual.st2 h0 h1 i2 j4 k6 gv7) (spec_l03Dual.k2g N L1 (spec_l03Dual.k1g N L0 (spec_l03Dual.k0 N K)))) (fun j4 gv5 => L1 (spec_l03Dual.st1 h0 h1 i2 j4 gv5)) (fun ov9 => (spec_l03Dual.k1g N L0 (spec_l03Dual.k0 N K)) (.exit 2) (spec_l03Dual.sx1_0 h0 h1 i2 ov9)) h0 h1 i2 j4 gv5) := by
  have h := spec_l03Dual.b1_gen N K L1 (spec_l03Dual.k1g N L0 (spec_l03Dual.k0 N K)) h0 h1 i2 j4 gv5
  rw [spec_l03Dual.k1_mix] at h
  exact h

theorem spec_l03Dual.a1_0_gen {ρ : Type} (N : Nat) (K : AV → Heap → Option ρ) (L0 : St → Option ρ) (kv : XE → St → Option ρ) (h0 : Nat → Int) (h1 : Nat → Int) (i2 : Int) (ov9 : Nat → Int) :
    (spec_l03Dual.k1g N L0 (mixK (spec_l03Dual.fin N K .ret) kv)) (.exit 2) (spec_l03Dual.sx1_0 h0 h1 i2 ov9) = (spec_l03Dual.a1_0 N (fun d0 d1 => K (.agg [⟨.i64, 2, d0⟩, ⟨.u8, 1104, d1⟩]) []) (fun i2 gv3 => L0 (spec_l03Dual.st0 h0 h1 i2 gv3)) (fun ov10 => kv (.exit 0) (spec_l03Dual.sx0_0 h0 ov10)) i2 ov9) := by kernel_rfl

theorem spec_l03Dual.a1_0_eq {ρ : Type} (N : Nat) (K : AV → Heap → Option ρ) (L0 : St → Option ρ) (h0 : Nat → Int) (h1 : Nat → Int) (i2 : Int) (ov9 : Nat → Int) :
    (spec_l03Dual.k1g N L0 (spec_l03Dual.k0 N K)) (.exit 2) (spec_l03Dual.sx1_0 h0 h1 i2 ov9) = (spec_l03Dual.a1_0 N (fun d0 d1 => K (.agg [⟨.i64, 2, d0⟩, ⟨.u8, 1104, d1⟩]) []) (fun i2 gv3 => L0 (spec_l03Dual.st0 h0 h1 i2 gv3)) (fun ov10 => (spec_l03Dual.k0 N K) (.exit 0) (spec_l03Dual.sx0_0 h0 ov10)) i2 ov9) := by
  have h := spec_l03Dual.a1_0_gen N K L0 (spec_l03Dual.k0 N K) h0 h1 i2 ov9
  rw [spec_l03Dual.k0_mix] at h
  exact h

theorem spec_l03Dual.b0_gen {ρ : Type} (N : Nat) (K : AV → Heap → Option ρ) (L0 : St → Option ρ) (kv : XE → St → Option ρ) (h0 : Nat → Int) (h1 : Nat → Int) (i2 : Int) (gv3 : Nat → Int) :
    xcode (E10 N) ents spec_l03Dual.kp 0 N (cL (cK (cB (cA (cB (cB (cB spec_l03Dual.bd))))))) 0 (spec_l03Dual.st0 h0 h1 i2 gv3) (roundK spec_l03Dual.kp 0 0 L0 (mixK (spec_l03Dual.fin N K .ret) kv)) = (spec_l03Dual.b0 N (fun d0 d1 => K (.agg [⟨.i64, 2, d0⟩, ⟨.u8, 1104, d1⟩]) []) (fun j4 gv5 => xloop (xcode (E10 N) ents spec_l03Dual.kp 0 N (cL (cK (cB (cK (cA (cB (cL (cK (cB (cA (cB (cB (cB spec_l03Dual.bd))))))))))))) 2) spec_l03Dual.kp 0 2 N (spec_l03Dual.st1 h0 h1 i2 j4 gv5) (spec_l03Dual.k1g N L0 (mixK (spec_l03Dual.fin N K .ret) kv))) (fun i2 gv3 => L0 (spec_l03Dual.st0 h0 h1 i2 gv3)) (fun ov10 => kv (.exit 0) (spec_l03Dual.sx0_0 h0 ov10)) h0 i2 gv3) := by kernel_rfl

theorem spec_l03Dual.b0_eq {ρ : Type} (N : Nat) (K : AV → Heap → Option ρ) (L0 : St → Option ρ) (h0 : Nat → Int) (h1 : Nat → Int) (i2 : Int) (gv3 : Nat → Int) :
    xcode (E10 N) ents spec_l03Dual.kp 0 N (cL (cK (cB (cA (cB (cB (cB spec_l03Dual.bd))))))) 0 (spec_l03Dual.st0 h0 h1 i2 gv3) (roundK spec_l03Dual.kp 0 0 L0 (spec_l03Dual.k0 N K)) = (spec_l03Dual.b0 N (fun d0 d1 => K (.agg [⟨.i64, 2, d0⟩, ⟨.u8, 1104, d1⟩]) []) (fun j4 gv5 => xloop (xcode (E10 N) ents spec_l03Dual.kp 0 N (cL (cK (cB (cK (cA (cB (cL (cK (cB (cA (cB (cB (cB spec_l03Dual.bd))))))))))))) 2) spec_l03Dual.kp 0 2 N (spec_l03Dual.st1 h0 h1 i2 j4 gv5) (spec_l03Dual.k1g N L0 (spec_l03Dual.k0 N K))) (fun i2 gv3 => L0 (spec_l03Dual.st0 h0 h1 i2 gv3)) (fun ov10 => (spec_l03Dual.k0 N K) (.exit 0) (spec_l03Dual.sx0_0 h0 ov10)) h0 i2 gv3) := by
  have h := spec_l03Dual.b0_gen N K L0 (spec_l03Dual.k0 N K) h0 h1 i2 gv3
  rw [spec_l03Dual.k0_mix] at h
  exact h

theorem spec_l03Dual.a0_0_eq {ρ : Type} (N : Nat) (K : AV → Heap → Option ρ) (h0 : Nat → Int) (ov10 : Nat → Int) :
    (spec_l03Dual.k0 N K) (.exit 0) (spec_l03Dual.sx0_0 h0 ov10) = (spec_l03Dual.a0_0 N (fun d0 d1 => K (.agg [⟨.i64, 2, d0⟩, ⟨.u8, 1104, d1⟩]) []) h0 ov10) := by kernel_rfl

theorem spec_l03Dual.l2_eq {ρ : Type} (N : Nat) (K : AV → Heap → Option ρ) (L0 : St → Option ρ) (L1 : St → Option ρ) (h0 : Nat → Int) (h1 : Nat → Int) (i2 : Int) (j4 : Int) :
    ∀ (m : Nat) (k6 : Int) (gv7 : Nat → Int), xloop (xcode (E10 N) ents spec_l03Dual.kp 0 N (cL (cK (cB (cB (cK (cA (cB (cL (cK (cB (cK (cA (cB (cL (cK (cB (cA (cB (cB (cB spec_l03Dual.bd)))))))))))))))))))) 4) spec_l03Dual.kp 0 4 m (spec_l03Dual.st2 h0 h1 i2 j4 k6 gv7) (spec_l03Dual.k2g N L1 (spec_l03Dual.k1g N L0 (spec_l03Dual.k0 N K))) = (spec_l03Dual.l2 N (fun d0 d1 => K (.agg [⟨.i64, 2, d0⟩, ⟨.u8, 1104, d1⟩]) []) h0 h1 i2 j4 (fun ov8 => (spec_l03Dual.k2g N L1 (spec_l03Dual.k1g N L0 (spec_l03Dual.k0 N K))) (.exit 4) (spec_l03Dual.sx2_0 h0 h1 i2 j4 ov8)) m k6 gv7) := by
  intro m
  induction m with
  | zero => intros; rfl
  | succ m ih =>
    intro k6 gv7
    refine (spec_l03Dual.b2_eq N K L0 L1 (fun s => xloop (xcode (E10 N) ents spec_l03Dual.kp 0 N (cL (cK (cB (cB (cK (cA (cB (cL (cK (cB (cK (cA (cB (cL (cK (cB (cA (cB (cB (cB spec_l03Dual.bd)))))))))))))))))))) 4) spec_l03Dual.kp 0 4 m s (spec_l03Dual.k2g N L1 (spec_l03Dual.k1g N L0 (spec_l03Dual.k0 N K)))) h0 h1 i2 j4 k6 gv7).trans ?_
    simp only [ih]
    kernel_rfl

theorem spec_l03Dual.l1_eq {ρ : Type} (N : Nat) (K : AV → Heap → Option ρ) (L0 : St → Option ρ) (h0 : Nat → Int) (h1 : Nat → Int) (i2 : Int) :
    ∀ (m : Nat) (j4 : Int) (gv5 : Nat → Int), xloop (xcode (E10 N) ents spec_l03Dual.kp 0 N (cL (cK (cB (cK (cA (cB (cL (cK (cB (cA (cB (cB (cB spec_l03Dual.bd))))))))))))) 2) spec_l03Dual.kp 0 2 m (spec_l03Dual.st1 h0 h1 i2 j4 gv5) (spec_l03Dual.k1g N L0 (spec_l03Dual.k0 N K)) = (spec_l03Dual.l1 N (fun d0 d1 => K (.agg [⟨.i64, 2, d0⟩, ⟨.u8, 1104, d1⟩]) []) h0 h1 i2 (fun ov9 => (spec_l03Dual.k1g N L0 (spec_l03Dual.k0 N K)) (.exit 2) (spec_l03Dual.sx1_0 h0 h1 i2 ov9)) m j4 gv5) := by
  intro m
  induction m with
  | zero => intros; rfl
  | succ m ih =>
    intro j4 gv5
    refine (spec_l03Dual.b1_eq N K L0 (fun s => xloop (xcode (E10 N) ents spec_l03Dual.kp 0 N (cL (cK (cB (cK (cA (cB (cL (cK (cB (cA (cB (cB (cB spec_l03Dual.bd))))))))))))) 2) spec_l03Dual.kp 0 2 m s (spec_l03Dual.k1g N L0 (spec_l03Dual.k0 N K))) h0 h1 i2 j4 gv5).trans ?_
    simp only [ih, spec_l03Dual.l2_eq, spec_l03Dual.a2_0_eq]
    kernel_rfl

theorem spec_l03Dual.l0_eq {ρ : Type} (N : Nat) (K : AV → Heap → Option ρ) (h0 : Nat → Int) (h1 : Nat → Int) :
    ∀ (m : Nat) (i2 : Int) (gv3 : Nat → Int), xloop (xcode (E10 N) ents spec_l03Dual.kp 0 N (cL (cK (cB (cA (cB (cB (cB spec_l03Dual.bd))))))) 0) spec_l03Dual.kp 0 0 m (spec_l03Dual.st0 h0 h1 i2 gv3) (spec_l03Dual.k0 N K) = (spec_l03Dual.l0 N (fun d0 d1 => K (.agg [⟨.i64, 2, d0⟩, ⟨.u8, 1104, d1⟩]) []) h0 h1 (fun ov10 => (spec_l03Dual.k0 N K) (.exit 0) (spec_l03Dual.sx0_0 h0 ov10)) m i2 gv3) := by
  intro m
  induction m with
  | zero => intros; rfl
  | succ m ih =>
    intro i2 gv3
    refine (spec_l03Dual.b0_eq N K (fun s => xloop (xcode (E10 N) ents spec_l03Dual.kp 0 N (cL (cK (cB (cA (cB (cB (cB spec_l03Dual.bd))))))) 0) spec_l03Dual.kp 0 0 m s (spec_l03Dual.k0 N K)) h0 h1 i2 gv3).trans ?_
    simp only [ih, spec_l03Dual.l1_eq, spec_l03Dual.a1_0_eq]
    kernel_rfl

theorem spec_l03Dual.s_eq {ρ : Type} (N : Nat) (K : AV → Heap → Option ρ) (h0 : Nat → Int) (h1 : Nat → Int) :
    xbody (E10 N) ents spec_l03Dual.kp N Go.Proofs.Try.f12 spec_l03Dual.bd [.agg [⟨.i64, 2, h0⟩, ⟨.u8, 1104, h1⟩]] [] K = (spec_l03Dual.s N (fun d0 d1 => K (.agg [⟨.i64, 2, d0⟩, ⟨.u8, 1104, d1⟩]) []) (fun i2 gv3 => xloop (xcode (E10 N) ents spec_l03Dual.kp 0 N (cL (cK (cB (cA (cB (cB (cB spec_l03Dual.bd))))))) 0) spec_l03Dual.kp 0 0 N (spec_l03Dual.st0 h0 h1 i2 gv3) (spec_l03Dual.k0 N K)) h1) := by kernel_rfl

theorem spec_l03Dual.eq {ρ : Type} (N : Nat) (K : AV → Heap → Option ρ) (h0 : Nat → Int) (h1 : Nat → Int) :
    xbody (E10 N) ents spec_l03Dual.kp N Go.Proofs.Try.f12 spec_l03Dual.bd [.agg [⟨.i64, 2, h0⟩, ⟨.u8, 1104, h1⟩]] [] K = (spec_l03Dual N (fun d0 d1 => K (.agg [⟨.i64, 2, d0⟩, ⟨.u8, 1104, d1⟩]) []) h0 h1) := by
  refine (spec_l03Dual.s_eq N K h0 h1).trans ?_
  simp only [spec_l03Dual.l0_eq, spec_l03Dual.a0_0_eq]
  kernel_rfl

noncomputable def spec_l03Dual.en (N : Nat) (ρ : Type) : List AV → Heap → (AV → Heap → Option ρ) → Option ρ
  | [.agg [⟨.i64, 2, h0⟩, ⟨.u8, 1104, h1⟩]], [], K => (spec_l03Dual N (fun d0 d1 => K (.agg [⟨.i64, 2, d0⟩, ⟨.u8, 1104, d1⟩]) []) h0 h1)
  | _, _, _ => none

theorem spec_l03Dual.en_ok (N : Nat) (hE : EnvOk (E10 N) ents) (ρ : Type) (args : List AV) (sh : Heap) (K : AV → Heap → Option ρ) (r : ρ) (h : spec_l03Dual.en N ρ args sh K = some r) : ∃ v sh', K v sh' = some r ∧ FnOk (E10 N).P 12 args sh v sh' := by
  unfold spec_l03Dual.en at h
  split at h
  · exact fn_ok hE (kp := spec_l03Dual.kp) (N := N) Go.Proofs.Try.func12 (c := spec_l03Dual.bd) (by kernel_rfl) ((spec_l03Dual.eq N _ _ _).trans h)
  · cases h

noncomputable def E11 (N : Nat) : Env := (E10 N).add 12 (spec_l03Dual.en N)

theorem E11_ok (N : Nat) : EnvOk (E11 N) ents := Env.add_ok (E10_ok N) (spec_l03Dual.en_ok N (E10_ok N))

noncomputable def spec_FunctionsHopf_sh.kp : Keeps := ⟨[], [], []⟩

noncomputable def spec_FunctionsHopf_sh.bd : Code := bodyOf Go.Proofs.Try.f5

noncomputable def spec_FunctionsHopf_sh.fin {ρ : Type} (N : Nat) (K : AV → Heap → Option ρ) (gv3 : Nat) (gv4 : Nat) (gv5 : Nat → Nat) (gv6 : Nat → Nat) (gv7 : Nat → Nat) (gv8 : Nat → Int) : XE → St → Option ρ := finK (E11 N) spec_FunctionsHopf_sh.kp.fins Go.Proofs.Try.f5 [⟨false, .hdr 1 gv3 gv4 gv5 gv6 (some gv7)⟩, ⟨false, .flat 0 (.ints .i64 gv8)⟩] K

theorem spec_FunctionsHopf_sh.eq {ρ : Type} (N : Nat) (K : AV → Heap → Option ρ) (p0 : Int) (table1 : Nat) (table2 : Nat) (gv3 : Nat) (gv4 : Nat) (gv5 : Nat → Nat) (gv6 : Nat → Nat) (gv7 : Nat → Nat) (gv8 : Nat → Int) :
    xbody (E11 N) ents spec_FunctionsHopf_sh.kp N Go.Proofs.Try.f5 spec_FunctionsHopf_sh.bd [.int .i64 (p0), .slice true 0 0 table1 (.exact table2) 1] [⟨false, .hdr 1 gv3 gv4 gv5 gv6 (some gv7)⟩, ⟨false, .flat 0 (.ints .i64 gv8)⟩] K = (spec_FunctionsHopf_sh N (fun d0 d1 d2 => K (.tup [.agg [⟨.i64, 2, d0⟩, ⟨.u8, 1104, d1⟩], .int .i64 (d2)]) [⟨false, .hdr 1 gv3 gv4 gv5 gv6 (some gv7)⟩, ⟨false, .flat 0 (.ints .i64 gv8)⟩]) p0 table1 table2 gv3 gv4 gv5 gv6 gv7 gv8) := by kernel_rfl

noncomputable def spec_FunctionsHopf_sh.en (N : Nat) (ρ : Type) : List AV → Heap → (AV → Heap → Option ρ) → Option ρ
  | [.int .i64 (p0), .slice true 0 0 table1 (.exact table2) 1], [⟨false, .hdr 1 gv3 gv4 gv5 gv6 (some gv7)⟩, ⟨false, .flat 0 (.ints .i64 gv8)⟩], K => (spec_FunctionsHopf_sh N (fun d0 d1 d2 => K (.tup [.agg [⟨.i64, 2, d0⟩, ⟨.u8, 1104, d1⟩], .int .i64 (d2)]) [⟨false, .hdr 1 gv3 gv4 gv5 gv6 (some gv7)⟩, ⟨false, .flat 0 (.ints .i64 gv8)⟩]) p0 table1 table2 gv3 gv4 gv5 gv6 gv7 gv8)
  | _, _, _ => none

theorem spec_FunctionsHopf_sh.en_ok (N : Nat) (hE : EnvOk (E11 N) ents) (ρ : Type) (args : List AV) (sh : Heap) (K : AV → Heap → Option ρ) (r : ρ) (h : spec_FunctionsHopf_sh.en N ρ args sh K = some r) : ∃ v sh', K v sh' = some r ∧ FnOk (E11 N).P 5 args sh v sh' := by
  unfold spec_FunctionsHopf_sh.en at h
  split at h
  · exact fn_ok hE (kp := spec_FunctionsHopf_sh.kp) (N := N) Go.Proofs.Try.func5 (c := spec_FunctionsHopf_sh.bd) (by kernel_rfl) ((spec_FunctionsHopf_sh.eq N _ _ _ _ _ _ _ _ _ _).trans h)
  · cases h

noncomputable def E12 (N : Nat) : Env := (E11 N).add 5 (spec_FunctionsHopf_sh.en N)

theorem E12_ok (N : Nat) : EnvOk (E12 N) ents := Env.add_ok (E11_ok N) (spec_FunctionsHopf_sh.en_ok N (E11_ok N))

noncomputable def impl_IsPrime.kp : Keeps := ⟨[(0, [0, 3], [], [])], [(0, [], [], [])], []⟩

noncomputable def impl_IsPrime.bd : Code := bodyOf Go.Proofs.Try.f27

noncomputable def impl_IsPrime.fin {ρ : Type} (N : Nat) (K : AV → Heap → Option ρ) : XE → St → Option ρ := finK (E12 N) impl_IsPrime.kp.fins Go.Proofs.Try.f27 [] K

noncomputable def impl_IsPrime.k0 {ρ : Type} (N : Nat) (K : AV → Heap → Option ρ) : XE → St → Option ρ := (blockK impl_IsPrime.kp 0 0 (seqK (xcode (E12 N) ents impl_IsPrime.kp 0 N (cB (cB (cB impl_IsPrime.bd))) 0) (impl_IsPrime.fin N K)))

theorem impl_IsPrime.k0_mix {ρ : Type} (N : Nat) (K : AV → Heap → Option ρ) : mixK (impl_IsPrime.fin N K .ret) (impl_IsPrime.k0 N K) = (impl_IsPrime.k0 N K) := by
  funext e s; cases e <;> kernel_rfl

noncomputable def impl_IsPrime.st0 (p0 : Int) (k1 : Int) : St := ⟨sl 21 [(0, .int .i64 (p0)), (3, .int .i64 (k1))], []⟩

noncomputable def impl_IsPrime.sx0_0 : St := ⟨sl 21 [], []⟩

theorem impl_IsPrime.b0_gen {ρ : Type} (N : Nat) (K : AV → Heap → Option ρ) (L0 : St → Option ρ) (kv : XE → St → Option ρ) (p0 : Int) (k1 : Int) :
    xcode (E12 N) ents impl_IsPrime.kp 0 N (cL (cK (cB (cA (cB (cB impl_IsPrime.bd)))))) 0 (impl_IsPrime.st0 p0 k1) (roundK impl_IsPrime.kp 0 0 L0 (mixK (impl_IsPrime.fin N K .ret) kv)) = (impl_IsPrime.b0 N (fun d0 => K (.bool (d0)) []) (fun k1 => L0 (impl_IsPrime.st0 p0 k1)) (kv (.exit 0) (impl_IsPrime.sx0_0)) p0 k1) := by kernel_rfl

theorem impl_IsPrime.b0_eq {ρ : Type} (N : Nat) (K : AV → Heap → Option ρ) (L0 : St → Option ρ) (p0 : Int) (k1 : Int) :
    xcode (E12 N) ents impl_IsPrime.kp 0 N (cL (cK (cB (cA (cB (cB impl_IsPrime.bd)))))) 0 (impl_IsPrime.st0 p0 k1) (roundK impl_IsPrime.kp 0 0 L0 (impl_IsPrime.k0 N K)) = (impl_IsPrime.b0 N (fun d0 => K (.bool (d0)) []) (fun k1 => L0 (impl_IsPrime.st0 p0 k1)) ((impl_IsPrime.k0 N K) (.exit 0) (impl_IsPrime.sx0_0)) p0 k1) := by
  have h := impl_IsPrime.b0_gen N K L0 (impl_IsPrime.k0 N K) p0 k1
  rw [impl_IsPrime.k0_mix] at h
  exact h

theorem impl_IsPrime.a0_0_eq {ρ : Type} (N : Nat) (K : AV → Heap → Option ρ) :
    (impl_IsPrime.k0 N K) (.exit 0) (impl_IsPrime.sx0_0) = (impl_IsPrime.a0_0 N (fun d0 => K (.bool (d0)) [])) := by kernel_rfl

theorem impl_IsPrime.l0_eq {ρ : Type} (N : Nat) (K : AV → Heap → Option ρ) (p0 : Int) :
    ∀ (m : Nat) (k1 : Int), xloop (xcode (E12 N) ents impl_IsPrime.kp 0 N (cL (cK (cB (cA (cB (cB impl_IsPrime.bd)))))) 0) impl_IsPrime.kp 0 0 m (impl_IsPrime.st0 p0 k1) (impl_IsPrime.k0 N K) = (impl_IsPrime.l0 N (fun d0 => K (.bool (d0)) []) p0 ((impl_IsPrime.k0 N K) (.exit 0) (impl_IsPrime.sx0_0)) m k1) := by
  intro m
  induction m with
  | zero => intros; rfl
  | succ m ih =>
    intro k1
    refine (impl_IsPrime.b0_eq N K (fun s => xloop (xcode (E12 N) ents impl_IsPrime.kp 0 N (cL (cK (cB (cA (cB (cB impl_IsPrime.bd)))))) 0) impl_IsPrime.kp 0 0 m s (impl_IsPrime.k0 N K)) p0 k1).trans ?_
    simp only [ih]
    kernel_rfl

theorem impl_IsPrime.s_eq {ρ : Type} (N : Nat) (K : AV → Heap → Option ρ) (p0 : Int) :
    xbody (E12 N) ents impl_IsPrime.kp N Go.Proofs.Try.f27 impl_IsPrime.bd [.int .i64 (p0)] [] K = (impl_IsPrime.s N (fun d0 => K (.bool (d0)) []) (fun k1 => xloop (xcode (E12 N) ents impl_IsPrime.kp 0 N (cL (cK (cB (cA (cB (cB impl_IsPrime.bd)))))) 0) impl_IsPrime.kp 0 0 N (impl_IsPrime.st0 p0 k1) (impl_IsPrime.k0 N K)) p0) := by kernel_rfl

theorem impl_IsPrime.eq {ρ : Type} (N : Nat) (K : AV → Heap → Option ρ) (p0 : Int) :
    xbody (E12 N) ents impl_IsPrime.kp N Go.Proofs.Try.f27 impl_IsPrime.bd [.int .i64 (p0)] [] K = (impl_IsPrime N (fun d0 => K (.bool (d0)) []) p0) := by
  refine (impl_IsPrime.s_eq N K p0).trans ?_
  simp only [impl_IsPrime.l0_eq, impl_IsPrime.a0_0_eq]
  kernel_rfl

noncomputable def impl_IsPrime.en (N : Nat) (ρ : Type) : List AV → Heap → (AV → Heap → Option ρ) → Option ρ
  | [.int .i64 (p0)], [], K => (impl_IsPrime N (fun d0 => K (.bool (d0)) []) p0)
  | _, _, _ => none

theorem impl_IsPrime.en_ok (N : Nat) (hE : EnvOk (E12 N) ents) (ρ : Type) (args : List AV) (sh : Heap) (K : AV → Heap → Option ρ) (r : ρ) (h : impl_IsPrime.en N ρ args sh K = some r) : ∃ v sh', K v sh' = some r ∧ FnOk (E12 N).P 27 args sh v sh' := by
  unfold impl_IsPrime.en at h
  split at h
  · exact fn_ok hE (kp := impl_IsPrime.kp) (N := N) Go.Proofs.Try.func27 (c := impl_IsPrime.bd) (by kernel_rfl) ((impl_IsPrime.eq N _ _).trans h)
  · cases h

noncomputable def E13 (N : Nat) : Env := (E12 N).add 27 (impl_IsPrime.en N)

theorem E13_ok (N : Nat) : EnvOk (E13 N) ents := Env.add_ok (E12_ok N) (impl_IsPrime.en_ok N (E12_ok N))

noncomputable def impl_unless.kp : Keeps := ⟨[], [], []⟩

noncomputable def impl_unless.bd : Code := bodyOf Go.Proofs.Try.f26

noncomputable def impl_unless.fin {ρ : Type} (N : Nat) (K : AV → Heap → Option ρ) : XE → St → Option ρ := finK (E13 N) impl_unless.kp.fins Go.Proofs.Try.f26 [] K

theorem impl_unless.eq {ρ : Type} (N : Nat) (K : AV → Heap → Option ρ) (so0 : Bool) (code1 : Int) :
    xbody (E13 N) ents impl_unless.kp N Go.Proofs.Try.f26 impl_unless.bd [.bool (so0), .int .i64 (code1)] [] K = (impl_unless N (fun d0 => K (.int .i64 (d0)) []) so0 code1) := by kernel_rfl

noncomputable def impl_unless.en (N : Nat) (ρ : Type) : List AV → Heap → (AV → Heap → Option ρ) → Option ρ
  | [.bool (so0), .int .i64 (code1)], [], K => (impl_unless N (fun d0 => K (.int .i64 (d0)) []) so0 code1)
  | _, _, _ => none

theorem impl_unless.en_ok (N : Nat) (hE : EnvOk (E13 N) ents) (ρ : Type) (args : List AV) (sh : Heap) (K : AV → Heap → Option ρ) (r : ρ) (h : impl_unless.en N ρ args sh K = some r) : ∃ v sh', K v sh' = some r ∧ FnOk (E13 N).P 26 args sh v sh' := by
  unfold impl_unless.en at h
  split at h
  · exact fn_ok hE (kp := impl_unless.kp) (N := N) Go.Proofs.Try.func26 (c := impl_unless.bd) (by kernel_rfl) ((impl_unless.eq N _ _ _).trans h)
  · cases h

noncomputable def E14 (N : Nat) : Env := (E13 N).add 26 (impl_unless.en N)

theorem E14_ok (N : Nat) : EnvOk (E14 N) ents := Env.add_ok (E13_ok N) (impl_unless.en_ok N (E13_ok N))

noncomputable def impl_in.kp : Keeps := ⟨[], [], []⟩

noncomputable def impl_in.bd : Code := bodyOf Go.Proofs.Try.f39

noncomputable def impl_in.fin {ρ : Type} (N : Nat) (K : AV → Heap → Option ρ) : XE → St → Option ρ := finK (E14 N) impl_in.kp.fins Go.Proofs.Try.f39 [] K

theorem impl_in.eq {ρ : Type} (N : Nat) (K : AV → Heap → Option ρ) (x0 : Int) (least1 : Int) (most2 : Int) :
    xbody (E14 N) ents impl_in.kp N Go.Proofs.Try.f39 impl_in.bd [.int .i64 (x0), .int .i64 (least1), .int .i64 (most2)] [] K = (impl_in N (fun d0 => K (.bool (d0)) []) x0 least1 most2) := by kernel_rfl

noncomputable def impl_in.en (N : Nat) (ρ : Type) : List AV → Heap → (AV → Heap → Option ρ) → Option ρ
  | [.int .i64 (x0), .int .i64 (least1), .int .i64 (most2)], [], K => (impl_in N (fun d0 => K (.bool (d0)) []) x0 least1 most2)
  | _, _, _ => none

theorem impl_in.en_ok (N : Nat) (hE : EnvOk (E14 N) ents) (ρ : Type) (args : List AV) (sh : Heap) (K : AV → Heap → Option ρ) (r : ρ) (h : impl_in.en N ρ args sh K = some r) : ∃ v sh', K v sh' = some r ∧ FnOk (E14 N).P 39 args sh v sh' := by
  unfold impl_in.en at h
  split at h
  · exact fn_ok hE (kp := impl_in.kp) (N := N) Go.Proofs.Try.func39 (c := impl_in.bd) (by kernel_rfl) ((impl_in.eq N _ _ _ _).trans h)
  · cases h

noncomputable def E15 (N : Nat) : Env := (E14 N).add 39 (impl_in.en N)

theorem E15_ok (N : Nat) : EnvOk (E15 N) ents := Env.add_ok (E14_ok N) (impl_in.en_ok N (E14_ok N))

noncomputable def impl_isRows_c1.kp : Keeps := ⟨[], [], []⟩

noncomputable def impl_isRows_c1.bd : Code := bodyOf Go.Proofs.Try.f41

noncomputable def impl_isRows_c1.fin {ρ : Type} (N : Nat) (K : AV → Heap → Option ρ) (gv1 : Nat → Int) : XE → St → Option ρ := finK (E15 N) impl_isRows_c1.kp.fins Go.Proofs.Try.f41 [⟨false, .flat 1 (.ints .i64 gv1)⟩] K

theorem impl_isRows_c1.eq {ρ : Type} (N : Nat) (K : AV → Heap → Option ρ) (x0 : Int) (gv1 : Nat → Int) :
    xbody (E15 N) ents impl_isRows_c1.kp N Go.Proofs.Try.f41 impl_isRows_c1.bd [.int .i64 (x0), .sptr [(0, 1)]] [⟨false, .flat 1 (.ints .i64 gv1)⟩] K = (impl_isRows_c1 N (fun d0 => K (.bool (d0)) [⟨false, .flat 1 (.ints .i64 gv1)⟩]) x0 gv1) := by kernel_rfl

noncomputable def impl_isRows_c1.en (N : Nat) (ρ : Type) : List AV → Heap → (AV → Heap → Option ρ) → Option ρ
  | [.int .i64 (x0), .sptr [(0, 1)]], [⟨false, .flat 1 (.ints .i64 gv1)⟩], K => (impl_isRows_c1 N (fun d0 => K (.bool (d0)) [⟨false, .flat 1 (.ints .i64 gv1)⟩]) x0 gv1)
  | _, _, _ => none

theorem impl_isRows_c1.en_ok (N : Nat) (hE : EnvOk (E15 N) ents) (ρ : Type) (args : List AV) (sh : Heap) (K : AV → Heap → Option ρ) (r : ρ) (h : impl_isRows_c1.en N ρ args sh K = some r) : ∃ v sh', K v sh' = some r ∧ FnOk (E15 N).P 41 args sh v sh' := by
  unfold impl_isRows_c1.en at h
  split at h
  · exact fn_ok hE (kp := impl_isRows_c1.kp) (N := N) Go.Proofs.Try.func41 (c := impl_isRows_c1.bd) (by kernel_rfl) ((impl_isRows_c1.eq N _ _ _).trans h)
  · cases h

noncomputable def E16 (N : Nat) : Env := (E15 N).add 41 (impl_isRows_c1.en N)

theorem E16_ok (N : Nat) : EnvOk (E16 N) ents := Env.add_ok (E15_ok N) (impl_isRows_c1.en_ok N (E15_ok N))

noncomputable def slices_IndexFunc_sf.kp : Keeps := ⟨[(0, [0, 1, 7, 8], [], [])], [(0, [], [], [])], []⟩

noncomputable def slices_IndexFunc_sf.bd : Code := bodyOf Go.Proofs.Try.f42

noncomputable def slices_IndexFunc_sf.fin {ρ : Type} (N : Nat) (K : AV → Heap → Option ρ) (gv2 : Nat) (gv3 : Nat → Int) (gv4 : Nat → Int) : XE → St → Option ρ := finK (E16 N) slices_IndexFunc_sf.kp.fins Go.Proofs.Try.f42 [⟨false, .flat gv2 (.ints .i64 gv3)⟩, ⟨false, .flat 1 (.ints .i64 gv4)⟩] K

noncomputable def slices_IndexFunc_sf.k0 {ρ : Type} (N : Nat) (K : AV → Heap → Option ρ) (gv2 : Nat) (gv3 : Nat → Int) (gv4 : Nat → Int) : XE → St → Option ρ := (blockK slices_IndexFunc_sf.kp 2 0 (seqK (xcode (E16 N) ents slices_IndexFunc_sf.kp 2 N (cB (cB slices_IndexFunc_sf.bd)) 0) (slices_IndexFunc_sf.fin N K gv2 gv3 gv4)))

theorem slices_IndexFunc_sf.k0_mix {ρ : Type} (N : Nat) (K : AV → Heap → Option ρ) (gv2 : Nat) (gv3 : Nat → Int) (gv4 : Nat → Int) : mixK (slices_IndexFunc_sf.fin N K gv2 gv3 gv4 .ret) (slices_IndexFunc_sf.k0 N K gv2 gv3 gv4) = (slices_IndexFunc_sf.k0 N K gv2 gv3 gv4) := by
  funext e s; cases e <;> kernel_rfl

noncomputable def slices_IndexFunc_sf.st0 (s0 : Nat) (s1 : Nat) (gv2 : Nat) (gv3 : Nat → Int) (gv4 : Nat → Int) (x5 : Int) : St := ⟨sl 19 [(0, .slice false 0 0 s0 (.exact s1) 1), (1, .fn 41 0 [[(1, 1)]]), (7, .int .i64 ((s0 : Int))), (8, .int .i64 (x5))], [⟨false, .flat gv2 (.ints .i64 gv3)⟩, ⟨false, .flat 1 (.ints .i64 gv4)⟩]⟩

noncomputable def slices_IndexFunc_sf.sx0_0 (gv2 : Nat) (gv3 : Nat → Int) (gv4 : Nat → Int) : St := ⟨sl 19 [], [⟨false, .flat gv2 (.ints .i64 gv3)⟩, ⟨false, .flat 1 (.ints .i64 gv4)⟩]⟩

theorem slices_IndexFunc_sf.b0_gen {ρ : Type} (N : Nat) (K : AV → Heap → Option ρ) (L0 : St → Option ρ) (kv : XE → St → Option ρ) (s0 : Nat) (s1 : Nat) (gv2 : Nat) (gv3 : Nat → Int) (gv4 : Nat → Int) (x5 : Int) :
    xcode (E16 N) ents slices_IndexFunc_sf.kp 2 N (cL (cK (cB (cA (cB slices_IndexFunc_sf.bd))))) 0 (slices_IndexFunc_sf.st0 s0 s1 gv2 gv3 gv4 x5) (roundK slices_IndexFunc_sf.kp 2 0 L0 (mixK (slices_IndexFunc_sf.fin N K gv2 gv3 gv4 .ret) kv)) = (slices_IndexFunc_sf.b0 N (fun d0 => K (.int .i64 (d0)) [⟨false, .flat gv2 (.ints .i64 gv3)⟩, ⟨false, .flat 1 (.ints .i64 gv4)⟩]) (fun x5 => L0 (slices_IndexFunc_sf.st0 s0 s1 gv2 gv3 gv4 x5)) (kv (.exit 0) (slices_IndexFunc_sf.sx0_0 gv2 gv3 gv4)) s0 gv3 gv4 x5) := by kernel_rfl

theorem slices_IndexFunc_sf.b0_eq {ρ : Type} (N : Nat) (K : AV → Heap → Option ρ) (L0 : St → Option ρ) (s0 : Nat) (s1 : Nat) (gv2 : Nat) (gv3 : Nat → Int) (gv4 : Nat → Int) (x5 : Int) :
    xcode (E16 N) ents slices_IndexFunc_sf.kp 2 N (cL (cK (cB (cA (cB slices_IndexFunc_sf.bd))))) 0 (slices_IndexFunc_sf.st0 s0 s1 gv2 gv3 gv4 x5) (roundK slices_IndexFunc_sf.kp 2 0 L0 (slices_IndexFunc_sf.k0 N K gv2 gv3 gv4)) = (slices_IndexFunc_sf.b0 N (fun d0 => K (.int .i64 (d0)) [⟨false, .flat gv2 (.ints .i64 gv3)⟩, ⟨false, .flat 1 (.ints .i64 gv4)⟩]) (fun x5 => L0 (slices_IndexFunc_sf.st0 s0 s1 gv2 gv3 gv4 x5)) ((slices_IndexFunc_sf.k0 N K gv2 gv3 gv4) (.exit 0) (slices_IndexFunc_sf.sx0_0 gv2 gv3 gv4)) s0 gv3 gv4 x5) := by
  have h := slices_IndexFunc_sf.b0_gen N K L0 (slices_IndexFunc_sf.k0 N K gv2 gv3 gv4) s0 s1 gv2 gv3 gv4 x5
  rw [slices_IndexFunc_sf.k0_mix] at h
  exact h

theorem slices_IndexFunc_sf.a0_0_eq {ρ : Type} (N : Nat) (K : AV → Heap → Option ρ) (gv2 : Nat) (gv3 : Nat → Int) (gv4 : Nat → Int) :
    (slices_IndexFunc_sf.k0 N K gv2 gv3 gv4) (.exit 0) (slices_IndexFunc_sf.sx0_0 gv2 gv3 gv4) = (slices_IndexFunc_sf.a0_0 N (fun d0 => K (.int .i64 (d0)) [⟨false, .flat gv2 (.ints .i64 gv3)⟩, ⟨false, .flat 1 (.ints .i64 gv4)⟩])) := by kernel_rfl

theorem slices_IndexFunc_sf.l0_eq {ρ : Type} (N : Nat) (K : AV → Heap → Option ρ) (s0 : Nat) (s1 : Nat) (gv2 : Nat) (gv3 : Nat → Int) (gv4 : Nat → Int) :
    ∀ (m : Nat) (x5 : Int), xloop (xcode (E16 N) ents slices_IndexFunc_sf.kp 2 N (cL (cK (cB (cA (cB slices_IndexFunc_sf.bd))))) 0) slices_IndexFunc_sf.kp 2 0 m (slices_IndexFunc_sf.st0 s0 s1 gv2 gv3 gv4 x5) (slices_IndexFunc_sf.k0 N K gv2 gv3 gv4) = (slices_IndexFunc_sf.l0 N (fun d0 => K (.int .i64 (d0)) [⟨false, .flat gv2 (.ints .i64 gv3)⟩, ⟨false, .flat 1 (.ints .i64 gv4)⟩]) s0 gv3 gv4 ((slices_IndexFunc_sf.k0 N K gv2 gv3 gv4) (.exit 0) (slices_IndexFunc_sf.sx0_0 gv2 gv3 gv4)) m x5) := by
  intro m
  induction m with
  | zero => intros; rfl
  | succ m ih =>
    intro x5
    refine (slices_IndexFunc_sf.b0_eq N K (fun s => xloop (xcode (E16 N) ents slices_IndexFunc_sf.kp 2 N (cL (cK (cB (cA (cB slices_IndexFunc_sf.bd))))) 0) slices_IndexFunc_sf.kp 2 0 m s (slices_IndexFunc_sf.k0 N K gv2 gv3 gv4)) s0 s1 gv2 gv3 gv4 x5).trans ?_
    simp only [ih]
    kernel_rfl

theorem slices_IndexFunc_sf.s_eq {ρ : Type} (N : Nat) (K : AV → Heap → Option ρ) (s0 : Nat) (s1 : Nat) (gv2 : Nat) (gv3 : Nat → Int) (gv4 : Nat → Int) :
    xbody (E16 N) ents slices_IndexFunc_sf.kp N Go.Proofs.Try.f42 slices_IndexFunc_sf.bd [.slice false 0 0 s0 (.exact s1) 1, .fn 41 0 [[(1, 1)]]] [⟨false, .flat gv2 (.ints .i64 gv3)⟩, ⟨false, .flat 1 (.ints .i64 gv4)⟩] K = (slices_IndexFunc_sf.s N (fun d0 => K (.int .i64 (d0)) [⟨false, .flat gv2 (.ints .i64 gv3)⟩, ⟨false, .flat 1 (.ints .i64 gv4)⟩]) (fun x5 => xloop (xcode (E16 N) ents slices_IndexFunc_sf.kp 2 N (cL (cK (cB (cA (cB slices_IndexFunc_sf.bd))))) 0) slices_IndexFunc_sf.kp 2 0 N (slices_IndexFunc_sf.st0 s0 s1 gv2 gv3 gv4 x5) (slices_IndexFunc_sf.k0 N K gv2 gv3 gv4))) := by kernel_rfl

theorem slices_IndexFunc_sf.eq {ρ : Type} (N : Nat) (K : AV → Heap → Option ρ) (s0 : Nat) (s1 : Nat) (gv2 : Nat) (gv3 : Nat → Int) (gv4 : Nat → Int) :
    xbody (E16 N) ents slices_IndexFunc_sf.kp N Go.Proofs.Try.f42 slices_IndexFunc_sf.bd [.slice false 0 0 s0 (.exact s1) 1, .fn 41 0 [[(1, 1)]]] [⟨false, .flat gv2 (.ints .i64 gv3)⟩, ⟨false, .flat 1 (.ints .i64 gv4)⟩] K = (slices_IndexFunc_sf N (fun d0 => K (.int .i64 (d0)) [⟨false, .flat gv2 (.ints .i64 gv3)⟩, ⟨false, .flat 1 (.ints .i64 gv4)⟩]) s0 s1 gv2 gv3 gv4) := by
  refine (slices_IndexFunc_sf.s_eq N K s0 s1 gv2 gv3 gv4).trans ?_
  simp only [slices_IndexFunc_sf.l0_eq, slices_IndexFunc_sf.a0_0_eq]
  kernel_rfl

noncomputable def slices_IndexFunc_sf.en (N : Nat) (ρ : Type) : List AV → Heap → (AV → Heap → Option ρ) → Option ρ
  | [.slice false 0 0 s0 (.exact s1) 1, .fn 41 0 [[(1, 1)]]], [⟨false, .flat gv2 (.ints .i64 gv3)⟩, ⟨false, .flat 1 (.ints .i64 gv4)⟩], K => (slices_IndexFunc_sf N (fun d0 => K (.int .i64 (d0)) [⟨false, .flat gv2 (.ints .i64 gv3)⟩, ⟨false, .flat 1 (.ints .i64 gv4)⟩]) s0 s1 gv2 gv3 gv4)
  | _, _, _ => none

theorem slices_IndexFunc_sf.en_ok (N : Nat) (hE : EnvOk (E16 N) ents) (ρ : Type) (args : List AV) (sh : Heap) (K : AV → Heap → Option ρ) (r : ρ) (h : slices_IndexFunc_sf.en N ρ args sh K = some r) : ∃ v sh', K v sh' = some r ∧ FnOk (E16 N).P 42 args sh v sh' := by
  unfold slices_IndexFunc_sf.en at h
  split at h
  · exact fn_ok hE (kp := slices_IndexFunc_sf.kp) (N := N) Go.Proofs.Try.func42 (c := slices_IndexFunc_sf.bd) (by kernel_rfl) ((slices_IndexFunc_sf.eq N _ _ _ _ _ _).trans h)
  · cases h

noncomputable def E17 (N : Nat) : Env := (E16 N).add 42 (slices_IndexFunc_sf.en N)

theorem E17_ok (N : Nat) : EnvOk (E17 N) ents := Env.add_ok (E16_ok N) (slices_IndexFunc_sf.en_ok N (E16_ok N))

noncomputable def slices_ContainsFunc_sf.kp : Keeps := ⟨[], [], []⟩

noncomputable def slices_ContainsFunc_sf.bd : Code := bodyOf Go.Proofs.Try.f40

noncomputable def slices_ContainsFunc_sf.fin {ρ : Type} (N : Nat) (K : AV → Heap → Option ρ) (gv2 : Nat) (gv3 : Nat → Int) (gv4 : Nat → Int) : XE → St → Option ρ := finK (E17 N) slices_ContainsFunc_sf.kp.fins Go.Proofs.Try.f40 [⟨false, .flat gv2 (.ints .i64 gv3)⟩, ⟨false, .flat 1 (.ints .i64 gv4)⟩] K

theorem slices_ContainsFunc_sf.eq {ρ : Type} (N : Nat) (K : AV → Heap → Option ρ) (s0 : Nat) (s1 : Nat) (gv2 : Nat) (gv3 : Nat → Int) (gv4 : Nat → Int) :
    xbody (E17 N) ents slices_ContainsFunc_sf.kp N Go.Proofs.Try.f40 slices_ContainsFunc_sf.bd [.slice false 0 0 s0 (.exact s1) 1, .fn 41 0 [[(1, 1)]]] [⟨false, .flat gv2 (.ints .i64 gv3)⟩, ⟨false, .flat 1 (.ints .i64 gv4)⟩] K = (slices_ContainsFunc_sf N (fun d0 => K (.bool (d0)) [⟨false, .flat gv2 (.ints .i64 gv3)⟩, ⟨false, .flat 1 (.ints .i64 gv4)⟩]) s0 s1 gv2 gv3 gv4) := by kernel_rfl

noncomputable def slices_ContainsFunc_sf.en (N : Nat) (ρ : Type) : List AV → Heap → (AV → Heap → Option ρ) → Option ρ
  | [.slice false 0 0 s0 (.exact s1) 1, .fn 41 0 [[(1, 1)]]], [⟨false, .flat gv2 (.ints .i64 gv3)⟩, ⟨false, .flat 1 (.ints .i64 gv4)⟩], K => (slices_ContainsFunc_sf N (fun d0 => K (.bool (d0)) [⟨false, .flat gv2 (.ints .i64 gv3)⟩, ⟨false, .flat 1 (.ints .i64 gv4)⟩]) s0 s1 gv2 gv3 gv4)
  | _, _, _ => none

theorem slices_ContainsFunc_sf.en_ok (N : Nat) (hE : EnvOk (E17 N) ents) (ρ : Type) (args : List AV) (sh : Heap) (K : AV → Heap → Option ρ) (r : ρ) (h : slices_ContainsFunc_sf.en N ρ args sh K = some r) : ∃ v sh', K v sh' = some r ∧ FnOk (E17 N).P 40 args sh v sh' := by
  unfold slices_ContainsFunc_sf.en at h
  split at h
  · exact fn_ok hE (kp := slices_ContainsFunc_sf.kp) (N := N) Go.Proofs.Try.func40 (c := slices_ContainsFunc_sf.bd) (by kernel_rfl) ((slices_ContainsFunc_sf.eq N _ _ _ _ _ _).trans h)
  · cases h

noncomputable def E18 (N : Nat) : Env := (E17 N).add 40 (slices_ContainsFunc_sf.en N)

theorem E18_ok (N : Nat) : EnvOk (E18 N) ents := Env.add_ok (E17_ok N) (slices_ContainsFunc_sf.en_ok N (E17_ok N))
end Go.Proofs.Ytgfmgfgjpobndaa.H
