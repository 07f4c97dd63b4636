import Derived.Test.YtiifnnokpjbapaaRRHL0
namespace Go.Proofs.YtiifnnokpjbapaaRR.H
noncomputable section
set_option linter.unusedVariables false
set_option linter.unusedSimpArgs false
open Go Go.RowKit Go.Proofs.YtiifnnokpjbapaaRR.Hy
set_option maxRecDepth 100000
def spec_l04Is_suh.kp : Keeps := ⟨[(0, [0, 3, 4], [], []), (2, [0, 3, 4, 5], [], []), (4, [0, 3, 6], [], []), (6, [0, 3, 6, 7, 8], [], []), (8, [0, 3, 6, 7, 8, 9], [], [])], [(0, [0, 3], [], []), (2, [0, 3, 4], [], []), (4, [], [], []), (6, [0, 3, 6, 7], [], []), (8, [0, 3, 6, 7, 8], [], [])], []⟩
def spec_l04Is_suh.bd : Code := bodyOf Try.f40
def spec_l04Is_suh.fin {ρ : Type} (N : Nat) (K : AV → Heap → Option ρ) (gv1 : Nat) (gv2 : Nat) (gv3 : Nat → Nat) (gv4 : Nat → Nat) (gv5 : Nat → Int) : XE → St → Option ρ := finK (E10 N) spec_l04Is_suh.kp.fins Try.f40 [⟨false, .hdr 1 gv1 gv2 gv3 gv4 none⟩, ⟨false, .flat 0 (.ints .i64 gv5)⟩] K
def spec_l04Is_suh.k0 {ρ : Type} (N : Nat) (K : AV → Heap → Option ρ) (gv1 : Nat) (gv2 : Nat) (gv3 : Nat → Nat) (gv4 : Nat → Nat) (gv5 : Nat → Int) : XE → St → Option ρ := (blockK spec_l04Is_suh.kp 2 0 (seqK (xcode (E10 N) ents spec_l04Is_suh.kp 2 N (cB (cB (cB (cB spec_l04Is_suh.bd)))) 0) (spec_l04Is_suh.fin N K gv1 gv2 gv3 gv4 gv5)))
theorem spec_l04Is_suh.k0_mix {ρ : Type} (N : Nat) (K : AV → Heap → Option ρ) (gv1 : Nat) (gv2 : Nat) (gv3 : Nat → Nat) (gv4 : Nat → Nat) (gv5 : Nat → Int) : mixK (spec_l04Is_suh.fin N K gv1 gv2 gv3 gv4 gv5 .ret) (spec_l04Is_suh.k0 N K gv1 gv2 gv3 gv4 gv5) = (spec_l04Is_suh.k0 N K gv1 gv2 gv3 gv4 gv5) := by
  funext e s; cases e <;> kernel_rfl
def spec_l04Is_suh.st0 (table0 : Nat) (gv1 : Nat) (gv2 : Nat) (gv3 : Nat → Nat) (gv4 : Nat → Nat) (gv5 : Nat → Int) (i7 : Int) : St := ⟨sl 128 [(0, .slice true 0 0 table0 .unk 1), (3, .int .i64 ((table0 : Int))), (4, .int .i64 (i7))], [⟨false, .hdr 1 gv1 gv2 gv3 gv4 none⟩, ⟨false, .flat 0 (.ints .i64 gv5)⟩]⟩
def spec_l04Is_suh.sx0_0 (table0 : Nat) (gv1 : Nat) (gv2 : Nat) (gv3 : Nat → Nat) (gv4 : Nat → Nat) (gv5 : Nat → Int) : St := ⟨sl 128 [(0, .slice true 0 0 table0 .unk 1), (3, .int .i64 ((table0 : Int)))], [⟨false, .hdr 1 gv1 gv2 gv3 gv4 none⟩, ⟨false, .flat 0 (.ints .i64 gv5)⟩]⟩
def spec_l04Is_suh.k1g {ρ : Type} (N : Nat) (L0 : St → Option ρ) (kv : XE → St → Option ρ) : XE → St → Option ρ := (blockK spec_l04Is_suh.kp 2 2 (blockK spec_l04Is_suh.kp 2 1 (seqK (xcode (E10 N) ents spec_l04Is_suh.kp 2 N (cB (cB (cL (cK (cB (cA (cB (cB (cB spec_l04Is_suh.bd))))))))) 0) (roundK spec_l04Is_suh.kp 2 0 L0 kv))))
theorem spec_l04Is_suh.k1_mix {ρ : Type} (N : Nat) (K : AV → Heap → Option ρ) (L0 : St → Option ρ) (gv1 : Nat) (gv2 : Nat) (gv3 : Nat → Nat) (gv4 : Nat → Nat) (gv5 : Nat → Int) : mixK (spec_l04Is_suh.fin N K gv1 gv2 gv3 gv4 gv5 .ret) (spec_l04Is_suh.k1g N L0 (spec_l04Is_suh.k0 N K gv1 gv2 gv3 gv4 gv5)) = (spec_l04Is_suh.k1g N L0 (spec_l04Is_suh.k0 N K gv1 gv2 gv3 gv4 gv5)) := by
  funext e s; cases e <;> kernel_rfl
def spec_l04Is_suh.st1 (table0 : Nat) (gv1 : Nat) (gv2 : Nat) (gv3 : Nat → Nat) (gv4 : Nat → Nat) (gv5 : Nat → Int) (i7 : Int) (j8 : Int) : St := ⟨sl 128 [(0, .slice true 0 0 table0 .unk 1), (3, .int .i64 ((table0 : Int))), (4, .int .i64 (i7)), (5, .int .i64 (j8))], [⟨false, .hdr 1 gv1 gv2 gv3 gv4 none⟩, ⟨false, .flat 0 (.ints .i64 gv5)⟩]⟩
def spec_l04Is_suh.sx1_0 (table0 : Nat) (gv1 : Nat) (gv2 : Nat) (gv3 : Nat → Nat) (gv4 : Nat → Nat) (gv5 : Nat → Int) (i7 : Int) : St := ⟨sl 128 [(0, .slice true 0 0 table0 .unk 1), (3, .int .i64 ((table0 : Int))), (4, .int .i64 (i7))], [⟨false, .hdr 1 gv1 gv2 gv3 gv4 none⟩, ⟨false, .flat 0 (.ints .i64 gv5)⟩]⟩
def spec_l04Is_suh.k2 {ρ : Type} (N : Nat) (K : AV → Heap → Option ρ) (gv1 : Nat) (gv2 : Nat) (gv3 : Nat → Nat) (gv4 : Nat → Nat) (gv5 : Nat → Int) : XE → St → Option ρ := (blockK spec_l04Is_suh.kp 2 4 (seqK (xcode (E10 N) ents spec_l04Is_suh.kp 2 N (cB (cB (cB (cB (cB spec_l04Is_suh.bd))))) 0) (spec_l04Is_suh.fin N K gv1 gv2 gv3 gv4 gv5)))
theorem spec_l04Is_suh.k2_mix {ρ : Type} (N : Nat) (K : AV → Heap → Option ρ) (gv1 : Nat) (gv2 : Nat) (gv3 : Nat → Nat) (gv4 : Nat → Nat) (gv5 : Nat → Int) : mixK (spec_l04Is_suh.fin N K gv1 gv2 gv3 gv4 gv5 .ret) (spec_l04Is_suh.k2 N K gv1 gv2 gv3 gv4 gv5) = (spec_l04Is_suh.k2 N K gv1 gv2 gv3 gv4 gv5) := by
  funext e s; cases e <;> kernel_rfl
def spec_l04Is_suh.st2 (table0 : Nat) (gv1 : Nat) (gv2 : Nat) (gv3 : Nat → Nat) (gv4 : Nat → Nat) (gv5 : Nat → Int) (i10 : Int) : St := ⟨sl 128 [(0, .slice true 0 0 table0 .unk 1), (3, .int .i64 ((table0 : Int))), (6, .int .i64 (i10))], [⟨false, .hdr 1 gv1 gv2 gv3 gv4 none⟩, ⟨false, .flat 0 (.ints .i64 gv5)⟩]⟩
def spec_l04Is_suh.sx2_0 (gv1 : Nat) (gv2 : Nat) (gv3 : Nat → Nat) (gv4 : Nat → Nat) (gv5 : Nat → Int) : St := ⟨sl 128 [], [⟨false, .hdr 1 gv1 gv2 gv3 gv4 none⟩, ⟨false, .flat 0 (.ints .i64 gv5)⟩]⟩
def spec_l04Is_suh.k3g {ρ : Type} (N : Nat) (L2 : St → Option ρ) (kv : XE → St → Option ρ) : XE → St → Option ρ := (blockK spec_l04Is_suh.kp 2 6 (seqK (xcode (E10 N) ents spec_l04Is_suh.kp 2 N (cB (cB (cK (cA (cB (cL (cK (cB (cA (cB (cB (cB (cB spec_l04Is_suh.bd))))))))))))) 5) (blockK spec_l04Is_suh.kp 2 5 (seqK (xcode (E10 N) ents spec_l04Is_suh.kp 2 N (cB (cB (cL (cK (cB (cA (cB (cB (cB (cB spec_l04Is_suh.bd)))))))))) 4) (roundK spec_l04Is_suh.kp 2 4 L2 kv)))))
theorem spec_l04Is_suh.k3_mix {ρ : Type} (N : Nat) (K : AV → Heap → Option ρ) (L2 : St → Option ρ) (gv1 : Nat) (gv2 : Nat) (gv3 : Nat → Nat) (gv4 : Nat → Nat) (gv5 : Nat → Int) : mixK (spec_l04Is_suh.fin N K gv1 gv2 gv3 gv4 gv5 .ret) (spec_l04Is_suh.k3g N L2 (spec_l04Is_suh.k2 N K gv1 gv2 gv3 gv4 gv5)) = (spec_l04Is_suh.k3g N L2 (spec_l04Is_suh.k2 N K gv1 gv2 gv3 gv4 gv5)) := by
  funext e s; cases e <;> kernel_rfl
def spec_l04Is_suh.st3 (table0 : Nat) (gv1 : Nat) (gv2 : Nat) (gv3 : Nat → Nat) (gv4 : Nat → Nat) (gv5 : Nat → Int) (i10 : Int) (inverse11 : Bool) (j12 : Int) : St := ⟨sl 128 [(0, .slice true 0 0 table0 .unk 1), (3, .int .i64 ((table0 : Int))), (6, .int .i64 (i10)), (7, .bool (inverse11)), (8, .int .i64 (j12))], [⟨false, .hdr 1 gv1 gv2 gv3 gv4 none⟩, ⟨false, .flat 0 (.ints .i64 gv5)⟩]⟩
def spec_l04Is_suh.sx3_0 (table0 : Nat) (gv1 : Nat) (gv2 : Nat) (gv3 : Nat → Nat) (gv4 : Nat → Nat) (gv5 : Nat → Int) (i10 : Int) (ov16 : Bool) : St := ⟨sl 128 [(0, .slice true 0 0 table0 .unk 1), (3, .int .i64 ((table0 : Int))), (6, .int .i64 (i10)), (7, .bool (ov16))], [⟨false, .hdr 1 gv1 gv2 gv3 gv4 none⟩, ⟨false, .flat 0 (.ints .i64 gv5)⟩]⟩
def spec_l04Is_suh.k4g {ρ : Type} (N : Nat) (L3 : St → Option ρ) (kv : XE → St → Option ρ) : XE → St → Option ρ := (blockK spec_l04Is_suh.kp 2 8 (blockK spec_l04Is_suh.kp 2 7 (seqK (xcode (E10 N) ents spec_l04Is_suh.kp 2 N (cB (cB (cL (cK (cB (cA (cB (cK (cA (cB (cL (cK (cB (cA (cB (cB (cB (cB spec_l04Is_suh.bd)))))))))))))))))) 6) (roundK spec_l04Is_suh.kp 2 6 L3 kv))))
theorem spec_l04Is_suh.k4_mix {ρ : Type} (N : Nat) (K : AV → Heap → Option ρ) (L2 : St → Option ρ) (L3 : St → Option ρ) (gv1 : Nat) (gv2 : Nat) (gv3 : Nat → Nat) (gv4 : Nat → Nat) (gv5 : Nat → Int) : mixK (spec_l04Is_suh.fin N K gv1 gv2 gv3 gv4 gv5 .ret) (spec_l04Is_suh.k4g N L3 (spec_l04Is_suh.k3g N L2 (spec_l04Is_suh.k2 N K gv1 gv2 gv3 gv4 gv5))) = (spec_l04Is_suh.k4g N L3 (spec_l04Is_suh.k3g N L2 (spec_l04Is_suh.k2 N K gv1 gv2 gv3 gv4 gv5))) := by
  funext e s; cases e <;> kernel_rfl
def spec_l04Is_suh.st4 (table0 : Nat) (gv1 : Nat) (gv2 : Nat) (gv3 : Nat → Nat) (gv4 : Nat → Nat) (gv5 : Nat → Int) (i10 : Int) (j12 : Int) (k13 : Int) : St := ⟨sl 128 [(0, .slice true 0 0 table0 .unk 1), (3, .int .i64 ((table0 : Int))), (6, .int .i64 (i10)), (7, .bool true), (8, .int .i64 (j12)), (9, .int .i64 (k13))], [⟨false, .hdr 1 gv1 gv2 gv3 gv4 none⟩, ⟨false, .flat 0 (.ints .i64 gv5)⟩]⟩
def spec_l04Is_suh.sx4_0 (table0 : Nat) (gv1 : Nat) (gv2 : Nat) (gv3 : Nat → Nat) (gv4 : Nat → Nat) (gv5 : Nat → Int) (i10 : Int) (j12 : Int) : St := ⟨sl 128 [(0, .slice true 0 0 table0 .unk 1), (3, .int .i64 ((table0 : Int))), (6, .int .i64 (i10)), (7, .bool true), (8, .int .i64 (j12))], [⟨false, .hdr 1 gv1 gv2 gv3 gv4 none⟩, ⟨false, .flat 0 (.ints .i64 gv5)⟩]⟩
def spec_l04Is_suh.k5g {ρ : Type} (N : Nat) (L3 : St → Option ρ) (kv : XE → St → Option ρ) : XE → St → Option ρ := (blockK spec_l04Is_suh.kp 2 8 (blockK spec_l04Is_suh.kp 2 7 (seqK (xcode (E10 N) ents spec_l04Is_suh.kp 2 N (cB (cB (cL (cK (cB (cA (cB (cK (cA (cB (cL (cK (cB (cA (cB (cB (cB (cB spec_l04Is_suh.bd)))))))))))))))))) 6) (roundK spec_l04Is_suh.kp 2 6 L3 kv))))
theorem spec_l04Is_suh.k5_mix {ρ : Type} (N : Nat) (K : AV → Heap → Option ρ) (L2 : St → Option ρ) (L3 : St → Option ρ) (gv1 : Nat) (gv2 : Nat) (gv3 : Nat → Nat) (gv4 : Nat → Nat) (gv5 : Nat → Int) : mixK (spec_l04Is_suh.fin N K gv1 gv2 gv3 gv4 gv5 .ret) (spec_l04Is_suh.k5g N L3 (spec_l04Is_suh.k3g N L2 (spec_l04Is_suh.k2 N K gv1 gv2 gv3 gv4 gv5))) = (spec_l04Is_suh.k5g N L3 (spec_l04Is_suh.k3g N L2 (spec_l04Is_suh.k2 N K gv1 gv2 gv3 gv4 gv5))) := by
  funext e s; cases e <;> kernel_rfl
def spec_l04Is_suh.st5 (table0 : Nat) (gv1 : Nat) (gv2 : Nat) (gv3 : Nat → Nat) (gv4 : Nat → Nat) (gv5 : Nat → Int) (i10 : Int) (j12 : Int) (k14 : Int) : St := ⟨sl 128 [(0, .slice true 0 0 table0 .unk 1), (3, .int .i64 ((table0 : Int))), (6, .int .i64 (i10)), (7, .bool (((gv5 ((gv3 (0 + (j12.toNat * 1))) + (i10.toNat * 1))) == 0))), (8, .int .i64 (j12)), (9, .int .i64 (k14))], [⟨false, .hdr 1 gv1 gv2 gv3 gv4 none⟩, ⟨false, .flat 0 (.ints .i64 gv5)⟩]⟩
def spec_l04Is_suh.sx5_0 (table0 : Nat) (gv1 : Nat) (gv2 : Nat) (gv3 : Nat → Nat) (gv4 : Nat → Nat) (gv5 : Nat → Int) (i10 : Int) (j12 : Int) : St := ⟨sl 128 [(0, .slice true 0 0 table0 .unk 1), (3, .int .i64 ((table0 : Int))), (6, .int .i64 (i10)), (7, .bool (((gv5 ((gv3 (0 + (j12.toNat * 1))) + (i10.toNat * 1))) == 0))), (8, .int .i64 (j12))], [⟨false, .hdr 1 gv1 gv2 gv3 gv4 none⟩, ⟨false, .flat 0 (.ints .i64 gv5)⟩]⟩
def spec_l04Is_suh.k6g {ρ : Type} (N : Nat) (L3 : St → Option ρ) (kv : XE → St → Option ρ) : XE → St → Option ρ := (blockK spec_l04Is_suh.kp 2 8 (blockK spec_l04Is_suh.kp 2 7 (seqK (xcode (E10 N) ents spec_l04Is_suh.kp 2 N (cB (cB (cL (cK (cB (cA (cB (cK (cA (cB (cL (cK (cB (cA (cB (cB (cB (cB spec_l04Is_suh.bd)))))))))))))))))) 6) (roundK spec_l04Is_suh.kp 2 6 L3 kv))))
theorem spec_l04Is_suh.k6_mix {ρ : Type} (N : Nat) (K : AV → Heap → Option ρ) (L2 : St → Option ρ) (L3 : St → Option ρ) (gv1 : Nat) (gv2 : Nat) (gv3 : Nat → Nat) (gv4 : Nat → Nat) (gv5 : Nat → Int) : mixK (spec_l04Is_suh.fin N K gv1 gv2 gv3 gv4 gv5 .ret) (spec_l04Is_suh.k6g N L3 (spec_l04Is_suh.k3g N L2 (spec_l04Is_suh.k2 N K gv1 gv2 gv3 gv4 gv5))) = (spec_l04Is_suh.k6g N L3 (spec_l04Is_suh.k3g N L2 (spec_l04Is_suh.k2 N K gv1 gv2 gv3 gv4 gv5))) := by
  funext e s; cases e <;> kernel_rfl
def spec_l04Is_suh.st6 (table0 : Nat) (gv1 : Nat) (gv2 : Nat) (gv3 : Nat → Nat) (gv4 : Nat → Nat) (gv5 : Nat → Int) (i10 : Int) (j12 : Int) (k15 : Int) : St := ⟨sl 128 [(0, .slice true 0 0 table0 .unk 1), (3, .int .i64 ((table0 : Int))), (6, .int .i64 (i10)), (7, .bool false), (8, .int .i64 (j12)), (9, .int .i64 (k15))], [⟨false, .hdr 1 gv1 gv2 gv3 gv4 none⟩, ⟨false, .flat 0 (.ints .i64 gv5)⟩]⟩
def spec_l04Is_suh.sx6_0 (table0 : Nat) (gv1 : Nat) (gv2 : Nat) (gv3 : Nat → Nat) (gv4 : Nat → Nat) (gv5 : Nat → Int) (i10 : Int) (j12 : Int) : St := ⟨sl 128 [(0, .slice true 0 0 table0 .unk 1), (3, .int .i64 ((table0 : Int))), (6, .int .i64 (i10)), (7, .bool false), (8, .int .i64 (j12))], [⟨false, .hdr 1 gv1 gv2 gv3 gv4 none⟩, ⟨false, .flat 0 (.ints .i64 gv5)⟩]⟩
theorem spec_l04Is_suh.b1_gen {ρ : Type} (N : Nat) (K : AV → Heap → Option ρ) (L1 : St → Option ρ) (kv : XE → St → Option ρ) (table0 : Nat) (gv1 : Nat) (gv2 : Nat) (gv3 : Nat → Nat) (gv4 : Nat → Nat) (gv5 : Nat → Int) (i7 : Int) (j8 : Int) :
    xcode (E10 N) ents spec_l04Is_suh.kp 2 N (cL (cK (cB (cB (cK (cA (cB (cL (cK (cB (cA (cB (cB (cB spec_l04Is_suh.bd)))))))))))))) 2 (spec_l04Is_suh.st1 table0 gv1 gv2 gv3 gv4 gv5 i7 j8) (roundK spec_l04Is_suh.kp 2 2 L1 (mixK (spec_l04Is_suh.fin N K gv1 gv2 gv3 gv4 gv5 .ret) kv)) = (spec_l04Is_suh.b1 N (fun d0 => K (.bool (d0)) [⟨false, .hdr 1 gv1 gv2 gv3 gv4 none⟩, ⟨false, .flat 0 (.ints .i64 gv5)⟩]) (fun j8 => L1 (spec_l04Is_suh.st1 table0 gv1 gv2 gv3 gv4 gv5 i7 j8)) (kv (.exit 2) (spec_l04Is_suh.sx1_0 table0 gv1 gv2 gv3 gv4 gv5 i7)) table0 gv3 gv4 gv5 i7 j8) := by kernel_rfl
theorem spec_l04Is_suh.b1_eq {ρ : Type} (N : Nat) (K : AV → Heap → Option ρ) (L0 : St → Option ρ) (L1 : St → Option ρ) (table0 : Nat) (gv1 : Nat) (gv2 : Nat) (gv3 : Nat → Nat) (gv4 : Nat → Nat) (gv5 : Nat → Int) (i7 : Int) (j8 : Int) :
    xcode (E10 N) ents spec_l04Is_suh.kp 2 N (cL (cK (cB (cB (cK (cA (cB (cL (cK (cB (cA (cB (cB (cB spec_l04Is_suh.bd)))))))))))))) 2 (spec_l04Is_suh.st1 table0 gv1 gv2 gv3 gv4 gv5 i7 j8) (roundK spec_l04Is_suh.kp 2 2 L1 (spec_l04Is_suh.k1g N L0 (spec_l04Is_suh.k0 N K gv1 gv2 gv3 gv4 gv5))) = (spec_l04Is_suh.b1 N (fun d0 => K (.bool (d0)) [⟨false, .hdr 1 gv1 gv2 gv3 gv4 none⟩, ⟨false, .flat 0 (.ints .i64 gv5)⟩]) (fun j8 => L1 (spec_l04Is_suh.st1 table0 gv1 gv2 gv3 gv4 gv5 i7 j8)) ((spec_l04Is_suh.k1g N L0 (spec_l04Is_suh.k0 N K gv1 gv2 gv3 gv4 gv5)) (.exit 2) (spec_l04Is_suh.sx1_0 table0 gv1 gv2 gv3 gv4 gv5 i7)) table0 gv3 gv4 gv5 i7 j8) := by
  have h := spec_l04Is_suh.b1_gen N K L1 (spec_l04Is_suh.k1g N L0 (spec_l04Is_suh.k0 N K gv1 gv2 gv3 gv4 gv5)) table0 gv1 gv2 gv3 gv4 gv5 i7 j8
  rw [spec_l04Is_suh.k1_mix] at h
  exact h
theorem spec_l04Is_suh.a1_0_gen {ρ : Type} (N : Nat) (K : AV → Heap → Option ρ) (L0 : St → Option ρ) (kv : XE → St → Option ρ) (table0 : Nat) (gv1 : Nat) (gv2 : Nat) (gv3 : Nat → Nat) (gv4 : Nat → Nat) (gv5 : Nat → Int) (i7 : Int) :
    (spec_l04Is_suh.k1g N L0 (mixK (spec_l04Is_suh.fin N K gv1 gv2 gv3 gv4 gv5 .ret) kv)) (.exit 2) (spec_l04Is_suh.sx1_0 table0 gv1 gv2 gv3 gv4 gv5 i7) = (spec_l04Is_suh.a1_0 N (fun d0 => K (.bool (d0)) [⟨false, .hdr 1 gv1 gv2 gv3 gv4 none⟩, ⟨false, .flat 0 (.ints .i64 gv5)⟩]) (fun i7 => L0 (spec_l04Is_suh.st0 table0 gv1 gv2 gv3 gv4 gv5 i7)) (kv (.exit 0) (spec_l04Is_suh.sx0_0 table0 gv1 gv2 gv3 gv4 gv5)) i7) := by kernel_rfl
theorem spec_l04Is_suh.a1_0_eq {ρ : Type} (N : Nat) (K : AV → Heap → Option ρ) (L0 : St → Option ρ) (table0 : Nat) (gv1 : Nat) (gv2 : Nat) (gv3 : Nat → Nat) (gv4 : Nat → Nat) (gv5 : Nat → Int) (i7 : Int) :
    (spec_l04Is_suh.k1g N L0 (spec_l04Is_suh.k0 N K gv1 gv2 gv3 gv4 gv5)) (.exit 2) (spec_l04Is_suh.sx1_0 table0 gv1 gv2 gv3 gv4 gv5 i7) = (spec_l04Is_suh.a1_0 N (fun d0 => K (.bool (d0)) [⟨false, .hdr 1 gv1 gv2 gv3 gv4 none⟩, ⟨false, .flat 0 (.ints .i64 gv5)⟩]) (fun i7 => L0 (spec_l04Is_suh.st0 table0 gv1 gv2 gv3 gv4 gv5 i7)) ((spec_l04Is_suh.k0 N K gv1 gv2 gv3 gv4 gv5) (.exit 0) (spec_l04Is_suh.sx0_0 table0 gv1 gv2 gv3 gv4 gv5)) i7) := by
  have h := spec_l04Is_suh.a1_0_gen N K L0 (spec_l04Is_suh.k0 N K gv1 gv2 gv3 gv4 gv5) table0 gv1 gv2 gv3 gv4 gv5 i7
  rw [spec_l04Is_suh.k0_mix] at h
  exact h
theorem spec_l04Is_suh.b4_gen {ρ : Type} (N : Nat) (K : AV → Heap → Option ρ) (L4 : St → Option ρ) (kv : XE → St → Option ρ) (table0 : Nat) (gv1 : Nat) (gv2 : Nat) (gv3 : Nat → Nat) (gv4 : Nat → Nat) (gv5 : Nat → Int) (i10 : Int) (j12 : Int) (k13 : Int) :
    xcode (E10 N) ents spec_l04Is_suh.kp 2 N (cL (cK (cB (cB (cK (cA (cB (cL (cK (cB (cA (cB (cK (cA (cB (cL (cK (cB (cA (cB (cB (cB (cB spec_l04Is_suh.bd))))))))))))))))))))))) 8 (spec_l04Is_suh.st4 table0 gv1 gv2 gv3 gv4 gv5 i10 j12 k13) (roundK spec_l04Is_suh.kp 2 8 L4 (mixK (spec_l04Is_suh.fin N K gv1 gv2 gv3 gv4 gv5 .ret) kv)) = (spec_l04Is_suh.b4 N (fun d0 => K (.bool (d0)) [⟨false, .hdr 1 gv1 gv2 gv3 gv4 none⟩, ⟨false, .flat 0 (.ints .i64 gv5)⟩]) (fun k13 => L4 (spec_l04Is_suh.st4 table0 gv1 gv2 gv3 gv4 gv5 i10 j12 k13)) (kv (.exit 8) (spec_l04Is_suh.sx4_0 table0 gv1 gv2 gv3 gv4 gv5 i10 j12)) table0 gv3 gv4 gv5 i10 j12 k13) := by kernel_rfl
theorem spec_l04Is_suh.b4_eq {ρ : Type} (N : Nat) (K : AV → Heap → Option ρ) (L2 : St → Option ρ) (L3 : St → Option ρ) (L4 : St → Option ρ) (table0 : Nat) (gv1 : Nat) (gv2 : Nat) (gv3 : Nat → Nat) (gv4 : Nat → Nat) (gv5 : Nat → Int) (i10 : Int) (j12 : Int) (k13 : Int) :
    xcode (E10 N) ents spec_l04Is_suh.kp 2 N (cL (cK (cB (cB (cK (cA (cB (cL (cK (cB (cA (cB (cK (cA (cB (cL (cK (cB (cA (cB (cB (cB (cB spec_l04Is_suh.bd))))))))))))))))))))))) 8 (spec_l04Is_suh.st4 table0 gv1 gv2 gv3 gv4 gv5 i10 j12 k13) (roundK spec_l04Is_suh.kp 2 8 L4 (spec_l04Is_suh.k4g N L3 (spec_l04Is_suh.k3g N L2 (spec_l04Is_suh.k2 N K gv1 gv2 gv3 gv4 gv5)))) = (spec_l04Is_suh.b4 N (fun d0 => K (.bool (d0)) [⟨false, .hdr 1 gv1 gv2 gv3 gv4 none⟩, ⟨false, .flat 0 (.ints .i64 gv5)⟩]) (fun k13 => L4 (spec_l04Is_suh.st4 table0 gv1 gv2 gv3 gv4 gv5 i10 j12 k13)) ((spec_l04Is_suh.k4g N L3 (spec_l04Is_suh.k3g N L2 (spec_l04Is_suh.k2 N K gv1 gv2 gv3 gv4 gv5))) (.exit 8) (spec_l04Is_suh.sx4_0 table0 gv1 gv2 gv3 gv4 gv5 i10 j12)) table0 gv3 gv4 gv5 i10 j12 k13) := by
  have h := spec_l04Is_suh.b4_gen N K L4 (spec_l04Is_suh.k4g N L3 (spec_l04Is_suh.k3g N L2 (spec_l04Is_suh.k2 N K gv1 gv2 gv3 gv4 gv5))) table0 gv1 gv2 gv3 gv4 gv5 i10 j12 k13
  rw [spec_l04Is_suh.k4_mix] at h
  exact h
theorem spec_l04Is_suh.a4_0_gen {ρ : Type} (N : Nat) (K : AV → Heap → Option ρ) (L3 : St → Option ρ) (kv : XE → St → Option ρ) (table0 : Nat) (gv1 : Nat) (gv2 : Nat) (gv3 : Nat → Nat) (gv4 : Nat → Nat) (gv5 : Nat → Int) (i10 : Int) (j12 : Int) :
    (spec_l04Is_suh.k4g N L3 (mixK (spec_l04Is_suh.fin N K gv1 gv2 gv3 gv4 gv5 .ret) kv)) (.exit 8) (spec_l04Is_suh.sx4_0 table0 gv1 gv2 gv3 gv4 gv5 i10 j12) = (spec_l04Is_suh.a4_0 N (fun d0 => K (.bool (d0)) [⟨false, .hdr 1 gv1 gv2 gv3 gv4 none⟩, ⟨false, .flat 0 (.ints .i64 gv5)⟩]) (fun inverse11 j12 => L3 (spec_l04Is_suh.st3 table0 gv1 gv2 gv3 gv4 gv5 i10 inverse11 j12)) (fun ov16 => kv (.exit 6) (spec_l04Is_suh.sx3_0 table0 gv1 gv2 gv3 gv4 gv5 i10 ov16)) j12) := by kernel_rfl
theorem spec_l04Is_suh.a4_0_eq {ρ : Type} (N : Nat) (K : AV → Heap → Option ρ) (L2 : St → Option ρ) (L3 : St → Option ρ) (table0 : Nat) (gv1 : Nat) (gv2 : Nat) (gv3 : Nat → Nat) (gv4 : Nat → Nat) (gv5 : Nat → Int) (i10 : Int) (j12 : Int) :
    (spec_l04Is_suh.k4g N L3 (spec_l04Is_suh.k3g N L2 (spec_l04Is_suh.k2 N K gv1 gv2 gv3 gv4 gv5))) (.exit 8) (spec_l04Is_suh.sx4_0 table0 gv1 gv2 gv3 gv4 gv5 i10 j12) = (spec_l04Is_suh.a4_0 N (fun d0 => K (.bool (d0)) [⟨false, .hdr 1 gv1 gv2 gv3 gv4 none⟩, ⟨false, .flat 0 (.ints .i64 gv5)⟩]) (fun inverse11 j12 => L3 (spec_l04Is_suh.st3 table0 gv1 gv2 gv3 gv4 gv5 i10 inverse11 j12)) (fun ov16 => (spec_l04Is_suh.k3g N L2 (spec_l04Is_suh.k2 N K gv1 gv2 gv3 gv4 gv5)) (.exit 6) (spec_l04Is_suh.sx3_0 table0 gv1 gv2 gv3 gv4 gv5 i10 ov16)) j12) := by
  have h := spec_l04Is_suh.a4_0_gen N K L3 (spec_l04Is_suh.k3g N L2 (spec_l04Is_suh.k2 N K gv1 gv2 gv3 gv4 gv5)) table0 gv1 gv2 gv3 gv4 gv5 i10 j12
  rw [spec_l04Is_suh.k3_mix] at h
  exact h
theorem spec_l04Is_suh.b5_gen {ρ : Type} (N : Nat) (K : AV → Heap → Option ρ) (L5 : St → Option ρ) (kv : XE → St → Option ρ) (table0 : Nat) (gv1 : Nat) (gv2 : Nat) (gv3 : Nat → Nat) (gv4 : Nat → Nat) (gv5 : Nat → Int) (i10 : Int) (j12 : Int) (k14 : Int) :
    xcode (E10 N) ents spec_l04Is_suh.kp 2 N (cL (cK (cB (cB (cK (cA (cB (cL (cK (cB (cA (cB (cK (cA (cB (cL (cK (cB (cA (cB (cB (cB (cB spec_l04Is_suh.bd))))))))))))))))))))))) 8 (spec_l04Is_suh.st5 table0 gv1 gv2 gv3 gv4 gv5 i10 j12 k14) (roundK spec_l04Is_suh.kp 2 8 L5 (mixK (spec_l04Is_suh.fin N K gv1 gv2 gv3 gv4 gv5 .ret) kv)) = (spec_l04Is_suh.b5 N (fun d0 => K (.bool (d0)) [⟨false, .hdr 1 gv1 gv2 gv3 gv4 none⟩, ⟨false, .flat 0 (.ints .i64 gv5)⟩]) (fun k14 => L5 (spec_l04Is_suh.st5 table0 gv1 gv2 gv3 gv4 gv5 i10 j12 k14)) (kv (.exit 8) (spec_l04Is_suh.sx5_0 table0 gv1 gv2 gv3 gv4 gv5 i10 j12)) table0 gv3 gv4 gv5 i10 j12 k14) := by kernel_rfl
theorem spec_l04Is_suh.b5_eq {ρ : Type} (N : Nat) (K : AV → Heap → Option ρ) (L2 : St → Option ρ) (L3 : St → Option ρ) (L5 : St → Option ρ) (table0 : Nat) (gv1 : Nat) (gv2 : Nat) (gv3 : Nat → Nat) (gv4 : Nat → Nat) (gv5 : Nat → Int) (i10 : Int) (j12 : Int) (k14 : Int) :
    xcode (E10 N) ents spec_l04Is_suh.kp 2 N (cL (cK (cB (cB (cK (cA (cB (cL (cK (cB (cA (cB (cK (cA (cB (cL (cK (cB (cA (cB (cB (cB (cB spec_l04Is_suh.bd))))))))))))))))))))))) 8 (spec_l04Is_suh.st5 table0 gv1 gv2 gv3 gv4 gv5 i10 j12 k14) (roundK spec_l04Is_suh.kp 2 8 L5 (spec_l04Is_suh.k5g N L3 (spec_l04Is_suh.k3g N L2 (spec_l04Is_suh.k2 N K gv1 gv2 gv3 gv4 gv5)))) = (spec_l04Is_suh.b5 N (fun d0 => K (.bool (d0)) [⟨false, .hdr 1 gv1 gv2 gv3 gv4 none⟩, ⟨false, .flat 0 (.ints .i64 gv5)⟩]) (fun k14 => L5 (spec_l04Is_suh.st5 table0 gv1 gv2 gv3 gv4 gv5 i10 j12 k14)) ((spec_l04Is_suh.k5g N L3 (spec_l04Is_suh.k3g N L2 (spec_l04Is_suh.k2 N K gv1 gv2 gv3 gv4 gv5))) (.exit 8) (spec_l04Is_suh.sx5_0 table0 gv1 gv2 gv3 gv4 gv5 i10 j12)) table0 gv3 gv4 gv5 i10 j12 k14) := by
  have h := spec_l04Is_suh.b5_gen N K L5 (spec_l04Is_suh.k5g N L3 (spec_l04Is_suh.k3g N L2 (spec_l04Is_suh.k2 N K gv1 gv2 gv3 gv4 gv5))) table0 gv1 gv2 gv3 gv4 gv5 i10 j12 k14
  rw [spec_l04Is_suh.k5_mix] at h
  exact h
theorem spec_l04Is_suh.a5_0_gen {ρ : Type} (N : Nat) (K : AV → Heap → Option ρ) (L3 : St → Option ρ) (kv : XE → St → Option ρ) (table0 : Nat) (gv1 : Nat) (gv2 : Nat) (gv3 : Nat → Nat) (gv4 : Nat → Nat) (gv5 : Nat → Int) (i10 : Int) (j12 : Int) :
    (spec_l04Is_suh.k5g N L3 (mixK (spec_l04Is_suh.fin N K gv1 gv2 gv3 gv4 gv5 .ret) kv)) (.exit 8) (spec_l04Is_suh.sx5_0 table0 gv1 gv2 gv3 gv4 gv5 i10 j12) = (spec_l04Is_suh.a5_0 N (fun d0 => K (.bool (d0)) [⟨false, .hdr 1 gv1 gv2 gv3 gv4 none⟩, ⟨false, .flat 0 (.ints .i64 gv5)⟩]) (fun inverse11 j12 => L3 (spec_l04Is_suh.st3 table0 gv1 gv2 gv3 gv4 gv5 i10 inverse11 j12)) (fun ov16 => kv (.exit 6) (spec_l04Is_suh.sx3_0 table0 gv1 gv2 gv3 gv4 gv5 i10 ov16)) gv3 gv5 i10 j12) := by kernel_rfl
theorem spec_l04Is_suh.a5_0_eq {ρ : Type} (N : Nat) (K : AV → Heap → Option ρ) (L2 : St → Option ρ) (L3 : St → Option ρ) (table0 : Nat) (gv1 : Nat) (gv2 : Nat) (gv3 : Nat → Nat) (gv4 : Nat → Nat) (gv5 : Nat → Int) (i10 : Int) (j12 : Int) :
    (spec_l04Is_suh.k5g N L3 (spec_l04Is_suh.k3g N L2 (spec_l04Is_suh.k2 N K gv1 gv2 gv3 gv4 gv5))) (.exit 8) (spec_l04Is_suh.sx5_0 table0 gv1 gv2 gv3 gv4 gv5 i10 j12) = (spec_l04Is_suh.a5_0 N (fun d0 => K (.bool (d0)) [⟨false, .hdr 1 gv1 gv2 gv3 gv4 none⟩, ⟨false, .flat 0 (.ints .i64 gv5)⟩]) (fun inverse11 j12 => L3 (spec_l04Is_suh.st3 table0 gv1 gv2 gv3 gv4 gv5 i10 inverse11 j12)) (fun ov16 => (spec_l04Is_suh.k3g N L2 (spec_l04Is_suh.k2 N K gv1 gv2 gv3 gv4 gv5)) (.exit 6) (spec_l04Is_suh.sx3_0 table0 gv1 gv2 gv3 gv4 gv5 i10 ov16)) gv3 gv5 i10 j12) := by
  have h := spec_l04Is_suh.a5_0_gen N K L3 (spec_l04Is_suh.k3g N L2 (spec_l04Is_suh.k2 N K gv1 gv2 gv3 gv4 gv5)) table0 gv1 gv2 gv3 gv4 gv5 i10 j12
  rw [spec_l04Is_suh.k3_mix] at h
  exact h
theorem spec_l04Is_suh.b6_gen {ρ : Type} (N : Nat) (K : AV → Heap → Option ρ) (L6 : St → Option ρ) (kv : XE → St → Option ρ) (table0 : Nat) (gv1 : Nat) (gv2 : Nat) (gv3 : Nat → Nat) (gv4 : Nat → Nat) (gv5 : Nat → Int) (i10 : Int) (j12 : Int) (k15 : Int) :
    xcode (E10 N) ents spec_l04Is_suh.kp 2 N (cL (cK (cB (cB (cK (cA (cB (cL (cK (cB (cA (cB (cK (cA (cB (cL (cK (cB (cA (cB (cB (cB (cB spec_l04Is_suh.bd))))))))))))))))))))))) 8 (spec_l04Is_suh.st6 table0 gv1 gv2 gv3 gv4 gv5 i10 j12 k15) (roundK spec_l04Is_suh.kp 2 8 L6 (mixK (spec_l04Is_suh.fin N K gv1 gv2 gv3 gv4 gv5 .ret) kv)) = (spec_l04Is_suh.b6 N (fun d0 => K (.bool (d0)) [⟨false, .hdr 1 gv1 gv2 gv3 gv4 none⟩, ⟨false, .flat 0 (.ints .i64 gv5)⟩]) (fun k15 => L6 (spec_l04Is_suh.st6 table0 gv1 gv2 gv3 gv4 gv5 i10 j12 k15)) (kv (.exit 8) (spec_l04Is_suh.sx6_0 table0 gv1 gv2 gv3 gv4 gv5 i10 j12)) table0 gv3 gv4 gv5 i10 j12 k15) := by kernel_rfl
theorem spec_l04Is_suh.b6_eq {ρ : Type} (N : Nat) (K : AV → Heap → Option ρ) (L2 : St → Option ρ) (L3 : St → Option ρ) (L6 : St → Option ρ) (table0 : Nat) (gv1 : Nat) (gv2 : Nat) (gv3 : Nat → Nat) (gv4 : Nat → Nat) (gv5 : Nat → Int) (i10 : Int) (j12 : Int) (k15 : Int) :
    xcode (E10 N) ents spec_l04Is_suh.kp 2 N (cL (cK (cB (cB (cK (cA (cB (cL (cK (cB (cA (cB (cK (cA (cB (cL (cK (cB (cA (cB (cB (cB (cB spec_l04Is_suh.bd))))))))))))))))))))))) 8 (spec_l04Is_suh.st6 table0 gv1 gv2 gv3 gv4 gv5 i10 j12 k15) (roundK spec_l04Is_suh.kp 2 8 L6 (spec_l04Is_suh.k6g N L3 (spec_l04Is_suh.k3g N L2 (spec_l04Is_suh.k2 N K gv1 gv2 gv3 gv4 gv5)))) = (spec_l04Is_suh.b6 N (fun d0 => K (.bool (d0)) [⟨false, .hdr 1 gv1 gv2 gv3 gv4 none⟩, ⟨false, .flat 0 (.ints .i64 gv5)⟩]) (fun k15 => L6 (spec_l04Is_suh.st6 table0 gv1 gv2 gv3 gv4 gv5 i10 j12 k15)) ((spec_l04Is_suh.k6g N L3 (spec_l04Is_suh.k3g N L2 (spec_l04Is_suh.k2 N K gv1 gv2 gv3 gv4 gv5))) (.exit 8) (spec_l04Is_suh.sx6_0 table0 gv1 gv2 gv3 gv4 gv5 i10 j12)) table0 gv3 gv4 gv5 i10 j12 k15) := by
  have h := spec_l04Is_suh.b6_gen N K L6 (spec_l04Is_suh.k6g N L3 (spec_l04Is_suh.k3g N L2 (spec_l04Is_suh.k2 N K gv1 gv2 gv3 gv4 gv5))) table0 gv1 gv2 gv3 gv4 gv5 i10 j12 k15
  rw [spec_l04Is_suh.k6_mix] at h
  exact h
theorem spec_l04Is_suh.a6_0_gen {ρ : Type} (N : Nat) (K : AV → Heap → Option ρ) (L3 : St → Option ρ) (kv : XE → St → Option ρ) (table0 : Nat) (gv1 : Nat) (gv2 : Nat) (gv3 : Nat → Nat) (gv4 : Nat → Nat) (gv5 : Nat → Int) (i10 : Int) (j12 : Int) :
    (spec_l04Is_suh.k6g N L3 (mixK (spec_l04Is_suh.fin N K gv1 gv2 gv3 gv4 gv5 .ret) kv)) (.exit 8) (spec_l04Is_suh.sx6_0 table0 gv1 gv2 gv3 gv4 gv5 i10 j12) = (spec_l04Is_suh.a6_0 N (fun d0 => K (.bool (d0)) [⟨false, .hdr 1 gv1 gv2 gv3 gv4 none⟩, ⟨false, .flat 0 (.ints .i64 gv5)⟩]) (fun inverse11 j12 => L3 (spec_l04Is_suh.st3 table0 gv1 gv2 gv3 gv4 gv5 i10 inverse11 j12)) (fun ov16 => kv (.exit 6) (spec_l04Is_suh.sx3_0 table0 gv1 gv2 gv3 gv4 gv5 i10 ov16)) j12) := by kernel_rfl
theorem spec_l04Is_suh.a6_0_eq {ρ : Type} (N : Nat) (K : AV → Heap → Option ρ) (L2 : St → Option ρ) (L3 : St → Option ρ) (table0 : Nat) (gv1 : Nat) (gv2 : Nat) (gv3 : Nat → Nat) (gv4 : Nat → Nat) (gv5 : Nat → Int) (i10 : Int) (j12 : Int) :
    (spec_l04Is_suh.k6g N L3 (spec_l04Is_suh.k3g N L2 (spec_l04Is_suh.k2 N K gv1 gv2 gv3 gv4 gv5))) (.exit 8) (spec_l04Is_suh.sx6_0 table0 gv1 gv2 gv3 gv4 gv5 i10 j12) = (spec_l04Is_suh.a6_0 N (fun d0 => K (.bool (d0)) [⟨false, .hdr 1 gv1 gv2 gv3 gv4 none⟩, ⟨false, .flat 0 (.ints .i64 gv5)⟩]) (fun inverse11 j12 => L3 (spec_l04Is_suh.st3 table0 gv1 gv2 gv3 gv4 gv5 i10 inverse11 j12)) (fun ov16 => (spec_l04Is_suh.k3g N L2 (spec_l04Is_suh.k2 N K gv1 gv2 gv3 gv4 gv5)) (.exit 6) (spec_l04Is_suh.sx3_0 table0 gv1 gv2 gv3 gv4 gv5 i10 ov16)) j12) := by
  have h := spec_l04Is_suh.a6_0_gen N K L3 (spec_l04Is_suh.k3g N L2 (spec_l04Is_suh.k2 N K gv1 gv2 gv3 gv4 gv5)) table0 gv1 gv2 gv3 gv4 gv5 i10 j12
  rw [spec_l04Is_suh.k3_mix] at h
  exact h
theorem spec_l04Is_suh.b3_gen {ρ : Type} (N : Nat) (K : AV → Heap → Option ρ) (L3 : St → Option ρ) (kv : XE → St → Option ρ) (table0 : Nat) (gv1 : Nat) (gv2 : Nat) (gv3 : Nat → Nat) (gv4 : Nat → Nat) (gv5 : Nat → Int) (i10 : Int) (inverse11 : Bool) (j12 : Int) :
    xcode (E10 N) ents spec_l04Is_suh.kp 2 N (cL (cK (cB (cA (cB (cK (cA (cB (cL (cK (cB (cA (cB (cB (cB (cB spec_l04Is_suh.bd)))))))))))))))) 6 (spec_l04Is_suh.st3 table0 gv1 gv2 gv3 gv4 gv5 i10 inverse11 j12) (roundK spec_l04Is_suh.kp 2 6 L3 (mixK (spec_l04Is_suh.fin N K gv1 gv2 gv3 gv4 gv5 .ret) kv)) = (spec_l04Is_suh.b3 N (fun d0 => K (.bool (d0)) [⟨false, .hdr 1 gv1 gv2 gv3 gv4 none⟩, ⟨false, .flat 0 (.ints .i64 gv5)⟩]) (fun k13 => xloop (xcode (E10 N) ents spec_l04Is_suh.kp 2 N (cL (cK (cB (cB (cK (cA (cB (cL (cK (cB (cA (cB (cK (cA (cB (cL (cK (cB (cA (cB (cB (cB (cB spec_l04Is_suh.bd))))))))))))))))))))))) 8) spec_l04Is_suh.kp 2 8 N (spec_l04Is_suh.st4 table0 gv1 gv2 gv3 gv4 gv5 i10 j12 k13) (spec_l04Is_suh.k4g N L3 (mixK (spec_l04Is_suh.fin N K gv1 gv2 gv3 gv4 gv5 .ret) kv))) (fun k14 => xloop (xcode (E10 N) ents spec_l04Is_suh.kp 2 N (cL (cK (cB (cB (cK (cA (cB (cL (cK (cB (cA (cB (cK (cA (cB (cL (cK (cB (cA (cB (cB (cB (cB spec_l04Is_suh.bd))))))))))))))))))))))) 8) spec_l04Is_suh.kp 2 8 N (spec_l04Is_suh.st5 table0 gv1 gv2 gv3 gv4 gv5 i10 j12 k14) (spec_l04Is_suh.k5g N L3 (mixK (spec_l04Is_suh.fin N K gv1 gv2 gv3 gv4 gv5 .ret) kv))) (fun k15 => xloop (xcode (E10 N) ents spec_l04Is_suh.kp 2 N (cL (cK (cB (cB (cK (cA (cB (cL (cK (cB (cA (cB (cK (cA (cB (cL (cK (cB (cA (cB (cB (cB (cB spec_l04Is_suh.bd))))))))))))))))))))))) 8) spec_l04Is_suh.kp 2 8 N (spec_l04Is_suh.st6 table0 gv1 gv2 gv3 gv4 gv5 i10 j12 k15) (spec_l04Is_suh.k6g N L3 (mixK (spec_l04Is_suh.fin N K gv1 gv2 gv3 gv4 gv5 .ret) kv))) (fun inverse11 j12 => L3 (spec_l04Is_suh.st3 table0 gv1 gv2 gv3 gv4 gv5 i10 inverse11 j12)) (fun ov16 => kv (.exit 6) (spec_l04Is_suh.sx3_0 table0 gv1 gv2 gv3 gv4 gv5 i10 ov16)) table0 gv3 gv4 gv5 i10 inverse11 j12) := by kernel_rfl
theorem spec_l04Is_suh.b3_eq {ρ : Type} (N : Nat) (K : AV → Heap → Option ρ) (L2 : St → Option ρ) (L3 : St → Option ρ) (table0 : Nat) (gv1 : Nat) (gv2 : Nat) (gv3 : Nat → Nat) (gv4 : Nat → Nat) (gv5 : Nat → Int) (i10 : Int) (inverse11 : Bool) (j12 : Int) :
    xcode (E10 N) ents spec_l04Is_suh.kp 2 N (cL (cK (cB (cA (cB (cK (cA (cB (cL (cK (cB (cA (cB (cB (cB (cB spec_l04Is_suh.bd)))))))))))))))) 6 (spec_l04Is_suh.st3 table0 gv1 gv2 gv3 gv4 gv5 i10 inverse11 j12) (roundK spec_l04Is_suh.kp 2 6 L3 (spec_l04Is_suh.k3g N L2 (spec_l04Is_suh.k2 N K gv1 gv2 gv3 gv4 gv5))) = (spec_l04Is_suh.b3 N (fun d0 => K (.bool (d0)) [⟨false, .hdr 1 gv1 gv2 gv3 gv4 none⟩, ⟨false, .flat 0 (.ints .i64 gv5)⟩]) (fun k13 => xloop (xcode (E10 N) ents spec_l04Is_suh.kp 2 N (cL (cK (cB (cB (cK (cA (cB (cL (cK (cB (cA (cB (cK (cA (cB (cL (cK (cB (cA (cB (cB (cB (cB spec_l04Is_suh.bd))))))))))))))))))))))) 8) spec_l04Is_suh.kp 2 8 N (spec_l04Is_suh.st4 table0 gv1 gv2 gv3 gv4 gv5 i10 j12 k13) (spec_l04Is_suh.k4g N L3 (spec_l04Is_suh.k3g N L2 (spec_l04Is_suh.k2 N K gv1 gv2 gv3 gv4 gv5)))) (fun k14 => xloop (xcode (E10 N) ents spec_l04Is_suh.kp 2 N (cL (cK (cB (cB (cK (cA (cB (cL (cK (cB (cA (cB (cK (cA (cB (cL (cK (cB (cA (cB (cB (cB (cB spec_l04Is_suh.bd))))))))))))))))))))))) 8) spec_l04Is_suh.kp 2 8 N (spec_l04Is_suh.st5 table0 gv1 gv2 gv3 gv4 gv5 i10 j12 k14) (spec_l04Is_suh.k5g N L3 (spec_l04Is_suh.k3g N L2 (spec_l04Is_suh.k2 N K gv1 gv2 gv3 gv4 gv5)))) (fun k15 => xloop (xcode (E10 N) ents spec_l04Is_suh.kp 2 N (cL (cK (cB (cB (cK (cA (cB (cL (cK (cB (cA (cB (cK (cA (cB (cL (cK (cB (cA (cB (cB (cB (cB spec_l04Is_suh.bd))))))))))))))))))))))) 8) spec_l04Is_suh.kp 2 8 N (spec_l04Is_suh.st6 table0 gv1 gv2 gv3 gv4 gv5 i10 j12 k15) (spec_l04Is_suh.k6g N L3 (spec_l04Is_suh.k3g N L2 (spec_l04Is_suh.k2 N K gv1 gv2 gv3 gv4 gv5)))) (fun inverse11 j12 => L3 (spec_l04Is_suh.st3 table0 gv1 gv2 gv3 gv4 gv5 i10 inverse11 j12)) (fun ov16 => (spec_l04Is_suh.k3g N L2 (spec_l04Is_suh.k2 N K gv1 gv2 gv3 gv4 gv5)) (.exit 6) (spec_l04Is_suh.sx3_0 table0 gv1 gv2 gv3 gv4 gv5 i10 ov16)) table0 gv3 gv4 gv5 i10 inverse11 j12) := by
  have h := spec_l04Is_suh.b3_gen N K L3 (spec_l04Is_suh.k3g N L2 (spec_l04Is_suh.k2 N K gv1 gv2 gv3 gv4 gv5)) table0 gv1 gv2 gv3 gv4 gv5 i10 inverse11 j12
  rw [spec_l04Is_suh.k3_mix] at h
  exact h
theorem spec_l04Is_suh.a3_0_gen {ρ : Type} (N : Nat) (K : AV → Heap → Option ρ) (L2 : St → Option ρ) (kv : XE → St → Option ρ) (table0 : Nat) (gv1 : Nat) (gv2 : Nat) (gv3 : Nat → Nat) (gv4 : Nat → Nat) (gv5 : Nat → Int) (i10 : Int) (ov16 : Bool) :
    (spec_l04Is_suh.k3g N L2 (mixK (spec_l04Is_suh.fin N K gv1 gv2 gv3 gv4 gv5 .ret) kv)) (.exit 6) (spec_l04Is_suh.sx3_0 table0 gv1 gv2 gv3 gv4 gv5 i10 ov16) = (spec_l04Is_suh.a3_0 N (fun d0 => K (.bool (d0)) [⟨false, .hdr 1 gv1 gv2 gv3 gv4 none⟩, ⟨false, .flat 0 (.ints .i64 gv5)⟩]) (fun i10 => L2 (spec_l04Is_suh.st2 table0 gv1 gv2 gv3 gv4 gv5 i10)) (kv (.exit 4) (spec_l04Is_suh.sx2_0 gv1 gv2 gv3 gv4 gv5)) table0 gv3 gv4 gv5 i10 ov16) := by kernel_rfl
theorem spec_l04Is_suh.a3_0_eq {ρ : Type} (N : Nat) (K : AV → Heap → Option ρ) (L2 : St → Option ρ) (table0 : Nat) (gv1 : Nat) (gv2 : Nat) (gv3 : Nat → Nat) (gv4 : Nat → Nat) (gv5 : Nat → Int) (i10 : Int) (ov16 : Bool) :
    (spec_l04Is_suh.k3g N L2 (spec_l04Is_suh.k2 N K gv1 gv2 gv3 gv4 gv5)) (.exit 6) (spec_l04Is_suh.sx3_0 table0 gv1 gv2 gv3 gv4 gv5 i10 ov16) = (spec_l04Is_suh.a3_0 N (fun d0 => K (.bool (d0)) [⟨false, .hdr 1 gv1 gv2 gv3 gv4 none⟩, ⟨false, .flat 0 (.ints .i64 gv5)⟩]) (fun i10 => L2 (spec_l04Is_suh.st2 table0 gv1 gv2 gv3 gv4 gv5 i10)) ((spec_l04Is_suh.k2 N K gv1 gv2 gv3 gv4 gv5) (.exit 4) (spec_l04Is_suh.sx2_0 gv1 gv2 gv3 gv4 gv5)) table0 gv3 gv4 gv5 i10 ov16) := by
  have h := spec_l04Is_suh.a3_0_gen N K L2 (spec_l04Is_suh.k2 N K gv1 gv2 gv3 gv4 gv5) table0 gv1 gv2 gv3 gv4 gv5 i10 ov16
  rw [spec_l04Is_suh.k2_mix] at h
  exact h
theorem spec_l04Is_suh.b2_gen {ρ : Type} (N : Nat) (K : AV → Heap → Option ρ) (L2 : St → Option ρ) (kv : XE → St → Option ρ) (table0 : Nat) (gv1 : Nat) (gv2 : Nat) (gv3 : Nat → Nat) (gv4 : Nat → Nat) (gv5 : Nat → Int) (i10 : Int) :
    xcode (E10 N) ents spec_l04Is_suh.kp 2 N (cL (cK (cB (cA (cB (cB (cB (cB spec_l04Is_suh.bd)))))))) 4 (spec_l04Is_suh.st2 table0 gv1 gv2 gv3 gv4 gv5 i10) (roundK spec_l04Is_suh.kp 2 4 L2 (mixK (spec_l04Is_suh.fin N K gv1 gv2 gv3 gv4 gv5 .ret) kv)) = (spec_l04Is_suh.b2 N (fun d0 => K (.bool (d0)) [⟨false, .hdr 1 gv1 gv2 gv3 gv4 none⟩, ⟨false, .flat 0 (.ints .i64 gv5)⟩]) (fun inverse11 j12 => xloop (xcode (E10 N) ents spec_l04Is_suh.kp 2 N (cL (cK (cB (cA (cB (cK (cA (cB (cL (cK (cB (cA (cB (cB (cB (cB spec_l04Is_suh.bd)))))))))))))))) 6) spec_l04Is_suh.kp 2 6 N (spec_l04Is_suh.st3 table0 gv1 gv2 gv3 gv4 gv5 i10 inverse11 j12) (spec_l04Is_suh.k3g N L2 (mixK (spec_l04Is_suh.fin N K gv1 gv2 gv3 gv4 gv5 .ret) kv))) (fun i10 => L2 (spec_l04Is_suh.st2 table0 gv1 gv2 gv3 gv4 gv5 i10)) (kv (.exit 4) (spec_l04Is_suh.sx2_0 gv1 gv2 gv3 gv4 gv5)) table0 i10) := by kernel_rfl
theorem spec_l04Is_suh.b2_eq {ρ : Type} (N : Nat) (K : AV → Heap → Option ρ) (L2 : St → Option ρ) (table0 : Nat) (gv1 : Nat) (gv2 : Nat) (gv3 : Nat → Nat) (gv4 : Nat → Nat) (gv5 : Nat → Int) (i10 : Int) :
    xcode (E10 N) ents spec_l04Is_suh.kp 2 N (cL (cK (cB (cA (cB (cB (cB (cB spec_l04Is_suh.bd)))))))) 4 (spec_l04Is_suh.st2 table0 gv1 gv2 gv3 gv4 gv5 i10) (roundK spec_l04Is_suh.kp 2 4 L2 (spec_l04Is_suh.k2 N K gv1 gv2 gv3 gv4 gv5)) = (spec_l04Is_suh.b2 N (fun d0 => K (.bool (d0)) [⟨false, .hdr 1 gv1 gv2 gv3 gv4 none⟩, ⟨false, .flat 0 (.ints .i64 gv5)⟩]) (fun inverse11 j12 => xloop (xcode (E10 N) ents spec_l04Is_suh.kp 2 N (cL (cK (cB (cA (cB (cK (cA (cB (cL (cK (cB (cA (cB (cB (cB (cB spec_l04Is_suh.bd)))))))))))))))) 6) spec_l04Is_suh.kp 2 6 N (spec_l04Is_suh.st3 table0 gv1 gv2 gv3 gv4 gv5 i10 inverse11 j12) (spec_l04Is_suh.k3g N L2 (spec_l04Is_suh.k2 N K gv1 gv2 gv3 gv4 gv5))) (fun i10 => L2 (spec_l04Is_suh.st2 table0 gv1 gv2 gv3 gv4 gv5 i10)) ((spec_l04Is_suh.k2 N K gv1 gv2 gv3 gv4 gv5) (.exit 4) (spec_l04Is_suh.sx2_0 gv1 gv2 gv3 gv4 gv5)) table0 i10) := by
  have h := spec_l04Is_suh.b2_gen N K L2 (spec_l04Is_suh.k2 N K gv1 gv2 gv3 gv4 gv5) table0 gv1 gv2 gv3 gv4 gv5 i10
  rw [spec_l04Is_suh.k2_mix] at h
  exact h
theorem spec_l04Is_suh.a2_0_eq {ρ : Type} (N : Nat) (K : AV → Heap → Option ρ) (gv1 : Nat) (gv2 : Nat) (gv3 : Nat → Nat) (gv4 : Nat → Nat) (gv5 : Nat → Int) :
    (spec_l04Is_suh.k2 N K gv1 gv2 gv3 gv4 gv5) (.exit 4) (spec_l04Is_suh.sx2_0 gv1 gv2 gv3 gv4 gv5) = (spec_l04Is_suh.a2_0 N (fun d0 => K (.bool (d0)) [⟨false, .hdr 1 gv1 gv2 gv3 gv4 none⟩, ⟨false, .flat 0 (.ints .i64 gv5)⟩])) := by kernel_rfl
theorem spec_l04Is_suh.b0_gen {ρ : Type} (N : Nat) (K : AV → Heap → Option ρ) (L0 : St → Option ρ) (kv : XE → St → Option ρ) (table0 : Nat) (gv1 : Nat) (gv2 : Nat) (gv3 : Nat → Nat) (gv4 : Nat → Nat) (gv5 : Nat → Int) (i7 : Int) :
    xcode (E10 N) ents spec_l04Is_suh.kp 2 N (cL (cK (cB (cA (cB (cB (cB spec_l04Is_suh.bd))))))) 0 (spec_l04Is_suh.st0 table0 gv1 gv2 gv3 gv4 gv5 i7) (roundK spec_l04Is_suh.kp 2 0 L0 (mixK (spec_l04Is_suh.fin N K gv1 gv2 gv3 gv4 gv5 .ret) kv)) = (spec_l04Is_suh.b0 N (fun d0 => K (.bool (d0)) [⟨false, .hdr 1 gv1 gv2 gv3 gv4 none⟩, ⟨false, .flat 0 (.ints .i64 gv5)⟩]) (fun j8 => xloop (xcode (E10 N) ents spec_l04Is_suh.kp 2 N (cL (cK (cB (cB (cK (cA (cB (cL (cK (cB (cA (cB (cB (cB spec_l04Is_suh.bd)))))))))))))) 2) spec_l04Is_suh.kp 2 2 N (spec_l04Is_suh.st1 table0 gv1 gv2 gv3 gv4 gv5 i7 j8) (spec_l04Is_suh.k1g N L0 (mixK (spec_l04Is_suh.fin N K gv1 gv2 gv3 gv4 gv5 .ret) kv))) (fun i7 => L0 (spec_l04Is_suh.st0 table0 gv1 gv2 gv3 gv4 gv5 i7)) (kv (.exit 0) (spec_l04Is_suh.sx0_0 table0 gv1 gv2 gv3 gv4 gv5)) table0 gv4 i7) := by kernel_rfl
theorem spec_l04Is_suh.b0_eq {ρ : Type} (N : Nat) (K : AV → Heap → Option ρ) (L0 : St → Option ρ) (table0 : Nat) (gv1 : Nat) (gv2 : Nat) (gv3 : Nat → Nat) (gv4 : Nat → Nat) (gv5 : Nat → Int) (i7 : Int) :
    xcode (E10 N) ents spec_l04Is_suh.kp 2 N (cL (cK (cB (cA (cB (cB (cB spec_l04Is_suh.bd))))))) 0 (spec_l04Is_suh.st0 table0 gv1 gv2 gv3 gv4 gv5 i7) (roundK spec_l04Is_suh.kp 2 0 L0 (spec_l04Is_suh.k0 N K gv1 gv2 gv3 gv4 gv5)) = (spec_l04Is_suh.b0 N (fun d0 => K (.bool (d0)) [⟨false, .hdr 1 gv1 gv2 gv3 gv4 none⟩, ⟨false, .flat 0 (.ints .i64 gv5)⟩]) (fun j8 => xloop (xcode (E10 N) ents spec_l04Is_suh.kp 2 N (cL (cK (cB (cB (cK (cA (cB (cL (cK (cB (cA (cB (cB (cB spec_l04Is_suh.bd)))))))))))))) 2) spec_l04Is_suh.kp 2 2 N (spec_l04Is_suh.st1 table0 gv1 gv2 gv3 gv4 gv5 i7 j8) (spec_l04Is_suh.k1g N L0 (spec_l04Is_suh.k0 N K gv1 gv2 gv3 gv4 gv5))) (fun i7 => L0 (spec_l04Is_suh.st0 table0 gv1 gv2 gv3 gv4 gv5 i7)) ((spec_l04Is_suh.k0 N K gv1 gv2 gv3 gv4 gv5) (.exit 0) (spec_l04Is_suh.sx0_0 table0 gv1 gv2 gv3 gv4 gv5)) table0 gv4 i7) := by
  have h := spec_l04Is_suh.b0_gen N K L0 (spec_l04Is_suh.k0 N K gv1 gv2 gv3 gv4 gv5) table0 gv1 gv2 gv3 gv4 gv5 i7
  rw [spec_l04Is_suh.k0_mix] at h
  exact h
theorem spec_l04Is_suh.a0_0_eq {ρ : Type} (N : Nat) (K : AV → Heap → Option ρ) (table0 : Nat) (gv1 : Nat) (gv2 : Nat) (gv3 : Nat → Nat) (gv4 : Nat → Nat) (gv5 : Nat → Int) :
    (spec_l04Is_suh.k0 N K gv1 gv2 gv3 gv4 gv5) (.exit 0) (spec_l04Is_suh.sx0_0 table0 gv1 gv2 gv3 gv4 gv5) = (spec_l04Is_suh.a0_0 N (fun d0 => K (.bool (d0)) [⟨false, .hdr 1 gv1 gv2 gv3 gv4 none⟩, ⟨false, .flat 0 (.ints .i64 gv5)⟩]) (fun i10 => xloop (xcode (E10 N) ents spec_l04Is_suh.kp 2 N (cL (cK (cB (cA (cB (cB (cB (cB spec_l04Is_suh.bd)))))))) 4) spec_l04Is_suh.kp 2 4 N (spec_l04Is_suh.st2 table0 gv1 gv2 gv3 gv4 gv5 i10) (spec_l04Is_suh.k2 N K gv1 gv2 gv3 gv4 gv5))) := by kernel_rfl
theorem spec_l04Is_suh.l1_eq {ρ : Type} (N : Nat) (K : AV → Heap → Option ρ) (L0 : St → Option ρ) (table0 : Nat) (gv1 : Nat) (gv2 : Nat) (gv3 : Nat → Nat) (gv4 : Nat → Nat) (gv5 : Nat → Int) (i7 : Int) :
    ∀ (m : Nat) (j8 : Int), xloop (xcode (E10 N) ents spec_l04Is_suh.kp 2 N (cL (cK (cB (cB (cK (cA (cB (cL (cK (cB (cA (cB (cB (cB spec_l04Is_suh.bd)))))))))))))) 2) spec_l04Is_suh.kp 2 2 m (spec_l04Is_suh.st1 table0 gv1 gv2 gv3 gv4 gv5 i7 j8) (spec_l04Is_suh.k1g N L0 (spec_l04Is_suh.k0 N K gv1 gv2 gv3 gv4 gv5)) = (spec_l04Is_suh.l1 N (fun d0 => K (.bool (d0)) [⟨false, .hdr 1 gv1 gv2 gv3 gv4 none⟩, ⟨false, .flat 0 (.ints .i64 gv5)⟩]) table0 gv3 gv4 gv5 i7 ((spec_l04Is_suh.k1g N L0 (spec_l04Is_suh.k0 N K gv1 gv2 gv3 gv4 gv5)) (.exit 2) (spec_l04Is_suh.sx1_0 table0 gv1 gv2 gv3 gv4 gv5 i7)) m j8) := by
  intro m
  induction m with
  | zero => intros; rfl
  | succ m ih =>
    intro j8
    refine (spec_l04Is_suh.b1_eq N K L0 (fun s => xloop (xcode (E10 N) ents spec_l04Is_suh.kp 2 N (cL (cK (cB (cB (cK (cA (cB (cL (cK (cB (cA (cB (cB (cB spec_l04Is_suh.bd)))))))))))))) 2) spec_l04Is_suh.kp 2 2 m s (spec_l04Is_suh.k1g N L0 (spec_l04Is_suh.k0 N K gv1 gv2 gv3 gv4 gv5))) table0 gv1 gv2 gv3 gv4 gv5 i7 j8).trans ?_
    simp only [ih]
    kernel_rfl
theorem spec_l04Is_suh.l4_eq {ρ : Type} (N : Nat) (K : AV → Heap → Option ρ) (L2 : St → Option ρ) (L3 : St → Option ρ) (table0 : Nat) (gv1 : Nat) (gv2 : Nat) (gv3 : Nat → Nat) (gv4 : Nat → Nat) (gv5 : Nat → Int) (i10 : Int) (j12 : Int) :
    ∀ (m : Nat) (k13 : Int), xloop (xcode (E10 N) ents spec_l04Is_suh.kp 2 N (cL (cK (cB (cB (cK (cA (cB (cL (cK (cB (cA (cB (cK (cA (cB (cL (cK (cB (cA (cB (cB (cB (cB spec_l04Is_suh.bd))))))))))))))))))))))) 8) spec_l04Is_suh.kp 2 8 m (spec_l04Is_suh.st4 table0 gv1 gv2 gv3 gv4 gv5 i10 j12 k13) (spec_l04Is_suh.k4g N L3 (spec_l04Is_suh.k3g N L2 (spec_l04Is_suh.k2 N K gv1 gv2 gv3 gv4 gv5))) = (spec_l04Is_suh.l4 N (fun d0 => K (.bool (d0)) [⟨false, .hdr 1 gv1 gv2 gv3 gv4 none⟩, ⟨false, .flat 0 (.ints .i64 gv5)⟩]) table0 gv3 gv4 gv5 i10 j12 ((spec_l04Is_suh.k4g N L3 (spec_l04Is_suh.k3g N L2 (spec_l04Is_suh.k2 N K gv1 gv2 gv3 gv4 gv5))) (.exit 8) (spec_l04Is_suh.sx4_0 table0 gv1 gv2 gv3 gv4 gv5 i10 j12)) m k13) := by
  intro m
  induction m with
  | zero => intros; rfl
  | succ m ih =>
    intro k13
    refine (spec_l04Is_suh.b4_eq N K L2 L3 (fun s => xloop (xcode (E10 N) ents spec_l04Is_suh.kp 2 N (cL (cK (cB (cB (cK (cA (cB (cL (cK (cB (cA (cB (cK (cA (cB (cL (cK (cB (cA (cB (cB (cB (cB spec_l04Is_suh.bd))))))))))))))))))))))) 8) spec_l04Is_suh.kp 2 8 m s (spec_l04Is_suh.k4g N L3 (spec_l04Is_suh.k3g N L2 (spec_l04Is_suh.k2 N K gv1 gv2 gv3 gv4 gv5)))) table0 gv1 gv2 gv3 gv4 gv5 i10 j12 k13).trans ?_
    simp only [ih]
    kernel_rfl
theorem spec_l04Is_suh.l5_eq {ρ : Type} (N : Nat) (K : AV → Heap → Option ρ) (L2 : St → Option ρ) (L3 : St → Option ρ) (table0 : Nat) (gv1 : Nat) (gv2 : Nat) (gv3 : Nat → Nat) (gv4 : Nat → Nat) (gv5 : Nat → Int) (i10 : Int) (j12 : Int) :
    ∀ (m : Nat) (k14 : Int), xloop (xcode (E10 N) ents spec_l04Is_suh.kp 2 N (cL (cK (cB (cB (cK (cA (cB (cL (cK (cB (cA (cB (cK (cA (cB (cL (cK (cB (cA (cB (cB (cB (cB spec_l04Is_suh.bd))))))))))))))))))))))) 8) spec_l04Is_suh.kp 2 8 m (spec_l04Is_suh.st5 table0 gv1 gv2 gv3 gv4 gv5 i10 j12 k14) (spec_l04Is_suh.k5g N L3 (spec_l04Is_suh.k3g N L2 (spec_l04Is_suh.k2 N K gv1 gv2 gv3 gv4 gv5))) = (spec_l04Is_suh.l5 N (fun d0 => K (.bool (d0)) [⟨false, .hdr 1 gv1 gv2 gv3 gv4 none⟩, ⟨false, .flat 0 (.ints .i64 gv5)⟩]) table0 gv3 gv4 gv5 i10 j12 ((spec_l04Is_suh.k5g N L3 (spec_l04Is_suh.k3g N L2 (spec_l04Is_suh.k2 N K gv1 gv2 gv3 gv4 gv5))) (.exit 8) (spec_l04Is_suh.sx5_0 table0 gv1 gv2 gv3 gv4 gv5 i10 j12)) m k14) := by
  intro m
  induction m with
  | zero => intros; rfl
  | succ m ih =>
    intro k14
    refine (spec_l04Is_suh.b5_eq N K L2 L3 (fun s => xloop (xcode (E10 N) ents spec_l04Is_suh.kp 2 N (cL (cK (cB (cB (cK (cA (cB (cL (cK (cB (cA (cB (cK (cA (cB (cL (cK (cB (cA (cB (cB (cB (cB spec_l04Is_suh.bd))))))))))))))))))))))) 8) spec_l04Is_suh.kp 2 8 m s (spec_l04Is_suh.k5g N L3 (spec_l04Is_suh.k3g N L2 (spec_l04Is_suh.k2 N K gv1 gv2 gv3 gv4 gv5)))) table0 gv1 gv2 gv3 gv4 gv5 i10 j12 k14).trans ?_
    simp only [ih]
    kernel_rfl
theorem spec_l04Is_suh.l6_eq {ρ : Type} (N : Nat) (K : AV → Heap → Option ρ) (L2 : St → Option ρ) (L3 : St → Option ρ) (table0 : Nat) (gv1 : Nat) (gv2 : Nat) (gv3 : Nat → Nat) (gv4 : Nat → Nat) (gv5 : Nat → Int) (i10 : Int) (j12 : Int) :
    ∀ (m : Nat) (k15 : Int), xloop (xcode (E10 N) ents spec_l04Is_suh.kp 2 N (cL (cK (cB (cB (cK (cA (cB (cL (cK (cB (cA (cB (cK (cA (cB (cL (cK (cB (cA (cB (cB (cB (cB spec_l04Is_suh.bd))))))))))))))))))))))) 8) spec_l04Is_suh.kp 2 8 m (spec_l04Is_suh.st6 table0 gv1 gv2 gv3 gv4 gv5 i10 j12 k15) (spec_l04Is_suh.k6g N L3 (spec_l04Is_suh.k3g N L2 (spec_l04Is_suh.k2 N K gv1 gv2 gv3 gv4 gv5))) = (spec_l04Is_suh.l6 N (fun d0 => K (.bool (d0)) [⟨false, .hdr 1 gv1 gv2 gv3 gv4 none⟩, ⟨false, .flat 0 (.ints .i64 gv5)⟩]) table0 gv3 gv4 gv5 i10 j12 ((spec_l04Is_suh.k6g N L3 (spec_l04Is_suh.k3g N L2 (spec_l04Is_suh.k2 N K gv1 gv2 gv3 gv4 gv5))) (.exit 8) (spec_l04Is_suh.sx6_0 table0 gv1 gv2 gv3 gv4 gv5 i10 j12)) m k15) := by
  intro m
  induction m with
  | zero => intros; rfl
  | succ m ih =>
    intro k15
    refine (spec_l04Is_suh.b6_eq N K L2 L3 (fun s => xloop (xcode (E10 N) ents spec_l04Is_suh.kp 2 N (cL (cK (cB (cB (cK (cA (cB (cL (cK (cB (cA (cB (cK (cA (cB (cL (cK (cB (cA (cB (cB (cB (cB spec_l04Is_suh.bd))))))))))))))))))))))) 8) spec_l04Is_suh.kp 2 8 m s (spec_l04Is_suh.k6g N L3 (spec_l04Is_suh.k3g N L2 (spec_l04Is_suh.k2 N K gv1 gv2 gv3 gv4 gv5)))) table0 gv1 gv2 gv3 gv4 gv5 i10 j12 k15).trans ?_
    simp only [ih]
    kernel_rfl
theorem spec_l04Is_suh.l3_eq {ρ : Type} (N : Nat) (K : AV → Heap → Option ρ) (L2 : St → Option ρ) (table0 : Nat) (gv1 : Nat) (gv2 : Nat) (gv3 : Nat → Nat) (gv4 : Nat → Nat) (gv5 : Nat → Int) (i10 : Int) :
    ∀ (m : Nat) (inverse11 : Bool) (j12 : Int), xloop (xcode (E10 N) ents spec_l04Is_suh.kp 2 N (cL (cK (cB (cA (cB (cK (cA (cB (cL (cK (cB (cA (cB (cB (cB (cB spec_l04Is_suh.bd)))))))))))))))) 6) spec_l04Is_suh.kp 2 6 m (spec_l04Is_suh.st3 table0 gv1 gv2 gv3 gv4 gv5 i10 inverse11 j12) (spec_l04Is_suh.k3g N L2 (spec_l04Is_suh.k2 N K gv1 gv2 gv3 gv4 gv5)) = (spec_l04Is_suh.l3 N (fun d0 => K (.bool (d0)) [⟨false, .hdr 1 gv1 gv2 gv3 gv4 none⟩, ⟨false, .flat 0 (.ints .i64 gv5)⟩]) table0 gv3 gv4 gv5 i10 (fun ov16 => (spec_l04Is_suh.k3g N L2 (spec_l04Is_suh.k2 N K gv1 gv2 gv3 gv4 gv5)) (.exit 6) (spec_l04Is_suh.sx3_0 table0 gv1 gv2 gv3 gv4 gv5 i10 ov16)) m inverse11 j12) := by
  intro m
  induction m with
  | zero => intros; rfl
  | succ m ih =>
    intro inverse11 j12
    refine (spec_l04Is_suh.b3_eq N K L2 (fun s => xloop (xcode (E10 N) ents spec_l04Is_suh.kp 2 N (cL (cK (cB (cA (cB (cK (cA (cB (cL (cK (cB (cA (cB (cB (cB (cB spec_l04Is_suh.bd)))))))))))))))) 6) spec_l04Is_suh.kp 2 6 m s (spec_l04Is_suh.k3g N L2 (spec_l04Is_suh.k2 N K gv1 gv2 gv3 gv4 gv5))) table0 gv1 gv2 gv3 gv4 gv5 i10 inverse11 j12).trans ?_
    simp only [ih, spec_l04Is_suh.l4_eq, spec_l04Is_suh.a4_0_eq, spec_l04Is_suh.l5_eq, spec_l04Is_suh.a5_0_eq, spec_l04Is_suh.l6_eq, spec_l04Is_suh.a6_0_eq]
    kernel_rfl
theorem spec_l04Is_suh.l2_eq {ρ : Type} (N : Nat) (K : AV → Heap → Option ρ) (table0 : Nat) (gv1 : Nat) (gv2 : Nat) (gv3 : Nat → Nat) (gv4 : Nat → Nat) (gv5 : Nat → Int) :
    ∀ (m : Nat) (i10 : Int), xloop (xcode (E10 N) ents spec_l04Is_suh.kp 2 N (cL (cK (cB (cA (cB (cB (cB (cB spec_l04Is_suh.bd)))))))) 4) spec_l04Is_suh.kp 2 4 m (spec_l04Is_suh.st2 table0 gv1 gv2 gv3 gv4 gv5 i10) (spec_l04Is_suh.k2 N K gv1 gv2 gv3 gv4 gv5) = (spec_l04Is_suh.l2 N (fun d0 => K (.bool (d0)) [⟨false, .hdr 1 gv1 gv2 gv3 gv4 none⟩, ⟨false, .flat 0 (.ints .i64 gv5)⟩]) table0 gv3 gv4 gv5 ((spec_l04Is_suh.k2 N K gv1 gv2 gv3 gv4 gv5) (.exit 4) (spec_l04Is_suh.sx2_0 gv1 gv2 gv3 gv4 gv5)) m i10) := by
  intro m
  induction m with
  | zero => intros; rfl
  | succ m ih =>
    intro i10
    refine (spec_l04Is_suh.b2_eq N K (fun s => xloop (xcode (E10 N) ents spec_l04Is_suh.kp 2 N (cL (cK (cB (cA (cB (cB (cB (cB spec_l04Is_suh.bd)))))))) 4) spec_l04Is_suh.kp 2 4 m s (spec_l04Is_suh.k2 N K gv1 gv2 gv3 gv4 gv5)) table0 gv1 gv2 gv3 gv4 gv5 i10).trans ?_
    simp only [ih, spec_l04Is_suh.l3_eq, spec_l04Is_suh.a3_0_eq]
    kernel_rfl
theorem spec_l04Is_suh.l0_eq {ρ : Type} (N : Nat) (K : AV → Heap → Option ρ) (table0 : Nat) (gv1 : Nat) (gv2 : Nat) (gv3 : Nat → Nat) (gv4 : Nat → Nat) (gv5 : Nat → Int) :
    ∀ (m : Nat) (i7 : Int), xloop (xcode (E10 N) ents spec_l04Is_suh.kp 2 N (cL (cK (cB (cA (cB (cB (cB spec_l04Is_suh.bd))))))) 0) spec_l04Is_suh.kp 2 0 m (spec_l04Is_suh.st0 table0 gv1 gv2 gv3 gv4 gv5 i7) (spec_l04Is_suh.k0 N K gv1 gv2 gv3 gv4 gv5) = (spec_l04Is_suh.l0 N (fun d0 => K (.bool (d0)) [⟨false, .hdr 1 gv1 gv2 gv3 gv4 none⟩, ⟨false, .flat 0 (.ints .i64 gv5)⟩]) table0 gv3 gv4 gv5 ((spec_l04Is_suh.k0 N K gv1 gv2 gv3 gv4 gv5) (.exit 0) (spec_l04Is_suh.sx0_0 table0 gv1 gv2 gv3 gv4 gv5)) m i7) := by
  intro m
  induction m with
  | zero => intros; rfl
  | succ m ih =>
    intro i7
    refine (spec_l04Is_suh.b0_eq N K (fun s => xloop (xcode (E10 N) ents spec_l04Is_suh.kp 2 N (cL (cK (cB (cA (cB (cB (cB spec_l04Is_suh.bd))))))) 0) spec_l04Is_suh.kp 2 0 m s (spec_l04Is_suh.k0 N K gv1 gv2 gv3 gv4 gv5)) table0 gv1 gv2 gv3 gv4 gv5 i7).trans ?_
    simp only [ih, spec_l04Is_suh.l1_eq, spec_l04Is_suh.a1_0_eq]
    kernel_rfl
theorem spec_l04Is_suh.s_eq {ρ : Type} (N : Nat) (K : AV → Heap → Option ρ) (table0 : Nat) (gv1 : Nat) (gv2 : Nat) (gv3 : Nat → Nat) (gv4 : Nat → Nat) (gv5 : Nat → Int) :
    xbody (E10 N) ents spec_l04Is_suh.kp N Try.f40 spec_l04Is_suh.bd [.slice true 0 0 table0 .unk 1] [⟨false, .hdr 1 gv1 gv2 gv3 gv4 none⟩, ⟨false, .flat 0 (.ints .i64 gv5)⟩] K = (spec_l04Is_suh.s N (fun d0 => K (.bool (d0)) [⟨false, .hdr 1 gv1 gv2 gv3 gv4 none⟩, ⟨false, .flat 0 (.ints .i64 gv5)⟩]) (fun i7 => xloop (xcode (E10 N) ents spec_l04Is_suh.kp 2 N (cL (cK (cB (cA (cB (cB (cB spec_l04Is_suh.bd))))))) 0) spec_l04Is_suh.kp 2 0 N (spec_l04Is_suh.st0 table0 gv1 gv2 gv3 gv4 gv5 i7) (spec_l04Is_suh.k0 N K gv1 gv2 gv3 gv4 gv5)) table0) := by kernel_rfl
theorem spec_l04Is_suh.eq {ρ : Type} (N : Nat) (K : AV → Heap → Option ρ) (table0 : Nat) (gv1 : Nat) (gv2 : Nat) (gv3 : Nat → Nat) (gv4 : Nat → Nat) (gv5 : Nat → Int) :
    xbody (E10 N) ents spec_l04Is_suh.kp N Try.f40 spec_l04Is_suh.bd [.slice true 0 0 table0 .unk 1] [⟨false, .hdr 1 gv1 gv2 gv3 gv4 none⟩, ⟨false, .flat 0 (.ints .i64 gv5)⟩] K = (spec_l04Is_suh N (fun d0 => K (.bool (d0)) [⟨false, .hdr 1 gv1 gv2 gv3 gv4 none⟩, ⟨false, .flat 0 (.ints .i64 gv5)⟩]) table0 gv1 gv2 gv3 gv4 gv5) := by
  refine (spec_l04Is_suh.s_eq N K table0 gv1 gv2 gv3 gv4 gv5).trans ?_
  simp only [spec_l04Is_suh.l0_eq, spec_l04Is_suh.a0_0_eq, spec_l04Is_suh.l2_eq, spec_l04Is_suh.a2_0_eq]
  kernel_rfl
def spec_l04Is_suh.en (N : Nat) (ρ : Type) : List AV → Heap → (AV → Heap → Option ρ) → Option ρ
  | [.slice true 0 0 table0 .unk 1], [⟨false, .hdr 1 gv1 gv2 gv3 gv4 none⟩, ⟨false, .flat 0 (.ints .i64 gv5)⟩], K => (spec_l04Is_suh N (fun d0 => K (.bool (d0)) [⟨false, .hdr 1 gv1 gv2 gv3 gv4 none⟩, ⟨false, .flat 0 (.ints .i64 gv5)⟩]) table0 gv1 gv2 gv3 gv4 gv5)
  | _, _, _ => none
theorem spec_l04Is_suh.en_ok (N : Nat) (hE : EnvOk (E10 N) ents) (ρ : Type) (args : List AV) (sh : Heap) (K : AV → Heap → Option ρ) (r : ρ) (h : spec_l04Is_suh.en N ρ args sh K = some r) : ∃ v sh', K v sh' = some r ∧ FnOk (E10 N).P 40 args sh v sh' := by
  unfold spec_l04Is_suh.en at h
  split at h
  · exact fn_ok hE (kp := spec_l04Is_suh.kp) (N := N) Try.func40 (c := spec_l04Is_suh.bd) (by kernel_rfl) ((spec_l04Is_suh.eq N _ _ _ _ _ _ _).trans h)
  · cases h
def E11 (N : Nat) : Env := (E10 N).add 40 (spec_l04Is_suh.en N)
theorem E11_ok (N : Nat) : EnvOk (E11 N) ents := Env.add_ok (E10_ok N) (spec_l04Is_suh.en_ok N (E10_ok N))
def spec_IsGroupTable_suh.kp : Keeps := ⟨[], [], []⟩
def spec_IsGroupTable_suh.bd : Code := bodyOf Try.f9
def spec_IsGroupTable_suh.fin {ρ : Type} (N : Nat) (K : AV → Heap → Option ρ) (gv1 : Nat) (gv2 : Nat) (gv3 : Nat → Nat) (gv4 : Nat → Nat) (gv5 : Nat → Int) : XE → St → Option ρ := finK (E11 N) spec_IsGroupTable_suh.kp.fins Try.f9 [⟨false, .hdr 1 gv1 gv2 gv3 gv4 none⟩, ⟨false, .flat 0 (.ints .i64 gv5)⟩] K
theorem spec_IsGroupTable_suh.eqb {ρ : Type} (N : Nat) (K : AV → Heap → Option ρ) (table0 : Nat) (gv1 : Nat) (gv2 : Nat) (gv3 : Nat → Nat) (gv4 : Nat → Nat) (gv5 : Nat → Int) :
    xbody (E11 N) ents spec_IsGroupTable_suh.kp N Try.f9 spec_IsGroupTable_suh.bd [.slice true 0 0 table0 .unk 1] [⟨false, .hdr 1 gv1 gv2 gv3 gv4 none⟩, ⟨false, .flat 0 (.ints .i64 gv5)⟩] K = (spec_IsGroupTable_suh.bdy N (fun d0 => K (.bool (d0)) [⟨false, .hdr 1 gv1 gv2 gv3 gv4 none⟩, ⟨false, .flat 0 (.ints .i64 gv5)⟩]) table0 gv1 gv2 gv3 gv4 gv5) := by kernel_rfl
theorem spec_IsGroupTable_suh.eq {ρ : Type} (N : Nat) (K : AV → Heap → Option ρ) (table0 : Nat) (gv1 : Nat) (gv2 : Nat) (gv3 : Nat → Nat) (gv4 : Nat → Nat) (gv5 : Nat → Int) :
    xbody (E11 N) ents spec_IsGroupTable_suh.kp N Try.f9 spec_IsGroupTable_suh.bd [.slice true 0 0 table0 .unk 1] [⟨false, .hdr 1 gv1 gv2 gv3 gv4 none⟩, ⟨false, .flat 0 (.ints .i64 gv5)⟩] K = (spec_IsGroupTable_suh N (fun d0 => K (.bool (d0)) [⟨false, .hdr 1 gv1 gv2 gv3 gv4 none⟩, ⟨false, .flat 0 (.ints .i64 gv5)⟩]) table0 gv1 gv2 gv3 gv4 gv5) :=
  (spec_IsGroupTable_suh.eqb N K table0 gv1 gv2 gv3 gv4 gv5).trans (spec_IsGroupTable_suh.opq _ _ _ _ _ _ _ _).symm
def spec_IsGroupTable_suh.en (N : Nat) (ρ : Type) : List AV → Heap → (AV → Heap → Option ρ) → Option ρ
  | [.slice true 0 0 table0 .unk 1], [⟨false, .hdr 1 gv1 gv2 gv3 gv4 none⟩, ⟨false, .flat 0 (.ints .i64 gv5)⟩], K => (spec_IsGroupTable_suh N (fun d0 => K (.bool (d0)) [⟨false, .hdr 1 gv1 gv2 gv3 gv4 none⟩, ⟨false, .flat 0 (.ints .i64 gv5)⟩]) table0 gv1 gv2 gv3 gv4 gv5)
  | _, _, _ => none
theorem spec_IsGroupTable_suh.en_ok (N : Nat) (hE : EnvOk (E11 N) ents) (ρ : Type) (args : List AV) (sh : Heap) (K : AV → Heap → Option ρ) (r : ρ) (h : spec_IsGroupTable_suh.en N ρ args sh K = some r) : ∃ v sh', K v sh' = some r ∧ FnOk (E11 N).P 9 args sh v sh' := by
  unfold spec_IsGroupTable_suh.en at h
  split at h
  · exact fn_ok hE (kp := spec_IsGroupTable_suh.kp) (N := N) Try.func9 (c := spec_IsGroupTable_suh.bd) (by kernel_rfl) ((spec_IsGroupTable_suh.eq N _ _ _ _ _ _ _).trans h)
  · cases h
def E12 (N : Nat) : Env := (E11 N).add 9 (spec_IsGroupTable_suh.en N)
theorem E12_ok (N : Nat) : EnvOk (E12 N) ents := Env.add_ok (E11_ok N) (spec_IsGroupTable_suh.en_ok N (E11_ok N))
def impl_in.kp : Keeps := ⟨[], [], []⟩
def impl_in.bd : Code := bodyOf Try.f55
def impl_in.fin {ρ : Type} (N : Nat) (K : AV → Heap → Option ρ) : XE → St → Option ρ := finK (E12 N) impl_in.kp.fins Try.f55 [] K
theorem impl_in.eq {ρ : Type} (N : Nat) (K : AV → Heap → Option ρ) (x0 : Int) (least1 : Int) (most2 : Int) :
    xbody (E12 N) ents impl_in.kp N Try.f55 impl_in.bd [.int .i64 (x0), .int .i64 (least1), .int .i64 (most2)] [] K = (impl_in N (fun d0 => K (.bool (d0)) []) x0 least1 most2) := by kernel_rfl
def impl_in.en (N : Nat) (ρ : Type) : List AV → Heap → (AV → Heap → Option ρ) → Option ρ
  | [.int .i64 (x0), .int .i64 (least1), .int .i64 (most2)], [], K => (impl_in N (fun d0 => K (.bool (d0)) []) x0 least1 most2)
  | _, _, _ => none
theorem impl_in.en_ok (N : Nat) (hE : EnvOk (E12 N) ents) (ρ : Type) (args : List AV) (sh : Heap) (K : AV → Heap → Option ρ) (r : ρ) (h : impl_in.en N ρ args sh K = some r) : ∃ v sh', K v sh' = some r ∧ FnOk (E12 N).P 55 args sh v sh' := by
  unfold impl_in.en at h
  split at h
  · exact fn_ok hE (kp := impl_in.kp) (N := N) Try.func55 (c := impl_in.bd) (by kernel_rfl) ((impl_in.eq N _ _ _ _).trans h)
  · cases h
def E13 (N : Nat) : Env := (E12 N).add 55 (impl_in.en N)
theorem E13_ok (N : Nat) : EnvOk (E13 N) ents := Env.add_ok (E12_ok N) (impl_in.en_ok N (E12_ok N))
def impl_isRows_c1.kp : Keeps := ⟨[], [], []⟩
def impl_isRows_c1.bd : Code := bodyOf Try.f64
def impl_isRows_c1.fin {ρ : Type} (N : Nat) (K : AV → Heap → Option ρ) (gv1 : Nat → Int) : XE → St → Option ρ := finK (E13 N) impl_isRows_c1.kp.fins Try.f64 [⟨false, .flat 1 (.ints .i64 gv1)⟩] K
theorem impl_isRows_c1.eq {ρ : Type} (N : Nat) (K : AV → Heap → Option ρ) (x0 : Int) (gv1 : Nat → Int) :
    xbody (E13 N) ents impl_isRows_c1.kp N Try.f64 impl_isRows_c1.bd [.int .i64 (x0), .sptr [(0, 1)]] [⟨false, .flat 1 (.ints .i64 gv1)⟩] K = (impl_isRows_c1 N (fun d0 => K (.bool (d0)) [⟨false, .flat 1 (.ints .i64 gv1)⟩]) x0 gv1) := by kernel_rfl
def impl_isRows_c1.en (N : Nat) (ρ : Type) : List AV → Heap → (AV → Heap → Option ρ) → Option ρ
  | [.int .i64 (x0), .sptr [(0, 1)]], [⟨false, .flat 1 (.ints .i64 gv1)⟩], K => (impl_isRows_c1 N (fun d0 => K (.bool (d0)) [⟨false, .flat 1 (.ints .i64 gv1)⟩]) x0 gv1)
  | _, _, _ => none
theorem impl_isRows_c1.en_ok (N : Nat) (hE : EnvOk (E13 N) ents) (ρ : Type) (args : List AV) (sh : Heap) (K : AV → Heap → Option ρ) (r : ρ) (h : impl_isRows_c1.en N ρ args sh K = some r) : ∃ v sh', K v sh' = some r ∧ FnOk (E13 N).P 64 args sh v sh' := by
  unfold impl_isRows_c1.en at h
  split at h
  · exact fn_ok hE (kp := impl_isRows_c1.kp) (N := N) Try.func64 (c := impl_isRows_c1.bd) (by kernel_rfl) ((impl_isRows_c1.eq N _ _ _).trans h)
  · cases h
def E14 (N : Nat) : Env := (E13 N).add 64 (impl_isRows_c1.en N)
theorem E14_ok (N : Nat) : EnvOk (E14 N) ents := Env.add_ok (E13_ok N) (impl_isRows_c1.en_ok N (E13_ok N))
def slices_IndexFunc_suf.kp : Keeps := ⟨[(0, [0, 1, 7, 8], [], [])], [(0, [], [], [])], []⟩
def slices_IndexFunc_suf.bd : Code := bodyOf Try.f69
def slices_IndexFunc_suf.fin {ρ : Type} (N : Nat) (K : AV → Heap → Option ρ) (gv1 : Nat) (gv2 : Nat → Int) (gv3 : Nat → Int) : XE → St → Option ρ := finK (E14 N) slices_IndexFunc_suf.kp.fins Try.f69 [⟨false, .flat gv1 (.ints .i64 gv2)⟩, ⟨false, .flat 1 (.ints .i64 gv3)⟩] K
def slices_IndexFunc_suf.k0 {ρ : Type} (N : Nat) (K : AV → Heap → Option ρ) (gv1 : Nat) (gv2 : Nat → Int) (gv3 : Nat → Int) : XE → St → Option ρ := (blockK slices_IndexFunc_suf.kp 2 0 (seqK (xcode (E14 N) ents slices_IndexFunc_suf.kp 2 N (cB (cB slices_IndexFunc_suf.bd)) 0) (slices_IndexFunc_suf.fin N K gv1 gv2 gv3)))
theorem slices_IndexFunc_suf.k0_mix {ρ : Type} (N : Nat) (K : AV → Heap → Option ρ) (gv1 : Nat) (gv2 : Nat → Int) (gv3 : Nat → Int) : mixK (slices_IndexFunc_suf.fin N K gv1 gv2 gv3 .ret) (slices_IndexFunc_suf.k0 N K gv1 gv2 gv3) = (slices_IndexFunc_suf.k0 N K gv1 gv2 gv3) := by
  funext e s; cases e <;> kernel_rfl
def slices_IndexFunc_suf.st0 (s0 : Nat) (gv1 : Nat) (gv2 : Nat → Int) (gv3 : Nat → Int) (x4 : Int) : St := ⟨sl 19 [(0, .slice false 0 0 s0 .unk 1), (1, .fn 64 0 [[(1, 1)]]), (7, .int .i64 ((s0 : Int))), (8, .int .i64 (x4))], [⟨false, .flat gv1 (.ints .i64 gv2)⟩, ⟨false, .flat 1 (.ints .i64 gv3)⟩]⟩
def slices_IndexFunc_suf.sx0_0 (gv1 : Nat) (gv2 : Nat → Int) (gv3 : Nat → Int) : St := ⟨sl 19 [], [⟨false, .flat gv1 (.ints .i64 gv2)⟩, ⟨false, .flat 1 (.ints .i64 gv3)⟩]⟩
theorem slices_IndexFunc_suf.b0_gen {ρ : Type} (N : Nat) (K : AV → Heap → Option ρ) (L0 : St → Option ρ) (kv : XE → St → Option ρ) (s0 : Nat) (gv1 : Nat) (gv2 : Nat → Int) (gv3 : Nat → Int) (x4 : Int) :
    xcode (E14 N) ents slices_IndexFunc_suf.kp 2 N (cL (cK (cB (cA (cB slices_IndexFunc_suf.bd))))) 0 (slices_IndexFunc_suf.st0 s0 gv1 gv2 gv3 x4) (roundK slices_IndexFunc_suf.kp 2 0 L0 (mixK (slices_IndexFunc_suf.fin N K gv1 gv2 gv3 .ret) kv)) = (slices_IndexFunc_suf.b0 N (fun d0 => K (.int .i64 (d0)) [⟨false, .flat gv1 (.ints .i64 gv2)⟩, ⟨false, .flat 1 (.ints .i64 gv3)⟩]) (fun x4 => L0 (slices_IndexFunc_suf.st0 s0 gv1 gv2 gv3 x4)) (kv (.exit 0) (slices_IndexFunc_suf.sx0_0 gv1 gv2 gv3)) s0 gv2 gv3 x4) := by kernel_rfl
theorem slices_IndexFunc_suf.b0_eq {ρ : Type} (N : Nat) (K : AV → Heap → Option ρ) (L0 : St → Option ρ) (s0 : Nat) (gv1 : Nat) (gv2 : Nat → Int) (gv3 : Nat → Int) (x4 : Int) :
    xcode (E14 N) ents slices_IndexFunc_suf.kp 2 N (cL (cK (cB (cA (cB slices_IndexFunc_suf.bd))))) 0 (slices_IndexFunc_suf.st0 s0 gv1 gv2 gv3 x4) (roundK slices_IndexFunc_suf.kp 2 0 L0 (slices_IndexFunc_suf.k0 N K gv1 gv2 gv3)) = (slices_IndexFunc_suf.b0 N (fun d0 => K (.int .i64 (d0)) [⟨false, .flat gv1 (.ints .i64 gv2)⟩, ⟨false, .flat 1 (.ints .i64 gv3)⟩]) (fun x4 => L0 (slices_IndexFunc_suf.st0 s0 gv1 gv2 gv3 x4)) ((slices_IndexFunc_suf.k0 N K gv1 gv2 gv3) (.exit 0) (slices_IndexFunc_suf.sx0_0 gv1 gv2 gv3)) s0 gv2 gv3 x4) := by
  have h := slices_IndexFunc_suf.b0_gen N K L0 (slices_IndexFunc_suf.k0 N K gv1 gv2 gv3) s0 gv1 gv2 gv3 x4
  rw [slices_IndexFunc_suf.k0_mix] at h
  exact h
theorem slices_IndexFunc_suf.a0_0_eq {ρ : Type} (N : Nat) (K : AV → Heap → Option ρ) (gv1 : Nat) (gv2 : Nat → Int) (gv3 : Nat → Int) :
    (slices_IndexFunc_suf.k0 N K gv1 gv2 gv3) (.exit 0) (slices_IndexFunc_suf.sx0_0 gv1 gv2 gv3) = (slices_IndexFunc_suf.a0_0 N (fun d0 => K (.int .i64 (d0)) [⟨false, .flat gv1 (.ints .i64 gv2)⟩, ⟨false, .flat 1 (.ints .i64 gv3)⟩])) := by kernel_rfl
theorem slices_IndexFunc_suf.l0_eq {ρ : Type} (N : Nat) (K : AV → Heap → Option ρ) (s0 : Nat) (gv1 : Nat) (gv2 : Nat → Int) (gv3 : Nat → Int) :
    ∀ (m : Nat) (x4 : Int), xloop (xcode (E14 N) ents slices_IndexFunc_suf.kp 2 N (cL (cK (cB (cA (cB slices_IndexFunc_suf.bd))))) 0) slices_IndexFunc_suf.kp 2 0 m (slices_IndexFunc_suf.st0 s0 gv1 gv2 gv3 x4) (slices_IndexFunc_suf.k0 N K gv1 gv2 gv3) = (slices_IndexFunc_suf.l0 N (fun d0 => K (.int .i64 (d0)) [⟨false, .flat gv1 (.ints .i64 gv2)⟩, ⟨false, .flat 1 (.ints .i64 gv3)⟩]) s0 gv2 gv3 ((slices_IndexFunc_suf.k0 N K gv1 gv2 gv3) (.exit 0) (slices_IndexFunc_suf.sx0_0 gv1 gv2 gv3)) m x4) := by
  intro m
  induction m with
  | zero => intros; rfl
  | succ m ih =>
    intro x4
    refine (slices_IndexFunc_suf.b0_eq N K (fun s => xloop (xcode (E14 N) ents slices_IndexFunc_suf.kp 2 N (cL (cK (cB (cA (cB slices_IndexFunc_suf.bd))))) 0) slices_IndexFunc_suf.kp 2 0 m s (slices_IndexFunc_suf.k0 N K gv1 gv2 gv3)) s0 gv1 gv2 gv3 x4).trans ?_
    simp only [ih]
    kernel_rfl
theorem slices_IndexFunc_suf.s_eq {ρ : Type} (N : Nat) (K : AV → Heap → Option ρ) (s0 : Nat) (gv1 : Nat) (gv2 : Nat → Int) (gv3 : Nat → Int) :
    xbody (E14 N) ents slices_IndexFunc_suf.kp N Try.f69 slices_IndexFunc_suf.bd [.slice false 0 0 s0 .unk 1, .fn 64 0 [[(1, 1)]]] [⟨false, .flat gv1 (.ints .i64 gv2)⟩, ⟨false, .flat 1 (.ints .i64 gv3)⟩] K = (slices_IndexFunc_suf.s N (fun d0 => K (.int .i64 (d0)) [⟨false, .flat gv1 (.ints .i64 gv2)⟩, ⟨false, .flat 1 (.ints .i64 gv3)⟩]) (fun x4 => xloop (xcode (E14 N) ents slices_IndexFunc_suf.kp 2 N (cL (cK (cB (cA (cB slices_IndexFunc_suf.bd))))) 0) slices_IndexFunc_suf.kp 2 0 N (slices_IndexFunc_suf.st0 s0 gv1 gv2 gv3 x4) (slices_IndexFunc_suf.k0 N K gv1 gv2 gv3))) := by kernel_rfl
theorem slices_IndexFunc_suf.eq {ρ : Type} (N : Nat) (K : AV → Heap → Option ρ) (s0 : Nat) (gv1 : Nat) (gv2 : Nat → Int) (gv3 : Nat → Int) :
    xbody (E14 N) ents slices_IndexFunc_suf.kp N Try.f69 slices_IndexFunc_suf.bd [.slice false 0 0 s0 .unk 1, .fn 64 0 [[(1, 1)]]] [⟨false, .flat gv1 (.ints .i64 gv2)⟩, ⟨false, .flat 1 (.ints .i64 gv3)⟩] K = (slices_IndexFunc_suf N (fun d0 => K (.int .i64 (d0)) [⟨false, .flat gv1 (.ints .i64 gv2)⟩, ⟨false, .flat 1 (.ints .i64 gv3)⟩]) s0 gv1 gv2 gv3) := by
  refine (slices_IndexFunc_suf.s_eq N K s0 gv1 gv2 gv3).trans ?_
  simp only [slices_IndexFunc_suf.l0_eq, slices_IndexFunc_suf.a0_0_eq]
  kernel_rfl
def slices_IndexFunc_suf.en (N : Nat) (ρ : Type) : List AV → Heap → (AV → Heap → Option ρ) → Option ρ
  | [.slice false 0 0 s0 .unk 1, .fn 64 0 [[(1, 1)]]], [⟨false, .flat gv1 (.ints .i64 gv2)⟩, ⟨false, .flat 1 (.ints .i64 gv3)⟩], K => (slices_IndexFunc_suf N (fun d0 => K (.int .i64 (d0)) [⟨false, .flat gv1 (.ints .i64 gv2)⟩, ⟨false, .flat 1 (.ints .i64 gv3)⟩]) s0 gv1 gv2 gv3)
  | _, _, _ => none
theorem slices_IndexFunc_suf.en_ok (N : Nat) (hE : EnvOk (E14 N) ents) (ρ : Type) (args : List AV) (sh : Heap) (K : AV → Heap → Option ρ) (r : ρ) (h : slices_IndexFunc_suf.en N ρ args sh K = some r) : ∃ v sh', K v sh' = some r ∧ FnOk (E14 N).P 69 args sh v sh' := by
  unfold slices_IndexFunc_suf.en at h
  split at h
  · exact fn_ok hE (kp := slices_IndexFunc_suf.kp) (N := N) Try.func69 (c := slices_IndexFunc_suf.bd) (by kernel_rfl) ((slices_IndexFunc_suf.eq N _ _ _ _ _).trans h)
  · cases h
def E15 (N : Nat) : Env := (E14 N).add 69 (slices_IndexFunc_suf.en N)
theorem E15_ok (N : Nat) : EnvOk (E15 N) ents := Env.add_ok (E14_ok N) (slices_IndexFunc_suf.en_ok N (E14_ok N))
def slices_ContainsFunc_suf.kp : Keeps := ⟨[], [], []⟩
def slices_ContainsFunc_suf.bd : Code := bodyOf Try.f63
def slices_ContainsFunc_suf.fin {ρ : Type} (N : Nat) (K : AV → Heap → Option ρ) (gv1 : Nat) (gv2 : Nat → Int) (gv3 : Nat → Int) : XE → St → Option ρ := finK (E15 N) slices_ContainsFunc_suf.kp.fins Try.f63 [⟨false, .flat gv1 (.ints .i64 gv2)⟩, ⟨false, .flat 1 (.ints .i64 gv3)⟩] K
theorem slices_ContainsFunc_suf.eq {ρ : Type} (N : Nat) (K : AV → Heap → Option ρ) (s0 : Nat) (gv1 : Nat) (gv2 : Nat → Int) (gv3 : Nat → Int) :
    xbody (E15 N) ents slices_ContainsFunc_suf.kp N Try.f63 slices_ContainsFunc_suf.bd [.slice false 0 0 s0 .unk 1, .fn 64 0 [[(1, 1)]]] [⟨false, .flat gv1 (.ints .i64 gv2)⟩, ⟨false, .flat 1 (.ints .i64 gv3)⟩] K = (slices_ContainsFunc_suf N (fun d0 => K (.bool (d0)) [⟨false, .flat gv1 (.ints .i64 gv2)⟩, ⟨false, .flat 1 (.ints .i64 gv3)⟩]) s0 gv1 gv2 gv3) := by kernel_rfl
def slices_ContainsFunc_suf.en (N : Nat) (ρ : Type) : List AV → Heap → (AV → Heap → Option ρ) → Option ρ
  | [.slice false 0 0 s0 .unk 1, .fn 64 0 [[(1, 1)]]], [⟨false, .flat gv1 (.ints .i64 gv2)⟩, ⟨false, .flat 1 (.ints .i64 gv3)⟩], K => (slices_ContainsFunc_suf N (fun d0 => K (.bool (d0)) [⟨false, .flat gv1 (.ints .i64 gv2)⟩, ⟨false, .flat 1 (.ints .i64 gv3)⟩]) s0 gv1 gv2 gv3)
  | _, _, _ => none
theorem slices_ContainsFunc_suf.en_ok (N : Nat) (hE : EnvOk (E15 N) ents) (ρ : Type) (args : List AV) (sh : Heap) (K : AV → Heap → Option ρ) (r : ρ) (h : slices_ContainsFunc_suf.en N ρ args sh K = some r) : ∃ v sh', K v sh' = some r ∧ FnOk (E15 N).P 63 args sh v sh' := by
  unfold slices_ContainsFunc_suf.en at h
  split at h
  · exact fn_ok hE (kp := slices_ContainsFunc_suf.kp) (N := N) Try.func63 (c := slices_ContainsFunc_suf.bd) (by kernel_rfl) ((slices_ContainsFunc_suf.eq N _ _ _ _ _).trans h)
  · cases h
def E16 (N : Nat) : Env := (E15 N).add 63 (slices_ContainsFunc_suf.en N)
theorem E16_ok (N : Nat) : EnvOk (E16 N) ents := Env.add_ok (E15_ok N) (slices_ContainsFunc_suf.en_ok N (E15_ok N))
def impl_isRows_suh.kp : Keeps := ⟨[(0, [3, 11, 12, 13], [], [])], [(0, [], [], [])], []⟩
def impl_isRows_suh.bd : Code := bodyOf Try.f43
def impl_isRows_suh.fin {ρ : Type} (N : Nat) (K : AV → Heap → Option ρ) (gv1 : Nat) (gv2 : Nat) (gv3 : Nat → Nat) (gv4 : Nat → Nat) (gv5 : Nat → Int) : XE → St → Option ρ := finK (E16 N) impl_isRows_suh.kp.fins Try.f43 [⟨false, .hdr 1 gv1 gv2 gv3 gv4 none⟩, ⟨false, .flat 0 (.ints .i64 gv5)⟩] K
def impl_isRows_suh.k0 {ρ : Type} (N : Nat) (K : AV → Heap → Option ρ) (gv1 : Nat) (gv2 : Nat) (gv3 : Nat → Nat) (gv4 : Nat → Nat) (gv5 : Nat → Int) : XE → St → Option ρ := (blockK impl_isRows_suh.kp 2 0 (seqK (xcode (E16 N) ents impl_isRows_suh.kp 2 N (cB (cB (cB (cB impl_isRows_suh.bd)))) 0) (impl_isRows_suh.fin N K gv1 gv2 gv3 gv4 gv5)))
theorem impl_isRows_suh.k0_mix {ρ : Type} (N : Nat) (K : AV → Heap → Option ρ) (gv1 : Nat) (gv2 : Nat) (gv3 : Nat → Nat) (gv4 : Nat → Nat) (gv5 : Nat → Int) : mixK (impl_isRows_suh.fin N K gv1 gv2 gv3 gv4 gv5 .ret) (impl_isRows_suh.k0 N K gv1 gv2 gv3 gv4 gv5) = (impl_isRows_suh.k0 N K gv1 gv2 gv3 gv4 gv5) := by
  funext e s; cases e <;> kernel_rfl
def impl_isRows_suh.st0 (table0 : Nat) (gv1 : Nat) (gv2 : Nat) (gv3 : Nat → Nat) (gv4 : Nat → Nat) (gv5 : Nat → Int) (x7 : Int) : St := ⟨sl 27 [(3, .sptr [(2, 1)]), (11, .slice true 0 0 table0 .unk 1), (12, .int .i64 ((table0 : Int))), (13, .int .i64 (x7))], [⟨false, .hdr 1 gv1 gv2 gv3 gv4 none⟩, ⟨false, .flat 0 (.ints .i64 gv5)⟩, ⟨true, .flat 1 (.ints .i64 (fun _ => (table0 : Int)))⟩]⟩
def impl_isRows_suh.sx0_0 (gv1 : Nat) (gv2 : Nat) (gv3 : Nat → Nat) (gv4 : Nat → Nat) (gv5 : Nat → Int) : St := ⟨sl 27 [], [⟨false, .hdr 1 gv1 gv2 gv3 gv4 none⟩, ⟨false, .flat 0 (.ints .i64 gv5)⟩]⟩
theorem impl_isRows_suh.b0_gen {ρ : Type} (N : Nat) (K : AV → Heap → Option ρ) (L0 : St → Option ρ) (kv : XE → St → Option ρ) (table0 : Nat) (gv1 : Nat) (gv2 : Nat) (gv3 : Nat → Nat) (gv4 : Nat → Nat) (gv5 : Nat → Int) (x7 : Int) :
    xcode (E16 N) ents impl_isRows_suh.kp 2 N (cL (cK (cB (cA (cB (cB (cB impl_isRows_suh.bd))))))) 0 (impl_isRows_suh.st0 table0 gv1 gv2 gv3 gv4 gv5 x7) (roundK impl_isRows_suh.kp 2 0 L0 (mixK (impl_isRows_suh.fin N K gv1 gv2 gv3 gv4 gv5 .ret) kv)) = (impl_isRows_suh.b0 N (fun d0 => K (.bool (d0)) [⟨false, .hdr 1 gv1 gv2 gv3 gv4 none⟩, ⟨false, .flat 0 (.ints .i64 gv5)⟩]) (fun x7 => L0 (impl_isRows_suh.st0 table0 gv1 gv2 gv3 gv4 gv5 x7)) (kv (.exit 0) (impl_isRows_suh.sx0_0 gv1 gv2 gv3 gv4 gv5)) table0 gv3 gv4 gv5 x7) := by kernel_rfl
theorem impl_isRows_suh.b0_eq {ρ : Type} (N : Nat) (K : AV → Heap → Option ρ) (L0 : St → Option ρ) (table0 : Nat) (gv1 : Nat) (gv2 : Nat) (gv3 : Nat → Nat) (gv4 : Nat → Nat) (gv5 : Nat → Int) (x7 : Int) :
    xcode (E16 N) ents impl_isRows_suh.kp 2 N (cL (cK (cB (cA (cB (cB (cB impl_isRows_suh.bd))))))) 0 (impl_isRows_suh.st0 table0 gv1 gv2 gv3 gv4 gv5 x7) (roundK impl_isRows_suh.kp 2 0 L0 (impl_isRows_suh.k0 N K gv1 gv2 gv3 gv4 gv5)) = (impl_isRows_suh.b0 N (fun d0 => K (.bool (d0)) [⟨false, .hdr 1 gv1 gv2 gv3 gv4 none⟩, ⟨false, .flat 0 (.ints .i64 gv5)⟩]) (fun x7 => L0 (impl_isRows_suh.st0 table0 gv1 gv2 gv3 gv4 gv5 x7)) ((impl_isRows_suh.k0 N K gv1 gv2 gv3 gv4 gv5) (.exit 0) (impl_isRows_suh.sx0_0 gv1 gv2 gv3 gv4 gv5)) table0 gv3 gv4 gv5 x7) := by
  have h := impl_isRows_suh.b0_gen N K L0 (impl_isRows_suh.k0 N K gv1 gv2 gv3 gv4 gv5) table0 gv1 gv2 gv3 gv4 gv5 x7
  rw [impl_isRows_suh.k0_mix] at h
  exact h
theorem impl_isRows_suh.a0_0_eq {ρ : Type} (N : Nat) (K : AV → Heap → Option ρ) (gv1 : Nat) (gv2 : Nat) (gv3 : Nat → Nat) (gv4 : Nat → Nat) (gv5 : Nat → Int) :
    (impl_isRows_suh.k0 N K gv1 gv2 gv3 gv4 gv5) (.exit 0) (impl_isRows_suh.sx0_0 gv1 gv2 gv3 gv4 gv5) = (impl_isRows_suh.a0_0 N (fun d0 => K (.bool (d0)) [⟨false, .hdr 1 gv1 gv2 gv3 gv4 none⟩, ⟨false, .flat 0 (.ints .i64 gv5)⟩])) := by kernel_rfl
theorem impl_isRows_suh.l0_eq {ρ : Type} (N : Nat) (K : AV → Heap → Option ρ) (table0 : Nat) (gv1 : Nat) (gv2 : Nat) (gv3 : Nat → Nat) (gv4 : Nat → Nat) (gv5 : Nat → Int) :
    ∀ (m : Nat) (x7 : Int), xloop (xcode (E16 N) ents impl_isRows_suh.kp 2 N (cL (cK (cB (cA (cB (cB (cB impl_isRows_suh.bd))))))) 0) impl_isRows_suh.kp 2 0 m (impl_isRows_suh.st0 table0 gv1 gv2 gv3 gv4 gv5 x7) (impl_isRows_suh.k0 N K gv1 gv2 gv3 gv4 gv5) = (impl_isRows_suh.l0 N (fun d0 => K (.bool (d0)) [⟨false, .hdr 1 gv1 gv2 gv3 gv4 none⟩, ⟨false, .flat 0 (.ints .i64 gv5)⟩]) table0 gv3 gv4 gv5 ((impl_isRows_suh.k0 N K gv1 gv2 gv3 gv4 gv5) (.exit 0) (impl_isRows_suh.sx0_0 gv1 gv2 gv3 gv4 gv5)) m x7) := by
  intro m
  induction m with
  | zero => intros; rfl
  | succ m ih =>
    intro x7
    refine (impl_isRows_suh.b0_eq N K (fun s => xloop (xcode (E16 N) ents impl_isRows_suh.kp 2 N (cL (cK (cB (cA (cB (cB (cB impl_isRows_suh.bd))))))) 0) impl_isRows_suh.kp 2 0 m s (impl_isRows_suh.k0 N K gv1 gv2 gv3 gv4 gv5)) table0 gv1 gv2 gv3 gv4 gv5 x7).trans ?_
    simp only [ih]
    kernel_rfl
theorem impl_isRows_suh.s_eq {ρ : Type} (N : Nat) (K : AV → Heap → Option ρ) (table0 : Nat) (gv1 : Nat) (gv2 : Nat) (gv3 : Nat → Nat) (gv4 : Nat → Nat) (gv5 : Nat → Int) :
    xbody (E16 N) ents impl_isRows_suh.kp N Try.f43 impl_isRows_suh.bd [.slice true 0 0 table0 .unk 1] [⟨false, .hdr 1 gv1 gv2 gv3 gv4 none⟩, ⟨false, .flat 0 (.ints .i64 gv5)⟩] K = (impl_isRows_suh.s N (fun d0 => K (.bool (d0)) [⟨false, .hdr 1 gv1 gv2 gv3 gv4 none⟩, ⟨false, .flat 0 (.ints .i64 gv5)⟩]) (fun x7 => xloop (xcode (E16 N) ents impl_isRows_suh.kp 2 N (cL (cK (cB (cA (cB (cB (cB impl_isRows_suh.bd))))))) 0) impl_isRows_suh.kp 2 0 N (impl_isRows_suh.st0 table0 gv1 gv2 gv3 gv4 gv5 x7) (impl_isRows_suh.k0 N K gv1 gv2 gv3 gv4 gv5)) table0) := by kernel_rfl
theorem impl_isRows_suh.eq {ρ : Type} (N : Nat) (K : AV → Heap → Option ρ) (table0 : Nat) (gv1 : Nat) (gv2 : Nat) (gv3 : Nat → Nat) (gv4 : Nat → Nat) (gv5 : Nat → Int) :
    xbody (E16 N) ents impl_isRows_suh.kp N Try.f43 impl_isRows_suh.bd [.slice true 0 0 table0 .unk 1] [⟨false, .hdr 1 gv1 gv2 gv3 gv4 none⟩, ⟨false, .flat 0 (.ints .i64 gv5)⟩] K = (impl_isRows_suh N (fun d0 => K (.bool (d0)) [⟨false, .hdr 1 gv1 gv2 gv3 gv4 none⟩, ⟨false, .flat 0 (.ints .i64 gv5)⟩]) table0 gv1 gv2 gv3 gv4 gv5) := by
  refine (impl_isRows_suh.s_eq N K table0 gv1 gv2 gv3 gv4 gv5).trans ?_
  simp only [impl_isRows_suh.l0_eq, impl_isRows_suh.a0_0_eq]
  kernel_rfl
def impl_isRows_suh_v2.kp : Keeps := ⟨[(0, [3, 11, 12, 13], [], [])], [(0, [], [], [])], []⟩
def impl_isRows_suh_v2.bd : Code := bodyOf Try.f43
def impl_isRows_suh_v2.fin {ρ : Type} (N : Nat) (K : AV → Heap → Option ρ) (gv1 : Nat) (gv2 : Nat) (gv3 : Nat → Nat) (gv4 : Nat → Nat) (gv5 : Nat → Int) : XE → St → Option ρ := finK (E16 N) impl_isRows_suh_v2.kp.fins Try.f43 [⟨false, .hdr 1 gv1 gv2 gv3 gv4 none⟩, ⟨false, .flat 0 (.ints .i64 gv5)⟩] K
def impl_isRows_suh_v2.k0 {ρ : Type} (N : Nat) (K : AV → Heap → Option ρ) (gv1 : Nat) (gv2 : Nat) (gv3 : Nat → Nat) (gv4 : Nat → Nat) (gv5 : Nat → Int) : XE → St → Option ρ := (blockK impl_isRows_suh_v2.kp 2 0 (seqK (xcode (E16 N) ents impl_isRows_suh_v2.kp 2 N (cB (cB (cB (cB impl_isRows_suh_v2.bd)))) 0) (impl_isRows_suh_v2.fin N K gv1 gv2 gv3 gv4 gv5)))
theorem impl_isRows_suh_v2.k0_mix {ρ : Type} (N : Nat) (K : AV → Heap → Option ρ) (gv1 : Nat) (gv2 : Nat) (gv3 : Nat → Nat) (gv4 : Nat → Nat) (gv5 : Nat → Int) : mixK (impl_isRows_suh_v2.fin N K gv1 gv2 gv3 gv4 gv5 .ret) (impl_isRows_suh_v2.k0 N K gv1 gv2 gv3 gv4 gv5) = (impl_isRows_suh_v2.k0 N K gv1 gv2 gv3 gv4 gv5) := by
  funext e s; cases e <;> kernel_rfl
def impl_isRows_suh_v2.st0 (table0 : Nat) (gv1 : Nat) (gv2 : Nat) (gv3 : Nat → Nat) (gv4 : Nat → Nat) (gv5 : Nat → Int) (x7 : Int) : St := ⟨sl 27 [(3, .sptr [(2, 1)]), (11, .slice false 0 0 table0 .unk 1), (12, .int .i64 ((table0 : Int))), (13, .int .i64 (x7))], [⟨false, .hdr 1 gv1 gv2 gv3 gv4 none⟩, ⟨false, .flat 0 (.ints .i64 gv5)⟩, ⟨true, .flat 1 (.ints .i64 (fun _ => (table0 : Int)))⟩]⟩
def impl_isRows_suh_v2.sx0_0 (gv1 : Nat) (gv2 : Nat) (gv3 : Nat → Nat) (gv4 : Nat → Nat) (gv5 : Nat → Int) : St := ⟨sl 27 [], [⟨false, .hdr 1 gv1 gv2 gv3 gv4 none⟩, ⟨false, .flat 0 (.ints .i64 gv5)⟩]⟩
theorem impl_isRows_suh_v2.b0_gen {ρ : Type} (N : Nat) (K : AV → Heap → Option ρ) (L0 : St → Option ρ) (kv : XE → St → Option ρ) (table0 : Nat) (gv1 : Nat) (gv2 : Nat) (gv3 : Nat → Nat) (gv4 : Nat → Nat) (gv5 : Nat → Int) (x7 : Int) :
    xcode (E16 N) ents impl_isRows_suh_v2.kp 2 N (cL (cK (cB (cA (cB (cB (cB impl_isRows_suh_v2.bd))))))) 0 (impl_isRows_suh_v2.st0 table0 gv1 gv2 gv3 gv4 gv5 x7) (roundK impl_isRows_suh_v2.kp 2 0 L0 (mixK (impl_isRows_suh_v2.fin N K gv1 gv2 gv3 gv4 gv5 .ret) kv)) = (impl_isRows_suh_v2.b0 N (fun d0 => K (.bool (d0)) [⟨false, .hdr 1 gv1 gv2 gv3 gv4 none⟩, ⟨false, .flat 0 (.ints .i64 gv5)⟩]) (fun x7 => L0 (impl_isRows_suh_v2.st0 table0 gv1 gv2 gv3 gv4 gv5 x7)) (kv (.exit 0) (impl_isRows_suh_v2.sx0_0 gv1 gv2 gv3 gv4 gv5)) table0 gv3 gv4 gv5 x7) := by kernel_rfl
theorem impl_isRows_suh_v2.b0_eq {ρ : Type} (N : Nat) (K : AV → Heap → Option ρ) (L0 : St → Option ρ) (table0 : Nat) (gv1 : Nat) (gv2 : Nat) (gv3 : Nat → Nat) (gv4 : Nat → Nat) (gv5 : Nat → Int) (x7 : Int) :
    xcode (E16 N) ents impl_isRows_suh_v2.kp 2 N (cL (cK (cB (cA (cB (cB (cB impl_isRows_suh_v2.bd))))))) 0 (impl_isRows_suh_v2.st0 table0 gv1 gv2 gv3 gv4 gv5 x7) (roundK impl_isRows_suh_v2.kp 2 0 L0 (impl_isRows_suh_v2.k0 N K gv1 gv2 gv3 gv4 gv5)) = (impl_isRows_suh_v2.b0 N (fun d0 => K (.bool (d0)) [⟨false, .hdr 1 gv1 gv2 gv3 gv4 none⟩, ⟨false, .flat 0 (.ints .i64 gv5)⟩]) (fun x7 => L0 (impl_isRows_suh_v2.st0 table0 gv1 gv2 gv3 gv4 gv5 x7)) ((impl_isRows_suh_v2.k0 N K gv1 gv2 gv3 gv4 gv5) (.exit 0) (impl_isRows_suh_v2.sx0_0 gv1 gv2 gv3 gv4 gv5)) table0 gv3 gv4 gv5 x7) := by
  have h := impl_isRows_suh_v2.b0_gen N K L0 (impl_isRows_suh_v2.k0 N K gv1 gv2 gv3 gv4 gv5) table0 gv1 gv2 gv3 gv4 gv5 x7
  rw [impl_isRows_suh_v2.k0_mix] at h
  exact h
theorem impl_isRows_suh_v2.a0_0_eq {ρ : Type} (N : Nat) (K : AV → Heap → Option ρ) (gv1 : Nat) (gv2 : Nat) (gv3 : Nat → Nat) (gv4 : Nat → Nat) (gv5 : Nat → Int) :
    (impl_isRows_suh_v2.k0 N K gv1 gv2 gv3 gv4 gv5) (.exit 0) (impl_isRows_suh_v2.sx0_0 gv1 gv2 gv3 gv4 gv5) = (impl_isRows_suh_v2.a0_0 N (fun d0 => K (.bool (d0)) [⟨false, .hdr 1 gv1 gv2 gv3 gv4 none⟩, ⟨false, .flat 0 (.ints .i64 gv5)⟩])) := by kernel_rfl
theorem impl_isRows_suh_v2.l0_eq {ρ : Type} (N : Nat) (K : AV → Heap → Option ρ) (table0 : Nat) (gv1 : Nat) (gv2 : Nat) (gv3 : Nat → Nat) (gv4 : Nat → Nat) (gv5 : Nat → Int) :
    ∀ (m : Nat) (x7 : Int), xloop (xcode (E16 N) ents impl_isRows_suh_v2.kp 2 N (cL (cK (cB (cA (cB (cB (cB impl_isRows_suh_v2.bd))))))) 0) impl_isRows_suh_v2.kp 2 0 m (impl_isRows_suh_v2.st0 table0 gv1 gv2 gv3 gv4 gv5 x7) (impl_isRows_suh_v2.k0 N K gv1 gv2 gv3 gv4 gv5) = (impl_isRows_suh_v2.l0 N (fun d0 => K (.bool (d0)) [⟨false, .hdr 1 gv1 gv2 gv3 gv4 none⟩, ⟨false, .flat 0 (.ints .i64 gv5)⟩]) table0 gv3 gv4 gv5 ((impl_isRows_suh_v2.k0 N K gv1 gv2 gv3 gv4 gv5) (.exit 0) (impl_isRows_suh_v2.sx0_0 gv1 gv2 gv3 gv4 gv5)) m x7) := by
  intro m
  induction m with
  | zero => intros; rfl
  | succ m ih =>
    intro x7
    refine (impl_isRows_suh_v2.b0_eq N K (fun s => xloop (xcode (E16 N) ents impl_isRows_suh_v2.kp 2 N (cL (cK (cB (cA (cB (cB (cB impl_isRows_suh_v2.bd))))))) 0) impl_isRows_suh_v2.kp 2 0 m s (impl_isRows_suh_v2.k0 N K gv1 gv2 gv3 gv4 gv5)) table0 gv1 gv2 gv3 gv4 gv5 x7).trans ?_
    simp only [ih]
    kernel_rfl
theorem impl_isRows_suh_v2.s_eq {ρ : Type} (N : Nat) (K : AV → Heap → Option ρ) (table0 : Nat) (gv1 : Nat) (gv2 : Nat) (gv3 : Nat → Nat) (gv4 : Nat → Nat) (gv5 : Nat → Int) :
    xbody (E16 N) ents impl_isRows_suh_v2.kp N Try.f43 impl_isRows_suh_v2.bd [.slice false 0 0 table0 .unk 1] [⟨false, .hdr 1 gv1 gv2 gv3 gv4 none⟩, ⟨false, .flat 0 (.ints .i64 gv5)⟩] K = (impl_isRows_suh_v2.s N (fun d0 => K (.bool (d0)) [⟨false, .hdr 1 gv1 gv2 gv3 gv4 none⟩, ⟨false, .flat 0 (.ints .i64 gv5)⟩]) (fun x7 => xloop (xcode (E16 N) ents impl_isRows_suh_v2.kp 2 N (cL (cK (cB (cA (cB (cB (cB impl_isRows_suh_v2.bd))))))) 0) impl_isRows_suh_v2.kp 2 0 N (impl_isRows_suh_v2.st0 table0 gv1 gv2 gv3 gv4 gv5 x7) (impl_isRows_suh_v2.k0 N K gv1 gv2 gv3 gv4 gv5)) table0) := by kernel_rfl
theorem impl_isRows_suh_v2.eq {ρ : Type} (N : Nat) (K : AV → Heap → Option ρ) (table0 : Nat) (gv1 : Nat) (gv2 : Nat) (gv3 : Nat → Nat) (gv4 : Nat → Nat) (gv5 : Nat → Int) :
    xbody (E16 N) ents impl_isRows_suh_v2.kp N Try.f43 impl_isRows_suh_v2.bd [.slice false 0 0 table0 .unk 1] [⟨false, .hdr 1 gv1 gv2 gv3 gv4 none⟩, ⟨false, .flat 0 (.ints .i64 gv5)⟩] K = (impl_isRows_suh_v2 N (fun d0 => K (.bool (d0)) [⟨false, .hdr 1 gv1 gv2 gv3 gv4 none⟩, ⟨false, .flat 0 (.ints .i64 gv5)⟩]) table0 gv1 gv2 gv3 gv4 gv5) := by
  refine (impl_isRows_suh_v2.s_eq N K table0 gv1 gv2 gv3 gv4 gv5).trans ?_
  simp only [impl_isRows_suh_v2.l0_eq, impl_isRows_suh_v2.a0_0_eq]
  kernel_rfl
def impl_isRows_suh.en (N : Nat) (ρ : Type) : List AV → Heap → (AV → Heap → Option ρ) → Option ρ
  | [.slice true 0 0 table0 .unk 1], [⟨false, .hdr 1 gv1 gv2 gv3 gv4 none⟩, ⟨false, .flat 0 (.ints .i64 gv5)⟩], K => (impl_isRows_suh N (fun d0 => K (.bool (d0)) [⟨false, .hdr 1 gv1 gv2 gv3 gv4 none⟩, ⟨false, .flat 0 (.ints .i64 gv5)⟩]) table0 gv1 gv2 gv3 gv4 gv5)
  | [.slice false 0 0 table0 .unk 1], [⟨false, .hdr 1 gv1 gv2 gv3 gv4 none⟩, ⟨false, .flat 0 (.ints .i64 gv5)⟩], K => (impl_isRows_suh_v2 N (fun d0 => K (.bool (d0)) [⟨false, .hdr 1 gv1 gv2 gv3 gv4 none⟩, ⟨false, .flat 0 (.ints .i64 gv5)⟩]) table0 gv1 gv2 gv3 gv4 gv5)
  | _, _, _ => none
theorem impl_isRows_suh.en_ok (N : Nat) (hE : EnvOk (E16 N) ents) (ρ : Type) (args : List AV) (sh : Heap) (K : AV → Heap → Option ρ) (r : ρ) (h : impl_isRows_suh.en N ρ args sh K = some r) : ∃ v sh', K v sh' = some r ∧ FnOk (E16 N).P 43 args sh v sh' := by
  unfold impl_isRows_suh.en at h
  split at h
  · exact fn_ok hE (kp := impl_isRows_suh.kp) (N := N) Try.func43 (c := impl_isRows_suh.bd) (by kernel_rfl) ((impl_isRows_suh.eq N _ _ _ _ _ _ _).trans h)
  · exact fn_ok hE (kp := impl_isRows_suh_v2.kp) (N := N) Try.func43 (c := impl_isRows_suh_v2.bd) (by kernel_rfl) ((impl_isRows_suh_v2.eq N _ _ _ _ _ _ _).trans h)
  · cases h
def E17 (N : Nat) : Env := (E16 N).add 43 (impl_isRows_suh.en N)
theorem E17_ok (N : Nat) : EnvOk (E17 N) ents := Env.add_ok (E16_ok N) (impl_isRows_suh.en_ok N (E16_ok N))
def impl_inverseIn_suh.kp : Keeps := ⟨[(0, [0, 1, 7, 8], [], [])], [(0, [], [], [])], []⟩
def impl_inverseIn_suh.bd : Code := bodyOf Try.f65
def impl_inverseIn_suh.fin {ρ : Type} (N : Nat) (K : AV → Heap → Option ρ) (gv2 : Nat) (gv3 : Nat) (gv4 : Nat → Nat) (gv5 : Nat → Nat) (gv6 : Nat → Int) : XE → St → Option ρ := finK (E17 N) impl_inverseIn_suh.kp.fins Try.f65 [⟨false, .hdr 1 gv2 gv3 gv4 gv5 none⟩, ⟨false, .flat 0 (.ints .i64 gv6)⟩] K
def impl_inverseIn_suh.k0 {ρ : Type} (N : Nat) (K : AV → Heap → Option ρ) (gv2 : Nat) (gv3 : Nat) (gv4 : Nat → Nat) (gv5 : Nat → Nat) (gv6 : Nat → Int) : XE → St → Option ρ := (blockK impl_inverseIn_suh.kp 2 0 (seqK (xcode (E17 N) ents impl_inverseIn_suh.kp 2 N (cB (cB impl_inverseIn_suh.bd)) 0) (impl_inverseIn_suh.fin N K gv2 gv3 gv4 gv5 gv6)))
theorem impl_inverseIn_suh.k0_mix {ρ : Type} (N : Nat) (K : AV → Heap → Option ρ) (gv2 : Nat) (gv3 : Nat) (gv4 : Nat → Nat) (gv5 : Nat → Nat) (gv6 : Nat → Int) : mixK (impl_inverseIn_suh.fin N K gv2 gv3 gv4 gv5 gv6 .ret) (impl_inverseIn_suh.k0 N K gv2 gv3 gv4 gv5 gv6) = (impl_inverseIn_suh.k0 N K gv2 gv3 gv4 gv5 gv6) := by
  funext e s; cases e <;> kernel_rfl
def impl_inverseIn_suh.st0 (table0 : Nat) (i1 : Int) (gv2 : Nat) (gv3 : Nat) (gv4 : Nat → Nat) (gv5 : Nat → Nat) (gv6 : Nat → Int) (x7 : Int) : St := ⟨sl 31 [(0, .slice true 0 0 table0 .unk 1), (1, .int .i64 (i1)), (7, .int .i64 ((table0 : Int))), (8, .int .i64 (x7))], [⟨false, .hdr 1 gv2 gv3 gv4 gv5 none⟩, ⟨false, .flat 0 (.ints .i64 gv6)⟩]⟩
def impl_inverseIn_suh.sx0_0 (gv2 : Nat) (gv3 : Nat) (gv4 : Nat → Nat) (gv5 : Nat → Nat) (gv6 : Nat → Int) : St := ⟨sl 31 [], [⟨false, .hdr 1 gv2 gv3 gv4 gv5 none⟩, ⟨false, .flat 0 (.ints .i64 gv6)⟩]⟩
theorem impl_inverseIn_suh.b0_gen {ρ : Type} (N : Nat) (K : AV → Heap → Option ρ) (L0 : St → Option ρ) (kv : XE → St → Option ρ) (table0 : Nat) (i1 : Int) (gv2 : Nat) (gv3 : Nat) (gv4 : Nat → Nat) (gv5 : Nat → Nat) (gv6 : Nat → Int) (x7 : Int) :
    xcode (E17 N) ents impl_inverseIn_suh.kp 2 N (cL (cK (cB (cA (cB impl_inverseIn_suh.bd))))) 0 (impl_inverseIn_suh.st0 table0 i1 gv2 gv3 gv4 gv5 gv6 x7) (roundK impl_inverseIn_suh.kp 2 0 L0 (mixK (impl_inverseIn_suh.fin N K gv2 gv3 gv4 gv5 gv6 .ret) kv)) = (impl_inverseIn_suh.b0 N (fun d0 => K (.int .i64 (d0)) [⟨false, .hdr 1 gv2 gv3 gv4 gv5 none⟩, ⟨false, .flat 0 (.ints .i64 gv6)⟩]) (fun x7 => L0 (impl_inverseIn_suh.st0 table0 i1 gv2 gv3 gv4 gv5 gv6 x7)) (kv (.exit 0) (impl_inverseIn_suh.sx0_0 gv2 gv3 gv4 gv5 gv6)) table0 i1 gv4 gv5 gv6 x7) := by kernel_rfl
theorem impl_inverseIn_suh.b0_eq {ρ : Type} (N : Nat) (K : AV → Heap → Option ρ) (L0 : St → Option ρ) (table0 : Nat) (i1 : Int) (gv2 : Nat) (gv3 : Nat) (gv4 : Nat → Nat) (gv5 : Nat → Nat) (gv6 : Nat → Int) (x7 : Int) :
    xcode (E17 N) ents impl_inverseIn_suh.kp 2 N (cL (cK (cB (cA (cB impl_inverseIn_suh.bd))))) 0 (impl_inverseIn_suh.st0 table0 i1 gv2 gv3 gv4 gv5 gv6 x7) (roundK impl_inverseIn_suh.kp 2 0 L0 (impl_inverseIn_suh.k0 N K gv2 gv3 gv4 gv5 gv6)) = (impl_inverseIn_suh.b0 N (fun d0 => K (.int .i64 (d0)) [⟨false, .hdr 1 gv2 gv3 gv4 gv5 none⟩, ⟨false, .flat 0 (.ints .i64 gv6)⟩]) (fun x7 => L0 (impl_inverseIn_suh.st0 table0 i1 gv2 gv3 gv4 gv5 gv6 x7)) ((impl_inverseIn_suh.k0 N K gv2 gv3 gv4 gv5 gv6) (.exit 0) (impl_inverseIn_suh.sx0_0 gv2 gv3 gv4 gv5 gv6)) table0 i1 gv4 gv5 gv6 x7) := by
  have h := impl_inverseIn_suh.b0_gen N K L0 (impl_inverseIn_suh.k0 N K gv2 gv3 gv4 gv5 gv6) table0 i1 gv2 gv3 gv4 gv5 gv6 x7
  rw [impl_inverseIn_suh.k0_mix] at h
  exact h
theorem impl_inverseIn_suh.a0_0_eq {ρ : Type} (N : Nat) (K : AV → Heap → Option ρ) (gv2 : Nat) (gv3 : Nat) (gv4 : Nat → Nat) (gv5 : Nat → Nat) (gv6 : Nat → Int) :
    (impl_inverseIn_suh.k0 N K gv2 gv3 gv4 gv5 gv6) (.exit 0) (impl_inverseIn_suh.sx0_0 gv2 gv3 gv4 gv5 gv6) = (impl_inverseIn_suh.a0_0 N (fun d0 => K (.int .i64 (d0)) [⟨false, .hdr 1 gv2 gv3 gv4 gv5 none⟩, ⟨false, .flat 0 (.ints .i64 gv6)⟩])) := by kernel_rfl
theorem impl_inverseIn_suh.l0_eq {ρ : Type} (N : Nat) (K : AV → Heap → Option ρ) (table0 : Nat) (i1 : Int) (gv2 : Nat) (gv3 : Nat) (gv4 : Nat → Nat) (gv5 : Nat → Nat) (gv6 : Nat → Int) :
    ∀ (m : Nat) (x7 : Int), xloop (xcode (E17 N) ents impl_inverseIn_suh.kp 2 N (cL (cK (cB (cA (cB impl_inverseIn_suh.bd))))) 0) impl_inverseIn_suh.kp 2 0 m (impl_inverseIn_suh.st0 table0 i1 gv2 gv3 gv4 gv5 gv6 x7) (impl_inverseIn_suh.k0 N K gv2 gv3 gv4 gv5 gv6) = (impl_inverseIn_suh.l0 N (fun d0 => K (.int .i64 (d0)) [⟨false, .hdr 1 gv2 gv3 gv4 gv5 none⟩, ⟨false, .flat 0 (.ints .i64 gv6)⟩]) table0 i1 gv4 gv5 gv6 ((impl_inverseIn_suh.k0 N K gv2 gv3 gv4 gv5 gv6) (.exit 0) (impl_inverseIn_suh.sx0_0 gv2 gv3 gv4 gv5 gv6)) m x7) := by
  intro m
  induction m with
  | zero => intros; rfl
  | succ m ih =>
    intro x7
    refine (impl_inverseIn_suh.b0_eq N K (fun s => xloop (xcode (E17 N) ents impl_inverseIn_suh.kp 2 N (cL (cK (cB (cA (cB impl_inverseIn_suh.bd))))) 0) impl_inverseIn_suh.kp 2 0 m s (impl_inverseIn_suh.k0 N K gv2 gv3 gv4 gv5 gv6)) table0 i1 gv2 gv3 gv4 gv5 gv6 x7).trans ?_
    simp only [ih]
    kernel_rfl
theorem impl_inverseIn_suh.s_eq {ρ : Type} (N : Nat) (K : AV → Heap → Option ρ) (table0 : Nat) (i1 : Int) (gv2 : Nat) (gv3 : Nat) (gv4 : Nat → Nat) (gv5 : Nat → Nat) (gv6 : Nat → Int) :
    xbody (E17 N) ents impl_inverseIn_suh.kp N Try.f65 impl_inverseIn_suh.bd [.slice true 0 0 table0 .unk 1, .int .i64 (i1)] [⟨false, .hdr 1 gv2 gv3 gv4 gv5 none⟩, ⟨false, .flat 0 (.ints .i64 gv6)⟩] K = (impl_inverseIn_suh.s N (fun d0 => K (.int .i64 (d0)) [⟨false, .hdr 1 gv2 gv3 gv4 gv5 none⟩, ⟨false, .flat 0 (.ints .i64 gv6)⟩]) (fun x7 => xloop (xcode (E17 N) ents impl_inverseIn_suh.kp 2 N (cL (cK (cB (cA (cB impl_inverseIn_suh.bd))))) 0) impl_inverseIn_suh.kp 2 0 N (impl_inverseIn_suh.st0 table0 i1 gv2 gv3 gv4 gv5 gv6 x7) (impl_inverseIn_suh.k0 N K gv2 gv3 gv4 gv5 gv6))) := by kernel_rfl
theorem impl_inverseIn_suh.eq {ρ : Type} (N : Nat) (K : AV → Heap → Option ρ) (table0 : Nat) (i1 : Int) (gv2 : Nat) (gv3 : Nat) (gv4 : Nat → Nat) (gv5 : Nat → Nat) (gv6 : Nat → Int) :
    xbody (E17 N) ents impl_inverseIn_suh.kp N Try.f65 impl_inverseIn_suh.bd [.slice true 0 0 table0 .unk 1, .int .i64 (i1)] [⟨false, .hdr 1 gv2 gv3 gv4 gv5 none⟩, ⟨false, .flat 0 (.ints .i64 gv6)⟩] K = (impl_inverseIn_suh N (fun d0 => K (.int .i64 (d0)) [⟨false, .hdr 1 gv2 gv3 gv4 gv5 none⟩, ⟨false, .flat 0 (.ints .i64 gv6)⟩]) table0 i1 gv2 gv3 gv4 gv5 gv6) := by
  refine (impl_inverseIn_suh.s_eq N K table0 i1 gv2 gv3 gv4 gv5 gv6).trans ?_
  simp only [impl_inverseIn_suh.l0_eq, impl_inverseIn_suh.a0_0_eq]
  kernel_rfl
def impl_inverseIn_suh_v2.kp : Keeps := ⟨[(0, [0, 1, 7, 8], [], [])], [(0, [], [], [])], []⟩
def impl_inverseIn_suh_v2.bd : Code := bodyOf Try.f65
def impl_inverseIn_suh_v2.fin {ρ : Type} (N : Nat) (K : AV → Heap → Option ρ) (gv2 : Nat) (gv3 : Nat) (gv4 : Nat → Nat) (gv5 : Nat → Nat) (gv6 : Nat → Int) : XE → St → Option ρ := finK (E17 N) impl_inverseIn_suh_v2.kp.fins Try.f65 [⟨false, .hdr 1 gv2 gv3 gv4 gv5 none⟩, ⟨false, .flat 0 (.ints .i64 gv6)⟩] K
def impl_inverseIn_suh_v2.k0 {ρ : Type} (N : Nat) (K : AV → Heap → Option ρ) (gv2 : Nat) (gv3 : Nat) (gv4 : Nat → Nat) (gv5 : Nat → Nat) (gv6 : Nat → Int) : XE → St → Option ρ := (blockK impl_inverseIn_suh_v2.kp 2 0 (seqK (xcode (E17 N) ents impl_inverseIn_suh_v2.kp 2 N (cB (cB impl_inverseIn_suh_v2.bd)) 0) (impl_inverseIn_suh_v2.fin N K gv2 gv3 gv4 gv5 gv6)))
theorem impl_inverseIn_suh_v2.k0_mix {ρ : Type} (N : Nat) (K : AV → Heap → Option ρ) (gv2 : Nat) (gv3 : Nat) (gv4 : Nat → Nat) (gv5 : Nat → Nat) (gv6 : Nat → Int) : mixK (impl_inverseIn_suh_v2.fin N K gv2 gv3 gv4 gv5 gv6 .ret) (impl_inverseIn_suh_v2.k0 N K gv2 gv3 gv4 gv5 gv6) = (impl_inverseIn_suh_v2.k0 N K gv2 gv3 gv4 gv5 gv6) := by
  funext e s; cases e <;> kernel_rfl
def impl_inverseIn_suh_v2.st0 (table0 : Nat) (i1 : Int) (gv2 : Nat) (gv3 : Nat) (gv4 : Nat → Nat) (gv5 : Nat → Nat) (gv6 : Nat → Int) (x7 : Int) : St := ⟨sl 31 [(0, .slice false 0 0 table0 .unk 1), (1, .int .i64 (i1)), (7, .int .i64 ((table0 : Int))), (8, .int .i64 (x7))], [⟨false, .hdr 1 gv2 gv3 gv4 gv5 none⟩, ⟨false, .flat 0 (.ints .i64 gv6)⟩]⟩
def impl_inverseIn_suh_v2.sx0_0 (gv2 : Nat) (gv3 : Nat) (gv4 : Nat → Nat) (gv5 : Nat → Nat) (gv6 : Nat → Int) : St := ⟨sl 31 [], [⟨false, .hdr 1 gv2 gv3 gv4 gv5 none⟩, ⟨false, .flat 0 (.ints .i64 gv6)⟩]⟩
theorem impl_inverseIn_suh_v2.b0_gen {ρ : Type} (N : Nat) (K : AV → Heap → Option ρ) (L0 : St → Option ρ) (kv : XE → St → Option ρ) (table0 : Nat) (i1 : Int) (gv2 : Nat) (gv3 : Nat) (gv4 : Nat → Nat) (gv5 : Nat → Nat) (gv6 : Nat → Int) (x7 : Int) :
    xcode (E17 N) ents impl_inverseIn_suh_v2.kp 2 N (cL (cK (cB (cA (cB impl_inverseIn_suh_v2.bd))))) 0 (impl_inverseIn_suh_v2.st0 table0 i1 gv2 gv3 gv4 gv5 gv6 x7) (roundK impl_inverseIn_suh_v2.kp 2 0 L0 (mixK (impl_inverseIn_suh_v2.fin N K gv2 gv3 gv4 gv5 gv6 .ret) kv)) = (impl_inverseIn_suh_v2.b0 N (fun d0 => K (.int .i64 (d0)) [⟨false, .hdr 1 gv2 gv3 gv4 gv5 none⟩, ⟨false, .flat 0 (.ints .i64 gv6)⟩]) (fun x7 => L0 (impl_inverseIn_suh_v2.st0 table0 i1 gv2 gv3 gv4 gv5 gv6 x7)) (kv (.exit 0) (impl_inverseIn_suh_v2.sx0_0 gv2 gv3 gv4 gv5 gv6)) table0 i1 gv4 gv5 gv6 x7) := by kernel_rfl
theorem impl_inverseIn_suh_v2.b0_eq {ρ : Type} (N : Nat) (K : AV → Heap → Option ρ) (L0 : St → Option ρ) (table0 : Nat) (i1 : Int) (gv2 : Nat) (gv3 : Nat) (gv4 : Nat → Nat) (gv5 : Nat → Nat) (gv6 : Nat → Int) (x7 : Int) :
    xcode (E17 N) ents impl_inverseIn_suh_v2.kp 2 N (cL (cK (cB (cA (cB impl_inverseIn_suh_v2.bd))))) 0 (impl_inverseIn_suh_v2.st0 table0 i1 gv2 gv3 gv4 gv5 gv6 x7) (roundK impl_inverseIn_suh_v2.kp 2 0 L0 (impl_inverseIn_suh_v2.k0 N K gv2 gv3 gv4 gv5 gv6)) = (impl_inverseIn_suh_v2.b0 N (fun d0 => K (.int .i64 (d0)) [⟨false, .hdr 1 gv2 gv3 gv4 gv5 none⟩, ⟨false, .flat 0 (.ints .i64 gv6)⟩]) (fun x7 => L0 (impl_inverseIn_suh_v2.st0 table0 i1 gv2 gv3 gv4 gv5 gv6 x7)) ((impl_inverseIn_suh_v2.k0 N K gv2 gv3 gv4 gv5 gv6) (.exit 0) (impl_inverseIn_suh_v2.sx0_0 gv2 gv3 gv4 gv5 gv6)) table0 i1 gv4 gv5 gv6 x7) := by
  have h := impl_inverseIn_suh_v2.b0_gen N K L0 (impl_inverseIn_suh_v2.k0 N K gv2 gv3 gv4 gv5 gv6) table0 i1 gv2 gv3 gv4 gv5 gv6 x7
  rw [impl_inverseIn_suh_v2.k0_mix] at h
  exact h
theorem impl_inverseIn_suh_v2.a0_0_eq {ρ : Type} (N : Nat) (K : AV → Heap → Option ρ) (gv2 : Nat) (gv3 : Nat) (gv4 : Nat → Nat) (gv5 : Nat → Nat) (gv6 : Nat → Int) :
    (impl_inverseIn_suh_v2.k0 N K gv2 gv3 gv4 gv5 gv6) (.exit 0) (impl_inverseIn_suh_v2.sx0_0 gv2 gv3 gv4 gv5 gv6) = (impl_inverseIn_suh_v2.a0_0 N (fun d0 => K (.int .i64 (d0)) [⟨false, .hdr 1 gv2 gv3 gv4 gv5 none⟩, ⟨false, .flat 0 (.ints .i64 gv6)⟩])) := by kernel_rfl
theorem impl_inverseIn_suh_v2.l0_eq {ρ : Type} (N : Nat) (K : AV → Heap → Option ρ) (table0 : Nat) (i1 : Int) (gv2 : Nat) (gv3 : Nat) (gv4 : Nat → Nat) (gv5 : Nat → Nat) (gv6 : Nat → Int) :
    ∀ (m : Nat) (x7 : Int), xloop (xcode (E17 N) ents impl_inverseIn_suh_v2.kp 2 N (cL (cK (cB (cA (cB impl_inverseIn_suh_v2.bd))))) 0) impl_inverseIn_suh_v2.kp 2 0 m (impl_inverseIn_suh_v2.st0 table0 i1 gv2 gv3 gv4 gv5 gv6 x7) (impl_inverseIn_suh_v2.k0 N K gv2 gv3 gv4 gv5 gv6) = (impl_inverseIn_suh_v2.l0 N (fun d0 => K (.int .i64 (d0)) [⟨false, .hdr 1 gv2 gv3 gv4 gv5 none⟩, ⟨false, .flat 0 (.ints .i64 gv6)⟩]) table0 i1 gv4 gv5 gv6 ((impl_inverseIn_suh_v2.k0 N K gv2 gv3 gv4 gv5 gv6) (.exit 0) (impl_inverseIn_suh_v2.sx0_0 gv2 gv3 gv4 gv5 gv6)) m x7) := by
  intro m
  induction m with
  | zero => intros; rfl
  | succ m ih =>
    intro x7
    refine (impl_inverseIn_suh_v2.b0_eq N K (fun s => xloop (xcode (E17 N) ents impl_inverseIn_suh_v2.kp 2 N (cL (cK (cB (cA (cB impl_inverseIn_suh_v2.bd))))) 0) impl_inverseIn_suh_v2.kp 2 0 m s (impl_inverseIn_suh_v2.k0 N K gv2 gv3 gv4 gv5 gv6)) table0 i1 gv2 gv3 gv4 gv5 gv6 x7).trans ?_
    simp only [ih]
    kernel_rfl
theorem impl_inverseIn_suh_v2.s_eq {ρ : Type} (N : Nat) (K : AV → Heap → Option ρ) (table0 : Nat) (i1 : Int) (gv2 : Nat) (gv3 : Nat) (gv4 : Nat → Nat) (gv5 : Nat → Nat) (gv6 : Nat → Int) :
    xbody (E17 N) ents impl_inverseIn_suh_v2.kp N Try.f65 impl_inverseIn_suh_v2.bd [.slice false 0 0 table0 .unk 1, .int .i64 (i1)] [⟨false, .hdr 1 gv2 gv3 gv4 gv5 none⟩, ⟨false, .flat 0 (.ints .i64 gv6)⟩] K = (impl_inverseIn_suh_v2.s N (fun d0 => K (.int .i64 (d0)) [⟨false, .hdr 1 gv2 gv3 gv4 gv5 none⟩, ⟨false, .flat 0 (.ints .i64 gv6)⟩]) (fun x7 => xloop (xcode (E17 N) ents impl_inverseIn_suh_v2.kp 2 N (cL (cK (cB (cA (cB impl_inverseIn_suh_v2.bd))))) 0) impl_inverseIn_suh_v2.kp 2 0 N (impl_inverseIn_suh_v2.st0 table0 i1 gv2 gv3 gv4 gv5 gv6 x7) (impl_inverseIn_suh_v2.k0 N K gv2 gv3 gv4 gv5 gv6))) := by kernel_rfl
theorem impl_inverseIn_suh_v2.eq {ρ : Type} (N : Nat) (K : AV → Heap → Option ρ) (table0 : Nat) (i1 : Int) (gv2 : Nat) (gv3 : Nat) (gv4 : Nat → Nat) (gv5 : Nat → Nat) (gv6 : Nat → Int) :
    xbody (E17 N) ents impl_inverseIn_suh_v2.kp N Try.f65 impl_inverseIn_suh_v2.bd [.slice false 0 0 table0 .unk 1, .int .i64 (i1)] [⟨false, .hdr 1 gv2 gv3 gv4 gv5 none⟩, ⟨false, .flat 0 (.ints .i64 gv6)⟩] K = (impl_inverseIn_suh_v2 N (fun d0 => K (.int .i64 (d0)) [⟨false, .hdr 1 gv2 gv3 gv4 gv5 none⟩, ⟨false, .flat 0 (.ints .i64 gv6)⟩]) table0 i1 gv2 gv3 gv4 gv5 gv6) := by
  refine (impl_inverseIn_suh_v2.s_eq N K table0 i1 gv2 gv3 gv4 gv5 gv6).trans ?_
  simp only [impl_inverseIn_suh_v2.l0_eq, impl_inverseIn_suh_v2.a0_0_eq]
  kernel_rfl
def impl_inverseIn_suh.en (N : Nat) (ρ : Type) : List AV → Heap → (AV → Heap → Option ρ) → Option ρ
  | [.slice true 0 0 table0 .unk 1, .int .i64 (i1)], [⟨false, .hdr 1 gv2 gv3 gv4 gv5 none⟩, ⟨false, .flat 0 (.ints .i64 gv6)⟩], K => (impl_inverseIn_suh N (fun d0 => K (.int .i64 (d0)) [⟨false, .hdr 1 gv2 gv3 gv4 gv5 none⟩, ⟨false, .flat 0 (.ints .i64 gv6)⟩]) table0 i1 gv2 gv3 gv4 gv5 gv6)
  | [.slice false 0 0 table0 .unk 1, .int .i64 (i1)], [⟨false, .hdr 1 gv2 gv3 gv4 gv5 none⟩, ⟨false, .flat 0 (.ints .i64 gv6)⟩], K => (impl_inverseIn_suh_v2 N (fun d0 => K (.int .i64 (d0)) [⟨false, .hdr 1 gv2 gv3 gv4 gv5 none⟩, ⟨false, .flat 0 (.ints .i64 gv6)⟩]) table0 i1 gv2 gv3 gv4 gv5 gv6)
  | _, _, _ => none
theorem impl_inverseIn_suh.en_ok (N : Nat) (hE : EnvOk (E17 N) ents) (ρ : Type) (args : List AV) (sh : Heap) (K : AV → Heap → Option ρ) (r : ρ) (h : impl_inverseIn_suh.en N ρ args sh K = some r) : ∃ v sh', K v sh' = some r ∧ FnOk (E17 N).P 65 args sh v sh' := by
  unfold impl_inverseIn_suh.en at h
  split at h
  · exact fn_ok hE (kp := impl_inverseIn_suh.kp) (N := N) Try.func65 (c := impl_inverseIn_suh.bd) (by kernel_rfl) ((impl_inverseIn_suh.eq N _ _ _ _ _ _ _ _).trans h)
  · exact fn_ok hE (kp := impl_inverseIn_suh_v2.kp) (N := N) Try.func65 (c := impl_inverseIn_suh_v2.bd) (by kernel_rfl) ((impl_inverseIn_suh_v2.eq N _ _ _ _ _ _ _ _).trans h)
  · cases h
def E18 (N : Nat) : Env := (E17 N).add 65 (impl_inverseIn_suh.en N)
theorem E18_ok (N : Nat) : EnvOk (E18 N) ents := Env.add_ok (E17_ok N) (impl_inverseIn_suh.en_ok N (E17_ok N))
def impl_isGroupAt_suh.kp : Keeps := ⟨[(0, [0, 1, 26, 27], [], []), (2, [0, 1, 5, 26, 27, 31, 32], [], [])], [(0, [0, 1], [], []), (2, [0, 1, 26, 27], [], [])], []⟩
def impl_isGroupAt_suh.bd : Code := bodyOf Try.f44
def impl_isGroupAt_suh.fin {ρ : Type} (N : Nat) (K : AV → Heap → Option ρ) (gv2 : Nat) (gv3 : Nat) (gv4 : Nat → Nat) (gv5 : Nat → Nat) (gv6 : Nat → Int) : XE → St → Option ρ := finK (E18 N) impl_isGroupAt_suh.kp.fins Try.f44 [⟨false, .hdr 1 gv2 gv3 gv4 gv5 none⟩, ⟨false, .flat 0 (.ints .i64 gv6)⟩] K
def impl_isGroupAt_suh.k0 {ρ : Type} (N : Nat) (K : AV → Heap → Option ρ) (gv2 : Nat) (gv3 : Nat) (gv4 : Nat → Nat) (gv5 : Nat → Nat) (gv6 : Nat → Int) : XE → St → Option ρ := (blockK impl_isGroupAt_suh.kp 2 0 (seqK (xcode (E18 N) ents impl_isGroupAt_suh.kp 2 N (cB (cB (cB impl_isGroupAt_suh.bd))) 0) (impl_isGroupAt_suh.fin N K gv2 gv3 gv4 gv5 gv6)))
theorem impl_isGroupAt_suh.k0_mix {ρ : Type} (N : Nat) (K : AV → Heap → Option ρ) (gv2 : Nat) (gv3 : Nat) (gv4 : Nat → Nat) (gv5 : Nat → Nat) (gv6 : Nat → Int) : mixK (impl_isGroupAt_suh.fin N K gv2 gv3 gv4 gv5 gv6 .ret) (impl_isGroupAt_suh.k0 N K gv2 gv3 gv4 gv5 gv6) = (impl_isGroupAt_suh.k0 N K gv2 gv3 gv4 gv5 gv6) := by
  funext e s; cases e <;> kernel_rfl
def impl_isGroupAt_suh.st0 (table0 : Nat) (i1 : Int) (gv2 : Nat) (gv3 : Nat) (gv4 : Nat → Nat) (gv5 : Nat → Nat) (gv6 : Nat → Int) (x7 : Int) : St := ⟨sl 68 [(0, .slice true 0 0 table0 .unk 1), (1, .int .i64 (i1)), (26, .int .i64 ((table0 : Int))), (27, .int .i64 (x7))], [⟨false, .hdr 1 gv2 gv3 gv4 gv5 none⟩, ⟨false, .flat 0 (.ints .i64 gv6)⟩]⟩
def impl_isGroupAt_suh.sx0_0 (table0 : Nat) (i1 : Int) (gv2 : Nat) (gv3 : Nat) (gv4 : Nat → Nat) (gv5 : Nat → Nat) (gv6 : Nat → Int) : St := ⟨sl 68 [(0, .slice true 0 0 table0 .unk 1), (1, .int .i64 (i1))], [⟨false, .hdr 1 gv2 gv3 gv4 gv5 none⟩, ⟨false, .flat 0 (.ints .i64 gv6)⟩]⟩
def impl_isGroupAt_suh.k1g {ρ : Type} (N : Nat) (L0 : St → Option ρ) (kv : XE → St → Option ρ) : XE → St → Option ρ := (blockK impl_isGroupAt_suh.kp 2 2 (blockK impl_isGroupAt_suh.kp 2 1 (seqK (xcode (E18 N) ents impl_isGroupAt_suh.kp 2 N (cB (cB (cB (cL (cK (cB (cA (cB (cB impl_isGroupAt_suh.bd))))))))) 0) (roundK impl_isGroupAt_suh.kp 2 0 L0 kv))))
theorem impl_isGroupAt_suh.k1_mix {ρ : Type} (N : Nat) (K : AV → Heap → Option ρ) (L0 : St → Option ρ) (gv2 : Nat) (gv3 : Nat) (gv4 : Nat → Nat) (gv5 : Nat → Nat) (gv6 : Nat → Int) : mixK (impl_isGroupAt_suh.fin N K gv2 gv3 gv4 gv5 gv6 .ret) (impl_isGroupAt_suh.k1g N L0 (impl_isGroupAt_suh.k0 N K gv2 gv3 gv4 gv5 gv6)) = (impl_isGroupAt_suh.k1g N L0 (impl_isGroupAt_suh.k0 N K gv2 gv3 gv4 gv5 gv6)) := by
  funext e s; cases e <;> kernel_rfl
def impl_isGroupAt_suh.st1 (table0 : Nat) (i1 : Int) (gv2 : Nat) (gv3 : Nat) (gv4 : Nat → Nat) (gv5 : Nat → Nat) (gv6 : Nat → Int) (x7 : Int) (x8 : Int) : St := ⟨sl 68 [(0, .slice true 0 0 table0 .unk 1), (1, .int .i64 (i1)), (5, .int .i64 (x7)), (26, .int .i64 ((table0 : Int))), (27, .int .i64 (x7)), (31, .int .i64 ((table0 : Int))), (32, .int .i64 (x8))], [⟨false, .hdr 1 gv2 gv3 gv4 gv5 none⟩, ⟨false, .flat 0 (.ints .i64 gv6)⟩]⟩
def impl_isGroupAt_suh.sx1_0 (table0 : Nat) (i1 : Int) (gv2 : Nat) (gv3 : Nat) (gv4 : Nat → Nat) (gv5 : Nat → Nat) (gv6 : Nat → Int) (x7 : Int) : St := ⟨sl 68 [(0, .slice true 0 0 table0 .unk 1), (1, .int .i64 (i1)), (26, .int .i64 ((table0 : Int))), (27, .int .i64 (x7))], [⟨false, .hdr 1 gv2 gv3 gv4 gv5 none⟩, ⟨false, .flat 0 (.ints .i64 gv6)⟩]⟩
theorem impl_isGroupAt_suh.b1_gen {ρ : Type} (N : Nat) (K : AV → Heap → Option ρ) (L1 : St → Option ρ) (kv : XE → St → Option ρ) (table0 : Nat) (i1 : Int) (gv2 : Nat) (gv3 : Nat) (gv4 : Nat → Nat) (gv5 : Nat → Nat) (gv6 : Nat → Int) (x7 : Int) (x8 : Int) :
    xcode (E18 N) ents impl_isGroupAt_suh.kp 2 N (cL (cK (cB (cB (cK (cA (cB (cB (cL (cK (cB (cA (cB (cB impl_isGroupAt_suh.bd)))))))))))))) 2 (impl_isGroupAt_suh.st1 table0 i1 gv2 gv3 gv4 gv5 gv6 x7 x8) (roundK impl_isGroupAt_suh.kp 2 2 L1 (mixK (impl_isGroupAt_suh.fin N K gv2 gv3 gv4 gv5 gv6 .ret) kv)) = (impl_isGroupAt_suh.b1 N (fun d0 => K (.bool (d0)) [⟨false, .hdr 1 gv2 gv3 gv4 gv5 none⟩, ⟨false, .flat 0 (.ints .i64 gv6)⟩]) (fun x8 => L1 (impl_isGroupAt_suh.st1 table0 i1 gv2 gv3 gv4 gv5 gv6 x7 x8)) (kv (.exit 2) (impl_isGroupAt_suh.sx1_0 table0 i1 gv2 gv3 gv4 gv5 gv6 x7)) table0 i1 gv4 gv5 gv6 x7 x8) := by kernel_rfl
theorem impl_isGroupAt_suh.b1_eq {ρ : Type} (N : Nat) (K : AV → Heap → Option ρ) (L0 : St → Option ρ) (L1 : St → Option ρ) (table0 : Nat) (i1 : Int) (gv2 : Nat) (gv3 : Nat) (gv4 : Nat → Nat) (gv5 : Nat → Nat) (gv6 : Nat → Int) (x7 : Int) (x8 : Int) :
    xcode (E18 N) ents impl_isGroupAt_suh.kp 2 N (cL (cK (cB (cB (cK (cA (cB (cB (cL (cK (cB (cA (cB (cB impl_isGroupAt_suh.bd)))))))))))))) 2 (impl_isGroupAt_suh.st1 table0 i1 gv2 gv3 gv4 gv5 gv6 x7 x8) (roundK impl_isGroupAt_suh.kp 2 2 L1 (impl_isGroupAt_suh.k1g N L0 (impl_isGroupAt_suh.k0 N K gv2 gv3 gv4 gv5 gv6))) = (impl_isGroupAt_suh.b1 N (fun d0 => K (.bool (d0)) [⟨false, .hdr 1 gv2 gv3 gv4 gv5 none⟩, ⟨false, .flat 0 (.ints .i64 gv6)⟩]) (fun x8 => L1 (impl_isGroupAt_suh.st1 table0 i1 gv2 gv3 gv4 gv5 gv6 x7 x8)) ((impl_isGroupAt_suh.k1g N L0 (impl_isGroupAt_suh.k0 N K gv2 gv3 gv4 gv5 gv6)) (.exit 2) (impl_isGroupAt_suh.sx1_0 table0 i1 gv2 gv3 gv4 gv5 gv6 x7)) table0 i1 gv4 gv5 gv6 x7 x8) := by
  have h := impl_isGroupAt_suh.b1_gen N K L1 (impl_isGroupAt_suh.k1g N L0 (impl_isGroupAt_suh.k0 N K gv2 gv3 gv4 gv5 gv6)) table0 i1 gv2 gv3 gv4 gv5 gv6 x7 x8
  rw [impl_isGroupAt_suh.k1_mix] at h
  exact h
theorem impl_isGroupAt_suh.a1_0_gen {ρ : Type} (N : Nat) (K : AV → Heap → Option ρ) (L0 : St → Option ρ) (kv : XE → St → Option ρ) (table0 : Nat) (i1 : Int) (gv2 : Nat) (gv3 : Nat) (gv4 : Nat → Nat) (gv5 : Nat → Nat) (gv6 : Nat → Int) (x7 : Int) :
    (impl_isGroupAt_suh.k1g N L0 (mixK (impl_isGroupAt_suh.fin N K gv2 gv3 gv4 gv5 gv6 .ret) kv)) (.exit 2) (impl_isGroupAt_suh.sx1_0 table0 i1 gv2 gv3 gv4 gv5 gv6 x7) = (impl_isGroupAt_suh.a1_0 N (fun d0 => K (.bool (d0)) [⟨false, .hdr 1 gv2 gv3 gv4 gv5 none⟩, ⟨false, .flat 0 (.ints .i64 gv6)⟩]) (fun x7 => L0 (impl_isGroupAt_suh.st0 table0 i1 gv2 gv3 gv4 gv5 gv6 x7)) (kv (.exit 0) (impl_isGroupAt_suh.sx0_0 table0 i1 gv2 gv3 gv4 gv5 gv6)) x7) := by kernel_rfl
theorem impl_isGroupAt_suh.a1_0_eq {ρ : Type} (N : Nat) (K : AV → Heap → Option ρ) (L0 : St → Option ρ) (table0 : Nat) (i1 : Int) (gv2 : Nat) (gv3 : Nat) (gv4 : Nat → Nat) (gv5 : Nat → Nat) (gv6 : Nat → Int) (x7 : Int) :
    (impl_isGroupAt_suh.k1g N L0 (impl_isGroupAt_suh.k0 N K gv2 gv3 gv4 gv5 gv6)) (.exit 2) (impl_isGroupAt_suh.sx1_0 table0 i1 gv2 gv3 gv4 gv5 gv6 x7) = (impl_isGroupAt_suh.a1_0 N (fun d0 => K (.bool (d0)) [⟨false, .hdr 1 gv2 gv3 gv4 gv5 none⟩, ⟨false, .flat 0 (.ints .i64 gv6)⟩]) (fun x7 => L0 (impl_isGroupAt_suh.st0 table0 i1 gv2 gv3 gv4 gv5 gv6 x7)) ((impl_isGroupAt_suh.k0 N K gv2 gv3 gv4 gv5 gv6) (.exit 0) (impl_isGroupAt_suh.sx0_0 table0 i1 gv2 gv3 gv4 gv5 gv6)) x7) := by
  have h := impl_isGroupAt_suh.a1_0_gen N K L0 (impl_isGroupAt_suh.k0 N K gv2 gv3 gv4 gv5 gv6) table0 i1 gv2 gv3 gv4 gv5 gv6 x7
  rw [impl_isGroupAt_suh.k0_mix] at h
  exact h
theorem impl_isGroupAt_suh.b0_gen {ρ : Type} (N : Nat) (K : AV → Heap → Option ρ) (L0 : St → Option ρ) (kv : XE → St → Option ρ) (table0 : Nat) (i1 : Int) (gv2 : Nat) (gv3 : Nat) (gv4 : Nat → Nat) (gv5 : Nat → Nat) (gv6 : Nat → Int) (x7 : Int) :
    xcode (E18 N) ents impl_isGroupAt_suh.kp 2 N (cL (cK (cB (cA (cB (cB impl_isGroupAt_suh.bd)))))) 0 (impl_isGroupAt_suh.st0 table0 i1 gv2 gv3 gv4 gv5 gv6 x7) (roundK impl_isGroupAt_suh.kp 2 0 L0 (mixK (impl_isGroupAt_suh.fin N K gv2 gv3 gv4 gv5 gv6 .ret) kv)) = (impl_isGroupAt_suh.b0 N (fun d0 => K (.bool (d0)) [⟨false, .hdr 1 gv2 gv3 gv4 gv5 none⟩, ⟨false, .flat 0 (.ints .i64 gv6)⟩]) (fun x8 => xloop (xcode (E18 N) ents impl_isGroupAt_suh.kp 2 N (cL (cK (cB (cB (cK (cA (cB (cB (cL (cK (cB (cA (cB (cB impl_isGroupAt_suh.bd)))))))))))))) 2) impl_isGroupAt_suh.kp 2 2 N (impl_isGroupAt_suh.st1 table0 i1 gv2 gv3 gv4 gv5 gv6 x7 x8) (impl_isGroupAt_suh.k1g N L0 (mixK (impl_isGroupAt_suh.fin N K gv2 gv3 gv4 gv5 gv6 .ret) kv))) (fun x7 => L0 (impl_isGroupAt_suh.st0 table0 i1 gv2 gv3 gv4 gv5 gv6 x7)) (kv (.exit 0) (impl_isGroupAt_suh.sx0_0 table0 i1 gv2 gv3 gv4 gv5 gv6)) table0 x7) := by kernel_rfl
theorem impl_isGroupAt_suh.b0_eq {ρ : Type} (N : Nat) (K : AV → Heap → Option ρ) (L0 : St → Option ρ) (table0 : Nat) (i1 : Int) (gv2 : Nat) (gv3 : Nat) (gv4 : Nat → Nat) (gv5 : Nat → Nat) (gv6 : Nat → Int) (x7 : Int) :
    xcode (E18 N) ents impl_isGroupAt_suh.kp 2 N (cL (cK (cB (cA (cB (cB impl_isGroupAt_suh.bd)))))) 0 (impl_isGroupAt_suh.st0 table0 i1 gv2 gv3 gv4 gv5 gv6 x7) (roundK impl_isGroupAt_suh.kp 2 0 L0 (impl_isGroupAt_suh.k0 N K gv2 gv3 gv4 gv5 gv6)) = (impl_isGroupAt_suh.b0 N (fun d0 => K (.bool (d0)) [⟨false, .hdr 1 gv2 gv3 gv4 gv5 none⟩, ⟨false, .flat 0 (.ints .i64 gv6)⟩]) (fun x8 => xloop (xcode (E18 N) ents impl_isGroupAt_suh.kp 2 N (cL (cK (cB (cB (cK (cA (cB (cB (cL (cK (cB (cA (cB (cB impl_isGroupAt_suh.bd)))))))))))))) 2) impl_isGroupAt_suh.kp 2 2 N (impl_isGroupAt_suh.st1 table0 i1 gv2 gv3 gv4 gv5 gv6 x7 x8) (impl_isGroupAt_suh.k1g N L0 (impl_isGroupAt_suh.k0 N K gv2 gv3 gv4 gv5 gv6))) (fun x7 => L0 (impl_isGroupAt_suh.st0 table0 i1 gv2 gv3 gv4 gv5 gv6 x7)) ((impl_isGroupAt_suh.k0 N K gv2 gv3 gv4 gv5 gv6) (.exit 0) (impl_isGroupAt_suh.sx0_0 table0 i1 gv2 gv3 gv4 gv5 gv6)) table0 x7) := by
  have h := impl_isGroupAt_suh.b0_gen N K L0 (impl_isGroupAt_suh.k0 N K gv2 gv3 gv4 gv5 gv6) table0 i1 gv2 gv3 gv4 gv5 gv6 x7
  rw [impl_isGroupAt_suh.k0_mix] at h
  exact h
theorem impl_isGroupAt_suh.a0_0_eq {ρ : Type} (N : Nat) (K : AV → Heap → Option ρ) (table0 : Nat) (i1 : Int) (gv2 : Nat) (gv3 : Nat) (gv4 : Nat → Nat) (gv5 : Nat → Nat) (gv6 : Nat → Int) :
    (impl_isGroupAt_suh.k0 N K gv2 gv3 gv4 gv5 gv6) (.exit 0) (impl_isGroupAt_suh.sx0_0 table0 i1 gv2 gv3 gv4 gv5 gv6) = (impl_isGroupAt_suh.a0_0 N (fun d0 => K (.bool (d0)) [⟨false, .hdr 1 gv2 gv3 gv4 gv5 none⟩, ⟨false, .flat 0 (.ints .i64 gv6)⟩]) table0 i1 gv3 gv4 gv5 gv6) := by kernel_rfl
theorem impl_isGroupAt_suh.l1_eq {ρ : Type} (N : Nat) (K : AV → Heap → Option ρ) (L0 : St → Option ρ) (table0 : Nat) (i1 : Int) (gv2 : Nat) (gv3 : Nat) (gv4 : Nat → Nat) (gv5 : Nat → Nat) (gv6 : Nat → Int) (x7 : Int) :
    ∀ (m : Nat) (x8 : Int), xloop (xcode (E18 N) ents impl_isGroupAt_suh.kp 2 N (cL (cK (cB (cB (cK (cA (cB (cB (cL (cK (cB (cA (cB (cB impl_isGroupAt_suh.bd)))))))))))))) 2) impl_isGroupAt_suh.kp 2 2 m (impl_isGroupAt_suh.st1 table0 i1 gv2 gv3 gv4 gv5 gv6 x7 x8) (impl_isGroupAt_suh.k1g N L0 (impl_isGroupAt_suh.k0 N K gv2 gv3 gv4 gv5 gv6)) = (impl_isGroupAt_suh.l1 N (fun d0 => K (.bool (d0)) [⟨false, .hdr 1 gv2 gv3 gv4 gv5 none⟩, ⟨false, .flat 0 (.ints .i64 gv6)⟩]) table0 i1 gv4 gv5 gv6 x7 ((impl_isGroupAt_suh.k1g N L0 (impl_isGroupAt_suh.k0 N K gv2 gv3 gv4 gv5 gv6)) (.exit 2) (impl_isGroupAt_suh.sx1_0 table0 i1 gv2 gv3 gv4 gv5 gv6 x7)) m x8) := by
  intro m
  induction m with
  | zero => intros; rfl
  | succ m ih =>
    intro x8
    refine (impl_isGroupAt_suh.b1_eq N K L0 (fun s => xloop (xcode (E18 N) ents impl_isGroupAt_suh.kp 2 N (cL (cK (cB (cB (cK (cA (cB (cB (cL (cK (cB (cA (cB (cB impl_isGroupAt_suh.bd)))))))))))))) 2) impl_isGroupAt_suh.kp 2 2 m s (impl_isGroupAt_suh.k1g N L0 (impl_isGroupAt_suh.k0 N K gv2 gv3 gv4 gv5 gv6))) table0 i1 gv2 gv3 gv4 gv5 gv6 x7 x8).trans ?_
    simp only [ih]
    kernel_rfl
theorem impl_isGroupAt_suh.l0_eq {ρ : Type} (N : Nat) (K : AV → Heap → Option ρ) (table0 : Nat) (i1 : Int) (gv2 : Nat) (gv3 : Nat) (gv4 : Nat → Nat) (gv5 : Nat → Nat) (gv6 : Nat → Int) :
    ∀ (m : Nat) (x7 : Int), xloop (xcode (E18 N) ents impl_isGroupAt_suh.kp 2 N (cL (cK (cB (cA (cB (cB impl_isGroupAt_suh.bd)))))) 0) impl_isGroupAt_suh.kp 2 0 m (impl_isGroupAt_suh.st0 table0 i1 gv2 gv3 gv4 gv5 gv6 x7) (impl_isGroupAt_suh.k0 N K gv2 gv3 gv4 gv5 gv6) = (impl_isGroupAt_suh.l0 N (fun d0 => K (.bool (d0)) [⟨false, .hdr 1 gv2 gv3 gv4 gv5 none⟩, ⟨false, .flat 0 (.ints .i64 gv6)⟩]) table0 i1 gv4 gv5 gv6 ((impl_isGroupAt_suh.k0 N K gv2 gv3 gv4 gv5 gv6) (.exit 0) (impl_isGroupAt_suh.sx0_0 table0 i1 gv2 gv3 gv4 gv5 gv6)) m x7) := by
  intro m
  induction m with
  | zero => intros; rfl
  | succ m ih =>
    intro x7
    refine (impl_isGroupAt_suh.b0_eq N K (fun s => xloop (xcode (E18 N) ents impl_isGroupAt_suh.kp 2 N (cL (cK (cB (cA (cB (cB impl_isGroupAt_suh.bd)))))) 0) impl_isGroupAt_suh.kp 2 0 m s (impl_isGroupAt_suh.k0 N K gv2 gv3 gv4 gv5 gv6)) table0 i1 gv2 gv3 gv4 gv5 gv6 x7).trans ?_
    simp only [ih, impl_isGroupAt_suh.l1_eq, impl_isGroupAt_suh.a1_0_eq]
    kernel_rfl
theorem impl_isGroupAt_suh.s_eq {ρ : Type} (N : Nat) (K : AV → Heap → Option ρ) (table0 : Nat) (i1 : Int) (gv2 : Nat) (gv3 : Nat) (gv4 : Nat → Nat) (gv5 : Nat → Nat) (gv6 : Nat → Int) :
    xbody (E18 N) ents impl_isGroupAt_suh.kp N Try.f44 impl_isGroupAt_suh.bd [.slice true 0 0 table0 .unk 1, .int .i64 (i1)] [⟨false, .hdr 1 gv2 gv3 gv4 gv5 none⟩, ⟨false, .flat 0 (.ints .i64 gv6)⟩] K = (impl_isGroupAt_suh.s N (fun d0 => K (.bool (d0)) [⟨false, .hdr 1 gv2 gv3 gv4 gv5 none⟩, ⟨false, .flat 0 (.ints .i64 gv6)⟩]) (fun x7 => xloop (xcode (E18 N) ents impl_isGroupAt_suh.kp 2 N (cL (cK (cB (cA (cB (cB impl_isGroupAt_suh.bd)))))) 0) impl_isGroupAt_suh.kp 2 0 N (impl_isGroupAt_suh.st0 table0 i1 gv2 gv3 gv4 gv5 gv6 x7) (impl_isGroupAt_suh.k0 N K gv2 gv3 gv4 gv5 gv6)) table0 i1 gv4 gv5 gv6) := by kernel_rfl
theorem impl_isGroupAt_suh.eq {ρ : Type} (N : Nat) (K : AV → Heap → Option ρ) (table0 : Nat) (i1 : Int) (gv2 : Nat) (gv3 : Nat) (gv4 : Nat → Nat) (gv5 : Nat → Nat) (gv6 : Nat → Int) :
    xbody (E18 N) ents impl_isGroupAt_suh.kp N Try.f44 impl_isGroupAt_suh.bd [.slice true 0 0 table0 .unk 1, .int .i64 (i1)] [⟨false, .hdr 1 gv2 gv3 gv4 gv5 none⟩, ⟨false, .flat 0 (.ints .i64 gv6)⟩] K = (impl_isGroupAt_suh N (fun d0 => K (.bool (d0)) [⟨false, .hdr 1 gv2 gv3 gv4 gv5 none⟩, ⟨false, .flat 0 (.ints .i64 gv6)⟩]) table0 i1 gv2 gv3 gv4 gv5 gv6) := by
  refine (impl_isGroupAt_suh.s_eq N K table0 i1 gv2 gv3 gv4 gv5 gv6).trans ?_
  simp only [impl_isGroupAt_suh.l0_eq, impl_isGroupAt_suh.a0_0_eq]
  kernel_rfl
end
end Go.Proofs.YtiifnnokpjbapaaRR.H
