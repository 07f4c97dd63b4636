import Derived.Test.YtlehklooibbmcaaHL1
namespace Go.Proofs.Ytlehklooibbmcaa.H
noncomputable section
set_option linter.unusedVariables false
set_option linter.unusedSimpArgs false
open Go Go.RowKit Go.Proofs.Ytlehklooibbmcaa.Hy
set_option maxRecDepth 100000
def Q21.kp : Keeps := ⟨[(0, [0, 3, 4], [], []), (2, [0, 3, 4, 5], [], []), (4, [0, 3, 6], [], []), (6, [0, 3, 6, 7, 8], [], []), (8, [0, 3, 6, 7, 8, 9], [], [])], [(0, [0, 3], [], []), (2, [0, 3, 4], [], []), (4, [], [], []), (6, [0, 3, 6, 7], [], []), (8, [0, 3, 6, 7, 8], [], [])], []⟩
def Q21.bd : Code := bodyOf Try.f55
def Q21.fin {ρ : Type} (N : Nat) (K : AV → Heap → Option ρ) (gv1 : Nat) (gv2 : Nat) (gv3 : Nat → Nat) (gv4 : Nat → Nat) (gv5 : Nat → Int) : XE → St → Option ρ := finK (E21 N) Q21.kp.fins Try.f55 [⟨false, .hdr 1 gv1 gv2 gv3 gv4 none⟩, ⟨false, .flat 0 (.ints .i64 gv5)⟩] K
def Q21.k0 {ρ : Type} (N : Nat) (K : AV → Heap → Option ρ) (gv1 : Nat) (gv2 : Nat) (gv3 : Nat → Nat) (gv4 : Nat → Nat) (gv5 : Nat → Int) : XE → St → Option ρ := (blockK Q21.kp 2 0 (seqK (xcode (E21 N) ents Q21.kp 2 N (cB (cB (cB (cB Q21.bd)))) 0) (Q21.fin N K gv1 gv2 gv3 gv4 gv5)))
theorem Q21.k0_mix {ρ : Type} (N : Nat) (K : AV → Heap → Option ρ) (gv1 : Nat) (gv2 : Nat) (gv3 : Nat → Nat) (gv4 : Nat → Nat) (gv5 : Nat → Int) : mixK (Q21.fin N K gv1 gv2 gv3 gv4 gv5 .ret) (Q21.k0 N K gv1 gv2 gv3 gv4 gv5) = (Q21.k0 N K gv1 gv2 gv3 gv4 gv5) := by
  funext e s; cases e <;> kernel_rfl
def Q21.st0 (table0 : Nat) (gv1 : Nat) (gv2 : Nat) (gv3 : Nat → Nat) (gv4 : Nat → Nat) (gv5 : Nat → Int) (i7 : Int) : St := ⟨sl 128 [(0, .slice false 0 0 table0 .unk 1), (3, .int .i64 ((table0 : Int))), (4, .int .i64 (i7))], [⟨false, .hdr 1 gv1 gv2 gv3 gv4 none⟩, ⟨false, .flat 0 (.ints .i64 gv5)⟩]⟩
def Q21.sx0_0 (table0 : Nat) (gv1 : Nat) (gv2 : Nat) (gv3 : Nat → Nat) (gv4 : Nat → Nat) (gv5 : Nat → Int) : St := ⟨sl 128 [(0, .slice false 0 0 table0 .unk 1), (3, .int .i64 ((table0 : Int)))], [⟨false, .hdr 1 gv1 gv2 gv3 gv4 none⟩, ⟨false, .flat 0 (.ints .i64 gv5)⟩]⟩
def Q21.k1g {ρ : Type} (N : Nat) (L0 : St → Option ρ) (kv : XE → St → Option ρ) : XE → St → Option ρ := (blockK Q21.kp 2 2 (blockK Q21.kp 2 1 (seqK (xcode (E21 N) ents Q21.kp 2 N (cB (cB (cL (cK (cB (cA (cB (cB (cB Q21.bd))))))))) 0) (roundK Q21.kp 2 0 L0 kv))))
theorem Q21.k1_mix {ρ : Type} (N : Nat) (K : AV → Heap → Option ρ) (L0 : St → Option ρ) (gv1 : Nat) (gv2 : Nat) (gv3 : Nat → Nat) (gv4 : Nat → Nat) (gv5 : Nat → Int) : mixK (Q21.fin N K gv1 gv2 gv3 gv4 gv5 .ret) (Q21.k1g N L0 (Q21.k0 N K gv1 gv2 gv3 gv4 gv5)) = (Q21.k1g N L0 (Q21.k0 N K gv1 gv2 gv3 gv4 gv5)) := by
  funext e s; cases e <;> kernel_rfl
def Q21.st1 (table0 : Nat) (gv1 : Nat) (gv2 : Nat) (gv3 : Nat → Nat) (gv4 : Nat → Nat) (gv5 : Nat → Int) (i7 : Int) (j8 : Int) : St := ⟨sl 128 [(0, .slice false 0 0 table0 .unk 1), (3, .int .i64 ((table0 : Int))), (4, .int .i64 (i7)), (5, .int .i64 (j8))], [⟨false, .hdr 1 gv1 gv2 gv3 gv4 none⟩, ⟨false, .flat 0 (.ints .i64 gv5)⟩]⟩
def Q21.sx1_0 (table0 : Nat) (gv1 : Nat) (gv2 : Nat) (gv3 : Nat → Nat) (gv4 : Nat → Nat) (gv5 : Nat → Int) (i7 : Int) : St := ⟨sl 128 [(0, .slice false 0 0 table0 .unk 1), (3, .int .i64 ((table0 : Int))), (4, .int .i64 (i7))], [⟨false, .hdr 1 gv1 gv2 gv3 gv4 none⟩, ⟨false, .flat 0 (.ints .i64 gv5)⟩]⟩
def Q21.k2 {ρ : Type} (N : Nat) (K : AV → Heap → Option ρ) (gv1 : Nat) (gv2 : Nat) (gv3 : Nat → Nat) (gv4 : Nat → Nat) (gv5 : Nat → Int) : XE → St → Option ρ := (blockK Q21.kp 2 4 (seqK (xcode (E21 N) ents Q21.kp 2 N (cB (cB (cB (cB (cB Q21.bd))))) 0) (Q21.fin N K gv1 gv2 gv3 gv4 gv5)))
theorem Q21.k2_mix {ρ : Type} (N : Nat) (K : AV → Heap → Option ρ) (gv1 : Nat) (gv2 : Nat) (gv3 : Nat → Nat) (gv4 : Nat → Nat) (gv5 : Nat → Int) : mixK (Q21.fin N K gv1 gv2 gv3 gv4 gv5 .ret) (Q21.k2 N K gv1 gv2 gv3 gv4 gv5) = (Q21.k2 N K gv1 gv2 gv3 gv4 gv5) := by
  funext e s; cases e <;> kernel_rfl
def Q21.st2 (table0 : Nat) (gv1 : Nat) (gv2 : Nat) (gv3 : Nat → Nat) (gv4 : Nat → Nat) (gv5 : Nat → Int) (i10 : Int) : St := ⟨sl 128 [(0, .slice false 0 0 table0 .unk 1), (3, .int .i64 ((table0 : Int))), (6, .int .i64 (i10))], [⟨false, .hdr 1 gv1 gv2 gv3 gv4 none⟩, ⟨false, .flat 0 (.ints .i64 gv5)⟩]⟩
def Q21.sx2_0 (gv1 : Nat) (gv2 : Nat) (gv3 : Nat → Nat) (gv4 : Nat → Nat) (gv5 : Nat → Int) : St := ⟨sl 128 [], [⟨false, .hdr 1 gv1 gv2 gv3 gv4 none⟩, ⟨false, .flat 0 (.ints .i64 gv5)⟩]⟩
def Q21.k3g {ρ : Type} (N : Nat) (L2 : St → Option ρ) (kv : XE → St → Option ρ) : XE → St → Option ρ := (blockK Q21.kp 2 6 (seqK (xcode (E21 N) ents Q21.kp 2 N (cB (cB (cK (cA (cB (cL (cK (cB (cA (cB (cB (cB (cB Q21.bd))))))))))))) 5) (blockK Q21.kp 2 5 (seqK (xcode (E21 N) ents Q21.kp 2 N (cB (cB (cL (cK (cB (cA (cB (cB (cB (cB Q21.bd)))))))))) 4) (roundK Q21.kp 2 4 L2 kv)))))
theorem Q21.k3_mix {ρ : Type} (N : Nat) (K : AV → Heap → Option ρ) (L2 : St → Option ρ) (gv1 : Nat) (gv2 : Nat) (gv3 : Nat → Nat) (gv4 : Nat → Nat) (gv5 : Nat → Int) : mixK (Q21.fin N K gv1 gv2 gv3 gv4 gv5 .ret) (Q21.k3g N L2 (Q21.k2 N K gv1 gv2 gv3 gv4 gv5)) = (Q21.k3g N L2 (Q21.k2 N K gv1 gv2 gv3 gv4 gv5)) := by
  funext e s; cases e <;> kernel_rfl
def Q21.st3 (table0 : Nat) (gv1 : Nat) (gv2 : Nat) (gv3 : Nat → Nat) (gv4 : Nat → Nat) (gv5 : Nat → Int) (i10 : Int) (inverse11 : Bool) (j12 : Int) : St := ⟨sl 128 [(0, .slice false 0 0 table0 .unk 1), (3, .int .i64 ((table0 : Int))), (6, .int .i64 (i10)), (7, .bool (inverse11)), (8, .int .i64 (j12))], [⟨false, .hdr 1 gv1 gv2 gv3 gv4 none⟩, ⟨false, .flat 0 (.ints .i64 gv5)⟩]⟩
def Q21.sx3_0 (table0 : Nat) (gv1 : Nat) (gv2 : Nat) (gv3 : Nat → Nat) (gv4 : Nat → Nat) (gv5 : Nat → Int) (i10 : Int) (ov16 : Bool) : St := ⟨sl 128 [(0, .slice false 0 0 table0 .unk 1), (3, .int .i64 ((table0 : Int))), (6, .int .i64 (i10)), (7, .bool (ov16))], [⟨false, .hdr 1 gv1 gv2 gv3 gv4 none⟩, ⟨false, .flat 0 (.ints .i64 gv5)⟩]⟩
def Q21.k4g {ρ : Type} (N : Nat) (L3 : St → Option ρ) (kv : XE → St → Option ρ) : XE → St → Option ρ := (blockK Q21.kp 2 8 (blockK Q21.kp 2 7 (seqK (xcode (E21 N) ents Q21.kp 2 N (cB (cB (cL (cK (cB (cA (cB (cK (cA (cB (cL (cK (cB (cA (cB (cB (cB (cB Q21.bd)))))))))))))))))) 6) (roundK Q21.kp 2 6 L3 kv))))
theorem Q21.k4_mix {ρ : Type} (N : Nat) (K : AV → Heap → Option ρ) (L2 : St → Option ρ) (L3 : St → Option ρ) (gv1 : Nat) (gv2 : Nat) (gv3 : Nat → Nat) (gv4 : Nat → Nat) (gv5 : Nat → Int) : mixK (Q21.fin N K gv1 gv2 gv3 gv4 gv5 .ret) (Q21.k4g N L3 (Q21.k3g N L2 (Q21.k2 N K gv1 gv2 gv3 gv4 gv5))) = (Q21.k4g N L3 (Q21.k3g N L2 (Q21.k2 N K gv1 gv2 gv3 gv4 gv5))) := by
  funext e s; cases e <;> kernel_rfl
def Q21.st4 (table0 : Nat) (gv1 : Nat) (gv2 : Nat) (gv3 : Nat → Nat) (gv4 : Nat → Nat) (gv5 : Nat → Int) (i10 : Int) (j12 : Int) (k13 : Int) : St := ⟨sl 128 [(0, .slice false 0 0 table0 .unk 1), (3, .int .i64 ((table0 : Int))), (6, .int .i64 (i10)), (7, .bool true), (8, .int .i64 (j12)), (9, .int .i64 (k13))], [⟨false, .hdr 1 gv1 gv2 gv3 gv4 none⟩, ⟨false, .flat 0 (.ints .i64 gv5)⟩]⟩
def Q21.sx4_0 (table0 : Nat) (gv1 : Nat) (gv2 : Nat) (gv3 : Nat → Nat) (gv4 : Nat → Nat) (gv5 : Nat → Int) (i10 : Int) (j12 : Int) : St := ⟨sl 128 [(0, .slice false 0 0 table0 .unk 1), (3, .int .i64 ((table0 : Int))), (6, .int .i64 (i10)), (7, .bool true), (8, .int .i64 (j12))], [⟨false, .hdr 1 gv1 gv2 gv3 gv4 none⟩, ⟨false, .flat 0 (.ints .i64 gv5)⟩]⟩
def Q21.k5g {ρ : Type} (N : Nat) (L3 : St → Option ρ) (kv : XE → St → Option ρ) : XE → St → Option ρ := (blockK Q21.kp 2 8 (blockK Q21.kp 2 7 (seqK (xcode (E21 N) ents Q21.kp 2 N (cB (cB (cL (cK (cB (cA (cB (cK (cA (cB (cL (cK (cB (cA (cB (cB (cB (cB Q21.bd)))))))))))))))))) 6) (roundK Q21.kp 2 6 L3 kv))))
theorem Q21.k5_mix {ρ : Type} (N : Nat) (K : AV → Heap → Option ρ) (L2 : St → Option ρ) (L3 : St → Option ρ) (gv1 : Nat) (gv2 : Nat) (gv3 : Nat → Nat) (gv4 : Nat → Nat) (gv5 : Nat → Int) : mixK (Q21.fin N K gv1 gv2 gv3 gv4 gv5 .ret) (Q21.k5g N L3 (Q21.k3g N L2 (Q21.k2 N K gv1 gv2 gv3 gv4 gv5))) = (Q21.k5g N L3 (Q21.k3g N L2 (Q21.k2 N K gv1 gv2 gv3 gv4 gv5))) := by
  funext e s; cases e <;> kernel_rfl
def Q21.st5 (table0 : Nat) (gv1 : Nat) (gv2 : Nat) (gv3 : Nat → Nat) (gv4 : Nat → Nat) (gv5 : Nat → Int) (i10 : Int) (j12 : Int) (k14 : Int) : St := ⟨sl 128 [(0, .slice false 0 0 table0 .unk 1), (3, .int .i64 ((table0 : Int))), (6, .int .i64 (i10)), (7, .bool (((gv5 ((gv3 (0 + (j12.toNat * 1))) + (i10.toNat * 1))) == 0))), (8, .int .i64 (j12)), (9, .int .i64 (k14))], [⟨false, .hdr 1 gv1 gv2 gv3 gv4 none⟩, ⟨false, .flat 0 (.ints .i64 gv5)⟩]⟩
def Q21.sx5_0 (table0 : Nat) (gv1 : Nat) (gv2 : Nat) (gv3 : Nat → Nat) (gv4 : Nat → Nat) (gv5 : Nat → Int) (i10 : Int) (j12 : Int) : St := ⟨sl 128 [(0, .slice false 0 0 table0 .unk 1), (3, .int .i64 ((table0 : Int))), (6, .int .i64 (i10)), (7, .bool (((gv5 ((gv3 (0 + (j12.toNat * 1))) + (i10.toNat * 1))) == 0))), (8, .int .i64 (j12))], [⟨false, .hdr 1 gv1 gv2 gv3 gv4 none⟩, ⟨false, .flat 0 (.ints .i64 gv5)⟩]⟩
def Q21.k6g {ρ : Type} (N : Nat) (L3 : St → Option ρ) (kv : XE → St → Option ρ) : XE → St → Option ρ := (blockK Q21.kp 2 8 (blockK Q21.kp 2 7 (seqK (xcode (E21 N) ents Q21.kp 2 N (cB (cB (cL (cK (cB (cA (cB (cK (cA (cB (cL (cK (cB (cA (cB (cB (cB (cB Q21.bd)))))))))))))))))) 6) (roundK Q21.kp 2 6 L3 kv))))
theorem Q21.k6_mix {ρ : Type} (N : Nat) (K : AV → Heap → Option ρ) (L2 : St → Option ρ) (L3 : St → Option ρ) (gv1 : Nat) (gv2 : Nat) (gv3 : Nat → Nat) (gv4 : Nat → Nat) (gv5 : Nat → Int) : mixK (Q21.fin N K gv1 gv2 gv3 gv4 gv5 .ret) (Q21.k6g N L3 (Q21.k3g N L2 (Q21.k2 N K gv1 gv2 gv3 gv4 gv5))) = (Q21.k6g N L3 (Q21.k3g N L2 (Q21.k2 N K gv1 gv2 gv3 gv4 gv5))) := by
  funext e s; cases e <;> kernel_rfl
def Q21.st6 (table0 : Nat) (gv1 : Nat) (gv2 : Nat) (gv3 : Nat → Nat) (gv4 : Nat → Nat) (gv5 : Nat → Int) (i10 : Int) (j12 : Int) (k15 : Int) : St := ⟨sl 128 [(0, .slice false 0 0 table0 .unk 1), (3, .int .i64 ((table0 : Int))), (6, .int .i64 (i10)), (7, .bool false), (8, .int .i64 (j12)), (9, .int .i64 (k15))], [⟨false, .hdr 1 gv1 gv2 gv3 gv4 none⟩, ⟨false, .flat 0 (.ints .i64 gv5)⟩]⟩
def Q21.sx6_0 (table0 : Nat) (gv1 : Nat) (gv2 : Nat) (gv3 : Nat → Nat) (gv4 : Nat → Nat) (gv5 : Nat → Int) (i10 : Int) (j12 : Int) : St := ⟨sl 128 [(0, .slice false 0 0 table0 .unk 1), (3, .int .i64 ((table0 : Int))), (6, .int .i64 (i10)), (7, .bool false), (8, .int .i64 (j12))], [⟨false, .hdr 1 gv1 gv2 gv3 gv4 none⟩, ⟨false, .flat 0 (.ints .i64 gv5)⟩]⟩
theorem Q21.b1_gen {ρ : Type} (N : Nat) (K : AV → Heap → Option ρ) (L1 : St → Option ρ) (kv : XE → St → Option ρ) (table0 : Nat) (gv1 : Nat) (gv2 : Nat) (gv3 : Nat → Nat) (gv4 : Nat → Nat) (gv5 : Nat → Int) (i7 : Int) (j8 : Int) :
    xcode (E21 N) ents Q21.kp 2 N (cL (cK (cB (cB (cK (cA (cB (cL (cK (cB (cA (cB (cB (cB Q21.bd)))))))))))))) 2 (Q21.st1 table0 gv1 gv2 gv3 gv4 gv5 i7 j8) (roundK Q21.kp 2 2 L1 (mixK (Q21.fin N K gv1 gv2 gv3 gv4 gv5 .ret) kv)) = (Q21.b1 N (fun d0 => K (.bool (d0)) [⟨false, .hdr 1 gv1 gv2 gv3 gv4 none⟩, ⟨false, .flat 0 (.ints .i64 gv5)⟩]) (fun j8 => L1 (Q21.st1 table0 gv1 gv2 gv3 gv4 gv5 i7 j8)) (kv (.exit 2) (Q21.sx1_0 table0 gv1 gv2 gv3 gv4 gv5 i7)) table0 gv3 gv4 gv5 i7 j8) := by kernel_rfl
theorem Q21.b1_eq {ρ : Type} (N : Nat) (K : AV → Heap → Option ρ) (L0 : St → Option ρ) (L1 : St → Option ρ) (table0 : Nat) (gv1 : Nat) (gv2 : Nat) (gv3 : Nat → Nat) (gv4 : Nat → Nat) (gv5 : Nat → Int) (i7 : Int) (j8 : Int) :
    xcode (E21 N) ents Q21.kp 2 N (cL (cK (cB (cB (cK (cA (cB (cL (cK (cB (cA (cB (cB (cB Q21.bd)))))))))))))) 2 (Q21.st1 table0 gv1 gv2 gv3 gv4 gv5 i7 j8) (roundK Q21.kp 2 2 L1 (Q21.k1g N L0 (Q21.k0 N K gv1 gv2 gv3 gv4 gv5))) = (Q21.b1 N (fun d0 => K (.bool (d0)) [⟨false, .hdr 1 gv1 gv2 gv3 gv4 none⟩, ⟨false, .flat 0 (.ints .i64 gv5)⟩]) (fun j8 => L1 (Q21.st1 table0 gv1 gv2 gv3 gv4 gv5 i7 j8)) ((Q21.k1g N L0 (Q21.k0 N K gv1 gv2 gv3 gv4 gv5)) (.exit 2) (Q21.sx1_0 table0 gv1 gv2 gv3 gv4 gv5 i7)) table0 gv3 gv4 gv5 i7 j8) := by
  have h := Q21.b1_gen N K L1 (Q21.k1g N L0 (Q21.k0 N K gv1 gv2 gv3 gv4 gv5)) table0 gv1 gv2 gv3 gv4 gv5 i7 j8
  rw [Q21.k1_mix] at h
  exact h
theorem Q21.a1_0_gen {ρ : Type} (N : Nat) (K : AV → Heap → Option ρ) (L0 : St → Option ρ) (kv : XE → St → Option ρ) (table0 : Nat) (gv1 : Nat) (gv2 : Nat) (gv3 : Nat → Nat) (gv4 : Nat → Nat) (gv5 : Nat → Int) (i7 : Int) :
    (Q21.k1g N L0 (mixK (Q21.fin N K gv1 gv2 gv3 gv4 gv5 .ret) kv)) (.exit 2) (Q21.sx1_0 table0 gv1 gv2 gv3 gv4 gv5 i7) = (Q21.a1_0 N (fun d0 => K (.bool (d0)) [⟨false, .hdr 1 gv1 gv2 gv3 gv4 none⟩, ⟨false, .flat 0 (.ints .i64 gv5)⟩]) (fun i7 => L0 (Q21.st0 table0 gv1 gv2 gv3 gv4 gv5 i7)) (kv (.exit 0) (Q21.sx0_0 table0 gv1 gv2 gv3 gv4 gv5)) i7) := by kernel_rfl
theorem Q21.a1_0_eq {ρ : Type} (N : Nat) (K : AV → Heap → Option ρ) (L0 : St → Option ρ) (table0 : Nat) (gv1 : Nat) (gv2 : Nat) (gv3 : Nat → Nat) (gv4 : Nat → Nat) (gv5 : Nat → Int) (i7 : Int) :
    (Q21.k1g N L0 (Q21.k0 N K gv1 gv2 gv3 gv4 gv5)) (.exit 2) (Q21.sx1_0 table0 gv1 gv2 gv3 gv4 gv5 i7) = (Q21.a1_0 N (fun d0 => K (.bool (d0)) [⟨false, .hdr 1 gv1 gv2 gv3 gv4 none⟩, ⟨false, .flat 0 (.ints .i64 gv5)⟩]) (fun i7 => L0 (Q21.st0 table0 gv1 gv2 gv3 gv4 gv5 i7)) ((Q21.k0 N K gv1 gv2 gv3 gv4 gv5) (.exit 0) (Q21.sx0_0 table0 gv1 gv2 gv3 gv4 gv5)) i7) := by
  have h := Q21.a1_0_gen N K L0 (Q21.k0 N K gv1 gv2 gv3 gv4 gv5) table0 gv1 gv2 gv3 gv4 gv5 i7
  rw [Q21.k0_mix] at h
  exact h
theorem Q21.b4_gen {ρ : Type} (N : Nat) (K : AV → Heap → Option ρ) (L4 : St → Option ρ) (kv : XE → St → Option ρ) (table0 : Nat) (gv1 : Nat) (gv2 : Nat) (gv3 : Nat → Nat) (gv4 : Nat → Nat) (gv5 : Nat → Int) (i10 : Int) (j12 : Int) (k13 : Int) :
    xcode (E21 N) ents Q21.kp 2 N (cL (cK (cB (cB (cK (cA (cB (cL (cK (cB (cA (cB (cK (cA (cB (cL (cK (cB (cA (cB (cB (cB (cB Q21.bd))))))))))))))))))))))) 8 (Q21.st4 table0 gv1 gv2 gv3 gv4 gv5 i10 j12 k13) (roundK Q21.kp 2 8 L4 (mixK (Q21.fin N K gv1 gv2 gv3 gv4 gv5 .ret) kv)) = (Q21.b4 N (fun d0 => K (.bool (d0)) [⟨false, .hdr 1 gv1 gv2 gv3 gv4 none⟩, ⟨false, .flat 0 (.ints .i64 gv5)⟩]) (fun k13 => L4 (Q21.st4 table0 gv1 gv2 gv3 gv4 gv5 i10 j12 k13)) (kv (.exit 8) (Q21.sx4_0 table0 gv1 gv2 gv3 gv4 gv5 i10 j12)) table0 gv3 gv4 gv5 i10 j12 k13) := by kernel_rfl
theorem Q21.b4_eq {ρ : Type} (N : Nat) (K : AV → Heap → Option ρ) (L2 : St → Option ρ) (L3 : St → Option ρ) (L4 : St → Option ρ) (table0 : Nat) (gv1 : Nat) (gv2 : Nat) (gv3 : Nat → Nat) (gv4 : Nat → Nat) (gv5 : Nat → Int) (i10 : Int) (j12 : Int) (k13 : Int) :
    xcode (E21 N) ents Q21.kp 2 N (cL (cK (cB (cB (cK (cA (cB (cL (cK (cB (cA (cB (cK (cA (cB (cL (cK (cB (cA (cB (cB (cB (cB Q21.bd))))))))))))))))))))))) 8 (Q21.st4 table0 gv1 gv2 gv3 gv4 gv5 i10 j12 k13) (roundK Q21.kp 2 8 L4 (Q21.k4g N L3 (Q21.k3g N L2 (Q21.k2 N K gv1 gv2 gv3 gv4 gv5)))) = (Q21.b4 N (fun d0 => K (.bool (d0)) [⟨false, .hdr 1 gv1 gv2 gv3 gv4 none⟩, ⟨false, .flat 0 (.ints .i64 gv5)⟩]) (fun k13 => L4 (Q21.st4 table0 gv1 gv2 gv3 gv4 gv5 i10 j12 k13)) ((Q21.k4g N L3 (Q21.k3g N L2 (Q21.k2 N K gv1 gv2 gv3 gv4 gv5))) (.exit 8) (Q21.sx4_0 table0 gv1 gv2 gv3 gv4 gv5 i10 j12)) table0 gv3 gv4 gv5 i10 j12 k13) := by
  have h := Q21.b4_gen N K L4 (Q21.k4g N L3 (Q21.k3g N L2 (Q21.k2 N K gv1 gv2 gv3 gv4 gv5))) table0 gv1 gv2 gv3 gv4 gv5 i10 j12 k13
  rw [Q21.k4_mix] at h
  exact h
theorem Q21.a4_0_gen {ρ : Type} (N : Nat) (K : AV → Heap → Option ρ) (L3 : St → Option ρ) (kv : XE → St → Option ρ) (table0 : Nat) (gv1 : Nat) (gv2 : Nat) (gv3 : Nat → Nat) (gv4 : Nat → Nat) (gv5 : Nat → Int) (i10 : Int) (j12 : Int) :
    (Q21.k4g N L3 (mixK (Q21.fin N K gv1 gv2 gv3 gv4 gv5 .ret) kv)) (.exit 8) (Q21.sx4_0 table0 gv1 gv2 gv3 gv4 gv5 i10 j12) = (Q21.a4_0 N (fun d0 => K (.bool (d0)) [⟨false, .hdr 1 gv1 gv2 gv3 gv4 none⟩, ⟨false, .flat 0 (.ints .i64 gv5)⟩]) (fun inverse11 j12 => L3 (Q21.st3 table0 gv1 gv2 gv3 gv4 gv5 i10 inverse11 j12)) (fun ov16 => kv (.exit 6) (Q21.sx3_0 table0 gv1 gv2 gv3 gv4 gv5 i10 ov16)) j12) := by kernel_rfl
theorem Q21.a4_0_eq {ρ : Type} (N : Nat) (K : AV → Heap → Option ρ) (L2 : St → Option ρ) (L3 : St → Option ρ) (table0 : Nat) (gv1 : Nat) (gv2 : Nat) (gv3 : Nat → Nat) (gv4 : Nat → Nat) (gv5 : Nat → Int) (i10 : Int) (j12 : Int) :
    (Q21.k4g N L3 (Q21.k3g N L2 (Q21.k2 N K gv1 gv2 gv3 gv4 gv5))) (.exit 8) (Q21.sx4_0 table0 gv1 gv2 gv3 gv4 gv5 i10 j12) = (Q21.a4_0 N (fun d0 => K (.bool (d0)) [⟨false, .hdr 1 gv1 gv2 gv3 gv4 none⟩, ⟨false, .flat 0 (.ints .i64 gv5)⟩]) (fun inverse11 j12 => L3 (Q21.st3 table0 gv1 gv2 gv3 gv4 gv5 i10 inverse11 j12)) (fun ov16 => (Q21.k3g N L2 (Q21.k2 N K gv1 gv2 gv3 gv4 gv5)) (.exit 6) (Q21.sx3_0 table0 gv1 gv2 gv3 gv4 gv5 i10 ov16)) j12) := by
  have h := Q21.a4_0_gen N K L3 (Q21.k3g N L2 (Q21.k2 N K gv1 gv2 gv3 gv4 gv5)) table0 gv1 gv2 gv3 gv4 gv5 i10 j12
  rw [Q21.k3_mix] at h
  exact h
theorem Q21.b5_gen {ρ : Type} (N : Nat) (K : AV → Heap → Option ρ) (L5 : St → Option ρ) (kv : XE → St → Option ρ) (table0 : Nat) (gv1 : Nat) (gv2 : Nat) (gv3 : Nat → Nat) (gv4 : Nat → Nat) (gv5 : Nat → Int) (i10 : Int) (j12 : Int) (k14 : Int) :
    xcode (E21 N) ents Q21.kp 2 N (cL (cK (cB (cB (cK (cA (cB (cL (cK (cB (cA (cB (cK (cA (cB (cL (cK (cB (cA (cB (cB (cB (cB Q21.bd))))))))))))))))))))))) 8 (Q21.st5 table0 gv1 gv2 gv3 gv4 gv5 i10 j12 k14) (roundK Q21.kp 2 8 L5 (mixK (Q21.fin N K gv1 gv2 gv3 gv4 gv5 .ret) kv)) = (Q21.b5 N (fun d0 => K (.bool (d0)) [⟨false, .hdr 1 gv1 gv2 gv3 gv4 none⟩, ⟨false, .flat 0 (.ints .i64 gv5)⟩]) (fun k14 => L5 (Q21.st5 table0 gv1 gv2 gv3 gv4 gv5 i10 j12 k14)) (kv (.exit 8) (Q21.sx5_0 table0 gv1 gv2 gv3 gv4 gv5 i10 j12)) table0 gv3 gv4 gv5 i10 j12 k14) := by kernel_rfl
theorem Q21.b5_eq {ρ : Type} (N : Nat) (K : AV → Heap → Option ρ) (L2 : St → Option ρ) (L3 : St → Option ρ) (L5 : St → Option ρ) (table0 : Nat) (gv1 : Nat) (gv2 : Nat) (gv3 : Nat → Nat) (gv4 : Nat → Nat) (gv5 : Nat → Int) (i10 : Int) (j12 : Int) (k14 : Int) :
    xcode (E21 N) ents Q21.kp 2 N (cL (cK (cB (cB (cK (cA (cB (cL (cK (cB (cA (cB (cK (cA (cB (cL (cK (cB (cA (cB (cB (cB (cB Q21.bd))))))))))))))))))))))) 8 (Q21.st5 table0 gv1 gv2 gv3 gv4 gv5 i10 j12 k14) (roundK Q21.kp 2 8 L5 (Q21.k5g N L3 (Q21.k3g N L2 (Q21.k2 N K gv1 gv2 gv3 gv4 gv5)))) = (Q21.b5 N (fun d0 => K (.bool (d0)) [⟨false, .hdr 1 gv1 gv2 gv3 gv4 none⟩, ⟨false, .flat 0 (.ints .i64 gv5)⟩]) (fun k14 => L5 (Q21.st5 table0 gv1 gv2 gv3 gv4 gv5 i10 j12 k14)) ((Q21.k5g N L3 (Q21.k3g N L2 (Q21.k2 N K gv1 gv2 gv3 gv4 gv5))) (.exit 8) (Q21.sx5_0 table0 gv1 gv2 gv3 gv4 gv5 i10 j12)) table0 gv3 gv4 gv5 i10 j12 k14) := by
  have h := Q21.b5_gen N K L5 (Q21.k5g N L3 (Q21.k3g N L2 (Q21.k2 N K gv1 gv2 gv3 gv4 gv5))) table0 gv1 gv2 gv3 gv4 gv5 i10 j12 k14
  rw [Q21.k5_mix] at h
  exact h
theorem Q21.a5_0_gen {ρ : Type} (N : Nat) (K : AV → Heap → Option ρ) (L3 : St → Option ρ) (kv : XE → St → Option ρ) (table0 : Nat) (gv1 : Nat) (gv2 : Nat) (gv3 : Nat → Nat) (gv4 : Nat → Nat) (gv5 : Nat → Int) (i10 : Int) (j12 : Int) :
    (Q21.k5g N L3 (mixK (Q21.fin N K gv1 gv2 gv3 gv4 gv5 .ret) kv)) (.exit 8) (Q21.sx5_0 table0 gv1 gv2 gv3 gv4 gv5 i10 j12) = (Q21.a5_0 N (fun d0 => K (.bool (d0)) [⟨false, .hdr 1 gv1 gv2 gv3 gv4 none⟩, ⟨false, .flat 0 (.ints .i64 gv5)⟩]) (fun inverse11 j12 => L3 (Q21.st3 table0 gv1 gv2 gv3 gv4 gv5 i10 inverse11 j12)) (fun ov16 => kv (.exit 6) (Q21.sx3_0 table0 gv1 gv2 gv3 gv4 gv5 i10 ov16)) gv3 gv5 i10 j12) := by kernel_rfl
theorem Q21.a5_0_eq {ρ : Type} (N : Nat) (K : AV → Heap → Option ρ) (L2 : St → Option ρ) (L3 : St → Option ρ) (table0 : Nat) (gv1 : Nat) (gv2 : Nat) (gv3 : Nat → Nat) (gv4 : Nat → Nat) (gv5 : Nat → Int) (i10 : Int) (j12 : Int) :
    (Q21.k5g N L3 (Q21.k3g N L2 (Q21.k2 N K gv1 gv2 gv3 gv4 gv5))) (.exit 8) (Q21.sx5_0 table0 gv1 gv2 gv3 gv4 gv5 i10 j12) = (Q21.a5_0 N (fun d0 => K (.bool (d0)) [⟨false, .hdr 1 gv1 gv2 gv3 gv4 none⟩, ⟨false, .flat 0 (.ints .i64 gv5)⟩]) (fun inverse11 j12 => L3 (Q21.st3 table0 gv1 gv2 gv3 gv4 gv5 i10 inverse11 j12)) (fun ov16 => (Q21.k3g N L2 (Q21.k2 N K gv1 gv2 gv3 gv4 gv5)) (.exit 6) (Q21.sx3_0 table0 gv1 gv2 gv3 gv4 gv5 i10 ov16)) gv3 gv5 i10 j12) := by
  have h := Q21.a5_0_gen N K L3 (Q21.k3g N L2 (Q21.k2 N K gv1 gv2 gv3 gv4 gv5)) table0 gv1 gv2 gv3 gv4 gv5 i10 j12
  rw [Q21.k3_mix] at h
  exact h
theorem Q21.b6_gen {ρ : Type} (N : Nat) (K : AV → Heap → Option ρ) (L6 : St → Option ρ) (kv : XE → St → Option ρ) (table0 : Nat) (gv1 : Nat) (gv2 : Nat) (gv3 : Nat → Nat) (gv4 : Nat → Nat) (gv5 : Nat → Int) (i10 : Int) (j12 : Int) (k15 : Int) :
    xcode (E21 N) ents Q21.kp 2 N (cL (cK (cB (cB (cK (cA (cB (cL (cK (cB (cA (cB (cK (cA (cB (cL (cK (cB (cA (cB (cB (cB (cB Q21.bd))))))))))))))))))))))) 8 (Q21.st6 table0 gv1 gv2 gv3 gv4 gv5 i10 j12 k15) (roundK Q21.kp 2 8 L6 (mixK (Q21.fin N K gv1 gv2 gv3 gv4 gv5 .ret) kv)) = (Q21.b6 N (fun d0 => K (.bool (d0)) [⟨false, .hdr 1 gv1 gv2 gv3 gv4 none⟩, ⟨false, .flat 0 (.ints .i64 gv5)⟩]) (fun k15 => L6 (Q21.st6 table0 gv1 gv2 gv3 gv4 gv5 i10 j12 k15)) (kv (.exit 8) (Q21.sx6_0 table0 gv1 gv2 gv3 gv4 gv5 i10 j12)) table0 gv3 gv4 gv5 i10 j12 k15) := by kernel_rfl
theorem Q21.b6_eq {ρ : Type} (N : Nat) (K : AV → Heap → Option ρ) (L2 : St → Option ρ) (L3 : St → Option ρ) (L6 : St → Option ρ) (table0 : Nat) (gv1 : Nat) (gv2 : Nat) (gv3 : Nat → Nat) (gv4 : Nat → Nat) (gv5 : Nat → Int) (i10 : Int) (j12 : Int) (k15 : Int) :
    xcode (E21 N) ents Q21.kp 2 N (cL (cK (cB (cB (cK (cA (cB (cL (cK (cB (cA (cB (cK (cA (cB (cL (cK (cB (cA (cB (cB (cB (cB Q21.bd))))))))))))))))))))))) 8 (Q21.st6 table0 gv1 gv2 gv3 gv4 gv5 i10 j12 k15) (roundK Q21.kp 2 8 L6 (Q21.k6g N L3 (Q21.k3g N L2 (Q21.k2 N K gv1 gv2 gv3 gv4 gv5)))) = (Q21.b6 N (fun d0 => K (.bool (d0)) [⟨false, .hdr 1 gv1 gv2 gv3 gv4 none⟩, ⟨false, .flat 0 (.ints .i64 gv5)⟩]) (fun k15 => L6 (Q21.st6 table0 gv1 gv2 gv3 gv4 gv5 i10 j12 k15)) ((Q21.k6g N L3 (Q21.k3g N L2 (Q21.k2 N K gv1 gv2 gv3 gv4 gv5))) (.exit 8) (Q21.sx6_0 table0 gv1 gv2 gv3 gv4 gv5 i10 j12)) table0 gv3 gv4 gv5 i10 j12 k15) := by
  have h := Q21.b6_gen N K L6 (Q21.k6g N L3 (Q21.k3g N L2 (Q21.k2 N K gv1 gv2 gv3 gv4 gv5))) table0 gv1 gv2 gv3 gv4 gv5 i10 j12 k15
  rw [Q21.k6_mix] at h
  exact h
theorem Q21.a6_0_gen {ρ : Type} (N : Nat) (K : AV → Heap → Option ρ) (L3 : St → Option ρ) (kv : XE → St → Option ρ) (table0 : Nat) (gv1 : Nat) (gv2 : Nat) (gv3 : Nat → Nat) (gv4 : Nat → Nat) (gv5 : Nat → Int) (i10 : Int) (j12 : Int) :
    (Q21.k6g N L3 (mixK (Q21.fin N K gv1 gv2 gv3 gv4 gv5 .ret) kv)) (.exit 8) (Q21.sx6_0 table0 gv1 gv2 gv3 gv4 gv5 i10 j12) = (Q21.a6_0 N (fun d0 => K (.bool (d0)) [⟨false, .hdr 1 gv1 gv2 gv3 gv4 none⟩, ⟨false, .flat 0 (.ints .i64 gv5)⟩]) (fun inverse11 j12 => L3 (Q21.st3 table0 gv1 gv2 gv3 gv4 gv5 i10 inverse11 j12)) (fun ov16 => kv (.exit 6) (Q21.sx3_0 table0 gv1 gv2 gv3 gv4 gv5 i10 ov16)) j12) := by kernel_rfl
theorem Q21.a6_0_eq {ρ : Type} (N : Nat) (K : AV → Heap → Option ρ) (L2 : St → Option ρ) (L3 : St → Option ρ) (table0 : Nat) (gv1 : Nat) (gv2 : Nat) (gv3 : Nat → Nat) (gv4 : Nat → Nat) (gv5 : Nat → Int) (i10 : Int) (j12 : Int) :
    (Q21.k6g N L3 (Q21.k3g N L2 (Q21.k2 N K gv1 gv2 gv3 gv4 gv5))) (.exit 8) (Q21.sx6_0 table0 gv1 gv2 gv3 gv4 gv5 i10 j12) = (Q21.a6_0 N (fun d0 => K (.bool (d0)) [⟨false, .hdr 1 gv1 gv2 gv3 gv4 none⟩, ⟨false, .flat 0 (.ints .i64 gv5)⟩]) (fun inverse11 j12 => L3 (Q21.st3 table0 gv1 gv2 gv3 gv4 gv5 i10 inverse11 j12)) (fun ov16 => (Q21.k3g N L2 (Q21.k2 N K gv1 gv2 gv3 gv4 gv5)) (.exit 6) (Q21.sx3_0 table0 gv1 gv2 gv3 gv4 gv5 i10 ov16)) j12) := by
  have h := Q21.a6_0_gen N K L3 (Q21.k3g N L2 (Q21.k2 N K gv1 gv2 gv3 gv4 gv5)) table0 gv1 gv2 gv3 gv4 gv5 i10 j12
  rw [Q21.k3_mix] at h
  exact h
theorem Q21.b3_gen {ρ : Type} (N : Nat) (K : AV → Heap → Option ρ) (L3 : St → Option ρ) (kv : XE → St → Option ρ) (table0 : Nat) (gv1 : Nat) (gv2 : Nat) (gv3 : Nat → Nat) (gv4 : Nat → Nat) (gv5 : Nat → Int) (i10 : Int) (inverse11 : Bool) (j12 : Int) :
    xcode (E21 N) ents Q21.kp 2 N (cL (cK (cB (cA (cB (cK (cA (cB (cL (cK (cB (cA (cB (cB (cB (cB Q21.bd)))))))))))))))) 6 (Q21.st3 table0 gv1 gv2 gv3 gv4 gv5 i10 inverse11 j12) (roundK Q21.kp 2 6 L3 (mixK (Q21.fin N K gv1 gv2 gv3 gv4 gv5 .ret) kv)) = (Q21.b3 N (fun d0 => K (.bool (d0)) [⟨false, .hdr 1 gv1 gv2 gv3 gv4 none⟩, ⟨false, .flat 0 (.ints .i64 gv5)⟩]) (fun k13 => xloop (xcode (E21 N) ents Q21.kp 2 N (cL (cK (cB (cB (cK (cA (cB (cL (cK (cB (cA (cB (cK (cA (cB (cL (cK (cB (cA (cB (cB (cB (cB Q21.bd))))))))))))))))))))))) 8) Q21.kp 2 8 N (Q21.st4 table0 gv1 gv2 gv3 gv4 gv5 i10 j12 k13) (Q21.k4g N L3 (mixK (Q21.fin N K gv1 gv2 gv3 gv4 gv5 .ret) kv))) (fun k14 => xloop (xcode (E21 N) ents Q21.kp 2 N (cL (cK (cB (cB (cK (cA (cB (cL (cK (cB (cA (cB (cK (cA (cB (cL (cK (cB (cA (cB (cB (cB (cB Q21.bd))))))))))))))))))))))) 8) Q21.kp 2 8 N (Q21.st5 table0 gv1 gv2 gv3 gv4 gv5 i10 j12 k14) (Q21.k5g N L3 (mixK (Q21.fin N K gv1 gv2 gv3 gv4 gv5 .ret) kv))) (fun k15 => xloop (xcode (E21 N) ents Q21.kp 2 N (cL (cK (cB (cB (cK (cA (cB (cL (cK (cB (cA (cB (cK (cA (cB (cL (cK (cB (cA (cB (cB (cB (cB Q21.bd))))))))))))))))))))))) 8) Q21.kp 2 8 N (Q21.st6 table0 gv1 gv2 gv3 gv4 gv5 i10 j12 k15) (Q21.k6g N L3 (mixK (Q21.fin N K gv1 gv2 gv3 gv4 gv5 .ret) kv))) (fun inverse11 j12 => L3 (Q21.st3 table0 gv1 gv2 gv3 gv4 gv5 i10 inverse11 j12)) (fun ov16 => kv (.exit 6) (Q21.sx3_0 table0 gv1 gv2 gv3 gv4 gv5 i10 ov16)) table0 gv3 gv4 gv5 i10 inverse11 j12) := by kernel_rfl
theorem Q21.b3_eq {ρ : Type} (N : Nat) (K : AV → Heap → Option ρ) (L2 : St → Option ρ) (L3 : St → Option ρ) (table0 : Nat) (gv1 : Nat) (gv2 : Nat) (gv3 : Nat → Nat) (gv4 : Nat → Nat) (gv5 : Nat → Int) (i10 : Int) (inverse11 : Bool) (j12 : Int) :
    xcode (E21 N) ents Q21.kp 2 N (cL (cK (cB (cA (cB (cK (cA (cB (cL (cK (cB (cA (cB (cB (cB (cB Q21.bd)))))))))))))))) 6 (Q21.st3 table0 gv1 gv2 gv3 gv4 gv5 i10 inverse11 j12) (roundK Q21.kp 2 6 L3 (Q21.k3g N L2 (Q21.k2 N K gv1 gv2 gv3 gv4 gv5))) = (Q21.b3 N (fun d0 => K (.bool (d0)) [⟨false, .hdr 1 gv1 gv2 gv3 gv4 none⟩, ⟨false, .flat 0 (.ints .i64 gv5)⟩]) (fun k13 => xloop (xcode (E21 N) ents Q21.kp 2 N (cL (cK (cB (cB (cK (cA (cB (cL (cK (cB (cA (cB (cK (cA (cB (cL (cK (cB (cA (cB (cB (cB (cB Q21.bd))))))))))))))))))))))) 8) Q21.kp 2 8 N (Q21.st4 table0 gv1 gv2 gv3 gv4 gv5 i10 j12 k13) (Q21.k4g N L3 (Q21.k3g N L2 (Q21.k2 N K gv1 gv2 gv3 gv4 gv5)))) (fun k14 => xloop (xcode (E21 N) ents Q21.kp 2 N (cL (cK (cB (cB (cK (cA (cB (cL (cK (cB (cA (cB (cK (cA (cB (cL (cK (cB (cA (cB (cB (cB (cB Q21.bd))))))))))))))))))))))) 8) Q21.kp 2 8 N (Q21.st5 table0 gv1 gv2 gv3 gv4 gv5 i10 j12 k14) (Q21.k5g N L3 (Q21.k3g N L2 (Q21.k2 N K gv1 gv2 gv3 gv4 gv5)))) (fun k15 => xloop (xcode (E21 N) ents Q21.kp 2 N (cL (cK (cB (cB (cK (cA (cB (cL (cK (cB (cA (cB (cK (cA (cB (cL (cK (cB (cA (cB (cB (cB (cB Q21.bd))))))))))))))))))))))) 8) Q21.kp 2 8 N (Q21.st6 table0 gv1 gv2 gv3 gv4 gv5 i10 j12 k15) (Q21.k6g N L3 (Q21.k3g N L2 (Q21.k2 N K gv1 gv2 gv3 gv4 gv5)))) (fun inverse11 j12 => L3 (Q21.st3 table0 gv1 gv2 gv3 gv4 gv5 i10 inverse11 j12)) (fun ov16 => (Q21.k3g N L2 (Q21.k2 N K gv1 gv2 gv3 gv4 gv5)) (.exit 6) (Q21.sx3_0 table0 gv1 gv2 gv3 gv4 gv5 i10 ov16)) table0 gv3 gv4 gv5 i10 inverse11 j12) := by
  have h := Q21.b3_gen N K L3 (Q21.k3g N L2 (Q21.k2 N K gv1 gv2 gv3 gv4 gv5)) table0 gv1 gv2 gv3 gv4 gv5 i10 inverse11 j12
  rw [Q21.k3_mix] at h
  exact h
theorem Q21.a3_0_gen {ρ : Type} (N : Nat) (K : AV → Heap → Option ρ) (L2 : St → Option ρ) (kv : XE → St → Option ρ) (table0 : Nat) (gv1 : Nat) (gv2 : Nat) (gv3 : Nat → Nat) (gv4 : Nat → Nat) (gv5 : Nat → Int) (i10 : Int) (ov16 : Bool) :
    (Q21.k3g N L2 (mixK (Q21.fin N K gv1 gv2 gv3 gv4 gv5 .ret) kv)) (.exit 6) (Q21.sx3_0 table0 gv1 gv2 gv3 gv4 gv5 i10 ov16) = (Q21.a3_0 N (fun d0 => K (.bool (d0)) [⟨false, .hdr 1 gv1 gv2 gv3 gv4 none⟩, ⟨false, .flat 0 (.ints .i64 gv5)⟩]) (fun i10 => L2 (Q21.st2 table0 gv1 gv2 gv3 gv4 gv5 i10)) (kv (.exit 4) (Q21.sx2_0 gv1 gv2 gv3 gv4 gv5)) table0 gv3 gv4 gv5 i10 ov16) := by kernel_rfl
theorem Q21.a3_0_eq {ρ : Type} (N : Nat) (K : AV → Heap → Option ρ) (L2 : St → Option ρ) (table0 : Nat) (gv1 : Nat) (gv2 : Nat) (gv3 : Nat → Nat) (gv4 : Nat → Nat) (gv5 : Nat → Int) (i10 : Int) (ov16 : Bool) :
    (Q21.k3g N L2 (Q21.k2 N K gv1 gv2 gv3 gv4 gv5)) (.exit 6) (Q21.sx3_0 table0 gv1 gv2 gv3 gv4 gv5 i10 ov16) = (Q21.a3_0 N (fun d0 => K (.bool (d0)) [⟨false, .hdr 1 gv1 gv2 gv3 gv4 none⟩, ⟨false, .flat 0 (.ints .i64 gv5)⟩]) (fun i10 => L2 (Q21.st2 table0 gv1 gv2 gv3 gv4 gv5 i10)) ((Q21.k2 N K gv1 gv2 gv3 gv4 gv5) (.exit 4) (Q21.sx2_0 gv1 gv2 gv3 gv4 gv5)) table0 gv3 gv4 gv5 i10 ov16) := by
  have h := Q21.a3_0_gen N K L2 (Q21.k2 N K gv1 gv2 gv3 gv4 gv5) table0 gv1 gv2 gv3 gv4 gv5 i10 ov16
  rw [Q21.k2_mix] at h
  exact h
theorem Q21.b2_gen {ρ : Type} (N : Nat) (K : AV → Heap → Option ρ) (L2 : St → Option ρ) (kv : XE → St → Option ρ) (table0 : Nat) (gv1 : Nat) (gv2 : Nat) (gv3 : Nat → Nat) (gv4 : Nat → Nat) (gv5 : Nat → Int) (i10 : Int) :
    xcode (E21 N) ents Q21.kp 2 N (cL (cK (cB (cA (cB (cB (cB (cB Q21.bd)))))))) 4 (Q21.st2 table0 gv1 gv2 gv3 gv4 gv5 i10) (roundK Q21.kp 2 4 L2 (mixK (Q21.fin N K gv1 gv2 gv3 gv4 gv5 .ret) kv)) = (Q21.b2 N (fun d0 => K (.bool (d0)) [⟨false, .hdr 1 gv1 gv2 gv3 gv4 none⟩, ⟨false, .flat 0 (.ints .i64 gv5)⟩]) (fun inverse11 j12 => xloop (xcode (E21 N) ents Q21.kp 2 N (cL (cK (cB (cA (cB (cK (cA (cB (cL (cK (cB (cA (cB (cB (cB (cB Q21.bd)))))))))))))))) 6) Q21.kp 2 6 N (Q21.st3 table0 gv1 gv2 gv3 gv4 gv5 i10 inverse11 j12) (Q21.k3g N L2 (mixK (Q21.fin N K gv1 gv2 gv3 gv4 gv5 .ret) kv))) (fun i10 => L2 (Q21.st2 table0 gv1 gv2 gv3 gv4 gv5 i10)) (kv (.exit 4) (Q21.sx2_0 gv1 gv2 gv3 gv4 gv5)) table0 i10) := by kernel_rfl
theorem Q21.b2_eq {ρ : Type} (N : Nat) (K : AV → Heap → Option ρ) (L2 : St → Option ρ) (table0 : Nat) (gv1 : Nat) (gv2 : Nat) (gv3 : Nat → Nat) (gv4 : Nat → Nat) (gv5 : Nat → Int) (i10 : Int) :
    xcode (E21 N) ents Q21.kp 2 N (cL (cK (cB (cA (cB (cB (cB (cB Q21.bd)))))))) 4 (Q21.st2 table0 gv1 gv2 gv3 gv4 gv5 i10) (roundK Q21.kp 2 4 L2 (Q21.k2 N K gv1 gv2 gv3 gv4 gv5)) = (Q21.b2 N (fun d0 => K (.bool (d0)) [⟨false, .hdr 1 gv1 gv2 gv3 gv4 none⟩, ⟨false, .flat 0 (.ints .i64 gv5)⟩]) (fun inverse11 j12 => xloop (xcode (E21 N) ents Q21.kp 2 N (cL (cK (cB (cA (cB (cK (cA (cB (cL (cK (cB (cA (cB (cB (cB (cB Q21.bd)))))))))))))))) 6) Q21.kp 2 6 N (Q21.st3 table0 gv1 gv2 gv3 gv4 gv5 i10 inverse11 j12) (Q21.k3g N L2 (Q21.k2 N K gv1 gv2 gv3 gv4 gv5))) (fun i10 => L2 (Q21.st2 table0 gv1 gv2 gv3 gv4 gv5 i10)) ((Q21.k2 N K gv1 gv2 gv3 gv4 gv5) (.exit 4) (Q21.sx2_0 gv1 gv2 gv3 gv4 gv5)) table0 i10) := by
  have h := Q21.b2_gen N K L2 (Q21.k2 N K gv1 gv2 gv3 gv4 gv5) table0 gv1 gv2 gv3 gv4 gv5 i10
  rw [Q21.k2_mix] at h
  exact h
theorem Q21.a2_0_eq {ρ : Type} (N : Nat) (K : AV → Heap → Option ρ) (gv1 : Nat) (gv2 : Nat) (gv3 : Nat → Nat) (gv4 : Nat → Nat) (gv5 : Nat → Int) :
    (Q21.k2 N K gv1 gv2 gv3 gv4 gv5) (.exit 4) (Q21.sx2_0 gv1 gv2 gv3 gv4 gv5) = (Q21.a2_0 N (fun d0 => K (.bool (d0)) [⟨false, .hdr 1 gv1 gv2 gv3 gv4 none⟩, ⟨false, .flat 0 (.ints .i64 gv5)⟩])) := by kernel_rfl
theorem Q21.b0_gen {ρ : Type} (N : Nat) (K : AV → Heap → Option ρ) (L0 : St → Option ρ) (kv : XE → St → Option ρ) (table0 : Nat) (gv1 : Nat) (gv2 : Nat) (gv3 : Nat → Nat) (gv4 : Nat → Nat) (gv5 : Nat → Int) (i7 : Int) :
    xcode (E21 N) ents Q21.kp 2 N (cL (cK (cB (cA (cB (cB (cB Q21.bd))))))) 0 (Q21.st0 table0 gv1 gv2 gv3 gv4 gv5 i7) (roundK Q21.kp 2 0 L0 (mixK (Q21.fin N K gv1 gv2 gv3 gv4 gv5 .ret) kv)) = (Q21.b0 N (fun d0 => K (.bool (d0)) [⟨false, .hdr 1 gv1 gv2 gv3 gv4 none⟩, ⟨false, .flat 0 (.ints .i64 gv5)⟩]) (fun j8 => xloop (xcode (E21 N) ents Q21.kp 2 N (cL (cK (cB (cB (cK (cA (cB (cL (cK (cB (cA (cB (cB (cB Q21.bd)))))))))))))) 2) Q21.kp 2 2 N (Q21.st1 table0 gv1 gv2 gv3 gv4 gv5 i7 j8) (Q21.k1g N L0 (mixK (Q21.fin N K gv1 gv2 gv3 gv4 gv5 .ret) kv))) (fun i7 => L0 (Q21.st0 table0 gv1 gv2 gv3 gv4 gv5 i7)) (kv (.exit 0) (Q21.sx0_0 table0 gv1 gv2 gv3 gv4 gv5)) table0 gv4 i7) := by kernel_rfl
theorem Q21.b0_eq {ρ : Type} (N : Nat) (K : AV → Heap → Option ρ) (L0 : St → Option ρ) (table0 : Nat) (gv1 : Nat) (gv2 : Nat) (gv3 : Nat → Nat) (gv4 : Nat → Nat) (gv5 : Nat → Int) (i7 : Int) :
    xcode (E21 N) ents Q21.kp 2 N (cL (cK (cB (cA (cB (cB (cB Q21.bd))))))) 0 (Q21.st0 table0 gv1 gv2 gv3 gv4 gv5 i7) (roundK Q21.kp 2 0 L0 (Q21.k0 N K gv1 gv2 gv3 gv4 gv5)) = (Q21.b0 N (fun d0 => K (.bool (d0)) [⟨false, .hdr 1 gv1 gv2 gv3 gv4 none⟩, ⟨false, .flat 0 (.ints .i64 gv5)⟩]) (fun j8 => xloop (xcode (E21 N) ents Q21.kp 2 N (cL (cK (cB (cB (cK (cA (cB (cL (cK (cB (cA (cB (cB (cB Q21.bd)))))))))))))) 2) Q21.kp 2 2 N (Q21.st1 table0 gv1 gv2 gv3 gv4 gv5 i7 j8) (Q21.k1g N L0 (Q21.k0 N K gv1 gv2 gv3 gv4 gv5))) (fun i7 => L0 (Q21.st0 table0 gv1 gv2 gv3 gv4 gv5 i7)) ((Q21.k0 N K gv1 gv2 gv3 gv4 gv5) (.exit 0) (Q21.sx0_0 table0 gv1 gv2 gv3 gv4 gv5)) table0 gv4 i7) := by
  have h := Q21.b0_gen N K L0 (Q21.k0 N K gv1 gv2 gv3 gv4 gv5) table0 gv1 gv2 gv3 gv4 gv5 i7
  rw [Q21.k0_mix] at h
  exact h
theorem Q21.a0_0_eq {ρ : Type} (N : Nat) (K : AV → Heap → Option ρ) (table0 : Nat) (gv1 : Nat) (gv2 : Nat) (gv3 : Nat → Nat) (gv4 : Nat → Nat) (gv5 : Nat → Int) :
    (Q21.k0 N K gv1 gv2 gv3 gv4 gv5) (.exit 0) (Q21.sx0_0 table0 gv1 gv2 gv3 gv4 gv5) = (Q21.a0_0 N (fun d0 => K (.bool (d0)) [⟨false, .hdr 1 gv1 gv2 gv3 gv4 none⟩, ⟨false, .flat 0 (.ints .i64 gv5)⟩]) (fun i10 => xloop (xcode (E21 N) ents Q21.kp 2 N (cL (cK (cB (cA (cB (cB (cB (cB Q21.bd)))))))) 4) Q21.kp 2 4 N (Q21.st2 table0 gv1 gv2 gv3 gv4 gv5 i10) (Q21.k2 N K gv1 gv2 gv3 gv4 gv5))) := by kernel_rfl
theorem Q21.l1_eq {ρ : Type} (N : Nat) (K : AV → Heap → Option ρ) (L0 : St → Option ρ) (table0 : Nat) (gv1 : Nat) (gv2 : Nat) (gv3 : Nat → Nat) (gv4 : Nat → Nat) (gv5 : Nat → Int) (i7 : Int) :
    ∀ (m : Nat) (j8 : Int), xloop (xcode (E21 N) ents Q21.kp 2 N (cL (cK (cB (cB (cK (cA (cB (cL (cK (cB (cA (cB (cB (cB Q21.bd)))))))))))))) 2) Q21.kp 2 2 m (Q21.st1 table0 gv1 gv2 gv3 gv4 gv5 i7 j8) (Q21.k1g N L0 (Q21.k0 N K gv1 gv2 gv3 gv4 gv5)) = (Q21.l1 N (fun d0 => K (.bool (d0)) [⟨false, .hdr 1 gv1 gv2 gv3 gv4 none⟩, ⟨false, .flat 0 (.ints .i64 gv5)⟩]) table0 gv3 gv4 gv5 i7 ((Q21.k1g N L0 (Q21.k0 N K gv1 gv2 gv3 gv4 gv5)) (.exit 2) (Q21.sx1_0 table0 gv1 gv2 gv3 gv4 gv5 i7)) m j8) := by
  intro m
  induction m with
  | zero => intros; rfl
  | succ m ih =>
    intro j8
    refine (Q21.b1_eq N K L0 (fun s => xloop (xcode (E21 N) ents Q21.kp 2 N (cL (cK (cB (cB (cK (cA (cB (cL (cK (cB (cA (cB (cB (cB Q21.bd)))))))))))))) 2) Q21.kp 2 2 m s (Q21.k1g N L0 (Q21.k0 N K gv1 gv2 gv3 gv4 gv5))) table0 gv1 gv2 gv3 gv4 gv5 i7 j8).trans ?_
    simp only [ih]
    kernel_rfl
theorem Q21.l4_eq {ρ : Type} (N : Nat) (K : AV → Heap → Option ρ) (L2 : St → Option ρ) (L3 : St → Option ρ) (table0 : Nat) (gv1 : Nat) (gv2 : Nat) (gv3 : Nat → Nat) (gv4 : Nat → Nat) (gv5 : Nat → Int) (i10 : Int) (j12 : Int) :
    ∀ (m : Nat) (k13 : Int), xloop (xcode (E21 N) ents Q21.kp 2 N (cL (cK (cB (cB (cK (cA (cB (cL (cK (cB (cA (cB (cK (cA (cB (cL (cK (cB (cA (cB (cB (cB (cB Q21.bd))))))))))))))))))))))) 8) Q21.kp 2 8 m (Q21.st4 table0 gv1 gv2 gv3 gv4 gv5 i10 j12 k13) (Q21.k4g N L3 (Q21.k3g N L2 (Q21.k2 N K gv1 gv2 gv3 gv4 gv5))) = (Q21.l4 N (fun d0 => K (.bool (d0)) [⟨false, .hdr 1 gv1 gv2 gv3 gv4 none⟩, ⟨false, .flat 0 (.ints .i64 gv5)⟩]) table0 gv3 gv4 gv5 i10 j12 ((Q21.k4g N L3 (Q21.k3g N L2 (Q21.k2 N K gv1 gv2 gv3 gv4 gv5))) (.exit 8) (Q21.sx4_0 table0 gv1 gv2 gv3 gv4 gv5 i10 j12)) m k13) := by
  intro m
  induction m with
  | zero => intros; rfl
  | succ m ih =>
    intro k13
    refine (Q21.b4_eq N K L2 L3 (fun s => xloop (xcode (E21 N) ents Q21.kp 2 N (cL (cK (cB (cB (cK (cA (cB (cL (cK (cB (cA (cB (cK (cA (cB (cL (cK (cB (cA (cB (cB (cB (cB Q21.bd))))))))))))))))))))))) 8) Q21.kp 2 8 m s (Q21.k4g N L3 (Q21.k3g N L2 (Q21.k2 N K gv1 gv2 gv3 gv4 gv5)))) table0 gv1 gv2 gv3 gv4 gv5 i10 j12 k13).trans ?_
    simp only [ih]
    kernel_rfl
theorem Q21.l5_eq {ρ : Type} (N : Nat) (K : AV → Heap → Option ρ) (L2 : St → Option ρ) (L3 : St → Option ρ) (table0 : Nat) (gv1 : Nat) (gv2 : Nat) (gv3 : Nat → Nat) (gv4 : Nat → Nat) (gv5 : Nat → Int) (i10 : Int) (j12 : Int) :
    ∀ (m : Nat) (k14 : Int), xloop (xcode (E21 N) ents Q21.kp 2 N (cL (cK (cB (cB (cK (cA (cB (cL (cK (cB (cA (cB (cK (cA (cB (cL (cK (cB (cA (cB (cB (cB (cB Q21.bd))))))))))))))))))))))) 8) Q21.kp 2 8 m (Q21.st5 table0 gv1 gv2 gv3 gv4 gv5 i10 j12 k14) (Q21.k5g N L3 (Q21.k3g N L2 (Q21.k2 N K gv1 gv2 gv3 gv4 gv5))) = (Q21.l5 N (fun d0 => K (.bool (d0)) [⟨false, .hdr 1 gv1 gv2 gv3 gv4 none⟩, ⟨false, .flat 0 (.ints .i64 gv5)⟩]) table0 gv3 gv4 gv5 i10 j12 ((Q21.k5g N L3 (Q21.k3g N L2 (Q21.k2 N K gv1 gv2 gv3 gv4 gv5))) (.exit 8) (Q21.sx5_0 table0 gv1 gv2 gv3 gv4 gv5 i10 j12)) m k14) := by
  intro m
  induction m with
  | zero => intros; rfl
  | succ m ih =>
    intro k14
    refine (Q21.b5_eq N K L2 L3 (fun s => xloop (xcode (E21 N) ents Q21.kp 2 N (cL (cK (cB (cB (cK (cA (cB (cL (cK (cB (cA (cB (cK (cA (cB (cL (cK (cB (cA (cB (cB (cB (cB Q21.bd))))))))))))))))))))))) 8) Q21.kp 2 8 m s (Q21.k5g N L3 (Q21.k3g N L2 (Q21.k2 N K gv1 gv2 gv3 gv4 gv5)))) table0 gv1 gv2 gv3 gv4 gv5 i10 j12 k14).trans ?_
    simp only [ih]
    kernel_rfl
theorem Q21.l6_eq {ρ : Type} (N : Nat) (K : AV → Heap → Option ρ) (L2 : St → Option ρ) (L3 : St → Option ρ) (table0 : Nat) (gv1 : Nat) (gv2 : Nat) (gv3 : Nat → Nat) (gv4 : Nat → Nat) (gv5 : Nat → Int) (i10 : Int) (j12 : Int) :
    ∀ (m : Nat) (k15 : Int), xloop (xcode (E21 N) ents Q21.kp 2 N (cL (cK (cB (cB (cK (cA (cB (cL (cK (cB (cA (cB (cK (cA (cB (cL (cK (cB (cA (cB (cB (cB (cB Q21.bd))))))))))))))))))))))) 8) Q21.kp 2 8 m (Q21.st6 table0 gv1 gv2 gv3 gv4 gv5 i10 j12 k15) (Q21.k6g N L3 (Q21.k3g N L2 (Q21.k2 N K gv1 gv2 gv3 gv4 gv5))) = (Q21.l6 N (fun d0 => K (.bool (d0)) [⟨false, .hdr 1 gv1 gv2 gv3 gv4 none⟩, ⟨false, .flat 0 (.ints .i64 gv5)⟩]) table0 gv3 gv4 gv5 i10 j12 ((Q21.k6g N L3 (Q21.k3g N L2 (Q21.k2 N K gv1 gv2 gv3 gv4 gv5))) (.exit 8) (Q21.sx6_0 table0 gv1 gv2 gv3 gv4 gv5 i10 j12)) m k15) := by
  intro m
  induction m with
  | zero => intros; rfl
  | succ m ih =>
    intro k15
    refine (Q21.b6_eq N K L2 L3 (fun s => xloop (xcode (E21 N) ents Q21.kp 2 N (cL (cK (cB (cB (cK (cA (cB (cL (cK (cB (cA (cB (cK (cA (cB (cL (cK (cB (cA (cB (cB (cB (cB Q21.bd))))))))))))))))))))))) 8) Q21.kp 2 8 m s (Q21.k6g N L3 (Q21.k3g N L2 (Q21.k2 N K gv1 gv2 gv3 gv4 gv5)))) table0 gv1 gv2 gv3 gv4 gv5 i10 j12 k15).trans ?_
    simp only [ih]
    kernel_rfl
theorem Q21.l3_eq {ρ : Type} (N : Nat) (K : AV → Heap → Option ρ) (L2 : St → Option ρ) (table0 : Nat) (gv1 : Nat) (gv2 : Nat) (gv3 : Nat → Nat) (gv4 : Nat → Nat) (gv5 : Nat → Int) (i10 : Int) :
    ∀ (m : Nat) (inverse11 : Bool) (j12 : Int), xloop (xcode (E21 N) ents Q21.kp 2 N (cL (cK (cB (cA (cB (cK (cA (cB (cL (cK (cB (cA (cB (cB (cB (cB Q21.bd)))))))))))))))) 6) Q21.kp 2 6 m (Q21.st3 table0 gv1 gv2 gv3 gv4 gv5 i10 inverse11 j12) (Q21.k3g N L2 (Q21.k2 N K gv1 gv2 gv3 gv4 gv5)) = (Q21.l3 N (fun d0 => K (.bool (d0)) [⟨false, .hdr 1 gv1 gv2 gv3 gv4 none⟩, ⟨false, .flat 0 (.ints .i64 gv5)⟩]) table0 gv3 gv4 gv5 i10 (fun ov16 => (Q21.k3g N L2 (Q21.k2 N K gv1 gv2 gv3 gv4 gv5)) (.exit 6) (Q21.sx3_0 table0 gv1 gv2 gv3 gv4 gv5 i10 ov16)) m inverse11 j12) := by
  intro m
  induction m with
  | zero => intros; rfl
  | succ m ih =>
    intro inverse11 j12
    refine (Q21.b3_eq N K L2 (fun s => xloop (xcode (E21 N) ents Q21.kp 2 N (cL (cK (cB (cA (cB (cK (cA (cB (cL (cK (cB (cA (cB (cB (cB (cB Q21.bd)))))))))))))))) 6) Q21.kp 2 6 m s (Q21.k3g N L2 (Q21.k2 N K gv1 gv2 gv3 gv4 gv5))) table0 gv1 gv2 gv3 gv4 gv5 i10 inverse11 j12).trans ?_
    simp only [ih, Q21.l4_eq, Q21.a4_0_eq, Q21.l5_eq, Q21.a5_0_eq, Q21.l6_eq, Q21.a6_0_eq]
    kernel_rfl
theorem Q21.l2_eq {ρ : Type} (N : Nat) (K : AV → Heap → Option ρ) (table0 : Nat) (gv1 : Nat) (gv2 : Nat) (gv3 : Nat → Nat) (gv4 : Nat → Nat) (gv5 : Nat → Int) :
    ∀ (m : Nat) (i10 : Int), xloop (xcode (E21 N) ents Q21.kp 2 N (cL (cK (cB (cA (cB (cB (cB (cB Q21.bd)))))))) 4) Q21.kp 2 4 m (Q21.st2 table0 gv1 gv2 gv3 gv4 gv5 i10) (Q21.k2 N K gv1 gv2 gv3 gv4 gv5) = (Q21.l2 N (fun d0 => K (.bool (d0)) [⟨false, .hdr 1 gv1 gv2 gv3 gv4 none⟩, ⟨false, .flat 0 (.ints .i64 gv5)⟩]) table0 gv3 gv4 gv5 ((Q21.k2 N K gv1 gv2 gv3 gv4 gv5) (.exit 4) (Q21.sx2_0 gv1 gv2 gv3 gv4 gv5)) m i10) := by
  intro m
  induction m with
  | zero => intros; rfl
  | succ m ih =>
    intro i10
    refine (Q21.b2_eq N K (fun s => xloop (xcode (E21 N) ents Q21.kp 2 N (cL (cK (cB (cA (cB (cB (cB (cB Q21.bd)))))))) 4) Q21.kp 2 4 m s (Q21.k2 N K gv1 gv2 gv3 gv4 gv5)) table0 gv1 gv2 gv3 gv4 gv5 i10).trans ?_
    simp only [ih, Q21.l3_eq, Q21.a3_0_eq]
    kernel_rfl
theorem Q21.l0_eq {ρ : Type} (N : Nat) (K : AV → Heap → Option ρ) (table0 : Nat) (gv1 : Nat) (gv2 : Nat) (gv3 : Nat → Nat) (gv4 : Nat → Nat) (gv5 : Nat → Int) :
    ∀ (m : Nat) (i7 : Int), xloop (xcode (E21 N) ents Q21.kp 2 N (cL (cK (cB (cA (cB (cB (cB Q21.bd))))))) 0) Q21.kp 2 0 m (Q21.st0 table0 gv1 gv2 gv3 gv4 gv5 i7) (Q21.k0 N K gv1 gv2 gv3 gv4 gv5) = (Q21.l0 N (fun d0 => K (.bool (d0)) [⟨false, .hdr 1 gv1 gv2 gv3 gv4 none⟩, ⟨false, .flat 0 (.ints .i64 gv5)⟩]) table0 gv3 gv4 gv5 ((Q21.k0 N K gv1 gv2 gv3 gv4 gv5) (.exit 0) (Q21.sx0_0 table0 gv1 gv2 gv3 gv4 gv5)) m i7) := by
  intro m
  induction m with
  | zero => intros; rfl
  | succ m ih =>
    intro i7
    refine (Q21.b0_eq N K (fun s => xloop (xcode (E21 N) ents Q21.kp 2 N (cL (cK (cB (cA (cB (cB (cB Q21.bd))))))) 0) Q21.kp 2 0 m s (Q21.k0 N K gv1 gv2 gv3 gv4 gv5)) table0 gv1 gv2 gv3 gv4 gv5 i7).trans ?_
    simp only [ih, Q21.l1_eq, Q21.a1_0_eq]
    kernel_rfl
theorem Q21.s_eq {ρ : Type} (N : Nat) (K : AV → Heap → Option ρ) (table0 : Nat) (gv1 : Nat) (gv2 : Nat) (gv3 : Nat → Nat) (gv4 : Nat → Nat) (gv5 : Nat → Int) :
    xbody (E21 N) ents Q21.kp N Try.f55 Q21.bd [.slice false 0 0 table0 .unk 1] [⟨false, .hdr 1 gv1 gv2 gv3 gv4 none⟩, ⟨false, .flat 0 (.ints .i64 gv5)⟩] K = (Q21.s N (fun d0 => K (.bool (d0)) [⟨false, .hdr 1 gv1 gv2 gv3 gv4 none⟩, ⟨false, .flat 0 (.ints .i64 gv5)⟩]) (fun i7 => xloop (xcode (E21 N) ents Q21.kp 2 N (cL (cK (cB (cA (cB (cB (cB Q21.bd))))))) 0) Q21.kp 2 0 N (Q21.st0 table0 gv1 gv2 gv3 gv4 gv5 i7) (Q21.k0 N K gv1 gv2 gv3 gv4 gv5)) table0) := by kernel_rfl
theorem Q21.eq {ρ : Type} (N : Nat) (K : AV → Heap → Option ρ) (table0 : Nat) (gv1 : Nat) (gv2 : Nat) (gv3 : Nat → Nat) (gv4 : Nat → Nat) (gv5 : Nat → Int) :
    xbody (E21 N) ents Q21.kp N Try.f55 Q21.bd [.slice false 0 0 table0 .unk 1] [⟨false, .hdr 1 gv1 gv2 gv3 gv4 none⟩, ⟨false, .flat 0 (.ints .i64 gv5)⟩] K = (Q21 N (fun d0 => K (.bool (d0)) [⟨false, .hdr 1 gv1 gv2 gv3 gv4 none⟩, ⟨false, .flat 0 (.ints .i64 gv5)⟩]) table0 gv1 gv2 gv3 gv4 gv5) := by
  refine (Q21.s_eq N K table0 gv1 gv2 gv3 gv4 gv5).trans ?_
  simp only [Q21.l0_eq, Q21.a0_0_eq, Q21.l2_eq, Q21.a2_0_eq]
  kernel_rfl
def Q21.en (N : Nat) (ρ : Type) : List AV → Heap → (AV → Heap → Option ρ) → Option ρ
  | [.slice false 0 0 table0 .unk 1], [⟨false, .hdr 1 gv1 gv2 gv3 gv4 none⟩, ⟨false, .flat 0 (.ints .i64 gv5)⟩], K => (Q21 N (fun d0 => K (.bool (d0)) [⟨false, .hdr 1 gv1 gv2 gv3 gv4 none⟩, ⟨false, .flat 0 (.ints .i64 gv5)⟩]) table0 gv1 gv2 gv3 gv4 gv5)
  | _, _, _ => none
theorem Q21.en_ok (N : Nat) (hE : EnvOk (E21 N) ents) (ρ : Type) (args : List AV) (sh : Heap) (K : AV → Heap → Option ρ) (r : ρ) (h : Q21.en N ρ args sh K = some r) : ∃ v sh', K v sh' = some r ∧ FnOk (E21 N).P 55 args sh v sh' := by
  unfold Q21.en at h
  split at h
  · exact fn_ok hE (kp := Q21.kp) (N := N) Try.func55 (c := Q21.bd) (by kernel_rfl) ((Q21.eq N _ _ _ _ _ _ _).trans h)
  · cases h
def E22 (N : Nat) : Env := (E21 N).add 55 (Q21.en N)
theorem E22_ok (N : Nat) : EnvOk (E22 N) ents := Env.add_ok (E21_ok N) (Q21.en_ok N (E21_ok N))
def Q22.kp : Keeps := ⟨[], [], []⟩
def Q22.bd : Code := bodyOf Try.f32
def Q22.fin {ρ : Type} (N : Nat) (K : AV → Heap → Option ρ) (gv2 : Nat) (gv3 : Nat) (gv4 : Nat → Nat) (gv5 : Nat → Nat) (gv6 : Nat → Int) : XE → St → Option ρ := finK (E22 N) Q22.kp.fins Try.f32 [⟨false, .hdr 1 gv2 gv3 gv4 gv5 none⟩, ⟨false, .flat 0 (.ints .i64 gv6)⟩] K
theorem Q22.eq {ρ : Type} (N : Nat) (K : AV → Heap → Option ρ) (p0 : Int) (table1 : Nat) (gv2 : Nat) (gv3 : Nat) (gv4 : Nat → Nat) (gv5 : Nat → Nat) (gv6 : Nat → Int) :
    xbody (E22 N) ents Q22.kp N Try.f32 Q22.bd [.int .i64 (p0), .slice false 0 0 table1 .unk 1] [⟨false, .hdr 1 gv2 gv3 gv4 gv5 none⟩, ⟨false, .flat 0 (.ints .i64 gv6)⟩] K = (Q22 N (fun d0 => K (.int .i64 (d0)) [⟨false, .hdr 1 gv2 gv3 gv4 gv5 none⟩, ⟨false, .flat 0 (.ints .i64 gv6)⟩]) p0 table1 gv2 gv3 gv4 gv5 gv6) := by kernel_rfl
def Q22.en (N : Nat) (ρ : Type) : List AV → Heap → (AV → Heap → Option ρ) → Option ρ
  | [.int .i64 (p0), .slice false 0 0 table1 .unk 1], [⟨false, .hdr 1 gv2 gv3 gv4 gv5 none⟩, ⟨false, .flat 0 (.ints .i64 gv6)⟩], K => (Q22 N (fun d0 => K (.int .i64 (d0)) [⟨false, .hdr 1 gv2 gv3 gv4 gv5 none⟩, ⟨false, .flat 0 (.ints .i64 gv6)⟩]) p0 table1 gv2 gv3 gv4 gv5 gv6)
  | _, _, _ => none
theorem Q22.en_ok (N : Nat) (hE : EnvOk (E22 N) ents) (ρ : Type) (args : List AV) (sh : Heap) (K : AV → Heap → Option ρ) (r : ρ) (h : Q22.en N ρ args sh K = some r) : ∃ v sh', K v sh' = some r ∧ FnOk (E22 N).P 32 args sh v sh' := by
  unfold Q22.en at h
  split at h
  · exact fn_ok hE (kp := Q22.kp) (N := N) Try.func32 (c := Q22.bd) (by kernel_rfl) ((Q22.eq N _ _ _ _ _ _ _ _).trans h)
  · cases h
def E23 (N : Nat) : Env := (E22 N).add 32 (Q22.en N)
theorem E23_ok (N : Nat) : EnvOk (E23 N) ents := Env.add_ok (E22_ok N) (Q22.en_ok N (E22_ok N))
def Q23.kp : Keeps := ⟨[(0, [1, 4, 5, 6, 7], [], []), (2, [1, 4, 5, 6, 7, 8], [], [])], [(0, [4, 6], [], []), (2, [1, 4, 5, 6, 7], [], [])], []⟩
def Q23.bd : Code := bodyOf Try.f33
def Q23.fin {ρ : Type} (N : Nat) (K : AV → Heap → Option ρ) (gv2 : Nat) (gv3 : Nat) (gv4 : Nat → Nat) (gv5 : Nat → Nat) (gv6 : Nat → Int) : XE → St → Option ρ := finK (E23 N) Q23.kp.fins Try.f33 [⟨false, .hdr 1 gv2 gv3 gv4 gv5 none⟩, ⟨false, .flat 0 (.ints .i64 gv6)⟩] K
def Q23.k0 {ρ : Type} (N : Nat) (K : AV → Heap → Option ρ) (gv2 : Nat) (gv3 : Nat) (gv4 : Nat → Nat) (gv5 : Nat → Nat) (gv6 : Nat → Int) : XE → St → Option ρ := (blockK Q23.kp 2 0 (seqK (xcode (E23 N) ents Q23.kp 2 N (cB (cB (cB (cB (cB Q23.bd))))) 0) (Q23.fin N K gv2 gv3 gv4 gv5 gv6)))
theorem Q23.k0_mix {ρ : Type} (N : Nat) (K : AV → Heap → Option ρ) (gv2 : Nat) (gv3 : Nat) (gv4 : Nat → Nat) (gv5 : Nat → Nat) (gv6 : Nat → Int) : mixK (Q23.fin N K gv2 gv3 gv4 gv5 gv6 .ret) (Q23.k0 N K gv2 gv3 gv4 gv5 gv6) = (Q23.k0 N K gv2 gv3 gv4 gv5 gv6) := by
  funext e s; cases e <;> kernel_rfl
def Q23.st0 (p0 : Int) (table1 : Nat) (gv2 : Nat) (gv3 : Nat) (gv4 : Nat → Nat) (gv5 : Nat → Nat) (gv6 : Nat → Int) (i7 : Int) (gv8 : Nat → Int) : St := ⟨sl 63 [(1, .slice false 0 0 table1 .unk 1), (4, .sptr [(2, 2), (3, 1104)]), (5, .int .i64 ((table1 : Int))), (6, .sptr [(4, 2), (5, 1104)]), (7, .int .i64 (i7))], [⟨false, .hdr 1 gv2 gv3 gv4 gv5 none⟩, ⟨false, .flat 0 (.ints .i64 gv6)⟩, ⟨true, .flat 2 (.ints .i64 (fun _ => 0))⟩, ⟨true, .flat 1104 (.ints .u8 (fun _ => 0))⟩, ⟨true, .flat 2 (.ints .i64 (upd (upd (fun _ => 0) 0 p0) 1 (table1 : Int)))⟩, ⟨true, .flat 1104 (.ints .u8 gv8)⟩]⟩
def Q23.sx0_0 (p0 : Int) (table1 : Nat) (gv2 : Nat) (gv3 : Nat) (gv4 : Nat → Nat) (gv5 : Nat → Nat) (gv6 : Nat → Int) (ov12 : Nat → Int) : St := ⟨sl 63 [(4, .sptr [(2, 2), (3, 1104)]), (6, .sptr [(4, 2), (5, 1104)])], [⟨false, .hdr 1 gv2 gv3 gv4 gv5 none⟩, ⟨false, .flat 0 (.ints .i64 gv6)⟩, ⟨true, .flat 2 (.ints .i64 (fun _ => 0))⟩, ⟨true, .flat 1104 (.ints .u8 (fun _ => 0))⟩, ⟨true, .flat 2 (.ints .i64 (upd (upd (fun _ => 0) 0 p0) 1 (table1 : Int)))⟩, ⟨true, .flat 1104 (.ints .u8 ov12)⟩]⟩
def Q23.k1g {ρ : Type} (N : Nat) (L0 : St → Option ρ) (kv : XE → St → Option ρ) : XE → St → Option ρ := (blockK Q23.kp 2 2 (blockK Q23.kp 2 1 (seqK (xcode (E23 N) ents Q23.kp 2 N (cB (cB (cL (cK (cB (cA (cB (cB (cB (cB Q23.bd)))))))))) 0) (roundK Q23.kp 2 0 L0 kv))))
theorem Q23.k1_mix {ρ : Type} (N : Nat) (K : AV → Heap → Option ρ) (L0 : St → Option ρ) (gv2 : Nat) (gv3 : Nat) (gv4 : Nat → Nat) (gv5 : Nat → Nat) (gv6 : Nat → Int) : mixK (Q23.fin N K gv2 gv3 gv4 gv5 gv6 .ret) (Q23.k1g N L0 (Q23.k0 N K gv2 gv3 gv4 gv5 gv6)) = (Q23.k1g N L0 (Q23.k0 N K gv2 gv3 gv4 gv5 gv6)) := by
  funext e s; cases e <;> kernel_rfl
def Q23.st1 (p0 : Int) (table1 : Nat) (gv2 : Nat) (gv3 : Nat) (gv4 : Nat → Nat) (gv5 : Nat → Nat) (gv6 : Nat → Int) (i7 : Int) (j9 : Int) (gv10 : Nat → Int) : St := ⟨sl 63 [(1, .slice false 0 0 table1 .unk 1), (4, .sptr [(2, 2), (3, 1104)]), (5, .int .i64 ((table1 : Int))), (6, .sptr [(4, 2), (5, 1104)]), (7, .int .i64 (i7)), (8, .int .i64 (j9))], [⟨false, .hdr 1 gv2 gv3 gv4 gv5 none⟩, ⟨false, .flat 0 (.ints .i64 gv6)⟩, ⟨true, .flat 2 (.ints .i64 (fun _ => 0))⟩, ⟨true, .flat 1104 (.ints .u8 (fun _ => 0))⟩, ⟨true, .flat 2 (.ints .i64 (upd (upd (fun _ => 0) 0 p0) 1 (table1 : Int)))⟩, ⟨true, .flat 1104 (.ints .u8 gv10)⟩]⟩
def Q23.sx1_0 (p0 : Int) (table1 : Nat) (gv2 : Nat) (gv3 : Nat) (gv4 : Nat → Nat) (gv5 : Nat → Nat) (gv6 : Nat → Int) (i7 : Int) (ov11 : Nat → Int) : St := ⟨sl 63 [(1, .slice false 0 0 table1 .unk 1), (4, .sptr [(2, 2), (3, 1104)]), (5, .int .i64 ((table1 : Int))), (6, .sptr [(4, 2), (5, 1104)]), (7, .int .i64 (i7))], [⟨false, .hdr 1 gv2 gv3 gv4 gv5 none⟩, ⟨false, .flat 0 (.ints .i64 gv6)⟩, ⟨true, .flat 2 (.ints .i64 (fun _ => 0))⟩, ⟨true, .flat 1104 (.ints .u8 (fun _ => 0))⟩, ⟨true, .flat 2 (.ints .i64 (upd (upd (fun _ => 0) 0 p0) 1 (table1 : Int)))⟩, ⟨true, .flat 1104 (.ints .u8 ov11)⟩]⟩
theorem Q23.b1_gen {ρ : Type} (N : Nat) (K : AV → Heap → Option ρ) (L1 : St → Option ρ) (kv : XE → St → Option ρ) (p0 : Int) (table1 : Nat) (gv2 : Nat) (gv3 : Nat) (gv4 : Nat → Nat) (gv5 : Nat → Nat) (gv6 : Nat → Int) (i7 : Int) (j9 : Int) (gv10 : Nat → Int) :
    xcode (E23 N) ents Q23.kp 2 N (cL (cK (cB (cB (cB (cK (cA (cB (cL (cK (cB (cA (cB (cB (cB (cB Q23.bd)))))))))))))))) 2 (Q23.st1 p0 table1 gv2 gv3 gv4 gv5 gv6 i7 j9 gv10) (roundK Q23.kp 2 2 L1 (mixK (Q23.fin N K gv2 gv3 gv4 gv5 gv6 .ret) kv)) = (Q23.b1 N (fun d0 d1 => K (.agg [⟨.i64, 2, d0⟩, ⟨.u8, 1104, d1⟩]) [⟨false, .hdr 1 gv2 gv3 gv4 gv5 none⟩, ⟨false, .flat 0 (.ints .i64 gv6)⟩]) (fun j9 gv10 => L1 (Q23.st1 p0 table1 gv2 gv3 gv4 gv5 gv6 i7 j9 gv10)) (fun ov11 => kv (.exit 2) (Q23.sx1_0 p0 table1 gv2 gv3 gv4 gv5 gv6 i7 ov11)) table1 gv4 gv5 gv6 i7 j9 gv10) := by kernel_rfl
theorem Q23.b1_eq {ρ : Type} (N : Nat) (K : AV → Heap → Option ρ) (L0 : St → Option ρ) (L1 : St → Option ρ) (p0 : Int) (table1 : Nat) (gv2 : Nat) (gv3 : Nat) (gv4 : Nat → Nat) (gv5 : Nat → Nat) (gv6 : Nat → Int) (i7 : Int) (j9 : Int) (gv10 : Nat → Int) :
    xcode (E23 N) ents Q23.kp 2 N (cL (cK (cB (cB (cB (cK (cA (cB (cL (cK (cB (cA (cB (cB (cB (cB Q23.bd)))))))))))))))) 2 (Q23.st1 p0 table1 gv2 gv3 gv4 gv5 gv6 i7 j9 gv10) (roundK Q23.kp 2 2 L1 (Q23.k1g N L0 (Q23.k0 N K gv2 gv3 gv4 gv5 gv6))) = (Q23.b1 N (fun d0 d1 => K (.agg [⟨.i64, 2, d0⟩, ⟨.u8, 1104, d1⟩]) [⟨false, .hdr 1 gv2 gv3 gv4 gv5 none⟩, ⟨false, .flat 0 (.ints .i64 gv6)⟩]) (fun j9 gv10 => L1 (Q23.st1 p0 table1 gv2 gv3 gv4 gv5 gv6 i7 j9 gv10)) (fun ov11 => (Q23.k1g N L0 (Q23.k0 N K gv2 gv3 gv4 gv5 gv6)) (.exit 2) (Q23.sx1_0 p0 table1 gv2 gv3 gv4 gv5 gv6 i7 ov11)) table1 gv4 gv5 gv6 i7 j9 gv10) := by
  have h := Q23.b1_gen N K L1 (Q23.k1g N L0 (Q23.k0 N K gv2 gv3 gv4 gv5 gv6)) p0 table1 gv2 gv3 gv4 gv5 gv6 i7 j9 gv10
  rw [Q23.k1_mix] at h
  exact h
theorem Q23.a1_0_gen {ρ : Type} (N : Nat) (K : AV → Heap → Option ρ) (L0 : St → Option ρ) (kv : XE → St → Option ρ) (p0 : Int) (table1 : Nat) (gv2 : Nat) (gv3 : Nat) (gv4 : Nat → Nat) (gv5 : Nat → Nat) (gv6 : Nat → Int) (i7 : Int) (ov11 : Nat → Int) :
    (Q23.k1g N L0 (mixK (Q23.fin N K gv2 gv3 gv4 gv5 gv6 .ret) kv)) (.exit 2) (Q23.sx1_0 p0 table1 gv2 gv3 gv4 gv5 gv6 i7 ov11) = (Q23.a1_0 N (fun d0 d1 => K (.agg [⟨.i64, 2, d0⟩, ⟨.u8, 1104, d1⟩]) [⟨false, .hdr 1 gv2 gv3 gv4 gv5 none⟩, ⟨false, .flat 0 (.ints .i64 gv6)⟩]) (fun i7 gv8 => L0 (Q23.st0 p0 table1 gv2 gv3 gv4 gv5 gv6 i7 gv8)) (fun ov12 => kv (.exit 0) (Q23.sx0_0 p0 table1 gv2 gv3 gv4 gv5 gv6 ov12)) i7 ov11) := by kernel_rfl
theorem Q23.a1_0_eq {ρ : Type} (N : Nat) (K : AV → Heap → Option ρ) (L0 : St → Option ρ) (p0 : Int) (table1 : Nat) (gv2 : Nat) (gv3 : Nat) (gv4 : Nat → Nat) (gv5 : Nat → Nat) (gv6 : Nat → Int) (i7 : Int) (ov11 : Nat → Int) :
    (Q23.k1g N L0 (Q23.k0 N K gv2 gv3 gv4 gv5 gv6)) (.exit 2) (Q23.sx1_0 p0 table1 gv2 gv3 gv4 gv5 gv6 i7 ov11) = (Q23.a1_0 N (fun d0 d1 => K (.agg [⟨.i64, 2, d0⟩, ⟨.u8, 1104, d1⟩]) [⟨false, .hdr 1 gv2 gv3 gv4 gv5 none⟩, ⟨false, .flat 0 (.ints .i64 gv6)⟩]) (fun i7 gv8 => L0 (Q23.st0 p0 table1 gv2 gv3 gv4 gv5 gv6 i7 gv8)) (fun ov12 => (Q23.k0 N K gv2 gv3 gv4 gv5 gv6) (.exit 0) (Q23.sx0_0 p0 table1 gv2 gv3 gv4 gv5 gv6 ov12)) i7 ov11) := by
  have h := Q23.a1_0_gen N K L0 (Q23.k0 N K gv2 gv3 gv4 gv5 gv6) p0 table1 gv2 gv3 gv4 gv5 gv6 i7 ov11
  rw [Q23.k0_mix] at h
  exact h
theorem Q23.b0_gen {ρ : Type} (N : Nat) (K : AV → Heap → Option ρ) (L0 : St → Option ρ) (kv : XE → St → Option ρ) (p0 : Int) (table1 : Nat) (gv2 : Nat) (gv3 : Nat) (gv4 : Nat → Nat) (gv5 : Nat → Nat) (gv6 : Nat → Int) (i7 : Int) (gv8 : Nat → Int) :
    xcode (E23 N) ents Q23.kp 2 N (cL (cK (cB (cA (cB (cB (cB (cB Q23.bd)))))))) 0 (Q23.st0 p0 table1 gv2 gv3 gv4 gv5 gv6 i7 gv8) (roundK Q23.kp 2 0 L0 (mixK (Q23.fin N K gv2 gv3 gv4 gv5 gv6 .ret) kv)) = (Q23.b0 N (fun d0 d1 => K (.agg [⟨.i64, 2, d0⟩, ⟨.u8, 1104, d1⟩]) [⟨false, .hdr 1 gv2 gv3 gv4 gv5 none⟩, ⟨false, .flat 0 (.ints .i64 gv6)⟩]) (fun j9 gv10 => xloop (xcode (E23 N) ents Q23.kp 2 N (cL (cK (cB (cB (cB (cK (cA (cB (cL (cK (cB (cA (cB (cB (cB (cB Q23.bd)))))))))))))))) 2) Q23.kp 2 2 N (Q23.st1 p0 table1 gv2 gv3 gv4 gv5 gv6 i7 j9 gv10) (Q23.k1g N L0 (mixK (Q23.fin N K gv2 gv3 gv4 gv5 gv6 .ret) kv))) (fun i7 gv8 => L0 (Q23.st0 p0 table1 gv2 gv3 gv4 gv5 gv6 i7 gv8)) (fun ov12 => kv (.exit 0) (Q23.sx0_0 p0 table1 gv2 gv3 gv4 gv5 gv6 ov12)) table1 i7 gv8) := by kernel_rfl
theorem Q23.b0_eq {ρ : Type} (N : Nat) (K : AV → Heap → Option ρ) (L0 : St → Option ρ) (p0 : Int) (table1 : Nat) (gv2 : Nat) (gv3 : Nat) (gv4 : Nat → Nat) (gv5 : Nat → Nat) (gv6 : Nat → Int) (i7 : Int) (gv8 : Nat → Int) :
    xcode (E23 N) ents Q23.kp 2 N (cL (cK (cB (cA (cB (cB (cB (cB Q23.bd)))))))) 0 (Q23.st0 p0 table1 gv2 gv3 gv4 gv5 gv6 i7 gv8) (roundK Q23.kp 2 0 L0 (Q23.k0 N K gv2 gv3 gv4 gv5 gv6)) = (Q23.b0 N (fun d0 d1 => K (.agg [⟨.i64, 2, d0⟩, ⟨.u8, 1104, d1⟩]) [⟨false, .hdr 1 gv2 gv3 gv4 gv5 none⟩, ⟨false, .flat 0 (.ints .i64 gv6)⟩]) (fun j9 gv10 => xloop (xcode (E23 N) ents Q23.kp 2 N (cL (cK (cB (cB (cB (cK (cA (cB (cL (cK (cB (cA (cB (cB (cB (cB Q23.bd)))))))))))))))) 2) Q23.kp 2 2 N (Q23.st1 p0 table1 gv2 gv3 gv4 gv5 gv6 i7 j9 gv10) (Q23.k1g N L0 (Q23.k0 N K gv2 gv3 gv4 gv5 gv6))) (fun i7 gv8 => L0 (Q23.st0 p0 table1 gv2 gv3 gv4 gv5 gv6 i7 gv8)) (fun ov12 => (Q23.k0 N K gv2 gv3 gv4 gv5 gv6) (.exit 0) (Q23.sx0_0 p0 table1 gv2 gv3 gv4 gv5 gv6 ov12)) table1 i7 gv8) := by
  have h := Q23.b0_gen N K L0 (Q23.k0 N K gv2 gv3 gv4 gv5 gv6) p0 table1 gv2 gv3 gv4 gv5 gv6 i7 gv8
  rw [Q23.k0_mix] at h
  exact h
theorem Q23.a0_0_eq {ρ : Type} (N : Nat) (K : AV → Heap → Option ρ) (p0 : Int) (table1 : Nat) (gv2 : Nat) (gv3 : Nat) (gv4 : Nat → Nat) (gv5 : Nat → Nat) (gv6 : Nat → Int) (ov12 : Nat → Int) :
    (Q23.k0 N K gv2 gv3 gv4 gv5 gv6) (.exit 0) (Q23.sx0_0 p0 table1 gv2 gv3 gv4 gv5 gv6 ov12) = (Q23.a0_0 N (fun d0 d1 => K (.agg [⟨.i64, 2, d0⟩, ⟨.u8, 1104, d1⟩]) [⟨false, .hdr 1 gv2 gv3 gv4 gv5 none⟩, ⟨false, .flat 0 (.ints .i64 gv6)⟩]) p0 table1 ov12) := by kernel_rfl
theorem Q23.l1_eq {ρ : Type} (N : Nat) (K : AV → Heap → Option ρ) (L0 : St → Option ρ) (p0 : Int) (table1 : Nat) (gv2 : Nat) (gv3 : Nat) (gv4 : Nat → Nat) (gv5 : Nat → Nat) (gv6 : Nat → Int) (i7 : Int) :
    ∀ (m : Nat) (j9 : Int) (gv10 : Nat → Int), xloop (xcode (E23 N) ents Q23.kp 2 N (cL (cK (cB (cB (cB (cK (cA (cB (cL (cK (cB (cA (cB (cB (cB (cB Q23.bd)))))))))))))))) 2) Q23.kp 2 2 m (Q23.st1 p0 table1 gv2 gv3 gv4 gv5 gv6 i7 j9 gv10) (Q23.k1g N L0 (Q23.k0 N K gv2 gv3 gv4 gv5 gv6)) = (Q23.l1 N (fun d0 d1 => K (.agg [⟨.i64, 2, d0⟩, ⟨.u8, 1104, d1⟩]) [⟨false, .hdr 1 gv2 gv3 gv4 gv5 none⟩, ⟨false, .flat 0 (.ints .i64 gv6)⟩]) table1 gv4 gv5 gv6 i7 (fun ov11 => (Q23.k1g N L0 (Q23.k0 N K gv2 gv3 gv4 gv5 gv6)) (.exit 2) (Q23.sx1_0 p0 table1 gv2 gv3 gv4 gv5 gv6 i7 ov11)) m j9 gv10) := by
  intro m
  induction m with
  | zero => intros; rfl
  | succ m ih =>
    intro j9 gv10
    refine (Q23.b1_eq N K L0 (fun s => xloop (xcode (E23 N) ents Q23.kp 2 N (cL (cK (cB (cB (cB (cK (cA (cB (cL (cK (cB (cA (cB (cB (cB (cB Q23.bd)))))))))))))))) 2) Q23.kp 2 2 m s (Q23.k1g N L0 (Q23.k0 N K gv2 gv3 gv4 gv5 gv6))) p0 table1 gv2 gv3 gv4 gv5 gv6 i7 j9 gv10).trans ?_
    simp only [ih]
    kernel_rfl
theorem Q23.l0_eq {ρ : Type} (N : Nat) (K : AV → Heap → Option ρ) (p0 : Int) (table1 : Nat) (gv2 : Nat) (gv3 : Nat) (gv4 : Nat → Nat) (gv5 : Nat → Nat) (gv6 : Nat → Int) :
    ∀ (m : Nat) (i7 : Int) (gv8 : Nat → Int), xloop (xcode (E23 N) ents Q23.kp 2 N (cL (cK (cB (cA (cB (cB (cB (cB Q23.bd)))))))) 0) Q23.kp 2 0 m (Q23.st0 p0 table1 gv2 gv3 gv4 gv5 gv6 i7 gv8) (Q23.k0 N K gv2 gv3 gv4 gv5 gv6) = (Q23.l0 N (fun d0 d1 => K (.agg [⟨.i64, 2, d0⟩, ⟨.u8, 1104, d1⟩]) [⟨false, .hdr 1 gv2 gv3 gv4 gv5 none⟩, ⟨false, .flat 0 (.ints .i64 gv6)⟩]) table1 gv4 gv5 gv6 (fun ov12 => (Q23.k0 N K gv2 gv3 gv4 gv5 gv6) (.exit 0) (Q23.sx0_0 p0 table1 gv2 gv3 gv4 gv5 gv6 ov12)) m i7 gv8) := by
  intro m
  induction m with
  | zero => intros; rfl
  | succ m ih =>
    intro i7 gv8
    refine (Q23.b0_eq N K (fun s => xloop (xcode (E23 N) ents Q23.kp 2 N (cL (cK (cB (cA (cB (cB (cB (cB Q23.bd)))))))) 0) Q23.kp 2 0 m s (Q23.k0 N K gv2 gv3 gv4 gv5 gv6)) p0 table1 gv2 gv3 gv4 gv5 gv6 i7 gv8).trans ?_
    simp only [ih, Q23.l1_eq, Q23.a1_0_eq]
    kernel_rfl
theorem Q23.s_eq {ρ : Type} (N : Nat) (K : AV → Heap → Option ρ) (p0 : Int) (table1 : Nat) (gv2 : Nat) (gv3 : Nat) (gv4 : Nat → Nat) (gv5 : Nat → Nat) (gv6 : Nat → Int) :
    xbody (E23 N) ents Q23.kp N Try.f33 Q23.bd [.int .i64 (p0), .slice false 0 0 table1 .unk 1] [⟨false, .hdr 1 gv2 gv3 gv4 gv5 none⟩, ⟨false, .flat 0 (.ints .i64 gv6)⟩] K = (Q23.s N (fun d0 d1 => K (.agg [⟨.i64, 2, d0⟩, ⟨.u8, 1104, d1⟩]) [⟨false, .hdr 1 gv2 gv3 gv4 gv5 none⟩, ⟨false, .flat 0 (.ints .i64 gv6)⟩]) (fun i7 gv8 => xloop (xcode (E23 N) ents Q23.kp 2 N (cL (cK (cB (cA (cB (cB (cB (cB Q23.bd)))))))) 0) Q23.kp 2 0 N (Q23.st0 p0 table1 gv2 gv3 gv4 gv5 gv6 i7 gv8) (Q23.k0 N K gv2 gv3 gv4 gv5 gv6))) := by kernel_rfl
theorem Q23.eq {ρ : Type} (N : Nat) (K : AV → Heap → Option ρ) (p0 : Int) (table1 : Nat) (gv2 : Nat) (gv3 : Nat) (gv4 : Nat → Nat) (gv5 : Nat → Nat) (gv6 : Nat → Int) :
    xbody (E23 N) ents Q23.kp N Try.f33 Q23.bd [.int .i64 (p0), .slice false 0 0 table1 .unk 1] [⟨false, .hdr 1 gv2 gv3 gv4 gv5 none⟩, ⟨false, .flat 0 (.ints .i64 gv6)⟩] K = (Q23 N (fun d0 d1 => K (.agg [⟨.i64, 2, d0⟩, ⟨.u8, 1104, d1⟩]) [⟨false, .hdr 1 gv2 gv3 gv4 gv5 none⟩, ⟨false, .flat 0 (.ints .i64 gv6)⟩]) p0 table1 gv2 gv3 gv4 gv5 gv6) := by
  refine (Q23.s_eq N K p0 table1 gv2 gv3 gv4 gv5 gv6).trans ?_
  simp only [Q23.l0_eq, Q23.a0_0_eq]
  kernel_rfl
def Q23.en (N : Nat) (ρ : Type) : List AV → Heap → (AV → Heap → Option ρ) → Option ρ
  | [.int .i64 (p0), .slice false 0 0 table1 .unk 1], [⟨false, .hdr 1 gv2 gv3 gv4 gv5 none⟩, ⟨false, .flat 0 (.ints .i64 gv6)⟩], K => (Q23 N (fun d0 d1 => K (.agg [⟨.i64, 2, d0⟩, ⟨.u8, 1104, d1⟩]) [⟨false, .hdr 1 gv2 gv3 gv4 gv5 none⟩, ⟨false, .flat 0 (.ints .i64 gv6)⟩]) p0 table1 gv2 gv3 gv4 gv5 gv6)
  | _, _, _ => none
theorem Q23.en_ok (N : Nat) (hE : EnvOk (E23 N) ents) (ρ : Type) (args : List AV) (sh : Heap) (K : AV → Heap → Option ρ) (r : ρ) (h : Q23.en N ρ args sh K = some r) : ∃ v sh', K v sh' = some r ∧ FnOk (E23 N).P 33 args sh v sh' := by
  unfold Q23.en at h
  split at h
  · exact fn_ok hE (kp := Q23.kp) (N := N) Try.func33 (c := Q23.bd) (by kernel_rfl) ((Q23.eq N _ _ _ _ _ _ _ _).trans h)
  · cases h
def E24 (N : Nat) : Env := (E23 N).add 33 (Q23.en N)
theorem E24_ok (N : Nat) : EnvOk (E24 N) ents := Env.add_ok (E23_ok N) (Q23.en_ok N (E23_ok N))
def Q24.kp : Keeps := ⟨[], [], []⟩
def Q24.bd : Code := bodyOf Try.f11
def Q24.fin {ρ : Type} (N : Nat) (K : AV → Heap → Option ρ) (gv2 : Nat) (gv3 : Nat) (gv4 : Nat → Nat) (gv5 : Nat → Nat) (gv6 : Nat → Int) : XE → St → Option ρ := finK (E24 N) Q24.kp.fins Try.f11 [⟨false, .hdr 1 gv2 gv3 gv4 gv5 none⟩, ⟨false, .flat 0 (.ints .i64 gv6)⟩] K
theorem Q24.eq {ρ : Type} (N : Nat) (K : AV → Heap → Option ρ) (p0 : Int) (table1 : Nat) (gv2 : Nat) (gv3 : Nat) (gv4 : Nat → Nat) (gv5 : Nat → Nat) (gv6 : Nat → Int) :
    xbody (E24 N) ents Q24.kp N Try.f11 Q24.bd [.int .i64 (p0), .slice false 0 0 table1 .unk 1] [⟨false, .hdr 1 gv2 gv3 gv4 gv5 none⟩, ⟨false, .flat 0 (.ints .i64 gv6)⟩] K = (Q24 N (fun d0 d1 d2 => K (.tup [.agg [⟨.i64, 2, d0⟩, ⟨.u8, 1104, d1⟩], .int .i64 (d2)]) [⟨false, .hdr 1 gv2 gv3 gv4 gv5 none⟩, ⟨false, .flat 0 (.ints .i64 gv6)⟩]) p0 table1 gv2 gv3 gv4 gv5 gv6) := by kernel_rfl
def Q24.en (N : Nat) (ρ : Type) : List AV → Heap → (AV → Heap → Option ρ) → Option ρ
  | [.int .i64 (p0), .slice false 0 0 table1 .unk 1], [⟨false, .hdr 1 gv2 gv3 gv4 gv5 none⟩, ⟨false, .flat 0 (.ints .i64 gv6)⟩], K => (Q24 N (fun d0 d1 d2 => K (.tup [.agg [⟨.i64, 2, d0⟩, ⟨.u8, 1104, d1⟩], .int .i64 (d2)]) [⟨false, .hdr 1 gv2 gv3 gv4 gv5 none⟩, ⟨false, .flat 0 (.ints .i64 gv6)⟩]) p0 table1 gv2 gv3 gv4 gv5 gv6)
  | _, _, _ => none
theorem Q24.en_ok (N : Nat) (hE : EnvOk (E24 N) ents) (ρ : Type) (args : List AV) (sh : Heap) (K : AV → Heap → Option ρ) (r : ρ) (h : Q24.en N ρ args sh K = some r) : ∃ v sh', K v sh' = some r ∧ FnOk (E24 N).P 11 args sh v sh' := by
  unfold Q24.en at h
  split at h
  · exact fn_ok hE (kp := Q24.kp) (N := N) Try.func11 (c := Q24.bd) (by kernel_rfl) ((Q24.eq N _ _ _ _ _ _ _ _).trans h)
  · cases h
def E25 (N : Nat) : Env := (E24 N).add 11 (Q24.en N)
theorem E25_ok (N : Nat) : EnvOk (E25 N) ents := Env.add_ok (E24_ok N) (Q24.en_ok N (E24_ok N))
def Q25.kp : Keeps := ⟨[(0, [1, 2, 3, 4, 5], [], []), (2, [1, 2, 3, 4, 5, 6], [], []), (4, [1, 2, 3, 4, 5, 6, 7], [], [])], [(0, [2, 4], [], []), (2, [1, 2, 3, 4, 5], [], []), (4, [1, 2, 3, 4, 5, 6], [], [])], []⟩
def Q25.bd : Code := bodyOf Try.f34
def Q25.fin {ρ : Type} (N : Nat) (K : AV → Heap → Option ρ) : XE → St → Option ρ := finK (E25 N) Q25.kp.fins Try.f34 [] K
def Q25.k0 {ρ : Type} (N : Nat) (K : AV → Heap → Option ρ) : XE → St → Option ρ := (blockK Q25.kp 0 0 (seqK (xcode (E25 N) ents Q25.kp 0 N (cB (cB (cB (cB Q25.bd)))) 0) (Q25.fin N K)))
theorem Q25.k0_mix {ρ : Type} (N : Nat) (K : AV → Heap → Option ρ) : mixK (Q25.fin N K .ret) (Q25.k0 N K) = (Q25.k0 N K) := by
  funext e s; cases e <;> kernel_rfl
def Q25.st0 (h0 : Nat → Int) (h1 : Nat → Int) (i2 : Int) (gv3 : Nat → Int) : St := ⟨sl 75 [(1, .sptr [(0, 2), (1, 1104)]), (2, .sptr [(2, 2), (3, 1104)]), (3, .int .i64 ((h0 1))), (4, .sptr [(4, 2), (5, 1104)]), (5, .int .i64 (i2))], [⟨true, .flat 2 (.ints .i64 h0)⟩, ⟨true, .flat 1104 (.ints .u8 h1)⟩, ⟨true, .flat 2 (.ints .i64 (fun _ => 0))⟩, ⟨true, .flat 1104 (.ints .u8 (fun _ => 0))⟩, ⟨true, .flat 2 (.ints .i64 (upd (upd (fun _ => 0) 0 (h0 0)) 1 (h0 1)))⟩, ⟨true, .flat 1104 (.ints .u8 gv3)⟩]⟩
def Q25.sx0_0 (h0 : Nat → Int) (ov10 : Nat → Int) : St := ⟨sl 75 [(2, .sptr [(0, 2), (1, 1104)]), (4, .sptr [(2, 2), (3, 1104)])], [⟨true, .flat 2 (.ints .i64 (fun _ => 0))⟩, ⟨true, .flat 1104 (.ints .u8 (fun _ => 0))⟩, ⟨true, .flat 2 (.ints .i64 (upd (upd (fun _ => 0) 0 (h0 0)) 1 (h0 1)))⟩, ⟨true, .flat 1104 (.ints .u8 ov10)⟩]⟩
def Q25.k1g {ρ : Type} (N : Nat) (L0 : St → Option ρ) (kv : XE → St → Option ρ) : XE → St → Option ρ := (blockK Q25.kp 0 2 (blockK Q25.kp 0 1 (seqK (xcode (E25 N) ents Q25.kp 0 N (cB (cB (cL (cK (cB (cA (cB (cB (cB Q25.bd))))))))) 0) (roundK Q25.kp 0 0 L0 kv))))
theorem Q25.k1_mix {ρ : Type} (N : Nat) (K : AV → Heap → Option ρ) (L0 : St → Option ρ) : mixK (Q25.fin N K .ret) (Q25.k1g N L0 (Q25.k0 N K)) = (Q25.k1g N L0 (Q25.k0 N K)) := by
  funext e s; cases e <;> kernel_rfl
def Q25.st1 (h0 : Nat → Int) (h1 : Nat → Int) (i2 : Int) (j4 : Int) (gv5 : Nat → Int) : St := ⟨sl 75 [(1, .sptr [(0, 2), (1, 1104)]), (2, .sptr [(2, 2), (3, 1104)]), (3, .int .i64 ((h0 1))), (4, .sptr [(4, 2), (5, 1104)]), (5, .int .i64 (i2)), (6, .int .i64 (j4))], [⟨true, .flat 2 (.ints .i64 h0)⟩, ⟨true, .flat 1104 (.ints .u8 h1)⟩, ⟨true, .flat 2 (.ints .i64 (fun _ => 0))⟩, ⟨true, .flat 1104 (.ints .u8 (fun _ => 0))⟩, ⟨true, .flat 2 (.ints .i64 (upd (upd (fun _ => 0) 0 (h0 0)) 1 (h0 1)))⟩, ⟨true, .flat 1104 (.ints .u8 gv5)⟩]⟩
def Q25.sx1_0 (h0 : Nat → Int) (h1 : Nat → Int) (i2 : Int) (ov9 : Nat → Int) : St := ⟨sl 75 [(1, .sptr [(0, 2), (1, 1104)]), (2, .sptr [(2, 2), (3, 1104)]), (3, .int .i64 ((h0 1))), (4, .sptr [(4, 2), (5, 1104)]), (5, .int .i64 (i2))], [⟨true, .flat 2 (.ints .i64 h0)⟩, ⟨true, .flat 1104 (.ints .u8 h1)⟩, ⟨true, .flat 2 (.ints .i64 (fun _ => 0))⟩, ⟨true, .flat 1104 (.ints .u8 (fun _ => 0))⟩, ⟨true, .flat 2 (.ints .i64 (upd (upd (fun _ => 0) 0 (h0 0)) 1 (h0 1)))⟩, ⟨true, .flat 1104 (.ints .u8 ov9)⟩]⟩
def Q25.k2g {ρ : Type} (N : Nat) (L1 : St → Option ρ) (kv : XE → St → Option ρ) : XE → St → Option ρ := (blockK Q25.kp 0 4 (blockK Q25.kp 0 3 (seqK (xcode (E25 N) ents Q25.kp 0 N (cB (cB (cL (cK (cB (cK (cA (cB (cL (cK (cB (cA (cB (cB (cB Q25.bd))))))))))))))) 2) (roundK Q25.kp 0 2 L1 kv))))
theorem Q25.k2_mix {ρ : Type} (N : Nat) (K : AV → Heap → Option ρ) (L0 : St → Option ρ) (L1 : St → Option ρ) : mixK (Q25.fin N K .ret) (Q25.k2g N L1 (Q25.k1g N L0 (Q25.k0 N K))) = (Q25.k2g N L1 (Q25.k1g N L0 (Q25.k0 N K))) := by
  funext e s; cases e <;> kernel_rfl
def Q25.st2 (h0 : Nat → Int) (h1 : Nat → Int) (i2 : Int) (j4 : Int) (k6 : Int) (gv7 : Nat → Int) : St := ⟨sl 75 [(1, .sptr [(0, 2), (1, 1104)]), (2, .sptr [(2, 2), (3, 1104)]), (3, .int .i64 ((h0 1))), (4, .sptr [(4, 2), (5, 1104)]), (5, .int .i64 (i2)), (6, .int .i64 (j4)), (7, .int .i64 (k6))], [⟨true, .flat 2 (.ints .i64 h0)⟩, ⟨true, .flat 1104 (.ints .u8 h1)⟩, ⟨true, .flat 2 (.ints .i64 (fun _ => 0))⟩, ⟨true, .flat 1104 (.ints .u8 (fun _ => 0))⟩, ⟨true, .flat 2 (.ints .i64 (upd (upd (fun _ => 0) 0 (h0 0)) 1 (h0 1)))⟩, ⟨true, .flat 1104 (.ints .u8 gv7)⟩]⟩
def Q25.sx2_0 (h0 : Nat → Int) (h1 : Nat → Int) (i2 : Int) (j4 : Int) (ov8 : Nat → Int) : St := ⟨sl 75 [(1, .sptr [(0, 2), (1, 1104)]), (2, .sptr [(2, 2), (3, 1104)]), (3, .int .i64 ((h0 1))), (4, .sptr [(4, 2), (5, 1104)]), (5, .int .i64 (i2)), (6, .int .i64 (j4))], [⟨true, .flat 2 (.ints .i64 h0)⟩, ⟨true, .flat 1104 (.ints .u8 h1)⟩, ⟨true, .flat 2 (.ints .i64 (fun _ => 0))⟩, ⟨true, .flat 1104 (.ints .u8 (fun _ => 0))⟩, ⟨true, .flat 2 (.ints .i64 (upd (upd (fun _ => 0) 0 (h0 0)) 1 (h0 1)))⟩, ⟨true, .flat 1104 (.ints .u8 ov8)⟩]⟩
theorem Q25.b2_gen {ρ : Type} (N : Nat) (K : AV → Heap → Option ρ) (L2 : St → Option ρ) (kv : XE → St → Option ρ) (h0 : Nat → Int) (h1 : Nat → Int) (i2 : Int) (j4 : Int) (k6 : Int) (gv7 : Nat → Int) :
    xcode (E25 N) ents Q25.kp 0 N (cL (cK (cB (cB (cK (cA (cB (cL (cK (cB (cK (cA (cB (cL (cK (cB (cA (cB (cB (cB Q25.bd)))))))))))))))))))) 4 (Q25.st2 h0 h1 i2 j4 k6 gv7) (roundK Q25.kp 0 4 L2 (mixK (Q25.fin N K .ret) kv)) = (Q25.b2 N (fun d0 d1 => K (.agg [⟨.i64, 2, d0⟩, ⟨.u8, 1104, d1⟩]) []) (fun k6 gv7 => L2 (Q25.st2 h0 h1 i2 j4 k6 gv7)) (fun ov8 => kv (.exit 4) (Q25.sx2_0 h0 h1 i2 j4 ov8)) h0 h1 i2 j4 k6 gv7) := by kernel_rfl
theorem Q25.b2_eq {ρ : Type} (N : Nat) (K : AV → Heap → Option ρ) (L0 : St → Option ρ) (L1 : St → Option ρ) (L2 : St → Option ρ) (h0 : Nat → Int) (h1 : Nat → Int) (i2 : Int) (j4 : Int) (k6 : Int) (gv7 : Nat → Int) :
    xcode (E25 N) ents Q25.kp 0 N (cL (cK (cB (cB (cK (cA (cB (cL (cK (cB (cK (cA (cB (cL (cK (cB (cA (cB (cB (cB Q25.bd)))))))))))))))))))) 4 (Q25.st2 h0 h1 i2 j4 k6 gv7) (roundK Q25.kp 0 4 L2 (Q25.k2g N L1 (Q25.k1g N L0 (Q25.k0 N K)))) = (Q25.b2 N (fun d0 d1 => K (.agg [⟨.i64, 2, d0⟩, ⟨.u8, 1104, d1⟩]) []) (fun k6 gv7 => L2 (Q25.st2 h0 h1 i2 j4 k6 gv7)) (fun ov8 => (Q25.k2g N L1 (Q25.k1g N L0 (Q25.k0 N K))) (.exit 4) (Q25.sx2_0 h0 h1 i2 j4 ov8)) h0 h1 i2 j4 k6 gv7) := by
  have h := Q25.b2_gen N K L2 (Q25.k2g N L1 (Q25.k1g N L0 (Q25.k0 N K))) h0 h1 i2 j4 k6 gv7
  rw [Q25.k2_mix] at h
  exact h
theorem Q25.a2_0_gen {ρ : Type} (N : Nat) (K : AV → Heap → Option ρ) (L1 : St → Option ρ) (kv : XE → St → Option ρ) (h0 : Nat → Int) (h1 : Nat → Int) (i2 : Int) (j4 : Int) (ov8 : Nat → Int) :
    (Q25.k2g N L1 (mixK (Q25.fin N K .ret) kv)) (.exit 4) (Q25.sx2_0 h0 h1 i2 j4 ov8) = (Q25.a2_0 N (fun d0 d1 => K (.agg [⟨.i64, 2, d0⟩, ⟨.u8, 1104, d1⟩]) []) (fun j4 gv5 => L1 (Q25.st1 h0 h1 i2 j4 gv5)) (fun ov9 => kv (.exit 2) (Q25.sx1_0 h0 h1 i2 ov9)) j4 ov8) := by kernel_rfl
theorem Q25.a2_0_eq {ρ : Type} (N : Nat) (K : AV → Heap → Option ρ) (L0 : St → Option ρ) (L1 : St → Option ρ) (h0 : Nat → Int) (h1 : Nat → Int) (i2 : Int) (j4 : Int) (ov8 : Nat → Int) :
    (Q25.k2g N L1 (Q25.k1g N L0 (Q25.k0 N K))) (.exit 4) (Q25.sx2_0 h0 h1 i2 j4 ov8) = (Q25.a2_0 N (fun d0 d1 => K (.agg [⟨.i64, 2, d0⟩, ⟨.u8, 1104, d1⟩]) []) (fun j4 gv5 => L1 (Q25.st1 h0 h1 i2 j4 gv5)) (fun ov9 => (Q25.k1g N L0 (Q25.k0 N K)) (.exit 2) (Q25.sx1_0 h0 h1 i2 ov9)) j4 ov8) := by
  have h := Q25.a2_0_gen N K L1 (Q25.k1g N L0 (Q25.k0 N K)) h0 h1 i2 j4 ov8
  rw [Q25.k1_mix] at h
  exact h
theorem Q25.b1_gen {ρ : Type} (N : Nat) (K : AV → Heap → Option ρ) (L1 : St → Option ρ) (kv : XE → St → Option ρ) (h0 : Nat → Int) (h1 : Nat → Int) (i2 : Int) (j4 : Int) (gv5 : Nat → Int) :
    xcode (E25 N) ents Q25.kp 0 N (cL (cK (cB (cK (cA (cB (cL (cK (cB (cA (cB (cB (cB Q25.bd))))))))))))) 2 (Q25.st1 h0 h1 i2 j4 gv5) (roundK Q25.kp 0 2 L1 (mixK (Q25.fin N K .ret) kv)) = (Q25.b1 N (fun d0 d1 => K (.agg [⟨.i64, 2, d0⟩, ⟨.u8, 1104, d1⟩]) []) (fun k6 gv7 => xloop (xcode (E25 N) ents Q25.kp 0 N (cL (cK (cB (cB (cK (cA (cB (cL (cK (cB (cK (cA (cB (cL (cK (cB (cA (cB (cB (cB Q25.bd)))))))))))))))))))) 4) Q25.kp 0 4 N (Q25.st2 h0 h1 i2 j4 k6 gv7) (Q25.k2g N L1 (mixK (Q25.fin N K .ret) kv))) (fun j4 gv5 => L1 (Q25.st1 h0 h1 i2 j4 gv5)) (fun ov9 => kv (.exit 2) (Q25.sx1_0 h0 h1 i2 ov9)) h0 h1 i2 j4 gv5) := by kernel_rfl
theorem Q25.b1_eq {ρ : Type} (N : Nat) (K : AV → Heap → Option ρ) (L0 : St → Option ρ) (L1 : St → Option ρ) (h0 : Nat → Int) (h1 : Nat → Int) (i2 : Int) (j4 : Int) (gv5 : Nat → Int) :
    xcode (E25 N) ents Q25.kp 0 N (cL (cK (cB (cK (cA (cB (cL (cK (cB (cA (cB (cB (cB Q25.bd))))))))))))) 2 (Q25.st1 h0 h1 i2 j4 gv5) (roundK Q25.kp 0 2 L1 (Q25.k1g N L0 (Q25.k0 N K))) = (Q25.b1 N (fun d0 d1 => K (.agg [⟨.i64, 2, d0⟩, ⟨.u8, 1104, d1⟩]) []) (fun k6 gv7 => xloop (xcode (E25 N) ents Q25.kp 0 N (cL (cK (cB (cB (cK (cA (cB (cL (cK (cB (cK (cA (cB (cL (cK (cB (cA (cB (cB (cB Q25.bd)))))))))))))))))))) 4) Q25.kp 0 4 N (Q25.st2 h0 h1 i2 j4 k6 gv7) (Q25.k2g N L1 (Q25.k1g N L0 (Q25.k0 N K)))) (fun j4 gv5 => L1 (Q25.st1 h0 h1 i2 j4 gv5)) (fun ov9 => (Q25.k1g N L0 (Q25.k0 N K)) (.exit 2) (Q25.sx1_0 h0 h1 i2 ov9)) h0 h1 i2 j4 gv5) := by
  have h := Q25.b1_gen N K L1 (Q25.k1g N L0 (Q25.k0 N K)) h0 h1 i2 j4 gv5
  rw [Q25.k1_mix] at h
  exact h
theorem Q25.a1_0_gen {ρ : Type} (N : Nat) (K : AV → Heap → Option ρ) (L0 : St → Option ρ) (kv : XE → St → Option ρ) (h0 : Nat → Int) (h1 : Nat → Int) (i2 : Int) (ov9 : Nat → Int) :
    (Q25.k1g N L0 (mixK (Q25.fin N K .ret) kv)) (.exit 2) (Q25.sx1_0 h0 h1 i2 ov9) = (Q25.a1_0 N (fun d0 d1 => K (.agg [⟨.i64, 2, d0⟩, ⟨.u8, 1104, d1⟩]) []) (fun i2 gv3 => L0 (Q25.st0 h0 h1 i2 gv3)) (fun ov10 => kv (.exit 0) (Q25.sx0_0 h0 ov10)) i2 ov9) := by kernel_rfl
theorem Q25.a1_0_eq {ρ : Type} (N : Nat) (K : AV → Heap → Option ρ) (L0 : St → Option ρ) (h0 : Nat → Int) (h1 : Nat → Int) (i2 : Int) (ov9 : Nat → Int) :
    (Q25.k1g N L0 (Q25.k0 N K)) (.exit 2) (Q25.sx1_0 h0 h1 i2 ov9) = (Q25.a1_0 N (fun d0 d1 => K (.agg [⟨.i64, 2, d0⟩, ⟨.u8, 1104, d1⟩]) []) (fun i2 gv3 => L0 (Q25.st0 h0 h1 i2 gv3)) (fun ov10 => (Q25.k0 N K) (.exit 0) (Q25.sx0_0 h0 ov10)) i2 ov9) := by
  have h := Q25.a1_0_gen N K L0 (Q25.k0 N K) h0 h1 i2 ov9
  rw [Q25.k0_mix] at h
  exact h
theorem Q25.b0_gen {ρ : Type} (N : Nat) (K : AV → Heap → Option ρ) (L0 : St → Option ρ) (kv : XE → St → Option ρ) (h0 : Nat → Int) (h1 : Nat → Int) (i2 : Int) (gv3 : Nat → Int) :
    xcode (E25 N) ents Q25.kp 0 N (cL (cK (cB (cA (cB (cB (cB Q25.bd))))))) 0 (Q25.st0 h0 h1 i2 gv3) (roundK Q25.kp 0 0 L0 (mixK (Q25.fin N K .ret) kv)) = (Q25.b0 N (fun d0 d1 => K (.agg [⟨.i64, 2, d0⟩, ⟨.u8, 1104, d1⟩]) []) (fun j4 gv5 => xloop (xcode (E25 N) ents Q25.kp 0 N (cL (cK (cB (cK (cA (cB (cL (cK (cB (cA (cB (cB (cB Q25.bd))))))))))))) 2) Q25.kp 0 2 N (Q25.st1 h0 h1 i2 j4 gv5) (Q25.k1g N L0 (mixK (Q25.fin N K .ret) kv))) (fun i2 gv3 => L0 (Q25.st0 h0 h1 i2 gv3)) (fun ov10 => kv (.exit 0) (Q25.sx0_0 h0 ov10)) h0 i2 gv3) := by kernel_rfl
theorem Q25.b0_eq {ρ : Type} (N : Nat) (K : AV → Heap → Option ρ) (L0 : St → Option ρ) (h0 : Nat → Int) (h1 : Nat → Int) (i2 : Int) (gv3 : Nat → Int) :
    xcode (E25 N) ents Q25.kp 0 N (cL (cK (cB (cA (cB (cB (cB Q25.bd))))))) 0 (Q25.st0 h0 h1 i2 gv3) (roundK Q25.kp 0 0 L0 (Q25.k0 N K)) = (Q25.b0 N (fun d0 d1 => K (.agg [⟨.i64, 2, d0⟩, ⟨.u8, 1104, d1⟩]) []) (fun j4 gv5 => xloop (xcode (E25 N) ents Q25.kp 0 N (cL (cK (cB (cK (cA (cB (cL (cK (cB (cA (cB (cB (cB Q25.bd))))))))))))) 2) Q25.kp 0 2 N (Q25.st1 h0 h1 i2 j4 gv5) (Q25.k1g N L0 (Q25.k0 N K))) (fun i2 gv3 => L0 (Q25.st0 h0 h1 i2 gv3)) (fun ov10 => (Q25.k0 N K) (.exit 0) (Q25.sx0_0 h0 ov10)) h0 i2 gv3) := by
  have h := Q25.b0_gen N K L0 (Q25.k0 N K) h0 h1 i2 gv3
  rw [Q25.k0_mix] at h
  exact h
theorem Q25.a0_0_eq {ρ : Type} (N : Nat) (K : AV → Heap → Option ρ) (h0 : Nat → Int) (ov10 : Nat → Int) :
    (Q25.k0 N K) (.exit 0) (Q25.sx0_0 h0 ov10) = (Q25.a0_0 N (fun d0 d1 => K (.agg [⟨.i64, 2, d0⟩, ⟨.u8, 1104, d1⟩]) []) h0 ov10) := by kernel_rfl
theorem Q25.l2_eq {ρ : Type} (N : Nat) (K : AV → Heap → Option ρ) (L0 : St → Option ρ) (L1 : St → Option ρ) (h0 : Nat → Int) (h1 : Nat → Int) (i2 : Int) (j4 : Int) :
    ∀ (m : Nat) (k6 : Int) (gv7 : Nat → Int), xloop (xcode (E25 N) ents Q25.kp 0 N (cL (cK (cB (cB (cK (cA (cB (cL (cK (cB (cK (cA (cB (cL (cK (cB (cA (cB (cB (cB Q25.bd)))))))))))))))))))) 4) Q25.kp 0 4 m (Q25.st2 h0 h1 i2 j4 k6 gv7) (Q25.k2g N L1 (Q25.k1g N L0 (Q25.k0 N K))) = (Q25.l2 N (fun d0 d1 => K (.agg [⟨.i64, 2, d0⟩, ⟨.u8, 1104, d1⟩]) []) h0 h1 i2 j4 (fun ov8 => (Q25.k2g N L1 (Q25.k1g N L0 (Q25.k0 N K))) (.exit 4) (Q25.sx2_0 h0 h1 i2 j4 ov8)) m k6 gv7) := by
  intro m
  induction m with
  | zero => intros; rfl
  | succ m ih =>
    intro k6 gv7
    refine (Q25.b2_eq N K L0 L1 (fun s => xloop (xcode (E25 N) ents Q25.kp 0 N (cL (cK (cB (cB (cK (cA (cB (cL (cK (cB (cK (cA (cB (cL (cK (cB (cA (cB (cB (cB Q25.bd)))))))))))))))))))) 4) Q25.kp 0 4 m s (Q25.k2g N L1 (Q25.k1g N L0 (Q25.k0 N K)))) h0 h1 i2 j4 k6 gv7).trans ?_
    simp only [ih]
    kernel_rfl
theorem Q25.l1_eq {ρ : Type} (N : Nat) (K : AV → Heap → Option ρ) (L0 : St → Option ρ) (h0 : Nat → Int) (h1 : Nat → Int) (i2 : Int) :
    ∀ (m : Nat) (j4 : Int) (gv5 : Nat → Int), xloop (xcode (E25 N) ents Q25.kp 0 N (cL (cK (cB (cK (cA (cB (cL (cK (cB (cA (cB (cB (cB Q25.bd))))))))))))) 2) Q25.kp 0 2 m (Q25.st1 h0 h1 i2 j4 gv5) (Q25.k1g N L0 (Q25.k0 N K)) = (Q25.l1 N (fun d0 d1 => K (.agg [⟨.i64, 2, d0⟩, ⟨.u8, 1104, d1⟩]) []) h0 h1 i2 (fun ov9 => (Q25.k1g N L0 (Q25.k0 N K)) (.exit 2) (Q25.sx1_0 h0 h1 i2 ov9)) m j4 gv5) := by
  intro m
  induction m with
  | zero => intros; rfl
  | succ m ih =>
    intro j4 gv5
    refine (Q25.b1_eq N K L0 (fun s => xloop (xcode (E25 N) ents Q25.kp 0 N (cL (cK (cB (cK (cA (cB (cL (cK (cB (cA (cB (cB (cB Q25.bd))))))))))))) 2) Q25.kp 0 2 m s (Q25.k1g N L0 (Q25.k0 N K))) h0 h1 i2 j4 gv5).trans ?_
    simp only [ih, Q25.l2_eq, Q25.a2_0_eq]
    kernel_rfl
theorem Q25.l0_eq {ρ : Type} (N : Nat) (K : AV → Heap → Option ρ) (h0 : Nat → Int) (h1 : Nat → Int) :
    ∀ (m : Nat) (i2 : Int) (gv3 : Nat → Int), xloop (xcode (E25 N) ents Q25.kp 0 N (cL (cK (cB (cA (cB (cB (cB Q25.bd))))))) 0) Q25.kp 0 0 m (Q25.st0 h0 h1 i2 gv3) (Q25.k0 N K) = (Q25.l0 N (fun d0 d1 => K (.agg [⟨.i64, 2, d0⟩, ⟨.u8, 1104, d1⟩]) []) h0 h1 (fun ov10 => (Q25.k0 N K) (.exit 0) (Q25.sx0_0 h0 ov10)) m i2 gv3) := by
  intro m
  induction m with
  | zero => intros; rfl
  | succ m ih =>
    intro i2 gv3
    refine (Q25.b0_eq N K (fun s => xloop (xcode (E25 N) ents Q25.kp 0 N (cL (cK (cB (cA (cB (cB (cB Q25.bd))))))) 0) Q25.kp 0 0 m s (Q25.k0 N K)) h0 h1 i2 gv3).trans ?_
    simp only [ih, Q25.l1_eq, Q25.a1_0_eq]
    kernel_rfl
theorem Q25.s_eq {ρ : Type} (N : Nat) (K : AV → Heap → Option ρ) (h0 : Nat → Int) (h1 : Nat → Int) :
    xbody (E25 N) ents Q25.kp N Try.f34 Q25.bd [.agg [⟨.i64, 2, h0⟩, ⟨.u8, 1104, h1⟩]] [] K = (Q25.s N (fun d0 d1 => K (.agg [⟨.i64, 2, d0⟩, ⟨.u8, 1104, d1⟩]) []) (fun i2 gv3 => xloop (xcode (E25 N) ents Q25.kp 0 N (cL (cK (cB (cA (cB (cB (cB Q25.bd))))))) 0) Q25.kp 0 0 N (Q25.st0 h0 h1 i2 gv3) (Q25.k0 N K)) h1) := by kernel_rfl
theorem Q25.eq {ρ : Type} (N : Nat) (K : AV → Heap → Option ρ) (h0 : Nat → Int) (h1 : Nat → Int) :
    xbody (E25 N) ents Q25.kp N Try.f34 Q25.bd [.agg [⟨.i64, 2, h0⟩, ⟨.u8, 1104, h1⟩]] [] K = (Q25 N (fun d0 d1 => K (.agg [⟨.i64, 2, d0⟩, ⟨.u8, 1104, d1⟩]) []) h0 h1) := by
  refine (Q25.s_eq N K h0 h1).trans ?_
  simp only [Q25.l0_eq, Q25.a0_0_eq]
  kernel_rfl
def Q25.en (N : Nat) (ρ : Type) : List AV → Heap → (AV → Heap → Option ρ) → Option ρ
  | [.agg [⟨.i64, 2, h0⟩, ⟨.u8, 1104, h1⟩]], [], K => (Q25 N (fun d0 d1 => K (.agg [⟨.i64, 2, d0⟩, ⟨.u8, 1104, d1⟩]) []) h0 h1)
  | _, _, _ => none
theorem Q25.en_ok (N : Nat) (hE : EnvOk (E25 N) ents) (ρ : Type) (args : List AV) (sh : Heap) (K : AV → Heap → Option ρ) (r : ρ) (h : Q25.en N ρ args sh K = some r) : ∃ v sh', K v sh' = some r ∧ FnOk (E25 N).P 34 args sh v sh' := by
  unfold Q25.en at h
  split at h
  · exact fn_ok hE (kp := Q25.kp) (N := N) Try.func34 (c := Q25.bd) (by kernel_rfl) ((Q25.eq N _ _ _).trans h)
  · cases h
def E26 (N : Nat) : Env := (E25 N).add 34 (Q25.en N)
theorem E26_ok (N : Nat) : EnvOk (E26 N) ents := Env.add_ok (E25_ok N) (Q25.en_ok N (E25_ok N))
def Q26.kp : Keeps := ⟨[], [], []⟩
def Q26.bd : Code := bodyOf Try.f12
def Q26.fin {ρ : Type} (N : Nat) (K : AV → Heap → Option ρ) (gv2 : Nat) (gv3 : Nat) (gv4 : Nat → Nat) (gv5 : Nat → Nat) (gv6 : Nat → Int) : XE → St → Option ρ := finK (E26 N) Q26.kp.fins Try.f12 [⟨false, .hdr 1 gv2 gv3 gv4 gv5 none⟩, ⟨false, .flat 0 (.ints .i64 gv6)⟩] K
theorem Q26.eq {ρ : Type} (N : Nat) (K : AV → Heap → Option ρ) (p0 : Int) (table1 : Nat) (gv2 : Nat) (gv3 : Nat) (gv4 : Nat → Nat) (gv5 : Nat → Nat) (gv6 : Nat → Int) :
    xbody (E26 N) ents Q26.kp N Try.f12 Q26.bd [.int .i64 (p0), .slice false 0 0 table1 .unk 1] [⟨false, .hdr 1 gv2 gv3 gv4 gv5 none⟩, ⟨false, .flat 0 (.ints .i64 gv6)⟩] K = (Q26 N (fun d0 d1 d2 => K (.tup [.agg [⟨.i64, 2, d0⟩, ⟨.u8, 1104, d1⟩], .int .i64 (d2)]) [⟨false, .hdr 1 gv2 gv3 gv4 gv5 none⟩, ⟨false, .flat 0 (.ints .i64 gv6)⟩]) p0 table1 gv2 gv3 gv4 gv5 gv6) := by kernel_rfl
def Q26.en (N : Nat) (ρ : Type) : List AV → Heap → (AV → Heap → Option ρ) → Option ρ
  | [.int .i64 (p0), .slice false 0 0 table1 .unk 1], [⟨false, .hdr 1 gv2 gv3 gv4 gv5 none⟩, ⟨false, .flat 0 (.ints .i64 gv6)⟩], K => (Q26 N (fun d0 d1 d2 => K (.tup [.agg [⟨.i64, 2, d0⟩, ⟨.u8, 1104, d1⟩], .int .i64 (d2)]) [⟨false, .hdr 1 gv2 gv3 gv4 gv5 none⟩, ⟨false, .flat 0 (.ints .i64 gv6)⟩]) p0 table1 gv2 gv3 gv4 gv5 gv6)
  | _, _, _ => none
theorem Q26.en_ok (N : Nat) (hE : EnvOk (E26 N) ents) (ρ : Type) (args : List AV) (sh : Heap) (K : AV → Heap → Option ρ) (r : ρ) (h : Q26.en N ρ args sh K = some r) : ∃ v sh', K v sh' = some r ∧ FnOk (E26 N).P 12 args sh v sh' := by
  unfold Q26.en at h
  split at h
  · exact fn_ok hE (kp := Q26.kp) (N := N) Try.func12 (c := Q26.bd) (by kernel_rfl) ((Q26.eq N _ _ _ _ _ _ _ _).trans h)
  · cases h
def E27 (N : Nat) : Env := (E26 N).add 12 (Q26.en N)
theorem E27_ok (N : Nat) : EnvOk (E27 N) ents := Env.add_ok (E26_ok N) (Q26.en_ok N (E26_ok N))
def Q27.kp : Keeps := ⟨[], [], []⟩
def Q27.bd : Code := bodyOf Try.f4
def Q27.fin {ρ : Type} (N : Nat) (K : AV → Heap → Option ρ) : XE → St → Option ρ := finK (E27 N) Q27.kp.fins Try.f4 [] K
theorem Q27.eq {ρ : Type} (N : Nat) (K : AV → Heap → Option ρ) (name0 : ByteArray) (p1 : Int) :
    xbody (E27 N) ents Q27.kp N Try.f4 Q27.bd [.str (name0), .int .i64 (p1)] [] K = (Q27 N (fun d0 d1 d2 => K (.tup [.agg [⟨.i64, 2, d0⟩, ⟨.u8, 1104, d1⟩], .int .i64 (d2)]) []) name0 p1) := by kernel_rfl
def Q27.en (N : Nat) (ρ : Type) : List AV → Heap → (AV → Heap → Option ρ) → Option ρ
  | [.str (name0), .int .i64 (p1)], [], K => (Q27 N (fun d0 d1 d2 => K (.tup [.agg [⟨.i64, 2, d0⟩, ⟨.u8, 1104, d1⟩], .int .i64 (d2)]) []) name0 p1)
  | _, _, _ => none
theorem Q27.en_ok (N : Nat) (hE : EnvOk (E27 N) ents) (ρ : Type) (args : List AV) (sh : Heap) (K : AV → Heap → Option ρ) (r : ρ) (h : Q27.en N ρ args sh K = some r) : ∃ v sh', K v sh' = some r ∧ FnOk (E27 N).P 4 args sh v sh' := by
  unfold Q27.en at h
  split at h
  · exact fn_ok hE (kp := Q27.kp) (N := N) Try.func4 (c := Q27.bd) (by kernel_rfl) ((Q27.eq N _ _ _).trans h)
  · cases h
def E28 (N : Nat) : Env := (E27 N).add 4 (Q27.en N)
theorem E28_ok (N : Nat) : EnvOk (E28 N) ents := Env.add_ok (E27_ok N) (Q27.en_ok N (E27_ok N))
def Q28.kp : Keeps := ⟨[(0, [0, 3], [], [])], [(0, [], [], [])], []⟩
def Q28.bd : Code := bodyOf Try.f35
def Q28.fin {ρ : Type} (N : Nat) (K : AV → Heap → Option ρ) : XE → St → Option ρ := finK (E28 N) Q28.kp.fins Try.f35 [] K
def Q28.k0 {ρ : Type} (N : Nat) (K : AV → Heap → Option ρ) : XE → St → Option ρ := (blockK Q28.kp 0 0 (seqK (xcode (E28 N) ents Q28.kp 0 N (cB (cB (cB Q28.bd))) 0) (Q28.fin N K)))
theorem Q28.k0_mix {ρ : Type} (N : Nat) (K : AV → Heap → Option ρ) : mixK (Q28.fin N K .ret) (Q28.k0 N K) = (Q28.k0 N K) := by
  funext e s; cases e <;> kernel_rfl
def Q28.st0 (p0 : Int) (k1 : Int) : St := ⟨sl 21 [(0, .int .i64 (p0)), (3, .int .i64 (k1))], []⟩
def Q28.sx0_0 : St := ⟨sl 21 [], []⟩
theorem Q28.b0_gen {ρ : Type} (N : Nat) (K : AV → Heap → Option ρ) (L0 : St → Option ρ) (kv : XE → St → Option ρ) (p0 : Int) (k1 : Int) :
    xcode (E28 N) ents Q28.kp 0 N (cL (cK (cB (cA (cB (cB Q28.bd)))))) 0 (Q28.st0 p0 k1) (roundK Q28.kp 0 0 L0 (mixK (Q28.fin N K .ret) kv)) = (Q28.b0 N (fun d0 => K (.bool (d0)) []) (fun k1 => L0 (Q28.st0 p0 k1)) (kv (.exit 0) (Q28.sx0_0)) p0 k1) := by kernel_rfl
theorem Q28.b0_eq {ρ : Type} (N : Nat) (K : AV → Heap → Option ρ) (L0 : St → Option ρ) (p0 : Int) (k1 : Int) :
    xcode (E28 N) ents Q28.kp 0 N (cL (cK (cB (cA (cB (cB Q28.bd)))))) 0 (Q28.st0 p0 k1) (roundK Q28.kp 0 0 L0 (Q28.k0 N K)) = (Q28.b0 N (fun d0 => K (.bool (d0)) []) (fun k1 => L0 (Q28.st0 p0 k1)) ((Q28.k0 N K) (.exit 0) (Q28.sx0_0)) p0 k1) := by
  have h := Q28.b0_gen N K L0 (Q28.k0 N K) p0 k1
  rw [Q28.k0_mix] at h
  exact h
theorem Q28.a0_0_eq {ρ : Type} (N : Nat) (K : AV → Heap → Option ρ) :
    (Q28.k0 N K) (.exit 0) (Q28.sx0_0) = (Q28.a0_0 N (fun d0 => K (.bool (d0)) [])) := by kernel_rfl
theorem Q28.l0_eq {ρ : Type} (N : Nat) (K : AV → Heap → Option ρ) (p0 : Int) :
    ∀ (m : Nat) (k1 : Int), xloop (xcode (E28 N) ents Q28.kp 0 N (cL (cK (cB (cA (cB (cB Q28.bd)))))) 0) Q28.kp 0 0 m (Q28.st0 p0 k1) (Q28.k0 N K) = (Q28.l0 N (fun d0 => K (.bool (d0)) []) p0 ((Q28.k0 N K) (.exit 0) (Q28.sx0_0)) m k1) := by
  intro m
  induction m with
  | zero => intros; rfl
  | succ m ih =>
    intro k1
    refine (Q28.b0_eq N K (fun s => xloop (xcode (E28 N) ents Q28.kp 0 N (cL (cK (cB (cA (cB (cB Q28.bd)))))) 0) Q28.kp 0 0 m s (Q28.k0 N K)) p0 k1).trans ?_
    simp only [ih]
    kernel_rfl
theorem Q28.s_eq {ρ : Type} (N : Nat) (K : AV → Heap → Option ρ) (p0 : Int) :
    xbody (E28 N) ents Q28.kp N Try.f35 Q28.bd [.int .i64 (p0)] [] K = (Q28.s N (fun d0 => K (.bool (d0)) []) (fun k1 => xloop (xcode (E28 N) ents Q28.kp 0 N (cL (cK (cB (cA (cB (cB Q28.bd)))))) 0) Q28.kp 0 0 N (Q28.st0 p0 k1) (Q28.k0 N K)) p0) := by kernel_rfl
theorem Q28.eq {ρ : Type} (N : Nat) (K : AV → Heap → Option ρ) (p0 : Int) :
    xbody (E28 N) ents Q28.kp N Try.f35 Q28.bd [.int .i64 (p0)] [] K = (Q28 N (fun d0 => K (.bool (d0)) []) p0) := by
  refine (Q28.s_eq N K p0).trans ?_
  simp only [Q28.l0_eq, Q28.a0_0_eq]
  kernel_rfl
def Q28.en (N : Nat) (ρ : Type) : List AV → Heap → (AV → Heap → Option ρ) → Option ρ
  | [.int .i64 (p0)], [], K => (Q28 N (fun d0 => K (.bool (d0)) []) p0)
  | _, _, _ => none
theorem Q28.en_ok (N : Nat) (hE : EnvOk (E28 N) ents) (ρ : Type) (args : List AV) (sh : Heap) (K : AV → Heap → Option ρ) (r : ρ) (h : Q28.en N ρ args sh K = some r) : ∃ v sh', K v sh' = some r ∧ FnOk (E28 N).P 35 args sh v sh' := by
  unfold Q28.en at h
  split at h
  · exact fn_ok hE (kp := Q28.kp) (N := N) Try.func35 (c := Q28.bd) (by kernel_rfl) ((Q28.eq N _ _).trans h)
  · cases h
def E29 (N : Nat) : Env := (E28 N).add 35 (Q28.en N)
theorem E29_ok (N : Nat) : EnvOk (E29 N) ents := Env.add_ok (E28_ok N) (Q28.en_ok N (E28_ok N))
def Q29.kp : Keeps := ⟨[], [], []⟩
def Q29.bd : Code := bodyOf Try.f36
def Q29.fin {ρ : Type} (N : Nat) (K : AV → Heap → Option ρ) : XE → St → Option ρ := finK (E29 N) Q29.kp.fins Try.f36 [] K
theorem Q29.eq {ρ : Type} (N : Nat) (K : AV → Heap → Option ρ) (x0 : Int) (least1 : Int) (most2 : Int) :
    xbody (E29 N) ents Q29.kp N Try.f36 Q29.bd [.int .i64 (x0), .int .i64 (least1), .int .i64 (most2)] [] K = (Q29 N (fun d0 => K (.bool (d0)) []) x0 least1 most2) := by kernel_rfl
def Q29.en (N : Nat) (ρ : Type) : List AV → Heap → (AV → Heap → Option ρ) → Option ρ
  | [.int .i64 (x0), .int .i64 (least1), .int .i64 (most2)], [], K => (Q29 N (fun d0 => K (.bool (d0)) []) x0 least1 most2)
  | _, _, _ => none
theorem Q29.en_ok (N : Nat) (hE : EnvOk (E29 N) ents) (ρ : Type) (args : List AV) (sh : Heap) (K : AV → Heap → Option ρ) (r : ρ) (h : Q29.en N ρ args sh K = some r) : ∃ v sh', K v sh' = some r ∧ FnOk (E29 N).P 36 args sh v sh' := by
  unfold Q29.en at h
  split at h
  · exact fn_ok hE (kp := Q29.kp) (N := N) Try.func36 (c := Q29.bd) (by kernel_rfl) ((Q29.eq N _ _ _ _).trans h)
  · cases h
def E30 (N : Nat) : Env := (E29 N).add 36 (Q29.en N)
theorem E30_ok (N : Nat) : EnvOk (E30 N) ents := Env.add_ok (E29_ok N) (Q29.en_ok N (E29_ok N))
def Q30.kp : Keeps := ⟨[], [], []⟩
def Q30.bd : Code := bodyOf Try.f56
def Q30.fin {ρ : Type} (N : Nat) (K : AV → Heap → Option ρ) : XE → St → Option ρ := finK (E30 N) Q30.kp.fins Try.f56 [] K
theorem Q30.eq {ρ : Type} (N : Nat) (K : AV → Heap → Option ρ) (i0 : Int) :
    xbody (E30 N) ents Q30.kp N Try.f56 Q30.bd [.int .i64 (i0)] [] K = (Q30 N (fun d0 => K (.agg [⟨.u8, 8, d0⟩]) []) i0) := by kernel_rfl
def Q30.en (N : Nat) (ρ : Type) : List AV → Heap → (AV → Heap → Option ρ) → Option ρ
  | [.int .i64 (i0)], [], K => (Q30 N (fun d0 => K (.agg [⟨.u8, 8, d0⟩]) []) i0)
  | _, _, _ => none
theorem Q30.en_ok (N : Nat) (hE : EnvOk (E30 N) ents) (ρ : Type) (args : List AV) (sh : Heap) (K : AV → Heap → Option ρ) (r : ρ) (h : Q30.en N ρ args sh K = some r) : ∃ v sh', K v sh' = some r ∧ FnOk (E30 N).P 56 args sh v sh' := by
  unfold Q30.en at h
  split at h
  · exact fn_ok hE (kp := Q30.kp) (N := N) Try.func56 (c := Q30.bd) (by kernel_rfl) ((Q30.eq N _ _).trans h)
  · cases h
def E31 (N : Nat) : Env := (E30 N).add 56 (Q30.en N)
theorem E31_ok (N : Nat) : EnvOk (E31 N) ents := Env.add_ok (E30_ok N) (Q30.en_ok N (E30_ok N))
def Q31.kp : Keeps := ⟨[], [], []⟩
def Q31.bd : Code := bodyOf Try.f57
def Q31.fin {ρ : Type} (N : Nat) (K : AV → Heap → Option ρ) (gv0 : Nat → Int) (gv1 : Nat → Int) : XE → St → Option ρ := finK (E31 N) Q31.kp.fins Try.f57 [⟨false, .flat 2 (.ints .i64 gv0)⟩, ⟨false, .flat 1104 (.ints .u8 gv1)⟩] K
theorem Q31.eq {ρ : Type} (N : Nat) (K : AV → Heap → Option ρ) (gv0 : Nat → Int) (gv1 : Nat → Int) :
    xbody (E31 N) ents Q31.kp N Try.f57 Q31.bd [.sptr [(0, 2), (1, 1104)]] [⟨false, .flat 2 (.ints .i64 gv0)⟩, ⟨false, .flat 1104 (.ints .u8 gv1)⟩] K = (Q31 N (fun d0 => K (.agg [⟨.i64, 2, d0⟩]) [⟨false, .flat 2 (.ints .i64 gv0)⟩, ⟨false, .flat 1104 (.ints .u8 gv1)⟩]) gv0 gv1) := by kernel_rfl
def Q31.en (N : Nat) (ρ : Type) : List AV → Heap → (AV → Heap → Option ρ) → Option ρ
  | [.sptr [(0, 2), (1, 1104)]], [⟨false, .flat 2 (.ints .i64 gv0)⟩, ⟨false, .flat 1104 (.ints .u8 gv1)⟩], K => (Q31 N (fun d0 => K (.agg [⟨.i64, 2, d0⟩]) [⟨false, .flat 2 (.ints .i64 gv0)⟩, ⟨false, .flat 1104 (.ints .u8 gv1)⟩]) gv0 gv1)
  | _, _, _ => none
theorem Q31.en_ok (N : Nat) (hE : EnvOk (E31 N) ents) (ρ : Type) (args : List AV) (sh : Heap) (K : AV → Heap → Option ρ) (r : ρ) (h : Q31.en N ρ args sh K = some r) : ∃ v sh', K v sh' = some r ∧ FnOk (E31 N).P 57 args sh v sh' := by
  unfold Q31.en at h
  split at h
  · exact fn_ok hE (kp := Q31.kp) (N := N) Try.func57 (c := Q31.bd) (by kernel_rfl) ((Q31.eq N _ _ _).trans h)
  · cases h
def E32 (N : Nat) : Env := (E31 N).add 57 (Q31.en N)
theorem E32_ok (N : Nat) : EnvOk (E32 N) ents := Env.add_ok (E31_ok N) (Q31.en_ok N (E31_ok N))
def Q32.kp : Keeps := ⟨[], [], []⟩
def Q32.bd : Code := bodyOf Try.f59
def Q32.fin {ρ : Type} (N : Nat) (K : AV → Heap → Option ρ) : XE → St → Option ρ := finK (E32 N) Q32.kp.fins Try.f59 [] K
theorem Q32.eq {ρ : Type} (N : Nat) (K : AV → Heap → Option ρ) (f0 : Nat → Int) (x1 : Int) :
    xbody (E32 N) ents Q32.kp N Try.f59 Q32.bd [.agg [⟨.i64, 2, f0⟩], .int .i64 (x1)] [] K = (Q32 N (fun d0 => K (.int .u8 (d0)) []) f0 x1) := by kernel_rfl
def Q32.en (N : Nat) (ρ : Type) : List AV → Heap → (AV → Heap → Option ρ) → Option ρ
  | [.agg [⟨.i64, 2, f0⟩], .int .i64 (x1)], [], K => (Q32 N (fun d0 => K (.int .u8 (d0)) []) f0 x1)
  | _, _, _ => none
theorem Q32.en_ok (N : Nat) (hE : EnvOk (E32 N) ents) (ρ : Type) (args : List AV) (sh : Heap) (K : AV → Heap → Option ρ) (r : ρ) (h : Q32.en N ρ args sh K = some r) : ∃ v sh', K v sh' = some r ∧ FnOk (E32 N).P 59 args sh v sh' := by
  unfold Q32.en at h
  split at h
  · exact fn_ok hE (kp := Q32.kp) (N := N) Try.func59 (c := Q32.bd) (by kernel_rfl) ((Q32.eq N _ _ _).trans h)
  · cases h
def E33 (N : Nat) : Env := (E32 N).add 59 (Q32.en N)
theorem E33_ok (N : Nat) : EnvOk (E33 N) ents := Env.add_ok (E32_ok N) (Q32.en_ok N (E32_ok N))
def Q33.kp : Keeps := ⟨[(0, [1, 2, 4, 12, 13], [], [])], [(0, [], [], [])], []⟩
def Q33.bd : Code := bodyOf Try.f80
def Q33.fin {ρ : Type} (N : Nat) (K : AV → Heap → Option ρ) (gv3 : Nat → Int) : XE → St → Option ρ := finK (E33 N) Q33.kp.fins Try.f80 [⟨true, .flat 8 (.ints .u8 gv3)⟩] K
def Q33.k0 {ρ : Type} (N : Nat) (K : AV → Heap → Option ρ) (gv3 : Nat → Int) : XE → St → Option ρ := (blockK Q33.kp 1 0 (Q33.fin N K gv3))
theorem Q33.k0_mix {ρ : Type} (N : Nat) (K : AV → Heap → Option ρ) (gv3 : Nat → Int) : mixK (Q33.fin N K gv3 .ret) (Q33.k0 N K gv3) = (Q33.k0 N K gv3) := by
  funext e s; cases e <;> kernel_rfl
def Q33.st0 (f0 : Nat → Int) (k1 : Int) (w2 : Nat → Int) (x4 : Int) (gv5 : Nat → Int) : St := ⟨sl 35 [(1, .sptr [(0, 8)]), (2, .int .i64 (k1)), (4, .sptr [(1, 2)]), (12, .agg [⟨.u8, 8, w2⟩]), (13, .int .i64 (x4))], [⟨true, .flat 8 (.ints .u8 gv5)⟩, ⟨true, .flat 2 (.ints .i64 f0)⟩]⟩
def Q33.sx0_0 (ov7 : Nat → Int) : St := ⟨sl 35 [], [⟨true, .flat 8 (.ints .u8 ov7)⟩]⟩
theorem Q33.b0_gen {ρ : Type} (N : Nat) (K : AV → Heap → Option ρ) (L0 : St → Option ρ) (kv : XE → St → Option ρ) (f0 : Nat → Int) (k1 : Int) (w2 : Nat → Int) (gv3 : Nat → Int) (x4 : Int) (gv5 : Nat → Int) :
    xcode (E33 N) ents Q33.kp 1 N (cL (cK (cB (cB (cB Q33.bd))))) 0 (Q33.st0 f0 k1 w2 x4 gv5) (roundK Q33.kp 1 0 L0 (mixK (Q33.fin N K gv3 .ret) kv)) = (Q33.b0 N (fun d0 => K (.tup []) [⟨true, .flat 8 (.ints .u8 d0)⟩]) (fun x4 gv5 => L0 (Q33.st0 f0 k1 w2 x4 gv5)) (fun ov7 => kv (.exit 0) (Q33.sx0_0 ov7)) f0 k1 w2 x4 gv5) := by kernel_rfl
theorem Q33.b0_eq {ρ : Type} (N : Nat) (K : AV → Heap → Option ρ) (L0 : St → Option ρ) (f0 : Nat → Int) (k1 : Int) (w2 : Nat → Int) (gv3 : Nat → Int) (x4 : Int) (gv5 : Nat → Int) :
    xcode (E33 N) ents Q33.kp 1 N (cL (cK (cB (cB (cB Q33.bd))))) 0 (Q33.st0 f0 k1 w2 x4 gv5) (roundK Q33.kp 1 0 L0 (Q33.k0 N K gv3)) = (Q33.b0 N (fun d0 => K (.tup []) [⟨true, .flat 8 (.ints .u8 d0)⟩]) (fun x4 gv5 => L0 (Q33.st0 f0 k1 w2 x4 gv5)) (fun ov7 => (Q33.k0 N K gv3) (.exit 0) (Q33.sx0_0 ov7)) f0 k1 w2 x4 gv5) := by
  have h := Q33.b0_gen N K L0 (Q33.k0 N K gv3) f0 k1 w2 gv3 x4 gv5
  rw [Q33.k0_mix] at h
  exact h
theorem Q33.a0_0_eq {ρ : Type} (N : Nat) (K : AV → Heap → Option ρ) (gv3 : Nat → Int) (ov7 : Nat → Int) :
    (Q33.k0 N K gv3) (.exit 0) (Q33.sx0_0 ov7) = (Q33.a0_0 N (fun d0 => K (.tup []) [⟨true, .flat 8 (.ints .u8 d0)⟩]) ov7) := by kernel_rfl
theorem Q33.l0_eq {ρ : Type} (N : Nat) (K : AV → Heap → Option ρ) (f0 : Nat → Int) (k1 : Int) (w2 : Nat → Int) (gv3 : Nat → Int) :
    ∀ (m : Nat) (x4 : Int) (gv5 : Nat → Int), xloop (xcode (E33 N) ents Q33.kp 1 N (cL (cK (cB (cB (cB Q33.bd))))) 0) Q33.kp 1 0 m (Q33.st0 f0 k1 w2 x4 gv5) (Q33.k0 N K gv3) = (Q33.l0 N (fun d0 => K (.tup []) [⟨true, .flat 8 (.ints .u8 d0)⟩]) f0 k1 w2 (fun ov7 => (Q33.k0 N K gv3) (.exit 0) (Q33.sx0_0 ov7)) m x4 gv5) := by
  intro m
  induction m with
  | zero => intros; rfl
  | succ m ih =>
    intro x4 gv5
    refine (Q33.b0_eq N K (fun s => xloop (xcode (E33 N) ents Q33.kp 1 N (cL (cK (cB (cB (cB Q33.bd))))) 0) Q33.kp 1 0 m s (Q33.k0 N K gv3)) f0 k1 w2 gv3 x4 gv5).trans ?_
    simp only [ih]
    kernel_rfl
theorem Q33.s_eq {ρ : Type} (N : Nat) (K : AV → Heap → Option ρ) (f0 : Nat → Int) (k1 : Int) (w2 : Nat → Int) (gv3 : Nat → Int) :
    xbody (E33 N) ents Q33.kp N Try.f80 Q33.bd [.agg [⟨.i64, 2, f0⟩], .sptr [(0, 8)], .int .i64 (k1), .agg [⟨.u8, 8, w2⟩]] [⟨true, .flat 8 (.ints .u8 gv3)⟩] K = (Q33.s N (fun d0 => K (.tup []) [⟨true, .flat 8 (.ints .u8 d0)⟩]) (fun x4 gv5 => xloop (xcode (E33 N) ents Q33.kp 1 N (cL (cK (cB (cB (cB Q33.bd))))) 0) Q33.kp 1 0 N (Q33.st0 f0 k1 w2 x4 gv5) (Q33.k0 N K gv3)) k1 gv3) := by kernel_rfl
theorem Q33.eq {ρ : Type} (N : Nat) (K : AV → Heap → Option ρ) (f0 : Nat → Int) (k1 : Int) (w2 : Nat → Int) (gv3 : Nat → Int) :
    xbody (E33 N) ents Q33.kp N Try.f80 Q33.bd [.agg [⟨.i64, 2, f0⟩], .sptr [(0, 8)], .int .i64 (k1), .agg [⟨.u8, 8, w2⟩]] [⟨true, .flat 8 (.ints .u8 gv3)⟩] K = (Q33 N (fun d0 => K (.tup []) [⟨true, .flat 8 (.ints .u8 d0)⟩]) f0 k1 w2 gv3) := by
  refine (Q33.s_eq N K f0 k1 w2 gv3).trans ?_
  simp only [Q33.l0_eq, Q33.a0_0_eq]
  kernel_rfl
def Q33.en (N : Nat) (ρ : Type) : List AV → Heap → (AV → Heap → Option ρ) → Option ρ
  | [.agg [⟨.i64, 2, f0⟩], .sptr [(0, 8)], .int .i64 (k1), .agg [⟨.u8, 8, w2⟩]], [⟨true, .flat 8 (.ints .u8 gv3)⟩], K => (Q33 N (fun d0 => K (.tup []) [⟨true, .flat 8 (.ints .u8 d0)⟩]) f0 k1 w2 gv3)
  | _, _, _ => none
theorem Q33.en_ok (N : Nat) (hE : EnvOk (E33 N) ents) (ρ : Type) (args : List AV) (sh : Heap) (K : AV → Heap → Option ρ) (r : ρ) (h : Q33.en N ρ args sh K = some r) : ∃ v sh', K v sh' = some r ∧ FnOk (E33 N).P 80 args sh v sh' := by
  unfold Q33.en at h
  split at h
  · exact fn_ok hE (kp := Q33.kp) (N := N) Try.func80 (c := Q33.bd) (by kernel_rfl) ((Q33.eq N _ _ _ _ _).trans h)
  · cases h
def E34 (N : Nat) : Env := (E33 N).add 80 (Q33.en N)
theorem E34_ok (N : Nat) : EnvOk (E34 N) ents := Env.add_ok (E33_ok N) (Q33.en_ok N (E33_ok N))
def Q34.kp : Keeps := ⟨[], [], []⟩
def Q34.bd : Code := bodyOf Try.f58
def Q34.fin {ρ : Type} (N : Nat) (K : AV → Heap → Option ρ) : XE → St → Option ρ := finK (E34 N) Q34.kp.fins Try.f58 [] K
theorem Q34.eq {ρ : Type} (N : Nat) (K : AV → Heap → Option ρ) (f0 : Nat → Int) (k1 : Int) (w2 : Nat → Int) :
    xbody (E34 N) ents Q34.kp N Try.f58 Q34.bd [.agg [⟨.i64, 2, f0⟩], .int .i64 (k1), .agg [⟨.u8, 8, w2⟩]] [] K = (Q34 N (fun d0 => K (.agg [⟨.u8, 8, d0⟩]) []) f0 k1 w2) := by kernel_rfl
def Q34.en (N : Nat) (ρ : Type) : List AV → Heap → (AV → Heap → Option ρ) → Option ρ
  | [.agg [⟨.i64, 2, f0⟩], .int .i64 (k1), .agg [⟨.u8, 8, w2⟩]], [], K => (Q34 N (fun d0 => K (.agg [⟨.u8, 8, d0⟩]) []) f0 k1 w2)
  | _, _, _ => none
theorem Q34.en_ok (N : Nat) (hE : EnvOk (E34 N) ents) (ρ : Type) (args : List AV) (sh : Heap) (K : AV → Heap → Option ρ) (r : ρ) (h : Q34.en N ρ args sh K = some r) : ∃ v sh', K v sh' = some r ∧ FnOk (E34 N).P 58 args sh v sh' := by
  unfold Q34.en at h
  split at h
  · exact fn_ok hE (kp := Q34.kp) (N := N) Try.func58 (c := Q34.bd) (by kernel_rfl) ((Q34.eq N _ _ _ _).trans h)
  · cases h
def E35 (N : Nat) : Env := (E34 N).add 58 (Q34.en N)
theorem E35_ok (N : Nat) : EnvOk (E35 N) ents := Env.add_ok (E34_ok N) (Q34.en_ok N (E34_ok N))
end
end Go.Proofs.Ytlehklooibbmcaa.H
