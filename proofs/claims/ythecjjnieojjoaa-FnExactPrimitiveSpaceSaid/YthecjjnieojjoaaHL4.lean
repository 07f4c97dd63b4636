import Derived.Test.YthecjjnieojjoaaHL3
namespace Go.Proofs.Ythecjjnieojjoaa.H
set_option linter.unusedVariables false
set_option linter.unusedSimpArgs false
noncomputable section
open Go Go.RowKit Go.Proofs.Ythecjjnieojjoaa.Hy
set_option maxRecDepth 100000
def impl_kernel_f.kp : Keeps := ⟨[(0, [2, 3, 7, 16, 17], [], [(.cell 8 0, .wholeH false .u8)]), (2, [2, 3, 7, 8, 9, 16, 17, 24, 25], [], [])], [(0, [7], [], []), (2, [2, 3, 7, 9, 16, 17], [], [])], []⟩
def impl_kernel_f.bd : Code := bodyOf Try.f91
def impl_kernel_f.fin {ρ : Type} (N : Nat) (K : AV → Heap → Option ρ) (gv2 : Nat → Int) (gv3 : Nat → Int) (gv4 : Nat → Int) (gv5 : Nat → Int) (gv6 : Nat → Int) : XE → St → Option ρ := finK (E69 N) impl_kernel_f.kp.fins Try.f91 [⟨false, .flat 2 (.ints .i64 gv2)⟩, ⟨false, .flat 2 (.ints .i64 gv3)⟩, ⟨false, .flat 520 (.ints .u8 gv4)⟩, ⟨false, .flat 8 (.ints .u8 gv5)⟩, ⟨false, .flat 8 (.ints .u8 gv6)⟩] K
def impl_kernel_f.k0 {ρ : Type} (N : Nat) (K : AV → Heap → Option ρ) (gv2 : Nat → Int) (gv3 : Nat → Int) (gv4 : Nat → Int) (gv5 : Nat → Int) (gv6 : Nat → Int) : XE → St → Option ρ := (blockK impl_kernel_f.kp 5 0 (seqK (xcode (E69 N) ents impl_kernel_f.kp 5 N (cB (cB (cB impl_kernel_f.bd))) 0) (impl_kernel_f.fin N K gv2 gv3 gv4 gv5 gv6)))
theorem impl_kernel_f.k0_mix {ρ : Type} (N : Nat) (K : AV → Heap → Option ρ) (gv2 : Nat → Int) (gv3 : Nat → Int) (gv4 : Nat → Int) (gv5 : Nat → Int) (gv6 : Nat → Int) : mixK (impl_kernel_f.fin N K gv2 gv3 gv4 gv5 gv6 .ret) (impl_kernel_f.k0 N K gv2 gv3 gv4 gv5 gv6) = (impl_kernel_f.k0 N K gv2 gv3 gv4 gv5 gv6) := by
  funext e s; cases e <;> kernel_rfl
def impl_kernel_f.st0 (f0 : Nat → Int) (forms1 : Int) (gv2 : Nat → Int) (gv3 : Nat → Int) (gv4 : Nat → Int) (gv5 : Nat → Int) (gv6 : Nat → Int) (rv7 : Nat → Int) (rv8 : Nat → Int) (x9 : Int) (gv10 : Nat) (gv11 : Nat) (gv12 : Nat → Nat) (gv13 : Nat → Nat) (gv14 : Nat → Int) : St := ⟨sl 44 [(2, .fn 92 0 [[(0, 2)], [(1, 2), (2, 520)], [(3, 8)], [(4, 8)]]), (3, .sptr [(5, 2)]), (7, .sptr [(6, 2), (7, 1), (8, 1), (9, 1)]), (16, .int .i64 (forms1)), (17, .int .i64 (x9))], [⟨false, .flat 2 (.ints .i64 gv2)⟩, ⟨false, .flat 2 (.ints .i64 gv3)⟩, ⟨false, .flat 520 (.ints .u8 gv4)⟩, ⟨false, .flat 8 (.ints .u8 gv5)⟩, ⟨false, .flat 8 (.ints .u8 gv6)⟩, ⟨true, .flat 2 (.ints .i64 f0)⟩, ⟨true, .flat 2 (.ints .i64 rv7)⟩, ⟨true, .flat 1 (.ints .i64 rv8)⟩, ⟨true, .avs [.slice false 10 0 gv10 .whole 1]⟩, ⟨true, .avs [.nils]⟩, ⟨true, .hdr 11 0 gv11 gv12 gv13 none⟩, ⟨true, .flat 0 (.ints .u8 gv14)⟩]⟩
def impl_kernel_f.sx0_0 (gv2 : Nat → Int) (gv3 : Nat → Int) (gv4 : Nat → Int) (gv5 : Nat → Int) (gv6 : Nat → Int) (rv7 : Nat → Int) (rv8 : Nat → Int) (ov24 : Nat) (ov25 : Nat) (ov26 : Nat → Nat) (ov27 : Nat → Nat) (ov28 : Nat → Int) : St := ⟨sl 44 [(7, .sptr [(5, 2), (6, 1), (7, 1), (8, 1)])], [⟨false, .flat 2 (.ints .i64 gv2)⟩, ⟨false, .flat 2 (.ints .i64 gv3)⟩, ⟨false, .flat 520 (.ints .u8 gv4)⟩, ⟨false, .flat 8 (.ints .u8 gv5)⟩, ⟨false, .flat 8 (.ints .u8 gv6)⟩, ⟨true, .flat 2 (.ints .i64 rv7)⟩, ⟨true, .flat 1 (.ints .i64 rv8)⟩, ⟨true, .avs [.slice false 9 0 ov24 .whole 1]⟩, ⟨true, .avs [.nils]⟩, ⟨true, .hdr 10 0 ov25 ov26 ov27 none⟩, ⟨true, .flat 0 (.ints .u8 ov28)⟩]⟩
def impl_kernel_f.k1g {ρ : Type} (N : Nat) (L0 : St → Option ρ) (kv : XE → St → Option ρ) : XE → St → Option ρ := (blockK impl_kernel_f.kp 5 2 (seqK (xcode (E69 N) ents impl_kernel_f.kp 5 N (cB (cB (cB (cK (cA (cB (cB (cL (cK (cB (cA (cB (cB impl_kernel_f.bd))))))))))))) 1) (blockK impl_kernel_f.kp 5 1 (seqK (xcode (E69 N) ents impl_kernel_f.kp 5 N (cB (cB (cB (cL (cK (cB (cA (cB (cB impl_kernel_f.bd))))))))) 0) (roundK impl_kernel_f.kp 5 0 L0 kv)))))
theorem impl_kernel_f.k1_mix {ρ : Type} (N : Nat) (K : AV → Heap → Option ρ) (L0 : St → Option ρ) (gv2 : Nat → Int) (gv3 : Nat → Int) (gv4 : Nat → Int) (gv5 : Nat → Int) (gv6 : Nat → Int) : mixK (impl_kernel_f.fin N K gv2 gv3 gv4 gv5 gv6 .ret) (impl_kernel_f.k1g N L0 (impl_kernel_f.k0 N K gv2 gv3 gv4 gv5 gv6)) = (impl_kernel_f.k1g N L0 (impl_kernel_f.k0 N K gv2 gv3 gv4 gv5 gv6)) := by
  funext e s; cases e <;> kernel_rfl
def impl_kernel_f.st1 (f0 : Nat → Int) (forms1 : Int) (gv2 : Nat → Int) (gv3 : Nat → Int) (gv4 : Nat → Int) (gv5 : Nat → Int) (gv6 : Nat → Int) (rv7 : Nat → Int) (rv8 : Nat → Int) (x9 : Int) (gv10 : Nat) (gv11 : Nat) (gv12 : Nat → Nat) (gv13 : Nat → Nat) (gv14 : Nat → Int) (x15 : Int) (gv16 : Nat → Int) : St := ⟨sl 44 [(2, .fn 92 0 [[(0, 2)], [(1, 2), (2, 520)], [(3, 8)], [(4, 8)]]), (3, .sptr [(5, 2)]), (7, .sptr [(6, 2), (7, 1), (8, 1), (9, 1)]), (8, .int .i64 (x9)), (9, .slice true 10 0 ((f0 1)).toNat (.exact ((f0 1)).toNat) 1), (16, .int .i64 (forms1)), (17, .int .i64 (x9)), (24, .int .i64 (((((f0 1)).toNat : Nat) : Int))), (25, .int .i64 (x15))], [⟨false, .flat 2 (.ints .i64 gv2)⟩, ⟨false, .flat 2 (.ints .i64 gv3)⟩, ⟨false, .flat 520 (.ints .u8 gv4)⟩, ⟨false, .flat 8 (.ints .u8 gv5)⟩, ⟨false, .flat 8 (.ints .u8 gv6)⟩, ⟨true, .flat 2 (.ints .i64 f0)⟩, ⟨true, .flat 2 (.ints .i64 rv7)⟩, ⟨true, .flat 1 (.ints .i64 rv8)⟩, ⟨true, .avs [.slice false 11 0 gv10 .whole 1]⟩, ⟨true, .avs [.nils]⟩, ⟨true, .flat (((f0 1)).toNat * 1) (.ints .i64 gv16)⟩, ⟨true, .hdr 12 0 gv11 gv12 gv13 none⟩, ⟨true, .flat 0 (.ints .u8 gv14)⟩]⟩
def impl_kernel_f.sx1_0 (f0 : Nat → Int) (forms1 : Int) (gv2 : Nat → Int) (gv3 : Nat → Int) (gv4 : Nat → Int) (gv5 : Nat → Int) (gv6 : Nat → Int) (rv7 : Nat → Int) (rv8 : Nat → Int) (x9 : Int) (gv10 : Nat) (gv11 : Nat) (gv12 : Nat → Nat) (gv13 : Nat → Nat) (gv14 : Nat → Int) (ov18 : Nat → Int) : St := ⟨sl 44 [(2, .fn 92 0 [[(0, 2)], [(1, 2), (2, 520)], [(3, 8)], [(4, 8)]]), (3, .sptr [(5, 2)]), (7, .sptr [(6, 2), (7, 1), (8, 1), (9, 1)]), (9, .slice true 10 0 ((f0 1)).toNat (.exact ((f0 1)).toNat) 1), (16, .int .i64 (forms1)), (17, .int .i64 (x9))], [⟨false, .flat 2 (.ints .i64 gv2)⟩, ⟨false, .flat 2 (.ints .i64 gv3)⟩, ⟨false, .flat 520 (.ints .u8 gv4)⟩, ⟨false, .flat 8 (.ints .u8 gv5)⟩, ⟨false, .flat 8 (.ints .u8 gv6)⟩, ⟨true, .flat 2 (.ints .i64 f0)⟩, ⟨true, .flat 2 (.ints .i64 rv7)⟩, ⟨true, .flat 1 (.ints .i64 rv8)⟩, ⟨true, .avs [.slice false 11 0 gv10 .whole 1]⟩, ⟨true, .avs [.nils]⟩, ⟨true, .flat (((f0 1)).toNat * 1) (.ints .i64 ov18)⟩, ⟨true, .hdr 12 0 gv11 gv12 gv13 none⟩, ⟨true, .flat 0 (.ints .u8 gv14)⟩]⟩
theorem impl_kernel_f.b1_gen {ρ : Type} (N : Nat) (K : AV → Heap → Option ρ) (L1 : St → Option ρ) (kv : XE → St → Option ρ) (f0 : Nat → Int) (forms1 : Int) (gv2 : Nat → Int) (gv3 : Nat → Int) (gv4 : Nat → Int) (gv5 : Nat → Int) (gv6 : Nat → Int) (rv7 : Nat → Int) (rv8 : Nat → Int) (x9 : Int) (gv10 : Nat) (gv11 : Nat) (gv12 : Nat → Nat) (gv13 : Nat → Nat) (gv14 : Nat → Int) (x15 : Int) (gv16 : Nat → Int) :
    xcode (E69 N) ents impl_kernel_f.kp 5 N (cL (cK (cB (cA (cB (cB (cK (cA (cB (cB (cL (cK (cB (cA (cB (cB impl_kernel_f.bd)))))))))))))))) 2 (impl_kernel_f.st1 f0 forms1 gv2 gv3 gv4 gv5 gv6 rv7 rv8 x9 gv10 gv11 gv12 gv13 gv14 x15 gv16) (roundK impl_kernel_f.kp 5 2 L1 (mixK (impl_kernel_f.fin N K gv2 gv3 gv4 gv5 gv6 .ret) kv)) = (impl_kernel_f.b1 N (fun d0 d1 => K (.slice true 5 0 d0 .whole 8) [⟨false, .flat 2 (.ints .i64 gv2)⟩, ⟨false, .flat 2 (.ints .i64 gv3)⟩, ⟨false, .flat 520 (.ints .u8 gv4)⟩, ⟨false, .flat 8 (.ints .u8 gv5)⟩, ⟨false, .flat 8 (.ints .u8 gv6)⟩, ⟨true, .flat 0 (.ints .u8 d1)⟩]) (fun x15 gv16 => L1 (impl_kernel_f.st1 f0 forms1 gv2 gv3 gv4 gv5 gv6 rv7 rv8 x9 gv10 gv11 gv12 gv13 gv14 x15 gv16)) (fun ov18 => kv (.exit 2) (impl_kernel_f.sx1_0 f0 forms1 gv2 gv3 gv4 gv5 gv6 rv7 rv8 x9 gv10 gv11 gv12 gv13 gv14 ov18)) f0 gv2 gv3 gv4 gv5 gv6 x9 x15 gv16) := by kernel_rfl
theorem impl_kernel_f.b1_eq {ρ : Type} (N : Nat) (K : AV → Heap → Option ρ) (L0 : St → Option ρ) (L1 : St → Option ρ) (f0 : Nat → Int) (forms1 : Int) (gv2 : Nat → Int) (gv3 : Nat → Int) (gv4 : Nat → Int) (gv5 : Nat → Int) (gv6 : Nat → Int) (rv7 : Nat → Int) (rv8 : Nat → Int) (x9 : Int) (gv10 : Nat) (gv11 : Nat) (gv12 : Nat → Nat) (gv13 : Nat → Nat) (gv14 : Nat → Int) (x15 : Int) (gv16 : Nat → Int) :
    xcode (E69 N) ents impl_kernel_f.kp 5 N (cL (cK (cB (cA (cB (cB (cK (cA (cB (cB (cL (cK (cB (cA (cB (cB impl_kernel_f.bd)))))))))))))))) 2 (impl_kernel_f.st1 f0 forms1 gv2 gv3 gv4 gv5 gv6 rv7 rv8 x9 gv10 gv11 gv12 gv13 gv14 x15 gv16) (roundK impl_kernel_f.kp 5 2 L1 (impl_kernel_f.k1g N L0 (impl_kernel_f.k0 N K gv2 gv3 gv4 gv5 gv6))) = (impl_kernel_f.b1 N (fun d0 d1 => K (.slice true 5 0 d0 .whole 8) [⟨false, .flat 2 (.ints .i64 gv2)⟩, ⟨false, .flat 2 (.ints .i64 gv3)⟩, ⟨false, .flat 520 (.ints .u8 gv4)⟩, ⟨false, .flat 8 (.ints .u8 gv5)⟩, ⟨false, .flat 8 (.ints .u8 gv6)⟩, ⟨true, .flat 0 (.ints .u8 d1)⟩]) (fun x15 gv16 => L1 (impl_kernel_f.st1 f0 forms1 gv2 gv3 gv4 gv5 gv6 rv7 rv8 x9 gv10 gv11 gv12 gv13 gv14 x15 gv16)) (fun ov18 => (impl_kernel_f.k1g N L0 (impl_kernel_f.k0 N K gv2 gv3 gv4 gv5 gv6)) (.exit 2) (impl_kernel_f.sx1_0 f0 forms1 gv2 gv3 gv4 gv5 gv6 rv7 rv8 x9 gv10 gv11 gv12 gv13 gv14 ov18)) f0 gv2 gv3 gv4 gv5 gv6 x9 x15 gv16) := by
  have h := impl_kernel_f.b1_gen N K L1 (impl_kernel_f.k1g N L0 (impl_kernel_f.k0 N K gv2 gv3 gv4 gv5 gv6)) f0 forms1 gv2 gv3 gv4 gv5 gv6 rv7 rv8 x9 gv10 gv11 gv12 gv13 gv14 x15 gv16
  rw [impl_kernel_f.k1_mix] at h
  exact h
theorem impl_kernel_f.a1_0_gen {ρ : Type} (N : Nat) (K : AV → Heap → Option ρ) (L0 : St → Option ρ) (kv : XE → St → Option ρ) (f0 : Nat → Int) (forms1 : Int) (gv2 : Nat → Int) (gv3 : Nat → Int) (gv4 : Nat → Int) (gv5 : Nat → Int) (gv6 : Nat → Int) (rv7 : Nat → Int) (rv8 : Nat → Int) (x9 : Int) (gv10 : Nat) (gv11 : Nat) (gv12 : Nat → Nat) (gv13 : Nat → Nat) (gv14 : Nat → Int) (ov18 : Nat → Int) :
    (impl_kernel_f.k1g N L0 (mixK (impl_kernel_f.fin N K gv2 gv3 gv4 gv5 gv6 .ret) kv)) (.exit 2) (impl_kernel_f.sx1_0 f0 forms1 gv2 gv3 gv4 gv5 gv6 rv7 rv8 x9 gv10 gv11 gv12 gv13 gv14 ov18) = (impl_kernel_f.a1_0 N (fun d0 d1 => K (.slice true 5 0 d0 .whole 8) [⟨false, .flat 2 (.ints .i64 gv2)⟩, ⟨false, .flat 2 (.ints .i64 gv3)⟩, ⟨false, .flat 520 (.ints .u8 gv4)⟩, ⟨false, .flat 8 (.ints .u8 gv5)⟩, ⟨false, .flat 8 (.ints .u8 gv6)⟩, ⟨true, .flat 0 (.ints .u8 d1)⟩]) (fun x9 gv10 gv11 gv12 gv13 gv14 => L0 (impl_kernel_f.st0 f0 forms1 gv2 gv3 gv4 gv5 gv6 rv7 rv8 x9 gv10 gv11 gv12 gv13 gv14)) (fun ov24 ov25 ov26 ov27 ov28 => kv (.exit 0) (impl_kernel_f.sx0_0 gv2 gv3 gv4 gv5 gv6 rv7 rv8 ov24 ov25 ov26 ov27 ov28)) f0 rv7 rv8 x9 gv10 gv11 gv12 gv13 gv14 ov18) := by kernel_rfl
theorem impl_kernel_f.a1_0_eq {ρ : Type} (N : Nat) (K : AV → Heap → Option ρ) (L0 : St → Option ρ) (f0 : Nat → Int) (forms1 : Int) (gv2 : Nat → Int) (gv3 : Nat → Int) (gv4 : Nat → Int) (gv5 : Nat → Int) (gv6 : Nat → Int) (rv7 : Nat → Int) (rv8 : Nat → Int) (x9 : Int) (gv10 : Nat) (gv11 : Nat) (gv12 : Nat → Nat) (gv13 : Nat → Nat) (gv14 : Nat → Int) (ov18 : Nat → Int) :
    (impl_kernel_f.k1g N L0 (impl_kernel_f.k0 N K gv2 gv3 gv4 gv5 gv6)) (.exit 2) (impl_kernel_f.sx1_0 f0 forms1 gv2 gv3 gv4 gv5 gv6 rv7 rv8 x9 gv10 gv11 gv12 gv13 gv14 ov18) = (impl_kernel_f.a1_0 N (fun d0 d1 => K (.slice true 5 0 d0 .whole 8) [⟨false, .flat 2 (.ints .i64 gv2)⟩, ⟨false, .flat 2 (.ints .i64 gv3)⟩, ⟨false, .flat 520 (.ints .u8 gv4)⟩, ⟨false, .flat 8 (.ints .u8 gv5)⟩, ⟨false, .flat 8 (.ints .u8 gv6)⟩, ⟨true, .flat 0 (.ints .u8 d1)⟩]) (fun x9 gv10 gv11 gv12 gv13 gv14 => L0 (impl_kernel_f.st0 f0 forms1 gv2 gv3 gv4 gv5 gv6 rv7 rv8 x9 gv10 gv11 gv12 gv13 gv14)) (fun ov24 ov25 ov26 ov27 ov28 => (impl_kernel_f.k0 N K gv2 gv3 gv4 gv5 gv6) (.exit 0) (impl_kernel_f.sx0_0 gv2 gv3 gv4 gv5 gv6 rv7 rv8 ov24 ov25 ov26 ov27 ov28)) f0 rv7 rv8 x9 gv10 gv11 gv12 gv13 gv14 ov18) := by
  have h := impl_kernel_f.a1_0_gen N K L0 (impl_kernel_f.k0 N K gv2 gv3 gv4 gv5 gv6) f0 forms1 gv2 gv3 gv4 gv5 gv6 rv7 rv8 x9 gv10 gv11 gv12 gv13 gv14 ov18
  rw [impl_kernel_f.k0_mix] at h
  exact h
theorem impl_kernel_f.b0_gen {ρ : Type} (N : Nat) (K : AV → Heap → Option ρ) (L0 : St → Option ρ) (kv : XE → St → Option ρ) (f0 : Nat → Int) (forms1 : Int) (gv2 : Nat → Int) (gv3 : Nat → Int) (gv4 : Nat → Int) (gv5 : Nat → Int) (gv6 : Nat → Int) (rv7 : Nat → Int) (rv8 : Nat → Int) (x9 : Int) (gv10 : Nat) (gv11 : Nat) (gv12 : Nat → Nat) (gv13 : Nat → Nat) (gv14 : Nat → Int) :
    xcode (E69 N) ents impl_kernel_f.kp 5 N (cL (cK (cB (cA (cB (cB impl_kernel_f.bd)))))) 0 (impl_kernel_f.st0 f0 forms1 gv2 gv3 gv4 gv5 gv6 rv7 rv8 x9 gv10 gv11 gv12 gv13 gv14) (roundK impl_kernel_f.kp 5 0 L0 (mixK (impl_kernel_f.fin N K gv2 gv3 gv4 gv5 gv6 .ret) kv)) = (impl_kernel_f.b0 N (fun d0 d1 => K (.slice true 5 0 d0 .whole 8) [⟨false, .flat 2 (.ints .i64 gv2)⟩, ⟨false, .flat 2 (.ints .i64 gv3)⟩, ⟨false, .flat 520 (.ints .u8 gv4)⟩, ⟨false, .flat 8 (.ints .u8 gv5)⟩, ⟨false, .flat 8 (.ints .u8 gv6)⟩, ⟨true, .flat 0 (.ints .u8 d1)⟩]) (fun x15 gv16 => xloop (xcode (E69 N) ents impl_kernel_f.kp 5 N (cL (cK (cB (cA (cB (cB (cK (cA (cB (cB (cL (cK (cB (cA (cB (cB impl_kernel_f.bd)))))))))))))))) 2) impl_kernel_f.kp 5 2 N (impl_kernel_f.st1 f0 forms1 gv2 gv3 gv4 gv5 gv6 rv7 rv8 x9 gv10 gv11 gv12 gv13 gv14 x15 gv16) (impl_kernel_f.k1g N L0 (mixK (impl_kernel_f.fin N K gv2 gv3 gv4 gv5 gv6 .ret) kv))) (fun x9 gv10 gv11 gv12 gv13 gv14 => L0 (impl_kernel_f.st0 f0 forms1 gv2 gv3 gv4 gv5 gv6 rv7 rv8 x9 gv10 gv11 gv12 gv13 gv14)) (fun ov24 ov25 ov26 ov27 ov28 => kv (.exit 0) (impl_kernel_f.sx0_0 gv2 gv3 gv4 gv5 gv6 rv7 rv8 ov24 ov25 ov26 ov27 ov28)) f0 forms1 x9 gv10 gv11 gv12 gv13 gv14) := by kernel_rfl
theorem impl_kernel_f.b0_eq {ρ : Type} (N : Nat) (K : AV → Heap → Option ρ) (L0 : St → Option ρ) (f0 : Nat → Int) (forms1 : Int) (gv2 : Nat → Int) (gv3 : Nat → Int) (gv4 : Nat → Int) (gv5 : Nat → Int) (gv6 : Nat → Int) (rv7 : Nat → Int) (rv8 : Nat → Int) (x9 : Int) (gv10 : Nat) (gv11 : Nat) (gv12 : Nat → Nat) (gv13 : Nat → Nat) (gv14 : Nat → Int) :
    xcode (E69 N) ents impl_kernel_f.kp 5 N (cL (cK (cB (cA (cB (cB impl_kernel_f.bd)))))) 0 (impl_kernel_f.st0 f0 forms1 gv2 gv3 gv4 gv5 gv6 rv7 rv8 x9 gv10 gv11 gv12 gv13 gv14) (roundK impl_kernel_f.kp 5 0 L0 (impl_kernel_f.k0 N K gv2 gv3 gv4 gv5 gv6)) = (impl_kernel_f.b0 N (fun d0 d1 => K (.slice true 5 0 d0 .whole 8) [⟨false, .flat 2 (.ints .i64 gv2)⟩, ⟨false, .flat 2 (.ints .i64 gv3)⟩, ⟨false, .flat 520 (.ints .u8 gv4)⟩, ⟨false, .flat 8 (.ints .u8 gv5)⟩, ⟨false, .flat 8 (.ints .u8 gv6)⟩, ⟨true, .flat 0 (.ints .u8 d1)⟩]) (fun x15 gv16 => xloop (xcode (E69 N) ents impl_kernel_f.kp 5 N (cL (cK (cB (cA (cB (cB (cK (cA (cB (cB (cL (cK (cB (cA (cB (cB impl_kernel_f.bd)))))))))))))))) 2) impl_kernel_f.kp 5 2 N (impl_kernel_f.st1 f0 forms1 gv2 gv3 gv4 gv5 gv6 rv7 rv8 x9 gv10 gv11 gv12 gv13 gv14 x15 gv16) (impl_kernel_f.k1g N L0 (impl_kernel_f.k0 N K gv2 gv3 gv4 gv5 gv6))) (fun x9 gv10 gv11 gv12 gv13 gv14 => L0 (impl_kernel_f.st0 f0 forms1 gv2 gv3 gv4 gv5 gv6 rv7 rv8 x9 gv10 gv11 gv12 gv13 gv14)) (fun ov24 ov25 ov26 ov27 ov28 => (impl_kernel_f.k0 N K gv2 gv3 gv4 gv5 gv6) (.exit 0) (impl_kernel_f.sx0_0 gv2 gv3 gv4 gv5 gv6 rv7 rv8 ov24 ov25 ov26 ov27 ov28)) f0 forms1 x9 gv10 gv11 gv12 gv13 gv14) := by
  have h := impl_kernel_f.b0_gen N K L0 (impl_kernel_f.k0 N K gv2 gv3 gv4 gv5 gv6) f0 forms1 gv2 gv3 gv4 gv5 gv6 rv7 rv8 x9 gv10 gv11 gv12 gv13 gv14
  rw [impl_kernel_f.k0_mix] at h
  exact h
theorem impl_kernel_f.a0_0_eq {ρ : Type} (N : Nat) (K : AV → Heap → Option ρ) (gv2 : Nat → Int) (gv3 : Nat → Int) (gv4 : Nat → Int) (gv5 : Nat → Int) (gv6 : Nat → Int) (rv7 : Nat → Int) (rv8 : Nat → Int) (ov24 : Nat) (ov25 : Nat) (ov26 : Nat → Nat) (ov27 : Nat → Nat) (ov28 : Nat → Int) :
    (impl_kernel_f.k0 N K gv2 gv3 gv4 gv5 gv6) (.exit 0) (impl_kernel_f.sx0_0 gv2 gv3 gv4 gv5 gv6 rv7 rv8 ov24 ov25 ov26 ov27 ov28) = (impl_kernel_f.a0_0 N (fun d0 d1 => K (.slice true 5 0 d0 .whole 8) [⟨false, .flat 2 (.ints .i64 gv2)⟩, ⟨false, .flat 2 (.ints .i64 gv3)⟩, ⟨false, .flat 520 (.ints .u8 gv4)⟩, ⟨false, .flat 8 (.ints .u8 gv5)⟩, ⟨false, .flat 8 (.ints .u8 gv6)⟩, ⟨true, .flat 0 (.ints .u8 d1)⟩]) rv7 rv8 ov24 ov25 ov26 ov27 ov28) := by kernel_rfl
theorem impl_kernel_f.l1_eq {ρ : Type} (N : Nat) (K : AV → Heap → Option ρ) (L0 : St → Option ρ) (f0 : Nat → Int) (forms1 : Int) (gv2 : Nat → Int) (gv3 : Nat → Int) (gv4 : Nat → Int) (gv5 : Nat → Int) (gv6 : Nat → Int) (rv7 : Nat → Int) (rv8 : Nat → Int) (x9 : Int) (gv10 : Nat) (gv11 : Nat) (gv12 : Nat → Nat) (gv13 : Nat → Nat) (gv14 : Nat → Int) :
    ∀ (m : Nat) (x15 : Int) (gv16 : Nat → Int), xloop (xcode (E69 N) ents impl_kernel_f.kp 5 N (cL (cK (cB (cA (cB (cB (cK (cA (cB (cB (cL (cK (cB (cA (cB (cB impl_kernel_f.bd)))))))))))))))) 2) impl_kernel_f.kp 5 2 m (impl_kernel_f.st1 f0 forms1 gv2 gv3 gv4 gv5 gv6 rv7 rv8 x9 gv10 gv11 gv12 gv13 gv14 x15 gv16) (impl_kernel_f.k1g N L0 (impl_kernel_f.k0 N K gv2 gv3 gv4 gv5 gv6)) = (impl_kernel_f.l1 N (fun d0 d1 => K (.slice true 5 0 d0 .whole 8) [⟨false, .flat 2 (.ints .i64 gv2)⟩, ⟨false, .flat 2 (.ints .i64 gv3)⟩, ⟨false, .flat 520 (.ints .u8 gv4)⟩, ⟨false, .flat 8 (.ints .u8 gv5)⟩, ⟨false, .flat 8 (.ints .u8 gv6)⟩, ⟨true, .flat 0 (.ints .u8 d1)⟩]) f0 gv2 gv3 gv4 gv5 gv6 x9 (fun ov18 => (impl_kernel_f.k1g N L0 (impl_kernel_f.k0 N K gv2 gv3 gv4 gv5 gv6)) (.exit 2) (impl_kernel_f.sx1_0 f0 forms1 gv2 gv3 gv4 gv5 gv6 rv7 rv8 x9 gv10 gv11 gv12 gv13 gv14 ov18)) m x15 gv16) := by
  intro m
  induction m with
  | zero => intros; rfl
  | succ m ih =>
    intro x15 gv16
    refine (impl_kernel_f.b1_eq N K L0 (fun s => xloop (xcode (E69 N) ents impl_kernel_f.kp 5 N (cL (cK (cB (cA (cB (cB (cK (cA (cB (cB (cL (cK (cB (cA (cB (cB impl_kernel_f.bd)))))))))))))))) 2) impl_kernel_f.kp 5 2 m s (impl_kernel_f.k1g N L0 (impl_kernel_f.k0 N K gv2 gv3 gv4 gv5 gv6))) f0 forms1 gv2 gv3 gv4 gv5 gv6 rv7 rv8 x9 gv10 gv11 gv12 gv13 gv14 x15 gv16).trans ?_
    simp only [ih]
    kernel_rfl
theorem impl_kernel_f.l0_eq {ρ : Type} (N : Nat) (K : AV → Heap → Option ρ) (f0 : Nat → Int) (forms1 : Int) (gv2 : Nat → Int) (gv3 : Nat → Int) (gv4 : Nat → Int) (gv5 : Nat → Int) (gv6 : Nat → Int) (rv7 : Nat → Int) (rv8 : Nat → Int) :
    ∀ (m : Nat) (x9 : Int) (gv10 : Nat) (gv11 : Nat) (gv12 : Nat → Nat) (gv13 : Nat → Nat) (gv14 : Nat → Int), xloop (xcode (E69 N) ents impl_kernel_f.kp 5 N (cL (cK (cB (cA (cB (cB impl_kernel_f.bd)))))) 0) impl_kernel_f.kp 5 0 m (impl_kernel_f.st0 f0 forms1 gv2 gv3 gv4 gv5 gv6 rv7 rv8 x9 gv10 gv11 gv12 gv13 gv14) (impl_kernel_f.k0 N K gv2 gv3 gv4 gv5 gv6) = (impl_kernel_f.l0 N (fun d0 d1 => K (.slice true 5 0 d0 .whole 8) [⟨false, .flat 2 (.ints .i64 gv2)⟩, ⟨false, .flat 2 (.ints .i64 gv3)⟩, ⟨false, .flat 520 (.ints .u8 gv4)⟩, ⟨false, .flat 8 (.ints .u8 gv5)⟩, ⟨false, .flat 8 (.ints .u8 gv6)⟩, ⟨true, .flat 0 (.ints .u8 d1)⟩]) f0 forms1 gv2 gv3 gv4 gv5 gv6 rv7 rv8 (fun ov24 ov25 ov26 ov27 ov28 => (impl_kernel_f.k0 N K gv2 gv3 gv4 gv5 gv6) (.exit 0) (impl_kernel_f.sx0_0 gv2 gv3 gv4 gv5 gv6 rv7 rv8 ov24 ov25 ov26 ov27 ov28)) m x9 gv10 gv11 gv12 gv13 gv14) := by
  intro m
  induction m with
  | zero => intros; rfl
  | succ m ih =>
    intro x9 gv10 gv11 gv12 gv13 gv14
    refine (impl_kernel_f.b0_eq N K (fun s => xloop (xcode (E69 N) ents impl_kernel_f.kp 5 N (cL (cK (cB (cA (cB (cB impl_kernel_f.bd)))))) 0) impl_kernel_f.kp 5 0 m s (impl_kernel_f.k0 N K gv2 gv3 gv4 gv5 gv6)) f0 forms1 gv2 gv3 gv4 gv5 gv6 rv7 rv8 x9 gv10 gv11 gv12 gv13 gv14).trans ?_
    simp only [ih, impl_kernel_f.l1_eq, impl_kernel_f.a1_0_eq]
    kernel_rfl
theorem impl_kernel_f.s_eq {ρ : Type} (N : Nat) (K : AV → Heap → Option ρ) (f0 : Nat → Int) (forms1 : Int) (gv2 : Nat → Int) (gv3 : Nat → Int) (gv4 : Nat → Int) (gv5 : Nat → Int) (gv6 : Nat → Int) :
    xbody (E69 N) ents impl_kernel_f.kp N Try.f91 impl_kernel_f.bd [.agg [⟨.i64, 2, f0⟩], .int .i64 (forms1), .fn 92 0 [[(0, 2)], [(1, 2), (2, 520)], [(3, 8)], [(4, 8)]]] [⟨false, .flat 2 (.ints .i64 gv2)⟩, ⟨false, .flat 2 (.ints .i64 gv3)⟩, ⟨false, .flat 520 (.ints .u8 gv4)⟩, ⟨false, .flat 8 (.ints .u8 gv5)⟩, ⟨false, .flat 8 (.ints .u8 gv6)⟩] K = (impl_kernel_f.s N (fun d0 d1 => K (.slice true 5 0 d0 .whole 8) [⟨false, .flat 2 (.ints .i64 gv2)⟩, ⟨false, .flat 2 (.ints .i64 gv3)⟩, ⟨false, .flat 520 (.ints .u8 gv4)⟩, ⟨false, .flat 8 (.ints .u8 gv5)⟩, ⟨false, .flat 8 (.ints .u8 gv6)⟩, ⟨true, .flat 0 (.ints .u8 d1)⟩]) (fun rv7 rv8 x9 gv10 gv11 gv12 gv13 gv14 => xloop (xcode (E69 N) ents impl_kernel_f.kp 5 N (cL (cK (cB (cA (cB (cB impl_kernel_f.bd)))))) 0) impl_kernel_f.kp 5 0 N (impl_kernel_f.st0 f0 forms1 gv2 gv3 gv4 gv5 gv6 rv7 rv8 x9 gv10 gv11 gv12 gv13 gv14) (impl_kernel_f.k0 N K gv2 gv3 gv4 gv5 gv6)) f0) := by kernel_rfl
theorem impl_kernel_f.eq {ρ : Type} (N : Nat) (K : AV → Heap → Option ρ) (f0 : Nat → Int) (forms1 : Int) (gv2 : Nat → Int) (gv3 : Nat → Int) (gv4 : Nat → Int) (gv5 : Nat → Int) (gv6 : Nat → Int) :
    xbody (E69 N) ents impl_kernel_f.kp N Try.f91 impl_kernel_f.bd [.agg [⟨.i64, 2, f0⟩], .int .i64 (forms1), .fn 92 0 [[(0, 2)], [(1, 2), (2, 520)], [(3, 8)], [(4, 8)]]] [⟨false, .flat 2 (.ints .i64 gv2)⟩, ⟨false, .flat 2 (.ints .i64 gv3)⟩, ⟨false, .flat 520 (.ints .u8 gv4)⟩, ⟨false, .flat 8 (.ints .u8 gv5)⟩, ⟨false, .flat 8 (.ints .u8 gv6)⟩] K = (impl_kernel_f N (fun d0 d1 => K (.slice true 5 0 d0 .whole 8) [⟨false, .flat 2 (.ints .i64 gv2)⟩, ⟨false, .flat 2 (.ints .i64 gv3)⟩, ⟨false, .flat 520 (.ints .u8 gv4)⟩, ⟨false, .flat 8 (.ints .u8 gv5)⟩, ⟨false, .flat 8 (.ints .u8 gv6)⟩, ⟨true, .flat 0 (.ints .u8 d1)⟩]) f0 forms1 gv2 gv3 gv4 gv5 gv6) := by
  refine (impl_kernel_f.s_eq N K f0 forms1 gv2 gv3 gv4 gv5 gv6).trans ?_
  simp only [impl_kernel_f.l0_eq, impl_kernel_f.a0_0_eq]
  kernel_rfl
def impl_kernel_f.en (N : Nat) (ρ : Type) : List AV → Heap → (AV → Heap → Option ρ) → Option ρ
  | [.agg [⟨.i64, 2, f0⟩], .int .i64 (forms1), .fn 92 0 [[(0, 2)], [(1, 2), (2, 520)], [(3, 8)], [(4, 8)]]], [⟨false, .flat 2 (.ints .i64 gv2)⟩, ⟨false, .flat 2 (.ints .i64 gv3)⟩, ⟨false, .flat 520 (.ints .u8 gv4)⟩, ⟨false, .flat 8 (.ints .u8 gv5)⟩, ⟨false, .flat 8 (.ints .u8 gv6)⟩], K => (impl_kernel_f N (fun d0 d1 => K (.slice true 5 0 d0 .whole 8) [⟨false, .flat 2 (.ints .i64 gv2)⟩, ⟨false, .flat 2 (.ints .i64 gv3)⟩, ⟨false, .flat 520 (.ints .u8 gv4)⟩, ⟨false, .flat 8 (.ints .u8 gv5)⟩, ⟨false, .flat 8 (.ints .u8 gv6)⟩, ⟨true, .flat 0 (.ints .u8 d1)⟩]) f0 forms1 gv2 gv3 gv4 gv5 gv6)
  | _, _, _ => none
theorem impl_kernel_f.en_ok (N : Nat) (hE : EnvOk (E69 N) ents) (ρ : Type) (args : List AV) (sh : Heap) (K : AV → Heap → Option ρ) (r : ρ) (h : impl_kernel_f.en N ρ args sh K = some r) : ∃ v sh', K v sh' = some r ∧ FnOk (E69 N).P 91 args sh v sh' := by
  unfold impl_kernel_f.en at h
  split at h
  · exact fn_ok hE (kp := impl_kernel_f.kp) (N := N) Try.func91 (c := impl_kernel_f.bd) (by kernel_rfl) ((impl_kernel_f.eq N _ _ _ _ _ _ _ _).trans h)
  · cases h
def E70 (N : Nat) : Env := (E69 N).add 91 (impl_kernel_f.en N)
theorem E70_ok (N : Nat) : EnvOk (E70 N) ents := Env.add_ok (E69_ok N) (impl_kernel_f.en_ok N (E69_ok N))
def impl_Coalgebra_coproduct.kp : Keeps := ⟨[(0, [0, 4, 5, 6, 13, 14], [], []), (2, [0, 4, 5, 6, 7, 8, 13, 14, 19, 20], [], [])], [(0, [4, 6], [], []), (2, [0, 4, 5, 6, 13, 14], [], [])], []⟩
def impl_Coalgebra_coproduct.bd : Code := bodyOf Try.f68
def impl_Coalgebra_coproduct.fin {ρ : Type} (N : Nat) (K : AV → Heap → Option ρ) (gv1 : Nat → Int) (gv2 : Nat → Int) : XE → St → Option ρ := finK (E70 N) impl_Coalgebra_coproduct.kp.fins Try.f68 [⟨false, .flat 2 (.ints .i64 gv1)⟩, ⟨false, .flat 520 (.ints .u8 gv2)⟩] K
def impl_Coalgebra_coproduct.k0 {ρ : Type} (N : Nat) (K : AV → Heap → Option ρ) (gv1 : Nat → Int) (gv2 : Nat → Int) : XE → St → Option ρ := (blockK impl_Coalgebra_coproduct.kp 2 0 (seqK (xcode (E70 N) ents impl_Coalgebra_coproduct.kp 2 N (cB (cB (cB impl_Coalgebra_coproduct.bd))) 0) (impl_Coalgebra_coproduct.fin N K gv1 gv2)))
theorem impl_Coalgebra_coproduct.k0_mix {ρ : Type} (N : Nat) (K : AV → Heap → Option ρ) (gv1 : Nat → Int) (gv2 : Nat → Int) : mixK (impl_Coalgebra_coproduct.fin N K gv1 gv2 .ret) (impl_Coalgebra_coproduct.k0 N K gv1 gv2) = (impl_Coalgebra_coproduct.k0 N K gv1 gv2) := by
  funext e s; cases e <;> kernel_rfl
def impl_Coalgebra_coproduct.st0 (v0 : Nat → Int) (gv1 : Nat → Int) (gv2 : Nat → Int) (rv3 : Nat → Int) (x4 : Int) (gv5 : Nat → Int) : St := ⟨sl 40 [(0, .sptr [(0, 2), (1, 520)]), (4, .sptr [(2, 64)]), (5, .sptr [(3, 2)]), (6, .sptr [(4, 64)]), (13, .agg [⟨.u8, 8, v0⟩]), (14, .int .i64 (x4))], [⟨false, .flat 2 (.ints .i64 gv1)⟩, ⟨false, .flat 520 (.ints .u8 gv2)⟩, ⟨true, .flat 64 (.ints .u8 (fun _ => 0))⟩, ⟨true, .flat 2 (.ints .i64 rv3)⟩, ⟨true, .flat 64 (.ints .u8 gv5)⟩]⟩
def impl_Coalgebra_coproduct.sx0_0 (gv1 : Nat → Int) (gv2 : Nat → Int) (ov10 : Nat → Int) : St := ⟨sl 40 [(4, .sptr [(2, 64)]), (6, .sptr [(3, 64)])], [⟨false, .flat 2 (.ints .i64 gv1)⟩, ⟨false, .flat 520 (.ints .u8 gv2)⟩, ⟨true, .flat 64 (.ints .u8 (fun _ => 0))⟩, ⟨true, .flat 64 (.ints .u8 ov10)⟩]⟩
def impl_Coalgebra_coproduct.k1g {ρ : Type} (N : Nat) (L0 : St → Option ρ) (kv : XE → St → Option ρ) : XE → St → Option ρ := (blockK impl_Coalgebra_coproduct.kp 2 2 (blockK impl_Coalgebra_coproduct.kp 2 1 (seqK (xcode (E70 N) ents impl_Coalgebra_coproduct.kp 2 N (cB (cB (cB (cL (cK (cB (cA (cB (cB impl_Coalgebra_coproduct.bd))))))))) 0) (roundK impl_Coalgebra_coproduct.kp 2 0 L0 kv))))
theorem impl_Coalgebra_coproduct.k1_mix {ρ : Type} (N : Nat) (K : AV → Heap → Option ρ) (L0 : St → Option ρ) (gv1 : Nat → Int) (gv2 : Nat → Int) : mixK (impl_Coalgebra_coproduct.fin N K gv1 gv2 .ret) (impl_Coalgebra_coproduct.k1g N L0 (impl_Coalgebra_coproduct.k0 N K gv1 gv2)) = (impl_Coalgebra_coproduct.k1g N L0 (impl_Coalgebra_coproduct.k0 N K gv1 gv2)) := by
  funext e s; cases e <;> kernel_rfl
def impl_Coalgebra_coproduct.st1 (v0 : Nat → Int) (gv1 : Nat → Int) (gv2 : Nat → Int) (rv3 : Nat → Int) (x4 : Int) (x6 : Int) (gv7 : Nat → Int) : St := ⟨sl 40 [(0, .sptr [(0, 2), (1, 520)]), (4, .sptr [(2, 64)]), (5, .sptr [(3, 2)]), (6, .sptr [(4, 64)]), (7, .int .i64 (x4)), (8, .int .u8 ((v0 x4.toNat))), (13, .agg [⟨.u8, 8, v0⟩]), (14, .int .i64 (x4)), (19, .int .i64 ((rv3 1))), (20, .int .i64 (x6))], [⟨false, .flat 2 (.ints .i64 gv1)⟩, ⟨false, .flat 520 (.ints .u8 gv2)⟩, ⟨true, .flat 64 (.ints .u8 (fun _ => 0))⟩, ⟨true, .flat 2 (.ints .i64 rv3)⟩, ⟨true, .flat 64 (.ints .u8 gv7)⟩]⟩
def impl_Coalgebra_coproduct.sx1_0 (v0 : Nat → Int) (gv1 : Nat → Int) (gv2 : Nat → Int) (rv3 : Nat → Int) (x4 : Int) (ov9 : Nat → Int) : St := ⟨sl 40 [(0, .sptr [(0, 2), (1, 520)]), (4, .sptr [(2, 64)]), (5, .sptr [(3, 2)]), (6, .sptr [(4, 64)]), (13, .agg [⟨.u8, 8, v0⟩]), (14, .int .i64 (x4))], [⟨false, .flat 2 (.ints .i64 gv1)⟩, ⟨false, .flat 520 (.ints .u8 gv2)⟩, ⟨true, .flat 64 (.ints .u8 (fun _ => 0))⟩, ⟨true, .flat 2 (.ints .i64 rv3)⟩, ⟨true, .flat 64 (.ints .u8 ov9)⟩]⟩
theorem impl_Coalgebra_coproduct.b1_gen {ρ : Type} (N : Nat) (K : AV → Heap → Option ρ) (L1 : St → Option ρ) (kv : XE → St → Option ρ) (v0 : Nat → Int) (gv1 : Nat → Int) (gv2 : Nat → Int) (rv3 : Nat → Int) (x4 : Int) (x6 : Int) (gv7 : Nat → Int) :
    xcode (E70 N) ents impl_Coalgebra_coproduct.kp 2 N (cL (cK (cB (cB (cK (cA (cB (cB (cL (cK (cB (cA (cB (cB impl_Coalgebra_coproduct.bd)))))))))))))) 2 (impl_Coalgebra_coproduct.st1 v0 gv1 gv2 rv3 x4 x6 gv7) (roundK impl_Coalgebra_coproduct.kp 2 2 L1 (mixK (impl_Coalgebra_coproduct.fin N K gv1 gv2 .ret) kv)) = (impl_Coalgebra_coproduct.b1 N (fun d0 => K (.agg [⟨.u8, 64, d0⟩]) [⟨false, .flat 2 (.ints .i64 gv1)⟩, ⟨false, .flat 520 (.ints .u8 gv2)⟩]) (fun x6 gv7 => L1 (impl_Coalgebra_coproduct.st1 v0 gv1 gv2 rv3 x4 x6 gv7)) (fun ov9 => kv (.exit 2) (impl_Coalgebra_coproduct.sx1_0 v0 gv1 gv2 rv3 x4 ov9)) v0 gv2 rv3 x4 x6 gv7) := by kernel_rfl
theorem impl_Coalgebra_coproduct.b1_eq {ρ : Type} (N : Nat) (K : AV → Heap → Option ρ) (L0 : St → Option ρ) (L1 : St → Option ρ) (v0 : Nat → Int) (gv1 : Nat → Int) (gv2 : Nat → Int) (rv3 : Nat → Int) (x4 : Int) (x6 : Int) (gv7 : Nat → Int) :
    xcode (E70 N) ents impl_Coalgebra_coproduct.kp 2 N (cL (cK (cB (cB (cK (cA (cB (cB (cL (cK (cB (cA (cB (cB impl_Coalgebra_coproduct.bd)))))))))))))) 2 (impl_Coalgebra_coproduct.st1 v0 gv1 gv2 rv3 x4 x6 gv7) (roundK impl_Coalgebra_coproduct.kp 2 2 L1 (impl_Coalgebra_coproduct.k1g N L0 (impl_Coalgebra_coproduct.k0 N K gv1 gv2))) = (impl_Coalgebra_coproduct.b1 N (fun d0 => K (.agg [⟨.u8, 64, d0⟩]) [⟨false, .flat 2 (.ints .i64 gv1)⟩, ⟨false, .flat 520 (.ints .u8 gv2)⟩]) (fun x6 gv7 => L1 (impl_Coalgebra_coproduct.st1 v0 gv1 gv2 rv3 x4 x6 gv7)) (fun ov9 => (impl_Coalgebra_coproduct.k1g N L0 (impl_Coalgebra_coproduct.k0 N K gv1 gv2)) (.exit 2) (impl_Coalgebra_coproduct.sx1_0 v0 gv1 gv2 rv3 x4 ov9)) v0 gv2 rv3 x4 x6 gv7) := by
  have h := impl_Coalgebra_coproduct.b1_gen N K L1 (impl_Coalgebra_coproduct.k1g N L0 (impl_Coalgebra_coproduct.k0 N K gv1 gv2)) v0 gv1 gv2 rv3 x4 x6 gv7
  rw [impl_Coalgebra_coproduct.k1_mix] at h
  exact h
theorem impl_Coalgebra_coproduct.a1_0_gen {ρ : Type} (N : Nat) (K : AV → Heap → Option ρ) (L0 : St → Option ρ) (kv : XE → St → Option ρ) (v0 : Nat → Int) (gv1 : Nat → Int) (gv2 : Nat → Int) (rv3 : Nat → Int) (x4 : Int) (ov9 : Nat → Int) :
    (impl_Coalgebra_coproduct.k1g N L0 (mixK (impl_Coalgebra_coproduct.fin N K gv1 gv2 .ret) kv)) (.exit 2) (impl_Coalgebra_coproduct.sx1_0 v0 gv1 gv2 rv3 x4 ov9) = (impl_Coalgebra_coproduct.a1_0 N (fun d0 => K (.agg [⟨.u8, 64, d0⟩]) [⟨false, .flat 2 (.ints .i64 gv1)⟩, ⟨false, .flat 520 (.ints .u8 gv2)⟩]) (fun x4 gv5 => L0 (impl_Coalgebra_coproduct.st0 v0 gv1 gv2 rv3 x4 gv5)) (fun ov10 => kv (.exit 0) (impl_Coalgebra_coproduct.sx0_0 gv1 gv2 ov10)) x4 ov9) := by kernel_rfl
theorem impl_Coalgebra_coproduct.a1_0_eq {ρ : Type} (N : Nat) (K : AV → Heap → Option ρ) (L0 : St → Option ρ) (v0 : Nat → Int) (gv1 : Nat → Int) (gv2 : Nat → Int) (rv3 : Nat → Int) (x4 : Int) (ov9 : Nat → Int) :
    (impl_Coalgebra_coproduct.k1g N L0 (impl_Coalgebra_coproduct.k0 N K gv1 gv2)) (.exit 2) (impl_Coalgebra_coproduct.sx1_0 v0 gv1 gv2 rv3 x4 ov9) = (impl_Coalgebra_coproduct.a1_0 N (fun d0 => K (.agg [⟨.u8, 64, d0⟩]) [⟨false, .flat 2 (.ints .i64 gv1)⟩, ⟨false, .flat 520 (.ints .u8 gv2)⟩]) (fun x4 gv5 => L0 (impl_Coalgebra_coproduct.st0 v0 gv1 gv2 rv3 x4 gv5)) (fun ov10 => (impl_Coalgebra_coproduct.k0 N K gv1 gv2) (.exit 0) (impl_Coalgebra_coproduct.sx0_0 gv1 gv2 ov10)) x4 ov9) := by
  have h := impl_Coalgebra_coproduct.a1_0_gen N K L0 (impl_Coalgebra_coproduct.k0 N K gv1 gv2) v0 gv1 gv2 rv3 x4 ov9
  rw [impl_Coalgebra_coproduct.k0_mix] at h
  exact h
theorem impl_Coalgebra_coproduct.b0_gen {ρ : Type} (N : Nat) (K : AV → Heap → Option ρ) (L0 : St → Option ρ) (kv : XE → St → Option ρ) (v0 : Nat → Int) (gv1 : Nat → Int) (gv2 : Nat → Int) (rv3 : Nat → Int) (x4 : Int) (gv5 : Nat → Int) :
    xcode (E70 N) ents impl_Coalgebra_coproduct.kp 2 N (cL (cK (cB (cA (cB (cB impl_Coalgebra_coproduct.bd)))))) 0 (impl_Coalgebra_coproduct.st0 v0 gv1 gv2 rv3 x4 gv5) (roundK impl_Coalgebra_coproduct.kp 2 0 L0 (mixK (impl_Coalgebra_coproduct.fin N K gv1 gv2 .ret) kv)) = (impl_Coalgebra_coproduct.b0 N (fun d0 => K (.agg [⟨.u8, 64, d0⟩]) [⟨false, .flat 2 (.ints .i64 gv1)⟩, ⟨false, .flat 520 (.ints .u8 gv2)⟩]) (fun x6 gv7 => xloop (xcode (E70 N) ents impl_Coalgebra_coproduct.kp 2 N (cL (cK (cB (cB (cK (cA (cB (cB (cL (cK (cB (cA (cB (cB impl_Coalgebra_coproduct.bd)))))))))))))) 2) impl_Coalgebra_coproduct.kp 2 2 N (impl_Coalgebra_coproduct.st1 v0 gv1 gv2 rv3 x4 x6 gv7) (impl_Coalgebra_coproduct.k1g N L0 (mixK (impl_Coalgebra_coproduct.fin N K gv1 gv2 .ret) kv))) (fun x4 gv5 => L0 (impl_Coalgebra_coproduct.st0 v0 gv1 gv2 rv3 x4 gv5)) (fun ov10 => kv (.exit 0) (impl_Coalgebra_coproduct.sx0_0 gv1 gv2 ov10)) x4 gv5) := by kernel_rfl
theorem impl_Coalgebra_coproduct.b0_eq {ρ : Type} (N : Nat) (K : AV → Heap → Option ρ) (L0 : St → Option ρ) (v0 : Nat → Int) (gv1 : Nat → Int) (gv2 : Nat → Int) (rv3 : Nat → Int) (x4 : Int) (gv5 : Nat → Int) :
    xcode (E70 N) ents impl_Coalgebra_coproduct.kp 2 N (cL (cK (cB (cA (cB (cB impl_Coalgebra_coproduct.bd)))))) 0 (impl_Coalgebra_coproduct.st0 v0 gv1 gv2 rv3 x4 gv5) (roundK impl_Coalgebra_coproduct.kp 2 0 L0 (impl_Coalgebra_coproduct.k0 N K gv1 gv2)) = (impl_Coalgebra_coproduct.b0 N (fun d0 => K (.agg [⟨.u8, 64, d0⟩]) [⟨false, .flat 2 (.ints .i64 gv1)⟩, ⟨false, .flat 520 (.ints .u8 gv2)⟩]) (fun x6 gv7 => xloop (xcode (E70 N) ents impl_Coalgebra_coproduct.kp 2 N (cL (cK (cB (cB (cK (cA (cB (cB (cL (cK (cB (cA (cB (cB impl_Coalgebra_coproduct.bd)))))))))))))) 2) impl_Coalgebra_coproduct.kp 2 2 N (impl_Coalgebra_coproduct.st1 v0 gv1 gv2 rv3 x4 x6 gv7) (impl_Coalgebra_coproduct.k1g N L0 (impl_Coalgebra_coproduct.k0 N K gv1 gv2))) (fun x4 gv5 => L0 (impl_Coalgebra_coproduct.st0 v0 gv1 gv2 rv3 x4 gv5)) (fun ov10 => (impl_Coalgebra_coproduct.k0 N K gv1 gv2) (.exit 0) (impl_Coalgebra_coproduct.sx0_0 gv1 gv2 ov10)) x4 gv5) := by
  have h := impl_Coalgebra_coproduct.b0_gen N K L0 (impl_Coalgebra_coproduct.k0 N K gv1 gv2) v0 gv1 gv2 rv3 x4 gv5
  rw [impl_Coalgebra_coproduct.k0_mix] at h
  exact h
theorem impl_Coalgebra_coproduct.a0_0_eq {ρ : Type} (N : Nat) (K : AV → Heap → Option ρ) (gv1 : Nat → Int) (gv2 : Nat → Int) (ov10 : Nat → Int) :
    (impl_Coalgebra_coproduct.k0 N K gv1 gv2) (.exit 0) (impl_Coalgebra_coproduct.sx0_0 gv1 gv2 ov10) = (impl_Coalgebra_coproduct.a0_0 N (fun d0 => K (.agg [⟨.u8, 64, d0⟩]) [⟨false, .flat 2 (.ints .i64 gv1)⟩, ⟨false, .flat 520 (.ints .u8 gv2)⟩]) ov10) := by kernel_rfl
theorem impl_Coalgebra_coproduct.l1_eq {ρ : Type} (N : Nat) (K : AV → Heap → Option ρ) (L0 : St → Option ρ) (v0 : Nat → Int) (gv1 : Nat → Int) (gv2 : Nat → Int) (rv3 : Nat → Int) (x4 : Int) :
    ∀ (m : Nat) (x6 : Int) (gv7 : Nat → Int), xloop (xcode (E70 N) ents impl_Coalgebra_coproduct.kp 2 N (cL (cK (cB (cB (cK (cA (cB (cB (cL (cK (cB (cA (cB (cB impl_Coalgebra_coproduct.bd)))))))))))))) 2) impl_Coalgebra_coproduct.kp 2 2 m (impl_Coalgebra_coproduct.st1 v0 gv1 gv2 rv3 x4 x6 gv7) (impl_Coalgebra_coproduct.k1g N L0 (impl_Coalgebra_coproduct.k0 N K gv1 gv2)) = (impl_Coalgebra_coproduct.l1 N (fun d0 => K (.agg [⟨.u8, 64, d0⟩]) [⟨false, .flat 2 (.ints .i64 gv1)⟩, ⟨false, .flat 520 (.ints .u8 gv2)⟩]) v0 gv2 rv3 x4 (fun ov9 => (impl_Coalgebra_coproduct.k1g N L0 (impl_Coalgebra_coproduct.k0 N K gv1 gv2)) (.exit 2) (impl_Coalgebra_coproduct.sx1_0 v0 gv1 gv2 rv3 x4 ov9)) m x6 gv7) := by
  intro m
  induction m with
  | zero => intros; rfl
  | succ m ih =>
    intro x6 gv7
    refine (impl_Coalgebra_coproduct.b1_eq N K L0 (fun s => xloop (xcode (E70 N) ents impl_Coalgebra_coproduct.kp 2 N (cL (cK (cB (cB (cK (cA (cB (cB (cL (cK (cB (cA (cB (cB impl_Coalgebra_coproduct.bd)))))))))))))) 2) impl_Coalgebra_coproduct.kp 2 2 m s (impl_Coalgebra_coproduct.k1g N L0 (impl_Coalgebra_coproduct.k0 N K gv1 gv2))) v0 gv1 gv2 rv3 x4 x6 gv7).trans ?_
    simp only [ih]
    kernel_rfl
theorem impl_Coalgebra_coproduct.l0_eq {ρ : Type} (N : Nat) (K : AV → Heap → Option ρ) (v0 : Nat → Int) (gv1 : Nat → Int) (gv2 : Nat → Int) (rv3 : Nat → Int) :
    ∀ (m : Nat) (x4 : Int) (gv5 : Nat → Int), xloop (xcode (E70 N) ents impl_Coalgebra_coproduct.kp 2 N (cL (cK (cB (cA (cB (cB impl_Coalgebra_coproduct.bd)))))) 0) impl_Coalgebra_coproduct.kp 2 0 m (impl_Coalgebra_coproduct.st0 v0 gv1 gv2 rv3 x4 gv5) (impl_Coalgebra_coproduct.k0 N K gv1 gv2) = (impl_Coalgebra_coproduct.l0 N (fun d0 => K (.agg [⟨.u8, 64, d0⟩]) [⟨false, .flat 2 (.ints .i64 gv1)⟩, ⟨false, .flat 520 (.ints .u8 gv2)⟩]) v0 gv2 rv3 (fun ov10 => (impl_Coalgebra_coproduct.k0 N K gv1 gv2) (.exit 0) (impl_Coalgebra_coproduct.sx0_0 gv1 gv2 ov10)) m x4 gv5) := by
  intro m
  induction m with
  | zero => intros; rfl
  | succ m ih =>
    intro x4 gv5
    refine (impl_Coalgebra_coproduct.b0_eq N K (fun s => xloop (xcode (E70 N) ents impl_Coalgebra_coproduct.kp 2 N (cL (cK (cB (cA (cB (cB impl_Coalgebra_coproduct.bd)))))) 0) impl_Coalgebra_coproduct.kp 2 0 m s (impl_Coalgebra_coproduct.k0 N K gv1 gv2)) v0 gv1 gv2 rv3 x4 gv5).trans ?_
    simp only [ih, impl_Coalgebra_coproduct.l1_eq, impl_Coalgebra_coproduct.a1_0_eq]
    kernel_rfl
theorem impl_Coalgebra_coproduct.s_eq {ρ : Type} (N : Nat) (K : AV → Heap → Option ρ) (v0 : Nat → Int) (gv1 : Nat → Int) (gv2 : Nat → Int) :
    xbody (E70 N) ents impl_Coalgebra_coproduct.kp N Try.f68 impl_Coalgebra_coproduct.bd [.sptr [(0, 2), (1, 520)], .agg [⟨.u8, 8, v0⟩]] [⟨false, .flat 2 (.ints .i64 gv1)⟩, ⟨false, .flat 520 (.ints .u8 gv2)⟩] K = (impl_Coalgebra_coproduct.s N (fun d0 => K (.agg [⟨.u8, 64, d0⟩]) [⟨false, .flat 2 (.ints .i64 gv1)⟩, ⟨false, .flat 520 (.ints .u8 gv2)⟩]) (fun rv3 x4 gv5 => xloop (xcode (E70 N) ents impl_Coalgebra_coproduct.kp 2 N (cL (cK (cB (cA (cB (cB impl_Coalgebra_coproduct.bd)))))) 0) impl_Coalgebra_coproduct.kp 2 0 N (impl_Coalgebra_coproduct.st0 v0 gv1 gv2 rv3 x4 gv5) (impl_Coalgebra_coproduct.k0 N K gv1 gv2)) gv1 gv2) := by kernel_rfl
theorem impl_Coalgebra_coproduct.eq {ρ : Type} (N : Nat) (K : AV → Heap → Option ρ) (v0 : Nat → Int) (gv1 : Nat → Int) (gv2 : Nat → Int) :
    xbody (E70 N) ents impl_Coalgebra_coproduct.kp N Try.f68 impl_Coalgebra_coproduct.bd [.sptr [(0, 2), (1, 520)], .agg [⟨.u8, 8, v0⟩]] [⟨false, .flat 2 (.ints .i64 gv1)⟩, ⟨false, .flat 520 (.ints .u8 gv2)⟩] K = (impl_Coalgebra_coproduct N (fun d0 => K (.agg [⟨.u8, 64, d0⟩]) [⟨false, .flat 2 (.ints .i64 gv1)⟩, ⟨false, .flat 520 (.ints .u8 gv2)⟩]) v0 gv1 gv2) := by
  refine (impl_Coalgebra_coproduct.s_eq N K v0 gv1 gv2).trans ?_
  simp only [impl_Coalgebra_coproduct.l0_eq, impl_Coalgebra_coproduct.a0_0_eq]
  kernel_rfl
def impl_Coalgebra_coproduct.en (N : Nat) (ρ : Type) : List AV → Heap → (AV → Heap → Option ρ) → Option ρ
  | [.sptr [(0, 2), (1, 520)], .agg [⟨.u8, 8, v0⟩]], [⟨false, .flat 2 (.ints .i64 gv1)⟩, ⟨false, .flat 520 (.ints .u8 gv2)⟩], K => (impl_Coalgebra_coproduct N (fun d0 => K (.agg [⟨.u8, 64, d0⟩]) [⟨false, .flat 2 (.ints .i64 gv1)⟩, ⟨false, .flat 520 (.ints .u8 gv2)⟩]) v0 gv1 gv2)
  | _, _, _ => none
theorem impl_Coalgebra_coproduct.en_ok (N : Nat) (hE : EnvOk (E70 N) ents) (ρ : Type) (args : List AV) (sh : Heap) (K : AV → Heap → Option ρ) (r : ρ) (h : impl_Coalgebra_coproduct.en N ρ args sh K = some r) : ∃ v sh', K v sh' = some r ∧ FnOk (E70 N).P 68 args sh v sh' := by
  unfold impl_Coalgebra_coproduct.en at h
  split at h
  · exact fn_ok hE (kp := impl_Coalgebra_coproduct.kp) (N := N) Try.func68 (c := impl_Coalgebra_coproduct.bd) (by kernel_rfl) ((impl_Coalgebra_coproduct.eq N _ _ _ _).trans h)
  · cases h
def E71 (N : Nat) : Env := (E70 N).add 68 (impl_Coalgebra_coproduct.en N)
theorem E71_ok (N : Nat) : EnvOk (E71 N) ents := Env.add_ok (E70_ok N) (impl_Coalgebra_coproduct.en_ok N (E70_ok N))
def impl_field_times.kp : Keeps := ⟨[], [], []⟩
def impl_field_times.bd : Code := bodyOf Try.f81
def impl_field_times.fin {ρ : Type} (N : Nat) (K : AV → Heap → Option ρ) : XE → St → Option ρ := finK (E71 N) impl_field_times.kp.fins Try.f81 [] K
theorem impl_field_times.eq {ρ : Type} (N : Nat) (K : AV → Heap → Option ρ) (f0 : Nat → Int) (k1 : Int) (w2 : Nat → Int) :
    xbody (E71 N) ents impl_field_times.kp N Try.f81 impl_field_times.bd [.agg [⟨.i64, 2, f0⟩], .int .i64 (k1), .agg [⟨.u8, 8, w2⟩]] [] K = (impl_field_times N (fun d0 => K (.agg [⟨.u8, 8, d0⟩]) []) f0 k1 w2) := by kernel_rfl
def impl_field_times.en (N : Nat) (ρ : Type) : List AV → Heap → (AV → Heap → Option ρ) → Option ρ
  | [.agg [⟨.i64, 2, f0⟩], .int .i64 (k1), .agg [⟨.u8, 8, w2⟩]], [], K => (impl_field_times N (fun d0 => K (.agg [⟨.u8, 8, d0⟩]) []) f0 k1 w2)
  | _, _, _ => none
theorem impl_field_times.en_ok (N : Nat) (hE : EnvOk (E71 N) ents) (ρ : Type) (args : List AV) (sh : Heap) (K : AV → Heap → Option ρ) (r : ρ) (h : impl_field_times.en N ρ args sh K = some r) : ∃ v sh', K v sh' = some r ∧ FnOk (E71 N).P 81 args sh v sh' := by
  unfold impl_field_times.en at h
  split at h
  · exact fn_ok hE (kp := impl_field_times.kp) (N := N) Try.func81 (c := impl_field_times.bd) (by kernel_rfl) ((impl_field_times.eq N _ _ _ _).trans h)
  · cases h
def E72 (N : Nat) : Env := (E71 N).add 81 (impl_field_times.en N)
theorem E72_ok (N : Nat) : EnvOk (E72 N) ents := Env.add_ok (E71_ok N) (impl_field_times.en_ok N (E71_ok N))
def impl_field_pair.kp : Keeps := ⟨[(0, [3, 5, 6, 7, 11, 12], [], [])], [(0, [6, 7], [], [])], []⟩
def impl_field_pair.bd : Code := bodyOf Try.f106
def impl_field_pair.fin {ρ : Type} (N : Nat) (K : AV → Heap → Option ρ) : XE → St → Option ρ := finK (E72 N) impl_field_pair.kp.fins Try.f106 [] K
def impl_field_pair.k0 {ρ : Type} (N : Nat) (K : AV → Heap → Option ρ) : XE → St → Option ρ := (blockK impl_field_pair.kp 0 0 (seqK (xcode (E72 N) ents impl_field_pair.kp 0 N (cB (cB (cB impl_field_pair.bd))) 0) (impl_field_pair.fin N K)))
theorem impl_field_pair.k0_mix {ρ : Type} (N : Nat) (K : AV → Heap → Option ρ) : mixK (impl_field_pair.fin N K .ret) (impl_field_pair.k0 N K) = (impl_field_pair.k0 N K) := by
  funext e s; cases e <;> kernel_rfl
def impl_field_pair.st0 (f0 : Nat → Int) (v1 : Nat → Int) (w2 : Nat → Int) (x3 : Int) (gv4 : Nat → Int) : St := ⟨sl 25 [(3, .sptr [(0, 2)]), (5, .sptr [(1, 8)]), (6, .sptr [(2, 64)]), (7, .sptr [(3, 64)]), (11, .agg [⟨.u8, 8, v1⟩]), (12, .int .i64 (x3))], [⟨true, .flat 2 (.ints .i64 f0)⟩, ⟨true, .flat 8 (.ints .u8 w2)⟩, ⟨true, .flat 64 (.ints .u8 (fun _ => 0))⟩, ⟨true, .flat 64 (.ints .u8 gv4)⟩]⟩
def impl_field_pair.sx0_0 (ov6 : Nat → Int) : St := ⟨sl 25 [(6, .sptr [(0, 64)]), (7, .sptr [(1, 64)])], [⟨true, .flat 64 (.ints .u8 (fun _ => 0))⟩, ⟨true, .flat 64 (.ints .u8 ov6)⟩]⟩
theorem impl_field_pair.b0_gen {ρ : Type} (N : Nat) (K : AV → Heap → Option ρ) (L0 : St → Option ρ) (kv : XE → St → Option ρ) (f0 : Nat → Int) (v1 : Nat → Int) (w2 : Nat → Int) (x3 : Int) (gv4 : Nat → Int) :
    xcode (E72 N) ents impl_field_pair.kp 0 N (cL (cK (cB (cA (cB (cB impl_field_pair.bd)))))) 0 (impl_field_pair.st0 f0 v1 w2 x3 gv4) (roundK impl_field_pair.kp 0 0 L0 (mixK (impl_field_pair.fin N K .ret) kv)) = (impl_field_pair.b0 N (fun d0 => K (.agg [⟨.u8, 64, d0⟩]) []) (fun x3 gv4 => L0 (impl_field_pair.st0 f0 v1 w2 x3 gv4)) (fun ov6 => kv (.exit 0) (impl_field_pair.sx0_0 ov6)) f0 v1 w2 x3 gv4) := by kernel_rfl
theorem impl_field_pair.b0_eq {ρ : Type} (N : Nat) (K : AV → Heap → Option ρ) (L0 : St → Option ρ) (f0 : Nat → Int) (v1 : Nat → Int) (w2 : Nat → Int) (x3 : Int) (gv4 : Nat → Int) :
    xcode (E72 N) ents impl_field_pair.kp 0 N (cL (cK (cB (cA (cB (cB impl_field_pair.bd)))))) 0 (impl_field_pair.st0 f0 v1 w2 x3 gv4) (roundK impl_field_pair.kp 0 0 L0 (impl_field_pair.k0 N K)) = (impl_field_pair.b0 N (fun d0 => K (.agg [⟨.u8, 64, d0⟩]) []) (fun x3 gv4 => L0 (impl_field_pair.st0 f0 v1 w2 x3 gv4)) (fun ov6 => (impl_field_pair.k0 N K) (.exit 0) (impl_field_pair.sx0_0 ov6)) f0 v1 w2 x3 gv4) := by
  have h := impl_field_pair.b0_gen N K L0 (impl_field_pair.k0 N K) f0 v1 w2 x3 gv4
  rw [impl_field_pair.k0_mix] at h
  exact h
theorem impl_field_pair.a0_0_eq {ρ : Type} (N : Nat) (K : AV → Heap → Option ρ) (ov6 : Nat → Int) :
    (impl_field_pair.k0 N K) (.exit 0) (impl_field_pair.sx0_0 ov6) = (impl_field_pair.a0_0 N (fun d0 => K (.agg [⟨.u8, 64, d0⟩]) []) ov6) := by kernel_rfl
theorem impl_field_pair.l0_eq {ρ : Type} (N : Nat) (K : AV → Heap → Option ρ) (f0 : Nat → Int) (v1 : Nat → Int) (w2 : Nat → Int) :
    ∀ (m : Nat) (x3 : Int) (gv4 : Nat → Int), xloop (xcode (E72 N) ents impl_field_pair.kp 0 N (cL (cK (cB (cA (cB (cB impl_field_pair.bd)))))) 0) impl_field_pair.kp 0 0 m (impl_field_pair.st0 f0 v1 w2 x3 gv4) (impl_field_pair.k0 N K) = (impl_field_pair.l0 N (fun d0 => K (.agg [⟨.u8, 64, d0⟩]) []) f0 v1 w2 (fun ov6 => (impl_field_pair.k0 N K) (.exit 0) (impl_field_pair.sx0_0 ov6)) m x3 gv4) := by
  intro m
  induction m with
  | zero => intros; rfl
  | succ m ih =>
    intro x3 gv4
    refine (impl_field_pair.b0_eq N K (fun s => xloop (xcode (E72 N) ents impl_field_pair.kp 0 N (cL (cK (cB (cA (cB (cB impl_field_pair.bd)))))) 0) impl_field_pair.kp 0 0 m s (impl_field_pair.k0 N K)) f0 v1 w2 x3 gv4).trans ?_
    simp only [ih]
    kernel_rfl
theorem impl_field_pair.s_eq {ρ : Type} (N : Nat) (K : AV → Heap → Option ρ) (f0 : Nat → Int) (v1 : Nat → Int) (w2 : Nat → Int) :
    xbody (E72 N) ents impl_field_pair.kp N Try.f106 impl_field_pair.bd [.agg [⟨.i64, 2, f0⟩], .agg [⟨.u8, 8, v1⟩], .agg [⟨.u8, 8, w2⟩]] [] K = (impl_field_pair.s N (fun d0 => K (.agg [⟨.u8, 64, d0⟩]) []) (fun x3 gv4 => xloop (xcode (E72 N) ents impl_field_pair.kp 0 N (cL (cK (cB (cA (cB (cB impl_field_pair.bd)))))) 0) impl_field_pair.kp 0 0 N (impl_field_pair.st0 f0 v1 w2 x3 gv4) (impl_field_pair.k0 N K))) := by kernel_rfl
theorem impl_field_pair.eq {ρ : Type} (N : Nat) (K : AV → Heap → Option ρ) (f0 : Nat → Int) (v1 : Nat → Int) (w2 : Nat → Int) :
    xbody (E72 N) ents impl_field_pair.kp N Try.f106 impl_field_pair.bd [.agg [⟨.i64, 2, f0⟩], .agg [⟨.u8, 8, v1⟩], .agg [⟨.u8, 8, w2⟩]] [] K = (impl_field_pair N (fun d0 => K (.agg [⟨.u8, 64, d0⟩]) []) f0 v1 w2) := by
  refine (impl_field_pair.s_eq N K f0 v1 w2).trans ?_
  simp only [impl_field_pair.l0_eq, impl_field_pair.a0_0_eq]
  kernel_rfl
def impl_field_pair.en (N : Nat) (ρ : Type) : List AV → Heap → (AV → Heap → Option ρ) → Option ρ
  | [.agg [⟨.i64, 2, f0⟩], .agg [⟨.u8, 8, v1⟩], .agg [⟨.u8, 8, w2⟩]], [], K => (impl_field_pair N (fun d0 => K (.agg [⟨.u8, 64, d0⟩]) []) f0 v1 w2)
  | _, _, _ => none
theorem impl_field_pair.en_ok (N : Nat) (hE : EnvOk (E72 N) ents) (ρ : Type) (args : List AV) (sh : Heap) (K : AV → Heap → Option ρ) (r : ρ) (h : impl_field_pair.en N ρ args sh K = some r) : ∃ v sh', K v sh' = some r ∧ FnOk (E72 N).P 106 args sh v sh' := by
  unfold impl_field_pair.en at h
  split at h
  · exact fn_ok hE (kp := impl_field_pair.kp) (N := N) Try.func106 (c := impl_field_pair.bd) (by kernel_rfl) ((impl_field_pair.eq N _ _ _ _).trans h)
  · cases h
def E73 (N : Nat) : Env := (E72 N).add 106 (impl_field_pair.en N)
theorem E73_ok (N : Nat) : EnvOk (E73 N) ents := Env.add_ok (E72_ok N) (impl_field_pair.en_ok N (E72_ok N))
def impl_Coalgebra_isGroupLike.kp : Keeps := ⟨[], [], []⟩
def impl_Coalgebra_isGroupLike.bd : Code := bodyOf Try.f74
def impl_Coalgebra_isGroupLike.fin {ρ : Type} (N : Nat) (K : AV → Heap → Option ρ) (gv1 : Nat → Int) (gv2 : Nat → Int) : XE → St → Option ρ := finK (E73 N) impl_Coalgebra_isGroupLike.kp.fins Try.f74 [⟨false, .flat 2 (.ints .i64 gv1)⟩, ⟨false, .flat 520 (.ints .u8 gv2)⟩] K
theorem impl_Coalgebra_isGroupLike.eq {ρ : Type} (N : Nat) (K : AV → Heap → Option ρ) (v0 : Nat → Int) (gv1 : Nat → Int) (gv2 : Nat → Int) :
    xbody (E73 N) ents impl_Coalgebra_isGroupLike.kp N Try.f74 impl_Coalgebra_isGroupLike.bd [.sptr [(0, 2), (1, 520)], .agg [⟨.u8, 8, v0⟩]] [⟨false, .flat 2 (.ints .i64 gv1)⟩, ⟨false, .flat 520 (.ints .u8 gv2)⟩] K = (impl_Coalgebra_isGroupLike N (fun d0 => K (.bool (d0)) [⟨false, .flat 2 (.ints .i64 gv1)⟩, ⟨false, .flat 520 (.ints .u8 gv2)⟩]) v0 gv1 gv2) := by kernel_rfl
def impl_Coalgebra_isGroupLike.en (N : Nat) (ρ : Type) : List AV → Heap → (AV → Heap → Option ρ) → Option ρ
  | [.sptr [(0, 2), (1, 520)], .agg [⟨.u8, 8, v0⟩]], [⟨false, .flat 2 (.ints .i64 gv1)⟩, ⟨false, .flat 520 (.ints .u8 gv2)⟩], K => (impl_Coalgebra_isGroupLike N (fun d0 => K (.bool (d0)) [⟨false, .flat 2 (.ints .i64 gv1)⟩, ⟨false, .flat 520 (.ints .u8 gv2)⟩]) v0 gv1 gv2)
  | _, _, _ => none
theorem impl_Coalgebra_isGroupLike.en_ok (N : Nat) (hE : EnvOk (E73 N) ents) (ρ : Type) (args : List AV) (sh : Heap) (K : AV → Heap → Option ρ) (r : ρ) (h : impl_Coalgebra_isGroupLike.en N ρ args sh K = some r) : ∃ v sh', K v sh' = some r ∧ FnOk (E73 N).P 74 args sh v sh' := by
  unfold impl_Coalgebra_isGroupLike.en at h
  split at h
  · exact fn_ok hE (kp := impl_Coalgebra_isGroupLike.kp) (N := N) Try.func74 (c := impl_Coalgebra_isGroupLike.bd) (by kernel_rfl) ((impl_Coalgebra_isGroupLike.eq N _ _ _ _).trans h)
  · cases h
def E74 (N : Nat) : Env := (E73 N).add 74 (impl_Coalgebra_isGroupLike.en N)
theorem E74_ok (N : Nat) : EnvOk (E74 N) ents := Env.add_ok (E73_ok N) (impl_Coalgebra_isGroupLike.en_ok N (E73_ok N))
def impl_PrimitiveSpace.kp : Keeps := ⟨[], [], [(.slot 6, .unk (.ints .u8 (fun _ => 0)) 8)]⟩
def impl_PrimitiveSpace.bd : Code := bodyOf Try.f52
def impl_PrimitiveSpace.fin {ρ : Type} (N : Nat) (K : AV → Heap → Option ρ) : XE → St → Option ρ := finK (E74 N) impl_PrimitiveSpace.kp.fins Try.f52 [] K
theorem impl_PrimitiveSpace.eq {ρ : Type} (N : Nat) (K : AV → Heap → Option ρ) (c0 : Nat → Int) (c1 : Nat → Int) (gv2 : Nat → Int) (h3 : Nat → Int) :
    xbody (E74 N) ents impl_PrimitiveSpace.kp N Try.f52 impl_PrimitiveSpace.bd [.agg [⟨.i64, 2, c0⟩, ⟨.u8, 520, c1⟩], .agg [⟨.u8, 8, gv2⟩], .agg [⟨.u8, 8, h3⟩]] [] K = (impl_PrimitiveSpace N (fun d0 d1 d2 => K (.tup [.slice false 0 0 d0 .unk 8, .int .i64 (d1)]) [⟨true, .flat 0 (.ints .u8 d2)⟩]) c0 c1 gv2 h3) := by kernel_rfl
def impl_PrimitiveSpace.en (N : Nat) (ρ : Type) : List AV → Heap → (AV → Heap → Option ρ) → Option ρ
  | [.agg [⟨.i64, 2, c0⟩, ⟨.u8, 520, c1⟩], .agg [⟨.u8, 8, gv2⟩], .agg [⟨.u8, 8, h3⟩]], [], K => (impl_PrimitiveSpace N (fun d0 d1 d2 => K (.tup [.slice false 0 0 d0 .unk 8, .int .i64 (d1)]) [⟨true, .flat 0 (.ints .u8 d2)⟩]) c0 c1 gv2 h3)
  | _, _, _ => none
theorem impl_PrimitiveSpace.en_ok (N : Nat) (hE : EnvOk (E74 N) ents) (ρ : Type) (args : List AV) (sh : Heap) (K : AV → Heap → Option ρ) (r : ρ) (h : impl_PrimitiveSpace.en N ρ args sh K = some r) : ∃ v sh', K v sh' = some r ∧ FnOk (E74 N).P 52 args sh v sh' := by
  unfold impl_PrimitiveSpace.en at h
  split at h
  · exact fn_ok hE (kp := impl_PrimitiveSpace.kp) (N := N) Try.func52 (c := impl_PrimitiveSpace.bd) (by kernel_rfl) ((impl_PrimitiveSpace.eq N _ _ _ _ _).trans h)
  · cases h
def E75 (N : Nat) : Env := (E74 N).add 52 (impl_PrimitiveSpace.en N)
theorem E75_ok (N : Nat) : EnvOk (E75 N) ents := Env.add_ok (E74_ok N) (impl_PrimitiveSpace.en_ok N (E74_ok N))
def laws_eqVector.kp : Keeps := ⟨[(0, [2, 3, 5], [], [])], [(0, [], [], [])], []⟩
def laws_eqVector.bd : Code := bodyOf Try.f69
def laws_eqVector.fin {ρ : Type} (N : Nat) (K : AV → Heap → Option ρ) : XE → St → Option ρ := finK (E75 N) laws_eqVector.kp.fins Try.f69 [] K
def laws_eqVector.k0 {ρ : Type} (N : Nat) (K : AV → Heap → Option ρ) : XE → St → Option ρ := (blockK laws_eqVector.kp 0 0 (seqK (xcode (E75 N) ents laws_eqVector.kp 0 N (cB (cB laws_eqVector.bd)) 0) (laws_eqVector.fin N K)))
theorem laws_eqVector.k0_mix {ρ : Type} (N : Nat) (K : AV → Heap → Option ρ) : mixK (laws_eqVector.fin N K .ret) (laws_eqVector.k0 N K) = (laws_eqVector.k0 N K) := by
  funext e s; cases e <;> kernel_rfl
def laws_eqVector.st0 (av0 : Nat → Int) (bv1 : Nat → Int) (i2 : Int) : St := ⟨sl 17 [(2, .sptr [(0, 8)]), (3, .sptr [(1, 8)]), (5, .int .i64 (i2))], [⟨true, .flat 8 (.ints .u8 av0)⟩, ⟨true, .flat 8 (.ints .u8 bv1)⟩]⟩
def laws_eqVector.sx0_0 : St := ⟨sl 17 [], []⟩
theorem laws_eqVector.b0_gen {ρ : Type} (N : Nat) (K : AV → Heap → Option ρ) (L0 : St → Option ρ) (kv : XE → St → Option ρ) (av0 : Nat → Int) (bv1 : Nat → Int) (i2 : Int) :
    xcode (E75 N) ents laws_eqVector.kp 0 N (cL (cK (cB (cA (cB laws_eqVector.bd))))) 0 (laws_eqVector.st0 av0 bv1 i2) (roundK laws_eqVector.kp 0 0 L0 (mixK (laws_eqVector.fin N K .ret) kv)) = (laws_eqVector.b0 N (fun d0 => K (.bool (d0)) []) (fun i2 => L0 (laws_eqVector.st0 av0 bv1 i2)) (kv (.exit 0) (laws_eqVector.sx0_0)) av0 bv1 i2) := by kernel_rfl
theorem laws_eqVector.b0_eq {ρ : Type} (N : Nat) (K : AV → Heap → Option ρ) (L0 : St → Option ρ) (av0 : Nat → Int) (bv1 : Nat → Int) (i2 : Int) :
    xcode (E75 N) ents laws_eqVector.kp 0 N (cL (cK (cB (cA (cB laws_eqVector.bd))))) 0 (laws_eqVector.st0 av0 bv1 i2) (roundK laws_eqVector.kp 0 0 L0 (laws_eqVector.k0 N K)) = (laws_eqVector.b0 N (fun d0 => K (.bool (d0)) []) (fun i2 => L0 (laws_eqVector.st0 av0 bv1 i2)) ((laws_eqVector.k0 N K) (.exit 0) (laws_eqVector.sx0_0)) av0 bv1 i2) := by
  have h := laws_eqVector.b0_gen N K L0 (laws_eqVector.k0 N K) av0 bv1 i2
  rw [laws_eqVector.k0_mix] at h
  exact h
theorem laws_eqVector.a0_0_eq {ρ : Type} (N : Nat) (K : AV → Heap → Option ρ) :
    (laws_eqVector.k0 N K) (.exit 0) (laws_eqVector.sx0_0) = (laws_eqVector.a0_0 N (fun d0 => K (.bool (d0)) [])) := by kernel_rfl
theorem laws_eqVector.l0_eq {ρ : Type} (N : Nat) (K : AV → Heap → Option ρ) (av0 : Nat → Int) (bv1 : Nat → Int) :
    ∀ (m : Nat) (i2 : Int), xloop (xcode (E75 N) ents laws_eqVector.kp 0 N (cL (cK (cB (cA (cB laws_eqVector.bd))))) 0) laws_eqVector.kp 0 0 m (laws_eqVector.st0 av0 bv1 i2) (laws_eqVector.k0 N K) = (laws_eqVector.l0 N (fun d0 => K (.bool (d0)) []) av0 bv1 ((laws_eqVector.k0 N K) (.exit 0) (laws_eqVector.sx0_0)) m i2) := by
  intro m
  induction m with
  | zero => intros; rfl
  | succ m ih =>
    intro i2
    refine (laws_eqVector.b0_eq N K (fun s => xloop (xcode (E75 N) ents laws_eqVector.kp 0 N (cL (cK (cB (cA (cB laws_eqVector.bd))))) 0) laws_eqVector.kp 0 0 m s (laws_eqVector.k0 N K)) av0 bv1 i2).trans ?_
    simp only [ih]
    kernel_rfl
theorem laws_eqVector.s_eq {ρ : Type} (N : Nat) (K : AV → Heap → Option ρ) (av0 : Nat → Int) (bv1 : Nat → Int) :
    xbody (E75 N) ents laws_eqVector.kp N Try.f69 laws_eqVector.bd [.agg [⟨.u8, 8, av0⟩], .agg [⟨.u8, 8, bv1⟩]] [] K = (laws_eqVector.s N (fun d0 => K (.bool (d0)) []) (fun i2 => xloop (xcode (E75 N) ents laws_eqVector.kp 0 N (cL (cK (cB (cA (cB laws_eqVector.bd))))) 0) laws_eqVector.kp 0 0 N (laws_eqVector.st0 av0 bv1 i2) (laws_eqVector.k0 N K))) := by kernel_rfl
theorem laws_eqVector.eq {ρ : Type} (N : Nat) (K : AV → Heap → Option ρ) (av0 : Nat → Int) (bv1 : Nat → Int) :
    xbody (E75 N) ents laws_eqVector.kp N Try.f69 laws_eqVector.bd [.agg [⟨.u8, 8, av0⟩], .agg [⟨.u8, 8, bv1⟩]] [] K = (laws_eqVector N (fun d0 => K (.bool (d0)) []) av0 bv1) := by
  refine (laws_eqVector.s_eq N K av0 bv1).trans ?_
  simp only [laws_eqVector.l0_eq, laws_eqVector.a0_0_eq]
  kernel_rfl
def laws_eqVector.en (N : Nat) (ρ : Type) : List AV → Heap → (AV → Heap → Option ρ) → Option ρ
  | [.agg [⟨.u8, 8, av0⟩], .agg [⟨.u8, 8, bv1⟩]], [], K => (laws_eqVector N (fun d0 => K (.bool (d0)) []) av0 bv1)
  | _, _, _ => none
theorem laws_eqVector.en_ok (N : Nat) (hE : EnvOk (E75 N) ents) (ρ : Type) (args : List AV) (sh : Heap) (K : AV → Heap → Option ρ) (r : ρ) (h : laws_eqVector.en N ρ args sh K = some r) : ∃ v sh', K v sh' = some r ∧ FnOk (E75 N).P 69 args sh v sh' := by
  unfold laws_eqVector.en at h
  split at h
  · exact fn_ok hE (kp := laws_eqVector.kp) (N := N) Try.func69 (c := laws_eqVector.bd) (by kernel_rfl) ((laws_eqVector.eq N _ _ _).trans h)
  · cases h
def E76 (N : Nat) : Env := (E75 N).add 69 (laws_eqVector.en N)
theorem E76_ok (N : Nat) : EnvOk (E76 N) ents := Env.add_ok (E75_ok N) (laws_eqVector.en_ok N (E75_ok N))
def laws_eqVectorS_susu.kp : Keeps := ⟨[(0, [0, 1, 5], [], [])], [(0, [], [], [])], []⟩
def laws_eqVectorS_susu.bd : Code := bodyOf Try.f38
def laws_eqVectorS_susu.fin {ρ : Type} (N : Nat) (K : AV → Heap → Option ρ) (gv2 : Nat) (gv3 : Nat → Int) (gv4 : Nat) (gv5 : Nat → Int) : XE → St → Option ρ := finK (E76 N) laws_eqVectorS_susu.kp.fins Try.f38 [⟨false, .flat gv2 (.ints .u8 gv3)⟩, ⟨false, .flat gv4 (.ints .u8 gv5)⟩] K
def laws_eqVectorS_susu.k0 {ρ : Type} (N : Nat) (K : AV → Heap → Option ρ) (gv2 : Nat) (gv3 : Nat → Int) (gv4 : Nat) (gv5 : Nat → Int) : XE → St → Option ρ := (blockK laws_eqVectorS_susu.kp 2 0 (seqK (xcode (E76 N) ents laws_eqVectorS_susu.kp 2 N (cB (cB (cB laws_eqVectorS_susu.bd))) 0) (laws_eqVectorS_susu.fin N K gv2 gv3 gv4 gv5)))
theorem laws_eqVectorS_susu.k0_mix {ρ : Type} (N : Nat) (K : AV → Heap → Option ρ) (gv2 : Nat) (gv3 : Nat → Int) (gv4 : Nat) (gv5 : Nat → Int) : mixK (laws_eqVectorS_susu.fin N K gv2 gv3 gv4 gv5 .ret) (laws_eqVectorS_susu.k0 N K gv2 gv3 gv4 gv5) = (laws_eqVectorS_susu.k0 N K gv2 gv3 gv4 gv5) := by
  funext e s; cases e <;> kernel_rfl
def laws_eqVectorS_susu.st0 (av0 : Nat) (bv1 : Nat) (gv2 : Nat) (gv3 : Nat → Int) (gv4 : Nat) (gv5 : Nat → Int) (i6 : Int) : St := ⟨sl 27 [(0, .slice false 0 0 av0 .unk 8), (1, .slice false 1 0 bv1 .unk 8), (5, .int .i64 (i6))], [⟨false, .flat gv2 (.ints .u8 gv3)⟩, ⟨false, .flat gv4 (.ints .u8 gv5)⟩]⟩
def laws_eqVectorS_susu.sx0_0 (gv2 : Nat) (gv3 : Nat → Int) (gv4 : Nat) (gv5 : Nat → Int) : St := ⟨sl 27 [], [⟨false, .flat gv2 (.ints .u8 gv3)⟩, ⟨false, .flat gv4 (.ints .u8 gv5)⟩]⟩
theorem laws_eqVectorS_susu.b0_gen {ρ : Type} (N : Nat) (K : AV → Heap → Option ρ) (L0 : St → Option ρ) (kv : XE → St → Option ρ) (av0 : Nat) (bv1 : Nat) (gv2 : Nat) (gv3 : Nat → Int) (gv4 : Nat) (gv5 : Nat → Int) (i6 : Int) :
    xcode (E76 N) ents laws_eqVectorS_susu.kp 2 N (cL (cK (cB (cA (cB (cB laws_eqVectorS_susu.bd)))))) 0 (laws_eqVectorS_susu.st0 av0 bv1 gv2 gv3 gv4 gv5 i6) (roundK laws_eqVectorS_susu.kp 2 0 L0 (mixK (laws_eqVectorS_susu.fin N K gv2 gv3 gv4 gv5 .ret) kv)) = (laws_eqVectorS_susu.b0 N (fun d0 => K (.bool (d0)) [⟨false, .flat gv2 (.ints .u8 gv3)⟩, ⟨false, .flat gv4 (.ints .u8 gv5)⟩]) (fun i6 => L0 (laws_eqVectorS_susu.st0 av0 bv1 gv2 gv3 gv4 gv5 i6)) (kv (.exit 0) (laws_eqVectorS_susu.sx0_0 gv2 gv3 gv4 gv5)) av0 bv1 gv3 gv5 i6) := by kernel_rfl
theorem laws_eqVectorS_susu.b0_eq {ρ : Type} (N : Nat) (K : AV → Heap → Option ρ) (L0 : St → Option ρ) (av0 : Nat) (bv1 : Nat) (gv2 : Nat) (gv3 : Nat → Int) (gv4 : Nat) (gv5 : Nat → Int) (i6 : Int) :
    xcode (E76 N) ents laws_eqVectorS_susu.kp 2 N (cL (cK (cB (cA (cB (cB laws_eqVectorS_susu.bd)))))) 0 (laws_eqVectorS_susu.st0 av0 bv1 gv2 gv3 gv4 gv5 i6) (roundK laws_eqVectorS_susu.kp 2 0 L0 (laws_eqVectorS_susu.k0 N K gv2 gv3 gv4 gv5)) = (laws_eqVectorS_susu.b0 N (fun d0 => K (.bool (d0)) [⟨false, .flat gv2 (.ints .u8 gv3)⟩, ⟨false, .flat gv4 (.ints .u8 gv5)⟩]) (fun i6 => L0 (laws_eqVectorS_susu.st0 av0 bv1 gv2 gv3 gv4 gv5 i6)) ((laws_eqVectorS_susu.k0 N K gv2 gv3 gv4 gv5) (.exit 0) (laws_eqVectorS_susu.sx0_0 gv2 gv3 gv4 gv5)) av0 bv1 gv3 gv5 i6) := by
  have h := laws_eqVectorS_susu.b0_gen N K L0 (laws_eqVectorS_susu.k0 N K gv2 gv3 gv4 gv5) av0 bv1 gv2 gv3 gv4 gv5 i6
  rw [laws_eqVectorS_susu.k0_mix] at h
  exact h
theorem laws_eqVectorS_susu.a0_0_eq {ρ : Type} (N : Nat) (K : AV → Heap → Option ρ) (gv2 : Nat) (gv3 : Nat → Int) (gv4 : Nat) (gv5 : Nat → Int) :
    (laws_eqVectorS_susu.k0 N K gv2 gv3 gv4 gv5) (.exit 0) (laws_eqVectorS_susu.sx0_0 gv2 gv3 gv4 gv5) = (laws_eqVectorS_susu.a0_0 N (fun d0 => K (.bool (d0)) [⟨false, .flat gv2 (.ints .u8 gv3)⟩, ⟨false, .flat gv4 (.ints .u8 gv5)⟩])) := by kernel_rfl
theorem laws_eqVectorS_susu.l0_eq {ρ : Type} (N : Nat) (K : AV → Heap → Option ρ) (av0 : Nat) (bv1 : Nat) (gv2 : Nat) (gv3 : Nat → Int) (gv4 : Nat) (gv5 : Nat → Int) :
    ∀ (m : Nat) (i6 : Int), xloop (xcode (E76 N) ents laws_eqVectorS_susu.kp 2 N (cL (cK (cB (cA (cB (cB laws_eqVectorS_susu.bd)))))) 0) laws_eqVectorS_susu.kp 2 0 m (laws_eqVectorS_susu.st0 av0 bv1 gv2 gv3 gv4 gv5 i6) (laws_eqVectorS_susu.k0 N K gv2 gv3 gv4 gv5) = (laws_eqVectorS_susu.l0 N (fun d0 => K (.bool (d0)) [⟨false, .flat gv2 (.ints .u8 gv3)⟩, ⟨false, .flat gv4 (.ints .u8 gv5)⟩]) av0 bv1 gv3 gv5 ((laws_eqVectorS_susu.k0 N K gv2 gv3 gv4 gv5) (.exit 0) (laws_eqVectorS_susu.sx0_0 gv2 gv3 gv4 gv5)) m i6) := by
  intro m
  induction m with
  | zero => intros; rfl
  | succ m ih =>
    intro i6
    refine (laws_eqVectorS_susu.b0_eq N K (fun s => xloop (xcode (E76 N) ents laws_eqVectorS_susu.kp 2 N (cL (cK (cB (cA (cB (cB laws_eqVectorS_susu.bd)))))) 0) laws_eqVectorS_susu.kp 2 0 m s (laws_eqVectorS_susu.k0 N K gv2 gv3 gv4 gv5)) av0 bv1 gv2 gv3 gv4 gv5 i6).trans ?_
    simp only [ih]
    kernel_rfl
theorem laws_eqVectorS_susu.s_eq {ρ : Type} (N : Nat) (K : AV → Heap → Option ρ) (av0 : Nat) (bv1 : Nat) (gv2 : Nat) (gv3 : Nat → Int) (gv4 : Nat) (gv5 : Nat → Int) :
    xbody (E76 N) ents laws_eqVectorS_susu.kp N Try.f38 laws_eqVectorS_susu.bd [.slice false 0 0 av0 .unk 8, .slice false 1 0 bv1 .unk 8] [⟨false, .flat gv2 (.ints .u8 gv3)⟩, ⟨false, .flat gv4 (.ints .u8 gv5)⟩] K = (laws_eqVectorS_susu.s N (fun d0 => K (.bool (d0)) [⟨false, .flat gv2 (.ints .u8 gv3)⟩, ⟨false, .flat gv4 (.ints .u8 gv5)⟩]) (fun i6 => xloop (xcode (E76 N) ents laws_eqVectorS_susu.kp 2 N (cL (cK (cB (cA (cB (cB laws_eqVectorS_susu.bd)))))) 0) laws_eqVectorS_susu.kp 2 0 N (laws_eqVectorS_susu.st0 av0 bv1 gv2 gv3 gv4 gv5 i6) (laws_eqVectorS_susu.k0 N K gv2 gv3 gv4 gv5)) av0 bv1) := by kernel_rfl
theorem laws_eqVectorS_susu.eq {ρ : Type} (N : Nat) (K : AV → Heap → Option ρ) (av0 : Nat) (bv1 : Nat) (gv2 : Nat) (gv3 : Nat → Int) (gv4 : Nat) (gv5 : Nat → Int) :
    xbody (E76 N) ents laws_eqVectorS_susu.kp N Try.f38 laws_eqVectorS_susu.bd [.slice false 0 0 av0 .unk 8, .slice false 1 0 bv1 .unk 8] [⟨false, .flat gv2 (.ints .u8 gv3)⟩, ⟨false, .flat gv4 (.ints .u8 gv5)⟩] K = (laws_eqVectorS_susu N (fun d0 => K (.bool (d0)) [⟨false, .flat gv2 (.ints .u8 gv3)⟩, ⟨false, .flat gv4 (.ints .u8 gv5)⟩]) av0 bv1 gv2 gv3 gv4 gv5) := by
  refine (laws_eqVectorS_susu.s_eq N K av0 bv1 gv2 gv3 gv4 gv5).trans ?_
  simp only [laws_eqVectorS_susu.l0_eq, laws_eqVectorS_susu.a0_0_eq]
  kernel_rfl
def laws_eqVectorS_susu.en (N : Nat) (ρ : Type) : List AV → Heap → (AV → Heap → Option ρ) → Option ρ
  | [.slice false 0 0 av0 .unk 8, .slice false 1 0 bv1 .unk 8], [⟨false, .flat gv2 (.ints .u8 gv3)⟩, ⟨false, .flat gv4 (.ints .u8 gv5)⟩], K => (laws_eqVectorS_susu N (fun d0 => K (.bool (d0)) [⟨false, .flat gv2 (.ints .u8 gv3)⟩, ⟨false, .flat gv4 (.ints .u8 gv5)⟩]) av0 bv1 gv2 gv3 gv4 gv5)
  | _, _, _ => none
theorem laws_eqVectorS_susu.en_ok (N : Nat) (hE : EnvOk (E76 N) ents) (ρ : Type) (args : List AV) (sh : Heap) (K : AV → Heap → Option ρ) (r : ρ) (h : laws_eqVectorS_susu.en N ρ args sh K = some r) : ∃ v sh', K v sh' = some r ∧ FnOk (E76 N).P 38 args sh v sh' := by
  unfold laws_eqVectorS_susu.en at h
  split at h
  · exact fn_ok hE (kp := laws_eqVectorS_susu.kp) (N := N) Try.func38 (c := laws_eqVectorS_susu.bd) (by kernel_rfl) ((laws_eqVectorS_susu.eq N _ _ _ _ _ _ _).trans h)
  · cases h
def E77 (N : Nat) : Env := (E76 N).add 38 (laws_eqVectorS_susu.en N)
theorem E77_ok (N : Nat) : EnvOk (E77 N) ents := Env.add_ok (E76_ok N) (laws_eqVectorS_susu.en_ok N (E76_ok N))
def laws_markVectorS_su.kp : Keeps := ⟨[(0, [0, 1, 5], [], []), (2, [0, 1, 5, 6], [], [])], [(0, [1], [], []), (2, [0, 1, 5], [], [])], []⟩
def laws_markVectorS_su.bd : Code := bodyOf Try.f39
def laws_markVectorS_su.fin {ρ : Type} (N : Nat) (K : AV → Heap → Option ρ) (gv2 : Nat) (gv3 : Nat → Int) : XE → St → Option ρ := finK (E77 N) laws_markVectorS_su.kp.fins Try.f39 [⟨true, .flat gv2 (.ints .u8 gv3)⟩] K
def laws_markVectorS_su.k0 {ρ : Type} (N : Nat) (K : AV → Heap → Option ρ) (gv2 : Nat) (gv3 : Nat → Int) : XE → St → Option ρ := (blockK laws_markVectorS_su.kp 1 0 (seqK (xcode (E77 N) ents laws_markVectorS_su.kp 1 N (cB (cB laws_markVectorS_su.bd)) 0) (laws_markVectorS_su.fin N K gv2 gv3)))
theorem laws_markVectorS_su.k0_mix {ρ : Type} (N : Nat) (K : AV → Heap → Option ρ) (gv2 : Nat) (gv3 : Nat → Int) : mixK (laws_markVectorS_su.fin N K gv2 gv3 .ret) (laws_markVectorS_su.k0 N K gv2 gv3) = (laws_markVectorS_su.k0 N K gv2 gv3) := by
  funext e s; cases e <;> kernel_rfl
def laws_markVectorS_su.st0 (av0 : Nat) (gv2 : Nat) (k4 : Int) (i5 : Int) (gv6 : Nat → Int) : St := ⟨sl 27 [(0, .slice false 0 0 av0 .unk 8), (1, .int .i64 (k4)), (5, .int .i64 (i5))], [⟨true, .flat gv2 (.ints .u8 gv6)⟩]⟩
def laws_markVectorS_su.sx0_0 (gv2 : Nat) (ov12 : Int) (ov13 : Nat → Int) : St := ⟨sl 27 [(1, .int .i64 (ov12))], [⟨true, .flat gv2 (.ints .u8 ov13)⟩]⟩
def laws_markVectorS_su.k1g {ρ : Type} (N : Nat) (L0 : St → Option ρ) (kv : XE → St → Option ρ) : XE → St → Option ρ := (blockK laws_markVectorS_su.kp 1 2 (blockK laws_markVectorS_su.kp 1 1 (seqK (xcode (E77 N) ents laws_markVectorS_su.kp 1 N (cB (cB (cL (cK (cB (cA (cB laws_markVectorS_su.bd))))))) 0) (roundK laws_markVectorS_su.kp 1 0 L0 kv))))
theorem laws_markVectorS_su.k1_mix {ρ : Type} (N : Nat) (K : AV → Heap → Option ρ) (L0 : St → Option ρ) (gv2 : Nat) (gv3 : Nat → Int) : mixK (laws_markVectorS_su.fin N K gv2 gv3 .ret) (laws_markVectorS_su.k1g N L0 (laws_markVectorS_su.k0 N K gv2 gv3)) = (laws_markVectorS_su.k1g N L0 (laws_markVectorS_su.k0 N K gv2 gv3)) := by
  funext e s; cases e <;> kernel_rfl
def laws_markVectorS_su.st1 (av0 : Nat) (gv2 : Nat) (i5 : Int) (k7 : Int) (j8 : Int) (gv9 : Nat → Int) : St := ⟨sl 27 [(0, .slice false 0 0 av0 .unk 8), (1, .int .i64 (k7)), (5, .int .i64 (i5)), (6, .int .i64 (j8))], [⟨true, .flat gv2 (.ints .u8 gv9)⟩]⟩
def laws_markVectorS_su.sx1_0 (av0 : Nat) (gv2 : Nat) (i5 : Int) (ov10 : Int) (ov11 : Nat → Int) : St := ⟨sl 27 [(0, .slice false 0 0 av0 .unk 8), (1, .int .i64 (ov10)), (5, .int .i64 (i5))], [⟨true, .flat gv2 (.ints .u8 ov11)⟩]⟩
theorem laws_markVectorS_su.b1_gen {ρ : Type} (N : Nat) (K : AV → Heap → Option ρ) (L1 : St → Option ρ) (kv : XE → St → Option ρ) (av0 : Nat) (gv2 : Nat) (gv3 : Nat → Int) (i5 : Int) (k7 : Int) (j8 : Int) (gv9 : Nat → Int) :
    xcode (E77 N) ents laws_markVectorS_su.kp 1 N (cL (cK (cB (cK (cA (cB (cL (cK (cB (cA (cB laws_markVectorS_su.bd))))))))))) 2 (laws_markVectorS_su.st1 av0 gv2 i5 k7 j8 gv9) (roundK laws_markVectorS_su.kp 1 2 L1 (mixK (laws_markVectorS_su.fin N K gv2 gv3 .ret) kv)) = (laws_markVectorS_su.b1 N (fun d0 d1 => K (.int .i64 (d0)) [⟨true, .flat gv2 (.ints .u8 d1)⟩]) (fun k7 j8 gv9 => L1 (laws_markVectorS_su.st1 av0 gv2 i5 k7 j8 gv9)) (fun ov10 ov11 => kv (.exit 2) (laws_markVectorS_su.sx1_0 av0 gv2 i5 ov10 ov11)) av0 i5 k7 j8 gv9) := by kernel_rfl
theorem laws_markVectorS_su.b1_eq {ρ : Type} (N : Nat) (K : AV → Heap → Option ρ) (L0 : St → Option ρ) (L1 : St → Option ρ) (av0 : Nat) (gv2 : Nat) (gv3 : Nat → Int) (i5 : Int) (k7 : Int) (j8 : Int) (gv9 : Nat → Int) :
    xcode (E77 N) ents laws_markVectorS_su.kp 1 N (cL (cK (cB (cK (cA (cB (cL (cK (cB (cA (cB laws_markVectorS_su.bd))))))))))) 2 (laws_markVectorS_su.st1 av0 gv2 i5 k7 j8 gv9) (roundK laws_markVectorS_su.kp 1 2 L1 (laws_markVectorS_su.k1g N L0 (laws_markVectorS_su.k0 N K gv2 gv3))) = (laws_markVectorS_su.b1 N (fun d0 d1 => K (.int .i64 (d0)) [⟨true, .flat gv2 (.ints .u8 d1)⟩]) (fun k7 j8 gv9 => L1 (laws_markVectorS_su.st1 av0 gv2 i5 k7 j8 gv9)) (fun ov10 ov11 => (laws_markVectorS_su.k1g N L0 (laws_markVectorS_su.k0 N K gv2 gv3)) (.exit 2) (laws_markVectorS_su.sx1_0 av0 gv2 i5 ov10 ov11)) av0 i5 k7 j8 gv9) := by
  have h := laws_markVectorS_su.b1_gen N K L1 (laws_markVectorS_su.k1g N L0 (laws_markVectorS_su.k0 N K gv2 gv3)) av0 gv2 gv3 i5 k7 j8 gv9
  rw [laws_markVectorS_su.k1_mix] at h
  exact h
theorem laws_markVectorS_su.a1_0_gen {ρ : Type} (N : Nat) (K : AV → Heap → Option ρ) (L0 : St → Option ρ) (kv : XE → St → Option ρ) (av0 : Nat) (gv2 : Nat) (gv3 : Nat → Int) (i5 : Int) (ov10 : Int) (ov11 : Nat → Int) :
    (laws_markVectorS_su.k1g N L0 (mixK (laws_markVectorS_su.fin N K gv2 gv3 .ret) kv)) (.exit 2) (laws_markVectorS_su.sx1_0 av0 gv2 i5 ov10 ov11) = (laws_markVectorS_su.a1_0 N (fun d0 d1 => K (.int .i64 (d0)) [⟨true, .flat gv2 (.ints .u8 d1)⟩]) (fun k4 i5 gv6 => L0 (laws_markVectorS_su.st0 av0 gv2 k4 i5 gv6)) (fun ov12 ov13 => kv (.exit 0) (laws_markVectorS_su.sx0_0 gv2 ov12 ov13)) i5 ov10 ov11) := by kernel_rfl
theorem laws_markVectorS_su.a1_0_eq {ρ : Type} (N : Nat) (K : AV → Heap → Option ρ) (L0 : St → Option ρ) (av0 : Nat) (gv2 : Nat) (gv3 : Nat → Int) (i5 : Int) (ov10 : Int) (ov11 : Nat → Int) :
    (laws_markVectorS_su.k1g N L0 (laws_markVectorS_su.k0 N K gv2 gv3)) (.exit 2) (laws_markVectorS_su.sx1_0 av0 gv2 i5 ov10 ov11) = (laws_markVectorS_su.a1_0 N (fun d0 d1 => K (.int .i64 (d0)) [⟨true, .flat gv2 (.ints .u8 d1)⟩]) (fun k4 i5 gv6 => L0 (laws_markVectorS_su.st0 av0 gv2 k4 i5 gv6)) (fun ov12 ov13 => (laws_markVectorS_su.k0 N K gv2 gv3) (.exit 0) (laws_markVectorS_su.sx0_0 gv2 ov12 ov13)) i5 ov10 ov11) := by
  have h := laws_markVectorS_su.a1_0_gen N K L0 (laws_markVectorS_su.k0 N K gv2 gv3) av0 gv2 gv3 i5 ov10 ov11
  rw [laws_markVectorS_su.k0_mix] at h
  exact h
theorem laws_markVectorS_su.b0_gen {ρ : Type} (N : Nat) (K : AV → Heap → Option ρ) (L0 : St → Option ρ) (kv : XE → St → Option ρ) (av0 : Nat) (gv2 : Nat) (gv3 : Nat → Int) (k4 : Int) (i5 : Int) (gv6 : Nat → Int) :
    xcode (E77 N) ents laws_markVectorS_su.kp 1 N (cL (cK (cB (cA (cB laws_markVectorS_su.bd))))) 0 (laws_markVectorS_su.st0 av0 gv2 k4 i5 gv6) (roundK laws_markVectorS_su.kp 1 0 L0 (mixK (laws_markVectorS_su.fin N K gv2 gv3 .ret) kv)) = (laws_markVectorS_su.b0 N (fun d0 d1 => K (.int .i64 (d0)) [⟨true, .flat gv2 (.ints .u8 d1)⟩]) (fun k7 j8 gv9 => xloop (xcode (E77 N) ents laws_markVectorS_su.kp 1 N (cL (cK (cB (cK (cA (cB (cL (cK (cB (cA (cB laws_markVectorS_su.bd))))))))))) 2) laws_markVectorS_su.kp 1 2 N (laws_markVectorS_su.st1 av0 gv2 i5 k7 j8 gv9) (laws_markVectorS_su.k1g N L0 (mixK (laws_markVectorS_su.fin N K gv2 gv3 .ret) kv))) (fun k4 i5 gv6 => L0 (laws_markVectorS_su.st0 av0 gv2 k4 i5 gv6)) (fun ov12 ov13 => kv (.exit 0) (laws_markVectorS_su.sx0_0 gv2 ov12 ov13)) av0 k4 i5 gv6) := by kernel_rfl
theorem laws_markVectorS_su.b0_eq {ρ : Type} (N : Nat) (K : AV → Heap → Option ρ) (L0 : St → Option ρ) (av0 : Nat) (gv2 : Nat) (gv3 : Nat → Int) (k4 : Int) (i5 : Int) (gv6 : Nat → Int) :
    xcode (E77 N) ents laws_markVectorS_su.kp 1 N (cL (cK (cB (cA (cB laws_markVectorS_su.bd))))) 0 (laws_markVectorS_su.st0 av0 gv2 k4 i5 gv6) (roundK laws_markVectorS_su.kp 1 0 L0 (laws_markVectorS_su.k0 N K gv2 gv3)) = (laws_markVectorS_su.b0 N (fun d0 d1 => K (.int .i64 (d0)) [⟨true, .flat gv2 (.ints .u8 d1)⟩]) (fun k7 j8 gv9 => xloop (xcode (E77 N) ents laws_markVectorS_su.kp 1 N (cL (cK (cB (cK (cA (cB (cL (cK (cB (cA (cB laws_markVectorS_su.bd))))))))))) 2) laws_markVectorS_su.kp 1 2 N (laws_markVectorS_su.st1 av0 gv2 i5 k7 j8 gv9) (laws_markVectorS_su.k1g N L0 (laws_markVectorS_su.k0 N K gv2 gv3))) (fun k4 i5 gv6 => L0 (laws_markVectorS_su.st0 av0 gv2 k4 i5 gv6)) (fun ov12 ov13 => (laws_markVectorS_su.k0 N K gv2 gv3) (.exit 0) (laws_markVectorS_su.sx0_0 gv2 ov12 ov13)) av0 k4 i5 gv6) := by
  have h := laws_markVectorS_su.b0_gen N K L0 (laws_markVectorS_su.k0 N K gv2 gv3) av0 gv2 gv3 k4 i5 gv6
  rw [laws_markVectorS_su.k0_mix] at h
  exact h
theorem laws_markVectorS_su.a0_0_eq {ρ : Type} (N : Nat) (K : AV → Heap → Option ρ) (gv2 : Nat) (gv3 : Nat → Int) (ov12 : Int) (ov13 : Nat → Int) :
    (laws_markVectorS_su.k0 N K gv2 gv3) (.exit 0) (laws_markVectorS_su.sx0_0 gv2 ov12 ov13) = (laws_markVectorS_su.a0_0 N (fun d0 d1 => K (.int .i64 (d0)) [⟨true, .flat gv2 (.ints .u8 d1)⟩]) ov12 ov13) := by kernel_rfl
theorem laws_markVectorS_su.l1_eq {ρ : Type} (N : Nat) (K : AV → Heap → Option ρ) (L0 : St → Option ρ) (av0 : Nat) (gv2 : Nat) (gv3 : Nat → Int) (i5 : Int) :
    ∀ (m : Nat) (k7 : Int) (j8 : Int) (gv9 : Nat → Int), xloop (xcode (E77 N) ents laws_markVectorS_su.kp 1 N (cL (cK (cB (cK (cA (cB (cL (cK (cB (cA (cB laws_markVectorS_su.bd))))))))))) 2) laws_markVectorS_su.kp 1 2 m (laws_markVectorS_su.st1 av0 gv2 i5 k7 j8 gv9) (laws_markVectorS_su.k1g N L0 (laws_markVectorS_su.k0 N K gv2 gv3)) = (laws_markVectorS_su.l1 N (fun d0 d1 => K (.int .i64 (d0)) [⟨true, .flat gv2 (.ints .u8 d1)⟩]) av0 i5 (fun ov10 ov11 => (laws_markVectorS_su.k1g N L0 (laws_markVectorS_su.k0 N K gv2 gv3)) (.exit 2) (laws_markVectorS_su.sx1_0 av0 gv2 i5 ov10 ov11)) m k7 j8 gv9) := by
  intro m
  induction m with
  | zero => intros; rfl
  | succ m ih =>
    intro k7 j8 gv9
    refine (laws_markVectorS_su.b1_eq N K L0 (fun s => xloop (xcode (E77 N) ents laws_markVectorS_su.kp 1 N (cL (cK (cB (cK (cA (cB (cL (cK (cB (cA (cB laws_markVectorS_su.bd))))))))))) 2) laws_markVectorS_su.kp 1 2 m s (laws_markVectorS_su.k1g N L0 (laws_markVectorS_su.k0 N K gv2 gv3))) av0 gv2 gv3 i5 k7 j8 gv9).trans ?_
    simp only [ih]
    kernel_rfl
theorem laws_markVectorS_su.l0_eq {ρ : Type} (N : Nat) (K : AV → Heap → Option ρ) (av0 : Nat) (gv2 : Nat) (gv3 : Nat → Int) :
    ∀ (m : Nat) (k4 : Int) (i5 : Int) (gv6 : Nat → Int), xloop (xcode (E77 N) ents laws_markVectorS_su.kp 1 N (cL (cK (cB (cA (cB laws_markVectorS_su.bd))))) 0) laws_markVectorS_su.kp 1 0 m (laws_markVectorS_su.st0 av0 gv2 k4 i5 gv6) (laws_markVectorS_su.k0 N K gv2 gv3) = (laws_markVectorS_su.l0 N (fun d0 d1 => K (.int .i64 (d0)) [⟨true, .flat gv2 (.ints .u8 d1)⟩]) av0 (fun ov12 ov13 => (laws_markVectorS_su.k0 N K gv2 gv3) (.exit 0) (laws_markVectorS_su.sx0_0 gv2 ov12 ov13)) m k4 i5 gv6) := by
  intro m
  induction m with
  | zero => intros; rfl
  | succ m ih =>
    intro k4 i5 gv6
    refine (laws_markVectorS_su.b0_eq N K (fun s => xloop (xcode (E77 N) ents laws_markVectorS_su.kp 1 N (cL (cK (cB (cA (cB laws_markVectorS_su.bd))))) 0) laws_markVectorS_su.kp 1 0 m s (laws_markVectorS_su.k0 N K gv2 gv3)) av0 gv2 gv3 k4 i5 gv6).trans ?_
    simp only [ih, laws_markVectorS_su.l1_eq, laws_markVectorS_su.a1_0_eq]
    kernel_rfl
theorem laws_markVectorS_su.s_eq {ρ : Type} (N : Nat) (K : AV → Heap → Option ρ) (av0 : Nat) (k1 : Int) (gv2 : Nat) (gv3 : Nat → Int) :
    xbody (E77 N) ents laws_markVectorS_su.kp N Try.f39 laws_markVectorS_su.bd [.slice false 0 0 av0 .unk 8, .int .i64 (k1)] [⟨true, .flat gv2 (.ints .u8 gv3)⟩] K = (laws_markVectorS_su.s N (fun d0 d1 => K (.int .i64 (d0)) [⟨true, .flat gv2 (.ints .u8 d1)⟩]) (fun k4 i5 gv6 => xloop (xcode (E77 N) ents laws_markVectorS_su.kp 1 N (cL (cK (cB (cA (cB laws_markVectorS_su.bd))))) 0) laws_markVectorS_su.kp 1 0 N (laws_markVectorS_su.st0 av0 gv2 k4 i5 gv6) (laws_markVectorS_su.k0 N K gv2 gv3)) k1 gv3) := by kernel_rfl
theorem laws_markVectorS_su.eq {ρ : Type} (N : Nat) (K : AV → Heap → Option ρ) (av0 : Nat) (k1 : Int) (gv2 : Nat) (gv3 : Nat → Int) :
    xbody (E77 N) ents laws_markVectorS_su.kp N Try.f39 laws_markVectorS_su.bd [.slice false 0 0 av0 .unk 8, .int .i64 (k1)] [⟨true, .flat gv2 (.ints .u8 gv3)⟩] K = (laws_markVectorS_su N (fun d0 d1 => K (.int .i64 (d0)) [⟨true, .flat gv2 (.ints .u8 d1)⟩]) av0 k1 gv2 gv3) := by
  refine (laws_markVectorS_su.s_eq N K av0 k1 gv2 gv3).trans ?_
  simp only [laws_markVectorS_su.l0_eq, laws_markVectorS_su.a0_0_eq]
  kernel_rfl
def laws_markVectorS_su.en (N : Nat) (ρ : Type) : List AV → Heap → (AV → Heap → Option ρ) → Option ρ
  | [.slice false 0 0 av0 .unk 8, .int .i64 (k1)], [⟨true, .flat gv2 (.ints .u8 gv3)⟩], K => (laws_markVectorS_su N (fun d0 d1 => K (.int .i64 (d0)) [⟨true, .flat gv2 (.ints .u8 d1)⟩]) av0 k1 gv2 gv3)
  | _, _, _ => none
theorem laws_markVectorS_su.en_ok (N : Nat) (hE : EnvOk (E77 N) ents) (ρ : Type) (args : List AV) (sh : Heap) (K : AV → Heap → Option ρ) (r : ρ) (h : laws_markVectorS_su.en N ρ args sh K = some r) : ∃ v sh', K v sh' = some r ∧ FnOk (E77 N).P 39 args sh v sh' := by
  unfold laws_markVectorS_su.en at h
  split at h
  · exact fn_ok hE (kp := laws_markVectorS_su.kp) (N := N) Try.func39 (c := laws_markVectorS_su.bd) (by kernel_rfl) ((laws_markVectorS_su.eq N _ _ _ _ _).trans h)
  · cases h
def E78 (N : Nat) : Env := (E77 N).add 39 (laws_markVectorS_su.en N)
theorem E78_ok (N : Nat) : EnvOk (E78 N) ents := Env.add_ok (E77_ok N) (laws_markVectorS_su.en_ok N (E77_ok N))
def laws_heldVectorS_su.kp : Keeps := ⟨[(0, [0, 1, 5], [], []), (2, [0, 1, 5, 6], [], [])], [(0, [1], [], []), (2, [0, 1, 5], [], [])], []⟩
def laws_heldVectorS_su.bd : Code := bodyOf Try.f40
def laws_heldVectorS_su.fin {ρ : Type} (N : Nat) (K : AV → Heap → Option ρ) (gv2 : Nat) (gv3 : Nat → Int) : XE → St → Option ρ := finK (E78 N) laws_heldVectorS_su.kp.fins Try.f40 [⟨false, .flat gv2 (.ints .u8 gv3)⟩] K
def laws_heldVectorS_su.k0 {ρ : Type} (N : Nat) (K : AV → Heap → Option ρ) (gv2 : Nat) (gv3 : Nat → Int) : XE → St → Option ρ := (blockK laws_heldVectorS_su.kp 1 0 (seqK (xcode (E78 N) ents laws_heldVectorS_su.kp 1 N (cB (cB laws_heldVectorS_su.bd)) 0) (laws_heldVectorS_su.fin N K gv2 gv3)))
theorem laws_heldVectorS_su.k0_mix {ρ : Type} (N : Nat) (K : AV → Heap → Option ρ) (gv2 : Nat) (gv3 : Nat → Int) : mixK (laws_heldVectorS_su.fin N K gv2 gv3 .ret) (laws_heldVectorS_su.k0 N K gv2 gv3) = (laws_heldVectorS_su.k0 N K gv2 gv3) := by
  funext e s; cases e <;> kernel_rfl
def laws_heldVectorS_su.st0 (av0 : Nat) (gv2 : Nat) (gv3 : Nat → Int) (k4 : Int) (i5 : Int) : St := ⟨sl 29 [(0, .slice false 0 0 av0 .unk 8), (1, .int .i64 (k4)), (5, .int .i64 (i5))], [⟨false, .flat gv2 (.ints .u8 gv3)⟩]⟩
def laws_heldVectorS_su.sx0_0 (gv2 : Nat) (gv3 : Nat → Int) (ov9 : Int) : St := ⟨sl 29 [(1, .int .i64 (ov9))], [⟨false, .flat gv2 (.ints .u8 gv3)⟩]⟩
def laws_heldVectorS_su.k1g {ρ : Type} (N : Nat) (L0 : St → Option ρ) (kv : XE → St → Option ρ) : XE → St → Option ρ := (blockK laws_heldVectorS_su.kp 1 2 (blockK laws_heldVectorS_su.kp 1 1 (seqK (xcode (E78 N) ents laws_heldVectorS_su.kp 1 N (cB (cB (cL (cK (cB (cA (cB laws_heldVectorS_su.bd))))))) 0) (roundK laws_heldVectorS_su.kp 1 0 L0 kv))))
theorem laws_heldVectorS_su.k1_mix {ρ : Type} (N : Nat) (K : AV → Heap → Option ρ) (L0 : St → Option ρ) (gv2 : Nat) (gv3 : Nat → Int) : mixK (laws_heldVectorS_su.fin N K gv2 gv3 .ret) (laws_heldVectorS_su.k1g N L0 (laws_heldVectorS_su.k0 N K gv2 gv3)) = (laws_heldVectorS_su.k1g N L0 (laws_heldVectorS_su.k0 N K gv2 gv3)) := by
  funext e s; cases e <;> kernel_rfl
def laws_heldVectorS_su.st1 (av0 : Nat) (gv2 : Nat) (gv3 : Nat → Int) (i5 : Int) (k6 : Int) (j7 : Int) : St := ⟨sl 29 [(0, .slice false 0 0 av0 .unk 8), (1, .int .i64 (k6)), (5, .int .i64 (i5)), (6, .int .i64 (j7))], [⟨false, .flat gv2 (.ints .u8 gv3)⟩]⟩
def laws_heldVectorS_su.sx1_0 (av0 : Nat) (gv2 : Nat) (gv3 : Nat → Int) (i5 : Int) (ov8 : Int) : St := ⟨sl 29 [(0, .slice false 0 0 av0 .unk 8), (1, .int .i64 (ov8)), (5, .int .i64 (i5))], [⟨false, .flat gv2 (.ints .u8 gv3)⟩]⟩
theorem laws_heldVectorS_su.b1_gen {ρ : Type} (N : Nat) (K : AV → Heap → Option ρ) (L1 : St → Option ρ) (kv : XE → St → Option ρ) (av0 : Nat) (gv2 : Nat) (gv3 : Nat → Int) (i5 : Int) (k6 : Int) (j7 : Int) :
    xcode (E78 N) ents laws_heldVectorS_su.kp 1 N (cL (cK (cB (cK (cA (cB (cL (cK (cB (cA (cB laws_heldVectorS_su.bd))))))))))) 2 (laws_heldVectorS_su.st1 av0 gv2 gv3 i5 k6 j7) (roundK laws_heldVectorS_su.kp 1 2 L1 (mixK (laws_heldVectorS_su.fin N K gv2 gv3 .ret) kv)) = (laws_heldVectorS_su.b1 N (fun d0 => K (.int .i64 (d0)) [⟨false, .flat gv2 (.ints .u8 gv3)⟩]) (fun k6 j7 => L1 (laws_heldVectorS_su.st1 av0 gv2 gv3 i5 k6 j7)) (fun ov8 => kv (.exit 2) (laws_heldVectorS_su.sx1_0 av0 gv2 gv3 i5 ov8)) av0 gv3 i5 k6 j7) := by kernel_rfl
theorem laws_heldVectorS_su.b1_eq {ρ : Type} (N : Nat) (K : AV → Heap → Option ρ) (L0 : St → Option ρ) (L1 : St → Option ρ) (av0 : Nat) (gv2 : Nat) (gv3 : Nat → Int) (i5 : Int) (k6 : Int) (j7 : Int) :
    xcode (E78 N) ents laws_heldVectorS_su.kp 1 N (cL (cK (cB (cK (cA (cB (cL (cK (cB (cA (cB laws_heldVectorS_su.bd))))))))))) 2 (laws_heldVectorS_su.st1 av0 gv2 gv3 i5 k6 j7) (roundK laws_heldVectorS_su.kp 1 2 L1 (laws_heldVectorS_su.k1g N L0 (laws_heldVectorS_su.k0 N K gv2 gv3))) = (laws_heldVectorS_su.b1 N (fun d0 => K (.int .i64 (d0)) [⟨false, .flat gv2 (.ints .u8 gv3)⟩]) (fun k6 j7 => L1 (laws_heldVectorS_su.st1 av0 gv2 gv3 i5 k6 j7)) (fun ov8 => (laws_heldVectorS_su.k1g N L0 (laws_heldVectorS_su.k0 N K gv2 gv3)) (.exit 2) (laws_heldVectorS_su.sx1_0 av0 gv2 gv3 i5 ov8)) av0 gv3 i5 k6 j7) := by
  have h := laws_heldVectorS_su.b1_gen N K L1 (laws_heldVectorS_su.k1g N L0 (laws_heldVectorS_su.k0 N K gv2 gv3)) av0 gv2 gv3 i5 k6 j7
  rw [laws_heldVectorS_su.k1_mix] at h
  exact h
theorem laws_heldVectorS_su.a1_0_gen {ρ : Type} (N : Nat) (K : AV → Heap → Option ρ) (L0 : St → Option ρ) (kv : XE → St → Option ρ) (av0 : Nat) (gv2 : Nat) (gv3 : Nat → Int) (i5 : Int) (ov8 : Int) :
    (laws_heldVectorS_su.k1g N L0 (mixK (laws_heldVectorS_su.fin N K gv2 gv3 .ret) kv)) (.exit 2) (laws_heldVectorS_su.sx1_0 av0 gv2 gv3 i5 ov8) = (laws_heldVectorS_su.a1_0 N (fun d0 => K (.int .i64 (d0)) [⟨false, .flat gv2 (.ints .u8 gv3)⟩]) (fun k4 i5 => L0 (laws_heldVectorS_su.st0 av0 gv2 gv3 k4 i5)) (fun ov9 => kv (.exit 0) (laws_heldVectorS_su.sx0_0 gv2 gv3 ov9)) i5 ov8) := by kernel_rfl
theorem laws_heldVectorS_su.a1_0_eq {ρ : Type} (N : Nat) (K : AV → Heap → Option ρ) (L0 : St → Option ρ) (av0 : Nat) (gv2 : Nat) (gv3 : Nat → Int) (i5 : Int) (ov8 : Int) :
    (laws_heldVectorS_su.k1g N L0 (laws_heldVectorS_su.k0 N K gv2 gv3)) (.exit 2) (laws_heldVectorS_su.sx1_0 av0 gv2 gv3 i5 ov8) = (laws_heldVectorS_su.a1_0 N (fun d0 => K (.int .i64 (d0)) [⟨false, .flat gv2 (.ints .u8 gv3)⟩]) (fun k4 i5 => L0 (laws_heldVectorS_su.st0 av0 gv2 gv3 k4 i5)) (fun ov9 => (laws_heldVectorS_su.k0 N K gv2 gv3) (.exit 0) (laws_heldVectorS_su.sx0_0 gv2 gv3 ov9)) i5 ov8) := by
  have h := laws_heldVectorS_su.a1_0_gen N K L0 (laws_heldVectorS_su.k0 N K gv2 gv3) av0 gv2 gv3 i5 ov8
  rw [laws_heldVectorS_su.k0_mix] at h
  exact h
theorem laws_heldVectorS_su.b0_gen {ρ : Type} (N : Nat) (K : AV → Heap → Option ρ) (L0 : St → Option ρ) (kv : XE → St → Option ρ) (av0 : Nat) (gv2 : Nat) (gv3 : Nat → Int) (k4 : Int) (i5 : Int) :
    xcode (E78 N) ents laws_heldVectorS_su.kp 1 N (cL (cK (cB (cA (cB laws_heldVectorS_su.bd))))) 0 (laws_heldVectorS_su.st0 av0 gv2 gv3 k4 i5) (roundK laws_heldVectorS_su.kp 1 0 L0 (mixK (laws_heldVectorS_su.fin N K gv2 gv3 .ret) kv)) = (laws_heldVectorS_su.b0 N (fun d0 => K (.int .i64 (d0)) [⟨false, .flat gv2 (.ints .u8 gv3)⟩]) (fun k6 j7 => xloop (xcode (E78 N) ents laws_heldVectorS_su.kp 1 N (cL (cK (cB (cK (cA (cB (cL (cK (cB (cA (cB laws_heldVectorS_su.bd))))))))))) 2) laws_heldVectorS_su.kp 1 2 N (laws_heldVectorS_su.st1 av0 gv2 gv3 i5 k6 j7) (laws_heldVectorS_su.k1g N L0 (mixK (laws_heldVectorS_su.fin N K gv2 gv3 .ret) kv))) (fun k4 i5 => L0 (laws_heldVectorS_su.st0 av0 gv2 gv3 k4 i5)) (fun ov9 => kv (.exit 0) (laws_heldVectorS_su.sx0_0 gv2 gv3 ov9)) av0 k4 i5) := by kernel_rfl
theorem laws_heldVectorS_su.b0_eq {ρ : Type} (N : Nat) (K : AV → Heap → Option ρ) (L0 : St → Option ρ) (av0 : Nat) (gv2 : Nat) (gv3 : Nat → Int) (k4 : Int) (i5 : Int) :
    xcode (E78 N) ents laws_heldVectorS_su.kp 1 N (cL (cK (cB (cA (cB laws_heldVectorS_su.bd))))) 0 (laws_heldVectorS_su.st0 av0 gv2 gv3 k4 i5) (roundK laws_heldVectorS_su.kp 1 0 L0 (laws_heldVectorS_su.k0 N K gv2 gv3)) = (laws_heldVectorS_su.b0 N (fun d0 => K (.int .i64 (d0)) [⟨false, .flat gv2 (.ints .u8 gv3)⟩]) (fun k6 j7 => xloop (xcode (E78 N) ents laws_heldVectorS_su.kp 1 N (cL (cK (cB (cK (cA (cB (cL (cK (cB (cA (cB laws_heldVectorS_su.bd))))))))))) 2) laws_heldVectorS_su.kp 1 2 N (laws_heldVectorS_su.st1 av0 gv2 gv3 i5 k6 j7) (laws_heldVectorS_su.k1g N L0 (laws_heldVectorS_su.k0 N K gv2 gv3))) (fun k4 i5 => L0 (laws_heldVectorS_su.st0 av0 gv2 gv3 k4 i5)) (fun ov9 => (laws_heldVectorS_su.k0 N K gv2 gv3) (.exit 0) (laws_heldVectorS_su.sx0_0 gv2 gv3 ov9)) av0 k4 i5) := by
  have h := laws_heldVectorS_su.b0_gen N K L0 (laws_heldVectorS_su.k0 N K gv2 gv3) av0 gv2 gv3 k4 i5
  rw [laws_heldVectorS_su.k0_mix] at h
  exact h
theorem laws_heldVectorS_su.a0_0_eq {ρ : Type} (N : Nat) (K : AV → Heap → Option ρ) (gv2 : Nat) (gv3 : Nat → Int) (ov9 : Int) :
    (laws_heldVectorS_su.k0 N K gv2 gv3) (.exit 0) (laws_heldVectorS_su.sx0_0 gv2 gv3 ov9) = (laws_heldVectorS_su.a0_0 N (fun d0 => K (.int .i64 (d0)) [⟨false, .flat gv2 (.ints .u8 gv3)⟩]) ov9) := by kernel_rfl
theorem laws_heldVectorS_su.l1_eq {ρ : Type} (N : Nat) (K : AV → Heap → Option ρ) (L0 : St → Option ρ) (av0 : Nat) (gv2 : Nat) (gv3 : Nat → Int) (i5 : Int) :
    ∀ (m : Nat) (k6 : Int) (j7 : Int), xloop (xcode (E78 N) ents laws_heldVectorS_su.kp 1 N (cL (cK (cB (cK (cA (cB (cL (cK (cB (cA (cB laws_heldVectorS_su.bd))))))))))) 2) laws_heldVectorS_su.kp 1 2 m (laws_heldVectorS_su.st1 av0 gv2 gv3 i5 k6 j7) (laws_heldVectorS_su.k1g N L0 (laws_heldVectorS_su.k0 N K gv2 gv3)) = (laws_heldVectorS_su.l1 N (fun d0 => K (.int .i64 (d0)) [⟨false, .flat gv2 (.ints .u8 gv3)⟩]) av0 gv3 i5 (fun ov8 => (laws_heldVectorS_su.k1g N L0 (laws_heldVectorS_su.k0 N K gv2 gv3)) (.exit 2) (laws_heldVectorS_su.sx1_0 av0 gv2 gv3 i5 ov8)) m k6 j7) := by
  intro m
  induction m with
  | zero => intros; rfl
  | succ m ih =>
    intro k6 j7
    refine (laws_heldVectorS_su.b1_eq N K L0 (fun s => xloop (xcode (E78 N) ents laws_heldVectorS_su.kp 1 N (cL (cK (cB (cK (cA (cB (cL (cK (cB (cA (cB laws_heldVectorS_su.bd))))))))))) 2) laws_heldVectorS_su.kp 1 2 m s (laws_heldVectorS_su.k1g N L0 (laws_heldVectorS_su.k0 N K gv2 gv3))) av0 gv2 gv3 i5 k6 j7).trans ?_
    simp only [ih]
    kernel_rfl
theorem laws_heldVectorS_su.l0_eq {ρ : Type} (N : Nat) (K : AV → Heap → Option ρ) (av0 : Nat) (gv2 : Nat) (gv3 : Nat → Int) :
    ∀ (m : Nat) (k4 : Int) (i5 : Int), xloop (xcode (E78 N) ents laws_heldVectorS_su.kp 1 N (cL (cK (cB (cA (cB laws_heldVectorS_su.bd))))) 0) laws_heldVectorS_su.kp 1 0 m (laws_heldVectorS_su.st0 av0 gv2 gv3 k4 i5) (laws_heldVectorS_su.k0 N K gv2 gv3) = (laws_heldVectorS_su.l0 N (fun d0 => K (.int .i64 (d0)) [⟨false, .flat gv2 (.ints .u8 gv3)⟩]) av0 gv3 (fun ov9 => (laws_heldVectorS_su.k0 N K gv2 gv3) (.exit 0) (laws_heldVectorS_su.sx0_0 gv2 gv3 ov9)) m k4 i5) := by
  intro m
  induction m with
  | zero => intros; rfl
  | succ m ih =>
    intro k4 i5
    refine (laws_heldVectorS_su.b0_eq N K (fun s => xloop (xcode (E78 N) ents laws_heldVectorS_su.kp 1 N (cL (cK (cB (cA (cB laws_heldVectorS_su.bd))))) 0) laws_heldVectorS_su.kp 1 0 m s (laws_heldVectorS_su.k0 N K gv2 gv3)) av0 gv2 gv3 k4 i5).trans ?_
    simp only [ih, laws_heldVectorS_su.l1_eq, laws_heldVectorS_su.a1_0_eq]
    kernel_rfl
theorem laws_heldVectorS_su.s_eq {ρ : Type} (N : Nat) (K : AV → Heap → Option ρ) (av0 : Nat) (k1 : Int) (gv2 : Nat) (gv3 : Nat → Int) :
    xbody (E78 N) ents laws_heldVectorS_su.kp N Try.f40 laws_heldVectorS_su.bd [.slice false 0 0 av0 .unk 8, .int .i64 (k1)] [⟨false, .flat gv2 (.ints .u8 gv3)⟩] K = (laws_heldVectorS_su.s N (fun d0 => K (.int .i64 (d0)) [⟨false, .flat gv2 (.ints .u8 gv3)⟩]) (fun k4 i5 => xloop (xcode (E78 N) ents laws_heldVectorS_su.kp 1 N (cL (cK (cB (cA (cB laws_heldVectorS_su.bd))))) 0) laws_heldVectorS_su.kp 1 0 N (laws_heldVectorS_su.st0 av0 gv2 gv3 k4 i5) (laws_heldVectorS_su.k0 N K gv2 gv3)) k1) := by kernel_rfl
theorem laws_heldVectorS_su.eq {ρ : Type} (N : Nat) (K : AV → Heap → Option ρ) (av0 : Nat) (k1 : Int) (gv2 : Nat) (gv3 : Nat → Int) :
    xbody (E78 N) ents laws_heldVectorS_su.kp N Try.f40 laws_heldVectorS_su.bd [.slice false 0 0 av0 .unk 8, .int .i64 (k1)] [⟨false, .flat gv2 (.ints .u8 gv3)⟩] K = (laws_heldVectorS_su N (fun d0 => K (.int .i64 (d0)) [⟨false, .flat gv2 (.ints .u8 gv3)⟩]) av0 k1 gv2 gv3) := by
  refine (laws_heldVectorS_su.s_eq N K av0 k1 gv2 gv3).trans ?_
  simp only [laws_heldVectorS_su.l0_eq, laws_heldVectorS_su.a0_0_eq]
  kernel_rfl
def laws_heldVectorS_su.en (N : Nat) (ρ : Type) : List AV → Heap → (AV → Heap → Option ρ) → Option ρ
  | [.slice false 0 0 av0 .unk 8, .int .i64 (k1)], [⟨false, .flat gv2 (.ints .u8 gv3)⟩], K => (laws_heldVectorS_su N (fun d0 => K (.int .i64 (d0)) [⟨false, .flat gv2 (.ints .u8 gv3)⟩]) av0 k1 gv2 gv3)
  | _, _, _ => none
theorem laws_heldVectorS_su.en_ok (N : Nat) (hE : EnvOk (E78 N) ents) (ρ : Type) (args : List AV) (sh : Heap) (K : AV → Heap → Option ρ) (r : ρ) (h : laws_heldVectorS_su.en N ρ args sh K = some r) : ∃ v sh', K v sh' = some r ∧ FnOk (E78 N).P 40 args sh v sh' := by
  unfold laws_heldVectorS_su.en at h
  split at h
  · exact fn_ok hE (kp := laws_heldVectorS_su.kp) (N := N) Try.func40 (c := laws_heldVectorS_su.bd) (by kernel_rfl) ((laws_heldVectorS_su.eq N _ _ _ _ _).trans h)
  · cases h
def E79 (N : Nat) : Env := (E78 N).add 40 (laws_heldVectorS_su.en N)
theorem E79_ok (N : Nat) : EnvOk (E79 N) ents := Env.add_ok (E78_ok N) (laws_heldVectorS_su.en_ok N (E78_ok N))
def laws_FnExactPrimitiveSpace.kp : Keeps := ⟨[], [], []⟩
def laws_FnExactPrimitiveSpace.bd : Code := bodyOf Try.f14
def laws_FnExactPrimitiveSpace.fin {ρ : Type} (N : Nat) (K : AV → Heap → Option ρ) : XE → St → Option ρ := finK (E79 N) laws_FnExactPrimitiveSpace.kp.fins Try.f14 [] K
theorem laws_FnExactPrimitiveSpace.eq {ρ : Type} (N : Nat) (K : AV → Heap → Option ρ) (aC0 : Nat → Int) (aC1 : Nat → Int) (aG2 : Nat → Int) (aH3 : Nat → Int) :
    xbody (E79 N) ents laws_FnExactPrimitiveSpace.kp N Try.f14 laws_FnExactPrimitiveSpace.bd [.agg [⟨.i64, 2, aC0⟩, ⟨.u8, 520, aC1⟩], .agg [⟨.u8, 8, aG2⟩], .agg [⟨.u8, 8, aH3⟩]] [] K = (laws_FnExactPrimitiveSpace N (fun d0 => K (.bool (d0)) []) aC0 aC1 aG2 aH3) := by kernel_rfl
def laws_FnExactPrimitiveSpace.en (N : Nat) (ρ : Type) : List AV → Heap → (AV → Heap → Option ρ) → Option ρ
  | [.agg [⟨.i64, 2, aC0⟩, ⟨.u8, 520, aC1⟩], .agg [⟨.u8, 8, aG2⟩], .agg [⟨.u8, 8, aH3⟩]], [], K => (laws_FnExactPrimitiveSpace N (fun d0 => K (.bool (d0)) []) aC0 aC1 aG2 aH3)
  | _, _, _ => none
theorem laws_FnExactPrimitiveSpace.en_ok (N : Nat) (hE : EnvOk (E79 N) ents) (ρ : Type) (args : List AV) (sh : Heap) (K : AV → Heap → Option ρ) (r : ρ) (h : laws_FnExactPrimitiveSpace.en N ρ args sh K = some r) : ∃ v sh', K v sh' = some r ∧ FnOk (E79 N).P 14 args sh v sh' := by
  unfold laws_FnExactPrimitiveSpace.en at h
  split at h
  · exact fn_ok hE (kp := laws_FnExactPrimitiveSpace.kp) (N := N) Try.func14 (c := laws_FnExactPrimitiveSpace.bd) (by kernel_rfl) ((laws_FnExactPrimitiveSpace.eq N _ _ _ _ _).trans h)
  · cases h
def E80 (N : Nat) : Env := (E79 N).add 14 (laws_FnExactPrimitiveSpace.en N)
theorem E80_ok (N : Nat) : EnvOk (E80 N) ents := Env.add_ok (E79_ok N) (laws_FnExactPrimitiveSpace.en_ok N (E79_ok N))
end
end Go.Proofs.Ythecjjnieojjoaa.H
