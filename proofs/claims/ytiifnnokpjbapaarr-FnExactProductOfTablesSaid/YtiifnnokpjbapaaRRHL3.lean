/- The program computes these functions. -/
import Derived.Test.YtiifnnokpjbapaaRRHL2
namespace Go.Proofs.YtiifnnokpjbapaaRR.H
set_option linter.unusedVariables false
set_option linter.unusedSimpArgs false
open Go Go.RowKit Go.Proofs.YtiifnnokpjbapaaRR.Hy
set_option linter.unusedVariables false
set_option maxRecDepth 100000
noncomputable def impl_tableOf_f_v3.kp : Keeps := ⟨[(0, [0, 1, 5, 10, 11], [], []), (2, [0, 1, 5, 6, 7, 10, 11, 15, 16], [], [])], [(0, [5], [], []), (2, [0, 1, 5, 7, 10, 11], [], [])], []⟩

noncomputable def impl_tableOf_f_v3.bd : Code := bodyOf Go.Proofs.Try.f59

noncomputable def impl_tableOf_f_v3.fin {ρ : Type} (N : Nat) (K : AV → Heap → Option ρ) (gv1 : Nat → Int) (gv2 : Nat) (gv3 : Nat) (gv4 : Nat) (gv5 : Nat) (gv6 : Nat → Nat) (gv7 : Nat → Nat) (gv8 : Nat → Nat) (gv9 : Nat → Int) : XE → St → Option ρ := finK (E20 N) impl_tableOf_f_v3.kp.fins Go.Proofs.Try.f59 [⟨false, .flat 1 (.ints .i64 gv1)⟩, ⟨false, .avs [.nils]⟩, ⟨false, .avs [.slice true 3 0 gv2 (.exact gv3) 1]⟩, ⟨false, .hdr 4 gv4 gv5 gv6 gv7 (some gv8)⟩, ⟨false, .flat 0 (.ints .i64 gv9)⟩] K

noncomputable def impl_tableOf_f_v3.k0 {ρ : Type} (N : Nat) (K : AV → Heap → Option ρ) (gv1 : Nat → Int) (gv2 : Nat) (gv3 : Nat) (gv4 : Nat) (gv5 : Nat) (gv6 : Nat → Nat) (gv7 : Nat → Nat) (gv8 : Nat → Nat) (gv9 : Nat → Int) : XE → St → Option ρ := (blockK impl_tableOf_f_v3.kp 5 0 (seqK (xcode (E20 N) ents impl_tableOf_f_v3.kp 5 N (cB (cB (cB impl_tableOf_f_v3.bd))) 0) (impl_tableOf_f_v3.fin N K gv1 gv2 gv3 gv4 gv5 gv6 gv7 gv8 gv9)))

theorem impl_tableOf_f_v3.k0_mix {ρ : Type} (N : Nat) (K : AV → Heap → Option ρ) (gv1 : Nat → Int) (gv2 : Nat) (gv3 : Nat) (gv4 : Nat) (gv5 : Nat) (gv6 : Nat → Nat) (gv7 : Nat → Nat) (gv8 : Nat → Nat) (gv9 : Nat → Int) : mixK (impl_tableOf_f_v3.fin N K gv1 gv2 gv3 gv4 gv5 gv6 gv7 gv8 gv9 .ret) (impl_tableOf_f_v3.k0 N K gv1 gv2 gv3 gv4 gv5 gv6 gv7 gv8 gv9) = (impl_tableOf_f_v3.k0 N K gv1 gv2 gv3 gv4 gv5 gv6 gv7 gv8 gv9) := by
  funext e s; cases e <;> kernel_rfl

noncomputable def impl_tableOf_f_v3.st0 (nv0 : Int) (gv1 : Nat → Int) (gv2 : Nat) (gv3 : Nat) (gv4 : Nat) (gv5 : Nat) (gv6 : Nat → Nat) (gv7 : Nat → Nat) (gv8 : Nat → Nat) (gv9 : Nat → Int) (outv10 : Nat) (x11 : Int) (gv12 : Nat → Nat) (gv13 : Nat → Nat) (gv14 : Nat → Int) : St := ⟨sl 33 [(0, .int .i64 (nv0)), (1, .fn 66 0 [[(0, 1)], [(1, 1)], [(2, 1)]]), (5, .slice true 5 0 outv10 .whole 1), (10, .int .i64 (nv0)), (11, .int .i64 (x11))], [⟨false, .flat 1 (.ints .i64 gv1)⟩, ⟨false, .avs [.nils]⟩, ⟨false, .avs [.slice true 3 0 gv2 (.exact gv3) 1]⟩, ⟨false, .hdr 4 gv4 gv5 gv6 gv7 (some gv8)⟩, ⟨false, .flat 0 (.ints .i64 gv9)⟩, ⟨true, .hdr 6 0 0 gv12 gv13 none⟩, ⟨true, .flat 0 (.ints .i64 gv14)⟩]⟩

noncomputable def impl_tableOf_f_v3.sx0_0 (gv1 : Nat → Int) (gv2 : Nat) (gv3 : Nat) (gv4 : Nat) (gv5 : Nat) (gv6 : Nat → Nat) (gv7 : Nat → Nat) (gv8 : Nat → Nat) (gv9 : Nat → Int) (ov15 : Nat) (ov16 : Nat → Nat) (ov17 : Nat → Nat) (ov18 : Nat → Int) : St := ⟨sl 33 [(5, .slice true 5 0 ov15 .whole 1)], [⟨false, .flat 1 (.ints .i64 gv1)⟩, ⟨false, .avs [.nils]⟩, ⟨false, .avs [.slice true 3 0 gv2 (.exact gv3) 1]⟩, ⟨false, .hdr 4 gv4 gv5 gv6 gv7 (some gv8)⟩, ⟨false, .flat 0 (.ints .i64 gv9)⟩, ⟨true, .hdr 6 0 0 ov16 ov17 none⟩, ⟨true, .flat 0 (.ints .i64 ov18)⟩]⟩

noncomputable def impl_tableOf_f_v3.k1g {ρ : Type} (N : Nat) (L0 : St → Option ρ) (kv : XE → St → Option ρ) : XE → St → Option ρ := (blockK impl_tableOf_f_v3.kp 5 2 (seqK (xcode (E20 N) ents impl_tableOf_f_v3.kp 5 N (cB (cB (cB (cK (cA (cB (cB (cL (cK (cB (cA (cB (cB impl_tableOf_f_v3.bd))))))))))))) 1) (blockK impl_tableOf_f_v3.kp 5 1 (seqK (xcode (E20 N) ents impl_tableOf_f_v3.kp 5 N (cB (cB (cB (cL (cK (cB (cA (cB (cB impl_tableOf_f_v3.bd))))))))) 0) (roundK impl_tableOf_f_v3.kp 5 0 L0 kv)))))

theorem impl_tableOf_f_v3.k1_mix {ρ : Type} (N : Nat) (K : AV → Heap → Option ρ) (L0 : St → Option ρ) (gv1 : Nat → Int) (gv2 : Nat) (gv3 : Nat) (gv4 : Nat) (gv5 : Nat) (gv6 : Nat → Nat) (gv7 : Nat → Nat) (gv8 : Nat → Nat) (gv9 : Nat → Int) : mixK (impl_tableOf_f_v3.fin N K gv1 gv2 gv3 gv4 gv5 gv6 gv7 gv8 gv9 .ret) (impl_tableOf_f_v3.k1g N L0 (impl_tableOf_f_v3.k0 N K gv1 gv2 gv3 gv4 gv5 gv6 gv7 gv8 gv9)) = (impl_tableOf_f_v3.k1g N L0 (impl_tableOf_f_v3.k0 N K gv1 gv2 gv3 gv4 gv5 gv6 gv7 gv8 gv9)) := by
  funext e s; cases e <;> kernel_rfl

noncomputable def impl_tableOf_f_v3.st1 (nv0 : Int) (gv1 : Nat → Int) (gv2 : Nat) (gv3 : Nat) (gv4 : Nat) (gv5 : Nat) (gv6 : Nat → Nat) (gv7 : Nat → Nat) (gv8 : Nat → Nat) (gv9 : Nat → Int) (outv10 : Nat) (x11 : Int) (gv12 : Nat → Nat) (gv13 : Nat → Nat) (gv14 : Nat → Int) : St := ⟨sl 33 [(0, .int .i64 (nv0)), (1, .fn 66 0 [[(0, 1)], [(1, 1)], [(2, 1)]]), (5, .slice true 5 0 outv10 .whole 1), (6, .int .i64 (x11)), (7, .slice true 6 0 0 .whole 1), (10, .int .i64 (nv0)), (11, .int .i64 (x11)), (15, .int .i64 (nv0)), (16, .int .i64 0)], [⟨false, .flat 1 (.ints .i64 gv1)⟩, ⟨false, .avs [.nils]⟩, ⟨false, .avs [.slice true 3 0 gv2 (.exact gv3) 1]⟩, ⟨false, .hdr 4 gv4 gv5 gv6 gv7 (some gv8)⟩, ⟨false, .flat 0 (.ints .i64 gv9)⟩, ⟨true, .hdr 7 0 0 gv12 gv13 none⟩, ⟨true, .flat 0 (.ints .i64 (fun _ => 0))⟩, ⟨true, .flat 0 (.ints .i64 gv14)⟩]⟩

noncomputable def impl_tableOf_f_v3.sx1_0 (nv0 : Int) (gv1 : Nat → Int) (gv2 : Nat) (gv3 : Nat) (gv4 : Nat) (gv5 : Nat) (gv6 : Nat → Nat) (gv7 : Nat → Nat) (gv8 : Nat → Nat) (gv9 : Nat → Int) (outv10 : Nat) (x11 : Int) (gv12 : Nat → Nat) (gv13 : Nat → Nat) (gv14 : Nat → Int) : St := ⟨sl 33 [(0, .int .i64 (nv0)), (1, .fn 66 0 [[(0, 1)], [(1, 1)], [(2, 1)]]), (5, .slice true 5 0 outv10 .whole 1), (7, .slice true 6 0 0 .whole 1), (10, .int .i64 (nv0)), (11, .int .i64 (x11))], [⟨false, .flat 1 (.ints .i64 gv1)⟩, ⟨false, .avs [.nils]⟩, ⟨false, .avs [.slice true 3 0 gv2 (.exact gv3) 1]⟩, ⟨false, .hdr 4 gv4 gv5 gv6 gv7 (some gv8)⟩, ⟨false, .flat 0 (.ints .i64 gv9)⟩, ⟨true, .hdr 7 0 0 gv12 gv13 none⟩, ⟨true, .flat 0 (.ints .i64 (fun _ => 0))⟩, ⟨true, .flat 0 (.ints .i64 gv14)⟩]⟩

theorem impl_tableOf_f_v3.b1_gen {ρ : Type} (N : Nat) (K : AV → Heap → Option ρ) (L1 : St → Option ρ) (kv : XE → St → Option ρ) (nv0 : Int) (gv1 : Nat → Int) (gv2 : Nat) (gv3 : Nat) (gv4 : Nat) (gv5 : Nat) (gv6 : Nat → Nat) (gv7 : Nat → Nat) (gv8 : Nat → Nat) (gv9 : Nat → Int) (outv10 : Nat) (x11 : Int) (gv12 : Nat → Nat) (gv13 : Nat → Nat) (gv14 : Nat → Int) :
    xcode (E20 N) ents impl_tableOf_f_v3.kp 5 N (cL (cK (cB (cA (cB (cB (cK (cA (cB (cB (cL (cK (cB (cA (cB (cB impl_tableOf_f_v3.bd)))))))))))))))) 2 (impl_tableOf_f_v3.st1 nv0 gv1 gv2 gv3 gv4 gv5 gv6 gv7 gv8 gv9 outv10 x11 gv12 gv13 gv14) (roundK impl_tableOf_f_v3.kp 5 2 L1 (mixK (impl_tableOf_f_v3.fin N K gv1 gv2 gv3 gv4 gv5 gv6 gv7 gv8 gv9 .ret) kv)) = (impl_tableOf_f_v3.b1 N (fun d0 d1 d2 d3 d4 => K (.slice true 5 0 d0 .whole 1) [⟨false, .flat 1 (.ints .i64 gv1)⟩, ⟨false, .avs [.nils]⟩, ⟨false, .avs [.slice true 3 0 gv2 (.exact gv3) 1]⟩, ⟨false, .hdr 4 gv4 gv5 gv6 gv7 (some gv8)⟩, ⟨false, .flat 0 (.ints .i64 gv9)⟩, ⟨true, .hdr 6 0 d1 d2 d3 none⟩, ⟨true, .flat 0 (.ints .i64 d4)⟩]) (L1 (impl_tableOf_f_v3.st1 nv0 gv1 gv2 gv3 gv4 gv5 gv6 gv7 gv8 gv9 outv10 x11 gv12 gv13 gv14)) (kv (.exit 2) (impl_tableOf_f_v3.sx1_0 nv0 gv1 gv2 gv3 gv4 gv5 gv6 gv7 gv8 gv9 outv10 x11 gv12 gv13 gv14)) nv0 gv1 gv2 gv3 gv5 gv6 gv7 gv8 gv9 x11) := by kernel_rfl

theorem impl_tableOf_f_v3.b1_eq {ρ : Type} (N : Nat) (K : AV → Heap → Option ρ) (L0 : St → Option ρ) (L1 : St → Option ρ) (nv0 : Int) (gv1 : Nat → Int) (gv2 : Nat) (gv3 : Nat) (gv4 : Nat) (gv5 : Nat) (gv6 : Nat → Nat) (gv7 : Nat → Nat) (gv8 : Nat → Nat) (gv9 : Nat → Int) (outv10 : Nat) (x11 : Int) (gv12 : Nat → Nat) (gv13 : Nat → Nat) (gv14 : Nat → Int) :
    xcode (E20 N) ents impl_tableOf_f_v3.kp 5 N (cL (cK (cB (cA (cB (cB (cK (cA (cB (cB (cL (cK (cB (cA (cB (cB impl_tableOf_f_v3.bd)))))))))))))))) 2 (impl_tableOf_f_v3.st1 nv0 gv1 gv2 gv3 gv4 gv5 gv6 gv7 gv8 gv9 outv10 x11 gv12 gv13 gv14) (roundK impl_tableOf_f_v3.kp 5 2 L1 (impl_tableOf_f_v3.k1g N L0 (impl_tableOf_f_v3.k0 N K gv1 gv2 gv3 gv4 gv5 gv6 gv7 gv8 gv9))) = (impl_tableOf_f_v3.b1 N (fun d0 d1 d2 d3 d4 => K (.slice true 5 0 d0 .whole 1) [⟨false, .flat 1 (.ints .i64 gv1)⟩, ⟨false, .avs [.nils]⟩, ⟨false, .avs [.slice true 3 0 gv2 (.exact gv3) 1]⟩, ⟨false, .hdr 4 gv4 gv5 gv6 gv7 (some gv8)⟩, ⟨false, .flat 0 (.ints .i64 gv9)⟩, ⟨true, .hdr 6 0 d1 d2 d3 none⟩, ⟨true, .flat 0 (.ints .i64 d4)⟩]) (L1 (impl_tableOf_f_v3.st1 nv0 gv1 gv2 gv3 gv4 gv5 gv6 gv7 gv8 gv9 outv10 x11 gv12 gv13 gv14)) ((impl_tableOf_f_v3.k1g N L0 (impl_tableOf_f_v3.k0 N K gv1 gv2 gv3 gv4 gv5 gv6 gv7 gv8 gv9)) (.exit 2) (impl_tableOf_f_v3.sx1_0 nv0 gv1 gv2 gv3 gv4 gv5 gv6 gv7 gv8 gv9 outv10 x11 gv12 gv13 gv14)) nv0 gv1 gv2 gv3 gv5 gv6 gv7 gv8 gv9 x11) := by
  have h := impl_tableOf_f_v3.b1_gen N K L1 (impl_tableOf_f_v3.k1g N L0 (impl_tableOf_f_v3.k0 N K gv1 gv2 gv3 gv4 gv5 gv6 gv7 gv8 gv9)) nv0 gv1 gv2 gv3 gv4 gv5 gv6 gv7 gv8 gv9 outv10 x11 gv12 gv13 gv14
  rw [impl_tableOf_f_v3.k1_mix] at h
  exact h

theorem impl_tableOf_f_v3.a1_0_gen {ρ : Type} (N : Nat) (K : AV → Heap → Option ρ) (L0 : St → Option ρ) (kv : XE → St → Option ρ) (nv0 : Int) (gv1 : Nat → Int) (gv2 : Nat) (gv3 : Nat) (gv4 : Nat) (gv5 : Nat) (gv6 : Nat → Nat) (gv7 : Nat → Nat) (gv8 : Nat → Nat) (gv9 : Nat → Int) (outv10 : Nat) (x11 : Int) (gv12 : Nat → Nat) (gv13 : Nat → Nat) (gv14 : Nat → Int) :
    (impl_tableOf_f_v3.k1g N L0 (mixK (impl_tableOf_f_v3.fin N K gv1 gv2 gv3 gv4 gv5 gv6 gv7 gv8 gv9 .ret) kv)) (.exit 2) (impl_tableOf_f_v3.sx1_0 nv0 gv1 gv2 gv3 gv4 gv5 gv6 gv7 gv8 gv9 outv10 x11 gv12 gv13 gv14) = (impl_tableOf_f_v3.a1_0 N (fun d0 d1 d2 d3 d4 => K (.slice true 5 0 d0 .whole 1) [⟨false, .flat 1 (.ints .i64 gv1)⟩, ⟨false, .avs [.nils]⟩, ⟨false, .avs [.slice true 3 0 gv2 (.exact gv3) 1]⟩, ⟨false, .hdr 4 gv4 gv5 gv6 gv7 (some gv8)⟩, ⟨false, .flat 0 (.ints .i64 gv9)⟩, ⟨true, .hdr 6 0 d1 d2 d3 none⟩, ⟨true, .flat 0 (.ints .i64 d4)⟩]) (fun outv10 x11 gv12 gv13 gv14 => L0 (impl_tableOf_f_v3.st0 nv0 gv1 gv2 gv3 gv4 gv5 gv6 gv7 gv8 gv9 outv10 x11 gv12 gv13 gv14)) (fun ov15 ov16 ov17 ov18 => kv (.exit 0) (impl_tableOf_f_v3.sx0_0 gv1 gv2 gv3 gv4 gv5 gv6 gv7 gv8 gv9 ov15 ov16 ov17 ov18)) outv10 x11 gv12 gv13 gv14) := by kernel_rfl

theorem impl_tableOf_f_v3.a1_0_eq {ρ : Type} (N : Nat) (K : AV → Heap → Option ρ) (L0 : St → Option ρ) (nv0 : Int) (gv1 : Nat → Int) (gv2 : Nat) (gv3 : Nat) (gv4 : Nat) (gv5 : Nat) (gv6 : Nat → Nat) (gv7 : Nat → Nat) (gv8 : Nat → Nat) (gv9 : Nat → Int) (outv10 : Nat) (x11 : Int) (gv12 : Nat → Nat) (gv13 : Nat → Nat) (gv14 : Nat → Int) :
    (impl_tableOf_f_v3.k1g N L0 (impl_tableOf_f_v3.k0 N K gv1 gv2 gv3 gv4 gv5 gv6 gv7 gv8 gv9)) (.exit 2) (impl_tableOf_f_v3.sx1_0 nv0 gv1 gv2 gv3 gv4 gv5 gv6 gv7 gv8 gv9 outv10 x11 gv12 gv13 gv14) = (impl_tableOf_f_v3.a1_0 N (fun d0 d1 d2 d3 d4 => K (.slice true 5 0 d0 .whole 1) [⟨false, .flat 1 (.ints .i64 gv1)⟩, ⟨false, .avs [.nils]⟩, ⟨false, .avs [.slice true 3 0 gv2 (.exact gv3) 1]⟩, ⟨false, .hdr 4 gv4 gv5 gv6 gv7 (some gv8)⟩, ⟨false, .flat 0 (.ints .i64 gv9)⟩, ⟨true, .hdr 6 0 d1 d2 d3 none⟩, ⟨true, .flat 0 (.ints .i64 d4)⟩]) (fun outv10 x11 gv12 gv13 gv14 => L0 (impl_tableOf_f_v3.st0 nv0 gv1 gv2 gv3 gv4 gv5 gv6 gv7 gv8 gv9 outv10 x11 gv12 gv13 gv14)) (fun ov15 ov16 ov17 ov18 => (impl_tableOf_f_v3.k0 N K gv1 gv2 gv3 gv4 gv5 gv6 gv7 gv8 gv9) (.exit 0) (impl_tableOf_f_v3.sx0_0 gv1 gv2 gv3 gv4 gv5 gv6 gv7 gv8 gv9 ov15 ov16 ov17 ov18)) outv10 x11 gv12 gv13 gv14) := by
  have h := impl_tableOf_f_v3.a1_0_gen N K L0 (impl_tableOf_f_v3.k0 N K gv1 gv2 gv3 gv4 gv5 gv6 gv7 gv8 gv9) nv0 gv1 gv2 gv3 gv4 gv5 gv6 gv7 gv8 gv9 outv10 x11 gv12 gv13 gv14
  rw [impl_tableOf_f_v3.k0_mix] at h
  exact h

theorem impl_tableOf_f_v3.b0_gen {ρ : Type} (N : Nat) (K : AV → Heap → Option ρ) (L0 : St → Option ρ) (kv : XE → St → Option ρ) (nv0 : Int) (gv1 : Nat → Int) (gv2 : Nat) (gv3 : Nat) (gv4 : Nat) (gv5 : Nat) (gv6 : Nat → Nat) (gv7 : Nat → Nat) (gv8 : Nat → Nat) (gv9 : Nat → Int) (outv10 : Nat) (x11 : Int) (gv12 : Nat → Nat) (gv13 : Nat → Nat) (gv14 : Nat → Int) :
    xcode (E20 N) ents impl_tableOf_f_v3.kp 5 N (cL (cK (cB (cA (cB (cB impl_tableOf_f_v3.bd)))))) 0 (impl_tableOf_f_v3.st0 nv0 gv1 gv2 gv3 gv4 gv5 gv6 gv7 gv8 gv9 outv10 x11 gv12 gv13 gv14) (roundK impl_tableOf_f_v3.kp 5 0 L0 (mixK (impl_tableOf_f_v3.fin N K gv1 gv2 gv3 gv4 gv5 gv6 gv7 gv8 gv9 .ret) kv)) = (impl_tableOf_f_v3.b0 N (fun d0 d1 d2 d3 d4 => K (.slice true 5 0 d0 .whole 1) [⟨false, .flat 1 (.ints .i64 gv1)⟩, ⟨false, .avs [.nils]⟩, ⟨false, .avs [.slice true 3 0 gv2 (.exact gv3) 1]⟩, ⟨false, .hdr 4 gv4 gv5 gv6 gv7 (some gv8)⟩, ⟨false, .flat 0 (.ints .i64 gv9)⟩, ⟨true, .hdr 6 0 d1 d2 d3 none⟩, ⟨true, .flat 0 (.ints .i64 d4)⟩]) (xloop (xcode (E20 N) ents impl_tableOf_f_v3.kp 5 N (cL (cK (cB (cA (cB (cB (cK (cA (cB (cB (cL (cK (cB (cA (cB (cB impl_tableOf_f_v3.bd)))))))))))))))) 2) impl_tableOf_f_v3.kp 5 2 N (impl_tableOf_f_v3.st1 nv0 gv1 gv2 gv3 gv4 gv5 gv6 gv7 gv8 gv9 outv10 x11 gv12 gv13 gv14) (impl_tableOf_f_v3.k1g N L0 (mixK (impl_tableOf_f_v3.fin N K gv1 gv2 gv3 gv4 gv5 gv6 gv7 gv8 gv9 .ret) kv))) (fun outv10 x11 gv12 gv13 gv14 => L0 (impl_tableOf_f_v3.st0 nv0 gv1 gv2 gv3 gv4 gv5 gv6 gv7 gv8 gv9 outv10 x11 gv12 gv13 gv14)) (fun ov15 ov16 ov17 ov18 => kv (.exit 0) (impl_tableOf_f_v3.sx0_0 gv1 gv2 gv3 gv4 gv5 gv6 gv7 gv8 gv9 ov15 ov16 ov17 ov18)) nv0 outv10 x11 gv12 gv13 gv14) := by kernel_rfl

theorem impl_tableOf_f_v3.b0_eq {ρ : Type} (N : Nat) (K : AV → Heap → Option ρ) (L0 : St → Option ρ) (nv0 : Int) (gv1 : Nat → Int) (gv2 : Nat) (gv3 : Nat) (gv4 : Nat) (gv5 : Nat) (gv6 : Nat → Nat) (gv7 : Nat → Nat) (gv8 : Nat → Nat) (gv9 : Nat → Int) (outv10 : Nat) (x11 : Int) (gv12 : Nat → Nat) (gv13 : Nat → Nat) (gv14 : Nat → Int) :
    xcode (E20 N) ents impl_tableOf_f_v3.kp 5 N (cL (cK (cB (cA (cB (cB impl_tableOf_f_v3.bd)))))) 0 (impl_tableOf_f_v3.st0 nv0 gv1 gv2 gv3 gv4 gv5 gv6 gv7 gv8 gv9 outv10 x11 gv12 gv13 gv14) (roundK impl_tableOf_f_v3.kp 5 0 L0 (impl_tableOf_f_v3.k0 N K gv1 gv2 gv3 gv4 gv5 gv6 gv7 gv8 gv9)) = (impl_tableOf_f_v3.b0 N (fun d0 d1 d2 d3 d4 => K (.slice true 5 0 d0 .whole 1) [⟨false, .flat 1 (.ints .i64 gv1)⟩, ⟨false, .avs [.nils]⟩, ⟨false, .avs [.slice true 3 0 gv2 (.exact gv3) 1]⟩, ⟨false, .hdr 4 gv4 gv5 gv6 gv7 (some gv8)⟩, ⟨false, .flat 0 (.ints .i64 gv9)⟩, ⟨true, .hdr 6 0 d1 d2 d3 none⟩, ⟨true, .flat 0 (.ints .i64 d4)⟩]) (xloop (xcode (E20 N) ents impl_tableOf_f_v3.kp 5 N (cL (cK (cB (cA (cB (cB (cK (cA (cB (cB (cL (cK (cB (cA (cB (cB impl_tableOf_f_v3.bd)))))))))))))))) 2) impl_tableOf_f_v3.kp 5 2 N (impl_tableOf_f_v3.st1 nv0 gv1 gv2 gv3 gv4 gv5 gv6 gv7 gv8 gv9 outv10 x11 gv12 gv13 gv14) (impl_tableOf_f_v3.k1g N L0 (impl_tableOf_f_v3.k0 N K gv1 gv2 gv3 gv4 gv5 gv6 gv7 gv8 gv9))) (fun outv10 x11 gv12 gv13 gv14 => L0 (impl_tableOf_f_v3.st0 nv0 gv1 gv2 gv3 gv4 gv5 gv6 gv7 gv8 gv9 outv10 x11 gv12 gv13 gv14)) (fun ov15 ov16 ov17 ov18 => (impl_tableOf_f_v3.k0 N K gv1 gv2 gv3 gv4 gv5 gv6 gv7 gv8 gv9) (.exit 0) (impl_tableOf_f_v3.sx0_0 gv1 gv2 gv3 gv4 gv5 gv6 gv7 gv8 gv9 ov15 ov16 ov17 ov18)) nv0 outv10 x11 gv12 gv13 gv14) := by
  have h := impl_tableOf_f_v3.b0_gen N K L0 (impl_tableOf_f_v3.k0 N K gv1 gv2 gv3 gv4 gv5 gv6 gv7 gv8 gv9) nv0 gv1 gv2 gv3 gv4 gv5 gv6 gv7 gv8 gv9 outv10 x11 gv12 gv13 gv14
  rw [impl_tableOf_f_v3.k0_mix] at h
  exact h

theorem impl_tableOf_f_v3.a0_0_eq {ρ : Type} (N : Nat) (K : AV → Heap → Option ρ) (gv1 : Nat → Int) (gv2 : Nat) (gv3 : Nat) (gv4 : Nat) (gv5 : Nat) (gv6 : Nat → Nat) (gv7 : Nat → Nat) (gv8 : Nat → Nat) (gv9 : Nat → Int) (ov15 : Nat) (ov16 : Nat → Nat) (ov17 : Nat → Nat) (ov18 : Nat → Int) :
    (impl_tableOf_f_v3.k0 N K gv1 gv2 gv3 gv4 gv5 gv6 gv7 gv8 gv9) (.exit 0) (impl_tableOf_f_v3.sx0_0 gv1 gv2 gv3 gv4 gv5 gv6 gv7 gv8 gv9 ov15 ov16 ov17 ov18) = (impl_tableOf_f_v3.a0_0 N (fun d0 d1 d2 d3 d4 => K (.slice true 5 0 d0 .whole 1) [⟨false, .flat 1 (.ints .i64 gv1)⟩, ⟨false, .avs [.nils]⟩, ⟨false, .avs [.slice true 3 0 gv2 (.exact gv3) 1]⟩, ⟨false, .hdr 4 gv4 gv5 gv6 gv7 (some gv8)⟩, ⟨false, .flat 0 (.ints .i64 gv9)⟩, ⟨true, .hdr 6 0 d1 d2 d3 none⟩, ⟨true, .flat 0 (.ints .i64 d4)⟩]) ov15 ov16 ov17 ov18) := by kernel_rfl

theorem impl_tableOf_f_v3.l1_eq {ρ : Type} (N : Nat) (K : AV → Heap → Option ρ) (L0 : St → Option ρ) (nv0 : Int) (gv1 : Nat → Int) (gv2 : Nat) (gv3 : Nat) (gv4 : Nat) (gv5 : Nat) (gv6 : Nat → Nat) (gv7 : Nat → Nat) (gv8 : Nat → Nat) (gv9 : Nat → Int) (outv10 : Nat) (x11 : Int) (gv12 : Nat → Nat) (gv13 : Nat → Nat) (gv14 : Nat → Int) :
    ∀ (m : Nat), xloop (xcode (E20 N) ents impl_tableOf_f_v3.kp 5 N (cL (cK (cB (cA (cB (cB (cK (cA (cB (cB (cL (cK (cB (cA (cB (cB impl_tableOf_f_v3.bd)))))))))))))))) 2) impl_tableOf_f_v3.kp 5 2 m (impl_tableOf_f_v3.st1 nv0 gv1 gv2 gv3 gv4 gv5 gv6 gv7 gv8 gv9 outv10 x11 gv12 gv13 gv14) (impl_tableOf_f_v3.k1g N L0 (impl_tableOf_f_v3.k0 N K gv1 gv2 gv3 gv4 gv5 gv6 gv7 gv8 gv9)) = (impl_tableOf_f_v3.l1 N (fun d0 d1 d2 d3 d4 => K (.slice true 5 0 d0 .whole 1) [⟨false, .flat 1 (.ints .i64 gv1)⟩, ⟨false, .avs [.nils]⟩, ⟨false, .avs [.slice true 3 0 gv2 (.exact gv3) 1]⟩, ⟨false, .hdr 4 gv4 gv5 gv6 gv7 (some gv8)⟩, ⟨false, .flat 0 (.ints .i64 gv9)⟩, ⟨true, .hdr 6 0 d1 d2 d3 none⟩, ⟨true, .flat 0 (.ints .i64 d4)⟩]) nv0 gv1 gv2 gv3 gv5 gv6 gv7 gv8 gv9 x11 ((impl_tableOf_f_v3.k1g N L0 (impl_tableOf_f_v3.k0 N K gv1 gv2 gv3 gv4 gv5 gv6 gv7 gv8 gv9)) (.exit 2) (impl_tableOf_f_v3.sx1_0 nv0 gv1 gv2 gv3 gv4 gv5 gv6 gv7 gv8 gv9 outv10 x11 gv12 gv13 gv14)) m) := by
  intro m
  induction m with
  | zero => intros; rfl
  | succ m ih =>
    refine (impl_tableOf_f_v3.b1_eq N K L0 (fun s => xloop (xcode (E20 N) ents impl_tableOf_f_v3.kp 5 N (cL (cK (cB (cA (cB (cB (cK (cA (cB (cB (cL (cK (cB (cA (cB (cB impl_tableOf_f_v3.bd)))))))))))))))) 2) impl_tableOf_f_v3.kp 5 2 m s (impl_tableOf_f_v3.k1g N L0 (impl_tableOf_f_v3.k0 N K gv1 gv2 gv3 gv4 gv5 gv6 gv7 gv8 gv9))) nv0 gv1 gv2 gv3 gv4 gv5 gv6 gv7 gv8 gv9 outv10 x11 gv12 gv13 gv14).trans ?_
    simp only [ih]
    kernel_rfl

theorem impl_tableOf_f_v3.l0_eq {ρ : Type} (N : Nat) (K : AV → Heap → Option ρ) (nv0 : Int) (gv1 : Nat → Int) (gv2 : Nat) (gv3 : Nat) (gv4 : Nat) (gv5 : Nat) (gv6 : Nat → Nat) (gv7 : Nat → Nat) (gv8 : Nat → Nat) (gv9 : Nat → Int) :
    ∀ (m : Nat) (outv10 : Nat) (x11 : Int) (gv12 : Nat → Nat) (gv13 : Nat → Nat) (gv14 : Nat → Int), xloop (xcode (E20 N) ents impl_tableOf_f_v3.kp 5 N (cL (cK (cB (cA (cB (cB impl_tableOf_f_v3.bd)))))) 0) impl_tableOf_f_v3.kp 5 0 m (impl_tableOf_f_v3.st0 nv0 gv1 gv2 gv3 gv4 gv5 gv6 gv7 gv8 gv9 outv10 x11 gv12 gv13 gv14) (impl_tableOf_f_v3.k0 N K gv1 gv2 gv3 gv4 gv5 gv6 gv7 gv8 gv9) = (impl_tableOf_f_v3.l0 N (fun d0 d1 d2 d3 d4 => K (.slice true 5 0 d0 .whole 1) [⟨false, .flat 1 (.ints .i64 gv1)⟩, ⟨false, .avs [.nils]⟩, ⟨false, .avs [.slice true 3 0 gv2 (.exact gv3) 1]⟩, ⟨false, .hdr 4 gv4 gv5 gv6 gv7 (some gv8)⟩, ⟨false, .flat 0 (.ints .i64 gv9)⟩, ⟨true, .hdr 6 0 d1 d2 d3 none⟩, ⟨true, .flat 0 (.ints .i64 d4)⟩]) nv0 gv1 gv2 gv3 gv5 gv6 gv7 gv8 gv9 (fun ov15 ov16 ov17 ov18 => (impl_tableOf_f_v3.k0 N K gv1 gv2 gv3 gv4 gv5 gv6 gv7 gv8 gv9) (.exit 0) (impl_tableOf_f_v3.sx0_0 gv1 gv2 gv3 gv4 gv5 gv6 gv7 gv8 gv9 ov15 ov16 ov17 ov18)) m outv10 x11 gv12 gv13 gv14) := by
  intro m
  induction m with
  | zero => intros; rfl
  | succ m ih =>
    intro outv10 x11 gv12 gv13 gv14
    refine (impl_tableOf_f_v3.b0_eq N K (fun s => xloop (xcode (E20 N) ents impl_tableOf_f_v3.kp 5 N (cL (cK (cB (cA (cB (cB impl_tableOf_f_v3.bd)))))) 0) impl_tableOf_f_v3.kp 5 0 m s (impl_tableOf_f_v3.k0 N K gv1 gv2 gv3 gv4 gv5 gv6 gv7 gv8 gv9)) nv0 gv1 gv2 gv3 gv4 gv5 gv6 gv7 gv8 gv9 outv10 x11 gv12 gv13 gv14).trans ?_
    simp only [ih, impl_tableOf_f_v3.l1_eq, impl_tableOf_f_v3.a1_0_eq]
    kernel_rfl

theorem impl_tableOf_f_v3.s_eq {ρ : Type} (N : Nat) (K : AV → Heap → Option ρ) (nv0 : Int) (gv1 : Nat → Int) (gv2 : Nat) (gv3 : Nat) (gv4 : Nat) (gv5 : Nat) (gv6 : Nat → Nat) (gv7 : Nat → Nat) (gv8 : Nat → Nat) (gv9 : Nat → Int) :
    xbody (E20 N) ents impl_tableOf_f_v3.kp N Go.Proofs.Try.f59 impl_tableOf_f_v3.bd [.int .i64 (nv0), .fn 66 0 [[(0, 1)], [(1, 1)], [(2, 1)]]] [⟨false, .flat 1 (.ints .i64 gv1)⟩, ⟨false, .avs [.nils]⟩, ⟨false, .avs [.slice true 3 0 gv2 (.exact gv3) 1]⟩, ⟨false, .hdr 4 gv4 gv5 gv6 gv7 (some gv8)⟩, ⟨false, .flat 0 (.ints .i64 gv9)⟩] K = (impl_tableOf_f_v3.s N (fun d0 d1 d2 d3 d4 => K (.slice true 5 0 d0 .whole 1) [⟨false, .flat 1 (.ints .i64 gv1)⟩, ⟨false, .avs [.nils]⟩, ⟨false, .avs [.slice true 3 0 gv2 (.exact gv3) 1]⟩, ⟨false, .hdr 4 gv4 gv5 gv6 gv7 (some gv8)⟩, ⟨false, .flat 0 (.ints .i64 gv9)⟩, ⟨true, .hdr 6 0 d1 d2 d3 none⟩, ⟨true, .flat 0 (.ints .i64 d4)⟩]) (fun outv10 x11 gv12 gv13 gv14 => xloop (xcode (E20 N) ents impl_tableOf_f_v3.kp 5 N (cL (cK (cB (cA (cB (cB impl_tableOf_f_v3.bd)))))) 0) impl_tableOf_f_v3.kp 5 0 N (impl_tableOf_f_v3.st0 nv0 gv1 gv2 gv3 gv4 gv5 gv6 gv7 gv8 gv9 outv10 x11 gv12 gv13 gv14) (impl_tableOf_f_v3.k0 N K gv1 gv2 gv3 gv4 gv5 gv6 gv7 gv8 gv9))) := by kernel_rfl

theorem impl_tableOf_f_v3.eq {ρ : Type} (N : Nat) (K : AV → Heap → Option ρ) (nv0 : Int) (gv1 : Nat → Int) (gv2 : Nat) (gv3 : Nat) (gv4 : Nat) (gv5 : Nat) (gv6 : Nat → Nat) (gv7 : Nat → Nat) (gv8 : Nat → Nat) (gv9 : Nat → Int) :
    xbody (E20 N) ents impl_tableOf_f_v3.kp N Go.Proofs.Try.f59 impl_tableOf_f_v3.bd [.int .i64 (nv0), .fn 66 0 [[(0, 1)], [(1, 1)], [(2, 1)]]] [⟨false, .flat 1 (.ints .i64 gv1)⟩, ⟨false, .avs [.nils]⟩, ⟨false, .avs [.slice true 3 0 gv2 (.exact gv3) 1]⟩, ⟨false, .hdr 4 gv4 gv5 gv6 gv7 (some gv8)⟩, ⟨false, .flat 0 (.ints .i64 gv9)⟩] K = (impl_tableOf_f_v3 N (fun d0 d1 d2 d3 d4 => K (.slice true 5 0 d0 .whole 1) [⟨false, .flat 1 (.ints .i64 gv1)⟩, ⟨false, .avs [.nils]⟩, ⟨false, .avs [.slice true 3 0 gv2 (.exact gv3) 1]⟩, ⟨false, .hdr 4 gv4 gv5 gv6 gv7 (some gv8)⟩, ⟨false, .flat 0 (.ints .i64 gv9)⟩, ⟨true, .hdr 6 0 d1 d2 d3 none⟩, ⟨true, .flat 0 (.ints .i64 d4)⟩]) nv0 gv1 gv2 gv3 gv4 gv5 gv6 gv7 gv8 gv9) := by
  refine (impl_tableOf_f_v3.s_eq N K nv0 gv1 gv2 gv3 gv4 gv5 gv6 gv7 gv8 gv9).trans ?_
  simp only [impl_tableOf_f_v3.l0_eq, impl_tableOf_f_v3.a0_0_eq]
  kernel_rfl

noncomputable def impl_tableOf_f_v4.kp : Keeps := ⟨[(0, [0, 1, 5, 10, 11], [], []), (2, [0, 1, 5, 6, 7, 10, 11, 15, 16], [], [])], [(0, [5], [], []), (2, [0, 1, 5, 7, 10, 11], [], [])], []⟩

noncomputable def impl_tableOf_f_v4.bd : Code := bodyOf Go.Proofs.Try.f59

noncomputable def impl_tableOf_f_v4.fin {ρ : Type} (N : Nat) (K : AV → Heap → Option ρ) (gv1 : Nat → Int) (gv2 : Nat) (gv3 : Nat) (gv4 : Nat) (gv5 : Nat) (gv6 : Nat → Nat) (gv7 : Nat → Nat) (gv8 : Nat → Nat) (gv9 : Nat → Int) : XE → St → Option ρ := finK (E20 N) impl_tableOf_f_v4.kp.fins Go.Proofs.Try.f59 [⟨false, .flat 1 (.ints .i64 gv1)⟩, ⟨false, .avs [.slice true 3 0 gv2 (.exact gv3) 1]⟩, ⟨false, .avs [.nils]⟩, ⟨false, .hdr 4 gv4 gv5 gv6 gv7 (some gv8)⟩, ⟨false, .flat 0 (.ints .i64 gv9)⟩] K

noncomputable def impl_tableOf_f_v4.k0 {ρ : Type} (N : Nat) (K : AV → Heap → Option ρ) (gv1 : Nat → Int) (gv2 : Nat) (gv3 : Nat) (gv4 : Nat) (gv5 : Nat) (gv6 : Nat → Nat) (gv7 : Nat → Nat) (gv8 : Nat → Nat) (gv9 : Nat → Int) : XE → St → Option ρ := (blockK impl_tableOf_f_v4.kp 5 0 (seqK (xcode (E20 N) ents impl_tableOf_f_v4.kp 5 N (cB (cB (cB impl_tableOf_f_v4.bd))) 0) (impl_tableOf_f_v4.fin N K gv1 gv2 gv3 gv4 gv5 gv6 gv7 gv8 gv9)))

theorem impl_tableOf_f_v4.k0_mix {ρ : Type} (N : Nat) (K : AV → Heap → Option ρ) (gv1 : Nat → Int) (gv2 : Nat) (gv3 : Nat) (gv4 : Nat) (gv5 : Nat) (gv6 : Nat → Nat) (gv7 : Nat → Nat) (gv8 : Nat → Nat) (gv9 : Nat → Int) : mixK (impl_tableOf_f_v4.fin N K gv1 gv2 gv3 gv4 gv5 gv6 gv7 gv8 gv9 .ret) (impl_tableOf_f_v4.k0 N K gv1 gv2 gv3 gv4 gv5 gv6 gv7 gv8 gv9) = (impl_tableOf_f_v4.k0 N K gv1 gv2 gv3 gv4 gv5 gv6 gv7 gv8 gv9) := by
  funext e s; cases e <;> kernel_rfl

noncomputable def impl_tableOf_f_v4.st0 (nv0 : Int) (gv1 : Nat → Int) (gv2 : Nat) (gv3 : Nat) (gv4 : Nat) (gv5 : Nat) (gv6 : Nat → Nat) (gv7 : Nat → Nat) (gv8 : Nat → Nat) (gv9 : Nat → Int) (outv10 : Nat) (x11 : Int) (gv12 : Nat → Nat) (gv13 : Nat → Nat) (gv14 : Nat → Int) : St := ⟨sl 33 [(0, .int .i64 (nv0)), (1, .fn 66 0 [[(0, 1)], [(1, 1)], [(2, 1)]]), (5, .slice true 5 0 outv10 .whole 1), (10, .int .i64 (nv0)), (11, .int .i64 (x11))], [⟨false, .flat 1 (.ints .i64 gv1)⟩, ⟨false, .avs [.slice true 3 0 gv2 (.exact gv3) 1]⟩, ⟨false, .avs [.nils]⟩, ⟨false, .hdr 4 gv4 gv5 gv6 gv7 (some gv8)⟩, ⟨false, .flat 0 (.ints .i64 gv9)⟩, ⟨true, .hdr 6 0 0 gv12 gv13 none⟩, ⟨true, .flat 0 (.ints .i64 gv14)⟩]⟩

noncomputable def impl_tableOf_f_v4.sx0_0 (gv1 : Nat → Int) (gv2 : Nat) (gv3 : Nat) (gv4 : Nat) (gv5 : Nat) (gv6 : Nat → Nat) (gv7 : Nat → Nat) (gv8 : Nat → Nat) (gv9 : Nat → Int) (ov15 : Nat) (ov16 : Nat → Nat) (ov17 : Nat → Nat) (ov18 : Nat → Int) : St := ⟨sl 33 [(5, .slice true 5 0 ov15 .whole 1)], [⟨false, .flat 1 (.ints .i64 gv1)⟩, ⟨false, .avs [.slice true 3 0 gv2 (.exact gv3) 1]⟩, ⟨false, .avs [.nils]⟩, ⟨false, .hdr 4 gv4 gv5 gv6 gv7 (some gv8)⟩, ⟨false, .flat 0 (.ints .i64 gv9)⟩, ⟨true, .hdr 6 0 0 ov16 ov17 none⟩, ⟨true, .flat 0 (.ints .i64 ov18)⟩]⟩

noncomputable def impl_tableOf_f_v4.k1g {ρ : Type} (N : Nat) (L0 : St → Option ρ) (kv : XE → St → Option ρ) : XE → St → Option ρ := (blockK impl_tableOf_f_v4.kp 5 2 (seqK (xcode (E20 N) ents impl_tableOf_f_v4.kp 5 N (cB (cB (cB (cK (cA (cB (cB (cL (cK (cB (cA (cB (cB impl_tableOf_f_v4.bd))))))))))))) 1) (blockK impl_tableOf_f_v4.kp 5 1 (seqK (xcode (E20 N) ents impl_tableOf_f_v4.kp 5 N (cB (cB (cB (cL (cK (cB (cA (cB (cB impl_tableOf_f_v4.bd))))))))) 0) (roundK impl_tableOf_f_v4.kp 5 0 L0 kv)))))

theorem impl_tableOf_f_v4.k1_mix {ρ : Type} (N : Nat) (K : AV → Heap → Option ρ) (L0 : St → Option ρ) (gv1 : Nat → Int) (gv2 : Nat) (gv3 : Nat) (gv4 : Nat) (gv5 : Nat) (gv6 : Nat → Nat) (gv7 : Nat → Nat) (gv8 : Nat → Nat) (gv9 : Nat → Int) : mixK (impl_tableOf_f_v4.fin N K gv1 gv2 gv3 gv4 gv5 gv6 gv7 gv8 gv9 .ret) (impl_tableOf_f_v4.k1g N L0 (impl_tableOf_f_v4.k0 N K gv1 gv2 gv3 gv4 gv5 gv6 gv7 gv8 gv9)) = (impl_tableOf_f_v4.k1g N L0 (impl_tableOf_f_v4.k0 N K gv1 gv2 gv3 gv4 gv5 gv6 gv7 gv8 gv9)) := by
  funext e s; cases e <;> kernel_rfl

noncomputable def impl_tableOf_f_v4.st1 (nv0 : Int) (gv1 : Nat → Int) (gv2 : Nat) (gv3 : Nat) (gv4 : Nat) (gv5 : Nat) (gv6 : Nat → Nat) (gv7 : Nat → Nat) (gv8 : Nat → Nat) (gv9 : Nat → Int) (outv10 : Nat) (x11 : Int) (gv12 : Nat → Nat) (gv13 : Nat → Nat) (gv14 : Nat → Int) : St := ⟨sl 33 [(0, .int .i64 (nv0)), (1, .fn 66 0 [[(0, 1)], [(1, 1)], [(2, 1)]]), (5, .slice true 5 0 outv10 .whole 1), (6, .int .i64 (x11)), (7, .slice true 6 0 0 .whole 1), (10, .int .i64 (nv0)), (11, .int .i64 (x11)), (15, .int .i64 (nv0)), (16, .int .i64 0)], [⟨false, .flat 1 (.ints .i64 gv1)⟩, ⟨false, .avs [.slice true 3 0 gv2 (.exact gv3) 1]⟩, ⟨false, .avs [.nils]⟩, ⟨false, .hdr 4 gv4 gv5 gv6 gv7 (some gv8)⟩, ⟨false, .flat 0 (.ints .i64 gv9)⟩, ⟨true, .hdr 7 0 0 gv12 gv13 none⟩, ⟨true, .flat 0 (.ints .i64 (fun _ => 0))⟩, ⟨true, .flat 0 (.ints .i64 gv14)⟩]⟩

noncomputable def impl_tableOf_f_v4.sx1_0 (nv0 : Int) (gv1 : Nat → Int) (gv2 : Nat) (gv3 : Nat) (gv4 : Nat) (gv5 : Nat) (gv6 : Nat → Nat) (gv7 : Nat → Nat) (gv8 : Nat → Nat) (gv9 : Nat → Int) (outv10 : Nat) (x11 : Int) (gv12 : Nat → Nat) (gv13 : Nat → Nat) (gv14 : Nat → Int) : St := ⟨sl 33 [(0, .int .i64 (nv0)), (1, .fn 66 0 [[(0, 1)], [(1, 1)], [(2, 1)]]), (5, .slice true 5 0 outv10 .whole 1), (7, .slice true 6 0 0 .whole 1), (10, .int .i64 (nv0)), (11, .int .i64 (x11))], [⟨false, .flat 1 (.ints .i64 gv1)⟩, ⟨false, .avs [.slice true 3 0 gv2 (.exact gv3) 1]⟩, ⟨false, .avs [.nils]⟩, ⟨false, .hdr 4 gv4 gv5 gv6 gv7 (some gv8)⟩, ⟨false, .flat 0 (.ints .i64 gv9)⟩, ⟨true, .hdr 7 0 0 gv12 gv13 none⟩, ⟨true, .flat 0 (.ints .i64 (fun _ => 0))⟩, ⟨true, .flat 0 (.ints .i64 gv14)⟩]⟩

theorem impl_tableOf_f_v4.b1_gen {ρ : Type} (N : Nat) (K : AV → Heap → Option ρ) (L1 : St → Option ρ) (kv : XE → St → Option ρ) (nv0 : Int) (gv1 : Nat → Int) (gv2 : Nat) (gv3 : Nat) (gv4 : Nat) (gv5 : Nat) (gv6 : Nat → Nat) (gv7 : Nat → Nat) (gv8 : Nat → Nat) (gv9 : Nat → Int) (outv10 : Nat) (x11 : Int) (gv12 : Nat → Nat) (gv13 : Nat → Nat) (gv14 : Nat → Int) :
    xcode (E20 N) ents impl_tableOf_f_v4.kp 5 N (cL (cK (cB (cA (cB (cB (cK (cA (cB (cB (cL (cK (cB (cA (cB (cB impl_tableOf_f_v4.bd)))))))))))))))) 2 (impl_tableOf_f_v4.st1 nv0 gv1 gv2 gv3 gv4 gv5 gv6 gv7 gv8 gv9 outv10 x11 gv12 gv13 gv14) (roundK impl_tableOf_f_v4.kp 5 2 L1 (mixK (impl_tableOf_f_v4.fin N K gv1 gv2 gv3 gv4 gv5 gv6 gv7 gv8 gv9 .ret) kv)) = (impl_tableOf_f_v4.b1 N (fun d0 d1 d2 d3 d4 => K (.slice true 5 0 d0 .whole 1) [⟨false, .flat 1 (.ints .i64 gv1)⟩, ⟨false, .avs [.slice true 3 0 gv2 (.exact gv3) 1]⟩, ⟨false, .avs [.nils]⟩, ⟨false, .hdr 4 gv4 gv5 gv6 gv7 (some gv8)⟩, ⟨false, .flat 0 (.ints .i64 gv9)⟩, ⟨true, .hdr 6 0 d1 d2 d3 none⟩, ⟨true, .flat 0 (.ints .i64 d4)⟩]) (L1 (impl_tableOf_f_v4.st1 nv0 gv1 gv2 gv3 gv4 gv5 gv6 gv7 gv8 gv9 outv10 x11 gv12 gv13 gv14)) (kv (.exit 2) (impl_tableOf_f_v4.sx1_0 nv0 gv1 gv2 gv3 gv4 gv5 gv6 gv7 gv8 gv9 outv10 x11 gv12 gv13 gv14)) nv0 gv1 gv2 gv3 gv5 gv6 gv7 gv8 gv9 x11) := by kernel_rfl

theorem impl_tableOf_f_v4.b1_eq {ρ : Type} (N : Nat) (K : AV → Heap → Option ρ) (L0 : St → Option ρ) (L1 : St → Option ρ) (nv0 : Int) (gv1 : Nat → Int) (gv2 : Nat) (gv3 : Nat) (gv4 : Nat) (gv5 : Nat) (gv6 : Nat → Nat) (gv7 : Nat → Nat) (gv8 : Nat → Nat) (gv9 : Nat → Int) (outv10 : Nat) (x11 : Int) (gv12 : Nat → Nat) (gv13 : Nat → Nat) (gv14 : Nat → Int) :
    xcode (E20 N) ents impl_tableOf_f_v4.kp 5 N (cL (cK (cB (cA (cB (cB (cK (cA (cB (cB (cL (cK (cB (cA (cB (cB impl_tableOf_f_v4.bd)))))))))))))))) 2 (impl_tableOf_f_v4.st1 nv0 gv1 gv2 gv3 gv4 gv5 gv6 gv7 gv8 gv9 outv10 x11 gv12 gv13 gv14) (roundK impl_tableOf_f_v4.kp 5 2 L1 (impl_tableOf_f_v4.k1g N L0 (impl_tableOf_f_v4.k0 N K gv1 gv2 gv3 gv4 gv5 gv6 gv7 gv8 gv9))) = (impl_tableOf_f_v4.b1 N (fun d0 d1 d2 d3 d4 => K (.slice true 5 0 d0 .whole 1) [⟨false, .flat 1 (.ints .i64 gv1)⟩, ⟨false, .avs [.slice true 3 0 gv2 (.exact gv3) 1]⟩, ⟨false, .avs [.nils]⟩, ⟨false, .hdr 4 gv4 gv5 gv6 gv7 (some gv8)⟩, ⟨false, .flat 0 (.ints .i64 gv9)⟩, ⟨true, .hdr 6 0 d1 d2 d3 none⟩, ⟨true, .flat 0 (.ints .i64 d4)⟩]) (L1 (impl_tableOf_f_v4.st1 nv0 gv1 gv2 gv3 gv4 gv5 gv6 gv7 gv8 gv9 outv10 x11 gv12 gv13 gv14)) ((impl_tableOf_f_v4.k1g N L0 (impl_tableOf_f_v4.k0 N K gv1 gv2 gv3 gv4 gv5 gv6 gv7 gv8 gv9)) (.exit 2) (impl_tableOf_f_v4.sx1_0 nv0 gv1 gv2 gv3 gv4 gv5 gv6 gv7 gv8 gv9 outv10 x11 gv12 gv13 gv14)) nv0 gv1 gv2 gv3 gv5 gv6 gv7 gv8 gv9 x11) := by
  have h := impl_tableOf_f_v4.b1_gen N K L1 (impl_tableOf_f_v4.k1g N L0 (impl_tableOf_f_v4.k0 N K gv1 gv2 gv3 gv4 gv5 gv6 gv7 gv8 gv9)) nv0 gv1 gv2 gv3 gv4 gv5 gv6 gv7 gv8 gv9 outv10 x11 gv12 gv13 gv14
  rw [impl_tableOf_f_v4.k1_mix] at h
  exact h

theorem impl_tableOf_f_v4.a1_0_gen {ρ : Type} (N : Nat) (K : AV → Heap → Option ρ) (L0 : St → Option ρ) (kv : XE → St → Option ρ) (nv0 : Int) (gv1 : Nat → Int) (gv2 : Nat) (gv3 : Nat) (gv4 : Nat) (gv5 : Nat) (gv6 : Nat → Nat) (gv7 : Nat → Nat) (gv8 : Nat → Nat) (gv9 : Nat → Int) (outv10 : Nat) (x11 : Int) (gv12 : Nat → Nat) (gv13 : Nat → Nat) (gv14 : Nat → Int) :
    (impl_tableOf_f_v4.k1g N L0 (mixK (impl_tableOf_f_v4.fin N K gv1 gv2 gv3 gv4 gv5 gv6 gv7 gv8 gv9 .ret) kv)) (.exit 2) (impl_tableOf_f_v4.sx1_0 nv0 gv1 gv2 gv3 gv4 gv5 gv6 gv7 gv8 gv9 outv10 x11 gv12 gv13 gv14) = (impl_tableOf_f_v4.a1_0 N (fun d0 d1 d2 d3 d4 => K (.slice true 5 0 d0 .whole 1) [⟨false, .flat 1 (.ints .i64 gv1)⟩, ⟨false, .avs [.slice true 3 0 gv2 (.exact gv3) 1]⟩, ⟨false, .avs [.nils]⟩, ⟨false, .hdr 4 gv4 gv5 gv6 gv7 (some gv8)⟩, ⟨false, .flat 0 (.ints .i64 gv9)⟩, ⟨true, .hdr 6 0 d1 d2 d3 none⟩, ⟨true, .flat 0 (.ints .i64 d4)⟩]) (fun outv10 x11 gv12 gv13 gv14 => L0 (impl_tableOf_f_v4.st0 nv0 gv1 gv2 gv3 gv4 gv5 gv6 gv7 gv8 gv9 outv10 x11 gv12 gv13 gv14)) (fun ov15 ov16 ov17 ov18 => kv (.exit 0) (impl_tableOf_f_v4.sx0_0 gv1 gv2 gv3 gv4 gv5 gv6 gv7 gv8 gv9 ov15 ov16 ov17 ov18)) outv10 x11 gv12 gv13 gv14) := by kernel_rfl

theorem impl_tableOf_f_v4.a1_0_eq {ρ : Type} (N : Nat) (K : AV → Heap → Option ρ) (L0 : St → Option ρ) (nv0 : Int) (gv1 : Nat → Int) (gv2 : Nat) (gv3 : Nat) (gv4 : Nat) (gv5 : Nat) (gv6 : Nat → Nat) (gv7 : Nat → Nat) (gv8 : Nat → Nat) (gv9 : Nat → Int) (outv10 : Nat) (x11 : Int) (gv12 : Nat → Nat) (gv13 : Nat → Nat) (gv14 : Nat → Int) :
    (impl_tableOf_f_v4.k1g N L0 (impl_tableOf_f_v4.k0 N K gv1 gv2 gv3 gv4 gv5 gv6 gv7 gv8 gv9)) (.exit 2) (impl_tableOf_f_v4.sx1_0 nv0 gv1 gv2 gv3 gv4 gv5 gv6 gv7 gv8 gv9 outv10 x11 gv12 gv13 gv14) = (impl_tableOf_f_v4.a1_0 N (fun d0 d1 d2 d3 d4 => K (.slice true 5 0 d0 .whole 1) [⟨false, .flat 1 (.ints .i64 gv1)⟩, ⟨false, .avs [.slice true 3 0 gv2 (.exact gv3) 1]⟩, ⟨false, .avs [.nils]⟩, ⟨false, .hdr 4 gv4 gv5 gv6 gv7 (some gv8)⟩, ⟨false, .flat 0 (.ints .i64 gv9)⟩, ⟨true, .hdr 6 0 d1 d2 d3 none⟩, ⟨true, .flat 0 (.ints .i64 d4)⟩]) (fun outv10 x11 gv12 gv13 gv14 => L0 (impl_tableOf_f_v4.st0 nv0 gv1 gv2 gv3 gv4 gv5 gv6 gv7 gv8 gv9 outv10 x11 gv12 gv13 gv14)) (fun ov15 ov16 ov17 ov18 => (impl_tableOf_f_v4.k0 N K gv1 gv2 gv3 gv4 gv5 gv6 gv7 gv8 gv9) (.exit 0) (impl_tableOf_f_v4.sx0_0 gv1 gv2 gv3 gv4 gv5 gv6 gv7 gv8 gv9 ov15 ov16 ov17 ov18)) outv10 x11 gv12 gv13 gv14) := by
  have h := impl_tableOf_f_v4.a1_0_gen N K L0 (impl_tableOf_f_v4.k0 N K gv1 gv2 gv3 gv4 gv5 gv6 gv7 gv8 gv9) nv0 gv1 gv2 gv3 gv4 gv5 gv6 gv7 gv8 gv9 outv10 x11 gv12 gv13 gv14
  rw [impl_tableOf_f_v4.k0_mix] at h
  exact h

theorem impl_tableOf_f_v4.b0_gen {ρ : Type} (N : Nat) (K : AV → Heap → Option ρ) (L0 : St → Option ρ) (kv : XE → St → Option ρ) (nv0 : Int) (gv1 : Nat → Int) (gv2 : Nat) (gv3 : Nat) (gv4 : Nat) (gv5 : Nat) (gv6 : Nat → Nat) (gv7 : Nat → Nat) (gv8 : Nat → Nat) (gv9 : Nat → Int) (outv10 : Nat) (x11 : Int) (gv12 : Nat → Nat) (gv13 : Nat → Nat) (gv14 : Nat → Int) :
    xcode (E20 N) ents impl_tableOf_f_v4.kp 5 N (cL (cK (cB (cA (cB (cB impl_tableOf_f_v4.bd)))))) 0 (impl_tableOf_f_v4.st0 nv0 gv1 gv2 gv3 gv4 gv5 gv6 gv7 gv8 gv9 outv10 x11 gv12 gv13 gv14) (roundK impl_tableOf_f_v4.kp 5 0 L0 (mixK (impl_tableOf_f_v4.fin N K gv1 gv2 gv3 gv4 gv5 gv6 gv7 gv8 gv9 .ret) kv)) = (impl_tableOf_f_v4.b0 N (fun d0 d1 d2 d3 d4 => K (.slice true 5 0 d0 .whole 1) [⟨false, .flat 1 (.ints .i64 gv1)⟩, ⟨false, .avs [.slice true 3 0 gv2 (.exact gv3) 1]⟩, ⟨false, .avs [.nils]⟩, ⟨false, .hdr 4 gv4 gv5 gv6 gv7 (some gv8)⟩, ⟨false, .flat 0 (.ints .i64 gv9)⟩, ⟨true, .hdr 6 0 d1 d2 d3 none⟩, ⟨true, .flat 0 (.ints .i64 d4)⟩]) (xloop (xcode (E20 N) ents impl_tableOf_f_v4.kp 5 N (cL (cK (cB (cA (cB (cB (cK (cA (cB (cB (cL (cK (cB (cA (cB (cB impl_tableOf_f_v4.bd)))))))))))))))) 2) impl_tableOf_f_v4.kp 5 2 N (impl_tableOf_f_v4.st1 nv0 gv1 gv2 gv3 gv4 gv5 gv6 gv7 gv8 gv9 outv10 x11 gv12 gv13 gv14) (impl_tableOf_f_v4.k1g N L0 (mixK (impl_tableOf_f_v4.fin N K gv1 gv2 gv3 gv4 gv5 gv6 gv7 gv8 gv9 .ret) kv))) (fun outv10 x11 gv12 gv13 gv14 => L0 (impl_tableOf_f_v4.st0 nv0 gv1 gv2 gv3 gv4 gv5 gv6 gv7 gv8 gv9 outv10 x11 gv12 gv13 gv14)) (fun ov15 ov16 ov17 ov18 => kv (.exit 0) (impl_tableOf_f_v4.sx0_0 gv1 gv2 gv3 gv4 gv5 gv6 gv7 gv8 gv9 ov15 ov16 ov17 ov18)) nv0 outv10 x11 gv12 gv13 gv14) := by kernel_rfl

theorem impl_tableOf_f_v4.b0_eq {ρ : Type} (N : Nat) (K : AV → Heap → Option ρ) (L0 : St → Option ρ) (nv0 : Int) (gv1 : Nat → Int) (gv2 : Nat) (gv3 : Nat) (gv4 : Nat) (gv5 : Nat) (gv6 : Nat → Nat) (gv7 : Nat → Nat) (gv8 : Nat → Nat) (gv9 : Nat → Int) (outv10 : Nat) (x11 : Int) (gv12 : Nat → Nat) (gv13 : Nat → Nat) (gv14 : Nat → Int) :
    xcode (E20 N) ents impl_tableOf_f_v4.kp 5 N (cL (cK (cB (cA (cB (cB impl_tableOf_f_v4.bd)))))) 0 (impl_tableOf_f_v4.st0 nv0 gv1 gv2 gv3 gv4 gv5 gv6 gv7 gv8 gv9 outv10 x11 gv12 gv13 gv14) (roundK impl_tableOf_f_v4.kp 5 0 L0 (impl_tableOf_f_v4.k0 N K gv1 gv2 gv3 gv4 gv5 gv6 gv7 gv8 gv9)) = (impl_tableOf_f_v4.b0 N (fun d0 d1 d2 d3 d4 => K (.slice true 5 0 d0 .whole 1) [⟨false, .flat 1 (.ints .i64 gv1)⟩, ⟨false, .avs [.slice true 3 0 gv2 (.exact gv3) 1]⟩, ⟨false, .avs [.nils]⟩, ⟨false, .hdr 4 gv4 gv5 gv6 gv7 (some gv8)⟩, ⟨false, .flat 0 (.ints .i64 gv9)⟩, ⟨true, .hdr 6 0 d1 d2 d3 none⟩, ⟨true, .flat 0 (.ints .i64 d4)⟩]) (xloop (xcode (E20 N) ents impl_tableOf_f_v4.kp 5 N (cL (cK (cB (cA (cB (cB (cK (cA (cB (cB (cL (cK (cB (cA (cB (cB impl_tableOf_f_v4.bd)))))))))))))))) 2) impl_tableOf_f_v4.kp 5 2 N (impl_tableOf_f_v4.st1 nv0 gv1 gv2 gv3 gv4 gv5 gv6 gv7 gv8 gv9 outv10 x11 gv12 gv13 gv14) (impl_tableOf_f_v4.k1g N L0 (impl_tableOf_f_v4.k0 N K gv1 gv2 gv3 gv4 gv5 gv6 gv7 gv8 gv9))) (fun outv10 x11 gv12 gv13 gv14 => L0 (impl_tableOf_f_v4.st0 nv0 gv1 gv2 gv3 gv4 gv5 gv6 gv7 gv8 gv9 outv10 x11 gv12 gv13 gv14)) (fun ov15 ov16 ov17 ov18 => (impl_tableOf_f_v4.k0 N K gv1 gv2 gv3 gv4 gv5 gv6 gv7 gv8 gv9) (.exit 0) (impl_tableOf_f_v4.sx0_0 gv1 gv2 gv3 gv4 gv5 gv6 gv7 gv8 gv9 ov15 ov16 ov17 ov18)) nv0 outv10 x11 gv12 gv13 gv14) := by
  have h := impl_tableOf_f_v4.b0_gen N K L0 (impl_tableOf_f_v4.k0 N K gv1 gv2 gv3 gv4 gv5 gv6 gv7 gv8 gv9) nv0 gv1 gv2 gv3 gv4 gv5 gv6 gv7 gv8 gv9 outv10 x11 gv12 gv13 gv14
  rw [impl_tableOf_f_v4.k0_mix] at h
  exact h

theorem impl_tableOf_f_v4.a0_0_eq {ρ : Type} (N : Nat) (K : AV → Heap → Option ρ) (gv1 : Nat → Int) (gv2 : Nat) (gv3 : Nat) (gv4 : Nat) (gv5 : Nat) (gv6 : Nat → Nat) (gv7 : Nat → Nat) (gv8 : Nat → Nat) (gv9 : Nat → Int) (ov15 : Nat) (ov16 : Nat → Nat) (ov17 : Nat → Nat) (ov18 : Nat → Int) :
    (impl_tableOf_f_v4.k0 N K gv1 gv2 gv3 gv4 gv5 gv6 gv7 gv8 gv9) (.exit 0) (impl_tableOf_f_v4.sx0_0 gv1 gv2 gv3 gv4 gv5 gv6 gv7 gv8 gv9 ov15 ov16 ov17 ov18) = (impl_tableOf_f_v4.a0_0 N (fun d0 d1 d2 d3 d4 => K (.slice true 5 0 d0 .whole 1) [⟨false, .flat 1 (.ints .i64 gv1)⟩, ⟨false, .avs [.slice true 3 0 gv2 (.exact gv3) 1]⟩, ⟨false, .avs [.nils]⟩, ⟨false, .hdr 4 gv4 gv5 gv6 gv7 (some gv8)⟩, ⟨false, .flat 0 (.ints .i64 gv9)⟩, ⟨true, .hdr 6 0 d1 d2 d3 none⟩, ⟨true, .flat 0 (.ints .i64 d4)⟩]) ov15 ov16 ov17 ov18) := by kernel_rfl

theorem impl_tableOf_f_v4.l1_eq {ρ : Type} (N : Nat) (K : AV → Heap → Option ρ) (L0 : St → Option ρ) (nv0 : Int) (gv1 : Nat → Int) (gv2 : Nat) (gv3 : Nat) (gv4 : Nat) (gv5 : Nat) (gv6 : Nat → Nat) (gv7 : Nat → Nat) (gv8 : Nat → Nat) (gv9 : Nat → Int) (outv10 : Nat) (x11 : Int) (gv12 : Nat → Nat) (gv13 : Nat → Nat) (gv14 : Nat → Int) :
    ∀ (m : Nat), xloop (xcode (E20 N) ents impl_tableOf_f_v4.kp 5 N (cL (cK (cB (cA (cB (cB (cK (cA (cB (cB (cL (cK (cB (cA (cB (cB impl_tableOf_f_v4.bd)))))))))))))))) 2) impl_tableOf_f_v4.kp 5 2 m (impl_tableOf_f_v4.st1 nv0 gv1 gv2 gv3 gv4 gv5 gv6 gv7 gv8 gv9 outv10 x11 gv12 gv13 gv14) (impl_tableOf_f_v4.k1g N L0 (impl_tableOf_f_v4.k0 N K gv1 gv2 gv3 gv4 gv5 gv6 gv7 gv8 gv9)) = (impl_tableOf_f_v4.l1 N (fun d0 d1 d2 d3 d4 => K (.slice true 5 0 d0 .whole 1) [⟨false, .flat 1 (.ints .i64 gv1)⟩, ⟨false, .avs [.slice true 3 0 gv2 (.exact gv3) 1]⟩, ⟨false, .avs [.nils]⟩, ⟨false, .hdr 4 gv4 gv5 gv6 gv7 (some gv8)⟩, ⟨false, .flat 0 (.ints .i64 gv9)⟩, ⟨true, .hdr 6 0 d1 d2 d3 none⟩, ⟨true, .flat 0 (.ints .i64 d4)⟩]) nv0 gv1 gv2 gv3 gv5 gv6 gv7 gv8 gv9 x11 ((impl_tableOf_f_v4.k1g N L0 (impl_tableOf_f_v4.k0 N K gv1 gv2 gv3 gv4 gv5 gv6 gv7 gv8 gv9)) (.exit 2) (impl_tableOf_f_v4.sx1_0 nv0 gv1 gv2 gv3 gv4 gv5 gv6 gv7 gv8 gv9 outv10 x11 gv12 gv13 gv14)) m) := by
  intro m
  induction m with
  | zero => intros; rfl
  | succ m ih =>
    refine (impl_tableOf_f_v4.b1_eq N K L0 (fun s => xloop (xcode (E20 N) ents impl_tableOf_f_v4.kp 5 N (cL (cK (cB (cA (cB (cB (cK (cA (cB (cB (cL (cK (cB (cA (cB (cB impl_tableOf_f_v4.bd)))))))))))))))) 2) impl_tableOf_f_v4.kp 5 2 m s (impl_tableOf_f_v4.k1g N L0 (impl_tableOf_f_v4.k0 N K gv1 gv2 gv3 gv4 gv5 gv6 gv7 gv8 gv9))) nv0 gv1 gv2 gv3 gv4 gv5 gv6 gv7 gv8 gv9 outv10 x11 gv12 gv13 gv14).trans ?_
    simp only [ih]
    kernel_rfl

theorem impl_tableOf_f_v4.l0_eq {ρ : Type} (N : Nat) (K : AV → Heap → Option ρ) (nv0 : Int) (gv1 : Nat → Int) (gv2 : Nat) (gv3 : Nat) (gv4 : Nat) (gv5 : Nat) (gv6 : Nat → Nat) (gv7 : Nat → Nat) (gv8 : Nat → Nat) (gv9 : Nat → Int) :
    ∀ (m : Nat) (outv10 : Nat) (x11 : Int) (gv12 : Nat → Nat) (gv13 : Nat → Nat) (gv14 : Nat → Int), xloop (xcode (E20 N) ents impl_tableOf_f_v4.kp 5 N (cL (cK (cB (cA (cB (cB impl_tableOf_f_v4.bd)))))) 0) impl_tableOf_f_v4.kp 5 0 m (impl_tableOf_f_v4.st0 nv0 gv1 gv2 gv3 gv4 gv5 gv6 gv7 gv8 gv9 outv10 x11 gv12 gv13 gv14) (impl_tableOf_f_v4.k0 N K gv1 gv2 gv3 gv4 gv5 gv6 gv7 gv8 gv9) = (impl_tableOf_f_v4.l0 N (fun d0 d1 d2 d3 d4 => K (.slice true 5 0 d0 .whole 1) [⟨false, .flat 1 (.ints .i64 gv1)⟩, ⟨false, .avs [.slice true 3 0 gv2 (.exact gv3) 1]⟩, ⟨false, .avs [.nils]⟩, ⟨false, .hdr 4 gv4 gv5 gv6 gv7 (some gv8)⟩, ⟨false, .flat 0 (.ints .i64 gv9)⟩, ⟨true, .hdr 6 0 d1 d2 d3 none⟩, ⟨true, .flat 0 (.ints .i64 d4)⟩]) nv0 gv1 gv2 gv3 gv5 gv6 gv7 gv8 gv9 (fun ov15 ov16 ov17 ov18 => (impl_tableOf_f_v4.k0 N K gv1 gv2 gv3 gv4 gv5 gv6 gv7 gv8 gv9) (.exit 0) (impl_tableOf_f_v4.sx0_0 gv1 gv2 gv3 gv4 gv5 gv6 gv7 gv8 gv9 ov15 ov16 ov17 ov18)) m outv10 x11 gv12 gv13 gv14) := by
  intro m
  induction m with
  | zero => intros; rfl
  | succ m ih =>
    intro outv10 x11 gv12 gv13 gv14
    refine (impl_tableOf_f_v4.b0_eq N K (fun s => xloop (xcode (E20 N) ents impl_tableOf_f_v4.kp 5 N (cL (cK (cB (cA (cB (cB impl_tableOf_f_v4.bd)))))) 0) impl_tableOf_f_v4.kp 5 0 m s (impl_tableOf_f_v4.k0 N K gv1 gv2 gv3 gv4 gv5 gv6 gv7 gv8 gv9)) nv0 gv1 gv2 gv3 gv4 gv5 gv6 gv7 gv8 gv9 outv10 x11 gv12 gv13 gv14).trans ?_
    simp only [ih, impl_tableOf_f_v4.l1_eq, impl_tableOf_f_v4.a1_0_eq]
    kernel_rfl

theorem impl_tableOf_f_v4.s_eq {ρ : Type} (N : Nat) (K : AV → Heap → Option ρ) (nv0 : Int) (gv1 : Nat → Int) (gv2 : Nat) (gv3 : Nat) (gv4 : Nat) (gv5 : Nat) (gv6 : Nat → Nat) (gv7 : Nat → Nat) (gv8 : Nat → Nat) (gv9 : Nat → Int) :
    xbody (E20 N) ents impl_tableOf_f_v4.kp N Go.Proofs.Try.f59 impl_tableOf_f_v4.bd [.int .i64 (nv0), .fn 66 0 [[(0, 1)], [(1, 1)], [(2, 1)]]] [⟨false, .flat 1 (.ints .i64 gv1)⟩, ⟨false, .avs [.slice true 3 0 gv2 (.exact gv3) 1]⟩, ⟨false, .avs [.nils]⟩, ⟨false, .hdr 4 gv4 gv5 gv6 gv7 (some gv8)⟩, ⟨false, .flat 0 (.ints .i64 gv9)⟩] K = (impl_tableOf_f_v4.s N (fun d0 d1 d2 d3 d4 => K (.slice true 5 0 d0 .whole 1) [⟨false, .flat 1 (.ints .i64 gv1)⟩, ⟨false, .avs [.slice true 3 0 gv2 (.exact gv3) 1]⟩, ⟨false, .avs [.nils]⟩, ⟨false, .hdr 4 gv4 gv5 gv6 gv7 (some gv8)⟩, ⟨false, .flat 0 (.ints .i64 gv9)⟩, ⟨true, .hdr 6 0 d1 d2 d3 none⟩, ⟨true, .flat 0 (.ints .i64 d4)⟩]) (fun outv10 x11 gv12 gv13 gv14 => xloop (xcode (E20 N) ents impl_tableOf_f_v4.kp 5 N (cL (cK (cB (cA (cB (cB impl_tableOf_f_v4.bd)))))) 0) impl_tableOf_f_v4.kp 5 0 N (impl_tableOf_f_v4.st0 nv0 gv1 gv2 gv3 gv4 gv5 gv6 gv7 gv8 gv9 outv10 x11 gv12 gv13 gv14) (impl_tableOf_f_v4.k0 N K gv1 gv2 gv3 gv4 gv5 gv6 gv7 gv8 gv9))) := by kernel_rfl

theorem impl_tableOf_f_v4.eq {ρ : Type} (N : Nat) (K : AV → Heap → Option ρ) (nv0 : Int) (gv1 : Nat → Int) (gv2 : Nat) (gv3 : Nat) (gv4 : Nat) (gv5 : Nat) (gv6 : Nat → Nat) (gv7 : Nat → Nat) (gv8 : Nat → Nat) (gv9 : Nat → Int) :
    xbody (E20 N) ents impl_tableOf_f_v4.kp N Go.Proofs.Try.f59 impl_tableOf_f_v4.bd [.int .i64 (nv0), .fn 66 0 [[(0, 1)], [(1, 1)], [(2, 1)]]] [⟨false, .flat 1 (.ints .i64 gv1)⟩, ⟨false, .avs [.slice true 3 0 gv2 (.exact gv3) 1]⟩, ⟨false, .avs [.nils]⟩, ⟨false, .hdr 4 gv4 gv5 gv6 gv7 (some gv8)⟩, ⟨false, .flat 0 (.ints .i64 gv9)⟩] K = (impl_tableOf_f_v4 N (fun d0 d1 d2 d3 d4 => K (.slice true 5 0 d0 .whole 1) [⟨false, .flat 1 (.ints .i64 gv1)⟩, ⟨false, .avs [.slice true 3 0 gv2 (.exact gv3) 1]⟩, ⟨false, .avs [.nils]⟩, ⟨false, .hdr 4 gv4 gv5 gv6 gv7 (some gv8)⟩, ⟨false, .flat 0 (.ints .i64 gv9)⟩, ⟨true, .hdr 6 0 d1 d2 d3 none⟩, ⟨true, .flat 0 (.ints .i64 d4)⟩]) nv0 gv1 gv2 gv3 gv4 gv5 gv6 gv7 gv8 gv9) := by
  refine (impl_tableOf_f_v4.s_eq N K nv0 gv1 gv2 gv3 gv4 gv5 gv6 gv7 gv8 gv9).trans ?_
  simp only [impl_tableOf_f_v4.l0_eq, impl_tableOf_f_v4.a0_0_eq]
  kernel_rfl

noncomputable def impl_tableOf_f.en (N : Nat) (ρ : Type) : List AV → Heap → (AV → Heap → Option ρ) → Option ρ
  | [.int .i64 (nv0), .fn 66 0 [[(0, 1)], [(1, 1)], [(2, 1)]]], [⟨false, .flat 1 (.ints .i64 gv1)⟩, ⟨false, .avs [.slice true 3 0 gv2 (.exact gv3) 1]⟩, ⟨false, .avs [.slice true 4 0 gv4 (.exact gv5) 1]⟩, ⟨false, .hdr 5 gv6 gv7 gv8 gv9 (some gv10)⟩, ⟨false, .hdr 6 gv11 gv12 gv13 gv14 (some gv15)⟩, ⟨false, .flat 0 (.ints .i64 gv16)⟩, ⟨false, .flat 0 (.ints .i64 gv17)⟩], K => (impl_tableOf_f N (fun d0 d1 d2 d3 d4 => K (.slice true 7 0 d0 .whole 1) [⟨false, .flat 1 (.ints .i64 gv1)⟩, ⟨false, .avs [.slice true 3 0 gv2 (.exact gv3) 1]⟩, ⟨false, .avs [.slice true 4 0 gv4 (.exact gv5) 1]⟩, ⟨false, .hdr 5 gv6 gv7 gv8 gv9 (some gv10)⟩, ⟨false, .hdr 6 gv11 gv12 gv13 gv14 (some gv15)⟩, ⟨false, .flat 0 (.ints .i64 gv16)⟩, ⟨false, .flat 0 (.ints .i64 gv17)⟩, ⟨true, .hdr 8 0 d1 d2 d3 none⟩, ⟨true, .flat 0 (.ints .i64 d4)⟩]) nv0 gv1 gv2 gv3 gv4 gv5 gv6 gv7 gv8 gv9 gv10 gv11 gv12 gv13 gv14 gv15 gv16 gv17)
  | [.int .i64 (nv0), .fn 66 0 [[(0, 1)], [(1, 1)], [(2, 1)]]], [⟨false, .flat 1 (.ints .i64 gv1)⟩, ⟨false, .avs [.nils]⟩, ⟨false, .avs [.nils]⟩], K => (impl_tableOf_f_v2 N (fun d0 d1 d2 d3 d4 => K (.slice true 3 0 d0 .whole 1) [⟨false, .flat 1 (.ints .i64 gv1)⟩, ⟨false, .avs [.nils]⟩, ⟨false, .avs [.nils]⟩, ⟨true, .hdr 4 0 d1 d2 d3 none⟩, ⟨true, .flat 0 (.ints .i64 d4)⟩]) nv0 gv1)
  | [.int .i64 (nv0), .fn 66 0 [[(0, 1)], [(1, 1)], [(2, 1)]]], [⟨false, .flat 1 (.ints .i64 gv1)⟩, ⟨false, .avs [.nils]⟩, ⟨false, .avs [.slice true 3 0 gv2 (.exact gv3) 1]⟩, ⟨false, .hdr 4 gv4 gv5 gv6 gv7 (some gv8)⟩, ⟨false, .flat 0 (.ints .i64 gv9)⟩], K => (impl_tableOf_f_v3 N (fun d0 d1 d2 d3 d4 => K (.slice true 5 0 d0 .whole 1) [⟨false, .flat 1 (.ints .i64 gv1)⟩, ⟨false, .avs [.nils]⟩, ⟨false, .avs [.slice true 3 0 gv2 (.exact gv3) 1]⟩, ⟨false, .hdr 4 gv4 gv5 gv6 gv7 (some gv8)⟩, ⟨false, .flat 0 (.ints .i64 gv9)⟩, ⟨true, .hdr 6 0 d1 d2 d3 none⟩, ⟨true, .flat 0 (.ints .i64 d4)⟩]) nv0 gv1 gv2 gv3 gv4 gv5 gv6 gv7 gv8 gv9)
  | [.int .i64 (nv0), .fn 66 0 [[(0, 1)], [(1, 1)], [(2, 1)]]], [⟨false, .flat 1 (.ints .i64 gv1)⟩, ⟨false, .avs [.slice true 3 0 gv2 (.exact gv3) 1]⟩, ⟨false, .avs [.nils]⟩, ⟨false, .hdr 4 gv4 gv5 gv6 gv7 (some gv8)⟩, ⟨false, .flat 0 (.ints .i64 gv9)⟩], K => (impl_tableOf_f_v4 N (fun d0 d1 d2 d3 d4 => K (.slice true 5 0 d0 .whole 1) [⟨false, .flat 1 (.ints .i64 gv1)⟩, ⟨false, .avs [.slice true 3 0 gv2 (.exact gv3) 1]⟩, ⟨false, .avs [.nils]⟩, ⟨false, .hdr 4 gv4 gv5 gv6 gv7 (some gv8)⟩, ⟨false, .flat 0 (.ints .i64 gv9)⟩, ⟨true, .hdr 6 0 d1 d2 d3 none⟩, ⟨true, .flat 0 (.ints .i64 d4)⟩]) nv0 gv1 gv2 gv3 gv4 gv5 gv6 gv7 gv8 gv9)
  | _, _, _ => none

theorem impl_tableOf_f.en_ok (N : Nat) (hE : EnvOk (E20 N) ents) (ρ : Type) (args : List AV) (sh : Heap) (K : AV → Heap → Option ρ) (r : ρ) (h : impl_tableOf_f.en N ρ args sh K = some r) : ∃ v sh', K v sh' = some r ∧ FnOk (E20 N).P 59 args sh v sh' := by
  unfold impl_tableOf_f.en at h
  split at h
  · exact fn_ok hE (kp := impl_tableOf_f.kp) (N := N) Go.Proofs.Try.func59 (c := impl_tableOf_f.bd) (by kernel_rfl) ((impl_tableOf_f.eq N _ _ _ _ _ _ _ _ _ _ _ _ _ _ _ _ _ _ _).trans h)
  · exact fn_ok hE (kp := impl_tableOf_f_v2.kp) (N := N) Go.Proofs.Try.func59 (c := impl_tableOf_f_v2.bd) (by kernel_rfl) ((impl_tableOf_f_v2.eq N _ _ _).trans h)
  · exact fn_ok hE (kp := impl_tableOf_f_v3.kp) (N := N) Go.Proofs.Try.func59 (c := impl_tableOf_f_v3.bd) (by kernel_rfl) ((impl_tableOf_f_v3.eq N _ _ _ _ _ _ _ _ _ _ _).trans h)
  · exact fn_ok hE (kp := impl_tableOf_f_v4.kp) (N := N) Go.Proofs.Try.func59 (c := impl_tableOf_f_v4.bd) (by kernel_rfl) ((impl_tableOf_f_v4.eq N _ _ _ _ _ _ _ _ _ _ _).trans h)
  · cases h

noncomputable def E21 (N : Nat) : Env := (E20 N).add 59 (impl_tableOf_f.en N)

theorem E21_ok (N : Nat) : EnvOk (E21 N) ents := Env.add_ok (E20_ok N) (impl_tableOf_f.en_ok N (E20_ok N))

noncomputable def impl_productTable_shsh.kp : Keeps := ⟨[], [], []⟩

noncomputable def impl_productTable_shsh.bd : Code := bodyOf Go.Proofs.Try.f49

noncomputable def impl_productTable_shsh.fin {ρ : Type} (N : Nat) (K : AV → Heap → Option ρ) (gv4 : Nat) (gv5 : Nat) (gv6 : Nat → Nat) (gv7 : Nat → Nat) (gv8 : Nat → Nat) (gv9 : Nat) (gv10 : Nat) (gv11 : Nat → Nat) (gv12 : Nat → Nat) (gv13 : Nat → Nat) (gv14 : Nat → Int) (gv15 : Nat → Int) : XE → St → Option ρ := finK (E21 N) impl_productTable_shsh.kp.fins Go.Proofs.Try.f49 [⟨false, .hdr 2 gv4 gv5 gv6 gv7 (some gv8)⟩, ⟨false, .hdr 3 gv9 gv10 gv11 gv12 (some gv13)⟩, ⟨false, .flat 0 (.ints .i64 gv14)⟩, ⟨false, .flat 0 (.ints .i64 gv15)⟩] K

theorem impl_productTable_shsh.eq {ρ : Type} (N : Nat) (K : AV → Heap → Option ρ) (av0 : Nat) (av1 : Nat) (bv2 : Nat) (bv3 : Nat) (gv4 : Nat) (gv5 : Nat) (gv6 : Nat → Nat) (gv7 : Nat → Nat) (gv8 : Nat → Nat) (gv9 : Nat) (gv10 : Nat) (gv11 : Nat → Nat) (gv12 : Nat → Nat) (gv13 : Nat → Nat) (gv14 : Nat → Int) (gv15 : Nat → Int) :
    xbody (E21 N) ents impl_productTable_shsh.kp N Go.Proofs.Try.f49 impl_productTable_shsh.bd [.slice true 0 0 av0 (.exact av1) 1, .slice true 1 0 bv2 (.exact bv3) 1] [⟨false, .hdr 2 gv4 gv5 gv6 gv7 (some gv8)⟩, ⟨false, .hdr 3 gv9 gv10 gv11 gv12 (some gv13)⟩, ⟨false, .flat 0 (.ints .i64 gv14)⟩, ⟨false, .flat 0 (.ints .i64 gv15)⟩] K = (impl_productTable_shsh N (fun d0 d1 d2 d3 d4 => K (.slice true 4 0 d0 .whole 1) [⟨false, .hdr 2 gv4 gv5 gv6 gv7 (some gv8)⟩, ⟨false, .hdr 3 gv9 gv10 gv11 gv12 (some gv13)⟩, ⟨false, .flat 0 (.ints .i64 gv14)⟩, ⟨false, .flat 0 (.ints .i64 gv15)⟩, ⟨true, .hdr 5 0 d1 d2 d3 none⟩, ⟨true, .flat 0 (.ints .i64 d4)⟩]) av0 av1 bv2 bv3 gv4 gv5 gv6 gv7 gv8 gv9 gv10 gv11 gv12 gv13 gv14 gv15) := by kernel_rfl

noncomputable def impl_productTable_nn.kp : Keeps := ⟨[], [], []⟩

noncomputable def impl_productTable_nn.bd : Code := bodyOf Go.Proofs.Try.f49

noncomputable def impl_productTable_nn.fin {ρ : Type} (N : Nat) (K : AV → Heap → Option ρ) : XE → St → Option ρ := finK (E21 N) impl_productTable_nn.kp.fins Go.Proofs.Try.f49 [] K

theorem impl_productTable_nn.eq {ρ : Type} (N : Nat) (K : AV → Heap → Option ρ) :
    xbody (E21 N) ents impl_productTable_nn.kp N Go.Proofs.Try.f49 impl_productTable_nn.bd [.nils, .nils] [] K = (impl_productTable_nn N (fun d0 d1 d2 d3 d4 => K (.slice true 0 0 d0 .whole 1) [⟨true, .hdr 1 0 d1 d2 d3 none⟩, ⟨true, .flat 0 (.ints .i64 d4)⟩])) := by kernel_rfl

noncomputable def impl_productTable_nsh.kp : Keeps := ⟨[], [], []⟩

noncomputable def impl_productTable_nsh.bd : Code := bodyOf Go.Proofs.Try.f49

noncomputable def impl_productTable_nsh.fin {ρ : Type} (N : Nat) (K : AV → Heap → Option ρ) (gv2 : Nat) (gv3 : Nat) (gv4 : Nat → Nat) (gv5 : Nat → Nat) (gv6 : Nat → Nat) (gv7 : Nat → Int) : XE → St → Option ρ := finK (E21 N) impl_productTable_nsh.kp.fins Go.Proofs.Try.f49 [⟨false, .hdr 1 gv2 gv3 gv4 gv5 (some gv6)⟩, ⟨false, .flat 0 (.ints .i64 gv7)⟩] K

theorem impl_productTable_nsh.eq {ρ : Type} (N : Nat) (K : AV → Heap → Option ρ) (bv0 : Nat) (bv1 : Nat) (gv2 : Nat) (gv3 : Nat) (gv4 : Nat → Nat) (gv5 : Nat → Nat) (gv6 : Nat → Nat) (gv7 : Nat → Int) :
    xbody (E21 N) ents impl_productTable_nsh.kp N Go.Proofs.Try.f49 impl_productTable_nsh.bd [.nils, .slice true 0 0 bv0 (.exact bv1) 1] [⟨false, .hdr 1 gv2 gv3 gv4 gv5 (some gv6)⟩, ⟨false, .flat 0 (.ints .i64 gv7)⟩] K = (impl_productTable_nsh N (fun d0 d1 d2 d3 d4 => K (.slice true 2 0 d0 .whole 1) [⟨false, .hdr 1 gv2 gv3 gv4 gv5 (some gv6)⟩, ⟨false, .flat 0 (.ints .i64 gv7)⟩, ⟨true, .hdr 3 0 d1 d2 d3 none⟩, ⟨true, .flat 0 (.ints .i64 d4)⟩]) bv0 bv1 gv2 gv3 gv4 gv5 gv6 gv7) := by kernel_rfl

noncomputable def impl_productTable_shn.kp : Keeps := ⟨[], [], []⟩

noncomputable def impl_productTable_shn.bd : Code := bodyOf Go.Proofs.Try.f49

noncomputable def impl_productTable_shn.fin {ρ : Type} (N : Nat) (K : AV → Heap → Option ρ) (gv2 : Nat) (gv3 : Nat) (gv4 : Nat → Nat) (gv5 : Nat → Nat) (gv6 : Nat → Nat) (gv7 : Nat → Int) : XE → St → Option ρ := finK (E21 N) impl_productTable_shn.kp.fins Go.Proofs.Try.f49 [⟨false, .hdr 1 gv2 gv3 gv4 gv5 (some gv6)⟩, ⟨false, .flat 0 (.ints .i64 gv7)⟩] K

theorem impl_productTable_shn.eq {ρ : Type} (N : Nat) (K : AV → Heap → Option ρ) (av0 : Nat) (av1 : Nat) (gv2 : Nat) (gv3 : Nat) (gv4 : Nat → Nat) (gv5 : Nat → Nat) (gv6 : Nat → Nat) (gv7 : Nat → Int) :
    xbody (E21 N) ents impl_productTable_shn.kp N Go.Proofs.Try.f49 impl_productTable_shn.bd [.slice true 0 0 av0 (.exact av1) 1, .nils] [⟨false, .hdr 1 gv2 gv3 gv4 gv5 (some gv6)⟩, ⟨false, .flat 0 (.ints .i64 gv7)⟩] K = (impl_productTable_shn N (fun d0 d1 d2 d3 d4 => K (.slice true 2 0 d0 .whole 1) [⟨false, .hdr 1 gv2 gv3 gv4 gv5 (some gv6)⟩, ⟨false, .flat 0 (.ints .i64 gv7)⟩, ⟨true, .hdr 3 0 d1 d2 d3 none⟩, ⟨true, .flat 0 (.ints .i64 d4)⟩]) av0 av1 gv2 gv3 gv4 gv5 gv6 gv7) := by kernel_rfl

noncomputable def impl_productTable_shsh.en (N : Nat) (ρ : Type) : List AV → Heap → (AV → Heap → Option ρ) → Option ρ
  | [.slice true 0 0 av0 (.exact av1) 1, .slice true 1 0 bv2 (.exact bv3) 1], [⟨false, .hdr 2 gv4 gv5 gv6 gv7 (some gv8)⟩, ⟨false, .hdr 3 gv9 gv10 gv11 gv12 (some gv13)⟩, ⟨false, .flat 0 (.ints .i64 gv14)⟩, ⟨false, .flat 0 (.ints .i64 gv15)⟩], K => (impl_productTable_shsh N (fun d0 d1 d2 d3 d4 => K (.slice true 4 0 d0 .whole 1) [⟨false, .hdr 2 gv4 gv5 gv6 gv7 (some gv8)⟩, ⟨false, .hdr 3 gv9 gv10 gv11 gv12 (some gv13)⟩, ⟨false, .flat 0 (.ints .i64 gv14)⟩, ⟨false, .flat 0 (.ints .i64 gv15)⟩, ⟨true, .hdr 5 0 d1 d2 d3 none⟩, ⟨true, .flat 0 (.ints .i64 d4)⟩]) av0 av1 bv2 bv3 gv4 gv5 gv6 gv7 gv8 gv9 gv10 gv11 gv12 gv13 gv14 gv15)
  | [.nils, .nils], [], K => (impl_productTable_nn N (fun d0 d1 d2 d3 d4 => K (.slice true 0 0 d0 .whole 1) [⟨true, .hdr 1 0 d1 d2 d3 none⟩, ⟨true, .flat 0 (.ints .i64 d4)⟩]))
  | [.nils, .slice true 0 0 bv0 (.exact bv1) 1], [⟨false, .hdr 1 gv2 gv3 gv4 gv5 (some gv6)⟩, ⟨false, .flat 0 (.ints .i64 gv7)⟩], K => (impl_productTable_nsh N (fun d0 d1 d2 d3 d4 => K (.slice true 2 0 d0 .whole 1) [⟨false, .hdr 1 gv2 gv3 gv4 gv5 (some gv6)⟩, ⟨false, .flat 0 (.ints .i64 gv7)⟩, ⟨true, .hdr 3 0 d1 d2 d3 none⟩, ⟨true, .flat 0 (.ints .i64 d4)⟩]) bv0 bv1 gv2 gv3 gv4 gv5 gv6 gv7)
  | [.slice true 0 0 av0 (.exact av1) 1, .nils], [⟨false, .hdr 1 gv2 gv3 gv4 gv5 (some gv6)⟩, ⟨false, .flat 0 (.ints .i64 gv7)⟩], K => (impl_productTable_shn N (fun d0 d1 d2 d3 d4 => K (.slice true 2 0 d0 .whole 1) [⟨false, .hdr 1 gv2 gv3 gv4 gv5 (some gv6)⟩, ⟨false, .flat 0 (.ints .i64 gv7)⟩, ⟨true, .hdr 3 0 d1 d2 d3 none⟩, ⟨true, .flat 0 (.ints .i64 d4)⟩]) av0 av1 gv2 gv3 gv4 gv5 gv6 gv7)
  | _, _, _ => none

theorem impl_productTable_shsh.en_ok (N : Nat) (hE : EnvOk (E21 N) ents) (ρ : Type) (args : List AV) (sh : Heap) (K : AV → Heap → Option ρ) (r : ρ) (h : impl_productTable_shsh.en N ρ args sh K = some r) : ∃ v sh', K v sh' = some r ∧ FnOk (E21 N).P 49 args sh v sh' := by
  unfold impl_productTable_shsh.en at h
  split at h
  · exact fn_ok hE (kp := impl_productTable_shsh.kp) (N := N) Go.Proofs.Try.func49 (c := impl_productTable_shsh.bd) (by kernel_rfl) ((impl_productTable_shsh.eq N _ _ _ _ _ _ _ _ _ _ _ _ _ _ _ _ _).trans h)
  · exact fn_ok hE (kp := impl_productTable_nn.kp) (N := N) Go.Proofs.Try.func49 (c := impl_productTable_nn.bd) (by kernel_rfl) ((impl_productTable_nn.eq N _ ).trans h)
  · exact fn_ok hE (kp := impl_productTable_nsh.kp) (N := N) Go.Proofs.Try.func49 (c := impl_productTable_nsh.bd) (by kernel_rfl) ((impl_productTable_nsh.eq N _ _ _ _ _ _ _ _ _).trans h)
  · exact fn_ok hE (kp := impl_productTable_shn.kp) (N := N) Go.Proofs.Try.func49 (c := impl_productTable_shn.bd) (by kernel_rfl) ((impl_productTable_shn.eq N _ _ _ _ _ _ _ _ _).trans h)
  · cases h

noncomputable def E22 (N : Nat) : Env := (E21 N).add 49 (impl_productTable_shsh.en N)

theorem E22_ok (N : Nat) : EnvOk (E22 N) ents := Env.add_ok (E21_ok N) (impl_productTable_shsh.en_ok N (E21_ok N))

noncomputable def impl_ProductOfTables_shsh.kp : Keeps := ⟨[], [], [(.slot 4, .unkH .i64)]⟩

noncomputable def impl_ProductOfTables_shsh.bd : Code := bodyOf Go.Proofs.Try.f22

noncomputable def impl_ProductOfTables_shsh.fin {ρ : Type} (N : Nat) (K : AV → Heap → Option ρ) (gv4 : Nat) (gv5 : Nat) (gv6 : Nat → Nat) (gv7 : Nat → Nat) (gv8 : Nat → Nat) (gv9 : Nat) (gv10 : Nat) (gv11 : Nat → Nat) (gv12 : Nat → Nat) (gv13 : Nat → Nat) (gv14 : Nat → Int) (gv15 : Nat → Int) : XE → St → Option ρ := finK (E22 N) impl_ProductOfTables_shsh.kp.fins Go.Proofs.Try.f22 [⟨false, .hdr 2 gv4 gv5 gv6 gv7 (some gv8)⟩, ⟨false, .hdr 3 gv9 gv10 gv11 gv12 (some gv13)⟩, ⟨false, .flat 0 (.ints .i64 gv14)⟩, ⟨false, .flat 0 (.ints .i64 gv15)⟩] K

theorem impl_ProductOfTables_shsh.eq {ρ : Type} (N : Nat) (K : AV → Heap → Option ρ) (table0 : Nat) (table1 : Nat) (other2 : Nat) (other3 : Nat) (gv4 : Nat) (gv5 : Nat) (gv6 : Nat → Nat) (gv7 : Nat → Nat) (gv8 : Nat → Nat) (gv9 : Nat) (gv10 : Nat) (gv11 : Nat → Nat) (gv12 : Nat → Nat) (gv13 : Nat → Nat) (gv14 : Nat → Int) (gv15 : Nat → Int) :
    xbody (E22 N) ents impl_ProductOfTables_shsh.kp N Go.Proofs.Try.f22 impl_ProductOfTables_shsh.bd [.slice true 0 0 table0 (.exact table1) 1, .slice true 1 0 other2 (.exact other3) 1] [⟨false, .hdr 2 gv4 gv5 gv6 gv7 (some gv8)⟩, ⟨false, .hdr 3 gv9 gv10 gv11 gv12 (some gv13)⟩, ⟨false, .flat 0 (.ints .i64 gv14)⟩, ⟨false, .flat 0 (.ints .i64 gv15)⟩] K = (impl_ProductOfTables_shsh N (fun d0 d1 d2 d3 d4 d5 => K (.tup [.slice false 4 0 d0 .unk 1, .int .i64 (d1)]) [⟨false, .hdr 2 gv4 gv5 gv6 gv7 (some gv8)⟩, ⟨false, .hdr 3 gv9 gv10 gv11 gv12 (some gv13)⟩, ⟨false, .flat 0 (.ints .i64 gv14)⟩, ⟨false, .flat 0 (.ints .i64 gv15)⟩, ⟨true, .hdr 5 0 d2 d3 d4 none⟩, ⟨true, .flat 0 (.ints .i64 d5)⟩]) table0 table1 other2 other3 gv4 gv5 gv6 gv7 gv8 gv9 gv10 gv11 gv12 gv13 gv14 gv15) := by kernel_rfl

noncomputable def impl_ProductOfTables_nn.kp : Keeps := ⟨[], [], [(.slot 4, .unkH .i64)]⟩

noncomputable def impl_ProductOfTables_nn.bd : Code := bodyOf Go.Proofs.Try.f22

noncomputable def impl_ProductOfTables_nn.fin {ρ : Type} (N : Nat) (K : AV → Heap → Option ρ) : XE → St → Option ρ := finK (E22 N) impl_ProductOfTables_nn.kp.fins Go.Proofs.Try.f22 [] K

theorem impl_ProductOfTables_nn.eq {ρ : Type} (N : Nat) (K : AV → Heap → Option ρ) :
    xbody (E22 N) ents impl_ProductOfTables_nn.kp N Go.Proofs.Try.f22 impl_ProductOfTables_nn.bd [.nils, .nils] [] K = (impl_ProductOfTables_nn N (fun d0 d1 d2 d3 d4 d5 => K (.tup [.slice false 0 0 d0 .unk 1, .int .i64 (d1)]) [⟨true, .hdr 1 0 d2 d3 d4 none⟩, ⟨true, .flat 0 (.ints .i64 d5)⟩])) := by kernel_rfl

noncomputable def impl_ProductOfTables_nsh.kp : Keeps := ⟨[], [], [(.slot 4, .unkH .i64)]⟩

noncomputable def impl_ProductOfTables_nsh.bd : Code := bodyOf Go.Proofs.Try.f22

noncomputable def impl_ProductOfTables_nsh.fin {ρ : Type} (N : Nat) (K : AV → Heap → Option ρ) (gv2 : Nat) (gv3 : Nat) (gv4 : Nat → Nat) (gv5 : Nat → Nat) (gv6 : Nat → Nat) (gv7 : Nat → Int) : XE → St → Option ρ := finK (E22 N) impl_ProductOfTables_nsh.kp.fins Go.Proofs.Try.f22 [⟨false, .hdr 1 gv2 gv3 gv4 gv5 (some gv6)⟩, ⟨false, .flat 0 (.ints .i64 gv7)⟩] K

theorem impl_ProductOfTables_nsh.eq {ρ : Type} (N : Nat) (K : AV → Heap → Option ρ) (other0 : Nat) (other1 : Nat) (gv2 : Nat) (gv3 : Nat) (gv4 : Nat → Nat) (gv5 : Nat → Nat) (gv6 : Nat → Nat) (gv7 : Nat → Int) :
    xbody (E22 N) ents impl_ProductOfTables_nsh.kp N Go.Proofs.Try.f22 impl_ProductOfTables_nsh.bd [.nils, .slice true 0 0 other0 (.exact other1) 1] [⟨false, .hdr 1 gv2 gv3 gv4 gv5 (some gv6)⟩, ⟨false, .flat 0 (.ints .i64 gv7)⟩] K = (impl_ProductOfTables_nsh N (fun d0 d1 d2 d3 d4 d5 => K (.tup [.slice false 2 0 d0 .unk 1, .int .i64 (d1)]) [⟨false, .hdr 1 gv2 gv3 gv4 gv5 (some gv6)⟩, ⟨false, .flat 0 (.ints .i64 gv7)⟩, ⟨true, .hdr 3 0 d2 d3 d4 none⟩, ⟨true, .flat 0 (.ints .i64 d5)⟩]) other0 other1 gv2 gv3 gv4 gv5 gv6 gv7) := by kernel_rfl

noncomputable def impl_ProductOfTables_shn.kp : Keeps := ⟨[], [], [(.slot 4, .unkH .i64)]⟩

noncomputable def impl_ProductOfTables_shn.bd : Code := bodyOf Go.Proofs.Try.f22

noncomputable def impl_ProductOfTables_shn.fin {ρ : Type} (N : Nat) (K : AV → Heap → Option ρ) (gv2 : Nat) (gv3 : Nat) (gv4 : Nat → Nat) (gv5 : Nat → Nat) (gv6 : Nat → Nat) (gv7 : Nat → Int) : XE → St → Option ρ := finK (E22 N) impl_ProductOfTables_shn.kp.fins Go.Proofs.Try.f22 [⟨false, .hdr 1 gv2 gv3 gv4 gv5 (some gv6)⟩, ⟨false, .flat 0 (.ints .i64 gv7)⟩] K

theorem impl_ProductOfTables_shn.eq {ρ : Type} (N : Nat) (K : AV → Heap → Option ρ) (table0 : Nat) (table1 : Nat) (gv2 : Nat) (gv3 : Nat) (gv4 : Nat → Nat) (gv5 : Nat → Nat) (gv6 : Nat → Nat) (gv7 : Nat → Int) :
    xbody (E22 N) ents impl_ProductOfTables_shn.kp N Go.Proofs.Try.f22 impl_ProductOfTables_shn.bd [.slice true 0 0 table0 (.exact table1) 1, .nils] [⟨false, .hdr 1 gv2 gv3 gv4 gv5 (some gv6)⟩, ⟨false, .flat 0 (.ints .i64 gv7)⟩] K = (impl_ProductOfTables_shn N (fun d0 d1 d2 d3 d4 d5 => K (.tup [.slice false 2 0 d0 .unk 1, .int .i64 (d1)]) [⟨false, .hdr 1 gv2 gv3 gv4 gv5 (some gv6)⟩, ⟨false, .flat 0 (.ints .i64 gv7)⟩, ⟨true, .hdr 3 0 d2 d3 d4 none⟩, ⟨true, .flat 0 (.ints .i64 d5)⟩]) table0 table1 gv2 gv3 gv4 gv5 gv6 gv7) := by kernel_rfl

noncomputable def impl_ProductOfTables_shsh.en (N : Nat) (ρ : Type) : List AV → Heap → (AV → Heap → Option ρ) → Option ρ
  | [.slice true 0 0 table0 (.exact table1) 1, .slice true 1 0 other2 (.exact other3) 1], [⟨false, .hdr 2 gv4 gv5 gv6 gv7 (some gv8)⟩, ⟨false, .hdr 3 gv9 gv10 gv11 gv12 (some gv13)⟩, ⟨false, .flat 0 (.ints .i64 gv14)⟩, ⟨false, .flat 0 (.ints .i64 gv15)⟩], K => (impl_ProductOfTables_shsh N (fun d0 d1 d2 d3 d4 d5 => K (.tup [.slice false 4 0 d0 .unk 1, .int .i64 (d1)]) [⟨false, .hdr 2 gv4 gv5 gv6 gv7 (some gv8)⟩, ⟨false, .hdr 3 gv9 gv10 gv11 gv12 (some gv13)⟩, ⟨false, .flat 0 (.ints .i64 gv14)⟩, ⟨false, .flat 0 (.ints .i64 gv15)⟩, ⟨true, .hdr 5 0 d2 d3 d4 none⟩, ⟨true, .flat 0 (.ints .i64 d5)⟩]) table0 table1 other2 other3 gv4 gv5 gv6 gv7 gv8 gv9 gv10 gv11 gv12 gv13 gv14 gv15)
  | [.nils, .nils], [], K => (impl_ProductOfTables_nn N (fun d0 d1 d2 d3 d4 d5 => K (.tup [.slice false 0 0 d0 .unk 1, .int .i64 (d1)]) [⟨true, .hdr 1 0 d2 d3 d4 none⟩, ⟨true, .flat 0 (.ints .i64 d5)⟩]))
  | [.nils, .slice true 0 0 other0 (.exact other1) 1], [⟨false, .hdr 1 gv2 gv3 gv4 gv5 (some gv6)⟩, ⟨false, .flat 0 (.ints .i64 gv7)⟩], K => (impl_ProductOfTables_nsh N (fun d0 d1 d2 d3 d4 d5 => K (.tup [.slice false 2 0 d0 .unk 1, .int .i64 (d1)]) [⟨false, .hdr 1 gv2 gv3 gv4 gv5 (some gv6)⟩, ⟨false, .flat 0 (.ints .i64 gv7)⟩, ⟨true, .hdr 3 0 d2 d3 d4 none⟩, ⟨true, .flat 0 (.ints .i64 d5)⟩]) other0 other1 gv2 gv3 gv4 gv5 gv6 gv7)
  | [.slice true 0 0 table0 (.exact table1) 1, .nils], [⟨false, .hdr 1 gv2 gv3 gv4 gv5 (some gv6)⟩, ⟨false, .flat 0 (.ints .i64 gv7)⟩], K => (impl_ProductOfTables_shn N (fun d0 d1 d2 d3 d4 d5 => K (.tup [.slice false 2 0 d0 .unk 1, .int .i64 (d1)]) [⟨false, .hdr 1 gv2 gv3 gv4 gv5 (some gv6)⟩, ⟨false, .flat 0 (.ints .i64 gv7)⟩, ⟨true, .hdr 3 0 d2 d3 d4 none⟩, ⟨true, .flat 0 (.ints .i64 d5)⟩]) table0 table1 gv2 gv3 gv4 gv5 gv6 gv7)
  | _, _, _ => none

theorem impl_ProductOfTables_shsh.en_ok (N : Nat) (hE : EnvOk (E22 N) ents) (ρ : Type) (args : List AV) (sh : Heap) (K : AV → Heap → Option ρ) (r : ρ) (h : impl_ProductOfTables_shsh.en N ρ args sh K = some r) : ∃ v sh', K v sh' = some r ∧ FnOk (E22 N).P 22 args sh v sh' := by
  unfold impl_ProductOfTables_shsh.en at h
  split at h
  · exact fn_ok hE (kp := impl_ProductOfTables_shsh.kp) (N := N) Go.Proofs.Try.func22 (c := impl_ProductOfTables_shsh.bd) (by kernel_rfl) ((impl_ProductOfTables_shsh.eq N _ _ _ _ _ _ _ _ _ _ _ _ _ _ _ _ _).trans h)
  · exact fn_ok hE (kp := impl_ProductOfTables_nn.kp) (N := N) Go.Proofs.Try.func22 (c := impl_ProductOfTables_nn.bd) (by kernel_rfl) ((impl_ProductOfTables_nn.eq N _ ).trans h)
  · exact fn_ok hE (kp := impl_ProductOfTables_nsh.kp) (N := N) Go.Proofs.Try.func22 (c := impl_ProductOfTables_nsh.bd) (by kernel_rfl) ((impl_ProductOfTables_nsh.eq N _ _ _ _ _ _ _ _ _).trans h)
  · exact fn_ok hE (kp := impl_ProductOfTables_shn.kp) (N := N) Go.Proofs.Try.func22 (c := impl_ProductOfTables_shn.bd) (by kernel_rfl) ((impl_ProductOfTables_shn.eq N _ _ _ _ _ _ _ _ _).trans h)
  · cases h

noncomputable def E23 (N : Nat) : Env := (E22 N).add 22 (impl_ProductOfTables_shsh.en N)

theorem E23_ok (N : Nat) : EnvOk (E23 N) ents := Env.add_ok (E22_ok N) (impl_ProductOfTables_shsh.en_ok N (E22_ok N))

noncomputable def laws_eqInt64S_susu.kp : Keeps := ⟨[(0, [0, 1, 5], [], [])], [(0, [], [], [])], []⟩

noncomputable def laws_eqInt64S_susu.bd : Code := bodyOf Go.Proofs.Try.f17

noncomputable def laws_eqInt64S_susu.fin {ρ : Type} (N : Nat) (K : AV → Heap → Option ρ) (gv2 : Nat) (gv3 : Nat → Int) (gv4 : Nat) (gv5 : Nat → Int) : XE → St → Option ρ := finK (E23 N) laws_eqInt64S_susu.kp.fins Go.Proofs.Try.f17 [⟨false, .flat gv2 (.ints .i64 gv3)⟩, ⟨false, .flat gv4 (.ints .i64 gv5)⟩] K

noncomputable def laws_eqInt64S_susu.k0 {ρ : Type} (N : Nat) (K : AV → Heap → Option ρ) (gv2 : Nat) (gv3 : Nat → Int) (gv4 : Nat) (gv5 : Nat → Int) : XE → St → Option ρ := (blockK laws_eqInt64S_susu.kp 2 0 (seqK (xcode (E23 N) ents laws_eqInt64S_susu.kp 2 N (cB (cB (cB laws_eqInt64S_susu.bd))) 0) (laws_eqInt64S_susu.fin N K gv2 gv3 gv4 gv5)))

theorem laws_eqInt64S_susu.k0_mix {ρ : Type} (N : Nat) (K : AV → Heap → Option ρ) (gv2 : Nat) (gv3 : Nat → Int) (gv4 : Nat) (gv5 : Nat → Int) : mixK (laws_eqInt64S_susu.fin N K gv2 gv3 gv4 gv5 .ret) (laws_eqInt64S_susu.k0 N K gv2 gv3 gv4 gv5) = (laws_eqInt64S_susu.k0 N K gv2 gv3 gv4 gv5) := by
  funext e s; cases e <;> kernel_rfl

noncomputable def laws_eqInt64S_susu.st0 (av0 : Nat) (bv1 : Nat) (gv2 : Nat) (gv3 : Nat → Int) (gv4 : Nat) (gv5 : Nat → Int) (i6 : Int) : St := ⟨sl 26 [(0, .slice false 0 0 av0 .unk 1), (1, .slice false 1 0 bv1 .unk 1), (5, .int .i64 (i6))], [⟨false, .flat gv2 (.ints .i64 gv3)⟩, ⟨false, .flat gv4 (.ints .i64 gv5)⟩]⟩

noncomputable def laws_eqInt64S_susu.sx0_0 (gv2 : Nat) (gv3 : Nat → Int) (gv4 : Nat) (gv5 : Nat → Int) : St := ⟨sl 26 [], [⟨false, .flat gv2 (.ints .i64 gv3)⟩, ⟨false, .flat gv4 (.ints .i64 gv5)⟩]⟩

theorem laws_eqInt64S_susu.b0_gen {ρ : Type} (N : Nat) (K : AV → Heap → Option ρ) (L0 : St → Option ρ) (kv : XE → St → Option ρ) (av0 : Nat) (bv1 : Nat) (gv2 : Nat) (gv3 : Nat → Int) (gv4 : Nat) (gv5 : Nat → Int) (i6 : Int) :
    xcode (E23 N) ents laws_eqInt64S_susu.kp 2 N (cL (cK (cB (cA (cB (cB laws_eqInt64S_susu.bd)))))) 0 (laws_eqInt64S_susu.st0 av0 bv1 gv2 gv3 gv4 gv5 i6) (roundK laws_eqInt64S_susu.kp 2 0 L0 (mixK (laws_eqInt64S_susu.fin N K gv2 gv3 gv4 gv5 .ret) kv)) = (laws_eqInt64S_susu.b0 N (fun d0 => K (.bool (d0)) [⟨false, .flat gv2 (.ints .i64 gv3)⟩, ⟨false, .flat gv4 (.ints .i64 gv5)⟩]) (fun i6 => L0 (laws_eqInt64S_susu.st0 av0 bv1 gv2 gv3 gv4 gv5 i6)) (kv (.exit 0) (laws_eqInt64S_susu.sx0_0 gv2 gv3 gv4 gv5)) av0 bv1 gv3 gv5 i6) := by kernel_rfl

theorem laws_eqInt64S_susu.b0_eq {ρ : Type} (N : Nat) (K : AV → Heap → Option ρ) (L0 : St → Option ρ) (av0 : Nat) (bv1 : Nat) (gv2 : Nat) (gv3 : Nat → Int) (gv4 : Nat) (gv5 : Nat → Int) (i6 : Int) :
    xcode (E23 N) ents laws_eqInt64S_susu.kp 2 N (cL (cK (cB (cA (cB (cB laws_eqInt64S_susu.bd)))))) 0 (laws_eqInt64S_susu.st0 av0 bv1 gv2 gv3 gv4 gv5 i6) (roundK laws_eqInt64S_susu.kp 2 0 L0 (laws_eqInt64S_susu.k0 N K gv2 gv3 gv4 gv5)) = (laws_eqInt64S_susu.b0 N (fun d0 => K (.bool (d0)) [⟨false, .flat gv2 (.ints .i64 gv3)⟩, ⟨false, .flat gv4 (.ints .i64 gv5)⟩]) (fun i6 => L0 (laws_eqInt64S_susu.st0 av0 bv1 gv2 gv3 gv4 gv5 i6)) ((laws_eqInt64S_susu.k0 N K gv2 gv3 gv4 gv5) (.exit 0) (laws_eqInt64S_susu.sx0_0 gv2 gv3 gv4 gv5)) av0 bv1 gv3 gv5 i6) := by
  have h := laws_eqInt64S_susu.b0_gen N K L0 (laws_eqInt64S_susu.k0 N K gv2 gv3 gv4 gv5) av0 bv1 gv2 gv3 gv4 gv5 i6
  rw [laws_eqInt64S_susu.k0_mix] at h
  exact h

theorem laws_eqInt64S_susu.a0_0_eq {ρ : Type} (N : Nat) (K : AV → Heap → Option ρ) (gv2 : Nat) (gv3 : Nat → Int) (gv4 : Nat) (gv5 : Nat → Int) :
    (laws_eqInt64S_susu.k0 N K gv2 gv3 gv4 gv5) (.exit 0) (laws_eqInt64S_susu.sx0_0 gv2 gv3 gv4 gv5) = (laws_eqInt64S_susu.a0_0 N (fun d0 => K (.bool (d0)) [⟨false, .flat gv2 (.ints .i64 gv3)⟩, ⟨false, .flat gv4 (.ints .i64 gv5)⟩])) := by kernel_rfl

theorem laws_eqInt64S_susu.l0_eq {ρ : Type} (N : Nat) (K : AV → Heap → Option ρ) (av0 : Nat) (bv1 : Nat) (gv2 : Nat) (gv3 : Nat → Int) (gv4 : Nat) (gv5 : Nat → Int) :
    ∀ (m : Nat) (i6 : Int), xloop (xcode (E23 N) ents laws_eqInt64S_susu.kp 2 N (cL (cK (cB (cA (cB (cB laws_eqInt64S_susu.bd)))))) 0) laws_eqInt64S_susu.kp 2 0 m (laws_eqInt64S_susu.st0 av0 bv1 gv2 gv3 gv4 gv5 i6) (laws_eqInt64S_susu.k0 N K gv2 gv3 gv4 gv5) = (laws_eqInt64S_susu.l0 N (fun d0 => K (.bool (d0)) [⟨false, .flat gv2 (.ints .i64 gv3)⟩, ⟨false, .flat gv4 (.ints .i64 gv5)⟩]) av0 bv1 gv3 gv5 ((laws_eqInt64S_susu.k0 N K gv2 gv3 gv4 gv5) (.exit 0) (laws_eqInt64S_susu.sx0_0 gv2 gv3 gv4 gv5)) m i6) := by
  intro m
  induction m with
  | zero => intros; rfl
  | succ m ih =>
    intro i6
    refine (laws_eqInt64S_susu.b0_eq N K (fun s => xloop (xcode (E23 N) ents laws_eqInt64S_susu.kp 2 N (cL (cK (cB (cA (cB (cB laws_eqInt64S_susu.bd)))))) 0) laws_eqInt64S_susu.kp 2 0 m s (laws_eqInt64S_susu.k0 N K gv2 gv3 gv4 gv5)) av0 bv1 gv2 gv3 gv4 gv5 i6).trans ?_
    simp only [ih]
    kernel_rfl

theorem laws_eqInt64S_susu.s_eq {ρ : Type} (N : Nat) (K : AV → Heap → Option ρ) (av0 : Nat) (bv1 : Nat) (gv2 : Nat) (gv3 : Nat → Int) (gv4 : Nat) (gv5 : Nat → Int) :
    xbody (E23 N) ents laws_eqInt64S_susu.kp N Go.Proofs.Try.f17 laws_eqInt64S_susu.bd [.slice false 0 0 av0 .unk 1, .slice false 1 0 bv1 .unk 1] [⟨false, .flat gv2 (.ints .i64 gv3)⟩, ⟨false, .flat gv4 (.ints .i64 gv5)⟩] K = (laws_eqInt64S_susu.s N (fun d0 => K (.bool (d0)) [⟨false, .flat gv2 (.ints .i64 gv3)⟩, ⟨false, .flat gv4 (.ints .i64 gv5)⟩]) (fun i6 => xloop (xcode (E23 N) ents laws_eqInt64S_susu.kp 2 N (cL (cK (cB (cA (cB (cB laws_eqInt64S_susu.bd)))))) 0) laws_eqInt64S_susu.kp 2 0 N (laws_eqInt64S_susu.st0 av0 bv1 gv2 gv3 gv4 gv5 i6) (laws_eqInt64S_susu.k0 N K gv2 gv3 gv4 gv5)) av0 bv1) := by kernel_rfl

theorem laws_eqInt64S_susu.eq {ρ : Type} (N : Nat) (K : AV → Heap → Option ρ) (av0 : Nat) (bv1 : Nat) (gv2 : Nat) (gv3 : Nat → Int) (gv4 : Nat) (gv5 : Nat → Int) :
    xbody (E23 N) ents laws_eqInt64S_susu.kp N Go.Proofs.Try.f17 laws_eqInt64S_susu.bd [.slice false 0 0 av0 .unk 1, .slice false 1 0 bv1 .unk 1] [⟨false, .flat gv2 (.ints .i64 gv3)⟩, ⟨false, .flat gv4 (.ints .i64 gv5)⟩] K = (laws_eqInt64S_susu N (fun d0 => K (.bool (d0)) [⟨false, .flat gv2 (.ints .i64 gv3)⟩, ⟨false, .flat gv4 (.ints .i64 gv5)⟩]) av0 bv1 gv2 gv3 gv4 gv5) := by
  refine (laws_eqInt64S_susu.s_eq N K av0 bv1 gv2 gv3 gv4 gv5).trans ?_
  simp only [laws_eqInt64S_susu.l0_eq, laws_eqInt64S_susu.a0_0_eq]
  kernel_rfl

noncomputable def laws_eqInt64S_ss.kp : Keeps := ⟨[(0, [0, 1, 5], [], [])], [(0, [], [], [])], []⟩

noncomputable def laws_eqInt64S_ss.bd : Code := bodyOf Go.Proofs.Try.f17

noncomputable def laws_eqInt64S_ss.fin {ρ : Type} (N : Nat) (K : AV → Heap → Option ρ) (gv4 : Nat) (gv5 : Nat → Int) (gv6 : Nat) (gv7 : Nat → Int) : XE → St → Option ρ := finK (E23 N) laws_eqInt64S_ss.kp.fins Go.Proofs.Try.f17 [⟨false, .flat gv4 (.ints .i64 gv5)⟩, ⟨false, .flat gv6 (.ints .i64 gv7)⟩] K

noncomputable def laws_eqInt64S_ss.k0 {ρ : Type} (N : Nat) (K : AV → Heap → Option ρ) (gv4 : Nat) (gv5 : Nat → Int) (gv6 : Nat) (gv7 : Nat → Int) : XE → St → Option ρ := (blockK laws_eqInt64S_ss.kp 2 0 (seqK (xcode (E23 N) ents laws_eqInt64S_ss.kp 2 N (cB (cB (cB laws_eqInt64S_ss.bd))) 0) (laws_eqInt64S_ss.fin N K gv4 gv5 gv6 gv7)))

theorem laws_eqInt64S_ss.k0_mix {ρ : Type} (N : Nat) (K : AV → Heap → Option ρ) (gv4 : Nat) (gv5 : Nat → Int) (gv6 : Nat) (gv7 : Nat → Int) : mixK (laws_eqInt64S_ss.fin N K gv4 gv5 gv6 gv7 .ret) (laws_eqInt64S_ss.k0 N K gv4 gv5 gv6 gv7) = (laws_eqInt64S_ss.k0 N K gv4 gv5 gv6 gv7) := by
  funext e s; cases e <;> kernel_rfl

noncomputable def laws_eqInt64S_ss.st0 (av0 : Nat) (av1 : Nat) (bv2 : Nat) (bv3 : Nat) (gv4 : Nat) (gv5 : Nat → Int) (gv6 : Nat) (gv7 : Nat → Int) (i8 : Int) : St := ⟨sl 26 [(0, .slice false 0 0 av0 (.exact av1) 1), (1, .slice false 1 0 bv2 (.exact bv3) 1), (5, .int .i64 (i8))], [⟨false, .flat gv4 (.ints .i64 gv5)⟩, ⟨false, .flat gv6 (.ints .i64 gv7)⟩]⟩

noncomputable def laws_eqInt64S_ss.sx0_0 (gv4 : Nat) (gv5 : Nat → Int) (gv6 : Nat) (gv7 : Nat → Int) : St := ⟨sl 26 [], [⟨false, .flat gv4 (.ints .i64 gv5)⟩, ⟨false, .flat gv6 (.ints .i64 gv7)⟩]⟩

theorem laws_eqInt64S_ss.b0_gen {ρ : Type} (N : Nat) (K : AV → Heap → Option ρ) (L0 : St → Option ρ) (kv : XE → St → Option ρ) (av0 : Nat) (av1 : Nat) (bv2 : Nat) (bv3 : Nat) (gv4 : Nat) (gv5 : Nat → Int) (gv6 : Nat) (gv7 : Nat → Int) (i8 : Int) :
    xcode (E23 N) ents laws_eqInt64S_ss.kp 2 N (cL (cK (cB (cA (cB (cB laws_eqInt64S_ss.bd)))))) 0 (laws_eqInt64S_ss.st0 av0 av1 bv2 bv3 gv4 gv5 gv6 gv7 i8) (roundK laws_eqInt64S_ss.kp 2 0 L0 (mixK (laws_eqInt64S_ss.fin N K gv4 gv5 gv6 gv7 .ret) kv)) = (laws_eqInt64S_ss.b0 N (fun d0 => K (.bool (d0)) [⟨false, .flat gv4 (.ints .i64 gv5)⟩, ⟨false, .flat gv6 (.ints .i64 gv7)⟩]) (fun i8 => L0 (laws_eqInt64S_ss.st0 av0 av1 bv2 bv3 gv4 gv5 gv6 gv7 i8)) (kv (.exit 0) (laws_eqInt64S_ss.sx0_0 gv4 gv5 gv6 gv7)) av0 bv2 gv5 gv7 i8) := by kernel_rfl

theorem laws_eqInt64S_ss.b0_eq {ρ : Type} (N : Nat) (K : AV → Heap → Option ρ) (L0 : St → Option ρ) (av0 : Nat) (av1 : Nat) (bv2 : Nat) (bv3 : Nat) (gv4 : Nat) (gv5 : Nat → Int) (gv6 : Nat) (gv7 : Nat → Int) (i8 : Int) :
    xcode (E23 N) ents laws_eqInt64S_ss.kp 2 N (cL (cK (cB (cA (cB (cB laws_eqInt64S_ss.bd)))))) 0 (laws_eqInt64S_ss.st0 av0 av1 bv2 bv3 gv4 gv5 gv6 gv7 i8) (roundK laws_eqInt64S_ss.kp 2 0 L0 (laws_eqInt64S_ss.k0 N K gv4 gv5 gv6 gv7)) = (laws_eqInt64S_ss.b0 N (fun d0 => K (.bool (d0)) [⟨false, .flat gv4 (.ints .i64 gv5)⟩, ⟨false, .flat gv6 (.ints .i64 gv7)⟩]) (fun i8 => L0 (laws_eqInt64S_ss.st0 av0 av1 bv2 bv3 gv4 gv5 gv6 gv7 i8)) ((laws_eqInt64S_ss.k0 N K gv4 gv5 gv6 gv7) (.exit 0) (laws_eqInt64S_ss.sx0_0 gv4 gv5 gv6 gv7)) av0 bv2 gv5 gv7 i8) := by
  have h := laws_eqInt64S_ss.b0_gen N K L0 (laws_eqInt64S_ss.k0 N K gv4 gv5 gv6 gv7) av0 av1 bv2 bv3 gv4 gv5 gv6 gv7 i8
  rw [laws_eqInt64S_ss.k0_mix] at h
  exact h

theorem laws_eqInt64S_ss.a0_0_eq {ρ : Type} (N : Nat) (K : AV → Heap → Option ρ) (gv4 : Nat) (gv5 : Nat → Int) (gv6 : Nat) (gv7 : Nat → Int) :
    (laws_eqInt64S_ss.k0 N K gv4 gv5 gv6 gv7) (.exit 0) (laws_eqInt64S_ss.sx0_0 gv4 gv5 gv6 gv7) = (laws_eqInt64S_ss.a0_0 N (fun d0 => K (.bool (d0)) [⟨false, .flat gv4 (.ints .i64 gv5)⟩, ⟨false, .flat gv6 (.ints .i64 gv7)⟩])) := by kernel_rfl

theorem laws_eqInt64S_ss.l0_eq {ρ : Type} (N : Nat) (K : AV → Heap → Option ρ) (av0 : Nat) (av1 : Nat) (bv2 : Nat) (bv3 : Nat) (gv4 : Nat) (gv5 : Nat → Int) (gv6 : Nat) (gv7 : Nat → Int) :
    ∀ (m : Nat) (i8 : Int), xloop (xcode (E23 N) ents laws_eqInt64S_ss.kp 2 N (cL (cK (cB (cA (cB (cB laws_eqInt64S_ss.bd)))))) 0) laws_eqInt64S_ss.kp 2 0 m (laws_eqInt64S_ss.st0 av0 av1 bv2 bv3 gv4 gv5 gv6 gv7 i8) (laws_eqInt64S_ss.k0 N K gv4 gv5 gv6 gv7) = (laws_eqInt64S_ss.l0 N (fun d0 => K (.bool (d0)) [⟨false, .flat gv4 (.ints .i64 gv5)⟩, ⟨false, .flat gv6 (.ints .i64 gv7)⟩]) av0 bv2 gv5 gv7 ((laws_eqInt64S_ss.k0 N K gv4 gv5 gv6 gv7) (.exit 0) (laws_eqInt64S_ss.sx0_0 gv4 gv5 gv6 gv7)) m i8) := by
  intro m
  induction m with
  | zero => intros; rfl
  | succ m ih =>
    intro i8
    refine (laws_eqInt64S_ss.b0_eq N K (fun s => xloop (xcode (E23 N) ents laws_eqInt64S_ss.kp 2 N (cL (cK (cB (cA (cB (cB laws_eqInt64S_ss.bd)))))) 0) laws_eqInt64S_ss.kp 2 0 m s (laws_eqInt64S_ss.k0 N K gv4 gv5 gv6 gv7)) av0 av1 bv2 bv3 gv4 gv5 gv6 gv7 i8).trans ?_
    simp only [ih]
    kernel_rfl

theorem laws_eqInt64S_ss.s_eq {ρ : Type} (N : Nat) (K : AV → Heap → Option ρ) (av0 : Nat) (av1 : Nat) (bv2 : Nat) (bv3 : Nat) (gv4 : Nat) (gv5 : Nat → Int) (gv6 : Nat) (gv7 : Nat → Int) :
    xbody (E23 N) ents laws_eqInt64S_ss.kp N Go.Proofs.Try.f17 laws_eqInt64S_ss.bd [.slice false 0 0 av0 (.exact av1) 1, .slice false 1 0 bv2 (.exact bv3) 1] [⟨false, .flat gv4 (.ints .i64 gv5)⟩, ⟨false, .flat gv6 (.ints .i64 gv7)⟩] K = (laws_eqInt64S_ss.s N (fun d0 => K (.bool (d0)) [⟨false, .flat gv4 (.ints .i64 gv5)⟩, ⟨false, .flat gv6 (.ints .i64 gv7)⟩]) (fun i8 => xloop (xcode (E23 N) ents laws_eqInt64S_ss.kp 2 N (cL (cK (cB (cA (cB (cB laws_eqInt64S_ss.bd)))))) 0) laws_eqInt64S_ss.kp 2 0 N (laws_eqInt64S_ss.st0 av0 av1 bv2 bv3 gv4 gv5 gv6 gv7 i8) (laws_eqInt64S_ss.k0 N K gv4 gv5 gv6 gv7)) av0 bv2) := by kernel_rfl

theorem laws_eqInt64S_ss.eq {ρ : Type} (N : Nat) (K : AV → Heap → Option ρ) (av0 : Nat) (av1 : Nat) (bv2 : Nat) (bv3 : Nat) (gv4 : Nat) (gv5 : Nat → Int) (gv6 : Nat) (gv7 : Nat → Int) :
    xbody (E23 N) ents laws_eqInt64S_ss.kp N Go.Proofs.Try.f17 laws_eqInt64S_ss.bd [.slice false 0 0 av0 (.exact av1) 1, .slice false 1 0 bv2 (.exact bv3) 1] [⟨false, .flat gv4 (.ints .i64 gv5)⟩, ⟨false, .flat gv6 (.ints .i64 gv7)⟩] K = (laws_eqInt64S_ss N (fun d0 => K (.bool (d0)) [⟨false, .flat gv4 (.ints .i64 gv5)⟩, ⟨false, .flat gv6 (.ints .i64 gv7)⟩]) av0 av1 bv2 bv3 gv4 gv5 gv6 gv7) := by
  refine (laws_eqInt64S_ss.s_eq N K av0 av1 bv2 bv3 gv4 gv5 gv6 gv7).trans ?_
  simp only [laws_eqInt64S_ss.l0_eq, laws_eqInt64S_ss.a0_0_eq]
  kernel_rfl

noncomputable def laws_eqInt64S_susu.en (N : Nat) (ρ : Type) : List AV → Heap → (AV → Heap → Option ρ) → Option ρ
  | [.slice false 0 0 av0 .unk 1, .slice false 1 0 bv1 .unk 1], [⟨false, .flat gv2 (.ints .i64 gv3)⟩, ⟨false, .flat gv4 (.ints .i64 gv5)⟩], K => (laws_eqInt64S_susu N (fun d0 => K (.bool (d0)) [⟨false, .flat gv2 (.ints .i64 gv3)⟩, ⟨false, .flat gv4 (.ints .i64 gv5)⟩]) av0 bv1 gv2 gv3 gv4 gv5)
  | [.slice false 0 0 av0 (.exact av1) 1, .slice false 1 0 bv2 (.exact bv3) 1], [⟨false, .flat gv4 (.ints .i64 gv5)⟩, ⟨false, .flat gv6 (.ints .i64 gv7)⟩], K => (laws_eqInt64S_ss N (fun d0 => K (.bool (d0)) [⟨false, .flat gv4 (.ints .i64 gv5)⟩, ⟨false, .flat gv6 (.ints .i64 gv7)⟩]) av0 av1 bv2 bv3 gv4 gv5 gv6 gv7)
  | _, _, _ => none

theorem laws_eqInt64S_susu.en_ok (N : Nat) (hE : EnvOk (E23 N) ents) (ρ : Type) (args : List AV) (sh : Heap) (K : AV → Heap → Option ρ) (r : ρ) (h : laws_eqInt64S_susu.en N ρ args sh K = some r) : ∃ v sh', K v sh' = some r ∧ FnOk (E23 N).P 17 args sh v sh' := by
  unfold laws_eqInt64S_susu.en at h
  split at h
  · exact fn_ok hE (kp := laws_eqInt64S_susu.kp) (N := N) Go.Proofs.Try.func17 (c := laws_eqInt64S_susu.bd) (by kernel_rfl) ((laws_eqInt64S_susu.eq N _ _ _ _ _ _ _).trans h)
  · exact fn_ok hE (kp := laws_eqInt64S_ss.kp) (N := N) Go.Proofs.Try.func17 (c := laws_eqInt64S_ss.bd) (by kernel_rfl) ((laws_eqInt64S_ss.eq N _ _ _ _ _ _ _ _ _).trans h)
  · cases h

noncomputable def E24 (N : Nat) : Env := (E23 N).add 17 (laws_eqInt64S_susu.en N)

theorem E24_ok (N : Nat) : EnvOk (E24 N) ents := Env.add_ok (E23_ok N) (laws_eqInt64S_susu.en_ok N (E23_ok N))

noncomputable def laws_eqInt64SS_suhsuh.kp : Keeps := ⟨[(0, [0, 1, 5], [], [])], [(0, [], [], [])], []⟩

noncomputable def laws_eqInt64SS_suhsuh.bd : Code := bodyOf Go.Proofs.Try.f23

noncomputable def laws_eqInt64SS_suhsuh.fin {ρ : Type} (N : Nat) (K : AV → Heap → Option ρ) (gv2 : Nat) (gv3 : Nat) (gv4 : Nat → Nat) (gv5 : Nat → Nat) (gv6 : Nat) (gv7 : Nat) (gv8 : Nat → Nat) (gv9 : Nat → Nat) (gv10 : Nat → Int) (gv11 : Nat → Int) : XE → St → Option ρ := finK (E24 N) laws_eqInt64SS_suhsuh.kp.fins Go.Proofs.Try.f23 [⟨false, .hdr 2 gv2 gv3 gv4 gv5 none⟩, ⟨false, .hdr 3 gv6 gv7 gv8 gv9 none⟩, ⟨false, .flat 0 (.ints .i64 gv10)⟩, ⟨false, .flat 0 (.ints .i64 gv11)⟩] K

noncomputable def laws_eqInt64SS_suhsuh.k0 {ρ : Type} (N : Nat) (K : AV → Heap → Option ρ) (gv2 : Nat) (gv3 : Nat) (gv4 : Nat → Nat) (gv5 : Nat → Nat) (gv6 : Nat) (gv7 : Nat) (gv8 : Nat → Nat) (gv9 : Nat → Nat) (gv10 : Nat → Int) (gv11 : Nat → Int) : XE → St → Option ρ := (blockK laws_eqInt64SS_suhsuh.kp 4 0 (seqK (xcode (E24 N) ents laws_eqInt64SS_suhsuh.kp 4 N (cB (cB (cB laws_eqInt64SS_suhsuh.bd))) 0) (laws_eqInt64SS_suhsuh.fin N K gv2 gv3 gv4 gv5 gv6 gv7 gv8 gv9 gv10 gv11)))

theorem laws_eqInt64SS_suhsuh.k0_mix {ρ : Type} (N : Nat) (K : AV → Heap → Option ρ) (gv2 : Nat) (gv3 : Nat) (gv4 : Nat → Nat) (gv5 : Nat → Nat) (gv6 : Nat) (gv7 : Nat) (gv8 : Nat → Nat) (gv9 : Nat → Nat) (gv10 : Nat → Int) (gv11 : Nat → Int) : mixK (laws_eqInt64SS_suhsuh.fin N K gv2 gv3 gv4 gv5 gv6 gv7 gv8 gv9 gv10 gv11 .ret) (laws_eqInt64SS_suhsuh.k0 N K gv2 gv3 gv4 gv5 gv6 gv7 gv8 gv9 gv10 gv11) = (laws_eqInt64SS_suhsuh.k0 N K gv2 gv3 gv4 gv5 gv6 gv7 gv8 gv9 gv10 gv11) := by
  funext e s; cases e <;> kernel_rfl

noncomputable def laws_eqInt64SS_suhsuh.st0 (av0 : Nat) (bv1 : Nat) (gv2 : Nat) (gv3 : Nat) (gv4 : Nat → Nat) (gv5 : Nat → Nat) (gv6 : Nat) (gv7 : Nat) (gv8 : Nat → Nat) (gv9 : Nat → Nat) (gv10 : Nat → Int) (gv11 : Nat → Int) (i12 : Int) : St := ⟨sl 27 [(0, .slice false 0 0 av0 .unk 1), (1, .slice false 1 0 bv1 .unk 1), (5, .int .i64 (i12))], [⟨false, .hdr 2 gv2 gv3 gv4 gv5 none⟩, ⟨false, .hdr 3 gv6 gv7 gv8 gv9 none⟩, ⟨false, .flat 0 (.ints .i64 gv10)⟩, ⟨false, .flat 0 (.ints .i64 gv11)⟩]⟩

noncomputable def laws_eqInt64SS_suhsuh.sx0_0 (gv2 : Nat) (gv3 : Nat) (gv4 : Nat → Nat) (gv5 : Nat → Nat) (gv6 : Nat) (gv7 : Nat) (gv8 : Nat → Nat) (gv9 : Nat → Nat) (gv10 : Nat → Int) (gv11 : Nat → Int) : St := ⟨sl 27 [], [⟨false, .hdr 2 gv2 gv3 gv4 gv5 none⟩, ⟨false, .hdr 3 gv6 gv7 gv8 gv9 none⟩, ⟨false, .flat 0 (.ints .i64 gv10)⟩, ⟨false, .flat 0 (.ints .i64 gv11)⟩]⟩

theorem laws_eqInt64SS_suhsuh.b0_gen {ρ : Type} (N : Nat) (K : AV → Heap → Option ρ) (L0 : St → Option ρ) (kv : XE → St → Option ρ) (av0 : Nat) (bv1 : Nat) (gv2 : Nat) (gv3 : Nat) (gv4 : Nat → Nat) (gv5 : Nat → Nat) (gv6 : Nat) (gv7 : Nat) (gv8 : Nat → Nat) (gv9 : Nat → Nat) (gv10 : Nat → Int) (gv11 : Nat → Int) (i12 : Int) :
    xcode (E24 N) ents laws_eqInt64SS_suhsuh.kp 4 N (cL (cK (cB (cA (cB (cB laws_eqInt64SS_suhsuh.bd)))))) 0 (laws_eqInt64SS_suhsuh.st0 av0 bv1 gv2 gv3 gv4 gv5 gv6 gv7 gv8 gv9 gv10 gv11 i12) (roundK laws_eqInt64SS_suhsuh.kp 4 0 L0 (mixK (laws_eqInt64SS_suhsuh.fin N K gv2 gv3 gv4 gv5 gv6 gv7 gv8 gv9 gv10 gv11 .ret) kv)) = (laws_eqInt64SS_suhsuh.b0 N (fun d0 => K (.bool (d0)) [⟨false, .hdr 2 gv2 gv3 gv4 gv5 none⟩, ⟨false, .hdr 3 gv6 gv7 gv8 gv9 none⟩, ⟨false, .flat 0 (.ints .i64 gv10)⟩, ⟨false, .flat 0 (.ints .i64 gv11)⟩]) (fun i12 => L0 (laws_eqInt64SS_suhsuh.st0 av0 bv1 gv2 gv3 gv4 gv5 gv6 gv7 gv8 gv9 gv10 gv11 i12)) (kv (.exit 0) (laws_eqInt64SS_suhsuh.sx0_0 gv2 gv3 gv4 gv5 gv6 gv7 gv8 gv9 gv10 gv11)) av0 bv1 gv4 gv5 gv8 gv9 gv10 gv11 i12) := by kernel_rfl

theorem laws_eqInt64SS_suhsuh.b0_eq {ρ : Type} (N : Nat) (K : AV → Heap → Option ρ) (L0 : St → Option ρ) (av0 : Nat) (bv1 : Nat) (gv2 : Nat) (gv3 : Nat) (gv4 : Nat → Nat) (gv5 : Nat → Nat) (gv6 : Nat) (gv7 : Nat) (gv8 : Nat → Nat) (gv9 : Nat → Nat) (gv10 : Nat → Int) (gv11 : Nat → Int) (i12 : Int) :
    xcode (E24 N) ents laws_eqInt64SS_suhsuh.kp 4 N (cL (cK (cB (cA (cB (cB laws_eqInt64SS_suhsuh.bd)))))) 0 (laws_eqInt64SS_suhsuh.st0 av0 bv1 gv2 gv3 gv4 gv5 gv6 gv7 gv8 gv9 gv10 gv11 i12) (roundK laws_eqInt64SS_suhsuh.kp 4 0 L0 (laws_eqInt64SS_suhsuh.k0 N K gv2 gv3 gv4 gv5 gv6 gv7 gv8 gv9 gv10 gv11)) = (laws_eqInt64SS_suhsuh.b0 N (fun d0 => K (.bool (d0)) [⟨false, .hdr 2 gv2 gv3 gv4 gv5 none⟩, ⟨false, .hdr 3 gv6 gv7 gv8 gv9 none⟩, ⟨false, .flat 0 (.ints .i64 gv10)⟩, ⟨false, .flat 0 (.ints .i64 gv11)⟩]) (fun i12 => L0 (laws_eqInt64SS_suhsuh.st0 av0 bv1 gv2 gv3 gv4 gv5 gv6 gv7 gv8 gv9 gv10 gv11 i12)) ((laws_eqInt64SS_suhsuh.k0 N K gv2 gv3 gv4 gv5 gv6 gv7 gv8 gv9 gv10 gv11) (.exit 0) (laws_eqInt64SS_suhsuh.sx0_0 gv2 gv3 gv4 gv5 gv6 gv7 gv8 gv9 gv10 gv11)) av0 bv1 gv4 gv5 gv8 gv9 gv10 gv11 i12) := by
  have h := laws_eqInt64SS_suhsuh.b0_gen N K L0 (laws_eqInt64SS_suhsuh.k0 N K gv2 gv3 gv4 gv5 gv6 gv7 gv8 gv9 gv10 gv11) av0 bv1 gv2 gv3 gv4 gv5 gv6 gv7 gv8 gv9 gv10 gv11 i12
  rw [laws_eqInt64SS_suhsuh.k0_mix] at h
  exact h

theorem laws_eqInt64SS_suhsuh.a0_0_eq {ρ : Type} (N : Nat) (K : AV → Heap → Option ρ) (gv2 : Nat) (gv3 : Nat) (gv4 : Nat → Nat) (gv5 : Nat → Nat) (gv6 : Nat) (gv7 : Nat) (gv8 : Nat → Nat) (gv9 : Nat → Nat) (gv10 : Nat → Int) (gv11 : Nat → Int) :
    (laws_eqInt64SS_suhsuh.k0 N K gv2 gv3 gv4 gv5 gv6 gv7 gv8 gv9 gv10 gv11) (.exit 0) (laws_eqInt64SS_suhsuh.sx0_0 gv2 gv3 gv4 gv5 gv6 gv7 gv8 gv9 gv10 gv11) = (laws_eqInt64SS_suhsuh.a0_0 N (fun d0 => K (.bool (d0)) [⟨false, .hdr 2 gv2 gv3 gv4 gv5 none⟩, ⟨false, .hdr 3 gv6 gv7 gv8 gv9 none⟩, ⟨false, .flat 0 (.ints .i64 gv10)⟩, ⟨false, .flat 0 (.ints .i64 gv11)⟩])) := by kernel_rfl

theorem laws_eqInt64SS_suhsuh.l0_eq {ρ : Type} (N : Nat) (K : AV → Heap → Option ρ) (av0 : Nat) (bv1 : Nat) (gv2 : Nat) (gv3 : Nat) (gv4 : Nat → Nat) (gv5 : Nat → Nat) (gv6 : Nat) (gv7 : Nat) (gv8 : Nat → Nat) (gv9 : Nat → Nat) (gv10 : Nat → Int) (gv11 : Nat → Int) :
    ∀ (m : Nat) (i12 : Int), xloop (xcode (E24 N) ents laws_eqInt64SS_suhsuh.kp 4 N (cL (cK (cB (cA (cB (cB laws_eqInt64SS_suhsuh.bd)))))) 0) laws_eqInt64SS_suhsuh.kp 4 0 m (laws_eqInt64SS_suhsuh.st0 av0 bv1 gv2 gv3 gv4 gv5 gv6 gv7 gv8 gv9 gv10 gv11 i12) (laws_eqInt64SS_suhsuh.k0 N K gv2 gv3 gv4 gv5 gv6 gv7 gv8 gv9 gv10 gv11) = (laws_eqInt64SS_suhsuh.l0 N (fun d0 => K (.bool (d0)) [⟨false, .hdr 2 gv2 gv3 gv4 gv5 none⟩, ⟨false, .hdr 3 gv6 gv7 gv8 gv9 none⟩, ⟨false, .flat 0 (.ints .i64 gv10)⟩, ⟨false, .flat 0 (.ints .i64 gv11)⟩]) av0 bv1 gv4 gv5 gv8 gv9 gv10 gv11 ((laws_eqInt64SS_suhsuh.k0 N K gv2 gv3 gv4 gv5 gv6 gv7 gv8 gv9 gv10 gv11) (.exit 0) (laws_eqInt64SS_suhsuh.sx0_0 gv2 gv3 gv4 gv5 gv6 gv7 gv8 gv9 gv10 gv11)) m i12) := by
  intro m
  induction m with
  | zero => intros; rfl
  | succ m ih =>
    intro i12
    refine (laws_eqInt64SS_suhsuh.b0_eq N K (fun s => xloop (xcode (E24 N) ents laws_eqInt64SS_suhsuh.kp 4 N (cL (cK (cB (cA (cB (cB laws_eqInt64SS_suhsuh.bd)))))) 0) laws_eqInt64SS_suhsuh.kp 4 0 m s (laws_eqInt64SS_suhsuh.k0 N K gv2 gv3 gv4 gv5 gv6 gv7 gv8 gv9 gv10 gv11)) av0 bv1 gv2 gv3 gv4 gv5 gv6 gv7 gv8 gv9 gv10 gv11 i12).trans ?_
    simp only [ih]
    kernel_rfl

theorem laws_eqInt64SS_suhsuh.s_eq {ρ : Type} (N : Nat) (K : AV → Heap → Option ρ) (av0 : Nat) (bv1 : Nat) (gv2 : Nat) (gv3 : Nat) (gv4 : Nat → Nat) (gv5 : Nat → Nat) (gv6 : Nat) (gv7 : Nat) (gv8 : Nat → Nat) (gv9 : Nat → Nat) (gv10 : Nat → Int) (gv11 : Nat → Int) :
    xbody (E24 N) ents laws_eqInt64SS_suhsuh.kp N Go.Proofs.Try.f23 laws_eqInt64SS_suhsuh.bd [.slice false 0 0 av0 .unk 1, .slice false 1 0 bv1 .unk 1] [⟨false, .hdr 2 gv2 gv3 gv4 gv5 none⟩, ⟨false, .hdr 3 gv6 gv7 gv8 gv9 none⟩, ⟨false, .flat 0 (.ints .i64 gv10)⟩, ⟨false, .flat 0 (.ints .i64 gv11)⟩] K = (laws_eqInt64SS_suhsuh.s N (fun d0 => K (.bool (d0)) [⟨false, .hdr 2 gv2 gv3 gv4 gv5 none⟩, ⟨false, .hdr 3 gv6 gv7 gv8 gv9 none⟩, ⟨false, .flat 0 (.ints .i64 gv10)⟩, ⟨false, .flat 0 (.ints .i64 gv11)⟩]) (fun i12 => xloop (xcode (E24 N) ents laws_eqInt64SS_suhsuh.kp 4 N (cL (cK (cB (cA (cB (cB laws_eqInt64SS_suhsuh.bd)))))) 0) laws_eqInt64SS_suhsuh.kp 4 0 N (laws_eqInt64SS_suhsuh.st0 av0 bv1 gv2 gv3 gv4 gv5 gv6 gv7 gv8 gv9 gv10 gv11 i12) (laws_eqInt64SS_suhsuh.k0 N K gv2 gv3 gv4 gv5 gv6 gv7 gv8 gv9 gv10 gv11)) av0 bv1) := by kernel_rfl

theorem laws_eqInt64SS_suhsuh.eq {ρ : Type} (N : Nat) (K : AV → Heap → Option ρ) (av0 : Nat) (bv1 : Nat) (gv2 : Nat) (gv3 : Nat) (gv4 : Nat → Nat) (gv5 : Nat → Nat) (gv6 : Nat) (gv7 : Nat) (gv8 : Nat → Nat) (gv9 : Nat → Nat) (gv10 : Nat → Int) (gv11 : Nat → Int) :
    xbody (E24 N) ents laws_eqInt64SS_suhsuh.kp N Go.Proofs.Try.f23 laws_eqInt64SS_suhsuh.bd [.slice false 0 0 av0 .unk 1, .slice false 1 0 bv1 .unk 1] [⟨false, .hdr 2 gv2 gv3 gv4 gv5 none⟩, ⟨false, .hdr 3 gv6 gv7 gv8 gv9 none⟩, ⟨false, .flat 0 (.ints .i64 gv10)⟩, ⟨false, .flat 0 (.ints .i64 gv11)⟩] K = (laws_eqInt64SS_suhsuh N (fun d0 => K (.bool (d0)) [⟨false, .hdr 2 gv2 gv3 gv4 gv5 none⟩, ⟨false, .hdr 3 gv6 gv7 gv8 gv9 none⟩, ⟨false, .flat 0 (.ints .i64 gv10)⟩, ⟨false, .flat 0 (.ints .i64 gv11)⟩]) av0 bv1 gv2 gv3 gv4 gv5 gv6 gv7 gv8 gv9 gv10 gv11) := by
  refine (laws_eqInt64SS_suhsuh.s_eq N K av0 bv1 gv2 gv3 gv4 gv5 gv6 gv7 gv8 gv9 gv10 gv11).trans ?_
  simp only [laws_eqInt64SS_suhsuh.l0_eq, laws_eqInt64SS_suhsuh.a0_0_eq]
  kernel_rfl

noncomputable def laws_eqInt64SS_shsh.kp : Keeps := ⟨[(0, [0, 1, 5], [], [])], [(0, [], [], [])], []⟩

noncomputable def laws_eqInt64SS_shsh.bd : Code := bodyOf Go.Proofs.Try.f23

noncomputable def laws_eqInt64SS_shsh.fin {ρ : Type} (N : Nat) (K : AV → Heap → Option ρ) (gv4 : Nat) (gv5 : Nat) (gv6 : Nat → Nat) (gv7 : Nat → Nat) (gv8 : Nat → Nat) (gv9 : Nat) (gv10 : Nat) (gv11 : Nat → Nat) (gv12 : Nat → Nat) (gv13 : Nat → Nat) (gv14 : Nat → Int) (gv15 : Nat → Int) : XE → St → Option ρ := finK (E24 N) laws_eqInt64SS_shsh.kp.fins Go.Proofs.Try.f23 [⟨false, .hdr 2 gv4 gv5 gv6 gv7 (some gv8)⟩, ⟨false, .hdr 3 gv9 gv10 gv11 gv12 (some gv13)⟩, ⟨false, .flat 0 (.ints .i64 gv14)⟩, ⟨false, .flat 0 (.ints .i64 gv15)⟩] K

noncomputable def laws_eqInt64SS_shsh.k0 {ρ : Type} (N : Nat) (K : AV → Heap → Option ρ) (gv4 : Nat) (gv5 : Nat) (gv6 : Nat → Nat) (gv7 : Nat → Nat) (gv8 : Nat → Nat) (gv9 : Nat) (gv10 : Nat) (gv11 : Nat → Nat) (gv12 : Nat → Nat) (gv13 : Nat → Nat) (gv14 : Nat → Int) (gv15 : Nat → Int) : XE → St → Option ρ := (blockK laws_eqInt64SS_shsh.kp 4 0 (seqK (xcode (E24 N) ents laws_eqInt64SS_shsh.kp 4 N (cB (cB (cB laws_eqInt64SS_shsh.bd))) 0) (laws_eqInt64SS_shsh.fin N K gv4 gv5 gv6 gv7 gv8 gv9 gv10 gv11 gv12 gv13 gv14 gv15)))

theorem laws_eqInt64SS_shsh.k0_mix {ρ : Type} (N : Nat) (K : AV → Heap → Option ρ) (gv4 : Nat) (gv5 : Nat) (gv6 : Nat → Nat) (gv7 : Nat → Nat) (gv8 : Nat → Nat) (gv9 : Nat) (gv10 : Nat) (gv11 : Nat → Nat) (gv12 : Nat → Nat) (gv13 : Nat → Nat) (gv14 : Nat → Int) (gv15 : Nat → Int) : mixK (laws_eqInt64SS_shsh.fin N K gv4 gv5 gv6 gv7 gv8 gv9 gv10 gv11 gv12 gv13 gv14 gv15 .ret) (laws_eqInt64SS_shsh.k0 N K gv4 gv5 gv6 gv7 gv8 gv9 gv10 gv11 gv12 gv13 gv14 gv15) = (laws_eqInt64SS_shsh.k0 N K gv4 gv5 gv6 gv7 gv8 gv9 gv10 gv11 gv12 gv13 gv14 gv15) := by
  funext e s; cases e <;> kernel_rfl

noncomputable def laws_eqInt64SS_shsh.st0 (av0 : Nat) (av1 : Nat) (bv2 : Nat) (bv3 : Nat) (gv4 : Nat) (gv5 : Nat) (gv6 : Nat → Nat) (gv7 : Nat → Nat) (gv8 : Nat → Nat) (gv9 : Nat) (gv10 : Nat) (gv11 : Nat → Nat) (gv12 : Nat → Nat) (gv13 : Nat → Nat) (gv14 : Nat → Int) (gv15 : Nat → Int) (i16 : Int) : St := ⟨sl 27 [(0, .slice true 0 0 av0 (.exact av1) 1), (1, .slice true 1 0 bv2 (.exact bv3) 1), (5, .int .i64 (i16))], [⟨false, .hdr 2 gv4 gv5 gv6 gv7 (some gv8)⟩, ⟨false, .hdr 3 gv9 gv10 gv11 gv12 (some gv13)⟩, ⟨false, .flat 0 (.ints .i64 gv14)⟩, ⟨false, .flat 0 (.ints .i64 gv15)⟩]⟩

noncomputable def laws_eqInt64SS_shsh.sx0_0 (gv4 : Nat) (gv5 : Nat) (gv6 : Nat → Nat) (gv7 : Nat → Nat) (gv8 : Nat → Nat) (gv9 : Nat) (gv10 : Nat) (gv11 : Nat → Nat) (gv12 : Nat → Nat) (gv13 : Nat → Nat) (gv14 : Nat → Int) (gv15 : Nat → Int) : St := ⟨sl 27 [], [⟨false, .hdr 2 gv4 gv5 gv6 gv7 (some gv8)⟩, ⟨false, .hdr 3 gv9 gv10 gv11 gv12 (some gv13)⟩, ⟨false, .flat 0 (.ints .i64 gv14)⟩, ⟨false, .flat 0 (.ints .i64 gv15)⟩]⟩

theorem laws_eqInt64SS_shsh.b0_gen {ρ : Type} (N : Nat) (K : AV → Heap → Option ρ) (L0 : St → Option ρ) (kv : XE → St → Option ρ) (av0 : Nat) (av1 : Nat) (bv2 : Nat) (bv3 : Nat) (gv4 : Nat) (gv5 : Nat) (gv6 : Nat → Nat) (gv7 : Nat → Nat) (gv8 : Nat → Nat) (gv9 : Nat) (gv10 : Nat) (gv11 : Nat → Nat) (gv12 : Nat → Nat) (gv13 : Nat → Nat) (gv14 : Nat → Int) (gv15 : Nat → Int) (i16 : Int) :
    xcode (E24 N) ents laws_eqInt64SS_shsh.kp 4 N (cL (cK (cB (cA (cB (cB laws_eqInt64SS_shsh.bd)))))) 0 (laws_eqInt64SS_shsh.st0 av0 av1 bv2 bv3 gv4 gv5 gv6 gv7 gv8 gv9 gv10 gv11 gv12 gv13 gv14 gv15 i16) (roundK laws_eqInt64SS_shsh.kp 4 0 L0 (mixK (laws_eqInt64SS_shsh.fin N K gv4 gv5 gv6 gv7 gv8 gv9 gv10 gv11 gv12 gv13 gv14 gv15 .ret) kv)) = (laws_eqInt64SS_shsh.b0 N (fun d0 => K (.bool (d0)) [⟨false, .hdr 2 gv4 gv5 gv6 gv7 (some gv8)⟩, ⟨false, .hdr 3 gv9 gv10 gv11 gv12 (some gv13)⟩, ⟨false, .flat 0 (.ints .i64 gv14)⟩, ⟨false, .flat 0 (.ints .i64 gv15)⟩]) (fun i16 => L0 (laws_eqInt64SS_shsh.st0 av0 av1 bv2 bv3 gv4 gv5 gv6 gv7 gv8 gv9 gv10 gv11 gv12 gv13 gv14 gv15 i16)) (kv (.exit 0) (laws_eqInt64SS_shsh.sx0_0 gv4 gv5 gv6 gv7 gv8 gv9 gv10 gv11 gv12 gv13 gv14 gv15)) av0 bv2 gv6 gv7 gv8 gv11 gv12 gv13 gv14 gv15 i16) := by kernel_rfl

theorem laws_eqInt64SS_shsh.b0_eq {ρ : Type} (N : Nat) (K : AV → Heap → Option ρ) (L0 : St → Option ρ) (av0 : Nat) (av1 : Nat) (bv2 : Nat) (bv3 : Nat) (gv4 : Nat) (gv5 : Nat) (gv6 : Nat → Nat) (gv7 : Nat → Nat) (gv8 : Nat → Nat) (gv9 : Nat) (gv10 : Nat) (gv11 : Nat → Nat) (gv12 : Nat → Nat) (gv13 : Nat → Nat) (gv14 : Nat → Int) (gv15 : Nat → Int) (i16 : Int) :
    xcode (E24 N) ents laws_eqInt64SS_shsh.kp 4 N (cL (cK (cB (cA (cB (cB laws_eqInt64SS_shsh.bd)))))) 0 (laws_eqInt64SS_shsh.st0 av0 av1 bv2 bv3 gv4 gv5 gv6 gv7 gv8 gv9 gv10 gv11 gv12 gv13 gv14 gv15 i16) (roundK laws_eqInt64SS_shsh.kp 4 0 L0 (laws_eqInt64SS_shsh.k0 N K gv4 gv5 gv6 gv7 gv8 gv9 gv10 gv11 gv12 gv13 gv14 gv15)) = (laws_eqInt64SS_shsh.b0 N (fun d0 => K (.bool (d0)) [⟨false, .hdr 2 gv4 gv5 gv6 gv7 (some gv8)⟩, ⟨false, .hdr 3 gv9 gv10 gv11 gv12 (some gv13)⟩, ⟨false, .flat 0 (.ints .i64 gv14)⟩, ⟨false, .flat 0 (.ints .i64 gv15)⟩]) (fun i16 => L0 (laws_eqInt64SS_shsh.st0 av0 av1 bv2 bv3 gv4 gv5 gv6 gv7 gv8 gv9 gv10 gv11 gv12 gv13 gv14 gv15 i16)) ((laws_eqInt64SS_shsh.k0 N K gv4 gv5 gv6 gv7 gv8 gv9 gv10 gv11 gv12 gv13 gv14 gv15) (.exit 0) (laws_eqInt64SS_shsh.sx0_0 gv4 gv5 gv6 gv7 gv8 gv9 gv10 gv11 gv12 gv13 gv14 gv15)) av0 bv2 gv6 gv7 gv8 gv11 gv12 gv13 gv14 gv15 i16) := by
  have h := laws_eqInt64SS_shsh.b0_gen N K L0 (laws_eqInt64SS_shsh.k0 N K gv4 gv5 gv6 gv7 gv8 gv9 gv10 gv11 gv12 gv13 gv14 gv15) av0 av1 bv2 bv3 gv4 gv5 gv6 gv7 gv8 gv9 gv10 gv11 gv12 gv13 gv14 gv15 i16
  rw [laws_eqInt64SS_shsh.k0_mix] at h
  exact h

theorem laws_eqInt64SS_shsh.a0_0_eq {ρ : Type} (N : Nat) (K : AV → Heap → Option ρ) (gv4 : Nat) (gv5 : Nat) (gv6 : Nat → Nat) (gv7 : Nat → Nat) (gv8 : Nat → Nat) (gv9 : Nat) (gv10 : Nat) (gv11 : Nat → Nat) (gv12 : Nat → Nat) (gv13 : Nat → Nat) (gv14 : Nat → Int) (gv15 : Nat → Int) :
    (laws_eqInt64SS_shsh.k0 N K gv4 gv5 gv6 gv7 gv8 gv9 gv10 gv11 gv12 gv13 gv14 gv15) (.exit 0) (laws_eqInt64SS_shsh.sx0_0 gv4 gv5 gv6 gv7 gv8 gv9 gv10 gv11 gv12 gv13 gv14 gv15) = (laws_eqInt64SS_shsh.a0_0 N (fun d0 => K (.bool (d0)) [⟨false, .hdr 2 gv4 gv5 gv6 gv7 (some gv8)⟩, ⟨false, .hdr 3 gv9 gv10 gv11 gv12 (some gv13)⟩, ⟨false, .flat 0 (.ints .i64 gv14)⟩, ⟨false, .flat 0 (.ints .i64 gv15)⟩])) := by kernel_rfl

theorem laws_eqInt64SS_shsh.l0_eq {ρ : Type} (N : Nat) (K : AV → Heap → Option ρ) (av0 : Nat) (av1 : Nat) (bv2 : Nat) (bv3 : Nat) (gv4 : Nat) (gv5 : Nat) (gv6 : Nat → Nat) (gv7 : Nat → Nat) (gv8 : Nat → Nat) (gv9 : Nat) (gv10 : Nat) (gv11 : Nat → Nat) (gv12 : Nat → Nat) (gv13 : Nat → Nat) (gv14 : Nat → Int) (gv15 : Nat → Int) :
    ∀ (m : Nat) (i16 : Int), xloop (xcode (E24 N) ents laws_eqInt64SS_shsh.kp 4 N (cL (cK (cB (cA (cB (cB laws_eqInt64SS_shsh.bd)))))) 0) laws_eqInt64SS_shsh.kp 4 0 m (laws_eqInt64SS_shsh.st0 av0 av1 bv2 bv3 gv4 gv5 gv6 gv7 gv8 gv9 gv10 gv11 gv12 gv13 gv14 gv15 i16) (laws_eqInt64SS_shsh.k0 N K gv4 gv5 gv6 gv7 gv8 gv9 gv10 gv11 gv12 gv13 gv14 gv15) = (laws_eqInt64SS_shsh.l0 N (fun d0 => K (.bool (d0)) [⟨false, .hdr 2 gv4 gv5 gv6 gv7 (some gv8)⟩, ⟨false, .hdr 3 gv9 gv10 gv11 gv12 (some gv13)⟩, ⟨false, .flat 0 (.ints .i64 gv14)⟩, ⟨false, .flat 0 (.ints .i64 gv15)⟩]) av0 bv2 gv6 gv7 gv8 gv11 gv12 gv13 gv14 gv15 ((laws_eqInt64SS_shsh.k0 N K gv4 gv5 gv6 gv7 gv8 gv9 gv10 gv11 gv12 gv13 gv14 gv15) (.exit 0) (laws_eqInt64SS_shsh.sx0_0 gv4 gv5 gv6 gv7 gv8 gv9 gv10 gv11 gv12 gv13 gv14 gv15)) m i16) := by
  intro m
  induction m with
  | zero => intros; rfl
  | succ m ih =>
    intro i16
    refine (laws_eqInt64SS_shsh.b0_eq N K (fun s => xloop (xcode (E24 N) ents laws_eqInt64SS_shsh.kp 4 N (cL (cK (cB (cA (cB (cB laws_eqInt64SS_shsh.bd)))))) 0) laws_eqInt64SS_shsh.kp 4 0 m s (laws_eqInt64SS_shsh.k0 N K gv4 gv5 gv6 gv7 gv8 gv9 gv10 gv11 gv12 gv13 gv14 gv15)) av0 av1 bv2 bv3 gv4 gv5 gv6 gv7 gv8 gv9 gv10 gv11 gv12 gv13 gv14 gv15 i16).trans ?_
    simp only [ih]
    kernel_rfl

theorem laws_eqInt64SS_shsh.s_eq {ρ : Type} (N : Nat) (K : AV → Heap → Option ρ) (av0 : Nat) (av1 : Nat) (bv2 : Nat) (bv3 : Nat) (gv4 : Nat) (gv5 : Nat) (gv6 : Nat → Nat) (gv7 : Nat → Nat) (gv8 : Nat → Nat) (gv9 : Nat) (gv10 : Nat) (gv11 : Nat → Nat) (gv12 : Nat → Nat) (gv13 : Nat → Nat) (gv14 : Nat → Int) (gv15 : Nat → Int) :
    xbody (E24 N) ents laws_eqInt64SS_shsh.kp N Go.Proofs.Try.f23 laws_eqInt64SS_shsh.bd [.slice true 0 0 av0 (.exact av1) 1, .slice true 1 0 bv2 (.exact bv3) 1] [⟨false, .hdr 2 gv4 gv5 gv6 gv7 (some gv8)⟩, ⟨false, .hdr 3 gv9 gv10 gv11 gv12 (some gv13)⟩, ⟨false, .flat 0 (.ints .i64 gv14)⟩, ⟨false, .flat 0 (.ints .i64 gv15)⟩] K = (laws_eqInt64SS_shsh.s N (fun d0 => K (.bool (d0)) [⟨false, .hdr 2 gv4 gv5 gv6 gv7 (some gv8)⟩, ⟨false, .hdr 3 gv9 gv10 gv11 gv12 (some gv13)⟩, ⟨false, .flat 0 (.ints .i64 gv14)⟩, ⟨false, .flat 0 (.ints .i64 gv15)⟩]) (fun i16 => xloop (xcode (E24 N) ents laws_eqInt64SS_shsh.kp 4 N (cL (cK (cB (cA (cB (cB laws_eqInt64SS_shsh.bd)))))) 0) laws_eqInt64SS_shsh.kp 4 0 N (laws_eqInt64SS_shsh.st0 av0 av1 bv2 bv3 gv4 gv5 gv6 gv7 gv8 gv9 gv10 gv11 gv12 gv13 gv14 gv15 i16) (laws_eqInt64SS_shsh.k0 N K gv4 gv5 gv6 gv7 gv8 gv9 gv10 gv11 gv12 gv13 gv14 gv15)) av0 bv2) := by kernel_rfl

theorem laws_eqInt64SS_shsh.eq {ρ : Type} (N : Nat) (K : AV → Heap → Option ρ) (av0 : Nat) (av1 : Nat) (bv2 : Nat) (bv3 : Nat) (gv4 : Nat) (gv5 : Nat) (gv6 : Nat → Nat) (gv7 : Nat → Nat) (gv8 : Nat → Nat) (gv9 : Nat) (gv10 : Nat) (gv11 : Nat → Nat) (gv12 : Nat → Nat) (gv13 : Nat → Nat) (gv14 : Nat → Int) (gv15 : Nat → Int) :
    xbody (E24 N) ents laws_eqInt64SS_shsh.kp N Go.Proofs.Try.f23 laws_eqInt64SS_shsh.bd [.slice true 0 0 av0 (.exact av1) 1, .slice true 1 0 bv2 (.exact bv3) 1] [⟨false, .hdr 2 gv4 gv5 gv6 gv7 (some gv8)⟩, ⟨false, .hdr 3 gv9 gv10 gv11 gv12 (some gv13)⟩, ⟨false, .flat 0 (.ints .i64 gv14)⟩, ⟨false, .flat 0 (.ints .i64 gv15)⟩] K = (laws_eqInt64SS_shsh N (fun d0 => K (.bool (d0)) [⟨false, .hdr 2 gv4 gv5 gv6 gv7 (some gv8)⟩, ⟨false, .hdr 3 gv9 gv10 gv11 gv12 (some gv13)⟩, ⟨false, .flat 0 (.ints .i64 gv14)⟩, ⟨false, .flat 0 (.ints .i64 gv15)⟩]) av0 av1 bv2 bv3 gv4 gv5 gv6 gv7 gv8 gv9 gv10 gv11 gv12 gv13 gv14 gv15) := by
  refine (laws_eqInt64SS_shsh.s_eq N K av0 av1 bv2 bv3 gv4 gv5 gv6 gv7 gv8 gv9 gv10 gv11 gv12 gv13 gv14 gv15).trans ?_
  simp only [laws_eqInt64SS_shsh.l0_eq, laws_eqInt64SS_shsh.a0_0_eq]
  kernel_rfl

noncomputable def laws_eqInt64SS_suhsuh.en (N : Nat) (ρ : Type) : List AV → Heap → (AV → Heap → Option ρ) → Option ρ
  | [.slice false 0 0 av0 .unk 1, .slice false 1 0 bv1 .unk 1], [⟨false, .hdr 2 gv2 gv3 gv4 gv5 none⟩, ⟨false, .hdr 3 gv6 gv7 gv8 gv9 none⟩, ⟨false, .flat 0 (.ints .i64 gv10)⟩, ⟨false, .flat 0 (.ints .i64 gv11)⟩], K => (laws_eqInt64SS_suhsuh N (fun d0 => K (.bool (d0)) [⟨false, .hdr 2 gv2 gv3 gv4 gv5 none⟩, ⟨false, .hdr 3 gv6 gv7 gv8 gv9 none⟩, ⟨false, .flat 0 (.ints .i64 gv10)⟩, ⟨false, .flat 0 (.ints .i64 gv11)⟩]) av0 bv1 gv2 gv3 gv4 gv5 gv6 gv7 gv8 gv9 gv10 gv11)
  | [.slice true 0 0 av0 (.exact av1) 1, .slice true 1 0 bv2 (.exact bv3) 1], [⟨false, .hdr 2 gv4 gv5 gv6 gv7 (some gv8)⟩, ⟨false, .hdr 3 gv9 gv10 gv11 gv12 (some gv13)⟩, ⟨false, .flat 0 (.ints .i64 gv14)⟩, ⟨false, .flat 0 (.ints .i64 gv15)⟩], K => (laws_eqInt64SS_shsh N (fun d0 => K (.bool (d0)) [⟨false, .hdr 2 gv4 gv5 gv6 gv7 (some gv8)⟩, ⟨false, .hdr 3 gv9 gv10 gv11 gv12 (some gv13)⟩, ⟨false, .flat 0 (.ints .i64 gv14)⟩, ⟨false, .flat 0 (.ints .i64 gv15)⟩]) av0 av1 bv2 bv3 gv4 gv5 gv6 gv7 gv8 gv9 gv10 gv11 gv12 gv13 gv14 gv15)
  | _, _, _ => none

theorem laws_eqInt64SS_suhsuh.en_ok (N : Nat) (hE : EnvOk (E24 N) ents) (ρ : Type) (args : List AV) (sh : Heap) (K : AV → Heap → Option ρ) (r : ρ) (h : laws_eqInt64SS_suhsuh.en N ρ args sh K = some r) : ∃ v sh', K v sh' = some r ∧ FnOk (E24 N).P 23 args sh v sh' := by
  unfold laws_eqInt64SS_suhsuh.en at h
  split at h
  · exact fn_ok hE (kp := laws_eqInt64SS_suhsuh.kp) (N := N) Go.Proofs.Try.func23 (c := laws_eqInt64SS_suhsuh.bd) (by kernel_rfl) ((laws_eqInt64SS_suhsuh.eq N _ _ _ _ _ _ _ _ _ _ _ _ _).trans h)
  · exact fn_ok hE (kp := laws_eqInt64SS_shsh.kp) (N := N) Go.Proofs.Try.func23 (c := laws_eqInt64SS_shsh.bd) (by kernel_rfl) ((laws_eqInt64SS_shsh.eq N _ _ _ _ _ _ _ _ _ _ _ _ _ _ _ _ _).trans h)
  · cases h

noncomputable def E25 (N : Nat) : Env := (E24 N).add 23 (laws_eqInt64SS_suhsuh.en N)

theorem E25_ok (N : Nat) : EnvOk (E25 N) ents := Env.add_ok (E24_ok N) (laws_eqInt64SS_suhsuh.en_ok N (E24_ok N))

noncomputable def laws_intactInt64S_ss.kp : Keeps := ⟨[], [], []⟩

noncomputable def laws_intactInt64S_ss.bd : Code := bodyOf Go.Proofs.Try.f45

noncomputable def laws_intactInt64S_ss.fin {ρ : Type} (N : Nat) (K : AV → Heap → Option ρ) (gv4 : Nat) (gv5 : Nat → Int) (gv6 : Nat) (gv7 : Nat → Int) : XE → St → Option ρ := finK (E25 N) laws_intactInt64S_ss.kp.fins Go.Proofs.Try.f45 [⟨false, .flat gv4 (.ints .i64 gv5)⟩, ⟨false, .flat gv6 (.ints .i64 gv7)⟩] K

theorem laws_intactInt64S_ss.eq {ρ : Type} (N : Nat) (K : AV → Heap → Option ρ) (x0 : Nat) (x1 : Nat) (y2 : Nat) (y3 : Nat) (gv4 : Nat) (gv5 : Nat → Int) (gv6 : Nat) (gv7 : Nat → Int) :
    xbody (E25 N) ents laws_intactInt64S_ss.kp N Go.Proofs.Try.f45 laws_intactInt64S_ss.bd [.slice false 0 0 x0 (.exact x1) 1, .slice false 1 0 y2 (.exact y3) 1] [⟨false, .flat gv4 (.ints .i64 gv5)⟩, ⟨false, .flat gv6 (.ints .i64 gv7)⟩] K = (laws_intactInt64S_ss N (fun d0 => K (.bool (d0)) [⟨false, .flat gv4 (.ints .i64 gv5)⟩, ⟨false, .flat gv6 (.ints .i64 gv7)⟩]) x0 x1 y2 y3 gv4 gv5 gv6 gv7) := by kernel_rfl

noncomputable def laws_intactInt64S_ss.en (N : Nat) (ρ : Type) : List AV → Heap → (AV → Heap → Option ρ) → Option ρ
  | [.slice false 0 0 x0 (.exact x1) 1, .slice false 1 0 y2 (.exact y3) 1], [⟨false, .flat gv4 (.ints .i64 gv5)⟩, ⟨false, .flat gv6 (.ints .i64 gv7)⟩], K => (laws_intactInt64S_ss N (fun d0 => K (.bool (d0)) [⟨false, .flat gv4 (.ints .i64 gv5)⟩, ⟨false, .flat gv6 (.ints .i64 gv7)⟩]) x0 x1 y2 y3 gv4 gv5 gv6 gv7)
  | _, _, _ => none

theorem laws_intactInt64S_ss.en_ok (N : Nat) (hE : EnvOk (E25 N) ents) (ρ : Type) (args : List AV) (sh : Heap) (K : AV → Heap → Option ρ) (r : ρ) (h : laws_intactInt64S_ss.en N ρ args sh K = some r) : ∃ v sh', K v sh' = some r ∧ FnOk (E25 N).P 45 args sh v sh' := by
  unfold laws_intactInt64S_ss.en at h
  split at h
  · exact fn_ok hE (kp := laws_intactInt64S_ss.kp) (N := N) Go.Proofs.Try.func45 (c := laws_intactInt64S_ss.bd) (by kernel_rfl) ((laws_intactInt64S_ss.eq N _ _ _ _ _ _ _ _ _).trans h)
  · cases h

noncomputable def E26 (N : Nat) : Env := (E25 N).add 45 (laws_intactInt64S_ss.en N)

theorem E26_ok (N : Nat) : EnvOk (E26 N) ents := Env.add_ok (E25_ok N) (laws_intactInt64S_ss.en_ok N (E25_ok N))

noncomputable def laws_intactInt64SS_shsh.kp : Keeps := ⟨[(0, [0, 1, 5, 6], [], [])], [(0, [0, 1, 5], [], [])], []⟩

noncomputable def laws_intactInt64SS_shsh.bd : Code := bodyOf Go.Proofs.Try.f12

noncomputable def laws_intactInt64SS_shsh.fin {ρ : Type} (N : Nat) (K : AV → Heap → Option ρ) (gv4 : Nat) (gv5 : Nat) (gv6 : Nat → Nat) (gv7 : Nat → Nat) (gv8 : Nat → Nat) (gv9 : Nat) (gv10 : Nat) (gv11 : Nat → Nat) (gv12 : Nat → Nat) (gv13 : Nat → Nat) (gv14 : Nat → Int) (gv15 : Nat → Int) : XE → St → Option ρ := finK (E26 N) laws_intactInt64SS_shsh.kp.fins Go.Proofs.Try.f12 [⟨false, .hdr 2 gv4 gv5 gv6 gv7 (some gv8)⟩, ⟨false, .hdr 3 gv9 gv10 gv11 gv12 (some gv13)⟩, ⟨false, .flat 0 (.ints .i64 gv14)⟩, ⟨false, .flat 0 (.ints .i64 gv15)⟩] K

noncomputable def laws_intactInt64SS_shsh.k0 {ρ : Type} (N : Nat) (K : AV → Heap → Option ρ) (gv4 : Nat) (gv5 : Nat) (gv6 : Nat → Nat) (gv7 : Nat → Nat) (gv8 : Nat → Nat) (gv9 : Nat) (gv10 : Nat) (gv11 : Nat → Nat) (gv12 : Nat → Nat) (gv13 : Nat → Nat) (gv14 : Nat → Int) (gv15 : Nat → Int) : XE → St → Option ρ := (blockK laws_intactInt64SS_shsh.kp 4 0 (seqK (xcode (E26 N) ents laws_intactInt64SS_shsh.kp 4 N (cB (cB (cB (cB laws_intactInt64SS_shsh.bd)))) 0) (laws_intactInt64SS_shsh.fin N K gv4 gv5 gv6 gv7 gv8 gv9 gv10 gv11 gv12 gv13 gv14 gv15)))

theorem laws_intactInt64SS_shsh.k0_mix {ρ : Type} (N : Nat) (K : AV → Heap → Option ρ) (gv4 : Nat) (gv5 : Nat) (gv6 : Nat → Nat) (gv7 : Nat → Nat) (gv8 : Nat → Nat) (gv9 : Nat) (gv10 : Nat) (gv11 : Nat → Nat) (gv12 : Nat → Nat) (gv13 : Nat → Nat) (gv14 : Nat → Int) (gv15 : Nat → Int) : mixK (laws_intactInt64SS_shsh.fin N K gv4 gv5 gv6 gv7 gv8 gv9 gv10 gv11 gv12 gv13 gv14 gv15 .ret) (laws_intactInt64SS_shsh.k0 N K gv4 gv5 gv6 gv7 gv8 gv9 gv10 gv11 gv12 gv13 gv14 gv15) = (laws_intactInt64SS_shsh.k0 N K gv4 gv5 gv6 gv7 gv8 gv9 gv10 gv11 gv12 gv13 gv14 gv15) := by
  funext e s; cases e <;> kernel_rfl

noncomputable def laws_intactInt64SS_shsh.st0 (x0 : Nat) (x1 : Nat) (y2 : Nat) (y3 : Nat) (gv4 : Nat) (gv5 : Nat) (gv6 : Nat → Nat) (gv7 : Nat → Nat) (gv8 : Nat → Nat) (gv9 : Nat) (gv10 : Nat) (gv11 : Nat → Nat) (gv12 : Nat → Nat) (gv13 : Nat → Nat) (gv14 : Nat → Int) (gv15 : Nat → Int) (rv16 : Int) (i17 : Int) : St := ⟨sl 45 [(0, .slice true 0 0 x0 (.exact x1) 1), (1, .slice true 1 0 y2 (.exact y3) 1), (5, .int .i64 ((IntKind.i64.wrap ((y2 : Int) + rv16)))), (6, .int .i64 (i17))], [⟨false, .hdr 2 gv4 gv5 gv6 gv7 (some gv8)⟩, ⟨false, .hdr 3 gv9 gv10 gv11 gv12 (some gv13)⟩, ⟨false, .flat 0 (.ints .i64 gv14)⟩, ⟨false, .flat 0 (.ints .i64 gv15)⟩]⟩

noncomputable def laws_intactInt64SS_shsh.sx0_0 (x0 : Nat) (x1 : Nat) (y2 : Nat) (y3 : Nat) (gv4 : Nat) (gv5 : Nat) (gv6 : Nat → Nat) (gv7 : Nat → Nat) (gv8 : Nat → Nat) (gv9 : Nat) (gv10 : Nat) (gv11 : Nat → Nat) (gv12 : Nat → Nat) (gv13 : Nat → Nat) (gv14 : Nat → Int) (gv15 : Nat → Int) (rv16 : Int) : St := ⟨sl 45 [(0, .slice true 0 0 x0 (.exact x1) 1), (1, .slice true 1 0 y2 (.exact y3) 1), (5, .int .i64 ((IntKind.i64.wrap ((y2 : Int) + rv16))))], [⟨false, .hdr 2 gv4 gv5 gv6 gv7 (some gv8)⟩, ⟨false, .hdr 3 gv9 gv10 gv11 gv12 (some gv13)⟩, ⟨false, .flat 0 (.ints .i64 gv14)⟩, ⟨false, .flat 0 (.ints .i64 gv15)⟩]⟩

theorem laws_intactInt64SS_shsh.b0_gen {ρ : Type} (N : Nat) (K : AV → Heap → Option ρ) (L0 : St → Option ρ) (kv : XE → St → Option ρ) (x0 : Nat) (x1 : Nat) (y2 : Nat) (y3 : Nat) (gv4 : Nat) (gv5 : Nat) (gv6 : Nat → Nat) (gv7 : Nat → Nat) (gv8 : Nat → Nat) (gv9 : Nat) (gv10 : Nat) (gv11 : Nat → Nat) (gv12 : Nat → Nat) (gv13 : Nat → Nat) (gv14 : Nat → Int) (gv15 : Nat → Int) (rv16 : Int) (i17 : Int) :
    xcode (E26 N) ents laws_intactInt64SS_shsh.kp 4 N (cL (cK (cB (cA (cB (cB (cB laws_intactInt64SS_shsh.bd))))))) 0 (laws_intactInt64SS_shsh.st0 x0 x1 y2 y3 gv4 gv5 gv6 gv7 gv8 gv9 gv10 gv11 gv12 gv13 gv14 gv15 rv16 i17) (roundK laws_intactInt64SS_shsh.kp 4 0 L0 (mixK (laws_intactInt64SS_shsh.fin N K gv4 gv5 gv6 gv7 gv8 gv9 gv10 gv11 gv12 gv13 gv14 gv15 .ret) kv)) = (laws_intactInt64SS_shsh.b0 N (fun d0 => K (.bool (d0)) [⟨false, .hdr 2 gv4 gv5 gv6 gv7 (some gv8)⟩, ⟨false, .hdr 3 gv9 gv10 gv11 gv12 (some gv13)⟩, ⟨false, .flat 0 (.ints .i64 gv14)⟩, ⟨false, .flat 0 (.ints .i64 gv15)⟩]) (fun i17 => L0 (laws_intactInt64SS_shsh.st0 x0 x1 y2 y3 gv4 gv5 gv6 gv7 gv8 gv9 gv10 gv11 gv12 gv13 gv14 gv15 rv16 i17)) (kv (.exit 0) (laws_intactInt64SS_shsh.sx0_0 x0 x1 y2 y3 gv4 gv5 gv6 gv7 gv8 gv9 gv10 gv11 gv12 gv13 gv14 gv15 rv16)) x0 y2 gv6 gv7 gv8 gv11 gv12 gv13 gv14 gv15 i17) := by kernel_rfl

theorem laws_intactInt64SS_shsh.b0_eq {ρ : Type} (N : Nat) (K : AV → Heap → Option ρ) (L0 : St → Option ρ) (x0 : Nat) (x1 : Nat) (y2 : Nat) (y3 : Nat) (gv4 : Nat) (gv5 : Nat) (gv6 : Nat → Nat) (gv7 : Nat → Nat) (gv8 : Nat → Nat) (gv9 : Nat) (gv10 : Nat) (gv11 : Nat → Nat) (gv12 : Nat → Nat) (gv13 : Nat → Nat) (gv14 : Nat → Int) (gv15 : Nat → Int) (rv16 : Int) (i17 : Int) :
    xcode (E26 N) ents laws_intactInt64SS_shsh.kp 4 N (cL (cK (cB (cA (cB (cB (cB laws_intactInt64SS_shsh.bd))))))) 0 (laws_intactInt64SS_shsh.st0 x0 x1 y2 y3 gv4 gv5 gv6 gv7 gv8 gv9 gv10 gv11 gv12 gv13 gv14 gv15 rv16 i17) (roundK laws_intactInt64SS_shsh.kp 4 0 L0 (laws_intactInt64SS_shsh.k0 N K gv4 gv5 gv6 gv7 gv8 gv9 gv10 gv11 gv12 gv13 gv14 gv15)) = (laws_intactInt64SS_shsh.b0 N (fun d0 => K (.bool (d0)) [⟨false, .hdr 2 gv4 gv5 gv6 gv7 (some gv8)⟩, ⟨false, .hdr 3 gv9 gv10 gv11 gv12 (some gv13)⟩, ⟨false, .flat 0 (.ints .i64 gv14)⟩, ⟨false, .flat 0 (.ints .i64 gv15)⟩]) (fun i17 => L0 (laws_intactInt64SS_shsh.st0 x0 x1 y2 y3 gv4 gv5 gv6 gv7 gv8 gv9 gv10 gv11 gv12 gv13 gv14 gv15 rv16 i17)) ((laws_intactInt64SS_shsh.k0 N K gv4 gv5 gv6 gv7 gv8 gv9 gv10 gv11 gv12 gv13 gv14 gv15) (.exit 0) (laws_intactInt64SS_shsh.sx0_0 x0 x1 y2 y3 gv4 gv5 gv6 gv7 gv8 gv9 gv10 gv11 gv12 gv13 gv14 gv15 rv16)) x0 y2 gv6 gv7 gv8 gv11 gv12 gv13 gv14 gv15 i17) := by
  have h := laws_intactInt64SS_shsh.b0_gen N K L0 (laws_intactInt64SS_shsh.k0 N K gv4 gv5 gv6 gv7 gv8 gv9 gv10 gv11 gv12 gv13 gv14 gv15) x0 x1 y2 y3 gv4 gv5 gv6 gv7 gv8 gv9 gv10 gv11 gv12 gv13 gv14 gv15 rv16 i17
  rw [laws_intactInt64SS_shsh.k0_mix] at h
  exact h

theorem laws_intactInt64SS_shsh.a0_0_eq {ρ : Type} (N : Nat) (K : AV → Heap → Option ρ) (x0 : Nat) (x1 : Nat) (y2 : Nat) (y3 : Nat) (gv4 : Nat) (gv5 : Nat) (gv6 : Nat → Nat) (gv7 : Nat → Nat) (gv8 : Nat → Nat) (gv9 : Nat) (gv10 : Nat) (gv11 : Nat → Nat) (gv12 : Nat → Nat) (gv13 : Nat → Nat) (gv14 : Nat → Int) (gv15 : Nat → Int) (rv16 : Int) :
    (laws_intactInt64SS_shsh.k0 N K gv4 gv5 gv6 gv7 gv8 gv9 gv10 gv11 gv12 gv13 gv14 gv15) (.exit 0) (laws_intactInt64SS_shsh.sx0_0 x0 x1 y2 y3 gv4 gv5 gv6 gv7 gv8 gv9 gv10 gv11 gv12 gv13 gv14 gv15 rv16) = (laws_intactInt64SS_shsh.a0_0 N (fun d0 => K (.bool (d0)) [⟨false, .hdr 2 gv4 gv5 gv6 gv7 (some gv8)⟩, ⟨false, .hdr 3 gv9 gv10 gv11 gv12 (some gv13)⟩, ⟨false, .flat 0 (.ints .i64 gv14)⟩, ⟨false, .flat 0 (.ints .i64 gv15)⟩]) x1 y2 y3 gv5 gv6 gv7 gv8 gv10 gv11 gv12 gv13 gv14 gv15 rv16) := by kernel_rfl

theorem laws_intactInt64SS_shsh.l0_eq {ρ : Type} (N : Nat) (K : AV → Heap → Option ρ) (x0 : Nat) (x1 : Nat) (y2 : Nat) (y3 : Nat) (gv4 : Nat) (gv5 : Nat) (gv6 : Nat → Nat) (gv7 : Nat → Nat) (gv8 : Nat → Nat) (gv9 : Nat) (gv10 : Nat) (gv11 : Nat → Nat) (gv12 : Nat → Nat) (gv13 : Nat → Nat) (gv14 : Nat → Int) (gv15 : Nat → Int) (rv16 : Int) :
    ∀ (m : Nat) (i17 : Int), xloop (xcode (E26 N) ents laws_intactInt64SS_shsh.kp 4 N (cL (cK (cB (cA (cB (cB (cB laws_intactInt64SS_shsh.bd))))))) 0) laws_intactInt64SS_shsh.kp 4 0 m (laws_intactInt64SS_shsh.st0 x0 x1 y2 y3 gv4 gv5 gv6 gv7 gv8 gv9 gv10 gv11 gv12 gv13 gv14 gv15 rv16 i17) (laws_intactInt64SS_shsh.k0 N K gv4 gv5 gv6 gv7 gv8 gv9 gv10 gv11 gv12 gv13 gv14 gv15) = (laws_intactInt64SS_shsh.l0 N (fun d0 => K (.bool (d0)) [⟨false, .hdr 2 gv4 gv5 gv6 gv7 (some gv8)⟩, ⟨false, .hdr 3 gv9 gv10 gv11 gv12 (some gv13)⟩, ⟨false, .flat 0 (.ints .i64 gv14)⟩, ⟨false, .flat 0 (.ints .i64 gv15)⟩]) x0 y2 gv6 gv7 gv8 gv11 gv12 gv13 gv14 gv15 ((laws_intactInt64SS_shsh.k0 N K gv4 gv5 gv6 gv7 gv8 gv9 gv10 gv11 gv12 gv13 gv14 gv15) (.exit 0) (laws_intactInt64SS_shsh.sx0_0 x0 x1 y2 y3 gv4 gv5 gv6 gv7 gv8 gv9 gv10 gv11 gv12 gv13 gv14 gv15 rv16)) m i17) := by
  intro m
  induction m with
  | zero => intros; rfl
  | succ m ih =>
    intro i17
    refine (laws_intactInt64SS_shsh.b0_eq N K (fun s => xloop (xcode (E26 N) ents laws_intactInt64SS_shsh.kp 4 N (cL (cK (cB (cA (cB (cB (cB laws_intactInt64SS_shsh.bd))))))) 0) laws_intactInt64SS_shsh.kp 4 0 m s (laws_intactInt64SS_shsh.k0 N K gv4 gv5 gv6 gv7 gv8 gv9 gv10 gv11 gv12 gv13 gv14 gv15)) x0 x1 y2 y3 gv4 gv5 gv6 gv7 gv8 gv9 gv10 gv11 gv12 gv13 gv14 gv15 rv16 i17).trans ?_
    simp only [ih]
    kernel_rfl

theorem laws_intactInt64SS_shsh.s_eq {ρ : Type} (N : Nat) (K : AV → Heap → Option ρ) (x0 : Nat) (x1 : Nat) (y2 : Nat) (y3 : Nat) (gv4 : Nat) (gv5 : Nat) (gv6 : Nat → Nat) (gv7 : Nat → Nat) (gv8 : Nat → Nat) (gv9 : Nat) (gv10 : Nat) (gv11 : Nat → Nat) (gv12 : Nat → Nat) (gv13 : Nat → Nat) (gv14 : Nat → Int) (gv15 : Nat → Int) :
    xbody (E26 N) ents laws_intactInt64SS_shsh.kp N Go.Proofs.Try.f12 laws_intactInt64SS_shsh.bd [.slice true 0 0 x0 (.exact x1) 1, .slice true 1 0 y2 (.exact y3) 1] [⟨false, .hdr 2 gv4 gv5 gv6 gv7 (some gv8)⟩, ⟨false, .hdr 3 gv9 gv10 gv11 gv12 (some gv13)⟩, ⟨false, .flat 0 (.ints .i64 gv14)⟩, ⟨false, .flat 0 (.ints .i64 gv15)⟩] K = (laws_intactInt64SS_shsh.s N (fun d0 => K (.bool (d0)) [⟨false, .hdr 2 gv4 gv5 gv6 gv7 (some gv8)⟩, ⟨false, .hdr 3 gv9 gv10 gv11 gv12 (some gv13)⟩, ⟨false, .flat 0 (.ints .i64 gv14)⟩, ⟨false, .flat 0 (.ints .i64 gv15)⟩]) (fun rv16 i17 => xloop (xcode (E26 N) ents laws_intactInt64SS_shsh.kp 4 N (cL (cK (cB (cA (cB (cB (cB laws_intactInt64SS_shsh.bd))))))) 0) laws_intactInt64SS_shsh.kp 4 0 N (laws_intactInt64SS_shsh.st0 x0 x1 y2 y3 gv4 gv5 gv6 gv7 gv8 gv9 gv10 gv11 gv12 gv13 gv14 gv15 rv16 i17) (laws_intactInt64SS_shsh.k0 N K gv4 gv5 gv6 gv7 gv8 gv9 gv10 gv11 gv12 gv13 gv14 gv15)) x0 y2) := by kernel_rfl

theorem laws_intactInt64SS_shsh.eq {ρ : Type} (N : Nat) (K : AV → Heap → Option ρ) (x0 : Nat) (x1 : Nat) (y2 : Nat) (y3 : Nat) (gv4 : Nat) (gv5 : Nat) (gv6 : Nat → Nat) (gv7 : Nat → Nat) (gv8 : Nat → Nat) (gv9 : Nat) (gv10 : Nat) (gv11 : Nat → Nat) (gv12 : Nat → Nat) (gv13 : Nat → Nat) (gv14 : Nat → Int) (gv15 : Nat → Int) :
    xbody (E26 N) ents laws_intactInt64SS_shsh.kp N Go.Proofs.Try.f12 laws_intactInt64SS_shsh.bd [.slice true 0 0 x0 (.exact x1) 1, .slice true 1 0 y2 (.exact y3) 1] [⟨false, .hdr 2 gv4 gv5 gv6 gv7 (some gv8)⟩, ⟨false, .hdr 3 gv9 gv10 gv11 gv12 (some gv13)⟩, ⟨false, .flat 0 (.ints .i64 gv14)⟩, ⟨false, .flat 0 (.ints .i64 gv15)⟩] K = (laws_intactInt64SS_shsh N (fun d0 => K (.bool (d0)) [⟨false, .hdr 2 gv4 gv5 gv6 gv7 (some gv8)⟩, ⟨false, .hdr 3 gv9 gv10 gv11 gv12 (some gv13)⟩, ⟨false, .flat 0 (.ints .i64 gv14)⟩, ⟨false, .flat 0 (.ints .i64 gv15)⟩]) x0 x1 y2 y3 gv4 gv5 gv6 gv7 gv8 gv9 gv10 gv11 gv12 gv13 gv14 gv15) := by
  refine (laws_intactInt64SS_shsh.s_eq N K x0 x1 y2 y3 gv4 gv5 gv6 gv7 gv8 gv9 gv10 gv11 gv12 gv13 gv14 gv15).trans ?_
  simp only [laws_intactInt64SS_shsh.l0_eq, laws_intactInt64SS_shsh.a0_0_eq]
  kernel_rfl

noncomputable def laws_intactInt64SS_shsh.en (N : Nat) (ρ : Type) : List AV → Heap → (AV → Heap → Option ρ) → Option ρ
  | [.slice true 0 0 x0 (.exact x1) 1, .slice true 1 0 y2 (.exact y3) 1], [⟨false, .hdr 2 gv4 gv5 gv6 gv7 (some gv8)⟩, ⟨false, .hdr 3 gv9 gv10 gv11 gv12 (some gv13)⟩, ⟨false, .flat 0 (.ints .i64 gv14)⟩, ⟨false, .flat 0 (.ints .i64 gv15)⟩], K => (laws_intactInt64SS_shsh N (fun d0 => K (.bool (d0)) [⟨false, .hdr 2 gv4 gv5 gv6 gv7 (some gv8)⟩, ⟨false, .hdr 3 gv9 gv10 gv11 gv12 (some gv13)⟩, ⟨false, .flat 0 (.ints .i64 gv14)⟩, ⟨false, .flat 0 (.ints .i64 gv15)⟩]) x0 x1 y2 y3 gv4 gv5 gv6 gv7 gv8 gv9 gv10 gv11 gv12 gv13 gv14 gv15)
  | _, _, _ => none

theorem laws_intactInt64SS_shsh.en_ok (N : Nat) (hE : EnvOk (E26 N) ents) (ρ : Type) (args : List AV) (sh : Heap) (K : AV → Heap → Option ρ) (r : ρ) (h : laws_intactInt64SS_shsh.en N ρ args sh K = some r) : ∃ v sh', K v sh' = some r ∧ FnOk (E26 N).P 12 args sh v sh' := by
  unfold laws_intactInt64SS_shsh.en at h
  split at h
  · exact fn_ok hE (kp := laws_intactInt64SS_shsh.kp) (N := N) Go.Proofs.Try.func12 (c := laws_intactInt64SS_shsh.bd) (by kernel_rfl) ((laws_intactInt64SS_shsh.eq N _ _ _ _ _ _ _ _ _ _ _ _ _ _ _ _ _).trans h)
  · cases h

noncomputable def E27 (N : Nat) : Env := (E26 N).add 12 (laws_intactInt64SS_shsh.en N)

theorem E27_ok (N : Nat) : EnvOk (E27 N) ents := Env.add_ok (E26_ok N) (laws_intactInt64SS_shsh.en_ok N (E26_ok N))
end Go.Proofs.YtiifnnokpjbapaaRR.H
