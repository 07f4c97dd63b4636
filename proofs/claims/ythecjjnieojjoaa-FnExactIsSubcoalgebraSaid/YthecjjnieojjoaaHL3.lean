/- The program computes these functions. -/
import Derived.Test.YthecjjnieojjoaaHL2
namespace Go.Proofs.Ythecjjnieojjoaa.H
set_option linter.unusedVariables false
set_option linter.unusedSimpArgs false
open Go Go.RowKit Go.Proofs.Ythecjjnieojjoaa.Hy
set_option linter.unusedVariables false
set_option maxRecDepth 100000
noncomputable def slices_IndexFunc_suhf_v2.kp : Keeps := ⟨[(0, [0, 1, 7, 8], [], [])], [(0, [], [], [])], []⟩

noncomputable def slices_IndexFunc_suhf_v2.bd : Code := bodyOf Go.Proofs.Try.f141

noncomputable def slices_IndexFunc_suhf_v2.fin {ρ : Type} (N : Nat) (K : AV → Heap → Option ρ) (gv1 : Nat) (gv2 : Nat) (gv3 : Nat → Nat) (gv4 : Nat → Nat) (gv5 : Nat → Int) (gv6 : Nat → Int) (gv7 : Nat → Int) (gv8 : Nat) (gv9 : Nat) (gv10 : Nat) (gv11 : Nat) (gv12 : Nat → Nat) (gv13 : Nat → Nat) (gv14 : Nat) (gv15 : Nat → Int) : XE → St → Option ρ := finK (E61 N) slices_IndexFunc_suhf_v2.kp.fins Go.Proofs.Try.f141 [⟨false, .hdr 2 gv1 gv2 gv3 gv4 none⟩, ⟨false, .avs [.sptr [(3, 2), (4, 1), (5, 1), (6, 1)]]⟩, ⟨false, .flat 0 (.ints .u8 gv5)⟩, ⟨false, .flat 2 (.ints .i64 gv6)⟩, ⟨false, .flat 1 (.ints .i64 gv7)⟩, ⟨false, .avs [.slice false 7 0 gv8 .unk 1]⟩, ⟨false, .avs [.slice false 8 0 gv9 .unk 1]⟩, ⟨false, .hdr 2 gv10 gv11 gv12 gv13 none⟩, ⟨false, .flat gv14 (.ints .i64 gv15)⟩] K

noncomputable def slices_IndexFunc_suhf_v2.k0 {ρ : Type} (N : Nat) (K : AV → Heap → Option ρ) (gv1 : Nat) (gv2 : Nat) (gv3 : Nat → Nat) (gv4 : Nat → Nat) (gv5 : Nat → Int) (gv6 : Nat → Int) (gv7 : Nat → Int) (gv8 : Nat) (gv9 : Nat) (gv10 : Nat) (gv11 : Nat) (gv12 : Nat → Nat) (gv13 : Nat → Nat) (gv14 : Nat) (gv15 : Nat → Int) : XE → St → Option ρ := (blockK slices_IndexFunc_suhf_v2.kp 9 0 (seqK (xcode (E61 N) ents slices_IndexFunc_suhf_v2.kp 9 N (cB (cB slices_IndexFunc_suhf_v2.bd)) 0) (slices_IndexFunc_suhf_v2.fin N K gv1 gv2 gv3 gv4 gv5 gv6 gv7 gv8 gv9 gv10 gv11 gv12 gv13 gv14 gv15)))

theorem slices_IndexFunc_suhf_v2.k0_mix {ρ : Type} (N : Nat) (K : AV → Heap → Option ρ) (gv1 : Nat) (gv2 : Nat) (gv3 : Nat → Nat) (gv4 : Nat → Nat) (gv5 : Nat → Int) (gv6 : Nat → Int) (gv7 : Nat → Int) (gv8 : Nat) (gv9 : Nat) (gv10 : Nat) (gv11 : Nat) (gv12 : Nat → Nat) (gv13 : Nat → Nat) (gv14 : Nat) (gv15 : Nat → Int) : mixK (slices_IndexFunc_suhf_v2.fin N K gv1 gv2 gv3 gv4 gv5 gv6 gv7 gv8 gv9 gv10 gv11 gv12 gv13 gv14 gv15 .ret) (slices_IndexFunc_suhf_v2.k0 N K gv1 gv2 gv3 gv4 gv5 gv6 gv7 gv8 gv9 gv10 gv11 gv12 gv13 gv14 gv15) = (slices_IndexFunc_suhf_v2.k0 N K gv1 gv2 gv3 gv4 gv5 gv6 gv7 gv8 gv9 gv10 gv11 gv12 gv13 gv14 gv15) := by
  funext e s; cases e <;> kernel_rfl

noncomputable def slices_IndexFunc_suhf_v2.st0 (s0 : Nat) (gv1 : Nat) (gv2 : Nat) (gv3 : Nat → Nat) (gv4 : Nat → Nat) (gv5 : Nat → Int) (gv6 : Nat → Int) (gv7 : Nat → Int) (gv8 : Nat) (gv9 : Nat) (gv10 : Nat) (gv11 : Nat) (gv12 : Nat → Nat) (gv13 : Nat → Nat) (gv14 : Nat) (gv15 : Nat → Int) (x16 : Int) : St := ⟨sl 19 [(0, .slice false 0 0 s0 .unk 1), (1, .fn 145 0 [[(1, 1)]]), (7, .int .i64 ((s0 : Int))), (8, .int .i64 (x16))], [⟨false, .hdr 2 gv1 gv2 gv3 gv4 none⟩, ⟨false, .avs [.sptr [(3, 2), (4, 1), (5, 1), (6, 1)]]⟩, ⟨false, .flat 0 (.ints .u8 gv5)⟩, ⟨false, .flat 2 (.ints .i64 gv6)⟩, ⟨false, .flat 1 (.ints .i64 gv7)⟩, ⟨false, .avs [.slice false 7 0 gv8 .unk 1]⟩, ⟨false, .avs [.slice false 8 0 gv9 .unk 1]⟩, ⟨false, .hdr 2 gv10 gv11 gv12 gv13 none⟩, ⟨false, .flat gv14 (.ints .i64 gv15)⟩]⟩

noncomputable def slices_IndexFunc_suhf_v2.sx0_0 (gv1 : Nat) (gv2 : Nat) (gv3 : Nat → Nat) (gv4 : Nat → Nat) (gv5 : Nat → Int) (gv6 : Nat → Int) (gv7 : Nat → Int) (gv8 : Nat) (gv9 : Nat) (gv10 : Nat) (gv11 : Nat) (gv12 : Nat → Nat) (gv13 : Nat → Nat) (gv14 : Nat) (gv15 : Nat → Int) : St := ⟨sl 19 [], [⟨false, .hdr 2 gv1 gv2 gv3 gv4 none⟩, ⟨false, .avs [.sptr [(3, 2), (4, 1), (5, 1), (6, 1)]]⟩, ⟨false, .flat 0 (.ints .u8 gv5)⟩, ⟨false, .flat 2 (.ints .i64 gv6)⟩, ⟨false, .flat 1 (.ints .i64 gv7)⟩, ⟨false, .avs [.slice false 7 0 gv8 .unk 1]⟩, ⟨false, .avs [.slice false 8 0 gv9 .unk 1]⟩, ⟨false, .hdr 2 gv10 gv11 gv12 gv13 none⟩, ⟨false, .flat gv14 (.ints .i64 gv15)⟩]⟩

theorem slices_IndexFunc_suhf_v2.b0_gen {ρ : Type} (N : Nat) (K : AV → Heap → Option ρ) (L0 : St → Option ρ) (kv : XE → St → Option ρ) (s0 : Nat) (gv1 : Nat) (gv2 : Nat) (gv3 : Nat → Nat) (gv4 : Nat → Nat) (gv5 : Nat → Int) (gv6 : Nat → Int) (gv7 : Nat → Int) (gv8 : Nat) (gv9 : Nat) (gv10 : Nat) (gv11 : Nat) (gv12 : Nat → Nat) (gv13 : Nat → Nat) (gv14 : Nat) (gv15 : Nat → Int) (x16 : Int) :
    xcode (E61 N) ents slices_IndexFunc_suhf_v2.kp 9 N (cL (cK (cB (cA (cB slices_IndexFunc_suhf_v2.bd))))) 0 (slices_IndexFunc_suhf_v2.st0 s0 gv1 gv2 gv3 gv4 gv5 gv6 gv7 gv8 gv9 gv10 gv11 gv12 gv13 gv14 gv15 x16) (roundK slices_IndexFunc_suhf_v2.kp 9 0 L0 (mixK (slices_IndexFunc_suhf_v2.fin N K gv1 gv2 gv3 gv4 gv5 gv6 gv7 gv8 gv9 gv10 gv11 gv12 gv13 gv14 gv15 .ret) kv)) = (slices_IndexFunc_suhf_v2.b0 N (fun d0 => K (.int .i64 (d0)) [⟨false, .hdr 2 gv1 gv2 gv3 gv4 none⟩, ⟨false, .avs [.sptr [(3, 2), (4, 1), (5, 1), (6, 1)]]⟩, ⟨false, .flat 0 (.ints .u8 gv5)⟩, ⟨false, .flat 2 (.ints .i64 gv6)⟩, ⟨false, .flat 1 (.ints .i64 gv7)⟩, ⟨false, .avs [.slice false 7 0 gv8 .unk 1]⟩, ⟨false, .avs [.slice false 8 0 gv9 .unk 1]⟩, ⟨false, .hdr 2 gv10 gv11 gv12 gv13 none⟩, ⟨false, .flat gv14 (.ints .i64 gv15)⟩]) (fun x16 => L0 (slices_IndexFunc_suhf_v2.st0 s0 gv1 gv2 gv3 gv4 gv5 gv6 gv7 gv8 gv9 gv10 gv11 gv12 gv13 gv14 gv15 x16)) (kv (.exit 0) (slices_IndexFunc_suhf_v2.sx0_0 gv1 gv2 gv3 gv4 gv5 gv6 gv7 gv8 gv9 gv10 gv11 gv12 gv13 gv14 gv15)) s0 gv3 gv4 gv5 gv6 gv7 gv8 gv9 gv11 gv12 gv13 gv15 x16) := by kernel_rfl

theorem slices_IndexFunc_suhf_v2.b0_eq {ρ : Type} (N : Nat) (K : AV → Heap → Option ρ) (L0 : St → Option ρ) (s0 : Nat) (gv1 : Nat) (gv2 : Nat) (gv3 : Nat → Nat) (gv4 : Nat → Nat) (gv5 : Nat → Int) (gv6 : Nat → Int) (gv7 : Nat → Int) (gv8 : Nat) (gv9 : Nat) (gv10 : Nat) (gv11 : Nat) (gv12 : Nat → Nat) (gv13 : Nat → Nat) (gv14 : Nat) (gv15 : Nat → Int) (x16 : Int) :
    xcode (E61 N) ents slices_IndexFunc_suhf_v2.kp 9 N (cL (cK (cB (cA (cB slices_IndexFunc_suhf_v2.bd))))) 0 (slices_IndexFunc_suhf_v2.st0 s0 gv1 gv2 gv3 gv4 gv5 gv6 gv7 gv8 gv9 gv10 gv11 gv12 gv13 gv14 gv15 x16) (roundK slices_IndexFunc_suhf_v2.kp 9 0 L0 (slices_IndexFunc_suhf_v2.k0 N K gv1 gv2 gv3 gv4 gv5 gv6 gv7 gv8 gv9 gv10 gv11 gv12 gv13 gv14 gv15)) = (slices_IndexFunc_suhf_v2.b0 N (fun d0 => K (.int .i64 (d0)) [⟨false, .hdr 2 gv1 gv2 gv3 gv4 none⟩, ⟨false, .avs [.sptr [(3, 2), (4, 1), (5, 1), (6, 1)]]⟩, ⟨false, .flat 0 (.ints .u8 gv5)⟩, ⟨false, .flat 2 (.ints .i64 gv6)⟩, ⟨false, .flat 1 (.ints .i64 gv7)⟩, ⟨false, .avs [.slice false 7 0 gv8 .unk 1]⟩, ⟨false, .avs [.slice false 8 0 gv9 .unk 1]⟩, ⟨false, .hdr 2 gv10 gv11 gv12 gv13 none⟩, ⟨false, .flat gv14 (.ints .i64 gv15)⟩]) (fun x16 => L0 (slices_IndexFunc_suhf_v2.st0 s0 gv1 gv2 gv3 gv4 gv5 gv6 gv7 gv8 gv9 gv10 gv11 gv12 gv13 gv14 gv15 x16)) ((slices_IndexFunc_suhf_v2.k0 N K gv1 gv2 gv3 gv4 gv5 gv6 gv7 gv8 gv9 gv10 gv11 gv12 gv13 gv14 gv15) (.exit 0) (slices_IndexFunc_suhf_v2.sx0_0 gv1 gv2 gv3 gv4 gv5 gv6 gv7 gv8 gv9 gv10 gv11 gv12 gv13 gv14 gv15)) s0 gv3 gv4 gv5 gv6 gv7 gv8 gv9 gv11 gv12 gv13 gv15 x16) := by
  have h := slices_IndexFunc_suhf_v2.b0_gen N K L0 (slices_IndexFunc_suhf_v2.k0 N K gv1 gv2 gv3 gv4 gv5 gv6 gv7 gv8 gv9 gv10 gv11 gv12 gv13 gv14 gv15) s0 gv1 gv2 gv3 gv4 gv5 gv6 gv7 gv8 gv9 gv10 gv11 gv12 gv13 gv14 gv15 x16
  rw [slices_IndexFunc_suhf_v2.k0_mix] at h
  exact h

theorem slices_IndexFunc_suhf_v2.a0_0_eq {ρ : Type} (N : Nat) (K : AV → Heap → Option ρ) (gv1 : Nat) (gv2 : Nat) (gv3 : Nat → Nat) (gv4 : Nat → Nat) (gv5 : Nat → Int) (gv6 : Nat → Int) (gv7 : Nat → Int) (gv8 : Nat) (gv9 : Nat) (gv10 : Nat) (gv11 : Nat) (gv12 : Nat → Nat) (gv13 : Nat → Nat) (gv14 : Nat) (gv15 : Nat → Int) :
    (slices_IndexFunc_suhf_v2.k0 N K gv1 gv2 gv3 gv4 gv5 gv6 gv7 gv8 gv9 gv10 gv11 gv12 gv13 gv14 gv15) (.exit 0) (slices_IndexFunc_suhf_v2.sx0_0 gv1 gv2 gv3 gv4 gv5 gv6 gv7 gv8 gv9 gv10 gv11 gv12 gv13 gv14 gv15) = (slices_IndexFunc_suhf_v2.a0_0 N (fun d0 => K (.int .i64 (d0)) [⟨false, .hdr 2 gv1 gv2 gv3 gv4 none⟩, ⟨false, .avs [.sptr [(3, 2), (4, 1), (5, 1), (6, 1)]]⟩, ⟨false, .flat 0 (.ints .u8 gv5)⟩, ⟨false, .flat 2 (.ints .i64 gv6)⟩, ⟨false, .flat 1 (.ints .i64 gv7)⟩, ⟨false, .avs [.slice false 7 0 gv8 .unk 1]⟩, ⟨false, .avs [.slice false 8 0 gv9 .unk 1]⟩, ⟨false, .hdr 2 gv10 gv11 gv12 gv13 none⟩, ⟨false, .flat gv14 (.ints .i64 gv15)⟩])) := by kernel_rfl

theorem slices_IndexFunc_suhf_v2.l0_eq {ρ : Type} (N : Nat) (K : AV → Heap → Option ρ) (s0 : Nat) (gv1 : Nat) (gv2 : Nat) (gv3 : Nat → Nat) (gv4 : Nat → Nat) (gv5 : Nat → Int) (gv6 : Nat → Int) (gv7 : Nat → Int) (gv8 : Nat) (gv9 : Nat) (gv10 : Nat) (gv11 : Nat) (gv12 : Nat → Nat) (gv13 : Nat → Nat) (gv14 : Nat) (gv15 : Nat → Int) :
    ∀ (m : Nat) (x16 : Int), xloop (xcode (E61 N) ents slices_IndexFunc_suhf_v2.kp 9 N (cL (cK (cB (cA (cB slices_IndexFunc_suhf_v2.bd))))) 0) slices_IndexFunc_suhf_v2.kp 9 0 m (slices_IndexFunc_suhf_v2.st0 s0 gv1 gv2 gv3 gv4 gv5 gv6 gv7 gv8 gv9 gv10 gv11 gv12 gv13 gv14 gv15 x16) (slices_IndexFunc_suhf_v2.k0 N K gv1 gv2 gv3 gv4 gv5 gv6 gv7 gv8 gv9 gv10 gv11 gv12 gv13 gv14 gv15) = (slices_IndexFunc_suhf_v2.l0 N (fun d0 => K (.int .i64 (d0)) [⟨false, .hdr 2 gv1 gv2 gv3 gv4 none⟩, ⟨false, .avs [.sptr [(3, 2), (4, 1), (5, 1), (6, 1)]]⟩, ⟨false, .flat 0 (.ints .u8 gv5)⟩, ⟨false, .flat 2 (.ints .i64 gv6)⟩, ⟨false, .flat 1 (.ints .i64 gv7)⟩, ⟨false, .avs [.slice false 7 0 gv8 .unk 1]⟩, ⟨false, .avs [.slice false 8 0 gv9 .unk 1]⟩, ⟨false, .hdr 2 gv10 gv11 gv12 gv13 none⟩, ⟨false, .flat gv14 (.ints .i64 gv15)⟩]) s0 gv3 gv4 gv5 gv6 gv7 gv8 gv9 gv11 gv12 gv13 gv15 ((slices_IndexFunc_suhf_v2.k0 N K gv1 gv2 gv3 gv4 gv5 gv6 gv7 gv8 gv9 gv10 gv11 gv12 gv13 gv14 gv15) (.exit 0) (slices_IndexFunc_suhf_v2.sx0_0 gv1 gv2 gv3 gv4 gv5 gv6 gv7 gv8 gv9 gv10 gv11 gv12 gv13 gv14 gv15)) m x16) := by
  intro m
  induction m with
  | zero => intros; rfl
  | succ m ih =>
    intro x16
    refine (slices_IndexFunc_suhf_v2.b0_eq N K (fun s => xloop (xcode (E61 N) ents slices_IndexFunc_suhf_v2.kp 9 N (cL (cK (cB (cA (cB slices_IndexFunc_suhf_v2.bd))))) 0) slices_IndexFunc_suhf_v2.kp 9 0 m s (slices_IndexFunc_suhf_v2.k0 N K gv1 gv2 gv3 gv4 gv5 gv6 gv7 gv8 gv9 gv10 gv11 gv12 gv13 gv14 gv15)) s0 gv1 gv2 gv3 gv4 gv5 gv6 gv7 gv8 gv9 gv10 gv11 gv12 gv13 gv14 gv15 x16).trans ?_
    simp only [ih]
    kernel_rfl

theorem slices_IndexFunc_suhf_v2.s_eq {ρ : Type} (N : Nat) (K : AV → Heap → Option ρ) (s0 : Nat) (gv1 : Nat) (gv2 : Nat) (gv3 : Nat → Nat) (gv4 : Nat → Nat) (gv5 : Nat → Int) (gv6 : Nat → Int) (gv7 : Nat → Int) (gv8 : Nat) (gv9 : Nat) (gv10 : Nat) (gv11 : Nat) (gv12 : Nat → Nat) (gv13 : Nat → Nat) (gv14 : Nat) (gv15 : Nat → Int) :
    xbody (E61 N) ents slices_IndexFunc_suhf_v2.kp N Go.Proofs.Try.f141 slices_IndexFunc_suhf_v2.bd [.slice false 0 0 s0 .unk 1, .fn 145 0 [[(1, 1)]]] [⟨false, .hdr 2 gv1 gv2 gv3 gv4 none⟩, ⟨false, .avs [.sptr [(3, 2), (4, 1), (5, 1), (6, 1)]]⟩, ⟨false, .flat 0 (.ints .u8 gv5)⟩, ⟨false, .flat 2 (.ints .i64 gv6)⟩, ⟨false, .flat 1 (.ints .i64 gv7)⟩, ⟨false, .avs [.slice false 7 0 gv8 .unk 1]⟩, ⟨false, .avs [.slice false 8 0 gv9 .unk 1]⟩, ⟨false, .hdr 2 gv10 gv11 gv12 gv13 none⟩, ⟨false, .flat gv14 (.ints .i64 gv15)⟩] K = (slices_IndexFunc_suhf_v2.s N (fun d0 => K (.int .i64 (d0)) [⟨false, .hdr 2 gv1 gv2 gv3 gv4 none⟩, ⟨false, .avs [.sptr [(3, 2), (4, 1), (5, 1), (6, 1)]]⟩, ⟨false, .flat 0 (.ints .u8 gv5)⟩, ⟨false, .flat 2 (.ints .i64 gv6)⟩, ⟨false, .flat 1 (.ints .i64 gv7)⟩, ⟨false, .avs [.slice false 7 0 gv8 .unk 1]⟩, ⟨false, .avs [.slice false 8 0 gv9 .unk 1]⟩, ⟨false, .hdr 2 gv10 gv11 gv12 gv13 none⟩, ⟨false, .flat gv14 (.ints .i64 gv15)⟩]) (fun x16 => xloop (xcode (E61 N) ents slices_IndexFunc_suhf_v2.kp 9 N (cL (cK (cB (cA (cB slices_IndexFunc_suhf_v2.bd))))) 0) slices_IndexFunc_suhf_v2.kp 9 0 N (slices_IndexFunc_suhf_v2.st0 s0 gv1 gv2 gv3 gv4 gv5 gv6 gv7 gv8 gv9 gv10 gv11 gv12 gv13 gv14 gv15 x16) (slices_IndexFunc_suhf_v2.k0 N K gv1 gv2 gv3 gv4 gv5 gv6 gv7 gv8 gv9 gv10 gv11 gv12 gv13 gv14 gv15))) := by kernel_rfl

theorem slices_IndexFunc_suhf_v2.eq {ρ : Type} (N : Nat) (K : AV → Heap → Option ρ) (s0 : Nat) (gv1 : Nat) (gv2 : Nat) (gv3 : Nat → Nat) (gv4 : Nat → Nat) (gv5 : Nat → Int) (gv6 : Nat → Int) (gv7 : Nat → Int) (gv8 : Nat) (gv9 : Nat) (gv10 : Nat) (gv11 : Nat) (gv12 : Nat → Nat) (gv13 : Nat → Nat) (gv14 : Nat) (gv15 : Nat → Int) :
    xbody (E61 N) ents slices_IndexFunc_suhf_v2.kp N Go.Proofs.Try.f141 slices_IndexFunc_suhf_v2.bd [.slice false 0 0 s0 .unk 1, .fn 145 0 [[(1, 1)]]] [⟨false, .hdr 2 gv1 gv2 gv3 gv4 none⟩, ⟨false, .avs [.sptr [(3, 2), (4, 1), (5, 1), (6, 1)]]⟩, ⟨false, .flat 0 (.ints .u8 gv5)⟩, ⟨false, .flat 2 (.ints .i64 gv6)⟩, ⟨false, .flat 1 (.ints .i64 gv7)⟩, ⟨false, .avs [.slice false 7 0 gv8 .unk 1]⟩, ⟨false, .avs [.slice false 8 0 gv9 .unk 1]⟩, ⟨false, .hdr 2 gv10 gv11 gv12 gv13 none⟩, ⟨false, .flat gv14 (.ints .i64 gv15)⟩] K = (slices_IndexFunc_suhf_v2 N (fun d0 => K (.int .i64 (d0)) [⟨false, .hdr 2 gv1 gv2 gv3 gv4 none⟩, ⟨false, .avs [.sptr [(3, 2), (4, 1), (5, 1), (6, 1)]]⟩, ⟨false, .flat 0 (.ints .u8 gv5)⟩, ⟨false, .flat 2 (.ints .i64 gv6)⟩, ⟨false, .flat 1 (.ints .i64 gv7)⟩, ⟨false, .avs [.slice false 7 0 gv8 .unk 1]⟩, ⟨false, .avs [.slice false 8 0 gv9 .unk 1]⟩, ⟨false, .hdr 2 gv10 gv11 gv12 gv13 none⟩, ⟨false, .flat gv14 (.ints .i64 gv15)⟩]) s0 gv1 gv2 gv3 gv4 gv5 gv6 gv7 gv8 gv9 gv10 gv11 gv12 gv13 gv14 gv15) := by
  refine (slices_IndexFunc_suhf_v2.s_eq N K s0 gv1 gv2 gv3 gv4 gv5 gv6 gv7 gv8 gv9 gv10 gv11 gv12 gv13 gv14 gv15).trans ?_
  simp only [slices_IndexFunc_suhf_v2.l0_eq, slices_IndexFunc_suhf_v2.a0_0_eq]
  kernel_rfl

noncomputable def slices_IndexFunc_nf_v2.kp : Keeps := ⟨[(0, [0, 1, 7, 8], [], [])], [(0, [], [], [])], []⟩

noncomputable def slices_IndexFunc_nf_v2.bd : Code := bodyOf Go.Proofs.Try.f141

noncomputable def slices_IndexFunc_nf_v2.fin {ρ : Type} (N : Nat) (K : AV → Heap → Option ρ) (gv0 : Nat → Int) (gv1 : Nat → Int) : XE → St → Option ρ := finK (E61 N) slices_IndexFunc_nf_v2.kp.fins Go.Proofs.Try.f141 [⟨false, .avs [.sptr [(1, 2), (2, 1), (3, 1), (4, 1)]]⟩, ⟨false, .flat 2 (.ints .i64 gv0)⟩, ⟨false, .flat 1 (.ints .i64 gv1)⟩, ⟨false, .avs [.nils]⟩, ⟨false, .avs [.nils]⟩] K

noncomputable def slices_IndexFunc_nf_v2.k0 {ρ : Type} (N : Nat) (K : AV → Heap → Option ρ) (gv0 : Nat → Int) (gv1 : Nat → Int) : XE → St → Option ρ := (blockK slices_IndexFunc_nf_v2.kp 5 0 (seqK (xcode (E61 N) ents slices_IndexFunc_nf_v2.kp 5 N (cB (cB slices_IndexFunc_nf_v2.bd)) 0) (slices_IndexFunc_nf_v2.fin N K gv0 gv1)))

theorem slices_IndexFunc_nf_v2.k0_mix {ρ : Type} (N : Nat) (K : AV → Heap → Option ρ) (gv0 : Nat → Int) (gv1 : Nat → Int) : mixK (slices_IndexFunc_nf_v2.fin N K gv0 gv1 .ret) (slices_IndexFunc_nf_v2.k0 N K gv0 gv1) = (slices_IndexFunc_nf_v2.k0 N K gv0 gv1) := by
  funext e s; cases e <;> kernel_rfl

noncomputable def slices_IndexFunc_nf_v2.st0 (gv0 : Nat → Int) (gv1 : Nat → Int) : St := ⟨sl 19 [(0, .nils), (1, .fn 145 0 [[(0, 1)]]), (7, .int .i64 0), (8, .int .i64 0)], [⟨false, .avs [.sptr [(1, 2), (2, 1), (3, 1), (4, 1)]]⟩, ⟨false, .flat 2 (.ints .i64 gv0)⟩, ⟨false, .flat 1 (.ints .i64 gv1)⟩, ⟨false, .avs [.nils]⟩, ⟨false, .avs [.nils]⟩]⟩

noncomputable def slices_IndexFunc_nf_v2.sx0_0 (gv0 : Nat → Int) (gv1 : Nat → Int) : St := ⟨sl 19 [], [⟨false, .avs [.sptr [(1, 2), (2, 1), (3, 1), (4, 1)]]⟩, ⟨false, .flat 2 (.ints .i64 gv0)⟩, ⟨false, .flat 1 (.ints .i64 gv1)⟩, ⟨false, .avs [.nils]⟩, ⟨false, .avs [.nils]⟩]⟩

theorem slices_IndexFunc_nf_v2.b0_gen {ρ : Type} (N : Nat) (K : AV → Heap → Option ρ) (L0 : St → Option ρ) (kv : XE → St → Option ρ) (gv0 : Nat → Int) (gv1 : Nat → Int) :
    xcode (E61 N) ents slices_IndexFunc_nf_v2.kp 5 N (cL (cK (cB (cA (cB slices_IndexFunc_nf_v2.bd))))) 0 (slices_IndexFunc_nf_v2.st0 gv0 gv1) (roundK slices_IndexFunc_nf_v2.kp 5 0 L0 (mixK (slices_IndexFunc_nf_v2.fin N K gv0 gv1 .ret) kv)) = (slices_IndexFunc_nf_v2.b0 N (fun d0 => K (.int .i64 (d0)) [⟨false, .avs [.sptr [(1, 2), (2, 1), (3, 1), (4, 1)]]⟩, ⟨false, .flat 2 (.ints .i64 gv0)⟩, ⟨false, .flat 1 (.ints .i64 gv1)⟩, ⟨false, .avs [.nils]⟩, ⟨false, .avs [.nils]⟩]) (L0 (slices_IndexFunc_nf_v2.st0 gv0 gv1)) (kv (.exit 0) (slices_IndexFunc_nf_v2.sx0_0 gv0 gv1))) := by kernel_rfl

theorem slices_IndexFunc_nf_v2.b0_eq {ρ : Type} (N : Nat) (K : AV → Heap → Option ρ) (L0 : St → Option ρ) (gv0 : Nat → Int) (gv1 : Nat → Int) :
    xcode (E61 N) ents slices_IndexFunc_nf_v2.kp 5 N (cL (cK (cB (cA (cB slices_IndexFunc_nf_v2.bd))))) 0 (slices_IndexFunc_nf_v2.st0 gv0 gv1) (roundK slices_IndexFunc_nf_v2.kp 5 0 L0 (slices_IndexFunc_nf_v2.k0 N K gv0 gv1)) = (slices_IndexFunc_nf_v2.b0 N (fun d0 => K (.int .i64 (d0)) [⟨false, .avs [.sptr [(1, 2), (2, 1), (3, 1), (4, 1)]]⟩, ⟨false, .flat 2 (.ints .i64 gv0)⟩, ⟨false, .flat 1 (.ints .i64 gv1)⟩, ⟨false, .avs [.nils]⟩, ⟨false, .avs [.nils]⟩]) (L0 (slices_IndexFunc_nf_v2.st0 gv0 gv1)) ((slices_IndexFunc_nf_v2.k0 N K gv0 gv1) (.exit 0) (slices_IndexFunc_nf_v2.sx0_0 gv0 gv1))) := by
  have h := slices_IndexFunc_nf_v2.b0_gen N K L0 (slices_IndexFunc_nf_v2.k0 N K gv0 gv1) gv0 gv1
  rw [slices_IndexFunc_nf_v2.k0_mix] at h
  exact h

theorem slices_IndexFunc_nf_v2.a0_0_eq {ρ : Type} (N : Nat) (K : AV → Heap → Option ρ) (gv0 : Nat → Int) (gv1 : Nat → Int) :
    (slices_IndexFunc_nf_v2.k0 N K gv0 gv1) (.exit 0) (slices_IndexFunc_nf_v2.sx0_0 gv0 gv1) = (slices_IndexFunc_nf_v2.a0_0 N (fun d0 => K (.int .i64 (d0)) [⟨false, .avs [.sptr [(1, 2), (2, 1), (3, 1), (4, 1)]]⟩, ⟨false, .flat 2 (.ints .i64 gv0)⟩, ⟨false, .flat 1 (.ints .i64 gv1)⟩, ⟨false, .avs [.nils]⟩, ⟨false, .avs [.nils]⟩])) := by kernel_rfl

theorem slices_IndexFunc_nf_v2.l0_eq {ρ : Type} (N : Nat) (K : AV → Heap → Option ρ) (gv0 : Nat → Int) (gv1 : Nat → Int) :
    ∀ (m : Nat), xloop (xcode (E61 N) ents slices_IndexFunc_nf_v2.kp 5 N (cL (cK (cB (cA (cB slices_IndexFunc_nf_v2.bd))))) 0) slices_IndexFunc_nf_v2.kp 5 0 m (slices_IndexFunc_nf_v2.st0 gv0 gv1) (slices_IndexFunc_nf_v2.k0 N K gv0 gv1) = (slices_IndexFunc_nf_v2.l0 N (fun d0 => K (.int .i64 (d0)) [⟨false, .avs [.sptr [(1, 2), (2, 1), (3, 1), (4, 1)]]⟩, ⟨false, .flat 2 (.ints .i64 gv0)⟩, ⟨false, .flat 1 (.ints .i64 gv1)⟩, ⟨false, .avs [.nils]⟩, ⟨false, .avs [.nils]⟩]) ((slices_IndexFunc_nf_v2.k0 N K gv0 gv1) (.exit 0) (slices_IndexFunc_nf_v2.sx0_0 gv0 gv1)) m) := by
  intro m
  induction m with
  | zero => intros; rfl
  | succ m ih =>
    refine (slices_IndexFunc_nf_v2.b0_eq N K (fun s => xloop (xcode (E61 N) ents slices_IndexFunc_nf_v2.kp 5 N (cL (cK (cB (cA (cB slices_IndexFunc_nf_v2.bd))))) 0) slices_IndexFunc_nf_v2.kp 5 0 m s (slices_IndexFunc_nf_v2.k0 N K gv0 gv1)) gv0 gv1).trans ?_
    simp only [ih]
    kernel_rfl

theorem slices_IndexFunc_nf_v2.s_eq {ρ : Type} (N : Nat) (K : AV → Heap → Option ρ) (gv0 : Nat → Int) (gv1 : Nat → Int) :
    xbody (E61 N) ents slices_IndexFunc_nf_v2.kp N Go.Proofs.Try.f141 slices_IndexFunc_nf_v2.bd [.nils, .fn 145 0 [[(0, 1)]]] [⟨false, .avs [.sptr [(1, 2), (2, 1), (3, 1), (4, 1)]]⟩, ⟨false, .flat 2 (.ints .i64 gv0)⟩, ⟨false, .flat 1 (.ints .i64 gv1)⟩, ⟨false, .avs [.nils]⟩, ⟨false, .avs [.nils]⟩] K = (slices_IndexFunc_nf_v2.s N (fun d0 => K (.int .i64 (d0)) [⟨false, .avs [.sptr [(1, 2), (2, 1), (3, 1), (4, 1)]]⟩, ⟨false, .flat 2 (.ints .i64 gv0)⟩, ⟨false, .flat 1 (.ints .i64 gv1)⟩, ⟨false, .avs [.nils]⟩, ⟨false, .avs [.nils]⟩]) (xloop (xcode (E61 N) ents slices_IndexFunc_nf_v2.kp 5 N (cL (cK (cB (cA (cB slices_IndexFunc_nf_v2.bd))))) 0) slices_IndexFunc_nf_v2.kp 5 0 N (slices_IndexFunc_nf_v2.st0 gv0 gv1) (slices_IndexFunc_nf_v2.k0 N K gv0 gv1))) := by kernel_rfl

theorem slices_IndexFunc_nf_v2.eq {ρ : Type} (N : Nat) (K : AV → Heap → Option ρ) (gv0 : Nat → Int) (gv1 : Nat → Int) :
    xbody (E61 N) ents slices_IndexFunc_nf_v2.kp N Go.Proofs.Try.f141 slices_IndexFunc_nf_v2.bd [.nils, .fn 145 0 [[(0, 1)]]] [⟨false, .avs [.sptr [(1, 2), (2, 1), (3, 1), (4, 1)]]⟩, ⟨false, .flat 2 (.ints .i64 gv0)⟩, ⟨false, .flat 1 (.ints .i64 gv1)⟩, ⟨false, .avs [.nils]⟩, ⟨false, .avs [.nils]⟩] K = (slices_IndexFunc_nf_v2 N (fun d0 => K (.int .i64 (d0)) [⟨false, .avs [.sptr [(1, 2), (2, 1), (3, 1), (4, 1)]]⟩, ⟨false, .flat 2 (.ints .i64 gv0)⟩, ⟨false, .flat 1 (.ints .i64 gv1)⟩, ⟨false, .avs [.nils]⟩, ⟨false, .avs [.nils]⟩]) gv0 gv1) := by
  refine (slices_IndexFunc_nf_v2.s_eq N K gv0 gv1).trans ?_
  simp only [slices_IndexFunc_nf_v2.l0_eq, slices_IndexFunc_nf_v2.a0_0_eq]
  kernel_rfl

noncomputable def slices_IndexFunc_suhf.en (N : Nat) (ρ : Type) : List AV → Heap → (AV → Heap → Option ρ) → Option ρ
  | [.slice false 0 0 s0 .unk 1, .fn 142 0 [[(1, 1)]]], [⟨false, .hdr 2 gv1 gv2 gv3 gv4 none⟩, ⟨false, .flat 1 (.ints .i64 gv5)⟩, ⟨false, .flat 0 (.ints .u8 gv6)⟩], K => (slices_IndexFunc_suhf N (fun d0 => K (.int .i64 (d0)) [⟨false, .hdr 2 gv1 gv2 gv3 gv4 none⟩, ⟨false, .flat 1 (.ints .i64 gv5)⟩, ⟨false, .flat 0 (.ints .u8 gv6)⟩]) s0 gv1 gv2 gv3 gv4 gv5 gv6)
  | [.slice false 0 0 s0 .unk 1, .fn 145 0 [[(1, 1)]]], [⟨false, .hdr 2 gv1 gv2 gv3 gv4 none⟩, ⟨false, .avs [.sptr [(3, 2), (4, 1), (5, 1), (6, 1)]]⟩, ⟨false, .flat 0 (.ints .u8 gv5)⟩, ⟨false, .flat 2 (.ints .i64 gv6)⟩, ⟨false, .flat 1 (.ints .i64 gv7)⟩, ⟨false, .avs [.slice false 7 0 gv8 .unk 1]⟩, ⟨false, .avs [.slice false 8 0 gv9 .unk 1]⟩, ⟨false, .hdr 2 gv10 gv11 gv12 gv13 none⟩, ⟨false, .flat gv14 (.ints .i64 gv15)⟩], K => (slices_IndexFunc_suhf_v2 N (fun d0 => K (.int .i64 (d0)) [⟨false, .hdr 2 gv1 gv2 gv3 gv4 none⟩, ⟨false, .avs [.sptr [(3, 2), (4, 1), (5, 1), (6, 1)]]⟩, ⟨false, .flat 0 (.ints .u8 gv5)⟩, ⟨false, .flat 2 (.ints .i64 gv6)⟩, ⟨false, .flat 1 (.ints .i64 gv7)⟩, ⟨false, .avs [.slice false 7 0 gv8 .unk 1]⟩, ⟨false, .avs [.slice false 8 0 gv9 .unk 1]⟩, ⟨false, .hdr 2 gv10 gv11 gv12 gv13 none⟩, ⟨false, .flat gv14 (.ints .i64 gv15)⟩]) s0 gv1 gv2 gv3 gv4 gv5 gv6 gv7 gv8 gv9 gv10 gv11 gv12 gv13 gv14 gv15)
  | [.nils, .fn 145 0 [[(0, 1)]]], [⟨false, .avs [.sptr [(1, 2), (2, 1), (3, 1), (4, 1)]]⟩, ⟨false, .flat 2 (.ints .i64 gv0)⟩, ⟨false, .flat 1 (.ints .i64 gv1)⟩, ⟨false, .avs [.nils]⟩, ⟨false, .avs [.nils]⟩], K => (slices_IndexFunc_nf_v2 N (fun d0 => K (.int .i64 (d0)) [⟨false, .avs [.sptr [(1, 2), (2, 1), (3, 1), (4, 1)]]⟩, ⟨false, .flat 2 (.ints .i64 gv0)⟩, ⟨false, .flat 1 (.ints .i64 gv1)⟩, ⟨false, .avs [.nils]⟩, ⟨false, .avs [.nils]⟩]) gv0 gv1)
  | _, _, _ => none

theorem slices_IndexFunc_suhf.en_ok (N : Nat) (hE : EnvOk (E61 N) ents) (ρ : Type) (args : List AV) (sh : Heap) (K : AV → Heap → Option ρ) (r : ρ) (h : slices_IndexFunc_suhf.en N ρ args sh K = some r) : ∃ v sh', K v sh' = some r ∧ FnOk (E61 N).P 141 args sh v sh' := by
  unfold slices_IndexFunc_suhf.en at h
  split at h
  · exact fn_ok hE (kp := slices_IndexFunc_suhf.kp) (N := N) Go.Proofs.Try.func141 (c := slices_IndexFunc_suhf.bd) (by kernel_rfl) ((slices_IndexFunc_suhf.eq N _ _ _ _ _ _ _ _).trans h)
  · exact fn_ok hE (kp := slices_IndexFunc_suhf_v2.kp) (N := N) Go.Proofs.Try.func141 (c := slices_IndexFunc_suhf_v2.bd) (by kernel_rfl) ((slices_IndexFunc_suhf_v2.eq N _ _ _ _ _ _ _ _ _ _ _ _ _ _ _ _ _).trans h)
  · exact fn_ok hE (kp := slices_IndexFunc_nf_v2.kp) (N := N) Go.Proofs.Try.func141 (c := slices_IndexFunc_nf_v2.bd) (by kernel_rfl) ((slices_IndexFunc_nf_v2.eq N _ _ _).trans h)
  · cases h

noncomputable def E62 (N : Nat) : Env := (E61 N).add 141 (slices_IndexFunc_suhf.en N)

theorem E62_ok (N : Nat) : EnvOk (E62 N) ents := Env.add_ok (E61_ok N) (slices_IndexFunc_suhf.en_ok N (E61_ok N))

noncomputable def impl_field_inverse.kp : Keeps := ⟨[(0, [1, 2, 5], [], [])], [(0, [2], [], [])], []⟩

noncomputable def impl_field_inverse.bd : Code := bodyOf Go.Proofs.Try.f150

noncomputable def impl_field_inverse.fin {ρ : Type} (N : Nat) (K : AV → Heap → Option ρ) : XE → St → Option ρ := finK (E62 N) impl_field_inverse.kp.fins Go.Proofs.Try.f150 [] K

noncomputable def impl_field_inverse.k0 {ρ : Type} (N : Nat) (K : AV → Heap → Option ρ) : XE → St → Option ρ := (blockK impl_field_inverse.kp 0 0 (seqK (xcode (E62 N) ents impl_field_inverse.kp 0 N (cB (cB impl_field_inverse.bd)) 0) (impl_field_inverse.fin N K)))

theorem impl_field_inverse.k0_mix {ρ : Type} (N : Nat) (K : AV → Heap → Option ρ) : mixK (impl_field_inverse.fin N K .ret) (impl_field_inverse.k0 N K) = (impl_field_inverse.k0 N K) := by
  funext e s; cases e <;> kernel_rfl

noncomputable def impl_field_inverse.st0 (f0 : Nat → Int) (x1 : Int) (k2 : Int) : St := ⟨sl 24 [(1, .int .u8 (x1)), (2, .sptr [(0, 2)]), (5, .int .i64 (k2))], [⟨true, .flat 2 (.ints .i64 f0)⟩]⟩

noncomputable def impl_field_inverse.sx0_0 (f0 : Nat → Int) : St := ⟨sl 24 [(2, .sptr [(0, 2)])], [⟨true, .flat 2 (.ints .i64 f0)⟩]⟩

theorem impl_field_inverse.b0_gen {ρ : Type} (N : Nat) (K : AV → Heap → Option ρ) (L0 : St → Option ρ) (kv : XE → St → Option ρ) (f0 : Nat → Int) (x1 : Int) (k2 : Int) :
    xcode (E62 N) ents impl_field_inverse.kp 0 N (cL (cK (cB (cA (cB impl_field_inverse.bd))))) 0 (impl_field_inverse.st0 f0 x1 k2) (roundK impl_field_inverse.kp 0 0 L0 (mixK (impl_field_inverse.fin N K .ret) kv)) = (impl_field_inverse.b0 N (fun d0 => K (.int .i64 (d0)) []) (fun k2 => L0 (impl_field_inverse.st0 f0 x1 k2)) (kv (.exit 0) (impl_field_inverse.sx0_0 f0)) f0 x1 k2) := by kernel_rfl

theorem impl_field_inverse.b0_eq {ρ : Type} (N : Nat) (K : AV → Heap → Option ρ) (L0 : St → Option ρ) (f0 : Nat → Int) (x1 : Int) (k2 : Int) :
    xcode (E62 N) ents impl_field_inverse.kp 0 N (cL (cK (cB (cA (cB impl_field_inverse.bd))))) 0 (impl_field_inverse.st0 f0 x1 k2) (roundK impl_field_inverse.kp 0 0 L0 (impl_field_inverse.k0 N K)) = (impl_field_inverse.b0 N (fun d0 => K (.int .i64 (d0)) []) (fun k2 => L0 (impl_field_inverse.st0 f0 x1 k2)) ((impl_field_inverse.k0 N K) (.exit 0) (impl_field_inverse.sx0_0 f0)) f0 x1 k2) := by
  have h := impl_field_inverse.b0_gen N K L0 (impl_field_inverse.k0 N K) f0 x1 k2
  rw [impl_field_inverse.k0_mix] at h
  exact h

theorem impl_field_inverse.a0_0_eq {ρ : Type} (N : Nat) (K : AV → Heap → Option ρ) (f0 : Nat → Int) :
    (impl_field_inverse.k0 N K) (.exit 0) (impl_field_inverse.sx0_0 f0) = (impl_field_inverse.a0_0 N (fun d0 => K (.int .i64 (d0)) []) f0) := by kernel_rfl

theorem impl_field_inverse.l0_eq {ρ : Type} (N : Nat) (K : AV → Heap → Option ρ) (f0 : Nat → Int) (x1 : Int) :
    ∀ (m : Nat) (k2 : Int), xloop (xcode (E62 N) ents impl_field_inverse.kp 0 N (cL (cK (cB (cA (cB impl_field_inverse.bd))))) 0) impl_field_inverse.kp 0 0 m (impl_field_inverse.st0 f0 x1 k2) (impl_field_inverse.k0 N K) = (impl_field_inverse.l0 N (fun d0 => K (.int .i64 (d0)) []) f0 x1 ((impl_field_inverse.k0 N K) (.exit 0) (impl_field_inverse.sx0_0 f0)) m k2) := by
  intro m
  induction m with
  | zero => intros; rfl
  | succ m ih =>
    intro k2
    refine (impl_field_inverse.b0_eq N K (fun s => xloop (xcode (E62 N) ents impl_field_inverse.kp 0 N (cL (cK (cB (cA (cB impl_field_inverse.bd))))) 0) impl_field_inverse.kp 0 0 m s (impl_field_inverse.k0 N K)) f0 x1 k2).trans ?_
    simp only [ih]
    kernel_rfl

theorem impl_field_inverse.s_eq {ρ : Type} (N : Nat) (K : AV → Heap → Option ρ) (f0 : Nat → Int) (x1 : Int) :
    xbody (E62 N) ents impl_field_inverse.kp N Go.Proofs.Try.f150 impl_field_inverse.bd [.agg [⟨.i64, 2, f0⟩], .int .u8 (x1)] [] K = (impl_field_inverse.s N (fun d0 => K (.int .i64 (d0)) []) (fun k2 => xloop (xcode (E62 N) ents impl_field_inverse.kp 0 N (cL (cK (cB (cA (cB impl_field_inverse.bd))))) 0) impl_field_inverse.kp 0 0 N (impl_field_inverse.st0 f0 x1 k2) (impl_field_inverse.k0 N K))) := by kernel_rfl

theorem impl_field_inverse.eq {ρ : Type} (N : Nat) (K : AV → Heap → Option ρ) (f0 : Nat → Int) (x1 : Int) :
    xbody (E62 N) ents impl_field_inverse.kp N Go.Proofs.Try.f150 impl_field_inverse.bd [.agg [⟨.i64, 2, f0⟩], .int .u8 (x1)] [] K = (impl_field_inverse N (fun d0 => K (.int .i64 (d0)) []) f0 x1) := by
  refine (impl_field_inverse.s_eq N K f0 x1).trans ?_
  simp only [impl_field_inverse.l0_eq, impl_field_inverse.a0_0_eq]
  kernel_rfl

noncomputable def impl_field_inverse.en (N : Nat) (ρ : Type) : List AV → Heap → (AV → Heap → Option ρ) → Option ρ
  | [.agg [⟨.i64, 2, f0⟩], .int .u8 (x1)], [], K => (impl_field_inverse N (fun d0 => K (.int .i64 (d0)) []) f0 x1)
  | _, _, _ => none

theorem impl_field_inverse.en_ok (N : Nat) (hE : EnvOk (E62 N) ents) (ρ : Type) (args : List AV) (sh : Heap) (K : AV → Heap → Option ρ) (r : ρ) (h : impl_field_inverse.en N ρ args sh K = some r) : ∃ v sh', K v sh' = some r ∧ FnOk (E62 N).P 150 args sh v sh' := by
  unfold impl_field_inverse.en at h
  split at h
  · exact fn_ok hE (kp := impl_field_inverse.kp) (N := N) Go.Proofs.Try.func150 (c := impl_field_inverse.bd) (by kernel_rfl) ((impl_field_inverse.eq N _ _ _).trans h)
  · cases h

noncomputable def E63 (N : Nat) : Env := (E62 N).add 150 (impl_field_inverse.en N)

theorem E63_ok (N : Nat) : EnvOk (E63 N) ents := Env.add_ok (E62_ok N) (impl_field_inverse.en_ok N (E62_ok N))

noncomputable def impl_system_clear_v2.kp : Keeps := ⟨[(0, [0, 1, 2, 6, 7, 31, 32, 33], [], []), (2, [0, 1, 2, 6, 54, 55, 56], [], []), (4, [0, 1, 2, 6, 11, 12, 54, 55, 56, 76, 77, 78], [], [])], [(0, [0, 1, 2, 6], [], []), (2, [], [], []), (4, [0, 1, 2, 6, 54, 55, 56], [], [])], []⟩

noncomputable def impl_system_clear_v2.bd : Code := bodyOf Go.Proofs.Try.f143

noncomputable def impl_system_clear_v2.fin {ρ : Type} (N : Nat) (K : AV → Heap → Option ρ) (gv2 : Nat → Int) (gv3 : Nat → Int) (gv4 : Nat) (gv5 : Nat) (gv6 : Nat) (gv7 : Nat) (gv8 : Nat → Nat) (gv9 : Nat → Nat) (gv10 : Nat → Int) (gv11 : Nat → Int) : XE → St → Option ρ := finK (E63 N) impl_system_clear_v2.kp.fins Go.Proofs.Try.f143 [⟨false, .flat 2 (.ints .i64 gv2)⟩, ⟨false, .flat 1 (.ints .i64 gv3)⟩, ⟨false, .avs [.slice false 4 0 gv4 .unk 1]⟩, ⟨false, .avs [.slice false 5 0 gv5 .whole 1]⟩, ⟨false, .hdr 6 gv6 gv7 gv8 gv9 none⟩, ⟨true, .flat 0 (.ints .i64 gv10)⟩, ⟨true, .flat 0 (.ints .u8 gv11)⟩] K

noncomputable def impl_system_clear_v2.k0 {ρ : Type} (N : Nat) (K : AV → Heap → Option ρ) (gv2 : Nat → Int) (gv3 : Nat → Int) (gv4 : Nat) (gv5 : Nat) (gv6 : Nat) (gv7 : Nat) (gv8 : Nat → Nat) (gv9 : Nat → Nat) (gv10 : Nat → Int) (gv11 : Nat → Int) : XE → St → Option ρ := (blockK impl_system_clear_v2.kp 7 0 (seqK (xcode (E63 N) ents impl_system_clear_v2.kp 7 N (cB (cB (cB impl_system_clear_v2.bd))) 0) (impl_system_clear_v2.fin N K gv2 gv3 gv4 gv5 gv6 gv7 gv8 gv9 gv10 gv11)))

theorem impl_system_clear_v2.k0_mix {ρ : Type} (N : Nat) (K : AV → Heap → Option ρ) (gv2 : Nat → Int) (gv3 : Nat → Int) (gv4 : Nat) (gv5 : Nat) (gv6 : Nat) (gv7 : Nat) (gv8 : Nat → Nat) (gv9 : Nat → Nat) (gv10 : Nat → Int) (gv11 : Nat → Int) : mixK (impl_system_clear_v2.fin N K gv2 gv3 gv4 gv5 gv6 gv7 gv8 gv9 gv10 gv11 .ret) (impl_system_clear_v2.k0 N K gv2 gv3 gv4 gv5 gv6 gv7 gv8 gv9 gv10 gv11) = (impl_system_clear_v2.k0 N K gv2 gv3 gv4 gv5 gv6 gv7 gv8 gv9 gv10 gv11) := by
  funext e s; cases e <;> kernel_rfl

noncomputable def impl_system_clear_v2.st0 (at0 : Int) (c1 : Int) (gv2 : Nat → Int) (gv3 : Nat → Int) (gv4 : Nat) (gv5 : Nat) (gv6 : Nat) (gv7 : Nat) (gv8 : Nat → Nat) (gv9 : Nat → Nat) (gv10 : Nat → Int) (rv12 : Int) (x13 : Int) (gv14 : Nat → Int) : St := ⟨sl 103 [(0, .sptr [(0, 2), (1, 1), (2, 1), (3, 1)]), (1, .int .i64 (at0)), (2, .int .i64 (c1)), (6, .slice false 6 (gv8 (0 + (at0.toNat * 1))) (gv9 (0 + (at0.toNat * 1))) .unk 1), (7, .int .i64 (rv12)), (31, .slice false 6 (gv8 (0 + (at0.toNat * 1))) (gv9 (0 + (at0.toNat * 1))) .unk 1), (32, .int .i64 ((((gv9 (0 + (at0.toNat * 1))) : Nat) : Int))), (33, .int .i64 (x13))], [⟨false, .flat 2 (.ints .i64 gv2)⟩, ⟨false, .flat 1 (.ints .i64 gv3)⟩, ⟨false, .avs [.slice false 4 0 gv4 .unk 1]⟩, ⟨false, .avs [.slice false 5 0 gv5 .whole 1]⟩, ⟨false, .hdr 6 gv6 gv7 gv8 gv9 none⟩, ⟨true, .flat 0 (.ints .i64 gv10)⟩, ⟨true, .flat 0 (.ints .u8 gv14)⟩]⟩

noncomputable def impl_system_clear_v2.sx0_0 (at0 : Int) (c1 : Int) (gv2 : Nat → Int) (gv3 : Nat → Int) (gv4 : Nat) (gv5 : Nat) (gv6 : Nat) (gv7 : Nat) (gv8 : Nat → Nat) (gv9 : Nat → Nat) (gv10 : Nat → Int) (ov16 : Nat → Int) : St := ⟨sl 103 [(0, .sptr [(0, 2), (1, 1), (2, 1), (3, 1)]), (1, .int .i64 (at0)), (2, .int .i64 (c1)), (6, .slice false 6 (gv8 (0 + (at0.toNat * 1))) (gv9 (0 + (at0.toNat * 1))) .unk 1)], [⟨false, .flat 2 (.ints .i64 gv2)⟩, ⟨false, .flat 1 (.ints .i64 gv3)⟩, ⟨false, .avs [.slice false 4 0 gv4 .unk 1]⟩, ⟨false, .avs [.slice false 5 0 gv5 .whole 1]⟩, ⟨false, .hdr 6 gv6 gv7 gv8 gv9 none⟩, ⟨true, .flat 0 (.ints .i64 gv10)⟩, ⟨true, .flat 0 (.ints .u8 ov16)⟩]⟩

noncomputable def impl_system_clear_v2.k1 {ρ : Type} (N : Nat) (K : AV → Heap → Option ρ) (gv2 : Nat → Int) (gv3 : Nat → Int) (gv4 : Nat) (gv5 : Nat) (gv6 : Nat) (gv7 : Nat) (gv8 : Nat → Nat) (gv9 : Nat → Nat) (gv10 : Nat → Int) (gv11 : Nat → Int) : XE → St → Option ρ := (blockK impl_system_clear_v2.kp 7 2 (impl_system_clear_v2.fin N K gv2 gv3 gv4 gv5 gv6 gv7 gv8 gv9 gv10 gv11))

theorem impl_system_clear_v2.k1_mix {ρ : Type} (N : Nat) (K : AV → Heap → Option ρ) (gv2 : Nat → Int) (gv3 : Nat → Int) (gv4 : Nat) (gv5 : Nat) (gv6 : Nat) (gv7 : Nat) (gv8 : Nat → Nat) (gv9 : Nat → Nat) (gv10 : Nat → Int) (gv11 : Nat → Int) : mixK (impl_system_clear_v2.fin N K gv2 gv3 gv4 gv5 gv6 gv7 gv8 gv9 gv10 gv11 .ret) (impl_system_clear_v2.k1 N K gv2 gv3 gv4 gv5 gv6 gv7 gv8 gv9 gv10 gv11) = (impl_system_clear_v2.k1 N K gv2 gv3 gv4 gv5 gv6 gv7 gv8 gv9 gv10 gv11) := by
  funext e s; cases e <;> kernel_rfl

noncomputable def impl_system_clear_v2.st1 (at0 : Int) (c1 : Int) (gv2 : Nat → Int) (gv3 : Nat → Int) (gv4 : Nat) (gv5 : Nat) (gv6 : Nat) (gv7 : Nat) (gv8 : Nat → Nat) (gv9 : Nat → Nat) (gv10 : Nat → Int) (x17 : Int) (gv18 : Nat → Int) : St := ⟨sl 103 [(0, .sptr [(0, 2), (1, 1), (2, 1), (3, 1)]), (1, .int .i64 (at0)), (2, .int .i64 (c1)), (6, .slice false 6 (gv8 (0 + (at0.toNat * 1))) (gv9 (0 + (at0.toNat * 1))) .unk 1), (54, .slice false 4 0 gv4 .unk 1), (55, .int .i64 ((gv4 : Int))), (56, .int .i64 (x17))], [⟨false, .flat 2 (.ints .i64 gv2)⟩, ⟨false, .flat 1 (.ints .i64 gv3)⟩, ⟨false, .avs [.slice false 4 0 gv4 .unk 1]⟩, ⟨false, .avs [.slice false 5 0 gv5 .whole 1]⟩, ⟨false, .hdr 6 gv6 gv7 gv8 gv9 none⟩, ⟨true, .flat 0 (.ints .i64 gv10)⟩, ⟨true, .flat 0 (.ints .u8 gv18)⟩]⟩

noncomputable def impl_system_clear_v2.sx1_0 (gv2 : Nat → Int) (gv3 : Nat → Int) (gv4 : Nat) (gv5 : Nat) (gv6 : Nat) (gv7 : Nat) (gv8 : Nat → Nat) (gv9 : Nat → Nat) (gv10 : Nat → Int) (ov23 : Nat → Int) : St := ⟨sl 103 [], [⟨false, .flat 2 (.ints .i64 gv2)⟩, ⟨false, .flat 1 (.ints .i64 gv3)⟩, ⟨false, .avs [.slice false 4 0 gv4 .unk 1]⟩, ⟨false, .avs [.slice false 5 0 gv5 .whole 1]⟩, ⟨false, .hdr 6 gv6 gv7 gv8 gv9 none⟩, ⟨true, .flat 0 (.ints .i64 gv10)⟩, ⟨true, .flat 0 (.ints .u8 ov23)⟩]⟩

noncomputable def impl_system_clear_v2.k2g {ρ : Type} (N : Nat) (L1 : St → Option ρ) (kv : XE → St → Option ρ) : XE → St → Option ρ := (blockK impl_system_clear_v2.kp 7 4 (blockK impl_system_clear_v2.kp 7 3 (seqK (xcode (E63 N) ents impl_system_clear_v2.kp 7 N (cB (cB (cB (cL (cK (cB (cB (cB (cB impl_system_clear_v2.bd))))))))) 2) (roundK impl_system_clear_v2.kp 7 2 L1 kv))))

theorem impl_system_clear_v2.k2_mix {ρ : Type} (N : Nat) (K : AV → Heap → Option ρ) (L1 : St → Option ρ) (gv2 : Nat → Int) (gv3 : Nat → Int) (gv4 : Nat) (gv5 : Nat) (gv6 : Nat) (gv7 : Nat) (gv8 : Nat → Nat) (gv9 : Nat → Nat) (gv10 : Nat → Int) (gv11 : Nat → Int) : mixK (impl_system_clear_v2.fin N K gv2 gv3 gv4 gv5 gv6 gv7 gv8 gv9 gv10 gv11 .ret) (impl_system_clear_v2.k2g N L1 (impl_system_clear_v2.k1 N K gv2 gv3 gv4 gv5 gv6 gv7 gv8 gv9 gv10 gv11)) = (impl_system_clear_v2.k2g N L1 (impl_system_clear_v2.k1 N K gv2 gv3 gv4 gv5 gv6 gv7 gv8 gv9 gv10 gv11)) := by
  funext e s; cases e <;> kernel_rfl

noncomputable def impl_system_clear_v2.st2 (at0 : Int) (c1 : Int) (gv2 : Nat → Int) (gv3 : Nat → Int) (gv4 : Nat) (gv5 : Nat) (gv6 : Nat) (gv7 : Nat) (gv8 : Nat → Nat) (gv9 : Nat → Nat) (gv10 : Nat → Int) (x17 : Int) (gv18 : Nat → Int) (x19 : Int) (gv20 : Nat → Int) : St := ⟨sl 103 [(0, .sptr [(0, 2), (1, 1), (2, 1), (3, 1)]), (1, .int .i64 (at0)), (2, .int .i64 (c1)), (6, .slice false 6 (gv8 (0 + (at0.toNat * 1))) (gv9 (0 + (at0.toNat * 1))) .unk 1), (11, .slice false 6 (gv8 (0 + (x17.toNat * 1))) (gv9 (0 + (x17.toNat * 1))) .unk 1), (12, .int .i64 ((IntKind.i64.wrap (gv18 ((gv8 (0 + (x17.toNat * 1))) + (c1.toNat * 1)))))), (54, .slice false 4 0 gv4 .unk 1), (55, .int .i64 ((gv4 : Int))), (56, .int .i64 (x17)), (76, .slice false 6 (gv8 (0 + (at0.toNat * 1))) (gv9 (0 + (at0.toNat * 1))) .unk 1), (77, .int .i64 ((((gv9 (0 + (at0.toNat * 1))) : Nat) : Int))), (78, .int .i64 (x19))], [⟨false, .flat 2 (.ints .i64 gv2)⟩, ⟨false, .flat 1 (.ints .i64 gv3)⟩, ⟨false, .avs [.slice false 4 0 gv4 .unk 1]⟩, ⟨false, .avs [.slice false 5 0 gv5 .whole 1]⟩, ⟨false, .hdr 6 gv6 gv7 gv8 gv9 none⟩, ⟨true, .flat 0 (.ints .i64 gv10)⟩, ⟨true, .flat 0 (.ints .u8 gv20)⟩]⟩

noncomputable def impl_system_clear_v2.sx2_0 (at0 : Int) (c1 : Int) (gv2 : Nat → Int) (gv3 : Nat → Int) (gv4 : Nat) (gv5 : Nat) (gv6 : Nat) (gv7 : Nat) (gv8 : Nat → Nat) (gv9 : Nat → Nat) (gv10 : Nat → Int) (x17 : Int) (ov22 : Nat → Int) : St := ⟨sl 103 [(0, .sptr [(0, 2), (1, 1), (2, 1), (3, 1)]), (1, .int .i64 (at0)), (2, .int .i64 (c1)), (6, .slice false 6 (gv8 (0 + (at0.toNat * 1))) (gv9 (0 + (at0.toNat * 1))) .unk 1), (54, .slice false 4 0 gv4 .unk 1), (55, .int .i64 ((gv4 : Int))), (56, .int .i64 (x17))], [⟨false, .flat 2 (.ints .i64 gv2)⟩, ⟨false, .flat 1 (.ints .i64 gv3)⟩, ⟨false, .avs [.slice false 4 0 gv4 .unk 1]⟩, ⟨false, .avs [.slice false 5 0 gv5 .whole 1]⟩, ⟨false, .hdr 6 gv6 gv7 gv8 gv9 none⟩, ⟨true, .flat 0 (.ints .i64 gv10)⟩, ⟨true, .flat 0 (.ints .u8 ov22)⟩]⟩

theorem impl_system_clear_v2.b2_gen {ρ : Type} (N : Nat) (K : AV → Heap → Option ρ) (L2 : St → Option ρ) (kv : XE → St → Option ρ) (at0 : Int) (c1 : Int) (gv2 : Nat → Int) (gv3 : Nat → Int) (gv4 : Nat) (gv5 : Nat) (gv6 : Nat) (gv7 : Nat) (gv8 : Nat → Nat) (gv9 : Nat → Nat) (gv10 : Nat → Int) (gv11 : Nat → Int) (x17 : Int) (gv18 : Nat → Int) (x19 : Int) (gv20 : Nat → Int) :
    xcode (E63 N) ents impl_system_clear_v2.kp 7 N (cL (cK (cB (cB (cB (cB (cK (cA (cB (cB (cL (cK (cB (cB (cB (cB impl_system_clear_v2.bd)))))))))))))))) 4 (impl_system_clear_v2.st2 at0 c1 gv2 gv3 gv4 gv5 gv6 gv7 gv8 gv9 gv10 x17 gv18 x19 gv20) (roundK impl_system_clear_v2.kp 7 4 L2 (mixK (impl_system_clear_v2.fin N K gv2 gv3 gv4 gv5 gv6 gv7 gv8 gv9 gv10 gv11 .ret) kv)) = (impl_system_clear_v2.b2 N (fun d0 d1 => K (.tup []) [⟨false, .flat 2 (.ints .i64 gv2)⟩, ⟨false, .flat 1 (.ints .i64 gv3)⟩, ⟨false, .avs [.slice false 4 0 gv4 .unk 1]⟩, ⟨false, .avs [.slice false 5 0 gv5 .whole 1]⟩, ⟨false, .hdr 6 gv6 gv7 gv8 gv9 none⟩, ⟨true, .flat 0 (.ints .i64 d0)⟩, ⟨true, .flat 0 (.ints .u8 d1)⟩]) (fun x19 gv20 => L2 (impl_system_clear_v2.st2 at0 c1 gv2 gv3 gv4 gv5 gv6 gv7 gv8 gv9 gv10 x17 gv18 x19 gv20)) (fun ov22 => kv (.exit 4) (impl_system_clear_v2.sx2_0 at0 c1 gv2 gv3 gv4 gv5 gv6 gv7 gv8 gv9 gv10 x17 ov22)) at0 c1 gv2 gv8 gv9 x17 gv18 x19 gv20) := by kernel_rfl

theorem impl_system_clear_v2.b2_eq {ρ : Type} (N : Nat) (K : AV → Heap → Option ρ) (L1 : St → Option ρ) (L2 : St → Option ρ) (at0 : Int) (c1 : Int) (gv2 : Nat → Int) (gv3 : Nat → Int) (gv4 : Nat) (gv5 : Nat) (gv6 : Nat) (gv7 : Nat) (gv8 : Nat → Nat) (gv9 : Nat → Nat) (gv10 : Nat → Int) (gv11 : Nat → Int) (x17 : Int) (gv18 : Nat → Int) (x19 : Int) (gv20 : Nat → Int) :
    xcode (E63 N) ents impl_system_clear_v2.kp 7 N (cL (cK (cB (cB (cB (cB (cK (cA (cB (cB (cL (cK (cB (cB (cB (cB impl_system_clear_v2.bd)))))))))))))))) 4 (impl_system_clear_v2.st2 at0 c1 gv2 gv3 gv4 gv5 gv6 gv7 gv8 gv9 gv10 x17 gv18 x19 gv20) (roundK impl_system_clear_v2.kp 7 4 L2 (impl_system_clear_v2.k2g N L1 (impl_system_clear_v2.k1 N K gv2 gv3 gv4 gv5 gv6 gv7 gv8 gv9 gv10 gv11))) = (impl_system_clear_v2.b2 N (fun d0 d1 => K (.tup []) [⟨false, .flat 2 (.ints .i64 gv2)⟩, ⟨false, .flat 1 (.ints .i64 gv3)⟩, ⟨false, .avs [.slice false 4 0 gv4 .unk 1]⟩, ⟨false, .avs [.slice false 5 0 gv5 .whole 1]⟩, ⟨false, .hdr 6 gv6 gv7 gv8 gv9 none⟩, ⟨true, .flat 0 (.ints .i64 d0)⟩, ⟨true, .flat 0 (.ints .u8 d1)⟩]) (fun x19 gv20 => L2 (impl_system_clear_v2.st2 at0 c1 gv2 gv3 gv4 gv5 gv6 gv7 gv8 gv9 gv10 x17 gv18 x19 gv20)) (fun ov22 => (impl_system_clear_v2.k2g N L1 (impl_system_clear_v2.k1 N K gv2 gv3 gv4 gv5 gv6 gv7 gv8 gv9 gv10 gv11)) (.exit 4) (impl_system_clear_v2.sx2_0 at0 c1 gv2 gv3 gv4 gv5 gv6 gv7 gv8 gv9 gv10 x17 ov22)) at0 c1 gv2 gv8 gv9 x17 gv18 x19 gv20) := by
  have h := impl_system_clear_v2.b2_gen N K L2 (impl_system_clear_v2.k2g N L1 (impl_system_clear_v2.k1 N K gv2 gv3 gv4 gv5 gv6 gv7 gv8 gv9 gv10 gv11)) at0 c1 gv2 gv3 gv4 gv5 gv6 gv7 gv8 gv9 gv10 gv11 x17 gv18 x19 gv20
  rw [impl_system_clear_v2.k2_mix] at h
  exact h

theorem impl_system_clear_v2.a2_0_gen {ρ : Type} (N : Nat) (K : AV → Heap → Option ρ) (L1 : St → Option ρ) (kv : XE → St → Option ρ) (at0 : Int) (c1 : Int) (gv2 : Nat → Int) (gv3 : Nat → Int) (gv4 : Nat) (gv5 : Nat) (gv6 : Nat) (gv7 : Nat) (gv8 : Nat → Nat) (gv9 : Nat → Nat) (gv10 : Nat → Int) (gv11 : Nat → Int) (x17 : Int) (ov22 : Nat → Int) :
    (impl_system_clear_v2.k2g N L1 (mixK (impl_system_clear_v2.fin N K gv2 gv3 gv4 gv5 gv6 gv7 gv8 gv9 gv10 gv11 .ret) kv)) (.exit 4) (impl_system_clear_v2.sx2_0 at0 c1 gv2 gv3 gv4 gv5 gv6 gv7 gv8 gv9 gv10 x17 ov22) = (impl_system_clear_v2.a2_0 N (fun d0 d1 => K (.tup []) [⟨false, .flat 2 (.ints .i64 gv2)⟩, ⟨false, .flat 1 (.ints .i64 gv3)⟩, ⟨false, .avs [.slice false 4 0 gv4 .unk 1]⟩, ⟨false, .avs [.slice false 5 0 gv5 .whole 1]⟩, ⟨false, .hdr 6 gv6 gv7 gv8 gv9 none⟩, ⟨true, .flat 0 (.ints .i64 d0)⟩, ⟨true, .flat 0 (.ints .u8 d1)⟩]) (fun x17 gv18 => L1 (impl_system_clear_v2.st1 at0 c1 gv2 gv3 gv4 gv5 gv6 gv7 gv8 gv9 gv10 x17 gv18)) (fun ov23 => kv (.exit 2) (impl_system_clear_v2.sx1_0 gv2 gv3 gv4 gv5 gv6 gv7 gv8 gv9 gv10 ov23)) x17 ov22) := by kernel_rfl

theorem impl_system_clear_v2.a2_0_eq {ρ : Type} (N : Nat) (K : AV → Heap → Option ρ) (L1 : St → Option ρ) (at0 : Int) (c1 : Int) (gv2 : Nat → Int) (gv3 : Nat → Int) (gv4 : Nat) (gv5 : Nat) (gv6 : Nat) (gv7 : Nat) (gv8 : Nat → Nat) (gv9 : Nat → Nat) (gv10 : Nat → Int) (gv11 : Nat → Int) (x17 : Int) (ov22 : Nat → Int) :
    (impl_system_clear_v2.k2g N L1 (impl_system_clear_v2.k1 N K gv2 gv3 gv4 gv5 gv6 gv7 gv8 gv9 gv10 gv11)) (.exit 4) (impl_system_clear_v2.sx2_0 at0 c1 gv2 gv3 gv4 gv5 gv6 gv7 gv8 gv9 gv10 x17 ov22) = (impl_system_clear_v2.a2_0 N (fun d0 d1 => K (.tup []) [⟨false, .flat 2 (.ints .i64 gv2)⟩, ⟨false, .flat 1 (.ints .i64 gv3)⟩, ⟨false, .avs [.slice false 4 0 gv4 .unk 1]⟩, ⟨false, .avs [.slice false 5 0 gv5 .whole 1]⟩, ⟨false, .hdr 6 gv6 gv7 gv8 gv9 none⟩, ⟨true, .flat 0 (.ints .i64 d0)⟩, ⟨true, .flat 0 (.ints .u8 d1)⟩]) (fun x17 gv18 => L1 (impl_system_clear_v2.st1 at0 c1 gv2 gv3 gv4 gv5 gv6 gv7 gv8 gv9 gv10 x17 gv18)) (fun ov23 => (impl_system_clear_v2.k1 N K gv2 gv3 gv4 gv5 gv6 gv7 gv8 gv9 gv10 gv11) (.exit 2) (impl_system_clear_v2.sx1_0 gv2 gv3 gv4 gv5 gv6 gv7 gv8 gv9 gv10 ov23)) x17 ov22) := by
  have h := impl_system_clear_v2.a2_0_gen N K L1 (impl_system_clear_v2.k1 N K gv2 gv3 gv4 gv5 gv6 gv7 gv8 gv9 gv10 gv11) at0 c1 gv2 gv3 gv4 gv5 gv6 gv7 gv8 gv9 gv10 gv11 x17 ov22
  rw [impl_system_clear_v2.k1_mix] at h
  exact h

theorem impl_system_clear_v2.b1_gen {ρ : Type} (N : Nat) (K : AV → Heap → Option ρ) (L1 : St → Option ρ) (kv : XE → St → Option ρ) (at0 : Int) (c1 : Int) (gv2 : Nat → Int) (gv3 : Nat → Int) (gv4 : Nat) (gv5 : Nat) (gv6 : Nat) (gv7 : Nat) (gv8 : Nat → Nat) (gv9 : Nat → Nat) (gv10 : Nat → Int) (gv11 : Nat → Int) (x17 : Int) (gv18 : Nat → Int) :
    xcode (E63 N) ents impl_system_clear_v2.kp 7 N (cL (cK (cB (cB (cB (cB impl_system_clear_v2.bd)))))) 2 (impl_system_clear_v2.st1 at0 c1 gv2 gv3 gv4 gv5 gv6 gv7 gv8 gv9 gv10 x17 gv18) (roundK impl_system_clear_v2.kp 7 2 L1 (mixK (impl_system_clear_v2.fin N K gv2 gv3 gv4 gv5 gv6 gv7 gv8 gv9 gv10 gv11 .ret) kv)) = (impl_system_clear_v2.b1 N (fun d0 d1 => K (.tup []) [⟨false, .flat 2 (.ints .i64 gv2)⟩, ⟨false, .flat 1 (.ints .i64 gv3)⟩, ⟨false, .avs [.slice false 4 0 gv4 .unk 1]⟩, ⟨false, .avs [.slice false 5 0 gv5 .whole 1]⟩, ⟨false, .hdr 6 gv6 gv7 gv8 gv9 none⟩, ⟨true, .flat 0 (.ints .i64 d0)⟩, ⟨true, .flat 0 (.ints .u8 d1)⟩]) (fun x19 gv20 => xloop (xcode (E63 N) ents impl_system_clear_v2.kp 7 N (cL (cK (cB (cB (cB (cB (cK (cA (cB (cB (cL (cK (cB (cB (cB (cB impl_system_clear_v2.bd)))))))))))))))) 4) impl_system_clear_v2.kp 7 4 N (impl_system_clear_v2.st2 at0 c1 gv2 gv3 gv4 gv5 gv6 gv7 gv8 gv9 gv10 x17 gv18 x19 gv20) (impl_system_clear_v2.k2g N L1 (mixK (impl_system_clear_v2.fin N K gv2 gv3 gv4 gv5 gv6 gv7 gv8 gv9 gv10 gv11 .ret) kv))) (fun x17 gv18 => L1 (impl_system_clear_v2.st1 at0 c1 gv2 gv3 gv4 gv5 gv6 gv7 gv8 gv9 gv10 x17 gv18)) (fun ov23 => kv (.exit 2) (impl_system_clear_v2.sx1_0 gv2 gv3 gv4 gv5 gv6 gv7 gv8 gv9 gv10 ov23)) at0 c1 gv4 gv8 gv9 x17 gv18) := by kernel_rfl

theorem impl_system_clear_v2.b1_eq {ρ : Type} (N : Nat) (K : AV → Heap → Option ρ) (L1 : St → Option ρ) (at0 : Int) (c1 : Int) (gv2 : Nat → Int) (gv3 : Nat → Int) (gv4 : Nat) (gv5 : Nat) (gv6 : Nat) (gv7 : Nat) (gv8 : Nat → Nat) (gv9 : Nat → Nat) (gv10 : Nat → Int) (gv11 : Nat → Int) (x17 : Int) (gv18 : Nat → Int) :
    xcode (E63 N) ents impl_system_clear_v2.kp 7 N (cL (cK (cB (cB (cB (cB impl_system_clear_v2.bd)))))) 2 (impl_system_clear_v2.st1 at0 c1 gv2 gv3 gv4 gv5 gv6 gv7 gv8 gv9 gv10 x17 gv18) (roundK impl_system_clear_v2.kp 7 2 L1 (impl_system_clear_v2.k1 N K gv2 gv3 gv4 gv5 gv6 gv7 gv8 gv9 gv10 gv11)) = (impl_system_clear_v2.b1 N (fun d0 d1 => K (.tup []) [⟨false, .flat 2 (.ints .i64 gv2)⟩, ⟨false, .flat 1 (.ints .i64 gv3)⟩, ⟨false, .avs [.slice false 4 0 gv4 .unk 1]⟩, ⟨false, .avs [.slice false 5 0 gv5 .whole 1]⟩, ⟨false, .hdr 6 gv6 gv7 gv8 gv9 none⟩, ⟨true, .flat 0 (.ints .i64 d0)⟩, ⟨true, .flat 0 (.ints .u8 d1)⟩]) (fun x19 gv20 => xloop (xcode (E63 N) ents impl_system_clear_v2.kp 7 N (cL (cK (cB (cB (cB (cB (cK (cA (cB (cB (cL (cK (cB (cB (cB (cB impl_system_clear_v2.bd)))))))))))))))) 4) impl_system_clear_v2.kp 7 4 N (impl_system_clear_v2.st2 at0 c1 gv2 gv3 gv4 gv5 gv6 gv7 gv8 gv9 gv10 x17 gv18 x19 gv20) (impl_system_clear_v2.k2g N L1 (impl_system_clear_v2.k1 N K gv2 gv3 gv4 gv5 gv6 gv7 gv8 gv9 gv10 gv11))) (fun x17 gv18 => L1 (impl_system_clear_v2.st1 at0 c1 gv2 gv3 gv4 gv5 gv6 gv7 gv8 gv9 gv10 x17 gv18)) (fun ov23 => (impl_system_clear_v2.k1 N K gv2 gv3 gv4 gv5 gv6 gv7 gv8 gv9 gv10 gv11) (.exit 2) (impl_system_clear_v2.sx1_0 gv2 gv3 gv4 gv5 gv6 gv7 gv8 gv9 gv10 ov23)) at0 c1 gv4 gv8 gv9 x17 gv18) := by
  have h := impl_system_clear_v2.b1_gen N K L1 (impl_system_clear_v2.k1 N K gv2 gv3 gv4 gv5 gv6 gv7 gv8 gv9 gv10 gv11) at0 c1 gv2 gv3 gv4 gv5 gv6 gv7 gv8 gv9 gv10 gv11 x17 gv18
  rw [impl_system_clear_v2.k1_mix] at h
  exact h

theorem impl_system_clear_v2.a1_0_eq {ρ : Type} (N : Nat) (K : AV → Heap → Option ρ) (gv2 : Nat → Int) (gv3 : Nat → Int) (gv4 : Nat) (gv5 : Nat) (gv6 : Nat) (gv7 : Nat) (gv8 : Nat → Nat) (gv9 : Nat → Nat) (gv10 : Nat → Int) (gv11 : Nat → Int) (ov23 : Nat → Int) :
    (impl_system_clear_v2.k1 N K gv2 gv3 gv4 gv5 gv6 gv7 gv8 gv9 gv10 gv11) (.exit 2) (impl_system_clear_v2.sx1_0 gv2 gv3 gv4 gv5 gv6 gv7 gv8 gv9 gv10 ov23) = (impl_system_clear_v2.a1_0 N (fun d0 d1 => K (.tup []) [⟨false, .flat 2 (.ints .i64 gv2)⟩, ⟨false, .flat 1 (.ints .i64 gv3)⟩, ⟨false, .avs [.slice false 4 0 gv4 .unk 1]⟩, ⟨false, .avs [.slice false 5 0 gv5 .whole 1]⟩, ⟨false, .hdr 6 gv6 gv7 gv8 gv9 none⟩, ⟨true, .flat 0 (.ints .i64 d0)⟩, ⟨true, .flat 0 (.ints .u8 d1)⟩]) gv10 ov23) := by kernel_rfl

theorem impl_system_clear_v2.b0_gen {ρ : Type} (N : Nat) (K : AV → Heap → Option ρ) (L0 : St → Option ρ) (kv : XE → St → Option ρ) (at0 : Int) (c1 : Int) (gv2 : Nat → Int) (gv3 : Nat → Int) (gv4 : Nat) (gv5 : Nat) (gv6 : Nat) (gv7 : Nat) (gv8 : Nat → Nat) (gv9 : Nat → Nat) (gv10 : Nat → Int) (gv11 : Nat → Int) (rv12 : Int) (x13 : Int) (gv14 : Nat → Int) :
    xcode (E63 N) ents impl_system_clear_v2.kp 7 N (cL (cK (cB (cA (cB (cB impl_system_clear_v2.bd)))))) 0 (impl_system_clear_v2.st0 at0 c1 gv2 gv3 gv4 gv5 gv6 gv7 gv8 gv9 gv10 rv12 x13 gv14) (roundK impl_system_clear_v2.kp 7 0 L0 (mixK (impl_system_clear_v2.fin N K gv2 gv3 gv4 gv5 gv6 gv7 gv8 gv9 gv10 gv11 .ret) kv)) = (impl_system_clear_v2.b0 N (fun d0 d1 => K (.tup []) [⟨false, .flat 2 (.ints .i64 gv2)⟩, ⟨false, .flat 1 (.ints .i64 gv3)⟩, ⟨false, .avs [.slice false 4 0 gv4 .unk 1]⟩, ⟨false, .avs [.slice false 5 0 gv5 .whole 1]⟩, ⟨false, .hdr 6 gv6 gv7 gv8 gv9 none⟩, ⟨true, .flat 0 (.ints .i64 d0)⟩, ⟨true, .flat 0 (.ints .u8 d1)⟩]) (fun x13 gv14 => L0 (impl_system_clear_v2.st0 at0 c1 gv2 gv3 gv4 gv5 gv6 gv7 gv8 gv9 gv10 rv12 x13 gv14)) (fun ov16 => kv (.exit 0) (impl_system_clear_v2.sx0_0 at0 c1 gv2 gv3 gv4 gv5 gv6 gv7 gv8 gv9 gv10 ov16)) at0 gv2 gv8 gv9 rv12 x13 gv14) := by kernel_rfl

theorem impl_system_clear_v2.b0_eq {ρ : Type} (N : Nat) (K : AV → Heap → Option ρ) (L0 : St → Option ρ) (at0 : Int) (c1 : Int) (gv2 : Nat → Int) (gv3 : Nat → Int) (gv4 : Nat) (gv5 : Nat) (gv6 : Nat) (gv7 : Nat) (gv8 : Nat → Nat) (gv9 : Nat → Nat) (gv10 : Nat → Int) (gv11 : Nat → Int) (rv12 : Int) (x13 : Int) (gv14 : Nat → Int) :
    xcode (E63 N) ents impl_system_clear_v2.kp 7 N (cL (cK (cB (cA (cB (cB impl_system_clear_v2.bd)))))) 0 (impl_system_clear_v2.st0 at0 c1 gv2 gv3 gv4 gv5 gv6 gv7 gv8 gv9 gv10 rv12 x13 gv14) (roundK impl_system_clear_v2.kp 7 0 L0 (impl_system_clear_v2.k0 N K gv2 gv3 gv4 gv5 gv6 gv7 gv8 gv9 gv10 gv11)) = (impl_system_clear_v2.b0 N (fun d0 d1 => K (.tup []) [⟨false, .flat 2 (.ints .i64 gv2)⟩, ⟨false, .flat 1 (.ints .i64 gv3)⟩, ⟨false, .avs [.slice false 4 0 gv4 .unk 1]⟩, ⟨false, .avs [.slice false 5 0 gv5 .whole 1]⟩, ⟨false, .hdr 6 gv6 gv7 gv8 gv9 none⟩, ⟨true, .flat 0 (.ints .i64 d0)⟩, ⟨true, .flat 0 (.ints .u8 d1)⟩]) (fun x13 gv14 => L0 (impl_system_clear_v2.st0 at0 c1 gv2 gv3 gv4 gv5 gv6 gv7 gv8 gv9 gv10 rv12 x13 gv14)) (fun ov16 => (impl_system_clear_v2.k0 N K gv2 gv3 gv4 gv5 gv6 gv7 gv8 gv9 gv10 gv11) (.exit 0) (impl_system_clear_v2.sx0_0 at0 c1 gv2 gv3 gv4 gv5 gv6 gv7 gv8 gv9 gv10 ov16)) at0 gv2 gv8 gv9 rv12 x13 gv14) := by
  have h := impl_system_clear_v2.b0_gen N K L0 (impl_system_clear_v2.k0 N K gv2 gv3 gv4 gv5 gv6 gv7 gv8 gv9 gv10 gv11) at0 c1 gv2 gv3 gv4 gv5 gv6 gv7 gv8 gv9 gv10 gv11 rv12 x13 gv14
  rw [impl_system_clear_v2.k0_mix] at h
  exact h

theorem impl_system_clear_v2.a0_0_eq {ρ : Type} (N : Nat) (K : AV → Heap → Option ρ) (at0 : Int) (c1 : Int) (gv2 : Nat → Int) (gv3 : Nat → Int) (gv4 : Nat) (gv5 : Nat) (gv6 : Nat) (gv7 : Nat) (gv8 : Nat → Nat) (gv9 : Nat → Nat) (gv10 : Nat → Int) (gv11 : Nat → Int) (ov16 : Nat → Int) :
    (impl_system_clear_v2.k0 N K gv2 gv3 gv4 gv5 gv6 gv7 gv8 gv9 gv10 gv11) (.exit 0) (impl_system_clear_v2.sx0_0 at0 c1 gv2 gv3 gv4 gv5 gv6 gv7 gv8 gv9 gv10 ov16) = (impl_system_clear_v2.a0_0 N (fun d0 d1 => K (.tup []) [⟨false, .flat 2 (.ints .i64 gv2)⟩, ⟨false, .flat 1 (.ints .i64 gv3)⟩, ⟨false, .avs [.slice false 4 0 gv4 .unk 1]⟩, ⟨false, .avs [.slice false 5 0 gv5 .whole 1]⟩, ⟨false, .hdr 6 gv6 gv7 gv8 gv9 none⟩, ⟨true, .flat 0 (.ints .i64 d0)⟩, ⟨true, .flat 0 (.ints .u8 d1)⟩]) (fun x17 gv18 => xloop (xcode (E63 N) ents impl_system_clear_v2.kp 7 N (cL (cK (cB (cB (cB (cB impl_system_clear_v2.bd)))))) 2) impl_system_clear_v2.kp 7 2 N (impl_system_clear_v2.st1 at0 c1 gv2 gv3 gv4 gv5 gv6 gv7 gv8 gv9 gv10 x17 gv18) (impl_system_clear_v2.k1 N K gv2 gv3 gv4 gv5 gv6 gv7 gv8 gv9 gv10 gv11)) ov16) := by kernel_rfl

theorem impl_system_clear_v2.l2_eq {ρ : Type} (N : Nat) (K : AV → Heap → Option ρ) (L1 : St → Option ρ) (at0 : Int) (c1 : Int) (gv2 : Nat → Int) (gv3 : Nat → Int) (gv4 : Nat) (gv5 : Nat) (gv6 : Nat) (gv7 : Nat) (gv8 : Nat → Nat) (gv9 : Nat → Nat) (gv10 : Nat → Int) (gv11 : Nat → Int) (x17 : Int) (gv18 : Nat → Int) :
    ∀ (m : Nat) (x19 : Int) (gv20 : Nat → Int), xloop (xcode (E63 N) ents impl_system_clear_v2.kp 7 N (cL (cK (cB (cB (cB (cB (cK (cA (cB (cB (cL (cK (cB (cB (cB (cB impl_system_clear_v2.bd)))))))))))))))) 4) impl_system_clear_v2.kp 7 4 m (impl_system_clear_v2.st2 at0 c1 gv2 gv3 gv4 gv5 gv6 gv7 gv8 gv9 gv10 x17 gv18 x19 gv20) (impl_system_clear_v2.k2g N L1 (impl_system_clear_v2.k1 N K gv2 gv3 gv4 gv5 gv6 gv7 gv8 gv9 gv10 gv11)) = (impl_system_clear_v2.l2 N (fun d0 d1 => K (.tup []) [⟨false, .flat 2 (.ints .i64 gv2)⟩, ⟨false, .flat 1 (.ints .i64 gv3)⟩, ⟨false, .avs [.slice false 4 0 gv4 .unk 1]⟩, ⟨false, .avs [.slice false 5 0 gv5 .whole 1]⟩, ⟨false, .hdr 6 gv6 gv7 gv8 gv9 none⟩, ⟨true, .flat 0 (.ints .i64 d0)⟩, ⟨true, .flat 0 (.ints .u8 d1)⟩]) at0 c1 gv2 gv8 gv9 x17 gv18 (fun ov22 => (impl_system_clear_v2.k2g N L1 (impl_system_clear_v2.k1 N K gv2 gv3 gv4 gv5 gv6 gv7 gv8 gv9 gv10 gv11)) (.exit 4) (impl_system_clear_v2.sx2_0 at0 c1 gv2 gv3 gv4 gv5 gv6 gv7 gv8 gv9 gv10 x17 ov22)) m x19 gv20) := by
  intro m
  induction m with
  | zero => intros; rfl
  | succ m ih =>
    intro x19 gv20
    refine (impl_system_clear_v2.b2_eq N K L1 (fun s => xloop (xcode (E63 N) ents impl_system_clear_v2.kp 7 N (cL (cK (cB (cB (cB (cB (cK (cA (cB (cB (cL (cK (cB (cB (cB (cB impl_system_clear_v2.bd)))))))))))))))) 4) impl_system_clear_v2.kp 7 4 m s (impl_system_clear_v2.k2g N L1 (impl_system_clear_v2.k1 N K gv2 gv3 gv4 gv5 gv6 gv7 gv8 gv9 gv10 gv11))) at0 c1 gv2 gv3 gv4 gv5 gv6 gv7 gv8 gv9 gv10 gv11 x17 gv18 x19 gv20).trans ?_
    simp only [ih]
    kernel_rfl

theorem impl_system_clear_v2.l1_eq {ρ : Type} (N : Nat) (K : AV → Heap → Option ρ) (at0 : Int) (c1 : Int) (gv2 : Nat → Int) (gv3 : Nat → Int) (gv4 : Nat) (gv5 : Nat) (gv6 : Nat) (gv7 : Nat) (gv8 : Nat → Nat) (gv9 : Nat → Nat) (gv10 : Nat → Int) (gv11 : Nat → Int) :
    ∀ (m : Nat) (x17 : Int) (gv18 : Nat → Int), xloop (xcode (E63 N) ents impl_system_clear_v2.kp 7 N (cL (cK (cB (cB (cB (cB impl_system_clear_v2.bd)))))) 2) impl_system_clear_v2.kp 7 2 m (impl_system_clear_v2.st1 at0 c1 gv2 gv3 gv4 gv5 gv6 gv7 gv8 gv9 gv10 x17 gv18) (impl_system_clear_v2.k1 N K gv2 gv3 gv4 gv5 gv6 gv7 gv8 gv9 gv10 gv11) = (impl_system_clear_v2.l1 N (fun d0 d1 => K (.tup []) [⟨false, .flat 2 (.ints .i64 gv2)⟩, ⟨false, .flat 1 (.ints .i64 gv3)⟩, ⟨false, .avs [.slice false 4 0 gv4 .unk 1]⟩, ⟨false, .avs [.slice false 5 0 gv5 .whole 1]⟩, ⟨false, .hdr 6 gv6 gv7 gv8 gv9 none⟩, ⟨true, .flat 0 (.ints .i64 d0)⟩, ⟨true, .flat 0 (.ints .u8 d1)⟩]) at0 c1 gv2 gv4 gv8 gv9 (fun ov23 => (impl_system_clear_v2.k1 N K gv2 gv3 gv4 gv5 gv6 gv7 gv8 gv9 gv10 gv11) (.exit 2) (impl_system_clear_v2.sx1_0 gv2 gv3 gv4 gv5 gv6 gv7 gv8 gv9 gv10 ov23)) m x17 gv18) := by
  intro m
  induction m with
  | zero => intros; rfl
  | succ m ih =>
    intro x17 gv18
    refine (impl_system_clear_v2.b1_eq N K (fun s => xloop (xcode (E63 N) ents impl_system_clear_v2.kp 7 N (cL (cK (cB (cB (cB (cB impl_system_clear_v2.bd)))))) 2) impl_system_clear_v2.kp 7 2 m s (impl_system_clear_v2.k1 N K gv2 gv3 gv4 gv5 gv6 gv7 gv8 gv9 gv10 gv11)) at0 c1 gv2 gv3 gv4 gv5 gv6 gv7 gv8 gv9 gv10 gv11 x17 gv18).trans ?_
    simp only [ih, impl_system_clear_v2.l2_eq, impl_system_clear_v2.a2_0_eq]
    kernel_rfl

theorem impl_system_clear_v2.l0_eq {ρ : Type} (N : Nat) (K : AV → Heap → Option ρ) (at0 : Int) (c1 : Int) (gv2 : Nat → Int) (gv3 : Nat → Int) (gv4 : Nat) (gv5 : Nat) (gv6 : Nat) (gv7 : Nat) (gv8 : Nat → Nat) (gv9 : Nat → Nat) (gv10 : Nat → Int) (gv11 : Nat → Int) (rv12 : Int) :
    ∀ (m : Nat) (x13 : Int) (gv14 : Nat → Int), xloop (xcode (E63 N) ents impl_system_clear_v2.kp 7 N (cL (cK (cB (cA (cB (cB impl_system_clear_v2.bd)))))) 0) impl_system_clear_v2.kp 7 0 m (impl_system_clear_v2.st0 at0 c1 gv2 gv3 gv4 gv5 gv6 gv7 gv8 gv9 gv10 rv12 x13 gv14) (impl_system_clear_v2.k0 N K gv2 gv3 gv4 gv5 gv6 gv7 gv8 gv9 gv10 gv11) = (impl_system_clear_v2.l0 N (fun d0 d1 => K (.tup []) [⟨false, .flat 2 (.ints .i64 gv2)⟩, ⟨false, .flat 1 (.ints .i64 gv3)⟩, ⟨false, .avs [.slice false 4 0 gv4 .unk 1]⟩, ⟨false, .avs [.slice false 5 0 gv5 .whole 1]⟩, ⟨false, .hdr 6 gv6 gv7 gv8 gv9 none⟩, ⟨true, .flat 0 (.ints .i64 d0)⟩, ⟨true, .flat 0 (.ints .u8 d1)⟩]) at0 gv2 gv8 gv9 rv12 (fun ov16 => (impl_system_clear_v2.k0 N K gv2 gv3 gv4 gv5 gv6 gv7 gv8 gv9 gv10 gv11) (.exit 0) (impl_system_clear_v2.sx0_0 at0 c1 gv2 gv3 gv4 gv5 gv6 gv7 gv8 gv9 gv10 ov16)) m x13 gv14) := by
  intro m
  induction m with
  | zero => intros; rfl
  | succ m ih =>
    intro x13 gv14
    refine (impl_system_clear_v2.b0_eq N K (fun s => xloop (xcode (E63 N) ents impl_system_clear_v2.kp 7 N (cL (cK (cB (cA (cB (cB impl_system_clear_v2.bd)))))) 0) impl_system_clear_v2.kp 7 0 m s (impl_system_clear_v2.k0 N K gv2 gv3 gv4 gv5 gv6 gv7 gv8 gv9 gv10 gv11)) at0 c1 gv2 gv3 gv4 gv5 gv6 gv7 gv8 gv9 gv10 gv11 rv12 x13 gv14).trans ?_
    simp only [ih]
    kernel_rfl

theorem impl_system_clear_v2.s_eq {ρ : Type} (N : Nat) (K : AV → Heap → Option ρ) (at0 : Int) (c1 : Int) (gv2 : Nat → Int) (gv3 : Nat → Int) (gv4 : Nat) (gv5 : Nat) (gv6 : Nat) (gv7 : Nat) (gv8 : Nat → Nat) (gv9 : Nat → Nat) (gv10 : Nat → Int) (gv11 : Nat → Int) :
    xbody (E63 N) ents impl_system_clear_v2.kp N Go.Proofs.Try.f143 impl_system_clear_v2.bd [.sptr [(0, 2), (1, 1), (2, 1), (3, 1)], .int .i64 (at0), .int .i64 (c1)] [⟨false, .flat 2 (.ints .i64 gv2)⟩, ⟨false, .flat 1 (.ints .i64 gv3)⟩, ⟨false, .avs [.slice false 4 0 gv4 .unk 1]⟩, ⟨false, .avs [.slice false 5 0 gv5 .whole 1]⟩, ⟨false, .hdr 6 gv6 gv7 gv8 gv9 none⟩, ⟨true, .flat 0 (.ints .i64 gv10)⟩, ⟨true, .flat 0 (.ints .u8 gv11)⟩] K = (impl_system_clear_v2.s N (fun d0 d1 => K (.tup []) [⟨false, .flat 2 (.ints .i64 gv2)⟩, ⟨false, .flat 1 (.ints .i64 gv3)⟩, ⟨false, .avs [.slice false 4 0 gv4 .unk 1]⟩, ⟨false, .avs [.slice false 5 0 gv5 .whole 1]⟩, ⟨false, .hdr 6 gv6 gv7 gv8 gv9 none⟩, ⟨true, .flat 0 (.ints .i64 d0)⟩, ⟨true, .flat 0 (.ints .u8 d1)⟩]) (fun rv12 x13 gv14 => xloop (xcode (E63 N) ents impl_system_clear_v2.kp 7 N (cL (cK (cB (cA (cB (cB impl_system_clear_v2.bd)))))) 0) impl_system_clear_v2.kp 7 0 N (impl_system_clear_v2.st0 at0 c1 gv2 gv3 gv4 gv5 gv6 gv7 gv8 gv9 gv10 rv12 x13 gv14) (impl_system_clear_v2.k0 N K gv2 gv3 gv4 gv5 gv6 gv7 gv8 gv9 gv10 gv11)) at0 c1 gv2 gv4 gv8 gv9 gv11) := by kernel_rfl

theorem impl_system_clear_v2.eq {ρ : Type} (N : Nat) (K : AV → Heap → Option ρ) (at0 : Int) (c1 : Int) (gv2 : Nat → Int) (gv3 : Nat → Int) (gv4 : Nat) (gv5 : Nat) (gv6 : Nat) (gv7 : Nat) (gv8 : Nat → Nat) (gv9 : Nat → Nat) (gv10 : Nat → Int) (gv11 : Nat → Int) :
    xbody (E63 N) ents impl_system_clear_v2.kp N Go.Proofs.Try.f143 impl_system_clear_v2.bd [.sptr [(0, 2), (1, 1), (2, 1), (3, 1)], .int .i64 (at0), .int .i64 (c1)] [⟨false, .flat 2 (.ints .i64 gv2)⟩, ⟨false, .flat 1 (.ints .i64 gv3)⟩, ⟨false, .avs [.slice false 4 0 gv4 .unk 1]⟩, ⟨false, .avs [.slice false 5 0 gv5 .whole 1]⟩, ⟨false, .hdr 6 gv6 gv7 gv8 gv9 none⟩, ⟨true, .flat 0 (.ints .i64 gv10)⟩, ⟨true, .flat 0 (.ints .u8 gv11)⟩] K = (impl_system_clear_v2 N (fun d0 d1 => K (.tup []) [⟨false, .flat 2 (.ints .i64 gv2)⟩, ⟨false, .flat 1 (.ints .i64 gv3)⟩, ⟨false, .avs [.slice false 4 0 gv4 .unk 1]⟩, ⟨false, .avs [.slice false 5 0 gv5 .whole 1]⟩, ⟨false, .hdr 6 gv6 gv7 gv8 gv9 none⟩, ⟨true, .flat 0 (.ints .i64 d0)⟩, ⟨true, .flat 0 (.ints .u8 d1)⟩]) at0 c1 gv2 gv3 gv4 gv5 gv6 gv7 gv8 gv9 gv10 gv11) := by
  refine (impl_system_clear_v2.s_eq N K at0 c1 gv2 gv3 gv4 gv5 gv6 gv7 gv8 gv9 gv10 gv11).trans ?_
  simp only [impl_system_clear_v2.l0_eq, impl_system_clear_v2.a0_0_eq, impl_system_clear_v2.l1_eq, impl_system_clear_v2.a1_0_eq]
  kernel_rfl

noncomputable def impl_system_clear_v2.en (N : Nat) (ρ : Type) : List AV → Heap → (AV → Heap → Option ρ) → Option ρ
  | [.sptr [(0, 2), (1, 1), (2, 1), (3, 1)], .int .i64 (at0), .int .i64 (c1)], [⟨false, .flat 2 (.ints .i64 gv2)⟩, ⟨false, .flat 1 (.ints .i64 gv3)⟩, ⟨false, .avs [.slice false 4 0 gv4 .unk 1]⟩, ⟨false, .avs [.slice false 5 0 gv5 .whole 1]⟩, ⟨false, .hdr 6 gv6 gv7 gv8 gv9 none⟩, ⟨true, .flat 0 (.ints .i64 gv10)⟩, ⟨true, .flat 0 (.ints .u8 gv11)⟩], K => (impl_system_clear_v2 N (fun d0 d1 => K (.tup []) [⟨false, .flat 2 (.ints .i64 gv2)⟩, ⟨false, .flat 1 (.ints .i64 gv3)⟩, ⟨false, .avs [.slice false 4 0 gv4 .unk 1]⟩, ⟨false, .avs [.slice false 5 0 gv5 .whole 1]⟩, ⟨false, .hdr 6 gv6 gv7 gv8 gv9 none⟩, ⟨true, .flat 0 (.ints .i64 d0)⟩, ⟨true, .flat 0 (.ints .u8 d1)⟩]) at0 c1 gv2 gv3 gv4 gv5 gv6 gv7 gv8 gv9 gv10 gv11)
  | _, _, _ => none

theorem impl_system_clear_v2.en_ok (N : Nat) (hE : EnvOk (E63 N) ents) (ρ : Type) (args : List AV) (sh : Heap) (K : AV → Heap → Option ρ) (r : ρ) (h : impl_system_clear_v2.en N ρ args sh K = some r) : ∃ v sh', K v sh' = some r ∧ FnOk (E63 N).P 143 args sh v sh' := by
  unfold impl_system_clear_v2.en at h
  split at h
  · exact fn_ok hE (kp := impl_system_clear_v2.kp) (N := N) Go.Proofs.Try.func143 (c := impl_system_clear_v2.bd) (by kernel_rfl) ((impl_system_clear_v2.eq N _ _ _ _ _ _ _ _ _ _ _ _ _).trans h)
  · cases h

noncomputable def E64 (N : Nat) : Env := (E63 N).add 143 (impl_system_clear_v2.en N)

theorem E64_ok (N : Nat) : EnvOk (E64 N) ents := Env.add_ok (E63_ok N) (impl_system_clear_v2.en_ok N (E63_ok N))

noncomputable def slices_ContainsFunc_suhf.kp : Keeps := ⟨[], [], []⟩

noncomputable def slices_ContainsFunc_suhf.bd : Code := bodyOf Go.Proofs.Try.f144

noncomputable def slices_ContainsFunc_suhf.fin {ρ : Type} (N : Nat) (K : AV → Heap → Option ρ) (gv1 : Nat) (gv2 : Nat) (gv3 : Nat → Nat) (gv4 : Nat → Nat) (gv5 : Nat → Int) (gv6 : Nat → Int) (gv7 : Nat → Int) (gv8 : Nat) (gv9 : Nat) (gv10 : Nat) (gv11 : Nat) (gv12 : Nat → Nat) (gv13 : Nat → Nat) (gv14 : Nat) (gv15 : Nat → Int) : XE → St → Option ρ := finK (E64 N) slices_ContainsFunc_suhf.kp.fins Go.Proofs.Try.f144 [⟨false, .hdr 2 gv1 gv2 gv3 gv4 none⟩, ⟨false, .avs [.sptr [(3, 2), (4, 1), (5, 1), (6, 1)]]⟩, ⟨false, .flat 0 (.ints .u8 gv5)⟩, ⟨false, .flat 2 (.ints .i64 gv6)⟩, ⟨false, .flat 1 (.ints .i64 gv7)⟩, ⟨false, .avs [.slice false 7 0 gv8 .unk 1]⟩, ⟨false, .avs [.slice false 8 0 gv9 .unk 1]⟩, ⟨false, .hdr 2 gv10 gv11 gv12 gv13 none⟩, ⟨false, .flat gv14 (.ints .i64 gv15)⟩] K

theorem slices_ContainsFunc_suhf.eq {ρ : Type} (N : Nat) (K : AV → Heap → Option ρ) (s0 : Nat) (gv1 : Nat) (gv2 : Nat) (gv3 : Nat → Nat) (gv4 : Nat → Nat) (gv5 : Nat → Int) (gv6 : Nat → Int) (gv7 : Nat → Int) (gv8 : Nat) (gv9 : Nat) (gv10 : Nat) (gv11 : Nat) (gv12 : Nat → Nat) (gv13 : Nat → Nat) (gv14 : Nat) (gv15 : Nat → Int) :
    xbody (E64 N) ents slices_ContainsFunc_suhf.kp N Go.Proofs.Try.f144 slices_ContainsFunc_suhf.bd [.slice false 0 0 s0 .unk 1, .fn 145 0 [[(1, 1)]]] [⟨false, .hdr 2 gv1 gv2 gv3 gv4 none⟩, ⟨false, .avs [.sptr [(3, 2), (4, 1), (5, 1), (6, 1)]]⟩, ⟨false, .flat 0 (.ints .u8 gv5)⟩, ⟨false, .flat 2 (.ints .i64 gv6)⟩, ⟨false, .flat 1 (.ints .i64 gv7)⟩, ⟨false, .avs [.slice false 7 0 gv8 .unk 1]⟩, ⟨false, .avs [.slice false 8 0 gv9 .unk 1]⟩, ⟨false, .hdr 2 gv10 gv11 gv12 gv13 none⟩, ⟨false, .flat gv14 (.ints .i64 gv15)⟩] K = (slices_ContainsFunc_suhf N (fun d0 => K (.bool (d0)) [⟨false, .hdr 2 gv1 gv2 gv3 gv4 none⟩, ⟨false, .avs [.sptr [(3, 2), (4, 1), (5, 1), (6, 1)]]⟩, ⟨false, .flat 0 (.ints .u8 gv5)⟩, ⟨false, .flat 2 (.ints .i64 gv6)⟩, ⟨false, .flat 1 (.ints .i64 gv7)⟩, ⟨false, .avs [.slice false 7 0 gv8 .unk 1]⟩, ⟨false, .avs [.slice false 8 0 gv9 .unk 1]⟩, ⟨false, .hdr 2 gv10 gv11 gv12 gv13 none⟩, ⟨false, .flat gv14 (.ints .i64 gv15)⟩]) s0 gv1 gv2 gv3 gv4 gv5 gv6 gv7 gv8 gv9 gv10 gv11 gv12 gv13 gv14 gv15) := by kernel_rfl

noncomputable def slices_ContainsFunc_nf_v2.kp : Keeps := ⟨[], [], []⟩

noncomputable def slices_ContainsFunc_nf_v2.bd : Code := bodyOf Go.Proofs.Try.f144

noncomputable def slices_ContainsFunc_nf_v2.fin {ρ : Type} (N : Nat) (K : AV → Heap → Option ρ) (gv0 : Nat → Int) (gv1 : Nat → Int) : XE → St → Option ρ := finK (E64 N) slices_ContainsFunc_nf_v2.kp.fins Go.Proofs.Try.f144 [⟨false, .avs [.sptr [(1, 2), (2, 1), (3, 1), (4, 1)]]⟩, ⟨false, .flat 2 (.ints .i64 gv0)⟩, ⟨false, .flat 1 (.ints .i64 gv1)⟩, ⟨false, .avs [.nils]⟩, ⟨false, .avs [.nils]⟩] K

theorem slices_ContainsFunc_nf_v2.eq {ρ : Type} (N : Nat) (K : AV → Heap → Option ρ) (gv0 : Nat → Int) (gv1 : Nat → Int) :
    xbody (E64 N) ents slices_ContainsFunc_nf_v2.kp N Go.Proofs.Try.f144 slices_ContainsFunc_nf_v2.bd [.nils, .fn 145 0 [[(0, 1)]]] [⟨false, .avs [.sptr [(1, 2), (2, 1), (3, 1), (4, 1)]]⟩, ⟨false, .flat 2 (.ints .i64 gv0)⟩, ⟨false, .flat 1 (.ints .i64 gv1)⟩, ⟨false, .avs [.nils]⟩, ⟨false, .avs [.nils]⟩] K = (slices_ContainsFunc_nf_v2 N (fun d0 => K (.bool (d0)) [⟨false, .avs [.sptr [(1, 2), (2, 1), (3, 1), (4, 1)]]⟩, ⟨false, .flat 2 (.ints .i64 gv0)⟩, ⟨false, .flat 1 (.ints .i64 gv1)⟩, ⟨false, .avs [.nils]⟩, ⟨false, .avs [.nils]⟩]) gv0 gv1) := by kernel_rfl

noncomputable def slices_ContainsFunc_suhf.en (N : Nat) (ρ : Type) : List AV → Heap → (AV → Heap → Option ρ) → Option ρ
  | [.slice false 0 0 s0 .unk 1, .fn 145 0 [[(1, 1)]]], [⟨false, .hdr 2 gv1 gv2 gv3 gv4 none⟩, ⟨false, .avs [.sptr [(3, 2), (4, 1), (5, 1), (6, 1)]]⟩, ⟨false, .flat 0 (.ints .u8 gv5)⟩, ⟨false, .flat 2 (.ints .i64 gv6)⟩, ⟨false, .flat 1 (.ints .i64 gv7)⟩, ⟨false, .avs [.slice false 7 0 gv8 .unk 1]⟩, ⟨false, .avs [.slice false 8 0 gv9 .unk 1]⟩, ⟨false, .hdr 2 gv10 gv11 gv12 gv13 none⟩, ⟨false, .flat gv14 (.ints .i64 gv15)⟩], K => (slices_ContainsFunc_suhf N (fun d0 => K (.bool (d0)) [⟨false, .hdr 2 gv1 gv2 gv3 gv4 none⟩, ⟨false, .avs [.sptr [(3, 2), (4, 1), (5, 1), (6, 1)]]⟩, ⟨false, .flat 0 (.ints .u8 gv5)⟩, ⟨false, .flat 2 (.ints .i64 gv6)⟩, ⟨false, .flat 1 (.ints .i64 gv7)⟩, ⟨false, .avs [.slice false 7 0 gv8 .unk 1]⟩, ⟨false, .avs [.slice false 8 0 gv9 .unk 1]⟩, ⟨false, .hdr 2 gv10 gv11 gv12 gv13 none⟩, ⟨false, .flat gv14 (.ints .i64 gv15)⟩]) s0 gv1 gv2 gv3 gv4 gv5 gv6 gv7 gv8 gv9 gv10 gv11 gv12 gv13 gv14 gv15)
  | [.nils, .fn 145 0 [[(0, 1)]]], [⟨false, .avs [.sptr [(1, 2), (2, 1), (3, 1), (4, 1)]]⟩, ⟨false, .flat 2 (.ints .i64 gv0)⟩, ⟨false, .flat 1 (.ints .i64 gv1)⟩, ⟨false, .avs [.nils]⟩, ⟨false, .avs [.nils]⟩], K => (slices_ContainsFunc_nf_v2 N (fun d0 => K (.bool (d0)) [⟨false, .avs [.sptr [(1, 2), (2, 1), (3, 1), (4, 1)]]⟩, ⟨false, .flat 2 (.ints .i64 gv0)⟩, ⟨false, .flat 1 (.ints .i64 gv1)⟩, ⟨false, .avs [.nils]⟩, ⟨false, .avs [.nils]⟩]) gv0 gv1)
  | _, _, _ => none

theorem slices_ContainsFunc_suhf.en_ok (N : Nat) (hE : EnvOk (E64 N) ents) (ρ : Type) (args : List AV) (sh : Heap) (K : AV → Heap → Option ρ) (r : ρ) (h : slices_ContainsFunc_suhf.en N ρ args sh K = some r) : ∃ v sh', K v sh' = some r ∧ FnOk (E64 N).P 144 args sh v sh' := by
  unfold slices_ContainsFunc_suhf.en at h
  split at h
  · exact fn_ok hE (kp := slices_ContainsFunc_suhf.kp) (N := N) Go.Proofs.Try.func144 (c := slices_ContainsFunc_suhf.bd) (by kernel_rfl) ((slices_ContainsFunc_suhf.eq N _ _ _ _ _ _ _ _ _ _ _ _ _ _ _ _ _).trans h)
  · exact fn_ok hE (kp := slices_ContainsFunc_nf_v2.kp) (N := N) Go.Proofs.Try.func144 (c := slices_ContainsFunc_nf_v2.bd) (by kernel_rfl) ((slices_ContainsFunc_nf_v2.eq N _ _ _).trans h)
  · cases h

noncomputable def E65 (N : Nat) : Env := (E64 N).add 144 (slices_ContainsFunc_suhf.en N)

theorem E65_ok (N : Nat) : EnvOk (E65 N) ents := Env.add_ok (E64_ok N) (slices_ContainsFunc_suhf.en_ok N (E64_ok N))

noncomputable def impl_system_solve.kp : Keeps := ⟨[(0, [1, 3, 4], [], [(.cell 3 0, .whole false (.ints .i64 (fun _ => 0)) 1)])], [(0, [1, 3], [], [])], []⟩

noncomputable def impl_system_solve.bd : Code := bodyOf Go.Proofs.Try.f115

noncomputable def impl_system_solve.fin {ρ : Type} (N : Nat) (K : AV → Heap → Option ρ) (gv0 : Nat → Int) (gv1 : Nat → Int) (gv2 : Nat) (gv3 : Nat) (gv4 : Nat → Nat) (gv5 : Nat → Nat) (gv6 : Nat → Int) : XE → St → Option ρ := finK (E65 N) impl_system_solve.kp.fins Go.Proofs.Try.f115 [⟨false, .flat 2 (.ints .i64 gv0)⟩, ⟨false, .flat 1 (.ints .i64 gv1)⟩, ⟨true, .avs [.slice false 4 0 gv2 .whole 1]⟩, ⟨true, .avs [.nils]⟩, ⟨true, .hdr 5 0 gv3 gv4 gv5 none⟩, ⟨true, .flat 0 (.ints .u8 gv6)⟩] K

noncomputable def impl_system_solve.k0 {ρ : Type} (N : Nat) (K : AV → Heap → Option ρ) (gv0 : Nat → Int) (gv1 : Nat → Int) (gv2 : Nat) (gv3 : Nat) (gv4 : Nat → Nat) (gv5 : Nat → Nat) (gv6 : Nat → Int) : XE → St → Option ρ := (blockK impl_system_solve.kp 6 0 (seqK (xcode (E65 N) ents impl_system_solve.kp 6 N (cB (cB (cB (cB impl_system_solve.bd)))) 0) (impl_system_solve.fin N K gv0 gv1 gv2 gv3 gv4 gv5 gv6)))

theorem impl_system_solve.k0_mix {ρ : Type} (N : Nat) (K : AV → Heap → Option ρ) (gv0 : Nat → Int) (gv1 : Nat → Int) (gv2 : Nat) (gv3 : Nat) (gv4 : Nat → Nat) (gv5 : Nat → Nat) (gv6 : Nat → Int) : mixK (impl_system_solve.fin N K gv0 gv1 gv2 gv3 gv4 gv5 gv6 .ret) (impl_system_solve.k0 N K gv0 gv1 gv2 gv3 gv4 gv5 gv6) = (impl_system_solve.k0 N K gv0 gv1 gv2 gv3 gv4 gv5 gv6) := by
  funext e s; cases e <;> kernel_rfl

noncomputable def impl_system_solve.st0 (gv0 : Nat → Int) (gv1 : Nat → Int) (gv2 : Nat) (gv3 : Nat) (done7 : Int) (gv8 : Nat) (gv9 : Nat → Nat) (gv10 : Nat → Nat) (gv11 : Nat → Int) (gv12 : Nat → Int) (gv13 : Nat → Int) : St := ⟨sl 103 [(1, .sptr [(6, 1)]), (3, .int .i64 (done7)), (4, .sptr [(7, 1)])], [⟨false, .flat 2 (.ints .i64 gv0)⟩, ⟨false, .flat 1 (.ints .i64 gv1)⟩, ⟨true, .avs [.slice false 4 0 gv2 .whole 1]⟩, ⟨true, .avs [.slice false 8 0 gv8 .whole 1]⟩, ⟨true, .hdr 5 0 gv3 gv9 gv10 none⟩, ⟨true, .flat 0 (.ints .u8 gv11)⟩, ⟨true, .avs [.sptr [(0, 2), (1, 1), (2, 1), (3, 1)]]⟩, ⟨true, .flat 1 (.ints .i64 gv12)⟩, ⟨true, .flat 0 (.ints .i64 gv13)⟩]⟩

noncomputable def impl_system_solve.sx0_0 (gv0 : Nat → Int) (gv1 : Nat → Int) (gv2 : Nat) (gv3 : Nat) (ov17 : Int) (ov18 : Nat) (ov19 : Nat → Nat) (ov20 : Nat → Nat) (ov21 : Nat → Int) (ov22 : Nat → Int) : St := ⟨sl 103 [(1, .sptr [(6, 1)]), (3, .int .i64 (ov17))], [⟨false, .flat 2 (.ints .i64 gv0)⟩, ⟨false, .flat 1 (.ints .i64 gv1)⟩, ⟨true, .avs [.slice false 4 0 gv2 .whole 1]⟩, ⟨true, .avs [.slice false 7 0 ov18 .whole 1]⟩, ⟨true, .hdr 5 0 gv3 ov19 ov20 none⟩, ⟨true, .flat 0 (.ints .u8 ov21)⟩, ⟨true, .avs [.sptr [(0, 2), (1, 1), (2, 1), (3, 1)]]⟩, ⟨true, .flat 0 (.ints .i64 ov22)⟩]⟩

theorem impl_system_solve.b0_gen {ρ : Type} (N : Nat) (K : AV → Heap → Option ρ) (L0 : St → Option ρ) (kv : XE → St → Option ρ) (gv0 : Nat → Int) (gv1 : Nat → Int) (gv2 : Nat) (gv3 : Nat) (gv4 : Nat → Nat) (gv5 : Nat → Nat) (gv6 : Nat → Int) (done7 : Int) (gv8 : Nat) (gv9 : Nat → Nat) (gv10 : Nat → Nat) (gv11 : Nat → Int) (gv12 : Nat → Int) (gv13 : Nat → Int) :
    xcode (E65 N) ents impl_system_solve.kp 6 N (cL (cK (cB (cA (cB (cB (cB impl_system_solve.bd))))))) 0 (impl_system_solve.st0 gv0 gv1 gv2 gv3 done7 gv8 gv9 gv10 gv11 gv12 gv13) (roundK impl_system_solve.kp 6 0 L0 (mixK (impl_system_solve.fin N K gv0 gv1 gv2 gv3 gv4 gv5 gv6 .ret) kv)) = (impl_system_solve.b0 N (fun d0 d1 d2 d3 d4 d5 d6 d7 => K (.bool (d0)) [⟨false, .flat 2 (.ints .i64 gv0)⟩, ⟨false, .flat 1 (.ints .i64 gv1)⟩, ⟨true, .avs [.slice false 4 0 d1 .unk 1]⟩, ⟨true, .avs [.slice false 6 0 d2 .whole 1]⟩, ⟨true, .hdr 5 0 d3 d4 d5 none⟩, ⟨true, .flat 0 (.ints .u8 d6)⟩, ⟨true, .flat 0 (.ints .i64 d7)⟩]) (fun done7 gv8 gv9 gv10 gv11 gv12 gv13 => L0 (impl_system_solve.st0 gv0 gv1 gv2 gv3 done7 gv8 gv9 gv10 gv11 gv12 gv13)) (fun ov17 ov18 ov19 ov20 ov21 ov22 => kv (.exit 0) (impl_system_solve.sx0_0 gv0 gv1 gv2 gv3 ov17 ov18 ov19 ov20 ov21 ov22)) gv0 gv1 gv2 gv3 done7 gv8 gv9 gv10 gv11 gv12 gv13) := by kernel_rfl

theorem impl_system_solve.b0_eq {ρ : Type} (N : Nat) (K : AV → Heap → Option ρ) (L0 : St → Option ρ) (gv0 : Nat → Int) (gv1 : Nat → Int) (gv2 : Nat) (gv3 : Nat) (gv4 : Nat → Nat) (gv5 : Nat → Nat) (gv6 : Nat → Int) (done7 : Int) (gv8 : Nat) (gv9 : Nat → Nat) (gv10 : Nat → Nat) (gv11 : Nat → Int) (gv12 : Nat → Int) (gv13 : Nat → Int) :
    xcode (E65 N) ents impl_system_solve.kp 6 N (cL (cK (cB (cA (cB (cB (cB impl_system_solve.bd))))))) 0 (impl_system_solve.st0 gv0 gv1 gv2 gv3 done7 gv8 gv9 gv10 gv11 gv12 gv13) (roundK impl_system_solve.kp 6 0 L0 (impl_system_solve.k0 N K gv0 gv1 gv2 gv3 gv4 gv5 gv6)) = (impl_system_solve.b0 N (fun d0 d1 d2 d3 d4 d5 d6 d7 => K (.bool (d0)) [⟨false, .flat 2 (.ints .i64 gv0)⟩, ⟨false, .flat 1 (.ints .i64 gv1)⟩, ⟨true, .avs [.slice false 4 0 d1 .unk 1]⟩, ⟨true, .avs [.slice false 6 0 d2 .whole 1]⟩, ⟨true, .hdr 5 0 d3 d4 d5 none⟩, ⟨true, .flat 0 (.ints .u8 d6)⟩, ⟨true, .flat 0 (.ints .i64 d7)⟩]) (fun done7 gv8 gv9 gv10 gv11 gv12 gv13 => L0 (impl_system_solve.st0 gv0 gv1 gv2 gv3 done7 gv8 gv9 gv10 gv11 gv12 gv13)) (fun ov17 ov18 ov19 ov20 ov21 ov22 => (impl_system_solve.k0 N K gv0 gv1 gv2 gv3 gv4 gv5 gv6) (.exit 0) (impl_system_solve.sx0_0 gv0 gv1 gv2 gv3 ov17 ov18 ov19 ov20 ov21 ov22)) gv0 gv1 gv2 gv3 done7 gv8 gv9 gv10 gv11 gv12 gv13) := by
  have h := impl_system_solve.b0_gen N K L0 (impl_system_solve.k0 N K gv0 gv1 gv2 gv3 gv4 gv5 gv6) gv0 gv1 gv2 gv3 gv4 gv5 gv6 done7 gv8 gv9 gv10 gv11 gv12 gv13
  rw [impl_system_solve.k0_mix] at h
  exact h

theorem impl_system_solve.a0_0_eq {ρ : Type} (N : Nat) (K : AV → Heap → Option ρ) (gv0 : Nat → Int) (gv1 : Nat → Int) (gv2 : Nat) (gv3 : Nat) (gv4 : Nat → Nat) (gv5 : Nat → Nat) (gv6 : Nat → Int) (ov17 : Int) (ov18 : Nat) (ov19 : Nat → Nat) (ov20 : Nat → Nat) (ov21 : Nat → Int) (ov22 : Nat → Int) :
    (impl_system_solve.k0 N K gv0 gv1 gv2 gv3 gv4 gv5 gv6) (.exit 0) (impl_system_solve.sx0_0 gv0 gv1 gv2 gv3 ov17 ov18 ov19 ov20 ov21 ov22) = (impl_system_solve.a0_0 N (fun d0 d1 d2 d3 d4 d5 d6 d7 => K (.bool (d0)) [⟨false, .flat 2 (.ints .i64 gv0)⟩, ⟨false, .flat 1 (.ints .i64 gv1)⟩, ⟨true, .avs [.slice false 4 0 d1 .unk 1]⟩, ⟨true, .avs [.slice false 6 0 d2 .whole 1]⟩, ⟨true, .hdr 5 0 d3 d4 d5 none⟩, ⟨true, .flat 0 (.ints .u8 d6)⟩, ⟨true, .flat 0 (.ints .i64 d7)⟩]) gv0 gv1 gv2 gv3 ov17 ov18 ov19 ov20 ov21 ov22) := by kernel_rfl

theorem impl_system_solve.l0_eq {ρ : Type} (N : Nat) (K : AV → Heap → Option ρ) (gv0 : Nat → Int) (gv1 : Nat → Int) (gv2 : Nat) (gv3 : Nat) (gv4 : Nat → Nat) (gv5 : Nat → Nat) (gv6 : Nat → Int) :
    ∀ (m : Nat) (done7 : Int) (gv8 : Nat) (gv9 : Nat → Nat) (gv10 : Nat → Nat) (gv11 : Nat → Int) (gv12 : Nat → Int) (gv13 : Nat → Int), xloop (xcode (E65 N) ents impl_system_solve.kp 6 N (cL (cK (cB (cA (cB (cB (cB impl_system_solve.bd))))))) 0) impl_system_solve.kp 6 0 m (impl_system_solve.st0 gv0 gv1 gv2 gv3 done7 gv8 gv9 gv10 gv11 gv12 gv13) (impl_system_solve.k0 N K gv0 gv1 gv2 gv3 gv4 gv5 gv6) = (impl_system_solve.l0 N (fun d0 d1 d2 d3 d4 d5 d6 d7 => K (.bool (d0)) [⟨false, .flat 2 (.ints .i64 gv0)⟩, ⟨false, .flat 1 (.ints .i64 gv1)⟩, ⟨true, .avs [.slice false 4 0 d1 .unk 1]⟩, ⟨true, .avs [.slice false 6 0 d2 .whole 1]⟩, ⟨true, .hdr 5 0 d3 d4 d5 none⟩, ⟨true, .flat 0 (.ints .u8 d6)⟩, ⟨true, .flat 0 (.ints .i64 d7)⟩]) gv0 gv1 gv2 gv3 (fun ov17 ov18 ov19 ov20 ov21 ov22 => (impl_system_solve.k0 N K gv0 gv1 gv2 gv3 gv4 gv5 gv6) (.exit 0) (impl_system_solve.sx0_0 gv0 gv1 gv2 gv3 ov17 ov18 ov19 ov20 ov21 ov22)) m done7 gv8 gv9 gv10 gv11 gv12 gv13) := by
  intro m
  induction m with
  | zero => intros; rfl
  | succ m ih =>
    intro done7 gv8 gv9 gv10 gv11 gv12 gv13
    refine (impl_system_solve.b0_eq N K (fun s => xloop (xcode (E65 N) ents impl_system_solve.kp 6 N (cL (cK (cB (cA (cB (cB (cB impl_system_solve.bd))))))) 0) impl_system_solve.kp 6 0 m s (impl_system_solve.k0 N K gv0 gv1 gv2 gv3 gv4 gv5 gv6)) gv0 gv1 gv2 gv3 gv4 gv5 gv6 done7 gv8 gv9 gv10 gv11 gv12 gv13).trans ?_
    simp only [ih]
    kernel_rfl

theorem impl_system_solve.s_eq {ρ : Type} (N : Nat) (K : AV → Heap → Option ρ) (gv0 : Nat → Int) (gv1 : Nat → Int) (gv2 : Nat) (gv3 : Nat) (gv4 : Nat → Nat) (gv5 : Nat → Nat) (gv6 : Nat → Int) :
    xbody (E65 N) ents impl_system_solve.kp N Go.Proofs.Try.f115 impl_system_solve.bd [.sptr [(0, 2), (1, 1), (2, 1), (3, 1)]] [⟨false, .flat 2 (.ints .i64 gv0)⟩, ⟨false, .flat 1 (.ints .i64 gv1)⟩, ⟨true, .avs [.slice false 4 0 gv2 .whole 1]⟩, ⟨true, .avs [.nils]⟩, ⟨true, .hdr 5 0 gv3 gv4 gv5 none⟩, ⟨true, .flat 0 (.ints .u8 gv6)⟩] K = (impl_system_solve.s N (fun d0 d1 d2 d3 d4 d5 d6 d7 => K (.bool (d0)) [⟨false, .flat 2 (.ints .i64 gv0)⟩, ⟨false, .flat 1 (.ints .i64 gv1)⟩, ⟨true, .avs [.slice false 4 0 d1 .unk 1]⟩, ⟨true, .avs [.slice false 6 0 d2 .whole 1]⟩, ⟨true, .hdr 5 0 d3 d4 d5 none⟩, ⟨true, .flat 0 (.ints .u8 d6)⟩, ⟨true, .flat 0 (.ints .i64 d7)⟩]) (fun done7 gv8 gv9 gv10 gv11 gv12 gv13 => xloop (xcode (E65 N) ents impl_system_solve.kp 6 N (cL (cK (cB (cA (cB (cB (cB impl_system_solve.bd))))))) 0) impl_system_solve.kp 6 0 N (impl_system_solve.st0 gv0 gv1 gv2 gv3 done7 gv8 gv9 gv10 gv11 gv12 gv13) (impl_system_solve.k0 N K gv0 gv1 gv2 gv3 gv4 gv5 gv6)) gv4 gv5 gv6) := by kernel_rfl

theorem impl_system_solve.eq {ρ : Type} (N : Nat) (K : AV → Heap → Option ρ) (gv0 : Nat → Int) (gv1 : Nat → Int) (gv2 : Nat) (gv3 : Nat) (gv4 : Nat → Nat) (gv5 : Nat → Nat) (gv6 : Nat → Int) :
    xbody (E65 N) ents impl_system_solve.kp N Go.Proofs.Try.f115 impl_system_solve.bd [.sptr [(0, 2), (1, 1), (2, 1), (3, 1)]] [⟨false, .flat 2 (.ints .i64 gv0)⟩, ⟨false, .flat 1 (.ints .i64 gv1)⟩, ⟨true, .avs [.slice false 4 0 gv2 .whole 1]⟩, ⟨true, .avs [.nils]⟩, ⟨true, .hdr 5 0 gv3 gv4 gv5 none⟩, ⟨true, .flat 0 (.ints .u8 gv6)⟩] K = (impl_system_solve N (fun d0 d1 d2 d3 d4 d5 d6 d7 => K (.bool (d0)) [⟨false, .flat 2 (.ints .i64 gv0)⟩, ⟨false, .flat 1 (.ints .i64 gv1)⟩, ⟨true, .avs [.slice false 4 0 d1 .unk 1]⟩, ⟨true, .avs [.slice false 6 0 d2 .whole 1]⟩, ⟨true, .hdr 5 0 d3 d4 d5 none⟩, ⟨true, .flat 0 (.ints .u8 d6)⟩, ⟨true, .flat 0 (.ints .i64 d7)⟩]) gv0 gv1 gv2 gv3 gv4 gv5 gv6) := by
  refine (impl_system_solve.s_eq N K gv0 gv1 gv2 gv3 gv4 gv5 gv6).trans ?_
  simp only [impl_system_solve.l0_eq, impl_system_solve.a0_0_eq]
  kernel_rfl

noncomputable def impl_system_solve_v2.kp : Keeps := ⟨[(0, [1, 3, 4], [], [])], [(0, [1, 3], [], [])], []⟩

noncomputable def impl_system_solve_v2.bd : Code := bodyOf Go.Proofs.Try.f115

noncomputable def impl_system_solve_v2.fin {ρ : Type} (N : Nat) (K : AV → Heap → Option ρ) (gv0 : Nat → Int) (gv1 : Nat → Int) : XE → St → Option ρ := finK (E65 N) impl_system_solve_v2.kp.fins Go.Proofs.Try.f115 [⟨false, .flat 2 (.ints .i64 gv0)⟩, ⟨false, .flat 1 (.ints .i64 gv1)⟩, ⟨true, .avs [.nils]⟩, ⟨true, .avs [.nils]⟩] K

noncomputable def impl_system_solve_v2.k0 {ρ : Type} (N : Nat) (K : AV → Heap → Option ρ) (gv0 : Nat → Int) (gv1 : Nat → Int) : XE → St → Option ρ := (blockK impl_system_solve_v2.kp 4 0 (seqK (xcode (E65 N) ents impl_system_solve_v2.kp 4 N (cB (cB (cB (cB impl_system_solve_v2.bd)))) 0) (impl_system_solve_v2.fin N K gv0 gv1)))

theorem impl_system_solve_v2.k0_mix {ρ : Type} (N : Nat) (K : AV → Heap → Option ρ) (gv0 : Nat → Int) (gv1 : Nat → Int) : mixK (impl_system_solve_v2.fin N K gv0 gv1 .ret) (impl_system_solve_v2.k0 N K gv0 gv1) = (impl_system_solve_v2.k0 N K gv0 gv1) := by
  funext e s; cases e <;> kernel_rfl

noncomputable def impl_system_solve_v2.st0 (gv0 : Nat → Int) (gv1 : Nat → Int) : St := ⟨sl 103 [(1, .sptr [(4, 1)]), (3, .int .i64 0), (4, .sptr [(5, 1)])], [⟨false, .flat 2 (.ints .i64 gv0)⟩, ⟨false, .flat 1 (.ints .i64 gv1)⟩, ⟨true, .avs [.nils]⟩, ⟨true, .avs [.nils]⟩, ⟨true, .avs [.sptr [(0, 2), (1, 1), (2, 1), (3, 1)]]⟩, ⟨true, .flat 1 (.ints .i64 (fun _ => 0))⟩]⟩

noncomputable def impl_system_solve_v2.sx0_0 (gv0 : Nat → Int) (gv1 : Nat → Int) : St := ⟨sl 103 [(1, .sptr [(4, 1)]), (3, .int .i64 0)], [⟨false, .flat 2 (.ints .i64 gv0)⟩, ⟨false, .flat 1 (.ints .i64 gv1)⟩, ⟨true, .avs [.nils]⟩, ⟨true, .avs [.nils]⟩, ⟨true, .avs [.sptr [(0, 2), (1, 1), (2, 1), (3, 1)]]⟩]⟩

theorem impl_system_solve_v2.b0_gen {ρ : Type} (N : Nat) (K : AV → Heap → Option ρ) (L0 : St → Option ρ) (kv : XE → St → Option ρ) (gv0 : Nat → Int) (gv1 : Nat → Int) :
    xcode (E65 N) ents impl_system_solve_v2.kp 4 N (cL (cK (cB (cA (cB (cB (cB impl_system_solve_v2.bd))))))) 0 (impl_system_solve_v2.st0 gv0 gv1) (roundK impl_system_solve_v2.kp 4 0 L0 (mixK (impl_system_solve_v2.fin N K gv0 gv1 .ret) kv)) = (impl_system_solve_v2.b0 N (fun d0 => K (.bool (d0)) [⟨false, .flat 2 (.ints .i64 gv0)⟩, ⟨false, .flat 1 (.ints .i64 gv1)⟩, ⟨true, .avs [.nils]⟩, ⟨true, .avs [.nils]⟩]) (L0 (impl_system_solve_v2.st0 gv0 gv1)) (kv (.exit 0) (impl_system_solve_v2.sx0_0 gv0 gv1)) gv1) := by kernel_rfl

theorem impl_system_solve_v2.b0_eq {ρ : Type} (N : Nat) (K : AV → Heap → Option ρ) (L0 : St → Option ρ) (gv0 : Nat → Int) (gv1 : Nat → Int) :
    xcode (E65 N) ents impl_system_solve_v2.kp 4 N (cL (cK (cB (cA (cB (cB (cB impl_system_solve_v2.bd))))))) 0 (impl_system_solve_v2.st0 gv0 gv1) (roundK impl_system_solve_v2.kp 4 0 L0 (impl_system_solve_v2.k0 N K gv0 gv1)) = (impl_system_solve_v2.b0 N (fun d0 => K (.bool (d0)) [⟨false, .flat 2 (.ints .i64 gv0)⟩, ⟨false, .flat 1 (.ints .i64 gv1)⟩, ⟨true, .avs [.nils]⟩, ⟨true, .avs [.nils]⟩]) (L0 (impl_system_solve_v2.st0 gv0 gv1)) ((impl_system_solve_v2.k0 N K gv0 gv1) (.exit 0) (impl_system_solve_v2.sx0_0 gv0 gv1)) gv1) := by
  have h := impl_system_solve_v2.b0_gen N K L0 (impl_system_solve_v2.k0 N K gv0 gv1) gv0 gv1
  rw [impl_system_solve_v2.k0_mix] at h
  exact h

theorem impl_system_solve_v2.a0_0_eq {ρ : Type} (N : Nat) (K : AV → Heap → Option ρ) (gv0 : Nat → Int) (gv1 : Nat → Int) :
    (impl_system_solve_v2.k0 N K gv0 gv1) (.exit 0) (impl_system_solve_v2.sx0_0 gv0 gv1) = (impl_system_solve_v2.a0_0 N (fun d0 => K (.bool (d0)) [⟨false, .flat 2 (.ints .i64 gv0)⟩, ⟨false, .flat 1 (.ints .i64 gv1)⟩, ⟨true, .avs [.nils]⟩, ⟨true, .avs [.nils]⟩]) gv0 gv1) := by kernel_rfl

theorem impl_system_solve_v2.l0_eq {ρ : Type} (N : Nat) (K : AV → Heap → Option ρ) (gv0 : Nat → Int) (gv1 : Nat → Int) :
    ∀ (m : Nat), xloop (xcode (E65 N) ents impl_system_solve_v2.kp 4 N (cL (cK (cB (cA (cB (cB (cB impl_system_solve_v2.bd))))))) 0) impl_system_solve_v2.kp 4 0 m (impl_system_solve_v2.st0 gv0 gv1) (impl_system_solve_v2.k0 N K gv0 gv1) = (impl_system_solve_v2.l0 N (fun d0 => K (.bool (d0)) [⟨false, .flat 2 (.ints .i64 gv0)⟩, ⟨false, .flat 1 (.ints .i64 gv1)⟩, ⟨true, .avs [.nils]⟩, ⟨true, .avs [.nils]⟩]) gv1 ((impl_system_solve_v2.k0 N K gv0 gv1) (.exit 0) (impl_system_solve_v2.sx0_0 gv0 gv1)) m) := by
  intro m
  induction m with
  | zero => intros; rfl
  | succ m ih =>
    refine (impl_system_solve_v2.b0_eq N K (fun s => xloop (xcode (E65 N) ents impl_system_solve_v2.kp 4 N (cL (cK (cB (cA (cB (cB (cB impl_system_solve_v2.bd))))))) 0) impl_system_solve_v2.kp 4 0 m s (impl_system_solve_v2.k0 N K gv0 gv1)) gv0 gv1).trans ?_
    simp only [ih]
    kernel_rfl

theorem impl_system_solve_v2.s_eq {ρ : Type} (N : Nat) (K : AV → Heap → Option ρ) (gv0 : Nat → Int) (gv1 : Nat → Int) :
    xbody (E65 N) ents impl_system_solve_v2.kp N Go.Proofs.Try.f115 impl_system_solve_v2.bd [.sptr [(0, 2), (1, 1), (2, 1), (3, 1)]] [⟨false, .flat 2 (.ints .i64 gv0)⟩, ⟨false, .flat 1 (.ints .i64 gv1)⟩, ⟨true, .avs [.nils]⟩, ⟨true, .avs [.nils]⟩] K = (impl_system_solve_v2.s N (fun d0 => K (.bool (d0)) [⟨false, .flat 2 (.ints .i64 gv0)⟩, ⟨false, .flat 1 (.ints .i64 gv1)⟩, ⟨true, .avs [.nils]⟩, ⟨true, .avs [.nils]⟩]) (xloop (xcode (E65 N) ents impl_system_solve_v2.kp 4 N (cL (cK (cB (cA (cB (cB (cB impl_system_solve_v2.bd))))))) 0) impl_system_solve_v2.kp 4 0 N (impl_system_solve_v2.st0 gv0 gv1) (impl_system_solve_v2.k0 N K gv0 gv1))) := by kernel_rfl

theorem impl_system_solve_v2.eq {ρ : Type} (N : Nat) (K : AV → Heap → Option ρ) (gv0 : Nat → Int) (gv1 : Nat → Int) :
    xbody (E65 N) ents impl_system_solve_v2.kp N Go.Proofs.Try.f115 impl_system_solve_v2.bd [.sptr [(0, 2), (1, 1), (2, 1), (3, 1)]] [⟨false, .flat 2 (.ints .i64 gv0)⟩, ⟨false, .flat 1 (.ints .i64 gv1)⟩, ⟨true, .avs [.nils]⟩, ⟨true, .avs [.nils]⟩] K = (impl_system_solve_v2 N (fun d0 => K (.bool (d0)) [⟨false, .flat 2 (.ints .i64 gv0)⟩, ⟨false, .flat 1 (.ints .i64 gv1)⟩, ⟨true, .avs [.nils]⟩, ⟨true, .avs [.nils]⟩]) gv0 gv1) := by
  refine (impl_system_solve_v2.s_eq N K gv0 gv1).trans ?_
  simp only [impl_system_solve_v2.l0_eq, impl_system_solve_v2.a0_0_eq]
  kernel_rfl

noncomputable def impl_system_solve.en (N : Nat) (ρ : Type) : List AV → Heap → (AV → Heap → Option ρ) → Option ρ
  | [.sptr [(0, 2), (1, 1), (2, 1), (3, 1)]], [⟨false, .flat 2 (.ints .i64 gv0)⟩, ⟨false, .flat 1 (.ints .i64 gv1)⟩, ⟨true, .avs [.slice false 4 0 gv2 .whole 1]⟩, ⟨true, .avs [.nils]⟩, ⟨true, .hdr 5 0 gv3 gv4 gv5 none⟩, ⟨true, .flat 0 (.ints .u8 gv6)⟩], K => (impl_system_solve N (fun d0 d1 d2 d3 d4 d5 d6 d7 => K (.bool (d0)) [⟨false, .flat 2 (.ints .i64 gv0)⟩, ⟨false, .flat 1 (.ints .i64 gv1)⟩, ⟨true, .avs [.slice false 4 0 d1 .unk 1]⟩, ⟨true, .avs [.slice false 6 0 d2 .whole 1]⟩, ⟨true, .hdr 5 0 d3 d4 d5 none⟩, ⟨true, .flat 0 (.ints .u8 d6)⟩, ⟨true, .flat 0 (.ints .i64 d7)⟩]) gv0 gv1 gv2 gv3 gv4 gv5 gv6)
  | [.sptr [(0, 2), (1, 1), (2, 1), (3, 1)]], [⟨false, .flat 2 (.ints .i64 gv0)⟩, ⟨false, .flat 1 (.ints .i64 gv1)⟩, ⟨true, .avs [.nils]⟩, ⟨true, .avs [.nils]⟩], K => (impl_system_solve_v2 N (fun d0 => K (.bool (d0)) [⟨false, .flat 2 (.ints .i64 gv0)⟩, ⟨false, .flat 1 (.ints .i64 gv1)⟩, ⟨true, .avs [.nils]⟩, ⟨true, .avs [.nils]⟩]) gv0 gv1)
  | _, _, _ => none

theorem impl_system_solve.en_ok (N : Nat) (hE : EnvOk (E65 N) ents) (ρ : Type) (args : List AV) (sh : Heap) (K : AV → Heap → Option ρ) (r : ρ) (h : impl_system_solve.en N ρ args sh K = some r) : ∃ v sh', K v sh' = some r ∧ FnOk (E65 N).P 115 args sh v sh' := by
  unfold impl_system_solve.en at h
  split at h
  · exact fn_ok hE (kp := impl_system_solve.kp) (N := N) Go.Proofs.Try.func115 (c := impl_system_solve.bd) (by kernel_rfl) ((impl_system_solve.eq N _ _ _ _ _ _ _ _).trans h)
  · exact fn_ok hE (kp := impl_system_solve_v2.kp) (N := N) Go.Proofs.Try.func115 (c := impl_system_solve_v2.bd) (by kernel_rfl) ((impl_system_solve_v2.eq N _ _ _).trans h)
  · cases h

noncomputable def E66 (N : Nat) : Env := (E65 N).add 115 (impl_system_solve.en N)

theorem E66_ok (N : Nat) : EnvOk (E66 N) ents := Env.add_ok (E65_ok N) (impl_system_solve.en_ok N (E65_ok N))

noncomputable def impl_reduced_s.kp : Keeps := ⟨[(0, [5, 13, 14, 15], [], [(.cell 3 0, .wholeH false .u8)]), (2, [8, 39, 40, 41], [], [])], [(0, [5], [], []), (2, [8], [], [])], []⟩

noncomputable def impl_reduced_s.bd : Code := bodyOf Go.Proofs.Try.f83

noncomputable def impl_reduced_s.fin {ρ : Type} (N : Nat) (K : AV → Heap → Option ρ) (gv3 : Nat) (gv4 : Nat → Int) : XE → St → Option ρ := finK (E66 N) impl_reduced_s.kp.fins Go.Proofs.Try.f83 [⟨false, .flat gv3 (.ints .u8 gv4)⟩] K

noncomputable def impl_reduced_s.k0 {ρ : Type} (N : Nat) (K : AV → Heap → Option ρ) (gv3 : Nat) (gv4 : Nat → Int) : XE → St → Option ρ := (blockK impl_reduced_s.kp 1 0 (seqK (xcode (E66 N) ents impl_reduced_s.kp 1 N (cB (cB (cB impl_reduced_s.bd))) 0) (impl_reduced_s.fin N K gv3 gv4)))

theorem impl_reduced_s.k0_mix {ρ : Type} (N : Nat) (K : AV → Heap → Option ρ) (gv3 : Nat) (gv4 : Nat → Int) : mixK (impl_reduced_s.fin N K gv3 gv4 .ret) (impl_reduced_s.k0 N K gv3 gv4) = (impl_reduced_s.k0 N K gv3 gv4) := by
  funext e s; cases e <;> kernel_rfl

noncomputable def impl_reduced_s.st0 (list1 : Nat) (list2 : Nat) (gv3 : Nat) (gv4 : Nat → Int) (rv5 : Nat → Int) (rv6 : Nat → Int) (x7 : Int) (gv8 : Nat) (gv9 : Nat) (gv10 : Nat → Nat) (gv11 : Nat → Nat) (gv12 : Nat → Int) : St := ⟨sl 54 [(5, .sptr [(1, 2), (2, 1), (3, 1), (4, 1)]), (13, .slice true 0 0 list1 (.exact list2) 8), (14, .int .i64 ((list1 : Int))), (15, .int .i64 (x7))], [⟨false, .flat gv3 (.ints .u8 gv4)⟩, ⟨true, .flat 2 (.ints .i64 rv5)⟩, ⟨true, .flat 1 (.ints .i64 rv6)⟩, ⟨true, .avs [.slice false 5 0 gv8 .whole 1]⟩, ⟨true, .avs [.nils]⟩, ⟨true, .hdr 6 0 gv9 gv10 gv11 none⟩, ⟨true, .flat 0 (.ints .u8 gv12)⟩]⟩

noncomputable def impl_reduced_s.sx0_0 (gv3 : Nat) (gv4 : Nat → Int) (rv5 : Nat → Int) (rv6 : Nat → Int) (ov15 : Nat) (ov16 : Nat) (ov17 : Nat → Nat) (ov18 : Nat → Nat) (ov19 : Nat → Int) : St := ⟨sl 54 [(5, .sptr [(1, 2), (2, 1), (3, 1), (4, 1)])], [⟨false, .flat gv3 (.ints .u8 gv4)⟩, ⟨true, .flat 2 (.ints .i64 rv5)⟩, ⟨true, .flat 1 (.ints .i64 rv6)⟩, ⟨true, .avs [.slice false 5 0 ov15 .whole 1]⟩, ⟨true, .avs [.nils]⟩, ⟨true, .hdr 6 0 ov16 ov17 ov18 none⟩, ⟨true, .flat 0 (.ints .u8 ov19)⟩]⟩

noncomputable def impl_reduced_s.k1 {ρ : Type} (N : Nat) (K : AV → Heap → Option ρ) (gv3 : Nat) (gv4 : Nat → Int) : XE → St → Option ρ := (blockK impl_reduced_s.kp 1 2 (seqK (xcode (E66 N) ents impl_reduced_s.kp 1 N (cB (cB (cB (cB (cB (cB impl_reduced_s.bd)))))) 0) (impl_reduced_s.fin N K gv3 gv4)))

theorem impl_reduced_s.k1_mix {ρ : Type} (N : Nat) (K : AV → Heap → Option ρ) (gv3 : Nat) (gv4 : Nat → Int) : mixK (impl_reduced_s.fin N K gv3 gv4 .ret) (impl_reduced_s.k1 N K gv3 gv4) = (impl_reduced_s.k1 N K gv3 gv4) := by
  funext e s; cases e <;> kernel_rfl

noncomputable def impl_reduced_s.st1 (gv3 : Nat) (gv4 : Nat → Int) (rv21 : Nat) (rv23 : Nat) (rv24 : Nat → Nat) (rv25 : Nat → Nat) (rv26 : Nat → Int) (outv28 : Nat) (x29 : Int) (gv30 : Nat → Int) : St := ⟨sl 54 [(8, .slice true 1 0 outv28 .whole 8), (39, .slice false 2 0 rv21 .unk 1), (40, .int .i64 ((rv21 : Int))), (41, .int .i64 (x29))], [⟨false, .flat gv3 (.ints .u8 gv4)⟩, ⟨true, .flat 0 (.ints .u8 gv30)⟩, ⟨true, .hdr 3 0 rv23 rv24 rv25 none⟩, ⟨true, .flat 0 (.ints .u8 rv26)⟩]⟩

noncomputable def impl_reduced_s.sx1_0 (gv3 : Nat) (gv4 : Nat → Int) (ov31 : Nat) (ov32 : Nat → Int) : St := ⟨sl 54 [(8, .slice true 1 0 ov31 .whole 8)], [⟨false, .flat gv3 (.ints .u8 gv4)⟩, ⟨true, .flat 0 (.ints .u8 ov32)⟩]⟩

theorem impl_reduced_s.b1_gen {ρ : Type} (N : Nat) (K : AV → Heap → Option ρ) (L1 : St → Option ρ) (kv : XE → St → Option ρ) (gv3 : Nat) (gv4 : Nat → Int) (rv21 : Nat) (rv23 : Nat) (rv24 : Nat → Nat) (rv25 : Nat → Nat) (rv26 : Nat → Int) (outv28 : Nat) (x29 : Int) (gv30 : Nat → Int) :
    xcode (E66 N) ents impl_reduced_s.kp 1 N (cL (cK (cB (cA (cB (cB (cB (cB (cB impl_reduced_s.bd))))))))) 2 (impl_reduced_s.st1 gv3 gv4 rv21 rv23 rv24 rv25 rv26 outv28 x29 gv30) (roundK impl_reduced_s.kp 1 2 L1 (mixK (impl_reduced_s.fin N K gv3 gv4 .ret) kv)) = (impl_reduced_s.b1 N (fun d0 d1 => K (.slice true 1 0 d0 .whole 8) [⟨false, .flat gv3 (.ints .u8 gv4)⟩, ⟨true, .flat 0 (.ints .u8 d1)⟩]) (fun outv28 x29 gv30 => L1 (impl_reduced_s.st1 gv3 gv4 rv21 rv23 rv24 rv25 rv26 outv28 x29 gv30)) (fun ov31 ov32 => kv (.exit 2) (impl_reduced_s.sx1_0 gv3 gv4 ov31 ov32)) rv21 rv24 rv25 rv26 outv28 x29 gv30) := by kernel_rfl

theorem impl_reduced_s.b1_eq {ρ : Type} (N : Nat) (K : AV → Heap → Option ρ) (L1 : St → Option ρ) (gv3 : Nat) (gv4 : Nat → Int) (rv21 : Nat) (rv23 : Nat) (rv24 : Nat → Nat) (rv25 : Nat → Nat) (rv26 : Nat → Int) (outv28 : Nat) (x29 : Int) (gv30 : Nat → Int) :
    xcode (E66 N) ents impl_reduced_s.kp 1 N (cL (cK (cB (cA (cB (cB (cB (cB (cB impl_reduced_s.bd))))))))) 2 (impl_reduced_s.st1 gv3 gv4 rv21 rv23 rv24 rv25 rv26 outv28 x29 gv30) (roundK impl_reduced_s.kp 1 2 L1 (impl_reduced_s.k1 N K gv3 gv4)) = (impl_reduced_s.b1 N (fun d0 d1 => K (.slice true 1 0 d0 .whole 8) [⟨false, .flat gv3 (.ints .u8 gv4)⟩, ⟨true, .flat 0 (.ints .u8 d1)⟩]) (fun outv28 x29 gv30 => L1 (impl_reduced_s.st1 gv3 gv4 rv21 rv23 rv24 rv25 rv26 outv28 x29 gv30)) (fun ov31 ov32 => (impl_reduced_s.k1 N K gv3 gv4) (.exit 2) (impl_reduced_s.sx1_0 gv3 gv4 ov31 ov32)) rv21 rv24 rv25 rv26 outv28 x29 gv30) := by
  have h := impl_reduced_s.b1_gen N K L1 (impl_reduced_s.k1 N K gv3 gv4) gv3 gv4 rv21 rv23 rv24 rv25 rv26 outv28 x29 gv30
  rw [impl_reduced_s.k1_mix] at h
  exact h

theorem impl_reduced_s.a1_0_eq {ρ : Type} (N : Nat) (K : AV → Heap → Option ρ) (gv3 : Nat) (gv4 : Nat → Int) (ov31 : Nat) (ov32 : Nat → Int) :
    (impl_reduced_s.k1 N K gv3 gv4) (.exit 2) (impl_reduced_s.sx1_0 gv3 gv4 ov31 ov32) = (impl_reduced_s.a1_0 N (fun d0 d1 => K (.slice true 1 0 d0 .whole 8) [⟨false, .flat gv3 (.ints .u8 gv4)⟩, ⟨true, .flat 0 (.ints .u8 d1)⟩]) ov31 ov32) := by kernel_rfl

theorem impl_reduced_s.b0_gen {ρ : Type} (N : Nat) (K : AV → Heap → Option ρ) (L0 : St → Option ρ) (kv : XE → St → Option ρ) (list1 : Nat) (list2 : Nat) (gv3 : Nat) (gv4 : Nat → Int) (rv5 : Nat → Int) (rv6 : Nat → Int) (x7 : Int) (gv8 : Nat) (gv9 : Nat) (gv10 : Nat → Nat) (gv11 : Nat → Nat) (gv12 : Nat → Int) :
    xcode (E66 N) ents impl_reduced_s.kp 1 N (cL (cK (cB (cA (cB (cB impl_reduced_s.bd)))))) 0 (impl_reduced_s.st0 list1 list2 gv3 gv4 rv5 rv6 x7 gv8 gv9 gv10 gv11 gv12) (roundK impl_reduced_s.kp 1 0 L0 (mixK (impl_reduced_s.fin N K gv3 gv4 .ret) kv)) = (impl_reduced_s.b0 N (fun d0 d1 => K (.slice true 1 0 d0 .whole 8) [⟨false, .flat gv3 (.ints .u8 gv4)⟩, ⟨true, .flat 0 (.ints .u8 d1)⟩]) (fun x7 gv8 gv9 gv10 gv11 gv12 => L0 (impl_reduced_s.st0 list1 list2 gv3 gv4 rv5 rv6 x7 gv8 gv9 gv10 gv11 gv12)) (fun ov15 ov16 ov17 ov18 ov19 => kv (.exit 0) (impl_reduced_s.sx0_0 gv3 gv4 rv5 rv6 ov15 ov16 ov17 ov18 ov19)) list1 gv4 x7 gv8 gv9 gv10 gv11 gv12) := by kernel_rfl

theorem impl_reduced_s.b0_eq {ρ : Type} (N : Nat) (K : AV → Heap → Option ρ) (L0 : St → Option ρ) (list1 : Nat) (list2 : Nat) (gv3 : Nat) (gv4 : Nat → Int) (rv5 : Nat → Int) (rv6 : Nat → Int) (x7 : Int) (gv8 : Nat) (gv9 : Nat) (gv10 : Nat → Nat) (gv11 : Nat → Nat) (gv12 : Nat → Int) :
    xcode (E66 N) ents impl_reduced_s.kp 1 N (cL (cK (cB (cA (cB (cB impl_reduced_s.bd)))))) 0 (impl_reduced_s.st0 list1 list2 gv3 gv4 rv5 rv6 x7 gv8 gv9 gv10 gv11 gv12) (roundK impl_reduced_s.kp 1 0 L0 (impl_reduced_s.k0 N K gv3 gv4)) = (impl_reduced_s.b0 N (fun d0 d1 => K (.slice true 1 0 d0 .whole 8) [⟨false, .flat gv3 (.ints .u8 gv4)⟩, ⟨true, .flat 0 (.ints .u8 d1)⟩]) (fun x7 gv8 gv9 gv10 gv11 gv12 => L0 (impl_reduced_s.st0 list1 list2 gv3 gv4 rv5 rv6 x7 gv8 gv9 gv10 gv11 gv12)) (fun ov15 ov16 ov17 ov18 ov19 => (impl_reduced_s.k0 N K gv3 gv4) (.exit 0) (impl_reduced_s.sx0_0 gv3 gv4 rv5 rv6 ov15 ov16 ov17 ov18 ov19)) list1 gv4 x7 gv8 gv9 gv10 gv11 gv12) := by
  have h := impl_reduced_s.b0_gen N K L0 (impl_reduced_s.k0 N K gv3 gv4) list1 list2 gv3 gv4 rv5 rv6 x7 gv8 gv9 gv10 gv11 gv12
  rw [impl_reduced_s.k0_mix] at h
  exact h

theorem impl_reduced_s.a0_0_eq {ρ : Type} (N : Nat) (K : AV → Heap → Option ρ) (gv3 : Nat) (gv4 : Nat → Int) (rv5 : Nat → Int) (rv6 : Nat → Int) (ov15 : Nat) (ov16 : Nat) (ov17 : Nat → Nat) (ov18 : Nat → Nat) (ov19 : Nat → Int) :
    (impl_reduced_s.k0 N K gv3 gv4) (.exit 0) (impl_reduced_s.sx0_0 gv3 gv4 rv5 rv6 ov15 ov16 ov17 ov18 ov19) = (impl_reduced_s.a0_0 N (fun d0 d1 => K (.slice true 1 0 d0 .whole 8) [⟨false, .flat gv3 (.ints .u8 gv4)⟩, ⟨true, .flat 0 (.ints .u8 d1)⟩]) (fun rv21 rv23 rv24 rv25 rv26 outv28 x29 gv30 => xloop (xcode (E66 N) ents impl_reduced_s.kp 1 N (cL (cK (cB (cA (cB (cB (cB (cB (cB impl_reduced_s.bd))))))))) 2) impl_reduced_s.kp 1 2 N (impl_reduced_s.st1 gv3 gv4 rv21 rv23 rv24 rv25 rv26 outv28 x29 gv30) (impl_reduced_s.k1 N K gv3 gv4)) rv5 rv6 ov15 ov16 ov17 ov18 ov19) := by kernel_rfl

theorem impl_reduced_s.l1_eq {ρ : Type} (N : Nat) (K : AV → Heap → Option ρ) (gv3 : Nat) (gv4 : Nat → Int) (rv21 : Nat) (rv23 : Nat) (rv24 : Nat → Nat) (rv25 : Nat → Nat) (rv26 : Nat → Int) :
    ∀ (m : Nat) (outv28 : Nat) (x29 : Int) (gv30 : Nat → Int), xloop (xcode (E66 N) ents impl_reduced_s.kp 1 N (cL (cK (cB (cA (cB (cB (cB (cB (cB impl_reduced_s.bd))))))))) 2) impl_reduced_s.kp 1 2 m (impl_reduced_s.st1 gv3 gv4 rv21 rv23 rv24 rv25 rv26 outv28 x29 gv30) (impl_reduced_s.k1 N K gv3 gv4) = (impl_reduced_s.l1 N (fun d0 d1 => K (.slice true 1 0 d0 .whole 8) [⟨false, .flat gv3 (.ints .u8 gv4)⟩, ⟨true, .flat 0 (.ints .u8 d1)⟩]) rv21 rv24 rv25 rv26 (fun ov31 ov32 => (impl_reduced_s.k1 N K gv3 gv4) (.exit 2) (impl_reduced_s.sx1_0 gv3 gv4 ov31 ov32)) m outv28 x29 gv30) := by
  intro m
  induction m with
  | zero => intros; rfl
  | succ m ih =>
    intro outv28 x29 gv30
    refine (impl_reduced_s.b1_eq N K (fun s => xloop (xcode (E66 N) ents impl_reduced_s.kp 1 N (cL (cK (cB (cA (cB (cB (cB (cB (cB impl_reduced_s.bd))))))))) 2) impl_reduced_s.kp 1 2 m s (impl_reduced_s.k1 N K gv3 gv4)) gv3 gv4 rv21 rv23 rv24 rv25 rv26 outv28 x29 gv30).trans ?_
    simp only [ih]
    kernel_rfl

theorem impl_reduced_s.l0_eq {ρ : Type} (N : Nat) (K : AV → Heap → Option ρ) (list1 : Nat) (list2 : Nat) (gv3 : Nat) (gv4 : Nat → Int) (rv5 : Nat → Int) (rv6 : Nat → Int) :
    ∀ (m : Nat) (x7 : Int) (gv8 : Nat) (gv9 : Nat) (gv10 : Nat → Nat) (gv11 : Nat → Nat) (gv12 : Nat → Int), xloop (xcode (E66 N) ents impl_reduced_s.kp 1 N (cL (cK (cB (cA (cB (cB impl_reduced_s.bd)))))) 0) impl_reduced_s.kp 1 0 m (impl_reduced_s.st0 list1 list2 gv3 gv4 rv5 rv6 x7 gv8 gv9 gv10 gv11 gv12) (impl_reduced_s.k0 N K gv3 gv4) = (impl_reduced_s.l0 N (fun d0 d1 => K (.slice true 1 0 d0 .whole 8) [⟨false, .flat gv3 (.ints .u8 gv4)⟩, ⟨true, .flat 0 (.ints .u8 d1)⟩]) list1 gv4 (fun ov15 ov16 ov17 ov18 ov19 => (impl_reduced_s.k0 N K gv3 gv4) (.exit 0) (impl_reduced_s.sx0_0 gv3 gv4 rv5 rv6 ov15 ov16 ov17 ov18 ov19)) m x7 gv8 gv9 gv10 gv11 gv12) := by
  intro m
  induction m with
  | zero => intros; rfl
  | succ m ih =>
    intro x7 gv8 gv9 gv10 gv11 gv12
    refine (impl_reduced_s.b0_eq N K (fun s => xloop (xcode (E66 N) ents impl_reduced_s.kp 1 N (cL (cK (cB (cA (cB (cB impl_reduced_s.bd)))))) 0) impl_reduced_s.kp 1 0 m s (impl_reduced_s.k0 N K gv3 gv4)) list1 list2 gv3 gv4 rv5 rv6 x7 gv8 gv9 gv10 gv11 gv12).trans ?_
    simp only [ih]
    kernel_rfl

theorem impl_reduced_s.s_eq {ρ : Type} (N : Nat) (K : AV → Heap → Option ρ) (p0 : Int) (list1 : Nat) (list2 : Nat) (gv3 : Nat) (gv4 : Nat → Int) :
    xbody (E66 N) ents impl_reduced_s.kp N Go.Proofs.Try.f83 impl_reduced_s.bd [.int .i64 (p0), .slice true 0 0 list1 (.exact list2) 8] [⟨false, .flat gv3 (.ints .u8 gv4)⟩] K = (impl_reduced_s.s N (fun d0 d1 => K (.slice true 1 0 d0 .whole 8) [⟨false, .flat gv3 (.ints .u8 gv4)⟩, ⟨true, .flat 0 (.ints .u8 d1)⟩]) (fun rv5 rv6 x7 gv8 gv9 gv10 gv11 gv12 => xloop (xcode (E66 N) ents impl_reduced_s.kp 1 N (cL (cK (cB (cA (cB (cB impl_reduced_s.bd)))))) 0) impl_reduced_s.kp 1 0 N (impl_reduced_s.st0 list1 list2 gv3 gv4 rv5 rv6 x7 gv8 gv9 gv10 gv11 gv12) (impl_reduced_s.k0 N K gv3 gv4)) p0) := by kernel_rfl

theorem impl_reduced_s.eq {ρ : Type} (N : Nat) (K : AV → Heap → Option ρ) (p0 : Int) (list1 : Nat) (list2 : Nat) (gv3 : Nat) (gv4 : Nat → Int) :
    xbody (E66 N) ents impl_reduced_s.kp N Go.Proofs.Try.f83 impl_reduced_s.bd [.int .i64 (p0), .slice true 0 0 list1 (.exact list2) 8] [⟨false, .flat gv3 (.ints .u8 gv4)⟩] K = (impl_reduced_s N (fun d0 d1 => K (.slice true 1 0 d0 .whole 8) [⟨false, .flat gv3 (.ints .u8 gv4)⟩, ⟨true, .flat 0 (.ints .u8 d1)⟩]) p0 list1 list2 gv3 gv4) := by
  refine (impl_reduced_s.s_eq N K p0 list1 list2 gv3 gv4).trans ?_
  simp only [impl_reduced_s.l0_eq, impl_reduced_s.a0_0_eq, impl_reduced_s.l1_eq, impl_reduced_s.a1_0_eq]
  kernel_rfl

noncomputable def impl_reduced_n.kp : Keeps := ⟨[(0, [5, 13, 14, 15], [], []), (2, [8, 39, 40, 41], [], [])], [(0, [5], [], []), (2, [8], [], [])], []⟩

noncomputable def impl_reduced_n.bd : Code := bodyOf Go.Proofs.Try.f83

noncomputable def impl_reduced_n.fin {ρ : Type} (N : Nat) (K : AV → Heap → Option ρ) : XE → St → Option ρ := finK (E66 N) impl_reduced_n.kp.fins Go.Proofs.Try.f83 [] K

noncomputable def impl_reduced_n.k0 {ρ : Type} (N : Nat) (K : AV → Heap → Option ρ) : XE → St → Option ρ := (blockK impl_reduced_n.kp 0 0 (seqK (xcode (E66 N) ents impl_reduced_n.kp 0 N (cB (cB (cB impl_reduced_n.bd))) 0) (impl_reduced_n.fin N K)))

theorem impl_reduced_n.k0_mix {ρ : Type} (N : Nat) (K : AV → Heap → Option ρ) : mixK (impl_reduced_n.fin N K .ret) (impl_reduced_n.k0 N K) = (impl_reduced_n.k0 N K) := by
  funext e s; cases e <;> kernel_rfl

noncomputable def impl_reduced_n.st0 (rv1 : Nat → Int) (rv2 : Nat → Int) : St := ⟨sl 54 [(5, .sptr [(0, 2), (1, 1), (2, 1), (3, 1)]), (13, .nils), (14, .int .i64 0), (15, .int .i64 0)], [⟨true, .flat 2 (.ints .i64 rv1)⟩, ⟨true, .flat 1 (.ints .i64 rv2)⟩, ⟨true, .avs [.nils]⟩, ⟨true, .avs [.nils]⟩]⟩

noncomputable def impl_reduced_n.sx0_0 (rv1 : Nat → Int) (rv2 : Nat → Int) : St := ⟨sl 54 [(5, .sptr [(0, 2), (1, 1), (2, 1), (3, 1)])], [⟨true, .flat 2 (.ints .i64 rv1)⟩, ⟨true, .flat 1 (.ints .i64 rv2)⟩, ⟨true, .avs [.nils]⟩, ⟨true, .avs [.nils]⟩]⟩

noncomputable def impl_reduced_n.k1 {ρ : Type} (N : Nat) (K : AV → Heap → Option ρ) : XE → St → Option ρ := (blockK impl_reduced_n.kp 0 2 (seqK (xcode (E66 N) ents impl_reduced_n.kp 0 N (cB (cB (cB (cB (cB (cB impl_reduced_n.bd)))))) 0) (impl_reduced_n.fin N K)))

theorem impl_reduced_n.k1_mix {ρ : Type} (N : Nat) (K : AV → Heap → Option ρ) : mixK (impl_reduced_n.fin N K .ret) (impl_reduced_n.k1 N K) = (impl_reduced_n.k1 N K) := by
  funext e s; cases e <;> kernel_rfl

noncomputable def impl_reduced_n.st1 : St := ⟨sl 54 [(8, .slice true 0 0 0 .whole 8), (39, .nils), (40, .int .i64 0), (41, .int .i64 0)], [⟨true, .flat 0 (.ints .u8 (fun _ => 0))⟩]⟩

noncomputable def impl_reduced_n.sx1_0 : St := ⟨sl 54 [(8, .slice true 0 0 0 .whole 8)], [⟨true, .flat 0 (.ints .u8 (fun _ => 0))⟩]⟩

theorem impl_reduced_n.b1_gen {ρ : Type} (N : Nat) (K : AV → Heap → Option ρ) (L1 : St → Option ρ) (kv : XE → St → Option ρ) :
    xcode (E66 N) ents impl_reduced_n.kp 0 N (cL (cK (cB (cA (cB (cB (cB (cB (cB impl_reduced_n.bd))))))))) 2 (impl_reduced_n.st1) (roundK impl_reduced_n.kp 0 2 L1 (mixK (impl_reduced_n.fin N K .ret) kv)) = (impl_reduced_n.b1 N (fun d0 d1 => K (.slice true 0 0 d0 .whole 8) [⟨true, .flat 0 (.ints .u8 d1)⟩]) (L1 (impl_reduced_n.st1)) (kv (.exit 2) (impl_reduced_n.sx1_0))) := by kernel_rfl

theorem impl_reduced_n.b1_eq {ρ : Type} (N : Nat) (K : AV → Heap → Option ρ) (L1 : St → Option ρ) :
    xcode (E66 N) ents impl_reduced_n.kp 0 N (cL (cK (cB (cA (cB (cB (cB (cB (cB impl_reduced_n.bd))))))))) 2 (impl_reduced_n.st1) (roundK impl_reduced_n.kp 0 2 L1 (impl_reduced_n.k1 N K)) = (impl_reduced_n.b1 N (fun d0 d1 => K (.slice true 0 0 d0 .whole 8) [⟨true, .flat 0 (.ints .u8 d1)⟩]) (L1 (impl_reduced_n.st1)) ((impl_reduced_n.k1 N K) (.exit 2) (impl_reduced_n.sx1_0))) := by
  have h := impl_reduced_n.b1_gen N K L1 (impl_reduced_n.k1 N K) 
  rw [impl_reduced_n.k1_mix] at h
  exact h

theorem impl_reduced_n.a1_0_eq {ρ : Type} (N : Nat) (K : AV → Heap → Option ρ) :
    (impl_reduced_n.k1 N K) (.exit 2) (impl_reduced_n.sx1_0) = (impl_reduced_n.a1_0 N (fun d0 d1 => K (.slice true 0 0 d0 .whole 8) [⟨true, .flat 0 (.ints .u8 d1)⟩])) := by kernel_rfl

theorem impl_reduced_n.b0_gen {ρ : Type} (N : Nat) (K : AV → Heap → Option ρ) (L0 : St → Option ρ) (kv : XE → St → Option ρ) (rv1 : Nat → Int) (rv2 : Nat → Int) :
    xcode (E66 N) ents impl_reduced_n.kp 0 N (cL (cK (cB (cA (cB (cB impl_reduced_n.bd)))))) 0 (impl_reduced_n.st0 rv1 rv2) (roundK impl_reduced_n.kp 0 0 L0 (mixK (impl_reduced_n.fin N K .ret) kv)) = (impl_reduced_n.b0 N (fun d0 d1 => K (.slice true 0 0 d0 .whole 8) [⟨true, .flat 0 (.ints .u8 d1)⟩]) (L0 (impl_reduced_n.st0 rv1 rv2)) (kv (.exit 0) (impl_reduced_n.sx0_0 rv1 rv2))) := by kernel_rfl

theorem impl_reduced_n.b0_eq {ρ : Type} (N : Nat) (K : AV → Heap → Option ρ) (L0 : St → Option ρ) (rv1 : Nat → Int) (rv2 : Nat → Int) :
    xcode (E66 N) ents impl_reduced_n.kp 0 N (cL (cK (cB (cA (cB (cB impl_reduced_n.bd)))))) 0 (impl_reduced_n.st0 rv1 rv2) (roundK impl_reduced_n.kp 0 0 L0 (impl_reduced_n.k0 N K)) = (impl_reduced_n.b0 N (fun d0 d1 => K (.slice true 0 0 d0 .whole 8) [⟨true, .flat 0 (.ints .u8 d1)⟩]) (L0 (impl_reduced_n.st0 rv1 rv2)) ((impl_reduced_n.k0 N K) (.exit 0) (impl_reduced_n.sx0_0 rv1 rv2))) := by
  have h := impl_reduced_n.b0_gen N K L0 (impl_reduced_n.k0 N K) rv1 rv2
  rw [impl_reduced_n.k0_mix] at h
  exact h

theorem impl_reduced_n.a0_0_eq {ρ : Type} (N : Nat) (K : AV → Heap → Option ρ) (rv1 : Nat → Int) (rv2 : Nat → Int) :
    (impl_reduced_n.k0 N K) (.exit 0) (impl_reduced_n.sx0_0 rv1 rv2) = (impl_reduced_n.a0_0 N (fun d0 d1 => K (.slice true 0 0 d0 .whole 8) [⟨true, .flat 0 (.ints .u8 d1)⟩]) (xloop (xcode (E66 N) ents impl_reduced_n.kp 0 N (cL (cK (cB (cA (cB (cB (cB (cB (cB impl_reduced_n.bd))))))))) 2) impl_reduced_n.kp 0 2 N (impl_reduced_n.st1) (impl_reduced_n.k1 N K)) rv1 rv2) := by kernel_rfl

theorem impl_reduced_n.l1_eq {ρ : Type} (N : Nat) (K : AV → Heap → Option ρ) :
    ∀ (m : Nat), xloop (xcode (E66 N) ents impl_reduced_n.kp 0 N (cL (cK (cB (cA (cB (cB (cB (cB (cB impl_reduced_n.bd))))))))) 2) impl_reduced_n.kp 0 2 m (impl_reduced_n.st1) (impl_reduced_n.k1 N K) = (impl_reduced_n.l1 N (fun d0 d1 => K (.slice true 0 0 d0 .whole 8) [⟨true, .flat 0 (.ints .u8 d1)⟩]) ((impl_reduced_n.k1 N K) (.exit 2) (impl_reduced_n.sx1_0)) m) := by
  intro m
  induction m with
  | zero => intros; rfl
  | succ m ih =>
    refine (impl_reduced_n.b1_eq N K (fun s => xloop (xcode (E66 N) ents impl_reduced_n.kp 0 N (cL (cK (cB (cA (cB (cB (cB (cB (cB impl_reduced_n.bd))))))))) 2) impl_reduced_n.kp 0 2 m s (impl_reduced_n.k1 N K)) ).trans ?_
    simp only [ih]
    kernel_rfl

theorem impl_reduced_n.l0_eq {ρ : Type} (N : Nat) (K : AV → Heap → Option ρ) (rv1 : Nat → Int) (rv2 : Nat → Int) :
    ∀ (m : Nat), xloop (xcode (E66 N) ents impl_reduced_n.kp 0 N (cL (cK (cB (cA (cB (cB impl_reduced_n.bd)))))) 0) impl_reduced_n.kp 0 0 m (impl_reduced_n.st0 rv1 rv2) (impl_reduced_n.k0 N K) = (impl_reduced_n.l0 N (fun d0 d1 => K (.slice true 0 0 d0 .whole 8) [⟨true, .flat 0 (.ints .u8 d1)⟩]) ((impl_reduced_n.k0 N K) (.exit 0) (impl_reduced_n.sx0_0 rv1 rv2)) m) := by
  intro m
  induction m with
  | zero => intros; rfl
  | succ m ih =>
    refine (impl_reduced_n.b0_eq N K (fun s => xloop (xcode (E66 N) ents impl_reduced_n.kp 0 N (cL (cK (cB (cA (cB (cB impl_reduced_n.bd)))))) 0) impl_reduced_n.kp 0 0 m s (impl_reduced_n.k0 N K)) rv1 rv2).trans ?_
    simp only [ih]
    kernel_rfl

theorem impl_reduced_n.s_eq {ρ : Type} (N : Nat) (K : AV → Heap → Option ρ) (p0 : Int) :
    xbody (E66 N) ents impl_reduced_n.kp N Go.Proofs.Try.f83 impl_reduced_n.bd [.int .i64 (p0), .nils] [] K = (impl_reduced_n.s N (fun d0 d1 => K (.slice true 0 0 d0 .whole 8) [⟨true, .flat 0 (.ints .u8 d1)⟩]) (fun rv1 rv2 => xloop (xcode (E66 N) ents impl_reduced_n.kp 0 N (cL (cK (cB (cA (cB (cB impl_reduced_n.bd)))))) 0) impl_reduced_n.kp 0 0 N (impl_reduced_n.st0 rv1 rv2) (impl_reduced_n.k0 N K)) p0) := by kernel_rfl

theorem impl_reduced_n.eq {ρ : Type} (N : Nat) (K : AV → Heap → Option ρ) (p0 : Int) :
    xbody (E66 N) ents impl_reduced_n.kp N Go.Proofs.Try.f83 impl_reduced_n.bd [.int .i64 (p0), .nils] [] K = (impl_reduced_n N (fun d0 d1 => K (.slice true 0 0 d0 .whole 8) [⟨true, .flat 0 (.ints .u8 d1)⟩]) p0) := by
  refine (impl_reduced_n.s_eq N K p0).trans ?_
  simp only [impl_reduced_n.l0_eq, impl_reduced_n.a0_0_eq, impl_reduced_n.l1_eq, impl_reduced_n.a1_0_eq]
  kernel_rfl

noncomputable def impl_reduced_s.en (N : Nat) (ρ : Type) : List AV → Heap → (AV → Heap → Option ρ) → Option ρ
  | [.int .i64 (p0), .slice true 0 0 list1 (.exact list2) 8], [⟨false, .flat gv3 (.ints .u8 gv4)⟩], K => (impl_reduced_s N (fun d0 d1 => K (.slice true 1 0 d0 .whole 8) [⟨false, .flat gv3 (.ints .u8 gv4)⟩, ⟨true, .flat 0 (.ints .u8 d1)⟩]) p0 list1 list2 gv3 gv4)
  | [.int .i64 (p0), .nils], [], K => (impl_reduced_n N (fun d0 d1 => K (.slice true 0 0 d0 .whole 8) [⟨true, .flat 0 (.ints .u8 d1)⟩]) p0)
  | _, _, _ => none

theorem impl_reduced_s.en_ok (N : Nat) (hE : EnvOk (E66 N) ents) (ρ : Type) (args : List AV) (sh : Heap) (K : AV → Heap → Option ρ) (r : ρ) (h : impl_reduced_s.en N ρ args sh K = some r) : ∃ v sh', K v sh' = some r ∧ FnOk (E66 N).P 83 args sh v sh' := by
  unfold impl_reduced_s.en at h
  split at h
  · exact fn_ok hE (kp := impl_reduced_s.kp) (N := N) Go.Proofs.Try.func83 (c := impl_reduced_s.bd) (by kernel_rfl) ((impl_reduced_s.eq N _ _ _ _ _ _).trans h)
  · exact fn_ok hE (kp := impl_reduced_n.kp) (N := N) Go.Proofs.Try.func83 (c := impl_reduced_n.bd) (by kernel_rfl) ((impl_reduced_n.eq N _ _).trans h)
  · cases h

noncomputable def E67 (N : Nat) : Env := (E66 N).add 83 (impl_reduced_s.en N)

theorem E67_ok (N : Nat) : EnvOk (E67 N) ents := Env.add_ok (E66_ok N) (impl_reduced_s.en_ok N (E66_ok N))
end Go.Proofs.Ythecjjnieojjoaa.H
