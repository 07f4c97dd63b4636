/- The program computes these functions. -/
import Derived.Test.YthecjjnieojjoaaHL2
namespace Go.Proofs.Ythecjjnieojjoaa.H
set_option linter.unusedVariables false
set_option linter.unusedSimpArgs false
open Go Go.RowKit Go.Proofs.Ythecjjnieojjoaa.Hy
set_option linter.unusedVariables false
set_option maxRecDepth 100000
noncomputable def slices_ContainsFunc_suhf.kp : Keeps := ⟨[], [], []⟩

noncomputable def slices_ContainsFunc_suhf.bd : Code := bodyOf Go.Proofs.Try.f144

noncomputable def slices_ContainsFunc_suhf.fin {ρ : Type} (N : Nat) (K : AV → Heap → Option ρ) (gv1 : Nat) (gv2 : Nat) (gv3 : Nat → Nat) (gv4 : Nat → Nat) (gv5 : Nat → Int) (gv6 : Nat → Int) (gv7 : Nat → Int) (gv8 : Nat) (gv9 : Nat) (gv10 : Nat) (gv11 : Nat) (gv12 : Nat → Nat) (gv13 : Nat → Nat) (gv14 : Nat) (gv15 : Nat → Int) : XE → St → Option ρ := finK (E57 N) slices_ContainsFunc_suhf.kp.fins Go.Proofs.Try.f144 [⟨false, .hdr 2 gv1 gv2 gv3 gv4 none⟩, ⟨false, .avs [.sptr [(3, 2), (4, 1), (5, 1), (6, 1)]]⟩, ⟨false, .flat 0 (.ints .u8 gv5)⟩, ⟨false, .flat 2 (.ints .i64 gv6)⟩, ⟨false, .flat 1 (.ints .i64 gv7)⟩, ⟨false, .avs [.slice false 7 0 gv8 .unk 1]⟩, ⟨false, .avs [.slice false 8 0 gv9 .unk 1]⟩, ⟨false, .hdr 2 gv10 gv11 gv12 gv13 none⟩, ⟨false, .flat gv14 (.ints .i64 gv15)⟩] K

theorem slices_ContainsFunc_suhf.eq {ρ : Type} (N : Nat) (K : AV → Heap → Option ρ) (s0 : Nat) (gv1 : Nat) (gv2 : Nat) (gv3 : Nat → Nat) (gv4 : Nat → Nat) (gv5 : Nat → Int) (gv6 : Nat → Int) (gv7 : Nat → Int) (gv8 : Nat) (gv9 : Nat) (gv10 : Nat) (gv11 : Nat) (gv12 : Nat → Nat) (gv13 : Nat → Nat) (gv14 : Nat) (gv15 : Nat → Int) :
    xbody (E57 N) ents slices_ContainsFunc_suhf.kp N Go.Proofs.Try.f144 slices_ContainsFunc_suhf.bd [.slice false 0 0 s0 .unk 1, .fn 145 0 [[(1, 1)]]] [⟨false, .hdr 2 gv1 gv2 gv3 gv4 none⟩, ⟨false, .avs [.sptr [(3, 2), (4, 1), (5, 1), (6, 1)]]⟩, ⟨false, .flat 0 (.ints .u8 gv5)⟩, ⟨false, .flat 2 (.ints .i64 gv6)⟩, ⟨false, .flat 1 (.ints .i64 gv7)⟩, ⟨false, .avs [.slice false 7 0 gv8 .unk 1]⟩, ⟨false, .avs [.slice false 8 0 gv9 .unk 1]⟩, ⟨false, .hdr 2 gv10 gv11 gv12 gv13 none⟩, ⟨false, .flat gv14 (.ints .i64 gv15)⟩] K = (slices_ContainsFunc_suhf N (fun d0 => K (.bool (d0)) [⟨false, .hdr 2 gv1 gv2 gv3 gv4 none⟩, ⟨false, .avs [.sptr [(3, 2), (4, 1), (5, 1), (6, 1)]]⟩, ⟨false, .flat 0 (.ints .u8 gv5)⟩, ⟨false, .flat 2 (.ints .i64 gv6)⟩, ⟨false, .flat 1 (.ints .i64 gv7)⟩, ⟨false, .avs [.slice false 7 0 gv8 .unk 1]⟩, ⟨false, .avs [.slice false 8 0 gv9 .unk 1]⟩, ⟨false, .hdr 2 gv10 gv11 gv12 gv13 none⟩, ⟨false, .flat gv14 (.ints .i64 gv15)⟩]) s0 gv1 gv2 gv3 gv4 gv5 gv6 gv7 gv8 gv9 gv10 gv11 gv12 gv13 gv14 gv15) := by kernel_rfl

noncomputable def slices_ContainsFunc_suhf.en (N : Nat) (ρ : Type) : List AV → Heap → (AV → Heap → Option ρ) → Option ρ
  | [.slice false 0 0 s0 .unk 1, .fn 145 0 [[(1, 1)]]], [⟨false, .hdr 2 gv1 gv2 gv3 gv4 none⟩, ⟨false, .avs [.sptr [(3, 2), (4, 1), (5, 1), (6, 1)]]⟩, ⟨false, .flat 0 (.ints .u8 gv5)⟩, ⟨false, .flat 2 (.ints .i64 gv6)⟩, ⟨false, .flat 1 (.ints .i64 gv7)⟩, ⟨false, .avs [.slice false 7 0 gv8 .unk 1]⟩, ⟨false, .avs [.slice false 8 0 gv9 .unk 1]⟩, ⟨false, .hdr 2 gv10 gv11 gv12 gv13 none⟩, ⟨false, .flat gv14 (.ints .i64 gv15)⟩], K => (slices_ContainsFunc_suhf N (fun d0 => K (.bool (d0)) [⟨false, .hdr 2 gv1 gv2 gv3 gv4 none⟩, ⟨false, .avs [.sptr [(3, 2), (4, 1), (5, 1), (6, 1)]]⟩, ⟨false, .flat 0 (.ints .u8 gv5)⟩, ⟨false, .flat 2 (.ints .i64 gv6)⟩, ⟨false, .flat 1 (.ints .i64 gv7)⟩, ⟨false, .avs [.slice false 7 0 gv8 .unk 1]⟩, ⟨false, .avs [.slice false 8 0 gv9 .unk 1]⟩, ⟨false, .hdr 2 gv10 gv11 gv12 gv13 none⟩, ⟨false, .flat gv14 (.ints .i64 gv15)⟩]) s0 gv1 gv2 gv3 gv4 gv5 gv6 gv7 gv8 gv9 gv10 gv11 gv12 gv13 gv14 gv15)
  | _, _, _ => none

theorem slices_ContainsFunc_suhf.en_ok (N : Nat) (hE : EnvOk (E57 N) ents) (ρ : Type) (args : List AV) (sh : Heap) (K : AV → Heap → Option ρ) (r : ρ) (h : slices_ContainsFunc_suhf.en N ρ args sh K = some r) : ∃ v sh', K v sh' = some r ∧ FnOk (E57 N).P 144 args sh v sh' := by
  unfold slices_ContainsFunc_suhf.en at h
  split at h
  · exact fn_ok hE (kp := slices_ContainsFunc_suhf.kp) (N := N) Go.Proofs.Try.func144 (c := slices_ContainsFunc_suhf.bd) (by kernel_rfl) ((slices_ContainsFunc_suhf.eq N _ _ _ _ _ _ _ _ _ _ _ _ _ _ _ _ _).trans h)
  · cases h

noncomputable def E58 (N : Nat) : Env := (E57 N).add 144 (slices_ContainsFunc_suhf.en N)

theorem E58_ok (N : Nat) : EnvOk (E58 N) ents := Env.add_ok (E57_ok N) (slices_ContainsFunc_suhf.en_ok N (E57_ok N))

noncomputable def impl_system_solve.kp : Keeps := ⟨[(0, [1, 3, 4], [], [(.cell 3 0, .whole false (.ints .i64 (fun _ => 0)) 1)])], [(0, [1, 3], [], [])], []⟩

noncomputable def impl_system_solve.bd : Code := bodyOf Go.Proofs.Try.f115

noncomputable def impl_system_solve.fin {ρ : Type} (N : Nat) (K : AV → Heap → Option ρ) (gv0 : Nat → Int) (gv1 : Nat → Int) (gv2 : Nat) (gv3 : Nat) (gv4 : Nat → Nat) (gv5 : Nat → Nat) (gv6 : Nat → Int) : XE → St → Option ρ := finK (E58 N) impl_system_solve.kp.fins Go.Proofs.Try.f115 [⟨false, .flat 2 (.ints .i64 gv0)⟩, ⟨false, .flat 1 (.ints .i64 gv1)⟩, ⟨true, .avs [.slice false 4 0 gv2 .whole 1]⟩, ⟨true, .avs [.nils]⟩, ⟨true, .hdr 5 0 gv3 gv4 gv5 none⟩, ⟨true, .flat 0 (.ints .u8 gv6)⟩] K

noncomputable def impl_system_solve.k0 {ρ : Type} (N : Nat) (K : AV → Heap → Option ρ) (gv0 : Nat → Int) (gv1 : Nat → Int) (gv2 : Nat) (gv3 : Nat) (gv4 : Nat → Nat) (gv5 : Nat → Nat) (gv6 : Nat → Int) : XE → St → Option ρ := (blockK impl_system_solve.kp 6 0 (seqK (xcode (E58 N) ents impl_system_solve.kp 6 N (cB (cB (cB (cB impl_system_solve.bd)))) 0) (impl_system_solve.fin N K gv0 gv1 gv2 gv3 gv4 gv5 gv6)))

theorem impl_system_solve.k0_mix {ρ : Type} (N : Nat) (K : AV → Heap → Option ρ) (gv0 : Nat → Int) (gv1 : Nat → Int) (gv2 : Nat) (gv3 : Nat) (gv4 : Nat → Nat) (gv5 : Nat → Nat) (gv6 : Nat → Int) : mixK (impl_system_solve.fin N K gv0 gv1 gv2 gv3 gv4 gv5 gv6 .ret) (impl_system_solve.k0 N K gv0 gv1 gv2 gv3 gv4 gv5 gv6) = (impl_system_solve.k0 N K gv0 gv1 gv2 gv3 gv4 gv5 gv6) := by
  funext e s; cases e <;> kernel_rfl

noncomputable def impl_system_solve.st0 (gv0 : Nat → Int) (gv1 : Nat → Int) (gv2 : Nat) (gv3 : Nat) (done7 : Int) (gv8 : Nat) (gv9 : Nat → Nat) (gv10 : Nat → Nat) (gv11 : Nat → Int) (gv12 : Nat → Int) (gv13 : Nat → Int) : St := ⟨sl 103 [(1, .sptr [(6, 1)]), (3, .int .i64 (done7)), (4, .sptr [(7, 1)])], [⟨false, .flat 2 (.ints .i64 gv0)⟩, ⟨false, .flat 1 (.ints .i64 gv1)⟩, ⟨true, .avs [.slice false 4 0 gv2 .whole 1]⟩, ⟨true, .avs [.slice false 8 0 gv8 .whole 1]⟩, ⟨true, .hdr 5 0 gv3 gv9 gv10 none⟩, ⟨true, .flat 0 (.ints .u8 gv11)⟩, ⟨true, .avs [.sptr [(0, 2), (1, 1), (2, 1), (3, 1)]]⟩, ⟨true, .flat 1 (.ints .i64 gv12)⟩, ⟨true, .flat 0 (.ints .i64 gv13)⟩]⟩

noncomputable def impl_system_solve.sx0_0 (gv0 : Nat → Int) (gv1 : Nat → Int) (gv2 : Nat) (gv3 : Nat) (ov17 : Int) (ov18 : Nat) (ov19 : Nat → Nat) (ov20 : Nat → Nat) (ov21 : Nat → Int) (ov22 : Nat → Int) : St := ⟨sl 103 [(1, .sptr [(6, 1)]), (3, .int .i64 (ov17))], [⟨false, .flat 2 (.ints .i64 gv0)⟩, ⟨false, .flat 1 (.ints .i64 gv1)⟩, ⟨true, .avs [.slice false 4 0 gv2 .whole 1]⟩, ⟨true, .avs [.slice false 7 0 ov18 .whole 1]⟩, ⟨true, .hdr 5 0 gv3 ov19 ov20 none⟩, ⟨true, .flat 0 (.ints .u8 ov21)⟩, ⟨true, .avs [.sptr [(0, 2), (1, 1), (2, 1), (3, 1)]]⟩, ⟨true, .flat 0 (.ints .i64 ov22)⟩]⟩

theorem impl_system_solve.b0_gen {ρ : Type} (N : Nat) (K : AV → Heap → Option ρ) (L0 : St → Option ρ) (kv : XE → St → Option ρ) (gv0 : Nat → Int) (gv1 : Nat → Int) (gv2 : Nat) (gv3 : Nat) (gv4 : Nat → Nat) (gv5 : Nat → Nat) (gv6 : Nat → Int) (done7 : Int) (gv8 : Nat) (gv9 : Nat → Nat) (gv10 : Nat → Nat) (gv11 : Nat → Int) (gv12 : Nat → Int) (gv13 : Nat → Int) :
    xcode (E58 N) ents impl_system_solve.kp 6 N (cL (cK (cB (cA (cB (cB (cB impl_system_solve.bd))))))) 0 (impl_system_solve.st0 gv0 gv1 gv2 gv3 done7 gv8 gv9 gv10 gv11 gv12 gv13) (roundK impl_system_solve.kp 6 0 L0 (mixK (impl_system_solve.fin N K gv0 gv1 gv2 gv3 gv4 gv5 gv6 .ret) kv)) = (impl_system_solve.b0 N (fun d0 d1 d2 d3 d4 d5 d6 d7 => K (.bool (d0)) [⟨false, .flat 2 (.ints .i64 gv0)⟩, ⟨false, .flat 1 (.ints .i64 gv1)⟩, ⟨true, .avs [.slice false 4 0 d1 .unk 1]⟩, ⟨true, .avs [.slice false 6 0 d2 .whole 1]⟩, ⟨true, .hdr 5 0 d3 d4 d5 none⟩, ⟨true, .flat 0 (.ints .u8 d6)⟩, ⟨true, .flat 0 (.ints .i64 d7)⟩]) (fun done7 gv8 gv9 gv10 gv11 gv12 gv13 => L0 (impl_system_solve.st0 gv0 gv1 gv2 gv3 done7 gv8 gv9 gv10 gv11 gv12 gv13)) (fun ov17 ov18 ov19 ov20 ov21 ov22 => kv (.exit 0) (impl_system_solve.sx0_0 gv0 gv1 gv2 gv3 ov17 ov18 ov19 ov20 ov21 ov22)) gv0 gv1 gv2 gv3 done7 gv8 gv9 gv10 gv11 gv12 gv13) := by kernel_rfl

theorem impl_system_solve.b0_eq {ρ : Type} (N : Nat) (K : AV → Heap → Option ρ) (L0 : St → Option ρ) (gv0 : Nat → Int) (gv1 : Nat → Int) (gv2 : Nat) (gv3 : Nat) (gv4 : Nat → Nat) (gv5 : Nat → Nat) (gv6 : Nat → Int) (done7 : Int) (gv8 : Nat) (gv9 : Nat → Nat) (gv10 : Nat → Nat) (gv11 : Nat → Int) (gv12 : Nat → Int) (gv13 : Nat → Int) :
    xcode (E58 N) ents impl_system_solve.kp 6 N (cL (cK (cB (cA (cB (cB (cB impl_system_solve.bd))))))) 0 (impl_system_solve.st0 gv0 gv1 gv2 gv3 done7 gv8 gv9 gv10 gv11 gv12 gv13) (roundK impl_system_solve.kp 6 0 L0 (impl_system_solve.k0 N K gv0 gv1 gv2 gv3 gv4 gv5 gv6)) = (impl_system_solve.b0 N (fun d0 d1 d2 d3 d4 d5 d6 d7 => K (.bool (d0)) [⟨false, .flat 2 (.ints .i64 gv0)⟩, ⟨false, .flat 1 (.ints .i64 gv1)⟩, ⟨true, .avs [.slice false 4 0 d1 .unk 1]⟩, ⟨true, .avs [.slice false 6 0 d2 .whole 1]⟩, ⟨true, .hdr 5 0 d3 d4 d5 none⟩, ⟨true, .flat 0 (.ints .u8 d6)⟩, ⟨true, .flat 0 (.ints .i64 d7)⟩]) (fun done7 gv8 gv9 gv10 gv11 gv12 gv13 => L0 (impl_system_solve.st0 gv0 gv1 gv2 gv3 done7 gv8 gv9 gv10 gv11 gv12 gv13)) (fun ov17 ov18 ov19 ov20 ov21 ov22 => (impl_system_solve.k0 N K gv0 gv1 gv2 gv3 gv4 gv5 gv6) (.exit 0) (impl_system_solve.sx0_0 gv0 gv1 gv2 gv3 ov17 ov18 ov19 ov20 ov21 ov22)) gv0 gv1 gv2 gv3 done7 gv8 gv9 gv10 gv11 gv12 gv13) := by
  have h := impl_system_solve.b0_gen N K L0 (impl_system_solve.k0 N K gv0 gv1 gv2 gv3 gv4 gv5 gv6) gv0 gv1 gv2 gv3 gv4 gv5 gv6 done7 gv8 gv9 gv10 gv11 gv12 gv13
  rw [impl_system_solve.k0_mix] at h
  exact h

theorem impl_system_solve.a0_0_eq {ρ : Type} (N : Nat) (K : AV → Heap → Option ρ) (gv0 : Nat → Int) (gv1 : Nat → Int) (gv2 : Nat) (gv3 : Nat) (gv4 : Nat → Nat) (gv5 : Nat → Nat) (gv6 : Nat → Int) (ov17 : Int) (ov18 : Nat) (ov19 : Nat → Nat) (ov20 : Nat → Nat) (ov21 : Nat → Int) (ov22 : Nat → Int) :
    (impl_system_solve.k0 N K gv0 gv1 gv2 gv3 gv4 gv5 gv6) (.exit 0) (impl_system_solve.sx0_0 gv0 gv1 gv2 gv3 ov17 ov18 ov19 ov20 ov21 ov22) = (impl_system_solve.a0_0 N (fun d0 d1 d2 d3 d4 d5 d6 d7 => K (.bool (d0)) [⟨false, .flat 2 (.ints .i64 gv0)⟩, ⟨false, .flat 1 (.ints .i64 gv1)⟩, ⟨true, .avs [.slice false 4 0 d1 .unk 1]⟩, ⟨true, .avs [.slice false 6 0 d2 .whole 1]⟩, ⟨true, .hdr 5 0 d3 d4 d5 none⟩, ⟨true, .flat 0 (.ints .u8 d6)⟩, ⟨true, .flat 0 (.ints .i64 d7)⟩]) gv0 gv1 gv2 gv3 ov17 ov18 ov19 ov20 ov21 ov22) := by kernel_rfl

theorem impl_system_solve.l0_eq {ρ : Type} (N : Nat) (K : AV → Heap → Option ρ) (gv0 : Nat → Int) (gv1 : Nat → Int) (gv2 : Nat) (gv3 : Nat) (gv4 : Nat → Nat) (gv5 : Nat → Nat) (gv6 : Nat → Int) :
    ∀ (m : Nat) (done7 : Int) (gv8 : Nat) (gv9 : Nat → Nat) (gv10 : Nat → Nat) (gv11 : Nat → Int) (gv12 : Nat → Int) (gv13 : Nat → Int), xloop (xcode (E58 N) ents impl_system_solve.kp 6 N (cL (cK (cB (cA (cB (cB (cB impl_system_solve.bd))))))) 0) impl_system_solve.kp 6 0 m (impl_system_solve.st0 gv0 gv1 gv2 gv3 done7 gv8 gv9 gv10 gv11 gv12 gv13) (impl_system_solve.k0 N K gv0 gv1 gv2 gv3 gv4 gv5 gv6) = (impl_system_solve.l0 N (fun d0 d1 d2 d3 d4 d5 d6 d7 => K (.bool (d0)) [⟨false, .flat 2 (.ints .i64 gv0)⟩, ⟨false, .flat 1 (.ints .i64 gv1)⟩, ⟨true, .avs [.slice false 4 0 d1 .unk 1]⟩, ⟨true, .avs [.slice false 6 0 d2 .whole 1]⟩, ⟨true, .hdr 5 0 d3 d4 d5 none⟩, ⟨true, .flat 0 (.ints .u8 d6)⟩, ⟨true, .flat 0 (.ints .i64 d7)⟩]) gv0 gv1 gv2 gv3 (fun ov17 ov18 ov19 ov20 ov21 ov22 => (impl_system_solve.k0 N K gv0 gv1 gv2 gv3 gv4 gv5 gv6) (.exit 0) (impl_system_solve.sx0_0 gv0 gv1 gv2 gv3 ov17 ov18 ov19 ov20 ov21 ov22)) m done7 gv8 gv9 gv10 gv11 gv12 gv13) := by
  intro m
  induction m with
  | zero => intros; rfl
  | succ m ih =>
    intro done7 gv8 gv9 gv10 gv11 gv12 gv13
    refine (impl_system_solve.b0_eq N K (fun s => xloop (xcode (E58 N) ents impl_system_solve.kp 6 N (cL (cK (cB (cA (cB (cB (cB impl_system_solve.bd))))))) 0) impl_system_solve.kp 6 0 m s (impl_system_solve.k0 N K gv0 gv1 gv2 gv3 gv4 gv5 gv6)) gv0 gv1 gv2 gv3 gv4 gv5 gv6 done7 gv8 gv9 gv10 gv11 gv12 gv13).trans ?_
    simp only [ih]
    kernel_rfl

theorem impl_system_solve.s_eq {ρ : Type} (N : Nat) (K : AV → Heap → Option ρ) (gv0 : Nat → Int) (gv1 : Nat → Int) (gv2 : Nat) (gv3 : Nat) (gv4 : Nat → Nat) (gv5 : Nat → Nat) (gv6 : Nat → Int) :
    xbody (E58 N) ents impl_system_solve.kp N Go.Proofs.Try.f115 impl_system_solve.bd [.sptr [(0, 2), (1, 1), (2, 1), (3, 1)]] [⟨false, .flat 2 (.ints .i64 gv0)⟩, ⟨false, .flat 1 (.ints .i64 gv1)⟩, ⟨true, .avs [.slice false 4 0 gv2 .whole 1]⟩, ⟨true, .avs [.nils]⟩, ⟨true, .hdr 5 0 gv3 gv4 gv5 none⟩, ⟨true, .flat 0 (.ints .u8 gv6)⟩] K = (impl_system_solve.s N (fun d0 d1 d2 d3 d4 d5 d6 d7 => K (.bool (d0)) [⟨false, .flat 2 (.ints .i64 gv0)⟩, ⟨false, .flat 1 (.ints .i64 gv1)⟩, ⟨true, .avs [.slice false 4 0 d1 .unk 1]⟩, ⟨true, .avs [.slice false 6 0 d2 .whole 1]⟩, ⟨true, .hdr 5 0 d3 d4 d5 none⟩, ⟨true, .flat 0 (.ints .u8 d6)⟩, ⟨true, .flat 0 (.ints .i64 d7)⟩]) (fun done7 gv8 gv9 gv10 gv11 gv12 gv13 => xloop (xcode (E58 N) ents impl_system_solve.kp 6 N (cL (cK (cB (cA (cB (cB (cB impl_system_solve.bd))))))) 0) impl_system_solve.kp 6 0 N (impl_system_solve.st0 gv0 gv1 gv2 gv3 done7 gv8 gv9 gv10 gv11 gv12 gv13) (impl_system_solve.k0 N K gv0 gv1 gv2 gv3 gv4 gv5 gv6)) gv4 gv5 gv6) := by kernel_rfl

theorem impl_system_solve.eq {ρ : Type} (N : Nat) (K : AV → Heap → Option ρ) (gv0 : Nat → Int) (gv1 : Nat → Int) (gv2 : Nat) (gv3 : Nat) (gv4 : Nat → Nat) (gv5 : Nat → Nat) (gv6 : Nat → Int) :
    xbody (E58 N) ents impl_system_solve.kp N Go.Proofs.Try.f115 impl_system_solve.bd [.sptr [(0, 2), (1, 1), (2, 1), (3, 1)]] [⟨false, .flat 2 (.ints .i64 gv0)⟩, ⟨false, .flat 1 (.ints .i64 gv1)⟩, ⟨true, .avs [.slice false 4 0 gv2 .whole 1]⟩, ⟨true, .avs [.nils]⟩, ⟨true, .hdr 5 0 gv3 gv4 gv5 none⟩, ⟨true, .flat 0 (.ints .u8 gv6)⟩] K = (impl_system_solve N (fun d0 d1 d2 d3 d4 d5 d6 d7 => K (.bool (d0)) [⟨false, .flat 2 (.ints .i64 gv0)⟩, ⟨false, .flat 1 (.ints .i64 gv1)⟩, ⟨true, .avs [.slice false 4 0 d1 .unk 1]⟩, ⟨true, .avs [.slice false 6 0 d2 .whole 1]⟩, ⟨true, .hdr 5 0 d3 d4 d5 none⟩, ⟨true, .flat 0 (.ints .u8 d6)⟩, ⟨true, .flat 0 (.ints .i64 d7)⟩]) gv0 gv1 gv2 gv3 gv4 gv5 gv6) := by
  refine (impl_system_solve.s_eq N K gv0 gv1 gv2 gv3 gv4 gv5 gv6).trans ?_
  simp only [impl_system_solve.l0_eq, impl_system_solve.a0_0_eq]
  kernel_rfl

noncomputable def impl_system_solve.en (N : Nat) (ρ : Type) : List AV → Heap → (AV → Heap → Option ρ) → Option ρ
  | [.sptr [(0, 2), (1, 1), (2, 1), (3, 1)]], [⟨false, .flat 2 (.ints .i64 gv0)⟩, ⟨false, .flat 1 (.ints .i64 gv1)⟩, ⟨true, .avs [.slice false 4 0 gv2 .whole 1]⟩, ⟨true, .avs [.nils]⟩, ⟨true, .hdr 5 0 gv3 gv4 gv5 none⟩, ⟨true, .flat 0 (.ints .u8 gv6)⟩], K => (impl_system_solve N (fun d0 d1 d2 d3 d4 d5 d6 d7 => K (.bool (d0)) [⟨false, .flat 2 (.ints .i64 gv0)⟩, ⟨false, .flat 1 (.ints .i64 gv1)⟩, ⟨true, .avs [.slice false 4 0 d1 .unk 1]⟩, ⟨true, .avs [.slice false 6 0 d2 .whole 1]⟩, ⟨true, .hdr 5 0 d3 d4 d5 none⟩, ⟨true, .flat 0 (.ints .u8 d6)⟩, ⟨true, .flat 0 (.ints .i64 d7)⟩]) gv0 gv1 gv2 gv3 gv4 gv5 gv6)
  | _, _, _ => none

theorem impl_system_solve.en_ok (N : Nat) (hE : EnvOk (E58 N) ents) (ρ : Type) (args : List AV) (sh : Heap) (K : AV → Heap → Option ρ) (r : ρ) (h : impl_system_solve.en N ρ args sh K = some r) : ∃ v sh', K v sh' = some r ∧ FnOk (E58 N).P 115 args sh v sh' := by
  unfold impl_system_solve.en at h
  split at h
  · exact fn_ok hE (kp := impl_system_solve.kp) (N := N) Go.Proofs.Try.func115 (c := impl_system_solve.bd) (by kernel_rfl) ((impl_system_solve.eq N _ _ _ _ _ _ _ _).trans h)
  · cases h

noncomputable def E59 (N : Nat) : Env := (E58 N).add 115 (impl_system_solve.en N)

theorem E59_ok (N : Nat) : EnvOk (E59 N) ents := Env.add_ok (E58_ok N) (impl_system_solve.en_ok N (E58_ok N))

noncomputable def impl_reduced_su.kp : Keeps := ⟨[(0, [5, 13, 14, 15], [], [(.cell 3 0, .wholeH false .u8)]), (2, [8, 39, 40, 41], [], [])], [(0, [5], [], []), (2, [8], [], [])], []⟩

noncomputable def impl_reduced_su.bd : Code := bodyOf Go.Proofs.Try.f83

noncomputable def impl_reduced_su.fin {ρ : Type} (N : Nat) (K : AV → Heap → Option ρ) (gv2 : Nat) (gv3 : Nat → Int) : XE → St → Option ρ := finK (E59 N) impl_reduced_su.kp.fins Go.Proofs.Try.f83 [⟨false, .flat gv2 (.ints .u8 gv3)⟩] K

noncomputable def impl_reduced_su.k0 {ρ : Type} (N : Nat) (K : AV → Heap → Option ρ) (gv2 : Nat) (gv3 : Nat → Int) : XE → St → Option ρ := (blockK impl_reduced_su.kp 1 0 (seqK (xcode (E59 N) ents impl_reduced_su.kp 1 N (cB (cB (cB impl_reduced_su.bd))) 0) (impl_reduced_su.fin N K gv2 gv3)))

theorem impl_reduced_su.k0_mix {ρ : Type} (N : Nat) (K : AV → Heap → Option ρ) (gv2 : Nat) (gv3 : Nat → Int) : mixK (impl_reduced_su.fin N K gv2 gv3 .ret) (impl_reduced_su.k0 N K gv2 gv3) = (impl_reduced_su.k0 N K gv2 gv3) := by
  funext e s; cases e <;> kernel_rfl

noncomputable def impl_reduced_su.st0 (list1 : Nat) (gv2 : Nat) (gv3 : Nat → Int) (rv4 : Nat → Int) (rv5 : Nat → Int) (x6 : Int) (gv7 : Nat) (gv8 : Nat) (gv9 : Nat → Nat) (gv10 : Nat → Nat) (gv11 : Nat → Int) : St := ⟨sl 54 [(5, .sptr [(1, 2), (2, 1), (3, 1), (4, 1)]), (13, .slice true 0 0 list1 .unk 8), (14, .int .i64 ((list1 : Int))), (15, .int .i64 (x6))], [⟨false, .flat gv2 (.ints .u8 gv3)⟩, ⟨true, .flat 2 (.ints .i64 rv4)⟩, ⟨true, .flat 1 (.ints .i64 rv5)⟩, ⟨true, .avs [.slice false 5 0 gv7 .whole 1]⟩, ⟨true, .avs [.nils]⟩, ⟨true, .hdr 6 0 gv8 gv9 gv10 none⟩, ⟨true, .flat 0 (.ints .u8 gv11)⟩]⟩

noncomputable def impl_reduced_su.sx0_0 (gv2 : Nat) (gv3 : Nat → Int) (rv4 : Nat → Int) (rv5 : Nat → Int) (ov14 : Nat) (ov15 : Nat) (ov16 : Nat → Nat) (ov17 : Nat → Nat) (ov18 : Nat → Int) : St := ⟨sl 54 [(5, .sptr [(1, 2), (2, 1), (3, 1), (4, 1)])], [⟨false, .flat gv2 (.ints .u8 gv3)⟩, ⟨true, .flat 2 (.ints .i64 rv4)⟩, ⟨true, .flat 1 (.ints .i64 rv5)⟩, ⟨true, .avs [.slice false 5 0 ov14 .whole 1]⟩, ⟨true, .avs [.nils]⟩, ⟨true, .hdr 6 0 ov15 ov16 ov17 none⟩, ⟨true, .flat 0 (.ints .u8 ov18)⟩]⟩

noncomputable def impl_reduced_su.k1 {ρ : Type} (N : Nat) (K : AV → Heap → Option ρ) (gv2 : Nat) (gv3 : Nat → Int) : XE → St → Option ρ := (blockK impl_reduced_su.kp 1 2 (seqK (xcode (E59 N) ents impl_reduced_su.kp 1 N (cB (cB (cB (cB (cB (cB impl_reduced_su.bd)))))) 0) (impl_reduced_su.fin N K gv2 gv3)))

theorem impl_reduced_su.k1_mix {ρ : Type} (N : Nat) (K : AV → Heap → Option ρ) (gv2 : Nat) (gv3 : Nat → Int) : mixK (impl_reduced_su.fin N K gv2 gv3 .ret) (impl_reduced_su.k1 N K gv2 gv3) = (impl_reduced_su.k1 N K gv2 gv3) := by
  funext e s; cases e <;> kernel_rfl

noncomputable def impl_reduced_su.st1 (gv2 : Nat) (gv3 : Nat → Int) (rv20 : Nat) (rv22 : Nat) (rv23 : Nat → Nat) (rv24 : Nat → Nat) (rv25 : Nat → Int) (outv27 : Nat) (x28 : Int) (gv29 : Nat → Int) : St := ⟨sl 54 [(8, .slice true 1 0 outv27 .whole 8), (39, .slice false 2 0 rv20 .unk 1), (40, .int .i64 ((rv20 : Int))), (41, .int .i64 (x28))], [⟨false, .flat gv2 (.ints .u8 gv3)⟩, ⟨true, .flat 0 (.ints .u8 gv29)⟩, ⟨true, .hdr 3 0 rv22 rv23 rv24 none⟩, ⟨true, .flat 0 (.ints .u8 rv25)⟩]⟩

noncomputable def impl_reduced_su.sx1_0 (gv2 : Nat) (gv3 : Nat → Int) (ov30 : Nat) (ov31 : Nat → Int) : St := ⟨sl 54 [(8, .slice true 1 0 ov30 .whole 8)], [⟨false, .flat gv2 (.ints .u8 gv3)⟩, ⟨true, .flat 0 (.ints .u8 ov31)⟩]⟩

theorem impl_reduced_su.b1_gen {ρ : Type} (N : Nat) (K : AV → Heap → Option ρ) (L1 : St → Option ρ) (kv : XE → St → Option ρ) (gv2 : Nat) (gv3 : Nat → Int) (rv20 : Nat) (rv22 : Nat) (rv23 : Nat → Nat) (rv24 : Nat → Nat) (rv25 : Nat → Int) (outv27 : Nat) (x28 : Int) (gv29 : Nat → Int) :
    xcode (E59 N) ents impl_reduced_su.kp 1 N (cL (cK (cB (cA (cB (cB (cB (cB (cB impl_reduced_su.bd))))))))) 2 (impl_reduced_su.st1 gv2 gv3 rv20 rv22 rv23 rv24 rv25 outv27 x28 gv29) (roundK impl_reduced_su.kp 1 2 L1 (mixK (impl_reduced_su.fin N K gv2 gv3 .ret) kv)) = (impl_reduced_su.b1 N (fun d0 d1 => K (.slice true 1 0 d0 .whole 8) [⟨false, .flat gv2 (.ints .u8 gv3)⟩, ⟨true, .flat 0 (.ints .u8 d1)⟩]) (fun outv27 x28 gv29 => L1 (impl_reduced_su.st1 gv2 gv3 rv20 rv22 rv23 rv24 rv25 outv27 x28 gv29)) (fun ov30 ov31 => kv (.exit 2) (impl_reduced_su.sx1_0 gv2 gv3 ov30 ov31)) rv20 rv23 rv24 rv25 outv27 x28 gv29) := by kernel_rfl

theorem impl_reduced_su.b1_eq {ρ : Type} (N : Nat) (K : AV → Heap → Option ρ) (L1 : St → Option ρ) (gv2 : Nat) (gv3 : Nat → Int) (rv20 : Nat) (rv22 : Nat) (rv23 : Nat → Nat) (rv24 : Nat → Nat) (rv25 : Nat → Int) (outv27 : Nat) (x28 : Int) (gv29 : Nat → Int) :
    xcode (E59 N) ents impl_reduced_su.kp 1 N (cL (cK (cB (cA (cB (cB (cB (cB (cB impl_reduced_su.bd))))))))) 2 (impl_reduced_su.st1 gv2 gv3 rv20 rv22 rv23 rv24 rv25 outv27 x28 gv29) (roundK impl_reduced_su.kp 1 2 L1 (impl_reduced_su.k1 N K gv2 gv3)) = (impl_reduced_su.b1 N (fun d0 d1 => K (.slice true 1 0 d0 .whole 8) [⟨false, .flat gv2 (.ints .u8 gv3)⟩, ⟨true, .flat 0 (.ints .u8 d1)⟩]) (fun outv27 x28 gv29 => L1 (impl_reduced_su.st1 gv2 gv3 rv20 rv22 rv23 rv24 rv25 outv27 x28 gv29)) (fun ov30 ov31 => (impl_reduced_su.k1 N K gv2 gv3) (.exit 2) (impl_reduced_su.sx1_0 gv2 gv3 ov30 ov31)) rv20 rv23 rv24 rv25 outv27 x28 gv29) := by
  have h := impl_reduced_su.b1_gen N K L1 (impl_reduced_su.k1 N K gv2 gv3) gv2 gv3 rv20 rv22 rv23 rv24 rv25 outv27 x28 gv29
  rw [impl_reduced_su.k1_mix] at h
  exact h

theorem impl_reduced_su.a1_0_eq {ρ : Type} (N : Nat) (K : AV → Heap → Option ρ) (gv2 : Nat) (gv3 : Nat → Int) (ov30 : Nat) (ov31 : Nat → Int) :
    (impl_reduced_su.k1 N K gv2 gv3) (.exit 2) (impl_reduced_su.sx1_0 gv2 gv3 ov30 ov31) = (impl_reduced_su.a1_0 N (fun d0 d1 => K (.slice true 1 0 d0 .whole 8) [⟨false, .flat gv2 (.ints .u8 gv3)⟩, ⟨true, .flat 0 (.ints .u8 d1)⟩]) ov30 ov31) := by kernel_rfl

theorem impl_reduced_su.b0_gen {ρ : Type} (N : Nat) (K : AV → Heap → Option ρ) (L0 : St → Option ρ) (kv : XE → St → Option ρ) (list1 : Nat) (gv2 : Nat) (gv3 : Nat → Int) (rv4 : Nat → Int) (rv5 : Nat → Int) (x6 : Int) (gv7 : Nat) (gv8 : Nat) (gv9 : Nat → Nat) (gv10 : Nat → Nat) (gv11 : Nat → Int) :
    xcode (E59 N) ents impl_reduced_su.kp 1 N (cL (cK (cB (cA (cB (cB impl_reduced_su.bd)))))) 0 (impl_reduced_su.st0 list1 gv2 gv3 rv4 rv5 x6 gv7 gv8 gv9 gv10 gv11) (roundK impl_reduced_su.kp 1 0 L0 (mixK (impl_reduced_su.fin N K gv2 gv3 .ret) kv)) = (impl_reduced_su.b0 N (fun d0 d1 => K (.slice true 1 0 d0 .whole 8) [⟨false, .flat gv2 (.ints .u8 gv3)⟩, ⟨true, .flat 0 (.ints .u8 d1)⟩]) (fun x6 gv7 gv8 gv9 gv10 gv11 => L0 (impl_reduced_su.st0 list1 gv2 gv3 rv4 rv5 x6 gv7 gv8 gv9 gv10 gv11)) (fun ov14 ov15 ov16 ov17 ov18 => kv (.exit 0) (impl_reduced_su.sx0_0 gv2 gv3 rv4 rv5 ov14 ov15 ov16 ov17 ov18)) list1 gv3 x6 gv7 gv8 gv9 gv10 gv11) := by kernel_rfl

theorem impl_reduced_su.b0_eq {ρ : Type} (N : Nat) (K : AV → Heap → Option ρ) (L0 : St → Option ρ) (list1 : Nat) (gv2 : Nat) (gv3 : Nat → Int) (rv4 : Nat → Int) (rv5 : Nat → Int) (x6 : Int) (gv7 : Nat) (gv8 : Nat) (gv9 : Nat → Nat) (gv10 : Nat → Nat) (gv11 : Nat → Int) :
    xcode (E59 N) ents impl_reduced_su.kp 1 N (cL (cK (cB (cA (cB (cB impl_reduced_su.bd)))))) 0 (impl_reduced_su.st0 list1 gv2 gv3 rv4 rv5 x6 gv7 gv8 gv9 gv10 gv11) (roundK impl_reduced_su.kp 1 0 L0 (impl_reduced_su.k0 N K gv2 gv3)) = (impl_reduced_su.b0 N (fun d0 d1 => K (.slice true 1 0 d0 .whole 8) [⟨false, .flat gv2 (.ints .u8 gv3)⟩, ⟨true, .flat 0 (.ints .u8 d1)⟩]) (fun x6 gv7 gv8 gv9 gv10 gv11 => L0 (impl_reduced_su.st0 list1 gv2 gv3 rv4 rv5 x6 gv7 gv8 gv9 gv10 gv11)) (fun ov14 ov15 ov16 ov17 ov18 => (impl_reduced_su.k0 N K gv2 gv3) (.exit 0) (impl_reduced_su.sx0_0 gv2 gv3 rv4 rv5 ov14 ov15 ov16 ov17 ov18)) list1 gv3 x6 gv7 gv8 gv9 gv10 gv11) := by
  have h := impl_reduced_su.b0_gen N K L0 (impl_reduced_su.k0 N K gv2 gv3) list1 gv2 gv3 rv4 rv5 x6 gv7 gv8 gv9 gv10 gv11
  rw [impl_reduced_su.k0_mix] at h
  exact h

theorem impl_reduced_su.a0_0_eq {ρ : Type} (N : Nat) (K : AV → Heap → Option ρ) (gv2 : Nat) (gv3 : Nat → Int) (rv4 : Nat → Int) (rv5 : Nat → Int) (ov14 : Nat) (ov15 : Nat) (ov16 : Nat → Nat) (ov17 : Nat → Nat) (ov18 : Nat → Int) :
    (impl_reduced_su.k0 N K gv2 gv3) (.exit 0) (impl_reduced_su.sx0_0 gv2 gv3 rv4 rv5 ov14 ov15 ov16 ov17 ov18) = (impl_reduced_su.a0_0 N (fun d0 d1 => K (.slice true 1 0 d0 .whole 8) [⟨false, .flat gv2 (.ints .u8 gv3)⟩, ⟨true, .flat 0 (.ints .u8 d1)⟩]) (fun rv20 rv22 rv23 rv24 rv25 outv27 x28 gv29 => xloop (xcode (E59 N) ents impl_reduced_su.kp 1 N (cL (cK (cB (cA (cB (cB (cB (cB (cB impl_reduced_su.bd))))))))) 2) impl_reduced_su.kp 1 2 N (impl_reduced_su.st1 gv2 gv3 rv20 rv22 rv23 rv24 rv25 outv27 x28 gv29) (impl_reduced_su.k1 N K gv2 gv3)) rv4 rv5 ov14 ov15 ov16 ov17 ov18) := by kernel_rfl

theorem impl_reduced_su.l1_eq {ρ : Type} (N : Nat) (K : AV → Heap → Option ρ) (gv2 : Nat) (gv3 : Nat → Int) (rv20 : Nat) (rv22 : Nat) (rv23 : Nat → Nat) (rv24 : Nat → Nat) (rv25 : Nat → Int) :
    ∀ (m : Nat) (outv27 : Nat) (x28 : Int) (gv29 : Nat → Int), xloop (xcode (E59 N) ents impl_reduced_su.kp 1 N (cL (cK (cB (cA (cB (cB (cB (cB (cB impl_reduced_su.bd))))))))) 2) impl_reduced_su.kp 1 2 m (impl_reduced_su.st1 gv2 gv3 rv20 rv22 rv23 rv24 rv25 outv27 x28 gv29) (impl_reduced_su.k1 N K gv2 gv3) = (impl_reduced_su.l1 N (fun d0 d1 => K (.slice true 1 0 d0 .whole 8) [⟨false, .flat gv2 (.ints .u8 gv3)⟩, ⟨true, .flat 0 (.ints .u8 d1)⟩]) rv20 rv23 rv24 rv25 (fun ov30 ov31 => (impl_reduced_su.k1 N K gv2 gv3) (.exit 2) (impl_reduced_su.sx1_0 gv2 gv3 ov30 ov31)) m outv27 x28 gv29) := by
  intro m
  induction m with
  | zero => intros; rfl
  | succ m ih =>
    intro outv27 x28 gv29
    refine (impl_reduced_su.b1_eq N K (fun s => xloop (xcode (E59 N) ents impl_reduced_su.kp 1 N (cL (cK (cB (cA (cB (cB (cB (cB (cB impl_reduced_su.bd))))))))) 2) impl_reduced_su.kp 1 2 m s (impl_reduced_su.k1 N K gv2 gv3)) gv2 gv3 rv20 rv22 rv23 rv24 rv25 outv27 x28 gv29).trans ?_
    simp only [ih]
    kernel_rfl

theorem impl_reduced_su.l0_eq {ρ : Type} (N : Nat) (K : AV → Heap → Option ρ) (list1 : Nat) (gv2 : Nat) (gv3 : Nat → Int) (rv4 : Nat → Int) (rv5 : Nat → Int) :
    ∀ (m : Nat) (x6 : Int) (gv7 : Nat) (gv8 : Nat) (gv9 : Nat → Nat) (gv10 : Nat → Nat) (gv11 : Nat → Int), xloop (xcode (E59 N) ents impl_reduced_su.kp 1 N (cL (cK (cB (cA (cB (cB impl_reduced_su.bd)))))) 0) impl_reduced_su.kp 1 0 m (impl_reduced_su.st0 list1 gv2 gv3 rv4 rv5 x6 gv7 gv8 gv9 gv10 gv11) (impl_reduced_su.k0 N K gv2 gv3) = (impl_reduced_su.l0 N (fun d0 d1 => K (.slice true 1 0 d0 .whole 8) [⟨false, .flat gv2 (.ints .u8 gv3)⟩, ⟨true, .flat 0 (.ints .u8 d1)⟩]) list1 gv3 (fun ov14 ov15 ov16 ov17 ov18 => (impl_reduced_su.k0 N K gv2 gv3) (.exit 0) (impl_reduced_su.sx0_0 gv2 gv3 rv4 rv5 ov14 ov15 ov16 ov17 ov18)) m x6 gv7 gv8 gv9 gv10 gv11) := by
  intro m
  induction m with
  | zero => intros; rfl
  | succ m ih =>
    intro x6 gv7 gv8 gv9 gv10 gv11
    refine (impl_reduced_su.b0_eq N K (fun s => xloop (xcode (E59 N) ents impl_reduced_su.kp 1 N (cL (cK (cB (cA (cB (cB impl_reduced_su.bd)))))) 0) impl_reduced_su.kp 1 0 m s (impl_reduced_su.k0 N K gv2 gv3)) list1 gv2 gv3 rv4 rv5 x6 gv7 gv8 gv9 gv10 gv11).trans ?_
    simp only [ih]
    kernel_rfl

theorem impl_reduced_su.s_eq {ρ : Type} (N : Nat) (K : AV → Heap → Option ρ) (p0 : Int) (list1 : Nat) (gv2 : Nat) (gv3 : Nat → Int) :
    xbody (E59 N) ents impl_reduced_su.kp N Go.Proofs.Try.f83 impl_reduced_su.bd [.int .i64 (p0), .slice true 0 0 list1 .unk 8] [⟨false, .flat gv2 (.ints .u8 gv3)⟩] K = (impl_reduced_su.s N (fun d0 d1 => K (.slice true 1 0 d0 .whole 8) [⟨false, .flat gv2 (.ints .u8 gv3)⟩, ⟨true, .flat 0 (.ints .u8 d1)⟩]) (fun rv4 rv5 x6 gv7 gv8 gv9 gv10 gv11 => xloop (xcode (E59 N) ents impl_reduced_su.kp 1 N (cL (cK (cB (cA (cB (cB impl_reduced_su.bd)))))) 0) impl_reduced_su.kp 1 0 N (impl_reduced_su.st0 list1 gv2 gv3 rv4 rv5 x6 gv7 gv8 gv9 gv10 gv11) (impl_reduced_su.k0 N K gv2 gv3)) p0) := by kernel_rfl

theorem impl_reduced_su.eq {ρ : Type} (N : Nat) (K : AV → Heap → Option ρ) (p0 : Int) (list1 : Nat) (gv2 : Nat) (gv3 : Nat → Int) :
    xbody (E59 N) ents impl_reduced_su.kp N Go.Proofs.Try.f83 impl_reduced_su.bd [.int .i64 (p0), .slice true 0 0 list1 .unk 8] [⟨false, .flat gv2 (.ints .u8 gv3)⟩] K = (impl_reduced_su N (fun d0 d1 => K (.slice true 1 0 d0 .whole 8) [⟨false, .flat gv2 (.ints .u8 gv3)⟩, ⟨true, .flat 0 (.ints .u8 d1)⟩]) p0 list1 gv2 gv3) := by
  refine (impl_reduced_su.s_eq N K p0 list1 gv2 gv3).trans ?_
  simp only [impl_reduced_su.l0_eq, impl_reduced_su.a0_0_eq, impl_reduced_su.l1_eq, impl_reduced_su.a1_0_eq]
  kernel_rfl

noncomputable def impl_reduced_su.en (N : Nat) (ρ : Type) : List AV → Heap → (AV → Heap → Option ρ) → Option ρ
  | [.int .i64 (p0), .slice true 0 0 list1 .unk 8], [⟨false, .flat gv2 (.ints .u8 gv3)⟩], K => (impl_reduced_su N (fun d0 d1 => K (.slice true 1 0 d0 .whole 8) [⟨false, .flat gv2 (.ints .u8 gv3)⟩, ⟨true, .flat 0 (.ints .u8 d1)⟩]) p0 list1 gv2 gv3)
  | _, _, _ => none

theorem impl_reduced_su.en_ok (N : Nat) (hE : EnvOk (E59 N) ents) (ρ : Type) (args : List AV) (sh : Heap) (K : AV → Heap → Option ρ) (r : ρ) (h : impl_reduced_su.en N ρ args sh K = some r) : ∃ v sh', K v sh' = some r ∧ FnOk (E59 N).P 83 args sh v sh' := by
  unfold impl_reduced_su.en at h
  split at h
  · exact fn_ok hE (kp := impl_reduced_su.kp) (N := N) Go.Proofs.Try.func83 (c := impl_reduced_su.bd) (by kernel_rfl) ((impl_reduced_su.eq N _ _ _ _ _).trans h)
  · cases h

noncomputable def E60 (N : Nat) : Env := (E59 N).add 83 (impl_reduced_su.en N)

theorem E60_ok (N : Nat) : EnvOk (E60 N) ents := Env.add_ok (E59_ok N) (impl_reduced_su.en_ok N (E59_ok N))

noncomputable def impl_LeastSubcoalgebra.kp : Keeps := ⟨[(0, [2, 7, 8, 9, 24, 25], [], [])], [(0, [7, 8], [], [])], [(.slot 4, .unk (.ints .u8 (fun _ => 0)) 8)]⟩

noncomputable def impl_LeastSubcoalgebra.bd : Code := bodyOf Go.Proofs.Try.f45

noncomputable def impl_LeastSubcoalgebra.fin {ρ : Type} (N : Nat) (K : AV → Heap → Option ρ) : XE → St → Option ρ := finK (E60 N) impl_LeastSubcoalgebra.kp.fins Go.Proofs.Try.f45 [] K

noncomputable def impl_LeastSubcoalgebra.k0 {ρ : Type} (N : Nat) (K : AV → Heap → Option ρ) : XE → St → Option ρ := (blockK impl_LeastSubcoalgebra.kp 0 0 (seqK (xcode (E60 N) ents impl_LeastSubcoalgebra.kp 0 N (cB (cB (cB (cB (cB impl_LeastSubcoalgebra.bd))))) 0) (impl_LeastSubcoalgebra.fin N K)))

theorem impl_LeastSubcoalgebra.k0_mix {ρ : Type} (N : Nat) (K : AV → Heap → Option ρ) : mixK (impl_LeastSubcoalgebra.fin N K .ret) (impl_LeastSubcoalgebra.k0 N K) = (impl_LeastSubcoalgebra.k0 N K) := by
  funext e s; cases e <;> kernel_rfl

noncomputable def impl_LeastSubcoalgebra.st0 (c0 : Nat → Int) (c1 : Nat → Int) (rv4 : Nat → Int) (rv5 : Nat → Int) (list6 : Nat) (x7 : Int) (gv8 : Nat → Int) : St := ⟨sl 43 [(2, .sptr [(0, 2), (1, 520)]), (7, .sptr [(2, 2)]), (8, .slice true 3 0 list6 .whole 8), (9, .sptr [(4, 64)]), (24, .int .i64 ((rv4 1))), (25, .int .i64 (x7))], [⟨true, .flat 2 (.ints .i64 c0)⟩, ⟨true, .flat 520 (.ints .u8 c1)⟩, ⟨true, .flat 2 (.ints .i64 rv4)⟩, ⟨true, .flat 0 (.ints .u8 gv8)⟩, ⟨true, .flat 64 (.ints .u8 rv5)⟩]⟩

noncomputable def impl_LeastSubcoalgebra.sx0_0 (rv4 : Nat → Int) (ov11 : Nat) (ov12 : Nat → Int) : St := ⟨sl 43 [(7, .sptr [(0, 2)]), (8, .slice true 1 0 ov11 .whole 8)], [⟨true, .flat 2 (.ints .i64 rv4)⟩, ⟨true, .flat 0 (.ints .u8 ov12)⟩]⟩

theorem impl_LeastSubcoalgebra.b0_gen {ρ : Type} (N : Nat) (K : AV → Heap → Option ρ) (L0 : St → Option ρ) (kv : XE → St → Option ρ) (c0 : Nat → Int) (c1 : Nat → Int) (rv4 : Nat → Int) (rv5 : Nat → Int) (list6 : Nat) (x7 : Int) (gv8 : Nat → Int) :
    xcode (E60 N) ents impl_LeastSubcoalgebra.kp 0 N (cL (cK (cB (cA (cB (cB (cB (cB impl_LeastSubcoalgebra.bd)))))))) 0 (impl_LeastSubcoalgebra.st0 c0 c1 rv4 rv5 list6 x7 gv8) (roundK impl_LeastSubcoalgebra.kp 0 0 L0 (mixK (impl_LeastSubcoalgebra.fin N K .ret) kv)) = (impl_LeastSubcoalgebra.b0 N (fun d0 d1 d2 => K (.tup [.slice false 0 0 d0 .unk 8, .int .i64 (d1)]) [⟨true, .flat 0 (.ints .u8 d2)⟩]) (fun list6 x7 gv8 => L0 (impl_LeastSubcoalgebra.st0 c0 c1 rv4 rv5 list6 x7 gv8)) (fun ov11 ov12 => kv (.exit 0) (impl_LeastSubcoalgebra.sx0_0 rv4 ov11 ov12)) c0 c1 rv4 rv5 list6 x7 gv8) := by kernel_rfl

theorem impl_LeastSubcoalgebra.b0_eq {ρ : Type} (N : Nat) (K : AV → Heap → Option ρ) (L0 : St → Option ρ) (c0 : Nat → Int) (c1 : Nat → Int) (rv4 : Nat → Int) (rv5 : Nat → Int) (list6 : Nat) (x7 : Int) (gv8 : Nat → Int) :
    xcode (E60 N) ents impl_LeastSubcoalgebra.kp 0 N (cL (cK (cB (cA (cB (cB (cB (cB impl_LeastSubcoalgebra.bd)))))))) 0 (impl_LeastSubcoalgebra.st0 c0 c1 rv4 rv5 list6 x7 gv8) (roundK impl_LeastSubcoalgebra.kp 0 0 L0 (impl_LeastSubcoalgebra.k0 N K)) = (impl_LeastSubcoalgebra.b0 N (fun d0 d1 d2 => K (.tup [.slice false 0 0 d0 .unk 8, .int .i64 (d1)]) [⟨true, .flat 0 (.ints .u8 d2)⟩]) (fun list6 x7 gv8 => L0 (impl_LeastSubcoalgebra.st0 c0 c1 rv4 rv5 list6 x7 gv8)) (fun ov11 ov12 => (impl_LeastSubcoalgebra.k0 N K) (.exit 0) (impl_LeastSubcoalgebra.sx0_0 rv4 ov11 ov12)) c0 c1 rv4 rv5 list6 x7 gv8) := by
  have h := impl_LeastSubcoalgebra.b0_gen N K L0 (impl_LeastSubcoalgebra.k0 N K) c0 c1 rv4 rv5 list6 x7 gv8
  rw [impl_LeastSubcoalgebra.k0_mix] at h
  exact h

theorem impl_LeastSubcoalgebra.a0_0_eq {ρ : Type} (N : Nat) (K : AV → Heap → Option ρ) (rv4 : Nat → Int) (ov11 : Nat) (ov12 : Nat → Int) :
    (impl_LeastSubcoalgebra.k0 N K) (.exit 0) (impl_LeastSubcoalgebra.sx0_0 rv4 ov11 ov12) = (impl_LeastSubcoalgebra.a0_0 N (fun d0 d1 d2 => K (.tup [.slice false 0 0 d0 .unk 8, .int .i64 (d1)]) [⟨true, .flat 0 (.ints .u8 d2)⟩]) rv4 ov11 ov12) := by kernel_rfl

theorem impl_LeastSubcoalgebra.l0_eq {ρ : Type} (N : Nat) (K : AV → Heap → Option ρ) (c0 : Nat → Int) (c1 : Nat → Int) (rv4 : Nat → Int) (rv5 : Nat → Int) :
    ∀ (m : Nat) (list6 : Nat) (x7 : Int) (gv8 : Nat → Int), xloop (xcode (E60 N) ents impl_LeastSubcoalgebra.kp 0 N (cL (cK (cB (cA (cB (cB (cB (cB impl_LeastSubcoalgebra.bd)))))))) 0) impl_LeastSubcoalgebra.kp 0 0 m (impl_LeastSubcoalgebra.st0 c0 c1 rv4 rv5 list6 x7 gv8) (impl_LeastSubcoalgebra.k0 N K) = (impl_LeastSubcoalgebra.l0 N (fun d0 d1 d2 => K (.tup [.slice false 0 0 d0 .unk 8, .int .i64 (d1)]) [⟨true, .flat 0 (.ints .u8 d2)⟩]) c0 c1 rv4 rv5 (fun ov11 ov12 => (impl_LeastSubcoalgebra.k0 N K) (.exit 0) (impl_LeastSubcoalgebra.sx0_0 rv4 ov11 ov12)) m list6 x7 gv8) := by
  intro m
  induction m with
  | zero => intros; rfl
  | succ m ih =>
    intro list6 x7 gv8
    refine (impl_LeastSubcoalgebra.b0_eq N K (fun s => xloop (xcode (E60 N) ents impl_LeastSubcoalgebra.kp 0 N (cL (cK (cB (cA (cB (cB (cB (cB impl_LeastSubcoalgebra.bd)))))))) 0) impl_LeastSubcoalgebra.kp 0 0 m s (impl_LeastSubcoalgebra.k0 N K)) c0 c1 rv4 rv5 list6 x7 gv8).trans ?_
    simp only [ih]
    kernel_rfl

theorem impl_LeastSubcoalgebra.s_eq {ρ : Type} (N : Nat) (K : AV → Heap → Option ρ) (c0 : Nat → Int) (c1 : Nat → Int) (v2 : Nat → Int) :
    xbody (E60 N) ents impl_LeastSubcoalgebra.kp N Go.Proofs.Try.f45 impl_LeastSubcoalgebra.bd [.agg [⟨.i64, 2, c0⟩, ⟨.u8, 520, c1⟩], .agg [⟨.u8, 8, v2⟩]] [] K = (impl_LeastSubcoalgebra.s N (fun d0 d1 d2 => K (.tup [.slice false 0 0 d0 .unk 8, .int .i64 (d1)]) [⟨true, .flat 0 (.ints .u8 d2)⟩]) (fun rv4 rv5 list6 x7 gv8 => xloop (xcode (E60 N) ents impl_LeastSubcoalgebra.kp 0 N (cL (cK (cB (cA (cB (cB (cB (cB impl_LeastSubcoalgebra.bd)))))))) 0) impl_LeastSubcoalgebra.kp 0 0 N (impl_LeastSubcoalgebra.st0 c0 c1 rv4 rv5 list6 x7 gv8) (impl_LeastSubcoalgebra.k0 N K)) c0 c1 v2) := by kernel_rfl

theorem impl_LeastSubcoalgebra.eq {ρ : Type} (N : Nat) (K : AV → Heap → Option ρ) (c0 : Nat → Int) (c1 : Nat → Int) (v2 : Nat → Int) :
    xbody (E60 N) ents impl_LeastSubcoalgebra.kp N Go.Proofs.Try.f45 impl_LeastSubcoalgebra.bd [.agg [⟨.i64, 2, c0⟩, ⟨.u8, 520, c1⟩], .agg [⟨.u8, 8, v2⟩]] [] K = (impl_LeastSubcoalgebra N (fun d0 d1 d2 => K (.tup [.slice false 0 0 d0 .unk 8, .int .i64 (d1)]) [⟨true, .flat 0 (.ints .u8 d2)⟩]) c0 c1 v2) := by
  refine (impl_LeastSubcoalgebra.s_eq N K c0 c1 v2).trans ?_
  simp only [impl_LeastSubcoalgebra.l0_eq, impl_LeastSubcoalgebra.a0_0_eq]
  kernel_rfl

noncomputable def impl_LeastSubcoalgebra.en (N : Nat) (ρ : Type) : List AV → Heap → (AV → Heap → Option ρ) → Option ρ
  | [.agg [⟨.i64, 2, c0⟩, ⟨.u8, 520, c1⟩], .agg [⟨.u8, 8, v2⟩]], [], K => (impl_LeastSubcoalgebra N (fun d0 d1 d2 => K (.tup [.slice false 0 0 d0 .unk 8, .int .i64 (d1)]) [⟨true, .flat 0 (.ints .u8 d2)⟩]) c0 c1 v2)
  | _, _, _ => none

theorem impl_LeastSubcoalgebra.en_ok (N : Nat) (hE : EnvOk (E60 N) ents) (ρ : Type) (args : List AV) (sh : Heap) (K : AV → Heap → Option ρ) (r : ρ) (h : impl_LeastSubcoalgebra.en N ρ args sh K = some r) : ∃ v sh', K v sh' = some r ∧ FnOk (E60 N).P 45 args sh v sh' := by
  unfold impl_LeastSubcoalgebra.en at h
  split at h
  · exact fn_ok hE (kp := impl_LeastSubcoalgebra.kp) (N := N) Go.Proofs.Try.func45 (c := impl_LeastSubcoalgebra.bd) (by kernel_rfl) ((impl_LeastSubcoalgebra.eq N _ _ _ _).trans h)
  · cases h

noncomputable def E61 (N : Nat) : Env := (E60 N).add 45 (impl_LeastSubcoalgebra.en N)

theorem E61_ok (N : Nat) : EnvOk (E61 N) ents := Env.add_ok (E60_ok N) (impl_LeastSubcoalgebra.en_ok N (E60_ok N))

noncomputable def laws_eqVector.kp : Keeps := ⟨[(0, [2, 3, 5], [], [])], [(0, [], [], [])], []⟩

noncomputable def laws_eqVector.bd : Code := bodyOf Go.Proofs.Try.f69

noncomputable def laws_eqVector.fin {ρ : Type} (N : Nat) (K : AV → Heap → Option ρ) : XE → St → Option ρ := finK (E61 N) laws_eqVector.kp.fins Go.Proofs.Try.f69 [] K

noncomputable def laws_eqVector.k0 {ρ : Type} (N : Nat) (K : AV → Heap → Option ρ) : XE → St → Option ρ := (blockK laws_eqVector.kp 0 0 (seqK (xcode (E61 N) ents laws_eqVector.kp 0 N (cB (cB laws_eqVector.bd)) 0) (laws_eqVector.fin N K)))

theorem laws_eqVector.k0_mix {ρ : Type} (N : Nat) (K : AV → Heap → Option ρ) : mixK (laws_eqVector.fin N K .ret) (laws_eqVector.k0 N K) = (laws_eqVector.k0 N K) := by
  funext e s; cases e <;> kernel_rfl

noncomputable def laws_eqVector.st0 (av0 : Nat → Int) (bv1 : Nat → Int) (i2 : Int) : St := ⟨sl 17 [(2, .sptr [(0, 8)]), (3, .sptr [(1, 8)]), (5, .int .i64 (i2))], [⟨true, .flat 8 (.ints .u8 av0)⟩, ⟨true, .flat 8 (.ints .u8 bv1)⟩]⟩

noncomputable def laws_eqVector.sx0_0 : St := ⟨sl 17 [], []⟩

theorem laws_eqVector.b0_gen {ρ : Type} (N : Nat) (K : AV → Heap → Option ρ) (L0 : St → Option ρ) (kv : XE → St → Option ρ) (av0 : Nat → Int) (bv1 : Nat → Int) (i2 : Int) :
    xcode (E61 N) ents laws_eqVector.kp 0 N (cL (cK (cB (cA (cB laws_eqVector.bd))))) 0 (laws_eqVector.st0 av0 bv1 i2) (roundK laws_eqVector.kp 0 0 L0 (mixK (laws_eqVector.fin N K .ret) kv)) = (laws_eqVector.b0 N (fun d0 => K (.bool (d0)) []) (fun i2 => L0 (laws_eqVector.st0 av0 bv1 i2)) (kv (.exit 0) (laws_eqVector.sx0_0)) av0 bv1 i2) := by kernel_rfl

theorem laws_eqVector.b0_eq {ρ : Type} (N : Nat) (K : AV → Heap → Option ρ) (L0 : St → Option ρ) (av0 : Nat → Int) (bv1 : Nat → Int) (i2 : Int) :
    xcode (E61 N) ents laws_eqVector.kp 0 N (cL (cK (cB (cA (cB laws_eqVector.bd))))) 0 (laws_eqVector.st0 av0 bv1 i2) (roundK laws_eqVector.kp 0 0 L0 (laws_eqVector.k0 N K)) = (laws_eqVector.b0 N (fun d0 => K (.bool (d0)) []) (fun i2 => L0 (laws_eqVector.st0 av0 bv1 i2)) ((laws_eqVector.k0 N K) (.exit 0) (laws_eqVector.sx0_0)) av0 bv1 i2) := by
  have h := laws_eqVector.b0_gen N K L0 (laws_eqVector.k0 N K) av0 bv1 i2
  rw [laws_eqVector.k0_mix] at h
  exact h

theorem laws_eqVector.a0_0_eq {ρ : Type} (N : Nat) (K : AV → Heap → Option ρ) :
    (laws_eqVector.k0 N K) (.exit 0) (laws_eqVector.sx0_0) = (laws_eqVector.a0_0 N (fun d0 => K (.bool (d0)) [])) := by kernel_rfl

theorem laws_eqVector.l0_eq {ρ : Type} (N : Nat) (K : AV → Heap → Option ρ) (av0 : Nat → Int) (bv1 : Nat → Int) :
    ∀ (m : Nat) (i2 : Int), xloop (xcode (E61 N) ents laws_eqVector.kp 0 N (cL (cK (cB (cA (cB laws_eqVector.bd))))) 0) laws_eqVector.kp 0 0 m (laws_eqVector.st0 av0 bv1 i2) (laws_eqVector.k0 N K) = (laws_eqVector.l0 N (fun d0 => K (.bool (d0)) []) av0 bv1 ((laws_eqVector.k0 N K) (.exit 0) (laws_eqVector.sx0_0)) m i2) := by
  intro m
  induction m with
  | zero => intros; rfl
  | succ m ih =>
    intro i2
    refine (laws_eqVector.b0_eq N K (fun s => xloop (xcode (E61 N) ents laws_eqVector.kp 0 N (cL (cK (cB (cA (cB laws_eqVector.bd))))) 0) laws_eqVector.kp 0 0 m s (laws_eqVector.k0 N K)) av0 bv1 i2).trans ?_
    simp only [ih]
    kernel_rfl

theorem laws_eqVector.s_eq {ρ : Type} (N : Nat) (K : AV → Heap → Option ρ) (av0 : Nat → Int) (bv1 : Nat → Int) :
    xbody (E61 N) ents laws_eqVector.kp N Go.Proofs.Try.f69 laws_eqVector.bd [.agg [⟨.u8, 8, av0⟩], .agg [⟨.u8, 8, bv1⟩]] [] K = (laws_eqVector.s N (fun d0 => K (.bool (d0)) []) (fun i2 => xloop (xcode (E61 N) ents laws_eqVector.kp 0 N (cL (cK (cB (cA (cB laws_eqVector.bd))))) 0) laws_eqVector.kp 0 0 N (laws_eqVector.st0 av0 bv1 i2) (laws_eqVector.k0 N K))) := by kernel_rfl

theorem laws_eqVector.eq {ρ : Type} (N : Nat) (K : AV → Heap → Option ρ) (av0 : Nat → Int) (bv1 : Nat → Int) :
    xbody (E61 N) ents laws_eqVector.kp N Go.Proofs.Try.f69 laws_eqVector.bd [.agg [⟨.u8, 8, av0⟩], .agg [⟨.u8, 8, bv1⟩]] [] K = (laws_eqVector N (fun d0 => K (.bool (d0)) []) av0 bv1) := by
  refine (laws_eqVector.s_eq N K av0 bv1).trans ?_
  simp only [laws_eqVector.l0_eq, laws_eqVector.a0_0_eq]
  kernel_rfl

noncomputable def laws_eqVector.en (N : Nat) (ρ : Type) : List AV → Heap → (AV → Heap → Option ρ) → Option ρ
  | [.agg [⟨.u8, 8, av0⟩], .agg [⟨.u8, 8, bv1⟩]], [], K => (laws_eqVector N (fun d0 => K (.bool (d0)) []) av0 bv1)
  | _, _, _ => none

theorem laws_eqVector.en_ok (N : Nat) (hE : EnvOk (E61 N) ents) (ρ : Type) (args : List AV) (sh : Heap) (K : AV → Heap → Option ρ) (r : ρ) (h : laws_eqVector.en N ρ args sh K = some r) : ∃ v sh', K v sh' = some r ∧ FnOk (E61 N).P 69 args sh v sh' := by
  unfold laws_eqVector.en at h
  split at h
  · exact fn_ok hE (kp := laws_eqVector.kp) (N := N) Go.Proofs.Try.func69 (c := laws_eqVector.bd) (by kernel_rfl) ((laws_eqVector.eq N _ _ _).trans h)
  · cases h

noncomputable def E62 (N : Nat) : Env := (E61 N).add 69 (laws_eqVector.en N)

theorem E62_ok (N : Nat) : EnvOk (E62 N) ents := Env.add_ok (E61_ok N) (laws_eqVector.en_ok N (E61_ok N))

noncomputable def laws_eqVectorS_susu.kp : Keeps := ⟨[(0, [0, 1, 5], [], [])], [(0, [], [], [])], []⟩

noncomputable def laws_eqVectorS_susu.bd : Code := bodyOf Go.Proofs.Try.f38

noncomputable def laws_eqVectorS_susu.fin {ρ : Type} (N : Nat) (K : AV → Heap → Option ρ) (gv2 : Nat) (gv3 : Nat → Int) (gv4 : Nat) (gv5 : Nat → Int) : XE → St → Option ρ := finK (E62 N) laws_eqVectorS_susu.kp.fins Go.Proofs.Try.f38 [⟨false, .flat gv2 (.ints .u8 gv3)⟩, ⟨false, .flat gv4 (.ints .u8 gv5)⟩] K

noncomputable def laws_eqVectorS_susu.k0 {ρ : Type} (N : Nat) (K : AV → Heap → Option ρ) (gv2 : Nat) (gv3 : Nat → Int) (gv4 : Nat) (gv5 : Nat → Int) : XE → St → Option ρ := (blockK laws_eqVectorS_susu.kp 2 0 (seqK (xcode (E62 N) ents laws_eqVectorS_susu.kp 2 N (cB (cB (cB laws_eqVectorS_susu.bd))) 0) (laws_eqVectorS_susu.fin N K gv2 gv3 gv4 gv5)))

theorem laws_eqVectorS_susu.k0_mix {ρ : Type} (N : Nat) (K : AV → Heap → Option ρ) (gv2 : Nat) (gv3 : Nat → Int) (gv4 : Nat) (gv5 : Nat → Int) : mixK (laws_eqVectorS_susu.fin N K gv2 gv3 gv4 gv5 .ret) (laws_eqVectorS_susu.k0 N K gv2 gv3 gv4 gv5) = (laws_eqVectorS_susu.k0 N K gv2 gv3 gv4 gv5) := by
  funext e s; cases e <;> kernel_rfl

noncomputable def laws_eqVectorS_susu.st0 (av0 : Nat) (bv1 : Nat) (gv2 : Nat) (gv3 : Nat → Int) (gv4 : Nat) (gv5 : Nat → Int) (i6 : Int) : St := ⟨sl 27 [(0, .slice false 0 0 av0 .unk 8), (1, .slice false 1 0 bv1 .unk 8), (5, .int .i64 (i6))], [⟨false, .flat gv2 (.ints .u8 gv3)⟩, ⟨false, .flat gv4 (.ints .u8 gv5)⟩]⟩

noncomputable def laws_eqVectorS_susu.sx0_0 (gv2 : Nat) (gv3 : Nat → Int) (gv4 : Nat) (gv5 : Nat → Int) : St := ⟨sl 27 [], [⟨false, .flat gv2 (.ints .u8 gv3)⟩, ⟨false, .flat gv4 (.ints .u8 gv5)⟩]⟩

theorem laws_eqVectorS_susu.b0_gen {ρ : Type} (N : Nat) (K : AV → Heap → Option ρ) (L0 : St → Option ρ) (kv : XE → St → Option ρ) (av0 : Nat) (bv1 : Nat) (gv2 : Nat) (gv3 : Nat → Int) (gv4 : Nat) (gv5 : Nat → Int) (i6 : Int) :
    xcode (E62 N) ents laws_eqVectorS_susu.kp 2 N (cL (cK (cB (cA (cB (cB laws_eqVectorS_susu.bd)))))) 0 (laws_eqVectorS_susu.st0 av0 bv1 gv2 gv3 gv4 gv5 i6) (roundK laws_eqVectorS_susu.kp 2 0 L0 (mixK (laws_eqVectorS_susu.fin N K gv2 gv3 gv4 gv5 .ret) kv)) = (laws_eqVectorS_susu.b0 N (fun d0 => K (.bool (d0)) [⟨false, .flat gv2 (.ints .u8 gv3)⟩, ⟨false, .flat gv4 (.ints .u8 gv5)⟩]) (fun i6 => L0 (laws_eqVectorS_susu.st0 av0 bv1 gv2 gv3 gv4 gv5 i6)) (kv (.exit 0) (laws_eqVectorS_susu.sx0_0 gv2 gv3 gv4 gv5)) av0 bv1 gv3 gv5 i6) := by kernel_rfl

theorem laws_eqVectorS_susu.b0_eq {ρ : Type} (N : Nat) (K : AV → Heap → Option ρ) (L0 : St → Option ρ) (av0 : Nat) (bv1 : Nat) (gv2 : Nat) (gv3 : Nat → Int) (gv4 : Nat) (gv5 : Nat → Int) (i6 : Int) :
    xcode (E62 N) ents laws_eqVectorS_susu.kp 2 N (cL (cK (cB (cA (cB (cB laws_eqVectorS_susu.bd)))))) 0 (laws_eqVectorS_susu.st0 av0 bv1 gv2 gv3 gv4 gv5 i6) (roundK laws_eqVectorS_susu.kp 2 0 L0 (laws_eqVectorS_susu.k0 N K gv2 gv3 gv4 gv5)) = (laws_eqVectorS_susu.b0 N (fun d0 => K (.bool (d0)) [⟨false, .flat gv2 (.ints .u8 gv3)⟩, ⟨false, .flat gv4 (.ints .u8 gv5)⟩]) (fun i6 => L0 (laws_eqVectorS_susu.st0 av0 bv1 gv2 gv3 gv4 gv5 i6)) ((laws_eqVectorS_susu.k0 N K gv2 gv3 gv4 gv5) (.exit 0) (laws_eqVectorS_susu.sx0_0 gv2 gv3 gv4 gv5)) av0 bv1 gv3 gv5 i6) := by
  have h := laws_eqVectorS_susu.b0_gen N K L0 (laws_eqVectorS_susu.k0 N K gv2 gv3 gv4 gv5) av0 bv1 gv2 gv3 gv4 gv5 i6
  rw [laws_eqVectorS_susu.k0_mix] at h
  exact h

theorem laws_eqVectorS_susu.a0_0_eq {ρ : Type} (N : Nat) (K : AV → Heap → Option ρ) (gv2 : Nat) (gv3 : Nat → Int) (gv4 : Nat) (gv5 : Nat → Int) :
    (laws_eqVectorS_susu.k0 N K gv2 gv3 gv4 gv5) (.exit 0) (laws_eqVectorS_susu.sx0_0 gv2 gv3 gv4 gv5) = (laws_eqVectorS_susu.a0_0 N (fun d0 => K (.bool (d0)) [⟨false, .flat gv2 (.ints .u8 gv3)⟩, ⟨false, .flat gv4 (.ints .u8 gv5)⟩])) := by kernel_rfl

theorem laws_eqVectorS_susu.l0_eq {ρ : Type} (N : Nat) (K : AV → Heap → Option ρ) (av0 : Nat) (bv1 : Nat) (gv2 : Nat) (gv3 : Nat → Int) (gv4 : Nat) (gv5 : Nat → Int) :
    ∀ (m : Nat) (i6 : Int), xloop (xcode (E62 N) ents laws_eqVectorS_susu.kp 2 N (cL (cK (cB (cA (cB (cB laws_eqVectorS_susu.bd)))))) 0) laws_eqVectorS_susu.kp 2 0 m (laws_eqVectorS_susu.st0 av0 bv1 gv2 gv3 gv4 gv5 i6) (laws_eqVectorS_susu.k0 N K gv2 gv3 gv4 gv5) = (laws_eqVectorS_susu.l0 N (fun d0 => K (.bool (d0)) [⟨false, .flat gv2 (.ints .u8 gv3)⟩, ⟨false, .flat gv4 (.ints .u8 gv5)⟩]) av0 bv1 gv3 gv5 ((laws_eqVectorS_susu.k0 N K gv2 gv3 gv4 gv5) (.exit 0) (laws_eqVectorS_susu.sx0_0 gv2 gv3 gv4 gv5)) m i6) := by
  intro m
  induction m with
  | zero => intros; rfl
  | succ m ih =>
    intro i6
    refine (laws_eqVectorS_susu.b0_eq N K (fun s => xloop (xcode (E62 N) ents laws_eqVectorS_susu.kp 2 N (cL (cK (cB (cA (cB (cB laws_eqVectorS_susu.bd)))))) 0) laws_eqVectorS_susu.kp 2 0 m s (laws_eqVectorS_susu.k0 N K gv2 gv3 gv4 gv5)) av0 bv1 gv2 gv3 gv4 gv5 i6).trans ?_
    simp only [ih]
    kernel_rfl

theorem laws_eqVectorS_susu.s_eq {ρ : Type} (N : Nat) (K : AV → Heap → Option ρ) (av0 : Nat) (bv1 : Nat) (gv2 : Nat) (gv3 : Nat → Int) (gv4 : Nat) (gv5 : Nat → Int) :
    xbody (E62 N) ents laws_eqVectorS_susu.kp N Go.Proofs.Try.f38 laws_eqVectorS_susu.bd [.slice false 0 0 av0 .unk 8, .slice false 1 0 bv1 .unk 8] [⟨false, .flat gv2 (.ints .u8 gv3)⟩, ⟨false, .flat gv4 (.ints .u8 gv5)⟩] K = (laws_eqVectorS_susu.s N (fun d0 => K (.bool (d0)) [⟨false, .flat gv2 (.ints .u8 gv3)⟩, ⟨false, .flat gv4 (.ints .u8 gv5)⟩]) (fun i6 => xloop (xcode (E62 N) ents laws_eqVectorS_susu.kp 2 N (cL (cK (cB (cA (cB (cB laws_eqVectorS_susu.bd)))))) 0) laws_eqVectorS_susu.kp 2 0 N (laws_eqVectorS_susu.st0 av0 bv1 gv2 gv3 gv4 gv5 i6) (laws_eqVectorS_susu.k0 N K gv2 gv3 gv4 gv5)) av0 bv1) := by kernel_rfl

theorem laws_eqVectorS_susu.eq {ρ : Type} (N : Nat) (K : AV → Heap → Option ρ) (av0 : Nat) (bv1 : Nat) (gv2 : Nat) (gv3 : Nat → Int) (gv4 : Nat) (gv5 : Nat → Int) :
    xbody (E62 N) ents laws_eqVectorS_susu.kp N Go.Proofs.Try.f38 laws_eqVectorS_susu.bd [.slice false 0 0 av0 .unk 8, .slice false 1 0 bv1 .unk 8] [⟨false, .flat gv2 (.ints .u8 gv3)⟩, ⟨false, .flat gv4 (.ints .u8 gv5)⟩] K = (laws_eqVectorS_susu N (fun d0 => K (.bool (d0)) [⟨false, .flat gv2 (.ints .u8 gv3)⟩, ⟨false, .flat gv4 (.ints .u8 gv5)⟩]) av0 bv1 gv2 gv3 gv4 gv5) := by
  refine (laws_eqVectorS_susu.s_eq N K av0 bv1 gv2 gv3 gv4 gv5).trans ?_
  simp only [laws_eqVectorS_susu.l0_eq, laws_eqVectorS_susu.a0_0_eq]
  kernel_rfl

noncomputable def laws_eqVectorS_susu.en (N : Nat) (ρ : Type) : List AV → Heap → (AV → Heap → Option ρ) → Option ρ
  | [.slice false 0 0 av0 .unk 8, .slice false 1 0 bv1 .unk 8], [⟨false, .flat gv2 (.ints .u8 gv3)⟩, ⟨false, .flat gv4 (.ints .u8 gv5)⟩], K => (laws_eqVectorS_susu N (fun d0 => K (.bool (d0)) [⟨false, .flat gv2 (.ints .u8 gv3)⟩, ⟨false, .flat gv4 (.ints .u8 gv5)⟩]) av0 bv1 gv2 gv3 gv4 gv5)
  | _, _, _ => none

theorem laws_eqVectorS_susu.en_ok (N : Nat) (hE : EnvOk (E62 N) ents) (ρ : Type) (args : List AV) (sh : Heap) (K : AV → Heap → Option ρ) (r : ρ) (h : laws_eqVectorS_susu.en N ρ args sh K = some r) : ∃ v sh', K v sh' = some r ∧ FnOk (E62 N).P 38 args sh v sh' := by
  unfold laws_eqVectorS_susu.en at h
  split at h
  · exact fn_ok hE (kp := laws_eqVectorS_susu.kp) (N := N) Go.Proofs.Try.func38 (c := laws_eqVectorS_susu.bd) (by kernel_rfl) ((laws_eqVectorS_susu.eq N _ _ _ _ _ _ _).trans h)
  · cases h

noncomputable def E63 (N : Nat) : Env := (E62 N).add 38 (laws_eqVectorS_susu.en N)

theorem E63_ok (N : Nat) : EnvOk (E63 N) ents := Env.add_ok (E62_ok N) (laws_eqVectorS_susu.en_ok N (E62_ok N))

noncomputable def laws_markVectorS_su.kp : Keeps := ⟨[(0, [0, 1, 5], [], []), (2, [0, 1, 5, 6], [], [])], [(0, [1], [], []), (2, [0, 1, 5], [], [])], []⟩

noncomputable def laws_markVectorS_su.bd : Code := bodyOf Go.Proofs.Try.f39

noncomputable def laws_markVectorS_su.fin {ρ : Type} (N : Nat) (K : AV → Heap → Option ρ) (gv2 : Nat) (gv3 : Nat → Int) : XE → St → Option ρ := finK (E63 N) laws_markVectorS_su.kp.fins Go.Proofs.Try.f39 [⟨true, .flat gv2 (.ints .u8 gv3)⟩] K

noncomputable def laws_markVectorS_su.k0 {ρ : Type} (N : Nat) (K : AV → Heap → Option ρ) (gv2 : Nat) (gv3 : Nat → Int) : XE → St → Option ρ := (blockK laws_markVectorS_su.kp 1 0 (seqK (xcode (E63 N) ents laws_markVectorS_su.kp 1 N (cB (cB laws_markVectorS_su.bd)) 0) (laws_markVectorS_su.fin N K gv2 gv3)))

theorem laws_markVectorS_su.k0_mix {ρ : Type} (N : Nat) (K : AV → Heap → Option ρ) (gv2 : Nat) (gv3 : Nat → Int) : mixK (laws_markVectorS_su.fin N K gv2 gv3 .ret) (laws_markVectorS_su.k0 N K gv2 gv3) = (laws_markVectorS_su.k0 N K gv2 gv3) := by
  funext e s; cases e <;> kernel_rfl

noncomputable def laws_markVectorS_su.st0 (av0 : Nat) (gv2 : Nat) (k4 : Int) (i5 : Int) (gv6 : Nat → Int) : St := ⟨sl 27 [(0, .slice false 0 0 av0 .unk 8), (1, .int .i64 (k4)), (5, .int .i64 (i5))], [⟨true, .flat gv2 (.ints .u8 gv6)⟩]⟩

noncomputable def laws_markVectorS_su.sx0_0 (gv2 : Nat) (ov12 : Int) (ov13 : Nat → Int) : St := ⟨sl 27 [(1, .int .i64 (ov12))], [⟨true, .flat gv2 (.ints .u8 ov13)⟩]⟩

noncomputable def laws_markVectorS_su.k1g {ρ : Type} (N : Nat) (L0 : St → Option ρ) (kv : XE → St → Option ρ) : XE → St → Option ρ := (blockK laws_markVectorS_su.kp 1 2 (blockK laws_markVectorS_su.kp 1 1 (seqK (xcode (E63 N) ents laws_markVectorS_su.kp 1 N (cB (cB (cL (cK (cB (cA (cB laws_markVectorS_su.bd))))))) 0) (roundK laws_markVectorS_su.kp 1 0 L0 kv))))

theorem laws_markVectorS_su.k1_mix {ρ : Type} (N : Nat) (K : AV → Heap → Option ρ) (L0 : St → Option ρ) (gv2 : Nat) (gv3 : Nat → Int) : mixK (laws_markVectorS_su.fin N K gv2 gv3 .ret) (laws_markVectorS_su.k1g N L0 (laws_markVectorS_su.k0 N K gv2 gv3)) = (laws_markVectorS_su.k1g N L0 (laws_markVectorS_su.k0 N K gv2 gv3)) := by
  funext e s; cases e <;> kernel_rfl

noncomputable def laws_markVectorS_su.st1 (av0 : Nat) (gv2 : Nat) (i5 : Int) (k7 : Int) (j8 : Int) (gv9 : Nat → Int) : St := ⟨sl 27 [(0, .slice false 0 0 av0 .unk 8), (1, .int .i64 (k7)), (5, .int .i64 (i5)), (6, .int .i64 (j8))], [⟨true, .flat gv2 (.ints .u8 gv9)⟩]⟩

noncomputable def laws_markVectorS_su.sx1_0 (av0 : Nat) (gv2 : Nat) (i5 : Int) (ov10 : Int) (ov11 : Nat → Int) : St := ⟨sl 27 [(0, .slice false 0 0 av0 .unk 8), (1, .int .i64 (ov10)), (5, .int .i64 (i5))], [⟨true, .flat gv2 (.ints .u8 ov11)⟩]⟩

theorem laws_markVectorS_su.b1_gen {ρ : Type} (N : Nat) (K : AV → Heap → Option ρ) (L1 : St → Option ρ) (kv : XE → St → Option ρ) (av0 : Nat) (gv2 : Nat) (gv3 : Nat → Int) (i5 : Int) (k7 : Int) (j8 : Int) (gv9 : Nat → Int) :
    xcode (E63 N) ents laws_markVectorS_su.kp 1 N (cL (cK (cB (cK (cA (cB (cL (cK (cB (cA (cB laws_markVectorS_su.bd))))))))))) 2 (laws_markVectorS_su.st1 av0 gv2 i5 k7 j8 gv9) (roundK laws_markVectorS_su.kp 1 2 L1 (mixK (laws_markVectorS_su.fin N K gv2 gv3 .ret) kv)) = (laws_markVectorS_su.b1 N (fun d0 d1 => K (.int .i64 (d0)) [⟨true, .flat gv2 (.ints .u8 d1)⟩]) (fun k7 j8 gv9 => L1 (laws_markVectorS_su.st1 av0 gv2 i5 k7 j8 gv9)) (fun ov10 ov11 => kv (.exit 2) (laws_markVectorS_su.sx1_0 av0 gv2 i5 ov10 ov11)) av0 i5 k7 j8 gv9) := by kernel_rfl

theorem laws_markVectorS_su.b1_eq {ρ : Type} (N : Nat) (K : AV → Heap → Option ρ) (L0 : St → Option ρ) (L1 : St → Option ρ) (av0 : Nat) (gv2 : Nat) (gv3 : Nat → Int) (i5 : Int) (k7 : Int) (j8 : Int) (gv9 : Nat → Int) :
    xcode (E63 N) ents laws_markVectorS_su.kp 1 N (cL (cK (cB (cK (cA (cB (cL (cK (cB (cA (cB laws_markVectorS_su.bd))))))))))) 2 (laws_markVectorS_su.st1 av0 gv2 i5 k7 j8 gv9) (roundK laws_markVectorS_su.kp 1 2 L1 (laws_markVectorS_su.k1g N L0 (laws_markVectorS_su.k0 N K gv2 gv3))) = (laws_markVectorS_su.b1 N (fun d0 d1 => K (.int .i64 (d0)) [⟨true, .flat gv2 (.ints .u8 d1)⟩]) (fun k7 j8 gv9 => L1 (laws_markVectorS_su.st1 av0 gv2 i5 k7 j8 gv9)) (fun ov10 ov11 => (laws_markVectorS_su.k1g N L0 (laws_markVectorS_su.k0 N K gv2 gv3)) (.exit 2) (laws_markVectorS_su.sx1_0 av0 gv2 i5 ov10 ov11)) av0 i5 k7 j8 gv9) := by
  have h := laws_markVectorS_su.b1_gen N K L1 (laws_markVectorS_su.k1g N L0 (laws_markVectorS_su.k0 N K gv2 gv3)) av0 gv2 gv3 i5 k7 j8 gv9
  rw [laws_markVectorS_su.k1_mix] at h
  exact h

theorem laws_markVectorS_su.a1_0_gen {ρ : Type} (N : Nat) (K : AV → Heap → Option ρ) (L0 : St → Option ρ) (kv : XE → St → Option ρ) (av0 : Nat) (gv2 : Nat) (gv3 : Nat → Int) (i5 : Int) (ov10 : Int) (ov11 : Nat → Int) :
    (laws_markVectorS_su.k1g N L0 (mixK (laws_markVectorS_su.fin N K gv2 gv3 .ret) kv)) (.exit 2) (laws_markVectorS_su.sx1_0 av0 gv2 i5 ov10 ov11) = (laws_markVectorS_su.a1_0 N (fun d0 d1 => K (.int .i64 (d0)) [⟨true, .flat gv2 (.ints .u8 d1)⟩]) (fun k4 i5 gv6 => L0 (laws_markVectorS_su.st0 av0 gv2 k4 i5 gv6)) (fun ov12 ov13 => kv (.exit 0) (laws_markVectorS_su.sx0_0 gv2 ov12 ov13)) i5 ov10 ov11) := by kernel_rfl

theorem laws_markVectorS_su.a1_0_eq {ρ : Type} (N : Nat) (K : AV → Heap → Option ρ) (L0 : St → Option ρ) (av0 : Nat) (gv2 : Nat) (gv3 : Nat → Int) (i5 : Int) (ov10 : Int) (ov11 : Nat → Int) :
    (laws_markVectorS_su.k1g N L0 (laws_markVectorS_su.k0 N K gv2 gv3)) (.exit 2) (laws_markVectorS_su.sx1_0 av0 gv2 i5 ov10 ov11) = (laws_markVectorS_su.a1_0 N (fun d0 d1 => K (.int .i64 (d0)) [⟨true, .flat gv2 (.ints .u8 d1)⟩]) (fun k4 i5 gv6 => L0 (laws_markVectorS_su.st0 av0 gv2 k4 i5 gv6)) (fun ov12 ov13 => (laws_markVectorS_su.k0 N K gv2 gv3) (.exit 0) (laws_markVectorS_su.sx0_0 gv2 ov12 ov13)) i5 ov10 ov11) := by
  have h := laws_markVectorS_su.a1_0_gen N K L0 (laws_markVectorS_su.k0 N K gv2 gv3) av0 gv2 gv3 i5 ov10 ov11
  rw [laws_markVectorS_su.k0_mix] at h
  exact h

theorem laws_markVectorS_su.b0_gen {ρ : Type} (N : Nat) (K : AV → Heap → Option ρ) (L0 : St → Option ρ) (kv : XE → St → Option ρ) (av0 : Nat) (gv2 : Nat) (gv3 : Nat → Int) (k4 : Int) (i5 : Int) (gv6 : Nat → Int) :
    xcode (E63 N) ents laws_markVectorS_su.kp 1 N (cL (cK (cB (cA (cB laws_markVectorS_su.bd))))) 0 (laws_markVectorS_su.st0 av0 gv2 k4 i5 gv6) (roundK laws_markVectorS_su.kp 1 0 L0 (mixK (laws_markVectorS_su.fin N K gv2 gv3 .ret) kv)) = (laws_markVectorS_su.b0 N (fun d0 d1 => K (.int .i64 (d0)) [⟨true, .flat gv2 (.ints .u8 d1)⟩]) (fun k7 j8 gv9 => xloop (xcode (E63 N) ents laws_markVectorS_su.kp 1 N (cL (cK (cB (cK (cA (cB (cL (cK (cB (cA (cB laws_markVectorS_su.bd))))))))))) 2) laws_markVectorS_su.kp 1 2 N (laws_markVectorS_su.st1 av0 gv2 i5 k7 j8 gv9) (laws_markVectorS_su.k1g N L0 (mixK (laws_markVectorS_su.fin N K gv2 gv3 .ret) kv))) (fun k4 i5 gv6 => L0 (laws_markVectorS_su.st0 av0 gv2 k4 i5 gv6)) (fun ov12 ov13 => kv (.exit 0) (laws_markVectorS_su.sx0_0 gv2 ov12 ov13)) av0 k4 i5 gv6) := by kernel_rfl

theorem laws_markVectorS_su.b0_eq {ρ : Type} (N : Nat) (K : AV → Heap → Option ρ) (L0 : St → Option ρ) (av0 : Nat) (gv2 : Nat) (gv3 : Nat → Int) (k4 : Int) (i5 : Int) (gv6 : Nat → Int) :
    xcode (E63 N) ents laws_markVectorS_su.kp 1 N (cL (cK (cB (cA (cB laws_markVectorS_su.bd))))) 0 (laws_markVectorS_su.st0 av0 gv2 k4 i5 gv6) (roundK laws_markVectorS_su.kp 1 0 L0 (laws_markVectorS_su.k0 N K gv2 gv3)) = (laws_markVectorS_su.b0 N (fun d0 d1 => K (.int .i64 (d0)) [⟨true, .flat gv2 (.ints .u8 d1)⟩]) (fun k7 j8 gv9 => xloop (xcode (E63 N) ents laws_markVectorS_su.kp 1 N (cL (cK (cB (cK (cA (cB (cL (cK (cB (cA (cB laws_markVectorS_su.bd))))))))))) 2) laws_markVectorS_su.kp 1 2 N (laws_markVectorS_su.st1 av0 gv2 i5 k7 j8 gv9) (laws_markVectorS_su.k1g N L0 (laws_markVectorS_su.k0 N K gv2 gv3))) (fun k4 i5 gv6 => L0 (laws_markVectorS_su.st0 av0 gv2 k4 i5 gv6)) (fun ov12 ov13 => (laws_markVectorS_su.k0 N K gv2 gv3) (.exit 0) (laws_markVectorS_su.sx0_0 gv2 ov12 ov13)) av0 k4 i5 gv6) := by
  have h := laws_markVectorS_su.b0_gen N K L0 (laws_markVectorS_su.k0 N K gv2 gv3) av0 gv2 gv3 k4 i5 gv6
  rw [laws_markVectorS_su.k0_mix] at h
  exact h

theorem laws_markVectorS_su.a0_0_eq {ρ : Type} (N : Nat) (K : AV → Heap → Option ρ) (gv2 : Nat) (gv3 : Nat → Int) (ov12 : Int) (ov13 : Nat → Int) :
    (laws_markVectorS_su.k0 N K gv2 gv3) (.exit 0) (laws_markVectorS_su.sx0_0 gv2 ov12 ov13) = (laws_markVectorS_su.a0_0 N (fun d0 d1 => K (.int .i64 (d0)) [⟨true, .flat gv2 (.ints .u8 d1)⟩]) ov12 ov13) := by kernel_rfl

theorem laws_markVectorS_su.l1_eq {ρ : Type} (N : Nat) (K : AV → Heap → Option ρ) (L0 : St → Option ρ) (av0 : Nat) (gv2 : Nat) (gv3 : Nat → Int) (i5 : Int) :
    ∀ (m : Nat) (k7 : Int) (j8 : Int) (gv9 : Nat → Int), xloop (xcode (E63 N) ents laws_markVectorS_su.kp 1 N (cL (cK (cB (cK (cA (cB (cL (cK (cB (cA (cB laws_markVectorS_su.bd))))))))))) 2) laws_markVectorS_su.kp 1 2 m (laws_markVectorS_su.st1 av0 gv2 i5 k7 j8 gv9) (laws_markVectorS_su.k1g N L0 (laws_markVectorS_su.k0 N K gv2 gv3)) = (laws_markVectorS_su.l1 N (fun d0 d1 => K (.int .i64 (d0)) [⟨true, .flat gv2 (.ints .u8 d1)⟩]) av0 i5 (fun ov10 ov11 => (laws_markVectorS_su.k1g N L0 (laws_markVectorS_su.k0 N K gv2 gv3)) (.exit 2) (laws_markVectorS_su.sx1_0 av0 gv2 i5 ov10 ov11)) m k7 j8 gv9) := by
  intro m
  induction m with
  | zero => intros; rfl
  | succ m ih =>
    intro k7 j8 gv9
    refine (laws_markVectorS_su.b1_eq N K L0 (fun s => xloop (xcode (E63 N) ents laws_markVectorS_su.kp 1 N (cL (cK (cB (cK (cA (cB (cL (cK (cB (cA (cB laws_markVectorS_su.bd))))))))))) 2) laws_markVectorS_su.kp 1 2 m s (laws_markVectorS_su.k1g N L0 (laws_markVectorS_su.k0 N K gv2 gv3))) av0 gv2 gv3 i5 k7 j8 gv9).trans ?_
    simp only [ih]
    kernel_rfl

theorem laws_markVectorS_su.l0_eq {ρ : Type} (N : Nat) (K : AV → Heap → Option ρ) (av0 : Nat) (gv2 : Nat) (gv3 : Nat → Int) :
    ∀ (m : Nat) (k4 : Int) (i5 : Int) (gv6 : Nat → Int), xloop (xcode (E63 N) ents laws_markVectorS_su.kp 1 N (cL (cK (cB (cA (cB laws_markVectorS_su.bd))))) 0) laws_markVectorS_su.kp 1 0 m (laws_markVectorS_su.st0 av0 gv2 k4 i5 gv6) (laws_markVectorS_su.k0 N K gv2 gv3) = (laws_markVectorS_su.l0 N (fun d0 d1 => K (.int .i64 (d0)) [⟨true, .flat gv2 (.ints .u8 d1)⟩]) av0 (fun ov12 ov13 => (laws_markVectorS_su.k0 N K gv2 gv3) (.exit 0) (laws_markVectorS_su.sx0_0 gv2 ov12 ov13)) m k4 i5 gv6) := by
  intro m
  induction m with
  | zero => intros; rfl
  | succ m ih =>
    intro k4 i5 gv6
    refine (laws_markVectorS_su.b0_eq N K (fun s => xloop (xcode (E63 N) ents laws_markVectorS_su.kp 1 N (cL (cK (cB (cA (cB laws_markVectorS_su.bd))))) 0) laws_markVectorS_su.kp 1 0 m s (laws_markVectorS_su.k0 N K gv2 gv3)) av0 gv2 gv3 k4 i5 gv6).trans ?_
    simp only [ih, laws_markVectorS_su.l1_eq, laws_markVectorS_su.a1_0_eq]
    kernel_rfl

theorem laws_markVectorS_su.s_eq {ρ : Type} (N : Nat) (K : AV → Heap → Option ρ) (av0 : Nat) (k1 : Int) (gv2 : Nat) (gv3 : Nat → Int) :
    xbody (E63 N) ents laws_markVectorS_su.kp N Go.Proofs.Try.f39 laws_markVectorS_su.bd [.slice false 0 0 av0 .unk 8, .int .i64 (k1)] [⟨true, .flat gv2 (.ints .u8 gv3)⟩] K = (laws_markVectorS_su.s N (fun d0 d1 => K (.int .i64 (d0)) [⟨true, .flat gv2 (.ints .u8 d1)⟩]) (fun k4 i5 gv6 => xloop (xcode (E63 N) ents laws_markVectorS_su.kp 1 N (cL (cK (cB (cA (cB laws_markVectorS_su.bd))))) 0) laws_markVectorS_su.kp 1 0 N (laws_markVectorS_su.st0 av0 gv2 k4 i5 gv6) (laws_markVectorS_su.k0 N K gv2 gv3)) k1 gv3) := by kernel_rfl

theorem laws_markVectorS_su.eq {ρ : Type} (N : Nat) (K : AV → Heap → Option ρ) (av0 : Nat) (k1 : Int) (gv2 : Nat) (gv3 : Nat → Int) :
    xbody (E63 N) ents laws_markVectorS_su.kp N Go.Proofs.Try.f39 laws_markVectorS_su.bd [.slice false 0 0 av0 .unk 8, .int .i64 (k1)] [⟨true, .flat gv2 (.ints .u8 gv3)⟩] K = (laws_markVectorS_su N (fun d0 d1 => K (.int .i64 (d0)) [⟨true, .flat gv2 (.ints .u8 d1)⟩]) av0 k1 gv2 gv3) := by
  refine (laws_markVectorS_su.s_eq N K av0 k1 gv2 gv3).trans ?_
  simp only [laws_markVectorS_su.l0_eq, laws_markVectorS_su.a0_0_eq]
  kernel_rfl

noncomputable def laws_markVectorS_su.en (N : Nat) (ρ : Type) : List AV → Heap → (AV → Heap → Option ρ) → Option ρ
  | [.slice false 0 0 av0 .unk 8, .int .i64 (k1)], [⟨true, .flat gv2 (.ints .u8 gv3)⟩], K => (laws_markVectorS_su N (fun d0 d1 => K (.int .i64 (d0)) [⟨true, .flat gv2 (.ints .u8 d1)⟩]) av0 k1 gv2 gv3)
  | _, _, _ => none

theorem laws_markVectorS_su.en_ok (N : Nat) (hE : EnvOk (E63 N) ents) (ρ : Type) (args : List AV) (sh : Heap) (K : AV → Heap → Option ρ) (r : ρ) (h : laws_markVectorS_su.en N ρ args sh K = some r) : ∃ v sh', K v sh' = some r ∧ FnOk (E63 N).P 39 args sh v sh' := by
  unfold laws_markVectorS_su.en at h
  split at h
  · exact fn_ok hE (kp := laws_markVectorS_su.kp) (N := N) Go.Proofs.Try.func39 (c := laws_markVectorS_su.bd) (by kernel_rfl) ((laws_markVectorS_su.eq N _ _ _ _ _).trans h)
  · cases h

noncomputable def E64 (N : Nat) : Env := (E63 N).add 39 (laws_markVectorS_su.en N)

theorem E64_ok (N : Nat) : EnvOk (E64 N) ents := Env.add_ok (E63_ok N) (laws_markVectorS_su.en_ok N (E63_ok N))

noncomputable def laws_heldVectorS_su.kp : Keeps := ⟨[(0, [0, 1, 5], [], []), (2, [0, 1, 5, 6], [], [])], [(0, [1], [], []), (2, [0, 1, 5], [], [])], []⟩

noncomputable def laws_heldVectorS_su.bd : Code := bodyOf Go.Proofs.Try.f40

noncomputable def laws_heldVectorS_su.fin {ρ : Type} (N : Nat) (K : AV → Heap → Option ρ) (gv2 : Nat) (gv3 : Nat → Int) : XE → St → Option ρ := finK (E64 N) laws_heldVectorS_su.kp.fins Go.Proofs.Try.f40 [⟨false, .flat gv2 (.ints .u8 gv3)⟩] K

noncomputable def laws_heldVectorS_su.k0 {ρ : Type} (N : Nat) (K : AV → Heap → Option ρ) (gv2 : Nat) (gv3 : Nat → Int) : XE → St → Option ρ := (blockK laws_heldVectorS_su.kp 1 0 (seqK (xcode (E64 N) ents laws_heldVectorS_su.kp 1 N (cB (cB laws_heldVectorS_su.bd)) 0) (laws_heldVectorS_su.fin N K gv2 gv3)))

theorem laws_heldVectorS_su.k0_mix {ρ : Type} (N : Nat) (K : AV → Heap → Option ρ) (gv2 : Nat) (gv3 : Nat → Int) : mixK (laws_heldVectorS_su.fin N K gv2 gv3 .ret) (laws_heldVectorS_su.k0 N K gv2 gv3) = (laws_heldVectorS_su.k0 N K gv2 gv3) := by
  funext e s; cases e <;> kernel_rfl

noncomputable def laws_heldVectorS_su.st0 (av0 : Nat) (gv2 : Nat) (gv3 : Nat → Int) (k4 : Int) (i5 : Int) : St := ⟨sl 29 [(0, .slice false 0 0 av0 .unk 8), (1, .int .i64 (k4)), (5, .int .i64 (i5))], [⟨false, .flat gv2 (.ints .u8 gv3)⟩]⟩

noncomputable def laws_heldVectorS_su.sx0_0 (gv2 : Nat) (gv3 : Nat → Int) (ov9 : Int) : St := ⟨sl 29 [(1, .int .i64 (ov9))], [⟨false, .flat gv2 (.ints .u8 gv3)⟩]⟩

noncomputable def laws_heldVectorS_su.k1g {ρ : Type} (N : Nat) (L0 : St → Option ρ) (kv : XE → St → Option ρ) : XE → St → Option ρ := (blockK laws_heldVectorS_su.kp 1 2 (blockK laws_heldVectorS_su.kp 1 1 (seqK (xcode (E64 N) ents laws_heldVectorS_su.kp 1 N (cB (cB (cL (cK (cB (cA (cB laws_heldVectorS_su.bd))))))) 0) (roundK laws_heldVectorS_su.kp 1 0 L0 kv))))

theorem laws_heldVectorS_su.k1_mix {ρ : Type} (N : Nat) (K : AV → Heap → Option ρ) (L0 : St → Option ρ) (gv2 : Nat) (gv3 : Nat → Int) : mixK (laws_heldVectorS_su.fin N K gv2 gv3 .ret) (laws_heldVectorS_su.k1g N L0 (laws_heldVectorS_su.k0 N K gv2 gv3)) = (laws_heldVectorS_su.k1g N L0 (laws_heldVectorS_su.k0 N K gv2 gv3)) := by
  funext e s; cases e <;> kernel_rfl

noncomputable def laws_heldVectorS_su.st1 (av0 : Nat) (gv2 : Nat) (gv3 : Nat → Int) (i5 : Int) (k6 : Int) (j7 : Int) : St := ⟨sl 29 [(0, .slice false 0 0 av0 .unk 8), (1, .int .i64 (k6)), (5, .int .i64 (i5)), (6, .int .i64 (j7))], [⟨false, .flat gv2 (.ints .u8 gv3)⟩]⟩

noncomputable def laws_heldVectorS_su.sx1_0 (av0 : Nat) (gv2 : Nat) (gv3 : Nat → Int) (i5 : Int) (ov8 : Int) : St := ⟨sl 29 [(0, .slice false 0 0 av0 .unk 8), (1, .int .i64 (ov8)), (5, .int .i64 (i5))], [⟨false, .flat gv2 (.ints .u8 gv3)⟩]⟩

theorem laws_heldVectorS_su.b1_gen {ρ : Type} (N : Nat) (K : AV → Heap → Option ρ) (L1 : St → Option ρ) (kv : XE → St → Option ρ) (av0 : Nat) (gv2 : Nat) (gv3 : Nat → Int) (i5 : Int) (k6 : Int) (j7 : Int) :
    xcode (E64 N) ents laws_heldVectorS_su.kp 1 N (cL (cK (cB (cK (cA (cB (cL (cK (cB (cA (cB laws_heldVectorS_su.bd))))))))))) 2 (laws_heldVectorS_su.st1 av0 gv2 gv3 i5 k6 j7) (roundK laws_heldVectorS_su.kp 1 2 L1 (mixK (laws_heldVectorS_su.fin N K gv2 gv3 .ret) kv)) = (laws_heldVectorS_su.b1 N (fun d0 => K (.int .i64 (d0)) [⟨false, .flat gv2 (.ints .u8 gv3)⟩]) (fun k6 j7 => L1 (laws_heldVectorS_su.st1 av0 gv2 gv3 i5 k6 j7)) (fun ov8 => kv (.exit 2) (laws_heldVectorS_su.sx1_0 av0 gv2 gv3 i5 ov8)) av0 gv3 i5 k6 j7) := by kernel_rfl

theorem laws_heldVectorS_su.b1_eq {ρ : Type} (N : Nat) (K : AV → Heap → Option ρ) (L0 : St → Option ρ) (L1 : St → Option ρ) (av0 : Nat) (gv2 : Nat) (gv3 : Nat → Int) (i5 : Int) (k6 : Int) (j7 : Int) :
    xcode (E64 N) ents laws_heldVectorS_su.kp 1 N (cL (cK (cB (cK (cA (cB (cL (cK (cB (cA (cB laws_heldVectorS_su.bd))))))))))) 2 (laws_heldVectorS_su.st1 av0 gv2 gv3 i5 k6 j7) (roundK laws_heldVectorS_su.kp 1 2 L1 (laws_heldVectorS_su.k1g N L0 (laws_heldVectorS_su.k0 N K gv2 gv3))) = (laws_heldVectorS_su.b1 N (fun d0 => K (.int .i64 (d0)) [⟨false, .flat gv2 (.ints .u8 gv3)⟩]) (fun k6 j7 => L1 (laws_heldVectorS_su.st1 av0 gv2 gv3 i5 k6 j7)) (fun ov8 => (laws_heldVectorS_su.k1g N L0 (laws_heldVectorS_su.k0 N K gv2 gv3)) (.exit 2) (laws_heldVectorS_su.sx1_0 av0 gv2 gv3 i5 ov8)) av0 gv3 i5 k6 j7) := by
  have h := laws_heldVectorS_su.b1_gen N K L1 (laws_heldVectorS_su.k1g N L0 (laws_heldVectorS_su.k0 N K gv2 gv3)) av0 gv2 gv3 i5 k6 j7
  rw [laws_heldVectorS_su.k1_mix] at h
  exact h

theorem laws_heldVectorS_su.a1_0_gen {ρ : Type} (N : Nat) (K : AV → Heap → Option ρ) (L0 : St → Option ρ) (kv : XE → St → Option ρ) (av0 : Nat) (gv2 : Nat) (gv3 : Nat → Int) (i5 : Int) (ov8 : Int) :
    (laws_heldVectorS_su.k1g N L0 (mixK (laws_heldVectorS_su.fin N K gv2 gv3 .ret) kv)) (.exit 2) (laws_heldVectorS_su.sx1_0 av0 gv2 gv3 i5 ov8) = (laws_heldVectorS_su.a1_0 N (fun d0 => K (.int .i64 (d0)) [⟨false, .flat gv2 (.ints .u8 gv3)⟩]) (fun k4 i5 => L0 (laws_heldVectorS_su.st0 av0 gv2 gv3 k4 i5)) (fun ov9 => kv (.exit 0) (laws_heldVectorS_su.sx0_0 gv2 gv3 ov9)) i5 ov8) := by kernel_rfl

theorem laws_heldVectorS_su.a1_0_eq {ρ : Type} (N : Nat) (K : AV → Heap → Option ρ) (L0 : St → Option ρ) (av0 : Nat) (gv2 : Nat) (gv3 : Nat → Int) (i5 : Int) (ov8 : Int) :
    (laws_heldVectorS_su.k1g N L0 (laws_heldVectorS_su.k0 N K gv2 gv3)) (.exit 2) (laws_heldVectorS_su.sx1_0 av0 gv2 gv3 i5 ov8) = (laws_heldVectorS_su.a1_0 N (fun d0 => K (.int .i64 (d0)) [⟨false, .flat gv2 (.ints .u8 gv3)⟩]) (fun k4 i5 => L0 (laws_heldVectorS_su.st0 av0 gv2 gv3 k4 i5)) (fun ov9 => (laws_heldVectorS_su.k0 N K gv2 gv3) (.exit 0) (laws_heldVectorS_su.sx0_0 gv2 gv3 ov9)) i5 ov8) := by
  have h := laws_heldVectorS_su.a1_0_gen N K L0 (laws_heldVectorS_su.k0 N K gv2 gv3) av0 gv2 gv3 i5 ov8
  rw [laws_heldVectorS_su.k0_mix] at h
  exact h

theorem laws_heldVectorS_su.b0_gen {ρ : Type} (N : Nat) (K : AV → Heap → Option ρ) (L0 : St → Option ρ) (kv : XE → St → Option ρ) (av0 : Nat) (gv2 : Nat) (gv3 : Nat → Int) (k4 : Int) (i5 : Int) :
    xcode (E64 N) ents laws_heldVectorS_su.kp 1 N (cL (cK (cB (cA (cB laws_heldVectorS_su.bd))))) 0 (laws_heldVectorS_su.st0 av0 gv2 gv3 k4 i5) (roundK laws_heldVectorS_su.kp 1 0 L0 (mixK (laws_heldVectorS_su.fin N K gv2 gv3 .ret) kv)) = (laws_heldVectorS_su.b0 N (fun d0 => K (.int .i64 (d0)) [⟨false, .flat gv2 (.ints .u8 gv3)⟩]) (fun k6 j7 => xloop (xcode (E64 N) ents laws_heldVectorS_su.kp 1 N (cL (cK (cB (cK (cA (cB (cL (cK (cB (cA (cB laws_heldVectorS_su.bd))))))))))) 2) laws_heldVectorS_su.kp 1 2 N (laws_heldVectorS_su.st1 av0 gv2 gv3 i5 k6 j7) (laws_heldVectorS_su.k1g N L0 (mixK (laws_heldVectorS_su.fin N K gv2 gv3 .ret) kv))) (fun k4 i5 => L0 (laws_heldVectorS_su.st0 av0 gv2 gv3 k4 i5)) (fun ov9 => kv (.exit 0) (laws_heldVectorS_su.sx0_0 gv2 gv3 ov9)) av0 k4 i5) := by kernel_rfl

theorem laws_heldVectorS_su.b0_eq {ρ : Type} (N : Nat) (K : AV → Heap → Option ρ) (L0 : St → Option ρ) (av0 : Nat) (gv2 : Nat) (gv3 : Nat → Int) (k4 : Int) (i5 : Int) :
    xcode (E64 N) ents laws_heldVectorS_su.kp 1 N (cL (cK (cB (cA (cB laws_heldVectorS_su.bd))))) 0 (laws_heldVectorS_su.st0 av0 gv2 gv3 k4 i5) (roundK laws_heldVectorS_su.kp 1 0 L0 (laws_heldVectorS_su.k0 N K gv2 gv3)) = (laws_heldVectorS_su.b0 N (fun d0 => K (.int .i64 (d0)) [⟨false, .flat gv2 (.ints .u8 gv3)⟩]) (fun k6 j7 => xloop (xcode (E64 N) ents laws_heldVectorS_su.kp 1 N (cL (cK (cB (cK (cA (cB (cL (cK (cB (cA (cB laws_heldVectorS_su.bd))))))))))) 2) laws_heldVectorS_su.kp 1 2 N (laws_heldVectorS_su.st1 av0 gv2 gv3 i5 k6 j7) (laws_heldVectorS_su.k1g N L0 (laws_heldVectorS_su.k0 N K gv2 gv3))) (fun k4 i5 => L0 (laws_heldVectorS_su.st0 av0 gv2 gv3 k4 i5)) (fun ov9 => (laws_heldVectorS_su.k0 N K gv2 gv3) (.exit 0) (laws_heldVectorS_su.sx0_0 gv2 gv3 ov9)) av0 k4 i5) := by
  have h := laws_heldVectorS_su.b0_gen N K L0 (laws_heldVectorS_su.k0 N K gv2 gv3) av0 gv2 gv3 k4 i5
  rw [laws_heldVectorS_su.k0_mix] at h
  exact h

theorem laws_heldVectorS_su.a0_0_eq {ρ : Type} (N : Nat) (K : AV → Heap → Option ρ) (gv2 : Nat) (gv3 : Nat → Int) (ov9 : Int) :
    (laws_heldVectorS_su.k0 N K gv2 gv3) (.exit 0) (laws_heldVectorS_su.sx0_0 gv2 gv3 ov9) = (laws_heldVectorS_su.a0_0 N (fun d0 => K (.int .i64 (d0)) [⟨false, .flat gv2 (.ints .u8 gv3)⟩]) ov9) := by kernel_rfl

theorem laws_heldVectorS_su.l1_eq {ρ : Type} (N : Nat) (K : AV → Heap → Option ρ) (L0 : St → Option ρ) (av0 : Nat) (gv2 : Nat) (gv3 : Nat → Int) (i5 : Int) :
    ∀ (m : Nat) (k6 : Int) (j7 : Int), xloop (xcode (E64 N) ents laws_heldVectorS_su.kp 1 N (cL (cK (cB (cK (cA (cB (cL (cK (cB (cA (cB laws_heldVectorS_su.bd))))))))))) 2) laws_heldVectorS_su.kp 1 2 m (laws_heldVectorS_su.st1 av0 gv2 gv3 i5 k6 j7) (laws_heldVectorS_su.k1g N L0 (laws_heldVectorS_su.k0 N K gv2 gv3)) = (laws_heldVectorS_su.l1 N (fun d0 => K (.int .i64 (d0)) [⟨false, .flat gv2 (.ints .u8 gv3)⟩]) av0 gv3 i5 (fun ov8 => (laws_heldVectorS_su.k1g N L0 (laws_heldVectorS_su.k0 N K gv2 gv3)) (.exit 2) (laws_heldVectorS_su.sx1_0 av0 gv2 gv3 i5 ov8)) m k6 j7) := by
  intro m
  induction m with
  | zero => intros; rfl
  | succ m ih =>
    intro k6 j7
    refine (laws_heldVectorS_su.b1_eq N K L0 (fun s => xloop (xcode (E64 N) ents laws_heldVectorS_su.kp 1 N (cL (cK (cB (cK (cA (cB (cL (cK (cB (cA (cB laws_heldVectorS_su.bd))))))))))) 2) laws_heldVectorS_su.kp 1 2 m s (laws_heldVectorS_su.k1g N L0 (laws_heldVectorS_su.k0 N K gv2 gv3))) av0 gv2 gv3 i5 k6 j7).trans ?_
    simp only [ih]
    kernel_rfl

theorem laws_heldVectorS_su.l0_eq {ρ : Type} (N : Nat) (K : AV → Heap → Option ρ) (av0 : Nat) (gv2 : Nat) (gv3 : Nat → Int) :
    ∀ (m : Nat) (k4 : Int) (i5 : Int), xloop (xcode (E64 N) ents laws_heldVectorS_su.kp 1 N (cL (cK (cB (cA (cB laws_heldVectorS_su.bd))))) 0) laws_heldVectorS_su.kp 1 0 m (laws_heldVectorS_su.st0 av0 gv2 gv3 k4 i5) (laws_heldVectorS_su.k0 N K gv2 gv3) = (laws_heldVectorS_su.l0 N (fun d0 => K (.int .i64 (d0)) [⟨false, .flat gv2 (.ints .u8 gv3)⟩]) av0 gv3 (fun ov9 => (laws_heldVectorS_su.k0 N K gv2 gv3) (.exit 0) (laws_heldVectorS_su.sx0_0 gv2 gv3 ov9)) m k4 i5) := by
  intro m
  induction m with
  | zero => intros; rfl
  | succ m ih =>
    intro k4 i5
    refine (laws_heldVectorS_su.b0_eq N K (fun s => xloop (xcode (E64 N) ents laws_heldVectorS_su.kp 1 N (cL (cK (cB (cA (cB laws_heldVectorS_su.bd))))) 0) laws_heldVectorS_su.kp 1 0 m s (laws_heldVectorS_su.k0 N K gv2 gv3)) av0 gv2 gv3 k4 i5).trans ?_
    simp only [ih, laws_heldVectorS_su.l1_eq, laws_heldVectorS_su.a1_0_eq]
    kernel_rfl

theorem laws_heldVectorS_su.s_eq {ρ : Type} (N : Nat) (K : AV → Heap → Option ρ) (av0 : Nat) (k1 : Int) (gv2 : Nat) (gv3 : Nat → Int) :
    xbody (E64 N) ents laws_heldVectorS_su.kp N Go.Proofs.Try.f40 laws_heldVectorS_su.bd [.slice false 0 0 av0 .unk 8, .int .i64 (k1)] [⟨false, .flat gv2 (.ints .u8 gv3)⟩] K = (laws_heldVectorS_su.s N (fun d0 => K (.int .i64 (d0)) [⟨false, .flat gv2 (.ints .u8 gv3)⟩]) (fun k4 i5 => xloop (xcode (E64 N) ents laws_heldVectorS_su.kp 1 N (cL (cK (cB (cA (cB laws_heldVectorS_su.bd))))) 0) laws_heldVectorS_su.kp 1 0 N (laws_heldVectorS_su.st0 av0 gv2 gv3 k4 i5) (laws_heldVectorS_su.k0 N K gv2 gv3)) k1) := by kernel_rfl

theorem laws_heldVectorS_su.eq {ρ : Type} (N : Nat) (K : AV → Heap → Option ρ) (av0 : Nat) (k1 : Int) (gv2 : Nat) (gv3 : Nat → Int) :
    xbody (E64 N) ents laws_heldVectorS_su.kp N Go.Proofs.Try.f40 laws_heldVectorS_su.bd [.slice false 0 0 av0 .unk 8, .int .i64 (k1)] [⟨false, .flat gv2 (.ints .u8 gv3)⟩] K = (laws_heldVectorS_su N (fun d0 => K (.int .i64 (d0)) [⟨false, .flat gv2 (.ints .u8 gv3)⟩]) av0 k1 gv2 gv3) := by
  refine (laws_heldVectorS_su.s_eq N K av0 k1 gv2 gv3).trans ?_
  simp only [laws_heldVectorS_su.l0_eq, laws_heldVectorS_su.a0_0_eq]
  kernel_rfl

noncomputable def laws_heldVectorS_su.en (N : Nat) (ρ : Type) : List AV → Heap → (AV → Heap → Option ρ) → Option ρ
  | [.slice false 0 0 av0 .unk 8, .int .i64 (k1)], [⟨false, .flat gv2 (.ints .u8 gv3)⟩], K => (laws_heldVectorS_su N (fun d0 => K (.int .i64 (d0)) [⟨false, .flat gv2 (.ints .u8 gv3)⟩]) av0 k1 gv2 gv3)
  | _, _, _ => none

theorem laws_heldVectorS_su.en_ok (N : Nat) (hE : EnvOk (E64 N) ents) (ρ : Type) (args : List AV) (sh : Heap) (K : AV → Heap → Option ρ) (r : ρ) (h : laws_heldVectorS_su.en N ρ args sh K = some r) : ∃ v sh', K v sh' = some r ∧ FnOk (E64 N).P 40 args sh v sh' := by
  unfold laws_heldVectorS_su.en at h
  split at h
  · exact fn_ok hE (kp := laws_heldVectorS_su.kp) (N := N) Go.Proofs.Try.func40 (c := laws_heldVectorS_su.bd) (by kernel_rfl) ((laws_heldVectorS_su.eq N _ _ _ _ _).trans h)
  · cases h

noncomputable def E65 (N : Nat) : Env := (E64 N).add 40 (laws_heldVectorS_su.en N)

theorem E65_ok (N : Nat) : EnvOk (E65 N) ents := Env.add_ok (E64_ok N) (laws_heldVectorS_su.en_ok N (E64_ok N))

noncomputable def laws_FnExactLeastSubcoalgebra.kp : Keeps := ⟨[], [], []⟩

noncomputable def laws_FnExactLeastSubcoalgebra.bd : Code := bodyOf Go.Proofs.Try.f12

noncomputable def laws_FnExactLeastSubcoalgebra.fin {ρ : Type} (N : Nat) (K : AV → Heap → Option ρ) : XE → St → Option ρ := finK (E65 N) laws_FnExactLeastSubcoalgebra.kp.fins Go.Proofs.Try.f12 [] K

theorem laws_FnExactLeastSubcoalgebra.eq {ρ : Type} (N : Nat) (K : AV → Heap → Option ρ) (aC0 : Nat → Int) (aC1 : Nat → Int) (aV2 : Nat → Int) :
    xbody (E65 N) ents laws_FnExactLeastSubcoalgebra.kp N Go.Proofs.Try.f12 laws_FnExactLeastSubcoalgebra.bd [.agg [⟨.i64, 2, aC0⟩, ⟨.u8, 520, aC1⟩], .agg [⟨.u8, 8, aV2⟩]] [] K = (laws_FnExactLeastSubcoalgebra N (fun d0 => K (.bool (d0)) []) aC0 aC1 aV2) := by kernel_rfl

noncomputable def laws_FnExactLeastSubcoalgebra.en (N : Nat) (ρ : Type) : List AV → Heap → (AV → Heap → Option ρ) → Option ρ
  | [.agg [⟨.i64, 2, aC0⟩, ⟨.u8, 520, aC1⟩], .agg [⟨.u8, 8, aV2⟩]], [], K => (laws_FnExactLeastSubcoalgebra N (fun d0 => K (.bool (d0)) []) aC0 aC1 aV2)
  | _, _, _ => none

theorem laws_FnExactLeastSubcoalgebra.en_ok (N : Nat) (hE : EnvOk (E65 N) ents) (ρ : Type) (args : List AV) (sh : Heap) (K : AV → Heap → Option ρ) (r : ρ) (h : laws_FnExactLeastSubcoalgebra.en N ρ args sh K = some r) : ∃ v sh', K v sh' = some r ∧ FnOk (E65 N).P 12 args sh v sh' := by
  unfold laws_FnExactLeastSubcoalgebra.en at h
  split at h
  · exact fn_ok hE (kp := laws_FnExactLeastSubcoalgebra.kp) (N := N) Go.Proofs.Try.func12 (c := laws_FnExactLeastSubcoalgebra.bd) (by kernel_rfl) ((laws_FnExactLeastSubcoalgebra.eq N _ _ _ _).trans h)
  · cases h

noncomputable def E66 (N : Nat) : Env := (E65 N).add 12 (laws_FnExactLeastSubcoalgebra.en N)

theorem E66_ok (N : Nat) : EnvOk (E66 N) ents := Env.add_ok (E65_ok N) (laws_FnExactLeastSubcoalgebra.en_ok N (E65_ok N))
end Go.Proofs.Ythecjjnieojjoaa.H
