/- The program computes these functions. -/
import Derived.Test.YtfiopadjbheclaaHL1
namespace Go.Proofs.Ytfiopadjbheclaa.H
set_option linter.unusedVariables false
set_option linter.unusedSimpArgs false
open Go Go.RowKit Go.Proofs.Ytfiopadjbheclaa.Hy
set_option linter.unusedVariables false
set_option maxRecDepth 100000
noncomputable def impl_system_solve_v2.kp : Keeps := ⟨[(0, [1, 3, 4], [], [])], [(0, [1, 3], [], [])], []⟩

noncomputable def impl_system_solve_v2.bd : Code := bodyOf Go.Proofs.Try.f29

noncomputable def impl_system_solve_v2.fin {ρ : Type} (N : Nat) (K : AV → Heap → Option ρ) (gv0 : Nat → Int) (gv1 : Nat → Int) : XE → St → Option ρ := finK (E33 N) impl_system_solve_v2.kp.fins Go.Proofs.Try.f29 [⟨false, .flat 2 (.ints .i64 gv0)⟩, ⟨false, .flat 1 (.ints .i64 gv1)⟩, ⟨true, .avs [.nils]⟩, ⟨true, .avs [.nils]⟩] K

noncomputable def impl_system_solve_v2.k0 {ρ : Type} (N : Nat) (K : AV → Heap → Option ρ) (gv0 : Nat → Int) (gv1 : Nat → Int) : XE → St → Option ρ := (blockK impl_system_solve_v2.kp 4 0 (seqK (xcode (E33 N) ents impl_system_solve_v2.kp 4 N (cB (cB (cB (cB impl_system_solve_v2.bd)))) 0) (impl_system_solve_v2.fin N K gv0 gv1)))

theorem impl_system_solve_v2.k0_mix {ρ : Type} (N : Nat) (K : AV → Heap → Option ρ) (gv0 : Nat → Int) (gv1 : Nat → Int) : mixK (impl_system_solve_v2.fin N K gv0 gv1 .ret) (impl_system_solve_v2.k0 N K gv0 gv1) = (impl_system_solve_v2.k0 N K gv0 gv1) := by
  funext e s; cases e <;> kernel_rfl

noncomputable def impl_system_solve_v2.st0 (gv0 : Nat → Int) (gv1 : Nat → Int) : St := ⟨sl 103 [(1, .sptr [(4, 1)]), (3, .int .i64 0), (4, .sptr [(5, 1)])], [⟨false, .flat 2 (.ints .i64 gv0)⟩, ⟨false, .flat 1 (.ints .i64 gv1)⟩, ⟨true, .avs [.nils]⟩, ⟨true, .avs [.nils]⟩, ⟨true, .avs [.sptr [(0, 2), (1, 1), (2, 1), (3, 1)]]⟩, ⟨true, .flat 1 (.ints .i64 (fun _ => 0))⟩]⟩

noncomputable def impl_system_solve_v2.sx0_0 (gv0 : Nat → Int) (gv1 : Nat → Int) : St := ⟨sl 103 [(1, .sptr [(4, 1)]), (3, .int .i64 0)], [⟨false, .flat 2 (.ints .i64 gv0)⟩, ⟨false, .flat 1 (.ints .i64 gv1)⟩, ⟨true, .avs [.nils]⟩, ⟨true, .avs [.nils]⟩, ⟨true, .avs [.sptr [(0, 2), (1, 1), (2, 1), (3, 1)]]⟩]⟩

theorem impl_system_solve_v2.b0_gen {ρ : Type} (N : Nat) (K : AV → Heap → Option ρ) (L0 : St → Option ρ) (kv : XE → St → Option ρ) (gv0 : Nat → Int) (gv1 : Nat → Int) :
    xcode (E33 N) ents impl_system_solve_v2.kp 4 N (cL (cK (cB (cA (cB (cB (cB impl_system_solve_v2.bd))))))) 0 (impl_system_solve_v2.st0 gv0 gv1) (roundK impl_system_solve_v2.kp 4 0 L0 (mixK (impl_system_solve_v2.fin N K gv0 gv1 .ret) kv)) = (impl_system_solve_v2.b0 N (fun d0 => K (.bool (d0)) [⟨false, .flat 2 (.ints .i64 gv0)⟩, ⟨false, .flat 1 (.ints .i64 gv1)⟩, ⟨true, .avs [.nils]⟩, ⟨true, .avs [.nils]⟩]) (L0 (impl_system_solve_v2.st0 gv0 gv1)) (kv (.exit 0) (impl_system_solve_v2.sx0_0 gv0 gv1)) gv1) := by kernel_rfl

theorem impl_system_solve_v2.b0_eq {ρ : Type} (N : Nat) (K : AV → Heap → Option ρ) (L0 : St → Option ρ) (gv0 : Nat → Int) (gv1 : Nat → Int) :
    xcode (E33 N) ents impl_system_solve_v2.kp 4 N (cL (cK (cB (cA (cB (cB (cB impl_system_solve_v2.bd))))))) 0 (impl_system_solve_v2.st0 gv0 gv1) (roundK impl_system_solve_v2.kp 4 0 L0 (impl_system_solve_v2.k0 N K gv0 gv1)) = (impl_system_solve_v2.b0 N (fun d0 => K (.bool (d0)) [⟨false, .flat 2 (.ints .i64 gv0)⟩, ⟨false, .flat 1 (.ints .i64 gv1)⟩, ⟨true, .avs [.nils]⟩, ⟨true, .avs [.nils]⟩]) (L0 (impl_system_solve_v2.st0 gv0 gv1)) ((impl_system_solve_v2.k0 N K gv0 gv1) (.exit 0) (impl_system_solve_v2.sx0_0 gv0 gv1)) gv1) := by
  have h := impl_system_solve_v2.b0_gen N K L0 (impl_system_solve_v2.k0 N K gv0 gv1) gv0 gv1
  rw [impl_system_solve_v2.k0_mix] at h
  exact h

theorem impl_system_solve_v2.a0_0_eq {ρ : Type} (N : Nat) (K : AV → Heap → Option ρ) (gv0 : Nat → Int) (gv1 : Nat → Int) :
    (impl_system_solve_v2.k0 N K gv0 gv1) (.exit 0) (impl_system_solve_v2.sx0_0 gv0 gv1) = (impl_system_solve_v2.a0_0 N (fun d0 => K (.bool (d0)) [⟨false, .flat 2 (.ints .i64 gv0)⟩, ⟨false, .flat 1 (.ints .i64 gv1)⟩, ⟨true, .avs [.nils]⟩, ⟨true, .avs [.nils]⟩]) gv0 gv1) := by kernel_rfl

theorem impl_system_solve_v2.l0_eq {ρ : Type} (N : Nat) (K : AV → Heap → Option ρ) (gv0 : Nat → Int) (gv1 : Nat → Int) :
    ∀ (m : Nat), xloop (xcode (E33 N) ents impl_system_solve_v2.kp 4 N (cL (cK (cB (cA (cB (cB (cB impl_system_solve_v2.bd))))))) 0) impl_system_solve_v2.kp 4 0 m (impl_system_solve_v2.st0 gv0 gv1) (impl_system_solve_v2.k0 N K gv0 gv1) = (impl_system_solve_v2.l0 N (fun d0 => K (.bool (d0)) [⟨false, .flat 2 (.ints .i64 gv0)⟩, ⟨false, .flat 1 (.ints .i64 gv1)⟩, ⟨true, .avs [.nils]⟩, ⟨true, .avs [.nils]⟩]) gv1 ((impl_system_solve_v2.k0 N K gv0 gv1) (.exit 0) (impl_system_solve_v2.sx0_0 gv0 gv1)) m) := by
  intro m
  induction m with
  | zero => intros; rfl
  | succ m ih =>
    refine (impl_system_solve_v2.b0_eq N K (fun s => xloop (xcode (E33 N) ents impl_system_solve_v2.kp 4 N (cL (cK (cB (cA (cB (cB (cB impl_system_solve_v2.bd))))))) 0) impl_system_solve_v2.kp 4 0 m s (impl_system_solve_v2.k0 N K gv0 gv1)) gv0 gv1).trans ?_
    simp only [ih]
    kernel_rfl

theorem impl_system_solve_v2.s_eq {ρ : Type} (N : Nat) (K : AV → Heap → Option ρ) (gv0 : Nat → Int) (gv1 : Nat → Int) :
    xbody (E33 N) ents impl_system_solve_v2.kp N Go.Proofs.Try.f29 impl_system_solve_v2.bd [.sptr [(0, 2), (1, 1), (2, 1), (3, 1)]] [⟨false, .flat 2 (.ints .i64 gv0)⟩, ⟨false, .flat 1 (.ints .i64 gv1)⟩, ⟨true, .avs [.nils]⟩, ⟨true, .avs [.nils]⟩] K = (impl_system_solve_v2.s N (fun d0 => K (.bool (d0)) [⟨false, .flat 2 (.ints .i64 gv0)⟩, ⟨false, .flat 1 (.ints .i64 gv1)⟩, ⟨true, .avs [.nils]⟩, ⟨true, .avs [.nils]⟩]) (xloop (xcode (E33 N) ents impl_system_solve_v2.kp 4 N (cL (cK (cB (cA (cB (cB (cB impl_system_solve_v2.bd))))))) 0) impl_system_solve_v2.kp 4 0 N (impl_system_solve_v2.st0 gv0 gv1) (impl_system_solve_v2.k0 N K gv0 gv1))) := by kernel_rfl

theorem impl_system_solve_v2.eq {ρ : Type} (N : Nat) (K : AV → Heap → Option ρ) (gv0 : Nat → Int) (gv1 : Nat → Int) :
    xbody (E33 N) ents impl_system_solve_v2.kp N Go.Proofs.Try.f29 impl_system_solve_v2.bd [.sptr [(0, 2), (1, 1), (2, 1), (3, 1)]] [⟨false, .flat 2 (.ints .i64 gv0)⟩, ⟨false, .flat 1 (.ints .i64 gv1)⟩, ⟨true, .avs [.nils]⟩, ⟨true, .avs [.nils]⟩] K = (impl_system_solve_v2 N (fun d0 => K (.bool (d0)) [⟨false, .flat 2 (.ints .i64 gv0)⟩, ⟨false, .flat 1 (.ints .i64 gv1)⟩, ⟨true, .avs [.nils]⟩, ⟨true, .avs [.nils]⟩]) gv0 gv1) := by
  refine (impl_system_solve_v2.s_eq N K gv0 gv1).trans ?_
  simp only [impl_system_solve_v2.l0_eq, impl_system_solve_v2.a0_0_eq]
  kernel_rfl

noncomputable def impl_system_solve.en (N : Nat) (ρ : Type) : List AV → Heap → (AV → Heap → Option ρ) → Option ρ
  | [.sptr [(0, 2), (1, 1), (2, 1), (3, 1)]], [⟨false, .flat 2 (.ints .i64 gv0)⟩, ⟨false, .flat 1 (.ints .i64 gv1)⟩, ⟨true, .avs [.slice false 4 0 gv2 .whole 1]⟩, ⟨true, .avs [.nils]⟩, ⟨true, .hdr 5 0 gv3 gv4 gv5 none⟩, ⟨true, .flat 0 (.ints .u8 gv6)⟩], K => (impl_system_solve N (fun d0 d1 d2 d3 d4 d5 d6 d7 => K (.bool (d0)) [⟨false, .flat 2 (.ints .i64 gv0)⟩, ⟨false, .flat 1 (.ints .i64 gv1)⟩, ⟨true, .avs [.slice false 4 0 d1 .unk 1]⟩, ⟨true, .avs [.slice false 6 0 d2 .whole 1]⟩, ⟨true, .hdr 5 0 d3 d4 d5 none⟩, ⟨true, .flat 0 (.ints .u8 d6)⟩, ⟨true, .flat 0 (.ints .i64 d7)⟩]) gv0 gv1 gv2 gv3 gv4 gv5 gv6)
  | [.sptr [(0, 2), (1, 1), (2, 1), (3, 1)]], [⟨false, .flat 2 (.ints .i64 gv0)⟩, ⟨false, .flat 1 (.ints .i64 gv1)⟩, ⟨true, .avs [.nils]⟩, ⟨true, .avs [.nils]⟩], K => (impl_system_solve_v2 N (fun d0 => K (.bool (d0)) [⟨false, .flat 2 (.ints .i64 gv0)⟩, ⟨false, .flat 1 (.ints .i64 gv1)⟩, ⟨true, .avs [.nils]⟩, ⟨true, .avs [.nils]⟩]) gv0 gv1)
  | _, _, _ => none

theorem impl_system_solve.en_ok (N : Nat) (hE : EnvOk (E33 N) ents) (ρ : Type) (args : List AV) (sh : Heap) (K : AV → Heap → Option ρ) (r : ρ) (h : impl_system_solve.en N ρ args sh K = some r) : ∃ v sh', K v sh' = some r ∧ FnOk (E33 N).P 29 args sh v sh' := by
  unfold impl_system_solve.en at h
  split at h
  · exact fn_ok hE (kp := impl_system_solve.kp) (N := N) Go.Proofs.Try.func29 (c := impl_system_solve.bd) (by kernel_rfl) ((impl_system_solve.eq N _ _ _ _ _ _ _ _).trans h)
  · exact fn_ok hE (kp := impl_system_solve_v2.kp) (N := N) Go.Proofs.Try.func29 (c := impl_system_solve_v2.bd) (by kernel_rfl) ((impl_system_solve_v2.eq N _ _ _).trans h)
  · cases h

noncomputable def E34 (N : Nat) : Env := (E33 N).add 29 (impl_system_solve.en N)

theorem E34_ok (N : Nat) : EnvOk (E34 N) ents := Env.add_ok (E33_ok N) (impl_system_solve.en_ok N (E33_ok N))

noncomputable def impl_reduced_s.kp : Keeps := ⟨[(0, [5, 13, 14, 15], [], [(.cell 3 0, .wholeH false .u8)]), (2, [8, 39, 40, 41], [], [])], [(0, [5], [], []), (2, [8], [], [])], []⟩

noncomputable def impl_reduced_s.bd : Code := bodyOf Go.Proofs.Try.f19

noncomputable def impl_reduced_s.fin {ρ : Type} (N : Nat) (K : AV → Heap → Option ρ) (gv3 : Nat) (gv4 : Nat → Int) : XE → St → Option ρ := finK (E34 N) impl_reduced_s.kp.fins Go.Proofs.Try.f19 [⟨false, .flat gv3 (.ints .u8 gv4)⟩] K

noncomputable def impl_reduced_s.k0 {ρ : Type} (N : Nat) (K : AV → Heap → Option ρ) (gv3 : Nat) (gv4 : Nat → Int) : XE → St → Option ρ := (blockK impl_reduced_s.kp 1 0 (seqK (xcode (E34 N) ents impl_reduced_s.kp 1 N (cB (cB (cB impl_reduced_s.bd))) 0) (impl_reduced_s.fin N K gv3 gv4)))

theorem impl_reduced_s.k0_mix {ρ : Type} (N : Nat) (K : AV → Heap → Option ρ) (gv3 : Nat) (gv4 : Nat → Int) : mixK (impl_reduced_s.fin N K gv3 gv4 .ret) (impl_reduced_s.k0 N K gv3 gv4) = (impl_reduced_s.k0 N K gv3 gv4) := by
  funext e s; cases e <;> kernel_rfl

noncomputable def impl_reduced_s.st0 (list1 : Nat) (list2 : Nat) (gv3 : Nat) (gv4 : Nat → Int) (rv5 : Nat → Int) (rv6 : Nat → Int) (x7 : Int) (gv8 : Nat) (gv9 : Nat) (gv10 : Nat → Nat) (gv11 : Nat → Nat) (gv12 : Nat → Int) : St := ⟨sl 54 [(5, .sptr [(1, 2), (2, 1), (3, 1), (4, 1)]), (13, .slice true 0 0 list1 (.exact list2) 8), (14, .int .i64 ((list1 : Int))), (15, .int .i64 (x7))], [⟨false, .flat gv3 (.ints .u8 gv4)⟩, ⟨true, .flat 2 (.ints .i64 rv5)⟩, ⟨true, .flat 1 (.ints .i64 rv6)⟩, ⟨true, .avs [.slice false 5 0 gv8 .whole 1]⟩, ⟨true, .avs [.nils]⟩, ⟨true, .hdr 6 0 gv9 gv10 gv11 none⟩, ⟨true, .flat 0 (.ints .u8 gv12)⟩]⟩

noncomputable def impl_reduced_s.sx0_0 (gv3 : Nat) (gv4 : Nat → Int) (rv5 : Nat → Int) (rv6 : Nat → Int) (ov15 : Nat) (ov16 : Nat) (ov17 : Nat → Nat) (ov18 : Nat → Nat) (ov19 : Nat → Int) : St := ⟨sl 54 [(5, .sptr [(1, 2), (2, 1), (3, 1), (4, 1)])], [⟨false, .flat gv3 (.ints .u8 gv4)⟩, ⟨true, .flat 2 (.ints .i64 rv5)⟩, ⟨true, .flat 1 (.ints .i64 rv6)⟩, ⟨true, .avs [.slice false 5 0 ov15 .whole 1]⟩, ⟨true, .avs [.nils]⟩, ⟨true, .hdr 6 0 ov16 ov17 ov18 none⟩, ⟨true, .flat 0 (.ints .u8 ov19)⟩]⟩

noncomputable def impl_reduced_s.k1 {ρ : Type} (N : Nat) (K : AV → Heap → Option ρ) (gv3 : Nat) (gv4 : Nat → Int) : XE → St → Option ρ := (blockK impl_reduced_s.kp 1 2 (seqK (xcode (E34 N) ents impl_reduced_s.kp 1 N (cB (cB (cB (cB (cB (cB impl_reduced_s.bd)))))) 0) (impl_reduced_s.fin N K gv3 gv4)))

theorem impl_reduced_s.k1_mix {ρ : Type} (N : Nat) (K : AV → Heap → Option ρ) (gv3 : Nat) (gv4 : Nat → Int) : mixK (impl_reduced_s.fin N K gv3 gv4 .ret) (impl_reduced_s.k1 N K gv3 gv4) = (impl_reduced_s.k1 N K gv3 gv4) := by
  funext e s; cases e <;> kernel_rfl

noncomputable def impl_reduced_s.st1 (gv3 : Nat) (gv4 : Nat → Int) (rv21 : Nat) (rv23 : Nat) (rv24 : Nat → Nat) (rv25 : Nat → Nat) (rv26 : Nat → Int) (outv28 : Nat) (x29 : Int) (gv30 : Nat → Int) : St := ⟨sl 54 [(8, .slice true 1 0 outv28 .whole 8), (39, .slice false 2 0 rv21 .unk 1), (40, .int .i64 ((rv21 : Int))), (41, .int .i64 (x29))], [⟨false, .flat gv3 (.ints .u8 gv4)⟩, ⟨true, .flat 0 (.ints .u8 gv30)⟩, ⟨true, .hdr 3 0 rv23 rv24 rv25 none⟩, ⟨true, .flat 0 (.ints .u8 rv26)⟩]⟩

noncomputable def impl_reduced_s.sx1_0 (gv3 : Nat) (gv4 : Nat → Int) (ov31 : Nat) (ov32 : Nat → Int) : St := ⟨sl 54 [(8, .slice true 1 0 ov31 .whole 8)], [⟨false, .flat gv3 (.ints .u8 gv4)⟩, ⟨true, .flat 0 (.ints .u8 ov32)⟩]⟩

theorem impl_reduced_s.b1_gen {ρ : Type} (N : Nat) (K : AV → Heap → Option ρ) (L1 : St → Option ρ) (kv : XE → St → Option ρ) (gv3 : Nat) (gv4 : Nat → Int) (rv21 : Nat) (rv23 : Nat) (rv24 : Nat → Nat) (rv25 : Nat → Nat) (rv26 : Nat → Int) (outv28 : Nat) (x29 : Int) (gv30 : Nat → Int) :
    xcode (E34 N) ents impl_reduced_s.kp 1 N (cL (cK (cB (cA (cB (cB (cB (cB (cB impl_reduced_s.bd))))))))) 2 (impl_reduced_s.st1 gv3 gv4 rv21 rv23 rv24 rv25 rv26 outv28 x29 gv30) (roundK impl_reduced_s.kp 1 2 L1 (mixK (impl_reduced_s.fin N K gv3 gv4 .ret) kv)) = (impl_reduced_s.b1 N (fun d0 d1 => K (.slice true 1 0 d0 .whole 8) [⟨false, .flat gv3 (.ints .u8 gv4)⟩, ⟨true, .flat 0 (.ints .u8 d1)⟩]) (fun outv28 x29 gv30 => L1 (impl_reduced_s.st1 gv3 gv4 rv21 rv23 rv24 rv25 rv26 outv28 x29 gv30)) (fun ov31 ov32 => kv (.exit 2) (impl_reduced_s.sx1_0 gv3 gv4 ov31 ov32)) rv21 rv24 rv25 rv26 outv28 x29 gv30) := by kernel_rfl

theorem impl_reduced_s.b1_eq {ρ : Type} (N : Nat) (K : AV → Heap → Option ρ) (L1 : St → Option ρ) (gv3 : Nat) (gv4 : Nat → Int) (rv21 : Nat) (rv23 : Nat) (rv24 : Nat → Nat) (rv25 : Nat → Nat) (rv26 : Nat → Int) (outv28 : Nat) (x29 : Int) (gv30 : Nat → Int) :
    xcode (E34 N) ents impl_reduced_s.kp 1 N (cL (cK (cB (cA (cB (cB (cB (cB (cB impl_reduced_s.bd))))))))) 2 (impl_reduced_s.st1 gv3 gv4 rv21 rv23 rv24 rv25 rv26 outv28 x29 gv30) (roundK impl_reduced_s.kp 1 2 L1 (impl_reduced_s.k1 N K gv3 gv4)) = (impl_reduced_s.b1 N (fun d0 d1 => K (.slice true 1 0 d0 .whole 8) [⟨false, .flat gv3 (.ints .u8 gv4)⟩, ⟨true, .flat 0 (.ints .u8 d1)⟩]) (fun outv28 x29 gv30 => L1 (impl_reduced_s.st1 gv3 gv4 rv21 rv23 rv24 rv25 rv26 outv28 x29 gv30)) (fun ov31 ov32 => (impl_reduced_s.k1 N K gv3 gv4) (.exit 2) (impl_reduced_s.sx1_0 gv3 gv4 ov31 ov32)) rv21 rv24 rv25 rv26 outv28 x29 gv30) := by
  have h := impl_reduced_s.b1_gen N K L1 (impl_reduced_s.k1 N K gv3 gv4) gv3 gv4 rv21 rv23 rv24 rv25 rv26 outv28 x29 gv30
  rw [impl_reduced_s.k1_mix] at h
  exact h

theorem impl_reduced_s.a1_0_eq {ρ : Type} (N : Nat) (K : AV → Heap → Option ρ) (gv3 : Nat) (gv4 : Nat → Int) (ov31 : Nat) (ov32 : Nat → Int) :
    (impl_reduced_s.k1 N K gv3 gv4) (.exit 2) (impl_reduced_s.sx1_0 gv3 gv4 ov31 ov32) = (impl_reduced_s.a1_0 N (fun d0 d1 => K (.slice true 1 0 d0 .whole 8) [⟨false, .flat gv3 (.ints .u8 gv4)⟩, ⟨true, .flat 0 (.ints .u8 d1)⟩]) ov31 ov32) := by kernel_rfl

theorem impl_reduced_s.b0_gen {ρ : Type} (N : Nat) (K : AV → Heap → Option ρ) (L0 : St → Option ρ) (kv : XE → St → Option ρ) (list1 : Nat) (list2 : Nat) (gv3 : Nat) (gv4 : Nat → Int) (rv5 : Nat → Int) (rv6 : Nat → Int) (x7 : Int) (gv8 : Nat) (gv9 : Nat) (gv10 : Nat → Nat) (gv11 : Nat → Nat) (gv12 : Nat → Int) :
    xcode (E34 N) ents impl_reduced_s.kp 1 N (cL (cK (cB (cA (cB (cB impl_reduced_s.bd)))))) 0 (impl_reduced_s.st0 list1 list2 gv3 gv4 rv5 rv6 x7 gv8 gv9 gv10 gv11 gv12) (roundK impl_reduced_s.kp 1 0 L0 (mixK (impl_reduced_s.fin N K gv3 gv4 .ret) kv)) = (impl_reduced_s.b0 N (fun d0 d1 => K (.slice true 1 0 d0 .whole 8) [⟨false, .flat gv3 (.ints .u8 gv4)⟩, ⟨true, .flat 0 (.ints .u8 d1)⟩]) (fun x7 gv8 gv9 gv10 gv11 gv12 => L0 (impl_reduced_s.st0 list1 list2 gv3 gv4 rv5 rv6 x7 gv8 gv9 gv10 gv11 gv12)) (fun ov15 ov16 ov17 ov18 ov19 => kv (.exit 0) (impl_reduced_s.sx0_0 gv3 gv4 rv5 rv6 ov15 ov16 ov17 ov18 ov19)) list1 gv4 x7 gv8 gv9 gv10 gv11 gv12) := by kernel_rfl

theorem impl_reduced_s.b0_eq {ρ : Type} (N : Nat) (K : AV → Heap → Option ρ) (L0 : St → Option ρ) (list1 : Nat) (list2 : Nat) (gv3 : Nat) (gv4 : Nat → Int) (rv5 : Nat → Int) (rv6 : Nat → Int) (x7 : Int) (gv8 : Nat) (gv9 : Nat) (gv10 : Nat → Nat) (gv11 : Nat → Nat) (gv12 : Nat → Int) :
    xcode (E34 N) ents impl_reduced_s.kp 1 N (cL (cK (cB (cA (cB (cB impl_reduced_s.bd)))))) 0 (impl_reduced_s.st0 list1 list2 gv3 gv4 rv5 rv6 x7 gv8 gv9 gv10 gv11 gv12) (roundK impl_reduced_s.kp 1 0 L0 (impl_reduced_s.k0 N K gv3 gv4)) = (impl_reduced_s.b0 N (fun d0 d1 => K (.slice true 1 0 d0 .whole 8) [⟨false, .flat gv3 (.ints .u8 gv4)⟩, ⟨true, .flat 0 (.ints .u8 d1)⟩]) (fun x7 gv8 gv9 gv10 gv11 gv12 => L0 (impl_reduced_s.st0 list1 list2 gv3 gv4 rv5 rv6 x7 gv8 gv9 gv10 gv11 gv12)) (fun ov15 ov16 ov17 ov18 ov19 => (impl_reduced_s.k0 N K gv3 gv4) (.exit 0) (impl_reduced_s.sx0_0 gv3 gv4 rv5 rv6 ov15 ov16 ov17 ov18 ov19)) list1 gv4 x7 gv8 gv9 gv10 gv11 gv12) := by
  have h := impl_reduced_s.b0_gen N K L0 (impl_reduced_s.k0 N K gv3 gv4) list1 list2 gv3 gv4 rv5 rv6 x7 gv8 gv9 gv10 gv11 gv12
  rw [impl_reduced_s.k0_mix] at h
  exact h

theorem impl_reduced_s.a0_0_eq {ρ : Type} (N : Nat) (K : AV → Heap → Option ρ) (gv3 : Nat) (gv4 : Nat → Int) (rv5 : Nat → Int) (rv6 : Nat → Int) (ov15 : Nat) (ov16 : Nat) (ov17 : Nat → Nat) (ov18 : Nat → Nat) (ov19 : Nat → Int) :
    (impl_reduced_s.k0 N K gv3 gv4) (.exit 0) (impl_reduced_s.sx0_0 gv3 gv4 rv5 rv6 ov15 ov16 ov17 ov18 ov19) = (impl_reduced_s.a0_0 N (fun d0 d1 => K (.slice true 1 0 d0 .whole 8) [⟨false, .flat gv3 (.ints .u8 gv4)⟩, ⟨true, .flat 0 (.ints .u8 d1)⟩]) (fun rv21 rv23 rv24 rv25 rv26 outv28 x29 gv30 => xloop (xcode (E34 N) ents impl_reduced_s.kp 1 N (cL (cK (cB (cA (cB (cB (cB (cB (cB impl_reduced_s.bd))))))))) 2) impl_reduced_s.kp 1 2 N (impl_reduced_s.st1 gv3 gv4 rv21 rv23 rv24 rv25 rv26 outv28 x29 gv30) (impl_reduced_s.k1 N K gv3 gv4)) rv5 rv6 ov15 ov16 ov17 ov18 ov19) := by kernel_rfl

theorem impl_reduced_s.l1_eq {ρ : Type} (N : Nat) (K : AV → Heap → Option ρ) (gv3 : Nat) (gv4 : Nat → Int) (rv21 : Nat) (rv23 : Nat) (rv24 : Nat → Nat) (rv25 : Nat → Nat) (rv26 : Nat → Int) :
    ∀ (m : Nat) (outv28 : Nat) (x29 : Int) (gv30 : Nat → Int), xloop (xcode (E34 N) ents impl_reduced_s.kp 1 N (cL (cK (cB (cA (cB (cB (cB (cB (cB impl_reduced_s.bd))))))))) 2) impl_reduced_s.kp 1 2 m (impl_reduced_s.st1 gv3 gv4 rv21 rv23 rv24 rv25 rv26 outv28 x29 gv30) (impl_reduced_s.k1 N K gv3 gv4) = (impl_reduced_s.l1 N (fun d0 d1 => K (.slice true 1 0 d0 .whole 8) [⟨false, .flat gv3 (.ints .u8 gv4)⟩, ⟨true, .flat 0 (.ints .u8 d1)⟩]) rv21 rv24 rv25 rv26 (fun ov31 ov32 => (impl_reduced_s.k1 N K gv3 gv4) (.exit 2) (impl_reduced_s.sx1_0 gv3 gv4 ov31 ov32)) m outv28 x29 gv30) := by
  intro m
  induction m with
  | zero => intros; rfl
  | succ m ih =>
    intro outv28 x29 gv30
    refine (impl_reduced_s.b1_eq N K (fun s => xloop (xcode (E34 N) ents impl_reduced_s.kp 1 N (cL (cK (cB (cA (cB (cB (cB (cB (cB impl_reduced_s.bd))))))))) 2) impl_reduced_s.kp 1 2 m s (impl_reduced_s.k1 N K gv3 gv4)) gv3 gv4 rv21 rv23 rv24 rv25 rv26 outv28 x29 gv30).trans ?_
    simp only [ih]
    kernel_rfl

theorem impl_reduced_s.l0_eq {ρ : Type} (N : Nat) (K : AV → Heap → Option ρ) (list1 : Nat) (list2 : Nat) (gv3 : Nat) (gv4 : Nat → Int) (rv5 : Nat → Int) (rv6 : Nat → Int) :
    ∀ (m : Nat) (x7 : Int) (gv8 : Nat) (gv9 : Nat) (gv10 : Nat → Nat) (gv11 : Nat → Nat) (gv12 : Nat → Int), xloop (xcode (E34 N) ents impl_reduced_s.kp 1 N (cL (cK (cB (cA (cB (cB impl_reduced_s.bd)))))) 0) impl_reduced_s.kp 1 0 m (impl_reduced_s.st0 list1 list2 gv3 gv4 rv5 rv6 x7 gv8 gv9 gv10 gv11 gv12) (impl_reduced_s.k0 N K gv3 gv4) = (impl_reduced_s.l0 N (fun d0 d1 => K (.slice true 1 0 d0 .whole 8) [⟨false, .flat gv3 (.ints .u8 gv4)⟩, ⟨true, .flat 0 (.ints .u8 d1)⟩]) list1 gv4 (fun ov15 ov16 ov17 ov18 ov19 => (impl_reduced_s.k0 N K gv3 gv4) (.exit 0) (impl_reduced_s.sx0_0 gv3 gv4 rv5 rv6 ov15 ov16 ov17 ov18 ov19)) m x7 gv8 gv9 gv10 gv11 gv12) := by
  intro m
  induction m with
  | zero => intros; rfl
  | succ m ih =>
    intro x7 gv8 gv9 gv10 gv11 gv12
    refine (impl_reduced_s.b0_eq N K (fun s => xloop (xcode (E34 N) ents impl_reduced_s.kp 1 N (cL (cK (cB (cA (cB (cB impl_reduced_s.bd)))))) 0) impl_reduced_s.kp 1 0 m s (impl_reduced_s.k0 N K gv3 gv4)) list1 list2 gv3 gv4 rv5 rv6 x7 gv8 gv9 gv10 gv11 gv12).trans ?_
    simp only [ih]
    kernel_rfl

theorem impl_reduced_s.s_eq {ρ : Type} (N : Nat) (K : AV → Heap → Option ρ) (p0 : Int) (list1 : Nat) (list2 : Nat) (gv3 : Nat) (gv4 : Nat → Int) :
    xbody (E34 N) ents impl_reduced_s.kp N Go.Proofs.Try.f19 impl_reduced_s.bd [.int .i64 (p0), .slice true 0 0 list1 (.exact list2) 8] [⟨false, .flat gv3 (.ints .u8 gv4)⟩] K = (impl_reduced_s.s N (fun d0 d1 => K (.slice true 1 0 d0 .whole 8) [⟨false, .flat gv3 (.ints .u8 gv4)⟩, ⟨true, .flat 0 (.ints .u8 d1)⟩]) (fun rv5 rv6 x7 gv8 gv9 gv10 gv11 gv12 => xloop (xcode (E34 N) ents impl_reduced_s.kp 1 N (cL (cK (cB (cA (cB (cB impl_reduced_s.bd)))))) 0) impl_reduced_s.kp 1 0 N (impl_reduced_s.st0 list1 list2 gv3 gv4 rv5 rv6 x7 gv8 gv9 gv10 gv11 gv12) (impl_reduced_s.k0 N K gv3 gv4)) p0) := by kernel_rfl

theorem impl_reduced_s.eq {ρ : Type} (N : Nat) (K : AV → Heap → Option ρ) (p0 : Int) (list1 : Nat) (list2 : Nat) (gv3 : Nat) (gv4 : Nat → Int) :
    xbody (E34 N) ents impl_reduced_s.kp N Go.Proofs.Try.f19 impl_reduced_s.bd [.int .i64 (p0), .slice true 0 0 list1 (.exact list2) 8] [⟨false, .flat gv3 (.ints .u8 gv4)⟩] K = (impl_reduced_s N (fun d0 d1 => K (.slice true 1 0 d0 .whole 8) [⟨false, .flat gv3 (.ints .u8 gv4)⟩, ⟨true, .flat 0 (.ints .u8 d1)⟩]) p0 list1 list2 gv3 gv4) := by
  refine (impl_reduced_s.s_eq N K p0 list1 list2 gv3 gv4).trans ?_
  simp only [impl_reduced_s.l0_eq, impl_reduced_s.a0_0_eq, impl_reduced_s.l1_eq, impl_reduced_s.a1_0_eq]
  kernel_rfl

noncomputable def impl_reduced_n.kp : Keeps := ⟨[(0, [5, 13, 14, 15], [], []), (2, [8, 39, 40, 41], [], [])], [(0, [5], [], []), (2, [8], [], [])], []⟩

noncomputable def impl_reduced_n.bd : Code := bodyOf Go.Proofs.Try.f19

noncomputable def impl_reduced_n.fin {ρ : Type} (N : Nat) (K : AV → Heap → Option ρ) : XE → St → Option ρ := finK (E34 N) impl_reduced_n.kp.fins Go.Proofs.Try.f19 [] K

noncomputable def impl_reduced_n.k0 {ρ : Type} (N : Nat) (K : AV → Heap → Option ρ) : XE → St → Option ρ := (blockK impl_reduced_n.kp 0 0 (seqK (xcode (E34 N) ents impl_reduced_n.kp 0 N (cB (cB (cB impl_reduced_n.bd))) 0) (impl_reduced_n.fin N K)))

theorem impl_reduced_n.k0_mix {ρ : Type} (N : Nat) (K : AV → Heap → Option ρ) : mixK (impl_reduced_n.fin N K .ret) (impl_reduced_n.k0 N K) = (impl_reduced_n.k0 N K) := by
  funext e s; cases e <;> kernel_rfl

noncomputable def impl_reduced_n.st0 (rv1 : Nat → Int) (rv2 : Nat → Int) : St := ⟨sl 54 [(5, .sptr [(0, 2), (1, 1), (2, 1), (3, 1)]), (13, .nils), (14, .int .i64 0), (15, .int .i64 0)], [⟨true, .flat 2 (.ints .i64 rv1)⟩, ⟨true, .flat 1 (.ints .i64 rv2)⟩, ⟨true, .avs [.nils]⟩, ⟨true, .avs [.nils]⟩]⟩

noncomputable def impl_reduced_n.sx0_0 (rv1 : Nat → Int) (rv2 : Nat → Int) : St := ⟨sl 54 [(5, .sptr [(0, 2), (1, 1), (2, 1), (3, 1)])], [⟨true, .flat 2 (.ints .i64 rv1)⟩, ⟨true, .flat 1 (.ints .i64 rv2)⟩, ⟨true, .avs [.nils]⟩, ⟨true, .avs [.nils]⟩]⟩

noncomputable def impl_reduced_n.k1 {ρ : Type} (N : Nat) (K : AV → Heap → Option ρ) : XE → St → Option ρ := (blockK impl_reduced_n.kp 0 2 (seqK (xcode (E34 N) ents impl_reduced_n.kp 0 N (cB (cB (cB (cB (cB (cB impl_reduced_n.bd)))))) 0) (impl_reduced_n.fin N K)))

theorem impl_reduced_n.k1_mix {ρ : Type} (N : Nat) (K : AV → Heap → Option ρ) : mixK (impl_reduced_n.fin N K .ret) (impl_reduced_n.k1 N K) = (impl_reduced_n.k1 N K) := by
  funext e s; cases e <;> kernel_rfl

noncomputable def impl_reduced_n.st1 : St := ⟨sl 54 [(8, .slice true 0 0 0 .whole 8), (39, .nils), (40, .int .i64 0), (41, .int .i64 0)], [⟨true, .flat 0 (.ints .u8 (fun _ => 0))⟩]⟩

noncomputable def impl_reduced_n.sx1_0 : St := ⟨sl 54 [(8, .slice true 0 0 0 .whole 8)], [⟨true, .flat 0 (.ints .u8 (fun _ => 0))⟩]⟩

theorem impl_reduced_n.b1_gen {ρ : Type} (N : Nat) (K : AV → Heap → Option ρ) (L1 : St → Option ρ) (kv : XE → St → Option ρ) :
    xcode (E34 N) ents impl_reduced_n.kp 0 N (cL (cK (cB (cA (cB (cB (cB (cB (cB impl_reduced_n.bd))))))))) 2 (impl_reduced_n.st1) (roundK impl_reduced_n.kp 0 2 L1 (mixK (impl_reduced_n.fin N K .ret) kv)) = (impl_reduced_n.b1 N (fun d0 d1 => K (.slice true 0 0 d0 .whole 8) [⟨true, .flat 0 (.ints .u8 d1)⟩]) (L1 (impl_reduced_n.st1)) (kv (.exit 2) (impl_reduced_n.sx1_0))) := by kernel_rfl

theorem impl_reduced_n.b1_eq {ρ : Type} (N : Nat) (K : AV → Heap → Option ρ) (L1 : St → Option ρ) :
    xcode (E34 N) ents impl_reduced_n.kp 0 N (cL (cK (cB (cA (cB (cB (cB (cB (cB impl_reduced_n.bd))))))))) 2 (impl_reduced_n.st1) (roundK impl_reduced_n.kp 0 2 L1 (impl_reduced_n.k1 N K)) = (impl_reduced_n.b1 N (fun d0 d1 => K (.slice true 0 0 d0 .whole 8) [⟨true, .flat 0 (.ints .u8 d1)⟩]) (L1 (impl_reduced_n.st1)) ((impl_reduced_n.k1 N K) (.exit 2) (impl_reduced_n.sx1_0))) := by
  have h := impl_reduced_n.b1_gen N K L1 (impl_reduced_n.k1 N K) 
  rw [impl_reduced_n.k1_mix] at h
  exact h

theorem impl_reduced_n.a1_0_eq {ρ : Type} (N : Nat) (K : AV → Heap → Option ρ) :
    (impl_reduced_n.k1 N K) (.exit 2) (impl_reduced_n.sx1_0) = (impl_reduced_n.a1_0 N (fun d0 d1 => K (.slice true 0 0 d0 .whole 8) [⟨true, .flat 0 (.ints .u8 d1)⟩])) := by kernel_rfl

theorem impl_reduced_n.b0_gen {ρ : Type} (N : Nat) (K : AV → Heap → Option ρ) (L0 : St → Option ρ) (kv : XE → St → Option ρ) (rv1 : Nat → Int) (rv2 : Nat → Int) :
    xcode (E34 N) ents impl_reduced_n.kp 0 N (cL (cK (cB (cA (cB (cB impl_reduced_n.bd)))))) 0 (impl_reduced_n.st0 rv1 rv2) (roundK impl_reduced_n.kp 0 0 L0 (mixK (impl_reduced_n.fin N K .ret) kv)) = (impl_reduced_n.b0 N (fun d0 d1 => K (.slice true 0 0 d0 .whole 8) [⟨true, .flat 0 (.ints .u8 d1)⟩]) (L0 (impl_reduced_n.st0 rv1 rv2)) (kv (.exit 0) (impl_reduced_n.sx0_0 rv1 rv2))) := by kernel_rfl

theorem impl_reduced_n.b0_eq {ρ : Type} (N : Nat) (K : AV → Heap → Option ρ) (L0 : St → Option ρ) (rv1 : Nat → Int) (rv2 : Nat → Int) :
    xcode (E34 N) ents impl_reduced_n.kp 0 N (cL (cK (cB (cA (cB (cB impl_reduced_n.bd)))))) 0 (impl_reduced_n.st0 rv1 rv2) (roundK impl_reduced_n.kp 0 0 L0 (impl_reduced_n.k0 N K)) = (impl_reduced_n.b0 N (fun d0 d1 => K (.slice true 0 0 d0 .whole 8) [⟨true, .flat 0 (.ints .u8 d1)⟩]) (L0 (impl_reduced_n.st0 rv1 rv2)) ((impl_reduced_n.k0 N K) (.exit 0) (impl_reduced_n.sx0_0 rv1 rv2))) := by
  have h := impl_reduced_n.b0_gen N K L0 (impl_reduced_n.k0 N K) rv1 rv2
  rw [impl_reduced_n.k0_mix] at h
  exact h

theorem impl_reduced_n.a0_0_eq {ρ : Type} (N : Nat) (K : AV → Heap → Option ρ) (rv1 : Nat → Int) (rv2 : Nat → Int) :
    (impl_reduced_n.k0 N K) (.exit 0) (impl_reduced_n.sx0_0 rv1 rv2) = (impl_reduced_n.a0_0 N (fun d0 d1 => K (.slice true 0 0 d0 .whole 8) [⟨true, .flat 0 (.ints .u8 d1)⟩]) (xloop (xcode (E34 N) ents impl_reduced_n.kp 0 N (cL (cK (cB (cA (cB (cB (cB (cB (cB impl_reduced_n.bd))))))))) 2) impl_reduced_n.kp 0 2 N (impl_reduced_n.st1) (impl_reduced_n.k1 N K)) rv1 rv2) := by kernel_rfl

theorem impl_reduced_n.l1_eq {ρ : Type} (N : Nat) (K : AV → Heap → Option ρ) :
    ∀ (m : Nat), xloop (xcode (E34 N) ents impl_reduced_n.kp 0 N (cL (cK (cB (cA (cB (cB (cB (cB (cB impl_reduced_n.bd))))))))) 2) impl_reduced_n.kp 0 2 m (impl_reduced_n.st1) (impl_reduced_n.k1 N K) = (impl_reduced_n.l1 N (fun d0 d1 => K (.slice true 0 0 d0 .whole 8) [⟨true, .flat 0 (.ints .u8 d1)⟩]) ((impl_reduced_n.k1 N K) (.exit 2) (impl_reduced_n.sx1_0)) m) := by
  intro m
  induction m with
  | zero => intros; rfl
  | succ m ih =>
    refine (impl_reduced_n.b1_eq N K (fun s => xloop (xcode (E34 N) ents impl_reduced_n.kp 0 N (cL (cK (cB (cA (cB (cB (cB (cB (cB impl_reduced_n.bd))))))))) 2) impl_reduced_n.kp 0 2 m s (impl_reduced_n.k1 N K)) ).trans ?_
    simp only [ih]
    kernel_rfl

theorem impl_reduced_n.l0_eq {ρ : Type} (N : Nat) (K : AV → Heap → Option ρ) (rv1 : Nat → Int) (rv2 : Nat → Int) :
    ∀ (m : Nat), xloop (xcode (E34 N) ents impl_reduced_n.kp 0 N (cL (cK (cB (cA (cB (cB impl_reduced_n.bd)))))) 0) impl_reduced_n.kp 0 0 m (impl_reduced_n.st0 rv1 rv2) (impl_reduced_n.k0 N K) = (impl_reduced_n.l0 N (fun d0 d1 => K (.slice true 0 0 d0 .whole 8) [⟨true, .flat 0 (.ints .u8 d1)⟩]) ((impl_reduced_n.k0 N K) (.exit 0) (impl_reduced_n.sx0_0 rv1 rv2)) m) := by
  intro m
  induction m with
  | zero => intros; rfl
  | succ m ih =>
    refine (impl_reduced_n.b0_eq N K (fun s => xloop (xcode (E34 N) ents impl_reduced_n.kp 0 N (cL (cK (cB (cA (cB (cB impl_reduced_n.bd)))))) 0) impl_reduced_n.kp 0 0 m s (impl_reduced_n.k0 N K)) rv1 rv2).trans ?_
    simp only [ih]
    kernel_rfl

theorem impl_reduced_n.s_eq {ρ : Type} (N : Nat) (K : AV → Heap → Option ρ) (p0 : Int) :
    xbody (E34 N) ents impl_reduced_n.kp N Go.Proofs.Try.f19 impl_reduced_n.bd [.int .i64 (p0), .nils] [] K = (impl_reduced_n.s N (fun d0 d1 => K (.slice true 0 0 d0 .whole 8) [⟨true, .flat 0 (.ints .u8 d1)⟩]) (fun rv1 rv2 => xloop (xcode (E34 N) ents impl_reduced_n.kp 0 N (cL (cK (cB (cA (cB (cB impl_reduced_n.bd)))))) 0) impl_reduced_n.kp 0 0 N (impl_reduced_n.st0 rv1 rv2) (impl_reduced_n.k0 N K)) p0) := by kernel_rfl

theorem impl_reduced_n.eq {ρ : Type} (N : Nat) (K : AV → Heap → Option ρ) (p0 : Int) :
    xbody (E34 N) ents impl_reduced_n.kp N Go.Proofs.Try.f19 impl_reduced_n.bd [.int .i64 (p0), .nils] [] K = (impl_reduced_n N (fun d0 d1 => K (.slice true 0 0 d0 .whole 8) [⟨true, .flat 0 (.ints .u8 d1)⟩]) p0) := by
  refine (impl_reduced_n.s_eq N K p0).trans ?_
  simp only [impl_reduced_n.l0_eq, impl_reduced_n.a0_0_eq, impl_reduced_n.l1_eq, impl_reduced_n.a1_0_eq]
  kernel_rfl

noncomputable def impl_reduced_s.en (N : Nat) (ρ : Type) : List AV → Heap → (AV → Heap → Option ρ) → Option ρ
  | [.int .i64 (p0), .slice true 0 0 list1 (.exact list2) 8], [⟨false, .flat gv3 (.ints .u8 gv4)⟩], K => (impl_reduced_s N (fun d0 d1 => K (.slice true 1 0 d0 .whole 8) [⟨false, .flat gv3 (.ints .u8 gv4)⟩, ⟨true, .flat 0 (.ints .u8 d1)⟩]) p0 list1 list2 gv3 gv4)
  | [.int .i64 (p0), .nils], [], K => (impl_reduced_n N (fun d0 d1 => K (.slice true 0 0 d0 .whole 8) [⟨true, .flat 0 (.ints .u8 d1)⟩]) p0)
  | _, _, _ => none

theorem impl_reduced_s.en_ok (N : Nat) (hE : EnvOk (E34 N) ents) (ρ : Type) (args : List AV) (sh : Heap) (K : AV → Heap → Option ρ) (r : ρ) (h : impl_reduced_s.en N ρ args sh K = some r) : ∃ v sh', K v sh' = some r ∧ FnOk (E34 N).P 19 args sh v sh' := by
  unfold impl_reduced_s.en at h
  split at h
  · exact fn_ok hE (kp := impl_reduced_s.kp) (N := N) Go.Proofs.Try.func19 (c := impl_reduced_s.bd) (by kernel_rfl) ((impl_reduced_s.eq N _ _ _ _ _ _).trans h)
  · exact fn_ok hE (kp := impl_reduced_n.kp) (N := N) Go.Proofs.Try.func19 (c := impl_reduced_n.bd) (by kernel_rfl) ((impl_reduced_n.eq N _ _).trans h)
  · cases h

noncomputable def E35 (N : Nat) : Env := (E34 N).add 19 (impl_reduced_s.en N)

theorem E35_ok (N : Nat) : EnvOk (E35 N) ents := Env.add_ok (E34_ok N) (impl_reduced_s.en_ok N (E34_ok N))

noncomputable def impl_ReduceVectors_s.kp : Keeps := ⟨[], [], [(.slot 6, .unk (.ints .u8 (fun _ => 0)) 8)]⟩

noncomputable def impl_ReduceVectors_s.bd : Code := bodyOf Go.Proofs.Try.f7

noncomputable def impl_ReduceVectors_s.fin {ρ : Type} (N : Nat) (K : AV → Heap → Option ρ) (gv4 : Nat) (gv5 : Nat → Int) : XE → St → Option ρ := finK (E35 N) impl_ReduceVectors_s.kp.fins Go.Proofs.Try.f7 [⟨false, .flat gv4 (.ints .u8 gv5)⟩] K

theorem impl_ReduceVectors_s.eq {ρ : Type} (N : Nat) (K : AV → Heap → Option ρ) (p0 : Int) (nv1 : Int) (list2 : Nat) (list3 : Nat) (gv4 : Nat) (gv5 : Nat → Int) :
    xbody (E35 N) ents impl_ReduceVectors_s.kp N Go.Proofs.Try.f7 impl_ReduceVectors_s.bd [.int .i64 (p0), .int .i64 (nv1), .slice true 0 0 list2 (.exact list3) 8] [⟨false, .flat gv4 (.ints .u8 gv5)⟩] K = (impl_ReduceVectors_s N (fun d0 d1 d2 => K (.tup [.slice false 1 0 d0 .unk 8, .int .i64 (d1)]) [⟨false, .flat gv4 (.ints .u8 gv5)⟩, ⟨true, .flat 0 (.ints .u8 d2)⟩]) p0 nv1 list2 list3 gv4 gv5) := by kernel_rfl

noncomputable def impl_ReduceVectors_n.kp : Keeps := ⟨[], [], [(.slot 6, .unk (.ints .u8 (fun _ => 0)) 8)]⟩

noncomputable def impl_ReduceVectors_n.bd : Code := bodyOf Go.Proofs.Try.f7

noncomputable def impl_ReduceVectors_n.fin {ρ : Type} (N : Nat) (K : AV → Heap → Option ρ) : XE → St → Option ρ := finK (E35 N) impl_ReduceVectors_n.kp.fins Go.Proofs.Try.f7 [] K

theorem impl_ReduceVectors_n.eq {ρ : Type} (N : Nat) (K : AV → Heap → Option ρ) (p0 : Int) (nv1 : Int) :
    xbody (E35 N) ents impl_ReduceVectors_n.kp N Go.Proofs.Try.f7 impl_ReduceVectors_n.bd [.int .i64 (p0), .int .i64 (nv1), .nils] [] K = (impl_ReduceVectors_n N (fun d0 d1 d2 => K (.tup [.slice false 0 0 d0 .unk 8, .int .i64 (d1)]) [⟨true, .flat 0 (.ints .u8 d2)⟩]) p0 nv1) := by kernel_rfl

noncomputable def impl_ReduceVectors_s.en (N : Nat) (ρ : Type) : List AV → Heap → (AV → Heap → Option ρ) → Option ρ
  | [.int .i64 (p0), .int .i64 (nv1), .slice true 0 0 list2 (.exact list3) 8], [⟨false, .flat gv4 (.ints .u8 gv5)⟩], K => (impl_ReduceVectors_s N (fun d0 d1 d2 => K (.tup [.slice false 1 0 d0 .unk 8, .int .i64 (d1)]) [⟨false, .flat gv4 (.ints .u8 gv5)⟩, ⟨true, .flat 0 (.ints .u8 d2)⟩]) p0 nv1 list2 list3 gv4 gv5)
  | [.int .i64 (p0), .int .i64 (nv1), .nils], [], K => (impl_ReduceVectors_n N (fun d0 d1 d2 => K (.tup [.slice false 0 0 d0 .unk 8, .int .i64 (d1)]) [⟨true, .flat 0 (.ints .u8 d2)⟩]) p0 nv1)
  | _, _, _ => none

theorem impl_ReduceVectors_s.en_ok (N : Nat) (hE : EnvOk (E35 N) ents) (ρ : Type) (args : List AV) (sh : Heap) (K : AV → Heap → Option ρ) (r : ρ) (h : impl_ReduceVectors_s.en N ρ args sh K = some r) : ∃ v sh', K v sh' = some r ∧ FnOk (E35 N).P 7 args sh v sh' := by
  unfold impl_ReduceVectors_s.en at h
  split at h
  · exact fn_ok hE (kp := impl_ReduceVectors_s.kp) (N := N) Go.Proofs.Try.func7 (c := impl_ReduceVectors_s.bd) (by kernel_rfl) ((impl_ReduceVectors_s.eq N _ _ _ _ _ _ _).trans h)
  · exact fn_ok hE (kp := impl_ReduceVectors_n.kp) (N := N) Go.Proofs.Try.func7 (c := impl_ReduceVectors_n.bd) (by kernel_rfl) ((impl_ReduceVectors_n.eq N _ _ _).trans h)
  · cases h

noncomputable def E36 (N : Nat) : Env := (E35 N).add 7 (impl_ReduceVectors_s.en N)

theorem E36_ok (N : Nat) : EnvOk (E36 N) ents := Env.add_ok (E35_ok N) (impl_ReduceVectors_s.en_ok N (E35_ok N))

noncomputable def laws_eqVector.kp : Keeps := ⟨[(0, [2, 3, 5], [], [])], [(0, [], [], [])], []⟩

noncomputable def laws_eqVector.bd : Code := bodyOf Go.Proofs.Try.f20

noncomputable def laws_eqVector.fin {ρ : Type} (N : Nat) (K : AV → Heap → Option ρ) : XE → St → Option ρ := finK (E36 N) laws_eqVector.kp.fins Go.Proofs.Try.f20 [] K

noncomputable def laws_eqVector.k0 {ρ : Type} (N : Nat) (K : AV → Heap → Option ρ) : XE → St → Option ρ := (blockK laws_eqVector.kp 0 0 (seqK (xcode (E36 N) ents laws_eqVector.kp 0 N (cB (cB laws_eqVector.bd)) 0) (laws_eqVector.fin N K)))

theorem laws_eqVector.k0_mix {ρ : Type} (N : Nat) (K : AV → Heap → Option ρ) : mixK (laws_eqVector.fin N K .ret) (laws_eqVector.k0 N K) = (laws_eqVector.k0 N K) := by
  funext e s; cases e <;> kernel_rfl

noncomputable def laws_eqVector.st0 (av0 : Nat → Int) (bv1 : Nat → Int) (i2 : Int) : St := ⟨sl 17 [(2, .sptr [(0, 8)]), (3, .sptr [(1, 8)]), (5, .int .i64 (i2))], [⟨true, .flat 8 (.ints .u8 av0)⟩, ⟨true, .flat 8 (.ints .u8 bv1)⟩]⟩

noncomputable def laws_eqVector.sx0_0 : St := ⟨sl 17 [], []⟩

theorem laws_eqVector.b0_gen {ρ : Type} (N : Nat) (K : AV → Heap → Option ρ) (L0 : St → Option ρ) (kv : XE → St → Option ρ) (av0 : Nat → Int) (bv1 : Nat → Int) (i2 : Int) :
    xcode (E36 N) ents laws_eqVector.kp 0 N (cL (cK (cB (cA (cB laws_eqVector.bd))))) 0 (laws_eqVector.st0 av0 bv1 i2) (roundK laws_eqVector.kp 0 0 L0 (mixK (laws_eqVector.fin N K .ret) kv)) = (laws_eqVector.b0 N (fun d0 => K (.bool (d0)) []) (fun i2 => L0 (laws_eqVector.st0 av0 bv1 i2)) (kv (.exit 0) (laws_eqVector.sx0_0)) av0 bv1 i2) := by kernel_rfl

theorem laws_eqVector.b0_eq {ρ : Type} (N : Nat) (K : AV → Heap → Option ρ) (L0 : St → Option ρ) (av0 : Nat → Int) (bv1 : Nat → Int) (i2 : Int) :
    xcode (E36 N) ents laws_eqVector.kp 0 N (cL (cK (cB (cA (cB laws_eqVector.bd))))) 0 (laws_eqVector.st0 av0 bv1 i2) (roundK laws_eqVector.kp 0 0 L0 (laws_eqVector.k0 N K)) = (laws_eqVector.b0 N (fun d0 => K (.bool (d0)) []) (fun i2 => L0 (laws_eqVector.st0 av0 bv1 i2)) ((laws_eqVector.k0 N K) (.exit 0) (laws_eqVector.sx0_0)) av0 bv1 i2) := by
  have h := laws_eqVector.b0_gen N K L0 (laws_eqVector.k0 N K) av0 bv1 i2
  rw [laws_eqVector.k0_mix] at h
  exact h

theorem laws_eqVector.a0_0_eq {ρ : Type} (N : Nat) (K : AV → Heap → Option ρ) :
    (laws_eqVector.k0 N K) (.exit 0) (laws_eqVector.sx0_0) = (laws_eqVector.a0_0 N (fun d0 => K (.bool (d0)) [])) := by kernel_rfl

theorem laws_eqVector.l0_eq {ρ : Type} (N : Nat) (K : AV → Heap → Option ρ) (av0 : Nat → Int) (bv1 : Nat → Int) :
    ∀ (m : Nat) (i2 : Int), xloop (xcode (E36 N) ents laws_eqVector.kp 0 N (cL (cK (cB (cA (cB laws_eqVector.bd))))) 0) laws_eqVector.kp 0 0 m (laws_eqVector.st0 av0 bv1 i2) (laws_eqVector.k0 N K) = (laws_eqVector.l0 N (fun d0 => K (.bool (d0)) []) av0 bv1 ((laws_eqVector.k0 N K) (.exit 0) (laws_eqVector.sx0_0)) m i2) := by
  intro m
  induction m with
  | zero => intros; rfl
  | succ m ih =>
    intro i2
    refine (laws_eqVector.b0_eq N K (fun s => xloop (xcode (E36 N) ents laws_eqVector.kp 0 N (cL (cK (cB (cA (cB laws_eqVector.bd))))) 0) laws_eqVector.kp 0 0 m s (laws_eqVector.k0 N K)) av0 bv1 i2).trans ?_
    simp only [ih]
    kernel_rfl

theorem laws_eqVector.s_eq {ρ : Type} (N : Nat) (K : AV → Heap → Option ρ) (av0 : Nat → Int) (bv1 : Nat → Int) :
    xbody (E36 N) ents laws_eqVector.kp N Go.Proofs.Try.f20 laws_eqVector.bd [.agg [⟨.u8, 8, av0⟩], .agg [⟨.u8, 8, bv1⟩]] [] K = (laws_eqVector.s N (fun d0 => K (.bool (d0)) []) (fun i2 => xloop (xcode (E36 N) ents laws_eqVector.kp 0 N (cL (cK (cB (cA (cB laws_eqVector.bd))))) 0) laws_eqVector.kp 0 0 N (laws_eqVector.st0 av0 bv1 i2) (laws_eqVector.k0 N K))) := by kernel_rfl

theorem laws_eqVector.eq {ρ : Type} (N : Nat) (K : AV → Heap → Option ρ) (av0 : Nat → Int) (bv1 : Nat → Int) :
    xbody (E36 N) ents laws_eqVector.kp N Go.Proofs.Try.f20 laws_eqVector.bd [.agg [⟨.u8, 8, av0⟩], .agg [⟨.u8, 8, bv1⟩]] [] K = (laws_eqVector N (fun d0 => K (.bool (d0)) []) av0 bv1) := by
  refine (laws_eqVector.s_eq N K av0 bv1).trans ?_
  simp only [laws_eqVector.l0_eq, laws_eqVector.a0_0_eq]
  kernel_rfl

noncomputable def laws_eqVector.en (N : Nat) (ρ : Type) : List AV → Heap → (AV → Heap → Option ρ) → Option ρ
  | [.agg [⟨.u8, 8, av0⟩], .agg [⟨.u8, 8, bv1⟩]], [], K => (laws_eqVector N (fun d0 => K (.bool (d0)) []) av0 bv1)
  | _, _, _ => none

theorem laws_eqVector.en_ok (N : Nat) (hE : EnvOk (E36 N) ents) (ρ : Type) (args : List AV) (sh : Heap) (K : AV → Heap → Option ρ) (r : ρ) (h : laws_eqVector.en N ρ args sh K = some r) : ∃ v sh', K v sh' = some r ∧ FnOk (E36 N).P 20 args sh v sh' := by
  unfold laws_eqVector.en at h
  split at h
  · exact fn_ok hE (kp := laws_eqVector.kp) (N := N) Go.Proofs.Try.func20 (c := laws_eqVector.bd) (by kernel_rfl) ((laws_eqVector.eq N _ _ _).trans h)
  · cases h

noncomputable def E37 (N : Nat) : Env := (E36 N).add 20 (laws_eqVector.en N)

theorem E37_ok (N : Nat) : EnvOk (E37 N) ents := Env.add_ok (E36_ok N) (laws_eqVector.en_ok N (E36_ok N))

noncomputable def laws_eqVectorS_susu.kp : Keeps := ⟨[(0, [0, 1, 5], [], [])], [(0, [], [], [])], []⟩

noncomputable def laws_eqVectorS_susu.bd : Code := bodyOf Go.Proofs.Try.f8

noncomputable def laws_eqVectorS_susu.fin {ρ : Type} (N : Nat) (K : AV → Heap → Option ρ) (gv2 : Nat) (gv3 : Nat → Int) (gv4 : Nat) (gv5 : Nat → Int) : XE → St → Option ρ := finK (E37 N) laws_eqVectorS_susu.kp.fins Go.Proofs.Try.f8 [⟨false, .flat gv2 (.ints .u8 gv3)⟩, ⟨false, .flat gv4 (.ints .u8 gv5)⟩] K

noncomputable def laws_eqVectorS_susu.k0 {ρ : Type} (N : Nat) (K : AV → Heap → Option ρ) (gv2 : Nat) (gv3 : Nat → Int) (gv4 : Nat) (gv5 : Nat → Int) : XE → St → Option ρ := (blockK laws_eqVectorS_susu.kp 2 0 (seqK (xcode (E37 N) ents laws_eqVectorS_susu.kp 2 N (cB (cB (cB laws_eqVectorS_susu.bd))) 0) (laws_eqVectorS_susu.fin N K gv2 gv3 gv4 gv5)))

theorem laws_eqVectorS_susu.k0_mix {ρ : Type} (N : Nat) (K : AV → Heap → Option ρ) (gv2 : Nat) (gv3 : Nat → Int) (gv4 : Nat) (gv5 : Nat → Int) : mixK (laws_eqVectorS_susu.fin N K gv2 gv3 gv4 gv5 .ret) (laws_eqVectorS_susu.k0 N K gv2 gv3 gv4 gv5) = (laws_eqVectorS_susu.k0 N K gv2 gv3 gv4 gv5) := by
  funext e s; cases e <;> kernel_rfl

noncomputable def laws_eqVectorS_susu.st0 (av0 : Nat) (bv1 : Nat) (gv2 : Nat) (gv3 : Nat → Int) (gv4 : Nat) (gv5 : Nat → Int) (i6 : Int) : St := ⟨sl 27 [(0, .slice false 0 0 av0 .unk 8), (1, .slice false 1 0 bv1 .unk 8), (5, .int .i64 (i6))], [⟨false, .flat gv2 (.ints .u8 gv3)⟩, ⟨false, .flat gv4 (.ints .u8 gv5)⟩]⟩

noncomputable def laws_eqVectorS_susu.sx0_0 (gv2 : Nat) (gv3 : Nat → Int) (gv4 : Nat) (gv5 : Nat → Int) : St := ⟨sl 27 [], [⟨false, .flat gv2 (.ints .u8 gv3)⟩, ⟨false, .flat gv4 (.ints .u8 gv5)⟩]⟩

theorem laws_eqVectorS_susu.b0_gen {ρ : Type} (N : Nat) (K : AV → Heap → Option ρ) (L0 : St → Option ρ) (kv : XE → St → Option ρ) (av0 : Nat) (bv1 : Nat) (gv2 : Nat) (gv3 : Nat → Int) (gv4 : Nat) (gv5 : Nat → Int) (i6 : Int) :
    xcode (E37 N) ents laws_eqVectorS_susu.kp 2 N (cL (cK (cB (cA (cB (cB laws_eqVectorS_susu.bd)))))) 0 (laws_eqVectorS_susu.st0 av0 bv1 gv2 gv3 gv4 gv5 i6) (roundK laws_eqVectorS_susu.kp 2 0 L0 (mixK (laws_eqVectorS_susu.fin N K gv2 gv3 gv4 gv5 .ret) kv)) = (laws_eqVectorS_susu.b0 N (fun d0 => K (.bool (d0)) [⟨false, .flat gv2 (.ints .u8 gv3)⟩, ⟨false, .flat gv4 (.ints .u8 gv5)⟩]) (fun i6 => L0 (laws_eqVectorS_susu.st0 av0 bv1 gv2 gv3 gv4 gv5 i6)) (kv (.exit 0) (laws_eqVectorS_susu.sx0_0 gv2 gv3 gv4 gv5)) av0 bv1 gv3 gv5 i6) := by kernel_rfl

theorem laws_eqVectorS_susu.b0_eq {ρ : Type} (N : Nat) (K : AV → Heap → Option ρ) (L0 : St → Option ρ) (av0 : Nat) (bv1 : Nat) (gv2 : Nat) (gv3 : Nat → Int) (gv4 : Nat) (gv5 : Nat → Int) (i6 : Int) :
    xcode (E37 N) ents laws_eqVectorS_susu.kp 2 N (cL (cK (cB (cA (cB (cB laws_eqVectorS_susu.bd)))))) 0 (laws_eqVectorS_susu.st0 av0 bv1 gv2 gv3 gv4 gv5 i6) (roundK laws_eqVectorS_susu.kp 2 0 L0 (laws_eqVectorS_susu.k0 N K gv2 gv3 gv4 gv5)) = (laws_eqVectorS_susu.b0 N (fun d0 => K (.bool (d0)) [⟨false, .flat gv2 (.ints .u8 gv3)⟩, ⟨false, .flat gv4 (.ints .u8 gv5)⟩]) (fun i6 => L0 (laws_eqVectorS_susu.st0 av0 bv1 gv2 gv3 gv4 gv5 i6)) ((laws_eqVectorS_susu.k0 N K gv2 gv3 gv4 gv5) (.exit 0) (laws_eqVectorS_susu.sx0_0 gv2 gv3 gv4 gv5)) av0 bv1 gv3 gv5 i6) := by
  have h := laws_eqVectorS_susu.b0_gen N K L0 (laws_eqVectorS_susu.k0 N K gv2 gv3 gv4 gv5) av0 bv1 gv2 gv3 gv4 gv5 i6
  rw [laws_eqVectorS_susu.k0_mix] at h
  exact h

theorem laws_eqVectorS_susu.a0_0_eq {ρ : Type} (N : Nat) (K : AV → Heap → Option ρ) (gv2 : Nat) (gv3 : Nat → Int) (gv4 : Nat) (gv5 : Nat → Int) :
    (laws_eqVectorS_susu.k0 N K gv2 gv3 gv4 gv5) (.exit 0) (laws_eqVectorS_susu.sx0_0 gv2 gv3 gv4 gv5) = (laws_eqVectorS_susu.a0_0 N (fun d0 => K (.bool (d0)) [⟨false, .flat gv2 (.ints .u8 gv3)⟩, ⟨false, .flat gv4 (.ints .u8 gv5)⟩])) := by kernel_rfl

theorem laws_eqVectorS_susu.l0_eq {ρ : Type} (N : Nat) (K : AV → Heap → Option ρ) (av0 : Nat) (bv1 : Nat) (gv2 : Nat) (gv3 : Nat → Int) (gv4 : Nat) (gv5 : Nat → Int) :
    ∀ (m : Nat) (i6 : Int), xloop (xcode (E37 N) ents laws_eqVectorS_susu.kp 2 N (cL (cK (cB (cA (cB (cB laws_eqVectorS_susu.bd)))))) 0) laws_eqVectorS_susu.kp 2 0 m (laws_eqVectorS_susu.st0 av0 bv1 gv2 gv3 gv4 gv5 i6) (laws_eqVectorS_susu.k0 N K gv2 gv3 gv4 gv5) = (laws_eqVectorS_susu.l0 N (fun d0 => K (.bool (d0)) [⟨false, .flat gv2 (.ints .u8 gv3)⟩, ⟨false, .flat gv4 (.ints .u8 gv5)⟩]) av0 bv1 gv3 gv5 ((laws_eqVectorS_susu.k0 N K gv2 gv3 gv4 gv5) (.exit 0) (laws_eqVectorS_susu.sx0_0 gv2 gv3 gv4 gv5)) m i6) := by
  intro m
  induction m with
  | zero => intros; rfl
  | succ m ih =>
    intro i6
    refine (laws_eqVectorS_susu.b0_eq N K (fun s => xloop (xcode (E37 N) ents laws_eqVectorS_susu.kp 2 N (cL (cK (cB (cA (cB (cB laws_eqVectorS_susu.bd)))))) 0) laws_eqVectorS_susu.kp 2 0 m s (laws_eqVectorS_susu.k0 N K gv2 gv3 gv4 gv5)) av0 bv1 gv2 gv3 gv4 gv5 i6).trans ?_
    simp only [ih]
    kernel_rfl

theorem laws_eqVectorS_susu.s_eq {ρ : Type} (N : Nat) (K : AV → Heap → Option ρ) (av0 : Nat) (bv1 : Nat) (gv2 : Nat) (gv3 : Nat → Int) (gv4 : Nat) (gv5 : Nat → Int) :
    xbody (E37 N) ents laws_eqVectorS_susu.kp N Go.Proofs.Try.f8 laws_eqVectorS_susu.bd [.slice false 0 0 av0 .unk 8, .slice false 1 0 bv1 .unk 8] [⟨false, .flat gv2 (.ints .u8 gv3)⟩, ⟨false, .flat gv4 (.ints .u8 gv5)⟩] K = (laws_eqVectorS_susu.s N (fun d0 => K (.bool (d0)) [⟨false, .flat gv2 (.ints .u8 gv3)⟩, ⟨false, .flat gv4 (.ints .u8 gv5)⟩]) (fun i6 => xloop (xcode (E37 N) ents laws_eqVectorS_susu.kp 2 N (cL (cK (cB (cA (cB (cB laws_eqVectorS_susu.bd)))))) 0) laws_eqVectorS_susu.kp 2 0 N (laws_eqVectorS_susu.st0 av0 bv1 gv2 gv3 gv4 gv5 i6) (laws_eqVectorS_susu.k0 N K gv2 gv3 gv4 gv5)) av0 bv1) := by kernel_rfl

theorem laws_eqVectorS_susu.eq {ρ : Type} (N : Nat) (K : AV → Heap → Option ρ) (av0 : Nat) (bv1 : Nat) (gv2 : Nat) (gv3 : Nat → Int) (gv4 : Nat) (gv5 : Nat → Int) :
    xbody (E37 N) ents laws_eqVectorS_susu.kp N Go.Proofs.Try.f8 laws_eqVectorS_susu.bd [.slice false 0 0 av0 .unk 8, .slice false 1 0 bv1 .unk 8] [⟨false, .flat gv2 (.ints .u8 gv3)⟩, ⟨false, .flat gv4 (.ints .u8 gv5)⟩] K = (laws_eqVectorS_susu N (fun d0 => K (.bool (d0)) [⟨false, .flat gv2 (.ints .u8 gv3)⟩, ⟨false, .flat gv4 (.ints .u8 gv5)⟩]) av0 bv1 gv2 gv3 gv4 gv5) := by
  refine (laws_eqVectorS_susu.s_eq N K av0 bv1 gv2 gv3 gv4 gv5).trans ?_
  simp only [laws_eqVectorS_susu.l0_eq, laws_eqVectorS_susu.a0_0_eq]
  kernel_rfl

noncomputable def laws_eqVectorS_ss.kp : Keeps := ⟨[(0, [0, 1, 5], [], [])], [(0, [], [], [])], []⟩

noncomputable def laws_eqVectorS_ss.bd : Code := bodyOf Go.Proofs.Try.f8

noncomputable def laws_eqVectorS_ss.fin {ρ : Type} (N : Nat) (K : AV → Heap → Option ρ) (gv4 : Nat) (gv5 : Nat → Int) (gv6 : Nat) (gv7 : Nat → Int) : XE → St → Option ρ := finK (E37 N) laws_eqVectorS_ss.kp.fins Go.Proofs.Try.f8 [⟨false, .flat gv4 (.ints .u8 gv5)⟩, ⟨false, .flat gv6 (.ints .u8 gv7)⟩] K

noncomputable def laws_eqVectorS_ss.k0 {ρ : Type} (N : Nat) (K : AV → Heap → Option ρ) (gv4 : Nat) (gv5 : Nat → Int) (gv6 : Nat) (gv7 : Nat → Int) : XE → St → Option ρ := (blockK laws_eqVectorS_ss.kp 2 0 (seqK (xcode (E37 N) ents laws_eqVectorS_ss.kp 2 N (cB (cB (cB laws_eqVectorS_ss.bd))) 0) (laws_eqVectorS_ss.fin N K gv4 gv5 gv6 gv7)))

theorem laws_eqVectorS_ss.k0_mix {ρ : Type} (N : Nat) (K : AV → Heap → Option ρ) (gv4 : Nat) (gv5 : Nat → Int) (gv6 : Nat) (gv7 : Nat → Int) : mixK (laws_eqVectorS_ss.fin N K gv4 gv5 gv6 gv7 .ret) (laws_eqVectorS_ss.k0 N K gv4 gv5 gv6 gv7) = (laws_eqVectorS_ss.k0 N K gv4 gv5 gv6 gv7) := by
  funext e s; cases e <;> kernel_rfl

noncomputable def laws_eqVectorS_ss.st0 (av0 : Nat) (av1 : Nat) (bv2 : Nat) (bv3 : Nat) (gv4 : Nat) (gv5 : Nat → Int) (gv6 : Nat) (gv7 : Nat → Int) (i8 : Int) : St := ⟨sl 27 [(0, .slice true 0 0 av0 (.exact av1) 8), (1, .slice true 1 0 bv2 (.exact bv3) 8), (5, .int .i64 (i8))], [⟨false, .flat gv4 (.ints .u8 gv5)⟩, ⟨false, .flat gv6 (.ints .u8 gv7)⟩]⟩

noncomputable def laws_eqVectorS_ss.sx0_0 (gv4 : Nat) (gv5 : Nat → Int) (gv6 : Nat) (gv7 : Nat → Int) : St := ⟨sl 27 [], [⟨false, .flat gv4 (.ints .u8 gv5)⟩, ⟨false, .flat gv6 (.ints .u8 gv7)⟩]⟩

theorem laws_eqVectorS_ss.b0_gen {ρ : Type} (N : Nat) (K : AV → Heap → Option ρ) (L0 : St → Option ρ) (kv : XE → St → Option ρ) (av0 : Nat) (av1 : Nat) (bv2 : Nat) (bv3 : Nat) (gv4 : Nat) (gv5 : Nat → Int) (gv6 : Nat) (gv7 : Nat → Int) (i8 : Int) :
    xcode (E37 N) ents laws_eqVectorS_ss.kp 2 N (cL (cK (cB (cA (cB (cB laws_eqVectorS_ss.bd)))))) 0 (laws_eqVectorS_ss.st0 av0 av1 bv2 bv3 gv4 gv5 gv6 gv7 i8) (roundK laws_eqVectorS_ss.kp 2 0 L0 (mixK (laws_eqVectorS_ss.fin N K gv4 gv5 gv6 gv7 .ret) kv)) = (laws_eqVectorS_ss.b0 N (fun d0 => K (.bool (d0)) [⟨false, .flat gv4 (.ints .u8 gv5)⟩, ⟨false, .flat gv6 (.ints .u8 gv7)⟩]) (fun i8 => L0 (laws_eqVectorS_ss.st0 av0 av1 bv2 bv3 gv4 gv5 gv6 gv7 i8)) (kv (.exit 0) (laws_eqVectorS_ss.sx0_0 gv4 gv5 gv6 gv7)) av0 bv2 gv5 gv7 i8) := by kernel_rfl

theorem laws_eqVectorS_ss.b0_eq {ρ : Type} (N : Nat) (K : AV → Heap → Option ρ) (L0 : St → Option ρ) (av0 : Nat) (av1 : Nat) (bv2 : Nat) (bv3 : Nat) (gv4 : Nat) (gv5 : Nat → Int) (gv6 : Nat) (gv7 : Nat → Int) (i8 : Int) :
    xcode (E37 N) ents laws_eqVectorS_ss.kp 2 N (cL (cK (cB (cA (cB (cB laws_eqVectorS_ss.bd)))))) 0 (laws_eqVectorS_ss.st0 av0 av1 bv2 bv3 gv4 gv5 gv6 gv7 i8) (roundK laws_eqVectorS_ss.kp 2 0 L0 (laws_eqVectorS_ss.k0 N K gv4 gv5 gv6 gv7)) = (laws_eqVectorS_ss.b0 N (fun d0 => K (.bool (d0)) [⟨false, .flat gv4 (.ints .u8 gv5)⟩, ⟨false, .flat gv6 (.ints .u8 gv7)⟩]) (fun i8 => L0 (laws_eqVectorS_ss.st0 av0 av1 bv2 bv3 gv4 gv5 gv6 gv7 i8)) ((laws_eqVectorS_ss.k0 N K gv4 gv5 gv6 gv7) (.exit 0) (laws_eqVectorS_ss.sx0_0 gv4 gv5 gv6 gv7)) av0 bv2 gv5 gv7 i8) := by
  have h := laws_eqVectorS_ss.b0_gen N K L0 (laws_eqVectorS_ss.k0 N K gv4 gv5 gv6 gv7) av0 av1 bv2 bv3 gv4 gv5 gv6 gv7 i8
  rw [laws_eqVectorS_ss.k0_mix] at h
  exact h

theorem laws_eqVectorS_ss.a0_0_eq {ρ : Type} (N : Nat) (K : AV → Heap → Option ρ) (gv4 : Nat) (gv5 : Nat → Int) (gv6 : Nat) (gv7 : Nat → Int) :
    (laws_eqVectorS_ss.k0 N K gv4 gv5 gv6 gv7) (.exit 0) (laws_eqVectorS_ss.sx0_0 gv4 gv5 gv6 gv7) = (laws_eqVectorS_ss.a0_0 N (fun d0 => K (.bool (d0)) [⟨false, .flat gv4 (.ints .u8 gv5)⟩, ⟨false, .flat gv6 (.ints .u8 gv7)⟩])) := by kernel_rfl

theorem laws_eqVectorS_ss.l0_eq {ρ : Type} (N : Nat) (K : AV → Heap → Option ρ) (av0 : Nat) (av1 : Nat) (bv2 : Nat) (bv3 : Nat) (gv4 : Nat) (gv5 : Nat → Int) (gv6 : Nat) (gv7 : Nat → Int) :
    ∀ (m : Nat) (i8 : Int), xloop (xcode (E37 N) ents laws_eqVectorS_ss.kp 2 N (cL (cK (cB (cA (cB (cB laws_eqVectorS_ss.bd)))))) 0) laws_eqVectorS_ss.kp 2 0 m (laws_eqVectorS_ss.st0 av0 av1 bv2 bv3 gv4 gv5 gv6 gv7 i8) (laws_eqVectorS_ss.k0 N K gv4 gv5 gv6 gv7) = (laws_eqVectorS_ss.l0 N (fun d0 => K (.bool (d0)) [⟨false, .flat gv4 (.ints .u8 gv5)⟩, ⟨false, .flat gv6 (.ints .u8 gv7)⟩]) av0 bv2 gv5 gv7 ((laws_eqVectorS_ss.k0 N K gv4 gv5 gv6 gv7) (.exit 0) (laws_eqVectorS_ss.sx0_0 gv4 gv5 gv6 gv7)) m i8) := by
  intro m
  induction m with
  | zero => intros; rfl
  | succ m ih =>
    intro i8
    refine (laws_eqVectorS_ss.b0_eq N K (fun s => xloop (xcode (E37 N) ents laws_eqVectorS_ss.kp 2 N (cL (cK (cB (cA (cB (cB laws_eqVectorS_ss.bd)))))) 0) laws_eqVectorS_ss.kp 2 0 m s (laws_eqVectorS_ss.k0 N K gv4 gv5 gv6 gv7)) av0 av1 bv2 bv3 gv4 gv5 gv6 gv7 i8).trans ?_
    simp only [ih]
    kernel_rfl

theorem laws_eqVectorS_ss.s_eq {ρ : Type} (N : Nat) (K : AV → Heap → Option ρ) (av0 : Nat) (av1 : Nat) (bv2 : Nat) (bv3 : Nat) (gv4 : Nat) (gv5 : Nat → Int) (gv6 : Nat) (gv7 : Nat → Int) :
    xbody (E37 N) ents laws_eqVectorS_ss.kp N Go.Proofs.Try.f8 laws_eqVectorS_ss.bd [.slice true 0 0 av0 (.exact av1) 8, .slice true 1 0 bv2 (.exact bv3) 8] [⟨false, .flat gv4 (.ints .u8 gv5)⟩, ⟨false, .flat gv6 (.ints .u8 gv7)⟩] K = (laws_eqVectorS_ss.s N (fun d0 => K (.bool (d0)) [⟨false, .flat gv4 (.ints .u8 gv5)⟩, ⟨false, .flat gv6 (.ints .u8 gv7)⟩]) (fun i8 => xloop (xcode (E37 N) ents laws_eqVectorS_ss.kp 2 N (cL (cK (cB (cA (cB (cB laws_eqVectorS_ss.bd)))))) 0) laws_eqVectorS_ss.kp 2 0 N (laws_eqVectorS_ss.st0 av0 av1 bv2 bv3 gv4 gv5 gv6 gv7 i8) (laws_eqVectorS_ss.k0 N K gv4 gv5 gv6 gv7)) av0 bv2) := by kernel_rfl

theorem laws_eqVectorS_ss.eq {ρ : Type} (N : Nat) (K : AV → Heap → Option ρ) (av0 : Nat) (av1 : Nat) (bv2 : Nat) (bv3 : Nat) (gv4 : Nat) (gv5 : Nat → Int) (gv6 : Nat) (gv7 : Nat → Int) :
    xbody (E37 N) ents laws_eqVectorS_ss.kp N Go.Proofs.Try.f8 laws_eqVectorS_ss.bd [.slice true 0 0 av0 (.exact av1) 8, .slice true 1 0 bv2 (.exact bv3) 8] [⟨false, .flat gv4 (.ints .u8 gv5)⟩, ⟨false, .flat gv6 (.ints .u8 gv7)⟩] K = (laws_eqVectorS_ss N (fun d0 => K (.bool (d0)) [⟨false, .flat gv4 (.ints .u8 gv5)⟩, ⟨false, .flat gv6 (.ints .u8 gv7)⟩]) av0 av1 bv2 bv3 gv4 gv5 gv6 gv7) := by
  refine (laws_eqVectorS_ss.s_eq N K av0 av1 bv2 bv3 gv4 gv5 gv6 gv7).trans ?_
  simp only [laws_eqVectorS_ss.l0_eq, laws_eqVectorS_ss.a0_0_eq]
  kernel_rfl

noncomputable def laws_eqVectorS_susu.en (N : Nat) (ρ : Type) : List AV → Heap → (AV → Heap → Option ρ) → Option ρ
  | [.slice false 0 0 av0 .unk 8, .slice false 1 0 bv1 .unk 8], [⟨false, .flat gv2 (.ints .u8 gv3)⟩, ⟨false, .flat gv4 (.ints .u8 gv5)⟩], K => (laws_eqVectorS_susu N (fun d0 => K (.bool (d0)) [⟨false, .flat gv2 (.ints .u8 gv3)⟩, ⟨false, .flat gv4 (.ints .u8 gv5)⟩]) av0 bv1 gv2 gv3 gv4 gv5)
  | [.slice true 0 0 av0 (.exact av1) 8, .slice true 1 0 bv2 (.exact bv3) 8], [⟨false, .flat gv4 (.ints .u8 gv5)⟩, ⟨false, .flat gv6 (.ints .u8 gv7)⟩], K => (laws_eqVectorS_ss N (fun d0 => K (.bool (d0)) [⟨false, .flat gv4 (.ints .u8 gv5)⟩, ⟨false, .flat gv6 (.ints .u8 gv7)⟩]) av0 av1 bv2 bv3 gv4 gv5 gv6 gv7)
  | _, _, _ => none

theorem laws_eqVectorS_susu.en_ok (N : Nat) (hE : EnvOk (E37 N) ents) (ρ : Type) (args : List AV) (sh : Heap) (K : AV → Heap → Option ρ) (r : ρ) (h : laws_eqVectorS_susu.en N ρ args sh K = some r) : ∃ v sh', K v sh' = some r ∧ FnOk (E37 N).P 8 args sh v sh' := by
  unfold laws_eqVectorS_susu.en at h
  split at h
  · exact fn_ok hE (kp := laws_eqVectorS_susu.kp) (N := N) Go.Proofs.Try.func8 (c := laws_eqVectorS_susu.bd) (by kernel_rfl) ((laws_eqVectorS_susu.eq N _ _ _ _ _ _ _).trans h)
  · exact fn_ok hE (kp := laws_eqVectorS_ss.kp) (N := N) Go.Proofs.Try.func8 (c := laws_eqVectorS_ss.bd) (by kernel_rfl) ((laws_eqVectorS_ss.eq N _ _ _ _ _ _ _ _ _).trans h)
  · cases h

noncomputable def E38 (N : Nat) : Env := (E37 N).add 8 (laws_eqVectorS_susu.en N)

theorem E38_ok (N : Nat) : EnvOk (E38 N) ents := Env.add_ok (E37_ok N) (laws_eqVectorS_susu.en_ok N (E37_ok N))

noncomputable def laws_intactVectorS_ss.kp : Keeps := ⟨[], [], []⟩

noncomputable def laws_intactVectorS_ss.bd : Code := bodyOf Go.Proofs.Try.f9

noncomputable def laws_intactVectorS_ss.fin {ρ : Type} (N : Nat) (K : AV → Heap → Option ρ) (gv4 : Nat) (gv5 : Nat → Int) (gv6 : Nat) (gv7 : Nat → Int) : XE → St → Option ρ := finK (E38 N) laws_intactVectorS_ss.kp.fins Go.Proofs.Try.f9 [⟨false, .flat gv4 (.ints .u8 gv5)⟩, ⟨false, .flat gv6 (.ints .u8 gv7)⟩] K

theorem laws_intactVectorS_ss.eq {ρ : Type} (N : Nat) (K : AV → Heap → Option ρ) (x0 : Nat) (x1 : Nat) (y2 : Nat) (y3 : Nat) (gv4 : Nat) (gv5 : Nat → Int) (gv6 : Nat) (gv7 : Nat → Int) :
    xbody (E38 N) ents laws_intactVectorS_ss.kp N Go.Proofs.Try.f9 laws_intactVectorS_ss.bd [.slice true 0 0 x0 (.exact x1) 8, .slice true 1 0 y2 (.exact y3) 8] [⟨false, .flat gv4 (.ints .u8 gv5)⟩, ⟨false, .flat gv6 (.ints .u8 gv7)⟩] K = (laws_intactVectorS_ss N (fun d0 => K (.bool (d0)) [⟨false, .flat gv4 (.ints .u8 gv5)⟩, ⟨false, .flat gv6 (.ints .u8 gv7)⟩]) x0 x1 y2 y3 gv4 gv5 gv6 gv7) := by kernel_rfl

noncomputable def laws_intactVectorS_ss.en (N : Nat) (ρ : Type) : List AV → Heap → (AV → Heap → Option ρ) → Option ρ
  | [.slice true 0 0 x0 (.exact x1) 8, .slice true 1 0 y2 (.exact y3) 8], [⟨false, .flat gv4 (.ints .u8 gv5)⟩, ⟨false, .flat gv6 (.ints .u8 gv7)⟩], K => (laws_intactVectorS_ss N (fun d0 => K (.bool (d0)) [⟨false, .flat gv4 (.ints .u8 gv5)⟩, ⟨false, .flat gv6 (.ints .u8 gv7)⟩]) x0 x1 y2 y3 gv4 gv5 gv6 gv7)
  | _, _, _ => none

theorem laws_intactVectorS_ss.en_ok (N : Nat) (hE : EnvOk (E38 N) ents) (ρ : Type) (args : List AV) (sh : Heap) (K : AV → Heap → Option ρ) (r : ρ) (h : laws_intactVectorS_ss.en N ρ args sh K = some r) : ∃ v sh', K v sh' = some r ∧ FnOk (E38 N).P 9 args sh v sh' := by
  unfold laws_intactVectorS_ss.en at h
  split at h
  · exact fn_ok hE (kp := laws_intactVectorS_ss.kp) (N := N) Go.Proofs.Try.func9 (c := laws_intactVectorS_ss.bd) (by kernel_rfl) ((laws_intactVectorS_ss.eq N _ _ _ _ _ _ _ _ _).trans h)
  · cases h

noncomputable def E39 (N : Nat) : Env := (E38 N).add 9 (laws_intactVectorS_ss.en N)

theorem E39_ok (N : Nat) : EnvOk (E39 N) ents := Env.add_ok (E38_ok N) (laws_intactVectorS_ss.en_ok N (E38_ok N))

noncomputable def laws_markVectorS_s.kp : Keeps := ⟨[(0, [0, 1, 5], [], []), (2, [0, 1, 5, 6], [], [])], [(0, [1], [], []), (2, [0, 1, 5], [], [])], []⟩

noncomputable def laws_markVectorS_s.bd : Code := bodyOf Go.Proofs.Try.f10

noncomputable def laws_markVectorS_s.fin {ρ : Type} (N : Nat) (K : AV → Heap → Option ρ) (gv3 : Nat) (gv4 : Nat → Int) : XE → St → Option ρ := finK (E39 N) laws_markVectorS_s.kp.fins Go.Proofs.Try.f10 [⟨true, .flat gv3 (.ints .u8 gv4)⟩] K

noncomputable def laws_markVectorS_s.k0 {ρ : Type} (N : Nat) (K : AV → Heap → Option ρ) (gv3 : Nat) (gv4 : Nat → Int) : XE → St → Option ρ := (blockK laws_markVectorS_s.kp 1 0 (seqK (xcode (E39 N) ents laws_markVectorS_s.kp 1 N (cB (cB laws_markVectorS_s.bd)) 0) (laws_markVectorS_s.fin N K gv3 gv4)))

theorem laws_markVectorS_s.k0_mix {ρ : Type} (N : Nat) (K : AV → Heap → Option ρ) (gv3 : Nat) (gv4 : Nat → Int) : mixK (laws_markVectorS_s.fin N K gv3 gv4 .ret) (laws_markVectorS_s.k0 N K gv3 gv4) = (laws_markVectorS_s.k0 N K gv3 gv4) := by
  funext e s; cases e <;> kernel_rfl

noncomputable def laws_markVectorS_s.st0 (av0 : Nat) (av1 : Nat) (gv3 : Nat) (k5 : Int) (i6 : Int) (gv7 : Nat → Int) : St := ⟨sl 27 [(0, .slice true 0 0 av0 (.exact av1) 8), (1, .int .i64 (k5)), (5, .int .i64 (i6))], [⟨true, .flat gv3 (.ints .u8 gv7)⟩]⟩

noncomputable def laws_markVectorS_s.sx0_0 (gv3 : Nat) (ov13 : Int) (ov14 : Nat → Int) : St := ⟨sl 27 [(1, .int .i64 (ov13))], [⟨true, .flat gv3 (.ints .u8 ov14)⟩]⟩

noncomputable def laws_markVectorS_s.k1g {ρ : Type} (N : Nat) (L0 : St → Option ρ) (kv : XE → St → Option ρ) : XE → St → Option ρ := (blockK laws_markVectorS_s.kp 1 2 (blockK laws_markVectorS_s.kp 1 1 (seqK (xcode (E39 N) ents laws_markVectorS_s.kp 1 N (cB (cB (cL (cK (cB (cA (cB laws_markVectorS_s.bd))))))) 0) (roundK laws_markVectorS_s.kp 1 0 L0 kv))))

theorem laws_markVectorS_s.k1_mix {ρ : Type} (N : Nat) (K : AV → Heap → Option ρ) (L0 : St → Option ρ) (gv3 : Nat) (gv4 : Nat → Int) : mixK (laws_markVectorS_s.fin N K gv3 gv4 .ret) (laws_markVectorS_s.k1g N L0 (laws_markVectorS_s.k0 N K gv3 gv4)) = (laws_markVectorS_s.k1g N L0 (laws_markVectorS_s.k0 N K gv3 gv4)) := by
  funext e s; cases e <;> kernel_rfl

noncomputable def laws_markVectorS_s.st1 (av0 : Nat) (av1 : Nat) (gv3 : Nat) (i6 : Int) (k8 : Int) (j9 : Int) (gv10 : Nat → Int) : St := ⟨sl 27 [(0, .slice true 0 0 av0 (.exact av1) 8), (1, .int .i64 (k8)), (5, .int .i64 (i6)), (6, .int .i64 (j9))], [⟨true, .flat gv3 (.ints .u8 gv10)⟩]⟩

noncomputable def laws_markVectorS_s.sx1_0 (av0 : Nat) (av1 : Nat) (gv3 : Nat) (i6 : Int) (ov11 : Int) (ov12 : Nat → Int) : St := ⟨sl 27 [(0, .slice true 0 0 av0 (.exact av1) 8), (1, .int .i64 (ov11)), (5, .int .i64 (i6))], [⟨true, .flat gv3 (.ints .u8 ov12)⟩]⟩

theorem laws_markVectorS_s.b1_gen {ρ : Type} (N : Nat) (K : AV → Heap → Option ρ) (L1 : St → Option ρ) (kv : XE → St → Option ρ) (av0 : Nat) (av1 : Nat) (gv3 : Nat) (gv4 : Nat → Int) (i6 : Int) (k8 : Int) (j9 : Int) (gv10 : Nat → Int) :
    xcode (E39 N) ents laws_markVectorS_s.kp 1 N (cL (cK (cB (cK (cA (cB (cL (cK (cB (cA (cB laws_markVectorS_s.bd))))))))))) 2 (laws_markVectorS_s.st1 av0 av1 gv3 i6 k8 j9 gv10) (roundK laws_markVectorS_s.kp 1 2 L1 (mixK (laws_markVectorS_s.fin N K gv3 gv4 .ret) kv)) = (laws_markVectorS_s.b1 N (fun d0 d1 => K (.int .i64 (d0)) [⟨true, .flat gv3 (.ints .u8 d1)⟩]) (fun k8 j9 gv10 => L1 (laws_markVectorS_s.st1 av0 av1 gv3 i6 k8 j9 gv10)) (fun ov11 ov12 => kv (.exit 2) (laws_markVectorS_s.sx1_0 av0 av1 gv3 i6 ov11 ov12)) av0 i6 k8 j9 gv10) := by kernel_rfl

theorem laws_markVectorS_s.b1_eq {ρ : Type} (N : Nat) (K : AV → Heap → Option ρ) (L0 : St → Option ρ) (L1 : St → Option ρ) (av0 : Nat) (av1 : Nat) (gv3 : Nat) (gv4 : Nat → Int) (i6 : Int) (k8 : Int) (j9 : Int) (gv10 : Nat → Int) :
    xcode (E39 N) ents laws_markVectorS_s.kp 1 N (cL (cK (cB (cK (cA (cB (cL (cK (cB (cA (cB laws_markVectorS_s.bd))))))))))) 2 (laws_markVectorS_s.st1 av0 av1 gv3 i6 k8 j9 gv10) (roundK laws_markVectorS_s.kp 1 2 L1 (laws_markVectorS_s.k1g N L0 (laws_markVectorS_s.k0 N K gv3 gv4))) = (laws_markVectorS_s.b1 N (fun d0 d1 => K (.int .i64 (d0)) [⟨true, .flat gv3 (.ints .u8 d1)⟩]) (fun k8 j9 gv10 => L1 (laws_markVectorS_s.st1 av0 av1 gv3 i6 k8 j9 gv10)) (fun ov11 ov12 => (laws_markVectorS_s.k1g N L0 (laws_markVectorS_s.k0 N K gv3 gv4)) (.exit 2) (laws_markVectorS_s.sx1_0 av0 av1 gv3 i6 ov11 ov12)) av0 i6 k8 j9 gv10) := by
  have h := laws_markVectorS_s.b1_gen N K L1 (laws_markVectorS_s.k1g N L0 (laws_markVectorS_s.k0 N K gv3 gv4)) av0 av1 gv3 gv4 i6 k8 j9 gv10
  rw [laws_markVectorS_s.k1_mix] at h
  exact h

theorem laws_markVectorS_s.a1_0_gen {ρ : Type} (N : Nat) (K : AV → Heap → Option ρ) (L0 : St → Option ρ) (kv : XE → St → Option ρ) (av0 : Nat) (av1 : Nat) (gv3 : Nat) (gv4 : Nat → Int) (i6 : Int) (ov11 : Int) (ov12 : Nat → Int) :
    (laws_markVectorS_s.k1g N L0 (mixK (laws_markVectorS_s.fin N K gv3 gv4 .ret) kv)) (.exit 2) (laws_markVectorS_s.sx1_0 av0 av1 gv3 i6 ov11 ov12) = (laws_markVectorS_s.a1_0 N (fun d0 d1 => K (.int .i64 (d0)) [⟨true, .flat gv3 (.ints .u8 d1)⟩]) (fun k5 i6 gv7 => L0 (laws_markVectorS_s.st0 av0 av1 gv3 k5 i6 gv7)) (fun ov13 ov14 => kv (.exit 0) (laws_markVectorS_s.sx0_0 gv3 ov13 ov14)) i6 ov11 ov12) := by kernel_rfl

theorem laws_markVectorS_s.a1_0_eq {ρ : Type} (N : Nat) (K : AV → Heap → Option ρ) (L0 : St → Option ρ) (av0 : Nat) (av1 : Nat) (gv3 : Nat) (gv4 : Nat → Int) (i6 : Int) (ov11 : Int) (ov12 : Nat → Int) :
    (laws_markVectorS_s.k1g N L0 (laws_markVectorS_s.k0 N K gv3 gv4)) (.exit 2) (laws_markVectorS_s.sx1_0 av0 av1 gv3 i6 ov11 ov12) = (laws_markVectorS_s.a1_0 N (fun d0 d1 => K (.int .i64 (d0)) [⟨true, .flat gv3 (.ints .u8 d1)⟩]) (fun k5 i6 gv7 => L0 (laws_markVectorS_s.st0 av0 av1 gv3 k5 i6 gv7)) (fun ov13 ov14 => (laws_markVectorS_s.k0 N K gv3 gv4) (.exit 0) (laws_markVectorS_s.sx0_0 gv3 ov13 ov14)) i6 ov11 ov12) := by
  have h := laws_markVectorS_s.a1_0_gen N K L0 (laws_markVectorS_s.k0 N K gv3 gv4) av0 av1 gv3 gv4 i6 ov11 ov12
  rw [laws_markVectorS_s.k0_mix] at h
  exact h

theorem laws_markVectorS_s.b0_gen {ρ : Type} (N : Nat) (K : AV → Heap → Option ρ) (L0 : St → Option ρ) (kv : XE → St → Option ρ) (av0 : Nat) (av1 : Nat) (gv3 : Nat) (gv4 : Nat → Int) (k5 : Int) (i6 : Int) (gv7 : Nat → Int) :
    xcode (E39 N) ents laws_markVectorS_s.kp 1 N (cL (cK (cB (cA (cB laws_markVectorS_s.bd))))) 0 (laws_markVectorS_s.st0 av0 av1 gv3 k5 i6 gv7) (roundK laws_markVectorS_s.kp 1 0 L0 (mixK (laws_markVectorS_s.fin N K gv3 gv4 .ret) kv)) = (laws_markVectorS_s.b0 N (fun d0 d1 => K (.int .i64 (d0)) [⟨true, .flat gv3 (.ints .u8 d1)⟩]) (fun k8 j9 gv10 => xloop (xcode (E39 N) ents laws_markVectorS_s.kp 1 N (cL (cK (cB (cK (cA (cB (cL (cK (cB (cA (cB laws_markVectorS_s.bd))))))))))) 2) laws_markVectorS_s.kp 1 2 N (laws_markVectorS_s.st1 av0 av1 gv3 i6 k8 j9 gv10) (laws_markVectorS_s.k1g N L0 (mixK (laws_markVectorS_s.fin N K gv3 gv4 .ret) kv))) (fun k5 i6 gv7 => L0 (laws_markVectorS_s.st0 av0 av1 gv3 k5 i6 gv7)) (fun ov13 ov14 => kv (.exit 0) (laws_markVectorS_s.sx0_0 gv3 ov13 ov14)) av0 k5 i6 gv7) := by kernel_rfl

theorem laws_markVectorS_s.b0_eq {ρ : Type} (N : Nat) (K : AV → Heap → Option ρ) (L0 : St → Option ρ) (av0 : Nat) (av1 : Nat) (gv3 : Nat) (gv4 : Nat → Int) (k5 : Int) (i6 : Int) (gv7 : Nat → Int) :
    xcode (E39 N) ents laws_markVectorS_s.kp 1 N (cL (cK (cB (cA (cB laws_markVectorS_s.bd))))) 0 (laws_markVectorS_s.st0 av0 av1 gv3 k5 i6 gv7) (roundK laws_markVectorS_s.kp 1 0 L0 (laws_markVectorS_s.k0 N K gv3 gv4)) = (laws_markVectorS_s.b0 N (fun d0 d1 => K (.int .i64 (d0)) [⟨true, .flat gv3 (.ints .u8 d1)⟩]) (fun k8 j9 gv10 => xloop (xcode (E39 N) ents laws_markVectorS_s.kp 1 N (cL (cK (cB (cK (cA (cB (cL (cK (cB (cA (cB laws_markVectorS_s.bd))))))))))) 2) laws_markVectorS_s.kp 1 2 N (laws_markVectorS_s.st1 av0 av1 gv3 i6 k8 j9 gv10) (laws_markVectorS_s.k1g N L0 (laws_markVectorS_s.k0 N K gv3 gv4))) (fun k5 i6 gv7 => L0 (laws_markVectorS_s.st0 av0 av1 gv3 k5 i6 gv7)) (fun ov13 ov14 => (laws_markVectorS_s.k0 N K gv3 gv4) (.exit 0) (laws_markVectorS_s.sx0_0 gv3 ov13 ov14)) av0 k5 i6 gv7) := by
  have h := laws_markVectorS_s.b0_gen N K L0 (laws_markVectorS_s.k0 N K gv3 gv4) av0 av1 gv3 gv4 k5 i6 gv7
  rw [laws_markVectorS_s.k0_mix] at h
  exact h

theorem laws_markVectorS_s.a0_0_eq {ρ : Type} (N : Nat) (K : AV → Heap → Option ρ) (gv3 : Nat) (gv4 : Nat → Int) (ov13 : Int) (ov14 : Nat → Int) :
    (laws_markVectorS_s.k0 N K gv3 gv4) (.exit 0) (laws_markVectorS_s.sx0_0 gv3 ov13 ov14) = (laws_markVectorS_s.a0_0 N (fun d0 d1 => K (.int .i64 (d0)) [⟨true, .flat gv3 (.ints .u8 d1)⟩]) ov13 ov14) := by kernel_rfl

theorem laws_markVectorS_s.l1_eq {ρ : Type} (N : Nat) (K : AV → Heap → Option ρ) (L0 : St → Option ρ) (av0 : Nat) (av1 : Nat) (gv3 : Nat) (gv4 : Nat → Int) (i6 : Int) :
    ∀ (m : Nat) (k8 : Int) (j9 : Int) (gv10 : Nat → Int), xloop (xcode (E39 N) ents laws_markVectorS_s.kp 1 N (cL (cK (cB (cK (cA (cB (cL (cK (cB (cA (cB laws_markVectorS_s.bd))))))))))) 2) laws_markVectorS_s.kp 1 2 m (laws_markVectorS_s.st1 av0 av1 gv3 i6 k8 j9 gv10) (laws_markVectorS_s.k1g N L0 (laws_markVectorS_s.k0 N K gv3 gv4)) = (laws_markVectorS_s.l1 N (fun d0 d1 => K (.int .i64 (d0)) [⟨true, .flat gv3 (.ints .u8 d1)⟩]) av0 i6 (fun ov11 ov12 => (laws_markVectorS_s.k1g N L0 (laws_markVectorS_s.k0 N K gv3 gv4)) (.exit 2) (laws_markVectorS_s.sx1_0 av0 av1 gv3 i6 ov11 ov12)) m k8 j9 gv10) := by
  intro m
  induction m with
  | zero => intros; rfl
  | succ m ih =>
    intro k8 j9 gv10
    refine (laws_markVectorS_s.b1_eq N K L0 (fun s => xloop (xcode (E39 N) ents laws_markVectorS_s.kp 1 N (cL (cK (cB (cK (cA (cB (cL (cK (cB (cA (cB laws_markVectorS_s.bd))))))))))) 2) laws_markVectorS_s.kp 1 2 m s (laws_markVectorS_s.k1g N L0 (laws_markVectorS_s.k0 N K gv3 gv4))) av0 av1 gv3 gv4 i6 k8 j9 gv10).trans ?_
    simp only [ih]
    kernel_rfl

theorem laws_markVectorS_s.l0_eq {ρ : Type} (N : Nat) (K : AV → Heap → Option ρ) (av0 : Nat) (av1 : Nat) (gv3 : Nat) (gv4 : Nat → Int) :
    ∀ (m : Nat) (k5 : Int) (i6 : Int) (gv7 : Nat → Int), xloop (xcode (E39 N) ents laws_markVectorS_s.kp 1 N (cL (cK (cB (cA (cB laws_markVectorS_s.bd))))) 0) laws_markVectorS_s.kp 1 0 m (laws_markVectorS_s.st0 av0 av1 gv3 k5 i6 gv7) (laws_markVectorS_s.k0 N K gv3 gv4) = (laws_markVectorS_s.l0 N (fun d0 d1 => K (.int .i64 (d0)) [⟨true, .flat gv3 (.ints .u8 d1)⟩]) av0 (fun ov13 ov14 => (laws_markVectorS_s.k0 N K gv3 gv4) (.exit 0) (laws_markVectorS_s.sx0_0 gv3 ov13 ov14)) m k5 i6 gv7) := by
  intro m
  induction m with
  | zero => intros; rfl
  | succ m ih =>
    intro k5 i6 gv7
    refine (laws_markVectorS_s.b0_eq N K (fun s => xloop (xcode (E39 N) ents laws_markVectorS_s.kp 1 N (cL (cK (cB (cA (cB laws_markVectorS_s.bd))))) 0) laws_markVectorS_s.kp 1 0 m s (laws_markVectorS_s.k0 N K gv3 gv4)) av0 av1 gv3 gv4 k5 i6 gv7).trans ?_
    simp only [ih, laws_markVectorS_s.l1_eq, laws_markVectorS_s.a1_0_eq]
    kernel_rfl

theorem laws_markVectorS_s.s_eq {ρ : Type} (N : Nat) (K : AV → Heap → Option ρ) (av0 : Nat) (av1 : Nat) (k2 : Int) (gv3 : Nat) (gv4 : Nat → Int) :
    xbody (E39 N) ents laws_markVectorS_s.kp N Go.Proofs.Try.f10 laws_markVectorS_s.bd [.slice true 0 0 av0 (.exact av1) 8, .int .i64 (k2)] [⟨true, .flat gv3 (.ints .u8 gv4)⟩] K = (laws_markVectorS_s.s N (fun d0 d1 => K (.int .i64 (d0)) [⟨true, .flat gv3 (.ints .u8 d1)⟩]) (fun k5 i6 gv7 => xloop (xcode (E39 N) ents laws_markVectorS_s.kp 1 N (cL (cK (cB (cA (cB laws_markVectorS_s.bd))))) 0) laws_markVectorS_s.kp 1 0 N (laws_markVectorS_s.st0 av0 av1 gv3 k5 i6 gv7) (laws_markVectorS_s.k0 N K gv3 gv4)) k2 gv4) := by kernel_rfl

theorem laws_markVectorS_s.eq {ρ : Type} (N : Nat) (K : AV → Heap → Option ρ) (av0 : Nat) (av1 : Nat) (k2 : Int) (gv3 : Nat) (gv4 : Nat → Int) :
    xbody (E39 N) ents laws_markVectorS_s.kp N Go.Proofs.Try.f10 laws_markVectorS_s.bd [.slice true 0 0 av0 (.exact av1) 8, .int .i64 (k2)] [⟨true, .flat gv3 (.ints .u8 gv4)⟩] K = (laws_markVectorS_s N (fun d0 d1 => K (.int .i64 (d0)) [⟨true, .flat gv3 (.ints .u8 d1)⟩]) av0 av1 k2 gv3 gv4) := by
  refine (laws_markVectorS_s.s_eq N K av0 av1 k2 gv3 gv4).trans ?_
  simp only [laws_markVectorS_s.l0_eq, laws_markVectorS_s.a0_0_eq]
  kernel_rfl

noncomputable def laws_markVectorS_su.kp : Keeps := ⟨[(0, [0, 1, 5], [], []), (2, [0, 1, 5, 6], [], [])], [(0, [1], [], []), (2, [0, 1, 5], [], [])], []⟩

noncomputable def laws_markVectorS_su.bd : Code := bodyOf Go.Proofs.Try.f10

noncomputable def laws_markVectorS_su.fin {ρ : Type} (N : Nat) (K : AV → Heap → Option ρ) (gv2 : Nat) (gv3 : Nat → Int) : XE → St → Option ρ := finK (E39 N) laws_markVectorS_su.kp.fins Go.Proofs.Try.f10 [⟨true, .flat gv2 (.ints .u8 gv3)⟩] K

noncomputable def laws_markVectorS_su.k0 {ρ : Type} (N : Nat) (K : AV → Heap → Option ρ) (gv2 : Nat) (gv3 : Nat → Int) : XE → St → Option ρ := (blockK laws_markVectorS_su.kp 1 0 (seqK (xcode (E39 N) ents laws_markVectorS_su.kp 1 N (cB (cB laws_markVectorS_su.bd)) 0) (laws_markVectorS_su.fin N K gv2 gv3)))

theorem laws_markVectorS_su.k0_mix {ρ : Type} (N : Nat) (K : AV → Heap → Option ρ) (gv2 : Nat) (gv3 : Nat → Int) : mixK (laws_markVectorS_su.fin N K gv2 gv3 .ret) (laws_markVectorS_su.k0 N K gv2 gv3) = (laws_markVectorS_su.k0 N K gv2 gv3) := by
  funext e s; cases e <;> kernel_rfl

noncomputable def laws_markVectorS_su.st0 (av0 : Nat) (gv2 : Nat) (k4 : Int) (i5 : Int) (gv6 : Nat → Int) : St := ⟨sl 27 [(0, .slice false 0 0 av0 .unk 8), (1, .int .i64 (k4)), (5, .int .i64 (i5))], [⟨true, .flat gv2 (.ints .u8 gv6)⟩]⟩

noncomputable def laws_markVectorS_su.sx0_0 (gv2 : Nat) (ov12 : Int) (ov13 : Nat → Int) : St := ⟨sl 27 [(1, .int .i64 (ov12))], [⟨true, .flat gv2 (.ints .u8 ov13)⟩]⟩

noncomputable def laws_markVectorS_su.k1g {ρ : Type} (N : Nat) (L0 : St → Option ρ) (kv : XE → St → Option ρ) : XE → St → Option ρ := (blockK laws_markVectorS_su.kp 1 2 (blockK laws_markVectorS_su.kp 1 1 (seqK (xcode (E39 N) ents laws_markVectorS_su.kp 1 N (cB (cB (cL (cK (cB (cA (cB laws_markVectorS_su.bd))))))) 0) (roundK laws_markVectorS_su.kp 1 0 L0 kv))))

theorem laws_markVectorS_su.k1_mix {ρ : Type} (N : Nat) (K : AV → Heap → Option ρ) (L0 : St → Option ρ) (gv2 : Nat) (gv3 : Nat → Int) : mixK (laws_markVectorS_su.fin N K gv2 gv3 .ret) (laws_markVectorS_su.k1g N L0 (laws_markVectorS_su.k0 N K gv2 gv3)) = (laws_markVectorS_su.k1g N L0 (laws_markVectorS_su.k0 N K gv2 gv3)) := by
  funext e s; cases e <;> kernel_rfl

noncomputable def laws_markVectorS_su.st1 (av0 : Nat) (gv2 : Nat) (i5 : Int) (k7 : Int) (j8 : Int) (gv9 : Nat → Int) : St := ⟨sl 27 [(0, .slice false 0 0 av0 .unk 8), (1, .int .i64 (k7)), (5, .int .i64 (i5)), (6, .int .i64 (j8))], [⟨true, .flat gv2 (.ints .u8 gv9)⟩]⟩

noncomputable def laws_markVectorS_su.sx1_0 (av0 : Nat) (gv2 : Nat) (i5 : Int) (ov10 : Int) (ov11 : Nat → Int) : St := ⟨sl 27 [(0, .slice false 0 0 av0 .unk 8), (1, .int .i64 (ov10)), (5, .int .i64 (i5))], [⟨true, .flat gv2 (.ints .u8 ov11)⟩]⟩

theorem laws_markVectorS_su.b1_gen {ρ : Type} (N : Nat) (K : AV → Heap → Option ρ) (L1 : St → Option ρ) (kv : XE → St → Option ρ) (av0 : Nat) (gv2 : Nat) (gv3 : Nat → Int) (i5 : Int) (k7 : Int) (j8 : Int) (gv9 : Nat → Int) :
    xcode (E39 N) ents laws_markVectorS_su.kp 1 N (cL (cK (cB (cK (cA (cB (cL (cK (cB (cA (cB laws_markVectorS_su.bd))))))))))) 2 (laws_markVectorS_su.st1 av0 gv2 i5 k7 j8 gv9) (roundK laws_markVectorS_su.kp 1 2 L1 (mixK (laws_markVectorS_su.fin N K gv2 gv3 .ret) kv)) = (laws_markVectorS_su.b1 N (fun d0 d1 => K (.int .i64 (d0)) [⟨true, .flat gv2 (.ints .u8 d1)⟩]) (fun k7 j8 gv9 => L1 (laws_markVectorS_su.st1 av0 gv2 i5 k7 j8 gv9)) (fun ov10 ov11 => kv (.exit 2) (laws_markVectorS_su.sx1_0 av0 gv2 i5 ov10 ov11)) av0 i5 k7 j8 gv9) := by kernel_rfl

theorem laws_markVectorS_su.b1_eq {ρ : Type} (N : Nat) (K : AV → Heap → Option ρ) (L0 : St → Option ρ) (L1 : St → Option ρ) (av0 : Nat) (gv2 : Nat) (gv3 : Nat → Int) (i5 : Int) (k7 : Int) (j8 : Int) (gv9 : Nat → Int) :
    xcode (E39 N) ents laws_markVectorS_su.kp 1 N (cL (cK (cB (cK (cA (cB (cL (cK (cB (cA (cB laws_markVectorS_su.bd))))))))))) 2 (laws_markVectorS_su.st1 av0 gv2 i5 k7 j8 gv9) (roundK laws_markVectorS_su.kp 1 2 L1 (laws_markVectorS_su.k1g N L0 (laws_markVectorS_su.k0 N K gv2 gv3))) = (laws_markVectorS_su.b1 N (fun d0 d1 => K (.int .i64 (d0)) [⟨true, .flat gv2 (.ints .u8 d1)⟩]) (fun k7 j8 gv9 => L1 (laws_markVectorS_su.st1 av0 gv2 i5 k7 j8 gv9)) (fun ov10 ov11 => (laws_markVectorS_su.k1g N L0 (laws_markVectorS_su.k0 N K gv2 gv3)) (.exit 2) (laws_markVectorS_su.sx1_0 av0 gv2 i5 ov10 ov11)) av0 i5 k7 j8 gv9) := by
  have h := laws_markVectorS_su.b1_gen N K L1 (laws_markVectorS_su.k1g N L0 (laws_markVectorS_su.k0 N K gv2 gv3)) av0 gv2 gv3 i5 k7 j8 gv9
  rw [laws_markVectorS_su.k1_mix] at h
  exact h

theorem laws_markVectorS_su.a1_0_gen {ρ : Type} (N : Nat) (K : AV → Heap → Option ρ) (L0 : St → Option ρ) (kv : XE → St → Option ρ) (av0 : Nat) (gv2 : Nat) (gv3 : Nat → Int) (i5 : Int) (ov10 : Int) (ov11 : Nat → Int) :
    (laws_markVectorS_su.k1g N L0 (mixK (laws_markVectorS_su.fin N K gv2 gv3 .ret) kv)) (.exit 2) (laws_markVectorS_su.sx1_0 av0 gv2 i5 ov10 ov11) = (laws_markVectorS_su.a1_0 N (fun d0 d1 => K (.int .i64 (d0)) [⟨true, .flat gv2 (.ints .u8 d1)⟩]) (fun k4 i5 gv6 => L0 (laws_markVectorS_su.st0 av0 gv2 k4 i5 gv6)) (fun ov12 ov13 => kv (.exit 0) (laws_markVectorS_su.sx0_0 gv2 ov12 ov13)) i5 ov10 ov11) := by kernel_rfl

theorem laws_markVectorS_su.a1_0_eq {ρ : Type} (N : Nat) (K : AV → Heap → Option ρ) (L0 : St → Option ρ) (av0 : Nat) (gv2 : Nat) (gv3 : Nat → Int) (i5 : Int) (ov10 : Int) (ov11 : Nat → Int) :
    (laws_markVectorS_su.k1g N L0 (laws_markVectorS_su.k0 N K gv2 gv3)) (.exit 2) (laws_markVectorS_su.sx1_0 av0 gv2 i5 ov10 ov11) = (laws_markVectorS_su.a1_0 N (fun d0 d1 => K (.int .i64 (d0)) [⟨true, .flat gv2 (.ints .u8 d1)⟩]) (fun k4 i5 gv6 => L0 (laws_markVectorS_su.st0 av0 gv2 k4 i5 gv6)) (fun ov12 ov13 => (laws_markVectorS_su.k0 N K gv2 gv3) (.exit 0) (laws_markVectorS_su.sx0_0 gv2 ov12 ov13)) i5 ov10 ov11) := by
  have h := laws_markVectorS_su.a1_0_gen N K L0 (laws_markVectorS_su.k0 N K gv2 gv3) av0 gv2 gv3 i5 ov10 ov11
  rw [laws_markVectorS_su.k0_mix] at h
  exact h

theorem laws_markVectorS_su.b0_gen {ρ : Type} (N : Nat) (K : AV → Heap → Option ρ) (L0 : St → Option ρ) (kv : XE → St → Option ρ) (av0 : Nat) (gv2 : Nat) (gv3 : Nat → Int) (k4 : Int) (i5 : Int) (gv6 : Nat → Int) :
    xcode (E39 N) ents laws_markVectorS_su.kp 1 N (cL (cK (cB (cA (cB laws_markVectorS_su.bd))))) 0 (laws_markVectorS_su.st0 av0 gv2 k4 i5 gv6) (roundK laws_markVectorS_su.kp 1 0 L0 (mixK (laws_markVectorS_su.fin N K gv2 gv3 .ret) kv)) = (laws_markVectorS_su.b0 N (fun d0 d1 => K (.int .i64 (d0)) [⟨true, .flat gv2 (.ints .u8 d1)⟩]) (fun k7 j8 gv9 => xloop (xcode (E39 N) ents laws_markVectorS_su.kp 1 N (cL (cK (cB (cK (cA (cB (cL (cK (cB (cA (cB laws_markVectorS_su.bd))))))))))) 2) laws_markVectorS_su.kp 1 2 N (laws_markVectorS_su.st1 av0 gv2 i5 k7 j8 gv9) (laws_markVectorS_su.k1g N L0 (mixK (laws_markVectorS_su.fin N K gv2 gv3 .ret) kv))) (fun k4 i5 gv6 => L0 (laws_markVectorS_su.st0 av0 gv2 k4 i5 gv6)) (fun ov12 ov13 => kv (.exit 0) (laws_markVectorS_su.sx0_0 gv2 ov12 ov13)) av0 k4 i5 gv6) := by kernel_rfl

theorem laws_markVectorS_su.b0_eq {ρ : Type} (N : Nat) (K : AV → Heap → Option ρ) (L0 : St → Option ρ) (av0 : Nat) (gv2 : Nat) (gv3 : Nat → Int) (k4 : Int) (i5 : Int) (gv6 : Nat → Int) :
    xcode (E39 N) ents laws_markVectorS_su.kp 1 N (cL (cK (cB (cA (cB laws_markVectorS_su.bd))))) 0 (laws_markVectorS_su.st0 av0 gv2 k4 i5 gv6) (roundK laws_markVectorS_su.kp 1 0 L0 (laws_markVectorS_su.k0 N K gv2 gv3)) = (laws_markVectorS_su.b0 N (fun d0 d1 => K (.int .i64 (d0)) [⟨true, .flat gv2 (.ints .u8 d1)⟩]) (fun k7 j8 gv9 => xloop (xcode (E39 N) ents laws_markVectorS_su.kp 1 N (cL (cK (cB (cK (cA (cB (cL (cK (cB (cA (cB laws_markVectorS_su.bd))))))))))) 2) laws_markVectorS_su.kp 1 2 N (laws_markVectorS_su.st1 av0 gv2 i5 k7 j8 gv9) (laws_markVectorS_su.k1g N L0 (laws_markVectorS_su.k0 N K gv2 gv3))) (fun k4 i5 gv6 => L0 (laws_markVectorS_su.st0 av0 gv2 k4 i5 gv6)) (fun ov12 ov13 => (laws_markVectorS_su.k0 N K gv2 gv3) (.exit 0) (laws_markVectorS_su.sx0_0 gv2 ov12 ov13)) av0 k4 i5 gv6) := by
  have h := laws_markVectorS_su.b0_gen N K L0 (laws_markVectorS_su.k0 N K gv2 gv3) av0 gv2 gv3 k4 i5 gv6
  rw [laws_markVectorS_su.k0_mix] at h
  exact h

theorem laws_markVectorS_su.a0_0_eq {ρ : Type} (N : Nat) (K : AV → Heap → Option ρ) (gv2 : Nat) (gv3 : Nat → Int) (ov12 : Int) (ov13 : Nat → Int) :
    (laws_markVectorS_su.k0 N K gv2 gv3) (.exit 0) (laws_markVectorS_su.sx0_0 gv2 ov12 ov13) = (laws_markVectorS_su.a0_0 N (fun d0 d1 => K (.int .i64 (d0)) [⟨true, .flat gv2 (.ints .u8 d1)⟩]) ov12 ov13) := by kernel_rfl

theorem laws_markVectorS_su.l1_eq {ρ : Type} (N : Nat) (K : AV → Heap → Option ρ) (L0 : St → Option ρ) (av0 : Nat) (gv2 : Nat) (gv3 : Nat → Int) (i5 : Int) :
    ∀ (m : Nat) (k7 : Int) (j8 : Int) (gv9 : Nat → Int), xloop (xcode (E39 N) ents laws_markVectorS_su.kp 1 N (cL (cK (cB (cK (cA (cB (cL (cK (cB (cA (cB laws_markVectorS_su.bd))))))))))) 2) laws_markVectorS_su.kp 1 2 m (laws_markVectorS_su.st1 av0 gv2 i5 k7 j8 gv9) (laws_markVectorS_su.k1g N L0 (laws_markVectorS_su.k0 N K gv2 gv3)) = (laws_markVectorS_su.l1 N (fun d0 d1 => K (.int .i64 (d0)) [⟨true, .flat gv2 (.ints .u8 d1)⟩]) av0 i5 (fun ov10 ov11 => (laws_markVectorS_su.k1g N L0 (laws_markVectorS_su.k0 N K gv2 gv3)) (.exit 2) (laws_markVectorS_su.sx1_0 av0 gv2 i5 ov10 ov11)) m k7 j8 gv9) := by
  intro m
  induction m with
  | zero => intros; rfl
  | succ m ih =>
    intro k7 j8 gv9
    refine (laws_markVectorS_su.b1_eq N K L0 (fun s => xloop (xcode (E39 N) ents laws_markVectorS_su.kp 1 N (cL (cK (cB (cK (cA (cB (cL (cK (cB (cA (cB laws_markVectorS_su.bd))))))))))) 2) laws_markVectorS_su.kp 1 2 m s (laws_markVectorS_su.k1g N L0 (laws_markVectorS_su.k0 N K gv2 gv3))) av0 gv2 gv3 i5 k7 j8 gv9).trans ?_
    simp only [ih]
    kernel_rfl

theorem laws_markVectorS_su.l0_eq {ρ : Type} (N : Nat) (K : AV → Heap → Option ρ) (av0 : Nat) (gv2 : Nat) (gv3 : Nat → Int) :
    ∀ (m : Nat) (k4 : Int) (i5 : Int) (gv6 : Nat → Int), xloop (xcode (E39 N) ents laws_markVectorS_su.kp 1 N (cL (cK (cB (cA (cB laws_markVectorS_su.bd))))) 0) laws_markVectorS_su.kp 1 0 m (laws_markVectorS_su.st0 av0 gv2 k4 i5 gv6) (laws_markVectorS_su.k0 N K gv2 gv3) = (laws_markVectorS_su.l0 N (fun d0 d1 => K (.int .i64 (d0)) [⟨true, .flat gv2 (.ints .u8 d1)⟩]) av0 (fun ov12 ov13 => (laws_markVectorS_su.k0 N K gv2 gv3) (.exit 0) (laws_markVectorS_su.sx0_0 gv2 ov12 ov13)) m k4 i5 gv6) := by
  intro m
  induction m with
  | zero => intros; rfl
  | succ m ih =>
    intro k4 i5 gv6
    refine (laws_markVectorS_su.b0_eq N K (fun s => xloop (xcode (E39 N) ents laws_markVectorS_su.kp 1 N (cL (cK (cB (cA (cB laws_markVectorS_su.bd))))) 0) laws_markVectorS_su.kp 1 0 m s (laws_markVectorS_su.k0 N K gv2 gv3)) av0 gv2 gv3 k4 i5 gv6).trans ?_
    simp only [ih, laws_markVectorS_su.l1_eq, laws_markVectorS_su.a1_0_eq]
    kernel_rfl

theorem laws_markVectorS_su.s_eq {ρ : Type} (N : Nat) (K : AV → Heap → Option ρ) (av0 : Nat) (k1 : Int) (gv2 : Nat) (gv3 : Nat → Int) :
    xbody (E39 N) ents laws_markVectorS_su.kp N Go.Proofs.Try.f10 laws_markVectorS_su.bd [.slice false 0 0 av0 .unk 8, .int .i64 (k1)] [⟨true, .flat gv2 (.ints .u8 gv3)⟩] K = (laws_markVectorS_su.s N (fun d0 d1 => K (.int .i64 (d0)) [⟨true, .flat gv2 (.ints .u8 d1)⟩]) (fun k4 i5 gv6 => xloop (xcode (E39 N) ents laws_markVectorS_su.kp 1 N (cL (cK (cB (cA (cB laws_markVectorS_su.bd))))) 0) laws_markVectorS_su.kp 1 0 N (laws_markVectorS_su.st0 av0 gv2 k4 i5 gv6) (laws_markVectorS_su.k0 N K gv2 gv3)) k1 gv3) := by kernel_rfl

theorem laws_markVectorS_su.eq {ρ : Type} (N : Nat) (K : AV → Heap → Option ρ) (av0 : Nat) (k1 : Int) (gv2 : Nat) (gv3 : Nat → Int) :
    xbody (E39 N) ents laws_markVectorS_su.kp N Go.Proofs.Try.f10 laws_markVectorS_su.bd [.slice false 0 0 av0 .unk 8, .int .i64 (k1)] [⟨true, .flat gv2 (.ints .u8 gv3)⟩] K = (laws_markVectorS_su N (fun d0 d1 => K (.int .i64 (d0)) [⟨true, .flat gv2 (.ints .u8 d1)⟩]) av0 k1 gv2 gv3) := by
  refine (laws_markVectorS_su.s_eq N K av0 k1 gv2 gv3).trans ?_
  simp only [laws_markVectorS_su.l0_eq, laws_markVectorS_su.a0_0_eq]
  kernel_rfl

noncomputable def laws_markVectorS_s.en (N : Nat) (ρ : Type) : List AV → Heap → (AV → Heap → Option ρ) → Option ρ
  | [.slice true 0 0 av0 (.exact av1) 8, .int .i64 (k2)], [⟨true, .flat gv3 (.ints .u8 gv4)⟩], K => (laws_markVectorS_s N (fun d0 d1 => K (.int .i64 (d0)) [⟨true, .flat gv3 (.ints .u8 d1)⟩]) av0 av1 k2 gv3 gv4)
  | [.slice false 0 0 av0 .unk 8, .int .i64 (k1)], [⟨true, .flat gv2 (.ints .u8 gv3)⟩], K => (laws_markVectorS_su N (fun d0 d1 => K (.int .i64 (d0)) [⟨true, .flat gv2 (.ints .u8 d1)⟩]) av0 k1 gv2 gv3)
  | _, _, _ => none

theorem laws_markVectorS_s.en_ok (N : Nat) (hE : EnvOk (E39 N) ents) (ρ : Type) (args : List AV) (sh : Heap) (K : AV → Heap → Option ρ) (r : ρ) (h : laws_markVectorS_s.en N ρ args sh K = some r) : ∃ v sh', K v sh' = some r ∧ FnOk (E39 N).P 10 args sh v sh' := by
  unfold laws_markVectorS_s.en at h
  split at h
  · exact fn_ok hE (kp := laws_markVectorS_s.kp) (N := N) Go.Proofs.Try.func10 (c := laws_markVectorS_s.bd) (by kernel_rfl) ((laws_markVectorS_s.eq N _ _ _ _ _ _).trans h)
  · exact fn_ok hE (kp := laws_markVectorS_su.kp) (N := N) Go.Proofs.Try.func10 (c := laws_markVectorS_su.bd) (by kernel_rfl) ((laws_markVectorS_su.eq N _ _ _ _ _).trans h)
  · cases h

noncomputable def E40 (N : Nat) : Env := (E39 N).add 10 (laws_markVectorS_s.en N)

theorem E40_ok (N : Nat) : EnvOk (E40 N) ents := Env.add_ok (E39_ok N) (laws_markVectorS_s.en_ok N (E39_ok N))

noncomputable def laws_heldVectorS_su.kp : Keeps := ⟨[(0, [0, 1, 5], [], []), (2, [0, 1, 5, 6], [], [])], [(0, [1], [], []), (2, [0, 1, 5], [], [])], []⟩

noncomputable def laws_heldVectorS_su.bd : Code := bodyOf Go.Proofs.Try.f11

noncomputable def laws_heldVectorS_su.fin {ρ : Type} (N : Nat) (K : AV → Heap → Option ρ) (gv2 : Nat) (gv3 : Nat → Int) : XE → St → Option ρ := finK (E40 N) laws_heldVectorS_su.kp.fins Go.Proofs.Try.f11 [⟨false, .flat gv2 (.ints .u8 gv3)⟩] K

noncomputable def laws_heldVectorS_su.k0 {ρ : Type} (N : Nat) (K : AV → Heap → Option ρ) (gv2 : Nat) (gv3 : Nat → Int) : XE → St → Option ρ := (blockK laws_heldVectorS_su.kp 1 0 (seqK (xcode (E40 N) ents laws_heldVectorS_su.kp 1 N (cB (cB laws_heldVectorS_su.bd)) 0) (laws_heldVectorS_su.fin N K gv2 gv3)))

theorem laws_heldVectorS_su.k0_mix {ρ : Type} (N : Nat) (K : AV → Heap → Option ρ) (gv2 : Nat) (gv3 : Nat → Int) : mixK (laws_heldVectorS_su.fin N K gv2 gv3 .ret) (laws_heldVectorS_su.k0 N K gv2 gv3) = (laws_heldVectorS_su.k0 N K gv2 gv3) := by
  funext e s; cases e <;> kernel_rfl

noncomputable def laws_heldVectorS_su.st0 (av0 : Nat) (gv2 : Nat) (gv3 : Nat → Int) (k4 : Int) (i5 : Int) : St := ⟨sl 29 [(0, .slice false 0 0 av0 .unk 8), (1, .int .i64 (k4)), (5, .int .i64 (i5))], [⟨false, .flat gv2 (.ints .u8 gv3)⟩]⟩

noncomputable def laws_heldVectorS_su.sx0_0 (gv2 : Nat) (gv3 : Nat → Int) (ov9 : Int) : St := ⟨sl 29 [(1, .int .i64 (ov9))], [⟨false, .flat gv2 (.ints .u8 gv3)⟩]⟩

noncomputable def laws_heldVectorS_su.k1g {ρ : Type} (N : Nat) (L0 : St → Option ρ) (kv : XE → St → Option ρ) : XE → St → Option ρ := (blockK laws_heldVectorS_su.kp 1 2 (blockK laws_heldVectorS_su.kp 1 1 (seqK (xcode (E40 N) ents laws_heldVectorS_su.kp 1 N (cB (cB (cL (cK (cB (cA (cB laws_heldVectorS_su.bd))))))) 0) (roundK laws_heldVectorS_su.kp 1 0 L0 kv))))

theorem laws_heldVectorS_su.k1_mix {ρ : Type} (N : Nat) (K : AV → Heap → Option ρ) (L0 : St → Option ρ) (gv2 : Nat) (gv3 : Nat → Int) : mixK (laws_heldVectorS_su.fin N K gv2 gv3 .ret) (laws_heldVectorS_su.k1g N L0 (laws_heldVectorS_su.k0 N K gv2 gv3)) = (laws_heldVectorS_su.k1g N L0 (laws_heldVectorS_su.k0 N K gv2 gv3)) := by
  funext e s; cases e <;> kernel_rfl

noncomputable def laws_heldVectorS_su.st1 (av0 : Nat) (gv2 : Nat) (gv3 : Nat → Int) (i5 : Int) (k6 : Int) (j7 : Int) : St := ⟨sl 29 [(0, .slice false 0 0 av0 .unk 8), (1, .int .i64 (k6)), (5, .int .i64 (i5)), (6, .int .i64 (j7))], [⟨false, .flat gv2 (.ints .u8 gv3)⟩]⟩

noncomputable def laws_heldVectorS_su.sx1_0 (av0 : Nat) (gv2 : Nat) (gv3 : Nat → Int) (i5 : Int) (ov8 : Int) : St := ⟨sl 29 [(0, .slice false 0 0 av0 .unk 8), (1, .int .i64 (ov8)), (5, .int .i64 (i5))], [⟨false, .flat gv2 (.ints .u8 gv3)⟩]⟩

theorem laws_heldVectorS_su.b1_gen {ρ : Type} (N : Nat) (K : AV → Heap → Option ρ) (L1 : St → Option ρ) (kv : XE → St → Option ρ) (av0 : Nat) (gv2 : Nat) (gv3 : Nat → Int) (i5 : Int) (k6 : Int) (j7 : Int) :
    xcode (E40 N) ents laws_heldVectorS_su.kp 1 N (cL (cK (cB (cK (cA (cB (cL (cK (cB (cA (cB laws_heldVectorS_su.bd))))))))))) 2 (laws_heldVectorS_su.st1 av0 gv2 gv3 i5 k6 j7) (roundK laws_heldVectorS_su.kp 1 2 L1 (mixK (laws_heldVectorS_su.fin N K gv2 gv3 .ret) kv)) = (laws_heldVectorS_su.b1 N (fun d0 => K (.int .i64 (d0)) [⟨false, .flat gv2 (.ints .u8 gv3)⟩]) (fun k6 j7 => L1 (laws_heldVectorS_su.st1 av0 gv2 gv3 i5 k6 j7)) (fun ov8 => kv (.exit 2) (laws_heldVectorS_su.sx1_0 av0 gv2 gv3 i5 ov8)) av0 gv3 i5 k6 j7) := by kernel_rfl

theorem laws_heldVectorS_su.b1_eq {ρ : Type} (N : Nat) (K : AV → Heap → Option ρ) (L0 : St → Option ρ) (L1 : St → Option ρ) (av0 : Nat) (gv2 : Nat) (gv3 : Nat → Int) (i5 : Int) (k6 : Int) (j7 : Int) :
    xcode (E40 N) ents laws_heldVectorS_su.kp 1 N (cL (cK (cB (cK (cA (cB (cL (cK (cB (cA (cB laws_heldVectorS_su.bd))))))))))) 2 (laws_heldVectorS_su.st1 av0 gv2 gv3 i5 k6 j7) (roundK laws_heldVectorS_su.kp 1 2 L1 (laws_heldVectorS_su.k1g N L0 (laws_heldVectorS_su.k0 N K gv2 gv3))) = (laws_heldVectorS_su.b1 N (fun d0 => K (.int .i64 (d0)) [⟨false, .flat gv2 (.ints .u8 gv3)⟩]) (fun k6 j7 => L1 (laws_heldVectorS_su.st1 av0 gv2 gv3 i5 k6 j7)) (fun ov8 => (laws_heldVectorS_su.k1g N L0 (laws_heldVectorS_su.k0 N K gv2 gv3)) (.exit 2) (laws_heldVectorS_su.sx1_0 av0 gv2 gv3 i5 ov8)) av0 gv3 i5 k6 j7) := by
  have h := laws_heldVectorS_su.b1_gen N K L1 (laws_heldVectorS_su.k1g N L0 (laws_heldVectorS_su.k0 N K gv2 gv3)) av0 gv2 gv3 i5 k6 j7
  rw [laws_heldVectorS_su.k1_mix] at h
  exact h

theorem laws_heldVectorS_su.a1_0_gen {ρ : Type} (N : Nat) (K : AV → Heap → Option ρ) (L0 : St → Option ρ) (kv : XE → St → Option ρ) (av0 : Nat) (gv2 : Nat) (gv3 : Nat → Int) (i5 : Int) (ov8 : Int) :
    (laws_heldVectorS_su.k1g N L0 (mixK (laws_heldVectorS_su.fin N K gv2 gv3 .ret) kv)) (.exit 2) (laws_heldVectorS_su.sx1_0 av0 gv2 gv3 i5 ov8) = (laws_heldVectorS_su.a1_0 N (fun d0 => K (.int .i64 (d0)) [⟨false, .flat gv2 (.ints .u8 gv3)⟩]) (fun k4 i5 => L0 (laws_heldVectorS_su.st0 av0 gv2 gv3 k4 i5)) (fun ov9 => kv (.exit 0) (laws_heldVectorS_su.sx0_0 gv2 gv3 ov9)) i5 ov8) := by kernel_rfl

theorem laws_heldVectorS_su.a1_0_eq {ρ : Type} (N : Nat) (K : AV → Heap → Option ρ) (L0 : St → Option ρ) (av0 : Nat) (gv2 : Nat) (gv3 : Nat → Int) (i5 : Int) (ov8 : Int) :
    (laws_heldVectorS_su.k1g N L0 (laws_heldVectorS_su.k0 N K gv2 gv3)) (.exit 2) (laws_heldVectorS_su.sx1_0 av0 gv2 gv3 i5 ov8) = (laws_heldVectorS_su.a1_0 N (fun d0 => K (.int .i64 (d0)) [⟨false, .flat gv2 (.ints .u8 gv3)⟩]) (fun k4 i5 => L0 (laws_heldVectorS_su.st0 av0 gv2 gv3 k4 i5)) (fun ov9 => (laws_heldVectorS_su.k0 N K gv2 gv3) (.exit 0) (laws_heldVectorS_su.sx0_0 gv2 gv3 ov9)) i5 ov8) := by
  have h := laws_heldVectorS_su.a1_0_gen N K L0 (laws_heldVectorS_su.k0 N K gv2 gv3) av0 gv2 gv3 i5 ov8
  rw [laws_heldVectorS_su.k0_mix] at h
  exact h

theorem laws_heldVectorS_su.b0_gen {ρ : Type} (N : Nat) (K : AV → Heap → Option ρ) (L0 : St → Option ρ) (kv : XE → St → Option ρ) (av0 : Nat) (gv2 : Nat) (gv3 : Nat → Int) (k4 : Int) (i5 : Int) :
    xcode (E40 N) ents laws_heldVectorS_su.kp 1 N (cL (cK (cB (cA (cB laws_heldVectorS_su.bd))))) 0 (laws_heldVectorS_su.st0 av0 gv2 gv3 k4 i5) (roundK laws_heldVectorS_su.kp 1 0 L0 (mixK (laws_heldVectorS_su.fin N K gv2 gv3 .ret) kv)) = (laws_heldVectorS_su.b0 N (fun d0 => K (.int .i64 (d0)) [⟨false, .flat gv2 (.ints .u8 gv3)⟩]) (fun k6 j7 => xloop (xcode (E40 N) ents laws_heldVectorS_su.kp 1 N (cL (cK (cB (cK (cA (cB (cL (cK (cB (cA (cB laws_heldVectorS_su.bd))))))))))) 2) laws_heldVectorS_su.kp 1 2 N (laws_heldVectorS_su.st1 av0 gv2 gv3 i5 k6 j7) (laws_heldVectorS_su.k1g N L0 (mixK (laws_heldVectorS_su.fin N K gv2 gv3 .ret) kv))) (fun k4 i5 => L0 (laws_heldVectorS_su.st0 av0 gv2 gv3 k4 i5)) (fun ov9 => kv (.exit 0) (laws_heldVectorS_su.sx0_0 gv2 gv3 ov9)) av0 k4 i5) := by kernel_rfl

theorem laws_heldVectorS_su.b0_eq {ρ : Type} (N : Nat) (K : AV → Heap → Option ρ) (L0 : St → Option ρ) (av0 : Nat) (gv2 : Nat) (gv3 : Nat → Int) (k4 : Int) (i5 : Int) :
    xcode (E40 N) ents laws_heldVectorS_su.kp 1 N (cL (cK (cB (cA (cB laws_heldVectorS_su.bd))))) 0 (laws_heldVectorS_su.st0 av0 gv2 gv3 k4 i5) (roundK laws_heldVectorS_su.kp 1 0 L0 (laws_heldVectorS_su.k0 N K gv2 gv3)) = (laws_heldVectorS_su.b0 N (fun d0 => K (.int .i64 (d0)) [⟨false, .flat gv2 (.ints .u8 gv3)⟩]) (fun k6 j7 => xloop (xcode (E40 N) ents laws_heldVectorS_su.kp 1 N (cL (cK (cB (cK (cA (cB (cL (cK (cB (cA (cB laws_heldVectorS_su.bd))))))))))) 2) laws_heldVectorS_su.kp 1 2 N (laws_heldVectorS_su.st1 av0 gv2 gv3 i5 k6 j7) (laws_heldVectorS_su.k1g N L0 (laws_heldVectorS_su.k0 N K gv2 gv3))) (fun k4 i5 => L0 (laws_heldVectorS_su.st0 av0 gv2 gv3 k4 i5)) (fun ov9 => (laws_heldVectorS_su.k0 N K gv2 gv3) (.exit 0) (laws_heldVectorS_su.sx0_0 gv2 gv3 ov9)) av0 k4 i5) := by
  have h := laws_heldVectorS_su.b0_gen N K L0 (laws_heldVectorS_su.k0 N K gv2 gv3) av0 gv2 gv3 k4 i5
  rw [laws_heldVectorS_su.k0_mix] at h
  exact h

theorem laws_heldVectorS_su.a0_0_eq {ρ : Type} (N : Nat) (K : AV → Heap → Option ρ) (gv2 : Nat) (gv3 : Nat → Int) (ov9 : Int) :
    (laws_heldVectorS_su.k0 N K gv2 gv3) (.exit 0) (laws_heldVectorS_su.sx0_0 gv2 gv3 ov9) = (laws_heldVectorS_su.a0_0 N (fun d0 => K (.int .i64 (d0)) [⟨false, .flat gv2 (.ints .u8 gv3)⟩]) ov9) := by kernel_rfl

theorem laws_heldVectorS_su.l1_eq {ρ : Type} (N : Nat) (K : AV → Heap → Option ρ) (L0 : St → Option ρ) (av0 : Nat) (gv2 : Nat) (gv3 : Nat → Int) (i5 : Int) :
    ∀ (m : Nat) (k6 : Int) (j7 : Int), xloop (xcode (E40 N) ents laws_heldVectorS_su.kp 1 N (cL (cK (cB (cK (cA (cB (cL (cK (cB (cA (cB laws_heldVectorS_su.bd))))))))))) 2) laws_heldVectorS_su.kp 1 2 m (laws_heldVectorS_su.st1 av0 gv2 gv3 i5 k6 j7) (laws_heldVectorS_su.k1g N L0 (laws_heldVectorS_su.k0 N K gv2 gv3)) = (laws_heldVectorS_su.l1 N (fun d0 => K (.int .i64 (d0)) [⟨false, .flat gv2 (.ints .u8 gv3)⟩]) av0 gv3 i5 (fun ov8 => (laws_heldVectorS_su.k1g N L0 (laws_heldVectorS_su.k0 N K gv2 gv3)) (.exit 2) (laws_heldVectorS_su.sx1_0 av0 gv2 gv3 i5 ov8)) m k6 j7) := by
  intro m
  induction m with
  | zero => intros; rfl
  | succ m ih =>
    intro k6 j7
    refine (laws_heldVectorS_su.b1_eq N K L0 (fun s => xloop (xcode (E40 N) ents laws_heldVectorS_su.kp 1 N (cL (cK (cB (cK (cA (cB (cL (cK (cB (cA (cB laws_heldVectorS_su.bd))))))))))) 2) laws_heldVectorS_su.kp 1 2 m s (laws_heldVectorS_su.k1g N L0 (laws_heldVectorS_su.k0 N K gv2 gv3))) av0 gv2 gv3 i5 k6 j7).trans ?_
    simp only [ih]
    kernel_rfl

theorem laws_heldVectorS_su.l0_eq {ρ : Type} (N : Nat) (K : AV → Heap → Option ρ) (av0 : Nat) (gv2 : Nat) (gv3 : Nat → Int) :
    ∀ (m : Nat) (k4 : Int) (i5 : Int), xloop (xcode (E40 N) ents laws_heldVectorS_su.kp 1 N (cL (cK (cB (cA (cB laws_heldVectorS_su.bd))))) 0) laws_heldVectorS_su.kp 1 0 m (laws_heldVectorS_su.st0 av0 gv2 gv3 k4 i5) (laws_heldVectorS_su.k0 N K gv2 gv3) = (laws_heldVectorS_su.l0 N (fun d0 => K (.int .i64 (d0)) [⟨false, .flat gv2 (.ints .u8 gv3)⟩]) av0 gv3 (fun ov9 => (laws_heldVectorS_su.k0 N K gv2 gv3) (.exit 0) (laws_heldVectorS_su.sx0_0 gv2 gv3 ov9)) m k4 i5) := by
  intro m
  induction m with
  | zero => intros; rfl
  | succ m ih =>
    intro k4 i5
    refine (laws_heldVectorS_su.b0_eq N K (fun s => xloop (xcode (E40 N) ents laws_heldVectorS_su.kp 1 N (cL (cK (cB (cA (cB laws_heldVectorS_su.bd))))) 0) laws_heldVectorS_su.kp 1 0 m s (laws_heldVectorS_su.k0 N K gv2 gv3)) av0 gv2 gv3 k4 i5).trans ?_
    simp only [ih, laws_heldVectorS_su.l1_eq, laws_heldVectorS_su.a1_0_eq]
    kernel_rfl

theorem laws_heldVectorS_su.s_eq {ρ : Type} (N : Nat) (K : AV → Heap → Option ρ) (av0 : Nat) (k1 : Int) (gv2 : Nat) (gv3 : Nat → Int) :
    xbody (E40 N) ents laws_heldVectorS_su.kp N Go.Proofs.Try.f11 laws_heldVectorS_su.bd [.slice false 0 0 av0 .unk 8, .int .i64 (k1)] [⟨false, .flat gv2 (.ints .u8 gv3)⟩] K = (laws_heldVectorS_su.s N (fun d0 => K (.int .i64 (d0)) [⟨false, .flat gv2 (.ints .u8 gv3)⟩]) (fun k4 i5 => xloop (xcode (E40 N) ents laws_heldVectorS_su.kp 1 N (cL (cK (cB (cA (cB laws_heldVectorS_su.bd))))) 0) laws_heldVectorS_su.kp 1 0 N (laws_heldVectorS_su.st0 av0 gv2 gv3 k4 i5) (laws_heldVectorS_su.k0 N K gv2 gv3)) k1) := by kernel_rfl

theorem laws_heldVectorS_su.eq {ρ : Type} (N : Nat) (K : AV → Heap → Option ρ) (av0 : Nat) (k1 : Int) (gv2 : Nat) (gv3 : Nat → Int) :
    xbody (E40 N) ents laws_heldVectorS_su.kp N Go.Proofs.Try.f11 laws_heldVectorS_su.bd [.slice false 0 0 av0 .unk 8, .int .i64 (k1)] [⟨false, .flat gv2 (.ints .u8 gv3)⟩] K = (laws_heldVectorS_su N (fun d0 => K (.int .i64 (d0)) [⟨false, .flat gv2 (.ints .u8 gv3)⟩]) av0 k1 gv2 gv3) := by
  refine (laws_heldVectorS_su.s_eq N K av0 k1 gv2 gv3).trans ?_
  simp only [laws_heldVectorS_su.l0_eq, laws_heldVectorS_su.a0_0_eq]
  kernel_rfl

noncomputable def laws_heldVectorS_su.en (N : Nat) (ρ : Type) : List AV → Heap → (AV → Heap → Option ρ) → Option ρ
  | [.slice false 0 0 av0 .unk 8, .int .i64 (k1)], [⟨false, .flat gv2 (.ints .u8 gv3)⟩], K => (laws_heldVectorS_su N (fun d0 => K (.int .i64 (d0)) [⟨false, .flat gv2 (.ints .u8 gv3)⟩]) av0 k1 gv2 gv3)
  | _, _, _ => none

theorem laws_heldVectorS_su.en_ok (N : Nat) (hE : EnvOk (E40 N) ents) (ρ : Type) (args : List AV) (sh : Heap) (K : AV → Heap → Option ρ) (r : ρ) (h : laws_heldVectorS_su.en N ρ args sh K = some r) : ∃ v sh', K v sh' = some r ∧ FnOk (E40 N).P 11 args sh v sh' := by
  unfold laws_heldVectorS_su.en at h
  split at h
  · exact fn_ok hE (kp := laws_heldVectorS_su.kp) (N := N) Go.Proofs.Try.func11 (c := laws_heldVectorS_su.bd) (by kernel_rfl) ((laws_heldVectorS_su.eq N _ _ _ _ _).trans h)
  · cases h

noncomputable def E41 (N : Nat) : Env := (E40 N).add 11 (laws_heldVectorS_su.en N)

theorem E41_ok (N : Nat) : EnvOk (E41 N) ents := Env.add_ok (E40_ok N) (laws_heldVectorS_su.en_ok N (E40_ok N))

noncomputable def laws_FnExactReduceVectors_su.kp : Keeps := ⟨[], [], []⟩

noncomputable def laws_FnExactReduceVectors_su.bd : Code := bodyOf Go.Proofs.Try.f3

noncomputable def laws_FnExactReduceVectors_su.fin {ρ : Type} (N : Nat) (K : AV → Heap → Option ρ) (gv3 : Nat) (gv4 : Nat → Int) : XE → St → Option ρ := finK (E41 N) laws_FnExactReduceVectors_su.kp.fins Go.Proofs.Try.f3 [⟨false, .flat gv3 (.ints .u8 gv4)⟩] K

theorem laws_FnExactReduceVectors_su.eq {ρ : Type} (N : Nat) (K : AV → Heap → Option ρ) (aP0 : Int) (aN1 : Int) (aList2 : Nat) (gv3 : Nat) (gv4 : Nat → Int) :
    xbody (E41 N) ents laws_FnExactReduceVectors_su.kp N Go.Proofs.Try.f3 laws_FnExactReduceVectors_su.bd [.int .i64 (aP0), .int .i64 (aN1), .slice false 0 0 aList2 .unk 8] [⟨false, .flat gv3 (.ints .u8 gv4)⟩] K = (laws_FnExactReduceVectors_su N (fun d0 => K (.bool (d0)) [⟨false, .flat gv3 (.ints .u8 gv4)⟩]) aP0 aN1 aList2 gv3 gv4) := by kernel_rfl

noncomputable def laws_FnExactReduceVectors_su.en (N : Nat) (ρ : Type) : List AV → Heap → (AV → Heap → Option ρ) → Option ρ
  | [.int .i64 (aP0), .int .i64 (aN1), .slice false 0 0 aList2 .unk 8], [⟨false, .flat gv3 (.ints .u8 gv4)⟩], K => (laws_FnExactReduceVectors_su N (fun d0 => K (.bool (d0)) [⟨false, .flat gv3 (.ints .u8 gv4)⟩]) aP0 aN1 aList2 gv3 gv4)
  | _, _, _ => none

theorem laws_FnExactReduceVectors_su.en_ok (N : Nat) (hE : EnvOk (E41 N) ents) (ρ : Type) (args : List AV) (sh : Heap) (K : AV → Heap → Option ρ) (r : ρ) (h : laws_FnExactReduceVectors_su.en N ρ args sh K = some r) : ∃ v sh', K v sh' = some r ∧ FnOk (E41 N).P 3 args sh v sh' := by
  unfold laws_FnExactReduceVectors_su.en at h
  split at h
  · exact fn_ok hE (kp := laws_FnExactReduceVectors_su.kp) (N := N) Go.Proofs.Try.func3 (c := laws_FnExactReduceVectors_su.bd) (by kernel_rfl) ((laws_FnExactReduceVectors_su.eq N _ _ _ _ _ _).trans h)
  · cases h

noncomputable def E42 (N : Nat) : Env := (E41 N).add 3 (laws_FnExactReduceVectors_su.en N)

theorem E42_ok (N : Nat) : EnvOk (E42 N) ents := Env.add_ok (E41_ok N) (laws_FnExactReduceVectors_su.en_ok N (E41_ok N))
end Go.Proofs.Ytfiopadjbheclaa.H
