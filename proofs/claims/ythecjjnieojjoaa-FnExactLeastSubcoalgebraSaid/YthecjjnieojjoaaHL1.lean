/- The program computes these functions. -/
import Derived.Test.YthecjjnieojjoaaHL0
namespace Go.Proofs.Ythecjjnieojjoaa.H
set_option linter.unusedVariables false
set_option linter.unusedSimpArgs false
open Go Go.RowKit Go.Proofs.Ythecjjnieojjoaa.Hy
set_option linter.unusedVariables false
set_option maxRecDepth 100000
noncomputable def spec_l01By_su_v2.kp : Keeps := ⟨[(0, [0, 2, 4, 6, 7], [], [])], [(0, [4, 6], [], [])], []⟩

noncomputable def spec_l01By_su_v2.bd : Code := bodyOf Go.Proofs.Try.f117

noncomputable def spec_l01By_su_v2.fin {ρ : Type} (N : Nat) (K : AV → Heap → Option ρ) (gv3 : Nat) (gv4 : Nat → Int) : XE → St → Option ρ := finK (E23 N) spec_l01By_su_v2.kp.fins Go.Proofs.Try.f117 [⟨false, .flat gv3 (.ints .u8 gv4)⟩] K

noncomputable def spec_l01By_su_v2.k0 {ρ : Type} (N : Nat) (K : AV → Heap → Option ρ) (gv3 : Nat) (gv4 : Nat → Int) : XE → St → Option ρ := (blockK spec_l01By_su_v2.kp 1 0 (seqK (xcode (E23 N) ents spec_l01By_su_v2.kp 1 N (cB (cB spec_l01By_su_v2.bd)) 0) (spec_l01By_su_v2.fin N K gv3 gv4)))

theorem spec_l01By_su_v2.k0_mix {ρ : Type} (N : Nat) (K : AV → Heap → Option ρ) (gv3 : Nat) (gv4 : Nat → Int) : mixK (spec_l01By_su_v2.fin N K gv3 gv4 .ret) (spec_l01By_su_v2.k0 N K gv3 gv4) = (spec_l01By_su_v2.k0 N K gv3 gv4) := by
  funext e s; cases e <;> kernel_rfl

noncomputable def spec_l01By_su_v2.st0 (p0 : Int) (rows2 : Nat) (gv3 : Nat) (gv4 : Nat → Int) (i5 : Int) (gv6 : Nat → Int) : St := ⟨sl 37 [(0, .int .i64 (p0)), (2, .slice false 0 0 rows2 .unk 8), (4, .sptr [(1, 8)]), (6, .sptr [(2, 8)]), (7, .int .i64 (i5))], [⟨false, .flat gv3 (.ints .u8 gv4)⟩, ⟨true, .flat 8 (.ints .u8 gv6)⟩, ⟨true, .flat 8 (.ints .u8 (fun _ => 0))⟩]⟩

noncomputable def spec_l01By_su_v2.sx0_0 (gv3 : Nat) (gv4 : Nat → Int) (ov9 : Nat → Int) : St := ⟨sl 37 [(4, .sptr [(1, 8)]), (6, .sptr [(2, 8)])], [⟨false, .flat gv3 (.ints .u8 gv4)⟩, ⟨true, .flat 8 (.ints .u8 ov9)⟩, ⟨true, .flat 8 (.ints .u8 (fun _ => 0))⟩]⟩

theorem spec_l01By_su_v2.b0_gen {ρ : Type} (N : Nat) (K : AV → Heap → Option ρ) (L0 : St → Option ρ) (kv : XE → St → Option ρ) (p0 : Int) (rows2 : Nat) (gv3 : Nat) (gv4 : Nat → Int) (i5 : Int) (gv6 : Nat → Int) :
    xcode (E23 N) ents spec_l01By_su_v2.kp 1 N (cL (cK (cB (cA (cB spec_l01By_su_v2.bd))))) 0 (spec_l01By_su_v2.st0 p0 rows2 gv3 gv4 i5 gv6) (roundK spec_l01By_su_v2.kp 1 0 L0 (mixK (spec_l01By_su_v2.fin N K gv3 gv4 .ret) kv)) = (spec_l01By_su_v2.b0 N (fun d0 => K (.agg [⟨.u8, 8, d0⟩]) [⟨false, .flat gv3 (.ints .u8 gv4)⟩]) (fun i5 gv6 => L0 (spec_l01By_su_v2.st0 p0 rows2 gv3 gv4 i5 gv6)) (fun ov9 => kv (.exit 0) (spec_l01By_su_v2.sx0_0 gv3 gv4 ov9)) p0 rows2 gv4 i5 gv6) := by kernel_rfl

theorem spec_l01By_su_v2.b0_eq {ρ : Type} (N : Nat) (K : AV → Heap → Option ρ) (L0 : St → Option ρ) (p0 : Int) (rows2 : Nat) (gv3 : Nat) (gv4 : Nat → Int) (i5 : Int) (gv6 : Nat → Int) :
    xcode (E23 N) ents spec_l01By_su_v2.kp 1 N (cL (cK (cB (cA (cB spec_l01By_su_v2.bd))))) 0 (spec_l01By_su_v2.st0 p0 rows2 gv3 gv4 i5 gv6) (roundK spec_l01By_su_v2.kp 1 0 L0 (spec_l01By_su_v2.k0 N K gv3 gv4)) = (spec_l01By_su_v2.b0 N (fun d0 => K (.agg [⟨.u8, 8, d0⟩]) [⟨false, .flat gv3 (.ints .u8 gv4)⟩]) (fun i5 gv6 => L0 (spec_l01By_su_v2.st0 p0 rows2 gv3 gv4 i5 gv6)) (fun ov9 => (spec_l01By_su_v2.k0 N K gv3 gv4) (.exit 0) (spec_l01By_su_v2.sx0_0 gv3 gv4 ov9)) p0 rows2 gv4 i5 gv6) := by
  have h := spec_l01By_su_v2.b0_gen N K L0 (spec_l01By_su_v2.k0 N K gv3 gv4) p0 rows2 gv3 gv4 i5 gv6
  rw [spec_l01By_su_v2.k0_mix] at h
  exact h

theorem spec_l01By_su_v2.a0_0_eq {ρ : Type} (N : Nat) (K : AV → Heap → Option ρ) (gv3 : Nat) (gv4 : Nat → Int) (ov9 : Nat → Int) :
    (spec_l01By_su_v2.k0 N K gv3 gv4) (.exit 0) (spec_l01By_su_v2.sx0_0 gv3 gv4 ov9) = (spec_l01By_su_v2.a0_0 N (fun d0 => K (.agg [⟨.u8, 8, d0⟩]) [⟨false, .flat gv3 (.ints .u8 gv4)⟩]) ov9) := by kernel_rfl

theorem spec_l01By_su_v2.l0_eq {ρ : Type} (N : Nat) (K : AV → Heap → Option ρ) (p0 : Int) (rows2 : Nat) (gv3 : Nat) (gv4 : Nat → Int) :
    ∀ (m : Nat) (i5 : Int) (gv6 : Nat → Int), xloop (xcode (E23 N) ents spec_l01By_su_v2.kp 1 N (cL (cK (cB (cA (cB spec_l01By_su_v2.bd))))) 0) spec_l01By_su_v2.kp 1 0 m (spec_l01By_su_v2.st0 p0 rows2 gv3 gv4 i5 gv6) (spec_l01By_su_v2.k0 N K gv3 gv4) = (spec_l01By_su_v2.l0 N (fun d0 => K (.agg [⟨.u8, 8, d0⟩]) [⟨false, .flat gv3 (.ints .u8 gv4)⟩]) p0 rows2 gv4 (fun ov9 => (spec_l01By_su_v2.k0 N K gv3 gv4) (.exit 0) (spec_l01By_su_v2.sx0_0 gv3 gv4 ov9)) m i5 gv6) := by
  intro m
  induction m with
  | zero => intros; rfl
  | succ m ih =>
    intro i5 gv6
    refine (spec_l01By_su_v2.b0_eq N K (fun s => xloop (xcode (E23 N) ents spec_l01By_su_v2.kp 1 N (cL (cK (cB (cA (cB spec_l01By_su_v2.bd))))) 0) spec_l01By_su_v2.kp 1 0 m s (spec_l01By_su_v2.k0 N K gv3 gv4)) p0 rows2 gv3 gv4 i5 gv6).trans ?_
    simp only [ih]
    kernel_rfl

theorem spec_l01By_su_v2.s_eq {ρ : Type} (N : Nat) (K : AV → Heap → Option ρ) (p0 : Int) (v1 : Nat → Int) (rows2 : Nat) (gv3 : Nat) (gv4 : Nat → Int) :
    xbody (E23 N) ents spec_l01By_su_v2.kp N Go.Proofs.Try.f117 spec_l01By_su_v2.bd [.int .i64 (p0), .agg [⟨.u8, 8, v1⟩], .slice false 0 0 rows2 .unk 8] [⟨false, .flat gv3 (.ints .u8 gv4)⟩] K = (spec_l01By_su_v2.s N (fun d0 => K (.agg [⟨.u8, 8, d0⟩]) [⟨false, .flat gv3 (.ints .u8 gv4)⟩]) (fun i5 gv6 => xloop (xcode (E23 N) ents spec_l01By_su_v2.kp 1 N (cL (cK (cB (cA (cB spec_l01By_su_v2.bd))))) 0) spec_l01By_su_v2.kp 1 0 N (spec_l01By_su_v2.st0 p0 rows2 gv3 gv4 i5 gv6) (spec_l01By_su_v2.k0 N K gv3 gv4)) v1) := by kernel_rfl

theorem spec_l01By_su_v2.eq {ρ : Type} (N : Nat) (K : AV → Heap → Option ρ) (p0 : Int) (v1 : Nat → Int) (rows2 : Nat) (gv3 : Nat) (gv4 : Nat → Int) :
    xbody (E23 N) ents spec_l01By_su_v2.kp N Go.Proofs.Try.f117 spec_l01By_su_v2.bd [.int .i64 (p0), .agg [⟨.u8, 8, v1⟩], .slice false 0 0 rows2 .unk 8] [⟨false, .flat gv3 (.ints .u8 gv4)⟩] K = (spec_l01By_su_v2 N (fun d0 => K (.agg [⟨.u8, 8, d0⟩]) [⟨false, .flat gv3 (.ints .u8 gv4)⟩]) p0 v1 rows2 gv3 gv4) := by
  refine (spec_l01By_su_v2.s_eq N K p0 v1 rows2 gv3 gv4).trans ?_
  simp only [spec_l01By_su_v2.l0_eq, spec_l01By_su_v2.a0_0_eq]
  kernel_rfl

noncomputable def spec_l01By_su_v2.en (N : Nat) (ρ : Type) : List AV → Heap → (AV → Heap → Option ρ) → Option ρ
  | [.int .i64 (p0), .agg [⟨.u8, 8, v1⟩], .slice false 0 0 rows2 .unk 8], [⟨false, .flat gv3 (.ints .u8 gv4)⟩], K => (spec_l01By_su_v2 N (fun d0 => K (.agg [⟨.u8, 8, d0⟩]) [⟨false, .flat gv3 (.ints .u8 gv4)⟩]) p0 v1 rows2 gv3 gv4)
  | _, _, _ => none

theorem spec_l01By_su_v2.en_ok (N : Nat) (hE : EnvOk (E23 N) ents) (ρ : Type) (args : List AV) (sh : Heap) (K : AV → Heap → Option ρ) (r : ρ) (h : spec_l01By_su_v2.en N ρ args sh K = some r) : ∃ v sh', K v sh' = some r ∧ FnOk (E23 N).P 117 args sh v sh' := by
  unfold spec_l01By_su_v2.en at h
  split at h
  · exact fn_ok hE (kp := spec_l01By_su_v2.kp) (N := N) Go.Proofs.Try.func117 (c := spec_l01By_su_v2.bd) (by kernel_rfl) ((spec_l01By_su_v2.eq N _ _ _ _ _ _).trans h)
  · cases h

noncomputable def E24 (N : Nat) : Env := (E23 N).add 117 (spec_l01By_su_v2.en N)

theorem E24_ok (N : Nat) : EnvOk (E24 N) ents := Env.add_ok (E23_ok N) (spec_l01By_su_v2.en_ok N (E23_ok N))

noncomputable def spec_l01Put_su_v2.kp : Keeps := ⟨[(0, [0, 1, 5, 7, 8, 9, 10], [], [])], [(0, [5, 8, 9], [], [])], []⟩

noncomputable def spec_l01Put_su_v2.bd : Code := bodyOf Go.Proofs.Try.f112

noncomputable def spec_l01Put_su_v2.fin {ρ : Type} (N : Nat) (K : AV → Heap → Option ρ) (gv3 : Nat) (gv4 : Nat → Int) : XE → St → Option ρ := finK (E24 N) spec_l01Put_su_v2.kp.fins Go.Proofs.Try.f112 [⟨false, .flat gv3 (.ints .u8 gv4)⟩] K

noncomputable def spec_l01Put_su_v2.k0 {ρ : Type} (N : Nat) (K : AV → Heap → Option ρ) (gv3 : Nat) (gv4 : Nat → Int) : XE → St → Option ρ := (blockK spec_l01Put_su_v2.kp 1 0 (seqK (xcode (E24 N) ents spec_l01Put_su_v2.kp 1 N (cB (cB (cB (cB (cB (cB (cB spec_l01Put_su_v2.bd))))))) 0) (spec_l01Put_su_v2.fin N K gv3 gv4)))

theorem spec_l01Put_su_v2.k0_mix {ρ : Type} (N : Nat) (K : AV → Heap → Option ρ) (gv3 : Nat) (gv4 : Nat → Int) : mixK (spec_l01Put_su_v2.fin N K gv3 gv4 .ret) (spec_l01Put_su_v2.k0 N K gv3 gv4) = (spec_l01Put_su_v2.k0 N K gv3 gv4) := by
  funext e s; cases e <;> kernel_rfl

noncomputable def spec_l01Put_su_v2.st0 (p0 : Int) (rows1 : Nat) (gv3 : Nat) (gv4 : Nat → Int) (rv7 : Int) (rv9 : Nat → Int) (outv10 : Nat) (placed11 : Bool) (i12 : Int) (gv13 : Nat → Int) : St := ⟨sl 77 [(0, .int .i64 (p0)), (1, .slice false 0 0 rows1 .unk 8), (5, .sptr [(1, 8)]), (7, .int .i64 (rv7)), (8, .slice true 2 0 outv10 .whole 8), (9, .bool (placed11)), (10, .int .i64 (i12))], [⟨false, .flat gv3 (.ints .u8 gv4)⟩, ⟨true, .flat 8 (.ints .u8 rv9)⟩, ⟨true, .flat 0 (.ints .u8 gv13)⟩]⟩

noncomputable def spec_l01Put_su_v2.sx0_0 (gv3 : Nat) (gv4 : Nat → Int) (rv9 : Nat → Int) (ov18 : Nat) (ov19 : Bool) (ov20 : Nat → Int) : St := ⟨sl 77 [(5, .sptr [(1, 8)]), (8, .slice true 2 0 ov18 .whole 8), (9, .bool (ov19))], [⟨false, .flat gv3 (.ints .u8 gv4)⟩, ⟨true, .flat 8 (.ints .u8 rv9)⟩, ⟨true, .flat 0 (.ints .u8 ov20)⟩]⟩

theorem spec_l01Put_su_v2.b0_gen {ρ : Type} (N : Nat) (K : AV → Heap → Option ρ) (L0 : St → Option ρ) (kv : XE → St → Option ρ) (p0 : Int) (rows1 : Nat) (gv3 : Nat) (gv4 : Nat → Int) (rv7 : Int) (rv9 : Nat → Int) (outv10 : Nat) (placed11 : Bool) (i12 : Int) (gv13 : Nat → Int) :
    xcode (E24 N) ents spec_l01Put_su_v2.kp 1 N (cL (cK (cB (cA (cB (cB (cB (cB (cB (cB spec_l01Put_su_v2.bd)))))))))) 0 (spec_l01Put_su_v2.st0 p0 rows1 gv3 gv4 rv7 rv9 outv10 placed11 i12 gv13) (roundK spec_l01Put_su_v2.kp 1 0 L0 (mixK (spec_l01Put_su_v2.fin N K gv3 gv4 .ret) kv)) = (spec_l01Put_su_v2.b0 N (fun d0 => K (.slice false 0 0 d0 .unk 8) [⟨false, .flat gv3 (.ints .u8 gv4)⟩]) (fun d0 d1 => K (.slice true 1 0 d0 .whole 8) [⟨false, .flat gv3 (.ints .u8 gv4)⟩, ⟨true, .flat 0 (.ints .u8 d1)⟩]) (fun outv10 placed11 i12 gv13 => L0 (spec_l01Put_su_v2.st0 p0 rows1 gv3 gv4 rv7 rv9 outv10 placed11 i12 gv13)) (fun ov18 ov19 ov20 => kv (.exit 0) (spec_l01Put_su_v2.sx0_0 gv3 gv4 rv9 ov18 ov19 ov20)) p0 rows1 gv4 rv7 rv9 outv10 placed11 i12 gv13) := by kernel_rfl

theorem spec_l01Put_su_v2.b0_eq {ρ : Type} (N : Nat) (K : AV → Heap → Option ρ) (L0 : St → Option ρ) (p0 : Int) (rows1 : Nat) (gv3 : Nat) (gv4 : Nat → Int) (rv7 : Int) (rv9 : Nat → Int) (outv10 : Nat) (placed11 : Bool) (i12 : Int) (gv13 : Nat → Int) :
    xcode (E24 N) ents spec_l01Put_su_v2.kp 1 N (cL (cK (cB (cA (cB (cB (cB (cB (cB (cB spec_l01Put_su_v2.bd)))))))))) 0 (spec_l01Put_su_v2.st0 p0 rows1 gv3 gv4 rv7 rv9 outv10 placed11 i12 gv13) (roundK spec_l01Put_su_v2.kp 1 0 L0 (spec_l01Put_su_v2.k0 N K gv3 gv4)) = (spec_l01Put_su_v2.b0 N (fun d0 => K (.slice false 0 0 d0 .unk 8) [⟨false, .flat gv3 (.ints .u8 gv4)⟩]) (fun d0 d1 => K (.slice true 1 0 d0 .whole 8) [⟨false, .flat gv3 (.ints .u8 gv4)⟩, ⟨true, .flat 0 (.ints .u8 d1)⟩]) (fun outv10 placed11 i12 gv13 => L0 (spec_l01Put_su_v2.st0 p0 rows1 gv3 gv4 rv7 rv9 outv10 placed11 i12 gv13)) (fun ov18 ov19 ov20 => (spec_l01Put_su_v2.k0 N K gv3 gv4) (.exit 0) (spec_l01Put_su_v2.sx0_0 gv3 gv4 rv9 ov18 ov19 ov20)) p0 rows1 gv4 rv7 rv9 outv10 placed11 i12 gv13) := by
  have h := spec_l01Put_su_v2.b0_gen N K L0 (spec_l01Put_su_v2.k0 N K gv3 gv4) p0 rows1 gv3 gv4 rv7 rv9 outv10 placed11 i12 gv13
  rw [spec_l01Put_su_v2.k0_mix] at h
  exact h

theorem spec_l01Put_su_v2.a0_0_eq {ρ : Type} (N : Nat) (K : AV → Heap → Option ρ) (gv3 : Nat) (gv4 : Nat → Int) (rv9 : Nat → Int) (ov18 : Nat) (ov19 : Bool) (ov20 : Nat → Int) :
    (spec_l01Put_su_v2.k0 N K gv3 gv4) (.exit 0) (spec_l01Put_su_v2.sx0_0 gv3 gv4 rv9 ov18 ov19 ov20) = (spec_l01Put_su_v2.a0_0 N (fun d0 => K (.slice false 0 0 d0 .unk 8) [⟨false, .flat gv3 (.ints .u8 gv4)⟩]) (fun d0 d1 => K (.slice true 1 0 d0 .whole 8) [⟨false, .flat gv3 (.ints .u8 gv4)⟩, ⟨true, .flat 0 (.ints .u8 d1)⟩]) rv9 ov18 ov19 ov20) := by kernel_rfl

theorem spec_l01Put_su_v2.l0_eq {ρ : Type} (N : Nat) (K : AV → Heap → Option ρ) (p0 : Int) (rows1 : Nat) (gv3 : Nat) (gv4 : Nat → Int) (rv7 : Int) (rv9 : Nat → Int) :
    ∀ (m : Nat) (outv10 : Nat) (placed11 : Bool) (i12 : Int) (gv13 : Nat → Int), xloop (xcode (E24 N) ents spec_l01Put_su_v2.kp 1 N (cL (cK (cB (cA (cB (cB (cB (cB (cB (cB spec_l01Put_su_v2.bd)))))))))) 0) spec_l01Put_su_v2.kp 1 0 m (spec_l01Put_su_v2.st0 p0 rows1 gv3 gv4 rv7 rv9 outv10 placed11 i12 gv13) (spec_l01Put_su_v2.k0 N K gv3 gv4) = (spec_l01Put_su_v2.l0 N (fun d0 => K (.slice false 0 0 d0 .unk 8) [⟨false, .flat gv3 (.ints .u8 gv4)⟩]) (fun d0 d1 => K (.slice true 1 0 d0 .whole 8) [⟨false, .flat gv3 (.ints .u8 gv4)⟩, ⟨true, .flat 0 (.ints .u8 d1)⟩]) p0 rows1 gv4 rv7 rv9 (fun ov18 ov19 ov20 => (spec_l01Put_su_v2.k0 N K gv3 gv4) (.exit 0) (spec_l01Put_su_v2.sx0_0 gv3 gv4 rv9 ov18 ov19 ov20)) m outv10 placed11 i12 gv13) := by
  intro m
  induction m with
  | zero => intros; rfl
  | succ m ih =>
    intro outv10 placed11 i12 gv13
    refine (spec_l01Put_su_v2.b0_eq N K (fun s => xloop (xcode (E24 N) ents spec_l01Put_su_v2.kp 1 N (cL (cK (cB (cA (cB (cB (cB (cB (cB (cB spec_l01Put_su_v2.bd)))))))))) 0) spec_l01Put_su_v2.kp 1 0 m s (spec_l01Put_su_v2.k0 N K gv3 gv4)) p0 rows1 gv3 gv4 rv7 rv9 outv10 placed11 i12 gv13).trans ?_
    simp only [ih]
    kernel_rfl

theorem spec_l01Put_su_v2.s_eq {ρ : Type} (N : Nat) (K : AV → Heap → Option ρ) (p0 : Int) (rows1 : Nat) (v2 : Nat → Int) (gv3 : Nat) (gv4 : Nat → Int) :
    xbody (E24 N) ents spec_l01Put_su_v2.kp N Go.Proofs.Try.f112 spec_l01Put_su_v2.bd [.int .i64 (p0), .slice false 0 0 rows1 .unk 8, .agg [⟨.u8, 8, v2⟩]] [⟨false, .flat gv3 (.ints .u8 gv4)⟩] K = (spec_l01Put_su_v2.s N (fun d0 => K (.slice false 0 0 d0 .unk 8) [⟨false, .flat gv3 (.ints .u8 gv4)⟩]) (fun d0 d1 => K (.slice true 1 0 d0 .whole 8) [⟨false, .flat gv3 (.ints .u8 gv4)⟩, ⟨true, .flat 0 (.ints .u8 d1)⟩]) (fun rv7 rv9 outv10 placed11 i12 gv13 => xloop (xcode (E24 N) ents spec_l01Put_su_v2.kp 1 N (cL (cK (cB (cA (cB (cB (cB (cB (cB (cB spec_l01Put_su_v2.bd)))))))))) 0) spec_l01Put_su_v2.kp 1 0 N (spec_l01Put_su_v2.st0 p0 rows1 gv3 gv4 rv7 rv9 outv10 placed11 i12 gv13) (spec_l01Put_su_v2.k0 N K gv3 gv4)) p0 rows1 v2 gv4) := by kernel_rfl

theorem spec_l01Put_su_v2.eq {ρ : Type} (N : Nat) (K : AV → Heap → Option ρ) (p0 : Int) (rows1 : Nat) (v2 : Nat → Int) (gv3 : Nat) (gv4 : Nat → Int) :
    xbody (E24 N) ents spec_l01Put_su_v2.kp N Go.Proofs.Try.f112 spec_l01Put_su_v2.bd [.int .i64 (p0), .slice false 0 0 rows1 .unk 8, .agg [⟨.u8, 8, v2⟩]] [⟨false, .flat gv3 (.ints .u8 gv4)⟩] K = (spec_l01Put_su_v2 N (fun d0 => K (.slice false 0 0 d0 .unk 8) [⟨false, .flat gv3 (.ints .u8 gv4)⟩]) (fun d0 d1 => K (.slice true 1 0 d0 .whole 8) [⟨false, .flat gv3 (.ints .u8 gv4)⟩, ⟨true, .flat 0 (.ints .u8 d1)⟩]) p0 rows1 v2 gv3 gv4) := by
  refine (spec_l01Put_su_v2.s_eq N K p0 rows1 v2 gv3 gv4).trans ?_
  simp only [spec_l01Put_su_v2.l0_eq, spec_l01Put_su_v2.a0_0_eq]
  kernel_rfl

noncomputable def spec_l01Put_su_v2.en (N : Nat) (ρ : Type) : List AV → Heap → (AV → Heap → Option ρ) → Option ρ
  | [.int .i64 (p0), .slice false 0 0 rows1 .unk 8, .agg [⟨.u8, 8, v2⟩]], [⟨false, .flat gv3 (.ints .u8 gv4)⟩], K => (spec_l01Put_su_v2 N (fun d0 => K (.slice false 0 0 d0 .unk 8) [⟨false, .flat gv3 (.ints .u8 gv4)⟩]) (fun d0 d1 => K (.slice true 1 0 d0 .whole 8) [⟨false, .flat gv3 (.ints .u8 gv4)⟩, ⟨true, .flat 0 (.ints .u8 d1)⟩]) p0 rows1 v2 gv3 gv4)
  | _, _, _ => none

theorem spec_l01Put_su_v2.en_ok (N : Nat) (hE : EnvOk (E24 N) ents) (ρ : Type) (args : List AV) (sh : Heap) (K : AV → Heap → Option ρ) (r : ρ) (h : spec_l01Put_su_v2.en N ρ args sh K = some r) : ∃ v sh', K v sh' = some r ∧ FnOk (E24 N).P 112 args sh v sh' := by
  unfold spec_l01Put_su_v2.en at h
  split at h
  · exact fn_ok hE (kp := spec_l01Put_su_v2.kp) (N := N) Go.Proofs.Try.func112 (c := spec_l01Put_su_v2.bd) (by kernel_rfl) ((spec_l01Put_su_v2.eq N _ _ _ _ _ _).trans h)
  · cases h

noncomputable def E25 (N : Nat) : Env := (E24 N).add 112 (spec_l01Put_su_v2.en N)

theorem E25_ok (N : Nat) : EnvOk (E25 N) ents := Env.add_ok (E24_ok N) (spec_l01Put_su_v2.en_ok N (E24_ok N))

noncomputable def spec_l02Sub.kp : Keeps := ⟨[(0, [2, 5, 6, 7], [(.slot 5, .unk (.ints .u8 (fun _ => 0)) 8)], []), (2, [2, 5, 6, 7, 8, 9], [(.slot 5, .unk (.ints .u8 (fun _ => 0)) 8)], []), (4, [2, 5, 6, 7, 8, 9, 10, 11], [], [])], [(0, [5], [], []), (2, [2, 5, 6, 7], [], []), (4, [2, 5, 6, 7, 8, 9, 10], [], [])], []⟩

noncomputable def spec_l02Sub.bd : Code := bodyOf Go.Proofs.Try.f82

noncomputable def spec_l02Sub.fin {ρ : Type} (N : Nat) (K : AV → Heap → Option ρ) : XE → St → Option ρ := finK (E25 N) spec_l02Sub.kp.fins Go.Proofs.Try.f82 [] K

noncomputable def spec_l02Sub.k0 {ρ : Type} (N : Nat) (K : AV → Heap → Option ρ) : XE → St → Option ρ := (blockK spec_l02Sub.kp 0 0 (seqK (xcode (E25 N) ents spec_l02Sub.kp 0 N (cB (cB (cB spec_l02Sub.bd))) 0) (spec_l02Sub.fin N K)))

theorem spec_l02Sub.k0_mix {ρ : Type} (N : Nat) (K : AV → Heap → Option ρ) : mixK (spec_l02Sub.fin N K .ret) (spec_l02Sub.k0 N K) = (spec_l02Sub.k0 N K) := by
  funext e s; cases e <;> kernel_rfl

noncomputable def spec_l02Sub.st0 (c0 : Nat → Int) (c1 : Nat → Int) (rv3 : Nat → Int) (outv4 : Nat) (j5 : Int) (gv6 : Nat → Int) : St := ⟨sl 53 [(2, .sptr [(0, 2), (1, 520)]), (5, .slice false 2 0 outv4 .unk 8), (6, .sptr [(3, 64)]), (7, .int .i64 (j5))], [⟨true, .flat 2 (.ints .i64 c0)⟩, ⟨true, .flat 520 (.ints .u8 c1)⟩, ⟨true, .flat 0 (.ints .u8 gv6)⟩, ⟨true, .flat 64 (.ints .u8 rv3)⟩]⟩

noncomputable def spec_l02Sub.sx0_0 (ov19 : Nat) (ov20 : Nat → Int) : St := ⟨sl 53 [(5, .slice false 0 0 ov19 .unk 8)], [⟨true, .flat 0 (.ints .u8 ov20)⟩]⟩

noncomputable def spec_l02Sub.k1g {ρ : Type} (N : Nat) (L0 : St → Option ρ) (kv : XE → St → Option ρ) : XE → St → Option ρ := (blockK spec_l02Sub.kp 0 2 (blockK spec_l02Sub.kp 0 1 (seqK (xcode (E25 N) ents spec_l02Sub.kp 0 N (cB (cB (cL (cK (cB (cA (cB (cB spec_l02Sub.bd)))))))) 0) (roundK spec_l02Sub.kp 0 0 L0 kv))))

theorem spec_l02Sub.k1_mix {ρ : Type} (N : Nat) (K : AV → Heap → Option ρ) (L0 : St → Option ρ) : mixK (spec_l02Sub.fin N K .ret) (spec_l02Sub.k1g N L0 (spec_l02Sub.k0 N K)) = (spec_l02Sub.k1g N L0 (spec_l02Sub.k0 N K)) := by
  funext e s; cases e <;> kernel_rfl

noncomputable def spec_l02Sub.st1 (c0 : Nat → Int) (c1 : Nat → Int) (rv3 : Nat → Int) (j5 : Int) (rv7 : Nat → Int) (outv8 : Nat) (lv9 : Int) (gv10 : Nat → Int) : St := ⟨sl 53 [(2, .sptr [(0, 2), (1, 520)]), (5, .slice false 2 0 outv8 .unk 8), (6, .sptr [(3, 64)]), (7, .int .i64 (j5)), (8, .sptr [(4, 64)]), (9, .int .i64 (lv9))], [⟨true, .flat 2 (.ints .i64 c0)⟩, ⟨true, .flat 520 (.ints .u8 c1)⟩, ⟨true, .flat 0 (.ints .u8 gv10)⟩, ⟨true, .flat 64 (.ints .u8 rv3)⟩, ⟨true, .flat 64 (.ints .u8 rv7)⟩]⟩

noncomputable def spec_l02Sub.sx1_0 (c0 : Nat → Int) (c1 : Nat → Int) (rv3 : Nat → Int) (j5 : Int) (ov17 : Nat) (ov18 : Nat → Int) : St := ⟨sl 53 [(2, .sptr [(0, 2), (1, 520)]), (5, .slice false 2 0 ov17 .unk 8), (6, .sptr [(3, 64)]), (7, .int .i64 (j5))], [⟨true, .flat 2 (.ints .i64 c0)⟩, ⟨true, .flat 520 (.ints .u8 c1)⟩, ⟨true, .flat 0 (.ints .u8 ov18)⟩, ⟨true, .flat 64 (.ints .u8 rv3)⟩]⟩

noncomputable def spec_l02Sub.k2g {ρ : Type} (N : Nat) (L1 : St → Option ρ) (kv : XE → St → Option ρ) : XE → St → Option ρ := (blockK spec_l02Sub.kp 0 4 (seqK (xcode (E25 N) ents spec_l02Sub.kp 0 N (cB (cB (cK (cA (cB (cL (cK (cB (cB (cK (cA (cB (cL (cK (cB (cA (cB (cB spec_l02Sub.bd)))))))))))))))))) 3) (blockK spec_l02Sub.kp 0 3 (seqK (xcode (E25 N) ents spec_l02Sub.kp 0 N (cB (cB (cL (cK (cB (cB (cK (cA (cB (cL (cK (cB (cA (cB (cB spec_l02Sub.bd))))))))))))))) 2) (roundK spec_l02Sub.kp 0 2 L1 kv)))))

theorem spec_l02Sub.k2_mix {ρ : Type} (N : Nat) (K : AV → Heap → Option ρ) (L0 : St → Option ρ) (L1 : St → Option ρ) : mixK (spec_l02Sub.fin N K .ret) (spec_l02Sub.k2g N L1 (spec_l02Sub.k1g N L0 (spec_l02Sub.k0 N K))) = (spec_l02Sub.k2g N L1 (spec_l02Sub.k1g N L0 (spec_l02Sub.k0 N K))) := by
  funext e s; cases e <;> kernel_rfl

noncomputable def spec_l02Sub.st2 (c0 : Nat → Int) (c1 : Nat → Int) (rv3 : Nat → Int) (j5 : Int) (rv7 : Nat → Int) (outv8 : Nat) (lv9 : Int) (gv10 : Nat → Int) (k11 : Int) (gv12 : Nat → Int) : St := ⟨sl 53 [(2, .sptr [(0, 2), (1, 520)]), (5, .slice false 2 0 outv8 .unk 8), (6, .sptr [(3, 64)]), (7, .int .i64 (j5)), (8, .sptr [(4, 64)]), (9, .int .i64 (lv9)), (10, .sptr [(5, 8)]), (11, .int .i64 (k11))], [⟨true, .flat 2 (.ints .i64 c0)⟩, ⟨true, .flat 520 (.ints .u8 c1)⟩, ⟨true, .flat 0 (.ints .u8 gv10)⟩, ⟨true, .flat 64 (.ints .u8 rv3)⟩, ⟨true, .flat 64 (.ints .u8 rv7)⟩, ⟨true, .flat 8 (.ints .u8 gv12)⟩]⟩

noncomputable def spec_l02Sub.sx2_0 (c0 : Nat → Int) (c1 : Nat → Int) (rv3 : Nat → Int) (j5 : Int) (rv7 : Nat → Int) (outv8 : Nat) (lv9 : Int) (gv10 : Nat → Int) (ov13 : Nat → Int) : St := ⟨sl 53 [(2, .sptr [(0, 2), (1, 520)]), (5, .slice false 2 0 outv8 .unk 8), (6, .sptr [(3, 64)]), (7, .int .i64 (j5)), (8, .sptr [(4, 64)]), (9, .int .i64 (lv9)), (10, .sptr [(5, 8)])], [⟨true, .flat 2 (.ints .i64 c0)⟩, ⟨true, .flat 520 (.ints .u8 c1)⟩, ⟨true, .flat 0 (.ints .u8 gv10)⟩, ⟨true, .flat 64 (.ints .u8 rv3)⟩, ⟨true, .flat 64 (.ints .u8 rv7)⟩, ⟨true, .flat 8 (.ints .u8 ov13)⟩]⟩

theorem spec_l02Sub.b2_gen {ρ : Type} (N : Nat) (K : AV → Heap → Option ρ) (L2 : St → Option ρ) (kv : XE → St → Option ρ) (c0 : Nat → Int) (c1 : Nat → Int) (rv3 : Nat → Int) (j5 : Int) (rv7 : Nat → Int) (outv8 : Nat) (lv9 : Int) (gv10 : Nat → Int) (k11 : Int) (gv12 : Nat → Int) :
    xcode (E25 N) ents spec_l02Sub.kp 0 N (cL (cK (cB (cA (cB (cK (cA (cB (cL (cK (cB (cB (cK (cA (cB (cL (cK (cB (cA (cB (cB spec_l02Sub.bd))))))))))))))))))))) 4 (spec_l02Sub.st2 c0 c1 rv3 j5 rv7 outv8 lv9 gv10 k11 gv12) (roundK spec_l02Sub.kp 0 4 L2 (mixK (spec_l02Sub.fin N K .ret) kv)) = (spec_l02Sub.b2 N (fun d0 d1 => K (.slice false 0 0 d0 .unk 8) [⟨true, .flat 0 (.ints .u8 d1)⟩]) (fun k11 gv12 => L2 (spec_l02Sub.st2 c0 c1 rv3 j5 rv7 outv8 lv9 gv10 k11 gv12)) (fun ov13 => kv (.exit 4) (spec_l02Sub.sx2_0 c0 c1 rv3 j5 rv7 outv8 lv9 gv10 ov13)) c0 rv7 lv9 k11 gv12) := by kernel_rfl

theorem spec_l02Sub.b2_eq {ρ : Type} (N : Nat) (K : AV → Heap → Option ρ) (L0 : St → Option ρ) (L1 : St → Option ρ) (L2 : St → Option ρ) (c0 : Nat → Int) (c1 : Nat → Int) (rv3 : Nat → Int) (j5 : Int) (rv7 : Nat → Int) (outv8 : Nat) (lv9 : Int) (gv10 : Nat → Int) (k11 : Int) (gv12 : Nat → Int) :
    xcode (E25 N) ents spec_l02Sub.kp 0 N (cL (cK (cB (cA (cB (cK (cA (cB (cL (cK (cB (cB (cK (cA (cB (cL (cK (cB (cA (cB (cB spec_l02Sub.bd))))))))))))))))))))) 4 (spec_l02Sub.st2 c0 c1 rv3 j5 rv7 outv8 lv9 gv10 k11 gv12) (roundK spec_l02Sub.kp 0 4 L2 (spec_l02Sub.k2g N L1 (spec_l02Sub.k1g N L0 (spec_l02Sub.k0 N K)))) = (spec_l02Sub.b2 N (fun d0 d1 => K (.slice false 0 0 d0 .unk 8) [⟨true, .flat 0 (.ints .u8 d1)⟩]) (fun k11 gv12 => L2 (spec_l02Sub.st2 c0 c1 rv3 j5 rv7 outv8 lv9 gv10 k11 gv12)) (fun ov13 => (spec_l02Sub.k2g N L1 (spec_l02Sub.k1g N L0 (spec_l02Sub.k0 N K))) (.exit 4) (spec_l02Sub.sx2_0 c0 c1 rv3 j5 rv7 outv8 lv9 gv10 ov13)) c0 rv7 lv9 k11 gv12) := by
  have h := spec_l02Sub.b2_gen N K L2 (spec_l02Sub.k2g N L1 (spec_l02Sub.k1g N L0 (spec_l02Sub.k0 N K))) c0 c1 rv3 j5 rv7 outv8 lv9 gv10 k11 gv12
  rw [spec_l02Sub.k2_mix] at h
  exact h

theorem spec_l02Sub.a2_0_gen {ρ : Type} (N : Nat) (K : AV → Heap → Option ρ) (L1 : St → Option ρ) (kv : XE → St → Option ρ) (c0 : Nat → Int) (c1 : Nat → Int) (rv3 : Nat → Int) (j5 : Int) (rv7 : Nat → Int) (outv8 : Nat) (lv9 : Int) (gv10 : Nat → Int) (ov13 : Nat → Int) :
    (spec_l02Sub.k2g N L1 (mixK (spec_l02Sub.fin N K .ret) kv)) (.exit 4) (spec_l02Sub.sx2_0 c0 c1 rv3 j5 rv7 outv8 lv9 gv10 ov13) = (spec_l02Sub.a2_0 N (fun d0 d1 => K (.slice false 0 0 d0 .unk 8) [⟨true, .flat 0 (.ints .u8 d1)⟩]) (fun outv8 lv9 gv10 => L1 (spec_l02Sub.st1 c0 c1 rv3 j5 rv7 outv8 lv9 gv10)) (fun ov17 ov18 => kv (.exit 2) (spec_l02Sub.sx1_0 c0 c1 rv3 j5 ov17 ov18)) c0 outv8 lv9 gv10 ov13) := by kernel_rfl

theorem spec_l02Sub.a2_0_eq {ρ : Type} (N : Nat) (K : AV → Heap → Option ρ) (L0 : St → Option ρ) (L1 : St → Option ρ) (c0 : Nat → Int) (c1 : Nat → Int) (rv3 : Nat → Int) (j5 : Int) (rv7 : Nat → Int) (outv8 : Nat) (lv9 : Int) (gv10 : Nat → Int) (ov13 : Nat → Int) :
    (spec_l02Sub.k2g N L1 (spec_l02Sub.k1g N L0 (spec_l02Sub.k0 N K))) (.exit 4) (spec_l02Sub.sx2_0 c0 c1 rv3 j5 rv7 outv8 lv9 gv10 ov13) = (spec_l02Sub.a2_0 N (fun d0 d1 => K (.slice false 0 0 d0 .unk 8) [⟨true, .flat 0 (.ints .u8 d1)⟩]) (fun outv8 lv9 gv10 => L1 (spec_l02Sub.st1 c0 c1 rv3 j5 rv7 outv8 lv9 gv10)) (fun ov17 ov18 => (spec_l02Sub.k1g N L0 (spec_l02Sub.k0 N K)) (.exit 2) (spec_l02Sub.sx1_0 c0 c1 rv3 j5 ov17 ov18)) c0 outv8 lv9 gv10 ov13) := by
  have h := spec_l02Sub.a2_0_gen N K L1 (spec_l02Sub.k1g N L0 (spec_l02Sub.k0 N K)) c0 c1 rv3 j5 rv7 outv8 lv9 gv10 ov13
  rw [spec_l02Sub.k1_mix] at h
  exact h

theorem spec_l02Sub.b1_gen {ρ : Type} (N : Nat) (K : AV → Heap → Option ρ) (L1 : St → Option ρ) (kv : XE → St → Option ρ) (c0 : Nat → Int) (c1 : Nat → Int) (rv3 : Nat → Int) (j5 : Int) (rv7 : Nat → Int) (outv8 : Nat) (lv9 : Int) (gv10 : Nat → Int) :
    xcode (E25 N) ents spec_l02Sub.kp 0 N (cL (cK (cB (cB (cK (cA (cB (cL (cK (cB (cA (cB (cB spec_l02Sub.bd))))))))))))) 2 (spec_l02Sub.st1 c0 c1 rv3 j5 rv7 outv8 lv9 gv10) (roundK spec_l02Sub.kp 0 2 L1 (mixK (spec_l02Sub.fin N K .ret) kv)) = (spec_l02Sub.b1 N (fun d0 d1 => K (.slice false 0 0 d0 .unk 8) [⟨true, .flat 0 (.ints .u8 d1)⟩]) (fun k11 gv12 => xloop (xcode (E25 N) ents spec_l02Sub.kp 0 N (cL (cK (cB (cA (cB (cK (cA (cB (cL (cK (cB (cB (cK (cA (cB (cL (cK (cB (cA (cB (cB spec_l02Sub.bd))))))))))))))))))))) 4) spec_l02Sub.kp 0 4 N (spec_l02Sub.st2 c0 c1 rv3 j5 rv7 outv8 lv9 gv10 k11 gv12) (spec_l02Sub.k2g N L1 (mixK (spec_l02Sub.fin N K .ret) kv))) (fun outv8 lv9 gv10 => L1 (spec_l02Sub.st1 c0 c1 rv3 j5 rv7 outv8 lv9 gv10)) (fun ov17 ov18 => kv (.exit 2) (spec_l02Sub.sx1_0 c0 c1 rv3 j5 ov17 ov18)) c0 outv8 lv9 gv10) := by kernel_rfl

theorem spec_l02Sub.b1_eq {ρ : Type} (N : Nat) (K : AV → Heap → Option ρ) (L0 : St → Option ρ) (L1 : St → Option ρ) (c0 : Nat → Int) (c1 : Nat → Int) (rv3 : Nat → Int) (j5 : Int) (rv7 : Nat → Int) (outv8 : Nat) (lv9 : Int) (gv10 : Nat → Int) :
    xcode (E25 N) ents spec_l02Sub.kp 0 N (cL (cK (cB (cB (cK (cA (cB (cL (cK (cB (cA (cB (cB spec_l02Sub.bd))))))))))))) 2 (spec_l02Sub.st1 c0 c1 rv3 j5 rv7 outv8 lv9 gv10) (roundK spec_l02Sub.kp 0 2 L1 (spec_l02Sub.k1g N L0 (spec_l02Sub.k0 N K))) = (spec_l02Sub.b1 N (fun d0 d1 => K (.slice false 0 0 d0 .unk 8) [⟨true, .flat 0 (.ints .u8 d1)⟩]) (fun k11 gv12 => xloop (xcode (E25 N) ents spec_l02Sub.kp 0 N (cL (cK (cB (cA (cB (cK (cA (cB (cL (cK (cB (cB (cK (cA (cB (cL (cK (cB (cA (cB (cB spec_l02Sub.bd))))))))))))))))))))) 4) spec_l02Sub.kp 0 4 N (spec_l02Sub.st2 c0 c1 rv3 j5 rv7 outv8 lv9 gv10 k11 gv12) (spec_l02Sub.k2g N L1 (spec_l02Sub.k1g N L0 (spec_l02Sub.k0 N K)))) (fun outv8 lv9 gv10 => L1 (spec_l02Sub.st1 c0 c1 rv3 j5 rv7 outv8 lv9 gv10)) (fun ov17 ov18 => (spec_l02Sub.k1g N L0 (spec_l02Sub.k0 N K)) (.exit 2) (spec_l02Sub.sx1_0 c0 c1 rv3 j5 ov17 ov18)) c0 outv8 lv9 gv10) := by
  have h := spec_l02Sub.b1_gen N K L1 (spec_l02Sub.k1g N L0 (spec_l02Sub.k0 N K)) c0 c1 rv3 j5 rv7 outv8 lv9 gv10
  rw [spec_l02Sub.k1_mix] at h
  exact h

theorem spec_l02Sub.a1_0_gen {ρ : Type} (N : Nat) (K : AV → Heap → Option ρ) (L0 : St → Option ρ) (kv : XE → St → Option ρ) (c0 : Nat → Int) (c1 : Nat → Int) (rv3 : Nat → Int) (j5 : Int) (ov17 : Nat) (ov18 : Nat → Int) :
    (spec_l02Sub.k1g N L0 (mixK (spec_l02Sub.fin N K .ret) kv)) (.exit 2) (spec_l02Sub.sx1_0 c0 c1 rv3 j5 ov17 ov18) = (spec_l02Sub.a1_0 N (fun d0 d1 => K (.slice false 0 0 d0 .unk 8) [⟨true, .flat 0 (.ints .u8 d1)⟩]) (fun outv4 j5 gv6 => L0 (spec_l02Sub.st0 c0 c1 rv3 outv4 j5 gv6)) (fun ov19 ov20 => kv (.exit 0) (spec_l02Sub.sx0_0 ov19 ov20)) j5 ov17 ov18) := by kernel_rfl

theorem spec_l02Sub.a1_0_eq {ρ : Type} (N : Nat) (K : AV → Heap → Option ρ) (L0 : St → Option ρ) (c0 : Nat → Int) (c1 : Nat → Int) (rv3 : Nat → Int) (j5 : Int) (ov17 : Nat) (ov18 : Nat → Int) :
    (spec_l02Sub.k1g N L0 (spec_l02Sub.k0 N K)) (.exit 2) (spec_l02Sub.sx1_0 c0 c1 rv3 j5 ov17 ov18) = (spec_l02Sub.a1_0 N (fun d0 d1 => K (.slice false 0 0 d0 .unk 8) [⟨true, .flat 0 (.ints .u8 d1)⟩]) (fun outv4 j5 gv6 => L0 (spec_l02Sub.st0 c0 c1 rv3 outv4 j5 gv6)) (fun ov19 ov20 => (spec_l02Sub.k0 N K) (.exit 0) (spec_l02Sub.sx0_0 ov19 ov20)) j5 ov17 ov18) := by
  have h := spec_l02Sub.a1_0_gen N K L0 (spec_l02Sub.k0 N K) c0 c1 rv3 j5 ov17 ov18
  rw [spec_l02Sub.k0_mix] at h
  exact h

theorem spec_l02Sub.b0_gen {ρ : Type} (N : Nat) (K : AV → Heap → Option ρ) (L0 : St → Option ρ) (kv : XE → St → Option ρ) (c0 : Nat → Int) (c1 : Nat → Int) (rv3 : Nat → Int) (outv4 : Nat) (j5 : Int) (gv6 : Nat → Int) :
    xcode (E25 N) ents spec_l02Sub.kp 0 N (cL (cK (cB (cA (cB (cB spec_l02Sub.bd)))))) 0 (spec_l02Sub.st0 c0 c1 rv3 outv4 j5 gv6) (roundK spec_l02Sub.kp 0 0 L0 (mixK (spec_l02Sub.fin N K .ret) kv)) = (spec_l02Sub.b0 N (fun d0 d1 => K (.slice false 0 0 d0 .unk 8) [⟨true, .flat 0 (.ints .u8 d1)⟩]) (fun rv7 outv8 lv9 gv10 => xloop (xcode (E25 N) ents spec_l02Sub.kp 0 N (cL (cK (cB (cB (cK (cA (cB (cL (cK (cB (cA (cB (cB spec_l02Sub.bd))))))))))))) 2) spec_l02Sub.kp 0 2 N (spec_l02Sub.st1 c0 c1 rv3 j5 rv7 outv8 lv9 gv10) (spec_l02Sub.k1g N L0 (mixK (spec_l02Sub.fin N K .ret) kv))) (fun outv4 j5 gv6 => L0 (spec_l02Sub.st0 c0 c1 rv3 outv4 j5 gv6)) (fun ov19 ov20 => kv (.exit 0) (spec_l02Sub.sx0_0 ov19 ov20)) c0 c1 rv3 outv4 j5 gv6) := by kernel_rfl

theorem spec_l02Sub.b0_eq {ρ : Type} (N : Nat) (K : AV → Heap → Option ρ) (L0 : St → Option ρ) (c0 : Nat → Int) (c1 : Nat → Int) (rv3 : Nat → Int) (outv4 : Nat) (j5 : Int) (gv6 : Nat → Int) :
    xcode (E25 N) ents spec_l02Sub.kp 0 N (cL (cK (cB (cA (cB (cB spec_l02Sub.bd)))))) 0 (spec_l02Sub.st0 c0 c1 rv3 outv4 j5 gv6) (roundK spec_l02Sub.kp 0 0 L0 (spec_l02Sub.k0 N K)) = (spec_l02Sub.b0 N (fun d0 d1 => K (.slice false 0 0 d0 .unk 8) [⟨true, .flat 0 (.ints .u8 d1)⟩]) (fun rv7 outv8 lv9 gv10 => xloop (xcode (E25 N) ents spec_l02Sub.kp 0 N (cL (cK (cB (cB (cK (cA (cB (cL (cK (cB (cA (cB (cB spec_l02Sub.bd))))))))))))) 2) spec_l02Sub.kp 0 2 N (spec_l02Sub.st1 c0 c1 rv3 j5 rv7 outv8 lv9 gv10) (spec_l02Sub.k1g N L0 (spec_l02Sub.k0 N K))) (fun outv4 j5 gv6 => L0 (spec_l02Sub.st0 c0 c1 rv3 outv4 j5 gv6)) (fun ov19 ov20 => (spec_l02Sub.k0 N K) (.exit 0) (spec_l02Sub.sx0_0 ov19 ov20)) c0 c1 rv3 outv4 j5 gv6) := by
  have h := spec_l02Sub.b0_gen N K L0 (spec_l02Sub.k0 N K) c0 c1 rv3 outv4 j5 gv6
  rw [spec_l02Sub.k0_mix] at h
  exact h

theorem spec_l02Sub.a0_0_eq {ρ : Type} (N : Nat) (K : AV → Heap → Option ρ) (ov19 : Nat) (ov20 : Nat → Int) :
    (spec_l02Sub.k0 N K) (.exit 0) (spec_l02Sub.sx0_0 ov19 ov20) = (spec_l02Sub.a0_0 N (fun d0 d1 => K (.slice false 0 0 d0 .unk 8) [⟨true, .flat 0 (.ints .u8 d1)⟩]) ov19 ov20) := by kernel_rfl

theorem spec_l02Sub.l2_eq {ρ : Type} (N : Nat) (K : AV → Heap → Option ρ) (L0 : St → Option ρ) (L1 : St → Option ρ) (c0 : Nat → Int) (c1 : Nat → Int) (rv3 : Nat → Int) (j5 : Int) (rv7 : Nat → Int) (outv8 : Nat) (lv9 : Int) (gv10 : Nat → Int) :
    ∀ (m : Nat) (k11 : Int) (gv12 : Nat → Int), xloop (xcode (E25 N) ents spec_l02Sub.kp 0 N (cL (cK (cB (cA (cB (cK (cA (cB (cL (cK (cB (cB (cK (cA (cB (cL (cK (cB (cA (cB (cB spec_l02Sub.bd))))))))))))))))))))) 4) spec_l02Sub.kp 0 4 m (spec_l02Sub.st2 c0 c1 rv3 j5 rv7 outv8 lv9 gv10 k11 gv12) (spec_l02Sub.k2g N L1 (spec_l02Sub.k1g N L0 (spec_l02Sub.k0 N K))) = (spec_l02Sub.l2 N (fun d0 d1 => K (.slice false 0 0 d0 .unk 8) [⟨true, .flat 0 (.ints .u8 d1)⟩]) c0 rv7 lv9 (fun ov13 => (spec_l02Sub.k2g N L1 (spec_l02Sub.k1g N L0 (spec_l02Sub.k0 N K))) (.exit 4) (spec_l02Sub.sx2_0 c0 c1 rv3 j5 rv7 outv8 lv9 gv10 ov13)) m k11 gv12) := by
  intro m
  induction m with
  | zero => intros; rfl
  | succ m ih =>
    intro k11 gv12
    refine (spec_l02Sub.b2_eq N K L0 L1 (fun s => xloop (xcode (E25 N) ents spec_l02Sub.kp 0 N (cL (cK (cB (cA (cB (cK (cA (cB (cL (cK (cB (cB (cK (cA (cB (cL (cK (cB (cA (cB (cB spec_l02Sub.bd))))))))))))))))))))) 4) spec_l02Sub.kp 0 4 m s (spec_l02Sub.k2g N L1 (spec_l02Sub.k1g N L0 (spec_l02Sub.k0 N K)))) c0 c1 rv3 j5 rv7 outv8 lv9 gv10 k11 gv12).trans ?_
    simp only [ih]
    kernel_rfl

theorem spec_l02Sub.l1_eq {ρ : Type} (N : Nat) (K : AV → Heap → Option ρ) (L0 : St → Option ρ) (c0 : Nat → Int) (c1 : Nat → Int) (rv3 : Nat → Int) (j5 : Int) (rv7 : Nat → Int) :
    ∀ (m : Nat) (outv8 : Nat) (lv9 : Int) (gv10 : Nat → Int), xloop (xcode (E25 N) ents spec_l02Sub.kp 0 N (cL (cK (cB (cB (cK (cA (cB (cL (cK (cB (cA (cB (cB spec_l02Sub.bd))))))))))))) 2) spec_l02Sub.kp 0 2 m (spec_l02Sub.st1 c0 c1 rv3 j5 rv7 outv8 lv9 gv10) (spec_l02Sub.k1g N L0 (spec_l02Sub.k0 N K)) = (spec_l02Sub.l1 N (fun d0 d1 => K (.slice false 0 0 d0 .unk 8) [⟨true, .flat 0 (.ints .u8 d1)⟩]) c0 rv7 (fun ov17 ov18 => (spec_l02Sub.k1g N L0 (spec_l02Sub.k0 N K)) (.exit 2) (spec_l02Sub.sx1_0 c0 c1 rv3 j5 ov17 ov18)) m outv8 lv9 gv10) := by
  intro m
  induction m with
  | zero => intros; rfl
  | succ m ih =>
    intro outv8 lv9 gv10
    refine (spec_l02Sub.b1_eq N K L0 (fun s => xloop (xcode (E25 N) ents spec_l02Sub.kp 0 N (cL (cK (cB (cB (cK (cA (cB (cL (cK (cB (cA (cB (cB spec_l02Sub.bd))))))))))))) 2) spec_l02Sub.kp 0 2 m s (spec_l02Sub.k1g N L0 (spec_l02Sub.k0 N K))) c0 c1 rv3 j5 rv7 outv8 lv9 gv10).trans ?_
    simp only [ih, spec_l02Sub.l2_eq, spec_l02Sub.a2_0_eq]
    kernel_rfl

theorem spec_l02Sub.l0_eq {ρ : Type} (N : Nat) (K : AV → Heap → Option ρ) (c0 : Nat → Int) (c1 : Nat → Int) (rv3 : Nat → Int) :
    ∀ (m : Nat) (outv4 : Nat) (j5 : Int) (gv6 : Nat → Int), xloop (xcode (E25 N) ents spec_l02Sub.kp 0 N (cL (cK (cB (cA (cB (cB spec_l02Sub.bd)))))) 0) spec_l02Sub.kp 0 0 m (spec_l02Sub.st0 c0 c1 rv3 outv4 j5 gv6) (spec_l02Sub.k0 N K) = (spec_l02Sub.l0 N (fun d0 d1 => K (.slice false 0 0 d0 .unk 8) [⟨true, .flat 0 (.ints .u8 d1)⟩]) c0 c1 rv3 (fun ov19 ov20 => (spec_l02Sub.k0 N K) (.exit 0) (spec_l02Sub.sx0_0 ov19 ov20)) m outv4 j5 gv6) := by
  intro m
  induction m with
  | zero => intros; rfl
  | succ m ih =>
    intro outv4 j5 gv6
    refine (spec_l02Sub.b0_eq N K (fun s => xloop (xcode (E25 N) ents spec_l02Sub.kp 0 N (cL (cK (cB (cA (cB (cB spec_l02Sub.bd)))))) 0) spec_l02Sub.kp 0 0 m s (spec_l02Sub.k0 N K)) c0 c1 rv3 outv4 j5 gv6).trans ?_
    simp only [ih, spec_l02Sub.l1_eq, spec_l02Sub.a1_0_eq]
    kernel_rfl

theorem spec_l02Sub.s_eq {ρ : Type} (N : Nat) (K : AV → Heap → Option ρ) (c0 : Nat → Int) (c1 : Nat → Int) (v2 : Nat → Int) :
    xbody (E25 N) ents spec_l02Sub.kp N Go.Proofs.Try.f82 spec_l02Sub.bd [.agg [⟨.i64, 2, c0⟩, ⟨.u8, 520, c1⟩], .agg [⟨.u8, 8, v2⟩]] [] K = (spec_l02Sub.s N (fun d0 d1 => K (.slice false 0 0 d0 .unk 8) [⟨true, .flat 0 (.ints .u8 d1)⟩]) (fun rv3 outv4 j5 gv6 => xloop (xcode (E25 N) ents spec_l02Sub.kp 0 N (cL (cK (cB (cA (cB (cB spec_l02Sub.bd)))))) 0) spec_l02Sub.kp 0 0 N (spec_l02Sub.st0 c0 c1 rv3 outv4 j5 gv6) (spec_l02Sub.k0 N K)) c0 c1 v2) := by kernel_rfl

theorem spec_l02Sub.eq {ρ : Type} (N : Nat) (K : AV → Heap → Option ρ) (c0 : Nat → Int) (c1 : Nat → Int) (v2 : Nat → Int) :
    xbody (E25 N) ents spec_l02Sub.kp N Go.Proofs.Try.f82 spec_l02Sub.bd [.agg [⟨.i64, 2, c0⟩, ⟨.u8, 520, c1⟩], .agg [⟨.u8, 8, v2⟩]] [] K = (spec_l02Sub N (fun d0 d1 => K (.slice false 0 0 d0 .unk 8) [⟨true, .flat 0 (.ints .u8 d1)⟩]) c0 c1 v2) := by
  refine (spec_l02Sub.s_eq N K c0 c1 v2).trans ?_
  simp only [spec_l02Sub.l0_eq, spec_l02Sub.a0_0_eq]
  kernel_rfl

noncomputable def spec_l02Sub.en (N : Nat) (ρ : Type) : List AV → Heap → (AV → Heap → Option ρ) → Option ρ
  | [.agg [⟨.i64, 2, c0⟩, ⟨.u8, 520, c1⟩], .agg [⟨.u8, 8, v2⟩]], [], K => (spec_l02Sub N (fun d0 d1 => K (.slice false 0 0 d0 .unk 8) [⟨true, .flat 0 (.ints .u8 d1)⟩]) c0 c1 v2)
  | _, _, _ => none

theorem spec_l02Sub.en_ok (N : Nat) (hE : EnvOk (E25 N) ents) (ρ : Type) (args : List AV) (sh : Heap) (K : AV → Heap → Option ρ) (r : ρ) (h : spec_l02Sub.en N ρ args sh K = some r) : ∃ v sh', K v sh' = some r ∧ FnOk (E25 N).P 82 args sh v sh' := by
  unfold spec_l02Sub.en at h
  split at h
  · exact fn_ok hE (kp := spec_l02Sub.kp) (N := N) Go.Proofs.Try.func82 (c := spec_l02Sub.bd) (by kernel_rfl) ((spec_l02Sub.eq N _ _ _ _).trans h)
  · cases h

noncomputable def E26 (N : Nat) : Env := (E25 N).add 82 (spec_l02Sub.en N)

theorem E26_ok (N : Nat) : EnvOk (E26 N) ents := Env.add_ok (E25_ok N) (spec_l02Sub.en_ok N (E25_ok N))

noncomputable def spec_LeastSubcoalgebra.kp : Keeps := ⟨[], [], [(.slot 4, .unk (.ints .u8 (fun _ => 0)) 8)]⟩

noncomputable def spec_LeastSubcoalgebra.bd : Code := bodyOf Go.Proofs.Try.f44

noncomputable def spec_LeastSubcoalgebra.fin {ρ : Type} (N : Nat) (K : AV → Heap → Option ρ) : XE → St → Option ρ := finK (E26 N) spec_LeastSubcoalgebra.kp.fins Go.Proofs.Try.f44 [] K

theorem spec_LeastSubcoalgebra.eq {ρ : Type} (N : Nat) (K : AV → Heap → Option ρ) (c0 : Nat → Int) (c1 : Nat → Int) (v2 : Nat → Int) :
    xbody (E26 N) ents spec_LeastSubcoalgebra.kp N Go.Proofs.Try.f44 spec_LeastSubcoalgebra.bd [.agg [⟨.i64, 2, c0⟩, ⟨.u8, 520, c1⟩], .agg [⟨.u8, 8, v2⟩]] [] K = (spec_LeastSubcoalgebra N (fun d0 d1 d2 => K (.tup [.slice false 0 0 d0 .unk 8, .int .i64 (d1)]) [⟨true, .flat 0 (.ints .u8 d2)⟩]) c0 c1 v2) := by kernel_rfl

noncomputable def spec_LeastSubcoalgebra.en (N : Nat) (ρ : Type) : List AV → Heap → (AV → Heap → Option ρ) → Option ρ
  | [.agg [⟨.i64, 2, c0⟩, ⟨.u8, 520, c1⟩], .agg [⟨.u8, 8, v2⟩]], [], K => (spec_LeastSubcoalgebra N (fun d0 d1 d2 => K (.tup [.slice false 0 0 d0 .unk 8, .int .i64 (d1)]) [⟨true, .flat 0 (.ints .u8 d2)⟩]) c0 c1 v2)
  | _, _, _ => none

theorem spec_LeastSubcoalgebra.en_ok (N : Nat) (hE : EnvOk (E26 N) ents) (ρ : Type) (args : List AV) (sh : Heap) (K : AV → Heap → Option ρ) (r : ρ) (h : spec_LeastSubcoalgebra.en N ρ args sh K = some r) : ∃ v sh', K v sh' = some r ∧ FnOk (E26 N).P 44 args sh v sh' := by
  unfold spec_LeastSubcoalgebra.en at h
  split at h
  · exact fn_ok hE (kp := spec_LeastSubcoalgebra.kp) (N := N) Go.Proofs.Try.func44 (c := spec_LeastSubcoalgebra.bd) (by kernel_rfl) ((spec_LeastSubcoalgebra.eq N _ _ _ _).trans h)
  · cases h

noncomputable def E27 (N : Nat) : Env := (E26 N).add 44 (spec_LeastSubcoalgebra.en N)

theorem E27_ok (N : Nat) : EnvOk (E27 N) ents := Env.add_ok (E26_ok N) (spec_LeastSubcoalgebra.en_ok N (E26_ok N))

noncomputable def impl_IsPrime.kp : Keeps := ⟨[(0, [0, 3], [], [])], [(0, [], [], [])], []⟩

noncomputable def impl_IsPrime.bd : Code := bodyOf Go.Proofs.Try.f126

noncomputable def impl_IsPrime.fin {ρ : Type} (N : Nat) (K : AV → Heap → Option ρ) : XE → St → Option ρ := finK (E27 N) impl_IsPrime.kp.fins Go.Proofs.Try.f126 [] K

noncomputable def impl_IsPrime.k0 {ρ : Type} (N : Nat) (K : AV → Heap → Option ρ) : XE → St → Option ρ := (blockK impl_IsPrime.kp 0 0 (seqK (xcode (E27 N) ents impl_IsPrime.kp 0 N (cB (cB (cB impl_IsPrime.bd))) 0) (impl_IsPrime.fin N K)))

theorem impl_IsPrime.k0_mix {ρ : Type} (N : Nat) (K : AV → Heap → Option ρ) : mixK (impl_IsPrime.fin N K .ret) (impl_IsPrime.k0 N K) = (impl_IsPrime.k0 N K) := by
  funext e s; cases e <;> kernel_rfl

noncomputable def impl_IsPrime.st0 (p0 : Int) (k1 : Int) : St := ⟨sl 21 [(0, .int .i64 (p0)), (3, .int .i64 (k1))], []⟩

noncomputable def impl_IsPrime.sx0_0 : St := ⟨sl 21 [], []⟩

theorem impl_IsPrime.b0_gen {ρ : Type} (N : Nat) (K : AV → Heap → Option ρ) (L0 : St → Option ρ) (kv : XE → St → Option ρ) (p0 : Int) (k1 : Int) :
    xcode (E27 N) ents impl_IsPrime.kp 0 N (cL (cK (cB (cA (cB (cB impl_IsPrime.bd)))))) 0 (impl_IsPrime.st0 p0 k1) (roundK impl_IsPrime.kp 0 0 L0 (mixK (impl_IsPrime.fin N K .ret) kv)) = (impl_IsPrime.b0 N (fun d0 => K (.bool (d0)) []) (fun k1 => L0 (impl_IsPrime.st0 p0 k1)) (kv (.exit 0) (impl_IsPrime.sx0_0)) p0 k1) := by kernel_rfl

theorem impl_IsPrime.b0_eq {ρ : Type} (N : Nat) (K : AV → Heap → Option ρ) (L0 : St → Option ρ) (p0 : Int) (k1 : Int) :
    xcode (E27 N) ents impl_IsPrime.kp 0 N (cL (cK (cB (cA (cB (cB impl_IsPrime.bd)))))) 0 (impl_IsPrime.st0 p0 k1) (roundK impl_IsPrime.kp 0 0 L0 (impl_IsPrime.k0 N K)) = (impl_IsPrime.b0 N (fun d0 => K (.bool (d0)) []) (fun k1 => L0 (impl_IsPrime.st0 p0 k1)) ((impl_IsPrime.k0 N K) (.exit 0) (impl_IsPrime.sx0_0)) p0 k1) := by
  have h := impl_IsPrime.b0_gen N K L0 (impl_IsPrime.k0 N K) p0 k1
  rw [impl_IsPrime.k0_mix] at h
  exact h

theorem impl_IsPrime.a0_0_eq {ρ : Type} (N : Nat) (K : AV → Heap → Option ρ) :
    (impl_IsPrime.k0 N K) (.exit 0) (impl_IsPrime.sx0_0) = (impl_IsPrime.a0_0 N (fun d0 => K (.bool (d0)) [])) := by kernel_rfl

theorem impl_IsPrime.l0_eq {ρ : Type} (N : Nat) (K : AV → Heap → Option ρ) (p0 : Int) :
    ∀ (m : Nat) (k1 : Int), xloop (xcode (E27 N) ents impl_IsPrime.kp 0 N (cL (cK (cB (cA (cB (cB impl_IsPrime.bd)))))) 0) impl_IsPrime.kp 0 0 m (impl_IsPrime.st0 p0 k1) (impl_IsPrime.k0 N K) = (impl_IsPrime.l0 N (fun d0 => K (.bool (d0)) []) p0 ((impl_IsPrime.k0 N K) (.exit 0) (impl_IsPrime.sx0_0)) m k1) := by
  intro m
  induction m with
  | zero => intros; rfl
  | succ m ih =>
    intro k1
    refine (impl_IsPrime.b0_eq N K (fun s => xloop (xcode (E27 N) ents impl_IsPrime.kp 0 N (cL (cK (cB (cA (cB (cB impl_IsPrime.bd)))))) 0) impl_IsPrime.kp 0 0 m s (impl_IsPrime.k0 N K)) p0 k1).trans ?_
    simp only [ih]
    kernel_rfl

theorem impl_IsPrime.s_eq {ρ : Type} (N : Nat) (K : AV → Heap → Option ρ) (p0 : Int) :
    xbody (E27 N) ents impl_IsPrime.kp N Go.Proofs.Try.f126 impl_IsPrime.bd [.int .i64 (p0)] [] K = (impl_IsPrime.s N (fun d0 => K (.bool (d0)) []) (fun k1 => xloop (xcode (E27 N) ents impl_IsPrime.kp 0 N (cL (cK (cB (cA (cB (cB impl_IsPrime.bd)))))) 0) impl_IsPrime.kp 0 0 N (impl_IsPrime.st0 p0 k1) (impl_IsPrime.k0 N K)) p0) := by kernel_rfl

theorem impl_IsPrime.eq {ρ : Type} (N : Nat) (K : AV → Heap → Option ρ) (p0 : Int) :
    xbody (E27 N) ents impl_IsPrime.kp N Go.Proofs.Try.f126 impl_IsPrime.bd [.int .i64 (p0)] [] K = (impl_IsPrime N (fun d0 => K (.bool (d0)) []) p0) := by
  refine (impl_IsPrime.s_eq N K p0).trans ?_
  simp only [impl_IsPrime.l0_eq, impl_IsPrime.a0_0_eq]
  kernel_rfl

noncomputable def impl_IsPrime.en (N : Nat) (ρ : Type) : List AV → Heap → (AV → Heap → Option ρ) → Option ρ
  | [.int .i64 (p0)], [], K => (impl_IsPrime N (fun d0 => K (.bool (d0)) []) p0)
  | _, _, _ => none

theorem impl_IsPrime.en_ok (N : Nat) (hE : EnvOk (E27 N) ents) (ρ : Type) (args : List AV) (sh : Heap) (K : AV → Heap → Option ρ) (r : ρ) (h : impl_IsPrime.en N ρ args sh K = some r) : ∃ v sh', K v sh' = some r ∧ FnOk (E27 N).P 126 args sh v sh' := by
  unfold impl_IsPrime.en at h
  split at h
  · exact fn_ok hE (kp := impl_IsPrime.kp) (N := N) Go.Proofs.Try.func126 (c := impl_IsPrime.bd) (by kernel_rfl) ((impl_IsPrime.eq N _ _).trans h)
  · cases h

noncomputable def E28 (N : Nat) : Env := (E27 N).add 126 (impl_IsPrime.en N)

theorem E28_ok (N : Nat) : EnvOk (E28 N) ents := Env.add_ok (E27_ok N) (impl_IsPrime.en_ok N (E27_ok N))

noncomputable def impl_in.kp : Keeps := ⟨[], [], []⟩

noncomputable def impl_in.bd : Code := bodyOf Go.Proofs.Try.f127

noncomputable def impl_in.fin {ρ : Type} (N : Nat) (K : AV → Heap → Option ρ) : XE → St → Option ρ := finK (E28 N) impl_in.kp.fins Go.Proofs.Try.f127 [] K

theorem impl_in.eq {ρ : Type} (N : Nat) (K : AV → Heap → Option ρ) (x0 : Int) (least1 : Int) (most2 : Int) :
    xbody (E28 N) ents impl_in.kp N Go.Proofs.Try.f127 impl_in.bd [.int .i64 (x0), .int .i64 (least1), .int .i64 (most2)] [] K = (impl_in N (fun d0 => K (.bool (d0)) []) x0 least1 most2) := by kernel_rfl

noncomputable def impl_in.en (N : Nat) (ρ : Type) : List AV → Heap → (AV → Heap → Option ρ) → Option ρ
  | [.int .i64 (x0), .int .i64 (least1), .int .i64 (most2)], [], K => (impl_in N (fun d0 => K (.bool (d0)) []) x0 least1 most2)
  | _, _, _ => none

theorem impl_in.en_ok (N : Nat) (hE : EnvOk (E28 N) ents) (ρ : Type) (args : List AV) (sh : Heap) (K : AV → Heap → Option ρ) (r : ρ) (h : impl_in.en N ρ args sh K = some r) : ∃ v sh', K v sh' = some r ∧ FnOk (E28 N).P 127 args sh v sh' := by
  unfold impl_in.en at h
  split at h
  · exact fn_ok hE (kp := impl_in.kp) (N := N) Go.Proofs.Try.func127 (c := impl_in.bd) (by kernel_rfl) ((impl_in.eq N _ _ _ _).trans h)
  · cases h

noncomputable def E29 (N : Nat) : Env := (E28 N).add 127 (impl_in.en N)

theorem E29_ok (N : Nat) : EnvOk (E29 N) ents := Env.add_ok (E28_ok N) (impl_in.en_ok N (E28_ok N))

noncomputable def impl_IsVector.kp : Keeps := ⟨[(0, [0, 1, 17, 18], [], [])], [(0, [], [], [])], []⟩

noncomputable def impl_IsVector.bd : Code := bodyOf Go.Proofs.Try.f95

noncomputable def impl_IsVector.fin {ρ : Type} (N : Nat) (K : AV → Heap → Option ρ) : XE → St → Option ρ := finK (E29 N) impl_IsVector.kp.fins Go.Proofs.Try.f95 [] K

noncomputable def impl_IsVector.k0 {ρ : Type} (N : Nat) (K : AV → Heap → Option ρ) : XE → St → Option ρ := (blockK impl_IsVector.kp 0 0 (seqK (xcode (E29 N) ents impl_IsVector.kp 0 N (cB (cB (cB impl_IsVector.bd))) 0) (impl_IsVector.fin N K)))

theorem impl_IsVector.k0_mix {ρ : Type} (N : Nat) (K : AV → Heap → Option ρ) : mixK (impl_IsVector.fin N K .ret) (impl_IsVector.k0 N K) = (impl_IsVector.k0 N K) := by
  funext e s; cases e <;> kernel_rfl

noncomputable def impl_IsVector.st0 (p0 : Int) (nv1 : Int) (v2 : Nat → Int) (x5 : Int) : St := ⟨sl 36 [(0, .int .i64 (p0)), (1, .int .i64 (nv1)), (17, .agg [⟨.u8, 8, v2⟩]), (18, .int .i64 (x5))], []⟩

noncomputable def impl_IsVector.sx0_0 : St := ⟨sl 36 [], []⟩

theorem impl_IsVector.b0_gen {ρ : Type} (N : Nat) (K : AV → Heap → Option ρ) (L0 : St → Option ρ) (kv : XE → St → Option ρ) (p0 : Int) (nv1 : Int) (v2 : Nat → Int) (x5 : Int) :
    xcode (E29 N) ents impl_IsVector.kp 0 N (cL (cK (cB (cA (cB (cB impl_IsVector.bd)))))) 0 (impl_IsVector.st0 p0 nv1 v2 x5) (roundK impl_IsVector.kp 0 0 L0 (mixK (impl_IsVector.fin N K .ret) kv)) = (impl_IsVector.b0 N (fun d0 => K (.bool (d0)) []) (fun x5 => L0 (impl_IsVector.st0 p0 nv1 v2 x5)) (kv (.exit 0) (impl_IsVector.sx0_0)) p0 nv1 v2 x5) := by kernel_rfl

theorem impl_IsVector.b0_eq {ρ : Type} (N : Nat) (K : AV → Heap → Option ρ) (L0 : St → Option ρ) (p0 : Int) (nv1 : Int) (v2 : Nat → Int) (x5 : Int) :
    xcode (E29 N) ents impl_IsVector.kp 0 N (cL (cK (cB (cA (cB (cB impl_IsVector.bd)))))) 0 (impl_IsVector.st0 p0 nv1 v2 x5) (roundK impl_IsVector.kp 0 0 L0 (impl_IsVector.k0 N K)) = (impl_IsVector.b0 N (fun d0 => K (.bool (d0)) []) (fun x5 => L0 (impl_IsVector.st0 p0 nv1 v2 x5)) ((impl_IsVector.k0 N K) (.exit 0) (impl_IsVector.sx0_0)) p0 nv1 v2 x5) := by
  have h := impl_IsVector.b0_gen N K L0 (impl_IsVector.k0 N K) p0 nv1 v2 x5
  rw [impl_IsVector.k0_mix] at h
  exact h

theorem impl_IsVector.a0_0_eq {ρ : Type} (N : Nat) (K : AV → Heap → Option ρ) :
    (impl_IsVector.k0 N K) (.exit 0) (impl_IsVector.sx0_0) = (impl_IsVector.a0_0 N (fun d0 => K (.bool (d0)) [])) := by kernel_rfl

theorem impl_IsVector.l0_eq {ρ : Type} (N : Nat) (K : AV → Heap → Option ρ) (p0 : Int) (nv1 : Int) (v2 : Nat → Int) :
    ∀ (m : Nat) (x5 : Int), xloop (xcode (E29 N) ents impl_IsVector.kp 0 N (cL (cK (cB (cA (cB (cB impl_IsVector.bd)))))) 0) impl_IsVector.kp 0 0 m (impl_IsVector.st0 p0 nv1 v2 x5) (impl_IsVector.k0 N K) = (impl_IsVector.l0 N (fun d0 => K (.bool (d0)) []) p0 nv1 v2 ((impl_IsVector.k0 N K) (.exit 0) (impl_IsVector.sx0_0)) m x5) := by
  intro m
  induction m with
  | zero => intros; rfl
  | succ m ih =>
    intro x5
    refine (impl_IsVector.b0_eq N K (fun s => xloop (xcode (E29 N) ents impl_IsVector.kp 0 N (cL (cK (cB (cA (cB (cB impl_IsVector.bd)))))) 0) impl_IsVector.kp 0 0 m s (impl_IsVector.k0 N K)) p0 nv1 v2 x5).trans ?_
    simp only [ih]
    kernel_rfl

theorem impl_IsVector.s_eq {ρ : Type} (N : Nat) (K : AV → Heap → Option ρ) (p0 : Int) (nv1 : Int) (v2 : Nat → Int) :
    xbody (E29 N) ents impl_IsVector.kp N Go.Proofs.Try.f95 impl_IsVector.bd [.int .i64 (p0), .int .i64 (nv1), .agg [⟨.u8, 8, v2⟩]] [] K = (impl_IsVector.s N (fun d0 => K (.bool (d0)) []) (fun x5 => xloop (xcode (E29 N) ents impl_IsVector.kp 0 N (cL (cK (cB (cA (cB (cB impl_IsVector.bd)))))) 0) impl_IsVector.kp 0 0 N (impl_IsVector.st0 p0 nv1 v2 x5) (impl_IsVector.k0 N K)) p0 nv1) := by kernel_rfl

theorem impl_IsVector.eq {ρ : Type} (N : Nat) (K : AV → Heap → Option ρ) (p0 : Int) (nv1 : Int) (v2 : Nat → Int) :
    xbody (E29 N) ents impl_IsVector.kp N Go.Proofs.Try.f95 impl_IsVector.bd [.int .i64 (p0), .int .i64 (nv1), .agg [⟨.u8, 8, v2⟩]] [] K = (impl_IsVector N (fun d0 => K (.bool (d0)) []) p0 nv1 v2) := by
  refine (impl_IsVector.s_eq N K p0 nv1 v2).trans ?_
  simp only [impl_IsVector.l0_eq, impl_IsVector.a0_0_eq]
  kernel_rfl

noncomputable def impl_IsVector.en (N : Nat) (ρ : Type) : List AV → Heap → (AV → Heap → Option ρ) → Option ρ
  | [.int .i64 (p0), .int .i64 (nv1), .agg [⟨.u8, 8, v2⟩]], [], K => (impl_IsVector N (fun d0 => K (.bool (d0)) []) p0 nv1 v2)
  | _, _, _ => none

theorem impl_IsVector.en_ok (N : Nat) (hE : EnvOk (E29 N) ents) (ρ : Type) (args : List AV) (sh : Heap) (K : AV → Heap → Option ρ) (r : ρ) (h : impl_IsVector.en N ρ args sh K = some r) : ∃ v sh', K v sh' = some r ∧ FnOk (E29 N).P 95 args sh v sh' := by
  unfold impl_IsVector.en at h
  split at h
  · exact fn_ok hE (kp := impl_IsVector.kp) (N := N) Go.Proofs.Try.func95 (c := impl_IsVector.bd) (by kernel_rfl) ((impl_IsVector.eq N _ _ _ _).trans h)
  · cases h

noncomputable def E30 (N : Nat) : Env := (E29 N).add 95 (impl_IsVector.en N)

theorem E30_ok (N : Nat) : EnvOk (E30 N) ents := Env.add_ok (E29_ok N) (impl_IsVector.en_ok N (E29_ok N))

noncomputable def impl_isLinear.kp : Keeps := ⟨[(0, [0, 1, 2, 11, 12], [], [])], [(0, [], [], [])], []⟩

noncomputable def impl_isLinear.bd : Code := bodyOf Go.Proofs.Try.f111

noncomputable def impl_isLinear.fin {ρ : Type} (N : Nat) (K : AV → Heap → Option ρ) (gv3 : Nat → Int) : XE → St → Option ρ := finK (E30 N) impl_isLinear.kp.fins Go.Proofs.Try.f111 [⟨false, .flat 64 (.ints .u8 gv3)⟩] K

noncomputable def impl_isLinear.k0 {ρ : Type} (N : Nat) (K : AV → Heap → Option ρ) (gv3 : Nat → Int) : XE → St → Option ρ := (blockK impl_isLinear.kp 1 0 (seqK (xcode (E30 N) ents impl_isLinear.kp 1 N (cB (cB impl_isLinear.bd)) 0) (impl_isLinear.fin N K gv3)))

theorem impl_isLinear.k0_mix {ρ : Type} (N : Nat) (K : AV → Heap → Option ρ) (gv3 : Nat → Int) : mixK (impl_isLinear.fin N K gv3 .ret) (impl_isLinear.k0 N K gv3) = (impl_isLinear.k0 N K gv3) := by
  funext e s; cases e <;> kernel_rfl

noncomputable def impl_isLinear.st0 (p0 : Int) (nv1 : Int) (size2 : Int) (gv3 : Nat → Int) (x4 : Int) : St := ⟨sl 34 [(0, .int .i64 (p0)), (1, .int .i64 (nv1)), (2, .int .i64 (size2)), (11, .sptr [(0, 64)]), (12, .int .i64 (x4))], [⟨false, .flat 64 (.ints .u8 gv3)⟩]⟩

noncomputable def impl_isLinear.sx0_0 (gv3 : Nat → Int) : St := ⟨sl 34 [], [⟨false, .flat 64 (.ints .u8 gv3)⟩]⟩

theorem impl_isLinear.b0_gen {ρ : Type} (N : Nat) (K : AV → Heap → Option ρ) (L0 : St → Option ρ) (kv : XE → St → Option ρ) (p0 : Int) (nv1 : Int) (size2 : Int) (gv3 : Nat → Int) (x4 : Int) :
    xcode (E30 N) ents impl_isLinear.kp 1 N (cL (cK (cB (cA (cB impl_isLinear.bd))))) 0 (impl_isLinear.st0 p0 nv1 size2 gv3 x4) (roundK impl_isLinear.kp 1 0 L0 (mixK (impl_isLinear.fin N K gv3 .ret) kv)) = (impl_isLinear.b0 N (fun d0 => K (.bool (d0)) [⟨false, .flat 64 (.ints .u8 gv3)⟩]) (fun x4 => L0 (impl_isLinear.st0 p0 nv1 size2 gv3 x4)) (kv (.exit 0) (impl_isLinear.sx0_0 gv3)) p0 nv1 size2 gv3 x4) := by kernel_rfl

theorem impl_isLinear.b0_eq {ρ : Type} (N : Nat) (K : AV → Heap → Option ρ) (L0 : St → Option ρ) (p0 : Int) (nv1 : Int) (size2 : Int) (gv3 : Nat → Int) (x4 : Int) :
    xcode (E30 N) ents impl_isLinear.kp 1 N (cL (cK (cB (cA (cB impl_isLinear.bd))))) 0 (impl_isLinear.st0 p0 nv1 size2 gv3 x4) (roundK impl_isLinear.kp 1 0 L0 (impl_isLinear.k0 N K gv3)) = (impl_isLinear.b0 N (fun d0 => K (.bool (d0)) [⟨false, .flat 64 (.ints .u8 gv3)⟩]) (fun x4 => L0 (impl_isLinear.st0 p0 nv1 size2 gv3 x4)) ((impl_isLinear.k0 N K gv3) (.exit 0) (impl_isLinear.sx0_0 gv3)) p0 nv1 size2 gv3 x4) := by
  have h := impl_isLinear.b0_gen N K L0 (impl_isLinear.k0 N K gv3) p0 nv1 size2 gv3 x4
  rw [impl_isLinear.k0_mix] at h
  exact h

theorem impl_isLinear.a0_0_eq {ρ : Type} (N : Nat) (K : AV → Heap → Option ρ) (gv3 : Nat → Int) :
    (impl_isLinear.k0 N K gv3) (.exit 0) (impl_isLinear.sx0_0 gv3) = (impl_isLinear.a0_0 N (fun d0 => K (.bool (d0)) [⟨false, .flat 64 (.ints .u8 gv3)⟩])) := by kernel_rfl

theorem impl_isLinear.l0_eq {ρ : Type} (N : Nat) (K : AV → Heap → Option ρ) (p0 : Int) (nv1 : Int) (size2 : Int) (gv3 : Nat → Int) :
    ∀ (m : Nat) (x4 : Int), xloop (xcode (E30 N) ents impl_isLinear.kp 1 N (cL (cK (cB (cA (cB impl_isLinear.bd))))) 0) impl_isLinear.kp 1 0 m (impl_isLinear.st0 p0 nv1 size2 gv3 x4) (impl_isLinear.k0 N K gv3) = (impl_isLinear.l0 N (fun d0 => K (.bool (d0)) [⟨false, .flat 64 (.ints .u8 gv3)⟩]) p0 nv1 size2 gv3 ((impl_isLinear.k0 N K gv3) (.exit 0) (impl_isLinear.sx0_0 gv3)) m x4) := by
  intro m
  induction m with
  | zero => intros; rfl
  | succ m ih =>
    intro x4
    refine (impl_isLinear.b0_eq N K (fun s => xloop (xcode (E30 N) ents impl_isLinear.kp 1 N (cL (cK (cB (cA (cB impl_isLinear.bd))))) 0) impl_isLinear.kp 1 0 m s (impl_isLinear.k0 N K gv3)) p0 nv1 size2 gv3 x4).trans ?_
    simp only [ih]
    kernel_rfl

theorem impl_isLinear.s_eq {ρ : Type} (N : Nat) (K : AV → Heap → Option ρ) (p0 : Int) (nv1 : Int) (size2 : Int) (gv3 : Nat → Int) :
    xbody (E30 N) ents impl_isLinear.kp N Go.Proofs.Try.f111 impl_isLinear.bd [.int .i64 (p0), .int .i64 (nv1), .int .i64 (size2), .sptr [(0, 64)]] [⟨false, .flat 64 (.ints .u8 gv3)⟩] K = (impl_isLinear.s N (fun d0 => K (.bool (d0)) [⟨false, .flat 64 (.ints .u8 gv3)⟩]) (fun x4 => xloop (xcode (E30 N) ents impl_isLinear.kp 1 N (cL (cK (cB (cA (cB impl_isLinear.bd))))) 0) impl_isLinear.kp 1 0 N (impl_isLinear.st0 p0 nv1 size2 gv3 x4) (impl_isLinear.k0 N K gv3))) := by kernel_rfl

theorem impl_isLinear.eq {ρ : Type} (N : Nat) (K : AV → Heap → Option ρ) (p0 : Int) (nv1 : Int) (size2 : Int) (gv3 : Nat → Int) :
    xbody (E30 N) ents impl_isLinear.kp N Go.Proofs.Try.f111 impl_isLinear.bd [.int .i64 (p0), .int .i64 (nv1), .int .i64 (size2), .sptr [(0, 64)]] [⟨false, .flat 64 (.ints .u8 gv3)⟩] K = (impl_isLinear N (fun d0 => K (.bool (d0)) [⟨false, .flat 64 (.ints .u8 gv3)⟩]) p0 nv1 size2 gv3) := by
  refine (impl_isLinear.s_eq N K p0 nv1 size2 gv3).trans ?_
  simp only [impl_isLinear.l0_eq, impl_isLinear.a0_0_eq]
  kernel_rfl

noncomputable def impl_isLinear.en (N : Nat) (ρ : Type) : List AV → Heap → (AV → Heap → Option ρ) → Option ρ
  | [.int .i64 (p0), .int .i64 (nv1), .int .i64 (size2), .sptr [(0, 64)]], [⟨false, .flat 64 (.ints .u8 gv3)⟩], K => (impl_isLinear N (fun d0 => K (.bool (d0)) [⟨false, .flat 64 (.ints .u8 gv3)⟩]) p0 nv1 size2 gv3)
  | _, _, _ => none

theorem impl_isLinear.en_ok (N : Nat) (hE : EnvOk (E30 N) ents) (ρ : Type) (args : List AV) (sh : Heap) (K : AV → Heap → Option ρ) (r : ρ) (h : impl_isLinear.en N ρ args sh K = some r) : ∃ v sh', K v sh' = some r ∧ FnOk (E30 N).P 111 args sh v sh' := by
  unfold impl_isLinear.en at h
  split at h
  · exact fn_ok hE (kp := impl_isLinear.kp) (N := N) Go.Proofs.Try.func111 (c := impl_isLinear.bd) (by kernel_rfl) ((impl_isLinear.eq N _ _ _ _ _).trans h)
  · cases h

noncomputable def E31 (N : Nat) : Env := (E30 N).add 111 (impl_isLinear.en N)

theorem E31_ok (N : Nat) : EnvOk (E31 N) ents := Env.add_ok (E30_ok N) (impl_isLinear.en_ok N (E30_ok N))

noncomputable def impl_isTable.kp : Keeps := ⟨[(0, [0, 1, 2, 8], [], [])], [(0, [], [], [])], []⟩

noncomputable def impl_isTable.bd : Code := bodyOf Go.Proofs.Try.f96

noncomputable def impl_isTable.fin {ρ : Type} (N : Nat) (K : AV → Heap → Option ρ) (gv2 : Nat → Int) : XE → St → Option ρ := finK (E31 N) impl_isTable.kp.fins Go.Proofs.Try.f96 [⟨false, .flat 512 (.ints .u8 gv2)⟩] K

noncomputable def impl_isTable.k0 {ρ : Type} (N : Nat) (K : AV → Heap → Option ρ) (gv2 : Nat → Int) : XE → St → Option ρ := (blockK impl_isTable.kp 1 0 (seqK (xcode (E31 N) ents impl_isTable.kp 1 N (cB (cB impl_isTable.bd)) 0) (impl_isTable.fin N K gv2)))

theorem impl_isTable.k0_mix {ρ : Type} (N : Nat) (K : AV → Heap → Option ρ) (gv2 : Nat → Int) : mixK (impl_isTable.fin N K gv2 .ret) (impl_isTable.k0 N K gv2) = (impl_isTable.k0 N K gv2) := by
  funext e s; cases e <;> kernel_rfl

noncomputable def impl_isTable.st0 (p0 : Int) (nv1 : Int) (gv2 : Nat → Int) (x3 : Int) : St := ⟨sl 35 [(0, .int .i64 (p0)), (1, .int .i64 (nv1)), (2, .sptr [(0, 512)]), (8, .int .i64 (x3))], [⟨false, .flat 512 (.ints .u8 gv2)⟩]⟩

noncomputable def impl_isTable.sx0_0 (gv2 : Nat → Int) : St := ⟨sl 35 [], [⟨false, .flat 512 (.ints .u8 gv2)⟩]⟩

theorem impl_isTable.b0_gen {ρ : Type} (N : Nat) (K : AV → Heap → Option ρ) (L0 : St → Option ρ) (kv : XE → St → Option ρ) (p0 : Int) (nv1 : Int) (gv2 : Nat → Int) (x3 : Int) :
    xcode (E31 N) ents impl_isTable.kp 1 N (cL (cK (cB (cA (cB impl_isTable.bd))))) 0 (impl_isTable.st0 p0 nv1 gv2 x3) (roundK impl_isTable.kp 1 0 L0 (mixK (impl_isTable.fin N K gv2 .ret) kv)) = (impl_isTable.b0 N (fun d0 => K (.bool (d0)) [⟨false, .flat 512 (.ints .u8 gv2)⟩]) (fun x3 => L0 (impl_isTable.st0 p0 nv1 gv2 x3)) (kv (.exit 0) (impl_isTable.sx0_0 gv2)) p0 nv1 gv2 x3) := by kernel_rfl

theorem impl_isTable.b0_eq {ρ : Type} (N : Nat) (K : AV → Heap → Option ρ) (L0 : St → Option ρ) (p0 : Int) (nv1 : Int) (gv2 : Nat → Int) (x3 : Int) :
    xcode (E31 N) ents impl_isTable.kp 1 N (cL (cK (cB (cA (cB impl_isTable.bd))))) 0 (impl_isTable.st0 p0 nv1 gv2 x3) (roundK impl_isTable.kp 1 0 L0 (impl_isTable.k0 N K gv2)) = (impl_isTable.b0 N (fun d0 => K (.bool (d0)) [⟨false, .flat 512 (.ints .u8 gv2)⟩]) (fun x3 => L0 (impl_isTable.st0 p0 nv1 gv2 x3)) ((impl_isTable.k0 N K gv2) (.exit 0) (impl_isTable.sx0_0 gv2)) p0 nv1 gv2 x3) := by
  have h := impl_isTable.b0_gen N K L0 (impl_isTable.k0 N K gv2) p0 nv1 gv2 x3
  rw [impl_isTable.k0_mix] at h
  exact h

theorem impl_isTable.a0_0_eq {ρ : Type} (N : Nat) (K : AV → Heap → Option ρ) (gv2 : Nat → Int) :
    (impl_isTable.k0 N K gv2) (.exit 0) (impl_isTable.sx0_0 gv2) = (impl_isTable.a0_0 N (fun d0 => K (.bool (d0)) [⟨false, .flat 512 (.ints .u8 gv2)⟩])) := by kernel_rfl

theorem impl_isTable.l0_eq {ρ : Type} (N : Nat) (K : AV → Heap → Option ρ) (p0 : Int) (nv1 : Int) (gv2 : Nat → Int) :
    ∀ (m : Nat) (x3 : Int), xloop (xcode (E31 N) ents impl_isTable.kp 1 N (cL (cK (cB (cA (cB impl_isTable.bd))))) 0) impl_isTable.kp 1 0 m (impl_isTable.st0 p0 nv1 gv2 x3) (impl_isTable.k0 N K gv2) = (impl_isTable.l0 N (fun d0 => K (.bool (d0)) [⟨false, .flat 512 (.ints .u8 gv2)⟩]) p0 nv1 gv2 ((impl_isTable.k0 N K gv2) (.exit 0) (impl_isTable.sx0_0 gv2)) m x3) := by
  intro m
  induction m with
  | zero => intros; rfl
  | succ m ih =>
    intro x3
    refine (impl_isTable.b0_eq N K (fun s => xloop (xcode (E31 N) ents impl_isTable.kp 1 N (cL (cK (cB (cA (cB impl_isTable.bd))))) 0) impl_isTable.kp 1 0 m s (impl_isTable.k0 N K gv2)) p0 nv1 gv2 x3).trans ?_
    simp only [ih]
    kernel_rfl

theorem impl_isTable.s_eq {ρ : Type} (N : Nat) (K : AV → Heap → Option ρ) (p0 : Int) (nv1 : Int) (gv2 : Nat → Int) :
    xbody (E31 N) ents impl_isTable.kp N Go.Proofs.Try.f96 impl_isTable.bd [.int .i64 (p0), .int .i64 (nv1), .sptr [(0, 512)]] [⟨false, .flat 512 (.ints .u8 gv2)⟩] K = (impl_isTable.s N (fun d0 => K (.bool (d0)) [⟨false, .flat 512 (.ints .u8 gv2)⟩]) (fun x3 => xloop (xcode (E31 N) ents impl_isTable.kp 1 N (cL (cK (cB (cA (cB impl_isTable.bd))))) 0) impl_isTable.kp 1 0 N (impl_isTable.st0 p0 nv1 gv2 x3) (impl_isTable.k0 N K gv2))) := by kernel_rfl

theorem impl_isTable.eq {ρ : Type} (N : Nat) (K : AV → Heap → Option ρ) (p0 : Int) (nv1 : Int) (gv2 : Nat → Int) :
    xbody (E31 N) ents impl_isTable.kp N Go.Proofs.Try.f96 impl_isTable.bd [.int .i64 (p0), .int .i64 (nv1), .sptr [(0, 512)]] [⟨false, .flat 512 (.ints .u8 gv2)⟩] K = (impl_isTable N (fun d0 => K (.bool (d0)) [⟨false, .flat 512 (.ints .u8 gv2)⟩]) p0 nv1 gv2) := by
  refine (impl_isTable.s_eq N K p0 nv1 gv2).trans ?_
  simp only [impl_isTable.l0_eq, impl_isTable.a0_0_eq]
  kernel_rfl

noncomputable def impl_isTable.en (N : Nat) (ρ : Type) : List AV → Heap → (AV → Heap → Option ρ) → Option ρ
  | [.int .i64 (p0), .int .i64 (nv1), .sptr [(0, 512)]], [⟨false, .flat 512 (.ints .u8 gv2)⟩], K => (impl_isTable N (fun d0 => K (.bool (d0)) [⟨false, .flat 512 (.ints .u8 gv2)⟩]) p0 nv1 gv2)
  | _, _, _ => none

theorem impl_isTable.en_ok (N : Nat) (hE : EnvOk (E31 N) ents) (ρ : Type) (args : List AV) (sh : Heap) (K : AV → Heap → Option ρ) (r : ρ) (h : impl_isTable.en N ρ args sh K = some r) : ∃ v sh', K v sh' = some r ∧ FnOk (E31 N).P 96 args sh v sh' := by
  unfold impl_isTable.en at h
  split at h
  · exact fn_ok hE (kp := impl_isTable.kp) (N := N) Go.Proofs.Try.func96 (c := impl_isTable.bd) (by kernel_rfl) ((impl_isTable.eq N _ _ _ _).trans h)
  · cases h

noncomputable def E32 (N : Nat) : Env := (E31 N).add 96 (impl_isTable.en N)

theorem E32_ok (N : Nat) : EnvOk (E32 N) ents := Env.add_ok (E31_ok N) (impl_isTable.en_ok N (E31_ok N))

noncomputable def impl_Coalgebra_isShaped.kp : Keeps := ⟨[], [], []⟩

noncomputable def impl_Coalgebra_isShaped.bd : Code := bodyOf Go.Proofs.Try.f55

noncomputable def impl_Coalgebra_isShaped.fin {ρ : Type} (N : Nat) (K : AV → Heap → Option ρ) (gv0 : Nat → Int) (gv1 : Nat → Int) : XE → St → Option ρ := finK (E32 N) impl_Coalgebra_isShaped.kp.fins Go.Proofs.Try.f55 [⟨false, .flat 2 (.ints .i64 gv0)⟩, ⟨false, .flat 520 (.ints .u8 gv1)⟩] K

theorem impl_Coalgebra_isShaped.eq {ρ : Type} (N : Nat) (K : AV → Heap → Option ρ) (gv0 : Nat → Int) (gv1 : Nat → Int) :
    xbody (E32 N) ents impl_Coalgebra_isShaped.kp N Go.Proofs.Try.f55 impl_Coalgebra_isShaped.bd [.sptr [(0, 2), (1, 520)]] [⟨false, .flat 2 (.ints .i64 gv0)⟩, ⟨false, .flat 520 (.ints .u8 gv1)⟩] K = (impl_Coalgebra_isShaped N (fun d0 => K (.bool (d0)) [⟨false, .flat 2 (.ints .i64 gv0)⟩, ⟨false, .flat 520 (.ints .u8 gv1)⟩]) gv0 gv1) := by kernel_rfl

noncomputable def impl_Coalgebra_isShaped.en (N : Nat) (ρ : Type) : List AV → Heap → (AV → Heap → Option ρ) → Option ρ
  | [.sptr [(0, 2), (1, 520)]], [⟨false, .flat 2 (.ints .i64 gv0)⟩, ⟨false, .flat 520 (.ints .u8 gv1)⟩], K => (impl_Coalgebra_isShaped N (fun d0 => K (.bool (d0)) [⟨false, .flat 2 (.ints .i64 gv0)⟩, ⟨false, .flat 520 (.ints .u8 gv1)⟩]) gv0 gv1)
  | _, _, _ => none

theorem impl_Coalgebra_isShaped.en_ok (N : Nat) (hE : EnvOk (E32 N) ents) (ρ : Type) (args : List AV) (sh : Heap) (K : AV → Heap → Option ρ) (r : ρ) (h : impl_Coalgebra_isShaped.en N ρ args sh K = some r) : ∃ v sh', K v sh' = some r ∧ FnOk (E32 N).P 55 args sh v sh' := by
  unfold impl_Coalgebra_isShaped.en at h
  split at h
  · exact fn_ok hE (kp := impl_Coalgebra_isShaped.kp) (N := N) Go.Proofs.Try.func55 (c := impl_Coalgebra_isShaped.bd) (by kernel_rfl) ((impl_Coalgebra_isShaped.eq N _ _ _).trans h)
  · cases h

noncomputable def E33 (N : Nat) : Env := (E32 N).add 55 (impl_Coalgebra_isShaped.en N)

theorem E33_ok (N : Nat) : EnvOk (E33 N) ents := Env.add_ok (E32_ok N) (impl_Coalgebra_isShaped.en_ok N (E32_ok N))

noncomputable def impl_Coalgebra_field.kp : Keeps := ⟨[], [], []⟩

noncomputable def impl_Coalgebra_field.bd : Code := bodyOf Go.Proofs.Try.f64

noncomputable def impl_Coalgebra_field.fin {ρ : Type} (N : Nat) (K : AV → Heap → Option ρ) (gv0 : Nat → Int) (gv1 : Nat → Int) : XE → St → Option ρ := finK (E33 N) impl_Coalgebra_field.kp.fins Go.Proofs.Try.f64 [⟨false, .flat 2 (.ints .i64 gv0)⟩, ⟨false, .flat 520 (.ints .u8 gv1)⟩] K

theorem impl_Coalgebra_field.eq {ρ : Type} (N : Nat) (K : AV → Heap → Option ρ) (gv0 : Nat → Int) (gv1 : Nat → Int) :
    xbody (E33 N) ents impl_Coalgebra_field.kp N Go.Proofs.Try.f64 impl_Coalgebra_field.bd [.sptr [(0, 2), (1, 520)]] [⟨false, .flat 2 (.ints .i64 gv0)⟩, ⟨false, .flat 520 (.ints .u8 gv1)⟩] K = (impl_Coalgebra_field N (fun d0 => K (.agg [⟨.i64, 2, d0⟩]) [⟨false, .flat 2 (.ints .i64 gv0)⟩, ⟨false, .flat 520 (.ints .u8 gv1)⟩]) gv0 gv1) := by kernel_rfl

noncomputable def impl_Coalgebra_field.en (N : Nat) (ρ : Type) : List AV → Heap → (AV → Heap → Option ρ) → Option ρ
  | [.sptr [(0, 2), (1, 520)]], [⟨false, .flat 2 (.ints .i64 gv0)⟩, ⟨false, .flat 520 (.ints .u8 gv1)⟩], K => (impl_Coalgebra_field N (fun d0 => K (.agg [⟨.i64, 2, d0⟩]) [⟨false, .flat 2 (.ints .i64 gv0)⟩, ⟨false, .flat 520 (.ints .u8 gv1)⟩]) gv0 gv1)
  | _, _, _ => none

theorem impl_Coalgebra_field.en_ok (N : Nat) (hE : EnvOk (E33 N) ents) (ρ : Type) (args : List AV) (sh : Heap) (K : AV → Heap → Option ρ) (r : ρ) (h : impl_Coalgebra_field.en N ρ args sh K = some r) : ∃ v sh', K v sh' = some r ∧ FnOk (E33 N).P 64 args sh v sh' := by
  unfold impl_Coalgebra_field.en at h
  split at h
  · exact fn_ok hE (kp := impl_Coalgebra_field.kp) (N := N) Go.Proofs.Try.func64 (c := impl_Coalgebra_field.bd) (by kernel_rfl) ((impl_Coalgebra_field.eq N _ _ _).trans h)
  · cases h

noncomputable def E34 (N : Nat) : Env := (E33 N).add 64 (impl_Coalgebra_field.en N)

theorem E34_ok (N : Nat) : EnvOk (E34 N) ents := Env.add_ok (E33_ok N) (impl_Coalgebra_field.en_ok N (E33_ok N))

noncomputable def impl_field_mod.kp : Keeps := ⟨[], [], []⟩

noncomputable def impl_field_mod.bd : Code := bodyOf Go.Proofs.Try.f128

noncomputable def impl_field_mod.fin {ρ : Type} (N : Nat) (K : AV → Heap → Option ρ) : XE → St → Option ρ := finK (E34 N) impl_field_mod.kp.fins Go.Proofs.Try.f128 [] K

theorem impl_field_mod.eq {ρ : Type} (N : Nat) (K : AV → Heap → Option ρ) (f0 : Nat → Int) (x1 : Int) :
    xbody (E34 N) ents impl_field_mod.kp N Go.Proofs.Try.f128 impl_field_mod.bd [.agg [⟨.i64, 2, f0⟩], .int .i64 (x1)] [] K = (impl_field_mod N (fun d0 => K (.int .u8 (d0)) []) f0 x1) := by kernel_rfl

noncomputable def impl_field_mod.en (N : Nat) (ρ : Type) : List AV → Heap → (AV → Heap → Option ρ) → Option ρ
  | [.agg [⟨.i64, 2, f0⟩], .int .i64 (x1)], [], K => (impl_field_mod N (fun d0 => K (.int .u8 (d0)) []) f0 x1)
  | _, _, _ => none

theorem impl_field_mod.en_ok (N : Nat) (hE : EnvOk (E34 N) ents) (ρ : Type) (args : List AV) (sh : Heap) (K : AV → Heap → Option ρ) (r : ρ) (h : impl_field_mod.en N ρ args sh K = some r) : ∃ v sh', K v sh' = some r ∧ FnOk (E34 N).P 128 args sh v sh' := by
  unfold impl_field_mod.en at h
  split at h
  · exact fn_ok hE (kp := impl_field_mod.kp) (N := N) Go.Proofs.Try.func128 (c := impl_field_mod.bd) (by kernel_rfl) ((impl_field_mod.eq N _ _ _).trans h)
  · cases h

noncomputable def E35 (N : Nat) : Env := (E34 N).add 128 (impl_field_mod.en N)

theorem E35_ok (N : Nat) : EnvOk (E35 N) ents := Env.add_ok (E34_ok N) (impl_field_mod.en_ok N (E34_ok N))

noncomputable def impl_field_plus.kp : Keeps := ⟨[(0, [1, 2, 4, 12, 13], [], [])], [(0, [], [], [])], []⟩

noncomputable def impl_field_plus.bd : Code := bodyOf Go.Proofs.Try.f97

noncomputable def impl_field_plus.fin {ρ : Type} (N : Nat) (K : AV → Heap → Option ρ) (gv3 : Nat → Int) : XE → St → Option ρ := finK (E35 N) impl_field_plus.kp.fins Go.Proofs.Try.f97 [⟨true, .flat 8 (.ints .u8 gv3)⟩] K

noncomputable def impl_field_plus.k0 {ρ : Type} (N : Nat) (K : AV → Heap → Option ρ) (gv3 : Nat → Int) : XE → St → Option ρ := (blockK impl_field_plus.kp 1 0 (impl_field_plus.fin N K gv3))

theorem impl_field_plus.k0_mix {ρ : Type} (N : Nat) (K : AV → Heap → Option ρ) (gv3 : Nat → Int) : mixK (impl_field_plus.fin N K gv3 .ret) (impl_field_plus.k0 N K gv3) = (impl_field_plus.k0 N K gv3) := by
  funext e s; cases e <;> kernel_rfl

noncomputable def impl_field_plus.st0 (f0 : Nat → Int) (k1 : Int) (w2 : Nat → Int) (x4 : Int) (gv5 : Nat → Int) : St := ⟨sl 35 [(1, .sptr [(0, 8)]), (2, .int .i64 (k1)), (4, .sptr [(1, 2)]), (12, .agg [⟨.u8, 8, w2⟩]), (13, .int .i64 (x4))], [⟨true, .flat 8 (.ints .u8 gv5)⟩, ⟨true, .flat 2 (.ints .i64 f0)⟩]⟩

noncomputable def impl_field_plus.sx0_0 (ov7 : Nat → Int) : St := ⟨sl 35 [], [⟨true, .flat 8 (.ints .u8 ov7)⟩]⟩

theorem impl_field_plus.b0_gen {ρ : Type} (N : Nat) (K : AV → Heap → Option ρ) (L0 : St → Option ρ) (kv : XE → St → Option ρ) (f0 : Nat → Int) (k1 : Int) (w2 : Nat → Int) (gv3 : Nat → Int) (x4 : Int) (gv5 : Nat → Int) :
    xcode (E35 N) ents impl_field_plus.kp 1 N (cL (cK (cB (cB (cB impl_field_plus.bd))))) 0 (impl_field_plus.st0 f0 k1 w2 x4 gv5) (roundK impl_field_plus.kp 1 0 L0 (mixK (impl_field_plus.fin N K gv3 .ret) kv)) = (impl_field_plus.b0 N (fun d0 => K (.tup []) [⟨true, .flat 8 (.ints .u8 d0)⟩]) (fun x4 gv5 => L0 (impl_field_plus.st0 f0 k1 w2 x4 gv5)) (fun ov7 => kv (.exit 0) (impl_field_plus.sx0_0 ov7)) f0 k1 w2 x4 gv5) := by kernel_rfl

theorem impl_field_plus.b0_eq {ρ : Type} (N : Nat) (K : AV → Heap → Option ρ) (L0 : St → Option ρ) (f0 : Nat → Int) (k1 : Int) (w2 : Nat → Int) (gv3 : Nat → Int) (x4 : Int) (gv5 : Nat → Int) :
    xcode (E35 N) ents impl_field_plus.kp 1 N (cL (cK (cB (cB (cB impl_field_plus.bd))))) 0 (impl_field_plus.st0 f0 k1 w2 x4 gv5) (roundK impl_field_plus.kp 1 0 L0 (impl_field_plus.k0 N K gv3)) = (impl_field_plus.b0 N (fun d0 => K (.tup []) [⟨true, .flat 8 (.ints .u8 d0)⟩]) (fun x4 gv5 => L0 (impl_field_plus.st0 f0 k1 w2 x4 gv5)) (fun ov7 => (impl_field_plus.k0 N K gv3) (.exit 0) (impl_field_plus.sx0_0 ov7)) f0 k1 w2 x4 gv5) := by
  have h := impl_field_plus.b0_gen N K L0 (impl_field_plus.k0 N K gv3) f0 k1 w2 gv3 x4 gv5
  rw [impl_field_plus.k0_mix] at h
  exact h

theorem impl_field_plus.a0_0_eq {ρ : Type} (N : Nat) (K : AV → Heap → Option ρ) (gv3 : Nat → Int) (ov7 : Nat → Int) :
    (impl_field_plus.k0 N K gv3) (.exit 0) (impl_field_plus.sx0_0 ov7) = (impl_field_plus.a0_0 N (fun d0 => K (.tup []) [⟨true, .flat 8 (.ints .u8 d0)⟩]) ov7) := by kernel_rfl

theorem impl_field_plus.l0_eq {ρ : Type} (N : Nat) (K : AV → Heap → Option ρ) (f0 : Nat → Int) (k1 : Int) (w2 : Nat → Int) (gv3 : Nat → Int) :
    ∀ (m : Nat) (x4 : Int) (gv5 : Nat → Int), xloop (xcode (E35 N) ents impl_field_plus.kp 1 N (cL (cK (cB (cB (cB impl_field_plus.bd))))) 0) impl_field_plus.kp 1 0 m (impl_field_plus.st0 f0 k1 w2 x4 gv5) (impl_field_plus.k0 N K gv3) = (impl_field_plus.l0 N (fun d0 => K (.tup []) [⟨true, .flat 8 (.ints .u8 d0)⟩]) f0 k1 w2 (fun ov7 => (impl_field_plus.k0 N K gv3) (.exit 0) (impl_field_plus.sx0_0 ov7)) m x4 gv5) := by
  intro m
  induction m with
  | zero => intros; rfl
  | succ m ih =>
    intro x4 gv5
    refine (impl_field_plus.b0_eq N K (fun s => xloop (xcode (E35 N) ents impl_field_plus.kp 1 N (cL (cK (cB (cB (cB impl_field_plus.bd))))) 0) impl_field_plus.kp 1 0 m s (impl_field_plus.k0 N K gv3)) f0 k1 w2 gv3 x4 gv5).trans ?_
    simp only [ih]
    kernel_rfl

theorem impl_field_plus.s_eq {ρ : Type} (N : Nat) (K : AV → Heap → Option ρ) (f0 : Nat → Int) (k1 : Int) (w2 : Nat → Int) (gv3 : Nat → Int) :
    xbody (E35 N) ents impl_field_plus.kp N Go.Proofs.Try.f97 impl_field_plus.bd [.agg [⟨.i64, 2, f0⟩], .sptr [(0, 8)], .int .i64 (k1), .agg [⟨.u8, 8, w2⟩]] [⟨true, .flat 8 (.ints .u8 gv3)⟩] K = (impl_field_plus.s N (fun d0 => K (.tup []) [⟨true, .flat 8 (.ints .u8 d0)⟩]) (fun x4 gv5 => xloop (xcode (E35 N) ents impl_field_plus.kp 1 N (cL (cK (cB (cB (cB impl_field_plus.bd))))) 0) impl_field_plus.kp 1 0 N (impl_field_plus.st0 f0 k1 w2 x4 gv5) (impl_field_plus.k0 N K gv3)) k1 gv3) := by kernel_rfl

theorem impl_field_plus.eq {ρ : Type} (N : Nat) (K : AV → Heap → Option ρ) (f0 : Nat → Int) (k1 : Int) (w2 : Nat → Int) (gv3 : Nat → Int) :
    xbody (E35 N) ents impl_field_plus.kp N Go.Proofs.Try.f97 impl_field_plus.bd [.agg [⟨.i64, 2, f0⟩], .sptr [(0, 8)], .int .i64 (k1), .agg [⟨.u8, 8, w2⟩]] [⟨true, .flat 8 (.ints .u8 gv3)⟩] K = (impl_field_plus N (fun d0 => K (.tup []) [⟨true, .flat 8 (.ints .u8 d0)⟩]) f0 k1 w2 gv3) := by
  refine (impl_field_plus.s_eq N K f0 k1 w2 gv3).trans ?_
  simp only [impl_field_plus.l0_eq, impl_field_plus.a0_0_eq]
  kernel_rfl

noncomputable def impl_field_plus.en (N : Nat) (ρ : Type) : List AV → Heap → (AV → Heap → Option ρ) → Option ρ
  | [.agg [⟨.i64, 2, f0⟩], .sptr [(0, 8)], .int .i64 (k1), .agg [⟨.u8, 8, w2⟩]], [⟨true, .flat 8 (.ints .u8 gv3)⟩], K => (impl_field_plus N (fun d0 => K (.tup []) [⟨true, .flat 8 (.ints .u8 d0)⟩]) f0 k1 w2 gv3)
  | _, _, _ => none

theorem impl_field_plus.en_ok (N : Nat) (hE : EnvOk (E35 N) ents) (ρ : Type) (args : List AV) (sh : Heap) (K : AV → Heap → Option ρ) (r : ρ) (h : impl_field_plus.en N ρ args sh K = some r) : ∃ v sh', K v sh' = some r ∧ FnOk (E35 N).P 97 args sh v sh' := by
  unfold impl_field_plus.en at h
  split at h
  · exact fn_ok hE (kp := impl_field_plus.kp) (N := N) Go.Proofs.Try.func97 (c := impl_field_plus.bd) (by kernel_rfl) ((impl_field_plus.eq N _ _ _ _ _).trans h)
  · cases h

noncomputable def E36 (N : Nat) : Env := (E35 N).add 97 (impl_field_plus.en N)

theorem E36_ok (N : Nat) : EnvOk (E36 N) ents := Env.add_ok (E35_ok N) (impl_field_plus.en_ok N (E35_ok N))

noncomputable def impl_field_dot.kp : Keeps := ⟨[(0, [3, 5, 7, 10, 11], [], [])], [(0, [3, 7], [], [])], []⟩

noncomputable def impl_field_dot.bd : Code := bodyOf Go.Proofs.Try.f65

noncomputable def impl_field_dot.fin {ρ : Type} (N : Nat) (K : AV → Heap → Option ρ) : XE → St → Option ρ := finK (E36 N) impl_field_dot.kp.fins Go.Proofs.Try.f65 [] K

noncomputable def impl_field_dot.k0 {ρ : Type} (N : Nat) (K : AV → Heap → Option ρ) : XE → St → Option ρ := (blockK impl_field_dot.kp 0 0 (seqK (xcode (E36 N) ents impl_field_dot.kp 0 N (cB (cB (cB impl_field_dot.bd))) 0) (impl_field_dot.fin N K)))

theorem impl_field_dot.k0_mix {ρ : Type} (N : Nat) (K : AV → Heap → Option ρ) : mixK (impl_field_dot.fin N K .ret) (impl_field_dot.k0 N K) = (impl_field_dot.k0 N K) := by
  funext e s; cases e <;> kernel_rfl

noncomputable def impl_field_dot.st0 (f0 : Nat → Int) (v1 : Nat → Int) (w2 : Nat → Int) (outv3 : Int) (x4 : Int) : St := ⟨sl 29 [(3, .sptr [(0, 2)]), (5, .sptr [(1, 8)]), (7, .int .i64 (outv3)), (10, .agg [⟨.u8, 8, v1⟩]), (11, .int .i64 (x4))], [⟨true, .flat 2 (.ints .i64 f0)⟩, ⟨true, .flat 8 (.ints .u8 w2)⟩]⟩

noncomputable def impl_field_dot.sx0_0 (f0 : Nat → Int) (ov5 : Int) : St := ⟨sl 29 [(3, .sptr [(0, 2)]), (7, .int .i64 (ov5))], [⟨true, .flat 2 (.ints .i64 f0)⟩]⟩

theorem impl_field_dot.b0_gen {ρ : Type} (N : Nat) (K : AV → Heap → Option ρ) (L0 : St → Option ρ) (kv : XE → St → Option ρ) (f0 : Nat → Int) (v1 : Nat → Int) (w2 : Nat → Int) (outv3 : Int) (x4 : Int) :
    xcode (E36 N) ents impl_field_dot.kp 0 N (cL (cK (cB (cA (cB (cB impl_field_dot.bd)))))) 0 (impl_field_dot.st0 f0 v1 w2 outv3 x4) (roundK impl_field_dot.kp 0 0 L0 (mixK (impl_field_dot.fin N K .ret) kv)) = (impl_field_dot.b0 N (fun d0 => K (.int .i64 (d0)) []) (fun outv3 x4 => L0 (impl_field_dot.st0 f0 v1 w2 outv3 x4)) (fun ov5 => kv (.exit 0) (impl_field_dot.sx0_0 f0 ov5)) v1 w2 outv3 x4) := by kernel_rfl

theorem impl_field_dot.b0_eq {ρ : Type} (N : Nat) (K : AV → Heap → Option ρ) (L0 : St → Option ρ) (f0 : Nat → Int) (v1 : Nat → Int) (w2 : Nat → Int) (outv3 : Int) (x4 : Int) :
    xcode (E36 N) ents impl_field_dot.kp 0 N (cL (cK (cB (cA (cB (cB impl_field_dot.bd)))))) 0 (impl_field_dot.st0 f0 v1 w2 outv3 x4) (roundK impl_field_dot.kp 0 0 L0 (impl_field_dot.k0 N K)) = (impl_field_dot.b0 N (fun d0 => K (.int .i64 (d0)) []) (fun outv3 x4 => L0 (impl_field_dot.st0 f0 v1 w2 outv3 x4)) (fun ov5 => (impl_field_dot.k0 N K) (.exit 0) (impl_field_dot.sx0_0 f0 ov5)) v1 w2 outv3 x4) := by
  have h := impl_field_dot.b0_gen N K L0 (impl_field_dot.k0 N K) f0 v1 w2 outv3 x4
  rw [impl_field_dot.k0_mix] at h
  exact h

theorem impl_field_dot.a0_0_eq {ρ : Type} (N : Nat) (K : AV → Heap → Option ρ) (f0 : Nat → Int) (ov5 : Int) :
    (impl_field_dot.k0 N K) (.exit 0) (impl_field_dot.sx0_0 f0 ov5) = (impl_field_dot.a0_0 N (fun d0 => K (.int .i64 (d0)) []) f0 ov5) := by kernel_rfl

theorem impl_field_dot.l0_eq {ρ : Type} (N : Nat) (K : AV → Heap → Option ρ) (f0 : Nat → Int) (v1 : Nat → Int) (w2 : Nat → Int) :
    ∀ (m : Nat) (outv3 : Int) (x4 : Int), xloop (xcode (E36 N) ents impl_field_dot.kp 0 N (cL (cK (cB (cA (cB (cB impl_field_dot.bd)))))) 0) impl_field_dot.kp 0 0 m (impl_field_dot.st0 f0 v1 w2 outv3 x4) (impl_field_dot.k0 N K) = (impl_field_dot.l0 N (fun d0 => K (.int .i64 (d0)) []) v1 w2 (fun ov5 => (impl_field_dot.k0 N K) (.exit 0) (impl_field_dot.sx0_0 f0 ov5)) m outv3 x4) := by
  intro m
  induction m with
  | zero => intros; rfl
  | succ m ih =>
    intro outv3 x4
    refine (impl_field_dot.b0_eq N K (fun s => xloop (xcode (E36 N) ents impl_field_dot.kp 0 N (cL (cK (cB (cA (cB (cB impl_field_dot.bd)))))) 0) impl_field_dot.kp 0 0 m s (impl_field_dot.k0 N K)) f0 v1 w2 outv3 x4).trans ?_
    simp only [ih]
    kernel_rfl

theorem impl_field_dot.s_eq {ρ : Type} (N : Nat) (K : AV → Heap → Option ρ) (f0 : Nat → Int) (v1 : Nat → Int) (w2 : Nat → Int) :
    xbody (E36 N) ents impl_field_dot.kp N Go.Proofs.Try.f65 impl_field_dot.bd [.agg [⟨.i64, 2, f0⟩], .agg [⟨.u8, 8, v1⟩], .agg [⟨.u8, 8, w2⟩]] [] K = (impl_field_dot.s N (fun d0 => K (.int .i64 (d0)) []) (fun outv3 x4 => xloop (xcode (E36 N) ents impl_field_dot.kp 0 N (cL (cK (cB (cA (cB (cB impl_field_dot.bd)))))) 0) impl_field_dot.kp 0 0 N (impl_field_dot.st0 f0 v1 w2 outv3 x4) (impl_field_dot.k0 N K))) := by kernel_rfl

theorem impl_field_dot.eq {ρ : Type} (N : Nat) (K : AV → Heap → Option ρ) (f0 : Nat → Int) (v1 : Nat → Int) (w2 : Nat → Int) :
    xbody (E36 N) ents impl_field_dot.kp N Go.Proofs.Try.f65 impl_field_dot.bd [.agg [⟨.i64, 2, f0⟩], .agg [⟨.u8, 8, v1⟩], .agg [⟨.u8, 8, w2⟩]] [] K = (impl_field_dot N (fun d0 => K (.int .i64 (d0)) []) f0 v1 w2) := by
  refine (impl_field_dot.s_eq N K f0 v1 w2).trans ?_
  simp only [impl_field_dot.l0_eq, impl_field_dot.a0_0_eq]
  kernel_rfl

noncomputable def impl_field_dot.en (N : Nat) (ρ : Type) : List AV → Heap → (AV → Heap → Option ρ) → Option ρ
  | [.agg [⟨.i64, 2, f0⟩], .agg [⟨.u8, 8, v1⟩], .agg [⟨.u8, 8, w2⟩]], [], K => (impl_field_dot N (fun d0 => K (.int .i64 (d0)) []) f0 v1 w2)
  | _, _, _ => none

theorem impl_field_dot.en_ok (N : Nat) (hE : EnvOk (E36 N) ents) (ρ : Type) (args : List AV) (sh : Heap) (K : AV → Heap → Option ρ) (r : ρ) (h : impl_field_dot.en N ρ args sh K = some r) : ∃ v sh', K v sh' = some r ∧ FnOk (E36 N).P 65 args sh v sh' := by
  unfold impl_field_dot.en at h
  split at h
  · exact fn_ok hE (kp := impl_field_dot.kp) (N := N) Go.Proofs.Try.func65 (c := impl_field_dot.bd) (by kernel_rfl) ((impl_field_dot.eq N _ _ _ _).trans h)
  · cases h

noncomputable def E37 (N : Nat) : Env := (E36 N).add 65 (impl_field_dot.en N)

theorem E37_ok (N : Nat) : EnvOk (E37 N) ents := Env.add_ok (E36_ok N) (impl_field_dot.en_ok N (E36_ok N))

noncomputable def impl_basis.kp : Keeps := ⟨[], [], []⟩

noncomputable def impl_basis.bd : Code := bodyOf Go.Proofs.Try.f98

noncomputable def impl_basis.fin {ρ : Type} (N : Nat) (K : AV → Heap → Option ρ) : XE → St → Option ρ := finK (E37 N) impl_basis.kp.fins Go.Proofs.Try.f98 [] K

theorem impl_basis.eq {ρ : Type} (N : Nat) (K : AV → Heap → Option ρ) (i0 : Int) :
    xbody (E37 N) ents impl_basis.kp N Go.Proofs.Try.f98 impl_basis.bd [.int .i64 (i0)] [] K = (impl_basis N (fun d0 => K (.agg [⟨.u8, 8, d0⟩]) []) i0) := by kernel_rfl

noncomputable def impl_basis.en (N : Nat) (ρ : Type) : List AV → Heap → (AV → Heap → Option ρ) → Option ρ
  | [.int .i64 (i0)], [], K => (impl_basis N (fun d0 => K (.agg [⟨.u8, 8, d0⟩]) []) i0)
  | _, _, _ => none

theorem impl_basis.en_ok (N : Nat) (hE : EnvOk (E37 N) ents) (ρ : Type) (args : List AV) (sh : Heap) (K : AV → Heap → Option ρ) (r : ρ) (h : impl_basis.en N ρ args sh K = some r) : ∃ v sh', K v sh' = some r ∧ FnOk (E37 N).P 98 args sh v sh' := by
  unfold impl_basis.en at h
  split at h
  · exact fn_ok hE (kp := impl_basis.kp) (N := N) Go.Proofs.Try.func98 (c := impl_basis.bd) (by kernel_rfl) ((impl_basis.eq N _ _).trans h)
  · cases h

noncomputable def E38 (N : Nat) : Env := (E37 N).add 98 (impl_basis.en N)

theorem E38_ok (N : Nat) : EnvOk (E38 N) ents := Env.add_ok (E37_ok N) (impl_basis.en_ok N (E37_ok N))

noncomputable def impl_Coalgebra_isCounit.kp : Keeps := ⟨[(0, [0, 3, 11, 12], [], []), (2, [0, 3, 4, 5, 6, 11, 12, 18, 19], [], [])], [(0, [], [], []), (2, [0, 3, 4, 5, 6, 11, 12], [], [])], []⟩

noncomputable def impl_Coalgebra_isCounit.bd : Code := bodyOf Go.Proofs.Try.f56

noncomputable def impl_Coalgebra_isCounit.fin {ρ : Type} (N : Nat) (K : AV → Heap → Option ρ) (gv0 : Nat → Int) (gv1 : Nat → Int) : XE → St → Option ρ := finK (E38 N) impl_Coalgebra_isCounit.kp.fins Go.Proofs.Try.f56 [⟨false, .flat 2 (.ints .i64 gv0)⟩, ⟨false, .flat 520 (.ints .u8 gv1)⟩] K

noncomputable def impl_Coalgebra_isCounit.k0 {ρ : Type} (N : Nat) (K : AV → Heap → Option ρ) (gv0 : Nat → Int) (gv1 : Nat → Int) : XE → St → Option ρ := (blockK impl_Coalgebra_isCounit.kp 2 0 (seqK (xcode (E38 N) ents impl_Coalgebra_isCounit.kp 2 N (cB (cB (cB impl_Coalgebra_isCounit.bd))) 0) (impl_Coalgebra_isCounit.fin N K gv0 gv1)))

theorem impl_Coalgebra_isCounit.k0_mix {ρ : Type} (N : Nat) (K : AV → Heap → Option ρ) (gv0 : Nat → Int) (gv1 : Nat → Int) : mixK (impl_Coalgebra_isCounit.fin N K gv0 gv1 .ret) (impl_Coalgebra_isCounit.k0 N K gv0 gv1) = (impl_Coalgebra_isCounit.k0 N K gv0 gv1) := by
  funext e s; cases e <;> kernel_rfl

noncomputable def impl_Coalgebra_isCounit.st0 (gv0 : Nat → Int) (gv1 : Nat → Int) (rv2 : Nat → Int) (x3 : Int) : St := ⟨sl 68 [(0, .sptr [(0, 2), (1, 520)]), (3, .sptr [(2, 2)]), (11, .int .i64 ((rv2 1))), (12, .int .i64 (x3))], [⟨false, .flat 2 (.ints .i64 gv0)⟩, ⟨false, .flat 520 (.ints .u8 gv1)⟩, ⟨true, .flat 2 (.ints .i64 rv2)⟩]⟩

noncomputable def impl_Coalgebra_isCounit.sx0_0 (gv0 : Nat → Int) (gv1 : Nat → Int) : St := ⟨sl 68 [], [⟨false, .flat 2 (.ints .i64 gv0)⟩, ⟨false, .flat 520 (.ints .u8 gv1)⟩]⟩

noncomputable def impl_Coalgebra_isCounit.k1g {ρ : Type} (N : Nat) (L0 : St → Option ρ) (kv : XE → St → Option ρ) : XE → St → Option ρ := (blockK impl_Coalgebra_isCounit.kp 2 2 (seqK (xcode (E38 N) ents impl_Coalgebra_isCounit.kp 2 N (cB (cB (cB (cK (cA (cB (cB (cL (cK (cB (cA (cB (cB impl_Coalgebra_isCounit.bd))))))))))))) 1) (blockK impl_Coalgebra_isCounit.kp 2 1 (seqK (xcode (E38 N) ents impl_Coalgebra_isCounit.kp 2 N (cB (cB (cB (cL (cK (cB (cA (cB (cB impl_Coalgebra_isCounit.bd))))))))) 0) (roundK impl_Coalgebra_isCounit.kp 2 0 L0 kv)))))

theorem impl_Coalgebra_isCounit.k1_mix {ρ : Type} (N : Nat) (K : AV → Heap → Option ρ) (L0 : St → Option ρ) (gv0 : Nat → Int) (gv1 : Nat → Int) : mixK (impl_Coalgebra_isCounit.fin N K gv0 gv1 .ret) (impl_Coalgebra_isCounit.k1g N L0 (impl_Coalgebra_isCounit.k0 N K gv0 gv1)) = (impl_Coalgebra_isCounit.k1g N L0 (impl_Coalgebra_isCounit.k0 N K gv0 gv1)) := by
  funext e s; cases e <;> kernel_rfl

noncomputable def impl_Coalgebra_isCounit.st1 (gv0 : Nat → Int) (gv1 : Nat → Int) (rv2 : Nat → Int) (x3 : Int) (x4 : Int) (gv5 : Nat → Int) (gv6 : Nat → Int) : St := ⟨sl 68 [(0, .sptr [(0, 2), (1, 520)]), (3, .sptr [(2, 2)]), (4, .int .i64 (x3)), (5, .sptr [(3, 8)]), (6, .sptr [(4, 8)]), (11, .int .i64 ((rv2 1))), (12, .int .i64 (x3)), (18, .int .i64 ((rv2 1))), (19, .int .i64 (x4))], [⟨false, .flat 2 (.ints .i64 gv0)⟩, ⟨false, .flat 520 (.ints .u8 gv1)⟩, ⟨true, .flat 2 (.ints .i64 rv2)⟩, ⟨true, .flat 8 (.ints .u8 gv5)⟩, ⟨true, .flat 8 (.ints .u8 gv6)⟩]⟩

noncomputable def impl_Coalgebra_isCounit.sx1_0 (gv0 : Nat → Int) (gv1 : Nat → Int) (rv2 : Nat → Int) (x3 : Int) (ov9 : Nat → Int) (ov10 : Nat → Int) : St := ⟨sl 68 [(0, .sptr [(0, 2), (1, 520)]), (3, .sptr [(2, 2)]), (4, .int .i64 (x3)), (5, .sptr [(3, 8)]), (6, .sptr [(4, 8)]), (11, .int .i64 ((rv2 1))), (12, .int .i64 (x3))], [⟨false, .flat 2 (.ints .i64 gv0)⟩, ⟨false, .flat 520 (.ints .u8 gv1)⟩, ⟨true, .flat 2 (.ints .i64 rv2)⟩, ⟨true, .flat 8 (.ints .u8 ov9)⟩, ⟨true, .flat 8 (.ints .u8 ov10)⟩]⟩

theorem impl_Coalgebra_isCounit.b1_gen {ρ : Type} (N : Nat) (K : AV → Heap → Option ρ) (L1 : St → Option ρ) (kv : XE → St → Option ρ) (gv0 : Nat → Int) (gv1 : Nat → Int) (rv2 : Nat → Int) (x3 : Int) (x4 : Int) (gv5 : Nat → Int) (gv6 : Nat → Int) :
    xcode (E38 N) ents impl_Coalgebra_isCounit.kp 2 N (cL (cK (cB (cA (cB (cB (cK (cA (cB (cB (cL (cK (cB (cA (cB (cB impl_Coalgebra_isCounit.bd)))))))))))))))) 2 (impl_Coalgebra_isCounit.st1 gv0 gv1 rv2 x3 x4 gv5 gv6) (roundK impl_Coalgebra_isCounit.kp 2 2 L1 (mixK (impl_Coalgebra_isCounit.fin N K gv0 gv1 .ret) kv)) = (impl_Coalgebra_isCounit.b1 N (fun d0 => K (.bool (d0)) [⟨false, .flat 2 (.ints .i64 gv0)⟩, ⟨false, .flat 520 (.ints .u8 gv1)⟩]) (fun x4 gv5 gv6 => L1 (impl_Coalgebra_isCounit.st1 gv0 gv1 rv2 x3 x4 gv5 gv6)) (fun ov9 ov10 => kv (.exit 2) (impl_Coalgebra_isCounit.sx1_0 gv0 gv1 rv2 x3 ov9 ov10)) gv1 rv2 x3 x4 gv5 gv6) := by kernel_rfl

theorem impl_Coalgebra_isCounit.b1_eq {ρ : Type} (N : Nat) (K : AV → Heap → Option ρ) (L0 : St → Option ρ) (L1 : St → Option ρ) (gv0 : Nat → Int) (gv1 : Nat → Int) (rv2 : Nat → Int) (x3 : Int) (x4 : Int) (gv5 : Nat → Int) (gv6 : Nat → Int) :
    xcode (E38 N) ents impl_Coalgebra_isCounit.kp 2 N (cL (cK (cB (cA (cB (cB (cK (cA (cB (cB (cL (cK (cB (cA (cB (cB impl_Coalgebra_isCounit.bd)))))))))))))))) 2 (impl_Coalgebra_isCounit.st1 gv0 gv1 rv2 x3 x4 gv5 gv6) (roundK impl_Coalgebra_isCounit.kp 2 2 L1 (impl_Coalgebra_isCounit.k1g N L0 (impl_Coalgebra_isCounit.k0 N K gv0 gv1))) = (impl_Coalgebra_isCounit.b1 N (fun d0 => K (.bool (d0)) [⟨false, .flat 2 (.ints .i64 gv0)⟩, ⟨false, .flat 520 (.ints .u8 gv1)⟩]) (fun x4 gv5 gv6 => L1 (impl_Coalgebra_isCounit.st1 gv0 gv1 rv2 x3 x4 gv5 gv6)) (fun ov9 ov10 => (impl_Coalgebra_isCounit.k1g N L0 (impl_Coalgebra_isCounit.k0 N K gv0 gv1)) (.exit 2) (impl_Coalgebra_isCounit.sx1_0 gv0 gv1 rv2 x3 ov9 ov10)) gv1 rv2 x3 x4 gv5 gv6) := by
  have h := impl_Coalgebra_isCounit.b1_gen N K L1 (impl_Coalgebra_isCounit.k1g N L0 (impl_Coalgebra_isCounit.k0 N K gv0 gv1)) gv0 gv1 rv2 x3 x4 gv5 gv6
  rw [impl_Coalgebra_isCounit.k1_mix] at h
  exact h

theorem impl_Coalgebra_isCounit.a1_0_gen {ρ : Type} (N : Nat) (K : AV → Heap → Option ρ) (L0 : St → Option ρ) (kv : XE → St → Option ρ) (gv0 : Nat → Int) (gv1 : Nat → Int) (rv2 : Nat → Int) (x3 : Int) (ov9 : Nat → Int) (ov10 : Nat → Int) :
    (impl_Coalgebra_isCounit.k1g N L0 (mixK (impl_Coalgebra_isCounit.fin N K gv0 gv1 .ret) kv)) (.exit 2) (impl_Coalgebra_isCounit.sx1_0 gv0 gv1 rv2 x3 ov9 ov10) = (impl_Coalgebra_isCounit.a1_0 N (fun d0 => K (.bool (d0)) [⟨false, .flat 2 (.ints .i64 gv0)⟩, ⟨false, .flat 520 (.ints .u8 gv1)⟩]) (fun x3 => L0 (impl_Coalgebra_isCounit.st0 gv0 gv1 rv2 x3)) (kv (.exit 0) (impl_Coalgebra_isCounit.sx0_0 gv0 gv1)) x3 ov9 ov10) := by kernel_rfl

theorem impl_Coalgebra_isCounit.a1_0_eq {ρ : Type} (N : Nat) (K : AV → Heap → Option ρ) (L0 : St → Option ρ) (gv0 : Nat → Int) (gv1 : Nat → Int) (rv2 : Nat → Int) (x3 : Int) (ov9 : Nat → Int) (ov10 : Nat → Int) :
    (impl_Coalgebra_isCounit.k1g N L0 (impl_Coalgebra_isCounit.k0 N K gv0 gv1)) (.exit 2) (impl_Coalgebra_isCounit.sx1_0 gv0 gv1 rv2 x3 ov9 ov10) = (impl_Coalgebra_isCounit.a1_0 N (fun d0 => K (.bool (d0)) [⟨false, .flat 2 (.ints .i64 gv0)⟩, ⟨false, .flat 520 (.ints .u8 gv1)⟩]) (fun x3 => L0 (impl_Coalgebra_isCounit.st0 gv0 gv1 rv2 x3)) ((impl_Coalgebra_isCounit.k0 N K gv0 gv1) (.exit 0) (impl_Coalgebra_isCounit.sx0_0 gv0 gv1)) x3 ov9 ov10) := by
  have h := impl_Coalgebra_isCounit.a1_0_gen N K L0 (impl_Coalgebra_isCounit.k0 N K gv0 gv1) gv0 gv1 rv2 x3 ov9 ov10
  rw [impl_Coalgebra_isCounit.k0_mix] at h
  exact h

theorem impl_Coalgebra_isCounit.b0_gen {ρ : Type} (N : Nat) (K : AV → Heap → Option ρ) (L0 : St → Option ρ) (kv : XE → St → Option ρ) (gv0 : Nat → Int) (gv1 : Nat → Int) (rv2 : Nat → Int) (x3 : Int) :
    xcode (E38 N) ents impl_Coalgebra_isCounit.kp 2 N (cL (cK (cB (cA (cB (cB impl_Coalgebra_isCounit.bd)))))) 0 (impl_Coalgebra_isCounit.st0 gv0 gv1 rv2 x3) (roundK impl_Coalgebra_isCounit.kp 2 0 L0 (mixK (impl_Coalgebra_isCounit.fin N K gv0 gv1 .ret) kv)) = (impl_Coalgebra_isCounit.b0 N (fun d0 => K (.bool (d0)) [⟨false, .flat 2 (.ints .i64 gv0)⟩, ⟨false, .flat 520 (.ints .u8 gv1)⟩]) (fun x4 gv5 gv6 => xloop (xcode (E38 N) ents impl_Coalgebra_isCounit.kp 2 N (cL (cK (cB (cA (cB (cB (cK (cA (cB (cB (cL (cK (cB (cA (cB (cB impl_Coalgebra_isCounit.bd)))))))))))))))) 2) impl_Coalgebra_isCounit.kp 2 2 N (impl_Coalgebra_isCounit.st1 gv0 gv1 rv2 x3 x4 gv5 gv6) (impl_Coalgebra_isCounit.k1g N L0 (mixK (impl_Coalgebra_isCounit.fin N K gv0 gv1 .ret) kv))) (fun x3 => L0 (impl_Coalgebra_isCounit.st0 gv0 gv1 rv2 x3)) (kv (.exit 0) (impl_Coalgebra_isCounit.sx0_0 gv0 gv1)) rv2 x3) := by kernel_rfl

theorem impl_Coalgebra_isCounit.b0_eq {ρ : Type} (N : Nat) (K : AV → Heap → Option ρ) (L0 : St → Option ρ) (gv0 : Nat → Int) (gv1 : Nat → Int) (rv2 : Nat → Int) (x3 : Int) :
    xcode (E38 N) ents impl_Coalgebra_isCounit.kp 2 N (cL (cK (cB (cA (cB (cB impl_Coalgebra_isCounit.bd)))))) 0 (impl_Coalgebra_isCounit.st0 gv0 gv1 rv2 x3) (roundK impl_Coalgebra_isCounit.kp 2 0 L0 (impl_Coalgebra_isCounit.k0 N K gv0 gv1)) = (impl_Coalgebra_isCounit.b0 N (fun d0 => K (.bool (d0)) [⟨false, .flat 2 (.ints .i64 gv0)⟩, ⟨false, .flat 520 (.ints .u8 gv1)⟩]) (fun x4 gv5 gv6 => xloop (xcode (E38 N) ents impl_Coalgebra_isCounit.kp 2 N (cL (cK (cB (cA (cB (cB (cK (cA (cB (cB (cL (cK (cB (cA (cB (cB impl_Coalgebra_isCounit.bd)))))))))))))))) 2) impl_Coalgebra_isCounit.kp 2 2 N (impl_Coalgebra_isCounit.st1 gv0 gv1 rv2 x3 x4 gv5 gv6) (impl_Coalgebra_isCounit.k1g N L0 (impl_Coalgebra_isCounit.k0 N K gv0 gv1))) (fun x3 => L0 (impl_Coalgebra_isCounit.st0 gv0 gv1 rv2 x3)) ((impl_Coalgebra_isCounit.k0 N K gv0 gv1) (.exit 0) (impl_Coalgebra_isCounit.sx0_0 gv0 gv1)) rv2 x3) := by
  have h := impl_Coalgebra_isCounit.b0_gen N K L0 (impl_Coalgebra_isCounit.k0 N K gv0 gv1) gv0 gv1 rv2 x3
  rw [impl_Coalgebra_isCounit.k0_mix] at h
  exact h

theorem impl_Coalgebra_isCounit.a0_0_eq {ρ : Type} (N : Nat) (K : AV → Heap → Option ρ) (gv0 : Nat → Int) (gv1 : Nat → Int) :
    (impl_Coalgebra_isCounit.k0 N K gv0 gv1) (.exit 0) (impl_Coalgebra_isCounit.sx0_0 gv0 gv1) = (impl_Coalgebra_isCounit.a0_0 N (fun d0 => K (.bool (d0)) [⟨false, .flat 2 (.ints .i64 gv0)⟩, ⟨false, .flat 520 (.ints .u8 gv1)⟩])) := by kernel_rfl

theorem impl_Coalgebra_isCounit.l1_eq {ρ : Type} (N : Nat) (K : AV → Heap → Option ρ) (L0 : St → Option ρ) (gv0 : Nat → Int) (gv1 : Nat → Int) (rv2 : Nat → Int) (x3 : Int) :
    ∀ (m : Nat) (x4 : Int) (gv5 : Nat → Int) (gv6 : Nat → Int), xloop (xcode (E38 N) ents impl_Coalgebra_isCounit.kp 2 N (cL (cK (cB (cA (cB (cB (cK (cA (cB (cB (cL (cK (cB (cA (cB (cB impl_Coalgebra_isCounit.bd)))))))))))))))) 2) impl_Coalgebra_isCounit.kp 2 2 m (impl_Coalgebra_isCounit.st1 gv0 gv1 rv2 x3 x4 gv5 gv6) (impl_Coalgebra_isCounit.k1g N L0 (impl_Coalgebra_isCounit.k0 N K gv0 gv1)) = (impl_Coalgebra_isCounit.l1 N (fun d0 => K (.bool (d0)) [⟨false, .flat 2 (.ints .i64 gv0)⟩, ⟨false, .flat 520 (.ints .u8 gv1)⟩]) gv1 rv2 x3 (fun ov9 ov10 => (impl_Coalgebra_isCounit.k1g N L0 (impl_Coalgebra_isCounit.k0 N K gv0 gv1)) (.exit 2) (impl_Coalgebra_isCounit.sx1_0 gv0 gv1 rv2 x3 ov9 ov10)) m x4 gv5 gv6) := by
  intro m
  induction m with
  | zero => intros; rfl
  | succ m ih =>
    intro x4 gv5 gv6
    refine (impl_Coalgebra_isCounit.b1_eq N K L0 (fun s => xloop (xcode (E38 N) ents impl_Coalgebra_isCounit.kp 2 N (cL (cK (cB (cA (cB (cB (cK (cA (cB (cB (cL (cK (cB (cA (cB (cB impl_Coalgebra_isCounit.bd)))))))))))))))) 2) impl_Coalgebra_isCounit.kp 2 2 m s (impl_Coalgebra_isCounit.k1g N L0 (impl_Coalgebra_isCounit.k0 N K gv0 gv1))) gv0 gv1 rv2 x3 x4 gv5 gv6).trans ?_
    simp only [ih]
    kernel_rfl

theorem impl_Coalgebra_isCounit.l0_eq {ρ : Type} (N : Nat) (K : AV → Heap → Option ρ) (gv0 : Nat → Int) (gv1 : Nat → Int) (rv2 : Nat → Int) :
    ∀ (m : Nat) (x3 : Int), xloop (xcode (E38 N) ents impl_Coalgebra_isCounit.kp 2 N (cL (cK (cB (cA (cB (cB impl_Coalgebra_isCounit.bd)))))) 0) impl_Coalgebra_isCounit.kp 2 0 m (impl_Coalgebra_isCounit.st0 gv0 gv1 rv2 x3) (impl_Coalgebra_isCounit.k0 N K gv0 gv1) = (impl_Coalgebra_isCounit.l0 N (fun d0 => K (.bool (d0)) [⟨false, .flat 2 (.ints .i64 gv0)⟩, ⟨false, .flat 520 (.ints .u8 gv1)⟩]) gv1 rv2 ((impl_Coalgebra_isCounit.k0 N K gv0 gv1) (.exit 0) (impl_Coalgebra_isCounit.sx0_0 gv0 gv1)) m x3) := by
  intro m
  induction m with
  | zero => intros; rfl
  | succ m ih =>
    intro x3
    refine (impl_Coalgebra_isCounit.b0_eq N K (fun s => xloop (xcode (E38 N) ents impl_Coalgebra_isCounit.kp 2 N (cL (cK (cB (cA (cB (cB impl_Coalgebra_isCounit.bd)))))) 0) impl_Coalgebra_isCounit.kp 2 0 m s (impl_Coalgebra_isCounit.k0 N K gv0 gv1)) gv0 gv1 rv2 x3).trans ?_
    simp only [ih, impl_Coalgebra_isCounit.l1_eq, impl_Coalgebra_isCounit.a1_0_eq]
    kernel_rfl

theorem impl_Coalgebra_isCounit.s_eq {ρ : Type} (N : Nat) (K : AV → Heap → Option ρ) (gv0 : Nat → Int) (gv1 : Nat → Int) :
    xbody (E38 N) ents impl_Coalgebra_isCounit.kp N Go.Proofs.Try.f56 impl_Coalgebra_isCounit.bd [.sptr [(0, 2), (1, 520)]] [⟨false, .flat 2 (.ints .i64 gv0)⟩, ⟨false, .flat 520 (.ints .u8 gv1)⟩] K = (impl_Coalgebra_isCounit.s N (fun d0 => K (.bool (d0)) [⟨false, .flat 2 (.ints .i64 gv0)⟩, ⟨false, .flat 520 (.ints .u8 gv1)⟩]) (fun rv2 x3 => xloop (xcode (E38 N) ents impl_Coalgebra_isCounit.kp 2 N (cL (cK (cB (cA (cB (cB impl_Coalgebra_isCounit.bd)))))) 0) impl_Coalgebra_isCounit.kp 2 0 N (impl_Coalgebra_isCounit.st0 gv0 gv1 rv2 x3) (impl_Coalgebra_isCounit.k0 N K gv0 gv1)) gv0 gv1) := by kernel_rfl

theorem impl_Coalgebra_isCounit.eq {ρ : Type} (N : Nat) (K : AV → Heap → Option ρ) (gv0 : Nat → Int) (gv1 : Nat → Int) :
    xbody (E38 N) ents impl_Coalgebra_isCounit.kp N Go.Proofs.Try.f56 impl_Coalgebra_isCounit.bd [.sptr [(0, 2), (1, 520)]] [⟨false, .flat 2 (.ints .i64 gv0)⟩, ⟨false, .flat 520 (.ints .u8 gv1)⟩] K = (impl_Coalgebra_isCounit N (fun d0 => K (.bool (d0)) [⟨false, .flat 2 (.ints .i64 gv0)⟩, ⟨false, .flat 520 (.ints .u8 gv1)⟩]) gv0 gv1) := by
  refine (impl_Coalgebra_isCounit.s_eq N K gv0 gv1).trans ?_
  simp only [impl_Coalgebra_isCounit.l0_eq, impl_Coalgebra_isCounit.a0_0_eq]
  kernel_rfl

noncomputable def impl_Coalgebra_isCounit.en (N : Nat) (ρ : Type) : List AV → Heap → (AV → Heap → Option ρ) → Option ρ
  | [.sptr [(0, 2), (1, 520)]], [⟨false, .flat 2 (.ints .i64 gv0)⟩, ⟨false, .flat 520 (.ints .u8 gv1)⟩], K => (impl_Coalgebra_isCounit N (fun d0 => K (.bool (d0)) [⟨false, .flat 2 (.ints .i64 gv0)⟩, ⟨false, .flat 520 (.ints .u8 gv1)⟩]) gv0 gv1)
  | _, _, _ => none

theorem impl_Coalgebra_isCounit.en_ok (N : Nat) (hE : EnvOk (E38 N) ents) (ρ : Type) (args : List AV) (sh : Heap) (K : AV → Heap → Option ρ) (r : ρ) (h : impl_Coalgebra_isCounit.en N ρ args sh K = some r) : ∃ v sh', K v sh' = some r ∧ FnOk (E38 N).P 56 args sh v sh' := by
  unfold impl_Coalgebra_isCounit.en at h
  split at h
  · exact fn_ok hE (kp := impl_Coalgebra_isCounit.kp) (N := N) Go.Proofs.Try.func56 (c := impl_Coalgebra_isCounit.bd) (by kernel_rfl) ((impl_Coalgebra_isCounit.eq N _ _ _).trans h)
  · cases h

noncomputable def E39 (N : Nat) : Env := (E38 N).add 56 (impl_Coalgebra_isCounit.en N)

theorem E39_ok (N : Nat) : EnvOk (E39 N) ents := Env.add_ok (E38_ok N) (impl_Coalgebra_isCounit.en_ok N (E38_ok N))

noncomputable def impl_Coalgebra_isFault.kp : Keeps := ⟨[(0, [0, 1, 2, 3, 4, 11, 12, 13, 18, 19], [], [])], [(0, [11, 12, 13], [], [])], []⟩

noncomputable def impl_Coalgebra_isFault.bd : Code := bodyOf Go.Proofs.Try.f99

noncomputable def impl_Coalgebra_isFault.fin {ρ : Type} (N : Nat) (K : AV → Heap → Option ρ) (gv4 : Nat → Int) (gv5 : Nat → Int) : XE → St → Option ρ := finK (E39 N) impl_Coalgebra_isFault.kp.fins Go.Proofs.Try.f99 [⟨false, .flat 2 (.ints .i64 gv4)⟩, ⟨false, .flat 520 (.ints .u8 gv5)⟩] K

noncomputable def impl_Coalgebra_isFault.k0 {ρ : Type} (N : Nat) (K : AV → Heap → Option ρ) (gv4 : Nat → Int) (gv5 : Nat → Int) : XE → St → Option ρ := (blockK impl_Coalgebra_isFault.kp 2 0 (seqK (xcode (E39 N) ents impl_Coalgebra_isFault.kp 2 N (cB (cB (cB impl_Coalgebra_isFault.bd))) 0) (impl_Coalgebra_isFault.fin N K gv4 gv5)))

theorem impl_Coalgebra_isFault.k0_mix {ρ : Type} (N : Nat) (K : AV → Heap → Option ρ) (gv4 : Nat → Int) (gv5 : Nat → Int) : mixK (impl_Coalgebra_isFault.fin N K gv4 gv5 .ret) (impl_Coalgebra_isFault.k0 N K gv4 gv5) = (impl_Coalgebra_isFault.k0 N K gv4 gv5) := by
  funext e s; cases e <;> kernel_rfl

noncomputable def impl_Coalgebra_isFault.st0 (i0 : Int) (j1 : Int) (k2 : Int) (lv3 : Int) (gv4 : Nat → Int) (gv5 : Nat → Int) (rv6 : Nat → Int) (one7 : Int) (two8 : Int) (x9 : Int) : St := ⟨sl 82 [(0, .sptr [(0, 2), (1, 520)]), (1, .int .i64 (i0)), (2, .int .i64 (j1)), (3, .int .i64 (k2)), (4, .int .i64 (lv3)), (11, .sptr [(2, 2)]), (12, .int .i64 (one7)), (13, .int .i64 (two8)), (18, .int .i64 ((rv6 1))), (19, .int .i64 (x9))], [⟨false, .flat 2 (.ints .i64 gv4)⟩, ⟨false, .flat 520 (.ints .u8 gv5)⟩, ⟨true, .flat 2 (.ints .i64 rv6)⟩]⟩

noncomputable def impl_Coalgebra_isFault.sx0_0 (gv4 : Nat → Int) (gv5 : Nat → Int) (rv6 : Nat → Int) (ov10 : Int) (ov11 : Int) : St := ⟨sl 82 [(11, .sptr [(2, 2)]), (12, .int .i64 (ov10)), (13, .int .i64 (ov11))], [⟨false, .flat 2 (.ints .i64 gv4)⟩, ⟨false, .flat 520 (.ints .u8 gv5)⟩, ⟨true, .flat 2 (.ints .i64 rv6)⟩]⟩

theorem impl_Coalgebra_isFault.b0_gen {ρ : Type} (N : Nat) (K : AV → Heap → Option ρ) (L0 : St → Option ρ) (kv : XE → St → Option ρ) (i0 : Int) (j1 : Int) (k2 : Int) (lv3 : Int) (gv4 : Nat → Int) (gv5 : Nat → Int) (rv6 : Nat → Int) (one7 : Int) (two8 : Int) (x9 : Int) :
    xcode (E39 N) ents impl_Coalgebra_isFault.kp 2 N (cL (cK (cB (cA (cB (cB impl_Coalgebra_isFault.bd)))))) 0 (impl_Coalgebra_isFault.st0 i0 j1 k2 lv3 gv4 gv5 rv6 one7 two8 x9) (roundK impl_Coalgebra_isFault.kp 2 0 L0 (mixK (impl_Coalgebra_isFault.fin N K gv4 gv5 .ret) kv)) = (impl_Coalgebra_isFault.b0 N (fun d0 => K (.bool (d0)) [⟨false, .flat 2 (.ints .i64 gv4)⟩, ⟨false, .flat 520 (.ints .u8 gv5)⟩]) (fun one7 two8 x9 => L0 (impl_Coalgebra_isFault.st0 i0 j1 k2 lv3 gv4 gv5 rv6 one7 two8 x9)) (fun ov10 ov11 => kv (.exit 0) (impl_Coalgebra_isFault.sx0_0 gv4 gv5 rv6 ov10 ov11)) i0 j1 k2 lv3 gv5 rv6 one7 two8 x9) := by kernel_rfl

theorem impl_Coalgebra_isFault.b0_eq {ρ : Type} (N : Nat) (K : AV → Heap → Option ρ) (L0 : St → Option ρ) (i0 : Int) (j1 : Int) (k2 : Int) (lv3 : Int) (gv4 : Nat → Int) (gv5 : Nat → Int) (rv6 : Nat → Int) (one7 : Int) (two8 : Int) (x9 : Int) :
    xcode (E39 N) ents impl_Coalgebra_isFault.kp 2 N (cL (cK (cB (cA (cB (cB impl_Coalgebra_isFault.bd)))))) 0 (impl_Coalgebra_isFault.st0 i0 j1 k2 lv3 gv4 gv5 rv6 one7 two8 x9) (roundK impl_Coalgebra_isFault.kp 2 0 L0 (impl_Coalgebra_isFault.k0 N K gv4 gv5)) = (impl_Coalgebra_isFault.b0 N (fun d0 => K (.bool (d0)) [⟨false, .flat 2 (.ints .i64 gv4)⟩, ⟨false, .flat 520 (.ints .u8 gv5)⟩]) (fun one7 two8 x9 => L0 (impl_Coalgebra_isFault.st0 i0 j1 k2 lv3 gv4 gv5 rv6 one7 two8 x9)) (fun ov10 ov11 => (impl_Coalgebra_isFault.k0 N K gv4 gv5) (.exit 0) (impl_Coalgebra_isFault.sx0_0 gv4 gv5 rv6 ov10 ov11)) i0 j1 k2 lv3 gv5 rv6 one7 two8 x9) := by
  have h := impl_Coalgebra_isFault.b0_gen N K L0 (impl_Coalgebra_isFault.k0 N K gv4 gv5) i0 j1 k2 lv3 gv4 gv5 rv6 one7 two8 x9
  rw [impl_Coalgebra_isFault.k0_mix] at h
  exact h

theorem impl_Coalgebra_isFault.a0_0_eq {ρ : Type} (N : Nat) (K : AV → Heap → Option ρ) (gv4 : Nat → Int) (gv5 : Nat → Int) (rv6 : Nat → Int) (ov10 : Int) (ov11 : Int) :
    (impl_Coalgebra_isFault.k0 N K gv4 gv5) (.exit 0) (impl_Coalgebra_isFault.sx0_0 gv4 gv5 rv6 ov10 ov11) = (impl_Coalgebra_isFault.a0_0 N (fun d0 => K (.bool (d0)) [⟨false, .flat 2 (.ints .i64 gv4)⟩, ⟨false, .flat 520 (.ints .u8 gv5)⟩]) rv6 ov10 ov11) := by kernel_rfl

theorem impl_Coalgebra_isFault.l0_eq {ρ : Type} (N : Nat) (K : AV → Heap → Option ρ) (i0 : Int) (j1 : Int) (k2 : Int) (lv3 : Int) (gv4 : Nat → Int) (gv5 : Nat → Int) (rv6 : Nat → Int) :
    ∀ (m : Nat) (one7 : Int) (two8 : Int) (x9 : Int), xloop (xcode (E39 N) ents impl_Coalgebra_isFault.kp 2 N (cL (cK (cB (cA (cB (cB impl_Coalgebra_isFault.bd)))))) 0) impl_Coalgebra_isFault.kp 2 0 m (impl_Coalgebra_isFault.st0 i0 j1 k2 lv3 gv4 gv5 rv6 one7 two8 x9) (impl_Coalgebra_isFault.k0 N K gv4 gv5) = (impl_Coalgebra_isFault.l0 N (fun d0 => K (.bool (d0)) [⟨false, .flat 2 (.ints .i64 gv4)⟩, ⟨false, .flat 520 (.ints .u8 gv5)⟩]) i0 j1 k2 lv3 gv5 rv6 (fun ov10 ov11 => (impl_Coalgebra_isFault.k0 N K gv4 gv5) (.exit 0) (impl_Coalgebra_isFault.sx0_0 gv4 gv5 rv6 ov10 ov11)) m one7 two8 x9) := by
  intro m
  induction m with
  | zero => intros; rfl
  | succ m ih =>
    intro one7 two8 x9
    refine (impl_Coalgebra_isFault.b0_eq N K (fun s => xloop (xcode (E39 N) ents impl_Coalgebra_isFault.kp 2 N (cL (cK (cB (cA (cB (cB impl_Coalgebra_isFault.bd)))))) 0) impl_Coalgebra_isFault.kp 2 0 m s (impl_Coalgebra_isFault.k0 N K gv4 gv5)) i0 j1 k2 lv3 gv4 gv5 rv6 one7 two8 x9).trans ?_
    simp only [ih]
    kernel_rfl

theorem impl_Coalgebra_isFault.s_eq {ρ : Type} (N : Nat) (K : AV → Heap → Option ρ) (i0 : Int) (j1 : Int) (k2 : Int) (lv3 : Int) (gv4 : Nat → Int) (gv5 : Nat → Int) :
    xbody (E39 N) ents impl_Coalgebra_isFault.kp N Go.Proofs.Try.f99 impl_Coalgebra_isFault.bd [.sptr [(0, 2), (1, 520)], .int .i64 (i0), .int .i64 (j1), .int .i64 (k2), .int .i64 (lv3)] [⟨false, .flat 2 (.ints .i64 gv4)⟩, ⟨false, .flat 520 (.ints .u8 gv5)⟩] K = (impl_Coalgebra_isFault.s N (fun d0 => K (.bool (d0)) [⟨false, .flat 2 (.ints .i64 gv4)⟩, ⟨false, .flat 520 (.ints .u8 gv5)⟩]) (fun rv6 one7 two8 x9 => xloop (xcode (E39 N) ents impl_Coalgebra_isFault.kp 2 N (cL (cK (cB (cA (cB (cB impl_Coalgebra_isFault.bd)))))) 0) impl_Coalgebra_isFault.kp 2 0 N (impl_Coalgebra_isFault.st0 i0 j1 k2 lv3 gv4 gv5 rv6 one7 two8 x9) (impl_Coalgebra_isFault.k0 N K gv4 gv5)) gv4 gv5) := by kernel_rfl

theorem impl_Coalgebra_isFault.eq {ρ : Type} (N : Nat) (K : AV → Heap → Option ρ) (i0 : Int) (j1 : Int) (k2 : Int) (lv3 : Int) (gv4 : Nat → Int) (gv5 : Nat → Int) :
    xbody (E39 N) ents impl_Coalgebra_isFault.kp N Go.Proofs.Try.f99 impl_Coalgebra_isFault.bd [.sptr [(0, 2), (1, 520)], .int .i64 (i0), .int .i64 (j1), .int .i64 (k2), .int .i64 (lv3)] [⟨false, .flat 2 (.ints .i64 gv4)⟩, ⟨false, .flat 520 (.ints .u8 gv5)⟩] K = (impl_Coalgebra_isFault N (fun d0 => K (.bool (d0)) [⟨false, .flat 2 (.ints .i64 gv4)⟩, ⟨false, .flat 520 (.ints .u8 gv5)⟩]) i0 j1 k2 lv3 gv4 gv5) := by
  refine (impl_Coalgebra_isFault.s_eq N K i0 j1 k2 lv3 gv4 gv5).trans ?_
  simp only [impl_Coalgebra_isFault.l0_eq, impl_Coalgebra_isFault.a0_0_eq]
  kernel_rfl

noncomputable def impl_Coalgebra_isFault.en (N : Nat) (ρ : Type) : List AV → Heap → (AV → Heap → Option ρ) → Option ρ
  | [.sptr [(0, 2), (1, 520)], .int .i64 (i0), .int .i64 (j1), .int .i64 (k2), .int .i64 (lv3)], [⟨false, .flat 2 (.ints .i64 gv4)⟩, ⟨false, .flat 520 (.ints .u8 gv5)⟩], K => (impl_Coalgebra_isFault N (fun d0 => K (.bool (d0)) [⟨false, .flat 2 (.ints .i64 gv4)⟩, ⟨false, .flat 520 (.ints .u8 gv5)⟩]) i0 j1 k2 lv3 gv4 gv5)
  | _, _, _ => none

theorem impl_Coalgebra_isFault.en_ok (N : Nat) (hE : EnvOk (E39 N) ents) (ρ : Type) (args : List AV) (sh : Heap) (K : AV → Heap → Option ρ) (r : ρ) (h : impl_Coalgebra_isFault.en N ρ args sh K = some r) : ∃ v sh', K v sh' = some r ∧ FnOk (E39 N).P 99 args sh v sh' := by
  unfold impl_Coalgebra_isFault.en at h
  split at h
  · exact fn_ok hE (kp := impl_Coalgebra_isFault.kp) (N := N) Go.Proofs.Try.func99 (c := impl_Coalgebra_isFault.bd) (by kernel_rfl) ((impl_Coalgebra_isFault.eq N _ _ _ _ _ _ _).trans h)
  · cases h

noncomputable def E40 (N : Nat) : Env := (E39 N).add 99 (impl_Coalgebra_isFault.en N)

theorem E40_ok (N : Nat) : EnvOk (E40 N) ents := Env.add_ok (E39_ok N) (impl_Coalgebra_isFault.en_ok N (E39_ok N))

noncomputable def impl_Coalgebra_fault.kp : Keeps := ⟨[(0, [0, 3, 19, 20], [], [])], [(0, [], [], [])], []⟩

noncomputable def impl_Coalgebra_fault.bd : Code := bodyOf Go.Proofs.Try.f57

noncomputable def impl_Coalgebra_fault.fin {ρ : Type} (N : Nat) (K : AV → Heap → Option ρ) (gv0 : Nat → Int) (gv1 : Nat → Int) : XE → St → Option ρ := finK (E40 N) impl_Coalgebra_fault.kp.fins Go.Proofs.Try.f57 [⟨false, .flat 2 (.ints .i64 gv0)⟩, ⟨false, .flat 520 (.ints .u8 gv1)⟩] K

noncomputable def impl_Coalgebra_fault.k0 {ρ : Type} (N : Nat) (K : AV → Heap → Option ρ) (gv0 : Nat → Int) (gv1 : Nat → Int) : XE → St → Option ρ := (blockK impl_Coalgebra_fault.kp 2 0 (seqK (xcode (E40 N) ents impl_Coalgebra_fault.kp 2 N (cB (cB (cB impl_Coalgebra_fault.bd))) 0) (impl_Coalgebra_fault.fin N K gv0 gv1)))

theorem impl_Coalgebra_fault.k0_mix {ρ : Type} (N : Nat) (K : AV → Heap → Option ρ) (gv0 : Nat → Int) (gv1 : Nat → Int) : mixK (impl_Coalgebra_fault.fin N K gv0 gv1 .ret) (impl_Coalgebra_fault.k0 N K gv0 gv1) = (impl_Coalgebra_fault.k0 N K gv0 gv1) := by
  funext e s; cases e <;> kernel_rfl

noncomputable def impl_Coalgebra_fault.st0 (gv0 : Nat → Int) (gv1 : Nat → Int) (x2 : Int) : St := ⟨sl 57 [(0, .sptr [(0, 2), (1, 520)]), (3, .int .i64 ((gv0 1))), (19, .int .i64 ((IntKind.i64.wrap ((IntKind.i64.wrap ((IntKind.i64.wrap ((gv0 1) * (gv0 1))) * (gv0 1))) * (gv0 1))))), (20, .int .i64 (x2))], [⟨false, .flat 2 (.ints .i64 gv0)⟩, ⟨false, .flat 520 (.ints .u8 gv1)⟩]⟩

noncomputable def impl_Coalgebra_fault.sx0_0 (gv0 : Nat → Int) (gv1 : Nat → Int) : St := ⟨sl 57 [], [⟨false, .flat 2 (.ints .i64 gv0)⟩, ⟨false, .flat 520 (.ints .u8 gv1)⟩]⟩

theorem impl_Coalgebra_fault.b0_gen {ρ : Type} (N : Nat) (K : AV → Heap → Option ρ) (L0 : St → Option ρ) (kv : XE → St → Option ρ) (gv0 : Nat → Int) (gv1 : Nat → Int) (x2 : Int) :
    xcode (E40 N) ents impl_Coalgebra_fault.kp 2 N (cL (cK (cB (cA (cB (cB impl_Coalgebra_fault.bd)))))) 0 (impl_Coalgebra_fault.st0 gv0 gv1 x2) (roundK impl_Coalgebra_fault.kp 2 0 L0 (mixK (impl_Coalgebra_fault.fin N K gv0 gv1 .ret) kv)) = (impl_Coalgebra_fault.b0 N (fun d0 d1 d2 => K (.slice true 2 0 d0 (.exact d1) 1) [⟨false, .flat 2 (.ints .i64 gv0)⟩, ⟨false, .flat 520 (.ints .u8 gv1)⟩, ⟨true, .flat 4 (.ints .i64 d2)⟩]) (K (.nils) [⟨false, .flat 2 (.ints .i64 gv0)⟩, ⟨false, .flat 520 (.ints .u8 gv1)⟩]) (fun x2 => L0 (impl_Coalgebra_fault.st0 gv0 gv1 x2)) (kv (.exit 0) (impl_Coalgebra_fault.sx0_0 gv0 gv1)) gv0 gv1 x2) := by kernel_rfl

theorem impl_Coalgebra_fault.b0_eq {ρ : Type} (N : Nat) (K : AV → Heap → Option ρ) (L0 : St → Option ρ) (gv0 : Nat → Int) (gv1 : Nat → Int) (x2 : Int) :
    xcode (E40 N) ents impl_Coalgebra_fault.kp 2 N (cL (cK (cB (cA (cB (cB impl_Coalgebra_fault.bd)))))) 0 (impl_Coalgebra_fault.st0 gv0 gv1 x2) (roundK impl_Coalgebra_fault.kp 2 0 L0 (impl_Coalgebra_fault.k0 N K gv0 gv1)) = (impl_Coalgebra_fault.b0 N (fun d0 d1 d2 => K (.slice true 2 0 d0 (.exact d1) 1) [⟨false, .flat 2 (.ints .i64 gv0)⟩, ⟨false, .flat 520 (.ints .u8 gv1)⟩, ⟨true, .flat 4 (.ints .i64 d2)⟩]) (K (.nils) [⟨false, .flat 2 (.ints .i64 gv0)⟩, ⟨false, .flat 520 (.ints .u8 gv1)⟩]) (fun x2 => L0 (impl_Coalgebra_fault.st0 gv0 gv1 x2)) ((impl_Coalgebra_fault.k0 N K gv0 gv1) (.exit 0) (impl_Coalgebra_fault.sx0_0 gv0 gv1)) gv0 gv1 x2) := by
  have h := impl_Coalgebra_fault.b0_gen N K L0 (impl_Coalgebra_fault.k0 N K gv0 gv1) gv0 gv1 x2
  rw [impl_Coalgebra_fault.k0_mix] at h
  exact h

theorem impl_Coalgebra_fault.a0_0_eq {ρ : Type} (N : Nat) (K : AV → Heap → Option ρ) (gv0 : Nat → Int) (gv1 : Nat → Int) :
    (impl_Coalgebra_fault.k0 N K gv0 gv1) (.exit 0) (impl_Coalgebra_fault.sx0_0 gv0 gv1) = (impl_Coalgebra_fault.a0_0 N (fun d0 d1 d2 => K (.slice true 2 0 d0 (.exact d1) 1) [⟨false, .flat 2 (.ints .i64 gv0)⟩, ⟨false, .flat 520 (.ints .u8 gv1)⟩, ⟨true, .flat 4 (.ints .i64 d2)⟩]) (K (.nils) [⟨false, .flat 2 (.ints .i64 gv0)⟩, ⟨false, .flat 520 (.ints .u8 gv1)⟩])) := by kernel_rfl

theorem impl_Coalgebra_fault.l0_eq {ρ : Type} (N : Nat) (K : AV → Heap → Option ρ) (gv0 : Nat → Int) (gv1 : Nat → Int) :
    ∀ (m : Nat) (x2 : Int), xloop (xcode (E40 N) ents impl_Coalgebra_fault.kp 2 N (cL (cK (cB (cA (cB (cB impl_Coalgebra_fault.bd)))))) 0) impl_Coalgebra_fault.kp 2 0 m (impl_Coalgebra_fault.st0 gv0 gv1 x2) (impl_Coalgebra_fault.k0 N K gv0 gv1) = (impl_Coalgebra_fault.l0 N (fun d0 d1 d2 => K (.slice true 2 0 d0 (.exact d1) 1) [⟨false, .flat 2 (.ints .i64 gv0)⟩, ⟨false, .flat 520 (.ints .u8 gv1)⟩, ⟨true, .flat 4 (.ints .i64 d2)⟩]) (K (.nils) [⟨false, .flat 2 (.ints .i64 gv0)⟩, ⟨false, .flat 520 (.ints .u8 gv1)⟩]) gv0 gv1 ((impl_Coalgebra_fault.k0 N K gv0 gv1) (.exit 0) (impl_Coalgebra_fault.sx0_0 gv0 gv1)) m x2) := by
  intro m
  induction m with
  | zero => intros; rfl
  | succ m ih =>
    intro x2
    refine (impl_Coalgebra_fault.b0_eq N K (fun s => xloop (xcode (E40 N) ents impl_Coalgebra_fault.kp 2 N (cL (cK (cB (cA (cB (cB impl_Coalgebra_fault.bd)))))) 0) impl_Coalgebra_fault.kp 2 0 m s (impl_Coalgebra_fault.k0 N K gv0 gv1)) gv0 gv1 x2).trans ?_
    simp only [ih]
    kernel_rfl

theorem impl_Coalgebra_fault.s_eq {ρ : Type} (N : Nat) (K : AV → Heap → Option ρ) (gv0 : Nat → Int) (gv1 : Nat → Int) :
    xbody (E40 N) ents impl_Coalgebra_fault.kp N Go.Proofs.Try.f57 impl_Coalgebra_fault.bd [.sptr [(0, 2), (1, 520)]] [⟨false, .flat 2 (.ints .i64 gv0)⟩, ⟨false, .flat 520 (.ints .u8 gv1)⟩] K = (impl_Coalgebra_fault.s N (fun d0 d1 d2 => K (.slice true 2 0 d0 (.exact d1) 1) [⟨false, .flat 2 (.ints .i64 gv0)⟩, ⟨false, .flat 520 (.ints .u8 gv1)⟩, ⟨true, .flat 4 (.ints .i64 d2)⟩]) (K (.nils) [⟨false, .flat 2 (.ints .i64 gv0)⟩, ⟨false, .flat 520 (.ints .u8 gv1)⟩]) (fun x2 => xloop (xcode (E40 N) ents impl_Coalgebra_fault.kp 2 N (cL (cK (cB (cA (cB (cB impl_Coalgebra_fault.bd)))))) 0) impl_Coalgebra_fault.kp 2 0 N (impl_Coalgebra_fault.st0 gv0 gv1 x2) (impl_Coalgebra_fault.k0 N K gv0 gv1))) := by kernel_rfl

theorem impl_Coalgebra_fault.eq {ρ : Type} (N : Nat) (K : AV → Heap → Option ρ) (gv0 : Nat → Int) (gv1 : Nat → Int) :
    xbody (E40 N) ents impl_Coalgebra_fault.kp N Go.Proofs.Try.f57 impl_Coalgebra_fault.bd [.sptr [(0, 2), (1, 520)]] [⟨false, .flat 2 (.ints .i64 gv0)⟩, ⟨false, .flat 520 (.ints .u8 gv1)⟩] K = (impl_Coalgebra_fault N (fun d0 d1 d2 => K (.slice true 2 0 d0 (.exact d1) 1) [⟨false, .flat 2 (.ints .i64 gv0)⟩, ⟨false, .flat 520 (.ints .u8 gv1)⟩, ⟨true, .flat 4 (.ints .i64 d2)⟩]) (K (.nils) [⟨false, .flat 2 (.ints .i64 gv0)⟩, ⟨false, .flat 520 (.ints .u8 gv1)⟩]) gv0 gv1) := by
  refine (impl_Coalgebra_fault.s_eq N K gv0 gv1).trans ?_
  simp only [impl_Coalgebra_fault.l0_eq, impl_Coalgebra_fault.a0_0_eq]
  kernel_rfl

noncomputable def impl_Coalgebra_fault.en (N : Nat) (ρ : Type) : List AV → Heap → (AV → Heap → Option ρ) → Option ρ
  | [.sptr [(0, 2), (1, 520)]], [⟨false, .flat 2 (.ints .i64 gv0)⟩, ⟨false, .flat 520 (.ints .u8 gv1)⟩], K => (impl_Coalgebra_fault N (fun d0 d1 d2 => K (.slice true 2 0 d0 (.exact d1) 1) [⟨false, .flat 2 (.ints .i64 gv0)⟩, ⟨false, .flat 520 (.ints .u8 gv1)⟩, ⟨true, .flat 4 (.ints .i64 d2)⟩]) (K (.nils) [⟨false, .flat 2 (.ints .i64 gv0)⟩, ⟨false, .flat 520 (.ints .u8 gv1)⟩]) gv0 gv1)
  | _, _, _ => none

theorem impl_Coalgebra_fault.en_ok (N : Nat) (hE : EnvOk (E40 N) ents) (ρ : Type) (args : List AV) (sh : Heap) (K : AV → Heap → Option ρ) (r : ρ) (h : impl_Coalgebra_fault.en N ρ args sh K = some r) : ∃ v sh', K v sh' = some r ∧ FnOk (E40 N).P 57 args sh v sh' := by
  unfold impl_Coalgebra_fault.en at h
  split at h
  · exact fn_ok hE (kp := impl_Coalgebra_fault.kp) (N := N) Go.Proofs.Try.func57 (c := impl_Coalgebra_fault.bd) (by kernel_rfl) ((impl_Coalgebra_fault.eq N _ _ _).trans h)
  · cases h

noncomputable def E41 (N : Nat) : Env := (E40 N).add 57 (impl_Coalgebra_fault.en N)

theorem E41_ok (N : Nat) : EnvOk (E41 N) ents := Env.add_ok (E40_ok N) (impl_Coalgebra_fault.en_ok N (E40_ok N))

noncomputable def impl_IsCoalgebra.kp : Keeps := ⟨[], [], []⟩

noncomputable def impl_IsCoalgebra.bd : Code := bodyOf Go.Proofs.Try.f17

noncomputable def impl_IsCoalgebra.fin {ρ : Type} (N : Nat) (K : AV → Heap → Option ρ) : XE → St → Option ρ := finK (E41 N) impl_IsCoalgebra.kp.fins Go.Proofs.Try.f17 [] K

theorem impl_IsCoalgebra.eq {ρ : Type} (N : Nat) (K : AV → Heap → Option ρ) (c0 : Nat → Int) (c1 : Nat → Int) :
    xbody (E41 N) ents impl_IsCoalgebra.kp N Go.Proofs.Try.f17 impl_IsCoalgebra.bd [.agg [⟨.i64, 2, c0⟩, ⟨.u8, 520, c1⟩]] [] K = (impl_IsCoalgebra N (fun d0 => K (.bool (d0)) []) c0 c1) := by kernel_rfl

noncomputable def impl_IsCoalgebra.en (N : Nat) (ρ : Type) : List AV → Heap → (AV → Heap → Option ρ) → Option ρ
  | [.agg [⟨.i64, 2, c0⟩, ⟨.u8, 520, c1⟩]], [], K => (impl_IsCoalgebra N (fun d0 => K (.bool (d0)) []) c0 c1)
  | _, _, _ => none

theorem impl_IsCoalgebra.en_ok (N : Nat) (hE : EnvOk (E41 N) ents) (ρ : Type) (args : List AV) (sh : Heap) (K : AV → Heap → Option ρ) (r : ρ) (h : impl_IsCoalgebra.en N ρ args sh K = some r) : ∃ v sh', K v sh' = some r ∧ FnOk (E41 N).P 17 args sh v sh' := by
  unfold impl_IsCoalgebra.en at h
  split at h
  · exact fn_ok hE (kp := impl_IsCoalgebra.kp) (N := N) Go.Proofs.Try.func17 (c := impl_IsCoalgebra.bd) (by kernel_rfl) ((impl_IsCoalgebra.eq N _ _ _).trans h)
  · cases h

noncomputable def E42 (N : Nat) : Env := (E41 N).add 17 (impl_IsCoalgebra.en N)

theorem E42_ok (N : Nat) : EnvOk (E42 N) ents := Env.add_ok (E41_ok N) (impl_IsCoalgebra.en_ok N (E41_ok N))

noncomputable def impl_Coalgebra_has_c1.kp : Keeps := ⟨[], [], []⟩

noncomputable def impl_Coalgebra_has_c1.bd : Code := bodyOf Go.Proofs.Try.f132

noncomputable def impl_Coalgebra_has_c1.fin {ρ : Type} (N : Nat) (K : AV → Heap → Option ρ) (gv1 : Nat → Int) (gv2 : Nat → Int) : XE → St → Option ρ := finK (E42 N) impl_Coalgebra_has_c1.kp.fins Go.Proofs.Try.f132 [⟨false, .avs [.sptr [(1, 2), (2, 520)]]⟩, ⟨false, .flat 2 (.ints .i64 gv1)⟩, ⟨false, .flat 520 (.ints .u8 gv2)⟩] K

theorem impl_Coalgebra_has_c1.eq {ρ : Type} (N : Nat) (K : AV → Heap → Option ρ) (v0 : Nat → Int) (gv1 : Nat → Int) (gv2 : Nat → Int) :
    xbody (E42 N) ents impl_Coalgebra_has_c1.kp N Go.Proofs.Try.f132 impl_Coalgebra_has_c1.bd [.agg [⟨.u8, 8, v0⟩], .sptr [(0, 1)]] [⟨false, .avs [.sptr [(1, 2), (2, 520)]]⟩, ⟨false, .flat 2 (.ints .i64 gv1)⟩, ⟨false, .flat 520 (.ints .u8 gv2)⟩] K = (impl_Coalgebra_has_c1 N (fun d0 => K (.bool (d0)) [⟨false, .avs [.sptr [(1, 2), (2, 520)]]⟩, ⟨false, .flat 2 (.ints .i64 gv1)⟩, ⟨false, .flat 520 (.ints .u8 gv2)⟩]) v0 gv1 gv2) := by kernel_rfl

noncomputable def impl_Coalgebra_has_c1.en (N : Nat) (ρ : Type) : List AV → Heap → (AV → Heap → Option ρ) → Option ρ
  | [.agg [⟨.u8, 8, v0⟩], .sptr [(0, 1)]], [⟨false, .avs [.sptr [(1, 2), (2, 520)]]⟩, ⟨false, .flat 2 (.ints .i64 gv1)⟩, ⟨false, .flat 520 (.ints .u8 gv2)⟩], K => (impl_Coalgebra_has_c1 N (fun d0 => K (.bool (d0)) [⟨false, .avs [.sptr [(1, 2), (2, 520)]]⟩, ⟨false, .flat 2 (.ints .i64 gv1)⟩, ⟨false, .flat 520 (.ints .u8 gv2)⟩]) v0 gv1 gv2)
  | _, _, _ => none

theorem impl_Coalgebra_has_c1.en_ok (N : Nat) (hE : EnvOk (E42 N) ents) (ρ : Type) (args : List AV) (sh : Heap) (K : AV → Heap → Option ρ) (r : ρ) (h : impl_Coalgebra_has_c1.en N ρ args sh K = some r) : ∃ v sh', K v sh' = some r ∧ FnOk (E42 N).P 132 args sh v sh' := by
  unfold impl_Coalgebra_has_c1.en at h
  split at h
  · exact fn_ok hE (kp := impl_Coalgebra_has_c1.kp) (N := N) Go.Proofs.Try.func132 (c := impl_Coalgebra_has_c1.bd) (by kernel_rfl) ((impl_Coalgebra_has_c1.eq N _ _ _ _).trans h)
  · cases h

noncomputable def E43 (N : Nat) : Env := (E42 N).add 132 (impl_Coalgebra_has_c1.en N)

theorem E43_ok (N : Nat) : EnvOk (E43 N) ents := Env.add_ok (E42_ok N) (impl_Coalgebra_has_c1.en_ok N (E42_ok N))
end Go.Proofs.Ythecjjnieojjoaa.H
