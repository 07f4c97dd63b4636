/- The program computes these functions. -/
import Derived.Test.YtfiopadjbheclaaHP0
import Derived.Test.YtfiopadjbheclaaChecked
import Derived.KernelRfl
namespace Go.Proofs.Ytfiopadjbheclaa.H
set_option linter.unusedVariables false
set_option linter.unusedSimpArgs false
open Go Go.RowKit Go.Proofs.Ytfiopadjbheclaa.Hy
set_option linter.unusedVariables false
set_option maxRecDepth 100000
noncomputable def lays : List Lay := [.other, .func, .int .i64, .int .i64, .bool, .int .u8, .int .u8, .mix [(0, 1, false), (1, 1, false), (2, 1, false), (3, 1, false)] [.int .i64, .int .i64, .bool, .int .u8], .mix [(0, 1, false), (1, 1, false), (2, 1, false), (3, 1, false)] [.int .i64, .int .i64, .bool, .int .u8], .str, .str, .str, .int .u64, .mix [(0, 1, false), (1, 1, false)] [.str, .int .u64], .mix [(0, 1, false), (1, 1, false)] [.str, .int .u64], .ptr, .ptr, .ptr, .other, .other, .other, .int .i32, .slice 34 8 8, .func, .slice 35 8 8, .other, .func, .func, .func, .func, .func, .func, .func, .func, .arr 8 5 1 .u8, .arr 8 5 1 .u8, .func, .func, .func, .func, .func, .func, .func, .func, .func, .func, .func, .ptr, .func, .slice 55 1 24, .struct [(0, 1, false), (1, 1, false)] [(.i64, 2)], .struct [(0, 1, false), (1, 1, false)] [(.i64, 2)], .slice 3 1 8, .mix [(0, 2, true), (2, 1, false), (3, 1, false), (4, 1, false)] [.run .i64 2, .int .i64, .nils, .nils], .mix [(0, 2, true), (2, 1, false), (3, 1, false), (4, 1, false)] [.run .i64 2, .int .i64, .nils, .nils], .slice 5 1 1, .func, .func, .func, .func, .func, .func, .func, .func, .func, .func, .func, .func, .func, .func, .other, .other, .other, .other, .other, .func, .int .u32, .int .u8, .int .u8, .func, .ptr, .int .i32, .int .i32, .other, .other, .other]

noncomputable def wrs : List (FuncId × List Bool) := [(10, [true]), (29, [false, false, true, true, true, true]), (39, [false, false, false, false, false, true, true])]

noncomputable def ents : List FuncId := [3, 4, 5, 6, 7, 8, 9, 10, 11, 12, 13, 14, 15, 16, 17, 18, 19, 20, 21, 22, 23, 24, 25, 26, 27, 28, 29, 30, 31, 32, 33, 34, 35, 36, 37, 38, 39, 40, 41, 42, 43, 44]

noncomputable def E0 (N : Nat) : Env := env0 Go.Proofs.Try.prog lays wrs

theorem E0_ok (N : Nat) : EnvOk (E0 N) ents := env0_ok (by kernel_rfl) (by kernel_rfl) (by kernel_rfl)

noncomputable def laws_szVectorS_su.kp : Keeps := ⟨[], [], []⟩

noncomputable def laws_szVectorS_su.bd : Code := bodyOf Go.Proofs.Try.f4

noncomputable def laws_szVectorS_su.fin {ρ : Type} (N : Nat) (K : AV → Heap → Option ρ) (gv2 : Nat) (gv3 : Nat → Int) : XE → St → Option ρ := finK (E0 N) laws_szVectorS_su.kp.fins Go.Proofs.Try.f4 [⟨false, .flat gv2 (.ints .u8 gv3)⟩] K

theorem laws_szVectorS_su.eq {ρ : Type} (N : Nat) (K : AV → Heap → Option ρ) (av0 : Nat) (left1 : Int) (gv2 : Nat) (gv3 : Nat → Int) :
    xbody (E0 N) ents laws_szVectorS_su.kp N Go.Proofs.Try.f4 laws_szVectorS_su.bd [.slice false 0 0 av0 .unk 8, .int .i64 (left1)] [⟨false, .flat gv2 (.ints .u8 gv3)⟩] K = (laws_szVectorS_su N (fun d0 => K (.int .i64 (d0)) [⟨false, .flat gv2 (.ints .u8 gv3)⟩]) av0 left1 gv2 gv3) := by kernel_rfl

noncomputable def laws_szVectorS_su.en (N : Nat) (ρ : Type) : List AV → Heap → (AV → Heap → Option ρ) → Option ρ
  | [.slice false 0 0 av0 .unk 8, .int .i64 (left1)], [⟨false, .flat gv2 (.ints .u8 gv3)⟩], K => (laws_szVectorS_su N (fun d0 => K (.int .i64 (d0)) [⟨false, .flat gv2 (.ints .u8 gv3)⟩]) av0 left1 gv2 gv3)
  | _, _, _ => none

theorem laws_szVectorS_su.en_ok (N : Nat) (hE : EnvOk (E0 N) ents) (ρ : Type) (args : List AV) (sh : Heap) (K : AV → Heap → Option ρ) (r : ρ) (h : laws_szVectorS_su.en N ρ args sh K = some r) : ∃ v sh', K v sh' = some r ∧ FnOk (E0 N).P 4 args sh v sh' := by
  unfold laws_szVectorS_su.en at h
  split at h
  · exact fn_ok hE (kp := laws_szVectorS_su.kp) (N := N) Go.Proofs.Try.func4 (c := laws_szVectorS_su.bd) (by kernel_rfl) ((laws_szVectorS_su.eq N _ _ _ _ _).trans h)
  · cases h

noncomputable def E1 (N : Nat) : Env := (E0 N).add 4 (laws_szVectorS_su.en N)

theorem E1_ok (N : Nat) : EnvOk (E1 N) ents := Env.add_ok (E0_ok N) (laws_szVectorS_su.en_ok N (E0_ok N))

noncomputable def laws_roomBehind.kp : Keeps := ⟨[], [], []⟩

noncomputable def laws_roomBehind.bd : Code := bodyOf Go.Proofs.Try.f14

noncomputable def laws_roomBehind.fin {ρ : Type} (N : Nat) (K : AV → Heap → Option ρ) : XE → St → Option ρ := finK (E1 N) laws_roomBehind.kp.fins Go.Proofs.Try.f14 [] K

theorem laws_roomBehind.eq {ρ : Type} (N : Nat) (K : AV → Heap → Option ρ) (nv0 : Int) :
    xbody (E1 N) ents laws_roomBehind.kp N Go.Proofs.Try.f14 laws_roomBehind.bd [.int .i64 (nv0)] [] K = (laws_roomBehind N (fun d0 => K (.int .i64 (d0)) []) nv0) := by kernel_rfl

noncomputable def laws_roomBehind.en (N : Nat) (ρ : Type) : List AV → Heap → (AV → Heap → Option ρ) → Option ρ
  | [.int .i64 (nv0)], [], K => (laws_roomBehind N (fun d0 => K (.int .i64 (d0)) []) nv0)
  | _, _, _ => none

theorem laws_roomBehind.en_ok (N : Nat) (hE : EnvOk (E1 N) ents) (ρ : Type) (args : List AV) (sh : Heap) (K : AV → Heap → Option ρ) (r : ρ) (h : laws_roomBehind.en N ρ args sh K = some r) : ∃ v sh', K v sh' = some r ∧ FnOk (E1 N).P 14 args sh v sh' := by
  unfold laws_roomBehind.en at h
  split at h
  · exact fn_ok hE (kp := laws_roomBehind.kp) (N := N) Go.Proofs.Try.func14 (c := laws_roomBehind.bd) (by kernel_rfl) ((laws_roomBehind.eq N _ _).trans h)
  · cases h

noncomputable def E2 (N : Nat) : Env := (E1 N).add 14 (laws_roomBehind.en N)

theorem E2_ok (N : Nat) : EnvOk (E2 N) ents := Env.add_ok (E1_ok N) (laws_roomBehind.en_ok N (E1_ok N))

noncomputable def laws_toVector.kp : Keeps := ⟨[(0, [1, 2, 3, 4], [], [])], [(0, [2, 3], [], [])], []⟩

noncomputable def laws_toVector.bd : Code := bodyOf Go.Proofs.Try.f15

noncomputable def laws_toVector.fin {ρ : Type} (N : Nat) (K : AV → Heap → Option ρ) : XE → St → Option ρ := finK (E2 N) laws_toVector.kp.fins Go.Proofs.Try.f15 [] K

noncomputable def laws_toVector.k0 {ρ : Type} (N : Nat) (K : AV → Heap → Option ρ) : XE → St → Option ρ := (blockK laws_toVector.kp 0 0 (seqK (xcode (E2 N) ents laws_toVector.kp 0 N (cB (cB (cB laws_toVector.bd))) 0) (laws_toVector.fin N K)))

theorem laws_toVector.k0_mix {ρ : Type} (N : Nat) (K : AV → Heap → Option ρ) : mixK (laws_toVector.fin N K .ret) (laws_toVector.k0 N K) = (laws_toVector.k0 N K) := by
  funext e s; cases e <;> kernel_rfl

noncomputable def laws_toVector.st0 (av0 : Nat → Int) (i1 : Int) (gv2 : Nat → Int) : St := ⟨sl 15 [(1, .sptr [(0, 8)]), (2, .sptr [(1, 8)]), (3, .sptr [(2, 8)]), (4, .int .i64 (i1))], [⟨true, .flat 8 (.ints .u8 av0)⟩, ⟨true, .flat 8 (.ints .u8 (fun _ => 0))⟩, ⟨true, .flat 8 (.ints .u8 gv2)⟩]⟩

noncomputable def laws_toVector.sx0_0 (ov3 : Nat → Int) : St := ⟨sl 15 [(2, .sptr [(0, 8)]), (3, .sptr [(1, 8)])], [⟨true, .flat 8 (.ints .u8 (fun _ => 0))⟩, ⟨true, .flat 8 (.ints .u8 ov3)⟩]⟩

theorem laws_toVector.b0_gen {ρ : Type} (N : Nat) (K : AV → Heap → Option ρ) (L0 : St → Option ρ) (kv : XE → St → Option ρ) (av0 : Nat → Int) (i1 : Int) (gv2 : Nat → Int) :
    xcode (E2 N) ents laws_toVector.kp 0 N (cL (cK (cB (cA (cB (cB laws_toVector.bd)))))) 0 (laws_toVector.st0 av0 i1 gv2) (roundK laws_toVector.kp 0 0 L0 (mixK (laws_toVector.fin N K .ret) kv)) = (laws_toVector.b0 N (fun d0 => K (.agg [⟨.u8, 8, d0⟩]) []) (fun i1 gv2 => L0 (laws_toVector.st0 av0 i1 gv2)) (fun ov3 => kv (.exit 0) (laws_toVector.sx0_0 ov3)) av0 i1 gv2) := by kernel_rfl

theorem laws_toVector.b0_eq {ρ : Type} (N : Nat) (K : AV → Heap → Option ρ) (L0 : St → Option ρ) (av0 : Nat → Int) (i1 : Int) (gv2 : Nat → Int) :
    xcode (E2 N) ents laws_toVector.kp 0 N (cL (cK (cB (cA (cB (cB laws_toVector.bd)))))) 0 (laws_toVector.st0 av0 i1 gv2) (roundK laws_toVector.kp 0 0 L0 (laws_toVector.k0 N K)) = (laws_toVector.b0 N (fun d0 => K (.agg [⟨.u8, 8, d0⟩]) []) (fun i1 gv2 => L0 (laws_toVector.st0 av0 i1 gv2)) (fun ov3 => (laws_toVector.k0 N K) (.exit 0) (laws_toVector.sx0_0 ov3)) av0 i1 gv2) := by
  have h := laws_toVector.b0_gen N K L0 (laws_toVector.k0 N K) av0 i1 gv2
  rw [laws_toVector.k0_mix] at h
  exact h

theorem laws_toVector.a0_0_eq {ρ : Type} (N : Nat) (K : AV → Heap → Option ρ) (ov3 : Nat → Int) :
    (laws_toVector.k0 N K) (.exit 0) (laws_toVector.sx0_0 ov3) = (laws_toVector.a0_0 N (fun d0 => K (.agg [⟨.u8, 8, d0⟩]) []) ov3) := by kernel_rfl

theorem laws_toVector.l0_eq {ρ : Type} (N : Nat) (K : AV → Heap → Option ρ) (av0 : Nat → Int) :
    ∀ (m : Nat) (i1 : Int) (gv2 : Nat → Int), xloop (xcode (E2 N) ents laws_toVector.kp 0 N (cL (cK (cB (cA (cB (cB laws_toVector.bd)))))) 0) laws_toVector.kp 0 0 m (laws_toVector.st0 av0 i1 gv2) (laws_toVector.k0 N K) = (laws_toVector.l0 N (fun d0 => K (.agg [⟨.u8, 8, d0⟩]) []) av0 (fun ov3 => (laws_toVector.k0 N K) (.exit 0) (laws_toVector.sx0_0 ov3)) m i1 gv2) := by
  intro m
  induction m with
  | zero => intros; rfl
  | succ m ih =>
    intro i1 gv2
    refine (laws_toVector.b0_eq N K (fun s => xloop (xcode (E2 N) ents laws_toVector.kp 0 N (cL (cK (cB (cA (cB (cB laws_toVector.bd)))))) 0) laws_toVector.kp 0 0 m s (laws_toVector.k0 N K)) av0 i1 gv2).trans ?_
    simp only [ih]
    kernel_rfl

theorem laws_toVector.s_eq {ρ : Type} (N : Nat) (K : AV → Heap → Option ρ) (av0 : Nat → Int) :
    xbody (E2 N) ents laws_toVector.kp N Go.Proofs.Try.f15 laws_toVector.bd [.agg [⟨.u8, 8, av0⟩]] [] K = (laws_toVector.s N (fun d0 => K (.agg [⟨.u8, 8, d0⟩]) []) (fun i1 gv2 => xloop (xcode (E2 N) ents laws_toVector.kp 0 N (cL (cK (cB (cA (cB (cB laws_toVector.bd)))))) 0) laws_toVector.kp 0 0 N (laws_toVector.st0 av0 i1 gv2) (laws_toVector.k0 N K))) := by kernel_rfl

theorem laws_toVector.eq {ρ : Type} (N : Nat) (K : AV → Heap → Option ρ) (av0 : Nat → Int) :
    xbody (E2 N) ents laws_toVector.kp N Go.Proofs.Try.f15 laws_toVector.bd [.agg [⟨.u8, 8, av0⟩]] [] K = (laws_toVector N (fun d0 => K (.agg [⟨.u8, 8, d0⟩]) []) av0) := by
  refine (laws_toVector.s_eq N K av0).trans ?_
  simp only [laws_toVector.l0_eq, laws_toVector.a0_0_eq]
  kernel_rfl

noncomputable def laws_toVector.en (N : Nat) (ρ : Type) : List AV → Heap → (AV → Heap → Option ρ) → Option ρ
  | [.agg [⟨.u8, 8, av0⟩]], [], K => (laws_toVector N (fun d0 => K (.agg [⟨.u8, 8, d0⟩]) []) av0)
  | _, _, _ => none

theorem laws_toVector.en_ok (N : Nat) (hE : EnvOk (E2 N) ents) (ρ : Type) (args : List AV) (sh : Heap) (K : AV → Heap → Option ρ) (r : ρ) (h : laws_toVector.en N ρ args sh K = some r) : ∃ v sh', K v sh' = some r ∧ FnOk (E2 N).P 15 args sh v sh' := by
  unfold laws_toVector.en at h
  split at h
  · exact fn_ok hE (kp := laws_toVector.kp) (N := N) Go.Proofs.Try.func15 (c := laws_toVector.bd) (by kernel_rfl) ((laws_toVector.eq N _ _).trans h)
  · cases h

noncomputable def E3 (N : Nat) : Env := (E2 N).add 15 (laws_toVector.en N)

theorem E3_ok (N : Nat) : EnvOk (E3 N) ents := Env.add_ok (E2_ok N) (laws_toVector.en_ok N (E2_ok N))

noncomputable def laws_toVectorS_su0.kp : Keeps := ⟨[(0, [0, 5, 6], [], []), (2, [0, 5, 7], [], [])], [(0, [0, 5], [], []), (2, [0, 5], [], [])], []⟩

noncomputable def laws_toVectorS_su0.bd : Code := bodyOf Go.Proofs.Try.f6

noncomputable def laws_toVectorS_su0.fin {ρ : Type} (N : Nat) (K : AV → Heap → Option ρ) (gv1 : Nat) (gv2 : Nat → Int) : XE → St → Option ρ := finK (E3 N) laws_toVectorS_su0.kp.fins Go.Proofs.Try.f6 [⟨false, .flat gv1 (.ints .u8 gv2)⟩] K

noncomputable def laws_toVectorS_su0.k0 {ρ : Type} (N : Nat) (K : AV → Heap → Option ρ) (gv1 : Nat) (gv2 : Nat → Int) : XE → St → Option ρ := (blockK laws_toVectorS_su0.kp 1 0 (seqK (xcode (E3 N) ents laws_toVectorS_su0.kp 1 N (cB (cB (cB (cB laws_toVectorS_su0.bd)))) 0) (laws_toVectorS_su0.fin N K gv1 gv2)))

theorem laws_toVectorS_su0.k0_mix {ρ : Type} (N : Nat) (K : AV → Heap → Option ρ) (gv1 : Nat) (gv2 : Nat → Int) : mixK (laws_toVectorS_su0.fin N K gv1 gv2 .ret) (laws_toVectorS_su0.k0 N K gv1 gv2) = (laws_toVectorS_su0.k0 N K gv1 gv2) := by
  funext e s; cases e <;> kernel_rfl

noncomputable def laws_toVectorS_su0.st0 (av0 : Nat) (gv1 : Nat) (gv2 : Nat → Int) (rv3 : Int) (i4 : Int) (gv5 : Nat → Int) : St := ⟨sl 51 [(0, .slice false 0 0 av0 .unk 8), (5, .slice true 1 0 ((IntKind.i64.wrap ((av0 : Int) + rv3))).toNat (.exact ((IntKind.i64.wrap ((av0 : Int) + rv3))).toNat) 8), (6, .int .i64 (i4))], [⟨false, .flat gv1 (.ints .u8 gv2)⟩, ⟨true, .flat (((IntKind.i64.wrap ((av0 : Int) + rv3))).toNat * 8) (.ints .u8 gv5)⟩]⟩

noncomputable def laws_toVectorS_su0.sx0_0 (av0 : Nat) (gv1 : Nat) (gv2 : Nat → Int) (rv3 : Int) (ov7 : Nat → Int) : St := ⟨sl 51 [(0, .slice false 0 0 av0 .unk 8), (5, .slice true 1 0 ((IntKind.i64.wrap ((av0 : Int) + rv3))).toNat (.exact ((IntKind.i64.wrap ((av0 : Int) + rv3))).toNat) 8)], [⟨false, .flat gv1 (.ints .u8 gv2)⟩, ⟨true, .flat (((IntKind.i64.wrap ((av0 : Int) + rv3))).toNat * 8) (.ints .u8 ov7)⟩]⟩

noncomputable def laws_toVectorS_su0.k1 {ρ : Type} (N : Nat) (K : AV → Heap → Option ρ) (gv1 : Nat) (gv2 : Nat → Int) : XE → St → Option ρ := (blockK laws_toVectorS_su0.kp 1 2 (seqK (xcode (E3 N) ents laws_toVectorS_su0.kp 1 N (cB (cB (cB (cB (cB laws_toVectorS_su0.bd))))) 0) (laws_toVectorS_su0.fin N K gv1 gv2)))

theorem laws_toVectorS_su0.k1_mix {ρ : Type} (N : Nat) (K : AV → Heap → Option ρ) (gv1 : Nat) (gv2 : Nat → Int) : mixK (laws_toVectorS_su0.fin N K gv1 gv2 .ret) (laws_toVectorS_su0.k1 N K gv1 gv2) = (laws_toVectorS_su0.k1 N K gv1 gv2) := by
  funext e s; cases e <;> kernel_rfl

noncomputable def laws_toVectorS_su0.st1 (av0 : Nat) (gv1 : Nat) (gv2 : Nat → Int) (rv3 : Int) (i8 : Int) (gv9 : Nat → Int) : St := ⟨sl 51 [(0, .slice false 0 0 av0 .unk 8), (5, .slice true 1 0 ((IntKind.i64.wrap ((av0 : Int) + rv3))).toNat (.exact ((IntKind.i64.wrap ((av0 : Int) + rv3))).toNat) 8), (7, .int .i64 (i8))], [⟨false, .flat gv1 (.ints .u8 gv2)⟩, ⟨true, .flat (((IntKind.i64.wrap ((av0 : Int) + rv3))).toNat * 8) (.ints .u8 gv9)⟩]⟩

noncomputable def laws_toVectorS_su0.sx1_0 (av0 : Nat) (gv1 : Nat) (gv2 : Nat → Int) (rv3 : Int) (ov10 : Nat → Int) : St := ⟨sl 51 [(0, .slice false 0 0 av0 .unk 8), (5, .slice true 1 0 ((IntKind.i64.wrap ((av0 : Int) + rv3))).toNat (.exact ((IntKind.i64.wrap ((av0 : Int) + rv3))).toNat) 8)], [⟨false, .flat gv1 (.ints .u8 gv2)⟩, ⟨true, .flat (((IntKind.i64.wrap ((av0 : Int) + rv3))).toNat * 8) (.ints .u8 ov10)⟩]⟩

theorem laws_toVectorS_su0.b1_gen {ρ : Type} (N : Nat) (K : AV → Heap → Option ρ) (L1 : St → Option ρ) (kv : XE → St → Option ρ) (av0 : Nat) (gv1 : Nat) (gv2 : Nat → Int) (rv3 : Int) (i8 : Int) (gv9 : Nat → Int) :
    xcode (E3 N) ents laws_toVectorS_su0.kp 1 N (cL (cK (cB (cA (cB (cB (cB (cB laws_toVectorS_su0.bd)))))))) 2 (laws_toVectorS_su0.st1 av0 gv1 gv2 rv3 i8 gv9) (roundK laws_toVectorS_su0.kp 1 2 L1 (mixK (laws_toVectorS_su0.fin N K gv1 gv2 .ret) kv)) = (laws_toVectorS_su0.b1 N (fun d0 d1 d2 d3 => K (.slice true 1 0 d0 (.exact d1) 8) [⟨false, .flat gv1 (.ints .u8 gv2)⟩, ⟨true, .flat d2 (.ints .u8 d3)⟩]) (fun i8 gv9 => L1 (laws_toVectorS_su0.st1 av0 gv1 gv2 rv3 i8 gv9)) (fun ov10 => kv (.exit 2) (laws_toVectorS_su0.sx1_0 av0 gv1 gv2 rv3 ov10)) av0 rv3 i8 gv9) := by kernel_rfl

theorem laws_toVectorS_su0.b1_eq {ρ : Type} (N : Nat) (K : AV → Heap → Option ρ) (L1 : St → Option ρ) (av0 : Nat) (gv1 : Nat) (gv2 : Nat → Int) (rv3 : Int) (i8 : Int) (gv9 : Nat → Int) :
    xcode (E3 N) ents laws_toVectorS_su0.kp 1 N (cL (cK (cB (cA (cB (cB (cB (cB laws_toVectorS_su0.bd)))))))) 2 (laws_toVectorS_su0.st1 av0 gv1 gv2 rv3 i8 gv9) (roundK laws_toVectorS_su0.kp 1 2 L1 (laws_toVectorS_su0.k1 N K gv1 gv2)) = (laws_toVectorS_su0.b1 N (fun d0 d1 d2 d3 => K (.slice true 1 0 d0 (.exact d1) 8) [⟨false, .flat gv1 (.ints .u8 gv2)⟩, ⟨true, .flat d2 (.ints .u8 d3)⟩]) (fun i8 gv9 => L1 (laws_toVectorS_su0.st1 av0 gv1 gv2 rv3 i8 gv9)) (fun ov10 => (laws_toVectorS_su0.k1 N K gv1 gv2) (.exit 2) (laws_toVectorS_su0.sx1_0 av0 gv1 gv2 rv3 ov10)) av0 rv3 i8 gv9) := by
  have h := laws_toVectorS_su0.b1_gen N K L1 (laws_toVectorS_su0.k1 N K gv1 gv2) av0 gv1 gv2 rv3 i8 gv9
  rw [laws_toVectorS_su0.k1_mix] at h
  exact h

theorem laws_toVectorS_su0.a1_0_eq {ρ : Type} (N : Nat) (K : AV → Heap → Option ρ) (av0 : Nat) (gv1 : Nat) (gv2 : Nat → Int) (rv3 : Int) (ov10 : Nat → Int) :
    (laws_toVectorS_su0.k1 N K gv1 gv2) (.exit 2) (laws_toVectorS_su0.sx1_0 av0 gv1 gv2 rv3 ov10) = (laws_toVectorS_su0.a1_0 N (fun d0 d1 d2 d3 => K (.slice true 1 0 d0 (.exact d1) 8) [⟨false, .flat gv1 (.ints .u8 gv2)⟩, ⟨true, .flat d2 (.ints .u8 d3)⟩]) av0 rv3 ov10) := by kernel_rfl

theorem laws_toVectorS_su0.b0_gen {ρ : Type} (N : Nat) (K : AV → Heap → Option ρ) (L0 : St → Option ρ) (kv : XE → St → Option ρ) (av0 : Nat) (gv1 : Nat) (gv2 : Nat → Int) (rv3 : Int) (i4 : Int) (gv5 : Nat → Int) :
    xcode (E3 N) ents laws_toVectorS_su0.kp 1 N (cL (cK (cB (cA (cB (cB (cB laws_toVectorS_su0.bd))))))) 0 (laws_toVectorS_su0.st0 av0 gv1 gv2 rv3 i4 gv5) (roundK laws_toVectorS_su0.kp 1 0 L0 (mixK (laws_toVectorS_su0.fin N K gv1 gv2 .ret) kv)) = (laws_toVectorS_su0.b0 N (fun d0 d1 d2 d3 => K (.slice true 1 0 d0 (.exact d1) 8) [⟨false, .flat gv1 (.ints .u8 gv2)⟩, ⟨true, .flat d2 (.ints .u8 d3)⟩]) (fun i4 gv5 => L0 (laws_toVectorS_su0.st0 av0 gv1 gv2 rv3 i4 gv5)) (fun ov7 => kv (.exit 0) (laws_toVectorS_su0.sx0_0 av0 gv1 gv2 rv3 ov7)) av0 gv2 rv3 i4 gv5) := by kernel_rfl

theorem laws_toVectorS_su0.b0_eq {ρ : Type} (N : Nat) (K : AV → Heap → Option ρ) (L0 : St → Option ρ) (av0 : Nat) (gv1 : Nat) (gv2 : Nat → Int) (rv3 : Int) (i4 : Int) (gv5 : Nat → Int) :
    xcode (E3 N) ents laws_toVectorS_su0.kp 1 N (cL (cK (cB (cA (cB (cB (cB laws_toVectorS_su0.bd))))))) 0 (laws_toVectorS_su0.st0 av0 gv1 gv2 rv3 i4 gv5) (roundK laws_toVectorS_su0.kp 1 0 L0 (laws_toVectorS_su0.k0 N K gv1 gv2)) = (laws_toVectorS_su0.b0 N (fun d0 d1 d2 d3 => K (.slice true 1 0 d0 (.exact d1) 8) [⟨false, .flat gv1 (.ints .u8 gv2)⟩, ⟨true, .flat d2 (.ints .u8 d3)⟩]) (fun i4 gv5 => L0 (laws_toVectorS_su0.st0 av0 gv1 gv2 rv3 i4 gv5)) (fun ov7 => (laws_toVectorS_su0.k0 N K gv1 gv2) (.exit 0) (laws_toVectorS_su0.sx0_0 av0 gv1 gv2 rv3 ov7)) av0 gv2 rv3 i4 gv5) := by
  have h := laws_toVectorS_su0.b0_gen N K L0 (laws_toVectorS_su0.k0 N K gv1 gv2) av0 gv1 gv2 rv3 i4 gv5
  rw [laws_toVectorS_su0.k0_mix] at h
  exact h

theorem laws_toVectorS_su0.a0_0_eq {ρ : Type} (N : Nat) (K : AV → Heap → Option ρ) (av0 : Nat) (gv1 : Nat) (gv2 : Nat → Int) (rv3 : Int) (ov7 : Nat → Int) :
    (laws_toVectorS_su0.k0 N K gv1 gv2) (.exit 0) (laws_toVectorS_su0.sx0_0 av0 gv1 gv2 rv3 ov7) = (laws_toVectorS_su0.a0_0 N (fun d0 d1 d2 d3 => K (.slice true 1 0 d0 (.exact d1) 8) [⟨false, .flat gv1 (.ints .u8 gv2)⟩, ⟨true, .flat d2 (.ints .u8 d3)⟩]) (fun i8 gv9 => xloop (xcode (E3 N) ents laws_toVectorS_su0.kp 1 N (cL (cK (cB (cA (cB (cB (cB (cB laws_toVectorS_su0.bd)))))))) 2) laws_toVectorS_su0.kp 1 2 N (laws_toVectorS_su0.st1 av0 gv1 gv2 rv3 i8 gv9) (laws_toVectorS_su0.k1 N K gv1 gv2)) av0 ov7) := by kernel_rfl

theorem laws_toVectorS_su0.l1_eq {ρ : Type} (N : Nat) (K : AV → Heap → Option ρ) (av0 : Nat) (gv1 : Nat) (gv2 : Nat → Int) (rv3 : Int) :
    ∀ (m : Nat) (i8 : Int) (gv9 : Nat → Int), xloop (xcode (E3 N) ents laws_toVectorS_su0.kp 1 N (cL (cK (cB (cA (cB (cB (cB (cB laws_toVectorS_su0.bd)))))))) 2) laws_toVectorS_su0.kp 1 2 m (laws_toVectorS_su0.st1 av0 gv1 gv2 rv3 i8 gv9) (laws_toVectorS_su0.k1 N K gv1 gv2) = (laws_toVectorS_su0.l1 N (fun d0 d1 d2 d3 => K (.slice true 1 0 d0 (.exact d1) 8) [⟨false, .flat gv1 (.ints .u8 gv2)⟩, ⟨true, .flat d2 (.ints .u8 d3)⟩]) av0 rv3 (fun ov10 => (laws_toVectorS_su0.k1 N K gv1 gv2) (.exit 2) (laws_toVectorS_su0.sx1_0 av0 gv1 gv2 rv3 ov10)) m i8 gv9) := by
  intro m
  induction m with
  | zero => intros; rfl
  | succ m ih =>
    intro i8 gv9
    refine (laws_toVectorS_su0.b1_eq N K (fun s => xloop (xcode (E3 N) ents laws_toVectorS_su0.kp 1 N (cL (cK (cB (cA (cB (cB (cB (cB laws_toVectorS_su0.bd)))))))) 2) laws_toVectorS_su0.kp 1 2 m s (laws_toVectorS_su0.k1 N K gv1 gv2)) av0 gv1 gv2 rv3 i8 gv9).trans ?_
    simp only [ih]
    kernel_rfl

theorem laws_toVectorS_su0.l0_eq {ρ : Type} (N : Nat) (K : AV → Heap → Option ρ) (av0 : Nat) (gv1 : Nat) (gv2 : Nat → Int) (rv3 : Int) :
    ∀ (m : Nat) (i4 : Int) (gv5 : Nat → Int), xloop (xcode (E3 N) ents laws_toVectorS_su0.kp 1 N (cL (cK (cB (cA (cB (cB (cB laws_toVectorS_su0.bd))))))) 0) laws_toVectorS_su0.kp 1 0 m (laws_toVectorS_su0.st0 av0 gv1 gv2 rv3 i4 gv5) (laws_toVectorS_su0.k0 N K gv1 gv2) = (laws_toVectorS_su0.l0 N (fun d0 d1 d2 d3 => K (.slice true 1 0 d0 (.exact d1) 8) [⟨false, .flat gv1 (.ints .u8 gv2)⟩, ⟨true, .flat d2 (.ints .u8 d3)⟩]) av0 gv2 rv3 (fun ov7 => (laws_toVectorS_su0.k0 N K gv1 gv2) (.exit 0) (laws_toVectorS_su0.sx0_0 av0 gv1 gv2 rv3 ov7)) m i4 gv5) := by
  intro m
  induction m with
  | zero => intros; rfl
  | succ m ih =>
    intro i4 gv5
    refine (laws_toVectorS_su0.b0_eq N K (fun s => xloop (xcode (E3 N) ents laws_toVectorS_su0.kp 1 N (cL (cK (cB (cA (cB (cB (cB laws_toVectorS_su0.bd))))))) 0) laws_toVectorS_su0.kp 1 0 m s (laws_toVectorS_su0.k0 N K gv1 gv2)) av0 gv1 gv2 rv3 i4 gv5).trans ?_
    simp only [ih]
    kernel_rfl

theorem laws_toVectorS_su0.s_eq {ρ : Type} (N : Nat) (K : AV → Heap → Option ρ) (av0 : Nat) (gv1 : Nat) (gv2 : Nat → Int) :
    xbody (E3 N) ents laws_toVectorS_su0.kp N Go.Proofs.Try.f6 laws_toVectorS_su0.bd [.slice false 0 0 av0 .unk 8, .bool false] [⟨false, .flat gv1 (.ints .u8 gv2)⟩] K = (laws_toVectorS_su0.s N (fun d0 d1 d2 d3 => K (.slice true 1 0 d0 (.exact d1) 8) [⟨false, .flat gv1 (.ints .u8 gv2)⟩, ⟨true, .flat d2 (.ints .u8 d3)⟩]) (fun rv3 i4 gv5 => xloop (xcode (E3 N) ents laws_toVectorS_su0.kp 1 N (cL (cK (cB (cA (cB (cB (cB laws_toVectorS_su0.bd))))))) 0) laws_toVectorS_su0.kp 1 0 N (laws_toVectorS_su0.st0 av0 gv1 gv2 rv3 i4 gv5) (laws_toVectorS_su0.k0 N K gv1 gv2)) av0) := by kernel_rfl

theorem laws_toVectorS_su0.eq {ρ : Type} (N : Nat) (K : AV → Heap → Option ρ) (av0 : Nat) (gv1 : Nat) (gv2 : Nat → Int) :
    xbody (E3 N) ents laws_toVectorS_su0.kp N Go.Proofs.Try.f6 laws_toVectorS_su0.bd [.slice false 0 0 av0 .unk 8, .bool false] [⟨false, .flat gv1 (.ints .u8 gv2)⟩] K = (laws_toVectorS_su0 N (fun d0 d1 d2 d3 => K (.slice true 1 0 d0 (.exact d1) 8) [⟨false, .flat gv1 (.ints .u8 gv2)⟩, ⟨true, .flat d2 (.ints .u8 d3)⟩]) av0 gv1 gv2) := by
  refine (laws_toVectorS_su0.s_eq N K av0 gv1 gv2).trans ?_
  simp only [laws_toVectorS_su0.l0_eq, laws_toVectorS_su0.a0_0_eq, laws_toVectorS_su0.l1_eq, laws_toVectorS_su0.a1_0_eq]
  kernel_rfl

noncomputable def laws_toVectorS_su1.kp : Keeps := ⟨[(0, [0, 5, 6], [], []), (2, [0, 5, 7], [], [])], [(0, [0, 5], [], []), (2, [0, 5], [], [])], []⟩

noncomputable def laws_toVectorS_su1.bd : Code := bodyOf Go.Proofs.Try.f6

noncomputable def laws_toVectorS_su1.fin {ρ : Type} (N : Nat) (K : AV → Heap → Option ρ) (gv1 : Nat) (gv2 : Nat → Int) : XE → St → Option ρ := finK (E3 N) laws_toVectorS_su1.kp.fins Go.Proofs.Try.f6 [⟨false, .flat gv1 (.ints .u8 gv2)⟩] K

noncomputable def laws_toVectorS_su1.k0 {ρ : Type} (N : Nat) (K : AV → Heap → Option ρ) (gv1 : Nat) (gv2 : Nat → Int) : XE → St → Option ρ := (blockK laws_toVectorS_su1.kp 1 0 (seqK (xcode (E3 N) ents laws_toVectorS_su1.kp 1 N (cB (cB (cB (cB laws_toVectorS_su1.bd)))) 0) (laws_toVectorS_su1.fin N K gv1 gv2)))

theorem laws_toVectorS_su1.k0_mix {ρ : Type} (N : Nat) (K : AV → Heap → Option ρ) (gv1 : Nat) (gv2 : Nat → Int) : mixK (laws_toVectorS_su1.fin N K gv1 gv2 .ret) (laws_toVectorS_su1.k0 N K gv1 gv2) = (laws_toVectorS_su1.k0 N K gv1 gv2) := by
  funext e s; cases e <;> kernel_rfl

noncomputable def laws_toVectorS_su1.st0 (av0 : Nat) (gv1 : Nat) (gv2 : Nat → Int) (rv3 : Int) (i4 : Int) (gv5 : Nat → Int) : St := ⟨sl 51 [(0, .slice false 0 0 av0 .unk 8), (5, .slice true 1 0 ((IntKind.i64.wrap ((av0 : Int) + rv3))).toNat (.exact ((IntKind.i64.wrap ((av0 : Int) + rv3))).toNat) 8), (6, .int .i64 (i4))], [⟨false, .flat gv1 (.ints .u8 gv2)⟩, ⟨true, .flat (((IntKind.i64.wrap ((av0 : Int) + rv3))).toNat * 8) (.ints .u8 gv5)⟩]⟩

noncomputable def laws_toVectorS_su1.sx0_0 (av0 : Nat) (gv1 : Nat) (gv2 : Nat → Int) (rv3 : Int) (ov7 : Nat → Int) : St := ⟨sl 51 [(0, .slice false 0 0 av0 .unk 8), (5, .slice true 1 0 ((IntKind.i64.wrap ((av0 : Int) + rv3))).toNat (.exact ((IntKind.i64.wrap ((av0 : Int) + rv3))).toNat) 8)], [⟨false, .flat gv1 (.ints .u8 gv2)⟩, ⟨true, .flat (((IntKind.i64.wrap ((av0 : Int) + rv3))).toNat * 8) (.ints .u8 ov7)⟩]⟩

noncomputable def laws_toVectorS_su1.k1 {ρ : Type} (N : Nat) (K : AV → Heap → Option ρ) (gv1 : Nat) (gv2 : Nat → Int) : XE → St → Option ρ := (blockK laws_toVectorS_su1.kp 1 2 (seqK (xcode (E3 N) ents laws_toVectorS_su1.kp 1 N (cB (cB (cB (cB (cB laws_toVectorS_su1.bd))))) 0) (laws_toVectorS_su1.fin N K gv1 gv2)))

theorem laws_toVectorS_su1.k1_mix {ρ : Type} (N : Nat) (K : AV → Heap → Option ρ) (gv1 : Nat) (gv2 : Nat → Int) : mixK (laws_toVectorS_su1.fin N K gv1 gv2 .ret) (laws_toVectorS_su1.k1 N K gv1 gv2) = (laws_toVectorS_su1.k1 N K gv1 gv2) := by
  funext e s; cases e <;> kernel_rfl

noncomputable def laws_toVectorS_su1.st1 (av0 : Nat) (gv1 : Nat) (gv2 : Nat → Int) (rv3 : Int) (i8 : Int) (gv9 : Nat → Int) : St := ⟨sl 51 [(0, .slice false 0 0 av0 .unk 8), (5, .slice true 1 0 ((IntKind.i64.wrap ((av0 : Int) + rv3))).toNat (.exact ((IntKind.i64.wrap ((av0 : Int) + rv3))).toNat) 8), (7, .int .i64 (i8))], [⟨false, .flat gv1 (.ints .u8 gv2)⟩, ⟨true, .flat (((IntKind.i64.wrap ((av0 : Int) + rv3))).toNat * 8) (.ints .u8 gv9)⟩]⟩

noncomputable def laws_toVectorS_su1.sx1_0 (av0 : Nat) (gv1 : Nat) (gv2 : Nat → Int) (rv3 : Int) (ov10 : Nat → Int) : St := ⟨sl 51 [(0, .slice false 0 0 av0 .unk 8), (5, .slice true 1 0 ((IntKind.i64.wrap ((av0 : Int) + rv3))).toNat (.exact ((IntKind.i64.wrap ((av0 : Int) + rv3))).toNat) 8)], [⟨false, .flat gv1 (.ints .u8 gv2)⟩, ⟨true, .flat (((IntKind.i64.wrap ((av0 : Int) + rv3))).toNat * 8) (.ints .u8 ov10)⟩]⟩

theorem laws_toVectorS_su1.b1_gen {ρ : Type} (N : Nat) (K : AV → Heap → Option ρ) (L1 : St → Option ρ) (kv : XE → St → Option ρ) (av0 : Nat) (gv1 : Nat) (gv2 : Nat → Int) (rv3 : Int) (i8 : Int) (gv9 : Nat → Int) :
    xcode (E3 N) ents laws_toVectorS_su1.kp 1 N (cL (cK (cB (cA (cB (cB (cB (cB laws_toVectorS_su1.bd)))))))) 2 (laws_toVectorS_su1.st1 av0 gv1 gv2 rv3 i8 gv9) (roundK laws_toVectorS_su1.kp 1 2 L1 (mixK (laws_toVectorS_su1.fin N K gv1 gv2 .ret) kv)) = (laws_toVectorS_su1.b1 N (K (.nils) [⟨false, .flat gv1 (.ints .u8 gv2)⟩]) (fun d0 d1 d2 d3 => K (.slice true 1 0 d0 (.exact d1) 8) [⟨false, .flat gv1 (.ints .u8 gv2)⟩, ⟨true, .flat d2 (.ints .u8 d3)⟩]) (fun i8 gv9 => L1 (laws_toVectorS_su1.st1 av0 gv1 gv2 rv3 i8 gv9)) (fun ov10 => kv (.exit 2) (laws_toVectorS_su1.sx1_0 av0 gv1 gv2 rv3 ov10)) av0 rv3 i8 gv9) := by kernel_rfl

theorem laws_toVectorS_su1.b1_eq {ρ : Type} (N : Nat) (K : AV → Heap → Option ρ) (L1 : St → Option ρ) (av0 : Nat) (gv1 : Nat) (gv2 : Nat → Int) (rv3 : Int) (i8 : Int) (gv9 : Nat → Int) :
    xcode (E3 N) ents laws_toVectorS_su1.kp 1 N (cL (cK (cB (cA (cB (cB (cB (cB laws_toVectorS_su1.bd)))))))) 2 (laws_toVectorS_su1.st1 av0 gv1 gv2 rv3 i8 gv9) (roundK laws_toVectorS_su1.kp 1 2 L1 (laws_toVectorS_su1.k1 N K gv1 gv2)) = (laws_toVectorS_su1.b1 N (K (.nils) [⟨false, .flat gv1 (.ints .u8 gv2)⟩]) (fun d0 d1 d2 d3 => K (.slice true 1 0 d0 (.exact d1) 8) [⟨false, .flat gv1 (.ints .u8 gv2)⟩, ⟨true, .flat d2 (.ints .u8 d3)⟩]) (fun i8 gv9 => L1 (laws_toVectorS_su1.st1 av0 gv1 gv2 rv3 i8 gv9)) (fun ov10 => (laws_toVectorS_su1.k1 N K gv1 gv2) (.exit 2) (laws_toVectorS_su1.sx1_0 av0 gv1 gv2 rv3 ov10)) av0 rv3 i8 gv9) := by
  have h := laws_toVectorS_su1.b1_gen N K L1 (laws_toVectorS_su1.k1 N K gv1 gv2) av0 gv1 gv2 rv3 i8 gv9
  rw [laws_toVectorS_su1.k1_mix] at h
  exact h

theorem laws_toVectorS_su1.a1_0_eq {ρ : Type} (N : Nat) (K : AV → Heap → Option ρ) (av0 : Nat) (gv1 : Nat) (gv2 : Nat → Int) (rv3 : Int) (ov10 : Nat → Int) :
    (laws_toVectorS_su1.k1 N K gv1 gv2) (.exit 2) (laws_toVectorS_su1.sx1_0 av0 gv1 gv2 rv3 ov10) = (laws_toVectorS_su1.a1_0 N (K (.nils) [⟨false, .flat gv1 (.ints .u8 gv2)⟩]) (fun d0 d1 d2 d3 => K (.slice true 1 0 d0 (.exact d1) 8) [⟨false, .flat gv1 (.ints .u8 gv2)⟩, ⟨true, .flat d2 (.ints .u8 d3)⟩]) av0 rv3 ov10) := by kernel_rfl

theorem laws_toVectorS_su1.b0_gen {ρ : Type} (N : Nat) (K : AV → Heap → Option ρ) (L0 : St → Option ρ) (kv : XE → St → Option ρ) (av0 : Nat) (gv1 : Nat) (gv2 : Nat → Int) (rv3 : Int) (i4 : Int) (gv5 : Nat → Int) :
    xcode (E3 N) ents laws_toVectorS_su1.kp 1 N (cL (cK (cB (cA (cB (cB (cB laws_toVectorS_su1.bd))))))) 0 (laws_toVectorS_su1.st0 av0 gv1 gv2 rv3 i4 gv5) (roundK laws_toVectorS_su1.kp 1 0 L0 (mixK (laws_toVectorS_su1.fin N K gv1 gv2 .ret) kv)) = (laws_toVectorS_su1.b0 N (K (.nils) [⟨false, .flat gv1 (.ints .u8 gv2)⟩]) (fun d0 d1 d2 d3 => K (.slice true 1 0 d0 (.exact d1) 8) [⟨false, .flat gv1 (.ints .u8 gv2)⟩, ⟨true, .flat d2 (.ints .u8 d3)⟩]) (fun i4 gv5 => L0 (laws_toVectorS_su1.st0 av0 gv1 gv2 rv3 i4 gv5)) (fun ov7 => kv (.exit 0) (laws_toVectorS_su1.sx0_0 av0 gv1 gv2 rv3 ov7)) av0 gv2 rv3 i4 gv5) := by kernel_rfl

theorem laws_toVectorS_su1.b0_eq {ρ : Type} (N : Nat) (K : AV → Heap → Option ρ) (L0 : St → Option ρ) (av0 : Nat) (gv1 : Nat) (gv2 : Nat → Int) (rv3 : Int) (i4 : Int) (gv5 : Nat → Int) :
    xcode (E3 N) ents laws_toVectorS_su1.kp 1 N (cL (cK (cB (cA (cB (cB (cB laws_toVectorS_su1.bd))))))) 0 (laws_toVectorS_su1.st0 av0 gv1 gv2 rv3 i4 gv5) (roundK laws_toVectorS_su1.kp 1 0 L0 (laws_toVectorS_su1.k0 N K gv1 gv2)) = (laws_toVectorS_su1.b0 N (K (.nils) [⟨false, .flat gv1 (.ints .u8 gv2)⟩]) (fun d0 d1 d2 d3 => K (.slice true 1 0 d0 (.exact d1) 8) [⟨false, .flat gv1 (.ints .u8 gv2)⟩, ⟨true, .flat d2 (.ints .u8 d3)⟩]) (fun i4 gv5 => L0 (laws_toVectorS_su1.st0 av0 gv1 gv2 rv3 i4 gv5)) (fun ov7 => (laws_toVectorS_su1.k0 N K gv1 gv2) (.exit 0) (laws_toVectorS_su1.sx0_0 av0 gv1 gv2 rv3 ov7)) av0 gv2 rv3 i4 gv5) := by
  have h := laws_toVectorS_su1.b0_gen N K L0 (laws_toVectorS_su1.k0 N K gv1 gv2) av0 gv1 gv2 rv3 i4 gv5
  rw [laws_toVectorS_su1.k0_mix] at h
  exact h

theorem laws_toVectorS_su1.a0_0_eq {ρ : Type} (N : Nat) (K : AV → Heap → Option ρ) (av0 : Nat) (gv1 : Nat) (gv2 : Nat → Int) (rv3 : Int) (ov7 : Nat → Int) :
    (laws_toVectorS_su1.k0 N K gv1 gv2) (.exit 0) (laws_toVectorS_su1.sx0_0 av0 gv1 gv2 rv3 ov7) = (laws_toVectorS_su1.a0_0 N (K (.nils) [⟨false, .flat gv1 (.ints .u8 gv2)⟩]) (fun d0 d1 d2 d3 => K (.slice true 1 0 d0 (.exact d1) 8) [⟨false, .flat gv1 (.ints .u8 gv2)⟩, ⟨true, .flat d2 (.ints .u8 d3)⟩]) (fun i8 gv9 => xloop (xcode (E3 N) ents laws_toVectorS_su1.kp 1 N (cL (cK (cB (cA (cB (cB (cB (cB laws_toVectorS_su1.bd)))))))) 2) laws_toVectorS_su1.kp 1 2 N (laws_toVectorS_su1.st1 av0 gv1 gv2 rv3 i8 gv9) (laws_toVectorS_su1.k1 N K gv1 gv2)) av0 ov7) := by kernel_rfl

theorem laws_toVectorS_su1.l1_eq {ρ : Type} (N : Nat) (K : AV → Heap → Option ρ) (av0 : Nat) (gv1 : Nat) (gv2 : Nat → Int) (rv3 : Int) :
    ∀ (m : Nat) (i8 : Int) (gv9 : Nat → Int), xloop (xcode (E3 N) ents laws_toVectorS_su1.kp 1 N (cL (cK (cB (cA (cB (cB (cB (cB laws_toVectorS_su1.bd)))))))) 2) laws_toVectorS_su1.kp 1 2 m (laws_toVectorS_su1.st1 av0 gv1 gv2 rv3 i8 gv9) (laws_toVectorS_su1.k1 N K gv1 gv2) = (laws_toVectorS_su1.l1 N (K (.nils) [⟨false, .flat gv1 (.ints .u8 gv2)⟩]) (fun d0 d1 d2 d3 => K (.slice true 1 0 d0 (.exact d1) 8) [⟨false, .flat gv1 (.ints .u8 gv2)⟩, ⟨true, .flat d2 (.ints .u8 d3)⟩]) av0 rv3 (fun ov10 => (laws_toVectorS_su1.k1 N K gv1 gv2) (.exit 2) (laws_toVectorS_su1.sx1_0 av0 gv1 gv2 rv3 ov10)) m i8 gv9) := by
  intro m
  induction m with
  | zero => intros; rfl
  | succ m ih =>
    intro i8 gv9
    refine (laws_toVectorS_su1.b1_eq N K (fun s => xloop (xcode (E3 N) ents laws_toVectorS_su1.kp 1 N (cL (cK (cB (cA (cB (cB (cB (cB laws_toVectorS_su1.bd)))))))) 2) laws_toVectorS_su1.kp 1 2 m s (laws_toVectorS_su1.k1 N K gv1 gv2)) av0 gv1 gv2 rv3 i8 gv9).trans ?_
    simp only [ih]
    kernel_rfl

theorem laws_toVectorS_su1.l0_eq {ρ : Type} (N : Nat) (K : AV → Heap → Option ρ) (av0 : Nat) (gv1 : Nat) (gv2 : Nat → Int) (rv3 : Int) :
    ∀ (m : Nat) (i4 : Int) (gv5 : Nat → Int), xloop (xcode (E3 N) ents laws_toVectorS_su1.kp 1 N (cL (cK (cB (cA (cB (cB (cB laws_toVectorS_su1.bd))))))) 0) laws_toVectorS_su1.kp 1 0 m (laws_toVectorS_su1.st0 av0 gv1 gv2 rv3 i4 gv5) (laws_toVectorS_su1.k0 N K gv1 gv2) = (laws_toVectorS_su1.l0 N (K (.nils) [⟨false, .flat gv1 (.ints .u8 gv2)⟩]) (fun d0 d1 d2 d3 => K (.slice true 1 0 d0 (.exact d1) 8) [⟨false, .flat gv1 (.ints .u8 gv2)⟩, ⟨true, .flat d2 (.ints .u8 d3)⟩]) av0 gv2 rv3 (fun ov7 => (laws_toVectorS_su1.k0 N K gv1 gv2) (.exit 0) (laws_toVectorS_su1.sx0_0 av0 gv1 gv2 rv3 ov7)) m i4 gv5) := by
  intro m
  induction m with
  | zero => intros; rfl
  | succ m ih =>
    intro i4 gv5
    refine (laws_toVectorS_su1.b0_eq N K (fun s => xloop (xcode (E3 N) ents laws_toVectorS_su1.kp 1 N (cL (cK (cB (cA (cB (cB (cB laws_toVectorS_su1.bd))))))) 0) laws_toVectorS_su1.kp 1 0 m s (laws_toVectorS_su1.k0 N K gv1 gv2)) av0 gv1 gv2 rv3 i4 gv5).trans ?_
    simp only [ih]
    kernel_rfl

theorem laws_toVectorS_su1.s_eq {ρ : Type} (N : Nat) (K : AV → Heap → Option ρ) (av0 : Nat) (gv1 : Nat) (gv2 : Nat → Int) :
    xbody (E3 N) ents laws_toVectorS_su1.kp N Go.Proofs.Try.f6 laws_toVectorS_su1.bd [.slice false 0 0 av0 .unk 8, .bool true] [⟨false, .flat gv1 (.ints .u8 gv2)⟩] K = (laws_toVectorS_su1.s N (K (.nils) [⟨false, .flat gv1 (.ints .u8 gv2)⟩]) (fun d0 d1 d2 d3 => K (.slice true 1 0 d0 (.exact d1) 8) [⟨false, .flat gv1 (.ints .u8 gv2)⟩, ⟨true, .flat d2 (.ints .u8 d3)⟩]) (fun rv3 i4 gv5 => xloop (xcode (E3 N) ents laws_toVectorS_su1.kp 1 N (cL (cK (cB (cA (cB (cB (cB laws_toVectorS_su1.bd))))))) 0) laws_toVectorS_su1.kp 1 0 N (laws_toVectorS_su1.st0 av0 gv1 gv2 rv3 i4 gv5) (laws_toVectorS_su1.k0 N K gv1 gv2)) av0) := by kernel_rfl

theorem laws_toVectorS_su1.eq {ρ : Type} (N : Nat) (K : AV → Heap → Option ρ) (av0 : Nat) (gv1 : Nat) (gv2 : Nat → Int) :
    xbody (E3 N) ents laws_toVectorS_su1.kp N Go.Proofs.Try.f6 laws_toVectorS_su1.bd [.slice false 0 0 av0 .unk 8, .bool true] [⟨false, .flat gv1 (.ints .u8 gv2)⟩] K = (laws_toVectorS_su1 N (K (.nils) [⟨false, .flat gv1 (.ints .u8 gv2)⟩]) (fun d0 d1 d2 d3 => K (.slice true 1 0 d0 (.exact d1) 8) [⟨false, .flat gv1 (.ints .u8 gv2)⟩, ⟨true, .flat d2 (.ints .u8 d3)⟩]) av0 gv1 gv2) := by
  refine (laws_toVectorS_su1.s_eq N K av0 gv1 gv2).trans ?_
  simp only [laws_toVectorS_su1.l0_eq, laws_toVectorS_su1.a0_0_eq, laws_toVectorS_su1.l1_eq, laws_toVectorS_su1.a1_0_eq]
  kernel_rfl

noncomputable def laws_toVectorS_su0.en (N : Nat) (ρ : Type) : List AV → Heap → (AV → Heap → Option ρ) → Option ρ
  | [.slice false 0 0 av0 .unk 8, .bool false], [⟨false, .flat gv1 (.ints .u8 gv2)⟩], K => (laws_toVectorS_su0 N (fun d0 d1 d2 d3 => K (.slice true 1 0 d0 (.exact d1) 8) [⟨false, .flat gv1 (.ints .u8 gv2)⟩, ⟨true, .flat d2 (.ints .u8 d3)⟩]) av0 gv1 gv2)
  | [.slice false 0 0 av0 .unk 8, .bool true], [⟨false, .flat gv1 (.ints .u8 gv2)⟩], K => (laws_toVectorS_su1 N (K (.nils) [⟨false, .flat gv1 (.ints .u8 gv2)⟩]) (fun d0 d1 d2 d3 => K (.slice true 1 0 d0 (.exact d1) 8) [⟨false, .flat gv1 (.ints .u8 gv2)⟩, ⟨true, .flat d2 (.ints .u8 d3)⟩]) av0 gv1 gv2)
  | _, _, _ => none

theorem laws_toVectorS_su0.en_ok (N : Nat) (hE : EnvOk (E3 N) ents) (ρ : Type) (args : List AV) (sh : Heap) (K : AV → Heap → Option ρ) (r : ρ) (h : laws_toVectorS_su0.en N ρ args sh K = some r) : ∃ v sh', K v sh' = some r ∧ FnOk (E3 N).P 6 args sh v sh' := by
  unfold laws_toVectorS_su0.en at h
  split at h
  · exact fn_ok hE (kp := laws_toVectorS_su0.kp) (N := N) Go.Proofs.Try.func6 (c := laws_toVectorS_su0.bd) (by kernel_rfl) ((laws_toVectorS_su0.eq N _ _ _ _).trans h)
  · exact fn_ok hE (kp := laws_toVectorS_su1.kp) (N := N) Go.Proofs.Try.func6 (c := laws_toVectorS_su1.bd) (by kernel_rfl) ((laws_toVectorS_su1.eq N _ _ _ _).trans h)
  · cases h

noncomputable def E4 (N : Nat) : Env := (E3 N).add 6 (laws_toVectorS_su0.en N)

theorem E4_ok (N : Nat) : EnvOk (E4 N) ents := Env.add_ok (E3_ok N) (laws_toVectorS_su0.en_ok N (E3_ok N))

noncomputable def spec_l01In.kp : Keeps := ⟨[], [], []⟩

noncomputable def spec_l01In.bd : Code := bodyOf Go.Proofs.Try.f31

noncomputable def spec_l01In.fin {ρ : Type} (N : Nat) (K : AV → Heap → Option ρ) : XE → St → Option ρ := finK (E4 N) spec_l01In.kp.fins Go.Proofs.Try.f31 [] K

theorem spec_l01In.eq {ρ : Type} (N : Nat) (K : AV → Heap → Option ρ) (nv0 : Int) (low1 : Int) (high2 : Int) :
    xbody (E4 N) ents spec_l01In.kp N Go.Proofs.Try.f31 spec_l01In.bd [.int .i64 (nv0), .int .i64 (low1), .int .i64 (high2)] [] K = (spec_l01In N (fun d0 => K (.bool (d0)) []) nv0 low1 high2) := by kernel_rfl

noncomputable def spec_l01In.en (N : Nat) (ρ : Type) : List AV → Heap → (AV → Heap → Option ρ) → Option ρ
  | [.int .i64 (nv0), .int .i64 (low1), .int .i64 (high2)], [], K => (spec_l01In N (fun d0 => K (.bool (d0)) []) nv0 low1 high2)
  | _, _, _ => none

theorem spec_l01In.en_ok (N : Nat) (hE : EnvOk (E4 N) ents) (ρ : Type) (args : List AV) (sh : Heap) (K : AV → Heap → Option ρ) (r : ρ) (h : spec_l01In.en N ρ args sh K = some r) : ∃ v sh', K v sh' = some r ∧ FnOk (E4 N).P 31 args sh v sh' := by
  unfold spec_l01In.en at h
  split at h
  · exact fn_ok hE (kp := spec_l01In.kp) (N := N) Go.Proofs.Try.func31 (c := spec_l01In.bd) (by kernel_rfl) ((spec_l01In.eq N _ _ _ _).trans h)
  · cases h

noncomputable def E5 (N : Nat) : Env := (E4 N).add 31 (spec_l01In.en N)

theorem E5_ok (N : Nat) : EnvOk (E5 N) ents := Env.add_ok (E4_ok N) (spec_l01In.en_ok N (E4_ok N))

noncomputable def spec_l01Prime.kp : Keeps := ⟨[(0, [0, 3], [], [])], [(0, [0], [], [])], []⟩

noncomputable def spec_l01Prime.bd : Code := bodyOf Go.Proofs.Try.f30

noncomputable def spec_l01Prime.fin {ρ : Type} (N : Nat) (K : AV → Heap → Option ρ) : XE → St → Option ρ := finK (E5 N) spec_l01Prime.kp.fins Go.Proofs.Try.f30 [] K

noncomputable def spec_l01Prime.k0 {ρ : Type} (N : Nat) (K : AV → Heap → Option ρ) : XE → St → Option ρ := (blockK spec_l01Prime.kp 0 0 (seqK (xcode (E5 N) ents spec_l01Prime.kp 0 N (cB (cB spec_l01Prime.bd)) 0) (spec_l01Prime.fin N K)))

theorem spec_l01Prime.k0_mix {ρ : Type} (N : Nat) (K : AV → Heap → Option ρ) : mixK (spec_l01Prime.fin N K .ret) (spec_l01Prime.k0 N K) = (spec_l01Prime.k0 N K) := by
  funext e s; cases e <;> kernel_rfl

noncomputable def spec_l01Prime.st0 (p0 : Int) (k1 : Int) : St := ⟨sl 19 [(0, .int .i64 (p0)), (3, .int .i64 (k1))], []⟩

noncomputable def spec_l01Prime.sx0_0 (p0 : Int) : St := ⟨sl 19 [(0, .int .i64 (p0))], []⟩

theorem spec_l01Prime.b0_gen {ρ : Type} (N : Nat) (K : AV → Heap → Option ρ) (L0 : St → Option ρ) (kv : XE → St → Option ρ) (p0 : Int) (k1 : Int) :
    xcode (E5 N) ents spec_l01Prime.kp 0 N (cL (cK (cB (cA (cB spec_l01Prime.bd))))) 0 (spec_l01Prime.st0 p0 k1) (roundK spec_l01Prime.kp 0 0 L0 (mixK (spec_l01Prime.fin N K .ret) kv)) = (spec_l01Prime.b0 N (fun d0 => K (.bool (d0)) []) (fun k1 => L0 (spec_l01Prime.st0 p0 k1)) (kv (.exit 0) (spec_l01Prime.sx0_0 p0)) p0 k1) := by kernel_rfl

theorem spec_l01Prime.b0_eq {ρ : Type} (N : Nat) (K : AV → Heap → Option ρ) (L0 : St → Option ρ) (p0 : Int) (k1 : Int) :
    xcode (E5 N) ents spec_l01Prime.kp 0 N (cL (cK (cB (cA (cB spec_l01Prime.bd))))) 0 (spec_l01Prime.st0 p0 k1) (roundK spec_l01Prime.kp 0 0 L0 (spec_l01Prime.k0 N K)) = (spec_l01Prime.b0 N (fun d0 => K (.bool (d0)) []) (fun k1 => L0 (spec_l01Prime.st0 p0 k1)) ((spec_l01Prime.k0 N K) (.exit 0) (spec_l01Prime.sx0_0 p0)) p0 k1) := by
  have h := spec_l01Prime.b0_gen N K L0 (spec_l01Prime.k0 N K) p0 k1
  rw [spec_l01Prime.k0_mix] at h
  exact h

theorem spec_l01Prime.a0_0_eq {ρ : Type} (N : Nat) (K : AV → Heap → Option ρ) (p0 : Int) :
    (spec_l01Prime.k0 N K) (.exit 0) (spec_l01Prime.sx0_0 p0) = (spec_l01Prime.a0_0 N (fun d0 => K (.bool (d0)) []) p0) := by kernel_rfl

theorem spec_l01Prime.l0_eq {ρ : Type} (N : Nat) (K : AV → Heap → Option ρ) (p0 : Int) :
    ∀ (m : Nat) (k1 : Int), xloop (xcode (E5 N) ents spec_l01Prime.kp 0 N (cL (cK (cB (cA (cB spec_l01Prime.bd))))) 0) spec_l01Prime.kp 0 0 m (spec_l01Prime.st0 p0 k1) (spec_l01Prime.k0 N K) = (spec_l01Prime.l0 N (fun d0 => K (.bool (d0)) []) p0 ((spec_l01Prime.k0 N K) (.exit 0) (spec_l01Prime.sx0_0 p0)) m k1) := by
  intro m
  induction m with
  | zero => intros; rfl
  | succ m ih =>
    intro k1
    refine (spec_l01Prime.b0_eq N K (fun s => xloop (xcode (E5 N) ents spec_l01Prime.kp 0 N (cL (cK (cB (cA (cB spec_l01Prime.bd))))) 0) spec_l01Prime.kp 0 0 m s (spec_l01Prime.k0 N K)) p0 k1).trans ?_
    simp only [ih]
    kernel_rfl

theorem spec_l01Prime.s_eq {ρ : Type} (N : Nat) (K : AV → Heap → Option ρ) (p0 : Int) :
    xbody (E5 N) ents spec_l01Prime.kp N Go.Proofs.Try.f30 spec_l01Prime.bd [.int .i64 (p0)] [] K = (spec_l01Prime.s N (fun d0 => K (.bool (d0)) []) (fun k1 => xloop (xcode (E5 N) ents spec_l01Prime.kp 0 N (cL (cK (cB (cA (cB spec_l01Prime.bd))))) 0) spec_l01Prime.kp 0 0 N (spec_l01Prime.st0 p0 k1) (spec_l01Prime.k0 N K))) := by kernel_rfl

theorem spec_l01Prime.eq {ρ : Type} (N : Nat) (K : AV → Heap → Option ρ) (p0 : Int) :
    xbody (E5 N) ents spec_l01Prime.kp N Go.Proofs.Try.f30 spec_l01Prime.bd [.int .i64 (p0)] [] K = (spec_l01Prime N (fun d0 => K (.bool (d0)) []) p0) := by
  refine (spec_l01Prime.s_eq N K p0).trans ?_
  simp only [spec_l01Prime.l0_eq, spec_l01Prime.a0_0_eq]
  kernel_rfl

noncomputable def spec_l01Prime.en (N : Nat) (ρ : Type) : List AV → Heap → (AV → Heap → Option ρ) → Option ρ
  | [.int .i64 (p0)], [], K => (spec_l01Prime N (fun d0 => K (.bool (d0)) []) p0)
  | _, _, _ => none

theorem spec_l01Prime.en_ok (N : Nat) (hE : EnvOk (E5 N) ents) (ρ : Type) (args : List AV) (sh : Heap) (K : AV → Heap → Option ρ) (r : ρ) (h : spec_l01Prime.en N ρ args sh K = some r) : ∃ v sh', K v sh' = some r ∧ FnOk (E5 N).P 30 args sh v sh' := by
  unfold spec_l01Prime.en at h
  split at h
  · exact fn_ok hE (kp := spec_l01Prime.kp) (N := N) Go.Proofs.Try.func30 (c := spec_l01Prime.bd) (by kernel_rfl) ((spec_l01Prime.eq N _ _).trans h)
  · cases h

noncomputable def E6 (N : Nat) : Env := (E5 N).add 30 (spec_l01Prime.en N)

theorem E6_ok (N : Nat) : EnvOk (E6 N) ents := Env.add_ok (E5_ok N) (spec_l01Prime.en_ok N (E5_ok N))

noncomputable def spec_l01Sizes.kp : Keeps := ⟨[], [], []⟩

noncomputable def spec_l01Sizes.bd : Code := bodyOf Go.Proofs.Try.f21

noncomputable def spec_l01Sizes.fin {ρ : Type} (N : Nat) (K : AV → Heap → Option ρ) : XE → St → Option ρ := finK (E6 N) spec_l01Sizes.kp.fins Go.Proofs.Try.f21 [] K

theorem spec_l01Sizes.eq {ρ : Type} (N : Nat) (K : AV → Heap → Option ρ) (p0 : Int) (nv1 : Int) :
    xbody (E6 N) ents spec_l01Sizes.kp N Go.Proofs.Try.f21 spec_l01Sizes.bd [.int .i64 (p0), .int .i64 (nv1)] [] K = (spec_l01Sizes N (fun d0 => K (.bool (d0)) []) p0 nv1) := by kernel_rfl

noncomputable def spec_l01Sizes.en (N : Nat) (ρ : Type) : List AV → Heap → (AV → Heap → Option ρ) → Option ρ
  | [.int .i64 (p0), .int .i64 (nv1)], [], K => (spec_l01Sizes N (fun d0 => K (.bool (d0)) []) p0 nv1)
  | _, _, _ => none

theorem spec_l01Sizes.en_ok (N : Nat) (hE : EnvOk (E6 N) ents) (ρ : Type) (args : List AV) (sh : Heap) (K : AV → Heap → Option ρ) (r : ρ) (h : spec_l01Sizes.en N ρ args sh K = some r) : ∃ v sh', K v sh' = some r ∧ FnOk (E6 N).P 21 args sh v sh' := by
  unfold spec_l01Sizes.en at h
  split at h
  · exact fn_ok hE (kp := spec_l01Sizes.kp) (N := N) Go.Proofs.Try.func21 (c := spec_l01Sizes.bd) (by kernel_rfl) ((spec_l01Sizes.eq N _ _ _).trans h)
  · cases h

noncomputable def E7 (N : Nat) : Env := (E6 N).add 21 (spec_l01Sizes.en N)

theorem E7_ok (N : Nat) : EnvOk (E7 N) ents := Env.add_ok (E6_ok N) (spec_l01Sizes.en_ok N (E6_ok N))

noncomputable def spec_l01Vector.kp : Keeps := ⟨[(0, [0, 1, 5, 7], [], [])], [(0, [], [], [])], []⟩

noncomputable def spec_l01Vector.bd : Code := bodyOf Go.Proofs.Try.f22

noncomputable def spec_l01Vector.fin {ρ : Type} (N : Nat) (K : AV → Heap → Option ρ) : XE → St → Option ρ := finK (E7 N) spec_l01Vector.kp.fins Go.Proofs.Try.f22 [] K

noncomputable def spec_l01Vector.k0 {ρ : Type} (N : Nat) (K : AV → Heap → Option ρ) : XE → St → Option ρ := (blockK spec_l01Vector.kp 0 0 (seqK (xcode (E7 N) ents spec_l01Vector.kp 0 N (cB (cB spec_l01Vector.bd)) 0) (spec_l01Vector.fin N K)))

theorem spec_l01Vector.k0_mix {ρ : Type} (N : Nat) (K : AV → Heap → Option ρ) : mixK (spec_l01Vector.fin N K .ret) (spec_l01Vector.k0 N K) = (spec_l01Vector.k0 N K) := by
  funext e s; cases e <;> kernel_rfl

noncomputable def spec_l01Vector.st0 (p0 : Int) (nv1 : Int) (v2 : Nat → Int) (i3 : Int) : St := ⟨sl 29 [(0, .int .i64 (p0)), (1, .int .i64 (nv1)), (5, .sptr [(0, 8)]), (7, .int .i64 (i3))], [⟨true, .flat 8 (.ints .u8 v2)⟩]⟩

noncomputable def spec_l01Vector.sx0_0 : St := ⟨sl 29 [], []⟩

theorem spec_l01Vector.b0_gen {ρ : Type} (N : Nat) (K : AV → Heap → Option ρ) (L0 : St → Option ρ) (kv : XE → St → Option ρ) (p0 : Int) (nv1 : Int) (v2 : Nat → Int) (i3 : Int) :
    xcode (E7 N) ents spec_l01Vector.kp 0 N (cL (cK (cB (cA (cB spec_l01Vector.bd))))) 0 (spec_l01Vector.st0 p0 nv1 v2 i3) (roundK spec_l01Vector.kp 0 0 L0 (mixK (spec_l01Vector.fin N K .ret) kv)) = (spec_l01Vector.b0 N (fun d0 => K (.bool (d0)) []) (fun i3 => L0 (spec_l01Vector.st0 p0 nv1 v2 i3)) (kv (.exit 0) (spec_l01Vector.sx0_0)) p0 nv1 v2 i3) := by kernel_rfl

theorem spec_l01Vector.b0_eq {ρ : Type} (N : Nat) (K : AV → Heap → Option ρ) (L0 : St → Option ρ) (p0 : Int) (nv1 : Int) (v2 : Nat → Int) (i3 : Int) :
    xcode (E7 N) ents spec_l01Vector.kp 0 N (cL (cK (cB (cA (cB spec_l01Vector.bd))))) 0 (spec_l01Vector.st0 p0 nv1 v2 i3) (roundK spec_l01Vector.kp 0 0 L0 (spec_l01Vector.k0 N K)) = (spec_l01Vector.b0 N (fun d0 => K (.bool (d0)) []) (fun i3 => L0 (spec_l01Vector.st0 p0 nv1 v2 i3)) ((spec_l01Vector.k0 N K) (.exit 0) (spec_l01Vector.sx0_0)) p0 nv1 v2 i3) := by
  have h := spec_l01Vector.b0_gen N K L0 (spec_l01Vector.k0 N K) p0 nv1 v2 i3
  rw [spec_l01Vector.k0_mix] at h
  exact h

theorem spec_l01Vector.a0_0_eq {ρ : Type} (N : Nat) (K : AV → Heap → Option ρ) :
    (spec_l01Vector.k0 N K) (.exit 0) (spec_l01Vector.sx0_0) = (spec_l01Vector.a0_0 N (fun d0 => K (.bool (d0)) [])) := by kernel_rfl

theorem spec_l01Vector.l0_eq {ρ : Type} (N : Nat) (K : AV → Heap → Option ρ) (p0 : Int) (nv1 : Int) (v2 : Nat → Int) :
    ∀ (m : Nat) (i3 : Int), xloop (xcode (E7 N) ents spec_l01Vector.kp 0 N (cL (cK (cB (cA (cB spec_l01Vector.bd))))) 0) spec_l01Vector.kp 0 0 m (spec_l01Vector.st0 p0 nv1 v2 i3) (spec_l01Vector.k0 N K) = (spec_l01Vector.l0 N (fun d0 => K (.bool (d0)) []) p0 nv1 v2 ((spec_l01Vector.k0 N K) (.exit 0) (spec_l01Vector.sx0_0)) m i3) := by
  intro m
  induction m with
  | zero => intros; rfl
  | succ m ih =>
    intro i3
    refine (spec_l01Vector.b0_eq N K (fun s => xloop (xcode (E7 N) ents spec_l01Vector.kp 0 N (cL (cK (cB (cA (cB spec_l01Vector.bd))))) 0) spec_l01Vector.kp 0 0 m s (spec_l01Vector.k0 N K)) p0 nv1 v2 i3).trans ?_
    simp only [ih]
    kernel_rfl

theorem spec_l01Vector.s_eq {ρ : Type} (N : Nat) (K : AV → Heap → Option ρ) (p0 : Int) (nv1 : Int) (v2 : Nat → Int) :
    xbody (E7 N) ents spec_l01Vector.kp N Go.Proofs.Try.f22 spec_l01Vector.bd [.int .i64 (p0), .int .i64 (nv1), .agg [⟨.u8, 8, v2⟩]] [] K = (spec_l01Vector.s N (fun d0 => K (.bool (d0)) []) (fun i3 => xloop (xcode (E7 N) ents spec_l01Vector.kp 0 N (cL (cK (cB (cA (cB spec_l01Vector.bd))))) 0) spec_l01Vector.kp 0 0 N (spec_l01Vector.st0 p0 nv1 v2 i3) (spec_l01Vector.k0 N K))) := by kernel_rfl

theorem spec_l01Vector.eq {ρ : Type} (N : Nat) (K : AV → Heap → Option ρ) (p0 : Int) (nv1 : Int) (v2 : Nat → Int) :
    xbody (E7 N) ents spec_l01Vector.kp N Go.Proofs.Try.f22 spec_l01Vector.bd [.int .i64 (p0), .int .i64 (nv1), .agg [⟨.u8, 8, v2⟩]] [] K = (spec_l01Vector N (fun d0 => K (.bool (d0)) []) p0 nv1 v2) := by
  refine (spec_l01Vector.s_eq N K p0 nv1 v2).trans ?_
  simp only [spec_l01Vector.l0_eq, spec_l01Vector.a0_0_eq]
  kernel_rfl

noncomputable def spec_l01Vector.en (N : Nat) (ρ : Type) : List AV → Heap → (AV → Heap → Option ρ) → Option ρ
  | [.int .i64 (p0), .int .i64 (nv1), .agg [⟨.u8, 8, v2⟩]], [], K => (spec_l01Vector N (fun d0 => K (.bool (d0)) []) p0 nv1 v2)
  | _, _, _ => none

theorem spec_l01Vector.en_ok (N : Nat) (hE : EnvOk (E7 N) ents) (ρ : Type) (args : List AV) (sh : Heap) (K : AV → Heap → Option ρ) (r : ρ) (h : spec_l01Vector.en N ρ args sh K = some r) : ∃ v sh', K v sh' = some r ∧ FnOk (E7 N).P 22 args sh v sh' := by
  unfold spec_l01Vector.en at h
  split at h
  · exact fn_ok hE (kp := spec_l01Vector.kp) (N := N) Go.Proofs.Try.func22 (c := spec_l01Vector.bd) (by kernel_rfl) ((spec_l01Vector.eq N _ _ _ _).trans h)
  · cases h

noncomputable def E8 (N : Nat) : Env := (E7 N).add 22 (spec_l01Vector.en N)

theorem E8_ok (N : Nat) : EnvOk (E8 N) ents := Env.add_ok (E7_ok N) (spec_l01Vector.en_ok N (E7_ok N))

noncomputable def spec_l01Many_s.kp : Keeps := ⟨[(0, [0, 1, 2, 7], [], [])], [(0, [], [], [])], []⟩

noncomputable def spec_l01Many_s.bd : Code := bodyOf Go.Proofs.Try.f12

noncomputable def spec_l01Many_s.fin {ρ : Type} (N : Nat) (K : AV → Heap → Option ρ) (gv4 : Nat) (gv5 : Nat → Int) : XE → St → Option ρ := finK (E8 N) spec_l01Many_s.kp.fins Go.Proofs.Try.f12 [⟨false, .flat gv4 (.ints .u8 gv5)⟩] K

noncomputable def spec_l01Many_s.k0 {ρ : Type} (N : Nat) (K : AV → Heap → Option ρ) (gv4 : Nat) (gv5 : Nat → Int) : XE → St → Option ρ := (blockK spec_l01Many_s.kp 1 0 (seqK (xcode (E8 N) ents spec_l01Many_s.kp 1 N (cB (cB (cB spec_l01Many_s.bd))) 0) (spec_l01Many_s.fin N K gv4 gv5)))

theorem spec_l01Many_s.k0_mix {ρ : Type} (N : Nat) (K : AV → Heap → Option ρ) (gv4 : Nat) (gv5 : Nat → Int) : mixK (spec_l01Many_s.fin N K gv4 gv5 .ret) (spec_l01Many_s.k0 N K gv4 gv5) = (spec_l01Many_s.k0 N K gv4 gv5) := by
  funext e s; cases e <;> kernel_rfl

noncomputable def spec_l01Many_s.st0 (p0 : Int) (nv1 : Int) (list2 : Nat) (list3 : Nat) (gv4 : Nat) (gv5 : Nat → Int) (i7 : Int) : St := ⟨sl 26 [(0, .int .i64 (p0)), (1, .int .i64 (nv1)), (2, .slice true 0 0 list2 (.exact list3) 8), (7, .int .i64 (i7))], [⟨false, .flat gv4 (.ints .u8 gv5)⟩]⟩

noncomputable def spec_l01Many_s.sx0_0 (gv4 : Nat) (gv5 : Nat → Int) : St := ⟨sl 26 [], [⟨false, .flat gv4 (.ints .u8 gv5)⟩]⟩

theorem spec_l01Many_s.b0_gen {ρ : Type} (N : Nat) (K : AV → Heap → Option ρ) (L0 : St → Option ρ) (kv : XE → St → Option ρ) (p0 : Int) (nv1 : Int) (list2 : Nat) (list3 : Nat) (gv4 : Nat) (gv5 : Nat → Int) (i7 : Int) :
    xcode (E8 N) ents spec_l01Many_s.kp 1 N (cL (cK (cB (cA (cB (cB spec_l01Many_s.bd)))))) 0 (spec_l01Many_s.st0 p0 nv1 list2 list3 gv4 gv5 i7) (roundK spec_l01Many_s.kp 1 0 L0 (mixK (spec_l01Many_s.fin N K gv4 gv5 .ret) kv)) = (spec_l01Many_s.b0 N (fun d0 => K (.int .i64 (d0)) [⟨false, .flat gv4 (.ints .u8 gv5)⟩]) (fun i7 => L0 (spec_l01Many_s.st0 p0 nv1 list2 list3 gv4 gv5 i7)) (kv (.exit 0) (spec_l01Many_s.sx0_0 gv4 gv5)) p0 nv1 list2 gv5 i7) := by kernel_rfl

theorem spec_l01Many_s.b0_eq {ρ : Type} (N : Nat) (K : AV → Heap → Option ρ) (L0 : St → Option ρ) (p0 : Int) (nv1 : Int) (list2 : Nat) (list3 : Nat) (gv4 : Nat) (gv5 : Nat → Int) (i7 : Int) :
    xcode (E8 N) ents spec_l01Many_s.kp 1 N (cL (cK (cB (cA (cB (cB spec_l01Many_s.bd)))))) 0 (spec_l01Many_s.st0 p0 nv1 list2 list3 gv4 gv5 i7) (roundK spec_l01Many_s.kp 1 0 L0 (spec_l01Many_s.k0 N K gv4 gv5)) = (spec_l01Many_s.b0 N (fun d0 => K (.int .i64 (d0)) [⟨false, .flat gv4 (.ints .u8 gv5)⟩]) (fun i7 => L0 (spec_l01Many_s.st0 p0 nv1 list2 list3 gv4 gv5 i7)) ((spec_l01Many_s.k0 N K gv4 gv5) (.exit 0) (spec_l01Many_s.sx0_0 gv4 gv5)) p0 nv1 list2 gv5 i7) := by
  have h := spec_l01Many_s.b0_gen N K L0 (spec_l01Many_s.k0 N K gv4 gv5) p0 nv1 list2 list3 gv4 gv5 i7
  rw [spec_l01Many_s.k0_mix] at h
  exact h

theorem spec_l01Many_s.a0_0_eq {ρ : Type} (N : Nat) (K : AV → Heap → Option ρ) (gv4 : Nat) (gv5 : Nat → Int) :
    (spec_l01Many_s.k0 N K gv4 gv5) (.exit 0) (spec_l01Many_s.sx0_0 gv4 gv5) = (spec_l01Many_s.a0_0 N (fun d0 => K (.int .i64 (d0)) [⟨false, .flat gv4 (.ints .u8 gv5)⟩])) := by kernel_rfl

theorem spec_l01Many_s.l0_eq {ρ : Type} (N : Nat) (K : AV → Heap → Option ρ) (p0 : Int) (nv1 : Int) (list2 : Nat) (list3 : Nat) (gv4 : Nat) (gv5 : Nat → Int) :
    ∀ (m : Nat) (i7 : Int), xloop (xcode (E8 N) ents spec_l01Many_s.kp 1 N (cL (cK (cB (cA (cB (cB spec_l01Many_s.bd)))))) 0) spec_l01Many_s.kp 1 0 m (spec_l01Many_s.st0 p0 nv1 list2 list3 gv4 gv5 i7) (spec_l01Many_s.k0 N K gv4 gv5) = (spec_l01Many_s.l0 N (fun d0 => K (.int .i64 (d0)) [⟨false, .flat gv4 (.ints .u8 gv5)⟩]) p0 nv1 list2 gv5 ((spec_l01Many_s.k0 N K gv4 gv5) (.exit 0) (spec_l01Many_s.sx0_0 gv4 gv5)) m i7) := by
  intro m
  induction m with
  | zero => intros; rfl
  | succ m ih =>
    intro i7
    refine (spec_l01Many_s.b0_eq N K (fun s => xloop (xcode (E8 N) ents spec_l01Many_s.kp 1 N (cL (cK (cB (cA (cB (cB spec_l01Many_s.bd)))))) 0) spec_l01Many_s.kp 1 0 m s (spec_l01Many_s.k0 N K gv4 gv5)) p0 nv1 list2 list3 gv4 gv5 i7).trans ?_
    simp only [ih]
    kernel_rfl

theorem spec_l01Many_s.s_eq {ρ : Type} (N : Nat) (K : AV → Heap → Option ρ) (p0 : Int) (nv1 : Int) (list2 : Nat) (list3 : Nat) (gv4 : Nat) (gv5 : Nat → Int) :
    xbody (E8 N) ents spec_l01Many_s.kp N Go.Proofs.Try.f12 spec_l01Many_s.bd [.int .i64 (p0), .int .i64 (nv1), .slice true 0 0 list2 (.exact list3) 8] [⟨false, .flat gv4 (.ints .u8 gv5)⟩] K = (spec_l01Many_s.s N (fun d0 => K (.int .i64 (d0)) [⟨false, .flat gv4 (.ints .u8 gv5)⟩]) (fun i7 => xloop (xcode (E8 N) ents spec_l01Many_s.kp 1 N (cL (cK (cB (cA (cB (cB spec_l01Many_s.bd)))))) 0) spec_l01Many_s.kp 1 0 N (spec_l01Many_s.st0 p0 nv1 list2 list3 gv4 gv5 i7) (spec_l01Many_s.k0 N K gv4 gv5)) p0 nv1) := by kernel_rfl

theorem spec_l01Many_s.eq {ρ : Type} (N : Nat) (K : AV → Heap → Option ρ) (p0 : Int) (nv1 : Int) (list2 : Nat) (list3 : Nat) (gv4 : Nat) (gv5 : Nat → Int) :
    xbody (E8 N) ents spec_l01Many_s.kp N Go.Proofs.Try.f12 spec_l01Many_s.bd [.int .i64 (p0), .int .i64 (nv1), .slice true 0 0 list2 (.exact list3) 8] [⟨false, .flat gv4 (.ints .u8 gv5)⟩] K = (spec_l01Many_s N (fun d0 => K (.int .i64 (d0)) [⟨false, .flat gv4 (.ints .u8 gv5)⟩]) p0 nv1 list2 list3 gv4 gv5) := by
  refine (spec_l01Many_s.s_eq N K p0 nv1 list2 list3 gv4 gv5).trans ?_
  simp only [spec_l01Many_s.l0_eq, spec_l01Many_s.a0_0_eq]
  kernel_rfl

noncomputable def spec_l01Many_s.en (N : Nat) (ρ : Type) : List AV → Heap → (AV → Heap → Option ρ) → Option ρ
  | [.int .i64 (p0), .int .i64 (nv1), .slice true 0 0 list2 (.exact list3) 8], [⟨false, .flat gv4 (.ints .u8 gv5)⟩], K => (spec_l01Many_s N (fun d0 => K (.int .i64 (d0)) [⟨false, .flat gv4 (.ints .u8 gv5)⟩]) p0 nv1 list2 list3 gv4 gv5)
  | _, _, _ => none

theorem spec_l01Many_s.en_ok (N : Nat) (hE : EnvOk (E8 N) ents) (ρ : Type) (args : List AV) (sh : Heap) (K : AV → Heap → Option ρ) (r : ρ) (h : spec_l01Many_s.en N ρ args sh K = some r) : ∃ v sh', K v sh' = some r ∧ FnOk (E8 N).P 12 args sh v sh' := by
  unfold spec_l01Many_s.en at h
  split at h
  · exact fn_ok hE (kp := spec_l01Many_s.kp) (N := N) Go.Proofs.Try.func12 (c := spec_l01Many_s.bd) (by kernel_rfl) ((spec_l01Many_s.eq N _ _ _ _ _ _ _).trans h)
  · cases h

noncomputable def E9 (N : Nat) : Env := (E8 N).add 12 (spec_l01Many_s.en N)

theorem E9_ok (N : Nat) : EnvOk (E9 N) ents := Env.add_ok (E8_ok N) (spec_l01Many_s.en_ok N (E8_ok N))

noncomputable def spec_l01First.kp : Keeps := ⟨[(0, [1, 3], [], [])], [(0, [3], [], [])], []⟩

noncomputable def spec_l01First.bd : Code := bodyOf Go.Proofs.Try.f34

noncomputable def spec_l01First.fin {ρ : Type} (N : Nat) (K : AV → Heap → Option ρ) : XE → St → Option ρ := finK (E9 N) spec_l01First.kp.fins Go.Proofs.Try.f34 [] K

noncomputable def spec_l01First.k0 {ρ : Type} (N : Nat) (K : AV → Heap → Option ρ) : XE → St → Option ρ := (blockK spec_l01First.kp 0 0 (seqK (xcode (E9 N) ents spec_l01First.kp 0 N (cB (cB (cB spec_l01First.bd))) 0) (spec_l01First.fin N K)))

theorem spec_l01First.k0_mix {ρ : Type} (N : Nat) (K : AV → Heap → Option ρ) : mixK (spec_l01First.fin N K .ret) (spec_l01First.k0 N K) = (spec_l01First.k0 N K) := by
  funext e s; cases e <;> kernel_rfl

noncomputable def spec_l01First.st0 (v0 : Nat → Int) (at1 : Int) : St := ⟨sl 15 [(1, .sptr [(0, 8)]), (3, .int .i64 (at1))], [⟨true, .flat 8 (.ints .u8 v0)⟩]⟩

noncomputable def spec_l01First.sx0_0 (ov2 : Int) : St := ⟨sl 15 [(3, .int .i64 (ov2))], []⟩

theorem spec_l01First.b0_gen {ρ : Type} (N : Nat) (K : AV → Heap → Option ρ) (L0 : St → Option ρ) (kv : XE → St → Option ρ) (v0 : Nat → Int) (at1 : Int) :
    xcode (E9 N) ents spec_l01First.kp 0 N (cL (cK (cA (cB (cB spec_l01First.bd))))) 0 (spec_l01First.st0 v0 at1) (roundK spec_l01First.kp 0 0 L0 (mixK (spec_l01First.fin N K .ret) kv)) = (spec_l01First.b0 N (fun d0 => K (.int .i64 (d0)) []) (fun at1 => L0 (spec_l01First.st0 v0 at1)) (fun ov2 => kv (.exit 0) (spec_l01First.sx0_0 ov2)) v0 at1) := by kernel_rfl

theorem spec_l01First.b0_eq {ρ : Type} (N : Nat) (K : AV → Heap → Option ρ) (L0 : St → Option ρ) (v0 : Nat → Int) (at1 : Int) :
    xcode (E9 N) ents spec_l01First.kp 0 N (cL (cK (cA (cB (cB spec_l01First.bd))))) 0 (spec_l01First.st0 v0 at1) (roundK spec_l01First.kp 0 0 L0 (spec_l01First.k0 N K)) = (spec_l01First.b0 N (fun d0 => K (.int .i64 (d0)) []) (fun at1 => L0 (spec_l01First.st0 v0 at1)) (fun ov2 => (spec_l01First.k0 N K) (.exit 0) (spec_l01First.sx0_0 ov2)) v0 at1) := by
  have h := spec_l01First.b0_gen N K L0 (spec_l01First.k0 N K) v0 at1
  rw [spec_l01First.k0_mix] at h
  exact h

theorem spec_l01First.a0_0_eq {ρ : Type} (N : Nat) (K : AV → Heap → Option ρ) (ov2 : Int) :
    (spec_l01First.k0 N K) (.exit 0) (spec_l01First.sx0_0 ov2) = (spec_l01First.a0_0 N (fun d0 => K (.int .i64 (d0)) []) ov2) := by kernel_rfl

theorem spec_l01First.l0_eq {ρ : Type} (N : Nat) (K : AV → Heap → Option ρ) (v0 : Nat → Int) :
    ∀ (m : Nat) (at1 : Int), xloop (xcode (E9 N) ents spec_l01First.kp 0 N (cL (cK (cA (cB (cB spec_l01First.bd))))) 0) spec_l01First.kp 0 0 m (spec_l01First.st0 v0 at1) (spec_l01First.k0 N K) = (spec_l01First.l0 N (fun d0 => K (.int .i64 (d0)) []) v0 (fun ov2 => (spec_l01First.k0 N K) (.exit 0) (spec_l01First.sx0_0 ov2)) m at1) := by
  intro m
  induction m with
  | zero => intros; rfl
  | succ m ih =>
    intro at1
    refine (spec_l01First.b0_eq N K (fun s => xloop (xcode (E9 N) ents spec_l01First.kp 0 N (cL (cK (cA (cB (cB spec_l01First.bd))))) 0) spec_l01First.kp 0 0 m s (spec_l01First.k0 N K)) v0 at1).trans ?_
    simp only [ih]
    kernel_rfl

theorem spec_l01First.s_eq {ρ : Type} (N : Nat) (K : AV → Heap → Option ρ) (v0 : Nat → Int) :
    xbody (E9 N) ents spec_l01First.kp N Go.Proofs.Try.f34 spec_l01First.bd [.agg [⟨.u8, 8, v0⟩]] [] K = (spec_l01First.s N (fun d0 => K (.int .i64 (d0)) []) (fun at1 => xloop (xcode (E9 N) ents spec_l01First.kp 0 N (cL (cK (cA (cB (cB spec_l01First.bd))))) 0) spec_l01First.kp 0 0 N (spec_l01First.st0 v0 at1) (spec_l01First.k0 N K))) := by kernel_rfl

theorem spec_l01First.eq {ρ : Type} (N : Nat) (K : AV → Heap → Option ρ) (v0 : Nat → Int) :
    xbody (E9 N) ents spec_l01First.kp N Go.Proofs.Try.f34 spec_l01First.bd [.agg [⟨.u8, 8, v0⟩]] [] K = (spec_l01First N (fun d0 => K (.int .i64 (d0)) []) v0) := by
  refine (spec_l01First.s_eq N K v0).trans ?_
  simp only [spec_l01First.l0_eq, spec_l01First.a0_0_eq]
  kernel_rfl

noncomputable def spec_l01First.en (N : Nat) (ρ : Type) : List AV → Heap → (AV → Heap → Option ρ) → Option ρ
  | [.agg [⟨.u8, 8, v0⟩]], [], K => (spec_l01First N (fun d0 => K (.int .i64 (d0)) []) v0)
  | _, _, _ => none

theorem spec_l01First.en_ok (N : Nat) (hE : EnvOk (E9 N) ents) (ρ : Type) (args : List AV) (sh : Heap) (K : AV → Heap → Option ρ) (r : ρ) (h : spec_l01First.en N ρ args sh K = some r) : ∃ v sh', K v sh' = some r ∧ FnOk (E9 N).P 34 args sh v sh' := by
  unfold spec_l01First.en at h
  split at h
  · exact fn_ok hE (kp := spec_l01First.kp) (N := N) Go.Proofs.Try.func34 (c := spec_l01First.bd) (by kernel_rfl) ((spec_l01First.eq N _ _).trans h)
  · cases h

noncomputable def E10 (N : Nat) : Env := (E9 N).add 34 (spec_l01First.en N)

theorem E10_ok (N : Nat) : EnvOk (E10 N) ents := Env.add_ok (E9_ok N) (spec_l01First.en_ok N (E9_ok N))

noncomputable def spec_l01Mod.kp : Keeps := ⟨[], [], []⟩

noncomputable def spec_l01Mod.bd : Code := bodyOf Go.Proofs.Try.f42

noncomputable def spec_l01Mod.fin {ρ : Type} (N : Nat) (K : AV → Heap → Option ρ) : XE → St → Option ρ := finK (E10 N) spec_l01Mod.kp.fins Go.Proofs.Try.f42 [] K

theorem spec_l01Mod.eq {ρ : Type} (N : Nat) (K : AV → Heap → Option ρ) (p0 : Int) (x1 : Int) :
    xbody (E10 N) ents spec_l01Mod.kp N Go.Proofs.Try.f42 spec_l01Mod.bd [.int .i64 (p0), .int .i64 (x1)] [] K = (spec_l01Mod N (fun d0 => K (.int .u8 (d0)) []) p0 x1) := by kernel_rfl

noncomputable def spec_l01Mod.en (N : Nat) (ρ : Type) : List AV → Heap → (AV → Heap → Option ρ) → Option ρ
  | [.int .i64 (p0), .int .i64 (x1)], [], K => (spec_l01Mod N (fun d0 => K (.int .u8 (d0)) []) p0 x1)
  | _, _, _ => none

theorem spec_l01Mod.en_ok (N : Nat) (hE : EnvOk (E10 N) ents) (ρ : Type) (args : List AV) (sh : Heap) (K : AV → Heap → Option ρ) (r : ρ) (h : spec_l01Mod.en N ρ args sh K = some r) : ∃ v sh', K v sh' = some r ∧ FnOk (E10 N).P 42 args sh v sh' := by
  unfold spec_l01Mod.en at h
  split at h
  · exact fn_ok hE (kp := spec_l01Mod.kp) (N := N) Go.Proofs.Try.func42 (c := spec_l01Mod.bd) (by kernel_rfl) ((spec_l01Mod.eq N _ _ _).trans h)
  · cases h

noncomputable def E11 (N : Nat) : Env := (E10 N).add 42 (spec_l01Mod.en N)

theorem E11_ok (N : Nat) : EnvOk (E11 N) ents := Env.add_ok (E10_ok N) (spec_l01Mod.en_ok N (E10_ok N))

noncomputable def spec_l01Add.kp : Keeps := ⟨[(0, [0, 3, 5, 6, 8, 9], [], [])], [(0, [5, 8], [], [])], []⟩

noncomputable def spec_l01Add.bd : Code := bodyOf Go.Proofs.Try.f35

noncomputable def spec_l01Add.fin {ρ : Type} (N : Nat) (K : AV → Heap → Option ρ) : XE → St → Option ρ := finK (E11 N) spec_l01Add.kp.fins Go.Proofs.Try.f35 [] K

noncomputable def spec_l01Add.k0 {ρ : Type} (N : Nat) (K : AV → Heap → Option ρ) : XE → St → Option ρ := (blockK spec_l01Add.kp 0 0 (seqK (xcode (E11 N) ents spec_l01Add.kp 0 N (cB (cB spec_l01Add.bd)) 0) (spec_l01Add.fin N K)))

theorem spec_l01Add.k0_mix {ρ : Type} (N : Nat) (K : AV → Heap → Option ρ) : mixK (spec_l01Add.fin N K .ret) (spec_l01Add.k0 N K) = (spec_l01Add.k0 N K) := by
  funext e s; cases e <;> kernel_rfl

noncomputable def spec_l01Add.st0 (p0 : Int) (w2 : Nat → Int) (k3 : Int) (i4 : Int) (gv5 : Nat → Int) : St := ⟨sl 30 [(0, .int .i64 (p0)), (3, .int .i64 (k3)), (5, .sptr [(0, 8)]), (6, .sptr [(1, 8)]), (8, .sptr [(2, 8)]), (9, .int .i64 (i4))], [⟨true, .flat 8 (.ints .u8 gv5)⟩, ⟨true, .flat 8 (.ints .u8 w2)⟩, ⟨true, .flat 8 (.ints .u8 (fun _ => 0))⟩]⟩

noncomputable def spec_l01Add.sx0_0 (ov7 : Nat → Int) : St := ⟨sl 30 [(5, .sptr [(0, 8)]), (8, .sptr [(1, 8)])], [⟨true, .flat 8 (.ints .u8 ov7)⟩, ⟨true, .flat 8 (.ints .u8 (fun _ => 0))⟩]⟩

theorem spec_l01Add.b0_gen {ρ : Type} (N : Nat) (K : AV → Heap → Option ρ) (L0 : St → Option ρ) (kv : XE → St → Option ρ) (p0 : Int) (w2 : Nat → Int) (k3 : Int) (i4 : Int) (gv5 : Nat → Int) :
    xcode (E11 N) ents spec_l01Add.kp 0 N (cL (cK (cB (cA (cB spec_l01Add.bd))))) 0 (spec_l01Add.st0 p0 w2 k3 i4 gv5) (roundK spec_l01Add.kp 0 0 L0 (mixK (spec_l01Add.fin N K .ret) kv)) = (spec_l01Add.b0 N (fun d0 => K (.agg [⟨.u8, 8, d0⟩]) []) (fun i4 gv5 => L0 (spec_l01Add.st0 p0 w2 k3 i4 gv5)) (fun ov7 => kv (.exit 0) (spec_l01Add.sx0_0 ov7)) p0 w2 k3 i4 gv5) := by kernel_rfl

theorem spec_l01Add.b0_eq {ρ : Type} (N : Nat) (K : AV → Heap → Option ρ) (L0 : St → Option ρ) (p0 : Int) (w2 : Nat → Int) (k3 : Int) (i4 : Int) (gv5 : Nat → Int) :
    xcode (E11 N) ents spec_l01Add.kp 0 N (cL (cK (cB (cA (cB spec_l01Add.bd))))) 0 (spec_l01Add.st0 p0 w2 k3 i4 gv5) (roundK spec_l01Add.kp 0 0 L0 (spec_l01Add.k0 N K)) = (spec_l01Add.b0 N (fun d0 => K (.agg [⟨.u8, 8, d0⟩]) []) (fun i4 gv5 => L0 (spec_l01Add.st0 p0 w2 k3 i4 gv5)) (fun ov7 => (spec_l01Add.k0 N K) (.exit 0) (spec_l01Add.sx0_0 ov7)) p0 w2 k3 i4 gv5) := by
  have h := spec_l01Add.b0_gen N K L0 (spec_l01Add.k0 N K) p0 w2 k3 i4 gv5
  rw [spec_l01Add.k0_mix] at h
  exact h

theorem spec_l01Add.a0_0_eq {ρ : Type} (N : Nat) (K : AV → Heap → Option ρ) (ov7 : Nat → Int) :
    (spec_l01Add.k0 N K) (.exit 0) (spec_l01Add.sx0_0 ov7) = (spec_l01Add.a0_0 N (fun d0 => K (.agg [⟨.u8, 8, d0⟩]) []) ov7) := by kernel_rfl

theorem spec_l01Add.l0_eq {ρ : Type} (N : Nat) (K : AV → Heap → Option ρ) (p0 : Int) (w2 : Nat → Int) (k3 : Int) :
    ∀ (m : Nat) (i4 : Int) (gv5 : Nat → Int), xloop (xcode (E11 N) ents spec_l01Add.kp 0 N (cL (cK (cB (cA (cB spec_l01Add.bd))))) 0) spec_l01Add.kp 0 0 m (spec_l01Add.st0 p0 w2 k3 i4 gv5) (spec_l01Add.k0 N K) = (spec_l01Add.l0 N (fun d0 => K (.agg [⟨.u8, 8, d0⟩]) []) p0 w2 k3 (fun ov7 => (spec_l01Add.k0 N K) (.exit 0) (spec_l01Add.sx0_0 ov7)) m i4 gv5) := by
  intro m
  induction m with
  | zero => intros; rfl
  | succ m ih =>
    intro i4 gv5
    refine (spec_l01Add.b0_eq N K (fun s => xloop (xcode (E11 N) ents spec_l01Add.kp 0 N (cL (cK (cB (cA (cB spec_l01Add.bd))))) 0) spec_l01Add.kp 0 0 m s (spec_l01Add.k0 N K)) p0 w2 k3 i4 gv5).trans ?_
    simp only [ih]
    kernel_rfl

theorem spec_l01Add.s_eq {ρ : Type} (N : Nat) (K : AV → Heap → Option ρ) (p0 : Int) (v1 : Nat → Int) (w2 : Nat → Int) (k3 : Int) :
    xbody (E11 N) ents spec_l01Add.kp N Go.Proofs.Try.f35 spec_l01Add.bd [.int .i64 (p0), .agg [⟨.u8, 8, v1⟩], .agg [⟨.u8, 8, w2⟩], .int .i64 (k3)] [] K = (spec_l01Add.s N (fun d0 => K (.agg [⟨.u8, 8, d0⟩]) []) (fun i4 gv5 => xloop (xcode (E11 N) ents spec_l01Add.kp 0 N (cL (cK (cB (cA (cB spec_l01Add.bd))))) 0) spec_l01Add.kp 0 0 N (spec_l01Add.st0 p0 w2 k3 i4 gv5) (spec_l01Add.k0 N K)) v1) := by kernel_rfl

theorem spec_l01Add.eq {ρ : Type} (N : Nat) (K : AV → Heap → Option ρ) (p0 : Int) (v1 : Nat → Int) (w2 : Nat → Int) (k3 : Int) :
    xbody (E11 N) ents spec_l01Add.kp N Go.Proofs.Try.f35 spec_l01Add.bd [.int .i64 (p0), .agg [⟨.u8, 8, v1⟩], .agg [⟨.u8, 8, w2⟩], .int .i64 (k3)] [] K = (spec_l01Add N (fun d0 => K (.agg [⟨.u8, 8, d0⟩]) []) p0 v1 w2 k3) := by
  refine (spec_l01Add.s_eq N K p0 v1 w2 k3).trans ?_
  simp only [spec_l01Add.l0_eq, spec_l01Add.a0_0_eq]
  kernel_rfl

noncomputable def spec_l01Add.en (N : Nat) (ρ : Type) : List AV → Heap → (AV → Heap → Option ρ) → Option ρ
  | [.int .i64 (p0), .agg [⟨.u8, 8, v1⟩], .agg [⟨.u8, 8, w2⟩], .int .i64 (k3)], [], K => (spec_l01Add N (fun d0 => K (.agg [⟨.u8, 8, d0⟩]) []) p0 v1 w2 k3)
  | _, _, _ => none

theorem spec_l01Add.en_ok (N : Nat) (hE : EnvOk (E11 N) ents) (ρ : Type) (args : List AV) (sh : Heap) (K : AV → Heap → Option ρ) (r : ρ) (h : spec_l01Add.en N ρ args sh K = some r) : ∃ v sh', K v sh' = some r ∧ FnOk (E11 N).P 35 args sh v sh' := by
  unfold spec_l01Add.en at h
  split at h
  · exact fn_ok hE (kp := spec_l01Add.kp) (N := N) Go.Proofs.Try.func35 (c := spec_l01Add.bd) (by kernel_rfl) ((spec_l01Add.eq N _ _ _ _ _).trans h)
  · cases h

noncomputable def E12 (N : Nat) : Env := (E11 N).add 35 (spec_l01Add.en N)

theorem E12_ok (N : Nat) : EnvOk (E12 N) ents := Env.add_ok (E11_ok N) (spec_l01Add.en_ok N (E11_ok N))

noncomputable def spec_l01Zero.kp : Keeps := ⟨[], [], []⟩

noncomputable def spec_l01Zero.bd : Code := bodyOf Go.Proofs.Try.f33

noncomputable def spec_l01Zero.fin {ρ : Type} (N : Nat) (K : AV → Heap → Option ρ) : XE → St → Option ρ := finK (E12 N) spec_l01Zero.kp.fins Go.Proofs.Try.f33 [] K

theorem spec_l01Zero.eq {ρ : Type} (N : Nat) (K : AV → Heap → Option ρ) (v0 : Nat → Int) :
    xbody (E12 N) ents spec_l01Zero.kp N Go.Proofs.Try.f33 spec_l01Zero.bd [.agg [⟨.u8, 8, v0⟩]] [] K = (spec_l01Zero N (fun d0 => K (.bool (d0)) []) v0) := by kernel_rfl

noncomputable def spec_l01Zero.en (N : Nat) (ρ : Type) : List AV → Heap → (AV → Heap → Option ρ) → Option ρ
  | [.agg [⟨.u8, 8, v0⟩]], [], K => (spec_l01Zero N (fun d0 => K (.bool (d0)) []) v0)
  | _, _, _ => none

theorem spec_l01Zero.en_ok (N : Nat) (hE : EnvOk (E12 N) ents) (ρ : Type) (args : List AV) (sh : Heap) (K : AV → Heap → Option ρ) (r : ρ) (h : spec_l01Zero.en N ρ args sh K = some r) : ∃ v sh', K v sh' = some r ∧ FnOk (E12 N).P 33 args sh v sh' := by
  unfold spec_l01Zero.en at h
  split at h
  · exact fn_ok hE (kp := spec_l01Zero.kp) (N := N) Go.Proofs.Try.func33 (c := spec_l01Zero.bd) (by kernel_rfl) ((spec_l01Zero.eq N _ _).trans h)
  · cases h

noncomputable def E13 (N : Nat) : Env := (E12 N).add 33 (spec_l01Zero.en N)

theorem E13_ok (N : Nat) : EnvOk (E13 N) ents := Env.add_ok (E12_ok N) (spec_l01Zero.en_ok N (E12_ok N))

noncomputable def spec_l01Inverse.kp : Keeps := ⟨[(0, [0, 1, 5], [], [])], [(0, [], [], [])], []⟩

noncomputable def spec_l01Inverse.bd : Code := bodyOf Go.Proofs.Try.f36

noncomputable def spec_l01Inverse.fin {ρ : Type} (N : Nat) (K : AV → Heap → Option ρ) : XE → St → Option ρ := finK (E13 N) spec_l01Inverse.kp.fins Go.Proofs.Try.f36 [] K

noncomputable def spec_l01Inverse.k0 {ρ : Type} (N : Nat) (K : AV → Heap → Option ρ) : XE → St → Option ρ := (blockK spec_l01Inverse.kp 0 0 (seqK (xcode (E13 N) ents spec_l01Inverse.kp 0 N (cB (cB spec_l01Inverse.bd)) 0) (spec_l01Inverse.fin N K)))

theorem spec_l01Inverse.k0_mix {ρ : Type} (N : Nat) (K : AV → Heap → Option ρ) : mixK (spec_l01Inverse.fin N K .ret) (spec_l01Inverse.k0 N K) = (spec_l01Inverse.k0 N K) := by
  funext e s; cases e <;> kernel_rfl

noncomputable def spec_l01Inverse.st0 (p0 : Int) (x1 : Int) (k2 : Int) : St := ⟨sl 20 [(0, .int .i64 (p0)), (1, .int .u8 (x1)), (5, .int .i64 (k2))], []⟩

noncomputable def spec_l01Inverse.sx0_0 : St := ⟨sl 20 [], []⟩

theorem spec_l01Inverse.b0_gen {ρ : Type} (N : Nat) (K : AV → Heap → Option ρ) (L0 : St → Option ρ) (kv : XE → St → Option ρ) (p0 : Int) (x1 : Int) (k2 : Int) :
    xcode (E13 N) ents spec_l01Inverse.kp 0 N (cL (cK (cB (cA (cB spec_l01Inverse.bd))))) 0 (spec_l01Inverse.st0 p0 x1 k2) (roundK spec_l01Inverse.kp 0 0 L0 (mixK (spec_l01Inverse.fin N K .ret) kv)) = (spec_l01Inverse.b0 N (fun d0 => K (.int .u8 (d0)) []) (fun k2 => L0 (spec_l01Inverse.st0 p0 x1 k2)) (kv (.exit 0) (spec_l01Inverse.sx0_0)) p0 x1 k2) := by kernel_rfl

theorem spec_l01Inverse.b0_eq {ρ : Type} (N : Nat) (K : AV → Heap → Option ρ) (L0 : St → Option ρ) (p0 : Int) (x1 : Int) (k2 : Int) :
    xcode (E13 N) ents spec_l01Inverse.kp 0 N (cL (cK (cB (cA (cB spec_l01Inverse.bd))))) 0 (spec_l01Inverse.st0 p0 x1 k2) (roundK spec_l01Inverse.kp 0 0 L0 (spec_l01Inverse.k0 N K)) = (spec_l01Inverse.b0 N (fun d0 => K (.int .u8 (d0)) []) (fun k2 => L0 (spec_l01Inverse.st0 p0 x1 k2)) ((spec_l01Inverse.k0 N K) (.exit 0) (spec_l01Inverse.sx0_0)) p0 x1 k2) := by
  have h := spec_l01Inverse.b0_gen N K L0 (spec_l01Inverse.k0 N K) p0 x1 k2
  rw [spec_l01Inverse.k0_mix] at h
  exact h

theorem spec_l01Inverse.a0_0_eq {ρ : Type} (N : Nat) (K : AV → Heap → Option ρ) :
    (spec_l01Inverse.k0 N K) (.exit 0) (spec_l01Inverse.sx0_0) = (spec_l01Inverse.a0_0 N (fun d0 => K (.int .u8 (d0)) [])) := by kernel_rfl

theorem spec_l01Inverse.l0_eq {ρ : Type} (N : Nat) (K : AV → Heap → Option ρ) (p0 : Int) (x1 : Int) :
    ∀ (m : Nat) (k2 : Int), xloop (xcode (E13 N) ents spec_l01Inverse.kp 0 N (cL (cK (cB (cA (cB spec_l01Inverse.bd))))) 0) spec_l01Inverse.kp 0 0 m (spec_l01Inverse.st0 p0 x1 k2) (spec_l01Inverse.k0 N K) = (spec_l01Inverse.l0 N (fun d0 => K (.int .u8 (d0)) []) p0 x1 ((spec_l01Inverse.k0 N K) (.exit 0) (spec_l01Inverse.sx0_0)) m k2) := by
  intro m
  induction m with
  | zero => intros; rfl
  | succ m ih =>
    intro k2
    refine (spec_l01Inverse.b0_eq N K (fun s => xloop (xcode (E13 N) ents spec_l01Inverse.kp 0 N (cL (cK (cB (cA (cB spec_l01Inverse.bd))))) 0) spec_l01Inverse.kp 0 0 m s (spec_l01Inverse.k0 N K)) p0 x1 k2).trans ?_
    simp only [ih]
    kernel_rfl

theorem spec_l01Inverse.s_eq {ρ : Type} (N : Nat) (K : AV → Heap → Option ρ) (p0 : Int) (x1 : Int) :
    xbody (E13 N) ents spec_l01Inverse.kp N Go.Proofs.Try.f36 spec_l01Inverse.bd [.int .i64 (p0), .int .u8 (x1)] [] K = (spec_l01Inverse.s N (fun d0 => K (.int .u8 (d0)) []) (fun k2 => xloop (xcode (E13 N) ents spec_l01Inverse.kp 0 N (cL (cK (cB (cA (cB spec_l01Inverse.bd))))) 0) spec_l01Inverse.kp 0 0 N (spec_l01Inverse.st0 p0 x1 k2) (spec_l01Inverse.k0 N K))) := by kernel_rfl

theorem spec_l01Inverse.eq {ρ : Type} (N : Nat) (K : AV → Heap → Option ρ) (p0 : Int) (x1 : Int) :
    xbody (E13 N) ents spec_l01Inverse.kp N Go.Proofs.Try.f36 spec_l01Inverse.bd [.int .i64 (p0), .int .u8 (x1)] [] K = (spec_l01Inverse N (fun d0 => K (.int .u8 (d0)) []) p0 x1) := by
  refine (spec_l01Inverse.s_eq N K p0 x1).trans ?_
  simp only [spec_l01Inverse.l0_eq, spec_l01Inverse.a0_0_eq]
  kernel_rfl

noncomputable def spec_l01Inverse.en (N : Nat) (ρ : Type) : List AV → Heap → (AV → Heap → Option ρ) → Option ρ
  | [.int .i64 (p0), .int .u8 (x1)], [], K => (spec_l01Inverse N (fun d0 => K (.int .u8 (d0)) []) p0 x1)
  | _, _, _ => none

theorem spec_l01Inverse.en_ok (N : Nat) (hE : EnvOk (E13 N) ents) (ρ : Type) (args : List AV) (sh : Heap) (K : AV → Heap → Option ρ) (r : ρ) (h : spec_l01Inverse.en N ρ args sh K = some r) : ∃ v sh', K v sh' = some r ∧ FnOk (E13 N).P 36 args sh v sh' := by
  unfold spec_l01Inverse.en at h
  split at h
  · exact fn_ok hE (kp := spec_l01Inverse.kp) (N := N) Go.Proofs.Try.func36 (c := spec_l01Inverse.bd) (by kernel_rfl) ((spec_l01Inverse.eq N _ _ _).trans h)
  · cases h

noncomputable def E14 (N : Nat) : Env := (E13 N).add 36 (spec_l01Inverse.en N)

theorem E14_ok (N : Nat) : EnvOk (E14 N) ents := Env.add_ok (E13_ok N) (spec_l01Inverse.en_ok N (E13_ok N))

noncomputable def spec_l01By_su_v2.kp : Keeps := ⟨[(0, [0, 2, 4, 6, 7], [], [])], [(0, [4, 6], [], [])], []⟩

noncomputable def spec_l01By_su_v2.bd : Code := bodyOf Go.Proofs.Try.f32

noncomputable def spec_l01By_su_v2.fin {ρ : Type} (N : Nat) (K : AV → Heap → Option ρ) (gv3 : Nat) (gv4 : Nat → Int) : XE → St → Option ρ := finK (E14 N) spec_l01By_su_v2.kp.fins Go.Proofs.Try.f32 [⟨false, .flat gv3 (.ints .u8 gv4)⟩] K

noncomputable def spec_l01By_su_v2.k0 {ρ : Type} (N : Nat) (K : AV → Heap → Option ρ) (gv3 : Nat) (gv4 : Nat → Int) : XE → St → Option ρ := (blockK spec_l01By_su_v2.kp 1 0 (seqK (xcode (E14 N) ents spec_l01By_su_v2.kp 1 N (cB (cB spec_l01By_su_v2.bd)) 0) (spec_l01By_su_v2.fin N K gv3 gv4)))

theorem spec_l01By_su_v2.k0_mix {ρ : Type} (N : Nat) (K : AV → Heap → Option ρ) (gv3 : Nat) (gv4 : Nat → Int) : mixK (spec_l01By_su_v2.fin N K gv3 gv4 .ret) (spec_l01By_su_v2.k0 N K gv3 gv4) = (spec_l01By_su_v2.k0 N K gv3 gv4) := by
  funext e s; cases e <;> kernel_rfl

noncomputable def spec_l01By_su_v2.st0 (p0 : Int) (rows2 : Nat) (gv3 : Nat) (gv4 : Nat → Int) (i5 : Int) (gv6 : Nat → Int) : St := ⟨sl 37 [(0, .int .i64 (p0)), (2, .slice false 0 0 rows2 .unk 8), (4, .sptr [(1, 8)]), (6, .sptr [(2, 8)]), (7, .int .i64 (i5))], [⟨false, .flat gv3 (.ints .u8 gv4)⟩, ⟨true, .flat 8 (.ints .u8 gv6)⟩, ⟨true, .flat 8 (.ints .u8 (fun _ => 0))⟩]⟩

noncomputable def spec_l01By_su_v2.sx0_0 (gv3 : Nat) (gv4 : Nat → Int) (ov9 : Nat → Int) : St := ⟨sl 37 [(4, .sptr [(1, 8)]), (6, .sptr [(2, 8)])], [⟨false, .flat gv3 (.ints .u8 gv4)⟩, ⟨true, .flat 8 (.ints .u8 ov9)⟩, ⟨true, .flat 8 (.ints .u8 (fun _ => 0))⟩]⟩

theorem spec_l01By_su_v2.b0_gen {ρ : Type} (N : Nat) (K : AV → Heap → Option ρ) (L0 : St → Option ρ) (kv : XE → St → Option ρ) (p0 : Int) (rows2 : Nat) (gv3 : Nat) (gv4 : Nat → Int) (i5 : Int) (gv6 : Nat → Int) :
    xcode (E14 N) ents spec_l01By_su_v2.kp 1 N (cL (cK (cB (cA (cB spec_l01By_su_v2.bd))))) 0 (spec_l01By_su_v2.st0 p0 rows2 gv3 gv4 i5 gv6) (roundK spec_l01By_su_v2.kp 1 0 L0 (mixK (spec_l01By_su_v2.fin N K gv3 gv4 .ret) kv)) = (spec_l01By_su_v2.b0 N (fun d0 => K (.agg [⟨.u8, 8, d0⟩]) [⟨false, .flat gv3 (.ints .u8 gv4)⟩]) (fun i5 gv6 => L0 (spec_l01By_su_v2.st0 p0 rows2 gv3 gv4 i5 gv6)) (fun ov9 => kv (.exit 0) (spec_l01By_su_v2.sx0_0 gv3 gv4 ov9)) p0 rows2 gv4 i5 gv6) := by kernel_rfl

theorem spec_l01By_su_v2.b0_eq {ρ : Type} (N : Nat) (K : AV → Heap → Option ρ) (L0 : St → Option ρ) (p0 : Int) (rows2 : Nat) (gv3 : Nat) (gv4 : Nat → Int) (i5 : Int) (gv6 : Nat → Int) :
    xcode (E14 N) ents spec_l01By_su_v2.kp 1 N (cL (cK (cB (cA (cB spec_l01By_su_v2.bd))))) 0 (spec_l01By_su_v2.st0 p0 rows2 gv3 gv4 i5 gv6) (roundK spec_l01By_su_v2.kp 1 0 L0 (spec_l01By_su_v2.k0 N K gv3 gv4)) = (spec_l01By_su_v2.b0 N (fun d0 => K (.agg [⟨.u8, 8, d0⟩]) [⟨false, .flat gv3 (.ints .u8 gv4)⟩]) (fun i5 gv6 => L0 (spec_l01By_su_v2.st0 p0 rows2 gv3 gv4 i5 gv6)) (fun ov9 => (spec_l01By_su_v2.k0 N K gv3 gv4) (.exit 0) (spec_l01By_su_v2.sx0_0 gv3 gv4 ov9)) p0 rows2 gv4 i5 gv6) := by
  have h := spec_l01By_su_v2.b0_gen N K L0 (spec_l01By_su_v2.k0 N K gv3 gv4) p0 rows2 gv3 gv4 i5 gv6
  rw [spec_l01By_su_v2.k0_mix] at h
  exact h

theorem spec_l01By_su_v2.a0_0_eq {ρ : Type} (N : Nat) (K : AV → Heap → Option ρ) (gv3 : Nat) (gv4 : Nat → Int) (ov9 : Nat → Int) :
    (spec_l01By_su_v2.k0 N K gv3 gv4) (.exit 0) (spec_l01By_su_v2.sx0_0 gv3 gv4 ov9) = (spec_l01By_su_v2.a0_0 N (fun d0 => K (.agg [⟨.u8, 8, d0⟩]) [⟨false, .flat gv3 (.ints .u8 gv4)⟩]) ov9) := by kernel_rfl

theorem spec_l01By_su_v2.l0_eq {ρ : Type} (N : Nat) (K : AV → Heap → Option ρ) (p0 : Int) (rows2 : Nat) (gv3 : Nat) (gv4 : Nat → Int) :
    ∀ (m : Nat) (i5 : Int) (gv6 : Nat → Int), xloop (xcode (E14 N) ents spec_l01By_su_v2.kp 1 N (cL (cK (cB (cA (cB spec_l01By_su_v2.bd))))) 0) spec_l01By_su_v2.kp 1 0 m (spec_l01By_su_v2.st0 p0 rows2 gv3 gv4 i5 gv6) (spec_l01By_su_v2.k0 N K gv3 gv4) = (spec_l01By_su_v2.l0 N (fun d0 => K (.agg [⟨.u8, 8, d0⟩]) [⟨false, .flat gv3 (.ints .u8 gv4)⟩]) p0 rows2 gv4 (fun ov9 => (spec_l01By_su_v2.k0 N K gv3 gv4) (.exit 0) (spec_l01By_su_v2.sx0_0 gv3 gv4 ov9)) m i5 gv6) := by
  intro m
  induction m with
  | zero => intros; rfl
  | succ m ih =>
    intro i5 gv6
    refine (spec_l01By_su_v2.b0_eq N K (fun s => xloop (xcode (E14 N) ents spec_l01By_su_v2.kp 1 N (cL (cK (cB (cA (cB spec_l01By_su_v2.bd))))) 0) spec_l01By_su_v2.kp 1 0 m s (spec_l01By_su_v2.k0 N K gv3 gv4)) p0 rows2 gv3 gv4 i5 gv6).trans ?_
    simp only [ih]
    kernel_rfl

theorem spec_l01By_su_v2.s_eq {ρ : Type} (N : Nat) (K : AV → Heap → Option ρ) (p0 : Int) (v1 : Nat → Int) (rows2 : Nat) (gv3 : Nat) (gv4 : Nat → Int) :
    xbody (E14 N) ents spec_l01By_su_v2.kp N Go.Proofs.Try.f32 spec_l01By_su_v2.bd [.int .i64 (p0), .agg [⟨.u8, 8, v1⟩], .slice false 0 0 rows2 .unk 8] [⟨false, .flat gv3 (.ints .u8 gv4)⟩] K = (spec_l01By_su_v2.s N (fun d0 => K (.agg [⟨.u8, 8, d0⟩]) [⟨false, .flat gv3 (.ints .u8 gv4)⟩]) (fun i5 gv6 => xloop (xcode (E14 N) ents spec_l01By_su_v2.kp 1 N (cL (cK (cB (cA (cB spec_l01By_su_v2.bd))))) 0) spec_l01By_su_v2.kp 1 0 N (spec_l01By_su_v2.st0 p0 rows2 gv3 gv4 i5 gv6) (spec_l01By_su_v2.k0 N K gv3 gv4)) v1) := by kernel_rfl

theorem spec_l01By_su_v2.eq {ρ : Type} (N : Nat) (K : AV → Heap → Option ρ) (p0 : Int) (v1 : Nat → Int) (rows2 : Nat) (gv3 : Nat) (gv4 : Nat → Int) :
    xbody (E14 N) ents spec_l01By_su_v2.kp N Go.Proofs.Try.f32 spec_l01By_su_v2.bd [.int .i64 (p0), .agg [⟨.u8, 8, v1⟩], .slice false 0 0 rows2 .unk 8] [⟨false, .flat gv3 (.ints .u8 gv4)⟩] K = (spec_l01By_su_v2 N (fun d0 => K (.agg [⟨.u8, 8, d0⟩]) [⟨false, .flat gv3 (.ints .u8 gv4)⟩]) p0 v1 rows2 gv3 gv4) := by
  refine (spec_l01By_su_v2.s_eq N K p0 v1 rows2 gv3 gv4).trans ?_
  simp only [spec_l01By_su_v2.l0_eq, spec_l01By_su_v2.a0_0_eq]
  kernel_rfl

noncomputable def spec_l01By_su_v2.en (N : Nat) (ρ : Type) : List AV → Heap → (AV → Heap → Option ρ) → Option ρ
  | [.int .i64 (p0), .agg [⟨.u8, 8, v1⟩], .slice false 0 0 rows2 .unk 8], [⟨false, .flat gv3 (.ints .u8 gv4)⟩], K => (spec_l01By_su_v2 N (fun d0 => K (.agg [⟨.u8, 8, d0⟩]) [⟨false, .flat gv3 (.ints .u8 gv4)⟩]) p0 v1 rows2 gv3 gv4)
  | _, _, _ => none

theorem spec_l01By_su_v2.en_ok (N : Nat) (hE : EnvOk (E14 N) ents) (ρ : Type) (args : List AV) (sh : Heap) (K : AV → Heap → Option ρ) (r : ρ) (h : spec_l01By_su_v2.en N ρ args sh K = some r) : ∃ v sh', K v sh' = some r ∧ FnOk (E14 N).P 32 args sh v sh' := by
  unfold spec_l01By_su_v2.en at h
  split at h
  · exact fn_ok hE (kp := spec_l01By_su_v2.kp) (N := N) Go.Proofs.Try.func32 (c := spec_l01By_su_v2.bd) (by kernel_rfl) ((spec_l01By_su_v2.eq N _ _ _ _ _ _).trans h)
  · cases h

noncomputable def E15 (N : Nat) : Env := (E14 N).add 32 (spec_l01By_su_v2.en N)

theorem E15_ok (N : Nat) : EnvOk (E15 N) ents := Env.add_ok (E14_ok N) (spec_l01By_su_v2.en_ok N (E14_ok N))

noncomputable def spec_l01Put_su_v2.kp : Keeps := ⟨[(0, [0, 1, 5, 7, 8, 9, 10], [], [])], [(0, [5, 8, 9], [], [])], []⟩

noncomputable def spec_l01Put_su_v2.bd : Code := bodyOf Go.Proofs.Try.f23

noncomputable def spec_l01Put_su_v2.fin {ρ : Type} (N : Nat) (K : AV → Heap → Option ρ) (gv3 : Nat) (gv4 : Nat → Int) : XE → St → Option ρ := finK (E15 N) spec_l01Put_su_v2.kp.fins Go.Proofs.Try.f23 [⟨false, .flat gv3 (.ints .u8 gv4)⟩] K

noncomputable def spec_l01Put_su_v2.k0 {ρ : Type} (N : Nat) (K : AV → Heap → Option ρ) (gv3 : Nat) (gv4 : Nat → Int) : XE → St → Option ρ := (blockK spec_l01Put_su_v2.kp 1 0 (seqK (xcode (E15 N) ents spec_l01Put_su_v2.kp 1 N (cB (cB (cB (cB (cB (cB (cB spec_l01Put_su_v2.bd))))))) 0) (spec_l01Put_su_v2.fin N K gv3 gv4)))

theorem spec_l01Put_su_v2.k0_mix {ρ : Type} (N : Nat) (K : AV → Heap → Option ρ) (gv3 : Nat) (gv4 : Nat → Int) : mixK (spec_l01Put_su_v2.fin N K gv3 gv4 .ret) (spec_l01Put_su_v2.k0 N K gv3 gv4) = (spec_l01Put_su_v2.k0 N K gv3 gv4) := by
  funext e s; cases e <;> kernel_rfl

noncomputable def spec_l01Put_su_v2.st0 (p0 : Int) (rows1 : Nat) (gv3 : Nat) (gv4 : Nat → Int) (rv7 : Int) (rv9 : Nat → Int) (outv10 : Nat) (placed11 : Bool) (i12 : Int) (gv13 : Nat → Int) : St := ⟨sl 77 [(0, .int .i64 (p0)), (1, .slice false 0 0 rows1 .unk 8), (5, .sptr [(1, 8)]), (7, .int .i64 (rv7)), (8, .slice true 2 0 outv10 .whole 8), (9, .bool (placed11)), (10, .int .i64 (i12))], [⟨false, .flat gv3 (.ints .u8 gv4)⟩, ⟨true, .flat 8 (.ints .u8 rv9)⟩, ⟨true, .flat 0 (.ints .u8 gv13)⟩]⟩

noncomputable def spec_l01Put_su_v2.sx0_0 (gv3 : Nat) (gv4 : Nat → Int) (rv9 : Nat → Int) (ov18 : Nat) (ov19 : Bool) (ov20 : Nat → Int) : St := ⟨sl 77 [(5, .sptr [(1, 8)]), (8, .slice true 2 0 ov18 .whole 8), (9, .bool (ov19))], [⟨false, .flat gv3 (.ints .u8 gv4)⟩, ⟨true, .flat 8 (.ints .u8 rv9)⟩, ⟨true, .flat 0 (.ints .u8 ov20)⟩]⟩

theorem spec_l01Put_su_v2.b0_gen {ρ : Type} (N : Nat) (K : AV → Heap → Option ρ) (L0 : St → Option ρ) (kv : XE → St → Option ρ) (p0 : Int) (rows1 : Nat) (gv3 : Nat) (gv4 : Nat → Int) (rv7 : Int) (rv9 : Nat → Int) (outv10 : Nat) (placed11 : Bool) (i12 : Int) (gv13 : Nat → Int) :
    xcode (E15 N) ents spec_l01Put_su_v2.kp 1 N (cL (cK (cB (cA (cB (cB (cB (cB (cB (cB spec_l01Put_su_v2.bd)))))))))) 0 (spec_l01Put_su_v2.st0 p0 rows1 gv3 gv4 rv7 rv9 outv10 placed11 i12 gv13) (roundK spec_l01Put_su_v2.kp 1 0 L0 (mixK (spec_l01Put_su_v2.fin N K gv3 gv4 .ret) kv)) = (spec_l01Put_su_v2.b0 N (fun d0 => K (.slice false 0 0 d0 .unk 8) [⟨false, .flat gv3 (.ints .u8 gv4)⟩]) (fun d0 d1 => K (.slice true 1 0 d0 .whole 8) [⟨false, .flat gv3 (.ints .u8 gv4)⟩, ⟨true, .flat 0 (.ints .u8 d1)⟩]) (fun outv10 placed11 i12 gv13 => L0 (spec_l01Put_su_v2.st0 p0 rows1 gv3 gv4 rv7 rv9 outv10 placed11 i12 gv13)) (fun ov18 ov19 ov20 => kv (.exit 0) (spec_l01Put_su_v2.sx0_0 gv3 gv4 rv9 ov18 ov19 ov20)) p0 rows1 gv4 rv7 rv9 outv10 placed11 i12 gv13) := by kernel_rfl

theorem spec_l01Put_su_v2.b0_eq {ρ : Type} (N : Nat) (K : AV → Heap → Option ρ) (L0 : St → Option ρ) (p0 : Int) (rows1 : Nat) (gv3 : Nat) (gv4 : Nat → Int) (rv7 : Int) (rv9 : Nat → Int) (outv10 : Nat) (placed11 : Bool) (i12 : Int) (gv13 : Nat → Int) :
    xcode (E15 N) ents spec_l01Put_su_v2.kp 1 N (cL (cK (cB (cA (cB (cB (cB (cB (cB (cB spec_l01Put_su_v2.bd)))))))))) 0 (spec_l01Put_su_v2.st0 p0 rows1 gv3 gv4 rv7 rv9 outv10 placed11 i12 gv13) (roundK spec_l01Put_su_v2.kp 1 0 L0 (spec_l01Put_su_v2.k0 N K gv3 gv4)) = (spec_l01Put_su_v2.b0 N (fun d0 => K (.slice false 0 0 d0 .unk 8) [⟨false, .flat gv3 (.ints .u8 gv4)⟩]) (fun d0 d1 => K (.slice true 1 0 d0 .whole 8) [⟨false, .flat gv3 (.ints .u8 gv4)⟩, ⟨true, .flat 0 (.ints .u8 d1)⟩]) (fun outv10 placed11 i12 gv13 => L0 (spec_l01Put_su_v2.st0 p0 rows1 gv3 gv4 rv7 rv9 outv10 placed11 i12 gv13)) (fun ov18 ov19 ov20 => (spec_l01Put_su_v2.k0 N K gv3 gv4) (.exit 0) (spec_l01Put_su_v2.sx0_0 gv3 gv4 rv9 ov18 ov19 ov20)) p0 rows1 gv4 rv7 rv9 outv10 placed11 i12 gv13) := by
  have h := spec_l01Put_su_v2.b0_gen N K L0 (spec_l01Put_su_v2.k0 N K gv3 gv4) p0 rows1 gv3 gv4 rv7 rv9 outv10 placed11 i12 gv13
  rw [spec_l01Put_su_v2.k0_mix] at h
  exact h

theorem spec_l01Put_su_v2.a0_0_eq {ρ : Type} (N : Nat) (K : AV → Heap → Option ρ) (gv3 : Nat) (gv4 : Nat → Int) (rv9 : Nat → Int) (ov18 : Nat) (ov19 : Bool) (ov20 : Nat → Int) :
    (spec_l01Put_su_v2.k0 N K gv3 gv4) (.exit 0) (spec_l01Put_su_v2.sx0_0 gv3 gv4 rv9 ov18 ov19 ov20) = (spec_l01Put_su_v2.a0_0 N (fun d0 => K (.slice false 0 0 d0 .unk 8) [⟨false, .flat gv3 (.ints .u8 gv4)⟩]) (fun d0 d1 => K (.slice true 1 0 d0 .whole 8) [⟨false, .flat gv3 (.ints .u8 gv4)⟩, ⟨true, .flat 0 (.ints .u8 d1)⟩]) rv9 ov18 ov19 ov20) := by kernel_rfl

theorem spec_l01Put_su_v2.l0_eq {ρ : Type} (N : Nat) (K : AV → Heap → Option ρ) (p0 : Int) (rows1 : Nat) (gv3 : Nat) (gv4 : Nat → Int) (rv7 : Int) (rv9 : Nat → Int) :
    ∀ (m : Nat) (outv10 : Nat) (placed11 : Bool) (i12 : Int) (gv13 : Nat → Int), xloop (xcode (E15 N) ents spec_l01Put_su_v2.kp 1 N (cL (cK (cB (cA (cB (cB (cB (cB (cB (cB spec_l01Put_su_v2.bd)))))))))) 0) spec_l01Put_su_v2.kp 1 0 m (spec_l01Put_su_v2.st0 p0 rows1 gv3 gv4 rv7 rv9 outv10 placed11 i12 gv13) (spec_l01Put_su_v2.k0 N K gv3 gv4) = (spec_l01Put_su_v2.l0 N (fun d0 => K (.slice false 0 0 d0 .unk 8) [⟨false, .flat gv3 (.ints .u8 gv4)⟩]) (fun d0 d1 => K (.slice true 1 0 d0 .whole 8) [⟨false, .flat gv3 (.ints .u8 gv4)⟩, ⟨true, .flat 0 (.ints .u8 d1)⟩]) p0 rows1 gv4 rv7 rv9 (fun ov18 ov19 ov20 => (spec_l01Put_su_v2.k0 N K gv3 gv4) (.exit 0) (spec_l01Put_su_v2.sx0_0 gv3 gv4 rv9 ov18 ov19 ov20)) m outv10 placed11 i12 gv13) := by
  intro m
  induction m with
  | zero => intros; rfl
  | succ m ih =>
    intro outv10 placed11 i12 gv13
    refine (spec_l01Put_su_v2.b0_eq N K (fun s => xloop (xcode (E15 N) ents spec_l01Put_su_v2.kp 1 N (cL (cK (cB (cA (cB (cB (cB (cB (cB (cB spec_l01Put_su_v2.bd)))))))))) 0) spec_l01Put_su_v2.kp 1 0 m s (spec_l01Put_su_v2.k0 N K gv3 gv4)) p0 rows1 gv3 gv4 rv7 rv9 outv10 placed11 i12 gv13).trans ?_
    simp only [ih]
    kernel_rfl

theorem spec_l01Put_su_v2.s_eq {ρ : Type} (N : Nat) (K : AV → Heap → Option ρ) (p0 : Int) (rows1 : Nat) (v2 : Nat → Int) (gv3 : Nat) (gv4 : Nat → Int) :
    xbody (E15 N) ents spec_l01Put_su_v2.kp N Go.Proofs.Try.f23 spec_l01Put_su_v2.bd [.int .i64 (p0), .slice false 0 0 rows1 .unk 8, .agg [⟨.u8, 8, v2⟩]] [⟨false, .flat gv3 (.ints .u8 gv4)⟩] K = (spec_l01Put_su_v2.s N (fun d0 => K (.slice false 0 0 d0 .unk 8) [⟨false, .flat gv3 (.ints .u8 gv4)⟩]) (fun d0 d1 => K (.slice true 1 0 d0 .whole 8) [⟨false, .flat gv3 (.ints .u8 gv4)⟩, ⟨true, .flat 0 (.ints .u8 d1)⟩]) (fun rv7 rv9 outv10 placed11 i12 gv13 => xloop (xcode (E15 N) ents spec_l01Put_su_v2.kp 1 N (cL (cK (cB (cA (cB (cB (cB (cB (cB (cB spec_l01Put_su_v2.bd)))))))))) 0) spec_l01Put_su_v2.kp 1 0 N (spec_l01Put_su_v2.st0 p0 rows1 gv3 gv4 rv7 rv9 outv10 placed11 i12 gv13) (spec_l01Put_su_v2.k0 N K gv3 gv4)) p0 rows1 v2 gv4) := by kernel_rfl

theorem spec_l01Put_su_v2.eq {ρ : Type} (N : Nat) (K : AV → Heap → Option ρ) (p0 : Int) (rows1 : Nat) (v2 : Nat → Int) (gv3 : Nat) (gv4 : Nat → Int) :
    xbody (E15 N) ents spec_l01Put_su_v2.kp N Go.Proofs.Try.f23 spec_l01Put_su_v2.bd [.int .i64 (p0), .slice false 0 0 rows1 .unk 8, .agg [⟨.u8, 8, v2⟩]] [⟨false, .flat gv3 (.ints .u8 gv4)⟩] K = (spec_l01Put_su_v2 N (fun d0 => K (.slice false 0 0 d0 .unk 8) [⟨false, .flat gv3 (.ints .u8 gv4)⟩]) (fun d0 d1 => K (.slice true 1 0 d0 .whole 8) [⟨false, .flat gv3 (.ints .u8 gv4)⟩, ⟨true, .flat 0 (.ints .u8 d1)⟩]) p0 rows1 v2 gv3 gv4) := by
  refine (spec_l01Put_su_v2.s_eq N K p0 rows1 v2 gv3 gv4).trans ?_
  simp only [spec_l01Put_su_v2.l0_eq, spec_l01Put_su_v2.a0_0_eq]
  kernel_rfl

noncomputable def spec_l01Put_su_v2.en (N : Nat) (ρ : Type) : List AV → Heap → (AV → Heap → Option ρ) → Option ρ
  | [.int .i64 (p0), .slice false 0 0 rows1 .unk 8, .agg [⟨.u8, 8, v2⟩]], [⟨false, .flat gv3 (.ints .u8 gv4)⟩], K => (spec_l01Put_su_v2 N (fun d0 => K (.slice false 0 0 d0 .unk 8) [⟨false, .flat gv3 (.ints .u8 gv4)⟩]) (fun d0 d1 => K (.slice true 1 0 d0 .whole 8) [⟨false, .flat gv3 (.ints .u8 gv4)⟩, ⟨true, .flat 0 (.ints .u8 d1)⟩]) p0 rows1 v2 gv3 gv4)
  | _, _, _ => none

theorem spec_l01Put_su_v2.en_ok (N : Nat) (hE : EnvOk (E15 N) ents) (ρ : Type) (args : List AV) (sh : Heap) (K : AV → Heap → Option ρ) (r : ρ) (h : spec_l01Put_su_v2.en N ρ args sh K = some r) : ∃ v sh', K v sh' = some r ∧ FnOk (E15 N).P 23 args sh v sh' := by
  unfold spec_l01Put_su_v2.en at h
  split at h
  · exact fn_ok hE (kp := spec_l01Put_su_v2.kp) (N := N) Go.Proofs.Try.func23 (c := spec_l01Put_su_v2.bd) (by kernel_rfl) ((spec_l01Put_su_v2.eq N _ _ _ _ _ _).trans h)
  · cases h

noncomputable def E16 (N : Nat) : Env := (E15 N).add 23 (spec_l01Put_su_v2.en N)

theorem E16_ok (N : Nat) : EnvOk (E16 N) ents := Env.add_ok (E15_ok N) (spec_l01Put_su_v2.en_ok N (E15_ok N))

noncomputable def spec_l01Reduce_s.kp : Keeps := ⟨[(0, [0, 1, 5, 6], [(.slot 5, .unk (.ints .u8 (fun _ => 0)) 8)], [])], [(0, [5], [], [])], []⟩

noncomputable def spec_l01Reduce_s.bd : Code := bodyOf Go.Proofs.Try.f13

noncomputable def spec_l01Reduce_s.fin {ρ : Type} (N : Nat) (K : AV → Heap → Option ρ) (gv3 : Nat) (gv4 : Nat → Int) : XE → St → Option ρ := finK (E16 N) spec_l01Reduce_s.kp.fins Go.Proofs.Try.f13 [⟨false, .flat gv3 (.ints .u8 gv4)⟩] K

noncomputable def spec_l01Reduce_s.k0 {ρ : Type} (N : Nat) (K : AV → Heap → Option ρ) (gv3 : Nat) (gv4 : Nat → Int) : XE → St → Option ρ := (blockK spec_l01Reduce_s.kp 1 0 (seqK (xcode (E16 N) ents spec_l01Reduce_s.kp 1 N (cB (cB (cB spec_l01Reduce_s.bd))) 0) (spec_l01Reduce_s.fin N K gv3 gv4)))

theorem spec_l01Reduce_s.k0_mix {ρ : Type} (N : Nat) (K : AV → Heap → Option ρ) (gv3 : Nat) (gv4 : Nat → Int) : mixK (spec_l01Reduce_s.fin N K gv3 gv4 .ret) (spec_l01Reduce_s.k0 N K gv3 gv4) = (spec_l01Reduce_s.k0 N K gv3 gv4) := by
  funext e s; cases e <;> kernel_rfl

noncomputable def spec_l01Reduce_s.st0 (p0 : Int) (list1 : Nat) (list2 : Nat) (gv3 : Nat) (gv4 : Nat → Int) (outv5 : Nat) (i6 : Int) (gv7 : Nat → Int) : St := ⟨sl 22 [(0, .int .i64 (p0)), (1, .slice true 0 0 list1 (.exact list2) 8), (5, .slice false 1 0 outv5 .unk 8), (6, .int .i64 (i6))], [⟨false, .flat gv3 (.ints .u8 gv4)⟩, ⟨true, .flat 0 (.ints .u8 gv7)⟩]⟩

noncomputable def spec_l01Reduce_s.sx0_0 (gv3 : Nat) (gv4 : Nat → Int) (ov11 : Nat) (ov12 : Nat → Int) : St := ⟨sl 22 [(5, .slice false 1 0 ov11 .unk 8)], [⟨false, .flat gv3 (.ints .u8 gv4)⟩, ⟨true, .flat 0 (.ints .u8 ov12)⟩]⟩

theorem spec_l01Reduce_s.b0_gen {ρ : Type} (N : Nat) (K : AV → Heap → Option ρ) (L0 : St → Option ρ) (kv : XE → St → Option ρ) (p0 : Int) (list1 : Nat) (list2 : Nat) (gv3 : Nat) (gv4 : Nat → Int) (outv5 : Nat) (i6 : Int) (gv7 : Nat → Int) :
    xcode (E16 N) ents spec_l01Reduce_s.kp 1 N (cL (cK (cB (cA (cB (cB spec_l01Reduce_s.bd)))))) 0 (spec_l01Reduce_s.st0 p0 list1 list2 gv3 gv4 outv5 i6 gv7) (roundK spec_l01Reduce_s.kp 1 0 L0 (mixK (spec_l01Reduce_s.fin N K gv3 gv4 .ret) kv)) = (spec_l01Reduce_s.b0 N (fun d0 d1 => K (.slice false 1 0 d0 .unk 8) [⟨false, .flat gv3 (.ints .u8 gv4)⟩, ⟨true, .flat 0 (.ints .u8 d1)⟩]) (fun outv5 i6 gv7 => L0 (spec_l01Reduce_s.st0 p0 list1 list2 gv3 gv4 outv5 i6 gv7)) (fun ov11 ov12 => kv (.exit 0) (spec_l01Reduce_s.sx0_0 gv3 gv4 ov11 ov12)) p0 list1 gv4 outv5 i6 gv7) := by kernel_rfl

theorem spec_l01Reduce_s.b0_eq {ρ : Type} (N : Nat) (K : AV → Heap → Option ρ) (L0 : St → Option ρ) (p0 : Int) (list1 : Nat) (list2 : Nat) (gv3 : Nat) (gv4 : Nat → Int) (outv5 : Nat) (i6 : Int) (gv7 : Nat → Int) :
    xcode (E16 N) ents spec_l01Reduce_s.kp 1 N (cL (cK (cB (cA (cB (cB spec_l01Reduce_s.bd)))))) 0 (spec_l01Reduce_s.st0 p0 list1 list2 gv3 gv4 outv5 i6 gv7) (roundK spec_l01Reduce_s.kp 1 0 L0 (spec_l01Reduce_s.k0 N K gv3 gv4)) = (spec_l01Reduce_s.b0 N (fun d0 d1 => K (.slice false 1 0 d0 .unk 8) [⟨false, .flat gv3 (.ints .u8 gv4)⟩, ⟨true, .flat 0 (.ints .u8 d1)⟩]) (fun outv5 i6 gv7 => L0 (spec_l01Reduce_s.st0 p0 list1 list2 gv3 gv4 outv5 i6 gv7)) (fun ov11 ov12 => (spec_l01Reduce_s.k0 N K gv3 gv4) (.exit 0) (spec_l01Reduce_s.sx0_0 gv3 gv4 ov11 ov12)) p0 list1 gv4 outv5 i6 gv7) := by
  have h := spec_l01Reduce_s.b0_gen N K L0 (spec_l01Reduce_s.k0 N K gv3 gv4) p0 list1 list2 gv3 gv4 outv5 i6 gv7
  rw [spec_l01Reduce_s.k0_mix] at h
  exact h

theorem spec_l01Reduce_s.a0_0_eq {ρ : Type} (N : Nat) (K : AV → Heap → Option ρ) (gv3 : Nat) (gv4 : Nat → Int) (ov11 : Nat) (ov12 : Nat → Int) :
    (spec_l01Reduce_s.k0 N K gv3 gv4) (.exit 0) (spec_l01Reduce_s.sx0_0 gv3 gv4 ov11 ov12) = (spec_l01Reduce_s.a0_0 N (fun d0 d1 => K (.slice false 1 0 d0 .unk 8) [⟨false, .flat gv3 (.ints .u8 gv4)⟩, ⟨true, .flat 0 (.ints .u8 d1)⟩]) ov11 ov12) := by kernel_rfl

theorem spec_l01Reduce_s.l0_eq {ρ : Type} (N : Nat) (K : AV → Heap → Option ρ) (p0 : Int) (list1 : Nat) (list2 : Nat) (gv3 : Nat) (gv4 : Nat → Int) :
    ∀ (m : Nat) (outv5 : Nat) (i6 : Int) (gv7 : Nat → Int), xloop (xcode (E16 N) ents spec_l01Reduce_s.kp 1 N (cL (cK (cB (cA (cB (cB spec_l01Reduce_s.bd)))))) 0) spec_l01Reduce_s.kp 1 0 m (spec_l01Reduce_s.st0 p0 list1 list2 gv3 gv4 outv5 i6 gv7) (spec_l01Reduce_s.k0 N K gv3 gv4) = (spec_l01Reduce_s.l0 N (fun d0 d1 => K (.slice false 1 0 d0 .unk 8) [⟨false, .flat gv3 (.ints .u8 gv4)⟩, ⟨true, .flat 0 (.ints .u8 d1)⟩]) p0 list1 gv4 (fun ov11 ov12 => (spec_l01Reduce_s.k0 N K gv3 gv4) (.exit 0) (spec_l01Reduce_s.sx0_0 gv3 gv4 ov11 ov12)) m outv5 i6 gv7) := by
  intro m
  induction m with
  | zero => intros; rfl
  | succ m ih =>
    intro outv5 i6 gv7
    refine (spec_l01Reduce_s.b0_eq N K (fun s => xloop (xcode (E16 N) ents spec_l01Reduce_s.kp 1 N (cL (cK (cB (cA (cB (cB spec_l01Reduce_s.bd)))))) 0) spec_l01Reduce_s.kp 1 0 m s (spec_l01Reduce_s.k0 N K gv3 gv4)) p0 list1 list2 gv3 gv4 outv5 i6 gv7).trans ?_
    simp only [ih]
    kernel_rfl

theorem spec_l01Reduce_s.s_eq {ρ : Type} (N : Nat) (K : AV → Heap → Option ρ) (p0 : Int) (list1 : Nat) (list2 : Nat) (gv3 : Nat) (gv4 : Nat → Int) :
    xbody (E16 N) ents spec_l01Reduce_s.kp N Go.Proofs.Try.f13 spec_l01Reduce_s.bd [.int .i64 (p0), .slice true 0 0 list1 (.exact list2) 8] [⟨false, .flat gv3 (.ints .u8 gv4)⟩] K = (spec_l01Reduce_s.s N (fun d0 d1 => K (.slice false 1 0 d0 .unk 8) [⟨false, .flat gv3 (.ints .u8 gv4)⟩, ⟨true, .flat 0 (.ints .u8 d1)⟩]) (fun outv5 i6 gv7 => xloop (xcode (E16 N) ents spec_l01Reduce_s.kp 1 N (cL (cK (cB (cA (cB (cB spec_l01Reduce_s.bd)))))) 0) spec_l01Reduce_s.kp 1 0 N (spec_l01Reduce_s.st0 p0 list1 list2 gv3 gv4 outv5 i6 gv7) (spec_l01Reduce_s.k0 N K gv3 gv4))) := by kernel_rfl

theorem spec_l01Reduce_s.eq {ρ : Type} (N : Nat) (K : AV → Heap → Option ρ) (p0 : Int) (list1 : Nat) (list2 : Nat) (gv3 : Nat) (gv4 : Nat → Int) :
    xbody (E16 N) ents spec_l01Reduce_s.kp N Go.Proofs.Try.f13 spec_l01Reduce_s.bd [.int .i64 (p0), .slice true 0 0 list1 (.exact list2) 8] [⟨false, .flat gv3 (.ints .u8 gv4)⟩] K = (spec_l01Reduce_s N (fun d0 d1 => K (.slice false 1 0 d0 .unk 8) [⟨false, .flat gv3 (.ints .u8 gv4)⟩, ⟨true, .flat 0 (.ints .u8 d1)⟩]) p0 list1 list2 gv3 gv4) := by
  refine (spec_l01Reduce_s.s_eq N K p0 list1 list2 gv3 gv4).trans ?_
  simp only [spec_l01Reduce_s.l0_eq, spec_l01Reduce_s.a0_0_eq]
  kernel_rfl

noncomputable def spec_l01Reduce_s.en (N : Nat) (ρ : Type) : List AV → Heap → (AV → Heap → Option ρ) → Option ρ
  | [.int .i64 (p0), .slice true 0 0 list1 (.exact list2) 8], [⟨false, .flat gv3 (.ints .u8 gv4)⟩], K => (spec_l01Reduce_s N (fun d0 d1 => K (.slice false 1 0 d0 .unk 8) [⟨false, .flat gv3 (.ints .u8 gv4)⟩, ⟨true, .flat 0 (.ints .u8 d1)⟩]) p0 list1 list2 gv3 gv4)
  | _, _, _ => none

theorem spec_l01Reduce_s.en_ok (N : Nat) (hE : EnvOk (E16 N) ents) (ρ : Type) (args : List AV) (sh : Heap) (K : AV → Heap → Option ρ) (r : ρ) (h : spec_l01Reduce_s.en N ρ args sh K = some r) : ∃ v sh', K v sh' = some r ∧ FnOk (E16 N).P 13 args sh v sh' := by
  unfold spec_l01Reduce_s.en at h
  split at h
  · exact fn_ok hE (kp := spec_l01Reduce_s.kp) (N := N) Go.Proofs.Try.func13 (c := spec_l01Reduce_s.bd) (by kernel_rfl) ((spec_l01Reduce_s.eq N _ _ _ _ _ _).trans h)
  · cases h

noncomputable def E17 (N : Nat) : Env := (E16 N).add 13 (spec_l01Reduce_s.en N)

theorem E17_ok (N : Nat) : EnvOk (E17 N) ents := Env.add_ok (E16_ok N) (spec_l01Reduce_s.en_ok N (E16_ok N))

noncomputable def spec_ReduceVectors_s.kp : Keeps := ⟨[], [], [(.slot 6, .unk (.ints .u8 (fun _ => 0)) 8)]⟩

noncomputable def spec_ReduceVectors_s.bd : Code := bodyOf Go.Proofs.Try.f5

noncomputable def spec_ReduceVectors_s.fin {ρ : Type} (N : Nat) (K : AV → Heap → Option ρ) (gv4 : Nat) (gv5 : Nat → Int) : XE → St → Option ρ := finK (E17 N) spec_ReduceVectors_s.kp.fins Go.Proofs.Try.f5 [⟨false, .flat gv4 (.ints .u8 gv5)⟩] K

theorem spec_ReduceVectors_s.eq {ρ : Type} (N : Nat) (K : AV → Heap → Option ρ) (p0 : Int) (nv1 : Int) (list2 : Nat) (list3 : Nat) (gv4 : Nat) (gv5 : Nat → Int) :
    xbody (E17 N) ents spec_ReduceVectors_s.kp N Go.Proofs.Try.f5 spec_ReduceVectors_s.bd [.int .i64 (p0), .int .i64 (nv1), .slice true 0 0 list2 (.exact list3) 8] [⟨false, .flat gv4 (.ints .u8 gv5)⟩] K = (spec_ReduceVectors_s N (fun d0 d1 d2 => K (.tup [.slice false 1 0 d0 .unk 8, .int .i64 (d1)]) [⟨false, .flat gv4 (.ints .u8 gv5)⟩, ⟨true, .flat 0 (.ints .u8 d2)⟩]) p0 nv1 list2 list3 gv4 gv5) := by kernel_rfl

noncomputable def spec_ReduceVectors_s.en (N : Nat) (ρ : Type) : List AV → Heap → (AV → Heap → Option ρ) → Option ρ
  | [.int .i64 (p0), .int .i64 (nv1), .slice true 0 0 list2 (.exact list3) 8], [⟨false, .flat gv4 (.ints .u8 gv5)⟩], K => (spec_ReduceVectors_s N (fun d0 d1 d2 => K (.tup [.slice false 1 0 d0 .unk 8, .int .i64 (d1)]) [⟨false, .flat gv4 (.ints .u8 gv5)⟩, ⟨true, .flat 0 (.ints .u8 d2)⟩]) p0 nv1 list2 list3 gv4 gv5)
  | _, _, _ => none

theorem spec_ReduceVectors_s.en_ok (N : Nat) (hE : EnvOk (E17 N) ents) (ρ : Type) (args : List AV) (sh : Heap) (K : AV → Heap → Option ρ) (r : ρ) (h : spec_ReduceVectors_s.en N ρ args sh K = some r) : ∃ v sh', K v sh' = some r ∧ FnOk (E17 N).P 5 args sh v sh' := by
  unfold spec_ReduceVectors_s.en at h
  split at h
  · exact fn_ok hE (kp := spec_ReduceVectors_s.kp) (N := N) Go.Proofs.Try.func5 (c := spec_ReduceVectors_s.bd) (by kernel_rfl) ((spec_ReduceVectors_s.eq N _ _ _ _ _ _ _).trans h)
  · cases h

noncomputable def E18 (N : Nat) : Env := (E17 N).add 5 (spec_ReduceVectors_s.en N)

theorem E18_ok (N : Nat) : EnvOk (E18 N) ents := Env.add_ok (E17_ok N) (spec_ReduceVectors_s.en_ok N (E17_ok N))

noncomputable def impl_IsPrime.kp : Keeps := ⟨[(0, [0, 3], [], [])], [(0, [], [], [])], []⟩

noncomputable def impl_IsPrime.bd : Code := bodyOf Go.Proofs.Try.f25

noncomputable def impl_IsPrime.fin {ρ : Type} (N : Nat) (K : AV → Heap → Option ρ) : XE → St → Option ρ := finK (E18 N) impl_IsPrime.kp.fins Go.Proofs.Try.f25 [] K

noncomputable def impl_IsPrime.k0 {ρ : Type} (N : Nat) (K : AV → Heap → Option ρ) : XE → St → Option ρ := (blockK impl_IsPrime.kp 0 0 (seqK (xcode (E18 N) ents impl_IsPrime.kp 0 N (cB (cB (cB impl_IsPrime.bd))) 0) (impl_IsPrime.fin N K)))

theorem impl_IsPrime.k0_mix {ρ : Type} (N : Nat) (K : AV → Heap → Option ρ) : mixK (impl_IsPrime.fin N K .ret) (impl_IsPrime.k0 N K) = (impl_IsPrime.k0 N K) := by
  funext e s; cases e <;> kernel_rfl

noncomputable def impl_IsPrime.st0 (p0 : Int) (k1 : Int) : St := ⟨sl 21 [(0, .int .i64 (p0)), (3, .int .i64 (k1))], []⟩

noncomputable def impl_IsPrime.sx0_0 : St := ⟨sl 21 [], []⟩

theorem impl_IsPrime.b0_gen {ρ : Type} (N : Nat) (K : AV → Heap → Option ρ) (L0 : St → Option ρ) (kv : XE → St → Option ρ) (p0 : Int) (k1 : Int) :
    xcode (E18 N) ents impl_IsPrime.kp 0 N (cL (cK (cB (cA (cB (cB impl_IsPrime.bd)))))) 0 (impl_IsPrime.st0 p0 k1) (roundK impl_IsPrime.kp 0 0 L0 (mixK (impl_IsPrime.fin N K .ret) kv)) = (impl_IsPrime.b0 N (fun d0 => K (.bool (d0)) []) (fun k1 => L0 (impl_IsPrime.st0 p0 k1)) (kv (.exit 0) (impl_IsPrime.sx0_0)) p0 k1) := by kernel_rfl

theorem impl_IsPrime.b0_eq {ρ : Type} (N : Nat) (K : AV → Heap → Option ρ) (L0 : St → Option ρ) (p0 : Int) (k1 : Int) :
    xcode (E18 N) ents impl_IsPrime.kp 0 N (cL (cK (cB (cA (cB (cB impl_IsPrime.bd)))))) 0 (impl_IsPrime.st0 p0 k1) (roundK impl_IsPrime.kp 0 0 L0 (impl_IsPrime.k0 N K)) = (impl_IsPrime.b0 N (fun d0 => K (.bool (d0)) []) (fun k1 => L0 (impl_IsPrime.st0 p0 k1)) ((impl_IsPrime.k0 N K) (.exit 0) (impl_IsPrime.sx0_0)) p0 k1) := by
  have h := impl_IsPrime.b0_gen N K L0 (impl_IsPrime.k0 N K) p0 k1
  rw [impl_IsPrime.k0_mix] at h
  exact h

theorem impl_IsPrime.a0_0_eq {ρ : Type} (N : Nat) (K : AV → Heap → Option ρ) :
    (impl_IsPrime.k0 N K) (.exit 0) (impl_IsPrime.sx0_0) = (impl_IsPrime.a0_0 N (fun d0 => K (.bool (d0)) [])) := by kernel_rfl

theorem impl_IsPrime.l0_eq {ρ : Type} (N : Nat) (K : AV → Heap → Option ρ) (p0 : Int) :
    ∀ (m : Nat) (k1 : Int), xloop (xcode (E18 N) ents impl_IsPrime.kp 0 N (cL (cK (cB (cA (cB (cB impl_IsPrime.bd)))))) 0) impl_IsPrime.kp 0 0 m (impl_IsPrime.st0 p0 k1) (impl_IsPrime.k0 N K) = (impl_IsPrime.l0 N (fun d0 => K (.bool (d0)) []) p0 ((impl_IsPrime.k0 N K) (.exit 0) (impl_IsPrime.sx0_0)) m k1) := by
  intro m
  induction m with
  | zero => intros; rfl
  | succ m ih =>
    intro k1
    refine (impl_IsPrime.b0_eq N K (fun s => xloop (xcode (E18 N) ents impl_IsPrime.kp 0 N (cL (cK (cB (cA (cB (cB impl_IsPrime.bd)))))) 0) impl_IsPrime.kp 0 0 m s (impl_IsPrime.k0 N K)) p0 k1).trans ?_
    simp only [ih]
    kernel_rfl

theorem impl_IsPrime.s_eq {ρ : Type} (N : Nat) (K : AV → Heap → Option ρ) (p0 : Int) :
    xbody (E18 N) ents impl_IsPrime.kp N Go.Proofs.Try.f25 impl_IsPrime.bd [.int .i64 (p0)] [] K = (impl_IsPrime.s N (fun d0 => K (.bool (d0)) []) (fun k1 => xloop (xcode (E18 N) ents impl_IsPrime.kp 0 N (cL (cK (cB (cA (cB (cB impl_IsPrime.bd)))))) 0) impl_IsPrime.kp 0 0 N (impl_IsPrime.st0 p0 k1) (impl_IsPrime.k0 N K)) p0) := by kernel_rfl

theorem impl_IsPrime.eq {ρ : Type} (N : Nat) (K : AV → Heap → Option ρ) (p0 : Int) :
    xbody (E18 N) ents impl_IsPrime.kp N Go.Proofs.Try.f25 impl_IsPrime.bd [.int .i64 (p0)] [] K = (impl_IsPrime N (fun d0 => K (.bool (d0)) []) p0) := by
  refine (impl_IsPrime.s_eq N K p0).trans ?_
  simp only [impl_IsPrime.l0_eq, impl_IsPrime.a0_0_eq]
  kernel_rfl

noncomputable def impl_IsPrime.en (N : Nat) (ρ : Type) : List AV → Heap → (AV → Heap → Option ρ) → Option ρ
  | [.int .i64 (p0)], [], K => (impl_IsPrime N (fun d0 => K (.bool (d0)) []) p0)
  | _, _, _ => none

theorem impl_IsPrime.en_ok (N : Nat) (hE : EnvOk (E18 N) ents) (ρ : Type) (args : List AV) (sh : Heap) (K : AV → Heap → Option ρ) (r : ρ) (h : impl_IsPrime.en N ρ args sh K = some r) : ∃ v sh', K v sh' = some r ∧ FnOk (E18 N).P 25 args sh v sh' := by
  unfold impl_IsPrime.en at h
  split at h
  · exact fn_ok hE (kp := impl_IsPrime.kp) (N := N) Go.Proofs.Try.func25 (c := impl_IsPrime.bd) (by kernel_rfl) ((impl_IsPrime.eq N _ _).trans h)
  · cases h

noncomputable def E19 (N : Nat) : Env := (E18 N).add 25 (impl_IsPrime.en N)

theorem E19_ok (N : Nat) : EnvOk (E19 N) ents := Env.add_ok (E18_ok N) (impl_IsPrime.en_ok N (E18_ok N))

noncomputable def impl_in.kp : Keeps := ⟨[], [], []⟩

noncomputable def impl_in.bd : Code := bodyOf Go.Proofs.Try.f26

noncomputable def impl_in.fin {ρ : Type} (N : Nat) (K : AV → Heap → Option ρ) : XE → St → Option ρ := finK (E19 N) impl_in.kp.fins Go.Proofs.Try.f26 [] K

theorem impl_in.eq {ρ : Type} (N : Nat) (K : AV → Heap → Option ρ) (x0 : Int) (least1 : Int) (most2 : Int) :
    xbody (E19 N) ents impl_in.kp N Go.Proofs.Try.f26 impl_in.bd [.int .i64 (x0), .int .i64 (least1), .int .i64 (most2)] [] K = (impl_in N (fun d0 => K (.bool (d0)) []) x0 least1 most2) := by kernel_rfl

noncomputable def impl_in.en (N : Nat) (ρ : Type) : List AV → Heap → (AV → Heap → Option ρ) → Option ρ
  | [.int .i64 (x0), .int .i64 (least1), .int .i64 (most2)], [], K => (impl_in N (fun d0 => K (.bool (d0)) []) x0 least1 most2)
  | _, _, _ => none

theorem impl_in.en_ok (N : Nat) (hE : EnvOk (E19 N) ents) (ρ : Type) (args : List AV) (sh : Heap) (K : AV → Heap → Option ρ) (r : ρ) (h : impl_in.en N ρ args sh K = some r) : ∃ v sh', K v sh' = some r ∧ FnOk (E19 N).P 26 args sh v sh' := by
  unfold impl_in.en at h
  split at h
  · exact fn_ok hE (kp := impl_in.kp) (N := N) Go.Proofs.Try.func26 (c := impl_in.bd) (by kernel_rfl) ((impl_in.eq N _ _ _ _).trans h)
  · cases h

noncomputable def E20 (N : Nat) : Env := (E19 N).add 26 (impl_in.en N)

theorem E20_ok (N : Nat) : EnvOk (E20 N) ents := Env.add_ok (E19_ok N) (impl_in.en_ok N (E19_ok N))

noncomputable def impl_IsVector.kp : Keeps := ⟨[(0, [0, 1, 17, 18], [], [])], [(0, [], [], [])], []⟩

noncomputable def impl_IsVector.bd : Code := bodyOf Go.Proofs.Try.f18

noncomputable def impl_IsVector.fin {ρ : Type} (N : Nat) (K : AV → Heap → Option ρ) : XE → St → Option ρ := finK (E20 N) impl_IsVector.kp.fins Go.Proofs.Try.f18 [] K

noncomputable def impl_IsVector.k0 {ρ : Type} (N : Nat) (K : AV → Heap → Option ρ) : XE → St → Option ρ := (blockK impl_IsVector.kp 0 0 (seqK (xcode (E20 N) ents impl_IsVector.kp 0 N (cB (cB (cB impl_IsVector.bd))) 0) (impl_IsVector.fin N K)))

theorem impl_IsVector.k0_mix {ρ : Type} (N : Nat) (K : AV → Heap → Option ρ) : mixK (impl_IsVector.fin N K .ret) (impl_IsVector.k0 N K) = (impl_IsVector.k0 N K) := by
  funext e s; cases e <;> kernel_rfl

noncomputable def impl_IsVector.st0 (p0 : Int) (nv1 : Int) (v2 : Nat → Int) (x5 : Int) : St := ⟨sl 36 [(0, .int .i64 (p0)), (1, .int .i64 (nv1)), (17, .agg [⟨.u8, 8, v2⟩]), (18, .int .i64 (x5))], []⟩

noncomputable def impl_IsVector.sx0_0 : St := ⟨sl 36 [], []⟩

theorem impl_IsVector.b0_gen {ρ : Type} (N : Nat) (K : AV → Heap → Option ρ) (L0 : St → Option ρ) (kv : XE → St → Option ρ) (p0 : Int) (nv1 : Int) (v2 : Nat → Int) (x5 : Int) :
    xcode (E20 N) ents impl_IsVector.kp 0 N (cL (cK (cB (cA (cB (cB impl_IsVector.bd)))))) 0 (impl_IsVector.st0 p0 nv1 v2 x5) (roundK impl_IsVector.kp 0 0 L0 (mixK (impl_IsVector.fin N K .ret) kv)) = (impl_IsVector.b0 N (fun d0 => K (.bool (d0)) []) (fun x5 => L0 (impl_IsVector.st0 p0 nv1 v2 x5)) (kv (.exit 0) (impl_IsVector.sx0_0)) p0 nv1 v2 x5) := by kernel_rfl

theorem impl_IsVector.b0_eq {ρ : Type} (N : Nat) (K : AV → Heap → Option ρ) (L0 : St → Option ρ) (p0 : Int) (nv1 : Int) (v2 : Nat → Int) (x5 : Int) :
    xcode (E20 N) ents impl_IsVector.kp 0 N (cL (cK (cB (cA (cB (cB impl_IsVector.bd)))))) 0 (impl_IsVector.st0 p0 nv1 v2 x5) (roundK impl_IsVector.kp 0 0 L0 (impl_IsVector.k0 N K)) = (impl_IsVector.b0 N (fun d0 => K (.bool (d0)) []) (fun x5 => L0 (impl_IsVector.st0 p0 nv1 v2 x5)) ((impl_IsVector.k0 N K) (.exit 0) (impl_IsVector.sx0_0)) p0 nv1 v2 x5) := by
  have h := impl_IsVector.b0_gen N K L0 (impl_IsVector.k0 N K) p0 nv1 v2 x5
  rw [impl_IsVector.k0_mix] at h
  exact h

theorem impl_IsVector.a0_0_eq {ρ : Type} (N : Nat) (K : AV → Heap → Option ρ) :
    (impl_IsVector.k0 N K) (.exit 0) (impl_IsVector.sx0_0) = (impl_IsVector.a0_0 N (fun d0 => K (.bool (d0)) [])) := by kernel_rfl

theorem impl_IsVector.l0_eq {ρ : Type} (N : Nat) (K : AV → Heap → Option ρ) (p0 : Int) (nv1 : Int) (v2 : Nat → Int) :
    ∀ (m : Nat) (x5 : Int), xloop (xcode (E20 N) ents impl_IsVector.kp 0 N (cL (cK (cB (cA (cB (cB impl_IsVector.bd)))))) 0) impl_IsVector.kp 0 0 m (impl_IsVector.st0 p0 nv1 v2 x5) (impl_IsVector.k0 N K) = (impl_IsVector.l0 N (fun d0 => K (.bool (d0)) []) p0 nv1 v2 ((impl_IsVector.k0 N K) (.exit 0) (impl_IsVector.sx0_0)) m x5) := by
  intro m
  induction m with
  | zero => intros; rfl
  | succ m ih =>
    intro x5
    refine (impl_IsVector.b0_eq N K (fun s => xloop (xcode (E20 N) ents impl_IsVector.kp 0 N (cL (cK (cB (cA (cB (cB impl_IsVector.bd)))))) 0) impl_IsVector.kp 0 0 m s (impl_IsVector.k0 N K)) p0 nv1 v2 x5).trans ?_
    simp only [ih]
    kernel_rfl

theorem impl_IsVector.s_eq {ρ : Type} (N : Nat) (K : AV → Heap → Option ρ) (p0 : Int) (nv1 : Int) (v2 : Nat → Int) :
    xbody (E20 N) ents impl_IsVector.kp N Go.Proofs.Try.f18 impl_IsVector.bd [.int .i64 (p0), .int .i64 (nv1), .agg [⟨.u8, 8, v2⟩]] [] K = (impl_IsVector.s N (fun d0 => K (.bool (d0)) []) (fun x5 => xloop (xcode (E20 N) ents impl_IsVector.kp 0 N (cL (cK (cB (cA (cB (cB impl_IsVector.bd)))))) 0) impl_IsVector.kp 0 0 N (impl_IsVector.st0 p0 nv1 v2 x5) (impl_IsVector.k0 N K)) p0 nv1) := by kernel_rfl

theorem impl_IsVector.eq {ρ : Type} (N : Nat) (K : AV → Heap → Option ρ) (p0 : Int) (nv1 : Int) (v2 : Nat → Int) :
    xbody (E20 N) ents impl_IsVector.kp N Go.Proofs.Try.f18 impl_IsVector.bd [.int .i64 (p0), .int .i64 (nv1), .agg [⟨.u8, 8, v2⟩]] [] K = (impl_IsVector N (fun d0 => K (.bool (d0)) []) p0 nv1 v2) := by
  refine (impl_IsVector.s_eq N K p0 nv1 v2).trans ?_
  simp only [impl_IsVector.l0_eq, impl_IsVector.a0_0_eq]
  kernel_rfl

noncomputable def impl_IsVector.en (N : Nat) (ρ : Type) : List AV → Heap → (AV → Heap → Option ρ) → Option ρ
  | [.int .i64 (p0), .int .i64 (nv1), .agg [⟨.u8, 8, v2⟩]], [], K => (impl_IsVector N (fun d0 => K (.bool (d0)) []) p0 nv1 v2)
  | _, _, _ => none

theorem impl_IsVector.en_ok (N : Nat) (hE : EnvOk (E20 N) ents) (ρ : Type) (args : List AV) (sh : Heap) (K : AV → Heap → Option ρ) (r : ρ) (h : impl_IsVector.en N ρ args sh K = some r) : ∃ v sh', K v sh' = some r ∧ FnOk (E20 N).P 18 args sh v sh' := by
  unfold impl_IsVector.en at h
  split at h
  · exact fn_ok hE (kp := impl_IsVector.kp) (N := N) Go.Proofs.Try.func18 (c := impl_IsVector.bd) (by kernel_rfl) ((impl_IsVector.eq N _ _ _ _).trans h)
  · cases h

noncomputable def E21 (N : Nat) : Env := (E20 N).add 18 (impl_IsVector.en N)

theorem E21_ok (N : Nat) : EnvOk (E21 N) ents := Env.add_ok (E20_ok N) (impl_IsVector.en_ok N (E20_ok N))

noncomputable def impl_ReduceVectors_c1.kp : Keeps := ⟨[], [], []⟩

noncomputable def impl_ReduceVectors_c1.bd : Code := bodyOf Go.Proofs.Try.f17

noncomputable def impl_ReduceVectors_c1.fin {ρ : Type} (N : Nat) (K : AV → Heap → Option ρ) (gv1 : Nat → Int) (gv2 : Nat → Int) : XE → St → Option ρ := finK (E21 N) impl_ReduceVectors_c1.kp.fins Go.Proofs.Try.f17 [⟨false, .flat 1 (.ints .i64 gv1)⟩, ⟨false, .flat 1 (.ints .i64 gv2)⟩] K

theorem impl_ReduceVectors_c1.eq {ρ : Type} (N : Nat) (K : AV → Heap → Option ρ) (v0 : Nat → Int) (gv1 : Nat → Int) (gv2 : Nat → Int) :
    xbody (E21 N) ents impl_ReduceVectors_c1.kp N Go.Proofs.Try.f17 impl_ReduceVectors_c1.bd [.agg [⟨.u8, 8, v0⟩], .sptr [(0, 1)], .sptr [(1, 1)]] [⟨false, .flat 1 (.ints .i64 gv1)⟩, ⟨false, .flat 1 (.ints .i64 gv2)⟩] K = (impl_ReduceVectors_c1 N (fun d0 => K (.bool (d0)) [⟨false, .flat 1 (.ints .i64 gv1)⟩, ⟨false, .flat 1 (.ints .i64 gv2)⟩]) v0 gv1 gv2) := by kernel_rfl

noncomputable def impl_ReduceVectors_c1.en (N : Nat) (ρ : Type) : List AV → Heap → (AV → Heap → Option ρ) → Option ρ
  | [.agg [⟨.u8, 8, v0⟩], .sptr [(0, 1)], .sptr [(1, 1)]], [⟨false, .flat 1 (.ints .i64 gv1)⟩, ⟨false, .flat 1 (.ints .i64 gv2)⟩], K => (impl_ReduceVectors_c1 N (fun d0 => K (.bool (d0)) [⟨false, .flat 1 (.ints .i64 gv1)⟩, ⟨false, .flat 1 (.ints .i64 gv2)⟩]) v0 gv1 gv2)
  | _, _, _ => none

theorem impl_ReduceVectors_c1.en_ok (N : Nat) (hE : EnvOk (E21 N) ents) (ρ : Type) (args : List AV) (sh : Heap) (K : AV → Heap → Option ρ) (r : ρ) (h : impl_ReduceVectors_c1.en N ρ args sh K = some r) : ∃ v sh', K v sh' = some r ∧ FnOk (E21 N).P 17 args sh v sh' := by
  unfold impl_ReduceVectors_c1.en at h
  split at h
  · exact fn_ok hE (kp := impl_ReduceVectors_c1.kp) (N := N) Go.Proofs.Try.func17 (c := impl_ReduceVectors_c1.bd) (by kernel_rfl) ((impl_ReduceVectors_c1.eq N _ _ _ _).trans h)
  · cases h

noncomputable def E22 (N : Nat) : Env := (E21 N).add 17 (impl_ReduceVectors_c1.en N)

theorem E22_ok (N : Nat) : EnvOk (E22 N) ents := Env.add_ok (E21_ok N) (impl_ReduceVectors_c1.en_ok N (E21_ok N))
end Go.Proofs.Ytfiopadjbheclaa.H
