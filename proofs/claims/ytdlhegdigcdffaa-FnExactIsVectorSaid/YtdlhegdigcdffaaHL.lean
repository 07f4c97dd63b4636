/- The program computes these functions. -/
import Derived.Test.YtdlhegdigcdffaaHP
import Derived.Test.YtdlhegdigcdffaaChecked
import Derived.KernelRfl
namespace Go.Proofs.Ytdlhegdigcdffaa.H
set_option linter.unusedVariables false
set_option linter.unusedSimpArgs false
open Go Go.RowKit Go.Proofs.Ytdlhegdigcdffaa.Hx
set_option linter.unusedVariables false
set_option maxRecDepth 100000
noncomputable def lays : List Lay := [.other, .func, .int .i64, .int .i64, .bool, .int .u8, .int .u8, .other, .other, .str, .str, .str, .int .u64, .other, .other, .ptr, .ptr, .ptr, .other, .other, .other, .int .i32, .func, .func, .arr 8 5 1 .u8, .func, .arr 8 5 1 .u8, .func, .func, .slice 40 1 24, .other, .func, .func, .func, .func, .func, .func, .func, .func, .func, .slice 2 1 8, .func, .func, .func, .func, .other, .other, .other, .other, .other, .func, .int .u32, .int .u8, .int .u8, .func, .ptr, .int .i32, .int .i32, .other, .other, .other]

noncomputable def wrs : List (FuncId × List Bool) := []

noncomputable def ents : List FuncId := [12, 27, 23, 24, 25, 11, 10, 26, 13, 5]

noncomputable def E0 (N : Nat) : Env := env0 Go.Proofs.Try.prog lays wrs

theorem E0_ok (N : Nat) : EnvOk (E0 N) ents := env0_ok (by kernel_rfl) (by kernel_rfl) (by kernel_rfl)

noncomputable def laws_toVector.kp : Keeps := ⟨[(0, [1, 2, 3, 4], 3)], [(0, [2, 3], 3)]⟩

noncomputable def laws_toVector.bd : Code := bodyOf Go.Proofs.Try.f12

noncomputable def laws_toVector.fin {ρ : Type} (N : Nat) (K : AV → Heap → Option ρ) : XE → St → Option ρ := finK (E0 N) Go.Proofs.Try.f12 [] K

noncomputable def laws_toVector.k0 {ρ : Type} (N : Nat) (K : AV → Heap → Option ρ) : XE → St → Option ρ := (blockK laws_toVector.kp 0 0 (seqK (xcode (E0 N) ents laws_toVector.kp 0 N (cB (cB (cB laws_toVector.bd))) 0) (laws_toVector.fin N K)))

noncomputable def laws_toVector.st0 (a0 : Nat → Int) (i1 : Int) (g2 : Nat → Int) : St := ⟨sl 15 [(1, .sptr [(0, 8)]), (2, .sptr [(1, 8)]), (3, .sptr [(2, 8)]), (4, .int .i64 (i1))], [⟨true, .ints .u8 8 a0⟩, ⟨true, .ints .u8 8 (fun _ => 0)⟩, ⟨true, .ints .u8 8 g2⟩]⟩

noncomputable def laws_toVector.sx0_0 (a0 : Nat → Int) (o3 : Nat → Int) : St := ⟨sl 15 [(2, .sptr [(1, 8)]), (3, .sptr [(2, 8)])], [⟨true, .ints .u8 8 a0⟩, ⟨true, .ints .u8 8 (fun _ => 0)⟩, ⟨true, .ints .u8 8 o3⟩]⟩

theorem laws_toVector.b0_eq {ρ : Type} (N : Nat) (K : AV → Heap → Option ρ) (L0 : St → Option ρ) (a0 : Nat → Int) (i1 : Int) (g2 : Nat → Int) :
    xcode (E0 N) ents laws_toVector.kp 0 N (cL (cK (cB (cA (cB (cB laws_toVector.bd)))))) 0 (laws_toVector.st0 a0 i1 g2) (roundK laws_toVector.kp 0 0 L0 (laws_toVector.k0 N K)) = (laws_toVector.b0 N (fun d0 => K (.agg [⟨.u8, 8, d0⟩]) []) (fun i1 g2 => L0 (laws_toVector.st0 a0 i1 g2)) (fun o3 => (laws_toVector.k0 N K) (.exit 0) (laws_toVector.sx0_0 a0 o3)) a0 i1 g2) := by kernel_rfl

theorem laws_toVector.a0_0_eq {ρ : Type} (N : Nat) (K : AV → Heap → Option ρ) (a0 : Nat → Int) (o3 : Nat → Int) :
    (laws_toVector.k0 N K) (.exit 0) (laws_toVector.sx0_0 a0 o3) = (laws_toVector.a0_0 N (fun d0 => K (.agg [⟨.u8, 8, d0⟩]) []) o3) := by kernel_rfl

theorem laws_toVector.l0_eq {ρ : Type} (N : Nat) (K : AV → Heap → Option ρ) (a0 : Nat → Int) :
    ∀ (m : Nat) (i1 : Int) (g2 : Nat → Int), xloop (xcode (E0 N) ents laws_toVector.kp 0 N (cL (cK (cB (cA (cB (cB laws_toVector.bd)))))) 0) laws_toVector.kp 0 0 m (laws_toVector.st0 a0 i1 g2) (laws_toVector.k0 N K) = (laws_toVector.l0 N (fun d0 => K (.agg [⟨.u8, 8, d0⟩]) []) a0 (fun o3 => (laws_toVector.k0 N K) (.exit 0) (laws_toVector.sx0_0 a0 o3)) m i1 g2) := by
  intro m
  induction m with
  | zero => intros; rfl
  | succ m ih =>
    intro i1 g2
    refine (laws_toVector.b0_eq N K (fun s => xloop (xcode (E0 N) ents laws_toVector.kp 0 N (cL (cK (cB (cA (cB (cB laws_toVector.bd)))))) 0) laws_toVector.kp 0 0 m s (laws_toVector.k0 N K)) a0 i1 g2).trans ?_
    simp only [ih]
    kernel_rfl

theorem laws_toVector.s_eq {ρ : Type} (N : Nat) (K : AV → Heap → Option ρ) (a0 : Nat → Int) :
    xbody (E0 N) ents laws_toVector.kp N Go.Proofs.Try.f12 laws_toVector.bd [.agg [⟨.u8, 8, a0⟩]] [] K = (laws_toVector.s N (fun d0 => K (.agg [⟨.u8, 8, d0⟩]) []) (fun i1 g2 => xloop (xcode (E0 N) ents laws_toVector.kp 0 N (cL (cK (cB (cA (cB (cB laws_toVector.bd)))))) 0) laws_toVector.kp 0 0 N (laws_toVector.st0 a0 i1 g2) (laws_toVector.k0 N K))) := by kernel_rfl

theorem laws_toVector.eq {ρ : Type} (N : Nat) (K : AV → Heap → Option ρ) (a0 : Nat → Int) :
    xbody (E0 N) ents laws_toVector.kp N Go.Proofs.Try.f12 laws_toVector.bd [.agg [⟨.u8, 8, a0⟩]] [] K = (laws_toVector N (fun d0 => K (.agg [⟨.u8, 8, d0⟩]) []) a0) := by
  refine (laws_toVector.s_eq N K a0).trans ?_
  simp only [laws_toVector.l0_eq, laws_toVector.a0_0_eq]
  kernel_rfl

noncomputable def laws_toVector.en (N : Nat) (ρ : Type) : List AV → Heap → (AV → Heap → Option ρ) → Option ρ
  | [.agg [⟨.u8, 8, a0⟩]], [], K => (laws_toVector N (fun d0 => K (.agg [⟨.u8, 8, d0⟩]) []) a0)
  | _, _, _ => none

theorem laws_toVector.en_ok (N : Nat) (hE : EnvOk (E0 N) ents) (ρ : Type) (args : List AV) (sh : Heap) (K : AV → Heap → Option ρ) (r : ρ) (h : laws_toVector.en N ρ args sh K = some r) : ∃ v sh', K v sh' = some r ∧ FnOk (E0 N).P 12 args sh v sh' := by
  unfold laws_toVector.en at h
  split at h
  · exact fn_ok hE (kp := laws_toVector.kp) (N := N) Go.Proofs.Try.func12 (c := laws_toVector.bd) (by kernel_rfl) ((laws_toVector.eq N _ _).trans h)
  · cases h

noncomputable def E1 (N : Nat) : Env := (E0 N).add 12 (laws_toVector.en N)

theorem E1_ok (N : Nat) : EnvOk (E1 N) ents := Env.add_ok (E0_ok N) (laws_toVector.en_ok N (E0_ok N))

noncomputable def spec_l01In.kp : Keeps := ⟨[], []⟩

noncomputable def spec_l01In.bd : Code := bodyOf Go.Proofs.Try.f27

noncomputable def spec_l01In.fin {ρ : Type} (N : Nat) (K : AV → Heap → Option ρ) : XE → St → Option ρ := finK (E1 N) Go.Proofs.Try.f27 [] K

theorem spec_l01In.eq {ρ : Type} (N : Nat) (K : AV → Heap → Option ρ) (n0 : Int) (low1 : Int) (high2 : Int) :
    xbody (E1 N) ents spec_l01In.kp N Go.Proofs.Try.f27 spec_l01In.bd [.int .i64 (n0), .int .i64 (low1), .int .i64 (high2)] [] K = (spec_l01In N (fun d0 => K (.bool (d0)) []) n0 low1 high2) := by kernel_rfl

noncomputable def spec_l01In.en (N : Nat) (ρ : Type) : List AV → Heap → (AV → Heap → Option ρ) → Option ρ
  | [.int .i64 (n0), .int .i64 (low1), .int .i64 (high2)], [], K => (spec_l01In N (fun d0 => K (.bool (d0)) []) n0 low1 high2)
  | _, _, _ => none

theorem spec_l01In.en_ok (N : Nat) (hE : EnvOk (E1 N) ents) (ρ : Type) (args : List AV) (sh : Heap) (K : AV → Heap → Option ρ) (r : ρ) (h : spec_l01In.en N ρ args sh K = some r) : ∃ v sh', K v sh' = some r ∧ FnOk (E1 N).P 27 args sh v sh' := by
  unfold spec_l01In.en at h
  split at h
  · exact fn_ok hE (kp := spec_l01In.kp) (N := N) Go.Proofs.Try.func27 (c := spec_l01In.bd) (by kernel_rfl) ((spec_l01In.eq N _ _ _ _).trans h)
  · cases h

noncomputable def E2 (N : Nat) : Env := (E1 N).add 27 (spec_l01In.en N)

theorem E2_ok (N : Nat) : EnvOk (E2 N) ents := Env.add_ok (E1_ok N) (spec_l01In.en_ok N (E1_ok N))

noncomputable def spec_l01Prime.kp : Keeps := ⟨[(0, [0, 3], 0)], [(0, [0], 0)]⟩

noncomputable def spec_l01Prime.bd : Code := bodyOf Go.Proofs.Try.f23

noncomputable def spec_l01Prime.fin {ρ : Type} (N : Nat) (K : AV → Heap → Option ρ) : XE → St → Option ρ := finK (E2 N) Go.Proofs.Try.f23 [] K

noncomputable def spec_l01Prime.k0 {ρ : Type} (N : Nat) (K : AV → Heap → Option ρ) : XE → St → Option ρ := (blockK spec_l01Prime.kp 0 0 (seqK (xcode (E2 N) ents spec_l01Prime.kp 0 N (cB (cB spec_l01Prime.bd)) 0) (spec_l01Prime.fin N K)))

noncomputable def spec_l01Prime.st0 (p0 : Int) (k1 : Int) : St := ⟨sl 19 [(0, .int .i64 (p0)), (3, .int .i64 (k1))], []⟩

noncomputable def spec_l01Prime.sx0_0 (p0 : Int) : St := ⟨sl 19 [(0, .int .i64 (p0))], []⟩

theorem spec_l01Prime.b0_eq {ρ : Type} (N : Nat) (K : AV → Heap → Option ρ) (L0 : St → Option ρ) (p0 : Int) (k1 : Int) :
    xcode (E2 N) ents spec_l01Prime.kp 0 N (cL (cK (cB (cA (cB spec_l01Prime.bd))))) 0 (spec_l01Prime.st0 p0 k1) (roundK spec_l01Prime.kp 0 0 L0 (spec_l01Prime.k0 N K)) = (spec_l01Prime.b0 N (fun d0 => K (.bool (d0)) []) (fun k1 => L0 (spec_l01Prime.st0 p0 k1)) ((spec_l01Prime.k0 N K) (.exit 0) (spec_l01Prime.sx0_0 p0)) p0 k1) := by kernel_rfl

theorem spec_l01Prime.a0_0_eq {ρ : Type} (N : Nat) (K : AV → Heap → Option ρ) (p0 : Int) :
    (spec_l01Prime.k0 N K) (.exit 0) (spec_l01Prime.sx0_0 p0) = (spec_l01Prime.a0_0 N (fun d0 => K (.bool (d0)) []) p0) := by kernel_rfl

theorem spec_l01Prime.l0_eq {ρ : Type} (N : Nat) (K : AV → Heap → Option ρ) (p0 : Int) :
    ∀ (m : Nat) (k1 : Int), xloop (xcode (E2 N) ents spec_l01Prime.kp 0 N (cL (cK (cB (cA (cB spec_l01Prime.bd))))) 0) spec_l01Prime.kp 0 0 m (spec_l01Prime.st0 p0 k1) (spec_l01Prime.k0 N K) = (spec_l01Prime.l0 N (fun d0 => K (.bool (d0)) []) p0 ((spec_l01Prime.k0 N K) (.exit 0) (spec_l01Prime.sx0_0 p0)) m k1) := by
  intro m
  induction m with
  | zero => intros; rfl
  | succ m ih =>
    intro k1
    refine (spec_l01Prime.b0_eq N K (fun s => xloop (xcode (E2 N) ents spec_l01Prime.kp 0 N (cL (cK (cB (cA (cB spec_l01Prime.bd))))) 0) spec_l01Prime.kp 0 0 m s (spec_l01Prime.k0 N K)) p0 k1).trans ?_
    simp only [ih]
    kernel_rfl

theorem spec_l01Prime.s_eq {ρ : Type} (N : Nat) (K : AV → Heap → Option ρ) (p0 : Int) :
    xbody (E2 N) ents spec_l01Prime.kp N Go.Proofs.Try.f23 spec_l01Prime.bd [.int .i64 (p0)] [] K = (spec_l01Prime.s N (fun d0 => K (.bool (d0)) []) (fun k1 => xloop (xcode (E2 N) ents spec_l01Prime.kp 0 N (cL (cK (cB (cA (cB spec_l01Prime.bd))))) 0) spec_l01Prime.kp 0 0 N (spec_l01Prime.st0 p0 k1) (spec_l01Prime.k0 N K))) := by kernel_rfl

theorem spec_l01Prime.eq {ρ : Type} (N : Nat) (K : AV → Heap → Option ρ) (p0 : Int) :
    xbody (E2 N) ents spec_l01Prime.kp N Go.Proofs.Try.f23 spec_l01Prime.bd [.int .i64 (p0)] [] K = (spec_l01Prime N (fun d0 => K (.bool (d0)) []) p0) := by
  refine (spec_l01Prime.s_eq N K p0).trans ?_
  simp only [spec_l01Prime.l0_eq, spec_l01Prime.a0_0_eq]
  kernel_rfl

noncomputable def spec_l01Prime.en (N : Nat) (ρ : Type) : List AV → Heap → (AV → Heap → Option ρ) → Option ρ
  | [.int .i64 (p0)], [], K => (spec_l01Prime N (fun d0 => K (.bool (d0)) []) p0)
  | _, _, _ => none

theorem spec_l01Prime.en_ok (N : Nat) (hE : EnvOk (E2 N) ents) (ρ : Type) (args : List AV) (sh : Heap) (K : AV → Heap → Option ρ) (r : ρ) (h : spec_l01Prime.en N ρ args sh K = some r) : ∃ v sh', K v sh' = some r ∧ FnOk (E2 N).P 23 args sh v sh' := by
  unfold spec_l01Prime.en at h
  split at h
  · exact fn_ok hE (kp := spec_l01Prime.kp) (N := N) Go.Proofs.Try.func23 (c := spec_l01Prime.bd) (by kernel_rfl) ((spec_l01Prime.eq N _ _).trans h)
  · cases h

noncomputable def E3 (N : Nat) : Env := (E2 N).add 23 (spec_l01Prime.en N)

theorem E3_ok (N : Nat) : EnvOk (E3 N) ents := Env.add_ok (E2_ok N) (spec_l01Prime.en_ok N (E2_ok N))

noncomputable def spec_l01Sizes.kp : Keeps := ⟨[], []⟩

noncomputable def spec_l01Sizes.bd : Code := bodyOf Go.Proofs.Try.f24

noncomputable def spec_l01Sizes.fin {ρ : Type} (N : Nat) (K : AV → Heap → Option ρ) : XE → St → Option ρ := finK (E3 N) Go.Proofs.Try.f24 [] K

theorem spec_l01Sizes.eq {ρ : Type} (N : Nat) (K : AV → Heap → Option ρ) (p0 : Int) (n1 : Int) :
    xbody (E3 N) ents spec_l01Sizes.kp N Go.Proofs.Try.f24 spec_l01Sizes.bd [.int .i64 (p0), .int .i64 (n1)] [] K = (spec_l01Sizes N (fun d0 => K (.bool (d0)) []) p0 n1) := by kernel_rfl

noncomputable def spec_l01Sizes.en (N : Nat) (ρ : Type) : List AV → Heap → (AV → Heap → Option ρ) → Option ρ
  | [.int .i64 (p0), .int .i64 (n1)], [], K => (spec_l01Sizes N (fun d0 => K (.bool (d0)) []) p0 n1)
  | _, _, _ => none

theorem spec_l01Sizes.en_ok (N : Nat) (hE : EnvOk (E3 N) ents) (ρ : Type) (args : List AV) (sh : Heap) (K : AV → Heap → Option ρ) (r : ρ) (h : spec_l01Sizes.en N ρ args sh K = some r) : ∃ v sh', K v sh' = some r ∧ FnOk (E3 N).P 24 args sh v sh' := by
  unfold spec_l01Sizes.en at h
  split at h
  · exact fn_ok hE (kp := spec_l01Sizes.kp) (N := N) Go.Proofs.Try.func24 (c := spec_l01Sizes.bd) (by kernel_rfl) ((spec_l01Sizes.eq N _ _ _).trans h)
  · cases h

noncomputable def E4 (N : Nat) : Env := (E3 N).add 24 (spec_l01Sizes.en N)

theorem E4_ok (N : Nat) : EnvOk (E4 N) ents := Env.add_ok (E3_ok N) (spec_l01Sizes.en_ok N (E3_ok N))

noncomputable def spec_l01Vector.kp : Keeps := ⟨[(0, [0, 1, 5, 7], 1)], [(0, [], 1)]⟩

noncomputable def spec_l01Vector.bd : Code := bodyOf Go.Proofs.Try.f25

noncomputable def spec_l01Vector.fin {ρ : Type} (N : Nat) (K : AV → Heap → Option ρ) : XE → St → Option ρ := finK (E4 N) Go.Proofs.Try.f25 [] K

noncomputable def spec_l01Vector.k0 {ρ : Type} (N : Nat) (K : AV → Heap → Option ρ) : XE → St → Option ρ := (blockK spec_l01Vector.kp 0 0 (seqK (xcode (E4 N) ents spec_l01Vector.kp 0 N (cB (cB spec_l01Vector.bd)) 0) (spec_l01Vector.fin N K)))

noncomputable def spec_l01Vector.st0 (p0 : Int) (n1 : Int) (v2 : Nat → Int) (i3 : Int) : St := ⟨sl 29 [(0, .int .i64 (p0)), (1, .int .i64 (n1)), (5, .sptr [(0, 8)]), (7, .int .i64 (i3))], [⟨true, .ints .u8 8 v2⟩]⟩

noncomputable def spec_l01Vector.sx0_0 (v2 : Nat → Int) : St := ⟨sl 29 [], [⟨true, .ints .u8 8 v2⟩]⟩

theorem spec_l01Vector.b0_eq {ρ : Type} (N : Nat) (K : AV → Heap → Option ρ) (L0 : St → Option ρ) (p0 : Int) (n1 : Int) (v2 : Nat → Int) (i3 : Int) :
    xcode (E4 N) ents spec_l01Vector.kp 0 N (cL (cK (cB (cA (cB spec_l01Vector.bd))))) 0 (spec_l01Vector.st0 p0 n1 v2 i3) (roundK spec_l01Vector.kp 0 0 L0 (spec_l01Vector.k0 N K)) = (spec_l01Vector.b0 N (fun d0 => K (.bool (d0)) []) (fun i3 => L0 (spec_l01Vector.st0 p0 n1 v2 i3)) ((spec_l01Vector.k0 N K) (.exit 0) (spec_l01Vector.sx0_0 v2)) p0 n1 v2 i3) := by kernel_rfl

theorem spec_l01Vector.a0_0_eq {ρ : Type} (N : Nat) (K : AV → Heap → Option ρ) (v2 : Nat → Int) :
    (spec_l01Vector.k0 N K) (.exit 0) (spec_l01Vector.sx0_0 v2) = (spec_l01Vector.a0_0 N (fun d0 => K (.bool (d0)) [])) := by kernel_rfl

theorem spec_l01Vector.l0_eq {ρ : Type} (N : Nat) (K : AV → Heap → Option ρ) (p0 : Int) (n1 : Int) (v2 : Nat → Int) :
    ∀ (m : Nat) (i3 : Int), xloop (xcode (E4 N) ents spec_l01Vector.kp 0 N (cL (cK (cB (cA (cB spec_l01Vector.bd))))) 0) spec_l01Vector.kp 0 0 m (spec_l01Vector.st0 p0 n1 v2 i3) (spec_l01Vector.k0 N K) = (spec_l01Vector.l0 N (fun d0 => K (.bool (d0)) []) p0 n1 v2 ((spec_l01Vector.k0 N K) (.exit 0) (spec_l01Vector.sx0_0 v2)) m i3) := by
  intro m
  induction m with
  | zero => intros; rfl
  | succ m ih =>
    intro i3
    refine (spec_l01Vector.b0_eq N K (fun s => xloop (xcode (E4 N) ents spec_l01Vector.kp 0 N (cL (cK (cB (cA (cB spec_l01Vector.bd))))) 0) spec_l01Vector.kp 0 0 m s (spec_l01Vector.k0 N K)) p0 n1 v2 i3).trans ?_
    simp only [ih]
    kernel_rfl

theorem spec_l01Vector.s_eq {ρ : Type} (N : Nat) (K : AV → Heap → Option ρ) (p0 : Int) (n1 : Int) (v2 : Nat → Int) :
    xbody (E4 N) ents spec_l01Vector.kp N Go.Proofs.Try.f25 spec_l01Vector.bd [.int .i64 (p0), .int .i64 (n1), .agg [⟨.u8, 8, v2⟩]] [] K = (spec_l01Vector.s N (fun d0 => K (.bool (d0)) []) (fun i3 => xloop (xcode (E4 N) ents spec_l01Vector.kp 0 N (cL (cK (cB (cA (cB spec_l01Vector.bd))))) 0) spec_l01Vector.kp 0 0 N (spec_l01Vector.st0 p0 n1 v2 i3) (spec_l01Vector.k0 N K))) := by kernel_rfl

theorem spec_l01Vector.eq {ρ : Type} (N : Nat) (K : AV → Heap → Option ρ) (p0 : Int) (n1 : Int) (v2 : Nat → Int) :
    xbody (E4 N) ents spec_l01Vector.kp N Go.Proofs.Try.f25 spec_l01Vector.bd [.int .i64 (p0), .int .i64 (n1), .agg [⟨.u8, 8, v2⟩]] [] K = (spec_l01Vector N (fun d0 => K (.bool (d0)) []) p0 n1 v2) := by
  refine (spec_l01Vector.s_eq N K p0 n1 v2).trans ?_
  simp only [spec_l01Vector.l0_eq, spec_l01Vector.a0_0_eq]
  kernel_rfl

noncomputable def spec_l01Vector.en (N : Nat) (ρ : Type) : List AV → Heap → (AV → Heap → Option ρ) → Option ρ
  | [.int .i64 (p0), .int .i64 (n1), .agg [⟨.u8, 8, v2⟩]], [], K => (spec_l01Vector N (fun d0 => K (.bool (d0)) []) p0 n1 v2)
  | _, _, _ => none

theorem spec_l01Vector.en_ok (N : Nat) (hE : EnvOk (E4 N) ents) (ρ : Type) (args : List AV) (sh : Heap) (K : AV → Heap → Option ρ) (r : ρ) (h : spec_l01Vector.en N ρ args sh K = some r) : ∃ v sh', K v sh' = some r ∧ FnOk (E4 N).P 25 args sh v sh' := by
  unfold spec_l01Vector.en at h
  split at h
  · exact fn_ok hE (kp := spec_l01Vector.kp) (N := N) Go.Proofs.Try.func25 (c := spec_l01Vector.bd) (by kernel_rfl) ((spec_l01Vector.eq N _ _ _ _).trans h)
  · cases h

noncomputable def E5 (N : Nat) : Env := (E4 N).add 25 (spec_l01Vector.en N)

theorem E5_ok (N : Nat) : EnvOk (E5 N) ents := Env.add_ok (E4_ok N) (spec_l01Vector.en_ok N (E4_ok N))

noncomputable def spec_IsVector.kp : Keeps := ⟨[], []⟩

noncomputable def spec_IsVector.bd : Code := bodyOf Go.Proofs.Try.f11

noncomputable def spec_IsVector.fin {ρ : Type} (N : Nat) (K : AV → Heap → Option ρ) : XE → St → Option ρ := finK (E5 N) Go.Proofs.Try.f11 [] K

theorem spec_IsVector.eq {ρ : Type} (N : Nat) (K : AV → Heap → Option ρ) (p0 : Int) (n1 : Int) (v2 : Nat → Int) :
    xbody (E5 N) ents spec_IsVector.kp N Go.Proofs.Try.f11 spec_IsVector.bd [.int .i64 (p0), .int .i64 (n1), .agg [⟨.u8, 8, v2⟩]] [] K = (spec_IsVector N (fun d0 => K (.bool (d0)) []) p0 n1 v2) := by kernel_rfl

noncomputable def spec_IsVector.en (N : Nat) (ρ : Type) : List AV → Heap → (AV → Heap → Option ρ) → Option ρ
  | [.int .i64 (p0), .int .i64 (n1), .agg [⟨.u8, 8, v2⟩]], [], K => (spec_IsVector N (fun d0 => K (.bool (d0)) []) p0 n1 v2)
  | _, _, _ => none

theorem spec_IsVector.en_ok (N : Nat) (hE : EnvOk (E5 N) ents) (ρ : Type) (args : List AV) (sh : Heap) (K : AV → Heap → Option ρ) (r : ρ) (h : spec_IsVector.en N ρ args sh K = some r) : ∃ v sh', K v sh' = some r ∧ FnOk (E5 N).P 11 args sh v sh' := by
  unfold spec_IsVector.en at h
  split at h
  · exact fn_ok hE (kp := spec_IsVector.kp) (N := N) Go.Proofs.Try.func11 (c := spec_IsVector.bd) (by kernel_rfl) ((spec_IsVector.eq N _ _ _ _).trans h)
  · cases h

noncomputable def E6 (N : Nat) : Env := (E5 N).add 11 (spec_IsVector.en N)

theorem E6_ok (N : Nat) : EnvOk (E6 N) ents := Env.add_ok (E5_ok N) (spec_IsVector.en_ok N (E5_ok N))

noncomputable def impl_IsPrime.kp : Keeps := ⟨[(0, [0, 3], 0)], [(0, [], 0)]⟩

noncomputable def impl_IsPrime.bd : Code := bodyOf Go.Proofs.Try.f10

noncomputable def impl_IsPrime.fin {ρ : Type} (N : Nat) (K : AV → Heap → Option ρ) : XE → St → Option ρ := finK (E6 N) Go.Proofs.Try.f10 [] K

noncomputable def impl_IsPrime.k0 {ρ : Type} (N : Nat) (K : AV → Heap → Option ρ) : XE → St → Option ρ := (blockK impl_IsPrime.kp 0 0 (seqK (xcode (E6 N) ents impl_IsPrime.kp 0 N (cB (cB (cB impl_IsPrime.bd))) 0) (impl_IsPrime.fin N K)))

noncomputable def impl_IsPrime.st0 (p0 : Int) (k1 : Int) : St := ⟨sl 21 [(0, .int .i64 (p0)), (3, .int .i64 (k1))], []⟩

noncomputable def impl_IsPrime.sx0_0 : St := ⟨sl 21 [], []⟩

theorem impl_IsPrime.b0_eq {ρ : Type} (N : Nat) (K : AV → Heap → Option ρ) (L0 : St → Option ρ) (p0 : Int) (k1 : Int) :
    xcode (E6 N) ents impl_IsPrime.kp 0 N (cL (cK (cB (cA (cB (cB impl_IsPrime.bd)))))) 0 (impl_IsPrime.st0 p0 k1) (roundK impl_IsPrime.kp 0 0 L0 (impl_IsPrime.k0 N K)) = (impl_IsPrime.b0 N (fun d0 => K (.bool (d0)) []) (fun k1 => L0 (impl_IsPrime.st0 p0 k1)) ((impl_IsPrime.k0 N K) (.exit 0) (impl_IsPrime.sx0_0)) p0 k1) := by kernel_rfl

theorem impl_IsPrime.a0_0_eq {ρ : Type} (N : Nat) (K : AV → Heap → Option ρ) :
    (impl_IsPrime.k0 N K) (.exit 0) (impl_IsPrime.sx0_0) = (impl_IsPrime.a0_0 N (fun d0 => K (.bool (d0)) [])) := by kernel_rfl

theorem impl_IsPrime.l0_eq {ρ : Type} (N : Nat) (K : AV → Heap → Option ρ) (p0 : Int) :
    ∀ (m : Nat) (k1 : Int), xloop (xcode (E6 N) ents impl_IsPrime.kp 0 N (cL (cK (cB (cA (cB (cB impl_IsPrime.bd)))))) 0) impl_IsPrime.kp 0 0 m (impl_IsPrime.st0 p0 k1) (impl_IsPrime.k0 N K) = (impl_IsPrime.l0 N (fun d0 => K (.bool (d0)) []) p0 ((impl_IsPrime.k0 N K) (.exit 0) (impl_IsPrime.sx0_0)) m k1) := by
  intro m
  induction m with
  | zero => intros; rfl
  | succ m ih =>
    intro k1
    refine (impl_IsPrime.b0_eq N K (fun s => xloop (xcode (E6 N) ents impl_IsPrime.kp 0 N (cL (cK (cB (cA (cB (cB impl_IsPrime.bd)))))) 0) impl_IsPrime.kp 0 0 m s (impl_IsPrime.k0 N K)) p0 k1).trans ?_
    simp only [ih]
    kernel_rfl

theorem impl_IsPrime.s_eq {ρ : Type} (N : Nat) (K : AV → Heap → Option ρ) (p0 : Int) :
    xbody (E6 N) ents impl_IsPrime.kp N Go.Proofs.Try.f10 impl_IsPrime.bd [.int .i64 (p0)] [] K = (impl_IsPrime.s N (fun d0 => K (.bool (d0)) []) (fun k1 => xloop (xcode (E6 N) ents impl_IsPrime.kp 0 N (cL (cK (cB (cA (cB (cB impl_IsPrime.bd)))))) 0) impl_IsPrime.kp 0 0 N (impl_IsPrime.st0 p0 k1) (impl_IsPrime.k0 N K)) p0) := by kernel_rfl

theorem impl_IsPrime.eq {ρ : Type} (N : Nat) (K : AV → Heap → Option ρ) (p0 : Int) :
    xbody (E6 N) ents impl_IsPrime.kp N Go.Proofs.Try.f10 impl_IsPrime.bd [.int .i64 (p0)] [] K = (impl_IsPrime N (fun d0 => K (.bool (d0)) []) p0) := by
  refine (impl_IsPrime.s_eq N K p0).trans ?_
  simp only [impl_IsPrime.l0_eq, impl_IsPrime.a0_0_eq]
  kernel_rfl

noncomputable def impl_IsPrime.en (N : Nat) (ρ : Type) : List AV → Heap → (AV → Heap → Option ρ) → Option ρ
  | [.int .i64 (p0)], [], K => (impl_IsPrime N (fun d0 => K (.bool (d0)) []) p0)
  | _, _, _ => none

theorem impl_IsPrime.en_ok (N : Nat) (hE : EnvOk (E6 N) ents) (ρ : Type) (args : List AV) (sh : Heap) (K : AV → Heap → Option ρ) (r : ρ) (h : impl_IsPrime.en N ρ args sh K = some r) : ∃ v sh', K v sh' = some r ∧ FnOk (E6 N).P 10 args sh v sh' := by
  unfold impl_IsPrime.en at h
  split at h
  · exact fn_ok hE (kp := impl_IsPrime.kp) (N := N) Go.Proofs.Try.func10 (c := impl_IsPrime.bd) (by kernel_rfl) ((impl_IsPrime.eq N _ _).trans h)
  · cases h

noncomputable def E7 (N : Nat) : Env := (E6 N).add 10 (impl_IsPrime.en N)

theorem E7_ok (N : Nat) : EnvOk (E7 N) ents := Env.add_ok (E6_ok N) (impl_IsPrime.en_ok N (E6_ok N))

noncomputable def impl_in.kp : Keeps := ⟨[], []⟩

noncomputable def impl_in.bd : Code := bodyOf Go.Proofs.Try.f26

noncomputable def impl_in.fin {ρ : Type} (N : Nat) (K : AV → Heap → Option ρ) : XE → St → Option ρ := finK (E7 N) Go.Proofs.Try.f26 [] K

theorem impl_in.eq {ρ : Type} (N : Nat) (K : AV → Heap → Option ρ) (x0 : Int) (least1 : Int) (most2 : Int) :
    xbody (E7 N) ents impl_in.kp N Go.Proofs.Try.f26 impl_in.bd [.int .i64 (x0), .int .i64 (least1), .int .i64 (most2)] [] K = (impl_in N (fun d0 => K (.bool (d0)) []) x0 least1 most2) := by kernel_rfl

noncomputable def impl_in.en (N : Nat) (ρ : Type) : List AV → Heap → (AV → Heap → Option ρ) → Option ρ
  | [.int .i64 (x0), .int .i64 (least1), .int .i64 (most2)], [], K => (impl_in N (fun d0 => K (.bool (d0)) []) x0 least1 most2)
  | _, _, _ => none

theorem impl_in.en_ok (N : Nat) (hE : EnvOk (E7 N) ents) (ρ : Type) (args : List AV) (sh : Heap) (K : AV → Heap → Option ρ) (r : ρ) (h : impl_in.en N ρ args sh K = some r) : ∃ v sh', K v sh' = some r ∧ FnOk (E7 N).P 26 args sh v sh' := by
  unfold impl_in.en at h
  split at h
  · exact fn_ok hE (kp := impl_in.kp) (N := N) Go.Proofs.Try.func26 (c := impl_in.bd) (by kernel_rfl) ((impl_in.eq N _ _ _ _).trans h)
  · cases h

noncomputable def E8 (N : Nat) : Env := (E7 N).add 26 (impl_in.en N)

theorem E8_ok (N : Nat) : EnvOk (E8 N) ents := Env.add_ok (E7_ok N) (impl_in.en_ok N (E7_ok N))

noncomputable def impl_IsVector.kp : Keeps := ⟨[(0, [0, 1, 17, 18], 1)], [(0, [], 1)]⟩

noncomputable def impl_IsVector.bd : Code := bodyOf Go.Proofs.Try.f13

noncomputable def impl_IsVector.fin {ρ : Type} (N : Nat) (K : AV → Heap → Option ρ) : XE → St → Option ρ := finK (E8 N) Go.Proofs.Try.f13 [] K

noncomputable def impl_IsVector.k0 {ρ : Type} (N : Nat) (K : AV → Heap → Option ρ) : XE → St → Option ρ := (blockK impl_IsVector.kp 0 0 (seqK (xcode (E8 N) ents impl_IsVector.kp 0 N (cB (cB (cB impl_IsVector.bd))) 0) (impl_IsVector.fin N K)))

noncomputable def impl_IsVector.st0 (p0 : Int) (n1 : Int) (v2 : Nat → Int) (x5 : Int) : St := ⟨sl 36 [(0, .int .i64 (p0)), (1, .int .i64 (n1)), (17, .agg [⟨.u8, 8, v2⟩]), (18, .int .i64 (x5))], [⟨true, .ints .u8 8 v2⟩]⟩

noncomputable def impl_IsVector.sx0_0 (v2 : Nat → Int) : St := ⟨sl 36 [], [⟨true, .ints .u8 8 v2⟩]⟩

theorem impl_IsVector.b0_eq {ρ : Type} (N : Nat) (K : AV → Heap → Option ρ) (L0 : St → Option ρ) (p0 : Int) (n1 : Int) (v2 : Nat → Int) (x5 : Int) :
    xcode (E8 N) ents impl_IsVector.kp 0 N (cL (cK (cB (cA (cB (cB impl_IsVector.bd)))))) 0 (impl_IsVector.st0 p0 n1 v2 x5) (roundK impl_IsVector.kp 0 0 L0 (impl_IsVector.k0 N K)) = (impl_IsVector.b0 N (fun d0 => K (.bool (d0)) []) (fun x5 => L0 (impl_IsVector.st0 p0 n1 v2 x5)) ((impl_IsVector.k0 N K) (.exit 0) (impl_IsVector.sx0_0 v2)) p0 n1 v2 x5) := by kernel_rfl

theorem impl_IsVector.a0_0_eq {ρ : Type} (N : Nat) (K : AV → Heap → Option ρ) (v2 : Nat → Int) :
    (impl_IsVector.k0 N K) (.exit 0) (impl_IsVector.sx0_0 v2) = (impl_IsVector.a0_0 N (fun d0 => K (.bool (d0)) [])) := by kernel_rfl

theorem impl_IsVector.l0_eq {ρ : Type} (N : Nat) (K : AV → Heap → Option ρ) (p0 : Int) (n1 : Int) (v2 : Nat → Int) :
    ∀ (m : Nat) (x5 : Int), xloop (xcode (E8 N) ents impl_IsVector.kp 0 N (cL (cK (cB (cA (cB (cB impl_IsVector.bd)))))) 0) impl_IsVector.kp 0 0 m (impl_IsVector.st0 p0 n1 v2 x5) (impl_IsVector.k0 N K) = (impl_IsVector.l0 N (fun d0 => K (.bool (d0)) []) p0 n1 v2 ((impl_IsVector.k0 N K) (.exit 0) (impl_IsVector.sx0_0 v2)) m x5) := by
  intro m
  induction m with
  | zero => intros; rfl
  | succ m ih =>
    intro x5
    refine (impl_IsVector.b0_eq N K (fun s => xloop (xcode (E8 N) ents impl_IsVector.kp 0 N (cL (cK (cB (cA (cB (cB impl_IsVector.bd)))))) 0) impl_IsVector.kp 0 0 m s (impl_IsVector.k0 N K)) p0 n1 v2 x5).trans ?_
    simp only [ih]
    kernel_rfl

theorem impl_IsVector.s_eq {ρ : Type} (N : Nat) (K : AV → Heap → Option ρ) (p0 : Int) (n1 : Int) (v2 : Nat → Int) :
    xbody (E8 N) ents impl_IsVector.kp N Go.Proofs.Try.f13 impl_IsVector.bd [.int .i64 (p0), .int .i64 (n1), .agg [⟨.u8, 8, v2⟩]] [] K = (impl_IsVector.s N (fun d0 => K (.bool (d0)) []) (fun x5 => xloop (xcode (E8 N) ents impl_IsVector.kp 0 N (cL (cK (cB (cA (cB (cB impl_IsVector.bd)))))) 0) impl_IsVector.kp 0 0 N (impl_IsVector.st0 p0 n1 v2 x5) (impl_IsVector.k0 N K)) p0 n1) := by kernel_rfl

theorem impl_IsVector.eq {ρ : Type} (N : Nat) (K : AV → Heap → Option ρ) (p0 : Int) (n1 : Int) (v2 : Nat → Int) :
    xbody (E8 N) ents impl_IsVector.kp N Go.Proofs.Try.f13 impl_IsVector.bd [.int .i64 (p0), .int .i64 (n1), .agg [⟨.u8, 8, v2⟩]] [] K = (impl_IsVector N (fun d0 => K (.bool (d0)) []) p0 n1 v2) := by
  refine (impl_IsVector.s_eq N K p0 n1 v2).trans ?_
  simp only [impl_IsVector.l0_eq, impl_IsVector.a0_0_eq]
  kernel_rfl

noncomputable def impl_IsVector.en (N : Nat) (ρ : Type) : List AV → Heap → (AV → Heap → Option ρ) → Option ρ
  | [.int .i64 (p0), .int .i64 (n1), .agg [⟨.u8, 8, v2⟩]], [], K => (impl_IsVector N (fun d0 => K (.bool (d0)) []) p0 n1 v2)
  | _, _, _ => none

theorem impl_IsVector.en_ok (N : Nat) (hE : EnvOk (E8 N) ents) (ρ : Type) (args : List AV) (sh : Heap) (K : AV → Heap → Option ρ) (r : ρ) (h : impl_IsVector.en N ρ args sh K = some r) : ∃ v sh', K v sh' = some r ∧ FnOk (E8 N).P 13 args sh v sh' := by
  unfold impl_IsVector.en at h
  split at h
  · exact fn_ok hE (kp := impl_IsVector.kp) (N := N) Go.Proofs.Try.func13 (c := impl_IsVector.bd) (by kernel_rfl) ((impl_IsVector.eq N _ _ _ _).trans h)
  · cases h

noncomputable def E9 (N : Nat) : Env := (E8 N).add 13 (impl_IsVector.en N)

theorem E9_ok (N : Nat) : EnvOk (E9 N) ents := Env.add_ok (E8_ok N) (impl_IsVector.en_ok N (E8_ok N))

noncomputable def laws_FnExactIsVector.kp : Keeps := ⟨[], []⟩

noncomputable def laws_FnExactIsVector.bd : Code := bodyOf Go.Proofs.Try.f5

noncomputable def laws_FnExactIsVector.fin {ρ : Type} (N : Nat) (K : AV → Heap → Option ρ) : XE → St → Option ρ := finK (E9 N) Go.Proofs.Try.f5 [] K

theorem laws_FnExactIsVector.eq {ρ : Type} (N : Nat) (K : AV → Heap → Option ρ) (aP0 : Int) (aN1 : Int) (aV2 : Nat → Int) :
    xbody (E9 N) ents laws_FnExactIsVector.kp N Go.Proofs.Try.f5 laws_FnExactIsVector.bd [.int .i64 (aP0), .int .i64 (aN1), .agg [⟨.u8, 8, aV2⟩]] [] K = (laws_FnExactIsVector N (fun d0 => K (.bool (d0)) []) aP0 aN1 aV2) := by kernel_rfl

noncomputable def laws_FnExactIsVector.en (N : Nat) (ρ : Type) : List AV → Heap → (AV → Heap → Option ρ) → Option ρ
  | [.int .i64 (aP0), .int .i64 (aN1), .agg [⟨.u8, 8, aV2⟩]], [], K => (laws_FnExactIsVector N (fun d0 => K (.bool (d0)) []) aP0 aN1 aV2)
  | _, _, _ => none

theorem laws_FnExactIsVector.en_ok (N : Nat) (hE : EnvOk (E9 N) ents) (ρ : Type) (args : List AV) (sh : Heap) (K : AV → Heap → Option ρ) (r : ρ) (h : laws_FnExactIsVector.en N ρ args sh K = some r) : ∃ v sh', K v sh' = some r ∧ FnOk (E9 N).P 5 args sh v sh' := by
  unfold laws_FnExactIsVector.en at h
  split at h
  · exact fn_ok hE (kp := laws_FnExactIsVector.kp) (N := N) Go.Proofs.Try.func5 (c := laws_FnExactIsVector.bd) (by kernel_rfl) ((laws_FnExactIsVector.eq N _ _ _ _).trans h)
  · cases h

noncomputable def E10 (N : Nat) : Env := (E9 N).add 5 (laws_FnExactIsVector.en N)

theorem E10_ok (N : Nat) : EnvOk (E10 N) ents := Env.add_ok (E9_ok N) (laws_FnExactIsVector.en_ok N (E9_ok N))
end Go.Proofs.Ytdlhegdigcdffaa.H
