/- The program computes these functions. -/
import Derived.Test.YtjnfeffflkgddaaHP0
import Derived.Test.YtjnfeffflkgddaaChecked
import Derived.KernelRfl
namespace Go.Proofs.Ytjnfeffflkgddaa.H
set_option linter.unusedVariables false
set_option linter.unusedSimpArgs false
open Go Go.RowKit Go.Proofs.Ytjnfeffflkgddaa.Hx
set_option linter.unusedVariables false
set_option maxRecDepth 100000
noncomputable def lays : List Lay := [.other, .func, .int .i64, .int .i64, .bool, .int .u8, .int .u8, .other, .other, .str, .str, .str, .int .u64, .other, .other, .ptr, .ptr, .ptr, .other, .other, .other, .int .i32, .arr 8 5 1 .u8, .arr 8 5 1 .u8, .arr 8 23 8 .u8, .arr 8 23 8 .u8, .arr 8 25 64 .u8, .arr 8 25 64 .u8, .struct [(0, 1, false), (1, 1, false), (2, 8, true), (10, 512, true), (522, 8, true), (530, 512, true), (1042, 64, true)] [(.i64, 2), (.u8, 1104)], .struct [(0, 1, false), (1, 1, false), (2, 8, true), (10, 512, true), (522, 8, true), (530, 512, true), (1042, 64, true)] [(.i64, 2), (.u8, 1104)], .other, .func, .func, .func, .func, .func, .func, .func, .func, .func, .struct [(0, 1, false), (1, 1, false), (2, 8, true), (10, 512, true)] [(.i64, 2), (.u8, 520)], .struct [(0, 1, false), (1, 1, false), (2, 8, true), (10, 512, true)] [(.i64, 2), (.u8, 520)], .slice 23 8 8, .func, .func, .func, .func, .struct [(0, 1, false), (1, 1, false)] [(.i64, 2)], .struct [(0, 1, false), (1, 1, false)] [(.i64, 2)], .func, .other, .func, .func, .func, .func, .ptr, .slice 3 1 8, .func, .func, .func, .func, .ptr, .func, .ptr, .func, .func, .func, .func, .func, .other, .other, .other, .other, .other, .func, .int .u32, .int .u8, .int .u8, .func, .ptr, .int .i32, .int .i32, .other, .other, .func, .func, .func, .other]

noncomputable def wrs : List (FuncId × List Bool) := [(29, [false, true]), (30, [false, true]), (31, [false, false, false, false, true, true, true]), (32, [false, false, false, false, false, false, true])]

noncomputable def ents : List FuncId := [3, 4, 5, 6, 7, 8, 9, 10, 11, 12, 13, 14, 15, 16, 17, 18, 19, 20, 21, 22, 23, 24, 25, 26, 27, 28, 29, 30, 31, 32, 33, 34]

noncomputable def E0 (N : Nat) : Env := env0 Go.Proofs.Try.prog lays wrs

theorem E0_ok (N : Nat) : EnvOk (E0 N) ents := env0_ok (by kernel_rfl) (by kernel_rfl) (by kernel_rfl)

noncomputable def spec_l01In.kp : Keeps := ⟨[], []⟩

noncomputable def spec_l01In.bd : Code := bodyOf Go.Proofs.Try.f14

noncomputable def spec_l01In.fin {ρ : Type} (N : Nat) (K : AV → Heap → Option ρ) : XE → St → Option ρ := finK (E0 N) Go.Proofs.Try.f14 [] K

theorem spec_l01In.eq {ρ : Type} (N : Nat) (K : AV → Heap → Option ρ) (n0 : Int) (low1 : Int) (high2 : Int) :
    xbody (E0 N) ents spec_l01In.kp N Go.Proofs.Try.f14 spec_l01In.bd [.int .i64 (n0), .int .i64 (low1), .int .i64 (high2)] [] K = (spec_l01In N (fun d0 => K (.bool (d0)) []) n0 low1 high2) := by kernel_rfl

noncomputable def spec_l01In.en (N : Nat) (ρ : Type) : List AV → Heap → (AV → Heap → Option ρ) → Option ρ
  | [.int .i64 (n0), .int .i64 (low1), .int .i64 (high2)], [], K => (spec_l01In N (fun d0 => K (.bool (d0)) []) n0 low1 high2)
  | _, _, _ => none

theorem spec_l01In.en_ok (N : Nat) (hE : EnvOk (E0 N) ents) (ρ : Type) (args : List AV) (sh : Heap) (K : AV → Heap → Option ρ) (r : ρ) (h : spec_l01In.en N ρ args sh K = some r) : ∃ v sh', K v sh' = some r ∧ FnOk (E0 N).P 14 args sh v sh' := by
  unfold spec_l01In.en at h
  split at h
  · exact fn_ok hE (kp := spec_l01In.kp) (N := N) Go.Proofs.Try.func14 (c := spec_l01In.bd) (by kernel_rfl) ((spec_l01In.eq N _ _ _ _).trans h)
  · cases h

noncomputable def E1 (N : Nat) : Env := (E0 N).add 14 (spec_l01In.en N)

theorem E1_ok (N : Nat) : EnvOk (E1 N) ents := Env.add_ok (E0_ok N) (spec_l01In.en_ok N (E0_ok N))

noncomputable def spec_l01Prime.kp : Keeps := ⟨[(0, [0, 3], 0)], [(0, [0], 0)]⟩

noncomputable def spec_l01Prime.bd : Code := bodyOf Go.Proofs.Try.f7

noncomputable def spec_l01Prime.fin {ρ : Type} (N : Nat) (K : AV → Heap → Option ρ) : XE → St → Option ρ := finK (E1 N) Go.Proofs.Try.f7 [] K

noncomputable def spec_l01Prime.k0 {ρ : Type} (N : Nat) (K : AV → Heap → Option ρ) : XE → St → Option ρ := (blockK spec_l01Prime.kp 0 0 (seqK (xcode (E1 N) ents spec_l01Prime.kp 0 N (cB (cB spec_l01Prime.bd)) 0) (spec_l01Prime.fin N K)))

theorem spec_l01Prime.k0_mix {ρ : Type} (N : Nat) (K : AV → Heap → Option ρ) : mixK (spec_l01Prime.fin N K .ret) (spec_l01Prime.k0 N K) = (spec_l01Prime.k0 N K) := by
  funext e s; cases e <;> rfl

noncomputable def spec_l01Prime.st0 (p0 : Int) (k1 : Int) : St := ⟨sl 19 [(0, .int .i64 (p0)), (3, .int .i64 (k1))], []⟩

noncomputable def spec_l01Prime.sx0_0 (p0 : Int) : St := ⟨sl 19 [(0, .int .i64 (p0))], []⟩

theorem spec_l01Prime.b0_gen {ρ : Type} (N : Nat) (K : AV → Heap → Option ρ) (L0 : St → Option ρ) (kv : XE → St → Option ρ) (p0 : Int) (k1 : Int) :
    xcode (E1 N) ents spec_l01Prime.kp 0 N (cL (cK (cB (cA (cB spec_l01Prime.bd))))) 0 (spec_l01Prime.st0 p0 k1) (roundK spec_l01Prime.kp 0 0 L0 (mixK (spec_l01Prime.fin N K .ret) kv)) = (spec_l01Prime.b0 N (fun d0 => K (.bool (d0)) []) (fun k1 => L0 (spec_l01Prime.st0 p0 k1)) (kv (.exit 0) (spec_l01Prime.sx0_0 p0)) p0 k1) := by kernel_rfl

theorem spec_l01Prime.b0_eq {ρ : Type} (N : Nat) (K : AV → Heap → Option ρ) (L0 : St → Option ρ) (p0 : Int) (k1 : Int) :
    xcode (E1 N) ents spec_l01Prime.kp 0 N (cL (cK (cB (cA (cB spec_l01Prime.bd))))) 0 (spec_l01Prime.st0 p0 k1) (roundK spec_l01Prime.kp 0 0 L0 (spec_l01Prime.k0 N K)) = (spec_l01Prime.b0 N (fun d0 => K (.bool (d0)) []) (fun k1 => L0 (spec_l01Prime.st0 p0 k1)) ((spec_l01Prime.k0 N K) (.exit 0) (spec_l01Prime.sx0_0 p0)) p0 k1) := by
  have h := spec_l01Prime.b0_gen N K L0 (spec_l01Prime.k0 N K) p0 k1
  rw [spec_l01Prime.k0_mix] at h
  exact h

theorem spec_l01Prime.a0_0_eq {ρ : Type} (N : Nat) (K : AV → Heap → Option ρ) (p0 : Int) :
    (spec_l01Prime.k0 N K) (.exit 0) (spec_l01Prime.sx0_0 p0) = (spec_l01Prime.a0_0 N (fun d0 => K (.bool (d0)) []) p0) := by kernel_rfl

theorem spec_l01Prime.l0_eq {ρ : Type} (N : Nat) (K : AV → Heap → Option ρ) (p0 : Int) :
    ∀ (m : Nat) (k1 : Int), xloop (xcode (E1 N) ents spec_l01Prime.kp 0 N (cL (cK (cB (cA (cB spec_l01Prime.bd))))) 0) spec_l01Prime.kp 0 0 m (spec_l01Prime.st0 p0 k1) (spec_l01Prime.k0 N K) = (spec_l01Prime.l0 N (fun d0 => K (.bool (d0)) []) p0 ((spec_l01Prime.k0 N K) (.exit 0) (spec_l01Prime.sx0_0 p0)) m k1) := by
  intro m
  induction m with
  | zero => intros; rfl
  | succ m ih =>
    intro k1
    refine (spec_l01Prime.b0_eq N K (fun s => xloop (xcode (E1 N) ents spec_l01Prime.kp 0 N (cL (cK (cB (cA (cB spec_l01Prime.bd))))) 0) spec_l01Prime.kp 0 0 m s (spec_l01Prime.k0 N K)) p0 k1).trans ?_
    simp only [ih]
    kernel_rfl

theorem spec_l01Prime.s_eq {ρ : Type} (N : Nat) (K : AV → Heap → Option ρ) (p0 : Int) :
    xbody (E1 N) ents spec_l01Prime.kp N Go.Proofs.Try.f7 spec_l01Prime.bd [.int .i64 (p0)] [] K = (spec_l01Prime.s N (fun d0 => K (.bool (d0)) []) (fun k1 => xloop (xcode (E1 N) ents spec_l01Prime.kp 0 N (cL (cK (cB (cA (cB spec_l01Prime.bd))))) 0) spec_l01Prime.kp 0 0 N (spec_l01Prime.st0 p0 k1) (spec_l01Prime.k0 N K))) := by kernel_rfl

theorem spec_l01Prime.eq {ρ : Type} (N : Nat) (K : AV → Heap → Option ρ) (p0 : Int) :
    xbody (E1 N) ents spec_l01Prime.kp N Go.Proofs.Try.f7 spec_l01Prime.bd [.int .i64 (p0)] [] K = (spec_l01Prime N (fun d0 => K (.bool (d0)) []) p0) := by
  refine (spec_l01Prime.s_eq N K p0).trans ?_
  simp only [spec_l01Prime.l0_eq, spec_l01Prime.a0_0_eq]
  kernel_rfl

noncomputable def spec_l01Prime.en (N : Nat) (ρ : Type) : List AV → Heap → (AV → Heap → Option ρ) → Option ρ
  | [.int .i64 (p0)], [], K => (spec_l01Prime N (fun d0 => K (.bool (d0)) []) p0)
  | _, _, _ => none

theorem spec_l01Prime.en_ok (N : Nat) (hE : EnvOk (E1 N) ents) (ρ : Type) (args : List AV) (sh : Heap) (K : AV → Heap → Option ρ) (r : ρ) (h : spec_l01Prime.en N ρ args sh K = some r) : ∃ v sh', K v sh' = some r ∧ FnOk (E1 N).P 7 args sh v sh' := by
  unfold spec_l01Prime.en at h
  split at h
  · exact fn_ok hE (kp := spec_l01Prime.kp) (N := N) Go.Proofs.Try.func7 (c := spec_l01Prime.bd) (by kernel_rfl) ((spec_l01Prime.eq N _ _).trans h)
  · cases h

noncomputable def E2 (N : Nat) : Env := (E1 N).add 7 (spec_l01Prime.en N)

theorem E2_ok (N : Nat) : EnvOk (E2 N) ents := Env.add_ok (E1_ok N) (spec_l01Prime.en_ok N (E1_ok N))

noncomputable def spec_l01Basis.kp : Keeps := ⟨[], []⟩

noncomputable def spec_l01Basis.bd : Code := bodyOf Go.Proofs.Try.f15

noncomputable def spec_l01Basis.fin {ρ : Type} (N : Nat) (K : AV → Heap → Option ρ) : XE → St → Option ρ := finK (E2 N) Go.Proofs.Try.f15 [] K

theorem spec_l01Basis.eq {ρ : Type} (N : Nat) (K : AV → Heap → Option ρ) (i0 : Int) :
    xbody (E2 N) ents spec_l01Basis.kp N Go.Proofs.Try.f15 spec_l01Basis.bd [.int .i64 (i0)] [] K = (spec_l01Basis N (fun d0 => K (.agg [⟨.u8, 8, d0⟩]) []) i0) := by kernel_rfl

noncomputable def spec_l01Basis.en (N : Nat) (ρ : Type) : List AV → Heap → (AV → Heap → Option ρ) → Option ρ
  | [.int .i64 (i0)], [], K => (spec_l01Basis N (fun d0 => K (.agg [⟨.u8, 8, d0⟩]) []) i0)
  | _, _, _ => none

theorem spec_l01Basis.en_ok (N : Nat) (hE : EnvOk (E2 N) ents) (ρ : Type) (args : List AV) (sh : Heap) (K : AV → Heap → Option ρ) (r : ρ) (h : spec_l01Basis.en N ρ args sh K = some r) : ∃ v sh', K v sh' = some r ∧ FnOk (E2 N).P 15 args sh v sh' := by
  unfold spec_l01Basis.en at h
  split at h
  · exact fn_ok hE (kp := spec_l01Basis.kp) (N := N) Go.Proofs.Try.func15 (c := spec_l01Basis.bd) (by kernel_rfl) ((spec_l01Basis.eq N _ _).trans h)
  · cases h

noncomputable def E3 (N : Nat) : Env := (E2 N).add 15 (spec_l01Basis.en N)

theorem E3_ok (N : Nat) : EnvOk (E3 N) ents := Env.add_ok (E2_ok N) (spec_l01Basis.en_ok N (E2_ok N))

noncomputable def spec_l01Mod.kp : Keeps := ⟨[], []⟩

noncomputable def spec_l01Mod.bd : Code := bodyOf Go.Proofs.Try.f33

noncomputable def spec_l01Mod.fin {ρ : Type} (N : Nat) (K : AV → Heap → Option ρ) : XE → St → Option ρ := finK (E3 N) Go.Proofs.Try.f33 [] K

theorem spec_l01Mod.eq {ρ : Type} (N : Nat) (K : AV → Heap → Option ρ) (p0 : Int) (x1 : Int) :
    xbody (E3 N) ents spec_l01Mod.kp N Go.Proofs.Try.f33 spec_l01Mod.bd [.int .i64 (p0), .int .i64 (x1)] [] K = (spec_l01Mod N (fun d0 => K (.int .u8 (d0)) []) p0 x1) := by kernel_rfl

noncomputable def spec_l01Mod.en (N : Nat) (ρ : Type) : List AV → Heap → (AV → Heap → Option ρ) → Option ρ
  | [.int .i64 (p0), .int .i64 (x1)], [], K => (spec_l01Mod N (fun d0 => K (.int .u8 (d0)) []) p0 x1)
  | _, _, _ => none

theorem spec_l01Mod.en_ok (N : Nat) (hE : EnvOk (E3 N) ents) (ρ : Type) (args : List AV) (sh : Heap) (K : AV → Heap → Option ρ) (r : ρ) (h : spec_l01Mod.en N ρ args sh K = some r) : ∃ v sh', K v sh' = some r ∧ FnOk (E3 N).P 33 args sh v sh' := by
  unfold spec_l01Mod.en at h
  split at h
  · exact fn_ok hE (kp := spec_l01Mod.kp) (N := N) Go.Proofs.Try.func33 (c := spec_l01Mod.bd) (by kernel_rfl) ((spec_l01Mod.eq N _ _ _).trans h)
  · cases h

noncomputable def E4 (N : Nat) : Env := (E3 N).add 33 (spec_l01Mod.en N)

theorem E4_ok (N : Nat) : EnvOk (E4 N) ents := Env.add_ok (E3_ok N) (spec_l01Mod.en_ok N (E3_ok N))

noncomputable def spec_l01Add.kp : Keeps := ⟨[(0, [0, 3, 5, 6, 8, 9], 3)], [(0, [5, 8], 3)]⟩

noncomputable def spec_l01Add.bd : Code := bodyOf Go.Proofs.Try.f27

noncomputable def spec_l01Add.fin {ρ : Type} (N : Nat) (K : AV → Heap → Option ρ) : XE → St → Option ρ := finK (E4 N) Go.Proofs.Try.f27 [] K

noncomputable def spec_l01Add.k0 {ρ : Type} (N : Nat) (K : AV → Heap → Option ρ) : XE → St → Option ρ := (blockK spec_l01Add.kp 0 0 (seqK (xcode (E4 N) ents spec_l01Add.kp 0 N (cB (cB spec_l01Add.bd)) 0) (spec_l01Add.fin N K)))

theorem spec_l01Add.k0_mix {ρ : Type} (N : Nat) (K : AV → Heap → Option ρ) : mixK (spec_l01Add.fin N K .ret) (spec_l01Add.k0 N K) = (spec_l01Add.k0 N K) := by
  funext e s; cases e <;> rfl

noncomputable def spec_l01Add.st0 (p0 : Int) (w2 : Nat → Int) (k3 : Int) (i4 : Int) (g5 : Nat → Int) : St := ⟨sl 30 [(0, .int .i64 (p0)), (3, .int .i64 (k3)), (5, .sptr [(0, 8)]), (6, .sptr [(1, 8)]), (8, .sptr [(2, 8)]), (9, .int .i64 (i4))], [⟨true, .ints .u8 8 g5⟩, ⟨true, .ints .u8 8 w2⟩, ⟨true, .ints .u8 8 (fun _ => 0)⟩]⟩

noncomputable def spec_l01Add.sx0_0 (w2 : Nat → Int) (o7 : Nat → Int) : St := ⟨sl 30 [(5, .sptr [(0, 8)]), (8, .sptr [(2, 8)])], [⟨true, .ints .u8 8 o7⟩, ⟨true, .ints .u8 8 w2⟩, ⟨true, .ints .u8 8 (fun _ => 0)⟩]⟩

theorem spec_l01Add.b0_gen {ρ : Type} (N : Nat) (K : AV → Heap → Option ρ) (L0 : St → Option ρ) (kv : XE → St → Option ρ) (p0 : Int) (w2 : Nat → Int) (k3 : Int) (i4 : Int) (g5 : Nat → Int) :
    xcode (E4 N) ents spec_l01Add.kp 0 N (cL (cK (cB (cA (cB spec_l01Add.bd))))) 0 (spec_l01Add.st0 p0 w2 k3 i4 g5) (roundK spec_l01Add.kp 0 0 L0 (mixK (spec_l01Add.fin N K .ret) kv)) = (spec_l01Add.b0 N (fun d0 => K (.agg [⟨.u8, 8, d0⟩]) []) (fun i4 g5 => L0 (spec_l01Add.st0 p0 w2 k3 i4 g5)) (fun o7 => kv (.exit 0) (spec_l01Add.sx0_0 w2 o7)) p0 w2 k3 i4 g5) := by kernel_rfl

theorem spec_l01Add.b0_eq {ρ : Type} (N : Nat) (K : AV → Heap → Option ρ) (L0 : St → Option ρ) (p0 : Int) (w2 : Nat → Int) (k3 : Int) (i4 : Int) (g5 : Nat → Int) :
    xcode (E4 N) ents spec_l01Add.kp 0 N (cL (cK (cB (cA (cB spec_l01Add.bd))))) 0 (spec_l01Add.st0 p0 w2 k3 i4 g5) (roundK spec_l01Add.kp 0 0 L0 (spec_l01Add.k0 N K)) = (spec_l01Add.b0 N (fun d0 => K (.agg [⟨.u8, 8, d0⟩]) []) (fun i4 g5 => L0 (spec_l01Add.st0 p0 w2 k3 i4 g5)) (fun o7 => (spec_l01Add.k0 N K) (.exit 0) (spec_l01Add.sx0_0 w2 o7)) p0 w2 k3 i4 g5) := by
  have h := spec_l01Add.b0_gen N K L0 (spec_l01Add.k0 N K) p0 w2 k3 i4 g5
  rw [spec_l01Add.k0_mix] at h
  exact h

theorem spec_l01Add.a0_0_eq {ρ : Type} (N : Nat) (K : AV → Heap → Option ρ) (w2 : Nat → Int) (o7 : Nat → Int) :
    (spec_l01Add.k0 N K) (.exit 0) (spec_l01Add.sx0_0 w2 o7) = (spec_l01Add.a0_0 N (fun d0 => K (.agg [⟨.u8, 8, d0⟩]) []) o7) := by kernel_rfl

theorem spec_l01Add.l0_eq {ρ : Type} (N : Nat) (K : AV → Heap → Option ρ) (p0 : Int) (w2 : Nat → Int) (k3 : Int) :
    ∀ (m : Nat) (i4 : Int) (g5 : Nat → Int), xloop (xcode (E4 N) ents spec_l01Add.kp 0 N (cL (cK (cB (cA (cB spec_l01Add.bd))))) 0) spec_l01Add.kp 0 0 m (spec_l01Add.st0 p0 w2 k3 i4 g5) (spec_l01Add.k0 N K) = (spec_l01Add.l0 N (fun d0 => K (.agg [⟨.u8, 8, d0⟩]) []) p0 w2 k3 (fun o7 => (spec_l01Add.k0 N K) (.exit 0) (spec_l01Add.sx0_0 w2 o7)) m i4 g5) := by
  intro m
  induction m with
  | zero => intros; rfl
  | succ m ih =>
    intro i4 g5
    refine (spec_l01Add.b0_eq N K (fun s => xloop (xcode (E4 N) ents spec_l01Add.kp 0 N (cL (cK (cB (cA (cB spec_l01Add.bd))))) 0) spec_l01Add.kp 0 0 m s (spec_l01Add.k0 N K)) p0 w2 k3 i4 g5).trans ?_
    simp only [ih]
    kernel_rfl

theorem spec_l01Add.s_eq {ρ : Type} (N : Nat) (K : AV → Heap → Option ρ) (p0 : Int) (v1 : Nat → Int) (w2 : Nat → Int) (k3 : Int) :
    xbody (E4 N) ents spec_l01Add.kp N Go.Proofs.Try.f27 spec_l01Add.bd [.int .i64 (p0), .agg [⟨.u8, 8, v1⟩], .agg [⟨.u8, 8, w2⟩], .int .i64 (k3)] [] K = (spec_l01Add.s N (fun d0 => K (.agg [⟨.u8, 8, d0⟩]) []) (fun i4 g5 => xloop (xcode (E4 N) ents spec_l01Add.kp 0 N (cL (cK (cB (cA (cB spec_l01Add.bd))))) 0) spec_l01Add.kp 0 0 N (spec_l01Add.st0 p0 w2 k3 i4 g5) (spec_l01Add.k0 N K)) v1) := by kernel_rfl

theorem spec_l01Add.eq {ρ : Type} (N : Nat) (K : AV → Heap → Option ρ) (p0 : Int) (v1 : Nat → Int) (w2 : Nat → Int) (k3 : Int) :
    xbody (E4 N) ents spec_l01Add.kp N Go.Proofs.Try.f27 spec_l01Add.bd [.int .i64 (p0), .agg [⟨.u8, 8, v1⟩], .agg [⟨.u8, 8, w2⟩], .int .i64 (k3)] [] K = (spec_l01Add N (fun d0 => K (.agg [⟨.u8, 8, d0⟩]) []) p0 v1 w2 k3) := by
  refine (spec_l01Add.s_eq N K p0 v1 w2 k3).trans ?_
  simp only [spec_l01Add.l0_eq, spec_l01Add.a0_0_eq]
  kernel_rfl

noncomputable def spec_l01Add.en (N : Nat) (ρ : Type) : List AV → Heap → (AV → Heap → Option ρ) → Option ρ
  | [.int .i64 (p0), .agg [⟨.u8, 8, v1⟩], .agg [⟨.u8, 8, w2⟩], .int .i64 (k3)], [], K => (spec_l01Add N (fun d0 => K (.agg [⟨.u8, 8, d0⟩]) []) p0 v1 w2 k3)
  | _, _, _ => none

theorem spec_l01Add.en_ok (N : Nat) (hE : EnvOk (E4 N) ents) (ρ : Type) (args : List AV) (sh : Heap) (K : AV → Heap → Option ρ) (r : ρ) (h : spec_l01Add.en N ρ args sh K = some r) : ∃ v sh', K v sh' = some r ∧ FnOk (E4 N).P 27 args sh v sh' := by
  unfold spec_l01Add.en at h
  split at h
  · exact fn_ok hE (kp := spec_l01Add.kp) (N := N) Go.Proofs.Try.func27 (c := spec_l01Add.bd) (by kernel_rfl) ((spec_l01Add.eq N _ _ _ _ _).trans h)
  · cases h

noncomputable def E5 (N : Nat) : Env := (E4 N).add 27 (spec_l01Add.en N)

theorem E5_ok (N : Nat) : EnvOk (E5 N) ents := Env.add_ok (E4_ok N) (spec_l01Add.en_ok N (E4_ok N))

noncomputable def spec_l02Outer.kp : Keeps := ⟨[(0, [0, 4, 5, 6, 7, 8], 4)], [(0, [6, 7], 4)]⟩

noncomputable def spec_l02Outer.bd : Code := bodyOf Go.Proofs.Try.f26

noncomputable def spec_l02Outer.fin {ρ : Type} (N : Nat) (K : AV → Heap → Option ρ) : XE → St → Option ρ := finK (E5 N) Go.Proofs.Try.f26 [] K

noncomputable def spec_l02Outer.k0 {ρ : Type} (N : Nat) (K : AV → Heap → Option ρ) : XE → St → Option ρ := (blockK spec_l02Outer.kp 0 0 (seqK (xcode (E5 N) ents spec_l02Outer.kp 0 N (cB (cB (cB spec_l02Outer.bd))) 0) (spec_l02Outer.fin N K)))

theorem spec_l02Outer.k0_mix {ρ : Type} (N : Nat) (K : AV → Heap → Option ρ) : mixK (spec_l02Outer.fin N K .ret) (spec_l02Outer.k0 N K) = (spec_l02Outer.k0 N K) := by
  funext e s; cases e <;> rfl

noncomputable def spec_l02Outer.st0 (p0 : Int) (v1 : Nat → Int) (w2 : Nat → Int) (j3 : Int) (g4 : Nat → Int) : St := ⟨sl 25 [(0, .int .i64 (p0)), (4, .sptr [(0, 8)]), (5, .sptr [(1, 8)]), (6, .sptr [(2, 64)]), (7, .sptr [(3, 64)]), (8, .int .i64 (j3))], [⟨true, .ints .u8 8 v1⟩, ⟨true, .ints .u8 8 w2⟩, ⟨true, .ints .u8 64 (fun _ => 0)⟩, ⟨true, .ints .u8 64 g4⟩]⟩

noncomputable def spec_l02Outer.sx0_0 (v1 : Nat → Int) (w2 : Nat → Int) (o6 : Nat → Int) : St := ⟨sl 25 [(6, .sptr [(2, 64)]), (7, .sptr [(3, 64)])], [⟨true, .ints .u8 8 v1⟩, ⟨true, .ints .u8 8 w2⟩, ⟨true, .ints .u8 64 (fun _ => 0)⟩, ⟨true, .ints .u8 64 o6⟩]⟩

theorem spec_l02Outer.b0_gen {ρ : Type} (N : Nat) (K : AV → Heap → Option ρ) (L0 : St → Option ρ) (kv : XE → St → Option ρ) (p0 : Int) (v1 : Nat → Int) (w2 : Nat → Int) (j3 : Int) (g4 : Nat → Int) :
    xcode (E5 N) ents spec_l02Outer.kp 0 N (cL (cK (cB (cA (cB (cB spec_l02Outer.bd)))))) 0 (spec_l02Outer.st0 p0 v1 w2 j3 g4) (roundK spec_l02Outer.kp 0 0 L0 (mixK (spec_l02Outer.fin N K .ret) kv)) = (spec_l02Outer.b0 N (fun d0 => K (.agg [⟨.u8, 64, d0⟩]) []) (fun j3 g4 => L0 (spec_l02Outer.st0 p0 v1 w2 j3 g4)) (fun o6 => kv (.exit 0) (spec_l02Outer.sx0_0 v1 w2 o6)) p0 v1 w2 j3 g4) := by kernel_rfl

theorem spec_l02Outer.b0_eq {ρ : Type} (N : Nat) (K : AV → Heap → Option ρ) (L0 : St → Option ρ) (p0 : Int) (v1 : Nat → Int) (w2 : Nat → Int) (j3 : Int) (g4 : Nat → Int) :
    xcode (E5 N) ents spec_l02Outer.kp 0 N (cL (cK (cB (cA (cB (cB spec_l02Outer.bd)))))) 0 (spec_l02Outer.st0 p0 v1 w2 j3 g4) (roundK spec_l02Outer.kp 0 0 L0 (spec_l02Outer.k0 N K)) = (spec_l02Outer.b0 N (fun d0 => K (.agg [⟨.u8, 64, d0⟩]) []) (fun j3 g4 => L0 (spec_l02Outer.st0 p0 v1 w2 j3 g4)) (fun o6 => (spec_l02Outer.k0 N K) (.exit 0) (spec_l02Outer.sx0_0 v1 w2 o6)) p0 v1 w2 j3 g4) := by
  have h := spec_l02Outer.b0_gen N K L0 (spec_l02Outer.k0 N K) p0 v1 w2 j3 g4
  rw [spec_l02Outer.k0_mix] at h
  exact h

theorem spec_l02Outer.a0_0_eq {ρ : Type} (N : Nat) (K : AV → Heap → Option ρ) (v1 : Nat → Int) (w2 : Nat → Int) (o6 : Nat → Int) :
    (spec_l02Outer.k0 N K) (.exit 0) (spec_l02Outer.sx0_0 v1 w2 o6) = (spec_l02Outer.a0_0 N (fun d0 => K (.agg [⟨.u8, 64, d0⟩]) []) o6) := by kernel_rfl

theorem spec_l02Outer.l0_eq {ρ : Type} (N : Nat) (K : AV → Heap → Option ρ) (p0 : Int) (v1 : Nat → Int) (w2 : Nat → Int) :
    ∀ (m : Nat) (j3 : Int) (g4 : Nat → Int), xloop (xcode (E5 N) ents spec_l02Outer.kp 0 N (cL (cK (cB (cA (cB (cB spec_l02Outer.bd)))))) 0) spec_l02Outer.kp 0 0 m (spec_l02Outer.st0 p0 v1 w2 j3 g4) (spec_l02Outer.k0 N K) = (spec_l02Outer.l0 N (fun d0 => K (.agg [⟨.u8, 64, d0⟩]) []) p0 v1 w2 (fun o6 => (spec_l02Outer.k0 N K) (.exit 0) (spec_l02Outer.sx0_0 v1 w2 o6)) m j3 g4) := by
  intro m
  induction m with
  | zero => intros; rfl
  | succ m ih =>
    intro j3 g4
    refine (spec_l02Outer.b0_eq N K (fun s => xloop (xcode (E5 N) ents spec_l02Outer.kp 0 N (cL (cK (cB (cA (cB (cB spec_l02Outer.bd)))))) 0) spec_l02Outer.kp 0 0 m s (spec_l02Outer.k0 N K)) p0 v1 w2 j3 g4).trans ?_
    simp only [ih]
    kernel_rfl

theorem spec_l02Outer.s_eq {ρ : Type} (N : Nat) (K : AV → Heap → Option ρ) (p0 : Int) (v1 : Nat → Int) (w2 : Nat → Int) :
    xbody (E5 N) ents spec_l02Outer.kp N Go.Proofs.Try.f26 spec_l02Outer.bd [.int .i64 (p0), .agg [⟨.u8, 8, v1⟩], .agg [⟨.u8, 8, w2⟩]] [] K = (spec_l02Outer.s N (fun d0 => K (.agg [⟨.u8, 64, d0⟩]) []) (fun j3 g4 => xloop (xcode (E5 N) ents spec_l02Outer.kp 0 N (cL (cK (cB (cA (cB (cB spec_l02Outer.bd)))))) 0) spec_l02Outer.kp 0 0 N (spec_l02Outer.st0 p0 v1 w2 j3 g4) (spec_l02Outer.k0 N K))) := by kernel_rfl

theorem spec_l02Outer.eq {ρ : Type} (N : Nat) (K : AV → Heap → Option ρ) (p0 : Int) (v1 : Nat → Int) (w2 : Nat → Int) :
    xbody (E5 N) ents spec_l02Outer.kp N Go.Proofs.Try.f26 spec_l02Outer.bd [.int .i64 (p0), .agg [⟨.u8, 8, v1⟩], .agg [⟨.u8, 8, w2⟩]] [] K = (spec_l02Outer N (fun d0 => K (.agg [⟨.u8, 64, d0⟩]) []) p0 v1 w2) := by
  refine (spec_l02Outer.s_eq N K p0 v1 w2).trans ?_
  simp only [spec_l02Outer.l0_eq, spec_l02Outer.a0_0_eq]
  kernel_rfl

noncomputable def spec_l02Outer.en (N : Nat) (ρ : Type) : List AV → Heap → (AV → Heap → Option ρ) → Option ρ
  | [.int .i64 (p0), .agg [⟨.u8, 8, v1⟩], .agg [⟨.u8, 8, w2⟩]], [], K => (spec_l02Outer N (fun d0 => K (.agg [⟨.u8, 64, d0⟩]) []) p0 v1 w2)
  | _, _, _ => none

theorem spec_l02Outer.en_ok (N : Nat) (hE : EnvOk (E5 N) ents) (ρ : Type) (args : List AV) (sh : Heap) (K : AV → Heap → Option ρ) (r : ρ) (h : spec_l02Outer.en N ρ args sh K = some r) : ∃ v sh', K v sh' = some r ∧ FnOk (E5 N).P 26 args sh v sh' := by
  unfold spec_l02Outer.en at h
  split at h
  · exact fn_ok hE (kp := spec_l02Outer.kp) (N := N) Go.Proofs.Try.func26 (c := spec_l02Outer.bd) (by kernel_rfl) ((spec_l02Outer.eq N _ _ _ _).trans h)
  · cases h

noncomputable def E6 (N : Nat) : Env := (E5 N).add 26 (spec_l02Outer.en N)

theorem E6_ok (N : Nat) : EnvOk (E6 N) ents := Env.add_ok (E5_ok N) (spec_l02Outer.en_ok N (E5_ok N))

noncomputable def spec_l04Pairs.kp : Keeps := ⟨[(0, [3, 4, 5, 6, 7, 8, 9], 6), (2, [3, 4, 5, 6, 7, 8, 9, 10], 6), (4, [3, 4, 5, 6, 7, 8, 9, 10, 11], 6), (6, [3, 4, 5, 6, 7, 8, 9, 10, 11, 12], 6), (8, [3, 4, 5, 6, 7, 8, 9, 10, 11, 12, 13, 14, 15], 7)], [(0, [6, 7], 6), (2, [3, 4, 5, 6, 7, 8, 9], 6), (4, [3, 4, 5, 6, 7, 8, 9, 10], 6), (6, [3, 4, 5, 6, 7, 8, 9, 10, 11], 6), (8, [3, 4, 5, 6, 7, 8, 9, 10, 11, 12], 7)]⟩

noncomputable def spec_l04Pairs.bd : Code := bodyOf Go.Proofs.Try.f16

noncomputable def spec_l04Pairs.fin {ρ : Type} (N : Nat) (K : AV → Heap → Option ρ) : XE → St → Option ρ := finK (E6 N) Go.Proofs.Try.f16 [] K

noncomputable def spec_l04Pairs.k0 {ρ : Type} (N : Nat) (K : AV → Heap → Option ρ) : XE → St → Option ρ := (blockK spec_l04Pairs.kp 0 0 (seqK (xcode (E6 N) ents spec_l04Pairs.kp 0 N (cB (cB (cB spec_l04Pairs.bd))) 0) (spec_l04Pairs.fin N K)))

theorem spec_l04Pairs.k0_mix {ρ : Type} (N : Nat) (K : AV → Heap → Option ρ) : mixK (spec_l04Pairs.fin N K .ret) (spec_l04Pairs.k0 N K) = (spec_l04Pairs.k0 N K) := by
  funext e s; cases e <;> rfl

noncomputable def spec_l04Pairs.st0 (a0 : Nat → Int) (a1 : Nat → Int) (f2 : Nat → Int) (g3 : Nat → Int) (j4 : Int) (g5 : Nat → Int) : St := ⟨sl 99 [(3, .sptr [(0, 2), (1, 520)]), (4, .sptr [(2, 64)]), (5, .sptr [(3, 64)]), (6, .sptr [(4, 64)]), (7, .sptr [(5, 64)]), (8, .int .i64 ((a0 1))), (9, .int .i64 (j4))], [⟨true, .ints .i64 2 a0⟩, ⟨true, .ints .u8 520 a1⟩, ⟨true, .ints .u8 64 f2⟩, ⟨true, .ints .u8 64 g3⟩, ⟨true, .ints .u8 64 (fun _ => 0)⟩, ⟨true, .ints .u8 64 g5⟩]⟩

noncomputable def spec_l04Pairs.sx0_0 (a0 : Nat → Int) (a1 : Nat → Int) (f2 : Nat → Int) (g3 : Nat → Int) (o20 : Nat → Int) : St := ⟨sl 99 [(6, .sptr [(4, 64)]), (7, .sptr [(5, 64)])], [⟨true, .ints .i64 2 a0⟩, ⟨true, .ints .u8 520 a1⟩, ⟨true, .ints .u8 64 f2⟩, ⟨true, .ints .u8 64 g3⟩, ⟨true, .ints .u8 64 (fun _ => 0)⟩, ⟨true, .ints .u8 64 o20⟩]⟩

noncomputable def spec_l04Pairs.k1g {ρ : Type} (N : Nat) (L0 : St → Option ρ) (kv : XE → St → Option ρ) : XE → St → Option ρ := (blockK spec_l04Pairs.kp 0 2 (blockK spec_l04Pairs.kp 0 1 (seqK (xcode (E6 N) ents spec_l04Pairs.kp 0 N (cB (cB (cL (cK (cB (cA (cB (cB spec_l04Pairs.bd)))))))) 0) (roundK spec_l04Pairs.kp 0 0 L0 kv))))

theorem spec_l04Pairs.k1_mix {ρ : Type} (N : Nat) (K : AV → Heap → Option ρ) (L0 : St → Option ρ) : mixK (spec_l04Pairs.fin N K .ret) (spec_l04Pairs.k1g N L0 (spec_l04Pairs.k0 N K)) = (spec_l04Pairs.k1g N L0 (spec_l04Pairs.k0 N K)) := by
  funext e s; cases e <;> rfl

noncomputable def spec_l04Pairs.st1 (a0 : Nat → Int) (a1 : Nat → Int) (f2 : Nat → Int) (g3 : Nat → Int) (j4 : Int) (k6 : Int) (g7 : Nat → Int) : St := ⟨sl 99 [(3, .sptr [(0, 2), (1, 520)]), (4, .sptr [(2, 64)]), (5, .sptr [(3, 64)]), (6, .sptr [(4, 64)]), (7, .sptr [(5, 64)]), (8, .int .i64 ((a0 1))), (9, .int .i64 (j4)), (10, .int .i64 (k6))], [⟨true, .ints .i64 2 a0⟩, ⟨true, .ints .u8 520 a1⟩, ⟨true, .ints .u8 64 f2⟩, ⟨true, .ints .u8 64 g3⟩, ⟨true, .ints .u8 64 (fun _ => 0)⟩, ⟨true, .ints .u8 64 g7⟩]⟩

noncomputable def spec_l04Pairs.sx1_0 (a0 : Nat → Int) (a1 : Nat → Int) (f2 : Nat → Int) (g3 : Nat → Int) (j4 : Int) (o19 : Nat → Int) : St := ⟨sl 99 [(3, .sptr [(0, 2), (1, 520)]), (4, .sptr [(2, 64)]), (5, .sptr [(3, 64)]), (6, .sptr [(4, 64)]), (7, .sptr [(5, 64)]), (8, .int .i64 ((a0 1))), (9, .int .i64 (j4))], [⟨true, .ints .i64 2 a0⟩, ⟨true, .ints .u8 520 a1⟩, ⟨true, .ints .u8 64 f2⟩, ⟨true, .ints .u8 64 g3⟩, ⟨true, .ints .u8 64 (fun _ => 0)⟩, ⟨true, .ints .u8 64 o19⟩]⟩

noncomputable def spec_l04Pairs.k2g {ρ : Type} (N : Nat) (L1 : St → Option ρ) (kv : XE → St → Option ρ) : XE → St → Option ρ := (blockK spec_l04Pairs.kp 0 4 (blockK spec_l04Pairs.kp 0 3 (seqK (xcode (E6 N) ents spec_l04Pairs.kp 0 N (cB (cB (cL (cK (cB (cK (cA (cB (cL (cK (cB (cA (cB (cB spec_l04Pairs.bd)))))))))))))) 2) (roundK spec_l04Pairs.kp 0 2 L1 kv))))

theorem spec_l04Pairs.k2_mix {ρ : Type} (N : Nat) (K : AV → Heap → Option ρ) (L0 : St → Option ρ) (L1 : St → Option ρ) : mixK (spec_l04Pairs.fin N K .ret) (spec_l04Pairs.k2g N L1 (spec_l04Pairs.k1g N L0 (spec_l04Pairs.k0 N K))) = (spec_l04Pairs.k2g N L1 (spec_l04Pairs.k1g N L0 (spec_l04Pairs.k0 N K))) := by
  funext e s; cases e <;> rfl

noncomputable def spec_l04Pairs.st2 (a0 : Nat → Int) (a1 : Nat → Int) (f2 : Nat → Int) (g3 : Nat → Int) (j4 : Int) (k6 : Int) (l8 : Int) (g9 : Nat → Int) : St := ⟨sl 99 [(3, .sptr [(0, 2), (1, 520)]), (4, .sptr [(2, 64)]), (5, .sptr [(3, 64)]), (6, .sptr [(4, 64)]), (7, .sptr [(5, 64)]), (8, .int .i64 ((a0 1))), (9, .int .i64 (j4)), (10, .int .i64 (k6)), (11, .int .i64 (l8))], [⟨true, .ints .i64 2 a0⟩, ⟨true, .ints .u8 520 a1⟩, ⟨true, .ints .u8 64 f2⟩, ⟨true, .ints .u8 64 g3⟩, ⟨true, .ints .u8 64 (fun _ => 0)⟩, ⟨true, .ints .u8 64 g9⟩]⟩

noncomputable def spec_l04Pairs.sx2_0 (a0 : Nat → Int) (a1 : Nat → Int) (f2 : Nat → Int) (g3 : Nat → Int) (j4 : Int) (k6 : Int) (o18 : Nat → Int) : St := ⟨sl 99 [(3, .sptr [(0, 2), (1, 520)]), (4, .sptr [(2, 64)]), (5, .sptr [(3, 64)]), (6, .sptr [(4, 64)]), (7, .sptr [(5, 64)]), (8, .int .i64 ((a0 1))), (9, .int .i64 (j4)), (10, .int .i64 (k6))], [⟨true, .ints .i64 2 a0⟩, ⟨true, .ints .u8 520 a1⟩, ⟨true, .ints .u8 64 f2⟩, ⟨true, .ints .u8 64 g3⟩, ⟨true, .ints .u8 64 (fun _ => 0)⟩, ⟨true, .ints .u8 64 o18⟩]⟩

noncomputable def spec_l04Pairs.k3g {ρ : Type} (N : Nat) (L2 : St → Option ρ) (kv : XE → St → Option ρ) : XE → St → Option ρ := (blockK spec_l04Pairs.kp 0 6 (blockK spec_l04Pairs.kp 0 5 (seqK (xcode (E6 N) ents spec_l04Pairs.kp 0 N (cB (cB (cL (cK (cB (cK (cA (cB (cL (cK (cB (cK (cA (cB (cL (cK (cB (cA (cB (cB spec_l04Pairs.bd)))))))))))))))))))) 4) (roundK spec_l04Pairs.kp 0 4 L2 kv))))

theorem spec_l04Pairs.k3_mix {ρ : Type} (N : Nat) (K : AV → Heap → Option ρ) (L0 : St → Option ρ) (L1 : St → Option ρ) (L2 : St → Option ρ) : mixK (spec_l04Pairs.fin N K .ret) (spec_l04Pairs.k3g N L2 (spec_l04Pairs.k2g N L1 (spec_l04Pairs.k1g N L0 (spec_l04Pairs.k0 N K)))) = (spec_l04Pairs.k3g N L2 (spec_l04Pairs.k2g N L1 (spec_l04Pairs.k1g N L0 (spec_l04Pairs.k0 N K)))) := by
  funext e s; cases e <;> rfl

noncomputable def spec_l04Pairs.st3 (a0 : Nat → Int) (a1 : Nat → Int) (f2 : Nat → Int) (g3 : Nat → Int) (j4 : Int) (k6 : Int) (l8 : Int) (m10 : Int) (g11 : Nat → Int) : St := ⟨sl 99 [(3, .sptr [(0, 2), (1, 520)]), (4, .sptr [(2, 64)]), (5, .sptr [(3, 64)]), (6, .sptr [(4, 64)]), (7, .sptr [(5, 64)]), (8, .int .i64 ((a0 1))), (9, .int .i64 (j4)), (10, .int .i64 (k6)), (11, .int .i64 (l8)), (12, .int .i64 (m10))], [⟨true, .ints .i64 2 a0⟩, ⟨true, .ints .u8 520 a1⟩, ⟨true, .ints .u8 64 f2⟩, ⟨true, .ints .u8 64 g3⟩, ⟨true, .ints .u8 64 (fun _ => 0)⟩, ⟨true, .ints .u8 64 g11⟩]⟩

noncomputable def spec_l04Pairs.sx3_0 (a0 : Nat → Int) (a1 : Nat → Int) (f2 : Nat → Int) (g3 : Nat → Int) (j4 : Int) (k6 : Int) (l8 : Int) (o17 : Nat → Int) : St := ⟨sl 99 [(3, .sptr [(0, 2), (1, 520)]), (4, .sptr [(2, 64)]), (5, .sptr [(3, 64)]), (6, .sptr [(4, 64)]), (7, .sptr [(5, 64)]), (8, .int .i64 ((a0 1))), (9, .int .i64 (j4)), (10, .int .i64 (k6)), (11, .int .i64 (l8))], [⟨true, .ints .i64 2 a0⟩, ⟨true, .ints .u8 520 a1⟩, ⟨true, .ints .u8 64 f2⟩, ⟨true, .ints .u8 64 g3⟩, ⟨true, .ints .u8 64 (fun _ => 0)⟩, ⟨true, .ints .u8 64 o17⟩]⟩

noncomputable def spec_l04Pairs.k4g {ρ : Type} (N : Nat) (L3 : St → Option ρ) (kv : XE → St → Option ρ) : XE → St → Option ρ := (blockK spec_l04Pairs.kp 0 8 (blockK spec_l04Pairs.kp 0 7 (seqK (xcode (E6 N) ents spec_l04Pairs.kp 0 N (cB (cB (cL (cK (cB (cK (cA (cB (cL (cK (cB (cK (cA (cB (cL (cK (cB (cK (cA (cB (cL (cK (cB (cA (cB (cB spec_l04Pairs.bd)))))))))))))))))))))))))) 6) (roundK spec_l04Pairs.kp 0 6 L3 kv))))

theorem spec_l04Pairs.k4_mix {ρ : Type} (N : Nat) (K : AV → Heap → Option ρ) (L0 : St → Option ρ) (L1 : St → Option ρ) (L2 : St → Option ρ) (L3 : St → Option ρ) : mixK (spec_l04Pairs.fin N K .ret) (spec_l04Pairs.k4g N L3 (spec_l04Pairs.k3g N L2 (spec_l04Pairs.k2g N L1 (spec_l04Pairs.k1g N L0 (spec_l04Pairs.k0 N K))))) = (spec_l04Pairs.k4g N L3 (spec_l04Pairs.k3g N L2 (spec_l04Pairs.k2g N L1 (spec_l04Pairs.k1g N L0 (spec_l04Pairs.k0 N K))))) := by
  funext e s; cases e <;> rfl

noncomputable def spec_l04Pairs.st4 (a0 : Nat → Int) (a1 : Nat → Int) (f2 : Nat → Int) (g3 : Nat → Int) (j4 : Int) (k6 : Int) (l8 : Int) (m10 : Int) (r12 : Nat → Int) (i13 : Int) (g14 : Nat → Int) : St := ⟨sl 99 [(3, .sptr [(0, 2), (1, 520)]), (4, .sptr [(2, 64)]), (5, .sptr [(3, 64)]), (6, .sptr [(4, 64)]), (7, .sptr [(5, 64)]), (8, .int .i64 ((a0 1))), (9, .int .i64 (j4)), (10, .int .i64 (k6)), (11, .int .i64 (l8)), (12, .int .i64 (m10)), (13, .sptr [(6, 64)]), (14, .int .i64 ((IntKind.i64.wrap ((IntKind.i64.wrap (f2 ((j4.toNat * 8) + (k6.toNat * 1)))) * (IntKind.i64.wrap (g3 ((l8.toNat * 8) + (m10.toNat * 1)))))))), (15, .int .i64 (i13))], [⟨true, .ints .i64 2 a0⟩, ⟨true, .ints .u8 520 a1⟩, ⟨true, .ints .u8 64 f2⟩, ⟨true, .ints .u8 64 g3⟩, ⟨true, .ints .u8 64 (fun _ => 0)⟩, ⟨true, .ints .u8 64 g14⟩, ⟨true, .ints .u8 64 r12⟩]⟩

noncomputable def spec_l04Pairs.sx4_0 (a0 : Nat → Int) (a1 : Nat → Int) (f2 : Nat → Int) (g3 : Nat → Int) (j4 : Int) (k6 : Int) (l8 : Int) (m10 : Int) (r12 : Nat → Int) (o16 : Nat → Int) : St := ⟨sl 99 [(3, .sptr [(0, 2), (1, 520)]), (4, .sptr [(2, 64)]), (5, .sptr [(3, 64)]), (6, .sptr [(4, 64)]), (7, .sptr [(5, 64)]), (8, .int .i64 ((a0 1))), (9, .int .i64 (j4)), (10, .int .i64 (k6)), (11, .int .i64 (l8)), (12, .int .i64 (m10))], [⟨true, .ints .i64 2 a0⟩, ⟨true, .ints .u8 520 a1⟩, ⟨true, .ints .u8 64 f2⟩, ⟨true, .ints .u8 64 g3⟩, ⟨true, .ints .u8 64 (fun _ => 0)⟩, ⟨true, .ints .u8 64 o16⟩, ⟨true, .ints .u8 64 r12⟩]⟩

theorem spec_l04Pairs.b4_gen {ρ : Type} (N : Nat) (K : AV → Heap → Option ρ) (L4 : St → Option ρ) (kv : XE → St → Option ρ) (a0 : Nat → Int) (a1 : Nat → Int) (f2 : Nat → Int) (g3 : Nat → Int) (j4 : Int) (k6 : Int) (l8 : Int) (m10 : Int) (r12 : Nat → Int) (i13 : Int) (g14 : Nat → Int) :
    xcode (E6 N) ents spec_l04Pairs.kp 0 N (cL (cK (cB (cB (cB (cB (cK (cA (cB (cL (cK (cB (cK (cA (cB (cL (cK (cB (cK (cA (cB (cL (cK (cB (cK (cA (cB (cL (cK (cB (cA (cB (cB spec_l04Pairs.bd))))))))))))))))))))))))))))))))) 8 (spec_l04Pairs.st4 a0 a1 f2 g3 j4 k6 l8 m10 r12 i13 g14) (roundK spec_l04Pairs.kp 0 8 L4 (mixK (spec_l04Pairs.fin N K .ret) kv)) = (spec_l04Pairs.b4 N (fun d0 => K (.agg [⟨.u8, 64, d0⟩]) []) (fun i13 g14 => L4 (spec_l04Pairs.st4 a0 a1 f2 g3 j4 k6 l8 m10 r12 i13 g14)) (fun o16 => kv (.exit 8) (spec_l04Pairs.sx4_0 a0 a1 f2 g3 j4 k6 l8 m10 r12 o16)) a0 f2 g3 j4 k6 l8 m10 r12 i13 g14) := by kernel_rfl

theorem spec_l04Pairs.b4_eq {ρ : Type} (N : Nat) (K : AV → Heap → Option ρ) (L0 : St → Option ρ) (L1 : St → Option ρ) (L2 : St → Option ρ) (L3 : St → Option ρ) (L4 : St → Option ρ) (a0 : Nat → Int) (a1 : Nat → Int) (f2 : Nat → Int) (g3 : Nat → Int) (j4 : Int) (k6 : Int) (l8 : Int) (m10 : Int) (r12 : Nat → Int) (i13 : Int) (g14 : Nat → Int) :
    xcode (E6 N) ents spec_l04Pairs.kp 0 N (cL (cK (cB (cB (cB (cB (cK (cA (cB (cL (cK (cB (cK (cA (cB (cL (cK (cB (cK (cA (cB (cL (cK (cB (cK (cA (cB (cL (cK (cB (cA (cB (cB spec_l04Pairs.bd))))))))))))))))))))))))))))))))) 8 (spec_l04Pairs.st4 a0 a1 f2 g3 j4 k6 l8 m10 r12 i13 g14) (roundK spec_l04Pairs.kp 0 8 L4 (spec_l04Pairs.k4g N L3 (spec_l04Pairs.k3g N L2 (spec_l04Pairs.k2g N L1 (spec_l04Pairs.k1g N L0 (spec_l04Pairs.k0 N K)))))) = (spec_l04Pairs.b4 N (fun d0 => K (.agg [⟨.u8, 64, d0⟩]) []) (fun i13 g14 => L4 (spec_l04Pairs.st4 a0 a1 f2 g3 j4 k6 l8 m10 r12 i13 g14)) (fun o16 => (spec_l04Pairs.k4g N L3 (spec_l04Pairs.k3g N L2 (spec_l04Pairs.k2g N L1 (spec_l04Pairs.k1g N L0 (spec_l04Pairs.k0 N K))))) (.exit 8) (spec_l04Pairs.sx4_0 a0 a1 f2 g3 j4 k6 l8 m10 r12 o16)) a0 f2 g3 j4 k6 l8 m10 r12 i13 g14) := by
  have h := spec_l04Pairs.b4_gen N K L4 (spec_l04Pairs.k4g N L3 (spec_l04Pairs.k3g N L2 (spec_l04Pairs.k2g N L1 (spec_l04Pairs.k1g N L0 (spec_l04Pairs.k0 N K))))) a0 a1 f2 g3 j4 k6 l8 m10 r12 i13 g14
  rw [spec_l04Pairs.k4_mix] at h
  exact h

theorem spec_l04Pairs.a4_0_gen {ρ : Type} (N : Nat) (K : AV → Heap → Option ρ) (L3 : St → Option ρ) (kv : XE → St → Option ρ) (a0 : Nat → Int) (a1 : Nat → Int) (f2 : Nat → Int) (g3 : Nat → Int) (j4 : Int) (k6 : Int) (l8 : Int) (m10 : Int) (r12 : Nat → Int) (o16 : Nat → Int) :
    (spec_l04Pairs.k4g N L3 (mixK (spec_l04Pairs.fin N K .ret) kv)) (.exit 8) (spec_l04Pairs.sx4_0 a0 a1 f2 g3 j4 k6 l8 m10 r12 o16) = (spec_l04Pairs.a4_0 N (fun d0 => K (.agg [⟨.u8, 64, d0⟩]) []) (fun m10 g11 => L3 (spec_l04Pairs.st3 a0 a1 f2 g3 j4 k6 l8 m10 g11)) (fun o17 => kv (.exit 6) (spec_l04Pairs.sx3_0 a0 a1 f2 g3 j4 k6 l8 o17)) m10 o16) := by kernel_rfl

theorem spec_l04Pairs.a4_0_eq {ρ : Type} (N : Nat) (K : AV → Heap → Option ρ) (L0 : St → Option ρ) (L1 : St → Option ρ) (L2 : St → Option ρ) (L3 : St → Option ρ) (a0 : Nat → Int) (a1 : Nat → Int) (f2 : Nat → Int) (g3 : Nat → Int) (j4 : Int) (k6 : Int) (l8 : Int) (m10 : Int) (r12 : Nat → Int) (o16 : Nat → Int) :
    (spec_l04Pairs.k4g N L3 (spec_l04Pairs.k3g N L2 (spec_l04Pairs.k2g N L1 (spec_l04Pairs.k1g N L0 (spec_l04Pairs.k0 N K))))) (.exit 8) (spec_l04Pairs.sx4_0 a0 a1 f2 g3 j4 k6 l8 m10 r12 o16) = (spec_l04Pairs.a4_0 N (fun d0 => K (.agg [⟨.u8, 64, d0⟩]) []) (fun m10 g11 => L3 (spec_l04Pairs.st3 a0 a1 f2 g3 j4 k6 l8 m10 g11)) (fun o17 => (spec_l04Pairs.k3g N L2 (spec_l04Pairs.k2g N L1 (spec_l04Pairs.k1g N L0 (spec_l04Pairs.k0 N K)))) (.exit 6) (spec_l04Pairs.sx3_0 a0 a1 f2 g3 j4 k6 l8 o17)) m10 o16) := by
  have h := spec_l04Pairs.a4_0_gen N K L3 (spec_l04Pairs.k3g N L2 (spec_l04Pairs.k2g N L1 (spec_l04Pairs.k1g N L0 (spec_l04Pairs.k0 N K)))) a0 a1 f2 g3 j4 k6 l8 m10 r12 o16
  rw [spec_l04Pairs.k3_mix] at h
  exact h

theorem spec_l04Pairs.b3_gen {ρ : Type} (N : Nat) (K : AV → Heap → Option ρ) (L3 : St → Option ρ) (kv : XE → St → Option ρ) (a0 : Nat → Int) (a1 : Nat → Int) (f2 : Nat → Int) (g3 : Nat → Int) (j4 : Int) (k6 : Int) (l8 : Int) (m10 : Int) (g11 : Nat → Int) :
    xcode (E6 N) ents spec_l04Pairs.kp 0 N (cL (cK (cB (cK (cA (cB (cL (cK (cB (cK (cA (cB (cL (cK (cB (cK (cA (cB (cL (cK (cB (cA (cB (cB spec_l04Pairs.bd)))))))))))))))))))))))) 6 (spec_l04Pairs.st3 a0 a1 f2 g3 j4 k6 l8 m10 g11) (roundK spec_l04Pairs.kp 0 6 L3 (mixK (spec_l04Pairs.fin N K .ret) kv)) = (spec_l04Pairs.b3 N (fun d0 => K (.agg [⟨.u8, 64, d0⟩]) []) (fun r12 i13 g14 => xloop (xcode (E6 N) ents spec_l04Pairs.kp 0 N (cL (cK (cB (cB (cB (cB (cK (cA (cB (cL (cK (cB (cK (cA (cB (cL (cK (cB (cK (cA (cB (cL (cK (cB (cK (cA (cB (cL (cK (cB (cA (cB (cB spec_l04Pairs.bd))))))))))))))))))))))))))))))))) 8) spec_l04Pairs.kp 0 8 N (spec_l04Pairs.st4 a0 a1 f2 g3 j4 k6 l8 m10 r12 i13 g14) (spec_l04Pairs.k4g N L3 (mixK (spec_l04Pairs.fin N K .ret) kv))) (fun m10 g11 => L3 (spec_l04Pairs.st3 a0 a1 f2 g3 j4 k6 l8 m10 g11)) (fun o17 => kv (.exit 6) (spec_l04Pairs.sx3_0 a0 a1 f2 g3 j4 k6 l8 o17)) a0 a1 g3 j4 k6 l8 m10 g11) := by kernel_rfl

theorem spec_l04Pairs.b3_eq {ρ : Type} (N : Nat) (K : AV → Heap → Option ρ) (L0 : St → Option ρ) (L1 : St → Option ρ) (L2 : St → Option ρ) (L3 : St → Option ρ) (a0 : Nat → Int) (a1 : Nat → Int) (f2 : Nat → Int) (g3 : Nat → Int) (j4 : Int) (k6 : Int) (l8 : Int) (m10 : Int) (g11 : Nat → Int) :
    xcode (E6 N) ents spec_l04Pairs.kp 0 N (cL (cK (cB (cK (cA (cB (cL (cK (cB (cK (cA (cB (cL (cK (cB (cK (cA (cB (cL (cK (cB (cA (cB (cB spec_l04Pairs.bd)))))))))))))))))))))))) 6 (spec_l04Pairs.st3 a0 a1 f2 g3 j4 k6 l8 m10 g11) (roundK spec_l04Pairs.kp 0 6 L3 (spec_l04Pairs.k3g N L2 (spec_l04Pairs.k2g N L1 (spec_l04Pairs.k1g N L0 (spec_l04Pairs.k0 N K))))) = (spec_l04Pairs.b3 N (fun d0 => K (.agg [⟨.u8, 64, d0⟩]) []) (fun r12 i13 g14 => xloop (xcode (E6 N) ents spec_l04Pairs.kp 0 N (cL (cK (cB (cB (cB (cB (cK (cA (cB (cL (cK (cB (cK (cA (cB (cL (cK (cB (cK (cA (cB (cL (cK (cB (cK (cA (cB (cL (cK (cB (cA (cB (cB spec_l04Pairs.bd))))))))))))))))))))))))))))))))) 8) spec_l04Pairs.kp 0 8 N (spec_l04Pairs.st4 a0 a1 f2 g3 j4 k6 l8 m10 r12 i13 g14) (spec_l04Pairs.k4g N L3 (spec_l04Pairs.k3g N L2 (spec_l04Pairs.k2g N L1 (spec_l04Pairs.k1g N L0 (spec_l04Pairs.k0 N K)))))) (fun m10 g11 => L3 (spec_l04Pairs.st3 a0 a1 f2 g3 j4 k6 l8 m10 g11)) (fun o17 => (spec_l04Pairs.k3g N L2 (spec_l04Pairs.k2g N L1 (spec_l04Pairs.k1g N L0 (spec_l04Pairs.k0 N K)))) (.exit 6) (spec_l04Pairs.sx3_0 a0 a1 f2 g3 j4 k6 l8 o17)) a0 a1 g3 j4 k6 l8 m10 g11) := by
  have h := spec_l04Pairs.b3_gen N K L3 (spec_l04Pairs.k3g N L2 (spec_l04Pairs.k2g N L1 (spec_l04Pairs.k1g N L0 (spec_l04Pairs.k0 N K)))) a0 a1 f2 g3 j4 k6 l8 m10 g11
  rw [spec_l04Pairs.k3_mix] at h
  exact h

theorem spec_l04Pairs.a3_0_gen {ρ : Type} (N : Nat) (K : AV → Heap → Option ρ) (L2 : St → Option ρ) (kv : XE → St → Option ρ) (a0 : Nat → Int) (a1 : Nat → Int) (f2 : Nat → Int) (g3 : Nat → Int) (j4 : Int) (k6 : Int) (l8 : Int) (o17 : Nat → Int) :
    (spec_l04Pairs.k3g N L2 (mixK (spec_l04Pairs.fin N K .ret) kv)) (.exit 6) (spec_l04Pairs.sx3_0 a0 a1 f2 g3 j4 k6 l8 o17) = (spec_l04Pairs.a3_0 N (fun d0 => K (.agg [⟨.u8, 64, d0⟩]) []) (fun l8 g9 => L2 (spec_l04Pairs.st2 a0 a1 f2 g3 j4 k6 l8 g9)) (fun o18 => kv (.exit 4) (spec_l04Pairs.sx2_0 a0 a1 f2 g3 j4 k6 o18)) l8 o17) := by kernel_rfl

theorem spec_l04Pairs.a3_0_eq {ρ : Type} (N : Nat) (K : AV → Heap → Option ρ) (L0 : St → Option ρ) (L1 : St → Option ρ) (L2 : St → Option ρ) (a0 : Nat → Int) (a1 : Nat → Int) (f2 : Nat → Int) (g3 : Nat → Int) (j4 : Int) (k6 : Int) (l8 : Int) (o17 : Nat → Int) :
    (spec_l04Pairs.k3g N L2 (spec_l04Pairs.k2g N L1 (spec_l04Pairs.k1g N L0 (spec_l04Pairs.k0 N K)))) (.exit 6) (spec_l04Pairs.sx3_0 a0 a1 f2 g3 j4 k6 l8 o17) = (spec_l04Pairs.a3_0 N (fun d0 => K (.agg [⟨.u8, 64, d0⟩]) []) (fun l8 g9 => L2 (spec_l04Pairs.st2 a0 a1 f2 g3 j4 k6 l8 g9)) (fun o18 => (spec_l04Pairs.k2g N L1 (spec_l04Pairs.k1g N L0 (spec_l04Pairs.k0 N K))) (.exit 4) (spec_l04Pairs.sx2_0 a0 a1 f2 g3 j4 k6 o18)) l8 o17) := by
  have h := spec_l04Pairs.a3_0_gen N K L2 (spec_l04Pairs.k2g N L1 (spec_l04Pairs.k1g N L0 (spec_l04Pairs.k0 N K))) a0 a1 f2 g3 j4 k6 l8 o17
  rw [spec_l04Pairs.k2_mix] at h
  exact h

theorem spec_l04Pairs.b2_gen {ρ : Type} (N : Nat) (K : AV → Heap → Option ρ) (L2 : St → Option ρ) (kv : XE → St → Option ρ) (a0 : Nat → Int) (a1 : Nat → Int) (f2 : Nat → Int) (g3 : Nat → Int) (j4 : Int) (k6 : Int) (l8 : Int) (g9 : Nat → Int) :
    xcode (E6 N) ents spec_l04Pairs.kp 0 N (cL (cK (cB (cK (cA (cB (cL (cK (cB (cK (cA (cB (cL (cK (cB (cA (cB (cB spec_l04Pairs.bd)))))))))))))))))) 4 (spec_l04Pairs.st2 a0 a1 f2 g3 j4 k6 l8 g9) (roundK spec_l04Pairs.kp 0 4 L2 (mixK (spec_l04Pairs.fin N K .ret) kv)) = (spec_l04Pairs.b2 N (fun d0 => K (.agg [⟨.u8, 64, d0⟩]) []) (fun m10 g11 => xloop (xcode (E6 N) ents spec_l04Pairs.kp 0 N (cL (cK (cB (cK (cA (cB (cL (cK (cB (cK (cA (cB (cL (cK (cB (cK (cA (cB (cL (cK (cB (cA (cB (cB spec_l04Pairs.bd)))))))))))))))))))))))) 6) spec_l04Pairs.kp 0 6 N (spec_l04Pairs.st3 a0 a1 f2 g3 j4 k6 l8 m10 g11) (spec_l04Pairs.k3g N L2 (mixK (spec_l04Pairs.fin N K .ret) kv))) (fun l8 g9 => L2 (spec_l04Pairs.st2 a0 a1 f2 g3 j4 k6 l8 g9)) (fun o18 => kv (.exit 4) (spec_l04Pairs.sx2_0 a0 a1 f2 g3 j4 k6 o18)) a0 f2 j4 k6 l8 g9) := by kernel_rfl

theorem spec_l04Pairs.b2_eq {ρ : Type} (N : Nat) (K : AV → Heap → Option ρ) (L0 : St → Option ρ) (L1 : St → Option ρ) (L2 : St → Option ρ) (a0 : Nat → Int) (a1 : Nat → Int) (f2 : Nat → Int) (g3 : Nat → Int) (j4 : Int) (k6 : Int) (l8 : Int) (g9 : Nat → Int) :
    xcode (E6 N) ents spec_l04Pairs.kp 0 N (cL (cK (cB (cK (cA (cB (cL (cK (cB (cK (cA (cB (cL (cK (cB (cA (cB (cB spec_l04Pairs.bd)))))))))))))))))) 4 (spec_l04Pairs.st2 a0 a1 f2 g3 j4 k6 l8 g9) (roundK spec_l04Pairs.kp 0 4 L2 (spec_l04Pairs.k2g N L1 (spec_l04Pairs.k1g N L0 (spec_l04Pairs.k0 N K)))) = (spec_l04Pairs.b2 N (fun d0 => K (.agg [⟨.u8, 64, d0⟩]) []) (fun m10 g11 => xloop (xcode (E6 N) ents spec_l04Pairs.kp 0 N (cL (cK (cB (cK (cA (cB (cL (cK (cB (cK (cA (cB (cL (cK (cB (cK (cA (cB (cL (cK (cB (cA (cB (cB spec_l04Pairs.bd)))))))))))))))))))))))) 6) spec_l04Pairs.kp 0 6 N (spec_l04Pairs.st3 a0 a1 f2 g3 j4 k6 l8 m10 g11) (spec_l04Pairs.k3g N L2 (spec_l04Pairs.k2g N L1 (spec_l04Pairs.k1g N L0 (spec_l04Pairs.k0 N K))))) (fun l8 g9 => L2 (spec_l04Pairs.st2 a0 a1 f2 g3 j4 k6 l8 g9)) (fun o18 => (spec_l04Pairs.k2g N L1 (spec_l04Pairs.k1g N L0 (spec_l04Pairs.k0 N K))) (.exit 4) (spec_l04Pairs.sx2_0 a0 a1 f2 g3 j4 k6 o18)) a0 f2 j4 k6 l8 g9) := by
  have h := spec_l04Pairs.b2_gen N K L2 (spec_l04Pairs.k2g N L1 (spec_l04Pairs.k1g N L0 (spec_l04Pairs.k0 N K))) a0 a1 f2 g3 j4 k6 l8 g9
  rw [spec_l04Pairs.k2_mix] at h
  exact h

theorem spec_l04Pairs.a2_0_gen {ρ : Type} (N : Nat) (K : AV → Heap → Option ρ) (L1 : St → Option ρ) (kv : XE → St → Option ρ) (a0 : Nat → Int) (a1 : Nat → Int) (f2 : Nat → Int) (g3 : Nat → Int) (j4 : Int) (k6 : Int) (o18 : Nat → Int) :
    (spec_l04Pairs.k2g N L1 (mixK (spec_l04Pairs.fin N K .ret) kv)) (.exit 4) (spec_l04Pairs.sx2_0 a0 a1 f2 g3 j4 k6 o18) = (spec_l04Pairs.a2_0 N (fun d0 => K (.agg [⟨.u8, 64, d0⟩]) []) (fun k6 g7 => L1 (spec_l04Pairs.st1 a0 a1 f2 g3 j4 k6 g7)) (fun o19 => kv (.exit 2) (spec_l04Pairs.sx1_0 a0 a1 f2 g3 j4 o19)) k6 o18) := by kernel_rfl

theorem spec_l04Pairs.a2_0_eq {ρ : Type} (N : Nat) (K : AV → Heap → Option ρ) (L0 : St → Option ρ) (L1 : St → Option ρ) (a0 : Nat → Int) (a1 : Nat → Int) (f2 : Nat → Int) (g3 : Nat → Int) (j4 : Int) (k6 : Int) (o18 : Nat → Int) :
    (spec_l04Pairs.k2g N L1 (spec_l04Pairs.k1g N L0 (spec_l04Pairs.k0 N K))) (.exit 4) (spec_l04Pairs.sx2_0 a0 a1 f2 g3 j4 k6 o18) = (spec_l04Pairs.a2_0 N (fun d0 => K (.agg [⟨.u8, 64, d0⟩]) []) (fun k6 g7 => L1 (spec_l04Pairs.st1 a0 a1 f2 g3 j4 k6 g7)) (fun o19 => (spec_l04Pairs.k1g N L0 (spec_l04Pairs.k0 N K)) (.exit 2) (spec_l04Pairs.sx1_0 a0 a1 f2 g3 j4 o19)) k6 o18) := by
  have h := spec_l04Pairs.a2_0_gen N K L1 (spec_l04Pairs.k1g N L0 (spec_l04Pairs.k0 N K)) a0 a1 f2 g3 j4 k6 o18
  rw [spec_l04Pairs.k1_mix] at h
  exact h

theorem spec_l04Pairs.b1_gen {ρ : Type} (N : Nat) (K : AV → Heap → Option ρ) (L1 : St → Option ρ) (kv : XE → St → Option ρ) (a0 : Nat → Int) (a1 : Nat → Int) (f2 : Nat → Int) (g3 : Nat → Int) (j4 : Int) (k6 : Int) (g7 : Nat → Int) :
    xcode (E6 N) ents spec_l04Pairs.kp 0 N (cL (cK (cB (cK (cA (cB (cL (cK (cB (cA (cB (cB spec_l04Pairs.bd)))))))))))) 2 (spec_l04Pairs.st1 a0 a1 f2 g3 j4 k6 g7) (roundK spec_l04Pairs.kp 0 2 L1 (mixK (spec_l04Pairs.fin N K .ret) kv)) = (spec_l04Pairs.b1 N (fun d0 => K (.agg [⟨.u8, 64, d0⟩]) []) (fun l8 g9 => xloop (xcode (E6 N) ents spec_l04Pairs.kp 0 N (cL (cK (cB (cK (cA (cB (cL (cK (cB (cK (cA (cB (cL (cK (cB (cA (cB (cB spec_l04Pairs.bd)))))))))))))))))) 4) spec_l04Pairs.kp 0 4 N (spec_l04Pairs.st2 a0 a1 f2 g3 j4 k6 l8 g9) (spec_l04Pairs.k2g N L1 (mixK (spec_l04Pairs.fin N K .ret) kv))) (fun k6 g7 => L1 (spec_l04Pairs.st1 a0 a1 f2 g3 j4 k6 g7)) (fun o19 => kv (.exit 2) (spec_l04Pairs.sx1_0 a0 a1 f2 g3 j4 o19)) a0 k6 g7) := by kernel_rfl

theorem spec_l04Pairs.b1_eq {ρ : Type} (N : Nat) (K : AV → Heap → Option ρ) (L0 : St → Option ρ) (L1 : St → Option ρ) (a0 : Nat → Int) (a1 : Nat → Int) (f2 : Nat → Int) (g3 : Nat → Int) (j4 : Int) (k6 : Int) (g7 : Nat → Int) :
    xcode (E6 N) ents spec_l04Pairs.kp 0 N (cL (cK (cB (cK (cA (cB (cL (cK (cB (cA (cB (cB spec_l04Pairs.bd)))))))))))) 2 (spec_l04Pairs.st1 a0 a1 f2 g3 j4 k6 g7) (roundK spec_l04Pairs.kp 0 2 L1 (spec_l04Pairs.k1g N L0 (spec_l04Pairs.k0 N K))) = (spec_l04Pairs.b1 N (fun d0 => K (.agg [⟨.u8, 64, d0⟩]) []) (fun l8 g9 => xloop (xcode (E6 N) ents spec_l04Pairs.kp 0 N (cL (cK (cB (cK (cA (cB (cL (cK (cB (cK (cA (cB (cL (cK (cB (cA (cB (cB spec_l04Pairs.bd)))))))))))))))))) 4) spec_l04Pairs.kp 0 4 N (spec_l04Pairs.st2 a0 a1 f2 g3 j4 k6 l8 g9) (spec_l04Pairs.k2g N L1 (spec_l04Pairs.k1g N L0 (spec_l04Pairs.k0 N K)))) (fun k6 g7 => L1 (spec_l04Pairs.st1 a0 a1 f2 g3 j4 k6 g7)) (fun o19 => (spec_l04Pairs.k1g N L0 (spec_l04Pairs.k0 N K)) (.exit 2) (spec_l04Pairs.sx1_0 a0 a1 f2 g3 j4 o19)) a0 k6 g7) := by
  have h := spec_l04Pairs.b1_gen N K L1 (spec_l04Pairs.k1g N L0 (spec_l04Pairs.k0 N K)) a0 a1 f2 g3 j4 k6 g7
  rw [spec_l04Pairs.k1_mix] at h
  exact h

theorem spec_l04Pairs.a1_0_gen {ρ : Type} (N : Nat) (K : AV → Heap → Option ρ) (L0 : St → Option ρ) (kv : XE → St → Option ρ) (a0 : Nat → Int) (a1 : Nat → Int) (f2 : Nat → Int) (g3 : Nat → Int) (j4 : Int) (o19 : Nat → Int) :
    (spec_l04Pairs.k1g N L0 (mixK (spec_l04Pairs.fin N K .ret) kv)) (.exit 2) (spec_l04Pairs.sx1_0 a0 a1 f2 g3 j4 o19) = (spec_l04Pairs.a1_0 N (fun d0 => K (.agg [⟨.u8, 64, d0⟩]) []) (fun j4 g5 => L0 (spec_l04Pairs.st0 a0 a1 f2 g3 j4 g5)) (fun o20 => kv (.exit 0) (spec_l04Pairs.sx0_0 a0 a1 f2 g3 o20)) j4 o19) := by kernel_rfl

theorem spec_l04Pairs.a1_0_eq {ρ : Type} (N : Nat) (K : AV → Heap → Option ρ) (L0 : St → Option ρ) (a0 : Nat → Int) (a1 : Nat → Int) (f2 : Nat → Int) (g3 : Nat → Int) (j4 : Int) (o19 : Nat → Int) :
    (spec_l04Pairs.k1g N L0 (spec_l04Pairs.k0 N K)) (.exit 2) (spec_l04Pairs.sx1_0 a0 a1 f2 g3 j4 o19) = (spec_l04Pairs.a1_0 N (fun d0 => K (.agg [⟨.u8, 64, d0⟩]) []) (fun j4 g5 => L0 (spec_l04Pairs.st0 a0 a1 f2 g3 j4 g5)) (fun o20 => (spec_l04Pairs.k0 N K) (.exit 0) (spec_l04Pairs.sx0_0 a0 a1 f2 g3 o20)) j4 o19) := by
  have h := spec_l04Pairs.a1_0_gen N K L0 (spec_l04Pairs.k0 N K) a0 a1 f2 g3 j4 o19
  rw [spec_l04Pairs.k0_mix] at h
  exact h

theorem spec_l04Pairs.b0_gen {ρ : Type} (N : Nat) (K : AV → Heap → Option ρ) (L0 : St → Option ρ) (kv : XE → St → Option ρ) (a0 : Nat → Int) (a1 : Nat → Int) (f2 : Nat → Int) (g3 : Nat → Int) (j4 : Int) (g5 : Nat → Int) :
    xcode (E6 N) ents spec_l04Pairs.kp 0 N (cL (cK (cB (cA (cB (cB spec_l04Pairs.bd)))))) 0 (spec_l04Pairs.st0 a0 a1 f2 g3 j4 g5) (roundK spec_l04Pairs.kp 0 0 L0 (mixK (spec_l04Pairs.fin N K .ret) kv)) = (spec_l04Pairs.b0 N (fun d0 => K (.agg [⟨.u8, 64, d0⟩]) []) (fun k6 g7 => xloop (xcode (E6 N) ents spec_l04Pairs.kp 0 N (cL (cK (cB (cK (cA (cB (cL (cK (cB (cA (cB (cB spec_l04Pairs.bd)))))))))))) 2) spec_l04Pairs.kp 0 2 N (spec_l04Pairs.st1 a0 a1 f2 g3 j4 k6 g7) (spec_l04Pairs.k1g N L0 (mixK (spec_l04Pairs.fin N K .ret) kv))) (fun j4 g5 => L0 (spec_l04Pairs.st0 a0 a1 f2 g3 j4 g5)) (fun o20 => kv (.exit 0) (spec_l04Pairs.sx0_0 a0 a1 f2 g3 o20)) a0 j4 g5) := by kernel_rfl

theorem spec_l04Pairs.b0_eq {ρ : Type} (N : Nat) (K : AV → Heap → Option ρ) (L0 : St → Option ρ) (a0 : Nat → Int) (a1 : Nat → Int) (f2 : Nat → Int) (g3 : Nat → Int) (j4 : Int) (g5 : Nat → Int) :
    xcode (E6 N) ents spec_l04Pairs.kp 0 N (cL (cK (cB (cA (cB (cB spec_l04Pairs.bd)))))) 0 (spec_l04Pairs.st0 a0 a1 f2 g3 j4 g5) (roundK spec_l04Pairs.kp 0 0 L0 (spec_l04Pairs.k0 N K)) = (spec_l04Pairs.b0 N (fun d0 => K (.agg [⟨.u8, 64, d0⟩]) []) (fun k6 g7 => xloop (xcode (E6 N) ents spec_l04Pairs.kp 0 N (cL (cK (cB (cK (cA (cB (cL (cK (cB (cA (cB (cB spec_l04Pairs.bd)))))))))))) 2) spec_l04Pairs.kp 0 2 N (spec_l04Pairs.st1 a0 a1 f2 g3 j4 k6 g7) (spec_l04Pairs.k1g N L0 (spec_l04Pairs.k0 N K))) (fun j4 g5 => L0 (spec_l04Pairs.st0 a0 a1 f2 g3 j4 g5)) (fun o20 => (spec_l04Pairs.k0 N K) (.exit 0) (spec_l04Pairs.sx0_0 a0 a1 f2 g3 o20)) a0 j4 g5) := by
  have h := spec_l04Pairs.b0_gen N K L0 (spec_l04Pairs.k0 N K) a0 a1 f2 g3 j4 g5
  rw [spec_l04Pairs.k0_mix] at h
  exact h

theorem spec_l04Pairs.a0_0_eq {ρ : Type} (N : Nat) (K : AV → Heap → Option ρ) (a0 : Nat → Int) (a1 : Nat → Int) (f2 : Nat → Int) (g3 : Nat → Int) (o20 : Nat → Int) :
    (spec_l04Pairs.k0 N K) (.exit 0) (spec_l04Pairs.sx0_0 a0 a1 f2 g3 o20) = (spec_l04Pairs.a0_0 N (fun d0 => K (.agg [⟨.u8, 64, d0⟩]) []) o20) := by kernel_rfl

theorem spec_l04Pairs.l4_eq {ρ : Type} (N : Nat) (K : AV → Heap → Option ρ) (L0 : St → Option ρ) (L1 : St → Option ρ) (L2 : St → Option ρ) (L3 : St → Option ρ) (a0 : Nat → Int) (a1 : Nat → Int) (f2 : Nat → Int) (g3 : Nat → Int) (j4 : Int) (k6 : Int) (l8 : Int) (m10 : Int) (r12 : Nat → Int) :
    ∀ (m : Nat) (i13 : Int) (g14 : Nat → Int), xloop (xcode (E6 N) ents spec_l04Pairs.kp 0 N (cL (cK (cB (cB (cB (cB (cK (cA (cB (cL (cK (cB (cK (cA (cB (cL (cK (cB (cK (cA (cB (cL (cK (cB (cK (cA (cB (cL (cK (cB (cA (cB (cB spec_l04Pairs.bd))))))))))))))))))))))))))))))))) 8) spec_l04Pairs.kp 0 8 m (spec_l04Pairs.st4 a0 a1 f2 g3 j4 k6 l8 m10 r12 i13 g14) (spec_l04Pairs.k4g N L3 (spec_l04Pairs.k3g N L2 (spec_l04Pairs.k2g N L1 (spec_l04Pairs.k1g N L0 (spec_l04Pairs.k0 N K))))) = (spec_l04Pairs.l4 N (fun d0 => K (.agg [⟨.u8, 64, d0⟩]) []) a0 f2 g3 j4 k6 l8 m10 r12 (fun o16 => (spec_l04Pairs.k4g N L3 (spec_l04Pairs.k3g N L2 (spec_l04Pairs.k2g N L1 (spec_l04Pairs.k1g N L0 (spec_l04Pairs.k0 N K))))) (.exit 8) (spec_l04Pairs.sx4_0 a0 a1 f2 g3 j4 k6 l8 m10 r12 o16)) m i13 g14) := by
  intro m
  induction m with
  | zero => intros; rfl
  | succ m ih =>
    intro i13 g14
    refine (spec_l04Pairs.b4_eq N K L0 L1 L2 L3 (fun s => xloop (xcode (E6 N) ents spec_l04Pairs.kp 0 N (cL (cK (cB (cB (cB (cB (cK (cA (cB (cL (cK (cB (cK (cA (cB (cL (cK (cB (cK (cA (cB (cL (cK (cB (cK (cA (cB (cL (cK (cB (cA (cB (cB spec_l04Pairs.bd))))))))))))))))))))))))))))))))) 8) spec_l04Pairs.kp 0 8 m s (spec_l04Pairs.k4g N L3 (spec_l04Pairs.k3g N L2 (spec_l04Pairs.k2g N L1 (spec_l04Pairs.k1g N L0 (spec_l04Pairs.k0 N K)))))) a0 a1 f2 g3 j4 k6 l8 m10 r12 i13 g14).trans ?_
    simp only [ih]
    kernel_rfl

theorem spec_l04Pairs.l3_eq {ρ : Type} (N : Nat) (K : AV → Heap → Option ρ) (L0 : St → Option ρ) (L1 : St → Option ρ) (L2 : St → Option ρ) (a0 : Nat → Int) (a1 : Nat → Int) (f2 : Nat → Int) (g3 : Nat → Int) (j4 : Int) (k6 : Int) (l8 : Int) :
    ∀ (m : Nat) (m10 : Int) (g11 : Nat → Int), xloop (xcode (E6 N) ents spec_l04Pairs.kp 0 N (cL (cK (cB (cK (cA (cB (cL (cK (cB (cK (cA (cB (cL (cK (cB (cK (cA (cB (cL (cK (cB (cA (cB (cB spec_l04Pairs.bd)))))))))))))))))))))))) 6) spec_l04Pairs.kp 0 6 m (spec_l04Pairs.st3 a0 a1 f2 g3 j4 k6 l8 m10 g11) (spec_l04Pairs.k3g N L2 (spec_l04Pairs.k2g N L1 (spec_l04Pairs.k1g N L0 (spec_l04Pairs.k0 N K)))) = (spec_l04Pairs.l3 N (fun d0 => K (.agg [⟨.u8, 64, d0⟩]) []) a0 a1 f2 g3 j4 k6 l8 (fun o17 => (spec_l04Pairs.k3g N L2 (spec_l04Pairs.k2g N L1 (spec_l04Pairs.k1g N L0 (spec_l04Pairs.k0 N K)))) (.exit 6) (spec_l04Pairs.sx3_0 a0 a1 f2 g3 j4 k6 l8 o17)) m m10 g11) := by
  intro m
  induction m with
  | zero => intros; rfl
  | succ m ih =>
    intro m10 g11
    refine (spec_l04Pairs.b3_eq N K L0 L1 L2 (fun s => xloop (xcode (E6 N) ents spec_l04Pairs.kp 0 N (cL (cK (cB (cK (cA (cB (cL (cK (cB (cK (cA (cB (cL (cK (cB (cK (cA (cB (cL (cK (cB (cA (cB (cB spec_l04Pairs.bd)))))))))))))))))))))))) 6) spec_l04Pairs.kp 0 6 m s (spec_l04Pairs.k3g N L2 (spec_l04Pairs.k2g N L1 (spec_l04Pairs.k1g N L0 (spec_l04Pairs.k0 N K))))) a0 a1 f2 g3 j4 k6 l8 m10 g11).trans ?_
    simp only [ih, spec_l04Pairs.l4_eq, spec_l04Pairs.a4_0_eq]
    kernel_rfl

theorem spec_l04Pairs.l2_eq {ρ : Type} (N : Nat) (K : AV → Heap → Option ρ) (L0 : St → Option ρ) (L1 : St → Option ρ) (a0 : Nat → Int) (a1 : Nat → Int) (f2 : Nat → Int) (g3 : Nat → Int) (j4 : Int) (k6 : Int) :
    ∀ (m : Nat) (l8 : Int) (g9 : Nat → Int), xloop (xcode (E6 N) ents spec_l04Pairs.kp 0 N (cL (cK (cB (cK (cA (cB (cL (cK (cB (cK (cA (cB (cL (cK (cB (cA (cB (cB spec_l04Pairs.bd)))))))))))))))))) 4) spec_l04Pairs.kp 0 4 m (spec_l04Pairs.st2 a0 a1 f2 g3 j4 k6 l8 g9) (spec_l04Pairs.k2g N L1 (spec_l04Pairs.k1g N L0 (spec_l04Pairs.k0 N K))) = (spec_l04Pairs.l2 N (fun d0 => K (.agg [⟨.u8, 64, d0⟩]) []) a0 a1 f2 g3 j4 k6 (fun o18 => (spec_l04Pairs.k2g N L1 (spec_l04Pairs.k1g N L0 (spec_l04Pairs.k0 N K))) (.exit 4) (spec_l04Pairs.sx2_0 a0 a1 f2 g3 j4 k6 o18)) m l8 g9) := by
  intro m
  induction m with
  | zero => intros; rfl
  | succ m ih =>
    intro l8 g9
    refine (spec_l04Pairs.b2_eq N K L0 L1 (fun s => xloop (xcode (E6 N) ents spec_l04Pairs.kp 0 N (cL (cK (cB (cK (cA (cB (cL (cK (cB (cK (cA (cB (cL (cK (cB (cA (cB (cB spec_l04Pairs.bd)))))))))))))))))) 4) spec_l04Pairs.kp 0 4 m s (spec_l04Pairs.k2g N L1 (spec_l04Pairs.k1g N L0 (spec_l04Pairs.k0 N K)))) a0 a1 f2 g3 j4 k6 l8 g9).trans ?_
    simp only [ih, spec_l04Pairs.l3_eq, spec_l04Pairs.a3_0_eq]
    kernel_rfl

theorem spec_l04Pairs.l1_eq {ρ : Type} (N : Nat) (K : AV → Heap → Option ρ) (L0 : St → Option ρ) (a0 : Nat → Int) (a1 : Nat → Int) (f2 : Nat → Int) (g3 : Nat → Int) (j4 : Int) :
    ∀ (m : Nat) (k6 : Int) (g7 : Nat → Int), xloop (xcode (E6 N) ents spec_l04Pairs.kp 0 N (cL (cK (cB (cK (cA (cB (cL (cK (cB (cA (cB (cB spec_l04Pairs.bd)))))))))))) 2) spec_l04Pairs.kp 0 2 m (spec_l04Pairs.st1 a0 a1 f2 g3 j4 k6 g7) (spec_l04Pairs.k1g N L0 (spec_l04Pairs.k0 N K)) = (spec_l04Pairs.l1 N (fun d0 => K (.agg [⟨.u8, 64, d0⟩]) []) a0 a1 f2 g3 j4 (fun o19 => (spec_l04Pairs.k1g N L0 (spec_l04Pairs.k0 N K)) (.exit 2) (spec_l04Pairs.sx1_0 a0 a1 f2 g3 j4 o19)) m k6 g7) := by
  intro m
  induction m with
  | zero => intros; rfl
  | succ m ih =>
    intro k6 g7
    refine (spec_l04Pairs.b1_eq N K L0 (fun s => xloop (xcode (E6 N) ents spec_l04Pairs.kp 0 N (cL (cK (cB (cK (cA (cB (cL (cK (cB (cA (cB (cB spec_l04Pairs.bd)))))))))))) 2) spec_l04Pairs.kp 0 2 m s (spec_l04Pairs.k1g N L0 (spec_l04Pairs.k0 N K))) a0 a1 f2 g3 j4 k6 g7).trans ?_
    simp only [ih, spec_l04Pairs.l2_eq, spec_l04Pairs.a2_0_eq]
    kernel_rfl

theorem spec_l04Pairs.l0_eq {ρ : Type} (N : Nat) (K : AV → Heap → Option ρ) (a0 : Nat → Int) (a1 : Nat → Int) (f2 : Nat → Int) (g3 : Nat → Int) :
    ∀ (m : Nat) (j4 : Int) (g5 : Nat → Int), xloop (xcode (E6 N) ents spec_l04Pairs.kp 0 N (cL (cK (cB (cA (cB (cB spec_l04Pairs.bd)))))) 0) spec_l04Pairs.kp 0 0 m (spec_l04Pairs.st0 a0 a1 f2 g3 j4 g5) (spec_l04Pairs.k0 N K) = (spec_l04Pairs.l0 N (fun d0 => K (.agg [⟨.u8, 64, d0⟩]) []) a0 a1 f2 g3 (fun o20 => (spec_l04Pairs.k0 N K) (.exit 0) (spec_l04Pairs.sx0_0 a0 a1 f2 g3 o20)) m j4 g5) := by
  intro m
  induction m with
  | zero => intros; rfl
  | succ m ih =>
    intro j4 g5
    refine (spec_l04Pairs.b0_eq N K (fun s => xloop (xcode (E6 N) ents spec_l04Pairs.kp 0 N (cL (cK (cB (cA (cB (cB spec_l04Pairs.bd)))))) 0) spec_l04Pairs.kp 0 0 m s (spec_l04Pairs.k0 N K)) a0 a1 f2 g3 j4 g5).trans ?_
    simp only [ih, spec_l04Pairs.l1_eq, spec_l04Pairs.a1_0_eq]
    kernel_rfl

theorem spec_l04Pairs.s_eq {ρ : Type} (N : Nat) (K : AV → Heap → Option ρ) (a0 : Nat → Int) (a1 : Nat → Int) (f2 : Nat → Int) (g3 : Nat → Int) :
    xbody (E6 N) ents spec_l04Pairs.kp N Go.Proofs.Try.f16 spec_l04Pairs.bd [.agg [⟨.i64, 2, a0⟩, ⟨.u8, 520, a1⟩], .agg [⟨.u8, 64, f2⟩], .agg [⟨.u8, 64, g3⟩]] [] K = (spec_l04Pairs.s N (fun d0 => K (.agg [⟨.u8, 64, d0⟩]) []) (fun j4 g5 => xloop (xcode (E6 N) ents spec_l04Pairs.kp 0 N (cL (cK (cB (cA (cB (cB spec_l04Pairs.bd)))))) 0) spec_l04Pairs.kp 0 0 N (spec_l04Pairs.st0 a0 a1 f2 g3 j4 g5) (spec_l04Pairs.k0 N K))) := by kernel_rfl

theorem spec_l04Pairs.eq {ρ : Type} (N : Nat) (K : AV → Heap → Option ρ) (a0 : Nat → Int) (a1 : Nat → Int) (f2 : Nat → Int) (g3 : Nat → Int) :
    xbody (E6 N) ents spec_l04Pairs.kp N Go.Proofs.Try.f16 spec_l04Pairs.bd [.agg [⟨.i64, 2, a0⟩, ⟨.u8, 520, a1⟩], .agg [⟨.u8, 64, f2⟩], .agg [⟨.u8, 64, g3⟩]] [] K = (spec_l04Pairs N (fun d0 => K (.agg [⟨.u8, 64, d0⟩]) []) a0 a1 f2 g3) := by
  refine (spec_l04Pairs.s_eq N K a0 a1 f2 g3).trans ?_
  simp only [spec_l04Pairs.l0_eq, spec_l04Pairs.a0_0_eq]
  kernel_rfl

noncomputable def spec_l04Pairs.en (N : Nat) (ρ : Type) : List AV → Heap → (AV → Heap → Option ρ) → Option ρ
  | [.agg [⟨.i64, 2, a0⟩, ⟨.u8, 520, a1⟩], .agg [⟨.u8, 64, f2⟩], .agg [⟨.u8, 64, g3⟩]], [], K => (spec_l04Pairs N (fun d0 => K (.agg [⟨.u8, 64, d0⟩]) []) a0 a1 f2 g3)
  | _, _, _ => none

theorem spec_l04Pairs.en_ok (N : Nat) (hE : EnvOk (E6 N) ents) (ρ : Type) (args : List AV) (sh : Heap) (K : AV → Heap → Option ρ) (r : ρ) (h : spec_l04Pairs.en N ρ args sh K = some r) : ∃ v sh', K v sh' = some r ∧ FnOk (E6 N).P 16 args sh v sh' := by
  unfold spec_l04Pairs.en at h
  split at h
  · exact fn_ok hE (kp := spec_l04Pairs.kp) (N := N) Go.Proofs.Try.func16 (c := spec_l04Pairs.bd) (by kernel_rfl) ((spec_l04Pairs.eq N _ _ _ _ _).trans h)
  · cases h

noncomputable def E7 (N : Nat) : Env := (E6 N).add 16 (spec_l04Pairs.en N)

theorem E7_ok (N : Nat) : EnvOk (E7 N) ents := Env.add_ok (E6_ok N) (spec_l04Pairs.en_ok N (E6_ok N))

noncomputable def spec_l01Apply.kp : Keeps := ⟨[(0, [0, 1, 6, 7, 8, 9, 10], 4)], [(0, [8, 9], 4)]⟩

noncomputable def spec_l01Apply.bd : Code := bodyOf Go.Proofs.Try.f28

noncomputable def spec_l01Apply.fin {ρ : Type} (N : Nat) (K : AV → Heap → Option ρ) : XE → St → Option ρ := finK (E7 N) Go.Proofs.Try.f28 [] K

noncomputable def spec_l01Apply.k0 {ρ : Type} (N : Nat) (K : AV → Heap → Option ρ) : XE → St → Option ρ := (blockK spec_l01Apply.kp 0 0 (seqK (xcode (E7 N) ents spec_l01Apply.kp 0 N (cB (cB (cB spec_l01Apply.bd))) 0) (spec_l01Apply.fin N K)))

theorem spec_l01Apply.k0_mix {ρ : Type} (N : Nat) (K : AV → Heap → Option ρ) : mixK (spec_l01Apply.fin N K .ret) (spec_l01Apply.k0 N K) = (spec_l01Apply.k0 N K) := by
  funext e s; cases e <;> rfl

noncomputable def spec_l01Apply.st0 (p0 : Int) (n1 : Int) (f2 : Nat → Int) (v3 : Nat → Int) (i4 : Int) (g5 : Nat → Int) : St := ⟨sl 32 [(0, .int .i64 (p0)), (1, .int .i64 (n1)), (6, .sptr [(0, 64)]), (7, .sptr [(1, 8)]), (8, .sptr [(2, 8)]), (9, .sptr [(3, 8)]), (10, .int .i64 (i4))], [⟨true, .ints .u8 64 f2⟩, ⟨true, .ints .u8 8 v3⟩, ⟨true, .ints .u8 8 (fun _ => 0)⟩, ⟨true, .ints .u8 8 g5⟩]⟩

noncomputable def spec_l01Apply.sx0_0 (f2 : Nat → Int) (v3 : Nat → Int) (o7 : Nat → Int) : St := ⟨sl 32 [(8, .sptr [(2, 8)]), (9, .sptr [(3, 8)])], [⟨true, .ints .u8 64 f2⟩, ⟨true, .ints .u8 8 v3⟩, ⟨true, .ints .u8 8 (fun _ => 0)⟩, ⟨true, .ints .u8 8 o7⟩]⟩

theorem spec_l01Apply.b0_gen {ρ : Type} (N : Nat) (K : AV → Heap → Option ρ) (L0 : St → Option ρ) (kv : XE → St → Option ρ) (p0 : Int) (n1 : Int) (f2 : Nat → Int) (v3 : Nat → Int) (i4 : Int) (g5 : Nat → Int) :
    xcode (E7 N) ents spec_l01Apply.kp 0 N (cL (cK (cB (cA (cB (cB spec_l01Apply.bd)))))) 0 (spec_l01Apply.st0 p0 n1 f2 v3 i4 g5) (roundK spec_l01Apply.kp 0 0 L0 (mixK (spec_l01Apply.fin N K .ret) kv)) = (spec_l01Apply.b0 N (fun d0 => K (.agg [⟨.u8, 8, d0⟩]) []) (fun i4 g5 => L0 (spec_l01Apply.st0 p0 n1 f2 v3 i4 g5)) (fun o7 => kv (.exit 0) (spec_l01Apply.sx0_0 f2 v3 o7)) p0 n1 f2 v3 i4 g5) := by kernel_rfl

theorem spec_l01Apply.b0_eq {ρ : Type} (N : Nat) (K : AV → Heap → Option ρ) (L0 : St → Option ρ) (p0 : Int) (n1 : Int) (f2 : Nat → Int) (v3 : Nat → Int) (i4 : Int) (g5 : Nat → Int) :
    xcode (E7 N) ents spec_l01Apply.kp 0 N (cL (cK (cB (cA (cB (cB spec_l01Apply.bd)))))) 0 (spec_l01Apply.st0 p0 n1 f2 v3 i4 g5) (roundK spec_l01Apply.kp 0 0 L0 (spec_l01Apply.k0 N K)) = (spec_l01Apply.b0 N (fun d0 => K (.agg [⟨.u8, 8, d0⟩]) []) (fun i4 g5 => L0 (spec_l01Apply.st0 p0 n1 f2 v3 i4 g5)) (fun o7 => (spec_l01Apply.k0 N K) (.exit 0) (spec_l01Apply.sx0_0 f2 v3 o7)) p0 n1 f2 v3 i4 g5) := by
  have h := spec_l01Apply.b0_gen N K L0 (spec_l01Apply.k0 N K) p0 n1 f2 v3 i4 g5
  rw [spec_l01Apply.k0_mix] at h
  exact h

theorem spec_l01Apply.a0_0_eq {ρ : Type} (N : Nat) (K : AV → Heap → Option ρ) (f2 : Nat → Int) (v3 : Nat → Int) (o7 : Nat → Int) :
    (spec_l01Apply.k0 N K) (.exit 0) (spec_l01Apply.sx0_0 f2 v3 o7) = (spec_l01Apply.a0_0 N (fun d0 => K (.agg [⟨.u8, 8, d0⟩]) []) o7) := by kernel_rfl

theorem spec_l01Apply.l0_eq {ρ : Type} (N : Nat) (K : AV → Heap → Option ρ) (p0 : Int) (n1 : Int) (f2 : Nat → Int) (v3 : Nat → Int) :
    ∀ (m : Nat) (i4 : Int) (g5 : Nat → Int), xloop (xcode (E7 N) ents spec_l01Apply.kp 0 N (cL (cK (cB (cA (cB (cB spec_l01Apply.bd)))))) 0) spec_l01Apply.kp 0 0 m (spec_l01Apply.st0 p0 n1 f2 v3 i4 g5) (spec_l01Apply.k0 N K) = (spec_l01Apply.l0 N (fun d0 => K (.agg [⟨.u8, 8, d0⟩]) []) p0 n1 f2 v3 (fun o7 => (spec_l01Apply.k0 N K) (.exit 0) (spec_l01Apply.sx0_0 f2 v3 o7)) m i4 g5) := by
  intro m
  induction m with
  | zero => intros; rfl
  | succ m ih =>
    intro i4 g5
    refine (spec_l01Apply.b0_eq N K (fun s => xloop (xcode (E7 N) ents spec_l01Apply.kp 0 N (cL (cK (cB (cA (cB (cB spec_l01Apply.bd)))))) 0) spec_l01Apply.kp 0 0 m s (spec_l01Apply.k0 N K)) p0 n1 f2 v3 i4 g5).trans ?_
    simp only [ih]
    kernel_rfl

theorem spec_l01Apply.s_eq {ρ : Type} (N : Nat) (K : AV → Heap → Option ρ) (p0 : Int) (n1 : Int) (f2 : Nat → Int) (v3 : Nat → Int) :
    xbody (E7 N) ents spec_l01Apply.kp N Go.Proofs.Try.f28 spec_l01Apply.bd [.int .i64 (p0), .int .i64 (n1), .agg [⟨.u8, 64, f2⟩], .agg [⟨.u8, 8, v3⟩]] [] K = (spec_l01Apply.s N (fun d0 => K (.agg [⟨.u8, 8, d0⟩]) []) (fun i4 g5 => xloop (xcode (E7 N) ents spec_l01Apply.kp 0 N (cL (cK (cB (cA (cB (cB spec_l01Apply.bd)))))) 0) spec_l01Apply.kp 0 0 N (spec_l01Apply.st0 p0 n1 f2 v3 i4 g5) (spec_l01Apply.k0 N K))) := by kernel_rfl

theorem spec_l01Apply.eq {ρ : Type} (N : Nat) (K : AV → Heap → Option ρ) (p0 : Int) (n1 : Int) (f2 : Nat → Int) (v3 : Nat → Int) :
    xbody (E7 N) ents spec_l01Apply.kp N Go.Proofs.Try.f28 spec_l01Apply.bd [.int .i64 (p0), .int .i64 (n1), .agg [⟨.u8, 64, f2⟩], .agg [⟨.u8, 8, v3⟩]] [] K = (spec_l01Apply N (fun d0 => K (.agg [⟨.u8, 8, d0⟩]) []) p0 n1 f2 v3) := by
  refine (spec_l01Apply.s_eq N K p0 n1 f2 v3).trans ?_
  simp only [spec_l01Apply.l0_eq, spec_l01Apply.a0_0_eq]
  kernel_rfl

noncomputable def spec_l01Apply.en (N : Nat) (ρ : Type) : List AV → Heap → (AV → Heap → Option ρ) → Option ρ
  | [.int .i64 (p0), .int .i64 (n1), .agg [⟨.u8, 64, f2⟩], .agg [⟨.u8, 8, v3⟩]], [], K => (spec_l01Apply N (fun d0 => K (.agg [⟨.u8, 8, d0⟩]) []) p0 n1 f2 v3)
  | _, _, _ => none

theorem spec_l01Apply.en_ok (N : Nat) (hE : EnvOk (E7 N) ents) (ρ : Type) (args : List AV) (sh : Heap) (K : AV → Heap → Option ρ) (r : ρ) (h : spec_l01Apply.en N ρ args sh K = some r) : ∃ v sh', K v sh' = some r ∧ FnOk (E7 N).P 28 args sh v sh' := by
  unfold spec_l01Apply.en at h
  split at h
  · exact fn_ok hE (kp := spec_l01Apply.kp) (N := N) Go.Proofs.Try.func28 (c := spec_l01Apply.bd) (by kernel_rfl) ((spec_l01Apply.eq N _ _ _ _ _).trans h)
  · cases h

noncomputable def E8 (N : Nat) : Env := (E7 N).add 28 (spec_l01Apply.en N)

theorem E8_ok (N : Nat) : EnvOk (E8 N) ents := Env.add_ok (E7_ok N) (spec_l01Apply.en_ok N (E7_ok N))

noncomputable def spec_l01Times.kp : Keeps := ⟨[(0, [3, 4, 5, 6, 7, 8], 6)], [(0, [6, 7], 6)]⟩

noncomputable def spec_l01Times.bd : Code := bodyOf Go.Proofs.Try.f17

noncomputable def spec_l01Times.fin {ρ : Type} (N : Nat) (K : AV → Heap → Option ρ) : XE → St → Option ρ := finK (E8 N) Go.Proofs.Try.f17 [] K

noncomputable def spec_l01Times.k0 {ρ : Type} (N : Nat) (K : AV → Heap → Option ρ) : XE → St → Option ρ := (blockK spec_l01Times.kp 0 0 (seqK (xcode (E8 N) ents spec_l01Times.kp 0 N (cB (cB (cB spec_l01Times.bd))) 0) (spec_l01Times.fin N K)))

theorem spec_l01Times.k0_mix {ρ : Type} (N : Nat) (K : AV → Heap → Option ρ) : mixK (spec_l01Times.fin N K .ret) (spec_l01Times.k0 N K) = (spec_l01Times.k0 N K) := by
  funext e s; cases e <;> rfl

noncomputable def spec_l01Times.st0 (a0 : Nat → Int) (a1 : Nat → Int) (v2 : Nat → Int) (w3 : Nat → Int) (i4 : Int) (g5 : Nat → Int) : St := ⟨sl 39 [(3, .sptr [(0, 2), (1, 520)]), (4, .sptr [(2, 8)]), (5, .sptr [(3, 8)]), (6, .sptr [(4, 8)]), (7, .sptr [(5, 8)]), (8, .int .i64 (i4))], [⟨true, .ints .i64 2 a0⟩, ⟨true, .ints .u8 520 a1⟩, ⟨true, .ints .u8 8 v2⟩, ⟨true, .ints .u8 8 w3⟩, ⟨true, .ints .u8 8 (fun _ => 0)⟩, ⟨true, .ints .u8 8 g5⟩]⟩

noncomputable def spec_l01Times.sx0_0 (a0 : Nat → Int) (a1 : Nat → Int) (v2 : Nat → Int) (w3 : Nat → Int) (o8 : Nat → Int) : St := ⟨sl 39 [(6, .sptr [(4, 8)]), (7, .sptr [(5, 8)])], [⟨true, .ints .i64 2 a0⟩, ⟨true, .ints .u8 520 a1⟩, ⟨true, .ints .u8 8 v2⟩, ⟨true, .ints .u8 8 w3⟩, ⟨true, .ints .u8 8 (fun _ => 0)⟩, ⟨true, .ints .u8 8 o8⟩]⟩

theorem spec_l01Times.b0_gen {ρ : Type} (N : Nat) (K : AV → Heap → Option ρ) (L0 : St → Option ρ) (kv : XE → St → Option ρ) (a0 : Nat → Int) (a1 : Nat → Int) (v2 : Nat → Int) (w3 : Nat → Int) (i4 : Int) (g5 : Nat → Int) :
    xcode (E8 N) ents spec_l01Times.kp 0 N (cL (cK (cB (cA (cB (cB spec_l01Times.bd)))))) 0 (spec_l01Times.st0 a0 a1 v2 w3 i4 g5) (roundK spec_l01Times.kp 0 0 L0 (mixK (spec_l01Times.fin N K .ret) kv)) = (spec_l01Times.b0 N (fun d0 => K (.agg [⟨.u8, 8, d0⟩]) []) (fun i4 g5 => L0 (spec_l01Times.st0 a0 a1 v2 w3 i4 g5)) (fun o8 => kv (.exit 0) (spec_l01Times.sx0_0 a0 a1 v2 w3 o8)) a0 a1 v2 w3 i4 g5) := by kernel_rfl

theorem spec_l01Times.b0_eq {ρ : Type} (N : Nat) (K : AV → Heap → Option ρ) (L0 : St → Option ρ) (a0 : Nat → Int) (a1 : Nat → Int) (v2 : Nat → Int) (w3 : Nat → Int) (i4 : Int) (g5 : Nat → Int) :
    xcode (E8 N) ents spec_l01Times.kp 0 N (cL (cK (cB (cA (cB (cB spec_l01Times.bd)))))) 0 (spec_l01Times.st0 a0 a1 v2 w3 i4 g5) (roundK spec_l01Times.kp 0 0 L0 (spec_l01Times.k0 N K)) = (spec_l01Times.b0 N (fun d0 => K (.agg [⟨.u8, 8, d0⟩]) []) (fun i4 g5 => L0 (spec_l01Times.st0 a0 a1 v2 w3 i4 g5)) (fun o8 => (spec_l01Times.k0 N K) (.exit 0) (spec_l01Times.sx0_0 a0 a1 v2 w3 o8)) a0 a1 v2 w3 i4 g5) := by
  have h := spec_l01Times.b0_gen N K L0 (spec_l01Times.k0 N K) a0 a1 v2 w3 i4 g5
  rw [spec_l01Times.k0_mix] at h
  exact h

theorem spec_l01Times.a0_0_eq {ρ : Type} (N : Nat) (K : AV → Heap → Option ρ) (a0 : Nat → Int) (a1 : Nat → Int) (v2 : Nat → Int) (w3 : Nat → Int) (o8 : Nat → Int) :
    (spec_l01Times.k0 N K) (.exit 0) (spec_l01Times.sx0_0 a0 a1 v2 w3 o8) = (spec_l01Times.a0_0 N (fun d0 => K (.agg [⟨.u8, 8, d0⟩]) []) o8) := by kernel_rfl

theorem spec_l01Times.l0_eq {ρ : Type} (N : Nat) (K : AV → Heap → Option ρ) (a0 : Nat → Int) (a1 : Nat → Int) (v2 : Nat → Int) (w3 : Nat → Int) :
    ∀ (m : Nat) (i4 : Int) (g5 : Nat → Int), xloop (xcode (E8 N) ents spec_l01Times.kp 0 N (cL (cK (cB (cA (cB (cB spec_l01Times.bd)))))) 0) spec_l01Times.kp 0 0 m (spec_l01Times.st0 a0 a1 v2 w3 i4 g5) (spec_l01Times.k0 N K) = (spec_l01Times.l0 N (fun d0 => K (.agg [⟨.u8, 8, d0⟩]) []) a0 a1 v2 w3 (fun o8 => (spec_l01Times.k0 N K) (.exit 0) (spec_l01Times.sx0_0 a0 a1 v2 w3 o8)) m i4 g5) := by
  intro m
  induction m with
  | zero => intros; rfl
  | succ m ih =>
    intro i4 g5
    refine (spec_l01Times.b0_eq N K (fun s => xloop (xcode (E8 N) ents spec_l01Times.kp 0 N (cL (cK (cB (cA (cB (cB spec_l01Times.bd)))))) 0) spec_l01Times.kp 0 0 m s (spec_l01Times.k0 N K)) a0 a1 v2 w3 i4 g5).trans ?_
    simp only [ih]
    kernel_rfl

theorem spec_l01Times.s_eq {ρ : Type} (N : Nat) (K : AV → Heap → Option ρ) (a0 : Nat → Int) (a1 : Nat → Int) (v2 : Nat → Int) (w3 : Nat → Int) :
    xbody (E8 N) ents spec_l01Times.kp N Go.Proofs.Try.f17 spec_l01Times.bd [.agg [⟨.i64, 2, a0⟩, ⟨.u8, 520, a1⟩], .agg [⟨.u8, 8, v2⟩], .agg [⟨.u8, 8, w3⟩]] [] K = (spec_l01Times.s N (fun d0 => K (.agg [⟨.u8, 8, d0⟩]) []) (fun i4 g5 => xloop (xcode (E8 N) ents spec_l01Times.kp 0 N (cL (cK (cB (cA (cB (cB spec_l01Times.bd)))))) 0) spec_l01Times.kp 0 0 N (spec_l01Times.st0 a0 a1 v2 w3 i4 g5) (spec_l01Times.k0 N K))) := by kernel_rfl

theorem spec_l01Times.eq {ρ : Type} (N : Nat) (K : AV → Heap → Option ρ) (a0 : Nat → Int) (a1 : Nat → Int) (v2 : Nat → Int) (w3 : Nat → Int) :
    xbody (E8 N) ents spec_l01Times.kp N Go.Proofs.Try.f17 spec_l01Times.bd [.agg [⟨.i64, 2, a0⟩, ⟨.u8, 520, a1⟩], .agg [⟨.u8, 8, v2⟩], .agg [⟨.u8, 8, w3⟩]] [] K = (spec_l01Times N (fun d0 => K (.agg [⟨.u8, 8, d0⟩]) []) a0 a1 v2 w3) := by
  refine (spec_l01Times.s_eq N K a0 a1 v2 w3).trans ?_
  simp only [spec_l01Times.l0_eq, spec_l01Times.a0_0_eq]
  kernel_rfl

noncomputable def spec_l01Times.en (N : Nat) (ρ : Type) : List AV → Heap → (AV → Heap → Option ρ) → Option ρ
  | [.agg [⟨.i64, 2, a0⟩, ⟨.u8, 520, a1⟩], .agg [⟨.u8, 8, v2⟩], .agg [⟨.u8, 8, w3⟩]], [], K => (spec_l01Times N (fun d0 => K (.agg [⟨.u8, 8, d0⟩]) []) a0 a1 v2 w3)
  | _, _, _ => none

theorem spec_l01Times.en_ok (N : Nat) (hE : EnvOk (E8 N) ents) (ρ : Type) (args : List AV) (sh : Heap) (K : AV → Heap → Option ρ) (r : ρ) (h : spec_l01Times.en N ρ args sh K = some r) : ∃ v sh', K v sh' = some r ∧ FnOk (E8 N).P 17 args sh v sh' := by
  unfold spec_l01Times.en at h
  split at h
  · exact fn_ok hE (kp := spec_l01Times.kp) (N := N) Go.Proofs.Try.func17 (c := spec_l01Times.bd) (by kernel_rfl) ((spec_l01Times.eq N _ _ _ _ _).trans h)
  · cases h

noncomputable def E9 (N : Nat) : Env := (E8 N).add 17 (spec_l01Times.en N)

theorem E9_ok (N : Nat) : EnvOk (E9 N) ents := Env.add_ok (E8_ok N) (spec_l01Times.en_ok N (E8_ok N))

noncomputable def spec_l04Double.kp : Keeps := ⟨[(0, [0, 2, 3, 4, 5], 4), (2, [0, 2, 3, 4, 5, 6], 4), (4, [2, 3, 14, 15, 16, 17, 18, 19], 10)], [(0, [0, 2, 3, 4], 4), (2, [0, 2, 3, 4, 5], 4), (4, [2, 3], 10)]⟩

noncomputable def spec_l04Double.bd : Code := bodyOf Go.Proofs.Try.f8

noncomputable def spec_l04Double.fin {ρ : Type} (N : Nat) (K : AV → Heap → Option ρ) : XE → St → Option ρ := finK (E9 N) Go.Proofs.Try.f8 [] K

noncomputable def spec_l04Double.k0 {ρ : Type} (N : Nat) (K : AV → Heap → Option ρ) : XE → St → Option ρ := (blockK spec_l04Double.kp 0 0 (seqK (xcode (E9 N) ents spec_l04Double.kp 0 N (cB (cB (cB (cB (cB (cB spec_l04Double.bd)))))) 0) (spec_l04Double.fin N K)))

theorem spec_l04Double.k0_mix {ρ : Type} (N : Nat) (K : AV → Heap → Option ρ) : mixK (spec_l04Double.fin N K .ret) (spec_l04Double.k0 N K) = (spec_l04Double.k0 N K) := by
  funext e s; cases e <;> rfl

noncomputable def spec_l04Double.st0 (p0 : Int) (i1 : Int) (g2 : Nat → Int) : St := ⟨sl 179 [(0, .int .i64 (p0)), (2, .sptr [(0, 2), (1, 1104)]), (3, .sptr [(2, 2), (3, 1104)]), (4, .int .u8 ((IntKind.u8.wrap (IntKind.i64.wrap (p0 - 1))))), (5, .int .i64 (i1))], [⟨true, .ints .i64 2 (fun _ => 0)⟩, ⟨true, .ints .u8 1104 (fun _ => 0)⟩, ⟨true, .ints .i64 2 (upd (upd (fun _ => 0) 0 p0) 1 8)⟩, ⟨true, .ints .u8 1104 g2⟩]⟩

noncomputable def spec_l04Double.sx0_0 (p0 : Int) (o6 : Nat → Int) : St := ⟨sl 179 [(0, .int .i64 (p0)), (2, .sptr [(0, 2), (1, 1104)]), (3, .sptr [(2, 2), (3, 1104)]), (4, .int .u8 ((IntKind.u8.wrap (IntKind.i64.wrap (p0 - 1)))))], [⟨true, .ints .i64 2 (fun _ => 0)⟩, ⟨true, .ints .u8 1104 (fun _ => 0)⟩, ⟨true, .ints .i64 2 (upd (upd (fun _ => 0) 0 p0) 1 8)⟩, ⟨true, .ints .u8 1104 o6⟩]⟩

noncomputable def spec_l04Double.k1g {ρ : Type} (N : Nat) (L0 : St → Option ρ) (kv : XE → St → Option ρ) : XE → St → Option ρ := (blockK spec_l04Double.kp 0 2 (blockK spec_l04Double.kp 0 1 (seqK (xcode (E9 N) ents spec_l04Double.kp 0 N (cB (cB (cL (cK (cB (cA (cB (cB (cB (cB (cB spec_l04Double.bd))))))))))) 0) (roundK spec_l04Double.kp 0 0 L0 kv))))

theorem spec_l04Double.k1_mix {ρ : Type} (N : Nat) (K : AV → Heap → Option ρ) (L0 : St → Option ρ) : mixK (spec_l04Double.fin N K .ret) (spec_l04Double.k1g N L0 (spec_l04Double.k0 N K)) = (spec_l04Double.k1g N L0 (spec_l04Double.k0 N K)) := by
  funext e s; cases e <;> rfl

noncomputable def spec_l04Double.st1 (p0 : Int) (i1 : Int) (j3 : Int) (g4 : Nat → Int) : St := ⟨sl 179 [(0, .int .i64 (p0)), (2, .sptr [(0, 2), (1, 1104)]), (3, .sptr [(2, 2), (3, 1104)]), (4, .int .u8 ((IntKind.u8.wrap (IntKind.i64.wrap (p0 - 1))))), (5, .int .i64 (i1)), (6, .int .i64 (j3))], [⟨true, .ints .i64 2 (fun _ => 0)⟩, ⟨true, .ints .u8 1104 (fun _ => 0)⟩, ⟨true, .ints .i64 2 (upd (upd (fun _ => 0) 0 p0) 1 8)⟩, ⟨true, .ints .u8 1104 g4⟩]⟩

noncomputable def spec_l04Double.sx1_0 (p0 : Int) (i1 : Int) (o5 : Nat → Int) : St := ⟨sl 179 [(0, .int .i64 (p0)), (2, .sptr [(0, 2), (1, 1104)]), (3, .sptr [(2, 2), (3, 1104)]), (4, .int .u8 ((IntKind.u8.wrap (IntKind.i64.wrap (p0 - 1))))), (5, .int .i64 (i1))], [⟨true, .ints .i64 2 (fun _ => 0)⟩, ⟨true, .ints .u8 1104 (fun _ => 0)⟩, ⟨true, .ints .i64 2 (upd (upd (fun _ => 0) 0 p0) 1 8)⟩, ⟨true, .ints .u8 1104 o5⟩]⟩

noncomputable def spec_l04Double.k2 {ρ : Type} (N : Nat) (K : AV → Heap → Option ρ) : XE → St → Option ρ := (blockK spec_l04Double.kp 0 4 (seqK (xcode (E9 N) ents spec_l04Double.kp 0 N (cB (cB (cB (cB (cB (cB (cB (cB (cB (cB (cB (cB spec_l04Double.bd)))))))))))) 0) (spec_l04Double.fin N K)))

theorem spec_l04Double.k2_mix {ρ : Type} (N : Nat) (K : AV → Heap → Option ρ) : mixK (spec_l04Double.fin N K .ret) (spec_l04Double.k2 N K) = (spec_l04Double.k2 N K) := by
  funext e s; cases e <;> rfl

noncomputable def spec_l04Double.st2 (p0 : Int) (o6 : Nat → Int) (i7 : Int) (g8 : Nat → Int) : St := ⟨sl 179 [(2, .sptr [(0, 2), (1, 1104)]), (3, .sptr [(2, 2), (3, 1104)]), (14, .sptr [(4, 2), (5, 520)]), (15, .sptr [(6, 64)]), (16, .sptr [(7, 64)]), (17, .sptr [(8, 64)]), (18, .slice 9 0 3 (some 3) 8), (19, .int .i64 (i7))], [⟨true, .ints .i64 2 (fun _ => 0)⟩, ⟨true, .ints .u8 1104 (fun _ => 0)⟩, ⟨true, .ints .i64 2 (upd (upd (fun _ => 0) 0 p0) 1 8)⟩, ⟨true, .ints .u8 1104 g8⟩, ⟨true, .ints .i64 2 (upd (upd (fun _ => 0) 0 p0) 1 8)⟩, ⟨true, .ints .u8 520 (updN (updN (fun _ => 0) 0 8 (fun z => (o6 (0 + z)))) 8 512 (fun z => (o6 (8 + z))))⟩, ⟨true, .ints .u8 64 (updN (updN (fun _ => 0) 0 8 (fun _ => 0)) 8 8 (upd (upd (fun _ => 0) 0 0) 1 1))⟩, ⟨true, .ints .u8 64 (updN (updN (updN (fun _ => 0) 0 8 (fun _ => 0)) 8 8 (upd (upd (upd (fun _ => 0) 0 0) 1 0) 2 1)) 16 8 (upd (fun _ => 0) 0 1))⟩, ⟨true, .ints .u8 64 (updN (updN (updN (updN (updN (fun _ => 0) 0 8 (fun _ => 0)) 8 8 (upd (upd (upd (upd (upd (fun _ => 0) 0 0) 1 0) 2 0) 3 0) 4 1)) 16 8 (fun _ => 0)) 24 8 (fun _ => 0)) 32 8 (upd (fun _ => 0) 0 1))⟩, ⟨true, .ints .u8 24 (updN (updN (updN (fun _ => 0) 0 8 (upd (upd (fun _ => 0) 0 0) 1 1)) 8 8 (upd (upd (upd (upd (fun _ => 0) 0 0) 1 0) 2 0) 3 (IntKind.u8.wrap (IntKind.i64.wrap (p0 - 1))))) 16 8 (upd (upd (upd (upd (upd (upd (fun _ => 0) 0 0) 1 0) 2 0) 3 0) 4 0) 5 (IntKind.u8.wrap (IntKind.i64.wrap (p0 - 1)))))⟩]⟩

noncomputable def spec_l04Double.sx2_0 (p0 : Int) (o6 : Nat → Int) (o24 : Nat → Int) : St := ⟨sl 179 [(2, .sptr [(0, 2), (1, 1104)]), (3, .sptr [(2, 2), (3, 1104)])], [⟨true, .ints .i64 2 (fun _ => 0)⟩, ⟨true, .ints .u8 1104 (fun _ => 0)⟩, ⟨true, .ints .i64 2 (upd (upd (fun _ => 0) 0 p0) 1 8)⟩, ⟨true, .ints .u8 1104 o24⟩, ⟨true, .ints .i64 2 (upd (upd (fun _ => 0) 0 p0) 1 8)⟩, ⟨true, .ints .u8 520 (updN (updN (fun _ => 0) 0 8 (fun z => (o6 (0 + z)))) 8 512 (fun z => (o6 (8 + z))))⟩, ⟨true, .ints .u8 64 (updN (updN (fun _ => 0) 0 8 (fun _ => 0)) 8 8 (upd (upd (fun _ => 0) 0 0) 1 1))⟩, ⟨true, .ints .u8 64 (updN (updN (updN (fun _ => 0) 0 8 (fun _ => 0)) 8 8 (upd (upd (upd (fun _ => 0) 0 0) 1 0) 2 1)) 16 8 (upd (fun _ => 0) 0 1))⟩, ⟨true, .ints .u8 64 (updN (updN (updN (updN (updN (fun _ => 0) 0 8 (fun _ => 0)) 8 8 (upd (upd (upd (upd (upd (fun _ => 0) 0 0) 1 0) 2 0) 3 0) 4 1)) 16 8 (fun _ => 0)) 24 8 (fun _ => 0)) 32 8 (upd (fun _ => 0) 0 1))⟩, ⟨true, .ints .u8 24 (updN (updN (updN (fun _ => 0) 0 8 (upd (upd (fun _ => 0) 0 0) 1 1)) 8 8 (upd (upd (upd (upd (fun _ => 0) 0 0) 1 0) 2 0) 3 (IntKind.u8.wrap (IntKind.i64.wrap (p0 - 1))))) 16 8 (upd (upd (upd (upd (upd (upd (fun _ => 0) 0 0) 1 0) 2 0) 3 0) 4 0) 5 (IntKind.u8.wrap (IntKind.i64.wrap (p0 - 1)))))⟩]⟩

theorem spec_l04Double.b1_gen {ρ : Type} (N : Nat) (K : AV → Heap → Option ρ) (L1 : St → Option ρ) (kv : XE → St → Option ρ) (p0 : Int) (i1 : Int) (j3 : Int) (g4 : Nat → Int) :
    xcode (E9 N) ents spec_l04Double.kp 0 N (cL (cK (cB (cK (cA (cB (cL (cK (cB (cA (cB (cB (cB (cB (cB spec_l04Double.bd))))))))))))))) 2 (spec_l04Double.st1 p0 i1 j3 g4) (roundK spec_l04Double.kp 0 2 L1 (mixK (spec_l04Double.fin N K .ret) kv)) = (spec_l04Double.b1 N (fun d0 d1 => K (.agg [⟨.i64, 2, d0⟩, ⟨.u8, 1104, d1⟩]) []) (fun j3 g4 => L1 (spec_l04Double.st1 p0 i1 j3 g4)) (fun o5 => kv (.exit 2) (spec_l04Double.sx1_0 p0 i1 o5)) p0 i1 j3 g4) := by kernel_rfl

theorem spec_l04Double.b1_eq {ρ : Type} (N : Nat) (K : AV → Heap → Option ρ) (L0 : St → Option ρ) (L1 : St → Option ρ) (p0 : Int) (i1 : Int) (j3 : Int) (g4 : Nat → Int) :
    xcode (E9 N) ents spec_l04Double.kp 0 N (cL (cK (cB (cK (cA (cB (cL (cK (cB (cA (cB (cB (cB (cB (cB spec_l04Double.bd))))))))))))))) 2 (spec_l04Double.st1 p0 i1 j3 g4) (roundK spec_l04Double.kp 0 2 L1 (spec_l04Double.k1g N L0 (spec_l04Double.k0 N K))) = (spec_l04Double.b1 N (fun d0 d1 => K (.agg [⟨.i64, 2, d0⟩, ⟨.u8, 1104, d1⟩]) []) (fun j3 g4 => L1 (spec_l04Double.st1 p0 i1 j3 g4)) (fun o5 => (spec_l04Double.k1g N L0 (spec_l04Double.k0 N K)) (.exit 2) (spec_l04Double.sx1_0 p0 i1 o5)) p0 i1 j3 g4) := by
  have h := spec_l04Double.b1_gen N K L1 (spec_l04Double.k1g N L0 (spec_l04Double.k0 N K)) p0 i1 j3 g4
  rw [spec_l04Double.k1_mix] at h
  exact h

theorem spec_l04Double.a1_0_gen {ρ : Type} (N : Nat) (K : AV → Heap → Option ρ) (L0 : St → Option ρ) (kv : XE → St → Option ρ) (p0 : Int) (i1 : Int) (o5 : Nat → Int) :
    (spec_l04Double.k1g N L0 (mixK (spec_l04Double.fin N K .ret) kv)) (.exit 2) (spec_l04Double.sx1_0 p0 i1 o5) = (spec_l04Double.a1_0 N (fun d0 d1 => K (.agg [⟨.i64, 2, d0⟩, ⟨.u8, 1104, d1⟩]) []) (fun i1 g2 => L0 (spec_l04Double.st0 p0 i1 g2)) (fun o6 => kv (.exit 0) (spec_l04Double.sx0_0 p0 o6)) i1 o5) := by kernel_rfl

theorem spec_l04Double.a1_0_eq {ρ : Type} (N : Nat) (K : AV → Heap → Option ρ) (L0 : St → Option ρ) (p0 : Int) (i1 : Int) (o5 : Nat → Int) :
    (spec_l04Double.k1g N L0 (spec_l04Double.k0 N K)) (.exit 2) (spec_l04Double.sx1_0 p0 i1 o5) = (spec_l04Double.a1_0 N (fun d0 d1 => K (.agg [⟨.i64, 2, d0⟩, ⟨.u8, 1104, d1⟩]) []) (fun i1 g2 => L0 (spec_l04Double.st0 p0 i1 g2)) (fun o6 => (spec_l04Double.k0 N K) (.exit 0) (spec_l04Double.sx0_0 p0 o6)) i1 o5) := by
  have h := spec_l04Double.a1_0_gen N K L0 (spec_l04Double.k0 N K) p0 i1 o5
  rw [spec_l04Double.k0_mix] at h
  exact h

theorem spec_l04Double.b2_gen {ρ : Type} (N : Nat) (K : AV → Heap → Option ρ) (L2 : St → Option ρ) (kv : XE → St → Option ρ) (p0 : Int) (o6 : Nat → Int) (i7 : Int) (g8 : Nat → Int) :
    xcode (E9 N) ents spec_l04Double.kp 0 N (cL (cK (cB (cA (cB (cB (cB (cB (cB (cB (cB (cB (cB (cB (cB spec_l04Double.bd))))))))))))))) 4 (spec_l04Double.st2 p0 o6 i7 g8) (roundK spec_l04Double.kp 0 4 L2 (mixK (spec_l04Double.fin N K .ret) kv)) = (spec_l04Double.b2 N (fun d0 d1 => K (.agg [⟨.i64, 2, d0⟩, ⟨.u8, 1104, d1⟩]) []) (fun i7 g8 => L2 (spec_l04Double.st2 p0 o6 i7 g8)) (fun o24 => kv (.exit 4) (spec_l04Double.sx2_0 p0 o6 o24)) p0 o6 i7 g8) := by kernel_rfl

theorem spec_l04Double.b2_eq {ρ : Type} (N : Nat) (K : AV → Heap → Option ρ) (L2 : St → Option ρ) (p0 : Int) (o6 : Nat → Int) (i7 : Int) (g8 : Nat → Int) :
    xcode (E9 N) ents spec_l04Double.kp 0 N (cL (cK (cB (cA (cB (cB (cB (cB (cB (cB (cB (cB (cB (cB (cB spec_l04Double.bd))))))))))))))) 4 (spec_l04Double.st2 p0 o6 i7 g8) (roundK spec_l04Double.kp 0 4 L2 (spec_l04Double.k2 N K)) = (spec_l04Double.b2 N (fun d0 d1 => K (.agg [⟨.i64, 2, d0⟩, ⟨.u8, 1104, d1⟩]) []) (fun i7 g8 => L2 (spec_l04Double.st2 p0 o6 i7 g8)) (fun o24 => (spec_l04Double.k2 N K) (.exit 4) (spec_l04Double.sx2_0 p0 o6 o24)) p0 o6 i7 g8) := by
  have h := spec_l04Double.b2_gen N K L2 (spec_l04Double.k2 N K) p0 o6 i7 g8
  rw [spec_l04Double.k2_mix] at h
  exact h

theorem spec_l04Double.a2_0_eq {ρ : Type} (N : Nat) (K : AV → Heap → Option ρ) (p0 : Int) (o6 : Nat → Int) (o24 : Nat → Int) :
    (spec_l04Double.k2 N K) (.exit 4) (spec_l04Double.sx2_0 p0 o6 o24) = (spec_l04Double.a2_0 N (fun d0 d1 => K (.agg [⟨.i64, 2, d0⟩, ⟨.u8, 1104, d1⟩]) []) p0 o24) := by kernel_rfl

theorem spec_l04Double.b0_gen {ρ : Type} (N : Nat) (K : AV → Heap → Option ρ) (L0 : St → Option ρ) (kv : XE → St → Option ρ) (p0 : Int) (i1 : Int) (g2 : Nat → Int) :
    xcode (E9 N) ents spec_l04Double.kp 0 N (cL (cK (cB (cA (cB (cB (cB (cB (cB spec_l04Double.bd))))))))) 0 (spec_l04Double.st0 p0 i1 g2) (roundK spec_l04Double.kp 0 0 L0 (mixK (spec_l04Double.fin N K .ret) kv)) = (spec_l04Double.b0 N (fun d0 d1 => K (.agg [⟨.i64, 2, d0⟩, ⟨.u8, 1104, d1⟩]) []) (fun j3 g4 => xloop (xcode (E9 N) ents spec_l04Double.kp 0 N (cL (cK (cB (cK (cA (cB (cL (cK (cB (cA (cB (cB (cB (cB (cB spec_l04Double.bd))))))))))))))) 2) spec_l04Double.kp 0 2 N (spec_l04Double.st1 p0 i1 j3 g4) (spec_l04Double.k1g N L0 (mixK (spec_l04Double.fin N K .ret) kv))) (fun i1 g2 => L0 (spec_l04Double.st0 p0 i1 g2)) (fun o6 => kv (.exit 0) (spec_l04Double.sx0_0 p0 o6)) i1 g2) := by kernel_rfl

theorem spec_l04Double.b0_eq {ρ : Type} (N : Nat) (K : AV → Heap → Option ρ) (L0 : St → Option ρ) (p0 : Int) (i1 : Int) (g2 : Nat → Int) :
    xcode (E9 N) ents spec_l04Double.kp 0 N (cL (cK (cB (cA (cB (cB (cB (cB (cB spec_l04Double.bd))))))))) 0 (spec_l04Double.st0 p0 i1 g2) (roundK spec_l04Double.kp 0 0 L0 (spec_l04Double.k0 N K)) = (spec_l04Double.b0 N (fun d0 d1 => K (.agg [⟨.i64, 2, d0⟩, ⟨.u8, 1104, d1⟩]) []) (fun j3 g4 => xloop (xcode (E9 N) ents spec_l04Double.kp 0 N (cL (cK (cB (cK (cA (cB (cL (cK (cB (cA (cB (cB (cB (cB (cB spec_l04Double.bd))))))))))))))) 2) spec_l04Double.kp 0 2 N (spec_l04Double.st1 p0 i1 j3 g4) (spec_l04Double.k1g N L0 (spec_l04Double.k0 N K))) (fun i1 g2 => L0 (spec_l04Double.st0 p0 i1 g2)) (fun o6 => (spec_l04Double.k0 N K) (.exit 0) (spec_l04Double.sx0_0 p0 o6)) i1 g2) := by
  have h := spec_l04Double.b0_gen N K L0 (spec_l04Double.k0 N K) p0 i1 g2
  rw [spec_l04Double.k0_mix] at h
  exact h

theorem spec_l04Double.a0_0_eq {ρ : Type} (N : Nat) (K : AV → Heap → Option ρ) (p0 : Int) (o6 : Nat → Int) :
    (spec_l04Double.k0 N K) (.exit 0) (spec_l04Double.sx0_0 p0 o6) = (spec_l04Double.a0_0 N (fun d0 d1 => K (.agg [⟨.i64, 2, d0⟩, ⟨.u8, 1104, d1⟩]) []) (fun i7 g8 => xloop (xcode (E9 N) ents spec_l04Double.kp 0 N (cL (cK (cB (cA (cB (cB (cB (cB (cB (cB (cB (cB (cB (cB (cB spec_l04Double.bd))))))))))))))) 4) spec_l04Double.kp 0 4 N (spec_l04Double.st2 p0 o6 i7 g8) (spec_l04Double.k2 N K)) o6) := by kernel_rfl

theorem spec_l04Double.l1_eq {ρ : Type} (N : Nat) (K : AV → Heap → Option ρ) (L0 : St → Option ρ) (p0 : Int) (i1 : Int) :
    ∀ (m : Nat) (j3 : Int) (g4 : Nat → Int), xloop (xcode (E9 N) ents spec_l04Double.kp 0 N (cL (cK (cB (cK (cA (cB (cL (cK (cB (cA (cB (cB (cB (cB (cB spec_l04Double.bd))))))))))))))) 2) spec_l04Double.kp 0 2 m (spec_l04Double.st1 p0 i1 j3 g4) (spec_l04Double.k1g N L0 (spec_l04Double.k0 N K)) = (spec_l04Double.l1 N (fun d0 d1 => K (.agg [⟨.i64, 2, d0⟩, ⟨.u8, 1104, d1⟩]) []) p0 i1 (fun o5 => (spec_l04Double.k1g N L0 (spec_l04Double.k0 N K)) (.exit 2) (spec_l04Double.sx1_0 p0 i1 o5)) m j3 g4) := by
  intro m
  induction m with
  | zero => intros; rfl
  | succ m ih =>
    intro j3 g4
    refine (spec_l04Double.b1_eq N K L0 (fun s => xloop (xcode (E9 N) ents spec_l04Double.kp 0 N (cL (cK (cB (cK (cA (cB (cL (cK (cB (cA (cB (cB (cB (cB (cB spec_l04Double.bd))))))))))))))) 2) spec_l04Double.kp 0 2 m s (spec_l04Double.k1g N L0 (spec_l04Double.k0 N K))) p0 i1 j3 g4).trans ?_
    simp only [ih]
    kernel_rfl

theorem spec_l04Double.l2_eq {ρ : Type} (N : Nat) (K : AV → Heap → Option ρ) (p0 : Int) (o6 : Nat → Int) :
    ∀ (m : Nat) (i7 : Int) (g8 : Nat → Int), xloop (xcode (E9 N) ents spec_l04Double.kp 0 N (cL (cK (cB (cA (cB (cB (cB (cB (cB (cB (cB (cB (cB (cB (cB spec_l04Double.bd))))))))))))))) 4) spec_l04Double.kp 0 4 m (spec_l04Double.st2 p0 o6 i7 g8) (spec_l04Double.k2 N K) = (spec_l04Double.l2 N (fun d0 d1 => K (.agg [⟨.i64, 2, d0⟩, ⟨.u8, 1104, d1⟩]) []) p0 o6 (fun o24 => (spec_l04Double.k2 N K) (.exit 4) (spec_l04Double.sx2_0 p0 o6 o24)) m i7 g8) := by
  intro m
  induction m with
  | zero => intros; rfl
  | succ m ih =>
    intro i7 g8
    refine (spec_l04Double.b2_eq N K (fun s => xloop (xcode (E9 N) ents spec_l04Double.kp 0 N (cL (cK (cB (cA (cB (cB (cB (cB (cB (cB (cB (cB (cB (cB (cB spec_l04Double.bd))))))))))))))) 4) spec_l04Double.kp 0 4 m s (spec_l04Double.k2 N K)) p0 o6 i7 g8).trans ?_
    simp only [ih]
    kernel_rfl

theorem spec_l04Double.l0_eq {ρ : Type} (N : Nat) (K : AV → Heap → Option ρ) (p0 : Int) :
    ∀ (m : Nat) (i1 : Int) (g2 : Nat → Int), xloop (xcode (E9 N) ents spec_l04Double.kp 0 N (cL (cK (cB (cA (cB (cB (cB (cB (cB spec_l04Double.bd))))))))) 0) spec_l04Double.kp 0 0 m (spec_l04Double.st0 p0 i1 g2) (spec_l04Double.k0 N K) = (spec_l04Double.l0 N (fun d0 d1 => K (.agg [⟨.i64, 2, d0⟩, ⟨.u8, 1104, d1⟩]) []) p0 (fun o6 => (spec_l04Double.k0 N K) (.exit 0) (spec_l04Double.sx0_0 p0 o6)) m i1 g2) := by
  intro m
  induction m with
  | zero => intros; rfl
  | succ m ih =>
    intro i1 g2
    refine (spec_l04Double.b0_eq N K (fun s => xloop (xcode (E9 N) ents spec_l04Double.kp 0 N (cL (cK (cB (cA (cB (cB (cB (cB (cB spec_l04Double.bd))))))))) 0) spec_l04Double.kp 0 0 m s (spec_l04Double.k0 N K)) p0 i1 g2).trans ?_
    simp only [ih, spec_l04Double.l1_eq, spec_l04Double.a1_0_eq]
    kernel_rfl

theorem spec_l04Double.s_eq {ρ : Type} (N : Nat) (K : AV → Heap → Option ρ) (p0 : Int) :
    xbody (E9 N) ents spec_l04Double.kp N Go.Proofs.Try.f8 spec_l04Double.bd [.int .i64 (p0)] [] K = (spec_l04Double.s N (fun d0 d1 => K (.agg [⟨.i64, 2, d0⟩, ⟨.u8, 1104, d1⟩]) []) (fun i1 g2 => xloop (xcode (E9 N) ents spec_l04Double.kp 0 N (cL (cK (cB (cA (cB (cB (cB (cB (cB spec_l04Double.bd))))))))) 0) spec_l04Double.kp 0 0 N (spec_l04Double.st0 p0 i1 g2) (spec_l04Double.k0 N K))) := by kernel_rfl

theorem spec_l04Double.eq {ρ : Type} (N : Nat) (K : AV → Heap → Option ρ) (p0 : Int) :
    xbody (E9 N) ents spec_l04Double.kp N Go.Proofs.Try.f8 spec_l04Double.bd [.int .i64 (p0)] [] K = (spec_l04Double N (fun d0 d1 => K (.agg [⟨.i64, 2, d0⟩, ⟨.u8, 1104, d1⟩]) []) p0) := by
  refine (spec_l04Double.s_eq N K p0).trans ?_
  simp only [spec_l04Double.l0_eq, spec_l04Double.a0_0_eq, spec_l04Double.l2_eq, spec_l04Double.a2_0_eq]
  kernel_rfl

noncomputable def spec_l04Double.en (N : Nat) (ρ : Type) : List AV → Heap → (AV → Heap → Option ρ) → Option ρ
  | [.int .i64 (p0)], [], K => (spec_l04Double N (fun d0 d1 => K (.agg [⟨.i64, 2, d0⟩, ⟨.u8, 1104, d1⟩]) []) p0)
  | _, _, _ => none

theorem spec_l04Double.en_ok (N : Nat) (hE : EnvOk (E9 N) ents) (ρ : Type) (args : List AV) (sh : Heap) (K : AV → Heap → Option ρ) (r : ρ) (h : spec_l04Double.en N ρ args sh K = some r) : ∃ v sh', K v sh' = some r ∧ FnOk (E9 N).P 8 args sh v sh' := by
  unfold spec_l04Double.en at h
  split at h
  · exact fn_ok hE (kp := spec_l04Double.kp) (N := N) Go.Proofs.Try.func8 (c := spec_l04Double.bd) (by kernel_rfl) ((spec_l04Double.eq N _ _).trans h)
  · cases h

noncomputable def E10 (N : Nat) : Env := (E9 N).add 8 (spec_l04Double.en N)

theorem E10_ok (N : Nat) : EnvOk (E10 N) ents := Env.add_ok (E9_ok N) (spec_l04Double.en_ok N (E9_ok N))

noncomputable def spec_DoubleHopf.kp : Keeps := ⟨[], []⟩

noncomputable def spec_DoubleHopf.bd : Code := bodyOf Go.Proofs.Try.f4

noncomputable def spec_DoubleHopf.fin {ρ : Type} (N : Nat) (K : AV → Heap → Option ρ) : XE → St → Option ρ := finK (E10 N) Go.Proofs.Try.f4 [] K

theorem spec_DoubleHopf.eq {ρ : Type} (N : Nat) (K : AV → Heap → Option ρ) (p0 : Int) :
    xbody (E10 N) ents spec_DoubleHopf.kp N Go.Proofs.Try.f4 spec_DoubleHopf.bd [.int .i64 (p0)] [] K = (spec_DoubleHopf N (fun d0 d1 d2 => K (.tup [.agg [⟨.i64, 2, d0⟩, ⟨.u8, 1104, d1⟩], .int .i64 (d2)]) []) p0) := by kernel_rfl

noncomputable def spec_DoubleHopf.en (N : Nat) (ρ : Type) : List AV → Heap → (AV → Heap → Option ρ) → Option ρ
  | [.int .i64 (p0)], [], K => (spec_DoubleHopf N (fun d0 d1 d2 => K (.tup [.agg [⟨.i64, 2, d0⟩, ⟨.u8, 1104, d1⟩], .int .i64 (d2)]) []) p0)
  | _, _, _ => none

theorem spec_DoubleHopf.en_ok (N : Nat) (hE : EnvOk (E10 N) ents) (ρ : Type) (args : List AV) (sh : Heap) (K : AV → Heap → Option ρ) (r : ρ) (h : spec_DoubleHopf.en N ρ args sh K = some r) : ∃ v sh', K v sh' = some r ∧ FnOk (E10 N).P 4 args sh v sh' := by
  unfold spec_DoubleHopf.en at h
  split at h
  · exact fn_ok hE (kp := spec_DoubleHopf.kp) (N := N) Go.Proofs.Try.func4 (c := spec_DoubleHopf.bd) (by kernel_rfl) ((spec_DoubleHopf.eq N _ _).trans h)
  · cases h

noncomputable def E11 (N : Nat) : Env := (E10 N).add 4 (spec_DoubleHopf.en N)

theorem E11_ok (N : Nat) : EnvOk (E11 N) ents := Env.add_ok (E10_ok N) (spec_DoubleHopf.en_ok N (E10_ok N))

noncomputable def impl_IsPrime.kp : Keeps := ⟨[(0, [0, 3], 0)], [(0, [], 0)]⟩

noncomputable def impl_IsPrime.bd : Code := bodyOf Go.Proofs.Try.f18

noncomputable def impl_IsPrime.fin {ρ : Type} (N : Nat) (K : AV → Heap → Option ρ) : XE → St → Option ρ := finK (E11 N) Go.Proofs.Try.f18 [] K

noncomputable def impl_IsPrime.k0 {ρ : Type} (N : Nat) (K : AV → Heap → Option ρ) : XE → St → Option ρ := (blockK impl_IsPrime.kp 0 0 (seqK (xcode (E11 N) ents impl_IsPrime.kp 0 N (cB (cB (cB impl_IsPrime.bd))) 0) (impl_IsPrime.fin N K)))

theorem impl_IsPrime.k0_mix {ρ : Type} (N : Nat) (K : AV → Heap → Option ρ) : mixK (impl_IsPrime.fin N K .ret) (impl_IsPrime.k0 N K) = (impl_IsPrime.k0 N K) := by
  funext e s; cases e <;> rfl

noncomputable def impl_IsPrime.st0 (p0 : Int) (k1 : Int) : St := ⟨sl 21 [(0, .int .i64 (p0)), (3, .int .i64 (k1))], []⟩

noncomputable def impl_IsPrime.sx0_0 : St := ⟨sl 21 [], []⟩

theorem impl_IsPrime.b0_gen {ρ : Type} (N : Nat) (K : AV → Heap → Option ρ) (L0 : St → Option ρ) (kv : XE → St → Option ρ) (p0 : Int) (k1 : Int) :
    xcode (E11 N) ents impl_IsPrime.kp 0 N (cL (cK (cB (cA (cB (cB impl_IsPrime.bd)))))) 0 (impl_IsPrime.st0 p0 k1) (roundK impl_IsPrime.kp 0 0 L0 (mixK (impl_IsPrime.fin N K .ret) kv)) = (impl_IsPrime.b0 N (fun d0 => K (.bool (d0)) []) (fun k1 => L0 (impl_IsPrime.st0 p0 k1)) (kv (.exit 0) (impl_IsPrime.sx0_0)) p0 k1) := by kernel_rfl

theorem impl_IsPrime.b0_eq {ρ : Type} (N : Nat) (K : AV → Heap → Option ρ) (L0 : St → Option ρ) (p0 : Int) (k1 : Int) :
    xcode (E11 N) ents impl_IsPrime.kp 0 N (cL (cK (cB (cA (cB (cB impl_IsPrime.bd)))))) 0 (impl_IsPrime.st0 p0 k1) (roundK impl_IsPrime.kp 0 0 L0 (impl_IsPrime.k0 N K)) = (impl_IsPrime.b0 N (fun d0 => K (.bool (d0)) []) (fun k1 => L0 (impl_IsPrime.st0 p0 k1)) ((impl_IsPrime.k0 N K) (.exit 0) (impl_IsPrime.sx0_0)) p0 k1) := by
  have h := impl_IsPrime.b0_gen N K L0 (impl_IsPrime.k0 N K) p0 k1
  rw [impl_IsPrime.k0_mix] at h
  exact h

theorem impl_IsPrime.a0_0_eq {ρ : Type} (N : Nat) (K : AV → Heap → Option ρ) :
    (impl_IsPrime.k0 N K) (.exit 0) (impl_IsPrime.sx0_0) = (impl_IsPrime.a0_0 N (fun d0 => K (.bool (d0)) [])) := by kernel_rfl

theorem impl_IsPrime.l0_eq {ρ : Type} (N : Nat) (K : AV → Heap → Option ρ) (p0 : Int) :
    ∀ (m : Nat) (k1 : Int), xloop (xcode (E11 N) ents impl_IsPrime.kp 0 N (cL (cK (cB (cA (cB (cB impl_IsPrime.bd)))))) 0) impl_IsPrime.kp 0 0 m (impl_IsPrime.st0 p0 k1) (impl_IsPrime.k0 N K) = (impl_IsPrime.l0 N (fun d0 => K (.bool (d0)) []) p0 ((impl_IsPrime.k0 N K) (.exit 0) (impl_IsPrime.sx0_0)) m k1) := by
  intro m
  induction m with
  | zero => intros; rfl
  | succ m ih =>
    intro k1
    refine (impl_IsPrime.b0_eq N K (fun s => xloop (xcode (E11 N) ents impl_IsPrime.kp 0 N (cL (cK (cB (cA (cB (cB impl_IsPrime.bd)))))) 0) impl_IsPrime.kp 0 0 m s (impl_IsPrime.k0 N K)) p0 k1).trans ?_
    simp only [ih]
    kernel_rfl

theorem impl_IsPrime.s_eq {ρ : Type} (N : Nat) (K : AV → Heap → Option ρ) (p0 : Int) :
    xbody (E11 N) ents impl_IsPrime.kp N Go.Proofs.Try.f18 impl_IsPrime.bd [.int .i64 (p0)] [] K = (impl_IsPrime.s N (fun d0 => K (.bool (d0)) []) (fun k1 => xloop (xcode (E11 N) ents impl_IsPrime.kp 0 N (cL (cK (cB (cA (cB (cB impl_IsPrime.bd)))))) 0) impl_IsPrime.kp 0 0 N (impl_IsPrime.st0 p0 k1) (impl_IsPrime.k0 N K)) p0) := by kernel_rfl

theorem impl_IsPrime.eq {ρ : Type} (N : Nat) (K : AV → Heap → Option ρ) (p0 : Int) :
    xbody (E11 N) ents impl_IsPrime.kp N Go.Proofs.Try.f18 impl_IsPrime.bd [.int .i64 (p0)] [] K = (impl_IsPrime N (fun d0 => K (.bool (d0)) []) p0) := by
  refine (impl_IsPrime.s_eq N K p0).trans ?_
  simp only [impl_IsPrime.l0_eq, impl_IsPrime.a0_0_eq]
  kernel_rfl

noncomputable def impl_IsPrime.en (N : Nat) (ρ : Type) : List AV → Heap → (AV → Heap → Option ρ) → Option ρ
  | [.int .i64 (p0)], [], K => (impl_IsPrime N (fun d0 => K (.bool (d0)) []) p0)
  | _, _, _ => none

theorem impl_IsPrime.en_ok (N : Nat) (hE : EnvOk (E11 N) ents) (ρ : Type) (args : List AV) (sh : Heap) (K : AV → Heap → Option ρ) (r : ρ) (h : impl_IsPrime.en N ρ args sh K = some r) : ∃ v sh', K v sh' = some r ∧ FnOk (E11 N).P 18 args sh v sh' := by
  unfold impl_IsPrime.en at h
  split at h
  · exact fn_ok hE (kp := impl_IsPrime.kp) (N := N) Go.Proofs.Try.func18 (c := impl_IsPrime.bd) (by kernel_rfl) ((impl_IsPrime.eq N _ _).trans h)
  · cases h

noncomputable def E12 (N : Nat) : Env := (E11 N).add 18 (impl_IsPrime.en N)

theorem E12_ok (N : Nat) : EnvOk (E12 N) ents := Env.add_ok (E11_ok N) (impl_IsPrime.en_ok N (E11_ok N))

noncomputable def impl_isOdd.kp : Keeps := ⟨[], []⟩

noncomputable def impl_isOdd.bd : Code := bodyOf Go.Proofs.Try.f9

noncomputable def impl_isOdd.fin {ρ : Type} (N : Nat) (K : AV → Heap → Option ρ) : XE → St → Option ρ := finK (E12 N) Go.Proofs.Try.f9 [] K

theorem impl_isOdd.eq {ρ : Type} (N : Nat) (K : AV → Heap → Option ρ) (p0 : Int) :
    xbody (E12 N) ents impl_isOdd.kp N Go.Proofs.Try.f9 impl_isOdd.bd [.int .i64 (p0)] [] K = (impl_isOdd N (fun d0 => K (.bool (d0)) []) p0) := by kernel_rfl

noncomputable def impl_isOdd.en (N : Nat) (ρ : Type) : List AV → Heap → (AV → Heap → Option ρ) → Option ρ
  | [.int .i64 (p0)], [], K => (impl_isOdd N (fun d0 => K (.bool (d0)) []) p0)
  | _, _, _ => none

theorem impl_isOdd.en_ok (N : Nat) (hE : EnvOk (E12 N) ents) (ρ : Type) (args : List AV) (sh : Heap) (K : AV → Heap → Option ρ) (r : ρ) (h : impl_isOdd.en N ρ args sh K = some r) : ∃ v sh', K v sh' = some r ∧ FnOk (E12 N).P 9 args sh v sh' := by
  unfold impl_isOdd.en at h
  split at h
  · exact fn_ok hE (kp := impl_isOdd.kp) (N := N) Go.Proofs.Try.func9 (c := impl_isOdd.bd) (by kernel_rfl) ((impl_isOdd.eq N _ _).trans h)
  · cases h

noncomputable def E13 (N : Nat) : Env := (E12 N).add 9 (impl_isOdd.en N)

theorem E13_ok (N : Nat) : EnvOk (E13 N) ents := Env.add_ok (E12_ok N) (impl_isOdd.en_ok N (E12_ok N))

noncomputable def impl_basis.kp : Keeps := ⟨[], []⟩

noncomputable def impl_basis.bd : Code := bodyOf Go.Proofs.Try.f19

noncomputable def impl_basis.fin {ρ : Type} (N : Nat) (K : AV → Heap → Option ρ) : XE → St → Option ρ := finK (E13 N) Go.Proofs.Try.f19 [] K

theorem impl_basis.eq {ρ : Type} (N : Nat) (K : AV → Heap → Option ρ) (i0 : Int) :
    xbody (E13 N) ents impl_basis.kp N Go.Proofs.Try.f19 impl_basis.bd [.int .i64 (i0)] [] K = (impl_basis N (fun d0 => K (.agg [⟨.u8, 8, d0⟩]) []) i0) := by kernel_rfl

noncomputable def impl_basis.en (N : Nat) (ρ : Type) : List AV → Heap → (AV → Heap → Option ρ) → Option ρ
  | [.int .i64 (i0)], [], K => (impl_basis N (fun d0 => K (.agg [⟨.u8, 8, d0⟩]) []) i0)
  | _, _, _ => none

theorem impl_basis.en_ok (N : Nat) (hE : EnvOk (E13 N) ents) (ρ : Type) (args : List AV) (sh : Heap) (K : AV → Heap → Option ρ) (r : ρ) (h : impl_basis.en N ρ args sh K = some r) : ∃ v sh', K v sh' = some r ∧ FnOk (E13 N).P 19 args sh v sh' := by
  unfold impl_basis.en at h
  split at h
  · exact fn_ok hE (kp := impl_basis.kp) (N := N) Go.Proofs.Try.func19 (c := impl_basis.bd) (by kernel_rfl) ((impl_basis.eq N _ _).trans h)
  · cases h

noncomputable def E14 (N : Nat) : Env := (E13 N).add 19 (impl_basis.en N)

theorem E14_ok (N : Nat) : EnvOk (E14 N) ents := Env.add_ok (E13_ok N) (impl_basis.en_ok N (E13_ok N))

noncomputable def impl_Hopf_field.kp : Keeps := ⟨[], []⟩

noncomputable def impl_Hopf_field.bd : Code := bodyOf Go.Proofs.Try.f20

noncomputable def impl_Hopf_field.fin {ρ : Type} (N : Nat) (K : AV → Heap → Option ρ) (g0 : Nat → Int) (g1 : Nat → Int) : XE → St → Option ρ := finK (E14 N) Go.Proofs.Try.f20 [⟨false, .ints .i64 2 g0⟩, ⟨false, .ints .u8 1104 g1⟩] K

theorem impl_Hopf_field.eq {ρ : Type} (N : Nat) (K : AV → Heap → Option ρ) (g0 : Nat → Int) (g1 : Nat → Int) :
    xbody (E14 N) ents impl_Hopf_field.kp N Go.Proofs.Try.f20 impl_Hopf_field.bd [.sptr [(0, 2), (1, 1104)]] [⟨false, .ints .i64 2 g0⟩, ⟨false, .ints .u8 1104 g1⟩] K = (impl_Hopf_field N (fun d0 => K (.agg [⟨.i64, 2, d0⟩]) [⟨false, .ints .i64 2 g0⟩, ⟨false, .ints .u8 1104 g1⟩]) g0 g1) := by kernel_rfl

noncomputable def impl_Hopf_field.en (N : Nat) (ρ : Type) : List AV → Heap → (AV → Heap → Option ρ) → Option ρ
  | [.sptr [(0, 2), (1, 1104)]], [⟨false, .ints .i64 2 g0⟩, ⟨false, .ints .u8 1104 g1⟩], K => (impl_Hopf_field N (fun d0 => K (.agg [⟨.i64, 2, d0⟩]) [⟨false, .ints .i64 2 g0⟩, ⟨false, .ints .u8 1104 g1⟩]) g0 g1)
  | _, _, _ => none

theorem impl_Hopf_field.en_ok (N : Nat) (hE : EnvOk (E14 N) ents) (ρ : Type) (args : List AV) (sh : Heap) (K : AV → Heap → Option ρ) (r : ρ) (h : impl_Hopf_field.en N ρ args sh K = some r) : ∃ v sh', K v sh' = some r ∧ FnOk (E14 N).P 20 args sh v sh' := by
  unfold impl_Hopf_field.en at h
  split at h
  · exact fn_ok hE (kp := impl_Hopf_field.kp) (N := N) Go.Proofs.Try.func20 (c := impl_Hopf_field.bd) (by kernel_rfl) ((impl_Hopf_field.eq N _ _ _).trans h)
  · cases h

noncomputable def E15 (N : Nat) : Env := (E14 N).add 20 (impl_Hopf_field.en N)

theorem E15_ok (N : Nat) : EnvOk (E15 N) ents := Env.add_ok (E14_ok N) (impl_Hopf_field.en_ok N (E14_ok N))

noncomputable def impl_word.kp : Keeps := ⟨[], []⟩

noncomputable def impl_word.bd : Code := bodyOf Go.Proofs.Try.f21

noncomputable def impl_word.fin {ρ : Type} (N : Nat) (K : AV → Heap → Option ρ) : XE → St → Option ρ := finK (E15 N) Go.Proofs.Try.f21 [] K

theorem impl_word.eq {ρ : Type} (N : Nat) (K : AV → Heap → Option ρ) (m0 : Int) (n1 : Int) :
    xbody (E15 N) ents impl_word.kp N Go.Proofs.Try.f21 impl_word.bd [.int .i64 (m0), .int .i64 (n1)] [] K = (impl_word N (fun d0 d1 => K (.tup [.int .i64 (d0), .int .i64 (d1)]) []) m0 n1) := by kernel_rfl

noncomputable def impl_word.en (N : Nat) (ρ : Type) : List AV → Heap → (AV → Heap → Option ρ) → Option ρ
  | [.int .i64 (m0), .int .i64 (n1)], [], K => (impl_word N (fun d0 d1 => K (.tup [.int .i64 (d0), .int .i64 (d1)]) []) m0 n1)
  | _, _, _ => none

theorem impl_word.en_ok (N : Nat) (hE : EnvOk (E15 N) ents) (ρ : Type) (args : List AV) (sh : Heap) (K : AV → Heap → Option ρ) (r : ρ) (h : impl_word.en N ρ args sh K = some r) : ∃ v sh', K v sh' = some r ∧ FnOk (E15 N).P 21 args sh v sh' := by
  unfold impl_word.en at h
  split at h
  · exact fn_ok hE (kp := impl_word.kp) (N := N) Go.Proofs.Try.func21 (c := impl_word.bd) (by kernel_rfl) ((impl_word.eq N _ _ _).trans h)
  · cases h

noncomputable def E16 (N : Nat) : Env := (E15 N).add 21 (impl_word.en N)

theorem E16_ok (N : Nat) : EnvOk (E16 N) ents := Env.add_ok (E15_ok N) (impl_word.en_ok N (E15_ok N))

noncomputable def impl_field_mod.kp : Keeps := ⟨[], []⟩

noncomputable def impl_field_mod.bd : Code := bodyOf Go.Proofs.Try.f34

noncomputable def impl_field_mod.fin {ρ : Type} (N : Nat) (K : AV → Heap → Option ρ) : XE → St → Option ρ := finK (E16 N) Go.Proofs.Try.f34 [] K

theorem impl_field_mod.eq {ρ : Type} (N : Nat) (K : AV → Heap → Option ρ) (f0 : Nat → Int) (x1 : Int) :
    xbody (E16 N) ents impl_field_mod.kp N Go.Proofs.Try.f34 impl_field_mod.bd [.agg [⟨.i64, 2, f0⟩], .int .i64 (x1)] [] K = (impl_field_mod N (fun d0 => K (.int .u8 (d0)) []) f0 x1) := by kernel_rfl

noncomputable def impl_field_mod.en (N : Nat) (ρ : Type) : List AV → Heap → (AV → Heap → Option ρ) → Option ρ
  | [.agg [⟨.i64, 2, f0⟩], .int .i64 (x1)], [], K => (impl_field_mod N (fun d0 => K (.int .u8 (d0)) []) f0 x1)
  | _, _, _ => none

theorem impl_field_mod.en_ok (N : Nat) (hE : EnvOk (E16 N) ents) (ρ : Type) (args : List AV) (sh : Heap) (K : AV → Heap → Option ρ) (r : ρ) (h : impl_field_mod.en N ρ args sh K = some r) : ∃ v sh', K v sh' = some r ∧ FnOk (E16 N).P 34 args sh v sh' := by
  unfold impl_field_mod.en at h
  split at h
  · exact fn_ok hE (kp := impl_field_mod.kp) (N := N) Go.Proofs.Try.func34 (c := impl_field_mod.bd) (by kernel_rfl) ((impl_field_mod.eq N _ _ _).trans h)
  · cases h

noncomputable def E17 (N : Nat) : Env := (E16 N).add 34 (impl_field_mod.en N)

theorem E17_ok (N : Nat) : EnvOk (E17 N) ents := Env.add_ok (E16_ok N) (impl_field_mod.en_ok N (E16_ok N))

noncomputable def impl_field_plus.kp : Keeps := ⟨[(0, [1, 2, 4, 12, 13], 3)], [(0, [], 3)]⟩

noncomputable def impl_field_plus.bd : Code := bodyOf Go.Proofs.Try.f29

noncomputable def impl_field_plus.fin {ρ : Type} (N : Nat) (K : AV → Heap → Option ρ) (g3 : Nat → Int) : XE → St → Option ρ := finK (E17 N) Go.Proofs.Try.f29 [⟨true, .ints .u8 8 g3⟩] K

noncomputable def impl_field_plus.k0 {ρ : Type} (N : Nat) (K : AV → Heap → Option ρ) (g3 : Nat → Int) : XE → St → Option ρ := (blockK impl_field_plus.kp 1 0 (impl_field_plus.fin N K g3))

theorem impl_field_plus.k0_mix {ρ : Type} (N : Nat) (K : AV → Heap → Option ρ) (g3 : Nat → Int) : mixK (impl_field_plus.fin N K g3 .ret) (impl_field_plus.k0 N K g3) = (impl_field_plus.k0 N K g3) := by
  funext e s; cases e <;> rfl

noncomputable def impl_field_plus.st0 (f0 : Nat → Int) (k1 : Int) (w2 : Nat → Int) (x4 : Int) (g5 : Nat → Int) : St := ⟨sl 35 [(1, .sptr [(0, 8)]), (2, .int .i64 (k1)), (4, .sptr [(1, 2)]), (12, .agg [⟨.u8, 8, w2⟩]), (13, .int .i64 (x4))], [⟨true, .ints .u8 8 g5⟩, ⟨true, .ints .i64 2 f0⟩, ⟨true, .ints .u8 8 w2⟩]⟩

noncomputable def impl_field_plus.sx0_0 (f0 : Nat → Int) (w2 : Nat → Int) (o7 : Nat → Int) : St := ⟨sl 35 [], [⟨true, .ints .u8 8 o7⟩, ⟨true, .ints .i64 2 f0⟩, ⟨true, .ints .u8 8 w2⟩]⟩

theorem impl_field_plus.b0_gen {ρ : Type} (N : Nat) (K : AV → Heap → Option ρ) (L0 : St → Option ρ) (kv : XE → St → Option ρ) (f0 : Nat → Int) (k1 : Int) (w2 : Nat → Int) (g3 : Nat → Int) (x4 : Int) (g5 : Nat → Int) :
    xcode (E17 N) ents impl_field_plus.kp 1 N (cL (cK (cB (cB (cB impl_field_plus.bd))))) 0 (impl_field_plus.st0 f0 k1 w2 x4 g5) (roundK impl_field_plus.kp 1 0 L0 (mixK (impl_field_plus.fin N K g3 .ret) kv)) = (impl_field_plus.b0 N (fun d0 => K (.tup []) [⟨true, .ints .u8 8 d0⟩]) (fun x4 g5 => L0 (impl_field_plus.st0 f0 k1 w2 x4 g5)) (fun o7 => kv (.exit 0) (impl_field_plus.sx0_0 f0 w2 o7)) f0 k1 w2 x4 g5) := by kernel_rfl

theorem impl_field_plus.b0_eq {ρ : Type} (N : Nat) (K : AV → Heap → Option ρ) (L0 : St → Option ρ) (f0 : Nat → Int) (k1 : Int) (w2 : Nat → Int) (g3 : Nat → Int) (x4 : Int) (g5 : Nat → Int) :
    xcode (E17 N) ents impl_field_plus.kp 1 N (cL (cK (cB (cB (cB impl_field_plus.bd))))) 0 (impl_field_plus.st0 f0 k1 w2 x4 g5) (roundK impl_field_plus.kp 1 0 L0 (impl_field_plus.k0 N K g3)) = (impl_field_plus.b0 N (fun d0 => K (.tup []) [⟨true, .ints .u8 8 d0⟩]) (fun x4 g5 => L0 (impl_field_plus.st0 f0 k1 w2 x4 g5)) (fun o7 => (impl_field_plus.k0 N K g3) (.exit 0) (impl_field_plus.sx0_0 f0 w2 o7)) f0 k1 w2 x4 g5) := by
  have h := impl_field_plus.b0_gen N K L0 (impl_field_plus.k0 N K g3) f0 k1 w2 g3 x4 g5
  rw [impl_field_plus.k0_mix] at h
  exact h

theorem impl_field_plus.a0_0_eq {ρ : Type} (N : Nat) (K : AV → Heap → Option ρ) (f0 : Nat → Int) (w2 : Nat → Int) (g3 : Nat → Int) (o7 : Nat → Int) :
    (impl_field_plus.k0 N K g3) (.exit 0) (impl_field_plus.sx0_0 f0 w2 o7) = (impl_field_plus.a0_0 N (fun d0 => K (.tup []) [⟨true, .ints .u8 8 d0⟩]) o7) := by kernel_rfl

theorem impl_field_plus.l0_eq {ρ : Type} (N : Nat) (K : AV → Heap → Option ρ) (f0 : Nat → Int) (k1 : Int) (w2 : Nat → Int) (g3 : Nat → Int) :
    ∀ (m : Nat) (x4 : Int) (g5 : Nat → Int), xloop (xcode (E17 N) ents impl_field_plus.kp 1 N (cL (cK (cB (cB (cB impl_field_plus.bd))))) 0) impl_field_plus.kp 1 0 m (impl_field_plus.st0 f0 k1 w2 x4 g5) (impl_field_plus.k0 N K g3) = (impl_field_plus.l0 N (fun d0 => K (.tup []) [⟨true, .ints .u8 8 d0⟩]) f0 k1 w2 (fun o7 => (impl_field_plus.k0 N K g3) (.exit 0) (impl_field_plus.sx0_0 f0 w2 o7)) m x4 g5) := by
  intro m
  induction m with
  | zero => intros; rfl
  | succ m ih =>
    intro x4 g5
    refine (impl_field_plus.b0_eq N K (fun s => xloop (xcode (E17 N) ents impl_field_plus.kp 1 N (cL (cK (cB (cB (cB impl_field_plus.bd))))) 0) impl_field_plus.kp 1 0 m s (impl_field_plus.k0 N K g3)) f0 k1 w2 g3 x4 g5).trans ?_
    simp only [ih]
    kernel_rfl

theorem impl_field_plus.s_eq {ρ : Type} (N : Nat) (K : AV → Heap → Option ρ) (f0 : Nat → Int) (k1 : Int) (w2 : Nat → Int) (g3 : Nat → Int) :
    xbody (E17 N) ents impl_field_plus.kp N Go.Proofs.Try.f29 impl_field_plus.bd [.agg [⟨.i64, 2, f0⟩], .sptr [(0, 8)], .int .i64 (k1), .agg [⟨.u8, 8, w2⟩]] [⟨true, .ints .u8 8 g3⟩] K = (impl_field_plus.s N (fun d0 => K (.tup []) [⟨true, .ints .u8 8 d0⟩]) (fun x4 g5 => xloop (xcode (E17 N) ents impl_field_plus.kp 1 N (cL (cK (cB (cB (cB impl_field_plus.bd))))) 0) impl_field_plus.kp 1 0 N (impl_field_plus.st0 f0 k1 w2 x4 g5) (impl_field_plus.k0 N K g3)) k1 g3) := by kernel_rfl

theorem impl_field_plus.eq {ρ : Type} (N : Nat) (K : AV → Heap → Option ρ) (f0 : Nat → Int) (k1 : Int) (w2 : Nat → Int) (g3 : Nat → Int) :
    xbody (E17 N) ents impl_field_plus.kp N Go.Proofs.Try.f29 impl_field_plus.bd [.agg [⟨.i64, 2, f0⟩], .sptr [(0, 8)], .int .i64 (k1), .agg [⟨.u8, 8, w2⟩]] [⟨true, .ints .u8 8 g3⟩] K = (impl_field_plus N (fun d0 => K (.tup []) [⟨true, .ints .u8 8 d0⟩]) f0 k1 w2 g3) := by
  refine (impl_field_plus.s_eq N K f0 k1 w2 g3).trans ?_
  simp only [impl_field_plus.l0_eq, impl_field_plus.a0_0_eq]
  kernel_rfl

noncomputable def impl_field_plus.en (N : Nat) (ρ : Type) : List AV → Heap → (AV → Heap → Option ρ) → Option ρ
  | [.agg [⟨.i64, 2, f0⟩], .sptr [(0, 8)], .int .i64 (k1), .agg [⟨.u8, 8, w2⟩]], [⟨true, .ints .u8 8 g3⟩], K => (impl_field_plus N (fun d0 => K (.tup []) [⟨true, .ints .u8 8 d0⟩]) f0 k1 w2 g3)
  | _, _, _ => none

theorem impl_field_plus.en_ok (N : Nat) (hE : EnvOk (E17 N) ents) (ρ : Type) (args : List AV) (sh : Heap) (K : AV → Heap → Option ρ) (r : ρ) (h : impl_field_plus.en N ρ args sh K = some r) : ∃ v sh', K v sh' = some r ∧ FnOk (E17 N).P 29 args sh v sh' := by
  unfold impl_field_plus.en at h
  split at h
  · exact fn_ok hE (kp := impl_field_plus.kp) (N := N) Go.Proofs.Try.func29 (c := impl_field_plus.bd) (by kernel_rfl) ((impl_field_plus.eq N _ _ _ _ _).trans h)
  · cases h

noncomputable def E18 (N : Nat) : Env := (E17 N).add 29 (impl_field_plus.en N)

theorem E18_ok (N : Nat) : EnvOk (E18 N) ents := Env.add_ok (E17_ok N) (impl_field_plus.en_ok N (E17_ok N))

noncomputable def impl_field_times.kp : Keeps := ⟨[], []⟩

noncomputable def impl_field_times.bd : Code := bodyOf Go.Proofs.Try.f22

noncomputable def impl_field_times.fin {ρ : Type} (N : Nat) (K : AV → Heap → Option ρ) : XE → St → Option ρ := finK (E18 N) Go.Proofs.Try.f22 [] K

theorem impl_field_times.eq {ρ : Type} (N : Nat) (K : AV → Heap → Option ρ) (f0 : Nat → Int) (k1 : Int) (w2 : Nat → Int) :
    xbody (E18 N) ents impl_field_times.kp N Go.Proofs.Try.f22 impl_field_times.bd [.agg [⟨.i64, 2, f0⟩], .int .i64 (k1), .agg [⟨.u8, 8, w2⟩]] [] K = (impl_field_times N (fun d0 => K (.agg [⟨.u8, 8, d0⟩]) []) f0 k1 w2) := by kernel_rfl

noncomputable def impl_field_times.en (N : Nat) (ρ : Type) : List AV → Heap → (AV → Heap → Option ρ) → Option ρ
  | [.agg [⟨.i64, 2, f0⟩], .int .i64 (k1), .agg [⟨.u8, 8, w2⟩]], [], K => (impl_field_times N (fun d0 => K (.agg [⟨.u8, 8, d0⟩]) []) f0 k1 w2)
  | _, _, _ => none

theorem impl_field_times.en_ok (N : Nat) (hE : EnvOk (E18 N) ents) (ρ : Type) (args : List AV) (sh : Heap) (K : AV → Heap → Option ρ) (r : ρ) (h : impl_field_times.en N ρ args sh K = some r) : ∃ v sh', K v sh' = some r ∧ FnOk (E18 N).P 22 args sh v sh' := by
  unfold impl_field_times.en at h
  split at h
  · exact fn_ok hE (kp := impl_field_times.kp) (N := N) Go.Proofs.Try.func22 (c := impl_field_times.bd) (by kernel_rfl) ((impl_field_times.eq N _ _ _ _).trans h)
  · cases h

noncomputable def E19 (N : Nat) : Env := (E18 N).add 22 (impl_field_times.en N)

theorem E19_ok (N : Nat) : EnvOk (E19 N) ents := Env.add_ok (E18_ok N) (impl_field_times.en_ok N (E18_ok N))

noncomputable def impl_field_pair.kp : Keeps := ⟨[(0, [3, 5, 6, 7, 11, 12], 5)], [(0, [6, 7], 5)]⟩

noncomputable def impl_field_pair.bd : Code := bodyOf Go.Proofs.Try.f23

noncomputable def impl_field_pair.fin {ρ : Type} (N : Nat) (K : AV → Heap → Option ρ) : XE → St → Option ρ := finK (E19 N) Go.Proofs.Try.f23 [] K

noncomputable def impl_field_pair.k0 {ρ : Type} (N : Nat) (K : AV → Heap → Option ρ) : XE → St → Option ρ := (blockK impl_field_pair.kp 0 0 (seqK (xcode (E19 N) ents impl_field_pair.kp 0 N (cB (cB (cB impl_field_pair.bd))) 0) (impl_field_pair.fin N K)))

theorem impl_field_pair.k0_mix {ρ : Type} (N : Nat) (K : AV → Heap → Option ρ) : mixK (impl_field_pair.fin N K .ret) (impl_field_pair.k0 N K) = (impl_field_pair.k0 N K) := by
  funext e s; cases e <;> rfl

noncomputable def impl_field_pair.st0 (f0 : Nat → Int) (v1 : Nat → Int) (w2 : Nat → Int) (x3 : Int) (g4 : Nat → Int) : St := ⟨sl 25 [(3, .sptr [(0, 2)]), (5, .sptr [(2, 8)]), (6, .sptr [(3, 64)]), (7, .sptr [(4, 64)]), (11, .agg [⟨.u8, 8, v1⟩]), (12, .int .i64 (x3))], [⟨true, .ints .i64 2 f0⟩, ⟨true, .ints .u8 8 v1⟩, ⟨true, .ints .u8 8 w2⟩, ⟨true, .ints .u8 64 (fun _ => 0)⟩, ⟨true, .ints .u8 64 g4⟩]⟩

noncomputable def impl_field_pair.sx0_0 (f0 : Nat → Int) (v1 : Nat → Int) (w2 : Nat → Int) (o6 : Nat → Int) : St := ⟨sl 25 [(6, .sptr [(3, 64)]), (7, .sptr [(4, 64)])], [⟨true, .ints .i64 2 f0⟩, ⟨true, .ints .u8 8 v1⟩, ⟨true, .ints .u8 8 w2⟩, ⟨true, .ints .u8 64 (fun _ => 0)⟩, ⟨true, .ints .u8 64 o6⟩]⟩

theorem impl_field_pair.b0_gen {ρ : Type} (N : Nat) (K : AV → Heap → Option ρ) (L0 : St → Option ρ) (kv : XE → St → Option ρ) (f0 : Nat → Int) (v1 : Nat → Int) (w2 : Nat → Int) (x3 : Int) (g4 : Nat → Int) :
    xcode (E19 N) ents impl_field_pair.kp 0 N (cL (cK (cB (cA (cB (cB impl_field_pair.bd)))))) 0 (impl_field_pair.st0 f0 v1 w2 x3 g4) (roundK impl_field_pair.kp 0 0 L0 (mixK (impl_field_pair.fin N K .ret) kv)) = (impl_field_pair.b0 N (fun d0 => K (.agg [⟨.u8, 64, d0⟩]) []) (fun x3 g4 => L0 (impl_field_pair.st0 f0 v1 w2 x3 g4)) (fun o6 => kv (.exit 0) (impl_field_pair.sx0_0 f0 v1 w2 o6)) f0 v1 w2 x3 g4) := by kernel_rfl

theorem impl_field_pair.b0_eq {ρ : Type} (N : Nat) (K : AV → Heap → Option ρ) (L0 : St → Option ρ) (f0 : Nat → Int) (v1 : Nat → Int) (w2 : Nat → Int) (x3 : Int) (g4 : Nat → Int) :
    xcode (E19 N) ents impl_field_pair.kp 0 N (cL (cK (cB (cA (cB (cB impl_field_pair.bd)))))) 0 (impl_field_pair.st0 f0 v1 w2 x3 g4) (roundK impl_field_pair.kp 0 0 L0 (impl_field_pair.k0 N K)) = (impl_field_pair.b0 N (fun d0 => K (.agg [⟨.u8, 64, d0⟩]) []) (fun x3 g4 => L0 (impl_field_pair.st0 f0 v1 w2 x3 g4)) (fun o6 => (impl_field_pair.k0 N K) (.exit 0) (impl_field_pair.sx0_0 f0 v1 w2 o6)) f0 v1 w2 x3 g4) := by
  have h := impl_field_pair.b0_gen N K L0 (impl_field_pair.k0 N K) f0 v1 w2 x3 g4
  rw [impl_field_pair.k0_mix] at h
  exact h

theorem impl_field_pair.a0_0_eq {ρ : Type} (N : Nat) (K : AV → Heap → Option ρ) (f0 : Nat → Int) (v1 : Nat → Int) (w2 : Nat → Int) (o6 : Nat → Int) :
    (impl_field_pair.k0 N K) (.exit 0) (impl_field_pair.sx0_0 f0 v1 w2 o6) = (impl_field_pair.a0_0 N (fun d0 => K (.agg [⟨.u8, 64, d0⟩]) []) o6) := by kernel_rfl

theorem impl_field_pair.l0_eq {ρ : Type} (N : Nat) (K : AV → Heap → Option ρ) (f0 : Nat → Int) (v1 : Nat → Int) (w2 : Nat → Int) :
    ∀ (m : Nat) (x3 : Int) (g4 : Nat → Int), xloop (xcode (E19 N) ents impl_field_pair.kp 0 N (cL (cK (cB (cA (cB (cB impl_field_pair.bd)))))) 0) impl_field_pair.kp 0 0 m (impl_field_pair.st0 f0 v1 w2 x3 g4) (impl_field_pair.k0 N K) = (impl_field_pair.l0 N (fun d0 => K (.agg [⟨.u8, 64, d0⟩]) []) f0 v1 w2 (fun o6 => (impl_field_pair.k0 N K) (.exit 0) (impl_field_pair.sx0_0 f0 v1 w2 o6)) m x3 g4) := by
  intro m
  induction m with
  | zero => intros; rfl
  | succ m ih =>
    intro x3 g4
    refine (impl_field_pair.b0_eq N K (fun s => xloop (xcode (E19 N) ents impl_field_pair.kp 0 N (cL (cK (cB (cA (cB (cB impl_field_pair.bd)))))) 0) impl_field_pair.kp 0 0 m s (impl_field_pair.k0 N K)) f0 v1 w2 x3 g4).trans ?_
    simp only [ih]
    kernel_rfl

theorem impl_field_pair.s_eq {ρ : Type} (N : Nat) (K : AV → Heap → Option ρ) (f0 : Nat → Int) (v1 : Nat → Int) (w2 : Nat → Int) :
    xbody (E19 N) ents impl_field_pair.kp N Go.Proofs.Try.f23 impl_field_pair.bd [.agg [⟨.i64, 2, f0⟩], .agg [⟨.u8, 8, v1⟩], .agg [⟨.u8, 8, w2⟩]] [] K = (impl_field_pair.s N (fun d0 => K (.agg [⟨.u8, 64, d0⟩]) []) (fun x3 g4 => xloop (xcode (E19 N) ents impl_field_pair.kp 0 N (cL (cK (cB (cA (cB (cB impl_field_pair.bd)))))) 0) impl_field_pair.kp 0 0 N (impl_field_pair.st0 f0 v1 w2 x3 g4) (impl_field_pair.k0 N K))) := by kernel_rfl

theorem impl_field_pair.eq {ρ : Type} (N : Nat) (K : AV → Heap → Option ρ) (f0 : Nat → Int) (v1 : Nat → Int) (w2 : Nat → Int) :
    xbody (E19 N) ents impl_field_pair.kp N Go.Proofs.Try.f23 impl_field_pair.bd [.agg [⟨.i64, 2, f0⟩], .agg [⟨.u8, 8, v1⟩], .agg [⟨.u8, 8, w2⟩]] [] K = (impl_field_pair N (fun d0 => K (.agg [⟨.u8, 64, d0⟩]) []) f0 v1 w2) := by
  refine (impl_field_pair.s_eq N K f0 v1 w2).trans ?_
  simp only [impl_field_pair.l0_eq, impl_field_pair.a0_0_eq]
  kernel_rfl

noncomputable def impl_field_pair.en (N : Nat) (ρ : Type) : List AV → Heap → (AV → Heap → Option ρ) → Option ρ
  | [.agg [⟨.i64, 2, f0⟩], .agg [⟨.u8, 8, v1⟩], .agg [⟨.u8, 8, w2⟩]], [], K => (impl_field_pair N (fun d0 => K (.agg [⟨.u8, 64, d0⟩]) []) f0 v1 w2)
  | _, _, _ => none

theorem impl_field_pair.en_ok (N : Nat) (hE : EnvOk (E19 N) ents) (ρ : Type) (args : List AV) (sh : Heap) (K : AV → Heap → Option ρ) (r : ρ) (h : impl_field_pair.en N ρ args sh K = some r) : ∃ v sh', K v sh' = some r ∧ FnOk (E19 N).P 23 args sh v sh' := by
  unfold impl_field_pair.en at h
  split at h
  · exact fn_ok hE (kp := impl_field_pair.kp) (N := N) Go.Proofs.Try.func23 (c := impl_field_pair.bd) (by kernel_rfl) ((impl_field_pair.eq N _ _ _ _).trans h)
  · cases h

noncomputable def E20 (N : Nat) : Env := (E19 N).add 23 (impl_field_pair.en N)

theorem E20_ok (N : Nat) : EnvOk (E20 N) ents := Env.add_ok (E19_ok N) (impl_field_pair.en_ok N (E19_ok N))
end Go.Proofs.Ytjnfeffflkgddaa.H
