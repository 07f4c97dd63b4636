import Derived.Test.YtfdkkcaolajhoaaDoorHP0
import Derived.Test.YtfdkkcaolajhoaaDoorChecked
import Derived.KernelRfl
import Derived.Test.YtfdkkcaolajhoaaDoorHCon
namespace Go.Proofs.YtfdkkcaolajhoaaDoor.H
noncomputable section
set_option linter.unusedVariables false
set_option linter.unusedSimpArgs false
open Go Go.RowKit Go.Proofs.YtfdkkcaolajhoaaDoor.Hy
set_option maxRecDepth 100000
def lays : List Lay := [.other, .func, .int .i64, .int .i64, .bool, .int .u8, .int .u8, .mix [(0, 1, false), (1, 1, false), (2, 1, false), (3, 1, false)] [.int .i64, .int .i64, .bool, .int .u8], .mix [(0, 1, false), (1, 1, false), (2, 1, false), (3, 1, false)] [.int .i64, .int .i64, .bool, .int .u8], .str, .str, .str, .int .u64, .mix [(0, 1, false), (1, 1, false)] [.str, .int .u64], .mix [(0, 1, false), (1, 1, false)] [.str, .int .u64], .ptr, .ptr, .ptr, .other, .other, .other, .int .i32, .arr 8 5 1 .u8, .other, .func, .arr 8 5 1 .u8, .func, .func, .other, .func, .func, .func, .func, .func, .func, .other, .func, .slice 9 1 16, .func, .int .u64, .other, .other, .other, .func, .func, .func, .func, .slice 5 1 1, .func, .func, .func, .func, .func, .func, .ptr, .other, .other, .func, .other, .func, .func, .func, .func, .int .i64, .func, .int .u64, .func, .ptr, .func, .func, .func, .ptr, .func, .other, .func, .func, .func, .other, .other, .func, .arr 24 5 1 .u8, .func, .func, .other, .func, .other, .func, .func, .func, .ptr, .mix [(0, 1, false)] [.str], .mix [(0, 1, false)] [.str], .func, .arr 20 39 1 .u64, .int .u32, .arr 65 5 1 .u8, .func, .func, .arr 256 5 1 .u8, .struct [(0, 1, false), (1, 1, false)] [(.u8, 2)], .struct [(0, 1, false), (1, 1, false)] [(.u8, 2)], .other, .other, .func, .func, .arr 32 5 1 .u8, .arr 64 5 1 .u8, .other, .other, .other, .other, .other, .func, .int .u8, .int .u8, .func, .int .i32, .int .i32, .other, .other]
def wrs : List (FuncId × List Bool) := []
def ents : List FuncId := [3, 5, 6, 7, 11, 12, 13, 14, 15, 19, 20, 21, 22, 23, 24, 25, 26]
def E0 (N : Nat) : Env := env0 Go.Proofs.Tryd.prog lays wrs
theorem E0_ok (N : Nat) : EnvOk (E0 N) ents := env0_ok (by kernel_rfl) (by kernel_rfl) (by kernel_rfl)
def laws_toVector.kp : Keeps := ⟨[(0, [1, 2, 3, 4], [], [])], [(0, [2, 3], [], [])], []⟩
def laws_toVector.bd : Code := bodyOf Go.Proofs.Tryd.f6
def laws_toVector.fin {ρ : Type} (N : Nat) (K : AV → Heap → Option ρ) : XE → St → Option ρ := finK (E0 N) laws_toVector.kp.fins Go.Proofs.Tryd.f6 [] K
def laws_toVector.k0 {ρ : Type} (N : Nat) (K : AV → Heap → Option ρ) : XE → St → Option ρ := (blockK laws_toVector.kp 0 0 (seqK (xcode (E0 N) ents laws_toVector.kp 0 N (cB (cB (cB laws_toVector.bd))) 0) (laws_toVector.fin N K)))
theorem laws_toVector.k0_mix {ρ : Type} (N : Nat) (K : AV → Heap → Option ρ) : mixK (laws_toVector.fin N K .ret) (laws_toVector.k0 N K) = (laws_toVector.k0 N K) := by
  funext e s; cases e <;> kernel_rfl
def laws_toVector.st0 (av0 : Nat → Int) (i1 : Int) (gv2 : Nat → Int) : St := ⟨sl 15 [(1, .sptr [(0, 8)]), (2, .sptr [(1, 8)]), (3, .sptr [(2, 8)]), (4, .int .i64 (i1))], [⟨true, .flat 8 (.ints .u8 av0)⟩, ⟨true, .flat 8 (.ints .u8 (fun _ => 0))⟩, ⟨true, .flat 8 (.ints .u8 gv2)⟩]⟩
def laws_toVector.sx0_0 (ov3 : Nat → Int) : St := ⟨sl 15 [(2, .sptr [(0, 8)]), (3, .sptr [(1, 8)])], [⟨true, .flat 8 (.ints .u8 (fun _ => 0))⟩, ⟨true, .flat 8 (.ints .u8 ov3)⟩]⟩
theorem laws_toVector.b0_gen {ρ : Type} (N : Nat) (K : AV → Heap → Option ρ) (L0 : St → Option ρ) (kv : XE → St → Option ρ) (av0 : Nat → Int) (i1 : Int) (gv2 : Nat → Int) :
    xcode (E0 N) ents laws_toVector.kp 0 N (cL (cK (cB (cA (cB (cB laws_toVector.bd)))))) 0 (laws_toVector.st0 av0 i1 gv2) (roundK laws_toVector.kp 0 0 L0 (mixK (laws_toVector.fin N K .ret) kv)) = (laws_toVector.b0 N (fun d0 => K (.agg [⟨.u8, 8, d0⟩]) []) (fun i1 gv2 => L0 (laws_toVector.st0 av0 i1 gv2)) (fun ov3 => kv (.exit 0) (laws_toVector.sx0_0 ov3)) av0 i1 gv2) := by kernel_rfl
theorem laws_toVector.b0_eq {ρ : Type} (N : Nat) (K : AV → Heap → Option ρ) (L0 : St → Option ρ) (av0 : Nat → Int) (i1 : Int) (gv2 : Nat → Int) :
    xcode (E0 N) ents laws_toVector.kp 0 N (cL (cK (cB (cA (cB (cB laws_toVector.bd)))))) 0 (laws_toVector.st0 av0 i1 gv2) (roundK laws_toVector.kp 0 0 L0 (laws_toVector.k0 N K)) = (laws_toVector.b0 N (fun d0 => K (.agg [⟨.u8, 8, d0⟩]) []) (fun i1 gv2 => L0 (laws_toVector.st0 av0 i1 gv2)) (fun ov3 => (laws_toVector.k0 N K) (.exit 0) (laws_toVector.sx0_0 ov3)) av0 i1 gv2) := by
  have h := laws_toVector.b0_gen N K L0 (laws_toVector.k0 N K) av0 i1 gv2
  rw [laws_toVector.k0_mix] at h
  exact h
theorem laws_toVector.a0_0_eq {ρ : Type} (N : Nat) (K : AV → Heap → Option ρ) (ov3 : Nat → Int) :
    (laws_toVector.k0 N K) (.exit 0) (laws_toVector.sx0_0 ov3) = (laws_toVector.a0_0 N (fun d0 => K (.agg [⟨.u8, 8, d0⟩]) []) ov3) := by kernel_rfl
theorem laws_toVector.l0_eq {ρ : Type} (N : Nat) (K : AV → Heap → Option ρ) (av0 : Nat → Int) :
    ∀ (m : Nat) (i1 : Int) (gv2 : Nat → Int), xloop (xcode (E0 N) ents laws_toVector.kp 0 N (cL (cK (cB (cA (cB (cB laws_toVector.bd)))))) 0) laws_toVector.kp 0 0 m (laws_toVector.st0 av0 i1 gv2) (laws_toVector.k0 N K) = (laws_toVector.l0 N (fun d0 => K (.agg [⟨.u8, 8, d0⟩]) []) av0 (fun ov3 => (laws_toVector.k0 N K) (.exit 0) (laws_toVector.sx0_0 ov3)) m i1 gv2) := by
  intro m
  induction m with
  | zero => intros; rfl
  | succ m ih =>
    intro i1 gv2
    refine (laws_toVector.b0_eq N K (fun s => xloop (xcode (E0 N) ents laws_toVector.kp 0 N (cL (cK (cB (cA (cB (cB laws_toVector.bd)))))) 0) laws_toVector.kp 0 0 m s (laws_toVector.k0 N K)) av0 i1 gv2).trans ?_
    simp only [ih]
    kernel_rfl
theorem laws_toVector.s_eq {ρ : Type} (N : Nat) (K : AV → Heap → Option ρ) (av0 : Nat → Int) :
    xbody (E0 N) ents laws_toVector.kp N Go.Proofs.Tryd.f6 laws_toVector.bd [.agg [⟨.u8, 8, av0⟩]] [] K = (laws_toVector.s N (fun d0 => K (.agg [⟨.u8, 8, d0⟩]) []) (fun i1 gv2 => xloop (xcode (E0 N) ents laws_toVector.kp 0 N (cL (cK (cB (cA (cB (cB laws_toVector.bd)))))) 0) laws_toVector.kp 0 0 N (laws_toVector.st0 av0 i1 gv2) (laws_toVector.k0 N K))) := by kernel_rfl
theorem laws_toVector.eq {ρ : Type} (N : Nat) (K : AV → Heap → Option ρ) (av0 : Nat → Int) :
    xbody (E0 N) ents laws_toVector.kp N Go.Proofs.Tryd.f6 laws_toVector.bd [.agg [⟨.u8, 8, av0⟩]] [] K = (laws_toVector N (fun d0 => K (.agg [⟨.u8, 8, d0⟩]) []) av0) := by
  refine (laws_toVector.s_eq N K av0).trans ?_
  simp only [laws_toVector.l0_eq, laws_toVector.a0_0_eq]
  kernel_rfl
def laws_toVector.en (N : Nat) (ρ : Type) : List AV → Heap → (AV → Heap → Option ρ) → Option ρ
  | [.agg [⟨.u8, 8, av0⟩]], [], K => (laws_toVector N (fun d0 => K (.agg [⟨.u8, 8, d0⟩]) []) av0)
  | _, _, _ => none
theorem laws_toVector.en_ok (N : Nat) (hE : EnvOk (E0 N) ents) (ρ : Type) (args : List AV) (sh : Heap) (K : AV → Heap → Option ρ) (r : ρ) (h : laws_toVector.en N ρ args sh K = some r) : ∃ v sh', K v sh' = some r ∧ FnOk (E0 N).P 6 args sh v sh' := by
  unfold laws_toVector.en at h
  split at h
  · exact fn_ok hE (kp := laws_toVector.kp) (N := N) Go.Proofs.Tryd.func6 (c := laws_toVector.bd) (by kernel_rfl) ((laws_toVector.eq N _ _).trans h)
  · cases h
def E1 (N : Nat) : Env := (E0 N).add 6 (laws_toVector.en N)
theorem E1_ok (N : Nat) : EnvOk (E1 N) ents := Env.add_ok (E0_ok N) (laws_toVector.en_ok N (E0_ok N))
def spec_l01In.kp : Keeps := ⟨[], [], []⟩
def spec_l01In.bd : Code := bodyOf Go.Proofs.Tryd.f26
def spec_l01In.fin {ρ : Type} (N : Nat) (K : AV → Heap → Option ρ) : XE → St → Option ρ := finK (E1 N) spec_l01In.kp.fins Go.Proofs.Tryd.f26 [] K
theorem spec_l01In.eq {ρ : Type} (N : Nat) (K : AV → Heap → Option ρ) (nv0 : Int) (low1 : Int) (high2 : Int) :
    xbody (E1 N) ents spec_l01In.kp N Go.Proofs.Tryd.f26 spec_l01In.bd [.int .i64 (nv0), .int .i64 (low1), .int .i64 (high2)] [] K = (spec_l01In N (fun d0 => K (.bool (d0)) []) nv0 low1 high2) := by kernel_rfl
def spec_l01In.en (N : Nat) (ρ : Type) : List AV → Heap → (AV → Heap → Option ρ) → Option ρ
  | [.int .i64 (nv0), .int .i64 (low1), .int .i64 (high2)], [], K => (spec_l01In N (fun d0 => K (.bool (d0)) []) nv0 low1 high2)
  | _, _, _ => none
theorem spec_l01In.en_ok (N : Nat) (hE : EnvOk (E1 N) ents) (ρ : Type) (args : List AV) (sh : Heap) (K : AV → Heap → Option ρ) (r : ρ) (h : spec_l01In.en N ρ args sh K = some r) : ∃ v sh', K v sh' = some r ∧ FnOk (E1 N).P 26 args sh v sh' := by
  unfold spec_l01In.en at h
  split at h
  · exact fn_ok hE (kp := spec_l01In.kp) (N := N) Go.Proofs.Tryd.func26 (c := spec_l01In.bd) (by kernel_rfl) ((spec_l01In.eq N _ _ _ _).trans h)
  · cases h
def E2 (N : Nat) : Env := (E1 N).add 26 (spec_l01In.en N)
theorem E2_ok (N : Nat) : EnvOk (E2 N) ents := Env.add_ok (E1_ok N) (spec_l01In.en_ok N (E1_ok N))
def spec_l01Prime.kp : Keeps := ⟨[(0, [0, 3], [], [])], [(0, [0], [], [])], []⟩
def spec_l01Prime.bd : Code := bodyOf Go.Proofs.Tryd.f25
def spec_l01Prime.fin {ρ : Type} (N : Nat) (K : AV → Heap → Option ρ) : XE → St → Option ρ := finK (E2 N) spec_l01Prime.kp.fins Go.Proofs.Tryd.f25 [] K
def spec_l01Prime.k0 {ρ : Type} (N : Nat) (K : AV → Heap → Option ρ) : XE → St → Option ρ := (blockK spec_l01Prime.kp 0 0 (seqK (xcode (E2 N) ents spec_l01Prime.kp 0 N (cB (cB spec_l01Prime.bd)) 0) (spec_l01Prime.fin N K)))
theorem spec_l01Prime.k0_mix {ρ : Type} (N : Nat) (K : AV → Heap → Option ρ) : mixK (spec_l01Prime.fin N K .ret) (spec_l01Prime.k0 N K) = (spec_l01Prime.k0 N K) := by
  funext e s; cases e <;> kernel_rfl
def spec_l01Prime.st0 (p0 : Int) (k1 : Int) : St := ⟨sl 19 [(0, .int .i64 (p0)), (3, .int .i64 (k1))], []⟩
def spec_l01Prime.sx0_0 (p0 : Int) : St := ⟨sl 19 [(0, .int .i64 (p0))], []⟩
theorem spec_l01Prime.b0_gen {ρ : Type} (N : Nat) (K : AV → Heap → Option ρ) (L0 : St → Option ρ) (kv : XE → St → Option ρ) (p0 : Int) (k1 : Int) :
    xcode (E2 N) ents spec_l01Prime.kp 0 N (cL (cK (cB (cA (cB spec_l01Prime.bd))))) 0 (spec_l01Prime.st0 p0 k1) (roundK spec_l01Prime.kp 0 0 L0 (mixK (spec_l01Prime.fin N K .ret) kv)) = (spec_l01Prime.b0 N (fun d0 => K (.bool (d0)) []) (fun k1 => L0 (spec_l01Prime.st0 p0 k1)) (kv (.exit 0) (spec_l01Prime.sx0_0 p0)) p0 k1) := by kernel_rfl
theorem spec_l01Prime.b0_eq {ρ : Type} (N : Nat) (K : AV → Heap → Option ρ) (L0 : St → Option ρ) (p0 : Int) (k1 : Int) :
    xcode (E2 N) ents spec_l01Prime.kp 0 N (cL (cK (cB (cA (cB spec_l01Prime.bd))))) 0 (spec_l01Prime.st0 p0 k1) (roundK spec_l01Prime.kp 0 0 L0 (spec_l01Prime.k0 N K)) = (spec_l01Prime.b0 N (fun d0 => K (.bool (d0)) []) (fun k1 => L0 (spec_l01Prime.st0 p0 k1)) ((spec_l01Prime.k0 N K) (.exit 0) (spec_l01Prime.sx0_0 p0)) p0 k1) := by
  have h := spec_l01Prime.b0_gen N K L0 (spec_l01Prime.k0 N K) p0 k1
  rw [spec_l01Prime.k0_mix] at h
  exact h
theorem spec_l01Prime.a0_0_eq {ρ : Type} (N : Nat) (K : AV → Heap → Option ρ) (p0 : Int) :
    (spec_l01Prime.k0 N K) (.exit 0) (spec_l01Prime.sx0_0 p0) = (spec_l01Prime.a0_0 N (fun d0 => K (.bool (d0)) []) p0) := by kernel_rfl
theorem spec_l01Prime.l0_eq {ρ : Type} (N : Nat) (K : AV → Heap → Option ρ) (p0 : Int) :
    ∀ (m : Nat) (k1 : Int), xloop (xcode (E2 N) ents spec_l01Prime.kp 0 N (cL (cK (cB (cA (cB spec_l01Prime.bd))))) 0) spec_l01Prime.kp 0 0 m (spec_l01Prime.st0 p0 k1) (spec_l01Prime.k0 N K) = (spec_l01Prime.l0 N (fun d0 => K (.bool (d0)) []) p0 ((spec_l01Prime.k0 N K) (.exit 0) (spec_l01Prime.sx0_0 p0)) m k1) := by
  intro m
  induction m with
  | zero => intros; rfl
  | succ m ih =>
    intro k1
    refine (spec_l01Prime.b0_eq N K (fun s => xloop (xcode (E2 N) ents spec_l01Prime.kp 0 N (cL (cK (cB (cA (cB spec_l01Prime.bd))))) 0) spec_l01Prime.kp 0 0 m s (spec_l01Prime.k0 N K)) p0 k1).trans ?_
    simp only [ih]
    kernel_rfl
theorem spec_l01Prime.s_eq {ρ : Type} (N : Nat) (K : AV → Heap → Option ρ) (p0 : Int) :
    xbody (E2 N) ents spec_l01Prime.kp N Go.Proofs.Tryd.f25 spec_l01Prime.bd [.int .i64 (p0)] [] K = (spec_l01Prime.s N (fun d0 => K (.bool (d0)) []) (fun k1 => xloop (xcode (E2 N) ents spec_l01Prime.kp 0 N (cL (cK (cB (cA (cB spec_l01Prime.bd))))) 0) spec_l01Prime.kp 0 0 N (spec_l01Prime.st0 p0 k1) (spec_l01Prime.k0 N K))) := by kernel_rfl
theorem spec_l01Prime.eq {ρ : Type} (N : Nat) (K : AV → Heap → Option ρ) (p0 : Int) :
    xbody (E2 N) ents spec_l01Prime.kp N Go.Proofs.Tryd.f25 spec_l01Prime.bd [.int .i64 (p0)] [] K = (spec_l01Prime N (fun d0 => K (.bool (d0)) []) p0) := by
  refine (spec_l01Prime.s_eq N K p0).trans ?_
  simp only [spec_l01Prime.l0_eq, spec_l01Prime.a0_0_eq]
  kernel_rfl
def spec_l01Prime.en (N : Nat) (ρ : Type) : List AV → Heap → (AV → Heap → Option ρ) → Option ρ
  | [.int .i64 (p0)], [], K => (spec_l01Prime N (fun d0 => K (.bool (d0)) []) p0)
  | _, _, _ => none
theorem spec_l01Prime.en_ok (N : Nat) (hE : EnvOk (E2 N) ents) (ρ : Type) (args : List AV) (sh : Heap) (K : AV → Heap → Option ρ) (r : ρ) (h : spec_l01Prime.en N ρ args sh K = some r) : ∃ v sh', K v sh' = some r ∧ FnOk (E2 N).P 25 args sh v sh' := by
  unfold spec_l01Prime.en at h
  split at h
  · exact fn_ok hE (kp := spec_l01Prime.kp) (N := N) Go.Proofs.Tryd.func25 (c := spec_l01Prime.bd) (by kernel_rfl) ((spec_l01Prime.eq N _ _).trans h)
  · cases h
def E3 (N : Nat) : Env := (E2 N).add 25 (spec_l01Prime.en N)
theorem E3_ok (N : Nat) : EnvOk (E3 N) ents := Env.add_ok (E2_ok N) (spec_l01Prime.en_ok N (E2_ok N))
def spec_l01Sizes.kp : Keeps := ⟨[], [], []⟩
def spec_l01Sizes.bd : Code := bodyOf Go.Proofs.Tryd.f15
def spec_l01Sizes.fin {ρ : Type} (N : Nat) (K : AV → Heap → Option ρ) : XE → St → Option ρ := finK (E3 N) spec_l01Sizes.kp.fins Go.Proofs.Tryd.f15 [] K
theorem spec_l01Sizes.eq {ρ : Type} (N : Nat) (K : AV → Heap → Option ρ) (p0 : Int) (nv1 : Int) :
    xbody (E3 N) ents spec_l01Sizes.kp N Go.Proofs.Tryd.f15 spec_l01Sizes.bd [.int .i64 (p0), .int .i64 (nv1)] [] K = (spec_l01Sizes N (fun d0 => K (.bool (d0)) []) p0 nv1) := by kernel_rfl
def spec_l01Sizes.en (N : Nat) (ρ : Type) : List AV → Heap → (AV → Heap → Option ρ) → Option ρ
  | [.int .i64 (p0), .int .i64 (nv1)], [], K => (spec_l01Sizes N (fun d0 => K (.bool (d0)) []) p0 nv1)
  | _, _, _ => none
theorem spec_l01Sizes.en_ok (N : Nat) (hE : EnvOk (E3 N) ents) (ρ : Type) (args : List AV) (sh : Heap) (K : AV → Heap → Option ρ) (r : ρ) (h : spec_l01Sizes.en N ρ args sh K = some r) : ∃ v sh', K v sh' = some r ∧ FnOk (E3 N).P 15 args sh v sh' := by
  unfold spec_l01Sizes.en at h
  split at h
  · exact fn_ok hE (kp := spec_l01Sizes.kp) (N := N) Go.Proofs.Tryd.func15 (c := spec_l01Sizes.bd) (by kernel_rfl) ((spec_l01Sizes.eq N _ _ _).trans h)
  · cases h
def E4 (N : Nat) : Env := (E3 N).add 15 (spec_l01Sizes.en N)
theorem E4_ok (N : Nat) : EnvOk (E4 N) ents := Env.add_ok (E3_ok N) (spec_l01Sizes.en_ok N (E3_ok N))
def spec_l01Vector.kp : Keeps := ⟨[(0, [0, 1, 5, 7], [], [])], [(0, [], [], [])], []⟩
def spec_l01Vector.bd : Code := bodyOf Go.Proofs.Tryd.f19
def spec_l01Vector.fin {ρ : Type} (N : Nat) (K : AV → Heap → Option ρ) : XE → St → Option ρ := finK (E4 N) spec_l01Vector.kp.fins Go.Proofs.Tryd.f19 [] K
def spec_l01Vector.k0 {ρ : Type} (N : Nat) (K : AV → Heap → Option ρ) : XE → St → Option ρ := (blockK spec_l01Vector.kp 0 0 (seqK (xcode (E4 N) ents spec_l01Vector.kp 0 N (cB (cB spec_l01Vector.bd)) 0) (spec_l01Vector.fin N K)))
theorem spec_l01Vector.k0_mix {ρ : Type} (N : Nat) (K : AV → Heap → Option ρ) : mixK (spec_l01Vector.fin N K .ret) (spec_l01Vector.k0 N K) = (spec_l01Vector.k0 N K) := by
  funext e s; cases e <;> kernel_rfl
def spec_l01Vector.st0 (p0 : Int) (nv1 : Int) (v2 : Nat → Int) (i3 : Int) : St := ⟨sl 29 [(0, .int .i64 (p0)), (1, .int .i64 (nv1)), (5, .sptr [(0, 8)]), (7, .int .i64 (i3))], [⟨true, .flat 8 (.ints .u8 v2)⟩]⟩
def spec_l01Vector.sx0_0 : St := ⟨sl 29 [], []⟩
theorem spec_l01Vector.b0_gen {ρ : Type} (N : Nat) (K : AV → Heap → Option ρ) (L0 : St → Option ρ) (kv : XE → St → Option ρ) (p0 : Int) (nv1 : Int) (v2 : Nat → Int) (i3 : Int) :
    xcode (E4 N) ents spec_l01Vector.kp 0 N (cL (cK (cB (cA (cB spec_l01Vector.bd))))) 0 (spec_l01Vector.st0 p0 nv1 v2 i3) (roundK spec_l01Vector.kp 0 0 L0 (mixK (spec_l01Vector.fin N K .ret) kv)) = (spec_l01Vector.b0 N (fun d0 => K (.bool (d0)) []) (fun i3 => L0 (spec_l01Vector.st0 p0 nv1 v2 i3)) (kv (.exit 0) (spec_l01Vector.sx0_0)) p0 nv1 v2 i3) := by kernel_rfl
theorem spec_l01Vector.b0_eq {ρ : Type} (N : Nat) (K : AV → Heap → Option ρ) (L0 : St → Option ρ) (p0 : Int) (nv1 : Int) (v2 : Nat → Int) (i3 : Int) :
    xcode (E4 N) ents spec_l01Vector.kp 0 N (cL (cK (cB (cA (cB spec_l01Vector.bd))))) 0 (spec_l01Vector.st0 p0 nv1 v2 i3) (roundK spec_l01Vector.kp 0 0 L0 (spec_l01Vector.k0 N K)) = (spec_l01Vector.b0 N (fun d0 => K (.bool (d0)) []) (fun i3 => L0 (spec_l01Vector.st0 p0 nv1 v2 i3)) ((spec_l01Vector.k0 N K) (.exit 0) (spec_l01Vector.sx0_0)) p0 nv1 v2 i3) := by
  have h := spec_l01Vector.b0_gen N K L0 (spec_l01Vector.k0 N K) p0 nv1 v2 i3
  rw [spec_l01Vector.k0_mix] at h
  exact h
theorem spec_l01Vector.a0_0_eq {ρ : Type} (N : Nat) (K : AV → Heap → Option ρ) :
    (spec_l01Vector.k0 N K) (.exit 0) (spec_l01Vector.sx0_0) = (spec_l01Vector.a0_0 N (fun d0 => K (.bool (d0)) [])) := by kernel_rfl
theorem spec_l01Vector.l0_eq {ρ : Type} (N : Nat) (K : AV → Heap → Option ρ) (p0 : Int) (nv1 : Int) (v2 : Nat → Int) :
    ∀ (m : Nat) (i3 : Int), xloop (xcode (E4 N) ents spec_l01Vector.kp 0 N (cL (cK (cB (cA (cB spec_l01Vector.bd))))) 0) spec_l01Vector.kp 0 0 m (spec_l01Vector.st0 p0 nv1 v2 i3) (spec_l01Vector.k0 N K) = (spec_l01Vector.l0 N (fun d0 => K (.bool (d0)) []) p0 nv1 v2 ((spec_l01Vector.k0 N K) (.exit 0) (spec_l01Vector.sx0_0)) m i3) := by
  intro m
  induction m with
  | zero => intros; rfl
  | succ m ih =>
    intro i3
    refine (spec_l01Vector.b0_eq N K (fun s => xloop (xcode (E4 N) ents spec_l01Vector.kp 0 N (cL (cK (cB (cA (cB spec_l01Vector.bd))))) 0) spec_l01Vector.kp 0 0 m s (spec_l01Vector.k0 N K)) p0 nv1 v2 i3).trans ?_
    simp only [ih]
    kernel_rfl
theorem spec_l01Vector.s_eq {ρ : Type} (N : Nat) (K : AV → Heap → Option ρ) (p0 : Int) (nv1 : Int) (v2 : Nat → Int) :
    xbody (E4 N) ents spec_l01Vector.kp N Go.Proofs.Tryd.f19 spec_l01Vector.bd [.int .i64 (p0), .int .i64 (nv1), .agg [⟨.u8, 8, v2⟩]] [] K = (spec_l01Vector.s N (fun d0 => K (.bool (d0)) []) (fun i3 => xloop (xcode (E4 N) ents spec_l01Vector.kp 0 N (cL (cK (cB (cA (cB spec_l01Vector.bd))))) 0) spec_l01Vector.kp 0 0 N (spec_l01Vector.st0 p0 nv1 v2 i3) (spec_l01Vector.k0 N K))) := by kernel_rfl
theorem spec_l01Vector.eq {ρ : Type} (N : Nat) (K : AV → Heap → Option ρ) (p0 : Int) (nv1 : Int) (v2 : Nat → Int) :
    xbody (E4 N) ents spec_l01Vector.kp N Go.Proofs.Tryd.f19 spec_l01Vector.bd [.int .i64 (p0), .int .i64 (nv1), .agg [⟨.u8, 8, v2⟩]] [] K = (spec_l01Vector N (fun d0 => K (.bool (d0)) []) p0 nv1 v2) := by
  refine (spec_l01Vector.s_eq N K p0 nv1 v2).trans ?_
  simp only [spec_l01Vector.l0_eq, spec_l01Vector.a0_0_eq]
  kernel_rfl
def spec_l01Vector.en (N : Nat) (ρ : Type) : List AV → Heap → (AV → Heap → Option ρ) → Option ρ
  | [.int .i64 (p0), .int .i64 (nv1), .agg [⟨.u8, 8, v2⟩]], [], K => (spec_l01Vector N (fun d0 => K (.bool (d0)) []) p0 nv1 v2)
  | _, _, _ => none
theorem spec_l01Vector.en_ok (N : Nat) (hE : EnvOk (E4 N) ents) (ρ : Type) (args : List AV) (sh : Heap) (K : AV → Heap → Option ρ) (r : ρ) (h : spec_l01Vector.en N ρ args sh K = some r) : ∃ v sh', K v sh' = some r ∧ FnOk (E4 N).P 19 args sh v sh' := by
  unfold spec_l01Vector.en at h
  split at h
  · exact fn_ok hE (kp := spec_l01Vector.kp) (N := N) Go.Proofs.Tryd.func19 (c := spec_l01Vector.bd) (by kernel_rfl) ((spec_l01Vector.eq N _ _ _ _).trans h)
  · cases h
def E5 (N : Nat) : Env := (E4 N).add 19 (spec_l01Vector.en N)
theorem E5_ok (N : Nat) : EnvOk (E5 N) ents := Env.add_ok (E4_ok N) (spec_l01Vector.en_ok N (E4_ok N))
def spec_IsVector.kp : Keeps := ⟨[], [], []⟩
def spec_IsVector.bd : Code := bodyOf Go.Proofs.Tryd.f11
def spec_IsVector.fin {ρ : Type} (N : Nat) (K : AV → Heap → Option ρ) : XE → St → Option ρ := finK (E5 N) spec_IsVector.kp.fins Go.Proofs.Tryd.f11 [] K
theorem spec_IsVector.eq {ρ : Type} (N : Nat) (K : AV → Heap → Option ρ) (p0 : Int) (nv1 : Int) (v2 : Nat → Int) :
    xbody (E5 N) ents spec_IsVector.kp N Go.Proofs.Tryd.f11 spec_IsVector.bd [.int .i64 (p0), .int .i64 (nv1), .agg [⟨.u8, 8, v2⟩]] [] K = (spec_IsVector N (fun d0 => K (.bool (d0)) []) p0 nv1 v2) := by kernel_rfl
def spec_IsVector.en (N : Nat) (ρ : Type) : List AV → Heap → (AV → Heap → Option ρ) → Option ρ
  | [.int .i64 (p0), .int .i64 (nv1), .agg [⟨.u8, 8, v2⟩]], [], K => (spec_IsVector N (fun d0 => K (.bool (d0)) []) p0 nv1 v2)
  | _, _, _ => none
theorem spec_IsVector.en_ok (N : Nat) (hE : EnvOk (E5 N) ents) (ρ : Type) (args : List AV) (sh : Heap) (K : AV → Heap → Option ρ) (r : ρ) (h : spec_IsVector.en N ρ args sh K = some r) : ∃ v sh', K v sh' = some r ∧ FnOk (E5 N).P 11 args sh v sh' := by
  unfold spec_IsVector.en at h
  split at h
  · exact fn_ok hE (kp := spec_IsVector.kp) (N := N) Go.Proofs.Tryd.func11 (c := spec_IsVector.bd) (by kernel_rfl) ((spec_IsVector.eq N _ _ _ _).trans h)
  · cases h
def E6 (N : Nat) : Env := (E5 N).add 11 (spec_IsVector.en N)
theorem E6_ok (N : Nat) : EnvOk (E6 N) ents := Env.add_ok (E5_ok N) (spec_IsVector.en_ok N (E5_ok N))
def spec_l01Dec_v3.kp : Keeps := ⟨[], [], []⟩
def spec_l01Dec_v3.bd : Code := bodyOf Go.Proofs.Tryd.f20
def spec_l01Dec_v3.fin {ρ : Type} (N : Nat) (K : AV → Heap → Option ρ) : XE → St → Option ρ := finK (E6 N) spec_l01Dec_v3.kp.fins Go.Proofs.Tryd.f20 [] K
theorem spec_l01Dec_v3.eq {ρ : Type} (N : Nat) (K : AV → Heap → Option ρ) (nv0 : Int) :
    xbody (E6 N) ents spec_l01Dec_v3.kp N Go.Proofs.Tryd.f20 spec_l01Dec_v3.bd [.int .i64 (nv0)] [] K = (spec_l01Dec_v3 N (fun d0 => K (.str (d0)) []) nv0) := by kernel_rfl
def spec_l01Dec_v3.en (N : Nat) (ρ : Type) : List AV → Heap → (AV → Heap → Option ρ) → Option ρ
  | [.int .i64 (nv0)], [], K => (spec_l01Dec_v3 N (fun d0 => K (.str (d0)) []) nv0)
  | _, _, _ => none
theorem spec_l01Dec_v3.en_ok (N : Nat) (hE : EnvOk (E6 N) ents) (ρ : Type) (args : List AV) (sh : Heap) (K : AV → Heap → Option ρ) (r : ρ) (h : spec_l01Dec_v3.en N ρ args sh K = some r) : ∃ v sh', K v sh' = some r ∧ FnOk (E6 N).P 20 args sh v sh' := by
  unfold spec_l01Dec_v3.en at h
  split at h
  · exact fn_ok hE (kp := spec_l01Dec_v3.kp) (N := N) Go.Proofs.Tryd.func20 (c := spec_l01Dec_v3.bd) (by kernel_rfl) ((spec_l01Dec_v3.eq N _ _).trans h)
  · cases h
def E7 (N : Nat) : Env := (E6 N).add 20 (spec_l01Dec_v3.en N)
theorem E7_ok (N : Nat) : EnvOk (E7 N) ents := Env.add_ok (E6_ok N) (spec_l01Dec_v3.en_ok N (E6_ok N))
def spec_l01Dec_v2.kp : Keeps := ⟨[], [], []⟩
def spec_l01Dec_v2.bd : Code := bodyOf Go.Proofs.Tryd.f20
def spec_l01Dec_v2.fin {ρ : Type} (N : Nat) (K : AV → Heap → Option ρ) : XE → St → Option ρ := finK (E7 N) spec_l01Dec_v2.kp.fins Go.Proofs.Tryd.f20 [] K
theorem spec_l01Dec_v2.eq {ρ : Type} (N : Nat) (K : AV → Heap → Option ρ) (nv0 : Int) :
    xbody (E7 N) ents spec_l01Dec_v2.kp N Go.Proofs.Tryd.f20 spec_l01Dec_v2.bd [.int .i64 (nv0)] [] K = (spec_l01Dec_v2 N (fun d0 => K (.str (d0)) []) nv0) := by kernel_rfl
def spec_l01Dec_v2.en (N : Nat) (ρ : Type) : List AV → Heap → (AV → Heap → Option ρ) → Option ρ
  | [.int .i64 (nv0)], [], K => (spec_l01Dec_v2 N (fun d0 => K (.str (d0)) []) nv0)
  | args, sh, K => (E7 N).fn 20 ρ args sh K
theorem spec_l01Dec_v2.en_ok (N : Nat) (hE : EnvOk (E7 N) ents) (ρ : Type) (args : List AV) (sh : Heap) (K : AV → Heap → Option ρ) (r : ρ) (h : spec_l01Dec_v2.en N ρ args sh K = some r) : ∃ v sh', K v sh' = some r ∧ FnOk (E7 N).P 20 args sh v sh' := by
  unfold spec_l01Dec_v2.en at h
  split at h
  · exact fn_ok hE (kp := spec_l01Dec_v2.kp) (N := N) Go.Proofs.Tryd.func20 (c := spec_l01Dec_v2.bd) (by kernel_rfl) ((spec_l01Dec_v2.eq N _ _).trans h)
  · exact hE.spec _ _ _ _ _ _ h
def E8 (N : Nat) : Env := (E7 N).add 20 (spec_l01Dec_v2.en N)
theorem E8_ok (N : Nat) : EnvOk (E8 N) ents := Env.add_ok (E7_ok N) (spec_l01Dec_v2.en_ok N (E7_ok N))
def spec_l01Dec.kp : Keeps := ⟨[], [], []⟩
def spec_l01Dec.bd : Code := bodyOf Go.Proofs.Tryd.f20
def spec_l01Dec.fin {ρ : Type} (N : Nat) (K : AV → Heap → Option ρ) : XE → St → Option ρ := finK (E8 N) spec_l01Dec.kp.fins Go.Proofs.Tryd.f20 [] K
theorem spec_l01Dec.eq {ρ : Type} (N : Nat) (K : AV → Heap → Option ρ) (nv0 : Int) :
    xbody (E8 N) ents spec_l01Dec.kp N Go.Proofs.Tryd.f20 spec_l01Dec.bd [.int .i64 (nv0)] [] K = (spec_l01Dec N (fun d0 => K (.str (d0)) []) nv0) := by kernel_rfl
def spec_l01Dec.en (N : Nat) (ρ : Type) : List AV → Heap → (AV → Heap → Option ρ) → Option ρ
  | [.int .i64 (nv0)], [], K => (spec_l01Dec N (fun d0 => K (.str (d0)) []) nv0)
  | args, sh, K => (E8 N).fn 20 ρ args sh K
theorem spec_l01Dec.en_ok (N : Nat) (hE : EnvOk (E8 N) ents) (ρ : Type) (args : List AV) (sh : Heap) (K : AV → Heap → Option ρ) (r : ρ) (h : spec_l01Dec.en N ρ args sh K = some r) : ∃ v sh', K v sh' = some r ∧ FnOk (E8 N).P 20 args sh v sh' := by
  unfold spec_l01Dec.en at h
  split at h
  · exact fn_ok hE (kp := spec_l01Dec.kp) (N := N) Go.Proofs.Tryd.func20 (c := spec_l01Dec.bd) (by kernel_rfl) ((spec_l01Dec.eq N _ _).trans h)
  · exact hE.spec _ _ _ _ _ _ h
def E9 (N : Nat) : Env := (E8 N).add 20 (spec_l01Dec.en N)
theorem E9_ok (N : Nat) : EnvOk (E9 N) ents := Env.add_ok (E8_ok N) (spec_l01Dec.en_ok N (E8_ok N))
def spec_l01Text.kp : Keeps := ⟨[(0, [0, 3, 5, 6], [], [])], [(0, [5], [], [])], []⟩
def spec_l01Text.bd : Code := bodyOf Go.Proofs.Tryd.f12
def spec_l01Text.fin {ρ : Type} (N : Nat) (K : AV → Heap → Option ρ) : XE → St → Option ρ := finK (E9 N) spec_l01Text.kp.fins Go.Proofs.Tryd.f12 [] K
def spec_l01Text.k0 {ρ : Type} (N : Nat) (K : AV → Heap → Option ρ) : XE → St → Option ρ := (blockK spec_l01Text.kp 0 0 (seqK (xcode (E9 N) ents spec_l01Text.kp 0 N (cB (cB (cB spec_l01Text.bd))) 0) (spec_l01Text.fin N K)))
theorem spec_l01Text.k0_mix {ρ : Type} (N : Nat) (K : AV → Heap → Option ρ) : mixK (spec_l01Text.fin N K .ret) (spec_l01Text.k0 N K) = (spec_l01Text.k0 N K) := by
  funext e s; cases e <;> kernel_rfl
def spec_l01Text.st0 (nv0 : Int) (v1 : Nat → Int) (text2 : ByteArray) (i3 : Int) : St := ⟨sl 24 [(0, .int .i64 (nv0)), (3, .sptr [(0, 8)]), (5, .str (text2)), (6, .int .i64 (i3))], [⟨true, .flat 8 (.ints .u8 v1)⟩]⟩
def spec_l01Text.sx0_0 (ov6 : ByteArray) : St := ⟨sl 24 [(5, .str (ov6))], []⟩
theorem spec_l01Text.b0_gen {ρ : Type} (N : Nat) (K : AV → Heap → Option ρ) (L0 : St → Option ρ) (kv : XE → St → Option ρ) (nv0 : Int) (v1 : Nat → Int) (text2 : ByteArray) (i3 : Int) :
    xcode (E9 N) ents spec_l01Text.kp 0 N (cL (cK (cB (cA (cB (cB spec_l01Text.bd)))))) 0 (spec_l01Text.st0 nv0 v1 text2 i3) (roundK spec_l01Text.kp 0 0 L0 (mixK (spec_l01Text.fin N K .ret) kv)) = (spec_l01Text.b0 N (fun d0 => K (.str (d0)) []) (fun text2 i3 => L0 (spec_l01Text.st0 nv0 v1 text2 i3)) (fun ov6 => kv (.exit 0) (spec_l01Text.sx0_0 ov6)) nv0 v1 text2 i3) := by kernel_rfl
theorem spec_l01Text.b0_eq {ρ : Type} (N : Nat) (K : AV → Heap → Option ρ) (L0 : St → Option ρ) (nv0 : Int) (v1 : Nat → Int) (text2 : ByteArray) (i3 : Int) :
    xcode (E9 N) ents spec_l01Text.kp 0 N (cL (cK (cB (cA (cB (cB spec_l01Text.bd)))))) 0 (spec_l01Text.st0 nv0 v1 text2 i3) (roundK spec_l01Text.kp 0 0 L0 (spec_l01Text.k0 N K)) = (spec_l01Text.b0 N (fun d0 => K (.str (d0)) []) (fun text2 i3 => L0 (spec_l01Text.st0 nv0 v1 text2 i3)) (fun ov6 => (spec_l01Text.k0 N K) (.exit 0) (spec_l01Text.sx0_0 ov6)) nv0 v1 text2 i3) := by
  have h := spec_l01Text.b0_gen N K L0 (spec_l01Text.k0 N K) nv0 v1 text2 i3
  rw [spec_l01Text.k0_mix] at h
  exact h
theorem spec_l01Text.a0_0_eq {ρ : Type} (N : Nat) (K : AV → Heap → Option ρ) (ov6 : ByteArray) :
    (spec_l01Text.k0 N K) (.exit 0) (spec_l01Text.sx0_0 ov6) = (spec_l01Text.a0_0 N (fun d0 => K (.str (d0)) []) ov6) := by kernel_rfl
theorem spec_l01Text.l0_eq {ρ : Type} (N : Nat) (K : AV → Heap → Option ρ) (nv0 : Int) (v1 : Nat → Int) :
    ∀ (m : Nat) (text2 : ByteArray) (i3 : Int), xloop (xcode (E9 N) ents spec_l01Text.kp 0 N (cL (cK (cB (cA (cB (cB spec_l01Text.bd)))))) 0) spec_l01Text.kp 0 0 m (spec_l01Text.st0 nv0 v1 text2 i3) (spec_l01Text.k0 N K) = (spec_l01Text.l0 N (fun d0 => K (.str (d0)) []) nv0 v1 (fun ov6 => (spec_l01Text.k0 N K) (.exit 0) (spec_l01Text.sx0_0 ov6)) m text2 i3) := by
  intro m
  induction m with
  | zero => intros; rfl
  | succ m ih =>
    intro text2 i3
    refine (spec_l01Text.b0_eq N K (fun s => xloop (xcode (E9 N) ents spec_l01Text.kp 0 N (cL (cK (cB (cA (cB (cB spec_l01Text.bd)))))) 0) spec_l01Text.kp 0 0 m s (spec_l01Text.k0 N K)) nv0 v1 text2 i3).trans ?_
    simp only [ih]
    kernel_rfl
theorem spec_l01Text.s_eq {ρ : Type} (N : Nat) (K : AV → Heap → Option ρ) (nv0 : Int) (v1 : Nat → Int) :
    xbody (E9 N) ents spec_l01Text.kp N Go.Proofs.Tryd.f12 spec_l01Text.bd [.int .i64 (nv0), .agg [⟨.u8, 8, v1⟩]] [] K = (spec_l01Text.s N (fun d0 => K (.str (d0)) []) (fun text2 i3 => xloop (xcode (E9 N) ents spec_l01Text.kp 0 N (cL (cK (cB (cA (cB (cB spec_l01Text.bd)))))) 0) spec_l01Text.kp 0 0 N (spec_l01Text.st0 nv0 v1 text2 i3) (spec_l01Text.k0 N K))) := by kernel_rfl
theorem spec_l01Text.eq {ρ : Type} (N : Nat) (K : AV → Heap → Option ρ) (nv0 : Int) (v1 : Nat → Int) :
    xbody (E9 N) ents spec_l01Text.kp N Go.Proofs.Tryd.f12 spec_l01Text.bd [.int .i64 (nv0), .agg [⟨.u8, 8, v1⟩]] [] K = (spec_l01Text N (fun d0 => K (.str (d0)) []) nv0 v1) := by
  refine (spec_l01Text.s_eq N K nv0 v1).trans ?_
  simp only [spec_l01Text.l0_eq, spec_l01Text.a0_0_eq]
  kernel_rfl
def spec_l01Text.en (N : Nat) (ρ : Type) : List AV → Heap → (AV → Heap → Option ρ) → Option ρ
  | [.int .i64 (nv0), .agg [⟨.u8, 8, v1⟩]], [], K => (spec_l01Text N (fun d0 => K (.str (d0)) []) nv0 v1)
  | _, _, _ => none
theorem spec_l01Text.en_ok (N : Nat) (hE : EnvOk (E9 N) ents) (ρ : Type) (args : List AV) (sh : Heap) (K : AV → Heap → Option ρ) (r : ρ) (h : spec_l01Text.en N ρ args sh K = some r) : ∃ v sh', K v sh' = some r ∧ FnOk (E9 N).P 12 args sh v sh' := by
  unfold spec_l01Text.en at h
  split at h
  · exact fn_ok hE (kp := spec_l01Text.kp) (N := N) Go.Proofs.Tryd.func12 (c := spec_l01Text.bd) (by kernel_rfl) ((spec_l01Text.eq N _ _ _).trans h)
  · cases h
def E10 (N : Nat) : Env := (E9 N).add 12 (spec_l01Text.en N)
theorem E10_ok (N : Nat) : EnvOk (E10 N) ents := Env.add_ok (E9_ok N) (spec_l01Text.en_ok N (E9_ok N))
def spec_VectorText.kp : Keeps := ⟨[], [], []⟩
def spec_VectorText.bd : Code := bodyOf Go.Proofs.Tryd.f5
def spec_VectorText.fin {ρ : Type} (N : Nat) (K : AV → Heap → Option ρ) : XE → St → Option ρ := finK (E10 N) spec_VectorText.kp.fins Go.Proofs.Tryd.f5 [] K
theorem spec_VectorText.eq {ρ : Type} (N : Nat) (K : AV → Heap → Option ρ) (p0 : Int) (nv1 : Int) (v2 : Nat → Int) :
    xbody (E10 N) ents spec_VectorText.kp N Go.Proofs.Tryd.f5 spec_VectorText.bd [.int .i64 (p0), .int .i64 (nv1), .agg [⟨.u8, 8, v2⟩]] [] K = (spec_VectorText N (fun d0 d1 => K (.tup [.str (d0), .int .i64 (d1)]) []) p0 nv1 v2) := by kernel_rfl
def spec_VectorText.en (N : Nat) (ρ : Type) : List AV → Heap → (AV → Heap → Option ρ) → Option ρ
  | [.int .i64 (p0), .int .i64 (nv1), .agg [⟨.u8, 8, v2⟩]], [], K => (spec_VectorText N (fun d0 d1 => K (.tup [.str (d0), .int .i64 (d1)]) []) p0 nv1 v2)
  | _, _, _ => none
theorem spec_VectorText.en_ok (N : Nat) (hE : EnvOk (E10 N) ents) (ρ : Type) (args : List AV) (sh : Heap) (K : AV → Heap → Option ρ) (r : ρ) (h : spec_VectorText.en N ρ args sh K = some r) : ∃ v sh', K v sh' = some r ∧ FnOk (E10 N).P 5 args sh v sh' := by
  unfold spec_VectorText.en at h
  split at h
  · exact fn_ok hE (kp := spec_VectorText.kp) (N := N) Go.Proofs.Tryd.func5 (c := spec_VectorText.bd) (by kernel_rfl) ((spec_VectorText.eq N _ _ _ _).trans h)
  · cases h
def E11 (N : Nat) : Env := (E10 N).add 5 (spec_VectorText.en N)
theorem E11_ok (N : Nat) : EnvOk (E11 N) ents := Env.add_ok (E10_ok N) (spec_VectorText.en_ok N (E10_ok N))
def impl_IsPrime.kp : Keeps := ⟨[(0, [0, 3], [], [])], [(0, [], [], [])], []⟩
def impl_IsPrime.bd : Code := bodyOf Go.Proofs.Tryd.f21
def impl_IsPrime.fin {ρ : Type} (N : Nat) (K : AV → Heap → Option ρ) : XE → St → Option ρ := finK (E11 N) impl_IsPrime.kp.fins Go.Proofs.Tryd.f21 [] K
def impl_IsPrime.k0 {ρ : Type} (N : Nat) (K : AV → Heap → Option ρ) : XE → St → Option ρ := (blockK impl_IsPrime.kp 0 0 (seqK (xcode (E11 N) ents impl_IsPrime.kp 0 N (cB (cB (cB impl_IsPrime.bd))) 0) (impl_IsPrime.fin N K)))
theorem impl_IsPrime.k0_mix {ρ : Type} (N : Nat) (K : AV → Heap → Option ρ) : mixK (impl_IsPrime.fin N K .ret) (impl_IsPrime.k0 N K) = (impl_IsPrime.k0 N K) := by
  funext e s; cases e <;> kernel_rfl
def impl_IsPrime.st0 (p0 : Int) (k1 : Int) : St := ⟨sl 21 [(0, .int .i64 (p0)), (3, .int .i64 (k1))], []⟩
def impl_IsPrime.sx0_0 : St := ⟨sl 21 [], []⟩
theorem impl_IsPrime.b0_gen {ρ : Type} (N : Nat) (K : AV → Heap → Option ρ) (L0 : St → Option ρ) (kv : XE → St → Option ρ) (p0 : Int) (k1 : Int) :
    xcode (E11 N) ents impl_IsPrime.kp 0 N (cL (cK (cB (cA (cB (cB impl_IsPrime.bd)))))) 0 (impl_IsPrime.st0 p0 k1) (roundK impl_IsPrime.kp 0 0 L0 (mixK (impl_IsPrime.fin N K .ret) kv)) = (impl_IsPrime.b0 N (fun d0 => K (.bool (d0)) []) (fun k1 => L0 (impl_IsPrime.st0 p0 k1)) (kv (.exit 0) (impl_IsPrime.sx0_0)) p0 k1) := by kernel_rfl
theorem impl_IsPrime.b0_eq {ρ : Type} (N : Nat) (K : AV → Heap → Option ρ) (L0 : St → Option ρ) (p0 : Int) (k1 : Int) :
    xcode (E11 N) ents impl_IsPrime.kp 0 N (cL (cK (cB (cA (cB (cB impl_IsPrime.bd)))))) 0 (impl_IsPrime.st0 p0 k1) (roundK impl_IsPrime.kp 0 0 L0 (impl_IsPrime.k0 N K)) = (impl_IsPrime.b0 N (fun d0 => K (.bool (d0)) []) (fun k1 => L0 (impl_IsPrime.st0 p0 k1)) ((impl_IsPrime.k0 N K) (.exit 0) (impl_IsPrime.sx0_0)) p0 k1) := by
  have h := impl_IsPrime.b0_gen N K L0 (impl_IsPrime.k0 N K) p0 k1
  rw [impl_IsPrime.k0_mix] at h
  exact h
theorem impl_IsPrime.a0_0_eq {ρ : Type} (N : Nat) (K : AV → Heap → Option ρ) :
    (impl_IsPrime.k0 N K) (.exit 0) (impl_IsPrime.sx0_0) = (impl_IsPrime.a0_0 N (fun d0 => K (.bool (d0)) [])) := by kernel_rfl
theorem impl_IsPrime.l0_eq {ρ : Type} (N : Nat) (K : AV → Heap → Option ρ) (p0 : Int) :
    ∀ (m : Nat) (k1 : Int), xloop (xcode (E11 N) ents impl_IsPrime.kp 0 N (cL (cK (cB (cA (cB (cB impl_IsPrime.bd)))))) 0) impl_IsPrime.kp 0 0 m (impl_IsPrime.st0 p0 k1) (impl_IsPrime.k0 N K) = (impl_IsPrime.l0 N (fun d0 => K (.bool (d0)) []) p0 ((impl_IsPrime.k0 N K) (.exit 0) (impl_IsPrime.sx0_0)) m k1) := by
  intro m
  induction m with
  | zero => intros; rfl
  | succ m ih =>
    intro k1
    refine (impl_IsPrime.b0_eq N K (fun s => xloop (xcode (E11 N) ents impl_IsPrime.kp 0 N (cL (cK (cB (cA (cB (cB impl_IsPrime.bd)))))) 0) impl_IsPrime.kp 0 0 m s (impl_IsPrime.k0 N K)) p0 k1).trans ?_
    simp only [ih]
    kernel_rfl
theorem impl_IsPrime.s_eq {ρ : Type} (N : Nat) (K : AV → Heap → Option ρ) (p0 : Int) :
    xbody (E11 N) ents impl_IsPrime.kp N Go.Proofs.Tryd.f21 impl_IsPrime.bd [.int .i64 (p0)] [] K = (impl_IsPrime.s N (fun d0 => K (.bool (d0)) []) (fun k1 => xloop (xcode (E11 N) ents impl_IsPrime.kp 0 N (cL (cK (cB (cA (cB (cB impl_IsPrime.bd)))))) 0) impl_IsPrime.kp 0 0 N (impl_IsPrime.st0 p0 k1) (impl_IsPrime.k0 N K)) p0) := by kernel_rfl
theorem impl_IsPrime.eq {ρ : Type} (N : Nat) (K : AV → Heap → Option ρ) (p0 : Int) :
    xbody (E11 N) ents impl_IsPrime.kp N Go.Proofs.Tryd.f21 impl_IsPrime.bd [.int .i64 (p0)] [] K = (impl_IsPrime N (fun d0 => K (.bool (d0)) []) p0) := by
  refine (impl_IsPrime.s_eq N K p0).trans ?_
  simp only [impl_IsPrime.l0_eq, impl_IsPrime.a0_0_eq]
  kernel_rfl
def impl_IsPrime.en (N : Nat) (ρ : Type) : List AV → Heap → (AV → Heap → Option ρ) → Option ρ
  | [.int .i64 (p0)], [], K => (impl_IsPrime N (fun d0 => K (.bool (d0)) []) p0)
  | _, _, _ => none
theorem impl_IsPrime.en_ok (N : Nat) (hE : EnvOk (E11 N) ents) (ρ : Type) (args : List AV) (sh : Heap) (K : AV → Heap → Option ρ) (r : ρ) (h : impl_IsPrime.en N ρ args sh K = some r) : ∃ v sh', K v sh' = some r ∧ FnOk (E11 N).P 21 args sh v sh' := by
  unfold impl_IsPrime.en at h
  split at h
  · exact fn_ok hE (kp := impl_IsPrime.kp) (N := N) Go.Proofs.Tryd.func21 (c := impl_IsPrime.bd) (by kernel_rfl) ((impl_IsPrime.eq N _ _).trans h)
  · cases h
def E12 (N : Nat) : Env := (E11 N).add 21 (impl_IsPrime.en N)
theorem E12_ok (N : Nat) : EnvOk (E12 N) ents := Env.add_ok (E11_ok N) (impl_IsPrime.en_ok N (E11_ok N))
def impl_in.kp : Keeps := ⟨[], [], []⟩
def impl_in.bd : Code := bodyOf Go.Proofs.Tryd.f22
def impl_in.fin {ρ : Type} (N : Nat) (K : AV → Heap → Option ρ) : XE → St → Option ρ := finK (E12 N) impl_in.kp.fins Go.Proofs.Tryd.f22 [] K
theorem impl_in.eq {ρ : Type} (N : Nat) (K : AV → Heap → Option ρ) (x0 : Int) (least1 : Int) (most2 : Int) :
    xbody (E12 N) ents impl_in.kp N Go.Proofs.Tryd.f22 impl_in.bd [.int .i64 (x0), .int .i64 (least1), .int .i64 (most2)] [] K = (impl_in N (fun d0 => K (.bool (d0)) []) x0 least1 most2) := by kernel_rfl
def impl_in.en (N : Nat) (ρ : Type) : List AV → Heap → (AV → Heap → Option ρ) → Option ρ
  | [.int .i64 (x0), .int .i64 (least1), .int .i64 (most2)], [], K => (impl_in N (fun d0 => K (.bool (d0)) []) x0 least1 most2)
  | _, _, _ => none
theorem impl_in.en_ok (N : Nat) (hE : EnvOk (E12 N) ents) (ρ : Type) (args : List AV) (sh : Heap) (K : AV → Heap → Option ρ) (r : ρ) (h : impl_in.en N ρ args sh K = some r) : ∃ v sh', K v sh' = some r ∧ FnOk (E12 N).P 22 args sh v sh' := by
  unfold impl_in.en at h
  split at h
  · exact fn_ok hE (kp := impl_in.kp) (N := N) Go.Proofs.Tryd.func22 (c := impl_in.bd) (by kernel_rfl) ((impl_in.eq N _ _ _ _).trans h)
  · cases h
def E13 (N : Nat) : Env := (E12 N).add 22 (impl_in.en N)
theorem E13_ok (N : Nat) : EnvOk (E13 N) ents := Env.add_ok (E12_ok N) (impl_in.en_ok N (E12_ok N))
def impl_IsVector.kp : Keeps := ⟨[(0, [0, 1, 17, 18], [], [])], [(0, [], [], [])], []⟩
def impl_IsVector.bd : Code := bodyOf Go.Proofs.Tryd.f13
def impl_IsVector.fin {ρ : Type} (N : Nat) (K : AV → Heap → Option ρ) : XE → St → Option ρ := finK (E13 N) impl_IsVector.kp.fins Go.Proofs.Tryd.f13 [] K
def impl_IsVector.k0 {ρ : Type} (N : Nat) (K : AV → Heap → Option ρ) : XE → St → Option ρ := (blockK impl_IsVector.kp 0 0 (seqK (xcode (E13 N) ents impl_IsVector.kp 0 N (cB (cB (cB impl_IsVector.bd))) 0) (impl_IsVector.fin N K)))
theorem impl_IsVector.k0_mix {ρ : Type} (N : Nat) (K : AV → Heap → Option ρ) : mixK (impl_IsVector.fin N K .ret) (impl_IsVector.k0 N K) = (impl_IsVector.k0 N K) := by
  funext e s; cases e <;> kernel_rfl
def impl_IsVector.st0 (p0 : Int) (nv1 : Int) (v2 : Nat → Int) (x5 : Int) : St := ⟨sl 36 [(0, .int .i64 (p0)), (1, .int .i64 (nv1)), (17, .agg [⟨.u8, 8, v2⟩]), (18, .int .i64 (x5))], []⟩
def impl_IsVector.sx0_0 : St := ⟨sl 36 [], []⟩
theorem impl_IsVector.b0_gen {ρ : Type} (N : Nat) (K : AV → Heap → Option ρ) (L0 : St → Option ρ) (kv : XE → St → Option ρ) (p0 : Int) (nv1 : Int) (v2 : Nat → Int) (x5 : Int) :
    xcode (E13 N) ents impl_IsVector.kp 0 N (cL (cK (cB (cA (cB (cB impl_IsVector.bd)))))) 0 (impl_IsVector.st0 p0 nv1 v2 x5) (roundK impl_IsVector.kp 0 0 L0 (mixK (impl_IsVector.fin N K .ret) kv)) = (impl_IsVector.b0 N (fun d0 => K (.bool (d0)) []) (fun x5 => L0 (impl_IsVector.st0 p0 nv1 v2 x5)) (kv (.exit 0) (impl_IsVector.sx0_0)) p0 nv1 v2 x5) := by kernel_rfl
theorem impl_IsVector.b0_eq {ρ : Type} (N : Nat) (K : AV → Heap → Option ρ) (L0 : St → Option ρ) (p0 : Int) (nv1 : Int) (v2 : Nat → Int) (x5 : Int) :
    xcode (E13 N) ents impl_IsVector.kp 0 N (cL (cK (cB (cA (cB (cB impl_IsVector.bd)))))) 0 (impl_IsVector.st0 p0 nv1 v2 x5) (roundK impl_IsVector.kp 0 0 L0 (impl_IsVector.k0 N K)) = (impl_IsVector.b0 N (fun d0 => K (.bool (d0)) []) (fun x5 => L0 (impl_IsVector.st0 p0 nv1 v2 x5)) ((impl_IsVector.k0 N K) (.exit 0) (impl_IsVector.sx0_0)) p0 nv1 v2 x5) := by
  have h := impl_IsVector.b0_gen N K L0 (impl_IsVector.k0 N K) p0 nv1 v2 x5
  rw [impl_IsVector.k0_mix] at h
  exact h
theorem impl_IsVector.a0_0_eq {ρ : Type} (N : Nat) (K : AV → Heap → Option ρ) :
    (impl_IsVector.k0 N K) (.exit 0) (impl_IsVector.sx0_0) = (impl_IsVector.a0_0 N (fun d0 => K (.bool (d0)) [])) := by kernel_rfl
theorem impl_IsVector.l0_eq {ρ : Type} (N : Nat) (K : AV → Heap → Option ρ) (p0 : Int) (nv1 : Int) (v2 : Nat → Int) :
    ∀ (m : Nat) (x5 : Int), xloop (xcode (E13 N) ents impl_IsVector.kp 0 N (cL (cK (cB (cA (cB (cB impl_IsVector.bd)))))) 0) impl_IsVector.kp 0 0 m (impl_IsVector.st0 p0 nv1 v2 x5) (impl_IsVector.k0 N K) = (impl_IsVector.l0 N (fun d0 => K (.bool (d0)) []) p0 nv1 v2 ((impl_IsVector.k0 N K) (.exit 0) (impl_IsVector.sx0_0)) m x5) := by
  intro m
  induction m with
  | zero => intros; rfl
  | succ m ih =>
    intro x5
    refine (impl_IsVector.b0_eq N K (fun s => xloop (xcode (E13 N) ents impl_IsVector.kp 0 N (cL (cK (cB (cA (cB (cB impl_IsVector.bd)))))) 0) impl_IsVector.kp 0 0 m s (impl_IsVector.k0 N K)) p0 nv1 v2 x5).trans ?_
    simp only [ih]
    kernel_rfl
theorem impl_IsVector.s_eq {ρ : Type} (N : Nat) (K : AV → Heap → Option ρ) (p0 : Int) (nv1 : Int) (v2 : Nat → Int) :
    xbody (E13 N) ents impl_IsVector.kp N Go.Proofs.Tryd.f13 impl_IsVector.bd [.int .i64 (p0), .int .i64 (nv1), .agg [⟨.u8, 8, v2⟩]] [] K = (impl_IsVector.s N (fun d0 => K (.bool (d0)) []) (fun x5 => xloop (xcode (E13 N) ents impl_IsVector.kp 0 N (cL (cK (cB (cA (cB (cB impl_IsVector.bd)))))) 0) impl_IsVector.kp 0 0 N (impl_IsVector.st0 p0 nv1 v2 x5) (impl_IsVector.k0 N K)) p0 nv1) := by kernel_rfl
theorem impl_IsVector.eq {ρ : Type} (N : Nat) (K : AV → Heap → Option ρ) (p0 : Int) (nv1 : Int) (v2 : Nat → Int) :
    xbody (E13 N) ents impl_IsVector.kp N Go.Proofs.Tryd.f13 impl_IsVector.bd [.int .i64 (p0), .int .i64 (nv1), .agg [⟨.u8, 8, v2⟩]] [] K = (impl_IsVector N (fun d0 => K (.bool (d0)) []) p0 nv1 v2) := by
  refine (impl_IsVector.s_eq N K p0 nv1 v2).trans ?_
  simp only [impl_IsVector.l0_eq, impl_IsVector.a0_0_eq]
  kernel_rfl
def impl_IsVector.en (N : Nat) (ρ : Type) : List AV → Heap → (AV → Heap → Option ρ) → Option ρ
  | [.int .i64 (p0), .int .i64 (nv1), .agg [⟨.u8, 8, v2⟩]], [], K => (impl_IsVector N (fun d0 => K (.bool (d0)) []) p0 nv1 v2)
  | _, _, _ => none
theorem impl_IsVector.en_ok (N : Nat) (hE : EnvOk (E13 N) ents) (ρ : Type) (args : List AV) (sh : Heap) (K : AV → Heap → Option ρ) (r : ρ) (h : impl_IsVector.en N ρ args sh K = some r) : ∃ v sh', K v sh' = some r ∧ FnOk (E13 N).P 13 args sh v sh' := by
  unfold impl_IsVector.en at h
  split at h
  · exact fn_ok hE (kp := impl_IsVector.kp) (N := N) Go.Proofs.Tryd.func13 (c := impl_IsVector.bd) (by kernel_rfl) ((impl_IsVector.eq N _ _ _ _).trans h)
  · cases h
def E14 (N : Nat) : Env := (E13 N).add 13 (impl_IsVector.en N)
theorem E14_ok (N : Nat) : EnvOk (E14 N) ents := Env.add_ok (E13_ok N) (impl_IsVector.en_ok N (E13_ok N))
def strconv_Itoa.en (N : Nat) (ρ : Type) : List AV → Heap → (AV → Heap → Option ρ) → Option ρ
  | [.int .i64 (i0)], [], K => (strconv_Itoa N (fun d0 => K (.str (d0)) []) i0)
  | _, _, _ => none
theorem strconv_Itoa.en_ok (N : Nat) (hE : EnvOk (E14 N) ents) (ρ : Type) (args : List AV) (sh : Heap) (K : AV → Heap → Option ρ) (r : ρ) (h : strconv_Itoa.en N ρ args sh K = some r) : ∃ v sh', K v sh' = some r ∧ FnOk (E14 N).P 23 args sh v sh' := by
  unfold strconv_Itoa.en at h
  split at h
  · exact strconv_Itoa.con N _ _ h
  · cases h
def E15 (N : Nat) : Env := (E14 N).add 23 (strconv_Itoa.en N)
theorem E15_ok (N : Nat) : EnvOk (E15 N) ents := Env.add_ok (E14_ok N) (strconv_Itoa.en_ok N (E14_ok N))
def strings_Join_su.en (N : Nat) (ρ : Type) : List AV → Heap → (AV → Heap → Option ρ) → Option ρ
  | [.slice true 0 0 elems0 .unk 1, .str (sep1)], [⟨false, .flat gv2 (.strs gv3)⟩], K => (strings_Join_su N (fun d0 => K (.str (d0)) [⟨false, .flat gv2 (.strs gv3)⟩]) elems0 sep1 gv2 gv3)
  | _, _, _ => none
theorem strings_Join_su.en_ok (N : Nat) (hE : EnvOk (E15 N) ents) (ρ : Type) (args : List AV) (sh : Heap) (K : AV → Heap → Option ρ) (r : ρ) (h : strings_Join_su.en N ρ args sh K = some r) : ∃ v sh', K v sh' = some r ∧ FnOk (E15 N).P 24 args sh v sh' := by
  unfold strings_Join_su.en at h
  split at h
  · exact strings_Join_su.con N _ _ _ _ _ h
  · cases h
def E16 (N : Nat) : Env := (E15 N).add 24 (strings_Join_su.en N)
theorem E16_ok (N : Nat) : EnvOk (E16 N) ents := Env.add_ok (E15_ok N) (strings_Join_su.en_ok N (E15_ok N))
def impl_vectorText.kp : Keeps := ⟨[(0, [5, 10, 11, 12], [], [])], [(0, [5], [], [])], []⟩
def impl_vectorText.bd : Code := bodyOf Go.Proofs.Tryd.f14
def impl_vectorText.fin {ρ : Type} (N : Nat) (K : AV → Heap → Option ρ) : XE → St → Option ρ := finK (E16 N) impl_vectorText.kp.fins Go.Proofs.Tryd.f14 [] K
def impl_vectorText.k0 {ρ : Type} (N : Nat) (K : AV → Heap → Option ρ) : XE → St → Option ρ := (blockK impl_vectorText.kp 0 0 (seqK (xcode (E16 N) ents impl_vectorText.kp 0 N (cB (cB (cB impl_vectorText.bd))) 0) (impl_vectorText.fin N K)))
theorem impl_vectorText.k0_mix {ρ : Type} (N : Nat) (K : AV → Heap → Option ρ) : mixK (impl_vectorText.fin N K .ret) (impl_vectorText.k0 N K) = (impl_vectorText.k0 N K) := by
  funext e s; cases e <;> kernel_rfl
def impl_vectorText.st0 (nv0 : Int) (v1 : Nat → Int) (outv2 : Nat) (x3 : Int) (gv4 : Nat → ByteArray) : St := ⟨sl 25 [(5, .slice true 0 0 outv2 .whole 1), (10, .slice true 1 0 nv0.toNat (.exact 8) 1), (11, .int .i64 ((nv0.toNat : Int))), (12, .int .i64 (x3))], [⟨true, .flat 0 (.strs gv4)⟩, ⟨true, .flat 8 (.ints .u8 v1)⟩]⟩
def impl_vectorText.sx0_0 (ov6 : Nat) (ov7 : Nat → ByteArray) : St := ⟨sl 25 [(5, .slice true 0 0 ov6 .whole 1)], [⟨true, .flat 0 (.strs ov7)⟩]⟩
theorem impl_vectorText.b0_gen {ρ : Type} (N : Nat) (K : AV → Heap → Option ρ) (L0 : St → Option ρ) (kv : XE → St → Option ρ) (nv0 : Int) (v1 : Nat → Int) (outv2 : Nat) (x3 : Int) (gv4 : Nat → ByteArray) :
    xcode (E16 N) ents impl_vectorText.kp 0 N (cL (cK (cB (cA (cB (cB impl_vectorText.bd)))))) 0 (impl_vectorText.st0 nv0 v1 outv2 x3 gv4) (roundK impl_vectorText.kp 0 0 L0 (mixK (impl_vectorText.fin N K .ret) kv)) = (impl_vectorText.b0 N (fun d0 => K (.str (d0)) []) (fun outv2 x3 gv4 => L0 (impl_vectorText.st0 nv0 v1 outv2 x3 gv4)) (fun ov6 ov7 => kv (.exit 0) (impl_vectorText.sx0_0 ov6 ov7)) nv0 v1 outv2 x3 gv4) := by kernel_rfl
theorem impl_vectorText.b0_eq {ρ : Type} (N : Nat) (K : AV → Heap → Option ρ) (L0 : St → Option ρ) (nv0 : Int) (v1 : Nat → Int) (outv2 : Nat) (x3 : Int) (gv4 : Nat → ByteArray) :
    xcode (E16 N) ents impl_vectorText.kp 0 N (cL (cK (cB (cA (cB (cB impl_vectorText.bd)))))) 0 (impl_vectorText.st0 nv0 v1 outv2 x3 gv4) (roundK impl_vectorText.kp 0 0 L0 (impl_vectorText.k0 N K)) = (impl_vectorText.b0 N (fun d0 => K (.str (d0)) []) (fun outv2 x3 gv4 => L0 (impl_vectorText.st0 nv0 v1 outv2 x3 gv4)) (fun ov6 ov7 => (impl_vectorText.k0 N K) (.exit 0) (impl_vectorText.sx0_0 ov6 ov7)) nv0 v1 outv2 x3 gv4) := by
  have h := impl_vectorText.b0_gen N K L0 (impl_vectorText.k0 N K) nv0 v1 outv2 x3 gv4
  rw [impl_vectorText.k0_mix] at h
  exact h
theorem impl_vectorText.a0_0_eq {ρ : Type} (N : Nat) (K : AV → Heap → Option ρ) (ov6 : Nat) (ov7 : Nat → ByteArray) :
    (impl_vectorText.k0 N K) (.exit 0) (impl_vectorText.sx0_0 ov6 ov7) = (impl_vectorText.a0_0 N (fun d0 => K (.str (d0)) []) ov6 ov7) := by kernel_rfl
theorem impl_vectorText.l0_eq {ρ : Type} (N : Nat) (K : AV → Heap → Option ρ) (nv0 : Int) (v1 : Nat → Int) :
    ∀ (m : Nat) (outv2 : Nat) (x3 : Int) (gv4 : Nat → ByteArray), xloop (xcode (E16 N) ents impl_vectorText.kp 0 N (cL (cK (cB (cA (cB (cB impl_vectorText.bd)))))) 0) impl_vectorText.kp 0 0 m (impl_vectorText.st0 nv0 v1 outv2 x3 gv4) (impl_vectorText.k0 N K) = (impl_vectorText.l0 N (fun d0 => K (.str (d0)) []) nv0 v1 (fun ov6 ov7 => (impl_vectorText.k0 N K) (.exit 0) (impl_vectorText.sx0_0 ov6 ov7)) m outv2 x3 gv4) := by
  intro m
  induction m with
  | zero => intros; rfl
  | succ m ih =>
    intro outv2 x3 gv4
    refine (impl_vectorText.b0_eq N K (fun s => xloop (xcode (E16 N) ents impl_vectorText.kp 0 N (cL (cK (cB (cA (cB (cB impl_vectorText.bd)))))) 0) impl_vectorText.kp 0 0 m s (impl_vectorText.k0 N K)) nv0 v1 outv2 x3 gv4).trans ?_
    simp only [ih]
    kernel_rfl
theorem impl_vectorText.s_eq {ρ : Type} (N : Nat) (K : AV → Heap → Option ρ) (nv0 : Int) (v1 : Nat → Int) :
    xbody (E16 N) ents impl_vectorText.kp N Go.Proofs.Tryd.f14 impl_vectorText.bd [.int .i64 (nv0), .agg [⟨.u8, 8, v1⟩]] [] K = (impl_vectorText.s N (fun d0 => K (.str (d0)) []) (fun outv2 x3 gv4 => xloop (xcode (E16 N) ents impl_vectorText.kp 0 N (cL (cK (cB (cA (cB (cB impl_vectorText.bd)))))) 0) impl_vectorText.kp 0 0 N (impl_vectorText.st0 nv0 v1 outv2 x3 gv4) (impl_vectorText.k0 N K)) nv0) := by kernel_rfl
theorem impl_vectorText.eq {ρ : Type} (N : Nat) (K : AV → Heap → Option ρ) (nv0 : Int) (v1 : Nat → Int) :
    xbody (E16 N) ents impl_vectorText.kp N Go.Proofs.Tryd.f14 impl_vectorText.bd [.int .i64 (nv0), .agg [⟨.u8, 8, v1⟩]] [] K = (impl_vectorText N (fun d0 => K (.str (d0)) []) nv0 v1) := by
  refine (impl_vectorText.s_eq N K nv0 v1).trans ?_
  simp only [impl_vectorText.l0_eq, impl_vectorText.a0_0_eq]
  kernel_rfl
def impl_vectorText.en (N : Nat) (ρ : Type) : List AV → Heap → (AV → Heap → Option ρ) → Option ρ
  | [.int .i64 (nv0), .agg [⟨.u8, 8, v1⟩]], [], K => (impl_vectorText N (fun d0 => K (.str (d0)) []) nv0 v1)
  | _, _, _ => none
theorem impl_vectorText.en_ok (N : Nat) (hE : EnvOk (E16 N) ents) (ρ : Type) (args : List AV) (sh : Heap) (K : AV → Heap → Option ρ) (r : ρ) (h : impl_vectorText.en N ρ args sh K = some r) : ∃ v sh', K v sh' = some r ∧ FnOk (E16 N).P 14 args sh v sh' := by
  unfold impl_vectorText.en at h
  split at h
  · exact fn_ok hE (kp := impl_vectorText.kp) (N := N) Go.Proofs.Tryd.func14 (c := impl_vectorText.bd) (by kernel_rfl) ((impl_vectorText.eq N _ _ _).trans h)
  · cases h
def E17 (N : Nat) : Env := (E16 N).add 14 (impl_vectorText.en N)
theorem E17_ok (N : Nat) : EnvOk (E17 N) ents := Env.add_ok (E16_ok N) (impl_vectorText.en_ok N (E16_ok N))
def impl_VectorText.kp : Keeps := ⟨[], [], []⟩
def impl_VectorText.bd : Code := bodyOf Go.Proofs.Tryd.f7
def impl_VectorText.fin {ρ : Type} (N : Nat) (K : AV → Heap → Option ρ) : XE → St → Option ρ := finK (E17 N) impl_VectorText.kp.fins Go.Proofs.Tryd.f7 [] K
theorem impl_VectorText.eq {ρ : Type} (N : Nat) (K : AV → Heap → Option ρ) (p0 : Int) (nv1 : Int) (v2 : Nat → Int) :
    xbody (E17 N) ents impl_VectorText.kp N Go.Proofs.Tryd.f7 impl_VectorText.bd [.int .i64 (p0), .int .i64 (nv1), .agg [⟨.u8, 8, v2⟩]] [] K = (impl_VectorText N (fun d0 d1 => K (.tup [.str (d0), .int .i64 (d1)]) []) p0 nv1 v2) := by kernel_rfl
def impl_VectorText.en (N : Nat) (ρ : Type) : List AV → Heap → (AV → Heap → Option ρ) → Option ρ
  | [.int .i64 (p0), .int .i64 (nv1), .agg [⟨.u8, 8, v2⟩]], [], K => (impl_VectorText N (fun d0 d1 => K (.tup [.str (d0), .int .i64 (d1)]) []) p0 nv1 v2)
  | _, _, _ => none
theorem impl_VectorText.en_ok (N : Nat) (hE : EnvOk (E17 N) ents) (ρ : Type) (args : List AV) (sh : Heap) (K : AV → Heap → Option ρ) (r : ρ) (h : impl_VectorText.en N ρ args sh K = some r) : ∃ v sh', K v sh' = some r ∧ FnOk (E17 N).P 7 args sh v sh' := by
  unfold impl_VectorText.en at h
  split at h
  · exact fn_ok hE (kp := impl_VectorText.kp) (N := N) Go.Proofs.Tryd.func7 (c := impl_VectorText.bd) (by kernel_rfl) ((impl_VectorText.eq N _ _ _ _).trans h)
  · cases h
def E18 (N : Nat) : Env := (E17 N).add 7 (impl_VectorText.en N)
theorem E18_ok (N : Nat) : EnvOk (E18 N) ents := Env.add_ok (E17_ok N) (impl_VectorText.en_ok N (E17_ok N))
def laws_FnExactVectorText.kp : Keeps := ⟨[], [], []⟩
def laws_FnExactVectorText.bd : Code := bodyOf Go.Proofs.Tryd.f3
def laws_FnExactVectorText.fin {ρ : Type} (N : Nat) (K : AV → Heap → Option ρ) : XE → St → Option ρ := finK (E18 N) laws_FnExactVectorText.kp.fins Go.Proofs.Tryd.f3 [] K
theorem laws_FnExactVectorText.eq {ρ : Type} (N : Nat) (K : AV → Heap → Option ρ) (aP0 : Int) (aN1 : Int) (aV2 : Nat → Int) :
    xbody (E18 N) ents laws_FnExactVectorText.kp N Go.Proofs.Tryd.f3 laws_FnExactVectorText.bd [.int .i64 (aP0), .int .i64 (aN1), .agg [⟨.u8, 8, aV2⟩]] [] K = (laws_FnExactVectorText N (fun d0 => K (.bool (d0)) []) aP0 aN1 aV2) := by kernel_rfl
def laws_FnExactVectorText.en (N : Nat) (ρ : Type) : List AV → Heap → (AV → Heap → Option ρ) → Option ρ
  | [.int .i64 (aP0), .int .i64 (aN1), .agg [⟨.u8, 8, aV2⟩]], [], K => (laws_FnExactVectorText N (fun d0 => K (.bool (d0)) []) aP0 aN1 aV2)
  | _, _, _ => none
theorem laws_FnExactVectorText.en_ok (N : Nat) (hE : EnvOk (E18 N) ents) (ρ : Type) (args : List AV) (sh : Heap) (K : AV → Heap → Option ρ) (r : ρ) (h : laws_FnExactVectorText.en N ρ args sh K = some r) : ∃ v sh', K v sh' = some r ∧ FnOk (E18 N).P 3 args sh v sh' := by
  unfold laws_FnExactVectorText.en at h
  split at h
  · exact fn_ok hE (kp := laws_FnExactVectorText.kp) (N := N) Go.Proofs.Tryd.func3 (c := laws_FnExactVectorText.bd) (by kernel_rfl) ((laws_FnExactVectorText.eq N _ _ _ _).trans h)
  · cases h
def E19 (N : Nat) : Env := (E18 N).add 3 (laws_FnExactVectorText.en N)
theorem E19_ok (N : Nat) : EnvOk (E19 N) ents := Env.add_ok (E18_ok N) (laws_FnExactVectorText.en_ok N (E18_ok N))
end
end Go.Proofs.YtfdkkcaolajhoaaDoor.H
