import Derived.Test.YtfdkkcaolajhoaaDoorHP0
import Derived.Test.YtfdkkcaolajhoaaDoorChecked
import Derived.KernelRfl
import Derived.Test.YtfdkkcaolajhoaaDoorHCon
namespace Go.Proofs.YtfdkkcaolajhoaaDoor.H
noncomputable section
set_option linter.unusedVariables false
set_option linter.unusedSimpArgs false
set_option linter.unusedSectionVars false
open Go Go.RowKit Go.Proofs.YtfdkkcaolajhoaaDoor.Hg
set_option maxRecDepth 100000
def lays : List Lay := [.other, .func, .int .i64, .int .i64, .bool, .int .u8, .int .u8, .mix [(0, 1, false), (1, 1, false), (2, 1, false), (3, 1, false)] [.int .i64, .int .i64, .bool, .int .u8], .mix [(0, 1, false), (1, 1, false), (2, 1, false), (3, 1, false)] [.int .i64, .int .i64, .bool, .int .u8], .str, .str, .str, .int .u64, .mix [(0, 1, false), (1, 1, false)] [.str, .int .u64], .mix [(0, 1, false), (1, 1, false)] [.str, .int .u64], .ptr, .ptr, .ptr, .other, .other, .other, .int .i32, .arr 8 5 1 .u8, .other, .func, .arr 8 5 1 .u8, .func, .func, .other, .func, .func, .func, .func, .func, .func, .other, .func, .slice 9 1 16, .func, .int .u64, .other, .other, .other, .func, .func, .func, .func, .slice 5 1 1, .func, .func, .func, .func, .func, .func, .ptr, .other, .other, .func, .other, .func, .func, .func, .func, .int .i64, .func, .int .u64, .func, .ptr, .func, .func, .func, .ptr, .func, .other, .func, .func, .func, .other, .other, .func, .arr 24 5 1 .u8, .func, .func, .other, .func, .other, .func, .func, .func, .ptr, .mix [(0, 1, false)] [.str], .mix [(0, 1, false)] [.str], .func, .arr 20 39 1 .u64, .int .u32, .arr 65 5 1 .u8, .func, .func, .arr 256 5 1 .u8, .struct [(0, 1, false), (1, 1, false)] [(.u8, 2)], .struct [(0, 1, false), (1, 1, false)] [(.u8, 2)], .other, .other, .func, .func, .arr 32 5 1 .u8, .arr 64 5 1 .u8, .other, .other, .other, .other, .other, .func, .int .u8, .int .u8, .func, .int .i32, .int .i32, .other, .other]
def wrs : List (FuncId × List Bool) := []
def ents : List FuncId := [4, 8, 9, 10, 13, 14, 15, 16, 17, 18, 21, 22, 23, 24, 25, 26, 27, 28]
def E0 (N : Nat) : Env := env0 Go.Proofs.Tryd.prog lays wrs
theorem E0_ok (N : Nat) : EnvOk (E0 N) ents := env0_ok (by kernel_rfl) (by kernel_rfl) (by kernel_rfl)
def spec_l01In.kp : Keeps := ⟨[], [], []⟩
def spec_l01In.bd : Code := bodyOf Go.Proofs.Tryd.f26
def spec_l01In.fin {ρ : Type} (N : Nat) (K : AV → Heap → Option ρ) : XE → St → Option ρ := finK (E0 N) spec_l01In.kp.fins Go.Proofs.Tryd.f26 [] K
theorem spec_l01In.eq {ρ : Type} (N : Nat) (K : AV → Heap → Option ρ) (nv0 : Int) (low1 : Int) (high2 : Int) :
    xbody (E0 N) ents spec_l01In.kp N Go.Proofs.Tryd.f26 spec_l01In.bd [.int .i64 (nv0), .int .i64 (low1), .int .i64 (high2)] [] K = (spec_l01In N (fun d0 => K (.bool (d0)) []) nv0 low1 high2) := by kernel_rfl
def spec_l01In.en (N : Nat) (ρ : Type) : List AV → Heap → (AV → Heap → Option ρ) → Option ρ
  | [.int .i64 (nv0), .int .i64 (low1), .int .i64 (high2)], [], K => (spec_l01In N (fun d0 => K (.bool (d0)) []) nv0 low1 high2)
  | _, _, _ => none
theorem spec_l01In.en_ok (N : Nat) (hE : EnvOk (E0 N) ents) (ρ : Type) (args : List AV) (sh : Heap) (K : AV → Heap → Option ρ) (r : ρ) (h : spec_l01In.en N ρ args sh K = some r) : ∃ v sh', K v sh' = some r ∧ FnOk (E0 N).P 26 args sh v sh' := by
  unfold spec_l01In.en at h
  split at h
  · exact fn_ok hE (kp := spec_l01In.kp) (N := N) Go.Proofs.Tryd.func26 (c := spec_l01In.bd) (by kernel_rfl) ((spec_l01In.eq N _ _ _ _).trans h)
  · cases h
def E1 (N : Nat) : Env := (E0 N).add 26 (spec_l01In.en N)
theorem E1_ok (N : Nat) : EnvOk (E1 N) ents := Env.add_ok (E0_ok N) (spec_l01In.en_ok N (E0_ok N))
def spec_l01Prime.kp : Keeps := ⟨[(0, [0, 3], [], [])], [(0, [0], [], [])], []⟩
def spec_l01Prime.bd : Code := bodyOf Go.Proofs.Tryd.f25
def spec_l01Prime.fin {ρ : Type} (N : Nat) (K : AV → Heap → Option ρ) : XE → St → Option ρ := finK (E1 N) spec_l01Prime.kp.fins Go.Proofs.Tryd.f25 [] K
def spec_l01Prime.k0 {ρ : Type} (N : Nat) (K : AV → Heap → Option ρ) : XE → St → Option ρ := (blockK spec_l01Prime.kp 0 0 (seqK (xcode (E1 N) ents spec_l01Prime.kp 0 N (cB (cB spec_l01Prime.bd)) 0) (spec_l01Prime.fin N K)))
theorem spec_l01Prime.k0_mix {ρ : Type} (N : Nat) (K : AV → Heap → Option ρ) : mixK (spec_l01Prime.fin N K .ret) (spec_l01Prime.k0 N K) = (spec_l01Prime.k0 N K) := by
  funext e s; cases e <;> kernel_rfl
def spec_l01Prime.st0 (p0 : Int) (k1 : Int) : St := ⟨sl 19 [(0, .int .i64 (p0)), (3, .int .i64 (k1))], []⟩
def spec_l01Prime.sx0_0 (p0 : Int) : St := ⟨sl 19 [(0, .int .i64 (p0))], []⟩
theorem spec_l01Prime.b0_gen {ρ : Type} (N : Nat) (K : AV → Heap → Option ρ) (L0 : St → Option ρ) (kv : XE → St → Option ρ) (p0 : Int) (k1 : Int) :
    xcode (E1 N) ents spec_l01Prime.kp 0 N (cL (cK (cB (cA (cB spec_l01Prime.bd))))) 0 (spec_l01Prime.st0 p0 k1) (roundK spec_l01Prime.kp 0 0 L0 (mixK (spec_l01Prime.fin N K .ret) kv)) = (spec_l01Prime.b0 N (fun d0 => K (.bool (d0)) []) (fun k1 => L0 (spec_l01Prime.st0 p0 k1)) (kv (.exit 0) (spec_l01Prime.sx0_0 p0)) p0 k1) := by kernel_rfl
theorem spec_l01Prime.b0_eq {ρ : Type} (N : Nat) (K : AV → Heap → Option ρ) (L0 : St → Option ρ) (p0 : Int) (k1 : Int) :
    xcode (E1 N) ents spec_l01Prime.kp 0 N (cL (cK (cB (cA (cB spec_l01Prime.bd))))) 0 (spec_l01Prime.st0 p0 k1) (roundK spec_l01Prime.kp 0 0 L0 (spec_l01Prime.k0 N K)) = (spec_l01Prime.b0 N (fun d0 => K (.bool (d0)) []) (fun k1 => L0 (spec_l01Prime.st0 p0 k1)) ((spec_l01Prime.k0 N K) (.exit 0) (spec_l01Prime.sx0_0 p0)) p0 k1) := by
  have h := spec_l01Prime.b0_gen N K L0 (spec_l01Prime.k0 N K) p0 k1
  rw [spec_l01Prime.k0_mix] at h
  exact h
theorem spec_l01Prime.a0_0_eq {ρ : Type} (N : Nat) (K : AV → Heap → Option ρ) (p0 : Int) :
    (spec_l01Prime.k0 N K) (.exit 0) (spec_l01Prime.sx0_0 p0) = (spec_l01Prime.a0_0 N (fun d0 => K (.bool (d0)) []) p0) := by kernel_rfl
theorem spec_l01Prime.l0_eq {ρ : Type} (N : Nat) (K : AV → Heap → Option ρ) (p0 : Int) :
    ∀ (m : Nat) (k1 : Int), xloop (xcode (E1 N) ents spec_l01Prime.kp 0 N (cL (cK (cB (cA (cB spec_l01Prime.bd))))) 0) spec_l01Prime.kp 0 0 m (spec_l01Prime.st0 p0 k1) (spec_l01Prime.k0 N K) = (spec_l01Prime.l0 N (fun d0 => K (.bool (d0)) []) p0 ((spec_l01Prime.k0 N K) (.exit 0) (spec_l01Prime.sx0_0 p0)) m k1) := by
  intro m
  induction m with
  | zero => intros; rfl
  | succ m ih =>
    intro k1
    refine (spec_l01Prime.b0_eq N K (fun s => xloop (xcode (E1 N) ents spec_l01Prime.kp 0 N (cL (cK (cB (cA (cB spec_l01Prime.bd))))) 0) spec_l01Prime.kp 0 0 m s (spec_l01Prime.k0 N K)) p0 k1).trans ?_
    simp only [ih]
    kernel_rfl
theorem spec_l01Prime.s_eq {ρ : Type} (N : Nat) (K : AV → Heap → Option ρ) (p0 : Int) :
    xbody (E1 N) ents spec_l01Prime.kp N Go.Proofs.Tryd.f25 spec_l01Prime.bd [.int .i64 (p0)] [] K = (spec_l01Prime.s N (fun d0 => K (.bool (d0)) []) (fun k1 => xloop (xcode (E1 N) ents spec_l01Prime.kp 0 N (cL (cK (cB (cA (cB spec_l01Prime.bd))))) 0) spec_l01Prime.kp 0 0 N (spec_l01Prime.st0 p0 k1) (spec_l01Prime.k0 N K))) := by kernel_rfl
theorem spec_l01Prime.eq {ρ : Type} (N : Nat) (K : AV → Heap → Option ρ) (p0 : Int) :
    xbody (E1 N) ents spec_l01Prime.kp N Go.Proofs.Tryd.f25 spec_l01Prime.bd [.int .i64 (p0)] [] K = (spec_l01Prime N (fun d0 => K (.bool (d0)) []) p0) := by
  refine (spec_l01Prime.s_eq N K p0).trans ?_
  simp only [spec_l01Prime.l0_eq, spec_l01Prime.a0_0_eq]
  kernel_rfl
def spec_l01Prime.en (N : Nat) (ρ : Type) : List AV → Heap → (AV → Heap → Option ρ) → Option ρ
  | [.int .i64 (p0)], [], K => (spec_l01Prime N (fun d0 => K (.bool (d0)) []) p0)
  | _, _, _ => none
theorem spec_l01Prime.en_ok (N : Nat) (hE : EnvOk (E1 N) ents) (ρ : Type) (args : List AV) (sh : Heap) (K : AV → Heap → Option ρ) (r : ρ) (h : spec_l01Prime.en N ρ args sh K = some r) : ∃ v sh', K v sh' = some r ∧ FnOk (E1 N).P 25 args sh v sh' := by
  unfold spec_l01Prime.en at h
  split at h
  · exact fn_ok hE (kp := spec_l01Prime.kp) (N := N) Go.Proofs.Tryd.func25 (c := spec_l01Prime.bd) (by kernel_rfl) ((spec_l01Prime.eq N _ _).trans h)
  · cases h
def E2 (N : Nat) : Env := (E1 N).add 25 (spec_l01Prime.en N)
theorem E2_ok (N : Nat) : EnvOk (E2 N) ents := Env.add_ok (E1_ok N) (spec_l01Prime.en_ok N (E1_ok N))
def spec_l01Sizes.kp : Keeps := ⟨[], [], []⟩
def spec_l01Sizes.bd : Code := bodyOf Go.Proofs.Tryd.f15
def spec_l01Sizes.fin {ρ : Type} (N : Nat) (K : AV → Heap → Option ρ) : XE → St → Option ρ := finK (E2 N) spec_l01Sizes.kp.fins Go.Proofs.Tryd.f15 [] K
theorem spec_l01Sizes.eq {ρ : Type} (N : Nat) (K : AV → Heap → Option ρ) (p0 : Int) (nv1 : Int) :
    xbody (E2 N) ents spec_l01Sizes.kp N Go.Proofs.Tryd.f15 spec_l01Sizes.bd [.int .i64 (p0), .int .i64 (nv1)] [] K = (spec_l01Sizes N (fun d0 => K (.bool (d0)) []) p0 nv1) := by kernel_rfl
def spec_l01Sizes.en (N : Nat) (ρ : Type) : List AV → Heap → (AV → Heap → Option ρ) → Option ρ
  | [.int .i64 (p0), .int .i64 (nv1)], [], K => (spec_l01Sizes N (fun d0 => K (.bool (d0)) []) p0 nv1)
  | _, _, _ => none
theorem spec_l01Sizes.en_ok (N : Nat) (hE : EnvOk (E2 N) ents) (ρ : Type) (args : List AV) (sh : Heap) (K : AV → Heap → Option ρ) (r : ρ) (h : spec_l01Sizes.en N ρ args sh K = some r) : ∃ v sh', K v sh' = some r ∧ FnOk (E2 N).P 15 args sh v sh' := by
  unfold spec_l01Sizes.en at h
  split at h
  · exact fn_ok hE (kp := spec_l01Sizes.kp) (N := N) Go.Proofs.Tryd.func15 (c := spec_l01Sizes.bd) (by kernel_rfl) ((spec_l01Sizes.eq N _ _ _).trans h)
  · cases h
def E3 (N : Nat) : Env := (E2 N).add 15 (spec_l01Sizes.en N)
theorem E3_ok (N : Nat) : EnvOk (E3 N) ents := Env.add_ok (E2_ok N) (spec_l01Sizes.en_ok N (E2_ok N))
def spec_l01Split.kp : Keeps := ⟨[(0, [0, 1, 5, 6, 7], [], [])], [(0, [0, 5, 6], [], [])], []⟩
def spec_l01Split.bd : Code := bodyOf Go.Proofs.Tryd.f27
def spec_l01Split.fin {ρ : Type} (N : Nat) (K : AV → Heap → Option ρ) : XE → St → Option ρ := finK (E3 N) spec_l01Split.kp.fins Go.Proofs.Tryd.f27 [] K
def spec_l01Split.k0 {ρ : Type} (N : Nat) (K : AV → Heap → Option ρ) : XE → St → Option ρ := (blockK spec_l01Split.kp 0 0 (seqK (xcode (E3 N) ents spec_l01Split.kp 0 N (cB (cB (cB (cB spec_l01Split.bd)))) 0) (spec_l01Split.fin N K)))
theorem spec_l01Split.k0_mix {ρ : Type} (N : Nat) (K : AV → Heap → Option ρ) : mixK (spec_l01Split.fin N K .ret) (spec_l01Split.k0 N K) = (spec_l01Split.k0 N K) := by
  funext e s; cases e <;> kernel_rfl
def spec_l01Split.st0 (s0 : ByteArray) (by1 : Int) (outv2 : Nat) (at3 : Int) (i4 : Int) (gv5 : Nat → ByteArray) : St := ⟨sl 35 [(0, .str (s0)), (1, .int .u8 (by1)), (5, .slice true 0 0 outv2 .whole 1), (6, .int .i64 (at3)), (7, .int .i64 (i4))], [⟨true, .flat 0 (.strs gv5)⟩]⟩
def spec_l01Split.sx0_0 (s0 : ByteArray) (ov6 : Nat) (ov7 : Int) (ov8 : Nat → ByteArray) : St := ⟨sl 35 [(0, .str (s0)), (5, .slice true 0 0 ov6 .whole 1), (6, .int .i64 (ov7))], [⟨true, .flat 0 (.strs ov8)⟩]⟩
theorem spec_l01Split.b0_gen {ρ : Type} (N : Nat) (K : AV → Heap → Option ρ) (L0 : St → Option ρ) (kv : XE → St → Option ρ) (s0 : ByteArray) (by1 : Int) (outv2 : Nat) (at3 : Int) (i4 : Int) (gv5 : Nat → ByteArray) :
    xcode (E3 N) ents spec_l01Split.kp 0 N (cL (cK (cB (cA (cB (cB (cB spec_l01Split.bd))))))) 0 (spec_l01Split.st0 s0 by1 outv2 at3 i4 gv5) (roundK spec_l01Split.kp 0 0 L0 (mixK (spec_l01Split.fin N K .ret) kv)) = (spec_l01Split.b0 N (fun d0 d1 => K (.slice true 0 0 d0 .whole 1) [⟨true, .flat 0 (.strs d1)⟩]) (fun outv2 at3 i4 gv5 => L0 (spec_l01Split.st0 s0 by1 outv2 at3 i4 gv5)) (fun ov6 ov7 ov8 => kv (.exit 0) (spec_l01Split.sx0_0 s0 ov6 ov7 ov8)) s0 by1 outv2 at3 i4 gv5) := by kernel_rfl
theorem spec_l01Split.b0_eq {ρ : Type} (N : Nat) (K : AV → Heap → Option ρ) (L0 : St → Option ρ) (s0 : ByteArray) (by1 : Int) (outv2 : Nat) (at3 : Int) (i4 : Int) (gv5 : Nat → ByteArray) :
    xcode (E3 N) ents spec_l01Split.kp 0 N (cL (cK (cB (cA (cB (cB (cB spec_l01Split.bd))))))) 0 (spec_l01Split.st0 s0 by1 outv2 at3 i4 gv5) (roundK spec_l01Split.kp 0 0 L0 (spec_l01Split.k0 N K)) = (spec_l01Split.b0 N (fun d0 d1 => K (.slice true 0 0 d0 .whole 1) [⟨true, .flat 0 (.strs d1)⟩]) (fun outv2 at3 i4 gv5 => L0 (spec_l01Split.st0 s0 by1 outv2 at3 i4 gv5)) (fun ov6 ov7 ov8 => (spec_l01Split.k0 N K) (.exit 0) (spec_l01Split.sx0_0 s0 ov6 ov7 ov8)) s0 by1 outv2 at3 i4 gv5) := by
  have h := spec_l01Split.b0_gen N K L0 (spec_l01Split.k0 N K) s0 by1 outv2 at3 i4 gv5
  rw [spec_l01Split.k0_mix] at h
  exact h
theorem spec_l01Split.a0_0_eq {ρ : Type} (N : Nat) (K : AV → Heap → Option ρ) (s0 : ByteArray) (ov6 : Nat) (ov7 : Int) (ov8 : Nat → ByteArray) :
    (spec_l01Split.k0 N K) (.exit 0) (spec_l01Split.sx0_0 s0 ov6 ov7 ov8) = (spec_l01Split.a0_0 N (fun d0 d1 => K (.slice true 0 0 d0 .whole 1) [⟨true, .flat 0 (.strs d1)⟩]) s0 ov6 ov7 ov8) := by kernel_rfl
theorem spec_l01Split.l0_eq {ρ : Type} (N : Nat) (K : AV → Heap → Option ρ) (s0 : ByteArray) (by1 : Int) :
    ∀ (m : Nat) (outv2 : Nat) (at3 : Int) (i4 : Int) (gv5 : Nat → ByteArray), xloop (xcode (E3 N) ents spec_l01Split.kp 0 N (cL (cK (cB (cA (cB (cB (cB spec_l01Split.bd))))))) 0) spec_l01Split.kp 0 0 m (spec_l01Split.st0 s0 by1 outv2 at3 i4 gv5) (spec_l01Split.k0 N K) = (spec_l01Split.l0 N (fun d0 d1 => K (.slice true 0 0 d0 .whole 1) [⟨true, .flat 0 (.strs d1)⟩]) s0 by1 (fun ov6 ov7 ov8 => (spec_l01Split.k0 N K) (.exit 0) (spec_l01Split.sx0_0 s0 ov6 ov7 ov8)) m outv2 at3 i4 gv5) := by
  intro m
  induction m with
  | zero => intros; rfl
  | succ m ih =>
    intro outv2 at3 i4 gv5
    refine (spec_l01Split.b0_eq N K (fun s => xloop (xcode (E3 N) ents spec_l01Split.kp 0 N (cL (cK (cB (cA (cB (cB (cB spec_l01Split.bd))))))) 0) spec_l01Split.kp 0 0 m s (spec_l01Split.k0 N K)) s0 by1 outv2 at3 i4 gv5).trans ?_
    simp only [ih]
    kernel_rfl
theorem spec_l01Split.s_eq {ρ : Type} (N : Nat) (K : AV → Heap → Option ρ) (s0 : ByteArray) (by1 : Int) :
    xbody (E3 N) ents spec_l01Split.kp N Go.Proofs.Tryd.f27 spec_l01Split.bd [.str (s0), .int .u8 (by1)] [] K = (spec_l01Split.s N (fun d0 d1 => K (.slice true 0 0 d0 .whole 1) [⟨true, .flat 0 (.strs d1)⟩]) (fun outv2 at3 i4 gv5 => xloop (xcode (E3 N) ents spec_l01Split.kp 0 N (cL (cK (cB (cA (cB (cB (cB spec_l01Split.bd))))))) 0) spec_l01Split.kp 0 0 N (spec_l01Split.st0 s0 by1 outv2 at3 i4 gv5) (spec_l01Split.k0 N K))) := by kernel_rfl
theorem spec_l01Split.eq {ρ : Type} (N : Nat) (K : AV → Heap → Option ρ) (s0 : ByteArray) (by1 : Int) :
    xbody (E3 N) ents spec_l01Split.kp N Go.Proofs.Tryd.f27 spec_l01Split.bd [.str (s0), .int .u8 (by1)] [] K = (spec_l01Split N (fun d0 d1 => K (.slice true 0 0 d0 .whole 1) [⟨true, .flat 0 (.strs d1)⟩]) s0 by1) := by
  refine (spec_l01Split.s_eq N K s0 by1).trans ?_
  simp only [spec_l01Split.l0_eq, spec_l01Split.a0_0_eq]
  kernel_rfl
def spec_l01Split.en (N : Nat) (ρ : Type) : List AV → Heap → (AV → Heap → Option ρ) → Option ρ
  | [.str (s0), .int .u8 (by1)], [], K => (spec_l01Split N (fun d0 d1 => K (.slice true 0 0 d0 .whole 1) [⟨true, .flat 0 (.strs d1)⟩]) s0 by1)
  | _, _, _ => none
theorem spec_l01Split.en_ok (N : Nat) (hE : EnvOk (E3 N) ents) (ρ : Type) (args : List AV) (sh : Heap) (K : AV → Heap → Option ρ) (r : ρ) (h : spec_l01Split.en N ρ args sh K = some r) : ∃ v sh', K v sh' = some r ∧ FnOk (E3 N).P 27 args sh v sh' := by
  unfold spec_l01Split.en at h
  split at h
  · exact fn_ok hE (kp := spec_l01Split.kp) (N := N) Go.Proofs.Tryd.func27 (c := spec_l01Split.bd) (by kernel_rfl) ((spec_l01Split.eq N _ _ _).trans h)
  · cases h
def E4 (N : Nat) : Env := (E3 N).add 27 (spec_l01Split.en N)
theorem E4_ok (N : Nat) : EnvOk (E4 N) ents := Env.add_ok (E3_ok N) (spec_l01Split.en_ok N (E3_ok N))
def spec_l01Number.kp : Keeps := ⟨[(0, [0, 3, 4], [], [])], [(0, [3], [], [])], []⟩
def spec_l01Number.bd : Code := bodyOf Go.Proofs.Tryd.f28
def spec_l01Number.fin {ρ : Type} (N : Nat) (K : AV → Heap → Option ρ) : XE → St → Option ρ := finK (E4 N) spec_l01Number.kp.fins Go.Proofs.Tryd.f28 [] K
def spec_l01Number.k0 {ρ : Type} (N : Nat) (K : AV → Heap → Option ρ) : XE → St → Option ρ := (blockK spec_l01Number.kp 0 0 (seqK (xcode (E4 N) ents spec_l01Number.kp 0 N (cB (cB (cB (cB spec_l01Number.bd)))) 0) (spec_l01Number.fin N K)))
theorem spec_l01Number.k0_mix {ρ : Type} (N : Nat) (K : AV → Heap → Option ρ) : mixK (spec_l01Number.fin N K .ret) (spec_l01Number.k0 N K) = (spec_l01Number.k0 N K) := by
  funext e s; cases e <;> kernel_rfl
def spec_l01Number.st0 (s0 : ByteArray) (nv1 : Int) (i2 : Int) : St := ⟨sl 48 [(0, .str (s0)), (3, .int .i64 (nv1)), (4, .int .i64 (i2))], []⟩
def spec_l01Number.sx0_0 (ov3 : Int) : St := ⟨sl 48 [(3, .int .i64 (ov3))], []⟩
def spec_l01Number.k1 {ρ : Type} (N : Nat) (K : AV → Heap → Option ρ) : XE → St → Option ρ := (blockK spec_l01Number.kp 0 0 (seqK (xcode (E4 N) ents spec_l01Number.kp 0 N (cB (cB (cB (cB spec_l01Number.bd)))) 0) (spec_l01Number.fin N K)))
theorem spec_l01Number.k1_mix {ρ : Type} (N : Nat) (K : AV → Heap → Option ρ) : mixK (spec_l01Number.fin N K .ret) (spec_l01Number.k1 N K) = (spec_l01Number.k1 N K) := by
  funext e s; cases e <;> kernel_rfl
def spec_l01Number.st1 (s0 : ByteArray) (nv4 : Int) (i5 : Int) : St := ⟨sl 48 [(0, .str (s0)), (3, .int .i64 (nv4)), (4, .int .i64 (i5))], []⟩
def spec_l01Number.sx1_0 (ov6 : Int) : St := ⟨sl 48 [(3, .int .i64 (ov6))], []⟩
theorem spec_l01Number.b0_gen {ρ : Type} (N : Nat) (K : AV → Heap → Option ρ) (L0 : St → Option ρ) (kv : XE → St → Option ρ) (s0 : ByteArray) (nv1 : Int) (i2 : Int) :
    xcode (E4 N) ents spec_l01Number.kp 0 N (cL (cK (cB (cA (cB (cB (cB spec_l01Number.bd))))))) 0 (spec_l01Number.st0 s0 nv1 i2) (roundK spec_l01Number.kp 0 0 L0 (mixK (spec_l01Number.fin N K .ret) kv)) = (spec_l01Number.b0 N (fun d0 => K (.int .i64 (d0)) []) (fun nv1 i2 => L0 (spec_l01Number.st0 s0 nv1 i2)) (fun ov3 => kv (.exit 0) (spec_l01Number.sx0_0 ov3)) s0 nv1 i2) := by kernel_rfl
theorem spec_l01Number.b0_eq {ρ : Type} (N : Nat) (K : AV → Heap → Option ρ) (L0 : St → Option ρ) (s0 : ByteArray) (nv1 : Int) (i2 : Int) :
    xcode (E4 N) ents spec_l01Number.kp 0 N (cL (cK (cB (cA (cB (cB (cB spec_l01Number.bd))))))) 0 (spec_l01Number.st0 s0 nv1 i2) (roundK spec_l01Number.kp 0 0 L0 (spec_l01Number.k0 N K)) = (spec_l01Number.b0 N (fun d0 => K (.int .i64 (d0)) []) (fun nv1 i2 => L0 (spec_l01Number.st0 s0 nv1 i2)) (fun ov3 => (spec_l01Number.k0 N K) (.exit 0) (spec_l01Number.sx0_0 ov3)) s0 nv1 i2) := by
  have h := spec_l01Number.b0_gen N K L0 (spec_l01Number.k0 N K) s0 nv1 i2
  rw [spec_l01Number.k0_mix] at h
  exact h
theorem spec_l01Number.a0_0_eq {ρ : Type} (N : Nat) (K : AV → Heap → Option ρ) (ov3 : Int) :
    (spec_l01Number.k0 N K) (.exit 0) (spec_l01Number.sx0_0 ov3) = (spec_l01Number.a0_0 N (fun d0 => K (.int .i64 (d0)) []) ov3) := by kernel_rfl
theorem spec_l01Number.b1_gen {ρ : Type} (N : Nat) (K : AV → Heap → Option ρ) (L1 : St → Option ρ) (kv : XE → St → Option ρ) (s0 : ByteArray) (nv4 : Int) (i5 : Int) :
    xcode (E4 N) ents spec_l01Number.kp 0 N (cL (cK (cB (cA (cB (cB (cB spec_l01Number.bd))))))) 0 (spec_l01Number.st1 s0 nv4 i5) (roundK spec_l01Number.kp 0 0 L1 (mixK (spec_l01Number.fin N K .ret) kv)) = (spec_l01Number.b1 N (fun d0 => K (.int .i64 (d0)) []) (fun nv4 i5 => L1 (spec_l01Number.st1 s0 nv4 i5)) (fun ov6 => kv (.exit 0) (spec_l01Number.sx1_0 ov6)) s0 nv4 i5) := by kernel_rfl
theorem spec_l01Number.b1_eq {ρ : Type} (N : Nat) (K : AV → Heap → Option ρ) (L1 : St → Option ρ) (s0 : ByteArray) (nv4 : Int) (i5 : Int) :
    xcode (E4 N) ents spec_l01Number.kp 0 N (cL (cK (cB (cA (cB (cB (cB spec_l01Number.bd))))))) 0 (spec_l01Number.st1 s0 nv4 i5) (roundK spec_l01Number.kp 0 0 L1 (spec_l01Number.k1 N K)) = (spec_l01Number.b1 N (fun d0 => K (.int .i64 (d0)) []) (fun nv4 i5 => L1 (spec_l01Number.st1 s0 nv4 i5)) (fun ov6 => (spec_l01Number.k1 N K) (.exit 0) (spec_l01Number.sx1_0 ov6)) s0 nv4 i5) := by
  have h := spec_l01Number.b1_gen N K L1 (spec_l01Number.k1 N K) s0 nv4 i5
  rw [spec_l01Number.k1_mix] at h
  exact h
theorem spec_l01Number.a1_0_eq {ρ : Type} (N : Nat) (K : AV → Heap → Option ρ) (ov6 : Int) :
    (spec_l01Number.k1 N K) (.exit 0) (spec_l01Number.sx1_0 ov6) = (spec_l01Number.a1_0 N (fun d0 => K (.int .i64 (d0)) []) ov6) := by kernel_rfl
theorem spec_l01Number.l0_eq {ρ : Type} (N : Nat) (K : AV → Heap → Option ρ) (s0 : ByteArray) :
    ∀ (m : Nat) (nv1 : Int) (i2 : Int), xloop (xcode (E4 N) ents spec_l01Number.kp 0 N (cL (cK (cB (cA (cB (cB (cB spec_l01Number.bd))))))) 0) spec_l01Number.kp 0 0 m (spec_l01Number.st0 s0 nv1 i2) (spec_l01Number.k0 N K) = (spec_l01Number.l0 N (fun d0 => K (.int .i64 (d0)) []) s0 (fun ov3 => (spec_l01Number.k0 N K) (.exit 0) (spec_l01Number.sx0_0 ov3)) m nv1 i2) := by
  intro m
  induction m with
  | zero => intros; rfl
  | succ m ih =>
    intro nv1 i2
    refine (spec_l01Number.b0_eq N K (fun s => xloop (xcode (E4 N) ents spec_l01Number.kp 0 N (cL (cK (cB (cA (cB (cB (cB spec_l01Number.bd))))))) 0) spec_l01Number.kp 0 0 m s (spec_l01Number.k0 N K)) s0 nv1 i2).trans ?_
    simp only [ih]
    kernel_rfl
theorem spec_l01Number.l1_eq {ρ : Type} (N : Nat) (K : AV → Heap → Option ρ) (s0 : ByteArray) :
    ∀ (m : Nat) (nv4 : Int) (i5 : Int), xloop (xcode (E4 N) ents spec_l01Number.kp 0 N (cL (cK (cB (cA (cB (cB (cB spec_l01Number.bd))))))) 0) spec_l01Number.kp 0 0 m (spec_l01Number.st1 s0 nv4 i5) (spec_l01Number.k1 N K) = (spec_l01Number.l1 N (fun d0 => K (.int .i64 (d0)) []) s0 (fun ov6 => (spec_l01Number.k1 N K) (.exit 0) (spec_l01Number.sx1_0 ov6)) m nv4 i5) := by
  intro m
  induction m with
  | zero => intros; rfl
  | succ m ih =>
    intro nv4 i5
    refine (spec_l01Number.b1_eq N K (fun s => xloop (xcode (E4 N) ents spec_l01Number.kp 0 N (cL (cK (cB (cA (cB (cB (cB spec_l01Number.bd))))))) 0) spec_l01Number.kp 0 0 m s (spec_l01Number.k1 N K)) s0 nv4 i5).trans ?_
    simp only [ih]
    kernel_rfl
theorem spec_l01Number.s_eq {ρ : Type} (N : Nat) (K : AV → Heap → Option ρ) (s0 : ByteArray) :
    xbody (E4 N) ents spec_l01Number.kp N Go.Proofs.Tryd.f28 spec_l01Number.bd [.str (s0)] [] K = (spec_l01Number.s N (fun d0 => K (.int .i64 (d0)) []) (fun nv1 i2 => xloop (xcode (E4 N) ents spec_l01Number.kp 0 N (cL (cK (cB (cA (cB (cB (cB spec_l01Number.bd))))))) 0) spec_l01Number.kp 0 0 N (spec_l01Number.st0 s0 nv1 i2) (spec_l01Number.k0 N K)) (fun nv4 i5 => xloop (xcode (E4 N) ents spec_l01Number.kp 0 N (cL (cK (cB (cA (cB (cB (cB spec_l01Number.bd))))))) 0) spec_l01Number.kp 0 0 N (spec_l01Number.st1 s0 nv4 i5) (spec_l01Number.k1 N K)) s0) := by kernel_rfl
theorem spec_l01Number.eq {ρ : Type} (N : Nat) (K : AV → Heap → Option ρ) (s0 : ByteArray) :
    xbody (E4 N) ents spec_l01Number.kp N Go.Proofs.Tryd.f28 spec_l01Number.bd [.str (s0)] [] K = (spec_l01Number N (fun d0 => K (.int .i64 (d0)) []) s0) := by
  refine (spec_l01Number.s_eq N K s0).trans ?_
  simp only [spec_l01Number.l0_eq, spec_l01Number.a0_0_eq, spec_l01Number.l1_eq, spec_l01Number.a1_0_eq]
  kernel_rfl
def spec_l01Number.en (N : Nat) (ρ : Type) : List AV → Heap → (AV → Heap → Option ρ) → Option ρ
  | [.str (s0)], [], K => (spec_l01Number N (fun d0 => K (.int .i64 (d0)) []) s0)
  | _, _, _ => none
theorem spec_l01Number.en_ok (N : Nat) (hE : EnvOk (E4 N) ents) (ρ : Type) (args : List AV) (sh : Heap) (K : AV → Heap → Option ρ) (r : ρ) (h : spec_l01Number.en N ρ args sh K = some r) : ∃ v sh', K v sh' = some r ∧ FnOk (E4 N).P 28 args sh v sh' := by
  unfold spec_l01Number.en at h
  split at h
  · exact fn_ok hE (kp := spec_l01Number.kp) (N := N) Go.Proofs.Tryd.func28 (c := spec_l01Number.bd) (by kernel_rfl) ((spec_l01Number.eq N _ _).trans h)
  · cases h
def E5 (N : Nat) : Env := (E4 N).add 28 (spec_l01Number.en N)
theorem E5_ok (N : Nat) : EnvOk (E5 N) ents := Env.add_ok (E4_ok N) (spec_l01Number.en_ok N (E4_ok N))
def spec_l01Read.kp : Keeps := ⟨[(0, [0, 6, 8, 9, 10], [], [])], [(0, [6, 9], [], [])], []⟩
def spec_l01Read.bd : Code := bodyOf Go.Proofs.Tryd.f16
def spec_l01Read.fin {ρ : Type} (N : Nat) (K : AV → Heap → Option ρ) : XE → St → Option ρ := finK (E5 N) spec_l01Read.kp.fins Go.Proofs.Tryd.f16 [] K
def spec_l01Read.k0 {ρ : Type} (N : Nat) (K : AV → Heap → Option ρ) : XE → St → Option ρ := (blockK spec_l01Read.kp 0 0 (seqK (xcode (E5 N) ents spec_l01Read.kp 0 N (cB (cB (cB (cB spec_l01Read.bd)))) 0) (spec_l01Read.fin N K)))
theorem spec_l01Read.k0_mix {ρ : Type} (N : Nat) (K : AV → Heap → Option ρ) : mixK (spec_l01Read.fin N K .ret) (spec_l01Read.k0 N K) = (spec_l01Read.k0 N K) := by
  funext e s; cases e <;> kernel_rfl
def spec_l01Read.st0 (p0 : Int) (rv3 : Nat) (rv4 : Nat → ByteArray) (i5 : Int) (gv6 : Nat → Int) : St := ⟨sl 42 [(0, .int .i64 (p0)), (6, .sptr [(0, 8)]), (8, .slice true 1 0 rv3 .whole 1), (9, .sptr [(2, 8)]), (10, .int .i64 (i5))], [⟨true, .flat 8 (.ints .u8 (fun _ => 0))⟩, ⟨true, .flat 0 (.strs rv4)⟩, ⟨true, .flat 8 (.ints .u8 gv6)⟩]⟩
def spec_l01Read.sx0_0 (ov9 : Nat → Int) : St := ⟨sl 42 [(6, .sptr [(0, 8)]), (9, .sptr [(1, 8)])], [⟨true, .flat 8 (.ints .u8 (fun _ => 0))⟩, ⟨true, .flat 8 (.ints .u8 ov9)⟩]⟩
theorem spec_l01Read.b0_gen {ρ : Type} (N : Nat) (K : AV → Heap → Option ρ) (L0 : St → Option ρ) (kv : XE → St → Option ρ) (p0 : Int) (rv3 : Nat) (rv4 : Nat → ByteArray) (i5 : Int) (gv6 : Nat → Int) :
    xcode (E5 N) ents spec_l01Read.kp 0 N (cL (cK (cB (cA (cB (cB (cB spec_l01Read.bd))))))) 0 (spec_l01Read.st0 p0 rv3 rv4 i5 gv6) (roundK spec_l01Read.kp 0 0 L0 (mixK (spec_l01Read.fin N K .ret) kv)) = (spec_l01Read.b0 N (fun d0 d1 => K (.tup [.agg [⟨.u8, 8, d0⟩], .bool (d1)]) []) (fun i5 gv6 => L0 (spec_l01Read.st0 p0 rv3 rv4 i5 gv6)) (fun ov9 => kv (.exit 0) (spec_l01Read.sx0_0 ov9)) p0 rv3 rv4 i5 gv6) := by kernel_rfl
theorem spec_l01Read.b0_eq {ρ : Type} (N : Nat) (K : AV → Heap → Option ρ) (L0 : St → Option ρ) (p0 : Int) (rv3 : Nat) (rv4 : Nat → ByteArray) (i5 : Int) (gv6 : Nat → Int) :
    xcode (E5 N) ents spec_l01Read.kp 0 N (cL (cK (cB (cA (cB (cB (cB spec_l01Read.bd))))))) 0 (spec_l01Read.st0 p0 rv3 rv4 i5 gv6) (roundK spec_l01Read.kp 0 0 L0 (spec_l01Read.k0 N K)) = (spec_l01Read.b0 N (fun d0 d1 => K (.tup [.agg [⟨.u8, 8, d0⟩], .bool (d1)]) []) (fun i5 gv6 => L0 (spec_l01Read.st0 p0 rv3 rv4 i5 gv6)) (fun ov9 => (spec_l01Read.k0 N K) (.exit 0) (spec_l01Read.sx0_0 ov9)) p0 rv3 rv4 i5 gv6) := by
  have h := spec_l01Read.b0_gen N K L0 (spec_l01Read.k0 N K) p0 rv3 rv4 i5 gv6
  rw [spec_l01Read.k0_mix] at h
  exact h
theorem spec_l01Read.a0_0_eq {ρ : Type} (N : Nat) (K : AV → Heap → Option ρ) (ov9 : Nat → Int) :
    (spec_l01Read.k0 N K) (.exit 0) (spec_l01Read.sx0_0 ov9) = (spec_l01Read.a0_0 N (fun d0 d1 => K (.tup [.agg [⟨.u8, 8, d0⟩], .bool (d1)]) []) ov9) := by kernel_rfl
theorem spec_l01Read.l0_eq {ρ : Type} (N : Nat) (K : AV → Heap → Option ρ) (p0 : Int) (rv3 : Nat) (rv4 : Nat → ByteArray) :
    ∀ (m : Nat) (i5 : Int) (gv6 : Nat → Int), xloop (xcode (E5 N) ents spec_l01Read.kp 0 N (cL (cK (cB (cA (cB (cB (cB spec_l01Read.bd))))))) 0) spec_l01Read.kp 0 0 m (spec_l01Read.st0 p0 rv3 rv4 i5 gv6) (spec_l01Read.k0 N K) = (spec_l01Read.l0 N (fun d0 d1 => K (.tup [.agg [⟨.u8, 8, d0⟩], .bool (d1)]) []) p0 rv3 rv4 (fun ov9 => (spec_l01Read.k0 N K) (.exit 0) (spec_l01Read.sx0_0 ov9)) m i5 gv6) := by
  intro m
  induction m with
  | zero => intros; rfl
  | succ m ih =>
    intro i5 gv6
    refine (spec_l01Read.b0_eq N K (fun s => xloop (xcode (E5 N) ents spec_l01Read.kp 0 N (cL (cK (cB (cA (cB (cB (cB spec_l01Read.bd))))))) 0) spec_l01Read.kp 0 0 m s (spec_l01Read.k0 N K)) p0 rv3 rv4 i5 gv6).trans ?_
    simp only [ih]
    kernel_rfl
theorem spec_l01Read.s_eq {ρ : Type} (N : Nat) (K : AV → Heap → Option ρ) (p0 : Int) (nv1 : Int) (text2 : ByteArray) :
    xbody (E5 N) ents spec_l01Read.kp N Go.Proofs.Tryd.f16 spec_l01Read.bd [.int .i64 (p0), .int .i64 (nv1), .str (text2)] [] K = (spec_l01Read.s N (fun d0 d1 => K (.tup [.agg [⟨.u8, 8, d0⟩], .bool (d1)]) []) (fun rv3 rv4 i5 gv6 => xloop (xcode (E5 N) ents spec_l01Read.kp 0 N (cL (cK (cB (cA (cB (cB (cB spec_l01Read.bd))))))) 0) spec_l01Read.kp 0 0 N (spec_l01Read.st0 p0 rv3 rv4 i5 gv6) (spec_l01Read.k0 N K)) nv1 text2) := by kernel_rfl
theorem spec_l01Read.eq {ρ : Type} (N : Nat) (K : AV → Heap → Option ρ) (p0 : Int) (nv1 : Int) (text2 : ByteArray) :
    xbody (E5 N) ents spec_l01Read.kp N Go.Proofs.Tryd.f16 spec_l01Read.bd [.int .i64 (p0), .int .i64 (nv1), .str (text2)] [] K = (spec_l01Read N (fun d0 d1 => K (.tup [.agg [⟨.u8, 8, d0⟩], .bool (d1)]) []) p0 nv1 text2) := by
  refine (spec_l01Read.s_eq N K p0 nv1 text2).trans ?_
  simp only [spec_l01Read.l0_eq, spec_l01Read.a0_0_eq]
  kernel_rfl
def spec_l01Read.en (N : Nat) (ρ : Type) : List AV → Heap → (AV → Heap → Option ρ) → Option ρ
  | [.int .i64 (p0), .int .i64 (nv1), .str (text2)], [], K => (spec_l01Read N (fun d0 d1 => K (.tup [.agg [⟨.u8, 8, d0⟩], .bool (d1)]) []) p0 nv1 text2)
  | _, _, _ => none
theorem spec_l01Read.en_ok (N : Nat) (hE : EnvOk (E5 N) ents) (ρ : Type) (args : List AV) (sh : Heap) (K : AV → Heap → Option ρ) (r : ρ) (h : spec_l01Read.en N ρ args sh K = some r) : ∃ v sh', K v sh' = some r ∧ FnOk (E5 N).P 16 args sh v sh' := by
  unfold spec_l01Read.en at h
  split at h
  · exact fn_ok hE (kp := spec_l01Read.kp) (N := N) Go.Proofs.Tryd.func16 (c := spec_l01Read.bd) (by kernel_rfl) ((spec_l01Read.eq N _ _ _ _).trans h)
  · cases h
def E6 (N : Nat) : Env := (E5 N).add 16 (spec_l01Read.en N)
theorem E6_ok (N : Nat) : EnvOk (E6 N) ents := Env.add_ok (E5_ok N) (spec_l01Read.en_ok N (E5_ok N))
def spec_ParseVector.kp : Keeps := ⟨[], [], []⟩
def spec_ParseVector.bd : Code := bodyOf Go.Proofs.Tryd.f8
def spec_ParseVector.fin {ρ : Type} (N : Nat) (K : AV → Heap → Option ρ) : XE → St → Option ρ := finK (E6 N) spec_ParseVector.kp.fins Go.Proofs.Tryd.f8 [] K
theorem spec_ParseVector.eq {ρ : Type} (N : Nat) (K : AV → Heap → Option ρ) (p0 : Int) (nv1 : Int) (text2 : ByteArray) :
    xbody (E6 N) ents spec_ParseVector.kp N Go.Proofs.Tryd.f8 spec_ParseVector.bd [.int .i64 (p0), .int .i64 (nv1), .str (text2)] [] K = (spec_ParseVector N (fun d0 d1 => K (.tup [.agg [⟨.u8, 8, d0⟩], .int .i64 (d1)]) []) p0 nv1 text2) := by kernel_rfl
def spec_ParseVector.en (N : Nat) (ρ : Type) : List AV → Heap → (AV → Heap → Option ρ) → Option ρ
  | [.int .i64 (p0), .int .i64 (nv1), .str (text2)], [], K => (spec_ParseVector N (fun d0 d1 => K (.tup [.agg [⟨.u8, 8, d0⟩], .int .i64 (d1)]) []) p0 nv1 text2)
  | _, _, _ => none
theorem spec_ParseVector.en_ok (N : Nat) (hE : EnvOk (E6 N) ents) (ρ : Type) (args : List AV) (sh : Heap) (K : AV → Heap → Option ρ) (r : ρ) (h : spec_ParseVector.en N ρ args sh K = some r) : ∃ v sh', K v sh' = some r ∧ FnOk (E6 N).P 8 args sh v sh' := by
  unfold spec_ParseVector.en at h
  split at h
  · exact fn_ok hE (kp := spec_ParseVector.kp) (N := N) Go.Proofs.Tryd.func8 (c := spec_ParseVector.bd) (by kernel_rfl) ((spec_ParseVector.eq N _ _ _ _).trans h)
  · cases h
def E7 (N : Nat) : Env := (E6 N).add 8 (spec_ParseVector.en N)
theorem E7_ok (N : Nat) : EnvOk (E7 N) ents := Env.add_ok (E6_ok N) (spec_ParseVector.en_ok N (E6_ok N))
def impl_IsPrime.kp : Keeps := ⟨[(0, [0, 3], [], [])], [(0, [], [], [])], []⟩
def impl_IsPrime.bd : Code := bodyOf Go.Proofs.Tryd.f21
def impl_IsPrime.fin {ρ : Type} (N : Nat) (K : AV → Heap → Option ρ) : XE → St → Option ρ := finK (E7 N) impl_IsPrime.kp.fins Go.Proofs.Tryd.f21 [] K
def impl_IsPrime.k0 {ρ : Type} (N : Nat) (K : AV → Heap → Option ρ) : XE → St → Option ρ := (blockK impl_IsPrime.kp 0 0 (seqK (xcode (E7 N) ents impl_IsPrime.kp 0 N (cB (cB (cB impl_IsPrime.bd))) 0) (impl_IsPrime.fin N K)))
theorem impl_IsPrime.k0_mix {ρ : Type} (N : Nat) (K : AV → Heap → Option ρ) : mixK (impl_IsPrime.fin N K .ret) (impl_IsPrime.k0 N K) = (impl_IsPrime.k0 N K) := by
  funext e s; cases e <;> kernel_rfl
def impl_IsPrime.st0 (p0 : Int) (k1 : Int) : St := ⟨sl 21 [(0, .int .i64 (p0)), (3, .int .i64 (k1))], []⟩
def impl_IsPrime.sx0_0 : St := ⟨sl 21 [], []⟩
theorem impl_IsPrime.b0_gen {ρ : Type} (N : Nat) (K : AV → Heap → Option ρ) (L0 : St → Option ρ) (kv : XE → St → Option ρ) (p0 : Int) (k1 : Int) :
    xcode (E7 N) ents impl_IsPrime.kp 0 N (cL (cK (cB (cA (cB (cB impl_IsPrime.bd)))))) 0 (impl_IsPrime.st0 p0 k1) (roundK impl_IsPrime.kp 0 0 L0 (mixK (impl_IsPrime.fin N K .ret) kv)) = (impl_IsPrime.b0 N (fun d0 => K (.bool (d0)) []) (fun k1 => L0 (impl_IsPrime.st0 p0 k1)) (kv (.exit 0) (impl_IsPrime.sx0_0)) p0 k1) := by kernel_rfl
theorem impl_IsPrime.b0_eq {ρ : Type} (N : Nat) (K : AV → Heap → Option ρ) (L0 : St → Option ρ) (p0 : Int) (k1 : Int) :
    xcode (E7 N) ents impl_IsPrime.kp 0 N (cL (cK (cB (cA (cB (cB impl_IsPrime.bd)))))) 0 (impl_IsPrime.st0 p0 k1) (roundK impl_IsPrime.kp 0 0 L0 (impl_IsPrime.k0 N K)) = (impl_IsPrime.b0 N (fun d0 => K (.bool (d0)) []) (fun k1 => L0 (impl_IsPrime.st0 p0 k1)) ((impl_IsPrime.k0 N K) (.exit 0) (impl_IsPrime.sx0_0)) p0 k1) := by
  have h := impl_IsPrime.b0_gen N K L0 (impl_IsPrime.k0 N K) p0 k1
  rw [impl_IsPrime.k0_mix] at h
  exact h
theorem impl_IsPrime.a0_0_eq {ρ : Type} (N : Nat) (K : AV → Heap → Option ρ) :
    (impl_IsPrime.k0 N K) (.exit 0) (impl_IsPrime.sx0_0) = (impl_IsPrime.a0_0 N (fun d0 => K (.bool (d0)) [])) := by kernel_rfl
theorem impl_IsPrime.l0_eq {ρ : Type} (N : Nat) (K : AV → Heap → Option ρ) (p0 : Int) :
    ∀ (m : Nat) (k1 : Int), xloop (xcode (E7 N) ents impl_IsPrime.kp 0 N (cL (cK (cB (cA (cB (cB impl_IsPrime.bd)))))) 0) impl_IsPrime.kp 0 0 m (impl_IsPrime.st0 p0 k1) (impl_IsPrime.k0 N K) = (impl_IsPrime.l0 N (fun d0 => K (.bool (d0)) []) p0 ((impl_IsPrime.k0 N K) (.exit 0) (impl_IsPrime.sx0_0)) m k1) := by
  intro m
  induction m with
  | zero => intros; rfl
  | succ m ih =>
    intro k1
    refine (impl_IsPrime.b0_eq N K (fun s => xloop (xcode (E7 N) ents impl_IsPrime.kp 0 N (cL (cK (cB (cA (cB (cB impl_IsPrime.bd)))))) 0) impl_IsPrime.kp 0 0 m s (impl_IsPrime.k0 N K)) p0 k1).trans ?_
    simp only [ih]
    kernel_rfl
theorem impl_IsPrime.s_eq {ρ : Type} (N : Nat) (K : AV → Heap → Option ρ) (p0 : Int) :
    xbody (E7 N) ents impl_IsPrime.kp N Go.Proofs.Tryd.f21 impl_IsPrime.bd [.int .i64 (p0)] [] K = (impl_IsPrime.s N (fun d0 => K (.bool (d0)) []) (fun k1 => xloop (xcode (E7 N) ents impl_IsPrime.kp 0 N (cL (cK (cB (cA (cB (cB impl_IsPrime.bd)))))) 0) impl_IsPrime.kp 0 0 N (impl_IsPrime.st0 p0 k1) (impl_IsPrime.k0 N K)) p0) := by kernel_rfl
theorem impl_IsPrime.eq {ρ : Type} (N : Nat) (K : AV → Heap → Option ρ) (p0 : Int) :
    xbody (E7 N) ents impl_IsPrime.kp N Go.Proofs.Tryd.f21 impl_IsPrime.bd [.int .i64 (p0)] [] K = (impl_IsPrime N (fun d0 => K (.bool (d0)) []) p0) := by
  refine (impl_IsPrime.s_eq N K p0).trans ?_
  simp only [impl_IsPrime.l0_eq, impl_IsPrime.a0_0_eq]
  kernel_rfl
def impl_IsPrime.en (N : Nat) (ρ : Type) : List AV → Heap → (AV → Heap → Option ρ) → Option ρ
  | [.int .i64 (p0)], [], K => (impl_IsPrime N (fun d0 => K (.bool (d0)) []) p0)
  | _, _, _ => none
theorem impl_IsPrime.en_ok (N : Nat) (hE : EnvOk (E7 N) ents) (ρ : Type) (args : List AV) (sh : Heap) (K : AV → Heap → Option ρ) (r : ρ) (h : impl_IsPrime.en N ρ args sh K = some r) : ∃ v sh', K v sh' = some r ∧ FnOk (E7 N).P 21 args sh v sh' := by
  unfold impl_IsPrime.en at h
  split at h
  · exact fn_ok hE (kp := impl_IsPrime.kp) (N := N) Go.Proofs.Tryd.func21 (c := impl_IsPrime.bd) (by kernel_rfl) ((impl_IsPrime.eq N _ _).trans h)
  · cases h
def E8 (N : Nat) : Env := (E7 N).add 21 (impl_IsPrime.en N)
theorem E8_ok (N : Nat) : EnvOk (E8 N) ents := Env.add_ok (E7_ok N) (impl_IsPrime.en_ok N (E7_ok N))
def impl_in.kp : Keeps := ⟨[], [], []⟩
def impl_in.bd : Code := bodyOf Go.Proofs.Tryd.f22
def impl_in.fin {ρ : Type} (N : Nat) (K : AV → Heap → Option ρ) : XE → St → Option ρ := finK (E8 N) impl_in.kp.fins Go.Proofs.Tryd.f22 [] K
theorem impl_in.eq {ρ : Type} (N : Nat) (K : AV → Heap → Option ρ) (x0 : Int) (least1 : Int) (most2 : Int) :
    xbody (E8 N) ents impl_in.kp N Go.Proofs.Tryd.f22 impl_in.bd [.int .i64 (x0), .int .i64 (least1), .int .i64 (most2)] [] K = (impl_in N (fun d0 => K (.bool (d0)) []) x0 least1 most2) := by kernel_rfl
def impl_in.en (N : Nat) (ρ : Type) : List AV → Heap → (AV → Heap → Option ρ) → Option ρ
  | [.int .i64 (x0), .int .i64 (least1), .int .i64 (most2)], [], K => (impl_in N (fun d0 => K (.bool (d0)) []) x0 least1 most2)
  | _, _, _ => none
theorem impl_in.en_ok (N : Nat) (hE : EnvOk (E8 N) ents) (ρ : Type) (args : List AV) (sh : Heap) (K : AV → Heap → Option ρ) (r : ρ) (h : impl_in.en N ρ args sh K = some r) : ∃ v sh', K v sh' = some r ∧ FnOk (E8 N).P 22 args sh v sh' := by
  unfold impl_in.en at h
  split at h
  · exact fn_ok hE (kp := impl_in.kp) (N := N) Go.Proofs.Tryd.func22 (c := impl_in.bd) (by kernel_rfl) ((impl_in.eq N _ _ _ _).trans h)
  · cases h
def E9 (N : Nat) : Env := (E8 N).add 22 (impl_in.en N)
theorem E9_ok (N : Nat) : EnvOk (E9 N) ents := Env.add_ok (E8_ok N) (impl_in.en_ok N (E8_ok N))
def impl_IsVector.kp : Keeps := ⟨[(0, [0, 1, 17, 18], [], [])], [(0, [], [], [])], []⟩
def impl_IsVector.bd : Code := bodyOf Go.Proofs.Tryd.f13
def impl_IsVector.fin {ρ : Type} (N : Nat) (K : AV → Heap → Option ρ) : XE → St → Option ρ := finK (E9 N) impl_IsVector.kp.fins Go.Proofs.Tryd.f13 [] K
def impl_IsVector.k0 {ρ : Type} (N : Nat) (K : AV → Heap → Option ρ) : XE → St → Option ρ := (blockK impl_IsVector.kp 0 0 (seqK (xcode (E9 N) ents impl_IsVector.kp 0 N (cB (cB (cB impl_IsVector.bd))) 0) (impl_IsVector.fin N K)))
theorem impl_IsVector.k0_mix {ρ : Type} (N : Nat) (K : AV → Heap → Option ρ) : mixK (impl_IsVector.fin N K .ret) (impl_IsVector.k0 N K) = (impl_IsVector.k0 N K) := by
  funext e s; cases e <;> kernel_rfl
def impl_IsVector.st0 (p0 : Int) (nv1 : Int) (v2 : Nat → Int) (x5 : Int) : St := ⟨sl 36 [(0, .int .i64 (p0)), (1, .int .i64 (nv1)), (17, .agg [⟨.u8, 8, v2⟩]), (18, .int .i64 (x5))], []⟩
def impl_IsVector.sx0_0 : St := ⟨sl 36 [], []⟩
theorem impl_IsVector.b0_gen {ρ : Type} (N : Nat) (K : AV → Heap → Option ρ) (L0 : St → Option ρ) (kv : XE → St → Option ρ) (p0 : Int) (nv1 : Int) (v2 : Nat → Int) (x5 : Int) :
    xcode (E9 N) ents impl_IsVector.kp 0 N (cL (cK (cB (cA (cB (cB impl_IsVector.bd)))))) 0 (impl_IsVector.st0 p0 nv1 v2 x5) (roundK impl_IsVector.kp 0 0 L0 (mixK (impl_IsVector.fin N K .ret) kv)) = (impl_IsVector.b0 N (fun d0 => K (.bool (d0)) []) (fun x5 => L0 (impl_IsVector.st0 p0 nv1 v2 x5)) (kv (.exit 0) (impl_IsVector.sx0_0)) p0 nv1 v2 x5) := by kernel_rfl
theorem impl_IsVector.b0_eq {ρ : Type} (N : Nat) (K : AV → Heap → Option ρ) (L0 : St → Option ρ) (p0 : Int) (nv1 : Int) (v2 : Nat → Int) (x5 : Int) :
    xcode (E9 N) ents impl_IsVector.kp 0 N (cL (cK (cB (cA (cB (cB impl_IsVector.bd)))))) 0 (impl_IsVector.st0 p0 nv1 v2 x5) (roundK impl_IsVector.kp 0 0 L0 (impl_IsVector.k0 N K)) = (impl_IsVector.b0 N (fun d0 => K (.bool (d0)) []) (fun x5 => L0 (impl_IsVector.st0 p0 nv1 v2 x5)) ((impl_IsVector.k0 N K) (.exit 0) (impl_IsVector.sx0_0)) p0 nv1 v2 x5) := by
  have h := impl_IsVector.b0_gen N K L0 (impl_IsVector.k0 N K) p0 nv1 v2 x5
  rw [impl_IsVector.k0_mix] at h
  exact h
theorem impl_IsVector.a0_0_eq {ρ : Type} (N : Nat) (K : AV → Heap → Option ρ) :
    (impl_IsVector.k0 N K) (.exit 0) (impl_IsVector.sx0_0) = (impl_IsVector.a0_0 N (fun d0 => K (.bool (d0)) [])) := by kernel_rfl
theorem impl_IsVector.l0_eq {ρ : Type} (N : Nat) (K : AV → Heap → Option ρ) (p0 : Int) (nv1 : Int) (v2 : Nat → Int) :
    ∀ (m : Nat) (x5 : Int), xloop (xcode (E9 N) ents impl_IsVector.kp 0 N (cL (cK (cB (cA (cB (cB impl_IsVector.bd)))))) 0) impl_IsVector.kp 0 0 m (impl_IsVector.st0 p0 nv1 v2 x5) (impl_IsVector.k0 N K) = (impl_IsVector.l0 N (fun d0 => K (.bool (d0)) []) p0 nv1 v2 ((impl_IsVector.k0 N K) (.exit 0) (impl_IsVector.sx0_0)) m x5) := by
  intro m
  induction m with
  | zero => intros; rfl
  | succ m ih =>
    intro x5
    refine (impl_IsVector.b0_eq N K (fun s => xloop (xcode (E9 N) ents impl_IsVector.kp 0 N (cL (cK (cB (cA (cB (cB impl_IsVector.bd)))))) 0) impl_IsVector.kp 0 0 m s (impl_IsVector.k0 N K)) p0 nv1 v2 x5).trans ?_
    simp only [ih]
    kernel_rfl
theorem impl_IsVector.s_eq {ρ : Type} (N : Nat) (K : AV → Heap → Option ρ) (p0 : Int) (nv1 : Int) (v2 : Nat → Int) :
    xbody (E9 N) ents impl_IsVector.kp N Go.Proofs.Tryd.f13 impl_IsVector.bd [.int .i64 (p0), .int .i64 (nv1), .agg [⟨.u8, 8, v2⟩]] [] K = (impl_IsVector.s N (fun d0 => K (.bool (d0)) []) (fun x5 => xloop (xcode (E9 N) ents impl_IsVector.kp 0 N (cL (cK (cB (cA (cB (cB impl_IsVector.bd)))))) 0) impl_IsVector.kp 0 0 N (impl_IsVector.st0 p0 nv1 v2 x5) (impl_IsVector.k0 N K)) p0 nv1) := by kernel_rfl
theorem impl_IsVector.eq {ρ : Type} (N : Nat) (K : AV → Heap → Option ρ) (p0 : Int) (nv1 : Int) (v2 : Nat → Int) :
    xbody (E9 N) ents impl_IsVector.kp N Go.Proofs.Tryd.f13 impl_IsVector.bd [.int .i64 (p0), .int .i64 (nv1), .agg [⟨.u8, 8, v2⟩]] [] K = (impl_IsVector N (fun d0 => K (.bool (d0)) []) p0 nv1 v2) := by
  refine (impl_IsVector.s_eq N K p0 nv1 v2).trans ?_
  simp only [impl_IsVector.l0_eq, impl_IsVector.a0_0_eq]
  kernel_rfl
def impl_IsVector.en (N : Nat) (ρ : Type) : List AV → Heap → (AV → Heap → Option ρ) → Option ρ
  | [.int .i64 (p0), .int .i64 (nv1), .agg [⟨.u8, 8, v2⟩]], [], K => (impl_IsVector N (fun d0 => K (.bool (d0)) []) p0 nv1 v2)
  | _, _, _ => none
theorem impl_IsVector.en_ok (N : Nat) (hE : EnvOk (E9 N) ents) (ρ : Type) (args : List AV) (sh : Heap) (K : AV → Heap → Option ρ) (r : ρ) (h : impl_IsVector.en N ρ args sh K = some r) : ∃ v sh', K v sh' = some r ∧ FnOk (E9 N).P 13 args sh v sh' := by
  unfold impl_IsVector.en at h
  split at h
  · exact fn_ok hE (kp := impl_IsVector.kp) (N := N) Go.Proofs.Tryd.func13 (c := impl_IsVector.bd) (by kernel_rfl) ((impl_IsVector.eq N _ _ _ _).trans h)
  · cases h
def E10 (N : Nat) : Env := (E9 N).add 13 (impl_IsVector.en N)
theorem E10_ok (N : Nat) : EnvOk (E10 N) ents := Env.add_ok (E9_ok N) (impl_IsVector.en_ok N (E9_ok N))
def strings_Split.en (N : Nat) (ρ : Type) : List AV → Heap → (AV → Heap → Option ρ) → Option ρ
  | [.str (s0), .str (sep1)], [], K => (strings_Split N (fun d0 d1 d2 d3 => K (.slice true 0 0 d0 (.exact d1) 1) [⟨true, .flat d2 (.strs d3)⟩]) s0 sep1)
  | _, _, _ => none
theorem strings_Split.en_ok (N : Nat) (hE : EnvOk (E10 N) ents) (ρ : Type) (args : List AV) (sh : Heap) (K : AV → Heap → Option ρ) (r : ρ) (h : strings_Split.en N ρ args sh K = some r) : ∃ v sh', K v sh' = some r ∧ FnOk (E10 N).P 17 args sh v sh' := by
  unfold strings_Split.en at h
  split at h
  · exact strings_Split.con N _ _ _ h
  · cases h
def E11 (N : Nat) : Env := (E10 N).add 17 (strings_Split.en N)
theorem E11_ok (N : Nat) : EnvOk (E11 N) ents := Env.add_ok (E10_ok N) (strings_Split.en_ok N (E10_ok N))
def strconv_ParseUint.en (N : Nat) (ρ : Type) : List AV → Heap → (AV → Heap → Option ρ) → Option ρ
  | [.str (s0), .int .i64 (base1), .int .i64 (bitSize2)], [], K => (strconv_ParseUint N (fun d0 d1 => K (.tup [.int .u64 (d0), .ifc (d1)]) []) s0 base1 bitSize2)
  | _, _, _ => none
theorem strconv_ParseUint.en_ok (N : Nat) (hE : EnvOk (E11 N) ents) (ρ : Type) (args : List AV) (sh : Heap) (K : AV → Heap → Option ρ) (r : ρ) (h : strconv_ParseUint.en N ρ args sh K = some r) : ∃ v sh', K v sh' = some r ∧ FnOk (E11 N).P 18 args sh v sh' := by
  unfold strconv_ParseUint.en at h
  split at h
  · exact strconv_ParseUint.con N _ _ _ _ h
  · cases h
def E12 (N : Nat) : Env := (E11 N).add 18 (strconv_ParseUint.en N)
theorem E12_ok (N : Nat) : EnvOk (E12 N) ents := Env.add_ok (E11_ok N) (strconv_ParseUint.en_ok N (E11_ok N))
def strconv_Itoa.en (N : Nat) (ρ : Type) : List AV → Heap → (AV → Heap → Option ρ) → Option ρ
  | [.int .i64 (i0)], [], K => (strconv_Itoa N (fun d0 => K (.str (d0)) []) i0)
  | _, _, _ => none
theorem strconv_Itoa.en_ok (N : Nat) (hE : EnvOk (E12 N) ents) (ρ : Type) (args : List AV) (sh : Heap) (K : AV → Heap → Option ρ) (r : ρ) (h : strconv_Itoa.en N ρ args sh K = some r) : ∃ v sh', K v sh' = some r ∧ FnOk (E12 N).P 23 args sh v sh' := by
  unfold strconv_Itoa.en at h
  split at h
  · exact strconv_Itoa.con N _ _ h
  · cases h
def E13 (N : Nat) : Env := (E12 N).add 23 (strconv_Itoa.en N)
theorem E13_ok (N : Nat) : EnvOk (E13 N) ents := Env.add_ok (E12_ok N) (strconv_Itoa.en_ok N (E12_ok N))
def strings_Join_su.en (N : Nat) (ρ : Type) : List AV → Heap → (AV → Heap → Option ρ) → Option ρ
  | [.slice true 0 0 elems0 .unk 1, .str (sep1)], [⟨false, .flat gv2 (.strs gv3)⟩], K => (strings_Join_su N (fun d0 => K (.str (d0)) [⟨false, .flat gv2 (.strs gv3)⟩]) elems0 sep1 gv2 gv3)
  | _, _, _ => none
theorem strings_Join_su.en_ok (N : Nat) (hE : EnvOk (E13 N) ents) (ρ : Type) (args : List AV) (sh : Heap) (K : AV → Heap → Option ρ) (r : ρ) (h : strings_Join_su.en N ρ args sh K = some r) : ∃ v sh', K v sh' = some r ∧ FnOk (E13 N).P 24 args sh v sh' := by
  unfold strings_Join_su.en at h
  split at h
  · exact strings_Join_su.con N _ _ _ _ _ h
  · cases h
def E14 (N : Nat) : Env := (E13 N).add 24 (strings_Join_su.en N)
theorem E14_ok (N : Nat) : EnvOk (E14 N) ents := Env.add_ok (E13_ok N) (strings_Join_su.en_ok N (E13_ok N))
def impl_vectorText.kp : Keeps := ⟨[(0, [5, 10, 11, 12], [], [])], [(0, [5], [], [])], []⟩
def impl_vectorText.bd : Code := bodyOf Go.Proofs.Tryd.f14
def impl_vectorText.fin {ρ : Type} (N : Nat) (K : AV → Heap → Option ρ) : XE → St → Option ρ := finK (E14 N) impl_vectorText.kp.fins Go.Proofs.Tryd.f14 [] K
def impl_vectorText.k0 {ρ : Type} (N : Nat) (K : AV → Heap → Option ρ) : XE → St → Option ρ := (blockK impl_vectorText.kp 0 0 (seqK (xcode (E14 N) ents impl_vectorText.kp 0 N (cB (cB (cB impl_vectorText.bd))) 0) (impl_vectorText.fin N K)))
theorem impl_vectorText.k0_mix {ρ : Type} (N : Nat) (K : AV → Heap → Option ρ) : mixK (impl_vectorText.fin N K .ret) (impl_vectorText.k0 N K) = (impl_vectorText.k0 N K) := by
  funext e s; cases e <;> kernel_rfl
def impl_vectorText.st0 (nv0 : Int) (v1 : Nat → Int) (outv2 : Nat) (x3 : Int) (gv4 : Nat → ByteArray) : St := ⟨sl 25 [(5, .slice true 0 0 outv2 .whole 1), (10, .slice true 1 0 nv0.toNat (.exact 8) 1), (11, .int .i64 ((nv0.toNat : Int))), (12, .int .i64 (x3))], [⟨true, .flat 0 (.strs gv4)⟩, ⟨true, .flat 8 (.ints .u8 v1)⟩]⟩
def impl_vectorText.sx0_0 (ov6 : Nat) (ov7 : Nat → ByteArray) : St := ⟨sl 25 [(5, .slice true 0 0 ov6 .whole 1)], [⟨true, .flat 0 (.strs ov7)⟩]⟩
theorem impl_vectorText.b0_gen {ρ : Type} (N : Nat) (K : AV → Heap → Option ρ) (L0 : St → Option ρ) (kv : XE → St → Option ρ) (nv0 : Int) (v1 : Nat → Int) (outv2 : Nat) (x3 : Int) (gv4 : Nat → ByteArray) :
    xcode (E14 N) ents impl_vectorText.kp 0 N (cL (cK (cB (cA (cB (cB impl_vectorText.bd)))))) 0 (impl_vectorText.st0 nv0 v1 outv2 x3 gv4) (roundK impl_vectorText.kp 0 0 L0 (mixK (impl_vectorText.fin N K .ret) kv)) = (impl_vectorText.b0 N (fun d0 => K (.str (d0)) []) (fun outv2 x3 gv4 => L0 (impl_vectorText.st0 nv0 v1 outv2 x3 gv4)) (fun ov6 ov7 => kv (.exit 0) (impl_vectorText.sx0_0 ov6 ov7)) nv0 v1 outv2 x3 gv4) := by kernel_rfl
theorem impl_vectorText.b0_eq {ρ : Type} (N : Nat) (K : AV → Heap → Option ρ) (L0 : St → Option ρ) (nv0 : Int) (v1 : Nat → Int) (outv2 : Nat) (x3 : Int) (gv4 : Nat → ByteArray) :
    xcode (E14 N) ents impl_vectorText.kp 0 N (cL (cK (cB (cA (cB (cB impl_vectorText.bd)))))) 0 (impl_vectorText.st0 nv0 v1 outv2 x3 gv4) (roundK impl_vectorText.kp 0 0 L0 (impl_vectorText.k0 N K)) = (impl_vectorText.b0 N (fun d0 => K (.str (d0)) []) (fun outv2 x3 gv4 => L0 (impl_vectorText.st0 nv0 v1 outv2 x3 gv4)) (fun ov6 ov7 => (impl_vectorText.k0 N K) (.exit 0) (impl_vectorText.sx0_0 ov6 ov7)) nv0 v1 outv2 x3 gv4) := by
  have h := impl_vectorText.b0_gen N K L0 (impl_vectorText.k0 N K) nv0 v1 outv2 x3 gv4
  rw [impl_vectorText.k0_mix] at h
  exact h
theorem impl_vectorText.a0_0_eq {ρ : Type} (N : Nat) (K : AV → Heap → Option ρ) (ov6 : Nat) (ov7 : Nat → ByteArray) :
    (impl_vectorText.k0 N K) (.exit 0) (impl_vectorText.sx0_0 ov6 ov7) = (impl_vectorText.a0_0 N (fun d0 => K (.str (d0)) []) ov6 ov7) := by kernel_rfl
theorem impl_vectorText.l0_eq {ρ : Type} (N : Nat) (K : AV → Heap → Option ρ) (nv0 : Int) (v1 : Nat → Int) :
    ∀ (m : Nat) (outv2 : Nat) (x3 : Int) (gv4 : Nat → ByteArray), xloop (xcode (E14 N) ents impl_vectorText.kp 0 N (cL (cK (cB (cA (cB (cB impl_vectorText.bd)))))) 0) impl_vectorText.kp 0 0 m (impl_vectorText.st0 nv0 v1 outv2 x3 gv4) (impl_vectorText.k0 N K) = (impl_vectorText.l0 N (fun d0 => K (.str (d0)) []) nv0 v1 (fun ov6 ov7 => (impl_vectorText.k0 N K) (.exit 0) (impl_vectorText.sx0_0 ov6 ov7)) m outv2 x3 gv4) := by
  intro m
  induction m with
  | zero => intros; rfl
  | succ m ih =>
    intro outv2 x3 gv4
    refine (impl_vectorText.b0_eq N K (fun s => xloop (xcode (E14 N) ents impl_vectorText.kp 0 N (cL (cK (cB (cA (cB (cB impl_vectorText.bd)))))) 0) impl_vectorText.kp 0 0 m s (impl_vectorText.k0 N K)) nv0 v1 outv2 x3 gv4).trans ?_
    simp only [ih]
    kernel_rfl
theorem impl_vectorText.s_eq {ρ : Type} (N : Nat) (K : AV → Heap → Option ρ) (nv0 : Int) (v1 : Nat → Int) :
    xbody (E14 N) ents impl_vectorText.kp N Go.Proofs.Tryd.f14 impl_vectorText.bd [.int .i64 (nv0), .agg [⟨.u8, 8, v1⟩]] [] K = (impl_vectorText.s N (fun d0 => K (.str (d0)) []) (fun outv2 x3 gv4 => xloop (xcode (E14 N) ents impl_vectorText.kp 0 N (cL (cK (cB (cA (cB (cB impl_vectorText.bd)))))) 0) impl_vectorText.kp 0 0 N (impl_vectorText.st0 nv0 v1 outv2 x3 gv4) (impl_vectorText.k0 N K)) nv0) := by kernel_rfl
theorem impl_vectorText.eq {ρ : Type} (N : Nat) (K : AV → Heap → Option ρ) (nv0 : Int) (v1 : Nat → Int) :
    xbody (E14 N) ents impl_vectorText.kp N Go.Proofs.Tryd.f14 impl_vectorText.bd [.int .i64 (nv0), .agg [⟨.u8, 8, v1⟩]] [] K = (impl_vectorText N (fun d0 => K (.str (d0)) []) nv0 v1) := by
  refine (impl_vectorText.s_eq N K nv0 v1).trans ?_
  simp only [impl_vectorText.l0_eq, impl_vectorText.a0_0_eq]
  kernel_rfl
def impl_vectorText.en (N : Nat) (ρ : Type) : List AV → Heap → (AV → Heap → Option ρ) → Option ρ
  | [.int .i64 (nv0), .agg [⟨.u8, 8, v1⟩]], [], K => (impl_vectorText N (fun d0 => K (.str (d0)) []) nv0 v1)
  | _, _, _ => none
theorem impl_vectorText.en_ok (N : Nat) (hE : EnvOk (E14 N) ents) (ρ : Type) (args : List AV) (sh : Heap) (K : AV → Heap → Option ρ) (r : ρ) (h : impl_vectorText.en N ρ args sh K = some r) : ∃ v sh', K v sh' = some r ∧ FnOk (E14 N).P 14 args sh v sh' := by
  unfold impl_vectorText.en at h
  split at h
  · exact fn_ok hE (kp := impl_vectorText.kp) (N := N) Go.Proofs.Tryd.func14 (c := impl_vectorText.bd) (by kernel_rfl) ((impl_vectorText.eq N _ _ _).trans h)
  · cases h
def E15 (N : Nat) : Env := (E14 N).add 14 (impl_vectorText.en N)
theorem E15_ok (N : Nat) : EnvOk (E15 N) ents := Env.add_ok (E14_ok N) (impl_vectorText.en_ok N (E14_ok N))
def impl_ParseVector.kp : Keeps := ⟨[(0, [0, 1, 2, 6, 8, 23, 24, 25], [], [])], [(0, [0, 1, 2, 6, 8], [], [])], []⟩
def impl_ParseVector.bd : Code := bodyOf Go.Proofs.Tryd.f9
def impl_ParseVector.fin {ρ : Type} (N : Nat) (K : AV → Heap → Option ρ) : XE → St → Option ρ := finK (E15 N) impl_ParseVector.kp.fins Go.Proofs.Tryd.f9 [] K
def impl_ParseVector.k0 {ρ : Type} (N : Nat) (K : AV → Heap → Option ρ) : XE → St → Option ρ := (blockK impl_ParseVector.kp 0 0 (seqK (xcode (E15 N) ents impl_ParseVector.kp 0 N (cB (cB (cB (cB impl_ParseVector.bd)))) 0) (impl_ParseVector.fin N K)))
theorem impl_ParseVector.k0_mix {ρ : Type} (N : Nat) (K : AV → Heap → Option ρ) : mixK (impl_ParseVector.fin N K .ret) (impl_ParseVector.k0 N K) = (impl_ParseVector.k0 N K) := by
  funext e s; cases e <;> kernel_rfl
def impl_ParseVector.st0 (p0 : Int) (nv1 : Int) (text2 : ByteArray) (rv4 : Nat) (rv5 : Nat) (rv6 : Nat) (rv7 : Nat → ByteArray) (x8 : Int) (gv9 : Nat → Int) : St := ⟨sl 61 [(0, .int .i64 (p0)), (1, .int .i64 (nv1)), (2, .str (text2)), (6, .sptr [(0, 8)]), (8, .sptr [(1, 8)]), (23, .slice true 2 0 rv4 (.exact rv5) 1), (24, .int .i64 ((rv4 : Int))), (25, .int .i64 (x8))], [⟨true, .flat 8 (.ints .u8 (fun _ => 0))⟩, ⟨true, .flat 8 (.ints .u8 gv9)⟩, ⟨true, .flat rv6 (.strs rv7)⟩]⟩
def impl_ParseVector.sx0_0 (p0 : Int) (nv1 : Int) (text2 : ByteArray) (ov12 : Nat → Int) : St := ⟨sl 61 [(0, .int .i64 (p0)), (1, .int .i64 (nv1)), (2, .str (text2)), (6, .sptr [(0, 8)]), (8, .sptr [(1, 8)])], [⟨true, .flat 8 (.ints .u8 (fun _ => 0))⟩, ⟨true, .flat 8 (.ints .u8 ov12)⟩]⟩
theorem impl_ParseVector.b0_gen {ρ : Type} (N : Nat) (K : AV → Heap → Option ρ) (L0 : St → Option ρ) (kv : XE → St → Option ρ) (p0 : Int) (nv1 : Int) (text2 : ByteArray) (rv4 : Nat) (rv5 : Nat) (rv6 : Nat) (rv7 : Nat → ByteArray) (x8 : Int) (gv9 : Nat → Int) :
    xcode (E15 N) ents impl_ParseVector.kp 0 N (cL (cK (cB (cA (cB (cB (cB impl_ParseVector.bd))))))) 0 (impl_ParseVector.st0 p0 nv1 text2 rv4 rv5 rv6 rv7 x8 gv9) (roundK impl_ParseVector.kp 0 0 L0 (mixK (impl_ParseVector.fin N K .ret) kv)) = (impl_ParseVector.b0 N (fun d0 d1 => K (.tup [.agg [⟨.u8, 8, d0⟩], .int .i64 (d1)]) []) (fun x8 gv9 => L0 (impl_ParseVector.st0 p0 nv1 text2 rv4 rv5 rv6 rv7 x8 gv9)) (fun ov12 => kv (.exit 0) (impl_ParseVector.sx0_0 p0 nv1 text2 ov12)) rv4 rv7 x8 gv9) := by kernel_rfl
theorem impl_ParseVector.b0_eq {ρ : Type} (N : Nat) (K : AV → Heap → Option ρ) (L0 : St → Option ρ) (p0 : Int) (nv1 : Int) (text2 : ByteArray) (rv4 : Nat) (rv5 : Nat) (rv6 : Nat) (rv7 : Nat → ByteArray) (x8 : Int) (gv9 : Nat → Int) :
    xcode (E15 N) ents impl_ParseVector.kp 0 N (cL (cK (cB (cA (cB (cB (cB impl_ParseVector.bd))))))) 0 (impl_ParseVector.st0 p0 nv1 text2 rv4 rv5 rv6 rv7 x8 gv9) (roundK impl_ParseVector.kp 0 0 L0 (impl_ParseVector.k0 N K)) = (impl_ParseVector.b0 N (fun d0 d1 => K (.tup [.agg [⟨.u8, 8, d0⟩], .int .i64 (d1)]) []) (fun x8 gv9 => L0 (impl_ParseVector.st0 p0 nv1 text2 rv4 rv5 rv6 rv7 x8 gv9)) (fun ov12 => (impl_ParseVector.k0 N K) (.exit 0) (impl_ParseVector.sx0_0 p0 nv1 text2 ov12)) rv4 rv7 x8 gv9) := by
  have h := impl_ParseVector.b0_gen N K L0 (impl_ParseVector.k0 N K) p0 nv1 text2 rv4 rv5 rv6 rv7 x8 gv9
  rw [impl_ParseVector.k0_mix] at h
  exact h
theorem impl_ParseVector.a0_0_eq {ρ : Type} (N : Nat) (K : AV → Heap → Option ρ) (p0 : Int) (nv1 : Int) (text2 : ByteArray) (ov12 : Nat → Int) :
    (impl_ParseVector.k0 N K) (.exit 0) (impl_ParseVector.sx0_0 p0 nv1 text2 ov12) = (impl_ParseVector.a0_0 N (fun d0 d1 => K (.tup [.agg [⟨.u8, 8, d0⟩], .int .i64 (d1)]) []) p0 nv1 text2 ov12) := by kernel_rfl
theorem impl_ParseVector.l0_eq {ρ : Type} (N : Nat) (K : AV → Heap → Option ρ) (p0 : Int) (nv1 : Int) (text2 : ByteArray) (rv4 : Nat) (rv5 : Nat) (rv6 : Nat) (rv7 : Nat → ByteArray) :
    ∀ (m : Nat) (x8 : Int) (gv9 : Nat → Int), xloop (xcode (E15 N) ents impl_ParseVector.kp 0 N (cL (cK (cB (cA (cB (cB (cB impl_ParseVector.bd))))))) 0) impl_ParseVector.kp 0 0 m (impl_ParseVector.st0 p0 nv1 text2 rv4 rv5 rv6 rv7 x8 gv9) (impl_ParseVector.k0 N K) = (impl_ParseVector.l0 N (fun d0 d1 => K (.tup [.agg [⟨.u8, 8, d0⟩], .int .i64 (d1)]) []) rv4 rv7 (fun ov12 => (impl_ParseVector.k0 N K) (.exit 0) (impl_ParseVector.sx0_0 p0 nv1 text2 ov12)) m x8 gv9) := by
  intro m
  induction m with
  | zero => intros; rfl
  | succ m ih =>
    intro x8 gv9
    refine (impl_ParseVector.b0_eq N K (fun s => xloop (xcode (E15 N) ents impl_ParseVector.kp 0 N (cL (cK (cB (cA (cB (cB (cB impl_ParseVector.bd))))))) 0) impl_ParseVector.kp 0 0 m s (impl_ParseVector.k0 N K)) p0 nv1 text2 rv4 rv5 rv6 rv7 x8 gv9).trans ?_
    simp only [ih]
    kernel_rfl
theorem impl_ParseVector.s_eq {ρ : Type} (N : Nat) (K : AV → Heap → Option ρ) (p0 : Int) (nv1 : Int) (text2 : ByteArray) :
    xbody (E15 N) ents impl_ParseVector.kp N Go.Proofs.Tryd.f9 impl_ParseVector.bd [.int .i64 (p0), .int .i64 (nv1), .str (text2)] [] K = (impl_ParseVector.s N (fun d0 d1 => K (.tup [.agg [⟨.u8, 8, d0⟩], .int .i64 (d1)]) []) (fun rv4 rv5 rv6 rv7 x8 gv9 => xloop (xcode (E15 N) ents impl_ParseVector.kp 0 N (cL (cK (cB (cA (cB (cB (cB impl_ParseVector.bd))))))) 0) impl_ParseVector.kp 0 0 N (impl_ParseVector.st0 p0 nv1 text2 rv4 rv5 rv6 rv7 x8 gv9) (impl_ParseVector.k0 N K)) p0 nv1 text2) := by kernel_rfl
theorem impl_ParseVector.eq {ρ : Type} (N : Nat) (K : AV → Heap → Option ρ) (p0 : Int) (nv1 : Int) (text2 : ByteArray) :
    xbody (E15 N) ents impl_ParseVector.kp N Go.Proofs.Tryd.f9 impl_ParseVector.bd [.int .i64 (p0), .int .i64 (nv1), .str (text2)] [] K = (impl_ParseVector N (fun d0 d1 => K (.tup [.agg [⟨.u8, 8, d0⟩], .int .i64 (d1)]) []) p0 nv1 text2) := by
  refine (impl_ParseVector.s_eq N K p0 nv1 text2).trans ?_
  simp only [impl_ParseVector.l0_eq, impl_ParseVector.a0_0_eq]
  kernel_rfl
def impl_ParseVector.en (N : Nat) (ρ : Type) : List AV → Heap → (AV → Heap → Option ρ) → Option ρ
  | [.int .i64 (p0), .int .i64 (nv1), .str (text2)], [], K => (impl_ParseVector N (fun d0 d1 => K (.tup [.agg [⟨.u8, 8, d0⟩], .int .i64 (d1)]) []) p0 nv1 text2)
  | _, _, _ => none
theorem impl_ParseVector.en_ok (N : Nat) (hE : EnvOk (E15 N) ents) (ρ : Type) (args : List AV) (sh : Heap) (K : AV → Heap → Option ρ) (r : ρ) (h : impl_ParseVector.en N ρ args sh K = some r) : ∃ v sh', K v sh' = some r ∧ FnOk (E15 N).P 9 args sh v sh' := by
  unfold impl_ParseVector.en at h
  split at h
  · exact fn_ok hE (kp := impl_ParseVector.kp) (N := N) Go.Proofs.Tryd.func9 (c := impl_ParseVector.bd) (by kernel_rfl) ((impl_ParseVector.eq N _ _ _ _).trans h)
  · cases h
def E16 (N : Nat) : Env := (E15 N).add 9 (impl_ParseVector.en N)
theorem E16_ok (N : Nat) : EnvOk (E16 N) ents := Env.add_ok (E15_ok N) (impl_ParseVector.en_ok N (E15_ok N))
def laws_eqVector.kp : Keeps := ⟨[(0, [2, 3, 5], [], [])], [(0, [], [], [])], []⟩
def laws_eqVector.bd : Code := bodyOf Go.Proofs.Tryd.f10
def laws_eqVector.fin {ρ : Type} (N : Nat) (K : AV → Heap → Option ρ) : XE → St → Option ρ := finK (E16 N) laws_eqVector.kp.fins Go.Proofs.Tryd.f10 [] K
def laws_eqVector.k0 {ρ : Type} (N : Nat) (K : AV → Heap → Option ρ) : XE → St → Option ρ := (blockK laws_eqVector.kp 0 0 (seqK (xcode (E16 N) ents laws_eqVector.kp 0 N (cB (cB laws_eqVector.bd)) 0) (laws_eqVector.fin N K)))
theorem laws_eqVector.k0_mix {ρ : Type} (N : Nat) (K : AV → Heap → Option ρ) : mixK (laws_eqVector.fin N K .ret) (laws_eqVector.k0 N K) = (laws_eqVector.k0 N K) := by
  funext e s; cases e <;> kernel_rfl
def laws_eqVector.st0 (av0 : Nat → Int) (bv1 : Nat → Int) (i2 : Int) : St := ⟨sl 17 [(2, .sptr [(0, 8)]), (3, .sptr [(1, 8)]), (5, .int .i64 (i2))], [⟨true, .flat 8 (.ints .u8 av0)⟩, ⟨true, .flat 8 (.ints .u8 bv1)⟩]⟩
def laws_eqVector.sx0_0 : St := ⟨sl 17 [], []⟩
theorem laws_eqVector.b0_gen {ρ : Type} (N : Nat) (K : AV → Heap → Option ρ) (L0 : St → Option ρ) (kv : XE → St → Option ρ) (av0 : Nat → Int) (bv1 : Nat → Int) (i2 : Int) :
    xcode (E16 N) ents laws_eqVector.kp 0 N (cL (cK (cB (cA (cB laws_eqVector.bd))))) 0 (laws_eqVector.st0 av0 bv1 i2) (roundK laws_eqVector.kp 0 0 L0 (mixK (laws_eqVector.fin N K .ret) kv)) = (laws_eqVector.b0 N (fun d0 => K (.bool (d0)) []) (fun i2 => L0 (laws_eqVector.st0 av0 bv1 i2)) (kv (.exit 0) (laws_eqVector.sx0_0)) av0 bv1 i2) := by kernel_rfl
theorem laws_eqVector.b0_eq {ρ : Type} (N : Nat) (K : AV → Heap → Option ρ) (L0 : St → Option ρ) (av0 : Nat → Int) (bv1 : Nat → Int) (i2 : Int) :
    xcode (E16 N) ents laws_eqVector.kp 0 N (cL (cK (cB (cA (cB laws_eqVector.bd))))) 0 (laws_eqVector.st0 av0 bv1 i2) (roundK laws_eqVector.kp 0 0 L0 (laws_eqVector.k0 N K)) = (laws_eqVector.b0 N (fun d0 => K (.bool (d0)) []) (fun i2 => L0 (laws_eqVector.st0 av0 bv1 i2)) ((laws_eqVector.k0 N K) (.exit 0) (laws_eqVector.sx0_0)) av0 bv1 i2) := by
  have h := laws_eqVector.b0_gen N K L0 (laws_eqVector.k0 N K) av0 bv1 i2
  rw [laws_eqVector.k0_mix] at h
  exact h
theorem laws_eqVector.a0_0_eq {ρ : Type} (N : Nat) (K : AV → Heap → Option ρ) :
    (laws_eqVector.k0 N K) (.exit 0) (laws_eqVector.sx0_0) = (laws_eqVector.a0_0 N (fun d0 => K (.bool (d0)) [])) := by kernel_rfl
theorem laws_eqVector.l0_eq {ρ : Type} (N : Nat) (K : AV → Heap → Option ρ) (av0 : Nat → Int) (bv1 : Nat → Int) :
    ∀ (m : Nat) (i2 : Int), xloop (xcode (E16 N) ents laws_eqVector.kp 0 N (cL (cK (cB (cA (cB laws_eqVector.bd))))) 0) laws_eqVector.kp 0 0 m (laws_eqVector.st0 av0 bv1 i2) (laws_eqVector.k0 N K) = (laws_eqVector.l0 N (fun d0 => K (.bool (d0)) []) av0 bv1 ((laws_eqVector.k0 N K) (.exit 0) (laws_eqVector.sx0_0)) m i2) := by
  intro m
  induction m with
  | zero => intros; rfl
  | succ m ih =>
    intro i2
    refine (laws_eqVector.b0_eq N K (fun s => xloop (xcode (E16 N) ents laws_eqVector.kp 0 N (cL (cK (cB (cA (cB laws_eqVector.bd))))) 0) laws_eqVector.kp 0 0 m s (laws_eqVector.k0 N K)) av0 bv1 i2).trans ?_
    simp only [ih]
    kernel_rfl
theorem laws_eqVector.s_eq {ρ : Type} (N : Nat) (K : AV → Heap → Option ρ) (av0 : Nat → Int) (bv1 : Nat → Int) :
    xbody (E16 N) ents laws_eqVector.kp N Go.Proofs.Tryd.f10 laws_eqVector.bd [.agg [⟨.u8, 8, av0⟩], .agg [⟨.u8, 8, bv1⟩]] [] K = (laws_eqVector.s N (fun d0 => K (.bool (d0)) []) (fun i2 => xloop (xcode (E16 N) ents laws_eqVector.kp 0 N (cL (cK (cB (cA (cB laws_eqVector.bd))))) 0) laws_eqVector.kp 0 0 N (laws_eqVector.st0 av0 bv1 i2) (laws_eqVector.k0 N K))) := by kernel_rfl
theorem laws_eqVector.eq {ρ : Type} (N : Nat) (K : AV → Heap → Option ρ) (av0 : Nat → Int) (bv1 : Nat → Int) :
    xbody (E16 N) ents laws_eqVector.kp N Go.Proofs.Tryd.f10 laws_eqVector.bd [.agg [⟨.u8, 8, av0⟩], .agg [⟨.u8, 8, bv1⟩]] [] K = (laws_eqVector N (fun d0 => K (.bool (d0)) []) av0 bv1) := by
  refine (laws_eqVector.s_eq N K av0 bv1).trans ?_
  simp only [laws_eqVector.l0_eq, laws_eqVector.a0_0_eq]
  kernel_rfl
def laws_eqVector.en (N : Nat) (ρ : Type) : List AV → Heap → (AV → Heap → Option ρ) → Option ρ
  | [.agg [⟨.u8, 8, av0⟩], .agg [⟨.u8, 8, bv1⟩]], [], K => (laws_eqVector N (fun d0 => K (.bool (d0)) []) av0 bv1)
  | _, _, _ => none
theorem laws_eqVector.en_ok (N : Nat) (hE : EnvOk (E16 N) ents) (ρ : Type) (args : List AV) (sh : Heap) (K : AV → Heap → Option ρ) (r : ρ) (h : laws_eqVector.en N ρ args sh K = some r) : ∃ v sh', K v sh' = some r ∧ FnOk (E16 N).P 10 args sh v sh' := by
  unfold laws_eqVector.en at h
  split at h
  · exact fn_ok hE (kp := laws_eqVector.kp) (N := N) Go.Proofs.Tryd.func10 (c := laws_eqVector.bd) (by kernel_rfl) ((laws_eqVector.eq N _ _ _).trans h)
  · cases h
def E17 (N : Nat) : Env := (E16 N).add 10 (laws_eqVector.en N)
theorem E17_ok (N : Nat) : EnvOk (E17 N) ents := Env.add_ok (E16_ok N) (laws_eqVector.en_ok N (E16_ok N))
def laws_FnExactParseVector.kp : Keeps := ⟨[], [], []⟩
def laws_FnExactParseVector.bd : Code := bodyOf Go.Proofs.Tryd.f4
def laws_FnExactParseVector.fin {ρ : Type} (N : Nat) (K : AV → Heap → Option ρ) : XE → St → Option ρ := finK (E17 N) laws_FnExactParseVector.kp.fins Go.Proofs.Tryd.f4 [] K
theorem laws_FnExactParseVector.eq {ρ : Type} (N : Nat) (K : AV → Heap → Option ρ) (aP0 : Int) (aN1 : Int) (aText2 : ByteArray) :
    xbody (E17 N) ents laws_FnExactParseVector.kp N Go.Proofs.Tryd.f4 laws_FnExactParseVector.bd [.int .i64 (aP0), .int .i64 (aN1), .str (aText2)] [] K = (laws_FnExactParseVector N (fun d0 => K (.bool (d0)) []) aP0 aN1 aText2) := by kernel_rfl
def laws_FnExactParseVector.en (N : Nat) (ρ : Type) : List AV → Heap → (AV → Heap → Option ρ) → Option ρ
  | [.int .i64 (aP0), .int .i64 (aN1), .str (aText2)], [], K => (laws_FnExactParseVector N (fun d0 => K (.bool (d0)) []) aP0 aN1 aText2)
  | _, _, _ => none
theorem laws_FnExactParseVector.en_ok (N : Nat) (hE : EnvOk (E17 N) ents) (ρ : Type) (args : List AV) (sh : Heap) (K : AV → Heap → Option ρ) (r : ρ) (h : laws_FnExactParseVector.en N ρ args sh K = some r) : ∃ v sh', K v sh' = some r ∧ FnOk (E17 N).P 4 args sh v sh' := by
  unfold laws_FnExactParseVector.en at h
  split at h
  · exact fn_ok hE (kp := laws_FnExactParseVector.kp) (N := N) Go.Proofs.Tryd.func4 (c := laws_FnExactParseVector.bd) (by kernel_rfl) ((laws_FnExactParseVector.eq N _ _ _ _).trans h)
  · cases h
def E18 (N : Nat) : Env := (E17 N).add 4 (laws_FnExactParseVector.en N)
theorem E18_ok (N : Nat) : EnvOk (E18 N) ents := Env.add_ok (E17_ok N) (laws_FnExactParseVector.en_ok N (E17_ok N))
end
end Go.Proofs.YtfdkkcaolajhoaaDoor.H
