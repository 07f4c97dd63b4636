import Derived.Test.YtcdogefmbenplaaDoorHP0
import Derived.Test.YtcdogefmbenplaaDoorChecked
import Derived.KernelRfl
import Derived.Test.YtcdogefmbenplaaDoorHCon
namespace Go.Proofs.YtcdogefmbenplaaDoor.H
noncomputable section
set_option linter.unusedVariables false
set_option linter.unusedSimpArgs false
set_option linter.unusedSectionVars false
open Go Go.RowKit Go.Proofs.YtcdogefmbenplaaDoor.Hg
set_option maxRecDepth 100000
def lays : List Lay := [.other, .func, .int .i64, .int .i64, .bool, .int .u8, .int .u8, .mix [(0, 1, false), (1, 1, false), (2, 1, false), (3, 1, false)] [.int .i64, .int .i64, .bool, .int .u8], .mix [(0, 1, false), (1, 1, false), (2, 1, false), (3, 1, false)] [.int .i64, .int .i64, .bool, .int .u8], .str, .str, .str, .int .u64, .mix [(0, 1, false), (1, 1, false)] [.str, .int .u64], .mix [(0, 1, false), (1, 1, false)] [.str, .int .u64], .ptr, .ptr, .ptr, .other, .other, .other, .int .i32, .slice 9 1 16, .func, .func, .func, .func, .func, .func, .func, .arr 256 5 1 .u8, .func, .func, .func, .func, .int .u64, .slice 5 1 1, .slice 39 2 16, .struct [(0, 1, false), (1, 1, false)] [(.i64, 2)], .struct [(0, 1, false), (1, 1, false)] [(.i64, 2)], .int .u32, .func, .ptr, .func, .int .i64, .other, .func, .func, .func, .func, .other, .func, .func, .func, .int .u64, .slice 61 3 6, .slice 64 3 12, .mix [(0, 1, false), (1, 1, false), (2, 1, false)] [.nils, .nils, .int .i64], .mix [(0, 1, false), (1, 1, false), (2, 1, false)] [.nils, .nils, .int .i64], .int .u16, .struct [(0, 1, false), (1, 1, false), (2, 1, false)] [(.u16, 3)], .struct [(0, 1, false), (1, 1, false), (2, 1, false)] [(.u16, 3)], .func, .struct [(0, 1, false), (1, 1, false), (2, 1, false)] [(.u32, 3)], .struct [(0, 1, false), (1, 1, false), (2, 1, false)] [(.u32, 3)], .func, .int .u64, .func, .func, .func, .ptr, .func, .func, .ptr, .ptr, .ptr, .other, .func, .func, .other, .other, .other, .other, .other, .func, .int .u8, .int .u8, .func, .ptr, .int .i32, .int .i32, .other, .other, .other]
def wrs : List (FuncId × List Bool) := [(7, [true]), (10, [true])]
def ents : List FuncId := [3, 4, 5, 6, 7, 8, 9, 10, 11]
def E0 (N : Nat) : Env := env0 Go.Proofs.Tryd.prog lays wrs
theorem E0_ok (N : Nat) : EnvOk (E0 N) ents := env0_ok (by kernel_rfl) (by kernel_rfl) (by kernel_rfl)
def spec_KnownNames.kp : Keeps := ⟨[(0, [1, 2, 3], [], [])], [(0, [2], [], [])], []⟩
def spec_KnownNames.bd : Code := bodyOf Go.Proofs.Tryd.f4
def spec_KnownNames.fin {ρ : Type} (N : Nat) (K : AV → Heap → Option ρ) : XE → St → Option ρ := finK (E0 N) spec_KnownNames.kp.fins Go.Proofs.Tryd.f4 [] K
def spec_KnownNames.k0 {ρ : Type} (N : Nat) (K : AV → Heap → Option ρ) : XE → St → Option ρ := (blockK spec_KnownNames.kp 0 0 (seqK (xcode (E0 N) ents spec_KnownNames.kp 0 N (cB (cB (cB (cB spec_KnownNames.bd)))) 0) (spec_KnownNames.fin N K)))
theorem spec_KnownNames.k0_mix {ρ : Type} (N : Nat) (K : AV → Heap → Option ρ) : mixK (spec_KnownNames.fin N K .ret) (spec_KnownNames.k0 N K) = (spec_KnownNames.k0 N K) := by
  funext e s; cases e <;> kernel_rfl
def spec_KnownNames.st0 (outv0 : Nat) (i1 : Int) (gv2 : Nat → ByteArray) : St := ⟨sl 27 [(1, .slice true 0 0 10 (.exact 10) 1), (2, .slice true 1 0 outv0 .whole 1), (3, .int .i64 (i1))], [⟨true, .flat 10 (.strs (fun z => [(ByteArray.mk #[99, 121, 99, 108, 105, 99, 49]), (ByteArray.mk #[99, 121, 99, 108, 105, 99, 50]), (ByteArray.mk #[99, 121, 99, 108, 105, 99, 51]), (ByteArray.mk #[99, 121, 99, 108, 105, 99, 52]), (ByteArray.mk #[99, 121, 99, 108, 105, 99, 53]), (ByteArray.mk #[99, 121, 99, 108, 105, 99, 54]), (ByteArray.mk #[99, 121, 99, 108, 105, 99, 55]), (ByteArray.mk #[99, 121, 99, 108, 105, 99, 56]), (ByteArray.mk #[100, 105, 104, 101, 100, 114, 97, 108, 51]), (ByteArray.mk #[100, 105, 104, 101, 100, 114, 97, 108, 52])].getD z ByteArray.empty))⟩, ⟨true, .flat 0 (.strs gv2)⟩]⟩
def spec_KnownNames.sx0_0 (ov3 : Nat) (ov4 : Nat → ByteArray) : St := ⟨sl 27 [(2, .slice true 0 0 ov3 .whole 1)], [⟨true, .flat 0 (.strs ov4)⟩]⟩
theorem spec_KnownNames.b0_gen {ρ : Type} (N : Nat) (K : AV → Heap → Option ρ) (L0 : St → Option ρ) (kv : XE → St → Option ρ) (outv0 : Nat) (i1 : Int) (gv2 : Nat → ByteArray) :
    xcode (E0 N) ents spec_KnownNames.kp 0 N (cL (cK (cB (cA (cB (cB (cB spec_KnownNames.bd))))))) 0 (spec_KnownNames.st0 outv0 i1 gv2) (roundK spec_KnownNames.kp 0 0 L0 (mixK (spec_KnownNames.fin N K .ret) kv)) = (spec_KnownNames.b0 N (fun d0 d1 => K (.slice true 0 0 d0 .whole 1) [⟨true, .flat 0 (.strs d1)⟩]) (fun outv0 i1 gv2 => L0 (spec_KnownNames.st0 outv0 i1 gv2)) (fun ov3 ov4 => kv (.exit 0) (spec_KnownNames.sx0_0 ov3 ov4)) outv0 i1 gv2) := by kernel_rfl
theorem spec_KnownNames.b0_eq {ρ : Type} (N : Nat) (K : AV → Heap → Option ρ) (L0 : St → Option ρ) (outv0 : Nat) (i1 : Int) (gv2 : Nat → ByteArray) :
    xcode (E0 N) ents spec_KnownNames.kp 0 N (cL (cK (cB (cA (cB (cB (cB spec_KnownNames.bd))))))) 0 (spec_KnownNames.st0 outv0 i1 gv2) (roundK spec_KnownNames.kp 0 0 L0 (spec_KnownNames.k0 N K)) = (spec_KnownNames.b0 N (fun d0 d1 => K (.slice true 0 0 d0 .whole 1) [⟨true, .flat 0 (.strs d1)⟩]) (fun outv0 i1 gv2 => L0 (spec_KnownNames.st0 outv0 i1 gv2)) (fun ov3 ov4 => (spec_KnownNames.k0 N K) (.exit 0) (spec_KnownNames.sx0_0 ov3 ov4)) outv0 i1 gv2) := by
  have h := spec_KnownNames.b0_gen N K L0 (spec_KnownNames.k0 N K) outv0 i1 gv2
  rw [spec_KnownNames.k0_mix] at h
  exact h
theorem spec_KnownNames.a0_0_eq {ρ : Type} (N : Nat) (K : AV → Heap → Option ρ) (ov3 : Nat) (ov4 : Nat → ByteArray) :
    (spec_KnownNames.k0 N K) (.exit 0) (spec_KnownNames.sx0_0 ov3 ov4) = (spec_KnownNames.a0_0 N (fun d0 d1 => K (.slice true 0 0 d0 .whole 1) [⟨true, .flat 0 (.strs d1)⟩]) ov3 ov4) := by kernel_rfl
theorem spec_KnownNames.l0_eq {ρ : Type} (N : Nat) (K : AV → Heap → Option ρ) :
    ∀ (m : Nat) (outv0 : Nat) (i1 : Int) (gv2 : Nat → ByteArray), xloop (xcode (E0 N) ents spec_KnownNames.kp 0 N (cL (cK (cB (cA (cB (cB (cB spec_KnownNames.bd))))))) 0) spec_KnownNames.kp 0 0 m (spec_KnownNames.st0 outv0 i1 gv2) (spec_KnownNames.k0 N K) = (spec_KnownNames.l0 N (fun d0 d1 => K (.slice true 0 0 d0 .whole 1) [⟨true, .flat 0 (.strs d1)⟩]) (fun ov3 ov4 => (spec_KnownNames.k0 N K) (.exit 0) (spec_KnownNames.sx0_0 ov3 ov4)) m outv0 i1 gv2) := by
  intro m
  induction m with
  | zero => intros; rfl
  | succ m ih =>
    intro outv0 i1 gv2
    refine (spec_KnownNames.b0_eq N K (fun s => xloop (xcode (E0 N) ents spec_KnownNames.kp 0 N (cL (cK (cB (cA (cB (cB (cB spec_KnownNames.bd))))))) 0) spec_KnownNames.kp 0 0 m s (spec_KnownNames.k0 N K)) outv0 i1 gv2).trans ?_
    simp only [ih]
    kernel_rfl
theorem spec_KnownNames.s_eq {ρ : Type} (N : Nat) (K : AV → Heap → Option ρ) :
    xbody (E0 N) ents spec_KnownNames.kp N Go.Proofs.Tryd.f4 spec_KnownNames.bd [] [] K = (spec_KnownNames.s N (fun d0 d1 => K (.slice true 0 0 d0 .whole 1) [⟨true, .flat 0 (.strs d1)⟩]) (fun outv0 i1 gv2 => xloop (xcode (E0 N) ents spec_KnownNames.kp 0 N (cL (cK (cB (cA (cB (cB (cB spec_KnownNames.bd))))))) 0) spec_KnownNames.kp 0 0 N (spec_KnownNames.st0 outv0 i1 gv2) (spec_KnownNames.k0 N K))) := by kernel_rfl
theorem spec_KnownNames.eq {ρ : Type} (N : Nat) (K : AV → Heap → Option ρ) :
    xbody (E0 N) ents spec_KnownNames.kp N Go.Proofs.Tryd.f4 spec_KnownNames.bd [] [] K = (spec_KnownNames N (fun d0 d1 => K (.slice true 0 0 d0 .whole 1) [⟨true, .flat 0 (.strs d1)⟩])) := by
  refine (spec_KnownNames.s_eq N K ).trans ?_
  simp only [spec_KnownNames.l0_eq, spec_KnownNames.a0_0_eq]
  kernel_rfl
def spec_KnownNames.en (N : Nat) (ρ : Type) : List AV → Heap → (AV → Heap → Option ρ) → Option ρ
  | [], [], K => (spec_KnownNames N (fun d0 d1 => K (.slice true 0 0 d0 .whole 1) [⟨true, .flat 0 (.strs d1)⟩]))
  | _, _, _ => none
theorem spec_KnownNames.en_ok (N : Nat) (hE : EnvOk (E0 N) ents) (ρ : Type) (args : List AV) (sh : Heap) (K : AV → Heap → Option ρ) (r : ρ) (h : spec_KnownNames.en N ρ args sh K = some r) : ∃ v sh', K v sh' = some r ∧ FnOk (E0 N).P 4 args sh v sh' := by
  unfold spec_KnownNames.en at h
  split at h
  · exact fn_ok hE (kp := spec_KnownNames.kp) (N := N) Go.Proofs.Tryd.func4 (c := spec_KnownNames.bd) (by kernel_rfl) ((spec_KnownNames.eq N _ ).trans h)
  · cases h
def E1 (N : Nat) : Env := (E0 N).add 4 (spec_KnownNames.en N)
theorem E1_ok (N : Nat) : EnvOk (E1 N) ents := Env.add_ok (E0_ok N) (spec_KnownNames.en_ok N (E0_ok N))
def strings_Fields.en (N : Nat) (ρ : Type) : List AV → Heap → (AV → Heap → Option ρ) → Option ρ
  | [.str (s0)], [], K => (strings_Fields N (fun d0 d1 d2 => K (.slice true 0 0 d0 (.exact d1) 1) [⟨true, .flat 12 (.strs d2)⟩]) s0)
  | _, _, _ => none
theorem strings_Fields.en_ok (N : Nat) (hE : EnvOk (E1 N) ents) (ρ : Type) (args : List AV) (sh : Heap) (K : AV → Heap → Option ρ) (r : ρ) (h : strings_Fields.en N ρ args sh K = some r) : ∃ v sh', K v sh' = some r ∧ FnOk (E1 N).P 9 args sh v sh' := by
  unfold strings_Fields.en at h
  split at h
  · exact strings_Fields.con N _ _ h
  · cases h
def E2 (N : Nat) : Env := (E1 N).add 9 (strings_Fields.en N)
theorem E2_ok (N : Nat) : EnvOk (E2 N) ents := Env.add_ok (E1_ok N) (strings_Fields.en_ok N (E1_ok N))
def slices_Sort_sw.en (N : Nat) (ρ : Type) : List AV → Heap → (AV → Heap → Option ρ) → Option ρ
  | [.slice true 0 0 x0 .whole 1], [⟨true, .flat 0 (.strs gv1)⟩], K => (slices_Sort_sw N (fun d0 => K (.tup []) [⟨true, .flat 0 (.strs d0)⟩]) x0 gv1)
  | _, _, _ => none
theorem slices_Sort_sw.en_ok (N : Nat) (hE : EnvOk (E2 N) ents) (ρ : Type) (args : List AV) (sh : Heap) (K : AV → Heap → Option ρ) (r : ρ) (h : slices_Sort_sw.en N ρ args sh K = some r) : ∃ v sh', K v sh' = some r ∧ FnOk (E2 N).P 10 args sh v sh' := by
  unfold slices_Sort_sw.en at h
  split at h
  · exact slices_Sort_sw.con N _ _ _ h
  · cases h
def E3 (N : Nat) : Env := (E2 N).add 10 (slices_Sort_sw.en N)
theorem E3_ok (N : Nat) : EnvOk (E3 N) ents := Env.add_ok (E2_ok N) (slices_Sort_sw.en_ok N (E2_ok N))
def impl_KnownNames.kp : Keeps := ⟨[(0, [1, 5, 6, 7], [(.slot 1, .whole true (.strs (fun _ => ByteArray.empty)) 1)], [])], [(0, [1], [], [])], []⟩
def impl_KnownNames.bd : Code := bodyOf Go.Proofs.Tryd.f5
def impl_KnownNames.fin {ρ : Type} (N : Nat) (K : AV → Heap → Option ρ) : XE → St → Option ρ := finK (E3 N) impl_KnownNames.kp.fins Go.Proofs.Tryd.f5 [] K
def impl_KnownNames.k0 {ρ : Type} (N : Nat) (K : AV → Heap → Option ρ) : XE → St → Option ρ := (blockK impl_KnownNames.kp 0 0 (seqK (xcode (E3 N) ents impl_KnownNames.kp 0 N (cB (cB (cB impl_KnownNames.bd))) 0) (impl_KnownNames.fin N K)))
theorem impl_KnownNames.k0_mix {ρ : Type} (N : Nat) (K : AV → Heap → Option ρ) : mixK (impl_KnownNames.fin N K .ret) (impl_KnownNames.k0 N K) = (impl_KnownNames.k0 N K) := by
  funext e s; cases e <;> kernel_rfl
def impl_KnownNames.st0 (rv0 : Nat) (rv1 : Nat) (rv2 : Nat → ByteArray) (outv3 : Nat) (x4 : Int) (gv5 : Nat → ByteArray) : St := ⟨sl 21 [(1, .slice true 0 0 outv3 .whole 1), (5, .slice true 1 0 rv0 (.exact rv1) 1), (6, .int .i64 ((rv0 : Int))), (7, .int .i64 (x4))], [⟨true, .flat 0 (.strs gv5)⟩, ⟨true, .flat 12 (.strs rv2)⟩]⟩
def impl_KnownNames.sx0_0 (ov6 : Nat) (ov7 : Nat → ByteArray) : St := ⟨sl 21 [(1, .slice true 0 0 ov6 .whole 1)], [⟨true, .flat 0 (.strs ov7)⟩]⟩
theorem impl_KnownNames.b0_gen {ρ : Type} (N : Nat) (K : AV → Heap → Option ρ) (L0 : St → Option ρ) (kv : XE → St → Option ρ) (rv0 : Nat) (rv1 : Nat) (rv2 : Nat → ByteArray) (outv3 : Nat) (x4 : Int) (gv5 : Nat → ByteArray) :
    xcode (E3 N) ents impl_KnownNames.kp 0 N (cL (cK (cB (cA (cB (cB impl_KnownNames.bd)))))) 0 (impl_KnownNames.st0 rv0 rv1 rv2 outv3 x4 gv5) (roundK impl_KnownNames.kp 0 0 L0 (mixK (impl_KnownNames.fin N K .ret) kv)) = (impl_KnownNames.b0 N (fun d0 d1 => K (.slice true 0 0 d0 .whole 1) [⟨true, .flat 0 (.strs d1)⟩]) (fun outv3 x4 gv5 => L0 (impl_KnownNames.st0 rv0 rv1 rv2 outv3 x4 gv5)) (fun ov6 ov7 => kv (.exit 0) (impl_KnownNames.sx0_0 ov6 ov7)) rv0 rv2 outv3 x4 gv5) := by kernel_rfl
theorem impl_KnownNames.b0_eq {ρ : Type} (N : Nat) (K : AV → Heap → Option ρ) (L0 : St → Option ρ) (rv0 : Nat) (rv1 : Nat) (rv2 : Nat → ByteArray) (outv3 : Nat) (x4 : Int) (gv5 : Nat → ByteArray) :
    xcode (E3 N) ents impl_KnownNames.kp 0 N (cL (cK (cB (cA (cB (cB impl_KnownNames.bd)))))) 0 (impl_KnownNames.st0 rv0 rv1 rv2 outv3 x4 gv5) (roundK impl_KnownNames.kp 0 0 L0 (impl_KnownNames.k0 N K)) = (impl_KnownNames.b0 N (fun d0 d1 => K (.slice true 0 0 d0 .whole 1) [⟨true, .flat 0 (.strs d1)⟩]) (fun outv3 x4 gv5 => L0 (impl_KnownNames.st0 rv0 rv1 rv2 outv3 x4 gv5)) (fun ov6 ov7 => (impl_KnownNames.k0 N K) (.exit 0) (impl_KnownNames.sx0_0 ov6 ov7)) rv0 rv2 outv3 x4 gv5) := by
  have h := impl_KnownNames.b0_gen N K L0 (impl_KnownNames.k0 N K) rv0 rv1 rv2 outv3 x4 gv5
  rw [impl_KnownNames.k0_mix] at h
  exact h
theorem impl_KnownNames.a0_0_eq {ρ : Type} (N : Nat) (K : AV → Heap → Option ρ) (ov6 : Nat) (ov7 : Nat → ByteArray) :
    (impl_KnownNames.k0 N K) (.exit 0) (impl_KnownNames.sx0_0 ov6 ov7) = (impl_KnownNames.a0_0 N (fun d0 d1 => K (.slice true 0 0 d0 .whole 1) [⟨true, .flat 0 (.strs d1)⟩]) ov6 ov7) := by kernel_rfl
theorem impl_KnownNames.l0_eq {ρ : Type} (N : Nat) (K : AV → Heap → Option ρ) (rv0 : Nat) (rv1 : Nat) (rv2 : Nat → ByteArray) :
    ∀ (m : Nat) (outv3 : Nat) (x4 : Int) (gv5 : Nat → ByteArray), xloop (xcode (E3 N) ents impl_KnownNames.kp 0 N (cL (cK (cB (cA (cB (cB impl_KnownNames.bd)))))) 0) impl_KnownNames.kp 0 0 m (impl_KnownNames.st0 rv0 rv1 rv2 outv3 x4 gv5) (impl_KnownNames.k0 N K) = (impl_KnownNames.l0 N (fun d0 d1 => K (.slice true 0 0 d0 .whole 1) [⟨true, .flat 0 (.strs d1)⟩]) rv0 rv2 (fun ov6 ov7 => (impl_KnownNames.k0 N K) (.exit 0) (impl_KnownNames.sx0_0 ov6 ov7)) m outv3 x4 gv5) := by
  intro m
  induction m with
  | zero => intros; rfl
  | succ m ih =>
    intro outv3 x4 gv5
    refine (impl_KnownNames.b0_eq N K (fun s => xloop (xcode (E3 N) ents impl_KnownNames.kp 0 N (cL (cK (cB (cA (cB (cB impl_KnownNames.bd)))))) 0) impl_KnownNames.kp 0 0 m s (impl_KnownNames.k0 N K)) rv0 rv1 rv2 outv3 x4 gv5).trans ?_
    simp only [ih]
    kernel_rfl
theorem impl_KnownNames.s_eq {ρ : Type} (N : Nat) (K : AV → Heap → Option ρ) :
    xbody (E3 N) ents impl_KnownNames.kp N Go.Proofs.Tryd.f5 impl_KnownNames.bd [] [] K = (impl_KnownNames.s N (fun d0 d1 => K (.slice true 0 0 d0 .whole 1) [⟨true, .flat 0 (.strs d1)⟩]) (fun rv0 rv1 rv2 outv3 x4 gv5 => xloop (xcode (E3 N) ents impl_KnownNames.kp 0 N (cL (cK (cB (cA (cB (cB impl_KnownNames.bd)))))) 0) impl_KnownNames.kp 0 0 N (impl_KnownNames.st0 rv0 rv1 rv2 outv3 x4 gv5) (impl_KnownNames.k0 N K))) := by kernel_rfl
theorem impl_KnownNames.eq {ρ : Type} (N : Nat) (K : AV → Heap → Option ρ) :
    xbody (E3 N) ents impl_KnownNames.kp N Go.Proofs.Tryd.f5 impl_KnownNames.bd [] [] K = (impl_KnownNames N (fun d0 d1 => K (.slice true 0 0 d0 .whole 1) [⟨true, .flat 0 (.strs d1)⟩])) := by
  refine (impl_KnownNames.s_eq N K ).trans ?_
  simp only [impl_KnownNames.l0_eq, impl_KnownNames.a0_0_eq]
  kernel_rfl
def impl_KnownNames.en (N : Nat) (ρ : Type) : List AV → Heap → (AV → Heap → Option ρ) → Option ρ
  | [], [], K => (impl_KnownNames N (fun d0 d1 => K (.slice true 0 0 d0 .whole 1) [⟨true, .flat 0 (.strs d1)⟩]))
  | _, _, _ => none
theorem impl_KnownNames.en_ok (N : Nat) (hE : EnvOk (E3 N) ents) (ρ : Type) (args : List AV) (sh : Heap) (K : AV → Heap → Option ρ) (r : ρ) (h : impl_KnownNames.en N ρ args sh K = some r) : ∃ v sh', K v sh' = some r ∧ FnOk (E3 N).P 5 args sh v sh' := by
  unfold impl_KnownNames.en at h
  split at h
  · exact fn_ok hE (kp := impl_KnownNames.kp) (N := N) Go.Proofs.Tryd.func5 (c := impl_KnownNames.bd) (by kernel_rfl) ((impl_KnownNames.eq N _ ).trans h)
  · cases h
def E4 (N : Nat) : Env := (E3 N).add 5 (impl_KnownNames.en N)
theorem E4_ok (N : Nat) : EnvOk (E4 N) ents := Env.add_ok (E3_ok N) (impl_KnownNames.en_ok N (E3_ok N))
def laws_eqStringS_susu.kp : Keeps := ⟨[(0, [0, 1, 5], [], [])], [(0, [], [], [])], []⟩
def laws_eqStringS_susu.bd : Code := bodyOf Go.Proofs.Tryd.f6
def laws_eqStringS_susu.fin {ρ : Type} (N : Nat) (K : AV → Heap → Option ρ) (gv2 : Nat) (gv3 : Nat → ByteArray) (gv4 : Nat) (gv5 : Nat → ByteArray) : XE → St → Option ρ := finK (E4 N) laws_eqStringS_susu.kp.fins Go.Proofs.Tryd.f6 [⟨false, .flat gv2 (.strs gv3)⟩, ⟨false, .flat gv4 (.strs gv5)⟩] K
def laws_eqStringS_susu.k0 {ρ : Type} (N : Nat) (K : AV → Heap → Option ρ) (gv2 : Nat) (gv3 : Nat → ByteArray) (gv4 : Nat) (gv5 : Nat → ByteArray) : XE → St → Option ρ := (blockK laws_eqStringS_susu.kp 2 0 (seqK (xcode (E4 N) ents laws_eqStringS_susu.kp 2 N (cB (cB (cB laws_eqStringS_susu.bd))) 0) (laws_eqStringS_susu.fin N K gv2 gv3 gv4 gv5)))
theorem laws_eqStringS_susu.k0_mix {ρ : Type} (N : Nat) (K : AV → Heap → Option ρ) (gv2 : Nat) (gv3 : Nat → ByteArray) (gv4 : Nat) (gv5 : Nat → ByteArray) : mixK (laws_eqStringS_susu.fin N K gv2 gv3 gv4 gv5 .ret) (laws_eqStringS_susu.k0 N K gv2 gv3 gv4 gv5) = (laws_eqStringS_susu.k0 N K gv2 gv3 gv4 gv5) := by
  funext e s; cases e <;> kernel_rfl
def laws_eqStringS_susu.st0 (av0 : Nat) (bv1 : Nat) (gv2 : Nat) (gv3 : Nat → ByteArray) (gv4 : Nat) (gv5 : Nat → ByteArray) (i6 : Int) : St := ⟨sl 26 [(0, .slice true 0 0 av0 .unk 1), (1, .slice true 1 0 bv1 .unk 1), (5, .int .i64 (i6))], [⟨false, .flat gv2 (.strs gv3)⟩, ⟨false, .flat gv4 (.strs gv5)⟩]⟩
def laws_eqStringS_susu.sx0_0 (gv2 : Nat) (gv3 : Nat → ByteArray) (gv4 : Nat) (gv5 : Nat → ByteArray) : St := ⟨sl 26 [], [⟨false, .flat gv2 (.strs gv3)⟩, ⟨false, .flat gv4 (.strs gv5)⟩]⟩
theorem laws_eqStringS_susu.b0_gen {ρ : Type} (N : Nat) (K : AV → Heap → Option ρ) (L0 : St → Option ρ) (kv : XE → St → Option ρ) (av0 : Nat) (bv1 : Nat) (gv2 : Nat) (gv3 : Nat → ByteArray) (gv4 : Nat) (gv5 : Nat → ByteArray) (i6 : Int) :
    xcode (E4 N) ents laws_eqStringS_susu.kp 2 N (cL (cK (cB (cA (cB (cB laws_eqStringS_susu.bd)))))) 0 (laws_eqStringS_susu.st0 av0 bv1 gv2 gv3 gv4 gv5 i6) (roundK laws_eqStringS_susu.kp 2 0 L0 (mixK (laws_eqStringS_susu.fin N K gv2 gv3 gv4 gv5 .ret) kv)) = (laws_eqStringS_susu.b0 N (fun d0 => K (.bool (d0)) [⟨false, .flat gv2 (.strs gv3)⟩, ⟨false, .flat gv4 (.strs gv5)⟩]) (fun i6 => L0 (laws_eqStringS_susu.st0 av0 bv1 gv2 gv3 gv4 gv5 i6)) (kv (.exit 0) (laws_eqStringS_susu.sx0_0 gv2 gv3 gv4 gv5)) av0 bv1 gv3 gv5 i6) := by kernel_rfl
theorem laws_eqStringS_susu.b0_eq {ρ : Type} (N : Nat) (K : AV → Heap → Option ρ) (L0 : St → Option ρ) (av0 : Nat) (bv1 : Nat) (gv2 : Nat) (gv3 : Nat → ByteArray) (gv4 : Nat) (gv5 : Nat → ByteArray) (i6 : Int) :
    xcode (E4 N) ents laws_eqStringS_susu.kp 2 N (cL (cK (cB (cA (cB (cB laws_eqStringS_susu.bd)))))) 0 (laws_eqStringS_susu.st0 av0 bv1 gv2 gv3 gv4 gv5 i6) (roundK laws_eqStringS_susu.kp 2 0 L0 (laws_eqStringS_susu.k0 N K gv2 gv3 gv4 gv5)) = (laws_eqStringS_susu.b0 N (fun d0 => K (.bool (d0)) [⟨false, .flat gv2 (.strs gv3)⟩, ⟨false, .flat gv4 (.strs gv5)⟩]) (fun i6 => L0 (laws_eqStringS_susu.st0 av0 bv1 gv2 gv3 gv4 gv5 i6)) ((laws_eqStringS_susu.k0 N K gv2 gv3 gv4 gv5) (.exit 0) (laws_eqStringS_susu.sx0_0 gv2 gv3 gv4 gv5)) av0 bv1 gv3 gv5 i6) := by
  have h := laws_eqStringS_susu.b0_gen N K L0 (laws_eqStringS_susu.k0 N K gv2 gv3 gv4 gv5) av0 bv1 gv2 gv3 gv4 gv5 i6
  rw [laws_eqStringS_susu.k0_mix] at h
  exact h
theorem laws_eqStringS_susu.a0_0_eq {ρ : Type} (N : Nat) (K : AV → Heap → Option ρ) (gv2 : Nat) (gv3 : Nat → ByteArray) (gv4 : Nat) (gv5 : Nat → ByteArray) :
    (laws_eqStringS_susu.k0 N K gv2 gv3 gv4 gv5) (.exit 0) (laws_eqStringS_susu.sx0_0 gv2 gv3 gv4 gv5) = (laws_eqStringS_susu.a0_0 N (fun d0 => K (.bool (d0)) [⟨false, .flat gv2 (.strs gv3)⟩, ⟨false, .flat gv4 (.strs gv5)⟩])) := by kernel_rfl
theorem laws_eqStringS_susu.l0_eq {ρ : Type} (N : Nat) (K : AV → Heap → Option ρ) (av0 : Nat) (bv1 : Nat) (gv2 : Nat) (gv3 : Nat → ByteArray) (gv4 : Nat) (gv5 : Nat → ByteArray) :
    ∀ (m : Nat) (i6 : Int), xloop (xcode (E4 N) ents laws_eqStringS_susu.kp 2 N (cL (cK (cB (cA (cB (cB laws_eqStringS_susu.bd)))))) 0) laws_eqStringS_susu.kp 2 0 m (laws_eqStringS_susu.st0 av0 bv1 gv2 gv3 gv4 gv5 i6) (laws_eqStringS_susu.k0 N K gv2 gv3 gv4 gv5) = (laws_eqStringS_susu.l0 N (fun d0 => K (.bool (d0)) [⟨false, .flat gv2 (.strs gv3)⟩, ⟨false, .flat gv4 (.strs gv5)⟩]) av0 bv1 gv3 gv5 ((laws_eqStringS_susu.k0 N K gv2 gv3 gv4 gv5) (.exit 0) (laws_eqStringS_susu.sx0_0 gv2 gv3 gv4 gv5)) m i6) := by
  intro m
  induction m with
  | zero => intros; rfl
  | succ m ih =>
    intro i6
    refine (laws_eqStringS_susu.b0_eq N K (fun s => xloop (xcode (E4 N) ents laws_eqStringS_susu.kp 2 N (cL (cK (cB (cA (cB (cB laws_eqStringS_susu.bd)))))) 0) laws_eqStringS_susu.kp 2 0 m s (laws_eqStringS_susu.k0 N K gv2 gv3 gv4 gv5)) av0 bv1 gv2 gv3 gv4 gv5 i6).trans ?_
    simp only [ih]
    kernel_rfl
theorem laws_eqStringS_susu.s_eq {ρ : Type} (N : Nat) (K : AV → Heap → Option ρ) (av0 : Nat) (bv1 : Nat) (gv2 : Nat) (gv3 : Nat → ByteArray) (gv4 : Nat) (gv5 : Nat → ByteArray) :
    xbody (E4 N) ents laws_eqStringS_susu.kp N Go.Proofs.Tryd.f6 laws_eqStringS_susu.bd [.slice true 0 0 av0 .unk 1, .slice true 1 0 bv1 .unk 1] [⟨false, .flat gv2 (.strs gv3)⟩, ⟨false, .flat gv4 (.strs gv5)⟩] K = (laws_eqStringS_susu.s N (fun d0 => K (.bool (d0)) [⟨false, .flat gv2 (.strs gv3)⟩, ⟨false, .flat gv4 (.strs gv5)⟩]) (fun i6 => xloop (xcode (E4 N) ents laws_eqStringS_susu.kp 2 N (cL (cK (cB (cA (cB (cB laws_eqStringS_susu.bd)))))) 0) laws_eqStringS_susu.kp 2 0 N (laws_eqStringS_susu.st0 av0 bv1 gv2 gv3 gv4 gv5 i6) (laws_eqStringS_susu.k0 N K gv2 gv3 gv4 gv5)) av0 bv1) := by kernel_rfl
theorem laws_eqStringS_susu.eq {ρ : Type} (N : Nat) (K : AV → Heap → Option ρ) (av0 : Nat) (bv1 : Nat) (gv2 : Nat) (gv3 : Nat → ByteArray) (gv4 : Nat) (gv5 : Nat → ByteArray) :
    xbody (E4 N) ents laws_eqStringS_susu.kp N Go.Proofs.Tryd.f6 laws_eqStringS_susu.bd [.slice true 0 0 av0 .unk 1, .slice true 1 0 bv1 .unk 1] [⟨false, .flat gv2 (.strs gv3)⟩, ⟨false, .flat gv4 (.strs gv5)⟩] K = (laws_eqStringS_susu N (fun d0 => K (.bool (d0)) [⟨false, .flat gv2 (.strs gv3)⟩, ⟨false, .flat gv4 (.strs gv5)⟩]) av0 bv1 gv2 gv3 gv4 gv5) := by
  refine (laws_eqStringS_susu.s_eq N K av0 bv1 gv2 gv3 gv4 gv5).trans ?_
  simp only [laws_eqStringS_susu.l0_eq, laws_eqStringS_susu.a0_0_eq]
  kernel_rfl
def laws_eqStringS_susu.en (N : Nat) (ρ : Type) : List AV → Heap → (AV → Heap → Option ρ) → Option ρ
  | [.slice true 0 0 av0 .unk 1, .slice true 1 0 bv1 .unk 1], [⟨false, .flat gv2 (.strs gv3)⟩, ⟨false, .flat gv4 (.strs gv5)⟩], K => (laws_eqStringS_susu N (fun d0 => K (.bool (d0)) [⟨false, .flat gv2 (.strs gv3)⟩, ⟨false, .flat gv4 (.strs gv5)⟩]) av0 bv1 gv2 gv3 gv4 gv5)
  | _, _, _ => none
theorem laws_eqStringS_susu.en_ok (N : Nat) (hE : EnvOk (E4 N) ents) (ρ : Type) (args : List AV) (sh : Heap) (K : AV → Heap → Option ρ) (r : ρ) (h : laws_eqStringS_susu.en N ρ args sh K = some r) : ∃ v sh', K v sh' = some r ∧ FnOk (E4 N).P 6 args sh v sh' := by
  unfold laws_eqStringS_susu.en at h
  split at h
  · exact fn_ok hE (kp := laws_eqStringS_susu.kp) (N := N) Go.Proofs.Tryd.func6 (c := laws_eqStringS_susu.bd) (by kernel_rfl) ((laws_eqStringS_susu.eq N _ _ _ _ _ _ _).trans h)
  · cases h
def E5 (N : Nat) : Env := (E4 N).add 6 (laws_eqStringS_susu.en N)
theorem E5_ok (N : Nat) : EnvOk (E5 N) ents := Env.add_ok (E4_ok N) (laws_eqStringS_susu.en_ok N (E4_ok N))
def laws_markText.kp : Keeps := ⟨[(0, [0, 3], [], [])], [(0, [3], [], [])], []⟩
def laws_markText.bd : Code := bodyOf Go.Proofs.Tryd.f11
def laws_markText.fin {ρ : Type} (N : Nat) (K : AV → Heap → Option ρ) : XE → St → Option ρ := finK (E5 N) laws_markText.kp.fins Go.Proofs.Tryd.f11 [] K
def laws_markText.k0 {ρ : Type} (N : Nat) (K : AV → Heap → Option ρ) : XE → St → Option ρ := (blockK laws_markText.kp 0 0 (seqK (xcode (E5 N) ents laws_markText.kp 0 N (cB (cB (cB (cB laws_markText.bd)))) 0) (laws_markText.fin N K)))
theorem laws_markText.k0_mix {ρ : Type} (N : Nat) (K : AV → Heap → Option ρ) : mixK (laws_markText.fin N K .ret) (laws_markText.k0 N K) = (laws_markText.k0 N K) := by
  funext e s; cases e <;> kernel_rfl
def laws_markText.st0 (k1 : Int) (outv2 : ByteArray) : St := ⟨sl 20 [(0, .int .i64 (k1)), (3, .str (outv2))], []⟩
def laws_markText.sx0_0 (ov3 : ByteArray) : St := ⟨sl 20 [(3, .str (ov3))], []⟩
theorem laws_markText.b0_gen {ρ : Type} (N : Nat) (K : AV → Heap → Option ρ) (L0 : St → Option ρ) (kv : XE → St → Option ρ) (k1 : Int) (outv2 : ByteArray) :
    xcode (E5 N) ents laws_markText.kp 0 N (cL (cK (cA (cB (cB (cB laws_markText.bd)))))) 0 (laws_markText.st0 k1 outv2) (roundK laws_markText.kp 0 0 L0 (mixK (laws_markText.fin N K .ret) kv)) = (laws_markText.b0 N (fun d0 => K (.str (d0)) []) (fun k1 outv2 => L0 (laws_markText.st0 k1 outv2)) (fun ov3 => kv (.exit 0) (laws_markText.sx0_0 ov3)) k1 outv2) := by kernel_rfl
theorem laws_markText.b0_eq {ρ : Type} (N : Nat) (K : AV → Heap → Option ρ) (L0 : St → Option ρ) (k1 : Int) (outv2 : ByteArray) :
    xcode (E5 N) ents laws_markText.kp 0 N (cL (cK (cA (cB (cB (cB laws_markText.bd)))))) 0 (laws_markText.st0 k1 outv2) (roundK laws_markText.kp 0 0 L0 (laws_markText.k0 N K)) = (laws_markText.b0 N (fun d0 => K (.str (d0)) []) (fun k1 outv2 => L0 (laws_markText.st0 k1 outv2)) (fun ov3 => (laws_markText.k0 N K) (.exit 0) (laws_markText.sx0_0 ov3)) k1 outv2) := by
  have h := laws_markText.b0_gen N K L0 (laws_markText.k0 N K) k1 outv2
  rw [laws_markText.k0_mix] at h
  exact h
theorem laws_markText.a0_0_eq {ρ : Type} (N : Nat) (K : AV → Heap → Option ρ) (ov3 : ByteArray) :
    (laws_markText.k0 N K) (.exit 0) (laws_markText.sx0_0 ov3) = (laws_markText.a0_0 N (fun d0 => K (.str (d0)) []) ov3) := by kernel_rfl
theorem laws_markText.l0_eq {ρ : Type} (N : Nat) (K : AV → Heap → Option ρ) :
    ∀ (m : Nat) (k1 : Int) (outv2 : ByteArray), xloop (xcode (E5 N) ents laws_markText.kp 0 N (cL (cK (cA (cB (cB (cB laws_markText.bd)))))) 0) laws_markText.kp 0 0 m (laws_markText.st0 k1 outv2) (laws_markText.k0 N K) = (laws_markText.l0 N (fun d0 => K (.str (d0)) []) (fun ov3 => (laws_markText.k0 N K) (.exit 0) (laws_markText.sx0_0 ov3)) m k1 outv2) := by
  intro m
  induction m with
  | zero => intros; rfl
  | succ m ih =>
    intro k1 outv2
    refine (laws_markText.b0_eq N K (fun s => xloop (xcode (E5 N) ents laws_markText.kp 0 N (cL (cK (cA (cB (cB (cB laws_markText.bd)))))) 0) laws_markText.kp 0 0 m s (laws_markText.k0 N K)) k1 outv2).trans ?_
    simp only [ih]
    kernel_rfl
theorem laws_markText.s_eq {ρ : Type} (N : Nat) (K : AV → Heap → Option ρ) (k0 : Int) :
    xbody (E5 N) ents laws_markText.kp N Go.Proofs.Tryd.f11 laws_markText.bd [.int .i64 (k0)] [] K = (laws_markText.s N (fun d0 => K (.str (d0)) []) (fun k1 outv2 => xloop (xcode (E5 N) ents laws_markText.kp 0 N (cL (cK (cA (cB (cB (cB laws_markText.bd)))))) 0) laws_markText.kp 0 0 N (laws_markText.st0 k1 outv2) (laws_markText.k0 N K)) k0) := by kernel_rfl
theorem laws_markText.eq {ρ : Type} (N : Nat) (K : AV → Heap → Option ρ) (k0 : Int) :
    xbody (E5 N) ents laws_markText.kp N Go.Proofs.Tryd.f11 laws_markText.bd [.int .i64 (k0)] [] K = (laws_markText N (fun d0 => K (.str (d0)) []) k0) := by
  refine (laws_markText.s_eq N K k0).trans ?_
  simp only [laws_markText.l0_eq, laws_markText.a0_0_eq]
  kernel_rfl
def laws_markText.en (N : Nat) (ρ : Type) : List AV → Heap → (AV → Heap → Option ρ) → Option ρ
  | [.int .i64 (k0)], [], K => (laws_markText N (fun d0 => K (.str (d0)) []) k0)
  | _, _, _ => none
theorem laws_markText.en_ok (N : Nat) (hE : EnvOk (E5 N) ents) (ρ : Type) (args : List AV) (sh : Heap) (K : AV → Heap → Option ρ) (r : ρ) (h : laws_markText.en N ρ args sh K = some r) : ∃ v sh', K v sh' = some r ∧ FnOk (E5 N).P 11 args sh v sh' := by
  unfold laws_markText.en at h
  split at h
  · exact fn_ok hE (kp := laws_markText.kp) (N := N) Go.Proofs.Tryd.func11 (c := laws_markText.bd) (by kernel_rfl) ((laws_markText.eq N _ _).trans h)
  · cases h
def E6 (N : Nat) : Env := (E5 N).add 11 (laws_markText.en N)
theorem E6_ok (N : Nat) : EnvOk (E6 N) ents := Env.add_ok (E5_ok N) (laws_markText.en_ok N (E5_ok N))
def laws_markStringS_sw.kp : Keeps := ⟨[(0, [0, 1, 5], [], [])], [(0, [1], [], [])], []⟩
def laws_markStringS_sw.bd : Code := bodyOf Go.Proofs.Tryd.f7
def laws_markStringS_sw.fin {ρ : Type} (N : Nat) (K : AV → Heap → Option ρ) (gv2 : Nat → ByteArray) : XE → St → Option ρ := finK (E6 N) laws_markStringS_sw.kp.fins Go.Proofs.Tryd.f7 [⟨true, .flat 0 (.strs gv2)⟩] K
def laws_markStringS_sw.k0 {ρ : Type} (N : Nat) (K : AV → Heap → Option ρ) (gv2 : Nat → ByteArray) : XE → St → Option ρ := (blockK laws_markStringS_sw.kp 1 0 (seqK (xcode (E6 N) ents laws_markStringS_sw.kp 1 N (cB (cB laws_markStringS_sw.bd)) 0) (laws_markStringS_sw.fin N K gv2)))
theorem laws_markStringS_sw.k0_mix {ρ : Type} (N : Nat) (K : AV → Heap → Option ρ) (gv2 : Nat → ByteArray) : mixK (laws_markStringS_sw.fin N K gv2 .ret) (laws_markStringS_sw.k0 N K gv2) = (laws_markStringS_sw.k0 N K gv2) := by
  funext e s; cases e <;> kernel_rfl
def laws_markStringS_sw.st0 (av0 : Nat) (k3 : Int) (i4 : Int) (gv5 : Nat → ByteArray) : St := ⟨sl 20 [(0, .slice true 0 0 av0 .whole 1), (1, .int .i64 (k3)), (5, .int .i64 (i4))], [⟨true, .flat 0 (.strs gv5)⟩]⟩
def laws_markStringS_sw.sx0_0 (ov7 : Int) (ov8 : Nat → ByteArray) : St := ⟨sl 20 [(1, .int .i64 (ov7))], [⟨true, .flat 0 (.strs ov8)⟩]⟩
theorem laws_markStringS_sw.b0_gen {ρ : Type} (N : Nat) (K : AV → Heap → Option ρ) (L0 : St → Option ρ) (kv : XE → St → Option ρ) (av0 : Nat) (gv2 : Nat → ByteArray) (k3 : Int) (i4 : Int) (gv5 : Nat → ByteArray) :
    xcode (E6 N) ents laws_markStringS_sw.kp 1 N (cL (cK (cB (cA (cB laws_markStringS_sw.bd))))) 0 (laws_markStringS_sw.st0 av0 k3 i4 gv5) (roundK laws_markStringS_sw.kp 1 0 L0 (mixK (laws_markStringS_sw.fin N K gv2 .ret) kv)) = (laws_markStringS_sw.b0 N (fun d0 d1 => K (.int .i64 (d0)) [⟨true, .flat 0 (.strs d1)⟩]) (fun k3 i4 gv5 => L0 (laws_markStringS_sw.st0 av0 k3 i4 gv5)) (fun ov7 ov8 => kv (.exit 0) (laws_markStringS_sw.sx0_0 ov7 ov8)) av0 k3 i4 gv5) := by kernel_rfl
theorem laws_markStringS_sw.b0_eq {ρ : Type} (N : Nat) (K : AV → Heap → Option ρ) (L0 : St → Option ρ) (av0 : Nat) (gv2 : Nat → ByteArray) (k3 : Int) (i4 : Int) (gv5 : Nat → ByteArray) :
    xcode (E6 N) ents laws_markStringS_sw.kp 1 N (cL (cK (cB (cA (cB laws_markStringS_sw.bd))))) 0 (laws_markStringS_sw.st0 av0 k3 i4 gv5) (roundK laws_markStringS_sw.kp 1 0 L0 (laws_markStringS_sw.k0 N K gv2)) = (laws_markStringS_sw.b0 N (fun d0 d1 => K (.int .i64 (d0)) [⟨true, .flat 0 (.strs d1)⟩]) (fun k3 i4 gv5 => L0 (laws_markStringS_sw.st0 av0 k3 i4 gv5)) (fun ov7 ov8 => (laws_markStringS_sw.k0 N K gv2) (.exit 0) (laws_markStringS_sw.sx0_0 ov7 ov8)) av0 k3 i4 gv5) := by
  have h := laws_markStringS_sw.b0_gen N K L0 (laws_markStringS_sw.k0 N K gv2) av0 gv2 k3 i4 gv5
  rw [laws_markStringS_sw.k0_mix] at h
  exact h
theorem laws_markStringS_sw.a0_0_eq {ρ : Type} (N : Nat) (K : AV → Heap → Option ρ) (gv2 : Nat → ByteArray) (ov7 : Int) (ov8 : Nat → ByteArray) :
    (laws_markStringS_sw.k0 N K gv2) (.exit 0) (laws_markStringS_sw.sx0_0 ov7 ov8) = (laws_markStringS_sw.a0_0 N (fun d0 d1 => K (.int .i64 (d0)) [⟨true, .flat 0 (.strs d1)⟩]) ov7 ov8) := by kernel_rfl
theorem laws_markStringS_sw.l0_eq {ρ : Type} (N : Nat) (K : AV → Heap → Option ρ) (av0 : Nat) (gv2 : Nat → ByteArray) :
    ∀ (m : Nat) (k3 : Int) (i4 : Int) (gv5 : Nat → ByteArray), xloop (xcode (E6 N) ents laws_markStringS_sw.kp 1 N (cL (cK (cB (cA (cB laws_markStringS_sw.bd))))) 0) laws_markStringS_sw.kp 1 0 m (laws_markStringS_sw.st0 av0 k3 i4 gv5) (laws_markStringS_sw.k0 N K gv2) = (laws_markStringS_sw.l0 N (fun d0 d1 => K (.int .i64 (d0)) [⟨true, .flat 0 (.strs d1)⟩]) av0 (fun ov7 ov8 => (laws_markStringS_sw.k0 N K gv2) (.exit 0) (laws_markStringS_sw.sx0_0 ov7 ov8)) m k3 i4 gv5) := by
  intro m
  induction m with
  | zero => intros; rfl
  | succ m ih =>
    intro k3 i4 gv5
    refine (laws_markStringS_sw.b0_eq N K (fun s => xloop (xcode (E6 N) ents laws_markStringS_sw.kp 1 N (cL (cK (cB (cA (cB laws_markStringS_sw.bd))))) 0) laws_markStringS_sw.kp 1 0 m s (laws_markStringS_sw.k0 N K gv2)) av0 gv2 k3 i4 gv5).trans ?_
    simp only [ih]
    kernel_rfl
theorem laws_markStringS_sw.s_eq {ρ : Type} (N : Nat) (K : AV → Heap → Option ρ) (av0 : Nat) (k1 : Int) (gv2 : Nat → ByteArray) :
    xbody (E6 N) ents laws_markStringS_sw.kp N Go.Proofs.Tryd.f7 laws_markStringS_sw.bd [.slice true 0 0 av0 .whole 1, .int .i64 (k1)] [⟨true, .flat 0 (.strs gv2)⟩] K = (laws_markStringS_sw.s N (fun d0 d1 => K (.int .i64 (d0)) [⟨true, .flat 0 (.strs d1)⟩]) (fun k3 i4 gv5 => xloop (xcode (E6 N) ents laws_markStringS_sw.kp 1 N (cL (cK (cB (cA (cB laws_markStringS_sw.bd))))) 0) laws_markStringS_sw.kp 1 0 N (laws_markStringS_sw.st0 av0 k3 i4 gv5) (laws_markStringS_sw.k0 N K gv2)) k1 gv2) := by kernel_rfl
theorem laws_markStringS_sw.eq {ρ : Type} (N : Nat) (K : AV → Heap → Option ρ) (av0 : Nat) (k1 : Int) (gv2 : Nat → ByteArray) :
    xbody (E6 N) ents laws_markStringS_sw.kp N Go.Proofs.Tryd.f7 laws_markStringS_sw.bd [.slice true 0 0 av0 .whole 1, .int .i64 (k1)] [⟨true, .flat 0 (.strs gv2)⟩] K = (laws_markStringS_sw N (fun d0 d1 => K (.int .i64 (d0)) [⟨true, .flat 0 (.strs d1)⟩]) av0 k1 gv2) := by
  refine (laws_markStringS_sw.s_eq N K av0 k1 gv2).trans ?_
  simp only [laws_markStringS_sw.l0_eq, laws_markStringS_sw.a0_0_eq]
  kernel_rfl
def laws_markStringS_sw.en (N : Nat) (ρ : Type) : List AV → Heap → (AV → Heap → Option ρ) → Option ρ
  | [.slice true 0 0 av0 .whole 1, .int .i64 (k1)], [⟨true, .flat 0 (.strs gv2)⟩], K => (laws_markStringS_sw N (fun d0 d1 => K (.int .i64 (d0)) [⟨true, .flat 0 (.strs d1)⟩]) av0 k1 gv2)
  | _, _, _ => none
theorem laws_markStringS_sw.en_ok (N : Nat) (hE : EnvOk (E6 N) ents) (ρ : Type) (args : List AV) (sh : Heap) (K : AV → Heap → Option ρ) (r : ρ) (h : laws_markStringS_sw.en N ρ args sh K = some r) : ∃ v sh', K v sh' = some r ∧ FnOk (E6 N).P 7 args sh v sh' := by
  unfold laws_markStringS_sw.en at h
  split at h
  · exact fn_ok hE (kp := laws_markStringS_sw.kp) (N := N) Go.Proofs.Tryd.func7 (c := laws_markStringS_sw.bd) (by kernel_rfl) ((laws_markStringS_sw.eq N _ _ _ _).trans h)
  · cases h
def E7 (N : Nat) : Env := (E6 N).add 7 (laws_markStringS_sw.en N)
theorem E7_ok (N : Nat) : EnvOk (E7 N) ents := Env.add_ok (E6_ok N) (laws_markStringS_sw.en_ok N (E6_ok N))
def laws_heldStringS_su.kp : Keeps := ⟨[(0, [0, 1, 5], [], [])], [(0, [1], [], [])], []⟩
def laws_heldStringS_su.bd : Code := bodyOf Go.Proofs.Tryd.f8
def laws_heldStringS_su.fin {ρ : Type} (N : Nat) (K : AV → Heap → Option ρ) (gv2 : Nat) (gv3 : Nat → ByteArray) : XE → St → Option ρ := finK (E7 N) laws_heldStringS_su.kp.fins Go.Proofs.Tryd.f8 [⟨false, .flat gv2 (.strs gv3)⟩] K
def laws_heldStringS_su.k0 {ρ : Type} (N : Nat) (K : AV → Heap → Option ρ) (gv2 : Nat) (gv3 : Nat → ByteArray) : XE → St → Option ρ := (blockK laws_heldStringS_su.kp 1 0 (seqK (xcode (E7 N) ents laws_heldStringS_su.kp 1 N (cB (cB laws_heldStringS_su.bd)) 0) (laws_heldStringS_su.fin N K gv2 gv3)))
theorem laws_heldStringS_su.k0_mix {ρ : Type} (N : Nat) (K : AV → Heap → Option ρ) (gv2 : Nat) (gv3 : Nat → ByteArray) : mixK (laws_heldStringS_su.fin N K gv2 gv3 .ret) (laws_heldStringS_su.k0 N K gv2 gv3) = (laws_heldStringS_su.k0 N K gv2 gv3) := by
  funext e s; cases e <;> kernel_rfl
def laws_heldStringS_su.st0 (av0 : Nat) (gv2 : Nat) (gv3 : Nat → ByteArray) (k4 : Int) (i5 : Int) : St := ⟨sl 22 [(0, .slice true 0 0 av0 .unk 1), (1, .int .i64 (k4)), (5, .int .i64 (i5))], [⟨false, .flat gv2 (.strs gv3)⟩]⟩
def laws_heldStringS_su.sx0_0 (gv2 : Nat) (gv3 : Nat → ByteArray) (ov7 : Int) : St := ⟨sl 22 [(1, .int .i64 (ov7))], [⟨false, .flat gv2 (.strs gv3)⟩]⟩
theorem laws_heldStringS_su.b0_gen {ρ : Type} (N : Nat) (K : AV → Heap → Option ρ) (L0 : St → Option ρ) (kv : XE → St → Option ρ) (av0 : Nat) (gv2 : Nat) (gv3 : Nat → ByteArray) (k4 : Int) (i5 : Int) :
    xcode (E7 N) ents laws_heldStringS_su.kp 1 N (cL (cK (cB (cA (cB laws_heldStringS_su.bd))))) 0 (laws_heldStringS_su.st0 av0 gv2 gv3 k4 i5) (roundK laws_heldStringS_su.kp 1 0 L0 (mixK (laws_heldStringS_su.fin N K gv2 gv3 .ret) kv)) = (laws_heldStringS_su.b0 N (fun d0 => K (.int .i64 (d0)) [⟨false, .flat gv2 (.strs gv3)⟩]) (fun k4 i5 => L0 (laws_heldStringS_su.st0 av0 gv2 gv3 k4 i5)) (fun ov7 => kv (.exit 0) (laws_heldStringS_su.sx0_0 gv2 gv3 ov7)) av0 gv3 k4 i5) := by kernel_rfl
theorem laws_heldStringS_su.b0_eq {ρ : Type} (N : Nat) (K : AV → Heap → Option ρ) (L0 : St → Option ρ) (av0 : Nat) (gv2 : Nat) (gv3 : Nat → ByteArray) (k4 : Int) (i5 : Int) :
    xcode (E7 N) ents laws_heldStringS_su.kp 1 N (cL (cK (cB (cA (cB laws_heldStringS_su.bd))))) 0 (laws_heldStringS_su.st0 av0 gv2 gv3 k4 i5) (roundK laws_heldStringS_su.kp 1 0 L0 (laws_heldStringS_su.k0 N K gv2 gv3)) = (laws_heldStringS_su.b0 N (fun d0 => K (.int .i64 (d0)) [⟨false, .flat gv2 (.strs gv3)⟩]) (fun k4 i5 => L0 (laws_heldStringS_su.st0 av0 gv2 gv3 k4 i5)) (fun ov7 => (laws_heldStringS_su.k0 N K gv2 gv3) (.exit 0) (laws_heldStringS_su.sx0_0 gv2 gv3 ov7)) av0 gv3 k4 i5) := by
  have h := laws_heldStringS_su.b0_gen N K L0 (laws_heldStringS_su.k0 N K gv2 gv3) av0 gv2 gv3 k4 i5
  rw [laws_heldStringS_su.k0_mix] at h
  exact h
theorem laws_heldStringS_su.a0_0_eq {ρ : Type} (N : Nat) (K : AV → Heap → Option ρ) (gv2 : Nat) (gv3 : Nat → ByteArray) (ov7 : Int) :
    (laws_heldStringS_su.k0 N K gv2 gv3) (.exit 0) (laws_heldStringS_su.sx0_0 gv2 gv3 ov7) = (laws_heldStringS_su.a0_0 N (fun d0 => K (.int .i64 (d0)) [⟨false, .flat gv2 (.strs gv3)⟩]) ov7) := by kernel_rfl
theorem laws_heldStringS_su.l0_eq {ρ : Type} (N : Nat) (K : AV → Heap → Option ρ) (av0 : Nat) (gv2 : Nat) (gv3 : Nat → ByteArray) :
    ∀ (m : Nat) (k4 : Int) (i5 : Int), xloop (xcode (E7 N) ents laws_heldStringS_su.kp 1 N (cL (cK (cB (cA (cB laws_heldStringS_su.bd))))) 0) laws_heldStringS_su.kp 1 0 m (laws_heldStringS_su.st0 av0 gv2 gv3 k4 i5) (laws_heldStringS_su.k0 N K gv2 gv3) = (laws_heldStringS_su.l0 N (fun d0 => K (.int .i64 (d0)) [⟨false, .flat gv2 (.strs gv3)⟩]) av0 gv3 (fun ov7 => (laws_heldStringS_su.k0 N K gv2 gv3) (.exit 0) (laws_heldStringS_su.sx0_0 gv2 gv3 ov7)) m k4 i5) := by
  intro m
  induction m with
  | zero => intros; rfl
  | succ m ih =>
    intro k4 i5
    refine (laws_heldStringS_su.b0_eq N K (fun s => xloop (xcode (E7 N) ents laws_heldStringS_su.kp 1 N (cL (cK (cB (cA (cB laws_heldStringS_su.bd))))) 0) laws_heldStringS_su.kp 1 0 m s (laws_heldStringS_su.k0 N K gv2 gv3)) av0 gv2 gv3 k4 i5).trans ?_
    simp only [ih]
    kernel_rfl
theorem laws_heldStringS_su.s_eq {ρ : Type} (N : Nat) (K : AV → Heap → Option ρ) (av0 : Nat) (k1 : Int) (gv2 : Nat) (gv3 : Nat → ByteArray) :
    xbody (E7 N) ents laws_heldStringS_su.kp N Go.Proofs.Tryd.f8 laws_heldStringS_su.bd [.slice true 0 0 av0 .unk 1, .int .i64 (k1)] [⟨false, .flat gv2 (.strs gv3)⟩] K = (laws_heldStringS_su.s N (fun d0 => K (.int .i64 (d0)) [⟨false, .flat gv2 (.strs gv3)⟩]) (fun k4 i5 => xloop (xcode (E7 N) ents laws_heldStringS_su.kp 1 N (cL (cK (cB (cA (cB laws_heldStringS_su.bd))))) 0) laws_heldStringS_su.kp 1 0 N (laws_heldStringS_su.st0 av0 gv2 gv3 k4 i5) (laws_heldStringS_su.k0 N K gv2 gv3)) k1) := by kernel_rfl
theorem laws_heldStringS_su.eq {ρ : Type} (N : Nat) (K : AV → Heap → Option ρ) (av0 : Nat) (k1 : Int) (gv2 : Nat) (gv3 : Nat → ByteArray) :
    xbody (E7 N) ents laws_heldStringS_su.kp N Go.Proofs.Tryd.f8 laws_heldStringS_su.bd [.slice true 0 0 av0 .unk 1, .int .i64 (k1)] [⟨false, .flat gv2 (.strs gv3)⟩] K = (laws_heldStringS_su N (fun d0 => K (.int .i64 (d0)) [⟨false, .flat gv2 (.strs gv3)⟩]) av0 k1 gv2 gv3) := by
  refine (laws_heldStringS_su.s_eq N K av0 k1 gv2 gv3).trans ?_
  simp only [laws_heldStringS_su.l0_eq, laws_heldStringS_su.a0_0_eq]
  kernel_rfl
def laws_heldStringS_su.en (N : Nat) (ρ : Type) : List AV → Heap → (AV → Heap → Option ρ) → Option ρ
  | [.slice true 0 0 av0 .unk 1, .int .i64 (k1)], [⟨false, .flat gv2 (.strs gv3)⟩], K => (laws_heldStringS_su N (fun d0 => K (.int .i64 (d0)) [⟨false, .flat gv2 (.strs gv3)⟩]) av0 k1 gv2 gv3)
  | _, _, _ => none
theorem laws_heldStringS_su.en_ok (N : Nat) (hE : EnvOk (E7 N) ents) (ρ : Type) (args : List AV) (sh : Heap) (K : AV → Heap → Option ρ) (r : ρ) (h : laws_heldStringS_su.en N ρ args sh K = some r) : ∃ v sh', K v sh' = some r ∧ FnOk (E7 N).P 8 args sh v sh' := by
  unfold laws_heldStringS_su.en at h
  split at h
  · exact fn_ok hE (kp := laws_heldStringS_su.kp) (N := N) Go.Proofs.Tryd.func8 (c := laws_heldStringS_su.bd) (by kernel_rfl) ((laws_heldStringS_su.eq N _ _ _ _ _).trans h)
  · cases h
def E8 (N : Nat) : Env := (E7 N).add 8 (laws_heldStringS_su.en N)
theorem E8_ok (N : Nat) : EnvOk (E8 N) ents := Env.add_ok (E7_ok N) (laws_heldStringS_su.en_ok N (E7_ok N))
def laws_FnExactKnownNames.kp : Keeps := ⟨[], [], []⟩
def laws_FnExactKnownNames.bd : Code := bodyOf Go.Proofs.Tryd.f3
def laws_FnExactKnownNames.fin {ρ : Type} (N : Nat) (K : AV → Heap → Option ρ) : XE → St → Option ρ := finK (E8 N) laws_FnExactKnownNames.kp.fins Go.Proofs.Tryd.f3 [] K
theorem laws_FnExactKnownNames.eq {ρ : Type} (N : Nat) (K : AV → Heap → Option ρ) :
    xbody (E8 N) ents laws_FnExactKnownNames.kp N Go.Proofs.Tryd.f3 laws_FnExactKnownNames.bd [] [] K = (laws_FnExactKnownNames N (fun d0 => K (.bool (d0)) [])) := by kernel_rfl
def laws_FnExactKnownNames.en (N : Nat) (ρ : Type) : List AV → Heap → (AV → Heap → Option ρ) → Option ρ
  | [], [], K => (laws_FnExactKnownNames N (fun d0 => K (.bool (d0)) []))
  | _, _, _ => none
theorem laws_FnExactKnownNames.en_ok (N : Nat) (hE : EnvOk (E8 N) ents) (ρ : Type) (args : List AV) (sh : Heap) (K : AV → Heap → Option ρ) (r : ρ) (h : laws_FnExactKnownNames.en N ρ args sh K = some r) : ∃ v sh', K v sh' = some r ∧ FnOk (E8 N).P 3 args sh v sh' := by
  unfold laws_FnExactKnownNames.en at h
  split at h
  · exact fn_ok hE (kp := laws_FnExactKnownNames.kp) (N := N) Go.Proofs.Tryd.func3 (c := laws_FnExactKnownNames.bd) (by kernel_rfl) ((laws_FnExactKnownNames.eq N _ ).trans h)
  · cases h
def E9 (N : Nat) : Env := (E8 N).add 3 (laws_FnExactKnownNames.en N)
theorem E9_ok (N : Nat) : EnvOk (E9 N) ents := Env.add_ok (E8_ok N) (laws_FnExactKnownNames.en_ok N (E8_ok N))
end
end Go.Proofs.YtcdogefmbenplaaDoor.H
