import Derived.Test.YtoeailachidcdaaGreatDoorHP0
import Derived.Test.YtoeailachidcdaaGreatDoorChecked
import Derived.KernelRfl
import Derived.Test.YtoeailachidcdaaGreatDoorHCon
namespace Go.Proofs.YtoeailachidcdaaGreatDoor.H
noncomputable section
set_option linter.unusedVariables false
set_option linter.unusedSimpArgs false
set_option linter.unusedSectionVars false
open Go Go.RowKit Go.Proofs.YtoeailachidcdaaGreatDoor.Hg
set_option maxRecDepth 100000
def lays : List Lay := [.other, .func, .int .i64, .int .i64, .bool, .int .u8, .int .u8, .mix [(0, 1, false), (1, 1, false), (2, 1, false), (3, 1, false)] [.int .i64, .int .i64, .bool, .int .u8], .mix [(0, 1, false), (1, 1, false), (2, 1, false), (3, 1, false)] [.int .i64, .int .i64, .bool, .int .u8], .str, .str, .str, .int .u64, .mix [(0, 1, false), (1, 1, false)] [.str, .int .u64], .mix [(0, 1, false), (1, 1, false)] [.str, .int .u64], .ptr, .ptr, .ptr, .other, .other, .other, .int .i32, .slice 5 1 1, .func, .slice 31 8 8, .other, .func, .other, .func, .func, .arr 8 5 1 .u8, .arr 8 5 1 .u8, .other, .func, .other, .func, .other, .func, .other, .func, .func, .ptr, .func, .func, .func, .func, .arr 8 31 8 .u8, .arr 8 31 8 .u8, .arr 8 47 64 .u8, .arr 8 47 64 .u8, .struct [(0, 1, false), (1, 1, false), (2, 8, true), (10, 512, true)] [(.i64, 2), (.u8, 520)], .struct [(0, 1, false), (1, 1, false), (2, 8, true), (10, 512, true)] [(.i64, 2), (.u8, 520)], .func, .func, .func, .func, .func, .func, .func, .func, .func, .func, .other, .func, .slice 9 1 16, .func, .int .u64, .other, .other, .other, .func, .func, .func, .mix [(0, 1, false), (1, 1, false), (2, 1, false)] [.nils, .int .i64, .int .u64], .mix [(0, 1, false), (1, 1, false), (2, 1, false)] [.nils, .int .i64, .int .u64], .int .u64, .slice 2 1 8, .func, .func, .ptr, .func, .slice 22 1 24, .struct [(0, 1, false), (1, 1, false)] [(.i64, 2)], .struct [(0, 1, false), (1, 1, false)] [(.i64, 2)], .slice 3 1 8, .mix [(0, 2, true), (2, 1, false), (3, 1, false), (4, 1, false)] [.run .i64 2, .int .i64, .nils, .nils], .mix [(0, 2, true), (2, 1, false), (3, 1, false), (4, 1, false)] [.run .i64 2, .int .i64, .nils, .nils], .func, .func, .func, .func, .func, .func, .func, .func, .func, .func, .func, .func, .func, .func, .func, .func, .ptr, .other, .other, .func, .other, .func, .func, .func, .func, .int .i64, .func, .func, .ptr, .func, .func, .func, .func, .func, .func, .ptr, .func, .other, .func, .func, .func, .other, .other, .func, .arr 24 5 1 .u8, .func, .func, .other, .func, .other, .func, .func, .func, .ptr, .mix [(0, 1, false)] [.str], .mix [(0, 1, false)] [.str], .func, .arr 20 66 1 .u64, .int .u32, .arr 65 5 1 .u8, .func, .func, .arr 256 5 1 .u8, .struct [(0, 1, false), (1, 1, false)] [(.u8, 2)], .struct [(0, 1, false), (1, 1, false)] [(.u8, 2)], .other, .other, .func, .func, .arr 32 5 1 .u8, .arr 64 5 1 .u8, .other, .other, .other, .other, .other, .func, .int .u8, .int .u8, .func, .int .i32, .int .i32, .other, .other, .func]
def wrs : List (FuncId × List Bool) := [(18, [false, true, true]), (19, [false, true, true]), (20, [false, true, true]), (21, [false, true, true]), (30, [false, true, true]), (31, [false, true, true]), (43, [false, false, true, true, true, true]), (44, [false, true, true]), (62, [false, false, false, false, false, true, true])]
def ents : List FuncId := [3, 4, 5, 6, 7, 8, 9, 10, 11, 12, 13, 14, 15, 16, 17, 18, 19, 20, 21, 22, 23, 24, 25, 26, 27, 28, 29, 30, 31, 32, 33, 34, 35, 36, 37, 38, 39, 40, 41, 42, 43, 44, 45, 46, 47, 48, 49, 50, 51, 55, 56, 57, 58, 59, 60, 61, 62, 63, 64, 78, 79, 80]
def E0 (N : Nat) : Env := env0 Go.Proofs.Tryz.prog lays wrs
theorem E0_ok (N : Nat) : EnvOk (E0 N) ents := env0_ok (by kernel_rfl) (by kernel_rfl) (by kernel_rfl)
def laws_big_su.kp : Keeps := ⟨[], [], []⟩
def laws_big_su.bd : Code := bodyOf Go.Proofs.Tryz.f4
def laws_big_su.fin {ρ : Type} (N : Nat) (K : AV → Heap → Option ρ) (gv1 : Nat) (gv2 : Nat → Int) : XE → St → Option ρ := finK (E0 N) laws_big_su.kp.fins Go.Proofs.Tryz.f4 [⟨false, .flat gv1 (.ints .u8 gv2)⟩] K
theorem laws_big_su.eqb {ρ : Type} (N : Nat) (K : AV → Heap → Option ρ) (code0 : Nat) (gv1 : Nat) (gv2 : Nat → Int) :
    xbody (E0 N) ents laws_big_su.kp N Go.Proofs.Tryz.f4 laws_big_su.bd [.slice false 0 0 code0 .unk 1] [⟨false, .flat gv1 (.ints .u8 gv2)⟩] K = (laws_big_su.bdy N (fun d0 => K (.bool (d0)) [⟨false, .flat gv1 (.ints .u8 gv2)⟩]) code0 gv1 gv2) := by kernel_rfl
theorem laws_big_su.eq {ρ : Type} (N : Nat) (K : AV → Heap → Option ρ) (code0 : Nat) (gv1 : Nat) (gv2 : Nat → Int) :
    xbody (E0 N) ents laws_big_su.kp N Go.Proofs.Tryz.f4 laws_big_su.bd [.slice false 0 0 code0 .unk 1] [⟨false, .flat gv1 (.ints .u8 gv2)⟩] K = (laws_big_su N (fun d0 => K (.bool (d0)) [⟨false, .flat gv1 (.ints .u8 gv2)⟩]) code0 gv1 gv2) :=
  (laws_big_su.eqb N K code0 gv1 gv2).trans (laws_big_su.opq _ _ _ _ _).symm
def laws_big_su.en (N : Nat) (ρ : Type) : List AV → Heap → (AV → Heap → Option ρ) → Option ρ
  | [.slice false 0 0 code0 .unk 1], [⟨false, .flat gv1 (.ints .u8 gv2)⟩], K => (laws_big_su N (fun d0 => K (.bool (d0)) [⟨false, .flat gv1 (.ints .u8 gv2)⟩]) code0 gv1 gv2)
  | _, _, _ => none
theorem laws_big_su.en_ok (N : Nat) (hE : EnvOk (E0 N) ents) (ρ : Type) (args : List AV) (sh : Heap) (K : AV → Heap → Option ρ) (r : ρ) (h : laws_big_su.en N ρ args sh K = some r) : ∃ v sh', K v sh' = some r ∧ FnOk (E0 N).P 4 args sh v sh' := by
  unfold laws_big_su.en at h
  split at h
  · exact fn_ok hE (kp := laws_big_su.kp) (N := N) Go.Proofs.Tryz.func4 (c := laws_big_su.bd) (by kernel_rfl) ((laws_big_su.eq N _ _ _ _).trans h)
  · cases h
def E1 (N : Nat) : Env := (E0 N).add 4 (laws_big_su.en N)
theorem E1_ok (N : Nat) : EnvOk (E1 N) ents := Env.add_ok (E0_ok N) (laws_big_su.en_ok N (E0_ok N))
def spec_l01From_su.kp : Keeps := ⟨[(0, [0, 3, 4], [], [])], [(0, [3], [], [])], []⟩
def spec_l01From_su.bd : Code := bodyOf Go.Proofs.Tryz.f17
def spec_l01From_su.fin {ρ : Type} (N : Nat) (K : AV → Heap → Option ρ) (gv1 : Nat) (gv2 : Nat → Int) : XE → St → Option ρ := finK (E1 N) spec_l01From_su.kp.fins Go.Proofs.Tryz.f17 [⟨false, .flat gv1 (.ints .u8 gv2)⟩] K
def spec_l01From_su.k0 {ρ : Type} (N : Nat) (K : AV → Heap → Option ρ) (gv1 : Nat) (gv2 : Nat → Int) : XE → St → Option ρ := (blockK spec_l01From_su.kp 1 0 (seqK (xcode (E1 N) ents spec_l01From_su.kp 1 N (cB (cB (cB spec_l01From_su.bd))) 0) (spec_l01From_su.fin N K gv1 gv2)))
theorem spec_l01From_su.k0_mix {ρ : Type} (N : Nat) (K : AV → Heap → Option ρ) (gv1 : Nat) (gv2 : Nat → Int) : mixK (spec_l01From_su.fin N K gv1 gv2 .ret) (spec_l01From_su.k0 N K gv1 gv2) = (spec_l01From_su.k0 N K gv1 gv2) := by
  funext e s; cases e <;> kernel_rfl
def spec_l01From_su.st0 (code0 : Nat) (gv1 : Nat) (gv2 : Nat → Int) (i3 : Int) (gv4 : Nat → Int) : St := ⟨sl 38 [(0, .slice false 0 0 code0 .unk 1), (3, .sptr [(1, 1), (2, 1), (3, 1)]), (4, .int .i64 (i3))], [⟨false, .flat gv1 (.ints .u8 gv2)⟩, ⟨true, .avs [.slice false 0 0 code0 .unk 1]⟩, ⟨true, .flat 1 (.ints .i64 (fun _ => 0))⟩, ⟨true, .flat 1 (.ints .u64 gv4)⟩]⟩
def spec_l01From_su.sx0_0 (code0 : Nat) (gv1 : Nat) (gv2 : Nat → Int) (ov5 : Nat → Int) : St := ⟨sl 38 [(3, .sptr [(1, 1), (2, 1), (3, 1)])], [⟨false, .flat gv1 (.ints .u8 gv2)⟩, ⟨true, .avs [.slice false 0 0 code0 .unk 1]⟩, ⟨true, .flat 1 (.ints .i64 (fun _ => 0))⟩, ⟨true, .flat 1 (.ints .u64 ov5)⟩]⟩
theorem spec_l01From_su.b0_gen {ρ : Type} (N : Nat) (K : AV → Heap → Option ρ) (L0 : St → Option ρ) (kv : XE → St → Option ρ) (code0 : Nat) (gv1 : Nat) (gv2 : Nat → Int) (i3 : Int) (gv4 : Nat → Int) :
    xcode (E1 N) ents spec_l01From_su.kp 1 N (cL (cK (cB (cA (cB (cB spec_l01From_su.bd)))))) 0 (spec_l01From_su.st0 code0 gv1 gv2 i3 gv4) (roundK spec_l01From_su.kp 1 0 L0 (mixK (spec_l01From_su.fin N K gv1 gv2 .ret) kv)) = (spec_l01From_su.b0 N (fun d0 d1 d2 => K (.sptr [(1, 1), (2, 1), (3, 1)]) [⟨false, .flat gv1 (.ints .u8 gv2)⟩, ⟨true, .avs [.slice false 0 0 d0 .unk 1]⟩, ⟨true, .flat 1 (.ints .i64 d1)⟩, ⟨true, .flat 1 (.ints .u64 d2)⟩]) (fun i3 gv4 => L0 (spec_l01From_su.st0 code0 gv1 gv2 i3 gv4)) (fun ov5 => kv (.exit 0) (spec_l01From_su.sx0_0 code0 gv1 gv2 ov5)) code0 gv2 i3 gv4) := by kernel_rfl
theorem spec_l01From_su.b0_eq {ρ : Type} (N : Nat) (K : AV → Heap → Option ρ) (L0 : St → Option ρ) (code0 : Nat) (gv1 : Nat) (gv2 : Nat → Int) (i3 : Int) (gv4 : Nat → Int) :
    xcode (E1 N) ents spec_l01From_su.kp 1 N (cL (cK (cB (cA (cB (cB spec_l01From_su.bd)))))) 0 (spec_l01From_su.st0 code0 gv1 gv2 i3 gv4) (roundK spec_l01From_su.kp 1 0 L0 (spec_l01From_su.k0 N K gv1 gv2)) = (spec_l01From_su.b0 N (fun d0 d1 d2 => K (.sptr [(1, 1), (2, 1), (3, 1)]) [⟨false, .flat gv1 (.ints .u8 gv2)⟩, ⟨true, .avs [.slice false 0 0 d0 .unk 1]⟩, ⟨true, .flat 1 (.ints .i64 d1)⟩, ⟨true, .flat 1 (.ints .u64 d2)⟩]) (fun i3 gv4 => L0 (spec_l01From_su.st0 code0 gv1 gv2 i3 gv4)) (fun ov5 => (spec_l01From_su.k0 N K gv1 gv2) (.exit 0) (spec_l01From_su.sx0_0 code0 gv1 gv2 ov5)) code0 gv2 i3 gv4) := by
  have h := spec_l01From_su.b0_gen N K L0 (spec_l01From_su.k0 N K gv1 gv2) code0 gv1 gv2 i3 gv4
  rw [spec_l01From_su.k0_mix] at h
  exact h
theorem spec_l01From_su.a0_0_eq {ρ : Type} (N : Nat) (K : AV → Heap → Option ρ) (code0 : Nat) (gv1 : Nat) (gv2 : Nat → Int) (ov5 : Nat → Int) :
    (spec_l01From_su.k0 N K gv1 gv2) (.exit 0) (spec_l01From_su.sx0_0 code0 gv1 gv2 ov5) = (spec_l01From_su.a0_0 N (fun d0 d1 d2 => K (.sptr [(1, 1), (2, 1), (3, 1)]) [⟨false, .flat gv1 (.ints .u8 gv2)⟩, ⟨true, .avs [.slice false 0 0 d0 .unk 1]⟩, ⟨true, .flat 1 (.ints .i64 d1)⟩, ⟨true, .flat 1 (.ints .u64 d2)⟩]) code0 ov5) := by kernel_rfl
theorem spec_l01From_su.l0_eq {ρ : Type} (N : Nat) (K : AV → Heap → Option ρ) (code0 : Nat) (gv1 : Nat) (gv2 : Nat → Int) :
    ∀ (m : Nat) (i3 : Int) (gv4 : Nat → Int), xloop (xcode (E1 N) ents spec_l01From_su.kp 1 N (cL (cK (cB (cA (cB (cB spec_l01From_su.bd)))))) 0) spec_l01From_su.kp 1 0 m (spec_l01From_su.st0 code0 gv1 gv2 i3 gv4) (spec_l01From_su.k0 N K gv1 gv2) = (spec_l01From_su.l0 N (fun d0 d1 d2 => K (.sptr [(1, 1), (2, 1), (3, 1)]) [⟨false, .flat gv1 (.ints .u8 gv2)⟩, ⟨true, .avs [.slice false 0 0 d0 .unk 1]⟩, ⟨true, .flat 1 (.ints .i64 d1)⟩, ⟨true, .flat 1 (.ints .u64 d2)⟩]) code0 gv2 (fun ov5 => (spec_l01From_su.k0 N K gv1 gv2) (.exit 0) (spec_l01From_su.sx0_0 code0 gv1 gv2 ov5)) m i3 gv4) := by
  intro m
  induction m with
  | zero => intros; rfl
  | succ m ih =>
    intro i3 gv4
    refine (spec_l01From_su.b0_eq N K (fun s => xloop (xcode (E1 N) ents spec_l01From_su.kp 1 N (cL (cK (cB (cA (cB (cB spec_l01From_su.bd)))))) 0) spec_l01From_su.kp 1 0 m s (spec_l01From_su.k0 N K gv1 gv2)) code0 gv1 gv2 i3 gv4).trans ?_
    simp only [ih]
    kernel_rfl
theorem spec_l01From_su.s_eq {ρ : Type} (N : Nat) (K : AV → Heap → Option ρ) (code0 : Nat) (gv1 : Nat) (gv2 : Nat → Int) :
    xbody (E1 N) ents spec_l01From_su.kp N Go.Proofs.Tryz.f17 spec_l01From_su.bd [.slice false 0 0 code0 .unk 1] [⟨false, .flat gv1 (.ints .u8 gv2)⟩] K = (spec_l01From_su.s N (fun d0 d1 d2 => K (.sptr [(1, 1), (2, 1), (3, 1)]) [⟨false, .flat gv1 (.ints .u8 gv2)⟩, ⟨true, .avs [.slice false 0 0 d0 .unk 1]⟩, ⟨true, .flat 1 (.ints .i64 d1)⟩, ⟨true, .flat 1 (.ints .u64 d2)⟩]) (fun i3 gv4 => xloop (xcode (E1 N) ents spec_l01From_su.kp 1 N (cL (cK (cB (cA (cB (cB spec_l01From_su.bd)))))) 0) spec_l01From_su.kp 1 0 N (spec_l01From_su.st0 code0 gv1 gv2 i3 gv4) (spec_l01From_su.k0 N K gv1 gv2)) code0) := by kernel_rfl
theorem spec_l01From_su.eq {ρ : Type} (N : Nat) (K : AV → Heap → Option ρ) (code0 : Nat) (gv1 : Nat) (gv2 : Nat → Int) :
    xbody (E1 N) ents spec_l01From_su.kp N Go.Proofs.Tryz.f17 spec_l01From_su.bd [.slice false 0 0 code0 .unk 1] [⟨false, .flat gv1 (.ints .u8 gv2)⟩] K = (spec_l01From_su N (fun d0 d1 d2 => K (.sptr [(1, 1), (2, 1), (3, 1)]) [⟨false, .flat gv1 (.ints .u8 gv2)⟩, ⟨true, .avs [.slice false 0 0 d0 .unk 1]⟩, ⟨true, .flat 1 (.ints .i64 d1)⟩, ⟨true, .flat 1 (.ints .u64 d2)⟩]) code0 gv1 gv2) := by
  refine (spec_l01From_su.s_eq N K code0 gv1 gv2).trans ?_
  simp only [spec_l01From_su.l0_eq, spec_l01From_su.a0_0_eq]
  kernel_rfl
def spec_l01From_su.en (N : Nat) (ρ : Type) : List AV → Heap → (AV → Heap → Option ρ) → Option ρ
  | [.slice false 0 0 code0 .unk 1], [⟨false, .flat gv1 (.ints .u8 gv2)⟩], K => (spec_l01From_su N (fun d0 d1 d2 => K (.sptr [(1, 1), (2, 1), (3, 1)]) [⟨false, .flat gv1 (.ints .u8 gv2)⟩, ⟨true, .avs [.slice false 0 0 d0 .unk 1]⟩, ⟨true, .flat 1 (.ints .i64 d1)⟩, ⟨true, .flat 1 (.ints .u64 d2)⟩]) code0 gv1 gv2)
  | _, _, _ => none
theorem spec_l01From_su.en_ok (N : Nat) (hE : EnvOk (E1 N) ents) (ρ : Type) (args : List AV) (sh : Heap) (K : AV → Heap → Option ρ) (r : ρ) (h : spec_l01From_su.en N ρ args sh K = some r) : ∃ v sh', K v sh' = some r ∧ FnOk (E1 N).P 17 args sh v sh' := by
  unfold spec_l01From_su.en at h
  split at h
  · exact fn_ok hE (kp := spec_l01From_su.kp) (N := N) Go.Proofs.Tryz.func17 (c := spec_l01From_su.bd) (by kernel_rfl) ((spec_l01From_su.eq N _ _ _ _).trans h)
  · cases h
def E2 (N : Nat) : Env := (E1 N).add 17 (spec_l01From_su.en N)
theorem E2_ok (N : Nat) : EnvOk (E2 N) ents := Env.add_ok (E1_ok N) (spec_l01From_su.en_ok N (E1_ok N))
def spec_l01Next.kp : Keeps := ⟨[], [], []⟩
def spec_l01Next.bd : Code := bodyOf Go.Proofs.Tryz.f19
def spec_l01Next.fin {ρ : Type} (N : Nat) (K : AV → Heap → Option ρ) (gv1 : Nat) (gv2 : Nat → Int) (gv3 : Nat → Int) (gv4 : Nat) (gv5 : Nat → Int) : XE → St → Option ρ := finK (E2 N) spec_l01Next.kp.fins Go.Proofs.Tryz.f19 [⟨false, .avs [.slice false 3 0 gv1 .unk 1]⟩, ⟨true, .flat 1 (.ints .i64 gv2)⟩, ⟨true, .flat 1 (.ints .u64 gv3)⟩, ⟨false, .flat gv4 (.ints .u8 gv5)⟩] K
theorem spec_l01Next.eqb {ρ : Type} (N : Nat) (K : AV → Heap → Option ρ) (nv0 : Int) (gv1 : Nat) (gv2 : Nat → Int) (gv3 : Nat → Int) (gv4 : Nat) (gv5 : Nat → Int) :
    xbody (E2 N) ents spec_l01Next.kp N Go.Proofs.Tryz.f19 spec_l01Next.bd [.sptr [(0, 1), (1, 1), (2, 1)], .int .i64 (nv0)] [⟨false, .avs [.slice false 3 0 gv1 .unk 1]⟩, ⟨true, .flat 1 (.ints .i64 gv2)⟩, ⟨true, .flat 1 (.ints .u64 gv3)⟩, ⟨false, .flat gv4 (.ints .u8 gv5)⟩] K = (spec_l01Next.bdy N (fun d0 d1 d2 => K (.int .i64 (d0)) [⟨false, .avs [.slice false 3 0 gv1 .unk 1]⟩, ⟨true, .flat 1 (.ints .i64 d1)⟩, ⟨true, .flat 1 (.ints .u64 d2)⟩, ⟨false, .flat gv4 (.ints .u8 gv5)⟩]) nv0 gv1 gv2 gv3 gv4 gv5) := by kernel_rfl
theorem spec_l01Next.eq {ρ : Type} (N : Nat) (K : AV → Heap → Option ρ) (nv0 : Int) (gv1 : Nat) (gv2 : Nat → Int) (gv3 : Nat → Int) (gv4 : Nat) (gv5 : Nat → Int) :
    xbody (E2 N) ents spec_l01Next.kp N Go.Proofs.Tryz.f19 spec_l01Next.bd [.sptr [(0, 1), (1, 1), (2, 1)], .int .i64 (nv0)] [⟨false, .avs [.slice false 3 0 gv1 .unk 1]⟩, ⟨true, .flat 1 (.ints .i64 gv2)⟩, ⟨true, .flat 1 (.ints .u64 gv3)⟩, ⟨false, .flat gv4 (.ints .u8 gv5)⟩] K = (spec_l01Next N (fun d0 d1 d2 => K (.int .i64 (d0)) [⟨false, .avs [.slice false 3 0 gv1 .unk 1]⟩, ⟨true, .flat 1 (.ints .i64 d1)⟩, ⟨true, .flat 1 (.ints .u64 d2)⟩, ⟨false, .flat gv4 (.ints .u8 gv5)⟩]) nv0 gv1 gv2 gv3 gv4 gv5) :=
  (spec_l01Next.eqb N K nv0 gv1 gv2 gv3 gv4 gv5).trans (spec_l01Next.opq _ _ _ _ _ _ _ _).symm
def spec_l01Next.en (N : Nat) (ρ : Type) : List AV → Heap → (AV → Heap → Option ρ) → Option ρ
  | [.sptr [(0, 1), (1, 1), (2, 1)], .int .i64 (nv0)], [⟨false, .avs [.slice false 3 0 gv1 .unk 1]⟩, ⟨true, .flat 1 (.ints .i64 gv2)⟩, ⟨true, .flat 1 (.ints .u64 gv3)⟩, ⟨false, .flat gv4 (.ints .u8 gv5)⟩], K => (spec_l01Next N (fun d0 d1 d2 => K (.int .i64 (d0)) [⟨false, .avs [.slice false 3 0 gv1 .unk 1]⟩, ⟨true, .flat 1 (.ints .i64 d1)⟩, ⟨true, .flat 1 (.ints .u64 d2)⟩, ⟨false, .flat gv4 (.ints .u8 gv5)⟩]) nv0 gv1 gv2 gv3 gv4 gv5)
  | _, _, _ => none
theorem spec_l01Next.en_ok (N : Nat) (hE : EnvOk (E2 N) ents) (ρ : Type) (args : List AV) (sh : Heap) (K : AV → Heap → Option ρ) (r : ρ) (h : spec_l01Next.en N ρ args sh K = some r) : ∃ v sh', K v sh' = some r ∧ FnOk (E2 N).P 19 args sh v sh' := by
  unfold spec_l01Next.en at h
  split at h
  · exact fn_ok hE (kp := spec_l01Next.kp) (N := N) Go.Proofs.Tryz.func19 (c := spec_l01Next.bd) (by kernel_rfl) ((spec_l01Next.eq N _ _ _ _ _ _ _).trans h)
  · cases h
def E3 (N : Nat) : Env := (E2 N).add 19 (spec_l01Next.en N)
theorem E3_ok (N : Nat) : EnvOk (E3 N) ents := Env.add_ok (E2_ok N) (spec_l01Next.en_ok N (E2_ok N))
def spec_l01Pick_s.kp : Keeps := ⟨[], [], []⟩
def spec_l01Pick_s.bd : Code := bodyOf Go.Proofs.Tryz.f21
def spec_l01Pick_s.fin {ρ : Type} (N : Nat) (K : AV → Heap → Option ρ) (gv2 : Nat) (gv3 : Nat → Int) (gv4 : Nat → Int) (gv5 : Nat) (gv6 : Nat → Int) (gv7 : Nat) (gv8 : Nat → Int) : XE → St → Option ρ := finK (E3 N) spec_l01Pick_s.kp.fins Go.Proofs.Tryz.f21 [⟨false, .avs [.slice false 4 0 gv2 .unk 1]⟩, ⟨true, .flat 1 (.ints .i64 gv3)⟩, ⟨true, .flat 1 (.ints .u64 gv4)⟩, ⟨false, .flat gv5 (.ints .i64 gv6)⟩, ⟨false, .flat gv7 (.ints .u8 gv8)⟩] K
theorem spec_l01Pick_s.eq {ρ : Type} (N : Nat) (K : AV → Heap → Option ρ) (list0 : Nat) (list1 : Nat) (gv2 : Nat) (gv3 : Nat → Int) (gv4 : Nat → Int) (gv5 : Nat) (gv6 : Nat → Int) (gv7 : Nat) (gv8 : Nat → Int) :
    xbody (E3 N) ents spec_l01Pick_s.kp N Go.Proofs.Tryz.f21 spec_l01Pick_s.bd [.sptr [(0, 1), (1, 1), (2, 1)], .slice true 3 0 list0 (.exact list1) 1] [⟨false, .avs [.slice false 4 0 gv2 .unk 1]⟩, ⟨true, .flat 1 (.ints .i64 gv3)⟩, ⟨true, .flat 1 (.ints .u64 gv4)⟩, ⟨false, .flat gv5 (.ints .i64 gv6)⟩, ⟨false, .flat gv7 (.ints .u8 gv8)⟩] K = (spec_l01Pick_s N (fun d0 d1 d2 => K (.int .i64 (d0)) [⟨false, .avs [.slice false 4 0 gv2 .unk 1]⟩, ⟨true, .flat 1 (.ints .i64 d1)⟩, ⟨true, .flat 1 (.ints .u64 d2)⟩, ⟨false, .flat gv5 (.ints .i64 gv6)⟩, ⟨false, .flat gv7 (.ints .u8 gv8)⟩]) list0 list1 gv2 gv3 gv4 gv5 gv6 gv7 gv8) := by kernel_rfl
def spec_l01Pick_s.en (N : Nat) (ρ : Type) : List AV → Heap → (AV → Heap → Option ρ) → Option ρ
  | [.sptr [(0, 1), (1, 1), (2, 1)], .slice true 3 0 list0 (.exact list1) 1], [⟨false, .avs [.slice false 4 0 gv2 .unk 1]⟩, ⟨true, .flat 1 (.ints .i64 gv3)⟩, ⟨true, .flat 1 (.ints .u64 gv4)⟩, ⟨false, .flat gv5 (.ints .i64 gv6)⟩, ⟨false, .flat gv7 (.ints .u8 gv8)⟩], K => (spec_l01Pick_s N (fun d0 d1 d2 => K (.int .i64 (d0)) [⟨false, .avs [.slice false 4 0 gv2 .unk 1]⟩, ⟨true, .flat 1 (.ints .i64 d1)⟩, ⟨true, .flat 1 (.ints .u64 d2)⟩, ⟨false, .flat gv5 (.ints .i64 gv6)⟩, ⟨false, .flat gv7 (.ints .u8 gv8)⟩]) list0 list1 gv2 gv3 gv4 gv5 gv6 gv7 gv8)
  | _, _, _ => none
theorem spec_l01Pick_s.en_ok (N : Nat) (hE : EnvOk (E3 N) ents) (ρ : Type) (args : List AV) (sh : Heap) (K : AV → Heap → Option ρ) (r : ρ) (h : spec_l01Pick_s.en N ρ args sh K = some r) : ∃ v sh', K v sh' = some r ∧ FnOk (E3 N).P 21 args sh v sh' := by
  unfold spec_l01Pick_s.en at h
  split at h
  · exact fn_ok hE (kp := spec_l01Pick_s.kp) (N := N) Go.Proofs.Tryz.func21 (c := spec_l01Pick_s.bd) (by kernel_rfl) ((spec_l01Pick_s.eq N _ _ _ _ _ _ _ _ _ _).trans h)
  · cases h
def E4 (N : Nat) : Env := (E3 N).add 21 (spec_l01Pick_s.en N)
theorem E4_ok (N : Nat) : EnvOk (E4 N) ents := Env.add_ok (E3_ok N) (spec_l01Pick_s.en_ok N (E3_ok N))
def spec_l01DrawPrime.kp : Keeps := ⟨[], [], []⟩
def spec_l01DrawPrime.bd : Code := bodyOf Go.Proofs.Tryz.f18
def spec_l01DrawPrime.fin {ρ : Type} (N : Nat) (K : AV → Heap → Option ρ) (gv0 : Nat) (gv1 : Nat → Int) (gv2 : Nat → Int) (gv3 : Nat) (gv4 : Nat → Int) : XE → St → Option ρ := finK (E4 N) spec_l01DrawPrime.kp.fins Go.Proofs.Tryz.f18 [⟨false, .avs [.slice false 3 0 gv0 .unk 1]⟩, ⟨true, .flat 1 (.ints .i64 gv1)⟩, ⟨true, .flat 1 (.ints .u64 gv2)⟩, ⟨false, .flat gv3 (.ints .u8 gv4)⟩] K
theorem spec_l01DrawPrime.eq {ρ : Type} (N : Nat) (K : AV → Heap → Option ρ) (gv0 : Nat) (gv1 : Nat → Int) (gv2 : Nat → Int) (gv3 : Nat) (gv4 : Nat → Int) :
    xbody (E4 N) ents spec_l01DrawPrime.kp N Go.Proofs.Tryz.f18 spec_l01DrawPrime.bd [.sptr [(0, 1), (1, 1), (2, 1)]] [⟨false, .avs [.slice false 3 0 gv0 .unk 1]⟩, ⟨true, .flat 1 (.ints .i64 gv1)⟩, ⟨true, .flat 1 (.ints .u64 gv2)⟩, ⟨false, .flat gv3 (.ints .u8 gv4)⟩] K = (spec_l01DrawPrime N (fun d0 d1 d2 => K (.int .i64 (d0)) [⟨false, .avs [.slice false 3 0 gv0 .unk 1]⟩, ⟨true, .flat 1 (.ints .i64 d1)⟩, ⟨true, .flat 1 (.ints .u64 d2)⟩, ⟨false, .flat gv3 (.ints .u8 gv4)⟩]) gv0 gv1 gv2 gv3 gv4) := by kernel_rfl
def spec_l01DrawPrime.en (N : Nat) (ρ : Type) : List AV → Heap → (AV → Heap → Option ρ) → Option ρ
  | [.sptr [(0, 1), (1, 1), (2, 1)]], [⟨false, .avs [.slice false 3 0 gv0 .unk 1]⟩, ⟨true, .flat 1 (.ints .i64 gv1)⟩, ⟨true, .flat 1 (.ints .u64 gv2)⟩, ⟨false, .flat gv3 (.ints .u8 gv4)⟩], K => (spec_l01DrawPrime N (fun d0 d1 d2 => K (.int .i64 (d0)) [⟨false, .avs [.slice false 3 0 gv0 .unk 1]⟩, ⟨true, .flat 1 (.ints .i64 d1)⟩, ⟨true, .flat 1 (.ints .u64 d2)⟩, ⟨false, .flat gv3 (.ints .u8 gv4)⟩]) gv0 gv1 gv2 gv3 gv4)
  | _, _, _ => none
theorem spec_l01DrawPrime.en_ok (N : Nat) (hE : EnvOk (E4 N) ents) (ρ : Type) (args : List AV) (sh : Heap) (K : AV → Heap → Option ρ) (r : ρ) (h : spec_l01DrawPrime.en N ρ args sh K = some r) : ∃ v sh', K v sh' = some r ∧ FnOk (E4 N).P 18 args sh v sh' := by
  unfold spec_l01DrawPrime.en at h
  split at h
  · exact fn_ok hE (kp := spec_l01DrawPrime.kp) (N := N) Go.Proofs.Tryz.func18 (c := spec_l01DrawPrime.bd) (by kernel_rfl) ((spec_l01DrawPrime.eq N _ _ _ _ _ _).trans h)
  · cases h
def E5 (N : Nat) : Env := (E4 N).add 18 (spec_l01DrawPrime.en N)
theorem E5_ok (N : Nat) : EnvOk (E5 N) ents := Env.add_ok (E4_ok N) (spec_l01DrawPrime.en_ok N (E4_ok N))
def spec_l01DrawVector.kp : Keeps := ⟨[(0, [0, 1, 2, 6, 7, 8], [], [])], [(0, [6, 7], [], [])], []⟩
def spec_l01DrawVector.bd : Code := bodyOf Go.Proofs.Tryz.f30
def spec_l01DrawVector.fin {ρ : Type} (N : Nat) (K : AV → Heap → Option ρ) (gv2 : Nat) (gv3 : Nat → Int) (gv4 : Nat → Int) (gv5 : Nat) (gv6 : Nat → Int) : XE → St → Option ρ := finK (E5 N) spec_l01DrawVector.kp.fins Go.Proofs.Tryz.f30 [⟨false, .avs [.slice false 3 0 gv2 .unk 1]⟩, ⟨true, .flat 1 (.ints .i64 gv3)⟩, ⟨true, .flat 1 (.ints .u64 gv4)⟩, ⟨false, .flat gv5 (.ints .u8 gv6)⟩] K
def spec_l01DrawVector.k0 {ρ : Type} (N : Nat) (K : AV → Heap → Option ρ) (gv2 : Nat) (gv3 : Nat → Int) (gv4 : Nat → Int) (gv5 : Nat) (gv6 : Nat → Int) : XE → St → Option ρ := (blockK spec_l01DrawVector.kp 4 0 (seqK (xcode (E5 N) ents spec_l01DrawVector.kp 4 N (cB (cB (cB spec_l01DrawVector.bd))) 0) (spec_l01DrawVector.fin N K gv2 gv3 gv4 gv5 gv6)))
theorem spec_l01DrawVector.k0_mix {ρ : Type} (N : Nat) (K : AV → Heap → Option ρ) (gv2 : Nat) (gv3 : Nat → Int) (gv4 : Nat → Int) (gv5 : Nat) (gv6 : Nat → Int) : mixK (spec_l01DrawVector.fin N K gv2 gv3 gv4 gv5 gv6 .ret) (spec_l01DrawVector.k0 N K gv2 gv3 gv4 gv5 gv6) = (spec_l01DrawVector.k0 N K gv2 gv3 gv4 gv5 gv6) := by
  funext e s; cases e <;> kernel_rfl
def spec_l01DrawVector.st0 (p0 : Int) (nv1 : Int) (gv2 : Nat) (gv5 : Nat) (gv6 : Nat → Int) (i7 : Int) (gv8 : Nat → Int) (gv9 : Nat → Int) (gv10 : Nat → Int) : St := ⟨sl 31 [(0, .sptr [(0, 1), (1, 1), (2, 1)]), (1, .int .i64 (p0)), (2, .int .i64 (nv1)), (6, .sptr [(4, 8)]), (7, .sptr [(5, 8)]), (8, .int .i64 (i7))], [⟨false, .avs [.slice false 3 0 gv2 .unk 1]⟩, ⟨true, .flat 1 (.ints .i64 gv8)⟩, ⟨true, .flat 1 (.ints .u64 gv9)⟩, ⟨false, .flat gv5 (.ints .u8 gv6)⟩, ⟨true, .flat 8 (.ints .u8 (fun _ => 0))⟩, ⟨true, .flat 8 (.ints .u8 gv10)⟩]⟩
def spec_l01DrawVector.sx0_0 (gv2 : Nat) (gv5 : Nat) (gv6 : Nat → Int) (ov17 : Nat → Int) (ov18 : Nat → Int) (ov19 : Nat → Int) : St := ⟨sl 31 [(6, .sptr [(4, 8)]), (7, .sptr [(5, 8)])], [⟨false, .avs [.slice false 3 0 gv2 .unk 1]⟩, ⟨true, .flat 1 (.ints .i64 ov17)⟩, ⟨true, .flat 1 (.ints .u64 ov18)⟩, ⟨false, .flat gv5 (.ints .u8 gv6)⟩, ⟨true, .flat 8 (.ints .u8 (fun _ => 0))⟩, ⟨true, .flat 8 (.ints .u8 ov19)⟩]⟩
theorem spec_l01DrawVector.b0_gen {ρ : Type} (N : Nat) (K : AV → Heap → Option ρ) (L0 : St → Option ρ) (kv : XE → St → Option ρ) (p0 : Int) (nv1 : Int) (gv2 : Nat) (gv3 : Nat → Int) (gv4 : Nat → Int) (gv5 : Nat) (gv6 : Nat → Int) (i7 : Int) (gv8 : Nat → Int) (gv9 : Nat → Int) (gv10 : Nat → Int) :
    xcode (E5 N) ents spec_l01DrawVector.kp 4 N (cL (cK (cB (cA (cB (cB spec_l01DrawVector.bd)))))) 0 (spec_l01DrawVector.st0 p0 nv1 gv2 gv5 gv6 i7 gv8 gv9 gv10) (roundK spec_l01DrawVector.kp 4 0 L0 (mixK (spec_l01DrawVector.fin N K gv2 gv3 gv4 gv5 gv6 .ret) kv)) = (spec_l01DrawVector.b0 N (fun d0 d1 d2 => K (.agg [⟨.u8, 8, d0⟩]) [⟨false, .avs [.slice false 3 0 gv2 .unk 1]⟩, ⟨true, .flat 1 (.ints .i64 d1)⟩, ⟨true, .flat 1 (.ints .u64 d2)⟩, ⟨false, .flat gv5 (.ints .u8 gv6)⟩]) (fun i7 gv8 gv9 gv10 => L0 (spec_l01DrawVector.st0 p0 nv1 gv2 gv5 gv6 i7 gv8 gv9 gv10)) (fun ov17 ov18 ov19 => kv (.exit 0) (spec_l01DrawVector.sx0_0 gv2 gv5 gv6 ov17 ov18 ov19)) p0 nv1 gv2 gv6 i7 gv8 gv9 gv10) := by kernel_rfl
theorem spec_l01DrawVector.b0_eq {ρ : Type} (N : Nat) (K : AV → Heap → Option ρ) (L0 : St → Option ρ) (p0 : Int) (nv1 : Int) (gv2 : Nat) (gv3 : Nat → Int) (gv4 : Nat → Int) (gv5 : Nat) (gv6 : Nat → Int) (i7 : Int) (gv8 : Nat → Int) (gv9 : Nat → Int) (gv10 : Nat → Int) :
    xcode (E5 N) ents spec_l01DrawVector.kp 4 N (cL (cK (cB (cA (cB (cB spec_l01DrawVector.bd)))))) 0 (spec_l01DrawVector.st0 p0 nv1 gv2 gv5 gv6 i7 gv8 gv9 gv10) (roundK spec_l01DrawVector.kp 4 0 L0 (spec_l01DrawVector.k0 N K gv2 gv3 gv4 gv5 gv6)) = (spec_l01DrawVector.b0 N (fun d0 d1 d2 => K (.agg [⟨.u8, 8, d0⟩]) [⟨false, .avs [.slice false 3 0 gv2 .unk 1]⟩, ⟨true, .flat 1 (.ints .i64 d1)⟩, ⟨true, .flat 1 (.ints .u64 d2)⟩, ⟨false, .flat gv5 (.ints .u8 gv6)⟩]) (fun i7 gv8 gv9 gv10 => L0 (spec_l01DrawVector.st0 p0 nv1 gv2 gv5 gv6 i7 gv8 gv9 gv10)) (fun ov17 ov18 ov19 => (spec_l01DrawVector.k0 N K gv2 gv3 gv4 gv5 gv6) (.exit 0) (spec_l01DrawVector.sx0_0 gv2 gv5 gv6 ov17 ov18 ov19)) p0 nv1 gv2 gv6 i7 gv8 gv9 gv10) := by
  have h := spec_l01DrawVector.b0_gen N K L0 (spec_l01DrawVector.k0 N K gv2 gv3 gv4 gv5 gv6) p0 nv1 gv2 gv3 gv4 gv5 gv6 i7 gv8 gv9 gv10
  rw [spec_l01DrawVector.k0_mix] at h
  exact h
theorem spec_l01DrawVector.a0_0_eq {ρ : Type} (N : Nat) (K : AV → Heap → Option ρ) (gv2 : Nat) (gv3 : Nat → Int) (gv4 : Nat → Int) (gv5 : Nat) (gv6 : Nat → Int) (ov17 : Nat → Int) (ov18 : Nat → Int) (ov19 : Nat → Int) :
    (spec_l01DrawVector.k0 N K gv2 gv3 gv4 gv5 gv6) (.exit 0) (spec_l01DrawVector.sx0_0 gv2 gv5 gv6 ov17 ov18 ov19) = (spec_l01DrawVector.a0_0 N (fun d0 d1 d2 => K (.agg [⟨.u8, 8, d0⟩]) [⟨false, .avs [.slice false 3 0 gv2 .unk 1]⟩, ⟨true, .flat 1 (.ints .i64 d1)⟩, ⟨true, .flat 1 (.ints .u64 d2)⟩, ⟨false, .flat gv5 (.ints .u8 gv6)⟩]) ov17 ov18 ov19) := by kernel_rfl
theorem spec_l01DrawVector.l0_eq {ρ : Type} (N : Nat) (K : AV → Heap → Option ρ) (p0 : Int) (nv1 : Int) (gv2 : Nat) (gv3 : Nat → Int) (gv4 : Nat → Int) (gv5 : Nat) (gv6 : Nat → Int) :
    ∀ (m : Nat) (i7 : Int) (gv8 : Nat → Int) (gv9 : Nat → Int) (gv10 : Nat → Int), xloop (xcode (E5 N) ents spec_l01DrawVector.kp 4 N (cL (cK (cB (cA (cB (cB spec_l01DrawVector.bd)))))) 0) spec_l01DrawVector.kp 4 0 m (spec_l01DrawVector.st0 p0 nv1 gv2 gv5 gv6 i7 gv8 gv9 gv10) (spec_l01DrawVector.k0 N K gv2 gv3 gv4 gv5 gv6) = (spec_l01DrawVector.l0 N (fun d0 d1 d2 => K (.agg [⟨.u8, 8, d0⟩]) [⟨false, .avs [.slice false 3 0 gv2 .unk 1]⟩, ⟨true, .flat 1 (.ints .i64 d1)⟩, ⟨true, .flat 1 (.ints .u64 d2)⟩, ⟨false, .flat gv5 (.ints .u8 gv6)⟩]) p0 nv1 gv2 gv6 (fun ov17 ov18 ov19 => (spec_l01DrawVector.k0 N K gv2 gv3 gv4 gv5 gv6) (.exit 0) (spec_l01DrawVector.sx0_0 gv2 gv5 gv6 ov17 ov18 ov19)) m i7 gv8 gv9 gv10) := by
  intro m
  induction m with
  | zero => intros; rfl
  | succ m ih =>
    intro i7 gv8 gv9 gv10
    refine (spec_l01DrawVector.b0_eq N K (fun s => xloop (xcode (E5 N) ents spec_l01DrawVector.kp 4 N (cL (cK (cB (cA (cB (cB spec_l01DrawVector.bd)))))) 0) spec_l01DrawVector.kp 4 0 m s (spec_l01DrawVector.k0 N K gv2 gv3 gv4 gv5 gv6)) p0 nv1 gv2 gv3 gv4 gv5 gv6 i7 gv8 gv9 gv10).trans ?_
    simp only [ih]
    kernel_rfl
theorem spec_l01DrawVector.s_eq {ρ : Type} (N : Nat) (K : AV → Heap → Option ρ) (p0 : Int) (nv1 : Int) (gv2 : Nat) (gv3 : Nat → Int) (gv4 : Nat → Int) (gv5 : Nat) (gv6 : Nat → Int) :
    xbody (E5 N) ents spec_l01DrawVector.kp N Go.Proofs.Tryz.f30 spec_l01DrawVector.bd [.sptr [(0, 1), (1, 1), (2, 1)], .int .i64 (p0), .int .i64 (nv1)] [⟨false, .avs [.slice false 3 0 gv2 .unk 1]⟩, ⟨true, .flat 1 (.ints .i64 gv3)⟩, ⟨true, .flat 1 (.ints .u64 gv4)⟩, ⟨false, .flat gv5 (.ints .u8 gv6)⟩] K = (spec_l01DrawVector.s N (fun d0 d1 d2 => K (.agg [⟨.u8, 8, d0⟩]) [⟨false, .avs [.slice false 3 0 gv2 .unk 1]⟩, ⟨true, .flat 1 (.ints .i64 d1)⟩, ⟨true, .flat 1 (.ints .u64 d2)⟩, ⟨false, .flat gv5 (.ints .u8 gv6)⟩]) (fun i7 gv8 gv9 gv10 => xloop (xcode (E5 N) ents spec_l01DrawVector.kp 4 N (cL (cK (cB (cA (cB (cB spec_l01DrawVector.bd)))))) 0) spec_l01DrawVector.kp 4 0 N (spec_l01DrawVector.st0 p0 nv1 gv2 gv5 gv6 i7 gv8 gv9 gv10) (spec_l01DrawVector.k0 N K gv2 gv3 gv4 gv5 gv6)) gv3 gv4) := by kernel_rfl
theorem spec_l01DrawVector.eq {ρ : Type} (N : Nat) (K : AV → Heap → Option ρ) (p0 : Int) (nv1 : Int) (gv2 : Nat) (gv3 : Nat → Int) (gv4 : Nat → Int) (gv5 : Nat) (gv6 : Nat → Int) :
    xbody (E5 N) ents spec_l01DrawVector.kp N Go.Proofs.Tryz.f30 spec_l01DrawVector.bd [.sptr [(0, 1), (1, 1), (2, 1)], .int .i64 (p0), .int .i64 (nv1)] [⟨false, .avs [.slice false 3 0 gv2 .unk 1]⟩, ⟨true, .flat 1 (.ints .i64 gv3)⟩, ⟨true, .flat 1 (.ints .u64 gv4)⟩, ⟨false, .flat gv5 (.ints .u8 gv6)⟩] K = (spec_l01DrawVector N (fun d0 d1 d2 => K (.agg [⟨.u8, 8, d0⟩]) [⟨false, .avs [.slice false 3 0 gv2 .unk 1]⟩, ⟨true, .flat 1 (.ints .i64 d1)⟩, ⟨true, .flat 1 (.ints .u64 d2)⟩, ⟨false, .flat gv5 (.ints .u8 gv6)⟩]) p0 nv1 gv2 gv3 gv4 gv5 gv6) := by
  refine (spec_l01DrawVector.s_eq N K p0 nv1 gv2 gv3 gv4 gv5 gv6).trans ?_
  simp only [spec_l01DrawVector.l0_eq, spec_l01DrawVector.a0_0_eq]
  kernel_rfl
def spec_l01DrawVector.en (N : Nat) (ρ : Type) : List AV → Heap → (AV → Heap → Option ρ) → Option ρ
  | [.sptr [(0, 1), (1, 1), (2, 1)], .int .i64 (p0), .int .i64 (nv1)], [⟨false, .avs [.slice false 3 0 gv2 .unk 1]⟩, ⟨true, .flat 1 (.ints .i64 gv3)⟩, ⟨true, .flat 1 (.ints .u64 gv4)⟩, ⟨false, .flat gv5 (.ints .u8 gv6)⟩], K => (spec_l01DrawVector N (fun d0 d1 d2 => K (.agg [⟨.u8, 8, d0⟩]) [⟨false, .avs [.slice false 3 0 gv2 .unk 1]⟩, ⟨true, .flat 1 (.ints .i64 d1)⟩, ⟨true, .flat 1 (.ints .u64 d2)⟩, ⟨false, .flat gv5 (.ints .u8 gv6)⟩]) p0 nv1 gv2 gv3 gv4 gv5 gv6)
  | _, _, _ => none
theorem spec_l01DrawVector.en_ok (N : Nat) (hE : EnvOk (E5 N) ents) (ρ : Type) (args : List AV) (sh : Heap) (K : AV → Heap → Option ρ) (r : ρ) (h : spec_l01DrawVector.en N ρ args sh K = some r) : ∃ v sh', K v sh' = some r ∧ FnOk (E5 N).P 30 args sh v sh' := by
  unfold spec_l01DrawVector.en at h
  split at h
  · exact fn_ok hE (kp := spec_l01DrawVector.kp) (N := N) Go.Proofs.Tryz.func30 (c := spec_l01DrawVector.bd) (by kernel_rfl) ((spec_l01DrawVector.eq N _ _ _ _ _ _ _ _).trans h)
  · cases h
def E6 (N : Nat) : Env := (E5 N).add 30 (spec_l01DrawVector.en N)
theorem E6_ok (N : Nat) : EnvOk (E6 N) ents := Env.add_ok (E5_ok N) (spec_l01DrawVector.en_ok N (E5_ok N))
def spec_l01Any.kp : Keeps := ⟨[], [], []⟩
def spec_l01Any.bd : Code := bodyOf Go.Proofs.Tryz.f20
def spec_l01Any.fin {ρ : Type} (N : Nat) (K : AV → Heap → Option ρ) (gv2 : Nat) (gv3 : Nat → Int) (gv4 : Nat → Int) (gv5 : Nat) (gv6 : Nat → Int) : XE → St → Option ρ := finK (E6 N) spec_l01Any.kp.fins Go.Proofs.Tryz.f20 [⟨false, .avs [.slice false 3 0 gv2 .unk 1]⟩, ⟨true, .flat 1 (.ints .i64 gv3)⟩, ⟨true, .flat 1 (.ints .u64 gv4)⟩, ⟨false, .flat gv5 (.ints .u8 gv6)⟩] K
theorem spec_l01Any.eq {ρ : Type} (N : Nat) (K : AV → Heap → Option ρ) (av0 : Nat → Int) (av1 : Nat → Int) (gv2 : Nat) (gv3 : Nat → Int) (gv4 : Nat → Int) (gv5 : Nat) (gv6 : Nat → Int) :
    xbody (E6 N) ents spec_l01Any.kp N Go.Proofs.Tryz.f20 spec_l01Any.bd [.sptr [(0, 1), (1, 1), (2, 1)], .agg [⟨.i64, 2, av0⟩, ⟨.u8, 520, av1⟩]] [⟨false, .avs [.slice false 3 0 gv2 .unk 1]⟩, ⟨true, .flat 1 (.ints .i64 gv3)⟩, ⟨true, .flat 1 (.ints .u64 gv4)⟩, ⟨false, .flat gv5 (.ints .u8 gv6)⟩] K = (spec_l01Any N (fun d0 d1 d2 => K (.agg [⟨.u8, 8, d0⟩]) [⟨false, .avs [.slice false 3 0 gv2 .unk 1]⟩, ⟨true, .flat 1 (.ints .i64 d1)⟩, ⟨true, .flat 1 (.ints .u64 d2)⟩, ⟨false, .flat gv5 (.ints .u8 gv6)⟩]) av0 av1 gv2 gv3 gv4 gv5 gv6) := by kernel_rfl
def spec_l01Any.en (N : Nat) (ρ : Type) : List AV → Heap → (AV → Heap → Option ρ) → Option ρ
  | [.sptr [(0, 1), (1, 1), (2, 1)], .agg [⟨.i64, 2, av0⟩, ⟨.u8, 520, av1⟩]], [⟨false, .avs [.slice false 3 0 gv2 .unk 1]⟩, ⟨true, .flat 1 (.ints .i64 gv3)⟩, ⟨true, .flat 1 (.ints .u64 gv4)⟩, ⟨false, .flat gv5 (.ints .u8 gv6)⟩], K => (spec_l01Any N (fun d0 d1 d2 => K (.agg [⟨.u8, 8, d0⟩]) [⟨false, .avs [.slice false 3 0 gv2 .unk 1]⟩, ⟨true, .flat 1 (.ints .i64 d1)⟩, ⟨true, .flat 1 (.ints .u64 d2)⟩, ⟨false, .flat gv5 (.ints .u8 gv6)⟩]) av0 av1 gv2 gv3 gv4 gv5 gv6)
  | _, _, _ => none
theorem spec_l01Any.en_ok (N : Nat) (hE : EnvOk (E6 N) ents) (ρ : Type) (args : List AV) (sh : Heap) (K : AV → Heap → Option ρ) (r : ρ) (h : spec_l01Any.en N ρ args sh K = some r) : ∃ v sh', K v sh' = some r ∧ FnOk (E6 N).P 20 args sh v sh' := by
  unfold spec_l01Any.en at h
  split at h
  · exact fn_ok hE (kp := spec_l01Any.kp) (N := N) Go.Proofs.Tryz.func20 (c := spec_l01Any.bd) (by kernel_rfl) ((spec_l01Any.eq N _ _ _ _ _ _ _ _).trans h)
  · cases h
def E7 (N : Nat) : Env := (E6 N).add 20 (spec_l01Any.en N)
theorem E7_ok (N : Nat) : EnvOk (E7 N) ents := Env.add_ok (E6_ok N) (spec_l01Any.en_ok N (E6_ok N))
def spec_DrawReduceVectors_su.kp : Keeps := ⟨[(0, [5, 6, 7, 8, 9], [], [])], [(0, [5, 6, 7, 8], [], [])], []⟩
def spec_DrawReduceVectors_su.bd : Code := bodyOf Go.Proofs.Tryz.f5
def spec_DrawReduceVectors_su.fin {ρ : Type} (N : Nat) (K : AV → Heap → Option ρ) (gv1 : Nat) (gv2 : Nat → Int) : XE → St → Option ρ := finK (E7 N) spec_DrawReduceVectors_su.kp.fins Go.Proofs.Tryz.f5 [⟨false, .flat gv1 (.ints .u8 gv2)⟩] K
def spec_DrawReduceVectors_su.k0 {ρ : Type} (N : Nat) (K : AV → Heap → Option ρ) (gv1 : Nat) (gv2 : Nat → Int) : XE → St → Option ρ := (blockK spec_DrawReduceVectors_su.kp 1 0 (seqK (xcode (E7 N) ents spec_DrawReduceVectors_su.kp 1 N (cB (cB (cB (cB spec_DrawReduceVectors_su.bd)))) 0) (spec_DrawReduceVectors_su.fin N K gv1 gv2)))
theorem spec_DrawReduceVectors_su.k0_mix {ρ : Type} (N : Nat) (K : AV → Heap → Option ρ) (gv1 : Nat) (gv2 : Nat → Int) : mixK (spec_DrawReduceVectors_su.fin N K gv1 gv2 .ret) (spec_DrawReduceVectors_su.k0 N K gv1 gv2) = (spec_DrawReduceVectors_su.k0 N K gv1 gv2) := by
  funext e s; cases e <;> kernel_rfl
def spec_DrawReduceVectors_su.st0 (gv1 : Nat) (gv2 : Nat → Int) (rv3 : Nat) (rv6 : Int) (rv9 : Int) (outv15 : Nat) (k16 : Int) (gv17 : Nat → Int) (gv18 : Nat → Int) (gv19 : Nat → Int) : St := ⟨sl 43 [(5, .sptr [(1, 1), (2, 1), (3, 1)]), (6, .int .i64 (rv6)), (7, .int .i64 ((IntKind.i64.wrap (1 + rv9)))), (8, .slice true 4 0 outv15 .whole 8), (9, .int .i64 (k16))], [⟨false, .flat gv1 (.ints .u8 gv2)⟩, ⟨true, .avs [.slice false 0 0 rv3 .unk 1]⟩, ⟨true, .flat 1 (.ints .i64 gv17)⟩, ⟨true, .flat 1 (.ints .u64 gv18)⟩, ⟨true, .flat 0 (.ints .u8 gv19)⟩]⟩
def spec_DrawReduceVectors_su.sx0_0 (gv1 : Nat) (gv2 : Nat → Int) (rv3 : Nat) (rv6 : Int) (rv9 : Int) (ov23 : Nat) (ov24 : Nat → Int) (ov25 : Nat → Int) (ov26 : Nat → Int) : St := ⟨sl 43 [(5, .sptr [(1, 1), (2, 1), (3, 1)]), (6, .int .i64 (rv6)), (7, .int .i64 ((IntKind.i64.wrap (1 + rv9)))), (8, .slice true 4 0 ov23 .whole 8)], [⟨false, .flat gv1 (.ints .u8 gv2)⟩, ⟨true, .avs [.slice false 0 0 rv3 .unk 1]⟩, ⟨true, .flat 1 (.ints .i64 ov24)⟩, ⟨true, .flat 1 (.ints .u64 ov25)⟩, ⟨true, .flat 0 (.ints .u8 ov26)⟩]⟩
theorem spec_DrawReduceVectors_su.b0_gen {ρ : Type} (N : Nat) (K : AV → Heap → Option ρ) (L0 : St → Option ρ) (kv : XE → St → Option ρ) (gv1 : Nat) (gv2 : Nat → Int) (rv3 : Nat) (rv6 : Int) (rv9 : Int) (outv15 : Nat) (k16 : Int) (gv17 : Nat → Int) (gv18 : Nat → Int) (gv19 : Nat → Int) :
    xcode (E7 N) ents spec_DrawReduceVectors_su.kp 1 N (cL (cK (cB (cA (cB (cB (cB spec_DrawReduceVectors_su.bd))))))) 0 (spec_DrawReduceVectors_su.st0 gv1 gv2 rv3 rv6 rv9 outv15 k16 gv17 gv18 gv19) (roundK spec_DrawReduceVectors_su.kp 1 0 L0 (mixK (spec_DrawReduceVectors_su.fin N K gv1 gv2 .ret) kv)) = (spec_DrawReduceVectors_su.b0 N (fun d0 d1 d2 d3 => K (.tup [.int .i64 (d0), .int .i64 (d1), .slice true 1 0 d2 .whole 8]) [⟨false, .flat gv1 (.ints .u8 gv2)⟩, ⟨true, .flat 0 (.ints .u8 d3)⟩]) (fun outv15 k16 gv17 gv18 gv19 => L0 (spec_DrawReduceVectors_su.st0 gv1 gv2 rv3 rv6 rv9 outv15 k16 gv17 gv18 gv19)) (fun ov23 ov24 ov25 ov26 => kv (.exit 0) (spec_DrawReduceVectors_su.sx0_0 gv1 gv2 rv3 rv6 rv9 ov23 ov24 ov25 ov26)) gv2 rv3 rv6 rv9 outv15 k16 gv17 gv18 gv19) := by kernel_rfl
theorem spec_DrawReduceVectors_su.b0_eq {ρ : Type} (N : Nat) (K : AV → Heap → Option ρ) (L0 : St → Option ρ) (gv1 : Nat) (gv2 : Nat → Int) (rv3 : Nat) (rv6 : Int) (rv9 : Int) (outv15 : Nat) (k16 : Int) (gv17 : Nat → Int) (gv18 : Nat → Int) (gv19 : Nat → Int) :
    xcode (E7 N) ents spec_DrawReduceVectors_su.kp 1 N (cL (cK (cB (cA (cB (cB (cB spec_DrawReduceVectors_su.bd))))))) 0 (spec_DrawReduceVectors_su.st0 gv1 gv2 rv3 rv6 rv9 outv15 k16 gv17 gv18 gv19) (roundK spec_DrawReduceVectors_su.kp 1 0 L0 (spec_DrawReduceVectors_su.k0 N K gv1 gv2)) = (spec_DrawReduceVectors_su.b0 N (fun d0 d1 d2 d3 => K (.tup [.int .i64 (d0), .int .i64 (d1), .slice true 1 0 d2 .whole 8]) [⟨false, .flat gv1 (.ints .u8 gv2)⟩, ⟨true, .flat 0 (.ints .u8 d3)⟩]) (fun outv15 k16 gv17 gv18 gv19 => L0 (spec_DrawReduceVectors_su.st0 gv1 gv2 rv3 rv6 rv9 outv15 k16 gv17 gv18 gv19)) (fun ov23 ov24 ov25 ov26 => (spec_DrawReduceVectors_su.k0 N K gv1 gv2) (.exit 0) (spec_DrawReduceVectors_su.sx0_0 gv1 gv2 rv3 rv6 rv9 ov23 ov24 ov25 ov26)) gv2 rv3 rv6 rv9 outv15 k16 gv17 gv18 gv19) := by
  have h := spec_DrawReduceVectors_su.b0_gen N K L0 (spec_DrawReduceVectors_su.k0 N K gv1 gv2) gv1 gv2 rv3 rv6 rv9 outv15 k16 gv17 gv18 gv19
  rw [spec_DrawReduceVectors_su.k0_mix] at h
  exact h
theorem spec_DrawReduceVectors_su.a0_0_eq {ρ : Type} (N : Nat) (K : AV → Heap → Option ρ) (gv1 : Nat) (gv2 : Nat → Int) (rv3 : Nat) (rv6 : Int) (rv9 : Int) (ov23 : Nat) (ov24 : Nat → Int) (ov25 : Nat → Int) (ov26 : Nat → Int) :
    (spec_DrawReduceVectors_su.k0 N K gv1 gv2) (.exit 0) (spec_DrawReduceVectors_su.sx0_0 gv1 gv2 rv3 rv6 rv9 ov23 ov24 ov25 ov26) = (spec_DrawReduceVectors_su.a0_0 N (fun d0 d1 d2 d3 => K (.tup [.int .i64 (d0), .int .i64 (d1), .slice true 1 0 d2 .whole 8]) [⟨false, .flat gv1 (.ints .u8 gv2)⟩, ⟨true, .flat 0 (.ints .u8 d3)⟩]) gv2 rv3 rv6 rv9 ov23 ov24 ov25 ov26) := by kernel_rfl
theorem spec_DrawReduceVectors_su.l0_eq {ρ : Type} (N : Nat) (K : AV → Heap → Option ρ) (gv1 : Nat) (gv2 : Nat → Int) (rv3 : Nat) (rv6 : Int) (rv9 : Int) :
    ∀ (m : Nat) (outv15 : Nat) (k16 : Int) (gv17 : Nat → Int) (gv18 : Nat → Int) (gv19 : Nat → Int), xloop (xcode (E7 N) ents spec_DrawReduceVectors_su.kp 1 N (cL (cK (cB (cA (cB (cB (cB spec_DrawReduceVectors_su.bd))))))) 0) spec_DrawReduceVectors_su.kp 1 0 m (spec_DrawReduceVectors_su.st0 gv1 gv2 rv3 rv6 rv9 outv15 k16 gv17 gv18 gv19) (spec_DrawReduceVectors_su.k0 N K gv1 gv2) = (spec_DrawReduceVectors_su.l0 N (fun d0 d1 d2 d3 => K (.tup [.int .i64 (d0), .int .i64 (d1), .slice true 1 0 d2 .whole 8]) [⟨false, .flat gv1 (.ints .u8 gv2)⟩, ⟨true, .flat 0 (.ints .u8 d3)⟩]) gv2 rv3 rv6 rv9 (fun ov23 ov24 ov25 ov26 => (spec_DrawReduceVectors_su.k0 N K gv1 gv2) (.exit 0) (spec_DrawReduceVectors_su.sx0_0 gv1 gv2 rv3 rv6 rv9 ov23 ov24 ov25 ov26)) m outv15 k16 gv17 gv18 gv19) := by
  intro m
  induction m with
  | zero => intros; rfl
  | succ m ih =>
    intro outv15 k16 gv17 gv18 gv19
    refine (spec_DrawReduceVectors_su.b0_eq N K (fun s => xloop (xcode (E7 N) ents spec_DrawReduceVectors_su.kp 1 N (cL (cK (cB (cA (cB (cB (cB spec_DrawReduceVectors_su.bd))))))) 0) spec_DrawReduceVectors_su.kp 1 0 m s (spec_DrawReduceVectors_su.k0 N K gv1 gv2)) gv1 gv2 rv3 rv6 rv9 outv15 k16 gv17 gv18 gv19).trans ?_
    simp only [ih]
    kernel_rfl
theorem spec_DrawReduceVectors_su.s_eq {ρ : Type} (N : Nat) (K : AV → Heap → Option ρ) (code0 : Nat) (gv1 : Nat) (gv2 : Nat → Int) :
    xbody (E7 N) ents spec_DrawReduceVectors_su.kp N Go.Proofs.Tryz.f5 spec_DrawReduceVectors_su.bd [.slice false 0 0 code0 .unk 1] [⟨false, .flat gv1 (.ints .u8 gv2)⟩] K = (spec_DrawReduceVectors_su.s N (fun d0 d1 d2 d3 => K (.tup [.int .i64 (d0), .int .i64 (d1), .slice true 1 0 d2 .whole 8]) [⟨false, .flat gv1 (.ints .u8 gv2)⟩, ⟨true, .flat 0 (.ints .u8 d3)⟩]) (fun rv3 rv6 rv9 outv15 k16 gv17 gv18 gv19 => xloop (xcode (E7 N) ents spec_DrawReduceVectors_su.kp 1 N (cL (cK (cB (cA (cB (cB (cB spec_DrawReduceVectors_su.bd))))))) 0) spec_DrawReduceVectors_su.kp 1 0 N (spec_DrawReduceVectors_su.st0 gv1 gv2 rv3 rv6 rv9 outv15 k16 gv17 gv18 gv19) (spec_DrawReduceVectors_su.k0 N K gv1 gv2)) code0 gv2) := by kernel_rfl
theorem spec_DrawReduceVectors_su.eqb {ρ : Type} (N : Nat) (K : AV → Heap → Option ρ) (code0 : Nat) (gv1 : Nat) (gv2 : Nat → Int) :
    xbody (E7 N) ents spec_DrawReduceVectors_su.kp N Go.Proofs.Tryz.f5 spec_DrawReduceVectors_su.bd [.slice false 0 0 code0 .unk 1] [⟨false, .flat gv1 (.ints .u8 gv2)⟩] K = (spec_DrawReduceVectors_su.bdy N (fun d0 d1 d2 d3 => K (.tup [.int .i64 (d0), .int .i64 (d1), .slice true 1 0 d2 .whole 8]) [⟨false, .flat gv1 (.ints .u8 gv2)⟩, ⟨true, .flat 0 (.ints .u8 d3)⟩]) code0 gv1 gv2) := by
  refine (spec_DrawReduceVectors_su.s_eq N K code0 gv1 gv2).trans ?_
  simp only [spec_DrawReduceVectors_su.l0_eq, spec_DrawReduceVectors_su.a0_0_eq]
  kernel_rfl
theorem spec_DrawReduceVectors_su.eq {ρ : Type} (N : Nat) (K : AV → Heap → Option ρ) (code0 : Nat) (gv1 : Nat) (gv2 : Nat → Int) :
    xbody (E7 N) ents spec_DrawReduceVectors_su.kp N Go.Proofs.Tryz.f5 spec_DrawReduceVectors_su.bd [.slice false 0 0 code0 .unk 1] [⟨false, .flat gv1 (.ints .u8 gv2)⟩] K = (spec_DrawReduceVectors_su N (fun d0 d1 d2 d3 => K (.tup [.int .i64 (d0), .int .i64 (d1), .slice true 1 0 d2 .whole 8]) [⟨false, .flat gv1 (.ints .u8 gv2)⟩, ⟨true, .flat 0 (.ints .u8 d3)⟩]) code0 gv1 gv2) :=
  (spec_DrawReduceVectors_su.eqb N K code0 gv1 gv2).trans (spec_DrawReduceVectors_su.opq _ _ _ _ _).symm
def spec_DrawReduceVectors_su.en (N : Nat) (ρ : Type) : List AV → Heap → (AV → Heap → Option ρ) → Option ρ
  | [.slice false 0 0 code0 .unk 1], [⟨false, .flat gv1 (.ints .u8 gv2)⟩], K => (spec_DrawReduceVectors_su N (fun d0 d1 d2 d3 => K (.tup [.int .i64 (d0), .int .i64 (d1), .slice true 1 0 d2 .whole 8]) [⟨false, .flat gv1 (.ints .u8 gv2)⟩, ⟨true, .flat 0 (.ints .u8 d3)⟩]) code0 gv1 gv2)
  | _, _, _ => none
theorem spec_DrawReduceVectors_su.en_ok (N : Nat) (hE : EnvOk (E7 N) ents) (ρ : Type) (args : List AV) (sh : Heap) (K : AV → Heap → Option ρ) (r : ρ) (h : spec_DrawReduceVectors_su.en N ρ args sh K = some r) : ∃ v sh', K v sh' = some r ∧ FnOk (E7 N).P 5 args sh v sh' := by
  unfold spec_DrawReduceVectors_su.en at h
  split at h
  · exact fn_ok hE (kp := spec_DrawReduceVectors_su.kp) (N := N) Go.Proofs.Tryz.func5 (c := spec_DrawReduceVectors_su.bd) (by kernel_rfl) ((spec_DrawReduceVectors_su.eq N _ _ _ _).trans h)
  · cases h
def E8 (N : Nat) : Env := (E7 N).add 5 (spec_DrawReduceVectors_su.en N)
theorem E8_ok (N : Nat) : EnvOk (E8 N) ents := Env.add_ok (E7_ok N) (spec_DrawReduceVectors_su.en_ok N (E7_ok N))
def spec_l01In.kp : Keeps := ⟨[], [], []⟩
def spec_l01In.bd : Code := bodyOf Go.Proofs.Tryz.f49
def spec_l01In.fin {ρ : Type} (N : Nat) (K : AV → Heap → Option ρ) : XE → St → Option ρ := finK (E8 N) spec_l01In.kp.fins Go.Proofs.Tryz.f49 [] K
theorem spec_l01In.eq {ρ : Type} (N : Nat) (K : AV → Heap → Option ρ) (nv0 : Int) (low1 : Int) (high2 : Int) :
    xbody (E8 N) ents spec_l01In.kp N Go.Proofs.Tryz.f49 spec_l01In.bd [.int .i64 (nv0), .int .i64 (low1), .int .i64 (high2)] [] K = (spec_l01In N (fun d0 => K (.bool (d0)) []) nv0 low1 high2) := by kernel_rfl
def spec_l01In.en (N : Nat) (ρ : Type) : List AV → Heap → (AV → Heap → Option ρ) → Option ρ
  | [.int .i64 (nv0), .int .i64 (low1), .int .i64 (high2)], [], K => (spec_l01In N (fun d0 => K (.bool (d0)) []) nv0 low1 high2)
  | _, _, _ => none
theorem spec_l01In.en_ok (N : Nat) (hE : EnvOk (E8 N) ents) (ρ : Type) (args : List AV) (sh : Heap) (K : AV → Heap → Option ρ) (r : ρ) (h : spec_l01In.en N ρ args sh K = some r) : ∃ v sh', K v sh' = some r ∧ FnOk (E8 N).P 49 args sh v sh' := by
  unfold spec_l01In.en at h
  split at h
  · exact fn_ok hE (kp := spec_l01In.kp) (N := N) Go.Proofs.Tryz.func49 (c := spec_l01In.bd) (by kernel_rfl) ((spec_l01In.eq N _ _ _ _).trans h)
  · cases h
def E9 (N : Nat) : Env := (E8 N).add 49 (spec_l01In.en N)
theorem E9_ok (N : Nat) : EnvOk (E9 N) ents := Env.add_ok (E8_ok N) (spec_l01In.en_ok N (E8_ok N))
def spec_l01Prime.kp : Keeps := ⟨[(0, [0, 3], [], [])], [(0, [0], [], [])], []⟩
def spec_l01Prime.bd : Code := bodyOf Go.Proofs.Tryz.f48
def spec_l01Prime.fin {ρ : Type} (N : Nat) (K : AV → Heap → Option ρ) : XE → St → Option ρ := finK (E9 N) spec_l01Prime.kp.fins Go.Proofs.Tryz.f48 [] K
def spec_l01Prime.k0 {ρ : Type} (N : Nat) (K : AV → Heap → Option ρ) : XE → St → Option ρ := (blockK spec_l01Prime.kp 0 0 (seqK (xcode (E9 N) ents spec_l01Prime.kp 0 N (cB (cB spec_l01Prime.bd)) 0) (spec_l01Prime.fin N K)))
theorem spec_l01Prime.k0_mix {ρ : Type} (N : Nat) (K : AV → Heap → Option ρ) : mixK (spec_l01Prime.fin N K .ret) (spec_l01Prime.k0 N K) = (spec_l01Prime.k0 N K) := by
  funext e s; cases e <;> kernel_rfl
def spec_l01Prime.st0 (p0 : Int) (k1 : Int) : St := ⟨sl 19 [(0, .int .i64 (p0)), (3, .int .i64 (k1))], []⟩
def spec_l01Prime.sx0_0 (p0 : Int) : St := ⟨sl 19 [(0, .int .i64 (p0))], []⟩
theorem spec_l01Prime.b0_gen {ρ : Type} (N : Nat) (K : AV → Heap → Option ρ) (L0 : St → Option ρ) (kv : XE → St → Option ρ) (p0 : Int) (k1 : Int) :
    xcode (E9 N) ents spec_l01Prime.kp 0 N (cL (cK (cB (cA (cB spec_l01Prime.bd))))) 0 (spec_l01Prime.st0 p0 k1) (roundK spec_l01Prime.kp 0 0 L0 (mixK (spec_l01Prime.fin N K .ret) kv)) = (spec_l01Prime.b0 N (fun d0 => K (.bool (d0)) []) (fun k1 => L0 (spec_l01Prime.st0 p0 k1)) (kv (.exit 0) (spec_l01Prime.sx0_0 p0)) p0 k1) := by kernel_rfl
theorem spec_l01Prime.b0_eq {ρ : Type} (N : Nat) (K : AV → Heap → Option ρ) (L0 : St → Option ρ) (p0 : Int) (k1 : Int) :
    xcode (E9 N) ents spec_l01Prime.kp 0 N (cL (cK (cB (cA (cB spec_l01Prime.bd))))) 0 (spec_l01Prime.st0 p0 k1) (roundK spec_l01Prime.kp 0 0 L0 (spec_l01Prime.k0 N K)) = (spec_l01Prime.b0 N (fun d0 => K (.bool (d0)) []) (fun k1 => L0 (spec_l01Prime.st0 p0 k1)) ((spec_l01Prime.k0 N K) (.exit 0) (spec_l01Prime.sx0_0 p0)) p0 k1) := by
  have h := spec_l01Prime.b0_gen N K L0 (spec_l01Prime.k0 N K) p0 k1
  rw [spec_l01Prime.k0_mix] at h
  exact h
theorem spec_l01Prime.a0_0_eq {ρ : Type} (N : Nat) (K : AV → Heap → Option ρ) (p0 : Int) :
    (spec_l01Prime.k0 N K) (.exit 0) (spec_l01Prime.sx0_0 p0) = (spec_l01Prime.a0_0 N (fun d0 => K (.bool (d0)) []) p0) := by kernel_rfl
theorem spec_l01Prime.l0_eq {ρ : Type} (N : Nat) (K : AV → Heap → Option ρ) (p0 : Int) :
    ∀ (m : Nat) (k1 : Int), xloop (xcode (E9 N) ents spec_l01Prime.kp 0 N (cL (cK (cB (cA (cB spec_l01Prime.bd))))) 0) spec_l01Prime.kp 0 0 m (spec_l01Prime.st0 p0 k1) (spec_l01Prime.k0 N K) = (spec_l01Prime.l0 N (fun d0 => K (.bool (d0)) []) p0 ((spec_l01Prime.k0 N K) (.exit 0) (spec_l01Prime.sx0_0 p0)) m k1) := by
  intro m
  induction m with
  | zero => intros; rfl
  | succ m ih =>
    intro k1
    refine (spec_l01Prime.b0_eq N K (fun s => xloop (xcode (E9 N) ents spec_l01Prime.kp 0 N (cL (cK (cB (cA (cB spec_l01Prime.bd))))) 0) spec_l01Prime.kp 0 0 m s (spec_l01Prime.k0 N K)) p0 k1).trans ?_
    simp only [ih]
    kernel_rfl
theorem spec_l01Prime.s_eq {ρ : Type} (N : Nat) (K : AV → Heap → Option ρ) (p0 : Int) :
    xbody (E9 N) ents spec_l01Prime.kp N Go.Proofs.Tryz.f48 spec_l01Prime.bd [.int .i64 (p0)] [] K = (spec_l01Prime.s N (fun d0 => K (.bool (d0)) []) (fun k1 => xloop (xcode (E9 N) ents spec_l01Prime.kp 0 N (cL (cK (cB (cA (cB spec_l01Prime.bd))))) 0) spec_l01Prime.kp 0 0 N (spec_l01Prime.st0 p0 k1) (spec_l01Prime.k0 N K))) := by kernel_rfl
theorem spec_l01Prime.eq {ρ : Type} (N : Nat) (K : AV → Heap → Option ρ) (p0 : Int) :
    xbody (E9 N) ents spec_l01Prime.kp N Go.Proofs.Tryz.f48 spec_l01Prime.bd [.int .i64 (p0)] [] K = (spec_l01Prime N (fun d0 => K (.bool (d0)) []) p0) := by
  refine (spec_l01Prime.s_eq N K p0).trans ?_
  simp only [spec_l01Prime.l0_eq, spec_l01Prime.a0_0_eq]
  kernel_rfl
def spec_l01Prime.en (N : Nat) (ρ : Type) : List AV → Heap → (AV → Heap → Option ρ) → Option ρ
  | [.int .i64 (p0)], [], K => (spec_l01Prime N (fun d0 => K (.bool (d0)) []) p0)
  | _, _, _ => none
theorem spec_l01Prime.en_ok (N : Nat) (hE : EnvOk (E9 N) ents) (ρ : Type) (args : List AV) (sh : Heap) (K : AV → Heap → Option ρ) (r : ρ) (h : spec_l01Prime.en N ρ args sh K = some r) : ∃ v sh', K v sh' = some r ∧ FnOk (E9 N).P 48 args sh v sh' := by
  unfold spec_l01Prime.en at h
  split at h
  · exact fn_ok hE (kp := spec_l01Prime.kp) (N := N) Go.Proofs.Tryz.func48 (c := spec_l01Prime.bd) (by kernel_rfl) ((spec_l01Prime.eq N _ _).trans h)
  · cases h
def E10 (N : Nat) : Env := (E9 N).add 48 (spec_l01Prime.en N)
theorem E10_ok (N : Nat) : EnvOk (E10 N) ents := Env.add_ok (E9_ok N) (spec_l01Prime.en_ok N (E9_ok N))
def spec_l01Sizes.kp : Keeps := ⟨[], [], []⟩
def spec_l01Sizes.bd : Code := bodyOf Go.Proofs.Tryz.f32
def spec_l01Sizes.fin {ρ : Type} (N : Nat) (K : AV → Heap → Option ρ) : XE → St → Option ρ := finK (E10 N) spec_l01Sizes.kp.fins Go.Proofs.Tryz.f32 [] K
theorem spec_l01Sizes.eq {ρ : Type} (N : Nat) (K : AV → Heap → Option ρ) (p0 : Int) (nv1 : Int) :
    xbody (E10 N) ents spec_l01Sizes.kp N Go.Proofs.Tryz.f32 spec_l01Sizes.bd [.int .i64 (p0), .int .i64 (nv1)] [] K = (spec_l01Sizes N (fun d0 => K (.bool (d0)) []) p0 nv1) := by kernel_rfl
def spec_l01Sizes.en (N : Nat) (ρ : Type) : List AV → Heap → (AV → Heap → Option ρ) → Option ρ
  | [.int .i64 (p0), .int .i64 (nv1)], [], K => (spec_l01Sizes N (fun d0 => K (.bool (d0)) []) p0 nv1)
  | _, _, _ => none
theorem spec_l01Sizes.en_ok (N : Nat) (hE : EnvOk (E10 N) ents) (ρ : Type) (args : List AV) (sh : Heap) (K : AV → Heap → Option ρ) (r : ρ) (h : spec_l01Sizes.en N ρ args sh K = some r) : ∃ v sh', K v sh' = some r ∧ FnOk (E10 N).P 32 args sh v sh' := by
  unfold spec_l01Sizes.en at h
  split at h
  · exact fn_ok hE (kp := spec_l01Sizes.kp) (N := N) Go.Proofs.Tryz.func32 (c := spec_l01Sizes.bd) (by kernel_rfl) ((spec_l01Sizes.eq N _ _ _).trans h)
  · cases h
def E11 (N : Nat) : Env := (E10 N).add 32 (spec_l01Sizes.en N)
theorem E11_ok (N : Nat) : EnvOk (E11 N) ents := Env.add_ok (E10_ok N) (spec_l01Sizes.en_ok N (E10_ok N))
def spec_l01Vector.kp : Keeps := ⟨[(0, [0, 1, 5, 7], [], [])], [(0, [], [], [])], []⟩
def spec_l01Vector.bd : Code := bodyOf Go.Proofs.Tryz.f38
def spec_l01Vector.fin {ρ : Type} (N : Nat) (K : AV → Heap → Option ρ) : XE → St → Option ρ := finK (E11 N) spec_l01Vector.kp.fins Go.Proofs.Tryz.f38 [] K
def spec_l01Vector.k0 {ρ : Type} (N : Nat) (K : AV → Heap → Option ρ) : XE → St → Option ρ := (blockK spec_l01Vector.kp 0 0 (seqK (xcode (E11 N) ents spec_l01Vector.kp 0 N (cB (cB spec_l01Vector.bd)) 0) (spec_l01Vector.fin N K)))
theorem spec_l01Vector.k0_mix {ρ : Type} (N : Nat) (K : AV → Heap → Option ρ) : mixK (spec_l01Vector.fin N K .ret) (spec_l01Vector.k0 N K) = (spec_l01Vector.k0 N K) := by
  funext e s; cases e <;> kernel_rfl
def spec_l01Vector.st0 (p0 : Int) (nv1 : Int) (v2 : Nat → Int) (i3 : Int) : St := ⟨sl 29 [(0, .int .i64 (p0)), (1, .int .i64 (nv1)), (5, .sptr [(0, 8)]), (7, .int .i64 (i3))], [⟨true, .flat 8 (.ints .u8 v2)⟩]⟩
def spec_l01Vector.sx0_0 : St := ⟨sl 29 [], []⟩
theorem spec_l01Vector.b0_gen {ρ : Type} (N : Nat) (K : AV → Heap → Option ρ) (L0 : St → Option ρ) (kv : XE → St → Option ρ) (p0 : Int) (nv1 : Int) (v2 : Nat → Int) (i3 : Int) :
    xcode (E11 N) ents spec_l01Vector.kp 0 N (cL (cK (cB (cA (cB spec_l01Vector.bd))))) 0 (spec_l01Vector.st0 p0 nv1 v2 i3) (roundK spec_l01Vector.kp 0 0 L0 (mixK (spec_l01Vector.fin N K .ret) kv)) = (spec_l01Vector.b0 N (fun d0 => K (.bool (d0)) []) (fun i3 => L0 (spec_l01Vector.st0 p0 nv1 v2 i3)) (kv (.exit 0) (spec_l01Vector.sx0_0)) p0 nv1 v2 i3) := by kernel_rfl
theorem spec_l01Vector.b0_eq {ρ : Type} (N : Nat) (K : AV → Heap → Option ρ) (L0 : St → Option ρ) (p0 : Int) (nv1 : Int) (v2 : Nat → Int) (i3 : Int) :
    xcode (E11 N) ents spec_l01Vector.kp 0 N (cL (cK (cB (cA (cB spec_l01Vector.bd))))) 0 (spec_l01Vector.st0 p0 nv1 v2 i3) (roundK spec_l01Vector.kp 0 0 L0 (spec_l01Vector.k0 N K)) = (spec_l01Vector.b0 N (fun d0 => K (.bool (d0)) []) (fun i3 => L0 (spec_l01Vector.st0 p0 nv1 v2 i3)) ((spec_l01Vector.k0 N K) (.exit 0) (spec_l01Vector.sx0_0)) p0 nv1 v2 i3) := by
  have h := spec_l01Vector.b0_gen N K L0 (spec_l01Vector.k0 N K) p0 nv1 v2 i3
  rw [spec_l01Vector.k0_mix] at h
  exact h
theorem spec_l01Vector.a0_0_eq {ρ : Type} (N : Nat) (K : AV → Heap → Option ρ) :
    (spec_l01Vector.k0 N K) (.exit 0) (spec_l01Vector.sx0_0) = (spec_l01Vector.a0_0 N (fun d0 => K (.bool (d0)) [])) := by kernel_rfl
theorem spec_l01Vector.l0_eq {ρ : Type} (N : Nat) (K : AV → Heap → Option ρ) (p0 : Int) (nv1 : Int) (v2 : Nat → Int) :
    ∀ (m : Nat) (i3 : Int), xloop (xcode (E11 N) ents spec_l01Vector.kp 0 N (cL (cK (cB (cA (cB spec_l01Vector.bd))))) 0) spec_l01Vector.kp 0 0 m (spec_l01Vector.st0 p0 nv1 v2 i3) (spec_l01Vector.k0 N K) = (spec_l01Vector.l0 N (fun d0 => K (.bool (d0)) []) p0 nv1 v2 ((spec_l01Vector.k0 N K) (.exit 0) (spec_l01Vector.sx0_0)) m i3) := by
  intro m
  induction m with
  | zero => intros; rfl
  | succ m ih =>
    intro i3
    refine (spec_l01Vector.b0_eq N K (fun s => xloop (xcode (E11 N) ents spec_l01Vector.kp 0 N (cL (cK (cB (cA (cB spec_l01Vector.bd))))) 0) spec_l01Vector.kp 0 0 m s (spec_l01Vector.k0 N K)) p0 nv1 v2 i3).trans ?_
    simp only [ih]
    kernel_rfl
theorem spec_l01Vector.s_eq {ρ : Type} (N : Nat) (K : AV → Heap → Option ρ) (p0 : Int) (nv1 : Int) (v2 : Nat → Int) :
    xbody (E11 N) ents spec_l01Vector.kp N Go.Proofs.Tryz.f38 spec_l01Vector.bd [.int .i64 (p0), .int .i64 (nv1), .agg [⟨.u8, 8, v2⟩]] [] K = (spec_l01Vector.s N (fun d0 => K (.bool (d0)) []) (fun i3 => xloop (xcode (E11 N) ents spec_l01Vector.kp 0 N (cL (cK (cB (cA (cB spec_l01Vector.bd))))) 0) spec_l01Vector.kp 0 0 N (spec_l01Vector.st0 p0 nv1 v2 i3) (spec_l01Vector.k0 N K))) := by kernel_rfl
theorem spec_l01Vector.eq {ρ : Type} (N : Nat) (K : AV → Heap → Option ρ) (p0 : Int) (nv1 : Int) (v2 : Nat → Int) :
    xbody (E11 N) ents spec_l01Vector.kp N Go.Proofs.Tryz.f38 spec_l01Vector.bd [.int .i64 (p0), .int .i64 (nv1), .agg [⟨.u8, 8, v2⟩]] [] K = (spec_l01Vector N (fun d0 => K (.bool (d0)) []) p0 nv1 v2) := by
  refine (spec_l01Vector.s_eq N K p0 nv1 v2).trans ?_
  simp only [spec_l01Vector.l0_eq, spec_l01Vector.a0_0_eq]
  kernel_rfl
def spec_l01Vector.en (N : Nat) (ρ : Type) : List AV → Heap → (AV → Heap → Option ρ) → Option ρ
  | [.int .i64 (p0), .int .i64 (nv1), .agg [⟨.u8, 8, v2⟩]], [], K => (spec_l01Vector N (fun d0 => K (.bool (d0)) []) p0 nv1 v2)
  | _, _, _ => none
theorem spec_l01Vector.en_ok (N : Nat) (hE : EnvOk (E11 N) ents) (ρ : Type) (args : List AV) (sh : Heap) (K : AV → Heap → Option ρ) (r : ρ) (h : spec_l01Vector.en N ρ args sh K = some r) : ∃ v sh', K v sh' = some r ∧ FnOk (E11 N).P 38 args sh v sh' := by
  unfold spec_l01Vector.en at h
  split at h
  · exact fn_ok hE (kp := spec_l01Vector.kp) (N := N) Go.Proofs.Tryz.func38 (c := spec_l01Vector.bd) (by kernel_rfl) ((spec_l01Vector.eq N _ _ _ _).trans h)
  · cases h
def E12 (N : Nat) : Env := (E11 N).add 38 (spec_l01Vector.en N)
theorem E12_ok (N : Nat) : EnvOk (E12 N) ents := Env.add_ok (E11_ok N) (spec_l01Vector.en_ok N (E11_ok N))
def spec_l01Many_su.kp : Keeps := ⟨[(0, [0, 1, 2, 7], [], [])], [(0, [], [], [])], []⟩
def spec_l01Many_su.bd : Code := bodyOf Go.Proofs.Tryz.f22
def spec_l01Many_su.fin {ρ : Type} (N : Nat) (K : AV → Heap → Option ρ) (gv3 : Nat) (gv4 : Nat → Int) : XE → St → Option ρ := finK (E12 N) spec_l01Many_su.kp.fins Go.Proofs.Tryz.f22 [⟨false, .flat gv3 (.ints .u8 gv4)⟩] K
def spec_l01Many_su.k0 {ρ : Type} (N : Nat) (K : AV → Heap → Option ρ) (gv3 : Nat) (gv4 : Nat → Int) : XE → St → Option ρ := (blockK spec_l01Many_su.kp 1 0 (seqK (xcode (E12 N) ents spec_l01Many_su.kp 1 N (cB (cB (cB spec_l01Many_su.bd))) 0) (spec_l01Many_su.fin N K gv3 gv4)))
theorem spec_l01Many_su.k0_mix {ρ : Type} (N : Nat) (K : AV → Heap → Option ρ) (gv3 : Nat) (gv4 : Nat → Int) : mixK (spec_l01Many_su.fin N K gv3 gv4 .ret) (spec_l01Many_su.k0 N K gv3 gv4) = (spec_l01Many_su.k0 N K gv3 gv4) := by
  funext e s; cases e <;> kernel_rfl
def spec_l01Many_su.st0 (p0 : Int) (nv1 : Int) (list2 : Nat) (gv3 : Nat) (gv4 : Nat → Int) (i6 : Int) : St := ⟨sl 26 [(0, .int .i64 (p0)), (1, .int .i64 (nv1)), (2, .slice true 0 0 list2 .unk 8), (7, .int .i64 (i6))], [⟨false, .flat gv3 (.ints .u8 gv4)⟩]⟩
def spec_l01Many_su.sx0_0 (gv3 : Nat) (gv4 : Nat → Int) : St := ⟨sl 26 [], [⟨false, .flat gv3 (.ints .u8 gv4)⟩]⟩
theorem spec_l01Many_su.b0_gen {ρ : Type} (N : Nat) (K : AV → Heap → Option ρ) (L0 : St → Option ρ) (kv : XE → St → Option ρ) (p0 : Int) (nv1 : Int) (list2 : Nat) (gv3 : Nat) (gv4 : Nat → Int) (i6 : Int) :
    xcode (E12 N) ents spec_l01Many_su.kp 1 N (cL (cK (cB (cA (cB (cB spec_l01Many_su.bd)))))) 0 (spec_l01Many_su.st0 p0 nv1 list2 gv3 gv4 i6) (roundK spec_l01Many_su.kp 1 0 L0 (mixK (spec_l01Many_su.fin N K gv3 gv4 .ret) kv)) = (spec_l01Many_su.b0 N (fun d0 => K (.int .i64 (d0)) [⟨false, .flat gv3 (.ints .u8 gv4)⟩]) (fun i6 => L0 (spec_l01Many_su.st0 p0 nv1 list2 gv3 gv4 i6)) (kv (.exit 0) (spec_l01Many_su.sx0_0 gv3 gv4)) p0 nv1 list2 gv4 i6) := by kernel_rfl
theorem spec_l01Many_su.b0_eq {ρ : Type} (N : Nat) (K : AV → Heap → Option ρ) (L0 : St → Option ρ) (p0 : Int) (nv1 : Int) (list2 : Nat) (gv3 : Nat) (gv4 : Nat → Int) (i6 : Int) :
    xcode (E12 N) ents spec_l01Many_su.kp 1 N (cL (cK (cB (cA (cB (cB spec_l01Many_su.bd)))))) 0 (spec_l01Many_su.st0 p0 nv1 list2 gv3 gv4 i6) (roundK spec_l01Many_su.kp 1 0 L0 (spec_l01Many_su.k0 N K gv3 gv4)) = (spec_l01Many_su.b0 N (fun d0 => K (.int .i64 (d0)) [⟨false, .flat gv3 (.ints .u8 gv4)⟩]) (fun i6 => L0 (spec_l01Many_su.st0 p0 nv1 list2 gv3 gv4 i6)) ((spec_l01Many_su.k0 N K gv3 gv4) (.exit 0) (spec_l01Many_su.sx0_0 gv3 gv4)) p0 nv1 list2 gv4 i6) := by
  have h := spec_l01Many_su.b0_gen N K L0 (spec_l01Many_su.k0 N K gv3 gv4) p0 nv1 list2 gv3 gv4 i6
  rw [spec_l01Many_su.k0_mix] at h
  exact h
theorem spec_l01Many_su.a0_0_eq {ρ : Type} (N : Nat) (K : AV → Heap → Option ρ) (gv3 : Nat) (gv4 : Nat → Int) :
    (spec_l01Many_su.k0 N K gv3 gv4) (.exit 0) (spec_l01Many_su.sx0_0 gv3 gv4) = (spec_l01Many_su.a0_0 N (fun d0 => K (.int .i64 (d0)) [⟨false, .flat gv3 (.ints .u8 gv4)⟩])) := by kernel_rfl
theorem spec_l01Many_su.l0_eq {ρ : Type} (N : Nat) (K : AV → Heap → Option ρ) (p0 : Int) (nv1 : Int) (list2 : Nat) (gv3 : Nat) (gv4 : Nat → Int) :
    ∀ (m : Nat) (i6 : Int), xloop (xcode (E12 N) ents spec_l01Many_su.kp 1 N (cL (cK (cB (cA (cB (cB spec_l01Many_su.bd)))))) 0) spec_l01Many_su.kp 1 0 m (spec_l01Many_su.st0 p0 nv1 list2 gv3 gv4 i6) (spec_l01Many_su.k0 N K gv3 gv4) = (spec_l01Many_su.l0 N (fun d0 => K (.int .i64 (d0)) [⟨false, .flat gv3 (.ints .u8 gv4)⟩]) p0 nv1 list2 gv4 ((spec_l01Many_su.k0 N K gv3 gv4) (.exit 0) (spec_l01Many_su.sx0_0 gv3 gv4)) m i6) := by
  intro m
  induction m with
  | zero => intros; rfl
  | succ m ih =>
    intro i6
    refine (spec_l01Many_su.b0_eq N K (fun s => xloop (xcode (E12 N) ents spec_l01Many_su.kp 1 N (cL (cK (cB (cA (cB (cB spec_l01Many_su.bd)))))) 0) spec_l01Many_su.kp 1 0 m s (spec_l01Many_su.k0 N K gv3 gv4)) p0 nv1 list2 gv3 gv4 i6).trans ?_
    simp only [ih]
    kernel_rfl
theorem spec_l01Many_su.s_eq {ρ : Type} (N : Nat) (K : AV → Heap → Option ρ) (p0 : Int) (nv1 : Int) (list2 : Nat) (gv3 : Nat) (gv4 : Nat → Int) :
    xbody (E12 N) ents spec_l01Many_su.kp N Go.Proofs.Tryz.f22 spec_l01Many_su.bd [.int .i64 (p0), .int .i64 (nv1), .slice true 0 0 list2 .unk 8] [⟨false, .flat gv3 (.ints .u8 gv4)⟩] K = (spec_l01Many_su.s N (fun d0 => K (.int .i64 (d0)) [⟨false, .flat gv3 (.ints .u8 gv4)⟩]) (fun i6 => xloop (xcode (E12 N) ents spec_l01Many_su.kp 1 N (cL (cK (cB (cA (cB (cB spec_l01Many_su.bd)))))) 0) spec_l01Many_su.kp 1 0 N (spec_l01Many_su.st0 p0 nv1 list2 gv3 gv4 i6) (spec_l01Many_su.k0 N K gv3 gv4)) p0 nv1) := by kernel_rfl
theorem spec_l01Many_su.eq {ρ : Type} (N : Nat) (K : AV → Heap → Option ρ) (p0 : Int) (nv1 : Int) (list2 : Nat) (gv3 : Nat) (gv4 : Nat → Int) :
    xbody (E12 N) ents spec_l01Many_su.kp N Go.Proofs.Tryz.f22 spec_l01Many_su.bd [.int .i64 (p0), .int .i64 (nv1), .slice true 0 0 list2 .unk 8] [⟨false, .flat gv3 (.ints .u8 gv4)⟩] K = (spec_l01Many_su N (fun d0 => K (.int .i64 (d0)) [⟨false, .flat gv3 (.ints .u8 gv4)⟩]) p0 nv1 list2 gv3 gv4) := by
  refine (spec_l01Many_su.s_eq N K p0 nv1 list2 gv3 gv4).trans ?_
  simp only [spec_l01Many_su.l0_eq, spec_l01Many_su.a0_0_eq]
  kernel_rfl
def spec_l01Many_su.en (N : Nat) (ρ : Type) : List AV → Heap → (AV → Heap → Option ρ) → Option ρ
  | [.int .i64 (p0), .int .i64 (nv1), .slice true 0 0 list2 .unk 8], [⟨false, .flat gv3 (.ints .u8 gv4)⟩], K => (spec_l01Many_su N (fun d0 => K (.int .i64 (d0)) [⟨false, .flat gv3 (.ints .u8 gv4)⟩]) p0 nv1 list2 gv3 gv4)
  | _, _, _ => none
theorem spec_l01Many_su.en_ok (N : Nat) (hE : EnvOk (E12 N) ents) (ρ : Type) (args : List AV) (sh : Heap) (K : AV → Heap → Option ρ) (r : ρ) (h : spec_l01Many_su.en N ρ args sh K = some r) : ∃ v sh', K v sh' = some r ∧ FnOk (E12 N).P 22 args sh v sh' := by
  unfold spec_l01Many_su.en at h
  split at h
  · exact fn_ok hE (kp := spec_l01Many_su.kp) (N := N) Go.Proofs.Tryz.func22 (c := spec_l01Many_su.bd) (by kernel_rfl) ((spec_l01Many_su.eq N _ _ _ _ _ _).trans h)
  · cases h
def E13 (N : Nat) : Env := (E12 N).add 22 (spec_l01Many_su.en N)
theorem E13_ok (N : Nat) : EnvOk (E13 N) ents := Env.add_ok (E12_ok N) (spec_l01Many_su.en_ok N (E12_ok N))
def spec_l01First.kp : Keeps := ⟨[(0, [1, 3], [], [])], [(0, [3], [], [])], []⟩
def spec_l01First.bd : Code := bodyOf Go.Proofs.Tryz.f57
def spec_l01First.fin {ρ : Type} (N : Nat) (K : AV → Heap → Option ρ) : XE → St → Option ρ := finK (E13 N) spec_l01First.kp.fins Go.Proofs.Tryz.f57 [] K
def spec_l01First.k0 {ρ : Type} (N : Nat) (K : AV → Heap → Option ρ) : XE → St → Option ρ := (blockK spec_l01First.kp 0 0 (seqK (xcode (E13 N) ents spec_l01First.kp 0 N (cB (cB (cB spec_l01First.bd))) 0) (spec_l01First.fin N K)))
theorem spec_l01First.k0_mix {ρ : Type} (N : Nat) (K : AV → Heap → Option ρ) : mixK (spec_l01First.fin N K .ret) (spec_l01First.k0 N K) = (spec_l01First.k0 N K) := by
  funext e s; cases e <;> kernel_rfl
def spec_l01First.st0 (v0 : Nat → Int) (at1 : Int) : St := ⟨sl 15 [(1, .sptr [(0, 8)]), (3, .int .i64 (at1))], [⟨true, .flat 8 (.ints .u8 v0)⟩]⟩
def spec_l01First.sx0_0 (ov2 : Int) : St := ⟨sl 15 [(3, .int .i64 (ov2))], []⟩
theorem spec_l01First.b0_gen {ρ : Type} (N : Nat) (K : AV → Heap → Option ρ) (L0 : St → Option ρ) (kv : XE → St → Option ρ) (v0 : Nat → Int) (at1 : Int) :
    xcode (E13 N) ents spec_l01First.kp 0 N (cL (cK (cA (cB (cB spec_l01First.bd))))) 0 (spec_l01First.st0 v0 at1) (roundK spec_l01First.kp 0 0 L0 (mixK (spec_l01First.fin N K .ret) kv)) = (spec_l01First.b0 N (fun d0 => K (.int .i64 (d0)) []) (fun at1 => L0 (spec_l01First.st0 v0 at1)) (fun ov2 => kv (.exit 0) (spec_l01First.sx0_0 ov2)) v0 at1) := by kernel_rfl
theorem spec_l01First.b0_eq {ρ : Type} (N : Nat) (K : AV → Heap → Option ρ) (L0 : St → Option ρ) (v0 : Nat → Int) (at1 : Int) :
    xcode (E13 N) ents spec_l01First.kp 0 N (cL (cK (cA (cB (cB spec_l01First.bd))))) 0 (spec_l01First.st0 v0 at1) (roundK spec_l01First.kp 0 0 L0 (spec_l01First.k0 N K)) = (spec_l01First.b0 N (fun d0 => K (.int .i64 (d0)) []) (fun at1 => L0 (spec_l01First.st0 v0 at1)) (fun ov2 => (spec_l01First.k0 N K) (.exit 0) (spec_l01First.sx0_0 ov2)) v0 at1) := by
  have h := spec_l01First.b0_gen N K L0 (spec_l01First.k0 N K) v0 at1
  rw [spec_l01First.k0_mix] at h
  exact h
theorem spec_l01First.a0_0_eq {ρ : Type} (N : Nat) (K : AV → Heap → Option ρ) (ov2 : Int) :
    (spec_l01First.k0 N K) (.exit 0) (spec_l01First.sx0_0 ov2) = (spec_l01First.a0_0 N (fun d0 => K (.int .i64 (d0)) []) ov2) := by kernel_rfl
theorem spec_l01First.l0_eq {ρ : Type} (N : Nat) (K : AV → Heap → Option ρ) (v0 : Nat → Int) :
    ∀ (m : Nat) (at1 : Int), xloop (xcode (E13 N) ents spec_l01First.kp 0 N (cL (cK (cA (cB (cB spec_l01First.bd))))) 0) spec_l01First.kp 0 0 m (spec_l01First.st0 v0 at1) (spec_l01First.k0 N K) = (spec_l01First.l0 N (fun d0 => K (.int .i64 (d0)) []) v0 (fun ov2 => (spec_l01First.k0 N K) (.exit 0) (spec_l01First.sx0_0 ov2)) m at1) := by
  intro m
  induction m with
  | zero => intros; rfl
  | succ m ih =>
    intro at1
    refine (spec_l01First.b0_eq N K (fun s => xloop (xcode (E13 N) ents spec_l01First.kp 0 N (cL (cK (cA (cB (cB spec_l01First.bd))))) 0) spec_l01First.kp 0 0 m s (spec_l01First.k0 N K)) v0 at1).trans ?_
    simp only [ih]
    kernel_rfl
theorem spec_l01First.s_eq {ρ : Type} (N : Nat) (K : AV → Heap → Option ρ) (v0 : Nat → Int) :
    xbody (E13 N) ents spec_l01First.kp N Go.Proofs.Tryz.f57 spec_l01First.bd [.agg [⟨.u8, 8, v0⟩]] [] K = (spec_l01First.s N (fun d0 => K (.int .i64 (d0)) []) (fun at1 => xloop (xcode (E13 N) ents spec_l01First.kp 0 N (cL (cK (cA (cB (cB spec_l01First.bd))))) 0) spec_l01First.kp 0 0 N (spec_l01First.st0 v0 at1) (spec_l01First.k0 N K))) := by kernel_rfl
theorem spec_l01First.eq {ρ : Type} (N : Nat) (K : AV → Heap → Option ρ) (v0 : Nat → Int) :
    xbody (E13 N) ents spec_l01First.kp N Go.Proofs.Tryz.f57 spec_l01First.bd [.agg [⟨.u8, 8, v0⟩]] [] K = (spec_l01First N (fun d0 => K (.int .i64 (d0)) []) v0) := by
  refine (spec_l01First.s_eq N K v0).trans ?_
  simp only [spec_l01First.l0_eq, spec_l01First.a0_0_eq]
  kernel_rfl
def spec_l01First.en (N : Nat) (ρ : Type) : List AV → Heap → (AV → Heap → Option ρ) → Option ρ
  | [.agg [⟨.u8, 8, v0⟩]], [], K => (spec_l01First N (fun d0 => K (.int .i64 (d0)) []) v0)
  | _, _, _ => none
theorem spec_l01First.en_ok (N : Nat) (hE : EnvOk (E13 N) ents) (ρ : Type) (args : List AV) (sh : Heap) (K : AV → Heap → Option ρ) (r : ρ) (h : spec_l01First.en N ρ args sh K = some r) : ∃ v sh', K v sh' = some r ∧ FnOk (E13 N).P 57 args sh v sh' := by
  unfold spec_l01First.en at h
  split at h
  · exact fn_ok hE (kp := spec_l01First.kp) (N := N) Go.Proofs.Tryz.func57 (c := spec_l01First.bd) (by kernel_rfl) ((spec_l01First.eq N _ _).trans h)
  · cases h
def E14 (N : Nat) : Env := (E13 N).add 57 (spec_l01First.en N)
theorem E14_ok (N : Nat) : EnvOk (E14 N) ents := Env.add_ok (E13_ok N) (spec_l01First.en_ok N (E13_ok N))
def spec_l01Mod.kp : Keeps := ⟨[], [], []⟩
def spec_l01Mod.bd : Code := bodyOf Go.Proofs.Tryz.f78
def spec_l01Mod.fin {ρ : Type} (N : Nat) (K : AV → Heap → Option ρ) : XE → St → Option ρ := finK (E14 N) spec_l01Mod.kp.fins Go.Proofs.Tryz.f78 [] K
theorem spec_l01Mod.eq {ρ : Type} (N : Nat) (K : AV → Heap → Option ρ) (p0 : Int) (x1 : Int) :
    xbody (E14 N) ents spec_l01Mod.kp N Go.Proofs.Tryz.f78 spec_l01Mod.bd [.int .i64 (p0), .int .i64 (x1)] [] K = (spec_l01Mod N (fun d0 => K (.int .u8 (d0)) []) p0 x1) := by kernel_rfl
def spec_l01Mod.en (N : Nat) (ρ : Type) : List AV → Heap → (AV → Heap → Option ρ) → Option ρ
  | [.int .i64 (p0), .int .i64 (x1)], [], K => (spec_l01Mod N (fun d0 => K (.int .u8 (d0)) []) p0 x1)
  | _, _, _ => none
theorem spec_l01Mod.en_ok (N : Nat) (hE : EnvOk (E14 N) ents) (ρ : Type) (args : List AV) (sh : Heap) (K : AV → Heap → Option ρ) (r : ρ) (h : spec_l01Mod.en N ρ args sh K = some r) : ∃ v sh', K v sh' = some r ∧ FnOk (E14 N).P 78 args sh v sh' := by
  unfold spec_l01Mod.en at h
  split at h
  · exact fn_ok hE (kp := spec_l01Mod.kp) (N := N) Go.Proofs.Tryz.func78 (c := spec_l01Mod.bd) (by kernel_rfl) ((spec_l01Mod.eq N _ _ _).trans h)
  · cases h
def E15 (N : Nat) : Env := (E14 N).add 78 (spec_l01Mod.en N)
theorem E15_ok (N : Nat) : EnvOk (E15 N) ents := Env.add_ok (E14_ok N) (spec_l01Mod.en_ok N (E14_ok N))
def spec_l01Add.kp : Keeps := ⟨[(0, [0, 3, 5, 6, 8, 9], [], [])], [(0, [5, 8], [], [])], []⟩
def spec_l01Add.bd : Code := bodyOf Go.Proofs.Tryz.f58
def spec_l01Add.fin {ρ : Type} (N : Nat) (K : AV → Heap → Option ρ) : XE → St → Option ρ := finK (E15 N) spec_l01Add.kp.fins Go.Proofs.Tryz.f58 [] K
def spec_l01Add.k0 {ρ : Type} (N : Nat) (K : AV → Heap → Option ρ) : XE → St → Option ρ := (blockK spec_l01Add.kp 0 0 (seqK (xcode (E15 N) ents spec_l01Add.kp 0 N (cB (cB spec_l01Add.bd)) 0) (spec_l01Add.fin N K)))
theorem spec_l01Add.k0_mix {ρ : Type} (N : Nat) (K : AV → Heap → Option ρ) : mixK (spec_l01Add.fin N K .ret) (spec_l01Add.k0 N K) = (spec_l01Add.k0 N K) := by
  funext e s; cases e <;> kernel_rfl
def spec_l01Add.st0 (p0 : Int) (w2 : Nat → Int) (k3 : Int) (i4 : Int) (gv5 : Nat → Int) : St := ⟨sl 30 [(0, .int .i64 (p0)), (3, .int .i64 (k3)), (5, .sptr [(0, 8)]), (6, .sptr [(1, 8)]), (8, .sptr [(2, 8)]), (9, .int .i64 (i4))], [⟨true, .flat 8 (.ints .u8 gv5)⟩, ⟨true, .flat 8 (.ints .u8 w2)⟩, ⟨true, .flat 8 (.ints .u8 (fun _ => 0))⟩]⟩
def spec_l01Add.sx0_0 (ov7 : Nat → Int) : St := ⟨sl 30 [(5, .sptr [(0, 8)]), (8, .sptr [(1, 8)])], [⟨true, .flat 8 (.ints .u8 ov7)⟩, ⟨true, .flat 8 (.ints .u8 (fun _ => 0))⟩]⟩
theorem spec_l01Add.b0_gen {ρ : Type} (N : Nat) (K : AV → Heap → Option ρ) (L0 : St → Option ρ) (kv : XE → St → Option ρ) (p0 : Int) (w2 : Nat → Int) (k3 : Int) (i4 : Int) (gv5 : Nat → Int) :
    xcode (E15 N) ents spec_l01Add.kp 0 N (cL (cK (cB (cA (cB spec_l01Add.bd))))) 0 (spec_l01Add.st0 p0 w2 k3 i4 gv5) (roundK spec_l01Add.kp 0 0 L0 (mixK (spec_l01Add.fin N K .ret) kv)) = (spec_l01Add.b0 N (fun d0 => K (.agg [⟨.u8, 8, d0⟩]) []) (fun i4 gv5 => L0 (spec_l01Add.st0 p0 w2 k3 i4 gv5)) (fun ov7 => kv (.exit 0) (spec_l01Add.sx0_0 ov7)) p0 w2 k3 i4 gv5) := by kernel_rfl
theorem spec_l01Add.b0_eq {ρ : Type} (N : Nat) (K : AV → Heap → Option ρ) (L0 : St → Option ρ) (p0 : Int) (w2 : Nat → Int) (k3 : Int) (i4 : Int) (gv5 : Nat → Int) :
    xcode (E15 N) ents spec_l01Add.kp 0 N (cL (cK (cB (cA (cB spec_l01Add.bd))))) 0 (spec_l01Add.st0 p0 w2 k3 i4 gv5) (roundK spec_l01Add.kp 0 0 L0 (spec_l01Add.k0 N K)) = (spec_l01Add.b0 N (fun d0 => K (.agg [⟨.u8, 8, d0⟩]) []) (fun i4 gv5 => L0 (spec_l01Add.st0 p0 w2 k3 i4 gv5)) (fun ov7 => (spec_l01Add.k0 N K) (.exit 0) (spec_l01Add.sx0_0 ov7)) p0 w2 k3 i4 gv5) := by
  have h := spec_l01Add.b0_gen N K L0 (spec_l01Add.k0 N K) p0 w2 k3 i4 gv5
  rw [spec_l01Add.k0_mix] at h
  exact h
theorem spec_l01Add.a0_0_eq {ρ : Type} (N : Nat) (K : AV → Heap → Option ρ) (ov7 : Nat → Int) :
    (spec_l01Add.k0 N K) (.exit 0) (spec_l01Add.sx0_0 ov7) = (spec_l01Add.a0_0 N (fun d0 => K (.agg [⟨.u8, 8, d0⟩]) []) ov7) := by kernel_rfl
theorem spec_l01Add.l0_eq {ρ : Type} (N : Nat) (K : AV → Heap → Option ρ) (p0 : Int) (w2 : Nat → Int) (k3 : Int) :
    ∀ (m : Nat) (i4 : Int) (gv5 : Nat → Int), xloop (xcode (E15 N) ents spec_l01Add.kp 0 N (cL (cK (cB (cA (cB spec_l01Add.bd))))) 0) spec_l01Add.kp 0 0 m (spec_l01Add.st0 p0 w2 k3 i4 gv5) (spec_l01Add.k0 N K) = (spec_l01Add.l0 N (fun d0 => K (.agg [⟨.u8, 8, d0⟩]) []) p0 w2 k3 (fun ov7 => (spec_l01Add.k0 N K) (.exit 0) (spec_l01Add.sx0_0 ov7)) m i4 gv5) := by
  intro m
  induction m with
  | zero => intros; rfl
  | succ m ih =>
    intro i4 gv5
    refine (spec_l01Add.b0_eq N K (fun s => xloop (xcode (E15 N) ents spec_l01Add.kp 0 N (cL (cK (cB (cA (cB spec_l01Add.bd))))) 0) spec_l01Add.kp 0 0 m s (spec_l01Add.k0 N K)) p0 w2 k3 i4 gv5).trans ?_
    simp only [ih]
    kernel_rfl
theorem spec_l01Add.s_eq {ρ : Type} (N : Nat) (K : AV → Heap → Option ρ) (p0 : Int) (v1 : Nat → Int) (w2 : Nat → Int) (k3 : Int) :
    xbody (E15 N) ents spec_l01Add.kp N Go.Proofs.Tryz.f58 spec_l01Add.bd [.int .i64 (p0), .agg [⟨.u8, 8, v1⟩], .agg [⟨.u8, 8, w2⟩], .int .i64 (k3)] [] K = (spec_l01Add.s N (fun d0 => K (.agg [⟨.u8, 8, d0⟩]) []) (fun i4 gv5 => xloop (xcode (E15 N) ents spec_l01Add.kp 0 N (cL (cK (cB (cA (cB spec_l01Add.bd))))) 0) spec_l01Add.kp 0 0 N (spec_l01Add.st0 p0 w2 k3 i4 gv5) (spec_l01Add.k0 N K)) v1) := by kernel_rfl
theorem spec_l01Add.eq {ρ : Type} (N : Nat) (K : AV → Heap → Option ρ) (p0 : Int) (v1 : Nat → Int) (w2 : Nat → Int) (k3 : Int) :
    xbody (E15 N) ents spec_l01Add.kp N Go.Proofs.Tryz.f58 spec_l01Add.bd [.int .i64 (p0), .agg [⟨.u8, 8, v1⟩], .agg [⟨.u8, 8, w2⟩], .int .i64 (k3)] [] K = (spec_l01Add N (fun d0 => K (.agg [⟨.u8, 8, d0⟩]) []) p0 v1 w2 k3) := by
  refine (spec_l01Add.s_eq N K p0 v1 w2 k3).trans ?_
  simp only [spec_l01Add.l0_eq, spec_l01Add.a0_0_eq]
  kernel_rfl
def spec_l01Add.en (N : Nat) (ρ : Type) : List AV → Heap → (AV → Heap → Option ρ) → Option ρ
  | [.int .i64 (p0), .agg [⟨.u8, 8, v1⟩], .agg [⟨.u8, 8, w2⟩], .int .i64 (k3)], [], K => (spec_l01Add N (fun d0 => K (.agg [⟨.u8, 8, d0⟩]) []) p0 v1 w2 k3)
  | _, _, _ => none
theorem spec_l01Add.en_ok (N : Nat) (hE : EnvOk (E15 N) ents) (ρ : Type) (args : List AV) (sh : Heap) (K : AV → Heap → Option ρ) (r : ρ) (h : spec_l01Add.en N ρ args sh K = some r) : ∃ v sh', K v sh' = some r ∧ FnOk (E15 N).P 58 args sh v sh' := by
  unfold spec_l01Add.en at h
  split at h
  · exact fn_ok hE (kp := spec_l01Add.kp) (N := N) Go.Proofs.Tryz.func58 (c := spec_l01Add.bd) (by kernel_rfl) ((spec_l01Add.eq N _ _ _ _ _).trans h)
  · cases h
def E16 (N : Nat) : Env := (E15 N).add 58 (spec_l01Add.en N)
theorem E16_ok (N : Nat) : EnvOk (E16 N) ents := Env.add_ok (E15_ok N) (spec_l01Add.en_ok N (E15_ok N))
def spec_l01Zero.kp : Keeps := ⟨[], [], []⟩
def spec_l01Zero.bd : Code := bodyOf Go.Proofs.Tryz.f56
def spec_l01Zero.fin {ρ : Type} (N : Nat) (K : AV → Heap → Option ρ) : XE → St → Option ρ := finK (E16 N) spec_l01Zero.kp.fins Go.Proofs.Tryz.f56 [] K
theorem spec_l01Zero.eq {ρ : Type} (N : Nat) (K : AV → Heap → Option ρ) (v0 : Nat → Int) :
    xbody (E16 N) ents spec_l01Zero.kp N Go.Proofs.Tryz.f56 spec_l01Zero.bd [.agg [⟨.u8, 8, v0⟩]] [] K = (spec_l01Zero N (fun d0 => K (.bool (d0)) []) v0) := by kernel_rfl
def spec_l01Zero.en (N : Nat) (ρ : Type) : List AV → Heap → (AV → Heap → Option ρ) → Option ρ
  | [.agg [⟨.u8, 8, v0⟩]], [], K => (spec_l01Zero N (fun d0 => K (.bool (d0)) []) v0)
  | _, _, _ => none
theorem spec_l01Zero.en_ok (N : Nat) (hE : EnvOk (E16 N) ents) (ρ : Type) (args : List AV) (sh : Heap) (K : AV → Heap → Option ρ) (r : ρ) (h : spec_l01Zero.en N ρ args sh K = some r) : ∃ v sh', K v sh' = some r ∧ FnOk (E16 N).P 56 args sh v sh' := by
  unfold spec_l01Zero.en at h
  split at h
  · exact fn_ok hE (kp := spec_l01Zero.kp) (N := N) Go.Proofs.Tryz.func56 (c := spec_l01Zero.bd) (by kernel_rfl) ((spec_l01Zero.eq N _ _).trans h)
  · cases h
def E17 (N : Nat) : Env := (E16 N).add 56 (spec_l01Zero.en N)
theorem E17_ok (N : Nat) : EnvOk (E17 N) ents := Env.add_ok (E16_ok N) (spec_l01Zero.en_ok N (E16_ok N))
def spec_l01Inverse.kp : Keeps := ⟨[(0, [0, 1, 5], [], [])], [(0, [], [], [])], []⟩
def spec_l01Inverse.bd : Code := bodyOf Go.Proofs.Tryz.f59
def spec_l01Inverse.fin {ρ : Type} (N : Nat) (K : AV → Heap → Option ρ) : XE → St → Option ρ := finK (E17 N) spec_l01Inverse.kp.fins Go.Proofs.Tryz.f59 [] K
def spec_l01Inverse.k0 {ρ : Type} (N : Nat) (K : AV → Heap → Option ρ) : XE → St → Option ρ := (blockK spec_l01Inverse.kp 0 0 (seqK (xcode (E17 N) ents spec_l01Inverse.kp 0 N (cB (cB spec_l01Inverse.bd)) 0) (spec_l01Inverse.fin N K)))
theorem spec_l01Inverse.k0_mix {ρ : Type} (N : Nat) (K : AV → Heap → Option ρ) : mixK (spec_l01Inverse.fin N K .ret) (spec_l01Inverse.k0 N K) = (spec_l01Inverse.k0 N K) := by
  funext e s; cases e <;> kernel_rfl
def spec_l01Inverse.st0 (p0 : Int) (x1 : Int) (k2 : Int) : St := ⟨sl 20 [(0, .int .i64 (p0)), (1, .int .u8 (x1)), (5, .int .i64 (k2))], []⟩
def spec_l01Inverse.sx0_0 : St := ⟨sl 20 [], []⟩
theorem spec_l01Inverse.b0_gen {ρ : Type} (N : Nat) (K : AV → Heap → Option ρ) (L0 : St → Option ρ) (kv : XE → St → Option ρ) (p0 : Int) (x1 : Int) (k2 : Int) :
    xcode (E17 N) ents spec_l01Inverse.kp 0 N (cL (cK (cB (cA (cB spec_l01Inverse.bd))))) 0 (spec_l01Inverse.st0 p0 x1 k2) (roundK spec_l01Inverse.kp 0 0 L0 (mixK (spec_l01Inverse.fin N K .ret) kv)) = (spec_l01Inverse.b0 N (fun d0 => K (.int .u8 (d0)) []) (fun k2 => L0 (spec_l01Inverse.st0 p0 x1 k2)) (kv (.exit 0) (spec_l01Inverse.sx0_0)) p0 x1 k2) := by kernel_rfl
theorem spec_l01Inverse.b0_eq {ρ : Type} (N : Nat) (K : AV → Heap → Option ρ) (L0 : St → Option ρ) (p0 : Int) (x1 : Int) (k2 : Int) :
    xcode (E17 N) ents spec_l01Inverse.kp 0 N (cL (cK (cB (cA (cB spec_l01Inverse.bd))))) 0 (spec_l01Inverse.st0 p0 x1 k2) (roundK spec_l01Inverse.kp 0 0 L0 (spec_l01Inverse.k0 N K)) = (spec_l01Inverse.b0 N (fun d0 => K (.int .u8 (d0)) []) (fun k2 => L0 (spec_l01Inverse.st0 p0 x1 k2)) ((spec_l01Inverse.k0 N K) (.exit 0) (spec_l01Inverse.sx0_0)) p0 x1 k2) := by
  have h := spec_l01Inverse.b0_gen N K L0 (spec_l01Inverse.k0 N K) p0 x1 k2
  rw [spec_l01Inverse.k0_mix] at h
  exact h
theorem spec_l01Inverse.a0_0_eq {ρ : Type} (N : Nat) (K : AV → Heap → Option ρ) :
    (spec_l01Inverse.k0 N K) (.exit 0) (spec_l01Inverse.sx0_0) = (spec_l01Inverse.a0_0 N (fun d0 => K (.int .u8 (d0)) [])) := by kernel_rfl
theorem spec_l01Inverse.l0_eq {ρ : Type} (N : Nat) (K : AV → Heap → Option ρ) (p0 : Int) (x1 : Int) :
    ∀ (m : Nat) (k2 : Int), xloop (xcode (E17 N) ents spec_l01Inverse.kp 0 N (cL (cK (cB (cA (cB spec_l01Inverse.bd))))) 0) spec_l01Inverse.kp 0 0 m (spec_l01Inverse.st0 p0 x1 k2) (spec_l01Inverse.k0 N K) = (spec_l01Inverse.l0 N (fun d0 => K (.int .u8 (d0)) []) p0 x1 ((spec_l01Inverse.k0 N K) (.exit 0) (spec_l01Inverse.sx0_0)) m k2) := by
  intro m
  induction m with
  | zero => intros; rfl
  | succ m ih =>
    intro k2
    refine (spec_l01Inverse.b0_eq N K (fun s => xloop (xcode (E17 N) ents spec_l01Inverse.kp 0 N (cL (cK (cB (cA (cB spec_l01Inverse.bd))))) 0) spec_l01Inverse.kp 0 0 m s (spec_l01Inverse.k0 N K)) p0 x1 k2).trans ?_
    simp only [ih]
    kernel_rfl
theorem spec_l01Inverse.s_eq {ρ : Type} (N : Nat) (K : AV → Heap → Option ρ) (p0 : Int) (x1 : Int) :
    xbody (E17 N) ents spec_l01Inverse.kp N Go.Proofs.Tryz.f59 spec_l01Inverse.bd [.int .i64 (p0), .int .u8 (x1)] [] K = (spec_l01Inverse.s N (fun d0 => K (.int .u8 (d0)) []) (fun k2 => xloop (xcode (E17 N) ents spec_l01Inverse.kp 0 N (cL (cK (cB (cA (cB spec_l01Inverse.bd))))) 0) spec_l01Inverse.kp 0 0 N (spec_l01Inverse.st0 p0 x1 k2) (spec_l01Inverse.k0 N K))) := by kernel_rfl
theorem spec_l01Inverse.eq {ρ : Type} (N : Nat) (K : AV → Heap → Option ρ) (p0 : Int) (x1 : Int) :
    xbody (E17 N) ents spec_l01Inverse.kp N Go.Proofs.Tryz.f59 spec_l01Inverse.bd [.int .i64 (p0), .int .u8 (x1)] [] K = (spec_l01Inverse N (fun d0 => K (.int .u8 (d0)) []) p0 x1) := by
  refine (spec_l01Inverse.s_eq N K p0 x1).trans ?_
  simp only [spec_l01Inverse.l0_eq, spec_l01Inverse.a0_0_eq]
  kernel_rfl
def spec_l01Inverse.en (N : Nat) (ρ : Type) : List AV → Heap → (AV → Heap → Option ρ) → Option ρ
  | [.int .i64 (p0), .int .u8 (x1)], [], K => (spec_l01Inverse N (fun d0 => K (.int .u8 (d0)) []) p0 x1)
  | _, _, _ => none
theorem spec_l01Inverse.en_ok (N : Nat) (hE : EnvOk (E17 N) ents) (ρ : Type) (args : List AV) (sh : Heap) (K : AV → Heap → Option ρ) (r : ρ) (h : spec_l01Inverse.en N ρ args sh K = some r) : ∃ v sh', K v sh' = some r ∧ FnOk (E17 N).P 59 args sh v sh' := by
  unfold spec_l01Inverse.en at h
  split at h
  · exact fn_ok hE (kp := spec_l01Inverse.kp) (N := N) Go.Proofs.Tryz.func59 (c := spec_l01Inverse.bd) (by kernel_rfl) ((spec_l01Inverse.eq N _ _ _).trans h)
  · cases h
def E18 (N : Nat) : Env := (E17 N).add 59 (spec_l01Inverse.en N)
theorem E18_ok (N : Nat) : EnvOk (E18 N) ents := Env.add_ok (E17_ok N) (spec_l01Inverse.en_ok N (E17_ok N))
def spec_l01By_su_v2.kp : Keeps := ⟨[(0, [0, 2, 4, 6, 7], [], [])], [(0, [4, 6], [], [])], []⟩
def spec_l01By_su_v2.bd : Code := bodyOf Go.Proofs.Tryz.f55
def spec_l01By_su_v2.fin {ρ : Type} (N : Nat) (K : AV → Heap → Option ρ) (gv3 : Nat) (gv4 : Nat → Int) : XE → St → Option ρ := finK (E18 N) spec_l01By_su_v2.kp.fins Go.Proofs.Tryz.f55 [⟨false, .flat gv3 (.ints .u8 gv4)⟩] K
def spec_l01By_su_v2.k0 {ρ : Type} (N : Nat) (K : AV → Heap → Option ρ) (gv3 : Nat) (gv4 : Nat → Int) : XE → St → Option ρ := (blockK spec_l01By_su_v2.kp 1 0 (seqK (xcode (E18 N) ents spec_l01By_su_v2.kp 1 N (cB (cB spec_l01By_su_v2.bd)) 0) (spec_l01By_su_v2.fin N K gv3 gv4)))
theorem spec_l01By_su_v2.k0_mix {ρ : Type} (N : Nat) (K : AV → Heap → Option ρ) (gv3 : Nat) (gv4 : Nat → Int) : mixK (spec_l01By_su_v2.fin N K gv3 gv4 .ret) (spec_l01By_su_v2.k0 N K gv3 gv4) = (spec_l01By_su_v2.k0 N K gv3 gv4) := by
  funext e s; cases e <;> kernel_rfl
def spec_l01By_su_v2.st0 (p0 : Int) (rows2 : Nat) (gv3 : Nat) (gv4 : Nat → Int) (i5 : Int) (gv6 : Nat → Int) : St := ⟨sl 37 [(0, .int .i64 (p0)), (2, .slice false 0 0 rows2 .unk 8), (4, .sptr [(1, 8)]), (6, .sptr [(2, 8)]), (7, .int .i64 (i5))], [⟨false, .flat gv3 (.ints .u8 gv4)⟩, ⟨true, .flat 8 (.ints .u8 gv6)⟩, ⟨true, .flat 8 (.ints .u8 (fun _ => 0))⟩]⟩
def spec_l01By_su_v2.sx0_0 (gv3 : Nat) (gv4 : Nat → Int) (ov9 : Nat → Int) : St := ⟨sl 37 [(4, .sptr [(1, 8)]), (6, .sptr [(2, 8)])], [⟨false, .flat gv3 (.ints .u8 gv4)⟩, ⟨true, .flat 8 (.ints .u8 ov9)⟩, ⟨true, .flat 8 (.ints .u8 (fun _ => 0))⟩]⟩
theorem spec_l01By_su_v2.b0_gen {ρ : Type} (N : Nat) (K : AV → Heap → Option ρ) (L0 : St → Option ρ) (kv : XE → St → Option ρ) (p0 : Int) (rows2 : Nat) (gv3 : Nat) (gv4 : Nat → Int) (i5 : Int) (gv6 : Nat → Int) :
    xcode (E18 N) ents spec_l01By_su_v2.kp 1 N (cL (cK (cB (cA (cB spec_l01By_su_v2.bd))))) 0 (spec_l01By_su_v2.st0 p0 rows2 gv3 gv4 i5 gv6) (roundK spec_l01By_su_v2.kp 1 0 L0 (mixK (spec_l01By_su_v2.fin N K gv3 gv4 .ret) kv)) = (spec_l01By_su_v2.b0 N (fun d0 => K (.agg [⟨.u8, 8, d0⟩]) [⟨false, .flat gv3 (.ints .u8 gv4)⟩]) (fun i5 gv6 => L0 (spec_l01By_su_v2.st0 p0 rows2 gv3 gv4 i5 gv6)) (fun ov9 => kv (.exit 0) (spec_l01By_su_v2.sx0_0 gv3 gv4 ov9)) p0 rows2 gv4 i5 gv6) := by kernel_rfl
theorem spec_l01By_su_v2.b0_eq {ρ : Type} (N : Nat) (K : AV → Heap → Option ρ) (L0 : St → Option ρ) (p0 : Int) (rows2 : Nat) (gv3 : Nat) (gv4 : Nat → Int) (i5 : Int) (gv6 : Nat → Int) :
    xcode (E18 N) ents spec_l01By_su_v2.kp 1 N (cL (cK (cB (cA (cB spec_l01By_su_v2.bd))))) 0 (spec_l01By_su_v2.st0 p0 rows2 gv3 gv4 i5 gv6) (roundK spec_l01By_su_v2.kp 1 0 L0 (spec_l01By_su_v2.k0 N K gv3 gv4)) = (spec_l01By_su_v2.b0 N (fun d0 => K (.agg [⟨.u8, 8, d0⟩]) [⟨false, .flat gv3 (.ints .u8 gv4)⟩]) (fun i5 gv6 => L0 (spec_l01By_su_v2.st0 p0 rows2 gv3 gv4 i5 gv6)) (fun ov9 => (spec_l01By_su_v2.k0 N K gv3 gv4) (.exit 0) (spec_l01By_su_v2.sx0_0 gv3 gv4 ov9)) p0 rows2 gv4 i5 gv6) := by
  have h := spec_l01By_su_v2.b0_gen N K L0 (spec_l01By_su_v2.k0 N K gv3 gv4) p0 rows2 gv3 gv4 i5 gv6
  rw [spec_l01By_su_v2.k0_mix] at h
  exact h
theorem spec_l01By_su_v2.a0_0_eq {ρ : Type} (N : Nat) (K : AV → Heap → Option ρ) (gv3 : Nat) (gv4 : Nat → Int) (ov9 : Nat → Int) :
    (spec_l01By_su_v2.k0 N K gv3 gv4) (.exit 0) (spec_l01By_su_v2.sx0_0 gv3 gv4 ov9) = (spec_l01By_su_v2.a0_0 N (fun d0 => K (.agg [⟨.u8, 8, d0⟩]) [⟨false, .flat gv3 (.ints .u8 gv4)⟩]) ov9) := by kernel_rfl
theorem spec_l01By_su_v2.l0_eq {ρ : Type} (N : Nat) (K : AV → Heap → Option ρ) (p0 : Int) (rows2 : Nat) (gv3 : Nat) (gv4 : Nat → Int) :
    ∀ (m : Nat) (i5 : Int) (gv6 : Nat → Int), xloop (xcode (E18 N) ents spec_l01By_su_v2.kp 1 N (cL (cK (cB (cA (cB spec_l01By_su_v2.bd))))) 0) spec_l01By_su_v2.kp 1 0 m (spec_l01By_su_v2.st0 p0 rows2 gv3 gv4 i5 gv6) (spec_l01By_su_v2.k0 N K gv3 gv4) = (spec_l01By_su_v2.l0 N (fun d0 => K (.agg [⟨.u8, 8, d0⟩]) [⟨false, .flat gv3 (.ints .u8 gv4)⟩]) p0 rows2 gv4 (fun ov9 => (spec_l01By_su_v2.k0 N K gv3 gv4) (.exit 0) (spec_l01By_su_v2.sx0_0 gv3 gv4 ov9)) m i5 gv6) := by
  intro m
  induction m with
  | zero => intros; rfl
  | succ m ih =>
    intro i5 gv6
    refine (spec_l01By_su_v2.b0_eq N K (fun s => xloop (xcode (E18 N) ents spec_l01By_su_v2.kp 1 N (cL (cK (cB (cA (cB spec_l01By_su_v2.bd))))) 0) spec_l01By_su_v2.kp 1 0 m s (spec_l01By_su_v2.k0 N K gv3 gv4)) p0 rows2 gv3 gv4 i5 gv6).trans ?_
    simp only [ih]
    kernel_rfl
theorem spec_l01By_su_v2.s_eq {ρ : Type} (N : Nat) (K : AV → Heap → Option ρ) (p0 : Int) (v1 : Nat → Int) (rows2 : Nat) (gv3 : Nat) (gv4 : Nat → Int) :
    xbody (E18 N) ents spec_l01By_su_v2.kp N Go.Proofs.Tryz.f55 spec_l01By_su_v2.bd [.int .i64 (p0), .agg [⟨.u8, 8, v1⟩], .slice false 0 0 rows2 .unk 8] [⟨false, .flat gv3 (.ints .u8 gv4)⟩] K = (spec_l01By_su_v2.s N (fun d0 => K (.agg [⟨.u8, 8, d0⟩]) [⟨false, .flat gv3 (.ints .u8 gv4)⟩]) (fun i5 gv6 => xloop (xcode (E18 N) ents spec_l01By_su_v2.kp 1 N (cL (cK (cB (cA (cB spec_l01By_su_v2.bd))))) 0) spec_l01By_su_v2.kp 1 0 N (spec_l01By_su_v2.st0 p0 rows2 gv3 gv4 i5 gv6) (spec_l01By_su_v2.k0 N K gv3 gv4)) v1) := by kernel_rfl
theorem spec_l01By_su_v2.eq {ρ : Type} (N : Nat) (K : AV → Heap → Option ρ) (p0 : Int) (v1 : Nat → Int) (rows2 : Nat) (gv3 : Nat) (gv4 : Nat → Int) :
    xbody (E18 N) ents spec_l01By_su_v2.kp N Go.Proofs.Tryz.f55 spec_l01By_su_v2.bd [.int .i64 (p0), .agg [⟨.u8, 8, v1⟩], .slice false 0 0 rows2 .unk 8] [⟨false, .flat gv3 (.ints .u8 gv4)⟩] K = (spec_l01By_su_v2 N (fun d0 => K (.agg [⟨.u8, 8, d0⟩]) [⟨false, .flat gv3 (.ints .u8 gv4)⟩]) p0 v1 rows2 gv3 gv4) := by
  refine (spec_l01By_su_v2.s_eq N K p0 v1 rows2 gv3 gv4).trans ?_
  simp only [spec_l01By_su_v2.l0_eq, spec_l01By_su_v2.a0_0_eq]
  kernel_rfl
def spec_l01By_su_v2.en (N : Nat) (ρ : Type) : List AV → Heap → (AV → Heap → Option ρ) → Option ρ
  | [.int .i64 (p0), .agg [⟨.u8, 8, v1⟩], .slice false 0 0 rows2 .unk 8], [⟨false, .flat gv3 (.ints .u8 gv4)⟩], K => (spec_l01By_su_v2 N (fun d0 => K (.agg [⟨.u8, 8, d0⟩]) [⟨false, .flat gv3 (.ints .u8 gv4)⟩]) p0 v1 rows2 gv3 gv4)
  | _, _, _ => none
theorem spec_l01By_su_v2.en_ok (N : Nat) (hE : EnvOk (E18 N) ents) (ρ : Type) (args : List AV) (sh : Heap) (K : AV → Heap → Option ρ) (r : ρ) (h : spec_l01By_su_v2.en N ρ args sh K = some r) : ∃ v sh', K v sh' = some r ∧ FnOk (E18 N).P 55 args sh v sh' := by
  unfold spec_l01By_su_v2.en at h
  split at h
  · exact fn_ok hE (kp := spec_l01By_su_v2.kp) (N := N) Go.Proofs.Tryz.func55 (c := spec_l01By_su_v2.bd) (by kernel_rfl) ((spec_l01By_su_v2.eq N _ _ _ _ _ _).trans h)
  · cases h
def E19 (N : Nat) : Env := (E18 N).add 55 (spec_l01By_su_v2.en N)
theorem E19_ok (N : Nat) : EnvOk (E19 N) ents := Env.add_ok (E18_ok N) (spec_l01By_su_v2.en_ok N (E18_ok N))
def spec_l01Put_su_v2.kp : Keeps := ⟨[(0, [0, 1, 5, 7, 8, 9, 10], [], [])], [(0, [5, 8, 9], [], [])], []⟩
def spec_l01Put_su_v2.bd : Code := bodyOf Go.Proofs.Tryz.f39
def spec_l01Put_su_v2.fin {ρ : Type} (N : Nat) (K : AV → Heap → Option ρ) (gv3 : Nat) (gv4 : Nat → Int) : XE → St → Option ρ := finK (E19 N) spec_l01Put_su_v2.kp.fins Go.Proofs.Tryz.f39 [⟨false, .flat gv3 (.ints .u8 gv4)⟩] K
def spec_l01Put_su_v2.k0 {ρ : Type} (N : Nat) (K : AV → Heap → Option ρ) (gv3 : Nat) (gv4 : Nat → Int) : XE → St → Option ρ := (blockK spec_l01Put_su_v2.kp 1 0 (seqK (xcode (E19 N) ents spec_l01Put_su_v2.kp 1 N (cB (cB (cB (cB (cB (cB (cB spec_l01Put_su_v2.bd))))))) 0) (spec_l01Put_su_v2.fin N K gv3 gv4)))
theorem spec_l01Put_su_v2.k0_mix {ρ : Type} (N : Nat) (K : AV → Heap → Option ρ) (gv3 : Nat) (gv4 : Nat → Int) : mixK (spec_l01Put_su_v2.fin N K gv3 gv4 .ret) (spec_l01Put_su_v2.k0 N K gv3 gv4) = (spec_l01Put_su_v2.k0 N K gv3 gv4) := by
  funext e s; cases e <;> kernel_rfl
def spec_l01Put_su_v2.st0 (p0 : Int) (rows1 : Nat) (gv3 : Nat) (gv4 : Nat → Int) (rv7 : Int) (rv9 : Nat → Int) (outv10 : Nat) (placed11 : Bool) (i12 : Int) (gv13 : Nat → Int) : St := ⟨sl 77 [(0, .int .i64 (p0)), (1, .slice false 0 0 rows1 .unk 8), (5, .sptr [(1, 8)]), (7, .int .i64 (rv7)), (8, .slice true 2 0 outv10 .whole 8), (9, .bool (placed11)), (10, .int .i64 (i12))], [⟨false, .flat gv3 (.ints .u8 gv4)⟩, ⟨true, .flat 8 (.ints .u8 rv9)⟩, ⟨true, .flat 0 (.ints .u8 gv13)⟩]⟩
def spec_l01Put_su_v2.sx0_0 (gv3 : Nat) (gv4 : Nat → Int) (rv9 : Nat → Int) (ov18 : Nat) (ov19 : Bool) (ov20 : Nat → Int) : St := ⟨sl 77 [(5, .sptr [(1, 8)]), (8, .slice true 2 0 ov18 .whole 8), (9, .bool (ov19))], [⟨false, .flat gv3 (.ints .u8 gv4)⟩, ⟨true, .flat 8 (.ints .u8 rv9)⟩, ⟨true, .flat 0 (.ints .u8 ov20)⟩]⟩
theorem spec_l01Put_su_v2.b0_gen {ρ : Type} (N : Nat) (K : AV → Heap → Option ρ) (L0 : St → Option ρ) (kv : XE → St → Option ρ) (p0 : Int) (rows1 : Nat) (gv3 : Nat) (gv4 : Nat → Int) (rv7 : Int) (rv9 : Nat → Int) (outv10 : Nat) (placed11 : Bool) (i12 : Int) (gv13 : Nat → Int) :
    xcode (E19 N) ents spec_l01Put_su_v2.kp 1 N (cL (cK (cB (cA (cB (cB (cB (cB (cB (cB spec_l01Put_su_v2.bd)))))))))) 0 (spec_l01Put_su_v2.st0 p0 rows1 gv3 gv4 rv7 rv9 outv10 placed11 i12 gv13) (roundK spec_l01Put_su_v2.kp 1 0 L0 (mixK (spec_l01Put_su_v2.fin N K gv3 gv4 .ret) kv)) = (spec_l01Put_su_v2.b0 N (fun d0 => K (.slice false 0 0 d0 .unk 8) [⟨false, .flat gv3 (.ints .u8 gv4)⟩]) (fun d0 d1 => K (.slice true 1 0 d0 .whole 8) [⟨false, .flat gv3 (.ints .u8 gv4)⟩, ⟨true, .flat 0 (.ints .u8 d1)⟩]) (fun outv10 placed11 i12 gv13 => L0 (spec_l01Put_su_v2.st0 p0 rows1 gv3 gv4 rv7 rv9 outv10 placed11 i12 gv13)) (fun ov18 ov19 ov20 => kv (.exit 0) (spec_l01Put_su_v2.sx0_0 gv3 gv4 rv9 ov18 ov19 ov20)) p0 rows1 gv4 rv7 rv9 outv10 placed11 i12 gv13) := by kernel_rfl
theorem spec_l01Put_su_v2.b0_eq {ρ : Type} (N : Nat) (K : AV → Heap → Option ρ) (L0 : St → Option ρ) (p0 : Int) (rows1 : Nat) (gv3 : Nat) (gv4 : Nat → Int) (rv7 : Int) (rv9 : Nat → Int) (outv10 : Nat) (placed11 : Bool) (i12 : Int) (gv13 : Nat → Int) :
    xcode (E19 N) ents spec_l01Put_su_v2.kp 1 N (cL (cK (cB (cA (cB (cB (cB (cB (cB (cB spec_l01Put_su_v2.bd)))))))))) 0 (spec_l01Put_su_v2.st0 p0 rows1 gv3 gv4 rv7 rv9 outv10 placed11 i12 gv13) (roundK spec_l01Put_su_v2.kp 1 0 L0 (spec_l01Put_su_v2.k0 N K gv3 gv4)) = (spec_l01Put_su_v2.b0 N (fun d0 => K (.slice false 0 0 d0 .unk 8) [⟨false, .flat gv3 (.ints .u8 gv4)⟩]) (fun d0 d1 => K (.slice true 1 0 d0 .whole 8) [⟨false, .flat gv3 (.ints .u8 gv4)⟩, ⟨true, .flat 0 (.ints .u8 d1)⟩]) (fun outv10 placed11 i12 gv13 => L0 (spec_l01Put_su_v2.st0 p0 rows1 gv3 gv4 rv7 rv9 outv10 placed11 i12 gv13)) (fun ov18 ov19 ov20 => (spec_l01Put_su_v2.k0 N K gv3 gv4) (.exit 0) (spec_l01Put_su_v2.sx0_0 gv3 gv4 rv9 ov18 ov19 ov20)) p0 rows1 gv4 rv7 rv9 outv10 placed11 i12 gv13) := by
  have h := spec_l01Put_su_v2.b0_gen N K L0 (spec_l01Put_su_v2.k0 N K gv3 gv4) p0 rows1 gv3 gv4 rv7 rv9 outv10 placed11 i12 gv13
  rw [spec_l01Put_su_v2.k0_mix] at h
  exact h
theorem spec_l01Put_su_v2.a0_0_eq {ρ : Type} (N : Nat) (K : AV → Heap → Option ρ) (gv3 : Nat) (gv4 : Nat → Int) (rv9 : Nat → Int) (ov18 : Nat) (ov19 : Bool) (ov20 : Nat → Int) :
    (spec_l01Put_su_v2.k0 N K gv3 gv4) (.exit 0) (spec_l01Put_su_v2.sx0_0 gv3 gv4 rv9 ov18 ov19 ov20) = (spec_l01Put_su_v2.a0_0 N (fun d0 => K (.slice false 0 0 d0 .unk 8) [⟨false, .flat gv3 (.ints .u8 gv4)⟩]) (fun d0 d1 => K (.slice true 1 0 d0 .whole 8) [⟨false, .flat gv3 (.ints .u8 gv4)⟩, ⟨true, .flat 0 (.ints .u8 d1)⟩]) rv9 ov18 ov19 ov20) := by kernel_rfl
theorem spec_l01Put_su_v2.l0_eq {ρ : Type} (N : Nat) (K : AV → Heap → Option ρ) (p0 : Int) (rows1 : Nat) (gv3 : Nat) (gv4 : Nat → Int) (rv7 : Int) (rv9 : Nat → Int) :
    ∀ (m : Nat) (outv10 : Nat) (placed11 : Bool) (i12 : Int) (gv13 : Nat → Int), xloop (xcode (E19 N) ents spec_l01Put_su_v2.kp 1 N (cL (cK (cB (cA (cB (cB (cB (cB (cB (cB spec_l01Put_su_v2.bd)))))))))) 0) spec_l01Put_su_v2.kp 1 0 m (spec_l01Put_su_v2.st0 p0 rows1 gv3 gv4 rv7 rv9 outv10 placed11 i12 gv13) (spec_l01Put_su_v2.k0 N K gv3 gv4) = (spec_l01Put_su_v2.l0 N (fun d0 => K (.slice false 0 0 d0 .unk 8) [⟨false, .flat gv3 (.ints .u8 gv4)⟩]) (fun d0 d1 => K (.slice true 1 0 d0 .whole 8) [⟨false, .flat gv3 (.ints .u8 gv4)⟩, ⟨true, .flat 0 (.ints .u8 d1)⟩]) p0 rows1 gv4 rv7 rv9 (fun ov18 ov19 ov20 => (spec_l01Put_su_v2.k0 N K gv3 gv4) (.exit 0) (spec_l01Put_su_v2.sx0_0 gv3 gv4 rv9 ov18 ov19 ov20)) m outv10 placed11 i12 gv13) := by
  intro m
  induction m with
  | zero => intros; rfl
  | succ m ih =>
    intro outv10 placed11 i12 gv13
    refine (spec_l01Put_su_v2.b0_eq N K (fun s => xloop (xcode (E19 N) ents spec_l01Put_su_v2.kp 1 N (cL (cK (cB (cA (cB (cB (cB (cB (cB (cB spec_l01Put_su_v2.bd)))))))))) 0) spec_l01Put_su_v2.kp 1 0 m s (spec_l01Put_su_v2.k0 N K gv3 gv4)) p0 rows1 gv3 gv4 rv7 rv9 outv10 placed11 i12 gv13).trans ?_
    simp only [ih]
    kernel_rfl
theorem spec_l01Put_su_v2.s_eq {ρ : Type} (N : Nat) (K : AV → Heap → Option ρ) (p0 : Int) (rows1 : Nat) (v2 : Nat → Int) (gv3 : Nat) (gv4 : Nat → Int) :
    xbody (E19 N) ents spec_l01Put_su_v2.kp N Go.Proofs.Tryz.f39 spec_l01Put_su_v2.bd [.int .i64 (p0), .slice false 0 0 rows1 .unk 8, .agg [⟨.u8, 8, v2⟩]] [⟨false, .flat gv3 (.ints .u8 gv4)⟩] K = (spec_l01Put_su_v2.s N (fun d0 => K (.slice false 0 0 d0 .unk 8) [⟨false, .flat gv3 (.ints .u8 gv4)⟩]) (fun d0 d1 => K (.slice true 1 0 d0 .whole 8) [⟨false, .flat gv3 (.ints .u8 gv4)⟩, ⟨true, .flat 0 (.ints .u8 d1)⟩]) (fun rv7 rv9 outv10 placed11 i12 gv13 => xloop (xcode (E19 N) ents spec_l01Put_su_v2.kp 1 N (cL (cK (cB (cA (cB (cB (cB (cB (cB (cB spec_l01Put_su_v2.bd)))))))))) 0) spec_l01Put_su_v2.kp 1 0 N (spec_l01Put_su_v2.st0 p0 rows1 gv3 gv4 rv7 rv9 outv10 placed11 i12 gv13) (spec_l01Put_su_v2.k0 N K gv3 gv4)) p0 rows1 v2 gv4) := by kernel_rfl
theorem spec_l01Put_su_v2.eq {ρ : Type} (N : Nat) (K : AV → Heap → Option ρ) (p0 : Int) (rows1 : Nat) (v2 : Nat → Int) (gv3 : Nat) (gv4 : Nat → Int) :
    xbody (E19 N) ents spec_l01Put_su_v2.kp N Go.Proofs.Tryz.f39 spec_l01Put_su_v2.bd [.int .i64 (p0), .slice false 0 0 rows1 .unk 8, .agg [⟨.u8, 8, v2⟩]] [⟨false, .flat gv3 (.ints .u8 gv4)⟩] K = (spec_l01Put_su_v2 N (fun d0 => K (.slice false 0 0 d0 .unk 8) [⟨false, .flat gv3 (.ints .u8 gv4)⟩]) (fun d0 d1 => K (.slice true 1 0 d0 .whole 8) [⟨false, .flat gv3 (.ints .u8 gv4)⟩, ⟨true, .flat 0 (.ints .u8 d1)⟩]) p0 rows1 v2 gv3 gv4) := by
  refine (spec_l01Put_su_v2.s_eq N K p0 rows1 v2 gv3 gv4).trans ?_
  simp only [spec_l01Put_su_v2.l0_eq, spec_l01Put_su_v2.a0_0_eq]
  kernel_rfl
def spec_l01Put_su_v2.en (N : Nat) (ρ : Type) : List AV → Heap → (AV → Heap → Option ρ) → Option ρ
  | [.int .i64 (p0), .slice false 0 0 rows1 .unk 8, .agg [⟨.u8, 8, v2⟩]], [⟨false, .flat gv3 (.ints .u8 gv4)⟩], K => (spec_l01Put_su_v2 N (fun d0 => K (.slice false 0 0 d0 .unk 8) [⟨false, .flat gv3 (.ints .u8 gv4)⟩]) (fun d0 d1 => K (.slice true 1 0 d0 .whole 8) [⟨false, .flat gv3 (.ints .u8 gv4)⟩, ⟨true, .flat 0 (.ints .u8 d1)⟩]) p0 rows1 v2 gv3 gv4)
  | _, _, _ => none
theorem spec_l01Put_su_v2.en_ok (N : Nat) (hE : EnvOk (E19 N) ents) (ρ : Type) (args : List AV) (sh : Heap) (K : AV → Heap → Option ρ) (r : ρ) (h : spec_l01Put_su_v2.en N ρ args sh K = some r) : ∃ v sh', K v sh' = some r ∧ FnOk (E19 N).P 39 args sh v sh' := by
  unfold spec_l01Put_su_v2.en at h
  split at h
  · exact fn_ok hE (kp := spec_l01Put_su_v2.kp) (N := N) Go.Proofs.Tryz.func39 (c := spec_l01Put_su_v2.bd) (by kernel_rfl) ((spec_l01Put_su_v2.eq N _ _ _ _ _ _).trans h)
  · cases h
def E20 (N : Nat) : Env := (E19 N).add 39 (spec_l01Put_su_v2.en N)
theorem E20_ok (N : Nat) : EnvOk (E20 N) ents := Env.add_ok (E19_ok N) (spec_l01Put_su_v2.en_ok N (E19_ok N))
def spec_l01Reduce_su.kp : Keeps := ⟨[(0, [0, 1, 5, 6], [(.slot 5, .unk (.ints .u8 (fun _ => 0)) 8)], [])], [(0, [5], [], [])], []⟩
def spec_l01Reduce_su.bd : Code := bodyOf Go.Proofs.Tryz.f23
def spec_l01Reduce_su.fin {ρ : Type} (N : Nat) (K : AV → Heap → Option ρ) (gv2 : Nat) (gv3 : Nat → Int) : XE → St → Option ρ := finK (E20 N) spec_l01Reduce_su.kp.fins Go.Proofs.Tryz.f23 [⟨false, .flat gv2 (.ints .u8 gv3)⟩] K
def spec_l01Reduce_su.k0 {ρ : Type} (N : Nat) (K : AV → Heap → Option ρ) (gv2 : Nat) (gv3 : Nat → Int) : XE → St → Option ρ := (blockK spec_l01Reduce_su.kp 1 0 (seqK (xcode (E20 N) ents spec_l01Reduce_su.kp 1 N (cB (cB (cB spec_l01Reduce_su.bd))) 0) (spec_l01Reduce_su.fin N K gv2 gv3)))
theorem spec_l01Reduce_su.k0_mix {ρ : Type} (N : Nat) (K : AV → Heap → Option ρ) (gv2 : Nat) (gv3 : Nat → Int) : mixK (spec_l01Reduce_su.fin N K gv2 gv3 .ret) (spec_l01Reduce_su.k0 N K gv2 gv3) = (spec_l01Reduce_su.k0 N K gv2 gv3) := by
  funext e s; cases e <;> kernel_rfl
def spec_l01Reduce_su.st0 (p0 : Int) (list1 : Nat) (gv2 : Nat) (gv3 : Nat → Int) (outv4 : Nat) (i5 : Int) (gv6 : Nat → Int) : St := ⟨sl 22 [(0, .int .i64 (p0)), (1, .slice true 0 0 list1 .unk 8), (5, .slice false 1 0 outv4 .unk 8), (6, .int .i64 (i5))], [⟨false, .flat gv2 (.ints .u8 gv3)⟩, ⟨true, .flat 0 (.ints .u8 gv6)⟩]⟩
def spec_l01Reduce_su.sx0_0 (gv2 : Nat) (gv3 : Nat → Int) (ov10 : Nat) (ov11 : Nat → Int) : St := ⟨sl 22 [(5, .slice false 1 0 ov10 .unk 8)], [⟨false, .flat gv2 (.ints .u8 gv3)⟩, ⟨true, .flat 0 (.ints .u8 ov11)⟩]⟩
theorem spec_l01Reduce_su.b0_gen {ρ : Type} (N : Nat) (K : AV → Heap → Option ρ) (L0 : St → Option ρ) (kv : XE → St → Option ρ) (p0 : Int) (list1 : Nat) (gv2 : Nat) (gv3 : Nat → Int) (outv4 : Nat) (i5 : Int) (gv6 : Nat → Int) :
    xcode (E20 N) ents spec_l01Reduce_su.kp 1 N (cL (cK (cB (cA (cB (cB spec_l01Reduce_su.bd)))))) 0 (spec_l01Reduce_su.st0 p0 list1 gv2 gv3 outv4 i5 gv6) (roundK spec_l01Reduce_su.kp 1 0 L0 (mixK (spec_l01Reduce_su.fin N K gv2 gv3 .ret) kv)) = (spec_l01Reduce_su.b0 N (fun d0 d1 => K (.slice false 1 0 d0 .unk 8) [⟨false, .flat gv2 (.ints .u8 gv3)⟩, ⟨true, .flat 0 (.ints .u8 d1)⟩]) (fun outv4 i5 gv6 => L0 (spec_l01Reduce_su.st0 p0 list1 gv2 gv3 outv4 i5 gv6)) (fun ov10 ov11 => kv (.exit 0) (spec_l01Reduce_su.sx0_0 gv2 gv3 ov10 ov11)) p0 list1 gv3 outv4 i5 gv6) := by kernel_rfl
theorem spec_l01Reduce_su.b0_eq {ρ : Type} (N : Nat) (K : AV → Heap → Option ρ) (L0 : St → Option ρ) (p0 : Int) (list1 : Nat) (gv2 : Nat) (gv3 : Nat → Int) (outv4 : Nat) (i5 : Int) (gv6 : Nat → Int) :
    xcode (E20 N) ents spec_l01Reduce_su.kp 1 N (cL (cK (cB (cA (cB (cB spec_l01Reduce_su.bd)))))) 0 (spec_l01Reduce_su.st0 p0 list1 gv2 gv3 outv4 i5 gv6) (roundK spec_l01Reduce_su.kp 1 0 L0 (spec_l01Reduce_su.k0 N K gv2 gv3)) = (spec_l01Reduce_su.b0 N (fun d0 d1 => K (.slice false 1 0 d0 .unk 8) [⟨false, .flat gv2 (.ints .u8 gv3)⟩, ⟨true, .flat 0 (.ints .u8 d1)⟩]) (fun outv4 i5 gv6 => L0 (spec_l01Reduce_su.st0 p0 list1 gv2 gv3 outv4 i5 gv6)) (fun ov10 ov11 => (spec_l01Reduce_su.k0 N K gv2 gv3) (.exit 0) (spec_l01Reduce_su.sx0_0 gv2 gv3 ov10 ov11)) p0 list1 gv3 outv4 i5 gv6) := by
  have h := spec_l01Reduce_su.b0_gen N K L0 (spec_l01Reduce_su.k0 N K gv2 gv3) p0 list1 gv2 gv3 outv4 i5 gv6
  rw [spec_l01Reduce_su.k0_mix] at h
  exact h
theorem spec_l01Reduce_su.a0_0_eq {ρ : Type} (N : Nat) (K : AV → Heap → Option ρ) (gv2 : Nat) (gv3 : Nat → Int) (ov10 : Nat) (ov11 : Nat → Int) :
    (spec_l01Reduce_su.k0 N K gv2 gv3) (.exit 0) (spec_l01Reduce_su.sx0_0 gv2 gv3 ov10 ov11) = (spec_l01Reduce_su.a0_0 N (fun d0 d1 => K (.slice false 1 0 d0 .unk 8) [⟨false, .flat gv2 (.ints .u8 gv3)⟩, ⟨true, .flat 0 (.ints .u8 d1)⟩]) ov10 ov11) := by kernel_rfl
theorem spec_l01Reduce_su.l0_eq {ρ : Type} (N : Nat) (K : AV → Heap → Option ρ) (p0 : Int) (list1 : Nat) (gv2 : Nat) (gv3 : Nat → Int) :
    ∀ (m : Nat) (outv4 : Nat) (i5 : Int) (gv6 : Nat → Int), xloop (xcode (E20 N) ents spec_l01Reduce_su.kp 1 N (cL (cK (cB (cA (cB (cB spec_l01Reduce_su.bd)))))) 0) spec_l01Reduce_su.kp 1 0 m (spec_l01Reduce_su.st0 p0 list1 gv2 gv3 outv4 i5 gv6) (spec_l01Reduce_su.k0 N K gv2 gv3) = (spec_l01Reduce_su.l0 N (fun d0 d1 => K (.slice false 1 0 d0 .unk 8) [⟨false, .flat gv2 (.ints .u8 gv3)⟩, ⟨true, .flat 0 (.ints .u8 d1)⟩]) p0 list1 gv3 (fun ov10 ov11 => (spec_l01Reduce_su.k0 N K gv2 gv3) (.exit 0) (spec_l01Reduce_su.sx0_0 gv2 gv3 ov10 ov11)) m outv4 i5 gv6) := by
  intro m
  induction m with
  | zero => intros; rfl
  | succ m ih =>
    intro outv4 i5 gv6
    refine (spec_l01Reduce_su.b0_eq N K (fun s => xloop (xcode (E20 N) ents spec_l01Reduce_su.kp 1 N (cL (cK (cB (cA (cB (cB spec_l01Reduce_su.bd)))))) 0) spec_l01Reduce_su.kp 1 0 m s (spec_l01Reduce_su.k0 N K gv2 gv3)) p0 list1 gv2 gv3 outv4 i5 gv6).trans ?_
    simp only [ih]
    kernel_rfl
theorem spec_l01Reduce_su.s_eq {ρ : Type} (N : Nat) (K : AV → Heap → Option ρ) (p0 : Int) (list1 : Nat) (gv2 : Nat) (gv3 : Nat → Int) :
    xbody (E20 N) ents spec_l01Reduce_su.kp N Go.Proofs.Tryz.f23 spec_l01Reduce_su.bd [.int .i64 (p0), .slice true 0 0 list1 .unk 8] [⟨false, .flat gv2 (.ints .u8 gv3)⟩] K = (spec_l01Reduce_su.s N (fun d0 d1 => K (.slice false 1 0 d0 .unk 8) [⟨false, .flat gv2 (.ints .u8 gv3)⟩, ⟨true, .flat 0 (.ints .u8 d1)⟩]) (fun outv4 i5 gv6 => xloop (xcode (E20 N) ents spec_l01Reduce_su.kp 1 N (cL (cK (cB (cA (cB (cB spec_l01Reduce_su.bd)))))) 0) spec_l01Reduce_su.kp 1 0 N (spec_l01Reduce_su.st0 p0 list1 gv2 gv3 outv4 i5 gv6) (spec_l01Reduce_su.k0 N K gv2 gv3))) := by kernel_rfl
theorem spec_l01Reduce_su.eq {ρ : Type} (N : Nat) (K : AV → Heap → Option ρ) (p0 : Int) (list1 : Nat) (gv2 : Nat) (gv3 : Nat → Int) :
    xbody (E20 N) ents spec_l01Reduce_su.kp N Go.Proofs.Tryz.f23 spec_l01Reduce_su.bd [.int .i64 (p0), .slice true 0 0 list1 .unk 8] [⟨false, .flat gv2 (.ints .u8 gv3)⟩] K = (spec_l01Reduce_su N (fun d0 d1 => K (.slice false 1 0 d0 .unk 8) [⟨false, .flat gv2 (.ints .u8 gv3)⟩, ⟨true, .flat 0 (.ints .u8 d1)⟩]) p0 list1 gv2 gv3) := by
  refine (spec_l01Reduce_su.s_eq N K p0 list1 gv2 gv3).trans ?_
  simp only [spec_l01Reduce_su.l0_eq, spec_l01Reduce_su.a0_0_eq]
  kernel_rfl
def spec_l01Reduce_su.en (N : Nat) (ρ : Type) : List AV → Heap → (AV → Heap → Option ρ) → Option ρ
  | [.int .i64 (p0), .slice true 0 0 list1 .unk 8], [⟨false, .flat gv2 (.ints .u8 gv3)⟩], K => (spec_l01Reduce_su N (fun d0 d1 => K (.slice false 1 0 d0 .unk 8) [⟨false, .flat gv2 (.ints .u8 gv3)⟩, ⟨true, .flat 0 (.ints .u8 d1)⟩]) p0 list1 gv2 gv3)
  | _, _, _ => none
theorem spec_l01Reduce_su.en_ok (N : Nat) (hE : EnvOk (E20 N) ents) (ρ : Type) (args : List AV) (sh : Heap) (K : AV → Heap → Option ρ) (r : ρ) (h : spec_l01Reduce_su.en N ρ args sh K = some r) : ∃ v sh', K v sh' = some r ∧ FnOk (E20 N).P 23 args sh v sh' := by
  unfold spec_l01Reduce_su.en at h
  split at h
  · exact fn_ok hE (kp := spec_l01Reduce_su.kp) (N := N) Go.Proofs.Tryz.func23 (c := spec_l01Reduce_su.bd) (by kernel_rfl) ((spec_l01Reduce_su.eq N _ _ _ _ _).trans h)
  · cases h
def E21 (N : Nat) : Env := (E20 N).add 23 (spec_l01Reduce_su.en N)
theorem E21_ok (N : Nat) : EnvOk (E21 N) ents := Env.add_ok (E20_ok N) (spec_l01Reduce_su.en_ok N (E20_ok N))
def spec_ReduceVectors_su.kp : Keeps := ⟨[], [], [(.slot 6, .unk (.ints .u8 (fun _ => 0)) 8)]⟩
def spec_ReduceVectors_su.bd : Code := bodyOf Go.Proofs.Tryz.f6
def spec_ReduceVectors_su.fin {ρ : Type} (N : Nat) (K : AV → Heap → Option ρ) (gv3 : Nat) (gv4 : Nat → Int) : XE → St → Option ρ := finK (E21 N) spec_ReduceVectors_su.kp.fins Go.Proofs.Tryz.f6 [⟨false, .flat gv3 (.ints .u8 gv4)⟩] K
theorem spec_ReduceVectors_su.eqb {ρ : Type} (N : Nat) (K : AV → Heap → Option ρ) (p0 : Int) (nv1 : Int) (list2 : Nat) (gv3 : Nat) (gv4 : Nat → Int) :
    xbody (E21 N) ents spec_ReduceVectors_su.kp N Go.Proofs.Tryz.f6 spec_ReduceVectors_su.bd [.int .i64 (p0), .int .i64 (nv1), .slice true 0 0 list2 .unk 8] [⟨false, .flat gv3 (.ints .u8 gv4)⟩] K = (spec_ReduceVectors_su.bdy N (fun d0 d1 d2 => K (.tup [.slice false 1 0 d0 .unk 8, .int .i64 (d1)]) [⟨false, .flat gv3 (.ints .u8 gv4)⟩, ⟨true, .flat 0 (.ints .u8 d2)⟩]) p0 nv1 list2 gv3 gv4) := by kernel_rfl
theorem spec_ReduceVectors_su.eq {ρ : Type} (N : Nat) (K : AV → Heap → Option ρ) (p0 : Int) (nv1 : Int) (list2 : Nat) (gv3 : Nat) (gv4 : Nat → Int) :
    xbody (E21 N) ents spec_ReduceVectors_su.kp N Go.Proofs.Tryz.f6 spec_ReduceVectors_su.bd [.int .i64 (p0), .int .i64 (nv1), .slice true 0 0 list2 .unk 8] [⟨false, .flat gv3 (.ints .u8 gv4)⟩] K = (spec_ReduceVectors_su N (fun d0 d1 d2 => K (.tup [.slice false 1 0 d0 .unk 8, .int .i64 (d1)]) [⟨false, .flat gv3 (.ints .u8 gv4)⟩, ⟨true, .flat 0 (.ints .u8 d2)⟩]) p0 nv1 list2 gv3 gv4) :=
  (spec_ReduceVectors_su.eqb N K p0 nv1 list2 gv3 gv4).trans (spec_ReduceVectors_su.opq _ _ _ _ _ _ _).symm
def spec_ReduceVectors_su.en (N : Nat) (ρ : Type) : List AV → Heap → (AV → Heap → Option ρ) → Option ρ
  | [.int .i64 (p0), .int .i64 (nv1), .slice true 0 0 list2 .unk 8], [⟨false, .flat gv3 (.ints .u8 gv4)⟩], K => (spec_ReduceVectors_su N (fun d0 d1 d2 => K (.tup [.slice false 1 0 d0 .unk 8, .int .i64 (d1)]) [⟨false, .flat gv3 (.ints .u8 gv4)⟩, ⟨true, .flat 0 (.ints .u8 d2)⟩]) p0 nv1 list2 gv3 gv4)
  | _, _, _ => none
theorem spec_ReduceVectors_su.en_ok (N : Nat) (hE : EnvOk (E21 N) ents) (ρ : Type) (args : List AV) (sh : Heap) (K : AV → Heap → Option ρ) (r : ρ) (h : spec_ReduceVectors_su.en N ρ args sh K = some r) : ∃ v sh', K v sh' = some r ∧ FnOk (E21 N).P 6 args sh v sh' := by
  unfold spec_ReduceVectors_su.en at h
  split at h
  · exact fn_ok hE (kp := spec_ReduceVectors_su.kp) (N := N) Go.Proofs.Tryz.func6 (c := spec_ReduceVectors_su.bd) (by kernel_rfl) ((spec_ReduceVectors_su.eq N _ _ _ _ _ _).trans h)
  · cases h
def E22 (N : Nat) : Env := (E21 N).add 6 (spec_ReduceVectors_su.en N)
theorem E22_ok (N : Nat) : EnvOk (E22 N) ents := Env.add_ok (E21_ok N) (spec_ReduceVectors_su.en_ok N (E21_ok N))
def impl_IsPrime.kp : Keeps := ⟨[(0, [0, 3], [], [])], [(0, [], [], [])], []⟩
def impl_IsPrime.bd : Code := bodyOf Go.Proofs.Tryz.f36
def impl_IsPrime.fin {ρ : Type} (N : Nat) (K : AV → Heap → Option ρ) : XE → St → Option ρ := finK (E22 N) impl_IsPrime.kp.fins Go.Proofs.Tryz.f36 [] K
def impl_IsPrime.k0 {ρ : Type} (N : Nat) (K : AV → Heap → Option ρ) : XE → St → Option ρ := (blockK impl_IsPrime.kp 0 0 (seqK (xcode (E22 N) ents impl_IsPrime.kp 0 N (cB (cB (cB impl_IsPrime.bd))) 0) (impl_IsPrime.fin N K)))
theorem impl_IsPrime.k0_mix {ρ : Type} (N : Nat) (K : AV → Heap → Option ρ) : mixK (impl_IsPrime.fin N K .ret) (impl_IsPrime.k0 N K) = (impl_IsPrime.k0 N K) := by
  funext e s; cases e <;> kernel_rfl
def impl_IsPrime.st0 (p0 : Int) (k1 : Int) : St := ⟨sl 21 [(0, .int .i64 (p0)), (3, .int .i64 (k1))], []⟩
def impl_IsPrime.sx0_0 : St := ⟨sl 21 [], []⟩
theorem impl_IsPrime.b0_gen {ρ : Type} (N : Nat) (K : AV → Heap → Option ρ) (L0 : St → Option ρ) (kv : XE → St → Option ρ) (p0 : Int) (k1 : Int) :
    xcode (E22 N) ents impl_IsPrime.kp 0 N (cL (cK (cB (cA (cB (cB impl_IsPrime.bd)))))) 0 (impl_IsPrime.st0 p0 k1) (roundK impl_IsPrime.kp 0 0 L0 (mixK (impl_IsPrime.fin N K .ret) kv)) = (impl_IsPrime.b0 N (fun d0 => K (.bool (d0)) []) (fun k1 => L0 (impl_IsPrime.st0 p0 k1)) (kv (.exit 0) (impl_IsPrime.sx0_0)) p0 k1) := by kernel_rfl
theorem impl_IsPrime.b0_eq {ρ : Type} (N : Nat) (K : AV → Heap → Option ρ) (L0 : St → Option ρ) (p0 : Int) (k1 : Int) :
    xcode (E22 N) ents impl_IsPrime.kp 0 N (cL (cK (cB (cA (cB (cB impl_IsPrime.bd)))))) 0 (impl_IsPrime.st0 p0 k1) (roundK impl_IsPrime.kp 0 0 L0 (impl_IsPrime.k0 N K)) = (impl_IsPrime.b0 N (fun d0 => K (.bool (d0)) []) (fun k1 => L0 (impl_IsPrime.st0 p0 k1)) ((impl_IsPrime.k0 N K) (.exit 0) (impl_IsPrime.sx0_0)) p0 k1) := by
  have h := impl_IsPrime.b0_gen N K L0 (impl_IsPrime.k0 N K) p0 k1
  rw [impl_IsPrime.k0_mix] at h
  exact h
theorem impl_IsPrime.a0_0_eq {ρ : Type} (N : Nat) (K : AV → Heap → Option ρ) :
    (impl_IsPrime.k0 N K) (.exit 0) (impl_IsPrime.sx0_0) = (impl_IsPrime.a0_0 N (fun d0 => K (.bool (d0)) [])) := by kernel_rfl
theorem impl_IsPrime.l0_eq {ρ : Type} (N : Nat) (K : AV → Heap → Option ρ) (p0 : Int) :
    ∀ (m : Nat) (k1 : Int), xloop (xcode (E22 N) ents impl_IsPrime.kp 0 N (cL (cK (cB (cA (cB (cB impl_IsPrime.bd)))))) 0) impl_IsPrime.kp 0 0 m (impl_IsPrime.st0 p0 k1) (impl_IsPrime.k0 N K) = (impl_IsPrime.l0 N (fun d0 => K (.bool (d0)) []) p0 ((impl_IsPrime.k0 N K) (.exit 0) (impl_IsPrime.sx0_0)) m k1) := by
  intro m
  induction m with
  | zero => intros; rfl
  | succ m ih =>
    intro k1
    refine (impl_IsPrime.b0_eq N K (fun s => xloop (xcode (E22 N) ents impl_IsPrime.kp 0 N (cL (cK (cB (cA (cB (cB impl_IsPrime.bd)))))) 0) impl_IsPrime.kp 0 0 m s (impl_IsPrime.k0 N K)) p0 k1).trans ?_
    simp only [ih]
    kernel_rfl
theorem impl_IsPrime.s_eq {ρ : Type} (N : Nat) (K : AV → Heap → Option ρ) (p0 : Int) :
    xbody (E22 N) ents impl_IsPrime.kp N Go.Proofs.Tryz.f36 impl_IsPrime.bd [.int .i64 (p0)] [] K = (impl_IsPrime.s N (fun d0 => K (.bool (d0)) []) (fun k1 => xloop (xcode (E22 N) ents impl_IsPrime.kp 0 N (cL (cK (cB (cA (cB (cB impl_IsPrime.bd)))))) 0) impl_IsPrime.kp 0 0 N (impl_IsPrime.st0 p0 k1) (impl_IsPrime.k0 N K)) p0) := by kernel_rfl
theorem impl_IsPrime.eq {ρ : Type} (N : Nat) (K : AV → Heap → Option ρ) (p0 : Int) :
    xbody (E22 N) ents impl_IsPrime.kp N Go.Proofs.Tryz.f36 impl_IsPrime.bd [.int .i64 (p0)] [] K = (impl_IsPrime N (fun d0 => K (.bool (d0)) []) p0) := by
  refine (impl_IsPrime.s_eq N K p0).trans ?_
  simp only [impl_IsPrime.l0_eq, impl_IsPrime.a0_0_eq]
  kernel_rfl
def impl_IsPrime.en (N : Nat) (ρ : Type) : List AV → Heap → (AV → Heap → Option ρ) → Option ρ
  | [.int .i64 (p0)], [], K => (impl_IsPrime N (fun d0 => K (.bool (d0)) []) p0)
  | _, _, _ => none
theorem impl_IsPrime.en_ok (N : Nat) (hE : EnvOk (E22 N) ents) (ρ : Type) (args : List AV) (sh : Heap) (K : AV → Heap → Option ρ) (r : ρ) (h : impl_IsPrime.en N ρ args sh K = some r) : ∃ v sh', K v sh' = some r ∧ FnOk (E22 N).P 36 args sh v sh' := by
  unfold impl_IsPrime.en at h
  split at h
  · exact fn_ok hE (kp := impl_IsPrime.kp) (N := N) Go.Proofs.Tryz.func36 (c := impl_IsPrime.bd) (by kernel_rfl) ((impl_IsPrime.eq N _ _).trans h)
  · cases h
def E23 (N : Nat) : Env := (E22 N).add 36 (impl_IsPrime.en N)
theorem E23_ok (N : Nat) : EnvOk (E23 N) ents := Env.add_ok (E22_ok N) (impl_IsPrime.en_ok N (E22_ok N))
def impl_in.kp : Keeps := ⟨[], [], []⟩
def impl_in.bd : Code := bodyOf Go.Proofs.Tryz.f37
def impl_in.fin {ρ : Type} (N : Nat) (K : AV → Heap → Option ρ) : XE → St → Option ρ := finK (E23 N) impl_in.kp.fins Go.Proofs.Tryz.f37 [] K
theorem impl_in.eq {ρ : Type} (N : Nat) (K : AV → Heap → Option ρ) (x0 : Int) (least1 : Int) (most2 : Int) :
    xbody (E23 N) ents impl_in.kp N Go.Proofs.Tryz.f37 impl_in.bd [.int .i64 (x0), .int .i64 (least1), .int .i64 (most2)] [] K = (impl_in N (fun d0 => K (.bool (d0)) []) x0 least1 most2) := by kernel_rfl
def impl_in.en (N : Nat) (ρ : Type) : List AV → Heap → (AV → Heap → Option ρ) → Option ρ
  | [.int .i64 (x0), .int .i64 (least1), .int .i64 (most2)], [], K => (impl_in N (fun d0 => K (.bool (d0)) []) x0 least1 most2)
  | _, _, _ => none
theorem impl_in.en_ok (N : Nat) (hE : EnvOk (E23 N) ents) (ρ : Type) (args : List AV) (sh : Heap) (K : AV → Heap → Option ρ) (r : ρ) (h : impl_in.en N ρ args sh K = some r) : ∃ v sh', K v sh' = some r ∧ FnOk (E23 N).P 37 args sh v sh' := by
  unfold impl_in.en at h
  split at h
  · exact fn_ok hE (kp := impl_in.kp) (N := N) Go.Proofs.Tryz.func37 (c := impl_in.bd) (by kernel_rfl) ((impl_in.eq N _ _ _ _).trans h)
  · cases h
def E24 (N : Nat) : Env := (E23 N).add 37 (impl_in.en N)
theorem E24_ok (N : Nat) : EnvOk (E24 N) ents := Env.add_ok (E23_ok N) (impl_in.en_ok N (E23_ok N))
def impl_IsVector.kp : Keeps := ⟨[(0, [0, 1, 17, 18], [], [])], [(0, [], [], [])], []⟩
def impl_IsVector.bd : Code := bodyOf Go.Proofs.Tryz.f15
def impl_IsVector.fin {ρ : Type} (N : Nat) (K : AV → Heap → Option ρ) : XE → St → Option ρ := finK (E24 N) impl_IsVector.kp.fins Go.Proofs.Tryz.f15 [] K
def impl_IsVector.k0 {ρ : Type} (N : Nat) (K : AV → Heap → Option ρ) : XE → St → Option ρ := (blockK impl_IsVector.kp 0 0 (seqK (xcode (E24 N) ents impl_IsVector.kp 0 N (cB (cB (cB impl_IsVector.bd))) 0) (impl_IsVector.fin N K)))
theorem impl_IsVector.k0_mix {ρ : Type} (N : Nat) (K : AV → Heap → Option ρ) : mixK (impl_IsVector.fin N K .ret) (impl_IsVector.k0 N K) = (impl_IsVector.k0 N K) := by
  funext e s; cases e <;> kernel_rfl
def impl_IsVector.st0 (p0 : Int) (nv1 : Int) (v2 : Nat → Int) (x5 : Int) : St := ⟨sl 36 [(0, .int .i64 (p0)), (1, .int .i64 (nv1)), (17, .agg [⟨.u8, 8, v2⟩]), (18, .int .i64 (x5))], []⟩
def impl_IsVector.sx0_0 : St := ⟨sl 36 [], []⟩
theorem impl_IsVector.b0_gen {ρ : Type} (N : Nat) (K : AV → Heap → Option ρ) (L0 : St → Option ρ) (kv : XE → St → Option ρ) (p0 : Int) (nv1 : Int) (v2 : Nat → Int) (x5 : Int) :
    xcode (E24 N) ents impl_IsVector.kp 0 N (cL (cK (cB (cA (cB (cB impl_IsVector.bd)))))) 0 (impl_IsVector.st0 p0 nv1 v2 x5) (roundK impl_IsVector.kp 0 0 L0 (mixK (impl_IsVector.fin N K .ret) kv)) = (impl_IsVector.b0 N (fun d0 => K (.bool (d0)) []) (fun x5 => L0 (impl_IsVector.st0 p0 nv1 v2 x5)) (kv (.exit 0) (impl_IsVector.sx0_0)) p0 nv1 v2 x5) := by kernel_rfl
theorem impl_IsVector.b0_eq {ρ : Type} (N : Nat) (K : AV → Heap → Option ρ) (L0 : St → Option ρ) (p0 : Int) (nv1 : Int) (v2 : Nat → Int) (x5 : Int) :
    xcode (E24 N) ents impl_IsVector.kp 0 N (cL (cK (cB (cA (cB (cB impl_IsVector.bd)))))) 0 (impl_IsVector.st0 p0 nv1 v2 x5) (roundK impl_IsVector.kp 0 0 L0 (impl_IsVector.k0 N K)) = (impl_IsVector.b0 N (fun d0 => K (.bool (d0)) []) (fun x5 => L0 (impl_IsVector.st0 p0 nv1 v2 x5)) ((impl_IsVector.k0 N K) (.exit 0) (impl_IsVector.sx0_0)) p0 nv1 v2 x5) := by
  have h := impl_IsVector.b0_gen N K L0 (impl_IsVector.k0 N K) p0 nv1 v2 x5
  rw [impl_IsVector.k0_mix] at h
  exact h
theorem impl_IsVector.a0_0_eq {ρ : Type} (N : Nat) (K : AV → Heap → Option ρ) :
    (impl_IsVector.k0 N K) (.exit 0) (impl_IsVector.sx0_0) = (impl_IsVector.a0_0 N (fun d0 => K (.bool (d0)) [])) := by kernel_rfl
theorem impl_IsVector.l0_eq {ρ : Type} (N : Nat) (K : AV → Heap → Option ρ) (p0 : Int) (nv1 : Int) (v2 : Nat → Int) :
    ∀ (m : Nat) (x5 : Int), xloop (xcode (E24 N) ents impl_IsVector.kp 0 N (cL (cK (cB (cA (cB (cB impl_IsVector.bd)))))) 0) impl_IsVector.kp 0 0 m (impl_IsVector.st0 p0 nv1 v2 x5) (impl_IsVector.k0 N K) = (impl_IsVector.l0 N (fun d0 => K (.bool (d0)) []) p0 nv1 v2 ((impl_IsVector.k0 N K) (.exit 0) (impl_IsVector.sx0_0)) m x5) := by
  intro m
  induction m with
  | zero => intros; rfl
  | succ m ih =>
    intro x5
    refine (impl_IsVector.b0_eq N K (fun s => xloop (xcode (E24 N) ents impl_IsVector.kp 0 N (cL (cK (cB (cA (cB (cB impl_IsVector.bd)))))) 0) impl_IsVector.kp 0 0 m s (impl_IsVector.k0 N K)) p0 nv1 v2 x5).trans ?_
    simp only [ih]
    kernel_rfl
theorem impl_IsVector.s_eq {ρ : Type} (N : Nat) (K : AV → Heap → Option ρ) (p0 : Int) (nv1 : Int) (v2 : Nat → Int) :
    xbody (E24 N) ents impl_IsVector.kp N Go.Proofs.Tryz.f15 impl_IsVector.bd [.int .i64 (p0), .int .i64 (nv1), .agg [⟨.u8, 8, v2⟩]] [] K = (impl_IsVector.s N (fun d0 => K (.bool (d0)) []) (fun x5 => xloop (xcode (E24 N) ents impl_IsVector.kp 0 N (cL (cK (cB (cA (cB (cB impl_IsVector.bd)))))) 0) impl_IsVector.kp 0 0 N (impl_IsVector.st0 p0 nv1 v2 x5) (impl_IsVector.k0 N K)) p0 nv1) := by kernel_rfl
theorem impl_IsVector.eqb {ρ : Type} (N : Nat) (K : AV → Heap → Option ρ) (p0 : Int) (nv1 : Int) (v2 : Nat → Int) :
    xbody (E24 N) ents impl_IsVector.kp N Go.Proofs.Tryz.f15 impl_IsVector.bd [.int .i64 (p0), .int .i64 (nv1), .agg [⟨.u8, 8, v2⟩]] [] K = (impl_IsVector.bdy N (fun d0 => K (.bool (d0)) []) p0 nv1 v2) := by
  refine (impl_IsVector.s_eq N K p0 nv1 v2).trans ?_
  simp only [impl_IsVector.l0_eq, impl_IsVector.a0_0_eq]
  kernel_rfl
theorem impl_IsVector.eq {ρ : Type} (N : Nat) (K : AV → Heap → Option ρ) (p0 : Int) (nv1 : Int) (v2 : Nat → Int) :
    xbody (E24 N) ents impl_IsVector.kp N Go.Proofs.Tryz.f15 impl_IsVector.bd [.int .i64 (p0), .int .i64 (nv1), .agg [⟨.u8, 8, v2⟩]] [] K = (impl_IsVector N (fun d0 => K (.bool (d0)) []) p0 nv1 v2) :=
  (impl_IsVector.eqb N K p0 nv1 v2).trans (impl_IsVector.opq _ _ _ _ _).symm
def impl_IsVector.en (N : Nat) (ρ : Type) : List AV → Heap → (AV → Heap → Option ρ) → Option ρ
  | [.int .i64 (p0), .int .i64 (nv1), .agg [⟨.u8, 8, v2⟩]], [], K => (impl_IsVector N (fun d0 => K (.bool (d0)) []) p0 nv1 v2)
  | _, _, _ => none
theorem impl_IsVector.en_ok (N : Nat) (hE : EnvOk (E24 N) ents) (ρ : Type) (args : List AV) (sh : Heap) (K : AV → Heap → Option ρ) (r : ρ) (h : impl_IsVector.en N ρ args sh K = some r) : ∃ v sh', K v sh' = some r ∧ FnOk (E24 N).P 15 args sh v sh' := by
  unfold impl_IsVector.en at h
  split at h
  · exact fn_ok hE (kp := impl_IsVector.kp) (N := N) Go.Proofs.Tryz.func15 (c := impl_IsVector.bd) (by kernel_rfl) ((impl_IsVector.eq N _ _ _ _).trans h)
  · cases h
def E25 (N : Nat) : Env := (E24 N).add 15 (impl_IsVector.en N)
theorem E25_ok (N : Nat) : EnvOk (E25 N) ents := Env.add_ok (E24_ok N) (impl_IsVector.en_ok N (E24_ok N))
def impl_ReduceVectors_c1.kp : Keeps := ⟨[], [], []⟩
def impl_ReduceVectors_c1.bd : Code := bodyOf Go.Proofs.Tryz.f25
def impl_ReduceVectors_c1.fin {ρ : Type} (N : Nat) (K : AV → Heap → Option ρ) (gv1 : Nat → Int) (gv2 : Nat → Int) : XE → St → Option ρ := finK (E25 N) impl_ReduceVectors_c1.kp.fins Go.Proofs.Tryz.f25 [⟨false, .flat 1 (.ints .i64 gv1)⟩, ⟨false, .flat 1 (.ints .i64 gv2)⟩] K
theorem impl_ReduceVectors_c1.eq {ρ : Type} (N : Nat) (K : AV → Heap → Option ρ) (v0 : Nat → Int) (gv1 : Nat → Int) (gv2 : Nat → Int) :
    xbody (E25 N) ents impl_ReduceVectors_c1.kp N Go.Proofs.Tryz.f25 impl_ReduceVectors_c1.bd [.agg [⟨.u8, 8, v0⟩], .sptr [(0, 1)], .sptr [(1, 1)]] [⟨false, .flat 1 (.ints .i64 gv1)⟩, ⟨false, .flat 1 (.ints .i64 gv2)⟩] K = (impl_ReduceVectors_c1 N (fun d0 => K (.bool (d0)) [⟨false, .flat 1 (.ints .i64 gv1)⟩, ⟨false, .flat 1 (.ints .i64 gv2)⟩]) v0 gv1 gv2) := by kernel_rfl
end
end Go.Proofs.YtoeailachidcdaaGreatDoor.H
