/- The program computes these functions. -/
import Derived.Test.YtgfmgfgjpobndaaHP0
import Derived.Test.YtgfmgfgjpobndaaChecked
import Derived.KernelRfl
namespace Go.Proofs.Ytgfmgfgjpobndaa.H
set_option linter.unusedVariables false
set_option linter.unusedSimpArgs false
open Go Go.RowKit Go.Proofs.Ytgfmgfgjpobndaa.Hy
set_option linter.unusedVariables false
set_option maxRecDepth 100000
noncomputable def lays : List Lay := [.other, .func, .int .i64, .int .i64, .bool, .int .u8, .int .u8, .mix [(0, 1, false), (1, 1, false), (2, 1, false), (3, 1, false)] [.int .i64, .int .i64, .bool, .int .u8], .mix [(0, 1, false), (1, 1, false), (2, 1, false), (3, 1, false)] [.int .i64, .int .i64, .bool, .int .u8], .str, .str, .str, .int .u64, .mix [(0, 1, false), (1, 1, false)] [.str, .int .u64], .mix [(0, 1, false), (1, 1, false)] [.str, .int .u64], .ptr, .ptr, .ptr, .other, .other, .other, .int .i32, .slice 39 1 24, .func, .arr 8 5 1 .u8, .arr 8 5 1 .u8, .arr 8 25 8 .u8, .arr 8 25 8 .u8, .arr 8 27 64 .u8, .arr 8 27 64 .u8, .struct [(0, 1, false), (1, 1, false), (2, 8, true), (10, 512, true), (522, 8, true), (530, 512, true), (1042, 64, true)] [(.i64, 2), (.u8, 1104)], .struct [(0, 1, false), (1, 1, false), (2, 8, true), (10, 512, true), (522, 8, true), (530, 512, true), (1042, 64, true)] [(.i64, 2), (.u8, 1104)], .other, .func, .func, .func, .func, .func, .func, .slice 2 1 8, .func, .func, .func, .func, .func, .func, .func, .func, .func, .func, .func, .func, .func, .func, .ptr, .func, .ptr, .func, .ptr, .func, .func, .func, .func, .func, .func, .other, .other, .other, .other, .other, .func, .int .u32, .int .u8, .int .u8, .func, .ptr, .int .i32, .int .i32, .other, .other, .func, .other]

noncomputable def wrs : List (FuncId × List Bool) := []

noncomputable def ents : List FuncId := [3, 4, 5, 6, 7, 8, 9, 10, 11, 12, 13, 14, 15, 16, 17, 18, 19, 20, 21, 22, 23, 24, 25, 26, 27, 28, 29, 30, 31, 32, 33, 34, 35, 36, 37, 38, 39, 40, 41, 42]

noncomputable def E0 (N : Nat) : Env := env0 Go.Proofs.Try.prog lays wrs

theorem E0_ok (N : Nat) : EnvOk (E0 N) ents := env0_ok (by kernel_rfl) (by kernel_rfl) (by kernel_rfl)

noncomputable def laws_szInt64S_su.kp : Keeps := ⟨[], [], []⟩

noncomputable def laws_szInt64S_su.bd : Code := bodyOf Go.Proofs.Try.f10

noncomputable def laws_szInt64S_su.fin {ρ : Type} (N : Nat) (K : AV → Heap → Option ρ) (gv2 : Nat) (gv3 : Nat → Int) : XE → St → Option ρ := finK (E0 N) laws_szInt64S_su.kp.fins Go.Proofs.Try.f10 [⟨false, .flat gv2 (.ints .i64 gv3)⟩] K

theorem laws_szInt64S_su.eq {ρ : Type} (N : Nat) (K : AV → Heap → Option ρ) (av0 : Nat) (left1 : Int) (gv2 : Nat) (gv3 : Nat → Int) :
    xbody (E0 N) ents laws_szInt64S_su.kp N Go.Proofs.Try.f10 laws_szInt64S_su.bd [.slice false 0 0 av0 .unk 1, .int .i64 (left1)] [⟨false, .flat gv2 (.ints .i64 gv3)⟩] K = (laws_szInt64S_su N (fun d0 => K (.int .i64 (d0)) [⟨false, .flat gv2 (.ints .i64 gv3)⟩]) av0 left1 gv2 gv3) := by kernel_rfl

noncomputable def laws_szInt64S_su.en (N : Nat) (ρ : Type) : List AV → Heap → (AV → Heap → Option ρ) → Option ρ
  | [.slice false 0 0 av0 .unk 1, .int .i64 (left1)], [⟨false, .flat gv2 (.ints .i64 gv3)⟩], K => (laws_szInt64S_su N (fun d0 => K (.int .i64 (d0)) [⟨false, .flat gv2 (.ints .i64 gv3)⟩]) av0 left1 gv2 gv3)
  | _, _, _ => none

theorem laws_szInt64S_su.en_ok (N : Nat) (hE : EnvOk (E0 N) ents) (ρ : Type) (args : List AV) (sh : Heap) (K : AV → Heap → Option ρ) (r : ρ) (h : laws_szInt64S_su.en N ρ args sh K = some r) : ∃ v sh', K v sh' = some r ∧ FnOk (E0 N).P 10 args sh v sh' := by
  unfold laws_szInt64S_su.en at h
  split at h
  · exact fn_ok hE (kp := laws_szInt64S_su.kp) (N := N) Go.Proofs.Try.func10 (c := laws_szInt64S_su.bd) (by kernel_rfl) ((laws_szInt64S_su.eq N _ _ _ _ _).trans h)
  · cases h

noncomputable def E1 (N : Nat) : Env := (E0 N).add 10 (laws_szInt64S_su.en N)

theorem E1_ok (N : Nat) : EnvOk (E1 N) ents := Env.add_ok (E0_ok N) (laws_szInt64S_su.en_ok N (E0_ok N))

noncomputable def laws_szInt64SS_suh.kp : Keeps := ⟨[(0, [0, 1, 5], [], [])], [(0, [1], [], [])], []⟩

noncomputable def laws_szInt64SS_suh.bd : Code := bodyOf Go.Proofs.Try.f4

noncomputable def laws_szInt64SS_suh.fin {ρ : Type} (N : Nat) (K : AV → Heap → Option ρ) (gv2 : Nat) (gv3 : Nat) (gv4 : Nat → Nat) (gv5 : Nat → Nat) (gv6 : Nat) (gv7 : Nat → Int) : XE → St → Option ρ := finK (E1 N) laws_szInt64SS_suh.kp.fins Go.Proofs.Try.f4 [⟨false, .hdr 1 gv2 gv3 gv4 gv5 none⟩, ⟨false, .flat gv6 (.ints .i64 gv7)⟩] K

noncomputable def laws_szInt64SS_suh.k0 {ρ : Type} (N : Nat) (K : AV → Heap → Option ρ) (gv2 : Nat) (gv3 : Nat) (gv4 : Nat → Nat) (gv5 : Nat → Nat) (gv6 : Nat) (gv7 : Nat → Int) : XE → St → Option ρ := (blockK laws_szInt64SS_suh.kp 2 0 (seqK (xcode (E1 N) ents laws_szInt64SS_suh.kp 2 N (cB (cB (cB (cB laws_szInt64SS_suh.bd)))) 0) (laws_szInt64SS_suh.fin N K gv2 gv3 gv4 gv5 gv6 gv7)))

theorem laws_szInt64SS_suh.k0_mix {ρ : Type} (N : Nat) (K : AV → Heap → Option ρ) (gv2 : Nat) (gv3 : Nat) (gv4 : Nat → Nat) (gv5 : Nat → Nat) (gv6 : Nat) (gv7 : Nat → Int) : mixK (laws_szInt64SS_suh.fin N K gv2 gv3 gv4 gv5 gv6 gv7 .ret) (laws_szInt64SS_suh.k0 N K gv2 gv3 gv4 gv5 gv6 gv7) = (laws_szInt64SS_suh.k0 N K gv2 gv3 gv4 gv5 gv6 gv7) := by
  funext e s; cases e <;> kernel_rfl

noncomputable def laws_szInt64SS_suh.st0 (av0 : Nat) (gv2 : Nat) (gv3 : Nat) (gv4 : Nat → Nat) (gv5 : Nat → Nat) (gv6 : Nat) (gv7 : Nat → Int) (left8 : Int) (i9 : Int) : St := ⟨sl 27 [(0, .slice false 0 0 av0 .unk 1), (1, .int .i64 (left8)), (5, .int .i64 (i9))], [⟨false, .hdr 1 gv2 gv3 gv4 gv5 none⟩, ⟨false, .flat gv6 (.ints .i64 gv7)⟩]⟩

noncomputable def laws_szInt64SS_suh.sx0_0 (gv2 : Nat) (gv3 : Nat) (gv4 : Nat → Nat) (gv5 : Nat → Nat) (gv6 : Nat) (gv7 : Nat → Int) (ov11 : Int) : St := ⟨sl 27 [(1, .int .i64 (ov11))], [⟨false, .hdr 1 gv2 gv3 gv4 gv5 none⟩, ⟨false, .flat gv6 (.ints .i64 gv7)⟩]⟩

theorem laws_szInt64SS_suh.b0_gen {ρ : Type} (N : Nat) (K : AV → Heap → Option ρ) (L0 : St → Option ρ) (kv : XE → St → Option ρ) (av0 : Nat) (gv2 : Nat) (gv3 : Nat) (gv4 : Nat → Nat) (gv5 : Nat → Nat) (gv6 : Nat) (gv7 : Nat → Int) (left8 : Int) (i9 : Int) :
    xcode (E1 N) ents laws_szInt64SS_suh.kp 2 N (cL (cK (cB (cA (cB (cB (cB laws_szInt64SS_suh.bd))))))) 0 (laws_szInt64SS_suh.st0 av0 gv2 gv3 gv4 gv5 gv6 gv7 left8 i9) (roundK laws_szInt64SS_suh.kp 2 0 L0 (mixK (laws_szInt64SS_suh.fin N K gv2 gv3 gv4 gv5 gv6 gv7 .ret) kv)) = (laws_szInt64SS_suh.b0 N (fun d0 => K (.int .i64 (d0)) [⟨false, .hdr 1 gv2 gv3 gv4 gv5 none⟩, ⟨false, .flat gv6 (.ints .i64 gv7)⟩]) (fun left8 i9 => L0 (laws_szInt64SS_suh.st0 av0 gv2 gv3 gv4 gv5 gv6 gv7 left8 i9)) (fun ov11 => kv (.exit 0) (laws_szInt64SS_suh.sx0_0 gv2 gv3 gv4 gv5 gv6 gv7 ov11)) av0 gv4 gv5 gv7 left8 i9) := by kernel_rfl

theorem laws_szInt64SS_suh.b0_eq {ρ : Type} (N : Nat) (K : AV → Heap → Option ρ) (L0 : St → Option ρ) (av0 : Nat) (gv2 : Nat) (gv3 : Nat) (gv4 : Nat → Nat) (gv5 : Nat → Nat) (gv6 : Nat) (gv7 : Nat → Int) (left8 : Int) (i9 : Int) :
    xcode (E1 N) ents laws_szInt64SS_suh.kp 2 N (cL (cK (cB (cA (cB (cB (cB laws_szInt64SS_suh.bd))))))) 0 (laws_szInt64SS_suh.st0 av0 gv2 gv3 gv4 gv5 gv6 gv7 left8 i9) (roundK laws_szInt64SS_suh.kp 2 0 L0 (laws_szInt64SS_suh.k0 N K gv2 gv3 gv4 gv5 gv6 gv7)) = (laws_szInt64SS_suh.b0 N (fun d0 => K (.int .i64 (d0)) [⟨false, .hdr 1 gv2 gv3 gv4 gv5 none⟩, ⟨false, .flat gv6 (.ints .i64 gv7)⟩]) (fun left8 i9 => L0 (laws_szInt64SS_suh.st0 av0 gv2 gv3 gv4 gv5 gv6 gv7 left8 i9)) (fun ov11 => (laws_szInt64SS_suh.k0 N K gv2 gv3 gv4 gv5 gv6 gv7) (.exit 0) (laws_szInt64SS_suh.sx0_0 gv2 gv3 gv4 gv5 gv6 gv7 ov11)) av0 gv4 gv5 gv7 left8 i9) := by
  have h := laws_szInt64SS_suh.b0_gen N K L0 (laws_szInt64SS_suh.k0 N K gv2 gv3 gv4 gv5 gv6 gv7) av0 gv2 gv3 gv4 gv5 gv6 gv7 left8 i9
  rw [laws_szInt64SS_suh.k0_mix] at h
  exact h

theorem laws_szInt64SS_suh.a0_0_eq {ρ : Type} (N : Nat) (K : AV → Heap → Option ρ) (gv2 : Nat) (gv3 : Nat) (gv4 : Nat → Nat) (gv5 : Nat → Nat) (gv6 : Nat) (gv7 : Nat → Int) (ov11 : Int) :
    (laws_szInt64SS_suh.k0 N K gv2 gv3 gv4 gv5 gv6 gv7) (.exit 0) (laws_szInt64SS_suh.sx0_0 gv2 gv3 gv4 gv5 gv6 gv7 ov11) = (laws_szInt64SS_suh.a0_0 N (fun d0 => K (.int .i64 (d0)) [⟨false, .hdr 1 gv2 gv3 gv4 gv5 none⟩, ⟨false, .flat gv6 (.ints .i64 gv7)⟩]) ov11) := by kernel_rfl

theorem laws_szInt64SS_suh.l0_eq {ρ : Type} (N : Nat) (K : AV → Heap → Option ρ) (av0 : Nat) (gv2 : Nat) (gv3 : Nat) (gv4 : Nat → Nat) (gv5 : Nat → Nat) (gv6 : Nat) (gv7 : Nat → Int) :
    ∀ (m : Nat) (left8 : Int) (i9 : Int), xloop (xcode (E1 N) ents laws_szInt64SS_suh.kp 2 N (cL (cK (cB (cA (cB (cB (cB laws_szInt64SS_suh.bd))))))) 0) laws_szInt64SS_suh.kp 2 0 m (laws_szInt64SS_suh.st0 av0 gv2 gv3 gv4 gv5 gv6 gv7 left8 i9) (laws_szInt64SS_suh.k0 N K gv2 gv3 gv4 gv5 gv6 gv7) = (laws_szInt64SS_suh.l0 N (fun d0 => K (.int .i64 (d0)) [⟨false, .hdr 1 gv2 gv3 gv4 gv5 none⟩, ⟨false, .flat gv6 (.ints .i64 gv7)⟩]) av0 gv4 gv5 gv7 (fun ov11 => (laws_szInt64SS_suh.k0 N K gv2 gv3 gv4 gv5 gv6 gv7) (.exit 0) (laws_szInt64SS_suh.sx0_0 gv2 gv3 gv4 gv5 gv6 gv7 ov11)) m left8 i9) := by
  intro m
  induction m with
  | zero => intros; rfl
  | succ m ih =>
    intro left8 i9
    refine (laws_szInt64SS_suh.b0_eq N K (fun s => xloop (xcode (E1 N) ents laws_szInt64SS_suh.kp 2 N (cL (cK (cB (cA (cB (cB (cB laws_szInt64SS_suh.bd))))))) 0) laws_szInt64SS_suh.kp 2 0 m s (laws_szInt64SS_suh.k0 N K gv2 gv3 gv4 gv5 gv6 gv7)) av0 gv2 gv3 gv4 gv5 gv6 gv7 left8 i9).trans ?_
    simp only [ih]
    kernel_rfl

theorem laws_szInt64SS_suh.s_eq {ρ : Type} (N : Nat) (K : AV → Heap → Option ρ) (av0 : Nat) (left1 : Int) (gv2 : Nat) (gv3 : Nat) (gv4 : Nat → Nat) (gv5 : Nat → Nat) (gv6 : Nat) (gv7 : Nat → Int) :
    xbody (E1 N) ents laws_szInt64SS_suh.kp N Go.Proofs.Try.f4 laws_szInt64SS_suh.bd [.slice false 0 0 av0 .unk 1, .int .i64 (left1)] [⟨false, .hdr 1 gv2 gv3 gv4 gv5 none⟩, ⟨false, .flat gv6 (.ints .i64 gv7)⟩] K = (laws_szInt64SS_suh.s N (fun d0 => K (.int .i64 (d0)) [⟨false, .hdr 1 gv2 gv3 gv4 gv5 none⟩, ⟨false, .flat gv6 (.ints .i64 gv7)⟩]) (fun left8 i9 => xloop (xcode (E1 N) ents laws_szInt64SS_suh.kp 2 N (cL (cK (cB (cA (cB (cB (cB laws_szInt64SS_suh.bd))))))) 0) laws_szInt64SS_suh.kp 2 0 N (laws_szInt64SS_suh.st0 av0 gv2 gv3 gv4 gv5 gv6 gv7 left8 i9) (laws_szInt64SS_suh.k0 N K gv2 gv3 gv4 gv5 gv6 gv7)) av0 left1) := by kernel_rfl

theorem laws_szInt64SS_suh.eq {ρ : Type} (N : Nat) (K : AV → Heap → Option ρ) (av0 : Nat) (left1 : Int) (gv2 : Nat) (gv3 : Nat) (gv4 : Nat → Nat) (gv5 : Nat → Nat) (gv6 : Nat) (gv7 : Nat → Int) :
    xbody (E1 N) ents laws_szInt64SS_suh.kp N Go.Proofs.Try.f4 laws_szInt64SS_suh.bd [.slice false 0 0 av0 .unk 1, .int .i64 (left1)] [⟨false, .hdr 1 gv2 gv3 gv4 gv5 none⟩, ⟨false, .flat gv6 (.ints .i64 gv7)⟩] K = (laws_szInt64SS_suh N (fun d0 => K (.int .i64 (d0)) [⟨false, .hdr 1 gv2 gv3 gv4 gv5 none⟩, ⟨false, .flat gv6 (.ints .i64 gv7)⟩]) av0 left1 gv2 gv3 gv4 gv5 gv6 gv7) := by
  refine (laws_szInt64SS_suh.s_eq N K av0 left1 gv2 gv3 gv4 gv5 gv6 gv7).trans ?_
  simp only [laws_szInt64SS_suh.l0_eq, laws_szInt64SS_suh.a0_0_eq]
  kernel_rfl

noncomputable def laws_szInt64SS_suh.en (N : Nat) (ρ : Type) : List AV → Heap → (AV → Heap → Option ρ) → Option ρ
  | [.slice false 0 0 av0 .unk 1, .int .i64 (left1)], [⟨false, .hdr 1 gv2 gv3 gv4 gv5 none⟩, ⟨false, .flat gv6 (.ints .i64 gv7)⟩], K => (laws_szInt64SS_suh N (fun d0 => K (.int .i64 (d0)) [⟨false, .hdr 1 gv2 gv3 gv4 gv5 none⟩, ⟨false, .flat gv6 (.ints .i64 gv7)⟩]) av0 left1 gv2 gv3 gv4 gv5 gv6 gv7)
  | _, _, _ => none

theorem laws_szInt64SS_suh.en_ok (N : Nat) (hE : EnvOk (E1 N) ents) (ρ : Type) (args : List AV) (sh : Heap) (K : AV → Heap → Option ρ) (r : ρ) (h : laws_szInt64SS_suh.en N ρ args sh K = some r) : ∃ v sh', K v sh' = some r ∧ FnOk (E1 N).P 4 args sh v sh' := by
  unfold laws_szInt64SS_suh.en at h
  split at h
  · exact fn_ok hE (kp := laws_szInt64SS_suh.kp) (N := N) Go.Proofs.Try.func4 (c := laws_szInt64SS_suh.bd) (by kernel_rfl) ((laws_szInt64SS_suh.eq N _ _ _ _ _ _ _ _ _).trans h)
  · cases h

noncomputable def E2 (N : Nat) : Env := (E1 N).add 4 (laws_szInt64SS_suh.en N)

theorem E2_ok (N : Nat) : EnvOk (E2 N) ents := Env.add_ok (E1_ok N) (laws_szInt64SS_suh.en_ok N (E1_ok N))

noncomputable def laws_roomBehind.kp : Keeps := ⟨[], [], []⟩

noncomputable def laws_roomBehind.bd : Code := bodyOf Go.Proofs.Try.f14

noncomputable def laws_roomBehind.fin {ρ : Type} (N : Nat) (K : AV → Heap → Option ρ) : XE → St → Option ρ := finK (E2 N) laws_roomBehind.kp.fins Go.Proofs.Try.f14 [] K

theorem laws_roomBehind.eq {ρ : Type} (N : Nat) (K : AV → Heap → Option ρ) (nv0 : Int) :
    xbody (E2 N) ents laws_roomBehind.kp N Go.Proofs.Try.f14 laws_roomBehind.bd [.int .i64 (nv0)] [] K = (laws_roomBehind N (fun d0 => K (.int .i64 (d0)) []) nv0) := by kernel_rfl

noncomputable def laws_roomBehind.en (N : Nat) (ρ : Type) : List AV → Heap → (AV → Heap → Option ρ) → Option ρ
  | [.int .i64 (nv0)], [], K => (laws_roomBehind N (fun d0 => K (.int .i64 (d0)) []) nv0)
  | _, _, _ => none

theorem laws_roomBehind.en_ok (N : Nat) (hE : EnvOk (E2 N) ents) (ρ : Type) (args : List AV) (sh : Heap) (K : AV → Heap → Option ρ) (r : ρ) (h : laws_roomBehind.en N ρ args sh K = some r) : ∃ v sh', K v sh' = some r ∧ FnOk (E2 N).P 14 args sh v sh' := by
  unfold laws_roomBehind.en at h
  split at h
  · exact fn_ok hE (kp := laws_roomBehind.kp) (N := N) Go.Proofs.Try.func14 (c := laws_roomBehind.bd) (by kernel_rfl) ((laws_roomBehind.eq N _ _).trans h)
  · cases h

noncomputable def E3 (N : Nat) : Env := (E2 N).add 14 (laws_roomBehind.en N)

theorem E3_ok (N : Nat) : EnvOk (E3 N) ents := Env.add_ok (E2_ok N) (laws_roomBehind.en_ok N (E2_ok N))

noncomputable def laws_toInt64S_su0.kp : Keeps := ⟨[(0, [0, 5, 6], [], []), (2, [0, 5, 7], [], [])], [(0, [0, 5], [], []), (2, [0, 5], [], [])], []⟩

noncomputable def laws_toInt64S_su0.bd : Code := bodyOf Go.Proofs.Try.f15

noncomputable def laws_toInt64S_su0.fin {ρ : Type} (N : Nat) (K : AV → Heap → Option ρ) (gv1 : Nat) (gv2 : Nat → Int) : XE → St → Option ρ := finK (E3 N) laws_toInt64S_su0.kp.fins Go.Proofs.Try.f15 [⟨false, .flat gv1 (.ints .i64 gv2)⟩] K

noncomputable def laws_toInt64S_su0.k0 {ρ : Type} (N : Nat) (K : AV → Heap → Option ρ) (gv1 : Nat) (gv2 : Nat → Int) : XE → St → Option ρ := (blockK laws_toInt64S_su0.kp 1 0 (seqK (xcode (E3 N) ents laws_toInt64S_su0.kp 1 N (cB (cB (cB (cB laws_toInt64S_su0.bd)))) 0) (laws_toInt64S_su0.fin N K gv1 gv2)))

theorem laws_toInt64S_su0.k0_mix {ρ : Type} (N : Nat) (K : AV → Heap → Option ρ) (gv1 : Nat) (gv2 : Nat → Int) : mixK (laws_toInt64S_su0.fin N K gv1 gv2 .ret) (laws_toInt64S_su0.k0 N K gv1 gv2) = (laws_toInt64S_su0.k0 N K gv1 gv2) := by
  funext e s; cases e <;> kernel_rfl

noncomputable def laws_toInt64S_su0.st0 (av0 : Nat) (gv1 : Nat) (gv2 : Nat → Int) (rv3 : Int) (i4 : Int) (gv5 : Nat → Int) : St := ⟨sl 49 [(0, .slice false 0 0 av0 .unk 1), (5, .slice true 1 0 ((IntKind.i64.wrap ((av0 : Int) + rv3))).toNat (.exact ((IntKind.i64.wrap ((av0 : Int) + rv3))).toNat) 1), (6, .int .i64 (i4))], [⟨false, .flat gv1 (.ints .i64 gv2)⟩, ⟨true, .flat (((IntKind.i64.wrap ((av0 : Int) + rv3))).toNat * 1) (.ints .i64 gv5)⟩]⟩

noncomputable def laws_toInt64S_su0.sx0_0 (av0 : Nat) (gv1 : Nat) (gv2 : Nat → Int) (rv3 : Int) (ov6 : Nat → Int) : St := ⟨sl 49 [(0, .slice false 0 0 av0 .unk 1), (5, .slice true 1 0 ((IntKind.i64.wrap ((av0 : Int) + rv3))).toNat (.exact ((IntKind.i64.wrap ((av0 : Int) + rv3))).toNat) 1)], [⟨false, .flat gv1 (.ints .i64 gv2)⟩, ⟨true, .flat (((IntKind.i64.wrap ((av0 : Int) + rv3))).toNat * 1) (.ints .i64 ov6)⟩]⟩

noncomputable def laws_toInt64S_su0.k1 {ρ : Type} (N : Nat) (K : AV → Heap → Option ρ) (gv1 : Nat) (gv2 : Nat → Int) : XE → St → Option ρ := (blockK laws_toInt64S_su0.kp 1 2 (seqK (xcode (E3 N) ents laws_toInt64S_su0.kp 1 N (cB (cB (cB (cB (cB laws_toInt64S_su0.bd))))) 0) (laws_toInt64S_su0.fin N K gv1 gv2)))

theorem laws_toInt64S_su0.k1_mix {ρ : Type} (N : Nat) (K : AV → Heap → Option ρ) (gv1 : Nat) (gv2 : Nat → Int) : mixK (laws_toInt64S_su0.fin N K gv1 gv2 .ret) (laws_toInt64S_su0.k1 N K gv1 gv2) = (laws_toInt64S_su0.k1 N K gv1 gv2) := by
  funext e s; cases e <;> kernel_rfl

noncomputable def laws_toInt64S_su0.st1 (av0 : Nat) (gv1 : Nat) (gv2 : Nat → Int) (rv3 : Int) (i7 : Int) (gv8 : Nat → Int) : St := ⟨sl 49 [(0, .slice false 0 0 av0 .unk 1), (5, .slice true 1 0 ((IntKind.i64.wrap ((av0 : Int) + rv3))).toNat (.exact ((IntKind.i64.wrap ((av0 : Int) + rv3))).toNat) 1), (7, .int .i64 (i7))], [⟨false, .flat gv1 (.ints .i64 gv2)⟩, ⟨true, .flat (((IntKind.i64.wrap ((av0 : Int) + rv3))).toNat * 1) (.ints .i64 gv8)⟩]⟩

noncomputable def laws_toInt64S_su0.sx1_0 (av0 : Nat) (gv1 : Nat) (gv2 : Nat → Int) (rv3 : Int) (ov9 : Nat → Int) : St := ⟨sl 49 [(0, .slice false 0 0 av0 .unk 1), (5, .slice true 1 0 ((IntKind.i64.wrap ((av0 : Int) + rv3))).toNat (.exact ((IntKind.i64.wrap ((av0 : Int) + rv3))).toNat) 1)], [⟨false, .flat gv1 (.ints .i64 gv2)⟩, ⟨true, .flat (((IntKind.i64.wrap ((av0 : Int) + rv3))).toNat * 1) (.ints .i64 ov9)⟩]⟩

theorem laws_toInt64S_su0.b1_gen {ρ : Type} (N : Nat) (K : AV → Heap → Option ρ) (L1 : St → Option ρ) (kv : XE → St → Option ρ) (av0 : Nat) (gv1 : Nat) (gv2 : Nat → Int) (rv3 : Int) (i7 : Int) (gv8 : Nat → Int) :
    xcode (E3 N) ents laws_toInt64S_su0.kp 1 N (cL (cK (cB (cA (cB (cB (cB (cB laws_toInt64S_su0.bd)))))))) 2 (laws_toInt64S_su0.st1 av0 gv1 gv2 rv3 i7 gv8) (roundK laws_toInt64S_su0.kp 1 2 L1 (mixK (laws_toInt64S_su0.fin N K gv1 gv2 .ret) kv)) = (laws_toInt64S_su0.b1 N (fun d0 d1 d2 d3 => K (.slice true 1 0 d0 (.exact d1) 1) [⟨false, .flat gv1 (.ints .i64 gv2)⟩, ⟨true, .flat d2 (.ints .i64 d3)⟩]) (fun i7 gv8 => L1 (laws_toInt64S_su0.st1 av0 gv1 gv2 rv3 i7 gv8)) (fun ov9 => kv (.exit 2) (laws_toInt64S_su0.sx1_0 av0 gv1 gv2 rv3 ov9)) av0 rv3 i7 gv8) := by kernel_rfl

theorem laws_toInt64S_su0.b1_eq {ρ : Type} (N : Nat) (K : AV → Heap → Option ρ) (L1 : St → Option ρ) (av0 : Nat) (gv1 : Nat) (gv2 : Nat → Int) (rv3 : Int) (i7 : Int) (gv8 : Nat → Int) :
    xcode (E3 N) ents laws_toInt64S_su0.kp 1 N (cL (cK (cB (cA (cB (cB (cB (cB laws_toInt64S_su0.bd)))))))) 2 (laws_toInt64S_su0.st1 av0 gv1 gv2 rv3 i7 gv8) (roundK laws_toInt64S_su0.kp 1 2 L1 (laws_toInt64S_su0.k1 N K gv1 gv2)) = (laws_toInt64S_su0.b1 N (fun d0 d1 d2 d3 => K (.slice true 1 0 d0 (.exact d1) 1) [⟨false, .flat gv1 (.ints .i64 gv2)⟩, ⟨true, .flat d2 (.ints .i64 d3)⟩]) (fun i7 gv8 => L1 (laws_toInt64S_su0.st1 av0 gv1 gv2 rv3 i7 gv8)) (fun ov9 => (laws_toInt64S_su0.k1 N K gv1 gv2) (.exit 2) (laws_toInt64S_su0.sx1_0 av0 gv1 gv2 rv3 ov9)) av0 rv3 i7 gv8) := by
  have h := laws_toInt64S_su0.b1_gen N K L1 (laws_toInt64S_su0.k1 N K gv1 gv2) av0 gv1 gv2 rv3 i7 gv8
  rw [laws_toInt64S_su0.k1_mix] at h
  exact h

theorem laws_toInt64S_su0.a1_0_eq {ρ : Type} (N : Nat) (K : AV → Heap → Option ρ) (av0 : Nat) (gv1 : Nat) (gv2 : Nat → Int) (rv3 : Int) (ov9 : Nat → Int) :
    (laws_toInt64S_su0.k1 N K gv1 gv2) (.exit 2) (laws_toInt64S_su0.sx1_0 av0 gv1 gv2 rv3 ov9) = (laws_toInt64S_su0.a1_0 N (fun d0 d1 d2 d3 => K (.slice true 1 0 d0 (.exact d1) 1) [⟨false, .flat gv1 (.ints .i64 gv2)⟩, ⟨true, .flat d2 (.ints .i64 d3)⟩]) av0 rv3 ov9) := by kernel_rfl

theorem laws_toInt64S_su0.b0_gen {ρ : Type} (N : Nat) (K : AV → Heap → Option ρ) (L0 : St → Option ρ) (kv : XE → St → Option ρ) (av0 : Nat) (gv1 : Nat) (gv2 : Nat → Int) (rv3 : Int) (i4 : Int) (gv5 : Nat → Int) :
    xcode (E3 N) ents laws_toInt64S_su0.kp 1 N (cL (cK (cB (cA (cB (cB (cB laws_toInt64S_su0.bd))))))) 0 (laws_toInt64S_su0.st0 av0 gv1 gv2 rv3 i4 gv5) (roundK laws_toInt64S_su0.kp 1 0 L0 (mixK (laws_toInt64S_su0.fin N K gv1 gv2 .ret) kv)) = (laws_toInt64S_su0.b0 N (fun d0 d1 d2 d3 => K (.slice true 1 0 d0 (.exact d1) 1) [⟨false, .flat gv1 (.ints .i64 gv2)⟩, ⟨true, .flat d2 (.ints .i64 d3)⟩]) (fun i4 gv5 => L0 (laws_toInt64S_su0.st0 av0 gv1 gv2 rv3 i4 gv5)) (fun ov6 => kv (.exit 0) (laws_toInt64S_su0.sx0_0 av0 gv1 gv2 rv3 ov6)) av0 gv2 rv3 i4 gv5) := by kernel_rfl

theorem laws_toInt64S_su0.b0_eq {ρ : Type} (N : Nat) (K : AV → Heap → Option ρ) (L0 : St → Option ρ) (av0 : Nat) (gv1 : Nat) (gv2 : Nat → Int) (rv3 : Int) (i4 : Int) (gv5 : Nat → Int) :
    xcode (E3 N) ents laws_toInt64S_su0.kp 1 N (cL (cK (cB (cA (cB (cB (cB laws_toInt64S_su0.bd))))))) 0 (laws_toInt64S_su0.st0 av0 gv1 gv2 rv3 i4 gv5) (roundK laws_toInt64S_su0.kp 1 0 L0 (laws_toInt64S_su0.k0 N K gv1 gv2)) = (laws_toInt64S_su0.b0 N (fun d0 d1 d2 d3 => K (.slice true 1 0 d0 (.exact d1) 1) [⟨false, .flat gv1 (.ints .i64 gv2)⟩, ⟨true, .flat d2 (.ints .i64 d3)⟩]) (fun i4 gv5 => L0 (laws_toInt64S_su0.st0 av0 gv1 gv2 rv3 i4 gv5)) (fun ov6 => (laws_toInt64S_su0.k0 N K gv1 gv2) (.exit 0) (laws_toInt64S_su0.sx0_0 av0 gv1 gv2 rv3 ov6)) av0 gv2 rv3 i4 gv5) := by
  have h := laws_toInt64S_su0.b0_gen N K L0 (laws_toInt64S_su0.k0 N K gv1 gv2) av0 gv1 gv2 rv3 i4 gv5
  rw [laws_toInt64S_su0.k0_mix] at h
  exact h

theorem laws_toInt64S_su0.a0_0_eq {ρ : Type} (N : Nat) (K : AV → Heap → Option ρ) (av0 : Nat) (gv1 : Nat) (gv2 : Nat → Int) (rv3 : Int) (ov6 : Nat → Int) :
    (laws_toInt64S_su0.k0 N K gv1 gv2) (.exit 0) (laws_toInt64S_su0.sx0_0 av0 gv1 gv2 rv3 ov6) = (laws_toInt64S_su0.a0_0 N (fun d0 d1 d2 d3 => K (.slice true 1 0 d0 (.exact d1) 1) [⟨false, .flat gv1 (.ints .i64 gv2)⟩, ⟨true, .flat d2 (.ints .i64 d3)⟩]) (fun i7 gv8 => xloop (xcode (E3 N) ents laws_toInt64S_su0.kp 1 N (cL (cK (cB (cA (cB (cB (cB (cB laws_toInt64S_su0.bd)))))))) 2) laws_toInt64S_su0.kp 1 2 N (laws_toInt64S_su0.st1 av0 gv1 gv2 rv3 i7 gv8) (laws_toInt64S_su0.k1 N K gv1 gv2)) av0 ov6) := by kernel_rfl

theorem laws_toInt64S_su0.l1_eq {ρ : Type} (N : Nat) (K : AV → Heap → Option ρ) (av0 : Nat) (gv1 : Nat) (gv2 : Nat → Int) (rv3 : Int) :
    ∀ (m : Nat) (i7 : Int) (gv8 : Nat → Int), xloop (xcode (E3 N) ents laws_toInt64S_su0.kp 1 N (cL (cK (cB (cA (cB (cB (cB (cB laws_toInt64S_su0.bd)))))))) 2) laws_toInt64S_su0.kp 1 2 m (laws_toInt64S_su0.st1 av0 gv1 gv2 rv3 i7 gv8) (laws_toInt64S_su0.k1 N K gv1 gv2) = (laws_toInt64S_su0.l1 N (fun d0 d1 d2 d3 => K (.slice true 1 0 d0 (.exact d1) 1) [⟨false, .flat gv1 (.ints .i64 gv2)⟩, ⟨true, .flat d2 (.ints .i64 d3)⟩]) av0 rv3 (fun ov9 => (laws_toInt64S_su0.k1 N K gv1 gv2) (.exit 2) (laws_toInt64S_su0.sx1_0 av0 gv1 gv2 rv3 ov9)) m i7 gv8) := by
  intro m
  induction m with
  | zero => intros; rfl
  | succ m ih =>
    intro i7 gv8
    refine (laws_toInt64S_su0.b1_eq N K (fun s => xloop (xcode (E3 N) ents laws_toInt64S_su0.kp 1 N (cL (cK (cB (cA (cB (cB (cB (cB laws_toInt64S_su0.bd)))))))) 2) laws_toInt64S_su0.kp 1 2 m s (laws_toInt64S_su0.k1 N K gv1 gv2)) av0 gv1 gv2 rv3 i7 gv8).trans ?_
    simp only [ih]
    kernel_rfl

theorem laws_toInt64S_su0.l0_eq {ρ : Type} (N : Nat) (K : AV → Heap → Option ρ) (av0 : Nat) (gv1 : Nat) (gv2 : Nat → Int) (rv3 : Int) :
    ∀ (m : Nat) (i4 : Int) (gv5 : Nat → Int), xloop (xcode (E3 N) ents laws_toInt64S_su0.kp 1 N (cL (cK (cB (cA (cB (cB (cB laws_toInt64S_su0.bd))))))) 0) laws_toInt64S_su0.kp 1 0 m (laws_toInt64S_su0.st0 av0 gv1 gv2 rv3 i4 gv5) (laws_toInt64S_su0.k0 N K gv1 gv2) = (laws_toInt64S_su0.l0 N (fun d0 d1 d2 d3 => K (.slice true 1 0 d0 (.exact d1) 1) [⟨false, .flat gv1 (.ints .i64 gv2)⟩, ⟨true, .flat d2 (.ints .i64 d3)⟩]) av0 gv2 rv3 (fun ov6 => (laws_toInt64S_su0.k0 N K gv1 gv2) (.exit 0) (laws_toInt64S_su0.sx0_0 av0 gv1 gv2 rv3 ov6)) m i4 gv5) := by
  intro m
  induction m with
  | zero => intros; rfl
  | succ m ih =>
    intro i4 gv5
    refine (laws_toInt64S_su0.b0_eq N K (fun s => xloop (xcode (E3 N) ents laws_toInt64S_su0.kp 1 N (cL (cK (cB (cA (cB (cB (cB laws_toInt64S_su0.bd))))))) 0) laws_toInt64S_su0.kp 1 0 m s (laws_toInt64S_su0.k0 N K gv1 gv2)) av0 gv1 gv2 rv3 i4 gv5).trans ?_
    simp only [ih]
    kernel_rfl

theorem laws_toInt64S_su0.s_eq {ρ : Type} (N : Nat) (K : AV → Heap → Option ρ) (av0 : Nat) (gv1 : Nat) (gv2 : Nat → Int) :
    xbody (E3 N) ents laws_toInt64S_su0.kp N Go.Proofs.Try.f15 laws_toInt64S_su0.bd [.slice false 0 0 av0 .unk 1, .bool false] [⟨false, .flat gv1 (.ints .i64 gv2)⟩] K = (laws_toInt64S_su0.s N (fun d0 d1 d2 d3 => K (.slice true 1 0 d0 (.exact d1) 1) [⟨false, .flat gv1 (.ints .i64 gv2)⟩, ⟨true, .flat d2 (.ints .i64 d3)⟩]) (fun rv3 i4 gv5 => xloop (xcode (E3 N) ents laws_toInt64S_su0.kp 1 N (cL (cK (cB (cA (cB (cB (cB laws_toInt64S_su0.bd))))))) 0) laws_toInt64S_su0.kp 1 0 N (laws_toInt64S_su0.st0 av0 gv1 gv2 rv3 i4 gv5) (laws_toInt64S_su0.k0 N K gv1 gv2)) av0) := by kernel_rfl

theorem laws_toInt64S_su0.eq {ρ : Type} (N : Nat) (K : AV → Heap → Option ρ) (av0 : Nat) (gv1 : Nat) (gv2 : Nat → Int) :
    xbody (E3 N) ents laws_toInt64S_su0.kp N Go.Proofs.Try.f15 laws_toInt64S_su0.bd [.slice false 0 0 av0 .unk 1, .bool false] [⟨false, .flat gv1 (.ints .i64 gv2)⟩] K = (laws_toInt64S_su0 N (fun d0 d1 d2 d3 => K (.slice true 1 0 d0 (.exact d1) 1) [⟨false, .flat gv1 (.ints .i64 gv2)⟩, ⟨true, .flat d2 (.ints .i64 d3)⟩]) av0 gv1 gv2) := by
  refine (laws_toInt64S_su0.s_eq N K av0 gv1 gv2).trans ?_
  simp only [laws_toInt64S_su0.l0_eq, laws_toInt64S_su0.a0_0_eq, laws_toInt64S_su0.l1_eq, laws_toInt64S_su0.a1_0_eq]
  kernel_rfl

noncomputable def laws_toInt64S_su1.kp : Keeps := ⟨[(0, [0, 5, 6], [], []), (2, [0, 5, 7], [], [])], [(0, [0, 5], [], []), (2, [0, 5], [], [])], []⟩

noncomputable def laws_toInt64S_su1.bd : Code := bodyOf Go.Proofs.Try.f15

noncomputable def laws_toInt64S_su1.fin {ρ : Type} (N : Nat) (K : AV → Heap → Option ρ) (gv1 : Nat) (gv2 : Nat → Int) : XE → St → Option ρ := finK (E3 N) laws_toInt64S_su1.kp.fins Go.Proofs.Try.f15 [⟨false, .flat gv1 (.ints .i64 gv2)⟩] K

noncomputable def laws_toInt64S_su1.k0 {ρ : Type} (N : Nat) (K : AV → Heap → Option ρ) (gv1 : Nat) (gv2 : Nat → Int) : XE → St → Option ρ := (blockK laws_toInt64S_su1.kp 1 0 (seqK (xcode (E3 N) ents laws_toInt64S_su1.kp 1 N (cB (cB (cB (cB laws_toInt64S_su1.bd)))) 0) (laws_toInt64S_su1.fin N K gv1 gv2)))

theorem laws_toInt64S_su1.k0_mix {ρ : Type} (N : Nat) (K : AV → Heap → Option ρ) (gv1 : Nat) (gv2 : Nat → Int) : mixK (laws_toInt64S_su1.fin N K gv1 gv2 .ret) (laws_toInt64S_su1.k0 N K gv1 gv2) = (laws_toInt64S_su1.k0 N K gv1 gv2) := by
  funext e s; cases e <;> kernel_rfl

noncomputable def laws_toInt64S_su1.st0 (av0 : Nat) (gv1 : Nat) (gv2 : Nat → Int) (rv3 : Int) (i4 : Int) (gv5 : Nat → Int) : St := ⟨sl 49 [(0, .slice false 0 0 av0 .unk 1), (5, .slice true 1 0 ((IntKind.i64.wrap ((av0 : Int) + rv3))).toNat (.exact ((IntKind.i64.wrap ((av0 : Int) + rv3))).toNat) 1), (6, .int .i64 (i4))], [⟨false, .flat gv1 (.ints .i64 gv2)⟩, ⟨true, .flat (((IntKind.i64.wrap ((av0 : Int) + rv3))).toNat * 1) (.ints .i64 gv5)⟩]⟩

noncomputable def laws_toInt64S_su1.sx0_0 (av0 : Nat) (gv1 : Nat) (gv2 : Nat → Int) (rv3 : Int) (ov6 : Nat → Int) : St := ⟨sl 49 [(0, .slice false 0 0 av0 .unk 1), (5, .slice true 1 0 ((IntKind.i64.wrap ((av0 : Int) + rv3))).toNat (.exact ((IntKind.i64.wrap ((av0 : Int) + rv3))).toNat) 1)], [⟨false, .flat gv1 (.ints .i64 gv2)⟩, ⟨true, .flat (((IntKind.i64.wrap ((av0 : Int) + rv3))).toNat * 1) (.ints .i64 ov6)⟩]⟩

noncomputable def laws_toInt64S_su1.k1 {ρ : Type} (N : Nat) (K : AV → Heap → Option ρ) (gv1 : Nat) (gv2 : Nat → Int) : XE → St → Option ρ := (blockK laws_toInt64S_su1.kp 1 2 (seqK (xcode (E3 N) ents laws_toInt64S_su1.kp 1 N (cB (cB (cB (cB (cB laws_toInt64S_su1.bd))))) 0) (laws_toInt64S_su1.fin N K gv1 gv2)))

theorem laws_toInt64S_su1.k1_mix {ρ : Type} (N : Nat) (K : AV → Heap → Option ρ) (gv1 : Nat) (gv2 : Nat → Int) : mixK (laws_toInt64S_su1.fin N K gv1 gv2 .ret) (laws_toInt64S_su1.k1 N K gv1 gv2) = (laws_toInt64S_su1.k1 N K gv1 gv2) := by
  funext e s; cases e <;> kernel_rfl

noncomputable def laws_toInt64S_su1.st1 (av0 : Nat) (gv1 : Nat) (gv2 : Nat → Int) (rv3 : Int) (i7 : Int) (gv8 : Nat → Int) : St := ⟨sl 49 [(0, .slice false 0 0 av0 .unk 1), (5, .slice true 1 0 ((IntKind.i64.wrap ((av0 : Int) + rv3))).toNat (.exact ((IntKind.i64.wrap ((av0 : Int) + rv3))).toNat) 1), (7, .int .i64 (i7))], [⟨false, .flat gv1 (.ints .i64 gv2)⟩, ⟨true, .flat (((IntKind.i64.wrap ((av0 : Int) + rv3))).toNat * 1) (.ints .i64 gv8)⟩]⟩

noncomputable def laws_toInt64S_su1.sx1_0 (av0 : Nat) (gv1 : Nat) (gv2 : Nat → Int) (rv3 : Int) (ov9 : Nat → Int) : St := ⟨sl 49 [(0, .slice false 0 0 av0 .unk 1), (5, .slice true 1 0 ((IntKind.i64.wrap ((av0 : Int) + rv3))).toNat (.exact ((IntKind.i64.wrap ((av0 : Int) + rv3))).toNat) 1)], [⟨false, .flat gv1 (.ints .i64 gv2)⟩, ⟨true, .flat (((IntKind.i64.wrap ((av0 : Int) + rv3))).toNat * 1) (.ints .i64 ov9)⟩]⟩

theorem laws_toInt64S_su1.b1_gen {ρ : Type} (N : Nat) (K : AV → Heap → Option ρ) (L1 : St → Option ρ) (kv : XE → St → Option ρ) (av0 : Nat) (gv1 : Nat) (gv2 : Nat → Int) (rv3 : Int) (i7 : Int) (gv8 : Nat → Int) :
    xcode (E3 N) ents laws_toInt64S_su1.kp 1 N (cL (cK (cB (cA (cB (cB (cB (cB laws_toInt64S_su1.bd)))))))) 2 (laws_toInt64S_su1.st1 av0 gv1 gv2 rv3 i7 gv8) (roundK laws_toInt64S_su1.kp 1 2 L1 (mixK (laws_toInt64S_su1.fin N K gv1 gv2 .ret) kv)) = (laws_toInt64S_su1.b1 N (K (.nils) [⟨false, .flat gv1 (.ints .i64 gv2)⟩]) (fun d0 d1 d2 d3 => K (.slice true 1 0 d0 (.exact d1) 1) [⟨false, .flat gv1 (.ints .i64 gv2)⟩, ⟨true, .flat d2 (.ints .i64 d3)⟩]) (fun i7 gv8 => L1 (laws_toInt64S_su1.st1 av0 gv1 gv2 rv3 i7 gv8)) (fun ov9 => kv (.exit 2) (laws_toInt64S_su1.sx1_0 av0 gv1 gv2 rv3 ov9)) av0 rv3 i7 gv8) := by kernel_rfl

theorem laws_toInt64S_su1.b1_eq {ρ : Type} (N : Nat) (K : AV → Heap → Option ρ) (L1 : St → Option ρ) (av0 : Nat) (gv1 : Nat) (gv2 : Nat → Int) (rv3 : Int) (i7 : Int) (gv8 : Nat → Int) :
    xcode (E3 N) ents laws_toInt64S_su1.kp 1 N (cL (cK (cB (cA (cB (cB (cB (cB laws_toInt64S_su1.bd)))))))) 2 (laws_toInt64S_su1.st1 av0 gv1 gv2 rv3 i7 gv8) (roundK laws_toInt64S_su1.kp 1 2 L1 (laws_toInt64S_su1.k1 N K gv1 gv2)) = (laws_toInt64S_su1.b1 N (K (.nils) [⟨false, .flat gv1 (.ints .i64 gv2)⟩]) (fun d0 d1 d2 d3 => K (.slice true 1 0 d0 (.exact d1) 1) [⟨false, .flat gv1 (.ints .i64 gv2)⟩, ⟨true, .flat d2 (.ints .i64 d3)⟩]) (fun i7 gv8 => L1 (laws_toInt64S_su1.st1 av0 gv1 gv2 rv3 i7 gv8)) (fun ov9 => (laws_toInt64S_su1.k1 N K gv1 gv2) (.exit 2) (laws_toInt64S_su1.sx1_0 av0 gv1 gv2 rv3 ov9)) av0 rv3 i7 gv8) := by
  have h := laws_toInt64S_su1.b1_gen N K L1 (laws_toInt64S_su1.k1 N K gv1 gv2) av0 gv1 gv2 rv3 i7 gv8
  rw [laws_toInt64S_su1.k1_mix] at h
  exact h

theorem laws_toInt64S_su1.a1_0_eq {ρ : Type} (N : Nat) (K : AV → Heap → Option ρ) (av0 : Nat) (gv1 : Nat) (gv2 : Nat → Int) (rv3 : Int) (ov9 : Nat → Int) :
    (laws_toInt64S_su1.k1 N K gv1 gv2) (.exit 2) (laws_toInt64S_su1.sx1_0 av0 gv1 gv2 rv3 ov9) = (laws_toInt64S_su1.a1_0 N (K (.nils) [⟨false, .flat gv1 (.ints .i64 gv2)⟩]) (fun d0 d1 d2 d3 => K (.slice true 1 0 d0 (.exact d1) 1) [⟨false, .flat gv1 (.ints .i64 gv2)⟩, ⟨true, .flat d2 (.ints .i64 d3)⟩]) av0 rv3 ov9) := by kernel_rfl

theorem laws_toInt64S_su1.b0_gen {ρ : Type} (N : Nat) (K : AV → Heap → Option ρ) (L0 : St → Option ρ) (kv : XE → St → Option ρ) (av0 : Nat) (gv1 : Nat) (gv2 : Nat → Int) (rv3 : Int) (i4 : Int) (gv5 : Nat → Int) :
    xcode (E3 N) ents laws_toInt64S_su1.kp 1 N (cL (cK (cB (cA (cB (cB (cB laws_toInt64S_su1.bd))))))) 0 (laws_toInt64S_su1.st0 av0 gv1 gv2 rv3 i4 gv5) (roundK laws_toInt64S_su1.kp 1 0 L0 (mixK (laws_toInt64S_su1.fin N K gv1 gv2 .ret) kv)) = (laws_toInt64S_su1.b0 N (K (.nils) [⟨false, .flat gv1 (.ints .i64 gv2)⟩]) (fun d0 d1 d2 d3 => K (.slice true 1 0 d0 (.exact d1) 1) [⟨false, .flat gv1 (.ints .i64 gv2)⟩, ⟨true, .flat d2 (.ints .i64 d3)⟩]) (fun i4 gv5 => L0 (laws_toInt64S_su1.st0 av0 gv1 gv2 rv3 i4 gv5)) (fun ov6 => kv (.exit 0) (laws_toInt64S_su1.sx0_0 av0 gv1 gv2 rv3 ov6)) av0 gv2 rv3 i4 gv5) := by kernel_rfl

theorem laws_toInt64S_su1.b0_eq {ρ : Type} (N : Nat) (K : AV → Heap → Option ρ) (L0 : St → Option ρ) (av0 : Nat) (gv1 : Nat) (gv2 : Nat → Int) (rv3 : Int) (i4 : Int) (gv5 : Nat → Int) :
    xcode (E3 N) ents laws_toInt64S_su1.kp 1 N (cL (cK (cB (cA (cB (cB (cB laws_toInt64S_su1.bd))))))) 0 (laws_toInt64S_su1.st0 av0 gv1 gv2 rv3 i4 gv5) (roundK laws_toInt64S_su1.kp 1 0 L0 (laws_toInt64S_su1.k0 N K gv1 gv2)) = (laws_toInt64S_su1.b0 N (K (.nils) [⟨false, .flat gv1 (.ints .i64 gv2)⟩]) (fun d0 d1 d2 d3 => K (.slice true 1 0 d0 (.exact d1) 1) [⟨false, .flat gv1 (.ints .i64 gv2)⟩, ⟨true, .flat d2 (.ints .i64 d3)⟩]) (fun i4 gv5 => L0 (laws_toInt64S_su1.st0 av0 gv1 gv2 rv3 i4 gv5)) (fun ov6 => (laws_toInt64S_su1.k0 N K gv1 gv2) (.exit 0) (laws_toInt64S_su1.sx0_0 av0 gv1 gv2 rv3 ov6)) av0 gv2 rv3 i4 gv5) := by
  have h := laws_toInt64S_su1.b0_gen N K L0 (laws_toInt64S_su1.k0 N K gv1 gv2) av0 gv1 gv2 rv3 i4 gv5
  rw [laws_toInt64S_su1.k0_mix] at h
  exact h

theorem laws_toInt64S_su1.a0_0_eq {ρ : Type} (N : Nat) (K : AV → Heap → Option ρ) (av0 : Nat) (gv1 : Nat) (gv2 : Nat → Int) (rv3 : Int) (ov6 : Nat → Int) :
    (laws_toInt64S_su1.k0 N K gv1 gv2) (.exit 0) (laws_toInt64S_su1.sx0_0 av0 gv1 gv2 rv3 ov6) = (laws_toInt64S_su1.a0_0 N (K (.nils) [⟨false, .flat gv1 (.ints .i64 gv2)⟩]) (fun d0 d1 d2 d3 => K (.slice true 1 0 d0 (.exact d1) 1) [⟨false, .flat gv1 (.ints .i64 gv2)⟩, ⟨true, .flat d2 (.ints .i64 d3)⟩]) (fun i7 gv8 => xloop (xcode (E3 N) ents laws_toInt64S_su1.kp 1 N (cL (cK (cB (cA (cB (cB (cB (cB laws_toInt64S_su1.bd)))))))) 2) laws_toInt64S_su1.kp 1 2 N (laws_toInt64S_su1.st1 av0 gv1 gv2 rv3 i7 gv8) (laws_toInt64S_su1.k1 N K gv1 gv2)) av0 ov6) := by kernel_rfl

theorem laws_toInt64S_su1.l1_eq {ρ : Type} (N : Nat) (K : AV → Heap → Option ρ) (av0 : Nat) (gv1 : Nat) (gv2 : Nat → Int) (rv3 : Int) :
    ∀ (m : Nat) (i7 : Int) (gv8 : Nat → Int), xloop (xcode (E3 N) ents laws_toInt64S_su1.kp 1 N (cL (cK (cB (cA (cB (cB (cB (cB laws_toInt64S_su1.bd)))))))) 2) laws_toInt64S_su1.kp 1 2 m (laws_toInt64S_su1.st1 av0 gv1 gv2 rv3 i7 gv8) (laws_toInt64S_su1.k1 N K gv1 gv2) = (laws_toInt64S_su1.l1 N (K (.nils) [⟨false, .flat gv1 (.ints .i64 gv2)⟩]) (fun d0 d1 d2 d3 => K (.slice true 1 0 d0 (.exact d1) 1) [⟨false, .flat gv1 (.ints .i64 gv2)⟩, ⟨true, .flat d2 (.ints .i64 d3)⟩]) av0 rv3 (fun ov9 => (laws_toInt64S_su1.k1 N K gv1 gv2) (.exit 2) (laws_toInt64S_su1.sx1_0 av0 gv1 gv2 rv3 ov9)) m i7 gv8) := by
  intro m
  induction m with
  | zero => intros; rfl
  | succ m ih =>
    intro i7 gv8
    refine (laws_toInt64S_su1.b1_eq N K (fun s => xloop (xcode (E3 N) ents laws_toInt64S_su1.kp 1 N (cL (cK (cB (cA (cB (cB (cB (cB laws_toInt64S_su1.bd)))))))) 2) laws_toInt64S_su1.kp 1 2 m s (laws_toInt64S_su1.k1 N K gv1 gv2)) av0 gv1 gv2 rv3 i7 gv8).trans ?_
    simp only [ih]
    kernel_rfl

theorem laws_toInt64S_su1.l0_eq {ρ : Type} (N : Nat) (K : AV → Heap → Option ρ) (av0 : Nat) (gv1 : Nat) (gv2 : Nat → Int) (rv3 : Int) :
    ∀ (m : Nat) (i4 : Int) (gv5 : Nat → Int), xloop (xcode (E3 N) ents laws_toInt64S_su1.kp 1 N (cL (cK (cB (cA (cB (cB (cB laws_toInt64S_su1.bd))))))) 0) laws_toInt64S_su1.kp 1 0 m (laws_toInt64S_su1.st0 av0 gv1 gv2 rv3 i4 gv5) (laws_toInt64S_su1.k0 N K gv1 gv2) = (laws_toInt64S_su1.l0 N (K (.nils) [⟨false, .flat gv1 (.ints .i64 gv2)⟩]) (fun d0 d1 d2 d3 => K (.slice true 1 0 d0 (.exact d1) 1) [⟨false, .flat gv1 (.ints .i64 gv2)⟩, ⟨true, .flat d2 (.ints .i64 d3)⟩]) av0 gv2 rv3 (fun ov6 => (laws_toInt64S_su1.k0 N K gv1 gv2) (.exit 0) (laws_toInt64S_su1.sx0_0 av0 gv1 gv2 rv3 ov6)) m i4 gv5) := by
  intro m
  induction m with
  | zero => intros; rfl
  | succ m ih =>
    intro i4 gv5
    refine (laws_toInt64S_su1.b0_eq N K (fun s => xloop (xcode (E3 N) ents laws_toInt64S_su1.kp 1 N (cL (cK (cB (cA (cB (cB (cB laws_toInt64S_su1.bd))))))) 0) laws_toInt64S_su1.kp 1 0 m s (laws_toInt64S_su1.k0 N K gv1 gv2)) av0 gv1 gv2 rv3 i4 gv5).trans ?_
    simp only [ih]
    kernel_rfl

theorem laws_toInt64S_su1.s_eq {ρ : Type} (N : Nat) (K : AV → Heap → Option ρ) (av0 : Nat) (gv1 : Nat) (gv2 : Nat → Int) :
    xbody (E3 N) ents laws_toInt64S_su1.kp N Go.Proofs.Try.f15 laws_toInt64S_su1.bd [.slice false 0 0 av0 .unk 1, .bool true] [⟨false, .flat gv1 (.ints .i64 gv2)⟩] K = (laws_toInt64S_su1.s N (K (.nils) [⟨false, .flat gv1 (.ints .i64 gv2)⟩]) (fun d0 d1 d2 d3 => K (.slice true 1 0 d0 (.exact d1) 1) [⟨false, .flat gv1 (.ints .i64 gv2)⟩, ⟨true, .flat d2 (.ints .i64 d3)⟩]) (fun rv3 i4 gv5 => xloop (xcode (E3 N) ents laws_toInt64S_su1.kp 1 N (cL (cK (cB (cA (cB (cB (cB laws_toInt64S_su1.bd))))))) 0) laws_toInt64S_su1.kp 1 0 N (laws_toInt64S_su1.st0 av0 gv1 gv2 rv3 i4 gv5) (laws_toInt64S_su1.k0 N K gv1 gv2)) av0) := by kernel_rfl

theorem laws_toInt64S_su1.eq {ρ : Type} (N : Nat) (K : AV → Heap → Option ρ) (av0 : Nat) (gv1 : Nat) (gv2 : Nat → Int) :
    xbody (E3 N) ents laws_toInt64S_su1.kp N Go.Proofs.Try.f15 laws_toInt64S_su1.bd [.slice false 0 0 av0 .unk 1, .bool true] [⟨false, .flat gv1 (.ints .i64 gv2)⟩] K = (laws_toInt64S_su1 N (K (.nils) [⟨false, .flat gv1 (.ints .i64 gv2)⟩]) (fun d0 d1 d2 d3 => K (.slice true 1 0 d0 (.exact d1) 1) [⟨false, .flat gv1 (.ints .i64 gv2)⟩, ⟨true, .flat d2 (.ints .i64 d3)⟩]) av0 gv1 gv2) := by
  refine (laws_toInt64S_su1.s_eq N K av0 gv1 gv2).trans ?_
  simp only [laws_toInt64S_su1.l0_eq, laws_toInt64S_su1.a0_0_eq, laws_toInt64S_su1.l1_eq, laws_toInt64S_su1.a1_0_eq]
  kernel_rfl

noncomputable def laws_toInt64S_su0.en (N : Nat) (ρ : Type) : List AV → Heap → (AV → Heap → Option ρ) → Option ρ
  | [.slice false 0 0 av0 .unk 1, .bool false], [⟨false, .flat gv1 (.ints .i64 gv2)⟩], K => (laws_toInt64S_su0 N (fun d0 d1 d2 d3 => K (.slice true 1 0 d0 (.exact d1) 1) [⟨false, .flat gv1 (.ints .i64 gv2)⟩, ⟨true, .flat d2 (.ints .i64 d3)⟩]) av0 gv1 gv2)
  | [.slice false 0 0 av0 .unk 1, .bool true], [⟨false, .flat gv1 (.ints .i64 gv2)⟩], K => (laws_toInt64S_su1 N (K (.nils) [⟨false, .flat gv1 (.ints .i64 gv2)⟩]) (fun d0 d1 d2 d3 => K (.slice true 1 0 d0 (.exact d1) 1) [⟨false, .flat gv1 (.ints .i64 gv2)⟩, ⟨true, .flat d2 (.ints .i64 d3)⟩]) av0 gv1 gv2)
  | _, _, _ => none

theorem laws_toInt64S_su0.en_ok (N : Nat) (hE : EnvOk (E3 N) ents) (ρ : Type) (args : List AV) (sh : Heap) (K : AV → Heap → Option ρ) (r : ρ) (h : laws_toInt64S_su0.en N ρ args sh K = some r) : ∃ v sh', K v sh' = some r ∧ FnOk (E3 N).P 15 args sh v sh' := by
  unfold laws_toInt64S_su0.en at h
  split at h
  · exact fn_ok hE (kp := laws_toInt64S_su0.kp) (N := N) Go.Proofs.Try.func15 (c := laws_toInt64S_su0.bd) (by kernel_rfl) ((laws_toInt64S_su0.eq N _ _ _ _).trans h)
  · exact fn_ok hE (kp := laws_toInt64S_su1.kp) (N := N) Go.Proofs.Try.func15 (c := laws_toInt64S_su1.bd) (by kernel_rfl) ((laws_toInt64S_su1.eq N _ _ _ _).trans h)
  · cases h

noncomputable def E4 (N : Nat) : Env := (E3 N).add 15 (laws_toInt64S_su0.en N)

theorem E4_ok (N : Nat) : EnvOk (E4 N) ents := Env.add_ok (E3_ok N) (laws_toInt64S_su0.en_ok N (E3_ok N))

noncomputable def laws_toInt64SS_suh0.kp : Keeps := ⟨[(0, [0, 1, 5, 6], [], []), (2, [0, 5, 7], [], [])], [(0, [0, 5], [], []), (2, [0, 5], [], [])], []⟩

noncomputable def laws_toInt64SS_suh0.bd : Code := bodyOf Go.Proofs.Try.f6

noncomputable def laws_toInt64SS_suh0.fin {ρ : Type} (N : Nat) (K : AV → Heap → Option ρ) (gv1 : Nat) (gv2 : Nat) (gv3 : Nat → Nat) (gv4 : Nat → Nat) (gv5 : Nat) (gv6 : Nat → Int) : XE → St → Option ρ := finK (E4 N) laws_toInt64SS_suh0.kp.fins Go.Proofs.Try.f6 [⟨false, .hdr 1 gv1 gv2 gv3 gv4 none⟩, ⟨false, .flat gv5 (.ints .i64 gv6)⟩] K

noncomputable def laws_toInt64SS_suh0.k0 {ρ : Type} (N : Nat) (K : AV → Heap → Option ρ) (gv1 : Nat) (gv2 : Nat) (gv3 : Nat → Nat) (gv4 : Nat → Nat) (gv5 : Nat) (gv6 : Nat → Int) : XE → St → Option ρ := (blockK laws_toInt64SS_suh0.kp 2 0 (seqK (xcode (E4 N) ents laws_toInt64SS_suh0.kp 2 N (cB (cB (cB (cB laws_toInt64SS_suh0.bd)))) 0) (laws_toInt64SS_suh0.fin N K gv1 gv2 gv3 gv4 gv5 gv6)))

theorem laws_toInt64SS_suh0.k0_mix {ρ : Type} (N : Nat) (K : AV → Heap → Option ρ) (gv1 : Nat) (gv2 : Nat) (gv3 : Nat → Nat) (gv4 : Nat → Nat) (gv5 : Nat) (gv6 : Nat → Int) : mixK (laws_toInt64SS_suh0.fin N K gv1 gv2 gv3 gv4 gv5 gv6 .ret) (laws_toInt64SS_suh0.k0 N K gv1 gv2 gv3 gv4 gv5 gv6) = (laws_toInt64SS_suh0.k0 N K gv1 gv2 gv3 gv4 gv5 gv6) := by
  funext e s; cases e <;> kernel_rfl

noncomputable def laws_toInt64SS_suh0.st0 (av0 : Nat) (gv1 : Nat) (gv2 : Nat) (gv3 : Nat → Nat) (gv4 : Nat → Nat) (gv5 : Nat) (gv6 : Nat → Int) (rv7 : Int) (i8 : Int) (gv9 : Nat) (gv10 : Nat → Nat) (gv11 : Nat → Nat) (gv12 : Nat → Nat) (gv13 : Nat → Int) : St := ⟨sl 52 [(0, .slice false 0 0 av0 .unk 1), (1, .bool false), (5, .slice true 2 0 ((IntKind.i64.wrap ((av0 : Int) + rv7))).toNat (.exact ((IntKind.i64.wrap ((av0 : Int) + rv7))).toNat) 1), (6, .int .i64 (i8))], [⟨false, .hdr 1 gv1 gv2 gv3 gv4 none⟩, ⟨false, .flat gv5 (.ints .i64 gv6)⟩, ⟨true, .hdr 3 ((IntKind.i64.wrap ((av0 : Int) + rv7))).toNat gv9 gv10 gv11 (some gv12)⟩, ⟨true, .flat 0 (.ints .i64 gv13)⟩]⟩

noncomputable def laws_toInt64SS_suh0.sx0_0 (av0 : Nat) (gv1 : Nat) (gv2 : Nat) (gv3 : Nat → Nat) (gv4 : Nat → Nat) (gv5 : Nat) (gv6 : Nat → Int) (rv7 : Int) (ov18 : Nat) (ov19 : Nat → Nat) (ov20 : Nat → Nat) (ov21 : Nat → Nat) (ov22 : Nat → Int) : St := ⟨sl 52 [(0, .slice false 0 0 av0 .unk 1), (5, .slice true 2 0 ((IntKind.i64.wrap ((av0 : Int) + rv7))).toNat (.exact ((IntKind.i64.wrap ((av0 : Int) + rv7))).toNat) 1)], [⟨false, .hdr 1 gv1 gv2 gv3 gv4 none⟩, ⟨false, .flat gv5 (.ints .i64 gv6)⟩, ⟨true, .hdr 3 ((IntKind.i64.wrap ((av0 : Int) + rv7))).toNat ov18 ov19 ov20 (some ov21)⟩, ⟨true, .flat 0 (.ints .i64 ov22)⟩]⟩

noncomputable def laws_toInt64SS_suh0.k1 {ρ : Type} (N : Nat) (K : AV → Heap → Option ρ) (gv1 : Nat) (gv2 : Nat) (gv3 : Nat → Nat) (gv4 : Nat → Nat) (gv5 : Nat) (gv6 : Nat → Int) : XE → St → Option ρ := (blockK laws_toInt64SS_suh0.kp 2 2 (seqK (xcode (E4 N) ents laws_toInt64SS_suh0.kp 2 N (cB (cB (cB (cB (cB laws_toInt64SS_suh0.bd))))) 0) (laws_toInt64SS_suh0.fin N K gv1 gv2 gv3 gv4 gv5 gv6)))

theorem laws_toInt64SS_suh0.k1_mix {ρ : Type} (N : Nat) (K : AV → Heap → Option ρ) (gv1 : Nat) (gv2 : Nat) (gv3 : Nat → Nat) (gv4 : Nat → Nat) (gv5 : Nat) (gv6 : Nat → Int) : mixK (laws_toInt64SS_suh0.fin N K gv1 gv2 gv3 gv4 gv5 gv6 .ret) (laws_toInt64SS_suh0.k1 N K gv1 gv2 gv3 gv4 gv5 gv6) = (laws_toInt64SS_suh0.k1 N K gv1 gv2 gv3 gv4 gv5 gv6) := by
  funext e s; cases e <;> kernel_rfl

noncomputable def laws_toInt64SS_suh0.st1 (av0 : Nat) (gv1 : Nat) (gv2 : Nat) (gv3 : Nat → Nat) (gv4 : Nat → Nat) (gv5 : Nat) (gv6 : Nat → Int) (rv7 : Int) (i23 : Int) (gv24 : Nat) (gv25 : Nat → Nat) (gv26 : Nat → Nat) (gv27 : Nat → Nat) (gv28 : Nat → Int) : St := ⟨sl 52 [(0, .slice false 0 0 av0 .unk 1), (5, .slice true 2 0 ((IntKind.i64.wrap ((av0 : Int) + rv7))).toNat (.exact ((IntKind.i64.wrap ((av0 : Int) + rv7))).toNat) 1), (7, .int .i64 (i23))], [⟨false, .hdr 1 gv1 gv2 gv3 gv4 none⟩, ⟨false, .flat gv5 (.ints .i64 gv6)⟩, ⟨true, .hdr 3 ((IntKind.i64.wrap ((av0 : Int) + rv7))).toNat gv24 gv25 gv26 (some gv27)⟩, ⟨true, .flat 0 (.ints .i64 gv28)⟩]⟩

noncomputable def laws_toInt64SS_suh0.sx1_0 (av0 : Nat) (gv1 : Nat) (gv2 : Nat) (gv3 : Nat → Nat) (gv4 : Nat → Nat) (gv5 : Nat) (gv6 : Nat → Int) (rv7 : Int) (ov29 : Nat) (ov30 : Nat → Nat) (ov31 : Nat → Nat) (ov32 : Nat → Nat) (ov33 : Nat → Int) : St := ⟨sl 52 [(0, .slice false 0 0 av0 .unk 1), (5, .slice true 2 0 ((IntKind.i64.wrap ((av0 : Int) + rv7))).toNat (.exact ((IntKind.i64.wrap ((av0 : Int) + rv7))).toNat) 1)], [⟨false, .hdr 1 gv1 gv2 gv3 gv4 none⟩, ⟨false, .flat gv5 (.ints .i64 gv6)⟩, ⟨true, .hdr 3 ((IntKind.i64.wrap ((av0 : Int) + rv7))).toNat ov29 ov30 ov31 (some ov32)⟩, ⟨true, .flat 0 (.ints .i64 ov33)⟩]⟩

theorem laws_toInt64SS_suh0.b1_gen {ρ : Type} (N : Nat) (K : AV → Heap → Option ρ) (L1 : St → Option ρ) (kv : XE → St → Option ρ) (av0 : Nat) (gv1 : Nat) (gv2 : Nat) (gv3 : Nat → Nat) (gv4 : Nat → Nat) (gv5 : Nat) (gv6 : Nat → Int) (rv7 : Int) (i23 : Int) (gv24 : Nat) (gv25 : Nat → Nat) (gv26 : Nat → Nat) (gv27 : Nat → Nat) (gv28 : Nat → Int) :
    xcode (E4 N) ents laws_toInt64SS_suh0.kp 2 N (cL (cK (cB (cA (cB (cB (cB (cB laws_toInt64SS_suh0.bd)))))))) 2 (laws_toInt64SS_suh0.st1 av0 gv1 gv2 gv3 gv4 gv5 gv6 rv7 i23 gv24 gv25 gv26 gv27 gv28) (roundK laws_toInt64SS_suh0.kp 2 2 L1 (mixK (laws_toInt64SS_suh0.fin N K gv1 gv2 gv3 gv4 gv5 gv6 .ret) kv)) = (laws_toInt64SS_suh0.b1 N (fun d0 d1 d2 d3 d4 d5 d6 d7 => K (.slice true 2 0 d0 (.exact d1) 1) [⟨false, .hdr 1 gv1 gv2 gv3 gv4 none⟩, ⟨false, .flat gv5 (.ints .i64 gv6)⟩, ⟨true, .hdr 3 d2 d3 d4 d5 (some d6)⟩, ⟨true, .flat 0 (.ints .i64 d7)⟩]) (fun i23 gv24 gv25 gv26 gv27 gv28 => L1 (laws_toInt64SS_suh0.st1 av0 gv1 gv2 gv3 gv4 gv5 gv6 rv7 i23 gv24 gv25 gv26 gv27 gv28)) (fun ov29 ov30 ov31 ov32 ov33 => kv (.exit 2) (laws_toInt64SS_suh0.sx1_0 av0 gv1 gv2 gv3 gv4 gv5 gv6 rv7 ov29 ov30 ov31 ov32 ov33)) av0 rv7 i23 gv24 gv25 gv26 gv27 gv28) := by kernel_rfl

theorem laws_toInt64SS_suh0.b1_eq {ρ : Type} (N : Nat) (K : AV → Heap → Option ρ) (L1 : St → Option ρ) (av0 : Nat) (gv1 : Nat) (gv2 : Nat) (gv3 : Nat → Nat) (gv4 : Nat → Nat) (gv5 : Nat) (gv6 : Nat → Int) (rv7 : Int) (i23 : Int) (gv24 : Nat) (gv25 : Nat → Nat) (gv26 : Nat → Nat) (gv27 : Nat → Nat) (gv28 : Nat → Int) :
    xcode (E4 N) ents laws_toInt64SS_suh0.kp 2 N (cL (cK (cB (cA (cB (cB (cB (cB laws_toInt64SS_suh0.bd)))))))) 2 (laws_toInt64SS_suh0.st1 av0 gv1 gv2 gv3 gv4 gv5 gv6 rv7 i23 gv24 gv25 gv26 gv27 gv28) (roundK laws_toInt64SS_suh0.kp 2 2 L1 (laws_toInt64SS_suh0.k1 N K gv1 gv2 gv3 gv4 gv5 gv6)) = (laws_toInt64SS_suh0.b1 N (fun d0 d1 d2 d3 d4 d5 d6 d7 => K (.slice true 2 0 d0 (.exact d1) 1) [⟨false, .hdr 1 gv1 gv2 gv3 gv4 none⟩, ⟨false, .flat gv5 (.ints .i64 gv6)⟩, ⟨true, .hdr 3 d2 d3 d4 d5 (some d6)⟩, ⟨true, .flat 0 (.ints .i64 d7)⟩]) (fun i23 gv24 gv25 gv26 gv27 gv28 => L1 (laws_toInt64SS_suh0.st1 av0 gv1 gv2 gv3 gv4 gv5 gv6 rv7 i23 gv24 gv25 gv26 gv27 gv28)) (fun ov29 ov30 ov31 ov32 ov33 => (laws_toInt64SS_suh0.k1 N K gv1 gv2 gv3 gv4 gv5 gv6) (.exit 2) (laws_toInt64SS_suh0.sx1_0 av0 gv1 gv2 gv3 gv4 gv5 gv6 rv7 ov29 ov30 ov31 ov32 ov33)) av0 rv7 i23 gv24 gv25 gv26 gv27 gv28) := by
  have h := laws_toInt64SS_suh0.b1_gen N K L1 (laws_toInt64SS_suh0.k1 N K gv1 gv2 gv3 gv4 gv5 gv6) av0 gv1 gv2 gv3 gv4 gv5 gv6 rv7 i23 gv24 gv25 gv26 gv27 gv28
  rw [laws_toInt64SS_suh0.k1_mix] at h
  exact h

theorem laws_toInt64SS_suh0.a1_0_eq {ρ : Type} (N : Nat) (K : AV → Heap → Option ρ) (av0 : Nat) (gv1 : Nat) (gv2 : Nat) (gv3 : Nat → Nat) (gv4 : Nat → Nat) (gv5 : Nat) (gv6 : Nat → Int) (rv7 : Int) (ov29 : Nat) (ov30 : Nat → Nat) (ov31 : Nat → Nat) (ov32 : Nat → Nat) (ov33 : Nat → Int) :
    (laws_toInt64SS_suh0.k1 N K gv1 gv2 gv3 gv4 gv5 gv6) (.exit 2) (laws_toInt64SS_suh0.sx1_0 av0 gv1 gv2 gv3 gv4 gv5 gv6 rv7 ov29 ov30 ov31 ov32 ov33) = (laws_toInt64SS_suh0.a1_0 N (fun d0 d1 d2 d3 d4 d5 d6 d7 => K (.slice true 2 0 d0 (.exact d1) 1) [⟨false, .hdr 1 gv1 gv2 gv3 gv4 none⟩, ⟨false, .flat gv5 (.ints .i64 gv6)⟩, ⟨true, .hdr 3 d2 d3 d4 d5 (some d6)⟩, ⟨true, .flat 0 (.ints .i64 d7)⟩]) av0 rv7 ov29 ov30 ov31 ov32 ov33) := by kernel_rfl

theorem laws_toInt64SS_suh0.b0_gen {ρ : Type} (N : Nat) (K : AV → Heap → Option ρ) (L0 : St → Option ρ) (kv : XE → St → Option ρ) (av0 : Nat) (gv1 : Nat) (gv2 : Nat) (gv3 : Nat → Nat) (gv4 : Nat → Nat) (gv5 : Nat) (gv6 : Nat → Int) (rv7 : Int) (i8 : Int) (gv9 : Nat) (gv10 : Nat → Nat) (gv11 : Nat → Nat) (gv12 : Nat → Nat) (gv13 : Nat → Int) :
    xcode (E4 N) ents laws_toInt64SS_suh0.kp 2 N (cL (cK (cB (cA (cB (cB (cB laws_toInt64SS_suh0.bd))))))) 0 (laws_toInt64SS_suh0.st0 av0 gv1 gv2 gv3 gv4 gv5 gv6 rv7 i8 gv9 gv10 gv11 gv12 gv13) (roundK laws_toInt64SS_suh0.kp 2 0 L0 (mixK (laws_toInt64SS_suh0.fin N K gv1 gv2 gv3 gv4 gv5 gv6 .ret) kv)) = (laws_toInt64SS_suh0.b0 N (fun d0 d1 d2 d3 d4 d5 d6 d7 => K (.slice true 2 0 d0 (.exact d1) 1) [⟨false, .hdr 1 gv1 gv2 gv3 gv4 none⟩, ⟨false, .flat gv5 (.ints .i64 gv6)⟩, ⟨true, .hdr 3 d2 d3 d4 d5 (some d6)⟩, ⟨true, .flat 0 (.ints .i64 d7)⟩]) (fun i8 gv9 gv10 gv11 gv12 gv13 => L0 (laws_toInt64SS_suh0.st0 av0 gv1 gv2 gv3 gv4 gv5 gv6 rv7 i8 gv9 gv10 gv11 gv12 gv13)) (fun ov18 ov19 ov20 ov21 ov22 => kv (.exit 0) (laws_toInt64SS_suh0.sx0_0 av0 gv1 gv2 gv3 gv4 gv5 gv6 rv7 ov18 ov19 ov20 ov21 ov22)) av0 gv3 gv4 gv6 rv7 i8 gv9 gv10 gv11 gv12 gv13) := by kernel_rfl

theorem laws_toInt64SS_suh0.b0_eq {ρ : Type} (N : Nat) (K : AV → Heap → Option ρ) (L0 : St → Option ρ) (av0 : Nat) (gv1 : Nat) (gv2 : Nat) (gv3 : Nat → Nat) (gv4 : Nat → Nat) (gv5 : Nat) (gv6 : Nat → Int) (rv7 : Int) (i8 : Int) (gv9 : Nat) (gv10 : Nat → Nat) (gv11 : Nat → Nat) (gv12 : Nat → Nat) (gv13 : Nat → Int) :
    xcode (E4 N) ents laws_toInt64SS_suh0.kp 2 N (cL (cK (cB (cA (cB (cB (cB laws_toInt64SS_suh0.bd))))))) 0 (laws_toInt64SS_suh0.st0 av0 gv1 gv2 gv3 gv4 gv5 gv6 rv7 i8 gv9 gv10 gv11 gv12 gv13) (roundK laws_toInt64SS_suh0.kp 2 0 L0 (laws_toInt64SS_suh0.k0 N K gv1 gv2 gv3 gv4 gv5 gv6)) = (laws_toInt64SS_suh0.b0 N (fun d0 d1 d2 d3 d4 d5 d6 d7 => K (.slice true 2 0 d0 (.exact d1) 1) [⟨false, .hdr 1 gv1 gv2 gv3 gv4 none⟩, ⟨false, .flat gv5 (.ints .i64 gv6)⟩, ⟨true, .hdr 3 d2 d3 d4 d5 (some d6)⟩, ⟨true, .flat 0 (.ints .i64 d7)⟩]) (fun i8 gv9 gv10 gv11 gv12 gv13 => L0 (laws_toInt64SS_suh0.st0 av0 gv1 gv2 gv3 gv4 gv5 gv6 rv7 i8 gv9 gv10 gv11 gv12 gv13)) (fun ov18 ov19 ov20 ov21 ov22 => (laws_toInt64SS_suh0.k0 N K gv1 gv2 gv3 gv4 gv5 gv6) (.exit 0) (laws_toInt64SS_suh0.sx0_0 av0 gv1 gv2 gv3 gv4 gv5 gv6 rv7 ov18 ov19 ov20 ov21 ov22)) av0 gv3 gv4 gv6 rv7 i8 gv9 gv10 gv11 gv12 gv13) := by
  have h := laws_toInt64SS_suh0.b0_gen N K L0 (laws_toInt64SS_suh0.k0 N K gv1 gv2 gv3 gv4 gv5 gv6) av0 gv1 gv2 gv3 gv4 gv5 gv6 rv7 i8 gv9 gv10 gv11 gv12 gv13
  rw [laws_toInt64SS_suh0.k0_mix] at h
  exact h

theorem laws_toInt64SS_suh0.a0_0_eq {ρ : Type} (N : Nat) (K : AV → Heap → Option ρ) (av0 : Nat) (gv1 : Nat) (gv2 : Nat) (gv3 : Nat → Nat) (gv4 : Nat → Nat) (gv5 : Nat) (gv6 : Nat → Int) (rv7 : Int) (ov18 : Nat) (ov19 : Nat → Nat) (ov20 : Nat → Nat) (ov21 : Nat → Nat) (ov22 : Nat → Int) :
    (laws_toInt64SS_suh0.k0 N K gv1 gv2 gv3 gv4 gv5 gv6) (.exit 0) (laws_toInt64SS_suh0.sx0_0 av0 gv1 gv2 gv3 gv4 gv5 gv6 rv7 ov18 ov19 ov20 ov21 ov22) = (laws_toInt64SS_suh0.a0_0 N (fun d0 d1 d2 d3 d4 d5 d6 d7 => K (.slice true 2 0 d0 (.exact d1) 1) [⟨false, .hdr 1 gv1 gv2 gv3 gv4 none⟩, ⟨false, .flat gv5 (.ints .i64 gv6)⟩, ⟨true, .hdr 3 d2 d3 d4 d5 (some d6)⟩, ⟨true, .flat 0 (.ints .i64 d7)⟩]) (fun i23 gv24 gv25 gv26 gv27 gv28 => xloop (xcode (E4 N) ents laws_toInt64SS_suh0.kp 2 N (cL (cK (cB (cA (cB (cB (cB (cB laws_toInt64SS_suh0.bd)))))))) 2) laws_toInt64SS_suh0.kp 2 2 N (laws_toInt64SS_suh0.st1 av0 gv1 gv2 gv3 gv4 gv5 gv6 rv7 i23 gv24 gv25 gv26 gv27 gv28) (laws_toInt64SS_suh0.k1 N K gv1 gv2 gv3 gv4 gv5 gv6)) av0 ov18 ov19 ov20 ov21 ov22) := by kernel_rfl

theorem laws_toInt64SS_suh0.l1_eq {ρ : Type} (N : Nat) (K : AV → Heap → Option ρ) (av0 : Nat) (gv1 : Nat) (gv2 : Nat) (gv3 : Nat → Nat) (gv4 : Nat → Nat) (gv5 : Nat) (gv6 : Nat → Int) (rv7 : Int) :
    ∀ (m : Nat) (i23 : Int) (gv24 : Nat) (gv25 : Nat → Nat) (gv26 : Nat → Nat) (gv27 : Nat → Nat) (gv28 : Nat → Int), xloop (xcode (E4 N) ents laws_toInt64SS_suh0.kp 2 N (cL (cK (cB (cA (cB (cB (cB (cB laws_toInt64SS_suh0.bd)))))))) 2) laws_toInt64SS_suh0.kp 2 2 m (laws_toInt64SS_suh0.st1 av0 gv1 gv2 gv3 gv4 gv5 gv6 rv7 i23 gv24 gv25 gv26 gv27 gv28) (laws_toInt64SS_suh0.k1 N K gv1 gv2 gv3 gv4 gv5 gv6) = (laws_toInt64SS_suh0.l1 N (fun d0 d1 d2 d3 d4 d5 d6 d7 => K (.slice true 2 0 d0 (.exact d1) 1) [⟨false, .hdr 1 gv1 gv2 gv3 gv4 none⟩, ⟨false, .flat gv5 (.ints .i64 gv6)⟩, ⟨true, .hdr 3 d2 d3 d4 d5 (some d6)⟩, ⟨true, .flat 0 (.ints .i64 d7)⟩]) av0 rv7 (fun ov29 ov30 ov31 ov32 ov33 => (laws_toInt64SS_suh0.k1 N K gv1 gv2 gv3 gv4 gv5 gv6) (.exit 2) (laws_toInt64SS_suh0.sx1_0 av0 gv1 gv2 gv3 gv4 gv5 gv6 rv7 ov29 ov30 ov31 ov32 ov33)) m i23 gv24 gv25 gv26 gv27 gv28) := by
  intro m
  induction m with
  | zero => intros; rfl
  | succ m ih =>
    intro i23 gv24 gv25 gv26 gv27 gv28
    refine (laws_toInt64SS_suh0.b1_eq N K (fun s => xloop (xcode (E4 N) ents laws_toInt64SS_suh0.kp 2 N (cL (cK (cB (cA (cB (cB (cB (cB laws_toInt64SS_suh0.bd)))))))) 2) laws_toInt64SS_suh0.kp 2 2 m s (laws_toInt64SS_suh0.k1 N K gv1 gv2 gv3 gv4 gv5 gv6)) av0 gv1 gv2 gv3 gv4 gv5 gv6 rv7 i23 gv24 gv25 gv26 gv27 gv28).trans ?_
    simp only [ih]
    kernel_rfl

theorem laws_toInt64SS_suh0.l0_eq {ρ : Type} (N : Nat) (K : AV → Heap → Option ρ) (av0 : Nat) (gv1 : Nat) (gv2 : Nat) (gv3 : Nat → Nat) (gv4 : Nat → Nat) (gv5 : Nat) (gv6 : Nat → Int) (rv7 : Int) :
    ∀ (m : Nat) (i8 : Int) (gv9 : Nat) (gv10 : Nat → Nat) (gv11 : Nat → Nat) (gv12 : Nat → Nat) (gv13 : Nat → Int), xloop (xcode (E4 N) ents laws_toInt64SS_suh0.kp 2 N (cL (cK (cB (cA (cB (cB (cB laws_toInt64SS_suh0.bd))))))) 0) laws_toInt64SS_suh0.kp 2 0 m (laws_toInt64SS_suh0.st0 av0 gv1 gv2 gv3 gv4 gv5 gv6 rv7 i8 gv9 gv10 gv11 gv12 gv13) (laws_toInt64SS_suh0.k0 N K gv1 gv2 gv3 gv4 gv5 gv6) = (laws_toInt64SS_suh0.l0 N (fun d0 d1 d2 d3 d4 d5 d6 d7 => K (.slice true 2 0 d0 (.exact d1) 1) [⟨false, .hdr 1 gv1 gv2 gv3 gv4 none⟩, ⟨false, .flat gv5 (.ints .i64 gv6)⟩, ⟨true, .hdr 3 d2 d3 d4 d5 (some d6)⟩, ⟨true, .flat 0 (.ints .i64 d7)⟩]) av0 gv3 gv4 gv6 rv7 (fun ov18 ov19 ov20 ov21 ov22 => (laws_toInt64SS_suh0.k0 N K gv1 gv2 gv3 gv4 gv5 gv6) (.exit 0) (laws_toInt64SS_suh0.sx0_0 av0 gv1 gv2 gv3 gv4 gv5 gv6 rv7 ov18 ov19 ov20 ov21 ov22)) m i8 gv9 gv10 gv11 gv12 gv13) := by
  intro m
  induction m with
  | zero => intros; rfl
  | succ m ih =>
    intro i8 gv9 gv10 gv11 gv12 gv13
    refine (laws_toInt64SS_suh0.b0_eq N K (fun s => xloop (xcode (E4 N) ents laws_toInt64SS_suh0.kp 2 N (cL (cK (cB (cA (cB (cB (cB laws_toInt64SS_suh0.bd))))))) 0) laws_toInt64SS_suh0.kp 2 0 m s (laws_toInt64SS_suh0.k0 N K gv1 gv2 gv3 gv4 gv5 gv6)) av0 gv1 gv2 gv3 gv4 gv5 gv6 rv7 i8 gv9 gv10 gv11 gv12 gv13).trans ?_
    simp only [ih]
    kernel_rfl

theorem laws_toInt64SS_suh0.s_eq {ρ : Type} (N : Nat) (K : AV → Heap → Option ρ) (av0 : Nat) (gv1 : Nat) (gv2 : Nat) (gv3 : Nat → Nat) (gv4 : Nat → Nat) (gv5 : Nat) (gv6 : Nat → Int) :
    xbody (E4 N) ents laws_toInt64SS_suh0.kp N Go.Proofs.Try.f6 laws_toInt64SS_suh0.bd [.slice false 0 0 av0 .unk 1, .bool false] [⟨false, .hdr 1 gv1 gv2 gv3 gv4 none⟩, ⟨false, .flat gv5 (.ints .i64 gv6)⟩] K = (laws_toInt64SS_suh0.s N (fun d0 d1 d2 d3 d4 d5 d6 d7 => K (.slice true 2 0 d0 (.exact d1) 1) [⟨false, .hdr 1 gv1 gv2 gv3 gv4 none⟩, ⟨false, .flat gv5 (.ints .i64 gv6)⟩, ⟨true, .hdr 3 d2 d3 d4 d5 (some d6)⟩, ⟨true, .flat 0 (.ints .i64 d7)⟩]) (fun rv7 i8 gv9 gv10 gv11 gv12 gv13 => xloop (xcode (E4 N) ents laws_toInt64SS_suh0.kp 2 N (cL (cK (cB (cA (cB (cB (cB laws_toInt64SS_suh0.bd))))))) 0) laws_toInt64SS_suh0.kp 2 0 N (laws_toInt64SS_suh0.st0 av0 gv1 gv2 gv3 gv4 gv5 gv6 rv7 i8 gv9 gv10 gv11 gv12 gv13) (laws_toInt64SS_suh0.k0 N K gv1 gv2 gv3 gv4 gv5 gv6)) av0) := by kernel_rfl

theorem laws_toInt64SS_suh0.eq {ρ : Type} (N : Nat) (K : AV → Heap → Option ρ) (av0 : Nat) (gv1 : Nat) (gv2 : Nat) (gv3 : Nat → Nat) (gv4 : Nat → Nat) (gv5 : Nat) (gv6 : Nat → Int) :
    xbody (E4 N) ents laws_toInt64SS_suh0.kp N Go.Proofs.Try.f6 laws_toInt64SS_suh0.bd [.slice false 0 0 av0 .unk 1, .bool false] [⟨false, .hdr 1 gv1 gv2 gv3 gv4 none⟩, ⟨false, .flat gv5 (.ints .i64 gv6)⟩] K = (laws_toInt64SS_suh0 N (fun d0 d1 d2 d3 d4 d5 d6 d7 => K (.slice true 2 0 d0 (.exact d1) 1) [⟨false, .hdr 1 gv1 gv2 gv3 gv4 none⟩, ⟨false, .flat gv5 (.ints .i64 gv6)⟩, ⟨true, .hdr 3 d2 d3 d4 d5 (some d6)⟩, ⟨true, .flat 0 (.ints .i64 d7)⟩]) av0 gv1 gv2 gv3 gv4 gv5 gv6) := by
  refine (laws_toInt64SS_suh0.s_eq N K av0 gv1 gv2 gv3 gv4 gv5 gv6).trans ?_
  simp only [laws_toInt64SS_suh0.l0_eq, laws_toInt64SS_suh0.a0_0_eq, laws_toInt64SS_suh0.l1_eq, laws_toInt64SS_suh0.a1_0_eq]
  kernel_rfl

noncomputable def laws_toInt64SS_suh1.kp : Keeps := ⟨[(0, [0, 1, 5, 6], [], []), (2, [0, 5, 7], [], [])], [(0, [0, 5], [], []), (2, [0, 5], [], [])], []⟩

noncomputable def laws_toInt64SS_suh1.bd : Code := bodyOf Go.Proofs.Try.f6

noncomputable def laws_toInt64SS_suh1.fin {ρ : Type} (N : Nat) (K : AV → Heap → Option ρ) (gv1 : Nat) (gv2 : Nat) (gv3 : Nat → Nat) (gv4 : Nat → Nat) (gv5 : Nat) (gv6 : Nat → Int) : XE → St → Option ρ := finK (E4 N) laws_toInt64SS_suh1.kp.fins Go.Proofs.Try.f6 [⟨false, .hdr 1 gv1 gv2 gv3 gv4 none⟩, ⟨false, .flat gv5 (.ints .i64 gv6)⟩] K

noncomputable def laws_toInt64SS_suh1.k0 {ρ : Type} (N : Nat) (K : AV → Heap → Option ρ) (gv1 : Nat) (gv2 : Nat) (gv3 : Nat → Nat) (gv4 : Nat → Nat) (gv5 : Nat) (gv6 : Nat → Int) : XE → St → Option ρ := (blockK laws_toInt64SS_suh1.kp 2 0 (seqK (xcode (E4 N) ents laws_toInt64SS_suh1.kp 2 N (cB (cB (cB (cB laws_toInt64SS_suh1.bd)))) 0) (laws_toInt64SS_suh1.fin N K gv1 gv2 gv3 gv4 gv5 gv6)))

theorem laws_toInt64SS_suh1.k0_mix {ρ : Type} (N : Nat) (K : AV → Heap → Option ρ) (gv1 : Nat) (gv2 : Nat) (gv3 : Nat → Nat) (gv4 : Nat → Nat) (gv5 : Nat) (gv6 : Nat → Int) : mixK (laws_toInt64SS_suh1.fin N K gv1 gv2 gv3 gv4 gv5 gv6 .ret) (laws_toInt64SS_suh1.k0 N K gv1 gv2 gv3 gv4 gv5 gv6) = (laws_toInt64SS_suh1.k0 N K gv1 gv2 gv3 gv4 gv5 gv6) := by
  funext e s; cases e <;> kernel_rfl

noncomputable def laws_toInt64SS_suh1.st0 (av0 : Nat) (gv1 : Nat) (gv2 : Nat) (gv3 : Nat → Nat) (gv4 : Nat → Nat) (gv5 : Nat) (gv6 : Nat → Int) (rv7 : Int) (i8 : Int) (gv9 : Nat) (gv10 : Nat → Nat) (gv11 : Nat → Nat) (gv12 : Nat → Nat) (gv13 : Nat → Int) : St := ⟨sl 52 [(0, .slice false 0 0 av0 .unk 1), (1, .bool true), (5, .slice true 2 0 ((IntKind.i64.wrap ((av0 : Int) + rv7))).toNat (.exact ((IntKind.i64.wrap ((av0 : Int) + rv7))).toNat) 1), (6, .int .i64 (i8))], [⟨false, .hdr 1 gv1 gv2 gv3 gv4 none⟩, ⟨false, .flat gv5 (.ints .i64 gv6)⟩, ⟨true, .hdr 3 ((IntKind.i64.wrap ((av0 : Int) + rv7))).toNat gv9 gv10 gv11 (some gv12)⟩, ⟨true, .flat 0 (.ints .i64 gv13)⟩]⟩

noncomputable def laws_toInt64SS_suh1.sx0_0 (av0 : Nat) (gv1 : Nat) (gv2 : Nat) (gv3 : Nat → Nat) (gv4 : Nat → Nat) (gv5 : Nat) (gv6 : Nat → Int) (rv7 : Int) (ov18 : Nat) (ov19 : Nat → Nat) (ov20 : Nat → Nat) (ov21 : Nat → Nat) (ov22 : Nat → Int) : St := ⟨sl 52 [(0, .slice false 0 0 av0 .unk 1), (5, .slice true 2 0 ((IntKind.i64.wrap ((av0 : Int) + rv7))).toNat (.exact ((IntKind.i64.wrap ((av0 : Int) + rv7))).toNat) 1)], [⟨false, .hdr 1 gv1 gv2 gv3 gv4 none⟩, ⟨false, .flat gv5 (.ints .i64 gv6)⟩, ⟨true, .hdr 3 ((IntKind.i64.wrap ((av0 : Int) + rv7))).toNat ov18 ov19 ov20 (some ov21)⟩, ⟨true, .flat 0 (.ints .i64 ov22)⟩]⟩

noncomputable def laws_toInt64SS_suh1.k1 {ρ : Type} (N : Nat) (K : AV → Heap → Option ρ) (gv1 : Nat) (gv2 : Nat) (gv3 : Nat → Nat) (gv4 : Nat → Nat) (gv5 : Nat) (gv6 : Nat → Int) : XE → St → Option ρ := (blockK laws_toInt64SS_suh1.kp 2 2 (seqK (xcode (E4 N) ents laws_toInt64SS_suh1.kp 2 N (cB (cB (cB (cB (cB laws_toInt64SS_suh1.bd))))) 0) (laws_toInt64SS_suh1.fin N K gv1 gv2 gv3 gv4 gv5 gv6)))

theorem laws_toInt64SS_suh1.k1_mix {ρ : Type} (N : Nat) (K : AV → Heap → Option ρ) (gv1 : Nat) (gv2 : Nat) (gv3 : Nat → Nat) (gv4 : Nat → Nat) (gv5 : Nat) (gv6 : Nat → Int) : mixK (laws_toInt64SS_suh1.fin N K gv1 gv2 gv3 gv4 gv5 gv6 .ret) (laws_toInt64SS_suh1.k1 N K gv1 gv2 gv3 gv4 gv5 gv6) = (laws_toInt64SS_suh1.k1 N K gv1 gv2 gv3 gv4 gv5 gv6) := by
  funext e s; cases e <;> kernel_rfl

noncomputable def laws_toInt64SS_suh1.st1 (av0 : Nat) (gv1 : Nat) (gv2 : Nat) (gv3 : Nat → Nat) (gv4 : Nat → Nat) (gv5 : Nat) (gv6 : Nat → Int) (rv7 : Int) (i23 : Int) (gv24 : Nat) (gv25 : Nat → Nat) (gv26 : Nat → Nat) (gv27 : Nat → Nat) (gv28 : Nat → Int) : St := ⟨sl 52 [(0, .slice false 0 0 av0 .unk 1), (5, .slice true 2 0 ((IntKind.i64.wrap ((av0 : Int) + rv7))).toNat (.exact ((IntKind.i64.wrap ((av0 : Int) + rv7))).toNat) 1), (7, .int .i64 (i23))], [⟨false, .hdr 1 gv1 gv2 gv3 gv4 none⟩, ⟨false, .flat gv5 (.ints .i64 gv6)⟩, ⟨true, .hdr 3 ((IntKind.i64.wrap ((av0 : Int) + rv7))).toNat gv24 gv25 gv26 (some gv27)⟩, ⟨true, .flat 0 (.ints .i64 gv28)⟩]⟩

noncomputable def laws_toInt64SS_suh1.sx1_0 (av0 : Nat) (gv1 : Nat) (gv2 : Nat) (gv3 : Nat → Nat) (gv4 : Nat → Nat) (gv5 : Nat) (gv6 : Nat → Int) (rv7 : Int) (ov29 : Nat) (ov30 : Nat → Nat) (ov31 : Nat → Nat) (ov32 : Nat → Nat) (ov33 : Nat → Int) : St := ⟨sl 52 [(0, .slice false 0 0 av0 .unk 1), (5, .slice true 2 0 ((IntKind.i64.wrap ((av0 : Int) + rv7))).toNat (.exact ((IntKind.i64.wrap ((av0 : Int) + rv7))).toNat) 1)], [⟨false, .hdr 1 gv1 gv2 gv3 gv4 none⟩, ⟨false, .flat gv5 (.ints .i64 gv6)⟩, ⟨true, .hdr 3 ((IntKind.i64.wrap ((av0 : Int) + rv7))).toNat ov29 ov30 ov31 (some ov32)⟩, ⟨true, .flat 0 (.ints .i64 ov33)⟩]⟩

theorem laws_toInt64SS_suh1.b1_gen {ρ : Type} (N : Nat) (K : AV → Heap → Option ρ) (L1 : St → Option ρ) (kv : XE → St → Option ρ) (av0 : Nat) (gv1 : Nat) (gv2 : Nat) (gv3 : Nat → Nat) (gv4 : Nat → Nat) (gv5 : Nat) (gv6 : Nat → Int) (rv7 : Int) (i23 : Int) (gv24 : Nat) (gv25 : Nat → Nat) (gv26 : Nat → Nat) (gv27 : Nat → Nat) (gv28 : Nat → Int) :
    xcode (E4 N) ents laws_toInt64SS_suh1.kp 2 N (cL (cK (cB (cA (cB (cB (cB (cB laws_toInt64SS_suh1.bd)))))))) 2 (laws_toInt64SS_suh1.st1 av0 gv1 gv2 gv3 gv4 gv5 gv6 rv7 i23 gv24 gv25 gv26 gv27 gv28) (roundK laws_toInt64SS_suh1.kp 2 2 L1 (mixK (laws_toInt64SS_suh1.fin N K gv1 gv2 gv3 gv4 gv5 gv6 .ret) kv)) = (laws_toInt64SS_suh1.b1 N (K (.nils) [⟨false, .hdr 1 gv1 gv2 gv3 gv4 none⟩, ⟨false, .flat gv5 (.ints .i64 gv6)⟩]) (fun d0 d1 d2 d3 d4 d5 d6 d7 => K (.slice true 2 0 d0 (.exact d1) 1) [⟨false, .hdr 1 gv1 gv2 gv3 gv4 none⟩, ⟨false, .flat gv5 (.ints .i64 gv6)⟩, ⟨true, .hdr 3 d2 d3 d4 d5 (some d6)⟩, ⟨true, .flat 0 (.ints .i64 d7)⟩]) (fun i23 gv24 gv25 gv26 gv27 gv28 => L1 (laws_toInt64SS_suh1.st1 av0 gv1 gv2 gv3 gv4 gv5 gv6 rv7 i23 gv24 gv25 gv26 gv27 gv28)) (fun ov29 ov30 ov31 ov32 ov33 => kv (.exit 2) (laws_toInt64SS_suh1.sx1_0 av0 gv1 gv2 gv3 gv4 gv5 gv6 rv7 ov29 ov30 ov31 ov32 ov33)) av0 rv7 i23 gv24 gv25 gv26 gv27 gv28) := by kernel_rfl

theorem laws_toInt64SS_suh1.b1_eq {ρ : Type} (N : Nat) (K : AV → Heap → Option ρ) (L1 : St → Option ρ) (av0 : Nat) (gv1 : Nat) (gv2 : Nat) (gv3 : Nat → Nat) (gv4 : Nat → Nat) (gv5 : Nat) (gv6 : Nat → Int) (rv7 : Int) (i23 : Int) (gv24 : Nat) (gv25 : Nat → Nat) (gv26 : Nat → Nat) (gv27 : Nat → Nat) (gv28 : Nat → Int) :
    xcode (E4 N) ents laws_toInt64SS_suh1.kp 2 N (cL (cK (cB (cA (cB (cB (cB (cB laws_toInt64SS_suh1.bd)))))))) 2 (laws_toInt64SS_suh1.st1 av0 gv1 gv2 gv3 gv4 gv5 gv6 rv7 i23 gv24 gv25 gv26 gv27 gv28) (roundK laws_toInt64SS_suh1.kp 2 2 L1 (laws_toInt64SS_suh1.k1 N K gv1 gv2 gv3 gv4 gv5 gv6)) = (laws_toInt64SS_suh1.b1 N (K (.nils) [⟨false, .hdr 1 gv1 gv2 gv3 gv4 none⟩, ⟨false, .flat gv5 (.ints .i64 gv6)⟩]) (fun d0 d1 d2 d3 d4 d5 d6 d7 => K (.slice true 2 0 d0 (.exact d1) 1) [⟨false, .hdr 1 gv1 gv2 gv3 gv4 none⟩, ⟨false, .flat gv5 (.ints .i64 gv6)⟩, ⟨true, .hdr 3 d2 d3 d4 d5 (some d6)⟩, ⟨true, .flat 0 (.ints .i64 d7)⟩]) (fun i23 gv24 gv25 gv26 gv27 gv28 => L1 (laws_toInt64SS_suh1.st1 av0 gv1 gv2 gv3 gv4 gv5 gv6 rv7 i23 gv24 gv25 gv26 gv27 gv28)) (fun ov29 ov30 ov31 ov32 ov33 => (laws_toInt64SS_suh1.k1 N K gv1 gv2 gv3 gv4 gv5 gv6) (.exit 2) (laws_toInt64SS_suh1.sx1_0 av0 gv1 gv2 gv3 gv4 gv5 gv6 rv7 ov29 ov30 ov31 ov32 ov33)) av0 rv7 i23 gv24 gv25 gv26 gv27 gv28) := by
  have h := laws_toInt64SS_suh1.b1_gen N K L1 (laws_toInt64SS_suh1.k1 N K gv1 gv2 gv3 gv4 gv5 gv6) av0 gv1 gv2 gv3 gv4 gv5 gv6 rv7 i23 gv24 gv25 gv26 gv27 gv28
  rw [laws_toInt64SS_suh1.k1_mix] at h
  exact h

theorem laws_toInt64SS_suh1.a1_0_eq {ρ : Type} (N : Nat) (K : AV → Heap → Option ρ) (av0 : Nat) (gv1 : Nat) (gv2 : Nat) (gv3 : Nat → Nat) (gv4 : Nat → Nat) (gv5 : Nat) (gv6 : Nat → Int) (rv7 : Int) (ov29 : Nat) (ov30 : Nat → Nat) (ov31 : Nat → Nat) (ov32 : Nat → Nat) (ov33 : Nat → Int) :
    (laws_toInt64SS_suh1.k1 N K gv1 gv2 gv3 gv4 gv5 gv6) (.exit 2) (laws_toInt64SS_suh1.sx1_0 av0 gv1 gv2 gv3 gv4 gv5 gv6 rv7 ov29 ov30 ov31 ov32 ov33) = (laws_toInt64SS_suh1.a1_0 N (K (.nils) [⟨false, .hdr 1 gv1 gv2 gv3 gv4 none⟩, ⟨false, .flat gv5 (.ints .i64 gv6)⟩]) (fun d0 d1 d2 d3 d4 d5 d6 d7 => K (.slice true 2 0 d0 (.exact d1) 1) [⟨false, .hdr 1 gv1 gv2 gv3 gv4 none⟩, ⟨false, .flat gv5 (.ints .i64 gv6)⟩, ⟨true, .hdr 3 d2 d3 d4 d5 (some d6)⟩, ⟨true, .flat 0 (.ints .i64 d7)⟩]) av0 rv7 ov29 ov30 ov31 ov32 ov33) := by kernel_rfl

theorem laws_toInt64SS_suh1.b0_gen {ρ : Type} (N : Nat) (K : AV → Heap → Option ρ) (L0 : St → Option ρ) (kv : XE → St → Option ρ) (av0 : Nat) (gv1 : Nat) (gv2 : Nat) (gv3 : Nat → Nat) (gv4 : Nat → Nat) (gv5 : Nat) (gv6 : Nat → Int) (rv7 : Int) (i8 : Int) (gv9 : Nat) (gv10 : Nat → Nat) (gv11 : Nat → Nat) (gv12 : Nat → Nat) (gv13 : Nat → Int) :
    xcode (E4 N) ents laws_toInt64SS_suh1.kp 2 N (cL (cK (cB (cA (cB (cB (cB laws_toInt64SS_suh1.bd))))))) 0 (laws_toInt64SS_suh1.st0 av0 gv1 gv2 gv3 gv4 gv5 gv6 rv7 i8 gv9 gv10 gv11 gv12 gv13) (roundK laws_toInt64SS_suh1.kp 2 0 L0 (mixK (laws_toInt64SS_suh1.fin N K gv1 gv2 gv3 gv4 gv5 gv6 .ret) kv)) = (laws_toInt64SS_suh1.b0 N (K (.nils) [⟨false, .hdr 1 gv1 gv2 gv3 gv4 none⟩, ⟨false, .flat gv5 (.ints .i64 gv6)⟩]) (fun d0 d1 d2 d3 d4 d5 d6 d7 => K (.slice true 2 0 d0 (.exact d1) 1) [⟨false, .hdr 1 gv1 gv2 gv3 gv4 none⟩, ⟨false, .flat gv5 (.ints .i64 gv6)⟩, ⟨true, .hdr 3 d2 d3 d4 d5 (some d6)⟩, ⟨true, .flat 0 (.ints .i64 d7)⟩]) (fun i8 gv9 gv10 gv11 gv12 gv13 => L0 (laws_toInt64SS_suh1.st0 av0 gv1 gv2 gv3 gv4 gv5 gv6 rv7 i8 gv9 gv10 gv11 gv12 gv13)) (fun ov18 ov19 ov20 ov21 ov22 => kv (.exit 0) (laws_toInt64SS_suh1.sx0_0 av0 gv1 gv2 gv3 gv4 gv5 gv6 rv7 ov18 ov19 ov20 ov21 ov22)) av0 gv3 gv4 gv6 rv7 i8 gv9 gv10 gv11 gv12 gv13) := by kernel_rfl

theorem laws_toInt64SS_suh1.b0_eq {ρ : Type} (N : Nat) (K : AV → Heap → Option ρ) (L0 : St → Option ρ) (av0 : Nat) (gv1 : Nat) (gv2 : Nat) (gv3 : Nat → Nat) (gv4 : Nat → Nat) (gv5 : Nat) (gv6 : Nat → Int) (rv7 : Int) (i8 : Int) (gv9 : Nat) (gv10 : Nat → Nat) (gv11 : Nat → Nat) (gv12 : Nat → Nat) (gv13 : Nat → Int) :
    xcode (E4 N) ents laws_toInt64SS_suh1.kp 2 N (cL (cK (cB (cA (cB (cB (cB laws_toInt64SS_suh1.bd))))))) 0 (laws_toInt64SS_suh1.st0 av0 gv1 gv2 gv3 gv4 gv5 gv6 rv7 i8 gv9 gv10 gv11 gv12 gv13) (roundK laws_toInt64SS_suh1.kp 2 0 L0 (laws_toInt64SS_suh1.k0 N K gv1 gv2 gv3 gv4 gv5 gv6)) = (laws_toInt64SS_suh1.b0 N (K (.nils) [⟨false, .hdr 1 gv1 gv2 gv3 gv4 none⟩, ⟨false, .flat gv5 (.ints .i64 gv6)⟩]) (fun d0 d1 d2 d3 d4 d5 d6 d7 => K (.slice true 2 0 d0 (.exact d1) 1) [⟨false, .hdr 1 gv1 gv2 gv3 gv4 none⟩, ⟨false, .flat gv5 (.ints .i64 gv6)⟩, ⟨true, .hdr 3 d2 d3 d4 d5 (some d6)⟩, ⟨true, .flat 0 (.ints .i64 d7)⟩]) (fun i8 gv9 gv10 gv11 gv12 gv13 => L0 (laws_toInt64SS_suh1.st0 av0 gv1 gv2 gv3 gv4 gv5 gv6 rv7 i8 gv9 gv10 gv11 gv12 gv13)) (fun ov18 ov19 ov20 ov21 ov22 => (laws_toInt64SS_suh1.k0 N K gv1 gv2 gv3 gv4 gv5 gv6) (.exit 0) (laws_toInt64SS_suh1.sx0_0 av0 gv1 gv2 gv3 gv4 gv5 gv6 rv7 ov18 ov19 ov20 ov21 ov22)) av0 gv3 gv4 gv6 rv7 i8 gv9 gv10 gv11 gv12 gv13) := by
  have h := laws_toInt64SS_suh1.b0_gen N K L0 (laws_toInt64SS_suh1.k0 N K gv1 gv2 gv3 gv4 gv5 gv6) av0 gv1 gv2 gv3 gv4 gv5 gv6 rv7 i8 gv9 gv10 gv11 gv12 gv13
  rw [laws_toInt64SS_suh1.k0_mix] at h
  exact h

theorem laws_toInt64SS_suh1.a0_0_eq {ρ : Type} (N : Nat) (K : AV → Heap → Option ρ) (av0 : Nat) (gv1 : Nat) (gv2 : Nat) (gv3 : Nat → Nat) (gv4 : Nat → Nat) (gv5 : Nat) (gv6 : Nat → Int) (rv7 : Int) (ov18 : Nat) (ov19 : Nat → Nat) (ov20 : Nat → Nat) (ov21 : Nat → Nat) (ov22 : Nat → Int) :
    (laws_toInt64SS_suh1.k0 N K gv1 gv2 gv3 gv4 gv5 gv6) (.exit 0) (laws_toInt64SS_suh1.sx0_0 av0 gv1 gv2 gv3 gv4 gv5 gv6 rv7 ov18 ov19 ov20 ov21 ov22) = (laws_toInt64SS_suh1.a0_0 N (K (.nils) [⟨false, .hdr 1 gv1 gv2 gv3 gv4 none⟩, ⟨false, .flat gv5 (.ints .i64 gv6)⟩]) (fun d0 d1 d2 d3 d4 d5 d6 d7 => K (.slice true 2 0 d0 (.exact d1) 1) [⟨false, .hdr 1 gv1 gv2 gv3 gv4 none⟩, ⟨false, .flat gv5 (.ints .i64 gv6)⟩, ⟨true, .hdr 3 d2 d3 d4 d5 (some d6)⟩, ⟨true, .flat 0 (.ints .i64 d7)⟩]) (fun i23 gv24 gv25 gv26 gv27 gv28 => xloop (xcode (E4 N) ents laws_toInt64SS_suh1.kp 2 N (cL (cK (cB (cA (cB (cB (cB (cB laws_toInt64SS_suh1.bd)))))))) 2) laws_toInt64SS_suh1.kp 2 2 N (laws_toInt64SS_suh1.st1 av0 gv1 gv2 gv3 gv4 gv5 gv6 rv7 i23 gv24 gv25 gv26 gv27 gv28) (laws_toInt64SS_suh1.k1 N K gv1 gv2 gv3 gv4 gv5 gv6)) av0 ov18 ov19 ov20 ov21 ov22) := by kernel_rfl

theorem laws_toInt64SS_suh1.l1_eq {ρ : Type} (N : Nat) (K : AV → Heap → Option ρ) (av0 : Nat) (gv1 : Nat) (gv2 : Nat) (gv3 : Nat → Nat) (gv4 : Nat → Nat) (gv5 : Nat) (gv6 : Nat → Int) (rv7 : Int) :
    ∀ (m : Nat) (i23 : Int) (gv24 : Nat) (gv25 : Nat → Nat) (gv26 : Nat → Nat) (gv27 : Nat → Nat) (gv28 : Nat → Int), xloop (xcode (E4 N) ents laws_toInt64SS_suh1.kp 2 N (cL (cK (cB (cA (cB (cB (cB (cB laws_toInt64SS_suh1.bd)))))))) 2) laws_toInt64SS_suh1.kp 2 2 m (laws_toInt64SS_suh1.st1 av0 gv1 gv2 gv3 gv4 gv5 gv6 rv7 i23 gv24 gv25 gv26 gv27 gv28) (laws_toInt64SS_suh1.k1 N K gv1 gv2 gv3 gv4 gv5 gv6) = (laws_toInt64SS_suh1.l1 N (K (.nils) [⟨false, .hdr 1 gv1 gv2 gv3 gv4 none⟩, ⟨false, .flat gv5 (.ints .i64 gv6)⟩]) (fun d0 d1 d2 d3 d4 d5 d6 d7 => K (.slice true 2 0 d0 (.exact d1) 1) [⟨false, .hdr 1 gv1 gv2 gv3 gv4 none⟩, ⟨false, .flat gv5 (.ints .i64 gv6)⟩, ⟨true, .hdr 3 d2 d3 d4 d5 (some d6)⟩, ⟨true, .flat 0 (.ints .i64 d7)⟩]) av0 rv7 (fun ov29 ov30 ov31 ov32 ov33 => (laws_toInt64SS_suh1.k1 N K gv1 gv2 gv3 gv4 gv5 gv6) (.exit 2) (laws_toInt64SS_suh1.sx1_0 av0 gv1 gv2 gv3 gv4 gv5 gv6 rv7 ov29 ov30 ov31 ov32 ov33)) m i23 gv24 gv25 gv26 gv27 gv28) := by
  intro m
  induction m with
  | zero => intros; rfl
  | succ m ih =>
    intro i23 gv24 gv25 gv26 gv27 gv28
    refine (laws_toInt64SS_suh1.b1_eq N K (fun s => xloop (xcode (E4 N) ents laws_toInt64SS_suh1.kp 2 N (cL (cK (cB (cA (cB (cB (cB (cB laws_toInt64SS_suh1.bd)))))))) 2) laws_toInt64SS_suh1.kp 2 2 m s (laws_toInt64SS_suh1.k1 N K gv1 gv2 gv3 gv4 gv5 gv6)) av0 gv1 gv2 gv3 gv4 gv5 gv6 rv7 i23 gv24 gv25 gv26 gv27 gv28).trans ?_
    simp only [ih]
    kernel_rfl

theorem laws_toInt64SS_suh1.l0_eq {ρ : Type} (N : Nat) (K : AV → Heap → Option ρ) (av0 : Nat) (gv1 : Nat) (gv2 : Nat) (gv3 : Nat → Nat) (gv4 : Nat → Nat) (gv5 : Nat) (gv6 : Nat → Int) (rv7 : Int) :
    ∀ (m : Nat) (i8 : Int) (gv9 : Nat) (gv10 : Nat → Nat) (gv11 : Nat → Nat) (gv12 : Nat → Nat) (gv13 : Nat → Int), xloop (xcode (E4 N) ents laws_toInt64SS_suh1.kp 2 N (cL (cK (cB (cA (cB (cB (cB laws_toInt64SS_suh1.bd))))))) 0) laws_toInt64SS_suh1.kp 2 0 m (laws_toInt64SS_suh1.st0 av0 gv1 gv2 gv3 gv4 gv5 gv6 rv7 i8 gv9 gv10 gv11 gv12 gv13) (laws_toInt64SS_suh1.k0 N K gv1 gv2 gv3 gv4 gv5 gv6) = (laws_toInt64SS_suh1.l0 N (K (.nils) [⟨false, .hdr 1 gv1 gv2 gv3 gv4 none⟩, ⟨false, .flat gv5 (.ints .i64 gv6)⟩]) (fun d0 d1 d2 d3 d4 d5 d6 d7 => K (.slice true 2 0 d0 (.exact d1) 1) [⟨false, .hdr 1 gv1 gv2 gv3 gv4 none⟩, ⟨false, .flat gv5 (.ints .i64 gv6)⟩, ⟨true, .hdr 3 d2 d3 d4 d5 (some d6)⟩, ⟨true, .flat 0 (.ints .i64 d7)⟩]) av0 gv3 gv4 gv6 rv7 (fun ov18 ov19 ov20 ov21 ov22 => (laws_toInt64SS_suh1.k0 N K gv1 gv2 gv3 gv4 gv5 gv6) (.exit 0) (laws_toInt64SS_suh1.sx0_0 av0 gv1 gv2 gv3 gv4 gv5 gv6 rv7 ov18 ov19 ov20 ov21 ov22)) m i8 gv9 gv10 gv11 gv12 gv13) := by
  intro m
  induction m with
  | zero => intros; rfl
  | succ m ih =>
    intro i8 gv9 gv10 gv11 gv12 gv13
    refine (laws_toInt64SS_suh1.b0_eq N K (fun s => xloop (xcode (E4 N) ents laws_toInt64SS_suh1.kp 2 N (cL (cK (cB (cA (cB (cB (cB laws_toInt64SS_suh1.bd))))))) 0) laws_toInt64SS_suh1.kp 2 0 m s (laws_toInt64SS_suh1.k0 N K gv1 gv2 gv3 gv4 gv5 gv6)) av0 gv1 gv2 gv3 gv4 gv5 gv6 rv7 i8 gv9 gv10 gv11 gv12 gv13).trans ?_
    simp only [ih]
    kernel_rfl

theorem laws_toInt64SS_suh1.s_eq {ρ : Type} (N : Nat) (K : AV → Heap → Option ρ) (av0 : Nat) (gv1 : Nat) (gv2 : Nat) (gv3 : Nat → Nat) (gv4 : Nat → Nat) (gv5 : Nat) (gv6 : Nat → Int) :
    xbody (E4 N) ents laws_toInt64SS_suh1.kp N Go.Proofs.Try.f6 laws_toInt64SS_suh1.bd [.slice false 0 0 av0 .unk 1, .bool true] [⟨false, .hdr 1 gv1 gv2 gv3 gv4 none⟩, ⟨false, .flat gv5 (.ints .i64 gv6)⟩] K = (laws_toInt64SS_suh1.s N (K (.nils) [⟨false, .hdr 1 gv1 gv2 gv3 gv4 none⟩, ⟨false, .flat gv5 (.ints .i64 gv6)⟩]) (fun d0 d1 d2 d3 d4 d5 d6 d7 => K (.slice true 2 0 d0 (.exact d1) 1) [⟨false, .hdr 1 gv1 gv2 gv3 gv4 none⟩, ⟨false, .flat gv5 (.ints .i64 gv6)⟩, ⟨true, .hdr 3 d2 d3 d4 d5 (some d6)⟩, ⟨true, .flat 0 (.ints .i64 d7)⟩]) (fun rv7 i8 gv9 gv10 gv11 gv12 gv13 => xloop (xcode (E4 N) ents laws_toInt64SS_suh1.kp 2 N (cL (cK (cB (cA (cB (cB (cB laws_toInt64SS_suh1.bd))))))) 0) laws_toInt64SS_suh1.kp 2 0 N (laws_toInt64SS_suh1.st0 av0 gv1 gv2 gv3 gv4 gv5 gv6 rv7 i8 gv9 gv10 gv11 gv12 gv13) (laws_toInt64SS_suh1.k0 N K gv1 gv2 gv3 gv4 gv5 gv6)) av0) := by kernel_rfl

theorem laws_toInt64SS_suh1.eq {ρ : Type} (N : Nat) (K : AV → Heap → Option ρ) (av0 : Nat) (gv1 : Nat) (gv2 : Nat) (gv3 : Nat → Nat) (gv4 : Nat → Nat) (gv5 : Nat) (gv6 : Nat → Int) :
    xbody (E4 N) ents laws_toInt64SS_suh1.kp N Go.Proofs.Try.f6 laws_toInt64SS_suh1.bd [.slice false 0 0 av0 .unk 1, .bool true] [⟨false, .hdr 1 gv1 gv2 gv3 gv4 none⟩, ⟨false, .flat gv5 (.ints .i64 gv6)⟩] K = (laws_toInt64SS_suh1 N (K (.nils) [⟨false, .hdr 1 gv1 gv2 gv3 gv4 none⟩, ⟨false, .flat gv5 (.ints .i64 gv6)⟩]) (fun d0 d1 d2 d3 d4 d5 d6 d7 => K (.slice true 2 0 d0 (.exact d1) 1) [⟨false, .hdr 1 gv1 gv2 gv3 gv4 none⟩, ⟨false, .flat gv5 (.ints .i64 gv6)⟩, ⟨true, .hdr 3 d2 d3 d4 d5 (some d6)⟩, ⟨true, .flat 0 (.ints .i64 d7)⟩]) av0 gv1 gv2 gv3 gv4 gv5 gv6) := by
  refine (laws_toInt64SS_suh1.s_eq N K av0 gv1 gv2 gv3 gv4 gv5 gv6).trans ?_
  simp only [laws_toInt64SS_suh1.l0_eq, laws_toInt64SS_suh1.a0_0_eq, laws_toInt64SS_suh1.l1_eq, laws_toInt64SS_suh1.a1_0_eq]
  kernel_rfl

noncomputable def laws_toInt64SS_suh0.en (N : Nat) (ρ : Type) : List AV → Heap → (AV → Heap → Option ρ) → Option ρ
  | [.slice false 0 0 av0 .unk 1, .bool false], [⟨false, .hdr 1 gv1 gv2 gv3 gv4 none⟩, ⟨false, .flat gv5 (.ints .i64 gv6)⟩], K => (laws_toInt64SS_suh0 N (fun d0 d1 d2 d3 d4 d5 d6 d7 => K (.slice true 2 0 d0 (.exact d1) 1) [⟨false, .hdr 1 gv1 gv2 gv3 gv4 none⟩, ⟨false, .flat gv5 (.ints .i64 gv6)⟩, ⟨true, .hdr 3 d2 d3 d4 d5 (some d6)⟩, ⟨true, .flat 0 (.ints .i64 d7)⟩]) av0 gv1 gv2 gv3 gv4 gv5 gv6)
  | [.slice false 0 0 av0 .unk 1, .bool true], [⟨false, .hdr 1 gv1 gv2 gv3 gv4 none⟩, ⟨false, .flat gv5 (.ints .i64 gv6)⟩], K => (laws_toInt64SS_suh1 N (K (.nils) [⟨false, .hdr 1 gv1 gv2 gv3 gv4 none⟩, ⟨false, .flat gv5 (.ints .i64 gv6)⟩]) (fun d0 d1 d2 d3 d4 d5 d6 d7 => K (.slice true 2 0 d0 (.exact d1) 1) [⟨false, .hdr 1 gv1 gv2 gv3 gv4 none⟩, ⟨false, .flat gv5 (.ints .i64 gv6)⟩, ⟨true, .hdr 3 d2 d3 d4 d5 (some d6)⟩, ⟨true, .flat 0 (.ints .i64 d7)⟩]) av0 gv1 gv2 gv3 gv4 gv5 gv6)
  | _, _, _ => none

theorem laws_toInt64SS_suh0.en_ok (N : Nat) (hE : EnvOk (E4 N) ents) (ρ : Type) (args : List AV) (sh : Heap) (K : AV → Heap → Option ρ) (r : ρ) (h : laws_toInt64SS_suh0.en N ρ args sh K = some r) : ∃ v sh', K v sh' = some r ∧ FnOk (E4 N).P 6 args sh v sh' := by
  unfold laws_toInt64SS_suh0.en at h
  split at h
  · exact fn_ok hE (kp := laws_toInt64SS_suh0.kp) (N := N) Go.Proofs.Try.func6 (c := laws_toInt64SS_suh0.bd) (by kernel_rfl) ((laws_toInt64SS_suh0.eq N _ _ _ _ _ _ _ _).trans h)
  · exact fn_ok hE (kp := laws_toInt64SS_suh1.kp) (N := N) Go.Proofs.Try.func6 (c := laws_toInt64SS_suh1.bd) (by kernel_rfl) ((laws_toInt64SS_suh1.eq N _ _ _ _ _ _ _ _).trans h)
  · cases h

noncomputable def E5 (N : Nat) : Env := (E4 N).add 6 (laws_toInt64SS_suh0.en N)

theorem E5_ok (N : Nat) : EnvOk (E5 N) ents := Env.add_ok (E4_ok N) (laws_toInt64SS_suh0.en_ok N (E4_ok N))

noncomputable def spec_l01In.kp : Keeps := ⟨[], [], []⟩

noncomputable def spec_l01In.bd : Code := bodyOf Go.Proofs.Try.f34

noncomputable def spec_l01In.fin {ρ : Type} (N : Nat) (K : AV → Heap → Option ρ) : XE → St → Option ρ := finK (E5 N) spec_l01In.kp.fins Go.Proofs.Try.f34 [] K

theorem spec_l01In.eq {ρ : Type} (N : Nat) (K : AV → Heap → Option ρ) (nv0 : Int) (low1 : Int) (high2 : Int) :
    xbody (E5 N) ents spec_l01In.kp N Go.Proofs.Try.f34 spec_l01In.bd [.int .i64 (nv0), .int .i64 (low1), .int .i64 (high2)] [] K = (spec_l01In N (fun d0 => K (.bool (d0)) []) nv0 low1 high2) := by kernel_rfl

noncomputable def spec_l01In.en (N : Nat) (ρ : Type) : List AV → Heap → (AV → Heap → Option ρ) → Option ρ
  | [.int .i64 (nv0), .int .i64 (low1), .int .i64 (high2)], [], K => (spec_l01In N (fun d0 => K (.bool (d0)) []) nv0 low1 high2)
  | _, _, _ => none

theorem spec_l01In.en_ok (N : Nat) (hE : EnvOk (E5 N) ents) (ρ : Type) (args : List AV) (sh : Heap) (K : AV → Heap → Option ρ) (r : ρ) (h : spec_l01In.en N ρ args sh K = some r) : ∃ v sh', K v sh' = some r ∧ FnOk (E5 N).P 34 args sh v sh' := by
  unfold spec_l01In.en at h
  split at h
  · exact fn_ok hE (kp := spec_l01In.kp) (N := N) Go.Proofs.Try.func34 (c := spec_l01In.bd) (by kernel_rfl) ((spec_l01In.eq N _ _ _ _).trans h)
  · cases h

noncomputable def E6 (N : Nat) : Env := (E5 N).add 34 (spec_l01In.en N)

theorem E6_ok (N : Nat) : EnvOk (E6 N) ents := Env.add_ok (E5_ok N) (spec_l01In.en_ok N (E5_ok N))

noncomputable def spec_l01Prime.kp : Keeps := ⟨[(0, [0, 3], [], [])], [(0, [0], [], [])], []⟩

noncomputable def spec_l01Prime.bd : Code := bodyOf Go.Proofs.Try.f23

noncomputable def spec_l01Prime.fin {ρ : Type} (N : Nat) (K : AV → Heap → Option ρ) : XE → St → Option ρ := finK (E6 N) spec_l01Prime.kp.fins Go.Proofs.Try.f23 [] K

noncomputable def spec_l01Prime.k0 {ρ : Type} (N : Nat) (K : AV → Heap → Option ρ) : XE → St → Option ρ := (blockK spec_l01Prime.kp 0 0 (seqK (xcode (E6 N) ents spec_l01Prime.kp 0 N (cB (cB spec_l01Prime.bd)) 0) (spec_l01Prime.fin N K)))

theorem spec_l01Prime.k0_mix {ρ : Type} (N : Nat) (K : AV → Heap → Option ρ) : mixK (spec_l01Prime.fin N K .ret) (spec_l01Prime.k0 N K) = (spec_l01Prime.k0 N K) := by
  funext e s; cases e <;> kernel_rfl

noncomputable def spec_l01Prime.st0 (p0 : Int) (k1 : Int) : St := ⟨sl 19 [(0, .int .i64 (p0)), (3, .int .i64 (k1))], []⟩

noncomputable def spec_l01Prime.sx0_0 (p0 : Int) : St := ⟨sl 19 [(0, .int .i64 (p0))], []⟩

theorem spec_l01Prime.b0_gen {ρ : Type} (N : Nat) (K : AV → Heap → Option ρ) (L0 : St → Option ρ) (kv : XE → St → Option ρ) (p0 : Int) (k1 : Int) :
    xcode (E6 N) ents spec_l01Prime.kp 0 N (cL (cK (cB (cA (cB spec_l01Prime.bd))))) 0 (spec_l01Prime.st0 p0 k1) (roundK spec_l01Prime.kp 0 0 L0 (mixK (spec_l01Prime.fin N K .ret) kv)) = (spec_l01Prime.b0 N (fun d0 => K (.bool (d0)) []) (fun k1 => L0 (spec_l01Prime.st0 p0 k1)) (kv (.exit 0) (spec_l01Prime.sx0_0 p0)) p0 k1) := by kernel_rfl

theorem spec_l01Prime.b0_eq {ρ : Type} (N : Nat) (K : AV → Heap → Option ρ) (L0 : St → Option ρ) (p0 : Int) (k1 : Int) :
    xcode (E6 N) ents spec_l01Prime.kp 0 N (cL (cK (cB (cA (cB spec_l01Prime.bd))))) 0 (spec_l01Prime.st0 p0 k1) (roundK spec_l01Prime.kp 0 0 L0 (spec_l01Prime.k0 N K)) = (spec_l01Prime.b0 N (fun d0 => K (.bool (d0)) []) (fun k1 => L0 (spec_l01Prime.st0 p0 k1)) ((spec_l01Prime.k0 N K) (.exit 0) (spec_l01Prime.sx0_0 p0)) p0 k1) := by
  have h := spec_l01Prime.b0_gen N K L0 (spec_l01Prime.k0 N K) p0 k1
  rw [spec_l01Prime.k0_mix] at h
  exact h

theorem spec_l01Prime.a0_0_eq {ρ : Type} (N : Nat) (K : AV → Heap → Option ρ) (p0 : Int) :
    (spec_l01Prime.k0 N K) (.exit 0) (spec_l01Prime.sx0_0 p0) = (spec_l01Prime.a0_0 N (fun d0 => K (.bool (d0)) []) p0) := by kernel_rfl

theorem spec_l01Prime.l0_eq {ρ : Type} (N : Nat) (K : AV → Heap → Option ρ) (p0 : Int) :
    ∀ (m : Nat) (k1 : Int), xloop (xcode (E6 N) ents spec_l01Prime.kp 0 N (cL (cK (cB (cA (cB spec_l01Prime.bd))))) 0) spec_l01Prime.kp 0 0 m (spec_l01Prime.st0 p0 k1) (spec_l01Prime.k0 N K) = (spec_l01Prime.l0 N (fun d0 => K (.bool (d0)) []) p0 ((spec_l01Prime.k0 N K) (.exit 0) (spec_l01Prime.sx0_0 p0)) m k1) := by
  intro m
  induction m with
  | zero => intros; rfl
  | succ m ih =>
    intro k1
    refine (spec_l01Prime.b0_eq N K (fun s => xloop (xcode (E6 N) ents spec_l01Prime.kp 0 N (cL (cK (cB (cA (cB spec_l01Prime.bd))))) 0) spec_l01Prime.kp 0 0 m s (spec_l01Prime.k0 N K)) p0 k1).trans ?_
    simp only [ih]
    kernel_rfl

theorem spec_l01Prime.s_eq {ρ : Type} (N : Nat) (K : AV → Heap → Option ρ) (p0 : Int) :
    xbody (E6 N) ents spec_l01Prime.kp N Go.Proofs.Try.f23 spec_l01Prime.bd [.int .i64 (p0)] [] K = (spec_l01Prime.s N (fun d0 => K (.bool (d0)) []) (fun k1 => xloop (xcode (E6 N) ents spec_l01Prime.kp 0 N (cL (cK (cB (cA (cB spec_l01Prime.bd))))) 0) spec_l01Prime.kp 0 0 N (spec_l01Prime.st0 p0 k1) (spec_l01Prime.k0 N K))) := by kernel_rfl

theorem spec_l01Prime.eq {ρ : Type} (N : Nat) (K : AV → Heap → Option ρ) (p0 : Int) :
    xbody (E6 N) ents spec_l01Prime.kp N Go.Proofs.Try.f23 spec_l01Prime.bd [.int .i64 (p0)] [] K = (spec_l01Prime N (fun d0 => K (.bool (d0)) []) p0) := by
  refine (spec_l01Prime.s_eq N K p0).trans ?_
  simp only [spec_l01Prime.l0_eq, spec_l01Prime.a0_0_eq]
  kernel_rfl

noncomputable def spec_l01Prime.en (N : Nat) (ρ : Type) : List AV → Heap → (AV → Heap → Option ρ) → Option ρ
  | [.int .i64 (p0)], [], K => (spec_l01Prime N (fun d0 => K (.bool (d0)) []) p0)
  | _, _, _ => none

theorem spec_l01Prime.en_ok (N : Nat) (hE : EnvOk (E6 N) ents) (ρ : Type) (args : List AV) (sh : Heap) (K : AV → Heap → Option ρ) (r : ρ) (h : spec_l01Prime.en N ρ args sh K = some r) : ∃ v sh', K v sh' = some r ∧ FnOk (E6 N).P 23 args sh v sh' := by
  unfold spec_l01Prime.en at h
  split at h
  · exact fn_ok hE (kp := spec_l01Prime.kp) (N := N) Go.Proofs.Try.func23 (c := spec_l01Prime.bd) (by kernel_rfl) ((spec_l01Prime.eq N _ _).trans h)
  · cases h

noncomputable def E7 (N : Nat) : Env := (E6 N).add 23 (spec_l01Prime.en N)

theorem E7_ok (N : Nat) : EnvOk (E7 N) ents := Env.add_ok (E6_ok N) (spec_l01Prime.en_ok N (E6_ok N))
end Go.Proofs.Ytgfmgfgjpobndaa.H
