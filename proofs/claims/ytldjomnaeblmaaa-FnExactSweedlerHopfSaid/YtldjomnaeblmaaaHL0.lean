/- The program computes these functions. -/
import Derived.Test.YtldjomnaeblmaaaHP0
import Derived.Test.YtldjomnaeblmaaaChecked
import Derived.KernelRfl
namespace Go.Proofs.Ytldjomnaeblmaaa.H
set_option linter.unusedVariables false
set_option linter.unusedSimpArgs false
open Go Go.RowKit Go.Proofs.Ytldjomnaeblmaaa.Hx
set_option linter.unusedVariables false
set_option maxRecDepth 100000
noncomputable def lays : List Lay := [.other, .func, .int .i64, .int .i64, .bool, .int .u8, .int .u8, .other, .other, .str, .str, .str, .int .u64, .other, .other, .ptr, .ptr, .ptr, .other, .other, .other, .int .i32, .arr 8 5 1 .u8, .arr 8 5 1 .u8, .arr 8 23 8 .u8, .arr 8 23 8 .u8, .arr 8 25 64 .u8, .arr 8 25 64 .u8, .struct [(0, 1, false), (1, 1, false), (2, 8, true), (10, 512, true), (522, 8, true), (530, 512, true), (1042, 64, true)] [(.i64, 2), (.u8, 1104)], .struct [(0, 1, false), (1, 1, false), (2, 8, true), (10, 512, true), (522, 8, true), (530, 512, true), (1042, 64, true)] [(.i64, 2), (.u8, 1104)], .other, .func, .func, .func, .func, .func, .func, .func, .func, .func, .func, .func, .struct [(0, 1, false), (1, 1, false)] [(.i64, 2)], .struct [(0, 1, false), (1, 1, false)] [(.i64, 2)], .func, .other, .func, .func, .func, .func, .ptr, .slice 3 1 8, .func, .func, .ptr, .func, .ptr, .func, .func, .func, .func, .other, .other, .other, .other, .other, .func, .int .u32, .int .u8, .int .u8, .func, .ptr, .int .i32, .int .i32, .other, .other, .func, .func, .other]

noncomputable def wrs : List (FuncId × List Bool) := [(25, [false, true]), (26, [false, true]), (27, [false, false, false, false, true, true, true]), (28, [false, false, false, false, false, false, true])]

noncomputable def ents : List FuncId := [3, 4, 5, 6, 7, 8, 9, 10, 11, 12, 13, 14, 15, 16, 17, 18, 19, 20, 21, 22, 23, 24, 25, 26, 27, 28, 29]

noncomputable def E0 (N : Nat) : Env := env0 Go.Proofs.Try.prog lays wrs

theorem E0_ok (N : Nat) : EnvOk (E0 N) ents := env0_ok (by kernel_rfl) (by kernel_rfl) (by kernel_rfl)

noncomputable def spec_l01In.kp : Keeps := ⟨[], []⟩

noncomputable def spec_l01In.bd : Code := bodyOf Go.Proofs.Try.f14

noncomputable def spec_l01In.fin {ρ : Type} (N : Nat) (K : AV → Heap → Option ρ) : XE → St → Option ρ := finK (E0 N) Go.Proofs.Try.f14 [] K

theorem spec_l01In.eq {ρ : Type} (N : Nat) (K : AV → Heap → Option ρ) (n0 : Int) (low1 : Int) (high2 : Int) :
    xbody (E0 N) ents spec_l01In.kp N Go.Proofs.Try.f14 spec_l01In.bd [.int .i64 (n0), .int .i64 (low1), .int .i64 (high2)] [] K = (spec_l01In N (fun d0 => K (.bool (d0)) []) n0 low1 high2) := by kernel_rfl

noncomputable def spec_l01In.en (N : Nat) (ρ : Type) : List AV → Heap → (AV → Heap → Option ρ) → Option ρ
  | [.int .i64 (n0), .int .i64 (low1), .int .i64 (high2)], [], K => (spec_l01In N (fun d0 => K (.bool (d0)) []) n0 low1 high2)
  | _, _, _ => none

theorem spec_l01In.en_ok (N : Nat) (hE : EnvOk (E0 N) ents) (ρ : Type) (args : List AV) (sh : Heap) (K : AV → Heap → Option ρ) (r : ρ) (h : spec_l01In.en N ρ args sh K = some r) : ∃ v sh', K v sh' = some r ∧ FnOk (E0 N).P 14 args sh v sh' := by
  unfold spec_l01In.en at h
  split at h
  · exact fn_ok hE (kp := spec_l01In.kp) (N := N) Go.Proofs.Try.func14 (c := spec_l01In.bd) (by kernel_rfl) ((spec_l01In.eq N _ _ _ _).trans h)
  · cases h

noncomputable def E1 (N : Nat) : Env := (E0 N).add 14 (spec_l01In.en N)

theorem E1_ok (N : Nat) : EnvOk (E1 N) ents := Env.add_ok (E0_ok N) (spec_l01In.en_ok N (E0_ok N))

noncomputable def spec_l01Prime.kp : Keeps := ⟨[(0, [0, 3], 0)], [(0, [0], 0)]⟩

noncomputable def spec_l01Prime.bd : Code := bodyOf Go.Proofs.Try.f7

noncomputable def spec_l01Prime.fin {ρ : Type} (N : Nat) (K : AV → Heap → Option ρ) : XE → St → Option ρ := finK (E1 N) Go.Proofs.Try.f7 [] K

noncomputable def spec_l01Prime.k0 {ρ : Type} (N : Nat) (K : AV → Heap → Option ρ) : XE → St → Option ρ := (blockK spec_l01Prime.kp 0 0 (seqK (xcode (E1 N) ents spec_l01Prime.kp 0 N (cB (cB spec_l01Prime.bd)) 0) (spec_l01Prime.fin N K)))

theorem spec_l01Prime.k0_mix {ρ : Type} (N : Nat) (K : AV → Heap → Option ρ) : mixK (spec_l01Prime.fin N K .ret) (spec_l01Prime.k0 N K) = (spec_l01Prime.k0 N K) := by
  funext e s; cases e <;> rfl

noncomputable def spec_l01Prime.st0 (p0 : Int) (k1 : Int) : St := ⟨sl 19 [(0, .int .i64 (p0)), (3, .int .i64 (k1))], []⟩

noncomputable def spec_l01Prime.sx0_0 (p0 : Int) : St := ⟨sl 19 [(0, .int .i64 (p0))], []⟩

theorem spec_l01Prime.b0_gen {ρ : Type} (N : Nat) (K : AV → Heap → Option ρ) (L0 : St → Option ρ) (kv : XE → St → Option ρ) (p0 : Int) (k1 : Int) :
    xcode (E1 N) ents spec_l01Prime.kp 0 N (cL (cK (cB (cA (cB spec_l01Prime.bd))))) 0 (spec_l01Prime.st0 p0 k1) (roundK spec_l01Prime.kp 0 0 L0 (mixK (spec_l01Prime.fin N K .ret) kv)) = (spec_l01Prime.b0 N (fun d0 => K (.bool (d0)) []) (fun k1 => L0 (spec_l01Prime.st0 p0 k1)) (kv (.exit 0) (spec_l01Prime.sx0_0 p0)) p0 k1) := by kernel_rfl

theorem spec_l01Prime.b0_eq {ρ : Type} (N : Nat) (K : AV → Heap → Option ρ) (L0 : St → Option ρ) (p0 : Int) (k1 : Int) :
    xcode (E1 N) ents spec_l01Prime.kp 0 N (cL (cK (cB (cA (cB spec_l01Prime.bd))))) 0 (spec_l01Prime.st0 p0 k1) (roundK spec_l01Prime.kp 0 0 L0 (spec_l01Prime.k0 N K)) = (spec_l01Prime.b0 N (fun d0 => K (.bool (d0)) []) (fun k1 => L0 (spec_l01Prime.st0 p0 k1)) ((spec_l01Prime.k0 N K) (.exit 0) (spec_l01Prime.sx0_0 p0)) p0 k1) := by
  have h := spec_l01Prime.b0_gen N K L0 (spec_l01Prime.k0 N K) p0 k1
  rw [spec_l01Prime.k0_mix] at h
  exact h

theorem spec_l01Prime.a0_0_eq {ρ : Type} (N : Nat) (K : AV → Heap → Option ρ) (p0 : Int) :
    (spec_l01Prime.k0 N K) (.exit 0) (spec_l01Prime.sx0_0 p0) = (spec_l01Prime.a0_0 N (fun d0 => K (.bool (d0)) []) p0) := by kernel_rfl

theorem spec_l01Prime.l0_eq {ρ : Type} (N : Nat) (K : AV → Heap → Option ρ) (p0 : Int) :
    ∀ (m : Nat) (k1 : Int), xloop (xcode (E1 N) ents spec_l01Prime.kp 0 N (cL (cK (cB (cA (cB spec_l01Prime.bd))))) 0) spec_l01Prime.kp 0 0 m (spec_l01Prime.st0 p0 k1) (spec_l01Prime.k0 N K) = (spec_l01Prime.l0 N (fun d0 => K (.bool (d0)) []) p0 ((spec_l01Prime.k0 N K) (.exit 0) (spec_l01Prime.sx0_0 p0)) m k1) := by
  intro m
  induction m with
  | zero => intros; rfl
  | succ m ih =>
    intro k1
    refine (spec_l01Prime.b0_eq N K (fun s => xloop (xcode (E1 N) ents spec_l01Prime.kp 0 N (cL (cK (cB (cA (cB spec_l01Prime.bd))))) 0) spec_l01Prime.kp 0 0 m s (spec_l01Prime.k0 N K)) p0 k1).trans ?_
    simp only [ih]
    kernel_rfl

theorem spec_l01Prime.s_eq {ρ : Type} (N : Nat) (K : AV → Heap → Option ρ) (p0 : Int) :
    xbody (E1 N) ents spec_l01Prime.kp N Go.Proofs.Try.f7 spec_l01Prime.bd [.int .i64 (p0)] [] K = (spec_l01Prime.s N (fun d0 => K (.bool (d0)) []) (fun k1 => xloop (xcode (E1 N) ents spec_l01Prime.kp 0 N (cL (cK (cB (cA (cB spec_l01Prime.bd))))) 0) spec_l01Prime.kp 0 0 N (spec_l01Prime.st0 p0 k1) (spec_l01Prime.k0 N K))) := by kernel_rfl

theorem spec_l01Prime.eq {ρ : Type} (N : Nat) (K : AV → Heap → Option ρ) (p0 : Int) :
    xbody (E1 N) ents spec_l01Prime.kp N Go.Proofs.Try.f7 spec_l01Prime.bd [.int .i64 (p0)] [] K = (spec_l01Prime N (fun d0 => K (.bool (d0)) []) p0) := by
  refine (spec_l01Prime.s_eq N K p0).trans ?_
  simp only [spec_l01Prime.l0_eq, spec_l01Prime.a0_0_eq]
  kernel_rfl

noncomputable def spec_l01Prime.en (N : Nat) (ρ : Type) : List AV → Heap → (AV → Heap → Option ρ) → Option ρ
  | [.int .i64 (p0)], [], K => (spec_l01Prime N (fun d0 => K (.bool (d0)) []) p0)
  | _, _, _ => none

theorem spec_l01Prime.en_ok (N : Nat) (hE : EnvOk (E1 N) ents) (ρ : Type) (args : List AV) (sh : Heap) (K : AV → Heap → Option ρ) (r : ρ) (h : spec_l01Prime.en N ρ args sh K = some r) : ∃ v sh', K v sh' = some r ∧ FnOk (E1 N).P 7 args sh v sh' := by
  unfold spec_l01Prime.en at h
  split at h
  · exact fn_ok hE (kp := spec_l01Prime.kp) (N := N) Go.Proofs.Try.func7 (c := spec_l01Prime.bd) (by kernel_rfl) ((spec_l01Prime.eq N _ _).trans h)
  · cases h

noncomputable def E2 (N : Nat) : Env := (E1 N).add 7 (spec_l01Prime.en N)

theorem E2_ok (N : Nat) : EnvOk (E2 N) ents := Env.add_ok (E1_ok N) (spec_l01Prime.en_ok N (E1_ok N))

noncomputable def spec_l01Basis.kp : Keeps := ⟨[], []⟩

noncomputable def spec_l01Basis.bd : Code := bodyOf Go.Proofs.Try.f24

noncomputable def spec_l01Basis.fin {ρ : Type} (N : Nat) (K : AV → Heap → Option ρ) : XE → St → Option ρ := finK (E2 N) Go.Proofs.Try.f24 [] K

theorem spec_l01Basis.eq {ρ : Type} (N : Nat) (K : AV → Heap → Option ρ) (i0 : Int) :
    xbody (E2 N) ents spec_l01Basis.kp N Go.Proofs.Try.f24 spec_l01Basis.bd [.int .i64 (i0)] [] K = (spec_l01Basis N (fun d0 => K (.agg [⟨.u8, 8, d0⟩]) []) i0) := by kernel_rfl

noncomputable def spec_l01Basis.en (N : Nat) (ρ : Type) : List AV → Heap → (AV → Heap → Option ρ) → Option ρ
  | [.int .i64 (i0)], [], K => (spec_l01Basis N (fun d0 => K (.agg [⟨.u8, 8, d0⟩]) []) i0)
  | _, _, _ => none

theorem spec_l01Basis.en_ok (N : Nat) (hE : EnvOk (E2 N) ents) (ρ : Type) (args : List AV) (sh : Heap) (K : AV → Heap → Option ρ) (r : ρ) (h : spec_l01Basis.en N ρ args sh K = some r) : ∃ v sh', K v sh' = some r ∧ FnOk (E2 N).P 24 args sh v sh' := by
  unfold spec_l01Basis.en at h
  split at h
  · exact fn_ok hE (kp := spec_l01Basis.kp) (N := N) Go.Proofs.Try.func24 (c := spec_l01Basis.bd) (by kernel_rfl) ((spec_l01Basis.eq N _ _).trans h)
  · cases h

noncomputable def E3 (N : Nat) : Env := (E2 N).add 24 (spec_l01Basis.en N)

theorem E3_ok (N : Nat) : EnvOk (E3 N) ents := Env.add_ok (E2_ok N) (spec_l01Basis.en_ok N (E2_ok N))

noncomputable def spec_l03Same.kp : Keeps := ⟨[(0, [0, 2, 3, 4], 2)], [(0, [2, 3], 2)]⟩

noncomputable def spec_l03Same.bd : Code := bodyOf Go.Proofs.Try.f15

noncomputable def spec_l03Same.fin {ρ : Type} (N : Nat) (K : AV → Heap → Option ρ) : XE → St → Option ρ := finK (E3 N) Go.Proofs.Try.f15 [] K

noncomputable def spec_l03Same.k0 {ρ : Type} (N : Nat) (K : AV → Heap → Option ρ) : XE → St → Option ρ := (blockK spec_l03Same.kp 0 0 (seqK (xcode (E3 N) ents spec_l03Same.kp 0 N (cB (cB (cB spec_l03Same.bd))) 0) (spec_l03Same.fin N K)))

theorem spec_l03Same.k0_mix {ρ : Type} (N : Nat) (K : AV → Heap → Option ρ) : mixK (spec_l03Same.fin N K .ret) (spec_l03Same.k0 N K) = (spec_l03Same.k0 N K) := by
  funext e s; cases e <;> rfl

noncomputable def spec_l03Same.st0 (n0 : Int) (i1 : Int) (g2 : Nat → Int) : St := ⟨sl 16 [(0, .int .i64 (n0)), (2, .sptr [(0, 64)]), (3, .sptr [(1, 64)]), (4, .int .i64 (i1))], [⟨true, .ints .u8 64 (fun _ => 0)⟩, ⟨true, .ints .u8 64 g2⟩]⟩

noncomputable def spec_l03Same.sx0_0 (o4 : Nat → Int) : St := ⟨sl 16 [(2, .sptr [(0, 64)]), (3, .sptr [(1, 64)])], [⟨true, .ints .u8 64 (fun _ => 0)⟩, ⟨true, .ints .u8 64 o4⟩]⟩

theorem spec_l03Same.b0_gen {ρ : Type} (N : Nat) (K : AV → Heap → Option ρ) (L0 : St → Option ρ) (kv : XE → St → Option ρ) (n0 : Int) (i1 : Int) (g2 : Nat → Int) :
    xcode (E3 N) ents spec_l03Same.kp 0 N (cL (cK (cB (cA (cB (cB spec_l03Same.bd)))))) 0 (spec_l03Same.st0 n0 i1 g2) (roundK spec_l03Same.kp 0 0 L0 (mixK (spec_l03Same.fin N K .ret) kv)) = (spec_l03Same.b0 N (fun d0 => K (.agg [⟨.u8, 64, d0⟩]) []) (fun i1 g2 => L0 (spec_l03Same.st0 n0 i1 g2)) (fun o4 => kv (.exit 0) (spec_l03Same.sx0_0 o4)) n0 i1 g2) := by kernel_rfl

theorem spec_l03Same.b0_eq {ρ : Type} (N : Nat) (K : AV → Heap → Option ρ) (L0 : St → Option ρ) (n0 : Int) (i1 : Int) (g2 : Nat → Int) :
    xcode (E3 N) ents spec_l03Same.kp 0 N (cL (cK (cB (cA (cB (cB spec_l03Same.bd)))))) 0 (spec_l03Same.st0 n0 i1 g2) (roundK spec_l03Same.kp 0 0 L0 (spec_l03Same.k0 N K)) = (spec_l03Same.b0 N (fun d0 => K (.agg [⟨.u8, 64, d0⟩]) []) (fun i1 g2 => L0 (spec_l03Same.st0 n0 i1 g2)) (fun o4 => (spec_l03Same.k0 N K) (.exit 0) (spec_l03Same.sx0_0 o4)) n0 i1 g2) := by
  have h := spec_l03Same.b0_gen N K L0 (spec_l03Same.k0 N K) n0 i1 g2
  rw [spec_l03Same.k0_mix] at h
  exact h

theorem spec_l03Same.a0_0_eq {ρ : Type} (N : Nat) (K : AV → Heap → Option ρ) (o4 : Nat → Int) :
    (spec_l03Same.k0 N K) (.exit 0) (spec_l03Same.sx0_0 o4) = (spec_l03Same.a0_0 N (fun d0 => K (.agg [⟨.u8, 64, d0⟩]) []) o4) := by kernel_rfl

theorem spec_l03Same.l0_eq {ρ : Type} (N : Nat) (K : AV → Heap → Option ρ) (n0 : Int) :
    ∀ (m : Nat) (i1 : Int) (g2 : Nat → Int), xloop (xcode (E3 N) ents spec_l03Same.kp 0 N (cL (cK (cB (cA (cB (cB spec_l03Same.bd)))))) 0) spec_l03Same.kp 0 0 m (spec_l03Same.st0 n0 i1 g2) (spec_l03Same.k0 N K) = (spec_l03Same.l0 N (fun d0 => K (.agg [⟨.u8, 64, d0⟩]) []) n0 (fun o4 => (spec_l03Same.k0 N K) (.exit 0) (spec_l03Same.sx0_0 o4)) m i1 g2) := by
  intro m
  induction m with
  | zero => intros; rfl
  | succ m ih =>
    intro i1 g2
    refine (spec_l03Same.b0_eq N K (fun s => xloop (xcode (E3 N) ents spec_l03Same.kp 0 N (cL (cK (cB (cA (cB (cB spec_l03Same.bd)))))) 0) spec_l03Same.kp 0 0 m s (spec_l03Same.k0 N K)) n0 i1 g2).trans ?_
    simp only [ih]
    kernel_rfl

theorem spec_l03Same.s_eq {ρ : Type} (N : Nat) (K : AV → Heap → Option ρ) (n0 : Int) :
    xbody (E3 N) ents spec_l03Same.kp N Go.Proofs.Try.f15 spec_l03Same.bd [.int .i64 (n0)] [] K = (spec_l03Same.s N (fun d0 => K (.agg [⟨.u8, 64, d0⟩]) []) (fun i1 g2 => xloop (xcode (E3 N) ents spec_l03Same.kp 0 N (cL (cK (cB (cA (cB (cB spec_l03Same.bd)))))) 0) spec_l03Same.kp 0 0 N (spec_l03Same.st0 n0 i1 g2) (spec_l03Same.k0 N K))) := by kernel_rfl

theorem spec_l03Same.eq {ρ : Type} (N : Nat) (K : AV → Heap → Option ρ) (n0 : Int) :
    xbody (E3 N) ents spec_l03Same.kp N Go.Proofs.Try.f15 spec_l03Same.bd [.int .i64 (n0)] [] K = (spec_l03Same N (fun d0 => K (.agg [⟨.u8, 64, d0⟩]) []) n0) := by
  refine (spec_l03Same.s_eq N K n0).trans ?_
  simp only [spec_l03Same.l0_eq, spec_l03Same.a0_0_eq]
  kernel_rfl

noncomputable def spec_l03Same.en (N : Nat) (ρ : Type) : List AV → Heap → (AV → Heap → Option ρ) → Option ρ
  | [.int .i64 (n0)], [], K => (spec_l03Same N (fun d0 => K (.agg [⟨.u8, 64, d0⟩]) []) n0)
  | _, _, _ => none

theorem spec_l03Same.en_ok (N : Nat) (hE : EnvOk (E3 N) ents) (ρ : Type) (args : List AV) (sh : Heap) (K : AV → Heap → Option ρ) (r : ρ) (h : spec_l03Same.en N ρ args sh K = some r) : ∃ v sh', K v sh' = some r ∧ FnOk (E3 N).P 15 args sh v sh' := by
  unfold spec_l03Same.en at h
  split at h
  · exact fn_ok hE (kp := spec_l03Same.kp) (N := N) Go.Proofs.Try.func15 (c := spec_l03Same.bd) (by kernel_rfl) ((spec_l03Same.eq N _ _).trans h)
  · cases h

noncomputable def E4 (N : Nat) : Env := (E3 N).add 15 (spec_l03Same.en N)

theorem E4_ok (N : Nat) : EnvOk (E4 N) ents := Env.add_ok (E3_ok N) (spec_l03Same.en_ok N (E3_ok N))

noncomputable def spec_l03Sweedler.kp : Keeps := ⟨[], []⟩

noncomputable def spec_l03Sweedler.bd : Code := bodyOf Go.Proofs.Try.f8

noncomputable def spec_l03Sweedler.fin {ρ : Type} (N : Nat) (K : AV → Heap → Option ρ) : XE → St → Option ρ := finK (E4 N) Go.Proofs.Try.f8 [] K

theorem spec_l03Sweedler.eq {ρ : Type} (N : Nat) (K : AV → Heap → Option ρ) (p0 : Int) :
    xbody (E4 N) ents spec_l03Sweedler.kp N Go.Proofs.Try.f8 spec_l03Sweedler.bd [.int .i64 (p0)] [] K = (spec_l03Sweedler N (fun d0 d1 => K (.agg [⟨.i64, 2, d0⟩, ⟨.u8, 1104, d1⟩]) []) p0) := by kernel_rfl

noncomputable def spec_l03Sweedler.en (N : Nat) (ρ : Type) : List AV → Heap → (AV → Heap → Option ρ) → Option ρ
  | [.int .i64 (p0)], [], K => (spec_l03Sweedler N (fun d0 d1 => K (.agg [⟨.i64, 2, d0⟩, ⟨.u8, 1104, d1⟩]) []) p0)
  | _, _, _ => none

theorem spec_l03Sweedler.en_ok (N : Nat) (hE : EnvOk (E4 N) ents) (ρ : Type) (args : List AV) (sh : Heap) (K : AV → Heap → Option ρ) (r : ρ) (h : spec_l03Sweedler.en N ρ args sh K = some r) : ∃ v sh', K v sh' = some r ∧ FnOk (E4 N).P 8 args sh v sh' := by
  unfold spec_l03Sweedler.en at h
  split at h
  · exact fn_ok hE (kp := spec_l03Sweedler.kp) (N := N) Go.Proofs.Try.func8 (c := spec_l03Sweedler.bd) (by kernel_rfl) ((spec_l03Sweedler.eq N _ _).trans h)
  · cases h

noncomputable def E5 (N : Nat) : Env := (E4 N).add 8 (spec_l03Sweedler.en N)

theorem E5_ok (N : Nat) : EnvOk (E5 N) ents := Env.add_ok (E4_ok N) (spec_l03Sweedler.en_ok N (E4_ok N))

noncomputable def spec_SweedlerHopf.kp : Keeps := ⟨[], []⟩

noncomputable def spec_SweedlerHopf.bd : Code := bodyOf Go.Proofs.Try.f4

noncomputable def spec_SweedlerHopf.fin {ρ : Type} (N : Nat) (K : AV → Heap → Option ρ) : XE → St → Option ρ := finK (E5 N) Go.Proofs.Try.f4 [] K

theorem spec_SweedlerHopf.eq {ρ : Type} (N : Nat) (K : AV → Heap → Option ρ) (p0 : Int) :
    xbody (E5 N) ents spec_SweedlerHopf.kp N Go.Proofs.Try.f4 spec_SweedlerHopf.bd [.int .i64 (p0)] [] K = (spec_SweedlerHopf N (fun d0 d1 d2 => K (.tup [.agg [⟨.i64, 2, d0⟩, ⟨.u8, 1104, d1⟩], .int .i64 (d2)]) []) p0) := by kernel_rfl

noncomputable def spec_SweedlerHopf.en (N : Nat) (ρ : Type) : List AV → Heap → (AV → Heap → Option ρ) → Option ρ
  | [.int .i64 (p0)], [], K => (spec_SweedlerHopf N (fun d0 d1 d2 => K (.tup [.agg [⟨.i64, 2, d0⟩, ⟨.u8, 1104, d1⟩], .int .i64 (d2)]) []) p0)
  | _, _, _ => none

theorem spec_SweedlerHopf.en_ok (N : Nat) (hE : EnvOk (E5 N) ents) (ρ : Type) (args : List AV) (sh : Heap) (K : AV → Heap → Option ρ) (r : ρ) (h : spec_SweedlerHopf.en N ρ args sh K = some r) : ∃ v sh', K v sh' = some r ∧ FnOk (E5 N).P 4 args sh v sh' := by
  unfold spec_SweedlerHopf.en at h
  split at h
  · exact fn_ok hE (kp := spec_SweedlerHopf.kp) (N := N) Go.Proofs.Try.func4 (c := spec_SweedlerHopf.bd) (by kernel_rfl) ((spec_SweedlerHopf.eq N _ _).trans h)
  · cases h

noncomputable def E6 (N : Nat) : Env := (E5 N).add 4 (spec_SweedlerHopf.en N)

theorem E6_ok (N : Nat) : EnvOk (E6 N) ents := Env.add_ok (E5_ok N) (spec_SweedlerHopf.en_ok N (E5_ok N))

noncomputable def impl_IsPrime.kp : Keeps := ⟨[(0, [0, 3], 0)], [(0, [], 0)]⟩

noncomputable def impl_IsPrime.bd : Code := bodyOf Go.Proofs.Try.f16

noncomputable def impl_IsPrime.fin {ρ : Type} (N : Nat) (K : AV → Heap → Option ρ) : XE → St → Option ρ := finK (E6 N) Go.Proofs.Try.f16 [] K

noncomputable def impl_IsPrime.k0 {ρ : Type} (N : Nat) (K : AV → Heap → Option ρ) : XE → St → Option ρ := (blockK impl_IsPrime.kp 0 0 (seqK (xcode (E6 N) ents impl_IsPrime.kp 0 N (cB (cB (cB impl_IsPrime.bd))) 0) (impl_IsPrime.fin N K)))

theorem impl_IsPrime.k0_mix {ρ : Type} (N : Nat) (K : AV → Heap → Option ρ) : mixK (impl_IsPrime.fin N K .ret) (impl_IsPrime.k0 N K) = (impl_IsPrime.k0 N K) := by
  funext e s; cases e <;> rfl

noncomputable def impl_IsPrime.st0 (p0 : Int) (k1 : Int) : St := ⟨sl 21 [(0, .int .i64 (p0)), (3, .int .i64 (k1))], []⟩

noncomputable def impl_IsPrime.sx0_0 : St := ⟨sl 21 [], []⟩

theorem impl_IsPrime.b0_gen {ρ : Type} (N : Nat) (K : AV → Heap → Option ρ) (L0 : St → Option ρ) (kv : XE → St → Option ρ) (p0 : Int) (k1 : Int) :
    xcode (E6 N) ents impl_IsPrime.kp 0 N (cL (cK (cB (cA (cB (cB impl_IsPrime.bd)))))) 0 (impl_IsPrime.st0 p0 k1) (roundK impl_IsPrime.kp 0 0 L0 (mixK (impl_IsPrime.fin N K .ret) kv)) = (impl_IsPrime.b0 N (fun d0 => K (.bool (d0)) []) (fun k1 => L0 (impl_IsPrime.st0 p0 k1)) (kv (.exit 0) (impl_IsPrime.sx0_0)) p0 k1) := by kernel_rfl

theorem impl_IsPrime.b0_eq {ρ : Type} (N : Nat) (K : AV → Heap → Option ρ) (L0 : St → Option ρ) (p0 : Int) (k1 : Int) :
    xcode (E6 N) ents impl_IsPrime.kp 0 N (cL (cK (cB (cA (cB (cB impl_IsPrime.bd)))))) 0 (impl_IsPrime.st0 p0 k1) (roundK impl_IsPrime.kp 0 0 L0 (impl_IsPrime.k0 N K)) = (impl_IsPrime.b0 N (fun d0 => K (.bool (d0)) []) (fun k1 => L0 (impl_IsPrime.st0 p0 k1)) ((impl_IsPrime.k0 N K) (.exit 0) (impl_IsPrime.sx0_0)) p0 k1) := by
  have h := impl_IsPrime.b0_gen N K L0 (impl_IsPrime.k0 N K) p0 k1
  rw [impl_IsPrime.k0_mix] at h
  exact h

theorem impl_IsPrime.a0_0_eq {ρ : Type} (N : Nat) (K : AV → Heap → Option ρ) :
    (impl_IsPrime.k0 N K) (.exit 0) (impl_IsPrime.sx0_0) = (impl_IsPrime.a0_0 N (fun d0 => K (.bool (d0)) [])) := by kernel_rfl

theorem impl_IsPrime.l0_eq {ρ : Type} (N : Nat) (K : AV → Heap → Option ρ) (p0 : Int) :
    ∀ (m : Nat) (k1 : Int), xloop (xcode (E6 N) ents impl_IsPrime.kp 0 N (cL (cK (cB (cA (cB (cB impl_IsPrime.bd)))))) 0) impl_IsPrime.kp 0 0 m (impl_IsPrime.st0 p0 k1) (impl_IsPrime.k0 N K) = (impl_IsPrime.l0 N (fun d0 => K (.bool (d0)) []) p0 ((impl_IsPrime.k0 N K) (.exit 0) (impl_IsPrime.sx0_0)) m k1) := by
  intro m
  induction m with
  | zero => intros; rfl
  | succ m ih =>
    intro k1
    refine (impl_IsPrime.b0_eq N K (fun s => xloop (xcode (E6 N) ents impl_IsPrime.kp 0 N (cL (cK (cB (cA (cB (cB impl_IsPrime.bd)))))) 0) impl_IsPrime.kp 0 0 m s (impl_IsPrime.k0 N K)) p0 k1).trans ?_
    simp only [ih]
    kernel_rfl

theorem impl_IsPrime.s_eq {ρ : Type} (N : Nat) (K : AV → Heap → Option ρ) (p0 : Int) :
    xbody (E6 N) ents impl_IsPrime.kp N Go.Proofs.Try.f16 impl_IsPrime.bd [.int .i64 (p0)] [] K = (impl_IsPrime.s N (fun d0 => K (.bool (d0)) []) (fun k1 => xloop (xcode (E6 N) ents impl_IsPrime.kp 0 N (cL (cK (cB (cA (cB (cB impl_IsPrime.bd)))))) 0) impl_IsPrime.kp 0 0 N (impl_IsPrime.st0 p0 k1) (impl_IsPrime.k0 N K)) p0) := by kernel_rfl

theorem impl_IsPrime.eq {ρ : Type} (N : Nat) (K : AV → Heap → Option ρ) (p0 : Int) :
    xbody (E6 N) ents impl_IsPrime.kp N Go.Proofs.Try.f16 impl_IsPrime.bd [.int .i64 (p0)] [] K = (impl_IsPrime N (fun d0 => K (.bool (d0)) []) p0) := by
  refine (impl_IsPrime.s_eq N K p0).trans ?_
  simp only [impl_IsPrime.l0_eq, impl_IsPrime.a0_0_eq]
  kernel_rfl

noncomputable def impl_IsPrime.en (N : Nat) (ρ : Type) : List AV → Heap → (AV → Heap → Option ρ) → Option ρ
  | [.int .i64 (p0)], [], K => (impl_IsPrime N (fun d0 => K (.bool (d0)) []) p0)
  | _, _, _ => none

theorem impl_IsPrime.en_ok (N : Nat) (hE : EnvOk (E6 N) ents) (ρ : Type) (args : List AV) (sh : Heap) (K : AV → Heap → Option ρ) (r : ρ) (h : impl_IsPrime.en N ρ args sh K = some r) : ∃ v sh', K v sh' = some r ∧ FnOk (E6 N).P 16 args sh v sh' := by
  unfold impl_IsPrime.en at h
  split at h
  · exact fn_ok hE (kp := impl_IsPrime.kp) (N := N) Go.Proofs.Try.func16 (c := impl_IsPrime.bd) (by kernel_rfl) ((impl_IsPrime.eq N _ _).trans h)
  · cases h

noncomputable def E7 (N : Nat) : Env := (E6 N).add 16 (impl_IsPrime.en N)

theorem E7_ok (N : Nat) : EnvOk (E7 N) ents := Env.add_ok (E6_ok N) (impl_IsPrime.en_ok N (E6_ok N))

noncomputable def impl_isOdd.kp : Keeps := ⟨[], []⟩

noncomputable def impl_isOdd.bd : Code := bodyOf Go.Proofs.Try.f9

noncomputable def impl_isOdd.fin {ρ : Type} (N : Nat) (K : AV → Heap → Option ρ) : XE → St → Option ρ := finK (E7 N) Go.Proofs.Try.f9 [] K

theorem impl_isOdd.eq {ρ : Type} (N : Nat) (K : AV → Heap → Option ρ) (p0 : Int) :
    xbody (E7 N) ents impl_isOdd.kp N Go.Proofs.Try.f9 impl_isOdd.bd [.int .i64 (p0)] [] K = (impl_isOdd N (fun d0 => K (.bool (d0)) []) p0) := by kernel_rfl

noncomputable def impl_isOdd.en (N : Nat) (ρ : Type) : List AV → Heap → (AV → Heap → Option ρ) → Option ρ
  | [.int .i64 (p0)], [], K => (impl_isOdd N (fun d0 => K (.bool (d0)) []) p0)
  | _, _, _ => none

theorem impl_isOdd.en_ok (N : Nat) (hE : EnvOk (E7 N) ents) (ρ : Type) (args : List AV) (sh : Heap) (K : AV → Heap → Option ρ) (r : ρ) (h : impl_isOdd.en N ρ args sh K = some r) : ∃ v sh', K v sh' = some r ∧ FnOk (E7 N).P 9 args sh v sh' := by
  unfold impl_isOdd.en at h
  split at h
  · exact fn_ok hE (kp := impl_isOdd.kp) (N := N) Go.Proofs.Try.func9 (c := impl_isOdd.bd) (by kernel_rfl) ((impl_isOdd.eq N _ _).trans h)
  · cases h

noncomputable def E8 (N : Nat) : Env := (E7 N).add 9 (impl_isOdd.en N)

theorem E8_ok (N : Nat) : EnvOk (E8 N) ents := Env.add_ok (E7_ok N) (impl_isOdd.en_ok N (E7_ok N))

noncomputable def impl_basis.kp : Keeps := ⟨[], []⟩

noncomputable def impl_basis.bd : Code := bodyOf Go.Proofs.Try.f17

noncomputable def impl_basis.fin {ρ : Type} (N : Nat) (K : AV → Heap → Option ρ) : XE → St → Option ρ := finK (E8 N) Go.Proofs.Try.f17 [] K

theorem impl_basis.eq {ρ : Type} (N : Nat) (K : AV → Heap → Option ρ) (i0 : Int) :
    xbody (E8 N) ents impl_basis.kp N Go.Proofs.Try.f17 impl_basis.bd [.int .i64 (i0)] [] K = (impl_basis N (fun d0 => K (.agg [⟨.u8, 8, d0⟩]) []) i0) := by kernel_rfl

noncomputable def impl_basis.en (N : Nat) (ρ : Type) : List AV → Heap → (AV → Heap → Option ρ) → Option ρ
  | [.int .i64 (i0)], [], K => (impl_basis N (fun d0 => K (.agg [⟨.u8, 8, d0⟩]) []) i0)
  | _, _, _ => none

theorem impl_basis.en_ok (N : Nat) (hE : EnvOk (E8 N) ents) (ρ : Type) (args : List AV) (sh : Heap) (K : AV → Heap → Option ρ) (r : ρ) (h : impl_basis.en N ρ args sh K = some r) : ∃ v sh', K v sh' = some r ∧ FnOk (E8 N).P 17 args sh v sh' := by
  unfold impl_basis.en at h
  split at h
  · exact fn_ok hE (kp := impl_basis.kp) (N := N) Go.Proofs.Try.func17 (c := impl_basis.bd) (by kernel_rfl) ((impl_basis.eq N _ _).trans h)
  · cases h

noncomputable def E9 (N : Nat) : Env := (E8 N).add 17 (impl_basis.en N)

theorem E9_ok (N : Nat) : EnvOk (E9 N) ents := Env.add_ok (E8_ok N) (impl_basis.en_ok N (E8_ok N))

noncomputable def impl_Hopf_field.kp : Keeps := ⟨[], []⟩

noncomputable def impl_Hopf_field.bd : Code := bodyOf Go.Proofs.Try.f18

noncomputable def impl_Hopf_field.fin {ρ : Type} (N : Nat) (K : AV → Heap → Option ρ) (g0 : Nat → Int) (g1 : Nat → Int) : XE → St → Option ρ := finK (E9 N) Go.Proofs.Try.f18 [⟨false, .ints .i64 2 g0⟩, ⟨false, .ints .u8 1104 g1⟩] K

theorem impl_Hopf_field.eq {ρ : Type} (N : Nat) (K : AV → Heap → Option ρ) (g0 : Nat → Int) (g1 : Nat → Int) :
    xbody (E9 N) ents impl_Hopf_field.kp N Go.Proofs.Try.f18 impl_Hopf_field.bd [.sptr [(0, 2), (1, 1104)]] [⟨false, .ints .i64 2 g0⟩, ⟨false, .ints .u8 1104 g1⟩] K = (impl_Hopf_field N (fun d0 => K (.agg [⟨.i64, 2, d0⟩]) [⟨false, .ints .i64 2 g0⟩, ⟨false, .ints .u8 1104 g1⟩]) g0 g1) := by kernel_rfl

noncomputable def impl_Hopf_field.en (N : Nat) (ρ : Type) : List AV → Heap → (AV → Heap → Option ρ) → Option ρ
  | [.sptr [(0, 2), (1, 1104)]], [⟨false, .ints .i64 2 g0⟩, ⟨false, .ints .u8 1104 g1⟩], K => (impl_Hopf_field N (fun d0 => K (.agg [⟨.i64, 2, d0⟩]) [⟨false, .ints .i64 2 g0⟩, ⟨false, .ints .u8 1104 g1⟩]) g0 g1)
  | _, _, _ => none

theorem impl_Hopf_field.en_ok (N : Nat) (hE : EnvOk (E9 N) ents) (ρ : Type) (args : List AV) (sh : Heap) (K : AV → Heap → Option ρ) (r : ρ) (h : impl_Hopf_field.en N ρ args sh K = some r) : ∃ v sh', K v sh' = some r ∧ FnOk (E9 N).P 18 args sh v sh' := by
  unfold impl_Hopf_field.en at h
  split at h
  · exact fn_ok hE (kp := impl_Hopf_field.kp) (N := N) Go.Proofs.Try.func18 (c := impl_Hopf_field.bd) (by kernel_rfl) ((impl_Hopf_field.eq N _ _ _).trans h)
  · cases h

noncomputable def E10 (N : Nat) : Env := (E9 N).add 18 (impl_Hopf_field.en N)

theorem E10_ok (N : Nat) : EnvOk (E10 N) ents := Env.add_ok (E9_ok N) (impl_Hopf_field.en_ok N (E9_ok N))

noncomputable def impl_word.kp : Keeps := ⟨[], []⟩

noncomputable def impl_word.bd : Code := bodyOf Go.Proofs.Try.f19

noncomputable def impl_word.fin {ρ : Type} (N : Nat) (K : AV → Heap → Option ρ) : XE → St → Option ρ := finK (E10 N) Go.Proofs.Try.f19 [] K

theorem impl_word.eq {ρ : Type} (N : Nat) (K : AV → Heap → Option ρ) (m0 : Int) (n1 : Int) :
    xbody (E10 N) ents impl_word.kp N Go.Proofs.Try.f19 impl_word.bd [.int .i64 (m0), .int .i64 (n1)] [] K = (impl_word N (fun d0 d1 => K (.tup [.int .i64 (d0), .int .i64 (d1)]) []) m0 n1) := by kernel_rfl

noncomputable def impl_word.en (N : Nat) (ρ : Type) : List AV → Heap → (AV → Heap → Option ρ) → Option ρ
  | [.int .i64 (m0), .int .i64 (n1)], [], K => (impl_word N (fun d0 d1 => K (.tup [.int .i64 (d0), .int .i64 (d1)]) []) m0 n1)
  | _, _, _ => none

theorem impl_word.en_ok (N : Nat) (hE : EnvOk (E10 N) ents) (ρ : Type) (args : List AV) (sh : Heap) (K : AV → Heap → Option ρ) (r : ρ) (h : impl_word.en N ρ args sh K = some r) : ∃ v sh', K v sh' = some r ∧ FnOk (E10 N).P 19 args sh v sh' := by
  unfold impl_word.en at h
  split at h
  · exact fn_ok hE (kp := impl_word.kp) (N := N) Go.Proofs.Try.func19 (c := impl_word.bd) (by kernel_rfl) ((impl_word.eq N _ _ _).trans h)
  · cases h

noncomputable def E11 (N : Nat) : Env := (E10 N).add 19 (impl_word.en N)

theorem E11_ok (N : Nat) : EnvOk (E11 N) ents := Env.add_ok (E10_ok N) (impl_word.en_ok N (E10_ok N))

noncomputable def impl_field_mod.kp : Keeps := ⟨[], []⟩

noncomputable def impl_field_mod.bd : Code := bodyOf Go.Proofs.Try.f29

noncomputable def impl_field_mod.fin {ρ : Type} (N : Nat) (K : AV → Heap → Option ρ) : XE → St → Option ρ := finK (E11 N) Go.Proofs.Try.f29 [] K

theorem impl_field_mod.eq {ρ : Type} (N : Nat) (K : AV → Heap → Option ρ) (f0 : Nat → Int) (x1 : Int) :
    xbody (E11 N) ents impl_field_mod.kp N Go.Proofs.Try.f29 impl_field_mod.bd [.agg [⟨.i64, 2, f0⟩], .int .i64 (x1)] [] K = (impl_field_mod N (fun d0 => K (.int .u8 (d0)) []) f0 x1) := by kernel_rfl

noncomputable def impl_field_mod.en (N : Nat) (ρ : Type) : List AV → Heap → (AV → Heap → Option ρ) → Option ρ
  | [.agg [⟨.i64, 2, f0⟩], .int .i64 (x1)], [], K => (impl_field_mod N (fun d0 => K (.int .u8 (d0)) []) f0 x1)
  | _, _, _ => none

theorem impl_field_mod.en_ok (N : Nat) (hE : EnvOk (E11 N) ents) (ρ : Type) (args : List AV) (sh : Heap) (K : AV → Heap → Option ρ) (r : ρ) (h : impl_field_mod.en N ρ args sh K = some r) : ∃ v sh', K v sh' = some r ∧ FnOk (E11 N).P 29 args sh v sh' := by
  unfold impl_field_mod.en at h
  split at h
  · exact fn_ok hE (kp := impl_field_mod.kp) (N := N) Go.Proofs.Try.func29 (c := impl_field_mod.bd) (by kernel_rfl) ((impl_field_mod.eq N _ _ _).trans h)
  · cases h

noncomputable def E12 (N : Nat) : Env := (E11 N).add 29 (impl_field_mod.en N)

theorem E12_ok (N : Nat) : EnvOk (E12 N) ents := Env.add_ok (E11_ok N) (impl_field_mod.en_ok N (E11_ok N))

noncomputable def impl_field_plus.kp : Keeps := ⟨[(0, [1, 2, 4, 12, 13], 3)], [(0, [], 3)]⟩

noncomputable def impl_field_plus.bd : Code := bodyOf Go.Proofs.Try.f25

noncomputable def impl_field_plus.fin {ρ : Type} (N : Nat) (K : AV → Heap → Option ρ) (g3 : Nat → Int) : XE → St → Option ρ := finK (E12 N) Go.Proofs.Try.f25 [⟨true, .ints .u8 8 g3⟩] K

noncomputable def impl_field_plus.k0 {ρ : Type} (N : Nat) (K : AV → Heap → Option ρ) (g3 : Nat → Int) : XE → St → Option ρ := (blockK impl_field_plus.kp 1 0 (impl_field_plus.fin N K g3))

theorem impl_field_plus.k0_mix {ρ : Type} (N : Nat) (K : AV → Heap → Option ρ) (g3 : Nat → Int) : mixK (impl_field_plus.fin N K g3 .ret) (impl_field_plus.k0 N K g3) = (impl_field_plus.k0 N K g3) := by
  funext e s; cases e <;> rfl

noncomputable def impl_field_plus.st0 (f0 : Nat → Int) (k1 : Int) (w2 : Nat → Int) (x4 : Int) (g5 : Nat → Int) : St := ⟨sl 35 [(1, .sptr [(0, 8)]), (2, .int .i64 (k1)), (4, .sptr [(1, 2)]), (12, .agg [⟨.u8, 8, w2⟩]), (13, .int .i64 (x4))], [⟨true, .ints .u8 8 g5⟩, ⟨true, .ints .i64 2 f0⟩, ⟨true, .ints .u8 8 w2⟩]⟩

noncomputable def impl_field_plus.sx0_0 (f0 : Nat → Int) (w2 : Nat → Int) (o7 : Nat → Int) : St := ⟨sl 35 [], [⟨true, .ints .u8 8 o7⟩, ⟨true, .ints .i64 2 f0⟩, ⟨true, .ints .u8 8 w2⟩]⟩

theorem impl_field_plus.b0_gen {ρ : Type} (N : Nat) (K : AV → Heap → Option ρ) (L0 : St → Option ρ) (kv : XE → St → Option ρ) (f0 : Nat → Int) (k1 : Int) (w2 : Nat → Int) (g3 : Nat → Int) (x4 : Int) (g5 : Nat → Int) :
    xcode (E12 N) ents impl_field_plus.kp 1 N (cL (cK (cB (cB (cB impl_field_plus.bd))))) 0 (impl_field_plus.st0 f0 k1 w2 x4 g5) (roundK impl_field_plus.kp 1 0 L0 (mixK (impl_field_plus.fin N K g3 .ret) kv)) = (impl_field_plus.b0 N (fun d0 => K (.tup []) [⟨true, .ints .u8 8 d0⟩]) (fun x4 g5 => L0 (impl_field_plus.st0 f0 k1 w2 x4 g5)) (fun o7 => kv (.exit 0) (impl_field_plus.sx0_0 f0 w2 o7)) f0 k1 w2 x4 g5) := by kernel_rfl

theorem impl_field_plus.b0_eq {ρ : Type} (N : Nat) (K : AV → Heap → Option ρ) (L0 : St → Option ρ) (f0 : Nat → Int) (k1 : Int) (w2 : Nat → Int) (g3 : Nat → Int) (x4 : Int) (g5 : Nat → Int) :
    xcode (E12 N) ents impl_field_plus.kp 1 N (cL (cK (cB (cB (cB impl_field_plus.bd))))) 0 (impl_field_plus.st0 f0 k1 w2 x4 g5) (roundK impl_field_plus.kp 1 0 L0 (impl_field_plus.k0 N K g3)) = (impl_field_plus.b0 N (fun d0 => K (.tup []) [⟨true, .ints .u8 8 d0⟩]) (fun x4 g5 => L0 (impl_field_plus.st0 f0 k1 w2 x4 g5)) (fun o7 => (impl_field_plus.k0 N K g3) (.exit 0) (impl_field_plus.sx0_0 f0 w2 o7)) f0 k1 w2 x4 g5) := by
  have h := impl_field_plus.b0_gen N K L0 (impl_field_plus.k0 N K g3) f0 k1 w2 g3 x4 g5
  rw [impl_field_plus.k0_mix] at h
  exact h

theorem impl_field_plus.a0_0_eq {ρ : Type} (N : Nat) (K : AV → Heap → Option ρ) (f0 : Nat → Int) (w2 : Nat → Int) (g3 : Nat → Int) (o7 : Nat → Int) :
    (impl_field_plus.k0 N K g3) (.exit 0) (impl_field_plus.sx0_0 f0 w2 o7) = (impl_field_plus.a0_0 N (fun d0 => K (.tup []) [⟨true, .ints .u8 8 d0⟩]) o7) := by kernel_rfl

theorem impl_field_plus.l0_eq {ρ : Type} (N : Nat) (K : AV → Heap → Option ρ) (f0 : Nat → Int) (k1 : Int) (w2 : Nat → Int) (g3 : Nat → Int) :
    ∀ (m : Nat) (x4 : Int) (g5 : Nat → Int), xloop (xcode (E12 N) ents impl_field_plus.kp 1 N (cL (cK (cB (cB (cB impl_field_plus.bd))))) 0) impl_field_plus.kp 1 0 m (impl_field_plus.st0 f0 k1 w2 x4 g5) (impl_field_plus.k0 N K g3) = (impl_field_plus.l0 N (fun d0 => K (.tup []) [⟨true, .ints .u8 8 d0⟩]) f0 k1 w2 (fun o7 => (impl_field_plus.k0 N K g3) (.exit 0) (impl_field_plus.sx0_0 f0 w2 o7)) m x4 g5) := by
  intro m
  induction m with
  | zero => intros; rfl
  | succ m ih =>
    intro x4 g5
    refine (impl_field_plus.b0_eq N K (fun s => xloop (xcode (E12 N) ents impl_field_plus.kp 1 N (cL (cK (cB (cB (cB impl_field_plus.bd))))) 0) impl_field_plus.kp 1 0 m s (impl_field_plus.k0 N K g3)) f0 k1 w2 g3 x4 g5).trans ?_
    simp only [ih]
    kernel_rfl

theorem impl_field_plus.s_eq {ρ : Type} (N : Nat) (K : AV → Heap → Option ρ) (f0 : Nat → Int) (k1 : Int) (w2 : Nat → Int) (g3 : Nat → Int) :
    xbody (E12 N) ents impl_field_plus.kp N Go.Proofs.Try.f25 impl_field_plus.bd [.agg [⟨.i64, 2, f0⟩], .sptr [(0, 8)], .int .i64 (k1), .agg [⟨.u8, 8, w2⟩]] [⟨true, .ints .u8 8 g3⟩] K = (impl_field_plus.s N (fun d0 => K (.tup []) [⟨true, .ints .u8 8 d0⟩]) (fun x4 g5 => xloop (xcode (E12 N) ents impl_field_plus.kp 1 N (cL (cK (cB (cB (cB impl_field_plus.bd))))) 0) impl_field_plus.kp 1 0 N (impl_field_plus.st0 f0 k1 w2 x4 g5) (impl_field_plus.k0 N K g3)) k1 g3) := by kernel_rfl

theorem impl_field_plus.eq {ρ : Type} (N : Nat) (K : AV → Heap → Option ρ) (f0 : Nat → Int) (k1 : Int) (w2 : Nat → Int) (g3 : Nat → Int) :
    xbody (E12 N) ents impl_field_plus.kp N Go.Proofs.Try.f25 impl_field_plus.bd [.agg [⟨.i64, 2, f0⟩], .sptr [(0, 8)], .int .i64 (k1), .agg [⟨.u8, 8, w2⟩]] [⟨true, .ints .u8 8 g3⟩] K = (impl_field_plus N (fun d0 => K (.tup []) [⟨true, .ints .u8 8 d0⟩]) f0 k1 w2 g3) := by
  refine (impl_field_plus.s_eq N K f0 k1 w2 g3).trans ?_
  simp only [impl_field_plus.l0_eq, impl_field_plus.a0_0_eq]
  kernel_rfl

noncomputable def impl_field_plus.en (N : Nat) (ρ : Type) : List AV → Heap → (AV → Heap → Option ρ) → Option ρ
  | [.agg [⟨.i64, 2, f0⟩], .sptr [(0, 8)], .int .i64 (k1), .agg [⟨.u8, 8, w2⟩]], [⟨true, .ints .u8 8 g3⟩], K => (impl_field_plus N (fun d0 => K (.tup []) [⟨true, .ints .u8 8 d0⟩]) f0 k1 w2 g3)
  | _, _, _ => none

theorem impl_field_plus.en_ok (N : Nat) (hE : EnvOk (E12 N) ents) (ρ : Type) (args : List AV) (sh : Heap) (K : AV → Heap → Option ρ) (r : ρ) (h : impl_field_plus.en N ρ args sh K = some r) : ∃ v sh', K v sh' = some r ∧ FnOk (E12 N).P 25 args sh v sh' := by
  unfold impl_field_plus.en at h
  split at h
  · exact fn_ok hE (kp := impl_field_plus.kp) (N := N) Go.Proofs.Try.func25 (c := impl_field_plus.bd) (by kernel_rfl) ((impl_field_plus.eq N _ _ _ _ _).trans h)
  · cases h

noncomputable def E13 (N : Nat) : Env := (E12 N).add 25 (impl_field_plus.en N)

theorem E13_ok (N : Nat) : EnvOk (E13 N) ents := Env.add_ok (E12_ok N) (impl_field_plus.en_ok N (E12_ok N))

noncomputable def impl_field_times.kp : Keeps := ⟨[], []⟩

noncomputable def impl_field_times.bd : Code := bodyOf Go.Proofs.Try.f20

noncomputable def impl_field_times.fin {ρ : Type} (N : Nat) (K : AV → Heap → Option ρ) : XE → St → Option ρ := finK (E13 N) Go.Proofs.Try.f20 [] K

theorem impl_field_times.eq {ρ : Type} (N : Nat) (K : AV → Heap → Option ρ) (f0 : Nat → Int) (k1 : Int) (w2 : Nat → Int) :
    xbody (E13 N) ents impl_field_times.kp N Go.Proofs.Try.f20 impl_field_times.bd [.agg [⟨.i64, 2, f0⟩], .int .i64 (k1), .agg [⟨.u8, 8, w2⟩]] [] K = (impl_field_times N (fun d0 => K (.agg [⟨.u8, 8, d0⟩]) []) f0 k1 w2) := by kernel_rfl

noncomputable def impl_field_times.en (N : Nat) (ρ : Type) : List AV → Heap → (AV → Heap → Option ρ) → Option ρ
  | [.agg [⟨.i64, 2, f0⟩], .int .i64 (k1), .agg [⟨.u8, 8, w2⟩]], [], K => (impl_field_times N (fun d0 => K (.agg [⟨.u8, 8, d0⟩]) []) f0 k1 w2)
  | _, _, _ => none

theorem impl_field_times.en_ok (N : Nat) (hE : EnvOk (E13 N) ents) (ρ : Type) (args : List AV) (sh : Heap) (K : AV → Heap → Option ρ) (r : ρ) (h : impl_field_times.en N ρ args sh K = some r) : ∃ v sh', K v sh' = some r ∧ FnOk (E13 N).P 20 args sh v sh' := by
  unfold impl_field_times.en at h
  split at h
  · exact fn_ok hE (kp := impl_field_times.kp) (N := N) Go.Proofs.Try.func20 (c := impl_field_times.bd) (by kernel_rfl) ((impl_field_times.eq N _ _ _ _).trans h)
  · cases h

noncomputable def E14 (N : Nat) : Env := (E13 N).add 20 (impl_field_times.en N)

theorem E14_ok (N : Nat) : EnvOk (E14 N) ents := Env.add_ok (E13_ok N) (impl_field_times.en_ok N (E13_ok N))

noncomputable def impl_field_pair.kp : Keeps := ⟨[(0, [3, 5, 6, 7, 11, 12], 5)], [(0, [6, 7], 5)]⟩

noncomputable def impl_field_pair.bd : Code := bodyOf Go.Proofs.Try.f21

noncomputable def impl_field_pair.fin {ρ : Type} (N : Nat) (K : AV → Heap → Option ρ) : XE → St → Option ρ := finK (E14 N) Go.Proofs.Try.f21 [] K

noncomputable def impl_field_pair.k0 {ρ : Type} (N : Nat) (K : AV → Heap → Option ρ) : XE → St → Option ρ := (blockK impl_field_pair.kp 0 0 (seqK (xcode (E14 N) ents impl_field_pair.kp 0 N (cB (cB (cB impl_field_pair.bd))) 0) (impl_field_pair.fin N K)))

theorem impl_field_pair.k0_mix {ρ : Type} (N : Nat) (K : AV → Heap → Option ρ) : mixK (impl_field_pair.fin N K .ret) (impl_field_pair.k0 N K) = (impl_field_pair.k0 N K) := by
  funext e s; cases e <;> rfl

noncomputable def impl_field_pair.st0 (f0 : Nat → Int) (v1 : Nat → Int) (w2 : Nat → Int) (x3 : Int) (g4 : Nat → Int) : St := ⟨sl 25 [(3, .sptr [(0, 2)]), (5, .sptr [(2, 8)]), (6, .sptr [(3, 64)]), (7, .sptr [(4, 64)]), (11, .agg [⟨.u8, 8, v1⟩]), (12, .int .i64 (x3))], [⟨true, .ints .i64 2 f0⟩, ⟨true, .ints .u8 8 v1⟩, ⟨true, .ints .u8 8 w2⟩, ⟨true, .ints .u8 64 (fun _ => 0)⟩, ⟨true, .ints .u8 64 g4⟩]⟩

noncomputable def impl_field_pair.sx0_0 (f0 : Nat → Int) (v1 : Nat → Int) (w2 : Nat → Int) (o6 : Nat → Int) : St := ⟨sl 25 [(6, .sptr [(3, 64)]), (7, .sptr [(4, 64)])], [⟨true, .ints .i64 2 f0⟩, ⟨true, .ints .u8 8 v1⟩, ⟨true, .ints .u8 8 w2⟩, ⟨true, .ints .u8 64 (fun _ => 0)⟩, ⟨true, .ints .u8 64 o6⟩]⟩

theorem impl_field_pair.b0_gen {ρ : Type} (N : Nat) (K : AV → Heap → Option ρ) (L0 : St → Option ρ) (kv : XE → St → Option ρ) (f0 : Nat → Int) (v1 : Nat → Int) (w2 : Nat → Int) (x3 : Int) (g4 : Nat → Int) :
    xcode (E14 N) ents impl_field_pair.kp 0 N (cL (cK (cB (cA (cB (cB impl_field_pair.bd)))))) 0 (impl_field_pair.st0 f0 v1 w2 x3 g4) (roundK impl_field_pair.kp 0 0 L0 (mixK (impl_field_pair.fin N K .ret) kv)) = (impl_field_pair.b0 N (fun d0 => K (.agg [⟨.u8, 64, d0⟩]) []) (fun x3 g4 => L0 (impl_field_pair.st0 f0 v1 w2 x3 g4)) (fun o6 => kv (.exit 0) (impl_field_pair.sx0_0 f0 v1 w2 o6)) f0 v1 w2 x3 g4) := by kernel_rfl

theorem impl_field_pair.b0_eq {ρ : Type} (N : Nat) (K : AV → Heap → Option ρ) (L0 : St → Option ρ) (f0 : Nat → Int) (v1 : Nat → Int) (w2 : Nat → Int) (x3 : Int) (g4 : Nat → Int) :
    xcode (E14 N) ents impl_field_pair.kp 0 N (cL (cK (cB (cA (cB (cB impl_field_pair.bd)))))) 0 (impl_field_pair.st0 f0 v1 w2 x3 g4) (roundK impl_field_pair.kp 0 0 L0 (impl_field_pair.k0 N K)) = (impl_field_pair.b0 N (fun d0 => K (.agg [⟨.u8, 64, d0⟩]) []) (fun x3 g4 => L0 (impl_field_pair.st0 f0 v1 w2 x3 g4)) (fun o6 => (impl_field_pair.k0 N K) (.exit 0) (impl_field_pair.sx0_0 f0 v1 w2 o6)) f0 v1 w2 x3 g4) := by
  have h := impl_field_pair.b0_gen N K L0 (impl_field_pair.k0 N K) f0 v1 w2 x3 g4
  rw [impl_field_pair.k0_mix] at h
  exact h

theorem impl_field_pair.a0_0_eq {ρ : Type} (N : Nat) (K : AV → Heap → Option ρ) (f0 : Nat → Int) (v1 : Nat → Int) (w2 : Nat → Int) (o6 : Nat → Int) :
    (impl_field_pair.k0 N K) (.exit 0) (impl_field_pair.sx0_0 f0 v1 w2 o6) = (impl_field_pair.a0_0 N (fun d0 => K (.agg [⟨.u8, 64, d0⟩]) []) o6) := by kernel_rfl

theorem impl_field_pair.l0_eq {ρ : Type} (N : Nat) (K : AV → Heap → Option ρ) (f0 : Nat → Int) (v1 : Nat → Int) (w2 : Nat → Int) :
    ∀ (m : Nat) (x3 : Int) (g4 : Nat → Int), xloop (xcode (E14 N) ents impl_field_pair.kp 0 N (cL (cK (cB (cA (cB (cB impl_field_pair.bd)))))) 0) impl_field_pair.kp 0 0 m (impl_field_pair.st0 f0 v1 w2 x3 g4) (impl_field_pair.k0 N K) = (impl_field_pair.l0 N (fun d0 => K (.agg [⟨.u8, 64, d0⟩]) []) f0 v1 w2 (fun o6 => (impl_field_pair.k0 N K) (.exit 0) (impl_field_pair.sx0_0 f0 v1 w2 o6)) m x3 g4) := by
  intro m
  induction m with
  | zero => intros; rfl
  | succ m ih =>
    intro x3 g4
    refine (impl_field_pair.b0_eq N K (fun s => xloop (xcode (E14 N) ents impl_field_pair.kp 0 N (cL (cK (cB (cA (cB (cB impl_field_pair.bd)))))) 0) impl_field_pair.kp 0 0 m s (impl_field_pair.k0 N K)) f0 v1 w2 x3 g4).trans ?_
    simp only [ih]
    kernel_rfl

theorem impl_field_pair.s_eq {ρ : Type} (N : Nat) (K : AV → Heap → Option ρ) (f0 : Nat → Int) (v1 : Nat → Int) (w2 : Nat → Int) :
    xbody (E14 N) ents impl_field_pair.kp N Go.Proofs.Try.f21 impl_field_pair.bd [.agg [⟨.i64, 2, f0⟩], .agg [⟨.u8, 8, v1⟩], .agg [⟨.u8, 8, w2⟩]] [] K = (impl_field_pair.s N (fun d0 => K (.agg [⟨.u8, 64, d0⟩]) []) (fun x3 g4 => xloop (xcode (E14 N) ents impl_field_pair.kp 0 N (cL (cK (cB (cA (cB (cB impl_field_pair.bd)))))) 0) impl_field_pair.kp 0 0 N (impl_field_pair.st0 f0 v1 w2 x3 g4) (impl_field_pair.k0 N K))) := by kernel_rfl

theorem impl_field_pair.eq {ρ : Type} (N : Nat) (K : AV → Heap → Option ρ) (f0 : Nat → Int) (v1 : Nat → Int) (w2 : Nat → Int) :
    xbody (E14 N) ents impl_field_pair.kp N Go.Proofs.Try.f21 impl_field_pair.bd [.agg [⟨.i64, 2, f0⟩], .agg [⟨.u8, 8, v1⟩], .agg [⟨.u8, 8, w2⟩]] [] K = (impl_field_pair N (fun d0 => K (.agg [⟨.u8, 64, d0⟩]) []) f0 v1 w2) := by
  refine (impl_field_pair.s_eq N K f0 v1 w2).trans ?_
  simp only [impl_field_pair.l0_eq, impl_field_pair.a0_0_eq]
  kernel_rfl

noncomputable def impl_field_pair.en (N : Nat) (ρ : Type) : List AV → Heap → (AV → Heap → Option ρ) → Option ρ
  | [.agg [⟨.i64, 2, f0⟩], .agg [⟨.u8, 8, v1⟩], .agg [⟨.u8, 8, w2⟩]], [], K => (impl_field_pair N (fun d0 => K (.agg [⟨.u8, 64, d0⟩]) []) f0 v1 w2)
  | _, _, _ => none

theorem impl_field_pair.en_ok (N : Nat) (hE : EnvOk (E14 N) ents) (ρ : Type) (args : List AV) (sh : Heap) (K : AV → Heap → Option ρ) (r : ρ) (h : impl_field_pair.en N ρ args sh K = some r) : ∃ v sh', K v sh' = some r ∧ FnOk (E14 N).P 21 args sh v sh' := by
  unfold impl_field_pair.en at h
  split at h
  · exact fn_ok hE (kp := impl_field_pair.kp) (N := N) Go.Proofs.Try.func21 (c := impl_field_pair.bd) (by kernel_rfl) ((impl_field_pair.eq N _ _ _ _).trans h)
  · cases h

noncomputable def E15 (N : Nat) : Env := (E14 N).add 21 (impl_field_pair.en N)

theorem E15_ok (N : Nat) : EnvOk (E15 N) ents := Env.add_ok (E14_ok N) (impl_field_pair.en_ok N (E14_ok N))

noncomputable def impl_Hopf_tensor_c1_c1.kp : Keeps := ⟨[(0, [1, 2, 3, 5, 6, 7, 8, 21, 22], 8)], [(0, [], 8)]⟩

noncomputable def impl_Hopf_tensor_c1_c1.bd : Code := bodyOf Go.Proofs.Try.f28

noncomputable def impl_Hopf_tensor_c1_c1.fin {ρ : Type} (N : Nat) (K : AV → Heap → Option ρ) (g3 : Nat → Int) (g4 : Nat → Int) (g5 : Nat → Int) (g6 : Nat → Int) (g7 : Nat → Int) (g8 : Nat → Int) (g9 : Nat → Int) : XE → St → Option ρ := finK (E15 N) Go.Proofs.Try.f28 [⟨false, .avs [.sptr [(6, 2), (7, 1104)]]⟩, ⟨false, .ints .i64 1 g3⟩, ⟨false, .ints .i64 2 g4⟩, ⟨true, .ints .u8 64 g5⟩, ⟨false, .ints .i64 1 g6⟩, ⟨false, .ints .i64 1 g7⟩, ⟨false, .ints .i64 2 g8⟩, ⟨false, .ints .u8 1104 g9⟩] K

noncomputable def impl_Hopf_tensor_c1_c1.k0 {ρ : Type} (N : Nat) (K : AV → Heap → Option ρ) (g3 : Nat → Int) (g4 : Nat → Int) (g5 : Nat → Int) (g6 : Nat → Int) (g7 : Nat → Int) (g8 : Nat → Int) (g9 : Nat → Int) : XE → St → Option ρ := (blockK impl_Hopf_tensor_c1_c1.kp 8 0 (impl_Hopf_tensor_c1_c1.fin N K g3 g4 g5 g6 g7 g8 g9))

theorem impl_Hopf_tensor_c1_c1.k0_mix {ρ : Type} (N : Nat) (K : AV → Heap → Option ρ) (g3 : Nat → Int) (g4 : Nat → Int) (g5 : Nat → Int) (g6 : Nat → Int) (g7 : Nat → Int) (g8 : Nat → Int) (g9 : Nat → Int) : mixK (impl_Hopf_tensor_c1_c1.fin N K g3 g4 g5 g6 g7 g8 g9 .ret) (impl_Hopf_tensor_c1_c1.k0 N K g3 g4 g5 g6 g7 g8 g9) = (impl_Hopf_tensor_c1_c1.k0 N K g3 g4 g5 g6 g7 g8 g9) := by
  funext e s; cases e <;> rfl

noncomputable def impl_Hopf_tensor_c1_c1.st0 (l0 : Int) (m1 : Int) (y2 : Int) (g3 : Nat → Int) (g4 : Nat → Int) (g6 : Nat → Int) (g7 : Nat → Int) (g8 : Nat → Int) (g9 : Nat → Int) (x10 : Int) (g11 : Nat → Int) : St := ⟨sl 48 [(1, .int .i64 (m1)), (2, .int .i64 (y2)), (3, .sptr [(0, 1)]), (5, .sptr [(2, 2)]), (6, .sptr [(3, 64)]), (7, .sptr [(4, 1)]), (8, .sptr [(5, 1)]), (21, .agg [⟨.u8, 8, (fun z => (g9 (((8 + (((g3 0)).toNat * 64)) + (l0.toNat * 8)) + z)))⟩]), (22, .int .i64 (x10))], [⟨false, .avs [.sptr [(6, 2), (7, 1104)]]⟩, ⟨false, .ints .i64 1 g3⟩, ⟨false, .ints .i64 2 g4⟩, ⟨true, .ints .u8 64 g11⟩, ⟨false, .ints .i64 1 g6⟩, ⟨false, .ints .i64 1 g7⟩, ⟨false, .ints .i64 2 g8⟩, ⟨false, .ints .u8 1104 g9⟩]⟩

noncomputable def impl_Hopf_tensor_c1_c1.sx0_0 (g3 : Nat → Int) (g4 : Nat → Int) (g6 : Nat → Int) (g7 : Nat → Int) (g8 : Nat → Int) (g9 : Nat → Int) (o13 : Nat → Int) : St := ⟨sl 48 [], [⟨false, .avs [.sptr [(6, 2), (7, 1104)]]⟩, ⟨false, .ints .i64 1 g3⟩, ⟨false, .ints .i64 2 g4⟩, ⟨true, .ints .u8 64 o13⟩, ⟨false, .ints .i64 1 g6⟩, ⟨false, .ints .i64 1 g7⟩, ⟨false, .ints .i64 2 g8⟩, ⟨false, .ints .u8 1104 g9⟩]⟩

theorem impl_Hopf_tensor_c1_c1.b0_gen {ρ : Type} (N : Nat) (K : AV → Heap → Option ρ) (L0 : St → Option ρ) (kv : XE → St → Option ρ) (l0 : Int) (m1 : Int) (y2 : Int) (g3 : Nat → Int) (g4 : Nat → Int) (g5 : Nat → Int) (g6 : Nat → Int) (g7 : Nat → Int) (g8 : Nat → Int) (g9 : Nat → Int) (x10 : Int) (g11 : Nat → Int) :
    xcode (E15 N) ents impl_Hopf_tensor_c1_c1.kp 8 N (cL (cK (cB impl_Hopf_tensor_c1_c1.bd))) 0 (impl_Hopf_tensor_c1_c1.st0 l0 m1 y2 g3 g4 g6 g7 g8 g9 x10 g11) (roundK impl_Hopf_tensor_c1_c1.kp 8 0 L0 (mixK (impl_Hopf_tensor_c1_c1.fin N K g3 g4 g5 g6 g7 g8 g9 .ret) kv)) = (impl_Hopf_tensor_c1_c1.b0 N (fun d0 => K (.tup []) [⟨false, .avs [.sptr [(6, 2), (7, 1104)]]⟩, ⟨false, .ints .i64 1 g3⟩, ⟨false, .ints .i64 2 g4⟩, ⟨true, .ints .u8 64 d0⟩, ⟨false, .ints .i64 1 g6⟩, ⟨false, .ints .i64 1 g7⟩, ⟨false, .ints .i64 2 g8⟩, ⟨false, .ints .u8 1104 g9⟩]) (fun x10 g11 => L0 (impl_Hopf_tensor_c1_c1.st0 l0 m1 y2 g3 g4 g6 g7 g8 g9 x10 g11)) (fun o13 => kv (.exit 0) (impl_Hopf_tensor_c1_c1.sx0_0 g3 g4 g6 g7 g8 g9 o13)) l0 m1 y2 g3 g4 g6 g7 g9 x10 g11) := by kernel_rfl

theorem impl_Hopf_tensor_c1_c1.b0_eq {ρ : Type} (N : Nat) (K : AV → Heap → Option ρ) (L0 : St → Option ρ) (l0 : Int) (m1 : Int) (y2 : Int) (g3 : Nat → Int) (g4 : Nat → Int) (g5 : Nat → Int) (g6 : Nat → Int) (g7 : Nat → Int) (g8 : Nat → Int) (g9 : Nat → Int) (x10 : Int) (g11 : Nat → Int) :
    xcode (E15 N) ents impl_Hopf_tensor_c1_c1.kp 8 N (cL (cK (cB impl_Hopf_tensor_c1_c1.bd))) 0 (impl_Hopf_tensor_c1_c1.st0 l0 m1 y2 g3 g4 g6 g7 g8 g9 x10 g11) (roundK impl_Hopf_tensor_c1_c1.kp 8 0 L0 (impl_Hopf_tensor_c1_c1.k0 N K g3 g4 g5 g6 g7 g8 g9)) = (impl_Hopf_tensor_c1_c1.b0 N (fun d0 => K (.tup []) [⟨false, .avs [.sptr [(6, 2), (7, 1104)]]⟩, ⟨false, .ints .i64 1 g3⟩, ⟨false, .ints .i64 2 g4⟩, ⟨true, .ints .u8 64 d0⟩, ⟨false, .ints .i64 1 g6⟩, ⟨false, .ints .i64 1 g7⟩, ⟨false, .ints .i64 2 g8⟩, ⟨false, .ints .u8 1104 g9⟩]) (fun x10 g11 => L0 (impl_Hopf_tensor_c1_c1.st0 l0 m1 y2 g3 g4 g6 g7 g8 g9 x10 g11)) (fun o13 => (impl_Hopf_tensor_c1_c1.k0 N K g3 g4 g5 g6 g7 g8 g9) (.exit 0) (impl_Hopf_tensor_c1_c1.sx0_0 g3 g4 g6 g7 g8 g9 o13)) l0 m1 y2 g3 g4 g6 g7 g9 x10 g11) := by
  have h := impl_Hopf_tensor_c1_c1.b0_gen N K L0 (impl_Hopf_tensor_c1_c1.k0 N K g3 g4 g5 g6 g7 g8 g9) l0 m1 y2 g3 g4 g5 g6 g7 g8 g9 x10 g11
  rw [impl_Hopf_tensor_c1_c1.k0_mix] at h
  exact h

theorem impl_Hopf_tensor_c1_c1.a0_0_eq {ρ : Type} (N : Nat) (K : AV → Heap → Option ρ) (g3 : Nat → Int) (g4 : Nat → Int) (g5 : Nat → Int) (g6 : Nat → Int) (g7 : Nat → Int) (g8 : Nat → Int) (g9 : Nat → Int) (o13 : Nat → Int) :
    (impl_Hopf_tensor_c1_c1.k0 N K g3 g4 g5 g6 g7 g8 g9) (.exit 0) (impl_Hopf_tensor_c1_c1.sx0_0 g3 g4 g6 g7 g8 g9 o13) = (impl_Hopf_tensor_c1_c1.a0_0 N (fun d0 => K (.tup []) [⟨false, .avs [.sptr [(6, 2), (7, 1104)]]⟩, ⟨false, .ints .i64 1 g3⟩, ⟨false, .ints .i64 2 g4⟩, ⟨true, .ints .u8 64 d0⟩, ⟨false, .ints .i64 1 g6⟩, ⟨false, .ints .i64 1 g7⟩, ⟨false, .ints .i64 2 g8⟩, ⟨false, .ints .u8 1104 g9⟩]) o13) := by kernel_rfl

theorem impl_Hopf_tensor_c1_c1.l0_eq {ρ : Type} (N : Nat) (K : AV → Heap → Option ρ) (l0 : Int) (m1 : Int) (y2 : Int) (g3 : Nat → Int) (g4 : Nat → Int) (g5 : Nat → Int) (g6 : Nat → Int) (g7 : Nat → Int) (g8 : Nat → Int) (g9 : Nat → Int) :
    ∀ (m : Nat) (x10 : Int) (g11 : Nat → Int), xloop (xcode (E15 N) ents impl_Hopf_tensor_c1_c1.kp 8 N (cL (cK (cB impl_Hopf_tensor_c1_c1.bd))) 0) impl_Hopf_tensor_c1_c1.kp 8 0 m (impl_Hopf_tensor_c1_c1.st0 l0 m1 y2 g3 g4 g6 g7 g8 g9 x10 g11) (impl_Hopf_tensor_c1_c1.k0 N K g3 g4 g5 g6 g7 g8 g9) = (impl_Hopf_tensor_c1_c1.l0 N (fun d0 => K (.tup []) [⟨false, .avs [.sptr [(6, 2), (7, 1104)]]⟩, ⟨false, .ints .i64 1 g3⟩, ⟨false, .ints .i64 2 g4⟩, ⟨true, .ints .u8 64 d0⟩, ⟨false, .ints .i64 1 g6⟩, ⟨false, .ints .i64 1 g7⟩, ⟨false, .ints .i64 2 g8⟩, ⟨false, .ints .u8 1104 g9⟩]) l0 m1 y2 g3 g4 g6 g7 g9 (fun o13 => (impl_Hopf_tensor_c1_c1.k0 N K g3 g4 g5 g6 g7 g8 g9) (.exit 0) (impl_Hopf_tensor_c1_c1.sx0_0 g3 g4 g6 g7 g8 g9 o13)) m x10 g11) := by
  intro m
  induction m with
  | zero => intros; rfl
  | succ m ih =>
    intro x10 g11
    refine (impl_Hopf_tensor_c1_c1.b0_eq N K (fun s => xloop (xcode (E15 N) ents impl_Hopf_tensor_c1_c1.kp 8 N (cL (cK (cB impl_Hopf_tensor_c1_c1.bd))) 0) impl_Hopf_tensor_c1_c1.kp 8 0 m s (impl_Hopf_tensor_c1_c1.k0 N K g3 g4 g5 g6 g7 g8 g9)) l0 m1 y2 g3 g4 g5 g6 g7 g8 g9 x10 g11).trans ?_
    simp only [ih]
    kernel_rfl

theorem impl_Hopf_tensor_c1_c1.s_eq {ρ : Type} (N : Nat) (K : AV → Heap → Option ρ) (l0 : Int) (m1 : Int) (y2 : Int) (g3 : Nat → Int) (g4 : Nat → Int) (g5 : Nat → Int) (g6 : Nat → Int) (g7 : Nat → Int) (g8 : Nat → Int) (g9 : Nat → Int) :
    xbody (E15 N) ents impl_Hopf_tensor_c1_c1.kp N Go.Proofs.Try.f28 impl_Hopf_tensor_c1_c1.bd [.int .i64 (l0), .int .i64 (m1), .int .i64 (y2), .sptr [(0, 1)], .sptr [(1, 1)], .sptr [(2, 2)], .sptr [(3, 64)], .sptr [(4, 1)], .sptr [(5, 1)]] [⟨false, .avs [.sptr [(6, 2), (7, 1104)]]⟩, ⟨false, .ints .i64 1 g3⟩, ⟨false, .ints .i64 2 g4⟩, ⟨true, .ints .u8 64 g5⟩, ⟨false, .ints .i64 1 g6⟩, ⟨false, .ints .i64 1 g7⟩, ⟨false, .ints .i64 2 g8⟩, ⟨false, .ints .u8 1104 g9⟩] K = (impl_Hopf_tensor_c1_c1.s N (fun d0 => K (.tup []) [⟨false, .avs [.sptr [(6, 2), (7, 1104)]]⟩, ⟨false, .ints .i64 1 g3⟩, ⟨false, .ints .i64 2 g4⟩, ⟨true, .ints .u8 64 d0⟩, ⟨false, .ints .i64 1 g6⟩, ⟨false, .ints .i64 1 g7⟩, ⟨false, .ints .i64 2 g8⟩, ⟨false, .ints .u8 1104 g9⟩]) (fun x10 g11 => xloop (xcode (E15 N) ents impl_Hopf_tensor_c1_c1.kp 8 N (cL (cK (cB impl_Hopf_tensor_c1_c1.bd))) 0) impl_Hopf_tensor_c1_c1.kp 8 0 N (impl_Hopf_tensor_c1_c1.st0 l0 m1 y2 g3 g4 g6 g7 g8 g9 x10 g11) (impl_Hopf_tensor_c1_c1.k0 N K g3 g4 g5 g6 g7 g8 g9)) l0 g3 g5) := by kernel_rfl

theorem impl_Hopf_tensor_c1_c1.eq {ρ : Type} (N : Nat) (K : AV → Heap → Option ρ) (l0 : Int) (m1 : Int) (y2 : Int) (g3 : Nat → Int) (g4 : Nat → Int) (g5 : Nat → Int) (g6 : Nat → Int) (g7 : Nat → Int) (g8 : Nat → Int) (g9 : Nat → Int) :
    xbody (E15 N) ents impl_Hopf_tensor_c1_c1.kp N Go.Proofs.Try.f28 impl_Hopf_tensor_c1_c1.bd [.int .i64 (l0), .int .i64 (m1), .int .i64 (y2), .sptr [(0, 1)], .sptr [(1, 1)], .sptr [(2, 2)], .sptr [(3, 64)], .sptr [(4, 1)], .sptr [(5, 1)]] [⟨false, .avs [.sptr [(6, 2), (7, 1104)]]⟩, ⟨false, .ints .i64 1 g3⟩, ⟨false, .ints .i64 2 g4⟩, ⟨true, .ints .u8 64 g5⟩, ⟨false, .ints .i64 1 g6⟩, ⟨false, .ints .i64 1 g7⟩, ⟨false, .ints .i64 2 g8⟩, ⟨false, .ints .u8 1104 g9⟩] K = (impl_Hopf_tensor_c1_c1 N (fun d0 => K (.tup []) [⟨false, .avs [.sptr [(6, 2), (7, 1104)]]⟩, ⟨false, .ints .i64 1 g3⟩, ⟨false, .ints .i64 2 g4⟩, ⟨true, .ints .u8 64 d0⟩, ⟨false, .ints .i64 1 g6⟩, ⟨false, .ints .i64 1 g7⟩, ⟨false, .ints .i64 2 g8⟩, ⟨false, .ints .u8 1104 g9⟩]) l0 m1 y2 g3 g4 g5 g6 g7 g8 g9) := by
  refine (impl_Hopf_tensor_c1_c1.s_eq N K l0 m1 y2 g3 g4 g5 g6 g7 g8 g9).trans ?_
  simp only [impl_Hopf_tensor_c1_c1.l0_eq, impl_Hopf_tensor_c1_c1.a0_0_eq]
  kernel_rfl

noncomputable def impl_Hopf_tensor_c1_c1.en (N : Nat) (ρ : Type) : List AV → Heap → (AV → Heap → Option ρ) → Option ρ
  | [.int .i64 (l0), .int .i64 (m1), .int .i64 (y2), .sptr [(0, 1)], .sptr [(1, 1)], .sptr [(2, 2)], .sptr [(3, 64)], .sptr [(4, 1)], .sptr [(5, 1)]], [⟨false, .avs [.sptr [(6, 2), (7, 1104)]]⟩, ⟨false, .ints .i64 1 g3⟩, ⟨false, .ints .i64 2 g4⟩, ⟨true, .ints .u8 64 g5⟩, ⟨false, .ints .i64 1 g6⟩, ⟨false, .ints .i64 1 g7⟩, ⟨false, .ints .i64 2 g8⟩, ⟨false, .ints .u8 1104 g9⟩], K => (impl_Hopf_tensor_c1_c1 N (fun d0 => K (.tup []) [⟨false, .avs [.sptr [(6, 2), (7, 1104)]]⟩, ⟨false, .ints .i64 1 g3⟩, ⟨false, .ints .i64 2 g4⟩, ⟨true, .ints .u8 64 d0⟩, ⟨false, .ints .i64 1 g6⟩, ⟨false, .ints .i64 1 g7⟩, ⟨false, .ints .i64 2 g8⟩, ⟨false, .ints .u8 1104 g9⟩]) l0 m1 y2 g3 g4 g5 g6 g7 g8 g9)
  | _, _, _ => none

theorem impl_Hopf_tensor_c1_c1.en_ok (N : Nat) (hE : EnvOk (E15 N) ents) (ρ : Type) (args : List AV) (sh : Heap) (K : AV → Heap → Option ρ) (r : ρ) (h : impl_Hopf_tensor_c1_c1.en N ρ args sh K = some r) : ∃ v sh', K v sh' = some r ∧ FnOk (E15 N).P 28 args sh v sh' := by
  unfold impl_Hopf_tensor_c1_c1.en at h
  split at h
  · exact fn_ok hE (kp := impl_Hopf_tensor_c1_c1.kp) (N := N) Go.Proofs.Try.func28 (c := impl_Hopf_tensor_c1_c1.bd) (by kernel_rfl) ((impl_Hopf_tensor_c1_c1.eq N _ _ _ _ _ _ _ _ _ _ _).trans h)
  · cases h

noncomputable def E16 (N : Nat) : Env := (E15 N).add 28 (impl_Hopf_tensor_c1_c1.en N)

theorem E16_ok (N : Nat) : EnvOk (E16 N) ents := Env.add_ok (E15_ok N) (impl_Hopf_tensor_c1_c1.en_ok N (E15_ok N))

noncomputable def impl_pairs_f_v2.kp : Keeps := ⟨[(0, [0, 1, 7], 9), (2, [0, 1, 4, 7, 14, 15], 9)], [(0, [], 9), (2, [0, 1, 7], 9)]⟩

noncomputable def impl_pairs_f_v2.bd : Code := bodyOf Go.Proofs.Try.f26

noncomputable def impl_pairs_f_v2.fin {ρ : Type} (N : Nat) (K : AV → Heap → Option ρ) (g0 : Nat → Int) (g1 : Nat → Int) (g2 : Nat → Int) (g3 : Nat → Int) (g4 : Nat → Int) (g5 : Nat → Int) (g6 : Nat → Int) (g7 : Nat → Int) : XE → St → Option ρ := finK (E16 N) Go.Proofs.Try.f26 [⟨false, .ints .u8 64 g0⟩, ⟨true, .avs [.sptr [(7, 2), (8, 1104)]]⟩, ⟨true, .ints .i64 1 g1⟩, ⟨true, .ints .i64 2 g2⟩, ⟨true, .ints .u8 64 g3⟩, ⟨true, .ints .i64 1 g4⟩, ⟨true, .ints .i64 1 g5⟩, ⟨false, .ints .i64 2 g6⟩, ⟨false, .ints .u8 1104 g7⟩] K

noncomputable def impl_pairs_f_v2.k0 {ρ : Type} (N : Nat) (K : AV → Heap → Option ρ) (g0 : Nat → Int) (g1 : Nat → Int) (g2 : Nat → Int) (g3 : Nat → Int) (g4 : Nat → Int) (g5 : Nat → Int) (g6 : Nat → Int) (g7 : Nat → Int) : XE → St → Option ρ := (blockK impl_pairs_f_v2.kp 9 0 (impl_pairs_f_v2.fin N K g0 g1 g2 g3 g4 g5 g6 g7))

theorem impl_pairs_f_v2.k0_mix {ρ : Type} (N : Nat) (K : AV → Heap → Option ρ) (g0 : Nat → Int) (g1 : Nat → Int) (g2 : Nat → Int) (g3 : Nat → Int) (g4 : Nat → Int) (g5 : Nat → Int) (g6 : Nat → Int) (g7 : Nat → Int) : mixK (impl_pairs_f_v2.fin N K g0 g1 g2 g3 g4 g5 g6 g7 .ret) (impl_pairs_f_v2.k0 N K g0 g1 g2 g3 g4 g5 g6 g7) = (impl_pairs_f_v2.k0 N K g0 g1 g2 g3 g4 g5 g6 g7) := by
  funext e s; cases e <;> rfl

noncomputable def impl_pairs_f_v2.st0 (g0 : Nat → Int) (g1 : Nat → Int) (g2 : Nat → Int) (g4 : Nat → Int) (g5 : Nat → Int) (g6 : Nat → Int) (g7 : Nat → Int) (x8 : Int) (g9 : Nat → Int) : St := ⟨sl 29 [(0, .sptr [(0, 64)]), (1, .fn 28 0 [[(1, 1)], [(2, 1)], [(3, 2)], [(4, 64)], [(5, 1)], [(6, 1)]]), (7, .int .i64 (x8))], [⟨false, .ints .u8 64 g0⟩, ⟨true, .avs [.sptr [(7, 2), (8, 1104)]]⟩, ⟨true, .ints .i64 1 g1⟩, ⟨true, .ints .i64 2 g2⟩, ⟨true, .ints .u8 64 g9⟩, ⟨true, .ints .i64 1 g4⟩, ⟨true, .ints .i64 1 g5⟩, ⟨false, .ints .i64 2 g6⟩, ⟨false, .ints .u8 1104 g7⟩]⟩

noncomputable def impl_pairs_f_v2.sx0_0 (g0 : Nat → Int) (g1 : Nat → Int) (g2 : Nat → Int) (g4 : Nat → Int) (g5 : Nat → Int) (g6 : Nat → Int) (g7 : Nat → Int) (o14 : Nat → Int) : St := ⟨sl 29 [], [⟨false, .ints .u8 64 g0⟩, ⟨true, .avs [.sptr [(7, 2), (8, 1104)]]⟩, ⟨true, .ints .i64 1 g1⟩, ⟨true, .ints .i64 2 g2⟩, ⟨true, .ints .u8 64 o14⟩, ⟨true, .ints .i64 1 g4⟩, ⟨true, .ints .i64 1 g5⟩, ⟨false, .ints .i64 2 g6⟩, ⟨false, .ints .u8 1104 g7⟩]⟩

noncomputable def impl_pairs_f_v2.k1g {ρ : Type} (N : Nat) (L0 : St → Option ρ) (kv : XE → St → Option ρ) : XE → St → Option ρ := (blockK impl_pairs_f_v2.kp 9 2 (blockK impl_pairs_f_v2.kp 9 1 (seqK (xcode (E16 N) ents impl_pairs_f_v2.kp 9 N (cB (cB (cB (cL (cK (cB impl_pairs_f_v2.bd)))))) 0) (roundK impl_pairs_f_v2.kp 9 0 L0 kv))))

theorem impl_pairs_f_v2.k1_mix {ρ : Type} (N : Nat) (K : AV → Heap → Option ρ) (L0 : St → Option ρ) (g0 : Nat → Int) (g1 : Nat → Int) (g2 : Nat → Int) (g3 : Nat → Int) (g4 : Nat → Int) (g5 : Nat → Int) (g6 : Nat → Int) (g7 : Nat → Int) : mixK (impl_pairs_f_v2.fin N K g0 g1 g2 g3 g4 g5 g6 g7 .ret) (impl_pairs_f_v2.k1g N L0 (impl_pairs_f_v2.k0 N K g0 g1 g2 g3 g4 g5 g6 g7)) = (impl_pairs_f_v2.k1g N L0 (impl_pairs_f_v2.k0 N K g0 g1 g2 g3 g4 g5 g6 g7)) := by
  funext e s; cases e <;> rfl

noncomputable def impl_pairs_f_v2.st1 (g0 : Nat → Int) (g1 : Nat → Int) (g2 : Nat → Int) (g4 : Nat → Int) (g5 : Nat → Int) (g6 : Nat → Int) (g7 : Nat → Int) (x8 : Int) (x10 : Int) (g11 : Nat → Int) : St := ⟨sl 29 [(0, .sptr [(0, 64)]), (1, .fn 28 0 [[(1, 1)], [(2, 1)], [(3, 2)], [(4, 64)], [(5, 1)], [(6, 1)]]), (4, .int .i64 (x8)), (7, .int .i64 (x8)), (14, .agg [⟨.u8, 8, (fun z => (g0 ((x8.toNat * 8) + z)))⟩]), (15, .int .i64 (x10))], [⟨false, .ints .u8 64 g0⟩, ⟨true, .avs [.sptr [(7, 2), (8, 1104)]]⟩, ⟨true, .ints .i64 1 g1⟩, ⟨true, .ints .i64 2 g2⟩, ⟨true, .ints .u8 64 g11⟩, ⟨true, .ints .i64 1 g4⟩, ⟨true, .ints .i64 1 g5⟩, ⟨false, .ints .i64 2 g6⟩, ⟨false, .ints .u8 1104 g7⟩]⟩

noncomputable def impl_pairs_f_v2.sx1_0 (g0 : Nat → Int) (g1 : Nat → Int) (g2 : Nat → Int) (g4 : Nat → Int) (g5 : Nat → Int) (g6 : Nat → Int) (g7 : Nat → Int) (x8 : Int) (o13 : Nat → Int) : St := ⟨sl 29 [(0, .sptr [(0, 64)]), (1, .fn 28 0 [[(1, 1)], [(2, 1)], [(3, 2)], [(4, 64)], [(5, 1)], [(6, 1)]]), (7, .int .i64 (x8))], [⟨false, .ints .u8 64 g0⟩, ⟨true, .avs [.sptr [(7, 2), (8, 1104)]]⟩, ⟨true, .ints .i64 1 g1⟩, ⟨true, .ints .i64 2 g2⟩, ⟨true, .ints .u8 64 o13⟩, ⟨true, .ints .i64 1 g4⟩, ⟨true, .ints .i64 1 g5⟩, ⟨false, .ints .i64 2 g6⟩, ⟨false, .ints .u8 1104 g7⟩]⟩

theorem impl_pairs_f_v2.b1_gen {ρ : Type} (N : Nat) (K : AV → Heap → Option ρ) (L1 : St → Option ρ) (kv : XE → St → Option ρ) (g0 : Nat → Int) (g1 : Nat → Int) (g2 : Nat → Int) (g3 : Nat → Int) (g4 : Nat → Int) (g5 : Nat → Int) (g6 : Nat → Int) (g7 : Nat → Int) (x8 : Int) (x10 : Int) (g11 : Nat → Int) :
    xcode (E16 N) ents impl_pairs_f_v2.kp 9 N (cL (cK (cB (cB (cK (cA (cB (cB (cL (cK (cB impl_pairs_f_v2.bd))))))))))) 2 (impl_pairs_f_v2.st1 g0 g1 g2 g4 g5 g6 g7 x8 x10 g11) (roundK impl_pairs_f_v2.kp 9 2 L1 (mixK (impl_pairs_f_v2.fin N K g0 g1 g2 g3 g4 g5 g6 g7 .ret) kv)) = (impl_pairs_f_v2.b1 N (fun d0 d1 d2 d3 d4 => K (.tup []) [⟨false, .ints .u8 64 g0⟩, ⟨true, .avs [.sptr [(7, 2), (8, 1104)]]⟩, ⟨true, .ints .i64 1 d0⟩, ⟨true, .ints .i64 2 d1⟩, ⟨true, .ints .u8 64 d2⟩, ⟨true, .ints .i64 1 d3⟩, ⟨true, .ints .i64 1 d4⟩, ⟨false, .ints .i64 2 g6⟩, ⟨false, .ints .u8 1104 g7⟩]) (fun x10 g11 => L1 (impl_pairs_f_v2.st1 g0 g1 g2 g4 g5 g6 g7 x8 x10 g11)) (fun o13 => kv (.exit 2) (impl_pairs_f_v2.sx1_0 g0 g1 g2 g4 g5 g6 g7 x8 o13)) g0 g1 g2 g4 g5 g6 g7 x8 x10 g11) := by kernel_rfl

theorem impl_pairs_f_v2.b1_eq {ρ : Type} (N : Nat) (K : AV → Heap → Option ρ) (L0 : St → Option ρ) (L1 : St → Option ρ) (g0 : Nat → Int) (g1 : Nat → Int) (g2 : Nat → Int) (g3 : Nat → Int) (g4 : Nat → Int) (g5 : Nat → Int) (g6 : Nat → Int) (g7 : Nat → Int) (x8 : Int) (x10 : Int) (g11 : Nat → Int) :
    xcode (E16 N) ents impl_pairs_f_v2.kp 9 N (cL (cK (cB (cB (cK (cA (cB (cB (cL (cK (cB impl_pairs_f_v2.bd))))))))))) 2 (impl_pairs_f_v2.st1 g0 g1 g2 g4 g5 g6 g7 x8 x10 g11) (roundK impl_pairs_f_v2.kp 9 2 L1 (impl_pairs_f_v2.k1g N L0 (impl_pairs_f_v2.k0 N K g0 g1 g2 g3 g4 g5 g6 g7))) = (impl_pairs_f_v2.b1 N (fun d0 d1 d2 d3 d4 => K (.tup []) [⟨false, .ints .u8 64 g0⟩, ⟨true, .avs [.sptr [(7, 2), (8, 1104)]]⟩, ⟨true, .ints .i64 1 d0⟩, ⟨true, .ints .i64 2 d1⟩, ⟨true, .ints .u8 64 d2⟩, ⟨true, .ints .i64 1 d3⟩, ⟨true, .ints .i64 1 d4⟩, ⟨false, .ints .i64 2 g6⟩, ⟨false, .ints .u8 1104 g7⟩]) (fun x10 g11 => L1 (impl_pairs_f_v2.st1 g0 g1 g2 g4 g5 g6 g7 x8 x10 g11)) (fun o13 => (impl_pairs_f_v2.k1g N L0 (impl_pairs_f_v2.k0 N K g0 g1 g2 g3 g4 g5 g6 g7)) (.exit 2) (impl_pairs_f_v2.sx1_0 g0 g1 g2 g4 g5 g6 g7 x8 o13)) g0 g1 g2 g4 g5 g6 g7 x8 x10 g11) := by
  have h := impl_pairs_f_v2.b1_gen N K L1 (impl_pairs_f_v2.k1g N L0 (impl_pairs_f_v2.k0 N K g0 g1 g2 g3 g4 g5 g6 g7)) g0 g1 g2 g3 g4 g5 g6 g7 x8 x10 g11
  rw [impl_pairs_f_v2.k1_mix] at h
  exact h

theorem impl_pairs_f_v2.a1_0_gen {ρ : Type} (N : Nat) (K : AV → Heap → Option ρ) (L0 : St → Option ρ) (kv : XE → St → Option ρ) (g0 : Nat → Int) (g1 : Nat → Int) (g2 : Nat → Int) (g3 : Nat → Int) (g4 : Nat → Int) (g5 : Nat → Int) (g6 : Nat → Int) (g7 : Nat → Int) (x8 : Int) (o13 : Nat → Int) :
    (impl_pairs_f_v2.k1g N L0 (mixK (impl_pairs_f_v2.fin N K g0 g1 g2 g3 g4 g5 g6 g7 .ret) kv)) (.exit 2) (impl_pairs_f_v2.sx1_0 g0 g1 g2 g4 g5 g6 g7 x8 o13) = (impl_pairs_f_v2.a1_0 N (fun d0 d1 d2 d3 d4 => K (.tup []) [⟨false, .ints .u8 64 g0⟩, ⟨true, .avs [.sptr [(7, 2), (8, 1104)]]⟩, ⟨true, .ints .i64 1 d0⟩, ⟨true, .ints .i64 2 d1⟩, ⟨true, .ints .u8 64 d2⟩, ⟨true, .ints .i64 1 d3⟩, ⟨true, .ints .i64 1 d4⟩, ⟨false, .ints .i64 2 g6⟩, ⟨false, .ints .u8 1104 g7⟩]) (fun x8 g9 => L0 (impl_pairs_f_v2.st0 g0 g1 g2 g4 g5 g6 g7 x8 g9)) (fun o14 => kv (.exit 0) (impl_pairs_f_v2.sx0_0 g0 g1 g2 g4 g5 g6 g7 o14)) x8 o13) := by kernel_rfl

theorem impl_pairs_f_v2.a1_0_eq {ρ : Type} (N : Nat) (K : AV → Heap → Option ρ) (L0 : St → Option ρ) (g0 : Nat → Int) (g1 : Nat → Int) (g2 : Nat → Int) (g3 : Nat → Int) (g4 : Nat → Int) (g5 : Nat → Int) (g6 : Nat → Int) (g7 : Nat → Int) (x8 : Int) (o13 : Nat → Int) :
    (impl_pairs_f_v2.k1g N L0 (impl_pairs_f_v2.k0 N K g0 g1 g2 g3 g4 g5 g6 g7)) (.exit 2) (impl_pairs_f_v2.sx1_0 g0 g1 g2 g4 g5 g6 g7 x8 o13) = (impl_pairs_f_v2.a1_0 N (fun d0 d1 d2 d3 d4 => K (.tup []) [⟨false, .ints .u8 64 g0⟩, ⟨true, .avs [.sptr [(7, 2), (8, 1104)]]⟩, ⟨true, .ints .i64 1 d0⟩, ⟨true, .ints .i64 2 d1⟩, ⟨true, .ints .u8 64 d2⟩, ⟨true, .ints .i64 1 d3⟩, ⟨true, .ints .i64 1 d4⟩, ⟨false, .ints .i64 2 g6⟩, ⟨false, .ints .u8 1104 g7⟩]) (fun x8 g9 => L0 (impl_pairs_f_v2.st0 g0 g1 g2 g4 g5 g6 g7 x8 g9)) (fun o14 => (impl_pairs_f_v2.k0 N K g0 g1 g2 g3 g4 g5 g6 g7) (.exit 0) (impl_pairs_f_v2.sx0_0 g0 g1 g2 g4 g5 g6 g7 o14)) x8 o13) := by
  have h := impl_pairs_f_v2.a1_0_gen N K L0 (impl_pairs_f_v2.k0 N K g0 g1 g2 g3 g4 g5 g6 g7) g0 g1 g2 g3 g4 g5 g6 g7 x8 o13
  rw [impl_pairs_f_v2.k0_mix] at h
  exact h

theorem impl_pairs_f_v2.b0_gen {ρ : Type} (N : Nat) (K : AV → Heap → Option ρ) (L0 : St → Option ρ) (kv : XE → St → Option ρ) (g0 : Nat → Int) (g1 : Nat → Int) (g2 : Nat → Int) (g3 : Nat → Int) (g4 : Nat → Int) (g5 : Nat → Int) (g6 : Nat → Int) (g7 : Nat → Int) (x8 : Int) (g9 : Nat → Int) :
    xcode (E16 N) ents impl_pairs_f_v2.kp 9 N (cL (cK (cB impl_pairs_f_v2.bd))) 0 (impl_pairs_f_v2.st0 g0 g1 g2 g4 g5 g6 g7 x8 g9) (roundK impl_pairs_f_v2.kp 9 0 L0 (mixK (impl_pairs_f_v2.fin N K g0 g1 g2 g3 g4 g5 g6 g7 .ret) kv)) = (impl_pairs_f_v2.b0 N (fun d0 d1 d2 d3 d4 => K (.tup []) [⟨false, .ints .u8 64 g0⟩, ⟨true, .avs [.sptr [(7, 2), (8, 1104)]]⟩, ⟨true, .ints .i64 1 d0⟩, ⟨true, .ints .i64 2 d1⟩, ⟨true, .ints .u8 64 d2⟩, ⟨true, .ints .i64 1 d3⟩, ⟨true, .ints .i64 1 d4⟩, ⟨false, .ints .i64 2 g6⟩, ⟨false, .ints .u8 1104 g7⟩]) (fun x10 g11 => xloop (xcode (E16 N) ents impl_pairs_f_v2.kp 9 N (cL (cK (cB (cB (cK (cA (cB (cB (cL (cK (cB impl_pairs_f_v2.bd))))))))))) 2) impl_pairs_f_v2.kp 9 2 N (impl_pairs_f_v2.st1 g0 g1 g2 g4 g5 g6 g7 x8 x10 g11) (impl_pairs_f_v2.k1g N L0 (mixK (impl_pairs_f_v2.fin N K g0 g1 g2 g3 g4 g5 g6 g7 .ret) kv))) (fun x8 g9 => L0 (impl_pairs_f_v2.st0 g0 g1 g2 g4 g5 g6 g7 x8 g9)) (fun o14 => kv (.exit 0) (impl_pairs_f_v2.sx0_0 g0 g1 g2 g4 g5 g6 g7 o14)) x8 g9) := by kernel_rfl

theorem impl_pairs_f_v2.b0_eq {ρ : Type} (N : Nat) (K : AV → Heap → Option ρ) (L0 : St → Option ρ) (g0 : Nat → Int) (g1 : Nat → Int) (g2 : Nat → Int) (g3 : Nat → Int) (g4 : Nat → Int) (g5 : Nat → Int) (g6 : Nat → Int) (g7 : Nat → Int) (x8 : Int) (g9 : Nat → Int) :
    xcode (E16 N) ents impl_pairs_f_v2.kp 9 N (cL (cK (cB impl_pairs_f_v2.bd))) 0 (impl_pairs_f_v2.st0 g0 g1 g2 g4 g5 g6 g7 x8 g9) (roundK impl_pairs_f_v2.kp 9 0 L0 (impl_pairs_f_v2.k0 N K g0 g1 g2 g3 g4 g5 g6 g7)) = (impl_pairs_f_v2.b0 N (fun d0 d1 d2 d3 d4 => K (.tup []) [⟨false, .ints .u8 64 g0⟩, ⟨true, .avs [.sptr [(7, 2), (8, 1104)]]⟩, ⟨true, .ints .i64 1 d0⟩, ⟨true, .ints .i64 2 d1⟩, ⟨true, .ints .u8 64 d2⟩, ⟨true, .ints .i64 1 d3⟩, ⟨true, .ints .i64 1 d4⟩, ⟨false, .ints .i64 2 g6⟩, ⟨false, .ints .u8 1104 g7⟩]) (fun x10 g11 => xloop (xcode (E16 N) ents impl_pairs_f_v2.kp 9 N (cL (cK (cB (cB (cK (cA (cB (cB (cL (cK (cB impl_pairs_f_v2.bd))))))))))) 2) impl_pairs_f_v2.kp 9 2 N (impl_pairs_f_v2.st1 g0 g1 g2 g4 g5 g6 g7 x8 x10 g11) (impl_pairs_f_v2.k1g N L0 (impl_pairs_f_v2.k0 N K g0 g1 g2 g3 g4 g5 g6 g7))) (fun x8 g9 => L0 (impl_pairs_f_v2.st0 g0 g1 g2 g4 g5 g6 g7 x8 g9)) (fun o14 => (impl_pairs_f_v2.k0 N K g0 g1 g2 g3 g4 g5 g6 g7) (.exit 0) (impl_pairs_f_v2.sx0_0 g0 g1 g2 g4 g5 g6 g7 o14)) x8 g9) := by
  have h := impl_pairs_f_v2.b0_gen N K L0 (impl_pairs_f_v2.k0 N K g0 g1 g2 g3 g4 g5 g6 g7) g0 g1 g2 g3 g4 g5 g6 g7 x8 g9
  rw [impl_pairs_f_v2.k0_mix] at h
  exact h

theorem impl_pairs_f_v2.a0_0_eq {ρ : Type} (N : Nat) (K : AV → Heap → Option ρ) (g0 : Nat → Int) (g1 : Nat → Int) (g2 : Nat → Int) (g3 : Nat → Int) (g4 : Nat → Int) (g5 : Nat → Int) (g6 : Nat → Int) (g7 : Nat → Int) (o14 : Nat → Int) :
    (impl_pairs_f_v2.k0 N K g0 g1 g2 g3 g4 g5 g6 g7) (.exit 0) (impl_pairs_f_v2.sx0_0 g0 g1 g2 g4 g5 g6 g7 o14) = (impl_pairs_f_v2.a0_0 N (fun d0 d1 d2 d3 d4 => K (.tup []) [⟨false, .ints .u8 64 g0⟩, ⟨true, .avs [.sptr [(7, 2), (8, 1104)]]⟩, ⟨true, .ints .i64 1 d0⟩, ⟨true, .ints .i64 2 d1⟩, ⟨true, .ints .u8 64 d2⟩, ⟨true, .ints .i64 1 d3⟩, ⟨true, .ints .i64 1 d4⟩, ⟨false, .ints .i64 2 g6⟩, ⟨false, .ints .u8 1104 g7⟩]) g1 g2 g4 g5 o14) := by kernel_rfl

theorem impl_pairs_f_v2.l1_eq {ρ : Type} (N : Nat) (K : AV → Heap → Option ρ) (L0 : St → Option ρ) (g0 : Nat → Int) (g1 : Nat → Int) (g2 : Nat → Int) (g3 : Nat → Int) (g4 : Nat → Int) (g5 : Nat → Int) (g6 : Nat → Int) (g7 : Nat → Int) (x8 : Int) :
    ∀ (m : Nat) (x10 : Int) (g11 : Nat → Int), xloop (xcode (E16 N) ents impl_pairs_f_v2.kp 9 N (cL (cK (cB (cB (cK (cA (cB (cB (cL (cK (cB impl_pairs_f_v2.bd))))))))))) 2) impl_pairs_f_v2.kp 9 2 m (impl_pairs_f_v2.st1 g0 g1 g2 g4 g5 g6 g7 x8 x10 g11) (impl_pairs_f_v2.k1g N L0 (impl_pairs_f_v2.k0 N K g0 g1 g2 g3 g4 g5 g6 g7)) = (impl_pairs_f_v2.l1 N (fun d0 d1 d2 d3 d4 => K (.tup []) [⟨false, .ints .u8 64 g0⟩, ⟨true, .avs [.sptr [(7, 2), (8, 1104)]]⟩, ⟨true, .ints .i64 1 d0⟩, ⟨true, .ints .i64 2 d1⟩, ⟨true, .ints .u8 64 d2⟩, ⟨true, .ints .i64 1 d3⟩, ⟨true, .ints .i64 1 d4⟩, ⟨false, .ints .i64 2 g6⟩, ⟨false, .ints .u8 1104 g7⟩]) g0 g1 g2 g4 g5 g6 g7 x8 (fun o13 => (impl_pairs_f_v2.k1g N L0 (impl_pairs_f_v2.k0 N K g0 g1 g2 g3 g4 g5 g6 g7)) (.exit 2) (impl_pairs_f_v2.sx1_0 g0 g1 g2 g4 g5 g6 g7 x8 o13)) m x10 g11) := by
  intro m
  induction m with
  | zero => intros; rfl
  | succ m ih =>
    intro x10 g11
    refine (impl_pairs_f_v2.b1_eq N K L0 (fun s => xloop (xcode (E16 N) ents impl_pairs_f_v2.kp 9 N (cL (cK (cB (cB (cK (cA (cB (cB (cL (cK (cB impl_pairs_f_v2.bd))))))))))) 2) impl_pairs_f_v2.kp 9 2 m s (impl_pairs_f_v2.k1g N L0 (impl_pairs_f_v2.k0 N K g0 g1 g2 g3 g4 g5 g6 g7))) g0 g1 g2 g3 g4 g5 g6 g7 x8 x10 g11).trans ?_
    simp only [ih]
    kernel_rfl

theorem impl_pairs_f_v2.l0_eq {ρ : Type} (N : Nat) (K : AV → Heap → Option ρ) (g0 : Nat → Int) (g1 : Nat → Int) (g2 : Nat → Int) (g3 : Nat → Int) (g4 : Nat → Int) (g5 : Nat → Int) (g6 : Nat → Int) (g7 : Nat → Int) :
    ∀ (m : Nat) (x8 : Int) (g9 : Nat → Int), xloop (xcode (E16 N) ents impl_pairs_f_v2.kp 9 N (cL (cK (cB impl_pairs_f_v2.bd))) 0) impl_pairs_f_v2.kp 9 0 m (impl_pairs_f_v2.st0 g0 g1 g2 g4 g5 g6 g7 x8 g9) (impl_pairs_f_v2.k0 N K g0 g1 g2 g3 g4 g5 g6 g7) = (impl_pairs_f_v2.l0 N (fun d0 d1 d2 d3 d4 => K (.tup []) [⟨false, .ints .u8 64 g0⟩, ⟨true, .avs [.sptr [(7, 2), (8, 1104)]]⟩, ⟨true, .ints .i64 1 d0⟩, ⟨true, .ints .i64 2 d1⟩, ⟨true, .ints .u8 64 d2⟩, ⟨true, .ints .i64 1 d3⟩, ⟨true, .ints .i64 1 d4⟩, ⟨false, .ints .i64 2 g6⟩, ⟨false, .ints .u8 1104 g7⟩]) g0 g1 g2 g4 g5 g6 g7 (fun o14 => (impl_pairs_f_v2.k0 N K g0 g1 g2 g3 g4 g5 g6 g7) (.exit 0) (impl_pairs_f_v2.sx0_0 g0 g1 g2 g4 g5 g6 g7 o14)) m x8 g9) := by
  intro m
  induction m with
  | zero => intros; rfl
  | succ m ih =>
    intro x8 g9
    refine (impl_pairs_f_v2.b0_eq N K (fun s => xloop (xcode (E16 N) ents impl_pairs_f_v2.kp 9 N (cL (cK (cB impl_pairs_f_v2.bd))) 0) impl_pairs_f_v2.kp 9 0 m s (impl_pairs_f_v2.k0 N K g0 g1 g2 g3 g4 g5 g6 g7)) g0 g1 g2 g3 g4 g5 g6 g7 x8 g9).trans ?_
    simp only [ih, impl_pairs_f_v2.l1_eq, impl_pairs_f_v2.a1_0_eq]
    kernel_rfl

theorem impl_pairs_f_v2.s_eq {ρ : Type} (N : Nat) (K : AV → Heap → Option ρ) (g0 : Nat → Int) (g1 : Nat → Int) (g2 : Nat → Int) (g3 : Nat → Int) (g4 : Nat → Int) (g5 : Nat → Int) (g6 : Nat → Int) (g7 : Nat → Int) :
    xbody (E16 N) ents impl_pairs_f_v2.kp N Go.Proofs.Try.f26 impl_pairs_f_v2.bd [.sptr [(0, 64)], .fn 28 0 [[(1, 1)], [(2, 1)], [(3, 2)], [(4, 64)], [(5, 1)], [(6, 1)]]] [⟨false, .ints .u8 64 g0⟩, ⟨true, .avs [.sptr [(7, 2), (8, 1104)]]⟩, ⟨true, .ints .i64 1 g1⟩, ⟨true, .ints .i64 2 g2⟩, ⟨true, .ints .u8 64 g3⟩, ⟨true, .ints .i64 1 g4⟩, ⟨true, .ints .i64 1 g5⟩, ⟨false, .ints .i64 2 g6⟩, ⟨false, .ints .u8 1104 g7⟩] K = (impl_pairs_f_v2.s N (fun d0 d1 d2 d3 d4 => K (.tup []) [⟨false, .ints .u8 64 g0⟩, ⟨true, .avs [.sptr [(7, 2), (8, 1104)]]⟩, ⟨true, .ints .i64 1 d0⟩, ⟨true, .ints .i64 2 d1⟩, ⟨true, .ints .u8 64 d2⟩, ⟨true, .ints .i64 1 d3⟩, ⟨true, .ints .i64 1 d4⟩, ⟨false, .ints .i64 2 g6⟩, ⟨false, .ints .u8 1104 g7⟩]) (fun x8 g9 => xloop (xcode (E16 N) ents impl_pairs_f_v2.kp 9 N (cL (cK (cB impl_pairs_f_v2.bd))) 0) impl_pairs_f_v2.kp 9 0 N (impl_pairs_f_v2.st0 g0 g1 g2 g4 g5 g6 g7 x8 g9) (impl_pairs_f_v2.k0 N K g0 g1 g2 g3 g4 g5 g6 g7)) g3) := by kernel_rfl

theorem impl_pairs_f_v2.eq {ρ : Type} (N : Nat) (K : AV → Heap → Option ρ) (g0 : Nat → Int) (g1 : Nat → Int) (g2 : Nat → Int) (g3 : Nat → Int) (g4 : Nat → Int) (g5 : Nat → Int) (g6 : Nat → Int) (g7 : Nat → Int) :
    xbody (E16 N) ents impl_pairs_f_v2.kp N Go.Proofs.Try.f26 impl_pairs_f_v2.bd [.sptr [(0, 64)], .fn 28 0 [[(1, 1)], [(2, 1)], [(3, 2)], [(4, 64)], [(5, 1)], [(6, 1)]]] [⟨false, .ints .u8 64 g0⟩, ⟨true, .avs [.sptr [(7, 2), (8, 1104)]]⟩, ⟨true, .ints .i64 1 g1⟩, ⟨true, .ints .i64 2 g2⟩, ⟨true, .ints .u8 64 g3⟩, ⟨true, .ints .i64 1 g4⟩, ⟨true, .ints .i64 1 g5⟩, ⟨false, .ints .i64 2 g6⟩, ⟨false, .ints .u8 1104 g7⟩] K = (impl_pairs_f_v2 N (fun d0 d1 d2 d3 d4 => K (.tup []) [⟨false, .ints .u8 64 g0⟩, ⟨true, .avs [.sptr [(7, 2), (8, 1104)]]⟩, ⟨true, .ints .i64 1 d0⟩, ⟨true, .ints .i64 2 d1⟩, ⟨true, .ints .u8 64 d2⟩, ⟨true, .ints .i64 1 d3⟩, ⟨true, .ints .i64 1 d4⟩, ⟨false, .ints .i64 2 g6⟩, ⟨false, .ints .u8 1104 g7⟩]) g0 g1 g2 g3 g4 g5 g6 g7) := by
  refine (impl_pairs_f_v2.s_eq N K g0 g1 g2 g3 g4 g5 g6 g7).trans ?_
  simp only [impl_pairs_f_v2.l0_eq, impl_pairs_f_v2.a0_0_eq]
  kernel_rfl

noncomputable def impl_pairs_f_v2.en (N : Nat) (ρ : Type) : List AV → Heap → (AV → Heap → Option ρ) → Option ρ
  | [.sptr [(0, 64)], .fn 28 0 [[(1, 1)], [(2, 1)], [(3, 2)], [(4, 64)], [(5, 1)], [(6, 1)]]], [⟨false, .ints .u8 64 g0⟩, ⟨true, .avs [.sptr [(7, 2), (8, 1104)]]⟩, ⟨true, .ints .i64 1 g1⟩, ⟨true, .ints .i64 2 g2⟩, ⟨true, .ints .u8 64 g3⟩, ⟨true, .ints .i64 1 g4⟩, ⟨true, .ints .i64 1 g5⟩, ⟨false, .ints .i64 2 g6⟩, ⟨false, .ints .u8 1104 g7⟩], K => (impl_pairs_f_v2 N (fun d0 d1 d2 d3 d4 => K (.tup []) [⟨false, .ints .u8 64 g0⟩, ⟨true, .avs [.sptr [(7, 2), (8, 1104)]]⟩, ⟨true, .ints .i64 1 d0⟩, ⟨true, .ints .i64 2 d1⟩, ⟨true, .ints .u8 64 d2⟩, ⟨true, .ints .i64 1 d3⟩, ⟨true, .ints .i64 1 d4⟩, ⟨false, .ints .i64 2 g6⟩, ⟨false, .ints .u8 1104 g7⟩]) g0 g1 g2 g3 g4 g5 g6 g7)
  | _, _, _ => none

theorem impl_pairs_f_v2.en_ok (N : Nat) (hE : EnvOk (E16 N) ents) (ρ : Type) (args : List AV) (sh : Heap) (K : AV → Heap → Option ρ) (r : ρ) (h : impl_pairs_f_v2.en N ρ args sh K = some r) : ∃ v sh', K v sh' = some r ∧ FnOk (E16 N).P 26 args sh v sh' := by
  unfold impl_pairs_f_v2.en at h
  split at h
  · exact fn_ok hE (kp := impl_pairs_f_v2.kp) (N := N) Go.Proofs.Try.func26 (c := impl_pairs_f_v2.bd) (by kernel_rfl) ((impl_pairs_f_v2.eq N _ _ _ _ _ _ _ _ _).trans h)
  · cases h

noncomputable def E17 (N : Nat) : Env := (E16 N).add 26 (impl_pairs_f_v2.en N)

theorem E17_ok (N : Nat) : EnvOk (E17 N) ents := Env.add_ok (E16_ok N) (impl_pairs_f_v2.en_ok N (E16_ok N))

noncomputable def impl_Hopf_tensor_c1.kp : Keeps := ⟨[], []⟩

noncomputable def impl_Hopf_tensor_c1.bd : Code := bodyOf Go.Proofs.Try.f27

noncomputable def impl_Hopf_tensor_c1.fin {ρ : Type} (N : Nat) (K : AV → Heap → Option ρ) (g3 : Nat → Int) (g4 : Nat → Int) (g5 : Nat → Int) (g6 : Nat → Int) (g7 : Nat → Int) : XE → St → Option ρ := finK (E17 N) Go.Proofs.Try.f27 [⟨false, .avs [.sptr [(4, 64)]]⟩, ⟨true, .avs [.sptr [(5, 2), (6, 1104)]]⟩, ⟨true, .ints .i64 2 g3⟩, ⟨true, .ints .u8 64 g4⟩, ⟨false, .ints .u8 64 g5⟩, ⟨false, .ints .i64 2 g6⟩, ⟨false, .ints .u8 1104 g7⟩] K

theorem impl_Hopf_tensor_c1.eq {ρ : Type} (N : Nat) (K : AV → Heap → Option ρ) (j0 : Int) (k1 : Int) (x2 : Int) (g3 : Nat → Int) (g4 : Nat → Int) (g5 : Nat → Int) (g6 : Nat → Int) (g7 : Nat → Int) :
    xbody (E17 N) ents impl_Hopf_tensor_c1.kp N Go.Proofs.Try.f27 impl_Hopf_tensor_c1.bd [.int .i64 (j0), .int .i64 (k1), .int .i64 (x2), .sptr [(0, 1)], .sptr [(1, 1)], .sptr [(2, 2)], .sptr [(3, 64)]] [⟨false, .avs [.sptr [(4, 64)]]⟩, ⟨true, .avs [.sptr [(5, 2), (6, 1104)]]⟩, ⟨true, .ints .i64 2 g3⟩, ⟨true, .ints .u8 64 g4⟩, ⟨false, .ints .u8 64 g5⟩, ⟨false, .ints .i64 2 g6⟩, ⟨false, .ints .u8 1104 g7⟩] K = (impl_Hopf_tensor_c1 N (fun d0 d1 => K (.tup []) [⟨false, .avs [.sptr [(4, 64)]]⟩, ⟨true, .avs [.sptr [(5, 2), (6, 1104)]]⟩, ⟨true, .ints .i64 2 d0⟩, ⟨true, .ints .u8 64 d1⟩, ⟨false, .ints .u8 64 g5⟩, ⟨false, .ints .i64 2 g6⟩, ⟨false, .ints .u8 1104 g7⟩]) j0 k1 x2 g3 g4 g5 g6 g7) := by kernel_rfl

noncomputable def impl_Hopf_tensor_c1.en (N : Nat) (ρ : Type) : List AV → Heap → (AV → Heap → Option ρ) → Option ρ
  | [.int .i64 (j0), .int .i64 (k1), .int .i64 (x2), .sptr [(0, 1)], .sptr [(1, 1)], .sptr [(2, 2)], .sptr [(3, 64)]], [⟨false, .avs [.sptr [(4, 64)]]⟩, ⟨true, .avs [.sptr [(5, 2), (6, 1104)]]⟩, ⟨true, .ints .i64 2 g3⟩, ⟨true, .ints .u8 64 g4⟩, ⟨false, .ints .u8 64 g5⟩, ⟨false, .ints .i64 2 g6⟩, ⟨false, .ints .u8 1104 g7⟩], K => (impl_Hopf_tensor_c1 N (fun d0 d1 => K (.tup []) [⟨false, .avs [.sptr [(4, 64)]]⟩, ⟨true, .avs [.sptr [(5, 2), (6, 1104)]]⟩, ⟨true, .ints .i64 2 d0⟩, ⟨true, .ints .u8 64 d1⟩, ⟨false, .ints .u8 64 g5⟩, ⟨false, .ints .i64 2 g6⟩, ⟨false, .ints .u8 1104 g7⟩]) j0 k1 x2 g3 g4 g5 g6 g7)
  | _, _, _ => none

theorem impl_Hopf_tensor_c1.en_ok (N : Nat) (hE : EnvOk (E17 N) ents) (ρ : Type) (args : List AV) (sh : Heap) (K : AV → Heap → Option ρ) (r : ρ) (h : impl_Hopf_tensor_c1.en N ρ args sh K = some r) : ∃ v sh', K v sh' = some r ∧ FnOk (E17 N).P 27 args sh v sh' := by
  unfold impl_Hopf_tensor_c1.en at h
  split at h
  · exact fn_ok hE (kp := impl_Hopf_tensor_c1.kp) (N := N) Go.Proofs.Try.func27 (c := impl_Hopf_tensor_c1.bd) (by kernel_rfl) ((impl_Hopf_tensor_c1.eq N _ _ _ _ _ _ _ _ _).trans h)
  · cases h

noncomputable def E18 (N : Nat) : Env := (E17 N).add 27 (impl_Hopf_tensor_c1.en N)

theorem E18_ok (N : Nat) : EnvOk (E18 N) ents := Env.add_ok (E17_ok N) (impl_Hopf_tensor_c1.en_ok N (E17_ok N))

noncomputable def impl_pairs_f.kp : Keeps := ⟨[(0, [0, 1, 7], 8), (2, [0, 1, 4, 7, 14, 15], 8)], [(0, [], 8), (2, [0, 1, 7], 8)]⟩

noncomputable def impl_pairs_f.bd : Code := bodyOf Go.Proofs.Try.f26

noncomputable def impl_pairs_f.fin {ρ : Type} (N : Nat) (K : AV → Heap → Option ρ) (g0 : Nat → Int) (g1 : Nat → Int) (g2 : Nat → Int) (g3 : Nat → Int) (g4 : Nat → Int) (g5 : Nat → Int) : XE → St → Option ρ := finK (E18 N) Go.Proofs.Try.f26 [⟨false, .ints .u8 64 g0⟩, ⟨true, .avs [.sptr [(5, 64)]]⟩, ⟨true, .avs [.sptr [(6, 2), (7, 1104)]]⟩, ⟨true, .ints .i64 2 g1⟩, ⟨true, .ints .u8 64 g2⟩, ⟨false, .ints .u8 64 g3⟩, ⟨false, .ints .i64 2 g4⟩, ⟨false, .ints .u8 1104 g5⟩] K

noncomputable def impl_pairs_f.k0 {ρ : Type} (N : Nat) (K : AV → Heap → Option ρ) (g0 : Nat → Int) (g1 : Nat → Int) (g2 : Nat → Int) (g3 : Nat → Int) (g4 : Nat → Int) (g5 : Nat → Int) : XE → St → Option ρ := (blockK impl_pairs_f.kp 8 0 (impl_pairs_f.fin N K g0 g1 g2 g3 g4 g5))

theorem impl_pairs_f.k0_mix {ρ : Type} (N : Nat) (K : AV → Heap → Option ρ) (g0 : Nat → Int) (g1 : Nat → Int) (g2 : Nat → Int) (g3 : Nat → Int) (g4 : Nat → Int) (g5 : Nat → Int) : mixK (impl_pairs_f.fin N K g0 g1 g2 g3 g4 g5 .ret) (impl_pairs_f.k0 N K g0 g1 g2 g3 g4 g5) = (impl_pairs_f.k0 N K g0 g1 g2 g3 g4 g5) := by
  funext e s; cases e <;> rfl

noncomputable def impl_pairs_f.st0 (g0 : Nat → Int) (g3 : Nat → Int) (g4 : Nat → Int) (g5 : Nat → Int) (x6 : Int) (g7 : Nat → Int) (g8 : Nat → Int) : St := ⟨sl 29 [(0, .sptr [(0, 64)]), (1, .fn 27 0 [[(1, 1)], [(2, 1)], [(3, 2)], [(4, 64)]]), (7, .int .i64 (x6))], [⟨false, .ints .u8 64 g0⟩, ⟨true, .avs [.sptr [(5, 64)]]⟩, ⟨true, .avs [.sptr [(6, 2), (7, 1104)]]⟩, ⟨true, .ints .i64 2 g7⟩, ⟨true, .ints .u8 64 g8⟩, ⟨false, .ints .u8 64 g3⟩, ⟨false, .ints .i64 2 g4⟩, ⟨false, .ints .u8 1104 g5⟩]⟩

noncomputable def impl_pairs_f.sx0_0 (g0 : Nat → Int) (g3 : Nat → Int) (g4 : Nat → Int) (g5 : Nat → Int) (o16 : Nat → Int) (o17 : Nat → Int) : St := ⟨sl 29 [], [⟨false, .ints .u8 64 g0⟩, ⟨true, .avs [.sptr [(5, 64)]]⟩, ⟨true, .avs [.sptr [(6, 2), (7, 1104)]]⟩, ⟨true, .ints .i64 2 o16⟩, ⟨true, .ints .u8 64 o17⟩, ⟨false, .ints .u8 64 g3⟩, ⟨false, .ints .i64 2 g4⟩, ⟨false, .ints .u8 1104 g5⟩]⟩

noncomputable def impl_pairs_f.k1g {ρ : Type} (N : Nat) (L0 : St → Option ρ) (kv : XE → St → Option ρ) : XE → St → Option ρ := (blockK impl_pairs_f.kp 8 2 (blockK impl_pairs_f.kp 8 1 (seqK (xcode (E18 N) ents impl_pairs_f.kp 8 N (cB (cB (cB (cL (cK (cB impl_pairs_f.bd)))))) 0) (roundK impl_pairs_f.kp 8 0 L0 kv))))

theorem impl_pairs_f.k1_mix {ρ : Type} (N : Nat) (K : AV → Heap → Option ρ) (L0 : St → Option ρ) (g0 : Nat → Int) (g1 : Nat → Int) (g2 : Nat → Int) (g3 : Nat → Int) (g4 : Nat → Int) (g5 : Nat → Int) : mixK (impl_pairs_f.fin N K g0 g1 g2 g3 g4 g5 .ret) (impl_pairs_f.k1g N L0 (impl_pairs_f.k0 N K g0 g1 g2 g3 g4 g5)) = (impl_pairs_f.k1g N L0 (impl_pairs_f.k0 N K g0 g1 g2 g3 g4 g5)) := by
  funext e s; cases e <;> rfl

noncomputable def impl_pairs_f.st1 (g0 : Nat → Int) (g3 : Nat → Int) (g4 : Nat → Int) (g5 : Nat → Int) (x6 : Int) (x9 : Int) (g10 : Nat → Int) (g11 : Nat → Int) : St := ⟨sl 29 [(0, .sptr [(0, 64)]), (1, .fn 27 0 [[(1, 1)], [(2, 1)], [(3, 2)], [(4, 64)]]), (4, .int .i64 (x6)), (7, .int .i64 (x6)), (14, .agg [⟨.u8, 8, (fun z => (g0 ((x6.toNat * 8) + z)))⟩]), (15, .int .i64 (x9))], [⟨false, .ints .u8 64 g0⟩, ⟨true, .avs [.sptr [(5, 64)]]⟩, ⟨true, .avs [.sptr [(6, 2), (7, 1104)]]⟩, ⟨true, .ints .i64 2 g10⟩, ⟨true, .ints .u8 64 g11⟩, ⟨false, .ints .u8 64 g3⟩, ⟨false, .ints .i64 2 g4⟩, ⟨false, .ints .u8 1104 g5⟩]⟩

noncomputable def impl_pairs_f.sx1_0 (g0 : Nat → Int) (g3 : Nat → Int) (g4 : Nat → Int) (g5 : Nat → Int) (x6 : Int) (o14 : Nat → Int) (o15 : Nat → Int) : St := ⟨sl 29 [(0, .sptr [(0, 64)]), (1, .fn 27 0 [[(1, 1)], [(2, 1)], [(3, 2)], [(4, 64)]]), (7, .int .i64 (x6))], [⟨false, .ints .u8 64 g0⟩, ⟨true, .avs [.sptr [(5, 64)]]⟩, ⟨true, .avs [.sptr [(6, 2), (7, 1104)]]⟩, ⟨true, .ints .i64 2 o14⟩, ⟨true, .ints .u8 64 o15⟩, ⟨false, .ints .u8 64 g3⟩, ⟨false, .ints .i64 2 g4⟩, ⟨false, .ints .u8 1104 g5⟩]⟩

theorem impl_pairs_f.b1_gen {ρ : Type} (N : Nat) (K : AV → Heap → Option ρ) (L1 : St → Option ρ) (kv : XE → St → Option ρ) (g0 : Nat → Int) (g1 : Nat → Int) (g2 : Nat → Int) (g3 : Nat → Int) (g4 : Nat → Int) (g5 : Nat → Int) (x6 : Int) (x9 : Int) (g10 : Nat → Int) (g11 : Nat → Int) :
    xcode (E18 N) ents impl_pairs_f.kp 8 N (cL (cK (cB (cB (cK (cA (cB (cB (cL (cK (cB impl_pairs_f.bd))))))))))) 2 (impl_pairs_f.st1 g0 g3 g4 g5 x6 x9 g10 g11) (roundK impl_pairs_f.kp 8 2 L1 (mixK (impl_pairs_f.fin N K g0 g1 g2 g3 g4 g5 .ret) kv)) = (impl_pairs_f.b1 N (fun d0 d1 => K (.tup []) [⟨false, .ints .u8 64 g0⟩, ⟨true, .avs [.sptr [(5, 64)]]⟩, ⟨true, .avs [.sptr [(6, 2), (7, 1104)]]⟩, ⟨true, .ints .i64 2 d0⟩, ⟨true, .ints .u8 64 d1⟩, ⟨false, .ints .u8 64 g3⟩, ⟨false, .ints .i64 2 g4⟩, ⟨false, .ints .u8 1104 g5⟩]) (fun x9 g10 g11 => L1 (impl_pairs_f.st1 g0 g3 g4 g5 x6 x9 g10 g11)) (fun o14 o15 => kv (.exit 2) (impl_pairs_f.sx1_0 g0 g3 g4 g5 x6 o14 o15)) g0 g3 g4 g5 x6 x9 g10 g11) := by kernel_rfl

theorem impl_pairs_f.b1_eq {ρ : Type} (N : Nat) (K : AV → Heap → Option ρ) (L0 : St → Option ρ) (L1 : St → Option ρ) (g0 : Nat → Int) (g1 : Nat → Int) (g2 : Nat → Int) (g3 : Nat → Int) (g4 : Nat → Int) (g5 : Nat → Int) (x6 : Int) (x9 : Int) (g10 : Nat → Int) (g11 : Nat → Int) :
    xcode (E18 N) ents impl_pairs_f.kp 8 N (cL (cK (cB (cB (cK (cA (cB (cB (cL (cK (cB impl_pairs_f.bd))))))))))) 2 (impl_pairs_f.st1 g0 g3 g4 g5 x6 x9 g10 g11) (roundK impl_pairs_f.kp 8 2 L1 (impl_pairs_f.k1g N L0 (impl_pairs_f.k0 N K g0 g1 g2 g3 g4 g5))) = (impl_pairs_f.b1 N (fun d0 d1 => K (.tup []) [⟨false, .ints .u8 64 g0⟩, ⟨true, .avs [.sptr [(5, 64)]]⟩, ⟨true, .avs [.sptr [(6, 2), (7, 1104)]]⟩, ⟨true, .ints .i64 2 d0⟩, ⟨true, .ints .u8 64 d1⟩, ⟨false, .ints .u8 64 g3⟩, ⟨false, .ints .i64 2 g4⟩, ⟨false, .ints .u8 1104 g5⟩]) (fun x9 g10 g11 => L1 (impl_pairs_f.st1 g0 g3 g4 g5 x6 x9 g10 g11)) (fun o14 o15 => (impl_pairs_f.k1g N L0 (impl_pairs_f.k0 N K g0 g1 g2 g3 g4 g5)) (.exit 2) (impl_pairs_f.sx1_0 g0 g3 g4 g5 x6 o14 o15)) g0 g3 g4 g5 x6 x9 g10 g11) := by
  have h := impl_pairs_f.b1_gen N K L1 (impl_pairs_f.k1g N L0 (impl_pairs_f.k0 N K g0 g1 g2 g3 g4 g5)) g0 g1 g2 g3 g4 g5 x6 x9 g10 g11
  rw [impl_pairs_f.k1_mix] at h
  exact h

theorem impl_pairs_f.a1_0_gen {ρ : Type} (N : Nat) (K : AV → Heap → Option ρ) (L0 : St → Option ρ) (kv : XE → St → Option ρ) (g0 : Nat → Int) (g1 : Nat → Int) (g2 : Nat → Int) (g3 : Nat → Int) (g4 : Nat → Int) (g5 : Nat → Int) (x6 : Int) (o14 : Nat → Int) (o15 : Nat → Int) :
    (impl_pairs_f.k1g N L0 (mixK (impl_pairs_f.fin N K g0 g1 g2 g3 g4 g5 .ret) kv)) (.exit 2) (impl_pairs_f.sx1_0 g0 g3 g4 g5 x6 o14 o15) = (impl_pairs_f.a1_0 N (fun d0 d1 => K (.tup []) [⟨false, .ints .u8 64 g0⟩, ⟨true, .avs [.sptr [(5, 64)]]⟩, ⟨true, .avs [.sptr [(6, 2), (7, 1104)]]⟩, ⟨true, .ints .i64 2 d0⟩, ⟨true, .ints .u8 64 d1⟩, ⟨false, .ints .u8 64 g3⟩, ⟨false, .ints .i64 2 g4⟩, ⟨false, .ints .u8 1104 g5⟩]) (fun x6 g7 g8 => L0 (impl_pairs_f.st0 g0 g3 g4 g5 x6 g7 g8)) (fun o16 o17 => kv (.exit 0) (impl_pairs_f.sx0_0 g0 g3 g4 g5 o16 o17)) x6 o14 o15) := by kernel_rfl

theorem impl_pairs_f.a1_0_eq {ρ : Type} (N : Nat) (K : AV → Heap → Option ρ) (L0 : St → Option ρ) (g0 : Nat → Int) (g1 : Nat → Int) (g2 : Nat → Int) (g3 : Nat → Int) (g4 : Nat → Int) (g5 : Nat → Int) (x6 : Int) (o14 : Nat → Int) (o15 : Nat → Int) :
    (impl_pairs_f.k1g N L0 (impl_pairs_f.k0 N K g0 g1 g2 g3 g4 g5)) (.exit 2) (impl_pairs_f.sx1_0 g0 g3 g4 g5 x6 o14 o15) = (impl_pairs_f.a1_0 N (fun d0 d1 => K (.tup []) [⟨false, .ints .u8 64 g0⟩, ⟨true, .avs [.sptr [(5, 64)]]⟩, ⟨true, .avs [.sptr [(6, 2), (7, 1104)]]⟩, ⟨true, .ints .i64 2 d0⟩, ⟨true, .ints .u8 64 d1⟩, ⟨false, .ints .u8 64 g3⟩, ⟨false, .ints .i64 2 g4⟩, ⟨false, .ints .u8 1104 g5⟩]) (fun x6 g7 g8 => L0 (impl_pairs_f.st0 g0 g3 g4 g5 x6 g7 g8)) (fun o16 o17 => (impl_pairs_f.k0 N K g0 g1 g2 g3 g4 g5) (.exit 0) (impl_pairs_f.sx0_0 g0 g3 g4 g5 o16 o17)) x6 o14 o15) := by
  have h := impl_pairs_f.a1_0_gen N K L0 (impl_pairs_f.k0 N K g0 g1 g2 g3 g4 g5) g0 g1 g2 g3 g4 g5 x6 o14 o15
  rw [impl_pairs_f.k0_mix] at h
  exact h

theorem impl_pairs_f.b0_gen {ρ : Type} (N : Nat) (K : AV → Heap → Option ρ) (L0 : St → Option ρ) (kv : XE → St → Option ρ) (g0 : Nat → Int) (g1 : Nat → Int) (g2 : Nat → Int) (g3 : Nat → Int) (g4 : Nat → Int) (g5 : Nat → Int) (x6 : Int) (g7 : Nat → Int) (g8 : Nat → Int) :
    xcode (E18 N) ents impl_pairs_f.kp 8 N (cL (cK (cB impl_pairs_f.bd))) 0 (impl_pairs_f.st0 g0 g3 g4 g5 x6 g7 g8) (roundK impl_pairs_f.kp 8 0 L0 (mixK (impl_pairs_f.fin N K g0 g1 g2 g3 g4 g5 .ret) kv)) = (impl_pairs_f.b0 N (fun d0 d1 => K (.tup []) [⟨false, .ints .u8 64 g0⟩, ⟨true, .avs [.sptr [(5, 64)]]⟩, ⟨true, .avs [.sptr [(6, 2), (7, 1104)]]⟩, ⟨true, .ints .i64 2 d0⟩, ⟨true, .ints .u8 64 d1⟩, ⟨false, .ints .u8 64 g3⟩, ⟨false, .ints .i64 2 g4⟩, ⟨false, .ints .u8 1104 g5⟩]) (fun x9 g10 g11 => xloop (xcode (E18 N) ents impl_pairs_f.kp 8 N (cL (cK (cB (cB (cK (cA (cB (cB (cL (cK (cB impl_pairs_f.bd))))))))))) 2) impl_pairs_f.kp 8 2 N (impl_pairs_f.st1 g0 g3 g4 g5 x6 x9 g10 g11) (impl_pairs_f.k1g N L0 (mixK (impl_pairs_f.fin N K g0 g1 g2 g3 g4 g5 .ret) kv))) (fun x6 g7 g8 => L0 (impl_pairs_f.st0 g0 g3 g4 g5 x6 g7 g8)) (fun o16 o17 => kv (.exit 0) (impl_pairs_f.sx0_0 g0 g3 g4 g5 o16 o17)) x6 g7 g8) := by kernel_rfl

theorem impl_pairs_f.b0_eq {ρ : Type} (N : Nat) (K : AV → Heap → Option ρ) (L0 : St → Option ρ) (g0 : Nat → Int) (g1 : Nat → Int) (g2 : Nat → Int) (g3 : Nat → Int) (g4 : Nat → Int) (g5 : Nat → Int) (x6 : Int) (g7 : Nat → Int) (g8 : Nat → Int) :
    xcode (E18 N) ents impl_pairs_f.kp 8 N (cL (cK (cB impl_pairs_f.bd))) 0 (impl_pairs_f.st0 g0 g3 g4 g5 x6 g7 g8) (roundK impl_pairs_f.kp 8 0 L0 (impl_pairs_f.k0 N K g0 g1 g2 g3 g4 g5)) = (impl_pairs_f.b0 N (fun d0 d1 => K (.tup []) [⟨false, .ints .u8 64 g0⟩, ⟨true, .avs [.sptr [(5, 64)]]⟩, ⟨true, .avs [.sptr [(6, 2), (7, 1104)]]⟩, ⟨true, .ints .i64 2 d0⟩, ⟨true, .ints .u8 64 d1⟩, ⟨false, .ints .u8 64 g3⟩, ⟨false, .ints .i64 2 g4⟩, ⟨false, .ints .u8 1104 g5⟩]) (fun x9 g10 g11 => xloop (xcode (E18 N) ents impl_pairs_f.kp 8 N (cL (cK (cB (cB (cK (cA (cB (cB (cL (cK (cB impl_pairs_f.bd))))))))))) 2) impl_pairs_f.kp 8 2 N (impl_pairs_f.st1 g0 g3 g4 g5 x6 x9 g10 g11) (impl_pairs_f.k1g N L0 (impl_pairs_f.k0 N K g0 g1 g2 g3 g4 g5))) (fun x6 g7 g8 => L0 (impl_pairs_f.st0 g0 g3 g4 g5 x6 g7 g8)) (fun o16 o17 => (impl_pairs_f.k0 N K g0 g1 g2 g3 g4 g5) (.exit 0) (impl_pairs_f.sx0_0 g0 g3 g4 g5 o16 o17)) x6 g7 g8) := by
  have h := impl_pairs_f.b0_gen N K L0 (impl_pairs_f.k0 N K g0 g1 g2 g3 g4 g5) g0 g1 g2 g3 g4 g5 x6 g7 g8
  rw [impl_pairs_f.k0_mix] at h
  exact h

theorem impl_pairs_f.a0_0_eq {ρ : Type} (N : Nat) (K : AV → Heap → Option ρ) (g0 : Nat → Int) (g1 : Nat → Int) (g2 : Nat → Int) (g3 : Nat → Int) (g4 : Nat → Int) (g5 : Nat → Int) (o16 : Nat → Int) (o17 : Nat → Int) :
    (impl_pairs_f.k0 N K g0 g1 g2 g3 g4 g5) (.exit 0) (impl_pairs_f.sx0_0 g0 g3 g4 g5 o16 o17) = (impl_pairs_f.a0_0 N (fun d0 d1 => K (.tup []) [⟨false, .ints .u8 64 g0⟩, ⟨true, .avs [.sptr [(5, 64)]]⟩, ⟨true, .avs [.sptr [(6, 2), (7, 1104)]]⟩, ⟨true, .ints .i64 2 d0⟩, ⟨true, .ints .u8 64 d1⟩, ⟨false, .ints .u8 64 g3⟩, ⟨false, .ints .i64 2 g4⟩, ⟨false, .ints .u8 1104 g5⟩]) o16 o17) := by kernel_rfl

theorem impl_pairs_f.l1_eq {ρ : Type} (N : Nat) (K : AV → Heap → Option ρ) (L0 : St → Option ρ) (g0 : Nat → Int) (g1 : Nat → Int) (g2 : Nat → Int) (g3 : Nat → Int) (g4 : Nat → Int) (g5 : Nat → Int) (x6 : Int) :
    ∀ (m : Nat) (x9 : Int) (g10 : Nat → Int) (g11 : Nat → Int), xloop (xcode (E18 N) ents impl_pairs_f.kp 8 N (cL (cK (cB (cB (cK (cA (cB (cB (cL (cK (cB impl_pairs_f.bd))))))))))) 2) impl_pairs_f.kp 8 2 m (impl_pairs_f.st1 g0 g3 g4 g5 x6 x9 g10 g11) (impl_pairs_f.k1g N L0 (impl_pairs_f.k0 N K g0 g1 g2 g3 g4 g5)) = (impl_pairs_f.l1 N (fun d0 d1 => K (.tup []) [⟨false, .ints .u8 64 g0⟩, ⟨true, .avs [.sptr [(5, 64)]]⟩, ⟨true, .avs [.sptr [(6, 2), (7, 1104)]]⟩, ⟨true, .ints .i64 2 d0⟩, ⟨true, .ints .u8 64 d1⟩, ⟨false, .ints .u8 64 g3⟩, ⟨false, .ints .i64 2 g4⟩, ⟨false, .ints .u8 1104 g5⟩]) g0 g3 g4 g5 x6 (fun o14 o15 => (impl_pairs_f.k1g N L0 (impl_pairs_f.k0 N K g0 g1 g2 g3 g4 g5)) (.exit 2) (impl_pairs_f.sx1_0 g0 g3 g4 g5 x6 o14 o15)) m x9 g10 g11) := by
  intro m
  induction m with
  | zero => intros; rfl
  | succ m ih =>
    intro x9 g10 g11
    refine (impl_pairs_f.b1_eq N K L0 (fun s => xloop (xcode (E18 N) ents impl_pairs_f.kp 8 N (cL (cK (cB (cB (cK (cA (cB (cB (cL (cK (cB impl_pairs_f.bd))))))))))) 2) impl_pairs_f.kp 8 2 m s (impl_pairs_f.k1g N L0 (impl_pairs_f.k0 N K g0 g1 g2 g3 g4 g5))) g0 g1 g2 g3 g4 g5 x6 x9 g10 g11).trans ?_
    simp only [ih]
    kernel_rfl

theorem impl_pairs_f.l0_eq {ρ : Type} (N : Nat) (K : AV → Heap → Option ρ) (g0 : Nat → Int) (g1 : Nat → Int) (g2 : Nat → Int) (g3 : Nat → Int) (g4 : Nat → Int) (g5 : Nat → Int) :
    ∀ (m : Nat) (x6 : Int) (g7 : Nat → Int) (g8 : Nat → Int), xloop (xcode (E18 N) ents impl_pairs_f.kp 8 N (cL (cK (cB impl_pairs_f.bd))) 0) impl_pairs_f.kp 8 0 m (impl_pairs_f.st0 g0 g3 g4 g5 x6 g7 g8) (impl_pairs_f.k0 N K g0 g1 g2 g3 g4 g5) = (impl_pairs_f.l0 N (fun d0 d1 => K (.tup []) [⟨false, .ints .u8 64 g0⟩, ⟨true, .avs [.sptr [(5, 64)]]⟩, ⟨true, .avs [.sptr [(6, 2), (7, 1104)]]⟩, ⟨true, .ints .i64 2 d0⟩, ⟨true, .ints .u8 64 d1⟩, ⟨false, .ints .u8 64 g3⟩, ⟨false, .ints .i64 2 g4⟩, ⟨false, .ints .u8 1104 g5⟩]) g0 g3 g4 g5 (fun o16 o17 => (impl_pairs_f.k0 N K g0 g1 g2 g3 g4 g5) (.exit 0) (impl_pairs_f.sx0_0 g0 g3 g4 g5 o16 o17)) m x6 g7 g8) := by
  intro m
  induction m with
  | zero => intros; rfl
  | succ m ih =>
    intro x6 g7 g8
    refine (impl_pairs_f.b0_eq N K (fun s => xloop (xcode (E18 N) ents impl_pairs_f.kp 8 N (cL (cK (cB impl_pairs_f.bd))) 0) impl_pairs_f.kp 8 0 m s (impl_pairs_f.k0 N K g0 g1 g2 g3 g4 g5)) g0 g1 g2 g3 g4 g5 x6 g7 g8).trans ?_
    simp only [ih, impl_pairs_f.l1_eq, impl_pairs_f.a1_0_eq]
    kernel_rfl

theorem impl_pairs_f.s_eq {ρ : Type} (N : Nat) (K : AV → Heap → Option ρ) (g0 : Nat → Int) (g1 : Nat → Int) (g2 : Nat → Int) (g3 : Nat → Int) (g4 : Nat → Int) (g5 : Nat → Int) :
    xbody (E18 N) ents impl_pairs_f.kp N Go.Proofs.Try.f26 impl_pairs_f.bd [.sptr [(0, 64)], .fn 27 0 [[(1, 1)], [(2, 1)], [(3, 2)], [(4, 64)]]] [⟨false, .ints .u8 64 g0⟩, ⟨true, .avs [.sptr [(5, 64)]]⟩, ⟨true, .avs [.sptr [(6, 2), (7, 1104)]]⟩, ⟨true, .ints .i64 2 g1⟩, ⟨true, .ints .u8 64 g2⟩, ⟨false, .ints .u8 64 g3⟩, ⟨false, .ints .i64 2 g4⟩, ⟨false, .ints .u8 1104 g5⟩] K = (impl_pairs_f.s N (fun d0 d1 => K (.tup []) [⟨false, .ints .u8 64 g0⟩, ⟨true, .avs [.sptr [(5, 64)]]⟩, ⟨true, .avs [.sptr [(6, 2), (7, 1104)]]⟩, ⟨true, .ints .i64 2 d0⟩, ⟨true, .ints .u8 64 d1⟩, ⟨false, .ints .u8 64 g3⟩, ⟨false, .ints .i64 2 g4⟩, ⟨false, .ints .u8 1104 g5⟩]) (fun x6 g7 g8 => xloop (xcode (E18 N) ents impl_pairs_f.kp 8 N (cL (cK (cB impl_pairs_f.bd))) 0) impl_pairs_f.kp 8 0 N (impl_pairs_f.st0 g0 g3 g4 g5 x6 g7 g8) (impl_pairs_f.k0 N K g0 g1 g2 g3 g4 g5)) g1 g2) := by kernel_rfl

theorem impl_pairs_f.eq {ρ : Type} (N : Nat) (K : AV → Heap → Option ρ) (g0 : Nat → Int) (g1 : Nat → Int) (g2 : Nat → Int) (g3 : Nat → Int) (g4 : Nat → Int) (g5 : Nat → Int) :
    xbody (E18 N) ents impl_pairs_f.kp N Go.Proofs.Try.f26 impl_pairs_f.bd [.sptr [(0, 64)], .fn 27 0 [[(1, 1)], [(2, 1)], [(3, 2)], [(4, 64)]]] [⟨false, .ints .u8 64 g0⟩, ⟨true, .avs [.sptr [(5, 64)]]⟩, ⟨true, .avs [.sptr [(6, 2), (7, 1104)]]⟩, ⟨true, .ints .i64 2 g1⟩, ⟨true, .ints .u8 64 g2⟩, ⟨false, .ints .u8 64 g3⟩, ⟨false, .ints .i64 2 g4⟩, ⟨false, .ints .u8 1104 g5⟩] K = (impl_pairs_f N (fun d0 d1 => K (.tup []) [⟨false, .ints .u8 64 g0⟩, ⟨true, .avs [.sptr [(5, 64)]]⟩, ⟨true, .avs [.sptr [(6, 2), (7, 1104)]]⟩, ⟨true, .ints .i64 2 d0⟩, ⟨true, .ints .u8 64 d1⟩, ⟨false, .ints .u8 64 g3⟩, ⟨false, .ints .i64 2 g4⟩, ⟨false, .ints .u8 1104 g5⟩]) g0 g1 g2 g3 g4 g5) := by
  refine (impl_pairs_f.s_eq N K g0 g1 g2 g3 g4 g5).trans ?_
  simp only [impl_pairs_f.l0_eq, impl_pairs_f.a0_0_eq]
  kernel_rfl

noncomputable def impl_pairs_f.en (N : Nat) (ρ : Type) : List AV → Heap → (AV → Heap → Option ρ) → Option ρ
  | [.sptr [(0, 64)], .fn 27 0 [[(1, 1)], [(2, 1)], [(3, 2)], [(4, 64)]]], [⟨false, .ints .u8 64 g0⟩, ⟨true, .avs [.sptr [(5, 64)]]⟩, ⟨true, .avs [.sptr [(6, 2), (7, 1104)]]⟩, ⟨true, .ints .i64 2 g1⟩, ⟨true, .ints .u8 64 g2⟩, ⟨false, .ints .u8 64 g3⟩, ⟨false, .ints .i64 2 g4⟩, ⟨false, .ints .u8 1104 g5⟩], K => (impl_pairs_f N (fun d0 d1 => K (.tup []) [⟨false, .ints .u8 64 g0⟩, ⟨true, .avs [.sptr [(5, 64)]]⟩, ⟨true, .avs [.sptr [(6, 2), (7, 1104)]]⟩, ⟨true, .ints .i64 2 d0⟩, ⟨true, .ints .u8 64 d1⟩, ⟨false, .ints .u8 64 g3⟩, ⟨false, .ints .i64 2 g4⟩, ⟨false, .ints .u8 1104 g5⟩]) g0 g1 g2 g3 g4 g5)
  | args, sh, K => (E18 N).fn 26 ρ args sh K

theorem impl_pairs_f.en_ok (N : Nat) (hE : EnvOk (E18 N) ents) (ρ : Type) (args : List AV) (sh : Heap) (K : AV → Heap → Option ρ) (r : ρ) (h : impl_pairs_f.en N ρ args sh K = some r) : ∃ v sh', K v sh' = some r ∧ FnOk (E18 N).P 26 args sh v sh' := by
  unfold impl_pairs_f.en at h
  split at h
  · exact fn_ok hE (kp := impl_pairs_f.kp) (N := N) Go.Proofs.Try.func26 (c := impl_pairs_f.bd) (by kernel_rfl) ((impl_pairs_f.eq N _ _ _ _ _ _ _).trans h)
  · exact hE.spec _ _ _ _ _ _ h

noncomputable def E19 (N : Nat) : Env := (E18 N).add 26 (impl_pairs_f.en N)

theorem E19_ok (N : Nat) : EnvOk (E19 N) ents := Env.add_ok (E18_ok N) (impl_pairs_f.en_ok N (E18_ok N))

noncomputable def impl_Hopf_tensor.kp : Keeps := ⟨[], []⟩

noncomputable def impl_Hopf_tensor.bd : Code := bodyOf Go.Proofs.Try.f22

noncomputable def impl_Hopf_tensor.fin {ρ : Type} (N : Nat) (K : AV → Heap → Option ρ) (g0 : Nat → Int) (g1 : Nat → Int) (g2 : Nat → Int) (g3 : Nat → Int) : XE → St → Option ρ := finK (E19 N) Go.Proofs.Try.f22 [⟨false, .ints .i64 2 g0⟩, ⟨false, .ints .u8 1104 g1⟩, ⟨false, .ints .u8 64 g2⟩, ⟨false, .ints .u8 64 g3⟩] K

theorem impl_Hopf_tensor.eq {ρ : Type} (N : Nat) (K : AV → Heap → Option ρ) (g0 : Nat → Int) (g1 : Nat → Int) (g2 : Nat → Int) (g3 : Nat → Int) :
    xbody (E19 N) ents impl_Hopf_tensor.kp N Go.Proofs.Try.f22 impl_Hopf_tensor.bd [.sptr [(0, 2), (1, 1104)], .sptr [(2, 64)], .sptr [(3, 64)]] [⟨false, .ints .i64 2 g0⟩, ⟨false, .ints .u8 1104 g1⟩, ⟨false, .ints .u8 64 g2⟩, ⟨false, .ints .u8 64 g3⟩] K = (impl_Hopf_tensor N (fun d0 => K (.agg [⟨.u8, 64, d0⟩]) [⟨false, .ints .i64 2 g0⟩, ⟨false, .ints .u8 1104 g1⟩, ⟨false, .ints .u8 64 g2⟩, ⟨false, .ints .u8 64 g3⟩]) g0 g1 g2 g3) := by kernel_rfl

noncomputable def impl_Hopf_tensor.en (N : Nat) (ρ : Type) : List AV → Heap → (AV → Heap → Option ρ) → Option ρ
  | [.sptr [(0, 2), (1, 1104)], .sptr [(2, 64)], .sptr [(3, 64)]], [⟨false, .ints .i64 2 g0⟩, ⟨false, .ints .u8 1104 g1⟩, ⟨false, .ints .u8 64 g2⟩, ⟨false, .ints .u8 64 g3⟩], K => (impl_Hopf_tensor N (fun d0 => K (.agg [⟨.u8, 64, d0⟩]) [⟨false, .ints .i64 2 g0⟩, ⟨false, .ints .u8 1104 g1⟩, ⟨false, .ints .u8 64 g2⟩, ⟨false, .ints .u8 64 g3⟩]) g0 g1 g2 g3)
  | _, _, _ => none

theorem impl_Hopf_tensor.en_ok (N : Nat) (hE : EnvOk (E19 N) ents) (ρ : Type) (args : List AV) (sh : Heap) (K : AV → Heap → Option ρ) (r : ρ) (h : impl_Hopf_tensor.en N ρ args sh K = some r) : ∃ v sh', K v sh' = some r ∧ FnOk (E19 N).P 22 args sh v sh' := by
  unfold impl_Hopf_tensor.en at h
  split at h
  · exact fn_ok hE (kp := impl_Hopf_tensor.kp) (N := N) Go.Proofs.Try.func22 (c := impl_Hopf_tensor.bd) (by kernel_rfl) ((impl_Hopf_tensor.eq N _ _ _ _ _).trans h)
  · cases h

noncomputable def E20 (N : Nat) : Env := (E19 N).add 22 (impl_Hopf_tensor.en N)

theorem E20_ok (N : Nat) : EnvOk (E20 N) ents := Env.add_ok (E19_ok N) (impl_Hopf_tensor.en_ok N (E19_ok N))

noncomputable def impl_Hopf_product.kp : Keeps := ⟨[(0, [0, 4, 5, 6, 7, 8, 15, 16], 7), (2, [0, 4, 5, 6, 7, 8, 9, 15, 16, 24, 25], 7)], [(0, [6, 8], 7), (2, [0, 4, 5, 6, 7, 8, 15, 16], 7)]⟩

noncomputable def impl_Hopf_product.bd : Code := bodyOf Go.Proofs.Try.f23

noncomputable def impl_Hopf_product.fin {ρ : Type} (N : Nat) (K : AV → Heap → Option ρ) (g2 : Nat → Int) (g3 : Nat → Int) : XE → St → Option ρ := finK (E20 N) Go.Proofs.Try.f23 [⟨false, .ints .i64 2 g2⟩, ⟨false, .ints .u8 1104 g3⟩] K

noncomputable def impl_Hopf_product.k0 {ρ : Type} (N : Nat) (K : AV → Heap → Option ρ) (g2 : Nat → Int) (g3 : Nat → Int) : XE → St → Option ρ := (blockK impl_Hopf_product.kp 2 0 (seqK (xcode (E20 N) ents impl_Hopf_product.kp 2 N (cB (cB (cB impl_Hopf_product.bd))) 0) (impl_Hopf_product.fin N K g2 g3)))

theorem impl_Hopf_product.k0_mix {ρ : Type} (N : Nat) (K : AV → Heap → Option ρ) (g2 : Nat → Int) (g3 : Nat → Int) : mixK (impl_Hopf_product.fin N K g2 g3 .ret) (impl_Hopf_product.k0 N K g2 g3) = (impl_Hopf_product.k0 N K g2 g3) := by
  funext e s; cases e <;> rfl

noncomputable def impl_Hopf_product.st0 (v0 : Nat → Int) (w1 : Nat → Int) (g2 : Nat → Int) (g3 : Nat → Int) (r4 : Nat → Int) (x5 : Int) (g6 : Nat → Int) : St := ⟨sl 50 [(0, .sptr [(0, 2), (1, 1104)]), (4, .sptr [(2, 8)]), (5, .sptr [(3, 8)]), (6, .sptr [(4, 8)]), (7, .sptr [(5, 2)]), (8, .sptr [(6, 8)]), (15, .int .i64 ((r4 1))), (16, .int .i64 (x5))], [⟨false, .ints .i64 2 g2⟩, ⟨false, .ints .u8 1104 g3⟩, ⟨true, .ints .u8 8 v0⟩, ⟨true, .ints .u8 8 w1⟩, ⟨true, .ints .u8 8 (fun _ => 0)⟩, ⟨true, .ints .i64 2 r4⟩, ⟨true, .ints .u8 8 g6⟩]⟩

noncomputable def impl_Hopf_product.sx0_0 (v0 : Nat → Int) (w1 : Nat → Int) (g2 : Nat → Int) (g3 : Nat → Int) (r4 : Nat → Int) (o11 : Nat → Int) : St := ⟨sl 50 [(6, .sptr [(4, 8)]), (8, .sptr [(6, 8)])], [⟨false, .ints .i64 2 g2⟩, ⟨false, .ints .u8 1104 g3⟩, ⟨true, .ints .u8 8 v0⟩, ⟨true, .ints .u8 8 w1⟩, ⟨true, .ints .u8 8 (fun _ => 0)⟩, ⟨true, .ints .i64 2 r4⟩, ⟨true, .ints .u8 8 o11⟩]⟩

noncomputable def impl_Hopf_product.k1g {ρ : Type} (N : Nat) (L0 : St → Option ρ) (kv : XE → St → Option ρ) : XE → St → Option ρ := (blockK impl_Hopf_product.kp 2 2 (blockK impl_Hopf_product.kp 2 1 (seqK (xcode (E20 N) ents impl_Hopf_product.kp 2 N (cB (cB (cB (cL (cK (cB (cA (cB (cB impl_Hopf_product.bd))))))))) 0) (roundK impl_Hopf_product.kp 2 0 L0 kv))))

theorem impl_Hopf_product.k1_mix {ρ : Type} (N : Nat) (K : AV → Heap → Option ρ) (L0 : St → Option ρ) (g2 : Nat → Int) (g3 : Nat → Int) : mixK (impl_Hopf_product.fin N K g2 g3 .ret) (impl_Hopf_product.k1g N L0 (impl_Hopf_product.k0 N K g2 g3)) = (impl_Hopf_product.k1g N L0 (impl_Hopf_product.k0 N K g2 g3)) := by
  funext e s; cases e <;> rfl

noncomputable def impl_Hopf_product.st1 (v0 : Nat → Int) (w1 : Nat → Int) (g2 : Nat → Int) (g3 : Nat → Int) (r4 : Nat → Int) (x5 : Int) (x7 : Int) (g8 : Nat → Int) : St := ⟨sl 50 [(0, .sptr [(0, 2), (1, 1104)]), (4, .sptr [(2, 8)]), (5, .sptr [(3, 8)]), (6, .sptr [(4, 8)]), (7, .sptr [(5, 2)]), (8, .sptr [(6, 8)]), (9, .int .i64 (x5)), (15, .int .i64 ((r4 1))), (16, .int .i64 (x5)), (24, .int .i64 ((r4 1))), (25, .int .i64 (x7))], [⟨false, .ints .i64 2 g2⟩, ⟨false, .ints .u8 1104 g3⟩, ⟨true, .ints .u8 8 v0⟩, ⟨true, .ints .u8 8 w1⟩, ⟨true, .ints .u8 8 (fun _ => 0)⟩, ⟨true, .ints .i64 2 r4⟩, ⟨true, .ints .u8 8 g8⟩]⟩

noncomputable def impl_Hopf_product.sx1_0 (v0 : Nat → Int) (w1 : Nat → Int) (g2 : Nat → Int) (g3 : Nat → Int) (r4 : Nat → Int) (x5 : Int) (o10 : Nat → Int) : St := ⟨sl 50 [(0, .sptr [(0, 2), (1, 1104)]), (4, .sptr [(2, 8)]), (5, .sptr [(3, 8)]), (6, .sptr [(4, 8)]), (7, .sptr [(5, 2)]), (8, .sptr [(6, 8)]), (15, .int .i64 ((r4 1))), (16, .int .i64 (x5))], [⟨false, .ints .i64 2 g2⟩, ⟨false, .ints .u8 1104 g3⟩, ⟨true, .ints .u8 8 v0⟩, ⟨true, .ints .u8 8 w1⟩, ⟨true, .ints .u8 8 (fun _ => 0)⟩, ⟨true, .ints .i64 2 r4⟩, ⟨true, .ints .u8 8 o10⟩]⟩

theorem impl_Hopf_product.b1_gen {ρ : Type} (N : Nat) (K : AV → Heap → Option ρ) (L1 : St → Option ρ) (kv : XE → St → Option ρ) (v0 : Nat → Int) (w1 : Nat → Int) (g2 : Nat → Int) (g3 : Nat → Int) (r4 : Nat → Int) (x5 : Int) (x7 : Int) (g8 : Nat → Int) :
    xcode (E20 N) ents impl_Hopf_product.kp 2 N (cL (cK (cB (cB (cB (cK (cA (cB (cB (cL (cK (cB (cA (cB (cB impl_Hopf_product.bd))))))))))))))) 2 (impl_Hopf_product.st1 v0 w1 g2 g3 r4 x5 x7 g8) (roundK impl_Hopf_product.kp 2 2 L1 (mixK (impl_Hopf_product.fin N K g2 g3 .ret) kv)) = (impl_Hopf_product.b1 N (fun d0 => K (.agg [⟨.u8, 8, d0⟩]) [⟨false, .ints .i64 2 g2⟩, ⟨false, .ints .u8 1104 g3⟩]) (fun x7 g8 => L1 (impl_Hopf_product.st1 v0 w1 g2 g3 r4 x5 x7 g8)) (fun o10 => kv (.exit 2) (impl_Hopf_product.sx1_0 v0 w1 g2 g3 r4 x5 o10)) v0 w1 g3 r4 x5 x7 g8) := by kernel_rfl

theorem impl_Hopf_product.b1_eq {ρ : Type} (N : Nat) (K : AV → Heap → Option ρ) (L0 : St → Option ρ) (L1 : St → Option ρ) (v0 : Nat → Int) (w1 : Nat → Int) (g2 : Nat → Int) (g3 : Nat → Int) (r4 : Nat → Int) (x5 : Int) (x7 : Int) (g8 : Nat → Int) :
    xcode (E20 N) ents impl_Hopf_product.kp 2 N (cL (cK (cB (cB (cB (cK (cA (cB (cB (cL (cK (cB (cA (cB (cB impl_Hopf_product.bd))))))))))))))) 2 (impl_Hopf_product.st1 v0 w1 g2 g3 r4 x5 x7 g8) (roundK impl_Hopf_product.kp 2 2 L1 (impl_Hopf_product.k1g N L0 (impl_Hopf_product.k0 N K g2 g3))) = (impl_Hopf_product.b1 N (fun d0 => K (.agg [⟨.u8, 8, d0⟩]) [⟨false, .ints .i64 2 g2⟩, ⟨false, .ints .u8 1104 g3⟩]) (fun x7 g8 => L1 (impl_Hopf_product.st1 v0 w1 g2 g3 r4 x5 x7 g8)) (fun o10 => (impl_Hopf_product.k1g N L0 (impl_Hopf_product.k0 N K g2 g3)) (.exit 2) (impl_Hopf_product.sx1_0 v0 w1 g2 g3 r4 x5 o10)) v0 w1 g3 r4 x5 x7 g8) := by
  have h := impl_Hopf_product.b1_gen N K L1 (impl_Hopf_product.k1g N L0 (impl_Hopf_product.k0 N K g2 g3)) v0 w1 g2 g3 r4 x5 x7 g8
  rw [impl_Hopf_product.k1_mix] at h
  exact h

theorem impl_Hopf_product.a1_0_gen {ρ : Type} (N : Nat) (K : AV → Heap → Option ρ) (L0 : St → Option ρ) (kv : XE → St → Option ρ) (v0 : Nat → Int) (w1 : Nat → Int) (g2 : Nat → Int) (g3 : Nat → Int) (r4 : Nat → Int) (x5 : Int) (o10 : Nat → Int) :
    (impl_Hopf_product.k1g N L0 (mixK (impl_Hopf_product.fin N K g2 g3 .ret) kv)) (.exit 2) (impl_Hopf_product.sx1_0 v0 w1 g2 g3 r4 x5 o10) = (impl_Hopf_product.a1_0 N (fun d0 => K (.agg [⟨.u8, 8, d0⟩]) [⟨false, .ints .i64 2 g2⟩, ⟨false, .ints .u8 1104 g3⟩]) (fun x5 g6 => L0 (impl_Hopf_product.st0 v0 w1 g2 g3 r4 x5 g6)) (fun o11 => kv (.exit 0) (impl_Hopf_product.sx0_0 v0 w1 g2 g3 r4 o11)) x5 o10) := by kernel_rfl

theorem impl_Hopf_product.a1_0_eq {ρ : Type} (N : Nat) (K : AV → Heap → Option ρ) (L0 : St → Option ρ) (v0 : Nat → Int) (w1 : Nat → Int) (g2 : Nat → Int) (g3 : Nat → Int) (r4 : Nat → Int) (x5 : Int) (o10 : Nat → Int) :
    (impl_Hopf_product.k1g N L0 (impl_Hopf_product.k0 N K g2 g3)) (.exit 2) (impl_Hopf_product.sx1_0 v0 w1 g2 g3 r4 x5 o10) = (impl_Hopf_product.a1_0 N (fun d0 => K (.agg [⟨.u8, 8, d0⟩]) [⟨false, .ints .i64 2 g2⟩, ⟨false, .ints .u8 1104 g3⟩]) (fun x5 g6 => L0 (impl_Hopf_product.st0 v0 w1 g2 g3 r4 x5 g6)) (fun o11 => (impl_Hopf_product.k0 N K g2 g3) (.exit 0) (impl_Hopf_product.sx0_0 v0 w1 g2 g3 r4 o11)) x5 o10) := by
  have h := impl_Hopf_product.a1_0_gen N K L0 (impl_Hopf_product.k0 N K g2 g3) v0 w1 g2 g3 r4 x5 o10
  rw [impl_Hopf_product.k0_mix] at h
  exact h

theorem impl_Hopf_product.b0_gen {ρ : Type} (N : Nat) (K : AV → Heap → Option ρ) (L0 : St → Option ρ) (kv : XE → St → Option ρ) (v0 : Nat → Int) (w1 : Nat → Int) (g2 : Nat → Int) (g3 : Nat → Int) (r4 : Nat → Int) (x5 : Int) (g6 : Nat → Int) :
    xcode (E20 N) ents impl_Hopf_product.kp 2 N (cL (cK (cB (cA (cB (cB impl_Hopf_product.bd)))))) 0 (impl_Hopf_product.st0 v0 w1 g2 g3 r4 x5 g6) (roundK impl_Hopf_product.kp 2 0 L0 (mixK (impl_Hopf_product.fin N K g2 g3 .ret) kv)) = (impl_Hopf_product.b0 N (fun d0 => K (.agg [⟨.u8, 8, d0⟩]) [⟨false, .ints .i64 2 g2⟩, ⟨false, .ints .u8 1104 g3⟩]) (fun x7 g8 => xloop (xcode (E20 N) ents impl_Hopf_product.kp 2 N (cL (cK (cB (cB (cB (cK (cA (cB (cB (cL (cK (cB (cA (cB (cB impl_Hopf_product.bd))))))))))))))) 2) impl_Hopf_product.kp 2 2 N (impl_Hopf_product.st1 v0 w1 g2 g3 r4 x5 x7 g8) (impl_Hopf_product.k1g N L0 (mixK (impl_Hopf_product.fin N K g2 g3 .ret) kv))) (fun x5 g6 => L0 (impl_Hopf_product.st0 v0 w1 g2 g3 r4 x5 g6)) (fun o11 => kv (.exit 0) (impl_Hopf_product.sx0_0 v0 w1 g2 g3 r4 o11)) v0 r4 x5 g6) := by kernel_rfl

theorem impl_Hopf_product.b0_eq {ρ : Type} (N : Nat) (K : AV → Heap → Option ρ) (L0 : St → Option ρ) (v0 : Nat → Int) (w1 : Nat → Int) (g2 : Nat → Int) (g3 : Nat → Int) (r4 : Nat → Int) (x5 : Int) (g6 : Nat → Int) :
    xcode (E20 N) ents impl_Hopf_product.kp 2 N (cL (cK (cB (cA (cB (cB impl_Hopf_product.bd)))))) 0 (impl_Hopf_product.st0 v0 w1 g2 g3 r4 x5 g6) (roundK impl_Hopf_product.kp 2 0 L0 (impl_Hopf_product.k0 N K g2 g3)) = (impl_Hopf_product.b0 N (fun d0 => K (.agg [⟨.u8, 8, d0⟩]) [⟨false, .ints .i64 2 g2⟩, ⟨false, .ints .u8 1104 g3⟩]) (fun x7 g8 => xloop (xcode (E20 N) ents impl_Hopf_product.kp 2 N (cL (cK (cB (cB (cB (cK (cA (cB (cB (cL (cK (cB (cA (cB (cB impl_Hopf_product.bd))))))))))))))) 2) impl_Hopf_product.kp 2 2 N (impl_Hopf_product.st1 v0 w1 g2 g3 r4 x5 x7 g8) (impl_Hopf_product.k1g N L0 (impl_Hopf_product.k0 N K g2 g3))) (fun x5 g6 => L0 (impl_Hopf_product.st0 v0 w1 g2 g3 r4 x5 g6)) (fun o11 => (impl_Hopf_product.k0 N K g2 g3) (.exit 0) (impl_Hopf_product.sx0_0 v0 w1 g2 g3 r4 o11)) v0 r4 x5 g6) := by
  have h := impl_Hopf_product.b0_gen N K L0 (impl_Hopf_product.k0 N K g2 g3) v0 w1 g2 g3 r4 x5 g6
  rw [impl_Hopf_product.k0_mix] at h
  exact h

theorem impl_Hopf_product.a0_0_eq {ρ : Type} (N : Nat) (K : AV → Heap → Option ρ) (v0 : Nat → Int) (w1 : Nat → Int) (g2 : Nat → Int) (g3 : Nat → Int) (r4 : Nat → Int) (o11 : Nat → Int) :
    (impl_Hopf_product.k0 N K g2 g3) (.exit 0) (impl_Hopf_product.sx0_0 v0 w1 g2 g3 r4 o11) = (impl_Hopf_product.a0_0 N (fun d0 => K (.agg [⟨.u8, 8, d0⟩]) [⟨false, .ints .i64 2 g2⟩, ⟨false, .ints .u8 1104 g3⟩]) o11) := by kernel_rfl

theorem impl_Hopf_product.l1_eq {ρ : Type} (N : Nat) (K : AV → Heap → Option ρ) (L0 : St → Option ρ) (v0 : Nat → Int) (w1 : Nat → Int) (g2 : Nat → Int) (g3 : Nat → Int) (r4 : Nat → Int) (x5 : Int) :
    ∀ (m : Nat) (x7 : Int) (g8 : Nat → Int), xloop (xcode (E20 N) ents impl_Hopf_product.kp 2 N (cL (cK (cB (cB (cB (cK (cA (cB (cB (cL (cK (cB (cA (cB (cB impl_Hopf_product.bd))))))))))))))) 2) impl_Hopf_product.kp 2 2 m (impl_Hopf_product.st1 v0 w1 g2 g3 r4 x5 x7 g8) (impl_Hopf_product.k1g N L0 (impl_Hopf_product.k0 N K g2 g3)) = (impl_Hopf_product.l1 N (fun d0 => K (.agg [⟨.u8, 8, d0⟩]) [⟨false, .ints .i64 2 g2⟩, ⟨false, .ints .u8 1104 g3⟩]) v0 w1 g3 r4 x5 (fun o10 => (impl_Hopf_product.k1g N L0 (impl_Hopf_product.k0 N K g2 g3)) (.exit 2) (impl_Hopf_product.sx1_0 v0 w1 g2 g3 r4 x5 o10)) m x7 g8) := by
  intro m
  induction m with
  | zero => intros; rfl
  | succ m ih =>
    intro x7 g8
    refine (impl_Hopf_product.b1_eq N K L0 (fun s => xloop (xcode (E20 N) ents impl_Hopf_product.kp 2 N (cL (cK (cB (cB (cB (cK (cA (cB (cB (cL (cK (cB (cA (cB (cB impl_Hopf_product.bd))))))))))))))) 2) impl_Hopf_product.kp 2 2 m s (impl_Hopf_product.k1g N L0 (impl_Hopf_product.k0 N K g2 g3))) v0 w1 g2 g3 r4 x5 x7 g8).trans ?_
    simp only [ih]
    kernel_rfl

theorem impl_Hopf_product.l0_eq {ρ : Type} (N : Nat) (K : AV → Heap → Option ρ) (v0 : Nat → Int) (w1 : Nat → Int) (g2 : Nat → Int) (g3 : Nat → Int) (r4 : Nat → Int) :
    ∀ (m : Nat) (x5 : Int) (g6 : Nat → Int), xloop (xcode (E20 N) ents impl_Hopf_product.kp 2 N (cL (cK (cB (cA (cB (cB impl_Hopf_product.bd)))))) 0) impl_Hopf_product.kp 2 0 m (impl_Hopf_product.st0 v0 w1 g2 g3 r4 x5 g6) (impl_Hopf_product.k0 N K g2 g3) = (impl_Hopf_product.l0 N (fun d0 => K (.agg [⟨.u8, 8, d0⟩]) [⟨false, .ints .i64 2 g2⟩, ⟨false, .ints .u8 1104 g3⟩]) v0 w1 g3 r4 (fun o11 => (impl_Hopf_product.k0 N K g2 g3) (.exit 0) (impl_Hopf_product.sx0_0 v0 w1 g2 g3 r4 o11)) m x5 g6) := by
  intro m
  induction m with
  | zero => intros; rfl
  | succ m ih =>
    intro x5 g6
    refine (impl_Hopf_product.b0_eq N K (fun s => xloop (xcode (E20 N) ents impl_Hopf_product.kp 2 N (cL (cK (cB (cA (cB (cB impl_Hopf_product.bd)))))) 0) impl_Hopf_product.kp 2 0 m s (impl_Hopf_product.k0 N K g2 g3)) v0 w1 g2 g3 r4 x5 g6).trans ?_
    simp only [ih, impl_Hopf_product.l1_eq, impl_Hopf_product.a1_0_eq]
    kernel_rfl

theorem impl_Hopf_product.s_eq {ρ : Type} (N : Nat) (K : AV → Heap → Option ρ) (v0 : Nat → Int) (w1 : Nat → Int) (g2 : Nat → Int) (g3 : Nat → Int) :
    xbody (E20 N) ents impl_Hopf_product.kp N Go.Proofs.Try.f23 impl_Hopf_product.bd [.sptr [(0, 2), (1, 1104)], .agg [⟨.u8, 8, v0⟩], .agg [⟨.u8, 8, w1⟩]] [⟨false, .ints .i64 2 g2⟩, ⟨false, .ints .u8 1104 g3⟩] K = (impl_Hopf_product.s N (fun d0 => K (.agg [⟨.u8, 8, d0⟩]) [⟨false, .ints .i64 2 g2⟩, ⟨false, .ints .u8 1104 g3⟩]) (fun r4 x5 g6 => xloop (xcode (E20 N) ents impl_Hopf_product.kp 2 N (cL (cK (cB (cA (cB (cB impl_Hopf_product.bd)))))) 0) impl_Hopf_product.kp 2 0 N (impl_Hopf_product.st0 v0 w1 g2 g3 r4 x5 g6) (impl_Hopf_product.k0 N K g2 g3)) g2 g3) := by kernel_rfl

theorem impl_Hopf_product.eq {ρ : Type} (N : Nat) (K : AV → Heap → Option ρ) (v0 : Nat → Int) (w1 : Nat → Int) (g2 : Nat → Int) (g3 : Nat → Int) :
    xbody (E20 N) ents impl_Hopf_product.kp N Go.Proofs.Try.f23 impl_Hopf_product.bd [.sptr [(0, 2), (1, 1104)], .agg [⟨.u8, 8, v0⟩], .agg [⟨.u8, 8, w1⟩]] [⟨false, .ints .i64 2 g2⟩, ⟨false, .ints .u8 1104 g3⟩] K = (impl_Hopf_product N (fun d0 => K (.agg [⟨.u8, 8, d0⟩]) [⟨false, .ints .i64 2 g2⟩, ⟨false, .ints .u8 1104 g3⟩]) v0 w1 g2 g3) := by
  refine (impl_Hopf_product.s_eq N K v0 w1 g2 g3).trans ?_
  simp only [impl_Hopf_product.l0_eq, impl_Hopf_product.a0_0_eq]
  kernel_rfl

noncomputable def impl_Hopf_product.en (N : Nat) (ρ : Type) : List AV → Heap → (AV → Heap → Option ρ) → Option ρ
  | [.sptr [(0, 2), (1, 1104)], .agg [⟨.u8, 8, v0⟩], .agg [⟨.u8, 8, w1⟩]], [⟨false, .ints .i64 2 g2⟩, ⟨false, .ints .u8 1104 g3⟩], K => (impl_Hopf_product N (fun d0 => K (.agg [⟨.u8, 8, d0⟩]) [⟨false, .ints .i64 2 g2⟩, ⟨false, .ints .u8 1104 g3⟩]) v0 w1 g2 g3)
  | _, _, _ => none

theorem impl_Hopf_product.en_ok (N : Nat) (hE : EnvOk (E20 N) ents) (ρ : Type) (args : List AV) (sh : Heap) (K : AV → Heap → Option ρ) (r : ρ) (h : impl_Hopf_product.en N ρ args sh K = some r) : ∃ v sh', K v sh' = some r ∧ FnOk (E20 N).P 23 args sh v sh' := by
  unfold impl_Hopf_product.en at h
  split at h
  · exact fn_ok hE (kp := impl_Hopf_product.kp) (N := N) Go.Proofs.Try.func23 (c := impl_Hopf_product.bd) (by kernel_rfl) ((impl_Hopf_product.eq N _ _ _ _ _).trans h)
  · cases h

noncomputable def E21 (N : Nat) : Env := (E20 N).add 23 (impl_Hopf_product.en N)

theorem E21_ok (N : Nat) : EnvOk (E21 N) ents := Env.add_ok (E20_ok N) (impl_Hopf_product.en_ok N (E20_ok N))
end Go.Proofs.Ytldjomnaeblmaaa.H
