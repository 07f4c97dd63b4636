/- The program computes these functions. -/
import Derived.Test.YtnbpmignmlcifaaHP0
import Derived.Test.YtnbpmignmlcifaaChecked
import Derived.KernelRfl
namespace Go.Proofs.Ytnbpmignmlcifaa.H
set_option linter.unusedVariables false
set_option linter.unusedSimpArgs false
open Go Go.RowKit Go.Proofs.Ytnbpmignmlcifaa.Hx
set_option linter.unusedVariables false
set_option maxRecDepth 100000
noncomputable def lays : List Lay := [.other, .func, .int .i64, .int .i64, .bool, .int .u8, .int .u8, .other, .other, .str, .str, .str, .int .u64, .other, .other, .ptr, .ptr, .ptr, .other, .other, .other, .int .i32, .arr 8 5 1 .u8, .arr 8 5 1 .u8, .arr 8 23 8 .u8, .arr 8 23 8 .u8, .arr 8 25 64 .u8, .arr 8 25 64 .u8, .struct [(0, 1, false), (1, 1, false), (2, 8, true), (10, 512, true), (522, 8, true), (530, 512, true), (1042, 64, true)] [(.i64, 2), (.u8, 1104)], .struct [(0, 1, false), (1, 1, false), (2, 8, true), (10, 512, true), (522, 8, true), (530, 512, true), (1042, 64, true)] [(.i64, 2), (.u8, 1104)], .other, .func, .func, .func, .func, .func, .func, .func, .func, .func, .func, .func, .func, .struct [(0, 1, false), (1, 1, false)] [(.i64, 2)], .struct [(0, 1, false), (1, 1, false)] [(.i64, 2)], .func, .func, .func, .ptr, .func, .ptr, .func, .other, .other, .other, .other, .other, .func, .int .u32, .int .u8, .int .u8, .func, .ptr, .int .i32, .int .i32, .other, .other, .func, .func, .other]

noncomputable def wrs : List (FuncId × List Bool) := [(21, [false, true])]

noncomputable def ents : List FuncId := [3, 4, 5, 6, 7, 8, 9, 10, 11, 12, 13, 14, 15, 16, 17, 18, 19, 20, 21]

noncomputable def E0 (N : Nat) : Env := env0 Go.Proofs.Try.prog lays wrs

theorem E0_ok (N : Nat) : EnvOk (E0 N) ents := env0_ok (by kernel_rfl) (by kernel_rfl) (by kernel_rfl)

noncomputable def spec_l01In.kp : Keeps := ⟨[], []⟩

noncomputable def spec_l01In.bd : Code := bodyOf Go.Proofs.Try.f8

noncomputable def spec_l01In.fin {ρ : Type} (N : Nat) (K : AV → Heap → Option ρ) : XE → St → Option ρ := finK (E0 N) Go.Proofs.Try.f8 [] K

theorem spec_l01In.eq {ρ : Type} (N : Nat) (K : AV → Heap → Option ρ) (n0 : Int) (low1 : Int) (high2 : Int) :
    xbody (E0 N) ents spec_l01In.kp N Go.Proofs.Try.f8 spec_l01In.bd [.int .i64 (n0), .int .i64 (low1), .int .i64 (high2)] [] K = (spec_l01In N (fun d0 => K (.bool (d0)) []) n0 low1 high2) := by kernel_rfl

noncomputable def spec_l01In.en (N : Nat) (ρ : Type) : List AV → Heap → (AV → Heap → Option ρ) → Option ρ
  | [.int .i64 (n0), .int .i64 (low1), .int .i64 (high2)], [], K => (spec_l01In N (fun d0 => K (.bool (d0)) []) n0 low1 high2)
  | _, _, _ => none

theorem spec_l01In.en_ok (N : Nat) (hE : EnvOk (E0 N) ents) (ρ : Type) (args : List AV) (sh : Heap) (K : AV → Heap → Option ρ) (r : ρ) (h : spec_l01In.en N ρ args sh K = some r) : ∃ v sh', K v sh' = some r ∧ FnOk (E0 N).P 8 args sh v sh' := by
  unfold spec_l01In.en at h
  split at h
  · exact fn_ok hE (kp := spec_l01In.kp) (N := N) Go.Proofs.Try.func8 (c := spec_l01In.bd) (by kernel_rfl) ((spec_l01In.eq N _ _ _ _).trans h)
  · cases h

noncomputable def E1 (N : Nat) : Env := (E0 N).add 8 (spec_l01In.en N)

theorem E1_ok (N : Nat) : EnvOk (E1 N) ents := Env.add_ok (E0_ok N) (spec_l01In.en_ok N (E0_ok N))

noncomputable def spec_l01Prime.kp : Keeps := ⟨[(0, [0, 3], 0)], [(0, [0], 0)]⟩

noncomputable def spec_l01Prime.bd : Code := bodyOf Go.Proofs.Try.f7

noncomputable def spec_l01Prime.fin {ρ : Type} (N : Nat) (K : AV → Heap → Option ρ) : XE → St → Option ρ := finK (E1 N) Go.Proofs.Try.f7 [] K

noncomputable def spec_l01Prime.k0 {ρ : Type} (N : Nat) (K : AV → Heap → Option ρ) : XE → St → Option ρ := (blockK spec_l01Prime.kp 0 0 (seqK (xcode (E1 N) ents spec_l01Prime.kp 0 N (cB (cB spec_l01Prime.bd)) 0) (spec_l01Prime.fin N K)))

theorem spec_l01Prime.k0_mix {ρ : Type} (N : Nat) (K : AV → Heap → Option ρ) : mixK (spec_l01Prime.fin N K .ret) (spec_l01Prime.k0 N K) = (spec_l01Prime.k0 N K) := by
  funext e s; cases e <;> rfl

noncomputable def spec_l01Prime.st0 (p0 : Int) (k1 : Int) : St := ⟨sl 19 [(0, .int .i64 (p0)), (3, .int .i64 (k1))], []⟩

noncomputable def spec_l01Prime.sx0_0 (p0 : Int) : St := ⟨sl 19 [(0, .int .i64 (p0))], []⟩

theorem spec_l01Prime.b0_gen {ρ : Type} (N : Nat) (K : AV → Heap → Option ρ) (L0 : St → Option ρ) (kv : XE → St → Option ρ) (p0 : Int) (k1 : Int) :
    xcode (E1 N) ents spec_l01Prime.kp 0 N (cL (cK (cB (cA (cB spec_l01Prime.bd))))) 0 (spec_l01Prime.st0 p0 k1) (roundK spec_l01Prime.kp 0 0 L0 (mixK (spec_l01Prime.fin N K .ret) kv)) = (spec_l01Prime.b0 N (fun d0 => K (.bool (d0)) []) (fun k1 => L0 (spec_l01Prime.st0 p0 k1)) (kv (.exit 0) (spec_l01Prime.sx0_0 p0)) p0 k1) := by kernel_rfl

theorem spec_l01Prime.b0_eq {ρ : Type} (N : Nat) (K : AV → Heap → Option ρ) (L0 : St → Option ρ) (p0 : Int) (k1 : Int) :
    xcode (E1 N) ents spec_l01Prime.kp 0 N (cL (cK (cB (cA (cB spec_l01Prime.bd))))) 0 (spec_l01Prime.st0 p0 k1) (roundK spec_l01Prime.kp 0 0 L0 (spec_l01Prime.k0 N K)) = (spec_l01Prime.b0 N (fun d0 => K (.bool (d0)) []) (fun k1 => L0 (spec_l01Prime.st0 p0 k1)) ((spec_l01Prime.k0 N K) (.exit 0) (spec_l01Prime.sx0_0 p0)) p0 k1) := by
  have h := spec_l01Prime.b0_gen N K L0 (spec_l01Prime.k0 N K) p0 k1
  rw [spec_l01Prime.k0_mix] at h
  exact h

theorem spec_l01Prime.a0_0_eq {ρ : Type} (N : Nat) (K : AV → Heap → Option ρ) (p0 : Int) :
    (spec_l01Prime.k0 N K) (.exit 0) (spec_l01Prime.sx0_0 p0) = (spec_l01Prime.a0_0 N (fun d0 => K (.bool (d0)) []) p0) := by kernel_rfl

theorem spec_l01Prime.l0_eq {ρ : Type} (N : Nat) (K : AV → Heap → Option ρ) (p0 : Int) :
    ∀ (m : Nat) (k1 : Int), xloop (xcode (E1 N) ents spec_l01Prime.kp 0 N (cL (cK (cB (cA (cB spec_l01Prime.bd))))) 0) spec_l01Prime.kp 0 0 m (spec_l01Prime.st0 p0 k1) (spec_l01Prime.k0 N K) = (spec_l01Prime.l0 N (fun d0 => K (.bool (d0)) []) p0 ((spec_l01Prime.k0 N K) (.exit 0) (spec_l01Prime.sx0_0 p0)) m k1) := by
  intro m
  induction m with
  | zero => intros; rfl
  | succ m ih =>
    intro k1
    refine (spec_l01Prime.b0_eq N K (fun s => xloop (xcode (E1 N) ents spec_l01Prime.kp 0 N (cL (cK (cB (cA (cB spec_l01Prime.bd))))) 0) spec_l01Prime.kp 0 0 m s (spec_l01Prime.k0 N K)) p0 k1).trans ?_
    simp only [ih]
    kernel_rfl

theorem spec_l01Prime.s_eq {ρ : Type} (N : Nat) (K : AV → Heap → Option ρ) (p0 : Int) :
    xbody (E1 N) ents spec_l01Prime.kp N Go.Proofs.Try.f7 spec_l01Prime.bd [.int .i64 (p0)] [] K = (spec_l01Prime.s N (fun d0 => K (.bool (d0)) []) (fun k1 => xloop (xcode (E1 N) ents spec_l01Prime.kp 0 N (cL (cK (cB (cA (cB spec_l01Prime.bd))))) 0) spec_l01Prime.kp 0 0 N (spec_l01Prime.st0 p0 k1) (spec_l01Prime.k0 N K))) := by kernel_rfl

theorem spec_l01Prime.eq {ρ : Type} (N : Nat) (K : AV → Heap → Option ρ) (p0 : Int) :
    xbody (E1 N) ents spec_l01Prime.kp N Go.Proofs.Try.f7 spec_l01Prime.bd [.int .i64 (p0)] [] K = (spec_l01Prime N (fun d0 => K (.bool (d0)) []) p0) := by
  refine (spec_l01Prime.s_eq N K p0).trans ?_
  simp only [spec_l01Prime.l0_eq, spec_l01Prime.a0_0_eq]
  kernel_rfl

noncomputable def spec_l01Prime.en (N : Nat) (ρ : Type) : List AV → Heap → (AV → Heap → Option ρ) → Option ρ
  | [.int .i64 (p0)], [], K => (spec_l01Prime N (fun d0 => K (.bool (d0)) []) p0)
  | _, _, _ => none

theorem spec_l01Prime.en_ok (N : Nat) (hE : EnvOk (E1 N) ents) (ρ : Type) (args : List AV) (sh : Heap) (K : AV → Heap → Option ρ) (r : ρ) (h : spec_l01Prime.en N ρ args sh K = some r) : ∃ v sh', K v sh' = some r ∧ FnOk (E1 N).P 7 args sh v sh' := by
  unfold spec_l01Prime.en at h
  split at h
  · exact fn_ok hE (kp := spec_l01Prime.kp) (N := N) Go.Proofs.Try.func7 (c := spec_l01Prime.bd) (by kernel_rfl) ((spec_l01Prime.eq N _ _).trans h)
  · cases h

noncomputable def E2 (N : Nat) : Env := (E1 N).add 7 (spec_l01Prime.en N)

theorem E2_ok (N : Nat) : EnvOk (E2 N) ents := Env.add_ok (E1_ok N) (spec_l01Prime.en_ok N (E1_ok N))

noncomputable def spec_l01Mod.kp : Keeps := ⟨[], []⟩

noncomputable def spec_l01Mod.bd : Code := bodyOf Go.Proofs.Try.f16

noncomputable def spec_l01Mod.fin {ρ : Type} (N : Nat) (K : AV → Heap → Option ρ) : XE → St → Option ρ := finK (E2 N) Go.Proofs.Try.f16 [] K

theorem spec_l01Mod.eq {ρ : Type} (N : Nat) (K : AV → Heap → Option ρ) (p0 : Int) (x1 : Int) :
    xbody (E2 N) ents spec_l01Mod.kp N Go.Proofs.Try.f16 spec_l01Mod.bd [.int .i64 (p0), .int .i64 (x1)] [] K = (spec_l01Mod N (fun d0 => K (.int .u8 (d0)) []) p0 x1) := by kernel_rfl

noncomputable def spec_l01Mod.en (N : Nat) (ρ : Type) : List AV → Heap → (AV → Heap → Option ρ) → Option ρ
  | [.int .i64 (p0), .int .i64 (x1)], [], K => (spec_l01Mod N (fun d0 => K (.int .u8 (d0)) []) p0 x1)
  | _, _, _ => none

theorem spec_l01Mod.en_ok (N : Nat) (hE : EnvOk (E2 N) ents) (ρ : Type) (args : List AV) (sh : Heap) (K : AV → Heap → Option ρ) (r : ρ) (h : spec_l01Mod.en N ρ args sh K = some r) : ∃ v sh', K v sh' = some r ∧ FnOk (E2 N).P 16 args sh v sh' := by
  unfold spec_l01Mod.en at h
  split at h
  · exact fn_ok hE (kp := spec_l01Mod.kp) (N := N) Go.Proofs.Try.func16 (c := spec_l01Mod.bd) (by kernel_rfl) ((spec_l01Mod.eq N _ _ _).trans h)
  · cases h

noncomputable def E3 (N : Nat) : Env := (E2 N).add 16 (spec_l01Mod.en N)

theorem E3_ok (N : Nat) : EnvOk (E3 N) ents := Env.add_ok (E2_ok N) (spec_l01Mod.en_ok N (E2_ok N))

noncomputable def spec_l04Line.kp : Keeps := ⟨[(0, [0, 1, 4, 5, 6], 4), (2, [0, 1, 4, 5, 6, 7, 8], 4)], [(0, [4, 5], 4), (2, [0, 1, 4, 5, 6], 4)]⟩

noncomputable def spec_l04Line.bd : Code := bodyOf Go.Proofs.Try.f9

noncomputable def spec_l04Line.fin {ρ : Type} (N : Nat) (K : AV → Heap → Option ρ) : XE → St → Option ρ := finK (E3 N) Go.Proofs.Try.f9 [] K

noncomputable def spec_l04Line.k0 {ρ : Type} (N : Nat) (K : AV → Heap → Option ρ) : XE → St → Option ρ := (blockK spec_l04Line.kp 0 0 (seqK (xcode (E3 N) ents spec_l04Line.kp 0 N (cB (cB (cB (cB (cB spec_l04Line.bd))))) 0) (spec_l04Line.fin N K)))

theorem spec_l04Line.k0_mix {ρ : Type} (N : Nat) (K : AV → Heap → Option ρ) : mixK (spec_l04Line.fin N K .ret) (spec_l04Line.k0 N K) = (spec_l04Line.k0 N K) := by
  funext e s; cases e <;> rfl

noncomputable def spec_l04Line.st0 (p0 : Int) (k1 : Int) (i2 : Int) (g3 : Nat → Int) : St := ⟨sl 89 [(0, .int .i64 (p0)), (1, .int .i64 (k1)), (4, .sptr [(0, 2), (1, 1104)]), (5, .sptr [(2, 2), (3, 1104)]), (6, .int .i64 (i2))], [⟨true, .ints .i64 2 (fun _ => 0)⟩, ⟨true, .ints .u8 1104 (fun _ => 0)⟩, ⟨true, .ints .i64 2 (upd (upd (fun _ => 0) 0 p0) 1 p0)⟩, ⟨true, .ints .u8 1104 g3⟩]⟩

noncomputable def spec_l04Line.sx0_0 (p0 : Int) (o11 : Nat → Int) : St := ⟨sl 89 [(4, .sptr [(0, 2), (1, 1104)]), (5, .sptr [(2, 2), (3, 1104)])], [⟨true, .ints .i64 2 (fun _ => 0)⟩, ⟨true, .ints .u8 1104 (fun _ => 0)⟩, ⟨true, .ints .i64 2 (upd (upd (fun _ => 0) 0 p0) 1 p0)⟩, ⟨true, .ints .u8 1104 o11⟩]⟩

noncomputable def spec_l04Line.k1g {ρ : Type} (N : Nat) (L0 : St → Option ρ) (kv : XE → St → Option ρ) : XE → St → Option ρ := (blockK spec_l04Line.kp 0 2 (seqK (xcode (E3 N) ents spec_l04Line.kp 0 N (cB (cB (cK (cA (cB (cL (cK (cB (cA (cB (cB (cB (cB spec_l04Line.bd))))))))))))) 1) (blockK spec_l04Line.kp 0 1 (seqK (xcode (E3 N) ents spec_l04Line.kp 0 N (cB (cB (cL (cK (cB (cA (cB (cB (cB (cB spec_l04Line.bd)))))))))) 0) (roundK spec_l04Line.kp 0 0 L0 kv)))))

theorem spec_l04Line.k1_mix {ρ : Type} (N : Nat) (K : AV → Heap → Option ρ) (L0 : St → Option ρ) : mixK (spec_l04Line.fin N K .ret) (spec_l04Line.k1g N L0 (spec_l04Line.k0 N K)) = (spec_l04Line.k1g N L0 (spec_l04Line.k0 N K)) := by
  funext e s; cases e <;> rfl

noncomputable def spec_l04Line.st1 (p0 : Int) (k1 : Int) (i2 : Int) (factor4 : Int) (j5 : Int) (g6 : Nat → Int) : St := ⟨sl 89 [(0, .int .i64 (p0)), (1, .int .i64 (k1)), (4, .sptr [(0, 2), (1, 1104)]), (5, .sptr [(2, 2), (3, 1104)]), (6, .int .i64 (i2)), (7, .int .i64 (factor4)), (8, .int .i64 (j5))], [⟨true, .ints .i64 2 (fun _ => 0)⟩, ⟨true, .ints .u8 1104 (fun _ => 0)⟩, ⟨true, .ints .i64 2 (upd (upd (fun _ => 0) 0 p0) 1 p0)⟩, ⟨true, .ints .u8 1104 g6⟩]⟩

noncomputable def spec_l04Line.sx1_0 (p0 : Int) (k1 : Int) (i2 : Int) (o9 : Nat → Int) : St := ⟨sl 89 [(0, .int .i64 (p0)), (1, .int .i64 (k1)), (4, .sptr [(0, 2), (1, 1104)]), (5, .sptr [(2, 2), (3, 1104)]), (6, .int .i64 (i2))], [⟨true, .ints .i64 2 (fun _ => 0)⟩, ⟨true, .ints .u8 1104 (fun _ => 0)⟩, ⟨true, .ints .i64 2 (upd (upd (fun _ => 0) 0 p0) 1 p0)⟩, ⟨true, .ints .u8 1104 o9⟩]⟩

theorem spec_l04Line.b1_gen {ρ : Type} (N : Nat) (K : AV → Heap → Option ρ) (L1 : St → Option ρ) (kv : XE → St → Option ρ) (p0 : Int) (k1 : Int) (i2 : Int) (factor4 : Int) (j5 : Int) (g6 : Nat → Int) :
    xcode (E3 N) ents spec_l04Line.kp 0 N (cL (cK (cB (cA (cB (cK (cA (cB (cL (cK (cB (cA (cB (cB (cB (cB spec_l04Line.bd)))))))))))))))) 2 (spec_l04Line.st1 p0 k1 i2 factor4 j5 g6) (roundK spec_l04Line.kp 0 2 L1 (mixK (spec_l04Line.fin N K .ret) kv)) = (spec_l04Line.b1 N (fun d0 d1 => K (.agg [⟨.i64, 2, d0⟩, ⟨.u8, 1104, d1⟩]) []) (fun factor4 j5 g6 => L1 (spec_l04Line.st1 p0 k1 i2 factor4 j5 g6)) (fun o9 => kv (.exit 2) (spec_l04Line.sx1_0 p0 k1 i2 o9)) p0 k1 i2 factor4 j5 g6) := by kernel_rfl

theorem spec_l04Line.b1_eq {ρ : Type} (N : Nat) (K : AV → Heap → Option ρ) (L0 : St → Option ρ) (L1 : St → Option ρ) (p0 : Int) (k1 : Int) (i2 : Int) (factor4 : Int) (j5 : Int) (g6 : Nat → Int) :
    xcode (E3 N) ents spec_l04Line.kp 0 N (cL (cK (cB (cA (cB (cK (cA (cB (cL (cK (cB (cA (cB (cB (cB (cB spec_l04Line.bd)))))))))))))))) 2 (spec_l04Line.st1 p0 k1 i2 factor4 j5 g6) (roundK spec_l04Line.kp 0 2 L1 (spec_l04Line.k1g N L0 (spec_l04Line.k0 N K))) = (spec_l04Line.b1 N (fun d0 d1 => K (.agg [⟨.i64, 2, d0⟩, ⟨.u8, 1104, d1⟩]) []) (fun factor4 j5 g6 => L1 (spec_l04Line.st1 p0 k1 i2 factor4 j5 g6)) (fun o9 => (spec_l04Line.k1g N L0 (spec_l04Line.k0 N K)) (.exit 2) (spec_l04Line.sx1_0 p0 k1 i2 o9)) p0 k1 i2 factor4 j5 g6) := by
  have h := spec_l04Line.b1_gen N K L1 (spec_l04Line.k1g N L0 (spec_l04Line.k0 N K)) p0 k1 i2 factor4 j5 g6
  rw [spec_l04Line.k1_mix] at h
  exact h

theorem spec_l04Line.a1_0_gen {ρ : Type} (N : Nat) (K : AV → Heap → Option ρ) (L0 : St → Option ρ) (kv : XE → St → Option ρ) (p0 : Int) (k1 : Int) (i2 : Int) (o9 : Nat → Int) :
    (spec_l04Line.k1g N L0 (mixK (spec_l04Line.fin N K .ret) kv)) (.exit 2) (spec_l04Line.sx1_0 p0 k1 i2 o9) = (spec_l04Line.a1_0 N (fun d0 d1 => K (.agg [⟨.i64, 2, d0⟩, ⟨.u8, 1104, d1⟩]) []) (fun i2 g3 => L0 (spec_l04Line.st0 p0 k1 i2 g3)) (fun o11 => kv (.exit 0) (spec_l04Line.sx0_0 p0 o11)) p0 i2 o9) := by kernel_rfl

theorem spec_l04Line.a1_0_eq {ρ : Type} (N : Nat) (K : AV → Heap → Option ρ) (L0 : St → Option ρ) (p0 : Int) (k1 : Int) (i2 : Int) (o9 : Nat → Int) :
    (spec_l04Line.k1g N L0 (spec_l04Line.k0 N K)) (.exit 2) (spec_l04Line.sx1_0 p0 k1 i2 o9) = (spec_l04Line.a1_0 N (fun d0 d1 => K (.agg [⟨.i64, 2, d0⟩, ⟨.u8, 1104, d1⟩]) []) (fun i2 g3 => L0 (spec_l04Line.st0 p0 k1 i2 g3)) (fun o11 => (spec_l04Line.k0 N K) (.exit 0) (spec_l04Line.sx0_0 p0 o11)) p0 i2 o9) := by
  have h := spec_l04Line.a1_0_gen N K L0 (spec_l04Line.k0 N K) p0 k1 i2 o9
  rw [spec_l04Line.k0_mix] at h
  exact h

theorem spec_l04Line.b0_gen {ρ : Type} (N : Nat) (K : AV → Heap → Option ρ) (L0 : St → Option ρ) (kv : XE → St → Option ρ) (p0 : Int) (k1 : Int) (i2 : Int) (g3 : Nat → Int) :
    xcode (E3 N) ents spec_l04Line.kp 0 N (cL (cK (cB (cA (cB (cB (cB (cB spec_l04Line.bd)))))))) 0 (spec_l04Line.st0 p0 k1 i2 g3) (roundK spec_l04Line.kp 0 0 L0 (mixK (spec_l04Line.fin N K .ret) kv)) = (spec_l04Line.b0 N (fun d0 d1 => K (.agg [⟨.i64, 2, d0⟩, ⟨.u8, 1104, d1⟩]) []) (fun factor4 j5 g6 => xloop (xcode (E3 N) ents spec_l04Line.kp 0 N (cL (cK (cB (cA (cB (cK (cA (cB (cL (cK (cB (cA (cB (cB (cB (cB spec_l04Line.bd)))))))))))))))) 2) spec_l04Line.kp 0 2 N (spec_l04Line.st1 p0 k1 i2 factor4 j5 g6) (spec_l04Line.k1g N L0 (mixK (spec_l04Line.fin N K .ret) kv))) (fun i2 g3 => L0 (spec_l04Line.st0 p0 k1 i2 g3)) (fun o11 => kv (.exit 0) (spec_l04Line.sx0_0 p0 o11)) p0 i2 g3) := by kernel_rfl

theorem spec_l04Line.b0_eq {ρ : Type} (N : Nat) (K : AV → Heap → Option ρ) (L0 : St → Option ρ) (p0 : Int) (k1 : Int) (i2 : Int) (g3 : Nat → Int) :
    xcode (E3 N) ents spec_l04Line.kp 0 N (cL (cK (cB (cA (cB (cB (cB (cB spec_l04Line.bd)))))))) 0 (spec_l04Line.st0 p0 k1 i2 g3) (roundK spec_l04Line.kp 0 0 L0 (spec_l04Line.k0 N K)) = (spec_l04Line.b0 N (fun d0 d1 => K (.agg [⟨.i64, 2, d0⟩, ⟨.u8, 1104, d1⟩]) []) (fun factor4 j5 g6 => xloop (xcode (E3 N) ents spec_l04Line.kp 0 N (cL (cK (cB (cA (cB (cK (cA (cB (cL (cK (cB (cA (cB (cB (cB (cB spec_l04Line.bd)))))))))))))))) 2) spec_l04Line.kp 0 2 N (spec_l04Line.st1 p0 k1 i2 factor4 j5 g6) (spec_l04Line.k1g N L0 (spec_l04Line.k0 N K))) (fun i2 g3 => L0 (spec_l04Line.st0 p0 k1 i2 g3)) (fun o11 => (spec_l04Line.k0 N K) (.exit 0) (spec_l04Line.sx0_0 p0 o11)) p0 i2 g3) := by
  have h := spec_l04Line.b0_gen N K L0 (spec_l04Line.k0 N K) p0 k1 i2 g3
  rw [spec_l04Line.k0_mix] at h
  exact h

theorem spec_l04Line.a0_0_eq {ρ : Type} (N : Nat) (K : AV → Heap → Option ρ) (p0 : Int) (o11 : Nat → Int) :
    (spec_l04Line.k0 N K) (.exit 0) (spec_l04Line.sx0_0 p0 o11) = (spec_l04Line.a0_0 N (fun d0 d1 => K (.agg [⟨.i64, 2, d0⟩, ⟨.u8, 1104, d1⟩]) []) p0 o11) := by kernel_rfl

theorem spec_l04Line.l1_eq {ρ : Type} (N : Nat) (K : AV → Heap → Option ρ) (L0 : St → Option ρ) (p0 : Int) (k1 : Int) (i2 : Int) :
    ∀ (m : Nat) (factor4 : Int) (j5 : Int) (g6 : Nat → Int), xloop (xcode (E3 N) ents spec_l04Line.kp 0 N (cL (cK (cB (cA (cB (cK (cA (cB (cL (cK (cB (cA (cB (cB (cB (cB spec_l04Line.bd)))))))))))))))) 2) spec_l04Line.kp 0 2 m (spec_l04Line.st1 p0 k1 i2 factor4 j5 g6) (spec_l04Line.k1g N L0 (spec_l04Line.k0 N K)) = (spec_l04Line.l1 N (fun d0 d1 => K (.agg [⟨.i64, 2, d0⟩, ⟨.u8, 1104, d1⟩]) []) p0 k1 i2 (fun o9 => (spec_l04Line.k1g N L0 (spec_l04Line.k0 N K)) (.exit 2) (spec_l04Line.sx1_0 p0 k1 i2 o9)) m factor4 j5 g6) := by
  intro m
  induction m with
  | zero => intros; rfl
  | succ m ih =>
    intro factor4 j5 g6
    refine (spec_l04Line.b1_eq N K L0 (fun s => xloop (xcode (E3 N) ents spec_l04Line.kp 0 N (cL (cK (cB (cA (cB (cK (cA (cB (cL (cK (cB (cA (cB (cB (cB (cB spec_l04Line.bd)))))))))))))))) 2) spec_l04Line.kp 0 2 m s (spec_l04Line.k1g N L0 (spec_l04Line.k0 N K))) p0 k1 i2 factor4 j5 g6).trans ?_
    simp only [ih]
    kernel_rfl

theorem spec_l04Line.l0_eq {ρ : Type} (N : Nat) (K : AV → Heap → Option ρ) (p0 : Int) (k1 : Int) :
    ∀ (m : Nat) (i2 : Int) (g3 : Nat → Int), xloop (xcode (E3 N) ents spec_l04Line.kp 0 N (cL (cK (cB (cA (cB (cB (cB (cB spec_l04Line.bd)))))))) 0) spec_l04Line.kp 0 0 m (spec_l04Line.st0 p0 k1 i2 g3) (spec_l04Line.k0 N K) = (spec_l04Line.l0 N (fun d0 d1 => K (.agg [⟨.i64, 2, d0⟩, ⟨.u8, 1104, d1⟩]) []) p0 k1 (fun o11 => (spec_l04Line.k0 N K) (.exit 0) (spec_l04Line.sx0_0 p0 o11)) m i2 g3) := by
  intro m
  induction m with
  | zero => intros; rfl
  | succ m ih =>
    intro i2 g3
    refine (spec_l04Line.b0_eq N K (fun s => xloop (xcode (E3 N) ents spec_l04Line.kp 0 N (cL (cK (cB (cA (cB (cB (cB (cB spec_l04Line.bd)))))))) 0) spec_l04Line.kp 0 0 m s (spec_l04Line.k0 N K)) p0 k1 i2 g3).trans ?_
    simp only [ih, spec_l04Line.l1_eq, spec_l04Line.a1_0_eq]
    kernel_rfl

theorem spec_l04Line.s_eq {ρ : Type} (N : Nat) (K : AV → Heap → Option ρ) (p0 : Int) (k1 : Int) :
    xbody (E3 N) ents spec_l04Line.kp N Go.Proofs.Try.f9 spec_l04Line.bd [.int .i64 (p0), .int .i64 (k1)] [] K = (spec_l04Line.s N (fun d0 d1 => K (.agg [⟨.i64, 2, d0⟩, ⟨.u8, 1104, d1⟩]) []) (fun i2 g3 => xloop (xcode (E3 N) ents spec_l04Line.kp 0 N (cL (cK (cB (cA (cB (cB (cB (cB spec_l04Line.bd)))))))) 0) spec_l04Line.kp 0 0 N (spec_l04Line.st0 p0 k1 i2 g3) (spec_l04Line.k0 N K))) := by kernel_rfl

theorem spec_l04Line.eq {ρ : Type} (N : Nat) (K : AV → Heap → Option ρ) (p0 : Int) (k1 : Int) :
    xbody (E3 N) ents spec_l04Line.kp N Go.Proofs.Try.f9 spec_l04Line.bd [.int .i64 (p0), .int .i64 (k1)] [] K = (spec_l04Line N (fun d0 d1 => K (.agg [⟨.i64, 2, d0⟩, ⟨.u8, 1104, d1⟩]) []) p0 k1) := by
  refine (spec_l04Line.s_eq N K p0 k1).trans ?_
  simp only [spec_l04Line.l0_eq, spec_l04Line.a0_0_eq]
  kernel_rfl

noncomputable def spec_l04Line.en (N : Nat) (ρ : Type) : List AV → Heap → (AV → Heap → Option ρ) → Option ρ
  | [.int .i64 (p0), .int .i64 (k1)], [], K => (spec_l04Line N (fun d0 d1 => K (.agg [⟨.i64, 2, d0⟩, ⟨.u8, 1104, d1⟩]) []) p0 k1)
  | _, _, _ => none

theorem spec_l04Line.en_ok (N : Nat) (hE : EnvOk (E3 N) ents) (ρ : Type) (args : List AV) (sh : Heap) (K : AV → Heap → Option ρ) (r : ρ) (h : spec_l04Line.en N ρ args sh K = some r) : ∃ v sh', K v sh' = some r ∧ FnOk (E3 N).P 9 args sh v sh' := by
  unfold spec_l04Line.en at h
  split at h
  · exact fn_ok hE (kp := spec_l04Line.kp) (N := N) Go.Proofs.Try.func9 (c := spec_l04Line.bd) (by kernel_rfl) ((spec_l04Line.eq N _ _ _).trans h)
  · cases h

noncomputable def E4 (N : Nat) : Env := (E3 N).add 9 (spec_l04Line.en N)

theorem E4_ok (N : Nat) : EnvOk (E4 N) ents := Env.add_ok (E3_ok N) (spec_l04Line.en_ok N (E3_ok N))

noncomputable def spec_LineHopf.kp : Keeps := ⟨[], []⟩

noncomputable def spec_LineHopf.bd : Code := bodyOf Go.Proofs.Try.f4

noncomputable def spec_LineHopf.fin {ρ : Type} (N : Nat) (K : AV → Heap → Option ρ) : XE → St → Option ρ := finK (E4 N) Go.Proofs.Try.f4 [] K

theorem spec_LineHopf.eq {ρ : Type} (N : Nat) (K : AV → Heap → Option ρ) (p0 : Int) (k1 : Int) :
    xbody (E4 N) ents spec_LineHopf.kp N Go.Proofs.Try.f4 spec_LineHopf.bd [.int .i64 (p0), .int .i64 (k1)] [] K = (spec_LineHopf N (fun d0 d1 d2 => K (.tup [.agg [⟨.i64, 2, d0⟩, ⟨.u8, 1104, d1⟩], .int .i64 (d2)]) []) p0 k1) := by kernel_rfl

noncomputable def spec_LineHopf.en (N : Nat) (ρ : Type) : List AV → Heap → (AV → Heap → Option ρ) → Option ρ
  | [.int .i64 (p0), .int .i64 (k1)], [], K => (spec_LineHopf N (fun d0 d1 d2 => K (.tup [.agg [⟨.i64, 2, d0⟩, ⟨.u8, 1104, d1⟩], .int .i64 (d2)]) []) p0 k1)
  | _, _, _ => none

theorem spec_LineHopf.en_ok (N : Nat) (hE : EnvOk (E4 N) ents) (ρ : Type) (args : List AV) (sh : Heap) (K : AV → Heap → Option ρ) (r : ρ) (h : spec_LineHopf.en N ρ args sh K = some r) : ∃ v sh', K v sh' = some r ∧ FnOk (E4 N).P 4 args sh v sh' := by
  unfold spec_LineHopf.en at h
  split at h
  · exact fn_ok hE (kp := spec_LineHopf.kp) (N := N) Go.Proofs.Try.func4 (c := spec_LineHopf.bd) (by kernel_rfl) ((spec_LineHopf.eq N _ _ _).trans h)
  · cases h

noncomputable def E5 (N : Nat) : Env := (E4 N).add 4 (spec_LineHopf.en N)

theorem E5_ok (N : Nat) : EnvOk (E5 N) ents := Env.add_ok (E4_ok N) (spec_LineHopf.en_ok N (E4_ok N))

noncomputable def impl_IsPrime.kp : Keeps := ⟨[(0, [0, 3], 0)], [(0, [], 0)]⟩

noncomputable def impl_IsPrime.bd : Code := bodyOf Go.Proofs.Try.f10

noncomputable def impl_IsPrime.fin {ρ : Type} (N : Nat) (K : AV → Heap → Option ρ) : XE → St → Option ρ := finK (E5 N) Go.Proofs.Try.f10 [] K

noncomputable def impl_IsPrime.k0 {ρ : Type} (N : Nat) (K : AV → Heap → Option ρ) : XE → St → Option ρ := (blockK impl_IsPrime.kp 0 0 (seqK (xcode (E5 N) ents impl_IsPrime.kp 0 N (cB (cB (cB impl_IsPrime.bd))) 0) (impl_IsPrime.fin N K)))

theorem impl_IsPrime.k0_mix {ρ : Type} (N : Nat) (K : AV → Heap → Option ρ) : mixK (impl_IsPrime.fin N K .ret) (impl_IsPrime.k0 N K) = (impl_IsPrime.k0 N K) := by
  funext e s; cases e <;> rfl

noncomputable def impl_IsPrime.st0 (p0 : Int) (k1 : Int) : St := ⟨sl 21 [(0, .int .i64 (p0)), (3, .int .i64 (k1))], []⟩

noncomputable def impl_IsPrime.sx0_0 : St := ⟨sl 21 [], []⟩

theorem impl_IsPrime.b0_gen {ρ : Type} (N : Nat) (K : AV → Heap → Option ρ) (L0 : St → Option ρ) (kv : XE → St → Option ρ) (p0 : Int) (k1 : Int) :
    xcode (E5 N) ents impl_IsPrime.kp 0 N (cL (cK (cB (cA (cB (cB impl_IsPrime.bd)))))) 0 (impl_IsPrime.st0 p0 k1) (roundK impl_IsPrime.kp 0 0 L0 (mixK (impl_IsPrime.fin N K .ret) kv)) = (impl_IsPrime.b0 N (fun d0 => K (.bool (d0)) []) (fun k1 => L0 (impl_IsPrime.st0 p0 k1)) (kv (.exit 0) (impl_IsPrime.sx0_0)) p0 k1) := by kernel_rfl

theorem impl_IsPrime.b0_eq {ρ : Type} (N : Nat) (K : AV → Heap → Option ρ) (L0 : St → Option ρ) (p0 : Int) (k1 : Int) :
    xcode (E5 N) ents impl_IsPrime.kp 0 N (cL (cK (cB (cA (cB (cB impl_IsPrime.bd)))))) 0 (impl_IsPrime.st0 p0 k1) (roundK impl_IsPrime.kp 0 0 L0 (impl_IsPrime.k0 N K)) = (impl_IsPrime.b0 N (fun d0 => K (.bool (d0)) []) (fun k1 => L0 (impl_IsPrime.st0 p0 k1)) ((impl_IsPrime.k0 N K) (.exit 0) (impl_IsPrime.sx0_0)) p0 k1) := by
  have h := impl_IsPrime.b0_gen N K L0 (impl_IsPrime.k0 N K) p0 k1
  rw [impl_IsPrime.k0_mix] at h
  exact h

theorem impl_IsPrime.a0_0_eq {ρ : Type} (N : Nat) (K : AV → Heap → Option ρ) :
    (impl_IsPrime.k0 N K) (.exit 0) (impl_IsPrime.sx0_0) = (impl_IsPrime.a0_0 N (fun d0 => K (.bool (d0)) [])) := by kernel_rfl

theorem impl_IsPrime.l0_eq {ρ : Type} (N : Nat) (K : AV → Heap → Option ρ) (p0 : Int) :
    ∀ (m : Nat) (k1 : Int), xloop (xcode (E5 N) ents impl_IsPrime.kp 0 N (cL (cK (cB (cA (cB (cB impl_IsPrime.bd)))))) 0) impl_IsPrime.kp 0 0 m (impl_IsPrime.st0 p0 k1) (impl_IsPrime.k0 N K) = (impl_IsPrime.l0 N (fun d0 => K (.bool (d0)) []) p0 ((impl_IsPrime.k0 N K) (.exit 0) (impl_IsPrime.sx0_0)) m k1) := by
  intro m
  induction m with
  | zero => intros; rfl
  | succ m ih =>
    intro k1
    refine (impl_IsPrime.b0_eq N K (fun s => xloop (xcode (E5 N) ents impl_IsPrime.kp 0 N (cL (cK (cB (cA (cB (cB impl_IsPrime.bd)))))) 0) impl_IsPrime.kp 0 0 m s (impl_IsPrime.k0 N K)) p0 k1).trans ?_
    simp only [ih]
    kernel_rfl

theorem impl_IsPrime.s_eq {ρ : Type} (N : Nat) (K : AV → Heap → Option ρ) (p0 : Int) :
    xbody (E5 N) ents impl_IsPrime.kp N Go.Proofs.Try.f10 impl_IsPrime.bd [.int .i64 (p0)] [] K = (impl_IsPrime.s N (fun d0 => K (.bool (d0)) []) (fun k1 => xloop (xcode (E5 N) ents impl_IsPrime.kp 0 N (cL (cK (cB (cA (cB (cB impl_IsPrime.bd)))))) 0) impl_IsPrime.kp 0 0 N (impl_IsPrime.st0 p0 k1) (impl_IsPrime.k0 N K)) p0) := by kernel_rfl

theorem impl_IsPrime.eq {ρ : Type} (N : Nat) (K : AV → Heap → Option ρ) (p0 : Int) :
    xbody (E5 N) ents impl_IsPrime.kp N Go.Proofs.Try.f10 impl_IsPrime.bd [.int .i64 (p0)] [] K = (impl_IsPrime N (fun d0 => K (.bool (d0)) []) p0) := by
  refine (impl_IsPrime.s_eq N K p0).trans ?_
  simp only [impl_IsPrime.l0_eq, impl_IsPrime.a0_0_eq]
  kernel_rfl

noncomputable def impl_IsPrime.en (N : Nat) (ρ : Type) : List AV → Heap → (AV → Heap → Option ρ) → Option ρ
  | [.int .i64 (p0)], [], K => (impl_IsPrime N (fun d0 => K (.bool (d0)) []) p0)
  | _, _, _ => none

theorem impl_IsPrime.en_ok (N : Nat) (hE : EnvOk (E5 N) ents) (ρ : Type) (args : List AV) (sh : Heap) (K : AV → Heap → Option ρ) (r : ρ) (h : impl_IsPrime.en N ρ args sh K = some r) : ∃ v sh', K v sh' = some r ∧ FnOk (E5 N).P 10 args sh v sh' := by
  unfold impl_IsPrime.en at h
  split at h
  · exact fn_ok hE (kp := impl_IsPrime.kp) (N := N) Go.Proofs.Try.func10 (c := impl_IsPrime.bd) (by kernel_rfl) ((impl_IsPrime.eq N _ _).trans h)
  · cases h

noncomputable def E6 (N : Nat) : Env := (E5 N).add 10 (impl_IsPrime.en N)

theorem E6_ok (N : Nat) : EnvOk (E6 N) ents := Env.add_ok (E5_ok N) (impl_IsPrime.en_ok N (E5_ok N))

noncomputable def impl_in.kp : Keeps := ⟨[], []⟩

noncomputable def impl_in.bd : Code := bodyOf Go.Proofs.Try.f11

noncomputable def impl_in.fin {ρ : Type} (N : Nat) (K : AV → Heap → Option ρ) : XE → St → Option ρ := finK (E6 N) Go.Proofs.Try.f11 [] K

theorem impl_in.eq {ρ : Type} (N : Nat) (K : AV → Heap → Option ρ) (x0 : Int) (least1 : Int) (most2 : Int) :
    xbody (E6 N) ents impl_in.kp N Go.Proofs.Try.f11 impl_in.bd [.int .i64 (x0), .int .i64 (least1), .int .i64 (most2)] [] K = (impl_in N (fun d0 => K (.bool (d0)) []) x0 least1 most2) := by kernel_rfl

noncomputable def impl_in.en (N : Nat) (ρ : Type) : List AV → Heap → (AV → Heap → Option ρ) → Option ρ
  | [.int .i64 (x0), .int .i64 (least1), .int .i64 (most2)], [], K => (impl_in N (fun d0 => K (.bool (d0)) []) x0 least1 most2)
  | _, _, _ => none

theorem impl_in.en_ok (N : Nat) (hE : EnvOk (E6 N) ents) (ρ : Type) (args : List AV) (sh : Heap) (K : AV → Heap → Option ρ) (r : ρ) (h : impl_in.en N ρ args sh K = some r) : ∃ v sh', K v sh' = some r ∧ FnOk (E6 N).P 11 args sh v sh' := by
  unfold impl_in.en at h
  split at h
  · exact fn_ok hE (kp := impl_in.kp) (N := N) Go.Proofs.Try.func11 (c := impl_in.bd) (by kernel_rfl) ((impl_in.eq N _ _ _ _).trans h)
  · cases h

noncomputable def E7 (N : Nat) : Env := (E6 N).add 11 (impl_in.en N)

theorem E7_ok (N : Nat) : EnvOk (E7 N) ents := Env.add_ok (E6_ok N) (impl_in.en_ok N (E6_ok N))

noncomputable def impl_basis.kp : Keeps := ⟨[], []⟩

noncomputable def impl_basis.bd : Code := bodyOf Go.Proofs.Try.f17

noncomputable def impl_basis.fin {ρ : Type} (N : Nat) (K : AV → Heap → Option ρ) : XE → St → Option ρ := finK (E7 N) Go.Proofs.Try.f17 [] K

theorem impl_basis.eq {ρ : Type} (N : Nat) (K : AV → Heap → Option ρ) (i0 : Int) :
    xbody (E7 N) ents impl_basis.kp N Go.Proofs.Try.f17 impl_basis.bd [.int .i64 (i0)] [] K = (impl_basis N (fun d0 => K (.agg [⟨.u8, 8, d0⟩]) []) i0) := by kernel_rfl

noncomputable def impl_basis.en (N : Nat) (ρ : Type) : List AV → Heap → (AV → Heap → Option ρ) → Option ρ
  | [.int .i64 (i0)], [], K => (impl_basis N (fun d0 => K (.agg [⟨.u8, 8, d0⟩]) []) i0)
  | _, _, _ => none

theorem impl_basis.en_ok (N : Nat) (hE : EnvOk (E7 N) ents) (ρ : Type) (args : List AV) (sh : Heap) (K : AV → Heap → Option ρ) (r : ρ) (h : impl_basis.en N ρ args sh K = some r) : ∃ v sh', K v sh' = some r ∧ FnOk (E7 N).P 17 args sh v sh' := by
  unfold impl_basis.en at h
  split at h
  · exact fn_ok hE (kp := impl_basis.kp) (N := N) Go.Proofs.Try.func17 (c := impl_basis.bd) (by kernel_rfl) ((impl_basis.eq N _ _).trans h)
  · cases h

noncomputable def E8 (N : Nat) : Env := (E7 N).add 17 (impl_basis.en N)

theorem E8_ok (N : Nat) : EnvOk (E8 N) ents := Env.add_ok (E7_ok N) (impl_basis.en_ok N (E7_ok N))

noncomputable def impl_Hopf_field.kp : Keeps := ⟨[], []⟩

noncomputable def impl_Hopf_field.bd : Code := bodyOf Go.Proofs.Try.f18

noncomputable def impl_Hopf_field.fin {ρ : Type} (N : Nat) (K : AV → Heap → Option ρ) (g0 : Nat → Int) (g1 : Nat → Int) : XE → St → Option ρ := finK (E8 N) Go.Proofs.Try.f18 [⟨false, .ints .i64 2 g0⟩, ⟨false, .ints .u8 1104 g1⟩] K

theorem impl_Hopf_field.eq {ρ : Type} (N : Nat) (K : AV → Heap → Option ρ) (g0 : Nat → Int) (g1 : Nat → Int) :
    xbody (E8 N) ents impl_Hopf_field.kp N Go.Proofs.Try.f18 impl_Hopf_field.bd [.sptr [(0, 2), (1, 1104)]] [⟨false, .ints .i64 2 g0⟩, ⟨false, .ints .u8 1104 g1⟩] K = (impl_Hopf_field N (fun d0 => K (.agg [⟨.i64, 2, d0⟩]) [⟨false, .ints .i64 2 g0⟩, ⟨false, .ints .u8 1104 g1⟩]) g0 g1) := by kernel_rfl

noncomputable def impl_Hopf_field.en (N : Nat) (ρ : Type) : List AV → Heap → (AV → Heap → Option ρ) → Option ρ
  | [.sptr [(0, 2), (1, 1104)]], [⟨false, .ints .i64 2 g0⟩, ⟨false, .ints .u8 1104 g1⟩], K => (impl_Hopf_field N (fun d0 => K (.agg [⟨.i64, 2, d0⟩]) [⟨false, .ints .i64 2 g0⟩, ⟨false, .ints .u8 1104 g1⟩]) g0 g1)
  | _, _, _ => none

theorem impl_Hopf_field.en_ok (N : Nat) (hE : EnvOk (E8 N) ents) (ρ : Type) (args : List AV) (sh : Heap) (K : AV → Heap → Option ρ) (r : ρ) (h : impl_Hopf_field.en N ρ args sh K = some r) : ∃ v sh', K v sh' = some r ∧ FnOk (E8 N).P 18 args sh v sh' := by
  unfold impl_Hopf_field.en at h
  split at h
  · exact fn_ok hE (kp := impl_Hopf_field.kp) (N := N) Go.Proofs.Try.func18 (c := impl_Hopf_field.bd) (by kernel_rfl) ((impl_Hopf_field.eq N _ _ _).trans h)
  · cases h

noncomputable def E9 (N : Nat) : Env := (E8 N).add 18 (impl_Hopf_field.en N)

theorem E9_ok (N : Nat) : EnvOk (E9 N) ents := Env.add_ok (E8_ok N) (impl_Hopf_field.en_ok N (E8_ok N))

noncomputable def impl_field_mod.kp : Keeps := ⟨[], []⟩

noncomputable def impl_field_mod.bd : Code := bodyOf Go.Proofs.Try.f20

noncomputable def impl_field_mod.fin {ρ : Type} (N : Nat) (K : AV → Heap → Option ρ) : XE → St → Option ρ := finK (E9 N) Go.Proofs.Try.f20 [] K

theorem impl_field_mod.eq {ρ : Type} (N : Nat) (K : AV → Heap → Option ρ) (f0 : Nat → Int) (x1 : Int) :
    xbody (E9 N) ents impl_field_mod.kp N Go.Proofs.Try.f20 impl_field_mod.bd [.agg [⟨.i64, 2, f0⟩], .int .i64 (x1)] [] K = (impl_field_mod N (fun d0 => K (.int .u8 (d0)) []) f0 x1) := by kernel_rfl

noncomputable def impl_field_mod.en (N : Nat) (ρ : Type) : List AV → Heap → (AV → Heap → Option ρ) → Option ρ
  | [.agg [⟨.i64, 2, f0⟩], .int .i64 (x1)], [], K => (impl_field_mod N (fun d0 => K (.int .u8 (d0)) []) f0 x1)
  | _, _, _ => none

theorem impl_field_mod.en_ok (N : Nat) (hE : EnvOk (E9 N) ents) (ρ : Type) (args : List AV) (sh : Heap) (K : AV → Heap → Option ρ) (r : ρ) (h : impl_field_mod.en N ρ args sh K = some r) : ∃ v sh', K v sh' = some r ∧ FnOk (E9 N).P 20 args sh v sh' := by
  unfold impl_field_mod.en at h
  split at h
  · exact fn_ok hE (kp := impl_field_mod.kp) (N := N) Go.Proofs.Try.func20 (c := impl_field_mod.bd) (by kernel_rfl) ((impl_field_mod.eq N _ _ _).trans h)
  · cases h

noncomputable def E10 (N : Nat) : Env := (E9 N).add 20 (impl_field_mod.en N)

theorem E10_ok (N : Nat) : EnvOk (E10 N) ents := Env.add_ok (E9_ok N) (impl_field_mod.en_ok N (E9_ok N))

noncomputable def impl_field_plus.kp : Keeps := ⟨[(0, [1, 2, 4, 12, 13], 3)], [(0, [], 3)]⟩

noncomputable def impl_field_plus.bd : Code := bodyOf Go.Proofs.Try.f21

noncomputable def impl_field_plus.fin {ρ : Type} (N : Nat) (K : AV → Heap → Option ρ) (g3 : Nat → Int) : XE → St → Option ρ := finK (E10 N) Go.Proofs.Try.f21 [⟨true, .ints .u8 8 g3⟩] K

noncomputable def impl_field_plus.k0 {ρ : Type} (N : Nat) (K : AV → Heap → Option ρ) (g3 : Nat → Int) : XE → St → Option ρ := (blockK impl_field_plus.kp 1 0 (impl_field_plus.fin N K g3))

theorem impl_field_plus.k0_mix {ρ : Type} (N : Nat) (K : AV → Heap → Option ρ) (g3 : Nat → Int) : mixK (impl_field_plus.fin N K g3 .ret) (impl_field_plus.k0 N K g3) = (impl_field_plus.k0 N K g3) := by
  funext e s; cases e <;> rfl

noncomputable def impl_field_plus.st0 (f0 : Nat → Int) (k1 : Int) (w2 : Nat → Int) (x4 : Int) (g5 : Nat → Int) : St := ⟨sl 35 [(1, .sptr [(0, 8)]), (2, .int .i64 (k1)), (4, .sptr [(1, 2)]), (12, .agg [⟨.u8, 8, w2⟩]), (13, .int .i64 (x4))], [⟨true, .ints .u8 8 g5⟩, ⟨true, .ints .i64 2 f0⟩, ⟨true, .ints .u8 8 w2⟩]⟩

noncomputable def impl_field_plus.sx0_0 (f0 : Nat → Int) (w2 : Nat → Int) (o7 : Nat → Int) : St := ⟨sl 35 [], [⟨true, .ints .u8 8 o7⟩, ⟨true, .ints .i64 2 f0⟩, ⟨true, .ints .u8 8 w2⟩]⟩

theorem impl_field_plus.b0_gen {ρ : Type} (N : Nat) (K : AV → Heap → Option ρ) (L0 : St → Option ρ) (kv : XE → St → Option ρ) (f0 : Nat → Int) (k1 : Int) (w2 : Nat → Int) (g3 : Nat → Int) (x4 : Int) (g5 : Nat → Int) :
    xcode (E10 N) ents impl_field_plus.kp 1 N (cL (cK (cB (cB (cB impl_field_plus.bd))))) 0 (impl_field_plus.st0 f0 k1 w2 x4 g5) (roundK impl_field_plus.kp 1 0 L0 (mixK (impl_field_plus.fin N K g3 .ret) kv)) = (impl_field_plus.b0 N (fun d0 => K (.tup []) [⟨true, .ints .u8 8 d0⟩]) (fun x4 g5 => L0 (impl_field_plus.st0 f0 k1 w2 x4 g5)) (fun o7 => kv (.exit 0) (impl_field_plus.sx0_0 f0 w2 o7)) f0 k1 w2 x4 g5) := by kernel_rfl

theorem impl_field_plus.b0_eq {ρ : Type} (N : Nat) (K : AV → Heap → Option ρ) (L0 : St → Option ρ) (f0 : Nat → Int) (k1 : Int) (w2 : Nat → Int) (g3 : Nat → Int) (x4 : Int) (g5 : Nat → Int) :
    xcode (E10 N) ents impl_field_plus.kp 1 N (cL (cK (cB (cB (cB impl_field_plus.bd))))) 0 (impl_field_plus.st0 f0 k1 w2 x4 g5) (roundK impl_field_plus.kp 1 0 L0 (impl_field_plus.k0 N K g3)) = (impl_field_plus.b0 N (fun d0 => K (.tup []) [⟨true, .ints .u8 8 d0⟩]) (fun x4 g5 => L0 (impl_field_plus.st0 f0 k1 w2 x4 g5)) (fun o7 => (impl_field_plus.k0 N K g3) (.exit 0) (impl_field_plus.sx0_0 f0 w2 o7)) f0 k1 w2 x4 g5) := by
  have h := impl_field_plus.b0_gen N K L0 (impl_field_plus.k0 N K g3) f0 k1 w2 g3 x4 g5
  rw [impl_field_plus.k0_mix] at h
  exact h

theorem impl_field_plus.a0_0_eq {ρ : Type} (N : Nat) (K : AV → Heap → Option ρ) (f0 : Nat → Int) (w2 : Nat → Int) (g3 : Nat → Int) (o7 : Nat → Int) :
    (impl_field_plus.k0 N K g3) (.exit 0) (impl_field_plus.sx0_0 f0 w2 o7) = (impl_field_plus.a0_0 N (fun d0 => K (.tup []) [⟨true, .ints .u8 8 d0⟩]) o7) := by kernel_rfl

theorem impl_field_plus.l0_eq {ρ : Type} (N : Nat) (K : AV → Heap → Option ρ) (f0 : Nat → Int) (k1 : Int) (w2 : Nat → Int) (g3 : Nat → Int) :
    ∀ (m : Nat) (x4 : Int) (g5 : Nat → Int), xloop (xcode (E10 N) ents impl_field_plus.kp 1 N (cL (cK (cB (cB (cB impl_field_plus.bd))))) 0) impl_field_plus.kp 1 0 m (impl_field_plus.st0 f0 k1 w2 x4 g5) (impl_field_plus.k0 N K g3) = (impl_field_plus.l0 N (fun d0 => K (.tup []) [⟨true, .ints .u8 8 d0⟩]) f0 k1 w2 (fun o7 => (impl_field_plus.k0 N K g3) (.exit 0) (impl_field_plus.sx0_0 f0 w2 o7)) m x4 g5) := by
  intro m
  induction m with
  | zero => intros; rfl
  | succ m ih =>
    intro x4 g5
    refine (impl_field_plus.b0_eq N K (fun s => xloop (xcode (E10 N) ents impl_field_plus.kp 1 N (cL (cK (cB (cB (cB impl_field_plus.bd))))) 0) impl_field_plus.kp 1 0 m s (impl_field_plus.k0 N K g3)) f0 k1 w2 g3 x4 g5).trans ?_
    simp only [ih]
    kernel_rfl

theorem impl_field_plus.s_eq {ρ : Type} (N : Nat) (K : AV → Heap → Option ρ) (f0 : Nat → Int) (k1 : Int) (w2 : Nat → Int) (g3 : Nat → Int) :
    xbody (E10 N) ents impl_field_plus.kp N Go.Proofs.Try.f21 impl_field_plus.bd [.agg [⟨.i64, 2, f0⟩], .sptr [(0, 8)], .int .i64 (k1), .agg [⟨.u8, 8, w2⟩]] [⟨true, .ints .u8 8 g3⟩] K = (impl_field_plus.s N (fun d0 => K (.tup []) [⟨true, .ints .u8 8 d0⟩]) (fun x4 g5 => xloop (xcode (E10 N) ents impl_field_plus.kp 1 N (cL (cK (cB (cB (cB impl_field_plus.bd))))) 0) impl_field_plus.kp 1 0 N (impl_field_plus.st0 f0 k1 w2 x4 g5) (impl_field_plus.k0 N K g3)) k1 g3) := by kernel_rfl

theorem impl_field_plus.eq {ρ : Type} (N : Nat) (K : AV → Heap → Option ρ) (f0 : Nat → Int) (k1 : Int) (w2 : Nat → Int) (g3 : Nat → Int) :
    xbody (E10 N) ents impl_field_plus.kp N Go.Proofs.Try.f21 impl_field_plus.bd [.agg [⟨.i64, 2, f0⟩], .sptr [(0, 8)], .int .i64 (k1), .agg [⟨.u8, 8, w2⟩]] [⟨true, .ints .u8 8 g3⟩] K = (impl_field_plus N (fun d0 => K (.tup []) [⟨true, .ints .u8 8 d0⟩]) f0 k1 w2 g3) := by
  refine (impl_field_plus.s_eq N K f0 k1 w2 g3).trans ?_
  simp only [impl_field_plus.l0_eq, impl_field_plus.a0_0_eq]
  kernel_rfl

noncomputable def impl_field_plus.en (N : Nat) (ρ : Type) : List AV → Heap → (AV → Heap → Option ρ) → Option ρ
  | [.agg [⟨.i64, 2, f0⟩], .sptr [(0, 8)], .int .i64 (k1), .agg [⟨.u8, 8, w2⟩]], [⟨true, .ints .u8 8 g3⟩], K => (impl_field_plus N (fun d0 => K (.tup []) [⟨true, .ints .u8 8 d0⟩]) f0 k1 w2 g3)
  | _, _, _ => none

theorem impl_field_plus.en_ok (N : Nat) (hE : EnvOk (E10 N) ents) (ρ : Type) (args : List AV) (sh : Heap) (K : AV → Heap → Option ρ) (r : ρ) (h : impl_field_plus.en N ρ args sh K = some r) : ∃ v sh', K v sh' = some r ∧ FnOk (E10 N).P 21 args sh v sh' := by
  unfold impl_field_plus.en at h
  split at h
  · exact fn_ok hE (kp := impl_field_plus.kp) (N := N) Go.Proofs.Try.func21 (c := impl_field_plus.bd) (by kernel_rfl) ((impl_field_plus.eq N _ _ _ _ _).trans h)
  · cases h

noncomputable def E11 (N : Nat) : Env := (E10 N).add 21 (impl_field_plus.en N)

theorem E11_ok (N : Nat) : EnvOk (E11 N) ents := Env.add_ok (E10_ok N) (impl_field_plus.en_ok N (E10_ok N))

noncomputable def impl_field_times.kp : Keeps := ⟨[], []⟩

noncomputable def impl_field_times.bd : Code := bodyOf Go.Proofs.Try.f19

noncomputable def impl_field_times.fin {ρ : Type} (N : Nat) (K : AV → Heap → Option ρ) : XE → St → Option ρ := finK (E11 N) Go.Proofs.Try.f19 [] K

theorem impl_field_times.eq {ρ : Type} (N : Nat) (K : AV → Heap → Option ρ) (f0 : Nat → Int) (k1 : Int) (w2 : Nat → Int) :
    xbody (E11 N) ents impl_field_times.kp N Go.Proofs.Try.f19 impl_field_times.bd [.agg [⟨.i64, 2, f0⟩], .int .i64 (k1), .agg [⟨.u8, 8, w2⟩]] [] K = (impl_field_times N (fun d0 => K (.agg [⟨.u8, 8, d0⟩]) []) f0 k1 w2) := by kernel_rfl

noncomputable def impl_field_times.en (N : Nat) (ρ : Type) : List AV → Heap → (AV → Heap → Option ρ) → Option ρ
  | [.agg [⟨.i64, 2, f0⟩], .int .i64 (k1), .agg [⟨.u8, 8, w2⟩]], [], K => (impl_field_times N (fun d0 => K (.agg [⟨.u8, 8, d0⟩]) []) f0 k1 w2)
  | _, _, _ => none

theorem impl_field_times.en_ok (N : Nat) (hE : EnvOk (E11 N) ents) (ρ : Type) (args : List AV) (sh : Heap) (K : AV → Heap → Option ρ) (r : ρ) (h : impl_field_times.en N ρ args sh K = some r) : ∃ v sh', K v sh' = some r ∧ FnOk (E11 N).P 19 args sh v sh' := by
  unfold impl_field_times.en at h
  split at h
  · exact fn_ok hE (kp := impl_field_times.kp) (N := N) Go.Proofs.Try.func19 (c := impl_field_times.bd) (by kernel_rfl) ((impl_field_times.eq N _ _ _ _).trans h)
  · cases h

noncomputable def E12 (N : Nat) : Env := (E11 N).add 19 (impl_field_times.en N)

theorem E12_ok (N : Nat) : EnvOk (E12 N) ents := Env.add_ok (E11_ok N) (impl_field_times.en_ok N (E11_ok N))

noncomputable def impl_lineHopf.kp : Keeps := ⟨[(0, [0, 1, 4, 5, 6, 17, 18], 5), (2, [0, 1, 4, 5, 6, 7, 17, 18, 21, 22], 5), (4, [0, 1, 4, 5, 6, 7, 9, 10, 17, 18], 5)], [(0, [4, 5], 5), (2, [0, 1, 4, 5, 6, 7, 17, 18], 5), (4, [0, 1, 4, 5, 6, 7, 17, 18], 5)]⟩

noncomputable def impl_lineHopf.bd : Code := bodyOf Go.Proofs.Try.f12

noncomputable def impl_lineHopf.fin {ρ : Type} (N : Nat) (K : AV → Heap → Option ρ) : XE → St → Option ρ := finK (E12 N) Go.Proofs.Try.f12 [] K

noncomputable def impl_lineHopf.k0 {ρ : Type} (N : Nat) (K : AV → Heap → Option ρ) : XE → St → Option ρ := (blockK impl_lineHopf.kp 0 0 (seqK (xcode (E12 N) ents impl_lineHopf.kp 0 N (cB (cB (cB (cB impl_lineHopf.bd)))) 0) (impl_lineHopf.fin N K)))

theorem impl_lineHopf.k0_mix {ρ : Type} (N : Nat) (K : AV → Heap → Option ρ) : mixK (impl_lineHopf.fin N K .ret) (impl_lineHopf.k0 N K) = (impl_lineHopf.k0 N K) := by
  funext e s; cases e <;> rfl

noncomputable def impl_lineHopf.st0 (p0 : Int) (k1 : Int) (r4 : Nat → Int) (x5 : Int) (g6 : Nat → Int) : St := ⟨sl 93 [(0, .int .i64 (p0)), (1, .int .i64 (k1)), (4, .sptr [(0, 2), (1, 1104)]), (5, .sptr [(2, 2), (3, 1104)]), (6, .sptr [(4, 2)]), (17, .int .i64 (p0)), (18, .int .i64 (x5))], [⟨true, .ints .i64 2 (fun _ => 0)⟩, ⟨true, .ints .u8 1104 (fun _ => 0)⟩, ⟨true, .ints .i64 2 (upd (upd (fun _ => 0) 0 p0) 1 p0)⟩, ⟨true, .ints .u8 1104 g6⟩, ⟨true, .ints .i64 2 r4⟩]⟩

noncomputable def impl_lineHopf.sx0_0 (p0 : Int) (r4 : Nat → Int) (o20 : Nat → Int) : St := ⟨sl 93 [(4, .sptr [(0, 2), (1, 1104)]), (5, .sptr [(2, 2), (3, 1104)])], [⟨true, .ints .i64 2 (fun _ => 0)⟩, ⟨true, .ints .u8 1104 (fun _ => 0)⟩, ⟨true, .ints .i64 2 (upd (upd (fun _ => 0) 0 p0) 1 p0)⟩, ⟨true, .ints .u8 1104 o20⟩, ⟨true, .ints .i64 2 r4⟩]⟩

noncomputable def impl_lineHopf.k1g {ρ : Type} (N : Nat) (L0 : St → Option ρ) (kv : XE → St → Option ρ) : XE → St → Option ρ := (blockK impl_lineHopf.kp 0 2 (seqK (xcode (E12 N) ents impl_lineHopf.kp 0 N (cB (cB (cK (cA (cB (cB (cL (cK (cB (cA (cB (cB (cB impl_lineHopf.bd))))))))))))) 1) (blockK impl_lineHopf.kp 0 1 (seqK (xcode (E12 N) ents impl_lineHopf.kp 0 N (cB (cB (cB (cL (cK (cB (cA (cB (cB (cB impl_lineHopf.bd)))))))))) 0) (roundK impl_lineHopf.kp 0 0 L0 kv)))))

theorem impl_lineHopf.k1_mix {ρ : Type} (N : Nat) (K : AV → Heap → Option ρ) (L0 : St → Option ρ) : mixK (impl_lineHopf.fin N K .ret) (impl_lineHopf.k1g N L0 (impl_lineHopf.k0 N K)) = (impl_lineHopf.k1g N L0 (impl_lineHopf.k0 N K)) := by
  funext e s; cases e <;> rfl

noncomputable def impl_lineHopf.st1 (p0 : Int) (k1 : Int) (r4 : Nat → Int) (x5 : Int) (x7 : Int) (g8 : Nat → Int) : St := ⟨sl 93 [(0, .int .i64 (p0)), (1, .int .i64 (k1)), (4, .sptr [(0, 2), (1, 1104)]), (5, .sptr [(2, 2), (3, 1104)]), (6, .sptr [(4, 2)]), (7, .int .i64 (x5)), (17, .int .i64 (p0)), (18, .int .i64 (x5)), (21, .int .i64 (p0)), (22, .int .i64 (x7))], [⟨true, .ints .i64 2 (fun _ => 0)⟩, ⟨true, .ints .u8 1104 (fun _ => 0)⟩, ⟨true, .ints .i64 2 (upd (upd (fun _ => 0) 0 p0) 1 p0)⟩, ⟨true, .ints .u8 1104 g8⟩, ⟨true, .ints .i64 2 r4⟩]⟩

noncomputable def impl_lineHopf.sx1_0 (p0 : Int) (k1 : Int) (r4 : Nat → Int) (x5 : Int) (o12 : Nat → Int) : St := ⟨sl 93 [(0, .int .i64 (p0)), (1, .int .i64 (k1)), (4, .sptr [(0, 2), (1, 1104)]), (5, .sptr [(2, 2), (3, 1104)]), (6, .sptr [(4, 2)]), (7, .int .i64 (x5)), (17, .int .i64 (p0)), (18, .int .i64 (x5))], [⟨true, .ints .i64 2 (fun _ => 0)⟩, ⟨true, .ints .u8 1104 (fun _ => 0)⟩, ⟨true, .ints .i64 2 (upd (upd (fun _ => 0) 0 p0) 1 p0)⟩, ⟨true, .ints .u8 1104 o12⟩, ⟨true, .ints .i64 2 r4⟩]⟩

noncomputable def impl_lineHopf.k2g {ρ : Type} (N : Nat) (L0 : St → Option ρ) (kv : XE → St → Option ρ) : XE → St → Option ρ := (blockK impl_lineHopf.kp 0 4 (seqK (xcode (E12 N) ents impl_lineHopf.kp 0 N (cB (cB (cB (cB (cK (cA (cB (cB (cL (cK (cB (cA (cB (cB (cB impl_lineHopf.bd))))))))))))))) 1) (blockK impl_lineHopf.kp 0 1 (seqK (xcode (E12 N) ents impl_lineHopf.kp 0 N (cB (cB (cB (cL (cK (cB (cA (cB (cB (cB impl_lineHopf.bd)))))))))) 0) (roundK impl_lineHopf.kp 0 0 L0 kv)))))

theorem impl_lineHopf.k2_mix {ρ : Type} (N : Nat) (K : AV → Heap → Option ρ) (L0 : St → Option ρ) : mixK (impl_lineHopf.fin N K .ret) (impl_lineHopf.k2g N L0 (impl_lineHopf.k0 N K)) = (impl_lineHopf.k2g N L0 (impl_lineHopf.k0 N K)) := by
  funext e s; cases e <;> rfl

noncomputable def impl_lineHopf.st2 (p0 : Int) (k1 : Int) (r4 : Nat → Int) (x5 : Int) (binomial13 : Int) (j14 : Int) (g15 : Nat → Int) : St := ⟨sl 93 [(0, .int .i64 (p0)), (1, .int .i64 (k1)), (4, .sptr [(0, 2), (1, 1104)]), (5, .sptr [(2, 2), (3, 1104)]), (6, .sptr [(4, 2)]), (7, .int .i64 (x5)), (9, .int .i64 (binomial13)), (10, .int .i64 (j14)), (17, .int .i64 (p0)), (18, .int .i64 (x5))], [⟨true, .ints .i64 2 (fun _ => 0)⟩, ⟨true, .ints .u8 1104 (fun _ => 0)⟩, ⟨true, .ints .i64 2 (upd (upd (fun _ => 0) 0 p0) 1 p0)⟩, ⟨true, .ints .u8 1104 g15⟩, ⟨true, .ints .i64 2 r4⟩]⟩

noncomputable def impl_lineHopf.sx2_0 (p0 : Int) (k1 : Int) (r4 : Nat → Int) (x5 : Int) (o17 : Nat → Int) : St := ⟨sl 93 [(0, .int .i64 (p0)), (1, .int .i64 (k1)), (4, .sptr [(0, 2), (1, 1104)]), (5, .sptr [(2, 2), (3, 1104)]), (6, .sptr [(4, 2)]), (7, .int .i64 (x5)), (17, .int .i64 (p0)), (18, .int .i64 (x5))], [⟨true, .ints .i64 2 (fun _ => 0)⟩, ⟨true, .ints .u8 1104 (fun _ => 0)⟩, ⟨true, .ints .i64 2 (upd (upd (fun _ => 0) 0 p0) 1 p0)⟩, ⟨true, .ints .u8 1104 o17⟩, ⟨true, .ints .i64 2 r4⟩]⟩

theorem impl_lineHopf.b2_gen {ρ : Type} (N : Nat) (K : AV → Heap → Option ρ) (L2 : St → Option ρ) (kv : XE → St → Option ρ) (p0 : Int) (k1 : Int) (r4 : Nat → Int) (x5 : Int) (binomial13 : Int) (j14 : Int) (g15 : Nat → Int) :
    xcode (E12 N) ents impl_lineHopf.kp 0 N (cL (cK (cB (cA (cB (cB (cB (cK (cA (cB (cB (cL (cK (cB (cA (cB (cB (cB impl_lineHopf.bd)))))))))))))))))) 4 (impl_lineHopf.st2 p0 k1 r4 x5 binomial13 j14 g15) (roundK impl_lineHopf.kp 0 4 L2 (mixK (impl_lineHopf.fin N K .ret) kv)) = (impl_lineHopf.b2 N (fun d0 d1 => K (.agg [⟨.i64, 2, d0⟩, ⟨.u8, 1104, d1⟩]) []) (fun binomial13 j14 g15 => L2 (impl_lineHopf.st2 p0 k1 r4 x5 binomial13 j14 g15)) (fun o17 => kv (.exit 4) (impl_lineHopf.sx2_0 p0 k1 r4 x5 o17)) r4 x5 binomial13 j14 g15) := by kernel_rfl

theorem impl_lineHopf.b2_eq {ρ : Type} (N : Nat) (K : AV → Heap → Option ρ) (L0 : St → Option ρ) (L2 : St → Option ρ) (p0 : Int) (k1 : Int) (r4 : Nat → Int) (x5 : Int) (binomial13 : Int) (j14 : Int) (g15 : Nat → Int) :
    xcode (E12 N) ents impl_lineHopf.kp 0 N (cL (cK (cB (cA (cB (cB (cB (cK (cA (cB (cB (cL (cK (cB (cA (cB (cB (cB impl_lineHopf.bd)))))))))))))))))) 4 (impl_lineHopf.st2 p0 k1 r4 x5 binomial13 j14 g15) (roundK impl_lineHopf.kp 0 4 L2 (impl_lineHopf.k2g N L0 (impl_lineHopf.k0 N K))) = (impl_lineHopf.b2 N (fun d0 d1 => K (.agg [⟨.i64, 2, d0⟩, ⟨.u8, 1104, d1⟩]) []) (fun binomial13 j14 g15 => L2 (impl_lineHopf.st2 p0 k1 r4 x5 binomial13 j14 g15)) (fun o17 => (impl_lineHopf.k2g N L0 (impl_lineHopf.k0 N K)) (.exit 4) (impl_lineHopf.sx2_0 p0 k1 r4 x5 o17)) r4 x5 binomial13 j14 g15) := by
  have h := impl_lineHopf.b2_gen N K L2 (impl_lineHopf.k2g N L0 (impl_lineHopf.k0 N K)) p0 k1 r4 x5 binomial13 j14 g15
  rw [impl_lineHopf.k2_mix] at h
  exact h

theorem impl_lineHopf.a2_0_gen {ρ : Type} (N : Nat) (K : AV → Heap → Option ρ) (L0 : St → Option ρ) (kv : XE → St → Option ρ) (p0 : Int) (k1 : Int) (r4 : Nat → Int) (x5 : Int) (o17 : Nat → Int) :
    (impl_lineHopf.k2g N L0 (mixK (impl_lineHopf.fin N K .ret) kv)) (.exit 4) (impl_lineHopf.sx2_0 p0 k1 r4 x5 o17) = (impl_lineHopf.a2_0 N (fun d0 d1 => K (.agg [⟨.i64, 2, d0⟩, ⟨.u8, 1104, d1⟩]) []) (fun x5 g6 => L0 (impl_lineHopf.st0 p0 k1 r4 x5 g6)) (fun o20 => kv (.exit 0) (impl_lineHopf.sx0_0 p0 r4 o20)) r4 x5 o17) := by kernel_rfl

theorem impl_lineHopf.a2_0_eq {ρ : Type} (N : Nat) (K : AV → Heap → Option ρ) (L0 : St → Option ρ) (p0 : Int) (k1 : Int) (r4 : Nat → Int) (x5 : Int) (o17 : Nat → Int) :
    (impl_lineHopf.k2g N L0 (impl_lineHopf.k0 N K)) (.exit 4) (impl_lineHopf.sx2_0 p0 k1 r4 x5 o17) = (impl_lineHopf.a2_0 N (fun d0 d1 => K (.agg [⟨.i64, 2, d0⟩, ⟨.u8, 1104, d1⟩]) []) (fun x5 g6 => L0 (impl_lineHopf.st0 p0 k1 r4 x5 g6)) (fun o20 => (impl_lineHopf.k0 N K) (.exit 0) (impl_lineHopf.sx0_0 p0 r4 o20)) r4 x5 o17) := by
  have h := impl_lineHopf.a2_0_gen N K L0 (impl_lineHopf.k0 N K) p0 k1 r4 x5 o17
  rw [impl_lineHopf.k0_mix] at h
  exact h

theorem impl_lineHopf.b1_gen {ρ : Type} (N : Nat) (K : AV → Heap → Option ρ) (L1 : St → Option ρ) (kv : XE → St → Option ρ) (p0 : Int) (k1 : Int) (r4 : Nat → Int) (x5 : Int) (x7 : Int) (g8 : Nat → Int) :
    xcode (E12 N) ents impl_lineHopf.kp 0 N (cL (cK (cB (cA (cB (cK (cA (cB (cB (cL (cK (cB (cA (cB (cB (cB impl_lineHopf.bd)))))))))))))))) 2 (impl_lineHopf.st1 p0 k1 r4 x5 x7 g8) (roundK impl_lineHopf.kp 0 2 L1 (mixK (impl_lineHopf.fin N K .ret) kv)) = (impl_lineHopf.b1 N (fun d0 d1 => K (.agg [⟨.i64, 2, d0⟩, ⟨.u8, 1104, d1⟩]) []) (fun x7 g8 => L1 (impl_lineHopf.st1 p0 k1 r4 x5 x7 g8)) (fun o12 => kv (.exit 2) (impl_lineHopf.sx1_0 p0 k1 r4 x5 o12)) p0 k1 r4 x5 x7 g8) := by kernel_rfl

theorem impl_lineHopf.b1_eq {ρ : Type} (N : Nat) (K : AV → Heap → Option ρ) (L0 : St → Option ρ) (L1 : St → Option ρ) (p0 : Int) (k1 : Int) (r4 : Nat → Int) (x5 : Int) (x7 : Int) (g8 : Nat → Int) :
    xcode (E12 N) ents impl_lineHopf.kp 0 N (cL (cK (cB (cA (cB (cK (cA (cB (cB (cL (cK (cB (cA (cB (cB (cB impl_lineHopf.bd)))))))))))))))) 2 (impl_lineHopf.st1 p0 k1 r4 x5 x7 g8) (roundK impl_lineHopf.kp 0 2 L1 (impl_lineHopf.k1g N L0 (impl_lineHopf.k0 N K))) = (impl_lineHopf.b1 N (fun d0 d1 => K (.agg [⟨.i64, 2, d0⟩, ⟨.u8, 1104, d1⟩]) []) (fun x7 g8 => L1 (impl_lineHopf.st1 p0 k1 r4 x5 x7 g8)) (fun o12 => (impl_lineHopf.k1g N L0 (impl_lineHopf.k0 N K)) (.exit 2) (impl_lineHopf.sx1_0 p0 k1 r4 x5 o12)) p0 k1 r4 x5 x7 g8) := by
  have h := impl_lineHopf.b1_gen N K L1 (impl_lineHopf.k1g N L0 (impl_lineHopf.k0 N K)) p0 k1 r4 x5 x7 g8
  rw [impl_lineHopf.k1_mix] at h
  exact h

theorem impl_lineHopf.a1_0_gen {ρ : Type} (N : Nat) (K : AV → Heap → Option ρ) (L0 : St → Option ρ) (kv : XE → St → Option ρ) (p0 : Int) (k1 : Int) (r4 : Nat → Int) (x5 : Int) (o12 : Nat → Int) :
    (impl_lineHopf.k1g N L0 (mixK (impl_lineHopf.fin N K .ret) kv)) (.exit 2) (impl_lineHopf.sx1_0 p0 k1 r4 x5 o12) = (impl_lineHopf.a1_0 N (fun d0 d1 => K (.agg [⟨.i64, 2, d0⟩, ⟨.u8, 1104, d1⟩]) []) (fun binomial13 j14 g15 => xloop (xcode (E12 N) ents impl_lineHopf.kp 0 N (cL (cK (cB (cA (cB (cB (cB (cK (cA (cB (cB (cL (cK (cB (cA (cB (cB (cB impl_lineHopf.bd)))))))))))))))))) 4) impl_lineHopf.kp 0 4 N (impl_lineHopf.st2 p0 k1 r4 x5 binomial13 j14 g15) (impl_lineHopf.k2g N L0 (mixK (impl_lineHopf.fin N K .ret) kv))) (fun x5 g6 => L0 (impl_lineHopf.st0 p0 k1 r4 x5 g6)) (fun o20 => kv (.exit 0) (impl_lineHopf.sx0_0 p0 r4 o20)) o12) := by kernel_rfl

theorem impl_lineHopf.a1_0_eq {ρ : Type} (N : Nat) (K : AV → Heap → Option ρ) (L0 : St → Option ρ) (p0 : Int) (k1 : Int) (r4 : Nat → Int) (x5 : Int) (o12 : Nat → Int) :
    (impl_lineHopf.k1g N L0 (impl_lineHopf.k0 N K)) (.exit 2) (impl_lineHopf.sx1_0 p0 k1 r4 x5 o12) = (impl_lineHopf.a1_0 N (fun d0 d1 => K (.agg [⟨.i64, 2, d0⟩, ⟨.u8, 1104, d1⟩]) []) (fun binomial13 j14 g15 => xloop (xcode (E12 N) ents impl_lineHopf.kp 0 N (cL (cK (cB (cA (cB (cB (cB (cK (cA (cB (cB (cL (cK (cB (cA (cB (cB (cB impl_lineHopf.bd)))))))))))))))))) 4) impl_lineHopf.kp 0 4 N (impl_lineHopf.st2 p0 k1 r4 x5 binomial13 j14 g15) (impl_lineHopf.k2g N L0 (impl_lineHopf.k0 N K))) (fun x5 g6 => L0 (impl_lineHopf.st0 p0 k1 r4 x5 g6)) (fun o20 => (impl_lineHopf.k0 N K) (.exit 0) (impl_lineHopf.sx0_0 p0 r4 o20)) o12) := by
  have h := impl_lineHopf.a1_0_gen N K L0 (impl_lineHopf.k0 N K) p0 k1 r4 x5 o12
  rw [impl_lineHopf.k0_mix] at h
  exact h

theorem impl_lineHopf.b0_gen {ρ : Type} (N : Nat) (K : AV → Heap → Option ρ) (L0 : St → Option ρ) (kv : XE → St → Option ρ) (p0 : Int) (k1 : Int) (r4 : Nat → Int) (x5 : Int) (g6 : Nat → Int) :
    xcode (E12 N) ents impl_lineHopf.kp 0 N (cL (cK (cB (cA (cB (cB (cB impl_lineHopf.bd))))))) 0 (impl_lineHopf.st0 p0 k1 r4 x5 g6) (roundK impl_lineHopf.kp 0 0 L0 (mixK (impl_lineHopf.fin N K .ret) kv)) = (impl_lineHopf.b0 N (fun d0 d1 => K (.agg [⟨.i64, 2, d0⟩, ⟨.u8, 1104, d1⟩]) []) (fun x7 g8 => xloop (xcode (E12 N) ents impl_lineHopf.kp 0 N (cL (cK (cB (cA (cB (cK (cA (cB (cB (cL (cK (cB (cA (cB (cB (cB impl_lineHopf.bd)))))))))))))))) 2) impl_lineHopf.kp 0 2 N (impl_lineHopf.st1 p0 k1 r4 x5 x7 g8) (impl_lineHopf.k1g N L0 (mixK (impl_lineHopf.fin N K .ret) kv))) (fun x5 g6 => L0 (impl_lineHopf.st0 p0 k1 r4 x5 g6)) (fun o20 => kv (.exit 0) (impl_lineHopf.sx0_0 p0 r4 o20)) p0 x5 g6) := by kernel_rfl

theorem impl_lineHopf.b0_eq {ρ : Type} (N : Nat) (K : AV → Heap → Option ρ) (L0 : St → Option ρ) (p0 : Int) (k1 : Int) (r4 : Nat → Int) (x5 : Int) (g6 : Nat → Int) :
    xcode (E12 N) ents impl_lineHopf.kp 0 N (cL (cK (cB (cA (cB (cB (cB impl_lineHopf.bd))))))) 0 (impl_lineHopf.st0 p0 k1 r4 x5 g6) (roundK impl_lineHopf.kp 0 0 L0 (impl_lineHopf.k0 N K)) = (impl_lineHopf.b0 N (fun d0 d1 => K (.agg [⟨.i64, 2, d0⟩, ⟨.u8, 1104, d1⟩]) []) (fun x7 g8 => xloop (xcode (E12 N) ents impl_lineHopf.kp 0 N (cL (cK (cB (cA (cB (cK (cA (cB (cB (cL (cK (cB (cA (cB (cB (cB impl_lineHopf.bd)))))))))))))))) 2) impl_lineHopf.kp 0 2 N (impl_lineHopf.st1 p0 k1 r4 x5 x7 g8) (impl_lineHopf.k1g N L0 (impl_lineHopf.k0 N K))) (fun x5 g6 => L0 (impl_lineHopf.st0 p0 k1 r4 x5 g6)) (fun o20 => (impl_lineHopf.k0 N K) (.exit 0) (impl_lineHopf.sx0_0 p0 r4 o20)) p0 x5 g6) := by
  have h := impl_lineHopf.b0_gen N K L0 (impl_lineHopf.k0 N K) p0 k1 r4 x5 g6
  rw [impl_lineHopf.k0_mix] at h
  exact h

theorem impl_lineHopf.a0_0_eq {ρ : Type} (N : Nat) (K : AV → Heap → Option ρ) (p0 : Int) (r4 : Nat → Int) (o20 : Nat → Int) :
    (impl_lineHopf.k0 N K) (.exit 0) (impl_lineHopf.sx0_0 p0 r4 o20) = (impl_lineHopf.a0_0 N (fun d0 d1 => K (.agg [⟨.i64, 2, d0⟩, ⟨.u8, 1104, d1⟩]) []) p0 o20) := by kernel_rfl

theorem impl_lineHopf.l2_eq {ρ : Type} (N : Nat) (K : AV → Heap → Option ρ) (L0 : St → Option ρ) (p0 : Int) (k1 : Int) (r4 : Nat → Int) (x5 : Int) :
    ∀ (m : Nat) (binomial13 : Int) (j14 : Int) (g15 : Nat → Int), xloop (xcode (E12 N) ents impl_lineHopf.kp 0 N (cL (cK (cB (cA (cB (cB (cB (cK (cA (cB (cB (cL (cK (cB (cA (cB (cB (cB impl_lineHopf.bd)))))))))))))))))) 4) impl_lineHopf.kp 0 4 m (impl_lineHopf.st2 p0 k1 r4 x5 binomial13 j14 g15) (impl_lineHopf.k2g N L0 (impl_lineHopf.k0 N K)) = (impl_lineHopf.l2 N (fun d0 d1 => K (.agg [⟨.i64, 2, d0⟩, ⟨.u8, 1104, d1⟩]) []) r4 x5 (fun o17 => (impl_lineHopf.k2g N L0 (impl_lineHopf.k0 N K)) (.exit 4) (impl_lineHopf.sx2_0 p0 k1 r4 x5 o17)) m binomial13 j14 g15) := by
  intro m
  induction m with
  | zero => intros; rfl
  | succ m ih =>
    intro binomial13 j14 g15
    refine (impl_lineHopf.b2_eq N K L0 (fun s => xloop (xcode (E12 N) ents impl_lineHopf.kp 0 N (cL (cK (cB (cA (cB (cB (cB (cK (cA (cB (cB (cL (cK (cB (cA (cB (cB (cB impl_lineHopf.bd)))))))))))))))))) 4) impl_lineHopf.kp 0 4 m s (impl_lineHopf.k2g N L0 (impl_lineHopf.k0 N K))) p0 k1 r4 x5 binomial13 j14 g15).trans ?_
    simp only [ih]
    kernel_rfl

theorem impl_lineHopf.l1_eq {ρ : Type} (N : Nat) (K : AV → Heap → Option ρ) (L0 : St → Option ρ) (p0 : Int) (k1 : Int) (r4 : Nat → Int) (x5 : Int) :
    ∀ (m : Nat) (x7 : Int) (g8 : Nat → Int), xloop (xcode (E12 N) ents impl_lineHopf.kp 0 N (cL (cK (cB (cA (cB (cK (cA (cB (cB (cL (cK (cB (cA (cB (cB (cB impl_lineHopf.bd)))))))))))))))) 2) impl_lineHopf.kp 0 2 m (impl_lineHopf.st1 p0 k1 r4 x5 x7 g8) (impl_lineHopf.k1g N L0 (impl_lineHopf.k0 N K)) = (impl_lineHopf.l1 N (fun d0 d1 => K (.agg [⟨.i64, 2, d0⟩, ⟨.u8, 1104, d1⟩]) []) p0 k1 r4 x5 (fun o12 => (impl_lineHopf.k1g N L0 (impl_lineHopf.k0 N K)) (.exit 2) (impl_lineHopf.sx1_0 p0 k1 r4 x5 o12)) m x7 g8) := by
  intro m
  induction m with
  | zero => intros; rfl
  | succ m ih =>
    intro x7 g8
    refine (impl_lineHopf.b1_eq N K L0 (fun s => xloop (xcode (E12 N) ents impl_lineHopf.kp 0 N (cL (cK (cB (cA (cB (cK (cA (cB (cB (cL (cK (cB (cA (cB (cB (cB impl_lineHopf.bd)))))))))))))))) 2) impl_lineHopf.kp 0 2 m s (impl_lineHopf.k1g N L0 (impl_lineHopf.k0 N K))) p0 k1 r4 x5 x7 g8).trans ?_
    simp only [ih]
    kernel_rfl

theorem impl_lineHopf.l0_eq {ρ : Type} (N : Nat) (K : AV → Heap → Option ρ) (p0 : Int) (k1 : Int) (r4 : Nat → Int) :
    ∀ (m : Nat) (x5 : Int) (g6 : Nat → Int), xloop (xcode (E12 N) ents impl_lineHopf.kp 0 N (cL (cK (cB (cA (cB (cB (cB impl_lineHopf.bd))))))) 0) impl_lineHopf.kp 0 0 m (impl_lineHopf.st0 p0 k1 r4 x5 g6) (impl_lineHopf.k0 N K) = (impl_lineHopf.l0 N (fun d0 d1 => K (.agg [⟨.i64, 2, d0⟩, ⟨.u8, 1104, d1⟩]) []) p0 k1 r4 (fun o20 => (impl_lineHopf.k0 N K) (.exit 0) (impl_lineHopf.sx0_0 p0 r4 o20)) m x5 g6) := by
  intro m
  induction m with
  | zero => intros; rfl
  | succ m ih =>
    intro x5 g6
    refine (impl_lineHopf.b0_eq N K (fun s => xloop (xcode (E12 N) ents impl_lineHopf.kp 0 N (cL (cK (cB (cA (cB (cB (cB impl_lineHopf.bd))))))) 0) impl_lineHopf.kp 0 0 m s (impl_lineHopf.k0 N K)) p0 k1 r4 x5 g6).trans ?_
    simp only [ih, impl_lineHopf.l1_eq, impl_lineHopf.a1_0_eq, impl_lineHopf.l2_eq, impl_lineHopf.a2_0_eq]
    kernel_rfl

theorem impl_lineHopf.s_eq {ρ : Type} (N : Nat) (K : AV → Heap → Option ρ) (p0 : Int) (k1 : Int) :
    xbody (E12 N) ents impl_lineHopf.kp N Go.Proofs.Try.f12 impl_lineHopf.bd [.int .i64 (p0), .int .i64 (k1)] [] K = (impl_lineHopf.s N (fun d0 d1 => K (.agg [⟨.i64, 2, d0⟩, ⟨.u8, 1104, d1⟩]) []) (fun r4 x5 g6 => xloop (xcode (E12 N) ents impl_lineHopf.kp 0 N (cL (cK (cB (cA (cB (cB (cB impl_lineHopf.bd))))))) 0) impl_lineHopf.kp 0 0 N (impl_lineHopf.st0 p0 k1 r4 x5 g6) (impl_lineHopf.k0 N K)) p0) := by kernel_rfl

theorem impl_lineHopf.eq {ρ : Type} (N : Nat) (K : AV → Heap → Option ρ) (p0 : Int) (k1 : Int) :
    xbody (E12 N) ents impl_lineHopf.kp N Go.Proofs.Try.f12 impl_lineHopf.bd [.int .i64 (p0), .int .i64 (k1)] [] K = (impl_lineHopf N (fun d0 d1 => K (.agg [⟨.i64, 2, d0⟩, ⟨.u8, 1104, d1⟩]) []) p0 k1) := by
  refine (impl_lineHopf.s_eq N K p0 k1).trans ?_
  simp only [impl_lineHopf.l0_eq, impl_lineHopf.a0_0_eq]
  kernel_rfl

noncomputable def impl_lineHopf.en (N : Nat) (ρ : Type) : List AV → Heap → (AV → Heap → Option ρ) → Option ρ
  | [.int .i64 (p0), .int .i64 (k1)], [], K => (impl_lineHopf N (fun d0 d1 => K (.agg [⟨.i64, 2, d0⟩, ⟨.u8, 1104, d1⟩]) []) p0 k1)
  | _, _, _ => none

theorem impl_lineHopf.en_ok (N : Nat) (hE : EnvOk (E12 N) ents) (ρ : Type) (args : List AV) (sh : Heap) (K : AV → Heap → Option ρ) (r : ρ) (h : impl_lineHopf.en N ρ args sh K = some r) : ∃ v sh', K v sh' = some r ∧ FnOk (E12 N).P 12 args sh v sh' := by
  unfold impl_lineHopf.en at h
  split at h
  · exact fn_ok hE (kp := impl_lineHopf.kp) (N := N) Go.Proofs.Try.func12 (c := impl_lineHopf.bd) (by kernel_rfl) ((impl_lineHopf.eq N _ _ _).trans h)
  · cases h

noncomputable def E13 (N : Nat) : Env := (E12 N).add 12 (impl_lineHopf.en N)

theorem E13_ok (N : Nat) : EnvOk (E13 N) ents := Env.add_ok (E12_ok N) (impl_lineHopf.en_ok N (E12_ok N))

noncomputable def impl_LineHopf.kp : Keeps := ⟨[], []⟩

noncomputable def impl_LineHopf.bd : Code := bodyOf Go.Proofs.Try.f5

noncomputable def impl_LineHopf.fin {ρ : Type} (N : Nat) (K : AV → Heap → Option ρ) : XE → St → Option ρ := finK (E13 N) Go.Proofs.Try.f5 [] K

theorem impl_LineHopf.eq {ρ : Type} (N : Nat) (K : AV → Heap → Option ρ) (p0 : Int) (k1 : Int) :
    xbody (E13 N) ents impl_LineHopf.kp N Go.Proofs.Try.f5 impl_LineHopf.bd [.int .i64 (p0), .int .i64 (k1)] [] K = (impl_LineHopf N (fun d0 d1 d2 => K (.tup [.agg [⟨.i64, 2, d0⟩, ⟨.u8, 1104, d1⟩], .int .i64 (d2)]) []) p0 k1) := by kernel_rfl

noncomputable def impl_LineHopf.en (N : Nat) (ρ : Type) : List AV → Heap → (AV → Heap → Option ρ) → Option ρ
  | [.int .i64 (p0), .int .i64 (k1)], [], K => (impl_LineHopf N (fun d0 d1 d2 => K (.tup [.agg [⟨.i64, 2, d0⟩, ⟨.u8, 1104, d1⟩], .int .i64 (d2)]) []) p0 k1)
  | _, _, _ => none

theorem impl_LineHopf.en_ok (N : Nat) (hE : EnvOk (E13 N) ents) (ρ : Type) (args : List AV) (sh : Heap) (K : AV → Heap → Option ρ) (r : ρ) (h : impl_LineHopf.en N ρ args sh K = some r) : ∃ v sh', K v sh' = some r ∧ FnOk (E13 N).P 5 args sh v sh' := by
  unfold impl_LineHopf.en at h
  split at h
  · exact fn_ok hE (kp := impl_LineHopf.kp) (N := N) Go.Proofs.Try.func5 (c := impl_LineHopf.bd) (by kernel_rfl) ((impl_LineHopf.eq N _ _ _).trans h)
  · cases h

noncomputable def E14 (N : Nat) : Env := (E13 N).add 5 (impl_LineHopf.en N)

theorem E14_ok (N : Nat) : EnvOk (E14 N) ents := Env.add_ok (E13_ok N) (impl_LineHopf.en_ok N (E13_ok N))

noncomputable def laws_eqVector.kp : Keeps := ⟨[(0, [2, 3, 5], 2)], [(0, [], 2)]⟩

noncomputable def laws_eqVector.bd : Code := bodyOf Go.Proofs.Try.f13

noncomputable def laws_eqVector.fin {ρ : Type} (N : Nat) (K : AV → Heap → Option ρ) : XE → St → Option ρ := finK (E14 N) Go.Proofs.Try.f13 [] K

noncomputable def laws_eqVector.k0 {ρ : Type} (N : Nat) (K : AV → Heap → Option ρ) : XE → St → Option ρ := (blockK laws_eqVector.kp 0 0 (seqK (xcode (E14 N) ents laws_eqVector.kp 0 N (cB (cB laws_eqVector.bd)) 0) (laws_eqVector.fin N K)))

theorem laws_eqVector.k0_mix {ρ : Type} (N : Nat) (K : AV → Heap → Option ρ) : mixK (laws_eqVector.fin N K .ret) (laws_eqVector.k0 N K) = (laws_eqVector.k0 N K) := by
  funext e s; cases e <;> rfl

noncomputable def laws_eqVector.st0 (a0 : Nat → Int) (b1 : Nat → Int) (i2 : Int) : St := ⟨sl 17 [(2, .sptr [(0, 8)]), (3, .sptr [(1, 8)]), (5, .int .i64 (i2))], [⟨true, .ints .u8 8 a0⟩, ⟨true, .ints .u8 8 b1⟩]⟩

noncomputable def laws_eqVector.sx0_0 (a0 : Nat → Int) (b1 : Nat → Int) : St := ⟨sl 17 [], [⟨true, .ints .u8 8 a0⟩, ⟨true, .ints .u8 8 b1⟩]⟩

theorem laws_eqVector.b0_gen {ρ : Type} (N : Nat) (K : AV → Heap → Option ρ) (L0 : St → Option ρ) (kv : XE → St → Option ρ) (a0 : Nat → Int) (b1 : Nat → Int) (i2 : Int) :
    xcode (E14 N) ents laws_eqVector.kp 0 N (cL (cK (cB (cA (cB laws_eqVector.bd))))) 0 (laws_eqVector.st0 a0 b1 i2) (roundK laws_eqVector.kp 0 0 L0 (mixK (laws_eqVector.fin N K .ret) kv)) = (laws_eqVector.b0 N (fun d0 => K (.bool (d0)) []) (fun i2 => L0 (laws_eqVector.st0 a0 b1 i2)) (kv (.exit 0) (laws_eqVector.sx0_0 a0 b1)) a0 b1 i2) := by kernel_rfl

theorem laws_eqVector.b0_eq {ρ : Type} (N : Nat) (K : AV → Heap → Option ρ) (L0 : St → Option ρ) (a0 : Nat → Int) (b1 : Nat → Int) (i2 : Int) :
    xcode (E14 N) ents laws_eqVector.kp 0 N (cL (cK (cB (cA (cB laws_eqVector.bd))))) 0 (laws_eqVector.st0 a0 b1 i2) (roundK laws_eqVector.kp 0 0 L0 (laws_eqVector.k0 N K)) = (laws_eqVector.b0 N (fun d0 => K (.bool (d0)) []) (fun i2 => L0 (laws_eqVector.st0 a0 b1 i2)) ((laws_eqVector.k0 N K) (.exit 0) (laws_eqVector.sx0_0 a0 b1)) a0 b1 i2) := by
  have h := laws_eqVector.b0_gen N K L0 (laws_eqVector.k0 N K) a0 b1 i2
  rw [laws_eqVector.k0_mix] at h
  exact h

theorem laws_eqVector.a0_0_eq {ρ : Type} (N : Nat) (K : AV → Heap → Option ρ) (a0 : Nat → Int) (b1 : Nat → Int) :
    (laws_eqVector.k0 N K) (.exit 0) (laws_eqVector.sx0_0 a0 b1) = (laws_eqVector.a0_0 N (fun d0 => K (.bool (d0)) [])) := by kernel_rfl

theorem laws_eqVector.l0_eq {ρ : Type} (N : Nat) (K : AV → Heap → Option ρ) (a0 : Nat → Int) (b1 : Nat → Int) :
    ∀ (m : Nat) (i2 : Int), xloop (xcode (E14 N) ents laws_eqVector.kp 0 N (cL (cK (cB (cA (cB laws_eqVector.bd))))) 0) laws_eqVector.kp 0 0 m (laws_eqVector.st0 a0 b1 i2) (laws_eqVector.k0 N K) = (laws_eqVector.l0 N (fun d0 => K (.bool (d0)) []) a0 b1 ((laws_eqVector.k0 N K) (.exit 0) (laws_eqVector.sx0_0 a0 b1)) m i2) := by
  intro m
  induction m with
  | zero => intros; rfl
  | succ m ih =>
    intro i2
    refine (laws_eqVector.b0_eq N K (fun s => xloop (xcode (E14 N) ents laws_eqVector.kp 0 N (cL (cK (cB (cA (cB laws_eqVector.bd))))) 0) laws_eqVector.kp 0 0 m s (laws_eqVector.k0 N K)) a0 b1 i2).trans ?_
    simp only [ih]
    kernel_rfl

theorem laws_eqVector.s_eq {ρ : Type} (N : Nat) (K : AV → Heap → Option ρ) (a0 : Nat → Int) (b1 : Nat → Int) :
    xbody (E14 N) ents laws_eqVector.kp N Go.Proofs.Try.f13 laws_eqVector.bd [.agg [⟨.u8, 8, a0⟩], .agg [⟨.u8, 8, b1⟩]] [] K = (laws_eqVector.s N (fun d0 => K (.bool (d0)) []) (fun i2 => xloop (xcode (E14 N) ents laws_eqVector.kp 0 N (cL (cK (cB (cA (cB laws_eqVector.bd))))) 0) laws_eqVector.kp 0 0 N (laws_eqVector.st0 a0 b1 i2) (laws_eqVector.k0 N K))) := by kernel_rfl

theorem laws_eqVector.eq {ρ : Type} (N : Nat) (K : AV → Heap → Option ρ) (a0 : Nat → Int) (b1 : Nat → Int) :
    xbody (E14 N) ents laws_eqVector.kp N Go.Proofs.Try.f13 laws_eqVector.bd [.agg [⟨.u8, 8, a0⟩], .agg [⟨.u8, 8, b1⟩]] [] K = (laws_eqVector N (fun d0 => K (.bool (d0)) []) a0 b1) := by
  refine (laws_eqVector.s_eq N K a0 b1).trans ?_
  simp only [laws_eqVector.l0_eq, laws_eqVector.a0_0_eq]
  kernel_rfl

noncomputable def laws_eqVector.en (N : Nat) (ρ : Type) : List AV → Heap → (AV → Heap → Option ρ) → Option ρ
  | [.agg [⟨.u8, 8, a0⟩], .agg [⟨.u8, 8, b1⟩]], [], K => (laws_eqVector N (fun d0 => K (.bool (d0)) []) a0 b1)
  | _, _, _ => none

theorem laws_eqVector.en_ok (N : Nat) (hE : EnvOk (E14 N) ents) (ρ : Type) (args : List AV) (sh : Heap) (K : AV → Heap → Option ρ) (r : ρ) (h : laws_eqVector.en N ρ args sh K = some r) : ∃ v sh', K v sh' = some r ∧ FnOk (E14 N).P 13 args sh v sh' := by
  unfold laws_eqVector.en at h
  split at h
  · exact fn_ok hE (kp := laws_eqVector.kp) (N := N) Go.Proofs.Try.func13 (c := laws_eqVector.bd) (by kernel_rfl) ((laws_eqVector.eq N _ _ _).trans h)
  · cases h

noncomputable def E15 (N : Nat) : Env := (E14 N).add 13 (laws_eqVector.en N)

theorem E15_ok (N : Nat) : EnvOk (E15 N) ents := Env.add_ok (E14_ok N) (laws_eqVector.en_ok N (E14_ok N))

noncomputable def laws_eqLinear.kp : Keeps := ⟨[(0, [2, 3, 5], 2)], [(0, [], 2)]⟩

noncomputable def laws_eqLinear.bd : Code := bodyOf Go.Proofs.Try.f15

noncomputable def laws_eqLinear.fin {ρ : Type} (N : Nat) (K : AV → Heap → Option ρ) : XE → St → Option ρ := finK (E15 N) Go.Proofs.Try.f15 [] K

noncomputable def laws_eqLinear.k0 {ρ : Type} (N : Nat) (K : AV → Heap → Option ρ) : XE → St → Option ρ := (blockK laws_eqLinear.kp 0 0 (seqK (xcode (E15 N) ents laws_eqLinear.kp 0 N (cB (cB laws_eqLinear.bd)) 0) (laws_eqLinear.fin N K)))

theorem laws_eqLinear.k0_mix {ρ : Type} (N : Nat) (K : AV → Heap → Option ρ) : mixK (laws_eqLinear.fin N K .ret) (laws_eqLinear.k0 N K) = (laws_eqLinear.k0 N K) := by
  funext e s; cases e <;> rfl

noncomputable def laws_eqLinear.st0 (a0 : Nat → Int) (b1 : Nat → Int) (i2 : Int) : St := ⟨sl 18 [(2, .sptr [(0, 64)]), (3, .sptr [(1, 64)]), (5, .int .i64 (i2))], [⟨true, .ints .u8 64 a0⟩, ⟨true, .ints .u8 64 b1⟩]⟩

noncomputable def laws_eqLinear.sx0_0 (a0 : Nat → Int) (b1 : Nat → Int) : St := ⟨sl 18 [], [⟨true, .ints .u8 64 a0⟩, ⟨true, .ints .u8 64 b1⟩]⟩

theorem laws_eqLinear.b0_gen {ρ : Type} (N : Nat) (K : AV → Heap → Option ρ) (L0 : St → Option ρ) (kv : XE → St → Option ρ) (a0 : Nat → Int) (b1 : Nat → Int) (i2 : Int) :
    xcode (E15 N) ents laws_eqLinear.kp 0 N (cL (cK (cB (cA (cB laws_eqLinear.bd))))) 0 (laws_eqLinear.st0 a0 b1 i2) (roundK laws_eqLinear.kp 0 0 L0 (mixK (laws_eqLinear.fin N K .ret) kv)) = (laws_eqLinear.b0 N (fun d0 => K (.bool (d0)) []) (fun i2 => L0 (laws_eqLinear.st0 a0 b1 i2)) (kv (.exit 0) (laws_eqLinear.sx0_0 a0 b1)) a0 b1 i2) := by kernel_rfl

theorem laws_eqLinear.b0_eq {ρ : Type} (N : Nat) (K : AV → Heap → Option ρ) (L0 : St → Option ρ) (a0 : Nat → Int) (b1 : Nat → Int) (i2 : Int) :
    xcode (E15 N) ents laws_eqLinear.kp 0 N (cL (cK (cB (cA (cB laws_eqLinear.bd))))) 0 (laws_eqLinear.st0 a0 b1 i2) (roundK laws_eqLinear.kp 0 0 L0 (laws_eqLinear.k0 N K)) = (laws_eqLinear.b0 N (fun d0 => K (.bool (d0)) []) (fun i2 => L0 (laws_eqLinear.st0 a0 b1 i2)) ((laws_eqLinear.k0 N K) (.exit 0) (laws_eqLinear.sx0_0 a0 b1)) a0 b1 i2) := by
  have h := laws_eqLinear.b0_gen N K L0 (laws_eqLinear.k0 N K) a0 b1 i2
  rw [laws_eqLinear.k0_mix] at h
  exact h

theorem laws_eqLinear.a0_0_eq {ρ : Type} (N : Nat) (K : AV → Heap → Option ρ) (a0 : Nat → Int) (b1 : Nat → Int) :
    (laws_eqLinear.k0 N K) (.exit 0) (laws_eqLinear.sx0_0 a0 b1) = (laws_eqLinear.a0_0 N (fun d0 => K (.bool (d0)) [])) := by kernel_rfl

theorem laws_eqLinear.l0_eq {ρ : Type} (N : Nat) (K : AV → Heap → Option ρ) (a0 : Nat → Int) (b1 : Nat → Int) :
    ∀ (m : Nat) (i2 : Int), xloop (xcode (E15 N) ents laws_eqLinear.kp 0 N (cL (cK (cB (cA (cB laws_eqLinear.bd))))) 0) laws_eqLinear.kp 0 0 m (laws_eqLinear.st0 a0 b1 i2) (laws_eqLinear.k0 N K) = (laws_eqLinear.l0 N (fun d0 => K (.bool (d0)) []) a0 b1 ((laws_eqLinear.k0 N K) (.exit 0) (laws_eqLinear.sx0_0 a0 b1)) m i2) := by
  intro m
  induction m with
  | zero => intros; rfl
  | succ m ih =>
    intro i2
    refine (laws_eqLinear.b0_eq N K (fun s => xloop (xcode (E15 N) ents laws_eqLinear.kp 0 N (cL (cK (cB (cA (cB laws_eqLinear.bd))))) 0) laws_eqLinear.kp 0 0 m s (laws_eqLinear.k0 N K)) a0 b1 i2).trans ?_
    simp only [ih]
    kernel_rfl

theorem laws_eqLinear.s_eq {ρ : Type} (N : Nat) (K : AV → Heap → Option ρ) (a0 : Nat → Int) (b1 : Nat → Int) :
    xbody (E15 N) ents laws_eqLinear.kp N Go.Proofs.Try.f15 laws_eqLinear.bd [.agg [⟨.u8, 64, a0⟩], .agg [⟨.u8, 64, b1⟩]] [] K = (laws_eqLinear.s N (fun d0 => K (.bool (d0)) []) (fun i2 => xloop (xcode (E15 N) ents laws_eqLinear.kp 0 N (cL (cK (cB (cA (cB laws_eqLinear.bd))))) 0) laws_eqLinear.kp 0 0 N (laws_eqLinear.st0 a0 b1 i2) (laws_eqLinear.k0 N K))) := by kernel_rfl

theorem laws_eqLinear.eq {ρ : Type} (N : Nat) (K : AV → Heap → Option ρ) (a0 : Nat → Int) (b1 : Nat → Int) :
    xbody (E15 N) ents laws_eqLinear.kp N Go.Proofs.Try.f15 laws_eqLinear.bd [.agg [⟨.u8, 64, a0⟩], .agg [⟨.u8, 64, b1⟩]] [] K = (laws_eqLinear N (fun d0 => K (.bool (d0)) []) a0 b1) := by
  refine (laws_eqLinear.s_eq N K a0 b1).trans ?_
  simp only [laws_eqLinear.l0_eq, laws_eqLinear.a0_0_eq]
  kernel_rfl

noncomputable def laws_eqLinear.en (N : Nat) (ρ : Type) : List AV → Heap → (AV → Heap → Option ρ) → Option ρ
  | [.agg [⟨.u8, 64, a0⟩], .agg [⟨.u8, 64, b1⟩]], [], K => (laws_eqLinear N (fun d0 => K (.bool (d0)) []) a0 b1)
  | _, _, _ => none

theorem laws_eqLinear.en_ok (N : Nat) (hE : EnvOk (E15 N) ents) (ρ : Type) (args : List AV) (sh : Heap) (K : AV → Heap → Option ρ) (r : ρ) (h : laws_eqLinear.en N ρ args sh K = some r) : ∃ v sh', K v sh' = some r ∧ FnOk (E15 N).P 15 args sh v sh' := by
  unfold laws_eqLinear.en at h
  split at h
  · exact fn_ok hE (kp := laws_eqLinear.kp) (N := N) Go.Proofs.Try.func15 (c := laws_eqLinear.bd) (by kernel_rfl) ((laws_eqLinear.eq N _ _ _).trans h)
  · cases h

noncomputable def E16 (N : Nat) : Env := (E15 N).add 15 (laws_eqLinear.en N)

theorem E16_ok (N : Nat) : EnvOk (E16 N) ents := Env.add_ok (E15_ok N) (laws_eqLinear.en_ok N (E15_ok N))

noncomputable def laws_eqTable.kp : Keeps := ⟨[(0, [2, 3, 5], 2)], [(0, [], 2)]⟩

noncomputable def laws_eqTable.bd : Code := bodyOf Go.Proofs.Try.f14

noncomputable def laws_eqTable.fin {ρ : Type} (N : Nat) (K : AV → Heap → Option ρ) : XE → St → Option ρ := finK (E16 N) Go.Proofs.Try.f14 [] K

noncomputable def laws_eqTable.k0 {ρ : Type} (N : Nat) (K : AV → Heap → Option ρ) : XE → St → Option ρ := (blockK laws_eqTable.kp 0 0 (seqK (xcode (E16 N) ents laws_eqTable.kp 0 N (cB (cB laws_eqTable.bd)) 0) (laws_eqTable.fin N K)))

theorem laws_eqTable.k0_mix {ρ : Type} (N : Nat) (K : AV → Heap → Option ρ) : mixK (laws_eqTable.fin N K .ret) (laws_eqTable.k0 N K) = (laws_eqTable.k0 N K) := by
  funext e s; cases e <;> rfl

noncomputable def laws_eqTable.st0 (a0 : Nat → Int) (b1 : Nat → Int) (i2 : Int) : St := ⟨sl 18 [(2, .sptr [(0, 512)]), (3, .sptr [(1, 512)]), (5, .int .i64 (i2))], [⟨true, .ints .u8 512 a0⟩, ⟨true, .ints .u8 512 b1⟩]⟩

noncomputable def laws_eqTable.sx0_0 (a0 : Nat → Int) (b1 : Nat → Int) : St := ⟨sl 18 [], [⟨true, .ints .u8 512 a0⟩, ⟨true, .ints .u8 512 b1⟩]⟩

theorem laws_eqTable.b0_gen {ρ : Type} (N : Nat) (K : AV → Heap → Option ρ) (L0 : St → Option ρ) (kv : XE → St → Option ρ) (a0 : Nat → Int) (b1 : Nat → Int) (i2 : Int) :
    xcode (E16 N) ents laws_eqTable.kp 0 N (cL (cK (cB (cA (cB laws_eqTable.bd))))) 0 (laws_eqTable.st0 a0 b1 i2) (roundK laws_eqTable.kp 0 0 L0 (mixK (laws_eqTable.fin N K .ret) kv)) = (laws_eqTable.b0 N (fun d0 => K (.bool (d0)) []) (fun i2 => L0 (laws_eqTable.st0 a0 b1 i2)) (kv (.exit 0) (laws_eqTable.sx0_0 a0 b1)) a0 b1 i2) := by kernel_rfl

theorem laws_eqTable.b0_eq {ρ : Type} (N : Nat) (K : AV → Heap → Option ρ) (L0 : St → Option ρ) (a0 : Nat → Int) (b1 : Nat → Int) (i2 : Int) :
    xcode (E16 N) ents laws_eqTable.kp 0 N (cL (cK (cB (cA (cB laws_eqTable.bd))))) 0 (laws_eqTable.st0 a0 b1 i2) (roundK laws_eqTable.kp 0 0 L0 (laws_eqTable.k0 N K)) = (laws_eqTable.b0 N (fun d0 => K (.bool (d0)) []) (fun i2 => L0 (laws_eqTable.st0 a0 b1 i2)) ((laws_eqTable.k0 N K) (.exit 0) (laws_eqTable.sx0_0 a0 b1)) a0 b1 i2) := by
  have h := laws_eqTable.b0_gen N K L0 (laws_eqTable.k0 N K) a0 b1 i2
  rw [laws_eqTable.k0_mix] at h
  exact h

theorem laws_eqTable.a0_0_eq {ρ : Type} (N : Nat) (K : AV → Heap → Option ρ) (a0 : Nat → Int) (b1 : Nat → Int) :
    (laws_eqTable.k0 N K) (.exit 0) (laws_eqTable.sx0_0 a0 b1) = (laws_eqTable.a0_0 N (fun d0 => K (.bool (d0)) [])) := by kernel_rfl

theorem laws_eqTable.l0_eq {ρ : Type} (N : Nat) (K : AV → Heap → Option ρ) (a0 : Nat → Int) (b1 : Nat → Int) :
    ∀ (m : Nat) (i2 : Int), xloop (xcode (E16 N) ents laws_eqTable.kp 0 N (cL (cK (cB (cA (cB laws_eqTable.bd))))) 0) laws_eqTable.kp 0 0 m (laws_eqTable.st0 a0 b1 i2) (laws_eqTable.k0 N K) = (laws_eqTable.l0 N (fun d0 => K (.bool (d0)) []) a0 b1 ((laws_eqTable.k0 N K) (.exit 0) (laws_eqTable.sx0_0 a0 b1)) m i2) := by
  intro m
  induction m with
  | zero => intros; rfl
  | succ m ih =>
    intro i2
    refine (laws_eqTable.b0_eq N K (fun s => xloop (xcode (E16 N) ents laws_eqTable.kp 0 N (cL (cK (cB (cA (cB laws_eqTable.bd))))) 0) laws_eqTable.kp 0 0 m s (laws_eqTable.k0 N K)) a0 b1 i2).trans ?_
    simp only [ih]
    kernel_rfl

theorem laws_eqTable.s_eq {ρ : Type} (N : Nat) (K : AV → Heap → Option ρ) (a0 : Nat → Int) (b1 : Nat → Int) :
    xbody (E16 N) ents laws_eqTable.kp N Go.Proofs.Try.f14 laws_eqTable.bd [.agg [⟨.u8, 512, a0⟩], .agg [⟨.u8, 512, b1⟩]] [] K = (laws_eqTable.s N (fun d0 => K (.bool (d0)) []) (fun i2 => xloop (xcode (E16 N) ents laws_eqTable.kp 0 N (cL (cK (cB (cA (cB laws_eqTable.bd))))) 0) laws_eqTable.kp 0 0 N (laws_eqTable.st0 a0 b1 i2) (laws_eqTable.k0 N K))) := by kernel_rfl

theorem laws_eqTable.eq {ρ : Type} (N : Nat) (K : AV → Heap → Option ρ) (a0 : Nat → Int) (b1 : Nat → Int) :
    xbody (E16 N) ents laws_eqTable.kp N Go.Proofs.Try.f14 laws_eqTable.bd [.agg [⟨.u8, 512, a0⟩], .agg [⟨.u8, 512, b1⟩]] [] K = (laws_eqTable N (fun d0 => K (.bool (d0)) []) a0 b1) := by
  refine (laws_eqTable.s_eq N K a0 b1).trans ?_
  simp only [laws_eqTable.l0_eq, laws_eqTable.a0_0_eq]
  kernel_rfl

noncomputable def laws_eqTable.en (N : Nat) (ρ : Type) : List AV → Heap → (AV → Heap → Option ρ) → Option ρ
  | [.agg [⟨.u8, 512, a0⟩], .agg [⟨.u8, 512, b1⟩]], [], K => (laws_eqTable N (fun d0 => K (.bool (d0)) []) a0 b1)
  | _, _, _ => none

theorem laws_eqTable.en_ok (N : Nat) (hE : EnvOk (E16 N) ents) (ρ : Type) (args : List AV) (sh : Heap) (K : AV → Heap → Option ρ) (r : ρ) (h : laws_eqTable.en N ρ args sh K = some r) : ∃ v sh', K v sh' = some r ∧ FnOk (E16 N).P 14 args sh v sh' := by
  unfold laws_eqTable.en at h
  split at h
  · exact fn_ok hE (kp := laws_eqTable.kp) (N := N) Go.Proofs.Try.func14 (c := laws_eqTable.bd) (by kernel_rfl) ((laws_eqTable.eq N _ _ _).trans h)
  · cases h

noncomputable def E17 (N : Nat) : Env := (E16 N).add 14 (laws_eqTable.en N)

theorem E17_ok (N : Nat) : EnvOk (E17 N) ents := Env.add_ok (E16_ok N) (laws_eqTable.en_ok N (E16_ok N))

noncomputable def laws_eqHopf.kp : Keeps := ⟨[], []⟩

noncomputable def laws_eqHopf.bd : Code := bodyOf Go.Proofs.Try.f6

noncomputable def laws_eqHopf.fin {ρ : Type} (N : Nat) (K : AV → Heap → Option ρ) : XE → St → Option ρ := finK (E17 N) Go.Proofs.Try.f6 [] K

theorem laws_eqHopf.eq {ρ : Type} (N : Nat) (K : AV → Heap → Option ρ) (a0 : Nat → Int) (a1 : Nat → Int) (b2 : Nat → Int) (b3 : Nat → Int) :
    xbody (E17 N) ents laws_eqHopf.kp N Go.Proofs.Try.f6 laws_eqHopf.bd [.agg [⟨.i64, 2, a0⟩, ⟨.u8, 1104, a1⟩], .agg [⟨.i64, 2, b2⟩, ⟨.u8, 1104, b3⟩]] [] K = (laws_eqHopf N (fun d0 => K (.bool (d0)) []) a0 a1 b2 b3) := by kernel_rfl

noncomputable def laws_eqHopf.en (N : Nat) (ρ : Type) : List AV → Heap → (AV → Heap → Option ρ) → Option ρ
  | [.agg [⟨.i64, 2, a0⟩, ⟨.u8, 1104, a1⟩], .agg [⟨.i64, 2, b2⟩, ⟨.u8, 1104, b3⟩]], [], K => (laws_eqHopf N (fun d0 => K (.bool (d0)) []) a0 a1 b2 b3)
  | _, _, _ => none

theorem laws_eqHopf.en_ok (N : Nat) (hE : EnvOk (E17 N) ents) (ρ : Type) (args : List AV) (sh : Heap) (K : AV → Heap → Option ρ) (r : ρ) (h : laws_eqHopf.en N ρ args sh K = some r) : ∃ v sh', K v sh' = some r ∧ FnOk (E17 N).P 6 args sh v sh' := by
  unfold laws_eqHopf.en at h
  split at h
  · exact fn_ok hE (kp := laws_eqHopf.kp) (N := N) Go.Proofs.Try.func6 (c := laws_eqHopf.bd) (by kernel_rfl) ((laws_eqHopf.eq N _ _ _ _ _).trans h)
  · cases h

noncomputable def E18 (N : Nat) : Env := (E17 N).add 6 (laws_eqHopf.en N)

theorem E18_ok (N : Nat) : EnvOk (E18 N) ents := Env.add_ok (E17_ok N) (laws_eqHopf.en_ok N (E17_ok N))

noncomputable def laws_FnExactLineHopf.kp : Keeps := ⟨[], []⟩

noncomputable def laws_FnExactLineHopf.bd : Code := bodyOf Go.Proofs.Try.f3

noncomputable def laws_FnExactLineHopf.fin {ρ : Type} (N : Nat) (K : AV → Heap → Option ρ) : XE → St → Option ρ := finK (E18 N) Go.Proofs.Try.f3 [] K

theorem laws_FnExactLineHopf.eq {ρ : Type} (N : Nat) (K : AV → Heap → Option ρ) (aP0 : Int) (aK1 : Int) :
    xbody (E18 N) ents laws_FnExactLineHopf.kp N Go.Proofs.Try.f3 laws_FnExactLineHopf.bd [.int .i64 (aP0), .int .i64 (aK1)] [] K = (laws_FnExactLineHopf N (fun d0 => K (.bool (d0)) []) aP0 aK1) := by kernel_rfl

noncomputable def laws_FnExactLineHopf.en (N : Nat) (ρ : Type) : List AV → Heap → (AV → Heap → Option ρ) → Option ρ
  | [.int .i64 (aP0), .int .i64 (aK1)], [], K => (laws_FnExactLineHopf N (fun d0 => K (.bool (d0)) []) aP0 aK1)
  | _, _, _ => none

theorem laws_FnExactLineHopf.en_ok (N : Nat) (hE : EnvOk (E18 N) ents) (ρ : Type) (args : List AV) (sh : Heap) (K : AV → Heap → Option ρ) (r : ρ) (h : laws_FnExactLineHopf.en N ρ args sh K = some r) : ∃ v sh', K v sh' = some r ∧ FnOk (E18 N).P 3 args sh v sh' := by
  unfold laws_FnExactLineHopf.en at h
  split at h
  · exact fn_ok hE (kp := laws_FnExactLineHopf.kp) (N := N) Go.Proofs.Try.func3 (c := laws_FnExactLineHopf.bd) (by kernel_rfl) ((laws_FnExactLineHopf.eq N _ _ _).trans h)
  · cases h

noncomputable def E19 (N : Nat) : Env := (E18 N).add 3 (laws_FnExactLineHopf.en N)

theorem E19_ok (N : Nat) : EnvOk (E19 N) ents := Env.add_ok (E18_ok N) (laws_FnExactLineHopf.en_ok N (E18_ok N))
end Go.Proofs.Ytnbpmignmlcifaa.H
