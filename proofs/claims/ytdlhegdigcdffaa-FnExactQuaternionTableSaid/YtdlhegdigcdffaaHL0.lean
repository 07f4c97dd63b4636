/- The program computes these functions. -/
import Derived.Test.YtdlhegdigcdffaaHP0
import Derived.Test.YtdlhegdigcdffaaChecked
import Derived.KernelRfl
namespace Go.Proofs.Ytdlhegdigcdffaa.H
set_option linter.unusedVariables false
set_option linter.unusedSimpArgs false
open Go Go.RowKit Go.Proofs.Ytdlhegdigcdffaa.Hy
set_option linter.unusedVariables false
set_option maxRecDepth 100000
noncomputable def lays : List Lay := [.other, .func, .int .i64, .int .i64, .bool, .int .u8, .int .u8, .mix [(0, 1, false), (1, 1, false), (2, 1, false), (3, 1, false)] [.int .i64, .int .i64, .bool, .int .u8], .mix [(0, 1, false), (1, 1, false), (2, 1, false), (3, 1, false)] [.int .i64, .int .i64, .bool, .int .u8], .str, .str, .str, .int .u64, .mix [(0, 1, false), (1, 1, false)] [.str, .int .u64], .mix [(0, 1, false), (1, 1, false)] [.str, .int .u64], .ptr, .ptr, .ptr, .other, .other, .other, .int .i32, .func, .func, .arr 8 5 1 .u8, .func, .arr 8 5 1 .u8, .func, .func, .slice 40 1 24, .other, .func, .func, .func, .func, .func, .func, .func, .func, .func, .slice 2 1 8, .func, .func, .func, .func, .other, .other, .other, .other, .other, .func, .int .u32, .int .u8, .int .u8, .func, .ptr, .int .i32, .int .i32, .other, .other, .other]

noncomputable def wrs : List (FuncId × List Bool) := [(17, [false, true]), (31, [true])]

noncomputable def ents : List FuncId := [6, 7, 8, 14, 15, 16, 17, 18, 19, 20, 21, 22, 26, 27, 28, 29, 30, 31, 32, 33, 34, 35, 36, 37, 38, 39, 40]

noncomputable def E0 (N : Nat) : Env := env0 Go.Proofs.Try.prog lays wrs

theorem E0_ok (N : Nat) : EnvOk (E0 N) ents := env0_ok (by kernel_rfl) (by kernel_rfl) (by kernel_rfl)

noncomputable def spec_l01In.kp : Keeps := ⟨[], [], []⟩

noncomputable def spec_l01In.bd : Code := bodyOf Go.Proofs.Try.f27

noncomputable def spec_l01In.fin {ρ : Type} (N : Nat) (K : AV → Heap → Option ρ) : XE → St → Option ρ := finK (E0 N) spec_l01In.kp.fins Go.Proofs.Try.f27 [] K

theorem spec_l01In.eq {ρ : Type} (N : Nat) (K : AV → Heap → Option ρ) (nv0 : Int) (low1 : Int) (high2 : Int) :
    xbody (E0 N) ents spec_l01In.kp N Go.Proofs.Try.f27 spec_l01In.bd [.int .i64 (nv0), .int .i64 (low1), .int .i64 (high2)] [] K = (spec_l01In N (fun d0 => K (.bool (d0)) []) nv0 low1 high2) := by kernel_rfl

noncomputable def spec_l01In.en (N : Nat) (ρ : Type) : List AV → Heap → (AV → Heap → Option ρ) → Option ρ
  | [.int .i64 (nv0), .int .i64 (low1), .int .i64 (high2)], [], K => (spec_l01In N (fun d0 => K (.bool (d0)) []) nv0 low1 high2)
  | _, _, _ => none

theorem spec_l01In.en_ok (N : Nat) (hE : EnvOk (E0 N) ents) (ρ : Type) (args : List AV) (sh : Heap) (K : AV → Heap → Option ρ) (r : ρ) (h : spec_l01In.en N ρ args sh K = some r) : ∃ v sh', K v sh' = some r ∧ FnOk (E0 N).P 27 args sh v sh' := by
  unfold spec_l01In.en at h
  split at h
  · exact fn_ok hE (kp := spec_l01In.kp) (N := N) Go.Proofs.Try.func27 (c := spec_l01In.bd) (by kernel_rfl) ((spec_l01In.eq N _ _ _ _).trans h)
  · cases h

noncomputable def E1 (N : Nat) : Env := (E0 N).add 27 (spec_l01In.en N)

theorem E1_ok (N : Nat) : EnvOk (E1 N) ents := Env.add_ok (E0_ok N) (spec_l01In.en_ok N (E0_ok N))

noncomputable def spec_l04Cyclic.kp : Keeps := ⟨[(0, [0, 3, 4], [], []), (2, [0, 3, 4, 5, 6], [], [])], [(0, [3], [], []), (2, [0, 3, 4, 5], [], [])], []⟩

noncomputable def spec_l04Cyclic.bd : Code := bodyOf Go.Proofs.Try.f28

noncomputable def spec_l04Cyclic.fin {ρ : Type} (N : Nat) (K : AV → Heap → Option ρ) : XE → St → Option ρ := finK (E1 N) spec_l04Cyclic.kp.fins Go.Proofs.Try.f28 [] K

noncomputable def spec_l04Cyclic.k0 {ρ : Type} (N : Nat) (K : AV → Heap → Option ρ) : XE → St → Option ρ := (blockK spec_l04Cyclic.kp 0 0 (seqK (xcode (E1 N) ents spec_l04Cyclic.kp 0 N (cB (cB (cB spec_l04Cyclic.bd))) 0) (spec_l04Cyclic.fin N K)))

theorem spec_l04Cyclic.k0_mix {ρ : Type} (N : Nat) (K : AV → Heap → Option ρ) : mixK (spec_l04Cyclic.fin N K .ret) (spec_l04Cyclic.k0 N K) = (spec_l04Cyclic.k0 N K) := by
  funext e s; cases e <;> kernel_rfl

noncomputable def spec_l04Cyclic.st0 (nv0 : Int) (outv1 : Nat) (i2 : Int) (gv3 : Nat) (gv4 : Nat → Nat) (gv5 : Nat → Nat) (gv6 : Nat → Int) : St := ⟨sl 32 [(0, .int .i64 (nv0)), (3, .slice true 0 0 outv1 .whole 1), (4, .int .i64 (i2))], [⟨true, .hdr 1 0 gv3 gv4 gv5 none⟩, ⟨true, .flat 0 (.ints .i64 gv6)⟩]⟩

noncomputable def spec_l04Cyclic.sx0_0 (ov12 : Nat) (ov13 : Nat) (ov14 : Nat → Nat) (ov15 : Nat → Nat) (ov16 : Nat → Int) : St := ⟨sl 32 [(3, .slice true 0 0 ov12 .whole 1)], [⟨true, .hdr 1 0 ov13 ov14 ov15 none⟩, ⟨true, .flat 0 (.ints .i64 ov16)⟩]⟩

noncomputable def spec_l04Cyclic.k1g {ρ : Type} (N : Nat) (L0 : St → Option ρ) (kv : XE → St → Option ρ) : XE → St → Option ρ := (blockK spec_l04Cyclic.kp 0 2 (seqK (xcode (E1 N) ents spec_l04Cyclic.kp 0 N (cB (cB (cK (cA (cB (cL (cK (cB (cA (cB (cB spec_l04Cyclic.bd))))))))))) 1) (blockK spec_l04Cyclic.kp 0 1 (seqK (xcode (E1 N) ents spec_l04Cyclic.kp 0 N (cB (cB (cL (cK (cB (cA (cB (cB spec_l04Cyclic.bd)))))))) 0) (roundK spec_l04Cyclic.kp 0 0 L0 kv)))))

theorem spec_l04Cyclic.k1_mix {ρ : Type} (N : Nat) (K : AV → Heap → Option ρ) (L0 : St → Option ρ) : mixK (spec_l04Cyclic.fin N K .ret) (spec_l04Cyclic.k1g N L0 (spec_l04Cyclic.k0 N K)) = (spec_l04Cyclic.k1g N L0 (spec_l04Cyclic.k0 N K)) := by
  funext e s; cases e <;> kernel_rfl

noncomputable def spec_l04Cyclic.st1 (nv0 : Int) (outv1 : Nat) (i2 : Int) (gv3 : Nat) (gv4 : Nat → Nat) (gv5 : Nat → Nat) (gv6 : Nat → Int) (row7 : Nat) (j8 : Int) (gv9 : Nat → Int) : St := ⟨sl 32 [(0, .int .i64 (nv0)), (3, .slice true 0 0 outv1 .whole 1), (4, .int .i64 (i2)), (5, .slice true 1 0 row7 .whole 1), (6, .int .i64 (j8))], [⟨true, .hdr 2 0 gv3 gv4 gv5 none⟩, ⟨true, .flat 0 (.ints .i64 gv9)⟩, ⟨true, .flat 0 (.ints .i64 gv6)⟩]⟩

noncomputable def spec_l04Cyclic.sx1_0 (nv0 : Int) (outv1 : Nat) (i2 : Int) (gv3 : Nat) (gv4 : Nat → Nat) (gv5 : Nat → Nat) (gv6 : Nat → Int) (ov10 : Nat) (ov11 : Nat → Int) : St := ⟨sl 32 [(0, .int .i64 (nv0)), (3, .slice true 0 0 outv1 .whole 1), (4, .int .i64 (i2)), (5, .slice true 1 0 ov10 .whole 1)], [⟨true, .hdr 2 0 gv3 gv4 gv5 none⟩, ⟨true, .flat 0 (.ints .i64 ov11)⟩, ⟨true, .flat 0 (.ints .i64 gv6)⟩]⟩

theorem spec_l04Cyclic.b1_gen {ρ : Type} (N : Nat) (K : AV → Heap → Option ρ) (L1 : St → Option ρ) (kv : XE → St → Option ρ) (nv0 : Int) (outv1 : Nat) (i2 : Int) (gv3 : Nat) (gv4 : Nat → Nat) (gv5 : Nat → Nat) (gv6 : Nat → Int) (row7 : Nat) (j8 : Int) (gv9 : Nat → Int) :
    xcode (E1 N) ents spec_l04Cyclic.kp 0 N (cL (cK (cB (cA (cB (cK (cA (cB (cL (cK (cB (cA (cB (cB spec_l04Cyclic.bd)))))))))))))) 2 (spec_l04Cyclic.st1 nv0 outv1 i2 gv3 gv4 gv5 gv6 row7 j8 gv9) (roundK spec_l04Cyclic.kp 0 2 L1 (mixK (spec_l04Cyclic.fin N K .ret) kv)) = (spec_l04Cyclic.b1 N (fun d0 d1 d2 d3 d4 => K (.slice true 0 0 d0 .whole 1) [⟨true, .hdr 1 0 d1 d2 d3 none⟩, ⟨true, .flat 0 (.ints .i64 d4)⟩]) (fun row7 j8 gv9 => L1 (spec_l04Cyclic.st1 nv0 outv1 i2 gv3 gv4 gv5 gv6 row7 j8 gv9)) (fun ov10 ov11 => kv (.exit 2) (spec_l04Cyclic.sx1_0 nv0 outv1 i2 gv3 gv4 gv5 gv6 ov10 ov11)) nv0 i2 row7 j8 gv9) := by kernel_rfl

theorem spec_l04Cyclic.b1_eq {ρ : Type} (N : Nat) (K : AV → Heap → Option ρ) (L0 : St → Option ρ) (L1 : St → Option ρ) (nv0 : Int) (outv1 : Nat) (i2 : Int) (gv3 : Nat) (gv4 : Nat → Nat) (gv5 : Nat → Nat) (gv6 : Nat → Int) (row7 : Nat) (j8 : Int) (gv9 : Nat → Int) :
    xcode (E1 N) ents spec_l04Cyclic.kp 0 N (cL (cK (cB (cA (cB (cK (cA (cB (cL (cK (cB (cA (cB (cB spec_l04Cyclic.bd)))))))))))))) 2 (spec_l04Cyclic.st1 nv0 outv1 i2 gv3 gv4 gv5 gv6 row7 j8 gv9) (roundK spec_l04Cyclic.kp 0 2 L1 (spec_l04Cyclic.k1g N L0 (spec_l04Cyclic.k0 N K))) = (spec_l04Cyclic.b1 N (fun d0 d1 d2 d3 d4 => K (.slice true 0 0 d0 .whole 1) [⟨true, .hdr 1 0 d1 d2 d3 none⟩, ⟨true, .flat 0 (.ints .i64 d4)⟩]) (fun row7 j8 gv9 => L1 (spec_l04Cyclic.st1 nv0 outv1 i2 gv3 gv4 gv5 gv6 row7 j8 gv9)) (fun ov10 ov11 => (spec_l04Cyclic.k1g N L0 (spec_l04Cyclic.k0 N K)) (.exit 2) (spec_l04Cyclic.sx1_0 nv0 outv1 i2 gv3 gv4 gv5 gv6 ov10 ov11)) nv0 i2 row7 j8 gv9) := by
  have h := spec_l04Cyclic.b1_gen N K L1 (spec_l04Cyclic.k1g N L0 (spec_l04Cyclic.k0 N K)) nv0 outv1 i2 gv3 gv4 gv5 gv6 row7 j8 gv9
  rw [spec_l04Cyclic.k1_mix] at h
  exact h

theorem spec_l04Cyclic.a1_0_gen {ρ : Type} (N : Nat) (K : AV → Heap → Option ρ) (L0 : St → Option ρ) (kv : XE → St → Option ρ) (nv0 : Int) (outv1 : Nat) (i2 : Int) (gv3 : Nat) (gv4 : Nat → Nat) (gv5 : Nat → Nat) (gv6 : Nat → Int) (ov10 : Nat) (ov11 : Nat → Int) :
    (spec_l04Cyclic.k1g N L0 (mixK (spec_l04Cyclic.fin N K .ret) kv)) (.exit 2) (spec_l04Cyclic.sx1_0 nv0 outv1 i2 gv3 gv4 gv5 gv6 ov10 ov11) = (spec_l04Cyclic.a1_0 N (fun d0 d1 d2 d3 d4 => K (.slice true 0 0 d0 .whole 1) [⟨true, .hdr 1 0 d1 d2 d3 none⟩, ⟨true, .flat 0 (.ints .i64 d4)⟩]) (fun outv1 i2 gv3 gv4 gv5 gv6 => L0 (spec_l04Cyclic.st0 nv0 outv1 i2 gv3 gv4 gv5 gv6)) (fun ov12 ov13 ov14 ov15 ov16 => kv (.exit 0) (spec_l04Cyclic.sx0_0 ov12 ov13 ov14 ov15 ov16)) outv1 i2 gv3 gv4 gv5 gv6 ov10 ov11) := by kernel_rfl

theorem spec_l04Cyclic.a1_0_eq {ρ : Type} (N : Nat) (K : AV → Heap → Option ρ) (L0 : St → Option ρ) (nv0 : Int) (outv1 : Nat) (i2 : Int) (gv3 : Nat) (gv4 : Nat → Nat) (gv5 : Nat → Nat) (gv6 : Nat → Int) (ov10 : Nat) (ov11 : Nat → Int) :
    (spec_l04Cyclic.k1g N L0 (spec_l04Cyclic.k0 N K)) (.exit 2) (spec_l04Cyclic.sx1_0 nv0 outv1 i2 gv3 gv4 gv5 gv6 ov10 ov11) = (spec_l04Cyclic.a1_0 N (fun d0 d1 d2 d3 d4 => K (.slice true 0 0 d0 .whole 1) [⟨true, .hdr 1 0 d1 d2 d3 none⟩, ⟨true, .flat 0 (.ints .i64 d4)⟩]) (fun outv1 i2 gv3 gv4 gv5 gv6 => L0 (spec_l04Cyclic.st0 nv0 outv1 i2 gv3 gv4 gv5 gv6)) (fun ov12 ov13 ov14 ov15 ov16 => (spec_l04Cyclic.k0 N K) (.exit 0) (spec_l04Cyclic.sx0_0 ov12 ov13 ov14 ov15 ov16)) outv1 i2 gv3 gv4 gv5 gv6 ov10 ov11) := by
  have h := spec_l04Cyclic.a1_0_gen N K L0 (spec_l04Cyclic.k0 N K) nv0 outv1 i2 gv3 gv4 gv5 gv6 ov10 ov11
  rw [spec_l04Cyclic.k0_mix] at h
  exact h

theorem spec_l04Cyclic.b0_gen {ρ : Type} (N : Nat) (K : AV → Heap → Option ρ) (L0 : St → Option ρ) (kv : XE → St → Option ρ) (nv0 : Int) (outv1 : Nat) (i2 : Int) (gv3 : Nat) (gv4 : Nat → Nat) (gv5 : Nat → Nat) (gv6 : Nat → Int) :
    xcode (E1 N) ents spec_l04Cyclic.kp 0 N (cL (cK (cB (cA (cB (cB spec_l04Cyclic.bd)))))) 0 (spec_l04Cyclic.st0 nv0 outv1 i2 gv3 gv4 gv5 gv6) (roundK spec_l04Cyclic.kp 0 0 L0 (mixK (spec_l04Cyclic.fin N K .ret) kv)) = (spec_l04Cyclic.b0 N (fun d0 d1 d2 d3 d4 => K (.slice true 0 0 d0 .whole 1) [⟨true, .hdr 1 0 d1 d2 d3 none⟩, ⟨true, .flat 0 (.ints .i64 d4)⟩]) (fun row7 j8 gv9 => xloop (xcode (E1 N) ents spec_l04Cyclic.kp 0 N (cL (cK (cB (cA (cB (cK (cA (cB (cL (cK (cB (cA (cB (cB spec_l04Cyclic.bd)))))))))))))) 2) spec_l04Cyclic.kp 0 2 N (spec_l04Cyclic.st1 nv0 outv1 i2 gv3 gv4 gv5 gv6 row7 j8 gv9) (spec_l04Cyclic.k1g N L0 (mixK (spec_l04Cyclic.fin N K .ret) kv))) (fun outv1 i2 gv3 gv4 gv5 gv6 => L0 (spec_l04Cyclic.st0 nv0 outv1 i2 gv3 gv4 gv5 gv6)) (fun ov12 ov13 ov14 ov15 ov16 => kv (.exit 0) (spec_l04Cyclic.sx0_0 ov12 ov13 ov14 ov15 ov16)) nv0 outv1 i2 gv3 gv4 gv5 gv6) := by kernel_rfl

theorem spec_l04Cyclic.b0_eq {ρ : Type} (N : Nat) (K : AV → Heap → Option ρ) (L0 : St → Option ρ) (nv0 : Int) (outv1 : Nat) (i2 : Int) (gv3 : Nat) (gv4 : Nat → Nat) (gv5 : Nat → Nat) (gv6 : Nat → Int) :
    xcode (E1 N) ents spec_l04Cyclic.kp 0 N (cL (cK (cB (cA (cB (cB spec_l04Cyclic.bd)))))) 0 (spec_l04Cyclic.st0 nv0 outv1 i2 gv3 gv4 gv5 gv6) (roundK spec_l04Cyclic.kp 0 0 L0 (spec_l04Cyclic.k0 N K)) = (spec_l04Cyclic.b0 N (fun d0 d1 d2 d3 d4 => K (.slice true 0 0 d0 .whole 1) [⟨true, .hdr 1 0 d1 d2 d3 none⟩, ⟨true, .flat 0 (.ints .i64 d4)⟩]) (fun row7 j8 gv9 => xloop (xcode (E1 N) ents spec_l04Cyclic.kp 0 N (cL (cK (cB (cA (cB (cK (cA (cB (cL (cK (cB (cA (cB (cB spec_l04Cyclic.bd)))))))))))))) 2) spec_l04Cyclic.kp 0 2 N (spec_l04Cyclic.st1 nv0 outv1 i2 gv3 gv4 gv5 gv6 row7 j8 gv9) (spec_l04Cyclic.k1g N L0 (spec_l04Cyclic.k0 N K))) (fun outv1 i2 gv3 gv4 gv5 gv6 => L0 (spec_l04Cyclic.st0 nv0 outv1 i2 gv3 gv4 gv5 gv6)) (fun ov12 ov13 ov14 ov15 ov16 => (spec_l04Cyclic.k0 N K) (.exit 0) (spec_l04Cyclic.sx0_0 ov12 ov13 ov14 ov15 ov16)) nv0 outv1 i2 gv3 gv4 gv5 gv6) := by
  have h := spec_l04Cyclic.b0_gen N K L0 (spec_l04Cyclic.k0 N K) nv0 outv1 i2 gv3 gv4 gv5 gv6
  rw [spec_l04Cyclic.k0_mix] at h
  exact h

theorem spec_l04Cyclic.a0_0_eq {ρ : Type} (N : Nat) (K : AV → Heap → Option ρ) (ov12 : Nat) (ov13 : Nat) (ov14 : Nat → Nat) (ov15 : Nat → Nat) (ov16 : Nat → Int) :
    (spec_l04Cyclic.k0 N K) (.exit 0) (spec_l04Cyclic.sx0_0 ov12 ov13 ov14 ov15 ov16) = (spec_l04Cyclic.a0_0 N (fun d0 d1 d2 d3 d4 => K (.slice true 0 0 d0 .whole 1) [⟨true, .hdr 1 0 d1 d2 d3 none⟩, ⟨true, .flat 0 (.ints .i64 d4)⟩]) ov12 ov13 ov14 ov15 ov16) := by kernel_rfl

theorem spec_l04Cyclic.l1_eq {ρ : Type} (N : Nat) (K : AV → Heap → Option ρ) (L0 : St → Option ρ) (nv0 : Int) (outv1 : Nat) (i2 : Int) (gv3 : Nat) (gv4 : Nat → Nat) (gv5 : Nat → Nat) (gv6 : Nat → Int) :
    ∀ (m : Nat) (row7 : Nat) (j8 : Int) (gv9 : Nat → Int), xloop (xcode (E1 N) ents spec_l04Cyclic.kp 0 N (cL (cK (cB (cA (cB (cK (cA (cB (cL (cK (cB (cA (cB (cB spec_l04Cyclic.bd)))))))))))))) 2) spec_l04Cyclic.kp 0 2 m (spec_l04Cyclic.st1 nv0 outv1 i2 gv3 gv4 gv5 gv6 row7 j8 gv9) (spec_l04Cyclic.k1g N L0 (spec_l04Cyclic.k0 N K)) = (spec_l04Cyclic.l1 N (fun d0 d1 d2 d3 d4 => K (.slice true 0 0 d0 .whole 1) [⟨true, .hdr 1 0 d1 d2 d3 none⟩, ⟨true, .flat 0 (.ints .i64 d4)⟩]) nv0 i2 (fun ov10 ov11 => (spec_l04Cyclic.k1g N L0 (spec_l04Cyclic.k0 N K)) (.exit 2) (spec_l04Cyclic.sx1_0 nv0 outv1 i2 gv3 gv4 gv5 gv6 ov10 ov11)) m row7 j8 gv9) := by
  intro m
  induction m with
  | zero => intros; rfl
  | succ m ih =>
    intro row7 j8 gv9
    refine (spec_l04Cyclic.b1_eq N K L0 (fun s => xloop (xcode (E1 N) ents spec_l04Cyclic.kp 0 N (cL (cK (cB (cA (cB (cK (cA (cB (cL (cK (cB (cA (cB (cB spec_l04Cyclic.bd)))))))))))))) 2) spec_l04Cyclic.kp 0 2 m s (spec_l04Cyclic.k1g N L0 (spec_l04Cyclic.k0 N K))) nv0 outv1 i2 gv3 gv4 gv5 gv6 row7 j8 gv9).trans ?_
    simp only [ih]
    kernel_rfl

theorem spec_l04Cyclic.l0_eq {ρ : Type} (N : Nat) (K : AV → Heap → Option ρ) (nv0 : Int) :
    ∀ (m : Nat) (outv1 : Nat) (i2 : Int) (gv3 : Nat) (gv4 : Nat → Nat) (gv5 : Nat → Nat) (gv6 : Nat → Int), xloop (xcode (E1 N) ents spec_l04Cyclic.kp 0 N (cL (cK (cB (cA (cB (cB spec_l04Cyclic.bd)))))) 0) spec_l04Cyclic.kp 0 0 m (spec_l04Cyclic.st0 nv0 outv1 i2 gv3 gv4 gv5 gv6) (spec_l04Cyclic.k0 N K) = (spec_l04Cyclic.l0 N (fun d0 d1 d2 d3 d4 => K (.slice true 0 0 d0 .whole 1) [⟨true, .hdr 1 0 d1 d2 d3 none⟩, ⟨true, .flat 0 (.ints .i64 d4)⟩]) nv0 (fun ov12 ov13 ov14 ov15 ov16 => (spec_l04Cyclic.k0 N K) (.exit 0) (spec_l04Cyclic.sx0_0 ov12 ov13 ov14 ov15 ov16)) m outv1 i2 gv3 gv4 gv5 gv6) := by
  intro m
  induction m with
  | zero => intros; rfl
  | succ m ih =>
    intro outv1 i2 gv3 gv4 gv5 gv6
    refine (spec_l04Cyclic.b0_eq N K (fun s => xloop (xcode (E1 N) ents spec_l04Cyclic.kp 0 N (cL (cK (cB (cA (cB (cB spec_l04Cyclic.bd)))))) 0) spec_l04Cyclic.kp 0 0 m s (spec_l04Cyclic.k0 N K)) nv0 outv1 i2 gv3 gv4 gv5 gv6).trans ?_
    simp only [ih, spec_l04Cyclic.l1_eq, spec_l04Cyclic.a1_0_eq]
    kernel_rfl

theorem spec_l04Cyclic.s_eq {ρ : Type} (N : Nat) (K : AV → Heap → Option ρ) (nv0 : Int) :
    xbody (E1 N) ents spec_l04Cyclic.kp N Go.Proofs.Try.f28 spec_l04Cyclic.bd [.int .i64 (nv0)] [] K = (spec_l04Cyclic.s N (fun d0 d1 d2 d3 d4 => K (.slice true 0 0 d0 .whole 1) [⟨true, .hdr 1 0 d1 d2 d3 none⟩, ⟨true, .flat 0 (.ints .i64 d4)⟩]) (fun outv1 i2 gv3 gv4 gv5 gv6 => xloop (xcode (E1 N) ents spec_l04Cyclic.kp 0 N (cL (cK (cB (cA (cB (cB spec_l04Cyclic.bd)))))) 0) spec_l04Cyclic.kp 0 0 N (spec_l04Cyclic.st0 nv0 outv1 i2 gv3 gv4 gv5 gv6) (spec_l04Cyclic.k0 N K))) := by kernel_rfl

theorem spec_l04Cyclic.eq {ρ : Type} (N : Nat) (K : AV → Heap → Option ρ) (nv0 : Int) :
    xbody (E1 N) ents spec_l04Cyclic.kp N Go.Proofs.Try.f28 spec_l04Cyclic.bd [.int .i64 (nv0)] [] K = (spec_l04Cyclic N (fun d0 d1 d2 d3 d4 => K (.slice true 0 0 d0 .whole 1) [⟨true, .hdr 1 0 d1 d2 d3 none⟩, ⟨true, .flat 0 (.ints .i64 d4)⟩]) nv0) := by
  refine (spec_l04Cyclic.s_eq N K nv0).trans ?_
  simp only [spec_l04Cyclic.l0_eq, spec_l04Cyclic.a0_0_eq]
  kernel_rfl

noncomputable def spec_l04Cyclic.en (N : Nat) (ρ : Type) : List AV → Heap → (AV → Heap → Option ρ) → Option ρ
  | [.int .i64 (nv0)], [], K => (spec_l04Cyclic N (fun d0 d1 d2 d3 d4 => K (.slice true 0 0 d0 .whole 1) [⟨true, .hdr 1 0 d1 d2 d3 none⟩, ⟨true, .flat 0 (.ints .i64 d4)⟩]) nv0)
  | _, _, _ => none

theorem spec_l04Cyclic.en_ok (N : Nat) (hE : EnvOk (E1 N) ents) (ρ : Type) (args : List AV) (sh : Heap) (K : AV → Heap → Option ρ) (r : ρ) (h : spec_l04Cyclic.en N ρ args sh K = some r) : ∃ v sh', K v sh' = some r ∧ FnOk (E1 N).P 28 args sh v sh' := by
  unfold spec_l04Cyclic.en at h
  split at h
  · exact fn_ok hE (kp := spec_l04Cyclic.kp) (N := N) Go.Proofs.Try.func28 (c := spec_l04Cyclic.bd) (by kernel_rfl) ((spec_l04Cyclic.eq N _ _).trans h)
  · cases h

noncomputable def E2 (N : Nat) : Env := (E1 N).add 28 (spec_l04Cyclic.en N)

theorem E2_ok (N : Nat) : EnvOk (E2 N) ents := Env.add_ok (E1_ok N) (spec_l04Cyclic.en_ok N (E1_ok N))

noncomputable def spec_CyclicTable.kp : Keeps := ⟨[], [], [(.slot 2, .unkH .i64)]⟩

noncomputable def spec_CyclicTable.bd : Code := bodyOf Go.Proofs.Try.f14

noncomputable def spec_CyclicTable.fin {ρ : Type} (N : Nat) (K : AV → Heap → Option ρ) : XE → St → Option ρ := finK (E2 N) spec_CyclicTable.kp.fins Go.Proofs.Try.f14 [] K

theorem spec_CyclicTable.eq {ρ : Type} (N : Nat) (K : AV → Heap → Option ρ) (nv0 : Int) :
    xbody (E2 N) ents spec_CyclicTable.kp N Go.Proofs.Try.f14 spec_CyclicTable.bd [.int .i64 (nv0)] [] K = (spec_CyclicTable N (fun d0 d1 d2 d3 d4 d5 => K (.tup [.slice false 0 0 d0 .unk 1, .int .i64 (d1)]) [⟨true, .hdr 1 0 d2 d3 d4 none⟩, ⟨true, .flat 0 (.ints .i64 d5)⟩]) nv0) := by kernel_rfl

noncomputable def spec_CyclicTable.en (N : Nat) (ρ : Type) : List AV → Heap → (AV → Heap → Option ρ) → Option ρ
  | [.int .i64 (nv0)], [], K => (spec_CyclicTable N (fun d0 d1 d2 d3 d4 d5 => K (.tup [.slice false 0 0 d0 .unk 1, .int .i64 (d1)]) [⟨true, .hdr 1 0 d2 d3 d4 none⟩, ⟨true, .flat 0 (.ints .i64 d5)⟩]) nv0)
  | _, _, _ => none

theorem spec_CyclicTable.en_ok (N : Nat) (hE : EnvOk (E2 N) ents) (ρ : Type) (args : List AV) (sh : Heap) (K : AV → Heap → Option ρ) (r : ρ) (h : spec_CyclicTable.en N ρ args sh K = some r) : ∃ v sh', K v sh' = some r ∧ FnOk (E2 N).P 14 args sh v sh' := by
  unfold spec_CyclicTable.en at h
  split at h
  · exact fn_ok hE (kp := spec_CyclicTable.kp) (N := N) Go.Proofs.Try.func14 (c := spec_CyclicTable.bd) (by kernel_rfl) ((spec_CyclicTable.eq N _ _).trans h)
  · cases h

noncomputable def E3 (N : Nat) : Env := (E2 N).add 14 (spec_CyclicTable.en N)

theorem E3_ok (N : Nat) : EnvOk (E3 N) ents := Env.add_ok (E2_ok N) (spec_CyclicTable.en_ok N (E2_ok N))

noncomputable def impl_in.kp : Keeps := ⟨[], [], []⟩

noncomputable def impl_in.bd : Code := bodyOf Go.Proofs.Try.f26

noncomputable def impl_in.fin {ρ : Type} (N : Nat) (K : AV → Heap → Option ρ) : XE → St → Option ρ := finK (E3 N) impl_in.kp.fins Go.Proofs.Try.f26 [] K

theorem impl_in.eq {ρ : Type} (N : Nat) (K : AV → Heap → Option ρ) (x0 : Int) (least1 : Int) (most2 : Int) :
    xbody (E3 N) ents impl_in.kp N Go.Proofs.Try.f26 impl_in.bd [.int .i64 (x0), .int .i64 (least1), .int .i64 (most2)] [] K = (impl_in N (fun d0 => K (.bool (d0)) []) x0 least1 most2) := by kernel_rfl

noncomputable def impl_in.en (N : Nat) (ρ : Type) : List AV → Heap → (AV → Heap → Option ρ) → Option ρ
  | [.int .i64 (x0), .int .i64 (least1), .int .i64 (most2)], [], K => (impl_in N (fun d0 => K (.bool (d0)) []) x0 least1 most2)
  | _, _, _ => none

theorem impl_in.en_ok (N : Nat) (hE : EnvOk (E3 N) ents) (ρ : Type) (args : List AV) (sh : Heap) (K : AV → Heap → Option ρ) (r : ρ) (h : impl_in.en N ρ args sh K = some r) : ∃ v sh', K v sh' = some r ∧ FnOk (E3 N).P 26 args sh v sh' := by
  unfold impl_in.en at h
  split at h
  · exact fn_ok hE (kp := impl_in.kp) (N := N) Go.Proofs.Try.func26 (c := impl_in.bd) (by kernel_rfl) ((impl_in.eq N _ _ _ _).trans h)
  · cases h

noncomputable def E4 (N : Nat) : Env := (E3 N).add 26 (impl_in.en N)

theorem E4_ok (N : Nat) : EnvOk (E4 N) ents := Env.add_ok (E3_ok N) (impl_in.en_ok N (E3_ok N))

noncomputable def impl_cyclic_c1.kp : Keeps := ⟨[], [], []⟩

noncomputable def impl_cyclic_c1.bd : Code := bodyOf Go.Proofs.Try.f39

noncomputable def impl_cyclic_c1.fin {ρ : Type} (N : Nat) (K : AV → Heap → Option ρ) (gv2 : Nat → Int) : XE → St → Option ρ := finK (E4 N) impl_cyclic_c1.kp.fins Go.Proofs.Try.f39 [⟨false, .flat 1 (.ints .i64 gv2)⟩] K

theorem impl_cyclic_c1.eq {ρ : Type} (N : Nat) (K : AV → Heap → Option ρ) (i0 : Int) (j1 : Int) (gv2 : Nat → Int) :
    xbody (E4 N) ents impl_cyclic_c1.kp N Go.Proofs.Try.f39 impl_cyclic_c1.bd [.int .i64 (i0), .int .i64 (j1), .sptr [(0, 1)]] [⟨false, .flat 1 (.ints .i64 gv2)⟩] K = (impl_cyclic_c1 N (fun d0 => K (.int .i64 (d0)) [⟨false, .flat 1 (.ints .i64 gv2)⟩]) i0 j1 gv2) := by kernel_rfl

noncomputable def impl_cyclic_c1.en (N : Nat) (ρ : Type) : List AV → Heap → (AV → Heap → Option ρ) → Option ρ
  | [.int .i64 (i0), .int .i64 (j1), .sptr [(0, 1)]], [⟨false, .flat 1 (.ints .i64 gv2)⟩], K => (impl_cyclic_c1 N (fun d0 => K (.int .i64 (d0)) [⟨false, .flat 1 (.ints .i64 gv2)⟩]) i0 j1 gv2)
  | _, _, _ => none

theorem impl_cyclic_c1.en_ok (N : Nat) (hE : EnvOk (E4 N) ents) (ρ : Type) (args : List AV) (sh : Heap) (K : AV → Heap → Option ρ) (r : ρ) (h : impl_cyclic_c1.en N ρ args sh K = some r) : ∃ v sh', K v sh' = some r ∧ FnOk (E4 N).P 39 args sh v sh' := by
  unfold impl_cyclic_c1.en at h
  split at h
  · exact fn_ok hE (kp := impl_cyclic_c1.kp) (N := N) Go.Proofs.Try.func39 (c := impl_cyclic_c1.bd) (by kernel_rfl) ((impl_cyclic_c1.eq N _ _ _ _).trans h)
  · cases h

noncomputable def E5 (N : Nat) : Env := (E4 N).add 39 (impl_cyclic_c1.en N)

theorem E5_ok (N : Nat) : EnvOk (E5 N) ents := Env.add_ok (E4_ok N) (impl_cyclic_c1.en_ok N (E4_ok N))

noncomputable def impl_dihedral_c1.kp : Keeps := ⟨[], [], []⟩

noncomputable def impl_dihedral_c1.bd : Code := bodyOf Go.Proofs.Try.f40

noncomputable def impl_dihedral_c1.fin {ρ : Type} (N : Nat) (K : AV → Heap → Option ρ) (gv2 : Nat → Int) : XE → St → Option ρ := finK (E5 N) impl_dihedral_c1.kp.fins Go.Proofs.Try.f40 [⟨false, .flat 1 (.ints .i64 gv2)⟩] K

theorem impl_dihedral_c1.eq {ρ : Type} (N : Nat) (K : AV → Heap → Option ρ) (i0 : Int) (j1 : Int) (gv2 : Nat → Int) :
    xbody (E5 N) ents impl_dihedral_c1.kp N Go.Proofs.Try.f40 impl_dihedral_c1.bd [.int .i64 (i0), .int .i64 (j1), .sptr [(0, 1)]] [⟨false, .flat 1 (.ints .i64 gv2)⟩] K = (impl_dihedral_c1 N (fun d0 => K (.int .i64 (d0)) [⟨false, .flat 1 (.ints .i64 gv2)⟩]) i0 j1 gv2) := by kernel_rfl

noncomputable def impl_dihedral_c1.en (N : Nat) (ρ : Type) : List AV → Heap → (AV → Heap → Option ρ) → Option ρ
  | [.int .i64 (i0), .int .i64 (j1), .sptr [(0, 1)]], [⟨false, .flat 1 (.ints .i64 gv2)⟩], K => (impl_dihedral_c1 N (fun d0 => K (.int .i64 (d0)) [⟨false, .flat 1 (.ints .i64 gv2)⟩]) i0 j1 gv2)
  | _, _, _ => none

theorem impl_dihedral_c1.en_ok (N : Nat) (hE : EnvOk (E5 N) ents) (ρ : Type) (args : List AV) (sh : Heap) (K : AV → Heap → Option ρ) (r : ρ) (h : impl_dihedral_c1.en N ρ args sh K = some r) : ∃ v sh', K v sh' = some r ∧ FnOk (E5 N).P 40 args sh v sh' := by
  unfold impl_dihedral_c1.en at h
  split at h
  · exact fn_ok hE (kp := impl_dihedral_c1.kp) (N := N) Go.Proofs.Try.func40 (c := impl_dihedral_c1.bd) (by kernel_rfl) ((impl_dihedral_c1.eq N _ _ _ _).trans h)
  · cases h

noncomputable def E6 (N : Nat) : Env := (E5 N).add 40 (impl_dihedral_c1.en N)

theorem E6_ok (N : Nat) : EnvOk (E6 N) ents := Env.add_ok (E5_ok N) (impl_dihedral_c1.en_ok N (E5_ok N))

noncomputable def impl_units.kp : Keeps := ⟨[], [], []⟩

noncomputable def impl_units.bd : Code := bodyOf Go.Proofs.Try.f38

noncomputable def impl_units.fin {ρ : Type} (N : Nat) (K : AV → Heap → Option ρ) : XE → St → Option ρ := finK (E6 N) impl_units.kp.fins Go.Proofs.Try.f38 [] K

theorem impl_units.eq {ρ : Type} (N : Nat) (K : AV → Heap → Option ρ) (av0 : Int) (bv1 : Int) :
    xbody (E6 N) ents impl_units.kp N Go.Proofs.Try.f38 impl_units.bd [.int .i64 (av0), .int .i64 (bv1)] [] K = (impl_units N (fun d0 => K (.int .i64 (d0)) []) av0 bv1) := by kernel_rfl

noncomputable def impl_units.en (N : Nat) (ρ : Type) : List AV → Heap → (AV → Heap → Option ρ) → Option ρ
  | [.int .i64 (av0), .int .i64 (bv1)], [], K => (impl_units N (fun d0 => K (.int .i64 (d0)) []) av0 bv1)
  | _, _, _ => none

theorem impl_units.en_ok (N : Nat) (hE : EnvOk (E6 N) ents) (ρ : Type) (args : List AV) (sh : Heap) (K : AV → Heap → Option ρ) (r : ρ) (h : impl_units.en N ρ args sh K = some r) : ∃ v sh', K v sh' = some r ∧ FnOk (E6 N).P 38 args sh v sh' := by
  unfold impl_units.en at h
  split at h
  · exact fn_ok hE (kp := impl_units.kp) (N := N) Go.Proofs.Try.func38 (c := impl_units.bd) (by kernel_rfl) ((impl_units.eq N _ _ _).trans h)
  · cases h

noncomputable def E7 (N : Nat) : Env := (E6 N).add 38 (impl_units.en N)

theorem E7_ok (N : Nat) : EnvOk (E7 N) ents := Env.add_ok (E6_ok N) (impl_units.en_ok N (E6_ok N))

noncomputable def impl_QuaternionTable_c1.kp : Keeps := ⟨[], [], []⟩

noncomputable def impl_QuaternionTable_c1.bd : Code := bodyOf Go.Proofs.Try.f37

noncomputable def impl_QuaternionTable_c1.fin {ρ : Type} (N : Nat) (K : AV → Heap → Option ρ) : XE → St → Option ρ := finK (E7 N) impl_QuaternionTable_c1.kp.fins Go.Proofs.Try.f37 [] K

theorem impl_QuaternionTable_c1.eq {ρ : Type} (N : Nat) (K : AV → Heap → Option ρ) (i0 : Int) (j1 : Int) :
    xbody (E7 N) ents impl_QuaternionTable_c1.kp N Go.Proofs.Try.f37 impl_QuaternionTable_c1.bd [.int .i64 (i0), .int .i64 (j1)] [] K = (impl_QuaternionTable_c1 N (fun d0 => K (.int .i64 (d0)) []) i0 j1) := by kernel_rfl

noncomputable def impl_QuaternionTable_c1.en (N : Nat) (ρ : Type) : List AV → Heap → (AV → Heap → Option ρ) → Option ρ
  | [.int .i64 (i0), .int .i64 (j1)], [], K => (impl_QuaternionTable_c1 N (fun d0 => K (.int .i64 (d0)) []) i0 j1)
  | _, _, _ => none

theorem impl_QuaternionTable_c1.en_ok (N : Nat) (hE : EnvOk (E7 N) ents) (ρ : Type) (args : List AV) (sh : Heap) (K : AV → Heap → Option ρ) (r : ρ) (h : impl_QuaternionTable_c1.en N ρ args sh K = some r) : ∃ v sh', K v sh' = some r ∧ FnOk (E7 N).P 37 args sh v sh' := by
  unfold impl_QuaternionTable_c1.en at h
  split at h
  · exact fn_ok hE (kp := impl_QuaternionTable_c1.kp) (N := N) Go.Proofs.Try.func37 (c := impl_QuaternionTable_c1.bd) (by kernel_rfl) ((impl_QuaternionTable_c1.eq N _ _ _).trans h)
  · cases h

noncomputable def E8 (N : Nat) : Env := (E7 N).add 37 (impl_QuaternionTable_c1.en N)

theorem E8_ok (N : Nat) : EnvOk (E8 N) ents := Env.add_ok (E7_ok N) (impl_QuaternionTable_c1.en_ok N (E7_ok N))

noncomputable def impl_tableOf.kp : Keeps := ⟨[(0, [0, 1, 5, 10, 11], [], []), (2, [0, 1, 5, 6, 7, 10, 11, 15, 16], [], [])], [(0, [5], [], []), (2, [0, 1, 5, 7, 10, 11], [], [])], []⟩

noncomputable def impl_tableOf.bd : Code := bodyOf Go.Proofs.Try.f36

noncomputable def impl_tableOf.fin {ρ : Type} (N : Nat) (K : AV → Heap → Option ρ) (gv1 : Nat → Int) : XE → St → Option ρ := finK (E8 N) impl_tableOf.kp.fins Go.Proofs.Try.f36 [⟨false, .flat 1 (.ints .i64 gv1)⟩] K

noncomputable def impl_tableOf.k0 {ρ : Type} (N : Nat) (K : AV → Heap → Option ρ) (gv1 : Nat → Int) : XE → St → Option ρ := (blockK impl_tableOf.kp 1 0 (seqK (xcode (E8 N) ents impl_tableOf.kp 1 N (cB (cB (cB impl_tableOf.bd))) 0) (impl_tableOf.fin N K gv1)))

theorem impl_tableOf.k0_mix {ρ : Type} (N : Nat) (K : AV → Heap → Option ρ) (gv1 : Nat → Int) : mixK (impl_tableOf.fin N K gv1 .ret) (impl_tableOf.k0 N K gv1) = (impl_tableOf.k0 N K gv1) := by
  funext e s; cases e <;> kernel_rfl

noncomputable def impl_tableOf.st0 (nv0 : Int) (gv1 : Nat → Int) (outv2 : Nat) (x3 : Int) (gv4 : Nat) (gv5 : Nat → Nat) (gv6 : Nat → Nat) (gv7 : Nat → Int) : St := ⟨sl 33 [(0, .int .i64 (nv0)), (1, .fn 39 0 [[(0, 1)]]), (5, .slice true 1 0 outv2 .whole 1), (10, .int .i64 (nv0)), (11, .int .i64 (x3))], [⟨false, .flat 1 (.ints .i64 gv1)⟩, ⟨true, .hdr 2 0 gv4 gv5 gv6 none⟩, ⟨true, .flat 0 (.ints .i64 gv7)⟩]⟩

noncomputable def impl_tableOf.sx0_0 (gv1 : Nat → Int) (ov14 : Nat) (ov15 : Nat) (ov16 : Nat → Nat) (ov17 : Nat → Nat) (ov18 : Nat → Int) : St := ⟨sl 33 [(5, .slice true 1 0 ov14 .whole 1)], [⟨false, .flat 1 (.ints .i64 gv1)⟩, ⟨true, .hdr 2 0 ov15 ov16 ov17 none⟩, ⟨true, .flat 0 (.ints .i64 ov18)⟩]⟩

noncomputable def impl_tableOf.k1g {ρ : Type} (N : Nat) (L0 : St → Option ρ) (kv : XE → St → Option ρ) : XE → St → Option ρ := (blockK impl_tableOf.kp 1 2 (seqK (xcode (E8 N) ents impl_tableOf.kp 1 N (cB (cB (cB (cK (cA (cB (cB (cL (cK (cB (cA (cB (cB impl_tableOf.bd))))))))))))) 1) (blockK impl_tableOf.kp 1 1 (seqK (xcode (E8 N) ents impl_tableOf.kp 1 N (cB (cB (cB (cL (cK (cB (cA (cB (cB impl_tableOf.bd))))))))) 0) (roundK impl_tableOf.kp 1 0 L0 kv)))))

theorem impl_tableOf.k1_mix {ρ : Type} (N : Nat) (K : AV → Heap → Option ρ) (L0 : St → Option ρ) (gv1 : Nat → Int) : mixK (impl_tableOf.fin N K gv1 .ret) (impl_tableOf.k1g N L0 (impl_tableOf.k0 N K gv1)) = (impl_tableOf.k1g N L0 (impl_tableOf.k0 N K gv1)) := by
  funext e s; cases e <;> kernel_rfl

noncomputable def impl_tableOf.st1 (nv0 : Int) (gv1 : Nat → Int) (outv2 : Nat) (x3 : Int) (gv4 : Nat) (gv5 : Nat → Nat) (gv6 : Nat → Nat) (gv7 : Nat → Int) (row8 : Nat) (x9 : Int) (gv10 : Nat → Int) : St := ⟨sl 33 [(0, .int .i64 (nv0)), (1, .fn 39 0 [[(0, 1)]]), (5, .slice true 1 0 outv2 .whole 1), (6, .int .i64 (x3)), (7, .slice true 2 0 row8 .whole 1), (10, .int .i64 (nv0)), (11, .int .i64 (x3)), (15, .int .i64 (nv0)), (16, .int .i64 (x9))], [⟨false, .flat 1 (.ints .i64 gv1)⟩, ⟨true, .hdr 3 0 gv4 gv5 gv6 none⟩, ⟨true, .flat 0 (.ints .i64 gv10)⟩, ⟨true, .flat 0 (.ints .i64 gv7)⟩]⟩

noncomputable def impl_tableOf.sx1_0 (nv0 : Int) (gv1 : Nat → Int) (outv2 : Nat) (x3 : Int) (gv4 : Nat) (gv5 : Nat → Nat) (gv6 : Nat → Nat) (gv7 : Nat → Int) (ov12 : Nat) (ov13 : Nat → Int) : St := ⟨sl 33 [(0, .int .i64 (nv0)), (1, .fn 39 0 [[(0, 1)]]), (5, .slice true 1 0 outv2 .whole 1), (7, .slice true 2 0 ov12 .whole 1), (10, .int .i64 (nv0)), (11, .int .i64 (x3))], [⟨false, .flat 1 (.ints .i64 gv1)⟩, ⟨true, .hdr 3 0 gv4 gv5 gv6 none⟩, ⟨true, .flat 0 (.ints .i64 ov13)⟩, ⟨true, .flat 0 (.ints .i64 gv7)⟩]⟩

theorem impl_tableOf.b1_gen {ρ : Type} (N : Nat) (K : AV → Heap → Option ρ) (L1 : St → Option ρ) (kv : XE → St → Option ρ) (nv0 : Int) (gv1 : Nat → Int) (outv2 : Nat) (x3 : Int) (gv4 : Nat) (gv5 : Nat → Nat) (gv6 : Nat → Nat) (gv7 : Nat → Int) (row8 : Nat) (x9 : Int) (gv10 : Nat → Int) :
    xcode (E8 N) ents impl_tableOf.kp 1 N (cL (cK (cB (cA (cB (cB (cK (cA (cB (cB (cL (cK (cB (cA (cB (cB impl_tableOf.bd)))))))))))))))) 2 (impl_tableOf.st1 nv0 gv1 outv2 x3 gv4 gv5 gv6 gv7 row8 x9 gv10) (roundK impl_tableOf.kp 1 2 L1 (mixK (impl_tableOf.fin N K gv1 .ret) kv)) = (impl_tableOf.b1 N (fun d0 d1 d2 d3 d4 => K (.slice true 1 0 d0 .whole 1) [⟨false, .flat 1 (.ints .i64 gv1)⟩, ⟨true, .hdr 2 0 d1 d2 d3 none⟩, ⟨true, .flat 0 (.ints .i64 d4)⟩]) (fun row8 x9 gv10 => L1 (impl_tableOf.st1 nv0 gv1 outv2 x3 gv4 gv5 gv6 gv7 row8 x9 gv10)) (fun ov12 ov13 => kv (.exit 2) (impl_tableOf.sx1_0 nv0 gv1 outv2 x3 gv4 gv5 gv6 gv7 ov12 ov13)) nv0 gv1 x3 row8 x9 gv10) := by kernel_rfl

theorem impl_tableOf.b1_eq {ρ : Type} (N : Nat) (K : AV → Heap → Option ρ) (L0 : St → Option ρ) (L1 : St → Option ρ) (nv0 : Int) (gv1 : Nat → Int) (outv2 : Nat) (x3 : Int) (gv4 : Nat) (gv5 : Nat → Nat) (gv6 : Nat → Nat) (gv7 : Nat → Int) (row8 : Nat) (x9 : Int) (gv10 : Nat → Int) :
    xcode (E8 N) ents impl_tableOf.kp 1 N (cL (cK (cB (cA (cB (cB (cK (cA (cB (cB (cL (cK (cB (cA (cB (cB impl_tableOf.bd)))))))))))))))) 2 (impl_tableOf.st1 nv0 gv1 outv2 x3 gv4 gv5 gv6 gv7 row8 x9 gv10) (roundK impl_tableOf.kp 1 2 L1 (impl_tableOf.k1g N L0 (impl_tableOf.k0 N K gv1))) = (impl_tableOf.b1 N (fun d0 d1 d2 d3 d4 => K (.slice true 1 0 d0 .whole 1) [⟨false, .flat 1 (.ints .i64 gv1)⟩, ⟨true, .hdr 2 0 d1 d2 d3 none⟩, ⟨true, .flat 0 (.ints .i64 d4)⟩]) (fun row8 x9 gv10 => L1 (impl_tableOf.st1 nv0 gv1 outv2 x3 gv4 gv5 gv6 gv7 row8 x9 gv10)) (fun ov12 ov13 => (impl_tableOf.k1g N L0 (impl_tableOf.k0 N K gv1)) (.exit 2) (impl_tableOf.sx1_0 nv0 gv1 outv2 x3 gv4 gv5 gv6 gv7 ov12 ov13)) nv0 gv1 x3 row8 x9 gv10) := by
  have h := impl_tableOf.b1_gen N K L1 (impl_tableOf.k1g N L0 (impl_tableOf.k0 N K gv1)) nv0 gv1 outv2 x3 gv4 gv5 gv6 gv7 row8 x9 gv10
  rw [impl_tableOf.k1_mix] at h
  exact h

theorem impl_tableOf.a1_0_gen {ρ : Type} (N : Nat) (K : AV → Heap → Option ρ) (L0 : St → Option ρ) (kv : XE → St → Option ρ) (nv0 : Int) (gv1 : Nat → Int) (outv2 : Nat) (x3 : Int) (gv4 : Nat) (gv5 : Nat → Nat) (gv6 : Nat → Nat) (gv7 : Nat → Int) (ov12 : Nat) (ov13 : Nat → Int) :
    (impl_tableOf.k1g N L0 (mixK (impl_tableOf.fin N K gv1 .ret) kv)) (.exit 2) (impl_tableOf.sx1_0 nv0 gv1 outv2 x3 gv4 gv5 gv6 gv7 ov12 ov13) = (impl_tableOf.a1_0 N (fun d0 d1 d2 d3 d4 => K (.slice true 1 0 d0 .whole 1) [⟨false, .flat 1 (.ints .i64 gv1)⟩, ⟨true, .hdr 2 0 d1 d2 d3 none⟩, ⟨true, .flat 0 (.ints .i64 d4)⟩]) (fun outv2 x3 gv4 gv5 gv6 gv7 => L0 (impl_tableOf.st0 nv0 gv1 outv2 x3 gv4 gv5 gv6 gv7)) (fun ov14 ov15 ov16 ov17 ov18 => kv (.exit 0) (impl_tableOf.sx0_0 gv1 ov14 ov15 ov16 ov17 ov18)) outv2 x3 gv4 gv5 gv6 gv7 ov12 ov13) := by kernel_rfl

theorem impl_tableOf.a1_0_eq {ρ : Type} (N : Nat) (K : AV → Heap → Option ρ) (L0 : St → Option ρ) (nv0 : Int) (gv1 : Nat → Int) (outv2 : Nat) (x3 : Int) (gv4 : Nat) (gv5 : Nat → Nat) (gv6 : Nat → Nat) (gv7 : Nat → Int) (ov12 : Nat) (ov13 : Nat → Int) :
    (impl_tableOf.k1g N L0 (impl_tableOf.k0 N K gv1)) (.exit 2) (impl_tableOf.sx1_0 nv0 gv1 outv2 x3 gv4 gv5 gv6 gv7 ov12 ov13) = (impl_tableOf.a1_0 N (fun d0 d1 d2 d3 d4 => K (.slice true 1 0 d0 .whole 1) [⟨false, .flat 1 (.ints .i64 gv1)⟩, ⟨true, .hdr 2 0 d1 d2 d3 none⟩, ⟨true, .flat 0 (.ints .i64 d4)⟩]) (fun outv2 x3 gv4 gv5 gv6 gv7 => L0 (impl_tableOf.st0 nv0 gv1 outv2 x3 gv4 gv5 gv6 gv7)) (fun ov14 ov15 ov16 ov17 ov18 => (impl_tableOf.k0 N K gv1) (.exit 0) (impl_tableOf.sx0_0 gv1 ov14 ov15 ov16 ov17 ov18)) outv2 x3 gv4 gv5 gv6 gv7 ov12 ov13) := by
  have h := impl_tableOf.a1_0_gen N K L0 (impl_tableOf.k0 N K gv1) nv0 gv1 outv2 x3 gv4 gv5 gv6 gv7 ov12 ov13
  rw [impl_tableOf.k0_mix] at h
  exact h

theorem impl_tableOf.b0_gen {ρ : Type} (N : Nat) (K : AV → Heap → Option ρ) (L0 : St → Option ρ) (kv : XE → St → Option ρ) (nv0 : Int) (gv1 : Nat → Int) (outv2 : Nat) (x3 : Int) (gv4 : Nat) (gv5 : Nat → Nat) (gv6 : Nat → Nat) (gv7 : Nat → Int) :
    xcode (E8 N) ents impl_tableOf.kp 1 N (cL (cK (cB (cA (cB (cB impl_tableOf.bd)))))) 0 (impl_tableOf.st0 nv0 gv1 outv2 x3 gv4 gv5 gv6 gv7) (roundK impl_tableOf.kp 1 0 L0 (mixK (impl_tableOf.fin N K gv1 .ret) kv)) = (impl_tableOf.b0 N (fun d0 d1 d2 d3 d4 => K (.slice true 1 0 d0 .whole 1) [⟨false, .flat 1 (.ints .i64 gv1)⟩, ⟨true, .hdr 2 0 d1 d2 d3 none⟩, ⟨true, .flat 0 (.ints .i64 d4)⟩]) (fun row8 x9 gv10 => xloop (xcode (E8 N) ents impl_tableOf.kp 1 N (cL (cK (cB (cA (cB (cB (cK (cA (cB (cB (cL (cK (cB (cA (cB (cB impl_tableOf.bd)))))))))))))))) 2) impl_tableOf.kp 1 2 N (impl_tableOf.st1 nv0 gv1 outv2 x3 gv4 gv5 gv6 gv7 row8 x9 gv10) (impl_tableOf.k1g N L0 (mixK (impl_tableOf.fin N K gv1 .ret) kv))) (fun outv2 x3 gv4 gv5 gv6 gv7 => L0 (impl_tableOf.st0 nv0 gv1 outv2 x3 gv4 gv5 gv6 gv7)) (fun ov14 ov15 ov16 ov17 ov18 => kv (.exit 0) (impl_tableOf.sx0_0 gv1 ov14 ov15 ov16 ov17 ov18)) nv0 outv2 x3 gv4 gv5 gv6 gv7) := by kernel_rfl

theorem impl_tableOf.b0_eq {ρ : Type} (N : Nat) (K : AV → Heap → Option ρ) (L0 : St → Option ρ) (nv0 : Int) (gv1 : Nat → Int) (outv2 : Nat) (x3 : Int) (gv4 : Nat) (gv5 : Nat → Nat) (gv6 : Nat → Nat) (gv7 : Nat → Int) :
    xcode (E8 N) ents impl_tableOf.kp 1 N (cL (cK (cB (cA (cB (cB impl_tableOf.bd)))))) 0 (impl_tableOf.st0 nv0 gv1 outv2 x3 gv4 gv5 gv6 gv7) (roundK impl_tableOf.kp 1 0 L0 (impl_tableOf.k0 N K gv1)) = (impl_tableOf.b0 N (fun d0 d1 d2 d3 d4 => K (.slice true 1 0 d0 .whole 1) [⟨false, .flat 1 (.ints .i64 gv1)⟩, ⟨true, .hdr 2 0 d1 d2 d3 none⟩, ⟨true, .flat 0 (.ints .i64 d4)⟩]) (fun row8 x9 gv10 => xloop (xcode (E8 N) ents impl_tableOf.kp 1 N (cL (cK (cB (cA (cB (cB (cK (cA (cB (cB (cL (cK (cB (cA (cB (cB impl_tableOf.bd)))))))))))))))) 2) impl_tableOf.kp 1 2 N (impl_tableOf.st1 nv0 gv1 outv2 x3 gv4 gv5 gv6 gv7 row8 x9 gv10) (impl_tableOf.k1g N L0 (impl_tableOf.k0 N K gv1))) (fun outv2 x3 gv4 gv5 gv6 gv7 => L0 (impl_tableOf.st0 nv0 gv1 outv2 x3 gv4 gv5 gv6 gv7)) (fun ov14 ov15 ov16 ov17 ov18 => (impl_tableOf.k0 N K gv1) (.exit 0) (impl_tableOf.sx0_0 gv1 ov14 ov15 ov16 ov17 ov18)) nv0 outv2 x3 gv4 gv5 gv6 gv7) := by
  have h := impl_tableOf.b0_gen N K L0 (impl_tableOf.k0 N K gv1) nv0 gv1 outv2 x3 gv4 gv5 gv6 gv7
  rw [impl_tableOf.k0_mix] at h
  exact h

theorem impl_tableOf.a0_0_eq {ρ : Type} (N : Nat) (K : AV → Heap → Option ρ) (gv1 : Nat → Int) (ov14 : Nat) (ov15 : Nat) (ov16 : Nat → Nat) (ov17 : Nat → Nat) (ov18 : Nat → Int) :
    (impl_tableOf.k0 N K gv1) (.exit 0) (impl_tableOf.sx0_0 gv1 ov14 ov15 ov16 ov17 ov18) = (impl_tableOf.a0_0 N (fun d0 d1 d2 d3 d4 => K (.slice true 1 0 d0 .whole 1) [⟨false, .flat 1 (.ints .i64 gv1)⟩, ⟨true, .hdr 2 0 d1 d2 d3 none⟩, ⟨true, .flat 0 (.ints .i64 d4)⟩]) ov14 ov15 ov16 ov17 ov18) := by kernel_rfl

theorem impl_tableOf.l1_eq {ρ : Type} (N : Nat) (K : AV → Heap → Option ρ) (L0 : St → Option ρ) (nv0 : Int) (gv1 : Nat → Int) (outv2 : Nat) (x3 : Int) (gv4 : Nat) (gv5 : Nat → Nat) (gv6 : Nat → Nat) (gv7 : Nat → Int) :
    ∀ (m : Nat) (row8 : Nat) (x9 : Int) (gv10 : Nat → Int), xloop (xcode (E8 N) ents impl_tableOf.kp 1 N (cL (cK (cB (cA (cB (cB (cK (cA (cB (cB (cL (cK (cB (cA (cB (cB impl_tableOf.bd)))))))))))))))) 2) impl_tableOf.kp 1 2 m (impl_tableOf.st1 nv0 gv1 outv2 x3 gv4 gv5 gv6 gv7 row8 x9 gv10) (impl_tableOf.k1g N L0 (impl_tableOf.k0 N K gv1)) = (impl_tableOf.l1 N (fun d0 d1 d2 d3 d4 => K (.slice true 1 0 d0 .whole 1) [⟨false, .flat 1 (.ints .i64 gv1)⟩, ⟨true, .hdr 2 0 d1 d2 d3 none⟩, ⟨true, .flat 0 (.ints .i64 d4)⟩]) nv0 gv1 x3 (fun ov12 ov13 => (impl_tableOf.k1g N L0 (impl_tableOf.k0 N K gv1)) (.exit 2) (impl_tableOf.sx1_0 nv0 gv1 outv2 x3 gv4 gv5 gv6 gv7 ov12 ov13)) m row8 x9 gv10) := by
  intro m
  induction m with
  | zero => intros; rfl
  | succ m ih =>
    intro row8 x9 gv10
    refine (impl_tableOf.b1_eq N K L0 (fun s => xloop (xcode (E8 N) ents impl_tableOf.kp 1 N (cL (cK (cB (cA (cB (cB (cK (cA (cB (cB (cL (cK (cB (cA (cB (cB impl_tableOf.bd)))))))))))))))) 2) impl_tableOf.kp 1 2 m s (impl_tableOf.k1g N L0 (impl_tableOf.k0 N K gv1))) nv0 gv1 outv2 x3 gv4 gv5 gv6 gv7 row8 x9 gv10).trans ?_
    simp only [ih]
    kernel_rfl

theorem impl_tableOf.l0_eq {ρ : Type} (N : Nat) (K : AV → Heap → Option ρ) (nv0 : Int) (gv1 : Nat → Int) :
    ∀ (m : Nat) (outv2 : Nat) (x3 : Int) (gv4 : Nat) (gv5 : Nat → Nat) (gv6 : Nat → Nat) (gv7 : Nat → Int), xloop (xcode (E8 N) ents impl_tableOf.kp 1 N (cL (cK (cB (cA (cB (cB impl_tableOf.bd)))))) 0) impl_tableOf.kp 1 0 m (impl_tableOf.st0 nv0 gv1 outv2 x3 gv4 gv5 gv6 gv7) (impl_tableOf.k0 N K gv1) = (impl_tableOf.l0 N (fun d0 d1 d2 d3 d4 => K (.slice true 1 0 d0 .whole 1) [⟨false, .flat 1 (.ints .i64 gv1)⟩, ⟨true, .hdr 2 0 d1 d2 d3 none⟩, ⟨true, .flat 0 (.ints .i64 d4)⟩]) nv0 gv1 (fun ov14 ov15 ov16 ov17 ov18 => (impl_tableOf.k0 N K gv1) (.exit 0) (impl_tableOf.sx0_0 gv1 ov14 ov15 ov16 ov17 ov18)) m outv2 x3 gv4 gv5 gv6 gv7) := by
  intro m
  induction m with
  | zero => intros; rfl
  | succ m ih =>
    intro outv2 x3 gv4 gv5 gv6 gv7
    refine (impl_tableOf.b0_eq N K (fun s => xloop (xcode (E8 N) ents impl_tableOf.kp 1 N (cL (cK (cB (cA (cB (cB impl_tableOf.bd)))))) 0) impl_tableOf.kp 1 0 m s (impl_tableOf.k0 N K gv1)) nv0 gv1 outv2 x3 gv4 gv5 gv6 gv7).trans ?_
    simp only [ih, impl_tableOf.l1_eq, impl_tableOf.a1_0_eq]
    kernel_rfl

theorem impl_tableOf.s_eq {ρ : Type} (N : Nat) (K : AV → Heap → Option ρ) (nv0 : Int) (gv1 : Nat → Int) :
    xbody (E8 N) ents impl_tableOf.kp N Go.Proofs.Try.f36 impl_tableOf.bd [.int .i64 (nv0), .fn 39 0 [[(0, 1)]]] [⟨false, .flat 1 (.ints .i64 gv1)⟩] K = (impl_tableOf.s N (fun d0 d1 d2 d3 d4 => K (.slice true 1 0 d0 .whole 1) [⟨false, .flat 1 (.ints .i64 gv1)⟩, ⟨true, .hdr 2 0 d1 d2 d3 none⟩, ⟨true, .flat 0 (.ints .i64 d4)⟩]) (fun outv2 x3 gv4 gv5 gv6 gv7 => xloop (xcode (E8 N) ents impl_tableOf.kp 1 N (cL (cK (cB (cA (cB (cB impl_tableOf.bd)))))) 0) impl_tableOf.kp 1 0 N (impl_tableOf.st0 nv0 gv1 outv2 x3 gv4 gv5 gv6 gv7) (impl_tableOf.k0 N K gv1))) := by kernel_rfl

theorem impl_tableOf.eq {ρ : Type} (N : Nat) (K : AV → Heap → Option ρ) (nv0 : Int) (gv1 : Nat → Int) :
    xbody (E8 N) ents impl_tableOf.kp N Go.Proofs.Try.f36 impl_tableOf.bd [.int .i64 (nv0), .fn 39 0 [[(0, 1)]]] [⟨false, .flat 1 (.ints .i64 gv1)⟩] K = (impl_tableOf N (fun d0 d1 d2 d3 d4 => K (.slice true 1 0 d0 .whole 1) [⟨false, .flat 1 (.ints .i64 gv1)⟩, ⟨true, .hdr 2 0 d1 d2 d3 none⟩, ⟨true, .flat 0 (.ints .i64 d4)⟩]) nv0 gv1) := by
  refine (impl_tableOf.s_eq N K nv0 gv1).trans ?_
  simp only [impl_tableOf.l0_eq, impl_tableOf.a0_0_eq]
  kernel_rfl

noncomputable def impl_tableOf_v2.kp : Keeps := ⟨[(0, [0, 1, 5, 10, 11], [], []), (2, [0, 1, 5, 6, 7, 10, 11, 15, 16], [], [])], [(0, [5], [], []), (2, [0, 1, 5, 7, 10, 11], [], [])], []⟩

noncomputable def impl_tableOf_v2.bd : Code := bodyOf Go.Proofs.Try.f36

noncomputable def impl_tableOf_v2.fin {ρ : Type} (N : Nat) (K : AV → Heap → Option ρ) (gv1 : Nat → Int) : XE → St → Option ρ := finK (E8 N) impl_tableOf_v2.kp.fins Go.Proofs.Try.f36 [⟨false, .flat 1 (.ints .i64 gv1)⟩] K

noncomputable def impl_tableOf_v2.k0 {ρ : Type} (N : Nat) (K : AV → Heap → Option ρ) (gv1 : Nat → Int) : XE → St → Option ρ := (blockK impl_tableOf_v2.kp 1 0 (seqK (xcode (E8 N) ents impl_tableOf_v2.kp 1 N (cB (cB (cB impl_tableOf_v2.bd))) 0) (impl_tableOf_v2.fin N K gv1)))

theorem impl_tableOf_v2.k0_mix {ρ : Type} (N : Nat) (K : AV → Heap → Option ρ) (gv1 : Nat → Int) : mixK (impl_tableOf_v2.fin N K gv1 .ret) (impl_tableOf_v2.k0 N K gv1) = (impl_tableOf_v2.k0 N K gv1) := by
  funext e s; cases e <;> kernel_rfl

noncomputable def impl_tableOf_v2.st0 (nv0 : Int) (gv1 : Nat → Int) (outv2 : Nat) (x3 : Int) (gv4 : Nat) (gv5 : Nat → Nat) (gv6 : Nat → Nat) (gv7 : Nat → Int) : St := ⟨sl 33 [(0, .int .i64 (nv0)), (1, .fn 40 0 [[(0, 1)]]), (5, .slice true 1 0 outv2 .whole 1), (10, .int .i64 (nv0)), (11, .int .i64 (x3))], [⟨false, .flat 1 (.ints .i64 gv1)⟩, ⟨true, .hdr 2 0 gv4 gv5 gv6 none⟩, ⟨true, .flat 0 (.ints .i64 gv7)⟩]⟩

noncomputable def impl_tableOf_v2.sx0_0 (gv1 : Nat → Int) (ov14 : Nat) (ov15 : Nat) (ov16 : Nat → Nat) (ov17 : Nat → Nat) (ov18 : Nat → Int) : St := ⟨sl 33 [(5, .slice true 1 0 ov14 .whole 1)], [⟨false, .flat 1 (.ints .i64 gv1)⟩, ⟨true, .hdr 2 0 ov15 ov16 ov17 none⟩, ⟨true, .flat 0 (.ints .i64 ov18)⟩]⟩

noncomputable def impl_tableOf_v2.k1g {ρ : Type} (N : Nat) (L0 : St → Option ρ) (kv : XE → St → Option ρ) : XE → St → Option ρ := (blockK impl_tableOf_v2.kp 1 2 (seqK (xcode (E8 N) ents impl_tableOf_v2.kp 1 N (cB (cB (cB (cK (cA (cB (cB (cL (cK (cB (cA (cB (cB impl_tableOf_v2.bd))))))))))))) 1) (blockK impl_tableOf_v2.kp 1 1 (seqK (xcode (E8 N) ents impl_tableOf_v2.kp 1 N (cB (cB (cB (cL (cK (cB (cA (cB (cB impl_tableOf_v2.bd))))))))) 0) (roundK impl_tableOf_v2.kp 1 0 L0 kv)))))

theorem impl_tableOf_v2.k1_mix {ρ : Type} (N : Nat) (K : AV → Heap → Option ρ) (L0 : St → Option ρ) (gv1 : Nat → Int) : mixK (impl_tableOf_v2.fin N K gv1 .ret) (impl_tableOf_v2.k1g N L0 (impl_tableOf_v2.k0 N K gv1)) = (impl_tableOf_v2.k1g N L0 (impl_tableOf_v2.k0 N K gv1)) := by
  funext e s; cases e <;> kernel_rfl

noncomputable def impl_tableOf_v2.st1 (nv0 : Int) (gv1 : Nat → Int) (outv2 : Nat) (x3 : Int) (gv4 : Nat) (gv5 : Nat → Nat) (gv6 : Nat → Nat) (gv7 : Nat → Int) (row8 : Nat) (x9 : Int) (gv10 : Nat → Int) : St := ⟨sl 33 [(0, .int .i64 (nv0)), (1, .fn 40 0 [[(0, 1)]]), (5, .slice true 1 0 outv2 .whole 1), (6, .int .i64 (x3)), (7, .slice true 2 0 row8 .whole 1), (10, .int .i64 (nv0)), (11, .int .i64 (x3)), (15, .int .i64 (nv0)), (16, .int .i64 (x9))], [⟨false, .flat 1 (.ints .i64 gv1)⟩, ⟨true, .hdr 3 0 gv4 gv5 gv6 none⟩, ⟨true, .flat 0 (.ints .i64 gv10)⟩, ⟨true, .flat 0 (.ints .i64 gv7)⟩]⟩

noncomputable def impl_tableOf_v2.sx1_0 (nv0 : Int) (gv1 : Nat → Int) (outv2 : Nat) (x3 : Int) (gv4 : Nat) (gv5 : Nat → Nat) (gv6 : Nat → Nat) (gv7 : Nat → Int) (ov12 : Nat) (ov13 : Nat → Int) : St := ⟨sl 33 [(0, .int .i64 (nv0)), (1, .fn 40 0 [[(0, 1)]]), (5, .slice true 1 0 outv2 .whole 1), (7, .slice true 2 0 ov12 .whole 1), (10, .int .i64 (nv0)), (11, .int .i64 (x3))], [⟨false, .flat 1 (.ints .i64 gv1)⟩, ⟨true, .hdr 3 0 gv4 gv5 gv6 none⟩, ⟨true, .flat 0 (.ints .i64 ov13)⟩, ⟨true, .flat 0 (.ints .i64 gv7)⟩]⟩

theorem impl_tableOf_v2.b1_gen {ρ : Type} (N : Nat) (K : AV → Heap → Option ρ) (L1 : St → Option ρ) (kv : XE → St → Option ρ) (nv0 : Int) (gv1 : Nat → Int) (outv2 : Nat) (x3 : Int) (gv4 : Nat) (gv5 : Nat → Nat) (gv6 : Nat → Nat) (gv7 : Nat → Int) (row8 : Nat) (x9 : Int) (gv10 : Nat → Int) :
    xcode (E8 N) ents impl_tableOf_v2.kp 1 N (cL (cK (cB (cA (cB (cB (cK (cA (cB (cB (cL (cK (cB (cA (cB (cB impl_tableOf_v2.bd)))))))))))))))) 2 (impl_tableOf_v2.st1 nv0 gv1 outv2 x3 gv4 gv5 gv6 gv7 row8 x9 gv10) (roundK impl_tableOf_v2.kp 1 2 L1 (mixK (impl_tableOf_v2.fin N K gv1 .ret) kv)) = (impl_tableOf_v2.b1 N (fun d0 d1 d2 d3 d4 => K (.slice true 1 0 d0 .whole 1) [⟨false, .flat 1 (.ints .i64 gv1)⟩, ⟨true, .hdr 2 0 d1 d2 d3 none⟩, ⟨true, .flat 0 (.ints .i64 d4)⟩]) (fun row8 x9 gv10 => L1 (impl_tableOf_v2.st1 nv0 gv1 outv2 x3 gv4 gv5 gv6 gv7 row8 x9 gv10)) (fun ov12 ov13 => kv (.exit 2) (impl_tableOf_v2.sx1_0 nv0 gv1 outv2 x3 gv4 gv5 gv6 gv7 ov12 ov13)) nv0 gv1 x3 row8 x9 gv10) := by kernel_rfl

theorem impl_tableOf_v2.b1_eq {ρ : Type} (N : Nat) (K : AV → Heap → Option ρ) (L0 : St → Option ρ) (L1 : St → Option ρ) (nv0 : Int) (gv1 : Nat → Int) (outv2 : Nat) (x3 : Int) (gv4 : Nat) (gv5 : Nat → Nat) (gv6 : Nat → Nat) (gv7 : Nat → Int) (row8 : Nat) (x9 : Int) (gv10 : Nat → Int) :
    xcode (E8 N) ents impl_tableOf_v2.kp 1 N (cL (cK (cB (cA (cB (cB (cK (cA (cB (cB (cL (cK (cB (cA (cB (cB impl_tableOf_v2.bd)))))))))))))))) 2 (impl_tableOf_v2.st1 nv0 gv1 outv2 x3 gv4 gv5 gv6 gv7 row8 x9 gv10) (roundK impl_tableOf_v2.kp 1 2 L1 (impl_tableOf_v2.k1g N L0 (impl_tableOf_v2.k0 N K gv1))) = (impl_tableOf_v2.b1 N (fun d0 d1 d2 d3 d4 => K (.slice true 1 0 d0 .whole 1) [⟨false, .flat 1 (.ints .i64 gv1)⟩, ⟨true, .hdr 2 0 d1 d2 d3 none⟩, ⟨true, .flat 0 (.ints .i64 d4)⟩]) (fun row8 x9 gv10 => L1 (impl_tableOf_v2.st1 nv0 gv1 outv2 x3 gv4 gv5 gv6 gv7 row8 x9 gv10)) (fun ov12 ov13 => (impl_tableOf_v2.k1g N L0 (impl_tableOf_v2.k0 N K gv1)) (.exit 2) (impl_tableOf_v2.sx1_0 nv0 gv1 outv2 x3 gv4 gv5 gv6 gv7 ov12 ov13)) nv0 gv1 x3 row8 x9 gv10) := by
  have h := impl_tableOf_v2.b1_gen N K L1 (impl_tableOf_v2.k1g N L0 (impl_tableOf_v2.k0 N K gv1)) nv0 gv1 outv2 x3 gv4 gv5 gv6 gv7 row8 x9 gv10
  rw [impl_tableOf_v2.k1_mix] at h
  exact h

theorem impl_tableOf_v2.a1_0_gen {ρ : Type} (N : Nat) (K : AV → Heap → Option ρ) (L0 : St → Option ρ) (kv : XE → St → Option ρ) (nv0 : Int) (gv1 : Nat → Int) (outv2 : Nat) (x3 : Int) (gv4 : Nat) (gv5 : Nat → Nat) (gv6 : Nat → Nat) (gv7 : Nat → Int) (ov12 : Nat) (ov13 : Nat → Int) :
    (impl_tableOf_v2.k1g N L0 (mixK (impl_tableOf_v2.fin N K gv1 .ret) kv)) (.exit 2) (impl_tableOf_v2.sx1_0 nv0 gv1 outv2 x3 gv4 gv5 gv6 gv7 ov12 ov13) = (impl_tableOf_v2.a1_0 N (fun d0 d1 d2 d3 d4 => K (.slice true 1 0 d0 .whole 1) [⟨false, .flat 1 (.ints .i64 gv1)⟩, ⟨true, .hdr 2 0 d1 d2 d3 none⟩, ⟨true, .flat 0 (.ints .i64 d4)⟩]) (fun outv2 x3 gv4 gv5 gv6 gv7 => L0 (impl_tableOf_v2.st0 nv0 gv1 outv2 x3 gv4 gv5 gv6 gv7)) (fun ov14 ov15 ov16 ov17 ov18 => kv (.exit 0) (impl_tableOf_v2.sx0_0 gv1 ov14 ov15 ov16 ov17 ov18)) outv2 x3 gv4 gv5 gv6 gv7 ov12 ov13) := by kernel_rfl

theorem impl_tableOf_v2.a1_0_eq {ρ : Type} (N : Nat) (K : AV → Heap → Option ρ) (L0 : St → Option ρ) (nv0 : Int) (gv1 : Nat → Int) (outv2 : Nat) (x3 : Int) (gv4 : Nat) (gv5 : Nat → Nat) (gv6 : Nat → Nat) (gv7 : Nat → Int) (ov12 : Nat) (ov13 : Nat → Int) :
    (impl_tableOf_v2.k1g N L0 (impl_tableOf_v2.k0 N K gv1)) (.exit 2) (impl_tableOf_v2.sx1_0 nv0 gv1 outv2 x3 gv4 gv5 gv6 gv7 ov12 ov13) = (impl_tableOf_v2.a1_0 N (fun d0 d1 d2 d3 d4 => K (.slice true 1 0 d0 .whole 1) [⟨false, .flat 1 (.ints .i64 gv1)⟩, ⟨true, .hdr 2 0 d1 d2 d3 none⟩, ⟨true, .flat 0 (.ints .i64 d4)⟩]) (fun outv2 x3 gv4 gv5 gv6 gv7 => L0 (impl_tableOf_v2.st0 nv0 gv1 outv2 x3 gv4 gv5 gv6 gv7)) (fun ov14 ov15 ov16 ov17 ov18 => (impl_tableOf_v2.k0 N K gv1) (.exit 0) (impl_tableOf_v2.sx0_0 gv1 ov14 ov15 ov16 ov17 ov18)) outv2 x3 gv4 gv5 gv6 gv7 ov12 ov13) := by
  have h := impl_tableOf_v2.a1_0_gen N K L0 (impl_tableOf_v2.k0 N K gv1) nv0 gv1 outv2 x3 gv4 gv5 gv6 gv7 ov12 ov13
  rw [impl_tableOf_v2.k0_mix] at h
  exact h

theorem impl_tableOf_v2.b0_gen {ρ : Type} (N : Nat) (K : AV → Heap → Option ρ) (L0 : St → Option ρ) (kv : XE → St → Option ρ) (nv0 : Int) (gv1 : Nat → Int) (outv2 : Nat) (x3 : Int) (gv4 : Nat) (gv5 : Nat → Nat) (gv6 : Nat → Nat) (gv7 : Nat → Int) :
    xcode (E8 N) ents impl_tableOf_v2.kp 1 N (cL (cK (cB (cA (cB (cB impl_tableOf_v2.bd)))))) 0 (impl_tableOf_v2.st0 nv0 gv1 outv2 x3 gv4 gv5 gv6 gv7) (roundK impl_tableOf_v2.kp 1 0 L0 (mixK (impl_tableOf_v2.fin N K gv1 .ret) kv)) = (impl_tableOf_v2.b0 N (fun d0 d1 d2 d3 d4 => K (.slice true 1 0 d0 .whole 1) [⟨false, .flat 1 (.ints .i64 gv1)⟩, ⟨true, .hdr 2 0 d1 d2 d3 none⟩, ⟨true, .flat 0 (.ints .i64 d4)⟩]) (fun row8 x9 gv10 => xloop (xcode (E8 N) ents impl_tableOf_v2.kp 1 N (cL (cK (cB (cA (cB (cB (cK (cA (cB (cB (cL (cK (cB (cA (cB (cB impl_tableOf_v2.bd)))))))))))))))) 2) impl_tableOf_v2.kp 1 2 N (impl_tableOf_v2.st1 nv0 gv1 outv2 x3 gv4 gv5 gv6 gv7 row8 x9 gv10) (impl_tableOf_v2.k1g N L0 (mixK (impl_tableOf_v2.fin N K gv1 .ret) kv))) (fun outv2 x3 gv4 gv5 gv6 gv7 => L0 (impl_tableOf_v2.st0 nv0 gv1 outv2 x3 gv4 gv5 gv6 gv7)) (fun ov14 ov15 ov16 ov17 ov18 => kv (.exit 0) (impl_tableOf_v2.sx0_0 gv1 ov14 ov15 ov16 ov17 ov18)) nv0 outv2 x3 gv4 gv5 gv6 gv7) := by kernel_rfl

theorem impl_tableOf_v2.b0_eq {ρ : Type} (N : Nat) (K : AV → Heap → Option ρ) (L0 : St → Option ρ) (nv0 : Int) (gv1 : Nat → Int) (outv2 : Nat) (x3 : Int) (gv4 : Nat) (gv5 : Nat → Nat) (gv6 : Nat → Nat) (gv7 : Nat → Int) :
    xcode (E8 N) ents impl_tableOf_v2.kp 1 N (cL (cK (cB (cA (cB (cB impl_tableOf_v2.bd)))))) 0 (impl_tableOf_v2.st0 nv0 gv1 outv2 x3 gv4 gv5 gv6 gv7) (roundK impl_tableOf_v2.kp 1 0 L0 (impl_tableOf_v2.k0 N K gv1)) = (impl_tableOf_v2.b0 N (fun d0 d1 d2 d3 d4 => K (.slice true 1 0 d0 .whole 1) [⟨false, .flat 1 (.ints .i64 gv1)⟩, ⟨true, .hdr 2 0 d1 d2 d3 none⟩, ⟨true, .flat 0 (.ints .i64 d4)⟩]) (fun row8 x9 gv10 => xloop (xcode (E8 N) ents impl_tableOf_v2.kp 1 N (cL (cK (cB (cA (cB (cB (cK (cA (cB (cB (cL (cK (cB (cA (cB (cB impl_tableOf_v2.bd)))))))))))))))) 2) impl_tableOf_v2.kp 1 2 N (impl_tableOf_v2.st1 nv0 gv1 outv2 x3 gv4 gv5 gv6 gv7 row8 x9 gv10) (impl_tableOf_v2.k1g N L0 (impl_tableOf_v2.k0 N K gv1))) (fun outv2 x3 gv4 gv5 gv6 gv7 => L0 (impl_tableOf_v2.st0 nv0 gv1 outv2 x3 gv4 gv5 gv6 gv7)) (fun ov14 ov15 ov16 ov17 ov18 => (impl_tableOf_v2.k0 N K gv1) (.exit 0) (impl_tableOf_v2.sx0_0 gv1 ov14 ov15 ov16 ov17 ov18)) nv0 outv2 x3 gv4 gv5 gv6 gv7) := by
  have h := impl_tableOf_v2.b0_gen N K L0 (impl_tableOf_v2.k0 N K gv1) nv0 gv1 outv2 x3 gv4 gv5 gv6 gv7
  rw [impl_tableOf_v2.k0_mix] at h
  exact h

theorem impl_tableOf_v2.a0_0_eq {ρ : Type} (N : Nat) (K : AV → Heap → Option ρ) (gv1 : Nat → Int) (ov14 : Nat) (ov15 : Nat) (ov16 : Nat → Nat) (ov17 : Nat → Nat) (ov18 : Nat → Int) :
    (impl_tableOf_v2.k0 N K gv1) (.exit 0) (impl_tableOf_v2.sx0_0 gv1 ov14 ov15 ov16 ov17 ov18) = (impl_tableOf_v2.a0_0 N (fun d0 d1 d2 d3 d4 => K (.slice true 1 0 d0 .whole 1) [⟨false, .flat 1 (.ints .i64 gv1)⟩, ⟨true, .hdr 2 0 d1 d2 d3 none⟩, ⟨true, .flat 0 (.ints .i64 d4)⟩]) ov14 ov15 ov16 ov17 ov18) := by kernel_rfl

theorem impl_tableOf_v2.l1_eq {ρ : Type} (N : Nat) (K : AV → Heap → Option ρ) (L0 : St → Option ρ) (nv0 : Int) (gv1 : Nat → Int) (outv2 : Nat) (x3 : Int) (gv4 : Nat) (gv5 : Nat → Nat) (gv6 : Nat → Nat) (gv7 : Nat → Int) :
    ∀ (m : Nat) (row8 : Nat) (x9 : Int) (gv10 : Nat → Int), xloop (xcode (E8 N) ents impl_tableOf_v2.kp 1 N (cL (cK (cB (cA (cB (cB (cK (cA (cB (cB (cL (cK (cB (cA (cB (cB impl_tableOf_v2.bd)))))))))))))))) 2) impl_tableOf_v2.kp 1 2 m (impl_tableOf_v2.st1 nv0 gv1 outv2 x3 gv4 gv5 gv6 gv7 row8 x9 gv10) (impl_tableOf_v2.k1g N L0 (impl_tableOf_v2.k0 N K gv1)) = (impl_tableOf_v2.l1 N (fun d0 d1 d2 d3 d4 => K (.slice true 1 0 d0 .whole 1) [⟨false, .flat 1 (.ints .i64 gv1)⟩, ⟨true, .hdr 2 0 d1 d2 d3 none⟩, ⟨true, .flat 0 (.ints .i64 d4)⟩]) nv0 gv1 x3 (fun ov12 ov13 => (impl_tableOf_v2.k1g N L0 (impl_tableOf_v2.k0 N K gv1)) (.exit 2) (impl_tableOf_v2.sx1_0 nv0 gv1 outv2 x3 gv4 gv5 gv6 gv7 ov12 ov13)) m row8 x9 gv10) := by
  intro m
  induction m with
  | zero => intros; rfl
  | succ m ih =>
    intro row8 x9 gv10
    refine (impl_tableOf_v2.b1_eq N K L0 (fun s => xloop (xcode (E8 N) ents impl_tableOf_v2.kp 1 N (cL (cK (cB (cA (cB (cB (cK (cA (cB (cB (cL (cK (cB (cA (cB (cB impl_tableOf_v2.bd)))))))))))))))) 2) impl_tableOf_v2.kp 1 2 m s (impl_tableOf_v2.k1g N L0 (impl_tableOf_v2.k0 N K gv1))) nv0 gv1 outv2 x3 gv4 gv5 gv6 gv7 row8 x9 gv10).trans ?_
    simp only [ih]
    kernel_rfl

theorem impl_tableOf_v2.l0_eq {ρ : Type} (N : Nat) (K : AV → Heap → Option ρ) (nv0 : Int) (gv1 : Nat → Int) :
    ∀ (m : Nat) (outv2 : Nat) (x3 : Int) (gv4 : Nat) (gv5 : Nat → Nat) (gv6 : Nat → Nat) (gv7 : Nat → Int), xloop (xcode (E8 N) ents impl_tableOf_v2.kp 1 N (cL (cK (cB (cA (cB (cB impl_tableOf_v2.bd)))))) 0) impl_tableOf_v2.kp 1 0 m (impl_tableOf_v2.st0 nv0 gv1 outv2 x3 gv4 gv5 gv6 gv7) (impl_tableOf_v2.k0 N K gv1) = (impl_tableOf_v2.l0 N (fun d0 d1 d2 d3 d4 => K (.slice true 1 0 d0 .whole 1) [⟨false, .flat 1 (.ints .i64 gv1)⟩, ⟨true, .hdr 2 0 d1 d2 d3 none⟩, ⟨true, .flat 0 (.ints .i64 d4)⟩]) nv0 gv1 (fun ov14 ov15 ov16 ov17 ov18 => (impl_tableOf_v2.k0 N K gv1) (.exit 0) (impl_tableOf_v2.sx0_0 gv1 ov14 ov15 ov16 ov17 ov18)) m outv2 x3 gv4 gv5 gv6 gv7) := by
  intro m
  induction m with
  | zero => intros; rfl
  | succ m ih =>
    intro outv2 x3 gv4 gv5 gv6 gv7
    refine (impl_tableOf_v2.b0_eq N K (fun s => xloop (xcode (E8 N) ents impl_tableOf_v2.kp 1 N (cL (cK (cB (cA (cB (cB impl_tableOf_v2.bd)))))) 0) impl_tableOf_v2.kp 1 0 m s (impl_tableOf_v2.k0 N K gv1)) nv0 gv1 outv2 x3 gv4 gv5 gv6 gv7).trans ?_
    simp only [ih, impl_tableOf_v2.l1_eq, impl_tableOf_v2.a1_0_eq]
    kernel_rfl

theorem impl_tableOf_v2.s_eq {ρ : Type} (N : Nat) (K : AV → Heap → Option ρ) (nv0 : Int) (gv1 : Nat → Int) :
    xbody (E8 N) ents impl_tableOf_v2.kp N Go.Proofs.Try.f36 impl_tableOf_v2.bd [.int .i64 (nv0), .fn 40 0 [[(0, 1)]]] [⟨false, .flat 1 (.ints .i64 gv1)⟩] K = (impl_tableOf_v2.s N (fun d0 d1 d2 d3 d4 => K (.slice true 1 0 d0 .whole 1) [⟨false, .flat 1 (.ints .i64 gv1)⟩, ⟨true, .hdr 2 0 d1 d2 d3 none⟩, ⟨true, .flat 0 (.ints .i64 d4)⟩]) (fun outv2 x3 gv4 gv5 gv6 gv7 => xloop (xcode (E8 N) ents impl_tableOf_v2.kp 1 N (cL (cK (cB (cA (cB (cB impl_tableOf_v2.bd)))))) 0) impl_tableOf_v2.kp 1 0 N (impl_tableOf_v2.st0 nv0 gv1 outv2 x3 gv4 gv5 gv6 gv7) (impl_tableOf_v2.k0 N K gv1))) := by kernel_rfl

theorem impl_tableOf_v2.eq {ρ : Type} (N : Nat) (K : AV → Heap → Option ρ) (nv0 : Int) (gv1 : Nat → Int) :
    xbody (E8 N) ents impl_tableOf_v2.kp N Go.Proofs.Try.f36 impl_tableOf_v2.bd [.int .i64 (nv0), .fn 40 0 [[(0, 1)]]] [⟨false, .flat 1 (.ints .i64 gv1)⟩] K = (impl_tableOf_v2 N (fun d0 d1 d2 d3 d4 => K (.slice true 1 0 d0 .whole 1) [⟨false, .flat 1 (.ints .i64 gv1)⟩, ⟨true, .hdr 2 0 d1 d2 d3 none⟩, ⟨true, .flat 0 (.ints .i64 d4)⟩]) nv0 gv1) := by
  refine (impl_tableOf_v2.s_eq N K nv0 gv1).trans ?_
  simp only [impl_tableOf_v2.l0_eq, impl_tableOf_v2.a0_0_eq]
  kernel_rfl

noncomputable def impl_tableOf_v3.kp : Keeps := ⟨[(0, [0, 1, 5, 10, 11], [], []), (2, [0, 1, 5, 6, 7, 10, 11, 15, 16], [], [])], [(0, [5], [], []), (2, [0, 1, 5, 7, 10, 11], [], [])], []⟩

noncomputable def impl_tableOf_v3.bd : Code := bodyOf Go.Proofs.Try.f36

noncomputable def impl_tableOf_v3.fin {ρ : Type} (N : Nat) (K : AV → Heap → Option ρ) : XE → St → Option ρ := finK (E8 N) impl_tableOf_v3.kp.fins Go.Proofs.Try.f36 [] K

noncomputable def impl_tableOf_v3.k0 {ρ : Type} (N : Nat) (K : AV → Heap → Option ρ) : XE → St → Option ρ := (blockK impl_tableOf_v3.kp 0 0 (seqK (xcode (E8 N) ents impl_tableOf_v3.kp 0 N (cB (cB (cB impl_tableOf_v3.bd))) 0) (impl_tableOf_v3.fin N K)))

theorem impl_tableOf_v3.k0_mix {ρ : Type} (N : Nat) (K : AV → Heap → Option ρ) : mixK (impl_tableOf_v3.fin N K .ret) (impl_tableOf_v3.k0 N K) = (impl_tableOf_v3.k0 N K) := by
  funext e s; cases e <;> kernel_rfl

noncomputable def impl_tableOf_v3.st0 (nv0 : Int) (outv1 : Nat) (x2 : Int) (gv3 : Nat) (gv4 : Nat → Nat) (gv5 : Nat → Nat) (gv6 : Nat → Int) : St := ⟨sl 33 [(0, .int .i64 (nv0)), (1, .fn 37 0 []), (5, .slice true 0 0 outv1 .whole 1), (10, .int .i64 (nv0)), (11, .int .i64 (x2))], [⟨true, .hdr 1 0 gv3 gv4 gv5 none⟩, ⟨true, .flat 0 (.ints .i64 gv6)⟩]⟩

noncomputable def impl_tableOf_v3.sx0_0 (ov13 : Nat) (ov14 : Nat) (ov15 : Nat → Nat) (ov16 : Nat → Nat) (ov17 : Nat → Int) : St := ⟨sl 33 [(5, .slice true 0 0 ov13 .whole 1)], [⟨true, .hdr 1 0 ov14 ov15 ov16 none⟩, ⟨true, .flat 0 (.ints .i64 ov17)⟩]⟩

noncomputable def impl_tableOf_v3.k1g {ρ : Type} (N : Nat) (L0 : St → Option ρ) (kv : XE → St → Option ρ) : XE → St → Option ρ := (blockK impl_tableOf_v3.kp 0 2 (seqK (xcode (E8 N) ents impl_tableOf_v3.kp 0 N (cB (cB (cB (cK (cA (cB (cB (cL (cK (cB (cA (cB (cB impl_tableOf_v3.bd))))))))))))) 1) (blockK impl_tableOf_v3.kp 0 1 (seqK (xcode (E8 N) ents impl_tableOf_v3.kp 0 N (cB (cB (cB (cL (cK (cB (cA (cB (cB impl_tableOf_v3.bd))))))))) 0) (roundK impl_tableOf_v3.kp 0 0 L0 kv)))))

theorem impl_tableOf_v3.k1_mix {ρ : Type} (N : Nat) (K : AV → Heap → Option ρ) (L0 : St → Option ρ) : mixK (impl_tableOf_v3.fin N K .ret) (impl_tableOf_v3.k1g N L0 (impl_tableOf_v3.k0 N K)) = (impl_tableOf_v3.k1g N L0 (impl_tableOf_v3.k0 N K)) := by
  funext e s; cases e <;> kernel_rfl

noncomputable def impl_tableOf_v3.st1 (nv0 : Int) (outv1 : Nat) (x2 : Int) (gv3 : Nat) (gv4 : Nat → Nat) (gv5 : Nat → Nat) (gv6 : Nat → Int) (row7 : Nat) (x8 : Int) (gv9 : Nat → Int) : St := ⟨sl 33 [(0, .int .i64 (nv0)), (1, .fn 37 0 []), (5, .slice true 0 0 outv1 .whole 1), (6, .int .i64 (x2)), (7, .slice true 1 0 row7 .whole 1), (10, .int .i64 (nv0)), (11, .int .i64 (x2)), (15, .int .i64 (nv0)), (16, .int .i64 (x8))], [⟨true, .hdr 2 0 gv3 gv4 gv5 none⟩, ⟨true, .flat 0 (.ints .i64 gv9)⟩, ⟨true, .flat 0 (.ints .i64 gv6)⟩]⟩

noncomputable def impl_tableOf_v3.sx1_0 (nv0 : Int) (outv1 : Nat) (x2 : Int) (gv3 : Nat) (gv4 : Nat → Nat) (gv5 : Nat → Nat) (gv6 : Nat → Int) (ov11 : Nat) (ov12 : Nat → Int) : St := ⟨sl 33 [(0, .int .i64 (nv0)), (1, .fn 37 0 []), (5, .slice true 0 0 outv1 .whole 1), (7, .slice true 1 0 ov11 .whole 1), (10, .int .i64 (nv0)), (11, .int .i64 (x2))], [⟨true, .hdr 2 0 gv3 gv4 gv5 none⟩, ⟨true, .flat 0 (.ints .i64 ov12)⟩, ⟨true, .flat 0 (.ints .i64 gv6)⟩]⟩

theorem impl_tableOf_v3.b1_gen {ρ : Type} (N : Nat) (K : AV → Heap → Option ρ) (L1 : St → Option ρ) (kv : XE → St → Option ρ) (nv0 : Int) (outv1 : Nat) (x2 : Int) (gv3 : Nat) (gv4 : Nat → Nat) (gv5 : Nat → Nat) (gv6 : Nat → Int) (row7 : Nat) (x8 : Int) (gv9 : Nat → Int) :
    xcode (E8 N) ents impl_tableOf_v3.kp 0 N (cL (cK (cB (cA (cB (cB (cK (cA (cB (cB (cL (cK (cB (cA (cB (cB impl_tableOf_v3.bd)))))))))))))))) 2 (impl_tableOf_v3.st1 nv0 outv1 x2 gv3 gv4 gv5 gv6 row7 x8 gv9) (roundK impl_tableOf_v3.kp 0 2 L1 (mixK (impl_tableOf_v3.fin N K .ret) kv)) = (impl_tableOf_v3.b1 N (fun d0 d1 d2 d3 d4 => K (.slice true 0 0 d0 .whole 1) [⟨true, .hdr 1 0 d1 d2 d3 none⟩, ⟨true, .flat 0 (.ints .i64 d4)⟩]) (fun row7 x8 gv9 => L1 (impl_tableOf_v3.st1 nv0 outv1 x2 gv3 gv4 gv5 gv6 row7 x8 gv9)) (fun ov11 ov12 => kv (.exit 2) (impl_tableOf_v3.sx1_0 nv0 outv1 x2 gv3 gv4 gv5 gv6 ov11 ov12)) nv0 x2 row7 x8 gv9) := by kernel_rfl

theorem impl_tableOf_v3.b1_eq {ρ : Type} (N : Nat) (K : AV → Heap → Option ρ) (L0 : St → Option ρ) (L1 : St → Option ρ) (nv0 : Int) (outv1 : Nat) (x2 : Int) (gv3 : Nat) (gv4 : Nat → Nat) (gv5 : Nat → Nat) (gv6 : Nat → Int) (row7 : Nat) (x8 : Int) (gv9 : Nat → Int) :
    xcode (E8 N) ents impl_tableOf_v3.kp 0 N (cL (cK (cB (cA (cB (cB (cK (cA (cB (cB (cL (cK (cB (cA (cB (cB impl_tableOf_v3.bd)))))))))))))))) 2 (impl_tableOf_v3.st1 nv0 outv1 x2 gv3 gv4 gv5 gv6 row7 x8 gv9) (roundK impl_tableOf_v3.kp 0 2 L1 (impl_tableOf_v3.k1g N L0 (impl_tableOf_v3.k0 N K))) = (impl_tableOf_v3.b1 N (fun d0 d1 d2 d3 d4 => K (.slice true 0 0 d0 .whole 1) [⟨true, .hdr 1 0 d1 d2 d3 none⟩, ⟨true, .flat 0 (.ints .i64 d4)⟩]) (fun row7 x8 gv9 => L1 (impl_tableOf_v3.st1 nv0 outv1 x2 gv3 gv4 gv5 gv6 row7 x8 gv9)) (fun ov11 ov12 => (impl_tableOf_v3.k1g N L0 (impl_tableOf_v3.k0 N K)) (.exit 2) (impl_tableOf_v3.sx1_0 nv0 outv1 x2 gv3 gv4 gv5 gv6 ov11 ov12)) nv0 x2 row7 x8 gv9) := by
  have h := impl_tableOf_v3.b1_gen N K L1 (impl_tableOf_v3.k1g N L0 (impl_tableOf_v3.k0 N K)) nv0 outv1 x2 gv3 gv4 gv5 gv6 row7 x8 gv9
  rw [impl_tableOf_v3.k1_mix] at h
  exact h

theorem impl_tableOf_v3.a1_0_gen {ρ : Type} (N : Nat) (K : AV → Heap → Option ρ) (L0 : St → Option ρ) (kv : XE → St → Option ρ) (nv0 : Int) (outv1 : Nat) (x2 : Int) (gv3 : Nat) (gv4 : Nat → Nat) (gv5 : Nat → Nat) (gv6 : Nat → Int) (ov11 : Nat) (ov12 : Nat → Int) :
    (impl_tableOf_v3.k1g N L0 (mixK (impl_tableOf_v3.fin N K .ret) kv)) (.exit 2) (impl_tableOf_v3.sx1_0 nv0 outv1 x2 gv3 gv4 gv5 gv6 ov11 ov12) = (impl_tableOf_v3.a1_0 N (fun d0 d1 d2 d3 d4 => K (.slice true 0 0 d0 .whole 1) [⟨true, .hdr 1 0 d1 d2 d3 none⟩, ⟨true, .flat 0 (.ints .i64 d4)⟩]) (fun outv1 x2 gv3 gv4 gv5 gv6 => L0 (impl_tableOf_v3.st0 nv0 outv1 x2 gv3 gv4 gv5 gv6)) (fun ov13 ov14 ov15 ov16 ov17 => kv (.exit 0) (impl_tableOf_v3.sx0_0 ov13 ov14 ov15 ov16 ov17)) outv1 x2 gv3 gv4 gv5 gv6 ov11 ov12) := by kernel_rfl

theorem impl_tableOf_v3.a1_0_eq {ρ : Type} (N : Nat) (K : AV → Heap → Option ρ) (L0 : St → Option ρ) (nv0 : Int) (outv1 : Nat) (x2 : Int) (gv3 : Nat) (gv4 : Nat → Nat) (gv5 : Nat → Nat) (gv6 : Nat → Int) (ov11 : Nat) (ov12 : Nat → Int) :
    (impl_tableOf_v3.k1g N L0 (impl_tableOf_v3.k0 N K)) (.exit 2) (impl_tableOf_v3.sx1_0 nv0 outv1 x2 gv3 gv4 gv5 gv6 ov11 ov12) = (impl_tableOf_v3.a1_0 N (fun d0 d1 d2 d3 d4 => K (.slice true 0 0 d0 .whole 1) [⟨true, .hdr 1 0 d1 d2 d3 none⟩, ⟨true, .flat 0 (.ints .i64 d4)⟩]) (fun outv1 x2 gv3 gv4 gv5 gv6 => L0 (impl_tableOf_v3.st0 nv0 outv1 x2 gv3 gv4 gv5 gv6)) (fun ov13 ov14 ov15 ov16 ov17 => (impl_tableOf_v3.k0 N K) (.exit 0) (impl_tableOf_v3.sx0_0 ov13 ov14 ov15 ov16 ov17)) outv1 x2 gv3 gv4 gv5 gv6 ov11 ov12) := by
  have h := impl_tableOf_v3.a1_0_gen N K L0 (impl_tableOf_v3.k0 N K) nv0 outv1 x2 gv3 gv4 gv5 gv6 ov11 ov12
  rw [impl_tableOf_v3.k0_mix] at h
  exact h

theorem impl_tableOf_v3.b0_gen {ρ : Type} (N : Nat) (K : AV → Heap → Option ρ) (L0 : St → Option ρ) (kv : XE → St → Option ρ) (nv0 : Int) (outv1 : Nat) (x2 : Int) (gv3 : Nat) (gv4 : Nat → Nat) (gv5 : Nat → Nat) (gv6 : Nat → Int) :
    xcode (E8 N) ents impl_tableOf_v3.kp 0 N (cL (cK (cB (cA (cB (cB impl_tableOf_v3.bd)))))) 0 (impl_tableOf_v3.st0 nv0 outv1 x2 gv3 gv4 gv5 gv6) (roundK impl_tableOf_v3.kp 0 0 L0 (mixK (impl_tableOf_v3.fin N K .ret) kv)) = (impl_tableOf_v3.b0 N (fun d0 d1 d2 d3 d4 => K (.slice true 0 0 d0 .whole 1) [⟨true, .hdr 1 0 d1 d2 d3 none⟩, ⟨true, .flat 0 (.ints .i64 d4)⟩]) (fun row7 x8 gv9 => xloop (xcode (E8 N) ents impl_tableOf_v3.kp 0 N (cL (cK (cB (cA (cB (cB (cK (cA (cB (cB (cL (cK (cB (cA (cB (cB impl_tableOf_v3.bd)))))))))))))))) 2) impl_tableOf_v3.kp 0 2 N (impl_tableOf_v3.st1 nv0 outv1 x2 gv3 gv4 gv5 gv6 row7 x8 gv9) (impl_tableOf_v3.k1g N L0 (mixK (impl_tableOf_v3.fin N K .ret) kv))) (fun outv1 x2 gv3 gv4 gv5 gv6 => L0 (impl_tableOf_v3.st0 nv0 outv1 x2 gv3 gv4 gv5 gv6)) (fun ov13 ov14 ov15 ov16 ov17 => kv (.exit 0) (impl_tableOf_v3.sx0_0 ov13 ov14 ov15 ov16 ov17)) nv0 outv1 x2 gv3 gv4 gv5 gv6) := by kernel_rfl

theorem impl_tableOf_v3.b0_eq {ρ : Type} (N : Nat) (K : AV → Heap → Option ρ) (L0 : St → Option ρ) (nv0 : Int) (outv1 : Nat) (x2 : Int) (gv3 : Nat) (gv4 : Nat → Nat) (gv5 : Nat → Nat) (gv6 : Nat → Int) :
    xcode (E8 N) ents impl_tableOf_v3.kp 0 N (cL (cK (cB (cA (cB (cB impl_tableOf_v3.bd)))))) 0 (impl_tableOf_v3.st0 nv0 outv1 x2 gv3 gv4 gv5 gv6) (roundK impl_tableOf_v3.kp 0 0 L0 (impl_tableOf_v3.k0 N K)) = (impl_tableOf_v3.b0 N (fun d0 d1 d2 d3 d4 => K (.slice true 0 0 d0 .whole 1) [⟨true, .hdr 1 0 d1 d2 d3 none⟩, ⟨true, .flat 0 (.ints .i64 d4)⟩]) (fun row7 x8 gv9 => xloop (xcode (E8 N) ents impl_tableOf_v3.kp 0 N (cL (cK (cB (cA (cB (cB (cK (cA (cB (cB (cL (cK (cB (cA (cB (cB impl_tableOf_v3.bd)))))))))))))))) 2) impl_tableOf_v3.kp 0 2 N (impl_tableOf_v3.st1 nv0 outv1 x2 gv3 gv4 gv5 gv6 row7 x8 gv9) (impl_tableOf_v3.k1g N L0 (impl_tableOf_v3.k0 N K))) (fun outv1 x2 gv3 gv4 gv5 gv6 => L0 (impl_tableOf_v3.st0 nv0 outv1 x2 gv3 gv4 gv5 gv6)) (fun ov13 ov14 ov15 ov16 ov17 => (impl_tableOf_v3.k0 N K) (.exit 0) (impl_tableOf_v3.sx0_0 ov13 ov14 ov15 ov16 ov17)) nv0 outv1 x2 gv3 gv4 gv5 gv6) := by
  have h := impl_tableOf_v3.b0_gen N K L0 (impl_tableOf_v3.k0 N K) nv0 outv1 x2 gv3 gv4 gv5 gv6
  rw [impl_tableOf_v3.k0_mix] at h
  exact h

theorem impl_tableOf_v3.a0_0_eq {ρ : Type} (N : Nat) (K : AV → Heap → Option ρ) (ov13 : Nat) (ov14 : Nat) (ov15 : Nat → Nat) (ov16 : Nat → Nat) (ov17 : Nat → Int) :
    (impl_tableOf_v3.k0 N K) (.exit 0) (impl_tableOf_v3.sx0_0 ov13 ov14 ov15 ov16 ov17) = (impl_tableOf_v3.a0_0 N (fun d0 d1 d2 d3 d4 => K (.slice true 0 0 d0 .whole 1) [⟨true, .hdr 1 0 d1 d2 d3 none⟩, ⟨true, .flat 0 (.ints .i64 d4)⟩]) ov13 ov14 ov15 ov16 ov17) := by kernel_rfl

theorem impl_tableOf_v3.l1_eq {ρ : Type} (N : Nat) (K : AV → Heap → Option ρ) (L0 : St → Option ρ) (nv0 : Int) (outv1 : Nat) (x2 : Int) (gv3 : Nat) (gv4 : Nat → Nat) (gv5 : Nat → Nat) (gv6 : Nat → Int) :
    ∀ (m : Nat) (row7 : Nat) (x8 : Int) (gv9 : Nat → Int), xloop (xcode (E8 N) ents impl_tableOf_v3.kp 0 N (cL (cK (cB (cA (cB (cB (cK (cA (cB (cB (cL (cK (cB (cA (cB (cB impl_tableOf_v3.bd)))))))))))))))) 2) impl_tableOf_v3.kp 0 2 m (impl_tableOf_v3.st1 nv0 outv1 x2 gv3 gv4 gv5 gv6 row7 x8 gv9) (impl_tableOf_v3.k1g N L0 (impl_tableOf_v3.k0 N K)) = (impl_tableOf_v3.l1 N (fun d0 d1 d2 d3 d4 => K (.slice true 0 0 d0 .whole 1) [⟨true, .hdr 1 0 d1 d2 d3 none⟩, ⟨true, .flat 0 (.ints .i64 d4)⟩]) nv0 x2 (fun ov11 ov12 => (impl_tableOf_v3.k1g N L0 (impl_tableOf_v3.k0 N K)) (.exit 2) (impl_tableOf_v3.sx1_0 nv0 outv1 x2 gv3 gv4 gv5 gv6 ov11 ov12)) m row7 x8 gv9) := by
  intro m
  induction m with
  | zero => intros; rfl
  | succ m ih =>
    intro row7 x8 gv9
    refine (impl_tableOf_v3.b1_eq N K L0 (fun s => xloop (xcode (E8 N) ents impl_tableOf_v3.kp 0 N (cL (cK (cB (cA (cB (cB (cK (cA (cB (cB (cL (cK (cB (cA (cB (cB impl_tableOf_v3.bd)))))))))))))))) 2) impl_tableOf_v3.kp 0 2 m s (impl_tableOf_v3.k1g N L0 (impl_tableOf_v3.k0 N K))) nv0 outv1 x2 gv3 gv4 gv5 gv6 row7 x8 gv9).trans ?_
    simp only [ih]
    kernel_rfl

theorem impl_tableOf_v3.l0_eq {ρ : Type} (N : Nat) (K : AV → Heap → Option ρ) (nv0 : Int) :
    ∀ (m : Nat) (outv1 : Nat) (x2 : Int) (gv3 : Nat) (gv4 : Nat → Nat) (gv5 : Nat → Nat) (gv6 : Nat → Int), xloop (xcode (E8 N) ents impl_tableOf_v3.kp 0 N (cL (cK (cB (cA (cB (cB impl_tableOf_v3.bd)))))) 0) impl_tableOf_v3.kp 0 0 m (impl_tableOf_v3.st0 nv0 outv1 x2 gv3 gv4 gv5 gv6) (impl_tableOf_v3.k0 N K) = (impl_tableOf_v3.l0 N (fun d0 d1 d2 d3 d4 => K (.slice true 0 0 d0 .whole 1) [⟨true, .hdr 1 0 d1 d2 d3 none⟩, ⟨true, .flat 0 (.ints .i64 d4)⟩]) nv0 (fun ov13 ov14 ov15 ov16 ov17 => (impl_tableOf_v3.k0 N K) (.exit 0) (impl_tableOf_v3.sx0_0 ov13 ov14 ov15 ov16 ov17)) m outv1 x2 gv3 gv4 gv5 gv6) := by
  intro m
  induction m with
  | zero => intros; rfl
  | succ m ih =>
    intro outv1 x2 gv3 gv4 gv5 gv6
    refine (impl_tableOf_v3.b0_eq N K (fun s => xloop (xcode (E8 N) ents impl_tableOf_v3.kp 0 N (cL (cK (cB (cA (cB (cB impl_tableOf_v3.bd)))))) 0) impl_tableOf_v3.kp 0 0 m s (impl_tableOf_v3.k0 N K)) nv0 outv1 x2 gv3 gv4 gv5 gv6).trans ?_
    simp only [ih, impl_tableOf_v3.l1_eq, impl_tableOf_v3.a1_0_eq]
    kernel_rfl

theorem impl_tableOf_v3.s_eq {ρ : Type} (N : Nat) (K : AV → Heap → Option ρ) (nv0 : Int) :
    xbody (E8 N) ents impl_tableOf_v3.kp N Go.Proofs.Try.f36 impl_tableOf_v3.bd [.int .i64 (nv0), .fn 37 0 []] [] K = (impl_tableOf_v3.s N (fun d0 d1 d2 d3 d4 => K (.slice true 0 0 d0 .whole 1) [⟨true, .hdr 1 0 d1 d2 d3 none⟩, ⟨true, .flat 0 (.ints .i64 d4)⟩]) (fun outv1 x2 gv3 gv4 gv5 gv6 => xloop (xcode (E8 N) ents impl_tableOf_v3.kp 0 N (cL (cK (cB (cA (cB (cB impl_tableOf_v3.bd)))))) 0) impl_tableOf_v3.kp 0 0 N (impl_tableOf_v3.st0 nv0 outv1 x2 gv3 gv4 gv5 gv6) (impl_tableOf_v3.k0 N K))) := by kernel_rfl

theorem impl_tableOf_v3.eq {ρ : Type} (N : Nat) (K : AV → Heap → Option ρ) (nv0 : Int) :
    xbody (E8 N) ents impl_tableOf_v3.kp N Go.Proofs.Try.f36 impl_tableOf_v3.bd [.int .i64 (nv0), .fn 37 0 []] [] K = (impl_tableOf_v3 N (fun d0 d1 d2 d3 d4 => K (.slice true 0 0 d0 .whole 1) [⟨true, .hdr 1 0 d1 d2 d3 none⟩, ⟨true, .flat 0 (.ints .i64 d4)⟩]) nv0) := by
  refine (impl_tableOf_v3.s_eq N K nv0).trans ?_
  simp only [impl_tableOf_v3.l0_eq, impl_tableOf_v3.a0_0_eq]
  kernel_rfl

noncomputable def impl_tableOf.en (N : Nat) (ρ : Type) : List AV → Heap → (AV → Heap → Option ρ) → Option ρ
  | [.int .i64 (nv0), .fn 39 0 [[(0, 1)]]], [⟨false, .flat 1 (.ints .i64 gv1)⟩], K => (impl_tableOf N (fun d0 d1 d2 d3 d4 => K (.slice true 1 0 d0 .whole 1) [⟨false, .flat 1 (.ints .i64 gv1)⟩, ⟨true, .hdr 2 0 d1 d2 d3 none⟩, ⟨true, .flat 0 (.ints .i64 d4)⟩]) nv0 gv1)
  | [.int .i64 (nv0), .fn 40 0 [[(0, 1)]]], [⟨false, .flat 1 (.ints .i64 gv1)⟩], K => (impl_tableOf_v2 N (fun d0 d1 d2 d3 d4 => K (.slice true 1 0 d0 .whole 1) [⟨false, .flat 1 (.ints .i64 gv1)⟩, ⟨true, .hdr 2 0 d1 d2 d3 none⟩, ⟨true, .flat 0 (.ints .i64 d4)⟩]) nv0 gv1)
  | [.int .i64 (nv0), .fn 37 0 []], [], K => (impl_tableOf_v3 N (fun d0 d1 d2 d3 d4 => K (.slice true 0 0 d0 .whole 1) [⟨true, .hdr 1 0 d1 d2 d3 none⟩, ⟨true, .flat 0 (.ints .i64 d4)⟩]) nv0)
  | _, _, _ => none

theorem impl_tableOf.en_ok (N : Nat) (hE : EnvOk (E8 N) ents) (ρ : Type) (args : List AV) (sh : Heap) (K : AV → Heap → Option ρ) (r : ρ) (h : impl_tableOf.en N ρ args sh K = some r) : ∃ v sh', K v sh' = some r ∧ FnOk (E8 N).P 36 args sh v sh' := by
  unfold impl_tableOf.en at h
  split at h
  · exact fn_ok hE (kp := impl_tableOf.kp) (N := N) Go.Proofs.Try.func36 (c := impl_tableOf.bd) (by kernel_rfl) ((impl_tableOf.eq N _ _ _).trans h)
  · exact fn_ok hE (kp := impl_tableOf_v2.kp) (N := N) Go.Proofs.Try.func36 (c := impl_tableOf_v2.bd) (by kernel_rfl) ((impl_tableOf_v2.eq N _ _ _).trans h)
  · exact fn_ok hE (kp := impl_tableOf_v3.kp) (N := N) Go.Proofs.Try.func36 (c := impl_tableOf_v3.bd) (by kernel_rfl) ((impl_tableOf_v3.eq N _ _).trans h)
  · cases h

noncomputable def E9 (N : Nat) : Env := (E8 N).add 36 (impl_tableOf.en N)

theorem E9_ok (N : Nat) : EnvOk (E9 N) ents := Env.add_ok (E8_ok N) (impl_tableOf.en_ok N (E8_ok N))

noncomputable def impl_cyclic.kp : Keeps := ⟨[], [], []⟩

noncomputable def impl_cyclic.bd : Code := bodyOf Go.Proofs.Try.f29

noncomputable def impl_cyclic.fin {ρ : Type} (N : Nat) (K : AV → Heap → Option ρ) : XE → St → Option ρ := finK (E9 N) impl_cyclic.kp.fins Go.Proofs.Try.f29 [] K

theorem impl_cyclic.eq {ρ : Type} (N : Nat) (K : AV → Heap → Option ρ) (nv0 : Int) :
    xbody (E9 N) ents impl_cyclic.kp N Go.Proofs.Try.f29 impl_cyclic.bd [.int .i64 (nv0)] [] K = (impl_cyclic N (fun d0 d1 d2 d3 d4 => K (.slice true 0 0 d0 .whole 1) [⟨true, .hdr 1 0 d1 d2 d3 none⟩, ⟨true, .flat 0 (.ints .i64 d4)⟩]) nv0) := by kernel_rfl

noncomputable def impl_cyclic.en (N : Nat) (ρ : Type) : List AV → Heap → (AV → Heap → Option ρ) → Option ρ
  | [.int .i64 (nv0)], [], K => (impl_cyclic N (fun d0 d1 d2 d3 d4 => K (.slice true 0 0 d0 .whole 1) [⟨true, .hdr 1 0 d1 d2 d3 none⟩, ⟨true, .flat 0 (.ints .i64 d4)⟩]) nv0)
  | _, _, _ => none

theorem impl_cyclic.en_ok (N : Nat) (hE : EnvOk (E9 N) ents) (ρ : Type) (args : List AV) (sh : Heap) (K : AV → Heap → Option ρ) (r : ρ) (h : impl_cyclic.en N ρ args sh K = some r) : ∃ v sh', K v sh' = some r ∧ FnOk (E9 N).P 29 args sh v sh' := by
  unfold impl_cyclic.en at h
  split at h
  · exact fn_ok hE (kp := impl_cyclic.kp) (N := N) Go.Proofs.Try.func29 (c := impl_cyclic.bd) (by kernel_rfl) ((impl_cyclic.eq N _ _).trans h)
  · cases h

noncomputable def E10 (N : Nat) : Env := (E9 N).add 29 (impl_cyclic.en N)

theorem E10_ok (N : Nat) : EnvOk (E10 N) ents := Env.add_ok (E9_ok N) (impl_cyclic.en_ok N (E9_ok N))

noncomputable def impl_CyclicTable.kp : Keeps := ⟨[], [], [(.slot 2, .unkH .i64)]⟩

noncomputable def impl_CyclicTable.bd : Code := bodyOf Go.Proofs.Try.f15

noncomputable def impl_CyclicTable.fin {ρ : Type} (N : Nat) (K : AV → Heap → Option ρ) : XE → St → Option ρ := finK (E10 N) impl_CyclicTable.kp.fins Go.Proofs.Try.f15 [] K

theorem impl_CyclicTable.eq {ρ : Type} (N : Nat) (K : AV → Heap → Option ρ) (nv0 : Int) :
    xbody (E10 N) ents impl_CyclicTable.kp N Go.Proofs.Try.f15 impl_CyclicTable.bd [.int .i64 (nv0)] [] K = (impl_CyclicTable N (fun d0 d1 d2 d3 d4 d5 => K (.tup [.slice false 0 0 d0 .unk 1, .int .i64 (d1)]) [⟨true, .hdr 1 0 d2 d3 d4 none⟩, ⟨true, .flat 0 (.ints .i64 d5)⟩]) nv0) := by kernel_rfl

noncomputable def impl_CyclicTable.en (N : Nat) (ρ : Type) : List AV → Heap → (AV → Heap → Option ρ) → Option ρ
  | [.int .i64 (nv0)], [], K => (impl_CyclicTable N (fun d0 d1 d2 d3 d4 d5 => K (.tup [.slice false 0 0 d0 .unk 1, .int .i64 (d1)]) [⟨true, .hdr 1 0 d2 d3 d4 none⟩, ⟨true, .flat 0 (.ints .i64 d5)⟩]) nv0)
  | _, _, _ => none

theorem impl_CyclicTable.en_ok (N : Nat) (hE : EnvOk (E10 N) ents) (ρ : Type) (args : List AV) (sh : Heap) (K : AV → Heap → Option ρ) (r : ρ) (h : impl_CyclicTable.en N ρ args sh K = some r) : ∃ v sh', K v sh' = some r ∧ FnOk (E10 N).P 15 args sh v sh' := by
  unfold impl_CyclicTable.en at h
  split at h
  · exact fn_ok hE (kp := impl_CyclicTable.kp) (N := N) Go.Proofs.Try.func15 (c := impl_CyclicTable.bd) (by kernel_rfl) ((impl_CyclicTable.eq N _ _).trans h)
  · cases h

noncomputable def E11 (N : Nat) : Env := (E10 N).add 15 (impl_CyclicTable.en N)

theorem E11_ok (N : Nat) : EnvOk (E11 N) ents := Env.add_ok (E10_ok N) (impl_CyclicTable.en_ok N (E10_ok N))

noncomputable def laws_eqInt64S.kp : Keeps := ⟨[(0, [0, 1, 5], [], [])], [(0, [], [], [])], []⟩

noncomputable def laws_eqInt64S.bd : Code := bodyOf Go.Proofs.Try.f30

noncomputable def laws_eqInt64S.fin {ρ : Type} (N : Nat) (K : AV → Heap → Option ρ) (gv2 : Nat) (gv3 : Nat → Int) (gv4 : Nat) (gv5 : Nat → Int) : XE → St → Option ρ := finK (E11 N) laws_eqInt64S.kp.fins Go.Proofs.Try.f30 [⟨false, .flat gv2 (.ints .i64 gv3)⟩, ⟨false, .flat gv4 (.ints .i64 gv5)⟩] K

noncomputable def laws_eqInt64S.k0 {ρ : Type} (N : Nat) (K : AV → Heap → Option ρ) (gv2 : Nat) (gv3 : Nat → Int) (gv4 : Nat) (gv5 : Nat → Int) : XE → St → Option ρ := (blockK laws_eqInt64S.kp 2 0 (seqK (xcode (E11 N) ents laws_eqInt64S.kp 2 N (cB (cB (cB laws_eqInt64S.bd))) 0) (laws_eqInt64S.fin N K gv2 gv3 gv4 gv5)))

theorem laws_eqInt64S.k0_mix {ρ : Type} (N : Nat) (K : AV → Heap → Option ρ) (gv2 : Nat) (gv3 : Nat → Int) (gv4 : Nat) (gv5 : Nat → Int) : mixK (laws_eqInt64S.fin N K gv2 gv3 gv4 gv5 .ret) (laws_eqInt64S.k0 N K gv2 gv3 gv4 gv5) = (laws_eqInt64S.k0 N K gv2 gv3 gv4 gv5) := by
  funext e s; cases e <;> kernel_rfl

noncomputable def laws_eqInt64S.st0 (av0 : Nat) (bv1 : Nat) (gv2 : Nat) (gv3 : Nat → Int) (gv4 : Nat) (gv5 : Nat → Int) (i6 : Int) : St := ⟨sl 26 [(0, .slice false 0 0 av0 .unk 1), (1, .slice false 1 0 bv1 .unk 1), (5, .int .i64 (i6))], [⟨false, .flat gv2 (.ints .i64 gv3)⟩, ⟨false, .flat gv4 (.ints .i64 gv5)⟩]⟩

noncomputable def laws_eqInt64S.sx0_0 (gv2 : Nat) (gv3 : Nat → Int) (gv4 : Nat) (gv5 : Nat → Int) : St := ⟨sl 26 [], [⟨false, .flat gv2 (.ints .i64 gv3)⟩, ⟨false, .flat gv4 (.ints .i64 gv5)⟩]⟩

theorem laws_eqInt64S.b0_gen {ρ : Type} (N : Nat) (K : AV → Heap → Option ρ) (L0 : St → Option ρ) (kv : XE → St → Option ρ) (av0 : Nat) (bv1 : Nat) (gv2 : Nat) (gv3 : Nat → Int) (gv4 : Nat) (gv5 : Nat → Int) (i6 : Int) :
    xcode (E11 N) ents laws_eqInt64S.kp 2 N (cL (cK (cB (cA (cB (cB laws_eqInt64S.bd)))))) 0 (laws_eqInt64S.st0 av0 bv1 gv2 gv3 gv4 gv5 i6) (roundK laws_eqInt64S.kp 2 0 L0 (mixK (laws_eqInt64S.fin N K gv2 gv3 gv4 gv5 .ret) kv)) = (laws_eqInt64S.b0 N (fun d0 => K (.bool (d0)) [⟨false, .flat gv2 (.ints .i64 gv3)⟩, ⟨false, .flat gv4 (.ints .i64 gv5)⟩]) (fun i6 => L0 (laws_eqInt64S.st0 av0 bv1 gv2 gv3 gv4 gv5 i6)) (kv (.exit 0) (laws_eqInt64S.sx0_0 gv2 gv3 gv4 gv5)) av0 bv1 gv3 gv5 i6) := by kernel_rfl

theorem laws_eqInt64S.b0_eq {ρ : Type} (N : Nat) (K : AV → Heap → Option ρ) (L0 : St → Option ρ) (av0 : Nat) (bv1 : Nat) (gv2 : Nat) (gv3 : Nat → Int) (gv4 : Nat) (gv5 : Nat → Int) (i6 : Int) :
    xcode (E11 N) ents laws_eqInt64S.kp 2 N (cL (cK (cB (cA (cB (cB laws_eqInt64S.bd)))))) 0 (laws_eqInt64S.st0 av0 bv1 gv2 gv3 gv4 gv5 i6) (roundK laws_eqInt64S.kp 2 0 L0 (laws_eqInt64S.k0 N K gv2 gv3 gv4 gv5)) = (laws_eqInt64S.b0 N (fun d0 => K (.bool (d0)) [⟨false, .flat gv2 (.ints .i64 gv3)⟩, ⟨false, .flat gv4 (.ints .i64 gv5)⟩]) (fun i6 => L0 (laws_eqInt64S.st0 av0 bv1 gv2 gv3 gv4 gv5 i6)) ((laws_eqInt64S.k0 N K gv2 gv3 gv4 gv5) (.exit 0) (laws_eqInt64S.sx0_0 gv2 gv3 gv4 gv5)) av0 bv1 gv3 gv5 i6) := by
  have h := laws_eqInt64S.b0_gen N K L0 (laws_eqInt64S.k0 N K gv2 gv3 gv4 gv5) av0 bv1 gv2 gv3 gv4 gv5 i6
  rw [laws_eqInt64S.k0_mix] at h
  exact h

theorem laws_eqInt64S.a0_0_eq {ρ : Type} (N : Nat) (K : AV → Heap → Option ρ) (gv2 : Nat) (gv3 : Nat → Int) (gv4 : Nat) (gv5 : Nat → Int) :
    (laws_eqInt64S.k0 N K gv2 gv3 gv4 gv5) (.exit 0) (laws_eqInt64S.sx0_0 gv2 gv3 gv4 gv5) = (laws_eqInt64S.a0_0 N (fun d0 => K (.bool (d0)) [⟨false, .flat gv2 (.ints .i64 gv3)⟩, ⟨false, .flat gv4 (.ints .i64 gv5)⟩])) := by kernel_rfl

theorem laws_eqInt64S.l0_eq {ρ : Type} (N : Nat) (K : AV → Heap → Option ρ) (av0 : Nat) (bv1 : Nat) (gv2 : Nat) (gv3 : Nat → Int) (gv4 : Nat) (gv5 : Nat → Int) :
    ∀ (m : Nat) (i6 : Int), xloop (xcode (E11 N) ents laws_eqInt64S.kp 2 N (cL (cK (cB (cA (cB (cB laws_eqInt64S.bd)))))) 0) laws_eqInt64S.kp 2 0 m (laws_eqInt64S.st0 av0 bv1 gv2 gv3 gv4 gv5 i6) (laws_eqInt64S.k0 N K gv2 gv3 gv4 gv5) = (laws_eqInt64S.l0 N (fun d0 => K (.bool (d0)) [⟨false, .flat gv2 (.ints .i64 gv3)⟩, ⟨false, .flat gv4 (.ints .i64 gv5)⟩]) av0 bv1 gv3 gv5 ((laws_eqInt64S.k0 N K gv2 gv3 gv4 gv5) (.exit 0) (laws_eqInt64S.sx0_0 gv2 gv3 gv4 gv5)) m i6) := by
  intro m
  induction m with
  | zero => intros; rfl
  | succ m ih =>
    intro i6
    refine (laws_eqInt64S.b0_eq N K (fun s => xloop (xcode (E11 N) ents laws_eqInt64S.kp 2 N (cL (cK (cB (cA (cB (cB laws_eqInt64S.bd)))))) 0) laws_eqInt64S.kp 2 0 m s (laws_eqInt64S.k0 N K gv2 gv3 gv4 gv5)) av0 bv1 gv2 gv3 gv4 gv5 i6).trans ?_
    simp only [ih]
    kernel_rfl

theorem laws_eqInt64S.s_eq {ρ : Type} (N : Nat) (K : AV → Heap → Option ρ) (av0 : Nat) (bv1 : Nat) (gv2 : Nat) (gv3 : Nat → Int) (gv4 : Nat) (gv5 : Nat → Int) :
    xbody (E11 N) ents laws_eqInt64S.kp N Go.Proofs.Try.f30 laws_eqInt64S.bd [.slice false 0 0 av0 .unk 1, .slice false 1 0 bv1 .unk 1] [⟨false, .flat gv2 (.ints .i64 gv3)⟩, ⟨false, .flat gv4 (.ints .i64 gv5)⟩] K = (laws_eqInt64S.s N (fun d0 => K (.bool (d0)) [⟨false, .flat gv2 (.ints .i64 gv3)⟩, ⟨false, .flat gv4 (.ints .i64 gv5)⟩]) (fun i6 => xloop (xcode (E11 N) ents laws_eqInt64S.kp 2 N (cL (cK (cB (cA (cB (cB laws_eqInt64S.bd)))))) 0) laws_eqInt64S.kp 2 0 N (laws_eqInt64S.st0 av0 bv1 gv2 gv3 gv4 gv5 i6) (laws_eqInt64S.k0 N K gv2 gv3 gv4 gv5)) av0 bv1) := by kernel_rfl

theorem laws_eqInt64S.eq {ρ : Type} (N : Nat) (K : AV → Heap → Option ρ) (av0 : Nat) (bv1 : Nat) (gv2 : Nat) (gv3 : Nat → Int) (gv4 : Nat) (gv5 : Nat → Int) :
    xbody (E11 N) ents laws_eqInt64S.kp N Go.Proofs.Try.f30 laws_eqInt64S.bd [.slice false 0 0 av0 .unk 1, .slice false 1 0 bv1 .unk 1] [⟨false, .flat gv2 (.ints .i64 gv3)⟩, ⟨false, .flat gv4 (.ints .i64 gv5)⟩] K = (laws_eqInt64S N (fun d0 => K (.bool (d0)) [⟨false, .flat gv2 (.ints .i64 gv3)⟩, ⟨false, .flat gv4 (.ints .i64 gv5)⟩]) av0 bv1 gv2 gv3 gv4 gv5) := by
  refine (laws_eqInt64S.s_eq N K av0 bv1 gv2 gv3 gv4 gv5).trans ?_
  simp only [laws_eqInt64S.l0_eq, laws_eqInt64S.a0_0_eq]
  kernel_rfl

noncomputable def laws_eqInt64S.en (N : Nat) (ρ : Type) : List AV → Heap → (AV → Heap → Option ρ) → Option ρ
  | [.slice false 0 0 av0 .unk 1, .slice false 1 0 bv1 .unk 1], [⟨false, .flat gv2 (.ints .i64 gv3)⟩, ⟨false, .flat gv4 (.ints .i64 gv5)⟩], K => (laws_eqInt64S N (fun d0 => K (.bool (d0)) [⟨false, .flat gv2 (.ints .i64 gv3)⟩, ⟨false, .flat gv4 (.ints .i64 gv5)⟩]) av0 bv1 gv2 gv3 gv4 gv5)
  | _, _, _ => none

theorem laws_eqInt64S.en_ok (N : Nat) (hE : EnvOk (E11 N) ents) (ρ : Type) (args : List AV) (sh : Heap) (K : AV → Heap → Option ρ) (r : ρ) (h : laws_eqInt64S.en N ρ args sh K = some r) : ∃ v sh', K v sh' = some r ∧ FnOk (E11 N).P 30 args sh v sh' := by
  unfold laws_eqInt64S.en at h
  split at h
  · exact fn_ok hE (kp := laws_eqInt64S.kp) (N := N) Go.Proofs.Try.func30 (c := laws_eqInt64S.bd) (by kernel_rfl) ((laws_eqInt64S.eq N _ _ _ _ _ _ _).trans h)
  · cases h

noncomputable def E12 (N : Nat) : Env := (E11 N).add 30 (laws_eqInt64S.en N)

theorem E12_ok (N : Nat) : EnvOk (E12 N) ents := Env.add_ok (E11_ok N) (laws_eqInt64S.en_ok N (E11_ok N))

noncomputable def laws_eqInt64SS.kp : Keeps := ⟨[(0, [0, 1, 5], [], [])], [(0, [], [], [])], []⟩

noncomputable def laws_eqInt64SS.bd : Code := bodyOf Go.Proofs.Try.f16

noncomputable def laws_eqInt64SS.fin {ρ : Type} (N : Nat) (K : AV → Heap → Option ρ) (gv2 : Nat) (gv3 : Nat) (gv4 : Nat → Nat) (gv5 : Nat → Nat) (gv6 : Nat) (gv7 : Nat) (gv8 : Nat → Nat) (gv9 : Nat → Nat) (gv10 : Nat → Int) (gv11 : Nat → Int) : XE → St → Option ρ := finK (E12 N) laws_eqInt64SS.kp.fins Go.Proofs.Try.f16 [⟨false, .hdr 2 gv2 gv3 gv4 gv5 none⟩, ⟨false, .hdr 3 gv6 gv7 gv8 gv9 none⟩, ⟨false, .flat 0 (.ints .i64 gv10)⟩, ⟨false, .flat 0 (.ints .i64 gv11)⟩] K

noncomputable def laws_eqInt64SS.k0 {ρ : Type} (N : Nat) (K : AV → Heap → Option ρ) (gv2 : Nat) (gv3 : Nat) (gv4 : Nat → Nat) (gv5 : Nat → Nat) (gv6 : Nat) (gv7 : Nat) (gv8 : Nat → Nat) (gv9 : Nat → Nat) (gv10 : Nat → Int) (gv11 : Nat → Int) : XE → St → Option ρ := (blockK laws_eqInt64SS.kp 4 0 (seqK (xcode (E12 N) ents laws_eqInt64SS.kp 4 N (cB (cB (cB laws_eqInt64SS.bd))) 0) (laws_eqInt64SS.fin N K gv2 gv3 gv4 gv5 gv6 gv7 gv8 gv9 gv10 gv11)))

theorem laws_eqInt64SS.k0_mix {ρ : Type} (N : Nat) (K : AV → Heap → Option ρ) (gv2 : Nat) (gv3 : Nat) (gv4 : Nat → Nat) (gv5 : Nat → Nat) (gv6 : Nat) (gv7 : Nat) (gv8 : Nat → Nat) (gv9 : Nat → Nat) (gv10 : Nat → Int) (gv11 : Nat → Int) : mixK (laws_eqInt64SS.fin N K gv2 gv3 gv4 gv5 gv6 gv7 gv8 gv9 gv10 gv11 .ret) (laws_eqInt64SS.k0 N K gv2 gv3 gv4 gv5 gv6 gv7 gv8 gv9 gv10 gv11) = (laws_eqInt64SS.k0 N K gv2 gv3 gv4 gv5 gv6 gv7 gv8 gv9 gv10 gv11) := by
  funext e s; cases e <;> kernel_rfl

noncomputable def laws_eqInt64SS.st0 (av0 : Nat) (bv1 : Nat) (gv2 : Nat) (gv3 : Nat) (gv4 : Nat → Nat) (gv5 : Nat → Nat) (gv6 : Nat) (gv7 : Nat) (gv8 : Nat → Nat) (gv9 : Nat → Nat) (gv10 : Nat → Int) (gv11 : Nat → Int) (i12 : Int) : St := ⟨sl 27 [(0, .slice false 0 0 av0 .unk 1), (1, .slice false 1 0 bv1 .unk 1), (5, .int .i64 (i12))], [⟨false, .hdr 2 gv2 gv3 gv4 gv5 none⟩, ⟨false, .hdr 3 gv6 gv7 gv8 gv9 none⟩, ⟨false, .flat 0 (.ints .i64 gv10)⟩, ⟨false, .flat 0 (.ints .i64 gv11)⟩]⟩

noncomputable def laws_eqInt64SS.sx0_0 (gv2 : Nat) (gv3 : Nat) (gv4 : Nat → Nat) (gv5 : Nat → Nat) (gv6 : Nat) (gv7 : Nat) (gv8 : Nat → Nat) (gv9 : Nat → Nat) (gv10 : Nat → Int) (gv11 : Nat → Int) : St := ⟨sl 27 [], [⟨false, .hdr 2 gv2 gv3 gv4 gv5 none⟩, ⟨false, .hdr 3 gv6 gv7 gv8 gv9 none⟩, ⟨false, .flat 0 (.ints .i64 gv10)⟩, ⟨false, .flat 0 (.ints .i64 gv11)⟩]⟩

theorem laws_eqInt64SS.b0_gen {ρ : Type} (N : Nat) (K : AV → Heap → Option ρ) (L0 : St → Option ρ) (kv : XE → St → Option ρ) (av0 : Nat) (bv1 : Nat) (gv2 : Nat) (gv3 : Nat) (gv4 : Nat → Nat) (gv5 : Nat → Nat) (gv6 : Nat) (gv7 : Nat) (gv8 : Nat → Nat) (gv9 : Nat → Nat) (gv10 : Nat → Int) (gv11 : Nat → Int) (i12 : Int) :
    xcode (E12 N) ents laws_eqInt64SS.kp 4 N (cL (cK (cB (cA (cB (cB laws_eqInt64SS.bd)))))) 0 (laws_eqInt64SS.st0 av0 bv1 gv2 gv3 gv4 gv5 gv6 gv7 gv8 gv9 gv10 gv11 i12) (roundK laws_eqInt64SS.kp 4 0 L0 (mixK (laws_eqInt64SS.fin N K gv2 gv3 gv4 gv5 gv6 gv7 gv8 gv9 gv10 gv11 .ret) kv)) = (laws_eqInt64SS.b0 N (fun d0 => K (.bool (d0)) [⟨false, .hdr 2 gv2 gv3 gv4 gv5 none⟩, ⟨false, .hdr 3 gv6 gv7 gv8 gv9 none⟩, ⟨false, .flat 0 (.ints .i64 gv10)⟩, ⟨false, .flat 0 (.ints .i64 gv11)⟩]) (fun i12 => L0 (laws_eqInt64SS.st0 av0 bv1 gv2 gv3 gv4 gv5 gv6 gv7 gv8 gv9 gv10 gv11 i12)) (kv (.exit 0) (laws_eqInt64SS.sx0_0 gv2 gv3 gv4 gv5 gv6 gv7 gv8 gv9 gv10 gv11)) av0 bv1 gv4 gv5 gv8 gv9 gv10 gv11 i12) := by kernel_rfl

theorem laws_eqInt64SS.b0_eq {ρ : Type} (N : Nat) (K : AV → Heap → Option ρ) (L0 : St → Option ρ) (av0 : Nat) (bv1 : Nat) (gv2 : Nat) (gv3 : Nat) (gv4 : Nat → Nat) (gv5 : Nat → Nat) (gv6 : Nat) (gv7 : Nat) (gv8 : Nat → Nat) (gv9 : Nat → Nat) (gv10 : Nat → Int) (gv11 : Nat → Int) (i12 : Int) :
    xcode (E12 N) ents laws_eqInt64SS.kp 4 N (cL (cK (cB (cA (cB (cB laws_eqInt64SS.bd)))))) 0 (laws_eqInt64SS.st0 av0 bv1 gv2 gv3 gv4 gv5 gv6 gv7 gv8 gv9 gv10 gv11 i12) (roundK laws_eqInt64SS.kp 4 0 L0 (laws_eqInt64SS.k0 N K gv2 gv3 gv4 gv5 gv6 gv7 gv8 gv9 gv10 gv11)) = (laws_eqInt64SS.b0 N (fun d0 => K (.bool (d0)) [⟨false, .hdr 2 gv2 gv3 gv4 gv5 none⟩, ⟨false, .hdr 3 gv6 gv7 gv8 gv9 none⟩, ⟨false, .flat 0 (.ints .i64 gv10)⟩, ⟨false, .flat 0 (.ints .i64 gv11)⟩]) (fun i12 => L0 (laws_eqInt64SS.st0 av0 bv1 gv2 gv3 gv4 gv5 gv6 gv7 gv8 gv9 gv10 gv11 i12)) ((laws_eqInt64SS.k0 N K gv2 gv3 gv4 gv5 gv6 gv7 gv8 gv9 gv10 gv11) (.exit 0) (laws_eqInt64SS.sx0_0 gv2 gv3 gv4 gv5 gv6 gv7 gv8 gv9 gv10 gv11)) av0 bv1 gv4 gv5 gv8 gv9 gv10 gv11 i12) := by
  have h := laws_eqInt64SS.b0_gen N K L0 (laws_eqInt64SS.k0 N K gv2 gv3 gv4 gv5 gv6 gv7 gv8 gv9 gv10 gv11) av0 bv1 gv2 gv3 gv4 gv5 gv6 gv7 gv8 gv9 gv10 gv11 i12
  rw [laws_eqInt64SS.k0_mix] at h
  exact h

theorem laws_eqInt64SS.a0_0_eq {ρ : Type} (N : Nat) (K : AV → Heap → Option ρ) (gv2 : Nat) (gv3 : Nat) (gv4 : Nat → Nat) (gv5 : Nat → Nat) (gv6 : Nat) (gv7 : Nat) (gv8 : Nat → Nat) (gv9 : Nat → Nat) (gv10 : Nat → Int) (gv11 : Nat → Int) :
    (laws_eqInt64SS.k0 N K gv2 gv3 gv4 gv5 gv6 gv7 gv8 gv9 gv10 gv11) (.exit 0) (laws_eqInt64SS.sx0_0 gv2 gv3 gv4 gv5 gv6 gv7 gv8 gv9 gv10 gv11) = (laws_eqInt64SS.a0_0 N (fun d0 => K (.bool (d0)) [⟨false, .hdr 2 gv2 gv3 gv4 gv5 none⟩, ⟨false, .hdr 3 gv6 gv7 gv8 gv9 none⟩, ⟨false, .flat 0 (.ints .i64 gv10)⟩, ⟨false, .flat 0 (.ints .i64 gv11)⟩])) := by kernel_rfl

theorem laws_eqInt64SS.l0_eq {ρ : Type} (N : Nat) (K : AV → Heap → Option ρ) (av0 : Nat) (bv1 : Nat) (gv2 : Nat) (gv3 : Nat) (gv4 : Nat → Nat) (gv5 : Nat → Nat) (gv6 : Nat) (gv7 : Nat) (gv8 : Nat → Nat) (gv9 : Nat → Nat) (gv10 : Nat → Int) (gv11 : Nat → Int) :
    ∀ (m : Nat) (i12 : Int), xloop (xcode (E12 N) ents laws_eqInt64SS.kp 4 N (cL (cK (cB (cA (cB (cB laws_eqInt64SS.bd)))))) 0) laws_eqInt64SS.kp 4 0 m (laws_eqInt64SS.st0 av0 bv1 gv2 gv3 gv4 gv5 gv6 gv7 gv8 gv9 gv10 gv11 i12) (laws_eqInt64SS.k0 N K gv2 gv3 gv4 gv5 gv6 gv7 gv8 gv9 gv10 gv11) = (laws_eqInt64SS.l0 N (fun d0 => K (.bool (d0)) [⟨false, .hdr 2 gv2 gv3 gv4 gv5 none⟩, ⟨false, .hdr 3 gv6 gv7 gv8 gv9 none⟩, ⟨false, .flat 0 (.ints .i64 gv10)⟩, ⟨false, .flat 0 (.ints .i64 gv11)⟩]) av0 bv1 gv4 gv5 gv8 gv9 gv10 gv11 ((laws_eqInt64SS.k0 N K gv2 gv3 gv4 gv5 gv6 gv7 gv8 gv9 gv10 gv11) (.exit 0) (laws_eqInt64SS.sx0_0 gv2 gv3 gv4 gv5 gv6 gv7 gv8 gv9 gv10 gv11)) m i12) := by
  intro m
  induction m with
  | zero => intros; rfl
  | succ m ih =>
    intro i12
    refine (laws_eqInt64SS.b0_eq N K (fun s => xloop (xcode (E12 N) ents laws_eqInt64SS.kp 4 N (cL (cK (cB (cA (cB (cB laws_eqInt64SS.bd)))))) 0) laws_eqInt64SS.kp 4 0 m s (laws_eqInt64SS.k0 N K gv2 gv3 gv4 gv5 gv6 gv7 gv8 gv9 gv10 gv11)) av0 bv1 gv2 gv3 gv4 gv5 gv6 gv7 gv8 gv9 gv10 gv11 i12).trans ?_
    simp only [ih]
    kernel_rfl

theorem laws_eqInt64SS.s_eq {ρ : Type} (N : Nat) (K : AV → Heap → Option ρ) (av0 : Nat) (bv1 : Nat) (gv2 : Nat) (gv3 : Nat) (gv4 : Nat → Nat) (gv5 : Nat → Nat) (gv6 : Nat) (gv7 : Nat) (gv8 : Nat → Nat) (gv9 : Nat → Nat) (gv10 : Nat → Int) (gv11 : Nat → Int) :
    xbody (E12 N) ents laws_eqInt64SS.kp N Go.Proofs.Try.f16 laws_eqInt64SS.bd [.slice false 0 0 av0 .unk 1, .slice false 1 0 bv1 .unk 1] [⟨false, .hdr 2 gv2 gv3 gv4 gv5 none⟩, ⟨false, .hdr 3 gv6 gv7 gv8 gv9 none⟩, ⟨false, .flat 0 (.ints .i64 gv10)⟩, ⟨false, .flat 0 (.ints .i64 gv11)⟩] K = (laws_eqInt64SS.s N (fun d0 => K (.bool (d0)) [⟨false, .hdr 2 gv2 gv3 gv4 gv5 none⟩, ⟨false, .hdr 3 gv6 gv7 gv8 gv9 none⟩, ⟨false, .flat 0 (.ints .i64 gv10)⟩, ⟨false, .flat 0 (.ints .i64 gv11)⟩]) (fun i12 => xloop (xcode (E12 N) ents laws_eqInt64SS.kp 4 N (cL (cK (cB (cA (cB (cB laws_eqInt64SS.bd)))))) 0) laws_eqInt64SS.kp 4 0 N (laws_eqInt64SS.st0 av0 bv1 gv2 gv3 gv4 gv5 gv6 gv7 gv8 gv9 gv10 gv11 i12) (laws_eqInt64SS.k0 N K gv2 gv3 gv4 gv5 gv6 gv7 gv8 gv9 gv10 gv11)) av0 bv1) := by kernel_rfl

theorem laws_eqInt64SS.eq {ρ : Type} (N : Nat) (K : AV → Heap → Option ρ) (av0 : Nat) (bv1 : Nat) (gv2 : Nat) (gv3 : Nat) (gv4 : Nat → Nat) (gv5 : Nat → Nat) (gv6 : Nat) (gv7 : Nat) (gv8 : Nat → Nat) (gv9 : Nat → Nat) (gv10 : Nat → Int) (gv11 : Nat → Int) :
    xbody (E12 N) ents laws_eqInt64SS.kp N Go.Proofs.Try.f16 laws_eqInt64SS.bd [.slice false 0 0 av0 .unk 1, .slice false 1 0 bv1 .unk 1] [⟨false, .hdr 2 gv2 gv3 gv4 gv5 none⟩, ⟨false, .hdr 3 gv6 gv7 gv8 gv9 none⟩, ⟨false, .flat 0 (.ints .i64 gv10)⟩, ⟨false, .flat 0 (.ints .i64 gv11)⟩] K = (laws_eqInt64SS N (fun d0 => K (.bool (d0)) [⟨false, .hdr 2 gv2 gv3 gv4 gv5 none⟩, ⟨false, .hdr 3 gv6 gv7 gv8 gv9 none⟩, ⟨false, .flat 0 (.ints .i64 gv10)⟩, ⟨false, .flat 0 (.ints .i64 gv11)⟩]) av0 bv1 gv2 gv3 gv4 gv5 gv6 gv7 gv8 gv9 gv10 gv11) := by
  refine (laws_eqInt64SS.s_eq N K av0 bv1 gv2 gv3 gv4 gv5 gv6 gv7 gv8 gv9 gv10 gv11).trans ?_
  simp only [laws_eqInt64SS.l0_eq, laws_eqInt64SS.a0_0_eq]
  kernel_rfl

noncomputable def laws_eqInt64SS_v2.kp : Keeps := ⟨[(0, [0, 1, 5], [], [])], [(0, [], [], [])], []⟩

noncomputable def laws_eqInt64SS_v2.bd : Code := bodyOf Go.Proofs.Try.f16

noncomputable def laws_eqInt64SS_v2.fin {ρ : Type} (N : Nat) (K : AV → Heap → Option ρ) (gv2 : Nat) (gv3 : Nat) (gv4 : Nat → Nat) (gv5 : Nat → Nat) (gv6 : Nat) (gv7 : Nat) (gv8 : Nat → Nat) (gv9 : Nat → Nat) (gv10 : Nat → Int) (gv11 : Nat → Int) : XE → St → Option ρ := finK (E12 N) laws_eqInt64SS_v2.kp.fins Go.Proofs.Try.f16 [⟨false, .hdr 2 gv2 gv3 gv4 gv5 none⟩, ⟨false, .hdr 3 gv6 gv7 gv8 gv9 none⟩, ⟨false, .flat 0 (.ints .i64 gv10)⟩, ⟨false, .flat 0 (.ints .i64 gv11)⟩] K

noncomputable def laws_eqInt64SS_v2.k0 {ρ : Type} (N : Nat) (K : AV → Heap → Option ρ) (gv2 : Nat) (gv3 : Nat) (gv4 : Nat → Nat) (gv5 : Nat → Nat) (gv6 : Nat) (gv7 : Nat) (gv8 : Nat → Nat) (gv9 : Nat → Nat) (gv10 : Nat → Int) (gv11 : Nat → Int) : XE → St → Option ρ := (blockK laws_eqInt64SS_v2.kp 4 0 (seqK (xcode (E12 N) ents laws_eqInt64SS_v2.kp 4 N (cB (cB (cB laws_eqInt64SS_v2.bd))) 0) (laws_eqInt64SS_v2.fin N K gv2 gv3 gv4 gv5 gv6 gv7 gv8 gv9 gv10 gv11)))

theorem laws_eqInt64SS_v2.k0_mix {ρ : Type} (N : Nat) (K : AV → Heap → Option ρ) (gv2 : Nat) (gv3 : Nat) (gv4 : Nat → Nat) (gv5 : Nat → Nat) (gv6 : Nat) (gv7 : Nat) (gv8 : Nat → Nat) (gv9 : Nat → Nat) (gv10 : Nat → Int) (gv11 : Nat → Int) : mixK (laws_eqInt64SS_v2.fin N K gv2 gv3 gv4 gv5 gv6 gv7 gv8 gv9 gv10 gv11 .ret) (laws_eqInt64SS_v2.k0 N K gv2 gv3 gv4 gv5 gv6 gv7 gv8 gv9 gv10 gv11) = (laws_eqInt64SS_v2.k0 N K gv2 gv3 gv4 gv5 gv6 gv7 gv8 gv9 gv10 gv11) := by
  funext e s; cases e <;> kernel_rfl

noncomputable def laws_eqInt64SS_v2.st0 (av0 : Nat) (bv1 : Nat) (gv2 : Nat) (gv3 : Nat) (gv4 : Nat → Nat) (gv5 : Nat → Nat) (gv6 : Nat) (gv7 : Nat) (gv8 : Nat → Nat) (gv9 : Nat → Nat) (gv10 : Nat → Int) (gv11 : Nat → Int) (i12 : Int) : St := ⟨sl 27 [(0, .slice true 0 0 av0 .unk 1), (1, .slice true 1 0 bv1 .unk 1), (5, .int .i64 (i12))], [⟨false, .hdr 2 gv2 gv3 gv4 gv5 none⟩, ⟨false, .hdr 3 gv6 gv7 gv8 gv9 none⟩, ⟨false, .flat 0 (.ints .i64 gv10)⟩, ⟨false, .flat 0 (.ints .i64 gv11)⟩]⟩

noncomputable def laws_eqInt64SS_v2.sx0_0 (gv2 : Nat) (gv3 : Nat) (gv4 : Nat → Nat) (gv5 : Nat → Nat) (gv6 : Nat) (gv7 : Nat) (gv8 : Nat → Nat) (gv9 : Nat → Nat) (gv10 : Nat → Int) (gv11 : Nat → Int) : St := ⟨sl 27 [], [⟨false, .hdr 2 gv2 gv3 gv4 gv5 none⟩, ⟨false, .hdr 3 gv6 gv7 gv8 gv9 none⟩, ⟨false, .flat 0 (.ints .i64 gv10)⟩, ⟨false, .flat 0 (.ints .i64 gv11)⟩]⟩

theorem laws_eqInt64SS_v2.b0_gen {ρ : Type} (N : Nat) (K : AV → Heap → Option ρ) (L0 : St → Option ρ) (kv : XE → St → Option ρ) (av0 : Nat) (bv1 : Nat) (gv2 : Nat) (gv3 : Nat) (gv4 : Nat → Nat) (gv5 : Nat → Nat) (gv6 : Nat) (gv7 : Nat) (gv8 : Nat → Nat) (gv9 : Nat → Nat) (gv10 : Nat → Int) (gv11 : Nat → Int) (i12 : Int) :
    xcode (E12 N) ents laws_eqInt64SS_v2.kp 4 N (cL (cK (cB (cA (cB (cB laws_eqInt64SS_v2.bd)))))) 0 (laws_eqInt64SS_v2.st0 av0 bv1 gv2 gv3 gv4 gv5 gv6 gv7 gv8 gv9 gv10 gv11 i12) (roundK laws_eqInt64SS_v2.kp 4 0 L0 (mixK (laws_eqInt64SS_v2.fin N K gv2 gv3 gv4 gv5 gv6 gv7 gv8 gv9 gv10 gv11 .ret) kv)) = (laws_eqInt64SS_v2.b0 N (fun d0 => K (.bool (d0)) [⟨false, .hdr 2 gv2 gv3 gv4 gv5 none⟩, ⟨false, .hdr 3 gv6 gv7 gv8 gv9 none⟩, ⟨false, .flat 0 (.ints .i64 gv10)⟩, ⟨false, .flat 0 (.ints .i64 gv11)⟩]) (fun i12 => L0 (laws_eqInt64SS_v2.st0 av0 bv1 gv2 gv3 gv4 gv5 gv6 gv7 gv8 gv9 gv10 gv11 i12)) (kv (.exit 0) (laws_eqInt64SS_v2.sx0_0 gv2 gv3 gv4 gv5 gv6 gv7 gv8 gv9 gv10 gv11)) av0 bv1 gv4 gv5 gv8 gv9 gv10 gv11 i12) := by kernel_rfl

theorem laws_eqInt64SS_v2.b0_eq {ρ : Type} (N : Nat) (K : AV → Heap → Option ρ) (L0 : St → Option ρ) (av0 : Nat) (bv1 : Nat) (gv2 : Nat) (gv3 : Nat) (gv4 : Nat → Nat) (gv5 : Nat → Nat) (gv6 : Nat) (gv7 : Nat) (gv8 : Nat → Nat) (gv9 : Nat → Nat) (gv10 : Nat → Int) (gv11 : Nat → Int) (i12 : Int) :
    xcode (E12 N) ents laws_eqInt64SS_v2.kp 4 N (cL (cK (cB (cA (cB (cB laws_eqInt64SS_v2.bd)))))) 0 (laws_eqInt64SS_v2.st0 av0 bv1 gv2 gv3 gv4 gv5 gv6 gv7 gv8 gv9 gv10 gv11 i12) (roundK laws_eqInt64SS_v2.kp 4 0 L0 (laws_eqInt64SS_v2.k0 N K gv2 gv3 gv4 gv5 gv6 gv7 gv8 gv9 gv10 gv11)) = (laws_eqInt64SS_v2.b0 N (fun d0 => K (.bool (d0)) [⟨false, .hdr 2 gv2 gv3 gv4 gv5 none⟩, ⟨false, .hdr 3 gv6 gv7 gv8 gv9 none⟩, ⟨false, .flat 0 (.ints .i64 gv10)⟩, ⟨false, .flat 0 (.ints .i64 gv11)⟩]) (fun i12 => L0 (laws_eqInt64SS_v2.st0 av0 bv1 gv2 gv3 gv4 gv5 gv6 gv7 gv8 gv9 gv10 gv11 i12)) ((laws_eqInt64SS_v2.k0 N K gv2 gv3 gv4 gv5 gv6 gv7 gv8 gv9 gv10 gv11) (.exit 0) (laws_eqInt64SS_v2.sx0_0 gv2 gv3 gv4 gv5 gv6 gv7 gv8 gv9 gv10 gv11)) av0 bv1 gv4 gv5 gv8 gv9 gv10 gv11 i12) := by
  have h := laws_eqInt64SS_v2.b0_gen N K L0 (laws_eqInt64SS_v2.k0 N K gv2 gv3 gv4 gv5 gv6 gv7 gv8 gv9 gv10 gv11) av0 bv1 gv2 gv3 gv4 gv5 gv6 gv7 gv8 gv9 gv10 gv11 i12
  rw [laws_eqInt64SS_v2.k0_mix] at h
  exact h

theorem laws_eqInt64SS_v2.a0_0_eq {ρ : Type} (N : Nat) (K : AV → Heap → Option ρ) (gv2 : Nat) (gv3 : Nat) (gv4 : Nat → Nat) (gv5 : Nat → Nat) (gv6 : Nat) (gv7 : Nat) (gv8 : Nat → Nat) (gv9 : Nat → Nat) (gv10 : Nat → Int) (gv11 : Nat → Int) :
    (laws_eqInt64SS_v2.k0 N K gv2 gv3 gv4 gv5 gv6 gv7 gv8 gv9 gv10 gv11) (.exit 0) (laws_eqInt64SS_v2.sx0_0 gv2 gv3 gv4 gv5 gv6 gv7 gv8 gv9 gv10 gv11) = (laws_eqInt64SS_v2.a0_0 N (fun d0 => K (.bool (d0)) [⟨false, .hdr 2 gv2 gv3 gv4 gv5 none⟩, ⟨false, .hdr 3 gv6 gv7 gv8 gv9 none⟩, ⟨false, .flat 0 (.ints .i64 gv10)⟩, ⟨false, .flat 0 (.ints .i64 gv11)⟩])) := by kernel_rfl

theorem laws_eqInt64SS_v2.l0_eq {ρ : Type} (N : Nat) (K : AV → Heap → Option ρ) (av0 : Nat) (bv1 : Nat) (gv2 : Nat) (gv3 : Nat) (gv4 : Nat → Nat) (gv5 : Nat → Nat) (gv6 : Nat) (gv7 : Nat) (gv8 : Nat → Nat) (gv9 : Nat → Nat) (gv10 : Nat → Int) (gv11 : Nat → Int) :
    ∀ (m : Nat) (i12 : Int), xloop (xcode (E12 N) ents laws_eqInt64SS_v2.kp 4 N (cL (cK (cB (cA (cB (cB laws_eqInt64SS_v2.bd)))))) 0) laws_eqInt64SS_v2.kp 4 0 m (laws_eqInt64SS_v2.st0 av0 bv1 gv2 gv3 gv4 gv5 gv6 gv7 gv8 gv9 gv10 gv11 i12) (laws_eqInt64SS_v2.k0 N K gv2 gv3 gv4 gv5 gv6 gv7 gv8 gv9 gv10 gv11) = (laws_eqInt64SS_v2.l0 N (fun d0 => K (.bool (d0)) [⟨false, .hdr 2 gv2 gv3 gv4 gv5 none⟩, ⟨false, .hdr 3 gv6 gv7 gv8 gv9 none⟩, ⟨false, .flat 0 (.ints .i64 gv10)⟩, ⟨false, .flat 0 (.ints .i64 gv11)⟩]) av0 bv1 gv4 gv5 gv8 gv9 gv10 gv11 ((laws_eqInt64SS_v2.k0 N K gv2 gv3 gv4 gv5 gv6 gv7 gv8 gv9 gv10 gv11) (.exit 0) (laws_eqInt64SS_v2.sx0_0 gv2 gv3 gv4 gv5 gv6 gv7 gv8 gv9 gv10 gv11)) m i12) := by
  intro m
  induction m with
  | zero => intros; rfl
  | succ m ih =>
    intro i12
    refine (laws_eqInt64SS_v2.b0_eq N K (fun s => xloop (xcode (E12 N) ents laws_eqInt64SS_v2.kp 4 N (cL (cK (cB (cA (cB (cB laws_eqInt64SS_v2.bd)))))) 0) laws_eqInt64SS_v2.kp 4 0 m s (laws_eqInt64SS_v2.k0 N K gv2 gv3 gv4 gv5 gv6 gv7 gv8 gv9 gv10 gv11)) av0 bv1 gv2 gv3 gv4 gv5 gv6 gv7 gv8 gv9 gv10 gv11 i12).trans ?_
    simp only [ih]
    kernel_rfl

theorem laws_eqInt64SS_v2.s_eq {ρ : Type} (N : Nat) (K : AV → Heap → Option ρ) (av0 : Nat) (bv1 : Nat) (gv2 : Nat) (gv3 : Nat) (gv4 : Nat → Nat) (gv5 : Nat → Nat) (gv6 : Nat) (gv7 : Nat) (gv8 : Nat → Nat) (gv9 : Nat → Nat) (gv10 : Nat → Int) (gv11 : Nat → Int) :
    xbody (E12 N) ents laws_eqInt64SS_v2.kp N Go.Proofs.Try.f16 laws_eqInt64SS_v2.bd [.slice true 0 0 av0 .unk 1, .slice true 1 0 bv1 .unk 1] [⟨false, .hdr 2 gv2 gv3 gv4 gv5 none⟩, ⟨false, .hdr 3 gv6 gv7 gv8 gv9 none⟩, ⟨false, .flat 0 (.ints .i64 gv10)⟩, ⟨false, .flat 0 (.ints .i64 gv11)⟩] K = (laws_eqInt64SS_v2.s N (fun d0 => K (.bool (d0)) [⟨false, .hdr 2 gv2 gv3 gv4 gv5 none⟩, ⟨false, .hdr 3 gv6 gv7 gv8 gv9 none⟩, ⟨false, .flat 0 (.ints .i64 gv10)⟩, ⟨false, .flat 0 (.ints .i64 gv11)⟩]) (fun i12 => xloop (xcode (E12 N) ents laws_eqInt64SS_v2.kp 4 N (cL (cK (cB (cA (cB (cB laws_eqInt64SS_v2.bd)))))) 0) laws_eqInt64SS_v2.kp 4 0 N (laws_eqInt64SS_v2.st0 av0 bv1 gv2 gv3 gv4 gv5 gv6 gv7 gv8 gv9 gv10 gv11 i12) (laws_eqInt64SS_v2.k0 N K gv2 gv3 gv4 gv5 gv6 gv7 gv8 gv9 gv10 gv11)) av0 bv1) := by kernel_rfl

theorem laws_eqInt64SS_v2.eq {ρ : Type} (N : Nat) (K : AV → Heap → Option ρ) (av0 : Nat) (bv1 : Nat) (gv2 : Nat) (gv3 : Nat) (gv4 : Nat → Nat) (gv5 : Nat → Nat) (gv6 : Nat) (gv7 : Nat) (gv8 : Nat → Nat) (gv9 : Nat → Nat) (gv10 : Nat → Int) (gv11 : Nat → Int) :
    xbody (E12 N) ents laws_eqInt64SS_v2.kp N Go.Proofs.Try.f16 laws_eqInt64SS_v2.bd [.slice true 0 0 av0 .unk 1, .slice true 1 0 bv1 .unk 1] [⟨false, .hdr 2 gv2 gv3 gv4 gv5 none⟩, ⟨false, .hdr 3 gv6 gv7 gv8 gv9 none⟩, ⟨false, .flat 0 (.ints .i64 gv10)⟩, ⟨false, .flat 0 (.ints .i64 gv11)⟩] K = (laws_eqInt64SS_v2 N (fun d0 => K (.bool (d0)) [⟨false, .hdr 2 gv2 gv3 gv4 gv5 none⟩, ⟨false, .hdr 3 gv6 gv7 gv8 gv9 none⟩, ⟨false, .flat 0 (.ints .i64 gv10)⟩, ⟨false, .flat 0 (.ints .i64 gv11)⟩]) av0 bv1 gv2 gv3 gv4 gv5 gv6 gv7 gv8 gv9 gv10 gv11) := by
  refine (laws_eqInt64SS_v2.s_eq N K av0 bv1 gv2 gv3 gv4 gv5 gv6 gv7 gv8 gv9 gv10 gv11).trans ?_
  simp only [laws_eqInt64SS_v2.l0_eq, laws_eqInt64SS_v2.a0_0_eq]
  kernel_rfl

noncomputable def laws_eqInt64SS.en (N : Nat) (ρ : Type) : List AV → Heap → (AV → Heap → Option ρ) → Option ρ
  | [.slice false 0 0 av0 .unk 1, .slice false 1 0 bv1 .unk 1], [⟨false, .hdr 2 gv2 gv3 gv4 gv5 none⟩, ⟨false, .hdr 3 gv6 gv7 gv8 gv9 none⟩, ⟨false, .flat 0 (.ints .i64 gv10)⟩, ⟨false, .flat 0 (.ints .i64 gv11)⟩], K => (laws_eqInt64SS N (fun d0 => K (.bool (d0)) [⟨false, .hdr 2 gv2 gv3 gv4 gv5 none⟩, ⟨false, .hdr 3 gv6 gv7 gv8 gv9 none⟩, ⟨false, .flat 0 (.ints .i64 gv10)⟩, ⟨false, .flat 0 (.ints .i64 gv11)⟩]) av0 bv1 gv2 gv3 gv4 gv5 gv6 gv7 gv8 gv9 gv10 gv11)
  | [.slice true 0 0 av0 .unk 1, .slice true 1 0 bv1 .unk 1], [⟨false, .hdr 2 gv2 gv3 gv4 gv5 none⟩, ⟨false, .hdr 3 gv6 gv7 gv8 gv9 none⟩, ⟨false, .flat 0 (.ints .i64 gv10)⟩, ⟨false, .flat 0 (.ints .i64 gv11)⟩], K => (laws_eqInt64SS_v2 N (fun d0 => K (.bool (d0)) [⟨false, .hdr 2 gv2 gv3 gv4 gv5 none⟩, ⟨false, .hdr 3 gv6 gv7 gv8 gv9 none⟩, ⟨false, .flat 0 (.ints .i64 gv10)⟩, ⟨false, .flat 0 (.ints .i64 gv11)⟩]) av0 bv1 gv2 gv3 gv4 gv5 gv6 gv7 gv8 gv9 gv10 gv11)
  | _, _, _ => none

theorem laws_eqInt64SS.en_ok (N : Nat) (hE : EnvOk (E12 N) ents) (ρ : Type) (args : List AV) (sh : Heap) (K : AV → Heap → Option ρ) (r : ρ) (h : laws_eqInt64SS.en N ρ args sh K = some r) : ∃ v sh', K v sh' = some r ∧ FnOk (E12 N).P 16 args sh v sh' := by
  unfold laws_eqInt64SS.en at h
  split at h
  · exact fn_ok hE (kp := laws_eqInt64SS.kp) (N := N) Go.Proofs.Try.func16 (c := laws_eqInt64SS.bd) (by kernel_rfl) ((laws_eqInt64SS.eq N _ _ _ _ _ _ _ _ _ _ _ _ _).trans h)
  · exact fn_ok hE (kp := laws_eqInt64SS_v2.kp) (N := N) Go.Proofs.Try.func16 (c := laws_eqInt64SS_v2.bd) (by kernel_rfl) ((laws_eqInt64SS_v2.eq N _ _ _ _ _ _ _ _ _ _ _ _ _).trans h)
  · cases h

noncomputable def E13 (N : Nat) : Env := (E12 N).add 16 (laws_eqInt64SS.en N)

theorem E13_ok (N : Nat) : EnvOk (E13 N) ents := Env.add_ok (E12_ok N) (laws_eqInt64SS.en_ok N (E12_ok N))

noncomputable def laws_markInt64S.kp : Keeps := ⟨[(0, [0, 1, 5], [], [])], [(0, [1], [], [])], []⟩

noncomputable def laws_markInt64S.bd : Code := bodyOf Go.Proofs.Try.f31

noncomputable def laws_markInt64S.fin {ρ : Type} (N : Nat) (K : AV → Heap → Option ρ) (gv2 : Nat) (gv3 : Nat → Int) : XE → St → Option ρ := finK (E13 N) laws_markInt64S.kp.fins Go.Proofs.Try.f31 [⟨true, .flat gv2 (.ints .i64 gv3)⟩] K

noncomputable def laws_markInt64S.k0 {ρ : Type} (N : Nat) (K : AV → Heap → Option ρ) (gv2 : Nat) (gv3 : Nat → Int) : XE → St → Option ρ := (blockK laws_markInt64S.kp 1 0 (seqK (xcode (E13 N) ents laws_markInt64S.kp 1 N (cB (cB laws_markInt64S.bd)) 0) (laws_markInt64S.fin N K gv2 gv3)))

theorem laws_markInt64S.k0_mix {ρ : Type} (N : Nat) (K : AV → Heap → Option ρ) (gv2 : Nat) (gv3 : Nat → Int) : mixK (laws_markInt64S.fin N K gv2 gv3 .ret) (laws_markInt64S.k0 N K gv2 gv3) = (laws_markInt64S.k0 N K gv2 gv3) := by
  funext e s; cases e <;> kernel_rfl

noncomputable def laws_markInt64S.st0 (av0 : Nat) (gv2 : Nat) (k4 : Int) (i5 : Int) (gv6 : Nat → Int) : St := ⟨sl 19 [(0, .slice false 0 0 av0 .unk 1), (1, .int .i64 (k4)), (5, .int .i64 (i5))], [⟨true, .flat gv2 (.ints .i64 gv6)⟩]⟩

noncomputable def laws_markInt64S.sx0_0 (gv2 : Nat) (ov7 : Int) (ov8 : Nat → Int) : St := ⟨sl 19 [(1, .int .i64 (ov7))], [⟨true, .flat gv2 (.ints .i64 ov8)⟩]⟩

theorem laws_markInt64S.b0_gen {ρ : Type} (N : Nat) (K : AV → Heap → Option ρ) (L0 : St → Option ρ) (kv : XE → St → Option ρ) (av0 : Nat) (gv2 : Nat) (gv3 : Nat → Int) (k4 : Int) (i5 : Int) (gv6 : Nat → Int) :
    xcode (E13 N) ents laws_markInt64S.kp 1 N (cL (cK (cB (cA (cB laws_markInt64S.bd))))) 0 (laws_markInt64S.st0 av0 gv2 k4 i5 gv6) (roundK laws_markInt64S.kp 1 0 L0 (mixK (laws_markInt64S.fin N K gv2 gv3 .ret) kv)) = (laws_markInt64S.b0 N (fun d0 d1 => K (.int .i64 (d0)) [⟨true, .flat gv2 (.ints .i64 d1)⟩]) (fun k4 i5 gv6 => L0 (laws_markInt64S.st0 av0 gv2 k4 i5 gv6)) (fun ov7 ov8 => kv (.exit 0) (laws_markInt64S.sx0_0 gv2 ov7 ov8)) av0 k4 i5 gv6) := by kernel_rfl

theorem laws_markInt64S.b0_eq {ρ : Type} (N : Nat) (K : AV → Heap → Option ρ) (L0 : St → Option ρ) (av0 : Nat) (gv2 : Nat) (gv3 : Nat → Int) (k4 : Int) (i5 : Int) (gv6 : Nat → Int) :
    xcode (E13 N) ents laws_markInt64S.kp 1 N (cL (cK (cB (cA (cB laws_markInt64S.bd))))) 0 (laws_markInt64S.st0 av0 gv2 k4 i5 gv6) (roundK laws_markInt64S.kp 1 0 L0 (laws_markInt64S.k0 N K gv2 gv3)) = (laws_markInt64S.b0 N (fun d0 d1 => K (.int .i64 (d0)) [⟨true, .flat gv2 (.ints .i64 d1)⟩]) (fun k4 i5 gv6 => L0 (laws_markInt64S.st0 av0 gv2 k4 i5 gv6)) (fun ov7 ov8 => (laws_markInt64S.k0 N K gv2 gv3) (.exit 0) (laws_markInt64S.sx0_0 gv2 ov7 ov8)) av0 k4 i5 gv6) := by
  have h := laws_markInt64S.b0_gen N K L0 (laws_markInt64S.k0 N K gv2 gv3) av0 gv2 gv3 k4 i5 gv6
  rw [laws_markInt64S.k0_mix] at h
  exact h

theorem laws_markInt64S.a0_0_eq {ρ : Type} (N : Nat) (K : AV → Heap → Option ρ) (gv2 : Nat) (gv3 : Nat → Int) (ov7 : Int) (ov8 : Nat → Int) :
    (laws_markInt64S.k0 N K gv2 gv3) (.exit 0) (laws_markInt64S.sx0_0 gv2 ov7 ov8) = (laws_markInt64S.a0_0 N (fun d0 d1 => K (.int .i64 (d0)) [⟨true, .flat gv2 (.ints .i64 d1)⟩]) ov7 ov8) := by kernel_rfl

theorem laws_markInt64S.l0_eq {ρ : Type} (N : Nat) (K : AV → Heap → Option ρ) (av0 : Nat) (gv2 : Nat) (gv3 : Nat → Int) :
    ∀ (m : Nat) (k4 : Int) (i5 : Int) (gv6 : Nat → Int), xloop (xcode (E13 N) ents laws_markInt64S.kp 1 N (cL (cK (cB (cA (cB laws_markInt64S.bd))))) 0) laws_markInt64S.kp 1 0 m (laws_markInt64S.st0 av0 gv2 k4 i5 gv6) (laws_markInt64S.k0 N K gv2 gv3) = (laws_markInt64S.l0 N (fun d0 d1 => K (.int .i64 (d0)) [⟨true, .flat gv2 (.ints .i64 d1)⟩]) av0 (fun ov7 ov8 => (laws_markInt64S.k0 N K gv2 gv3) (.exit 0) (laws_markInt64S.sx0_0 gv2 ov7 ov8)) m k4 i5 gv6) := by
  intro m
  induction m with
  | zero => intros; rfl
  | succ m ih =>
    intro k4 i5 gv6
    refine (laws_markInt64S.b0_eq N K (fun s => xloop (xcode (E13 N) ents laws_markInt64S.kp 1 N (cL (cK (cB (cA (cB laws_markInt64S.bd))))) 0) laws_markInt64S.kp 1 0 m s (laws_markInt64S.k0 N K gv2 gv3)) av0 gv2 gv3 k4 i5 gv6).trans ?_
    simp only [ih]
    kernel_rfl

theorem laws_markInt64S.s_eq {ρ : Type} (N : Nat) (K : AV → Heap → Option ρ) (av0 : Nat) (k1 : Int) (gv2 : Nat) (gv3 : Nat → Int) :
    xbody (E13 N) ents laws_markInt64S.kp N Go.Proofs.Try.f31 laws_markInt64S.bd [.slice false 0 0 av0 .unk 1, .int .i64 (k1)] [⟨true, .flat gv2 (.ints .i64 gv3)⟩] K = (laws_markInt64S.s N (fun d0 d1 => K (.int .i64 (d0)) [⟨true, .flat gv2 (.ints .i64 d1)⟩]) (fun k4 i5 gv6 => xloop (xcode (E13 N) ents laws_markInt64S.kp 1 N (cL (cK (cB (cA (cB laws_markInt64S.bd))))) 0) laws_markInt64S.kp 1 0 N (laws_markInt64S.st0 av0 gv2 k4 i5 gv6) (laws_markInt64S.k0 N K gv2 gv3)) k1 gv3) := by kernel_rfl

theorem laws_markInt64S.eq {ρ : Type} (N : Nat) (K : AV → Heap → Option ρ) (av0 : Nat) (k1 : Int) (gv2 : Nat) (gv3 : Nat → Int) :
    xbody (E13 N) ents laws_markInt64S.kp N Go.Proofs.Try.f31 laws_markInt64S.bd [.slice false 0 0 av0 .unk 1, .int .i64 (k1)] [⟨true, .flat gv2 (.ints .i64 gv3)⟩] K = (laws_markInt64S N (fun d0 d1 => K (.int .i64 (d0)) [⟨true, .flat gv2 (.ints .i64 d1)⟩]) av0 k1 gv2 gv3) := by
  refine (laws_markInt64S.s_eq N K av0 k1 gv2 gv3).trans ?_
  simp only [laws_markInt64S.l0_eq, laws_markInt64S.a0_0_eq]
  kernel_rfl

noncomputable def laws_markInt64S.en (N : Nat) (ρ : Type) : List AV → Heap → (AV → Heap → Option ρ) → Option ρ
  | [.slice false 0 0 av0 .unk 1, .int .i64 (k1)], [⟨true, .flat gv2 (.ints .i64 gv3)⟩], K => (laws_markInt64S N (fun d0 d1 => K (.int .i64 (d0)) [⟨true, .flat gv2 (.ints .i64 d1)⟩]) av0 k1 gv2 gv3)
  | _, _, _ => none

theorem laws_markInt64S.en_ok (N : Nat) (hE : EnvOk (E13 N) ents) (ρ : Type) (args : List AV) (sh : Heap) (K : AV → Heap → Option ρ) (r : ρ) (h : laws_markInt64S.en N ρ args sh K = some r) : ∃ v sh', K v sh' = some r ∧ FnOk (E13 N).P 31 args sh v sh' := by
  unfold laws_markInt64S.en at h
  split at h
  · exact fn_ok hE (kp := laws_markInt64S.kp) (N := N) Go.Proofs.Try.func31 (c := laws_markInt64S.bd) (by kernel_rfl) ((laws_markInt64S.eq N _ _ _ _ _).trans h)
  · cases h

noncomputable def E14 (N : Nat) : Env := (E13 N).add 31 (laws_markInt64S.en N)

theorem E14_ok (N : Nat) : EnvOk (E14 N) ents := Env.add_ok (E13_ok N) (laws_markInt64S.en_ok N (E13_ok N))

noncomputable def laws_markInt64SS.kp : Keeps := ⟨[(0, [0, 1, 5], [], [])], [(0, [1], [], [])], []⟩

noncomputable def laws_markInt64SS.bd : Code := bodyOf Go.Proofs.Try.f17

noncomputable def laws_markInt64SS.fin {ρ : Type} (N : Nat) (K : AV → Heap → Option ρ) (gv2 : Nat) (gv3 : Nat) (gv4 : Nat → Nat) (gv5 : Nat → Nat) (gv6 : Nat → Int) : XE → St → Option ρ := finK (E14 N) laws_markInt64SS.kp.fins Go.Proofs.Try.f17 [⟨false, .hdr 1 gv2 gv3 gv4 gv5 none⟩, ⟨true, .flat 0 (.ints .i64 gv6)⟩] K

noncomputable def laws_markInt64SS.k0 {ρ : Type} (N : Nat) (K : AV → Heap → Option ρ) (gv2 : Nat) (gv3 : Nat) (gv4 : Nat → Nat) (gv5 : Nat → Nat) (gv6 : Nat → Int) : XE → St → Option ρ := (blockK laws_markInt64SS.kp 2 0 (seqK (xcode (E14 N) ents laws_markInt64SS.kp 2 N (cB (cB laws_markInt64SS.bd)) 0) (laws_markInt64SS.fin N K gv2 gv3 gv4 gv5 gv6)))

theorem laws_markInt64SS.k0_mix {ρ : Type} (N : Nat) (K : AV → Heap → Option ρ) (gv2 : Nat) (gv3 : Nat) (gv4 : Nat → Nat) (gv5 : Nat → Nat) (gv6 : Nat → Int) : mixK (laws_markInt64SS.fin N K gv2 gv3 gv4 gv5 gv6 .ret) (laws_markInt64SS.k0 N K gv2 gv3 gv4 gv5 gv6) = (laws_markInt64SS.k0 N K gv2 gv3 gv4 gv5 gv6) := by
  funext e s; cases e <;> kernel_rfl

noncomputable def laws_markInt64SS.st0 (av0 : Nat) (gv2 : Nat) (gv3 : Nat) (gv4 : Nat → Nat) (gv5 : Nat → Nat) (k7 : Int) (i8 : Int) (gv9 : Nat → Int) : St := ⟨sl 19 [(0, .slice false 0 0 av0 .unk 1), (1, .int .i64 (k7)), (5, .int .i64 (i8))], [⟨false, .hdr 1 gv2 gv3 gv4 gv5 none⟩, ⟨true, .flat 0 (.ints .i64 gv9)⟩]⟩

noncomputable def laws_markInt64SS.sx0_0 (gv2 : Nat) (gv3 : Nat) (gv4 : Nat → Nat) (gv5 : Nat → Nat) (ov12 : Int) (ov13 : Nat → Int) : St := ⟨sl 19 [(1, .int .i64 (ov12))], [⟨false, .hdr 1 gv2 gv3 gv4 gv5 none⟩, ⟨true, .flat 0 (.ints .i64 ov13)⟩]⟩

theorem laws_markInt64SS.b0_gen {ρ : Type} (N : Nat) (K : AV → Heap → Option ρ) (L0 : St → Option ρ) (kv : XE → St → Option ρ) (av0 : Nat) (gv2 : Nat) (gv3 : Nat) (gv4 : Nat → Nat) (gv5 : Nat → Nat) (gv6 : Nat → Int) (k7 : Int) (i8 : Int) (gv9 : Nat → Int) :
    xcode (E14 N) ents laws_markInt64SS.kp 2 N (cL (cK (cB (cA (cB laws_markInt64SS.bd))))) 0 (laws_markInt64SS.st0 av0 gv2 gv3 gv4 gv5 k7 i8 gv9) (roundK laws_markInt64SS.kp 2 0 L0 (mixK (laws_markInt64SS.fin N K gv2 gv3 gv4 gv5 gv6 .ret) kv)) = (laws_markInt64SS.b0 N (fun d0 d1 => K (.int .i64 (d0)) [⟨false, .hdr 1 gv2 gv3 gv4 gv5 none⟩, ⟨true, .flat 0 (.ints .i64 d1)⟩]) (fun k7 i8 gv9 => L0 (laws_markInt64SS.st0 av0 gv2 gv3 gv4 gv5 k7 i8 gv9)) (fun ov12 ov13 => kv (.exit 0) (laws_markInt64SS.sx0_0 gv2 gv3 gv4 gv5 ov12 ov13)) av0 gv4 gv5 k7 i8 gv9) := by kernel_rfl

theorem laws_markInt64SS.b0_eq {ρ : Type} (N : Nat) (K : AV → Heap → Option ρ) (L0 : St → Option ρ) (av0 : Nat) (gv2 : Nat) (gv3 : Nat) (gv4 : Nat → Nat) (gv5 : Nat → Nat) (gv6 : Nat → Int) (k7 : Int) (i8 : Int) (gv9 : Nat → Int) :
    xcode (E14 N) ents laws_markInt64SS.kp 2 N (cL (cK (cB (cA (cB laws_markInt64SS.bd))))) 0 (laws_markInt64SS.st0 av0 gv2 gv3 gv4 gv5 k7 i8 gv9) (roundK laws_markInt64SS.kp 2 0 L0 (laws_markInt64SS.k0 N K gv2 gv3 gv4 gv5 gv6)) = (laws_markInt64SS.b0 N (fun d0 d1 => K (.int .i64 (d0)) [⟨false, .hdr 1 gv2 gv3 gv4 gv5 none⟩, ⟨true, .flat 0 (.ints .i64 d1)⟩]) (fun k7 i8 gv9 => L0 (laws_markInt64SS.st0 av0 gv2 gv3 gv4 gv5 k7 i8 gv9)) (fun ov12 ov13 => (laws_markInt64SS.k0 N K gv2 gv3 gv4 gv5 gv6) (.exit 0) (laws_markInt64SS.sx0_0 gv2 gv3 gv4 gv5 ov12 ov13)) av0 gv4 gv5 k7 i8 gv9) := by
  have h := laws_markInt64SS.b0_gen N K L0 (laws_markInt64SS.k0 N K gv2 gv3 gv4 gv5 gv6) av0 gv2 gv3 gv4 gv5 gv6 k7 i8 gv9
  rw [laws_markInt64SS.k0_mix] at h
  exact h

theorem laws_markInt64SS.a0_0_eq {ρ : Type} (N : Nat) (K : AV → Heap → Option ρ) (gv2 : Nat) (gv3 : Nat) (gv4 : Nat → Nat) (gv5 : Nat → Nat) (gv6 : Nat → Int) (ov12 : Int) (ov13 : Nat → Int) :
    (laws_markInt64SS.k0 N K gv2 gv3 gv4 gv5 gv6) (.exit 0) (laws_markInt64SS.sx0_0 gv2 gv3 gv4 gv5 ov12 ov13) = (laws_markInt64SS.a0_0 N (fun d0 d1 => K (.int .i64 (d0)) [⟨false, .hdr 1 gv2 gv3 gv4 gv5 none⟩, ⟨true, .flat 0 (.ints .i64 d1)⟩]) ov12 ov13) := by kernel_rfl

theorem laws_markInt64SS.l0_eq {ρ : Type} (N : Nat) (K : AV → Heap → Option ρ) (av0 : Nat) (gv2 : Nat) (gv3 : Nat) (gv4 : Nat → Nat) (gv5 : Nat → Nat) (gv6 : Nat → Int) :
    ∀ (m : Nat) (k7 : Int) (i8 : Int) (gv9 : Nat → Int), xloop (xcode (E14 N) ents laws_markInt64SS.kp 2 N (cL (cK (cB (cA (cB laws_markInt64SS.bd))))) 0) laws_markInt64SS.kp 2 0 m (laws_markInt64SS.st0 av0 gv2 gv3 gv4 gv5 k7 i8 gv9) (laws_markInt64SS.k0 N K gv2 gv3 gv4 gv5 gv6) = (laws_markInt64SS.l0 N (fun d0 d1 => K (.int .i64 (d0)) [⟨false, .hdr 1 gv2 gv3 gv4 gv5 none⟩, ⟨true, .flat 0 (.ints .i64 d1)⟩]) av0 gv4 gv5 (fun ov12 ov13 => (laws_markInt64SS.k0 N K gv2 gv3 gv4 gv5 gv6) (.exit 0) (laws_markInt64SS.sx0_0 gv2 gv3 gv4 gv5 ov12 ov13)) m k7 i8 gv9) := by
  intro m
  induction m with
  | zero => intros; rfl
  | succ m ih =>
    intro k7 i8 gv9
    refine (laws_markInt64SS.b0_eq N K (fun s => xloop (xcode (E14 N) ents laws_markInt64SS.kp 2 N (cL (cK (cB (cA (cB laws_markInt64SS.bd))))) 0) laws_markInt64SS.kp 2 0 m s (laws_markInt64SS.k0 N K gv2 gv3 gv4 gv5 gv6)) av0 gv2 gv3 gv4 gv5 gv6 k7 i8 gv9).trans ?_
    simp only [ih]
    kernel_rfl

theorem laws_markInt64SS.s_eq {ρ : Type} (N : Nat) (K : AV → Heap → Option ρ) (av0 : Nat) (k1 : Int) (gv2 : Nat) (gv3 : Nat) (gv4 : Nat → Nat) (gv5 : Nat → Nat) (gv6 : Nat → Int) :
    xbody (E14 N) ents laws_markInt64SS.kp N Go.Proofs.Try.f17 laws_markInt64SS.bd [.slice false 0 0 av0 .unk 1, .int .i64 (k1)] [⟨false, .hdr 1 gv2 gv3 gv4 gv5 none⟩, ⟨true, .flat 0 (.ints .i64 gv6)⟩] K = (laws_markInt64SS.s N (fun d0 d1 => K (.int .i64 (d0)) [⟨false, .hdr 1 gv2 gv3 gv4 gv5 none⟩, ⟨true, .flat 0 (.ints .i64 d1)⟩]) (fun k7 i8 gv9 => xloop (xcode (E14 N) ents laws_markInt64SS.kp 2 N (cL (cK (cB (cA (cB laws_markInt64SS.bd))))) 0) laws_markInt64SS.kp 2 0 N (laws_markInt64SS.st0 av0 gv2 gv3 gv4 gv5 k7 i8 gv9) (laws_markInt64SS.k0 N K gv2 gv3 gv4 gv5 gv6)) k1 gv6) := by kernel_rfl

theorem laws_markInt64SS.eq {ρ : Type} (N : Nat) (K : AV → Heap → Option ρ) (av0 : Nat) (k1 : Int) (gv2 : Nat) (gv3 : Nat) (gv4 : Nat → Nat) (gv5 : Nat → Nat) (gv6 : Nat → Int) :
    xbody (E14 N) ents laws_markInt64SS.kp N Go.Proofs.Try.f17 laws_markInt64SS.bd [.slice false 0 0 av0 .unk 1, .int .i64 (k1)] [⟨false, .hdr 1 gv2 gv3 gv4 gv5 none⟩, ⟨true, .flat 0 (.ints .i64 gv6)⟩] K = (laws_markInt64SS N (fun d0 d1 => K (.int .i64 (d0)) [⟨false, .hdr 1 gv2 gv3 gv4 gv5 none⟩, ⟨true, .flat 0 (.ints .i64 d1)⟩]) av0 k1 gv2 gv3 gv4 gv5 gv6) := by
  refine (laws_markInt64SS.s_eq N K av0 k1 gv2 gv3 gv4 gv5 gv6).trans ?_
  simp only [laws_markInt64SS.l0_eq, laws_markInt64SS.a0_0_eq]
  kernel_rfl
end Go.Proofs.Ytdlhegdigcdffaa.H
