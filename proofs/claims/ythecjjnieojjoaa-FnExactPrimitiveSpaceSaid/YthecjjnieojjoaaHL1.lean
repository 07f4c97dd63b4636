import Derived.Test.YthecjjnieojjoaaHL0
namespace Go.Proofs.Ythecjjnieojjoaa.H
set_option linter.unusedVariables false
set_option linter.unusedSimpArgs false
noncomputable section
open Go Go.RowKit Go.Proofs.Ythecjjnieojjoaa.Hy
set_option maxRecDepth 100000
theorem E22_ok (N : Nat) : EnvOk (E22 N) ents := Env.add_ok (E21_ok N) (spec_l02Outer.en_ok N (E21_ok N))
def spec_l02Group.kp : Keeps := ⟨[], [], []⟩
def spec_l02Group.bd : Code := bodyOf Try.f73
def spec_l02Group.fin {ρ : Type} (N : Nat) (K : AV → Heap → Option ρ) : XE → St → Option ρ := finK (E22 N) spec_l02Group.kp.fins Try.f73 [] K
theorem spec_l02Group.eq {ρ : Type} (N : Nat) (K : AV → Heap → Option ρ) (c0 : Nat → Int) (c1 : Nat → Int) (v2 : Nat → Int) :
    xbody (E22 N) ents spec_l02Group.kp N Try.f73 spec_l02Group.bd [.agg [⟨.i64, 2, c0⟩, ⟨.u8, 520, c1⟩], .agg [⟨.u8, 8, v2⟩]] [] K = (spec_l02Group N (fun d0 => K (.bool (d0)) []) c0 c1 v2) := by kernel_rfl
def spec_l02Group.en (N : Nat) (ρ : Type) : List AV → Heap → (AV → Heap → Option ρ) → Option ρ
  | [.agg [⟨.i64, 2, c0⟩, ⟨.u8, 520, c1⟩], .agg [⟨.u8, 8, v2⟩]], [], K => (spec_l02Group N (fun d0 => K (.bool (d0)) []) c0 c1 v2)
  | _, _, _ => none
theorem spec_l02Group.en_ok (N : Nat) (hE : EnvOk (E22 N) ents) (ρ : Type) (args : List AV) (sh : Heap) (K : AV → Heap → Option ρ) (r : ρ) (h : spec_l02Group.en N ρ args sh K = some r) : ∃ v sh', K v sh' = some r ∧ FnOk (E22 N).P 73 args sh v sh' := by
  unfold spec_l02Group.en at h
  split at h
  · exact fn_ok hE (kp := spec_l02Group.kp) (N := N) Try.func73 (c := spec_l02Group.bd) (by kernel_rfl) ((spec_l02Group.eq N _ _ _ _).trans h)
  · cases h
def E23 (N : Nat) : Env := (E22 N).add 73 (spec_l02Group.en N)
theorem E23_ok (N : Nat) : EnvOk (E23 N) ents := Env.add_ok (E22_ok N) (spec_l02Group.en_ok N (E22_ok N))
def spec_l01First.kp : Keeps := ⟨[(0, [1, 3], [], [])], [(0, [3], [], [])], []⟩
def spec_l01First.bd : Code := bodyOf Try.f139
def spec_l01First.fin {ρ : Type} (N : Nat) (K : AV → Heap → Option ρ) : XE → St → Option ρ := finK (E23 N) spec_l01First.kp.fins Try.f139 [] K
def spec_l01First.k0 {ρ : Type} (N : Nat) (K : AV → Heap → Option ρ) : XE → St → Option ρ := (blockK spec_l01First.kp 0 0 (seqK (xcode (E23 N) ents spec_l01First.kp 0 N (cB (cB (cB spec_l01First.bd))) 0) (spec_l01First.fin N K)))
theorem spec_l01First.k0_mix {ρ : Type} (N : Nat) (K : AV → Heap → Option ρ) : mixK (spec_l01First.fin N K .ret) (spec_l01First.k0 N K) = (spec_l01First.k0 N K) := by
  funext e s; cases e <;> kernel_rfl
def spec_l01First.st0 (v0 : Nat → Int) (at1 : Int) : St := ⟨sl 15 [(1, .sptr [(0, 8)]), (3, .int .i64 (at1))], [⟨true, .flat 8 (.ints .u8 v0)⟩]⟩
def spec_l01First.sx0_0 (ov2 : Int) : St := ⟨sl 15 [(3, .int .i64 (ov2))], []⟩
theorem spec_l01First.b0_gen {ρ : Type} (N : Nat) (K : AV → Heap → Option ρ) (L0 : St → Option ρ) (kv : XE → St → Option ρ) (v0 : Nat → Int) (at1 : Int) :
    xcode (E23 N) ents spec_l01First.kp 0 N (cL (cK (cA (cB (cB spec_l01First.bd))))) 0 (spec_l01First.st0 v0 at1) (roundK spec_l01First.kp 0 0 L0 (mixK (spec_l01First.fin N K .ret) kv)) = (spec_l01First.b0 N (fun d0 => K (.int .i64 (d0)) []) (fun at1 => L0 (spec_l01First.st0 v0 at1)) (fun ov2 => kv (.exit 0) (spec_l01First.sx0_0 ov2)) v0 at1) := by kernel_rfl
theorem spec_l01First.b0_eq {ρ : Type} (N : Nat) (K : AV → Heap → Option ρ) (L0 : St → Option ρ) (v0 : Nat → Int) (at1 : Int) :
    xcode (E23 N) ents spec_l01First.kp 0 N (cL (cK (cA (cB (cB spec_l01First.bd))))) 0 (spec_l01First.st0 v0 at1) (roundK spec_l01First.kp 0 0 L0 (spec_l01First.k0 N K)) = (spec_l01First.b0 N (fun d0 => K (.int .i64 (d0)) []) (fun at1 => L0 (spec_l01First.st0 v0 at1)) (fun ov2 => (spec_l01First.k0 N K) (.exit 0) (spec_l01First.sx0_0 ov2)) v0 at1) := by
  have h := spec_l01First.b0_gen N K L0 (spec_l01First.k0 N K) v0 at1
  rw [spec_l01First.k0_mix] at h
  exact h
theorem spec_l01First.a0_0_eq {ρ : Type} (N : Nat) (K : AV → Heap → Option ρ) (ov2 : Int) :
    (spec_l01First.k0 N K) (.exit 0) (spec_l01First.sx0_0 ov2) = (spec_l01First.a0_0 N (fun d0 => K (.int .i64 (d0)) []) ov2) := by kernel_rfl
theorem spec_l01First.l0_eq {ρ : Type} (N : Nat) (K : AV → Heap → Option ρ) (v0 : Nat → Int) :
    ∀ (m : Nat) (at1 : Int), xloop (xcode (E23 N) ents spec_l01First.kp 0 N (cL (cK (cA (cB (cB spec_l01First.bd))))) 0) spec_l01First.kp 0 0 m (spec_l01First.st0 v0 at1) (spec_l01First.k0 N K) = (spec_l01First.l0 N (fun d0 => K (.int .i64 (d0)) []) v0 (fun ov2 => (spec_l01First.k0 N K) (.exit 0) (spec_l01First.sx0_0 ov2)) m at1) := by
  intro m
  induction m with
  | zero => intros; rfl
  | succ m ih =>
    intro at1
    refine (spec_l01First.b0_eq N K (fun s => xloop (xcode (E23 N) ents spec_l01First.kp 0 N (cL (cK (cA (cB (cB spec_l01First.bd))))) 0) spec_l01First.kp 0 0 m s (spec_l01First.k0 N K)) v0 at1).trans ?_
    simp only [ih]
    kernel_rfl
theorem spec_l01First.s_eq {ρ : Type} (N : Nat) (K : AV → Heap → Option ρ) (v0 : Nat → Int) :
    xbody (E23 N) ents spec_l01First.kp N Try.f139 spec_l01First.bd [.agg [⟨.u8, 8, v0⟩]] [] K = (spec_l01First.s N (fun d0 => K (.int .i64 (d0)) []) (fun at1 => xloop (xcode (E23 N) ents spec_l01First.kp 0 N (cL (cK (cA (cB (cB spec_l01First.bd))))) 0) spec_l01First.kp 0 0 N (spec_l01First.st0 v0 at1) (spec_l01First.k0 N K))) := by kernel_rfl
theorem spec_l01First.eq {ρ : Type} (N : Nat) (K : AV → Heap → Option ρ) (v0 : Nat → Int) :
    xbody (E23 N) ents spec_l01First.kp N Try.f139 spec_l01First.bd [.agg [⟨.u8, 8, v0⟩]] [] K = (spec_l01First N (fun d0 => K (.int .i64 (d0)) []) v0) := by
  refine (spec_l01First.s_eq N K v0).trans ?_
  simp only [spec_l01First.l0_eq, spec_l01First.a0_0_eq]
  kernel_rfl
def spec_l01First.en (N : Nat) (ρ : Type) : List AV → Heap → (AV → Heap → Option ρ) → Option ρ
  | [.agg [⟨.u8, 8, v0⟩]], [], K => (spec_l01First N (fun d0 => K (.int .i64 (d0)) []) v0)
  | _, _, _ => none
theorem spec_l01First.en_ok (N : Nat) (hE : EnvOk (E23 N) ents) (ρ : Type) (args : List AV) (sh : Heap) (K : AV → Heap → Option ρ) (r : ρ) (h : spec_l01First.en N ρ args sh K = some r) : ∃ v sh', K v sh' = some r ∧ FnOk (E23 N).P 139 args sh v sh' := by
  unfold spec_l01First.en at h
  split at h
  · exact fn_ok hE (kp := spec_l01First.kp) (N := N) Try.func139 (c := spec_l01First.bd) (by kernel_rfl) ((spec_l01First.eq N _ _).trans h)
  · cases h
def E24 (N : Nat) : Env := (E23 N).add 139 (spec_l01First.en N)
theorem E24_ok (N : Nat) : EnvOk (E24 N) ents := Env.add_ok (E23_ok N) (spec_l01First.en_ok N (E23_ok N))
def spec_l01Zero.kp : Keeps := ⟨[], [], []⟩
def spec_l01Zero.bd : Code := bodyOf Try.f116
def spec_l01Zero.fin {ρ : Type} (N : Nat) (K : AV → Heap → Option ρ) : XE → St → Option ρ := finK (E24 N) spec_l01Zero.kp.fins Try.f116 [] K
theorem spec_l01Zero.eq {ρ : Type} (N : Nat) (K : AV → Heap → Option ρ) (v0 : Nat → Int) :
    xbody (E24 N) ents spec_l01Zero.kp N Try.f116 spec_l01Zero.bd [.agg [⟨.u8, 8, v0⟩]] [] K = (spec_l01Zero N (fun d0 => K (.bool (d0)) []) v0) := by kernel_rfl
def spec_l01Zero.en (N : Nat) (ρ : Type) : List AV → Heap → (AV → Heap → Option ρ) → Option ρ
  | [.agg [⟨.u8, 8, v0⟩]], [], K => (spec_l01Zero N (fun d0 => K (.bool (d0)) []) v0)
  | _, _, _ => none
theorem spec_l01Zero.en_ok (N : Nat) (hE : EnvOk (E24 N) ents) (ρ : Type) (args : List AV) (sh : Heap) (K : AV → Heap → Option ρ) (r : ρ) (h : spec_l01Zero.en N ρ args sh K = some r) : ∃ v sh', K v sh' = some r ∧ FnOk (E24 N).P 116 args sh v sh' := by
  unfold spec_l01Zero.en at h
  split at h
  · exact fn_ok hE (kp := spec_l01Zero.kp) (N := N) Try.func116 (c := spec_l01Zero.bd) (by kernel_rfl) ((spec_l01Zero.eq N _ _).trans h)
  · cases h
def E25 (N : Nat) : Env := (E24 N).add 116 (spec_l01Zero.en N)
theorem E25_ok (N : Nat) : EnvOk (E25 N) ents := Env.add_ok (E24_ok N) (spec_l01Zero.en_ok N (E24_ok N))
def spec_l01Inverse.kp : Keeps := ⟨[(0, [0, 1, 5], [], [])], [(0, [], [], [])], []⟩
def spec_l01Inverse.bd : Code := bodyOf Try.f140
def spec_l01Inverse.fin {ρ : Type} (N : Nat) (K : AV → Heap → Option ρ) : XE → St → Option ρ := finK (E25 N) spec_l01Inverse.kp.fins Try.f140 [] K
def spec_l01Inverse.k0 {ρ : Type} (N : Nat) (K : AV → Heap → Option ρ) : XE → St → Option ρ := (blockK spec_l01Inverse.kp 0 0 (seqK (xcode (E25 N) ents spec_l01Inverse.kp 0 N (cB (cB spec_l01Inverse.bd)) 0) (spec_l01Inverse.fin N K)))
theorem spec_l01Inverse.k0_mix {ρ : Type} (N : Nat) (K : AV → Heap → Option ρ) : mixK (spec_l01Inverse.fin N K .ret) (spec_l01Inverse.k0 N K) = (spec_l01Inverse.k0 N K) := by
  funext e s; cases e <;> kernel_rfl
def spec_l01Inverse.st0 (p0 : Int) (x1 : Int) (k2 : Int) : St := ⟨sl 20 [(0, .int .i64 (p0)), (1, .int .u8 (x1)), (5, .int .i64 (k2))], []⟩
def spec_l01Inverse.sx0_0 : St := ⟨sl 20 [], []⟩
theorem spec_l01Inverse.b0_gen {ρ : Type} (N : Nat) (K : AV → Heap → Option ρ) (L0 : St → Option ρ) (kv : XE → St → Option ρ) (p0 : Int) (x1 : Int) (k2 : Int) :
    xcode (E25 N) ents spec_l01Inverse.kp 0 N (cL (cK (cB (cA (cB spec_l01Inverse.bd))))) 0 (spec_l01Inverse.st0 p0 x1 k2) (roundK spec_l01Inverse.kp 0 0 L0 (mixK (spec_l01Inverse.fin N K .ret) kv)) = (spec_l01Inverse.b0 N (fun d0 => K (.int .u8 (d0)) []) (fun k2 => L0 (spec_l01Inverse.st0 p0 x1 k2)) (kv (.exit 0) (spec_l01Inverse.sx0_0)) p0 x1 k2) := by kernel_rfl
theorem spec_l01Inverse.b0_eq {ρ : Type} (N : Nat) (K : AV → Heap → Option ρ) (L0 : St → Option ρ) (p0 : Int) (x1 : Int) (k2 : Int) :
    xcode (E25 N) ents spec_l01Inverse.kp 0 N (cL (cK (cB (cA (cB spec_l01Inverse.bd))))) 0 (spec_l01Inverse.st0 p0 x1 k2) (roundK spec_l01Inverse.kp 0 0 L0 (spec_l01Inverse.k0 N K)) = (spec_l01Inverse.b0 N (fun d0 => K (.int .u8 (d0)) []) (fun k2 => L0 (spec_l01Inverse.st0 p0 x1 k2)) ((spec_l01Inverse.k0 N K) (.exit 0) (spec_l01Inverse.sx0_0)) p0 x1 k2) := by
  have h := spec_l01Inverse.b0_gen N K L0 (spec_l01Inverse.k0 N K) p0 x1 k2
  rw [spec_l01Inverse.k0_mix] at h
  exact h
theorem spec_l01Inverse.a0_0_eq {ρ : Type} (N : Nat) (K : AV → Heap → Option ρ) :
    (spec_l01Inverse.k0 N K) (.exit 0) (spec_l01Inverse.sx0_0) = (spec_l01Inverse.a0_0 N (fun d0 => K (.int .u8 (d0)) [])) := by kernel_rfl
theorem spec_l01Inverse.l0_eq {ρ : Type} (N : Nat) (K : AV → Heap → Option ρ) (p0 : Int) (x1 : Int) :
    ∀ (m : Nat) (k2 : Int), xloop (xcode (E25 N) ents spec_l01Inverse.kp 0 N (cL (cK (cB (cA (cB spec_l01Inverse.bd))))) 0) spec_l01Inverse.kp 0 0 m (spec_l01Inverse.st0 p0 x1 k2) (spec_l01Inverse.k0 N K) = (spec_l01Inverse.l0 N (fun d0 => K (.int .u8 (d0)) []) p0 x1 ((spec_l01Inverse.k0 N K) (.exit 0) (spec_l01Inverse.sx0_0)) m k2) := by
  intro m
  induction m with
  | zero => intros; rfl
  | succ m ih =>
    intro k2
    refine (spec_l01Inverse.b0_eq N K (fun s => xloop (xcode (E25 N) ents spec_l01Inverse.kp 0 N (cL (cK (cB (cA (cB spec_l01Inverse.bd))))) 0) spec_l01Inverse.kp 0 0 m s (spec_l01Inverse.k0 N K)) p0 x1 k2).trans ?_
    simp only [ih]
    kernel_rfl
theorem spec_l01Inverse.s_eq {ρ : Type} (N : Nat) (K : AV → Heap → Option ρ) (p0 : Int) (x1 : Int) :
    xbody (E25 N) ents spec_l01Inverse.kp N Try.f140 spec_l01Inverse.bd [.int .i64 (p0), .int .u8 (x1)] [] K = (spec_l01Inverse.s N (fun d0 => K (.int .u8 (d0)) []) (fun k2 => xloop (xcode (E25 N) ents spec_l01Inverse.kp 0 N (cL (cK (cB (cA (cB spec_l01Inverse.bd))))) 0) spec_l01Inverse.kp 0 0 N (spec_l01Inverse.st0 p0 x1 k2) (spec_l01Inverse.k0 N K))) := by kernel_rfl
theorem spec_l01Inverse.eq {ρ : Type} (N : Nat) (K : AV → Heap → Option ρ) (p0 : Int) (x1 : Int) :
    xbody (E25 N) ents spec_l01Inverse.kp N Try.f140 spec_l01Inverse.bd [.int .i64 (p0), .int .u8 (x1)] [] K = (spec_l01Inverse N (fun d0 => K (.int .u8 (d0)) []) p0 x1) := by
  refine (spec_l01Inverse.s_eq N K p0 x1).trans ?_
  simp only [spec_l01Inverse.l0_eq, spec_l01Inverse.a0_0_eq]
  kernel_rfl
def spec_l01Inverse.en (N : Nat) (ρ : Type) : List AV → Heap → (AV → Heap → Option ρ) → Option ρ
  | [.int .i64 (p0), .int .u8 (x1)], [], K => (spec_l01Inverse N (fun d0 => K (.int .u8 (d0)) []) p0 x1)
  | _, _, _ => none
theorem spec_l01Inverse.en_ok (N : Nat) (hE : EnvOk (E25 N) ents) (ρ : Type) (args : List AV) (sh : Heap) (K : AV → Heap → Option ρ) (r : ρ) (h : spec_l01Inverse.en N ρ args sh K = some r) : ∃ v sh', K v sh' = some r ∧ FnOk (E25 N).P 140 args sh v sh' := by
  unfold spec_l01Inverse.en at h
  split at h
  · exact fn_ok hE (kp := spec_l01Inverse.kp) (N := N) Try.func140 (c := spec_l01Inverse.bd) (by kernel_rfl) ((spec_l01Inverse.eq N _ _ _).trans h)
  · cases h
def E26 (N : Nat) : Env := (E25 N).add 140 (spec_l01Inverse.en N)
theorem E26_ok (N : Nat) : EnvOk (E26 N) ents := Env.add_ok (E25_ok N) (spec_l01Inverse.en_ok N (E25_ok N))
def spec_l01By_su_v2.kp : Keeps := ⟨[(0, [0, 2, 4, 6, 7], [], [])], [(0, [4, 6], [], [])], []⟩
def spec_l01By_su_v2.bd : Code := bodyOf Try.f117
def spec_l01By_su_v2.fin {ρ : Type} (N : Nat) (K : AV → Heap → Option ρ) (gv3 : Nat) (gv4 : Nat → Int) : XE → St → Option ρ := finK (E26 N) spec_l01By_su_v2.kp.fins Try.f117 [⟨false, .flat gv3 (.ints .u8 gv4)⟩] K
def spec_l01By_su_v2.k0 {ρ : Type} (N : Nat) (K : AV → Heap → Option ρ) (gv3 : Nat) (gv4 : Nat → Int) : XE → St → Option ρ := (blockK spec_l01By_su_v2.kp 1 0 (seqK (xcode (E26 N) ents spec_l01By_su_v2.kp 1 N (cB (cB spec_l01By_su_v2.bd)) 0) (spec_l01By_su_v2.fin N K gv3 gv4)))
theorem spec_l01By_su_v2.k0_mix {ρ : Type} (N : Nat) (K : AV → Heap → Option ρ) (gv3 : Nat) (gv4 : Nat → Int) : mixK (spec_l01By_su_v2.fin N K gv3 gv4 .ret) (spec_l01By_su_v2.k0 N K gv3 gv4) = (spec_l01By_su_v2.k0 N K gv3 gv4) := by
  funext e s; cases e <;> kernel_rfl
def spec_l01By_su_v2.st0 (p0 : Int) (rows2 : Nat) (gv3 : Nat) (gv4 : Nat → Int) (i5 : Int) (gv6 : Nat → Int) : St := ⟨sl 37 [(0, .int .i64 (p0)), (2, .slice false 0 0 rows2 .unk 8), (4, .sptr [(1, 8)]), (6, .sptr [(2, 8)]), (7, .int .i64 (i5))], [⟨false, .flat gv3 (.ints .u8 gv4)⟩, ⟨true, .flat 8 (.ints .u8 gv6)⟩, ⟨true, .flat 8 (.ints .u8 (fun _ => 0))⟩]⟩
def spec_l01By_su_v2.sx0_0 (gv3 : Nat) (gv4 : Nat → Int) (ov9 : Nat → Int) : St := ⟨sl 37 [(4, .sptr [(1, 8)]), (6, .sptr [(2, 8)])], [⟨false, .flat gv3 (.ints .u8 gv4)⟩, ⟨true, .flat 8 (.ints .u8 ov9)⟩, ⟨true, .flat 8 (.ints .u8 (fun _ => 0))⟩]⟩
theorem spec_l01By_su_v2.b0_gen {ρ : Type} (N : Nat) (K : AV → Heap → Option ρ) (L0 : St → Option ρ) (kv : XE → St → Option ρ) (p0 : Int) (rows2 : Nat) (gv3 : Nat) (gv4 : Nat → Int) (i5 : Int) (gv6 : Nat → Int) :
    xcode (E26 N) ents spec_l01By_su_v2.kp 1 N (cL (cK (cB (cA (cB spec_l01By_su_v2.bd))))) 0 (spec_l01By_su_v2.st0 p0 rows2 gv3 gv4 i5 gv6) (roundK spec_l01By_su_v2.kp 1 0 L0 (mixK (spec_l01By_su_v2.fin N K gv3 gv4 .ret) kv)) = (spec_l01By_su_v2.b0 N (fun d0 => K (.agg [⟨.u8, 8, d0⟩]) [⟨false, .flat gv3 (.ints .u8 gv4)⟩]) (fun i5 gv6 => L0 (spec_l01By_su_v2.st0 p0 rows2 gv3 gv4 i5 gv6)) (fun ov9 => kv (.exit 0) (spec_l01By_su_v2.sx0_0 gv3 gv4 ov9)) p0 rows2 gv4 i5 gv6) := by kernel_rfl
theorem spec_l01By_su_v2.b0_eq {ρ : Type} (N : Nat) (K : AV → Heap → Option ρ) (L0 : St → Option ρ) (p0 : Int) (rows2 : Nat) (gv3 : Nat) (gv4 : Nat → Int) (i5 : Int) (gv6 : Nat → Int) :
    xcode (E26 N) ents spec_l01By_su_v2.kp 1 N (cL (cK (cB (cA (cB spec_l01By_su_v2.bd))))) 0 (spec_l01By_su_v2.st0 p0 rows2 gv3 gv4 i5 gv6) (roundK spec_l01By_su_v2.kp 1 0 L0 (spec_l01By_su_v2.k0 N K gv3 gv4)) = (spec_l01By_su_v2.b0 N (fun d0 => K (.agg [⟨.u8, 8, d0⟩]) [⟨false, .flat gv3 (.ints .u8 gv4)⟩]) (fun i5 gv6 => L0 (spec_l01By_su_v2.st0 p0 rows2 gv3 gv4 i5 gv6)) (fun ov9 => (spec_l01By_su_v2.k0 N K gv3 gv4) (.exit 0) (spec_l01By_su_v2.sx0_0 gv3 gv4 ov9)) p0 rows2 gv4 i5 gv6) := by
  have h := spec_l01By_su_v2.b0_gen N K L0 (spec_l01By_su_v2.k0 N K gv3 gv4) p0 rows2 gv3 gv4 i5 gv6
  rw [spec_l01By_su_v2.k0_mix] at h
  exact h
theorem spec_l01By_su_v2.a0_0_eq {ρ : Type} (N : Nat) (K : AV → Heap → Option ρ) (gv3 : Nat) (gv4 : Nat → Int) (ov9 : Nat → Int) :
    (spec_l01By_su_v2.k0 N K gv3 gv4) (.exit 0) (spec_l01By_su_v2.sx0_0 gv3 gv4 ov9) = (spec_l01By_su_v2.a0_0 N (fun d0 => K (.agg [⟨.u8, 8, d0⟩]) [⟨false, .flat gv3 (.ints .u8 gv4)⟩]) ov9) := by kernel_rfl
theorem spec_l01By_su_v2.l0_eq {ρ : Type} (N : Nat) (K : AV → Heap → Option ρ) (p0 : Int) (rows2 : Nat) (gv3 : Nat) (gv4 : Nat → Int) :
    ∀ (m : Nat) (i5 : Int) (gv6 : Nat → Int), xloop (xcode (E26 N) ents spec_l01By_su_v2.kp 1 N (cL (cK (cB (cA (cB spec_l01By_su_v2.bd))))) 0) spec_l01By_su_v2.kp 1 0 m (spec_l01By_su_v2.st0 p0 rows2 gv3 gv4 i5 gv6) (spec_l01By_su_v2.k0 N K gv3 gv4) = (spec_l01By_su_v2.l0 N (fun d0 => K (.agg [⟨.u8, 8, d0⟩]) [⟨false, .flat gv3 (.ints .u8 gv4)⟩]) p0 rows2 gv4 (fun ov9 => (spec_l01By_su_v2.k0 N K gv3 gv4) (.exit 0) (spec_l01By_su_v2.sx0_0 gv3 gv4 ov9)) m i5 gv6) := by
  intro m
  induction m with
  | zero => intros; rfl
  | succ m ih =>
    intro i5 gv6
    refine (spec_l01By_su_v2.b0_eq N K (fun s => xloop (xcode (E26 N) ents spec_l01By_su_v2.kp 1 N (cL (cK (cB (cA (cB spec_l01By_su_v2.bd))))) 0) spec_l01By_su_v2.kp 1 0 m s (spec_l01By_su_v2.k0 N K gv3 gv4)) p0 rows2 gv3 gv4 i5 gv6).trans ?_
    simp only [ih]
    kernel_rfl
theorem spec_l01By_su_v2.s_eq {ρ : Type} (N : Nat) (K : AV → Heap → Option ρ) (p0 : Int) (v1 : Nat → Int) (rows2 : Nat) (gv3 : Nat) (gv4 : Nat → Int) :
    xbody (E26 N) ents spec_l01By_su_v2.kp N Try.f117 spec_l01By_su_v2.bd [.int .i64 (p0), .agg [⟨.u8, 8, v1⟩], .slice false 0 0 rows2 .unk 8] [⟨false, .flat gv3 (.ints .u8 gv4)⟩] K = (spec_l01By_su_v2.s N (fun d0 => K (.agg [⟨.u8, 8, d0⟩]) [⟨false, .flat gv3 (.ints .u8 gv4)⟩]) (fun i5 gv6 => xloop (xcode (E26 N) ents spec_l01By_su_v2.kp 1 N (cL (cK (cB (cA (cB spec_l01By_su_v2.bd))))) 0) spec_l01By_su_v2.kp 1 0 N (spec_l01By_su_v2.st0 p0 rows2 gv3 gv4 i5 gv6) (spec_l01By_su_v2.k0 N K gv3 gv4)) v1) := by kernel_rfl
theorem spec_l01By_su_v2.eq {ρ : Type} (N : Nat) (K : AV → Heap → Option ρ) (p0 : Int) (v1 : Nat → Int) (rows2 : Nat) (gv3 : Nat) (gv4 : Nat → Int) :
    xbody (E26 N) ents spec_l01By_su_v2.kp N Try.f117 spec_l01By_su_v2.bd [.int .i64 (p0), .agg [⟨.u8, 8, v1⟩], .slice false 0 0 rows2 .unk 8] [⟨false, .flat gv3 (.ints .u8 gv4)⟩] K = (spec_l01By_su_v2 N (fun d0 => K (.agg [⟨.u8, 8, d0⟩]) [⟨false, .flat gv3 (.ints .u8 gv4)⟩]) p0 v1 rows2 gv3 gv4) := by
  refine (spec_l01By_su_v2.s_eq N K p0 v1 rows2 gv3 gv4).trans ?_
  simp only [spec_l01By_su_v2.l0_eq, spec_l01By_su_v2.a0_0_eq]
  kernel_rfl
def spec_l01By_su_v2.en (N : Nat) (ρ : Type) : List AV → Heap → (AV → Heap → Option ρ) → Option ρ
  | [.int .i64 (p0), .agg [⟨.u8, 8, v1⟩], .slice false 0 0 rows2 .unk 8], [⟨false, .flat gv3 (.ints .u8 gv4)⟩], K => (spec_l01By_su_v2 N (fun d0 => K (.agg [⟨.u8, 8, d0⟩]) [⟨false, .flat gv3 (.ints .u8 gv4)⟩]) p0 v1 rows2 gv3 gv4)
  | _, _, _ => none
theorem spec_l01By_su_v2.en_ok (N : Nat) (hE : EnvOk (E26 N) ents) (ρ : Type) (args : List AV) (sh : Heap) (K : AV → Heap → Option ρ) (r : ρ) (h : spec_l01By_su_v2.en N ρ args sh K = some r) : ∃ v sh', K v sh' = some r ∧ FnOk (E26 N).P 117 args sh v sh' := by
  unfold spec_l01By_su_v2.en at h
  split at h
  · exact fn_ok hE (kp := spec_l01By_su_v2.kp) (N := N) Try.func117 (c := spec_l01By_su_v2.bd) (by kernel_rfl) ((spec_l01By_su_v2.eq N _ _ _ _ _ _).trans h)
  · cases h
def E27 (N : Nat) : Env := (E26 N).add 117 (spec_l01By_su_v2.en N)
theorem E27_ok (N : Nat) : EnvOk (E27 N) ents := Env.add_ok (E26_ok N) (spec_l01By_su_v2.en_ok N (E26_ok N))
def spec_l01Put_su_v2.kp : Keeps := ⟨[(0, [0, 1, 5, 7, 8, 9, 10], [], [])], [(0, [5, 8, 9], [], [])], []⟩
def spec_l01Put_su_v2.bd : Code := bodyOf Try.f112
def spec_l01Put_su_v2.fin {ρ : Type} (N : Nat) (K : AV → Heap → Option ρ) (gv3 : Nat) (gv4 : Nat → Int) : XE → St → Option ρ := finK (E27 N) spec_l01Put_su_v2.kp.fins Try.f112 [⟨false, .flat gv3 (.ints .u8 gv4)⟩] K
def spec_l01Put_su_v2.k0 {ρ : Type} (N : Nat) (K : AV → Heap → Option ρ) (gv3 : Nat) (gv4 : Nat → Int) : XE → St → Option ρ := (blockK spec_l01Put_su_v2.kp 1 0 (seqK (xcode (E27 N) ents spec_l01Put_su_v2.kp 1 N (cB (cB (cB (cB (cB (cB (cB spec_l01Put_su_v2.bd))))))) 0) (spec_l01Put_su_v2.fin N K gv3 gv4)))
theorem spec_l01Put_su_v2.k0_mix {ρ : Type} (N : Nat) (K : AV → Heap → Option ρ) (gv3 : Nat) (gv4 : Nat → Int) : mixK (spec_l01Put_su_v2.fin N K gv3 gv4 .ret) (spec_l01Put_su_v2.k0 N K gv3 gv4) = (spec_l01Put_su_v2.k0 N K gv3 gv4) := by
  funext e s; cases e <;> kernel_rfl
def spec_l01Put_su_v2.st0 (p0 : Int) (rows1 : Nat) (gv3 : Nat) (gv4 : Nat → Int) (rv7 : Int) (rv9 : Nat → Int) (outv10 : Nat) (placed11 : Bool) (i12 : Int) (gv13 : Nat → Int) : St := ⟨sl 77 [(0, .int .i64 (p0)), (1, .slice false 0 0 rows1 .unk 8), (5, .sptr [(1, 8)]), (7, .int .i64 (rv7)), (8, .slice true 2 0 outv10 .whole 8), (9, .bool (placed11)), (10, .int .i64 (i12))], [⟨false, .flat gv3 (.ints .u8 gv4)⟩, ⟨true, .flat 8 (.ints .u8 rv9)⟩, ⟨true, .flat 0 (.ints .u8 gv13)⟩]⟩
def spec_l01Put_su_v2.sx0_0 (gv3 : Nat) (gv4 : Nat → Int) (rv9 : Nat → Int) (ov18 : Nat) (ov19 : Bool) (ov20 : Nat → Int) : St := ⟨sl 77 [(5, .sptr [(1, 8)]), (8, .slice true 2 0 ov18 .whole 8), (9, .bool (ov19))], [⟨false, .flat gv3 (.ints .u8 gv4)⟩, ⟨true, .flat 8 (.ints .u8 rv9)⟩, ⟨true, .flat 0 (.ints .u8 ov20)⟩]⟩
theorem spec_l01Put_su_v2.b0_gen {ρ : Type} (N : Nat) (K : AV → Heap → Option ρ) (L0 : St → Option ρ) (kv : XE → St → Option ρ) (p0 : Int) (rows1 : Nat) (gv3 : Nat) (gv4 : Nat → Int) (rv7 : Int) (rv9 : Nat → Int) (outv10 : Nat) (placed11 : Bool) (i12 : Int) (gv13 : Nat → Int) :
    xcode (E27 N) ents spec_l01Put_su_v2.kp 1 N (cL (cK (cB (cA (cB (cB (cB (cB (cB (cB spec_l01Put_su_v2.bd)))))))))) 0 (spec_l01Put_su_v2.st0 p0 rows1 gv3 gv4 rv7 rv9 outv10 placed11 i12 gv13) (roundK spec_l01Put_su_v2.kp 1 0 L0 (mixK (spec_l01Put_su_v2.fin N K gv3 gv4 .ret) kv)) = (spec_l01Put_su_v2.b0 N (fun d0 => K (.slice false 0 0 d0 .unk 8) [⟨false, .flat gv3 (.ints .u8 gv4)⟩]) (fun d0 d1 => K (.slice true 1 0 d0 .whole 8) [⟨false, .flat gv3 (.ints .u8 gv4)⟩, ⟨true, .flat 0 (.ints .u8 d1)⟩]) (fun outv10 placed11 i12 gv13 => L0 (spec_l01Put_su_v2.st0 p0 rows1 gv3 gv4 rv7 rv9 outv10 placed11 i12 gv13)) (fun ov18 ov19 ov20 => kv (.exit 0) (spec_l01Put_su_v2.sx0_0 gv3 gv4 rv9 ov18 ov19 ov20)) p0 rows1 gv4 rv7 rv9 outv10 placed11 i12 gv13) := by kernel_rfl
theorem spec_l01Put_su_v2.b0_eq {ρ : Type} (N : Nat) (K : AV → Heap → Option ρ) (L0 : St → Option ρ) (p0 : Int) (rows1 : Nat) (gv3 : Nat) (gv4 : Nat → Int) (rv7 : Int) (rv9 : Nat → Int) (outv10 : Nat) (placed11 : Bool) (i12 : Int) (gv13 : Nat → Int) :
    xcode (E27 N) ents spec_l01Put_su_v2.kp 1 N (cL (cK (cB (cA (cB (cB (cB (cB (cB (cB spec_l01Put_su_v2.bd)))))))))) 0 (spec_l01Put_su_v2.st0 p0 rows1 gv3 gv4 rv7 rv9 outv10 placed11 i12 gv13) (roundK spec_l01Put_su_v2.kp 1 0 L0 (spec_l01Put_su_v2.k0 N K gv3 gv4)) = (spec_l01Put_su_v2.b0 N (fun d0 => K (.slice false 0 0 d0 .unk 8) [⟨false, .flat gv3 (.ints .u8 gv4)⟩]) (fun d0 d1 => K (.slice true 1 0 d0 .whole 8) [⟨false, .flat gv3 (.ints .u8 gv4)⟩, ⟨true, .flat 0 (.ints .u8 d1)⟩]) (fun outv10 placed11 i12 gv13 => L0 (spec_l01Put_su_v2.st0 p0 rows1 gv3 gv4 rv7 rv9 outv10 placed11 i12 gv13)) (fun ov18 ov19 ov20 => (spec_l01Put_su_v2.k0 N K gv3 gv4) (.exit 0) (spec_l01Put_su_v2.sx0_0 gv3 gv4 rv9 ov18 ov19 ov20)) p0 rows1 gv4 rv7 rv9 outv10 placed11 i12 gv13) := by
  have h := spec_l01Put_su_v2.b0_gen N K L0 (spec_l01Put_su_v2.k0 N K gv3 gv4) p0 rows1 gv3 gv4 rv7 rv9 outv10 placed11 i12 gv13
  rw [spec_l01Put_su_v2.k0_mix] at h
  exact h
theorem spec_l01Put_su_v2.a0_0_eq {ρ : Type} (N : Nat) (K : AV → Heap → Option ρ) (gv3 : Nat) (gv4 : Nat → Int) (rv9 : Nat → Int) (ov18 : Nat) (ov19 : Bool) (ov20 : Nat → Int) :
    (spec_l01Put_su_v2.k0 N K gv3 gv4) (.exit 0) (spec_l01Put_su_v2.sx0_0 gv3 gv4 rv9 ov18 ov19 ov20) = (spec_l01Put_su_v2.a0_0 N (fun d0 => K (.slice false 0 0 d0 .unk 8) [⟨false, .flat gv3 (.ints .u8 gv4)⟩]) (fun d0 d1 => K (.slice true 1 0 d0 .whole 8) [⟨false, .flat gv3 (.ints .u8 gv4)⟩, ⟨true, .flat 0 (.ints .u8 d1)⟩]) rv9 ov18 ov19 ov20) := by kernel_rfl
theorem spec_l01Put_su_v2.l0_eq {ρ : Type} (N : Nat) (K : AV → Heap → Option ρ) (p0 : Int) (rows1 : Nat) (gv3 : Nat) (gv4 : Nat → Int) (rv7 : Int) (rv9 : Nat → Int) :
    ∀ (m : Nat) (outv10 : Nat) (placed11 : Bool) (i12 : Int) (gv13 : Nat → Int), xloop (xcode (E27 N) ents spec_l01Put_su_v2.kp 1 N (cL (cK (cB (cA (cB (cB (cB (cB (cB (cB spec_l01Put_su_v2.bd)))))))))) 0) spec_l01Put_su_v2.kp 1 0 m (spec_l01Put_su_v2.st0 p0 rows1 gv3 gv4 rv7 rv9 outv10 placed11 i12 gv13) (spec_l01Put_su_v2.k0 N K gv3 gv4) = (spec_l01Put_su_v2.l0 N (fun d0 => K (.slice false 0 0 d0 .unk 8) [⟨false, .flat gv3 (.ints .u8 gv4)⟩]) (fun d0 d1 => K (.slice true 1 0 d0 .whole 8) [⟨false, .flat gv3 (.ints .u8 gv4)⟩, ⟨true, .flat 0 (.ints .u8 d1)⟩]) p0 rows1 gv4 rv7 rv9 (fun ov18 ov19 ov20 => (spec_l01Put_su_v2.k0 N K gv3 gv4) (.exit 0) (spec_l01Put_su_v2.sx0_0 gv3 gv4 rv9 ov18 ov19 ov20)) m outv10 placed11 i12 gv13) := by
  intro m
  induction m with
  | zero => intros; rfl
  | succ m ih =>
    intro outv10 placed11 i12 gv13
    refine (spec_l01Put_su_v2.b0_eq N K (fun s => xloop (xcode (E27 N) ents spec_l01Put_su_v2.kp 1 N (cL (cK (cB (cA (cB (cB (cB (cB (cB (cB spec_l01Put_su_v2.bd)))))))))) 0) spec_l01Put_su_v2.kp 1 0 m s (spec_l01Put_su_v2.k0 N K gv3 gv4)) p0 rows1 gv3 gv4 rv7 rv9 outv10 placed11 i12 gv13).trans ?_
    simp only [ih]
    kernel_rfl
theorem spec_l01Put_su_v2.s_eq {ρ : Type} (N : Nat) (K : AV → Heap → Option ρ) (p0 : Int) (rows1 : Nat) (v2 : Nat → Int) (gv3 : Nat) (gv4 : Nat → Int) :
    xbody (E27 N) ents spec_l01Put_su_v2.kp N Try.f112 spec_l01Put_su_v2.bd [.int .i64 (p0), .slice false 0 0 rows1 .unk 8, .agg [⟨.u8, 8, v2⟩]] [⟨false, .flat gv3 (.ints .u8 gv4)⟩] K = (spec_l01Put_su_v2.s N (fun d0 => K (.slice false 0 0 d0 .unk 8) [⟨false, .flat gv3 (.ints .u8 gv4)⟩]) (fun d0 d1 => K (.slice true 1 0 d0 .whole 8) [⟨false, .flat gv3 (.ints .u8 gv4)⟩, ⟨true, .flat 0 (.ints .u8 d1)⟩]) (fun rv7 rv9 outv10 placed11 i12 gv13 => xloop (xcode (E27 N) ents spec_l01Put_su_v2.kp 1 N (cL (cK (cB (cA (cB (cB (cB (cB (cB (cB spec_l01Put_su_v2.bd)))))))))) 0) spec_l01Put_su_v2.kp 1 0 N (spec_l01Put_su_v2.st0 p0 rows1 gv3 gv4 rv7 rv9 outv10 placed11 i12 gv13) (spec_l01Put_su_v2.k0 N K gv3 gv4)) p0 rows1 v2 gv4) := by kernel_rfl
theorem spec_l01Put_su_v2.eq {ρ : Type} (N : Nat) (K : AV → Heap → Option ρ) (p0 : Int) (rows1 : Nat) (v2 : Nat → Int) (gv3 : Nat) (gv4 : Nat → Int) :
    xbody (E27 N) ents spec_l01Put_su_v2.kp N Try.f112 spec_l01Put_su_v2.bd [.int .i64 (p0), .slice false 0 0 rows1 .unk 8, .agg [⟨.u8, 8, v2⟩]] [⟨false, .flat gv3 (.ints .u8 gv4)⟩] K = (spec_l01Put_su_v2 N (fun d0 => K (.slice false 0 0 d0 .unk 8) [⟨false, .flat gv3 (.ints .u8 gv4)⟩]) (fun d0 d1 => K (.slice true 1 0 d0 .whole 8) [⟨false, .flat gv3 (.ints .u8 gv4)⟩, ⟨true, .flat 0 (.ints .u8 d1)⟩]) p0 rows1 v2 gv3 gv4) := by
  refine (spec_l01Put_su_v2.s_eq N K p0 rows1 v2 gv3 gv4).trans ?_
  simp only [spec_l01Put_su_v2.l0_eq, spec_l01Put_su_v2.a0_0_eq]
  kernel_rfl
def spec_l01Put_su_v2.en (N : Nat) (ρ : Type) : List AV → Heap → (AV → Heap → Option ρ) → Option ρ
  | [.int .i64 (p0), .slice false 0 0 rows1 .unk 8, .agg [⟨.u8, 8, v2⟩]], [⟨false, .flat gv3 (.ints .u8 gv4)⟩], K => (spec_l01Put_su_v2 N (fun d0 => K (.slice false 0 0 d0 .unk 8) [⟨false, .flat gv3 (.ints .u8 gv4)⟩]) (fun d0 d1 => K (.slice true 1 0 d0 .whole 8) [⟨false, .flat gv3 (.ints .u8 gv4)⟩, ⟨true, .flat 0 (.ints .u8 d1)⟩]) p0 rows1 v2 gv3 gv4)
  | _, _, _ => none
theorem spec_l01Put_su_v2.en_ok (N : Nat) (hE : EnvOk (E27 N) ents) (ρ : Type) (args : List AV) (sh : Heap) (K : AV → Heap → Option ρ) (r : ρ) (h : spec_l01Put_su_v2.en N ρ args sh K = some r) : ∃ v sh', K v sh' = some r ∧ FnOk (E27 N).P 112 args sh v sh' := by
  unfold spec_l01Put_su_v2.en at h
  split at h
  · exact fn_ok hE (kp := spec_l01Put_su_v2.kp) (N := N) Try.func112 (c := spec_l01Put_su_v2.bd) (by kernel_rfl) ((spec_l01Put_su_v2.eq N _ _ _ _ _ _).trans h)
  · cases h
def E28 (N : Nat) : Env := (E27 N).add 112 (spec_l01Put_su_v2.en N)
theorem E28_ok (N : Nat) : EnvOk (E28 N) ents := Env.add_ok (E27_ok N) (spec_l01Put_su_v2.en_ok N (E27_ok N))
def spec_l01Reduce_su.kp : Keeps := ⟨[(0, [0, 1, 5, 6], [(.slot 5, .unk (.ints .u8 (fun _ => 0)) 8)], [])], [(0, [5], [], [])], []⟩
def spec_l01Reduce_su.bd : Code := bodyOf Try.f85
def spec_l01Reduce_su.fin {ρ : Type} (N : Nat) (K : AV → Heap → Option ρ) (gv2 : Nat) (gv3 : Nat → Int) : XE → St → Option ρ := finK (E28 N) spec_l01Reduce_su.kp.fins Try.f85 [⟨false, .flat gv2 (.ints .u8 gv3)⟩] K
def spec_l01Reduce_su.k0 {ρ : Type} (N : Nat) (K : AV → Heap → Option ρ) (gv2 : Nat) (gv3 : Nat → Int) : XE → St → Option ρ := (blockK spec_l01Reduce_su.kp 1 0 (seqK (xcode (E28 N) ents spec_l01Reduce_su.kp 1 N (cB (cB (cB spec_l01Reduce_su.bd))) 0) (spec_l01Reduce_su.fin N K gv2 gv3)))
theorem spec_l01Reduce_su.k0_mix {ρ : Type} (N : Nat) (K : AV → Heap → Option ρ) (gv2 : Nat) (gv3 : Nat → Int) : mixK (spec_l01Reduce_su.fin N K gv2 gv3 .ret) (spec_l01Reduce_su.k0 N K gv2 gv3) = (spec_l01Reduce_su.k0 N K gv2 gv3) := by
  funext e s; cases e <;> kernel_rfl
def spec_l01Reduce_su.st0 (p0 : Int) (list1 : Nat) (gv2 : Nat) (gv3 : Nat → Int) (outv4 : Nat) (i5 : Int) (gv6 : Nat → Int) : St := ⟨sl 22 [(0, .int .i64 (p0)), (1, .slice true 0 0 list1 .unk 8), (5, .slice false 1 0 outv4 .unk 8), (6, .int .i64 (i5))], [⟨false, .flat gv2 (.ints .u8 gv3)⟩, ⟨true, .flat 0 (.ints .u8 gv6)⟩]⟩
def spec_l01Reduce_su.sx0_0 (gv2 : Nat) (gv3 : Nat → Int) (ov10 : Nat) (ov11 : Nat → Int) : St := ⟨sl 22 [(5, .slice false 1 0 ov10 .unk 8)], [⟨false, .flat gv2 (.ints .u8 gv3)⟩, ⟨true, .flat 0 (.ints .u8 ov11)⟩]⟩
theorem spec_l01Reduce_su.b0_gen {ρ : Type} (N : Nat) (K : AV → Heap → Option ρ) (L0 : St → Option ρ) (kv : XE → St → Option ρ) (p0 : Int) (list1 : Nat) (gv2 : Nat) (gv3 : Nat → Int) (outv4 : Nat) (i5 : Int) (gv6 : Nat → Int) :
    xcode (E28 N) ents spec_l01Reduce_su.kp 1 N (cL (cK (cB (cA (cB (cB spec_l01Reduce_su.bd)))))) 0 (spec_l01Reduce_su.st0 p0 list1 gv2 gv3 outv4 i5 gv6) (roundK spec_l01Reduce_su.kp 1 0 L0 (mixK (spec_l01Reduce_su.fin N K gv2 gv3 .ret) kv)) = (spec_l01Reduce_su.b0 N (fun d0 d1 => K (.slice false 1 0 d0 .unk 8) [⟨false, .flat gv2 (.ints .u8 gv3)⟩, ⟨true, .flat 0 (.ints .u8 d1)⟩]) (fun outv4 i5 gv6 => L0 (spec_l01Reduce_su.st0 p0 list1 gv2 gv3 outv4 i5 gv6)) (fun ov10 ov11 => kv (.exit 0) (spec_l01Reduce_su.sx0_0 gv2 gv3 ov10 ov11)) p0 list1 gv3 outv4 i5 gv6) := by kernel_rfl
theorem spec_l01Reduce_su.b0_eq {ρ : Type} (N : Nat) (K : AV → Heap → Option ρ) (L0 : St → Option ρ) (p0 : Int) (list1 : Nat) (gv2 : Nat) (gv3 : Nat → Int) (outv4 : Nat) (i5 : Int) (gv6 : Nat → Int) :
    xcode (E28 N) ents spec_l01Reduce_su.kp 1 N (cL (cK (cB (cA (cB (cB spec_l01Reduce_su.bd)))))) 0 (spec_l01Reduce_su.st0 p0 list1 gv2 gv3 outv4 i5 gv6) (roundK spec_l01Reduce_su.kp 1 0 L0 (spec_l01Reduce_su.k0 N K gv2 gv3)) = (spec_l01Reduce_su.b0 N (fun d0 d1 => K (.slice false 1 0 d0 .unk 8) [⟨false, .flat gv2 (.ints .u8 gv3)⟩, ⟨true, .flat 0 (.ints .u8 d1)⟩]) (fun outv4 i5 gv6 => L0 (spec_l01Reduce_su.st0 p0 list1 gv2 gv3 outv4 i5 gv6)) (fun ov10 ov11 => (spec_l01Reduce_su.k0 N K gv2 gv3) (.exit 0) (spec_l01Reduce_su.sx0_0 gv2 gv3 ov10 ov11)) p0 list1 gv3 outv4 i5 gv6) := by
  have h := spec_l01Reduce_su.b0_gen N K L0 (spec_l01Reduce_su.k0 N K gv2 gv3) p0 list1 gv2 gv3 outv4 i5 gv6
  rw [spec_l01Reduce_su.k0_mix] at h
  exact h
theorem spec_l01Reduce_su.a0_0_eq {ρ : Type} (N : Nat) (K : AV → Heap → Option ρ) (gv2 : Nat) (gv3 : Nat → Int) (ov10 : Nat) (ov11 : Nat → Int) :
    (spec_l01Reduce_su.k0 N K gv2 gv3) (.exit 0) (spec_l01Reduce_su.sx0_0 gv2 gv3 ov10 ov11) = (spec_l01Reduce_su.a0_0 N (fun d0 d1 => K (.slice false 1 0 d0 .unk 8) [⟨false, .flat gv2 (.ints .u8 gv3)⟩, ⟨true, .flat 0 (.ints .u8 d1)⟩]) ov10 ov11) := by kernel_rfl
theorem spec_l01Reduce_su.l0_eq {ρ : Type} (N : Nat) (K : AV → Heap → Option ρ) (p0 : Int) (list1 : Nat) (gv2 : Nat) (gv3 : Nat → Int) :
    ∀ (m : Nat) (outv4 : Nat) (i5 : Int) (gv6 : Nat → Int), xloop (xcode (E28 N) ents spec_l01Reduce_su.kp 1 N (cL (cK (cB (cA (cB (cB spec_l01Reduce_su.bd)))))) 0) spec_l01Reduce_su.kp 1 0 m (spec_l01Reduce_su.st0 p0 list1 gv2 gv3 outv4 i5 gv6) (spec_l01Reduce_su.k0 N K gv2 gv3) = (spec_l01Reduce_su.l0 N (fun d0 d1 => K (.slice false 1 0 d0 .unk 8) [⟨false, .flat gv2 (.ints .u8 gv3)⟩, ⟨true, .flat 0 (.ints .u8 d1)⟩]) p0 list1 gv3 (fun ov10 ov11 => (spec_l01Reduce_su.k0 N K gv2 gv3) (.exit 0) (spec_l01Reduce_su.sx0_0 gv2 gv3 ov10 ov11)) m outv4 i5 gv6) := by
  intro m
  induction m with
  | zero => intros; rfl
  | succ m ih =>
    intro outv4 i5 gv6
    refine (spec_l01Reduce_su.b0_eq N K (fun s => xloop (xcode (E28 N) ents spec_l01Reduce_su.kp 1 N (cL (cK (cB (cA (cB (cB spec_l01Reduce_su.bd)))))) 0) spec_l01Reduce_su.kp 1 0 m s (spec_l01Reduce_su.k0 N K gv2 gv3)) p0 list1 gv2 gv3 outv4 i5 gv6).trans ?_
    simp only [ih]
    kernel_rfl
theorem spec_l01Reduce_su.s_eq {ρ : Type} (N : Nat) (K : AV → Heap → Option ρ) (p0 : Int) (list1 : Nat) (gv2 : Nat) (gv3 : Nat → Int) :
    xbody (E28 N) ents spec_l01Reduce_su.kp N Try.f85 spec_l01Reduce_su.bd [.int .i64 (p0), .slice true 0 0 list1 .unk 8] [⟨false, .flat gv2 (.ints .u8 gv3)⟩] K = (spec_l01Reduce_su.s N (fun d0 d1 => K (.slice false 1 0 d0 .unk 8) [⟨false, .flat gv2 (.ints .u8 gv3)⟩, ⟨true, .flat 0 (.ints .u8 d1)⟩]) (fun outv4 i5 gv6 => xloop (xcode (E28 N) ents spec_l01Reduce_su.kp 1 N (cL (cK (cB (cA (cB (cB spec_l01Reduce_su.bd)))))) 0) spec_l01Reduce_su.kp 1 0 N (spec_l01Reduce_su.st0 p0 list1 gv2 gv3 outv4 i5 gv6) (spec_l01Reduce_su.k0 N K gv2 gv3))) := by kernel_rfl
theorem spec_l01Reduce_su.eq {ρ : Type} (N : Nat) (K : AV → Heap → Option ρ) (p0 : Int) (list1 : Nat) (gv2 : Nat) (gv3 : Nat → Int) :
    xbody (E28 N) ents spec_l01Reduce_su.kp N Try.f85 spec_l01Reduce_su.bd [.int .i64 (p0), .slice true 0 0 list1 .unk 8] [⟨false, .flat gv2 (.ints .u8 gv3)⟩] K = (spec_l01Reduce_su N (fun d0 d1 => K (.slice false 1 0 d0 .unk 8) [⟨false, .flat gv2 (.ints .u8 gv3)⟩, ⟨true, .flat 0 (.ints .u8 d1)⟩]) p0 list1 gv2 gv3) := by
  refine (spec_l01Reduce_su.s_eq N K p0 list1 gv2 gv3).trans ?_
  simp only [spec_l01Reduce_su.l0_eq, spec_l01Reduce_su.a0_0_eq]
  kernel_rfl
def spec_l01Reduce_su.en (N : Nat) (ρ : Type) : List AV → Heap → (AV → Heap → Option ρ) → Option ρ
  | [.int .i64 (p0), .slice true 0 0 list1 .unk 8], [⟨false, .flat gv2 (.ints .u8 gv3)⟩], K => (spec_l01Reduce_su N (fun d0 d1 => K (.slice false 1 0 d0 .unk 8) [⟨false, .flat gv2 (.ints .u8 gv3)⟩, ⟨true, .flat 0 (.ints .u8 d1)⟩]) p0 list1 gv2 gv3)
  | _, _, _ => none
theorem spec_l01Reduce_su.en_ok (N : Nat) (hE : EnvOk (E28 N) ents) (ρ : Type) (args : List AV) (sh : Heap) (K : AV → Heap → Option ρ) (r : ρ) (h : spec_l01Reduce_su.en N ρ args sh K = some r) : ∃ v sh', K v sh' = some r ∧ FnOk (E28 N).P 85 args sh v sh' := by
  unfold spec_l01Reduce_su.en at h
  split at h
  · exact fn_ok hE (kp := spec_l01Reduce_su.kp) (N := N) Try.func85 (c := spec_l01Reduce_su.bd) (by kernel_rfl) ((spec_l01Reduce_su.eq N _ _ _ _ _).trans h)
  · cases h
def E29 (N : Nat) : Env := (E28 N).add 85 (spec_l01Reduce_su.en N)
theorem E29_ok (N : Nat) : EnvOk (E29 N) ents := Env.add_ok (E28_ok N) (spec_l01Reduce_su.en_ok N (E28_ok N))
def spec_l02Null_su.kp : Keeps := ⟨[(0, [0, 1, 7, 8, 9, 10], [], []), (2, [0, 1, 7, 8, 9, 11], [], []), (4, [0, 1, 7, 8, 9, 11, 12, 13], [], [])], [(0, [0, 1, 7, 8, 9], [], []), (2, [0, 8], [], []), (4, [0, 1, 7, 8, 9, 11, 12], [], [])], []⟩
def spec_l02Null_su.bd : Code := bodyOf Try.f122
def spec_l02Null_su.fin {ρ : Type} (N : Nat) (K : AV → Heap → Option ρ) (gv3 : Nat) (gv4 : Nat → Int) : XE → St → Option ρ := finK (E29 N) spec_l02Null_su.kp.fins Try.f122 [⟨false, .flat gv3 (.ints .u8 gv4)⟩] K
def spec_l02Null_su.k0 {ρ : Type} (N : Nat) (K : AV → Heap → Option ρ) (gv3 : Nat) (gv4 : Nat → Int) : XE → St → Option ρ := (blockK spec_l02Null_su.kp 1 0 (seqK (xcode (E29 N) ents spec_l02Null_su.kp 1 N (cB (cB (cB spec_l02Null_su.bd))) 0) (spec_l02Null_su.fin N K gv3 gv4)))
theorem spec_l02Null_su.k0_mix {ρ : Type} (N : Nat) (K : AV → Heap → Option ρ) (gv3 : Nat) (gv4 : Nat → Int) : mixK (spec_l02Null_su.fin N K gv3 gv4 .ret) (spec_l02Null_su.k0 N K gv3 gv4) = (spec_l02Null_su.k0 N K gv3 gv4) := by
  funext e s; cases e <;> kernel_rfl
def spec_l02Null_su.st0 (p0 : Int) (nv1 : Int) (gv3 : Nat) (gv4 : Nat → Int) (rv5 : Nat) (rv6 : Nat → Int) (i7 : Int) (gv8 : Nat → Bool) : St := ⟨sl 70 [(0, .int .i64 (p0)), (1, .int .i64 (nv1)), (7, .slice false 1 0 rv5 .unk 8), (8, .slice true 2 0 0 .whole 8), (9, .sptr [(3, 8)]), (10, .int .i64 (i7))], [⟨false, .flat gv3 (.ints .u8 gv4)⟩, ⟨true, .flat 0 (.ints .u8 rv6)⟩, ⟨true, .flat 0 (.ints .u8 (fun _ => 0))⟩, ⟨true, .flat 8 (.bools gv8)⟩]⟩
def spec_l02Null_su.sx0_0 (p0 : Int) (nv1 : Int) (gv3 : Nat) (gv4 : Nat → Int) (rv5 : Nat) (rv6 : Nat → Int) (ov10 : Nat → Bool) : St := ⟨sl 70 [(0, .int .i64 (p0)), (1, .int .i64 (nv1)), (7, .slice false 1 0 rv5 .unk 8), (8, .slice true 2 0 0 .whole 8), (9, .sptr [(3, 8)])], [⟨false, .flat gv3 (.ints .u8 gv4)⟩, ⟨true, .flat 0 (.ints .u8 rv6)⟩, ⟨true, .flat 0 (.ints .u8 (fun _ => 0))⟩, ⟨true, .flat 8 (.bools ov10)⟩]⟩
def spec_l02Null_su.k1 {ρ : Type} (N : Nat) (K : AV → Heap → Option ρ) (gv3 : Nat) (gv4 : Nat → Int) : XE → St → Option ρ := (blockK spec_l02Null_su.kp 1 2 (seqK (xcode (E29 N) ents spec_l02Null_su.kp 1 N (cB (cB (cB (cB spec_l02Null_su.bd)))) 0) (spec_l02Null_su.fin N K gv3 gv4)))
theorem spec_l02Null_su.k1_mix {ρ : Type} (N : Nat) (K : AV → Heap → Option ρ) (gv3 : Nat) (gv4 : Nat → Int) : mixK (spec_l02Null_su.fin N K gv3 gv4 .ret) (spec_l02Null_su.k1 N K gv3 gv4) = (spec_l02Null_su.k1 N K gv3 gv4) := by
  funext e s; cases e <;> kernel_rfl
def spec_l02Null_su.st1 (p0 : Int) (nv1 : Int) (gv3 : Nat) (gv4 : Nat → Int) (rv5 : Nat) (rv6 : Nat → Int) (ov10 : Nat → Bool) (outv11 : Nat) (k12 : Int) (gv13 : Nat → Int) : St := ⟨sl 70 [(0, .int .i64 (p0)), (1, .int .i64 (nv1)), (7, .slice false 1 0 rv5 .unk 8), (8, .slice true 2 0 outv11 .whole 8), (9, .sptr [(3, 8)]), (11, .int .i64 (k12))], [⟨false, .flat gv3 (.ints .u8 gv4)⟩, ⟨true, .flat 0 (.ints .u8 rv6)⟩, ⟨true, .flat 0 (.ints .u8 gv13)⟩, ⟨true, .flat 8 (.bools ov10)⟩]⟩
def spec_l02Null_su.sx1_0 (p0 : Int) (gv3 : Nat) (gv4 : Nat → Int) (ov20 : Nat) (ov21 : Nat → Int) : St := ⟨sl 70 [(0, .int .i64 (p0)), (8, .slice true 1 0 ov20 .whole 8)], [⟨false, .flat gv3 (.ints .u8 gv4)⟩, ⟨true, .flat 0 (.ints .u8 ov21)⟩]⟩
def spec_l02Null_su.k2g {ρ : Type} (N : Nat) (L1 : St → Option ρ) (kv : XE → St → Option ρ) : XE → St → Option ρ := (blockK spec_l02Null_su.kp 1 4 (seqK (xcode (E29 N) ents spec_l02Null_su.kp 1 N (cB (cB (cB (cK (cA (cB (cL (cK (cB (cA (cB (cB (cB spec_l02Null_su.bd))))))))))))) 3) (blockK spec_l02Null_su.kp 1 3 (seqK (xcode (E29 N) ents spec_l02Null_su.kp 1 N (cB (cB (cL (cK (cB (cA (cB (cB (cB spec_l02Null_su.bd))))))))) 2) (roundK spec_l02Null_su.kp 1 2 L1 kv)))))
theorem spec_l02Null_su.k2_mix {ρ : Type} (N : Nat) (K : AV → Heap → Option ρ) (L1 : St → Option ρ) (gv3 : Nat) (gv4 : Nat → Int) : mixK (spec_l02Null_su.fin N K gv3 gv4 .ret) (spec_l02Null_su.k2g N L1 (spec_l02Null_su.k1 N K gv3 gv4)) = (spec_l02Null_su.k2g N L1 (spec_l02Null_su.k1 N K gv3 gv4)) := by
  funext e s; cases e <;> kernel_rfl
def spec_l02Null_su.st2 (p0 : Int) (nv1 : Int) (gv3 : Nat) (gv4 : Nat → Int) (rv5 : Nat) (rv6 : Nat → Int) (ov10 : Nat → Bool) (outv11 : Nat) (k12 : Int) (gv13 : Nat → Int) (i15 : Int) (gv16 : Nat → Int) : St := ⟨sl 70 [(0, .int .i64 (p0)), (1, .int .i64 (nv1)), (7, .slice false 1 0 rv5 .unk 8), (8, .slice true 2 0 outv11 .whole 8), (9, .sptr [(3, 8)]), (11, .int .i64 (k12)), (12, .sptr [(4, 8)]), (13, .int .i64 (i15))], [⟨false, .flat gv3 (.ints .u8 gv4)⟩, ⟨true, .flat 0 (.ints .u8 rv6)⟩, ⟨true, .flat 0 (.ints .u8 gv13)⟩, ⟨true, .flat 8 (.bools ov10)⟩, ⟨true, .flat 8 (.ints .u8 gv16)⟩]⟩
def spec_l02Null_su.sx2_0 (p0 : Int) (nv1 : Int) (gv3 : Nat) (gv4 : Nat → Int) (rv5 : Nat) (rv6 : Nat → Int) (ov10 : Nat → Bool) (outv11 : Nat) (k12 : Int) (gv13 : Nat → Int) (ov19 : Nat → Int) : St := ⟨sl 70 [(0, .int .i64 (p0)), (1, .int .i64 (nv1)), (7, .slice false 1 0 rv5 .unk 8), (8, .slice true 2 0 outv11 .whole 8), (9, .sptr [(3, 8)]), (11, .int .i64 (k12)), (12, .sptr [(4, 8)])], [⟨false, .flat gv3 (.ints .u8 gv4)⟩, ⟨true, .flat 0 (.ints .u8 rv6)⟩, ⟨true, .flat 0 (.ints .u8 gv13)⟩, ⟨true, .flat 8 (.bools ov10)⟩, ⟨true, .flat 8 (.ints .u8 ov19)⟩]⟩
theorem spec_l02Null_su.b2_gen {ρ : Type} (N : Nat) (K : AV → Heap → Option ρ) (L2 : St → Option ρ) (kv : XE → St → Option ρ) (p0 : Int) (nv1 : Int) (gv3 : Nat) (gv4 : Nat → Int) (rv5 : Nat) (rv6 : Nat → Int) (ov10 : Nat → Bool) (outv11 : Nat) (k12 : Int) (gv13 : Nat → Int) (i15 : Int) (gv16 : Nat → Int) :
    xcode (E29 N) ents spec_l02Null_su.kp 1 N (cL (cK (cB (cA (cB (cB (cK (cA (cB (cL (cK (cB (cA (cB (cB (cB spec_l02Null_su.bd)))))))))))))))) 4 (spec_l02Null_su.st2 p0 nv1 gv3 gv4 rv5 rv6 ov10 outv11 k12 gv13 i15 gv16) (roundK spec_l02Null_su.kp 1 4 L2 (mixK (spec_l02Null_su.fin N K gv3 gv4 .ret) kv)) = (spec_l02Null_su.b2 N (fun d0 d1 => K (.slice false 1 0 d0 .unk 8) [⟨false, .flat gv3 (.ints .u8 gv4)⟩, ⟨true, .flat 0 (.ints .u8 d1)⟩]) (fun i15 gv16 => L2 (spec_l02Null_su.st2 p0 nv1 gv3 gv4 rv5 rv6 ov10 outv11 k12 gv13 i15 gv16)) (fun ov19 => kv (.exit 4) (spec_l02Null_su.sx2_0 p0 nv1 gv3 gv4 rv5 rv6 ov10 outv11 k12 gv13 ov19)) p0 rv5 rv6 k12 i15 gv16) := by kernel_rfl
theorem spec_l02Null_su.b2_eq {ρ : Type} (N : Nat) (K : AV → Heap → Option ρ) (L1 : St → Option ρ) (L2 : St → Option ρ) (p0 : Int) (nv1 : Int) (gv3 : Nat) (gv4 : Nat → Int) (rv5 : Nat) (rv6 : Nat → Int) (ov10 : Nat → Bool) (outv11 : Nat) (k12 : Int) (gv13 : Nat → Int) (i15 : Int) (gv16 : Nat → Int) :
    xcode (E29 N) ents spec_l02Null_su.kp 1 N (cL (cK (cB (cA (cB (cB (cK (cA (cB (cL (cK (cB (cA (cB (cB (cB spec_l02Null_su.bd)))))))))))))))) 4 (spec_l02Null_su.st2 p0 nv1 gv3 gv4 rv5 rv6 ov10 outv11 k12 gv13 i15 gv16) (roundK spec_l02Null_su.kp 1 4 L2 (spec_l02Null_su.k2g N L1 (spec_l02Null_su.k1 N K gv3 gv4))) = (spec_l02Null_su.b2 N (fun d0 d1 => K (.slice false 1 0 d0 .unk 8) [⟨false, .flat gv3 (.ints .u8 gv4)⟩, ⟨true, .flat 0 (.ints .u8 d1)⟩]) (fun i15 gv16 => L2 (spec_l02Null_su.st2 p0 nv1 gv3 gv4 rv5 rv6 ov10 outv11 k12 gv13 i15 gv16)) (fun ov19 => (spec_l02Null_su.k2g N L1 (spec_l02Null_su.k1 N K gv3 gv4)) (.exit 4) (spec_l02Null_su.sx2_0 p0 nv1 gv3 gv4 rv5 rv6 ov10 outv11 k12 gv13 ov19)) p0 rv5 rv6 k12 i15 gv16) := by
  have h := spec_l02Null_su.b2_gen N K L2 (spec_l02Null_su.k2g N L1 (spec_l02Null_su.k1 N K gv3 gv4)) p0 nv1 gv3 gv4 rv5 rv6 ov10 outv11 k12 gv13 i15 gv16
  rw [spec_l02Null_su.k2_mix] at h
  exact h
theorem spec_l02Null_su.a2_0_gen {ρ : Type} (N : Nat) (K : AV → Heap → Option ρ) (L1 : St → Option ρ) (kv : XE → St → Option ρ) (p0 : Int) (nv1 : Int) (gv3 : Nat) (gv4 : Nat → Int) (rv5 : Nat) (rv6 : Nat → Int) (ov10 : Nat → Bool) (outv11 : Nat) (k12 : Int) (gv13 : Nat → Int) (ov19 : Nat → Int) :
    (spec_l02Null_su.k2g N L1 (mixK (spec_l02Null_su.fin N K gv3 gv4 .ret) kv)) (.exit 4) (spec_l02Null_su.sx2_0 p0 nv1 gv3 gv4 rv5 rv6 ov10 outv11 k12 gv13 ov19) = (spec_l02Null_su.a2_0 N (fun d0 d1 => K (.slice false 1 0 d0 .unk 8) [⟨false, .flat gv3 (.ints .u8 gv4)⟩, ⟨true, .flat 0 (.ints .u8 d1)⟩]) (fun outv11 k12 gv13 => L1 (spec_l02Null_su.st1 p0 nv1 gv3 gv4 rv5 rv6 ov10 outv11 k12 gv13)) (fun ov20 ov21 => kv (.exit 2) (spec_l02Null_su.sx1_0 p0 gv3 gv4 ov20 ov21)) outv11 k12 gv13 ov19) := by kernel_rfl
theorem spec_l02Null_su.a2_0_eq {ρ : Type} (N : Nat) (K : AV → Heap → Option ρ) (L1 : St → Option ρ) (p0 : Int) (nv1 : Int) (gv3 : Nat) (gv4 : Nat → Int) (rv5 : Nat) (rv6 : Nat → Int) (ov10 : Nat → Bool) (outv11 : Nat) (k12 : Int) (gv13 : Nat → Int) (ov19 : Nat → Int) :
    (spec_l02Null_su.k2g N L1 (spec_l02Null_su.k1 N K gv3 gv4)) (.exit 4) (spec_l02Null_su.sx2_0 p0 nv1 gv3 gv4 rv5 rv6 ov10 outv11 k12 gv13 ov19) = (spec_l02Null_su.a2_0 N (fun d0 d1 => K (.slice false 1 0 d0 .unk 8) [⟨false, .flat gv3 (.ints .u8 gv4)⟩, ⟨true, .flat 0 (.ints .u8 d1)⟩]) (fun outv11 k12 gv13 => L1 (spec_l02Null_su.st1 p0 nv1 gv3 gv4 rv5 rv6 ov10 outv11 k12 gv13)) (fun ov20 ov21 => (spec_l02Null_su.k1 N K gv3 gv4) (.exit 2) (spec_l02Null_su.sx1_0 p0 gv3 gv4 ov20 ov21)) outv11 k12 gv13 ov19) := by
  have h := spec_l02Null_su.a2_0_gen N K L1 (spec_l02Null_su.k1 N K gv3 gv4) p0 nv1 gv3 gv4 rv5 rv6 ov10 outv11 k12 gv13 ov19
  rw [spec_l02Null_su.k1_mix] at h
  exact h
theorem spec_l02Null_su.b1_gen {ρ : Type} (N : Nat) (K : AV → Heap → Option ρ) (L1 : St → Option ρ) (kv : XE → St → Option ρ) (p0 : Int) (nv1 : Int) (gv3 : Nat) (gv4 : Nat → Int) (rv5 : Nat) (rv6 : Nat → Int) (ov10 : Nat → Bool) (outv11 : Nat) (k12 : Int) (gv13 : Nat → Int) :
    xcode (E29 N) ents spec_l02Null_su.kp 1 N (cL (cK (cB (cA (cB (cB (cB spec_l02Null_su.bd))))))) 2 (spec_l02Null_su.st1 p0 nv1 gv3 gv4 rv5 rv6 ov10 outv11 k12 gv13) (roundK spec_l02Null_su.kp 1 2 L1 (mixK (spec_l02Null_su.fin N K gv3 gv4 .ret) kv)) = (spec_l02Null_su.b1 N (fun d0 d1 => K (.slice false 1 0 d0 .unk 8) [⟨false, .flat gv3 (.ints .u8 gv4)⟩, ⟨true, .flat 0 (.ints .u8 d1)⟩]) (fun i15 gv16 => xloop (xcode (E29 N) ents spec_l02Null_su.kp 1 N (cL (cK (cB (cA (cB (cB (cK (cA (cB (cL (cK (cB (cA (cB (cB (cB spec_l02Null_su.bd)))))))))))))))) 4) spec_l02Null_su.kp 1 4 N (spec_l02Null_su.st2 p0 nv1 gv3 gv4 rv5 rv6 ov10 outv11 k12 gv13 i15 gv16) (spec_l02Null_su.k2g N L1 (mixK (spec_l02Null_su.fin N K gv3 gv4 .ret) kv))) (fun outv11 k12 gv13 => L1 (spec_l02Null_su.st1 p0 nv1 gv3 gv4 rv5 rv6 ov10 outv11 k12 gv13)) (fun ov20 ov21 => kv (.exit 2) (spec_l02Null_su.sx1_0 p0 gv3 gv4 ov20 ov21)) nv1 ov10 outv11 k12 gv13) := by kernel_rfl
theorem spec_l02Null_su.b1_eq {ρ : Type} (N : Nat) (K : AV → Heap → Option ρ) (L1 : St → Option ρ) (p0 : Int) (nv1 : Int) (gv3 : Nat) (gv4 : Nat → Int) (rv5 : Nat) (rv6 : Nat → Int) (ov10 : Nat → Bool) (outv11 : Nat) (k12 : Int) (gv13 : Nat → Int) :
    xcode (E29 N) ents spec_l02Null_su.kp 1 N (cL (cK (cB (cA (cB (cB (cB spec_l02Null_su.bd))))))) 2 (spec_l02Null_su.st1 p0 nv1 gv3 gv4 rv5 rv6 ov10 outv11 k12 gv13) (roundK spec_l02Null_su.kp 1 2 L1 (spec_l02Null_su.k1 N K gv3 gv4)) = (spec_l02Null_su.b1 N (fun d0 d1 => K (.slice false 1 0 d0 .unk 8) [⟨false, .flat gv3 (.ints .u8 gv4)⟩, ⟨true, .flat 0 (.ints .u8 d1)⟩]) (fun i15 gv16 => xloop (xcode (E29 N) ents spec_l02Null_su.kp 1 N (cL (cK (cB (cA (cB (cB (cK (cA (cB (cL (cK (cB (cA (cB (cB (cB spec_l02Null_su.bd)))))))))))))))) 4) spec_l02Null_su.kp 1 4 N (spec_l02Null_su.st2 p0 nv1 gv3 gv4 rv5 rv6 ov10 outv11 k12 gv13 i15 gv16) (spec_l02Null_su.k2g N L1 (spec_l02Null_su.k1 N K gv3 gv4))) (fun outv11 k12 gv13 => L1 (spec_l02Null_su.st1 p0 nv1 gv3 gv4 rv5 rv6 ov10 outv11 k12 gv13)) (fun ov20 ov21 => (spec_l02Null_su.k1 N K gv3 gv4) (.exit 2) (spec_l02Null_su.sx1_0 p0 gv3 gv4 ov20 ov21)) nv1 ov10 outv11 k12 gv13) := by
  have h := spec_l02Null_su.b1_gen N K L1 (spec_l02Null_su.k1 N K gv3 gv4) p0 nv1 gv3 gv4 rv5 rv6 ov10 outv11 k12 gv13
  rw [spec_l02Null_su.k1_mix] at h
  exact h
theorem spec_l02Null_su.a1_0_eq {ρ : Type} (N : Nat) (K : AV → Heap → Option ρ) (p0 : Int) (gv3 : Nat) (gv4 : Nat → Int) (ov20 : Nat) (ov21 : Nat → Int) :
    (spec_l02Null_su.k1 N K gv3 gv4) (.exit 2) (spec_l02Null_su.sx1_0 p0 gv3 gv4 ov20 ov21) = (spec_l02Null_su.a1_0 N (fun d0 d1 => K (.slice false 1 0 d0 .unk 8) [⟨false, .flat gv3 (.ints .u8 gv4)⟩, ⟨true, .flat 0 (.ints .u8 d1)⟩]) p0 ov20 ov21) := by kernel_rfl
theorem spec_l02Null_su.b0_gen {ρ : Type} (N : Nat) (K : AV → Heap → Option ρ) (L0 : St → Option ρ) (kv : XE → St → Option ρ) (p0 : Int) (nv1 : Int) (gv3 : Nat) (gv4 : Nat → Int) (rv5 : Nat) (rv6 : Nat → Int) (i7 : Int) (gv8 : Nat → Bool) :
    xcode (E29 N) ents spec_l02Null_su.kp 1 N (cL (cK (cB (cA (cB (cB spec_l02Null_su.bd)))))) 0 (spec_l02Null_su.st0 p0 nv1 gv3 gv4 rv5 rv6 i7 gv8) (roundK spec_l02Null_su.kp 1 0 L0 (mixK (spec_l02Null_su.fin N K gv3 gv4 .ret) kv)) = (spec_l02Null_su.b0 N (fun d0 d1 => K (.slice false 1 0 d0 .unk 8) [⟨false, .flat gv3 (.ints .u8 gv4)⟩, ⟨true, .flat 0 (.ints .u8 d1)⟩]) (fun i7 gv8 => L0 (spec_l02Null_su.st0 p0 nv1 gv3 gv4 rv5 rv6 i7 gv8)) (fun ov10 => kv (.exit 0) (spec_l02Null_su.sx0_0 p0 nv1 gv3 gv4 rv5 rv6 ov10)) rv5 rv6 i7 gv8) := by kernel_rfl
theorem spec_l02Null_su.b0_eq {ρ : Type} (N : Nat) (K : AV → Heap → Option ρ) (L0 : St → Option ρ) (p0 : Int) (nv1 : Int) (gv3 : Nat) (gv4 : Nat → Int) (rv5 : Nat) (rv6 : Nat → Int) (i7 : Int) (gv8 : Nat → Bool) :
    xcode (E29 N) ents spec_l02Null_su.kp 1 N (cL (cK (cB (cA (cB (cB spec_l02Null_su.bd)))))) 0 (spec_l02Null_su.st0 p0 nv1 gv3 gv4 rv5 rv6 i7 gv8) (roundK spec_l02Null_su.kp 1 0 L0 (spec_l02Null_su.k0 N K gv3 gv4)) = (spec_l02Null_su.b0 N (fun d0 d1 => K (.slice false 1 0 d0 .unk 8) [⟨false, .flat gv3 (.ints .u8 gv4)⟩, ⟨true, .flat 0 (.ints .u8 d1)⟩]) (fun i7 gv8 => L0 (spec_l02Null_su.st0 p0 nv1 gv3 gv4 rv5 rv6 i7 gv8)) (fun ov10 => (spec_l02Null_su.k0 N K gv3 gv4) (.exit 0) (spec_l02Null_su.sx0_0 p0 nv1 gv3 gv4 rv5 rv6 ov10)) rv5 rv6 i7 gv8) := by
  have h := spec_l02Null_su.b0_gen N K L0 (spec_l02Null_su.k0 N K gv3 gv4) p0 nv1 gv3 gv4 rv5 rv6 i7 gv8
  rw [spec_l02Null_su.k0_mix] at h
  exact h
theorem spec_l02Null_su.a0_0_eq {ρ : Type} (N : Nat) (K : AV → Heap → Option ρ) (p0 : Int) (nv1 : Int) (gv3 : Nat) (gv4 : Nat → Int) (rv5 : Nat) (rv6 : Nat → Int) (ov10 : Nat → Bool) :
    (spec_l02Null_su.k0 N K gv3 gv4) (.exit 0) (spec_l02Null_su.sx0_0 p0 nv1 gv3 gv4 rv5 rv6 ov10) = (spec_l02Null_su.a0_0 N (fun d0 d1 => K (.slice false 1 0 d0 .unk 8) [⟨false, .flat gv3 (.ints .u8 gv4)⟩, ⟨true, .flat 0 (.ints .u8 d1)⟩]) (fun outv11 k12 gv13 => xloop (xcode (E29 N) ents spec_l02Null_su.kp 1 N (cL (cK (cB (cA (cB (cB (cB spec_l02Null_su.bd))))))) 2) spec_l02Null_su.kp 1 2 N (spec_l02Null_su.st1 p0 nv1 gv3 gv4 rv5 rv6 ov10 outv11 k12 gv13) (spec_l02Null_su.k1 N K gv3 gv4))) := by kernel_rfl
theorem spec_l02Null_su.l2_eq {ρ : Type} (N : Nat) (K : AV → Heap → Option ρ) (L1 : St → Option ρ) (p0 : Int) (nv1 : Int) (gv3 : Nat) (gv4 : Nat → Int) (rv5 : Nat) (rv6 : Nat → Int) (ov10 : Nat → Bool) (outv11 : Nat) (k12 : Int) (gv13 : Nat → Int) :
    ∀ (m : Nat) (i15 : Int) (gv16 : Nat → Int), xloop (xcode (E29 N) ents spec_l02Null_su.kp 1 N (cL (cK (cB (cA (cB (cB (cK (cA (cB (cL (cK (cB (cA (cB (cB (cB spec_l02Null_su.bd)))))))))))))))) 4) spec_l02Null_su.kp 1 4 m (spec_l02Null_su.st2 p0 nv1 gv3 gv4 rv5 rv6 ov10 outv11 k12 gv13 i15 gv16) (spec_l02Null_su.k2g N L1 (spec_l02Null_su.k1 N K gv3 gv4)) = (spec_l02Null_su.l2 N (fun d0 d1 => K (.slice false 1 0 d0 .unk 8) [⟨false, .flat gv3 (.ints .u8 gv4)⟩, ⟨true, .flat 0 (.ints .u8 d1)⟩]) p0 rv5 rv6 k12 (fun ov19 => (spec_l02Null_su.k2g N L1 (spec_l02Null_su.k1 N K gv3 gv4)) (.exit 4) (spec_l02Null_su.sx2_0 p0 nv1 gv3 gv4 rv5 rv6 ov10 outv11 k12 gv13 ov19)) m i15 gv16) := by
  intro m
  induction m with
  | zero => intros; rfl
  | succ m ih =>
    intro i15 gv16
    refine (spec_l02Null_su.b2_eq N K L1 (fun s => xloop (xcode (E29 N) ents spec_l02Null_su.kp 1 N (cL (cK (cB (cA (cB (cB (cK (cA (cB (cL (cK (cB (cA (cB (cB (cB spec_l02Null_su.bd)))))))))))))))) 4) spec_l02Null_su.kp 1 4 m s (spec_l02Null_su.k2g N L1 (spec_l02Null_su.k1 N K gv3 gv4))) p0 nv1 gv3 gv4 rv5 rv6 ov10 outv11 k12 gv13 i15 gv16).trans ?_
    simp only [ih]
    kernel_rfl
theorem spec_l02Null_su.l1_eq {ρ : Type} (N : Nat) (K : AV → Heap → Option ρ) (p0 : Int) (nv1 : Int) (gv3 : Nat) (gv4 : Nat → Int) (rv5 : Nat) (rv6 : Nat → Int) (ov10 : Nat → Bool) :
    ∀ (m : Nat) (outv11 : Nat) (k12 : Int) (gv13 : Nat → Int), xloop (xcode (E29 N) ents spec_l02Null_su.kp 1 N (cL (cK (cB (cA (cB (cB (cB spec_l02Null_su.bd))))))) 2) spec_l02Null_su.kp 1 2 m (spec_l02Null_su.st1 p0 nv1 gv3 gv4 rv5 rv6 ov10 outv11 k12 gv13) (spec_l02Null_su.k1 N K gv3 gv4) = (spec_l02Null_su.l1 N (fun d0 d1 => K (.slice false 1 0 d0 .unk 8) [⟨false, .flat gv3 (.ints .u8 gv4)⟩, ⟨true, .flat 0 (.ints .u8 d1)⟩]) p0 nv1 rv5 rv6 ov10 (fun ov20 ov21 => (spec_l02Null_su.k1 N K gv3 gv4) (.exit 2) (spec_l02Null_su.sx1_0 p0 gv3 gv4 ov20 ov21)) m outv11 k12 gv13) := by
  intro m
  induction m with
  | zero => intros; rfl
  | succ m ih =>
    intro outv11 k12 gv13
    refine (spec_l02Null_su.b1_eq N K (fun s => xloop (xcode (E29 N) ents spec_l02Null_su.kp 1 N (cL (cK (cB (cA (cB (cB (cB spec_l02Null_su.bd))))))) 2) spec_l02Null_su.kp 1 2 m s (spec_l02Null_su.k1 N K gv3 gv4)) p0 nv1 gv3 gv4 rv5 rv6 ov10 outv11 k12 gv13).trans ?_
    simp only [ih, spec_l02Null_su.l2_eq, spec_l02Null_su.a2_0_eq]
    kernel_rfl
theorem spec_l02Null_su.l0_eq {ρ : Type} (N : Nat) (K : AV → Heap → Option ρ) (p0 : Int) (nv1 : Int) (gv3 : Nat) (gv4 : Nat → Int) (rv5 : Nat) (rv6 : Nat → Int) :
    ∀ (m : Nat) (i7 : Int) (gv8 : Nat → Bool), xloop (xcode (E29 N) ents spec_l02Null_su.kp 1 N (cL (cK (cB (cA (cB (cB spec_l02Null_su.bd)))))) 0) spec_l02Null_su.kp 1 0 m (spec_l02Null_su.st0 p0 nv1 gv3 gv4 rv5 rv6 i7 gv8) (spec_l02Null_su.k0 N K gv3 gv4) = (spec_l02Null_su.l0 N (fun d0 d1 => K (.slice false 1 0 d0 .unk 8) [⟨false, .flat gv3 (.ints .u8 gv4)⟩, ⟨true, .flat 0 (.ints .u8 d1)⟩]) rv5 rv6 (fun ov10 => (spec_l02Null_su.k0 N K gv3 gv4) (.exit 0) (spec_l02Null_su.sx0_0 p0 nv1 gv3 gv4 rv5 rv6 ov10)) m i7 gv8) := by
  intro m
  induction m with
  | zero => intros; rfl
  | succ m ih =>
    intro i7 gv8
    refine (spec_l02Null_su.b0_eq N K (fun s => xloop (xcode (E29 N) ents spec_l02Null_su.kp 1 N (cL (cK (cB (cA (cB (cB spec_l02Null_su.bd)))))) 0) spec_l02Null_su.kp 1 0 m s (spec_l02Null_su.k0 N K gv3 gv4)) p0 nv1 gv3 gv4 rv5 rv6 i7 gv8).trans ?_
    simp only [ih]
    kernel_rfl
theorem spec_l02Null_su.s_eq {ρ : Type} (N : Nat) (K : AV → Heap → Option ρ) (p0 : Int) (nv1 : Int) (rows2 : Nat) (gv3 : Nat) (gv4 : Nat → Int) :
    xbody (E29 N) ents spec_l02Null_su.kp N Try.f122 spec_l02Null_su.bd [.int .i64 (p0), .int .i64 (nv1), .slice true 0 0 rows2 .unk 8] [⟨false, .flat gv3 (.ints .u8 gv4)⟩] K = (spec_l02Null_su.s N (fun d0 d1 => K (.slice false 1 0 d0 .unk 8) [⟨false, .flat gv3 (.ints .u8 gv4)⟩, ⟨true, .flat 0 (.ints .u8 d1)⟩]) (fun rv5 rv6 i7 gv8 => xloop (xcode (E29 N) ents spec_l02Null_su.kp 1 N (cL (cK (cB (cA (cB (cB spec_l02Null_su.bd)))))) 0) spec_l02Null_su.kp 1 0 N (spec_l02Null_su.st0 p0 nv1 gv3 gv4 rv5 rv6 i7 gv8) (spec_l02Null_su.k0 N K gv3 gv4)) p0 rows2 gv4) := by kernel_rfl
theorem spec_l02Null_su.eq {ρ : Type} (N : Nat) (K : AV → Heap → Option ρ) (p0 : Int) (nv1 : Int) (rows2 : Nat) (gv3 : Nat) (gv4 : Nat → Int) :
    xbody (E29 N) ents spec_l02Null_su.kp N Try.f122 spec_l02Null_su.bd [.int .i64 (p0), .int .i64 (nv1), .slice true 0 0 rows2 .unk 8] [⟨false, .flat gv3 (.ints .u8 gv4)⟩] K = (spec_l02Null_su N (fun d0 d1 => K (.slice false 1 0 d0 .unk 8) [⟨false, .flat gv3 (.ints .u8 gv4)⟩, ⟨true, .flat 0 (.ints .u8 d1)⟩]) p0 nv1 rows2 gv3 gv4) := by
  refine (spec_l02Null_su.s_eq N K p0 nv1 rows2 gv3 gv4).trans ?_
  simp only [spec_l02Null_su.l0_eq, spec_l02Null_su.a0_0_eq, spec_l02Null_su.l1_eq, spec_l02Null_su.a1_0_eq]
  kernel_rfl
def spec_l02Null_su.en (N : Nat) (ρ : Type) : List AV → Heap → (AV → Heap → Option ρ) → Option ρ
  | [.int .i64 (p0), .int .i64 (nv1), .slice true 0 0 rows2 .unk 8], [⟨false, .flat gv3 (.ints .u8 gv4)⟩], K => (spec_l02Null_su N (fun d0 d1 => K (.slice false 1 0 d0 .unk 8) [⟨false, .flat gv3 (.ints .u8 gv4)⟩, ⟨true, .flat 0 (.ints .u8 d1)⟩]) p0 nv1 rows2 gv3 gv4)
  | _, _, _ => none
theorem spec_l02Null_su.en_ok (N : Nat) (hE : EnvOk (E29 N) ents) (ρ : Type) (args : List AV) (sh : Heap) (K : AV → Heap → Option ρ) (r : ρ) (h : spec_l02Null_su.en N ρ args sh K = some r) : ∃ v sh', K v sh' = some r ∧ FnOk (E29 N).P 122 args sh v sh' := by
  unfold spec_l02Null_su.en at h
  split at h
  · exact fn_ok hE (kp := spec_l02Null_su.kp) (N := N) Try.func122 (c := spec_l02Null_su.bd) (by kernel_rfl) ((spec_l02Null_su.eq N _ _ _ _ _ _).trans h)
  · cases h
def E30 (N : Nat) : Env := (E29 N).add 122 (spec_l02Null_su.en N)
theorem E30_ok (N : Nat) : EnvOk (E30 N) ents := Env.add_ok (E29_ok N) (spec_l02Null_su.en_ok N (E29_ok N))
def spec_l02Primitive.kp : Keeps := ⟨[(0, [3, 4, 5, 7, 8], [], []), (2, [3, 4, 5, 7, 8, 9], [], []), (4, [3, 4, 5, 7, 8, 9, 10, 11], [], [])], [(0, [3, 7], [], []), (2, [3, 4, 5, 7, 8], [], []), (4, [3, 4, 5, 7, 8, 9, 10], [], [])], []⟩
def spec_l02Primitive.bd : Code := bodyOf Try.f89
def spec_l02Primitive.fin {ρ : Type} (N : Nat) (K : AV → Heap → Option ρ) : XE → St → Option ρ := finK (E30 N) spec_l02Primitive.kp.fins Try.f89 [] K
def spec_l02Primitive.k0 {ρ : Type} (N : Nat) (K : AV → Heap → Option ρ) : XE → St → Option ρ := (blockK spec_l02Primitive.kp 0 0 (seqK (xcode (E30 N) ents spec_l02Primitive.kp 0 N (cB (cB (cB spec_l02Primitive.bd))) 0) (spec_l02Primitive.fin N K)))
theorem spec_l02Primitive.k0_mix {ρ : Type} (N : Nat) (K : AV → Heap → Option ρ) : mixK (spec_l02Primitive.fin N K .ret) (spec_l02Primitive.k0 N K) = (spec_l02Primitive.k0 N K) := by
  funext e s; cases e <;> kernel_rfl
def spec_l02Primitive.st0 (c0 : Nat → Int) (c1 : Nat → Int) (gv2 : Nat → Int) (h3 : Nat → Int) (rows4 : Nat) (j5 : Int) (gv6 : Nat → Int) : St := ⟨sl 76 [(3, .sptr [(0, 2), (1, 520)]), (4, .sptr [(2, 8)]), (5, .sptr [(3, 8)]), (7, .slice true 4 0 rows4 .whole 8), (8, .int .i64 (j5))], [⟨true, .flat 2 (.ints .i64 c0)⟩, ⟨true, .flat 520 (.ints .u8 c1)⟩, ⟨true, .flat 8 (.ints .u8 gv2)⟩, ⟨true, .flat 8 (.ints .u8 h3)⟩, ⟨true, .flat 0 (.ints .u8 gv6)⟩]⟩
def spec_l02Primitive.sx0_0 (c0 : Nat → Int) (c1 : Nat → Int) (ov19 : Nat) (ov20 : Nat → Int) : St := ⟨sl 76 [(3, .sptr [(0, 2), (1, 520)]), (7, .slice true 2 0 ov19 .whole 8)], [⟨true, .flat 2 (.ints .i64 c0)⟩, ⟨true, .flat 520 (.ints .u8 c1)⟩, ⟨true, .flat 0 (.ints .u8 ov20)⟩]⟩
def spec_l02Primitive.k1g {ρ : Type} (N : Nat) (L0 : St → Option ρ) (kv : XE → St → Option ρ) : XE → St → Option ρ := (blockK spec_l02Primitive.kp 0 2 (blockK spec_l02Primitive.kp 0 1 (seqK (xcode (E30 N) ents spec_l02Primitive.kp 0 N (cB (cB (cL (cK (cB (cA (cB (cB spec_l02Primitive.bd)))))))) 0) (roundK spec_l02Primitive.kp 0 0 L0 kv))))
theorem spec_l02Primitive.k1_mix {ρ : Type} (N : Nat) (K : AV → Heap → Option ρ) (L0 : St → Option ρ) : mixK (spec_l02Primitive.fin N K .ret) (spec_l02Primitive.k1g N L0 (spec_l02Primitive.k0 N K)) = (spec_l02Primitive.k1g N L0 (spec_l02Primitive.k0 N K)) := by
  funext e s; cases e <;> kernel_rfl
def spec_l02Primitive.st1 (c0 : Nat → Int) (c1 : Nat → Int) (gv2 : Nat → Int) (h3 : Nat → Int) (j5 : Int) (rows7 : Nat) (k8 : Int) (gv9 : Nat → Int) : St := ⟨sl 76 [(3, .sptr [(0, 2), (1, 520)]), (4, .sptr [(2, 8)]), (5, .sptr [(3, 8)]), (7, .slice true 4 0 rows7 .whole 8), (8, .int .i64 (j5)), (9, .int .i64 (k8))], [⟨true, .flat 2 (.ints .i64 c0)⟩, ⟨true, .flat 520 (.ints .u8 c1)⟩, ⟨true, .flat 8 (.ints .u8 gv2)⟩, ⟨true, .flat 8 (.ints .u8 h3)⟩, ⟨true, .flat 0 (.ints .u8 gv9)⟩]⟩
def spec_l02Primitive.sx1_0 (c0 : Nat → Int) (c1 : Nat → Int) (gv2 : Nat → Int) (h3 : Nat → Int) (j5 : Int) (ov17 : Nat) (ov18 : Nat → Int) : St := ⟨sl 76 [(3, .sptr [(0, 2), (1, 520)]), (4, .sptr [(2, 8)]), (5, .sptr [(3, 8)]), (7, .slice true 4 0 ov17 .whole 8), (8, .int .i64 (j5))], [⟨true, .flat 2 (.ints .i64 c0)⟩, ⟨true, .flat 520 (.ints .u8 c1)⟩, ⟨true, .flat 8 (.ints .u8 gv2)⟩, ⟨true, .flat 8 (.ints .u8 h3)⟩, ⟨true, .flat 0 (.ints .u8 ov18)⟩]⟩
def spec_l02Primitive.k2g {ρ : Type} (N : Nat) (L1 : St → Option ρ) (kv : XE → St → Option ρ) : XE → St → Option ρ := (blockK spec_l02Primitive.kp 0 4 (seqK (xcode (E30 N) ents spec_l02Primitive.kp 0 N (cB (cB (cK (cA (cB (cL (cK (cB (cK (cA (cB (cL (cK (cB (cA (cB (cB spec_l02Primitive.bd))))))))))))))))) 3) (blockK spec_l02Primitive.kp 0 3 (seqK (xcode (E30 N) ents spec_l02Primitive.kp 0 N (cB (cB (cL (cK (cB (cK (cA (cB (cL (cK (cB (cA (cB (cB spec_l02Primitive.bd)))))))))))))) 2) (roundK spec_l02Primitive.kp 0 2 L1 kv)))))
theorem spec_l02Primitive.k2_mix {ρ : Type} (N : Nat) (K : AV → Heap → Option ρ) (L0 : St → Option ρ) (L1 : St → Option ρ) : mixK (spec_l02Primitive.fin N K .ret) (spec_l02Primitive.k2g N L1 (spec_l02Primitive.k1g N L0 (spec_l02Primitive.k0 N K))) = (spec_l02Primitive.k2g N L1 (spec_l02Primitive.k1g N L0 (spec_l02Primitive.k0 N K))) := by
  funext e s; cases e <;> kernel_rfl
def spec_l02Primitive.st2 (c0 : Nat → Int) (c1 : Nat → Int) (gv2 : Nat → Int) (h3 : Nat → Int) (j5 : Int) (rows7 : Nat) (k8 : Int) (gv9 : Nat → Int) (i10 : Int) (gv11 : Nat → Int) : St := ⟨sl 76 [(3, .sptr [(0, 2), (1, 520)]), (4, .sptr [(2, 8)]), (5, .sptr [(3, 8)]), (7, .slice true 4 0 rows7 .whole 8), (8, .int .i64 (j5)), (9, .int .i64 (k8)), (10, .sptr [(5, 8)]), (11, .int .i64 (i10))], [⟨true, .flat 2 (.ints .i64 c0)⟩, ⟨true, .flat 520 (.ints .u8 c1)⟩, ⟨true, .flat 8 (.ints .u8 gv2)⟩, ⟨true, .flat 8 (.ints .u8 h3)⟩, ⟨true, .flat 0 (.ints .u8 gv9)⟩, ⟨true, .flat 8 (.ints .u8 gv11)⟩]⟩
def spec_l02Primitive.sx2_0 (c0 : Nat → Int) (c1 : Nat → Int) (gv2 : Nat → Int) (h3 : Nat → Int) (j5 : Int) (rows7 : Nat) (k8 : Int) (gv9 : Nat → Int) (ov16 : Nat → Int) : St := ⟨sl 76 [(3, .sptr [(0, 2), (1, 520)]), (4, .sptr [(2, 8)]), (5, .sptr [(3, 8)]), (7, .slice true 4 0 rows7 .whole 8), (8, .int .i64 (j5)), (9, .int .i64 (k8)), (10, .sptr [(5, 8)])], [⟨true, .flat 2 (.ints .i64 c0)⟩, ⟨true, .flat 520 (.ints .u8 c1)⟩, ⟨true, .flat 8 (.ints .u8 gv2)⟩, ⟨true, .flat 8 (.ints .u8 h3)⟩, ⟨true, .flat 0 (.ints .u8 gv9)⟩, ⟨true, .flat 8 (.ints .u8 ov16)⟩]⟩
theorem spec_l02Primitive.b2_gen {ρ : Type} (N : Nat) (K : AV → Heap → Option ρ) (L2 : St → Option ρ) (kv : XE → St → Option ρ) (c0 : Nat → Int) (c1 : Nat → Int) (gv2 : Nat → Int) (h3 : Nat → Int) (j5 : Int) (rows7 : Nat) (k8 : Int) (gv9 : Nat → Int) (i10 : Int) (gv11 : Nat → Int) :
    xcode (E30 N) ents spec_l02Primitive.kp 0 N (cL (cK (cB (cA (cB (cK (cA (cB (cL (cK (cB (cK (cA (cB (cL (cK (cB (cA (cB (cB spec_l02Primitive.bd)))))))))))))))))))) 4 (spec_l02Primitive.st2 c0 c1 gv2 h3 j5 rows7 k8 gv9 i10 gv11) (roundK spec_l02Primitive.kp 0 4 L2 (mixK (spec_l02Primitive.fin N K .ret) kv)) = (spec_l02Primitive.b2 N (fun d0 d1 => K (.slice false 0 0 d0 .unk 8) [⟨true, .flat 0 (.ints .u8 d1)⟩]) (fun i10 gv11 => L2 (spec_l02Primitive.st2 c0 c1 gv2 h3 j5 rows7 k8 gv9 i10 gv11)) (fun ov16 => kv (.exit 4) (spec_l02Primitive.sx2_0 c0 c1 gv2 h3 j5 rows7 k8 gv9 ov16)) c0 c1 gv2 h3 j5 k8 i10 gv11) := by kernel_rfl
theorem spec_l02Primitive.b2_eq {ρ : Type} (N : Nat) (K : AV → Heap → Option ρ) (L0 : St → Option ρ) (L1 : St → Option ρ) (L2 : St → Option ρ) (c0 : Nat → Int) (c1 : Nat → Int) (gv2 : Nat → Int) (h3 : Nat → Int) (j5 : Int) (rows7 : Nat) (k8 : Int) (gv9 : Nat → Int) (i10 : Int) (gv11 : Nat → Int) :
    xcode (E30 N) ents spec_l02Primitive.kp 0 N (cL (cK (cB (cA (cB (cK (cA (cB (cL (cK (cB (cK (cA (cB (cL (cK (cB (cA (cB (cB spec_l02Primitive.bd)))))))))))))))))))) 4 (spec_l02Primitive.st2 c0 c1 gv2 h3 j5 rows7 k8 gv9 i10 gv11) (roundK spec_l02Primitive.kp 0 4 L2 (spec_l02Primitive.k2g N L1 (spec_l02Primitive.k1g N L0 (spec_l02Primitive.k0 N K)))) = (spec_l02Primitive.b2 N (fun d0 d1 => K (.slice false 0 0 d0 .unk 8) [⟨true, .flat 0 (.ints .u8 d1)⟩]) (fun i10 gv11 => L2 (spec_l02Primitive.st2 c0 c1 gv2 h3 j5 rows7 k8 gv9 i10 gv11)) (fun ov16 => (spec_l02Primitive.k2g N L1 (spec_l02Primitive.k1g N L0 (spec_l02Primitive.k0 N K))) (.exit 4) (spec_l02Primitive.sx2_0 c0 c1 gv2 h3 j5 rows7 k8 gv9 ov16)) c0 c1 gv2 h3 j5 k8 i10 gv11) := by
  have h := spec_l02Primitive.b2_gen N K L2 (spec_l02Primitive.k2g N L1 (spec_l02Primitive.k1g N L0 (spec_l02Primitive.k0 N K))) c0 c1 gv2 h3 j5 rows7 k8 gv9 i10 gv11
  rw [spec_l02Primitive.k2_mix] at h
  exact h
theorem spec_l02Primitive.a2_0_gen {ρ : Type} (N : Nat) (K : AV → Heap → Option ρ) (L1 : St → Option ρ) (kv : XE → St → Option ρ) (c0 : Nat → Int) (c1 : Nat → Int) (gv2 : Nat → Int) (h3 : Nat → Int) (j5 : Int) (rows7 : Nat) (k8 : Int) (gv9 : Nat → Int) (ov16 : Nat → Int) :
    (spec_l02Primitive.k2g N L1 (mixK (spec_l02Primitive.fin N K .ret) kv)) (.exit 4) (spec_l02Primitive.sx2_0 c0 c1 gv2 h3 j5 rows7 k8 gv9 ov16) = (spec_l02Primitive.a2_0 N (fun d0 d1 => K (.slice false 0 0 d0 .unk 8) [⟨true, .flat 0 (.ints .u8 d1)⟩]) (fun rows7 k8 gv9 => L1 (spec_l02Primitive.st1 c0 c1 gv2 h3 j5 rows7 k8 gv9)) (fun ov17 ov18 => kv (.exit 2) (spec_l02Primitive.sx1_0 c0 c1 gv2 h3 j5 ov17 ov18)) rows7 k8 gv9 ov16) := by kernel_rfl
theorem spec_l02Primitive.a2_0_eq {ρ : Type} (N : Nat) (K : AV → Heap → Option ρ) (L0 : St → Option ρ) (L1 : St → Option ρ) (c0 : Nat → Int) (c1 : Nat → Int) (gv2 : Nat → Int) (h3 : Nat → Int) (j5 : Int) (rows7 : Nat) (k8 : Int) (gv9 : Nat → Int) (ov16 : Nat → Int) :
    (spec_l02Primitive.k2g N L1 (spec_l02Primitive.k1g N L0 (spec_l02Primitive.k0 N K))) (.exit 4) (spec_l02Primitive.sx2_0 c0 c1 gv2 h3 j5 rows7 k8 gv9 ov16) = (spec_l02Primitive.a2_0 N (fun d0 d1 => K (.slice false 0 0 d0 .unk 8) [⟨true, .flat 0 (.ints .u8 d1)⟩]) (fun rows7 k8 gv9 => L1 (spec_l02Primitive.st1 c0 c1 gv2 h3 j5 rows7 k8 gv9)) (fun ov17 ov18 => (spec_l02Primitive.k1g N L0 (spec_l02Primitive.k0 N K)) (.exit 2) (spec_l02Primitive.sx1_0 c0 c1 gv2 h3 j5 ov17 ov18)) rows7 k8 gv9 ov16) := by
  have h := spec_l02Primitive.a2_0_gen N K L1 (spec_l02Primitive.k1g N L0 (spec_l02Primitive.k0 N K)) c0 c1 gv2 h3 j5 rows7 k8 gv9 ov16
  rw [spec_l02Primitive.k1_mix] at h
  exact h
theorem spec_l02Primitive.b1_gen {ρ : Type} (N : Nat) (K : AV → Heap → Option ρ) (L1 : St → Option ρ) (kv : XE → St → Option ρ) (c0 : Nat → Int) (c1 : Nat → Int) (gv2 : Nat → Int) (h3 : Nat → Int) (j5 : Int) (rows7 : Nat) (k8 : Int) (gv9 : Nat → Int) :
    xcode (E30 N) ents spec_l02Primitive.kp 0 N (cL (cK (cB (cK (cA (cB (cL (cK (cB (cA (cB (cB spec_l02Primitive.bd)))))))))))) 2 (spec_l02Primitive.st1 c0 c1 gv2 h3 j5 rows7 k8 gv9) (roundK spec_l02Primitive.kp 0 2 L1 (mixK (spec_l02Primitive.fin N K .ret) kv)) = (spec_l02Primitive.b1 N (fun d0 d1 => K (.slice false 0 0 d0 .unk 8) [⟨true, .flat 0 (.ints .u8 d1)⟩]) (fun i10 gv11 => xloop (xcode (E30 N) ents spec_l02Primitive.kp 0 N (cL (cK (cB (cA (cB (cK (cA (cB (cL (cK (cB (cK (cA (cB (cL (cK (cB (cA (cB (cB spec_l02Primitive.bd)))))))))))))))))))) 4) spec_l02Primitive.kp 0 4 N (spec_l02Primitive.st2 c0 c1 gv2 h3 j5 rows7 k8 gv9 i10 gv11) (spec_l02Primitive.k2g N L1 (mixK (spec_l02Primitive.fin N K .ret) kv))) (fun rows7 k8 gv9 => L1 (spec_l02Primitive.st1 c0 c1 gv2 h3 j5 rows7 k8 gv9)) (fun ov17 ov18 => kv (.exit 2) (spec_l02Primitive.sx1_0 c0 c1 gv2 h3 j5 ov17 ov18)) c0 rows7 k8 gv9) := by kernel_rfl
theorem spec_l02Primitive.b1_eq {ρ : Type} (N : Nat) (K : AV → Heap → Option ρ) (L0 : St → Option ρ) (L1 : St → Option ρ) (c0 : Nat → Int) (c1 : Nat → Int) (gv2 : Nat → Int) (h3 : Nat → Int) (j5 : Int) (rows7 : Nat) (k8 : Int) (gv9 : Nat → Int) :
    xcode (E30 N) ents spec_l02Primitive.kp 0 N (cL (cK (cB (cK (cA (cB (cL (cK (cB (cA (cB (cB spec_l02Primitive.bd)))))))))))) 2 (spec_l02Primitive.st1 c0 c1 gv2 h3 j5 rows7 k8 gv9) (roundK spec_l02Primitive.kp 0 2 L1 (spec_l02Primitive.k1g N L0 (spec_l02Primitive.k0 N K))) = (spec_l02Primitive.b1 N (fun d0 d1 => K (.slice false 0 0 d0 .unk 8) [⟨true, .flat 0 (.ints .u8 d1)⟩]) (fun i10 gv11 => xloop (xcode (E30 N) ents spec_l02Primitive.kp 0 N (cL (cK (cB (cA (cB (cK (cA (cB (cL (cK (cB (cK (cA (cB (cL (cK (cB (cA (cB (cB spec_l02Primitive.bd)))))))))))))))))))) 4) spec_l02Primitive.kp 0 4 N (spec_l02Primitive.st2 c0 c1 gv2 h3 j5 rows7 k8 gv9 i10 gv11) (spec_l02Primitive.k2g N L1 (spec_l02Primitive.k1g N L0 (spec_l02Primitive.k0 N K)))) (fun rows7 k8 gv9 => L1 (spec_l02Primitive.st1 c0 c1 gv2 h3 j5 rows7 k8 gv9)) (fun ov17 ov18 => (spec_l02Primitive.k1g N L0 (spec_l02Primitive.k0 N K)) (.exit 2) (spec_l02Primitive.sx1_0 c0 c1 gv2 h3 j5 ov17 ov18)) c0 rows7 k8 gv9) := by
  have h := spec_l02Primitive.b1_gen N K L1 (spec_l02Primitive.k1g N L0 (spec_l02Primitive.k0 N K)) c0 c1 gv2 h3 j5 rows7 k8 gv9
  rw [spec_l02Primitive.k1_mix] at h
  exact h
theorem spec_l02Primitive.a1_0_gen {ρ : Type} (N : Nat) (K : AV → Heap → Option ρ) (L0 : St → Option ρ) (kv : XE → St → Option ρ) (c0 : Nat → Int) (c1 : Nat → Int) (gv2 : Nat → Int) (h3 : Nat → Int) (j5 : Int) (ov17 : Nat) (ov18 : Nat → Int) :
    (spec_l02Primitive.k1g N L0 (mixK (spec_l02Primitive.fin N K .ret) kv)) (.exit 2) (spec_l02Primitive.sx1_0 c0 c1 gv2 h3 j5 ov17 ov18) = (spec_l02Primitive.a1_0 N (fun d0 d1 => K (.slice false 0 0 d0 .unk 8) [⟨true, .flat 0 (.ints .u8 d1)⟩]) (fun rows4 j5 gv6 => L0 (spec_l02Primitive.st0 c0 c1 gv2 h3 rows4 j5 gv6)) (fun ov19 ov20 => kv (.exit 0) (spec_l02Primitive.sx0_0 c0 c1 ov19 ov20)) j5 ov17 ov18) := by kernel_rfl
theorem spec_l02Primitive.a1_0_eq {ρ : Type} (N : Nat) (K : AV → Heap → Option ρ) (L0 : St → Option ρ) (c0 : Nat → Int) (c1 : Nat → Int) (gv2 : Nat → Int) (h3 : Nat → Int) (j5 : Int) (ov17 : Nat) (ov18 : Nat → Int) :
    (spec_l02Primitive.k1g N L0 (spec_l02Primitive.k0 N K)) (.exit 2) (spec_l02Primitive.sx1_0 c0 c1 gv2 h3 j5 ov17 ov18) = (spec_l02Primitive.a1_0 N (fun d0 d1 => K (.slice false 0 0 d0 .unk 8) [⟨true, .flat 0 (.ints .u8 d1)⟩]) (fun rows4 j5 gv6 => L0 (spec_l02Primitive.st0 c0 c1 gv2 h3 rows4 j5 gv6)) (fun ov19 ov20 => (spec_l02Primitive.k0 N K) (.exit 0) (spec_l02Primitive.sx0_0 c0 c1 ov19 ov20)) j5 ov17 ov18) := by
  have h := spec_l02Primitive.a1_0_gen N K L0 (spec_l02Primitive.k0 N K) c0 c1 gv2 h3 j5 ov17 ov18
  rw [spec_l02Primitive.k0_mix] at h
  exact h
theorem spec_l02Primitive.b0_gen {ρ : Type} (N : Nat) (K : AV → Heap → Option ρ) (L0 : St → Option ρ) (kv : XE → St → Option ρ) (c0 : Nat → Int) (c1 : Nat → Int) (gv2 : Nat → Int) (h3 : Nat → Int) (rows4 : Nat) (j5 : Int) (gv6 : Nat → Int) :
    xcode (E30 N) ents spec_l02Primitive.kp 0 N (cL (cK (cB (cA (cB (cB spec_l02Primitive.bd)))))) 0 (spec_l02Primitive.st0 c0 c1 gv2 h3 rows4 j5 gv6) (roundK spec_l02Primitive.kp 0 0 L0 (mixK (spec_l02Primitive.fin N K .ret) kv)) = (spec_l02Primitive.b0 N (fun d0 d1 => K (.slice false 0 0 d0 .unk 8) [⟨true, .flat 0 (.ints .u8 d1)⟩]) (fun rows7 k8 gv9 => xloop (xcode (E30 N) ents spec_l02Primitive.kp 0 N (cL (cK (cB (cK (cA (cB (cL (cK (cB (cA (cB (cB spec_l02Primitive.bd)))))))))))) 2) spec_l02Primitive.kp 0 2 N (spec_l02Primitive.st1 c0 c1 gv2 h3 j5 rows7 k8 gv9) (spec_l02Primitive.k1g N L0 (mixK (spec_l02Primitive.fin N K .ret) kv))) (fun rows4 j5 gv6 => L0 (spec_l02Primitive.st0 c0 c1 gv2 h3 rows4 j5 gv6)) (fun ov19 ov20 => kv (.exit 0) (spec_l02Primitive.sx0_0 c0 c1 ov19 ov20)) c0 rows4 j5 gv6) := by kernel_rfl
theorem spec_l02Primitive.b0_eq {ρ : Type} (N : Nat) (K : AV → Heap → Option ρ) (L0 : St → Option ρ) (c0 : Nat → Int) (c1 : Nat → Int) (gv2 : Nat → Int) (h3 : Nat → Int) (rows4 : Nat) (j5 : Int) (gv6 : Nat → Int) :
    xcode (E30 N) ents spec_l02Primitive.kp 0 N (cL (cK (cB (cA (cB (cB spec_l02Primitive.bd)))))) 0 (spec_l02Primitive.st0 c0 c1 gv2 h3 rows4 j5 gv6) (roundK spec_l02Primitive.kp 0 0 L0 (spec_l02Primitive.k0 N K)) = (spec_l02Primitive.b0 N (fun d0 d1 => K (.slice false 0 0 d0 .unk 8) [⟨true, .flat 0 (.ints .u8 d1)⟩]) (fun rows7 k8 gv9 => xloop (xcode (E30 N) ents spec_l02Primitive.kp 0 N (cL (cK (cB (cK (cA (cB (cL (cK (cB (cA (cB (cB spec_l02Primitive.bd)))))))))))) 2) spec_l02Primitive.kp 0 2 N (spec_l02Primitive.st1 c0 c1 gv2 h3 j5 rows7 k8 gv9) (spec_l02Primitive.k1g N L0 (spec_l02Primitive.k0 N K))) (fun rows4 j5 gv6 => L0 (spec_l02Primitive.st0 c0 c1 gv2 h3 rows4 j5 gv6)) (fun ov19 ov20 => (spec_l02Primitive.k0 N K) (.exit 0) (spec_l02Primitive.sx0_0 c0 c1 ov19 ov20)) c0 rows4 j5 gv6) := by
  have h := spec_l02Primitive.b0_gen N K L0 (spec_l02Primitive.k0 N K) c0 c1 gv2 h3 rows4 j5 gv6
  rw [spec_l02Primitive.k0_mix] at h
  exact h
theorem spec_l02Primitive.a0_0_eq {ρ : Type} (N : Nat) (K : AV → Heap → Option ρ) (c0 : Nat → Int) (c1 : Nat → Int) (ov19 : Nat) (ov20 : Nat → Int) :
    (spec_l02Primitive.k0 N K) (.exit 0) (spec_l02Primitive.sx0_0 c0 c1 ov19 ov20) = (spec_l02Primitive.a0_0 N (fun d0 d1 => K (.slice false 0 0 d0 .unk 8) [⟨true, .flat 0 (.ints .u8 d1)⟩]) c0 ov19 ov20) := by kernel_rfl
theorem spec_l02Primitive.l2_eq {ρ : Type} (N : Nat) (K : AV → Heap → Option ρ) (L0 : St → Option ρ) (L1 : St → Option ρ) (c0 : Nat → Int) (c1 : Nat → Int) (gv2 : Nat → Int) (h3 : Nat → Int) (j5 : Int) (rows7 : Nat) (k8 : Int) (gv9 : Nat → Int) :
    ∀ (m : Nat) (i10 : Int) (gv11 : Nat → Int), xloop (xcode (E30 N) ents spec_l02Primitive.kp 0 N (cL (cK (cB (cA (cB (cK (cA (cB (cL (cK (cB (cK (cA (cB (cL (cK (cB (cA (cB (cB spec_l02Primitive.bd)))))))))))))))))))) 4) spec_l02Primitive.kp 0 4 m (spec_l02Primitive.st2 c0 c1 gv2 h3 j5 rows7 k8 gv9 i10 gv11) (spec_l02Primitive.k2g N L1 (spec_l02Primitive.k1g N L0 (spec_l02Primitive.k0 N K))) = (spec_l02Primitive.l2 N (fun d0 d1 => K (.slice false 0 0 d0 .unk 8) [⟨true, .flat 0 (.ints .u8 d1)⟩]) c0 c1 gv2 h3 j5 k8 (fun ov16 => (spec_l02Primitive.k2g N L1 (spec_l02Primitive.k1g N L0 (spec_l02Primitive.k0 N K))) (.exit 4) (spec_l02Primitive.sx2_0 c0 c1 gv2 h3 j5 rows7 k8 gv9 ov16)) m i10 gv11) := by
  intro m
  induction m with
  | zero => intros; rfl
  | succ m ih =>
    intro i10 gv11
    refine (spec_l02Primitive.b2_eq N K L0 L1 (fun s => xloop (xcode (E30 N) ents spec_l02Primitive.kp 0 N (cL (cK (cB (cA (cB (cK (cA (cB (cL (cK (cB (cK (cA (cB (cL (cK (cB (cA (cB (cB spec_l02Primitive.bd)))))))))))))))))))) 4) spec_l02Primitive.kp 0 4 m s (spec_l02Primitive.k2g N L1 (spec_l02Primitive.k1g N L0 (spec_l02Primitive.k0 N K)))) c0 c1 gv2 h3 j5 rows7 k8 gv9 i10 gv11).trans ?_
    simp only [ih]
    kernel_rfl
theorem spec_l02Primitive.l1_eq {ρ : Type} (N : Nat) (K : AV → Heap → Option ρ) (L0 : St → Option ρ) (c0 : Nat → Int) (c1 : Nat → Int) (gv2 : Nat → Int) (h3 : Nat → Int) (j5 : Int) :
    ∀ (m : Nat) (rows7 : Nat) (k8 : Int) (gv9 : Nat → Int), xloop (xcode (E30 N) ents spec_l02Primitive.kp 0 N (cL (cK (cB (cK (cA (cB (cL (cK (cB (cA (cB (cB spec_l02Primitive.bd)))))))))))) 2) spec_l02Primitive.kp 0 2 m (spec_l02Primitive.st1 c0 c1 gv2 h3 j5 rows7 k8 gv9) (spec_l02Primitive.k1g N L0 (spec_l02Primitive.k0 N K)) = (spec_l02Primitive.l1 N (fun d0 d1 => K (.slice false 0 0 d0 .unk 8) [⟨true, .flat 0 (.ints .u8 d1)⟩]) c0 c1 gv2 h3 j5 (fun ov17 ov18 => (spec_l02Primitive.k1g N L0 (spec_l02Primitive.k0 N K)) (.exit 2) (spec_l02Primitive.sx1_0 c0 c1 gv2 h3 j5 ov17 ov18)) m rows7 k8 gv9) := by
  intro m
  induction m with
  | zero => intros; rfl
  | succ m ih =>
    intro rows7 k8 gv9
    refine (spec_l02Primitive.b1_eq N K L0 (fun s => xloop (xcode (E30 N) ents spec_l02Primitive.kp 0 N (cL (cK (cB (cK (cA (cB (cL (cK (cB (cA (cB (cB spec_l02Primitive.bd)))))))))))) 2) spec_l02Primitive.kp 0 2 m s (spec_l02Primitive.k1g N L0 (spec_l02Primitive.k0 N K))) c0 c1 gv2 h3 j5 rows7 k8 gv9).trans ?_
    simp only [ih, spec_l02Primitive.l2_eq, spec_l02Primitive.a2_0_eq]
    kernel_rfl
theorem spec_l02Primitive.l0_eq {ρ : Type} (N : Nat) (K : AV → Heap → Option ρ) (c0 : Nat → Int) (c1 : Nat → Int) (gv2 : Nat → Int) (h3 : Nat → Int) :
    ∀ (m : Nat) (rows4 : Nat) (j5 : Int) (gv6 : Nat → Int), xloop (xcode (E30 N) ents spec_l02Primitive.kp 0 N (cL (cK (cB (cA (cB (cB spec_l02Primitive.bd)))))) 0) spec_l02Primitive.kp 0 0 m (spec_l02Primitive.st0 c0 c1 gv2 h3 rows4 j5 gv6) (spec_l02Primitive.k0 N K) = (spec_l02Primitive.l0 N (fun d0 d1 => K (.slice false 0 0 d0 .unk 8) [⟨true, .flat 0 (.ints .u8 d1)⟩]) c0 c1 gv2 h3 (fun ov19 ov20 => (spec_l02Primitive.k0 N K) (.exit 0) (spec_l02Primitive.sx0_0 c0 c1 ov19 ov20)) m rows4 j5 gv6) := by
  intro m
  induction m with
  | zero => intros; rfl
  | succ m ih =>
    intro rows4 j5 gv6
    refine (spec_l02Primitive.b0_eq N K (fun s => xloop (xcode (E30 N) ents spec_l02Primitive.kp 0 N (cL (cK (cB (cA (cB (cB spec_l02Primitive.bd)))))) 0) spec_l02Primitive.kp 0 0 m s (spec_l02Primitive.k0 N K)) c0 c1 gv2 h3 rows4 j5 gv6).trans ?_
    simp only [ih, spec_l02Primitive.l1_eq, spec_l02Primitive.a1_0_eq]
    kernel_rfl
theorem spec_l02Primitive.s_eq {ρ : Type} (N : Nat) (K : AV → Heap → Option ρ) (c0 : Nat → Int) (c1 : Nat → Int) (gv2 : Nat → Int) (h3 : Nat → Int) :
    xbody (E30 N) ents spec_l02Primitive.kp N Try.f89 spec_l02Primitive.bd [.agg [⟨.i64, 2, c0⟩, ⟨.u8, 520, c1⟩], .agg [⟨.u8, 8, gv2⟩], .agg [⟨.u8, 8, h3⟩]] [] K = (spec_l02Primitive.s N (fun d0 d1 => K (.slice false 0 0 d0 .unk 8) [⟨true, .flat 0 (.ints .u8 d1)⟩]) (fun rows4 j5 gv6 => xloop (xcode (E30 N) ents spec_l02Primitive.kp 0 N (cL (cK (cB (cA (cB (cB spec_l02Primitive.bd)))))) 0) spec_l02Primitive.kp 0 0 N (spec_l02Primitive.st0 c0 c1 gv2 h3 rows4 j5 gv6) (spec_l02Primitive.k0 N K))) := by kernel_rfl
theorem spec_l02Primitive.eq {ρ : Type} (N : Nat) (K : AV → Heap → Option ρ) (c0 : Nat → Int) (c1 : Nat → Int) (gv2 : Nat → Int) (h3 : Nat → Int) :
    xbody (E30 N) ents spec_l02Primitive.kp N Try.f89 spec_l02Primitive.bd [.agg [⟨.i64, 2, c0⟩, ⟨.u8, 520, c1⟩], .agg [⟨.u8, 8, gv2⟩], .agg [⟨.u8, 8, h3⟩]] [] K = (spec_l02Primitive N (fun d0 d1 => K (.slice false 0 0 d0 .unk 8) [⟨true, .flat 0 (.ints .u8 d1)⟩]) c0 c1 gv2 h3) := by
  refine (spec_l02Primitive.s_eq N K c0 c1 gv2 h3).trans ?_
  simp only [spec_l02Primitive.l0_eq, spec_l02Primitive.a0_0_eq]
  kernel_rfl
def spec_l02Primitive.en (N : Nat) (ρ : Type) : List AV → Heap → (AV → Heap → Option ρ) → Option ρ
  | [.agg [⟨.i64, 2, c0⟩, ⟨.u8, 520, c1⟩], .agg [⟨.u8, 8, gv2⟩], .agg [⟨.u8, 8, h3⟩]], [], K => (spec_l02Primitive N (fun d0 d1 => K (.slice false 0 0 d0 .unk 8) [⟨true, .flat 0 (.ints .u8 d1)⟩]) c0 c1 gv2 h3)
  | _, _, _ => none
theorem spec_l02Primitive.en_ok (N : Nat) (hE : EnvOk (E30 N) ents) (ρ : Type) (args : List AV) (sh : Heap) (K : AV → Heap → Option ρ) (r : ρ) (h : spec_l02Primitive.en N ρ args sh K = some r) : ∃ v sh', K v sh' = some r ∧ FnOk (E30 N).P 89 args sh v sh' := by
  unfold spec_l02Primitive.en at h
  split at h
  · exact fn_ok hE (kp := spec_l02Primitive.kp) (N := N) Try.func89 (c := spec_l02Primitive.bd) (by kernel_rfl) ((spec_l02Primitive.eq N _ _ _ _ _).trans h)
  · cases h
def E31 (N : Nat) : Env := (E30 N).add 89 (spec_l02Primitive.en N)
theorem E31_ok (N : Nat) : EnvOk (E31 N) ents := Env.add_ok (E30_ok N) (spec_l02Primitive.en_ok N (E30_ok N))
def spec_PrimitiveSpace.kp : Keeps := ⟨[], [], [(.slot 6, .unk (.ints .u8 (fun _ => 0)) 8)]⟩
def spec_PrimitiveSpace.bd : Code := bodyOf Try.f51
def spec_PrimitiveSpace.fin {ρ : Type} (N : Nat) (K : AV → Heap → Option ρ) : XE → St → Option ρ := finK (E31 N) spec_PrimitiveSpace.kp.fins Try.f51 [] K
theorem spec_PrimitiveSpace.eq {ρ : Type} (N : Nat) (K : AV → Heap → Option ρ) (c0 : Nat → Int) (c1 : Nat → Int) (gv2 : Nat → Int) (h3 : Nat → Int) :
    xbody (E31 N) ents spec_PrimitiveSpace.kp N Try.f51 spec_PrimitiveSpace.bd [.agg [⟨.i64, 2, c0⟩, ⟨.u8, 520, c1⟩], .agg [⟨.u8, 8, gv2⟩], .agg [⟨.u8, 8, h3⟩]] [] K = (spec_PrimitiveSpace N (fun d0 d1 d2 => K (.tup [.slice false 0 0 d0 .unk 8, .int .i64 (d1)]) [⟨true, .flat 0 (.ints .u8 d2)⟩]) c0 c1 gv2 h3) := by kernel_rfl
def spec_PrimitiveSpace.en (N : Nat) (ρ : Type) : List AV → Heap → (AV → Heap → Option ρ) → Option ρ
  | [.agg [⟨.i64, 2, c0⟩, ⟨.u8, 520, c1⟩], .agg [⟨.u8, 8, gv2⟩], .agg [⟨.u8, 8, h3⟩]], [], K => (spec_PrimitiveSpace N (fun d0 d1 d2 => K (.tup [.slice false 0 0 d0 .unk 8, .int .i64 (d1)]) [⟨true, .flat 0 (.ints .u8 d2)⟩]) c0 c1 gv2 h3)
  | _, _, _ => none
theorem spec_PrimitiveSpace.en_ok (N : Nat) (hE : EnvOk (E31 N) ents) (ρ : Type) (args : List AV) (sh : Heap) (K : AV → Heap → Option ρ) (r : ρ) (h : spec_PrimitiveSpace.en N ρ args sh K = some r) : ∃ v sh', K v sh' = some r ∧ FnOk (E31 N).P 51 args sh v sh' := by
  unfold spec_PrimitiveSpace.en at h
  split at h
  · exact fn_ok hE (kp := spec_PrimitiveSpace.kp) (N := N) Try.func51 (c := spec_PrimitiveSpace.bd) (by kernel_rfl) ((spec_PrimitiveSpace.eq N _ _ _ _ _).trans h)
  · cases h
def E32 (N : Nat) : Env := (E31 N).add 51 (spec_PrimitiveSpace.en N)
theorem E32_ok (N : Nat) : EnvOk (E32 N) ents := Env.add_ok (E31_ok N) (spec_PrimitiveSpace.en_ok N (E31_ok N))
def impl_IsPrime.kp : Keeps := ⟨[(0, [0, 3], [], [])], [(0, [], [], [])], []⟩
def impl_IsPrime.bd : Code := bodyOf Try.f126
def impl_IsPrime.fin {ρ : Type} (N : Nat) (K : AV → Heap → Option ρ) : XE → St → Option ρ := finK (E32 N) impl_IsPrime.kp.fins Try.f126 [] K
def impl_IsPrime.k0 {ρ : Type} (N : Nat) (K : AV → Heap → Option ρ) : XE → St → Option ρ := (blockK impl_IsPrime.kp 0 0 (seqK (xcode (E32 N) ents impl_IsPrime.kp 0 N (cB (cB (cB impl_IsPrime.bd))) 0) (impl_IsPrime.fin N K)))
theorem impl_IsPrime.k0_mix {ρ : Type} (N : Nat) (K : AV → Heap → Option ρ) : mixK (impl_IsPrime.fin N K .ret) (impl_IsPrime.k0 N K) = (impl_IsPrime.k0 N K) := by
  funext e s; cases e <;> kernel_rfl
def impl_IsPrime.st0 (p0 : Int) (k1 : Int) : St := ⟨sl 21 [(0, .int .i64 (p0)), (3, .int .i64 (k1))], []⟩
def impl_IsPrime.sx0_0 : St := ⟨sl 21 [], []⟩
theorem impl_IsPrime.b0_gen {ρ : Type} (N : Nat) (K : AV → Heap → Option ρ) (L0 : St → Option ρ) (kv : XE → St → Option ρ) (p0 : Int) (k1 : Int) :
    xcode (E32 N) ents impl_IsPrime.kp 0 N (cL (cK (cB (cA (cB (cB impl_IsPrime.bd)))))) 0 (impl_IsPrime.st0 p0 k1) (roundK impl_IsPrime.kp 0 0 L0 (mixK (impl_IsPrime.fin N K .ret) kv)) = (impl_IsPrime.b0 N (fun d0 => K (.bool (d0)) []) (fun k1 => L0 (impl_IsPrime.st0 p0 k1)) (kv (.exit 0) (impl_IsPrime.sx0_0)) p0 k1) := by kernel_rfl
theorem impl_IsPrime.b0_eq {ρ : Type} (N : Nat) (K : AV → Heap → Option ρ) (L0 : St → Option ρ) (p0 : Int) (k1 : Int) :
    xcode (E32 N) ents impl_IsPrime.kp 0 N (cL (cK (cB (cA (cB (cB impl_IsPrime.bd)))))) 0 (impl_IsPrime.st0 p0 k1) (roundK impl_IsPrime.kp 0 0 L0 (impl_IsPrime.k0 N K)) = (impl_IsPrime.b0 N (fun d0 => K (.bool (d0)) []) (fun k1 => L0 (impl_IsPrime.st0 p0 k1)) ((impl_IsPrime.k0 N K) (.exit 0) (impl_IsPrime.sx0_0)) p0 k1) := by
  have h := impl_IsPrime.b0_gen N K L0 (impl_IsPrime.k0 N K) p0 k1
  rw [impl_IsPrime.k0_mix] at h
  exact h
theorem impl_IsPrime.a0_0_eq {ρ : Type} (N : Nat) (K : AV → Heap → Option ρ) :
    (impl_IsPrime.k0 N K) (.exit 0) (impl_IsPrime.sx0_0) = (impl_IsPrime.a0_0 N (fun d0 => K (.bool (d0)) [])) := by kernel_rfl
theorem impl_IsPrime.l0_eq {ρ : Type} (N : Nat) (K : AV → Heap → Option ρ) (p0 : Int) :
    ∀ (m : Nat) (k1 : Int), xloop (xcode (E32 N) ents impl_IsPrime.kp 0 N (cL (cK (cB (cA (cB (cB impl_IsPrime.bd)))))) 0) impl_IsPrime.kp 0 0 m (impl_IsPrime.st0 p0 k1) (impl_IsPrime.k0 N K) = (impl_IsPrime.l0 N (fun d0 => K (.bool (d0)) []) p0 ((impl_IsPrime.k0 N K) (.exit 0) (impl_IsPrime.sx0_0)) m k1) := by
  intro m
  induction m with
  | zero => intros; rfl
  | succ m ih =>
    intro k1
    refine (impl_IsPrime.b0_eq N K (fun s => xloop (xcode (E32 N) ents impl_IsPrime.kp 0 N (cL (cK (cB (cA (cB (cB impl_IsPrime.bd)))))) 0) impl_IsPrime.kp 0 0 m s (impl_IsPrime.k0 N K)) p0 k1).trans ?_
    simp only [ih]
    kernel_rfl
theorem impl_IsPrime.s_eq {ρ : Type} (N : Nat) (K : AV → Heap → Option ρ) (p0 : Int) :
    xbody (E32 N) ents impl_IsPrime.kp N Try.f126 impl_IsPrime.bd [.int .i64 (p0)] [] K = (impl_IsPrime.s N (fun d0 => K (.bool (d0)) []) (fun k1 => xloop (xcode (E32 N) ents impl_IsPrime.kp 0 N (cL (cK (cB (cA (cB (cB impl_IsPrime.bd)))))) 0) impl_IsPrime.kp 0 0 N (impl_IsPrime.st0 p0 k1) (impl_IsPrime.k0 N K)) p0) := by kernel_rfl
theorem impl_IsPrime.eq {ρ : Type} (N : Nat) (K : AV → Heap → Option ρ) (p0 : Int) :
    xbody (E32 N) ents impl_IsPrime.kp N Try.f126 impl_IsPrime.bd [.int .i64 (p0)] [] K = (impl_IsPrime N (fun d0 => K (.bool (d0)) []) p0) := by
  refine (impl_IsPrime.s_eq N K p0).trans ?_
  simp only [impl_IsPrime.l0_eq, impl_IsPrime.a0_0_eq]
  kernel_rfl
def impl_IsPrime.en (N : Nat) (ρ : Type) : List AV → Heap → (AV → Heap → Option ρ) → Option ρ
  | [.int .i64 (p0)], [], K => (impl_IsPrime N (fun d0 => K (.bool (d0)) []) p0)
  | _, _, _ => none
theorem impl_IsPrime.en_ok (N : Nat) (hE : EnvOk (E32 N) ents) (ρ : Type) (args : List AV) (sh : Heap) (K : AV → Heap → Option ρ) (r : ρ) (h : impl_IsPrime.en N ρ args sh K = some r) : ∃ v sh', K v sh' = some r ∧ FnOk (E32 N).P 126 args sh v sh' := by
  unfold impl_IsPrime.en at h
  split at h
  · exact fn_ok hE (kp := impl_IsPrime.kp) (N := N) Try.func126 (c := impl_IsPrime.bd) (by kernel_rfl) ((impl_IsPrime.eq N _ _).trans h)
  · cases h
def E33 (N : Nat) : Env := (E32 N).add 126 (impl_IsPrime.en N)
theorem E33_ok (N : Nat) : EnvOk (E33 N) ents := Env.add_ok (E32_ok N) (impl_IsPrime.en_ok N (E32_ok N))
def impl_in.kp : Keeps := ⟨[], [], []⟩
def impl_in.bd : Code := bodyOf Try.f127
def impl_in.fin {ρ : Type} (N : Nat) (K : AV → Heap → Option ρ) : XE → St → Option ρ := finK (E33 N) impl_in.kp.fins Try.f127 [] K
theorem impl_in.eq {ρ : Type} (N : Nat) (K : AV → Heap → Option ρ) (x0 : Int) (least1 : Int) (most2 : Int) :
    xbody (E33 N) ents impl_in.kp N Try.f127 impl_in.bd [.int .i64 (x0), .int .i64 (least1), .int .i64 (most2)] [] K = (impl_in N (fun d0 => K (.bool (d0)) []) x0 least1 most2) := by kernel_rfl
def impl_in.en (N : Nat) (ρ : Type) : List AV → Heap → (AV → Heap → Option ρ) → Option ρ
  | [.int .i64 (x0), .int .i64 (least1), .int .i64 (most2)], [], K => (impl_in N (fun d0 => K (.bool (d0)) []) x0 least1 most2)
  | _, _, _ => none
theorem impl_in.en_ok (N : Nat) (hE : EnvOk (E33 N) ents) (ρ : Type) (args : List AV) (sh : Heap) (K : AV → Heap → Option ρ) (r : ρ) (h : impl_in.en N ρ args sh K = some r) : ∃ v sh', K v sh' = some r ∧ FnOk (E33 N).P 127 args sh v sh' := by
  unfold impl_in.en at h
  split at h
  · exact fn_ok hE (kp := impl_in.kp) (N := N) Try.func127 (c := impl_in.bd) (by kernel_rfl) ((impl_in.eq N _ _ _ _).trans h)
  · cases h
def E34 (N : Nat) : Env := (E33 N).add 127 (impl_in.en N)
theorem E34_ok (N : Nat) : EnvOk (E34 N) ents := Env.add_ok (E33_ok N) (impl_in.en_ok N (E33_ok N))
def impl_IsVector.kp : Keeps := ⟨[(0, [0, 1, 17, 18], [], [])], [(0, [], [], [])], []⟩
def impl_IsVector.bd : Code := bodyOf Try.f95
def impl_IsVector.fin {ρ : Type} (N : Nat) (K : AV → Heap → Option ρ) : XE → St → Option ρ := finK (E34 N) impl_IsVector.kp.fins Try.f95 [] K
def impl_IsVector.k0 {ρ : Type} (N : Nat) (K : AV → Heap → Option ρ) : XE → St → Option ρ := (blockK impl_IsVector.kp 0 0 (seqK (xcode (E34 N) ents impl_IsVector.kp 0 N (cB (cB (cB impl_IsVector.bd))) 0) (impl_IsVector.fin N K)))
theorem impl_IsVector.k0_mix {ρ : Type} (N : Nat) (K : AV → Heap → Option ρ) : mixK (impl_IsVector.fin N K .ret) (impl_IsVector.k0 N K) = (impl_IsVector.k0 N K) := by
  funext e s; cases e <;> kernel_rfl
def impl_IsVector.st0 (p0 : Int) (nv1 : Int) (v2 : Nat → Int) (x5 : Int) : St := ⟨sl 36 [(0, .int .i64 (p0)), (1, .int .i64 (nv1)), (17, .agg [⟨.u8, 8, v2⟩]), (18, .int .i64 (x5))], []⟩
def impl_IsVector.sx0_0 : St := ⟨sl 36 [], []⟩
theorem impl_IsVector.b0_gen {ρ : Type} (N : Nat) (K : AV → Heap → Option ρ) (L0 : St → Option ρ) (kv : XE → St → Option ρ) (p0 : Int) (nv1 : Int) (v2 : Nat → Int) (x5 : Int) :
    xcode (E34 N) ents impl_IsVector.kp 0 N (cL (cK (cB (cA (cB (cB impl_IsVector.bd)))))) 0 (impl_IsVector.st0 p0 nv1 v2 x5) (roundK impl_IsVector.kp 0 0 L0 (mixK (impl_IsVector.fin N K .ret) kv)) = (impl_IsVector.b0 N (fun d0 => K (.bool (d0)) []) (fun x5 => L0 (impl_IsVector.st0 p0 nv1 v2 x5)) (kv (.exit 0) (impl_IsVector.sx0_0)) p0 nv1 v2 x5) := by kernel_rfl
theorem impl_IsVector.b0_eq {ρ : Type} (N : Nat) (K : AV → Heap → Option ρ) (L0 : St → Option ρ) (p0 : Int) (nv1 : Int) (v2 : Nat → Int) (x5 : Int) :
    xcode (E34 N) ents impl_IsVector.kp 0 N (cL (cK (cB (cA (cB (cB impl_IsVector.bd)))))) 0 (impl_IsVector.st0 p0 nv1 v2 x5) (roundK impl_IsVector.kp 0 0 L0 (impl_IsVector.k0 N K)) = (impl_IsVector.b0 N (fun d0 => K (.bool (d0)) []) (fun x5 => L0 (impl_IsVector.st0 p0 nv1 v2 x5)) ((impl_IsVector.k0 N K) (.exit 0) (impl_IsVector.sx0_0)) p0 nv1 v2 x5) := by
  have h := impl_IsVector.b0_gen N K L0 (impl_IsVector.k0 N K) p0 nv1 v2 x5
  rw [impl_IsVector.k0_mix] at h
  exact h
theorem impl_IsVector.a0_0_eq {ρ : Type} (N : Nat) (K : AV → Heap → Option ρ) :
    (impl_IsVector.k0 N K) (.exit 0) (impl_IsVector.sx0_0) = (impl_IsVector.a0_0 N (fun d0 => K (.bool (d0)) [])) := by kernel_rfl
theorem impl_IsVector.l0_eq {ρ : Type} (N : Nat) (K : AV → Heap → Option ρ) (p0 : Int) (nv1 : Int) (v2 : Nat → Int) :
    ∀ (m : Nat) (x5 : Int), xloop (xcode (E34 N) ents impl_IsVector.kp 0 N (cL (cK (cB (cA (cB (cB impl_IsVector.bd)))))) 0) impl_IsVector.kp 0 0 m (impl_IsVector.st0 p0 nv1 v2 x5) (impl_IsVector.k0 N K) = (impl_IsVector.l0 N (fun d0 => K (.bool (d0)) []) p0 nv1 v2 ((impl_IsVector.k0 N K) (.exit 0) (impl_IsVector.sx0_0)) m x5) := by
  intro m
  induction m with
  | zero => intros; rfl
  | succ m ih =>
    intro x5
    refine (impl_IsVector.b0_eq N K (fun s => xloop (xcode (E34 N) ents impl_IsVector.kp 0 N (cL (cK (cB (cA (cB (cB impl_IsVector.bd)))))) 0) impl_IsVector.kp 0 0 m s (impl_IsVector.k0 N K)) p0 nv1 v2 x5).trans ?_
    simp only [ih]
    kernel_rfl
theorem impl_IsVector.s_eq {ρ : Type} (N : Nat) (K : AV → Heap → Option ρ) (p0 : Int) (nv1 : Int) (v2 : Nat → Int) :
    xbody (E34 N) ents impl_IsVector.kp N Try.f95 impl_IsVector.bd [.int .i64 (p0), .int .i64 (nv1), .agg [⟨.u8, 8, v2⟩]] [] K = (impl_IsVector.s N (fun d0 => K (.bool (d0)) []) (fun x5 => xloop (xcode (E34 N) ents impl_IsVector.kp 0 N (cL (cK (cB (cA (cB (cB impl_IsVector.bd)))))) 0) impl_IsVector.kp 0 0 N (impl_IsVector.st0 p0 nv1 v2 x5) (impl_IsVector.k0 N K)) p0 nv1) := by kernel_rfl
theorem impl_IsVector.eq {ρ : Type} (N : Nat) (K : AV → Heap → Option ρ) (p0 : Int) (nv1 : Int) (v2 : Nat → Int) :
    xbody (E34 N) ents impl_IsVector.kp N Try.f95 impl_IsVector.bd [.int .i64 (p0), .int .i64 (nv1), .agg [⟨.u8, 8, v2⟩]] [] K = (impl_IsVector N (fun d0 => K (.bool (d0)) []) p0 nv1 v2) := by
  refine (impl_IsVector.s_eq N K p0 nv1 v2).trans ?_
  simp only [impl_IsVector.l0_eq, impl_IsVector.a0_0_eq]
  kernel_rfl
def impl_IsVector.en (N : Nat) (ρ : Type) : List AV → Heap → (AV → Heap → Option ρ) → Option ρ
  | [.int .i64 (p0), .int .i64 (nv1), .agg [⟨.u8, 8, v2⟩]], [], K => (impl_IsVector N (fun d0 => K (.bool (d0)) []) p0 nv1 v2)
  | _, _, _ => none
theorem impl_IsVector.en_ok (N : Nat) (hE : EnvOk (E34 N) ents) (ρ : Type) (args : List AV) (sh : Heap) (K : AV → Heap → Option ρ) (r : ρ) (h : impl_IsVector.en N ρ args sh K = some r) : ∃ v sh', K v sh' = some r ∧ FnOk (E34 N).P 95 args sh v sh' := by
  unfold impl_IsVector.en at h
  split at h
  · exact fn_ok hE (kp := impl_IsVector.kp) (N := N) Try.func95 (c := impl_IsVector.bd) (by kernel_rfl) ((impl_IsVector.eq N _ _ _ _).trans h)
  · cases h
def E35 (N : Nat) : Env := (E34 N).add 95 (impl_IsVector.en N)
theorem E35_ok (N : Nat) : EnvOk (E35 N) ents := Env.add_ok (E34_ok N) (impl_IsVector.en_ok N (E34_ok N))
def impl_isLinear.kp : Keeps := ⟨[(0, [0, 1, 2, 11, 12], [], [])], [(0, [], [], [])], []⟩
def impl_isLinear.bd : Code := bodyOf Try.f111
def impl_isLinear.fin {ρ : Type} (N : Nat) (K : AV → Heap → Option ρ) (gv3 : Nat → Int) : XE → St → Option ρ := finK (E35 N) impl_isLinear.kp.fins Try.f111 [⟨false, .flat 64 (.ints .u8 gv3)⟩] K
def impl_isLinear.k0 {ρ : Type} (N : Nat) (K : AV → Heap → Option ρ) (gv3 : Nat → Int) : XE → St → Option ρ := (blockK impl_isLinear.kp 1 0 (seqK (xcode (E35 N) ents impl_isLinear.kp 1 N (cB (cB impl_isLinear.bd)) 0) (impl_isLinear.fin N K gv3)))
theorem impl_isLinear.k0_mix {ρ : Type} (N : Nat) (K : AV → Heap → Option ρ) (gv3 : Nat → Int) : mixK (impl_isLinear.fin N K gv3 .ret) (impl_isLinear.k0 N K gv3) = (impl_isLinear.k0 N K gv3) := by
  funext e s; cases e <;> kernel_rfl
def impl_isLinear.st0 (p0 : Int) (nv1 : Int) (size2 : Int) (gv3 : Nat → Int) (x4 : Int) : St := ⟨sl 34 [(0, .int .i64 (p0)), (1, .int .i64 (nv1)), (2, .int .i64 (size2)), (11, .sptr [(0, 64)]), (12, .int .i64 (x4))], [⟨false, .flat 64 (.ints .u8 gv3)⟩]⟩
def impl_isLinear.sx0_0 (gv3 : Nat → Int) : St := ⟨sl 34 [], [⟨false, .flat 64 (.ints .u8 gv3)⟩]⟩
theorem impl_isLinear.b0_gen {ρ : Type} (N : Nat) (K : AV → Heap → Option ρ) (L0 : St → Option ρ) (kv : XE → St → Option ρ) (p0 : Int) (nv1 : Int) (size2 : Int) (gv3 : Nat → Int) (x4 : Int) :
    xcode (E35 N) ents impl_isLinear.kp 1 N (cL (cK (cB (cA (cB impl_isLinear.bd))))) 0 (impl_isLinear.st0 p0 nv1 size2 gv3 x4) (roundK impl_isLinear.kp 1 0 L0 (mixK (impl_isLinear.fin N K gv3 .ret) kv)) = (impl_isLinear.b0 N (fun d0 => K (.bool (d0)) [⟨false, .flat 64 (.ints .u8 gv3)⟩]) (fun x4 => L0 (impl_isLinear.st0 p0 nv1 size2 gv3 x4)) (kv (.exit 0) (impl_isLinear.sx0_0 gv3)) p0 nv1 size2 gv3 x4) := by kernel_rfl
theorem impl_isLinear.b0_eq {ρ : Type} (N : Nat) (K : AV → Heap → Option ρ) (L0 : St → Option ρ) (p0 : Int) (nv1 : Int) (size2 : Int) (gv3 : Nat → Int) (x4 : Int) :
    xcode (E35 N) ents impl_isLinear.kp 1 N (cL (cK (cB (cA (cB impl_isLinear.bd))))) 0 (impl_isLinear.st0 p0 nv1 size2 gv3 x4) (roundK impl_isLinear.kp 1 0 L0 (impl_isLinear.k0 N K gv3)) = (impl_isLinear.b0 N (fun d0 => K (.bool (d0)) [⟨false, .flat 64 (.ints .u8 gv3)⟩]) (fun x4 => L0 (impl_isLinear.st0 p0 nv1 size2 gv3 x4)) ((impl_isLinear.k0 N K gv3) (.exit 0) (impl_isLinear.sx0_0 gv3)) p0 nv1 size2 gv3 x4) := by
  have h := impl_isLinear.b0_gen N K L0 (impl_isLinear.k0 N K gv3) p0 nv1 size2 gv3 x4
  rw [impl_isLinear.k0_mix] at h
  exact h
theorem impl_isLinear.a0_0_eq {ρ : Type} (N : Nat) (K : AV → Heap → Option ρ) (gv3 : Nat → Int) :
    (impl_isLinear.k0 N K gv3) (.exit 0) (impl_isLinear.sx0_0 gv3) = (impl_isLinear.a0_0 N (fun d0 => K (.bool (d0)) [⟨false, .flat 64 (.ints .u8 gv3)⟩])) := by kernel_rfl
theorem impl_isLinear.l0_eq {ρ : Type} (N : Nat) (K : AV → Heap → Option ρ) (p0 : Int) (nv1 : Int) (size2 : Int) (gv3 : Nat → Int) :
    ∀ (m : Nat) (x4 : Int), xloop (xcode (E35 N) ents impl_isLinear.kp 1 N (cL (cK (cB (cA (cB impl_isLinear.bd))))) 0) impl_isLinear.kp 1 0 m (impl_isLinear.st0 p0 nv1 size2 gv3 x4) (impl_isLinear.k0 N K gv3) = (impl_isLinear.l0 N (fun d0 => K (.bool (d0)) [⟨false, .flat 64 (.ints .u8 gv3)⟩]) p0 nv1 size2 gv3 ((impl_isLinear.k0 N K gv3) (.exit 0) (impl_isLinear.sx0_0 gv3)) m x4) := by
  intro m
  induction m with
  | zero => intros; rfl
  | succ m ih =>
    intro x4
    refine (impl_isLinear.b0_eq N K (fun s => xloop (xcode (E35 N) ents impl_isLinear.kp 1 N (cL (cK (cB (cA (cB impl_isLinear.bd))))) 0) impl_isLinear.kp 1 0 m s (impl_isLinear.k0 N K gv3)) p0 nv1 size2 gv3 x4).trans ?_
    simp only [ih]
    kernel_rfl
theorem impl_isLinear.s_eq {ρ : Type} (N : Nat) (K : AV → Heap → Option ρ) (p0 : Int) (nv1 : Int) (size2 : Int) (gv3 : Nat → Int) :
    xbody (E35 N) ents impl_isLinear.kp N Try.f111 impl_isLinear.bd [.int .i64 (p0), .int .i64 (nv1), .int .i64 (size2), .sptr [(0, 64)]] [⟨false, .flat 64 (.ints .u8 gv3)⟩] K = (impl_isLinear.s N (fun d0 => K (.bool (d0)) [⟨false, .flat 64 (.ints .u8 gv3)⟩]) (fun x4 => xloop (xcode (E35 N) ents impl_isLinear.kp 1 N (cL (cK (cB (cA (cB impl_isLinear.bd))))) 0) impl_isLinear.kp 1 0 N (impl_isLinear.st0 p0 nv1 size2 gv3 x4) (impl_isLinear.k0 N K gv3))) := by kernel_rfl
theorem impl_isLinear.eq {ρ : Type} (N : Nat) (K : AV → Heap → Option ρ) (p0 : Int) (nv1 : Int) (size2 : Int) (gv3 : Nat → Int) :
    xbody (E35 N) ents impl_isLinear.kp N Try.f111 impl_isLinear.bd [.int .i64 (p0), .int .i64 (nv1), .int .i64 (size2), .sptr [(0, 64)]] [⟨false, .flat 64 (.ints .u8 gv3)⟩] K = (impl_isLinear N (fun d0 => K (.bool (d0)) [⟨false, .flat 64 (.ints .u8 gv3)⟩]) p0 nv1 size2 gv3) := by
  refine (impl_isLinear.s_eq N K p0 nv1 size2 gv3).trans ?_
  simp only [impl_isLinear.l0_eq, impl_isLinear.a0_0_eq]
  kernel_rfl
def impl_isLinear.en (N : Nat) (ρ : Type) : List AV → Heap → (AV → Heap → Option ρ) → Option ρ
  | [.int .i64 (p0), .int .i64 (nv1), .int .i64 (size2), .sptr [(0, 64)]], [⟨false, .flat 64 (.ints .u8 gv3)⟩], K => (impl_isLinear N (fun d0 => K (.bool (d0)) [⟨false, .flat 64 (.ints .u8 gv3)⟩]) p0 nv1 size2 gv3)
  | _, _, _ => none
theorem impl_isLinear.en_ok (N : Nat) (hE : EnvOk (E35 N) ents) (ρ : Type) (args : List AV) (sh : Heap) (K : AV → Heap → Option ρ) (r : ρ) (h : impl_isLinear.en N ρ args sh K = some r) : ∃ v sh', K v sh' = some r ∧ FnOk (E35 N).P 111 args sh v sh' := by
  unfold impl_isLinear.en at h
  split at h
  · exact fn_ok hE (kp := impl_isLinear.kp) (N := N) Try.func111 (c := impl_isLinear.bd) (by kernel_rfl) ((impl_isLinear.eq N _ _ _ _ _).trans h)
  · cases h
def E36 (N : Nat) : Env := (E35 N).add 111 (impl_isLinear.en N)
theorem E36_ok (N : Nat) : EnvOk (E36 N) ents := Env.add_ok (E35_ok N) (impl_isLinear.en_ok N (E35_ok N))
def impl_isTable.kp : Keeps := ⟨[(0, [0, 1, 2, 8], [], [])], [(0, [], [], [])], []⟩
def impl_isTable.bd : Code := bodyOf Try.f96
def impl_isTable.fin {ρ : Type} (N : Nat) (K : AV → Heap → Option ρ) (gv2 : Nat → Int) : XE → St → Option ρ := finK (E36 N) impl_isTable.kp.fins Try.f96 [⟨false, .flat 512 (.ints .u8 gv2)⟩] K
def impl_isTable.k0 {ρ : Type} (N : Nat) (K : AV → Heap → Option ρ) (gv2 : Nat → Int) : XE → St → Option ρ := (blockK impl_isTable.kp 1 0 (seqK (xcode (E36 N) ents impl_isTable.kp 1 N (cB (cB impl_isTable.bd)) 0) (impl_isTable.fin N K gv2)))
theorem impl_isTable.k0_mix {ρ : Type} (N : Nat) (K : AV → Heap → Option ρ) (gv2 : Nat → Int) : mixK (impl_isTable.fin N K gv2 .ret) (impl_isTable.k0 N K gv2) = (impl_isTable.k0 N K gv2) := by
  funext e s; cases e <;> kernel_rfl
def impl_isTable.st0 (p0 : Int) (nv1 : Int) (gv2 : Nat → Int) (x3 : Int) : St := ⟨sl 35 [(0, .int .i64 (p0)), (1, .int .i64 (nv1)), (2, .sptr [(0, 512)]), (8, .int .i64 (x3))], [⟨false, .flat 512 (.ints .u8 gv2)⟩]⟩
def impl_isTable.sx0_0 (gv2 : Nat → Int) : St := ⟨sl 35 [], [⟨false, .flat 512 (.ints .u8 gv2)⟩]⟩
theorem impl_isTable.b0_gen {ρ : Type} (N : Nat) (K : AV → Heap → Option ρ) (L0 : St → Option ρ) (kv : XE → St → Option ρ) (p0 : Int) (nv1 : Int) (gv2 : Nat → Int) (x3 : Int) :
    xcode (E36 N) ents impl_isTable.kp 1 N (cL (cK (cB (cA (cB impl_isTable.bd))))) 0 (impl_isTable.st0 p0 nv1 gv2 x3) (roundK impl_isTable.kp 1 0 L0 (mixK (impl_isTable.fin N K gv2 .ret) kv)) = (impl_isTable.b0 N (fun d0 => K (.bool (d0)) [⟨false, .flat 512 (.ints .u8 gv2)⟩]) (fun x3 => L0 (impl_isTable.st0 p0 nv1 gv2 x3)) (kv (.exit 0) (impl_isTable.sx0_0 gv2)) p0 nv1 gv2 x3) := by kernel_rfl
theorem impl_isTable.b0_eq {ρ : Type} (N : Nat) (K : AV → Heap → Option ρ) (L0 : St → Option ρ) (p0 : Int) (nv1 : Int) (gv2 : Nat → Int) (x3 : Int) :
    xcode (E36 N) ents impl_isTable.kp 1 N (cL (cK (cB (cA (cB impl_isTable.bd))))) 0 (impl_isTable.st0 p0 nv1 gv2 x3) (roundK impl_isTable.kp 1 0 L0 (impl_isTable.k0 N K gv2)) = (impl_isTable.b0 N (fun d0 => K (.bool (d0)) [⟨false, .flat 512 (.ints .u8 gv2)⟩]) (fun x3 => L0 (impl_isTable.st0 p0 nv1 gv2 x3)) ((impl_isTable.k0 N K gv2) (.exit 0) (impl_isTable.sx0_0 gv2)) p0 nv1 gv2 x3) := by
  have h := impl_isTable.b0_gen N K L0 (impl_isTable.k0 N K gv2) p0 nv1 gv2 x3
  rw [impl_isTable.k0_mix] at h
  exact h
theorem impl_isTable.a0_0_eq {ρ : Type} (N : Nat) (K : AV → Heap → Option ρ) (gv2 : Nat → Int) :
    (impl_isTable.k0 N K gv2) (.exit 0) (impl_isTable.sx0_0 gv2) = (impl_isTable.a0_0 N (fun d0 => K (.bool (d0)) [⟨false, .flat 512 (.ints .u8 gv2)⟩])) := by kernel_rfl
theorem impl_isTable.l0_eq {ρ : Type} (N : Nat) (K : AV → Heap → Option ρ) (p0 : Int) (nv1 : Int) (gv2 : Nat → Int) :
    ∀ (m : Nat) (x3 : Int), xloop (xcode (E36 N) ents impl_isTable.kp 1 N (cL (cK (cB (cA (cB impl_isTable.bd))))) 0) impl_isTable.kp 1 0 m (impl_isTable.st0 p0 nv1 gv2 x3) (impl_isTable.k0 N K gv2) = (impl_isTable.l0 N (fun d0 => K (.bool (d0)) [⟨false, .flat 512 (.ints .u8 gv2)⟩]) p0 nv1 gv2 ((impl_isTable.k0 N K gv2) (.exit 0) (impl_isTable.sx0_0 gv2)) m x3) := by
  intro m
  induction m with
  | zero => intros; rfl
  | succ m ih =>
    intro x3
    refine (impl_isTable.b0_eq N K (fun s => xloop (xcode (E36 N) ents impl_isTable.kp 1 N (cL (cK (cB (cA (cB impl_isTable.bd))))) 0) impl_isTable.kp 1 0 m s (impl_isTable.k0 N K gv2)) p0 nv1 gv2 x3).trans ?_
    simp only [ih]
    kernel_rfl
theorem impl_isTable.s_eq {ρ : Type} (N : Nat) (K : AV → Heap → Option ρ) (p0 : Int) (nv1 : Int) (gv2 : Nat → Int) :
    xbody (E36 N) ents impl_isTable.kp N Try.f96 impl_isTable.bd [.int .i64 (p0), .int .i64 (nv1), .sptr [(0, 512)]] [⟨false, .flat 512 (.ints .u8 gv2)⟩] K = (impl_isTable.s N (fun d0 => K (.bool (d0)) [⟨false, .flat 512 (.ints .u8 gv2)⟩]) (fun x3 => xloop (xcode (E36 N) ents impl_isTable.kp 1 N (cL (cK (cB (cA (cB impl_isTable.bd))))) 0) impl_isTable.kp 1 0 N (impl_isTable.st0 p0 nv1 gv2 x3) (impl_isTable.k0 N K gv2))) := by kernel_rfl
theorem impl_isTable.eq {ρ : Type} (N : Nat) (K : AV → Heap → Option ρ) (p0 : Int) (nv1 : Int) (gv2 : Nat → Int) :
    xbody (E36 N) ents impl_isTable.kp N Try.f96 impl_isTable.bd [.int .i64 (p0), .int .i64 (nv1), .sptr [(0, 512)]] [⟨false, .flat 512 (.ints .u8 gv2)⟩] K = (impl_isTable N (fun d0 => K (.bool (d0)) [⟨false, .flat 512 (.ints .u8 gv2)⟩]) p0 nv1 gv2) := by
  refine (impl_isTable.s_eq N K p0 nv1 gv2).trans ?_
  simp only [impl_isTable.l0_eq, impl_isTable.a0_0_eq]
  kernel_rfl
def impl_isTable.en (N : Nat) (ρ : Type) : List AV → Heap → (AV → Heap → Option ρ) → Option ρ
  | [.int .i64 (p0), .int .i64 (nv1), .sptr [(0, 512)]], [⟨false, .flat 512 (.ints .u8 gv2)⟩], K => (impl_isTable N (fun d0 => K (.bool (d0)) [⟨false, .flat 512 (.ints .u8 gv2)⟩]) p0 nv1 gv2)
  | _, _, _ => none
theorem impl_isTable.en_ok (N : Nat) (hE : EnvOk (E36 N) ents) (ρ : Type) (args : List AV) (sh : Heap) (K : AV → Heap → Option ρ) (r : ρ) (h : impl_isTable.en N ρ args sh K = some r) : ∃ v sh', K v sh' = some r ∧ FnOk (E36 N).P 96 args sh v sh' := by
  unfold impl_isTable.en at h
  split at h
  · exact fn_ok hE (kp := impl_isTable.kp) (N := N) Try.func96 (c := impl_isTable.bd) (by kernel_rfl) ((impl_isTable.eq N _ _ _ _).trans h)
  · cases h
def E37 (N : Nat) : Env := (E36 N).add 96 (impl_isTable.en N)
theorem E37_ok (N : Nat) : EnvOk (E37 N) ents := Env.add_ok (E36_ok N) (impl_isTable.en_ok N (E36_ok N))
def impl_Coalgebra_isShaped.kp : Keeps := ⟨[], [], []⟩
def impl_Coalgebra_isShaped.bd : Code := bodyOf Try.f55
def impl_Coalgebra_isShaped.fin {ρ : Type} (N : Nat) (K : AV → Heap → Option ρ) (gv0 : Nat → Int) (gv1 : Nat → Int) : XE → St → Option ρ := finK (E37 N) impl_Coalgebra_isShaped.kp.fins Try.f55 [⟨false, .flat 2 (.ints .i64 gv0)⟩, ⟨false, .flat 520 (.ints .u8 gv1)⟩] K
theorem impl_Coalgebra_isShaped.eq {ρ : Type} (N : Nat) (K : AV → Heap → Option ρ) (gv0 : Nat → Int) (gv1 : Nat → Int) :
    xbody (E37 N) ents impl_Coalgebra_isShaped.kp N Try.f55 impl_Coalgebra_isShaped.bd [.sptr [(0, 2), (1, 520)]] [⟨false, .flat 2 (.ints .i64 gv0)⟩, ⟨false, .flat 520 (.ints .u8 gv1)⟩] K = (impl_Coalgebra_isShaped N (fun d0 => K (.bool (d0)) [⟨false, .flat 2 (.ints .i64 gv0)⟩, ⟨false, .flat 520 (.ints .u8 gv1)⟩]) gv0 gv1) := by kernel_rfl
def impl_Coalgebra_isShaped.en (N : Nat) (ρ : Type) : List AV → Heap → (AV → Heap → Option ρ) → Option ρ
  | [.sptr [(0, 2), (1, 520)]], [⟨false, .flat 2 (.ints .i64 gv0)⟩, ⟨false, .flat 520 (.ints .u8 gv1)⟩], K => (impl_Coalgebra_isShaped N (fun d0 => K (.bool (d0)) [⟨false, .flat 2 (.ints .i64 gv0)⟩, ⟨false, .flat 520 (.ints .u8 gv1)⟩]) gv0 gv1)
  | _, _, _ => none
theorem impl_Coalgebra_isShaped.en_ok (N : Nat) (hE : EnvOk (E37 N) ents) (ρ : Type) (args : List AV) (sh : Heap) (K : AV → Heap → Option ρ) (r : ρ) (h : impl_Coalgebra_isShaped.en N ρ args sh K = some r) : ∃ v sh', K v sh' = some r ∧ FnOk (E37 N).P 55 args sh v sh' := by
  unfold impl_Coalgebra_isShaped.en at h
  split at h
  · exact fn_ok hE (kp := impl_Coalgebra_isShaped.kp) (N := N) Try.func55 (c := impl_Coalgebra_isShaped.bd) (by kernel_rfl) ((impl_Coalgebra_isShaped.eq N _ _ _).trans h)
  · cases h
def E38 (N : Nat) : Env := (E37 N).add 55 (impl_Coalgebra_isShaped.en N)
theorem E38_ok (N : Nat) : EnvOk (E38 N) ents := Env.add_ok (E37_ok N) (impl_Coalgebra_isShaped.en_ok N (E37_ok N))
def impl_Coalgebra_field.kp : Keeps := ⟨[], [], []⟩
def impl_Coalgebra_field.bd : Code := bodyOf Try.f64
def impl_Coalgebra_field.fin {ρ : Type} (N : Nat) (K : AV → Heap → Option ρ) (gv0 : Nat → Int) (gv1 : Nat → Int) : XE → St → Option ρ := finK (E38 N) impl_Coalgebra_field.kp.fins Try.f64 [⟨false, .flat 2 (.ints .i64 gv0)⟩, ⟨false, .flat 520 (.ints .u8 gv1)⟩] K
theorem impl_Coalgebra_field.eq {ρ : Type} (N : Nat) (K : AV → Heap → Option ρ) (gv0 : Nat → Int) (gv1 : Nat → Int) :
    xbody (E38 N) ents impl_Coalgebra_field.kp N Try.f64 impl_Coalgebra_field.bd [.sptr [(0, 2), (1, 520)]] [⟨false, .flat 2 (.ints .i64 gv0)⟩, ⟨false, .flat 520 (.ints .u8 gv1)⟩] K = (impl_Coalgebra_field N (fun d0 => K (.agg [⟨.i64, 2, d0⟩]) [⟨false, .flat 2 (.ints .i64 gv0)⟩, ⟨false, .flat 520 (.ints .u8 gv1)⟩]) gv0 gv1) := by kernel_rfl
def impl_Coalgebra_field.en (N : Nat) (ρ : Type) : List AV → Heap → (AV → Heap → Option ρ) → Option ρ
  | [.sptr [(0, 2), (1, 520)]], [⟨false, .flat 2 (.ints .i64 gv0)⟩, ⟨false, .flat 520 (.ints .u8 gv1)⟩], K => (impl_Coalgebra_field N (fun d0 => K (.agg [⟨.i64, 2, d0⟩]) [⟨false, .flat 2 (.ints .i64 gv0)⟩, ⟨false, .flat 520 (.ints .u8 gv1)⟩]) gv0 gv1)
  | _, _, _ => none
theorem impl_Coalgebra_field.en_ok (N : Nat) (hE : EnvOk (E38 N) ents) (ρ : Type) (args : List AV) (sh : Heap) (K : AV → Heap → Option ρ) (r : ρ) (h : impl_Coalgebra_field.en N ρ args sh K = some r) : ∃ v sh', K v sh' = some r ∧ FnOk (E38 N).P 64 args sh v sh' := by
  unfold impl_Coalgebra_field.en at h
  split at h
  · exact fn_ok hE (kp := impl_Coalgebra_field.kp) (N := N) Try.func64 (c := impl_Coalgebra_field.bd) (by kernel_rfl) ((impl_Coalgebra_field.eq N _ _ _).trans h)
  · cases h
def E39 (N : Nat) : Env := (E38 N).add 64 (impl_Coalgebra_field.en N)
theorem E39_ok (N : Nat) : EnvOk (E39 N) ents := Env.add_ok (E38_ok N) (impl_Coalgebra_field.en_ok N (E38_ok N))
def impl_field_mod.kp : Keeps := ⟨[], [], []⟩
def impl_field_mod.bd : Code := bodyOf Try.f128
def impl_field_mod.fin {ρ : Type} (N : Nat) (K : AV → Heap → Option ρ) : XE → St → Option ρ := finK (E39 N) impl_field_mod.kp.fins Try.f128 [] K
theorem impl_field_mod.eq {ρ : Type} (N : Nat) (K : AV → Heap → Option ρ) (f0 : Nat → Int) (x1 : Int) :
    xbody (E39 N) ents impl_field_mod.kp N Try.f128 impl_field_mod.bd [.agg [⟨.i64, 2, f0⟩], .int .i64 (x1)] [] K = (impl_field_mod N (fun d0 => K (.int .u8 (d0)) []) f0 x1) := by kernel_rfl
def impl_field_mod.en (N : Nat) (ρ : Type) : List AV → Heap → (AV → Heap → Option ρ) → Option ρ
  | [.agg [⟨.i64, 2, f0⟩], .int .i64 (x1)], [], K => (impl_field_mod N (fun d0 => K (.int .u8 (d0)) []) f0 x1)
  | _, _, _ => none
theorem impl_field_mod.en_ok (N : Nat) (hE : EnvOk (E39 N) ents) (ρ : Type) (args : List AV) (sh : Heap) (K : AV → Heap → Option ρ) (r : ρ) (h : impl_field_mod.en N ρ args sh K = some r) : ∃ v sh', K v sh' = some r ∧ FnOk (E39 N).P 128 args sh v sh' := by
  unfold impl_field_mod.en at h
  split at h
  · exact fn_ok hE (kp := impl_field_mod.kp) (N := N) Try.func128 (c := impl_field_mod.bd) (by kernel_rfl) ((impl_field_mod.eq N _ _ _).trans h)
  · cases h
def E40 (N : Nat) : Env := (E39 N).add 128 (impl_field_mod.en N)
theorem E40_ok (N : Nat) : EnvOk (E40 N) ents := Env.add_ok (E39_ok N) (impl_field_mod.en_ok N (E39_ok N))
def impl_field_plus.kp : Keeps := ⟨[(0, [1, 2, 4, 12, 13], [], [])], [(0, [], [], [])], []⟩
def impl_field_plus.bd : Code := bodyOf Try.f97
def impl_field_plus.fin {ρ : Type} (N : Nat) (K : AV → Heap → Option ρ) (gv3 : Nat → Int) : XE → St → Option ρ := finK (E40 N) impl_field_plus.kp.fins Try.f97 [⟨true, .flat 8 (.ints .u8 gv3)⟩] K
def impl_field_plus.k0 {ρ : Type} (N : Nat) (K : AV → Heap → Option ρ) (gv3 : Nat → Int) : XE → St → Option ρ := (blockK impl_field_plus.kp 1 0 (impl_field_plus.fin N K gv3))
theorem impl_field_plus.k0_mix {ρ : Type} (N : Nat) (K : AV → Heap → Option ρ) (gv3 : Nat → Int) : mixK (impl_field_plus.fin N K gv3 .ret) (impl_field_plus.k0 N K gv3) = (impl_field_plus.k0 N K gv3) := by
  funext e s; cases e <;> kernel_rfl
def impl_field_plus.st0 (f0 : Nat → Int) (k1 : Int) (w2 : Nat → Int) (x4 : Int) (gv5 : Nat → Int) : St := ⟨sl 35 [(1, .sptr [(0, 8)]), (2, .int .i64 (k1)), (4, .sptr [(1, 2)]), (12, .agg [⟨.u8, 8, w2⟩]), (13, .int .i64 (x4))], [⟨true, .flat 8 (.ints .u8 gv5)⟩, ⟨true, .flat 2 (.ints .i64 f0)⟩]⟩
def impl_field_plus.sx0_0 (ov7 : Nat → Int) : St := ⟨sl 35 [], [⟨true, .flat 8 (.ints .u8 ov7)⟩]⟩
theorem impl_field_plus.b0_gen {ρ : Type} (N : Nat) (K : AV → Heap → Option ρ) (L0 : St → Option ρ) (kv : XE → St → Option ρ) (f0 : Nat → Int) (k1 : Int) (w2 : Nat → Int) (gv3 : Nat → Int) (x4 : Int) (gv5 : Nat → Int) :
    xcode (E40 N) ents impl_field_plus.kp 1 N (cL (cK (cB (cB (cB impl_field_plus.bd))))) 0 (impl_field_plus.st0 f0 k1 w2 x4 gv5) (roundK impl_field_plus.kp 1 0 L0 (mixK (impl_field_plus.fin N K gv3 .ret) kv)) = (impl_field_plus.b0 N (fun d0 => K (.tup []) [⟨true, .flat 8 (.ints .u8 d0)⟩]) (fun x4 gv5 => L0 (impl_field_plus.st0 f0 k1 w2 x4 gv5)) (fun ov7 => kv (.exit 0) (impl_field_plus.sx0_0 ov7)) f0 k1 w2 x4 gv5) := by kernel_rfl
theorem impl_field_plus.b0_eq {ρ : Type} (N : Nat) (K : AV → Heap → Option ρ) (L0 : St → Option ρ) (f0 : Nat → Int) (k1 : Int) (w2 : Nat → Int) (gv3 : Nat → Int) (x4 : Int) (gv5 : Nat → Int) :
    xcode (E40 N) ents impl_field_plus.kp 1 N (cL (cK (cB (cB (cB impl_field_plus.bd))))) 0 (impl_field_plus.st0 f0 k1 w2 x4 gv5) (roundK impl_field_plus.kp 1 0 L0 (impl_field_plus.k0 N K gv3)) = (impl_field_plus.b0 N (fun d0 => K (.tup []) [⟨true, .flat 8 (.ints .u8 d0)⟩]) (fun x4 gv5 => L0 (impl_field_plus.st0 f0 k1 w2 x4 gv5)) (fun ov7 => (impl_field_plus.k0 N K gv3) (.exit 0) (impl_field_plus.sx0_0 ov7)) f0 k1 w2 x4 gv5) := by
  have h := impl_field_plus.b0_gen N K L0 (impl_field_plus.k0 N K gv3) f0 k1 w2 gv3 x4 gv5
  rw [impl_field_plus.k0_mix] at h
  exact h
theorem impl_field_plus.a0_0_eq {ρ : Type} (N : Nat) (K : AV → Heap → Option ρ) (gv3 : Nat → Int) (ov7 : Nat → Int) :
    (impl_field_plus.k0 N K gv3) (.exit 0) (impl_field_plus.sx0_0 ov7) = (impl_field_plus.a0_0 N (fun d0 => K (.tup []) [⟨true, .flat 8 (.ints .u8 d0)⟩]) ov7) := by kernel_rfl
theorem impl_field_plus.l0_eq {ρ : Type} (N : Nat) (K : AV → Heap → Option ρ) (f0 : Nat → Int) (k1 : Int) (w2 : Nat → Int) (gv3 : Nat → Int) :
    ∀ (m : Nat) (x4 : Int) (gv5 : Nat → Int), xloop (xcode (E40 N) ents impl_field_plus.kp 1 N (cL (cK (cB (cB (cB impl_field_plus.bd))))) 0) impl_field_plus.kp 1 0 m (impl_field_plus.st0 f0 k1 w2 x4 gv5) (impl_field_plus.k0 N K gv3) = (impl_field_plus.l0 N (fun d0 => K (.tup []) [⟨true, .flat 8 (.ints .u8 d0)⟩]) f0 k1 w2 (fun ov7 => (impl_field_plus.k0 N K gv3) (.exit 0) (impl_field_plus.sx0_0 ov7)) m x4 gv5) := by
  intro m
  induction m with
  | zero => intros; rfl
  | succ m ih =>
    intro x4 gv5
    refine (impl_field_plus.b0_eq N K (fun s => xloop (xcode (E40 N) ents impl_field_plus.kp 1 N (cL (cK (cB (cB (cB impl_field_plus.bd))))) 0) impl_field_plus.kp 1 0 m s (impl_field_plus.k0 N K gv3)) f0 k1 w2 gv3 x4 gv5).trans ?_
    simp only [ih]
    kernel_rfl
theorem impl_field_plus.s_eq {ρ : Type} (N : Nat) (K : AV → Heap → Option ρ) (f0 : Nat → Int) (k1 : Int) (w2 : Nat → Int) (gv3 : Nat → Int) :
    xbody (E40 N) ents impl_field_plus.kp N Try.f97 impl_field_plus.bd [.agg [⟨.i64, 2, f0⟩], .sptr [(0, 8)], .int .i64 (k1), .agg [⟨.u8, 8, w2⟩]] [⟨true, .flat 8 (.ints .u8 gv3)⟩] K = (impl_field_plus.s N (fun d0 => K (.tup []) [⟨true, .flat 8 (.ints .u8 d0)⟩]) (fun x4 gv5 => xloop (xcode (E40 N) ents impl_field_plus.kp 1 N (cL (cK (cB (cB (cB impl_field_plus.bd))))) 0) impl_field_plus.kp 1 0 N (impl_field_plus.st0 f0 k1 w2 x4 gv5) (impl_field_plus.k0 N K gv3)) k1 gv3) := by kernel_rfl
theorem impl_field_plus.eq {ρ : Type} (N : Nat) (K : AV → Heap → Option ρ) (f0 : Nat → Int) (k1 : Int) (w2 : Nat → Int) (gv3 : Nat → Int) :
    xbody (E40 N) ents impl_field_plus.kp N Try.f97 impl_field_plus.bd [.agg [⟨.i64, 2, f0⟩], .sptr [(0, 8)], .int .i64 (k1), .agg [⟨.u8, 8, w2⟩]] [⟨true, .flat 8 (.ints .u8 gv3)⟩] K = (impl_field_plus N (fun d0 => K (.tup []) [⟨true, .flat 8 (.ints .u8 d0)⟩]) f0 k1 w2 gv3) := by
  refine (impl_field_plus.s_eq N K f0 k1 w2 gv3).trans ?_
  simp only [impl_field_plus.l0_eq, impl_field_plus.a0_0_eq]
  kernel_rfl
def impl_field_plus.en (N : Nat) (ρ : Type) : List AV → Heap → (AV → Heap → Option ρ) → Option ρ
  | [.agg [⟨.i64, 2, f0⟩], .sptr [(0, 8)], .int .i64 (k1), .agg [⟨.u8, 8, w2⟩]], [⟨true, .flat 8 (.ints .u8 gv3)⟩], K => (impl_field_plus N (fun d0 => K (.tup []) [⟨true, .flat 8 (.ints .u8 d0)⟩]) f0 k1 w2 gv3)
  | _, _, _ => none
theorem impl_field_plus.en_ok (N : Nat) (hE : EnvOk (E40 N) ents) (ρ : Type) (args : List AV) (sh : Heap) (K : AV → Heap → Option ρ) (r : ρ) (h : impl_field_plus.en N ρ args sh K = some r) : ∃ v sh', K v sh' = some r ∧ FnOk (E40 N).P 97 args sh v sh' := by
  unfold impl_field_plus.en at h
  split at h
  · exact fn_ok hE (kp := impl_field_plus.kp) (N := N) Try.func97 (c := impl_field_plus.bd) (by kernel_rfl) ((impl_field_plus.eq N _ _ _ _ _).trans h)
  · cases h
def E41 (N : Nat) : Env := (E40 N).add 97 (impl_field_plus.en N)
theorem E41_ok (N : Nat) : EnvOk (E41 N) ents := Env.add_ok (E40_ok N) (impl_field_plus.en_ok N (E40_ok N))
end
end Go.Proofs.Ythecjjnieojjoaa.H
