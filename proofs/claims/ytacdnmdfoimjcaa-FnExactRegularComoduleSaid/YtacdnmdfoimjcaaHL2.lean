/- The program computes these functions. -/
import Derived.Test.YtacdnmdfoimjcaaHL1
namespace Go.Proofs.Ytacdnmdfoimjcaa.H
set_option linter.unusedVariables false
set_option linter.unusedSimpArgs false
open Go Go.RowKit Go.Proofs.Ytacdnmdfoimjcaa.Hx
set_option linter.unusedVariables false
set_option maxRecDepth 100000
noncomputable def impl_in.kp : Keeps := ⟨[], []⟩

noncomputable def impl_in.bd : Code := bodyOf Go.Proofs.Try.f99

noncomputable def impl_in.fin {ρ : Type} (N : Nat) (K : AV → Heap → Option ρ) : XE → St → Option ρ := finK (E38 N) Go.Proofs.Try.f99 [] K

theorem impl_in.eq {ρ : Type} (N : Nat) (K : AV → Heap → Option ρ) (x0 : Int) (least1 : Int) (most2 : Int) :
    xbody (E38 N) ents impl_in.kp N Go.Proofs.Try.f99 impl_in.bd [.int .i64 (x0), .int .i64 (least1), .int .i64 (most2)] [] K = (impl_in N (fun d0 => K (.bool (d0)) []) x0 least1 most2) := by kernel_rfl

noncomputable def impl_in.en (N : Nat) (ρ : Type) : List AV → Heap → (AV → Heap → Option ρ) → Option ρ
  | [.int .i64 (x0), .int .i64 (least1), .int .i64 (most2)], [], K => (impl_in N (fun d0 => K (.bool (d0)) []) x0 least1 most2)
  | _, _, _ => none

theorem impl_in.en_ok (N : Nat) (hE : EnvOk (E38 N) ents) (ρ : Type) (args : List AV) (sh : Heap) (K : AV → Heap → Option ρ) (r : ρ) (h : impl_in.en N ρ args sh K = some r) : ∃ v sh', K v sh' = some r ∧ FnOk (E38 N).P 99 args sh v sh' := by
  unfold impl_in.en at h
  split at h
  · exact fn_ok hE (kp := impl_in.kp) (N := N) Go.Proofs.Try.func99 (c := impl_in.bd) (by kernel_rfl) ((impl_in.eq N _ _ _ _).trans h)
  · cases h

noncomputable def E39 (N : Nat) : Env := (E38 N).add 99 (impl_in.en N)

theorem E39_ok (N : Nat) : EnvOk (E39 N) ents := Env.add_ok (E38_ok N) (impl_in.en_ok N (E38_ok N))

noncomputable def impl_IsVector.kp : Keeps := ⟨[(0, [0, 1, 17, 18], 1)], [(0, [], 1)]⟩

noncomputable def impl_IsVector.bd : Code := bodyOf Go.Proofs.Try.f80

noncomputable def impl_IsVector.fin {ρ : Type} (N : Nat) (K : AV → Heap → Option ρ) : XE → St → Option ρ := finK (E39 N) Go.Proofs.Try.f80 [] K

noncomputable def impl_IsVector.k0 {ρ : Type} (N : Nat) (K : AV → Heap → Option ρ) : XE → St → Option ρ := (blockK impl_IsVector.kp 0 0 (seqK (xcode (E39 N) ents impl_IsVector.kp 0 N (cB (cB (cB impl_IsVector.bd))) 0) (impl_IsVector.fin N K)))

theorem impl_IsVector.k0_mix {ρ : Type} (N : Nat) (K : AV → Heap → Option ρ) : mixK (impl_IsVector.fin N K .ret) (impl_IsVector.k0 N K) = (impl_IsVector.k0 N K) := by
  funext e s; cases e <;> rfl

noncomputable def impl_IsVector.st0 (p0 : Int) (n1 : Int) (v2 : Nat → Int) (x5 : Int) : St := ⟨sl 36 [(0, .int .i64 (p0)), (1, .int .i64 (n1)), (17, .agg [⟨.u8, 8, v2⟩]), (18, .int .i64 (x5))], [⟨true, .ints .u8 8 v2⟩]⟩

noncomputable def impl_IsVector.sx0_0 (v2 : Nat → Int) : St := ⟨sl 36 [], [⟨true, .ints .u8 8 v2⟩]⟩

theorem impl_IsVector.b0_gen {ρ : Type} (N : Nat) (K : AV → Heap → Option ρ) (L0 : St → Option ρ) (kv : XE → St → Option ρ) (p0 : Int) (n1 : Int) (v2 : Nat → Int) (x5 : Int) :
    xcode (E39 N) ents impl_IsVector.kp 0 N (cL (cK (cB (cA (cB (cB impl_IsVector.bd)))))) 0 (impl_IsVector.st0 p0 n1 v2 x5) (roundK impl_IsVector.kp 0 0 L0 (mixK (impl_IsVector.fin N K .ret) kv)) = (impl_IsVector.b0 N (fun d0 => K (.bool (d0)) []) (fun x5 => L0 (impl_IsVector.st0 p0 n1 v2 x5)) (kv (.exit 0) (impl_IsVector.sx0_0 v2)) p0 n1 v2 x5) := by kernel_rfl

theorem impl_IsVector.b0_eq {ρ : Type} (N : Nat) (K : AV → Heap → Option ρ) (L0 : St → Option ρ) (p0 : Int) (n1 : Int) (v2 : Nat → Int) (x5 : Int) :
    xcode (E39 N) ents impl_IsVector.kp 0 N (cL (cK (cB (cA (cB (cB impl_IsVector.bd)))))) 0 (impl_IsVector.st0 p0 n1 v2 x5) (roundK impl_IsVector.kp 0 0 L0 (impl_IsVector.k0 N K)) = (impl_IsVector.b0 N (fun d0 => K (.bool (d0)) []) (fun x5 => L0 (impl_IsVector.st0 p0 n1 v2 x5)) ((impl_IsVector.k0 N K) (.exit 0) (impl_IsVector.sx0_0 v2)) p0 n1 v2 x5) := by
  have h := impl_IsVector.b0_gen N K L0 (impl_IsVector.k0 N K) p0 n1 v2 x5
  rw [impl_IsVector.k0_mix] at h
  exact h

theorem impl_IsVector.a0_0_eq {ρ : Type} (N : Nat) (K : AV → Heap → Option ρ) (v2 : Nat → Int) :
    (impl_IsVector.k0 N K) (.exit 0) (impl_IsVector.sx0_0 v2) = (impl_IsVector.a0_0 N (fun d0 => K (.bool (d0)) [])) := by kernel_rfl

theorem impl_IsVector.l0_eq {ρ : Type} (N : Nat) (K : AV → Heap → Option ρ) (p0 : Int) (n1 : Int) (v2 : Nat → Int) :
    ∀ (m : Nat) (x5 : Int), xloop (xcode (E39 N) ents impl_IsVector.kp 0 N (cL (cK (cB (cA (cB (cB impl_IsVector.bd)))))) 0) impl_IsVector.kp 0 0 m (impl_IsVector.st0 p0 n1 v2 x5) (impl_IsVector.k0 N K) = (impl_IsVector.l0 N (fun d0 => K (.bool (d0)) []) p0 n1 v2 ((impl_IsVector.k0 N K) (.exit 0) (impl_IsVector.sx0_0 v2)) m x5) := by
  intro m
  induction m with
  | zero => intros; rfl
  | succ m ih =>
    intro x5
    refine (impl_IsVector.b0_eq N K (fun s => xloop (xcode (E39 N) ents impl_IsVector.kp 0 N (cL (cK (cB (cA (cB (cB impl_IsVector.bd)))))) 0) impl_IsVector.kp 0 0 m s (impl_IsVector.k0 N K)) p0 n1 v2 x5).trans ?_
    simp only [ih]
    kernel_rfl

theorem impl_IsVector.s_eq {ρ : Type} (N : Nat) (K : AV → Heap → Option ρ) (p0 : Int) (n1 : Int) (v2 : Nat → Int) :
    xbody (E39 N) ents impl_IsVector.kp N Go.Proofs.Try.f80 impl_IsVector.bd [.int .i64 (p0), .int .i64 (n1), .agg [⟨.u8, 8, v2⟩]] [] K = (impl_IsVector.s N (fun d0 => K (.bool (d0)) []) (fun x5 => xloop (xcode (E39 N) ents impl_IsVector.kp 0 N (cL (cK (cB (cA (cB (cB impl_IsVector.bd)))))) 0) impl_IsVector.kp 0 0 N (impl_IsVector.st0 p0 n1 v2 x5) (impl_IsVector.k0 N K)) p0 n1) := by kernel_rfl

theorem impl_IsVector.eq {ρ : Type} (N : Nat) (K : AV → Heap → Option ρ) (p0 : Int) (n1 : Int) (v2 : Nat → Int) :
    xbody (E39 N) ents impl_IsVector.kp N Go.Proofs.Try.f80 impl_IsVector.bd [.int .i64 (p0), .int .i64 (n1), .agg [⟨.u8, 8, v2⟩]] [] K = (impl_IsVector N (fun d0 => K (.bool (d0)) []) p0 n1 v2) := by
  refine (impl_IsVector.s_eq N K p0 n1 v2).trans ?_
  simp only [impl_IsVector.l0_eq, impl_IsVector.a0_0_eq]
  kernel_rfl

noncomputable def impl_IsVector.en (N : Nat) (ρ : Type) : List AV → Heap → (AV → Heap → Option ρ) → Option ρ
  | [.int .i64 (p0), .int .i64 (n1), .agg [⟨.u8, 8, v2⟩]], [], K => (impl_IsVector N (fun d0 => K (.bool (d0)) []) p0 n1 v2)
  | _, _, _ => none

theorem impl_IsVector.en_ok (N : Nat) (hE : EnvOk (E39 N) ents) (ρ : Type) (args : List AV) (sh : Heap) (K : AV → Heap → Option ρ) (r : ρ) (h : impl_IsVector.en N ρ args sh K = some r) : ∃ v sh', K v sh' = some r ∧ FnOk (E39 N).P 80 args sh v sh' := by
  unfold impl_IsVector.en at h
  split at h
  · exact fn_ok hE (kp := impl_IsVector.kp) (N := N) Go.Proofs.Try.func80 (c := impl_IsVector.bd) (by kernel_rfl) ((impl_IsVector.eq N _ _ _ _).trans h)
  · cases h

noncomputable def E40 (N : Nat) : Env := (E39 N).add 80 (impl_IsVector.en N)

theorem E40_ok (N : Nat) : EnvOk (E40 N) ents := Env.add_ok (E39_ok N) (impl_IsVector.en_ok N (E39_ok N))

noncomputable def impl_isLinear.kp : Keeps := ⟨[(0, [0, 1, 2, 11, 12], 1)], [(0, [], 1)]⟩

noncomputable def impl_isLinear.bd : Code := bodyOf Go.Proofs.Try.f57

noncomputable def impl_isLinear.fin {ρ : Type} (N : Nat) (K : AV → Heap → Option ρ) (g3 : Nat → Int) : XE → St → Option ρ := finK (E40 N) Go.Proofs.Try.f57 [⟨false, .ints .u8 64 g3⟩] K

noncomputable def impl_isLinear.k0 {ρ : Type} (N : Nat) (K : AV → Heap → Option ρ) (g3 : Nat → Int) : XE → St → Option ρ := (blockK impl_isLinear.kp 1 0 (seqK (xcode (E40 N) ents impl_isLinear.kp 1 N (cB (cB impl_isLinear.bd)) 0) (impl_isLinear.fin N K g3)))

theorem impl_isLinear.k0_mix {ρ : Type} (N : Nat) (K : AV → Heap → Option ρ) (g3 : Nat → Int) : mixK (impl_isLinear.fin N K g3 .ret) (impl_isLinear.k0 N K g3) = (impl_isLinear.k0 N K g3) := by
  funext e s; cases e <;> rfl

noncomputable def impl_isLinear.st0 (p0 : Int) (n1 : Int) (size2 : Int) (g3 : Nat → Int) (x4 : Int) : St := ⟨sl 34 [(0, .int .i64 (p0)), (1, .int .i64 (n1)), (2, .int .i64 (size2)), (11, .sptr [(0, 64)]), (12, .int .i64 (x4))], [⟨false, .ints .u8 64 g3⟩]⟩

noncomputable def impl_isLinear.sx0_0 (g3 : Nat → Int) : St := ⟨sl 34 [], [⟨false, .ints .u8 64 g3⟩]⟩

theorem impl_isLinear.b0_gen {ρ : Type} (N : Nat) (K : AV → Heap → Option ρ) (L0 : St → Option ρ) (kv : XE → St → Option ρ) (p0 : Int) (n1 : Int) (size2 : Int) (g3 : Nat → Int) (x4 : Int) :
    xcode (E40 N) ents impl_isLinear.kp 1 N (cL (cK (cB (cA (cB impl_isLinear.bd))))) 0 (impl_isLinear.st0 p0 n1 size2 g3 x4) (roundK impl_isLinear.kp 1 0 L0 (mixK (impl_isLinear.fin N K g3 .ret) kv)) = (impl_isLinear.b0 N (fun d0 => K (.bool (d0)) [⟨false, .ints .u8 64 g3⟩]) (fun x4 => L0 (impl_isLinear.st0 p0 n1 size2 g3 x4)) (kv (.exit 0) (impl_isLinear.sx0_0 g3)) p0 n1 size2 g3 x4) := by kernel_rfl

theorem impl_isLinear.b0_eq {ρ : Type} (N : Nat) (K : AV → Heap → Option ρ) (L0 : St → Option ρ) (p0 : Int) (n1 : Int) (size2 : Int) (g3 : Nat → Int) (x4 : Int) :
    xcode (E40 N) ents impl_isLinear.kp 1 N (cL (cK (cB (cA (cB impl_isLinear.bd))))) 0 (impl_isLinear.st0 p0 n1 size2 g3 x4) (roundK impl_isLinear.kp 1 0 L0 (impl_isLinear.k0 N K g3)) = (impl_isLinear.b0 N (fun d0 => K (.bool (d0)) [⟨false, .ints .u8 64 g3⟩]) (fun x4 => L0 (impl_isLinear.st0 p0 n1 size2 g3 x4)) ((impl_isLinear.k0 N K g3) (.exit 0) (impl_isLinear.sx0_0 g3)) p0 n1 size2 g3 x4) := by
  have h := impl_isLinear.b0_gen N K L0 (impl_isLinear.k0 N K g3) p0 n1 size2 g3 x4
  rw [impl_isLinear.k0_mix] at h
  exact h

theorem impl_isLinear.a0_0_eq {ρ : Type} (N : Nat) (K : AV → Heap → Option ρ) (g3 : Nat → Int) :
    (impl_isLinear.k0 N K g3) (.exit 0) (impl_isLinear.sx0_0 g3) = (impl_isLinear.a0_0 N (fun d0 => K (.bool (d0)) [⟨false, .ints .u8 64 g3⟩])) := by kernel_rfl

theorem impl_isLinear.l0_eq {ρ : Type} (N : Nat) (K : AV → Heap → Option ρ) (p0 : Int) (n1 : Int) (size2 : Int) (g3 : Nat → Int) :
    ∀ (m : Nat) (x4 : Int), xloop (xcode (E40 N) ents impl_isLinear.kp 1 N (cL (cK (cB (cA (cB impl_isLinear.bd))))) 0) impl_isLinear.kp 1 0 m (impl_isLinear.st0 p0 n1 size2 g3 x4) (impl_isLinear.k0 N K g3) = (impl_isLinear.l0 N (fun d0 => K (.bool (d0)) [⟨false, .ints .u8 64 g3⟩]) p0 n1 size2 g3 ((impl_isLinear.k0 N K g3) (.exit 0) (impl_isLinear.sx0_0 g3)) m x4) := by
  intro m
  induction m with
  | zero => intros; rfl
  | succ m ih =>
    intro x4
    refine (impl_isLinear.b0_eq N K (fun s => xloop (xcode (E40 N) ents impl_isLinear.kp 1 N (cL (cK (cB (cA (cB impl_isLinear.bd))))) 0) impl_isLinear.kp 1 0 m s (impl_isLinear.k0 N K g3)) p0 n1 size2 g3 x4).trans ?_
    simp only [ih]
    kernel_rfl

theorem impl_isLinear.s_eq {ρ : Type} (N : Nat) (K : AV → Heap → Option ρ) (p0 : Int) (n1 : Int) (size2 : Int) (g3 : Nat → Int) :
    xbody (E40 N) ents impl_isLinear.kp N Go.Proofs.Try.f57 impl_isLinear.bd [.int .i64 (p0), .int .i64 (n1), .int .i64 (size2), .sptr [(0, 64)]] [⟨false, .ints .u8 64 g3⟩] K = (impl_isLinear.s N (fun d0 => K (.bool (d0)) [⟨false, .ints .u8 64 g3⟩]) (fun x4 => xloop (xcode (E40 N) ents impl_isLinear.kp 1 N (cL (cK (cB (cA (cB impl_isLinear.bd))))) 0) impl_isLinear.kp 1 0 N (impl_isLinear.st0 p0 n1 size2 g3 x4) (impl_isLinear.k0 N K g3))) := by kernel_rfl

theorem impl_isLinear.eq {ρ : Type} (N : Nat) (K : AV → Heap → Option ρ) (p0 : Int) (n1 : Int) (size2 : Int) (g3 : Nat → Int) :
    xbody (E40 N) ents impl_isLinear.kp N Go.Proofs.Try.f57 impl_isLinear.bd [.int .i64 (p0), .int .i64 (n1), .int .i64 (size2), .sptr [(0, 64)]] [⟨false, .ints .u8 64 g3⟩] K = (impl_isLinear N (fun d0 => K (.bool (d0)) [⟨false, .ints .u8 64 g3⟩]) p0 n1 size2 g3) := by
  refine (impl_isLinear.s_eq N K p0 n1 size2 g3).trans ?_
  simp only [impl_isLinear.l0_eq, impl_isLinear.a0_0_eq]
  kernel_rfl

noncomputable def impl_isLinear.en (N : Nat) (ρ : Type) : List AV → Heap → (AV → Heap → Option ρ) → Option ρ
  | [.int .i64 (p0), .int .i64 (n1), .int .i64 (size2), .sptr [(0, 64)]], [⟨false, .ints .u8 64 g3⟩], K => (impl_isLinear N (fun d0 => K (.bool (d0)) [⟨false, .ints .u8 64 g3⟩]) p0 n1 size2 g3)
  | _, _, _ => none

theorem impl_isLinear.en_ok (N : Nat) (hE : EnvOk (E40 N) ents) (ρ : Type) (args : List AV) (sh : Heap) (K : AV → Heap → Option ρ) (r : ρ) (h : impl_isLinear.en N ρ args sh K = some r) : ∃ v sh', K v sh' = some r ∧ FnOk (E40 N).P 57 args sh v sh' := by
  unfold impl_isLinear.en at h
  split at h
  · exact fn_ok hE (kp := impl_isLinear.kp) (N := N) Go.Proofs.Try.func57 (c := impl_isLinear.bd) (by kernel_rfl) ((impl_isLinear.eq N _ _ _ _ _).trans h)
  · cases h

noncomputable def E41 (N : Nat) : Env := (E40 N).add 57 (impl_isLinear.en N)

theorem E41_ok (N : Nat) : EnvOk (E41 N) ents := Env.add_ok (E40_ok N) (impl_isLinear.en_ok N (E40_ok N))

noncomputable def impl_isTable.kp : Keeps := ⟨[(0, [0, 1, 2, 8], 1)], [(0, [], 1)]⟩

noncomputable def impl_isTable.bd : Code := bodyOf Go.Proofs.Try.f81

noncomputable def impl_isTable.fin {ρ : Type} (N : Nat) (K : AV → Heap → Option ρ) (g2 : Nat → Int) : XE → St → Option ρ := finK (E41 N) Go.Proofs.Try.f81 [⟨false, .ints .u8 512 g2⟩] K

noncomputable def impl_isTable.k0 {ρ : Type} (N : Nat) (K : AV → Heap → Option ρ) (g2 : Nat → Int) : XE → St → Option ρ := (blockK impl_isTable.kp 1 0 (seqK (xcode (E41 N) ents impl_isTable.kp 1 N (cB (cB impl_isTable.bd)) 0) (impl_isTable.fin N K g2)))

theorem impl_isTable.k0_mix {ρ : Type} (N : Nat) (K : AV → Heap → Option ρ) (g2 : Nat → Int) : mixK (impl_isTable.fin N K g2 .ret) (impl_isTable.k0 N K g2) = (impl_isTable.k0 N K g2) := by
  funext e s; cases e <;> rfl

noncomputable def impl_isTable.st0 (p0 : Int) (n1 : Int) (g2 : Nat → Int) (x3 : Int) : St := ⟨sl 35 [(0, .int .i64 (p0)), (1, .int .i64 (n1)), (2, .sptr [(0, 512)]), (8, .int .i64 (x3))], [⟨false, .ints .u8 512 g2⟩]⟩

noncomputable def impl_isTable.sx0_0 (g2 : Nat → Int) : St := ⟨sl 35 [], [⟨false, .ints .u8 512 g2⟩]⟩

theorem impl_isTable.b0_gen {ρ : Type} (N : Nat) (K : AV → Heap → Option ρ) (L0 : St → Option ρ) (kv : XE → St → Option ρ) (p0 : Int) (n1 : Int) (g2 : Nat → Int) (x3 : Int) :
    xcode (E41 N) ents impl_isTable.kp 1 N (cL (cK (cB (cA (cB impl_isTable.bd))))) 0 (impl_isTable.st0 p0 n1 g2 x3) (roundK impl_isTable.kp 1 0 L0 (mixK (impl_isTable.fin N K g2 .ret) kv)) = (impl_isTable.b0 N (fun d0 => K (.bool (d0)) [⟨false, .ints .u8 512 g2⟩]) (fun x3 => L0 (impl_isTable.st0 p0 n1 g2 x3)) (kv (.exit 0) (impl_isTable.sx0_0 g2)) p0 n1 g2 x3) := by kernel_rfl

theorem impl_isTable.b0_eq {ρ : Type} (N : Nat) (K : AV → Heap → Option ρ) (L0 : St → Option ρ) (p0 : Int) (n1 : Int) (g2 : Nat → Int) (x3 : Int) :
    xcode (E41 N) ents impl_isTable.kp 1 N (cL (cK (cB (cA (cB impl_isTable.bd))))) 0 (impl_isTable.st0 p0 n1 g2 x3) (roundK impl_isTable.kp 1 0 L0 (impl_isTable.k0 N K g2)) = (impl_isTable.b0 N (fun d0 => K (.bool (d0)) [⟨false, .ints .u8 512 g2⟩]) (fun x3 => L0 (impl_isTable.st0 p0 n1 g2 x3)) ((impl_isTable.k0 N K g2) (.exit 0) (impl_isTable.sx0_0 g2)) p0 n1 g2 x3) := by
  have h := impl_isTable.b0_gen N K L0 (impl_isTable.k0 N K g2) p0 n1 g2 x3
  rw [impl_isTable.k0_mix] at h
  exact h

theorem impl_isTable.a0_0_eq {ρ : Type} (N : Nat) (K : AV → Heap → Option ρ) (g2 : Nat → Int) :
    (impl_isTable.k0 N K g2) (.exit 0) (impl_isTable.sx0_0 g2) = (impl_isTable.a0_0 N (fun d0 => K (.bool (d0)) [⟨false, .ints .u8 512 g2⟩])) := by kernel_rfl

theorem impl_isTable.l0_eq {ρ : Type} (N : Nat) (K : AV → Heap → Option ρ) (p0 : Int) (n1 : Int) (g2 : Nat → Int) :
    ∀ (m : Nat) (x3 : Int), xloop (xcode (E41 N) ents impl_isTable.kp 1 N (cL (cK (cB (cA (cB impl_isTable.bd))))) 0) impl_isTable.kp 1 0 m (impl_isTable.st0 p0 n1 g2 x3) (impl_isTable.k0 N K g2) = (impl_isTable.l0 N (fun d0 => K (.bool (d0)) [⟨false, .ints .u8 512 g2⟩]) p0 n1 g2 ((impl_isTable.k0 N K g2) (.exit 0) (impl_isTable.sx0_0 g2)) m x3) := by
  intro m
  induction m with
  | zero => intros; rfl
  | succ m ih =>
    intro x3
    refine (impl_isTable.b0_eq N K (fun s => xloop (xcode (E41 N) ents impl_isTable.kp 1 N (cL (cK (cB (cA (cB impl_isTable.bd))))) 0) impl_isTable.kp 1 0 m s (impl_isTable.k0 N K g2)) p0 n1 g2 x3).trans ?_
    simp only [ih]
    kernel_rfl

theorem impl_isTable.s_eq {ρ : Type} (N : Nat) (K : AV → Heap → Option ρ) (p0 : Int) (n1 : Int) (g2 : Nat → Int) :
    xbody (E41 N) ents impl_isTable.kp N Go.Proofs.Try.f81 impl_isTable.bd [.int .i64 (p0), .int .i64 (n1), .sptr [(0, 512)]] [⟨false, .ints .u8 512 g2⟩] K = (impl_isTable.s N (fun d0 => K (.bool (d0)) [⟨false, .ints .u8 512 g2⟩]) (fun x3 => xloop (xcode (E41 N) ents impl_isTable.kp 1 N (cL (cK (cB (cA (cB impl_isTable.bd))))) 0) impl_isTable.kp 1 0 N (impl_isTable.st0 p0 n1 g2 x3) (impl_isTable.k0 N K g2))) := by kernel_rfl

theorem impl_isTable.eq {ρ : Type} (N : Nat) (K : AV → Heap → Option ρ) (p0 : Int) (n1 : Int) (g2 : Nat → Int) :
    xbody (E41 N) ents impl_isTable.kp N Go.Proofs.Try.f81 impl_isTable.bd [.int .i64 (p0), .int .i64 (n1), .sptr [(0, 512)]] [⟨false, .ints .u8 512 g2⟩] K = (impl_isTable N (fun d0 => K (.bool (d0)) [⟨false, .ints .u8 512 g2⟩]) p0 n1 g2) := by
  refine (impl_isTable.s_eq N K p0 n1 g2).trans ?_
  simp only [impl_isTable.l0_eq, impl_isTable.a0_0_eq]
  kernel_rfl

noncomputable def impl_isTable.en (N : Nat) (ρ : Type) : List AV → Heap → (AV → Heap → Option ρ) → Option ρ
  | [.int .i64 (p0), .int .i64 (n1), .sptr [(0, 512)]], [⟨false, .ints .u8 512 g2⟩], K => (impl_isTable N (fun d0 => K (.bool (d0)) [⟨false, .ints .u8 512 g2⟩]) p0 n1 g2)
  | _, _, _ => none

theorem impl_isTable.en_ok (N : Nat) (hE : EnvOk (E41 N) ents) (ρ : Type) (args : List AV) (sh : Heap) (K : AV → Heap → Option ρ) (r : ρ) (h : impl_isTable.en N ρ args sh K = some r) : ∃ v sh', K v sh' = some r ∧ FnOk (E41 N).P 81 args sh v sh' := by
  unfold impl_isTable.en at h
  split at h
  · exact fn_ok hE (kp := impl_isTable.kp) (N := N) Go.Proofs.Try.func81 (c := impl_isTable.bd) (by kernel_rfl) ((impl_isTable.eq N _ _ _ _).trans h)
  · cases h

noncomputable def E42 (N : Nat) : Env := (E41 N).add 81 (impl_isTable.en N)

theorem E42_ok (N : Nat) : EnvOk (E42 N) ents := Env.add_ok (E41_ok N) (impl_isTable.en_ok N (E41_ok N))

noncomputable def impl_Algebra_isShaped.kp : Keeps := ⟨[], []⟩

noncomputable def impl_Algebra_isShaped.bd : Code := bodyOf Go.Proofs.Try.f54

noncomputable def impl_Algebra_isShaped.fin {ρ : Type} (N : Nat) (K : AV → Heap → Option ρ) (g0 : Nat → Int) (g1 : Nat → Int) : XE → St → Option ρ := finK (E42 N) Go.Proofs.Try.f54 [⟨false, .ints .i64 2 g0⟩, ⟨false, .ints .u8 520 g1⟩] K

theorem impl_Algebra_isShaped.eq {ρ : Type} (N : Nat) (K : AV → Heap → Option ρ) (g0 : Nat → Int) (g1 : Nat → Int) :
    xbody (E42 N) ents impl_Algebra_isShaped.kp N Go.Proofs.Try.f54 impl_Algebra_isShaped.bd [.sptr [(0, 2), (1, 520)]] [⟨false, .ints .i64 2 g0⟩, ⟨false, .ints .u8 520 g1⟩] K = (impl_Algebra_isShaped N (fun d0 => K (.bool (d0)) [⟨false, .ints .i64 2 g0⟩, ⟨false, .ints .u8 520 g1⟩]) g0 g1) := by kernel_rfl

noncomputable def impl_Algebra_isShaped.en (N : Nat) (ρ : Type) : List AV → Heap → (AV → Heap → Option ρ) → Option ρ
  | [.sptr [(0, 2), (1, 520)]], [⟨false, .ints .i64 2 g0⟩, ⟨false, .ints .u8 520 g1⟩], K => (impl_Algebra_isShaped N (fun d0 => K (.bool (d0)) [⟨false, .ints .i64 2 g0⟩, ⟨false, .ints .u8 520 g1⟩]) g0 g1)
  | _, _, _ => none

theorem impl_Algebra_isShaped.en_ok (N : Nat) (hE : EnvOk (E42 N) ents) (ρ : Type) (args : List AV) (sh : Heap) (K : AV → Heap → Option ρ) (r : ρ) (h : impl_Algebra_isShaped.en N ρ args sh K = some r) : ∃ v sh', K v sh' = some r ∧ FnOk (E42 N).P 54 args sh v sh' := by
  unfold impl_Algebra_isShaped.en at h
  split at h
  · exact fn_ok hE (kp := impl_Algebra_isShaped.kp) (N := N) Go.Proofs.Try.func54 (c := impl_Algebra_isShaped.bd) (by kernel_rfl) ((impl_Algebra_isShaped.eq N _ _ _).trans h)
  · cases h

noncomputable def E43 (N : Nat) : Env := (E42 N).add 54 (impl_Algebra_isShaped.en N)

theorem E43_ok (N : Nat) : EnvOk (E43 N) ents := Env.add_ok (E42_ok N) (impl_Algebra_isShaped.en_ok N (E42_ok N))

noncomputable def impl_Hopf_coalgebra.kp : Keeps := ⟨[], []⟩

noncomputable def impl_Hopf_coalgebra.bd : Code := bodyOf Go.Proofs.Try.f55

noncomputable def impl_Hopf_coalgebra.fin {ρ : Type} (N : Nat) (K : AV → Heap → Option ρ) (g0 : Nat → Int) (g1 : Nat → Int) : XE → St → Option ρ := finK (E43 N) Go.Proofs.Try.f55 [⟨false, .ints .i64 2 g0⟩, ⟨false, .ints .u8 1104 g1⟩] K

theorem impl_Hopf_coalgebra.eq {ρ : Type} (N : Nat) (K : AV → Heap → Option ρ) (g0 : Nat → Int) (g1 : Nat → Int) :
    xbody (E43 N) ents impl_Hopf_coalgebra.kp N Go.Proofs.Try.f55 impl_Hopf_coalgebra.bd [.sptr [(0, 2), (1, 1104)]] [⟨false, .ints .i64 2 g0⟩, ⟨false, .ints .u8 1104 g1⟩] K = (impl_Hopf_coalgebra N (fun d0 d1 => K (.sptr [(2, 2), (3, 520)]) [⟨false, .ints .i64 2 g0⟩, ⟨false, .ints .u8 1104 g1⟩, ⟨true, .ints .i64 2 d0⟩, ⟨true, .ints .u8 520 d1⟩]) g0 g1) := by kernel_rfl

noncomputable def impl_Hopf_coalgebra.en (N : Nat) (ρ : Type) : List AV → Heap → (AV → Heap → Option ρ) → Option ρ
  | [.sptr [(0, 2), (1, 1104)]], [⟨false, .ints .i64 2 g0⟩, ⟨false, .ints .u8 1104 g1⟩], K => (impl_Hopf_coalgebra N (fun d0 d1 => K (.sptr [(2, 2), (3, 520)]) [⟨false, .ints .i64 2 g0⟩, ⟨false, .ints .u8 1104 g1⟩, ⟨true, .ints .i64 2 d0⟩, ⟨true, .ints .u8 520 d1⟩]) g0 g1)
  | _, _, _ => none

theorem impl_Hopf_coalgebra.en_ok (N : Nat) (hE : EnvOk (E43 N) ents) (ρ : Type) (args : List AV) (sh : Heap) (K : AV → Heap → Option ρ) (r : ρ) (h : impl_Hopf_coalgebra.en N ρ args sh K = some r) : ∃ v sh', K v sh' = some r ∧ FnOk (E43 N).P 55 args sh v sh' := by
  unfold impl_Hopf_coalgebra.en at h
  split at h
  · exact fn_ok hE (kp := impl_Hopf_coalgebra.kp) (N := N) Go.Proofs.Try.func55 (c := impl_Hopf_coalgebra.bd) (by kernel_rfl) ((impl_Hopf_coalgebra.eq N _ _ _).trans h)
  · cases h

noncomputable def E44 (N : Nat) : Env := (E43 N).add 55 (impl_Hopf_coalgebra.en N)

theorem E44_ok (N : Nat) : EnvOk (E44 N) ents := Env.add_ok (E43_ok N) (impl_Hopf_coalgebra.en_ok N (E43_ok N))

noncomputable def impl_Coalgebra_isShaped.kp : Keeps := ⟨[], []⟩

noncomputable def impl_Coalgebra_isShaped.bd : Code := bodyOf Go.Proofs.Try.f56

noncomputable def impl_Coalgebra_isShaped.fin {ρ : Type} (N : Nat) (K : AV → Heap → Option ρ) (g0 : Nat → Int) (g1 : Nat → Int) : XE → St → Option ρ := finK (E44 N) Go.Proofs.Try.f56 [⟨false, .ints .i64 2 g0⟩, ⟨false, .ints .u8 520 g1⟩] K

theorem impl_Coalgebra_isShaped.eq {ρ : Type} (N : Nat) (K : AV → Heap → Option ρ) (g0 : Nat → Int) (g1 : Nat → Int) :
    xbody (E44 N) ents impl_Coalgebra_isShaped.kp N Go.Proofs.Try.f56 impl_Coalgebra_isShaped.bd [.sptr [(0, 2), (1, 520)]] [⟨false, .ints .i64 2 g0⟩, ⟨false, .ints .u8 520 g1⟩] K = (impl_Coalgebra_isShaped N (fun d0 => K (.bool (d0)) [⟨false, .ints .i64 2 g0⟩, ⟨false, .ints .u8 520 g1⟩]) g0 g1) := by kernel_rfl

noncomputable def impl_Coalgebra_isShaped.en (N : Nat) (ρ : Type) : List AV → Heap → (AV → Heap → Option ρ) → Option ρ
  | [.sptr [(0, 2), (1, 520)]], [⟨false, .ints .i64 2 g0⟩, ⟨false, .ints .u8 520 g1⟩], K => (impl_Coalgebra_isShaped N (fun d0 => K (.bool (d0)) [⟨false, .ints .i64 2 g0⟩, ⟨false, .ints .u8 520 g1⟩]) g0 g1)
  | _, _, _ => none

theorem impl_Coalgebra_isShaped.en_ok (N : Nat) (hE : EnvOk (E44 N) ents) (ρ : Type) (args : List AV) (sh : Heap) (K : AV → Heap → Option ρ) (r : ρ) (h : impl_Coalgebra_isShaped.en N ρ args sh K = some r) : ∃ v sh', K v sh' = some r ∧ FnOk (E44 N).P 56 args sh v sh' := by
  unfold impl_Coalgebra_isShaped.en at h
  split at h
  · exact fn_ok hE (kp := impl_Coalgebra_isShaped.kp) (N := N) Go.Proofs.Try.func56 (c := impl_Coalgebra_isShaped.bd) (by kernel_rfl) ((impl_Coalgebra_isShaped.eq N _ _ _).trans h)
  · cases h

noncomputable def E45 (N : Nat) : Env := (E44 N).add 56 (impl_Coalgebra_isShaped.en N)

theorem E45_ok (N : Nat) : EnvOk (E45 N) ents := Env.add_ok (E44_ok N) (impl_Coalgebra_isShaped.en_ok N (E44_ok N))

noncomputable def impl_Hopf_isShaped.kp : Keeps := ⟨[], []⟩

noncomputable def impl_Hopf_isShaped.bd : Code := bodyOf Go.Proofs.Try.f32

noncomputable def impl_Hopf_isShaped.fin {ρ : Type} (N : Nat) (K : AV → Heap → Option ρ) (g0 : Nat → Int) (g1 : Nat → Int) : XE → St → Option ρ := finK (E45 N) Go.Proofs.Try.f32 [⟨false, .ints .i64 2 g0⟩, ⟨false, .ints .u8 1104 g1⟩] K

theorem impl_Hopf_isShaped.eq {ρ : Type} (N : Nat) (K : AV → Heap → Option ρ) (g0 : Nat → Int) (g1 : Nat → Int) :
    xbody (E45 N) ents impl_Hopf_isShaped.kp N Go.Proofs.Try.f32 impl_Hopf_isShaped.bd [.sptr [(0, 2), (1, 1104)]] [⟨false, .ints .i64 2 g0⟩, ⟨false, .ints .u8 1104 g1⟩] K = (impl_Hopf_isShaped N (fun d0 => K (.bool (d0)) [⟨false, .ints .i64 2 g0⟩, ⟨false, .ints .u8 1104 g1⟩]) g0 g1) := by kernel_rfl

noncomputable def impl_Hopf_isShaped.en (N : Nat) (ρ : Type) : List AV → Heap → (AV → Heap → Option ρ) → Option ρ
  | [.sptr [(0, 2), (1, 1104)]], [⟨false, .ints .i64 2 g0⟩, ⟨false, .ints .u8 1104 g1⟩], K => (impl_Hopf_isShaped N (fun d0 => K (.bool (d0)) [⟨false, .ints .i64 2 g0⟩, ⟨false, .ints .u8 1104 g1⟩]) g0 g1)
  | _, _, _ => none

theorem impl_Hopf_isShaped.en_ok (N : Nat) (hE : EnvOk (E45 N) ents) (ρ : Type) (args : List AV) (sh : Heap) (K : AV → Heap → Option ρ) (r : ρ) (h : impl_Hopf_isShaped.en N ρ args sh K = some r) : ∃ v sh', K v sh' = some r ∧ FnOk (E45 N).P 32 args sh v sh' := by
  unfold impl_Hopf_isShaped.en at h
  split at h
  · exact fn_ok hE (kp := impl_Hopf_isShaped.kp) (N := N) Go.Proofs.Try.func32 (c := impl_Hopf_isShaped.bd) (by kernel_rfl) ((impl_Hopf_isShaped.eq N _ _ _).trans h)
  · cases h

noncomputable def E46 (N : Nat) : Env := (E45 N).add 32 (impl_Hopf_isShaped.en N)

theorem E46_ok (N : Nat) : EnvOk (E46 N) ents := Env.add_ok (E45_ok N) (impl_Hopf_isShaped.en_ok N (E45_ok N))

noncomputable def impl_basis.kp : Keeps := ⟨[], []⟩

noncomputable def impl_basis.bd : Code := bodyOf Go.Proofs.Try.f46

noncomputable def impl_basis.fin {ρ : Type} (N : Nat) (K : AV → Heap → Option ρ) : XE → St → Option ρ := finK (E46 N) Go.Proofs.Try.f46 [] K

theorem impl_basis.eq {ρ : Type} (N : Nat) (K : AV → Heap → Option ρ) (i0 : Int) :
    xbody (E46 N) ents impl_basis.kp N Go.Proofs.Try.f46 impl_basis.bd [.int .i64 (i0)] [] K = (impl_basis N (fun d0 => K (.agg [⟨.u8, 8, d0⟩]) []) i0) := by kernel_rfl

noncomputable def impl_basis.en (N : Nat) (ρ : Type) : List AV → Heap → (AV → Heap → Option ρ) → Option ρ
  | [.int .i64 (i0)], [], K => (impl_basis N (fun d0 => K (.agg [⟨.u8, 8, d0⟩]) []) i0)
  | _, _, _ => none

theorem impl_basis.en_ok (N : Nat) (hE : EnvOk (E46 N) ents) (ρ : Type) (args : List AV) (sh : Heap) (K : AV → Heap → Option ρ) (r : ρ) (h : impl_basis.en N ρ args sh K = some r) : ∃ v sh', K v sh' = some r ∧ FnOk (E46 N).P 46 args sh v sh' := by
  unfold impl_basis.en at h
  split at h
  · exact fn_ok hE (kp := impl_basis.kp) (N := N) Go.Proofs.Try.func46 (c := impl_basis.bd) (by kernel_rfl) ((impl_basis.eq N _ _).trans h)
  · cases h

noncomputable def E47 (N : Nat) : Env := (E46 N).add 46 (impl_basis.en N)

theorem E47_ok (N : Nat) : EnvOk (E47 N) ents := Env.add_ok (E46_ok N) (impl_basis.en_ok N (E46_ok N))

noncomputable def impl_Algebra_field.kp : Keeps := ⟨[], []⟩

noncomputable def impl_Algebra_field.bd : Code := bodyOf Go.Proofs.Try.f100

noncomputable def impl_Algebra_field.fin {ρ : Type} (N : Nat) (K : AV → Heap → Option ρ) (g0 : Nat → Int) (g1 : Nat → Int) : XE → St → Option ρ := finK (E47 N) Go.Proofs.Try.f100 [⟨false, .ints .i64 2 g0⟩, ⟨false, .ints .u8 520 g1⟩] K

theorem impl_Algebra_field.eq {ρ : Type} (N : Nat) (K : AV → Heap → Option ρ) (g0 : Nat → Int) (g1 : Nat → Int) :
    xbody (E47 N) ents impl_Algebra_field.kp N Go.Proofs.Try.f100 impl_Algebra_field.bd [.sptr [(0, 2), (1, 520)]] [⟨false, .ints .i64 2 g0⟩, ⟨false, .ints .u8 520 g1⟩] K = (impl_Algebra_field N (fun d0 => K (.agg [⟨.i64, 2, d0⟩]) [⟨false, .ints .i64 2 g0⟩, ⟨false, .ints .u8 520 g1⟩]) g0 g1) := by kernel_rfl

noncomputable def impl_Algebra_field.en (N : Nat) (ρ : Type) : List AV → Heap → (AV → Heap → Option ρ) → Option ρ
  | [.sptr [(0, 2), (1, 520)]], [⟨false, .ints .i64 2 g0⟩, ⟨false, .ints .u8 520 g1⟩], K => (impl_Algebra_field N (fun d0 => K (.agg [⟨.i64, 2, d0⟩]) [⟨false, .ints .i64 2 g0⟩, ⟨false, .ints .u8 520 g1⟩]) g0 g1)
  | _, _, _ => none

theorem impl_Algebra_field.en_ok (N : Nat) (hE : EnvOk (E47 N) ents) (ρ : Type) (args : List AV) (sh : Heap) (K : AV → Heap → Option ρ) (r : ρ) (h : impl_Algebra_field.en N ρ args sh K = some r) : ∃ v sh', K v sh' = some r ∧ FnOk (E47 N).P 100 args sh v sh' := by
  unfold impl_Algebra_field.en at h
  split at h
  · exact fn_ok hE (kp := impl_Algebra_field.kp) (N := N) Go.Proofs.Try.func100 (c := impl_Algebra_field.bd) (by kernel_rfl) ((impl_Algebra_field.eq N _ _ _).trans h)
  · cases h

noncomputable def E48 (N : Nat) : Env := (E47 N).add 100 (impl_Algebra_field.en N)

theorem E48_ok (N : Nat) : EnvOk (E48 N) ents := Env.add_ok (E47_ok N) (impl_Algebra_field.en_ok N (E47_ok N))

noncomputable def impl_field_mod.kp : Keeps := ⟨[], []⟩

noncomputable def impl_field_mod.bd : Code := bodyOf Go.Proofs.Try.f97

noncomputable def impl_field_mod.fin {ρ : Type} (N : Nat) (K : AV → Heap → Option ρ) : XE → St → Option ρ := finK (E48 N) Go.Proofs.Try.f97 [] K

theorem impl_field_mod.eq {ρ : Type} (N : Nat) (K : AV → Heap → Option ρ) (f0 : Nat → Int) (x1 : Int) :
    xbody (E48 N) ents impl_field_mod.kp N Go.Proofs.Try.f97 impl_field_mod.bd [.agg [⟨.i64, 2, f0⟩], .int .i64 (x1)] [] K = (impl_field_mod N (fun d0 => K (.int .u8 (d0)) []) f0 x1) := by kernel_rfl

noncomputable def impl_field_mod.en (N : Nat) (ρ : Type) : List AV → Heap → (AV → Heap → Option ρ) → Option ρ
  | [.agg [⟨.i64, 2, f0⟩], .int .i64 (x1)], [], K => (impl_field_mod N (fun d0 => K (.int .u8 (d0)) []) f0 x1)
  | _, _, _ => none

theorem impl_field_mod.en_ok (N : Nat) (hE : EnvOk (E48 N) ents) (ρ : Type) (args : List AV) (sh : Heap) (K : AV → Heap → Option ρ) (r : ρ) (h : impl_field_mod.en N ρ args sh K = some r) : ∃ v sh', K v sh' = some r ∧ FnOk (E48 N).P 97 args sh v sh' := by
  unfold impl_field_mod.en at h
  split at h
  · exact fn_ok hE (kp := impl_field_mod.kp) (N := N) Go.Proofs.Try.func97 (c := impl_field_mod.bd) (by kernel_rfl) ((impl_field_mod.eq N _ _ _).trans h)
  · cases h

noncomputable def E49 (N : Nat) : Env := (E48 N).add 97 (impl_field_mod.en N)

theorem E49_ok (N : Nat) : EnvOk (E49 N) ents := Env.add_ok (E48_ok N) (impl_field_mod.en_ok N (E48_ok N))

noncomputable def impl_field_plus.kp : Keeps := ⟨[(0, [1, 2, 4, 12, 13], 3)], [(0, [], 3)]⟩

noncomputable def impl_field_plus.bd : Code := bodyOf Go.Proofs.Try.f78

noncomputable def impl_field_plus.fin {ρ : Type} (N : Nat) (K : AV → Heap → Option ρ) (g3 : Nat → Int) : XE → St → Option ρ := finK (E49 N) Go.Proofs.Try.f78 [⟨true, .ints .u8 8 g3⟩] K

noncomputable def impl_field_plus.k0 {ρ : Type} (N : Nat) (K : AV → Heap → Option ρ) (g3 : Nat → Int) : XE → St → Option ρ := (blockK impl_field_plus.kp 1 0 (impl_field_plus.fin N K g3))

theorem impl_field_plus.k0_mix {ρ : Type} (N : Nat) (K : AV → Heap → Option ρ) (g3 : Nat → Int) : mixK (impl_field_plus.fin N K g3 .ret) (impl_field_plus.k0 N K g3) = (impl_field_plus.k0 N K g3) := by
  funext e s; cases e <;> rfl

noncomputable def impl_field_plus.st0 (f0 : Nat → Int) (k1 : Int) (w2 : Nat → Int) (x4 : Int) (g5 : Nat → Int) : St := ⟨sl 35 [(1, .sptr [(0, 8)]), (2, .int .i64 (k1)), (4, .sptr [(1, 2)]), (12, .agg [⟨.u8, 8, w2⟩]), (13, .int .i64 (x4))], [⟨true, .ints .u8 8 g5⟩, ⟨true, .ints .i64 2 f0⟩, ⟨true, .ints .u8 8 w2⟩]⟩

noncomputable def impl_field_plus.sx0_0 (f0 : Nat → Int) (w2 : Nat → Int) (o7 : Nat → Int) : St := ⟨sl 35 [], [⟨true, .ints .u8 8 o7⟩, ⟨true, .ints .i64 2 f0⟩, ⟨true, .ints .u8 8 w2⟩]⟩

theorem impl_field_plus.b0_gen {ρ : Type} (N : Nat) (K : AV → Heap → Option ρ) (L0 : St → Option ρ) (kv : XE → St → Option ρ) (f0 : Nat → Int) (k1 : Int) (w2 : Nat → Int) (g3 : Nat → Int) (x4 : Int) (g5 : Nat → Int) :
    xcode (E49 N) ents impl_field_plus.kp 1 N (cL (cK (cB (cB (cB impl_field_plus.bd))))) 0 (impl_field_plus.st0 f0 k1 w2 x4 g5) (roundK impl_field_plus.kp 1 0 L0 (mixK (impl_field_plus.fin N K g3 .ret) kv)) = (impl_field_plus.b0 N (fun d0 => K (.tup []) [⟨true, .ints .u8 8 d0⟩]) (fun x4 g5 => L0 (impl_field_plus.st0 f0 k1 w2 x4 g5)) (fun o7 => kv (.exit 0) (impl_field_plus.sx0_0 f0 w2 o7)) f0 k1 w2 x4 g5) := by kernel_rfl

theorem impl_field_plus.b0_eq {ρ : Type} (N : Nat) (K : AV → Heap → Option ρ) (L0 : St → Option ρ) (f0 : Nat → Int) (k1 : Int) (w2 : Nat → Int) (g3 : Nat → Int) (x4 : Int) (g5 : Nat → Int) :
    xcode (E49 N) ents impl_field_plus.kp 1 N (cL (cK (cB (cB (cB impl_field_plus.bd))))) 0 (impl_field_plus.st0 f0 k1 w2 x4 g5) (roundK impl_field_plus.kp 1 0 L0 (impl_field_plus.k0 N K g3)) = (impl_field_plus.b0 N (fun d0 => K (.tup []) [⟨true, .ints .u8 8 d0⟩]) (fun x4 g5 => L0 (impl_field_plus.st0 f0 k1 w2 x4 g5)) (fun o7 => (impl_field_plus.k0 N K g3) (.exit 0) (impl_field_plus.sx0_0 f0 w2 o7)) f0 k1 w2 x4 g5) := by
  have h := impl_field_plus.b0_gen N K L0 (impl_field_plus.k0 N K g3) f0 k1 w2 g3 x4 g5
  rw [impl_field_plus.k0_mix] at h
  exact h

theorem impl_field_plus.a0_0_eq {ρ : Type} (N : Nat) (K : AV → Heap → Option ρ) (f0 : Nat → Int) (w2 : Nat → Int) (g3 : Nat → Int) (o7 : Nat → Int) :
    (impl_field_plus.k0 N K g3) (.exit 0) (impl_field_plus.sx0_0 f0 w2 o7) = (impl_field_plus.a0_0 N (fun d0 => K (.tup []) [⟨true, .ints .u8 8 d0⟩]) o7) := by kernel_rfl

theorem impl_field_plus.l0_eq {ρ : Type} (N : Nat) (K : AV → Heap → Option ρ) (f0 : Nat → Int) (k1 : Int) (w2 : Nat → Int) (g3 : Nat → Int) :
    ∀ (m : Nat) (x4 : Int) (g5 : Nat → Int), xloop (xcode (E49 N) ents impl_field_plus.kp 1 N (cL (cK (cB (cB (cB impl_field_plus.bd))))) 0) impl_field_plus.kp 1 0 m (impl_field_plus.st0 f0 k1 w2 x4 g5) (impl_field_plus.k0 N K g3) = (impl_field_plus.l0 N (fun d0 => K (.tup []) [⟨true, .ints .u8 8 d0⟩]) f0 k1 w2 (fun o7 => (impl_field_plus.k0 N K g3) (.exit 0) (impl_field_plus.sx0_0 f0 w2 o7)) m x4 g5) := by
  intro m
  induction m with
  | zero => intros; rfl
  | succ m ih =>
    intro x4 g5
    refine (impl_field_plus.b0_eq N K (fun s => xloop (xcode (E49 N) ents impl_field_plus.kp 1 N (cL (cK (cB (cB (cB impl_field_plus.bd))))) 0) impl_field_plus.kp 1 0 m s (impl_field_plus.k0 N K g3)) f0 k1 w2 g3 x4 g5).trans ?_
    simp only [ih]
    kernel_rfl

theorem impl_field_plus.s_eq {ρ : Type} (N : Nat) (K : AV → Heap → Option ρ) (f0 : Nat → Int) (k1 : Int) (w2 : Nat → Int) (g3 : Nat → Int) :
    xbody (E49 N) ents impl_field_plus.kp N Go.Proofs.Try.f78 impl_field_plus.bd [.agg [⟨.i64, 2, f0⟩], .sptr [(0, 8)], .int .i64 (k1), .agg [⟨.u8, 8, w2⟩]] [⟨true, .ints .u8 8 g3⟩] K = (impl_field_plus.s N (fun d0 => K (.tup []) [⟨true, .ints .u8 8 d0⟩]) (fun x4 g5 => xloop (xcode (E49 N) ents impl_field_plus.kp 1 N (cL (cK (cB (cB (cB impl_field_plus.bd))))) 0) impl_field_plus.kp 1 0 N (impl_field_plus.st0 f0 k1 w2 x4 g5) (impl_field_plus.k0 N K g3)) k1 g3) := by kernel_rfl

theorem impl_field_plus.eq {ρ : Type} (N : Nat) (K : AV → Heap → Option ρ) (f0 : Nat → Int) (k1 : Int) (w2 : Nat → Int) (g3 : Nat → Int) :
    xbody (E49 N) ents impl_field_plus.kp N Go.Proofs.Try.f78 impl_field_plus.bd [.agg [⟨.i64, 2, f0⟩], .sptr [(0, 8)], .int .i64 (k1), .agg [⟨.u8, 8, w2⟩]] [⟨true, .ints .u8 8 g3⟩] K = (impl_field_plus N (fun d0 => K (.tup []) [⟨true, .ints .u8 8 d0⟩]) f0 k1 w2 g3) := by
  refine (impl_field_plus.s_eq N K f0 k1 w2 g3).trans ?_
  simp only [impl_field_plus.l0_eq, impl_field_plus.a0_0_eq]
  kernel_rfl

noncomputable def impl_field_plus.en (N : Nat) (ρ : Type) : List AV → Heap → (AV → Heap → Option ρ) → Option ρ
  | [.agg [⟨.i64, 2, f0⟩], .sptr [(0, 8)], .int .i64 (k1), .agg [⟨.u8, 8, w2⟩]], [⟨true, .ints .u8 8 g3⟩], K => (impl_field_plus N (fun d0 => K (.tup []) [⟨true, .ints .u8 8 d0⟩]) f0 k1 w2 g3)
  | _, _, _ => none

theorem impl_field_plus.en_ok (N : Nat) (hE : EnvOk (E49 N) ents) (ρ : Type) (args : List AV) (sh : Heap) (K : AV → Heap → Option ρ) (r : ρ) (h : impl_field_plus.en N ρ args sh K = some r) : ∃ v sh', K v sh' = some r ∧ FnOk (E49 N).P 78 args sh v sh' := by
  unfold impl_field_plus.en at h
  split at h
  · exact fn_ok hE (kp := impl_field_plus.kp) (N := N) Go.Proofs.Try.func78 (c := impl_field_plus.bd) (by kernel_rfl) ((impl_field_plus.eq N _ _ _ _ _).trans h)
  · cases h

noncomputable def E50 (N : Nat) : Env := (E49 N).add 78 (impl_field_plus.en N)

theorem E50_ok (N : Nat) : EnvOk (E50 N) ents := Env.add_ok (E49_ok N) (impl_field_plus.en_ok N (E49_ok N))

noncomputable def impl_Algebra_product.kp : Keeps := ⟨[(0, [0, 4, 5, 6, 7, 8, 15, 16], 7), (2, [0, 4, 5, 6, 7, 8, 9, 15, 16, 24, 25], 7)], [(0, [6, 8], 7), (2, [0, 4, 5, 6, 7, 8, 15, 16], 7)]⟩

noncomputable def impl_Algebra_product.bd : Code := bodyOf Go.Proofs.Try.f82

noncomputable def impl_Algebra_product.fin {ρ : Type} (N : Nat) (K : AV → Heap → Option ρ) (g2 : Nat → Int) (g3 : Nat → Int) : XE → St → Option ρ := finK (E50 N) Go.Proofs.Try.f82 [⟨false, .ints .i64 2 g2⟩, ⟨false, .ints .u8 520 g3⟩] K

noncomputable def impl_Algebra_product.k0 {ρ : Type} (N : Nat) (K : AV → Heap → Option ρ) (g2 : Nat → Int) (g3 : Nat → Int) : XE → St → Option ρ := (blockK impl_Algebra_product.kp 2 0 (seqK (xcode (E50 N) ents impl_Algebra_product.kp 2 N (cB (cB (cB impl_Algebra_product.bd))) 0) (impl_Algebra_product.fin N K g2 g3)))

theorem impl_Algebra_product.k0_mix {ρ : Type} (N : Nat) (K : AV → Heap → Option ρ) (g2 : Nat → Int) (g3 : Nat → Int) : mixK (impl_Algebra_product.fin N K g2 g3 .ret) (impl_Algebra_product.k0 N K g2 g3) = (impl_Algebra_product.k0 N K g2 g3) := by
  funext e s; cases e <;> rfl

noncomputable def impl_Algebra_product.st0 (v0 : Nat → Int) (w1 : Nat → Int) (g2 : Nat → Int) (g3 : Nat → Int) (r4 : Nat → Int) (x5 : Int) (g6 : Nat → Int) : St := ⟨sl 50 [(0, .sptr [(0, 2), (1, 520)]), (4, .sptr [(2, 8)]), (5, .sptr [(3, 8)]), (6, .sptr [(4, 8)]), (7, .sptr [(5, 2)]), (8, .sptr [(6, 8)]), (15, .int .i64 ((r4 1))), (16, .int .i64 (x5))], [⟨false, .ints .i64 2 g2⟩, ⟨false, .ints .u8 520 g3⟩, ⟨true, .ints .u8 8 v0⟩, ⟨true, .ints .u8 8 w1⟩, ⟨true, .ints .u8 8 (fun _ => 0)⟩, ⟨true, .ints .i64 2 r4⟩, ⟨true, .ints .u8 8 g6⟩]⟩

noncomputable def impl_Algebra_product.sx0_0 (v0 : Nat → Int) (w1 : Nat → Int) (g2 : Nat → Int) (g3 : Nat → Int) (r4 : Nat → Int) (o11 : Nat → Int) : St := ⟨sl 50 [(6, .sptr [(4, 8)]), (8, .sptr [(6, 8)])], [⟨false, .ints .i64 2 g2⟩, ⟨false, .ints .u8 520 g3⟩, ⟨true, .ints .u8 8 v0⟩, ⟨true, .ints .u8 8 w1⟩, ⟨true, .ints .u8 8 (fun _ => 0)⟩, ⟨true, .ints .i64 2 r4⟩, ⟨true, .ints .u8 8 o11⟩]⟩

noncomputable def impl_Algebra_product.k1g {ρ : Type} (N : Nat) (L0 : St → Option ρ) (kv : XE → St → Option ρ) : XE → St → Option ρ := (blockK impl_Algebra_product.kp 2 2 (blockK impl_Algebra_product.kp 2 1 (seqK (xcode (E50 N) ents impl_Algebra_product.kp 2 N (cB (cB (cB (cL (cK (cB (cA (cB (cB impl_Algebra_product.bd))))))))) 0) (roundK impl_Algebra_product.kp 2 0 L0 kv))))

theorem impl_Algebra_product.k1_mix {ρ : Type} (N : Nat) (K : AV → Heap → Option ρ) (L0 : St → Option ρ) (g2 : Nat → Int) (g3 : Nat → Int) : mixK (impl_Algebra_product.fin N K g2 g3 .ret) (impl_Algebra_product.k1g N L0 (impl_Algebra_product.k0 N K g2 g3)) = (impl_Algebra_product.k1g N L0 (impl_Algebra_product.k0 N K g2 g3)) := by
  funext e s; cases e <;> rfl

noncomputable def impl_Algebra_product.st1 (v0 : Nat → Int) (w1 : Nat → Int) (g2 : Nat → Int) (g3 : Nat → Int) (r4 : Nat → Int) (x5 : Int) (x7 : Int) (g8 : Nat → Int) : St := ⟨sl 50 [(0, .sptr [(0, 2), (1, 520)]), (4, .sptr [(2, 8)]), (5, .sptr [(3, 8)]), (6, .sptr [(4, 8)]), (7, .sptr [(5, 2)]), (8, .sptr [(6, 8)]), (9, .int .i64 (x5)), (15, .int .i64 ((r4 1))), (16, .int .i64 (x5)), (24, .int .i64 ((r4 1))), (25, .int .i64 (x7))], [⟨false, .ints .i64 2 g2⟩, ⟨false, .ints .u8 520 g3⟩, ⟨true, .ints .u8 8 v0⟩, ⟨true, .ints .u8 8 w1⟩, ⟨true, .ints .u8 8 (fun _ => 0)⟩, ⟨true, .ints .i64 2 r4⟩, ⟨true, .ints .u8 8 g8⟩]⟩

noncomputable def impl_Algebra_product.sx1_0 (v0 : Nat → Int) (w1 : Nat → Int) (g2 : Nat → Int) (g3 : Nat → Int) (r4 : Nat → Int) (x5 : Int) (o10 : Nat → Int) : St := ⟨sl 50 [(0, .sptr [(0, 2), (1, 520)]), (4, .sptr [(2, 8)]), (5, .sptr [(3, 8)]), (6, .sptr [(4, 8)]), (7, .sptr [(5, 2)]), (8, .sptr [(6, 8)]), (15, .int .i64 ((r4 1))), (16, .int .i64 (x5))], [⟨false, .ints .i64 2 g2⟩, ⟨false, .ints .u8 520 g3⟩, ⟨true, .ints .u8 8 v0⟩, ⟨true, .ints .u8 8 w1⟩, ⟨true, .ints .u8 8 (fun _ => 0)⟩, ⟨true, .ints .i64 2 r4⟩, ⟨true, .ints .u8 8 o10⟩]⟩

theorem impl_Algebra_product.b1_gen {ρ : Type} (N : Nat) (K : AV → Heap → Option ρ) (L1 : St → Option ρ) (kv : XE → St → Option ρ) (v0 : Nat → Int) (w1 : Nat → Int) (g2 : Nat → Int) (g3 : Nat → Int) (r4 : Nat → Int) (x5 : Int) (x7 : Int) (g8 : Nat → Int) :
    xcode (E50 N) ents impl_Algebra_product.kp 2 N (cL (cK (cB (cB (cB (cK (cA (cB (cB (cL (cK (cB (cA (cB (cB impl_Algebra_product.bd))))))))))))))) 2 (impl_Algebra_product.st1 v0 w1 g2 g3 r4 x5 x7 g8) (roundK impl_Algebra_product.kp 2 2 L1 (mixK (impl_Algebra_product.fin N K g2 g3 .ret) kv)) = (impl_Algebra_product.b1 N (fun d0 => K (.agg [⟨.u8, 8, d0⟩]) [⟨false, .ints .i64 2 g2⟩, ⟨false, .ints .u8 520 g3⟩]) (fun x7 g8 => L1 (impl_Algebra_product.st1 v0 w1 g2 g3 r4 x5 x7 g8)) (fun o10 => kv (.exit 2) (impl_Algebra_product.sx1_0 v0 w1 g2 g3 r4 x5 o10)) v0 w1 g3 r4 x5 x7 g8) := by kernel_rfl

theorem impl_Algebra_product.b1_eq {ρ : Type} (N : Nat) (K : AV → Heap → Option ρ) (L0 : St → Option ρ) (L1 : St → Option ρ) (v0 : Nat → Int) (w1 : Nat → Int) (g2 : Nat → Int) (g3 : Nat → Int) (r4 : Nat → Int) (x5 : Int) (x7 : Int) (g8 : Nat → Int) :
    xcode (E50 N) ents impl_Algebra_product.kp 2 N (cL (cK (cB (cB (cB (cK (cA (cB (cB (cL (cK (cB (cA (cB (cB impl_Algebra_product.bd))))))))))))))) 2 (impl_Algebra_product.st1 v0 w1 g2 g3 r4 x5 x7 g8) (roundK impl_Algebra_product.kp 2 2 L1 (impl_Algebra_product.k1g N L0 (impl_Algebra_product.k0 N K g2 g3))) = (impl_Algebra_product.b1 N (fun d0 => K (.agg [⟨.u8, 8, d0⟩]) [⟨false, .ints .i64 2 g2⟩, ⟨false, .ints .u8 520 g3⟩]) (fun x7 g8 => L1 (impl_Algebra_product.st1 v0 w1 g2 g3 r4 x5 x7 g8)) (fun o10 => (impl_Algebra_product.k1g N L0 (impl_Algebra_product.k0 N K g2 g3)) (.exit 2) (impl_Algebra_product.sx1_0 v0 w1 g2 g3 r4 x5 o10)) v0 w1 g3 r4 x5 x7 g8) := by
  have h := impl_Algebra_product.b1_gen N K L1 (impl_Algebra_product.k1g N L0 (impl_Algebra_product.k0 N K g2 g3)) v0 w1 g2 g3 r4 x5 x7 g8
  rw [impl_Algebra_product.k1_mix] at h
  exact h

theorem impl_Algebra_product.a1_0_gen {ρ : Type} (N : Nat) (K : AV → Heap → Option ρ) (L0 : St → Option ρ) (kv : XE → St → Option ρ) (v0 : Nat → Int) (w1 : Nat → Int) (g2 : Nat → Int) (g3 : Nat → Int) (r4 : Nat → Int) (x5 : Int) (o10 : Nat → Int) :
    (impl_Algebra_product.k1g N L0 (mixK (impl_Algebra_product.fin N K g2 g3 .ret) kv)) (.exit 2) (impl_Algebra_product.sx1_0 v0 w1 g2 g3 r4 x5 o10) = (impl_Algebra_product.a1_0 N (fun d0 => K (.agg [⟨.u8, 8, d0⟩]) [⟨false, .ints .i64 2 g2⟩, ⟨false, .ints .u8 520 g3⟩]) (fun x5 g6 => L0 (impl_Algebra_product.st0 v0 w1 g2 g3 r4 x5 g6)) (fun o11 => kv (.exit 0) (impl_Algebra_product.sx0_0 v0 w1 g2 g3 r4 o11)) x5 o10) := by kernel_rfl

theorem impl_Algebra_product.a1_0_eq {ρ : Type} (N : Nat) (K : AV → Heap → Option ρ) (L0 : St → Option ρ) (v0 : Nat → Int) (w1 : Nat → Int) (g2 : Nat → Int) (g3 : Nat → Int) (r4 : Nat → Int) (x5 : Int) (o10 : Nat → Int) :
    (impl_Algebra_product.k1g N L0 (impl_Algebra_product.k0 N K g2 g3)) (.exit 2) (impl_Algebra_product.sx1_0 v0 w1 g2 g3 r4 x5 o10) = (impl_Algebra_product.a1_0 N (fun d0 => K (.agg [⟨.u8, 8, d0⟩]) [⟨false, .ints .i64 2 g2⟩, ⟨false, .ints .u8 520 g3⟩]) (fun x5 g6 => L0 (impl_Algebra_product.st0 v0 w1 g2 g3 r4 x5 g6)) (fun o11 => (impl_Algebra_product.k0 N K g2 g3) (.exit 0) (impl_Algebra_product.sx0_0 v0 w1 g2 g3 r4 o11)) x5 o10) := by
  have h := impl_Algebra_product.a1_0_gen N K L0 (impl_Algebra_product.k0 N K g2 g3) v0 w1 g2 g3 r4 x5 o10
  rw [impl_Algebra_product.k0_mix] at h
  exact h

theorem impl_Algebra_product.b0_gen {ρ : Type} (N : Nat) (K : AV → Heap → Option ρ) (L0 : St → Option ρ) (kv : XE → St → Option ρ) (v0 : Nat → Int) (w1 : Nat → Int) (g2 : Nat → Int) (g3 : Nat → Int) (r4 : Nat → Int) (x5 : Int) (g6 : Nat → Int) :
    xcode (E50 N) ents impl_Algebra_product.kp 2 N (cL (cK (cB (cA (cB (cB impl_Algebra_product.bd)))))) 0 (impl_Algebra_product.st0 v0 w1 g2 g3 r4 x5 g6) (roundK impl_Algebra_product.kp 2 0 L0 (mixK (impl_Algebra_product.fin N K g2 g3 .ret) kv)) = (impl_Algebra_product.b0 N (fun d0 => K (.agg [⟨.u8, 8, d0⟩]) [⟨false, .ints .i64 2 g2⟩, ⟨false, .ints .u8 520 g3⟩]) (fun x7 g8 => xloop (xcode (E50 N) ents impl_Algebra_product.kp 2 N (cL (cK (cB (cB (cB (cK (cA (cB (cB (cL (cK (cB (cA (cB (cB impl_Algebra_product.bd))))))))))))))) 2) impl_Algebra_product.kp 2 2 N (impl_Algebra_product.st1 v0 w1 g2 g3 r4 x5 x7 g8) (impl_Algebra_product.k1g N L0 (mixK (impl_Algebra_product.fin N K g2 g3 .ret) kv))) (fun x5 g6 => L0 (impl_Algebra_product.st0 v0 w1 g2 g3 r4 x5 g6)) (fun o11 => kv (.exit 0) (impl_Algebra_product.sx0_0 v0 w1 g2 g3 r4 o11)) v0 r4 x5 g6) := by kernel_rfl

theorem impl_Algebra_product.b0_eq {ρ : Type} (N : Nat) (K : AV → Heap → Option ρ) (L0 : St → Option ρ) (v0 : Nat → Int) (w1 : Nat → Int) (g2 : Nat → Int) (g3 : Nat → Int) (r4 : Nat → Int) (x5 : Int) (g6 : Nat → Int) :
    xcode (E50 N) ents impl_Algebra_product.kp 2 N (cL (cK (cB (cA (cB (cB impl_Algebra_product.bd)))))) 0 (impl_Algebra_product.st0 v0 w1 g2 g3 r4 x5 g6) (roundK impl_Algebra_product.kp 2 0 L0 (impl_Algebra_product.k0 N K g2 g3)) = (impl_Algebra_product.b0 N (fun d0 => K (.agg [⟨.u8, 8, d0⟩]) [⟨false, .ints .i64 2 g2⟩, ⟨false, .ints .u8 520 g3⟩]) (fun x7 g8 => xloop (xcode (E50 N) ents impl_Algebra_product.kp 2 N (cL (cK (cB (cB (cB (cK (cA (cB (cB (cL (cK (cB (cA (cB (cB impl_Algebra_product.bd))))))))))))))) 2) impl_Algebra_product.kp 2 2 N (impl_Algebra_product.st1 v0 w1 g2 g3 r4 x5 x7 g8) (impl_Algebra_product.k1g N L0 (impl_Algebra_product.k0 N K g2 g3))) (fun x5 g6 => L0 (impl_Algebra_product.st0 v0 w1 g2 g3 r4 x5 g6)) (fun o11 => (impl_Algebra_product.k0 N K g2 g3) (.exit 0) (impl_Algebra_product.sx0_0 v0 w1 g2 g3 r4 o11)) v0 r4 x5 g6) := by
  have h := impl_Algebra_product.b0_gen N K L0 (impl_Algebra_product.k0 N K g2 g3) v0 w1 g2 g3 r4 x5 g6
  rw [impl_Algebra_product.k0_mix] at h
  exact h

theorem impl_Algebra_product.a0_0_eq {ρ : Type} (N : Nat) (K : AV → Heap → Option ρ) (v0 : Nat → Int) (w1 : Nat → Int) (g2 : Nat → Int) (g3 : Nat → Int) (r4 : Nat → Int) (o11 : Nat → Int) :
    (impl_Algebra_product.k0 N K g2 g3) (.exit 0) (impl_Algebra_product.sx0_0 v0 w1 g2 g3 r4 o11) = (impl_Algebra_product.a0_0 N (fun d0 => K (.agg [⟨.u8, 8, d0⟩]) [⟨false, .ints .i64 2 g2⟩, ⟨false, .ints .u8 520 g3⟩]) o11) := by kernel_rfl

theorem impl_Algebra_product.l1_eq {ρ : Type} (N : Nat) (K : AV → Heap → Option ρ) (L0 : St → Option ρ) (v0 : Nat → Int) (w1 : Nat → Int) (g2 : Nat → Int) (g3 : Nat → Int) (r4 : Nat → Int) (x5 : Int) :
    ∀ (m : Nat) (x7 : Int) (g8 : Nat → Int), xloop (xcode (E50 N) ents impl_Algebra_product.kp 2 N (cL (cK (cB (cB (cB (cK (cA (cB (cB (cL (cK (cB (cA (cB (cB impl_Algebra_product.bd))))))))))))))) 2) impl_Algebra_product.kp 2 2 m (impl_Algebra_product.st1 v0 w1 g2 g3 r4 x5 x7 g8) (impl_Algebra_product.k1g N L0 (impl_Algebra_product.k0 N K g2 g3)) = (impl_Algebra_product.l1 N (fun d0 => K (.agg [⟨.u8, 8, d0⟩]) [⟨false, .ints .i64 2 g2⟩, ⟨false, .ints .u8 520 g3⟩]) v0 w1 g3 r4 x5 (fun o10 => (impl_Algebra_product.k1g N L0 (impl_Algebra_product.k0 N K g2 g3)) (.exit 2) (impl_Algebra_product.sx1_0 v0 w1 g2 g3 r4 x5 o10)) m x7 g8) := by
  intro m
  induction m with
  | zero => intros; rfl
  | succ m ih =>
    intro x7 g8
    refine (impl_Algebra_product.b1_eq N K L0 (fun s => xloop (xcode (E50 N) ents impl_Algebra_product.kp 2 N (cL (cK (cB (cB (cB (cK (cA (cB (cB (cL (cK (cB (cA (cB (cB impl_Algebra_product.bd))))))))))))))) 2) impl_Algebra_product.kp 2 2 m s (impl_Algebra_product.k1g N L0 (impl_Algebra_product.k0 N K g2 g3))) v0 w1 g2 g3 r4 x5 x7 g8).trans ?_
    simp only [ih]
    kernel_rfl

theorem impl_Algebra_product.l0_eq {ρ : Type} (N : Nat) (K : AV → Heap → Option ρ) (v0 : Nat → Int) (w1 : Nat → Int) (g2 : Nat → Int) (g3 : Nat → Int) (r4 : Nat → Int) :
    ∀ (m : Nat) (x5 : Int) (g6 : Nat → Int), xloop (xcode (E50 N) ents impl_Algebra_product.kp 2 N (cL (cK (cB (cA (cB (cB impl_Algebra_product.bd)))))) 0) impl_Algebra_product.kp 2 0 m (impl_Algebra_product.st0 v0 w1 g2 g3 r4 x5 g6) (impl_Algebra_product.k0 N K g2 g3) = (impl_Algebra_product.l0 N (fun d0 => K (.agg [⟨.u8, 8, d0⟩]) [⟨false, .ints .i64 2 g2⟩, ⟨false, .ints .u8 520 g3⟩]) v0 w1 g3 r4 (fun o11 => (impl_Algebra_product.k0 N K g2 g3) (.exit 0) (impl_Algebra_product.sx0_0 v0 w1 g2 g3 r4 o11)) m x5 g6) := by
  intro m
  induction m with
  | zero => intros; rfl
  | succ m ih =>
    intro x5 g6
    refine (impl_Algebra_product.b0_eq N K (fun s => xloop (xcode (E50 N) ents impl_Algebra_product.kp 2 N (cL (cK (cB (cA (cB (cB impl_Algebra_product.bd)))))) 0) impl_Algebra_product.kp 2 0 m s (impl_Algebra_product.k0 N K g2 g3)) v0 w1 g2 g3 r4 x5 g6).trans ?_
    simp only [ih, impl_Algebra_product.l1_eq, impl_Algebra_product.a1_0_eq]
    kernel_rfl

theorem impl_Algebra_product.s_eq {ρ : Type} (N : Nat) (K : AV → Heap → Option ρ) (v0 : Nat → Int) (w1 : Nat → Int) (g2 : Nat → Int) (g3 : Nat → Int) :
    xbody (E50 N) ents impl_Algebra_product.kp N Go.Proofs.Try.f82 impl_Algebra_product.bd [.sptr [(0, 2), (1, 520)], .agg [⟨.u8, 8, v0⟩], .agg [⟨.u8, 8, w1⟩]] [⟨false, .ints .i64 2 g2⟩, ⟨false, .ints .u8 520 g3⟩] K = (impl_Algebra_product.s N (fun d0 => K (.agg [⟨.u8, 8, d0⟩]) [⟨false, .ints .i64 2 g2⟩, ⟨false, .ints .u8 520 g3⟩]) (fun r4 x5 g6 => xloop (xcode (E50 N) ents impl_Algebra_product.kp 2 N (cL (cK (cB (cA (cB (cB impl_Algebra_product.bd)))))) 0) impl_Algebra_product.kp 2 0 N (impl_Algebra_product.st0 v0 w1 g2 g3 r4 x5 g6) (impl_Algebra_product.k0 N K g2 g3)) g2 g3) := by kernel_rfl

theorem impl_Algebra_product.eq {ρ : Type} (N : Nat) (K : AV → Heap → Option ρ) (v0 : Nat → Int) (w1 : Nat → Int) (g2 : Nat → Int) (g3 : Nat → Int) :
    xbody (E50 N) ents impl_Algebra_product.kp N Go.Proofs.Try.f82 impl_Algebra_product.bd [.sptr [(0, 2), (1, 520)], .agg [⟨.u8, 8, v0⟩], .agg [⟨.u8, 8, w1⟩]] [⟨false, .ints .i64 2 g2⟩, ⟨false, .ints .u8 520 g3⟩] K = (impl_Algebra_product N (fun d0 => K (.agg [⟨.u8, 8, d0⟩]) [⟨false, .ints .i64 2 g2⟩, ⟨false, .ints .u8 520 g3⟩]) v0 w1 g2 g3) := by
  refine (impl_Algebra_product.s_eq N K v0 w1 g2 g3).trans ?_
  simp only [impl_Algebra_product.l0_eq, impl_Algebra_product.a0_0_eq]
  kernel_rfl

noncomputable def impl_Algebra_product.en (N : Nat) (ρ : Type) : List AV → Heap → (AV → Heap → Option ρ) → Option ρ
  | [.sptr [(0, 2), (1, 520)], .agg [⟨.u8, 8, v0⟩], .agg [⟨.u8, 8, w1⟩]], [⟨false, .ints .i64 2 g2⟩, ⟨false, .ints .u8 520 g3⟩], K => (impl_Algebra_product N (fun d0 => K (.agg [⟨.u8, 8, d0⟩]) [⟨false, .ints .i64 2 g2⟩, ⟨false, .ints .u8 520 g3⟩]) v0 w1 g2 g3)
  | _, _, _ => none

theorem impl_Algebra_product.en_ok (N : Nat) (hE : EnvOk (E50 N) ents) (ρ : Type) (args : List AV) (sh : Heap) (K : AV → Heap → Option ρ) (r : ρ) (h : impl_Algebra_product.en N ρ args sh K = some r) : ∃ v sh', K v sh' = some r ∧ FnOk (E50 N).P 82 args sh v sh' := by
  unfold impl_Algebra_product.en at h
  split at h
  · exact fn_ok hE (kp := impl_Algebra_product.kp) (N := N) Go.Proofs.Try.func82 (c := impl_Algebra_product.bd) (by kernel_rfl) ((impl_Algebra_product.eq N _ _ _ _ _).trans h)
  · cases h

noncomputable def E51 (N : Nat) : Env := (E50 N).add 82 (impl_Algebra_product.en N)

theorem E51_ok (N : Nat) : EnvOk (E51 N) ents := Env.add_ok (E50_ok N) (impl_Algebra_product.en_ok N (E50_ok N))

noncomputable def impl_Algebra_fault.kp : Keeps := ⟨[(0, [0, 3, 11, 12], 2), (2, [0, 3, 4, 11, 12, 15, 16], 2), (4, [0, 3, 4, 5, 11, 12, 15, 16, 19, 20], 2)], [(0, [], 2), (2, [0, 3, 11, 12], 2), (4, [0, 3, 4, 11, 12, 15, 16], 2)]⟩

noncomputable def impl_Algebra_fault.bd : Code := bodyOf Go.Proofs.Try.f83

noncomputable def impl_Algebra_fault.fin {ρ : Type} (N : Nat) (K : AV → Heap → Option ρ) (g0 : Nat → Int) (g1 : Nat → Int) : XE → St → Option ρ := finK (E51 N) Go.Proofs.Try.f83 [⟨false, .ints .i64 2 g0⟩, ⟨false, .ints .u8 520 g1⟩] K

noncomputable def impl_Algebra_fault.k0 {ρ : Type} (N : Nat) (K : AV → Heap → Option ρ) (g0 : Nat → Int) (g1 : Nat → Int) : XE → St → Option ρ := (blockK impl_Algebra_fault.kp 2 0 (seqK (xcode (E51 N) ents impl_Algebra_fault.kp 2 N (cB (cB (cB impl_Algebra_fault.bd))) 0) (impl_Algebra_fault.fin N K g0 g1)))

theorem impl_Algebra_fault.k0_mix {ρ : Type} (N : Nat) (K : AV → Heap → Option ρ) (g0 : Nat → Int) (g1 : Nat → Int) : mixK (impl_Algebra_fault.fin N K g0 g1 .ret) (impl_Algebra_fault.k0 N K g0 g1) = (impl_Algebra_fault.k0 N K g0 g1) := by
  funext e s; cases e <;> rfl

noncomputable def impl_Algebra_fault.st0 (g0 : Nat → Int) (g1 : Nat → Int) (x2 : Int) : St := ⟨sl 55 [(0, .sptr [(0, 2), (1, 520)]), (3, .int .i64 ((g0 1))), (11, .int .i64 ((g0 1))), (12, .int .i64 (x2))], [⟨false, .ints .i64 2 g0⟩, ⟨false, .ints .u8 520 g1⟩]⟩

noncomputable def impl_Algebra_fault.sx0_0 (g0 : Nat → Int) (g1 : Nat → Int) : St := ⟨sl 55 [], [⟨false, .ints .i64 2 g0⟩, ⟨false, .ints .u8 520 g1⟩]⟩

noncomputable def impl_Algebra_fault.k1g {ρ : Type} (N : Nat) (L0 : St → Option ρ) (kv : XE → St → Option ρ) : XE → St → Option ρ := (blockK impl_Algebra_fault.kp 2 2 (blockK impl_Algebra_fault.kp 2 1 (seqK (xcode (E51 N) ents impl_Algebra_fault.kp 2 N (cB (cB (cB (cL (cK (cB (cA (cB (cB impl_Algebra_fault.bd))))))))) 0) (roundK impl_Algebra_fault.kp 2 0 L0 kv))))

theorem impl_Algebra_fault.k1_mix {ρ : Type} (N : Nat) (K : AV → Heap → Option ρ) (L0 : St → Option ρ) (g0 : Nat → Int) (g1 : Nat → Int) : mixK (impl_Algebra_fault.fin N K g0 g1 .ret) (impl_Algebra_fault.k1g N L0 (impl_Algebra_fault.k0 N K g0 g1)) = (impl_Algebra_fault.k1g N L0 (impl_Algebra_fault.k0 N K g0 g1)) := by
  funext e s; cases e <;> rfl

noncomputable def impl_Algebra_fault.st1 (g0 : Nat → Int) (g1 : Nat → Int) (x2 : Int) (x3 : Int) : St := ⟨sl 55 [(0, .sptr [(0, 2), (1, 520)]), (3, .int .i64 ((g0 1))), (4, .int .i64 (x2)), (11, .int .i64 ((g0 1))), (12, .int .i64 (x2)), (15, .int .i64 ((g0 1))), (16, .int .i64 (x3))], [⟨false, .ints .i64 2 g0⟩, ⟨false, .ints .u8 520 g1⟩]⟩

noncomputable def impl_Algebra_fault.sx1_0 (g0 : Nat → Int) (g1 : Nat → Int) (x2 : Int) : St := ⟨sl 55 [(0, .sptr [(0, 2), (1, 520)]), (3, .int .i64 ((g0 1))), (11, .int .i64 ((g0 1))), (12, .int .i64 (x2))], [⟨false, .ints .i64 2 g0⟩, ⟨false, .ints .u8 520 g1⟩]⟩

noncomputable def impl_Algebra_fault.k2g {ρ : Type} (N : Nat) (L1 : St → Option ρ) (kv : XE → St → Option ρ) : XE → St → Option ρ := (blockK impl_Algebra_fault.kp 2 4 (blockK impl_Algebra_fault.kp 2 3 (seqK (xcode (E51 N) ents impl_Algebra_fault.kp 2 N (cB (cB (cB (cL (cK (cB (cB (cK (cA (cB (cB (cL (cK (cB (cA (cB (cB impl_Algebra_fault.bd))))))))))))))))) 2) (roundK impl_Algebra_fault.kp 2 2 L1 kv))))

theorem impl_Algebra_fault.k2_mix {ρ : Type} (N : Nat) (K : AV → Heap → Option ρ) (L0 : St → Option ρ) (L1 : St → Option ρ) (g0 : Nat → Int) (g1 : Nat → Int) : mixK (impl_Algebra_fault.fin N K g0 g1 .ret) (impl_Algebra_fault.k2g N L1 (impl_Algebra_fault.k1g N L0 (impl_Algebra_fault.k0 N K g0 g1))) = (impl_Algebra_fault.k2g N L1 (impl_Algebra_fault.k1g N L0 (impl_Algebra_fault.k0 N K g0 g1))) := by
  funext e s; cases e <;> rfl

noncomputable def impl_Algebra_fault.st2 (g0 : Nat → Int) (g1 : Nat → Int) (x2 : Int) (x3 : Int) (x4 : Int) : St := ⟨sl 55 [(0, .sptr [(0, 2), (1, 520)]), (3, .int .i64 ((g0 1))), (4, .int .i64 (x2)), (5, .int .i64 (x3)), (11, .int .i64 ((g0 1))), (12, .int .i64 (x2)), (15, .int .i64 ((g0 1))), (16, .int .i64 (x3)), (19, .int .i64 ((g0 1))), (20, .int .i64 (x4))], [⟨false, .ints .i64 2 g0⟩, ⟨false, .ints .u8 520 g1⟩]⟩

noncomputable def impl_Algebra_fault.sx2_0 (g0 : Nat → Int) (g1 : Nat → Int) (x2 : Int) (x3 : Int) : St := ⟨sl 55 [(0, .sptr [(0, 2), (1, 520)]), (3, .int .i64 ((g0 1))), (4, .int .i64 (x2)), (11, .int .i64 ((g0 1))), (12, .int .i64 (x2)), (15, .int .i64 ((g0 1))), (16, .int .i64 (x3))], [⟨false, .ints .i64 2 g0⟩, ⟨false, .ints .u8 520 g1⟩]⟩

theorem impl_Algebra_fault.b2_gen {ρ : Type} (N : Nat) (K : AV → Heap → Option ρ) (L2 : St → Option ρ) (kv : XE → St → Option ρ) (g0 : Nat → Int) (g1 : Nat → Int) (x2 : Int) (x3 : Int) (x4 : Int) :
    xcode (E51 N) ents impl_Algebra_fault.kp 2 N (cL (cK (cB (cB (cK (cA (cB (cB (cL (cK (cB (cB (cK (cA (cB (cB (cL (cK (cB (cA (cB (cB impl_Algebra_fault.bd)))))))))))))))))))))) 4 (impl_Algebra_fault.st2 g0 g1 x2 x3 x4) (roundK impl_Algebra_fault.kp 2 4 L2 (mixK (impl_Algebra_fault.fin N K g0 g1 .ret) kv)) = (impl_Algebra_fault.b2 N (fun d0 d1 d2 => K (.slice 2 0 d0 (some d1) 1) [⟨false, .ints .i64 2 g0⟩, ⟨false, .ints .u8 520 g1⟩, ⟨true, .ints .i64 3 d2⟩]) (K (.nils) [⟨false, .ints .i64 2 g0⟩, ⟨false, .ints .u8 520 g1⟩]) (fun x4 => L2 (impl_Algebra_fault.st2 g0 g1 x2 x3 x4)) (kv (.exit 4) (impl_Algebra_fault.sx2_0 g0 g1 x2 x3)) g0 g1 x2 x3 x4) := by kernel_rfl

theorem impl_Algebra_fault.b2_eq {ρ : Type} (N : Nat) (K : AV → Heap → Option ρ) (L0 : St → Option ρ) (L1 : St → Option ρ) (L2 : St → Option ρ) (g0 : Nat → Int) (g1 : Nat → Int) (x2 : Int) (x3 : Int) (x4 : Int) :
    xcode (E51 N) ents impl_Algebra_fault.kp 2 N (cL (cK (cB (cB (cK (cA (cB (cB (cL (cK (cB (cB (cK (cA (cB (cB (cL (cK (cB (cA (cB (cB impl_Algebra_fault.bd)))))))))))))))))))))) 4 (impl_Algebra_fault.st2 g0 g1 x2 x3 x4) (roundK impl_Algebra_fault.kp 2 4 L2 (impl_Algebra_fault.k2g N L1 (impl_Algebra_fault.k1g N L0 (impl_Algebra_fault.k0 N K g0 g1)))) = (impl_Algebra_fault.b2 N (fun d0 d1 d2 => K (.slice 2 0 d0 (some d1) 1) [⟨false, .ints .i64 2 g0⟩, ⟨false, .ints .u8 520 g1⟩, ⟨true, .ints .i64 3 d2⟩]) (K (.nils) [⟨false, .ints .i64 2 g0⟩, ⟨false, .ints .u8 520 g1⟩]) (fun x4 => L2 (impl_Algebra_fault.st2 g0 g1 x2 x3 x4)) ((impl_Algebra_fault.k2g N L1 (impl_Algebra_fault.k1g N L0 (impl_Algebra_fault.k0 N K g0 g1))) (.exit 4) (impl_Algebra_fault.sx2_0 g0 g1 x2 x3)) g0 g1 x2 x3 x4) := by
  have h := impl_Algebra_fault.b2_gen N K L2 (impl_Algebra_fault.k2g N L1 (impl_Algebra_fault.k1g N L0 (impl_Algebra_fault.k0 N K g0 g1))) g0 g1 x2 x3 x4
  rw [impl_Algebra_fault.k2_mix] at h
  exact h

theorem impl_Algebra_fault.a2_0_gen {ρ : Type} (N : Nat) (K : AV → Heap → Option ρ) (L1 : St → Option ρ) (kv : XE → St → Option ρ) (g0 : Nat → Int) (g1 : Nat → Int) (x2 : Int) (x3 : Int) :
    (impl_Algebra_fault.k2g N L1 (mixK (impl_Algebra_fault.fin N K g0 g1 .ret) kv)) (.exit 4) (impl_Algebra_fault.sx2_0 g0 g1 x2 x3) = (impl_Algebra_fault.a2_0 N (fun d0 d1 d2 => K (.slice 2 0 d0 (some d1) 1) [⟨false, .ints .i64 2 g0⟩, ⟨false, .ints .u8 520 g1⟩, ⟨true, .ints .i64 3 d2⟩]) (K (.nils) [⟨false, .ints .i64 2 g0⟩, ⟨false, .ints .u8 520 g1⟩]) (fun x3 => L1 (impl_Algebra_fault.st1 g0 g1 x2 x3)) (kv (.exit 2) (impl_Algebra_fault.sx1_0 g0 g1 x2)) x3) := by kernel_rfl

theorem impl_Algebra_fault.a2_0_eq {ρ : Type} (N : Nat) (K : AV → Heap → Option ρ) (L0 : St → Option ρ) (L1 : St → Option ρ) (g0 : Nat → Int) (g1 : Nat → Int) (x2 : Int) (x3 : Int) :
    (impl_Algebra_fault.k2g N L1 (impl_Algebra_fault.k1g N L0 (impl_Algebra_fault.k0 N K g0 g1))) (.exit 4) (impl_Algebra_fault.sx2_0 g0 g1 x2 x3) = (impl_Algebra_fault.a2_0 N (fun d0 d1 d2 => K (.slice 2 0 d0 (some d1) 1) [⟨false, .ints .i64 2 g0⟩, ⟨false, .ints .u8 520 g1⟩, ⟨true, .ints .i64 3 d2⟩]) (K (.nils) [⟨false, .ints .i64 2 g0⟩, ⟨false, .ints .u8 520 g1⟩]) (fun x3 => L1 (impl_Algebra_fault.st1 g0 g1 x2 x3)) ((impl_Algebra_fault.k1g N L0 (impl_Algebra_fault.k0 N K g0 g1)) (.exit 2) (impl_Algebra_fault.sx1_0 g0 g1 x2)) x3) := by
  have h := impl_Algebra_fault.a2_0_gen N K L1 (impl_Algebra_fault.k1g N L0 (impl_Algebra_fault.k0 N K g0 g1)) g0 g1 x2 x3
  rw [impl_Algebra_fault.k1_mix] at h
  exact h

theorem impl_Algebra_fault.b1_gen {ρ : Type} (N : Nat) (K : AV → Heap → Option ρ) (L1 : St → Option ρ) (kv : XE → St → Option ρ) (g0 : Nat → Int) (g1 : Nat → Int) (x2 : Int) (x3 : Int) :
    xcode (E51 N) ents impl_Algebra_fault.kp 2 N (cL (cK (cB (cB (cK (cA (cB (cB (cL (cK (cB (cA (cB (cB impl_Algebra_fault.bd)))))))))))))) 2 (impl_Algebra_fault.st1 g0 g1 x2 x3) (roundK impl_Algebra_fault.kp 2 2 L1 (mixK (impl_Algebra_fault.fin N K g0 g1 .ret) kv)) = (impl_Algebra_fault.b1 N (fun d0 d1 d2 => K (.slice 2 0 d0 (some d1) 1) [⟨false, .ints .i64 2 g0⟩, ⟨false, .ints .u8 520 g1⟩, ⟨true, .ints .i64 3 d2⟩]) (K (.nils) [⟨false, .ints .i64 2 g0⟩, ⟨false, .ints .u8 520 g1⟩]) (fun x4 => xloop (xcode (E51 N) ents impl_Algebra_fault.kp 2 N (cL (cK (cB (cB (cK (cA (cB (cB (cL (cK (cB (cB (cK (cA (cB (cB (cL (cK (cB (cA (cB (cB impl_Algebra_fault.bd)))))))))))))))))))))) 4) impl_Algebra_fault.kp 2 4 N (impl_Algebra_fault.st2 g0 g1 x2 x3 x4) (impl_Algebra_fault.k2g N L1 (mixK (impl_Algebra_fault.fin N K g0 g1 .ret) kv))) (fun x3 => L1 (impl_Algebra_fault.st1 g0 g1 x2 x3)) (kv (.exit 2) (impl_Algebra_fault.sx1_0 g0 g1 x2)) g0 x3) := by kernel_rfl

theorem impl_Algebra_fault.b1_eq {ρ : Type} (N : Nat) (K : AV → Heap → Option ρ) (L0 : St → Option ρ) (L1 : St → Option ρ) (g0 : Nat → Int) (g1 : Nat → Int) (x2 : Int) (x3 : Int) :
    xcode (E51 N) ents impl_Algebra_fault.kp 2 N (cL (cK (cB (cB (cK (cA (cB (cB (cL (cK (cB (cA (cB (cB impl_Algebra_fault.bd)))))))))))))) 2 (impl_Algebra_fault.st1 g0 g1 x2 x3) (roundK impl_Algebra_fault.kp 2 2 L1 (impl_Algebra_fault.k1g N L0 (impl_Algebra_fault.k0 N K g0 g1))) = (impl_Algebra_fault.b1 N (fun d0 d1 d2 => K (.slice 2 0 d0 (some d1) 1) [⟨false, .ints .i64 2 g0⟩, ⟨false, .ints .u8 520 g1⟩, ⟨true, .ints .i64 3 d2⟩]) (K (.nils) [⟨false, .ints .i64 2 g0⟩, ⟨false, .ints .u8 520 g1⟩]) (fun x4 => xloop (xcode (E51 N) ents impl_Algebra_fault.kp 2 N (cL (cK (cB (cB (cK (cA (cB (cB (cL (cK (cB (cB (cK (cA (cB (cB (cL (cK (cB (cA (cB (cB impl_Algebra_fault.bd)))))))))))))))))))))) 4) impl_Algebra_fault.kp 2 4 N (impl_Algebra_fault.st2 g0 g1 x2 x3 x4) (impl_Algebra_fault.k2g N L1 (impl_Algebra_fault.k1g N L0 (impl_Algebra_fault.k0 N K g0 g1)))) (fun x3 => L1 (impl_Algebra_fault.st1 g0 g1 x2 x3)) ((impl_Algebra_fault.k1g N L0 (impl_Algebra_fault.k0 N K g0 g1)) (.exit 2) (impl_Algebra_fault.sx1_0 g0 g1 x2)) g0 x3) := by
  have h := impl_Algebra_fault.b1_gen N K L1 (impl_Algebra_fault.k1g N L0 (impl_Algebra_fault.k0 N K g0 g1)) g0 g1 x2 x3
  rw [impl_Algebra_fault.k1_mix] at h
  exact h

theorem impl_Algebra_fault.a1_0_gen {ρ : Type} (N : Nat) (K : AV → Heap → Option ρ) (L0 : St → Option ρ) (kv : XE → St → Option ρ) (g0 : Nat → Int) (g1 : Nat → Int) (x2 : Int) :
    (impl_Algebra_fault.k1g N L0 (mixK (impl_Algebra_fault.fin N K g0 g1 .ret) kv)) (.exit 2) (impl_Algebra_fault.sx1_0 g0 g1 x2) = (impl_Algebra_fault.a1_0 N (fun d0 d1 d2 => K (.slice 2 0 d0 (some d1) 1) [⟨false, .ints .i64 2 g0⟩, ⟨false, .ints .u8 520 g1⟩, ⟨true, .ints .i64 3 d2⟩]) (K (.nils) [⟨false, .ints .i64 2 g0⟩, ⟨false, .ints .u8 520 g1⟩]) (fun x2 => L0 (impl_Algebra_fault.st0 g0 g1 x2)) (kv (.exit 0) (impl_Algebra_fault.sx0_0 g0 g1)) x2) := by kernel_rfl

theorem impl_Algebra_fault.a1_0_eq {ρ : Type} (N : Nat) (K : AV → Heap → Option ρ) (L0 : St → Option ρ) (g0 : Nat → Int) (g1 : Nat → Int) (x2 : Int) :
    (impl_Algebra_fault.k1g N L0 (impl_Algebra_fault.k0 N K g0 g1)) (.exit 2) (impl_Algebra_fault.sx1_0 g0 g1 x2) = (impl_Algebra_fault.a1_0 N (fun d0 d1 d2 => K (.slice 2 0 d0 (some d1) 1) [⟨false, .ints .i64 2 g0⟩, ⟨false, .ints .u8 520 g1⟩, ⟨true, .ints .i64 3 d2⟩]) (K (.nils) [⟨false, .ints .i64 2 g0⟩, ⟨false, .ints .u8 520 g1⟩]) (fun x2 => L0 (impl_Algebra_fault.st0 g0 g1 x2)) ((impl_Algebra_fault.k0 N K g0 g1) (.exit 0) (impl_Algebra_fault.sx0_0 g0 g1)) x2) := by
  have h := impl_Algebra_fault.a1_0_gen N K L0 (impl_Algebra_fault.k0 N K g0 g1) g0 g1 x2
  rw [impl_Algebra_fault.k0_mix] at h
  exact h

theorem impl_Algebra_fault.b0_gen {ρ : Type} (N : Nat) (K : AV → Heap → Option ρ) (L0 : St → Option ρ) (kv : XE → St → Option ρ) (g0 : Nat → Int) (g1 : Nat → Int) (x2 : Int) :
    xcode (E51 N) ents impl_Algebra_fault.kp 2 N (cL (cK (cB (cA (cB (cB impl_Algebra_fault.bd)))))) 0 (impl_Algebra_fault.st0 g0 g1 x2) (roundK impl_Algebra_fault.kp 2 0 L0 (mixK (impl_Algebra_fault.fin N K g0 g1 .ret) kv)) = (impl_Algebra_fault.b0 N (fun d0 d1 d2 => K (.slice 2 0 d0 (some d1) 1) [⟨false, .ints .i64 2 g0⟩, ⟨false, .ints .u8 520 g1⟩, ⟨true, .ints .i64 3 d2⟩]) (K (.nils) [⟨false, .ints .i64 2 g0⟩, ⟨false, .ints .u8 520 g1⟩]) (fun x3 => xloop (xcode (E51 N) ents impl_Algebra_fault.kp 2 N (cL (cK (cB (cB (cK (cA (cB (cB (cL (cK (cB (cA (cB (cB impl_Algebra_fault.bd)))))))))))))) 2) impl_Algebra_fault.kp 2 2 N (impl_Algebra_fault.st1 g0 g1 x2 x3) (impl_Algebra_fault.k1g N L0 (mixK (impl_Algebra_fault.fin N K g0 g1 .ret) kv))) (fun x2 => L0 (impl_Algebra_fault.st0 g0 g1 x2)) (kv (.exit 0) (impl_Algebra_fault.sx0_0 g0 g1)) g0 x2) := by kernel_rfl

theorem impl_Algebra_fault.b0_eq {ρ : Type} (N : Nat) (K : AV → Heap → Option ρ) (L0 : St → Option ρ) (g0 : Nat → Int) (g1 : Nat → Int) (x2 : Int) :
    xcode (E51 N) ents impl_Algebra_fault.kp 2 N (cL (cK (cB (cA (cB (cB impl_Algebra_fault.bd)))))) 0 (impl_Algebra_fault.st0 g0 g1 x2) (roundK impl_Algebra_fault.kp 2 0 L0 (impl_Algebra_fault.k0 N K g0 g1)) = (impl_Algebra_fault.b0 N (fun d0 d1 d2 => K (.slice 2 0 d0 (some d1) 1) [⟨false, .ints .i64 2 g0⟩, ⟨false, .ints .u8 520 g1⟩, ⟨true, .ints .i64 3 d2⟩]) (K (.nils) [⟨false, .ints .i64 2 g0⟩, ⟨false, .ints .u8 520 g1⟩]) (fun x3 => xloop (xcode (E51 N) ents impl_Algebra_fault.kp 2 N (cL (cK (cB (cB (cK (cA (cB (cB (cL (cK (cB (cA (cB (cB impl_Algebra_fault.bd)))))))))))))) 2) impl_Algebra_fault.kp 2 2 N (impl_Algebra_fault.st1 g0 g1 x2 x3) (impl_Algebra_fault.k1g N L0 (impl_Algebra_fault.k0 N K g0 g1))) (fun x2 => L0 (impl_Algebra_fault.st0 g0 g1 x2)) ((impl_Algebra_fault.k0 N K g0 g1) (.exit 0) (impl_Algebra_fault.sx0_0 g0 g1)) g0 x2) := by
  have h := impl_Algebra_fault.b0_gen N K L0 (impl_Algebra_fault.k0 N K g0 g1) g0 g1 x2
  rw [impl_Algebra_fault.k0_mix] at h
  exact h

theorem impl_Algebra_fault.a0_0_eq {ρ : Type} (N : Nat) (K : AV → Heap → Option ρ) (g0 : Nat → Int) (g1 : Nat → Int) :
    (impl_Algebra_fault.k0 N K g0 g1) (.exit 0) (impl_Algebra_fault.sx0_0 g0 g1) = (impl_Algebra_fault.a0_0 N (fun d0 d1 d2 => K (.slice 2 0 d0 (some d1) 1) [⟨false, .ints .i64 2 g0⟩, ⟨false, .ints .u8 520 g1⟩, ⟨true, .ints .i64 3 d2⟩]) (K (.nils) [⟨false, .ints .i64 2 g0⟩, ⟨false, .ints .u8 520 g1⟩])) := by kernel_rfl

theorem impl_Algebra_fault.l2_eq {ρ : Type} (N : Nat) (K : AV → Heap → Option ρ) (L0 : St → Option ρ) (L1 : St → Option ρ) (g0 : Nat → Int) (g1 : Nat → Int) (x2 : Int) (x3 : Int) :
    ∀ (m : Nat) (x4 : Int), xloop (xcode (E51 N) ents impl_Algebra_fault.kp 2 N (cL (cK (cB (cB (cK (cA (cB (cB (cL (cK (cB (cB (cK (cA (cB (cB (cL (cK (cB (cA (cB (cB impl_Algebra_fault.bd)))))))))))))))))))))) 4) impl_Algebra_fault.kp 2 4 m (impl_Algebra_fault.st2 g0 g1 x2 x3 x4) (impl_Algebra_fault.k2g N L1 (impl_Algebra_fault.k1g N L0 (impl_Algebra_fault.k0 N K g0 g1))) = (impl_Algebra_fault.l2 N (fun d0 d1 d2 => K (.slice 2 0 d0 (some d1) 1) [⟨false, .ints .i64 2 g0⟩, ⟨false, .ints .u8 520 g1⟩, ⟨true, .ints .i64 3 d2⟩]) (K (.nils) [⟨false, .ints .i64 2 g0⟩, ⟨false, .ints .u8 520 g1⟩]) g0 g1 x2 x3 ((impl_Algebra_fault.k2g N L1 (impl_Algebra_fault.k1g N L0 (impl_Algebra_fault.k0 N K g0 g1))) (.exit 4) (impl_Algebra_fault.sx2_0 g0 g1 x2 x3)) m x4) := by
  intro m
  induction m with
  | zero => intros; rfl
  | succ m ih =>
    intro x4
    refine (impl_Algebra_fault.b2_eq N K L0 L1 (fun s => xloop (xcode (E51 N) ents impl_Algebra_fault.kp 2 N (cL (cK (cB (cB (cK (cA (cB (cB (cL (cK (cB (cB (cK (cA (cB (cB (cL (cK (cB (cA (cB (cB impl_Algebra_fault.bd)))))))))))))))))))))) 4) impl_Algebra_fault.kp 2 4 m s (impl_Algebra_fault.k2g N L1 (impl_Algebra_fault.k1g N L0 (impl_Algebra_fault.k0 N K g0 g1)))) g0 g1 x2 x3 x4).trans ?_
    simp only [ih]
    kernel_rfl

theorem impl_Algebra_fault.l1_eq {ρ : Type} (N : Nat) (K : AV → Heap → Option ρ) (L0 : St → Option ρ) (g0 : Nat → Int) (g1 : Nat → Int) (x2 : Int) :
    ∀ (m : Nat) (x3 : Int), xloop (xcode (E51 N) ents impl_Algebra_fault.kp 2 N (cL (cK (cB (cB (cK (cA (cB (cB (cL (cK (cB (cA (cB (cB impl_Algebra_fault.bd)))))))))))))) 2) impl_Algebra_fault.kp 2 2 m (impl_Algebra_fault.st1 g0 g1 x2 x3) (impl_Algebra_fault.k1g N L0 (impl_Algebra_fault.k0 N K g0 g1)) = (impl_Algebra_fault.l1 N (fun d0 d1 d2 => K (.slice 2 0 d0 (some d1) 1) [⟨false, .ints .i64 2 g0⟩, ⟨false, .ints .u8 520 g1⟩, ⟨true, .ints .i64 3 d2⟩]) (K (.nils) [⟨false, .ints .i64 2 g0⟩, ⟨false, .ints .u8 520 g1⟩]) g0 g1 x2 ((impl_Algebra_fault.k1g N L0 (impl_Algebra_fault.k0 N K g0 g1)) (.exit 2) (impl_Algebra_fault.sx1_0 g0 g1 x2)) m x3) := by
  intro m
  induction m with
  | zero => intros; rfl
  | succ m ih =>
    intro x3
    refine (impl_Algebra_fault.b1_eq N K L0 (fun s => xloop (xcode (E51 N) ents impl_Algebra_fault.kp 2 N (cL (cK (cB (cB (cK (cA (cB (cB (cL (cK (cB (cA (cB (cB impl_Algebra_fault.bd)))))))))))))) 2) impl_Algebra_fault.kp 2 2 m s (impl_Algebra_fault.k1g N L0 (impl_Algebra_fault.k0 N K g0 g1))) g0 g1 x2 x3).trans ?_
    simp only [ih, impl_Algebra_fault.l2_eq, impl_Algebra_fault.a2_0_eq]
    kernel_rfl

theorem impl_Algebra_fault.l0_eq {ρ : Type} (N : Nat) (K : AV → Heap → Option ρ) (g0 : Nat → Int) (g1 : Nat → Int) :
    ∀ (m : Nat) (x2 : Int), xloop (xcode (E51 N) ents impl_Algebra_fault.kp 2 N (cL (cK (cB (cA (cB (cB impl_Algebra_fault.bd)))))) 0) impl_Algebra_fault.kp 2 0 m (impl_Algebra_fault.st0 g0 g1 x2) (impl_Algebra_fault.k0 N K g0 g1) = (impl_Algebra_fault.l0 N (fun d0 d1 d2 => K (.slice 2 0 d0 (some d1) 1) [⟨false, .ints .i64 2 g0⟩, ⟨false, .ints .u8 520 g1⟩, ⟨true, .ints .i64 3 d2⟩]) (K (.nils) [⟨false, .ints .i64 2 g0⟩, ⟨false, .ints .u8 520 g1⟩]) g0 g1 ((impl_Algebra_fault.k0 N K g0 g1) (.exit 0) (impl_Algebra_fault.sx0_0 g0 g1)) m x2) := by
  intro m
  induction m with
  | zero => intros; rfl
  | succ m ih =>
    intro x2
    refine (impl_Algebra_fault.b0_eq N K (fun s => xloop (xcode (E51 N) ents impl_Algebra_fault.kp 2 N (cL (cK (cB (cA (cB (cB impl_Algebra_fault.bd)))))) 0) impl_Algebra_fault.kp 2 0 m s (impl_Algebra_fault.k0 N K g0 g1)) g0 g1 x2).trans ?_
    simp only [ih, impl_Algebra_fault.l1_eq, impl_Algebra_fault.a1_0_eq]
    kernel_rfl

theorem impl_Algebra_fault.s_eq {ρ : Type} (N : Nat) (K : AV → Heap → Option ρ) (g0 : Nat → Int) (g1 : Nat → Int) :
    xbody (E51 N) ents impl_Algebra_fault.kp N Go.Proofs.Try.f83 impl_Algebra_fault.bd [.sptr [(0, 2), (1, 520)]] [⟨false, .ints .i64 2 g0⟩, ⟨false, .ints .u8 520 g1⟩] K = (impl_Algebra_fault.s N (fun d0 d1 d2 => K (.slice 2 0 d0 (some d1) 1) [⟨false, .ints .i64 2 g0⟩, ⟨false, .ints .u8 520 g1⟩, ⟨true, .ints .i64 3 d2⟩]) (K (.nils) [⟨false, .ints .i64 2 g0⟩, ⟨false, .ints .u8 520 g1⟩]) (fun x2 => xloop (xcode (E51 N) ents impl_Algebra_fault.kp 2 N (cL (cK (cB (cA (cB (cB impl_Algebra_fault.bd)))))) 0) impl_Algebra_fault.kp 2 0 N (impl_Algebra_fault.st0 g0 g1 x2) (impl_Algebra_fault.k0 N K g0 g1))) := by kernel_rfl

theorem impl_Algebra_fault.eq {ρ : Type} (N : Nat) (K : AV → Heap → Option ρ) (g0 : Nat → Int) (g1 : Nat → Int) :
    xbody (E51 N) ents impl_Algebra_fault.kp N Go.Proofs.Try.f83 impl_Algebra_fault.bd [.sptr [(0, 2), (1, 520)]] [⟨false, .ints .i64 2 g0⟩, ⟨false, .ints .u8 520 g1⟩] K = (impl_Algebra_fault N (fun d0 d1 d2 => K (.slice 2 0 d0 (some d1) 1) [⟨false, .ints .i64 2 g0⟩, ⟨false, .ints .u8 520 g1⟩, ⟨true, .ints .i64 3 d2⟩]) (K (.nils) [⟨false, .ints .i64 2 g0⟩, ⟨false, .ints .u8 520 g1⟩]) g0 g1) := by
  refine (impl_Algebra_fault.s_eq N K g0 g1).trans ?_
  simp only [impl_Algebra_fault.l0_eq, impl_Algebra_fault.a0_0_eq]
  kernel_rfl

noncomputable def impl_Algebra_fault.en (N : Nat) (ρ : Type) : List AV → Heap → (AV → Heap → Option ρ) → Option ρ
  | [.sptr [(0, 2), (1, 520)]], [⟨false, .ints .i64 2 g0⟩, ⟨false, .ints .u8 520 g1⟩], K => (impl_Algebra_fault N (fun d0 d1 d2 => K (.slice 2 0 d0 (some d1) 1) [⟨false, .ints .i64 2 g0⟩, ⟨false, .ints .u8 520 g1⟩, ⟨true, .ints .i64 3 d2⟩]) (K (.nils) [⟨false, .ints .i64 2 g0⟩, ⟨false, .ints .u8 520 g1⟩]) g0 g1)
  | _, _, _ => none

theorem impl_Algebra_fault.en_ok (N : Nat) (hE : EnvOk (E51 N) ents) (ρ : Type) (args : List AV) (sh : Heap) (K : AV → Heap → Option ρ) (r : ρ) (h : impl_Algebra_fault.en N ρ args sh K = some r) : ∃ v sh', K v sh' = some r ∧ FnOk (E51 N).P 83 args sh v sh' := by
  unfold impl_Algebra_fault.en at h
  split at h
  · exact fn_ok hE (kp := impl_Algebra_fault.kp) (N := N) Go.Proofs.Try.func83 (c := impl_Algebra_fault.bd) (by kernel_rfl) ((impl_Algebra_fault.eq N _ _ _).trans h)
  · cases h

noncomputable def E52 (N : Nat) : Env := (E51 N).add 83 (impl_Algebra_fault.en N)

theorem E52_ok (N : Nat) : EnvOk (E52 N) ents := Env.add_ok (E51_ok N) (impl_Algebra_fault.en_ok N (E51_ok N))

noncomputable def impl_IsAlgebra.kp : Keeps := ⟨[(0, [1, 8, 9], 2)], [(0, [1], 2)]⟩

noncomputable def impl_IsAlgebra.bd : Code := bodyOf Go.Proofs.Try.f59

noncomputable def impl_IsAlgebra.fin {ρ : Type} (N : Nat) (K : AV → Heap → Option ρ) : XE → St → Option ρ := finK (E52 N) Go.Proofs.Try.f59 [] K

noncomputable def impl_IsAlgebra.k0 {ρ : Type} (N : Nat) (K : AV → Heap → Option ρ) : XE → St → Option ρ := (blockK impl_IsAlgebra.kp 0 0 (seqK (xcode (E52 N) ents impl_IsAlgebra.kp 0 N (cB (cB (cB impl_IsAlgebra.bd))) 0) (impl_IsAlgebra.fin N K)))

theorem impl_IsAlgebra.k0_mix {ρ : Type} (N : Nat) (K : AV → Heap → Option ρ) : mixK (impl_IsAlgebra.fin N K .ret) (impl_IsAlgebra.k0 N K) = (impl_IsAlgebra.k0 N K) := by
  funext e s; cases e <;> rfl

noncomputable def impl_IsAlgebra.st0 (a0 : Nat → Int) (a1 : Nat → Int) (x3 : Int) : St := ⟨sl 31 [(1, .sptr [(0, 2), (1, 520)]), (8, .int .i64 ((a0 1))), (9, .int .i64 (x3))], [⟨true, .ints .i64 2 a0⟩, ⟨true, .ints .u8 520 a1⟩]⟩

noncomputable def impl_IsAlgebra.sx0_0 (a0 : Nat → Int) (a1 : Nat → Int) : St := ⟨sl 31 [(1, .sptr [(0, 2), (1, 520)])], [⟨true, .ints .i64 2 a0⟩, ⟨true, .ints .u8 520 a1⟩]⟩

theorem impl_IsAlgebra.b0_gen {ρ : Type} (N : Nat) (K : AV → Heap → Option ρ) (L0 : St → Option ρ) (kv : XE → St → Option ρ) (a0 : Nat → Int) (a1 : Nat → Int) (x3 : Int) :
    xcode (E52 N) ents impl_IsAlgebra.kp 0 N (cL (cK (cB (cA (cB (cB impl_IsAlgebra.bd)))))) 0 (impl_IsAlgebra.st0 a0 a1 x3) (roundK impl_IsAlgebra.kp 0 0 L0 (mixK (impl_IsAlgebra.fin N K .ret) kv)) = (impl_IsAlgebra.b0 N (fun d0 => K (.bool (d0)) []) (fun x3 => L0 (impl_IsAlgebra.st0 a0 a1 x3)) (kv (.exit 0) (impl_IsAlgebra.sx0_0 a0 a1)) a0 a1 x3) := by kernel_rfl

theorem impl_IsAlgebra.b0_eq {ρ : Type} (N : Nat) (K : AV → Heap → Option ρ) (L0 : St → Option ρ) (a0 : Nat → Int) (a1 : Nat → Int) (x3 : Int) :
    xcode (E52 N) ents impl_IsAlgebra.kp 0 N (cL (cK (cB (cA (cB (cB impl_IsAlgebra.bd)))))) 0 (impl_IsAlgebra.st0 a0 a1 x3) (roundK impl_IsAlgebra.kp 0 0 L0 (impl_IsAlgebra.k0 N K)) = (impl_IsAlgebra.b0 N (fun d0 => K (.bool (d0)) []) (fun x3 => L0 (impl_IsAlgebra.st0 a0 a1 x3)) ((impl_IsAlgebra.k0 N K) (.exit 0) (impl_IsAlgebra.sx0_0 a0 a1)) a0 a1 x3) := by
  have h := impl_IsAlgebra.b0_gen N K L0 (impl_IsAlgebra.k0 N K) a0 a1 x3
  rw [impl_IsAlgebra.k0_mix] at h
  exact h

theorem impl_IsAlgebra.a0_0_eq {ρ : Type} (N : Nat) (K : AV → Heap → Option ρ) (a0 : Nat → Int) (a1 : Nat → Int) :
    (impl_IsAlgebra.k0 N K) (.exit 0) (impl_IsAlgebra.sx0_0 a0 a1) = (impl_IsAlgebra.a0_0 N (fun d0 => K (.bool (d0)) []) a0 a1) := by kernel_rfl

theorem impl_IsAlgebra.l0_eq {ρ : Type} (N : Nat) (K : AV → Heap → Option ρ) (a0 : Nat → Int) (a1 : Nat → Int) :
    ∀ (m : Nat) (x3 : Int), xloop (xcode (E52 N) ents impl_IsAlgebra.kp 0 N (cL (cK (cB (cA (cB (cB impl_IsAlgebra.bd)))))) 0) impl_IsAlgebra.kp 0 0 m (impl_IsAlgebra.st0 a0 a1 x3) (impl_IsAlgebra.k0 N K) = (impl_IsAlgebra.l0 N (fun d0 => K (.bool (d0)) []) a0 a1 ((impl_IsAlgebra.k0 N K) (.exit 0) (impl_IsAlgebra.sx0_0 a0 a1)) m x3) := by
  intro m
  induction m with
  | zero => intros; rfl
  | succ m ih =>
    intro x3
    refine (impl_IsAlgebra.b0_eq N K (fun s => xloop (xcode (E52 N) ents impl_IsAlgebra.kp 0 N (cL (cK (cB (cA (cB (cB impl_IsAlgebra.bd)))))) 0) impl_IsAlgebra.kp 0 0 m s (impl_IsAlgebra.k0 N K)) a0 a1 x3).trans ?_
    simp only [ih]
    kernel_rfl

theorem impl_IsAlgebra.s_eq {ρ : Type} (N : Nat) (K : AV → Heap → Option ρ) (a0 : Nat → Int) (a1 : Nat → Int) :
    xbody (E52 N) ents impl_IsAlgebra.kp N Go.Proofs.Try.f59 impl_IsAlgebra.bd [.agg [⟨.i64, 2, a0⟩, ⟨.u8, 520, a1⟩]] [] K = (impl_IsAlgebra.s N (fun d0 => K (.bool (d0)) []) (fun x3 => xloop (xcode (E52 N) ents impl_IsAlgebra.kp 0 N (cL (cK (cB (cA (cB (cB impl_IsAlgebra.bd)))))) 0) impl_IsAlgebra.kp 0 0 N (impl_IsAlgebra.st0 a0 a1 x3) (impl_IsAlgebra.k0 N K)) a0 a1) := by kernel_rfl

theorem impl_IsAlgebra.eq {ρ : Type} (N : Nat) (K : AV → Heap → Option ρ) (a0 : Nat → Int) (a1 : Nat → Int) :
    xbody (E52 N) ents impl_IsAlgebra.kp N Go.Proofs.Try.f59 impl_IsAlgebra.bd [.agg [⟨.i64, 2, a0⟩, ⟨.u8, 520, a1⟩]] [] K = (impl_IsAlgebra N (fun d0 => K (.bool (d0)) []) a0 a1) := by
  refine (impl_IsAlgebra.s_eq N K a0 a1).trans ?_
  simp only [impl_IsAlgebra.l0_eq, impl_IsAlgebra.a0_0_eq]
  kernel_rfl

noncomputable def impl_IsAlgebra.en (N : Nat) (ρ : Type) : List AV → Heap → (AV → Heap → Option ρ) → Option ρ
  | [.agg [⟨.i64, 2, a0⟩, ⟨.u8, 520, a1⟩]], [], K => (impl_IsAlgebra N (fun d0 => K (.bool (d0)) []) a0 a1)
  | _, _, _ => none

theorem impl_IsAlgebra.en_ok (N : Nat) (hE : EnvOk (E52 N) ents) (ρ : Type) (args : List AV) (sh : Heap) (K : AV → Heap → Option ρ) (r : ρ) (h : impl_IsAlgebra.en N ρ args sh K = some r) : ∃ v sh', K v sh' = some r ∧ FnOk (E52 N).P 59 args sh v sh' := by
  unfold impl_IsAlgebra.en at h
  split at h
  · exact fn_ok hE (kp := impl_IsAlgebra.kp) (N := N) Go.Proofs.Try.func59 (c := impl_IsAlgebra.bd) (by kernel_rfl) ((impl_IsAlgebra.eq N _ _ _).trans h)
  · cases h

noncomputable def E53 (N : Nat) : Env := (E52 N).add 59 (impl_IsAlgebra.en N)

theorem E53_ok (N : Nat) : EnvOk (E53 N) ents := Env.add_ok (E52_ok N) (impl_IsAlgebra.en_ok N (E52_ok N))

noncomputable def impl_Hopf_fails_c1.kp : Keeps := ⟨[], []⟩

noncomputable def impl_Hopf_fails_c1.bd : Code := bodyOf Go.Proofs.Try.f58

noncomputable def impl_Hopf_fails_c1.fin {ρ : Type} (N : Nat) (K : AV → Heap → Option ρ) (g0 : Nat → Int) (g1 : Nat → Int) : XE → St → Option ρ := finK (E53 N) Go.Proofs.Try.f58 [⟨false, .avs [.sptr [(1, 2), (2, 1104)]]⟩, ⟨false, .ints .i64 2 g0⟩, ⟨false, .ints .u8 1104 g1⟩] K

theorem impl_Hopf_fails_c1.eq {ρ : Type} (N : Nat) (K : AV → Heap → Option ρ) (g0 : Nat → Int) (g1 : Nat → Int) :
    xbody (E53 N) ents impl_Hopf_fails_c1.kp N Go.Proofs.Try.f58 impl_Hopf_fails_c1.bd [.sptr [(0, 1)]] [⟨false, .avs [.sptr [(1, 2), (2, 1104)]]⟩, ⟨false, .ints .i64 2 g0⟩, ⟨false, .ints .u8 1104 g1⟩] K = (impl_Hopf_fails_c1 N (fun d0 => K (.bool (d0)) [⟨false, .avs [.sptr [(1, 2), (2, 1104)]]⟩, ⟨false, .ints .i64 2 g0⟩, ⟨false, .ints .u8 1104 g1⟩]) g0 g1) := by kernel_rfl

noncomputable def impl_Hopf_fails_c1.en (N : Nat) (ρ : Type) : List AV → Heap → (AV → Heap → Option ρ) → Option ρ
  | [.sptr [(0, 1)]], [⟨false, .avs [.sptr [(1, 2), (2, 1104)]]⟩, ⟨false, .ints .i64 2 g0⟩, ⟨false, .ints .u8 1104 g1⟩], K => (impl_Hopf_fails_c1 N (fun d0 => K (.bool (d0)) [⟨false, .avs [.sptr [(1, 2), (2, 1104)]]⟩, ⟨false, .ints .i64 2 g0⟩, ⟨false, .ints .u8 1104 g1⟩]) g0 g1)
  | _, _, _ => none

theorem impl_Hopf_fails_c1.en_ok (N : Nat) (hE : EnvOk (E53 N) ents) (ρ : Type) (args : List AV) (sh : Heap) (K : AV → Heap → Option ρ) (r : ρ) (h : impl_Hopf_fails_c1.en N ρ args sh K = some r) : ∃ v sh', K v sh' = some r ∧ FnOk (E53 N).P 58 args sh v sh' := by
  unfold impl_Hopf_fails_c1.en at h
  split at h
  · exact fn_ok hE (kp := impl_Hopf_fails_c1.kp) (N := N) Go.Proofs.Try.func58 (c := impl_Hopf_fails_c1.bd) (by kernel_rfl) ((impl_Hopf_fails_c1.eq N _ _ _).trans h)
  · cases h

noncomputable def E54 (N : Nat) : Env := (E53 N).add 58 (impl_Hopf_fails_c1.en N)

theorem E54_ok (N : Nat) : EnvOk (E54 N) ents := Env.add_ok (E53_ok N) (impl_Hopf_fails_c1.en_ok N (E53_ok N))

noncomputable def impl_Coalgebra_field.kp : Keeps := ⟨[], []⟩

noncomputable def impl_Coalgebra_field.bd : Code := bodyOf Go.Proofs.Try.f101

noncomputable def impl_Coalgebra_field.fin {ρ : Type} (N : Nat) (K : AV → Heap → Option ρ) (g0 : Nat → Int) (g1 : Nat → Int) : XE → St → Option ρ := finK (E54 N) Go.Proofs.Try.f101 [⟨false, .ints .i64 2 g0⟩, ⟨false, .ints .u8 520 g1⟩] K

theorem impl_Coalgebra_field.eq {ρ : Type} (N : Nat) (K : AV → Heap → Option ρ) (g0 : Nat → Int) (g1 : Nat → Int) :
    xbody (E54 N) ents impl_Coalgebra_field.kp N Go.Proofs.Try.f101 impl_Coalgebra_field.bd [.sptr [(0, 2), (1, 520)]] [⟨false, .ints .i64 2 g0⟩, ⟨false, .ints .u8 520 g1⟩] K = (impl_Coalgebra_field N (fun d0 => K (.agg [⟨.i64, 2, d0⟩]) [⟨false, .ints .i64 2 g0⟩, ⟨false, .ints .u8 520 g1⟩]) g0 g1) := by kernel_rfl

noncomputable def impl_Coalgebra_field.en (N : Nat) (ρ : Type) : List AV → Heap → (AV → Heap → Option ρ) → Option ρ
  | [.sptr [(0, 2), (1, 520)]], [⟨false, .ints .i64 2 g0⟩, ⟨false, .ints .u8 520 g1⟩], K => (impl_Coalgebra_field N (fun d0 => K (.agg [⟨.i64, 2, d0⟩]) [⟨false, .ints .i64 2 g0⟩, ⟨false, .ints .u8 520 g1⟩]) g0 g1)
  | _, _, _ => none

theorem impl_Coalgebra_field.en_ok (N : Nat) (hE : EnvOk (E54 N) ents) (ρ : Type) (args : List AV) (sh : Heap) (K : AV → Heap → Option ρ) (r : ρ) (h : impl_Coalgebra_field.en N ρ args sh K = some r) : ∃ v sh', K v sh' = some r ∧ FnOk (E54 N).P 101 args sh v sh' := by
  unfold impl_Coalgebra_field.en at h
  split at h
  · exact fn_ok hE (kp := impl_Coalgebra_field.kp) (N := N) Go.Proofs.Try.func101 (c := impl_Coalgebra_field.bd) (by kernel_rfl) ((impl_Coalgebra_field.eq N _ _ _).trans h)
  · cases h

noncomputable def E55 (N : Nat) : Env := (E54 N).add 101 (impl_Coalgebra_field.en N)

theorem E55_ok (N : Nat) : EnvOk (E55 N) ents := Env.add_ok (E54_ok N) (impl_Coalgebra_field.en_ok N (E54_ok N))

noncomputable def impl_field_dot.kp : Keeps := ⟨[(0, [3, 5, 7, 10, 11], 3)], [(0, [3, 7], 3)]⟩

noncomputable def impl_field_dot.bd : Code := bodyOf Go.Proofs.Try.f76

noncomputable def impl_field_dot.fin {ρ : Type} (N : Nat) (K : AV → Heap → Option ρ) : XE → St → Option ρ := finK (E55 N) Go.Proofs.Try.f76 [] K

noncomputable def impl_field_dot.k0 {ρ : Type} (N : Nat) (K : AV → Heap → Option ρ) : XE → St → Option ρ := (blockK impl_field_dot.kp 0 0 (seqK (xcode (E55 N) ents impl_field_dot.kp 0 N (cB (cB (cB impl_field_dot.bd))) 0) (impl_field_dot.fin N K)))

theorem impl_field_dot.k0_mix {ρ : Type} (N : Nat) (K : AV → Heap → Option ρ) : mixK (impl_field_dot.fin N K .ret) (impl_field_dot.k0 N K) = (impl_field_dot.k0 N K) := by
  funext e s; cases e <;> rfl

noncomputable def impl_field_dot.st0 (f0 : Nat → Int) (v1 : Nat → Int) (w2 : Nat → Int) (out3 : Int) (x4 : Int) : St := ⟨sl 29 [(3, .sptr [(0, 2)]), (5, .sptr [(2, 8)]), (7, .int .i64 (out3)), (10, .agg [⟨.u8, 8, v1⟩]), (11, .int .i64 (x4))], [⟨true, .ints .i64 2 f0⟩, ⟨true, .ints .u8 8 v1⟩, ⟨true, .ints .u8 8 w2⟩]⟩

noncomputable def impl_field_dot.sx0_0 (f0 : Nat → Int) (v1 : Nat → Int) (w2 : Nat → Int) (o5 : Int) : St := ⟨sl 29 [(3, .sptr [(0, 2)]), (7, .int .i64 (o5))], [⟨true, .ints .i64 2 f0⟩, ⟨true, .ints .u8 8 v1⟩, ⟨true, .ints .u8 8 w2⟩]⟩

theorem impl_field_dot.b0_gen {ρ : Type} (N : Nat) (K : AV → Heap → Option ρ) (L0 : St → Option ρ) (kv : XE → St → Option ρ) (f0 : Nat → Int) (v1 : Nat → Int) (w2 : Nat → Int) (out3 : Int) (x4 : Int) :
    xcode (E55 N) ents impl_field_dot.kp 0 N (cL (cK (cB (cA (cB (cB impl_field_dot.bd)))))) 0 (impl_field_dot.st0 f0 v1 w2 out3 x4) (roundK impl_field_dot.kp 0 0 L0 (mixK (impl_field_dot.fin N K .ret) kv)) = (impl_field_dot.b0 N (fun d0 => K (.int .i64 (d0)) []) (fun out3 x4 => L0 (impl_field_dot.st0 f0 v1 w2 out3 x4)) (fun o5 => kv (.exit 0) (impl_field_dot.sx0_0 f0 v1 w2 o5)) v1 w2 out3 x4) := by kernel_rfl

theorem impl_field_dot.b0_eq {ρ : Type} (N : Nat) (K : AV → Heap → Option ρ) (L0 : St → Option ρ) (f0 : Nat → Int) (v1 : Nat → Int) (w2 : Nat → Int) (out3 : Int) (x4 : Int) :
    xcode (E55 N) ents impl_field_dot.kp 0 N (cL (cK (cB (cA (cB (cB impl_field_dot.bd)))))) 0 (impl_field_dot.st0 f0 v1 w2 out3 x4) (roundK impl_field_dot.kp 0 0 L0 (impl_field_dot.k0 N K)) = (impl_field_dot.b0 N (fun d0 => K (.int .i64 (d0)) []) (fun out3 x4 => L0 (impl_field_dot.st0 f0 v1 w2 out3 x4)) (fun o5 => (impl_field_dot.k0 N K) (.exit 0) (impl_field_dot.sx0_0 f0 v1 w2 o5)) v1 w2 out3 x4) := by
  have h := impl_field_dot.b0_gen N K L0 (impl_field_dot.k0 N K) f0 v1 w2 out3 x4
  rw [impl_field_dot.k0_mix] at h
  exact h

theorem impl_field_dot.a0_0_eq {ρ : Type} (N : Nat) (K : AV → Heap → Option ρ) (f0 : Nat → Int) (v1 : Nat → Int) (w2 : Nat → Int) (o5 : Int) :
    (impl_field_dot.k0 N K) (.exit 0) (impl_field_dot.sx0_0 f0 v1 w2 o5) = (impl_field_dot.a0_0 N (fun d0 => K (.int .i64 (d0)) []) f0 o5) := by kernel_rfl

theorem impl_field_dot.l0_eq {ρ : Type} (N : Nat) (K : AV → Heap → Option ρ) (f0 : Nat → Int) (v1 : Nat → Int) (w2 : Nat → Int) :
    ∀ (m : Nat) (out3 : Int) (x4 : Int), xloop (xcode (E55 N) ents impl_field_dot.kp 0 N (cL (cK (cB (cA (cB (cB impl_field_dot.bd)))))) 0) impl_field_dot.kp 0 0 m (impl_field_dot.st0 f0 v1 w2 out3 x4) (impl_field_dot.k0 N K) = (impl_field_dot.l0 N (fun d0 => K (.int .i64 (d0)) []) v1 w2 (fun o5 => (impl_field_dot.k0 N K) (.exit 0) (impl_field_dot.sx0_0 f0 v1 w2 o5)) m out3 x4) := by
  intro m
  induction m with
  | zero => intros; rfl
  | succ m ih =>
    intro out3 x4
    refine (impl_field_dot.b0_eq N K (fun s => xloop (xcode (E55 N) ents impl_field_dot.kp 0 N (cL (cK (cB (cA (cB (cB impl_field_dot.bd)))))) 0) impl_field_dot.kp 0 0 m s (impl_field_dot.k0 N K)) f0 v1 w2 out3 x4).trans ?_
    simp only [ih]
    kernel_rfl

theorem impl_field_dot.s_eq {ρ : Type} (N : Nat) (K : AV → Heap → Option ρ) (f0 : Nat → Int) (v1 : Nat → Int) (w2 : Nat → Int) :
    xbody (E55 N) ents impl_field_dot.kp N Go.Proofs.Try.f76 impl_field_dot.bd [.agg [⟨.i64, 2, f0⟩], .agg [⟨.u8, 8, v1⟩], .agg [⟨.u8, 8, w2⟩]] [] K = (impl_field_dot.s N (fun d0 => K (.int .i64 (d0)) []) (fun out3 x4 => xloop (xcode (E55 N) ents impl_field_dot.kp 0 N (cL (cK (cB (cA (cB (cB impl_field_dot.bd)))))) 0) impl_field_dot.kp 0 0 N (impl_field_dot.st0 f0 v1 w2 out3 x4) (impl_field_dot.k0 N K))) := by kernel_rfl

theorem impl_field_dot.eq {ρ : Type} (N : Nat) (K : AV → Heap → Option ρ) (f0 : Nat → Int) (v1 : Nat → Int) (w2 : Nat → Int) :
    xbody (E55 N) ents impl_field_dot.kp N Go.Proofs.Try.f76 impl_field_dot.bd [.agg [⟨.i64, 2, f0⟩], .agg [⟨.u8, 8, v1⟩], .agg [⟨.u8, 8, w2⟩]] [] K = (impl_field_dot N (fun d0 => K (.int .i64 (d0)) []) f0 v1 w2) := by
  refine (impl_field_dot.s_eq N K f0 v1 w2).trans ?_
  simp only [impl_field_dot.l0_eq, impl_field_dot.a0_0_eq]
  kernel_rfl

noncomputable def impl_field_dot.en (N : Nat) (ρ : Type) : List AV → Heap → (AV → Heap → Option ρ) → Option ρ
  | [.agg [⟨.i64, 2, f0⟩], .agg [⟨.u8, 8, v1⟩], .agg [⟨.u8, 8, w2⟩]], [], K => (impl_field_dot N (fun d0 => K (.int .i64 (d0)) []) f0 v1 w2)
  | _, _, _ => none

theorem impl_field_dot.en_ok (N : Nat) (hE : EnvOk (E55 N) ents) (ρ : Type) (args : List AV) (sh : Heap) (K : AV → Heap → Option ρ) (r : ρ) (h : impl_field_dot.en N ρ args sh K = some r) : ∃ v sh', K v sh' = some r ∧ FnOk (E55 N).P 76 args sh v sh' := by
  unfold impl_field_dot.en at h
  split at h
  · exact fn_ok hE (kp := impl_field_dot.kp) (N := N) Go.Proofs.Try.func76 (c := impl_field_dot.bd) (by kernel_rfl) ((impl_field_dot.eq N _ _ _ _).trans h)
  · cases h

noncomputable def E56 (N : Nat) : Env := (E55 N).add 76 (impl_field_dot.en N)

theorem E56_ok (N : Nat) : EnvOk (E56 N) ents := Env.add_ok (E55_ok N) (impl_field_dot.en_ok N (E55_ok N))

noncomputable def impl_Coalgebra_isCounit.kp : Keeps := ⟨[(0, [0, 3, 11, 12], 3), (2, [0, 3, 4, 5, 6, 11, 12, 18, 19], 5)], [(0, [], 3), (2, [0, 3, 4, 5, 6, 11, 12], 5)]⟩

noncomputable def impl_Coalgebra_isCounit.bd : Code := bodyOf Go.Proofs.Try.f84

noncomputable def impl_Coalgebra_isCounit.fin {ρ : Type} (N : Nat) (K : AV → Heap → Option ρ) (g0 : Nat → Int) (g1 : Nat → Int) : XE → St → Option ρ := finK (E56 N) Go.Proofs.Try.f84 [⟨false, .ints .i64 2 g0⟩, ⟨false, .ints .u8 520 g1⟩] K

noncomputable def impl_Coalgebra_isCounit.k0 {ρ : Type} (N : Nat) (K : AV → Heap → Option ρ) (g0 : Nat → Int) (g1 : Nat → Int) : XE → St → Option ρ := (blockK impl_Coalgebra_isCounit.kp 2 0 (seqK (xcode (E56 N) ents impl_Coalgebra_isCounit.kp 2 N (cB (cB (cB impl_Coalgebra_isCounit.bd))) 0) (impl_Coalgebra_isCounit.fin N K g0 g1)))

theorem impl_Coalgebra_isCounit.k0_mix {ρ : Type} (N : Nat) (K : AV → Heap → Option ρ) (g0 : Nat → Int) (g1 : Nat → Int) : mixK (impl_Coalgebra_isCounit.fin N K g0 g1 .ret) (impl_Coalgebra_isCounit.k0 N K g0 g1) = (impl_Coalgebra_isCounit.k0 N K g0 g1) := by
  funext e s; cases e <;> rfl

noncomputable def impl_Coalgebra_isCounit.st0 (g0 : Nat → Int) (g1 : Nat → Int) (r2 : Nat → Int) (x3 : Int) : St := ⟨sl 68 [(0, .sptr [(0, 2), (1, 520)]), (3, .sptr [(2, 2)]), (11, .int .i64 ((r2 1))), (12, .int .i64 (x3))], [⟨false, .ints .i64 2 g0⟩, ⟨false, .ints .u8 520 g1⟩, ⟨true, .ints .i64 2 r2⟩]⟩

noncomputable def impl_Coalgebra_isCounit.sx0_0 (g0 : Nat → Int) (g1 : Nat → Int) (r2 : Nat → Int) : St := ⟨sl 68 [], [⟨false, .ints .i64 2 g0⟩, ⟨false, .ints .u8 520 g1⟩, ⟨true, .ints .i64 2 r2⟩]⟩

noncomputable def impl_Coalgebra_isCounit.k1g {ρ : Type} (N : Nat) (L0 : St → Option ρ) (kv : XE → St → Option ρ) : XE → St → Option ρ := (blockK impl_Coalgebra_isCounit.kp 2 2 (seqK (xcode (E56 N) ents impl_Coalgebra_isCounit.kp 2 N (cB (cB (cB (cK (cA (cB (cB (cL (cK (cB (cA (cB (cB impl_Coalgebra_isCounit.bd))))))))))))) 1) (blockK impl_Coalgebra_isCounit.kp 2 1 (seqK (xcode (E56 N) ents impl_Coalgebra_isCounit.kp 2 N (cB (cB (cB (cL (cK (cB (cA (cB (cB impl_Coalgebra_isCounit.bd))))))))) 0) (roundK impl_Coalgebra_isCounit.kp 2 0 L0 kv)))))

theorem impl_Coalgebra_isCounit.k1_mix {ρ : Type} (N : Nat) (K : AV → Heap → Option ρ) (L0 : St → Option ρ) (g0 : Nat → Int) (g1 : Nat → Int) : mixK (impl_Coalgebra_isCounit.fin N K g0 g1 .ret) (impl_Coalgebra_isCounit.k1g N L0 (impl_Coalgebra_isCounit.k0 N K g0 g1)) = (impl_Coalgebra_isCounit.k1g N L0 (impl_Coalgebra_isCounit.k0 N K g0 g1)) := by
  funext e s; cases e <;> rfl

noncomputable def impl_Coalgebra_isCounit.st1 (g0 : Nat → Int) (g1 : Nat → Int) (r2 : Nat → Int) (x3 : Int) (x4 : Int) (g5 : Nat → Int) (g6 : Nat → Int) : St := ⟨sl 68 [(0, .sptr [(0, 2), (1, 520)]), (3, .sptr [(2, 2)]), (4, .int .i64 (x3)), (5, .sptr [(3, 8)]), (6, .sptr [(4, 8)]), (11, .int .i64 ((r2 1))), (12, .int .i64 (x3)), (18, .int .i64 ((r2 1))), (19, .int .i64 (x4))], [⟨false, .ints .i64 2 g0⟩, ⟨false, .ints .u8 520 g1⟩, ⟨true, .ints .i64 2 r2⟩, ⟨true, .ints .u8 8 g5⟩, ⟨true, .ints .u8 8 g6⟩]⟩

noncomputable def impl_Coalgebra_isCounit.sx1_0 (g0 : Nat → Int) (g1 : Nat → Int) (r2 : Nat → Int) (x3 : Int) (o9 : Nat → Int) (o10 : Nat → Int) : St := ⟨sl 68 [(0, .sptr [(0, 2), (1, 520)]), (3, .sptr [(2, 2)]), (4, .int .i64 (x3)), (5, .sptr [(3, 8)]), (6, .sptr [(4, 8)]), (11, .int .i64 ((r2 1))), (12, .int .i64 (x3))], [⟨false, .ints .i64 2 g0⟩, ⟨false, .ints .u8 520 g1⟩, ⟨true, .ints .i64 2 r2⟩, ⟨true, .ints .u8 8 o9⟩, ⟨true, .ints .u8 8 o10⟩]⟩

theorem impl_Coalgebra_isCounit.b1_gen {ρ : Type} (N : Nat) (K : AV → Heap → Option ρ) (L1 : St → Option ρ) (kv : XE → St → Option ρ) (g0 : Nat → Int) (g1 : Nat → Int) (r2 : Nat → Int) (x3 : Int) (x4 : Int) (g5 : Nat → Int) (g6 : Nat → Int) :
    xcode (E56 N) ents impl_Coalgebra_isCounit.kp 2 N (cL (cK (cB (cA (cB (cB (cK (cA (cB (cB (cL (cK (cB (cA (cB (cB impl_Coalgebra_isCounit.bd)))))))))))))))) 2 (impl_Coalgebra_isCounit.st1 g0 g1 r2 x3 x4 g5 g6) (roundK impl_Coalgebra_isCounit.kp 2 2 L1 (mixK (impl_Coalgebra_isCounit.fin N K g0 g1 .ret) kv)) = (impl_Coalgebra_isCounit.b1 N (fun d0 => K (.bool (d0)) [⟨false, .ints .i64 2 g0⟩, ⟨false, .ints .u8 520 g1⟩]) (fun x4 g5 g6 => L1 (impl_Coalgebra_isCounit.st1 g0 g1 r2 x3 x4 g5 g6)) (fun o9 o10 => kv (.exit 2) (impl_Coalgebra_isCounit.sx1_0 g0 g1 r2 x3 o9 o10)) g1 r2 x3 x4 g5 g6) := by kernel_rfl

theorem impl_Coalgebra_isCounit.b1_eq {ρ : Type} (N : Nat) (K : AV → Heap → Option ρ) (L0 : St → Option ρ) (L1 : St → Option ρ) (g0 : Nat → Int) (g1 : Nat → Int) (r2 : Nat → Int) (x3 : Int) (x4 : Int) (g5 : Nat → Int) (g6 : Nat → Int) :
    xcode (E56 N) ents impl_Coalgebra_isCounit.kp 2 N (cL (cK (cB (cA (cB (cB (cK (cA (cB (cB (cL (cK (cB (cA (cB (cB impl_Coalgebra_isCounit.bd)))))))))))))))) 2 (impl_Coalgebra_isCounit.st1 g0 g1 r2 x3 x4 g5 g6) (roundK impl_Coalgebra_isCounit.kp 2 2 L1 (impl_Coalgebra_isCounit.k1g N L0 (impl_Coalgebra_isCounit.k0 N K g0 g1))) = (impl_Coalgebra_isCounit.b1 N (fun d0 => K (.bool (d0)) [⟨false, .ints .i64 2 g0⟩, ⟨false, .ints .u8 520 g1⟩]) (fun x4 g5 g6 => L1 (impl_Coalgebra_isCounit.st1 g0 g1 r2 x3 x4 g5 g6)) (fun o9 o10 => (impl_Coalgebra_isCounit.k1g N L0 (impl_Coalgebra_isCounit.k0 N K g0 g1)) (.exit 2) (impl_Coalgebra_isCounit.sx1_0 g0 g1 r2 x3 o9 o10)) g1 r2 x3 x4 g5 g6) := by
  have h := impl_Coalgebra_isCounit.b1_gen N K L1 (impl_Coalgebra_isCounit.k1g N L0 (impl_Coalgebra_isCounit.k0 N K g0 g1)) g0 g1 r2 x3 x4 g5 g6
  rw [impl_Coalgebra_isCounit.k1_mix] at h
  exact h

theorem impl_Coalgebra_isCounit.a1_0_gen {ρ : Type} (N : Nat) (K : AV → Heap → Option ρ) (L0 : St → Option ρ) (kv : XE → St → Option ρ) (g0 : Nat → Int) (g1 : Nat → Int) (r2 : Nat → Int) (x3 : Int) (o9 : Nat → Int) (o10 : Nat → Int) :
    (impl_Coalgebra_isCounit.k1g N L0 (mixK (impl_Coalgebra_isCounit.fin N K g0 g1 .ret) kv)) (.exit 2) (impl_Coalgebra_isCounit.sx1_0 g0 g1 r2 x3 o9 o10) = (impl_Coalgebra_isCounit.a1_0 N (fun d0 => K (.bool (d0)) [⟨false, .ints .i64 2 g0⟩, ⟨false, .ints .u8 520 g1⟩]) (fun x3 => L0 (impl_Coalgebra_isCounit.st0 g0 g1 r2 x3)) (kv (.exit 0) (impl_Coalgebra_isCounit.sx0_0 g0 g1 r2)) x3 o9 o10) := by kernel_rfl

theorem impl_Coalgebra_isCounit.a1_0_eq {ρ : Type} (N : Nat) (K : AV → Heap → Option ρ) (L0 : St → Option ρ) (g0 : Nat → Int) (g1 : Nat → Int) (r2 : Nat → Int) (x3 : Int) (o9 : Nat → Int) (o10 : Nat → Int) :
    (impl_Coalgebra_isCounit.k1g N L0 (impl_Coalgebra_isCounit.k0 N K g0 g1)) (.exit 2) (impl_Coalgebra_isCounit.sx1_0 g0 g1 r2 x3 o9 o10) = (impl_Coalgebra_isCounit.a1_0 N (fun d0 => K (.bool (d0)) [⟨false, .ints .i64 2 g0⟩, ⟨false, .ints .u8 520 g1⟩]) (fun x3 => L0 (impl_Coalgebra_isCounit.st0 g0 g1 r2 x3)) ((impl_Coalgebra_isCounit.k0 N K g0 g1) (.exit 0) (impl_Coalgebra_isCounit.sx0_0 g0 g1 r2)) x3 o9 o10) := by
  have h := impl_Coalgebra_isCounit.a1_0_gen N K L0 (impl_Coalgebra_isCounit.k0 N K g0 g1) g0 g1 r2 x3 o9 o10
  rw [impl_Coalgebra_isCounit.k0_mix] at h
  exact h

theorem impl_Coalgebra_isCounit.b0_gen {ρ : Type} (N : Nat) (K : AV → Heap → Option ρ) (L0 : St → Option ρ) (kv : XE → St → Option ρ) (g0 : Nat → Int) (g1 : Nat → Int) (r2 : Nat → Int) (x3 : Int) :
    xcode (E56 N) ents impl_Coalgebra_isCounit.kp 2 N (cL (cK (cB (cA (cB (cB impl_Coalgebra_isCounit.bd)))))) 0 (impl_Coalgebra_isCounit.st0 g0 g1 r2 x3) (roundK impl_Coalgebra_isCounit.kp 2 0 L0 (mixK (impl_Coalgebra_isCounit.fin N K g0 g1 .ret) kv)) = (impl_Coalgebra_isCounit.b0 N (fun d0 => K (.bool (d0)) [⟨false, .ints .i64 2 g0⟩, ⟨false, .ints .u8 520 g1⟩]) (fun x4 g5 g6 => xloop (xcode (E56 N) ents impl_Coalgebra_isCounit.kp 2 N (cL (cK (cB (cA (cB (cB (cK (cA (cB (cB (cL (cK (cB (cA (cB (cB impl_Coalgebra_isCounit.bd)))))))))))))))) 2) impl_Coalgebra_isCounit.kp 2 2 N (impl_Coalgebra_isCounit.st1 g0 g1 r2 x3 x4 g5 g6) (impl_Coalgebra_isCounit.k1g N L0 (mixK (impl_Coalgebra_isCounit.fin N K g0 g1 .ret) kv))) (fun x3 => L0 (impl_Coalgebra_isCounit.st0 g0 g1 r2 x3)) (kv (.exit 0) (impl_Coalgebra_isCounit.sx0_0 g0 g1 r2)) r2 x3) := by kernel_rfl

theorem impl_Coalgebra_isCounit.b0_eq {ρ : Type} (N : Nat) (K : AV → Heap → Option ρ) (L0 : St → Option ρ) (g0 : Nat → Int) (g1 : Nat → Int) (r2 : Nat → Int) (x3 : Int) :
    xcode (E56 N) ents impl_Coalgebra_isCounit.kp 2 N (cL (cK (cB (cA (cB (cB impl_Coalgebra_isCounit.bd)))))) 0 (impl_Coalgebra_isCounit.st0 g0 g1 r2 x3) (roundK impl_Coalgebra_isCounit.kp 2 0 L0 (impl_Coalgebra_isCounit.k0 N K g0 g1)) = (impl_Coalgebra_isCounit.b0 N (fun d0 => K (.bool (d0)) [⟨false, .ints .i64 2 g0⟩, ⟨false, .ints .u8 520 g1⟩]) (fun x4 g5 g6 => xloop (xcode (E56 N) ents impl_Coalgebra_isCounit.kp 2 N (cL (cK (cB (cA (cB (cB (cK (cA (cB (cB (cL (cK (cB (cA (cB (cB impl_Coalgebra_isCounit.bd)))))))))))))))) 2) impl_Coalgebra_isCounit.kp 2 2 N (impl_Coalgebra_isCounit.st1 g0 g1 r2 x3 x4 g5 g6) (impl_Coalgebra_isCounit.k1g N L0 (impl_Coalgebra_isCounit.k0 N K g0 g1))) (fun x3 => L0 (impl_Coalgebra_isCounit.st0 g0 g1 r2 x3)) ((impl_Coalgebra_isCounit.k0 N K g0 g1) (.exit 0) (impl_Coalgebra_isCounit.sx0_0 g0 g1 r2)) r2 x3) := by
  have h := impl_Coalgebra_isCounit.b0_gen N K L0 (impl_Coalgebra_isCounit.k0 N K g0 g1) g0 g1 r2 x3
  rw [impl_Coalgebra_isCounit.k0_mix] at h
  exact h

theorem impl_Coalgebra_isCounit.a0_0_eq {ρ : Type} (N : Nat) (K : AV → Heap → Option ρ) (g0 : Nat → Int) (g1 : Nat → Int) (r2 : Nat → Int) :
    (impl_Coalgebra_isCounit.k0 N K g0 g1) (.exit 0) (impl_Coalgebra_isCounit.sx0_0 g0 g1 r2) = (impl_Coalgebra_isCounit.a0_0 N (fun d0 => K (.bool (d0)) [⟨false, .ints .i64 2 g0⟩, ⟨false, .ints .u8 520 g1⟩])) := by kernel_rfl

theorem impl_Coalgebra_isCounit.l1_eq {ρ : Type} (N : Nat) (K : AV → Heap → Option ρ) (L0 : St → Option ρ) (g0 : Nat → Int) (g1 : Nat → Int) (r2 : Nat → Int) (x3 : Int) :
    ∀ (m : Nat) (x4 : Int) (g5 : Nat → Int) (g6 : Nat → Int), xloop (xcode (E56 N) ents impl_Coalgebra_isCounit.kp 2 N (cL (cK (cB (cA (cB (cB (cK (cA (cB (cB (cL (cK (cB (cA (cB (cB impl_Coalgebra_isCounit.bd)))))))))))))))) 2) impl_Coalgebra_isCounit.kp 2 2 m (impl_Coalgebra_isCounit.st1 g0 g1 r2 x3 x4 g5 g6) (impl_Coalgebra_isCounit.k1g N L0 (impl_Coalgebra_isCounit.k0 N K g0 g1)) = (impl_Coalgebra_isCounit.l1 N (fun d0 => K (.bool (d0)) [⟨false, .ints .i64 2 g0⟩, ⟨false, .ints .u8 520 g1⟩]) g1 r2 x3 (fun o9 o10 => (impl_Coalgebra_isCounit.k1g N L0 (impl_Coalgebra_isCounit.k0 N K g0 g1)) (.exit 2) (impl_Coalgebra_isCounit.sx1_0 g0 g1 r2 x3 o9 o10)) m x4 g5 g6) := by
  intro m
  induction m with
  | zero => intros; rfl
  | succ m ih =>
    intro x4 g5 g6
    refine (impl_Coalgebra_isCounit.b1_eq N K L0 (fun s => xloop (xcode (E56 N) ents impl_Coalgebra_isCounit.kp 2 N (cL (cK (cB (cA (cB (cB (cK (cA (cB (cB (cL (cK (cB (cA (cB (cB impl_Coalgebra_isCounit.bd)))))))))))))))) 2) impl_Coalgebra_isCounit.kp 2 2 m s (impl_Coalgebra_isCounit.k1g N L0 (impl_Coalgebra_isCounit.k0 N K g0 g1))) g0 g1 r2 x3 x4 g5 g6).trans ?_
    simp only [ih]
    kernel_rfl

theorem impl_Coalgebra_isCounit.l0_eq {ρ : Type} (N : Nat) (K : AV → Heap → Option ρ) (g0 : Nat → Int) (g1 : Nat → Int) (r2 : Nat → Int) :
    ∀ (m : Nat) (x3 : Int), xloop (xcode (E56 N) ents impl_Coalgebra_isCounit.kp 2 N (cL (cK (cB (cA (cB (cB impl_Coalgebra_isCounit.bd)))))) 0) impl_Coalgebra_isCounit.kp 2 0 m (impl_Coalgebra_isCounit.st0 g0 g1 r2 x3) (impl_Coalgebra_isCounit.k0 N K g0 g1) = (impl_Coalgebra_isCounit.l0 N (fun d0 => K (.bool (d0)) [⟨false, .ints .i64 2 g0⟩, ⟨false, .ints .u8 520 g1⟩]) g1 r2 ((impl_Coalgebra_isCounit.k0 N K g0 g1) (.exit 0) (impl_Coalgebra_isCounit.sx0_0 g0 g1 r2)) m x3) := by
  intro m
  induction m with
  | zero => intros; rfl
  | succ m ih =>
    intro x3
    refine (impl_Coalgebra_isCounit.b0_eq N K (fun s => xloop (xcode (E56 N) ents impl_Coalgebra_isCounit.kp 2 N (cL (cK (cB (cA (cB (cB impl_Coalgebra_isCounit.bd)))))) 0) impl_Coalgebra_isCounit.kp 2 0 m s (impl_Coalgebra_isCounit.k0 N K g0 g1)) g0 g1 r2 x3).trans ?_
    simp only [ih, impl_Coalgebra_isCounit.l1_eq, impl_Coalgebra_isCounit.a1_0_eq]
    kernel_rfl

theorem impl_Coalgebra_isCounit.s_eq {ρ : Type} (N : Nat) (K : AV → Heap → Option ρ) (g0 : Nat → Int) (g1 : Nat → Int) :
    xbody (E56 N) ents impl_Coalgebra_isCounit.kp N Go.Proofs.Try.f84 impl_Coalgebra_isCounit.bd [.sptr [(0, 2), (1, 520)]] [⟨false, .ints .i64 2 g0⟩, ⟨false, .ints .u8 520 g1⟩] K = (impl_Coalgebra_isCounit.s N (fun d0 => K (.bool (d0)) [⟨false, .ints .i64 2 g0⟩, ⟨false, .ints .u8 520 g1⟩]) (fun r2 x3 => xloop (xcode (E56 N) ents impl_Coalgebra_isCounit.kp 2 N (cL (cK (cB (cA (cB (cB impl_Coalgebra_isCounit.bd)))))) 0) impl_Coalgebra_isCounit.kp 2 0 N (impl_Coalgebra_isCounit.st0 g0 g1 r2 x3) (impl_Coalgebra_isCounit.k0 N K g0 g1)) g0 g1) := by kernel_rfl

theorem impl_Coalgebra_isCounit.eq {ρ : Type} (N : Nat) (K : AV → Heap → Option ρ) (g0 : Nat → Int) (g1 : Nat → Int) :
    xbody (E56 N) ents impl_Coalgebra_isCounit.kp N Go.Proofs.Try.f84 impl_Coalgebra_isCounit.bd [.sptr [(0, 2), (1, 520)]] [⟨false, .ints .i64 2 g0⟩, ⟨false, .ints .u8 520 g1⟩] K = (impl_Coalgebra_isCounit N (fun d0 => K (.bool (d0)) [⟨false, .ints .i64 2 g0⟩, ⟨false, .ints .u8 520 g1⟩]) g0 g1) := by
  refine (impl_Coalgebra_isCounit.s_eq N K g0 g1).trans ?_
  simp only [impl_Coalgebra_isCounit.l0_eq, impl_Coalgebra_isCounit.a0_0_eq]
  kernel_rfl

noncomputable def impl_Coalgebra_isCounit.en (N : Nat) (ρ : Type) : List AV → Heap → (AV → Heap → Option ρ) → Option ρ
  | [.sptr [(0, 2), (1, 520)]], [⟨false, .ints .i64 2 g0⟩, ⟨false, .ints .u8 520 g1⟩], K => (impl_Coalgebra_isCounit N (fun d0 => K (.bool (d0)) [⟨false, .ints .i64 2 g0⟩, ⟨false, .ints .u8 520 g1⟩]) g0 g1)
  | _, _, _ => none

theorem impl_Coalgebra_isCounit.en_ok (N : Nat) (hE : EnvOk (E56 N) ents) (ρ : Type) (args : List AV) (sh : Heap) (K : AV → Heap → Option ρ) (r : ρ) (h : impl_Coalgebra_isCounit.en N ρ args sh K = some r) : ∃ v sh', K v sh' = some r ∧ FnOk (E56 N).P 84 args sh v sh' := by
  unfold impl_Coalgebra_isCounit.en at h
  split at h
  · exact fn_ok hE (kp := impl_Coalgebra_isCounit.kp) (N := N) Go.Proofs.Try.func84 (c := impl_Coalgebra_isCounit.bd) (by kernel_rfl) ((impl_Coalgebra_isCounit.eq N _ _ _).trans h)
  · cases h

noncomputable def E57 (N : Nat) : Env := (E56 N).add 84 (impl_Coalgebra_isCounit.en N)

theorem E57_ok (N : Nat) : EnvOk (E57 N) ents := Env.add_ok (E56_ok N) (impl_Coalgebra_isCounit.en_ok N (E56_ok N))

noncomputable def impl_Coalgebra_isFault.kp : Keeps := ⟨[(0, [0, 1, 2, 3, 4, 11, 12, 13, 18, 19], 3)], [(0, [11, 12, 13], 3)]⟩

noncomputable def impl_Coalgebra_isFault.bd : Code := bodyOf Go.Proofs.Try.f102

noncomputable def impl_Coalgebra_isFault.fin {ρ : Type} (N : Nat) (K : AV → Heap → Option ρ) (g4 : Nat → Int) (g5 : Nat → Int) : XE → St → Option ρ := finK (E57 N) Go.Proofs.Try.f102 [⟨false, .ints .i64 2 g4⟩, ⟨false, .ints .u8 520 g5⟩] K

noncomputable def impl_Coalgebra_isFault.k0 {ρ : Type} (N : Nat) (K : AV → Heap → Option ρ) (g4 : Nat → Int) (g5 : Nat → Int) : XE → St → Option ρ := (blockK impl_Coalgebra_isFault.kp 2 0 (seqK (xcode (E57 N) ents impl_Coalgebra_isFault.kp 2 N (cB (cB (cB impl_Coalgebra_isFault.bd))) 0) (impl_Coalgebra_isFault.fin N K g4 g5)))

theorem impl_Coalgebra_isFault.k0_mix {ρ : Type} (N : Nat) (K : AV → Heap → Option ρ) (g4 : Nat → Int) (g5 : Nat → Int) : mixK (impl_Coalgebra_isFault.fin N K g4 g5 .ret) (impl_Coalgebra_isFault.k0 N K g4 g5) = (impl_Coalgebra_isFault.k0 N K g4 g5) := by
  funext e s; cases e <;> rfl

noncomputable def impl_Coalgebra_isFault.st0 (i0 : Int) (j1 : Int) (k2 : Int) (l3 : Int) (g4 : Nat → Int) (g5 : Nat → Int) (r6 : Nat → Int) (one7 : Int) (two8 : Int) (x9 : Int) : St := ⟨sl 82 [(0, .sptr [(0, 2), (1, 520)]), (1, .int .i64 (i0)), (2, .int .i64 (j1)), (3, .int .i64 (k2)), (4, .int .i64 (l3)), (11, .sptr [(2, 2)]), (12, .int .i64 (one7)), (13, .int .i64 (two8)), (18, .int .i64 ((r6 1))), (19, .int .i64 (x9))], [⟨false, .ints .i64 2 g4⟩, ⟨false, .ints .u8 520 g5⟩, ⟨true, .ints .i64 2 r6⟩]⟩

noncomputable def impl_Coalgebra_isFault.sx0_0 (g4 : Nat → Int) (g5 : Nat → Int) (r6 : Nat → Int) (o10 : Int) (o11 : Int) : St := ⟨sl 82 [(11, .sptr [(2, 2)]), (12, .int .i64 (o10)), (13, .int .i64 (o11))], [⟨false, .ints .i64 2 g4⟩, ⟨false, .ints .u8 520 g5⟩, ⟨true, .ints .i64 2 r6⟩]⟩

theorem impl_Coalgebra_isFault.b0_gen {ρ : Type} (N : Nat) (K : AV → Heap → Option ρ) (L0 : St → Option ρ) (kv : XE → St → Option ρ) (i0 : Int) (j1 : Int) (k2 : Int) (l3 : Int) (g4 : Nat → Int) (g5 : Nat → Int) (r6 : Nat → Int) (one7 : Int) (two8 : Int) (x9 : Int) :
    xcode (E57 N) ents impl_Coalgebra_isFault.kp 2 N (cL (cK (cB (cA (cB (cB impl_Coalgebra_isFault.bd)))))) 0 (impl_Coalgebra_isFault.st0 i0 j1 k2 l3 g4 g5 r6 one7 two8 x9) (roundK impl_Coalgebra_isFault.kp 2 0 L0 (mixK (impl_Coalgebra_isFault.fin N K g4 g5 .ret) kv)) = (impl_Coalgebra_isFault.b0 N (fun d0 => K (.bool (d0)) [⟨false, .ints .i64 2 g4⟩, ⟨false, .ints .u8 520 g5⟩]) (fun one7 two8 x9 => L0 (impl_Coalgebra_isFault.st0 i0 j1 k2 l3 g4 g5 r6 one7 two8 x9)) (fun o10 o11 => kv (.exit 0) (impl_Coalgebra_isFault.sx0_0 g4 g5 r6 o10 o11)) i0 j1 k2 l3 g5 r6 one7 two8 x9) := by kernel_rfl

theorem impl_Coalgebra_isFault.b0_eq {ρ : Type} (N : Nat) (K : AV → Heap → Option ρ) (L0 : St → Option ρ) (i0 : Int) (j1 : Int) (k2 : Int) (l3 : Int) (g4 : Nat → Int) (g5 : Nat → Int) (r6 : Nat → Int) (one7 : Int) (two8 : Int) (x9 : Int) :
    xcode (E57 N) ents impl_Coalgebra_isFault.kp 2 N (cL (cK (cB (cA (cB (cB impl_Coalgebra_isFault.bd)))))) 0 (impl_Coalgebra_isFault.st0 i0 j1 k2 l3 g4 g5 r6 one7 two8 x9) (roundK impl_Coalgebra_isFault.kp 2 0 L0 (impl_Coalgebra_isFault.k0 N K g4 g5)) = (impl_Coalgebra_isFault.b0 N (fun d0 => K (.bool (d0)) [⟨false, .ints .i64 2 g4⟩, ⟨false, .ints .u8 520 g5⟩]) (fun one7 two8 x9 => L0 (impl_Coalgebra_isFault.st0 i0 j1 k2 l3 g4 g5 r6 one7 two8 x9)) (fun o10 o11 => (impl_Coalgebra_isFault.k0 N K g4 g5) (.exit 0) (impl_Coalgebra_isFault.sx0_0 g4 g5 r6 o10 o11)) i0 j1 k2 l3 g5 r6 one7 two8 x9) := by
  have h := impl_Coalgebra_isFault.b0_gen N K L0 (impl_Coalgebra_isFault.k0 N K g4 g5) i0 j1 k2 l3 g4 g5 r6 one7 two8 x9
  rw [impl_Coalgebra_isFault.k0_mix] at h
  exact h

theorem impl_Coalgebra_isFault.a0_0_eq {ρ : Type} (N : Nat) (K : AV → Heap → Option ρ) (g4 : Nat → Int) (g5 : Nat → Int) (r6 : Nat → Int) (o10 : Int) (o11 : Int) :
    (impl_Coalgebra_isFault.k0 N K g4 g5) (.exit 0) (impl_Coalgebra_isFault.sx0_0 g4 g5 r6 o10 o11) = (impl_Coalgebra_isFault.a0_0 N (fun d0 => K (.bool (d0)) [⟨false, .ints .i64 2 g4⟩, ⟨false, .ints .u8 520 g5⟩]) r6 o10 o11) := by kernel_rfl

theorem impl_Coalgebra_isFault.l0_eq {ρ : Type} (N : Nat) (K : AV → Heap → Option ρ) (i0 : Int) (j1 : Int) (k2 : Int) (l3 : Int) (g4 : Nat → Int) (g5 : Nat → Int) (r6 : Nat → Int) :
    ∀ (m : Nat) (one7 : Int) (two8 : Int) (x9 : Int), xloop (xcode (E57 N) ents impl_Coalgebra_isFault.kp 2 N (cL (cK (cB (cA (cB (cB impl_Coalgebra_isFault.bd)))))) 0) impl_Coalgebra_isFault.kp 2 0 m (impl_Coalgebra_isFault.st0 i0 j1 k2 l3 g4 g5 r6 one7 two8 x9) (impl_Coalgebra_isFault.k0 N K g4 g5) = (impl_Coalgebra_isFault.l0 N (fun d0 => K (.bool (d0)) [⟨false, .ints .i64 2 g4⟩, ⟨false, .ints .u8 520 g5⟩]) i0 j1 k2 l3 g5 r6 (fun o10 o11 => (impl_Coalgebra_isFault.k0 N K g4 g5) (.exit 0) (impl_Coalgebra_isFault.sx0_0 g4 g5 r6 o10 o11)) m one7 two8 x9) := by
  intro m
  induction m with
  | zero => intros; rfl
  | succ m ih =>
    intro one7 two8 x9
    refine (impl_Coalgebra_isFault.b0_eq N K (fun s => xloop (xcode (E57 N) ents impl_Coalgebra_isFault.kp 2 N (cL (cK (cB (cA (cB (cB impl_Coalgebra_isFault.bd)))))) 0) impl_Coalgebra_isFault.kp 2 0 m s (impl_Coalgebra_isFault.k0 N K g4 g5)) i0 j1 k2 l3 g4 g5 r6 one7 two8 x9).trans ?_
    simp only [ih]
    kernel_rfl

theorem impl_Coalgebra_isFault.s_eq {ρ : Type} (N : Nat) (K : AV → Heap → Option ρ) (i0 : Int) (j1 : Int) (k2 : Int) (l3 : Int) (g4 : Nat → Int) (g5 : Nat → Int) :
    xbody (E57 N) ents impl_Coalgebra_isFault.kp N Go.Proofs.Try.f102 impl_Coalgebra_isFault.bd [.sptr [(0, 2), (1, 520)], .int .i64 (i0), .int .i64 (j1), .int .i64 (k2), .int .i64 (l3)] [⟨false, .ints .i64 2 g4⟩, ⟨false, .ints .u8 520 g5⟩] K = (impl_Coalgebra_isFault.s N (fun d0 => K (.bool (d0)) [⟨false, .ints .i64 2 g4⟩, ⟨false, .ints .u8 520 g5⟩]) (fun r6 one7 two8 x9 => xloop (xcode (E57 N) ents impl_Coalgebra_isFault.kp 2 N (cL (cK (cB (cA (cB (cB impl_Coalgebra_isFault.bd)))))) 0) impl_Coalgebra_isFault.kp 2 0 N (impl_Coalgebra_isFault.st0 i0 j1 k2 l3 g4 g5 r6 one7 two8 x9) (impl_Coalgebra_isFault.k0 N K g4 g5)) g4 g5) := by kernel_rfl

theorem impl_Coalgebra_isFault.eq {ρ : Type} (N : Nat) (K : AV → Heap → Option ρ) (i0 : Int) (j1 : Int) (k2 : Int) (l3 : Int) (g4 : Nat → Int) (g5 : Nat → Int) :
    xbody (E57 N) ents impl_Coalgebra_isFault.kp N Go.Proofs.Try.f102 impl_Coalgebra_isFault.bd [.sptr [(0, 2), (1, 520)], .int .i64 (i0), .int .i64 (j1), .int .i64 (k2), .int .i64 (l3)] [⟨false, .ints .i64 2 g4⟩, ⟨false, .ints .u8 520 g5⟩] K = (impl_Coalgebra_isFault N (fun d0 => K (.bool (d0)) [⟨false, .ints .i64 2 g4⟩, ⟨false, .ints .u8 520 g5⟩]) i0 j1 k2 l3 g4 g5) := by
  refine (impl_Coalgebra_isFault.s_eq N K i0 j1 k2 l3 g4 g5).trans ?_
  simp only [impl_Coalgebra_isFault.l0_eq, impl_Coalgebra_isFault.a0_0_eq]
  kernel_rfl

noncomputable def impl_Coalgebra_isFault.en (N : Nat) (ρ : Type) : List AV → Heap → (AV → Heap → Option ρ) → Option ρ
  | [.sptr [(0, 2), (1, 520)], .int .i64 (i0), .int .i64 (j1), .int .i64 (k2), .int .i64 (l3)], [⟨false, .ints .i64 2 g4⟩, ⟨false, .ints .u8 520 g5⟩], K => (impl_Coalgebra_isFault N (fun d0 => K (.bool (d0)) [⟨false, .ints .i64 2 g4⟩, ⟨false, .ints .u8 520 g5⟩]) i0 j1 k2 l3 g4 g5)
  | _, _, _ => none

theorem impl_Coalgebra_isFault.en_ok (N : Nat) (hE : EnvOk (E57 N) ents) (ρ : Type) (args : List AV) (sh : Heap) (K : AV → Heap → Option ρ) (r : ρ) (h : impl_Coalgebra_isFault.en N ρ args sh K = some r) : ∃ v sh', K v sh' = some r ∧ FnOk (E57 N).P 102 args sh v sh' := by
  unfold impl_Coalgebra_isFault.en at h
  split at h
  · exact fn_ok hE (kp := impl_Coalgebra_isFault.kp) (N := N) Go.Proofs.Try.func102 (c := impl_Coalgebra_isFault.bd) (by kernel_rfl) ((impl_Coalgebra_isFault.eq N _ _ _ _ _ _ _).trans h)
  · cases h

noncomputable def E58 (N : Nat) : Env := (E57 N).add 102 (impl_Coalgebra_isFault.en N)

theorem E58_ok (N : Nat) : EnvOk (E58 N) ents := Env.add_ok (E57_ok N) (impl_Coalgebra_isFault.en_ok N (E57_ok N))

noncomputable def impl_Coalgebra_fault.kp : Keeps := ⟨[(0, [0, 3, 19, 20], 2)], [(0, [], 2)]⟩

noncomputable def impl_Coalgebra_fault.bd : Code := bodyOf Go.Proofs.Try.f85

noncomputable def impl_Coalgebra_fault.fin {ρ : Type} (N : Nat) (K : AV → Heap → Option ρ) (g0 : Nat → Int) (g1 : Nat → Int) : XE → St → Option ρ := finK (E58 N) Go.Proofs.Try.f85 [⟨false, .ints .i64 2 g0⟩, ⟨false, .ints .u8 520 g1⟩] K

noncomputable def impl_Coalgebra_fault.k0 {ρ : Type} (N : Nat) (K : AV → Heap → Option ρ) (g0 : Nat → Int) (g1 : Nat → Int) : XE → St → Option ρ := (blockK impl_Coalgebra_fault.kp 2 0 (seqK (xcode (E58 N) ents impl_Coalgebra_fault.kp 2 N (cB (cB (cB impl_Coalgebra_fault.bd))) 0) (impl_Coalgebra_fault.fin N K g0 g1)))

theorem impl_Coalgebra_fault.k0_mix {ρ : Type} (N : Nat) (K : AV → Heap → Option ρ) (g0 : Nat → Int) (g1 : Nat → Int) : mixK (impl_Coalgebra_fault.fin N K g0 g1 .ret) (impl_Coalgebra_fault.k0 N K g0 g1) = (impl_Coalgebra_fault.k0 N K g0 g1) := by
  funext e s; cases e <;> rfl

noncomputable def impl_Coalgebra_fault.st0 (g0 : Nat → Int) (g1 : Nat → Int) (x2 : Int) : St := ⟨sl 57 [(0, .sptr [(0, 2), (1, 520)]), (3, .int .i64 ((g0 1))), (19, .int .i64 ((IntKind.i64.wrap ((IntKind.i64.wrap ((IntKind.i64.wrap ((g0 1) * (g0 1))) * (g0 1))) * (g0 1))))), (20, .int .i64 (x2))], [⟨false, .ints .i64 2 g0⟩, ⟨false, .ints .u8 520 g1⟩]⟩

noncomputable def impl_Coalgebra_fault.sx0_0 (g0 : Nat → Int) (g1 : Nat → Int) : St := ⟨sl 57 [], [⟨false, .ints .i64 2 g0⟩, ⟨false, .ints .u8 520 g1⟩]⟩

theorem impl_Coalgebra_fault.b0_gen {ρ : Type} (N : Nat) (K : AV → Heap → Option ρ) (L0 : St → Option ρ) (kv : XE → St → Option ρ) (g0 : Nat → Int) (g1 : Nat → Int) (x2 : Int) :
    xcode (E58 N) ents impl_Coalgebra_fault.kp 2 N (cL (cK (cB (cA (cB (cB impl_Coalgebra_fault.bd)))))) 0 (impl_Coalgebra_fault.st0 g0 g1 x2) (roundK impl_Coalgebra_fault.kp 2 0 L0 (mixK (impl_Coalgebra_fault.fin N K g0 g1 .ret) kv)) = (impl_Coalgebra_fault.b0 N (fun d0 d1 d2 => K (.slice 2 0 d0 (some d1) 1) [⟨false, .ints .i64 2 g0⟩, ⟨false, .ints .u8 520 g1⟩, ⟨true, .ints .i64 4 d2⟩]) (K (.nils) [⟨false, .ints .i64 2 g0⟩, ⟨false, .ints .u8 520 g1⟩]) (fun x2 => L0 (impl_Coalgebra_fault.st0 g0 g1 x2)) (kv (.exit 0) (impl_Coalgebra_fault.sx0_0 g0 g1)) g0 g1 x2) := by kernel_rfl

theorem impl_Coalgebra_fault.b0_eq {ρ : Type} (N : Nat) (K : AV → Heap → Option ρ) (L0 : St → Option ρ) (g0 : Nat → Int) (g1 : Nat → Int) (x2 : Int) :
    xcode (E58 N) ents impl_Coalgebra_fault.kp 2 N (cL (cK (cB (cA (cB (cB impl_Coalgebra_fault.bd)))))) 0 (impl_Coalgebra_fault.st0 g0 g1 x2) (roundK impl_Coalgebra_fault.kp 2 0 L0 (impl_Coalgebra_fault.k0 N K g0 g1)) = (impl_Coalgebra_fault.b0 N (fun d0 d1 d2 => K (.slice 2 0 d0 (some d1) 1) [⟨false, .ints .i64 2 g0⟩, ⟨false, .ints .u8 520 g1⟩, ⟨true, .ints .i64 4 d2⟩]) (K (.nils) [⟨false, .ints .i64 2 g0⟩, ⟨false, .ints .u8 520 g1⟩]) (fun x2 => L0 (impl_Coalgebra_fault.st0 g0 g1 x2)) ((impl_Coalgebra_fault.k0 N K g0 g1) (.exit 0) (impl_Coalgebra_fault.sx0_0 g0 g1)) g0 g1 x2) := by
  have h := impl_Coalgebra_fault.b0_gen N K L0 (impl_Coalgebra_fault.k0 N K g0 g1) g0 g1 x2
  rw [impl_Coalgebra_fault.k0_mix] at h
  exact h

theorem impl_Coalgebra_fault.a0_0_eq {ρ : Type} (N : Nat) (K : AV → Heap → Option ρ) (g0 : Nat → Int) (g1 : Nat → Int) :
    (impl_Coalgebra_fault.k0 N K g0 g1) (.exit 0) (impl_Coalgebra_fault.sx0_0 g0 g1) = (impl_Coalgebra_fault.a0_0 N (fun d0 d1 d2 => K (.slice 2 0 d0 (some d1) 1) [⟨false, .ints .i64 2 g0⟩, ⟨false, .ints .u8 520 g1⟩, ⟨true, .ints .i64 4 d2⟩]) (K (.nils) [⟨false, .ints .i64 2 g0⟩, ⟨false, .ints .u8 520 g1⟩])) := by kernel_rfl

theorem impl_Coalgebra_fault.l0_eq {ρ : Type} (N : Nat) (K : AV → Heap → Option ρ) (g0 : Nat → Int) (g1 : Nat → Int) :
    ∀ (m : Nat) (x2 : Int), xloop (xcode (E58 N) ents impl_Coalgebra_fault.kp 2 N (cL (cK (cB (cA (cB (cB impl_Coalgebra_fault.bd)))))) 0) impl_Coalgebra_fault.kp 2 0 m (impl_Coalgebra_fault.st0 g0 g1 x2) (impl_Coalgebra_fault.k0 N K g0 g1) = (impl_Coalgebra_fault.l0 N (fun d0 d1 d2 => K (.slice 2 0 d0 (some d1) 1) [⟨false, .ints .i64 2 g0⟩, ⟨false, .ints .u8 520 g1⟩, ⟨true, .ints .i64 4 d2⟩]) (K (.nils) [⟨false, .ints .i64 2 g0⟩, ⟨false, .ints .u8 520 g1⟩]) g0 g1 ((impl_Coalgebra_fault.k0 N K g0 g1) (.exit 0) (impl_Coalgebra_fault.sx0_0 g0 g1)) m x2) := by
  intro m
  induction m with
  | zero => intros; rfl
  | succ m ih =>
    intro x2
    refine (impl_Coalgebra_fault.b0_eq N K (fun s => xloop (xcode (E58 N) ents impl_Coalgebra_fault.kp 2 N (cL (cK (cB (cA (cB (cB impl_Coalgebra_fault.bd)))))) 0) impl_Coalgebra_fault.kp 2 0 m s (impl_Coalgebra_fault.k0 N K g0 g1)) g0 g1 x2).trans ?_
    simp only [ih]
    kernel_rfl

theorem impl_Coalgebra_fault.s_eq {ρ : Type} (N : Nat) (K : AV → Heap → Option ρ) (g0 : Nat → Int) (g1 : Nat → Int) :
    xbody (E58 N) ents impl_Coalgebra_fault.kp N Go.Proofs.Try.f85 impl_Coalgebra_fault.bd [.sptr [(0, 2), (1, 520)]] [⟨false, .ints .i64 2 g0⟩, ⟨false, .ints .u8 520 g1⟩] K = (impl_Coalgebra_fault.s N (fun d0 d1 d2 => K (.slice 2 0 d0 (some d1) 1) [⟨false, .ints .i64 2 g0⟩, ⟨false, .ints .u8 520 g1⟩, ⟨true, .ints .i64 4 d2⟩]) (K (.nils) [⟨false, .ints .i64 2 g0⟩, ⟨false, .ints .u8 520 g1⟩]) (fun x2 => xloop (xcode (E58 N) ents impl_Coalgebra_fault.kp 2 N (cL (cK (cB (cA (cB (cB impl_Coalgebra_fault.bd)))))) 0) impl_Coalgebra_fault.kp 2 0 N (impl_Coalgebra_fault.st0 g0 g1 x2) (impl_Coalgebra_fault.k0 N K g0 g1))) := by kernel_rfl

theorem impl_Coalgebra_fault.eq {ρ : Type} (N : Nat) (K : AV → Heap → Option ρ) (g0 : Nat → Int) (g1 : Nat → Int) :
    xbody (E58 N) ents impl_Coalgebra_fault.kp N Go.Proofs.Try.f85 impl_Coalgebra_fault.bd [.sptr [(0, 2), (1, 520)]] [⟨false, .ints .i64 2 g0⟩, ⟨false, .ints .u8 520 g1⟩] K = (impl_Coalgebra_fault N (fun d0 d1 d2 => K (.slice 2 0 d0 (some d1) 1) [⟨false, .ints .i64 2 g0⟩, ⟨false, .ints .u8 520 g1⟩, ⟨true, .ints .i64 4 d2⟩]) (K (.nils) [⟨false, .ints .i64 2 g0⟩, ⟨false, .ints .u8 520 g1⟩]) g0 g1) := by
  refine (impl_Coalgebra_fault.s_eq N K g0 g1).trans ?_
  simp only [impl_Coalgebra_fault.l0_eq, impl_Coalgebra_fault.a0_0_eq]
  kernel_rfl
end Go.Proofs.Ytacdnmdfoimjcaa.H
