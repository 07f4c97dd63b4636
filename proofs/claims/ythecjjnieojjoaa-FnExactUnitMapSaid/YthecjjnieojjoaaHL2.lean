/- The program computes these functions. -/
import Derived.Test.YthecjjnieojjoaaHL1
namespace Go.Proofs.Ythecjjnieojjoaa.H
set_option linter.unusedVariables false
set_option linter.unusedSimpArgs false
open Go Go.RowKit Go.Proofs.Ythecjjnieojjoaa.Hx
set_option linter.unusedVariables false
set_option maxRecDepth 100000
noncomputable def slices_IndexFunc_sf.kp : Keeps := ⟨[(0, [0, 1, 7, 8], 4)], [(0, [], 4)]⟩

noncomputable def slices_IndexFunc_sf.bd : Code := bodyOf Go.Proofs.Try.f146

noncomputable def slices_IndexFunc_sf.fin {ρ : Type} (N : Nat) (K : AV → Heap → Option ρ) (g2 : Nat) (g3 : Nat → Int) (g4 : Nat → Int) (g5 : Nat → Int) : XE → St → Option ρ := finK (E46 N) Go.Proofs.Try.f146 [⟨false, .ints .u8 g2 g3⟩, ⟨false, .avs [.sptr [(2, 2), (3, 520)]]⟩, ⟨false, .ints .i64 2 g4⟩, ⟨false, .ints .u8 520 g5⟩] K

noncomputable def slices_IndexFunc_sf.k0 {ρ : Type} (N : Nat) (K : AV → Heap → Option ρ) (g2 : Nat) (g3 : Nat → Int) (g4 : Nat → Int) (g5 : Nat → Int) : XE → St → Option ρ := (blockK slices_IndexFunc_sf.kp 4 0 (seqK (xcode (E46 N) ents slices_IndexFunc_sf.kp 4 N (cB (cB slices_IndexFunc_sf.bd)) 0) (slices_IndexFunc_sf.fin N K g2 g3 g4 g5)))

theorem slices_IndexFunc_sf.k0_mix {ρ : Type} (N : Nat) (K : AV → Heap → Option ρ) (g2 : Nat) (g3 : Nat → Int) (g4 : Nat → Int) (g5 : Nat → Int) : mixK (slices_IndexFunc_sf.fin N K g2 g3 g4 g5 .ret) (slices_IndexFunc_sf.k0 N K g2 g3 g4 g5) = (slices_IndexFunc_sf.k0 N K g2 g3 g4 g5) := by
  funext e s; cases e <;> rfl

noncomputable def slices_IndexFunc_sf.st0 (s0 : Nat) (s1 : Nat) (g2 : Nat) (g3 : Nat → Int) (g4 : Nat → Int) (g5 : Nat → Int) (x6 : Int) : St := ⟨sl 19 [(0, .slice 0 0 s0 (some s1) 8), (1, .fn 132 [[(1, 1)]]), (7, .int .i64 ((s0 : Int))), (8, .int .i64 (x6))], [⟨false, .ints .u8 g2 g3⟩, ⟨false, .avs [.sptr [(2, 2), (3, 520)]]⟩, ⟨false, .ints .i64 2 g4⟩, ⟨false, .ints .u8 520 g5⟩]⟩

noncomputable def slices_IndexFunc_sf.sx0_0 (g2 : Nat) (g3 : Nat → Int) (g4 : Nat → Int) (g5 : Nat → Int) : St := ⟨sl 19 [], [⟨false, .ints .u8 g2 g3⟩, ⟨false, .avs [.sptr [(2, 2), (3, 520)]]⟩, ⟨false, .ints .i64 2 g4⟩, ⟨false, .ints .u8 520 g5⟩]⟩

theorem slices_IndexFunc_sf.b0_gen {ρ : Type} (N : Nat) (K : AV → Heap → Option ρ) (L0 : St → Option ρ) (kv : XE → St → Option ρ) (s0 : Nat) (s1 : Nat) (g2 : Nat) (g3 : Nat → Int) (g4 : Nat → Int) (g5 : Nat → Int) (x6 : Int) :
    xcode (E46 N) ents slices_IndexFunc_sf.kp 4 N (cL (cK (cB (cA (cB slices_IndexFunc_sf.bd))))) 0 (slices_IndexFunc_sf.st0 s0 s1 g2 g3 g4 g5 x6) (roundK slices_IndexFunc_sf.kp 4 0 L0 (mixK (slices_IndexFunc_sf.fin N K g2 g3 g4 g5 .ret) kv)) = (slices_IndexFunc_sf.b0 N (fun d0 => K (.int .i64 (d0)) [⟨false, .ints .u8 g2 g3⟩, ⟨false, .avs [.sptr [(2, 2), (3, 520)]]⟩, ⟨false, .ints .i64 2 g4⟩, ⟨false, .ints .u8 520 g5⟩]) (fun x6 => L0 (slices_IndexFunc_sf.st0 s0 s1 g2 g3 g4 g5 x6)) (kv (.exit 0) (slices_IndexFunc_sf.sx0_0 g2 g3 g4 g5)) s0 g3 g4 g5 x6) := by kernel_rfl

theorem slices_IndexFunc_sf.b0_eq {ρ : Type} (N : Nat) (K : AV → Heap → Option ρ) (L0 : St → Option ρ) (s0 : Nat) (s1 : Nat) (g2 : Nat) (g3 : Nat → Int) (g4 : Nat → Int) (g5 : Nat → Int) (x6 : Int) :
    xcode (E46 N) ents slices_IndexFunc_sf.kp 4 N (cL (cK (cB (cA (cB slices_IndexFunc_sf.bd))))) 0 (slices_IndexFunc_sf.st0 s0 s1 g2 g3 g4 g5 x6) (roundK slices_IndexFunc_sf.kp 4 0 L0 (slices_IndexFunc_sf.k0 N K g2 g3 g4 g5)) = (slices_IndexFunc_sf.b0 N (fun d0 => K (.int .i64 (d0)) [⟨false, .ints .u8 g2 g3⟩, ⟨false, .avs [.sptr [(2, 2), (3, 520)]]⟩, ⟨false, .ints .i64 2 g4⟩, ⟨false, .ints .u8 520 g5⟩]) (fun x6 => L0 (slices_IndexFunc_sf.st0 s0 s1 g2 g3 g4 g5 x6)) ((slices_IndexFunc_sf.k0 N K g2 g3 g4 g5) (.exit 0) (slices_IndexFunc_sf.sx0_0 g2 g3 g4 g5)) s0 g3 g4 g5 x6) := by
  have h := slices_IndexFunc_sf.b0_gen N K L0 (slices_IndexFunc_sf.k0 N K g2 g3 g4 g5) s0 s1 g2 g3 g4 g5 x6
  rw [slices_IndexFunc_sf.k0_mix] at h
  exact h

theorem slices_IndexFunc_sf.a0_0_eq {ρ : Type} (N : Nat) (K : AV → Heap → Option ρ) (g2 : Nat) (g3 : Nat → Int) (g4 : Nat → Int) (g5 : Nat → Int) :
    (slices_IndexFunc_sf.k0 N K g2 g3 g4 g5) (.exit 0) (slices_IndexFunc_sf.sx0_0 g2 g3 g4 g5) = (slices_IndexFunc_sf.a0_0 N (fun d0 => K (.int .i64 (d0)) [⟨false, .ints .u8 g2 g3⟩, ⟨false, .avs [.sptr [(2, 2), (3, 520)]]⟩, ⟨false, .ints .i64 2 g4⟩, ⟨false, .ints .u8 520 g5⟩])) := by kernel_rfl

theorem slices_IndexFunc_sf.l0_eq {ρ : Type} (N : Nat) (K : AV → Heap → Option ρ) (s0 : Nat) (s1 : Nat) (g2 : Nat) (g3 : Nat → Int) (g4 : Nat → Int) (g5 : Nat → Int) :
    ∀ (m : Nat) (x6 : Int), xloop (xcode (E46 N) ents slices_IndexFunc_sf.kp 4 N (cL (cK (cB (cA (cB slices_IndexFunc_sf.bd))))) 0) slices_IndexFunc_sf.kp 4 0 m (slices_IndexFunc_sf.st0 s0 s1 g2 g3 g4 g5 x6) (slices_IndexFunc_sf.k0 N K g2 g3 g4 g5) = (slices_IndexFunc_sf.l0 N (fun d0 => K (.int .i64 (d0)) [⟨false, .ints .u8 g2 g3⟩, ⟨false, .avs [.sptr [(2, 2), (3, 520)]]⟩, ⟨false, .ints .i64 2 g4⟩, ⟨false, .ints .u8 520 g5⟩]) s0 g3 g4 g5 ((slices_IndexFunc_sf.k0 N K g2 g3 g4 g5) (.exit 0) (slices_IndexFunc_sf.sx0_0 g2 g3 g4 g5)) m x6) := by
  intro m
  induction m with
  | zero => intros; rfl
  | succ m ih =>
    intro x6
    refine (slices_IndexFunc_sf.b0_eq N K (fun s => xloop (xcode (E46 N) ents slices_IndexFunc_sf.kp 4 N (cL (cK (cB (cA (cB slices_IndexFunc_sf.bd))))) 0) slices_IndexFunc_sf.kp 4 0 m s (slices_IndexFunc_sf.k0 N K g2 g3 g4 g5)) s0 s1 g2 g3 g4 g5 x6).trans ?_
    simp only [ih]
    kernel_rfl

theorem slices_IndexFunc_sf.s_eq {ρ : Type} (N : Nat) (K : AV → Heap → Option ρ) (s0 : Nat) (s1 : Nat) (g2 : Nat) (g3 : Nat → Int) (g4 : Nat → Int) (g5 : Nat → Int) :
    xbody (E46 N) ents slices_IndexFunc_sf.kp N Go.Proofs.Try.f146 slices_IndexFunc_sf.bd [.slice 0 0 s0 (some s1) 8, .fn 132 [[(1, 1)]]] [⟨false, .ints .u8 g2 g3⟩, ⟨false, .avs [.sptr [(2, 2), (3, 520)]]⟩, ⟨false, .ints .i64 2 g4⟩, ⟨false, .ints .u8 520 g5⟩] K = (slices_IndexFunc_sf.s N (fun d0 => K (.int .i64 (d0)) [⟨false, .ints .u8 g2 g3⟩, ⟨false, .avs [.sptr [(2, 2), (3, 520)]]⟩, ⟨false, .ints .i64 2 g4⟩, ⟨false, .ints .u8 520 g5⟩]) (fun x6 => xloop (xcode (E46 N) ents slices_IndexFunc_sf.kp 4 N (cL (cK (cB (cA (cB slices_IndexFunc_sf.bd))))) 0) slices_IndexFunc_sf.kp 4 0 N (slices_IndexFunc_sf.st0 s0 s1 g2 g3 g4 g5 x6) (slices_IndexFunc_sf.k0 N K g2 g3 g4 g5))) := by kernel_rfl

theorem slices_IndexFunc_sf.eq {ρ : Type} (N : Nat) (K : AV → Heap → Option ρ) (s0 : Nat) (s1 : Nat) (g2 : Nat) (g3 : Nat → Int) (g4 : Nat → Int) (g5 : Nat → Int) :
    xbody (E46 N) ents slices_IndexFunc_sf.kp N Go.Proofs.Try.f146 slices_IndexFunc_sf.bd [.slice 0 0 s0 (some s1) 8, .fn 132 [[(1, 1)]]] [⟨false, .ints .u8 g2 g3⟩, ⟨false, .avs [.sptr [(2, 2), (3, 520)]]⟩, ⟨false, .ints .i64 2 g4⟩, ⟨false, .ints .u8 520 g5⟩] K = (slices_IndexFunc_sf N (fun d0 => K (.int .i64 (d0)) [⟨false, .ints .u8 g2 g3⟩, ⟨false, .avs [.sptr [(2, 2), (3, 520)]]⟩, ⟨false, .ints .i64 2 g4⟩, ⟨false, .ints .u8 520 g5⟩]) s0 s1 g2 g3 g4 g5) := by
  refine (slices_IndexFunc_sf.s_eq N K s0 s1 g2 g3 g4 g5).trans ?_
  simp only [slices_IndexFunc_sf.l0_eq, slices_IndexFunc_sf.a0_0_eq]
  kernel_rfl

noncomputable def slices_IndexFunc_nf.kp : Keeps := ⟨[(0, [0, 1, 7, 8], 3)], [(0, [], 3)]⟩

noncomputable def slices_IndexFunc_nf.bd : Code := bodyOf Go.Proofs.Try.f146

noncomputable def slices_IndexFunc_nf.fin {ρ : Type} (N : Nat) (K : AV → Heap → Option ρ) (g0 : Nat → Int) (g1 : Nat → Int) : XE → St → Option ρ := finK (E46 N) Go.Proofs.Try.f146 [⟨false, .avs [.sptr [(1, 2), (2, 520)]]⟩, ⟨false, .ints .i64 2 g0⟩, ⟨false, .ints .u8 520 g1⟩] K

noncomputable def slices_IndexFunc_nf.k0 {ρ : Type} (N : Nat) (K : AV → Heap → Option ρ) (g0 : Nat → Int) (g1 : Nat → Int) : XE → St → Option ρ := (blockK slices_IndexFunc_nf.kp 3 0 (seqK (xcode (E46 N) ents slices_IndexFunc_nf.kp 3 N (cB (cB slices_IndexFunc_nf.bd)) 0) (slices_IndexFunc_nf.fin N K g0 g1)))

theorem slices_IndexFunc_nf.k0_mix {ρ : Type} (N : Nat) (K : AV → Heap → Option ρ) (g0 : Nat → Int) (g1 : Nat → Int) : mixK (slices_IndexFunc_nf.fin N K g0 g1 .ret) (slices_IndexFunc_nf.k0 N K g0 g1) = (slices_IndexFunc_nf.k0 N K g0 g1) := by
  funext e s; cases e <;> rfl

noncomputable def slices_IndexFunc_nf.st0 (g0 : Nat → Int) (g1 : Nat → Int) : St := ⟨sl 19 [(0, .nils), (1, .fn 132 [[(0, 1)]]), (7, .int .i64 0), (8, .int .i64 0)], [⟨false, .avs [.sptr [(1, 2), (2, 520)]]⟩, ⟨false, .ints .i64 2 g0⟩, ⟨false, .ints .u8 520 g1⟩]⟩

noncomputable def slices_IndexFunc_nf.sx0_0 (g0 : Nat → Int) (g1 : Nat → Int) : St := ⟨sl 19 [], [⟨false, .avs [.sptr [(1, 2), (2, 520)]]⟩, ⟨false, .ints .i64 2 g0⟩, ⟨false, .ints .u8 520 g1⟩]⟩

theorem slices_IndexFunc_nf.b0_gen {ρ : Type} (N : Nat) (K : AV → Heap → Option ρ) (L0 : St → Option ρ) (kv : XE → St → Option ρ) (g0 : Nat → Int) (g1 : Nat → Int) :
    xcode (E46 N) ents slices_IndexFunc_nf.kp 3 N (cL (cK (cB (cA (cB slices_IndexFunc_nf.bd))))) 0 (slices_IndexFunc_nf.st0 g0 g1) (roundK slices_IndexFunc_nf.kp 3 0 L0 (mixK (slices_IndexFunc_nf.fin N K g0 g1 .ret) kv)) = (slices_IndexFunc_nf.b0 N (fun d0 => K (.int .i64 (d0)) [⟨false, .avs [.sptr [(1, 2), (2, 520)]]⟩, ⟨false, .ints .i64 2 g0⟩, ⟨false, .ints .u8 520 g1⟩]) (L0 (slices_IndexFunc_nf.st0 g0 g1)) (kv (.exit 0) (slices_IndexFunc_nf.sx0_0 g0 g1))) := by kernel_rfl

theorem slices_IndexFunc_nf.b0_eq {ρ : Type} (N : Nat) (K : AV → Heap → Option ρ) (L0 : St → Option ρ) (g0 : Nat → Int) (g1 : Nat → Int) :
    xcode (E46 N) ents slices_IndexFunc_nf.kp 3 N (cL (cK (cB (cA (cB slices_IndexFunc_nf.bd))))) 0 (slices_IndexFunc_nf.st0 g0 g1) (roundK slices_IndexFunc_nf.kp 3 0 L0 (slices_IndexFunc_nf.k0 N K g0 g1)) = (slices_IndexFunc_nf.b0 N (fun d0 => K (.int .i64 (d0)) [⟨false, .avs [.sptr [(1, 2), (2, 520)]]⟩, ⟨false, .ints .i64 2 g0⟩, ⟨false, .ints .u8 520 g1⟩]) (L0 (slices_IndexFunc_nf.st0 g0 g1)) ((slices_IndexFunc_nf.k0 N K g0 g1) (.exit 0) (slices_IndexFunc_nf.sx0_0 g0 g1))) := by
  have h := slices_IndexFunc_nf.b0_gen N K L0 (slices_IndexFunc_nf.k0 N K g0 g1) g0 g1
  rw [slices_IndexFunc_nf.k0_mix] at h
  exact h

theorem slices_IndexFunc_nf.a0_0_eq {ρ : Type} (N : Nat) (K : AV → Heap → Option ρ) (g0 : Nat → Int) (g1 : Nat → Int) :
    (slices_IndexFunc_nf.k0 N K g0 g1) (.exit 0) (slices_IndexFunc_nf.sx0_0 g0 g1) = (slices_IndexFunc_nf.a0_0 N (fun d0 => K (.int .i64 (d0)) [⟨false, .avs [.sptr [(1, 2), (2, 520)]]⟩, ⟨false, .ints .i64 2 g0⟩, ⟨false, .ints .u8 520 g1⟩])) := by kernel_rfl

theorem slices_IndexFunc_nf.l0_eq {ρ : Type} (N : Nat) (K : AV → Heap → Option ρ) (g0 : Nat → Int) (g1 : Nat → Int) :
    ∀ (m : Nat), xloop (xcode (E46 N) ents slices_IndexFunc_nf.kp 3 N (cL (cK (cB (cA (cB slices_IndexFunc_nf.bd))))) 0) slices_IndexFunc_nf.kp 3 0 m (slices_IndexFunc_nf.st0 g0 g1) (slices_IndexFunc_nf.k0 N K g0 g1) = (slices_IndexFunc_nf.l0 N (fun d0 => K (.int .i64 (d0)) [⟨false, .avs [.sptr [(1, 2), (2, 520)]]⟩, ⟨false, .ints .i64 2 g0⟩, ⟨false, .ints .u8 520 g1⟩]) ((slices_IndexFunc_nf.k0 N K g0 g1) (.exit 0) (slices_IndexFunc_nf.sx0_0 g0 g1)) m) := by
  intro m
  induction m with
  | zero => intros; rfl
  | succ m ih =>
    refine (slices_IndexFunc_nf.b0_eq N K (fun s => xloop (xcode (E46 N) ents slices_IndexFunc_nf.kp 3 N (cL (cK (cB (cA (cB slices_IndexFunc_nf.bd))))) 0) slices_IndexFunc_nf.kp 3 0 m s (slices_IndexFunc_nf.k0 N K g0 g1)) g0 g1).trans ?_
    simp only [ih]
    kernel_rfl

theorem slices_IndexFunc_nf.s_eq {ρ : Type} (N : Nat) (K : AV → Heap → Option ρ) (g0 : Nat → Int) (g1 : Nat → Int) :
    xbody (E46 N) ents slices_IndexFunc_nf.kp N Go.Proofs.Try.f146 slices_IndexFunc_nf.bd [.nils, .fn 132 [[(0, 1)]]] [⟨false, .avs [.sptr [(1, 2), (2, 520)]]⟩, ⟨false, .ints .i64 2 g0⟩, ⟨false, .ints .u8 520 g1⟩] K = (slices_IndexFunc_nf.s N (fun d0 => K (.int .i64 (d0)) [⟨false, .avs [.sptr [(1, 2), (2, 520)]]⟩, ⟨false, .ints .i64 2 g0⟩, ⟨false, .ints .u8 520 g1⟩]) (xloop (xcode (E46 N) ents slices_IndexFunc_nf.kp 3 N (cL (cK (cB (cA (cB slices_IndexFunc_nf.bd))))) 0) slices_IndexFunc_nf.kp 3 0 N (slices_IndexFunc_nf.st0 g0 g1) (slices_IndexFunc_nf.k0 N K g0 g1))) := by kernel_rfl

theorem slices_IndexFunc_nf.eq {ρ : Type} (N : Nat) (K : AV → Heap → Option ρ) (g0 : Nat → Int) (g1 : Nat → Int) :
    xbody (E46 N) ents slices_IndexFunc_nf.kp N Go.Proofs.Try.f146 slices_IndexFunc_nf.bd [.nils, .fn 132 [[(0, 1)]]] [⟨false, .avs [.sptr [(1, 2), (2, 520)]]⟩, ⟨false, .ints .i64 2 g0⟩, ⟨false, .ints .u8 520 g1⟩] K = (slices_IndexFunc_nf N (fun d0 => K (.int .i64 (d0)) [⟨false, .avs [.sptr [(1, 2), (2, 520)]]⟩, ⟨false, .ints .i64 2 g0⟩, ⟨false, .ints .u8 520 g1⟩]) g0 g1) := by
  refine (slices_IndexFunc_nf.s_eq N K g0 g1).trans ?_
  simp only [slices_IndexFunc_nf.l0_eq, slices_IndexFunc_nf.a0_0_eq]
  kernel_rfl

noncomputable def slices_IndexFunc_sf.en (N : Nat) (ρ : Type) : List AV → Heap → (AV → Heap → Option ρ) → Option ρ
  | [.slice 0 0 s0 (some s1) 8, .fn 132 [[(1, 1)]]], [⟨false, .ints .u8 g2 g3⟩, ⟨false, .avs [.sptr [(2, 2), (3, 520)]]⟩, ⟨false, .ints .i64 2 g4⟩, ⟨false, .ints .u8 520 g5⟩], K => (slices_IndexFunc_sf N (fun d0 => K (.int .i64 (d0)) [⟨false, .ints .u8 g2 g3⟩, ⟨false, .avs [.sptr [(2, 2), (3, 520)]]⟩, ⟨false, .ints .i64 2 g4⟩, ⟨false, .ints .u8 520 g5⟩]) s0 s1 g2 g3 g4 g5)
  | [.nils, .fn 132 [[(0, 1)]]], [⟨false, .avs [.sptr [(1, 2), (2, 520)]]⟩, ⟨false, .ints .i64 2 g0⟩, ⟨false, .ints .u8 520 g1⟩], K => (slices_IndexFunc_nf N (fun d0 => K (.int .i64 (d0)) [⟨false, .avs [.sptr [(1, 2), (2, 520)]]⟩, ⟨false, .ints .i64 2 g0⟩, ⟨false, .ints .u8 520 g1⟩]) g0 g1)
  | _, _, _ => none

theorem slices_IndexFunc_sf.en_ok (N : Nat) (hE : EnvOk (E46 N) ents) (ρ : Type) (args : List AV) (sh : Heap) (K : AV → Heap → Option ρ) (r : ρ) (h : slices_IndexFunc_sf.en N ρ args sh K = some r) : ∃ v sh', K v sh' = some r ∧ FnOk (E46 N).P 146 args sh v sh' := by
  unfold slices_IndexFunc_sf.en at h
  split at h
  · exact fn_ok hE (kp := slices_IndexFunc_sf.kp) (N := N) Go.Proofs.Try.func146 (c := slices_IndexFunc_sf.bd) (by kernel_rfl) ((slices_IndexFunc_sf.eq N _ _ _ _ _ _ _).trans h)
  · exact fn_ok hE (kp := slices_IndexFunc_nf.kp) (N := N) Go.Proofs.Try.func146 (c := slices_IndexFunc_nf.bd) (by kernel_rfl) ((slices_IndexFunc_nf.eq N _ _ _).trans h)
  · cases h

noncomputable def E47 (N : Nat) : Env := (E46 N).add 146 (slices_IndexFunc_sf.en N)

theorem E47_ok (N : Nat) : EnvOk (E47 N) ents := Env.add_ok (E46_ok N) (slices_IndexFunc_sf.en_ok N (E46_ok N))

noncomputable def slices_ContainsFunc_sf.kp : Keeps := ⟨[], []⟩

noncomputable def slices_ContainsFunc_sf.bd : Code := bodyOf Go.Proofs.Try.f118

noncomputable def slices_ContainsFunc_sf.fin {ρ : Type} (N : Nat) (K : AV → Heap → Option ρ) (g2 : Nat) (g3 : Nat → Int) (g4 : Nat → Int) (g5 : Nat → Int) : XE → St → Option ρ := finK (E47 N) Go.Proofs.Try.f118 [⟨false, .ints .u8 g2 g3⟩, ⟨false, .avs [.sptr [(2, 2), (3, 520)]]⟩, ⟨false, .ints .i64 2 g4⟩, ⟨false, .ints .u8 520 g5⟩] K

theorem slices_ContainsFunc_sf.eq {ρ : Type} (N : Nat) (K : AV → Heap → Option ρ) (s0 : Nat) (s1 : Nat) (g2 : Nat) (g3 : Nat → Int) (g4 : Nat → Int) (g5 : Nat → Int) :
    xbody (E47 N) ents slices_ContainsFunc_sf.kp N Go.Proofs.Try.f118 slices_ContainsFunc_sf.bd [.slice 0 0 s0 (some s1) 8, .fn 132 [[(1, 1)]]] [⟨false, .ints .u8 g2 g3⟩, ⟨false, .avs [.sptr [(2, 2), (3, 520)]]⟩, ⟨false, .ints .i64 2 g4⟩, ⟨false, .ints .u8 520 g5⟩] K = (slices_ContainsFunc_sf N (fun d0 => K (.bool (d0)) [⟨false, .ints .u8 g2 g3⟩, ⟨false, .avs [.sptr [(2, 2), (3, 520)]]⟩, ⟨false, .ints .i64 2 g4⟩, ⟨false, .ints .u8 520 g5⟩]) s0 s1 g2 g3 g4 g5) := by kernel_rfl

noncomputable def slices_ContainsFunc_nf.kp : Keeps := ⟨[], []⟩

noncomputable def slices_ContainsFunc_nf.bd : Code := bodyOf Go.Proofs.Try.f118

noncomputable def slices_ContainsFunc_nf.fin {ρ : Type} (N : Nat) (K : AV → Heap → Option ρ) (g0 : Nat → Int) (g1 : Nat → Int) : XE → St → Option ρ := finK (E47 N) Go.Proofs.Try.f118 [⟨false, .avs [.sptr [(1, 2), (2, 520)]]⟩, ⟨false, .ints .i64 2 g0⟩, ⟨false, .ints .u8 520 g1⟩] K

theorem slices_ContainsFunc_nf.eq {ρ : Type} (N : Nat) (K : AV → Heap → Option ρ) (g0 : Nat → Int) (g1 : Nat → Int) :
    xbody (E47 N) ents slices_ContainsFunc_nf.kp N Go.Proofs.Try.f118 slices_ContainsFunc_nf.bd [.nils, .fn 132 [[(0, 1)]]] [⟨false, .avs [.sptr [(1, 2), (2, 520)]]⟩, ⟨false, .ints .i64 2 g0⟩, ⟨false, .ints .u8 520 g1⟩] K = (slices_ContainsFunc_nf N (fun d0 => K (.bool (d0)) [⟨false, .avs [.sptr [(1, 2), (2, 520)]]⟩, ⟨false, .ints .i64 2 g0⟩, ⟨false, .ints .u8 520 g1⟩]) g0 g1) := by kernel_rfl

noncomputable def slices_ContainsFunc_sf.en (N : Nat) (ρ : Type) : List AV → Heap → (AV → Heap → Option ρ) → Option ρ
  | [.slice 0 0 s0 (some s1) 8, .fn 132 [[(1, 1)]]], [⟨false, .ints .u8 g2 g3⟩, ⟨false, .avs [.sptr [(2, 2), (3, 520)]]⟩, ⟨false, .ints .i64 2 g4⟩, ⟨false, .ints .u8 520 g5⟩], K => (slices_ContainsFunc_sf N (fun d0 => K (.bool (d0)) [⟨false, .ints .u8 g2 g3⟩, ⟨false, .avs [.sptr [(2, 2), (3, 520)]]⟩, ⟨false, .ints .i64 2 g4⟩, ⟨false, .ints .u8 520 g5⟩]) s0 s1 g2 g3 g4 g5)
  | [.nils, .fn 132 [[(0, 1)]]], [⟨false, .avs [.sptr [(1, 2), (2, 520)]]⟩, ⟨false, .ints .i64 2 g0⟩, ⟨false, .ints .u8 520 g1⟩], K => (slices_ContainsFunc_nf N (fun d0 => K (.bool (d0)) [⟨false, .avs [.sptr [(1, 2), (2, 520)]]⟩, ⟨false, .ints .i64 2 g0⟩, ⟨false, .ints .u8 520 g1⟩]) g0 g1)
  | _, _, _ => none

theorem slices_ContainsFunc_sf.en_ok (N : Nat) (hE : EnvOk (E47 N) ents) (ρ : Type) (args : List AV) (sh : Heap) (K : AV → Heap → Option ρ) (r : ρ) (h : slices_ContainsFunc_sf.en N ρ args sh K = some r) : ∃ v sh', K v sh' = some r ∧ FnOk (E47 N).P 118 args sh v sh' := by
  unfold slices_ContainsFunc_sf.en at h
  split at h
  · exact fn_ok hE (kp := slices_ContainsFunc_sf.kp) (N := N) Go.Proofs.Try.func118 (c := slices_ContainsFunc_sf.bd) (by kernel_rfl) ((slices_ContainsFunc_sf.eq N _ _ _ _ _ _ _).trans h)
  · exact fn_ok hE (kp := slices_ContainsFunc_nf.kp) (N := N) Go.Proofs.Try.func118 (c := slices_ContainsFunc_nf.bd) (by kernel_rfl) ((slices_ContainsFunc_nf.eq N _ _ _).trans h)
  · cases h

noncomputable def E48 (N : Nat) : Env := (E47 N).add 118 (slices_ContainsFunc_sf.en N)

theorem E48_ok (N : Nat) : EnvOk (E48 N) ents := Env.add_ok (E47_ok N) (slices_ContainsFunc_sf.en_ok N (E47_ok N))

noncomputable def impl_Coalgebra_has_s.kp : Keeps := ⟨[], []⟩

noncomputable def impl_Coalgebra_has_s.bd : Code := bodyOf Go.Proofs.Try.f104

noncomputable def impl_Coalgebra_has_s.fin {ρ : Type} (N : Nat) (K : AV → Heap → Option ρ) (g2 : Nat → Int) (g3 : Nat → Int) (g4 : Nat) (g5 : Nat → Int) : XE → St → Option ρ := finK (E48 N) Go.Proofs.Try.f104 [⟨false, .ints .i64 2 g2⟩, ⟨false, .ints .u8 520 g3⟩, ⟨false, .ints .u8 g4 g5⟩] K

theorem impl_Coalgebra_has_s.eq {ρ : Type} (N : Nat) (K : AV → Heap → Option ρ) (list0 : Nat) (list1 : Nat) (g2 : Nat → Int) (g3 : Nat → Int) (g4 : Nat) (g5 : Nat → Int) :
    xbody (E48 N) ents impl_Coalgebra_has_s.kp N Go.Proofs.Try.f104 impl_Coalgebra_has_s.bd [.sptr [(0, 2), (1, 520)], .slice 2 0 list0 (some list1) 8] [⟨false, .ints .i64 2 g2⟩, ⟨false, .ints .u8 520 g3⟩, ⟨false, .ints .u8 g4 g5⟩] K = (impl_Coalgebra_has_s N (fun d0 => K (.bool (d0)) [⟨false, .ints .i64 2 g2⟩, ⟨false, .ints .u8 520 g3⟩, ⟨false, .ints .u8 g4 g5⟩]) list0 list1 g2 g3 g4 g5) := by kernel_rfl

noncomputable def impl_Coalgebra_has_n.kp : Keeps := ⟨[], []⟩

noncomputable def impl_Coalgebra_has_n.bd : Code := bodyOf Go.Proofs.Try.f104

noncomputable def impl_Coalgebra_has_n.fin {ρ : Type} (N : Nat) (K : AV → Heap → Option ρ) (g0 : Nat → Int) (g1 : Nat → Int) : XE → St → Option ρ := finK (E48 N) Go.Proofs.Try.f104 [⟨false, .ints .i64 2 g0⟩, ⟨false, .ints .u8 520 g1⟩] K

theorem impl_Coalgebra_has_n.eq {ρ : Type} (N : Nat) (K : AV → Heap → Option ρ) (g0 : Nat → Int) (g1 : Nat → Int) :
    xbody (E48 N) ents impl_Coalgebra_has_n.kp N Go.Proofs.Try.f104 impl_Coalgebra_has_n.bd [.sptr [(0, 2), (1, 520)], .nils] [⟨false, .ints .i64 2 g0⟩, ⟨false, .ints .u8 520 g1⟩] K = (impl_Coalgebra_has_n N (fun d0 => K (.bool (d0)) [⟨false, .ints .i64 2 g0⟩, ⟨false, .ints .u8 520 g1⟩]) g0 g1) := by kernel_rfl

noncomputable def impl_Coalgebra_has_s.en (N : Nat) (ρ : Type) : List AV → Heap → (AV → Heap → Option ρ) → Option ρ
  | [.sptr [(0, 2), (1, 520)], .slice 2 0 list0 (some list1) 8], [⟨false, .ints .i64 2 g2⟩, ⟨false, .ints .u8 520 g3⟩, ⟨false, .ints .u8 g4 g5⟩], K => (impl_Coalgebra_has_s N (fun d0 => K (.bool (d0)) [⟨false, .ints .i64 2 g2⟩, ⟨false, .ints .u8 520 g3⟩, ⟨false, .ints .u8 g4 g5⟩]) list0 list1 g2 g3 g4 g5)
  | [.sptr [(0, 2), (1, 520)], .nils], [⟨false, .ints .i64 2 g0⟩, ⟨false, .ints .u8 520 g1⟩], K => (impl_Coalgebra_has_n N (fun d0 => K (.bool (d0)) [⟨false, .ints .i64 2 g0⟩, ⟨false, .ints .u8 520 g1⟩]) g0 g1)
  | _, _, _ => none

theorem impl_Coalgebra_has_s.en_ok (N : Nat) (hE : EnvOk (E48 N) ents) (ρ : Type) (args : List AV) (sh : Heap) (K : AV → Heap → Option ρ) (r : ρ) (h : impl_Coalgebra_has_s.en N ρ args sh K = some r) : ∃ v sh', K v sh' = some r ∧ FnOk (E48 N).P 104 args sh v sh' := by
  unfold impl_Coalgebra_has_s.en at h
  split at h
  · exact fn_ok hE (kp := impl_Coalgebra_has_s.kp) (N := N) Go.Proofs.Try.func104 (c := impl_Coalgebra_has_s.bd) (by kernel_rfl) ((impl_Coalgebra_has_s.eq N _ _ _ _ _ _ _).trans h)
  · exact fn_ok hE (kp := impl_Coalgebra_has_n.kp) (N := N) Go.Proofs.Try.func104 (c := impl_Coalgebra_has_n.bd) (by kernel_rfl) ((impl_Coalgebra_has_n.eq N _ _ _).trans h)
  · cases h

noncomputable def E49 (N : Nat) : Env := (E48 N).add 104 (impl_Coalgebra_has_s.en N)

theorem E49_ok (N : Nat) : EnvOk (E49 N) ents := Env.add_ok (E48_ok N) (impl_Coalgebra_has_s.en_ok N (E48_ok N))

noncomputable def impl_Coalgebra_code_s8.kp : Keeps := ⟨[], []⟩

noncomputable def impl_Coalgebra_code_s8.bd : Code := bodyOf Go.Proofs.Try.f63

noncomputable def impl_Coalgebra_code_s8.fin {ρ : Type} (N : Nat) (K : AV → Heap → Option ρ) (g2 : Nat → Int) (g3 : Nat → Int) (g4 : Nat → Int) : XE → St → Option ρ := finK (E49 N) Go.Proofs.Try.f63 [⟨false, .ints .i64 2 g2⟩, ⟨false, .ints .u8 520 g3⟩, ⟨false, .ints .u8 8 g4⟩] K

theorem impl_Coalgebra_code_s8.eq {ρ : Type} (N : Nat) (K : AV → Heap → Option ρ) (list0 : Nat) (list1 : Nat) (g2 : Nat → Int) (g3 : Nat → Int) (g4 : Nat → Int) :
    xbody (E49 N) ents impl_Coalgebra_code_s8.kp N Go.Proofs.Try.f63 impl_Coalgebra_code_s8.bd [.sptr [(0, 2), (1, 520)], .slice 2 0 list0 (some list1) 8] [⟨false, .ints .i64 2 g2⟩, ⟨false, .ints .u8 520 g3⟩, ⟨false, .ints .u8 8 g4⟩] K = (impl_Coalgebra_code_s8 N (fun d0 => K (.int .i64 (d0)) [⟨false, .ints .i64 2 g2⟩, ⟨false, .ints .u8 520 g3⟩, ⟨false, .ints .u8 8 g4⟩]) list0 list1 g2 g3 g4) := by kernel_rfl

noncomputable def impl_Coalgebra_code_n.kp : Keeps := ⟨[], []⟩

noncomputable def impl_Coalgebra_code_n.bd : Code := bodyOf Go.Proofs.Try.f63

noncomputable def impl_Coalgebra_code_n.fin {ρ : Type} (N : Nat) (K : AV → Heap → Option ρ) (g0 : Nat → Int) (g1 : Nat → Int) : XE → St → Option ρ := finK (E49 N) Go.Proofs.Try.f63 [⟨false, .ints .i64 2 g0⟩, ⟨false, .ints .u8 520 g1⟩] K

theorem impl_Coalgebra_code_n.eq {ρ : Type} (N : Nat) (K : AV → Heap → Option ρ) (g0 : Nat → Int) (g1 : Nat → Int) :
    xbody (E49 N) ents impl_Coalgebra_code_n.kp N Go.Proofs.Try.f63 impl_Coalgebra_code_n.bd [.sptr [(0, 2), (1, 520)], .nils] [⟨false, .ints .i64 2 g0⟩, ⟨false, .ints .u8 520 g1⟩] K = (impl_Coalgebra_code_n N (fun d0 => K (.int .i64 (d0)) [⟨false, .ints .i64 2 g0⟩, ⟨false, .ints .u8 520 g1⟩]) g0 g1) := by kernel_rfl

noncomputable def impl_Coalgebra_code_s8.en (N : Nat) (ρ : Type) : List AV → Heap → (AV → Heap → Option ρ) → Option ρ
  | [.sptr [(0, 2), (1, 520)], .slice 2 0 list0 (some list1) 8], [⟨false, .ints .i64 2 g2⟩, ⟨false, .ints .u8 520 g3⟩, ⟨false, .ints .u8 8 g4⟩], K => (impl_Coalgebra_code_s8 N (fun d0 => K (.int .i64 (d0)) [⟨false, .ints .i64 2 g2⟩, ⟨false, .ints .u8 520 g3⟩, ⟨false, .ints .u8 8 g4⟩]) list0 list1 g2 g3 g4)
  | [.sptr [(0, 2), (1, 520)], .nils], [⟨false, .ints .i64 2 g0⟩, ⟨false, .ints .u8 520 g1⟩], K => (impl_Coalgebra_code_n N (fun d0 => K (.int .i64 (d0)) [⟨false, .ints .i64 2 g0⟩, ⟨false, .ints .u8 520 g1⟩]) g0 g1)
  | _, _, _ => none

theorem impl_Coalgebra_code_s8.en_ok (N : Nat) (hE : EnvOk (E49 N) ents) (ρ : Type) (args : List AV) (sh : Heap) (K : AV → Heap → Option ρ) (r : ρ) (h : impl_Coalgebra_code_s8.en N ρ args sh K = some r) : ∃ v sh', K v sh' = some r ∧ FnOk (E49 N).P 63 args sh v sh' := by
  unfold impl_Coalgebra_code_s8.en at h
  split at h
  · exact fn_ok hE (kp := impl_Coalgebra_code_s8.kp) (N := N) Go.Proofs.Try.func63 (c := impl_Coalgebra_code_s8.bd) (by kernel_rfl) ((impl_Coalgebra_code_s8.eq N _ _ _ _ _ _).trans h)
  · exact fn_ok hE (kp := impl_Coalgebra_code_n.kp) (N := N) Go.Proofs.Try.func63 (c := impl_Coalgebra_code_n.bd) (by kernel_rfl) ((impl_Coalgebra_code_n.eq N _ _ _).trans h)
  · cases h

noncomputable def E50 (N : Nat) : Env := (E49 N).add 63 (impl_Coalgebra_code_s8.en N)

theorem E50_ok (N : Nat) : EnvOk (E50 N) ents := Env.add_ok (E49_ok N) (impl_Coalgebra_code_s8.en_ok N (E49_ok N))

noncomputable def impl_CounitIn.kp : Keeps := ⟨[], []⟩

noncomputable def impl_CounitIn.bd : Code := bodyOf Go.Proofs.Try.f25

noncomputable def impl_CounitIn.fin {ρ : Type} (N : Nat) (K : AV → Heap → Option ρ) : XE → St → Option ρ := finK (E50 N) Go.Proofs.Try.f25 [] K

theorem impl_CounitIn.eq {ρ : Type} (N : Nat) (K : AV → Heap → Option ρ) (c0 : Nat → Int) (c1 : Nat → Int) (v2 : Nat → Int) :
    xbody (E50 N) ents impl_CounitIn.kp N Go.Proofs.Try.f25 impl_CounitIn.bd [.agg [⟨.i64, 2, c0⟩, ⟨.u8, 520, c1⟩], .agg [⟨.u8, 8, v2⟩]] [] K = (impl_CounitIn N (fun d0 d1 => K (.tup [.int .i64 (d0), .int .i64 (d1)]) []) c0 c1 v2) := by kernel_rfl

noncomputable def impl_CounitIn.en (N : Nat) (ρ : Type) : List AV → Heap → (AV → Heap → Option ρ) → Option ρ
  | [.agg [⟨.i64, 2, c0⟩, ⟨.u8, 520, c1⟩], .agg [⟨.u8, 8, v2⟩]], [], K => (impl_CounitIn N (fun d0 d1 => K (.tup [.int .i64 (d0), .int .i64 (d1)]) []) c0 c1 v2)
  | _, _, _ => none

theorem impl_CounitIn.en_ok (N : Nat) (hE : EnvOk (E50 N) ents) (ρ : Type) (args : List AV) (sh : Heap) (K : AV → Heap → Option ρ) (r : ρ) (h : impl_CounitIn.en N ρ args sh K = some r) : ∃ v sh', K v sh' = some r ∧ FnOk (E50 N).P 25 args sh v sh' := by
  unfold impl_CounitIn.en at h
  split at h
  · exact fn_ok hE (kp := impl_CounitIn.kp) (N := N) Go.Proofs.Try.func25 (c := impl_CounitIn.bd) (by kernel_rfl) ((impl_CounitIn.eq N _ _ _ _).trans h)
  · cases h

noncomputable def E51 (N : Nat) : Env := (E50 N).add 25 (impl_CounitIn.en N)

theorem E51_ok (N : Nat) : EnvOk (E51 N) ents := Env.add_ok (E50_ok N) (impl_CounitIn.en_ok N (E50_ok N))

noncomputable def laws_FnExactCounitIn.kp : Keeps := ⟨[], []⟩

noncomputable def laws_FnExactCounitIn.bd : Code := bodyOf Go.Proofs.Try.f5

noncomputable def laws_FnExactCounitIn.fin {ρ : Type} (N : Nat) (K : AV → Heap → Option ρ) : XE → St → Option ρ := finK (E51 N) Go.Proofs.Try.f5 [] K

theorem laws_FnExactCounitIn.eq {ρ : Type} (N : Nat) (K : AV → Heap → Option ρ) (aC0 : Nat → Int) (aC1 : Nat → Int) (aV2 : Nat → Int) :
    xbody (E51 N) ents laws_FnExactCounitIn.kp N Go.Proofs.Try.f5 laws_FnExactCounitIn.bd [.agg [⟨.i64, 2, aC0⟩, ⟨.u8, 520, aC1⟩], .agg [⟨.u8, 8, aV2⟩]] [] K = (laws_FnExactCounitIn N (fun d0 => K (.bool (d0)) []) aC0 aC1 aV2) := by kernel_rfl

noncomputable def laws_FnExactCounitIn.en (N : Nat) (ρ : Type) : List AV → Heap → (AV → Heap → Option ρ) → Option ρ
  | [.agg [⟨.i64, 2, aC0⟩, ⟨.u8, 520, aC1⟩], .agg [⟨.u8, 8, aV2⟩]], [], K => (laws_FnExactCounitIn N (fun d0 => K (.bool (d0)) []) aC0 aC1 aV2)
  | _, _, _ => none

theorem laws_FnExactCounitIn.en_ok (N : Nat) (hE : EnvOk (E51 N) ents) (ρ : Type) (args : List AV) (sh : Heap) (K : AV → Heap → Option ρ) (r : ρ) (h : laws_FnExactCounitIn.en N ρ args sh K = some r) : ∃ v sh', K v sh' = some r ∧ FnOk (E51 N).P 5 args sh v sh' := by
  unfold laws_FnExactCounitIn.en at h
  split at h
  · exact fn_ok hE (kp := laws_FnExactCounitIn.kp) (N := N) Go.Proofs.Try.func5 (c := laws_FnExactCounitIn.bd) (by kernel_rfl) ((laws_FnExactCounitIn.eq N _ _ _ _).trans h)
  · cases h

noncomputable def E52 (N : Nat) : Env := (E51 N).add 5 (laws_FnExactCounitIn.en N)

theorem E52_ok (N : Nat) : EnvOk (E52 N) ents := Env.add_ok (E51_ok N) (laws_FnExactCounitIn.en_ok N (E51_ok N))

noncomputable def spec_IsCocommutative.kp : Keeps := ⟨[(0, [1, 4], 2), (2, [1, 4, 5], 2), (4, [1, 4, 5, 6], 2)], [(0, [], 2), (2, [1, 4], 2), (4, [1, 4, 5], 2)]⟩

noncomputable def spec_IsCocommutative.bd : Code := bodyOf Go.Proofs.Try.f26

noncomputable def spec_IsCocommutative.fin {ρ : Type} (N : Nat) (K : AV → Heap → Option ρ) : XE → St → Option ρ := finK (E52 N) Go.Proofs.Try.f26 [] K

noncomputable def spec_IsCocommutative.k0 {ρ : Type} (N : Nat) (K : AV → Heap → Option ρ) : XE → St → Option ρ := (blockK spec_IsCocommutative.kp 0 0 (seqK (xcode (E52 N) ents spec_IsCocommutative.kp 0 N (cB (cB (cB spec_IsCocommutative.bd))) 0) (spec_IsCocommutative.fin N K)))

theorem spec_IsCocommutative.k0_mix {ρ : Type} (N : Nat) (K : AV → Heap → Option ρ) : mixK (spec_IsCocommutative.fin N K .ret) (spec_IsCocommutative.k0 N K) = (spec_IsCocommutative.k0 N K) := by
  funext e s; cases e <;> rfl

noncomputable def spec_IsCocommutative.st0 (c0 : Nat → Int) (c1 : Nat → Int) (i3 : Int) : St := ⟨sl 40 [(1, .sptr [(0, 2), (1, 520)]), (4, .int .i64 (i3))], [⟨true, .ints .i64 2 c0⟩, ⟨true, .ints .u8 520 c1⟩]⟩

noncomputable def spec_IsCocommutative.sx0_0 (c0 : Nat → Int) (c1 : Nat → Int) : St := ⟨sl 40 [], [⟨true, .ints .i64 2 c0⟩, ⟨true, .ints .u8 520 c1⟩]⟩

noncomputable def spec_IsCocommutative.k1g {ρ : Type} (N : Nat) (L0 : St → Option ρ) (kv : XE → St → Option ρ) : XE → St → Option ρ := (blockK spec_IsCocommutative.kp 0 2 (blockK spec_IsCocommutative.kp 0 1 (seqK (xcode (E52 N) ents spec_IsCocommutative.kp 0 N (cB (cB (cL (cK (cB (cA (cB (cB spec_IsCocommutative.bd)))))))) 0) (roundK spec_IsCocommutative.kp 0 0 L0 kv))))

theorem spec_IsCocommutative.k1_mix {ρ : Type} (N : Nat) (K : AV → Heap → Option ρ) (L0 : St → Option ρ) : mixK (spec_IsCocommutative.fin N K .ret) (spec_IsCocommutative.k1g N L0 (spec_IsCocommutative.k0 N K)) = (spec_IsCocommutative.k1g N L0 (spec_IsCocommutative.k0 N K)) := by
  funext e s; cases e <;> rfl

noncomputable def spec_IsCocommutative.st1 (c0 : Nat → Int) (c1 : Nat → Int) (i3 : Int) (j4 : Int) : St := ⟨sl 40 [(1, .sptr [(0, 2), (1, 520)]), (4, .int .i64 (i3)), (5, .int .i64 (j4))], [⟨true, .ints .i64 2 c0⟩, ⟨true, .ints .u8 520 c1⟩]⟩

noncomputable def spec_IsCocommutative.sx1_0 (c0 : Nat → Int) (c1 : Nat → Int) (i3 : Int) : St := ⟨sl 40 [(1, .sptr [(0, 2), (1, 520)]), (4, .int .i64 (i3))], [⟨true, .ints .i64 2 c0⟩, ⟨true, .ints .u8 520 c1⟩]⟩

noncomputable def spec_IsCocommutative.k2g {ρ : Type} (N : Nat) (L1 : St → Option ρ) (kv : XE → St → Option ρ) : XE → St → Option ρ := (blockK spec_IsCocommutative.kp 0 4 (blockK spec_IsCocommutative.kp 0 3 (seqK (xcode (E52 N) ents spec_IsCocommutative.kp 0 N (cB (cB (cL (cK (cB (cK (cA (cB (cL (cK (cB (cA (cB (cB spec_IsCocommutative.bd)))))))))))))) 2) (roundK spec_IsCocommutative.kp 0 2 L1 kv))))

theorem spec_IsCocommutative.k2_mix {ρ : Type} (N : Nat) (K : AV → Heap → Option ρ) (L0 : St → Option ρ) (L1 : St → Option ρ) : mixK (spec_IsCocommutative.fin N K .ret) (spec_IsCocommutative.k2g N L1 (spec_IsCocommutative.k1g N L0 (spec_IsCocommutative.k0 N K))) = (spec_IsCocommutative.k2g N L1 (spec_IsCocommutative.k1g N L0 (spec_IsCocommutative.k0 N K))) := by
  funext e s; cases e <;> rfl

noncomputable def spec_IsCocommutative.st2 (c0 : Nat → Int) (c1 : Nat → Int) (i3 : Int) (j4 : Int) (k5 : Int) : St := ⟨sl 40 [(1, .sptr [(0, 2), (1, 520)]), (4, .int .i64 (i3)), (5, .int .i64 (j4)), (6, .int .i64 (k5))], [⟨true, .ints .i64 2 c0⟩, ⟨true, .ints .u8 520 c1⟩]⟩

noncomputable def spec_IsCocommutative.sx2_0 (c0 : Nat → Int) (c1 : Nat → Int) (i3 : Int) (j4 : Int) : St := ⟨sl 40 [(1, .sptr [(0, 2), (1, 520)]), (4, .int .i64 (i3)), (5, .int .i64 (j4))], [⟨true, .ints .i64 2 c0⟩, ⟨true, .ints .u8 520 c1⟩]⟩

theorem spec_IsCocommutative.b2_gen {ρ : Type} (N : Nat) (K : AV → Heap → Option ρ) (L2 : St → Option ρ) (kv : XE → St → Option ρ) (c0 : Nat → Int) (c1 : Nat → Int) (i3 : Int) (j4 : Int) (k5 : Int) :
    xcode (E52 N) ents spec_IsCocommutative.kp 0 N (cL (cK (cB (cK (cA (cB (cL (cK (cB (cK (cA (cB (cL (cK (cB (cA (cB (cB spec_IsCocommutative.bd)))))))))))))))))) 4 (spec_IsCocommutative.st2 c0 c1 i3 j4 k5) (roundK spec_IsCocommutative.kp 0 4 L2 (mixK (spec_IsCocommutative.fin N K .ret) kv)) = (spec_IsCocommutative.b2 N (fun d0 d1 => K (.tup [.bool (d0), .int .i64 (d1)]) []) (fun k5 => L2 (spec_IsCocommutative.st2 c0 c1 i3 j4 k5)) (kv (.exit 4) (spec_IsCocommutative.sx2_0 c0 c1 i3 j4)) c1 i3 j4 k5) := by kernel_rfl

theorem spec_IsCocommutative.b2_eq {ρ : Type} (N : Nat) (K : AV → Heap → Option ρ) (L0 : St → Option ρ) (L1 : St → Option ρ) (L2 : St → Option ρ) (c0 : Nat → Int) (c1 : Nat → Int) (i3 : Int) (j4 : Int) (k5 : Int) :
    xcode (E52 N) ents spec_IsCocommutative.kp 0 N (cL (cK (cB (cK (cA (cB (cL (cK (cB (cK (cA (cB (cL (cK (cB (cA (cB (cB spec_IsCocommutative.bd)))))))))))))))))) 4 (spec_IsCocommutative.st2 c0 c1 i3 j4 k5) (roundK spec_IsCocommutative.kp 0 4 L2 (spec_IsCocommutative.k2g N L1 (spec_IsCocommutative.k1g N L0 (spec_IsCocommutative.k0 N K)))) = (spec_IsCocommutative.b2 N (fun d0 d1 => K (.tup [.bool (d0), .int .i64 (d1)]) []) (fun k5 => L2 (spec_IsCocommutative.st2 c0 c1 i3 j4 k5)) ((spec_IsCocommutative.k2g N L1 (spec_IsCocommutative.k1g N L0 (spec_IsCocommutative.k0 N K))) (.exit 4) (spec_IsCocommutative.sx2_0 c0 c1 i3 j4)) c1 i3 j4 k5) := by
  have h := spec_IsCocommutative.b2_gen N K L2 (spec_IsCocommutative.k2g N L1 (spec_IsCocommutative.k1g N L0 (spec_IsCocommutative.k0 N K))) c0 c1 i3 j4 k5
  rw [spec_IsCocommutative.k2_mix] at h
  exact h

theorem spec_IsCocommutative.a2_0_gen {ρ : Type} (N : Nat) (K : AV → Heap → Option ρ) (L1 : St → Option ρ) (kv : XE → St → Option ρ) (c0 : Nat → Int) (c1 : Nat → Int) (i3 : Int) (j4 : Int) :
    (spec_IsCocommutative.k2g N L1 (mixK (spec_IsCocommutative.fin N K .ret) kv)) (.exit 4) (spec_IsCocommutative.sx2_0 c0 c1 i3 j4) = (spec_IsCocommutative.a2_0 N (fun d0 d1 => K (.tup [.bool (d0), .int .i64 (d1)]) []) (fun j4 => L1 (spec_IsCocommutative.st1 c0 c1 i3 j4)) (kv (.exit 2) (spec_IsCocommutative.sx1_0 c0 c1 i3)) j4) := by kernel_rfl

theorem spec_IsCocommutative.a2_0_eq {ρ : Type} (N : Nat) (K : AV → Heap → Option ρ) (L0 : St → Option ρ) (L1 : St → Option ρ) (c0 : Nat → Int) (c1 : Nat → Int) (i3 : Int) (j4 : Int) :
    (spec_IsCocommutative.k2g N L1 (spec_IsCocommutative.k1g N L0 (spec_IsCocommutative.k0 N K))) (.exit 4) (spec_IsCocommutative.sx2_0 c0 c1 i3 j4) = (spec_IsCocommutative.a2_0 N (fun d0 d1 => K (.tup [.bool (d0), .int .i64 (d1)]) []) (fun j4 => L1 (spec_IsCocommutative.st1 c0 c1 i3 j4)) ((spec_IsCocommutative.k1g N L0 (spec_IsCocommutative.k0 N K)) (.exit 2) (spec_IsCocommutative.sx1_0 c0 c1 i3)) j4) := by
  have h := spec_IsCocommutative.a2_0_gen N K L1 (spec_IsCocommutative.k1g N L0 (spec_IsCocommutative.k0 N K)) c0 c1 i3 j4
  rw [spec_IsCocommutative.k1_mix] at h
  exact h

theorem spec_IsCocommutative.b1_gen {ρ : Type} (N : Nat) (K : AV → Heap → Option ρ) (L1 : St → Option ρ) (kv : XE → St → Option ρ) (c0 : Nat → Int) (c1 : Nat → Int) (i3 : Int) (j4 : Int) :
    xcode (E52 N) ents spec_IsCocommutative.kp 0 N (cL (cK (cB (cK (cA (cB (cL (cK (cB (cA (cB (cB spec_IsCocommutative.bd)))))))))))) 2 (spec_IsCocommutative.st1 c0 c1 i3 j4) (roundK spec_IsCocommutative.kp 0 2 L1 (mixK (spec_IsCocommutative.fin N K .ret) kv)) = (spec_IsCocommutative.b1 N (fun d0 d1 => K (.tup [.bool (d0), .int .i64 (d1)]) []) (fun k5 => xloop (xcode (E52 N) ents spec_IsCocommutative.kp 0 N (cL (cK (cB (cK (cA (cB (cL (cK (cB (cK (cA (cB (cL (cK (cB (cA (cB (cB spec_IsCocommutative.bd)))))))))))))))))) 4) spec_IsCocommutative.kp 0 4 N (spec_IsCocommutative.st2 c0 c1 i3 j4 k5) (spec_IsCocommutative.k2g N L1 (mixK (spec_IsCocommutative.fin N K .ret) kv))) (fun j4 => L1 (spec_IsCocommutative.st1 c0 c1 i3 j4)) (kv (.exit 2) (spec_IsCocommutative.sx1_0 c0 c1 i3)) j4) := by kernel_rfl

theorem spec_IsCocommutative.b1_eq {ρ : Type} (N : Nat) (K : AV → Heap → Option ρ) (L0 : St → Option ρ) (L1 : St → Option ρ) (c0 : Nat → Int) (c1 : Nat → Int) (i3 : Int) (j4 : Int) :
    xcode (E52 N) ents spec_IsCocommutative.kp 0 N (cL (cK (cB (cK (cA (cB (cL (cK (cB (cA (cB (cB spec_IsCocommutative.bd)))))))))))) 2 (spec_IsCocommutative.st1 c0 c1 i3 j4) (roundK spec_IsCocommutative.kp 0 2 L1 (spec_IsCocommutative.k1g N L0 (spec_IsCocommutative.k0 N K))) = (spec_IsCocommutative.b1 N (fun d0 d1 => K (.tup [.bool (d0), .int .i64 (d1)]) []) (fun k5 => xloop (xcode (E52 N) ents spec_IsCocommutative.kp 0 N (cL (cK (cB (cK (cA (cB (cL (cK (cB (cK (cA (cB (cL (cK (cB (cA (cB (cB spec_IsCocommutative.bd)))))))))))))))))) 4) spec_IsCocommutative.kp 0 4 N (spec_IsCocommutative.st2 c0 c1 i3 j4 k5) (spec_IsCocommutative.k2g N L1 (spec_IsCocommutative.k1g N L0 (spec_IsCocommutative.k0 N K)))) (fun j4 => L1 (spec_IsCocommutative.st1 c0 c1 i3 j4)) ((spec_IsCocommutative.k1g N L0 (spec_IsCocommutative.k0 N K)) (.exit 2) (spec_IsCocommutative.sx1_0 c0 c1 i3)) j4) := by
  have h := spec_IsCocommutative.b1_gen N K L1 (spec_IsCocommutative.k1g N L0 (spec_IsCocommutative.k0 N K)) c0 c1 i3 j4
  rw [spec_IsCocommutative.k1_mix] at h
  exact h

theorem spec_IsCocommutative.a1_0_gen {ρ : Type} (N : Nat) (K : AV → Heap → Option ρ) (L0 : St → Option ρ) (kv : XE → St → Option ρ) (c0 : Nat → Int) (c1 : Nat → Int) (i3 : Int) :
    (spec_IsCocommutative.k1g N L0 (mixK (spec_IsCocommutative.fin N K .ret) kv)) (.exit 2) (spec_IsCocommutative.sx1_0 c0 c1 i3) = (spec_IsCocommutative.a1_0 N (fun d0 d1 => K (.tup [.bool (d0), .int .i64 (d1)]) []) (fun i3 => L0 (spec_IsCocommutative.st0 c0 c1 i3)) (kv (.exit 0) (spec_IsCocommutative.sx0_0 c0 c1)) i3) := by kernel_rfl

theorem spec_IsCocommutative.a1_0_eq {ρ : Type} (N : Nat) (K : AV → Heap → Option ρ) (L0 : St → Option ρ) (c0 : Nat → Int) (c1 : Nat → Int) (i3 : Int) :
    (spec_IsCocommutative.k1g N L0 (spec_IsCocommutative.k0 N K)) (.exit 2) (spec_IsCocommutative.sx1_0 c0 c1 i3) = (spec_IsCocommutative.a1_0 N (fun d0 d1 => K (.tup [.bool (d0), .int .i64 (d1)]) []) (fun i3 => L0 (spec_IsCocommutative.st0 c0 c1 i3)) ((spec_IsCocommutative.k0 N K) (.exit 0) (spec_IsCocommutative.sx0_0 c0 c1)) i3) := by
  have h := spec_IsCocommutative.a1_0_gen N K L0 (spec_IsCocommutative.k0 N K) c0 c1 i3
  rw [spec_IsCocommutative.k0_mix] at h
  exact h

theorem spec_IsCocommutative.b0_gen {ρ : Type} (N : Nat) (K : AV → Heap → Option ρ) (L0 : St → Option ρ) (kv : XE → St → Option ρ) (c0 : Nat → Int) (c1 : Nat → Int) (i3 : Int) :
    xcode (E52 N) ents spec_IsCocommutative.kp 0 N (cL (cK (cB (cA (cB (cB spec_IsCocommutative.bd)))))) 0 (spec_IsCocommutative.st0 c0 c1 i3) (roundK spec_IsCocommutative.kp 0 0 L0 (mixK (spec_IsCocommutative.fin N K .ret) kv)) = (spec_IsCocommutative.b0 N (fun d0 d1 => K (.tup [.bool (d0), .int .i64 (d1)]) []) (fun j4 => xloop (xcode (E52 N) ents spec_IsCocommutative.kp 0 N (cL (cK (cB (cK (cA (cB (cL (cK (cB (cA (cB (cB spec_IsCocommutative.bd)))))))))))) 2) spec_IsCocommutative.kp 0 2 N (spec_IsCocommutative.st1 c0 c1 i3 j4) (spec_IsCocommutative.k1g N L0 (mixK (spec_IsCocommutative.fin N K .ret) kv))) (fun i3 => L0 (spec_IsCocommutative.st0 c0 c1 i3)) (kv (.exit 0) (spec_IsCocommutative.sx0_0 c0 c1)) i3) := by kernel_rfl

theorem spec_IsCocommutative.b0_eq {ρ : Type} (N : Nat) (K : AV → Heap → Option ρ) (L0 : St → Option ρ) (c0 : Nat → Int) (c1 : Nat → Int) (i3 : Int) :
    xcode (E52 N) ents spec_IsCocommutative.kp 0 N (cL (cK (cB (cA (cB (cB spec_IsCocommutative.bd)))))) 0 (spec_IsCocommutative.st0 c0 c1 i3) (roundK spec_IsCocommutative.kp 0 0 L0 (spec_IsCocommutative.k0 N K)) = (spec_IsCocommutative.b0 N (fun d0 d1 => K (.tup [.bool (d0), .int .i64 (d1)]) []) (fun j4 => xloop (xcode (E52 N) ents spec_IsCocommutative.kp 0 N (cL (cK (cB (cK (cA (cB (cL (cK (cB (cA (cB (cB spec_IsCocommutative.bd)))))))))))) 2) spec_IsCocommutative.kp 0 2 N (spec_IsCocommutative.st1 c0 c1 i3 j4) (spec_IsCocommutative.k1g N L0 (spec_IsCocommutative.k0 N K))) (fun i3 => L0 (spec_IsCocommutative.st0 c0 c1 i3)) ((spec_IsCocommutative.k0 N K) (.exit 0) (spec_IsCocommutative.sx0_0 c0 c1)) i3) := by
  have h := spec_IsCocommutative.b0_gen N K L0 (spec_IsCocommutative.k0 N K) c0 c1 i3
  rw [spec_IsCocommutative.k0_mix] at h
  exact h

theorem spec_IsCocommutative.a0_0_eq {ρ : Type} (N : Nat) (K : AV → Heap → Option ρ) (c0 : Nat → Int) (c1 : Nat → Int) :
    (spec_IsCocommutative.k0 N K) (.exit 0) (spec_IsCocommutative.sx0_0 c0 c1) = (spec_IsCocommutative.a0_0 N (fun d0 d1 => K (.tup [.bool (d0), .int .i64 (d1)]) [])) := by kernel_rfl

theorem spec_IsCocommutative.l2_eq {ρ : Type} (N : Nat) (K : AV → Heap → Option ρ) (L0 : St → Option ρ) (L1 : St → Option ρ) (c0 : Nat → Int) (c1 : Nat → Int) (i3 : Int) (j4 : Int) :
    ∀ (m : Nat) (k5 : Int), xloop (xcode (E52 N) ents spec_IsCocommutative.kp 0 N (cL (cK (cB (cK (cA (cB (cL (cK (cB (cK (cA (cB (cL (cK (cB (cA (cB (cB spec_IsCocommutative.bd)))))))))))))))))) 4) spec_IsCocommutative.kp 0 4 m (spec_IsCocommutative.st2 c0 c1 i3 j4 k5) (spec_IsCocommutative.k2g N L1 (spec_IsCocommutative.k1g N L0 (spec_IsCocommutative.k0 N K))) = (spec_IsCocommutative.l2 N (fun d0 d1 => K (.tup [.bool (d0), .int .i64 (d1)]) []) c1 i3 j4 ((spec_IsCocommutative.k2g N L1 (spec_IsCocommutative.k1g N L0 (spec_IsCocommutative.k0 N K))) (.exit 4) (spec_IsCocommutative.sx2_0 c0 c1 i3 j4)) m k5) := by
  intro m
  induction m with
  | zero => intros; rfl
  | succ m ih =>
    intro k5
    refine (spec_IsCocommutative.b2_eq N K L0 L1 (fun s => xloop (xcode (E52 N) ents spec_IsCocommutative.kp 0 N (cL (cK (cB (cK (cA (cB (cL (cK (cB (cK (cA (cB (cL (cK (cB (cA (cB (cB spec_IsCocommutative.bd)))))))))))))))))) 4) spec_IsCocommutative.kp 0 4 m s (spec_IsCocommutative.k2g N L1 (spec_IsCocommutative.k1g N L0 (spec_IsCocommutative.k0 N K)))) c0 c1 i3 j4 k5).trans ?_
    simp only [ih]
    kernel_rfl

theorem spec_IsCocommutative.l1_eq {ρ : Type} (N : Nat) (K : AV → Heap → Option ρ) (L0 : St → Option ρ) (c0 : Nat → Int) (c1 : Nat → Int) (i3 : Int) :
    ∀ (m : Nat) (j4 : Int), xloop (xcode (E52 N) ents spec_IsCocommutative.kp 0 N (cL (cK (cB (cK (cA (cB (cL (cK (cB (cA (cB (cB spec_IsCocommutative.bd)))))))))))) 2) spec_IsCocommutative.kp 0 2 m (spec_IsCocommutative.st1 c0 c1 i3 j4) (spec_IsCocommutative.k1g N L0 (spec_IsCocommutative.k0 N K)) = (spec_IsCocommutative.l1 N (fun d0 d1 => K (.tup [.bool (d0), .int .i64 (d1)]) []) c1 i3 ((spec_IsCocommutative.k1g N L0 (spec_IsCocommutative.k0 N K)) (.exit 2) (spec_IsCocommutative.sx1_0 c0 c1 i3)) m j4) := by
  intro m
  induction m with
  | zero => intros; rfl
  | succ m ih =>
    intro j4
    refine (spec_IsCocommutative.b1_eq N K L0 (fun s => xloop (xcode (E52 N) ents spec_IsCocommutative.kp 0 N (cL (cK (cB (cK (cA (cB (cL (cK (cB (cA (cB (cB spec_IsCocommutative.bd)))))))))))) 2) spec_IsCocommutative.kp 0 2 m s (spec_IsCocommutative.k1g N L0 (spec_IsCocommutative.k0 N K))) c0 c1 i3 j4).trans ?_
    simp only [ih, spec_IsCocommutative.l2_eq, spec_IsCocommutative.a2_0_eq]
    kernel_rfl

theorem spec_IsCocommutative.l0_eq {ρ : Type} (N : Nat) (K : AV → Heap → Option ρ) (c0 : Nat → Int) (c1 : Nat → Int) :
    ∀ (m : Nat) (i3 : Int), xloop (xcode (E52 N) ents spec_IsCocommutative.kp 0 N (cL (cK (cB (cA (cB (cB spec_IsCocommutative.bd)))))) 0) spec_IsCocommutative.kp 0 0 m (spec_IsCocommutative.st0 c0 c1 i3) (spec_IsCocommutative.k0 N K) = (spec_IsCocommutative.l0 N (fun d0 d1 => K (.tup [.bool (d0), .int .i64 (d1)]) []) c1 ((spec_IsCocommutative.k0 N K) (.exit 0) (spec_IsCocommutative.sx0_0 c0 c1)) m i3) := by
  intro m
  induction m with
  | zero => intros; rfl
  | succ m ih =>
    intro i3
    refine (spec_IsCocommutative.b0_eq N K (fun s => xloop (xcode (E52 N) ents spec_IsCocommutative.kp 0 N (cL (cK (cB (cA (cB (cB spec_IsCocommutative.bd)))))) 0) spec_IsCocommutative.kp 0 0 m s (spec_IsCocommutative.k0 N K)) c0 c1 i3).trans ?_
    simp only [ih, spec_IsCocommutative.l1_eq, spec_IsCocommutative.a1_0_eq]
    kernel_rfl

theorem spec_IsCocommutative.s_eq {ρ : Type} (N : Nat) (K : AV → Heap → Option ρ) (c0 : Nat → Int) (c1 : Nat → Int) :
    xbody (E52 N) ents spec_IsCocommutative.kp N Go.Proofs.Try.f26 spec_IsCocommutative.bd [.agg [⟨.i64, 2, c0⟩, ⟨.u8, 520, c1⟩]] [] K = (spec_IsCocommutative.s N (fun d0 d1 => K (.tup [.bool (d0), .int .i64 (d1)]) []) (fun i3 => xloop (xcode (E52 N) ents spec_IsCocommutative.kp 0 N (cL (cK (cB (cA (cB (cB spec_IsCocommutative.bd)))))) 0) spec_IsCocommutative.kp 0 0 N (spec_IsCocommutative.st0 c0 c1 i3) (spec_IsCocommutative.k0 N K)) c0 c1) := by kernel_rfl

theorem spec_IsCocommutative.eq {ρ : Type} (N : Nat) (K : AV → Heap → Option ρ) (c0 : Nat → Int) (c1 : Nat → Int) :
    xbody (E52 N) ents spec_IsCocommutative.kp N Go.Proofs.Try.f26 spec_IsCocommutative.bd [.agg [⟨.i64, 2, c0⟩, ⟨.u8, 520, c1⟩]] [] K = (spec_IsCocommutative N (fun d0 d1 => K (.tup [.bool (d0), .int .i64 (d1)]) []) c0 c1) := by
  refine (spec_IsCocommutative.s_eq N K c0 c1).trans ?_
  simp only [spec_IsCocommutative.l0_eq, spec_IsCocommutative.a0_0_eq]
  kernel_rfl

noncomputable def spec_IsCocommutative.en (N : Nat) (ρ : Type) : List AV → Heap → (AV → Heap → Option ρ) → Option ρ
  | [.agg [⟨.i64, 2, c0⟩, ⟨.u8, 520, c1⟩]], [], K => (spec_IsCocommutative N (fun d0 d1 => K (.tup [.bool (d0), .int .i64 (d1)]) []) c0 c1)
  | _, _, _ => none

theorem spec_IsCocommutative.en_ok (N : Nat) (hE : EnvOk (E52 N) ents) (ρ : Type) (args : List AV) (sh : Heap) (K : AV → Heap → Option ρ) (r : ρ) (h : spec_IsCocommutative.en N ρ args sh K = some r) : ∃ v sh', K v sh' = some r ∧ FnOk (E52 N).P 26 args sh v sh' := by
  unfold spec_IsCocommutative.en at h
  split at h
  · exact fn_ok hE (kp := spec_IsCocommutative.kp) (N := N) Go.Proofs.Try.func26 (c := spec_IsCocommutative.bd) (by kernel_rfl) ((spec_IsCocommutative.eq N _ _ _).trans h)
  · cases h

noncomputable def E53 (N : Nat) : Env := (E52 N).add 26 (spec_IsCocommutative.en N)

theorem E53_ok (N : Nat) : EnvOk (E53 N) ents := Env.add_ok (E52_ok N) (spec_IsCocommutative.en_ok N (E52_ok N))

noncomputable def impl_transposed.kp : Keeps := ⟨[(0, [0, 2, 3, 7], 3), (2, [0, 2, 3, 4, 7, 10], 3)], [(0, [2, 3], 3), (2, [0, 2, 3, 7], 3)]⟩

noncomputable def impl_transposed.bd : Code := bodyOf Go.Proofs.Try.f66

noncomputable def impl_transposed.fin {ρ : Type} (N : Nat) (K : AV → Heap → Option ρ) (g0 : Nat → Int) : XE → St → Option ρ := finK (E53 N) Go.Proofs.Try.f66 [⟨false, .ints .u8 64 g0⟩] K

noncomputable def impl_transposed.k0 {ρ : Type} (N : Nat) (K : AV → Heap → Option ρ) (g0 : Nat → Int) : XE → St → Option ρ := (blockK impl_transposed.kp 1 0 (seqK (xcode (E53 N) ents impl_transposed.kp 1 N (cB (cB (cB impl_transposed.bd))) 0) (impl_transposed.fin N K g0)))

theorem impl_transposed.k0_mix {ρ : Type} (N : Nat) (K : AV → Heap → Option ρ) (g0 : Nat → Int) : mixK (impl_transposed.fin N K g0 .ret) (impl_transposed.k0 N K g0) = (impl_transposed.k0 N K g0) := by
  funext e s; cases e <;> rfl

noncomputable def impl_transposed.st0 (g0 : Nat → Int) (x1 : Int) (g2 : Nat → Int) : St := ⟨sl 27 [(0, .sptr [(0, 64)]), (2, .sptr [(1, 64)]), (3, .sptr [(2, 64)]), (7, .int .i64 (x1))], [⟨false, .ints .u8 64 g0⟩, ⟨true, .ints .u8 64 (fun _ => 0)⟩, ⟨true, .ints .u8 64 g2⟩]⟩

noncomputable def impl_transposed.sx0_0 (g0 : Nat → Int) (o6 : Nat → Int) : St := ⟨sl 27 [(2, .sptr [(1, 64)]), (3, .sptr [(2, 64)])], [⟨false, .ints .u8 64 g0⟩, ⟨true, .ints .u8 64 (fun _ => 0)⟩, ⟨true, .ints .u8 64 o6⟩]⟩

noncomputable def impl_transposed.k1g {ρ : Type} (N : Nat) (L0 : St → Option ρ) (kv : XE → St → Option ρ) : XE → St → Option ρ := (blockK impl_transposed.kp 1 2 (blockK impl_transposed.kp 1 1 (seqK (xcode (E53 N) ents impl_transposed.kp 1 N (cB (cB (cB (cL (cK (cB (cA (cB (cB impl_transposed.bd))))))))) 0) (roundK impl_transposed.kp 1 0 L0 kv))))

theorem impl_transposed.k1_mix {ρ : Type} (N : Nat) (K : AV → Heap → Option ρ) (L0 : St → Option ρ) (g0 : Nat → Int) : mixK (impl_transposed.fin N K g0 .ret) (impl_transposed.k1g N L0 (impl_transposed.k0 N K g0)) = (impl_transposed.k1g N L0 (impl_transposed.k0 N K g0)) := by
  funext e s; cases e <;> rfl

noncomputable def impl_transposed.st1 (g0 : Nat → Int) (x1 : Int) (x3 : Int) (g4 : Nat → Int) : St := ⟨sl 27 [(0, .sptr [(0, 64)]), (2, .sptr [(1, 64)]), (3, .sptr [(2, 64)]), (4, .int .i64 (x1)), (7, .int .i64 (x1)), (10, .int .i64 (x3))], [⟨false, .ints .u8 64 g0⟩, ⟨true, .ints .u8 64 (fun _ => 0)⟩, ⟨true, .ints .u8 64 g4⟩]⟩

noncomputable def impl_transposed.sx1_0 (g0 : Nat → Int) (x1 : Int) (o5 : Nat → Int) : St := ⟨sl 27 [(0, .sptr [(0, 64)]), (2, .sptr [(1, 64)]), (3, .sptr [(2, 64)]), (7, .int .i64 (x1))], [⟨false, .ints .u8 64 g0⟩, ⟨true, .ints .u8 64 (fun _ => 0)⟩, ⟨true, .ints .u8 64 o5⟩]⟩

theorem impl_transposed.b1_gen {ρ : Type} (N : Nat) (K : AV → Heap → Option ρ) (L1 : St → Option ρ) (kv : XE → St → Option ρ) (g0 : Nat → Int) (x1 : Int) (x3 : Int) (g4 : Nat → Int) :
    xcode (E53 N) ents impl_transposed.kp 1 N (cL (cK (cB (cB (cK (cA (cB (cB (cL (cK (cB (cA (cB (cB impl_transposed.bd)))))))))))))) 2 (impl_transposed.st1 g0 x1 x3 g4) (roundK impl_transposed.kp 1 2 L1 (mixK (impl_transposed.fin N K g0 .ret) kv)) = (impl_transposed.b1 N (fun d0 => K (.agg [⟨.u8, 64, d0⟩]) [⟨false, .ints .u8 64 g0⟩]) (fun x3 g4 => L1 (impl_transposed.st1 g0 x1 x3 g4)) (fun o5 => kv (.exit 2) (impl_transposed.sx1_0 g0 x1 o5)) g0 x1 x3 g4) := by kernel_rfl

theorem impl_transposed.b1_eq {ρ : Type} (N : Nat) (K : AV → Heap → Option ρ) (L0 : St → Option ρ) (L1 : St → Option ρ) (g0 : Nat → Int) (x1 : Int) (x3 : Int) (g4 : Nat → Int) :
    xcode (E53 N) ents impl_transposed.kp 1 N (cL (cK (cB (cB (cK (cA (cB (cB (cL (cK (cB (cA (cB (cB impl_transposed.bd)))))))))))))) 2 (impl_transposed.st1 g0 x1 x3 g4) (roundK impl_transposed.kp 1 2 L1 (impl_transposed.k1g N L0 (impl_transposed.k0 N K g0))) = (impl_transposed.b1 N (fun d0 => K (.agg [⟨.u8, 64, d0⟩]) [⟨false, .ints .u8 64 g0⟩]) (fun x3 g4 => L1 (impl_transposed.st1 g0 x1 x3 g4)) (fun o5 => (impl_transposed.k1g N L0 (impl_transposed.k0 N K g0)) (.exit 2) (impl_transposed.sx1_0 g0 x1 o5)) g0 x1 x3 g4) := by
  have h := impl_transposed.b1_gen N K L1 (impl_transposed.k1g N L0 (impl_transposed.k0 N K g0)) g0 x1 x3 g4
  rw [impl_transposed.k1_mix] at h
  exact h

theorem impl_transposed.a1_0_gen {ρ : Type} (N : Nat) (K : AV → Heap → Option ρ) (L0 : St → Option ρ) (kv : XE → St → Option ρ) (g0 : Nat → Int) (x1 : Int) (o5 : Nat → Int) :
    (impl_transposed.k1g N L0 (mixK (impl_transposed.fin N K g0 .ret) kv)) (.exit 2) (impl_transposed.sx1_0 g0 x1 o5) = (impl_transposed.a1_0 N (fun d0 => K (.agg [⟨.u8, 64, d0⟩]) [⟨false, .ints .u8 64 g0⟩]) (fun x1 g2 => L0 (impl_transposed.st0 g0 x1 g2)) (fun o6 => kv (.exit 0) (impl_transposed.sx0_0 g0 o6)) x1 o5) := by kernel_rfl

theorem impl_transposed.a1_0_eq {ρ : Type} (N : Nat) (K : AV → Heap → Option ρ) (L0 : St → Option ρ) (g0 : Nat → Int) (x1 : Int) (o5 : Nat → Int) :
    (impl_transposed.k1g N L0 (impl_transposed.k0 N K g0)) (.exit 2) (impl_transposed.sx1_0 g0 x1 o5) = (impl_transposed.a1_0 N (fun d0 => K (.agg [⟨.u8, 64, d0⟩]) [⟨false, .ints .u8 64 g0⟩]) (fun x1 g2 => L0 (impl_transposed.st0 g0 x1 g2)) (fun o6 => (impl_transposed.k0 N K g0) (.exit 0) (impl_transposed.sx0_0 g0 o6)) x1 o5) := by
  have h := impl_transposed.a1_0_gen N K L0 (impl_transposed.k0 N K g0) g0 x1 o5
  rw [impl_transposed.k0_mix] at h
  exact h

theorem impl_transposed.b0_gen {ρ : Type} (N : Nat) (K : AV → Heap → Option ρ) (L0 : St → Option ρ) (kv : XE → St → Option ρ) (g0 : Nat → Int) (x1 : Int) (g2 : Nat → Int) :
    xcode (E53 N) ents impl_transposed.kp 1 N (cL (cK (cB (cA (cB (cB impl_transposed.bd)))))) 0 (impl_transposed.st0 g0 x1 g2) (roundK impl_transposed.kp 1 0 L0 (mixK (impl_transposed.fin N K g0 .ret) kv)) = (impl_transposed.b0 N (fun d0 => K (.agg [⟨.u8, 64, d0⟩]) [⟨false, .ints .u8 64 g0⟩]) (fun x3 g4 => xloop (xcode (E53 N) ents impl_transposed.kp 1 N (cL (cK (cB (cB (cK (cA (cB (cB (cL (cK (cB (cA (cB (cB impl_transposed.bd)))))))))))))) 2) impl_transposed.kp 1 2 N (impl_transposed.st1 g0 x1 x3 g4) (impl_transposed.k1g N L0 (mixK (impl_transposed.fin N K g0 .ret) kv))) (fun x1 g2 => L0 (impl_transposed.st0 g0 x1 g2)) (fun o6 => kv (.exit 0) (impl_transposed.sx0_0 g0 o6)) x1 g2) := by kernel_rfl

theorem impl_transposed.b0_eq {ρ : Type} (N : Nat) (K : AV → Heap → Option ρ) (L0 : St → Option ρ) (g0 : Nat → Int) (x1 : Int) (g2 : Nat → Int) :
    xcode (E53 N) ents impl_transposed.kp 1 N (cL (cK (cB (cA (cB (cB impl_transposed.bd)))))) 0 (impl_transposed.st0 g0 x1 g2) (roundK impl_transposed.kp 1 0 L0 (impl_transposed.k0 N K g0)) = (impl_transposed.b0 N (fun d0 => K (.agg [⟨.u8, 64, d0⟩]) [⟨false, .ints .u8 64 g0⟩]) (fun x3 g4 => xloop (xcode (E53 N) ents impl_transposed.kp 1 N (cL (cK (cB (cB (cK (cA (cB (cB (cL (cK (cB (cA (cB (cB impl_transposed.bd)))))))))))))) 2) impl_transposed.kp 1 2 N (impl_transposed.st1 g0 x1 x3 g4) (impl_transposed.k1g N L0 (impl_transposed.k0 N K g0))) (fun x1 g2 => L0 (impl_transposed.st0 g0 x1 g2)) (fun o6 => (impl_transposed.k0 N K g0) (.exit 0) (impl_transposed.sx0_0 g0 o6)) x1 g2) := by
  have h := impl_transposed.b0_gen N K L0 (impl_transposed.k0 N K g0) g0 x1 g2
  rw [impl_transposed.k0_mix] at h
  exact h

theorem impl_transposed.a0_0_eq {ρ : Type} (N : Nat) (K : AV → Heap → Option ρ) (g0 : Nat → Int) (o6 : Nat → Int) :
    (impl_transposed.k0 N K g0) (.exit 0) (impl_transposed.sx0_0 g0 o6) = (impl_transposed.a0_0 N (fun d0 => K (.agg [⟨.u8, 64, d0⟩]) [⟨false, .ints .u8 64 g0⟩]) o6) := by kernel_rfl

theorem impl_transposed.l1_eq {ρ : Type} (N : Nat) (K : AV → Heap → Option ρ) (L0 : St → Option ρ) (g0 : Nat → Int) (x1 : Int) :
    ∀ (m : Nat) (x3 : Int) (g4 : Nat → Int), xloop (xcode (E53 N) ents impl_transposed.kp 1 N (cL (cK (cB (cB (cK (cA (cB (cB (cL (cK (cB (cA (cB (cB impl_transposed.bd)))))))))))))) 2) impl_transposed.kp 1 2 m (impl_transposed.st1 g0 x1 x3 g4) (impl_transposed.k1g N L0 (impl_transposed.k0 N K g0)) = (impl_transposed.l1 N (fun d0 => K (.agg [⟨.u8, 64, d0⟩]) [⟨false, .ints .u8 64 g0⟩]) g0 x1 (fun o5 => (impl_transposed.k1g N L0 (impl_transposed.k0 N K g0)) (.exit 2) (impl_transposed.sx1_0 g0 x1 o5)) m x3 g4) := by
  intro m
  induction m with
  | zero => intros; rfl
  | succ m ih =>
    intro x3 g4
    refine (impl_transposed.b1_eq N K L0 (fun s => xloop (xcode (E53 N) ents impl_transposed.kp 1 N (cL (cK (cB (cB (cK (cA (cB (cB (cL (cK (cB (cA (cB (cB impl_transposed.bd)))))))))))))) 2) impl_transposed.kp 1 2 m s (impl_transposed.k1g N L0 (impl_transposed.k0 N K g0))) g0 x1 x3 g4).trans ?_
    simp only [ih]
    kernel_rfl

theorem impl_transposed.l0_eq {ρ : Type} (N : Nat) (K : AV → Heap → Option ρ) (g0 : Nat → Int) :
    ∀ (m : Nat) (x1 : Int) (g2 : Nat → Int), xloop (xcode (E53 N) ents impl_transposed.kp 1 N (cL (cK (cB (cA (cB (cB impl_transposed.bd)))))) 0) impl_transposed.kp 1 0 m (impl_transposed.st0 g0 x1 g2) (impl_transposed.k0 N K g0) = (impl_transposed.l0 N (fun d0 => K (.agg [⟨.u8, 64, d0⟩]) [⟨false, .ints .u8 64 g0⟩]) g0 (fun o6 => (impl_transposed.k0 N K g0) (.exit 0) (impl_transposed.sx0_0 g0 o6)) m x1 g2) := by
  intro m
  induction m with
  | zero => intros; rfl
  | succ m ih =>
    intro x1 g2
    refine (impl_transposed.b0_eq N K (fun s => xloop (xcode (E53 N) ents impl_transposed.kp 1 N (cL (cK (cB (cA (cB (cB impl_transposed.bd)))))) 0) impl_transposed.kp 1 0 m s (impl_transposed.k0 N K g0)) g0 x1 g2).trans ?_
    simp only [ih, impl_transposed.l1_eq, impl_transposed.a1_0_eq]
    kernel_rfl

theorem impl_transposed.s_eq {ρ : Type} (N : Nat) (K : AV → Heap → Option ρ) (g0 : Nat → Int) :
    xbody (E53 N) ents impl_transposed.kp N Go.Proofs.Try.f66 impl_transposed.bd [.sptr [(0, 64)]] [⟨false, .ints .u8 64 g0⟩] K = (impl_transposed.s N (fun d0 => K (.agg [⟨.u8, 64, d0⟩]) [⟨false, .ints .u8 64 g0⟩]) (fun x1 g2 => xloop (xcode (E53 N) ents impl_transposed.kp 1 N (cL (cK (cB (cA (cB (cB impl_transposed.bd)))))) 0) impl_transposed.kp 1 0 N (impl_transposed.st0 g0 x1 g2) (impl_transposed.k0 N K g0))) := by kernel_rfl

theorem impl_transposed.eq {ρ : Type} (N : Nat) (K : AV → Heap → Option ρ) (g0 : Nat → Int) :
    xbody (E53 N) ents impl_transposed.kp N Go.Proofs.Try.f66 impl_transposed.bd [.sptr [(0, 64)]] [⟨false, .ints .u8 64 g0⟩] K = (impl_transposed N (fun d0 => K (.agg [⟨.u8, 64, d0⟩]) [⟨false, .ints .u8 64 g0⟩]) g0) := by
  refine (impl_transposed.s_eq N K g0).trans ?_
  simp only [impl_transposed.l0_eq, impl_transposed.a0_0_eq]
  kernel_rfl

noncomputable def impl_transposed.en (N : Nat) (ρ : Type) : List AV → Heap → (AV → Heap → Option ρ) → Option ρ
  | [.sptr [(0, 64)]], [⟨false, .ints .u8 64 g0⟩], K => (impl_transposed N (fun d0 => K (.agg [⟨.u8, 64, d0⟩]) [⟨false, .ints .u8 64 g0⟩]) g0)
  | _, _, _ => none

theorem impl_transposed.en_ok (N : Nat) (hE : EnvOk (E53 N) ents) (ρ : Type) (args : List AV) (sh : Heap) (K : AV → Heap → Option ρ) (r : ρ) (h : impl_transposed.en N ρ args sh K = some r) : ∃ v sh', K v sh' = some r ∧ FnOk (E53 N).P 66 args sh v sh' := by
  unfold impl_transposed.en at h
  split at h
  · exact fn_ok hE (kp := impl_transposed.kp) (N := N) Go.Proofs.Try.func66 (c := impl_transposed.bd) (by kernel_rfl) ((impl_transposed.eq N _ _).trans h)
  · cases h

noncomputable def E54 (N : Nat) : Env := (E53 N).add 66 (impl_transposed.en N)

theorem E54_ok (N : Nat) : EnvOk (E54 N) ents := Env.add_ok (E53_ok N) (impl_transposed.en_ok N (E53_ok N))

noncomputable def impl_IsCocommutative.kp : Keeps := ⟨[(0, [1, 10], 2)], [(0, [], 2)]⟩

noncomputable def impl_IsCocommutative.bd : Code := bodyOf Go.Proofs.Try.f27

noncomputable def impl_IsCocommutative.fin {ρ : Type} (N : Nat) (K : AV → Heap → Option ρ) : XE → St → Option ρ := finK (E54 N) Go.Proofs.Try.f27 [] K

noncomputable def impl_IsCocommutative.k0 {ρ : Type} (N : Nat) (K : AV → Heap → Option ρ) : XE → St → Option ρ := (blockK impl_IsCocommutative.kp 0 0 (seqK (xcode (E54 N) ents impl_IsCocommutative.kp 0 N (cB (cB (cB impl_IsCocommutative.bd))) 0) (impl_IsCocommutative.fin N K)))

theorem impl_IsCocommutative.k0_mix {ρ : Type} (N : Nat) (K : AV → Heap → Option ρ) : mixK (impl_IsCocommutative.fin N K .ret) (impl_IsCocommutative.k0 N K) = (impl_IsCocommutative.k0 N K) := by
  funext e s; cases e <;> rfl

noncomputable def impl_IsCocommutative.st0 (c0 : Nat → Int) (c1 : Nat → Int) (x3 : Int) : St := ⟨sl 23 [(1, .sptr [(0, 2), (1, 520)]), (10, .int .i64 (x3))], [⟨true, .ints .i64 2 c0⟩, ⟨true, .ints .u8 520 c1⟩]⟩

noncomputable def impl_IsCocommutative.sx0_0 (c0 : Nat → Int) (c1 : Nat → Int) : St := ⟨sl 23 [], [⟨true, .ints .i64 2 c0⟩, ⟨true, .ints .u8 520 c1⟩]⟩

theorem impl_IsCocommutative.b0_gen {ρ : Type} (N : Nat) (K : AV → Heap → Option ρ) (L0 : St → Option ρ) (kv : XE → St → Option ρ) (c0 : Nat → Int) (c1 : Nat → Int) (x3 : Int) :
    xcode (E54 N) ents impl_IsCocommutative.kp 0 N (cL (cK (cB (cA (cB (cB impl_IsCocommutative.bd)))))) 0 (impl_IsCocommutative.st0 c0 c1 x3) (roundK impl_IsCocommutative.kp 0 0 L0 (mixK (impl_IsCocommutative.fin N K .ret) kv)) = (impl_IsCocommutative.b0 N (fun d0 d1 => K (.tup [.bool (d0), .int .i64 (d1)]) []) (fun x3 => L0 (impl_IsCocommutative.st0 c0 c1 x3)) (kv (.exit 0) (impl_IsCocommutative.sx0_0 c0 c1)) c1 x3) := by kernel_rfl

theorem impl_IsCocommutative.b0_eq {ρ : Type} (N : Nat) (K : AV → Heap → Option ρ) (L0 : St → Option ρ) (c0 : Nat → Int) (c1 : Nat → Int) (x3 : Int) :
    xcode (E54 N) ents impl_IsCocommutative.kp 0 N (cL (cK (cB (cA (cB (cB impl_IsCocommutative.bd)))))) 0 (impl_IsCocommutative.st0 c0 c1 x3) (roundK impl_IsCocommutative.kp 0 0 L0 (impl_IsCocommutative.k0 N K)) = (impl_IsCocommutative.b0 N (fun d0 d1 => K (.tup [.bool (d0), .int .i64 (d1)]) []) (fun x3 => L0 (impl_IsCocommutative.st0 c0 c1 x3)) ((impl_IsCocommutative.k0 N K) (.exit 0) (impl_IsCocommutative.sx0_0 c0 c1)) c1 x3) := by
  have h := impl_IsCocommutative.b0_gen N K L0 (impl_IsCocommutative.k0 N K) c0 c1 x3
  rw [impl_IsCocommutative.k0_mix] at h
  exact h

theorem impl_IsCocommutative.a0_0_eq {ρ : Type} (N : Nat) (K : AV → Heap → Option ρ) (c0 : Nat → Int) (c1 : Nat → Int) :
    (impl_IsCocommutative.k0 N K) (.exit 0) (impl_IsCocommutative.sx0_0 c0 c1) = (impl_IsCocommutative.a0_0 N (fun d0 d1 => K (.tup [.bool (d0), .int .i64 (d1)]) [])) := by kernel_rfl

theorem impl_IsCocommutative.l0_eq {ρ : Type} (N : Nat) (K : AV → Heap → Option ρ) (c0 : Nat → Int) (c1 : Nat → Int) :
    ∀ (m : Nat) (x3 : Int), xloop (xcode (E54 N) ents impl_IsCocommutative.kp 0 N (cL (cK (cB (cA (cB (cB impl_IsCocommutative.bd)))))) 0) impl_IsCocommutative.kp 0 0 m (impl_IsCocommutative.st0 c0 c1 x3) (impl_IsCocommutative.k0 N K) = (impl_IsCocommutative.l0 N (fun d0 d1 => K (.tup [.bool (d0), .int .i64 (d1)]) []) c1 ((impl_IsCocommutative.k0 N K) (.exit 0) (impl_IsCocommutative.sx0_0 c0 c1)) m x3) := by
  intro m
  induction m with
  | zero => intros; rfl
  | succ m ih =>
    intro x3
    refine (impl_IsCocommutative.b0_eq N K (fun s => xloop (xcode (E54 N) ents impl_IsCocommutative.kp 0 N (cL (cK (cB (cA (cB (cB impl_IsCocommutative.bd)))))) 0) impl_IsCocommutative.kp 0 0 m s (impl_IsCocommutative.k0 N K)) c0 c1 x3).trans ?_
    simp only [ih]
    kernel_rfl

theorem impl_IsCocommutative.s_eq {ρ : Type} (N : Nat) (K : AV → Heap → Option ρ) (c0 : Nat → Int) (c1 : Nat → Int) :
    xbody (E54 N) ents impl_IsCocommutative.kp N Go.Proofs.Try.f27 impl_IsCocommutative.bd [.agg [⟨.i64, 2, c0⟩, ⟨.u8, 520, c1⟩]] [] K = (impl_IsCocommutative.s N (fun d0 d1 => K (.tup [.bool (d0), .int .i64 (d1)]) []) (fun x3 => xloop (xcode (E54 N) ents impl_IsCocommutative.kp 0 N (cL (cK (cB (cA (cB (cB impl_IsCocommutative.bd)))))) 0) impl_IsCocommutative.kp 0 0 N (impl_IsCocommutative.st0 c0 c1 x3) (impl_IsCocommutative.k0 N K)) c0 c1) := by kernel_rfl

theorem impl_IsCocommutative.eq {ρ : Type} (N : Nat) (K : AV → Heap → Option ρ) (c0 : Nat → Int) (c1 : Nat → Int) :
    xbody (E54 N) ents impl_IsCocommutative.kp N Go.Proofs.Try.f27 impl_IsCocommutative.bd [.agg [⟨.i64, 2, c0⟩, ⟨.u8, 520, c1⟩]] [] K = (impl_IsCocommutative N (fun d0 d1 => K (.tup [.bool (d0), .int .i64 (d1)]) []) c0 c1) := by
  refine (impl_IsCocommutative.s_eq N K c0 c1).trans ?_
  simp only [impl_IsCocommutative.l0_eq, impl_IsCocommutative.a0_0_eq]
  kernel_rfl

noncomputable def impl_IsCocommutative.en (N : Nat) (ρ : Type) : List AV → Heap → (AV → Heap → Option ρ) → Option ρ
  | [.agg [⟨.i64, 2, c0⟩, ⟨.u8, 520, c1⟩]], [], K => (impl_IsCocommutative N (fun d0 d1 => K (.tup [.bool (d0), .int .i64 (d1)]) []) c0 c1)
  | _, _, _ => none

theorem impl_IsCocommutative.en_ok (N : Nat) (hE : EnvOk (E54 N) ents) (ρ : Type) (args : List AV) (sh : Heap) (K : AV → Heap → Option ρ) (r : ρ) (h : impl_IsCocommutative.en N ρ args sh K = some r) : ∃ v sh', K v sh' = some r ∧ FnOk (E54 N).P 27 args sh v sh' := by
  unfold impl_IsCocommutative.en at h
  split at h
  · exact fn_ok hE (kp := impl_IsCocommutative.kp) (N := N) Go.Proofs.Try.func27 (c := impl_IsCocommutative.bd) (by kernel_rfl) ((impl_IsCocommutative.eq N _ _ _).trans h)
  · cases h

noncomputable def E55 (N : Nat) : Env := (E54 N).add 27 (impl_IsCocommutative.en N)

theorem E55_ok (N : Nat) : EnvOk (E55 N) ents := Env.add_ok (E54_ok N) (impl_IsCocommutative.en_ok N (E54_ok N))

noncomputable def laws_FnExactIsCocommutative.kp : Keeps := ⟨[], []⟩

noncomputable def laws_FnExactIsCocommutative.bd : Code := bodyOf Go.Proofs.Try.f6

noncomputable def laws_FnExactIsCocommutative.fin {ρ : Type} (N : Nat) (K : AV → Heap → Option ρ) : XE → St → Option ρ := finK (E55 N) Go.Proofs.Try.f6 [] K

theorem laws_FnExactIsCocommutative.eq {ρ : Type} (N : Nat) (K : AV → Heap → Option ρ) (aC0 : Nat → Int) (aC1 : Nat → Int) :
    xbody (E55 N) ents laws_FnExactIsCocommutative.kp N Go.Proofs.Try.f6 laws_FnExactIsCocommutative.bd [.agg [⟨.i64, 2, aC0⟩, ⟨.u8, 520, aC1⟩]] [] K = (laws_FnExactIsCocommutative N (fun d0 => K (.bool (d0)) []) aC0 aC1) := by kernel_rfl

noncomputable def laws_FnExactIsCocommutative.en (N : Nat) (ρ : Type) : List AV → Heap → (AV → Heap → Option ρ) → Option ρ
  | [.agg [⟨.i64, 2, aC0⟩, ⟨.u8, 520, aC1⟩]], [], K => (laws_FnExactIsCocommutative N (fun d0 => K (.bool (d0)) []) aC0 aC1)
  | _, _, _ => none

theorem laws_FnExactIsCocommutative.en_ok (N : Nat) (hE : EnvOk (E55 N) ents) (ρ : Type) (args : List AV) (sh : Heap) (K : AV → Heap → Option ρ) (r : ρ) (h : laws_FnExactIsCocommutative.en N ρ args sh K = some r) : ∃ v sh', K v sh' = some r ∧ FnOk (E55 N).P 6 args sh v sh' := by
  unfold laws_FnExactIsCocommutative.en at h
  split at h
  · exact fn_ok hE (kp := laws_FnExactIsCocommutative.kp) (N := N) Go.Proofs.Try.func6 (c := laws_FnExactIsCocommutative.bd) (by kernel_rfl) ((laws_FnExactIsCocommutative.eq N _ _ _).trans h)
  · cases h

noncomputable def E56 (N : Nat) : Env := (E55 N).add 6 (laws_FnExactIsCocommutative.en N)

theorem E56_ok (N : Nat) : EnvOk (E56 N) ents := Env.add_ok (E55_ok N) (laws_FnExactIsCocommutative.en_ok N (E55_ok N))

noncomputable def spec_l02Coproduct.kp : Keeps := ⟨[(0, [2, 3, 4, 5, 6], 5), (2, [2, 3, 4, 5, 6, 7], 5)], [(0, [4, 5], 5), (2, [2, 3, 4, 5, 6], 5)]⟩

noncomputable def spec_l02Coproduct.bd : Code := bodyOf Go.Proofs.Try.f67

noncomputable def spec_l02Coproduct.fin {ρ : Type} (N : Nat) (K : AV → Heap → Option ρ) : XE → St → Option ρ := finK (E56 N) Go.Proofs.Try.f67 [] K

noncomputable def spec_l02Coproduct.k0 {ρ : Type} (N : Nat) (K : AV → Heap → Option ρ) : XE → St → Option ρ := (blockK spec_l02Coproduct.kp 0 0 (seqK (xcode (E56 N) ents spec_l02Coproduct.kp 0 N (cB (cB (cB spec_l02Coproduct.bd))) 0) (spec_l02Coproduct.fin N K)))

theorem spec_l02Coproduct.k0_mix {ρ : Type} (N : Nat) (K : AV → Heap → Option ρ) : mixK (spec_l02Coproduct.fin N K .ret) (spec_l02Coproduct.k0 N K) = (spec_l02Coproduct.k0 N K) := by
  funext e s; cases e <;> rfl

noncomputable def spec_l02Coproduct.st0 (c0 : Nat → Int) (c1 : Nat → Int) (v2 : Nat → Int) (i3 : Int) (g4 : Nat → Int) : St := ⟨sl 40 [(2, .sptr [(0, 2), (1, 520)]), (3, .sptr [(2, 8)]), (4, .sptr [(3, 64)]), (5, .sptr [(4, 64)]), (6, .int .i64 (i3))], [⟨true, .ints .i64 2 c0⟩, ⟨true, .ints .u8 520 c1⟩, ⟨true, .ints .u8 8 v2⟩, ⟨true, .ints .u8 64 (fun _ => 0)⟩, ⟨true, .ints .u8 64 g4⟩]⟩

noncomputable def spec_l02Coproduct.sx0_0 (c0 : Nat → Int) (c1 : Nat → Int) (v2 : Nat → Int) (o9 : Nat → Int) : St := ⟨sl 40 [(4, .sptr [(3, 64)]), (5, .sptr [(4, 64)])], [⟨true, .ints .i64 2 c0⟩, ⟨true, .ints .u8 520 c1⟩, ⟨true, .ints .u8 8 v2⟩, ⟨true, .ints .u8 64 (fun _ => 0)⟩, ⟨true, .ints .u8 64 o9⟩]⟩

noncomputable def spec_l02Coproduct.k1g {ρ : Type} (N : Nat) (L0 : St → Option ρ) (kv : XE → St → Option ρ) : XE → St → Option ρ := (blockK spec_l02Coproduct.kp 0 2 (blockK spec_l02Coproduct.kp 0 1 (seqK (xcode (E56 N) ents spec_l02Coproduct.kp 0 N (cB (cB (cL (cK (cB (cA (cB (cB spec_l02Coproduct.bd)))))))) 0) (roundK spec_l02Coproduct.kp 0 0 L0 kv))))

theorem spec_l02Coproduct.k1_mix {ρ : Type} (N : Nat) (K : AV → Heap → Option ρ) (L0 : St → Option ρ) : mixK (spec_l02Coproduct.fin N K .ret) (spec_l02Coproduct.k1g N L0 (spec_l02Coproduct.k0 N K)) = (spec_l02Coproduct.k1g N L0 (spec_l02Coproduct.k0 N K)) := by
  funext e s; cases e <;> rfl

noncomputable def spec_l02Coproduct.st1 (c0 : Nat → Int) (c1 : Nat → Int) (v2 : Nat → Int) (i3 : Int) (j5 : Int) (g6 : Nat → Int) : St := ⟨sl 40 [(2, .sptr [(0, 2), (1, 520)]), (3, .sptr [(2, 8)]), (4, .sptr [(3, 64)]), (5, .sptr [(4, 64)]), (6, .int .i64 (i3)), (7, .int .i64 (j5))], [⟨true, .ints .i64 2 c0⟩, ⟨true, .ints .u8 520 c1⟩, ⟨true, .ints .u8 8 v2⟩, ⟨true, .ints .u8 64 (fun _ => 0)⟩, ⟨true, .ints .u8 64 g6⟩]⟩

noncomputable def spec_l02Coproduct.sx1_0 (c0 : Nat → Int) (c1 : Nat → Int) (v2 : Nat → Int) (i3 : Int) (o8 : Nat → Int) : St := ⟨sl 40 [(2, .sptr [(0, 2), (1, 520)]), (3, .sptr [(2, 8)]), (4, .sptr [(3, 64)]), (5, .sptr [(4, 64)]), (6, .int .i64 (i3))], [⟨true, .ints .i64 2 c0⟩, ⟨true, .ints .u8 520 c1⟩, ⟨true, .ints .u8 8 v2⟩, ⟨true, .ints .u8 64 (fun _ => 0)⟩, ⟨true, .ints .u8 64 o8⟩]⟩

theorem spec_l02Coproduct.b1_gen {ρ : Type} (N : Nat) (K : AV → Heap → Option ρ) (L1 : St → Option ρ) (kv : XE → St → Option ρ) (c0 : Nat → Int) (c1 : Nat → Int) (v2 : Nat → Int) (i3 : Int) (j5 : Int) (g6 : Nat → Int) :
    xcode (E56 N) ents spec_l02Coproduct.kp 0 N (cL (cK (cB (cK (cA (cB (cL (cK (cB (cA (cB (cB spec_l02Coproduct.bd)))))))))))) 2 (spec_l02Coproduct.st1 c0 c1 v2 i3 j5 g6) (roundK spec_l02Coproduct.kp 0 2 L1 (mixK (spec_l02Coproduct.fin N K .ret) kv)) = (spec_l02Coproduct.b1 N (fun d0 => K (.agg [⟨.u8, 64, d0⟩]) []) (fun j5 g6 => L1 (spec_l02Coproduct.st1 c0 c1 v2 i3 j5 g6)) (fun o8 => kv (.exit 2) (spec_l02Coproduct.sx1_0 c0 c1 v2 i3 o8)) c0 c1 v2 i3 j5 g6) := by kernel_rfl

theorem spec_l02Coproduct.b1_eq {ρ : Type} (N : Nat) (K : AV → Heap → Option ρ) (L0 : St → Option ρ) (L1 : St → Option ρ) (c0 : Nat → Int) (c1 : Nat → Int) (v2 : Nat → Int) (i3 : Int) (j5 : Int) (g6 : Nat → Int) :
    xcode (E56 N) ents spec_l02Coproduct.kp 0 N (cL (cK (cB (cK (cA (cB (cL (cK (cB (cA (cB (cB spec_l02Coproduct.bd)))))))))))) 2 (spec_l02Coproduct.st1 c0 c1 v2 i3 j5 g6) (roundK spec_l02Coproduct.kp 0 2 L1 (spec_l02Coproduct.k1g N L0 (spec_l02Coproduct.k0 N K))) = (spec_l02Coproduct.b1 N (fun d0 => K (.agg [⟨.u8, 64, d0⟩]) []) (fun j5 g6 => L1 (spec_l02Coproduct.st1 c0 c1 v2 i3 j5 g6)) (fun o8 => (spec_l02Coproduct.k1g N L0 (spec_l02Coproduct.k0 N K)) (.exit 2) (spec_l02Coproduct.sx1_0 c0 c1 v2 i3 o8)) c0 c1 v2 i3 j5 g6) := by
  have h := spec_l02Coproduct.b1_gen N K L1 (spec_l02Coproduct.k1g N L0 (spec_l02Coproduct.k0 N K)) c0 c1 v2 i3 j5 g6
  rw [spec_l02Coproduct.k1_mix] at h
  exact h

theorem spec_l02Coproduct.a1_0_gen {ρ : Type} (N : Nat) (K : AV → Heap → Option ρ) (L0 : St → Option ρ) (kv : XE → St → Option ρ) (c0 : Nat → Int) (c1 : Nat → Int) (v2 : Nat → Int) (i3 : Int) (o8 : Nat → Int) :
    (spec_l02Coproduct.k1g N L0 (mixK (spec_l02Coproduct.fin N K .ret) kv)) (.exit 2) (spec_l02Coproduct.sx1_0 c0 c1 v2 i3 o8) = (spec_l02Coproduct.a1_0 N (fun d0 => K (.agg [⟨.u8, 64, d0⟩]) []) (fun i3 g4 => L0 (spec_l02Coproduct.st0 c0 c1 v2 i3 g4)) (fun o9 => kv (.exit 0) (spec_l02Coproduct.sx0_0 c0 c1 v2 o9)) i3 o8) := by kernel_rfl

theorem spec_l02Coproduct.a1_0_eq {ρ : Type} (N : Nat) (K : AV → Heap → Option ρ) (L0 : St → Option ρ) (c0 : Nat → Int) (c1 : Nat → Int) (v2 : Nat → Int) (i3 : Int) (o8 : Nat → Int) :
    (spec_l02Coproduct.k1g N L0 (spec_l02Coproduct.k0 N K)) (.exit 2) (spec_l02Coproduct.sx1_0 c0 c1 v2 i3 o8) = (spec_l02Coproduct.a1_0 N (fun d0 => K (.agg [⟨.u8, 64, d0⟩]) []) (fun i3 g4 => L0 (spec_l02Coproduct.st0 c0 c1 v2 i3 g4)) (fun o9 => (spec_l02Coproduct.k0 N K) (.exit 0) (spec_l02Coproduct.sx0_0 c0 c1 v2 o9)) i3 o8) := by
  have h := spec_l02Coproduct.a1_0_gen N K L0 (spec_l02Coproduct.k0 N K) c0 c1 v2 i3 o8
  rw [spec_l02Coproduct.k0_mix] at h
  exact h

theorem spec_l02Coproduct.b0_gen {ρ : Type} (N : Nat) (K : AV → Heap → Option ρ) (L0 : St → Option ρ) (kv : XE → St → Option ρ) (c0 : Nat → Int) (c1 : Nat → Int) (v2 : Nat → Int) (i3 : Int) (g4 : Nat → Int) :
    xcode (E56 N) ents spec_l02Coproduct.kp 0 N (cL (cK (cB (cA (cB (cB spec_l02Coproduct.bd)))))) 0 (spec_l02Coproduct.st0 c0 c1 v2 i3 g4) (roundK spec_l02Coproduct.kp 0 0 L0 (mixK (spec_l02Coproduct.fin N K .ret) kv)) = (spec_l02Coproduct.b0 N (fun d0 => K (.agg [⟨.u8, 64, d0⟩]) []) (fun j5 g6 => xloop (xcode (E56 N) ents spec_l02Coproduct.kp 0 N (cL (cK (cB (cK (cA (cB (cL (cK (cB (cA (cB (cB spec_l02Coproduct.bd)))))))))))) 2) spec_l02Coproduct.kp 0 2 N (spec_l02Coproduct.st1 c0 c1 v2 i3 j5 g6) (spec_l02Coproduct.k1g N L0 (mixK (spec_l02Coproduct.fin N K .ret) kv))) (fun i3 g4 => L0 (spec_l02Coproduct.st0 c0 c1 v2 i3 g4)) (fun o9 => kv (.exit 0) (spec_l02Coproduct.sx0_0 c0 c1 v2 o9)) c0 i3 g4) := by kernel_rfl

theorem spec_l02Coproduct.b0_eq {ρ : Type} (N : Nat) (K : AV → Heap → Option ρ) (L0 : St → Option ρ) (c0 : Nat → Int) (c1 : Nat → Int) (v2 : Nat → Int) (i3 : Int) (g4 : Nat → Int) :
    xcode (E56 N) ents spec_l02Coproduct.kp 0 N (cL (cK (cB (cA (cB (cB spec_l02Coproduct.bd)))))) 0 (spec_l02Coproduct.st0 c0 c1 v2 i3 g4) (roundK spec_l02Coproduct.kp 0 0 L0 (spec_l02Coproduct.k0 N K)) = (spec_l02Coproduct.b0 N (fun d0 => K (.agg [⟨.u8, 64, d0⟩]) []) (fun j5 g6 => xloop (xcode (E56 N) ents spec_l02Coproduct.kp 0 N (cL (cK (cB (cK (cA (cB (cL (cK (cB (cA (cB (cB spec_l02Coproduct.bd)))))))))))) 2) spec_l02Coproduct.kp 0 2 N (spec_l02Coproduct.st1 c0 c1 v2 i3 j5 g6) (spec_l02Coproduct.k1g N L0 (spec_l02Coproduct.k0 N K))) (fun i3 g4 => L0 (spec_l02Coproduct.st0 c0 c1 v2 i3 g4)) (fun o9 => (spec_l02Coproduct.k0 N K) (.exit 0) (spec_l02Coproduct.sx0_0 c0 c1 v2 o9)) c0 i3 g4) := by
  have h := spec_l02Coproduct.b0_gen N K L0 (spec_l02Coproduct.k0 N K) c0 c1 v2 i3 g4
  rw [spec_l02Coproduct.k0_mix] at h
  exact h

theorem spec_l02Coproduct.a0_0_eq {ρ : Type} (N : Nat) (K : AV → Heap → Option ρ) (c0 : Nat → Int) (c1 : Nat → Int) (v2 : Nat → Int) (o9 : Nat → Int) :
    (spec_l02Coproduct.k0 N K) (.exit 0) (spec_l02Coproduct.sx0_0 c0 c1 v2 o9) = (spec_l02Coproduct.a0_0 N (fun d0 => K (.agg [⟨.u8, 64, d0⟩]) []) o9) := by kernel_rfl

theorem spec_l02Coproduct.l1_eq {ρ : Type} (N : Nat) (K : AV → Heap → Option ρ) (L0 : St → Option ρ) (c0 : Nat → Int) (c1 : Nat → Int) (v2 : Nat → Int) (i3 : Int) :
    ∀ (m : Nat) (j5 : Int) (g6 : Nat → Int), xloop (xcode (E56 N) ents spec_l02Coproduct.kp 0 N (cL (cK (cB (cK (cA (cB (cL (cK (cB (cA (cB (cB spec_l02Coproduct.bd)))))))))))) 2) spec_l02Coproduct.kp 0 2 m (spec_l02Coproduct.st1 c0 c1 v2 i3 j5 g6) (spec_l02Coproduct.k1g N L0 (spec_l02Coproduct.k0 N K)) = (spec_l02Coproduct.l1 N (fun d0 => K (.agg [⟨.u8, 64, d0⟩]) []) c0 c1 v2 i3 (fun o8 => (spec_l02Coproduct.k1g N L0 (spec_l02Coproduct.k0 N K)) (.exit 2) (spec_l02Coproduct.sx1_0 c0 c1 v2 i3 o8)) m j5 g6) := by
  intro m
  induction m with
  | zero => intros; rfl
  | succ m ih =>
    intro j5 g6
    refine (spec_l02Coproduct.b1_eq N K L0 (fun s => xloop (xcode (E56 N) ents spec_l02Coproduct.kp 0 N (cL (cK (cB (cK (cA (cB (cL (cK (cB (cA (cB (cB spec_l02Coproduct.bd)))))))))))) 2) spec_l02Coproduct.kp 0 2 m s (spec_l02Coproduct.k1g N L0 (spec_l02Coproduct.k0 N K))) c0 c1 v2 i3 j5 g6).trans ?_
    simp only [ih]
    kernel_rfl

theorem spec_l02Coproduct.l0_eq {ρ : Type} (N : Nat) (K : AV → Heap → Option ρ) (c0 : Nat → Int) (c1 : Nat → Int) (v2 : Nat → Int) :
    ∀ (m : Nat) (i3 : Int) (g4 : Nat → Int), xloop (xcode (E56 N) ents spec_l02Coproduct.kp 0 N (cL (cK (cB (cA (cB (cB spec_l02Coproduct.bd)))))) 0) spec_l02Coproduct.kp 0 0 m (spec_l02Coproduct.st0 c0 c1 v2 i3 g4) (spec_l02Coproduct.k0 N K) = (spec_l02Coproduct.l0 N (fun d0 => K (.agg [⟨.u8, 64, d0⟩]) []) c0 c1 v2 (fun o9 => (spec_l02Coproduct.k0 N K) (.exit 0) (spec_l02Coproduct.sx0_0 c0 c1 v2 o9)) m i3 g4) := by
  intro m
  induction m with
  | zero => intros; rfl
  | succ m ih =>
    intro i3 g4
    refine (spec_l02Coproduct.b0_eq N K (fun s => xloop (xcode (E56 N) ents spec_l02Coproduct.kp 0 N (cL (cK (cB (cA (cB (cB spec_l02Coproduct.bd)))))) 0) spec_l02Coproduct.kp 0 0 m s (spec_l02Coproduct.k0 N K)) c0 c1 v2 i3 g4).trans ?_
    simp only [ih, spec_l02Coproduct.l1_eq, spec_l02Coproduct.a1_0_eq]
    kernel_rfl

theorem spec_l02Coproduct.s_eq {ρ : Type} (N : Nat) (K : AV → Heap → Option ρ) (c0 : Nat → Int) (c1 : Nat → Int) (v2 : Nat → Int) :
    xbody (E56 N) ents spec_l02Coproduct.kp N Go.Proofs.Try.f67 spec_l02Coproduct.bd [.agg [⟨.i64, 2, c0⟩, ⟨.u8, 520, c1⟩], .agg [⟨.u8, 8, v2⟩]] [] K = (spec_l02Coproduct.s N (fun d0 => K (.agg [⟨.u8, 64, d0⟩]) []) (fun i3 g4 => xloop (xcode (E56 N) ents spec_l02Coproduct.kp 0 N (cL (cK (cB (cA (cB (cB spec_l02Coproduct.bd)))))) 0) spec_l02Coproduct.kp 0 0 N (spec_l02Coproduct.st0 c0 c1 v2 i3 g4) (spec_l02Coproduct.k0 N K))) := by kernel_rfl

theorem spec_l02Coproduct.eq {ρ : Type} (N : Nat) (K : AV → Heap → Option ρ) (c0 : Nat → Int) (c1 : Nat → Int) (v2 : Nat → Int) :
    xbody (E56 N) ents spec_l02Coproduct.kp N Go.Proofs.Try.f67 spec_l02Coproduct.bd [.agg [⟨.i64, 2, c0⟩, ⟨.u8, 520, c1⟩], .agg [⟨.u8, 8, v2⟩]] [] K = (spec_l02Coproduct N (fun d0 => K (.agg [⟨.u8, 64, d0⟩]) []) c0 c1 v2) := by
  refine (spec_l02Coproduct.s_eq N K c0 c1 v2).trans ?_
  simp only [spec_l02Coproduct.l0_eq, spec_l02Coproduct.a0_0_eq]
  kernel_rfl

noncomputable def spec_l02Coproduct.en (N : Nat) (ρ : Type) : List AV → Heap → (AV → Heap → Option ρ) → Option ρ
  | [.agg [⟨.i64, 2, c0⟩, ⟨.u8, 520, c1⟩], .agg [⟨.u8, 8, v2⟩]], [], K => (spec_l02Coproduct N (fun d0 => K (.agg [⟨.u8, 64, d0⟩]) []) c0 c1 v2)
  | _, _, _ => none

theorem spec_l02Coproduct.en_ok (N : Nat) (hE : EnvOk (E56 N) ents) (ρ : Type) (args : List AV) (sh : Heap) (K : AV → Heap → Option ρ) (r : ρ) (h : spec_l02Coproduct.en N ρ args sh K = some r) : ∃ v sh', K v sh' = some r ∧ FnOk (E56 N).P 67 args sh v sh' := by
  unfold spec_l02Coproduct.en at h
  split at h
  · exact fn_ok hE (kp := spec_l02Coproduct.kp) (N := N) Go.Proofs.Try.func67 (c := spec_l02Coproduct.bd) (by kernel_rfl) ((spec_l02Coproduct.eq N _ _ _ _).trans h)
  · cases h

noncomputable def E57 (N : Nat) : Env := (E56 N).add 67 (spec_l02Coproduct.en N)

theorem E57_ok (N : Nat) : EnvOk (E57 N) ents := Env.add_ok (E56_ok N) (spec_l02Coproduct.en_ok N (E56_ok N))

noncomputable def spec_CoproductIn.kp : Keeps := ⟨[], []⟩

noncomputable def spec_CoproductIn.bd : Code := bodyOf Go.Proofs.Try.f28

noncomputable def spec_CoproductIn.fin {ρ : Type} (N : Nat) (K : AV → Heap → Option ρ) : XE → St → Option ρ := finK (E57 N) Go.Proofs.Try.f28 [] K

theorem spec_CoproductIn.eq {ρ : Type} (N : Nat) (K : AV → Heap → Option ρ) (c0 : Nat → Int) (c1 : Nat → Int) (v2 : Nat → Int) :
    xbody (E57 N) ents spec_CoproductIn.kp N Go.Proofs.Try.f28 spec_CoproductIn.bd [.agg [⟨.i64, 2, c0⟩, ⟨.u8, 520, c1⟩], .agg [⟨.u8, 8, v2⟩]] [] K = (spec_CoproductIn N (fun d0 d1 => K (.tup [.agg [⟨.u8, 64, d0⟩], .int .i64 (d1)]) []) c0 c1 v2) := by kernel_rfl

noncomputable def spec_CoproductIn.en (N : Nat) (ρ : Type) : List AV → Heap → (AV → Heap → Option ρ) → Option ρ
  | [.agg [⟨.i64, 2, c0⟩, ⟨.u8, 520, c1⟩], .agg [⟨.u8, 8, v2⟩]], [], K => (spec_CoproductIn N (fun d0 d1 => K (.tup [.agg [⟨.u8, 64, d0⟩], .int .i64 (d1)]) []) c0 c1 v2)
  | _, _, _ => none

theorem spec_CoproductIn.en_ok (N : Nat) (hE : EnvOk (E57 N) ents) (ρ : Type) (args : List AV) (sh : Heap) (K : AV → Heap → Option ρ) (r : ρ) (h : spec_CoproductIn.en N ρ args sh K = some r) : ∃ v sh', K v sh' = some r ∧ FnOk (E57 N).P 28 args sh v sh' := by
  unfold spec_CoproductIn.en at h
  split at h
  · exact fn_ok hE (kp := spec_CoproductIn.kp) (N := N) Go.Proofs.Try.func28 (c := spec_CoproductIn.bd) (by kernel_rfl) ((spec_CoproductIn.eq N _ _ _ _).trans h)
  · cases h

noncomputable def E58 (N : Nat) : Env := (E57 N).add 28 (spec_CoproductIn.en N)

theorem E58_ok (N : Nat) : EnvOk (E58 N) ents := Env.add_ok (E57_ok N) (spec_CoproductIn.en_ok N (E57_ok N))

noncomputable def impl_Coalgebra_coproduct.kp : Keeps := ⟨[(0, [0, 4, 5, 6, 13, 14], 6), (2, [0, 4, 5, 6, 7, 8, 13, 14, 19, 20], 6)], [(0, [4, 6], 6), (2, [0, 4, 5, 6, 13, 14], 6)]⟩

noncomputable def impl_Coalgebra_coproduct.bd : Code := bodyOf Go.Proofs.Try.f68

noncomputable def impl_Coalgebra_coproduct.fin {ρ : Type} (N : Nat) (K : AV → Heap → Option ρ) (g1 : Nat → Int) (g2 : Nat → Int) : XE → St → Option ρ := finK (E58 N) Go.Proofs.Try.f68 [⟨false, .ints .i64 2 g1⟩, ⟨false, .ints .u8 520 g2⟩] K

noncomputable def impl_Coalgebra_coproduct.k0 {ρ : Type} (N : Nat) (K : AV → Heap → Option ρ) (g1 : Nat → Int) (g2 : Nat → Int) : XE → St → Option ρ := (blockK impl_Coalgebra_coproduct.kp 2 0 (seqK (xcode (E58 N) ents impl_Coalgebra_coproduct.kp 2 N (cB (cB (cB impl_Coalgebra_coproduct.bd))) 0) (impl_Coalgebra_coproduct.fin N K g1 g2)))

theorem impl_Coalgebra_coproduct.k0_mix {ρ : Type} (N : Nat) (K : AV → Heap → Option ρ) (g1 : Nat → Int) (g2 : Nat → Int) : mixK (impl_Coalgebra_coproduct.fin N K g1 g2 .ret) (impl_Coalgebra_coproduct.k0 N K g1 g2) = (impl_Coalgebra_coproduct.k0 N K g1 g2) := by
  funext e s; cases e <;> rfl

noncomputable def impl_Coalgebra_coproduct.st0 (v0 : Nat → Int) (g1 : Nat → Int) (g2 : Nat → Int) (r3 : Nat → Int) (x4 : Int) (g5 : Nat → Int) : St := ⟨sl 40 [(0, .sptr [(0, 2), (1, 520)]), (4, .sptr [(3, 64)]), (5, .sptr [(4, 2)]), (6, .sptr [(5, 64)]), (13, .agg [⟨.u8, 8, v0⟩]), (14, .int .i64 (x4))], [⟨false, .ints .i64 2 g1⟩, ⟨false, .ints .u8 520 g2⟩, ⟨true, .ints .u8 8 v0⟩, ⟨true, .ints .u8 64 (fun _ => 0)⟩, ⟨true, .ints .i64 2 r3⟩, ⟨true, .ints .u8 64 g5⟩]⟩

noncomputable def impl_Coalgebra_coproduct.sx0_0 (v0 : Nat → Int) (g1 : Nat → Int) (g2 : Nat → Int) (r3 : Nat → Int) (o10 : Nat → Int) : St := ⟨sl 40 [(4, .sptr [(3, 64)]), (6, .sptr [(5, 64)])], [⟨false, .ints .i64 2 g1⟩, ⟨false, .ints .u8 520 g2⟩, ⟨true, .ints .u8 8 v0⟩, ⟨true, .ints .u8 64 (fun _ => 0)⟩, ⟨true, .ints .i64 2 r3⟩, ⟨true, .ints .u8 64 o10⟩]⟩

noncomputable def impl_Coalgebra_coproduct.k1g {ρ : Type} (N : Nat) (L0 : St → Option ρ) (kv : XE → St → Option ρ) : XE → St → Option ρ := (blockK impl_Coalgebra_coproduct.kp 2 2 (blockK impl_Coalgebra_coproduct.kp 2 1 (seqK (xcode (E58 N) ents impl_Coalgebra_coproduct.kp 2 N (cB (cB (cB (cL (cK (cB (cA (cB (cB impl_Coalgebra_coproduct.bd))))))))) 0) (roundK impl_Coalgebra_coproduct.kp 2 0 L0 kv))))

theorem impl_Coalgebra_coproduct.k1_mix {ρ : Type} (N : Nat) (K : AV → Heap → Option ρ) (L0 : St → Option ρ) (g1 : Nat → Int) (g2 : Nat → Int) : mixK (impl_Coalgebra_coproduct.fin N K g1 g2 .ret) (impl_Coalgebra_coproduct.k1g N L0 (impl_Coalgebra_coproduct.k0 N K g1 g2)) = (impl_Coalgebra_coproduct.k1g N L0 (impl_Coalgebra_coproduct.k0 N K g1 g2)) := by
  funext e s; cases e <;> rfl

noncomputable def impl_Coalgebra_coproduct.st1 (v0 : Nat → Int) (g1 : Nat → Int) (g2 : Nat → Int) (r3 : Nat → Int) (x4 : Int) (x6 : Int) (g7 : Nat → Int) : St := ⟨sl 40 [(0, .sptr [(0, 2), (1, 520)]), (4, .sptr [(3, 64)]), (5, .sptr [(4, 2)]), (6, .sptr [(5, 64)]), (7, .int .i64 (x4)), (8, .int .u8 ((v0 x4.toNat))), (13, .agg [⟨.u8, 8, v0⟩]), (14, .int .i64 (x4)), (19, .int .i64 ((r3 1))), (20, .int .i64 (x6))], [⟨false, .ints .i64 2 g1⟩, ⟨false, .ints .u8 520 g2⟩, ⟨true, .ints .u8 8 v0⟩, ⟨true, .ints .u8 64 (fun _ => 0)⟩, ⟨true, .ints .i64 2 r3⟩, ⟨true, .ints .u8 64 g7⟩]⟩

noncomputable def impl_Coalgebra_coproduct.sx1_0 (v0 : Nat → Int) (g1 : Nat → Int) (g2 : Nat → Int) (r3 : Nat → Int) (x4 : Int) (o9 : Nat → Int) : St := ⟨sl 40 [(0, .sptr [(0, 2), (1, 520)]), (4, .sptr [(3, 64)]), (5, .sptr [(4, 2)]), (6, .sptr [(5, 64)]), (13, .agg [⟨.u8, 8, v0⟩]), (14, .int .i64 (x4))], [⟨false, .ints .i64 2 g1⟩, ⟨false, .ints .u8 520 g2⟩, ⟨true, .ints .u8 8 v0⟩, ⟨true, .ints .u8 64 (fun _ => 0)⟩, ⟨true, .ints .i64 2 r3⟩, ⟨true, .ints .u8 64 o9⟩]⟩

theorem impl_Coalgebra_coproduct.b1_gen {ρ : Type} (N : Nat) (K : AV → Heap → Option ρ) (L1 : St → Option ρ) (kv : XE → St → Option ρ) (v0 : Nat → Int) (g1 : Nat → Int) (g2 : Nat → Int) (r3 : Nat → Int) (x4 : Int) (x6 : Int) (g7 : Nat → Int) :
    xcode (E58 N) ents impl_Coalgebra_coproduct.kp 2 N (cL (cK (cB (cB (cK (cA (cB (cB (cL (cK (cB (cA (cB (cB impl_Coalgebra_coproduct.bd)))))))))))))) 2 (impl_Coalgebra_coproduct.st1 v0 g1 g2 r3 x4 x6 g7) (roundK impl_Coalgebra_coproduct.kp 2 2 L1 (mixK (impl_Coalgebra_coproduct.fin N K g1 g2 .ret) kv)) = (impl_Coalgebra_coproduct.b1 N (fun d0 => K (.agg [⟨.u8, 64, d0⟩]) [⟨false, .ints .i64 2 g1⟩, ⟨false, .ints .u8 520 g2⟩]) (fun x6 g7 => L1 (impl_Coalgebra_coproduct.st1 v0 g1 g2 r3 x4 x6 g7)) (fun o9 => kv (.exit 2) (impl_Coalgebra_coproduct.sx1_0 v0 g1 g2 r3 x4 o9)) v0 g2 r3 x4 x6 g7) := by kernel_rfl

theorem impl_Coalgebra_coproduct.b1_eq {ρ : Type} (N : Nat) (K : AV → Heap → Option ρ) (L0 : St → Option ρ) (L1 : St → Option ρ) (v0 : Nat → Int) (g1 : Nat → Int) (g2 : Nat → Int) (r3 : Nat → Int) (x4 : Int) (x6 : Int) (g7 : Nat → Int) :
    xcode (E58 N) ents impl_Coalgebra_coproduct.kp 2 N (cL (cK (cB (cB (cK (cA (cB (cB (cL (cK (cB (cA (cB (cB impl_Coalgebra_coproduct.bd)))))))))))))) 2 (impl_Coalgebra_coproduct.st1 v0 g1 g2 r3 x4 x6 g7) (roundK impl_Coalgebra_coproduct.kp 2 2 L1 (impl_Coalgebra_coproduct.k1g N L0 (impl_Coalgebra_coproduct.k0 N K g1 g2))) = (impl_Coalgebra_coproduct.b1 N (fun d0 => K (.agg [⟨.u8, 64, d0⟩]) [⟨false, .ints .i64 2 g1⟩, ⟨false, .ints .u8 520 g2⟩]) (fun x6 g7 => L1 (impl_Coalgebra_coproduct.st1 v0 g1 g2 r3 x4 x6 g7)) (fun o9 => (impl_Coalgebra_coproduct.k1g N L0 (impl_Coalgebra_coproduct.k0 N K g1 g2)) (.exit 2) (impl_Coalgebra_coproduct.sx1_0 v0 g1 g2 r3 x4 o9)) v0 g2 r3 x4 x6 g7) := by
  have h := impl_Coalgebra_coproduct.b1_gen N K L1 (impl_Coalgebra_coproduct.k1g N L0 (impl_Coalgebra_coproduct.k0 N K g1 g2)) v0 g1 g2 r3 x4 x6 g7
  rw [impl_Coalgebra_coproduct.k1_mix] at h
  exact h

theorem impl_Coalgebra_coproduct.a1_0_gen {ρ : Type} (N : Nat) (K : AV → Heap → Option ρ) (L0 : St → Option ρ) (kv : XE → St → Option ρ) (v0 : Nat → Int) (g1 : Nat → Int) (g2 : Nat → Int) (r3 : Nat → Int) (x4 : Int) (o9 : Nat → Int) :
    (impl_Coalgebra_coproduct.k1g N L0 (mixK (impl_Coalgebra_coproduct.fin N K g1 g2 .ret) kv)) (.exit 2) (impl_Coalgebra_coproduct.sx1_0 v0 g1 g2 r3 x4 o9) = (impl_Coalgebra_coproduct.a1_0 N (fun d0 => K (.agg [⟨.u8, 64, d0⟩]) [⟨false, .ints .i64 2 g1⟩, ⟨false, .ints .u8 520 g2⟩]) (fun x4 g5 => L0 (impl_Coalgebra_coproduct.st0 v0 g1 g2 r3 x4 g5)) (fun o10 => kv (.exit 0) (impl_Coalgebra_coproduct.sx0_0 v0 g1 g2 r3 o10)) x4 o9) := by kernel_rfl

theorem impl_Coalgebra_coproduct.a1_0_eq {ρ : Type} (N : Nat) (K : AV → Heap → Option ρ) (L0 : St → Option ρ) (v0 : Nat → Int) (g1 : Nat → Int) (g2 : Nat → Int) (r3 : Nat → Int) (x4 : Int) (o9 : Nat → Int) :
    (impl_Coalgebra_coproduct.k1g N L0 (impl_Coalgebra_coproduct.k0 N K g1 g2)) (.exit 2) (impl_Coalgebra_coproduct.sx1_0 v0 g1 g2 r3 x4 o9) = (impl_Coalgebra_coproduct.a1_0 N (fun d0 => K (.agg [⟨.u8, 64, d0⟩]) [⟨false, .ints .i64 2 g1⟩, ⟨false, .ints .u8 520 g2⟩]) (fun x4 g5 => L0 (impl_Coalgebra_coproduct.st0 v0 g1 g2 r3 x4 g5)) (fun o10 => (impl_Coalgebra_coproduct.k0 N K g1 g2) (.exit 0) (impl_Coalgebra_coproduct.sx0_0 v0 g1 g2 r3 o10)) x4 o9) := by
  have h := impl_Coalgebra_coproduct.a1_0_gen N K L0 (impl_Coalgebra_coproduct.k0 N K g1 g2) v0 g1 g2 r3 x4 o9
  rw [impl_Coalgebra_coproduct.k0_mix] at h
  exact h

theorem impl_Coalgebra_coproduct.b0_gen {ρ : Type} (N : Nat) (K : AV → Heap → Option ρ) (L0 : St → Option ρ) (kv : XE → St → Option ρ) (v0 : Nat → Int) (g1 : Nat → Int) (g2 : Nat → Int) (r3 : Nat → Int) (x4 : Int) (g5 : Nat → Int) :
    xcode (E58 N) ents impl_Coalgebra_coproduct.kp 2 N (cL (cK (cB (cA (cB (cB impl_Coalgebra_coproduct.bd)))))) 0 (impl_Coalgebra_coproduct.st0 v0 g1 g2 r3 x4 g5) (roundK impl_Coalgebra_coproduct.kp 2 0 L0 (mixK (impl_Coalgebra_coproduct.fin N K g1 g2 .ret) kv)) = (impl_Coalgebra_coproduct.b0 N (fun d0 => K (.agg [⟨.u8, 64, d0⟩]) [⟨false, .ints .i64 2 g1⟩, ⟨false, .ints .u8 520 g2⟩]) (fun x6 g7 => xloop (xcode (E58 N) ents impl_Coalgebra_coproduct.kp 2 N (cL (cK (cB (cB (cK (cA (cB (cB (cL (cK (cB (cA (cB (cB impl_Coalgebra_coproduct.bd)))))))))))))) 2) impl_Coalgebra_coproduct.kp 2 2 N (impl_Coalgebra_coproduct.st1 v0 g1 g2 r3 x4 x6 g7) (impl_Coalgebra_coproduct.k1g N L0 (mixK (impl_Coalgebra_coproduct.fin N K g1 g2 .ret) kv))) (fun x4 g5 => L0 (impl_Coalgebra_coproduct.st0 v0 g1 g2 r3 x4 g5)) (fun o10 => kv (.exit 0) (impl_Coalgebra_coproduct.sx0_0 v0 g1 g2 r3 o10)) x4 g5) := by kernel_rfl

theorem impl_Coalgebra_coproduct.b0_eq {ρ : Type} (N : Nat) (K : AV → Heap → Option ρ) (L0 : St → Option ρ) (v0 : Nat → Int) (g1 : Nat → Int) (g2 : Nat → Int) (r3 : Nat → Int) (x4 : Int) (g5 : Nat → Int) :
    xcode (E58 N) ents impl_Coalgebra_coproduct.kp 2 N (cL (cK (cB (cA (cB (cB impl_Coalgebra_coproduct.bd)))))) 0 (impl_Coalgebra_coproduct.st0 v0 g1 g2 r3 x4 g5) (roundK impl_Coalgebra_coproduct.kp 2 0 L0 (impl_Coalgebra_coproduct.k0 N K g1 g2)) = (impl_Coalgebra_coproduct.b0 N (fun d0 => K (.agg [⟨.u8, 64, d0⟩]) [⟨false, .ints .i64 2 g1⟩, ⟨false, .ints .u8 520 g2⟩]) (fun x6 g7 => xloop (xcode (E58 N) ents impl_Coalgebra_coproduct.kp 2 N (cL (cK (cB (cB (cK (cA (cB (cB (cL (cK (cB (cA (cB (cB impl_Coalgebra_coproduct.bd)))))))))))))) 2) impl_Coalgebra_coproduct.kp 2 2 N (impl_Coalgebra_coproduct.st1 v0 g1 g2 r3 x4 x6 g7) (impl_Coalgebra_coproduct.k1g N L0 (impl_Coalgebra_coproduct.k0 N K g1 g2))) (fun x4 g5 => L0 (impl_Coalgebra_coproduct.st0 v0 g1 g2 r3 x4 g5)) (fun o10 => (impl_Coalgebra_coproduct.k0 N K g1 g2) (.exit 0) (impl_Coalgebra_coproduct.sx0_0 v0 g1 g2 r3 o10)) x4 g5) := by
  have h := impl_Coalgebra_coproduct.b0_gen N K L0 (impl_Coalgebra_coproduct.k0 N K g1 g2) v0 g1 g2 r3 x4 g5
  rw [impl_Coalgebra_coproduct.k0_mix] at h
  exact h

theorem impl_Coalgebra_coproduct.a0_0_eq {ρ : Type} (N : Nat) (K : AV → Heap → Option ρ) (v0 : Nat → Int) (g1 : Nat → Int) (g2 : Nat → Int) (r3 : Nat → Int) (o10 : Nat → Int) :
    (impl_Coalgebra_coproduct.k0 N K g1 g2) (.exit 0) (impl_Coalgebra_coproduct.sx0_0 v0 g1 g2 r3 o10) = (impl_Coalgebra_coproduct.a0_0 N (fun d0 => K (.agg [⟨.u8, 64, d0⟩]) [⟨false, .ints .i64 2 g1⟩, ⟨false, .ints .u8 520 g2⟩]) o10) := by kernel_rfl

theorem impl_Coalgebra_coproduct.l1_eq {ρ : Type} (N : Nat) (K : AV → Heap → Option ρ) (L0 : St → Option ρ) (v0 : Nat → Int) (g1 : Nat → Int) (g2 : Nat → Int) (r3 : Nat → Int) (x4 : Int) :
    ∀ (m : Nat) (x6 : Int) (g7 : Nat → Int), xloop (xcode (E58 N) ents impl_Coalgebra_coproduct.kp 2 N (cL (cK (cB (cB (cK (cA (cB (cB (cL (cK (cB (cA (cB (cB impl_Coalgebra_coproduct.bd)))))))))))))) 2) impl_Coalgebra_coproduct.kp 2 2 m (impl_Coalgebra_coproduct.st1 v0 g1 g2 r3 x4 x6 g7) (impl_Coalgebra_coproduct.k1g N L0 (impl_Coalgebra_coproduct.k0 N K g1 g2)) = (impl_Coalgebra_coproduct.l1 N (fun d0 => K (.agg [⟨.u8, 64, d0⟩]) [⟨false, .ints .i64 2 g1⟩, ⟨false, .ints .u8 520 g2⟩]) v0 g2 r3 x4 (fun o9 => (impl_Coalgebra_coproduct.k1g N L0 (impl_Coalgebra_coproduct.k0 N K g1 g2)) (.exit 2) (impl_Coalgebra_coproduct.sx1_0 v0 g1 g2 r3 x4 o9)) m x6 g7) := by
  intro m
  induction m with
  | zero => intros; rfl
  | succ m ih =>
    intro x6 g7
    refine (impl_Coalgebra_coproduct.b1_eq N K L0 (fun s => xloop (xcode (E58 N) ents impl_Coalgebra_coproduct.kp 2 N (cL (cK (cB (cB (cK (cA (cB (cB (cL (cK (cB (cA (cB (cB impl_Coalgebra_coproduct.bd)))))))))))))) 2) impl_Coalgebra_coproduct.kp 2 2 m s (impl_Coalgebra_coproduct.k1g N L0 (impl_Coalgebra_coproduct.k0 N K g1 g2))) v0 g1 g2 r3 x4 x6 g7).trans ?_
    simp only [ih]
    kernel_rfl

theorem impl_Coalgebra_coproduct.l0_eq {ρ : Type} (N : Nat) (K : AV → Heap → Option ρ) (v0 : Nat → Int) (g1 : Nat → Int) (g2 : Nat → Int) (r3 : Nat → Int) :
    ∀ (m : Nat) (x4 : Int) (g5 : Nat → Int), xloop (xcode (E58 N) ents impl_Coalgebra_coproduct.kp 2 N (cL (cK (cB (cA (cB (cB impl_Coalgebra_coproduct.bd)))))) 0) impl_Coalgebra_coproduct.kp 2 0 m (impl_Coalgebra_coproduct.st0 v0 g1 g2 r3 x4 g5) (impl_Coalgebra_coproduct.k0 N K g1 g2) = (impl_Coalgebra_coproduct.l0 N (fun d0 => K (.agg [⟨.u8, 64, d0⟩]) [⟨false, .ints .i64 2 g1⟩, ⟨false, .ints .u8 520 g2⟩]) v0 g2 r3 (fun o10 => (impl_Coalgebra_coproduct.k0 N K g1 g2) (.exit 0) (impl_Coalgebra_coproduct.sx0_0 v0 g1 g2 r3 o10)) m x4 g5) := by
  intro m
  induction m with
  | zero => intros; rfl
  | succ m ih =>
    intro x4 g5
    refine (impl_Coalgebra_coproduct.b0_eq N K (fun s => xloop (xcode (E58 N) ents impl_Coalgebra_coproduct.kp 2 N (cL (cK (cB (cA (cB (cB impl_Coalgebra_coproduct.bd)))))) 0) impl_Coalgebra_coproduct.kp 2 0 m s (impl_Coalgebra_coproduct.k0 N K g1 g2)) v0 g1 g2 r3 x4 g5).trans ?_
    simp only [ih, impl_Coalgebra_coproduct.l1_eq, impl_Coalgebra_coproduct.a1_0_eq]
    kernel_rfl

theorem impl_Coalgebra_coproduct.s_eq {ρ : Type} (N : Nat) (K : AV → Heap → Option ρ) (v0 : Nat → Int) (g1 : Nat → Int) (g2 : Nat → Int) :
    xbody (E58 N) ents impl_Coalgebra_coproduct.kp N Go.Proofs.Try.f68 impl_Coalgebra_coproduct.bd [.sptr [(0, 2), (1, 520)], .agg [⟨.u8, 8, v0⟩]] [⟨false, .ints .i64 2 g1⟩, ⟨false, .ints .u8 520 g2⟩] K = (impl_Coalgebra_coproduct.s N (fun d0 => K (.agg [⟨.u8, 64, d0⟩]) [⟨false, .ints .i64 2 g1⟩, ⟨false, .ints .u8 520 g2⟩]) (fun r3 x4 g5 => xloop (xcode (E58 N) ents impl_Coalgebra_coproduct.kp 2 N (cL (cK (cB (cA (cB (cB impl_Coalgebra_coproduct.bd)))))) 0) impl_Coalgebra_coproduct.kp 2 0 N (impl_Coalgebra_coproduct.st0 v0 g1 g2 r3 x4 g5) (impl_Coalgebra_coproduct.k0 N K g1 g2)) g1 g2) := by kernel_rfl

theorem impl_Coalgebra_coproduct.eq {ρ : Type} (N : Nat) (K : AV → Heap → Option ρ) (v0 : Nat → Int) (g1 : Nat → Int) (g2 : Nat → Int) :
    xbody (E58 N) ents impl_Coalgebra_coproduct.kp N Go.Proofs.Try.f68 impl_Coalgebra_coproduct.bd [.sptr [(0, 2), (1, 520)], .agg [⟨.u8, 8, v0⟩]] [⟨false, .ints .i64 2 g1⟩, ⟨false, .ints .u8 520 g2⟩] K = (impl_Coalgebra_coproduct N (fun d0 => K (.agg [⟨.u8, 64, d0⟩]) [⟨false, .ints .i64 2 g1⟩, ⟨false, .ints .u8 520 g2⟩]) v0 g1 g2) := by
  refine (impl_Coalgebra_coproduct.s_eq N K v0 g1 g2).trans ?_
  simp only [impl_Coalgebra_coproduct.l0_eq, impl_Coalgebra_coproduct.a0_0_eq]
  kernel_rfl

noncomputable def impl_Coalgebra_coproduct.en (N : Nat) (ρ : Type) : List AV → Heap → (AV → Heap → Option ρ) → Option ρ
  | [.sptr [(0, 2), (1, 520)], .agg [⟨.u8, 8, v0⟩]], [⟨false, .ints .i64 2 g1⟩, ⟨false, .ints .u8 520 g2⟩], K => (impl_Coalgebra_coproduct N (fun d0 => K (.agg [⟨.u8, 64, d0⟩]) [⟨false, .ints .i64 2 g1⟩, ⟨false, .ints .u8 520 g2⟩]) v0 g1 g2)
  | _, _, _ => none

theorem impl_Coalgebra_coproduct.en_ok (N : Nat) (hE : EnvOk (E58 N) ents) (ρ : Type) (args : List AV) (sh : Heap) (K : AV → Heap → Option ρ) (r : ρ) (h : impl_Coalgebra_coproduct.en N ρ args sh K = some r) : ∃ v sh', K v sh' = some r ∧ FnOk (E58 N).P 68 args sh v sh' := by
  unfold impl_Coalgebra_coproduct.en at h
  split at h
  · exact fn_ok hE (kp := impl_Coalgebra_coproduct.kp) (N := N) Go.Proofs.Try.func68 (c := impl_Coalgebra_coproduct.bd) (by kernel_rfl) ((impl_Coalgebra_coproduct.eq N _ _ _ _).trans h)
  · cases h

noncomputable def E59 (N : Nat) : Env := (E58 N).add 68 (impl_Coalgebra_coproduct.en N)

theorem E59_ok (N : Nat) : EnvOk (E59 N) ents := Env.add_ok (E58_ok N) (impl_Coalgebra_coproduct.en_ok N (E58_ok N))

noncomputable def impl_CoproductIn.kp : Keeps := ⟨[], []⟩

noncomputable def impl_CoproductIn.bd : Code := bodyOf Go.Proofs.Try.f29

noncomputable def impl_CoproductIn.fin {ρ : Type} (N : Nat) (K : AV → Heap → Option ρ) : XE → St → Option ρ := finK (E59 N) Go.Proofs.Try.f29 [] K

theorem impl_CoproductIn.eq {ρ : Type} (N : Nat) (K : AV → Heap → Option ρ) (c0 : Nat → Int) (c1 : Nat → Int) (v2 : Nat → Int) :
    xbody (E59 N) ents impl_CoproductIn.kp N Go.Proofs.Try.f29 impl_CoproductIn.bd [.agg [⟨.i64, 2, c0⟩, ⟨.u8, 520, c1⟩], .agg [⟨.u8, 8, v2⟩]] [] K = (impl_CoproductIn N (fun d0 d1 => K (.tup [.agg [⟨.u8, 64, d0⟩], .int .i64 (d1)]) []) c0 c1 v2) := by kernel_rfl

noncomputable def impl_CoproductIn.en (N : Nat) (ρ : Type) : List AV → Heap → (AV → Heap → Option ρ) → Option ρ
  | [.agg [⟨.i64, 2, c0⟩, ⟨.u8, 520, c1⟩], .agg [⟨.u8, 8, v2⟩]], [], K => (impl_CoproductIn N (fun d0 d1 => K (.tup [.agg [⟨.u8, 64, d0⟩], .int .i64 (d1)]) []) c0 c1 v2)
  | _, _, _ => none

theorem impl_CoproductIn.en_ok (N : Nat) (hE : EnvOk (E59 N) ents) (ρ : Type) (args : List AV) (sh : Heap) (K : AV → Heap → Option ρ) (r : ρ) (h : impl_CoproductIn.en N ρ args sh K = some r) : ∃ v sh', K v sh' = some r ∧ FnOk (E59 N).P 29 args sh v sh' := by
  unfold impl_CoproductIn.en at h
  split at h
  · exact fn_ok hE (kp := impl_CoproductIn.kp) (N := N) Go.Proofs.Try.func29 (c := impl_CoproductIn.bd) (by kernel_rfl) ((impl_CoproductIn.eq N _ _ _ _).trans h)
  · cases h

noncomputable def E60 (N : Nat) : Env := (E59 N).add 29 (impl_CoproductIn.en N)

theorem E60_ok (N : Nat) : EnvOk (E60 N) ents := Env.add_ok (E59_ok N) (impl_CoproductIn.en_ok N (E59_ok N))

noncomputable def laws_eqVector.kp : Keeps := ⟨[(0, [2, 3, 5], 2)], [(0, [], 2)]⟩

noncomputable def laws_eqVector.bd : Code := bodyOf Go.Proofs.Try.f69

noncomputable def laws_eqVector.fin {ρ : Type} (N : Nat) (K : AV → Heap → Option ρ) : XE → St → Option ρ := finK (E60 N) Go.Proofs.Try.f69 [] K

noncomputable def laws_eqVector.k0 {ρ : Type} (N : Nat) (K : AV → Heap → Option ρ) : XE → St → Option ρ := (blockK laws_eqVector.kp 0 0 (seqK (xcode (E60 N) ents laws_eqVector.kp 0 N (cB (cB laws_eqVector.bd)) 0) (laws_eqVector.fin N K)))

theorem laws_eqVector.k0_mix {ρ : Type} (N : Nat) (K : AV → Heap → Option ρ) : mixK (laws_eqVector.fin N K .ret) (laws_eqVector.k0 N K) = (laws_eqVector.k0 N K) := by
  funext e s; cases e <;> rfl

noncomputable def laws_eqVector.st0 (a0 : Nat → Int) (b1 : Nat → Int) (i2 : Int) : St := ⟨sl 17 [(2, .sptr [(0, 8)]), (3, .sptr [(1, 8)]), (5, .int .i64 (i2))], [⟨true, .ints .u8 8 a0⟩, ⟨true, .ints .u8 8 b1⟩]⟩

noncomputable def laws_eqVector.sx0_0 (a0 : Nat → Int) (b1 : Nat → Int) : St := ⟨sl 17 [], [⟨true, .ints .u8 8 a0⟩, ⟨true, .ints .u8 8 b1⟩]⟩

theorem laws_eqVector.b0_gen {ρ : Type} (N : Nat) (K : AV → Heap → Option ρ) (L0 : St → Option ρ) (kv : XE → St → Option ρ) (a0 : Nat → Int) (b1 : Nat → Int) (i2 : Int) :
    xcode (E60 N) ents laws_eqVector.kp 0 N (cL (cK (cB (cA (cB laws_eqVector.bd))))) 0 (laws_eqVector.st0 a0 b1 i2) (roundK laws_eqVector.kp 0 0 L0 (mixK (laws_eqVector.fin N K .ret) kv)) = (laws_eqVector.b0 N (fun d0 => K (.bool (d0)) []) (fun i2 => L0 (laws_eqVector.st0 a0 b1 i2)) (kv (.exit 0) (laws_eqVector.sx0_0 a0 b1)) a0 b1 i2) := by kernel_rfl

theorem laws_eqVector.b0_eq {ρ : Type} (N : Nat) (K : AV → Heap → Option ρ) (L0 : St → Option ρ) (a0 : Nat → Int) (b1 : Nat → Int) (i2 : Int) :
    xcode (E60 N) ents laws_eqVector.kp 0 N (cL (cK (cB (cA (cB laws_eqVector.bd))))) 0 (laws_eqVector.st0 a0 b1 i2) (roundK laws_eqVector.kp 0 0 L0 (laws_eqVector.k0 N K)) = (laws_eqVector.b0 N (fun d0 => K (.bool (d0)) []) (fun i2 => L0 (laws_eqVector.st0 a0 b1 i2)) ((laws_eqVector.k0 N K) (.exit 0) (laws_eqVector.sx0_0 a0 b1)) a0 b1 i2) := by
  have h := laws_eqVector.b0_gen N K L0 (laws_eqVector.k0 N K) a0 b1 i2
  rw [laws_eqVector.k0_mix] at h
  exact h

theorem laws_eqVector.a0_0_eq {ρ : Type} (N : Nat) (K : AV → Heap → Option ρ) (a0 : Nat → Int) (b1 : Nat → Int) :
    (laws_eqVector.k0 N K) (.exit 0) (laws_eqVector.sx0_0 a0 b1) = (laws_eqVector.a0_0 N (fun d0 => K (.bool (d0)) [])) := by kernel_rfl

theorem laws_eqVector.l0_eq {ρ : Type} (N : Nat) (K : AV → Heap → Option ρ) (a0 : Nat → Int) (b1 : Nat → Int) :
    ∀ (m : Nat) (i2 : Int), xloop (xcode (E60 N) ents laws_eqVector.kp 0 N (cL (cK (cB (cA (cB laws_eqVector.bd))))) 0) laws_eqVector.kp 0 0 m (laws_eqVector.st0 a0 b1 i2) (laws_eqVector.k0 N K) = (laws_eqVector.l0 N (fun d0 => K (.bool (d0)) []) a0 b1 ((laws_eqVector.k0 N K) (.exit 0) (laws_eqVector.sx0_0 a0 b1)) m i2) := by
  intro m
  induction m with
  | zero => intros; rfl
  | succ m ih =>
    intro i2
    refine (laws_eqVector.b0_eq N K (fun s => xloop (xcode (E60 N) ents laws_eqVector.kp 0 N (cL (cK (cB (cA (cB laws_eqVector.bd))))) 0) laws_eqVector.kp 0 0 m s (laws_eqVector.k0 N K)) a0 b1 i2).trans ?_
    simp only [ih]
    kernel_rfl

theorem laws_eqVector.s_eq {ρ : Type} (N : Nat) (K : AV → Heap → Option ρ) (a0 : Nat → Int) (b1 : Nat → Int) :
    xbody (E60 N) ents laws_eqVector.kp N Go.Proofs.Try.f69 laws_eqVector.bd [.agg [⟨.u8, 8, a0⟩], .agg [⟨.u8, 8, b1⟩]] [] K = (laws_eqVector.s N (fun d0 => K (.bool (d0)) []) (fun i2 => xloop (xcode (E60 N) ents laws_eqVector.kp 0 N (cL (cK (cB (cA (cB laws_eqVector.bd))))) 0) laws_eqVector.kp 0 0 N (laws_eqVector.st0 a0 b1 i2) (laws_eqVector.k0 N K))) := by kernel_rfl

theorem laws_eqVector.eq {ρ : Type} (N : Nat) (K : AV → Heap → Option ρ) (a0 : Nat → Int) (b1 : Nat → Int) :
    xbody (E60 N) ents laws_eqVector.kp N Go.Proofs.Try.f69 laws_eqVector.bd [.agg [⟨.u8, 8, a0⟩], .agg [⟨.u8, 8, b1⟩]] [] K = (laws_eqVector N (fun d0 => K (.bool (d0)) []) a0 b1) := by
  refine (laws_eqVector.s_eq N K a0 b1).trans ?_
  simp only [laws_eqVector.l0_eq, laws_eqVector.a0_0_eq]
  kernel_rfl

noncomputable def laws_eqVector.en (N : Nat) (ρ : Type) : List AV → Heap → (AV → Heap → Option ρ) → Option ρ
  | [.agg [⟨.u8, 8, a0⟩], .agg [⟨.u8, 8, b1⟩]], [], K => (laws_eqVector N (fun d0 => K (.bool (d0)) []) a0 b1)
  | _, _, _ => none

theorem laws_eqVector.en_ok (N : Nat) (hE : EnvOk (E60 N) ents) (ρ : Type) (args : List AV) (sh : Heap) (K : AV → Heap → Option ρ) (r : ρ) (h : laws_eqVector.en N ρ args sh K = some r) : ∃ v sh', K v sh' = some r ∧ FnOk (E60 N).P 69 args sh v sh' := by
  unfold laws_eqVector.en at h
  split at h
  · exact fn_ok hE (kp := laws_eqVector.kp) (N := N) Go.Proofs.Try.func69 (c := laws_eqVector.bd) (by kernel_rfl) ((laws_eqVector.eq N _ _ _).trans h)
  · cases h

noncomputable def E61 (N : Nat) : Env := (E60 N).add 69 (laws_eqVector.en N)

theorem E61_ok (N : Nat) : EnvOk (E61 N) ents := Env.add_ok (E60_ok N) (laws_eqVector.en_ok N (E60_ok N))

noncomputable def laws_eqLinear.kp : Keeps := ⟨[(0, [2, 3, 5], 2)], [(0, [], 2)]⟩

noncomputable def laws_eqLinear.bd : Code := bodyOf Go.Proofs.Try.f30

noncomputable def laws_eqLinear.fin {ρ : Type} (N : Nat) (K : AV → Heap → Option ρ) : XE → St → Option ρ := finK (E61 N) Go.Proofs.Try.f30 [] K

noncomputable def laws_eqLinear.k0 {ρ : Type} (N : Nat) (K : AV → Heap → Option ρ) : XE → St → Option ρ := (blockK laws_eqLinear.kp 0 0 (seqK (xcode (E61 N) ents laws_eqLinear.kp 0 N (cB (cB laws_eqLinear.bd)) 0) (laws_eqLinear.fin N K)))

theorem laws_eqLinear.k0_mix {ρ : Type} (N : Nat) (K : AV → Heap → Option ρ) : mixK (laws_eqLinear.fin N K .ret) (laws_eqLinear.k0 N K) = (laws_eqLinear.k0 N K) := by
  funext e s; cases e <;> rfl

noncomputable def laws_eqLinear.st0 (a0 : Nat → Int) (b1 : Nat → Int) (i2 : Int) : St := ⟨sl 18 [(2, .sptr [(0, 64)]), (3, .sptr [(1, 64)]), (5, .int .i64 (i2))], [⟨true, .ints .u8 64 a0⟩, ⟨true, .ints .u8 64 b1⟩]⟩

noncomputable def laws_eqLinear.sx0_0 (a0 : Nat → Int) (b1 : Nat → Int) : St := ⟨sl 18 [], [⟨true, .ints .u8 64 a0⟩, ⟨true, .ints .u8 64 b1⟩]⟩

theorem laws_eqLinear.b0_gen {ρ : Type} (N : Nat) (K : AV → Heap → Option ρ) (L0 : St → Option ρ) (kv : XE → St → Option ρ) (a0 : Nat → Int) (b1 : Nat → Int) (i2 : Int) :
    xcode (E61 N) ents laws_eqLinear.kp 0 N (cL (cK (cB (cA (cB laws_eqLinear.bd))))) 0 (laws_eqLinear.st0 a0 b1 i2) (roundK laws_eqLinear.kp 0 0 L0 (mixK (laws_eqLinear.fin N K .ret) kv)) = (laws_eqLinear.b0 N (fun d0 => K (.bool (d0)) []) (fun i2 => L0 (laws_eqLinear.st0 a0 b1 i2)) (kv (.exit 0) (laws_eqLinear.sx0_0 a0 b1)) a0 b1 i2) := by kernel_rfl

theorem laws_eqLinear.b0_eq {ρ : Type} (N : Nat) (K : AV → Heap → Option ρ) (L0 : St → Option ρ) (a0 : Nat → Int) (b1 : Nat → Int) (i2 : Int) :
    xcode (E61 N) ents laws_eqLinear.kp 0 N (cL (cK (cB (cA (cB laws_eqLinear.bd))))) 0 (laws_eqLinear.st0 a0 b1 i2) (roundK laws_eqLinear.kp 0 0 L0 (laws_eqLinear.k0 N K)) = (laws_eqLinear.b0 N (fun d0 => K (.bool (d0)) []) (fun i2 => L0 (laws_eqLinear.st0 a0 b1 i2)) ((laws_eqLinear.k0 N K) (.exit 0) (laws_eqLinear.sx0_0 a0 b1)) a0 b1 i2) := by
  have h := laws_eqLinear.b0_gen N K L0 (laws_eqLinear.k0 N K) a0 b1 i2
  rw [laws_eqLinear.k0_mix] at h
  exact h

theorem laws_eqLinear.a0_0_eq {ρ : Type} (N : Nat) (K : AV → Heap → Option ρ) (a0 : Nat → Int) (b1 : Nat → Int) :
    (laws_eqLinear.k0 N K) (.exit 0) (laws_eqLinear.sx0_0 a0 b1) = (laws_eqLinear.a0_0 N (fun d0 => K (.bool (d0)) [])) := by kernel_rfl

theorem laws_eqLinear.l0_eq {ρ : Type} (N : Nat) (K : AV → Heap → Option ρ) (a0 : Nat → Int) (b1 : Nat → Int) :
    ∀ (m : Nat) (i2 : Int), xloop (xcode (E61 N) ents laws_eqLinear.kp 0 N (cL (cK (cB (cA (cB laws_eqLinear.bd))))) 0) laws_eqLinear.kp 0 0 m (laws_eqLinear.st0 a0 b1 i2) (laws_eqLinear.k0 N K) = (laws_eqLinear.l0 N (fun d0 => K (.bool (d0)) []) a0 b1 ((laws_eqLinear.k0 N K) (.exit 0) (laws_eqLinear.sx0_0 a0 b1)) m i2) := by
  intro m
  induction m with
  | zero => intros; rfl
  | succ m ih =>
    intro i2
    refine (laws_eqLinear.b0_eq N K (fun s => xloop (xcode (E61 N) ents laws_eqLinear.kp 0 N (cL (cK (cB (cA (cB laws_eqLinear.bd))))) 0) laws_eqLinear.kp 0 0 m s (laws_eqLinear.k0 N K)) a0 b1 i2).trans ?_
    simp only [ih]
    kernel_rfl

theorem laws_eqLinear.s_eq {ρ : Type} (N : Nat) (K : AV → Heap → Option ρ) (a0 : Nat → Int) (b1 : Nat → Int) :
    xbody (E61 N) ents laws_eqLinear.kp N Go.Proofs.Try.f30 laws_eqLinear.bd [.agg [⟨.u8, 64, a0⟩], .agg [⟨.u8, 64, b1⟩]] [] K = (laws_eqLinear.s N (fun d0 => K (.bool (d0)) []) (fun i2 => xloop (xcode (E61 N) ents laws_eqLinear.kp 0 N (cL (cK (cB (cA (cB laws_eqLinear.bd))))) 0) laws_eqLinear.kp 0 0 N (laws_eqLinear.st0 a0 b1 i2) (laws_eqLinear.k0 N K))) := by kernel_rfl

theorem laws_eqLinear.eq {ρ : Type} (N : Nat) (K : AV → Heap → Option ρ) (a0 : Nat → Int) (b1 : Nat → Int) :
    xbody (E61 N) ents laws_eqLinear.kp N Go.Proofs.Try.f30 laws_eqLinear.bd [.agg [⟨.u8, 64, a0⟩], .agg [⟨.u8, 64, b1⟩]] [] K = (laws_eqLinear N (fun d0 => K (.bool (d0)) []) a0 b1) := by
  refine (laws_eqLinear.s_eq N K a0 b1).trans ?_
  simp only [laws_eqLinear.l0_eq, laws_eqLinear.a0_0_eq]
  kernel_rfl

noncomputable def laws_eqLinear.en (N : Nat) (ρ : Type) : List AV → Heap → (AV → Heap → Option ρ) → Option ρ
  | [.agg [⟨.u8, 64, a0⟩], .agg [⟨.u8, 64, b1⟩]], [], K => (laws_eqLinear N (fun d0 => K (.bool (d0)) []) a0 b1)
  | _, _, _ => none

theorem laws_eqLinear.en_ok (N : Nat) (hE : EnvOk (E61 N) ents) (ρ : Type) (args : List AV) (sh : Heap) (K : AV → Heap → Option ρ) (r : ρ) (h : laws_eqLinear.en N ρ args sh K = some r) : ∃ v sh', K v sh' = some r ∧ FnOk (E61 N).P 30 args sh v sh' := by
  unfold laws_eqLinear.en at h
  split at h
  · exact fn_ok hE (kp := laws_eqLinear.kp) (N := N) Go.Proofs.Try.func30 (c := laws_eqLinear.bd) (by kernel_rfl) ((laws_eqLinear.eq N _ _ _).trans h)
  · cases h

noncomputable def E62 (N : Nat) : Env := (E61 N).add 30 (laws_eqLinear.en N)

theorem E62_ok (N : Nat) : EnvOk (E62 N) ents := Env.add_ok (E61_ok N) (laws_eqLinear.en_ok N (E61_ok N))

noncomputable def laws_FnExactCoproductIn.kp : Keeps := ⟨[], []⟩

noncomputable def laws_FnExactCoproductIn.bd : Code := bodyOf Go.Proofs.Try.f7

noncomputable def laws_FnExactCoproductIn.fin {ρ : Type} (N : Nat) (K : AV → Heap → Option ρ) : XE → St → Option ρ := finK (E62 N) Go.Proofs.Try.f7 [] K

theorem laws_FnExactCoproductIn.eq {ρ : Type} (N : Nat) (K : AV → Heap → Option ρ) (aC0 : Nat → Int) (aC1 : Nat → Int) (aV2 : Nat → Int) :
    xbody (E62 N) ents laws_FnExactCoproductIn.kp N Go.Proofs.Try.f7 laws_FnExactCoproductIn.bd [.agg [⟨.i64, 2, aC0⟩, ⟨.u8, 520, aC1⟩], .agg [⟨.u8, 8, aV2⟩]] [] K = (laws_FnExactCoproductIn N (fun d0 => K (.bool (d0)) []) aC0 aC1 aV2) := by kernel_rfl

noncomputable def laws_FnExactCoproductIn.en (N : Nat) (ρ : Type) : List AV → Heap → (AV → Heap → Option ρ) → Option ρ
  | [.agg [⟨.i64, 2, aC0⟩, ⟨.u8, 520, aC1⟩], .agg [⟨.u8, 8, aV2⟩]], [], K => (laws_FnExactCoproductIn N (fun d0 => K (.bool (d0)) []) aC0 aC1 aV2)
  | _, _, _ => none

theorem laws_FnExactCoproductIn.en_ok (N : Nat) (hE : EnvOk (E62 N) ents) (ρ : Type) (args : List AV) (sh : Heap) (K : AV → Heap → Option ρ) (r : ρ) (h : laws_FnExactCoproductIn.en N ρ args sh K = some r) : ∃ v sh', K v sh' = some r ∧ FnOk (E62 N).P 7 args sh v sh' := by
  unfold laws_FnExactCoproductIn.en at h
  split at h
  · exact fn_ok hE (kp := laws_FnExactCoproductIn.kp) (N := N) Go.Proofs.Try.func7 (c := laws_FnExactCoproductIn.bd) (by kernel_rfl) ((laws_FnExactCoproductIn.eq N _ _ _ _).trans h)
  · cases h

noncomputable def E63 (N : Nat) : Env := (E62 N).add 7 (laws_FnExactCoproductIn.en N)

theorem E63_ok (N : Nat) : EnvOk (E63 N) ents := Env.add_ok (E62_ok N) (laws_FnExactCoproductIn.en_ok N (E62_ok N))
end Go.Proofs.Ythecjjnieojjoaa.H
