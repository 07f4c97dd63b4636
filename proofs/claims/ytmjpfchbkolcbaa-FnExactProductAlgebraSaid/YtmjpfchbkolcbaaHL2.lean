/- The program computes these functions. -/
import Derived.Test.YtmjpfchbkolcbaaHL1
namespace Go.Proofs.Ytmjpfchbkolcbaa.H
set_option linter.unusedVariables false
set_option linter.unusedSimpArgs false
open Go Go.RowKit Go.Proofs.Ytmjpfchbkolcbaa.Hx
set_option linter.unusedVariables false
set_option maxRecDepth 100000
noncomputable def slices_IndexFunc_nf.kp : Keeps := ⟨[(0, [0, 1, 7, 8], 3)], [(0, [], 3)]⟩

noncomputable def slices_IndexFunc_nf.bd : Code := bodyOf Go.Proofs.Try.f117

noncomputable def slices_IndexFunc_nf.fin {ρ : Type} (N : Nat) (K : AV → Heap → Option ρ) (g0 : Nat → Int) (g1 : Nat → Int) : XE → St → Option ρ := finK (E42 N) Go.Proofs.Try.f117 [⟨false, .avs [.sptr [(1, 2), (2, 520)]]⟩, ⟨false, .ints .i64 2 g0⟩, ⟨false, .ints .u8 520 g1⟩] K

noncomputable def slices_IndexFunc_nf.k0 {ρ : Type} (N : Nat) (K : AV → Heap → Option ρ) (g0 : Nat → Int) (g1 : Nat → Int) : XE → St → Option ρ := (blockK slices_IndexFunc_nf.kp 3 0 (seqK (xcode (E42 N) ents slices_IndexFunc_nf.kp 3 N (cB (cB slices_IndexFunc_nf.bd)) 0) (slices_IndexFunc_nf.fin N K g0 g1)))

theorem slices_IndexFunc_nf.k0_mix {ρ : Type} (N : Nat) (K : AV → Heap → Option ρ) (g0 : Nat → Int) (g1 : Nat → Int) : mixK (slices_IndexFunc_nf.fin N K g0 g1 .ret) (slices_IndexFunc_nf.k0 N K g0 g1) = (slices_IndexFunc_nf.k0 N K g0 g1) := by
  funext e s; cases e <;> rfl

noncomputable def slices_IndexFunc_nf.st0 (g0 : Nat → Int) (g1 : Nat → Int) : St := ⟨sl 19 [(0, .nils), (1, .fn 106 [[(0, 1)]]), (7, .int .i64 0), (8, .int .i64 0)], [⟨false, .avs [.sptr [(1, 2), (2, 520)]]⟩, ⟨false, .ints .i64 2 g0⟩, ⟨false, .ints .u8 520 g1⟩]⟩

noncomputable def slices_IndexFunc_nf.sx0_0 (g0 : Nat → Int) (g1 : Nat → Int) : St := ⟨sl 19 [], [⟨false, .avs [.sptr [(1, 2), (2, 520)]]⟩, ⟨false, .ints .i64 2 g0⟩, ⟨false, .ints .u8 520 g1⟩]⟩

theorem slices_IndexFunc_nf.b0_gen {ρ : Type} (N : Nat) (K : AV → Heap → Option ρ) (L0 : St → Option ρ) (kv : XE → St → Option ρ) (g0 : Nat → Int) (g1 : Nat → Int) :
    xcode (E42 N) ents slices_IndexFunc_nf.kp 3 N (cL (cK (cB (cA (cB slices_IndexFunc_nf.bd))))) 0 (slices_IndexFunc_nf.st0 g0 g1) (roundK slices_IndexFunc_nf.kp 3 0 L0 (mixK (slices_IndexFunc_nf.fin N K g0 g1 .ret) kv)) = (slices_IndexFunc_nf.b0 N (fun d0 => K (.int .i64 (d0)) [⟨false, .avs [.sptr [(1, 2), (2, 520)]]⟩, ⟨false, .ints .i64 2 g0⟩, ⟨false, .ints .u8 520 g1⟩]) (L0 (slices_IndexFunc_nf.st0 g0 g1)) (kv (.exit 0) (slices_IndexFunc_nf.sx0_0 g0 g1))) := by kernel_rfl

theorem slices_IndexFunc_nf.b0_eq {ρ : Type} (N : Nat) (K : AV → Heap → Option ρ) (L0 : St → Option ρ) (g0 : Nat → Int) (g1 : Nat → Int) :
    xcode (E42 N) ents slices_IndexFunc_nf.kp 3 N (cL (cK (cB (cA (cB slices_IndexFunc_nf.bd))))) 0 (slices_IndexFunc_nf.st0 g0 g1) (roundK slices_IndexFunc_nf.kp 3 0 L0 (slices_IndexFunc_nf.k0 N K g0 g1)) = (slices_IndexFunc_nf.b0 N (fun d0 => K (.int .i64 (d0)) [⟨false, .avs [.sptr [(1, 2), (2, 520)]]⟩, ⟨false, .ints .i64 2 g0⟩, ⟨false, .ints .u8 520 g1⟩]) (L0 (slices_IndexFunc_nf.st0 g0 g1)) ((slices_IndexFunc_nf.k0 N K g0 g1) (.exit 0) (slices_IndexFunc_nf.sx0_0 g0 g1))) := by
  have h := slices_IndexFunc_nf.b0_gen N K L0 (slices_IndexFunc_nf.k0 N K g0 g1) g0 g1
  rw [slices_IndexFunc_nf.k0_mix] at h
  exact h

theorem slices_IndexFunc_nf.a0_0_eq {ρ : Type} (N : Nat) (K : AV → Heap → Option ρ) (g0 : Nat → Int) (g1 : Nat → Int) :
    (slices_IndexFunc_nf.k0 N K g0 g1) (.exit 0) (slices_IndexFunc_nf.sx0_0 g0 g1) = (slices_IndexFunc_nf.a0_0 N (fun d0 => K (.int .i64 (d0)) [⟨false, .avs [.sptr [(1, 2), (2, 520)]]⟩, ⟨false, .ints .i64 2 g0⟩, ⟨false, .ints .u8 520 g1⟩])) := by kernel_rfl

theorem slices_IndexFunc_nf.l0_eq {ρ : Type} (N : Nat) (K : AV → Heap → Option ρ) (g0 : Nat → Int) (g1 : Nat → Int) :
    ∀ (m : Nat), xloop (xcode (E42 N) ents slices_IndexFunc_nf.kp 3 N (cL (cK (cB (cA (cB slices_IndexFunc_nf.bd))))) 0) slices_IndexFunc_nf.kp 3 0 m (slices_IndexFunc_nf.st0 g0 g1) (slices_IndexFunc_nf.k0 N K g0 g1) = (slices_IndexFunc_nf.l0 N (fun d0 => K (.int .i64 (d0)) [⟨false, .avs [.sptr [(1, 2), (2, 520)]]⟩, ⟨false, .ints .i64 2 g0⟩, ⟨false, .ints .u8 520 g1⟩]) ((slices_IndexFunc_nf.k0 N K g0 g1) (.exit 0) (slices_IndexFunc_nf.sx0_0 g0 g1)) m) := by
  intro m
  induction m with
  | zero => intros; rfl
  | succ m ih =>
    refine (slices_IndexFunc_nf.b0_eq N K (fun s => xloop (xcode (E42 N) ents slices_IndexFunc_nf.kp 3 N (cL (cK (cB (cA (cB slices_IndexFunc_nf.bd))))) 0) slices_IndexFunc_nf.kp 3 0 m s (slices_IndexFunc_nf.k0 N K g0 g1)) g0 g1).trans ?_
    simp only [ih]
    kernel_rfl

theorem slices_IndexFunc_nf.s_eq {ρ : Type} (N : Nat) (K : AV → Heap → Option ρ) (g0 : Nat → Int) (g1 : Nat → Int) :
    xbody (E42 N) ents slices_IndexFunc_nf.kp N Go.Proofs.Try.f117 slices_IndexFunc_nf.bd [.nils, .fn 106 [[(0, 1)]]] [⟨false, .avs [.sptr [(1, 2), (2, 520)]]⟩, ⟨false, .ints .i64 2 g0⟩, ⟨false, .ints .u8 520 g1⟩] K = (slices_IndexFunc_nf.s N (fun d0 => K (.int .i64 (d0)) [⟨false, .avs [.sptr [(1, 2), (2, 520)]]⟩, ⟨false, .ints .i64 2 g0⟩, ⟨false, .ints .u8 520 g1⟩]) (xloop (xcode (E42 N) ents slices_IndexFunc_nf.kp 3 N (cL (cK (cB (cA (cB slices_IndexFunc_nf.bd))))) 0) slices_IndexFunc_nf.kp 3 0 N (slices_IndexFunc_nf.st0 g0 g1) (slices_IndexFunc_nf.k0 N K g0 g1))) := by kernel_rfl

theorem slices_IndexFunc_nf.eq {ρ : Type} (N : Nat) (K : AV → Heap → Option ρ) (g0 : Nat → Int) (g1 : Nat → Int) :
    xbody (E42 N) ents slices_IndexFunc_nf.kp N Go.Proofs.Try.f117 slices_IndexFunc_nf.bd [.nils, .fn 106 [[(0, 1)]]] [⟨false, .avs [.sptr [(1, 2), (2, 520)]]⟩, ⟨false, .ints .i64 2 g0⟩, ⟨false, .ints .u8 520 g1⟩] K = (slices_IndexFunc_nf N (fun d0 => K (.int .i64 (d0)) [⟨false, .avs [.sptr [(1, 2), (2, 520)]]⟩, ⟨false, .ints .i64 2 g0⟩, ⟨false, .ints .u8 520 g1⟩]) g0 g1) := by
  refine (slices_IndexFunc_nf.s_eq N K g0 g1).trans ?_
  simp only [slices_IndexFunc_nf.l0_eq, slices_IndexFunc_nf.a0_0_eq]
  kernel_rfl

noncomputable def slices_IndexFunc_sf.kp : Keeps := ⟨[(0, [0, 1, 7, 8], 4)], [(0, [], 4)]⟩

noncomputable def slices_IndexFunc_sf.bd : Code := bodyOf Go.Proofs.Try.f117

noncomputable def slices_IndexFunc_sf.fin {ρ : Type} (N : Nat) (K : AV → Heap → Option ρ) (g2 : Nat) (g3 : Nat → Int) (g4 : Nat → Int) (g5 : Nat → Int) : XE → St → Option ρ := finK (E42 N) Go.Proofs.Try.f117 [⟨false, .ints .u8 g2 g3⟩, ⟨false, .avs [.sptr [(2, 2), (3, 520)]]⟩, ⟨false, .ints .i64 2 g4⟩, ⟨false, .ints .u8 520 g5⟩] K

noncomputable def slices_IndexFunc_sf.k0 {ρ : Type} (N : Nat) (K : AV → Heap → Option ρ) (g2 : Nat) (g3 : Nat → Int) (g4 : Nat → Int) (g5 : Nat → Int) : XE → St → Option ρ := (blockK slices_IndexFunc_sf.kp 4 0 (seqK (xcode (E42 N) ents slices_IndexFunc_sf.kp 4 N (cB (cB slices_IndexFunc_sf.bd)) 0) (slices_IndexFunc_sf.fin N K g2 g3 g4 g5)))

theorem slices_IndexFunc_sf.k0_mix {ρ : Type} (N : Nat) (K : AV → Heap → Option ρ) (g2 : Nat) (g3 : Nat → Int) (g4 : Nat → Int) (g5 : Nat → Int) : mixK (slices_IndexFunc_sf.fin N K g2 g3 g4 g5 .ret) (slices_IndexFunc_sf.k0 N K g2 g3 g4 g5) = (slices_IndexFunc_sf.k0 N K g2 g3 g4 g5) := by
  funext e s; cases e <;> rfl

noncomputable def slices_IndexFunc_sf.st0 (s0 : Nat) (s1 : Nat) (g2 : Nat) (g3 : Nat → Int) (g4 : Nat → Int) (g5 : Nat → Int) (x6 : Int) : St := ⟨sl 19 [(0, .slice 0 0 s0 (some s1) 8), (1, .fn 106 [[(1, 1)]]), (7, .int .i64 ((s0 : Int))), (8, .int .i64 (x6))], [⟨false, .ints .u8 g2 g3⟩, ⟨false, .avs [.sptr [(2, 2), (3, 520)]]⟩, ⟨false, .ints .i64 2 g4⟩, ⟨false, .ints .u8 520 g5⟩]⟩

noncomputable def slices_IndexFunc_sf.sx0_0 (g2 : Nat) (g3 : Nat → Int) (g4 : Nat → Int) (g5 : Nat → Int) : St := ⟨sl 19 [], [⟨false, .ints .u8 g2 g3⟩, ⟨false, .avs [.sptr [(2, 2), (3, 520)]]⟩, ⟨false, .ints .i64 2 g4⟩, ⟨false, .ints .u8 520 g5⟩]⟩

theorem slices_IndexFunc_sf.b0_gen {ρ : Type} (N : Nat) (K : AV → Heap → Option ρ) (L0 : St → Option ρ) (kv : XE → St → Option ρ) (s0 : Nat) (s1 : Nat) (g2 : Nat) (g3 : Nat → Int) (g4 : Nat → Int) (g5 : Nat → Int) (x6 : Int) :
    xcode (E42 N) ents slices_IndexFunc_sf.kp 4 N (cL (cK (cB (cA (cB slices_IndexFunc_sf.bd))))) 0 (slices_IndexFunc_sf.st0 s0 s1 g2 g3 g4 g5 x6) (roundK slices_IndexFunc_sf.kp 4 0 L0 (mixK (slices_IndexFunc_sf.fin N K g2 g3 g4 g5 .ret) kv)) = (slices_IndexFunc_sf.b0 N (fun d0 => K (.int .i64 (d0)) [⟨false, .ints .u8 g2 g3⟩, ⟨false, .avs [.sptr [(2, 2), (3, 520)]]⟩, ⟨false, .ints .i64 2 g4⟩, ⟨false, .ints .u8 520 g5⟩]) (fun x6 => L0 (slices_IndexFunc_sf.st0 s0 s1 g2 g3 g4 g5 x6)) (kv (.exit 0) (slices_IndexFunc_sf.sx0_0 g2 g3 g4 g5)) s0 g3 g4 g5 x6) := by kernel_rfl

theorem slices_IndexFunc_sf.b0_eq {ρ : Type} (N : Nat) (K : AV → Heap → Option ρ) (L0 : St → Option ρ) (s0 : Nat) (s1 : Nat) (g2 : Nat) (g3 : Nat → Int) (g4 : Nat → Int) (g5 : Nat → Int) (x6 : Int) :
    xcode (E42 N) ents slices_IndexFunc_sf.kp 4 N (cL (cK (cB (cA (cB slices_IndexFunc_sf.bd))))) 0 (slices_IndexFunc_sf.st0 s0 s1 g2 g3 g4 g5 x6) (roundK slices_IndexFunc_sf.kp 4 0 L0 (slices_IndexFunc_sf.k0 N K g2 g3 g4 g5)) = (slices_IndexFunc_sf.b0 N (fun d0 => K (.int .i64 (d0)) [⟨false, .ints .u8 g2 g3⟩, ⟨false, .avs [.sptr [(2, 2), (3, 520)]]⟩, ⟨false, .ints .i64 2 g4⟩, ⟨false, .ints .u8 520 g5⟩]) (fun x6 => L0 (slices_IndexFunc_sf.st0 s0 s1 g2 g3 g4 g5 x6)) ((slices_IndexFunc_sf.k0 N K g2 g3 g4 g5) (.exit 0) (slices_IndexFunc_sf.sx0_0 g2 g3 g4 g5)) s0 g3 g4 g5 x6) := by
  have h := slices_IndexFunc_sf.b0_gen N K L0 (slices_IndexFunc_sf.k0 N K g2 g3 g4 g5) s0 s1 g2 g3 g4 g5 x6
  rw [slices_IndexFunc_sf.k0_mix] at h
  exact h

theorem slices_IndexFunc_sf.a0_0_eq {ρ : Type} (N : Nat) (K : AV → Heap → Option ρ) (g2 : Nat) (g3 : Nat → Int) (g4 : Nat → Int) (g5 : Nat → Int) :
    (slices_IndexFunc_sf.k0 N K g2 g3 g4 g5) (.exit 0) (slices_IndexFunc_sf.sx0_0 g2 g3 g4 g5) = (slices_IndexFunc_sf.a0_0 N (fun d0 => K (.int .i64 (d0)) [⟨false, .ints .u8 g2 g3⟩, ⟨false, .avs [.sptr [(2, 2), (3, 520)]]⟩, ⟨false, .ints .i64 2 g4⟩, ⟨false, .ints .u8 520 g5⟩])) := by kernel_rfl

theorem slices_IndexFunc_sf.l0_eq {ρ : Type} (N : Nat) (K : AV → Heap → Option ρ) (s0 : Nat) (s1 : Nat) (g2 : Nat) (g3 : Nat → Int) (g4 : Nat → Int) (g5 : Nat → Int) :
    ∀ (m : Nat) (x6 : Int), xloop (xcode (E42 N) ents slices_IndexFunc_sf.kp 4 N (cL (cK (cB (cA (cB slices_IndexFunc_sf.bd))))) 0) slices_IndexFunc_sf.kp 4 0 m (slices_IndexFunc_sf.st0 s0 s1 g2 g3 g4 g5 x6) (slices_IndexFunc_sf.k0 N K g2 g3 g4 g5) = (slices_IndexFunc_sf.l0 N (fun d0 => K (.int .i64 (d0)) [⟨false, .ints .u8 g2 g3⟩, ⟨false, .avs [.sptr [(2, 2), (3, 520)]]⟩, ⟨false, .ints .i64 2 g4⟩, ⟨false, .ints .u8 520 g5⟩]) s0 g3 g4 g5 ((slices_IndexFunc_sf.k0 N K g2 g3 g4 g5) (.exit 0) (slices_IndexFunc_sf.sx0_0 g2 g3 g4 g5)) m x6) := by
  intro m
  induction m with
  | zero => intros; rfl
  | succ m ih =>
    intro x6
    refine (slices_IndexFunc_sf.b0_eq N K (fun s => xloop (xcode (E42 N) ents slices_IndexFunc_sf.kp 4 N (cL (cK (cB (cA (cB slices_IndexFunc_sf.bd))))) 0) slices_IndexFunc_sf.kp 4 0 m s (slices_IndexFunc_sf.k0 N K g2 g3 g4 g5)) s0 s1 g2 g3 g4 g5 x6).trans ?_
    simp only [ih]
    kernel_rfl

theorem slices_IndexFunc_sf.s_eq {ρ : Type} (N : Nat) (K : AV → Heap → Option ρ) (s0 : Nat) (s1 : Nat) (g2 : Nat) (g3 : Nat → Int) (g4 : Nat → Int) (g5 : Nat → Int) :
    xbody (E42 N) ents slices_IndexFunc_sf.kp N Go.Proofs.Try.f117 slices_IndexFunc_sf.bd [.slice 0 0 s0 (some s1) 8, .fn 106 [[(1, 1)]]] [⟨false, .ints .u8 g2 g3⟩, ⟨false, .avs [.sptr [(2, 2), (3, 520)]]⟩, ⟨false, .ints .i64 2 g4⟩, ⟨false, .ints .u8 520 g5⟩] K = (slices_IndexFunc_sf.s N (fun d0 => K (.int .i64 (d0)) [⟨false, .ints .u8 g2 g3⟩, ⟨false, .avs [.sptr [(2, 2), (3, 520)]]⟩, ⟨false, .ints .i64 2 g4⟩, ⟨false, .ints .u8 520 g5⟩]) (fun x6 => xloop (xcode (E42 N) ents slices_IndexFunc_sf.kp 4 N (cL (cK (cB (cA (cB slices_IndexFunc_sf.bd))))) 0) slices_IndexFunc_sf.kp 4 0 N (slices_IndexFunc_sf.st0 s0 s1 g2 g3 g4 g5 x6) (slices_IndexFunc_sf.k0 N K g2 g3 g4 g5))) := by kernel_rfl

theorem slices_IndexFunc_sf.eq {ρ : Type} (N : Nat) (K : AV → Heap → Option ρ) (s0 : Nat) (s1 : Nat) (g2 : Nat) (g3 : Nat → Int) (g4 : Nat → Int) (g5 : Nat → Int) :
    xbody (E42 N) ents slices_IndexFunc_sf.kp N Go.Proofs.Try.f117 slices_IndexFunc_sf.bd [.slice 0 0 s0 (some s1) 8, .fn 106 [[(1, 1)]]] [⟨false, .ints .u8 g2 g3⟩, ⟨false, .avs [.sptr [(2, 2), (3, 520)]]⟩, ⟨false, .ints .i64 2 g4⟩, ⟨false, .ints .u8 520 g5⟩] K = (slices_IndexFunc_sf N (fun d0 => K (.int .i64 (d0)) [⟨false, .ints .u8 g2 g3⟩, ⟨false, .avs [.sptr [(2, 2), (3, 520)]]⟩, ⟨false, .ints .i64 2 g4⟩, ⟨false, .ints .u8 520 g5⟩]) s0 s1 g2 g3 g4 g5) := by
  refine (slices_IndexFunc_sf.s_eq N K s0 s1 g2 g3 g4 g5).trans ?_
  simp only [slices_IndexFunc_sf.l0_eq, slices_IndexFunc_sf.a0_0_eq]
  kernel_rfl

noncomputable def slices_IndexFunc_nf.en (N : Nat) (ρ : Type) : List AV → Heap → (AV → Heap → Option ρ) → Option ρ
  | [.nils, .fn 106 [[(0, 1)]]], [⟨false, .avs [.sptr [(1, 2), (2, 520)]]⟩, ⟨false, .ints .i64 2 g0⟩, ⟨false, .ints .u8 520 g1⟩], K => (slices_IndexFunc_nf N (fun d0 => K (.int .i64 (d0)) [⟨false, .avs [.sptr [(1, 2), (2, 520)]]⟩, ⟨false, .ints .i64 2 g0⟩, ⟨false, .ints .u8 520 g1⟩]) g0 g1)
  | [.slice 0 0 s0 (some s1) 8, .fn 106 [[(1, 1)]]], [⟨false, .ints .u8 g2 g3⟩, ⟨false, .avs [.sptr [(2, 2), (3, 520)]]⟩, ⟨false, .ints .i64 2 g4⟩, ⟨false, .ints .u8 520 g5⟩], K => (slices_IndexFunc_sf N (fun d0 => K (.int .i64 (d0)) [⟨false, .ints .u8 g2 g3⟩, ⟨false, .avs [.sptr [(2, 2), (3, 520)]]⟩, ⟨false, .ints .i64 2 g4⟩, ⟨false, .ints .u8 520 g5⟩]) s0 s1 g2 g3 g4 g5)
  | _, _, _ => none

theorem slices_IndexFunc_nf.en_ok (N : Nat) (hE : EnvOk (E42 N) ents) (ρ : Type) (args : List AV) (sh : Heap) (K : AV → Heap → Option ρ) (r : ρ) (h : slices_IndexFunc_nf.en N ρ args sh K = some r) : ∃ v sh', K v sh' = some r ∧ FnOk (E42 N).P 117 args sh v sh' := by
  unfold slices_IndexFunc_nf.en at h
  split at h
  · exact fn_ok hE (kp := slices_IndexFunc_nf.kp) (N := N) Go.Proofs.Try.func117 (c := slices_IndexFunc_nf.bd) (by kernel_rfl) ((slices_IndexFunc_nf.eq N _ _ _).trans h)
  · exact fn_ok hE (kp := slices_IndexFunc_sf.kp) (N := N) Go.Proofs.Try.func117 (c := slices_IndexFunc_sf.bd) (by kernel_rfl) ((slices_IndexFunc_sf.eq N _ _ _ _ _ _ _).trans h)
  · cases h

noncomputable def E43 (N : Nat) : Env := (E42 N).add 117 (slices_IndexFunc_nf.en N)

theorem E43_ok (N : Nat) : EnvOk (E43 N) ents := Env.add_ok (E42_ok N) (slices_IndexFunc_nf.en_ok N (E42_ok N))

noncomputable def slices_ContainsFunc_nf.kp : Keeps := ⟨[], []⟩

noncomputable def slices_ContainsFunc_nf.bd : Code := bodyOf Go.Proofs.Try.f105

noncomputable def slices_ContainsFunc_nf.fin {ρ : Type} (N : Nat) (K : AV → Heap → Option ρ) (g0 : Nat → Int) (g1 : Nat → Int) : XE → St → Option ρ := finK (E43 N) Go.Proofs.Try.f105 [⟨false, .avs [.sptr [(1, 2), (2, 520)]]⟩, ⟨false, .ints .i64 2 g0⟩, ⟨false, .ints .u8 520 g1⟩] K

theorem slices_ContainsFunc_nf.eq {ρ : Type} (N : Nat) (K : AV → Heap → Option ρ) (g0 : Nat → Int) (g1 : Nat → Int) :
    xbody (E43 N) ents slices_ContainsFunc_nf.kp N Go.Proofs.Try.f105 slices_ContainsFunc_nf.bd [.nils, .fn 106 [[(0, 1)]]] [⟨false, .avs [.sptr [(1, 2), (2, 520)]]⟩, ⟨false, .ints .i64 2 g0⟩, ⟨false, .ints .u8 520 g1⟩] K = (slices_ContainsFunc_nf N (fun d0 => K (.bool (d0)) [⟨false, .avs [.sptr [(1, 2), (2, 520)]]⟩, ⟨false, .ints .i64 2 g0⟩, ⟨false, .ints .u8 520 g1⟩]) g0 g1) := by kernel_rfl

noncomputable def slices_ContainsFunc_sf.kp : Keeps := ⟨[], []⟩

noncomputable def slices_ContainsFunc_sf.bd : Code := bodyOf Go.Proofs.Try.f105

noncomputable def slices_ContainsFunc_sf.fin {ρ : Type} (N : Nat) (K : AV → Heap → Option ρ) (g2 : Nat) (g3 : Nat → Int) (g4 : Nat → Int) (g5 : Nat → Int) : XE → St → Option ρ := finK (E43 N) Go.Proofs.Try.f105 [⟨false, .ints .u8 g2 g3⟩, ⟨false, .avs [.sptr [(2, 2), (3, 520)]]⟩, ⟨false, .ints .i64 2 g4⟩, ⟨false, .ints .u8 520 g5⟩] K

theorem slices_ContainsFunc_sf.eq {ρ : Type} (N : Nat) (K : AV → Heap → Option ρ) (s0 : Nat) (s1 : Nat) (g2 : Nat) (g3 : Nat → Int) (g4 : Nat → Int) (g5 : Nat → Int) :
    xbody (E43 N) ents slices_ContainsFunc_sf.kp N Go.Proofs.Try.f105 slices_ContainsFunc_sf.bd [.slice 0 0 s0 (some s1) 8, .fn 106 [[(1, 1)]]] [⟨false, .ints .u8 g2 g3⟩, ⟨false, .avs [.sptr [(2, 2), (3, 520)]]⟩, ⟨false, .ints .i64 2 g4⟩, ⟨false, .ints .u8 520 g5⟩] K = (slices_ContainsFunc_sf N (fun d0 => K (.bool (d0)) [⟨false, .ints .u8 g2 g3⟩, ⟨false, .avs [.sptr [(2, 2), (3, 520)]]⟩, ⟨false, .ints .i64 2 g4⟩, ⟨false, .ints .u8 520 g5⟩]) s0 s1 g2 g3 g4 g5) := by kernel_rfl

noncomputable def slices_ContainsFunc_nf.en (N : Nat) (ρ : Type) : List AV → Heap → (AV → Heap → Option ρ) → Option ρ
  | [.nils, .fn 106 [[(0, 1)]]], [⟨false, .avs [.sptr [(1, 2), (2, 520)]]⟩, ⟨false, .ints .i64 2 g0⟩, ⟨false, .ints .u8 520 g1⟩], K => (slices_ContainsFunc_nf N (fun d0 => K (.bool (d0)) [⟨false, .avs [.sptr [(1, 2), (2, 520)]]⟩, ⟨false, .ints .i64 2 g0⟩, ⟨false, .ints .u8 520 g1⟩]) g0 g1)
  | [.slice 0 0 s0 (some s1) 8, .fn 106 [[(1, 1)]]], [⟨false, .ints .u8 g2 g3⟩, ⟨false, .avs [.sptr [(2, 2), (3, 520)]]⟩, ⟨false, .ints .i64 2 g4⟩, ⟨false, .ints .u8 520 g5⟩], K => (slices_ContainsFunc_sf N (fun d0 => K (.bool (d0)) [⟨false, .ints .u8 g2 g3⟩, ⟨false, .avs [.sptr [(2, 2), (3, 520)]]⟩, ⟨false, .ints .i64 2 g4⟩, ⟨false, .ints .u8 520 g5⟩]) s0 s1 g2 g3 g4 g5)
  | _, _, _ => none

theorem slices_ContainsFunc_nf.en_ok (N : Nat) (hE : EnvOk (E43 N) ents) (ρ : Type) (args : List AV) (sh : Heap) (K : AV → Heap → Option ρ) (r : ρ) (h : slices_ContainsFunc_nf.en N ρ args sh K = some r) : ∃ v sh', K v sh' = some r ∧ FnOk (E43 N).P 105 args sh v sh' := by
  unfold slices_ContainsFunc_nf.en at h
  split at h
  · exact fn_ok hE (kp := slices_ContainsFunc_nf.kp) (N := N) Go.Proofs.Try.func105 (c := slices_ContainsFunc_nf.bd) (by kernel_rfl) ((slices_ContainsFunc_nf.eq N _ _ _).trans h)
  · exact fn_ok hE (kp := slices_ContainsFunc_sf.kp) (N := N) Go.Proofs.Try.func105 (c := slices_ContainsFunc_sf.bd) (by kernel_rfl) ((slices_ContainsFunc_sf.eq N _ _ _ _ _ _ _).trans h)
  · cases h

noncomputable def E44 (N : Nat) : Env := (E43 N).add 105 (slices_ContainsFunc_nf.en N)

theorem E44_ok (N : Nat) : EnvOk (E44 N) ents := Env.add_ok (E43_ok N) (slices_ContainsFunc_nf.en_ok N (E43_ok N))

noncomputable def impl_Algebra_has_n.kp : Keeps := ⟨[], []⟩

noncomputable def impl_Algebra_has_n.bd : Code := bodyOf Go.Proofs.Try.f89

noncomputable def impl_Algebra_has_n.fin {ρ : Type} (N : Nat) (K : AV → Heap → Option ρ) (g0 : Nat → Int) (g1 : Nat → Int) : XE → St → Option ρ := finK (E44 N) Go.Proofs.Try.f89 [⟨false, .ints .i64 2 g0⟩, ⟨false, .ints .u8 520 g1⟩] K

theorem impl_Algebra_has_n.eq {ρ : Type} (N : Nat) (K : AV → Heap → Option ρ) (g0 : Nat → Int) (g1 : Nat → Int) :
    xbody (E44 N) ents impl_Algebra_has_n.kp N Go.Proofs.Try.f89 impl_Algebra_has_n.bd [.sptr [(0, 2), (1, 520)], .nils] [⟨false, .ints .i64 2 g0⟩, ⟨false, .ints .u8 520 g1⟩] K = (impl_Algebra_has_n N (fun d0 => K (.bool (d0)) [⟨false, .ints .i64 2 g0⟩, ⟨false, .ints .u8 520 g1⟩]) g0 g1) := by kernel_rfl

noncomputable def impl_Algebra_has_s.kp : Keeps := ⟨[], []⟩

noncomputable def impl_Algebra_has_s.bd : Code := bodyOf Go.Proofs.Try.f89

noncomputable def impl_Algebra_has_s.fin {ρ : Type} (N : Nat) (K : AV → Heap → Option ρ) (g2 : Nat → Int) (g3 : Nat → Int) (g4 : Nat) (g5 : Nat → Int) : XE → St → Option ρ := finK (E44 N) Go.Proofs.Try.f89 [⟨false, .ints .i64 2 g2⟩, ⟨false, .ints .u8 520 g3⟩, ⟨false, .ints .u8 g4 g5⟩] K

theorem impl_Algebra_has_s.eq {ρ : Type} (N : Nat) (K : AV → Heap → Option ρ) (list0 : Nat) (list1 : Nat) (g2 : Nat → Int) (g3 : Nat → Int) (g4 : Nat) (g5 : Nat → Int) :
    xbody (E44 N) ents impl_Algebra_has_s.kp N Go.Proofs.Try.f89 impl_Algebra_has_s.bd [.sptr [(0, 2), (1, 520)], .slice 2 0 list0 (some list1) 8] [⟨false, .ints .i64 2 g2⟩, ⟨false, .ints .u8 520 g3⟩, ⟨false, .ints .u8 g4 g5⟩] K = (impl_Algebra_has_s N (fun d0 => K (.bool (d0)) [⟨false, .ints .i64 2 g2⟩, ⟨false, .ints .u8 520 g3⟩, ⟨false, .ints .u8 g4 g5⟩]) list0 list1 g2 g3 g4 g5) := by kernel_rfl

noncomputable def impl_Algebra_has_n.en (N : Nat) (ρ : Type) : List AV → Heap → (AV → Heap → Option ρ) → Option ρ
  | [.sptr [(0, 2), (1, 520)], .nils], [⟨false, .ints .i64 2 g0⟩, ⟨false, .ints .u8 520 g1⟩], K => (impl_Algebra_has_n N (fun d0 => K (.bool (d0)) [⟨false, .ints .i64 2 g0⟩, ⟨false, .ints .u8 520 g1⟩]) g0 g1)
  | [.sptr [(0, 2), (1, 520)], .slice 2 0 list0 (some list1) 8], [⟨false, .ints .i64 2 g2⟩, ⟨false, .ints .u8 520 g3⟩, ⟨false, .ints .u8 g4 g5⟩], K => (impl_Algebra_has_s N (fun d0 => K (.bool (d0)) [⟨false, .ints .i64 2 g2⟩, ⟨false, .ints .u8 520 g3⟩, ⟨false, .ints .u8 g4 g5⟩]) list0 list1 g2 g3 g4 g5)
  | _, _, _ => none

theorem impl_Algebra_has_n.en_ok (N : Nat) (hE : EnvOk (E44 N) ents) (ρ : Type) (args : List AV) (sh : Heap) (K : AV → Heap → Option ρ) (r : ρ) (h : impl_Algebra_has_n.en N ρ args sh K = some r) : ∃ v sh', K v sh' = some r ∧ FnOk (E44 N).P 89 args sh v sh' := by
  unfold impl_Algebra_has_n.en at h
  split at h
  · exact fn_ok hE (kp := impl_Algebra_has_n.kp) (N := N) Go.Proofs.Try.func89 (c := impl_Algebra_has_n.bd) (by kernel_rfl) ((impl_Algebra_has_n.eq N _ _ _).trans h)
  · exact fn_ok hE (kp := impl_Algebra_has_s.kp) (N := N) Go.Proofs.Try.func89 (c := impl_Algebra_has_s.bd) (by kernel_rfl) ((impl_Algebra_has_s.eq N _ _ _ _ _ _ _).trans h)
  · cases h

noncomputable def E45 (N : Nat) : Env := (E44 N).add 89 (impl_Algebra_has_n.en N)

theorem E45_ok (N : Nat) : EnvOk (E45 N) ents := Env.add_ok (E44_ok N) (impl_Algebra_has_n.en_ok N (E44_ok N))

noncomputable def impl_Algebra_code_n.kp : Keeps := ⟨[], []⟩

noncomputable def impl_Algebra_code_n.bd : Code := bodyOf Go.Proofs.Try.f57

noncomputable def impl_Algebra_code_n.fin {ρ : Type} (N : Nat) (K : AV → Heap → Option ρ) (g0 : Nat → Int) (g1 : Nat → Int) : XE → St → Option ρ := finK (E45 N) Go.Proofs.Try.f57 [⟨false, .ints .i64 2 g0⟩, ⟨false, .ints .u8 520 g1⟩] K

theorem impl_Algebra_code_n.eq {ρ : Type} (N : Nat) (K : AV → Heap → Option ρ) (g0 : Nat → Int) (g1 : Nat → Int) :
    xbody (E45 N) ents impl_Algebra_code_n.kp N Go.Proofs.Try.f57 impl_Algebra_code_n.bd [.sptr [(0, 2), (1, 520)], .nils] [⟨false, .ints .i64 2 g0⟩, ⟨false, .ints .u8 520 g1⟩] K = (impl_Algebra_code_n N (fun d0 => K (.int .i64 (d0)) [⟨false, .ints .i64 2 g0⟩, ⟨false, .ints .u8 520 g1⟩]) g0 g1) := by kernel_rfl

noncomputable def impl_Algebra_code_s16.kp : Keeps := ⟨[], []⟩

noncomputable def impl_Algebra_code_s16.bd : Code := bodyOf Go.Proofs.Try.f57

noncomputable def impl_Algebra_code_s16.fin {ρ : Type} (N : Nat) (K : AV → Heap → Option ρ) (g2 : Nat → Int) (g3 : Nat → Int) (g4 : Nat → Int) : XE → St → Option ρ := finK (E45 N) Go.Proofs.Try.f57 [⟨false, .ints .i64 2 g2⟩, ⟨false, .ints .u8 520 g3⟩, ⟨false, .ints .u8 16 g4⟩] K

theorem impl_Algebra_code_s16.eq {ρ : Type} (N : Nat) (K : AV → Heap → Option ρ) (list0 : Nat) (list1 : Nat) (g2 : Nat → Int) (g3 : Nat → Int) (g4 : Nat → Int) :
    xbody (E45 N) ents impl_Algebra_code_s16.kp N Go.Proofs.Try.f57 impl_Algebra_code_s16.bd [.sptr [(0, 2), (1, 520)], .slice 2 0 list0 (some list1) 8] [⟨false, .ints .i64 2 g2⟩, ⟨false, .ints .u8 520 g3⟩, ⟨false, .ints .u8 16 g4⟩] K = (impl_Algebra_code_s16 N (fun d0 => K (.int .i64 (d0)) [⟨false, .ints .i64 2 g2⟩, ⟨false, .ints .u8 520 g3⟩, ⟨false, .ints .u8 16 g4⟩]) list0 list1 g2 g3 g4) := by kernel_rfl

noncomputable def impl_Algebra_code_s8.kp : Keeps := ⟨[], []⟩

noncomputable def impl_Algebra_code_s8.bd : Code := bodyOf Go.Proofs.Try.f57

noncomputable def impl_Algebra_code_s8.fin {ρ : Type} (N : Nat) (K : AV → Heap → Option ρ) (g2 : Nat → Int) (g3 : Nat → Int) (g4 : Nat → Int) : XE → St → Option ρ := finK (E45 N) Go.Proofs.Try.f57 [⟨false, .ints .i64 2 g2⟩, ⟨false, .ints .u8 520 g3⟩, ⟨false, .ints .u8 8 g4⟩] K

theorem impl_Algebra_code_s8.eq {ρ : Type} (N : Nat) (K : AV → Heap → Option ρ) (list0 : Nat) (list1 : Nat) (g2 : Nat → Int) (g3 : Nat → Int) (g4 : Nat → Int) :
    xbody (E45 N) ents impl_Algebra_code_s8.kp N Go.Proofs.Try.f57 impl_Algebra_code_s8.bd [.sptr [(0, 2), (1, 520)], .slice 2 0 list0 (some list1) 8] [⟨false, .ints .i64 2 g2⟩, ⟨false, .ints .u8 520 g3⟩, ⟨false, .ints .u8 8 g4⟩] K = (impl_Algebra_code_s8 N (fun d0 => K (.int .i64 (d0)) [⟨false, .ints .i64 2 g2⟩, ⟨false, .ints .u8 520 g3⟩, ⟨false, .ints .u8 8 g4⟩]) list0 list1 g2 g3 g4) := by kernel_rfl

noncomputable def impl_Algebra_code_n.en (N : Nat) (ρ : Type) : List AV → Heap → (AV → Heap → Option ρ) → Option ρ
  | [.sptr [(0, 2), (1, 520)], .nils], [⟨false, .ints .i64 2 g0⟩, ⟨false, .ints .u8 520 g1⟩], K => (impl_Algebra_code_n N (fun d0 => K (.int .i64 (d0)) [⟨false, .ints .i64 2 g0⟩, ⟨false, .ints .u8 520 g1⟩]) g0 g1)
  | [.sptr [(0, 2), (1, 520)], .slice 2 0 list0 (some list1) 8], [⟨false, .ints .i64 2 g2⟩, ⟨false, .ints .u8 520 g3⟩, ⟨false, .ints .u8 16 g4⟩], K => (impl_Algebra_code_s16 N (fun d0 => K (.int .i64 (d0)) [⟨false, .ints .i64 2 g2⟩, ⟨false, .ints .u8 520 g3⟩, ⟨false, .ints .u8 16 g4⟩]) list0 list1 g2 g3 g4)
  | [.sptr [(0, 2), (1, 520)], .slice 2 0 list0 (some list1) 8], [⟨false, .ints .i64 2 g2⟩, ⟨false, .ints .u8 520 g3⟩, ⟨false, .ints .u8 8 g4⟩], K => (impl_Algebra_code_s8 N (fun d0 => K (.int .i64 (d0)) [⟨false, .ints .i64 2 g2⟩, ⟨false, .ints .u8 520 g3⟩, ⟨false, .ints .u8 8 g4⟩]) list0 list1 g2 g3 g4)
  | _, _, _ => none

theorem impl_Algebra_code_n.en_ok (N : Nat) (hE : EnvOk (E45 N) ents) (ρ : Type) (args : List AV) (sh : Heap) (K : AV → Heap → Option ρ) (r : ρ) (h : impl_Algebra_code_n.en N ρ args sh K = some r) : ∃ v sh', K v sh' = some r ∧ FnOk (E45 N).P 57 args sh v sh' := by
  unfold impl_Algebra_code_n.en at h
  split at h
  · exact fn_ok hE (kp := impl_Algebra_code_n.kp) (N := N) Go.Proofs.Try.func57 (c := impl_Algebra_code_n.bd) (by kernel_rfl) ((impl_Algebra_code_n.eq N _ _ _).trans h)
  · exact fn_ok hE (kp := impl_Algebra_code_s16.kp) (N := N) Go.Proofs.Try.func57 (c := impl_Algebra_code_s16.bd) (by kernel_rfl) ((impl_Algebra_code_s16.eq N _ _ _ _ _ _).trans h)
  · exact fn_ok hE (kp := impl_Algebra_code_s8.kp) (N := N) Go.Proofs.Try.func57 (c := impl_Algebra_code_s8.bd) (by kernel_rfl) ((impl_Algebra_code_s8.eq N _ _ _ _ _ _).trans h)
  · cases h

noncomputable def E46 (N : Nat) : Env := (E45 N).add 57 (impl_Algebra_code_n.en N)

theorem E46_ok (N : Nat) : EnvOk (E46 N) ents := Env.add_ok (E45_ok N) (impl_Algebra_code_n.en_ok N (E45_ok N))

noncomputable def impl_Algebra_opposite.kp : Keeps := ⟨[(0, [1, 2, 3, 7], 6), (2, [1, 2, 3, 4, 7, 10], 6)], [(0, [2, 3], 6), (2, [1, 2, 3, 7], 6)]⟩

noncomputable def impl_Algebra_opposite.bd : Code := bodyOf Go.Proofs.Try.f58

noncomputable def impl_Algebra_opposite.fin {ρ : Type} (N : Nat) (K : AV → Heap → Option ρ) : XE → St → Option ρ := finK (E46 N) Go.Proofs.Try.f58 [] K

noncomputable def impl_Algebra_opposite.k0 {ρ : Type} (N : Nat) (K : AV → Heap → Option ρ) : XE → St → Option ρ := (blockK impl_Algebra_opposite.kp 0 0 (seqK (xcode (E46 N) ents impl_Algebra_opposite.kp 0 N (cB (cB (cB impl_Algebra_opposite.bd))) 0) (impl_Algebra_opposite.fin N K)))

theorem impl_Algebra_opposite.k0_mix {ρ : Type} (N : Nat) (K : AV → Heap → Option ρ) : mixK (impl_Algebra_opposite.fin N K .ret) (impl_Algebra_opposite.k0 N K) = (impl_Algebra_opposite.k0 N K) := by
  funext e s; cases e <;> rfl

noncomputable def impl_Algebra_opposite.st0 (a0 : Nat → Int) (a1 : Nat → Int) (x2 : Int) (g3 : Nat → Int) : St := ⟨sl 27 [(1, .sptr [(0, 2), (1, 520)]), (2, .sptr [(2, 2), (3, 520)]), (3, .sptr [(4, 2), (5, 520)]), (7, .int .i64 (x2))], [⟨true, .ints .i64 2 a0⟩, ⟨true, .ints .u8 520 a1⟩, ⟨true, .ints .i64 2 (fun _ => 0)⟩, ⟨true, .ints .u8 520 (fun _ => 0)⟩, ⟨true, .ints .i64 2 a0⟩, ⟨true, .ints .u8 520 g3⟩]⟩

noncomputable def impl_Algebra_opposite.sx0_0 (a0 : Nat → Int) (a1 : Nat → Int) (o7 : Nat → Int) : St := ⟨sl 27 [(2, .sptr [(2, 2), (3, 520)]), (3, .sptr [(4, 2), (5, 520)])], [⟨true, .ints .i64 2 a0⟩, ⟨true, .ints .u8 520 a1⟩, ⟨true, .ints .i64 2 (fun _ => 0)⟩, ⟨true, .ints .u8 520 (fun _ => 0)⟩, ⟨true, .ints .i64 2 a0⟩, ⟨true, .ints .u8 520 o7⟩]⟩

noncomputable def impl_Algebra_opposite.k1g {ρ : Type} (N : Nat) (L0 : St → Option ρ) (kv : XE → St → Option ρ) : XE → St → Option ρ := (blockK impl_Algebra_opposite.kp 0 2 (blockK impl_Algebra_opposite.kp 0 1 (seqK (xcode (E46 N) ents impl_Algebra_opposite.kp 0 N (cB (cB (cB (cL (cK (cB (cA (cB (cB impl_Algebra_opposite.bd))))))))) 0) (roundK impl_Algebra_opposite.kp 0 0 L0 kv))))

theorem impl_Algebra_opposite.k1_mix {ρ : Type} (N : Nat) (K : AV → Heap → Option ρ) (L0 : St → Option ρ) : mixK (impl_Algebra_opposite.fin N K .ret) (impl_Algebra_opposite.k1g N L0 (impl_Algebra_opposite.k0 N K)) = (impl_Algebra_opposite.k1g N L0 (impl_Algebra_opposite.k0 N K)) := by
  funext e s; cases e <;> rfl

noncomputable def impl_Algebra_opposite.st1 (a0 : Nat → Int) (a1 : Nat → Int) (x2 : Int) (x4 : Int) (g5 : Nat → Int) : St := ⟨sl 27 [(1, .sptr [(0, 2), (1, 520)]), (2, .sptr [(2, 2), (3, 520)]), (3, .sptr [(4, 2), (5, 520)]), (4, .int .i64 (x2)), (7, .int .i64 (x2)), (10, .int .i64 (x4))], [⟨true, .ints .i64 2 a0⟩, ⟨true, .ints .u8 520 a1⟩, ⟨true, .ints .i64 2 (fun _ => 0)⟩, ⟨true, .ints .u8 520 (fun _ => 0)⟩, ⟨true, .ints .i64 2 a0⟩, ⟨true, .ints .u8 520 g5⟩]⟩

noncomputable def impl_Algebra_opposite.sx1_0 (a0 : Nat → Int) (a1 : Nat → Int) (x2 : Int) (o6 : Nat → Int) : St := ⟨sl 27 [(1, .sptr [(0, 2), (1, 520)]), (2, .sptr [(2, 2), (3, 520)]), (3, .sptr [(4, 2), (5, 520)]), (7, .int .i64 (x2))], [⟨true, .ints .i64 2 a0⟩, ⟨true, .ints .u8 520 a1⟩, ⟨true, .ints .i64 2 (fun _ => 0)⟩, ⟨true, .ints .u8 520 (fun _ => 0)⟩, ⟨true, .ints .i64 2 a0⟩, ⟨true, .ints .u8 520 o6⟩]⟩

theorem impl_Algebra_opposite.b1_gen {ρ : Type} (N : Nat) (K : AV → Heap → Option ρ) (L1 : St → Option ρ) (kv : XE → St → Option ρ) (a0 : Nat → Int) (a1 : Nat → Int) (x2 : Int) (x4 : Int) (g5 : Nat → Int) :
    xcode (E46 N) ents impl_Algebra_opposite.kp 0 N (cL (cK (cB (cB (cK (cA (cB (cB (cL (cK (cB (cA (cB (cB impl_Algebra_opposite.bd)))))))))))))) 2 (impl_Algebra_opposite.st1 a0 a1 x2 x4 g5) (roundK impl_Algebra_opposite.kp 0 2 L1 (mixK (impl_Algebra_opposite.fin N K .ret) kv)) = (impl_Algebra_opposite.b1 N (fun d0 d1 => K (.agg [⟨.i64, 2, d0⟩, ⟨.u8, 520, d1⟩]) []) (fun x4 g5 => L1 (impl_Algebra_opposite.st1 a0 a1 x2 x4 g5)) (fun o6 => kv (.exit 2) (impl_Algebra_opposite.sx1_0 a0 a1 x2 o6)) a1 x2 x4 g5) := by kernel_rfl

theorem impl_Algebra_opposite.b1_eq {ρ : Type} (N : Nat) (K : AV → Heap → Option ρ) (L0 : St → Option ρ) (L1 : St → Option ρ) (a0 : Nat → Int) (a1 : Nat → Int) (x2 : Int) (x4 : Int) (g5 : Nat → Int) :
    xcode (E46 N) ents impl_Algebra_opposite.kp 0 N (cL (cK (cB (cB (cK (cA (cB (cB (cL (cK (cB (cA (cB (cB impl_Algebra_opposite.bd)))))))))))))) 2 (impl_Algebra_opposite.st1 a0 a1 x2 x4 g5) (roundK impl_Algebra_opposite.kp 0 2 L1 (impl_Algebra_opposite.k1g N L0 (impl_Algebra_opposite.k0 N K))) = (impl_Algebra_opposite.b1 N (fun d0 d1 => K (.agg [⟨.i64, 2, d0⟩, ⟨.u8, 520, d1⟩]) []) (fun x4 g5 => L1 (impl_Algebra_opposite.st1 a0 a1 x2 x4 g5)) (fun o6 => (impl_Algebra_opposite.k1g N L0 (impl_Algebra_opposite.k0 N K)) (.exit 2) (impl_Algebra_opposite.sx1_0 a0 a1 x2 o6)) a1 x2 x4 g5) := by
  have h := impl_Algebra_opposite.b1_gen N K L1 (impl_Algebra_opposite.k1g N L0 (impl_Algebra_opposite.k0 N K)) a0 a1 x2 x4 g5
  rw [impl_Algebra_opposite.k1_mix] at h
  exact h

theorem impl_Algebra_opposite.a1_0_gen {ρ : Type} (N : Nat) (K : AV → Heap → Option ρ) (L0 : St → Option ρ) (kv : XE → St → Option ρ) (a0 : Nat → Int) (a1 : Nat → Int) (x2 : Int) (o6 : Nat → Int) :
    (impl_Algebra_opposite.k1g N L0 (mixK (impl_Algebra_opposite.fin N K .ret) kv)) (.exit 2) (impl_Algebra_opposite.sx1_0 a0 a1 x2 o6) = (impl_Algebra_opposite.a1_0 N (fun d0 d1 => K (.agg [⟨.i64, 2, d0⟩, ⟨.u8, 520, d1⟩]) []) (fun x2 g3 => L0 (impl_Algebra_opposite.st0 a0 a1 x2 g3)) (fun o7 => kv (.exit 0) (impl_Algebra_opposite.sx0_0 a0 a1 o7)) x2 o6) := by kernel_rfl

theorem impl_Algebra_opposite.a1_0_eq {ρ : Type} (N : Nat) (K : AV → Heap → Option ρ) (L0 : St → Option ρ) (a0 : Nat → Int) (a1 : Nat → Int) (x2 : Int) (o6 : Nat → Int) :
    (impl_Algebra_opposite.k1g N L0 (impl_Algebra_opposite.k0 N K)) (.exit 2) (impl_Algebra_opposite.sx1_0 a0 a1 x2 o6) = (impl_Algebra_opposite.a1_0 N (fun d0 d1 => K (.agg [⟨.i64, 2, d0⟩, ⟨.u8, 520, d1⟩]) []) (fun x2 g3 => L0 (impl_Algebra_opposite.st0 a0 a1 x2 g3)) (fun o7 => (impl_Algebra_opposite.k0 N K) (.exit 0) (impl_Algebra_opposite.sx0_0 a0 a1 o7)) x2 o6) := by
  have h := impl_Algebra_opposite.a1_0_gen N K L0 (impl_Algebra_opposite.k0 N K) a0 a1 x2 o6
  rw [impl_Algebra_opposite.k0_mix] at h
  exact h

theorem impl_Algebra_opposite.b0_gen {ρ : Type} (N : Nat) (K : AV → Heap → Option ρ) (L0 : St → Option ρ) (kv : XE → St → Option ρ) (a0 : Nat → Int) (a1 : Nat → Int) (x2 : Int) (g3 : Nat → Int) :
    xcode (E46 N) ents impl_Algebra_opposite.kp 0 N (cL (cK (cB (cA (cB (cB impl_Algebra_opposite.bd)))))) 0 (impl_Algebra_opposite.st0 a0 a1 x2 g3) (roundK impl_Algebra_opposite.kp 0 0 L0 (mixK (impl_Algebra_opposite.fin N K .ret) kv)) = (impl_Algebra_opposite.b0 N (fun d0 d1 => K (.agg [⟨.i64, 2, d0⟩, ⟨.u8, 520, d1⟩]) []) (fun x4 g5 => xloop (xcode (E46 N) ents impl_Algebra_opposite.kp 0 N (cL (cK (cB (cB (cK (cA (cB (cB (cL (cK (cB (cA (cB (cB impl_Algebra_opposite.bd)))))))))))))) 2) impl_Algebra_opposite.kp 0 2 N (impl_Algebra_opposite.st1 a0 a1 x2 x4 g5) (impl_Algebra_opposite.k1g N L0 (mixK (impl_Algebra_opposite.fin N K .ret) kv))) (fun x2 g3 => L0 (impl_Algebra_opposite.st0 a0 a1 x2 g3)) (fun o7 => kv (.exit 0) (impl_Algebra_opposite.sx0_0 a0 a1 o7)) x2 g3) := by kernel_rfl

theorem impl_Algebra_opposite.b0_eq {ρ : Type} (N : Nat) (K : AV → Heap → Option ρ) (L0 : St → Option ρ) (a0 : Nat → Int) (a1 : Nat → Int) (x2 : Int) (g3 : Nat → Int) :
    xcode (E46 N) ents impl_Algebra_opposite.kp 0 N (cL (cK (cB (cA (cB (cB impl_Algebra_opposite.bd)))))) 0 (impl_Algebra_opposite.st0 a0 a1 x2 g3) (roundK impl_Algebra_opposite.kp 0 0 L0 (impl_Algebra_opposite.k0 N K)) = (impl_Algebra_opposite.b0 N (fun d0 d1 => K (.agg [⟨.i64, 2, d0⟩, ⟨.u8, 520, d1⟩]) []) (fun x4 g5 => xloop (xcode (E46 N) ents impl_Algebra_opposite.kp 0 N (cL (cK (cB (cB (cK (cA (cB (cB (cL (cK (cB (cA (cB (cB impl_Algebra_opposite.bd)))))))))))))) 2) impl_Algebra_opposite.kp 0 2 N (impl_Algebra_opposite.st1 a0 a1 x2 x4 g5) (impl_Algebra_opposite.k1g N L0 (impl_Algebra_opposite.k0 N K))) (fun x2 g3 => L0 (impl_Algebra_opposite.st0 a0 a1 x2 g3)) (fun o7 => (impl_Algebra_opposite.k0 N K) (.exit 0) (impl_Algebra_opposite.sx0_0 a0 a1 o7)) x2 g3) := by
  have h := impl_Algebra_opposite.b0_gen N K L0 (impl_Algebra_opposite.k0 N K) a0 a1 x2 g3
  rw [impl_Algebra_opposite.k0_mix] at h
  exact h

theorem impl_Algebra_opposite.a0_0_eq {ρ : Type} (N : Nat) (K : AV → Heap → Option ρ) (a0 : Nat → Int) (a1 : Nat → Int) (o7 : Nat → Int) :
    (impl_Algebra_opposite.k0 N K) (.exit 0) (impl_Algebra_opposite.sx0_0 a0 a1 o7) = (impl_Algebra_opposite.a0_0 N (fun d0 d1 => K (.agg [⟨.i64, 2, d0⟩, ⟨.u8, 520, d1⟩]) []) a0 o7) := by kernel_rfl

theorem impl_Algebra_opposite.l1_eq {ρ : Type} (N : Nat) (K : AV → Heap → Option ρ) (L0 : St → Option ρ) (a0 : Nat → Int) (a1 : Nat → Int) (x2 : Int) :
    ∀ (m : Nat) (x4 : Int) (g5 : Nat → Int), xloop (xcode (E46 N) ents impl_Algebra_opposite.kp 0 N (cL (cK (cB (cB (cK (cA (cB (cB (cL (cK (cB (cA (cB (cB impl_Algebra_opposite.bd)))))))))))))) 2) impl_Algebra_opposite.kp 0 2 m (impl_Algebra_opposite.st1 a0 a1 x2 x4 g5) (impl_Algebra_opposite.k1g N L0 (impl_Algebra_opposite.k0 N K)) = (impl_Algebra_opposite.l1 N (fun d0 d1 => K (.agg [⟨.i64, 2, d0⟩, ⟨.u8, 520, d1⟩]) []) a1 x2 (fun o6 => (impl_Algebra_opposite.k1g N L0 (impl_Algebra_opposite.k0 N K)) (.exit 2) (impl_Algebra_opposite.sx1_0 a0 a1 x2 o6)) m x4 g5) := by
  intro m
  induction m with
  | zero => intros; rfl
  | succ m ih =>
    intro x4 g5
    refine (impl_Algebra_opposite.b1_eq N K L0 (fun s => xloop (xcode (E46 N) ents impl_Algebra_opposite.kp 0 N (cL (cK (cB (cB (cK (cA (cB (cB (cL (cK (cB (cA (cB (cB impl_Algebra_opposite.bd)))))))))))))) 2) impl_Algebra_opposite.kp 0 2 m s (impl_Algebra_opposite.k1g N L0 (impl_Algebra_opposite.k0 N K))) a0 a1 x2 x4 g5).trans ?_
    simp only [ih]
    kernel_rfl

theorem impl_Algebra_opposite.l0_eq {ρ : Type} (N : Nat) (K : AV → Heap → Option ρ) (a0 : Nat → Int) (a1 : Nat → Int) :
    ∀ (m : Nat) (x2 : Int) (g3 : Nat → Int), xloop (xcode (E46 N) ents impl_Algebra_opposite.kp 0 N (cL (cK (cB (cA (cB (cB impl_Algebra_opposite.bd)))))) 0) impl_Algebra_opposite.kp 0 0 m (impl_Algebra_opposite.st0 a0 a1 x2 g3) (impl_Algebra_opposite.k0 N K) = (impl_Algebra_opposite.l0 N (fun d0 d1 => K (.agg [⟨.i64, 2, d0⟩, ⟨.u8, 520, d1⟩]) []) a1 (fun o7 => (impl_Algebra_opposite.k0 N K) (.exit 0) (impl_Algebra_opposite.sx0_0 a0 a1 o7)) m x2 g3) := by
  intro m
  induction m with
  | zero => intros; rfl
  | succ m ih =>
    intro x2 g3
    refine (impl_Algebra_opposite.b0_eq N K (fun s => xloop (xcode (E46 N) ents impl_Algebra_opposite.kp 0 N (cL (cK (cB (cA (cB (cB impl_Algebra_opposite.bd)))))) 0) impl_Algebra_opposite.kp 0 0 m s (impl_Algebra_opposite.k0 N K)) a0 a1 x2 g3).trans ?_
    simp only [ih, impl_Algebra_opposite.l1_eq, impl_Algebra_opposite.a1_0_eq]
    kernel_rfl

theorem impl_Algebra_opposite.s_eq {ρ : Type} (N : Nat) (K : AV → Heap → Option ρ) (a0 : Nat → Int) (a1 : Nat → Int) :
    xbody (E46 N) ents impl_Algebra_opposite.kp N Go.Proofs.Try.f58 impl_Algebra_opposite.bd [.agg [⟨.i64, 2, a0⟩, ⟨.u8, 520, a1⟩]] [] K = (impl_Algebra_opposite.s N (fun d0 d1 => K (.agg [⟨.i64, 2, d0⟩, ⟨.u8, 520, d1⟩]) []) (fun x2 g3 => xloop (xcode (E46 N) ents impl_Algebra_opposite.kp 0 N (cL (cK (cB (cA (cB (cB impl_Algebra_opposite.bd)))))) 0) impl_Algebra_opposite.kp 0 0 N (impl_Algebra_opposite.st0 a0 a1 x2 g3) (impl_Algebra_opposite.k0 N K)) a1) := by kernel_rfl

theorem impl_Algebra_opposite.eq {ρ : Type} (N : Nat) (K : AV → Heap → Option ρ) (a0 : Nat → Int) (a1 : Nat → Int) :
    xbody (E46 N) ents impl_Algebra_opposite.kp N Go.Proofs.Try.f58 impl_Algebra_opposite.bd [.agg [⟨.i64, 2, a0⟩, ⟨.u8, 520, a1⟩]] [] K = (impl_Algebra_opposite N (fun d0 d1 => K (.agg [⟨.i64, 2, d0⟩, ⟨.u8, 520, d1⟩]) []) a0 a1) := by
  refine (impl_Algebra_opposite.s_eq N K a0 a1).trans ?_
  simp only [impl_Algebra_opposite.l0_eq, impl_Algebra_opposite.a0_0_eq]
  kernel_rfl

noncomputable def impl_Algebra_opposite.en (N : Nat) (ρ : Type) : List AV → Heap → (AV → Heap → Option ρ) → Option ρ
  | [.agg [⟨.i64, 2, a0⟩, ⟨.u8, 520, a1⟩]], [], K => (impl_Algebra_opposite N (fun d0 d1 => K (.agg [⟨.i64, 2, d0⟩, ⟨.u8, 520, d1⟩]) []) a0 a1)
  | _, _, _ => none

theorem impl_Algebra_opposite.en_ok (N : Nat) (hE : EnvOk (E46 N) ents) (ρ : Type) (args : List AV) (sh : Heap) (K : AV → Heap → Option ρ) (r : ρ) (h : impl_Algebra_opposite.en N ρ args sh K = some r) : ∃ v sh', K v sh' = some r ∧ FnOk (E46 N).P 58 args sh v sh' := by
  unfold impl_Algebra_opposite.en at h
  split at h
  · exact fn_ok hE (kp := impl_Algebra_opposite.kp) (N := N) Go.Proofs.Try.func58 (c := impl_Algebra_opposite.bd) (by kernel_rfl) ((impl_Algebra_opposite.eq N _ _ _).trans h)
  · cases h

noncomputable def E47 (N : Nat) : Env := (E46 N).add 58 (impl_Algebra_opposite.en N)

theorem E47_ok (N : Nat) : EnvOk (E47 N) ents := Env.add_ok (E46_ok N) (impl_Algebra_opposite.en_ok N (E46_ok N))

noncomputable def impl_IsCommutative.kp : Keeps := ⟨[], []⟩

noncomputable def impl_IsCommutative.bd : Code := bodyOf Go.Proofs.Try.f23

noncomputable def impl_IsCommutative.fin {ρ : Type} (N : Nat) (K : AV → Heap → Option ρ) : XE → St → Option ρ := finK (E47 N) Go.Proofs.Try.f23 [] K

theorem impl_IsCommutative.eq {ρ : Type} (N : Nat) (K : AV → Heap → Option ρ) (a0 : Nat → Int) (a1 : Nat → Int) :
    xbody (E47 N) ents impl_IsCommutative.kp N Go.Proofs.Try.f23 impl_IsCommutative.bd [.agg [⟨.i64, 2, a0⟩, ⟨.u8, 520, a1⟩]] [] K = (impl_IsCommutative N (fun d0 d1 => K (.tup [.bool (d0), .int .i64 (d1)]) []) a0 a1) := by kernel_rfl

noncomputable def impl_IsCommutative.en (N : Nat) (ρ : Type) : List AV → Heap → (AV → Heap → Option ρ) → Option ρ
  | [.agg [⟨.i64, 2, a0⟩, ⟨.u8, 520, a1⟩]], [], K => (impl_IsCommutative N (fun d0 d1 => K (.tup [.bool (d0), .int .i64 (d1)]) []) a0 a1)
  | _, _, _ => none

theorem impl_IsCommutative.en_ok (N : Nat) (hE : EnvOk (E47 N) ents) (ρ : Type) (args : List AV) (sh : Heap) (K : AV → Heap → Option ρ) (r : ρ) (h : impl_IsCommutative.en N ρ args sh K = some r) : ∃ v sh', K v sh' = some r ∧ FnOk (E47 N).P 23 args sh v sh' := by
  unfold impl_IsCommutative.en at h
  split at h
  · exact fn_ok hE (kp := impl_IsCommutative.kp) (N := N) Go.Proofs.Try.func23 (c := impl_IsCommutative.bd) (by kernel_rfl) ((impl_IsCommutative.eq N _ _ _).trans h)
  · cases h

noncomputable def E48 (N : Nat) : Env := (E47 N).add 23 (impl_IsCommutative.en N)

theorem E48_ok (N : Nat) : EnvOk (E48 N) ents := Env.add_ok (E47_ok N) (impl_IsCommutative.en_ok N (E47_ok N))

noncomputable def laws_FnExactIsCommutative.kp : Keeps := ⟨[], []⟩

noncomputable def laws_FnExactIsCommutative.bd : Code := bodyOf Go.Proofs.Try.f5

noncomputable def laws_FnExactIsCommutative.fin {ρ : Type} (N : Nat) (K : AV → Heap → Option ρ) : XE → St → Option ρ := finK (E48 N) Go.Proofs.Try.f5 [] K

theorem laws_FnExactIsCommutative.eq {ρ : Type} (N : Nat) (K : AV → Heap → Option ρ) (aA0 : Nat → Int) (aA1 : Nat → Int) :
    xbody (E48 N) ents laws_FnExactIsCommutative.kp N Go.Proofs.Try.f5 laws_FnExactIsCommutative.bd [.agg [⟨.i64, 2, aA0⟩, ⟨.u8, 520, aA1⟩]] [] K = (laws_FnExactIsCommutative N (fun d0 => K (.bool (d0)) []) aA0 aA1) := by kernel_rfl

noncomputable def laws_FnExactIsCommutative.en (N : Nat) (ρ : Type) : List AV → Heap → (AV → Heap → Option ρ) → Option ρ
  | [.agg [⟨.i64, 2, aA0⟩, ⟨.u8, 520, aA1⟩]], [], K => (laws_FnExactIsCommutative N (fun d0 => K (.bool (d0)) []) aA0 aA1)
  | _, _, _ => none

theorem laws_FnExactIsCommutative.en_ok (N : Nat) (hE : EnvOk (E48 N) ents) (ρ : Type) (args : List AV) (sh : Heap) (K : AV → Heap → Option ρ) (r : ρ) (h : laws_FnExactIsCommutative.en N ρ args sh K = some r) : ∃ v sh', K v sh' = some r ∧ FnOk (E48 N).P 5 args sh v sh' := by
  unfold laws_FnExactIsCommutative.en at h
  split at h
  · exact fn_ok hE (kp := laws_FnExactIsCommutative.kp) (N := N) Go.Proofs.Try.func5 (c := laws_FnExactIsCommutative.bd) (by kernel_rfl) ((laws_FnExactIsCommutative.eq N _ _ _).trans h)
  · cases h

noncomputable def E49 (N : Nat) : Env := (E48 N).add 5 (laws_FnExactIsCommutative.en N)

theorem E49_ok (N : Nat) : EnvOk (E49 N) ents := Env.add_ok (E48_ok N) (laws_FnExactIsCommutative.en_ok N (E48_ok N))

noncomputable def spec_l01Code_s16.kp : Keeps := ⟨[(0, [1, 2, 5], 3)], [(0, [], 3)]⟩

noncomputable def spec_l01Code_s16.bd : Code := bodyOf Go.Proofs.Try.f59

noncomputable def spec_l01Code_s16.fin {ρ : Type} (N : Nat) (K : AV → Heap → Option ρ) (g4 : Nat → Int) : XE → St → Option ρ := finK (E49 N) Go.Proofs.Try.f59 [⟨false, .ints .u8 16 g4⟩] K

noncomputable def spec_l01Code_s16.k0 {ρ : Type} (N : Nat) (K : AV → Heap → Option ρ) (g4 : Nat → Int) : XE → St → Option ρ := (blockK spec_l01Code_s16.kp 1 0 (seqK (xcode (E49 N) ents spec_l01Code_s16.kp 1 N (cB (cB (cB spec_l01Code_s16.bd))) 0) (spec_l01Code_s16.fin N K g4)))

theorem spec_l01Code_s16.k0_mix {ρ : Type} (N : Nat) (K : AV → Heap → Option ρ) (g4 : Nat → Int) : mixK (spec_l01Code_s16.fin N K g4 .ret) (spec_l01Code_s16.k0 N K g4) = (spec_l01Code_s16.k0 N K g4) := by
  funext e s; cases e <;> rfl

noncomputable def spec_l01Code_s16.st0 (a0 : Nat → Int) (a1 : Nat → Int) (list2 : Nat) (list3 : Nat) (g4 : Nat → Int) (i6 : Int) : St := ⟨sl 25 [(1, .slice 0 0 list2 (some list3) 8), (2, .sptr [(1, 2), (2, 520)]), (5, .int .i64 (i6))], [⟨false, .ints .u8 16 g4⟩, ⟨true, .ints .i64 2 a0⟩, ⟨true, .ints .u8 520 a1⟩]⟩

noncomputable def spec_l01Code_s16.sx0_0 (a0 : Nat → Int) (a1 : Nat → Int) (g4 : Nat → Int) : St := ⟨sl 25 [], [⟨false, .ints .u8 16 g4⟩, ⟨true, .ints .i64 2 a0⟩, ⟨true, .ints .u8 520 a1⟩]⟩

theorem spec_l01Code_s16.b0_gen {ρ : Type} (N : Nat) (K : AV → Heap → Option ρ) (L0 : St → Option ρ) (kv : XE → St → Option ρ) (a0 : Nat → Int) (a1 : Nat → Int) (list2 : Nat) (list3 : Nat) (g4 : Nat → Int) (i6 : Int) :
    xcode (E49 N) ents spec_l01Code_s16.kp 1 N (cL (cK (cB (cA (cB (cB spec_l01Code_s16.bd)))))) 0 (spec_l01Code_s16.st0 a0 a1 list2 list3 g4 i6) (roundK spec_l01Code_s16.kp 1 0 L0 (mixK (spec_l01Code_s16.fin N K g4 .ret) kv)) = (spec_l01Code_s16.b0 N (fun d0 => K (.int .i64 (d0)) [⟨false, .ints .u8 16 g4⟩]) (fun i6 => L0 (spec_l01Code_s16.st0 a0 a1 list2 list3 g4 i6)) (kv (.exit 0) (spec_l01Code_s16.sx0_0 a0 a1 g4)) a0 list2 g4 i6) := by kernel_rfl

theorem spec_l01Code_s16.b0_eq {ρ : Type} (N : Nat) (K : AV → Heap → Option ρ) (L0 : St → Option ρ) (a0 : Nat → Int) (a1 : Nat → Int) (list2 : Nat) (list3 : Nat) (g4 : Nat → Int) (i6 : Int) :
    xcode (E49 N) ents spec_l01Code_s16.kp 1 N (cL (cK (cB (cA (cB (cB spec_l01Code_s16.bd)))))) 0 (spec_l01Code_s16.st0 a0 a1 list2 list3 g4 i6) (roundK spec_l01Code_s16.kp 1 0 L0 (spec_l01Code_s16.k0 N K g4)) = (spec_l01Code_s16.b0 N (fun d0 => K (.int .i64 (d0)) [⟨false, .ints .u8 16 g4⟩]) (fun i6 => L0 (spec_l01Code_s16.st0 a0 a1 list2 list3 g4 i6)) ((spec_l01Code_s16.k0 N K g4) (.exit 0) (spec_l01Code_s16.sx0_0 a0 a1 g4)) a0 list2 g4 i6) := by
  have h := spec_l01Code_s16.b0_gen N K L0 (spec_l01Code_s16.k0 N K g4) a0 a1 list2 list3 g4 i6
  rw [spec_l01Code_s16.k0_mix] at h
  exact h

theorem spec_l01Code_s16.a0_0_eq {ρ : Type} (N : Nat) (K : AV → Heap → Option ρ) (a0 : Nat → Int) (a1 : Nat → Int) (g4 : Nat → Int) :
    (spec_l01Code_s16.k0 N K g4) (.exit 0) (spec_l01Code_s16.sx0_0 a0 a1 g4) = (spec_l01Code_s16.a0_0 N (fun d0 => K (.int .i64 (d0)) [⟨false, .ints .u8 16 g4⟩])) := by kernel_rfl

theorem spec_l01Code_s16.l0_eq {ρ : Type} (N : Nat) (K : AV → Heap → Option ρ) (a0 : Nat → Int) (a1 : Nat → Int) (list2 : Nat) (list3 : Nat) (g4 : Nat → Int) :
    ∀ (m : Nat) (i6 : Int), xloop (xcode (E49 N) ents spec_l01Code_s16.kp 1 N (cL (cK (cB (cA (cB (cB spec_l01Code_s16.bd)))))) 0) spec_l01Code_s16.kp 1 0 m (spec_l01Code_s16.st0 a0 a1 list2 list3 g4 i6) (spec_l01Code_s16.k0 N K g4) = (spec_l01Code_s16.l0 N (fun d0 => K (.int .i64 (d0)) [⟨false, .ints .u8 16 g4⟩]) a0 list2 g4 ((spec_l01Code_s16.k0 N K g4) (.exit 0) (spec_l01Code_s16.sx0_0 a0 a1 g4)) m i6) := by
  intro m
  induction m with
  | zero => intros; rfl
  | succ m ih =>
    intro i6
    refine (spec_l01Code_s16.b0_eq N K (fun s => xloop (xcode (E49 N) ents spec_l01Code_s16.kp 1 N (cL (cK (cB (cA (cB (cB spec_l01Code_s16.bd)))))) 0) spec_l01Code_s16.kp 1 0 m s (spec_l01Code_s16.k0 N K g4)) a0 a1 list2 list3 g4 i6).trans ?_
    simp only [ih]
    kernel_rfl

theorem spec_l01Code_s16.s_eq {ρ : Type} (N : Nat) (K : AV → Heap → Option ρ) (a0 : Nat → Int) (a1 : Nat → Int) (list2 : Nat) (list3 : Nat) (g4 : Nat → Int) :
    xbody (E49 N) ents spec_l01Code_s16.kp N Go.Proofs.Try.f59 spec_l01Code_s16.bd [.agg [⟨.i64, 2, a0⟩, ⟨.u8, 520, a1⟩], .slice 0 0 list2 (some list3) 8] [⟨false, .ints .u8 16 g4⟩] K = (spec_l01Code_s16.s N (fun d0 => K (.int .i64 (d0)) [⟨false, .ints .u8 16 g4⟩]) (fun i6 => xloop (xcode (E49 N) ents spec_l01Code_s16.kp 1 N (cL (cK (cB (cA (cB (cB spec_l01Code_s16.bd)))))) 0) spec_l01Code_s16.kp 1 0 N (spec_l01Code_s16.st0 a0 a1 list2 list3 g4 i6) (spec_l01Code_s16.k0 N K g4)) a0 a1) := by kernel_rfl

theorem spec_l01Code_s16.eq {ρ : Type} (N : Nat) (K : AV → Heap → Option ρ) (a0 : Nat → Int) (a1 : Nat → Int) (list2 : Nat) (list3 : Nat) (g4 : Nat → Int) :
    xbody (E49 N) ents spec_l01Code_s16.kp N Go.Proofs.Try.f59 spec_l01Code_s16.bd [.agg [⟨.i64, 2, a0⟩, ⟨.u8, 520, a1⟩], .slice 0 0 list2 (some list3) 8] [⟨false, .ints .u8 16 g4⟩] K = (spec_l01Code_s16 N (fun d0 => K (.int .i64 (d0)) [⟨false, .ints .u8 16 g4⟩]) a0 a1 list2 list3 g4) := by
  refine (spec_l01Code_s16.s_eq N K a0 a1 list2 list3 g4).trans ?_
  simp only [spec_l01Code_s16.l0_eq, spec_l01Code_s16.a0_0_eq]
  kernel_rfl

noncomputable def spec_l01Code_s8.kp : Keeps := ⟨[(0, [1, 2, 5], 3)], [(0, [], 3)]⟩

noncomputable def spec_l01Code_s8.bd : Code := bodyOf Go.Proofs.Try.f59

noncomputable def spec_l01Code_s8.fin {ρ : Type} (N : Nat) (K : AV → Heap → Option ρ) (g4 : Nat → Int) : XE → St → Option ρ := finK (E49 N) Go.Proofs.Try.f59 [⟨false, .ints .u8 8 g4⟩] K

noncomputable def spec_l01Code_s8.k0 {ρ : Type} (N : Nat) (K : AV → Heap → Option ρ) (g4 : Nat → Int) : XE → St → Option ρ := (blockK spec_l01Code_s8.kp 1 0 (seqK (xcode (E49 N) ents spec_l01Code_s8.kp 1 N (cB (cB (cB spec_l01Code_s8.bd))) 0) (spec_l01Code_s8.fin N K g4)))

theorem spec_l01Code_s8.k0_mix {ρ : Type} (N : Nat) (K : AV → Heap → Option ρ) (g4 : Nat → Int) : mixK (spec_l01Code_s8.fin N K g4 .ret) (spec_l01Code_s8.k0 N K g4) = (spec_l01Code_s8.k0 N K g4) := by
  funext e s; cases e <;> rfl

noncomputable def spec_l01Code_s8.st0 (a0 : Nat → Int) (a1 : Nat → Int) (list2 : Nat) (list3 : Nat) (g4 : Nat → Int) (i6 : Int) : St := ⟨sl 25 [(1, .slice 0 0 list2 (some list3) 8), (2, .sptr [(1, 2), (2, 520)]), (5, .int .i64 (i6))], [⟨false, .ints .u8 8 g4⟩, ⟨true, .ints .i64 2 a0⟩, ⟨true, .ints .u8 520 a1⟩]⟩

noncomputable def spec_l01Code_s8.sx0_0 (a0 : Nat → Int) (a1 : Nat → Int) (g4 : Nat → Int) : St := ⟨sl 25 [], [⟨false, .ints .u8 8 g4⟩, ⟨true, .ints .i64 2 a0⟩, ⟨true, .ints .u8 520 a1⟩]⟩

theorem spec_l01Code_s8.b0_gen {ρ : Type} (N : Nat) (K : AV → Heap → Option ρ) (L0 : St → Option ρ) (kv : XE → St → Option ρ) (a0 : Nat → Int) (a1 : Nat → Int) (list2 : Nat) (list3 : Nat) (g4 : Nat → Int) (i6 : Int) :
    xcode (E49 N) ents spec_l01Code_s8.kp 1 N (cL (cK (cB (cA (cB (cB spec_l01Code_s8.bd)))))) 0 (spec_l01Code_s8.st0 a0 a1 list2 list3 g4 i6) (roundK spec_l01Code_s8.kp 1 0 L0 (mixK (spec_l01Code_s8.fin N K g4 .ret) kv)) = (spec_l01Code_s8.b0 N (fun d0 => K (.int .i64 (d0)) [⟨false, .ints .u8 8 g4⟩]) (fun i6 => L0 (spec_l01Code_s8.st0 a0 a1 list2 list3 g4 i6)) (kv (.exit 0) (spec_l01Code_s8.sx0_0 a0 a1 g4)) a0 list2 g4 i6) := by kernel_rfl

theorem spec_l01Code_s8.b0_eq {ρ : Type} (N : Nat) (K : AV → Heap → Option ρ) (L0 : St → Option ρ) (a0 : Nat → Int) (a1 : Nat → Int) (list2 : Nat) (list3 : Nat) (g4 : Nat → Int) (i6 : Int) :
    xcode (E49 N) ents spec_l01Code_s8.kp 1 N (cL (cK (cB (cA (cB (cB spec_l01Code_s8.bd)))))) 0 (spec_l01Code_s8.st0 a0 a1 list2 list3 g4 i6) (roundK spec_l01Code_s8.kp 1 0 L0 (spec_l01Code_s8.k0 N K g4)) = (spec_l01Code_s8.b0 N (fun d0 => K (.int .i64 (d0)) [⟨false, .ints .u8 8 g4⟩]) (fun i6 => L0 (spec_l01Code_s8.st0 a0 a1 list2 list3 g4 i6)) ((spec_l01Code_s8.k0 N K g4) (.exit 0) (spec_l01Code_s8.sx0_0 a0 a1 g4)) a0 list2 g4 i6) := by
  have h := spec_l01Code_s8.b0_gen N K L0 (spec_l01Code_s8.k0 N K g4) a0 a1 list2 list3 g4 i6
  rw [spec_l01Code_s8.k0_mix] at h
  exact h

theorem spec_l01Code_s8.a0_0_eq {ρ : Type} (N : Nat) (K : AV → Heap → Option ρ) (a0 : Nat → Int) (a1 : Nat → Int) (g4 : Nat → Int) :
    (spec_l01Code_s8.k0 N K g4) (.exit 0) (spec_l01Code_s8.sx0_0 a0 a1 g4) = (spec_l01Code_s8.a0_0 N (fun d0 => K (.int .i64 (d0)) [⟨false, .ints .u8 8 g4⟩])) := by kernel_rfl

theorem spec_l01Code_s8.l0_eq {ρ : Type} (N : Nat) (K : AV → Heap → Option ρ) (a0 : Nat → Int) (a1 : Nat → Int) (list2 : Nat) (list3 : Nat) (g4 : Nat → Int) :
    ∀ (m : Nat) (i6 : Int), xloop (xcode (E49 N) ents spec_l01Code_s8.kp 1 N (cL (cK (cB (cA (cB (cB spec_l01Code_s8.bd)))))) 0) spec_l01Code_s8.kp 1 0 m (spec_l01Code_s8.st0 a0 a1 list2 list3 g4 i6) (spec_l01Code_s8.k0 N K g4) = (spec_l01Code_s8.l0 N (fun d0 => K (.int .i64 (d0)) [⟨false, .ints .u8 8 g4⟩]) a0 list2 g4 ((spec_l01Code_s8.k0 N K g4) (.exit 0) (spec_l01Code_s8.sx0_0 a0 a1 g4)) m i6) := by
  intro m
  induction m with
  | zero => intros; rfl
  | succ m ih =>
    intro i6
    refine (spec_l01Code_s8.b0_eq N K (fun s => xloop (xcode (E49 N) ents spec_l01Code_s8.kp 1 N (cL (cK (cB (cA (cB (cB spec_l01Code_s8.bd)))))) 0) spec_l01Code_s8.kp 1 0 m s (spec_l01Code_s8.k0 N K g4)) a0 a1 list2 list3 g4 i6).trans ?_
    simp only [ih]
    kernel_rfl

theorem spec_l01Code_s8.s_eq {ρ : Type} (N : Nat) (K : AV → Heap → Option ρ) (a0 : Nat → Int) (a1 : Nat → Int) (list2 : Nat) (list3 : Nat) (g4 : Nat → Int) :
    xbody (E49 N) ents spec_l01Code_s8.kp N Go.Proofs.Try.f59 spec_l01Code_s8.bd [.agg [⟨.i64, 2, a0⟩, ⟨.u8, 520, a1⟩], .slice 0 0 list2 (some list3) 8] [⟨false, .ints .u8 8 g4⟩] K = (spec_l01Code_s8.s N (fun d0 => K (.int .i64 (d0)) [⟨false, .ints .u8 8 g4⟩]) (fun i6 => xloop (xcode (E49 N) ents spec_l01Code_s8.kp 1 N (cL (cK (cB (cA (cB (cB spec_l01Code_s8.bd)))))) 0) spec_l01Code_s8.kp 1 0 N (spec_l01Code_s8.st0 a0 a1 list2 list3 g4 i6) (spec_l01Code_s8.k0 N K g4)) a0 a1) := by kernel_rfl

theorem spec_l01Code_s8.eq {ρ : Type} (N : Nat) (K : AV → Heap → Option ρ) (a0 : Nat → Int) (a1 : Nat → Int) (list2 : Nat) (list3 : Nat) (g4 : Nat → Int) :
    xbody (E49 N) ents spec_l01Code_s8.kp N Go.Proofs.Try.f59 spec_l01Code_s8.bd [.agg [⟨.i64, 2, a0⟩, ⟨.u8, 520, a1⟩], .slice 0 0 list2 (some list3) 8] [⟨false, .ints .u8 8 g4⟩] K = (spec_l01Code_s8 N (fun d0 => K (.int .i64 (d0)) [⟨false, .ints .u8 8 g4⟩]) a0 a1 list2 list3 g4) := by
  refine (spec_l01Code_s8.s_eq N K a0 a1 list2 list3 g4).trans ?_
  simp only [spec_l01Code_s8.l0_eq, spec_l01Code_s8.a0_0_eq]
  kernel_rfl

noncomputable def spec_l01Code_s16.en (N : Nat) (ρ : Type) : List AV → Heap → (AV → Heap → Option ρ) → Option ρ
  | [.agg [⟨.i64, 2, a0⟩, ⟨.u8, 520, a1⟩], .slice 0 0 list2 (some list3) 8], [⟨false, .ints .u8 16 g4⟩], K => (spec_l01Code_s16 N (fun d0 => K (.int .i64 (d0)) [⟨false, .ints .u8 16 g4⟩]) a0 a1 list2 list3 g4)
  | [.agg [⟨.i64, 2, a0⟩, ⟨.u8, 520, a1⟩], .slice 0 0 list2 (some list3) 8], [⟨false, .ints .u8 8 g4⟩], K => (spec_l01Code_s8 N (fun d0 => K (.int .i64 (d0)) [⟨false, .ints .u8 8 g4⟩]) a0 a1 list2 list3 g4)
  | _, _, _ => none

theorem spec_l01Code_s16.en_ok (N : Nat) (hE : EnvOk (E49 N) ents) (ρ : Type) (args : List AV) (sh : Heap) (K : AV → Heap → Option ρ) (r : ρ) (h : spec_l01Code_s16.en N ρ args sh K = some r) : ∃ v sh', K v sh' = some r ∧ FnOk (E49 N).P 59 args sh v sh' := by
  unfold spec_l01Code_s16.en at h
  split at h
  · exact fn_ok hE (kp := spec_l01Code_s16.kp) (N := N) Go.Proofs.Try.func59 (c := spec_l01Code_s16.bd) (by kernel_rfl) ((spec_l01Code_s16.eq N _ _ _ _ _ _).trans h)
  · exact fn_ok hE (kp := spec_l01Code_s8.kp) (N := N) Go.Proofs.Try.func59 (c := spec_l01Code_s8.bd) (by kernel_rfl) ((spec_l01Code_s8.eq N _ _ _ _ _ _).trans h)
  · cases h

noncomputable def E50 (N : Nat) : Env := (E49 N).add 59 (spec_l01Code_s16.en N)

theorem E50_ok (N : Nat) : EnvOk (E50 N) ents := Env.add_ok (E49_ok N) (spec_l01Code_s16.en_ok N (E49_ok N))

noncomputable def spec_MultiplyVectors.kp : Keeps := ⟨[], []⟩

noncomputable def spec_MultiplyVectors.bd : Code := bodyOf Go.Proofs.Try.f24

noncomputable def spec_MultiplyVectors.fin {ρ : Type} (N : Nat) (K : AV → Heap → Option ρ) : XE → St → Option ρ := finK (E50 N) Go.Proofs.Try.f24 [] K

theorem spec_MultiplyVectors.eq {ρ : Type} (N : Nat) (K : AV → Heap → Option ρ) (a0 : Nat → Int) (a1 : Nat → Int) (v2 : Nat → Int) (w3 : Nat → Int) :
    xbody (E50 N) ents spec_MultiplyVectors.kp N Go.Proofs.Try.f24 spec_MultiplyVectors.bd [.agg [⟨.i64, 2, a0⟩, ⟨.u8, 520, a1⟩], .agg [⟨.u8, 8, v2⟩], .agg [⟨.u8, 8, w3⟩]] [] K = (spec_MultiplyVectors N (fun d0 d1 => K (.tup [.agg [⟨.u8, 8, d0⟩], .int .i64 (d1)]) []) a0 a1 v2 w3) := by kernel_rfl

noncomputable def spec_MultiplyVectors.en (N : Nat) (ρ : Type) : List AV → Heap → (AV → Heap → Option ρ) → Option ρ
  | [.agg [⟨.i64, 2, a0⟩, ⟨.u8, 520, a1⟩], .agg [⟨.u8, 8, v2⟩], .agg [⟨.u8, 8, w3⟩]], [], K => (spec_MultiplyVectors N (fun d0 d1 => K (.tup [.agg [⟨.u8, 8, d0⟩], .int .i64 (d1)]) []) a0 a1 v2 w3)
  | _, _, _ => none

theorem spec_MultiplyVectors.en_ok (N : Nat) (hE : EnvOk (E50 N) ents) (ρ : Type) (args : List AV) (sh : Heap) (K : AV → Heap → Option ρ) (r : ρ) (h : spec_MultiplyVectors.en N ρ args sh K = some r) : ∃ v sh', K v sh' = some r ∧ FnOk (E50 N).P 24 args sh v sh' := by
  unfold spec_MultiplyVectors.en at h
  split at h
  · exact fn_ok hE (kp := spec_MultiplyVectors.kp) (N := N) Go.Proofs.Try.func24 (c := spec_MultiplyVectors.bd) (by kernel_rfl) ((spec_MultiplyVectors.eq N _ _ _ _ _).trans h)
  · cases h

noncomputable def E51 (N : Nat) : Env := (E50 N).add 24 (spec_MultiplyVectors.en N)

theorem E51_ok (N : Nat) : EnvOk (E51 N) ents := Env.add_ok (E50_ok N) (spec_MultiplyVectors.en_ok N (E50_ok N))

noncomputable def impl_MultiplyVectors.kp : Keeps := ⟨[], []⟩

noncomputable def impl_MultiplyVectors.bd : Code := bodyOf Go.Proofs.Try.f26

noncomputable def impl_MultiplyVectors.fin {ρ : Type} (N : Nat) (K : AV → Heap → Option ρ) : XE → St → Option ρ := finK (E51 N) Go.Proofs.Try.f26 [] K

theorem impl_MultiplyVectors.eq {ρ : Type} (N : Nat) (K : AV → Heap → Option ρ) (a0 : Nat → Int) (a1 : Nat → Int) (v2 : Nat → Int) (w3 : Nat → Int) :
    xbody (E51 N) ents impl_MultiplyVectors.kp N Go.Proofs.Try.f26 impl_MultiplyVectors.bd [.agg [⟨.i64, 2, a0⟩, ⟨.u8, 520, a1⟩], .agg [⟨.u8, 8, v2⟩], .agg [⟨.u8, 8, w3⟩]] [] K = (impl_MultiplyVectors N (fun d0 d1 => K (.tup [.agg [⟨.u8, 8, d0⟩], .int .i64 (d1)]) []) a0 a1 v2 w3) := by kernel_rfl

noncomputable def impl_MultiplyVectors.en (N : Nat) (ρ : Type) : List AV → Heap → (AV → Heap → Option ρ) → Option ρ
  | [.agg [⟨.i64, 2, a0⟩, ⟨.u8, 520, a1⟩], .agg [⟨.u8, 8, v2⟩], .agg [⟨.u8, 8, w3⟩]], [], K => (impl_MultiplyVectors N (fun d0 d1 => K (.tup [.agg [⟨.u8, 8, d0⟩], .int .i64 (d1)]) []) a0 a1 v2 w3)
  | _, _, _ => none

theorem impl_MultiplyVectors.en_ok (N : Nat) (hE : EnvOk (E51 N) ents) (ρ : Type) (args : List AV) (sh : Heap) (K : AV → Heap → Option ρ) (r : ρ) (h : impl_MultiplyVectors.en N ρ args sh K = some r) : ∃ v sh', K v sh' = some r ∧ FnOk (E51 N).P 26 args sh v sh' := by
  unfold impl_MultiplyVectors.en at h
  split at h
  · exact fn_ok hE (kp := impl_MultiplyVectors.kp) (N := N) Go.Proofs.Try.func26 (c := impl_MultiplyVectors.bd) (by kernel_rfl) ((impl_MultiplyVectors.eq N _ _ _ _ _).trans h)
  · cases h

noncomputable def E52 (N : Nat) : Env := (E51 N).add 26 (impl_MultiplyVectors.en N)

theorem E52_ok (N : Nat) : EnvOk (E52 N) ents := Env.add_ok (E51_ok N) (impl_MultiplyVectors.en_ok N (E51_ok N))

noncomputable def laws_eqVector.kp : Keeps := ⟨[(0, [2, 3, 5], 2)], [(0, [], 2)]⟩

noncomputable def laws_eqVector.bd : Code := bodyOf Go.Proofs.Try.f27

noncomputable def laws_eqVector.fin {ρ : Type} (N : Nat) (K : AV → Heap → Option ρ) : XE → St → Option ρ := finK (E52 N) Go.Proofs.Try.f27 [] K

noncomputable def laws_eqVector.k0 {ρ : Type} (N : Nat) (K : AV → Heap → Option ρ) : XE → St → Option ρ := (blockK laws_eqVector.kp 0 0 (seqK (xcode (E52 N) ents laws_eqVector.kp 0 N (cB (cB laws_eqVector.bd)) 0) (laws_eqVector.fin N K)))

theorem laws_eqVector.k0_mix {ρ : Type} (N : Nat) (K : AV → Heap → Option ρ) : mixK (laws_eqVector.fin N K .ret) (laws_eqVector.k0 N K) = (laws_eqVector.k0 N K) := by
  funext e s; cases e <;> rfl

noncomputable def laws_eqVector.st0 (a0 : Nat → Int) (b1 : Nat → Int) (i2 : Int) : St := ⟨sl 17 [(2, .sptr [(0, 8)]), (3, .sptr [(1, 8)]), (5, .int .i64 (i2))], [⟨true, .ints .u8 8 a0⟩, ⟨true, .ints .u8 8 b1⟩]⟩

noncomputable def laws_eqVector.sx0_0 (a0 : Nat → Int) (b1 : Nat → Int) : St := ⟨sl 17 [], [⟨true, .ints .u8 8 a0⟩, ⟨true, .ints .u8 8 b1⟩]⟩

theorem laws_eqVector.b0_gen {ρ : Type} (N : Nat) (K : AV → Heap → Option ρ) (L0 : St → Option ρ) (kv : XE → St → Option ρ) (a0 : Nat → Int) (b1 : Nat → Int) (i2 : Int) :
    xcode (E52 N) ents laws_eqVector.kp 0 N (cL (cK (cB (cA (cB laws_eqVector.bd))))) 0 (laws_eqVector.st0 a0 b1 i2) (roundK laws_eqVector.kp 0 0 L0 (mixK (laws_eqVector.fin N K .ret) kv)) = (laws_eqVector.b0 N (fun d0 => K (.bool (d0)) []) (fun i2 => L0 (laws_eqVector.st0 a0 b1 i2)) (kv (.exit 0) (laws_eqVector.sx0_0 a0 b1)) a0 b1 i2) := by kernel_rfl

theorem laws_eqVector.b0_eq {ρ : Type} (N : Nat) (K : AV → Heap → Option ρ) (L0 : St → Option ρ) (a0 : Nat → Int) (b1 : Nat → Int) (i2 : Int) :
    xcode (E52 N) ents laws_eqVector.kp 0 N (cL (cK (cB (cA (cB laws_eqVector.bd))))) 0 (laws_eqVector.st0 a0 b1 i2) (roundK laws_eqVector.kp 0 0 L0 (laws_eqVector.k0 N K)) = (laws_eqVector.b0 N (fun d0 => K (.bool (d0)) []) (fun i2 => L0 (laws_eqVector.st0 a0 b1 i2)) ((laws_eqVector.k0 N K) (.exit 0) (laws_eqVector.sx0_0 a0 b1)) a0 b1 i2) := by
  have h := laws_eqVector.b0_gen N K L0 (laws_eqVector.k0 N K) a0 b1 i2
  rw [laws_eqVector.k0_mix] at h
  exact h

theorem laws_eqVector.a0_0_eq {ρ : Type} (N : Nat) (K : AV → Heap → Option ρ) (a0 : Nat → Int) (b1 : Nat → Int) :
    (laws_eqVector.k0 N K) (.exit 0) (laws_eqVector.sx0_0 a0 b1) = (laws_eqVector.a0_0 N (fun d0 => K (.bool (d0)) [])) := by kernel_rfl

theorem laws_eqVector.l0_eq {ρ : Type} (N : Nat) (K : AV → Heap → Option ρ) (a0 : Nat → Int) (b1 : Nat → Int) :
    ∀ (m : Nat) (i2 : Int), xloop (xcode (E52 N) ents laws_eqVector.kp 0 N (cL (cK (cB (cA (cB laws_eqVector.bd))))) 0) laws_eqVector.kp 0 0 m (laws_eqVector.st0 a0 b1 i2) (laws_eqVector.k0 N K) = (laws_eqVector.l0 N (fun d0 => K (.bool (d0)) []) a0 b1 ((laws_eqVector.k0 N K) (.exit 0) (laws_eqVector.sx0_0 a0 b1)) m i2) := by
  intro m
  induction m with
  | zero => intros; rfl
  | succ m ih =>
    intro i2
    refine (laws_eqVector.b0_eq N K (fun s => xloop (xcode (E52 N) ents laws_eqVector.kp 0 N (cL (cK (cB (cA (cB laws_eqVector.bd))))) 0) laws_eqVector.kp 0 0 m s (laws_eqVector.k0 N K)) a0 b1 i2).trans ?_
    simp only [ih]
    kernel_rfl

theorem laws_eqVector.s_eq {ρ : Type} (N : Nat) (K : AV → Heap → Option ρ) (a0 : Nat → Int) (b1 : Nat → Int) :
    xbody (E52 N) ents laws_eqVector.kp N Go.Proofs.Try.f27 laws_eqVector.bd [.agg [⟨.u8, 8, a0⟩], .agg [⟨.u8, 8, b1⟩]] [] K = (laws_eqVector.s N (fun d0 => K (.bool (d0)) []) (fun i2 => xloop (xcode (E52 N) ents laws_eqVector.kp 0 N (cL (cK (cB (cA (cB laws_eqVector.bd))))) 0) laws_eqVector.kp 0 0 N (laws_eqVector.st0 a0 b1 i2) (laws_eqVector.k0 N K))) := by kernel_rfl

theorem laws_eqVector.eq {ρ : Type} (N : Nat) (K : AV → Heap → Option ρ) (a0 : Nat → Int) (b1 : Nat → Int) :
    xbody (E52 N) ents laws_eqVector.kp N Go.Proofs.Try.f27 laws_eqVector.bd [.agg [⟨.u8, 8, a0⟩], .agg [⟨.u8, 8, b1⟩]] [] K = (laws_eqVector N (fun d0 => K (.bool (d0)) []) a0 b1) := by
  refine (laws_eqVector.s_eq N K a0 b1).trans ?_
  simp only [laws_eqVector.l0_eq, laws_eqVector.a0_0_eq]
  kernel_rfl

noncomputable def laws_eqVector.en (N : Nat) (ρ : Type) : List AV → Heap → (AV → Heap → Option ρ) → Option ρ
  | [.agg [⟨.u8, 8, a0⟩], .agg [⟨.u8, 8, b1⟩]], [], K => (laws_eqVector N (fun d0 => K (.bool (d0)) []) a0 b1)
  | _, _, _ => none

theorem laws_eqVector.en_ok (N : Nat) (hE : EnvOk (E52 N) ents) (ρ : Type) (args : List AV) (sh : Heap) (K : AV → Heap → Option ρ) (r : ρ) (h : laws_eqVector.en N ρ args sh K = some r) : ∃ v sh', K v sh' = some r ∧ FnOk (E52 N).P 27 args sh v sh' := by
  unfold laws_eqVector.en at h
  split at h
  · exact fn_ok hE (kp := laws_eqVector.kp) (N := N) Go.Proofs.Try.func27 (c := laws_eqVector.bd) (by kernel_rfl) ((laws_eqVector.eq N _ _ _).trans h)
  · cases h

noncomputable def E53 (N : Nat) : Env := (E52 N).add 27 (laws_eqVector.en N)

theorem E53_ok (N : Nat) : EnvOk (E53 N) ents := Env.add_ok (E52_ok N) (laws_eqVector.en_ok N (E52_ok N))

noncomputable def laws_FnExactMultiplyVectors.kp : Keeps := ⟨[], []⟩

noncomputable def laws_FnExactMultiplyVectors.bd : Code := bodyOf Go.Proofs.Try.f6

noncomputable def laws_FnExactMultiplyVectors.fin {ρ : Type} (N : Nat) (K : AV → Heap → Option ρ) : XE → St → Option ρ := finK (E53 N) Go.Proofs.Try.f6 [] K

theorem laws_FnExactMultiplyVectors.eq {ρ : Type} (N : Nat) (K : AV → Heap → Option ρ) (aA0 : Nat → Int) (aA1 : Nat → Int) (aV2 : Nat → Int) (aW3 : Nat → Int) :
    xbody (E53 N) ents laws_FnExactMultiplyVectors.kp N Go.Proofs.Try.f6 laws_FnExactMultiplyVectors.bd [.agg [⟨.i64, 2, aA0⟩, ⟨.u8, 520, aA1⟩], .agg [⟨.u8, 8, aV2⟩], .agg [⟨.u8, 8, aW3⟩]] [] K = (laws_FnExactMultiplyVectors N (fun d0 => K (.bool (d0)) []) aA0 aA1 aV2 aW3) := by kernel_rfl

noncomputable def laws_FnExactMultiplyVectors.en (N : Nat) (ρ : Type) : List AV → Heap → (AV → Heap → Option ρ) → Option ρ
  | [.agg [⟨.i64, 2, aA0⟩, ⟨.u8, 520, aA1⟩], .agg [⟨.u8, 8, aV2⟩], .agg [⟨.u8, 8, aW3⟩]], [], K => (laws_FnExactMultiplyVectors N (fun d0 => K (.bool (d0)) []) aA0 aA1 aV2 aW3)
  | _, _, _ => none

theorem laws_FnExactMultiplyVectors.en_ok (N : Nat) (hE : EnvOk (E53 N) ents) (ρ : Type) (args : List AV) (sh : Heap) (K : AV → Heap → Option ρ) (r : ρ) (h : laws_FnExactMultiplyVectors.en N ρ args sh K = some r) : ∃ v sh', K v sh' = some r ∧ FnOk (E53 N).P 6 args sh v sh' := by
  unfold laws_FnExactMultiplyVectors.en at h
  split at h
  · exact fn_ok hE (kp := laws_FnExactMultiplyVectors.kp) (N := N) Go.Proofs.Try.func6 (c := laws_FnExactMultiplyVectors.bd) (by kernel_rfl) ((laws_FnExactMultiplyVectors.eq N _ _ _ _ _).trans h)
  · cases h

noncomputable def E54 (N : Nat) : Env := (E53 N).add 6 (laws_FnExactMultiplyVectors.en N)

theorem E54_ok (N : Nat) : EnvOk (E54 N) ents := Env.add_ok (E53_ok N) (laws_FnExactMultiplyVectors.en_ok N (E53_ok N))

noncomputable def spec_l01Left.kp : Keeps := ⟨[(0, [2, 3, 4, 5, 6], 5)], [(0, [4, 5], 5)]⟩

noncomputable def spec_l01Left.bd : Code := bodyOf Go.Proofs.Try.f62

noncomputable def spec_l01Left.fin {ρ : Type} (N : Nat) (K : AV → Heap → Option ρ) : XE → St → Option ρ := finK (E54 N) Go.Proofs.Try.f62 [] K

noncomputable def spec_l01Left.k0 {ρ : Type} (N : Nat) (K : AV → Heap → Option ρ) : XE → St → Option ρ := (blockK spec_l01Left.kp 0 0 (seqK (xcode (E54 N) ents spec_l01Left.kp 0 N (cB (cB (cB spec_l01Left.bd))) 0) (spec_l01Left.fin N K)))

theorem spec_l01Left.k0_mix {ρ : Type} (N : Nat) (K : AV → Heap → Option ρ) : mixK (spec_l01Left.fin N K .ret) (spec_l01Left.k0 N K) = (spec_l01Left.k0 N K) := by
  funext e s; cases e <;> rfl

noncomputable def spec_l01Left.st0 (a0 : Nat → Int) (a1 : Nat → Int) (v2 : Nat → Int) (i3 : Int) (g4 : Nat → Int) : St := ⟨sl 22 [(2, .sptr [(0, 2), (1, 520)]), (3, .sptr [(2, 8)]), (4, .sptr [(3, 64)]), (5, .sptr [(4, 64)]), (6, .int .i64 (i3))], [⟨true, .ints .i64 2 a0⟩, ⟨true, .ints .u8 520 a1⟩, ⟨true, .ints .u8 8 v2⟩, ⟨true, .ints .u8 64 (fun _ => 0)⟩, ⟨true, .ints .u8 64 g4⟩]⟩

noncomputable def spec_l01Left.sx0_0 (a0 : Nat → Int) (a1 : Nat → Int) (v2 : Nat → Int) (o7 : Nat → Int) : St := ⟨sl 22 [(4, .sptr [(3, 64)]), (5, .sptr [(4, 64)])], [⟨true, .ints .i64 2 a0⟩, ⟨true, .ints .u8 520 a1⟩, ⟨true, .ints .u8 8 v2⟩, ⟨true, .ints .u8 64 (fun _ => 0)⟩, ⟨true, .ints .u8 64 o7⟩]⟩

theorem spec_l01Left.b0_gen {ρ : Type} (N : Nat) (K : AV → Heap → Option ρ) (L0 : St → Option ρ) (kv : XE → St → Option ρ) (a0 : Nat → Int) (a1 : Nat → Int) (v2 : Nat → Int) (i3 : Int) (g4 : Nat → Int) :
    xcode (E54 N) ents spec_l01Left.kp 0 N (cL (cK (cB (cA (cB (cB spec_l01Left.bd)))))) 0 (spec_l01Left.st0 a0 a1 v2 i3 g4) (roundK spec_l01Left.kp 0 0 L0 (mixK (spec_l01Left.fin N K .ret) kv)) = (spec_l01Left.b0 N (fun d0 => K (.agg [⟨.u8, 64, d0⟩]) []) (fun i3 g4 => L0 (spec_l01Left.st0 a0 a1 v2 i3 g4)) (fun o7 => kv (.exit 0) (spec_l01Left.sx0_0 a0 a1 v2 o7)) a0 a1 v2 i3 g4) := by kernel_rfl

theorem spec_l01Left.b0_eq {ρ : Type} (N : Nat) (K : AV → Heap → Option ρ) (L0 : St → Option ρ) (a0 : Nat → Int) (a1 : Nat → Int) (v2 : Nat → Int) (i3 : Int) (g4 : Nat → Int) :
    xcode (E54 N) ents spec_l01Left.kp 0 N (cL (cK (cB (cA (cB (cB spec_l01Left.bd)))))) 0 (spec_l01Left.st0 a0 a1 v2 i3 g4) (roundK spec_l01Left.kp 0 0 L0 (spec_l01Left.k0 N K)) = (spec_l01Left.b0 N (fun d0 => K (.agg [⟨.u8, 64, d0⟩]) []) (fun i3 g4 => L0 (spec_l01Left.st0 a0 a1 v2 i3 g4)) (fun o7 => (spec_l01Left.k0 N K) (.exit 0) (spec_l01Left.sx0_0 a0 a1 v2 o7)) a0 a1 v2 i3 g4) := by
  have h := spec_l01Left.b0_gen N K L0 (spec_l01Left.k0 N K) a0 a1 v2 i3 g4
  rw [spec_l01Left.k0_mix] at h
  exact h

theorem spec_l01Left.a0_0_eq {ρ : Type} (N : Nat) (K : AV → Heap → Option ρ) (a0 : Nat → Int) (a1 : Nat → Int) (v2 : Nat → Int) (o7 : Nat → Int) :
    (spec_l01Left.k0 N K) (.exit 0) (spec_l01Left.sx0_0 a0 a1 v2 o7) = (spec_l01Left.a0_0 N (fun d0 => K (.agg [⟨.u8, 64, d0⟩]) []) o7) := by kernel_rfl

theorem spec_l01Left.l0_eq {ρ : Type} (N : Nat) (K : AV → Heap → Option ρ) (a0 : Nat → Int) (a1 : Nat → Int) (v2 : Nat → Int) :
    ∀ (m : Nat) (i3 : Int) (g4 : Nat → Int), xloop (xcode (E54 N) ents spec_l01Left.kp 0 N (cL (cK (cB (cA (cB (cB spec_l01Left.bd)))))) 0) spec_l01Left.kp 0 0 m (spec_l01Left.st0 a0 a1 v2 i3 g4) (spec_l01Left.k0 N K) = (spec_l01Left.l0 N (fun d0 => K (.agg [⟨.u8, 64, d0⟩]) []) a0 a1 v2 (fun o7 => (spec_l01Left.k0 N K) (.exit 0) (spec_l01Left.sx0_0 a0 a1 v2 o7)) m i3 g4) := by
  intro m
  induction m with
  | zero => intros; rfl
  | succ m ih =>
    intro i3 g4
    refine (spec_l01Left.b0_eq N K (fun s => xloop (xcode (E54 N) ents spec_l01Left.kp 0 N (cL (cK (cB (cA (cB (cB spec_l01Left.bd)))))) 0) spec_l01Left.kp 0 0 m s (spec_l01Left.k0 N K)) a0 a1 v2 i3 g4).trans ?_
    simp only [ih]
    kernel_rfl

theorem spec_l01Left.s_eq {ρ : Type} (N : Nat) (K : AV → Heap → Option ρ) (a0 : Nat → Int) (a1 : Nat → Int) (v2 : Nat → Int) :
    xbody (E54 N) ents spec_l01Left.kp N Go.Proofs.Try.f62 spec_l01Left.bd [.agg [⟨.i64, 2, a0⟩, ⟨.u8, 520, a1⟩], .agg [⟨.u8, 8, v2⟩]] [] K = (spec_l01Left.s N (fun d0 => K (.agg [⟨.u8, 64, d0⟩]) []) (fun i3 g4 => xloop (xcode (E54 N) ents spec_l01Left.kp 0 N (cL (cK (cB (cA (cB (cB spec_l01Left.bd)))))) 0) spec_l01Left.kp 0 0 N (spec_l01Left.st0 a0 a1 v2 i3 g4) (spec_l01Left.k0 N K))) := by kernel_rfl

theorem spec_l01Left.eq {ρ : Type} (N : Nat) (K : AV → Heap → Option ρ) (a0 : Nat → Int) (a1 : Nat → Int) (v2 : Nat → Int) :
    xbody (E54 N) ents spec_l01Left.kp N Go.Proofs.Try.f62 spec_l01Left.bd [.agg [⟨.i64, 2, a0⟩, ⟨.u8, 520, a1⟩], .agg [⟨.u8, 8, v2⟩]] [] K = (spec_l01Left N (fun d0 => K (.agg [⟨.u8, 64, d0⟩]) []) a0 a1 v2) := by
  refine (spec_l01Left.s_eq N K a0 a1 v2).trans ?_
  simp only [spec_l01Left.l0_eq, spec_l01Left.a0_0_eq]
  kernel_rfl

noncomputable def spec_l01Left.en (N : Nat) (ρ : Type) : List AV → Heap → (AV → Heap → Option ρ) → Option ρ
  | [.agg [⟨.i64, 2, a0⟩, ⟨.u8, 520, a1⟩], .agg [⟨.u8, 8, v2⟩]], [], K => (spec_l01Left N (fun d0 => K (.agg [⟨.u8, 64, d0⟩]) []) a0 a1 v2)
  | _, _, _ => none

theorem spec_l01Left.en_ok (N : Nat) (hE : EnvOk (E54 N) ents) (ρ : Type) (args : List AV) (sh : Heap) (K : AV → Heap → Option ρ) (r : ρ) (h : spec_l01Left.en N ρ args sh K = some r) : ∃ v sh', K v sh' = some r ∧ FnOk (E54 N).P 62 args sh v sh' := by
  unfold spec_l01Left.en at h
  split at h
  · exact fn_ok hE (kp := spec_l01Left.kp) (N := N) Go.Proofs.Try.func62 (c := spec_l01Left.bd) (by kernel_rfl) ((spec_l01Left.eq N _ _ _ _).trans h)
  · cases h

noncomputable def E55 (N : Nat) : Env := (E54 N).add 62 (spec_l01Left.en N)

theorem E55_ok (N : Nat) : EnvOk (E55 N) ents := Env.add_ok (E54_ok N) (spec_l01Left.en_ok N (E54_ok N))

noncomputable def spec_l01Trace.kp : Keeps := ⟨[(0, [0, 1, 5, 7, 8], 1)], [(0, [0, 7], 1)]⟩

noncomputable def spec_l01Trace.bd : Code := bodyOf Go.Proofs.Try.f61

noncomputable def spec_l01Trace.fin {ρ : Type} (N : Nat) (K : AV → Heap → Option ρ) : XE → St → Option ρ := finK (E55 N) Go.Proofs.Try.f61 [] K

noncomputable def spec_l01Trace.k0 {ρ : Type} (N : Nat) (K : AV → Heap → Option ρ) : XE → St → Option ρ := (blockK spec_l01Trace.kp 0 0 (seqK (xcode (E55 N) ents spec_l01Trace.kp 0 N (cB (cB (cB spec_l01Trace.bd))) 0) (spec_l01Trace.fin N K)))

theorem spec_l01Trace.k0_mix {ρ : Type} (N : Nat) (K : AV → Heap → Option ρ) : mixK (spec_l01Trace.fin N K .ret) (spec_l01Trace.k0 N K) = (spec_l01Trace.k0 N K) := by
  funext e s; cases e <;> rfl

noncomputable def spec_l01Trace.st0 (p0 : Int) (n1 : Int) (f2 : Nat → Int) (out3 : Int) (i4 : Int) : St := ⟨sl 25 [(0, .int .i64 (p0)), (1, .int .i64 (n1)), (5, .sptr [(0, 64)]), (7, .int .i64 (out3)), (8, .int .i64 (i4))], [⟨true, .ints .u8 64 f2⟩]⟩

noncomputable def spec_l01Trace.sx0_0 (p0 : Int) (f2 : Nat → Int) (o5 : Int) : St := ⟨sl 25 [(0, .int .i64 (p0)), (7, .int .i64 (o5))], [⟨true, .ints .u8 64 f2⟩]⟩

theorem spec_l01Trace.b0_gen {ρ : Type} (N : Nat) (K : AV → Heap → Option ρ) (L0 : St → Option ρ) (kv : XE → St → Option ρ) (p0 : Int) (n1 : Int) (f2 : Nat → Int) (out3 : Int) (i4 : Int) :
    xcode (E55 N) ents spec_l01Trace.kp 0 N (cL (cK (cB (cA (cB (cB spec_l01Trace.bd)))))) 0 (spec_l01Trace.st0 p0 n1 f2 out3 i4) (roundK spec_l01Trace.kp 0 0 L0 (mixK (spec_l01Trace.fin N K .ret) kv)) = (spec_l01Trace.b0 N (fun d0 => K (.int .i64 (d0)) []) (fun out3 i4 => L0 (spec_l01Trace.st0 p0 n1 f2 out3 i4)) (fun o5 => kv (.exit 0) (spec_l01Trace.sx0_0 p0 f2 o5)) n1 f2 out3 i4) := by kernel_rfl

theorem spec_l01Trace.b0_eq {ρ : Type} (N : Nat) (K : AV → Heap → Option ρ) (L0 : St → Option ρ) (p0 : Int) (n1 : Int) (f2 : Nat → Int) (out3 : Int) (i4 : Int) :
    xcode (E55 N) ents spec_l01Trace.kp 0 N (cL (cK (cB (cA (cB (cB spec_l01Trace.bd)))))) 0 (spec_l01Trace.st0 p0 n1 f2 out3 i4) (roundK spec_l01Trace.kp 0 0 L0 (spec_l01Trace.k0 N K)) = (spec_l01Trace.b0 N (fun d0 => K (.int .i64 (d0)) []) (fun out3 i4 => L0 (spec_l01Trace.st0 p0 n1 f2 out3 i4)) (fun o5 => (spec_l01Trace.k0 N K) (.exit 0) (spec_l01Trace.sx0_0 p0 f2 o5)) n1 f2 out3 i4) := by
  have h := spec_l01Trace.b0_gen N K L0 (spec_l01Trace.k0 N K) p0 n1 f2 out3 i4
  rw [spec_l01Trace.k0_mix] at h
  exact h

theorem spec_l01Trace.a0_0_eq {ρ : Type} (N : Nat) (K : AV → Heap → Option ρ) (p0 : Int) (f2 : Nat → Int) (o5 : Int) :
    (spec_l01Trace.k0 N K) (.exit 0) (spec_l01Trace.sx0_0 p0 f2 o5) = (spec_l01Trace.a0_0 N (fun d0 => K (.int .i64 (d0)) []) p0 o5) := by kernel_rfl

theorem spec_l01Trace.l0_eq {ρ : Type} (N : Nat) (K : AV → Heap → Option ρ) (p0 : Int) (n1 : Int) (f2 : Nat → Int) :
    ∀ (m : Nat) (out3 : Int) (i4 : Int), xloop (xcode (E55 N) ents spec_l01Trace.kp 0 N (cL (cK (cB (cA (cB (cB spec_l01Trace.bd)))))) 0) spec_l01Trace.kp 0 0 m (spec_l01Trace.st0 p0 n1 f2 out3 i4) (spec_l01Trace.k0 N K) = (spec_l01Trace.l0 N (fun d0 => K (.int .i64 (d0)) []) n1 f2 (fun o5 => (spec_l01Trace.k0 N K) (.exit 0) (spec_l01Trace.sx0_0 p0 f2 o5)) m out3 i4) := by
  intro m
  induction m with
  | zero => intros; rfl
  | succ m ih =>
    intro out3 i4
    refine (spec_l01Trace.b0_eq N K (fun s => xloop (xcode (E55 N) ents spec_l01Trace.kp 0 N (cL (cK (cB (cA (cB (cB spec_l01Trace.bd)))))) 0) spec_l01Trace.kp 0 0 m s (spec_l01Trace.k0 N K)) p0 n1 f2 out3 i4).trans ?_
    simp only [ih]
    kernel_rfl

theorem spec_l01Trace.s_eq {ρ : Type} (N : Nat) (K : AV → Heap → Option ρ) (p0 : Int) (n1 : Int) (f2 : Nat → Int) :
    xbody (E55 N) ents spec_l01Trace.kp N Go.Proofs.Try.f61 spec_l01Trace.bd [.int .i64 (p0), .int .i64 (n1), .agg [⟨.u8, 64, f2⟩]] [] K = (spec_l01Trace.s N (fun d0 => K (.int .i64 (d0)) []) (fun out3 i4 => xloop (xcode (E55 N) ents spec_l01Trace.kp 0 N (cL (cK (cB (cA (cB (cB spec_l01Trace.bd)))))) 0) spec_l01Trace.kp 0 0 N (spec_l01Trace.st0 p0 n1 f2 out3 i4) (spec_l01Trace.k0 N K))) := by kernel_rfl

theorem spec_l01Trace.eq {ρ : Type} (N : Nat) (K : AV → Heap → Option ρ) (p0 : Int) (n1 : Int) (f2 : Nat → Int) :
    xbody (E55 N) ents spec_l01Trace.kp N Go.Proofs.Try.f61 spec_l01Trace.bd [.int .i64 (p0), .int .i64 (n1), .agg [⟨.u8, 64, f2⟩]] [] K = (spec_l01Trace N (fun d0 => K (.int .i64 (d0)) []) p0 n1 f2) := by
  refine (spec_l01Trace.s_eq N K p0 n1 f2).trans ?_
  simp only [spec_l01Trace.l0_eq, spec_l01Trace.a0_0_eq]
  kernel_rfl

noncomputable def spec_l01Trace.en (N : Nat) (ρ : Type) : List AV → Heap → (AV → Heap → Option ρ) → Option ρ
  | [.int .i64 (p0), .int .i64 (n1), .agg [⟨.u8, 64, f2⟩]], [], K => (spec_l01Trace N (fun d0 => K (.int .i64 (d0)) []) p0 n1 f2)
  | _, _, _ => none

theorem spec_l01Trace.en_ok (N : Nat) (hE : EnvOk (E55 N) ents) (ρ : Type) (args : List AV) (sh : Heap) (K : AV → Heap → Option ρ) (r : ρ) (h : spec_l01Trace.en N ρ args sh K = some r) : ∃ v sh', K v sh' = some r ∧ FnOk (E55 N).P 61 args sh v sh' := by
  unfold spec_l01Trace.en at h
  split at h
  · exact fn_ok hE (kp := spec_l01Trace.kp) (N := N) Go.Proofs.Try.func61 (c := spec_l01Trace.bd) (by kernel_rfl) ((spec_l01Trace.eq N _ _ _ _).trans h)
  · cases h

noncomputable def E56 (N : Nat) : Env := (E55 N).add 61 (spec_l01Trace.en N)

theorem E56_ok (N : Nat) : EnvOk (E56 N) ents := Env.add_ok (E55_ok N) (spec_l01Trace.en_ok N (E55_ok N))

noncomputable def spec_TraceOf.kp : Keeps := ⟨[], []⟩

noncomputable def spec_TraceOf.bd : Code := bodyOf Go.Proofs.Try.f28

noncomputable def spec_TraceOf.fin {ρ : Type} (N : Nat) (K : AV → Heap → Option ρ) : XE → St → Option ρ := finK (E56 N) Go.Proofs.Try.f28 [] K

theorem spec_TraceOf.eq {ρ : Type} (N : Nat) (K : AV → Heap → Option ρ) (a0 : Nat → Int) (a1 : Nat → Int) (v2 : Nat → Int) :
    xbody (E56 N) ents spec_TraceOf.kp N Go.Proofs.Try.f28 spec_TraceOf.bd [.agg [⟨.i64, 2, a0⟩, ⟨.u8, 520, a1⟩], .agg [⟨.u8, 8, v2⟩]] [] K = (spec_TraceOf N (fun d0 d1 => K (.tup [.int .i64 (d0), .int .i64 (d1)]) []) a0 a1 v2) := by kernel_rfl

noncomputable def spec_TraceOf.en (N : Nat) (ρ : Type) : List AV → Heap → (AV → Heap → Option ρ) → Option ρ
  | [.agg [⟨.i64, 2, a0⟩, ⟨.u8, 520, a1⟩], .agg [⟨.u8, 8, v2⟩]], [], K => (spec_TraceOf N (fun d0 d1 => K (.tup [.int .i64 (d0), .int .i64 (d1)]) []) a0 a1 v2)
  | _, _, _ => none

theorem spec_TraceOf.en_ok (N : Nat) (hE : EnvOk (E56 N) ents) (ρ : Type) (args : List AV) (sh : Heap) (K : AV → Heap → Option ρ) (r : ρ) (h : spec_TraceOf.en N ρ args sh K = some r) : ∃ v sh', K v sh' = some r ∧ FnOk (E56 N).P 28 args sh v sh' := by
  unfold spec_TraceOf.en at h
  split at h
  · exact fn_ok hE (kp := spec_TraceOf.kp) (N := N) Go.Proofs.Try.func28 (c := spec_TraceOf.bd) (by kernel_rfl) ((spec_TraceOf.eq N _ _ _ _).trans h)
  · cases h

noncomputable def E57 (N : Nat) : Env := (E56 N).add 28 (spec_TraceOf.en N)

theorem E57_ok (N : Nat) : EnvOk (E57 N) ents := Env.add_ok (E56_ok N) (spec_TraceOf.en_ok N (E56_ok N))

noncomputable def impl_Algebra_leftTable.kp : Keeps := ⟨[(0, [0, 3, 4, 5, 11, 12], 5)], [(0, [4, 5], 5)]⟩

noncomputable def impl_Algebra_leftTable.bd : Code := bodyOf Go.Proofs.Try.f65

noncomputable def impl_Algebra_leftTable.fin {ρ : Type} (N : Nat) (K : AV → Heap → Option ρ) (g1 : Nat → Int) (g2 : Nat → Int) : XE → St → Option ρ := finK (E57 N) Go.Proofs.Try.f65 [⟨false, .ints .i64 2 g1⟩, ⟨false, .ints .u8 520 g2⟩] K

noncomputable def impl_Algebra_leftTable.k0 {ρ : Type} (N : Nat) (K : AV → Heap → Option ρ) (g1 : Nat → Int) (g2 : Nat → Int) : XE → St → Option ρ := (blockK impl_Algebra_leftTable.kp 2 0 (seqK (xcode (E57 N) ents impl_Algebra_leftTable.kp 2 N (cB (cB (cB impl_Algebra_leftTable.bd))) 0) (impl_Algebra_leftTable.fin N K g1 g2)))

theorem impl_Algebra_leftTable.k0_mix {ρ : Type} (N : Nat) (K : AV → Heap → Option ρ) (g1 : Nat → Int) (g2 : Nat → Int) : mixK (impl_Algebra_leftTable.fin N K g1 g2 .ret) (impl_Algebra_leftTable.k0 N K g1 g2) = (impl_Algebra_leftTable.k0 N K g1 g2) := by
  funext e s; cases e <;> rfl

noncomputable def impl_Algebra_leftTable.st0 (v0 : Nat → Int) (g1 : Nat → Int) (g2 : Nat → Int) (x3 : Int) (g4 : Nat → Int) : St := ⟨sl 24 [(0, .sptr [(0, 2), (1, 520)]), (3, .sptr [(2, 8)]), (4, .sptr [(3, 64)]), (5, .sptr [(4, 64)]), (11, .int .i64 ((g1 1))), (12, .int .i64 (x3))], [⟨false, .ints .i64 2 g1⟩, ⟨false, .ints .u8 520 g2⟩, ⟨true, .ints .u8 8 v0⟩, ⟨true, .ints .u8 64 (fun _ => 0)⟩, ⟨true, .ints .u8 64 g4⟩]⟩

noncomputable def impl_Algebra_leftTable.sx0_0 (v0 : Nat → Int) (g1 : Nat → Int) (g2 : Nat → Int) (o7 : Nat → Int) : St := ⟨sl 24 [(4, .sptr [(3, 64)]), (5, .sptr [(4, 64)])], [⟨false, .ints .i64 2 g1⟩, ⟨false, .ints .u8 520 g2⟩, ⟨true, .ints .u8 8 v0⟩, ⟨true, .ints .u8 64 (fun _ => 0)⟩, ⟨true, .ints .u8 64 o7⟩]⟩

theorem impl_Algebra_leftTable.b0_gen {ρ : Type} (N : Nat) (K : AV → Heap → Option ρ) (L0 : St → Option ρ) (kv : XE → St → Option ρ) (v0 : Nat → Int) (g1 : Nat → Int) (g2 : Nat → Int) (x3 : Int) (g4 : Nat → Int) :
    xcode (E57 N) ents impl_Algebra_leftTable.kp 2 N (cL (cK (cB (cA (cB (cB impl_Algebra_leftTable.bd)))))) 0 (impl_Algebra_leftTable.st0 v0 g1 g2 x3 g4) (roundK impl_Algebra_leftTable.kp 2 0 L0 (mixK (impl_Algebra_leftTable.fin N K g1 g2 .ret) kv)) = (impl_Algebra_leftTable.b0 N (fun d0 => K (.agg [⟨.u8, 64, d0⟩]) [⟨false, .ints .i64 2 g1⟩, ⟨false, .ints .u8 520 g2⟩]) (fun x3 g4 => L0 (impl_Algebra_leftTable.st0 v0 g1 g2 x3 g4)) (fun o7 => kv (.exit 0) (impl_Algebra_leftTable.sx0_0 v0 g1 g2 o7)) v0 g1 g2 x3 g4) := by kernel_rfl

theorem impl_Algebra_leftTable.b0_eq {ρ : Type} (N : Nat) (K : AV → Heap → Option ρ) (L0 : St → Option ρ) (v0 : Nat → Int) (g1 : Nat → Int) (g2 : Nat → Int) (x3 : Int) (g4 : Nat → Int) :
    xcode (E57 N) ents impl_Algebra_leftTable.kp 2 N (cL (cK (cB (cA (cB (cB impl_Algebra_leftTable.bd)))))) 0 (impl_Algebra_leftTable.st0 v0 g1 g2 x3 g4) (roundK impl_Algebra_leftTable.kp 2 0 L0 (impl_Algebra_leftTable.k0 N K g1 g2)) = (impl_Algebra_leftTable.b0 N (fun d0 => K (.agg [⟨.u8, 64, d0⟩]) [⟨false, .ints .i64 2 g1⟩, ⟨false, .ints .u8 520 g2⟩]) (fun x3 g4 => L0 (impl_Algebra_leftTable.st0 v0 g1 g2 x3 g4)) (fun o7 => (impl_Algebra_leftTable.k0 N K g1 g2) (.exit 0) (impl_Algebra_leftTable.sx0_0 v0 g1 g2 o7)) v0 g1 g2 x3 g4) := by
  have h := impl_Algebra_leftTable.b0_gen N K L0 (impl_Algebra_leftTable.k0 N K g1 g2) v0 g1 g2 x3 g4
  rw [impl_Algebra_leftTable.k0_mix] at h
  exact h

theorem impl_Algebra_leftTable.a0_0_eq {ρ : Type} (N : Nat) (K : AV → Heap → Option ρ) (v0 : Nat → Int) (g1 : Nat → Int) (g2 : Nat → Int) (o7 : Nat → Int) :
    (impl_Algebra_leftTable.k0 N K g1 g2) (.exit 0) (impl_Algebra_leftTable.sx0_0 v0 g1 g2 o7) = (impl_Algebra_leftTable.a0_0 N (fun d0 => K (.agg [⟨.u8, 64, d0⟩]) [⟨false, .ints .i64 2 g1⟩, ⟨false, .ints .u8 520 g2⟩]) o7) := by kernel_rfl

theorem impl_Algebra_leftTable.l0_eq {ρ : Type} (N : Nat) (K : AV → Heap → Option ρ) (v0 : Nat → Int) (g1 : Nat → Int) (g2 : Nat → Int) :
    ∀ (m : Nat) (x3 : Int) (g4 : Nat → Int), xloop (xcode (E57 N) ents impl_Algebra_leftTable.kp 2 N (cL (cK (cB (cA (cB (cB impl_Algebra_leftTable.bd)))))) 0) impl_Algebra_leftTable.kp 2 0 m (impl_Algebra_leftTable.st0 v0 g1 g2 x3 g4) (impl_Algebra_leftTable.k0 N K g1 g2) = (impl_Algebra_leftTable.l0 N (fun d0 => K (.agg [⟨.u8, 64, d0⟩]) [⟨false, .ints .i64 2 g1⟩, ⟨false, .ints .u8 520 g2⟩]) v0 g1 g2 (fun o7 => (impl_Algebra_leftTable.k0 N K g1 g2) (.exit 0) (impl_Algebra_leftTable.sx0_0 v0 g1 g2 o7)) m x3 g4) := by
  intro m
  induction m with
  | zero => intros; rfl
  | succ m ih =>
    intro x3 g4
    refine (impl_Algebra_leftTable.b0_eq N K (fun s => xloop (xcode (E57 N) ents impl_Algebra_leftTable.kp 2 N (cL (cK (cB (cA (cB (cB impl_Algebra_leftTable.bd)))))) 0) impl_Algebra_leftTable.kp 2 0 m s (impl_Algebra_leftTable.k0 N K g1 g2)) v0 g1 g2 x3 g4).trans ?_
    simp only [ih]
    kernel_rfl

theorem impl_Algebra_leftTable.s_eq {ρ : Type} (N : Nat) (K : AV → Heap → Option ρ) (v0 : Nat → Int) (g1 : Nat → Int) (g2 : Nat → Int) :
    xbody (E57 N) ents impl_Algebra_leftTable.kp N Go.Proofs.Try.f65 impl_Algebra_leftTable.bd [.sptr [(0, 2), (1, 520)], .agg [⟨.u8, 8, v0⟩]] [⟨false, .ints .i64 2 g1⟩, ⟨false, .ints .u8 520 g2⟩] K = (impl_Algebra_leftTable.s N (fun d0 => K (.agg [⟨.u8, 64, d0⟩]) [⟨false, .ints .i64 2 g1⟩, ⟨false, .ints .u8 520 g2⟩]) (fun x3 g4 => xloop (xcode (E57 N) ents impl_Algebra_leftTable.kp 2 N (cL (cK (cB (cA (cB (cB impl_Algebra_leftTable.bd)))))) 0) impl_Algebra_leftTable.kp 2 0 N (impl_Algebra_leftTable.st0 v0 g1 g2 x3 g4) (impl_Algebra_leftTable.k0 N K g1 g2))) := by kernel_rfl

theorem impl_Algebra_leftTable.eq {ρ : Type} (N : Nat) (K : AV → Heap → Option ρ) (v0 : Nat → Int) (g1 : Nat → Int) (g2 : Nat → Int) :
    xbody (E57 N) ents impl_Algebra_leftTable.kp N Go.Proofs.Try.f65 impl_Algebra_leftTable.bd [.sptr [(0, 2), (1, 520)], .agg [⟨.u8, 8, v0⟩]] [⟨false, .ints .i64 2 g1⟩, ⟨false, .ints .u8 520 g2⟩] K = (impl_Algebra_leftTable N (fun d0 => K (.agg [⟨.u8, 64, d0⟩]) [⟨false, .ints .i64 2 g1⟩, ⟨false, .ints .u8 520 g2⟩]) v0 g1 g2) := by
  refine (impl_Algebra_leftTable.s_eq N K v0 g1 g2).trans ?_
  simp only [impl_Algebra_leftTable.l0_eq, impl_Algebra_leftTable.a0_0_eq]
  kernel_rfl

noncomputable def impl_Algebra_leftTable.en (N : Nat) (ρ : Type) : List AV → Heap → (AV → Heap → Option ρ) → Option ρ
  | [.sptr [(0, 2), (1, 520)], .agg [⟨.u8, 8, v0⟩]], [⟨false, .ints .i64 2 g1⟩, ⟨false, .ints .u8 520 g2⟩], K => (impl_Algebra_leftTable N (fun d0 => K (.agg [⟨.u8, 64, d0⟩]) [⟨false, .ints .i64 2 g1⟩, ⟨false, .ints .u8 520 g2⟩]) v0 g1 g2)
  | _, _, _ => none

theorem impl_Algebra_leftTable.en_ok (N : Nat) (hE : EnvOk (E57 N) ents) (ρ : Type) (args : List AV) (sh : Heap) (K : AV → Heap → Option ρ) (r : ρ) (h : impl_Algebra_leftTable.en N ρ args sh K = some r) : ∃ v sh', K v sh' = some r ∧ FnOk (E57 N).P 65 args sh v sh' := by
  unfold impl_Algebra_leftTable.en at h
  split at h
  · exact fn_ok hE (kp := impl_Algebra_leftTable.kp) (N := N) Go.Proofs.Try.func65 (c := impl_Algebra_leftTable.bd) (by kernel_rfl) ((impl_Algebra_leftTable.eq N _ _ _ _).trans h)
  · cases h

noncomputable def E58 (N : Nat) : Env := (E57 N).add 65 (impl_Algebra_leftTable.en N)

theorem E58_ok (N : Nat) : EnvOk (E58 N) ents := Env.add_ok (E57_ok N) (impl_Algebra_leftTable.en_ok N (E57_ok N))

noncomputable def impl_field_trace.kp : Keeps := ⟨[(0, [2, 3, 5, 7], 2)], [(0, [2, 5], 2)]⟩

noncomputable def impl_field_trace.bd : Code := bodyOf Go.Proofs.Try.f64

noncomputable def impl_field_trace.fin {ρ : Type} (N : Nat) (K : AV → Heap → Option ρ) : XE → St → Option ρ := finK (E58 N) Go.Proofs.Try.f64 [] K

noncomputable def impl_field_trace.k0 {ρ : Type} (N : Nat) (K : AV → Heap → Option ρ) : XE → St → Option ρ := (blockK impl_field_trace.kp 0 0 (seqK (xcode (E58 N) ents impl_field_trace.kp 0 N (cB (cB (cB impl_field_trace.bd))) 0) (impl_field_trace.fin N K)))

theorem impl_field_trace.k0_mix {ρ : Type} (N : Nat) (K : AV → Heap → Option ρ) : mixK (impl_field_trace.fin N K .ret) (impl_field_trace.k0 N K) = (impl_field_trace.k0 N K) := by
  funext e s; cases e <;> rfl

noncomputable def impl_field_trace.st0 (f0 : Nat → Int) (l1 : Nat → Int) (out2 : Int) (x3 : Int) : St := ⟨sl 23 [(2, .sptr [(0, 2)]), (3, .sptr [(1, 64)]), (5, .int .i64 (out2)), (7, .int .i64 (x3))], [⟨true, .ints .i64 2 f0⟩, ⟨true, .ints .u8 64 l1⟩]⟩

noncomputable def impl_field_trace.sx0_0 (f0 : Nat → Int) (l1 : Nat → Int) (o4 : Int) : St := ⟨sl 23 [(2, .sptr [(0, 2)]), (5, .int .i64 (o4))], [⟨true, .ints .i64 2 f0⟩, ⟨true, .ints .u8 64 l1⟩]⟩

theorem impl_field_trace.b0_gen {ρ : Type} (N : Nat) (K : AV → Heap → Option ρ) (L0 : St → Option ρ) (kv : XE → St → Option ρ) (f0 : Nat → Int) (l1 : Nat → Int) (out2 : Int) (x3 : Int) :
    xcode (E58 N) ents impl_field_trace.kp 0 N (cL (cK (cB (cA (cB (cB impl_field_trace.bd)))))) 0 (impl_field_trace.st0 f0 l1 out2 x3) (roundK impl_field_trace.kp 0 0 L0 (mixK (impl_field_trace.fin N K .ret) kv)) = (impl_field_trace.b0 N (fun d0 => K (.int .i64 (d0)) []) (fun out2 x3 => L0 (impl_field_trace.st0 f0 l1 out2 x3)) (fun o4 => kv (.exit 0) (impl_field_trace.sx0_0 f0 l1 o4)) l1 out2 x3) := by kernel_rfl

theorem impl_field_trace.b0_eq {ρ : Type} (N : Nat) (K : AV → Heap → Option ρ) (L0 : St → Option ρ) (f0 : Nat → Int) (l1 : Nat → Int) (out2 : Int) (x3 : Int) :
    xcode (E58 N) ents impl_field_trace.kp 0 N (cL (cK (cB (cA (cB (cB impl_field_trace.bd)))))) 0 (impl_field_trace.st0 f0 l1 out2 x3) (roundK impl_field_trace.kp 0 0 L0 (impl_field_trace.k0 N K)) = (impl_field_trace.b0 N (fun d0 => K (.int .i64 (d0)) []) (fun out2 x3 => L0 (impl_field_trace.st0 f0 l1 out2 x3)) (fun o4 => (impl_field_trace.k0 N K) (.exit 0) (impl_field_trace.sx0_0 f0 l1 o4)) l1 out2 x3) := by
  have h := impl_field_trace.b0_gen N K L0 (impl_field_trace.k0 N K) f0 l1 out2 x3
  rw [impl_field_trace.k0_mix] at h
  exact h

theorem impl_field_trace.a0_0_eq {ρ : Type} (N : Nat) (K : AV → Heap → Option ρ) (f0 : Nat → Int) (l1 : Nat → Int) (o4 : Int) :
    (impl_field_trace.k0 N K) (.exit 0) (impl_field_trace.sx0_0 f0 l1 o4) = (impl_field_trace.a0_0 N (fun d0 => K (.int .i64 (d0)) []) f0 o4) := by kernel_rfl

theorem impl_field_trace.l0_eq {ρ : Type} (N : Nat) (K : AV → Heap → Option ρ) (f0 : Nat → Int) (l1 : Nat → Int) :
    ∀ (m : Nat) (out2 : Int) (x3 : Int), xloop (xcode (E58 N) ents impl_field_trace.kp 0 N (cL (cK (cB (cA (cB (cB impl_field_trace.bd)))))) 0) impl_field_trace.kp 0 0 m (impl_field_trace.st0 f0 l1 out2 x3) (impl_field_trace.k0 N K) = (impl_field_trace.l0 N (fun d0 => K (.int .i64 (d0)) []) l1 (fun o4 => (impl_field_trace.k0 N K) (.exit 0) (impl_field_trace.sx0_0 f0 l1 o4)) m out2 x3) := by
  intro m
  induction m with
  | zero => intros; rfl
  | succ m ih =>
    intro out2 x3
    refine (impl_field_trace.b0_eq N K (fun s => xloop (xcode (E58 N) ents impl_field_trace.kp 0 N (cL (cK (cB (cA (cB (cB impl_field_trace.bd)))))) 0) impl_field_trace.kp 0 0 m s (impl_field_trace.k0 N K)) f0 l1 out2 x3).trans ?_
    simp only [ih]
    kernel_rfl

theorem impl_field_trace.s_eq {ρ : Type} (N : Nat) (K : AV → Heap → Option ρ) (f0 : Nat → Int) (l1 : Nat → Int) :
    xbody (E58 N) ents impl_field_trace.kp N Go.Proofs.Try.f64 impl_field_trace.bd [.agg [⟨.i64, 2, f0⟩], .agg [⟨.u8, 64, l1⟩]] [] K = (impl_field_trace.s N (fun d0 => K (.int .i64 (d0)) []) (fun out2 x3 => xloop (xcode (E58 N) ents impl_field_trace.kp 0 N (cL (cK (cB (cA (cB (cB impl_field_trace.bd)))))) 0) impl_field_trace.kp 0 0 N (impl_field_trace.st0 f0 l1 out2 x3) (impl_field_trace.k0 N K))) := by kernel_rfl

theorem impl_field_trace.eq {ρ : Type} (N : Nat) (K : AV → Heap → Option ρ) (f0 : Nat → Int) (l1 : Nat → Int) :
    xbody (E58 N) ents impl_field_trace.kp N Go.Proofs.Try.f64 impl_field_trace.bd [.agg [⟨.i64, 2, f0⟩], .agg [⟨.u8, 64, l1⟩]] [] K = (impl_field_trace N (fun d0 => K (.int .i64 (d0)) []) f0 l1) := by
  refine (impl_field_trace.s_eq N K f0 l1).trans ?_
  simp only [impl_field_trace.l0_eq, impl_field_trace.a0_0_eq]
  kernel_rfl

noncomputable def impl_field_trace.en (N : Nat) (ρ : Type) : List AV → Heap → (AV → Heap → Option ρ) → Option ρ
  | [.agg [⟨.i64, 2, f0⟩], .agg [⟨.u8, 64, l1⟩]], [], K => (impl_field_trace N (fun d0 => K (.int .i64 (d0)) []) f0 l1)
  | _, _, _ => none

theorem impl_field_trace.en_ok (N : Nat) (hE : EnvOk (E58 N) ents) (ρ : Type) (args : List AV) (sh : Heap) (K : AV → Heap → Option ρ) (r : ρ) (h : impl_field_trace.en N ρ args sh K = some r) : ∃ v sh', K v sh' = some r ∧ FnOk (E58 N).P 64 args sh v sh' := by
  unfold impl_field_trace.en at h
  split at h
  · exact fn_ok hE (kp := impl_field_trace.kp) (N := N) Go.Proofs.Try.func64 (c := impl_field_trace.bd) (by kernel_rfl) ((impl_field_trace.eq N _ _ _).trans h)
  · cases h

noncomputable def E59 (N : Nat) : Env := (E58 N).add 64 (impl_field_trace.en N)

theorem E59_ok (N : Nat) : EnvOk (E59 N) ents := Env.add_ok (E58_ok N) (impl_field_trace.en_ok N (E58_ok N))

noncomputable def impl_TraceOf.kp : Keeps := ⟨[], []⟩

noncomputable def impl_TraceOf.bd : Code := bodyOf Go.Proofs.Try.f29

noncomputable def impl_TraceOf.fin {ρ : Type} (N : Nat) (K : AV → Heap → Option ρ) : XE → St → Option ρ := finK (E59 N) Go.Proofs.Try.f29 [] K

theorem impl_TraceOf.eq {ρ : Type} (N : Nat) (K : AV → Heap → Option ρ) (a0 : Nat → Int) (a1 : Nat → Int) (v2 : Nat → Int) :
    xbody (E59 N) ents impl_TraceOf.kp N Go.Proofs.Try.f29 impl_TraceOf.bd [.agg [⟨.i64, 2, a0⟩, ⟨.u8, 520, a1⟩], .agg [⟨.u8, 8, v2⟩]] [] K = (impl_TraceOf N (fun d0 d1 => K (.tup [.int .i64 (d0), .int .i64 (d1)]) []) a0 a1 v2) := by kernel_rfl

noncomputable def impl_TraceOf.en (N : Nat) (ρ : Type) : List AV → Heap → (AV → Heap → Option ρ) → Option ρ
  | [.agg [⟨.i64, 2, a0⟩, ⟨.u8, 520, a1⟩], .agg [⟨.u8, 8, v2⟩]], [], K => (impl_TraceOf N (fun d0 d1 => K (.tup [.int .i64 (d0), .int .i64 (d1)]) []) a0 a1 v2)
  | _, _, _ => none

theorem impl_TraceOf.en_ok (N : Nat) (hE : EnvOk (E59 N) ents) (ρ : Type) (args : List AV) (sh : Heap) (K : AV → Heap → Option ρ) (r : ρ) (h : impl_TraceOf.en N ρ args sh K = some r) : ∃ v sh', K v sh' = some r ∧ FnOk (E59 N).P 29 args sh v sh' := by
  unfold impl_TraceOf.en at h
  split at h
  · exact fn_ok hE (kp := impl_TraceOf.kp) (N := N) Go.Proofs.Try.func29 (c := impl_TraceOf.bd) (by kernel_rfl) ((impl_TraceOf.eq N _ _ _ _).trans h)
  · cases h

noncomputable def E60 (N : Nat) : Env := (E59 N).add 29 (impl_TraceOf.en N)

theorem E60_ok (N : Nat) : EnvOk (E60 N) ents := Env.add_ok (E59_ok N) (impl_TraceOf.en_ok N (E59_ok N))

noncomputable def laws_FnExactTraceOf.kp : Keeps := ⟨[], []⟩

noncomputable def laws_FnExactTraceOf.bd : Code := bodyOf Go.Proofs.Try.f7

noncomputable def laws_FnExactTraceOf.fin {ρ : Type} (N : Nat) (K : AV → Heap → Option ρ) : XE → St → Option ρ := finK (E60 N) Go.Proofs.Try.f7 [] K

theorem laws_FnExactTraceOf.eq {ρ : Type} (N : Nat) (K : AV → Heap → Option ρ) (aA0 : Nat → Int) (aA1 : Nat → Int) (aV2 : Nat → Int) :
    xbody (E60 N) ents laws_FnExactTraceOf.kp N Go.Proofs.Try.f7 laws_FnExactTraceOf.bd [.agg [⟨.i64, 2, aA0⟩, ⟨.u8, 520, aA1⟩], .agg [⟨.u8, 8, aV2⟩]] [] K = (laws_FnExactTraceOf N (fun d0 => K (.bool (d0)) []) aA0 aA1 aV2) := by kernel_rfl

noncomputable def laws_FnExactTraceOf.en (N : Nat) (ρ : Type) : List AV → Heap → (AV → Heap → Option ρ) → Option ρ
  | [.agg [⟨.i64, 2, aA0⟩, ⟨.u8, 520, aA1⟩], .agg [⟨.u8, 8, aV2⟩]], [], K => (laws_FnExactTraceOf N (fun d0 => K (.bool (d0)) []) aA0 aA1 aV2)
  | _, _, _ => none

theorem laws_FnExactTraceOf.en_ok (N : Nat) (hE : EnvOk (E60 N) ents) (ρ : Type) (args : List AV) (sh : Heap) (K : AV → Heap → Option ρ) (r : ρ) (h : laws_FnExactTraceOf.en N ρ args sh K = some r) : ∃ v sh', K v sh' = some r ∧ FnOk (E60 N).P 7 args sh v sh' := by
  unfold laws_FnExactTraceOf.en at h
  split at h
  · exact fn_ok hE (kp := laws_FnExactTraceOf.kp) (N := N) Go.Proofs.Try.func7 (c := laws_FnExactTraceOf.bd) (by kernel_rfl) ((laws_FnExactTraceOf.eq N _ _ _ _).trans h)
  · cases h

noncomputable def E61 (N : Nat) : Env := (E60 N).add 7 (laws_FnExactTraceOf.en N)

theorem E61_ok (N : Nat) : EnvOk (E61 N) ents := Env.add_ok (E60_ok N) (laws_FnExactTraceOf.en_ok N (E60_ok N))

noncomputable def spec_PowerOf.kp : Keeps := ⟨[(0, [2, 3, 4, 6, 9], 6)], [(0, [6, 9], 6)]⟩

noncomputable def spec_PowerOf.bd : Code := bodyOf Go.Proofs.Try.f30

noncomputable def spec_PowerOf.fin {ρ : Type} (N : Nat) (K : AV → Heap → Option ρ) : XE → St → Option ρ := finK (E61 N) Go.Proofs.Try.f30 [] K

noncomputable def spec_PowerOf.k0 {ρ : Type} (N : Nat) (K : AV → Heap → Option ρ) : XE → St → Option ρ := (blockK spec_PowerOf.kp 0 0 (seqK (xcode (E61 N) ents spec_PowerOf.kp 0 N (cB (cB (cB (cB (cB spec_PowerOf.bd))))) 0) (spec_PowerOf.fin N K)))

theorem spec_PowerOf.k0_mix {ρ : Type} (N : Nat) (K : AV → Heap → Option ρ) : mixK (spec_PowerOf.fin N K .ret) (spec_PowerOf.k0 N K) = (spec_PowerOf.k0 N K) := by
  funext e s; cases e <;> rfl

noncomputable def spec_PowerOf.st0 (a0 : Nat → Int) (a1 : Nat → Int) (v2 : Nat → Int) (k6 : Int) (g7 : Nat → Int) : St := ⟨sl 33 [(2, .int .i64 (k6)), (3, .sptr [(0, 2), (1, 520)]), (4, .sptr [(2, 8)]), (6, .sptr [(3, 8)]), (9, .sptr [(5, 8)])], [⟨true, .ints .i64 2 a0⟩, ⟨true, .ints .u8 520 a1⟩, ⟨true, .ints .u8 8 v2⟩, ⟨true, .ints .u8 8 (fun _ => 0)⟩, ⟨true, .ints .u8 8 v2⟩, ⟨true, .ints .u8 8 g7⟩]⟩

noncomputable def spec_PowerOf.sx0_0 (a0 : Nat → Int) (a1 : Nat → Int) (v2 : Nat → Int) (o9 : Nat → Int) : St := ⟨sl 33 [(6, .sptr [(3, 8)]), (9, .sptr [(5, 8)])], [⟨true, .ints .i64 2 a0⟩, ⟨true, .ints .u8 520 a1⟩, ⟨true, .ints .u8 8 v2⟩, ⟨true, .ints .u8 8 (fun _ => 0)⟩, ⟨true, .ints .u8 8 v2⟩, ⟨true, .ints .u8 8 o9⟩]⟩

theorem spec_PowerOf.b0_gen {ρ : Type} (N : Nat) (K : AV → Heap → Option ρ) (L0 : St → Option ρ) (kv : XE → St → Option ρ) (a0 : Nat → Int) (a1 : Nat → Int) (v2 : Nat → Int) (k6 : Int) (g7 : Nat → Int) :
    xcode (E61 N) ents spec_PowerOf.kp 0 N (cL (cK (cA (cB (cB (cB (cB spec_PowerOf.bd))))))) 0 (spec_PowerOf.st0 a0 a1 v2 k6 g7) (roundK spec_PowerOf.kp 0 0 L0 (mixK (spec_PowerOf.fin N K .ret) kv)) = (spec_PowerOf.b0 N (fun d0 d1 => K (.tup [.agg [⟨.u8, 8, d0⟩], .int .i64 (d1)]) []) (fun k6 g7 => L0 (spec_PowerOf.st0 a0 a1 v2 k6 g7)) (fun o9 => kv (.exit 0) (spec_PowerOf.sx0_0 a0 a1 v2 o9)) a0 a1 v2 k6 g7) := by kernel_rfl

theorem spec_PowerOf.b0_eq {ρ : Type} (N : Nat) (K : AV → Heap → Option ρ) (L0 : St → Option ρ) (a0 : Nat → Int) (a1 : Nat → Int) (v2 : Nat → Int) (k6 : Int) (g7 : Nat → Int) :
    xcode (E61 N) ents spec_PowerOf.kp 0 N (cL (cK (cA (cB (cB (cB (cB spec_PowerOf.bd))))))) 0 (spec_PowerOf.st0 a0 a1 v2 k6 g7) (roundK spec_PowerOf.kp 0 0 L0 (spec_PowerOf.k0 N K)) = (spec_PowerOf.b0 N (fun d0 d1 => K (.tup [.agg [⟨.u8, 8, d0⟩], .int .i64 (d1)]) []) (fun k6 g7 => L0 (spec_PowerOf.st0 a0 a1 v2 k6 g7)) (fun o9 => (spec_PowerOf.k0 N K) (.exit 0) (spec_PowerOf.sx0_0 a0 a1 v2 o9)) a0 a1 v2 k6 g7) := by
  have h := spec_PowerOf.b0_gen N K L0 (spec_PowerOf.k0 N K) a0 a1 v2 k6 g7
  rw [spec_PowerOf.k0_mix] at h
  exact h

theorem spec_PowerOf.a0_0_eq {ρ : Type} (N : Nat) (K : AV → Heap → Option ρ) (a0 : Nat → Int) (a1 : Nat → Int) (v2 : Nat → Int) (o9 : Nat → Int) :
    (spec_PowerOf.k0 N K) (.exit 0) (spec_PowerOf.sx0_0 a0 a1 v2 o9) = (spec_PowerOf.a0_0 N (fun d0 d1 => K (.tup [.agg [⟨.u8, 8, d0⟩], .int .i64 (d1)]) []) o9) := by kernel_rfl

theorem spec_PowerOf.l0_eq {ρ : Type} (N : Nat) (K : AV → Heap → Option ρ) (a0 : Nat → Int) (a1 : Nat → Int) (v2 : Nat → Int) :
    ∀ (m : Nat) (k6 : Int) (g7 : Nat → Int), xloop (xcode (E61 N) ents spec_PowerOf.kp 0 N (cL (cK (cA (cB (cB (cB (cB spec_PowerOf.bd))))))) 0) spec_PowerOf.kp 0 0 m (spec_PowerOf.st0 a0 a1 v2 k6 g7) (spec_PowerOf.k0 N K) = (spec_PowerOf.l0 N (fun d0 d1 => K (.tup [.agg [⟨.u8, 8, d0⟩], .int .i64 (d1)]) []) a0 a1 v2 (fun o9 => (spec_PowerOf.k0 N K) (.exit 0) (spec_PowerOf.sx0_0 a0 a1 v2 o9)) m k6 g7) := by
  intro m
  induction m with
  | zero => intros; rfl
  | succ m ih =>
    intro k6 g7
    refine (spec_PowerOf.b0_eq N K (fun s => xloop (xcode (E61 N) ents spec_PowerOf.kp 0 N (cL (cK (cA (cB (cB (cB (cB spec_PowerOf.bd))))))) 0) spec_PowerOf.kp 0 0 m s (spec_PowerOf.k0 N K)) a0 a1 v2 k6 g7).trans ?_
    simp only [ih]
    kernel_rfl

theorem spec_PowerOf.s_eq {ρ : Type} (N : Nat) (K : AV → Heap → Option ρ) (a0 : Nat → Int) (a1 : Nat → Int) (v2 : Nat → Int) (k3 : Int) :
    xbody (E61 N) ents spec_PowerOf.kp N Go.Proofs.Try.f30 spec_PowerOf.bd [.agg [⟨.i64, 2, a0⟩, ⟨.u8, 520, a1⟩], .agg [⟨.u8, 8, v2⟩], .int .i64 (k3)] [] K = (spec_PowerOf.s N (fun d0 d1 => K (.tup [.agg [⟨.u8, 8, d0⟩], .int .i64 (d1)]) []) (fun k6 g7 => xloop (xcode (E61 N) ents spec_PowerOf.kp 0 N (cL (cK (cA (cB (cB (cB (cB spec_PowerOf.bd))))))) 0) spec_PowerOf.kp 0 0 N (spec_PowerOf.st0 a0 a1 v2 k6 g7) (spec_PowerOf.k0 N K)) a0 a1 v2 k3) := by kernel_rfl

theorem spec_PowerOf.eq {ρ : Type} (N : Nat) (K : AV → Heap → Option ρ) (a0 : Nat → Int) (a1 : Nat → Int) (v2 : Nat → Int) (k3 : Int) :
    xbody (E61 N) ents spec_PowerOf.kp N Go.Proofs.Try.f30 spec_PowerOf.bd [.agg [⟨.i64, 2, a0⟩, ⟨.u8, 520, a1⟩], .agg [⟨.u8, 8, v2⟩], .int .i64 (k3)] [] K = (spec_PowerOf N (fun d0 d1 => K (.tup [.agg [⟨.u8, 8, d0⟩], .int .i64 (d1)]) []) a0 a1 v2 k3) := by
  refine (spec_PowerOf.s_eq N K a0 a1 v2 k3).trans ?_
  simp only [spec_PowerOf.l0_eq, spec_PowerOf.a0_0_eq]
  kernel_rfl

noncomputable def spec_PowerOf.en (N : Nat) (ρ : Type) : List AV → Heap → (AV → Heap → Option ρ) → Option ρ
  | [.agg [⟨.i64, 2, a0⟩, ⟨.u8, 520, a1⟩], .agg [⟨.u8, 8, v2⟩], .int .i64 (k3)], [], K => (spec_PowerOf N (fun d0 d1 => K (.tup [.agg [⟨.u8, 8, d0⟩], .int .i64 (d1)]) []) a0 a1 v2 k3)
  | _, _, _ => none

theorem spec_PowerOf.en_ok (N : Nat) (hE : EnvOk (E61 N) ents) (ρ : Type) (args : List AV) (sh : Heap) (K : AV → Heap → Option ρ) (r : ρ) (h : spec_PowerOf.en N ρ args sh K = some r) : ∃ v sh', K v sh' = some r ∧ FnOk (E61 N).P 30 args sh v sh' := by
  unfold spec_PowerOf.en at h
  split at h
  · exact fn_ok hE (kp := spec_PowerOf.kp) (N := N) Go.Proofs.Try.func30 (c := spec_PowerOf.bd) (by kernel_rfl) ((spec_PowerOf.eq N _ _ _ _ _).trans h)
  · cases h

noncomputable def E62 (N : Nat) : Env := (E61 N).add 30 (spec_PowerOf.en N)

theorem E62_ok (N : Nat) : EnvOk (E62 N) ents := Env.add_ok (E61_ok N) (spec_PowerOf.en_ok N (E61_ok N))

noncomputable def impl_first_s2.kp : Keeps := ⟨[(0, [5, 6, 7], 1)], [(0, [], 1)]⟩

noncomputable def impl_first_s2.bd : Code := bodyOf Go.Proofs.Try.f67

noncomputable def impl_first_s2.fin {ρ : Type} (N : Nat) (K : AV → Heap → Option ρ) (g2 : Nat → Int) : XE → St → Option ρ := finK (E62 N) Go.Proofs.Try.f67 [⟨false, .ints .i64 2 g2⟩] K

noncomputable def impl_first_s2.k0 {ρ : Type} (N : Nat) (K : AV → Heap → Option ρ) (g2 : Nat → Int) : XE → St → Option ρ := (blockK impl_first_s2.kp 1 0 (seqK (xcode (E62 N) ents impl_first_s2.kp 1 N (cB (cB impl_first_s2.bd)) 0) (impl_first_s2.fin N K g2)))

theorem impl_first_s2.k0_mix {ρ : Type} (N : Nat) (K : AV → Heap → Option ρ) (g2 : Nat → Int) : mixK (impl_first_s2.fin N K g2 .ret) (impl_first_s2.k0 N K g2) = (impl_first_s2.k0 N K g2) := by
  funext e s; cases e <;> rfl

noncomputable def impl_first_s2.st0 (codes0 : Nat) (codes1 : Nat) (g2 : Nat → Int) (x3 : Int) : St := ⟨sl 15 [(5, .slice 0 0 codes0 (some codes1) 1), (6, .int .i64 ((codes0 : Int))), (7, .int .i64 (x3))], [⟨false, .ints .i64 2 g2⟩]⟩

noncomputable def impl_first_s2.sx0_0 (g2 : Nat → Int) : St := ⟨sl 15 [], [⟨false, .ints .i64 2 g2⟩]⟩

theorem impl_first_s2.b0_gen {ρ : Type} (N : Nat) (K : AV → Heap → Option ρ) (L0 : St → Option ρ) (kv : XE → St → Option ρ) (codes0 : Nat) (codes1 : Nat) (g2 : Nat → Int) (x3 : Int) :
    xcode (E62 N) ents impl_first_s2.kp 1 N (cL (cK (cB (cA (cB impl_first_s2.bd))))) 0 (impl_first_s2.st0 codes0 codes1 g2 x3) (roundK impl_first_s2.kp 1 0 L0 (mixK (impl_first_s2.fin N K g2 .ret) kv)) = (impl_first_s2.b0 N (fun d0 => K (.int .i64 (d0)) [⟨false, .ints .i64 2 g2⟩]) (fun x3 => L0 (impl_first_s2.st0 codes0 codes1 g2 x3)) (kv (.exit 0) (impl_first_s2.sx0_0 g2)) codes0 g2 x3) := by kernel_rfl

theorem impl_first_s2.b0_eq {ρ : Type} (N : Nat) (K : AV → Heap → Option ρ) (L0 : St → Option ρ) (codes0 : Nat) (codes1 : Nat) (g2 : Nat → Int) (x3 : Int) :
    xcode (E62 N) ents impl_first_s2.kp 1 N (cL (cK (cB (cA (cB impl_first_s2.bd))))) 0 (impl_first_s2.st0 codes0 codes1 g2 x3) (roundK impl_first_s2.kp 1 0 L0 (impl_first_s2.k0 N K g2)) = (impl_first_s2.b0 N (fun d0 => K (.int .i64 (d0)) [⟨false, .ints .i64 2 g2⟩]) (fun x3 => L0 (impl_first_s2.st0 codes0 codes1 g2 x3)) ((impl_first_s2.k0 N K g2) (.exit 0) (impl_first_s2.sx0_0 g2)) codes0 g2 x3) := by
  have h := impl_first_s2.b0_gen N K L0 (impl_first_s2.k0 N K g2) codes0 codes1 g2 x3
  rw [impl_first_s2.k0_mix] at h
  exact h

theorem impl_first_s2.a0_0_eq {ρ : Type} (N : Nat) (K : AV → Heap → Option ρ) (g2 : Nat → Int) :
    (impl_first_s2.k0 N K g2) (.exit 0) (impl_first_s2.sx0_0 g2) = (impl_first_s2.a0_0 N (fun d0 => K (.int .i64 (d0)) [⟨false, .ints .i64 2 g2⟩])) := by kernel_rfl

theorem impl_first_s2.l0_eq {ρ : Type} (N : Nat) (K : AV → Heap → Option ρ) (codes0 : Nat) (codes1 : Nat) (g2 : Nat → Int) :
    ∀ (m : Nat) (x3 : Int), xloop (xcode (E62 N) ents impl_first_s2.kp 1 N (cL (cK (cB (cA (cB impl_first_s2.bd))))) 0) impl_first_s2.kp 1 0 m (impl_first_s2.st0 codes0 codes1 g2 x3) (impl_first_s2.k0 N K g2) = (impl_first_s2.l0 N (fun d0 => K (.int .i64 (d0)) [⟨false, .ints .i64 2 g2⟩]) codes0 g2 ((impl_first_s2.k0 N K g2) (.exit 0) (impl_first_s2.sx0_0 g2)) m x3) := by
  intro m
  induction m with
  | zero => intros; rfl
  | succ m ih =>
    intro x3
    refine (impl_first_s2.b0_eq N K (fun s => xloop (xcode (E62 N) ents impl_first_s2.kp 1 N (cL (cK (cB (cA (cB impl_first_s2.bd))))) 0) impl_first_s2.kp 1 0 m s (impl_first_s2.k0 N K g2)) codes0 codes1 g2 x3).trans ?_
    simp only [ih]
    kernel_rfl

theorem impl_first_s2.s_eq {ρ : Type} (N : Nat) (K : AV → Heap → Option ρ) (codes0 : Nat) (codes1 : Nat) (g2 : Nat → Int) :
    xbody (E62 N) ents impl_first_s2.kp N Go.Proofs.Try.f67 impl_first_s2.bd [.slice 0 0 codes0 (some codes1) 1] [⟨false, .ints .i64 2 g2⟩] K = (impl_first_s2.s N (fun d0 => K (.int .i64 (d0)) [⟨false, .ints .i64 2 g2⟩]) (fun x3 => xloop (xcode (E62 N) ents impl_first_s2.kp 1 N (cL (cK (cB (cA (cB impl_first_s2.bd))))) 0) impl_first_s2.kp 1 0 N (impl_first_s2.st0 codes0 codes1 g2 x3) (impl_first_s2.k0 N K g2))) := by kernel_rfl

theorem impl_first_s2.eq {ρ : Type} (N : Nat) (K : AV → Heap → Option ρ) (codes0 : Nat) (codes1 : Nat) (g2 : Nat → Int) :
    xbody (E62 N) ents impl_first_s2.kp N Go.Proofs.Try.f67 impl_first_s2.bd [.slice 0 0 codes0 (some codes1) 1] [⟨false, .ints .i64 2 g2⟩] K = (impl_first_s2 N (fun d0 => K (.int .i64 (d0)) [⟨false, .ints .i64 2 g2⟩]) codes0 codes1 g2) := by
  refine (impl_first_s2.s_eq N K codes0 codes1 g2).trans ?_
  simp only [impl_first_s2.l0_eq, impl_first_s2.a0_0_eq]
  kernel_rfl

noncomputable def impl_first_s4.kp : Keeps := ⟨[(0, [5, 6, 7], 1)], [(0, [], 1)]⟩

noncomputable def impl_first_s4.bd : Code := bodyOf Go.Proofs.Try.f67

noncomputable def impl_first_s4.fin {ρ : Type} (N : Nat) (K : AV → Heap → Option ρ) (g2 : Nat → Int) : XE → St → Option ρ := finK (E62 N) Go.Proofs.Try.f67 [⟨false, .ints .i64 4 g2⟩] K

noncomputable def impl_first_s4.k0 {ρ : Type} (N : Nat) (K : AV → Heap → Option ρ) (g2 : Nat → Int) : XE → St → Option ρ := (blockK impl_first_s4.kp 1 0 (seqK (xcode (E62 N) ents impl_first_s4.kp 1 N (cB (cB impl_first_s4.bd)) 0) (impl_first_s4.fin N K g2)))

theorem impl_first_s4.k0_mix {ρ : Type} (N : Nat) (K : AV → Heap → Option ρ) (g2 : Nat → Int) : mixK (impl_first_s4.fin N K g2 .ret) (impl_first_s4.k0 N K g2) = (impl_first_s4.k0 N K g2) := by
  funext e s; cases e <;> rfl

noncomputable def impl_first_s4.st0 (codes0 : Nat) (codes1 : Nat) (g2 : Nat → Int) (x3 : Int) : St := ⟨sl 15 [(5, .slice 0 0 codes0 (some codes1) 1), (6, .int .i64 ((codes0 : Int))), (7, .int .i64 (x3))], [⟨false, .ints .i64 4 g2⟩]⟩

noncomputable def impl_first_s4.sx0_0 (g2 : Nat → Int) : St := ⟨sl 15 [], [⟨false, .ints .i64 4 g2⟩]⟩

theorem impl_first_s4.b0_gen {ρ : Type} (N : Nat) (K : AV → Heap → Option ρ) (L0 : St → Option ρ) (kv : XE → St → Option ρ) (codes0 : Nat) (codes1 : Nat) (g2 : Nat → Int) (x3 : Int) :
    xcode (E62 N) ents impl_first_s4.kp 1 N (cL (cK (cB (cA (cB impl_first_s4.bd))))) 0 (impl_first_s4.st0 codes0 codes1 g2 x3) (roundK impl_first_s4.kp 1 0 L0 (mixK (impl_first_s4.fin N K g2 .ret) kv)) = (impl_first_s4.b0 N (fun d0 => K (.int .i64 (d0)) [⟨false, .ints .i64 4 g2⟩]) (fun x3 => L0 (impl_first_s4.st0 codes0 codes1 g2 x3)) (kv (.exit 0) (impl_first_s4.sx0_0 g2)) codes0 g2 x3) := by kernel_rfl

theorem impl_first_s4.b0_eq {ρ : Type} (N : Nat) (K : AV → Heap → Option ρ) (L0 : St → Option ρ) (codes0 : Nat) (codes1 : Nat) (g2 : Nat → Int) (x3 : Int) :
    xcode (E62 N) ents impl_first_s4.kp 1 N (cL (cK (cB (cA (cB impl_first_s4.bd))))) 0 (impl_first_s4.st0 codes0 codes1 g2 x3) (roundK impl_first_s4.kp 1 0 L0 (impl_first_s4.k0 N K g2)) = (impl_first_s4.b0 N (fun d0 => K (.int .i64 (d0)) [⟨false, .ints .i64 4 g2⟩]) (fun x3 => L0 (impl_first_s4.st0 codes0 codes1 g2 x3)) ((impl_first_s4.k0 N K g2) (.exit 0) (impl_first_s4.sx0_0 g2)) codes0 g2 x3) := by
  have h := impl_first_s4.b0_gen N K L0 (impl_first_s4.k0 N K g2) codes0 codes1 g2 x3
  rw [impl_first_s4.k0_mix] at h
  exact h

theorem impl_first_s4.a0_0_eq {ρ : Type} (N : Nat) (K : AV → Heap → Option ρ) (g2 : Nat → Int) :
    (impl_first_s4.k0 N K g2) (.exit 0) (impl_first_s4.sx0_0 g2) = (impl_first_s4.a0_0 N (fun d0 => K (.int .i64 (d0)) [⟨false, .ints .i64 4 g2⟩])) := by kernel_rfl

theorem impl_first_s4.l0_eq {ρ : Type} (N : Nat) (K : AV → Heap → Option ρ) (codes0 : Nat) (codes1 : Nat) (g2 : Nat → Int) :
    ∀ (m : Nat) (x3 : Int), xloop (xcode (E62 N) ents impl_first_s4.kp 1 N (cL (cK (cB (cA (cB impl_first_s4.bd))))) 0) impl_first_s4.kp 1 0 m (impl_first_s4.st0 codes0 codes1 g2 x3) (impl_first_s4.k0 N K g2) = (impl_first_s4.l0 N (fun d0 => K (.int .i64 (d0)) [⟨false, .ints .i64 4 g2⟩]) codes0 g2 ((impl_first_s4.k0 N K g2) (.exit 0) (impl_first_s4.sx0_0 g2)) m x3) := by
  intro m
  induction m with
  | zero => intros; rfl
  | succ m ih =>
    intro x3
    refine (impl_first_s4.b0_eq N K (fun s => xloop (xcode (E62 N) ents impl_first_s4.kp 1 N (cL (cK (cB (cA (cB impl_first_s4.bd))))) 0) impl_first_s4.kp 1 0 m s (impl_first_s4.k0 N K g2)) codes0 codes1 g2 x3).trans ?_
    simp only [ih]
    kernel_rfl

theorem impl_first_s4.s_eq {ρ : Type} (N : Nat) (K : AV → Heap → Option ρ) (codes0 : Nat) (codes1 : Nat) (g2 : Nat → Int) :
    xbody (E62 N) ents impl_first_s4.kp N Go.Proofs.Try.f67 impl_first_s4.bd [.slice 0 0 codes0 (some codes1) 1] [⟨false, .ints .i64 4 g2⟩] K = (impl_first_s4.s N (fun d0 => K (.int .i64 (d0)) [⟨false, .ints .i64 4 g2⟩]) (fun x3 => xloop (xcode (E62 N) ents impl_first_s4.kp 1 N (cL (cK (cB (cA (cB impl_first_s4.bd))))) 0) impl_first_s4.kp 1 0 N (impl_first_s4.st0 codes0 codes1 g2 x3) (impl_first_s4.k0 N K g2))) := by kernel_rfl

theorem impl_first_s4.eq {ρ : Type} (N : Nat) (K : AV → Heap → Option ρ) (codes0 : Nat) (codes1 : Nat) (g2 : Nat → Int) :
    xbody (E62 N) ents impl_first_s4.kp N Go.Proofs.Try.f67 impl_first_s4.bd [.slice 0 0 codes0 (some codes1) 1] [⟨false, .ints .i64 4 g2⟩] K = (impl_first_s4 N (fun d0 => K (.int .i64 (d0)) [⟨false, .ints .i64 4 g2⟩]) codes0 codes1 g2) := by
  refine (impl_first_s4.s_eq N K codes0 codes1 g2).trans ?_
  simp only [impl_first_s4.l0_eq, impl_first_s4.a0_0_eq]
  kernel_rfl

noncomputable def impl_first_s2.en (N : Nat) (ρ : Type) : List AV → Heap → (AV → Heap → Option ρ) → Option ρ
  | [.slice 0 0 codes0 (some codes1) 1], [⟨false, .ints .i64 2 g2⟩], K => (impl_first_s2 N (fun d0 => K (.int .i64 (d0)) [⟨false, .ints .i64 2 g2⟩]) codes0 codes1 g2)
  | [.slice 0 0 codes0 (some codes1) 1], [⟨false, .ints .i64 4 g2⟩], K => (impl_first_s4 N (fun d0 => K (.int .i64 (d0)) [⟨false, .ints .i64 4 g2⟩]) codes0 codes1 g2)
  | _, _, _ => none

theorem impl_first_s2.en_ok (N : Nat) (hE : EnvOk (E62 N) ents) (ρ : Type) (args : List AV) (sh : Heap) (K : AV → Heap → Option ρ) (r : ρ) (h : impl_first_s2.en N ρ args sh K = some r) : ∃ v sh', K v sh' = some r ∧ FnOk (E62 N).P 67 args sh v sh' := by
  unfold impl_first_s2.en at h
  split at h
  · exact fn_ok hE (kp := impl_first_s2.kp) (N := N) Go.Proofs.Try.func67 (c := impl_first_s2.bd) (by kernel_rfl) ((impl_first_s2.eq N _ _ _ _).trans h)
  · exact fn_ok hE (kp := impl_first_s4.kp) (N := N) Go.Proofs.Try.func67 (c := impl_first_s4.bd) (by kernel_rfl) ((impl_first_s4.eq N _ _ _ _).trans h)
  · cases h

noncomputable def E63 (N : Nat) : Env := (E62 N).add 67 (impl_first_s2.en N)

theorem E63_ok (N : Nat) : EnvOk (E63 N) ents := Env.add_ok (E62_ok N) (impl_first_s2.en_ok N (E62_ok N))
end Go.Proofs.Ytmjpfchbkolcbaa.H
