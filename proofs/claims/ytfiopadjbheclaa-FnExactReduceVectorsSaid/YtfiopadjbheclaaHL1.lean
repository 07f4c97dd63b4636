/- The program computes these functions. -/
import Derived.Test.YtfiopadjbheclaaHL0
namespace Go.Proofs.Ytfiopadjbheclaa.H
set_option linter.unusedVariables false
set_option linter.unusedSimpArgs false
open Go Go.RowKit Go.Proofs.Ytfiopadjbheclaa.Hy
set_option linter.unusedVariables false
set_option maxRecDepth 100000
noncomputable def slices_IndexFunc_sf.kp : Keeps := ⟨[(0, [0, 1, 7, 8], [], [])], [(0, [], [], [])], []⟩

noncomputable def slices_IndexFunc_sf.bd : Code := bodyOf Go.Proofs.Try.f24

noncomputable def slices_IndexFunc_sf.fin {ρ : Type} (N : Nat) (K : AV → Heap → Option ρ) (gv2 : Nat) (gv3 : Nat → Int) (gv4 : Nat → Int) (gv5 : Nat → Int) : XE → St → Option ρ := finK (E22 N) slices_IndexFunc_sf.kp.fins Go.Proofs.Try.f24 [⟨false, .flat gv2 (.ints .u8 gv3)⟩, ⟨false, .flat 1 (.ints .i64 gv4)⟩, ⟨false, .flat 1 (.ints .i64 gv5)⟩] K

noncomputable def slices_IndexFunc_sf.k0 {ρ : Type} (N : Nat) (K : AV → Heap → Option ρ) (gv2 : Nat) (gv3 : Nat → Int) (gv4 : Nat → Int) (gv5 : Nat → Int) : XE → St → Option ρ := (blockK slices_IndexFunc_sf.kp 3 0 (seqK (xcode (E22 N) ents slices_IndexFunc_sf.kp 3 N (cB (cB slices_IndexFunc_sf.bd)) 0) (slices_IndexFunc_sf.fin N K gv2 gv3 gv4 gv5)))

theorem slices_IndexFunc_sf.k0_mix {ρ : Type} (N : Nat) (K : AV → Heap → Option ρ) (gv2 : Nat) (gv3 : Nat → Int) (gv4 : Nat → Int) (gv5 : Nat → Int) : mixK (slices_IndexFunc_sf.fin N K gv2 gv3 gv4 gv5 .ret) (slices_IndexFunc_sf.k0 N K gv2 gv3 gv4 gv5) = (slices_IndexFunc_sf.k0 N K gv2 gv3 gv4 gv5) := by
  funext e s; cases e <;> kernel_rfl

noncomputable def slices_IndexFunc_sf.st0 (s0 : Nat) (s1 : Nat) (gv2 : Nat) (gv3 : Nat → Int) (gv4 : Nat → Int) (gv5 : Nat → Int) (x6 : Int) : St := ⟨sl 19 [(0, .slice true 0 0 s0 (.exact s1) 8), (1, .fn 17 0 [[(1, 1)], [(2, 1)]]), (7, .int .i64 ((s0 : Int))), (8, .int .i64 (x6))], [⟨false, .flat gv2 (.ints .u8 gv3)⟩, ⟨false, .flat 1 (.ints .i64 gv4)⟩, ⟨false, .flat 1 (.ints .i64 gv5)⟩]⟩

noncomputable def slices_IndexFunc_sf.sx0_0 (gv2 : Nat) (gv3 : Nat → Int) (gv4 : Nat → Int) (gv5 : Nat → Int) : St := ⟨sl 19 [], [⟨false, .flat gv2 (.ints .u8 gv3)⟩, ⟨false, .flat 1 (.ints .i64 gv4)⟩, ⟨false, .flat 1 (.ints .i64 gv5)⟩]⟩

theorem slices_IndexFunc_sf.b0_gen {ρ : Type} (N : Nat) (K : AV → Heap → Option ρ) (L0 : St → Option ρ) (kv : XE → St → Option ρ) (s0 : Nat) (s1 : Nat) (gv2 : Nat) (gv3 : Nat → Int) (gv4 : Nat → Int) (gv5 : Nat → Int) (x6 : Int) :
    xcode (E22 N) ents slices_IndexFunc_sf.kp 3 N (cL (cK (cB (cA (cB slices_IndexFunc_sf.bd))))) 0 (slices_IndexFunc_sf.st0 s0 s1 gv2 gv3 gv4 gv5 x6) (roundK slices_IndexFunc_sf.kp 3 0 L0 (mixK (slices_IndexFunc_sf.fin N K gv2 gv3 gv4 gv5 .ret) kv)) = (slices_IndexFunc_sf.b0 N (fun d0 => K (.int .i64 (d0)) [⟨false, .flat gv2 (.ints .u8 gv3)⟩, ⟨false, .flat 1 (.ints .i64 gv4)⟩, ⟨false, .flat 1 (.ints .i64 gv5)⟩]) (fun x6 => L0 (slices_IndexFunc_sf.st0 s0 s1 gv2 gv3 gv4 gv5 x6)) (kv (.exit 0) (slices_IndexFunc_sf.sx0_0 gv2 gv3 gv4 gv5)) s0 gv3 gv4 gv5 x6) := by kernel_rfl

theorem slices_IndexFunc_sf.b0_eq {ρ : Type} (N : Nat) (K : AV → Heap → Option ρ) (L0 : St → Option ρ) (s0 : Nat) (s1 : Nat) (gv2 : Nat) (gv3 : Nat → Int) (gv4 : Nat → Int) (gv5 : Nat → Int) (x6 : Int) :
    xcode (E22 N) ents slices_IndexFunc_sf.kp 3 N (cL (cK (cB (cA (cB slices_IndexFunc_sf.bd))))) 0 (slices_IndexFunc_sf.st0 s0 s1 gv2 gv3 gv4 gv5 x6) (roundK slices_IndexFunc_sf.kp 3 0 L0 (slices_IndexFunc_sf.k0 N K gv2 gv3 gv4 gv5)) = (slices_IndexFunc_sf.b0 N (fun d0 => K (.int .i64 (d0)) [⟨false, .flat gv2 (.ints .u8 gv3)⟩, ⟨false, .flat 1 (.ints .i64 gv4)⟩, ⟨false, .flat 1 (.ints .i64 gv5)⟩]) (fun x6 => L0 (slices_IndexFunc_sf.st0 s0 s1 gv2 gv3 gv4 gv5 x6)) ((slices_IndexFunc_sf.k0 N K gv2 gv3 gv4 gv5) (.exit 0) (slices_IndexFunc_sf.sx0_0 gv2 gv3 gv4 gv5)) s0 gv3 gv4 gv5 x6) := by
  have h := slices_IndexFunc_sf.b0_gen N K L0 (slices_IndexFunc_sf.k0 N K gv2 gv3 gv4 gv5) s0 s1 gv2 gv3 gv4 gv5 x6
  rw [slices_IndexFunc_sf.k0_mix] at h
  exact h

theorem slices_IndexFunc_sf.a0_0_eq {ρ : Type} (N : Nat) (K : AV → Heap → Option ρ) (gv2 : Nat) (gv3 : Nat → Int) (gv4 : Nat → Int) (gv5 : Nat → Int) :
    (slices_IndexFunc_sf.k0 N K gv2 gv3 gv4 gv5) (.exit 0) (slices_IndexFunc_sf.sx0_0 gv2 gv3 gv4 gv5) = (slices_IndexFunc_sf.a0_0 N (fun d0 => K (.int .i64 (d0)) [⟨false, .flat gv2 (.ints .u8 gv3)⟩, ⟨false, .flat 1 (.ints .i64 gv4)⟩, ⟨false, .flat 1 (.ints .i64 gv5)⟩])) := by kernel_rfl

theorem slices_IndexFunc_sf.l0_eq {ρ : Type} (N : Nat) (K : AV → Heap → Option ρ) (s0 : Nat) (s1 : Nat) (gv2 : Nat) (gv3 : Nat → Int) (gv4 : Nat → Int) (gv5 : Nat → Int) :
    ∀ (m : Nat) (x6 : Int), xloop (xcode (E22 N) ents slices_IndexFunc_sf.kp 3 N (cL (cK (cB (cA (cB slices_IndexFunc_sf.bd))))) 0) slices_IndexFunc_sf.kp 3 0 m (slices_IndexFunc_sf.st0 s0 s1 gv2 gv3 gv4 gv5 x6) (slices_IndexFunc_sf.k0 N K gv2 gv3 gv4 gv5) = (slices_IndexFunc_sf.l0 N (fun d0 => K (.int .i64 (d0)) [⟨false, .flat gv2 (.ints .u8 gv3)⟩, ⟨false, .flat 1 (.ints .i64 gv4)⟩, ⟨false, .flat 1 (.ints .i64 gv5)⟩]) s0 gv3 gv4 gv5 ((slices_IndexFunc_sf.k0 N K gv2 gv3 gv4 gv5) (.exit 0) (slices_IndexFunc_sf.sx0_0 gv2 gv3 gv4 gv5)) m x6) := by
  intro m
  induction m with
  | zero => intros; rfl
  | succ m ih =>
    intro x6
    refine (slices_IndexFunc_sf.b0_eq N K (fun s => xloop (xcode (E22 N) ents slices_IndexFunc_sf.kp 3 N (cL (cK (cB (cA (cB slices_IndexFunc_sf.bd))))) 0) slices_IndexFunc_sf.kp 3 0 m s (slices_IndexFunc_sf.k0 N K gv2 gv3 gv4 gv5)) s0 s1 gv2 gv3 gv4 gv5 x6).trans ?_
    simp only [ih]
    kernel_rfl

theorem slices_IndexFunc_sf.s_eq {ρ : Type} (N : Nat) (K : AV → Heap → Option ρ) (s0 : Nat) (s1 : Nat) (gv2 : Nat) (gv3 : Nat → Int) (gv4 : Nat → Int) (gv5 : Nat → Int) :
    xbody (E22 N) ents slices_IndexFunc_sf.kp N Go.Proofs.Try.f24 slices_IndexFunc_sf.bd [.slice true 0 0 s0 (.exact s1) 8, .fn 17 0 [[(1, 1)], [(2, 1)]]] [⟨false, .flat gv2 (.ints .u8 gv3)⟩, ⟨false, .flat 1 (.ints .i64 gv4)⟩, ⟨false, .flat 1 (.ints .i64 gv5)⟩] K = (slices_IndexFunc_sf.s N (fun d0 => K (.int .i64 (d0)) [⟨false, .flat gv2 (.ints .u8 gv3)⟩, ⟨false, .flat 1 (.ints .i64 gv4)⟩, ⟨false, .flat 1 (.ints .i64 gv5)⟩]) (fun x6 => xloop (xcode (E22 N) ents slices_IndexFunc_sf.kp 3 N (cL (cK (cB (cA (cB slices_IndexFunc_sf.bd))))) 0) slices_IndexFunc_sf.kp 3 0 N (slices_IndexFunc_sf.st0 s0 s1 gv2 gv3 gv4 gv5 x6) (slices_IndexFunc_sf.k0 N K gv2 gv3 gv4 gv5))) := by kernel_rfl

theorem slices_IndexFunc_sf.eq {ρ : Type} (N : Nat) (K : AV → Heap → Option ρ) (s0 : Nat) (s1 : Nat) (gv2 : Nat) (gv3 : Nat → Int) (gv4 : Nat → Int) (gv5 : Nat → Int) :
    xbody (E22 N) ents slices_IndexFunc_sf.kp N Go.Proofs.Try.f24 slices_IndexFunc_sf.bd [.slice true 0 0 s0 (.exact s1) 8, .fn 17 0 [[(1, 1)], [(2, 1)]]] [⟨false, .flat gv2 (.ints .u8 gv3)⟩, ⟨false, .flat 1 (.ints .i64 gv4)⟩, ⟨false, .flat 1 (.ints .i64 gv5)⟩] K = (slices_IndexFunc_sf N (fun d0 => K (.int .i64 (d0)) [⟨false, .flat gv2 (.ints .u8 gv3)⟩, ⟨false, .flat 1 (.ints .i64 gv4)⟩, ⟨false, .flat 1 (.ints .i64 gv5)⟩]) s0 s1 gv2 gv3 gv4 gv5) := by
  refine (slices_IndexFunc_sf.s_eq N K s0 s1 gv2 gv3 gv4 gv5).trans ?_
  simp only [slices_IndexFunc_sf.l0_eq, slices_IndexFunc_sf.a0_0_eq]
  kernel_rfl

noncomputable def slices_IndexFunc_nf.kp : Keeps := ⟨[(0, [0, 1, 7, 8], [], [])], [(0, [], [], [])], []⟩

noncomputable def slices_IndexFunc_nf.bd : Code := bodyOf Go.Proofs.Try.f24

noncomputable def slices_IndexFunc_nf.fin {ρ : Type} (N : Nat) (K : AV → Heap → Option ρ) (gv0 : Nat → Int) (gv1 : Nat → Int) : XE → St → Option ρ := finK (E22 N) slices_IndexFunc_nf.kp.fins Go.Proofs.Try.f24 [⟨false, .flat 1 (.ints .i64 gv0)⟩, ⟨false, .flat 1 (.ints .i64 gv1)⟩] K

noncomputable def slices_IndexFunc_nf.k0 {ρ : Type} (N : Nat) (K : AV → Heap → Option ρ) (gv0 : Nat → Int) (gv1 : Nat → Int) : XE → St → Option ρ := (blockK slices_IndexFunc_nf.kp 2 0 (seqK (xcode (E22 N) ents slices_IndexFunc_nf.kp 2 N (cB (cB slices_IndexFunc_nf.bd)) 0) (slices_IndexFunc_nf.fin N K gv0 gv1)))

theorem slices_IndexFunc_nf.k0_mix {ρ : Type} (N : Nat) (K : AV → Heap → Option ρ) (gv0 : Nat → Int) (gv1 : Nat → Int) : mixK (slices_IndexFunc_nf.fin N K gv0 gv1 .ret) (slices_IndexFunc_nf.k0 N K gv0 gv1) = (slices_IndexFunc_nf.k0 N K gv0 gv1) := by
  funext e s; cases e <;> kernel_rfl

noncomputable def slices_IndexFunc_nf.st0 (gv0 : Nat → Int) (gv1 : Nat → Int) : St := ⟨sl 19 [(0, .nils), (1, .fn 17 0 [[(0, 1)], [(1, 1)]]), (7, .int .i64 0), (8, .int .i64 0)], [⟨false, .flat 1 (.ints .i64 gv0)⟩, ⟨false, .flat 1 (.ints .i64 gv1)⟩]⟩

noncomputable def slices_IndexFunc_nf.sx0_0 (gv0 : Nat → Int) (gv1 : Nat → Int) : St := ⟨sl 19 [], [⟨false, .flat 1 (.ints .i64 gv0)⟩, ⟨false, .flat 1 (.ints .i64 gv1)⟩]⟩

theorem slices_IndexFunc_nf.b0_gen {ρ : Type} (N : Nat) (K : AV → Heap → Option ρ) (L0 : St → Option ρ) (kv : XE → St → Option ρ) (gv0 : Nat → Int) (gv1 : Nat → Int) :
    xcode (E22 N) ents slices_IndexFunc_nf.kp 2 N (cL (cK (cB (cA (cB slices_IndexFunc_nf.bd))))) 0 (slices_IndexFunc_nf.st0 gv0 gv1) (roundK slices_IndexFunc_nf.kp 2 0 L0 (mixK (slices_IndexFunc_nf.fin N K gv0 gv1 .ret) kv)) = (slices_IndexFunc_nf.b0 N (fun d0 => K (.int .i64 (d0)) [⟨false, .flat 1 (.ints .i64 gv0)⟩, ⟨false, .flat 1 (.ints .i64 gv1)⟩]) (L0 (slices_IndexFunc_nf.st0 gv0 gv1)) (kv (.exit 0) (slices_IndexFunc_nf.sx0_0 gv0 gv1))) := by kernel_rfl

theorem slices_IndexFunc_nf.b0_eq {ρ : Type} (N : Nat) (K : AV → Heap → Option ρ) (L0 : St → Option ρ) (gv0 : Nat → Int) (gv1 : Nat → Int) :
    xcode (E22 N) ents slices_IndexFunc_nf.kp 2 N (cL (cK (cB (cA (cB slices_IndexFunc_nf.bd))))) 0 (slices_IndexFunc_nf.st0 gv0 gv1) (roundK slices_IndexFunc_nf.kp 2 0 L0 (slices_IndexFunc_nf.k0 N K gv0 gv1)) = (slices_IndexFunc_nf.b0 N (fun d0 => K (.int .i64 (d0)) [⟨false, .flat 1 (.ints .i64 gv0)⟩, ⟨false, .flat 1 (.ints .i64 gv1)⟩]) (L0 (slices_IndexFunc_nf.st0 gv0 gv1)) ((slices_IndexFunc_nf.k0 N K gv0 gv1) (.exit 0) (slices_IndexFunc_nf.sx0_0 gv0 gv1))) := by
  have h := slices_IndexFunc_nf.b0_gen N K L0 (slices_IndexFunc_nf.k0 N K gv0 gv1) gv0 gv1
  rw [slices_IndexFunc_nf.k0_mix] at h
  exact h

theorem slices_IndexFunc_nf.a0_0_eq {ρ : Type} (N : Nat) (K : AV → Heap → Option ρ) (gv0 : Nat → Int) (gv1 : Nat → Int) :
    (slices_IndexFunc_nf.k0 N K gv0 gv1) (.exit 0) (slices_IndexFunc_nf.sx0_0 gv0 gv1) = (slices_IndexFunc_nf.a0_0 N (fun d0 => K (.int .i64 (d0)) [⟨false, .flat 1 (.ints .i64 gv0)⟩, ⟨false, .flat 1 (.ints .i64 gv1)⟩])) := by kernel_rfl

theorem slices_IndexFunc_nf.l0_eq {ρ : Type} (N : Nat) (K : AV → Heap → Option ρ) (gv0 : Nat → Int) (gv1 : Nat → Int) :
    ∀ (m : Nat), xloop (xcode (E22 N) ents slices_IndexFunc_nf.kp 2 N (cL (cK (cB (cA (cB slices_IndexFunc_nf.bd))))) 0) slices_IndexFunc_nf.kp 2 0 m (slices_IndexFunc_nf.st0 gv0 gv1) (slices_IndexFunc_nf.k0 N K gv0 gv1) = (slices_IndexFunc_nf.l0 N (fun d0 => K (.int .i64 (d0)) [⟨false, .flat 1 (.ints .i64 gv0)⟩, ⟨false, .flat 1 (.ints .i64 gv1)⟩]) ((slices_IndexFunc_nf.k0 N K gv0 gv1) (.exit 0) (slices_IndexFunc_nf.sx0_0 gv0 gv1)) m) := by
  intro m
  induction m with
  | zero => intros; rfl
  | succ m ih =>
    refine (slices_IndexFunc_nf.b0_eq N K (fun s => xloop (xcode (E22 N) ents slices_IndexFunc_nf.kp 2 N (cL (cK (cB (cA (cB slices_IndexFunc_nf.bd))))) 0) slices_IndexFunc_nf.kp 2 0 m s (slices_IndexFunc_nf.k0 N K gv0 gv1)) gv0 gv1).trans ?_
    simp only [ih]
    kernel_rfl

theorem slices_IndexFunc_nf.s_eq {ρ : Type} (N : Nat) (K : AV → Heap → Option ρ) (gv0 : Nat → Int) (gv1 : Nat → Int) :
    xbody (E22 N) ents slices_IndexFunc_nf.kp N Go.Proofs.Try.f24 slices_IndexFunc_nf.bd [.nils, .fn 17 0 [[(0, 1)], [(1, 1)]]] [⟨false, .flat 1 (.ints .i64 gv0)⟩, ⟨false, .flat 1 (.ints .i64 gv1)⟩] K = (slices_IndexFunc_nf.s N (fun d0 => K (.int .i64 (d0)) [⟨false, .flat 1 (.ints .i64 gv0)⟩, ⟨false, .flat 1 (.ints .i64 gv1)⟩]) (xloop (xcode (E22 N) ents slices_IndexFunc_nf.kp 2 N (cL (cK (cB (cA (cB slices_IndexFunc_nf.bd))))) 0) slices_IndexFunc_nf.kp 2 0 N (slices_IndexFunc_nf.st0 gv0 gv1) (slices_IndexFunc_nf.k0 N K gv0 gv1))) := by kernel_rfl

theorem slices_IndexFunc_nf.eq {ρ : Type} (N : Nat) (K : AV → Heap → Option ρ) (gv0 : Nat → Int) (gv1 : Nat → Int) :
    xbody (E22 N) ents slices_IndexFunc_nf.kp N Go.Proofs.Try.f24 slices_IndexFunc_nf.bd [.nils, .fn 17 0 [[(0, 1)], [(1, 1)]]] [⟨false, .flat 1 (.ints .i64 gv0)⟩, ⟨false, .flat 1 (.ints .i64 gv1)⟩] K = (slices_IndexFunc_nf N (fun d0 => K (.int .i64 (d0)) [⟨false, .flat 1 (.ints .i64 gv0)⟩, ⟨false, .flat 1 (.ints .i64 gv1)⟩]) gv0 gv1) := by
  refine (slices_IndexFunc_nf.s_eq N K gv0 gv1).trans ?_
  simp only [slices_IndexFunc_nf.l0_eq, slices_IndexFunc_nf.a0_0_eq]
  kernel_rfl

noncomputable def slices_IndexFunc_sf.en (N : Nat) (ρ : Type) : List AV → Heap → (AV → Heap → Option ρ) → Option ρ
  | [.slice true 0 0 s0 (.exact s1) 8, .fn 17 0 [[(1, 1)], [(2, 1)]]], [⟨false, .flat gv2 (.ints .u8 gv3)⟩, ⟨false, .flat 1 (.ints .i64 gv4)⟩, ⟨false, .flat 1 (.ints .i64 gv5)⟩], K => (slices_IndexFunc_sf N (fun d0 => K (.int .i64 (d0)) [⟨false, .flat gv2 (.ints .u8 gv3)⟩, ⟨false, .flat 1 (.ints .i64 gv4)⟩, ⟨false, .flat 1 (.ints .i64 gv5)⟩]) s0 s1 gv2 gv3 gv4 gv5)
  | [.nils, .fn 17 0 [[(0, 1)], [(1, 1)]]], [⟨false, .flat 1 (.ints .i64 gv0)⟩, ⟨false, .flat 1 (.ints .i64 gv1)⟩], K => (slices_IndexFunc_nf N (fun d0 => K (.int .i64 (d0)) [⟨false, .flat 1 (.ints .i64 gv0)⟩, ⟨false, .flat 1 (.ints .i64 gv1)⟩]) gv0 gv1)
  | _, _, _ => none

theorem slices_IndexFunc_sf.en_ok (N : Nat) (hE : EnvOk (E22 N) ents) (ρ : Type) (args : List AV) (sh : Heap) (K : AV → Heap → Option ρ) (r : ρ) (h : slices_IndexFunc_sf.en N ρ args sh K = some r) : ∃ v sh', K v sh' = some r ∧ FnOk (E22 N).P 24 args sh v sh' := by
  unfold slices_IndexFunc_sf.en at h
  split at h
  · exact fn_ok hE (kp := slices_IndexFunc_sf.kp) (N := N) Go.Proofs.Try.func24 (c := slices_IndexFunc_sf.bd) (by kernel_rfl) ((slices_IndexFunc_sf.eq N _ _ _ _ _ _ _).trans h)
  · exact fn_ok hE (kp := slices_IndexFunc_nf.kp) (N := N) Go.Proofs.Try.func24 (c := slices_IndexFunc_nf.bd) (by kernel_rfl) ((slices_IndexFunc_nf.eq N _ _ _).trans h)
  · cases h

noncomputable def E23 (N : Nat) : Env := (E22 N).add 24 (slices_IndexFunc_sf.en N)

theorem E23_ok (N : Nat) : EnvOk (E23 N) ents := Env.add_ok (E22_ok N) (slices_IndexFunc_sf.en_ok N (E22_ok N))

noncomputable def slices_ContainsFunc_sf.kp : Keeps := ⟨[], [], []⟩

noncomputable def slices_ContainsFunc_sf.bd : Code := bodyOf Go.Proofs.Try.f16

noncomputable def slices_ContainsFunc_sf.fin {ρ : Type} (N : Nat) (K : AV → Heap → Option ρ) (gv2 : Nat) (gv3 : Nat → Int) (gv4 : Nat → Int) (gv5 : Nat → Int) : XE → St → Option ρ := finK (E23 N) slices_ContainsFunc_sf.kp.fins Go.Proofs.Try.f16 [⟨false, .flat gv2 (.ints .u8 gv3)⟩, ⟨false, .flat 1 (.ints .i64 gv4)⟩, ⟨false, .flat 1 (.ints .i64 gv5)⟩] K

theorem slices_ContainsFunc_sf.eq {ρ : Type} (N : Nat) (K : AV → Heap → Option ρ) (s0 : Nat) (s1 : Nat) (gv2 : Nat) (gv3 : Nat → Int) (gv4 : Nat → Int) (gv5 : Nat → Int) :
    xbody (E23 N) ents slices_ContainsFunc_sf.kp N Go.Proofs.Try.f16 slices_ContainsFunc_sf.bd [.slice true 0 0 s0 (.exact s1) 8, .fn 17 0 [[(1, 1)], [(2, 1)]]] [⟨false, .flat gv2 (.ints .u8 gv3)⟩, ⟨false, .flat 1 (.ints .i64 gv4)⟩, ⟨false, .flat 1 (.ints .i64 gv5)⟩] K = (slices_ContainsFunc_sf N (fun d0 => K (.bool (d0)) [⟨false, .flat gv2 (.ints .u8 gv3)⟩, ⟨false, .flat 1 (.ints .i64 gv4)⟩, ⟨false, .flat 1 (.ints .i64 gv5)⟩]) s0 s1 gv2 gv3 gv4 gv5) := by kernel_rfl

noncomputable def slices_ContainsFunc_nf.kp : Keeps := ⟨[], [], []⟩

noncomputable def slices_ContainsFunc_nf.bd : Code := bodyOf Go.Proofs.Try.f16

noncomputable def slices_ContainsFunc_nf.fin {ρ : Type} (N : Nat) (K : AV → Heap → Option ρ) (gv0 : Nat → Int) (gv1 : Nat → Int) : XE → St → Option ρ := finK (E23 N) slices_ContainsFunc_nf.kp.fins Go.Proofs.Try.f16 [⟨false, .flat 1 (.ints .i64 gv0)⟩, ⟨false, .flat 1 (.ints .i64 gv1)⟩] K

theorem slices_ContainsFunc_nf.eq {ρ : Type} (N : Nat) (K : AV → Heap → Option ρ) (gv0 : Nat → Int) (gv1 : Nat → Int) :
    xbody (E23 N) ents slices_ContainsFunc_nf.kp N Go.Proofs.Try.f16 slices_ContainsFunc_nf.bd [.nils, .fn 17 0 [[(0, 1)], [(1, 1)]]] [⟨false, .flat 1 (.ints .i64 gv0)⟩, ⟨false, .flat 1 (.ints .i64 gv1)⟩] K = (slices_ContainsFunc_nf N (fun d0 => K (.bool (d0)) [⟨false, .flat 1 (.ints .i64 gv0)⟩, ⟨false, .flat 1 (.ints .i64 gv1)⟩]) gv0 gv1) := by kernel_rfl

noncomputable def slices_ContainsFunc_sf.en (N : Nat) (ρ : Type) : List AV → Heap → (AV → Heap → Option ρ) → Option ρ
  | [.slice true 0 0 s0 (.exact s1) 8, .fn 17 0 [[(1, 1)], [(2, 1)]]], [⟨false, .flat gv2 (.ints .u8 gv3)⟩, ⟨false, .flat 1 (.ints .i64 gv4)⟩, ⟨false, .flat 1 (.ints .i64 gv5)⟩], K => (slices_ContainsFunc_sf N (fun d0 => K (.bool (d0)) [⟨false, .flat gv2 (.ints .u8 gv3)⟩, ⟨false, .flat 1 (.ints .i64 gv4)⟩, ⟨false, .flat 1 (.ints .i64 gv5)⟩]) s0 s1 gv2 gv3 gv4 gv5)
  | [.nils, .fn 17 0 [[(0, 1)], [(1, 1)]]], [⟨false, .flat 1 (.ints .i64 gv0)⟩, ⟨false, .flat 1 (.ints .i64 gv1)⟩], K => (slices_ContainsFunc_nf N (fun d0 => K (.bool (d0)) [⟨false, .flat 1 (.ints .i64 gv0)⟩, ⟨false, .flat 1 (.ints .i64 gv1)⟩]) gv0 gv1)
  | _, _, _ => none

theorem slices_ContainsFunc_sf.en_ok (N : Nat) (hE : EnvOk (E23 N) ents) (ρ : Type) (args : List AV) (sh : Heap) (K : AV → Heap → Option ρ) (r : ρ) (h : slices_ContainsFunc_sf.en N ρ args sh K = some r) : ∃ v sh', K v sh' = some r ∧ FnOk (E23 N).P 16 args sh v sh' := by
  unfold slices_ContainsFunc_sf.en at h
  split at h
  · exact fn_ok hE (kp := slices_ContainsFunc_sf.kp) (N := N) Go.Proofs.Try.func16 (c := slices_ContainsFunc_sf.bd) (by kernel_rfl) ((slices_ContainsFunc_sf.eq N _ _ _ _ _ _ _).trans h)
  · exact fn_ok hE (kp := slices_ContainsFunc_nf.kp) (N := N) Go.Proofs.Try.func16 (c := slices_ContainsFunc_nf.bd) (by kernel_rfl) ((slices_ContainsFunc_nf.eq N _ _ _).trans h)
  · cases h

noncomputable def E24 (N : Nat) : Env := (E23 N).add 16 (slices_ContainsFunc_sf.en N)

theorem E24_ok (N : Nat) : EnvOk (E24 N) ents := Env.add_ok (E23_ok N) (slices_ContainsFunc_sf.en_ok N (E23_ok N))

noncomputable def impl_newSystem.kp : Keeps := ⟨[], [], []⟩

noncomputable def impl_newSystem.bd : Code := bodyOf Go.Proofs.Try.f27

noncomputable def impl_newSystem.fin {ρ : Type} (N : Nat) (K : AV → Heap → Option ρ) : XE → St → Option ρ := finK (E24 N) impl_newSystem.kp.fins Go.Proofs.Try.f27 [] K

theorem impl_newSystem.eq {ρ : Type} (N : Nat) (K : AV → Heap → Option ρ) (p0 : Int) (many1 : Int) :
    xbody (E24 N) ents impl_newSystem.kp N Go.Proofs.Try.f27 impl_newSystem.bd [.int .i64 (p0), .int .i64 (many1)] [] K = (impl_newSystem N (fun d0 d1 => K (.sptr [(0, 2), (1, 1), (2, 1), (3, 1)]) [⟨true, .flat 2 (.ints .i64 d0)⟩, ⟨true, .flat 1 (.ints .i64 d1)⟩, ⟨true, .avs [.nils]⟩, ⟨true, .avs [.nils]⟩]) p0 many1) := by kernel_rfl

noncomputable def impl_newSystem.en (N : Nat) (ρ : Type) : List AV → Heap → (AV → Heap → Option ρ) → Option ρ
  | [.int .i64 (p0), .int .i64 (many1)], [], K => (impl_newSystem N (fun d0 d1 => K (.sptr [(0, 2), (1, 1), (2, 1), (3, 1)]) [⟨true, .flat 2 (.ints .i64 d0)⟩, ⟨true, .flat 1 (.ints .i64 d1)⟩, ⟨true, .avs [.nils]⟩, ⟨true, .avs [.nils]⟩]) p0 many1)
  | _, _, _ => none

theorem impl_newSystem.en_ok (N : Nat) (hE : EnvOk (E24 N) ents) (ρ : Type) (args : List AV) (sh : Heap) (K : AV → Heap → Option ρ) (r : ρ) (h : impl_newSystem.en N ρ args sh K = some r) : ∃ v sh', K v sh' = some r ∧ FnOk (E24 N).P 27 args sh v sh' := by
  unfold impl_newSystem.en at h
  split at h
  · exact fn_ok hE (kp := impl_newSystem.kp) (N := N) Go.Proofs.Try.func27 (c := impl_newSystem.bd) (by kernel_rfl) ((impl_newSystem.eq N _ _ _).trans h)
  · cases h

noncomputable def E25 (N : Nat) : Env := (E24 N).add 27 (impl_newSystem.en N)

theorem E25_ok (N : Nat) : EnvOk (E25 N) ents := Env.add_ok (E24_ok N) (impl_newSystem.en_ok N (E24_ok N))

noncomputable def slices_Clone_s.kp : Keeps := ⟨[], [], []⟩

noncomputable def slices_Clone_s.bd : Code := bodyOf Go.Proofs.Try.f28

noncomputable def slices_Clone_s.fin {ρ : Type} (N : Nat) (K : AV → Heap → Option ρ) (gv2 : Nat) (gv3 : Nat → Int) : XE → St → Option ρ := finK (E25 N) slices_Clone_s.kp.fins Go.Proofs.Try.f28 [⟨false, .flat gv2 (.ints .u8 gv3)⟩] K

theorem slices_Clone_s.eq {ρ : Type} (N : Nat) (K : AV → Heap → Option ρ) (s0 : Nat) (s1 : Nat) (gv2 : Nat) (gv3 : Nat → Int) :
    xbody (E25 N) ents slices_Clone_s.kp N Go.Proofs.Try.f28 slices_Clone_s.bd [.slice true 0 0 s0 (.exact s1) 1] [⟨false, .flat gv2 (.ints .u8 gv3)⟩] K = (slices_Clone_s N (fun d0 d1 => K (.slice true 1 0 d0 .whole 1) [⟨false, .flat gv2 (.ints .u8 gv3)⟩, ⟨true, .flat 0 (.ints .u8 d1)⟩]) s0 s1 gv2 gv3) := by kernel_rfl

noncomputable def slices_Clone_s.en (N : Nat) (ρ : Type) : List AV → Heap → (AV → Heap → Option ρ) → Option ρ
  | [.slice true 0 0 s0 (.exact s1) 1], [⟨false, .flat gv2 (.ints .u8 gv3)⟩], K => (slices_Clone_s N (fun d0 d1 => K (.slice true 1 0 d0 .whole 1) [⟨false, .flat gv2 (.ints .u8 gv3)⟩, ⟨true, .flat 0 (.ints .u8 d1)⟩]) s0 s1 gv2 gv3)
  | _, _, _ => none

theorem slices_Clone_s.en_ok (N : Nat) (hE : EnvOk (E25 N) ents) (ρ : Type) (args : List AV) (sh : Heap) (K : AV → Heap → Option ρ) (r : ρ) (h : slices_Clone_s.en N ρ args sh K = some r) : ∃ v sh', K v sh' = some r ∧ FnOk (E25 N).P 28 args sh v sh' := by
  unfold slices_Clone_s.en at h
  split at h
  · exact fn_ok hE (kp := slices_Clone_s.kp) (N := N) Go.Proofs.Try.func28 (c := slices_Clone_s.bd) (by kernel_rfl) ((slices_Clone_s.eq N _ _ _ _ _).trans h)
  · cases h

noncomputable def E26 (N : Nat) : Env := (E25 N).add 28 (slices_Clone_s.en N)

theorem E26_ok (N : Nat) : EnvOk (E26 N) ents := Env.add_ok (E25_ok N) (slices_Clone_s.en_ok N (E25_ok N))

noncomputable def impl_system_solve_c1_su.kp : Keeps := ⟨[], [], []⟩

noncomputable def impl_system_solve_c1_su.bd : Code := bodyOf Go.Proofs.Try.f38

noncomputable def impl_system_solve_c1_su.fin {ρ : Type} (N : Nat) (K : AV → Heap → Option ρ) (gv1 : Nat) (gv2 : Nat → Int) (gv3 : Nat → Int) : XE → St → Option ρ := finK (E26 N) impl_system_solve_c1_su.kp.fins Go.Proofs.Try.f38 [⟨false, .flat gv1 (.ints .u8 gv2)⟩, ⟨false, .flat 1 (.ints .i64 gv3)⟩] K

theorem impl_system_solve_c1_su.eq {ρ : Type} (N : Nat) (K : AV → Heap → Option ρ) (rv0 : Nat) (gv1 : Nat) (gv2 : Nat → Int) (gv3 : Nat → Int) :
    xbody (E26 N) ents impl_system_solve_c1_su.kp N Go.Proofs.Try.f38 impl_system_solve_c1_su.bd [.slice false 0 0 rv0 .unk 1, .sptr [(1, 1)]] [⟨false, .flat gv1 (.ints .u8 gv2)⟩, ⟨false, .flat 1 (.ints .i64 gv3)⟩] K = (impl_system_solve_c1_su N (fun d0 => K (.bool (d0)) [⟨false, .flat gv1 (.ints .u8 gv2)⟩, ⟨false, .flat 1 (.ints .i64 gv3)⟩]) rv0 gv1 gv2 gv3) := by kernel_rfl

noncomputable def impl_system_solve_c1_su.en (N : Nat) (ρ : Type) : List AV → Heap → (AV → Heap → Option ρ) → Option ρ
  | [.slice false 0 0 rv0 .unk 1, .sptr [(1, 1)]], [⟨false, .flat gv1 (.ints .u8 gv2)⟩, ⟨false, .flat 1 (.ints .i64 gv3)⟩], K => (impl_system_solve_c1_su N (fun d0 => K (.bool (d0)) [⟨false, .flat gv1 (.ints .u8 gv2)⟩, ⟨false, .flat 1 (.ints .i64 gv3)⟩]) rv0 gv1 gv2 gv3)
  | _, _, _ => none

theorem impl_system_solve_c1_su.en_ok (N : Nat) (hE : EnvOk (E26 N) ents) (ρ : Type) (args : List AV) (sh : Heap) (K : AV → Heap → Option ρ) (r : ρ) (h : impl_system_solve_c1_su.en N ρ args sh K = some r) : ∃ v sh', K v sh' = some r ∧ FnOk (E26 N).P 38 args sh v sh' := by
  unfold impl_system_solve_c1_su.en at h
  split at h
  · exact fn_ok hE (kp := impl_system_solve_c1_su.kp) (N := N) Go.Proofs.Try.func38 (c := impl_system_solve_c1_su.bd) (by kernel_rfl) ((impl_system_solve_c1_su.eq N _ _ _ _ _).trans h)
  · cases h

noncomputable def E27 (N : Nat) : Env := (E26 N).add 38 (impl_system_solve_c1_su.en N)

theorem E27_ok (N : Nat) : EnvOk (E27 N) ents := Env.add_ok (E26_ok N) (impl_system_solve_c1_su.en_ok N (E26_ok N))

noncomputable def impl_system_solve_c2_su.kp : Keeps := ⟨[], [], []⟩

noncomputable def impl_system_solve_c2_su.bd : Code := bodyOf Go.Proofs.Try.f41

noncomputable def impl_system_solve_c2_su.fin {ρ : Type} (N : Nat) (K : AV → Heap → Option ρ) (gv1 : Nat) (gv2 : Nat → Int) (gv3 : Nat → Int) (gv4 : Nat → Int) (gv5 : Nat) (gv6 : Nat) (gv7 : Nat) (gv8 : Nat) (gv9 : Nat → Nat) (gv10 : Nat → Nat) (gv11 : Nat) (gv12 : Nat → Int) (gv13 : Nat → Int) : XE → St → Option ρ := finK (E27 N) impl_system_solve_c2_su.kp.fins Go.Proofs.Try.f41 [⟨false, .flat gv1 (.ints .u8 gv2)⟩, ⟨false, .avs [.sptr [(2, 2), (3, 1), (4, 1), (5, 1)]]⟩, ⟨false, .flat 2 (.ints .i64 gv3)⟩, ⟨false, .flat 1 (.ints .i64 gv4)⟩, ⟨false, .avs [.slice false 6 0 gv5 .unk 1]⟩, ⟨false, .avs [.slice false 7 0 gv6 .unk 1]⟩, ⟨false, .hdr 8 gv7 gv8 gv9 gv10 none⟩, ⟨false, .flat gv11 (.ints .i64 gv12)⟩, ⟨false, .flat 0 (.ints .u8 gv13)⟩] K

theorem impl_system_solve_c2_su.eq {ρ : Type} (N : Nat) (K : AV → Heap → Option ρ) (rv0 : Nat) (gv1 : Nat) (gv2 : Nat → Int) (gv3 : Nat → Int) (gv4 : Nat → Int) (gv5 : Nat) (gv6 : Nat) (gv7 : Nat) (gv8 : Nat) (gv9 : Nat → Nat) (gv10 : Nat → Nat) (gv11 : Nat) (gv12 : Nat → Int) (gv13 : Nat → Int) :
    xbody (E27 N) ents impl_system_solve_c2_su.kp N Go.Proofs.Try.f41 impl_system_solve_c2_su.bd [.slice false 0 0 rv0 .unk 1, .sptr [(1, 1)]] [⟨false, .flat gv1 (.ints .u8 gv2)⟩, ⟨false, .avs [.sptr [(2, 2), (3, 1), (4, 1), (5, 1)]]⟩, ⟨false, .flat 2 (.ints .i64 gv3)⟩, ⟨false, .flat 1 (.ints .i64 gv4)⟩, ⟨false, .avs [.slice false 6 0 gv5 .unk 1]⟩, ⟨false, .avs [.slice false 7 0 gv6 .unk 1]⟩, ⟨false, .hdr 8 gv7 gv8 gv9 gv10 none⟩, ⟨false, .flat gv11 (.ints .i64 gv12)⟩, ⟨false, .flat 0 (.ints .u8 gv13)⟩] K = (impl_system_solve_c2_su N (fun d0 => K (.bool (d0)) [⟨false, .flat gv1 (.ints .u8 gv2)⟩, ⟨false, .avs [.sptr [(2, 2), (3, 1), (4, 1), (5, 1)]]⟩, ⟨false, .flat 2 (.ints .i64 gv3)⟩, ⟨false, .flat 1 (.ints .i64 gv4)⟩, ⟨false, .avs [.slice false 6 0 gv5 .unk 1]⟩, ⟨false, .avs [.slice false 7 0 gv6 .unk 1]⟩, ⟨false, .hdr 8 gv7 gv8 gv9 gv10 none⟩, ⟨false, .flat gv11 (.ints .i64 gv12)⟩, ⟨false, .flat 0 (.ints .u8 gv13)⟩]) rv0 gv1 gv2 gv3 gv4 gv5 gv6 gv7 gv8 gv9 gv10 gv11 gv12 gv13) := by kernel_rfl

noncomputable def impl_system_solve_c2_su.en (N : Nat) (ρ : Type) : List AV → Heap → (AV → Heap → Option ρ) → Option ρ
  | [.slice false 0 0 rv0 .unk 1, .sptr [(1, 1)]], [⟨false, .flat gv1 (.ints .u8 gv2)⟩, ⟨false, .avs [.sptr [(2, 2), (3, 1), (4, 1), (5, 1)]]⟩, ⟨false, .flat 2 (.ints .i64 gv3)⟩, ⟨false, .flat 1 (.ints .i64 gv4)⟩, ⟨false, .avs [.slice false 6 0 gv5 .unk 1]⟩, ⟨false, .avs [.slice false 7 0 gv6 .unk 1]⟩, ⟨false, .hdr 8 gv7 gv8 gv9 gv10 none⟩, ⟨false, .flat gv11 (.ints .i64 gv12)⟩, ⟨false, .flat 0 (.ints .u8 gv13)⟩], K => (impl_system_solve_c2_su N (fun d0 => K (.bool (d0)) [⟨false, .flat gv1 (.ints .u8 gv2)⟩, ⟨false, .avs [.sptr [(2, 2), (3, 1), (4, 1), (5, 1)]]⟩, ⟨false, .flat 2 (.ints .i64 gv3)⟩, ⟨false, .flat 1 (.ints .i64 gv4)⟩, ⟨false, .avs [.slice false 6 0 gv5 .unk 1]⟩, ⟨false, .avs [.slice false 7 0 gv6 .unk 1]⟩, ⟨false, .hdr 8 gv7 gv8 gv9 gv10 none⟩, ⟨false, .flat gv11 (.ints .i64 gv12)⟩, ⟨false, .flat 0 (.ints .u8 gv13)⟩]) rv0 gv1 gv2 gv3 gv4 gv5 gv6 gv7 gv8 gv9 gv10 gv11 gv12 gv13)
  | _, _, _ => none

theorem impl_system_solve_c2_su.en_ok (N : Nat) (hE : EnvOk (E27 N) ents) (ρ : Type) (args : List AV) (sh : Heap) (K : AV → Heap → Option ρ) (r : ρ) (h : impl_system_solve_c2_su.en N ρ args sh K = some r) : ∃ v sh', K v sh' = some r ∧ FnOk (E27 N).P 41 args sh v sh' := by
  unfold impl_system_solve_c2_su.en at h
  split at h
  · exact fn_ok hE (kp := impl_system_solve_c2_su.kp) (N := N) Go.Proofs.Try.func41 (c := impl_system_solve_c2_su.bd) (by kernel_rfl) ((impl_system_solve_c2_su.eq N _ _ _ _ _ _ _ _ _ _ _ _ _ _ _).trans h)
  · cases h

noncomputable def E28 (N : Nat) : Env := (E27 N).add 41 (impl_system_solve_c2_su.en N)

theorem E28_ok (N : Nat) : EnvOk (E28 N) ents := Env.add_ok (E27_ok N) (impl_system_solve_c2_su.en_ok N (E27_ok N))

noncomputable def slices_IndexFunc_suhf.kp : Keeps := ⟨[(0, [0, 1, 7, 8], [], [])], [(0, [], [], [])], []⟩

noncomputable def slices_IndexFunc_suhf.bd : Code := bodyOf Go.Proofs.Try.f37

noncomputable def slices_IndexFunc_suhf.fin {ρ : Type} (N : Nat) (K : AV → Heap → Option ρ) (gv1 : Nat) (gv2 : Nat) (gv3 : Nat → Nat) (gv4 : Nat → Nat) (gv5 : Nat → Int) (gv6 : Nat → Int) : XE → St → Option ρ := finK (E28 N) slices_IndexFunc_suhf.kp.fins Go.Proofs.Try.f37 [⟨false, .hdr 2 gv1 gv2 gv3 gv4 none⟩, ⟨false, .flat 1 (.ints .i64 gv5)⟩, ⟨false, .flat 0 (.ints .u8 gv6)⟩] K

noncomputable def slices_IndexFunc_suhf.k0 {ρ : Type} (N : Nat) (K : AV → Heap → Option ρ) (gv1 : Nat) (gv2 : Nat) (gv3 : Nat → Nat) (gv4 : Nat → Nat) (gv5 : Nat → Int) (gv6 : Nat → Int) : XE → St → Option ρ := (blockK slices_IndexFunc_suhf.kp 3 0 (seqK (xcode (E28 N) ents slices_IndexFunc_suhf.kp 3 N (cB (cB slices_IndexFunc_suhf.bd)) 0) (slices_IndexFunc_suhf.fin N K gv1 gv2 gv3 gv4 gv5 gv6)))

theorem slices_IndexFunc_suhf.k0_mix {ρ : Type} (N : Nat) (K : AV → Heap → Option ρ) (gv1 : Nat) (gv2 : Nat) (gv3 : Nat → Nat) (gv4 : Nat → Nat) (gv5 : Nat → Int) (gv6 : Nat → Int) : mixK (slices_IndexFunc_suhf.fin N K gv1 gv2 gv3 gv4 gv5 gv6 .ret) (slices_IndexFunc_suhf.k0 N K gv1 gv2 gv3 gv4 gv5 gv6) = (slices_IndexFunc_suhf.k0 N K gv1 gv2 gv3 gv4 gv5 gv6) := by
  funext e s; cases e <;> kernel_rfl

noncomputable def slices_IndexFunc_suhf.st0 (s0 : Nat) (gv1 : Nat) (gv2 : Nat) (gv3 : Nat → Nat) (gv4 : Nat → Nat) (gv5 : Nat → Int) (gv6 : Nat → Int) (x7 : Int) : St := ⟨sl 19 [(0, .slice false 0 0 s0 .unk 1), (1, .fn 38 0 [[(1, 1)]]), (7, .int .i64 ((s0 : Int))), (8, .int .i64 (x7))], [⟨false, .hdr 2 gv1 gv2 gv3 gv4 none⟩, ⟨false, .flat 1 (.ints .i64 gv5)⟩, ⟨false, .flat 0 (.ints .u8 gv6)⟩]⟩

noncomputable def slices_IndexFunc_suhf.sx0_0 (gv1 : Nat) (gv2 : Nat) (gv3 : Nat → Nat) (gv4 : Nat → Nat) (gv5 : Nat → Int) (gv6 : Nat → Int) : St := ⟨sl 19 [], [⟨false, .hdr 2 gv1 gv2 gv3 gv4 none⟩, ⟨false, .flat 1 (.ints .i64 gv5)⟩, ⟨false, .flat 0 (.ints .u8 gv6)⟩]⟩

theorem slices_IndexFunc_suhf.b0_gen {ρ : Type} (N : Nat) (K : AV → Heap → Option ρ) (L0 : St → Option ρ) (kv : XE → St → Option ρ) (s0 : Nat) (gv1 : Nat) (gv2 : Nat) (gv3 : Nat → Nat) (gv4 : Nat → Nat) (gv5 : Nat → Int) (gv6 : Nat → Int) (x7 : Int) :
    xcode (E28 N) ents slices_IndexFunc_suhf.kp 3 N (cL (cK (cB (cA (cB slices_IndexFunc_suhf.bd))))) 0 (slices_IndexFunc_suhf.st0 s0 gv1 gv2 gv3 gv4 gv5 gv6 x7) (roundK slices_IndexFunc_suhf.kp 3 0 L0 (mixK (slices_IndexFunc_suhf.fin N K gv1 gv2 gv3 gv4 gv5 gv6 .ret) kv)) = (slices_IndexFunc_suhf.b0 N (fun d0 => K (.int .i64 (d0)) [⟨false, .hdr 2 gv1 gv2 gv3 gv4 none⟩, ⟨false, .flat 1 (.ints .i64 gv5)⟩, ⟨false, .flat 0 (.ints .u8 gv6)⟩]) (fun x7 => L0 (slices_IndexFunc_suhf.st0 s0 gv1 gv2 gv3 gv4 gv5 gv6 x7)) (kv (.exit 0) (slices_IndexFunc_suhf.sx0_0 gv1 gv2 gv3 gv4 gv5 gv6)) s0 gv3 gv4 gv5 gv6 x7) := by kernel_rfl

theorem slices_IndexFunc_suhf.b0_eq {ρ : Type} (N : Nat) (K : AV → Heap → Option ρ) (L0 : St → Option ρ) (s0 : Nat) (gv1 : Nat) (gv2 : Nat) (gv3 : Nat → Nat) (gv4 : Nat → Nat) (gv5 : Nat → Int) (gv6 : Nat → Int) (x7 : Int) :
    xcode (E28 N) ents slices_IndexFunc_suhf.kp 3 N (cL (cK (cB (cA (cB slices_IndexFunc_suhf.bd))))) 0 (slices_IndexFunc_suhf.st0 s0 gv1 gv2 gv3 gv4 gv5 gv6 x7) (roundK slices_IndexFunc_suhf.kp 3 0 L0 (slices_IndexFunc_suhf.k0 N K gv1 gv2 gv3 gv4 gv5 gv6)) = (slices_IndexFunc_suhf.b0 N (fun d0 => K (.int .i64 (d0)) [⟨false, .hdr 2 gv1 gv2 gv3 gv4 none⟩, ⟨false, .flat 1 (.ints .i64 gv5)⟩, ⟨false, .flat 0 (.ints .u8 gv6)⟩]) (fun x7 => L0 (slices_IndexFunc_suhf.st0 s0 gv1 gv2 gv3 gv4 gv5 gv6 x7)) ((slices_IndexFunc_suhf.k0 N K gv1 gv2 gv3 gv4 gv5 gv6) (.exit 0) (slices_IndexFunc_suhf.sx0_0 gv1 gv2 gv3 gv4 gv5 gv6)) s0 gv3 gv4 gv5 gv6 x7) := by
  have h := slices_IndexFunc_suhf.b0_gen N K L0 (slices_IndexFunc_suhf.k0 N K gv1 gv2 gv3 gv4 gv5 gv6) s0 gv1 gv2 gv3 gv4 gv5 gv6 x7
  rw [slices_IndexFunc_suhf.k0_mix] at h
  exact h

theorem slices_IndexFunc_suhf.a0_0_eq {ρ : Type} (N : Nat) (K : AV → Heap → Option ρ) (gv1 : Nat) (gv2 : Nat) (gv3 : Nat → Nat) (gv4 : Nat → Nat) (gv5 : Nat → Int) (gv6 : Nat → Int) :
    (slices_IndexFunc_suhf.k0 N K gv1 gv2 gv3 gv4 gv5 gv6) (.exit 0) (slices_IndexFunc_suhf.sx0_0 gv1 gv2 gv3 gv4 gv5 gv6) = (slices_IndexFunc_suhf.a0_0 N (fun d0 => K (.int .i64 (d0)) [⟨false, .hdr 2 gv1 gv2 gv3 gv4 none⟩, ⟨false, .flat 1 (.ints .i64 gv5)⟩, ⟨false, .flat 0 (.ints .u8 gv6)⟩])) := by kernel_rfl

theorem slices_IndexFunc_suhf.l0_eq {ρ : Type} (N : Nat) (K : AV → Heap → Option ρ) (s0 : Nat) (gv1 : Nat) (gv2 : Nat) (gv3 : Nat → Nat) (gv4 : Nat → Nat) (gv5 : Nat → Int) (gv6 : Nat → Int) :
    ∀ (m : Nat) (x7 : Int), xloop (xcode (E28 N) ents slices_IndexFunc_suhf.kp 3 N (cL (cK (cB (cA (cB slices_IndexFunc_suhf.bd))))) 0) slices_IndexFunc_suhf.kp 3 0 m (slices_IndexFunc_suhf.st0 s0 gv1 gv2 gv3 gv4 gv5 gv6 x7) (slices_IndexFunc_suhf.k0 N K gv1 gv2 gv3 gv4 gv5 gv6) = (slices_IndexFunc_suhf.l0 N (fun d0 => K (.int .i64 (d0)) [⟨false, .hdr 2 gv1 gv2 gv3 gv4 none⟩, ⟨false, .flat 1 (.ints .i64 gv5)⟩, ⟨false, .flat 0 (.ints .u8 gv6)⟩]) s0 gv3 gv4 gv5 gv6 ((slices_IndexFunc_suhf.k0 N K gv1 gv2 gv3 gv4 gv5 gv6) (.exit 0) (slices_IndexFunc_suhf.sx0_0 gv1 gv2 gv3 gv4 gv5 gv6)) m x7) := by
  intro m
  induction m with
  | zero => intros; rfl
  | succ m ih =>
    intro x7
    refine (slices_IndexFunc_suhf.b0_eq N K (fun s => xloop (xcode (E28 N) ents slices_IndexFunc_suhf.kp 3 N (cL (cK (cB (cA (cB slices_IndexFunc_suhf.bd))))) 0) slices_IndexFunc_suhf.kp 3 0 m s (slices_IndexFunc_suhf.k0 N K gv1 gv2 gv3 gv4 gv5 gv6)) s0 gv1 gv2 gv3 gv4 gv5 gv6 x7).trans ?_
    simp only [ih]
    kernel_rfl

theorem slices_IndexFunc_suhf.s_eq {ρ : Type} (N : Nat) (K : AV → Heap → Option ρ) (s0 : Nat) (gv1 : Nat) (gv2 : Nat) (gv3 : Nat → Nat) (gv4 : Nat → Nat) (gv5 : Nat → Int) (gv6 : Nat → Int) :
    xbody (E28 N) ents slices_IndexFunc_suhf.kp N Go.Proofs.Try.f37 slices_IndexFunc_suhf.bd [.slice false 0 0 s0 .unk 1, .fn 38 0 [[(1, 1)]]] [⟨false, .hdr 2 gv1 gv2 gv3 gv4 none⟩, ⟨false, .flat 1 (.ints .i64 gv5)⟩, ⟨false, .flat 0 (.ints .u8 gv6)⟩] K = (slices_IndexFunc_suhf.s N (fun d0 => K (.int .i64 (d0)) [⟨false, .hdr 2 gv1 gv2 gv3 gv4 none⟩, ⟨false, .flat 1 (.ints .i64 gv5)⟩, ⟨false, .flat 0 (.ints .u8 gv6)⟩]) (fun x7 => xloop (xcode (E28 N) ents slices_IndexFunc_suhf.kp 3 N (cL (cK (cB (cA (cB slices_IndexFunc_suhf.bd))))) 0) slices_IndexFunc_suhf.kp 3 0 N (slices_IndexFunc_suhf.st0 s0 gv1 gv2 gv3 gv4 gv5 gv6 x7) (slices_IndexFunc_suhf.k0 N K gv1 gv2 gv3 gv4 gv5 gv6))) := by kernel_rfl

theorem slices_IndexFunc_suhf.eq {ρ : Type} (N : Nat) (K : AV → Heap → Option ρ) (s0 : Nat) (gv1 : Nat) (gv2 : Nat) (gv3 : Nat → Nat) (gv4 : Nat → Nat) (gv5 : Nat → Int) (gv6 : Nat → Int) :
    xbody (E28 N) ents slices_IndexFunc_suhf.kp N Go.Proofs.Try.f37 slices_IndexFunc_suhf.bd [.slice false 0 0 s0 .unk 1, .fn 38 0 [[(1, 1)]]] [⟨false, .hdr 2 gv1 gv2 gv3 gv4 none⟩, ⟨false, .flat 1 (.ints .i64 gv5)⟩, ⟨false, .flat 0 (.ints .u8 gv6)⟩] K = (slices_IndexFunc_suhf N (fun d0 => K (.int .i64 (d0)) [⟨false, .hdr 2 gv1 gv2 gv3 gv4 none⟩, ⟨false, .flat 1 (.ints .i64 gv5)⟩, ⟨false, .flat 0 (.ints .u8 gv6)⟩]) s0 gv1 gv2 gv3 gv4 gv5 gv6) := by
  refine (slices_IndexFunc_suhf.s_eq N K s0 gv1 gv2 gv3 gv4 gv5 gv6).trans ?_
  simp only [slices_IndexFunc_suhf.l0_eq, slices_IndexFunc_suhf.a0_0_eq]
  kernel_rfl

noncomputable def slices_IndexFunc_suhf_v2.kp : Keeps := ⟨[(0, [0, 1, 7, 8], [], [])], [(0, [], [], [])], []⟩

noncomputable def slices_IndexFunc_suhf_v2.bd : Code := bodyOf Go.Proofs.Try.f37

noncomputable def slices_IndexFunc_suhf_v2.fin {ρ : Type} (N : Nat) (K : AV → Heap → Option ρ) (gv1 : Nat) (gv2 : Nat) (gv3 : Nat → Nat) (gv4 : Nat → Nat) (gv5 : Nat → Int) (gv6 : Nat → Int) (gv7 : Nat → Int) (gv8 : Nat) (gv9 : Nat) (gv10 : Nat) (gv11 : Nat) (gv12 : Nat → Nat) (gv13 : Nat → Nat) (gv14 : Nat) (gv15 : Nat → Int) : XE → St → Option ρ := finK (E28 N) slices_IndexFunc_suhf_v2.kp.fins Go.Proofs.Try.f37 [⟨false, .hdr 2 gv1 gv2 gv3 gv4 none⟩, ⟨false, .avs [.sptr [(3, 2), (4, 1), (5, 1), (6, 1)]]⟩, ⟨false, .flat 0 (.ints .u8 gv5)⟩, ⟨false, .flat 2 (.ints .i64 gv6)⟩, ⟨false, .flat 1 (.ints .i64 gv7)⟩, ⟨false, .avs [.slice false 7 0 gv8 .unk 1]⟩, ⟨false, .avs [.slice false 8 0 gv9 .unk 1]⟩, ⟨false, .hdr 2 gv10 gv11 gv12 gv13 none⟩, ⟨false, .flat gv14 (.ints .i64 gv15)⟩] K

noncomputable def slices_IndexFunc_suhf_v2.k0 {ρ : Type} (N : Nat) (K : AV → Heap → Option ρ) (gv1 : Nat) (gv2 : Nat) (gv3 : Nat → Nat) (gv4 : Nat → Nat) (gv5 : Nat → Int) (gv6 : Nat → Int) (gv7 : Nat → Int) (gv8 : Nat) (gv9 : Nat) (gv10 : Nat) (gv11 : Nat) (gv12 : Nat → Nat) (gv13 : Nat → Nat) (gv14 : Nat) (gv15 : Nat → Int) : XE → St → Option ρ := (blockK slices_IndexFunc_suhf_v2.kp 9 0 (seqK (xcode (E28 N) ents slices_IndexFunc_suhf_v2.kp 9 N (cB (cB slices_IndexFunc_suhf_v2.bd)) 0) (slices_IndexFunc_suhf_v2.fin N K gv1 gv2 gv3 gv4 gv5 gv6 gv7 gv8 gv9 gv10 gv11 gv12 gv13 gv14 gv15)))

theorem slices_IndexFunc_suhf_v2.k0_mix {ρ : Type} (N : Nat) (K : AV → Heap → Option ρ) (gv1 : Nat) (gv2 : Nat) (gv3 : Nat → Nat) (gv4 : Nat → Nat) (gv5 : Nat → Int) (gv6 : Nat → Int) (gv7 : Nat → Int) (gv8 : Nat) (gv9 : Nat) (gv10 : Nat) (gv11 : Nat) (gv12 : Nat → Nat) (gv13 : Nat → Nat) (gv14 : Nat) (gv15 : Nat → Int) : mixK (slices_IndexFunc_suhf_v2.fin N K gv1 gv2 gv3 gv4 gv5 gv6 gv7 gv8 gv9 gv10 gv11 gv12 gv13 gv14 gv15 .ret) (slices_IndexFunc_suhf_v2.k0 N K gv1 gv2 gv3 gv4 gv5 gv6 gv7 gv8 gv9 gv10 gv11 gv12 gv13 gv14 gv15) = (slices_IndexFunc_suhf_v2.k0 N K gv1 gv2 gv3 gv4 gv5 gv6 gv7 gv8 gv9 gv10 gv11 gv12 gv13 gv14 gv15) := by
  funext e s; cases e <;> kernel_rfl

noncomputable def slices_IndexFunc_suhf_v2.st0 (s0 : Nat) (gv1 : Nat) (gv2 : Nat) (gv3 : Nat → Nat) (gv4 : Nat → Nat) (gv5 : Nat → Int) (gv6 : Nat → Int) (gv7 : Nat → Int) (gv8 : Nat) (gv9 : Nat) (gv10 : Nat) (gv11 : Nat) (gv12 : Nat → Nat) (gv13 : Nat → Nat) (gv14 : Nat) (gv15 : Nat → Int) (x16 : Int) : St := ⟨sl 19 [(0, .slice false 0 0 s0 .unk 1), (1, .fn 41 0 [[(1, 1)]]), (7, .int .i64 ((s0 : Int))), (8, .int .i64 (x16))], [⟨false, .hdr 2 gv1 gv2 gv3 gv4 none⟩, ⟨false, .avs [.sptr [(3, 2), (4, 1), (5, 1), (6, 1)]]⟩, ⟨false, .flat 0 (.ints .u8 gv5)⟩, ⟨false, .flat 2 (.ints .i64 gv6)⟩, ⟨false, .flat 1 (.ints .i64 gv7)⟩, ⟨false, .avs [.slice false 7 0 gv8 .unk 1]⟩, ⟨false, .avs [.slice false 8 0 gv9 .unk 1]⟩, ⟨false, .hdr 2 gv10 gv11 gv12 gv13 none⟩, ⟨false, .flat gv14 (.ints .i64 gv15)⟩]⟩

noncomputable def slices_IndexFunc_suhf_v2.sx0_0 (gv1 : Nat) (gv2 : Nat) (gv3 : Nat → Nat) (gv4 : Nat → Nat) (gv5 : Nat → Int) (gv6 : Nat → Int) (gv7 : Nat → Int) (gv8 : Nat) (gv9 : Nat) (gv10 : Nat) (gv11 : Nat) (gv12 : Nat → Nat) (gv13 : Nat → Nat) (gv14 : Nat) (gv15 : Nat → Int) : St := ⟨sl 19 [], [⟨false, .hdr 2 gv1 gv2 gv3 gv4 none⟩, ⟨false, .avs [.sptr [(3, 2), (4, 1), (5, 1), (6, 1)]]⟩, ⟨false, .flat 0 (.ints .u8 gv5)⟩, ⟨false, .flat 2 (.ints .i64 gv6)⟩, ⟨false, .flat 1 (.ints .i64 gv7)⟩, ⟨false, .avs [.slice false 7 0 gv8 .unk 1]⟩, ⟨false, .avs [.slice false 8 0 gv9 .unk 1]⟩, ⟨false, .hdr 2 gv10 gv11 gv12 gv13 none⟩, ⟨false, .flat gv14 (.ints .i64 gv15)⟩]⟩

theorem slices_IndexFunc_suhf_v2.b0_gen {ρ : Type} (N : Nat) (K : AV → Heap → Option ρ) (L0 : St → Option ρ) (kv : XE → St → Option ρ) (s0 : Nat) (gv1 : Nat) (gv2 : Nat) (gv3 : Nat → Nat) (gv4 : Nat → Nat) (gv5 : Nat → Int) (gv6 : Nat → Int) (gv7 : Nat → Int) (gv8 : Nat) (gv9 : Nat) (gv10 : Nat) (gv11 : Nat) (gv12 : Nat → Nat) (gv13 : Nat → Nat) (gv14 : Nat) (gv15 : Nat → Int) (x16 : Int) :
    xcode (E28 N) ents slices_IndexFunc_suhf_v2.kp 9 N (cL (cK (cB (cA (cB slices_IndexFunc_suhf_v2.bd))))) 0 (slices_IndexFunc_suhf_v2.st0 s0 gv1 gv2 gv3 gv4 gv5 gv6 gv7 gv8 gv9 gv10 gv11 gv12 gv13 gv14 gv15 x16) (roundK slices_IndexFunc_suhf_v2.kp 9 0 L0 (mixK (slices_IndexFunc_suhf_v2.fin N K gv1 gv2 gv3 gv4 gv5 gv6 gv7 gv8 gv9 gv10 gv11 gv12 gv13 gv14 gv15 .ret) kv)) = (slices_IndexFunc_suhf_v2.b0 N (fun d0 => K (.int .i64 (d0)) [⟨false, .hdr 2 gv1 gv2 gv3 gv4 none⟩, ⟨false, .avs [.sptr [(3, 2), (4, 1), (5, 1), (6, 1)]]⟩, ⟨false, .flat 0 (.ints .u8 gv5)⟩, ⟨false, .flat 2 (.ints .i64 gv6)⟩, ⟨false, .flat 1 (.ints .i64 gv7)⟩, ⟨false, .avs [.slice false 7 0 gv8 .unk 1]⟩, ⟨false, .avs [.slice false 8 0 gv9 .unk 1]⟩, ⟨false, .hdr 2 gv10 gv11 gv12 gv13 none⟩, ⟨false, .flat gv14 (.ints .i64 gv15)⟩]) (fun x16 => L0 (slices_IndexFunc_suhf_v2.st0 s0 gv1 gv2 gv3 gv4 gv5 gv6 gv7 gv8 gv9 gv10 gv11 gv12 gv13 gv14 gv15 x16)) (kv (.exit 0) (slices_IndexFunc_suhf_v2.sx0_0 gv1 gv2 gv3 gv4 gv5 gv6 gv7 gv8 gv9 gv10 gv11 gv12 gv13 gv14 gv15)) s0 gv3 gv4 gv5 gv6 gv7 gv8 gv9 gv11 gv12 gv13 gv15 x16) := by kernel_rfl

theorem slices_IndexFunc_suhf_v2.b0_eq {ρ : Type} (N : Nat) (K : AV → Heap → Option ρ) (L0 : St → Option ρ) (s0 : Nat) (gv1 : Nat) (gv2 : Nat) (gv3 : Nat → Nat) (gv4 : Nat → Nat) (gv5 : Nat → Int) (gv6 : Nat → Int) (gv7 : Nat → Int) (gv8 : Nat) (gv9 : Nat) (gv10 : Nat) (gv11 : Nat) (gv12 : Nat → Nat) (gv13 : Nat → Nat) (gv14 : Nat) (gv15 : Nat → Int) (x16 : Int) :
    xcode (E28 N) ents slices_IndexFunc_suhf_v2.kp 9 N (cL (cK (cB (cA (cB slices_IndexFunc_suhf_v2.bd))))) 0 (slices_IndexFunc_suhf_v2.st0 s0 gv1 gv2 gv3 gv4 gv5 gv6 gv7 gv8 gv9 gv10 gv11 gv12 gv13 gv14 gv15 x16) (roundK slices_IndexFunc_suhf_v2.kp 9 0 L0 (slices_IndexFunc_suhf_v2.k0 N K gv1 gv2 gv3 gv4 gv5 gv6 gv7 gv8 gv9 gv10 gv11 gv12 gv13 gv14 gv15)) = (slices_IndexFunc_suhf_v2.b0 N (fun d0 => K (.int .i64 (d0)) [⟨false, .hdr 2 gv1 gv2 gv3 gv4 none⟩, ⟨false, .avs [.sptr [(3, 2), (4, 1), (5, 1), (6, 1)]]⟩, ⟨false, .flat 0 (.ints .u8 gv5)⟩, ⟨false, .flat 2 (.ints .i64 gv6)⟩, ⟨false, .flat 1 (.ints .i64 gv7)⟩, ⟨false, .avs [.slice false 7 0 gv8 .unk 1]⟩, ⟨false, .avs [.slice false 8 0 gv9 .unk 1]⟩, ⟨false, .hdr 2 gv10 gv11 gv12 gv13 none⟩, ⟨false, .flat gv14 (.ints .i64 gv15)⟩]) (fun x16 => L0 (slices_IndexFunc_suhf_v2.st0 s0 gv1 gv2 gv3 gv4 gv5 gv6 gv7 gv8 gv9 gv10 gv11 gv12 gv13 gv14 gv15 x16)) ((slices_IndexFunc_suhf_v2.k0 N K gv1 gv2 gv3 gv4 gv5 gv6 gv7 gv8 gv9 gv10 gv11 gv12 gv13 gv14 gv15) (.exit 0) (slices_IndexFunc_suhf_v2.sx0_0 gv1 gv2 gv3 gv4 gv5 gv6 gv7 gv8 gv9 gv10 gv11 gv12 gv13 gv14 gv15)) s0 gv3 gv4 gv5 gv6 gv7 gv8 gv9 gv11 gv12 gv13 gv15 x16) := by
  have h := slices_IndexFunc_suhf_v2.b0_gen N K L0 (slices_IndexFunc_suhf_v2.k0 N K gv1 gv2 gv3 gv4 gv5 gv6 gv7 gv8 gv9 gv10 gv11 gv12 gv13 gv14 gv15) s0 gv1 gv2 gv3 gv4 gv5 gv6 gv7 gv8 gv9 gv10 gv11 gv12 gv13 gv14 gv15 x16
  rw [slices_IndexFunc_suhf_v2.k0_mix] at h
  exact h

theorem slices_IndexFunc_suhf_v2.a0_0_eq {ρ : Type} (N : Nat) (K : AV → Heap → Option ρ) (gv1 : Nat) (gv2 : Nat) (gv3 : Nat → Nat) (gv4 : Nat → Nat) (gv5 : Nat → Int) (gv6 : Nat → Int) (gv7 : Nat → Int) (gv8 : Nat) (gv9 : Nat) (gv10 : Nat) (gv11 : Nat) (gv12 : Nat → Nat) (gv13 : Nat → Nat) (gv14 : Nat) (gv15 : Nat → Int) :
    (slices_IndexFunc_suhf_v2.k0 N K gv1 gv2 gv3 gv4 gv5 gv6 gv7 gv8 gv9 gv10 gv11 gv12 gv13 gv14 gv15) (.exit 0) (slices_IndexFunc_suhf_v2.sx0_0 gv1 gv2 gv3 gv4 gv5 gv6 gv7 gv8 gv9 gv10 gv11 gv12 gv13 gv14 gv15) = (slices_IndexFunc_suhf_v2.a0_0 N (fun d0 => K (.int .i64 (d0)) [⟨false, .hdr 2 gv1 gv2 gv3 gv4 none⟩, ⟨false, .avs [.sptr [(3, 2), (4, 1), (5, 1), (6, 1)]]⟩, ⟨false, .flat 0 (.ints .u8 gv5)⟩, ⟨false, .flat 2 (.ints .i64 gv6)⟩, ⟨false, .flat 1 (.ints .i64 gv7)⟩, ⟨false, .avs [.slice false 7 0 gv8 .unk 1]⟩, ⟨false, .avs [.slice false 8 0 gv9 .unk 1]⟩, ⟨false, .hdr 2 gv10 gv11 gv12 gv13 none⟩, ⟨false, .flat gv14 (.ints .i64 gv15)⟩])) := by kernel_rfl

theorem slices_IndexFunc_suhf_v2.l0_eq {ρ : Type} (N : Nat) (K : AV → Heap → Option ρ) (s0 : Nat) (gv1 : Nat) (gv2 : Nat) (gv3 : Nat → Nat) (gv4 : Nat → Nat) (gv5 : Nat → Int) (gv6 : Nat → Int) (gv7 : Nat → Int) (gv8 : Nat) (gv9 : Nat) (gv10 : Nat) (gv11 : Nat) (gv12 : Nat → Nat) (gv13 : Nat → Nat) (gv14 : Nat) (gv15 : Nat → Int) :
    ∀ (m : Nat) (x16 : Int), xloop (xcode (E28 N) ents slices_IndexFunc_suhf_v2.kp 9 N (cL (cK (cB (cA (cB slices_IndexFunc_suhf_v2.bd))))) 0) slices_IndexFunc_suhf_v2.kp 9 0 m (slices_IndexFunc_suhf_v2.st0 s0 gv1 gv2 gv3 gv4 gv5 gv6 gv7 gv8 gv9 gv10 gv11 gv12 gv13 gv14 gv15 x16) (slices_IndexFunc_suhf_v2.k0 N K gv1 gv2 gv3 gv4 gv5 gv6 gv7 gv8 gv9 gv10 gv11 gv12 gv13 gv14 gv15) = (slices_IndexFunc_suhf_v2.l0 N (fun d0 => K (.int .i64 (d0)) [⟨false, .hdr 2 gv1 gv2 gv3 gv4 none⟩, ⟨false, .avs [.sptr [(3, 2), (4, 1), (5, 1), (6, 1)]]⟩, ⟨false, .flat 0 (.ints .u8 gv5)⟩, ⟨false, .flat 2 (.ints .i64 gv6)⟩, ⟨false, .flat 1 (.ints .i64 gv7)⟩, ⟨false, .avs [.slice false 7 0 gv8 .unk 1]⟩, ⟨false, .avs [.slice false 8 0 gv9 .unk 1]⟩, ⟨false, .hdr 2 gv10 gv11 gv12 gv13 none⟩, ⟨false, .flat gv14 (.ints .i64 gv15)⟩]) s0 gv3 gv4 gv5 gv6 gv7 gv8 gv9 gv11 gv12 gv13 gv15 ((slices_IndexFunc_suhf_v2.k0 N K gv1 gv2 gv3 gv4 gv5 gv6 gv7 gv8 gv9 gv10 gv11 gv12 gv13 gv14 gv15) (.exit 0) (slices_IndexFunc_suhf_v2.sx0_0 gv1 gv2 gv3 gv4 gv5 gv6 gv7 gv8 gv9 gv10 gv11 gv12 gv13 gv14 gv15)) m x16) := by
  intro m
  induction m with
  | zero => intros; rfl
  | succ m ih =>
    intro x16
    refine (slices_IndexFunc_suhf_v2.b0_eq N K (fun s => xloop (xcode (E28 N) ents slices_IndexFunc_suhf_v2.kp 9 N (cL (cK (cB (cA (cB slices_IndexFunc_suhf_v2.bd))))) 0) slices_IndexFunc_suhf_v2.kp 9 0 m s (slices_IndexFunc_suhf_v2.k0 N K gv1 gv2 gv3 gv4 gv5 gv6 gv7 gv8 gv9 gv10 gv11 gv12 gv13 gv14 gv15)) s0 gv1 gv2 gv3 gv4 gv5 gv6 gv7 gv8 gv9 gv10 gv11 gv12 gv13 gv14 gv15 x16).trans ?_
    simp only [ih]
    kernel_rfl

theorem slices_IndexFunc_suhf_v2.s_eq {ρ : Type} (N : Nat) (K : AV → Heap → Option ρ) (s0 : Nat) (gv1 : Nat) (gv2 : Nat) (gv3 : Nat → Nat) (gv4 : Nat → Nat) (gv5 : Nat → Int) (gv6 : Nat → Int) (gv7 : Nat → Int) (gv8 : Nat) (gv9 : Nat) (gv10 : Nat) (gv11 : Nat) (gv12 : Nat → Nat) (gv13 : Nat → Nat) (gv14 : Nat) (gv15 : Nat → Int) :
    xbody (E28 N) ents slices_IndexFunc_suhf_v2.kp N Go.Proofs.Try.f37 slices_IndexFunc_suhf_v2.bd [.slice false 0 0 s0 .unk 1, .fn 41 0 [[(1, 1)]]] [⟨false, .hdr 2 gv1 gv2 gv3 gv4 none⟩, ⟨false, .avs [.sptr [(3, 2), (4, 1), (5, 1), (6, 1)]]⟩, ⟨false, .flat 0 (.ints .u8 gv5)⟩, ⟨false, .flat 2 (.ints .i64 gv6)⟩, ⟨false, .flat 1 (.ints .i64 gv7)⟩, ⟨false, .avs [.slice false 7 0 gv8 .unk 1]⟩, ⟨false, .avs [.slice false 8 0 gv9 .unk 1]⟩, ⟨false, .hdr 2 gv10 gv11 gv12 gv13 none⟩, ⟨false, .flat gv14 (.ints .i64 gv15)⟩] K = (slices_IndexFunc_suhf_v2.s N (fun d0 => K (.int .i64 (d0)) [⟨false, .hdr 2 gv1 gv2 gv3 gv4 none⟩, ⟨false, .avs [.sptr [(3, 2), (4, 1), (5, 1), (6, 1)]]⟩, ⟨false, .flat 0 (.ints .u8 gv5)⟩, ⟨false, .flat 2 (.ints .i64 gv6)⟩, ⟨false, .flat 1 (.ints .i64 gv7)⟩, ⟨false, .avs [.slice false 7 0 gv8 .unk 1]⟩, ⟨false, .avs [.slice false 8 0 gv9 .unk 1]⟩, ⟨false, .hdr 2 gv10 gv11 gv12 gv13 none⟩, ⟨false, .flat gv14 (.ints .i64 gv15)⟩]) (fun x16 => xloop (xcode (E28 N) ents slices_IndexFunc_suhf_v2.kp 9 N (cL (cK (cB (cA (cB slices_IndexFunc_suhf_v2.bd))))) 0) slices_IndexFunc_suhf_v2.kp 9 0 N (slices_IndexFunc_suhf_v2.st0 s0 gv1 gv2 gv3 gv4 gv5 gv6 gv7 gv8 gv9 gv10 gv11 gv12 gv13 gv14 gv15 x16) (slices_IndexFunc_suhf_v2.k0 N K gv1 gv2 gv3 gv4 gv5 gv6 gv7 gv8 gv9 gv10 gv11 gv12 gv13 gv14 gv15))) := by kernel_rfl

theorem slices_IndexFunc_suhf_v2.eq {ρ : Type} (N : Nat) (K : AV → Heap → Option ρ) (s0 : Nat) (gv1 : Nat) (gv2 : Nat) (gv3 : Nat → Nat) (gv4 : Nat → Nat) (gv5 : Nat → Int) (gv6 : Nat → Int) (gv7 : Nat → Int) (gv8 : Nat) (gv9 : Nat) (gv10 : Nat) (gv11 : Nat) (gv12 : Nat → Nat) (gv13 : Nat → Nat) (gv14 : Nat) (gv15 : Nat → Int) :
    xbody (E28 N) ents slices_IndexFunc_suhf_v2.kp N Go.Proofs.Try.f37 slices_IndexFunc_suhf_v2.bd [.slice false 0 0 s0 .unk 1, .fn 41 0 [[(1, 1)]]] [⟨false, .hdr 2 gv1 gv2 gv3 gv4 none⟩, ⟨false, .avs [.sptr [(3, 2), (4, 1), (5, 1), (6, 1)]]⟩, ⟨false, .flat 0 (.ints .u8 gv5)⟩, ⟨false, .flat 2 (.ints .i64 gv6)⟩, ⟨false, .flat 1 (.ints .i64 gv7)⟩, ⟨false, .avs [.slice false 7 0 gv8 .unk 1]⟩, ⟨false, .avs [.slice false 8 0 gv9 .unk 1]⟩, ⟨false, .hdr 2 gv10 gv11 gv12 gv13 none⟩, ⟨false, .flat gv14 (.ints .i64 gv15)⟩] K = (slices_IndexFunc_suhf_v2 N (fun d0 => K (.int .i64 (d0)) [⟨false, .hdr 2 gv1 gv2 gv3 gv4 none⟩, ⟨false, .avs [.sptr [(3, 2), (4, 1), (5, 1), (6, 1)]]⟩, ⟨false, .flat 0 (.ints .u8 gv5)⟩, ⟨false, .flat 2 (.ints .i64 gv6)⟩, ⟨false, .flat 1 (.ints .i64 gv7)⟩, ⟨false, .avs [.slice false 7 0 gv8 .unk 1]⟩, ⟨false, .avs [.slice false 8 0 gv9 .unk 1]⟩, ⟨false, .hdr 2 gv10 gv11 gv12 gv13 none⟩, ⟨false, .flat gv14 (.ints .i64 gv15)⟩]) s0 gv1 gv2 gv3 gv4 gv5 gv6 gv7 gv8 gv9 gv10 gv11 gv12 gv13 gv14 gv15) := by
  refine (slices_IndexFunc_suhf_v2.s_eq N K s0 gv1 gv2 gv3 gv4 gv5 gv6 gv7 gv8 gv9 gv10 gv11 gv12 gv13 gv14 gv15).trans ?_
  simp only [slices_IndexFunc_suhf_v2.l0_eq, slices_IndexFunc_suhf_v2.a0_0_eq]
  kernel_rfl

noncomputable def slices_IndexFunc_nf_v2.kp : Keeps := ⟨[(0, [0, 1, 7, 8], [], [])], [(0, [], [], [])], []⟩

noncomputable def slices_IndexFunc_nf_v2.bd : Code := bodyOf Go.Proofs.Try.f37

noncomputable def slices_IndexFunc_nf_v2.fin {ρ : Type} (N : Nat) (K : AV → Heap → Option ρ) (gv0 : Nat → Int) (gv1 : Nat → Int) : XE → St → Option ρ := finK (E28 N) slices_IndexFunc_nf_v2.kp.fins Go.Proofs.Try.f37 [⟨false, .avs [.sptr [(1, 2), (2, 1), (3, 1), (4, 1)]]⟩, ⟨false, .flat 2 (.ints .i64 gv0)⟩, ⟨false, .flat 1 (.ints .i64 gv1)⟩, ⟨false, .avs [.nils]⟩, ⟨false, .avs [.nils]⟩] K

noncomputable def slices_IndexFunc_nf_v2.k0 {ρ : Type} (N : Nat) (K : AV → Heap → Option ρ) (gv0 : Nat → Int) (gv1 : Nat → Int) : XE → St → Option ρ := (blockK slices_IndexFunc_nf_v2.kp 5 0 (seqK (xcode (E28 N) ents slices_IndexFunc_nf_v2.kp 5 N (cB (cB slices_IndexFunc_nf_v2.bd)) 0) (slices_IndexFunc_nf_v2.fin N K gv0 gv1)))

theorem slices_IndexFunc_nf_v2.k0_mix {ρ : Type} (N : Nat) (K : AV → Heap → Option ρ) (gv0 : Nat → Int) (gv1 : Nat → Int) : mixK (slices_IndexFunc_nf_v2.fin N K gv0 gv1 .ret) (slices_IndexFunc_nf_v2.k0 N K gv0 gv1) = (slices_IndexFunc_nf_v2.k0 N K gv0 gv1) := by
  funext e s; cases e <;> kernel_rfl

noncomputable def slices_IndexFunc_nf_v2.st0 (gv0 : Nat → Int) (gv1 : Nat → Int) : St := ⟨sl 19 [(0, .nils), (1, .fn 41 0 [[(0, 1)]]), (7, .int .i64 0), (8, .int .i64 0)], [⟨false, .avs [.sptr [(1, 2), (2, 1), (3, 1), (4, 1)]]⟩, ⟨false, .flat 2 (.ints .i64 gv0)⟩, ⟨false, .flat 1 (.ints .i64 gv1)⟩, ⟨false, .avs [.nils]⟩, ⟨false, .avs [.nils]⟩]⟩

noncomputable def slices_IndexFunc_nf_v2.sx0_0 (gv0 : Nat → Int) (gv1 : Nat → Int) : St := ⟨sl 19 [], [⟨false, .avs [.sptr [(1, 2), (2, 1), (3, 1), (4, 1)]]⟩, ⟨false, .flat 2 (.ints .i64 gv0)⟩, ⟨false, .flat 1 (.ints .i64 gv1)⟩, ⟨false, .avs [.nils]⟩, ⟨false, .avs [.nils]⟩]⟩

theorem slices_IndexFunc_nf_v2.b0_gen {ρ : Type} (N : Nat) (K : AV → Heap → Option ρ) (L0 : St → Option ρ) (kv : XE → St → Option ρ) (gv0 : Nat → Int) (gv1 : Nat → Int) :
    xcode (E28 N) ents slices_IndexFunc_nf_v2.kp 5 N (cL (cK (cB (cA (cB slices_IndexFunc_nf_v2.bd))))) 0 (slices_IndexFunc_nf_v2.st0 gv0 gv1) (roundK slices_IndexFunc_nf_v2.kp 5 0 L0 (mixK (slices_IndexFunc_nf_v2.fin N K gv0 gv1 .ret) kv)) = (slices_IndexFunc_nf_v2.b0 N (fun d0 => K (.int .i64 (d0)) [⟨false, .avs [.sptr [(1, 2), (2, 1), (3, 1), (4, 1)]]⟩, ⟨false, .flat 2 (.ints .i64 gv0)⟩, ⟨false, .flat 1 (.ints .i64 gv1)⟩, ⟨false, .avs [.nils]⟩, ⟨false, .avs [.nils]⟩]) (L0 (slices_IndexFunc_nf_v2.st0 gv0 gv1)) (kv (.exit 0) (slices_IndexFunc_nf_v2.sx0_0 gv0 gv1))) := by kernel_rfl

theorem slices_IndexFunc_nf_v2.b0_eq {ρ : Type} (N : Nat) (K : AV → Heap → Option ρ) (L0 : St → Option ρ) (gv0 : Nat → Int) (gv1 : Nat → Int) :
    xcode (E28 N) ents slices_IndexFunc_nf_v2.kp 5 N (cL (cK (cB (cA (cB slices_IndexFunc_nf_v2.bd))))) 0 (slices_IndexFunc_nf_v2.st0 gv0 gv1) (roundK slices_IndexFunc_nf_v2.kp 5 0 L0 (slices_IndexFunc_nf_v2.k0 N K gv0 gv1)) = (slices_IndexFunc_nf_v2.b0 N (fun d0 => K (.int .i64 (d0)) [⟨false, .avs [.sptr [(1, 2), (2, 1), (3, 1), (4, 1)]]⟩, ⟨false, .flat 2 (.ints .i64 gv0)⟩, ⟨false, .flat 1 (.ints .i64 gv1)⟩, ⟨false, .avs [.nils]⟩, ⟨false, .avs [.nils]⟩]) (L0 (slices_IndexFunc_nf_v2.st0 gv0 gv1)) ((slices_IndexFunc_nf_v2.k0 N K gv0 gv1) (.exit 0) (slices_IndexFunc_nf_v2.sx0_0 gv0 gv1))) := by
  have h := slices_IndexFunc_nf_v2.b0_gen N K L0 (slices_IndexFunc_nf_v2.k0 N K gv0 gv1) gv0 gv1
  rw [slices_IndexFunc_nf_v2.k0_mix] at h
  exact h

theorem slices_IndexFunc_nf_v2.a0_0_eq {ρ : Type} (N : Nat) (K : AV → Heap → Option ρ) (gv0 : Nat → Int) (gv1 : Nat → Int) :
    (slices_IndexFunc_nf_v2.k0 N K gv0 gv1) (.exit 0) (slices_IndexFunc_nf_v2.sx0_0 gv0 gv1) = (slices_IndexFunc_nf_v2.a0_0 N (fun d0 => K (.int .i64 (d0)) [⟨false, .avs [.sptr [(1, 2), (2, 1), (3, 1), (4, 1)]]⟩, ⟨false, .flat 2 (.ints .i64 gv0)⟩, ⟨false, .flat 1 (.ints .i64 gv1)⟩, ⟨false, .avs [.nils]⟩, ⟨false, .avs [.nils]⟩])) := by kernel_rfl

theorem slices_IndexFunc_nf_v2.l0_eq {ρ : Type} (N : Nat) (K : AV → Heap → Option ρ) (gv0 : Nat → Int) (gv1 : Nat → Int) :
    ∀ (m : Nat), xloop (xcode (E28 N) ents slices_IndexFunc_nf_v2.kp 5 N (cL (cK (cB (cA (cB slices_IndexFunc_nf_v2.bd))))) 0) slices_IndexFunc_nf_v2.kp 5 0 m (slices_IndexFunc_nf_v2.st0 gv0 gv1) (slices_IndexFunc_nf_v2.k0 N K gv0 gv1) = (slices_IndexFunc_nf_v2.l0 N (fun d0 => K (.int .i64 (d0)) [⟨false, .avs [.sptr [(1, 2), (2, 1), (3, 1), (4, 1)]]⟩, ⟨false, .flat 2 (.ints .i64 gv0)⟩, ⟨false, .flat 1 (.ints .i64 gv1)⟩, ⟨false, .avs [.nils]⟩, ⟨false, .avs [.nils]⟩]) ((slices_IndexFunc_nf_v2.k0 N K gv0 gv1) (.exit 0) (slices_IndexFunc_nf_v2.sx0_0 gv0 gv1)) m) := by
  intro m
  induction m with
  | zero => intros; rfl
  | succ m ih =>
    refine (slices_IndexFunc_nf_v2.b0_eq N K (fun s => xloop (xcode (E28 N) ents slices_IndexFunc_nf_v2.kp 5 N (cL (cK (cB (cA (cB slices_IndexFunc_nf_v2.bd))))) 0) slices_IndexFunc_nf_v2.kp 5 0 m s (slices_IndexFunc_nf_v2.k0 N K gv0 gv1)) gv0 gv1).trans ?_
    simp only [ih]
    kernel_rfl

theorem slices_IndexFunc_nf_v2.s_eq {ρ : Type} (N : Nat) (K : AV → Heap → Option ρ) (gv0 : Nat → Int) (gv1 : Nat → Int) :
    xbody (E28 N) ents slices_IndexFunc_nf_v2.kp N Go.Proofs.Try.f37 slices_IndexFunc_nf_v2.bd [.nils, .fn 41 0 [[(0, 1)]]] [⟨false, .avs [.sptr [(1, 2), (2, 1), (3, 1), (4, 1)]]⟩, ⟨false, .flat 2 (.ints .i64 gv0)⟩, ⟨false, .flat 1 (.ints .i64 gv1)⟩, ⟨false, .avs [.nils]⟩, ⟨false, .avs [.nils]⟩] K = (slices_IndexFunc_nf_v2.s N (fun d0 => K (.int .i64 (d0)) [⟨false, .avs [.sptr [(1, 2), (2, 1), (3, 1), (4, 1)]]⟩, ⟨false, .flat 2 (.ints .i64 gv0)⟩, ⟨false, .flat 1 (.ints .i64 gv1)⟩, ⟨false, .avs [.nils]⟩, ⟨false, .avs [.nils]⟩]) (xloop (xcode (E28 N) ents slices_IndexFunc_nf_v2.kp 5 N (cL (cK (cB (cA (cB slices_IndexFunc_nf_v2.bd))))) 0) slices_IndexFunc_nf_v2.kp 5 0 N (slices_IndexFunc_nf_v2.st0 gv0 gv1) (slices_IndexFunc_nf_v2.k0 N K gv0 gv1))) := by kernel_rfl

theorem slices_IndexFunc_nf_v2.eq {ρ : Type} (N : Nat) (K : AV → Heap → Option ρ) (gv0 : Nat → Int) (gv1 : Nat → Int) :
    xbody (E28 N) ents slices_IndexFunc_nf_v2.kp N Go.Proofs.Try.f37 slices_IndexFunc_nf_v2.bd [.nils, .fn 41 0 [[(0, 1)]]] [⟨false, .avs [.sptr [(1, 2), (2, 1), (3, 1), (4, 1)]]⟩, ⟨false, .flat 2 (.ints .i64 gv0)⟩, ⟨false, .flat 1 (.ints .i64 gv1)⟩, ⟨false, .avs [.nils]⟩, ⟨false, .avs [.nils]⟩] K = (slices_IndexFunc_nf_v2 N (fun d0 => K (.int .i64 (d0)) [⟨false, .avs [.sptr [(1, 2), (2, 1), (3, 1), (4, 1)]]⟩, ⟨false, .flat 2 (.ints .i64 gv0)⟩, ⟨false, .flat 1 (.ints .i64 gv1)⟩, ⟨false, .avs [.nils]⟩, ⟨false, .avs [.nils]⟩]) gv0 gv1) := by
  refine (slices_IndexFunc_nf_v2.s_eq N K gv0 gv1).trans ?_
  simp only [slices_IndexFunc_nf_v2.l0_eq, slices_IndexFunc_nf_v2.a0_0_eq]
  kernel_rfl

noncomputable def slices_IndexFunc_suhf.en (N : Nat) (ρ : Type) : List AV → Heap → (AV → Heap → Option ρ) → Option ρ
  | [.slice false 0 0 s0 .unk 1, .fn 38 0 [[(1, 1)]]], [⟨false, .hdr 2 gv1 gv2 gv3 gv4 none⟩, ⟨false, .flat 1 (.ints .i64 gv5)⟩, ⟨false, .flat 0 (.ints .u8 gv6)⟩], K => (slices_IndexFunc_suhf N (fun d0 => K (.int .i64 (d0)) [⟨false, .hdr 2 gv1 gv2 gv3 gv4 none⟩, ⟨false, .flat 1 (.ints .i64 gv5)⟩, ⟨false, .flat 0 (.ints .u8 gv6)⟩]) s0 gv1 gv2 gv3 gv4 gv5 gv6)
  | [.slice false 0 0 s0 .unk 1, .fn 41 0 [[(1, 1)]]], [⟨false, .hdr 2 gv1 gv2 gv3 gv4 none⟩, ⟨false, .avs [.sptr [(3, 2), (4, 1), (5, 1), (6, 1)]]⟩, ⟨false, .flat 0 (.ints .u8 gv5)⟩, ⟨false, .flat 2 (.ints .i64 gv6)⟩, ⟨false, .flat 1 (.ints .i64 gv7)⟩, ⟨false, .avs [.slice false 7 0 gv8 .unk 1]⟩, ⟨false, .avs [.slice false 8 0 gv9 .unk 1]⟩, ⟨false, .hdr 2 gv10 gv11 gv12 gv13 none⟩, ⟨false, .flat gv14 (.ints .i64 gv15)⟩], K => (slices_IndexFunc_suhf_v2 N (fun d0 => K (.int .i64 (d0)) [⟨false, .hdr 2 gv1 gv2 gv3 gv4 none⟩, ⟨false, .avs [.sptr [(3, 2), (4, 1), (5, 1), (6, 1)]]⟩, ⟨false, .flat 0 (.ints .u8 gv5)⟩, ⟨false, .flat 2 (.ints .i64 gv6)⟩, ⟨false, .flat 1 (.ints .i64 gv7)⟩, ⟨false, .avs [.slice false 7 0 gv8 .unk 1]⟩, ⟨false, .avs [.slice false 8 0 gv9 .unk 1]⟩, ⟨false, .hdr 2 gv10 gv11 gv12 gv13 none⟩, ⟨false, .flat gv14 (.ints .i64 gv15)⟩]) s0 gv1 gv2 gv3 gv4 gv5 gv6 gv7 gv8 gv9 gv10 gv11 gv12 gv13 gv14 gv15)
  | [.nils, .fn 41 0 [[(0, 1)]]], [⟨false, .avs [.sptr [(1, 2), (2, 1), (3, 1), (4, 1)]]⟩, ⟨false, .flat 2 (.ints .i64 gv0)⟩, ⟨false, .flat 1 (.ints .i64 gv1)⟩, ⟨false, .avs [.nils]⟩, ⟨false, .avs [.nils]⟩], K => (slices_IndexFunc_nf_v2 N (fun d0 => K (.int .i64 (d0)) [⟨false, .avs [.sptr [(1, 2), (2, 1), (3, 1), (4, 1)]]⟩, ⟨false, .flat 2 (.ints .i64 gv0)⟩, ⟨false, .flat 1 (.ints .i64 gv1)⟩, ⟨false, .avs [.nils]⟩, ⟨false, .avs [.nils]⟩]) gv0 gv1)
  | _, _, _ => none

theorem slices_IndexFunc_suhf.en_ok (N : Nat) (hE : EnvOk (E28 N) ents) (ρ : Type) (args : List AV) (sh : Heap) (K : AV → Heap → Option ρ) (r : ρ) (h : slices_IndexFunc_suhf.en N ρ args sh K = some r) : ∃ v sh', K v sh' = some r ∧ FnOk (E28 N).P 37 args sh v sh' := by
  unfold slices_IndexFunc_suhf.en at h
  split at h
  · exact fn_ok hE (kp := slices_IndexFunc_suhf.kp) (N := N) Go.Proofs.Try.func37 (c := slices_IndexFunc_suhf.bd) (by kernel_rfl) ((slices_IndexFunc_suhf.eq N _ _ _ _ _ _ _ _).trans h)
  · exact fn_ok hE (kp := slices_IndexFunc_suhf_v2.kp) (N := N) Go.Proofs.Try.func37 (c := slices_IndexFunc_suhf_v2.bd) (by kernel_rfl) ((slices_IndexFunc_suhf_v2.eq N _ _ _ _ _ _ _ _ _ _ _ _ _ _ _ _ _).trans h)
  · exact fn_ok hE (kp := slices_IndexFunc_nf_v2.kp) (N := N) Go.Proofs.Try.func37 (c := slices_IndexFunc_nf_v2.bd) (by kernel_rfl) ((slices_IndexFunc_nf_v2.eq N _ _ _).trans h)
  · cases h

noncomputable def E29 (N : Nat) : Env := (E28 N).add 37 (slices_IndexFunc_suhf.en N)

theorem E29_ok (N : Nat) : EnvOk (E29 N) ents := Env.add_ok (E28_ok N) (slices_IndexFunc_suhf.en_ok N (E28_ok N))

noncomputable def impl_field_inverse.kp : Keeps := ⟨[(0, [1, 2, 5], [], [])], [(0, [2], [], [])], []⟩

noncomputable def impl_field_inverse.bd : Code := bodyOf Go.Proofs.Try.f43

noncomputable def impl_field_inverse.fin {ρ : Type} (N : Nat) (K : AV → Heap → Option ρ) : XE → St → Option ρ := finK (E29 N) impl_field_inverse.kp.fins Go.Proofs.Try.f43 [] K

noncomputable def impl_field_inverse.k0 {ρ : Type} (N : Nat) (K : AV → Heap → Option ρ) : XE → St → Option ρ := (blockK impl_field_inverse.kp 0 0 (seqK (xcode (E29 N) ents impl_field_inverse.kp 0 N (cB (cB impl_field_inverse.bd)) 0) (impl_field_inverse.fin N K)))

theorem impl_field_inverse.k0_mix {ρ : Type} (N : Nat) (K : AV → Heap → Option ρ) : mixK (impl_field_inverse.fin N K .ret) (impl_field_inverse.k0 N K) = (impl_field_inverse.k0 N K) := by
  funext e s; cases e <;> kernel_rfl

noncomputable def impl_field_inverse.st0 (f0 : Nat → Int) (x1 : Int) (k2 : Int) : St := ⟨sl 24 [(1, .int .u8 (x1)), (2, .sptr [(0, 2)]), (5, .int .i64 (k2))], [⟨true, .flat 2 (.ints .i64 f0)⟩]⟩

noncomputable def impl_field_inverse.sx0_0 (f0 : Nat → Int) : St := ⟨sl 24 [(2, .sptr [(0, 2)])], [⟨true, .flat 2 (.ints .i64 f0)⟩]⟩

theorem impl_field_inverse.b0_gen {ρ : Type} (N : Nat) (K : AV → Heap → Option ρ) (L0 : St → Option ρ) (kv : XE → St → Option ρ) (f0 : Nat → Int) (x1 : Int) (k2 : Int) :
    xcode (E29 N) ents impl_field_inverse.kp 0 N (cL (cK (cB (cA (cB impl_field_inverse.bd))))) 0 (impl_field_inverse.st0 f0 x1 k2) (roundK impl_field_inverse.kp 0 0 L0 (mixK (impl_field_inverse.fin N K .ret) kv)) = (impl_field_inverse.b0 N (fun d0 => K (.int .i64 (d0)) []) (fun k2 => L0 (impl_field_inverse.st0 f0 x1 k2)) (kv (.exit 0) (impl_field_inverse.sx0_0 f0)) f0 x1 k2) := by kernel_rfl

theorem impl_field_inverse.b0_eq {ρ : Type} (N : Nat) (K : AV → Heap → Option ρ) (L0 : St → Option ρ) (f0 : Nat → Int) (x1 : Int) (k2 : Int) :
    xcode (E29 N) ents impl_field_inverse.kp 0 N (cL (cK (cB (cA (cB impl_field_inverse.bd))))) 0 (impl_field_inverse.st0 f0 x1 k2) (roundK impl_field_inverse.kp 0 0 L0 (impl_field_inverse.k0 N K)) = (impl_field_inverse.b0 N (fun d0 => K (.int .i64 (d0)) []) (fun k2 => L0 (impl_field_inverse.st0 f0 x1 k2)) ((impl_field_inverse.k0 N K) (.exit 0) (impl_field_inverse.sx0_0 f0)) f0 x1 k2) := by
  have h := impl_field_inverse.b0_gen N K L0 (impl_field_inverse.k0 N K) f0 x1 k2
  rw [impl_field_inverse.k0_mix] at h
  exact h

theorem impl_field_inverse.a0_0_eq {ρ : Type} (N : Nat) (K : AV → Heap → Option ρ) (f0 : Nat → Int) :
    (impl_field_inverse.k0 N K) (.exit 0) (impl_field_inverse.sx0_0 f0) = (impl_field_inverse.a0_0 N (fun d0 => K (.int .i64 (d0)) []) f0) := by kernel_rfl

theorem impl_field_inverse.l0_eq {ρ : Type} (N : Nat) (K : AV → Heap → Option ρ) (f0 : Nat → Int) (x1 : Int) :
    ∀ (m : Nat) (k2 : Int), xloop (xcode (E29 N) ents impl_field_inverse.kp 0 N (cL (cK (cB (cA (cB impl_field_inverse.bd))))) 0) impl_field_inverse.kp 0 0 m (impl_field_inverse.st0 f0 x1 k2) (impl_field_inverse.k0 N K) = (impl_field_inverse.l0 N (fun d0 => K (.int .i64 (d0)) []) f0 x1 ((impl_field_inverse.k0 N K) (.exit 0) (impl_field_inverse.sx0_0 f0)) m k2) := by
  intro m
  induction m with
  | zero => intros; rfl
  | succ m ih =>
    intro k2
    refine (impl_field_inverse.b0_eq N K (fun s => xloop (xcode (E29 N) ents impl_field_inverse.kp 0 N (cL (cK (cB (cA (cB impl_field_inverse.bd))))) 0) impl_field_inverse.kp 0 0 m s (impl_field_inverse.k0 N K)) f0 x1 k2).trans ?_
    simp only [ih]
    kernel_rfl

theorem impl_field_inverse.s_eq {ρ : Type} (N : Nat) (K : AV → Heap → Option ρ) (f0 : Nat → Int) (x1 : Int) :
    xbody (E29 N) ents impl_field_inverse.kp N Go.Proofs.Try.f43 impl_field_inverse.bd [.agg [⟨.i64, 2, f0⟩], .int .u8 (x1)] [] K = (impl_field_inverse.s N (fun d0 => K (.int .i64 (d0)) []) (fun k2 => xloop (xcode (E29 N) ents impl_field_inverse.kp 0 N (cL (cK (cB (cA (cB impl_field_inverse.bd))))) 0) impl_field_inverse.kp 0 0 N (impl_field_inverse.st0 f0 x1 k2) (impl_field_inverse.k0 N K))) := by kernel_rfl

theorem impl_field_inverse.eq {ρ : Type} (N : Nat) (K : AV → Heap → Option ρ) (f0 : Nat → Int) (x1 : Int) :
    xbody (E29 N) ents impl_field_inverse.kp N Go.Proofs.Try.f43 impl_field_inverse.bd [.agg [⟨.i64, 2, f0⟩], .int .u8 (x1)] [] K = (impl_field_inverse N (fun d0 => K (.int .i64 (d0)) []) f0 x1) := by
  refine (impl_field_inverse.s_eq N K f0 x1).trans ?_
  simp only [impl_field_inverse.l0_eq, impl_field_inverse.a0_0_eq]
  kernel_rfl

noncomputable def impl_field_inverse.en (N : Nat) (ρ : Type) : List AV → Heap → (AV → Heap → Option ρ) → Option ρ
  | [.agg [⟨.i64, 2, f0⟩], .int .u8 (x1)], [], K => (impl_field_inverse N (fun d0 => K (.int .i64 (d0)) []) f0 x1)
  | _, _, _ => none

theorem impl_field_inverse.en_ok (N : Nat) (hE : EnvOk (E29 N) ents) (ρ : Type) (args : List AV) (sh : Heap) (K : AV → Heap → Option ρ) (r : ρ) (h : impl_field_inverse.en N ρ args sh K = some r) : ∃ v sh', K v sh' = some r ∧ FnOk (E29 N).P 43 args sh v sh' := by
  unfold impl_field_inverse.en at h
  split at h
  · exact fn_ok hE (kp := impl_field_inverse.kp) (N := N) Go.Proofs.Try.func43 (c := impl_field_inverse.bd) (by kernel_rfl) ((impl_field_inverse.eq N _ _ _).trans h)
  · cases h

noncomputable def E30 (N : Nat) : Env := (E29 N).add 43 (impl_field_inverse.en N)

theorem E30_ok (N : Nat) : EnvOk (E30 N) ents := Env.add_ok (E29_ok N) (impl_field_inverse.en_ok N (E29_ok N))

noncomputable def impl_field_mod.kp : Keeps := ⟨[], [], []⟩

noncomputable def impl_field_mod.bd : Code := bodyOf Go.Proofs.Try.f44

noncomputable def impl_field_mod.fin {ρ : Type} (N : Nat) (K : AV → Heap → Option ρ) : XE → St → Option ρ := finK (E30 N) impl_field_mod.kp.fins Go.Proofs.Try.f44 [] K

theorem impl_field_mod.eq {ρ : Type} (N : Nat) (K : AV → Heap → Option ρ) (f0 : Nat → Int) (x1 : Int) :
    xbody (E30 N) ents impl_field_mod.kp N Go.Proofs.Try.f44 impl_field_mod.bd [.agg [⟨.i64, 2, f0⟩], .int .i64 (x1)] [] K = (impl_field_mod N (fun d0 => K (.int .u8 (d0)) []) f0 x1) := by kernel_rfl

noncomputable def impl_field_mod.en (N : Nat) (ρ : Type) : List AV → Heap → (AV → Heap → Option ρ) → Option ρ
  | [.agg [⟨.i64, 2, f0⟩], .int .i64 (x1)], [], K => (impl_field_mod N (fun d0 => K (.int .u8 (d0)) []) f0 x1)
  | _, _, _ => none

theorem impl_field_mod.en_ok (N : Nat) (hE : EnvOk (E30 N) ents) (ρ : Type) (args : List AV) (sh : Heap) (K : AV → Heap → Option ρ) (r : ρ) (h : impl_field_mod.en N ρ args sh K = some r) : ∃ v sh', K v sh' = some r ∧ FnOk (E30 N).P 44 args sh v sh' := by
  unfold impl_field_mod.en at h
  split at h
  · exact fn_ok hE (kp := impl_field_mod.kp) (N := N) Go.Proofs.Try.func44 (c := impl_field_mod.bd) (by kernel_rfl) ((impl_field_mod.eq N _ _ _).trans h)
  · cases h

noncomputable def E31 (N : Nat) : Env := (E30 N).add 44 (impl_field_mod.en N)

theorem E31_ok (N : Nat) : EnvOk (E31 N) ents := Env.add_ok (E30_ok N) (impl_field_mod.en_ok N (E30_ok N))

noncomputable def impl_system_clear_v2.kp : Keeps := ⟨[(0, [0, 1, 2, 6, 7, 31, 32, 33], [], []), (2, [0, 1, 2, 6, 54, 55, 56], [], []), (4, [0, 1, 2, 6, 11, 12, 54, 55, 56, 76, 77, 78], [], [])], [(0, [0, 1, 2, 6], [], []), (2, [], [], []), (4, [0, 1, 2, 6, 54, 55, 56], [], [])], []⟩

noncomputable def impl_system_clear_v2.bd : Code := bodyOf Go.Proofs.Try.f39

noncomputable def impl_system_clear_v2.fin {ρ : Type} (N : Nat) (K : AV → Heap → Option ρ) (gv2 : Nat → Int) (gv3 : Nat → Int) (gv4 : Nat) (gv5 : Nat) (gv6 : Nat) (gv7 : Nat) (gv8 : Nat → Nat) (gv9 : Nat → Nat) (gv10 : Nat → Int) (gv11 : Nat → Int) : XE → St → Option ρ := finK (E31 N) impl_system_clear_v2.kp.fins Go.Proofs.Try.f39 [⟨false, .flat 2 (.ints .i64 gv2)⟩, ⟨false, .flat 1 (.ints .i64 gv3)⟩, ⟨false, .avs [.slice false 4 0 gv4 .unk 1]⟩, ⟨false, .avs [.slice false 5 0 gv5 .whole 1]⟩, ⟨false, .hdr 6 gv6 gv7 gv8 gv9 none⟩, ⟨true, .flat 0 (.ints .i64 gv10)⟩, ⟨true, .flat 0 (.ints .u8 gv11)⟩] K

noncomputable def impl_system_clear_v2.k0 {ρ : Type} (N : Nat) (K : AV → Heap → Option ρ) (gv2 : Nat → Int) (gv3 : Nat → Int) (gv4 : Nat) (gv5 : Nat) (gv6 : Nat) (gv7 : Nat) (gv8 : Nat → Nat) (gv9 : Nat → Nat) (gv10 : Nat → Int) (gv11 : Nat → Int) : XE → St → Option ρ := (blockK impl_system_clear_v2.kp 7 0 (seqK (xcode (E31 N) ents impl_system_clear_v2.kp 7 N (cB (cB (cB impl_system_clear_v2.bd))) 0) (impl_system_clear_v2.fin N K gv2 gv3 gv4 gv5 gv6 gv7 gv8 gv9 gv10 gv11)))

theorem impl_system_clear_v2.k0_mix {ρ : Type} (N : Nat) (K : AV → Heap → Option ρ) (gv2 : Nat → Int) (gv3 : Nat → Int) (gv4 : Nat) (gv5 : Nat) (gv6 : Nat) (gv7 : Nat) (gv8 : Nat → Nat) (gv9 : Nat → Nat) (gv10 : Nat → Int) (gv11 : Nat → Int) : mixK (impl_system_clear_v2.fin N K gv2 gv3 gv4 gv5 gv6 gv7 gv8 gv9 gv10 gv11 .ret) (impl_system_clear_v2.k0 N K gv2 gv3 gv4 gv5 gv6 gv7 gv8 gv9 gv10 gv11) = (impl_system_clear_v2.k0 N K gv2 gv3 gv4 gv5 gv6 gv7 gv8 gv9 gv10 gv11) := by
  funext e s; cases e <;> kernel_rfl

noncomputable def impl_system_clear_v2.st0 (at0 : Int) (c1 : Int) (gv2 : Nat → Int) (gv3 : Nat → Int) (gv4 : Nat) (gv5 : Nat) (gv6 : Nat) (gv7 : Nat) (gv8 : Nat → Nat) (gv9 : Nat → Nat) (gv10 : Nat → Int) (rv12 : Int) (x13 : Int) (gv14 : Nat → Int) : St := ⟨sl 103 [(0, .sptr [(0, 2), (1, 1), (2, 1), (3, 1)]), (1, .int .i64 (at0)), (2, .int .i64 (c1)), (6, .slice false 6 (gv8 (0 + (at0.toNat * 1))) (gv9 (0 + (at0.toNat * 1))) .unk 1), (7, .int .i64 (rv12)), (31, .slice false 6 (gv8 (0 + (at0.toNat * 1))) (gv9 (0 + (at0.toNat * 1))) .unk 1), (32, .int .i64 ((((gv9 (0 + (at0.toNat * 1))) : Nat) : Int))), (33, .int .i64 (x13))], [⟨false, .flat 2 (.ints .i64 gv2)⟩, ⟨false, .flat 1 (.ints .i64 gv3)⟩, ⟨false, .avs [.slice false 4 0 gv4 .unk 1]⟩, ⟨false, .avs [.slice false 5 0 gv5 .whole 1]⟩, ⟨false, .hdr 6 gv6 gv7 gv8 gv9 none⟩, ⟨true, .flat 0 (.ints .i64 gv10)⟩, ⟨true, .flat 0 (.ints .u8 gv14)⟩]⟩

noncomputable def impl_system_clear_v2.sx0_0 (at0 : Int) (c1 : Int) (gv2 : Nat → Int) (gv3 : Nat → Int) (gv4 : Nat) (gv5 : Nat) (gv6 : Nat) (gv7 : Nat) (gv8 : Nat → Nat) (gv9 : Nat → Nat) (gv10 : Nat → Int) (ov16 : Nat → Int) : St := ⟨sl 103 [(0, .sptr [(0, 2), (1, 1), (2, 1), (3, 1)]), (1, .int .i64 (at0)), (2, .int .i64 (c1)), (6, .slice false 6 (gv8 (0 + (at0.toNat * 1))) (gv9 (0 + (at0.toNat * 1))) .unk 1)], [⟨false, .flat 2 (.ints .i64 gv2)⟩, ⟨false, .flat 1 (.ints .i64 gv3)⟩, ⟨false, .avs [.slice false 4 0 gv4 .unk 1]⟩, ⟨false, .avs [.slice false 5 0 gv5 .whole 1]⟩, ⟨false, .hdr 6 gv6 gv7 gv8 gv9 none⟩, ⟨true, .flat 0 (.ints .i64 gv10)⟩, ⟨true, .flat 0 (.ints .u8 ov16)⟩]⟩

noncomputable def impl_system_clear_v2.k1 {ρ : Type} (N : Nat) (K : AV → Heap → Option ρ) (gv2 : Nat → Int) (gv3 : Nat → Int) (gv4 : Nat) (gv5 : Nat) (gv6 : Nat) (gv7 : Nat) (gv8 : Nat → Nat) (gv9 : Nat → Nat) (gv10 : Nat → Int) (gv11 : Nat → Int) : XE → St → Option ρ := (blockK impl_system_clear_v2.kp 7 2 (impl_system_clear_v2.fin N K gv2 gv3 gv4 gv5 gv6 gv7 gv8 gv9 gv10 gv11))

theorem impl_system_clear_v2.k1_mix {ρ : Type} (N : Nat) (K : AV → Heap → Option ρ) (gv2 : Nat → Int) (gv3 : Nat → Int) (gv4 : Nat) (gv5 : Nat) (gv6 : Nat) (gv7 : Nat) (gv8 : Nat → Nat) (gv9 : Nat → Nat) (gv10 : Nat → Int) (gv11 : Nat → Int) : mixK (impl_system_clear_v2.fin N K gv2 gv3 gv4 gv5 gv6 gv7 gv8 gv9 gv10 gv11 .ret) (impl_system_clear_v2.k1 N K gv2 gv3 gv4 gv5 gv6 gv7 gv8 gv9 gv10 gv11) = (impl_system_clear_v2.k1 N K gv2 gv3 gv4 gv5 gv6 gv7 gv8 gv9 gv10 gv11) := by
  funext e s; cases e <;> kernel_rfl

noncomputable def impl_system_clear_v2.st1 (at0 : Int) (c1 : Int) (gv2 : Nat → Int) (gv3 : Nat → Int) (gv4 : Nat) (gv5 : Nat) (gv6 : Nat) (gv7 : Nat) (gv8 : Nat → Nat) (gv9 : Nat → Nat) (gv10 : Nat → Int) (x17 : Int) (gv18 : Nat → Int) : St := ⟨sl 103 [(0, .sptr [(0, 2), (1, 1), (2, 1), (3, 1)]), (1, .int .i64 (at0)), (2, .int .i64 (c1)), (6, .slice false 6 (gv8 (0 + (at0.toNat * 1))) (gv9 (0 + (at0.toNat * 1))) .unk 1), (54, .slice false 4 0 gv4 .unk 1), (55, .int .i64 ((gv4 : Int))), (56, .int .i64 (x17))], [⟨false, .flat 2 (.ints .i64 gv2)⟩, ⟨false, .flat 1 (.ints .i64 gv3)⟩, ⟨false, .avs [.slice false 4 0 gv4 .unk 1]⟩, ⟨false, .avs [.slice false 5 0 gv5 .whole 1]⟩, ⟨false, .hdr 6 gv6 gv7 gv8 gv9 none⟩, ⟨true, .flat 0 (.ints .i64 gv10)⟩, ⟨true, .flat 0 (.ints .u8 gv18)⟩]⟩

noncomputable def impl_system_clear_v2.sx1_0 (gv2 : Nat → Int) (gv3 : Nat → Int) (gv4 : Nat) (gv5 : Nat) (gv6 : Nat) (gv7 : Nat) (gv8 : Nat → Nat) (gv9 : Nat → Nat) (gv10 : Nat → Int) (ov23 : Nat → Int) : St := ⟨sl 103 [], [⟨false, .flat 2 (.ints .i64 gv2)⟩, ⟨false, .flat 1 (.ints .i64 gv3)⟩, ⟨false, .avs [.slice false 4 0 gv4 .unk 1]⟩, ⟨false, .avs [.slice false 5 0 gv5 .whole 1]⟩, ⟨false, .hdr 6 gv6 gv7 gv8 gv9 none⟩, ⟨true, .flat 0 (.ints .i64 gv10)⟩, ⟨true, .flat 0 (.ints .u8 ov23)⟩]⟩

noncomputable def impl_system_clear_v2.k2g {ρ : Type} (N : Nat) (L1 : St → Option ρ) (kv : XE → St → Option ρ) : XE → St → Option ρ := (blockK impl_system_clear_v2.kp 7 4 (blockK impl_system_clear_v2.kp 7 3 (seqK (xcode (E31 N) ents impl_system_clear_v2.kp 7 N (cB (cB (cB (cL (cK (cB (cB (cB (cB impl_system_clear_v2.bd))))))))) 2) (roundK impl_system_clear_v2.kp 7 2 L1 kv))))

theorem impl_system_clear_v2.k2_mix {ρ : Type} (N : Nat) (K : AV → Heap → Option ρ) (L1 : St → Option ρ) (gv2 : Nat → Int) (gv3 : Nat → Int) (gv4 : Nat) (gv5 : Nat) (gv6 : Nat) (gv7 : Nat) (gv8 : Nat → Nat) (gv9 : Nat → Nat) (gv10 : Nat → Int) (gv11 : Nat → Int) : mixK (impl_system_clear_v2.fin N K gv2 gv3 gv4 gv5 gv6 gv7 gv8 gv9 gv10 gv11 .ret) (impl_system_clear_v2.k2g N L1 (impl_system_clear_v2.k1 N K gv2 gv3 gv4 gv5 gv6 gv7 gv8 gv9 gv10 gv11)) = (impl_system_clear_v2.k2g N L1 (impl_system_clear_v2.k1 N K gv2 gv3 gv4 gv5 gv6 gv7 gv8 gv9 gv10 gv11)) := by
  funext e s; cases e <;> kernel_rfl

noncomputable def impl_system_clear_v2.st2 (at0 : Int) (c1 : Int) (gv2 : Nat → Int) (gv3 : Nat → Int) (gv4 : Nat) (gv5 : Nat) (gv6 : Nat) (gv7 : Nat) (gv8 : Nat → Nat) (gv9 : Nat → Nat) (gv10 : Nat → Int) (x17 : Int) (gv18 : Nat → Int) (x19 : Int) (gv20 : Nat → Int) : St := ⟨sl 103 [(0, .sptr [(0, 2), (1, 1), (2, 1), (3, 1)]), (1, .int .i64 (at0)), (2, .int .i64 (c1)), (6, .slice false 6 (gv8 (0 + (at0.toNat * 1))) (gv9 (0 + (at0.toNat * 1))) .unk 1), (11, .slice false 6 (gv8 (0 + (x17.toNat * 1))) (gv9 (0 + (x17.toNat * 1))) .unk 1), (12, .int .i64 ((IntKind.i64.wrap (gv18 ((gv8 (0 + (x17.toNat * 1))) + (c1.toNat * 1)))))), (54, .slice false 4 0 gv4 .unk 1), (55, .int .i64 ((gv4 : Int))), (56, .int .i64 (x17)), (76, .slice false 6 (gv8 (0 + (at0.toNat * 1))) (gv9 (0 + (at0.toNat * 1))) .unk 1), (77, .int .i64 ((((gv9 (0 + (at0.toNat * 1))) : Nat) : Int))), (78, .int .i64 (x19))], [⟨false, .flat 2 (.ints .i64 gv2)⟩, ⟨false, .flat 1 (.ints .i64 gv3)⟩, ⟨false, .avs [.slice false 4 0 gv4 .unk 1]⟩, ⟨false, .avs [.slice false 5 0 gv5 .whole 1]⟩, ⟨false, .hdr 6 gv6 gv7 gv8 gv9 none⟩, ⟨true, .flat 0 (.ints .i64 gv10)⟩, ⟨true, .flat 0 (.ints .u8 gv20)⟩]⟩

noncomputable def impl_system_clear_v2.sx2_0 (at0 : Int) (c1 : Int) (gv2 : Nat → Int) (gv3 : Nat → Int) (gv4 : Nat) (gv5 : Nat) (gv6 : Nat) (gv7 : Nat) (gv8 : Nat → Nat) (gv9 : Nat → Nat) (gv10 : Nat → Int) (x17 : Int) (ov22 : Nat → Int) : St := ⟨sl 103 [(0, .sptr [(0, 2), (1, 1), (2, 1), (3, 1)]), (1, .int .i64 (at0)), (2, .int .i64 (c1)), (6, .slice false 6 (gv8 (0 + (at0.toNat * 1))) (gv9 (0 + (at0.toNat * 1))) .unk 1), (54, .slice false 4 0 gv4 .unk 1), (55, .int .i64 ((gv4 : Int))), (56, .int .i64 (x17))], [⟨false, .flat 2 (.ints .i64 gv2)⟩, ⟨false, .flat 1 (.ints .i64 gv3)⟩, ⟨false, .avs [.slice false 4 0 gv4 .unk 1]⟩, ⟨false, .avs [.slice false 5 0 gv5 .whole 1]⟩, ⟨false, .hdr 6 gv6 gv7 gv8 gv9 none⟩, ⟨true, .flat 0 (.ints .i64 gv10)⟩, ⟨true, .flat 0 (.ints .u8 ov22)⟩]⟩

theorem impl_system_clear_v2.b2_gen {ρ : Type} (N : Nat) (K : AV → Heap → Option ρ) (L2 : St → Option ρ) (kv : XE → St → Option ρ) (at0 : Int) (c1 : Int) (gv2 : Nat → Int) (gv3 : Nat → Int) (gv4 : Nat) (gv5 : Nat) (gv6 : Nat) (gv7 : Nat) (gv8 : Nat → Nat) (gv9 : Nat → Nat) (gv10 : Nat → Int) (gv11 : Nat → Int) (x17 : Int) (gv18 : Nat → Int) (x19 : Int) (gv20 : Nat → Int) :
    xcode (E31 N) ents impl_system_clear_v2.kp 7 N (cL (cK (cB (cB (cB (cB (cK (cA (cB (cB (cL (cK (cB (cB (cB (cB impl_system_clear_v2.bd)))))))))))))))) 4 (impl_system_clear_v2.st2 at0 c1 gv2 gv3 gv4 gv5 gv6 gv7 gv8 gv9 gv10 x17 gv18 x19 gv20) (roundK impl_system_clear_v2.kp 7 4 L2 (mixK (impl_system_clear_v2.fin N K gv2 gv3 gv4 gv5 gv6 gv7 gv8 gv9 gv10 gv11 .ret) kv)) = (impl_system_clear_v2.b2 N (fun d0 d1 => K (.tup []) [⟨false, .flat 2 (.ints .i64 gv2)⟩, ⟨false, .flat 1 (.ints .i64 gv3)⟩, ⟨false, .avs [.slice false 4 0 gv4 .unk 1]⟩, ⟨false, .avs [.slice false 5 0 gv5 .whole 1]⟩, ⟨false, .hdr 6 gv6 gv7 gv8 gv9 none⟩, ⟨true, .flat 0 (.ints .i64 d0)⟩, ⟨true, .flat 0 (.ints .u8 d1)⟩]) (fun x19 gv20 => L2 (impl_system_clear_v2.st2 at0 c1 gv2 gv3 gv4 gv5 gv6 gv7 gv8 gv9 gv10 x17 gv18 x19 gv20)) (fun ov22 => kv (.exit 4) (impl_system_clear_v2.sx2_0 at0 c1 gv2 gv3 gv4 gv5 gv6 gv7 gv8 gv9 gv10 x17 ov22)) at0 c1 gv2 gv8 gv9 x17 gv18 x19 gv20) := by kernel_rfl

theorem impl_system_clear_v2.b2_eq {ρ : Type} (N : Nat) (K : AV → Heap → Option ρ) (L1 : St → Option ρ) (L2 : St → Option ρ) (at0 : Int) (c1 : Int) (gv2 : Nat → Int) (gv3 : Nat → Int) (gv4 : Nat) (gv5 : Nat) (gv6 : Nat) (gv7 : Nat) (gv8 : Nat → Nat) (gv9 : Nat → Nat) (gv10 : Nat → Int) (gv11 : Nat → Int) (x17 : Int) (gv18 : Nat → Int) (x19 : Int) (gv20 : Nat → Int) :
    xcode (E31 N) ents impl_system_clear_v2.kp 7 N (cL (cK (cB (cB (cB (cB (cK (cA (cB (cB (cL (cK (cB (cB (cB (cB impl_system_clear_v2.bd)))))))))))))))) 4 (impl_system_clear_v2.st2 at0 c1 gv2 gv3 gv4 gv5 gv6 gv7 gv8 gv9 gv10 x17 gv18 x19 gv20) (roundK impl_system_clear_v2.kp 7 4 L2 (impl_system_clear_v2.k2g N L1 (impl_system_clear_v2.k1 N K gv2 gv3 gv4 gv5 gv6 gv7 gv8 gv9 gv10 gv11))) = (impl_system_clear_v2.b2 N (fun d0 d1 => K (.tup []) [⟨false, .flat 2 (.ints .i64 gv2)⟩, ⟨false, .flat 1 (.ints .i64 gv3)⟩, ⟨false, .avs [.slice false 4 0 gv4 .unk 1]⟩, ⟨false, .avs [.slice false 5 0 gv5 .whole 1]⟩, ⟨false, .hdr 6 gv6 gv7 gv8 gv9 none⟩, ⟨true, .flat 0 (.ints .i64 d0)⟩, ⟨true, .flat 0 (.ints .u8 d1)⟩]) (fun x19 gv20 => L2 (impl_system_clear_v2.st2 at0 c1 gv2 gv3 gv4 gv5 gv6 gv7 gv8 gv9 gv10 x17 gv18 x19 gv20)) (fun ov22 => (impl_system_clear_v2.k2g N L1 (impl_system_clear_v2.k1 N K gv2 gv3 gv4 gv5 gv6 gv7 gv8 gv9 gv10 gv11)) (.exit 4) (impl_system_clear_v2.sx2_0 at0 c1 gv2 gv3 gv4 gv5 gv6 gv7 gv8 gv9 gv10 x17 ov22)) at0 c1 gv2 gv8 gv9 x17 gv18 x19 gv20) := by
  have h := impl_system_clear_v2.b2_gen N K L2 (impl_system_clear_v2.k2g N L1 (impl_system_clear_v2.k1 N K gv2 gv3 gv4 gv5 gv6 gv7 gv8 gv9 gv10 gv11)) at0 c1 gv2 gv3 gv4 gv5 gv6 gv7 gv8 gv9 gv10 gv11 x17 gv18 x19 gv20
  rw [impl_system_clear_v2.k2_mix] at h
  exact h

theorem impl_system_clear_v2.a2_0_gen {ρ : Type} (N : Nat) (K : AV → Heap → Option ρ) (L1 : St → Option ρ) (kv : XE → St → Option ρ) (at0 : Int) (c1 : Int) (gv2 : Nat → Int) (gv3 : Nat → Int) (gv4 : Nat) (gv5 : Nat) (gv6 : Nat) (gv7 : Nat) (gv8 : Nat → Nat) (gv9 : Nat → Nat) (gv10 : Nat → Int) (gv11 : Nat → Int) (x17 : Int) (ov22 : Nat → Int) :
    (impl_system_clear_v2.k2g N L1 (mixK (impl_system_clear_v2.fin N K gv2 gv3 gv4 gv5 gv6 gv7 gv8 gv9 gv10 gv11 .ret) kv)) (.exit 4) (impl_system_clear_v2.sx2_0 at0 c1 gv2 gv3 gv4 gv5 gv6 gv7 gv8 gv9 gv10 x17 ov22) = (impl_system_clear_v2.a2_0 N (fun d0 d1 => K (.tup []) [⟨false, .flat 2 (.ints .i64 gv2)⟩, ⟨false, .flat 1 (.ints .i64 gv3)⟩, ⟨false, .avs [.slice false 4 0 gv4 .unk 1]⟩, ⟨false, .avs [.slice false 5 0 gv5 .whole 1]⟩, ⟨false, .hdr 6 gv6 gv7 gv8 gv9 none⟩, ⟨true, .flat 0 (.ints .i64 d0)⟩, ⟨true, .flat 0 (.ints .u8 d1)⟩]) (fun x17 gv18 => L1 (impl_system_clear_v2.st1 at0 c1 gv2 gv3 gv4 gv5 gv6 gv7 gv8 gv9 gv10 x17 gv18)) (fun ov23 => kv (.exit 2) (impl_system_clear_v2.sx1_0 gv2 gv3 gv4 gv5 gv6 gv7 gv8 gv9 gv10 ov23)) x17 ov22) := by kernel_rfl

theorem impl_system_clear_v2.a2_0_eq {ρ : Type} (N : Nat) (K : AV → Heap → Option ρ) (L1 : St → Option ρ) (at0 : Int) (c1 : Int) (gv2 : Nat → Int) (gv3 : Nat → Int) (gv4 : Nat) (gv5 : Nat) (gv6 : Nat) (gv7 : Nat) (gv8 : Nat → Nat) (gv9 : Nat → Nat) (gv10 : Nat → Int) (gv11 : Nat → Int) (x17 : Int) (ov22 : Nat → Int) :
    (impl_system_clear_v2.k2g N L1 (impl_system_clear_v2.k1 N K gv2 gv3 gv4 gv5 gv6 gv7 gv8 gv9 gv10 gv11)) (.exit 4) (impl_system_clear_v2.sx2_0 at0 c1 gv2 gv3 gv4 gv5 gv6 gv7 gv8 gv9 gv10 x17 ov22) = (impl_system_clear_v2.a2_0 N (fun d0 d1 => K (.tup []) [⟨false, .flat 2 (.ints .i64 gv2)⟩, ⟨false, .flat 1 (.ints .i64 gv3)⟩, ⟨false, .avs [.slice false 4 0 gv4 .unk 1]⟩, ⟨false, .avs [.slice false 5 0 gv5 .whole 1]⟩, ⟨false, .hdr 6 gv6 gv7 gv8 gv9 none⟩, ⟨true, .flat 0 (.ints .i64 d0)⟩, ⟨true, .flat 0 (.ints .u8 d1)⟩]) (fun x17 gv18 => L1 (impl_system_clear_v2.st1 at0 c1 gv2 gv3 gv4 gv5 gv6 gv7 gv8 gv9 gv10 x17 gv18)) (fun ov23 => (impl_system_clear_v2.k1 N K gv2 gv3 gv4 gv5 gv6 gv7 gv8 gv9 gv10 gv11) (.exit 2) (impl_system_clear_v2.sx1_0 gv2 gv3 gv4 gv5 gv6 gv7 gv8 gv9 gv10 ov23)) x17 ov22) := by
  have h := impl_system_clear_v2.a2_0_gen N K L1 (impl_system_clear_v2.k1 N K gv2 gv3 gv4 gv5 gv6 gv7 gv8 gv9 gv10 gv11) at0 c1 gv2 gv3 gv4 gv5 gv6 gv7 gv8 gv9 gv10 gv11 x17 ov22
  rw [impl_system_clear_v2.k1_mix] at h
  exact h

theorem impl_system_clear_v2.b1_gen {ρ : Type} (N : Nat) (K : AV → Heap → Option ρ) (L1 : St → Option ρ) (kv : XE → St → Option ρ) (at0 : Int) (c1 : Int) (gv2 : Nat → Int) (gv3 : Nat → Int) (gv4 : Nat) (gv5 : Nat) (gv6 : Nat) (gv7 : Nat) (gv8 : Nat → Nat) (gv9 : Nat → Nat) (gv10 : Nat → Int) (gv11 : Nat → Int) (x17 : Int) (gv18 : Nat → Int) :
    xcode (E31 N) ents impl_system_clear_v2.kp 7 N (cL (cK (cB (cB (cB (cB impl_system_clear_v2.bd)))))) 2 (impl_system_clear_v2.st1 at0 c1 gv2 gv3 gv4 gv5 gv6 gv7 gv8 gv9 gv10 x17 gv18) (roundK impl_system_clear_v2.kp 7 2 L1 (mixK (impl_system_clear_v2.fin N K gv2 gv3 gv4 gv5 gv6 gv7 gv8 gv9 gv10 gv11 .ret) kv)) = (impl_system_clear_v2.b1 N (fun d0 d1 => K (.tup []) [⟨false, .flat 2 (.ints .i64 gv2)⟩, ⟨false, .flat 1 (.ints .i64 gv3)⟩, ⟨false, .avs [.slice false 4 0 gv4 .unk 1]⟩, ⟨false, .avs [.slice false 5 0 gv5 .whole 1]⟩, ⟨false, .hdr 6 gv6 gv7 gv8 gv9 none⟩, ⟨true, .flat 0 (.ints .i64 d0)⟩, ⟨true, .flat 0 (.ints .u8 d1)⟩]) (fun x19 gv20 => xloop (xcode (E31 N) ents impl_system_clear_v2.kp 7 N (cL (cK (cB (cB (cB (cB (cK (cA (cB (cB (cL (cK (cB (cB (cB (cB impl_system_clear_v2.bd)))))))))))))))) 4) impl_system_clear_v2.kp 7 4 N (impl_system_clear_v2.st2 at0 c1 gv2 gv3 gv4 gv5 gv6 gv7 gv8 gv9 gv10 x17 gv18 x19 gv20) (impl_system_clear_v2.k2g N L1 (mixK (impl_system_clear_v2.fin N K gv2 gv3 gv4 gv5 gv6 gv7 gv8 gv9 gv10 gv11 .ret) kv))) (fun x17 gv18 => L1 (impl_system_clear_v2.st1 at0 c1 gv2 gv3 gv4 gv5 gv6 gv7 gv8 gv9 gv10 x17 gv18)) (fun ov23 => kv (.exit 2) (impl_system_clear_v2.sx1_0 gv2 gv3 gv4 gv5 gv6 gv7 gv8 gv9 gv10 ov23)) at0 c1 gv4 gv8 gv9 x17 gv18) := by kernel_rfl

theorem impl_system_clear_v2.b1_eq {ρ : Type} (N : Nat) (K : AV → Heap → Option ρ) (L1 : St → Option ρ) (at0 : Int) (c1 : Int) (gv2 : Nat → Int) (gv3 : Nat → Int) (gv4 : Nat) (gv5 : Nat) (gv6 : Nat) (gv7 : Nat) (gv8 : Nat → Nat) (gv9 : Nat → Nat) (gv10 : Nat → Int) (gv11 : Nat → Int) (x17 : Int) (gv18 : Nat → Int) :
    xcode (E31 N) ents impl_system_clear_v2.kp 7 N (cL (cK (cB (cB (cB (cB impl_system_clear_v2.bd)))))) 2 (impl_system_clear_v2.st1 at0 c1 gv2 gv3 gv4 gv5 gv6 gv7 gv8 gv9 gv10 x17 gv18) (roundK impl_system_clear_v2.kp 7 2 L1 (impl_system_clear_v2.k1 N K gv2 gv3 gv4 gv5 gv6 gv7 gv8 gv9 gv10 gv11)) = (impl_system_clear_v2.b1 N (fun d0 d1 => K (.tup []) [⟨false, .flat 2 (.ints .i64 gv2)⟩, ⟨false, .flat 1 (.ints .i64 gv3)⟩, ⟨false, .avs [.slice false 4 0 gv4 .unk 1]⟩, ⟨false, .avs [.slice false 5 0 gv5 .whole 1]⟩, ⟨false, .hdr 6 gv6 gv7 gv8 gv9 none⟩, ⟨true, .flat 0 (.ints .i64 d0)⟩, ⟨true, .flat 0 (.ints .u8 d1)⟩]) (fun x19 gv20 => xloop (xcode (E31 N) ents impl_system_clear_v2.kp 7 N (cL (cK (cB (cB (cB (cB (cK (cA (cB (cB (cL (cK (cB (cB (cB (cB impl_system_clear_v2.bd)))))))))))))))) 4) impl_system_clear_v2.kp 7 4 N (impl_system_clear_v2.st2 at0 c1 gv2 gv3 gv4 gv5 gv6 gv7 gv8 gv9 gv10 x17 gv18 x19 gv20) (impl_system_clear_v2.k2g N L1 (impl_system_clear_v2.k1 N K gv2 gv3 gv4 gv5 gv6 gv7 gv8 gv9 gv10 gv11))) (fun x17 gv18 => L1 (impl_system_clear_v2.st1 at0 c1 gv2 gv3 gv4 gv5 gv6 gv7 gv8 gv9 gv10 x17 gv18)) (fun ov23 => (impl_system_clear_v2.k1 N K gv2 gv3 gv4 gv5 gv6 gv7 gv8 gv9 gv10 gv11) (.exit 2) (impl_system_clear_v2.sx1_0 gv2 gv3 gv4 gv5 gv6 gv7 gv8 gv9 gv10 ov23)) at0 c1 gv4 gv8 gv9 x17 gv18) := by
  have h := impl_system_clear_v2.b1_gen N K L1 (impl_system_clear_v2.k1 N K gv2 gv3 gv4 gv5 gv6 gv7 gv8 gv9 gv10 gv11) at0 c1 gv2 gv3 gv4 gv5 gv6 gv7 gv8 gv9 gv10 gv11 x17 gv18
  rw [impl_system_clear_v2.k1_mix] at h
  exact h

theorem impl_system_clear_v2.a1_0_eq {ρ : Type} (N : Nat) (K : AV → Heap → Option ρ) (gv2 : Nat → Int) (gv3 : Nat → Int) (gv4 : Nat) (gv5 : Nat) (gv6 : Nat) (gv7 : Nat) (gv8 : Nat → Nat) (gv9 : Nat → Nat) (gv10 : Nat → Int) (gv11 : Nat → Int) (ov23 : Nat → Int) :
    (impl_system_clear_v2.k1 N K gv2 gv3 gv4 gv5 gv6 gv7 gv8 gv9 gv10 gv11) (.exit 2) (impl_system_clear_v2.sx1_0 gv2 gv3 gv4 gv5 gv6 gv7 gv8 gv9 gv10 ov23) = (impl_system_clear_v2.a1_0 N (fun d0 d1 => K (.tup []) [⟨false, .flat 2 (.ints .i64 gv2)⟩, ⟨false, .flat 1 (.ints .i64 gv3)⟩, ⟨false, .avs [.slice false 4 0 gv4 .unk 1]⟩, ⟨false, .avs [.slice false 5 0 gv5 .whole 1]⟩, ⟨false, .hdr 6 gv6 gv7 gv8 gv9 none⟩, ⟨true, .flat 0 (.ints .i64 d0)⟩, ⟨true, .flat 0 (.ints .u8 d1)⟩]) gv10 ov23) := by kernel_rfl

theorem impl_system_clear_v2.b0_gen {ρ : Type} (N : Nat) (K : AV → Heap → Option ρ) (L0 : St → Option ρ) (kv : XE → St → Option ρ) (at0 : Int) (c1 : Int) (gv2 : Nat → Int) (gv3 : Nat → Int) (gv4 : Nat) (gv5 : Nat) (gv6 : Nat) (gv7 : Nat) (gv8 : Nat → Nat) (gv9 : Nat → Nat) (gv10 : Nat → Int) (gv11 : Nat → Int) (rv12 : Int) (x13 : Int) (gv14 : Nat → Int) :
    xcode (E31 N) ents impl_system_clear_v2.kp 7 N (cL (cK (cB (cA (cB (cB impl_system_clear_v2.bd)))))) 0 (impl_system_clear_v2.st0 at0 c1 gv2 gv3 gv4 gv5 gv6 gv7 gv8 gv9 gv10 rv12 x13 gv14) (roundK impl_system_clear_v2.kp 7 0 L0 (mixK (impl_system_clear_v2.fin N K gv2 gv3 gv4 gv5 gv6 gv7 gv8 gv9 gv10 gv11 .ret) kv)) = (impl_system_clear_v2.b0 N (fun d0 d1 => K (.tup []) [⟨false, .flat 2 (.ints .i64 gv2)⟩, ⟨false, .flat 1 (.ints .i64 gv3)⟩, ⟨false, .avs [.slice false 4 0 gv4 .unk 1]⟩, ⟨false, .avs [.slice false 5 0 gv5 .whole 1]⟩, ⟨false, .hdr 6 gv6 gv7 gv8 gv9 none⟩, ⟨true, .flat 0 (.ints .i64 d0)⟩, ⟨true, .flat 0 (.ints .u8 d1)⟩]) (fun x13 gv14 => L0 (impl_system_clear_v2.st0 at0 c1 gv2 gv3 gv4 gv5 gv6 gv7 gv8 gv9 gv10 rv12 x13 gv14)) (fun ov16 => kv (.exit 0) (impl_system_clear_v2.sx0_0 at0 c1 gv2 gv3 gv4 gv5 gv6 gv7 gv8 gv9 gv10 ov16)) at0 gv2 gv8 gv9 rv12 x13 gv14) := by kernel_rfl

theorem impl_system_clear_v2.b0_eq {ρ : Type} (N : Nat) (K : AV → Heap → Option ρ) (L0 : St → Option ρ) (at0 : Int) (c1 : Int) (gv2 : Nat → Int) (gv3 : Nat → Int) (gv4 : Nat) (gv5 : Nat) (gv6 : Nat) (gv7 : Nat) (gv8 : Nat → Nat) (gv9 : Nat → Nat) (gv10 : Nat → Int) (gv11 : Nat → Int) (rv12 : Int) (x13 : Int) (gv14 : Nat → Int) :
    xcode (E31 N) ents impl_system_clear_v2.kp 7 N (cL (cK (cB (cA (cB (cB impl_system_clear_v2.bd)))))) 0 (impl_system_clear_v2.st0 at0 c1 gv2 gv3 gv4 gv5 gv6 gv7 gv8 gv9 gv10 rv12 x13 gv14) (roundK impl_system_clear_v2.kp 7 0 L0 (impl_system_clear_v2.k0 N K gv2 gv3 gv4 gv5 gv6 gv7 gv8 gv9 gv10 gv11)) = (impl_system_clear_v2.b0 N (fun d0 d1 => K (.tup []) [⟨false, .flat 2 (.ints .i64 gv2)⟩, ⟨false, .flat 1 (.ints .i64 gv3)⟩, ⟨false, .avs [.slice false 4 0 gv4 .unk 1]⟩, ⟨false, .avs [.slice false 5 0 gv5 .whole 1]⟩, ⟨false, .hdr 6 gv6 gv7 gv8 gv9 none⟩, ⟨true, .flat 0 (.ints .i64 d0)⟩, ⟨true, .flat 0 (.ints .u8 d1)⟩]) (fun x13 gv14 => L0 (impl_system_clear_v2.st0 at0 c1 gv2 gv3 gv4 gv5 gv6 gv7 gv8 gv9 gv10 rv12 x13 gv14)) (fun ov16 => (impl_system_clear_v2.k0 N K gv2 gv3 gv4 gv5 gv6 gv7 gv8 gv9 gv10 gv11) (.exit 0) (impl_system_clear_v2.sx0_0 at0 c1 gv2 gv3 gv4 gv5 gv6 gv7 gv8 gv9 gv10 ov16)) at0 gv2 gv8 gv9 rv12 x13 gv14) := by
  have h := impl_system_clear_v2.b0_gen N K L0 (impl_system_clear_v2.k0 N K gv2 gv3 gv4 gv5 gv6 gv7 gv8 gv9 gv10 gv11) at0 c1 gv2 gv3 gv4 gv5 gv6 gv7 gv8 gv9 gv10 gv11 rv12 x13 gv14
  rw [impl_system_clear_v2.k0_mix] at h
  exact h

theorem impl_system_clear_v2.a0_0_eq {ρ : Type} (N : Nat) (K : AV → Heap → Option ρ) (at0 : Int) (c1 : Int) (gv2 : Nat → Int) (gv3 : Nat → Int) (gv4 : Nat) (gv5 : Nat) (gv6 : Nat) (gv7 : Nat) (gv8 : Nat → Nat) (gv9 : Nat → Nat) (gv10 : Nat → Int) (gv11 : Nat → Int) (ov16 : Nat → Int) :
    (impl_system_clear_v2.k0 N K gv2 gv3 gv4 gv5 gv6 gv7 gv8 gv9 gv10 gv11) (.exit 0) (impl_system_clear_v2.sx0_0 at0 c1 gv2 gv3 gv4 gv5 gv6 gv7 gv8 gv9 gv10 ov16) = (impl_system_clear_v2.a0_0 N (fun d0 d1 => K (.tup []) [⟨false, .flat 2 (.ints .i64 gv2)⟩, ⟨false, .flat 1 (.ints .i64 gv3)⟩, ⟨false, .avs [.slice false 4 0 gv4 .unk 1]⟩, ⟨false, .avs [.slice false 5 0 gv5 .whole 1]⟩, ⟨false, .hdr 6 gv6 gv7 gv8 gv9 none⟩, ⟨true, .flat 0 (.ints .i64 d0)⟩, ⟨true, .flat 0 (.ints .u8 d1)⟩]) (fun x17 gv18 => xloop (xcode (E31 N) ents impl_system_clear_v2.kp 7 N (cL (cK (cB (cB (cB (cB impl_system_clear_v2.bd)))))) 2) impl_system_clear_v2.kp 7 2 N (impl_system_clear_v2.st1 at0 c1 gv2 gv3 gv4 gv5 gv6 gv7 gv8 gv9 gv10 x17 gv18) (impl_system_clear_v2.k1 N K gv2 gv3 gv4 gv5 gv6 gv7 gv8 gv9 gv10 gv11)) ov16) := by kernel_rfl

theorem impl_system_clear_v2.l2_eq {ρ : Type} (N : Nat) (K : AV → Heap → Option ρ) (L1 : St → Option ρ) (at0 : Int) (c1 : Int) (gv2 : Nat → Int) (gv3 : Nat → Int) (gv4 : Nat) (gv5 : Nat) (gv6 : Nat) (gv7 : Nat) (gv8 : Nat → Nat) (gv9 : Nat → Nat) (gv10 : Nat → Int) (gv11 : Nat → Int) (x17 : Int) (gv18 : Nat → Int) :
    ∀ (m : Nat) (x19 : Int) (gv20 : Nat → Int), xloop (xcode (E31 N) ents impl_system_clear_v2.kp 7 N (cL (cK (cB (cB (cB (cB (cK (cA (cB (cB (cL (cK (cB (cB (cB (cB impl_system_clear_v2.bd)))))))))))))))) 4) impl_system_clear_v2.kp 7 4 m (impl_system_clear_v2.st2 at0 c1 gv2 gv3 gv4 gv5 gv6 gv7 gv8 gv9 gv10 x17 gv18 x19 gv20) (impl_system_clear_v2.k2g N L1 (impl_system_clear_v2.k1 N K gv2 gv3 gv4 gv5 gv6 gv7 gv8 gv9 gv10 gv11)) = (impl_system_clear_v2.l2 N (fun d0 d1 => K (.tup []) [⟨false, .flat 2 (.ints .i64 gv2)⟩, ⟨false, .flat 1 (.ints .i64 gv3)⟩, ⟨false, .avs [.slice false 4 0 gv4 .unk 1]⟩, ⟨false, .avs [.slice false 5 0 gv5 .whole 1]⟩, ⟨false, .hdr 6 gv6 gv7 gv8 gv9 none⟩, ⟨true, .flat 0 (.ints .i64 d0)⟩, ⟨true, .flat 0 (.ints .u8 d1)⟩]) at0 c1 gv2 gv8 gv9 x17 gv18 (fun ov22 => (impl_system_clear_v2.k2g N L1 (impl_system_clear_v2.k1 N K gv2 gv3 gv4 gv5 gv6 gv7 gv8 gv9 gv10 gv11)) (.exit 4) (impl_system_clear_v2.sx2_0 at0 c1 gv2 gv3 gv4 gv5 gv6 gv7 gv8 gv9 gv10 x17 ov22)) m x19 gv20) := by
  intro m
  induction m with
  | zero => intros; rfl
  | succ m ih =>
    intro x19 gv20
    refine (impl_system_clear_v2.b2_eq N K L1 (fun s => xloop (xcode (E31 N) ents impl_system_clear_v2.kp 7 N (cL (cK (cB (cB (cB (cB (cK (cA (cB (cB (cL (cK (cB (cB (cB (cB impl_system_clear_v2.bd)))))))))))))))) 4) impl_system_clear_v2.kp 7 4 m s (impl_system_clear_v2.k2g N L1 (impl_system_clear_v2.k1 N K gv2 gv3 gv4 gv5 gv6 gv7 gv8 gv9 gv10 gv11))) at0 c1 gv2 gv3 gv4 gv5 gv6 gv7 gv8 gv9 gv10 gv11 x17 gv18 x19 gv20).trans ?_
    simp only [ih]
    kernel_rfl

theorem impl_system_clear_v2.l1_eq {ρ : Type} (N : Nat) (K : AV → Heap → Option ρ) (at0 : Int) (c1 : Int) (gv2 : Nat → Int) (gv3 : Nat → Int) (gv4 : Nat) (gv5 : Nat) (gv6 : Nat) (gv7 : Nat) (gv8 : Nat → Nat) (gv9 : Nat → Nat) (gv10 : Nat → Int) (gv11 : Nat → Int) :
    ∀ (m : Nat) (x17 : Int) (gv18 : Nat → Int), xloop (xcode (E31 N) ents impl_system_clear_v2.kp 7 N (cL (cK (cB (cB (cB (cB impl_system_clear_v2.bd)))))) 2) impl_system_clear_v2.kp 7 2 m (impl_system_clear_v2.st1 at0 c1 gv2 gv3 gv4 gv5 gv6 gv7 gv8 gv9 gv10 x17 gv18) (impl_system_clear_v2.k1 N K gv2 gv3 gv4 gv5 gv6 gv7 gv8 gv9 gv10 gv11) = (impl_system_clear_v2.l1 N (fun d0 d1 => K (.tup []) [⟨false, .flat 2 (.ints .i64 gv2)⟩, ⟨false, .flat 1 (.ints .i64 gv3)⟩, ⟨false, .avs [.slice false 4 0 gv4 .unk 1]⟩, ⟨false, .avs [.slice false 5 0 gv5 .whole 1]⟩, ⟨false, .hdr 6 gv6 gv7 gv8 gv9 none⟩, ⟨true, .flat 0 (.ints .i64 d0)⟩, ⟨true, .flat 0 (.ints .u8 d1)⟩]) at0 c1 gv2 gv4 gv8 gv9 (fun ov23 => (impl_system_clear_v2.k1 N K gv2 gv3 gv4 gv5 gv6 gv7 gv8 gv9 gv10 gv11) (.exit 2) (impl_system_clear_v2.sx1_0 gv2 gv3 gv4 gv5 gv6 gv7 gv8 gv9 gv10 ov23)) m x17 gv18) := by
  intro m
  induction m with
  | zero => intros; rfl
  | succ m ih =>
    intro x17 gv18
    refine (impl_system_clear_v2.b1_eq N K (fun s => xloop (xcode (E31 N) ents impl_system_clear_v2.kp 7 N (cL (cK (cB (cB (cB (cB impl_system_clear_v2.bd)))))) 2) impl_system_clear_v2.kp 7 2 m s (impl_system_clear_v2.k1 N K gv2 gv3 gv4 gv5 gv6 gv7 gv8 gv9 gv10 gv11)) at0 c1 gv2 gv3 gv4 gv5 gv6 gv7 gv8 gv9 gv10 gv11 x17 gv18).trans ?_
    simp only [ih, impl_system_clear_v2.l2_eq, impl_system_clear_v2.a2_0_eq]
    kernel_rfl

theorem impl_system_clear_v2.l0_eq {ρ : Type} (N : Nat) (K : AV → Heap → Option ρ) (at0 : Int) (c1 : Int) (gv2 : Nat → Int) (gv3 : Nat → Int) (gv4 : Nat) (gv5 : Nat) (gv6 : Nat) (gv7 : Nat) (gv8 : Nat → Nat) (gv9 : Nat → Nat) (gv10 : Nat → Int) (gv11 : Nat → Int) (rv12 : Int) :
    ∀ (m : Nat) (x13 : Int) (gv14 : Nat → Int), xloop (xcode (E31 N) ents impl_system_clear_v2.kp 7 N (cL (cK (cB (cA (cB (cB impl_system_clear_v2.bd)))))) 0) impl_system_clear_v2.kp 7 0 m (impl_system_clear_v2.st0 at0 c1 gv2 gv3 gv4 gv5 gv6 gv7 gv8 gv9 gv10 rv12 x13 gv14) (impl_system_clear_v2.k0 N K gv2 gv3 gv4 gv5 gv6 gv7 gv8 gv9 gv10 gv11) = (impl_system_clear_v2.l0 N (fun d0 d1 => K (.tup []) [⟨false, .flat 2 (.ints .i64 gv2)⟩, ⟨false, .flat 1 (.ints .i64 gv3)⟩, ⟨false, .avs [.slice false 4 0 gv4 .unk 1]⟩, ⟨false, .avs [.slice false 5 0 gv5 .whole 1]⟩, ⟨false, .hdr 6 gv6 gv7 gv8 gv9 none⟩, ⟨true, .flat 0 (.ints .i64 d0)⟩, ⟨true, .flat 0 (.ints .u8 d1)⟩]) at0 gv2 gv8 gv9 rv12 (fun ov16 => (impl_system_clear_v2.k0 N K gv2 gv3 gv4 gv5 gv6 gv7 gv8 gv9 gv10 gv11) (.exit 0) (impl_system_clear_v2.sx0_0 at0 c1 gv2 gv3 gv4 gv5 gv6 gv7 gv8 gv9 gv10 ov16)) m x13 gv14) := by
  intro m
  induction m with
  | zero => intros; rfl
  | succ m ih =>
    intro x13 gv14
    refine (impl_system_clear_v2.b0_eq N K (fun s => xloop (xcode (E31 N) ents impl_system_clear_v2.kp 7 N (cL (cK (cB (cA (cB (cB impl_system_clear_v2.bd)))))) 0) impl_system_clear_v2.kp 7 0 m s (impl_system_clear_v2.k0 N K gv2 gv3 gv4 gv5 gv6 gv7 gv8 gv9 gv10 gv11)) at0 c1 gv2 gv3 gv4 gv5 gv6 gv7 gv8 gv9 gv10 gv11 rv12 x13 gv14).trans ?_
    simp only [ih]
    kernel_rfl

theorem impl_system_clear_v2.s_eq {ρ : Type} (N : Nat) (K : AV → Heap → Option ρ) (at0 : Int) (c1 : Int) (gv2 : Nat → Int) (gv3 : Nat → Int) (gv4 : Nat) (gv5 : Nat) (gv6 : Nat) (gv7 : Nat) (gv8 : Nat → Nat) (gv9 : Nat → Nat) (gv10 : Nat → Int) (gv11 : Nat → Int) :
    xbody (E31 N) ents impl_system_clear_v2.kp N Go.Proofs.Try.f39 impl_system_clear_v2.bd [.sptr [(0, 2), (1, 1), (2, 1), (3, 1)], .int .i64 (at0), .int .i64 (c1)] [⟨false, .flat 2 (.ints .i64 gv2)⟩, ⟨false, .flat 1 (.ints .i64 gv3)⟩, ⟨false, .avs [.slice false 4 0 gv4 .unk 1]⟩, ⟨false, .avs [.slice false 5 0 gv5 .whole 1]⟩, ⟨false, .hdr 6 gv6 gv7 gv8 gv9 none⟩, ⟨true, .flat 0 (.ints .i64 gv10)⟩, ⟨true, .flat 0 (.ints .u8 gv11)⟩] K = (impl_system_clear_v2.s N (fun d0 d1 => K (.tup []) [⟨false, .flat 2 (.ints .i64 gv2)⟩, ⟨false, .flat 1 (.ints .i64 gv3)⟩, ⟨false, .avs [.slice false 4 0 gv4 .unk 1]⟩, ⟨false, .avs [.slice false 5 0 gv5 .whole 1]⟩, ⟨false, .hdr 6 gv6 gv7 gv8 gv9 none⟩, ⟨true, .flat 0 (.ints .i64 d0)⟩, ⟨true, .flat 0 (.ints .u8 d1)⟩]) (fun rv12 x13 gv14 => xloop (xcode (E31 N) ents impl_system_clear_v2.kp 7 N (cL (cK (cB (cA (cB (cB impl_system_clear_v2.bd)))))) 0) impl_system_clear_v2.kp 7 0 N (impl_system_clear_v2.st0 at0 c1 gv2 gv3 gv4 gv5 gv6 gv7 gv8 gv9 gv10 rv12 x13 gv14) (impl_system_clear_v2.k0 N K gv2 gv3 gv4 gv5 gv6 gv7 gv8 gv9 gv10 gv11)) at0 c1 gv2 gv4 gv8 gv9 gv11) := by kernel_rfl

theorem impl_system_clear_v2.eq {ρ : Type} (N : Nat) (K : AV → Heap → Option ρ) (at0 : Int) (c1 : Int) (gv2 : Nat → Int) (gv3 : Nat → Int) (gv4 : Nat) (gv5 : Nat) (gv6 : Nat) (gv7 : Nat) (gv8 : Nat → Nat) (gv9 : Nat → Nat) (gv10 : Nat → Int) (gv11 : Nat → Int) :
    xbody (E31 N) ents impl_system_clear_v2.kp N Go.Proofs.Try.f39 impl_system_clear_v2.bd [.sptr [(0, 2), (1, 1), (2, 1), (3, 1)], .int .i64 (at0), .int .i64 (c1)] [⟨false, .flat 2 (.ints .i64 gv2)⟩, ⟨false, .flat 1 (.ints .i64 gv3)⟩, ⟨false, .avs [.slice false 4 0 gv4 .unk 1]⟩, ⟨false, .avs [.slice false 5 0 gv5 .whole 1]⟩, ⟨false, .hdr 6 gv6 gv7 gv8 gv9 none⟩, ⟨true, .flat 0 (.ints .i64 gv10)⟩, ⟨true, .flat 0 (.ints .u8 gv11)⟩] K = (impl_system_clear_v2 N (fun d0 d1 => K (.tup []) [⟨false, .flat 2 (.ints .i64 gv2)⟩, ⟨false, .flat 1 (.ints .i64 gv3)⟩, ⟨false, .avs [.slice false 4 0 gv4 .unk 1]⟩, ⟨false, .avs [.slice false 5 0 gv5 .whole 1]⟩, ⟨false, .hdr 6 gv6 gv7 gv8 gv9 none⟩, ⟨true, .flat 0 (.ints .i64 d0)⟩, ⟨true, .flat 0 (.ints .u8 d1)⟩]) at0 c1 gv2 gv3 gv4 gv5 gv6 gv7 gv8 gv9 gv10 gv11) := by
  refine (impl_system_clear_v2.s_eq N K at0 c1 gv2 gv3 gv4 gv5 gv6 gv7 gv8 gv9 gv10 gv11).trans ?_
  simp only [impl_system_clear_v2.l0_eq, impl_system_clear_v2.a0_0_eq, impl_system_clear_v2.l1_eq, impl_system_clear_v2.a1_0_eq]
  kernel_rfl

noncomputable def impl_system_clear_v2.en (N : Nat) (ρ : Type) : List AV → Heap → (AV → Heap → Option ρ) → Option ρ
  | [.sptr [(0, 2), (1, 1), (2, 1), (3, 1)], .int .i64 (at0), .int .i64 (c1)], [⟨false, .flat 2 (.ints .i64 gv2)⟩, ⟨false, .flat 1 (.ints .i64 gv3)⟩, ⟨false, .avs [.slice false 4 0 gv4 .unk 1]⟩, ⟨false, .avs [.slice false 5 0 gv5 .whole 1]⟩, ⟨false, .hdr 6 gv6 gv7 gv8 gv9 none⟩, ⟨true, .flat 0 (.ints .i64 gv10)⟩, ⟨true, .flat 0 (.ints .u8 gv11)⟩], K => (impl_system_clear_v2 N (fun d0 d1 => K (.tup []) [⟨false, .flat 2 (.ints .i64 gv2)⟩, ⟨false, .flat 1 (.ints .i64 gv3)⟩, ⟨false, .avs [.slice false 4 0 gv4 .unk 1]⟩, ⟨false, .avs [.slice false 5 0 gv5 .whole 1]⟩, ⟨false, .hdr 6 gv6 gv7 gv8 gv9 none⟩, ⟨true, .flat 0 (.ints .i64 d0)⟩, ⟨true, .flat 0 (.ints .u8 d1)⟩]) at0 c1 gv2 gv3 gv4 gv5 gv6 gv7 gv8 gv9 gv10 gv11)
  | _, _, _ => none

theorem impl_system_clear_v2.en_ok (N : Nat) (hE : EnvOk (E31 N) ents) (ρ : Type) (args : List AV) (sh : Heap) (K : AV → Heap → Option ρ) (r : ρ) (h : impl_system_clear_v2.en N ρ args sh K = some r) : ∃ v sh', K v sh' = some r ∧ FnOk (E31 N).P 39 args sh v sh' := by
  unfold impl_system_clear_v2.en at h
  split at h
  · exact fn_ok hE (kp := impl_system_clear_v2.kp) (N := N) Go.Proofs.Try.func39 (c := impl_system_clear_v2.bd) (by kernel_rfl) ((impl_system_clear_v2.eq N _ _ _ _ _ _ _ _ _ _ _ _ _).trans h)
  · cases h

noncomputable def E32 (N : Nat) : Env := (E31 N).add 39 (impl_system_clear_v2.en N)

theorem E32_ok (N : Nat) : EnvOk (E32 N) ents := Env.add_ok (E31_ok N) (impl_system_clear_v2.en_ok N (E31_ok N))

noncomputable def slices_ContainsFunc_suhf.kp : Keeps := ⟨[], [], []⟩

noncomputable def slices_ContainsFunc_suhf.bd : Code := bodyOf Go.Proofs.Try.f40

noncomputable def slices_ContainsFunc_suhf.fin {ρ : Type} (N : Nat) (K : AV → Heap → Option ρ) (gv1 : Nat) (gv2 : Nat) (gv3 : Nat → Nat) (gv4 : Nat → Nat) (gv5 : Nat → Int) (gv6 : Nat → Int) (gv7 : Nat → Int) (gv8 : Nat) (gv9 : Nat) (gv10 : Nat) (gv11 : Nat) (gv12 : Nat → Nat) (gv13 : Nat → Nat) (gv14 : Nat) (gv15 : Nat → Int) : XE → St → Option ρ := finK (E32 N) slices_ContainsFunc_suhf.kp.fins Go.Proofs.Try.f40 [⟨false, .hdr 2 gv1 gv2 gv3 gv4 none⟩, ⟨false, .avs [.sptr [(3, 2), (4, 1), (5, 1), (6, 1)]]⟩, ⟨false, .flat 0 (.ints .u8 gv5)⟩, ⟨false, .flat 2 (.ints .i64 gv6)⟩, ⟨false, .flat 1 (.ints .i64 gv7)⟩, ⟨false, .avs [.slice false 7 0 gv8 .unk 1]⟩, ⟨false, .avs [.slice false 8 0 gv9 .unk 1]⟩, ⟨false, .hdr 2 gv10 gv11 gv12 gv13 none⟩, ⟨false, .flat gv14 (.ints .i64 gv15)⟩] K

theorem slices_ContainsFunc_suhf.eq {ρ : Type} (N : Nat) (K : AV → Heap → Option ρ) (s0 : Nat) (gv1 : Nat) (gv2 : Nat) (gv3 : Nat → Nat) (gv4 : Nat → Nat) (gv5 : Nat → Int) (gv6 : Nat → Int) (gv7 : Nat → Int) (gv8 : Nat) (gv9 : Nat) (gv10 : Nat) (gv11 : Nat) (gv12 : Nat → Nat) (gv13 : Nat → Nat) (gv14 : Nat) (gv15 : Nat → Int) :
    xbody (E32 N) ents slices_ContainsFunc_suhf.kp N Go.Proofs.Try.f40 slices_ContainsFunc_suhf.bd [.slice false 0 0 s0 .unk 1, .fn 41 0 [[(1, 1)]]] [⟨false, .hdr 2 gv1 gv2 gv3 gv4 none⟩, ⟨false, .avs [.sptr [(3, 2), (4, 1), (5, 1), (6, 1)]]⟩, ⟨false, .flat 0 (.ints .u8 gv5)⟩, ⟨false, .flat 2 (.ints .i64 gv6)⟩, ⟨false, .flat 1 (.ints .i64 gv7)⟩, ⟨false, .avs [.slice false 7 0 gv8 .unk 1]⟩, ⟨false, .avs [.slice false 8 0 gv9 .unk 1]⟩, ⟨false, .hdr 2 gv10 gv11 gv12 gv13 none⟩, ⟨false, .flat gv14 (.ints .i64 gv15)⟩] K = (slices_ContainsFunc_suhf N (fun d0 => K (.bool (d0)) [⟨false, .hdr 2 gv1 gv2 gv3 gv4 none⟩, ⟨false, .avs [.sptr [(3, 2), (4, 1), (5, 1), (6, 1)]]⟩, ⟨false, .flat 0 (.ints .u8 gv5)⟩, ⟨false, .flat 2 (.ints .i64 gv6)⟩, ⟨false, .flat 1 (.ints .i64 gv7)⟩, ⟨false, .avs [.slice false 7 0 gv8 .unk 1]⟩, ⟨false, .avs [.slice false 8 0 gv9 .unk 1]⟩, ⟨false, .hdr 2 gv10 gv11 gv12 gv13 none⟩, ⟨false, .flat gv14 (.ints .i64 gv15)⟩]) s0 gv1 gv2 gv3 gv4 gv5 gv6 gv7 gv8 gv9 gv10 gv11 gv12 gv13 gv14 gv15) := by kernel_rfl

noncomputable def slices_ContainsFunc_nf_v2.kp : Keeps := ⟨[], [], []⟩

noncomputable def slices_ContainsFunc_nf_v2.bd : Code := bodyOf Go.Proofs.Try.f40

noncomputable def slices_ContainsFunc_nf_v2.fin {ρ : Type} (N : Nat) (K : AV → Heap → Option ρ) (gv0 : Nat → Int) (gv1 : Nat → Int) : XE → St → Option ρ := finK (E32 N) slices_ContainsFunc_nf_v2.kp.fins Go.Proofs.Try.f40 [⟨false, .avs [.sptr [(1, 2), (2, 1), (3, 1), (4, 1)]]⟩, ⟨false, .flat 2 (.ints .i64 gv0)⟩, ⟨false, .flat 1 (.ints .i64 gv1)⟩, ⟨false, .avs [.nils]⟩, ⟨false, .avs [.nils]⟩] K

theorem slices_ContainsFunc_nf_v2.eq {ρ : Type} (N : Nat) (K : AV → Heap → Option ρ) (gv0 : Nat → Int) (gv1 : Nat → Int) :
    xbody (E32 N) ents slices_ContainsFunc_nf_v2.kp N Go.Proofs.Try.f40 slices_ContainsFunc_nf_v2.bd [.nils, .fn 41 0 [[(0, 1)]]] [⟨false, .avs [.sptr [(1, 2), (2, 1), (3, 1), (4, 1)]]⟩, ⟨false, .flat 2 (.ints .i64 gv0)⟩, ⟨false, .flat 1 (.ints .i64 gv1)⟩, ⟨false, .avs [.nils]⟩, ⟨false, .avs [.nils]⟩] K = (slices_ContainsFunc_nf_v2 N (fun d0 => K (.bool (d0)) [⟨false, .avs [.sptr [(1, 2), (2, 1), (3, 1), (4, 1)]]⟩, ⟨false, .flat 2 (.ints .i64 gv0)⟩, ⟨false, .flat 1 (.ints .i64 gv1)⟩, ⟨false, .avs [.nils]⟩, ⟨false, .avs [.nils]⟩]) gv0 gv1) := by kernel_rfl

noncomputable def slices_ContainsFunc_suhf.en (N : Nat) (ρ : Type) : List AV → Heap → (AV → Heap → Option ρ) → Option ρ
  | [.slice false 0 0 s0 .unk 1, .fn 41 0 [[(1, 1)]]], [⟨false, .hdr 2 gv1 gv2 gv3 gv4 none⟩, ⟨false, .avs [.sptr [(3, 2), (4, 1), (5, 1), (6, 1)]]⟩, ⟨false, .flat 0 (.ints .u8 gv5)⟩, ⟨false, .flat 2 (.ints .i64 gv6)⟩, ⟨false, .flat 1 (.ints .i64 gv7)⟩, ⟨false, .avs [.slice false 7 0 gv8 .unk 1]⟩, ⟨false, .avs [.slice false 8 0 gv9 .unk 1]⟩, ⟨false, .hdr 2 gv10 gv11 gv12 gv13 none⟩, ⟨false, .flat gv14 (.ints .i64 gv15)⟩], K => (slices_ContainsFunc_suhf N (fun d0 => K (.bool (d0)) [⟨false, .hdr 2 gv1 gv2 gv3 gv4 none⟩, ⟨false, .avs [.sptr [(3, 2), (4, 1), (5, 1), (6, 1)]]⟩, ⟨false, .flat 0 (.ints .u8 gv5)⟩, ⟨false, .flat 2 (.ints .i64 gv6)⟩, ⟨false, .flat 1 (.ints .i64 gv7)⟩, ⟨false, .avs [.slice false 7 0 gv8 .unk 1]⟩, ⟨false, .avs [.slice false 8 0 gv9 .unk 1]⟩, ⟨false, .hdr 2 gv10 gv11 gv12 gv13 none⟩, ⟨false, .flat gv14 (.ints .i64 gv15)⟩]) s0 gv1 gv2 gv3 gv4 gv5 gv6 gv7 gv8 gv9 gv10 gv11 gv12 gv13 gv14 gv15)
  | [.nils, .fn 41 0 [[(0, 1)]]], [⟨false, .avs [.sptr [(1, 2), (2, 1), (3, 1), (4, 1)]]⟩, ⟨false, .flat 2 (.ints .i64 gv0)⟩, ⟨false, .flat 1 (.ints .i64 gv1)⟩, ⟨false, .avs [.nils]⟩, ⟨false, .avs [.nils]⟩], K => (slices_ContainsFunc_nf_v2 N (fun d0 => K (.bool (d0)) [⟨false, .avs [.sptr [(1, 2), (2, 1), (3, 1), (4, 1)]]⟩, ⟨false, .flat 2 (.ints .i64 gv0)⟩, ⟨false, .flat 1 (.ints .i64 gv1)⟩, ⟨false, .avs [.nils]⟩, ⟨false, .avs [.nils]⟩]) gv0 gv1)
  | _, _, _ => none

theorem slices_ContainsFunc_suhf.en_ok (N : Nat) (hE : EnvOk (E32 N) ents) (ρ : Type) (args : List AV) (sh : Heap) (K : AV → Heap → Option ρ) (r : ρ) (h : slices_ContainsFunc_suhf.en N ρ args sh K = some r) : ∃ v sh', K v sh' = some r ∧ FnOk (E32 N).P 40 args sh v sh' := by
  unfold slices_ContainsFunc_suhf.en at h
  split at h
  · exact fn_ok hE (kp := slices_ContainsFunc_suhf.kp) (N := N) Go.Proofs.Try.func40 (c := slices_ContainsFunc_suhf.bd) (by kernel_rfl) ((slices_ContainsFunc_suhf.eq N _ _ _ _ _ _ _ _ _ _ _ _ _ _ _ _ _).trans h)
  · exact fn_ok hE (kp := slices_ContainsFunc_nf_v2.kp) (N := N) Go.Proofs.Try.func40 (c := slices_ContainsFunc_nf_v2.bd) (by kernel_rfl) ((slices_ContainsFunc_nf_v2.eq N _ _ _).trans h)
  · cases h

noncomputable def E33 (N : Nat) : Env := (E32 N).add 40 (slices_ContainsFunc_suhf.en N)

theorem E33_ok (N : Nat) : EnvOk (E33 N) ents := Env.add_ok (E32_ok N) (slices_ContainsFunc_suhf.en_ok N (E32_ok N))

noncomputable def impl_system_solve.kp : Keeps := ⟨[(0, [1, 3, 4], [], [(.cell 3 0, .whole false (.ints .i64 (fun _ => 0)) 1)])], [(0, [1, 3], [], [])], []⟩

noncomputable def impl_system_solve.bd : Code := bodyOf Go.Proofs.Try.f29

noncomputable def impl_system_solve.fin {ρ : Type} (N : Nat) (K : AV → Heap → Option ρ) (gv0 : Nat → Int) (gv1 : Nat → Int) (gv2 : Nat) (gv3 : Nat) (gv4 : Nat → Nat) (gv5 : Nat → Nat) (gv6 : Nat → Int) : XE → St → Option ρ := finK (E33 N) impl_system_solve.kp.fins Go.Proofs.Try.f29 [⟨false, .flat 2 (.ints .i64 gv0)⟩, ⟨false, .flat 1 (.ints .i64 gv1)⟩, ⟨true, .avs [.slice false 4 0 gv2 .whole 1]⟩, ⟨true, .avs [.nils]⟩, ⟨true, .hdr 5 0 gv3 gv4 gv5 none⟩, ⟨true, .flat 0 (.ints .u8 gv6)⟩] K

noncomputable def impl_system_solve.k0 {ρ : Type} (N : Nat) (K : AV → Heap → Option ρ) (gv0 : Nat → Int) (gv1 : Nat → Int) (gv2 : Nat) (gv3 : Nat) (gv4 : Nat → Nat) (gv5 : Nat → Nat) (gv6 : Nat → Int) : XE → St → Option ρ := (blockK impl_system_solve.kp 6 0 (seqK (xcode (E33 N) ents impl_system_solve.kp 6 N (cB (cB (cB (cB impl_system_solve.bd)))) 0) (impl_system_solve.fin N K gv0 gv1 gv2 gv3 gv4 gv5 gv6)))

theorem impl_system_solve.k0_mix {ρ : Type} (N : Nat) (K : AV → Heap → Option ρ) (gv0 : Nat → Int) (gv1 : Nat → Int) (gv2 : Nat) (gv3 : Nat) (gv4 : Nat → Nat) (gv5 : Nat → Nat) (gv6 : Nat → Int) : mixK (impl_system_solve.fin N K gv0 gv1 gv2 gv3 gv4 gv5 gv6 .ret) (impl_system_solve.k0 N K gv0 gv1 gv2 gv3 gv4 gv5 gv6) = (impl_system_solve.k0 N K gv0 gv1 gv2 gv3 gv4 gv5 gv6) := by
  funext e s; cases e <;> kernel_rfl

noncomputable def impl_system_solve.st0 (gv0 : Nat → Int) (gv1 : Nat → Int) (gv2 : Nat) (gv3 : Nat) (done7 : Int) (gv8 : Nat) (gv9 : Nat → Nat) (gv10 : Nat → Nat) (gv11 : Nat → Int) (gv12 : Nat → Int) (gv13 : Nat → Int) : St := ⟨sl 103 [(1, .sptr [(6, 1)]), (3, .int .i64 (done7)), (4, .sptr [(7, 1)])], [⟨false, .flat 2 (.ints .i64 gv0)⟩, ⟨false, .flat 1 (.ints .i64 gv1)⟩, ⟨true, .avs [.slice false 4 0 gv2 .whole 1]⟩, ⟨true, .avs [.slice false 8 0 gv8 .whole 1]⟩, ⟨true, .hdr 5 0 gv3 gv9 gv10 none⟩, ⟨true, .flat 0 (.ints .u8 gv11)⟩, ⟨true, .avs [.sptr [(0, 2), (1, 1), (2, 1), (3, 1)]]⟩, ⟨true, .flat 1 (.ints .i64 gv12)⟩, ⟨true, .flat 0 (.ints .i64 gv13)⟩]⟩

noncomputable def impl_system_solve.sx0_0 (gv0 : Nat → Int) (gv1 : Nat → Int) (gv2 : Nat) (gv3 : Nat) (ov17 : Int) (ov18 : Nat) (ov19 : Nat → Nat) (ov20 : Nat → Nat) (ov21 : Nat → Int) (ov22 : Nat → Int) : St := ⟨sl 103 [(1, .sptr [(6, 1)]), (3, .int .i64 (ov17))], [⟨false, .flat 2 (.ints .i64 gv0)⟩, ⟨false, .flat 1 (.ints .i64 gv1)⟩, ⟨true, .avs [.slice false 4 0 gv2 .whole 1]⟩, ⟨true, .avs [.slice false 7 0 ov18 .whole 1]⟩, ⟨true, .hdr 5 0 gv3 ov19 ov20 none⟩, ⟨true, .flat 0 (.ints .u8 ov21)⟩, ⟨true, .avs [.sptr [(0, 2), (1, 1), (2, 1), (3, 1)]]⟩, ⟨true, .flat 0 (.ints .i64 ov22)⟩]⟩

theorem impl_system_solve.b0_gen {ρ : Type} (N : Nat) (K : AV → Heap → Option ρ) (L0 : St → Option ρ) (kv : XE → St → Option ρ) (gv0 : Nat → Int) (gv1 : Nat → Int) (gv2 : Nat) (gv3 : Nat) (gv4 : Nat → Nat) (gv5 : Nat → Nat) (gv6 : Nat → Int) (done7 : Int) (gv8 : Nat) (gv9 : Nat → Nat) (gv10 : Nat → Nat) (gv11 : Nat → Int) (gv12 : Nat → Int) (gv13 : Nat → Int) :
    xcode (E33 N) ents impl_system_solve.kp 6 N (cL (cK (cB (cA (cB (cB (cB impl_system_solve.bd))))))) 0 (impl_system_solve.st0 gv0 gv1 gv2 gv3 done7 gv8 gv9 gv10 gv11 gv12 gv13) (roundK impl_system_solve.kp 6 0 L0 (mixK (impl_system_solve.fin N K gv0 gv1 gv2 gv3 gv4 gv5 gv6 .ret) kv)) = (impl_system_solve.b0 N (fun d0 d1 d2 d3 d4 d5 d6 d7 => K (.bool (d0)) [⟨false, .flat 2 (.ints .i64 gv0)⟩, ⟨false, .flat 1 (.ints .i64 gv1)⟩, ⟨true, .avs [.slice false 4 0 d1 .unk 1]⟩, ⟨true, .avs [.slice false 6 0 d2 .whole 1]⟩, ⟨true, .hdr 5 0 d3 d4 d5 none⟩, ⟨true, .flat 0 (.ints .u8 d6)⟩, ⟨true, .flat 0 (.ints .i64 d7)⟩]) (fun done7 gv8 gv9 gv10 gv11 gv12 gv13 => L0 (impl_system_solve.st0 gv0 gv1 gv2 gv3 done7 gv8 gv9 gv10 gv11 gv12 gv13)) (fun ov17 ov18 ov19 ov20 ov21 ov22 => kv (.exit 0) (impl_system_solve.sx0_0 gv0 gv1 gv2 gv3 ov17 ov18 ov19 ov20 ov21 ov22)) gv0 gv1 gv2 gv3 done7 gv8 gv9 gv10 gv11 gv12 gv13) := by kernel_rfl

theorem impl_system_solve.b0_eq {ρ : Type} (N : Nat) (K : AV → Heap → Option ρ) (L0 : St → Option ρ) (gv0 : Nat → Int) (gv1 : Nat → Int) (gv2 : Nat) (gv3 : Nat) (gv4 : Nat → Nat) (gv5 : Nat → Nat) (gv6 : Nat → Int) (done7 : Int) (gv8 : Nat) (gv9 : Nat → Nat) (gv10 : Nat → Nat) (gv11 : Nat → Int) (gv12 : Nat → Int) (gv13 : Nat → Int) :
    xcode (E33 N) ents impl_system_solve.kp 6 N (cL (cK (cB (cA (cB (cB (cB impl_system_solve.bd))))))) 0 (impl_system_solve.st0 gv0 gv1 gv2 gv3 done7 gv8 gv9 gv10 gv11 gv12 gv13) (roundK impl_system_solve.kp 6 0 L0 (impl_system_solve.k0 N K gv0 gv1 gv2 gv3 gv4 gv5 gv6)) = (impl_system_solve.b0 N (fun d0 d1 d2 d3 d4 d5 d6 d7 => K (.bool (d0)) [⟨false, .flat 2 (.ints .i64 gv0)⟩, ⟨false, .flat 1 (.ints .i64 gv1)⟩, ⟨true, .avs [.slice false 4 0 d1 .unk 1]⟩, ⟨true, .avs [.slice false 6 0 d2 .whole 1]⟩, ⟨true, .hdr 5 0 d3 d4 d5 none⟩, ⟨true, .flat 0 (.ints .u8 d6)⟩, ⟨true, .flat 0 (.ints .i64 d7)⟩]) (fun done7 gv8 gv9 gv10 gv11 gv12 gv13 => L0 (impl_system_solve.st0 gv0 gv1 gv2 gv3 done7 gv8 gv9 gv10 gv11 gv12 gv13)) (fun ov17 ov18 ov19 ov20 ov21 ov22 => (impl_system_solve.k0 N K gv0 gv1 gv2 gv3 gv4 gv5 gv6) (.exit 0) (impl_system_solve.sx0_0 gv0 gv1 gv2 gv3 ov17 ov18 ov19 ov20 ov21 ov22)) gv0 gv1 gv2 gv3 done7 gv8 gv9 gv10 gv11 gv12 gv13) := by
  have h := impl_system_solve.b0_gen N K L0 (impl_system_solve.k0 N K gv0 gv1 gv2 gv3 gv4 gv5 gv6) gv0 gv1 gv2 gv3 gv4 gv5 gv6 done7 gv8 gv9 gv10 gv11 gv12 gv13
  rw [impl_system_solve.k0_mix] at h
  exact h

theorem impl_system_solve.a0_0_eq {ρ : Type} (N : Nat) (K : AV → Heap → Option ρ) (gv0 : Nat → Int) (gv1 : Nat → Int) (gv2 : Nat) (gv3 : Nat) (gv4 : Nat → Nat) (gv5 : Nat → Nat) (gv6 : Nat → Int) (ov17 : Int) (ov18 : Nat) (ov19 : Nat → Nat) (ov20 : Nat → Nat) (ov21 : Nat → Int) (ov22 : Nat → Int) :
    (impl_system_solve.k0 N K gv0 gv1 gv2 gv3 gv4 gv5 gv6) (.exit 0) (impl_system_solve.sx0_0 gv0 gv1 gv2 gv3 ov17 ov18 ov19 ov20 ov21 ov22) = (impl_system_solve.a0_0 N (fun d0 d1 d2 d3 d4 d5 d6 d7 => K (.bool (d0)) [⟨false, .flat 2 (.ints .i64 gv0)⟩, ⟨false, .flat 1 (.ints .i64 gv1)⟩, ⟨true, .avs [.slice false 4 0 d1 .unk 1]⟩, ⟨true, .avs [.slice false 6 0 d2 .whole 1]⟩, ⟨true, .hdr 5 0 d3 d4 d5 none⟩, ⟨true, .flat 0 (.ints .u8 d6)⟩, ⟨true, .flat 0 (.ints .i64 d7)⟩]) gv0 gv1 gv2 gv3 ov17 ov18 ov19 ov20 ov21 ov22) := by kernel_rfl

theorem impl_system_solve.l0_eq {ρ : Type} (N : Nat) (K : AV → Heap → Option ρ) (gv0 : Nat → Int) (gv1 : Nat → Int) (gv2 : Nat) (gv3 : Nat) (gv4 : Nat → Nat) (gv5 : Nat → Nat) (gv6 : Nat → Int) :
    ∀ (m : Nat) (done7 : Int) (gv8 : Nat) (gv9 : Nat → Nat) (gv10 : Nat → Nat) (gv11 : Nat → Int) (gv12 : Nat → Int) (gv13 : Nat → Int), xloop (xcode (E33 N) ents impl_system_solve.kp 6 N (cL (cK (cB (cA (cB (cB (cB impl_system_solve.bd))))))) 0) impl_system_solve.kp 6 0 m (impl_system_solve.st0 gv0 gv1 gv2 gv3 done7 gv8 gv9 gv10 gv11 gv12 gv13) (impl_system_solve.k0 N K gv0 gv1 gv2 gv3 gv4 gv5 gv6) = (impl_system_solve.l0 N (fun d0 d1 d2 d3 d4 d5 d6 d7 => K (.bool (d0)) [⟨false, .flat 2 (.ints .i64 gv0)⟩, ⟨false, .flat 1 (.ints .i64 gv1)⟩, ⟨true, .avs [.slice false 4 0 d1 .unk 1]⟩, ⟨true, .avs [.slice false 6 0 d2 .whole 1]⟩, ⟨true, .hdr 5 0 d3 d4 d5 none⟩, ⟨true, .flat 0 (.ints .u8 d6)⟩, ⟨true, .flat 0 (.ints .i64 d7)⟩]) gv0 gv1 gv2 gv3 (fun ov17 ov18 ov19 ov20 ov21 ov22 => (impl_system_solve.k0 N K gv0 gv1 gv2 gv3 gv4 gv5 gv6) (.exit 0) (impl_system_solve.sx0_0 gv0 gv1 gv2 gv3 ov17 ov18 ov19 ov20 ov21 ov22)) m done7 gv8 gv9 gv10 gv11 gv12 gv13) := by
  intro m
  induction m with
  | zero => intros; rfl
  | succ m ih =>
    intro done7 gv8 gv9 gv10 gv11 gv12 gv13
    refine (impl_system_solve.b0_eq N K (fun s => xloop (xcode (E33 N) ents impl_system_solve.kp 6 N (cL (cK (cB (cA (cB (cB (cB impl_system_solve.bd))))))) 0) impl_system_solve.kp 6 0 m s (impl_system_solve.k0 N K gv0 gv1 gv2 gv3 gv4 gv5 gv6)) gv0 gv1 gv2 gv3 gv4 gv5 gv6 done7 gv8 gv9 gv10 gv11 gv12 gv13).trans ?_
    simp only [ih]
    kernel_rfl

theorem impl_system_solve.s_eq {ρ : Type} (N : Nat) (K : AV → Heap → Option ρ) (gv0 : Nat → Int) (gv1 : Nat → Int) (gv2 : Nat) (gv3 : Nat) (gv4 : Nat → Nat) (gv5 : Nat → Nat) (gv6 : Nat → Int) :
    xbody (E33 N) ents impl_system_solve.kp N Go.Proofs.Try.f29 impl_system_solve.bd [.sptr [(0, 2), (1, 1), (2, 1), (3, 1)]] [⟨false, .flat 2 (.ints .i64 gv0)⟩, ⟨false, .flat 1 (.ints .i64 gv1)⟩, ⟨true, .avs [.slice false 4 0 gv2 .whole 1]⟩, ⟨true, .avs [.nils]⟩, ⟨true, .hdr 5 0 gv3 gv4 gv5 none⟩, ⟨true, .flat 0 (.ints .u8 gv6)⟩] K = (impl_system_solve.s N (fun d0 d1 d2 d3 d4 d5 d6 d7 => K (.bool (d0)) [⟨false, .flat 2 (.ints .i64 gv0)⟩, ⟨false, .flat 1 (.ints .i64 gv1)⟩, ⟨true, .avs [.slice false 4 0 d1 .unk 1]⟩, ⟨true, .avs [.slice false 6 0 d2 .whole 1]⟩, ⟨true, .hdr 5 0 d3 d4 d5 none⟩, ⟨true, .flat 0 (.ints .u8 d6)⟩, ⟨true, .flat 0 (.ints .i64 d7)⟩]) (fun done7 gv8 gv9 gv10 gv11 gv12 gv13 => xloop (xcode (E33 N) ents impl_system_solve.kp 6 N (cL (cK (cB (cA (cB (cB (cB impl_system_solve.bd))))))) 0) impl_system_solve.kp 6 0 N (impl_system_solve.st0 gv0 gv1 gv2 gv3 done7 gv8 gv9 gv10 gv11 gv12 gv13) (impl_system_solve.k0 N K gv0 gv1 gv2 gv3 gv4 gv5 gv6)) gv4 gv5 gv6) := by kernel_rfl

theorem impl_system_solve.eq {ρ : Type} (N : Nat) (K : AV → Heap → Option ρ) (gv0 : Nat → Int) (gv1 : Nat → Int) (gv2 : Nat) (gv3 : Nat) (gv4 : Nat → Nat) (gv5 : Nat → Nat) (gv6 : Nat → Int) :
    xbody (E33 N) ents impl_system_solve.kp N Go.Proofs.Try.f29 impl_system_solve.bd [.sptr [(0, 2), (1, 1), (2, 1), (3, 1)]] [⟨false, .flat 2 (.ints .i64 gv0)⟩, ⟨false, .flat 1 (.ints .i64 gv1)⟩, ⟨true, .avs [.slice false 4 0 gv2 .whole 1]⟩, ⟨true, .avs [.nils]⟩, ⟨true, .hdr 5 0 gv3 gv4 gv5 none⟩, ⟨true, .flat 0 (.ints .u8 gv6)⟩] K = (impl_system_solve N (fun d0 d1 d2 d3 d4 d5 d6 d7 => K (.bool (d0)) [⟨false, .flat 2 (.ints .i64 gv0)⟩, ⟨false, .flat 1 (.ints .i64 gv1)⟩, ⟨true, .avs [.slice false 4 0 d1 .unk 1]⟩, ⟨true, .avs [.slice false 6 0 d2 .whole 1]⟩, ⟨true, .hdr 5 0 d3 d4 d5 none⟩, ⟨true, .flat 0 (.ints .u8 d6)⟩, ⟨true, .flat 0 (.ints .i64 d7)⟩]) gv0 gv1 gv2 gv3 gv4 gv5 gv6) := by
  refine (impl_system_solve.s_eq N K gv0 gv1 gv2 gv3 gv4 gv5 gv6).trans ?_
  simp only [impl_system_solve.l0_eq, impl_system_solve.a0_0_eq]
  kernel_rfl
end Go.Proofs.Ytfiopadjbheclaa.H
