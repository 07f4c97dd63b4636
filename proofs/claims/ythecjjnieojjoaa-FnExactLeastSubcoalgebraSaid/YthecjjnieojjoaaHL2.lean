/- The program computes these functions. -/
import Derived.Test.YthecjjnieojjoaaHL1
namespace Go.Proofs.Ythecjjnieojjoaa.H
set_option linter.unusedVariables false
set_option linter.unusedSimpArgs false
open Go Go.RowKit Go.Proofs.Ythecjjnieojjoaa.Hy
set_option linter.unusedVariables false
set_option maxRecDepth 100000
noncomputable def slices_IndexFunc_sf.kp : Keeps := ⟨[(0, [0, 1, 7, 8], [], [])], [(0, [], [], [])], []⟩

noncomputable def slices_IndexFunc_sf.bd : Code := bodyOf Go.Proofs.Try.f146

noncomputable def slices_IndexFunc_sf.fin {ρ : Type} (N : Nat) (K : AV → Heap → Option ρ) (gv2 : Nat) (gv3 : Nat → Int) (gv4 : Nat → Int) (gv5 : Nat → Int) : XE → St → Option ρ := finK (E43 N) slices_IndexFunc_sf.kp.fins Go.Proofs.Try.f146 [⟨false, .flat gv2 (.ints .u8 gv3)⟩, ⟨false, .avs [.sptr [(2, 2), (3, 520)]]⟩, ⟨false, .flat 2 (.ints .i64 gv4)⟩, ⟨false, .flat 520 (.ints .u8 gv5)⟩] K

noncomputable def slices_IndexFunc_sf.k0 {ρ : Type} (N : Nat) (K : AV → Heap → Option ρ) (gv2 : Nat) (gv3 : Nat → Int) (gv4 : Nat → Int) (gv5 : Nat → Int) : XE → St → Option ρ := (blockK slices_IndexFunc_sf.kp 4 0 (seqK (xcode (E43 N) ents slices_IndexFunc_sf.kp 4 N (cB (cB slices_IndexFunc_sf.bd)) 0) (slices_IndexFunc_sf.fin N K gv2 gv3 gv4 gv5)))

theorem slices_IndexFunc_sf.k0_mix {ρ : Type} (N : Nat) (K : AV → Heap → Option ρ) (gv2 : Nat) (gv3 : Nat → Int) (gv4 : Nat → Int) (gv5 : Nat → Int) : mixK (slices_IndexFunc_sf.fin N K gv2 gv3 gv4 gv5 .ret) (slices_IndexFunc_sf.k0 N K gv2 gv3 gv4 gv5) = (slices_IndexFunc_sf.k0 N K gv2 gv3 gv4 gv5) := by
  funext e s; cases e <;> kernel_rfl

noncomputable def slices_IndexFunc_sf.st0 (s0 : Nat) (s1 : Nat) (gv2 : Nat) (gv3 : Nat → Int) (gv4 : Nat → Int) (gv5 : Nat → Int) (x6 : Int) : St := ⟨sl 19 [(0, .slice true 0 0 s0 (.exact s1) 8), (1, .fn 132 0 [[(1, 1)]]), (7, .int .i64 ((s0 : Int))), (8, .int .i64 (x6))], [⟨false, .flat gv2 (.ints .u8 gv3)⟩, ⟨false, .avs [.sptr [(2, 2), (3, 520)]]⟩, ⟨false, .flat 2 (.ints .i64 gv4)⟩, ⟨false, .flat 520 (.ints .u8 gv5)⟩]⟩

noncomputable def slices_IndexFunc_sf.sx0_0 (gv2 : Nat) (gv3 : Nat → Int) (gv4 : Nat → Int) (gv5 : Nat → Int) : St := ⟨sl 19 [], [⟨false, .flat gv2 (.ints .u8 gv3)⟩, ⟨false, .avs [.sptr [(2, 2), (3, 520)]]⟩, ⟨false, .flat 2 (.ints .i64 gv4)⟩, ⟨false, .flat 520 (.ints .u8 gv5)⟩]⟩

theorem slices_IndexFunc_sf.b0_gen {ρ : Type} (N : Nat) (K : AV → Heap → Option ρ) (L0 : St → Option ρ) (kv : XE → St → Option ρ) (s0 : Nat) (s1 : Nat) (gv2 : Nat) (gv3 : Nat → Int) (gv4 : Nat → Int) (gv5 : Nat → Int) (x6 : Int) :
    xcode (E43 N) ents slices_IndexFunc_sf.kp 4 N (cL (cK (cB (cA (cB slices_IndexFunc_sf.bd))))) 0 (slices_IndexFunc_sf.st0 s0 s1 gv2 gv3 gv4 gv5 x6) (roundK slices_IndexFunc_sf.kp 4 0 L0 (mixK (slices_IndexFunc_sf.fin N K gv2 gv3 gv4 gv5 .ret) kv)) = (slices_IndexFunc_sf.b0 N (fun d0 => K (.int .i64 (d0)) [⟨false, .flat gv2 (.ints .u8 gv3)⟩, ⟨false, .avs [.sptr [(2, 2), (3, 520)]]⟩, ⟨false, .flat 2 (.ints .i64 gv4)⟩, ⟨false, .flat 520 (.ints .u8 gv5)⟩]) (fun x6 => L0 (slices_IndexFunc_sf.st0 s0 s1 gv2 gv3 gv4 gv5 x6)) (kv (.exit 0) (slices_IndexFunc_sf.sx0_0 gv2 gv3 gv4 gv5)) s0 gv3 gv4 gv5 x6) := by kernel_rfl

theorem slices_IndexFunc_sf.b0_eq {ρ : Type} (N : Nat) (K : AV → Heap → Option ρ) (L0 : St → Option ρ) (s0 : Nat) (s1 : Nat) (gv2 : Nat) (gv3 : Nat → Int) (gv4 : Nat → Int) (gv5 : Nat → Int) (x6 : Int) :
    xcode (E43 N) ents slices_IndexFunc_sf.kp 4 N (cL (cK (cB (cA (cB slices_IndexFunc_sf.bd))))) 0 (slices_IndexFunc_sf.st0 s0 s1 gv2 gv3 gv4 gv5 x6) (roundK slices_IndexFunc_sf.kp 4 0 L0 (slices_IndexFunc_sf.k0 N K gv2 gv3 gv4 gv5)) = (slices_IndexFunc_sf.b0 N (fun d0 => K (.int .i64 (d0)) [⟨false, .flat gv2 (.ints .u8 gv3)⟩, ⟨false, .avs [.sptr [(2, 2), (3, 520)]]⟩, ⟨false, .flat 2 (.ints .i64 gv4)⟩, ⟨false, .flat 520 (.ints .u8 gv5)⟩]) (fun x6 => L0 (slices_IndexFunc_sf.st0 s0 s1 gv2 gv3 gv4 gv5 x6)) ((slices_IndexFunc_sf.k0 N K gv2 gv3 gv4 gv5) (.exit 0) (slices_IndexFunc_sf.sx0_0 gv2 gv3 gv4 gv5)) s0 gv3 gv4 gv5 x6) := by
  have h := slices_IndexFunc_sf.b0_gen N K L0 (slices_IndexFunc_sf.k0 N K gv2 gv3 gv4 gv5) s0 s1 gv2 gv3 gv4 gv5 x6
  rw [slices_IndexFunc_sf.k0_mix] at h
  exact h

theorem slices_IndexFunc_sf.a0_0_eq {ρ : Type} (N : Nat) (K : AV → Heap → Option ρ) (gv2 : Nat) (gv3 : Nat → Int) (gv4 : Nat → Int) (gv5 : Nat → Int) :
    (slices_IndexFunc_sf.k0 N K gv2 gv3 gv4 gv5) (.exit 0) (slices_IndexFunc_sf.sx0_0 gv2 gv3 gv4 gv5) = (slices_IndexFunc_sf.a0_0 N (fun d0 => K (.int .i64 (d0)) [⟨false, .flat gv2 (.ints .u8 gv3)⟩, ⟨false, .avs [.sptr [(2, 2), (3, 520)]]⟩, ⟨false, .flat 2 (.ints .i64 gv4)⟩, ⟨false, .flat 520 (.ints .u8 gv5)⟩])) := by kernel_rfl

theorem slices_IndexFunc_sf.l0_eq {ρ : Type} (N : Nat) (K : AV → Heap → Option ρ) (s0 : Nat) (s1 : Nat) (gv2 : Nat) (gv3 : Nat → Int) (gv4 : Nat → Int) (gv5 : Nat → Int) :
    ∀ (m : Nat) (x6 : Int), xloop (xcode (E43 N) ents slices_IndexFunc_sf.kp 4 N (cL (cK (cB (cA (cB slices_IndexFunc_sf.bd))))) 0) slices_IndexFunc_sf.kp 4 0 m (slices_IndexFunc_sf.st0 s0 s1 gv2 gv3 gv4 gv5 x6) (slices_IndexFunc_sf.k0 N K gv2 gv3 gv4 gv5) = (slices_IndexFunc_sf.l0 N (fun d0 => K (.int .i64 (d0)) [⟨false, .flat gv2 (.ints .u8 gv3)⟩, ⟨false, .avs [.sptr [(2, 2), (3, 520)]]⟩, ⟨false, .flat 2 (.ints .i64 gv4)⟩, ⟨false, .flat 520 (.ints .u8 gv5)⟩]) s0 gv3 gv4 gv5 ((slices_IndexFunc_sf.k0 N K gv2 gv3 gv4 gv5) (.exit 0) (slices_IndexFunc_sf.sx0_0 gv2 gv3 gv4 gv5)) m x6) := by
  intro m
  induction m with
  | zero => intros; rfl
  | succ m ih =>
    intro x6
    refine (slices_IndexFunc_sf.b0_eq N K (fun s => xloop (xcode (E43 N) ents slices_IndexFunc_sf.kp 4 N (cL (cK (cB (cA (cB slices_IndexFunc_sf.bd))))) 0) slices_IndexFunc_sf.kp 4 0 m s (slices_IndexFunc_sf.k0 N K gv2 gv3 gv4 gv5)) s0 s1 gv2 gv3 gv4 gv5 x6).trans ?_
    simp only [ih]
    kernel_rfl

theorem slices_IndexFunc_sf.s_eq {ρ : Type} (N : Nat) (K : AV → Heap → Option ρ) (s0 : Nat) (s1 : Nat) (gv2 : Nat) (gv3 : Nat → Int) (gv4 : Nat → Int) (gv5 : Nat → Int) :
    xbody (E43 N) ents slices_IndexFunc_sf.kp N Go.Proofs.Try.f146 slices_IndexFunc_sf.bd [.slice true 0 0 s0 (.exact s1) 8, .fn 132 0 [[(1, 1)]]] [⟨false, .flat gv2 (.ints .u8 gv3)⟩, ⟨false, .avs [.sptr [(2, 2), (3, 520)]]⟩, ⟨false, .flat 2 (.ints .i64 gv4)⟩, ⟨false, .flat 520 (.ints .u8 gv5)⟩] K = (slices_IndexFunc_sf.s N (fun d0 => K (.int .i64 (d0)) [⟨false, .flat gv2 (.ints .u8 gv3)⟩, ⟨false, .avs [.sptr [(2, 2), (3, 520)]]⟩, ⟨false, .flat 2 (.ints .i64 gv4)⟩, ⟨false, .flat 520 (.ints .u8 gv5)⟩]) (fun x6 => xloop (xcode (E43 N) ents slices_IndexFunc_sf.kp 4 N (cL (cK (cB (cA (cB slices_IndexFunc_sf.bd))))) 0) slices_IndexFunc_sf.kp 4 0 N (slices_IndexFunc_sf.st0 s0 s1 gv2 gv3 gv4 gv5 x6) (slices_IndexFunc_sf.k0 N K gv2 gv3 gv4 gv5))) := by kernel_rfl

theorem slices_IndexFunc_sf.eq {ρ : Type} (N : Nat) (K : AV → Heap → Option ρ) (s0 : Nat) (s1 : Nat) (gv2 : Nat) (gv3 : Nat → Int) (gv4 : Nat → Int) (gv5 : Nat → Int) :
    xbody (E43 N) ents slices_IndexFunc_sf.kp N Go.Proofs.Try.f146 slices_IndexFunc_sf.bd [.slice true 0 0 s0 (.exact s1) 8, .fn 132 0 [[(1, 1)]]] [⟨false, .flat gv2 (.ints .u8 gv3)⟩, ⟨false, .avs [.sptr [(2, 2), (3, 520)]]⟩, ⟨false, .flat 2 (.ints .i64 gv4)⟩, ⟨false, .flat 520 (.ints .u8 gv5)⟩] K = (slices_IndexFunc_sf N (fun d0 => K (.int .i64 (d0)) [⟨false, .flat gv2 (.ints .u8 gv3)⟩, ⟨false, .avs [.sptr [(2, 2), (3, 520)]]⟩, ⟨false, .flat 2 (.ints .i64 gv4)⟩, ⟨false, .flat 520 (.ints .u8 gv5)⟩]) s0 s1 gv2 gv3 gv4 gv5) := by
  refine (slices_IndexFunc_sf.s_eq N K s0 s1 gv2 gv3 gv4 gv5).trans ?_
  simp only [slices_IndexFunc_sf.l0_eq, slices_IndexFunc_sf.a0_0_eq]
  kernel_rfl

noncomputable def slices_IndexFunc_sf.en (N : Nat) (ρ : Type) : List AV → Heap → (AV → Heap → Option ρ) → Option ρ
  | [.slice true 0 0 s0 (.exact s1) 8, .fn 132 0 [[(1, 1)]]], [⟨false, .flat gv2 (.ints .u8 gv3)⟩, ⟨false, .avs [.sptr [(2, 2), (3, 520)]]⟩, ⟨false, .flat 2 (.ints .i64 gv4)⟩, ⟨false, .flat 520 (.ints .u8 gv5)⟩], K => (slices_IndexFunc_sf N (fun d0 => K (.int .i64 (d0)) [⟨false, .flat gv2 (.ints .u8 gv3)⟩, ⟨false, .avs [.sptr [(2, 2), (3, 520)]]⟩, ⟨false, .flat 2 (.ints .i64 gv4)⟩, ⟨false, .flat 520 (.ints .u8 gv5)⟩]) s0 s1 gv2 gv3 gv4 gv5)
  | _, _, _ => none

theorem slices_IndexFunc_sf.en_ok (N : Nat) (hE : EnvOk (E43 N) ents) (ρ : Type) (args : List AV) (sh : Heap) (K : AV → Heap → Option ρ) (r : ρ) (h : slices_IndexFunc_sf.en N ρ args sh K = some r) : ∃ v sh', K v sh' = some r ∧ FnOk (E43 N).P 146 args sh v sh' := by
  unfold slices_IndexFunc_sf.en at h
  split at h
  · exact fn_ok hE (kp := slices_IndexFunc_sf.kp) (N := N) Go.Proofs.Try.func146 (c := slices_IndexFunc_sf.bd) (by kernel_rfl) ((slices_IndexFunc_sf.eq N _ _ _ _ _ _ _).trans h)
  · cases h

noncomputable def E44 (N : Nat) : Env := (E43 N).add 146 (slices_IndexFunc_sf.en N)

theorem E44_ok (N : Nat) : EnvOk (E44 N) ents := Env.add_ok (E43_ok N) (slices_IndexFunc_sf.en_ok N (E43_ok N))

noncomputable def slices_ContainsFunc_sf.kp : Keeps := ⟨[], [], []⟩

noncomputable def slices_ContainsFunc_sf.bd : Code := bodyOf Go.Proofs.Try.f118

noncomputable def slices_ContainsFunc_sf.fin {ρ : Type} (N : Nat) (K : AV → Heap → Option ρ) (gv2 : Nat) (gv3 : Nat → Int) (gv4 : Nat → Int) (gv5 : Nat → Int) : XE → St → Option ρ := finK (E44 N) slices_ContainsFunc_sf.kp.fins Go.Proofs.Try.f118 [⟨false, .flat gv2 (.ints .u8 gv3)⟩, ⟨false, .avs [.sptr [(2, 2), (3, 520)]]⟩, ⟨false, .flat 2 (.ints .i64 gv4)⟩, ⟨false, .flat 520 (.ints .u8 gv5)⟩] K

theorem slices_ContainsFunc_sf.eq {ρ : Type} (N : Nat) (K : AV → Heap → Option ρ) (s0 : Nat) (s1 : Nat) (gv2 : Nat) (gv3 : Nat → Int) (gv4 : Nat → Int) (gv5 : Nat → Int) :
    xbody (E44 N) ents slices_ContainsFunc_sf.kp N Go.Proofs.Try.f118 slices_ContainsFunc_sf.bd [.slice true 0 0 s0 (.exact s1) 8, .fn 132 0 [[(1, 1)]]] [⟨false, .flat gv2 (.ints .u8 gv3)⟩, ⟨false, .avs [.sptr [(2, 2), (3, 520)]]⟩, ⟨false, .flat 2 (.ints .i64 gv4)⟩, ⟨false, .flat 520 (.ints .u8 gv5)⟩] K = (slices_ContainsFunc_sf N (fun d0 => K (.bool (d0)) [⟨false, .flat gv2 (.ints .u8 gv3)⟩, ⟨false, .avs [.sptr [(2, 2), (3, 520)]]⟩, ⟨false, .flat 2 (.ints .i64 gv4)⟩, ⟨false, .flat 520 (.ints .u8 gv5)⟩]) s0 s1 gv2 gv3 gv4 gv5) := by kernel_rfl

noncomputable def slices_ContainsFunc_sf.en (N : Nat) (ρ : Type) : List AV → Heap → (AV → Heap → Option ρ) → Option ρ
  | [.slice true 0 0 s0 (.exact s1) 8, .fn 132 0 [[(1, 1)]]], [⟨false, .flat gv2 (.ints .u8 gv3)⟩, ⟨false, .avs [.sptr [(2, 2), (3, 520)]]⟩, ⟨false, .flat 2 (.ints .i64 gv4)⟩, ⟨false, .flat 520 (.ints .u8 gv5)⟩], K => (slices_ContainsFunc_sf N (fun d0 => K (.bool (d0)) [⟨false, .flat gv2 (.ints .u8 gv3)⟩, ⟨false, .avs [.sptr [(2, 2), (3, 520)]]⟩, ⟨false, .flat 2 (.ints .i64 gv4)⟩, ⟨false, .flat 520 (.ints .u8 gv5)⟩]) s0 s1 gv2 gv3 gv4 gv5)
  | _, _, _ => none

theorem slices_ContainsFunc_sf.en_ok (N : Nat) (hE : EnvOk (E44 N) ents) (ρ : Type) (args : List AV) (sh : Heap) (K : AV → Heap → Option ρ) (r : ρ) (h : slices_ContainsFunc_sf.en N ρ args sh K = some r) : ∃ v sh', K v sh' = some r ∧ FnOk (E44 N).P 118 args sh v sh' := by
  unfold slices_ContainsFunc_sf.en at h
  split at h
  · exact fn_ok hE (kp := slices_ContainsFunc_sf.kp) (N := N) Go.Proofs.Try.func118 (c := slices_ContainsFunc_sf.bd) (by kernel_rfl) ((slices_ContainsFunc_sf.eq N _ _ _ _ _ _ _).trans h)
  · cases h

noncomputable def E45 (N : Nat) : Env := (E44 N).add 118 (slices_ContainsFunc_sf.en N)

theorem E45_ok (N : Nat) : EnvOk (E45 N) ents := Env.add_ok (E44_ok N) (slices_ContainsFunc_sf.en_ok N (E44_ok N))

noncomputable def impl_Coalgebra_has_s.kp : Keeps := ⟨[], [], []⟩

noncomputable def impl_Coalgebra_has_s.bd : Code := bodyOf Go.Proofs.Try.f104

noncomputable def impl_Coalgebra_has_s.fin {ρ : Type} (N : Nat) (K : AV → Heap → Option ρ) (gv2 : Nat → Int) (gv3 : Nat → Int) (gv4 : Nat) (gv5 : Nat → Int) : XE → St → Option ρ := finK (E45 N) impl_Coalgebra_has_s.kp.fins Go.Proofs.Try.f104 [⟨false, .flat 2 (.ints .i64 gv2)⟩, ⟨false, .flat 520 (.ints .u8 gv3)⟩, ⟨false, .flat gv4 (.ints .u8 gv5)⟩] K

theorem impl_Coalgebra_has_s.eq {ρ : Type} (N : Nat) (K : AV → Heap → Option ρ) (list0 : Nat) (list1 : Nat) (gv2 : Nat → Int) (gv3 : Nat → Int) (gv4 : Nat) (gv5 : Nat → Int) :
    xbody (E45 N) ents impl_Coalgebra_has_s.kp N Go.Proofs.Try.f104 impl_Coalgebra_has_s.bd [.sptr [(0, 2), (1, 520)], .slice true 2 0 list0 (.exact list1) 8] [⟨false, .flat 2 (.ints .i64 gv2)⟩, ⟨false, .flat 520 (.ints .u8 gv3)⟩, ⟨false, .flat gv4 (.ints .u8 gv5)⟩] K = (impl_Coalgebra_has_s N (fun d0 => K (.bool (d0)) [⟨false, .flat 2 (.ints .i64 gv2)⟩, ⟨false, .flat 520 (.ints .u8 gv3)⟩, ⟨false, .flat gv4 (.ints .u8 gv5)⟩]) list0 list1 gv2 gv3 gv4 gv5) := by kernel_rfl

noncomputable def impl_Coalgebra_has_s.en (N : Nat) (ρ : Type) : List AV → Heap → (AV → Heap → Option ρ) → Option ρ
  | [.sptr [(0, 2), (1, 520)], .slice true 2 0 list0 (.exact list1) 8], [⟨false, .flat 2 (.ints .i64 gv2)⟩, ⟨false, .flat 520 (.ints .u8 gv3)⟩, ⟨false, .flat gv4 (.ints .u8 gv5)⟩], K => (impl_Coalgebra_has_s N (fun d0 => K (.bool (d0)) [⟨false, .flat 2 (.ints .i64 gv2)⟩, ⟨false, .flat 520 (.ints .u8 gv3)⟩, ⟨false, .flat gv4 (.ints .u8 gv5)⟩]) list0 list1 gv2 gv3 gv4 gv5)
  | _, _, _ => none

theorem impl_Coalgebra_has_s.en_ok (N : Nat) (hE : EnvOk (E45 N) ents) (ρ : Type) (args : List AV) (sh : Heap) (K : AV → Heap → Option ρ) (r : ρ) (h : impl_Coalgebra_has_s.en N ρ args sh K = some r) : ∃ v sh', K v sh' = some r ∧ FnOk (E45 N).P 104 args sh v sh' := by
  unfold impl_Coalgebra_has_s.en at h
  split at h
  · exact fn_ok hE (kp := impl_Coalgebra_has_s.kp) (N := N) Go.Proofs.Try.func104 (c := impl_Coalgebra_has_s.bd) (by kernel_rfl) ((impl_Coalgebra_has_s.eq N _ _ _ _ _ _ _).trans h)
  · cases h

noncomputable def E46 (N : Nat) : Env := (E45 N).add 104 (impl_Coalgebra_has_s.en N)

theorem E46_ok (N : Nat) : EnvOk (E46 N) ents := Env.add_ok (E45_ok N) (impl_Coalgebra_has_s.en_ok N (E45_ok N))

noncomputable def impl_unless.kp : Keeps := ⟨[], [], []⟩

noncomputable def impl_unless.bd : Code := bodyOf Go.Proofs.Try.f60

noncomputable def impl_unless.fin {ρ : Type} (N : Nat) (K : AV → Heap → Option ρ) : XE → St → Option ρ := finK (E46 N) impl_unless.kp.fins Go.Proofs.Try.f60 [] K

theorem impl_unless.eq {ρ : Type} (N : Nat) (K : AV → Heap → Option ρ) (so0 : Bool) (code1 : Int) :
    xbody (E46 N) ents impl_unless.kp N Go.Proofs.Try.f60 impl_unless.bd [.bool (so0), .int .i64 (code1)] [] K = (impl_unless N (fun d0 => K (.int .i64 (d0)) []) so0 code1) := by kernel_rfl

noncomputable def impl_unless.en (N : Nat) (ρ : Type) : List AV → Heap → (AV → Heap → Option ρ) → Option ρ
  | [.bool (so0), .int .i64 (code1)], [], K => (impl_unless N (fun d0 => K (.int .i64 (d0)) []) so0 code1)
  | _, _, _ => none

theorem impl_unless.en_ok (N : Nat) (hE : EnvOk (E46 N) ents) (ρ : Type) (args : List AV) (sh : Heap) (K : AV → Heap → Option ρ) (r : ρ) (h : impl_unless.en N ρ args sh K = some r) : ∃ v sh', K v sh' = some r ∧ FnOk (E46 N).P 60 args sh v sh' := by
  unfold impl_unless.en at h
  split at h
  · exact fn_ok hE (kp := impl_unless.kp) (N := N) Go.Proofs.Try.func60 (c := impl_unless.bd) (by kernel_rfl) ((impl_unless.eq N _ _ _).trans h)
  · cases h

noncomputable def E47 (N : Nat) : Env := (E46 N).add 60 (impl_unless.en N)

theorem E47_ok (N : Nat) : EnvOk (E47 N) ents := Env.add_ok (E46_ok N) (impl_unless.en_ok N (E46_ok N))

noncomputable def impl_Coalgebra_code_s.kp : Keeps := ⟨[], [], []⟩

noncomputable def impl_Coalgebra_code_s.bd : Code := bodyOf Go.Proofs.Try.f63

noncomputable def impl_Coalgebra_code_s.fin {ρ : Type} (N : Nat) (K : AV → Heap → Option ρ) (gv2 : Nat → Int) (gv3 : Nat → Int) (gv4 : Nat) (gv5 : Nat → Int) : XE → St → Option ρ := finK (E47 N) impl_Coalgebra_code_s.kp.fins Go.Proofs.Try.f63 [⟨false, .flat 2 (.ints .i64 gv2)⟩, ⟨false, .flat 520 (.ints .u8 gv3)⟩, ⟨false, .flat gv4 (.ints .u8 gv5)⟩] K

theorem impl_Coalgebra_code_s.eq {ρ : Type} (N : Nat) (K : AV → Heap → Option ρ) (list0 : Nat) (list1 : Nat) (gv2 : Nat → Int) (gv3 : Nat → Int) (gv4 : Nat) (gv5 : Nat → Int) :
    xbody (E47 N) ents impl_Coalgebra_code_s.kp N Go.Proofs.Try.f63 impl_Coalgebra_code_s.bd [.sptr [(0, 2), (1, 520)], .slice true 2 0 list0 (.exact list1) 8] [⟨false, .flat 2 (.ints .i64 gv2)⟩, ⟨false, .flat 520 (.ints .u8 gv3)⟩, ⟨false, .flat gv4 (.ints .u8 gv5)⟩] K = (impl_Coalgebra_code_s N (fun d0 => K (.int .i64 (d0)) [⟨false, .flat 2 (.ints .i64 gv2)⟩, ⟨false, .flat 520 (.ints .u8 gv3)⟩, ⟨false, .flat gv4 (.ints .u8 gv5)⟩]) list0 list1 gv2 gv3 gv4 gv5) := by kernel_rfl

noncomputable def impl_Coalgebra_code_s.en (N : Nat) (ρ : Type) : List AV → Heap → (AV → Heap → Option ρ) → Option ρ
  | [.sptr [(0, 2), (1, 520)], .slice true 2 0 list0 (.exact list1) 8], [⟨false, .flat 2 (.ints .i64 gv2)⟩, ⟨false, .flat 520 (.ints .u8 gv3)⟩, ⟨false, .flat gv4 (.ints .u8 gv5)⟩], K => (impl_Coalgebra_code_s N (fun d0 => K (.int .i64 (d0)) [⟨false, .flat 2 (.ints .i64 gv2)⟩, ⟨false, .flat 520 (.ints .u8 gv3)⟩, ⟨false, .flat gv4 (.ints .u8 gv5)⟩]) list0 list1 gv2 gv3 gv4 gv5)
  | _, _, _ => none

theorem impl_Coalgebra_code_s.en_ok (N : Nat) (hE : EnvOk (E47 N) ents) (ρ : Type) (args : List AV) (sh : Heap) (K : AV → Heap → Option ρ) (r : ρ) (h : impl_Coalgebra_code_s.en N ρ args sh K = some r) : ∃ v sh', K v sh' = some r ∧ FnOk (E47 N).P 63 args sh v sh' := by
  unfold impl_Coalgebra_code_s.en at h
  split at h
  · exact fn_ok hE (kp := impl_Coalgebra_code_s.kp) (N := N) Go.Proofs.Try.func63 (c := impl_Coalgebra_code_s.bd) (by kernel_rfl) ((impl_Coalgebra_code_s.eq N _ _ _ _ _ _ _).trans h)
  · cases h

noncomputable def E48 (N : Nat) : Env := (E47 N).add 63 (impl_Coalgebra_code_s.en N)

theorem E48_ok (N : Nat) : EnvOk (E48 N) ents := Env.add_ok (E47_ok N) (impl_Coalgebra_code_s.en_ok N (E47_ok N))

noncomputable def impl_Coalgebra_coproduct.kp : Keeps := ⟨[(0, [0, 4, 5, 6, 13, 14], [], []), (2, [0, 4, 5, 6, 7, 8, 13, 14, 19, 20], [], [])], [(0, [4, 6], [], []), (2, [0, 4, 5, 6, 13, 14], [], [])], []⟩

noncomputable def impl_Coalgebra_coproduct.bd : Code := bodyOf Go.Proofs.Try.f68

noncomputable def impl_Coalgebra_coproduct.fin {ρ : Type} (N : Nat) (K : AV → Heap → Option ρ) (gv1 : Nat → Int) (gv2 : Nat → Int) : XE → St → Option ρ := finK (E48 N) impl_Coalgebra_coproduct.kp.fins Go.Proofs.Try.f68 [⟨false, .flat 2 (.ints .i64 gv1)⟩, ⟨false, .flat 520 (.ints .u8 gv2)⟩] K

noncomputable def impl_Coalgebra_coproduct.k0 {ρ : Type} (N : Nat) (K : AV → Heap → Option ρ) (gv1 : Nat → Int) (gv2 : Nat → Int) : XE → St → Option ρ := (blockK impl_Coalgebra_coproduct.kp 2 0 (seqK (xcode (E48 N) ents impl_Coalgebra_coproduct.kp 2 N (cB (cB (cB impl_Coalgebra_coproduct.bd))) 0) (impl_Coalgebra_coproduct.fin N K gv1 gv2)))

theorem impl_Coalgebra_coproduct.k0_mix {ρ : Type} (N : Nat) (K : AV → Heap → Option ρ) (gv1 : Nat → Int) (gv2 : Nat → Int) : mixK (impl_Coalgebra_coproduct.fin N K gv1 gv2 .ret) (impl_Coalgebra_coproduct.k0 N K gv1 gv2) = (impl_Coalgebra_coproduct.k0 N K gv1 gv2) := by
  funext e s; cases e <;> kernel_rfl

noncomputable def impl_Coalgebra_coproduct.st0 (v0 : Nat → Int) (gv1 : Nat → Int) (gv2 : Nat → Int) (rv3 : Nat → Int) (x4 : Int) (gv5 : Nat → Int) : St := ⟨sl 40 [(0, .sptr [(0, 2), (1, 520)]), (4, .sptr [(2, 64)]), (5, .sptr [(3, 2)]), (6, .sptr [(4, 64)]), (13, .agg [⟨.u8, 8, v0⟩]), (14, .int .i64 (x4))], [⟨false, .flat 2 (.ints .i64 gv1)⟩, ⟨false, .flat 520 (.ints .u8 gv2)⟩, ⟨true, .flat 64 (.ints .u8 (fun _ => 0))⟩, ⟨true, .flat 2 (.ints .i64 rv3)⟩, ⟨true, .flat 64 (.ints .u8 gv5)⟩]⟩

noncomputable def impl_Coalgebra_coproduct.sx0_0 (gv1 : Nat → Int) (gv2 : Nat → Int) (ov10 : Nat → Int) : St := ⟨sl 40 [(4, .sptr [(2, 64)]), (6, .sptr [(3, 64)])], [⟨false, .flat 2 (.ints .i64 gv1)⟩, ⟨false, .flat 520 (.ints .u8 gv2)⟩, ⟨true, .flat 64 (.ints .u8 (fun _ => 0))⟩, ⟨true, .flat 64 (.ints .u8 ov10)⟩]⟩

noncomputable def impl_Coalgebra_coproduct.k1g {ρ : Type} (N : Nat) (L0 : St → Option ρ) (kv : XE → St → Option ρ) : XE → St → Option ρ := (blockK impl_Coalgebra_coproduct.kp 2 2 (blockK impl_Coalgebra_coproduct.kp 2 1 (seqK (xcode (E48 N) ents impl_Coalgebra_coproduct.kp 2 N (cB (cB (cB (cL (cK (cB (cA (cB (cB impl_Coalgebra_coproduct.bd))))))))) 0) (roundK impl_Coalgebra_coproduct.kp 2 0 L0 kv))))

theorem impl_Coalgebra_coproduct.k1_mix {ρ : Type} (N : Nat) (K : AV → Heap → Option ρ) (L0 : St → Option ρ) (gv1 : Nat → Int) (gv2 : Nat → Int) : mixK (impl_Coalgebra_coproduct.fin N K gv1 gv2 .ret) (impl_Coalgebra_coproduct.k1g N L0 (impl_Coalgebra_coproduct.k0 N K gv1 gv2)) = (impl_Coalgebra_coproduct.k1g N L0 (impl_Coalgebra_coproduct.k0 N K gv1 gv2)) := by
  funext e s; cases e <;> kernel_rfl

noncomputable def impl_Coalgebra_coproduct.st1 (v0 : Nat → Int) (gv1 : Nat → Int) (gv2 : Nat → Int) (rv3 : Nat → Int) (x4 : Int) (x6 : Int) (gv7 : Nat → Int) : St := ⟨sl 40 [(0, .sptr [(0, 2), (1, 520)]), (4, .sptr [(2, 64)]), (5, .sptr [(3, 2)]), (6, .sptr [(4, 64)]), (7, .int .i64 (x4)), (8, .int .u8 ((v0 x4.toNat))), (13, .agg [⟨.u8, 8, v0⟩]), (14, .int .i64 (x4)), (19, .int .i64 ((rv3 1))), (20, .int .i64 (x6))], [⟨false, .flat 2 (.ints .i64 gv1)⟩, ⟨false, .flat 520 (.ints .u8 gv2)⟩, ⟨true, .flat 64 (.ints .u8 (fun _ => 0))⟩, ⟨true, .flat 2 (.ints .i64 rv3)⟩, ⟨true, .flat 64 (.ints .u8 gv7)⟩]⟩

noncomputable def impl_Coalgebra_coproduct.sx1_0 (v0 : Nat → Int) (gv1 : Nat → Int) (gv2 : Nat → Int) (rv3 : Nat → Int) (x4 : Int) (ov9 : Nat → Int) : St := ⟨sl 40 [(0, .sptr [(0, 2), (1, 520)]), (4, .sptr [(2, 64)]), (5, .sptr [(3, 2)]), (6, .sptr [(4, 64)]), (13, .agg [⟨.u8, 8, v0⟩]), (14, .int .i64 (x4))], [⟨false, .flat 2 (.ints .i64 gv1)⟩, ⟨false, .flat 520 (.ints .u8 gv2)⟩, ⟨true, .flat 64 (.ints .u8 (fun _ => 0))⟩, ⟨true, .flat 2 (.ints .i64 rv3)⟩, ⟨true, .flat 64 (.ints .u8 ov9)⟩]⟩

theorem impl_Coalgebra_coproduct.b1_gen {ρ : Type} (N : Nat) (K : AV → Heap → Option ρ) (L1 : St → Option ρ) (kv : XE → St → Option ρ) (v0 : Nat → Int) (gv1 : Nat → Int) (gv2 : Nat → Int) (rv3 : Nat → Int) (x4 : Int) (x6 : Int) (gv7 : Nat → Int) :
    xcode (E48 N) ents impl_Coalgebra_coproduct.kp 2 N (cL (cK (cB (cB (cK (cA (cB (cB (cL (cK (cB (cA (cB (cB impl_Coalgebra_coproduct.bd)))))))))))))) 2 (impl_Coalgebra_coproduct.st1 v0 gv1 gv2 rv3 x4 x6 gv7) (roundK impl_Coalgebra_coproduct.kp 2 2 L1 (mixK (impl_Coalgebra_coproduct.fin N K gv1 gv2 .ret) kv)) = (impl_Coalgebra_coproduct.b1 N (fun d0 => K (.agg [⟨.u8, 64, d0⟩]) [⟨false, .flat 2 (.ints .i64 gv1)⟩, ⟨false, .flat 520 (.ints .u8 gv2)⟩]) (fun x6 gv7 => L1 (impl_Coalgebra_coproduct.st1 v0 gv1 gv2 rv3 x4 x6 gv7)) (fun ov9 => kv (.exit 2) (impl_Coalgebra_coproduct.sx1_0 v0 gv1 gv2 rv3 x4 ov9)) v0 gv2 rv3 x4 x6 gv7) := by kernel_rfl

theorem impl_Coalgebra_coproduct.b1_eq {ρ : Type} (N : Nat) (K : AV → Heap → Option ρ) (L0 : St → Option ρ) (L1 : St → Option ρ) (v0 : Nat → Int) (gv1 : Nat → Int) (gv2 : Nat → Int) (rv3 : Nat → Int) (x4 : Int) (x6 : Int) (gv7 : Nat → Int) :
    xcode (E48 N) ents impl_Coalgebra_coproduct.kp 2 N (cL (cK (cB (cB (cK (cA (cB (cB (cL (cK (cB (cA (cB (cB impl_Coalgebra_coproduct.bd)))))))))))))) 2 (impl_Coalgebra_coproduct.st1 v0 gv1 gv2 rv3 x4 x6 gv7) (roundK impl_Coalgebra_coproduct.kp 2 2 L1 (impl_Coalgebra_coproduct.k1g N L0 (impl_Coalgebra_coproduct.k0 N K gv1 gv2))) = (impl_Coalgebra_coproduct.b1 N (fun d0 => K (.agg [⟨.u8, 64, d0⟩]) [⟨false, .flat 2 (.ints .i64 gv1)⟩, ⟨false, .flat 520 (.ints .u8 gv2)⟩]) (fun x6 gv7 => L1 (impl_Coalgebra_coproduct.st1 v0 gv1 gv2 rv3 x4 x6 gv7)) (fun ov9 => (impl_Coalgebra_coproduct.k1g N L0 (impl_Coalgebra_coproduct.k0 N K gv1 gv2)) (.exit 2) (impl_Coalgebra_coproduct.sx1_0 v0 gv1 gv2 rv3 x4 ov9)) v0 gv2 rv3 x4 x6 gv7) := by
  have h := impl_Coalgebra_coproduct.b1_gen N K L1 (impl_Coalgebra_coproduct.k1g N L0 (impl_Coalgebra_coproduct.k0 N K gv1 gv2)) v0 gv1 gv2 rv3 x4 x6 gv7
  rw [impl_Coalgebra_coproduct.k1_mix] at h
  exact h

theorem impl_Coalgebra_coproduct.a1_0_gen {ρ : Type} (N : Nat) (K : AV → Heap → Option ρ) (L0 : St → Option ρ) (kv : XE → St → Option ρ) (v0 : Nat → Int) (gv1 : Nat → Int) (gv2 : Nat → Int) (rv3 : Nat → Int) (x4 : Int) (ov9 : Nat → Int) :
    (impl_Coalgebra_coproduct.k1g N L0 (mixK (impl_Coalgebra_coproduct.fin N K gv1 gv2 .ret) kv)) (.exit 2) (impl_Coalgebra_coproduct.sx1_0 v0 gv1 gv2 rv3 x4 ov9) = (impl_Coalgebra_coproduct.a1_0 N (fun d0 => K (.agg [⟨.u8, 64, d0⟩]) [⟨false, .flat 2 (.ints .i64 gv1)⟩, ⟨false, .flat 520 (.ints .u8 gv2)⟩]) (fun x4 gv5 => L0 (impl_Coalgebra_coproduct.st0 v0 gv1 gv2 rv3 x4 gv5)) (fun ov10 => kv (.exit 0) (impl_Coalgebra_coproduct.sx0_0 gv1 gv2 ov10)) x4 ov9) := by kernel_rfl

theorem impl_Coalgebra_coproduct.a1_0_eq {ρ : Type} (N : Nat) (K : AV → Heap → Option ρ) (L0 : St → Option ρ) (v0 : Nat → Int) (gv1 : Nat → Int) (gv2 : Nat → Int) (rv3 : Nat → Int) (x4 : Int) (ov9 : Nat → Int) :
    (impl_Coalgebra_coproduct.k1g N L0 (impl_Coalgebra_coproduct.k0 N K gv1 gv2)) (.exit 2) (impl_Coalgebra_coproduct.sx1_0 v0 gv1 gv2 rv3 x4 ov9) = (impl_Coalgebra_coproduct.a1_0 N (fun d0 => K (.agg [⟨.u8, 64, d0⟩]) [⟨false, .flat 2 (.ints .i64 gv1)⟩, ⟨false, .flat 520 (.ints .u8 gv2)⟩]) (fun x4 gv5 => L0 (impl_Coalgebra_coproduct.st0 v0 gv1 gv2 rv3 x4 gv5)) (fun ov10 => (impl_Coalgebra_coproduct.k0 N K gv1 gv2) (.exit 0) (impl_Coalgebra_coproduct.sx0_0 gv1 gv2 ov10)) x4 ov9) := by
  have h := impl_Coalgebra_coproduct.a1_0_gen N K L0 (impl_Coalgebra_coproduct.k0 N K gv1 gv2) v0 gv1 gv2 rv3 x4 ov9
  rw [impl_Coalgebra_coproduct.k0_mix] at h
  exact h

theorem impl_Coalgebra_coproduct.b0_gen {ρ : Type} (N : Nat) (K : AV → Heap → Option ρ) (L0 : St → Option ρ) (kv : XE → St → Option ρ) (v0 : Nat → Int) (gv1 : Nat → Int) (gv2 : Nat → Int) (rv3 : Nat → Int) (x4 : Int) (gv5 : Nat → Int) :
    xcode (E48 N) ents impl_Coalgebra_coproduct.kp 2 N (cL (cK (cB (cA (cB (cB impl_Coalgebra_coproduct.bd)))))) 0 (impl_Coalgebra_coproduct.st0 v0 gv1 gv2 rv3 x4 gv5) (roundK impl_Coalgebra_coproduct.kp 2 0 L0 (mixK (impl_Coalgebra_coproduct.fin N K gv1 gv2 .ret) kv)) = (impl_Coalgebra_coproduct.b0 N (fun d0 => K (.agg [⟨.u8, 64, d0⟩]) [⟨false, .flat 2 (.ints .i64 gv1)⟩, ⟨false, .flat 520 (.ints .u8 gv2)⟩]) (fun x6 gv7 => xloop (xcode (E48 N) ents impl_Coalgebra_coproduct.kp 2 N (cL (cK (cB (cB (cK (cA (cB (cB (cL (cK (cB (cA (cB (cB impl_Coalgebra_coproduct.bd)))))))))))))) 2) impl_Coalgebra_coproduct.kp 2 2 N (impl_Coalgebra_coproduct.st1 v0 gv1 gv2 rv3 x4 x6 gv7) (impl_Coalgebra_coproduct.k1g N L0 (mixK (impl_Coalgebra_coproduct.fin N K gv1 gv2 .ret) kv))) (fun x4 gv5 => L0 (impl_Coalgebra_coproduct.st0 v0 gv1 gv2 rv3 x4 gv5)) (fun ov10 => kv (.exit 0) (impl_Coalgebra_coproduct.sx0_0 gv1 gv2 ov10)) x4 gv5) := by kernel_rfl

theorem impl_Coalgebra_coproduct.b0_eq {ρ : Type} (N : Nat) (K : AV → Heap → Option ρ) (L0 : St → Option ρ) (v0 : Nat → Int) (gv1 : Nat → Int) (gv2 : Nat → Int) (rv3 : Nat → Int) (x4 : Int) (gv5 : Nat → Int) :
    xcode (E48 N) ents impl_Coalgebra_coproduct.kp 2 N (cL (cK (cB (cA (cB (cB impl_Coalgebra_coproduct.bd)))))) 0 (impl_Coalgebra_coproduct.st0 v0 gv1 gv2 rv3 x4 gv5) (roundK impl_Coalgebra_coproduct.kp 2 0 L0 (impl_Coalgebra_coproduct.k0 N K gv1 gv2)) = (impl_Coalgebra_coproduct.b0 N (fun d0 => K (.agg [⟨.u8, 64, d0⟩]) [⟨false, .flat 2 (.ints .i64 gv1)⟩, ⟨false, .flat 520 (.ints .u8 gv2)⟩]) (fun x6 gv7 => xloop (xcode (E48 N) ents impl_Coalgebra_coproduct.kp 2 N (cL (cK (cB (cB (cK (cA (cB (cB (cL (cK (cB (cA (cB (cB impl_Coalgebra_coproduct.bd)))))))))))))) 2) impl_Coalgebra_coproduct.kp 2 2 N (impl_Coalgebra_coproduct.st1 v0 gv1 gv2 rv3 x4 x6 gv7) (impl_Coalgebra_coproduct.k1g N L0 (impl_Coalgebra_coproduct.k0 N K gv1 gv2))) (fun x4 gv5 => L0 (impl_Coalgebra_coproduct.st0 v0 gv1 gv2 rv3 x4 gv5)) (fun ov10 => (impl_Coalgebra_coproduct.k0 N K gv1 gv2) (.exit 0) (impl_Coalgebra_coproduct.sx0_0 gv1 gv2 ov10)) x4 gv5) := by
  have h := impl_Coalgebra_coproduct.b0_gen N K L0 (impl_Coalgebra_coproduct.k0 N K gv1 gv2) v0 gv1 gv2 rv3 x4 gv5
  rw [impl_Coalgebra_coproduct.k0_mix] at h
  exact h

theorem impl_Coalgebra_coproduct.a0_0_eq {ρ : Type} (N : Nat) (K : AV → Heap → Option ρ) (gv1 : Nat → Int) (gv2 : Nat → Int) (ov10 : Nat → Int) :
    (impl_Coalgebra_coproduct.k0 N K gv1 gv2) (.exit 0) (impl_Coalgebra_coproduct.sx0_0 gv1 gv2 ov10) = (impl_Coalgebra_coproduct.a0_0 N (fun d0 => K (.agg [⟨.u8, 64, d0⟩]) [⟨false, .flat 2 (.ints .i64 gv1)⟩, ⟨false, .flat 520 (.ints .u8 gv2)⟩]) ov10) := by kernel_rfl

theorem impl_Coalgebra_coproduct.l1_eq {ρ : Type} (N : Nat) (K : AV → Heap → Option ρ) (L0 : St → Option ρ) (v0 : Nat → Int) (gv1 : Nat → Int) (gv2 : Nat → Int) (rv3 : Nat → Int) (x4 : Int) :
    ∀ (m : Nat) (x6 : Int) (gv7 : Nat → Int), xloop (xcode (E48 N) ents impl_Coalgebra_coproduct.kp 2 N (cL (cK (cB (cB (cK (cA (cB (cB (cL (cK (cB (cA (cB (cB impl_Coalgebra_coproduct.bd)))))))))))))) 2) impl_Coalgebra_coproduct.kp 2 2 m (impl_Coalgebra_coproduct.st1 v0 gv1 gv2 rv3 x4 x6 gv7) (impl_Coalgebra_coproduct.k1g N L0 (impl_Coalgebra_coproduct.k0 N K gv1 gv2)) = (impl_Coalgebra_coproduct.l1 N (fun d0 => K (.agg [⟨.u8, 64, d0⟩]) [⟨false, .flat 2 (.ints .i64 gv1)⟩, ⟨false, .flat 520 (.ints .u8 gv2)⟩]) v0 gv2 rv3 x4 (fun ov9 => (impl_Coalgebra_coproduct.k1g N L0 (impl_Coalgebra_coproduct.k0 N K gv1 gv2)) (.exit 2) (impl_Coalgebra_coproduct.sx1_0 v0 gv1 gv2 rv3 x4 ov9)) m x6 gv7) := by
  intro m
  induction m with
  | zero => intros; rfl
  | succ m ih =>
    intro x6 gv7
    refine (impl_Coalgebra_coproduct.b1_eq N K L0 (fun s => xloop (xcode (E48 N) ents impl_Coalgebra_coproduct.kp 2 N (cL (cK (cB (cB (cK (cA (cB (cB (cL (cK (cB (cA (cB (cB impl_Coalgebra_coproduct.bd)))))))))))))) 2) impl_Coalgebra_coproduct.kp 2 2 m s (impl_Coalgebra_coproduct.k1g N L0 (impl_Coalgebra_coproduct.k0 N K gv1 gv2))) v0 gv1 gv2 rv3 x4 x6 gv7).trans ?_
    simp only [ih]
    kernel_rfl

theorem impl_Coalgebra_coproduct.l0_eq {ρ : Type} (N : Nat) (K : AV → Heap → Option ρ) (v0 : Nat → Int) (gv1 : Nat → Int) (gv2 : Nat → Int) (rv3 : Nat → Int) :
    ∀ (m : Nat) (x4 : Int) (gv5 : Nat → Int), xloop (xcode (E48 N) ents impl_Coalgebra_coproduct.kp 2 N (cL (cK (cB (cA (cB (cB impl_Coalgebra_coproduct.bd)))))) 0) impl_Coalgebra_coproduct.kp 2 0 m (impl_Coalgebra_coproduct.st0 v0 gv1 gv2 rv3 x4 gv5) (impl_Coalgebra_coproduct.k0 N K gv1 gv2) = (impl_Coalgebra_coproduct.l0 N (fun d0 => K (.agg [⟨.u8, 64, d0⟩]) [⟨false, .flat 2 (.ints .i64 gv1)⟩, ⟨false, .flat 520 (.ints .u8 gv2)⟩]) v0 gv2 rv3 (fun ov10 => (impl_Coalgebra_coproduct.k0 N K gv1 gv2) (.exit 0) (impl_Coalgebra_coproduct.sx0_0 gv1 gv2 ov10)) m x4 gv5) := by
  intro m
  induction m with
  | zero => intros; rfl
  | succ m ih =>
    intro x4 gv5
    refine (impl_Coalgebra_coproduct.b0_eq N K (fun s => xloop (xcode (E48 N) ents impl_Coalgebra_coproduct.kp 2 N (cL (cK (cB (cA (cB (cB impl_Coalgebra_coproduct.bd)))))) 0) impl_Coalgebra_coproduct.kp 2 0 m s (impl_Coalgebra_coproduct.k0 N K gv1 gv2)) v0 gv1 gv2 rv3 x4 gv5).trans ?_
    simp only [ih, impl_Coalgebra_coproduct.l1_eq, impl_Coalgebra_coproduct.a1_0_eq]
    kernel_rfl

theorem impl_Coalgebra_coproduct.s_eq {ρ : Type} (N : Nat) (K : AV → Heap → Option ρ) (v0 : Nat → Int) (gv1 : Nat → Int) (gv2 : Nat → Int) :
    xbody (E48 N) ents impl_Coalgebra_coproduct.kp N Go.Proofs.Try.f68 impl_Coalgebra_coproduct.bd [.sptr [(0, 2), (1, 520)], .agg [⟨.u8, 8, v0⟩]] [⟨false, .flat 2 (.ints .i64 gv1)⟩, ⟨false, .flat 520 (.ints .u8 gv2)⟩] K = (impl_Coalgebra_coproduct.s N (fun d0 => K (.agg [⟨.u8, 64, d0⟩]) [⟨false, .flat 2 (.ints .i64 gv1)⟩, ⟨false, .flat 520 (.ints .u8 gv2)⟩]) (fun rv3 x4 gv5 => xloop (xcode (E48 N) ents impl_Coalgebra_coproduct.kp 2 N (cL (cK (cB (cA (cB (cB impl_Coalgebra_coproduct.bd)))))) 0) impl_Coalgebra_coproduct.kp 2 0 N (impl_Coalgebra_coproduct.st0 v0 gv1 gv2 rv3 x4 gv5) (impl_Coalgebra_coproduct.k0 N K gv1 gv2)) gv1 gv2) := by kernel_rfl

theorem impl_Coalgebra_coproduct.eq {ρ : Type} (N : Nat) (K : AV → Heap → Option ρ) (v0 : Nat → Int) (gv1 : Nat → Int) (gv2 : Nat → Int) :
    xbody (E48 N) ents impl_Coalgebra_coproduct.kp N Go.Proofs.Try.f68 impl_Coalgebra_coproduct.bd [.sptr [(0, 2), (1, 520)], .agg [⟨.u8, 8, v0⟩]] [⟨false, .flat 2 (.ints .i64 gv1)⟩, ⟨false, .flat 520 (.ints .u8 gv2)⟩] K = (impl_Coalgebra_coproduct N (fun d0 => K (.agg [⟨.u8, 64, d0⟩]) [⟨false, .flat 2 (.ints .i64 gv1)⟩, ⟨false, .flat 520 (.ints .u8 gv2)⟩]) v0 gv1 gv2) := by
  refine (impl_Coalgebra_coproduct.s_eq N K v0 gv1 gv2).trans ?_
  simp only [impl_Coalgebra_coproduct.l0_eq, impl_Coalgebra_coproduct.a0_0_eq]
  kernel_rfl

noncomputable def impl_Coalgebra_coproduct.en (N : Nat) (ρ : Type) : List AV → Heap → (AV → Heap → Option ρ) → Option ρ
  | [.sptr [(0, 2), (1, 520)], .agg [⟨.u8, 8, v0⟩]], [⟨false, .flat 2 (.ints .i64 gv1)⟩, ⟨false, .flat 520 (.ints .u8 gv2)⟩], K => (impl_Coalgebra_coproduct N (fun d0 => K (.agg [⟨.u8, 64, d0⟩]) [⟨false, .flat 2 (.ints .i64 gv1)⟩, ⟨false, .flat 520 (.ints .u8 gv2)⟩]) v0 gv1 gv2)
  | _, _, _ => none

theorem impl_Coalgebra_coproduct.en_ok (N : Nat) (hE : EnvOk (E48 N) ents) (ρ : Type) (args : List AV) (sh : Heap) (K : AV → Heap → Option ρ) (r : ρ) (h : impl_Coalgebra_coproduct.en N ρ args sh K = some r) : ∃ v sh', K v sh' = some r ∧ FnOk (E48 N).P 68 args sh v sh' := by
  unfold impl_Coalgebra_coproduct.en at h
  split at h
  · exact fn_ok hE (kp := impl_Coalgebra_coproduct.kp) (N := N) Go.Proofs.Try.func68 (c := impl_Coalgebra_coproduct.bd) (by kernel_rfl) ((impl_Coalgebra_coproduct.eq N _ _ _ _).trans h)
  · cases h

noncomputable def E49 (N : Nat) : Env := (E48 N).add 68 (impl_Coalgebra_coproduct.en N)

theorem E49_ok (N : Nat) : EnvOk (E49 N) ents := Env.add_ok (E48_ok N) (impl_Coalgebra_coproduct.en_ok N (E48_ok N))

noncomputable def impl_transposed.kp : Keeps := ⟨[(0, [0, 2, 3, 7], [], []), (2, [0, 2, 3, 4, 7, 10], [], [])], [(0, [2, 3], [], []), (2, [0, 2, 3, 7], [], [])], []⟩

noncomputable def impl_transposed.bd : Code := bodyOf Go.Proofs.Try.f66

noncomputable def impl_transposed.fin {ρ : Type} (N : Nat) (K : AV → Heap → Option ρ) (gv0 : Nat → Int) : XE → St → Option ρ := finK (E49 N) impl_transposed.kp.fins Go.Proofs.Try.f66 [⟨false, .flat 64 (.ints .u8 gv0)⟩] K

noncomputable def impl_transposed.k0 {ρ : Type} (N : Nat) (K : AV → Heap → Option ρ) (gv0 : Nat → Int) : XE → St → Option ρ := (blockK impl_transposed.kp 1 0 (seqK (xcode (E49 N) ents impl_transposed.kp 1 N (cB (cB (cB impl_transposed.bd))) 0) (impl_transposed.fin N K gv0)))

theorem impl_transposed.k0_mix {ρ : Type} (N : Nat) (K : AV → Heap → Option ρ) (gv0 : Nat → Int) : mixK (impl_transposed.fin N K gv0 .ret) (impl_transposed.k0 N K gv0) = (impl_transposed.k0 N K gv0) := by
  funext e s; cases e <;> kernel_rfl

noncomputable def impl_transposed.st0 (gv0 : Nat → Int) (x1 : Int) (gv2 : Nat → Int) : St := ⟨sl 27 [(0, .sptr [(0, 64)]), (2, .sptr [(1, 64)]), (3, .sptr [(2, 64)]), (7, .int .i64 (x1))], [⟨false, .flat 64 (.ints .u8 gv0)⟩, ⟨true, .flat 64 (.ints .u8 (fun _ => 0))⟩, ⟨true, .flat 64 (.ints .u8 gv2)⟩]⟩

noncomputable def impl_transposed.sx0_0 (gv0 : Nat → Int) (ov6 : Nat → Int) : St := ⟨sl 27 [(2, .sptr [(1, 64)]), (3, .sptr [(2, 64)])], [⟨false, .flat 64 (.ints .u8 gv0)⟩, ⟨true, .flat 64 (.ints .u8 (fun _ => 0))⟩, ⟨true, .flat 64 (.ints .u8 ov6)⟩]⟩

noncomputable def impl_transposed.k1g {ρ : Type} (N : Nat) (L0 : St → Option ρ) (kv : XE → St → Option ρ) : XE → St → Option ρ := (blockK impl_transposed.kp 1 2 (blockK impl_transposed.kp 1 1 (seqK (xcode (E49 N) ents impl_transposed.kp 1 N (cB (cB (cB (cL (cK (cB (cA (cB (cB impl_transposed.bd))))))))) 0) (roundK impl_transposed.kp 1 0 L0 kv))))

theorem impl_transposed.k1_mix {ρ : Type} (N : Nat) (K : AV → Heap → Option ρ) (L0 : St → Option ρ) (gv0 : Nat → Int) : mixK (impl_transposed.fin N K gv0 .ret) (impl_transposed.k1g N L0 (impl_transposed.k0 N K gv0)) = (impl_transposed.k1g N L0 (impl_transposed.k0 N K gv0)) := by
  funext e s; cases e <;> kernel_rfl

noncomputable def impl_transposed.st1 (gv0 : Nat → Int) (x1 : Int) (x3 : Int) (gv4 : Nat → Int) : St := ⟨sl 27 [(0, .sptr [(0, 64)]), (2, .sptr [(1, 64)]), (3, .sptr [(2, 64)]), (4, .int .i64 (x1)), (7, .int .i64 (x1)), (10, .int .i64 (x3))], [⟨false, .flat 64 (.ints .u8 gv0)⟩, ⟨true, .flat 64 (.ints .u8 (fun _ => 0))⟩, ⟨true, .flat 64 (.ints .u8 gv4)⟩]⟩

noncomputable def impl_transposed.sx1_0 (gv0 : Nat → Int) (x1 : Int) (ov5 : Nat → Int) : St := ⟨sl 27 [(0, .sptr [(0, 64)]), (2, .sptr [(1, 64)]), (3, .sptr [(2, 64)]), (7, .int .i64 (x1))], [⟨false, .flat 64 (.ints .u8 gv0)⟩, ⟨true, .flat 64 (.ints .u8 (fun _ => 0))⟩, ⟨true, .flat 64 (.ints .u8 ov5)⟩]⟩

theorem impl_transposed.b1_gen {ρ : Type} (N : Nat) (K : AV → Heap → Option ρ) (L1 : St → Option ρ) (kv : XE → St → Option ρ) (gv0 : Nat → Int) (x1 : Int) (x3 : Int) (gv4 : Nat → Int) :
    xcode (E49 N) ents impl_transposed.kp 1 N (cL (cK (cB (cB (cK (cA (cB (cB (cL (cK (cB (cA (cB (cB impl_transposed.bd)))))))))))))) 2 (impl_transposed.st1 gv0 x1 x3 gv4) (roundK impl_transposed.kp 1 2 L1 (mixK (impl_transposed.fin N K gv0 .ret) kv)) = (impl_transposed.b1 N (fun d0 => K (.agg [⟨.u8, 64, d0⟩]) [⟨false, .flat 64 (.ints .u8 gv0)⟩]) (fun x3 gv4 => L1 (impl_transposed.st1 gv0 x1 x3 gv4)) (fun ov5 => kv (.exit 2) (impl_transposed.sx1_0 gv0 x1 ov5)) gv0 x1 x3 gv4) := by kernel_rfl

theorem impl_transposed.b1_eq {ρ : Type} (N : Nat) (K : AV → Heap → Option ρ) (L0 : St → Option ρ) (L1 : St → Option ρ) (gv0 : Nat → Int) (x1 : Int) (x3 : Int) (gv4 : Nat → Int) :
    xcode (E49 N) ents impl_transposed.kp 1 N (cL (cK (cB (cB (cK (cA (cB (cB (cL (cK (cB (cA (cB (cB impl_transposed.bd)))))))))))))) 2 (impl_transposed.st1 gv0 x1 x3 gv4) (roundK impl_transposed.kp 1 2 L1 (impl_transposed.k1g N L0 (impl_transposed.k0 N K gv0))) = (impl_transposed.b1 N (fun d0 => K (.agg [⟨.u8, 64, d0⟩]) [⟨false, .flat 64 (.ints .u8 gv0)⟩]) (fun x3 gv4 => L1 (impl_transposed.st1 gv0 x1 x3 gv4)) (fun ov5 => (impl_transposed.k1g N L0 (impl_transposed.k0 N K gv0)) (.exit 2) (impl_transposed.sx1_0 gv0 x1 ov5)) gv0 x1 x3 gv4) := by
  have h := impl_transposed.b1_gen N K L1 (impl_transposed.k1g N L0 (impl_transposed.k0 N K gv0)) gv0 x1 x3 gv4
  rw [impl_transposed.k1_mix] at h
  exact h

theorem impl_transposed.a1_0_gen {ρ : Type} (N : Nat) (K : AV → Heap → Option ρ) (L0 : St → Option ρ) (kv : XE → St → Option ρ) (gv0 : Nat → Int) (x1 : Int) (ov5 : Nat → Int) :
    (impl_transposed.k1g N L0 (mixK (impl_transposed.fin N K gv0 .ret) kv)) (.exit 2) (impl_transposed.sx1_0 gv0 x1 ov5) = (impl_transposed.a1_0 N (fun d0 => K (.agg [⟨.u8, 64, d0⟩]) [⟨false, .flat 64 (.ints .u8 gv0)⟩]) (fun x1 gv2 => L0 (impl_transposed.st0 gv0 x1 gv2)) (fun ov6 => kv (.exit 0) (impl_transposed.sx0_0 gv0 ov6)) x1 ov5) := by kernel_rfl

theorem impl_transposed.a1_0_eq {ρ : Type} (N : Nat) (K : AV → Heap → Option ρ) (L0 : St → Option ρ) (gv0 : Nat → Int) (x1 : Int) (ov5 : Nat → Int) :
    (impl_transposed.k1g N L0 (impl_transposed.k0 N K gv0)) (.exit 2) (impl_transposed.sx1_0 gv0 x1 ov5) = (impl_transposed.a1_0 N (fun d0 => K (.agg [⟨.u8, 64, d0⟩]) [⟨false, .flat 64 (.ints .u8 gv0)⟩]) (fun x1 gv2 => L0 (impl_transposed.st0 gv0 x1 gv2)) (fun ov6 => (impl_transposed.k0 N K gv0) (.exit 0) (impl_transposed.sx0_0 gv0 ov6)) x1 ov5) := by
  have h := impl_transposed.a1_0_gen N K L0 (impl_transposed.k0 N K gv0) gv0 x1 ov5
  rw [impl_transposed.k0_mix] at h
  exact h

theorem impl_transposed.b0_gen {ρ : Type} (N : Nat) (K : AV → Heap → Option ρ) (L0 : St → Option ρ) (kv : XE → St → Option ρ) (gv0 : Nat → Int) (x1 : Int) (gv2 : Nat → Int) :
    xcode (E49 N) ents impl_transposed.kp 1 N (cL (cK (cB (cA (cB (cB impl_transposed.bd)))))) 0 (impl_transposed.st0 gv0 x1 gv2) (roundK impl_transposed.kp 1 0 L0 (mixK (impl_transposed.fin N K gv0 .ret) kv)) = (impl_transposed.b0 N (fun d0 => K (.agg [⟨.u8, 64, d0⟩]) [⟨false, .flat 64 (.ints .u8 gv0)⟩]) (fun x3 gv4 => xloop (xcode (E49 N) ents impl_transposed.kp 1 N (cL (cK (cB (cB (cK (cA (cB (cB (cL (cK (cB (cA (cB (cB impl_transposed.bd)))))))))))))) 2) impl_transposed.kp 1 2 N (impl_transposed.st1 gv0 x1 x3 gv4) (impl_transposed.k1g N L0 (mixK (impl_transposed.fin N K gv0 .ret) kv))) (fun x1 gv2 => L0 (impl_transposed.st0 gv0 x1 gv2)) (fun ov6 => kv (.exit 0) (impl_transposed.sx0_0 gv0 ov6)) x1 gv2) := by kernel_rfl

theorem impl_transposed.b0_eq {ρ : Type} (N : Nat) (K : AV → Heap → Option ρ) (L0 : St → Option ρ) (gv0 : Nat → Int) (x1 : Int) (gv2 : Nat → Int) :
    xcode (E49 N) ents impl_transposed.kp 1 N (cL (cK (cB (cA (cB (cB impl_transposed.bd)))))) 0 (impl_transposed.st0 gv0 x1 gv2) (roundK impl_transposed.kp 1 0 L0 (impl_transposed.k0 N K gv0)) = (impl_transposed.b0 N (fun d0 => K (.agg [⟨.u8, 64, d0⟩]) [⟨false, .flat 64 (.ints .u8 gv0)⟩]) (fun x3 gv4 => xloop (xcode (E49 N) ents impl_transposed.kp 1 N (cL (cK (cB (cB (cK (cA (cB (cB (cL (cK (cB (cA (cB (cB impl_transposed.bd)))))))))))))) 2) impl_transposed.kp 1 2 N (impl_transposed.st1 gv0 x1 x3 gv4) (impl_transposed.k1g N L0 (impl_transposed.k0 N K gv0))) (fun x1 gv2 => L0 (impl_transposed.st0 gv0 x1 gv2)) (fun ov6 => (impl_transposed.k0 N K gv0) (.exit 0) (impl_transposed.sx0_0 gv0 ov6)) x1 gv2) := by
  have h := impl_transposed.b0_gen N K L0 (impl_transposed.k0 N K gv0) gv0 x1 gv2
  rw [impl_transposed.k0_mix] at h
  exact h

theorem impl_transposed.a0_0_eq {ρ : Type} (N : Nat) (K : AV → Heap → Option ρ) (gv0 : Nat → Int) (ov6 : Nat → Int) :
    (impl_transposed.k0 N K gv0) (.exit 0) (impl_transposed.sx0_0 gv0 ov6) = (impl_transposed.a0_0 N (fun d0 => K (.agg [⟨.u8, 64, d0⟩]) [⟨false, .flat 64 (.ints .u8 gv0)⟩]) ov6) := by kernel_rfl

theorem impl_transposed.l1_eq {ρ : Type} (N : Nat) (K : AV → Heap → Option ρ) (L0 : St → Option ρ) (gv0 : Nat → Int) (x1 : Int) :
    ∀ (m : Nat) (x3 : Int) (gv4 : Nat → Int), xloop (xcode (E49 N) ents impl_transposed.kp 1 N (cL (cK (cB (cB (cK (cA (cB (cB (cL (cK (cB (cA (cB (cB impl_transposed.bd)))))))))))))) 2) impl_transposed.kp 1 2 m (impl_transposed.st1 gv0 x1 x3 gv4) (impl_transposed.k1g N L0 (impl_transposed.k0 N K gv0)) = (impl_transposed.l1 N (fun d0 => K (.agg [⟨.u8, 64, d0⟩]) [⟨false, .flat 64 (.ints .u8 gv0)⟩]) gv0 x1 (fun ov5 => (impl_transposed.k1g N L0 (impl_transposed.k0 N K gv0)) (.exit 2) (impl_transposed.sx1_0 gv0 x1 ov5)) m x3 gv4) := by
  intro m
  induction m with
  | zero => intros; rfl
  | succ m ih =>
    intro x3 gv4
    refine (impl_transposed.b1_eq N K L0 (fun s => xloop (xcode (E49 N) ents impl_transposed.kp 1 N (cL (cK (cB (cB (cK (cA (cB (cB (cL (cK (cB (cA (cB (cB impl_transposed.bd)))))))))))))) 2) impl_transposed.kp 1 2 m s (impl_transposed.k1g N L0 (impl_transposed.k0 N K gv0))) gv0 x1 x3 gv4).trans ?_
    simp only [ih]
    kernel_rfl

theorem impl_transposed.l0_eq {ρ : Type} (N : Nat) (K : AV → Heap → Option ρ) (gv0 : Nat → Int) :
    ∀ (m : Nat) (x1 : Int) (gv2 : Nat → Int), xloop (xcode (E49 N) ents impl_transposed.kp 1 N (cL (cK (cB (cA (cB (cB impl_transposed.bd)))))) 0) impl_transposed.kp 1 0 m (impl_transposed.st0 gv0 x1 gv2) (impl_transposed.k0 N K gv0) = (impl_transposed.l0 N (fun d0 => K (.agg [⟨.u8, 64, d0⟩]) [⟨false, .flat 64 (.ints .u8 gv0)⟩]) gv0 (fun ov6 => (impl_transposed.k0 N K gv0) (.exit 0) (impl_transposed.sx0_0 gv0 ov6)) m x1 gv2) := by
  intro m
  induction m with
  | zero => intros; rfl
  | succ m ih =>
    intro x1 gv2
    refine (impl_transposed.b0_eq N K (fun s => xloop (xcode (E49 N) ents impl_transposed.kp 1 N (cL (cK (cB (cA (cB (cB impl_transposed.bd)))))) 0) impl_transposed.kp 1 0 m s (impl_transposed.k0 N K gv0)) gv0 x1 gv2).trans ?_
    simp only [ih, impl_transposed.l1_eq, impl_transposed.a1_0_eq]
    kernel_rfl

theorem impl_transposed.s_eq {ρ : Type} (N : Nat) (K : AV → Heap → Option ρ) (gv0 : Nat → Int) :
    xbody (E49 N) ents impl_transposed.kp N Go.Proofs.Try.f66 impl_transposed.bd [.sptr [(0, 64)]] [⟨false, .flat 64 (.ints .u8 gv0)⟩] K = (impl_transposed.s N (fun d0 => K (.agg [⟨.u8, 64, d0⟩]) [⟨false, .flat 64 (.ints .u8 gv0)⟩]) (fun x1 gv2 => xloop (xcode (E49 N) ents impl_transposed.kp 1 N (cL (cK (cB (cA (cB (cB impl_transposed.bd)))))) 0) impl_transposed.kp 1 0 N (impl_transposed.st0 gv0 x1 gv2) (impl_transposed.k0 N K gv0))) := by kernel_rfl

theorem impl_transposed.eq {ρ : Type} (N : Nat) (K : AV → Heap → Option ρ) (gv0 : Nat → Int) :
    xbody (E49 N) ents impl_transposed.kp N Go.Proofs.Try.f66 impl_transposed.bd [.sptr [(0, 64)]] [⟨false, .flat 64 (.ints .u8 gv0)⟩] K = (impl_transposed N (fun d0 => K (.agg [⟨.u8, 64, d0⟩]) [⟨false, .flat 64 (.ints .u8 gv0)⟩]) gv0) := by
  refine (impl_transposed.s_eq N K gv0).trans ?_
  simp only [impl_transposed.l0_eq, impl_transposed.a0_0_eq]
  kernel_rfl

noncomputable def impl_transposed.en (N : Nat) (ρ : Type) : List AV → Heap → (AV → Heap → Option ρ) → Option ρ
  | [.sptr [(0, 64)]], [⟨false, .flat 64 (.ints .u8 gv0)⟩], K => (impl_transposed N (fun d0 => K (.agg [⟨.u8, 64, d0⟩]) [⟨false, .flat 64 (.ints .u8 gv0)⟩]) gv0)
  | _, _, _ => none

theorem impl_transposed.en_ok (N : Nat) (hE : EnvOk (E49 N) ents) (ρ : Type) (args : List AV) (sh : Heap) (K : AV → Heap → Option ρ) (r : ρ) (h : impl_transposed.en N ρ args sh K = some r) : ∃ v sh', K v sh' = some r ∧ FnOk (E49 N).P 66 args sh v sh' := by
  unfold impl_transposed.en at h
  split at h
  · exact fn_ok hE (kp := impl_transposed.kp) (N := N) Go.Proofs.Try.func66 (c := impl_transposed.bd) (by kernel_rfl) ((impl_transposed.eq N _ _).trans h)
  · cases h

noncomputable def E50 (N : Nat) : Env := (E49 N).add 66 (impl_transposed.en N)

theorem E50_ok (N : Nat) : EnvOk (E50 N) ents := Env.add_ok (E49_ok N) (impl_transposed.en_ok N (E49_ok N))

noncomputable def impl_newSystem.kp : Keeps := ⟨[], [], []⟩

noncomputable def impl_newSystem.bd : Code := bodyOf Go.Proofs.Try.f113

noncomputable def impl_newSystem.fin {ρ : Type} (N : Nat) (K : AV → Heap → Option ρ) : XE → St → Option ρ := finK (E50 N) impl_newSystem.kp.fins Go.Proofs.Try.f113 [] K

theorem impl_newSystem.eq {ρ : Type} (N : Nat) (K : AV → Heap → Option ρ) (p0 : Int) (many1 : Int) :
    xbody (E50 N) ents impl_newSystem.kp N Go.Proofs.Try.f113 impl_newSystem.bd [.int .i64 (p0), .int .i64 (many1)] [] K = (impl_newSystem N (fun d0 d1 => K (.sptr [(0, 2), (1, 1), (2, 1), (3, 1)]) [⟨true, .flat 2 (.ints .i64 d0)⟩, ⟨true, .flat 1 (.ints .i64 d1)⟩, ⟨true, .avs [.nils]⟩, ⟨true, .avs [.nils]⟩]) p0 many1) := by kernel_rfl

noncomputable def impl_newSystem.en (N : Nat) (ρ : Type) : List AV → Heap → (AV → Heap → Option ρ) → Option ρ
  | [.int .i64 (p0), .int .i64 (many1)], [], K => (impl_newSystem N (fun d0 d1 => K (.sptr [(0, 2), (1, 1), (2, 1), (3, 1)]) [⟨true, .flat 2 (.ints .i64 d0)⟩, ⟨true, .flat 1 (.ints .i64 d1)⟩, ⟨true, .avs [.nils]⟩, ⟨true, .avs [.nils]⟩]) p0 many1)
  | _, _, _ => none

theorem impl_newSystem.en_ok (N : Nat) (hE : EnvOk (E50 N) ents) (ρ : Type) (args : List AV) (sh : Heap) (K : AV → Heap → Option ρ) (r : ρ) (h : impl_newSystem.en N ρ args sh K = some r) : ∃ v sh', K v sh' = some r ∧ FnOk (E50 N).P 113 args sh v sh' := by
  unfold impl_newSystem.en at h
  split at h
  · exact fn_ok hE (kp := impl_newSystem.kp) (N := N) Go.Proofs.Try.func113 (c := impl_newSystem.bd) (by kernel_rfl) ((impl_newSystem.eq N _ _ _).trans h)
  · cases h

noncomputable def E51 (N : Nat) : Env := (E50 N).add 113 (impl_newSystem.en N)

theorem E51_ok (N : Nat) : EnvOk (E51 N) ents := Env.add_ok (E50_ok N) (impl_newSystem.en_ok N (E50_ok N))

noncomputable def slices_Clone_s.kp : Keeps := ⟨[], [], []⟩

noncomputable def slices_Clone_s.bd : Code := bodyOf Go.Proofs.Try.f114

noncomputable def slices_Clone_s.fin {ρ : Type} (N : Nat) (K : AV → Heap → Option ρ) (gv2 : Nat) (gv3 : Nat → Int) : XE → St → Option ρ := finK (E51 N) slices_Clone_s.kp.fins Go.Proofs.Try.f114 [⟨false, .flat gv2 (.ints .u8 gv3)⟩] K

theorem slices_Clone_s.eq {ρ : Type} (N : Nat) (K : AV → Heap → Option ρ) (s0 : Nat) (s1 : Nat) (gv2 : Nat) (gv3 : Nat → Int) :
    xbody (E51 N) ents slices_Clone_s.kp N Go.Proofs.Try.f114 slices_Clone_s.bd [.slice true 0 0 s0 (.exact s1) 1] [⟨false, .flat gv2 (.ints .u8 gv3)⟩] K = (slices_Clone_s N (fun d0 d1 => K (.slice true 1 0 d0 .whole 1) [⟨false, .flat gv2 (.ints .u8 gv3)⟩, ⟨true, .flat 0 (.ints .u8 d1)⟩]) s0 s1 gv2 gv3) := by kernel_rfl

noncomputable def slices_Clone_s.en (N : Nat) (ρ : Type) : List AV → Heap → (AV → Heap → Option ρ) → Option ρ
  | [.slice true 0 0 s0 (.exact s1) 1], [⟨false, .flat gv2 (.ints .u8 gv3)⟩], K => (slices_Clone_s N (fun d0 d1 => K (.slice true 1 0 d0 .whole 1) [⟨false, .flat gv2 (.ints .u8 gv3)⟩, ⟨true, .flat 0 (.ints .u8 d1)⟩]) s0 s1 gv2 gv3)
  | _, _, _ => none

theorem slices_Clone_s.en_ok (N : Nat) (hE : EnvOk (E51 N) ents) (ρ : Type) (args : List AV) (sh : Heap) (K : AV → Heap → Option ρ) (r : ρ) (h : slices_Clone_s.en N ρ args sh K = some r) : ∃ v sh', K v sh' = some r ∧ FnOk (E51 N).P 114 args sh v sh' := by
  unfold slices_Clone_s.en at h
  split at h
  · exact fn_ok hE (kp := slices_Clone_s.kp) (N := N) Go.Proofs.Try.func114 (c := slices_Clone_s.bd) (by kernel_rfl) ((slices_Clone_s.eq N _ _ _ _ _).trans h)
  · cases h

noncomputable def E52 (N : Nat) : Env := (E51 N).add 114 (slices_Clone_s.en N)

theorem E52_ok (N : Nat) : EnvOk (E52 N) ents := Env.add_ok (E51_ok N) (slices_Clone_s.en_ok N (E51_ok N))

noncomputable def impl_system_solve_c1_su.kp : Keeps := ⟨[], [], []⟩

noncomputable def impl_system_solve_c1_su.bd : Code := bodyOf Go.Proofs.Try.f142

noncomputable def impl_system_solve_c1_su.fin {ρ : Type} (N : Nat) (K : AV → Heap → Option ρ) (gv1 : Nat) (gv2 : Nat → Int) (gv3 : Nat → Int) : XE → St → Option ρ := finK (E52 N) impl_system_solve_c1_su.kp.fins Go.Proofs.Try.f142 [⟨false, .flat gv1 (.ints .u8 gv2)⟩, ⟨false, .flat 1 (.ints .i64 gv3)⟩] K

theorem impl_system_solve_c1_su.eq {ρ : Type} (N : Nat) (K : AV → Heap → Option ρ) (rv0 : Nat) (gv1 : Nat) (gv2 : Nat → Int) (gv3 : Nat → Int) :
    xbody (E52 N) ents impl_system_solve_c1_su.kp N Go.Proofs.Try.f142 impl_system_solve_c1_su.bd [.slice false 0 0 rv0 .unk 1, .sptr [(1, 1)]] [⟨false, .flat gv1 (.ints .u8 gv2)⟩, ⟨false, .flat 1 (.ints .i64 gv3)⟩] K = (impl_system_solve_c1_su N (fun d0 => K (.bool (d0)) [⟨false, .flat gv1 (.ints .u8 gv2)⟩, ⟨false, .flat 1 (.ints .i64 gv3)⟩]) rv0 gv1 gv2 gv3) := by kernel_rfl

noncomputable def impl_system_solve_c1_su.en (N : Nat) (ρ : Type) : List AV → Heap → (AV → Heap → Option ρ) → Option ρ
  | [.slice false 0 0 rv0 .unk 1, .sptr [(1, 1)]], [⟨false, .flat gv1 (.ints .u8 gv2)⟩, ⟨false, .flat 1 (.ints .i64 gv3)⟩], K => (impl_system_solve_c1_su N (fun d0 => K (.bool (d0)) [⟨false, .flat gv1 (.ints .u8 gv2)⟩, ⟨false, .flat 1 (.ints .i64 gv3)⟩]) rv0 gv1 gv2 gv3)
  | _, _, _ => none

theorem impl_system_solve_c1_su.en_ok (N : Nat) (hE : EnvOk (E52 N) ents) (ρ : Type) (args : List AV) (sh : Heap) (K : AV → Heap → Option ρ) (r : ρ) (h : impl_system_solve_c1_su.en N ρ args sh K = some r) : ∃ v sh', K v sh' = some r ∧ FnOk (E52 N).P 142 args sh v sh' := by
  unfold impl_system_solve_c1_su.en at h
  split at h
  · exact fn_ok hE (kp := impl_system_solve_c1_su.kp) (N := N) Go.Proofs.Try.func142 (c := impl_system_solve_c1_su.bd) (by kernel_rfl) ((impl_system_solve_c1_su.eq N _ _ _ _ _).trans h)
  · cases h

noncomputable def E53 (N : Nat) : Env := (E52 N).add 142 (impl_system_solve_c1_su.en N)

theorem E53_ok (N : Nat) : EnvOk (E53 N) ents := Env.add_ok (E52_ok N) (impl_system_solve_c1_su.en_ok N (E52_ok N))

noncomputable def impl_system_solve_c2_su.kp : Keeps := ⟨[], [], []⟩

noncomputable def impl_system_solve_c2_su.bd : Code := bodyOf Go.Proofs.Try.f145

noncomputable def impl_system_solve_c2_su.fin {ρ : Type} (N : Nat) (K : AV → Heap → Option ρ) (gv1 : Nat) (gv2 : Nat → Int) (gv3 : Nat → Int) (gv4 : Nat → Int) (gv5 : Nat) (gv6 : Nat) (gv7 : Nat) (gv8 : Nat) (gv9 : Nat → Nat) (gv10 : Nat → Nat) (gv11 : Nat) (gv12 : Nat → Int) (gv13 : Nat → Int) : XE → St → Option ρ := finK (E53 N) impl_system_solve_c2_su.kp.fins Go.Proofs.Try.f145 [⟨false, .flat gv1 (.ints .u8 gv2)⟩, ⟨false, .avs [.sptr [(2, 2), (3, 1), (4, 1), (5, 1)]]⟩, ⟨false, .flat 2 (.ints .i64 gv3)⟩, ⟨false, .flat 1 (.ints .i64 gv4)⟩, ⟨false, .avs [.slice false 6 0 gv5 .unk 1]⟩, ⟨false, .avs [.slice false 7 0 gv6 .unk 1]⟩, ⟨false, .hdr 8 gv7 gv8 gv9 gv10 none⟩, ⟨false, .flat gv11 (.ints .i64 gv12)⟩, ⟨false, .flat 0 (.ints .u8 gv13)⟩] K

theorem impl_system_solve_c2_su.eq {ρ : Type} (N : Nat) (K : AV → Heap → Option ρ) (rv0 : Nat) (gv1 : Nat) (gv2 : Nat → Int) (gv3 : Nat → Int) (gv4 : Nat → Int) (gv5 : Nat) (gv6 : Nat) (gv7 : Nat) (gv8 : Nat) (gv9 : Nat → Nat) (gv10 : Nat → Nat) (gv11 : Nat) (gv12 : Nat → Int) (gv13 : Nat → Int) :
    xbody (E53 N) ents impl_system_solve_c2_su.kp N Go.Proofs.Try.f145 impl_system_solve_c2_su.bd [.slice false 0 0 rv0 .unk 1, .sptr [(1, 1)]] [⟨false, .flat gv1 (.ints .u8 gv2)⟩, ⟨false, .avs [.sptr [(2, 2), (3, 1), (4, 1), (5, 1)]]⟩, ⟨false, .flat 2 (.ints .i64 gv3)⟩, ⟨false, .flat 1 (.ints .i64 gv4)⟩, ⟨false, .avs [.slice false 6 0 gv5 .unk 1]⟩, ⟨false, .avs [.slice false 7 0 gv6 .unk 1]⟩, ⟨false, .hdr 8 gv7 gv8 gv9 gv10 none⟩, ⟨false, .flat gv11 (.ints .i64 gv12)⟩, ⟨false, .flat 0 (.ints .u8 gv13)⟩] K = (impl_system_solve_c2_su N (fun d0 => K (.bool (d0)) [⟨false, .flat gv1 (.ints .u8 gv2)⟩, ⟨false, .avs [.sptr [(2, 2), (3, 1), (4, 1), (5, 1)]]⟩, ⟨false, .flat 2 (.ints .i64 gv3)⟩, ⟨false, .flat 1 (.ints .i64 gv4)⟩, ⟨false, .avs [.slice false 6 0 gv5 .unk 1]⟩, ⟨false, .avs [.slice false 7 0 gv6 .unk 1]⟩, ⟨false, .hdr 8 gv7 gv8 gv9 gv10 none⟩, ⟨false, .flat gv11 (.ints .i64 gv12)⟩, ⟨false, .flat 0 (.ints .u8 gv13)⟩]) rv0 gv1 gv2 gv3 gv4 gv5 gv6 gv7 gv8 gv9 gv10 gv11 gv12 gv13) := by kernel_rfl

noncomputable def impl_system_solve_c2_su.en (N : Nat) (ρ : Type) : List AV → Heap → (AV → Heap → Option ρ) → Option ρ
  | [.slice false 0 0 rv0 .unk 1, .sptr [(1, 1)]], [⟨false, .flat gv1 (.ints .u8 gv2)⟩, ⟨false, .avs [.sptr [(2, 2), (3, 1), (4, 1), (5, 1)]]⟩, ⟨false, .flat 2 (.ints .i64 gv3)⟩, ⟨false, .flat 1 (.ints .i64 gv4)⟩, ⟨false, .avs [.slice false 6 0 gv5 .unk 1]⟩, ⟨false, .avs [.slice false 7 0 gv6 .unk 1]⟩, ⟨false, .hdr 8 gv7 gv8 gv9 gv10 none⟩, ⟨false, .flat gv11 (.ints .i64 gv12)⟩, ⟨false, .flat 0 (.ints .u8 gv13)⟩], K => (impl_system_solve_c2_su N (fun d0 => K (.bool (d0)) [⟨false, .flat gv1 (.ints .u8 gv2)⟩, ⟨false, .avs [.sptr [(2, 2), (3, 1), (4, 1), (5, 1)]]⟩, ⟨false, .flat 2 (.ints .i64 gv3)⟩, ⟨false, .flat 1 (.ints .i64 gv4)⟩, ⟨false, .avs [.slice false 6 0 gv5 .unk 1]⟩, ⟨false, .avs [.slice false 7 0 gv6 .unk 1]⟩, ⟨false, .hdr 8 gv7 gv8 gv9 gv10 none⟩, ⟨false, .flat gv11 (.ints .i64 gv12)⟩, ⟨false, .flat 0 (.ints .u8 gv13)⟩]) rv0 gv1 gv2 gv3 gv4 gv5 gv6 gv7 gv8 gv9 gv10 gv11 gv12 gv13)
  | _, _, _ => none

theorem impl_system_solve_c2_su.en_ok (N : Nat) (hE : EnvOk (E53 N) ents) (ρ : Type) (args : List AV) (sh : Heap) (K : AV → Heap → Option ρ) (r : ρ) (h : impl_system_solve_c2_su.en N ρ args sh K = some r) : ∃ v sh', K v sh' = some r ∧ FnOk (E53 N).P 145 args sh v sh' := by
  unfold impl_system_solve_c2_su.en at h
  split at h
  · exact fn_ok hE (kp := impl_system_solve_c2_su.kp) (N := N) Go.Proofs.Try.func145 (c := impl_system_solve_c2_su.bd) (by kernel_rfl) ((impl_system_solve_c2_su.eq N _ _ _ _ _ _ _ _ _ _ _ _ _ _ _).trans h)
  · cases h

noncomputable def E54 (N : Nat) : Env := (E53 N).add 145 (impl_system_solve_c2_su.en N)

theorem E54_ok (N : Nat) : EnvOk (E54 N) ents := Env.add_ok (E53_ok N) (impl_system_solve_c2_su.en_ok N (E53_ok N))

noncomputable def slices_IndexFunc_suhf.kp : Keeps := ⟨[(0, [0, 1, 7, 8], [], [])], [(0, [], [], [])], []⟩

noncomputable def slices_IndexFunc_suhf.bd : Code := bodyOf Go.Proofs.Try.f141

noncomputable def slices_IndexFunc_suhf.fin {ρ : Type} (N : Nat) (K : AV → Heap → Option ρ) (gv1 : Nat) (gv2 : Nat) (gv3 : Nat → Nat) (gv4 : Nat → Nat) (gv5 : Nat → Int) (gv6 : Nat → Int) : XE → St → Option ρ := finK (E54 N) slices_IndexFunc_suhf.kp.fins Go.Proofs.Try.f141 [⟨false, .hdr 2 gv1 gv2 gv3 gv4 none⟩, ⟨false, .flat 1 (.ints .i64 gv5)⟩, ⟨false, .flat 0 (.ints .u8 gv6)⟩] K

noncomputable def slices_IndexFunc_suhf.k0 {ρ : Type} (N : Nat) (K : AV → Heap → Option ρ) (gv1 : Nat) (gv2 : Nat) (gv3 : Nat → Nat) (gv4 : Nat → Nat) (gv5 : Nat → Int) (gv6 : Nat → Int) : XE → St → Option ρ := (blockK slices_IndexFunc_suhf.kp 3 0 (seqK (xcode (E54 N) ents slices_IndexFunc_suhf.kp 3 N (cB (cB slices_IndexFunc_suhf.bd)) 0) (slices_IndexFunc_suhf.fin N K gv1 gv2 gv3 gv4 gv5 gv6)))

theorem slices_IndexFunc_suhf.k0_mix {ρ : Type} (N : Nat) (K : AV → Heap → Option ρ) (gv1 : Nat) (gv2 : Nat) (gv3 : Nat → Nat) (gv4 : Nat → Nat) (gv5 : Nat → Int) (gv6 : Nat → Int) : mixK (slices_IndexFunc_suhf.fin N K gv1 gv2 gv3 gv4 gv5 gv6 .ret) (slices_IndexFunc_suhf.k0 N K gv1 gv2 gv3 gv4 gv5 gv6) = (slices_IndexFunc_suhf.k0 N K gv1 gv2 gv3 gv4 gv5 gv6) := by
  funext e s; cases e <;> kernel_rfl

noncomputable def slices_IndexFunc_suhf.st0 (s0 : Nat) (gv1 : Nat) (gv2 : Nat) (gv3 : Nat → Nat) (gv4 : Nat → Nat) (gv5 : Nat → Int) (gv6 : Nat → Int) (x7 : Int) : St := ⟨sl 19 [(0, .slice false 0 0 s0 .unk 1), (1, .fn 142 0 [[(1, 1)]]), (7, .int .i64 ((s0 : Int))), (8, .int .i64 (x7))], [⟨false, .hdr 2 gv1 gv2 gv3 gv4 none⟩, ⟨false, .flat 1 (.ints .i64 gv5)⟩, ⟨false, .flat 0 (.ints .u8 gv6)⟩]⟩

noncomputable def slices_IndexFunc_suhf.sx0_0 (gv1 : Nat) (gv2 : Nat) (gv3 : Nat → Nat) (gv4 : Nat → Nat) (gv5 : Nat → Int) (gv6 : Nat → Int) : St := ⟨sl 19 [], [⟨false, .hdr 2 gv1 gv2 gv3 gv4 none⟩, ⟨false, .flat 1 (.ints .i64 gv5)⟩, ⟨false, .flat 0 (.ints .u8 gv6)⟩]⟩

theorem slices_IndexFunc_suhf.b0_gen {ρ : Type} (N : Nat) (K : AV → Heap → Option ρ) (L0 : St → Option ρ) (kv : XE → St → Option ρ) (s0 : Nat) (gv1 : Nat) (gv2 : Nat) (gv3 : Nat → Nat) (gv4 : Nat → Nat) (gv5 : Nat → Int) (gv6 : Nat → Int) (x7 : Int) :
    xcode (E54 N) ents slices_IndexFunc_suhf.kp 3 N (cL (cK (cB (cA (cB slices_IndexFunc_suhf.bd))))) 0 (slices_IndexFunc_suhf.st0 s0 gv1 gv2 gv3 gv4 gv5 gv6 x7) (roundK slices_IndexFunc_suhf.kp 3 0 L0 (mixK (slices_IndexFunc_suhf.fin N K gv1 gv2 gv3 gv4 gv5 gv6 .ret) kv)) = (slices_IndexFunc_suhf.b0 N (fun d0 => K (.int .i64 (d0)) [⟨false, .hdr 2 gv1 gv2 gv3 gv4 none⟩, ⟨false, .flat 1 (.ints .i64 gv5)⟩, ⟨false, .flat 0 (.ints .u8 gv6)⟩]) (fun x7 => L0 (slices_IndexFunc_suhf.st0 s0 gv1 gv2 gv3 gv4 gv5 gv6 x7)) (kv (.exit 0) (slices_IndexFunc_suhf.sx0_0 gv1 gv2 gv3 gv4 gv5 gv6)) s0 gv3 gv4 gv5 gv6 x7) := by kernel_rfl

theorem slices_IndexFunc_suhf.b0_eq {ρ : Type} (N : Nat) (K : AV → Heap → Option ρ) (L0 : St → Option ρ) (s0 : Nat) (gv1 : Nat) (gv2 : Nat) (gv3 : Nat → Nat) (gv4 : Nat → Nat) (gv5 : Nat → Int) (gv6 : Nat → Int) (x7 : Int) :
    xcode (E54 N) ents slices_IndexFunc_suhf.kp 3 N (cL (cK (cB (cA (cB slices_IndexFunc_suhf.bd))))) 0 (slices_IndexFunc_suhf.st0 s0 gv1 gv2 gv3 gv4 gv5 gv6 x7) (roundK slices_IndexFunc_suhf.kp 3 0 L0 (slices_IndexFunc_suhf.k0 N K gv1 gv2 gv3 gv4 gv5 gv6)) = (slices_IndexFunc_suhf.b0 N (fun d0 => K (.int .i64 (d0)) [⟨false, .hdr 2 gv1 gv2 gv3 gv4 none⟩, ⟨false, .flat 1 (.ints .i64 gv5)⟩, ⟨false, .flat 0 (.ints .u8 gv6)⟩]) (fun x7 => L0 (slices_IndexFunc_suhf.st0 s0 gv1 gv2 gv3 gv4 gv5 gv6 x7)) ((slices_IndexFunc_suhf.k0 N K gv1 gv2 gv3 gv4 gv5 gv6) (.exit 0) (slices_IndexFunc_suhf.sx0_0 gv1 gv2 gv3 gv4 gv5 gv6)) s0 gv3 gv4 gv5 gv6 x7) := by
  have h := slices_IndexFunc_suhf.b0_gen N K L0 (slices_IndexFunc_suhf.k0 N K gv1 gv2 gv3 gv4 gv5 gv6) s0 gv1 gv2 gv3 gv4 gv5 gv6 x7
  rw [slices_IndexFunc_suhf.k0_mix] at h
  exact h

theorem slices_IndexFunc_suhf.a0_0_eq {ρ : Type} (N : Nat) (K : AV → Heap → Option ρ) (gv1 : Nat) (gv2 : Nat) (gv3 : Nat → Nat) (gv4 : Nat → Nat) (gv5 : Nat → Int) (gv6 : Nat → Int) :
    (slices_IndexFunc_suhf.k0 N K gv1 gv2 gv3 gv4 gv5 gv6) (.exit 0) (slices_IndexFunc_suhf.sx0_0 gv1 gv2 gv3 gv4 gv5 gv6) = (slices_IndexFunc_suhf.a0_0 N (fun d0 => K (.int .i64 (d0)) [⟨false, .hdr 2 gv1 gv2 gv3 gv4 none⟩, ⟨false, .flat 1 (.ints .i64 gv5)⟩, ⟨false, .flat 0 (.ints .u8 gv6)⟩])) := by kernel_rfl

theorem slices_IndexFunc_suhf.l0_eq {ρ : Type} (N : Nat) (K : AV → Heap → Option ρ) (s0 : Nat) (gv1 : Nat) (gv2 : Nat) (gv3 : Nat → Nat) (gv4 : Nat → Nat) (gv5 : Nat → Int) (gv6 : Nat → Int) :
    ∀ (m : Nat) (x7 : Int), xloop (xcode (E54 N) ents slices_IndexFunc_suhf.kp 3 N (cL (cK (cB (cA (cB slices_IndexFunc_suhf.bd))))) 0) slices_IndexFunc_suhf.kp 3 0 m (slices_IndexFunc_suhf.st0 s0 gv1 gv2 gv3 gv4 gv5 gv6 x7) (slices_IndexFunc_suhf.k0 N K gv1 gv2 gv3 gv4 gv5 gv6) = (slices_IndexFunc_suhf.l0 N (fun d0 => K (.int .i64 (d0)) [⟨false, .hdr 2 gv1 gv2 gv3 gv4 none⟩, ⟨false, .flat 1 (.ints .i64 gv5)⟩, ⟨false, .flat 0 (.ints .u8 gv6)⟩]) s0 gv3 gv4 gv5 gv6 ((slices_IndexFunc_suhf.k0 N K gv1 gv2 gv3 gv4 gv5 gv6) (.exit 0) (slices_IndexFunc_suhf.sx0_0 gv1 gv2 gv3 gv4 gv5 gv6)) m x7) := by
  intro m
  induction m with
  | zero => intros; rfl
  | succ m ih =>
    intro x7
    refine (slices_IndexFunc_suhf.b0_eq N K (fun s => xloop (xcode (E54 N) ents slices_IndexFunc_suhf.kp 3 N (cL (cK (cB (cA (cB slices_IndexFunc_suhf.bd))))) 0) slices_IndexFunc_suhf.kp 3 0 m s (slices_IndexFunc_suhf.k0 N K gv1 gv2 gv3 gv4 gv5 gv6)) s0 gv1 gv2 gv3 gv4 gv5 gv6 x7).trans ?_
    simp only [ih]
    kernel_rfl

theorem slices_IndexFunc_suhf.s_eq {ρ : Type} (N : Nat) (K : AV → Heap → Option ρ) (s0 : Nat) (gv1 : Nat) (gv2 : Nat) (gv3 : Nat → Nat) (gv4 : Nat → Nat) (gv5 : Nat → Int) (gv6 : Nat → Int) :
    xbody (E54 N) ents slices_IndexFunc_suhf.kp N Go.Proofs.Try.f141 slices_IndexFunc_suhf.bd [.slice false 0 0 s0 .unk 1, .fn 142 0 [[(1, 1)]]] [⟨false, .hdr 2 gv1 gv2 gv3 gv4 none⟩, ⟨false, .flat 1 (.ints .i64 gv5)⟩, ⟨false, .flat 0 (.ints .u8 gv6)⟩] K = (slices_IndexFunc_suhf.s N (fun d0 => K (.int .i64 (d0)) [⟨false, .hdr 2 gv1 gv2 gv3 gv4 none⟩, ⟨false, .flat 1 (.ints .i64 gv5)⟩, ⟨false, .flat 0 (.ints .u8 gv6)⟩]) (fun x7 => xloop (xcode (E54 N) ents slices_IndexFunc_suhf.kp 3 N (cL (cK (cB (cA (cB slices_IndexFunc_suhf.bd))))) 0) slices_IndexFunc_suhf.kp 3 0 N (slices_IndexFunc_suhf.st0 s0 gv1 gv2 gv3 gv4 gv5 gv6 x7) (slices_IndexFunc_suhf.k0 N K gv1 gv2 gv3 gv4 gv5 gv6))) := by kernel_rfl

theorem slices_IndexFunc_suhf.eq {ρ : Type} (N : Nat) (K : AV → Heap → Option ρ) (s0 : Nat) (gv1 : Nat) (gv2 : Nat) (gv3 : Nat → Nat) (gv4 : Nat → Nat) (gv5 : Nat → Int) (gv6 : Nat → Int) :
    xbody (E54 N) ents slices_IndexFunc_suhf.kp N Go.Proofs.Try.f141 slices_IndexFunc_suhf.bd [.slice false 0 0 s0 .unk 1, .fn 142 0 [[(1, 1)]]] [⟨false, .hdr 2 gv1 gv2 gv3 gv4 none⟩, ⟨false, .flat 1 (.ints .i64 gv5)⟩, ⟨false, .flat 0 (.ints .u8 gv6)⟩] K = (slices_IndexFunc_suhf N (fun d0 => K (.int .i64 (d0)) [⟨false, .hdr 2 gv1 gv2 gv3 gv4 none⟩, ⟨false, .flat 1 (.ints .i64 gv5)⟩, ⟨false, .flat 0 (.ints .u8 gv6)⟩]) s0 gv1 gv2 gv3 gv4 gv5 gv6) := by
  refine (slices_IndexFunc_suhf.s_eq N K s0 gv1 gv2 gv3 gv4 gv5 gv6).trans ?_
  simp only [slices_IndexFunc_suhf.l0_eq, slices_IndexFunc_suhf.a0_0_eq]
  kernel_rfl

noncomputable def slices_IndexFunc_suhf_v2.kp : Keeps := ⟨[(0, [0, 1, 7, 8], [], [])], [(0, [], [], [])], []⟩

noncomputable def slices_IndexFunc_suhf_v2.bd : Code := bodyOf Go.Proofs.Try.f141

noncomputable def slices_IndexFunc_suhf_v2.fin {ρ : Type} (N : Nat) (K : AV → Heap → Option ρ) (gv1 : Nat) (gv2 : Nat) (gv3 : Nat → Nat) (gv4 : Nat → Nat) (gv5 : Nat → Int) (gv6 : Nat → Int) (gv7 : Nat → Int) (gv8 : Nat) (gv9 : Nat) (gv10 : Nat) (gv11 : Nat) (gv12 : Nat → Nat) (gv13 : Nat → Nat) (gv14 : Nat) (gv15 : Nat → Int) : XE → St → Option ρ := finK (E54 N) slices_IndexFunc_suhf_v2.kp.fins Go.Proofs.Try.f141 [⟨false, .hdr 2 gv1 gv2 gv3 gv4 none⟩, ⟨false, .avs [.sptr [(3, 2), (4, 1), (5, 1), (6, 1)]]⟩, ⟨false, .flat 0 (.ints .u8 gv5)⟩, ⟨false, .flat 2 (.ints .i64 gv6)⟩, ⟨false, .flat 1 (.ints .i64 gv7)⟩, ⟨false, .avs [.slice false 7 0 gv8 .unk 1]⟩, ⟨false, .avs [.slice false 8 0 gv9 .unk 1]⟩, ⟨false, .hdr 2 gv10 gv11 gv12 gv13 none⟩, ⟨false, .flat gv14 (.ints .i64 gv15)⟩] K

noncomputable def slices_IndexFunc_suhf_v2.k0 {ρ : Type} (N : Nat) (K : AV → Heap → Option ρ) (gv1 : Nat) (gv2 : Nat) (gv3 : Nat → Nat) (gv4 : Nat → Nat) (gv5 : Nat → Int) (gv6 : Nat → Int) (gv7 : Nat → Int) (gv8 : Nat) (gv9 : Nat) (gv10 : Nat) (gv11 : Nat) (gv12 : Nat → Nat) (gv13 : Nat → Nat) (gv14 : Nat) (gv15 : Nat → Int) : XE → St → Option ρ := (blockK slices_IndexFunc_suhf_v2.kp 9 0 (seqK (xcode (E54 N) ents slices_IndexFunc_suhf_v2.kp 9 N (cB (cB slices_IndexFunc_suhf_v2.bd)) 0) (slices_IndexFunc_suhf_v2.fin N K gv1 gv2 gv3 gv4 gv5 gv6 gv7 gv8 gv9 gv10 gv11 gv12 gv13 gv14 gv15)))

theorem slices_IndexFunc_suhf_v2.k0_mix {ρ : Type} (N : Nat) (K : AV → Heap → Option ρ) (gv1 : Nat) (gv2 : Nat) (gv3 : Nat → Nat) (gv4 : Nat → Nat) (gv5 : Nat → Int) (gv6 : Nat → Int) (gv7 : Nat → Int) (gv8 : Nat) (gv9 : Nat) (gv10 : Nat) (gv11 : Nat) (gv12 : Nat → Nat) (gv13 : Nat → Nat) (gv14 : Nat) (gv15 : Nat → Int) : mixK (slices_IndexFunc_suhf_v2.fin N K gv1 gv2 gv3 gv4 gv5 gv6 gv7 gv8 gv9 gv10 gv11 gv12 gv13 gv14 gv15 .ret) (slices_IndexFunc_suhf_v2.k0 N K gv1 gv2 gv3 gv4 gv5 gv6 gv7 gv8 gv9 gv10 gv11 gv12 gv13 gv14 gv15) = (slices_IndexFunc_suhf_v2.k0 N K gv1 gv2 gv3 gv4 gv5 gv6 gv7 gv8 gv9 gv10 gv11 gv12 gv13 gv14 gv15) := by
  funext e s; cases e <;> kernel_rfl

noncomputable def slices_IndexFunc_suhf_v2.st0 (s0 : Nat) (gv1 : Nat) (gv2 : Nat) (gv3 : Nat → Nat) (gv4 : Nat → Nat) (gv5 : Nat → Int) (gv6 : Nat → Int) (gv7 : Nat → Int) (gv8 : Nat) (gv9 : Nat) (gv10 : Nat) (gv11 : Nat) (gv12 : Nat → Nat) (gv13 : Nat → Nat) (gv14 : Nat) (gv15 : Nat → Int) (x16 : Int) : St := ⟨sl 19 [(0, .slice false 0 0 s0 .unk 1), (1, .fn 145 0 [[(1, 1)]]), (7, .int .i64 ((s0 : Int))), (8, .int .i64 (x16))], [⟨false, .hdr 2 gv1 gv2 gv3 gv4 none⟩, ⟨false, .avs [.sptr [(3, 2), (4, 1), (5, 1), (6, 1)]]⟩, ⟨false, .flat 0 (.ints .u8 gv5)⟩, ⟨false, .flat 2 (.ints .i64 gv6)⟩, ⟨false, .flat 1 (.ints .i64 gv7)⟩, ⟨false, .avs [.slice false 7 0 gv8 .unk 1]⟩, ⟨false, .avs [.slice false 8 0 gv9 .unk 1]⟩, ⟨false, .hdr 2 gv10 gv11 gv12 gv13 none⟩, ⟨false, .flat gv14 (.ints .i64 gv15)⟩]⟩

noncomputable def slices_IndexFunc_suhf_v2.sx0_0 (gv1 : Nat) (gv2 : Nat) (gv3 : Nat → Nat) (gv4 : Nat → Nat) (gv5 : Nat → Int) (gv6 : Nat → Int) (gv7 : Nat → Int) (gv8 : Nat) (gv9 : Nat) (gv10 : Nat) (gv11 : Nat) (gv12 : Nat → Nat) (gv13 : Nat → Nat) (gv14 : Nat) (gv15 : Nat → Int) : St := ⟨sl 19 [], [⟨false, .hdr 2 gv1 gv2 gv3 gv4 none⟩, ⟨false, .avs [.sptr [(3, 2), (4, 1), (5, 1), (6, 1)]]⟩, ⟨false, .flat 0 (.ints .u8 gv5)⟩, ⟨false, .flat 2 (.ints .i64 gv6)⟩, ⟨false, .flat 1 (.ints .i64 gv7)⟩, ⟨false, .avs [.slice false 7 0 gv8 .unk 1]⟩, ⟨false, .avs [.slice false 8 0 gv9 .unk 1]⟩, ⟨false, .hdr 2 gv10 gv11 gv12 gv13 none⟩, ⟨false, .flat gv14 (.ints .i64 gv15)⟩]⟩

theorem slices_IndexFunc_suhf_v2.b0_gen {ρ : Type} (N : Nat) (K : AV → Heap → Option ρ) (L0 : St → Option ρ) (kv : XE → St → Option ρ) (s0 : Nat) (gv1 : Nat) (gv2 : Nat) (gv3 : Nat → Nat) (gv4 : Nat → Nat) (gv5 : Nat → Int) (gv6 : Nat → Int) (gv7 : Nat → Int) (gv8 : Nat) (gv9 : Nat) (gv10 : Nat) (gv11 : Nat) (gv12 : Nat → Nat) (gv13 : Nat → Nat) (gv14 : Nat) (gv15 : Nat → Int) (x16 : Int) :
    xcode (E54 N) ents slices_IndexFunc_suhf_v2.kp 9 N (cL (cK (cB (cA (cB slices_IndexFunc_suhf_v2.bd))))) 0 (slices_IndexFunc_suhf_v2.st0 s0 gv1 gv2 gv3 gv4 gv5 gv6 gv7 gv8 gv9 gv10 gv11 gv12 gv13 gv14 gv15 x16) (roundK slices_IndexFunc_suhf_v2.kp 9 0 L0 (mixK (slices_IndexFunc_suhf_v2.fin N K gv1 gv2 gv3 gv4 gv5 gv6 gv7 gv8 gv9 gv10 gv11 gv12 gv13 gv14 gv15 .ret) kv)) = (slices_IndexFunc_suhf_v2.b0 N (fun d0 => K (.int .i64 (d0)) [⟨false, .hdr 2 gv1 gv2 gv3 gv4 none⟩, ⟨false, .avs [.sptr [(3, 2), (4, 1), (5, 1), (6, 1)]]⟩, ⟨false, .flat 0 (.ints .u8 gv5)⟩, ⟨false, .flat 2 (.ints .i64 gv6)⟩, ⟨false, .flat 1 (.ints .i64 gv7)⟩, ⟨false, .avs [.slice false 7 0 gv8 .unk 1]⟩, ⟨false, .avs [.slice false 8 0 gv9 .unk 1]⟩, ⟨false, .hdr 2 gv10 gv11 gv12 gv13 none⟩, ⟨false, .flat gv14 (.ints .i64 gv15)⟩]) (fun x16 => L0 (slices_IndexFunc_suhf_v2.st0 s0 gv1 gv2 gv3 gv4 gv5 gv6 gv7 gv8 gv9 gv10 gv11 gv12 gv13 gv14 gv15 x16)) (kv (.exit 0) (slices_IndexFunc_suhf_v2.sx0_0 gv1 gv2 gv3 gv4 gv5 gv6 gv7 gv8 gv9 gv10 gv11 gv12 gv13 gv14 gv15)) s0 gv3 gv4 gv5 gv6 gv7 gv8 gv9 gv11 gv12 gv13 gv15 x16) := by kernel_rfl

theorem slices_IndexFunc_suhf_v2.b0_eq {ρ : Type} (N : Nat) (K : AV → Heap → Option ρ) (L0 : St → Option ρ) (s0 : Nat) (gv1 : Nat) (gv2 : Nat) (gv3 : Nat → Nat) (gv4 : Nat → Nat) (gv5 : Nat → Int) (gv6 : Nat → Int) (gv7 : Nat → Int) (gv8 : Nat) (gv9 : Nat) (gv10 : Nat) (gv11 : Nat) (gv12 : Nat → Nat) (gv13 : Nat → Nat) (gv14 : Nat) (gv15 : Nat → Int) (x16 : Int) :
    xcode (E54 N) ents slices_IndexFunc_suhf_v2.kp 9 N (cL (cK (cB (cA (cB slices_IndexFunc_suhf_v2.bd))))) 0 (slices_IndexFunc_suhf_v2.st0 s0 gv1 gv2 gv3 gv4 gv5 gv6 gv7 gv8 gv9 gv10 gv11 gv12 gv13 gv14 gv15 x16) (roundK slices_IndexFunc_suhf_v2.kp 9 0 L0 (slices_IndexFunc_suhf_v2.k0 N K gv1 gv2 gv3 gv4 gv5 gv6 gv7 gv8 gv9 gv10 gv11 gv12 gv13 gv14 gv15)) = (slices_IndexFunc_suhf_v2.b0 N (fun d0 => K (.int .i64 (d0)) [⟨false, .hdr 2 gv1 gv2 gv3 gv4 none⟩, ⟨false, .avs [.sptr [(3, 2), (4, 1), (5, 1), (6, 1)]]⟩, ⟨false, .flat 0 (.ints .u8 gv5)⟩, ⟨false, .flat 2 (.ints .i64 gv6)⟩, ⟨false, .flat 1 (.ints .i64 gv7)⟩, ⟨false, .avs [.slice false 7 0 gv8 .unk 1]⟩, ⟨false, .avs [.slice false 8 0 gv9 .unk 1]⟩, ⟨false, .hdr 2 gv10 gv11 gv12 gv13 none⟩, ⟨false, .flat gv14 (.ints .i64 gv15)⟩]) (fun x16 => L0 (slices_IndexFunc_suhf_v2.st0 s0 gv1 gv2 gv3 gv4 gv5 gv6 gv7 gv8 gv9 gv10 gv11 gv12 gv13 gv14 gv15 x16)) ((slices_IndexFunc_suhf_v2.k0 N K gv1 gv2 gv3 gv4 gv5 gv6 gv7 gv8 gv9 gv10 gv11 gv12 gv13 gv14 gv15) (.exit 0) (slices_IndexFunc_suhf_v2.sx0_0 gv1 gv2 gv3 gv4 gv5 gv6 gv7 gv8 gv9 gv10 gv11 gv12 gv13 gv14 gv15)) s0 gv3 gv4 gv5 gv6 gv7 gv8 gv9 gv11 gv12 gv13 gv15 x16) := by
  have h := slices_IndexFunc_suhf_v2.b0_gen N K L0 (slices_IndexFunc_suhf_v2.k0 N K gv1 gv2 gv3 gv4 gv5 gv6 gv7 gv8 gv9 gv10 gv11 gv12 gv13 gv14 gv15) s0 gv1 gv2 gv3 gv4 gv5 gv6 gv7 gv8 gv9 gv10 gv11 gv12 gv13 gv14 gv15 x16
  rw [slices_IndexFunc_suhf_v2.k0_mix] at h
  exact h

theorem slices_IndexFunc_suhf_v2.a0_0_eq {ρ : Type} (N : Nat) (K : AV → Heap → Option ρ) (gv1 : Nat) (gv2 : Nat) (gv3 : Nat → Nat) (gv4 : Nat → Nat) (gv5 : Nat → Int) (gv6 : Nat → Int) (gv7 : Nat → Int) (gv8 : Nat) (gv9 : Nat) (gv10 : Nat) (gv11 : Nat) (gv12 : Nat → Nat) (gv13 : Nat → Nat) (gv14 : Nat) (gv15 : Nat → Int) :
    (slices_IndexFunc_suhf_v2.k0 N K gv1 gv2 gv3 gv4 gv5 gv6 gv7 gv8 gv9 gv10 gv11 gv12 gv13 gv14 gv15) (.exit 0) (slices_IndexFunc_suhf_v2.sx0_0 gv1 gv2 gv3 gv4 gv5 gv6 gv7 gv8 gv9 gv10 gv11 gv12 gv13 gv14 gv15) = (slices_IndexFunc_suhf_v2.a0_0 N (fun d0 => K (.int .i64 (d0)) [⟨false, .hdr 2 gv1 gv2 gv3 gv4 none⟩, ⟨false, .avs [.sptr [(3, 2), (4, 1), (5, 1), (6, 1)]]⟩, ⟨false, .flat 0 (.ints .u8 gv5)⟩, ⟨false, .flat 2 (.ints .i64 gv6)⟩, ⟨false, .flat 1 (.ints .i64 gv7)⟩, ⟨false, .avs [.slice false 7 0 gv8 .unk 1]⟩, ⟨false, .avs [.slice false 8 0 gv9 .unk 1]⟩, ⟨false, .hdr 2 gv10 gv11 gv12 gv13 none⟩, ⟨false, .flat gv14 (.ints .i64 gv15)⟩])) := by kernel_rfl

theorem slices_IndexFunc_suhf_v2.l0_eq {ρ : Type} (N : Nat) (K : AV → Heap → Option ρ) (s0 : Nat) (gv1 : Nat) (gv2 : Nat) (gv3 : Nat → Nat) (gv4 : Nat → Nat) (gv5 : Nat → Int) (gv6 : Nat → Int) (gv7 : Nat → Int) (gv8 : Nat) (gv9 : Nat) (gv10 : Nat) (gv11 : Nat) (gv12 : Nat → Nat) (gv13 : Nat → Nat) (gv14 : Nat) (gv15 : Nat → Int) :
    ∀ (m : Nat) (x16 : Int), xloop (xcode (E54 N) ents slices_IndexFunc_suhf_v2.kp 9 N (cL (cK (cB (cA (cB slices_IndexFunc_suhf_v2.bd))))) 0) slices_IndexFunc_suhf_v2.kp 9 0 m (slices_IndexFunc_suhf_v2.st0 s0 gv1 gv2 gv3 gv4 gv5 gv6 gv7 gv8 gv9 gv10 gv11 gv12 gv13 gv14 gv15 x16) (slices_IndexFunc_suhf_v2.k0 N K gv1 gv2 gv3 gv4 gv5 gv6 gv7 gv8 gv9 gv10 gv11 gv12 gv13 gv14 gv15) = (slices_IndexFunc_suhf_v2.l0 N (fun d0 => K (.int .i64 (d0)) [⟨false, .hdr 2 gv1 gv2 gv3 gv4 none⟩, ⟨false, .avs [.sptr [(3, 2), (4, 1), (5, 1), (6, 1)]]⟩, ⟨false, .flat 0 (.ints .u8 gv5)⟩, ⟨false, .flat 2 (.ints .i64 gv6)⟩, ⟨false, .flat 1 (.ints .i64 gv7)⟩, ⟨false, .avs [.slice false 7 0 gv8 .unk 1]⟩, ⟨false, .avs [.slice false 8 0 gv9 .unk 1]⟩, ⟨false, .hdr 2 gv10 gv11 gv12 gv13 none⟩, ⟨false, .flat gv14 (.ints .i64 gv15)⟩]) s0 gv3 gv4 gv5 gv6 gv7 gv8 gv9 gv11 gv12 gv13 gv15 ((slices_IndexFunc_suhf_v2.k0 N K gv1 gv2 gv3 gv4 gv5 gv6 gv7 gv8 gv9 gv10 gv11 gv12 gv13 gv14 gv15) (.exit 0) (slices_IndexFunc_suhf_v2.sx0_0 gv1 gv2 gv3 gv4 gv5 gv6 gv7 gv8 gv9 gv10 gv11 gv12 gv13 gv14 gv15)) m x16) := by
  intro m
  induction m with
  | zero => intros; rfl
  | succ m ih =>
    intro x16
    refine (slices_IndexFunc_suhf_v2.b0_eq N K (fun s => xloop (xcode (E54 N) ents slices_IndexFunc_suhf_v2.kp 9 N (cL (cK (cB (cA (cB slices_IndexFunc_suhf_v2.bd))))) 0) slices_IndexFunc_suhf_v2.kp 9 0 m s (slices_IndexFunc_suhf_v2.k0 N K gv1 gv2 gv3 gv4 gv5 gv6 gv7 gv8 gv9 gv10 gv11 gv12 gv13 gv14 gv15)) s0 gv1 gv2 gv3 gv4 gv5 gv6 gv7 gv8 gv9 gv10 gv11 gv12 gv13 gv14 gv15 x16).trans ?_
    simp only [ih]
    kernel_rfl

theorem slices_IndexFunc_suhf_v2.s_eq {ρ : Type} (N : Nat) (K : AV → Heap → Option ρ) (s0 : Nat) (gv1 : Nat) (gv2 : Nat) (gv3 : Nat → Nat) (gv4 : Nat → Nat) (gv5 : Nat → Int) (gv6 : Nat → Int) (gv7 : Nat → Int) (gv8 : Nat) (gv9 : Nat) (gv10 : Nat) (gv11 : Nat) (gv12 : Nat → Nat) (gv13 : Nat → Nat) (gv14 : Nat) (gv15 : Nat → Int) :
    xbody (E54 N) ents slices_IndexFunc_suhf_v2.kp N Go.Proofs.Try.f141 slices_IndexFunc_suhf_v2.bd [.slice false 0 0 s0 .unk 1, .fn 145 0 [[(1, 1)]]] [⟨false, .hdr 2 gv1 gv2 gv3 gv4 none⟩, ⟨false, .avs [.sptr [(3, 2), (4, 1), (5, 1), (6, 1)]]⟩, ⟨false, .flat 0 (.ints .u8 gv5)⟩, ⟨false, .flat 2 (.ints .i64 gv6)⟩, ⟨false, .flat 1 (.ints .i64 gv7)⟩, ⟨false, .avs [.slice false 7 0 gv8 .unk 1]⟩, ⟨false, .avs [.slice false 8 0 gv9 .unk 1]⟩, ⟨false, .hdr 2 gv10 gv11 gv12 gv13 none⟩, ⟨false, .flat gv14 (.ints .i64 gv15)⟩] K = (slices_IndexFunc_suhf_v2.s N (fun d0 => K (.int .i64 (d0)) [⟨false, .hdr 2 gv1 gv2 gv3 gv4 none⟩, ⟨false, .avs [.sptr [(3, 2), (4, 1), (5, 1), (6, 1)]]⟩, ⟨false, .flat 0 (.ints .u8 gv5)⟩, ⟨false, .flat 2 (.ints .i64 gv6)⟩, ⟨false, .flat 1 (.ints .i64 gv7)⟩, ⟨false, .avs [.slice false 7 0 gv8 .unk 1]⟩, ⟨false, .avs [.slice false 8 0 gv9 .unk 1]⟩, ⟨false, .hdr 2 gv10 gv11 gv12 gv13 none⟩, ⟨false, .flat gv14 (.ints .i64 gv15)⟩]) (fun x16 => xloop (xcode (E54 N) ents slices_IndexFunc_suhf_v2.kp 9 N (cL (cK (cB (cA (cB slices_IndexFunc_suhf_v2.bd))))) 0) slices_IndexFunc_suhf_v2.kp 9 0 N (slices_IndexFunc_suhf_v2.st0 s0 gv1 gv2 gv3 gv4 gv5 gv6 gv7 gv8 gv9 gv10 gv11 gv12 gv13 gv14 gv15 x16) (slices_IndexFunc_suhf_v2.k0 N K gv1 gv2 gv3 gv4 gv5 gv6 gv7 gv8 gv9 gv10 gv11 gv12 gv13 gv14 gv15))) := by kernel_rfl

theorem slices_IndexFunc_suhf_v2.eq {ρ : Type} (N : Nat) (K : AV → Heap → Option ρ) (s0 : Nat) (gv1 : Nat) (gv2 : Nat) (gv3 : Nat → Nat) (gv4 : Nat → Nat) (gv5 : Nat → Int) (gv6 : Nat → Int) (gv7 : Nat → Int) (gv8 : Nat) (gv9 : Nat) (gv10 : Nat) (gv11 : Nat) (gv12 : Nat → Nat) (gv13 : Nat → Nat) (gv14 : Nat) (gv15 : Nat → Int) :
    xbody (E54 N) ents slices_IndexFunc_suhf_v2.kp N Go.Proofs.Try.f141 slices_IndexFunc_suhf_v2.bd [.slice false 0 0 s0 .unk 1, .fn 145 0 [[(1, 1)]]] [⟨false, .hdr 2 gv1 gv2 gv3 gv4 none⟩, ⟨false, .avs [.sptr [(3, 2), (4, 1), (5, 1), (6, 1)]]⟩, ⟨false, .flat 0 (.ints .u8 gv5)⟩, ⟨false, .flat 2 (.ints .i64 gv6)⟩, ⟨false, .flat 1 (.ints .i64 gv7)⟩, ⟨false, .avs [.slice false 7 0 gv8 .unk 1]⟩, ⟨false, .avs [.slice false 8 0 gv9 .unk 1]⟩, ⟨false, .hdr 2 gv10 gv11 gv12 gv13 none⟩, ⟨false, .flat gv14 (.ints .i64 gv15)⟩] K = (slices_IndexFunc_suhf_v2 N (fun d0 => K (.int .i64 (d0)) [⟨false, .hdr 2 gv1 gv2 gv3 gv4 none⟩, ⟨false, .avs [.sptr [(3, 2), (4, 1), (5, 1), (6, 1)]]⟩, ⟨false, .flat 0 (.ints .u8 gv5)⟩, ⟨false, .flat 2 (.ints .i64 gv6)⟩, ⟨false, .flat 1 (.ints .i64 gv7)⟩, ⟨false, .avs [.slice false 7 0 gv8 .unk 1]⟩, ⟨false, .avs [.slice false 8 0 gv9 .unk 1]⟩, ⟨false, .hdr 2 gv10 gv11 gv12 gv13 none⟩, ⟨false, .flat gv14 (.ints .i64 gv15)⟩]) s0 gv1 gv2 gv3 gv4 gv5 gv6 gv7 gv8 gv9 gv10 gv11 gv12 gv13 gv14 gv15) := by
  refine (slices_IndexFunc_suhf_v2.s_eq N K s0 gv1 gv2 gv3 gv4 gv5 gv6 gv7 gv8 gv9 gv10 gv11 gv12 gv13 gv14 gv15).trans ?_
  simp only [slices_IndexFunc_suhf_v2.l0_eq, slices_IndexFunc_suhf_v2.a0_0_eq]
  kernel_rfl

noncomputable def slices_IndexFunc_suhf.en (N : Nat) (ρ : Type) : List AV → Heap → (AV → Heap → Option ρ) → Option ρ
  | [.slice false 0 0 s0 .unk 1, .fn 142 0 [[(1, 1)]]], [⟨false, .hdr 2 gv1 gv2 gv3 gv4 none⟩, ⟨false, .flat 1 (.ints .i64 gv5)⟩, ⟨false, .flat 0 (.ints .u8 gv6)⟩], K => (slices_IndexFunc_suhf N (fun d0 => K (.int .i64 (d0)) [⟨false, .hdr 2 gv1 gv2 gv3 gv4 none⟩, ⟨false, .flat 1 (.ints .i64 gv5)⟩, ⟨false, .flat 0 (.ints .u8 gv6)⟩]) s0 gv1 gv2 gv3 gv4 gv5 gv6)
  | [.slice false 0 0 s0 .unk 1, .fn 145 0 [[(1, 1)]]], [⟨false, .hdr 2 gv1 gv2 gv3 gv4 none⟩, ⟨false, .avs [.sptr [(3, 2), (4, 1), (5, 1), (6, 1)]]⟩, ⟨false, .flat 0 (.ints .u8 gv5)⟩, ⟨false, .flat 2 (.ints .i64 gv6)⟩, ⟨false, .flat 1 (.ints .i64 gv7)⟩, ⟨false, .avs [.slice false 7 0 gv8 .unk 1]⟩, ⟨false, .avs [.slice false 8 0 gv9 .unk 1]⟩, ⟨false, .hdr 2 gv10 gv11 gv12 gv13 none⟩, ⟨false, .flat gv14 (.ints .i64 gv15)⟩], K => (slices_IndexFunc_suhf_v2 N (fun d0 => K (.int .i64 (d0)) [⟨false, .hdr 2 gv1 gv2 gv3 gv4 none⟩, ⟨false, .avs [.sptr [(3, 2), (4, 1), (5, 1), (6, 1)]]⟩, ⟨false, .flat 0 (.ints .u8 gv5)⟩, ⟨false, .flat 2 (.ints .i64 gv6)⟩, ⟨false, .flat 1 (.ints .i64 gv7)⟩, ⟨false, .avs [.slice false 7 0 gv8 .unk 1]⟩, ⟨false, .avs [.slice false 8 0 gv9 .unk 1]⟩, ⟨false, .hdr 2 gv10 gv11 gv12 gv13 none⟩, ⟨false, .flat gv14 (.ints .i64 gv15)⟩]) s0 gv1 gv2 gv3 gv4 gv5 gv6 gv7 gv8 gv9 gv10 gv11 gv12 gv13 gv14 gv15)
  | _, _, _ => none

theorem slices_IndexFunc_suhf.en_ok (N : Nat) (hE : EnvOk (E54 N) ents) (ρ : Type) (args : List AV) (sh : Heap) (K : AV → Heap → Option ρ) (r : ρ) (h : slices_IndexFunc_suhf.en N ρ args sh K = some r) : ∃ v sh', K v sh' = some r ∧ FnOk (E54 N).P 141 args sh v sh' := by
  unfold slices_IndexFunc_suhf.en at h
  split at h
  · exact fn_ok hE (kp := slices_IndexFunc_suhf.kp) (N := N) Go.Proofs.Try.func141 (c := slices_IndexFunc_suhf.bd) (by kernel_rfl) ((slices_IndexFunc_suhf.eq N _ _ _ _ _ _ _ _).trans h)
  · exact fn_ok hE (kp := slices_IndexFunc_suhf_v2.kp) (N := N) Go.Proofs.Try.func141 (c := slices_IndexFunc_suhf_v2.bd) (by kernel_rfl) ((slices_IndexFunc_suhf_v2.eq N _ _ _ _ _ _ _ _ _ _ _ _ _ _ _ _ _).trans h)
  · cases h

noncomputable def E55 (N : Nat) : Env := (E54 N).add 141 (slices_IndexFunc_suhf.en N)

theorem E55_ok (N : Nat) : EnvOk (E55 N) ents := Env.add_ok (E54_ok N) (slices_IndexFunc_suhf.en_ok N (E54_ok N))

noncomputable def impl_field_inverse.kp : Keeps := ⟨[(0, [1, 2, 5], [], [])], [(0, [2], [], [])], []⟩

noncomputable def impl_field_inverse.bd : Code := bodyOf Go.Proofs.Try.f150

noncomputable def impl_field_inverse.fin {ρ : Type} (N : Nat) (K : AV → Heap → Option ρ) : XE → St → Option ρ := finK (E55 N) impl_field_inverse.kp.fins Go.Proofs.Try.f150 [] K

noncomputable def impl_field_inverse.k0 {ρ : Type} (N : Nat) (K : AV → Heap → Option ρ) : XE → St → Option ρ := (blockK impl_field_inverse.kp 0 0 (seqK (xcode (E55 N) ents impl_field_inverse.kp 0 N (cB (cB impl_field_inverse.bd)) 0) (impl_field_inverse.fin N K)))

theorem impl_field_inverse.k0_mix {ρ : Type} (N : Nat) (K : AV → Heap → Option ρ) : mixK (impl_field_inverse.fin N K .ret) (impl_field_inverse.k0 N K) = (impl_field_inverse.k0 N K) := by
  funext e s; cases e <;> kernel_rfl

noncomputable def impl_field_inverse.st0 (f0 : Nat → Int) (x1 : Int) (k2 : Int) : St := ⟨sl 24 [(1, .int .u8 (x1)), (2, .sptr [(0, 2)]), (5, .int .i64 (k2))], [⟨true, .flat 2 (.ints .i64 f0)⟩]⟩

noncomputable def impl_field_inverse.sx0_0 (f0 : Nat → Int) : St := ⟨sl 24 [(2, .sptr [(0, 2)])], [⟨true, .flat 2 (.ints .i64 f0)⟩]⟩

theorem impl_field_inverse.b0_gen {ρ : Type} (N : Nat) (K : AV → Heap → Option ρ) (L0 : St → Option ρ) (kv : XE → St → Option ρ) (f0 : Nat → Int) (x1 : Int) (k2 : Int) :
    xcode (E55 N) ents impl_field_inverse.kp 0 N (cL (cK (cB (cA (cB impl_field_inverse.bd))))) 0 (impl_field_inverse.st0 f0 x1 k2) (roundK impl_field_inverse.kp 0 0 L0 (mixK (impl_field_inverse.fin N K .ret) kv)) = (impl_field_inverse.b0 N (fun d0 => K (.int .i64 (d0)) []) (fun k2 => L0 (impl_field_inverse.st0 f0 x1 k2)) (kv (.exit 0) (impl_field_inverse.sx0_0 f0)) f0 x1 k2) := by kernel_rfl

theorem impl_field_inverse.b0_eq {ρ : Type} (N : Nat) (K : AV → Heap → Option ρ) (L0 : St → Option ρ) (f0 : Nat → Int) (x1 : Int) (k2 : Int) :
    xcode (E55 N) ents impl_field_inverse.kp 0 N (cL (cK (cB (cA (cB impl_field_inverse.bd))))) 0 (impl_field_inverse.st0 f0 x1 k2) (roundK impl_field_inverse.kp 0 0 L0 (impl_field_inverse.k0 N K)) = (impl_field_inverse.b0 N (fun d0 => K (.int .i64 (d0)) []) (fun k2 => L0 (impl_field_inverse.st0 f0 x1 k2)) ((impl_field_inverse.k0 N K) (.exit 0) (impl_field_inverse.sx0_0 f0)) f0 x1 k2) := by
  have h := impl_field_inverse.b0_gen N K L0 (impl_field_inverse.k0 N K) f0 x1 k2
  rw [impl_field_inverse.k0_mix] at h
  exact h

theorem impl_field_inverse.a0_0_eq {ρ : Type} (N : Nat) (K : AV → Heap → Option ρ) (f0 : Nat → Int) :
    (impl_field_inverse.k0 N K) (.exit 0) (impl_field_inverse.sx0_0 f0) = (impl_field_inverse.a0_0 N (fun d0 => K (.int .i64 (d0)) []) f0) := by kernel_rfl

theorem impl_field_inverse.l0_eq {ρ : Type} (N : Nat) (K : AV → Heap → Option ρ) (f0 : Nat → Int) (x1 : Int) :
    ∀ (m : Nat) (k2 : Int), xloop (xcode (E55 N) ents impl_field_inverse.kp 0 N (cL (cK (cB (cA (cB impl_field_inverse.bd))))) 0) impl_field_inverse.kp 0 0 m (impl_field_inverse.st0 f0 x1 k2) (impl_field_inverse.k0 N K) = (impl_field_inverse.l0 N (fun d0 => K (.int .i64 (d0)) []) f0 x1 ((impl_field_inverse.k0 N K) (.exit 0) (impl_field_inverse.sx0_0 f0)) m k2) := by
  intro m
  induction m with
  | zero => intros; rfl
  | succ m ih =>
    intro k2
    refine (impl_field_inverse.b0_eq N K (fun s => xloop (xcode (E55 N) ents impl_field_inverse.kp 0 N (cL (cK (cB (cA (cB impl_field_inverse.bd))))) 0) impl_field_inverse.kp 0 0 m s (impl_field_inverse.k0 N K)) f0 x1 k2).trans ?_
    simp only [ih]
    kernel_rfl

theorem impl_field_inverse.s_eq {ρ : Type} (N : Nat) (K : AV → Heap → Option ρ) (f0 : Nat → Int) (x1 : Int) :
    xbody (E55 N) ents impl_field_inverse.kp N Go.Proofs.Try.f150 impl_field_inverse.bd [.agg [⟨.i64, 2, f0⟩], .int .u8 (x1)] [] K = (impl_field_inverse.s N (fun d0 => K (.int .i64 (d0)) []) (fun k2 => xloop (xcode (E55 N) ents impl_field_inverse.kp 0 N (cL (cK (cB (cA (cB impl_field_inverse.bd))))) 0) impl_field_inverse.kp 0 0 N (impl_field_inverse.st0 f0 x1 k2) (impl_field_inverse.k0 N K))) := by kernel_rfl

theorem impl_field_inverse.eq {ρ : Type} (N : Nat) (K : AV → Heap → Option ρ) (f0 : Nat → Int) (x1 : Int) :
    xbody (E55 N) ents impl_field_inverse.kp N Go.Proofs.Try.f150 impl_field_inverse.bd [.agg [⟨.i64, 2, f0⟩], .int .u8 (x1)] [] K = (impl_field_inverse N (fun d0 => K (.int .i64 (d0)) []) f0 x1) := by
  refine (impl_field_inverse.s_eq N K f0 x1).trans ?_
  simp only [impl_field_inverse.l0_eq, impl_field_inverse.a0_0_eq]
  kernel_rfl

noncomputable def impl_field_inverse.en (N : Nat) (ρ : Type) : List AV → Heap → (AV → Heap → Option ρ) → Option ρ
  | [.agg [⟨.i64, 2, f0⟩], .int .u8 (x1)], [], K => (impl_field_inverse N (fun d0 => K (.int .i64 (d0)) []) f0 x1)
  | _, _, _ => none

theorem impl_field_inverse.en_ok (N : Nat) (hE : EnvOk (E55 N) ents) (ρ : Type) (args : List AV) (sh : Heap) (K : AV → Heap → Option ρ) (r : ρ) (h : impl_field_inverse.en N ρ args sh K = some r) : ∃ v sh', K v sh' = some r ∧ FnOk (E55 N).P 150 args sh v sh' := by
  unfold impl_field_inverse.en at h
  split at h
  · exact fn_ok hE (kp := impl_field_inverse.kp) (N := N) Go.Proofs.Try.func150 (c := impl_field_inverse.bd) (by kernel_rfl) ((impl_field_inverse.eq N _ _ _).trans h)
  · cases h

noncomputable def E56 (N : Nat) : Env := (E55 N).add 150 (impl_field_inverse.en N)

theorem E56_ok (N : Nat) : EnvOk (E56 N) ents := Env.add_ok (E55_ok N) (impl_field_inverse.en_ok N (E55_ok N))

noncomputable def impl_system_clear_v2.kp : Keeps := ⟨[(0, [0, 1, 2, 6, 7, 31, 32, 33], [], []), (2, [0, 1, 2, 6, 54, 55, 56], [], []), (4, [0, 1, 2, 6, 11, 12, 54, 55, 56, 76, 77, 78], [], [])], [(0, [0, 1, 2, 6], [], []), (2, [], [], []), (4, [0, 1, 2, 6, 54, 55, 56], [], [])], []⟩

noncomputable def impl_system_clear_v2.bd : Code := bodyOf Go.Proofs.Try.f143

noncomputable def impl_system_clear_v2.fin {ρ : Type} (N : Nat) (K : AV → Heap → Option ρ) (gv2 : Nat → Int) (gv3 : Nat → Int) (gv4 : Nat) (gv5 : Nat) (gv6 : Nat) (gv7 : Nat) (gv8 : Nat → Nat) (gv9 : Nat → Nat) (gv10 : Nat → Int) (gv11 : Nat → Int) : XE → St → Option ρ := finK (E56 N) impl_system_clear_v2.kp.fins Go.Proofs.Try.f143 [⟨false, .flat 2 (.ints .i64 gv2)⟩, ⟨false, .flat 1 (.ints .i64 gv3)⟩, ⟨false, .avs [.slice false 4 0 gv4 .unk 1]⟩, ⟨false, .avs [.slice false 5 0 gv5 .whole 1]⟩, ⟨false, .hdr 6 gv6 gv7 gv8 gv9 none⟩, ⟨true, .flat 0 (.ints .i64 gv10)⟩, ⟨true, .flat 0 (.ints .u8 gv11)⟩] K

noncomputable def impl_system_clear_v2.k0 {ρ : Type} (N : Nat) (K : AV → Heap → Option ρ) (gv2 : Nat → Int) (gv3 : Nat → Int) (gv4 : Nat) (gv5 : Nat) (gv6 : Nat) (gv7 : Nat) (gv8 : Nat → Nat) (gv9 : Nat → Nat) (gv10 : Nat → Int) (gv11 : Nat → Int) : XE → St → Option ρ := (blockK impl_system_clear_v2.kp 7 0 (seqK (xcode (E56 N) ents impl_system_clear_v2.kp 7 N (cB (cB (cB impl_system_clear_v2.bd))) 0) (impl_system_clear_v2.fin N K gv2 gv3 gv4 gv5 gv6 gv7 gv8 gv9 gv10 gv11)))

theorem impl_system_clear_v2.k0_mix {ρ : Type} (N : Nat) (K : AV → Heap → Option ρ) (gv2 : Nat → Int) (gv3 : Nat → Int) (gv4 : Nat) (gv5 : Nat) (gv6 : Nat) (gv7 : Nat) (gv8 : Nat → Nat) (gv9 : Nat → Nat) (gv10 : Nat → Int) (gv11 : Nat → Int) : mixK (impl_system_clear_v2.fin N K gv2 gv3 gv4 gv5 gv6 gv7 gv8 gv9 gv10 gv11 .ret) (impl_system_clear_v2.k0 N K gv2 gv3 gv4 gv5 gv6 gv7 gv8 gv9 gv10 gv11) = (impl_system_clear_v2.k0 N K gv2 gv3 gv4 gv5 gv6 gv7 gv8 gv9 gv10 gv11) := by
  funext e s; cases e <;> kernel_rfl

noncomputable def impl_system_clear_v2.st0 (at0 : Int) (c1 : Int) (gv2 : Nat → Int) (gv3 : Nat → Int) (gv4 : Nat) (gv5 : Nat) (gv6 : Nat) (gv7 : Nat) (gv8 : Nat → Nat) (gv9 : Nat → Nat) (gv10 : Nat → Int) (rv12 : Int) (x13 : Int) (gv14 : Nat → Int) : St := ⟨sl 103 [(0, .sptr [(0, 2), (1, 1), (2, 1), (3, 1)]), (1, .int .i64 (at0)), (2, .int .i64 (c1)), (6, .slice false 6 (gv8 (0 + (at0.toNat * 1))) (gv9 (0 + (at0.toNat * 1))) .unk 1), (7, .int .i64 (rv12)), (31, .slice false 6 (gv8 (0 + (at0.toNat * 1))) (gv9 (0 + (at0.toNat * 1))) .unk 1), (32, .int .i64 ((((gv9 (0 + (at0.toNat * 1))) : Nat) : Int))), (33, .int .i64 (x13))], [⟨false, .flat 2 (.ints .i64 gv2)⟩, ⟨false, .flat 1 (.ints .i64 gv3)⟩, ⟨false, .avs [.slice false 4 0 gv4 .unk 1]⟩, ⟨false, .avs [.slice false 5 0 gv5 .whole 1]⟩, ⟨false, .hdr 6 gv6 gv7 gv8 gv9 none⟩, ⟨true, .flat 0 (.ints .i64 gv10)⟩, ⟨true, .flat 0 (.ints .u8 gv14)⟩]⟩

noncomputable def impl_system_clear_v2.sx0_0 (at0 : Int) (c1 : Int) (gv2 : Nat → Int) (gv3 : Nat → Int) (gv4 : Nat) (gv5 : Nat) (gv6 : Nat) (gv7 : Nat) (gv8 : Nat → Nat) (gv9 : Nat → Nat) (gv10 : Nat → Int) (ov16 : Nat → Int) : St := ⟨sl 103 [(0, .sptr [(0, 2), (1, 1), (2, 1), (3, 1)]), (1, .int .i64 (at0)), (2, .int .i64 (c1)), (6, .slice false 6 (gv8 (0 + (at0.toNat * 1))) (gv9 (0 + (at0.toNat * 1))) .unk 1)], [⟨false, .flat 2 (.ints .i64 gv2)⟩, ⟨false, .flat 1 (.ints .i64 gv3)⟩, ⟨false, .avs [.slice false 4 0 gv4 .unk 1]⟩, ⟨false, .avs [.slice false 5 0 gv5 .whole 1]⟩, ⟨false, .hdr 6 gv6 gv7 gv8 gv9 none⟩, ⟨true, .flat 0 (.ints .i64 gv10)⟩, ⟨true, .flat 0 (.ints .u8 ov16)⟩]⟩

noncomputable def impl_system_clear_v2.k1 {ρ : Type} (N : Nat) (K : AV → Heap → Option ρ) (gv2 : Nat → Int) (gv3 : Nat → Int) (gv4 : Nat) (gv5 : Nat) (gv6 : Nat) (gv7 : Nat) (gv8 : Nat → Nat) (gv9 : Nat → Nat) (gv10 : Nat → Int) (gv11 : Nat → Int) : XE → St → Option ρ := (blockK impl_system_clear_v2.kp 7 2 (impl_system_clear_v2.fin N K gv2 gv3 gv4 gv5 gv6 gv7 gv8 gv9 gv10 gv11))

theorem impl_system_clear_v2.k1_mix {ρ : Type} (N : Nat) (K : AV → Heap → Option ρ) (gv2 : Nat → Int) (gv3 : Nat → Int) (gv4 : Nat) (gv5 : Nat) (gv6 : Nat) (gv7 : Nat) (gv8 : Nat → Nat) (gv9 : Nat → Nat) (gv10 : Nat → Int) (gv11 : Nat → Int) : mixK (impl_system_clear_v2.fin N K gv2 gv3 gv4 gv5 gv6 gv7 gv8 gv9 gv10 gv11 .ret) (impl_system_clear_v2.k1 N K gv2 gv3 gv4 gv5 gv6 gv7 gv8 gv9 gv10 gv11) = (impl_system_clear_v2.k1 N K gv2 gv3 gv4 gv5 gv6 gv7 gv8 gv9 gv10 gv11) := by
  funext e s; cases e <;> kernel_rfl

noncomputable def impl_system_clear_v2.st1 (at0 : Int) (c1 : Int) (gv2 : Nat → Int) (gv3 : Nat → Int) (gv4 : Nat) (gv5 : Nat) (gv6 : Nat) (gv7 : Nat) (gv8 : Nat → Nat) (gv9 : Nat → Nat) (gv10 : Nat → Int) (x17 : Int) (gv18 : Nat → Int) : St := ⟨sl 103 [(0, .sptr [(0, 2), (1, 1), (2, 1), (3, 1)]), (1, .int .i64 (at0)), (2, .int .i64 (c1)), (6, .slice false 6 (gv8 (0 + (at0.toNat * 1))) (gv9 (0 + (at0.toNat * 1))) .unk 1), (54, .slice false 4 0 gv4 .unk 1), (55, .int .i64 ((gv4 : Int))), (56, .int .i64 (x17))], [⟨false, .flat 2 (.ints .i64 gv2)⟩, ⟨false, .flat 1 (.ints .i64 gv3)⟩, ⟨false, .avs [.slice false 4 0 gv4 .unk 1]⟩, ⟨false, .avs [.slice false 5 0 gv5 .whole 1]⟩, ⟨false, .hdr 6 gv6 gv7 gv8 gv9 none⟩, ⟨true, .flat 0 (.ints .i64 gv10)⟩, ⟨true, .flat 0 (.ints .u8 gv18)⟩]⟩

noncomputable def impl_system_clear_v2.sx1_0 (gv2 : Nat → Int) (gv3 : Nat → Int) (gv4 : Nat) (gv5 : Nat) (gv6 : Nat) (gv7 : Nat) (gv8 : Nat → Nat) (gv9 : Nat → Nat) (gv10 : Nat → Int) (ov23 : Nat → Int) : St := ⟨sl 103 [], [⟨false, .flat 2 (.ints .i64 gv2)⟩, ⟨false, .flat 1 (.ints .i64 gv3)⟩, ⟨false, .avs [.slice false 4 0 gv4 .unk 1]⟩, ⟨false, .avs [.slice false 5 0 gv5 .whole 1]⟩, ⟨false, .hdr 6 gv6 gv7 gv8 gv9 none⟩, ⟨true, .flat 0 (.ints .i64 gv10)⟩, ⟨true, .flat 0 (.ints .u8 ov23)⟩]⟩

noncomputable def impl_system_clear_v2.k2g {ρ : Type} (N : Nat) (L1 : St → Option ρ) (kv : XE → St → Option ρ) : XE → St → Option ρ := (blockK impl_system_clear_v2.kp 7 4 (blockK impl_system_clear_v2.kp 7 3 (seqK (xcode (E56 N) ents impl_system_clear_v2.kp 7 N (cB (cB (cB (cL (cK (cB (cB (cB (cB impl_system_clear_v2.bd))))))))) 2) (roundK impl_system_clear_v2.kp 7 2 L1 kv))))

theorem impl_system_clear_v2.k2_mix {ρ : Type} (N : Nat) (K : AV → Heap → Option ρ) (L1 : St → Option ρ) (gv2 : Nat → Int) (gv3 : Nat → Int) (gv4 : Nat) (gv5 : Nat) (gv6 : Nat) (gv7 : Nat) (gv8 : Nat → Nat) (gv9 : Nat → Nat) (gv10 : Nat → Int) (gv11 : Nat → Int) : mixK (impl_system_clear_v2.fin N K gv2 gv3 gv4 gv5 gv6 gv7 gv8 gv9 gv10 gv11 .ret) (impl_system_clear_v2.k2g N L1 (impl_system_clear_v2.k1 N K gv2 gv3 gv4 gv5 gv6 gv7 gv8 gv9 gv10 gv11)) = (impl_system_clear_v2.k2g N L1 (impl_system_clear_v2.k1 N K gv2 gv3 gv4 gv5 gv6 gv7 gv8 gv9 gv10 gv11)) := by
  funext e s; cases e <;> kernel_rfl

noncomputable def impl_system_clear_v2.st2 (at0 : Int) (c1 : Int) (gv2 : Nat → Int) (gv3 : Nat → Int) (gv4 : Nat) (gv5 : Nat) (gv6 : Nat) (gv7 : Nat) (gv8 : Nat → Nat) (gv9 : Nat → Nat) (gv10 : Nat → Int) (x17 : Int) (gv18 : Nat → Int) (x19 : Int) (gv20 : Nat → Int) : St := ⟨sl 103 [(0, .sptr [(0, 2), (1, 1), (2, 1), (3, 1)]), (1, .int .i64 (at0)), (2, .int .i64 (c1)), (6, .slice false 6 (gv8 (0 + (at0.toNat * 1))) (gv9 (0 + (at0.toNat * 1))) .unk 1), (11, .slice false 6 (gv8 (0 + (x17.toNat * 1))) (gv9 (0 + (x17.toNat * 1))) .unk 1), (12, .int .i64 ((IntKind.i64.wrap (gv18 ((gv8 (0 + (x17.toNat * 1))) + (c1.toNat * 1)))))), (54, .slice false 4 0 gv4 .unk 1), (55, .int .i64 ((gv4 : Int))), (56, .int .i64 (x17)), (76, .slice false 6 (gv8 (0 + (at0.toNat * 1))) (gv9 (0 + (at0.toNat * 1))) .unk 1), (77, .int .i64 ((((gv9 (0 + (at0.toNat * 1))) : Nat) : Int))), (78, .int .i64 (x19))], [⟨false, .flat 2 (.ints .i64 gv2)⟩, ⟨false, .flat 1 (.ints .i64 gv3)⟩, ⟨false, .avs [.slice false 4 0 gv4 .unk 1]⟩, ⟨false, .avs [.slice false 5 0 gv5 .whole 1]⟩, ⟨false, .hdr 6 gv6 gv7 gv8 gv9 none⟩, ⟨true, .flat 0 (.ints .i64 gv10)⟩, ⟨true, .flat 0 (.ints .u8 gv20)⟩]⟩

noncomputable def impl_system_clear_v2.sx2_0 (at0 : Int) (c1 : Int) (gv2 : Nat → Int) (gv3 : Nat → Int) (gv4 : Nat) (gv5 : Nat) (gv6 : Nat) (gv7 : Nat) (gv8 : Nat → Nat) (gv9 : Nat → Nat) (gv10 : Nat → Int) (x17 : Int) (ov22 : Nat → Int) : St := ⟨sl 103 [(0, .sptr [(0, 2), (1, 1), (2, 1), (3, 1)]), (1, .int .i64 (at0)), (2, .int .i64 (c1)), (6, .slice false 6 (gv8 (0 + (at0.toNat * 1))) (gv9 (0 + (at0.toNat * 1))) .unk 1), (54, .slice false 4 0 gv4 .unk 1), (55, .int .i64 ((gv4 : Int))), (56, .int .i64 (x17))], [⟨false, .flat 2 (.ints .i64 gv2)⟩, ⟨false, .flat 1 (.ints .i64 gv3)⟩, ⟨false, .avs [.slice false 4 0 gv4 .unk 1]⟩, ⟨false, .avs [.slice false 5 0 gv5 .whole 1]⟩, ⟨false, .hdr 6 gv6 gv7 gv8 gv9 none⟩, ⟨true, .flat 0 (.ints .i64 gv10)⟩, ⟨true, .flat 0 (.ints .u8 ov22)⟩]⟩

theorem impl_system_clear_v2.b2_gen {ρ : Type} (N : Nat) (K : AV → Heap → Option ρ) (L2 : St → Option ρ) (kv : XE → St → Option ρ) (at0 : Int) (c1 : Int) (gv2 : Nat → Int) (gv3 : Nat → Int) (gv4 : Nat) (gv5 : Nat) (gv6 : Nat) (gv7 : Nat) (gv8 : Nat → Nat) (gv9 : Nat → Nat) (gv10 : Nat → Int) (gv11 : Nat → Int) (x17 : Int) (gv18 : Nat → Int) (x19 : Int) (gv20 : Nat → Int) :
    xcode (E56 N) ents impl_system_clear_v2.kp 7 N (cL (cK (cB (cB (cB (cB (cK (cA (cB (cB (cL (cK (cB (cB (cB (cB impl_system_clear_v2.bd)))))))))))))))) 4 (impl_system_clear_v2.st2 at0 c1 gv2 gv3 gv4 gv5 gv6 gv7 gv8 gv9 gv10 x17 gv18 x19 gv20) (roundK impl_system_clear_v2.kp 7 4 L2 (mixK (impl_system_clear_v2.fin N K gv2 gv3 gv4 gv5 gv6 gv7 gv8 gv9 gv10 gv11 .ret) kv)) = (impl_system_clear_v2.b2 N (fun d0 d1 => K (.tup []) [⟨false, .flat 2 (.ints .i64 gv2)⟩, ⟨false, .flat 1 (.ints .i64 gv3)⟩, ⟨false, .avs [.slice false 4 0 gv4 .unk 1]⟩, ⟨false, .avs [.slice false 5 0 gv5 .whole 1]⟩, ⟨false, .hdr 6 gv6 gv7 gv8 gv9 none⟩, ⟨true, .flat 0 (.ints .i64 d0)⟩, ⟨true, .flat 0 (.ints .u8 d1)⟩]) (fun x19 gv20 => L2 (impl_system_clear_v2.st2 at0 c1 gv2 gv3 gv4 gv5 gv6 gv7 gv8 gv9 gv10 x17 gv18 x19 gv20)) (fun ov22 => kv (.exit 4) (impl_system_clear_v2.sx2_0 at0 c1 gv2 gv3 gv4 gv5 gv6 gv7 gv8 gv9 gv10 x17 ov22)) at0 c1 gv2 gv8 gv9 x17 gv18 x19 gv20) := by kernel_rfl

theorem impl_system_clear_v2.b2_eq {ρ : Type} (N : Nat) (K : AV → Heap → Option ρ) (L1 : St → Option ρ) (L2 : St → Option ρ) (at0 : Int) (c1 : Int) (gv2 : Nat → Int) (gv3 : Nat → Int) (gv4 : Nat) (gv5 : Nat) (gv6 : Nat) (gv7 : Nat) (gv8 : Nat → Nat) (gv9 : Nat → Nat) (gv10 : Nat → Int) (gv11 : Nat → Int) (x17 : Int) (gv18 : Nat → Int) (x19 : Int) (gv20 : Nat → Int) :
    xcode (E56 N) ents impl_system_clear_v2.kp 7 N (cL (cK (cB (cB (cB (cB (cK (cA (cB (cB (cL (cK (cB (cB (cB (cB impl_system_clear_v2.bd)))))))))))))))) 4 (impl_system_clear_v2.st2 at0 c1 gv2 gv3 gv4 gv5 gv6 gv7 gv8 gv9 gv10 x17 gv18 x19 gv20) (roundK impl_system_clear_v2.kp 7 4 L2 (impl_system_clear_v2.k2g N L1 (impl_system_clear_v2.k1 N K gv2 gv3 gv4 gv5 gv6 gv7 gv8 gv9 gv10 gv11))) = (impl_system_clear_v2.b2 N (fun d0 d1 => K (.tup []) [⟨false, .flat 2 (.ints .i64 gv2)⟩, ⟨false, .flat 1 (.ints .i64 gv3)⟩, ⟨false, .avs [.slice false 4 0 gv4 .unk 1]⟩, ⟨false, .avs [.slice false 5 0 gv5 .whole 1]⟩, ⟨false, .hdr 6 gv6 gv7 gv8 gv9 none⟩, ⟨true, .flat 0 (.ints .i64 d0)⟩, ⟨true, .flat 0 (.ints .u8 d1)⟩]) (fun x19 gv20 => L2 (impl_system_clear_v2.st2 at0 c1 gv2 gv3 gv4 gv5 gv6 gv7 gv8 gv9 gv10 x17 gv18 x19 gv20)) (fun ov22 => (impl_system_clear_v2.k2g N L1 (impl_system_clear_v2.k1 N K gv2 gv3 gv4 gv5 gv6 gv7 gv8 gv9 gv10 gv11)) (.exit 4) (impl_system_clear_v2.sx2_0 at0 c1 gv2 gv3 gv4 gv5 gv6 gv7 gv8 gv9 gv10 x17 ov22)) at0 c1 gv2 gv8 gv9 x17 gv18 x19 gv20) := by
  have h := impl_system_clear_v2.b2_gen N K L2 (impl_system_clear_v2.k2g N L1 (impl_system_clear_v2.k1 N K gv2 gv3 gv4 gv5 gv6 gv7 gv8 gv9 gv10 gv11)) at0 c1 gv2 gv3 gv4 gv5 gv6 gv7 gv8 gv9 gv10 gv11 x17 gv18 x19 gv20
  rw [impl_system_clear_v2.k2_mix] at h
  exact h

theorem impl_system_clear_v2.a2_0_gen {ρ : Type} (N : Nat) (K : AV → Heap → Option ρ) (L1 : St → Option ρ) (kv : XE → St → Option ρ) (at0 : Int) (c1 : Int) (gv2 : Nat → Int) (gv3 : Nat → Int) (gv4 : Nat) (gv5 : Nat) (gv6 : Nat) (gv7 : Nat) (gv8 : Nat → Nat) (gv9 : Nat → Nat) (gv10 : Nat → Int) (gv11 : Nat → Int) (x17 : Int) (ov22 : Nat → Int) :
    (impl_system_clear_v2.k2g N L1 (mixK (impl_system_clear_v2.fin N K gv2 gv3 gv4 gv5 gv6 gv7 gv8 gv9 gv10 gv11 .ret) kv)) (.exit 4) (impl_system_clear_v2.sx2_0 at0 c1 gv2 gv3 gv4 gv5 gv6 gv7 gv8 gv9 gv10 x17 ov22) = (impl_system_clear_v2.a2_0 N (fun d0 d1 => K (.tup []) [⟨false, .flat 2 (.ints .i64 gv2)⟩, ⟨false, .flat 1 (.ints .i64 gv3)⟩, ⟨false, .avs [.slice false 4 0 gv4 .unk 1]⟩, ⟨false, .avs [.slice false 5 0 gv5 .whole 1]⟩, ⟨false, .hdr 6 gv6 gv7 gv8 gv9 none⟩, ⟨true, .flat 0 (.ints .i64 d0)⟩, ⟨true, .flat 0 (.ints .u8 d1)⟩]) (fun x17 gv18 => L1 (impl_system_clear_v2.st1 at0 c1 gv2 gv3 gv4 gv5 gv6 gv7 gv8 gv9 gv10 x17 gv18)) (fun ov23 => kv (.exit 2) (impl_system_clear_v2.sx1_0 gv2 gv3 gv4 gv5 gv6 gv7 gv8 gv9 gv10 ov23)) x17 ov22) := by kernel_rfl

theorem impl_system_clear_v2.a2_0_eq {ρ : Type} (N : Nat) (K : AV → Heap → Option ρ) (L1 : St → Option ρ) (at0 : Int) (c1 : Int) (gv2 : Nat → Int) (gv3 : Nat → Int) (gv4 : Nat) (gv5 : Nat) (gv6 : Nat) (gv7 : Nat) (gv8 : Nat → Nat) (gv9 : Nat → Nat) (gv10 : Nat → Int) (gv11 : Nat → Int) (x17 : Int) (ov22 : Nat → Int) :
    (impl_system_clear_v2.k2g N L1 (impl_system_clear_v2.k1 N K gv2 gv3 gv4 gv5 gv6 gv7 gv8 gv9 gv10 gv11)) (.exit 4) (impl_system_clear_v2.sx2_0 at0 c1 gv2 gv3 gv4 gv5 gv6 gv7 gv8 gv9 gv10 x17 ov22) = (impl_system_clear_v2.a2_0 N (fun d0 d1 => K (.tup []) [⟨false, .flat 2 (.ints .i64 gv2)⟩, ⟨false, .flat 1 (.ints .i64 gv3)⟩, ⟨false, .avs [.slice false 4 0 gv4 .unk 1]⟩, ⟨false, .avs [.slice false 5 0 gv5 .whole 1]⟩, ⟨false, .hdr 6 gv6 gv7 gv8 gv9 none⟩, ⟨true, .flat 0 (.ints .i64 d0)⟩, ⟨true, .flat 0 (.ints .u8 d1)⟩]) (fun x17 gv18 => L1 (impl_system_clear_v2.st1 at0 c1 gv2 gv3 gv4 gv5 gv6 gv7 gv8 gv9 gv10 x17 gv18)) (fun ov23 => (impl_system_clear_v2.k1 N K gv2 gv3 gv4 gv5 gv6 gv7 gv8 gv9 gv10 gv11) (.exit 2) (impl_system_clear_v2.sx1_0 gv2 gv3 gv4 gv5 gv6 gv7 gv8 gv9 gv10 ov23)) x17 ov22) := by
  have h := impl_system_clear_v2.a2_0_gen N K L1 (impl_system_clear_v2.k1 N K gv2 gv3 gv4 gv5 gv6 gv7 gv8 gv9 gv10 gv11) at0 c1 gv2 gv3 gv4 gv5 gv6 gv7 gv8 gv9 gv10 gv11 x17 ov22
  rw [impl_system_clear_v2.k1_mix] at h
  exact h

theorem impl_system_clear_v2.b1_gen {ρ : Type} (N : Nat) (K : AV → Heap → Option ρ) (L1 : St → Option ρ) (kv : XE → St → Option ρ) (at0 : Int) (c1 : Int) (gv2 : Nat → Int) (gv3 : Nat → Int) (gv4 : Nat) (gv5 : Nat) (gv6 : Nat) (gv7 : Nat) (gv8 : Nat → Nat) (gv9 : Nat → Nat) (gv10 : Nat → Int) (gv11 : Nat → Int) (x17 : Int) (gv18 : Nat → Int) :
    xcode (E56 N) ents impl_system_clear_v2.kp 7 N (cL (cK (cB (cB (cB (cB impl_system_clear_v2.bd)))))) 2 (impl_system_clear_v2.st1 at0 c1 gv2 gv3 gv4 gv5 gv6 gv7 gv8 gv9 gv10 x17 gv18) (roundK impl_system_clear_v2.kp 7 2 L1 (mixK (impl_system_clear_v2.fin N K gv2 gv3 gv4 gv5 gv6 gv7 gv8 gv9 gv10 gv11 .ret) kv)) = (impl_system_clear_v2.b1 N (fun d0 d1 => K (.tup []) [⟨false, .flat 2 (.ints .i64 gv2)⟩, ⟨false, .flat 1 (.ints .i64 gv3)⟩, ⟨false, .avs [.slice false 4 0 gv4 .unk 1]⟩, ⟨false, .avs [.slice false 5 0 gv5 .whole 1]⟩, ⟨false, .hdr 6 gv6 gv7 gv8 gv9 none⟩, ⟨true, .flat 0 (.ints .i64 d0)⟩, ⟨true, .flat 0 (.ints .u8 d1)⟩]) (fun x19 gv20 => xloop (xcode (E56 N) ents impl_system_clear_v2.kp 7 N (cL (cK (cB (cB (cB (cB (cK (cA (cB (cB (cL (cK (cB (cB (cB (cB impl_system_clear_v2.bd)))))))))))))))) 4) impl_system_clear_v2.kp 7 4 N (impl_system_clear_v2.st2 at0 c1 gv2 gv3 gv4 gv5 gv6 gv7 gv8 gv9 gv10 x17 gv18 x19 gv20) (impl_system_clear_v2.k2g N L1 (mixK (impl_system_clear_v2.fin N K gv2 gv3 gv4 gv5 gv6 gv7 gv8 gv9 gv10 gv11 .ret) kv))) (fun x17 gv18 => L1 (impl_system_clear_v2.st1 at0 c1 gv2 gv3 gv4 gv5 gv6 gv7 gv8 gv9 gv10 x17 gv18)) (fun ov23 => kv (.exit 2) (impl_system_clear_v2.sx1_0 gv2 gv3 gv4 gv5 gv6 gv7 gv8 gv9 gv10 ov23)) at0 c1 gv4 gv8 gv9 x17 gv18) := by kernel_rfl

theorem impl_system_clear_v2.b1_eq {ρ : Type} (N : Nat) (K : AV → Heap → Option ρ) (L1 : St → Option ρ) (at0 : Int) (c1 : Int) (gv2 : Nat → Int) (gv3 : Nat → Int) (gv4 : Nat) (gv5 : Nat) (gv6 : Nat) (gv7 : Nat) (gv8 : Nat → Nat) (gv9 : Nat → Nat) (gv10 : Nat → Int) (gv11 : Nat → Int) (x17 : Int) (gv18 : Nat → Int) :
    xcode (E56 N) ents impl_system_clear_v2.kp 7 N (cL (cK (cB (cB (cB (cB impl_system_clear_v2.bd)))))) 2 (impl_system_clear_v2.st1 at0 c1 gv2 gv3 gv4 gv5 gv6 gv7 gv8 gv9 gv10 x17 gv18) (roundK impl_system_clear_v2.kp 7 2 L1 (impl_system_clear_v2.k1 N K gv2 gv3 gv4 gv5 gv6 gv7 gv8 gv9 gv10 gv11)) = (impl_system_clear_v2.b1 N (fun d0 d1 => K (.tup []) [⟨false, .flat 2 (.ints .i64 gv2)⟩, ⟨false, .flat 1 (.ints .i64 gv3)⟩, ⟨false, .avs [.slice false 4 0 gv4 .unk 1]⟩, ⟨false, .avs [.slice false 5 0 gv5 .whole 1]⟩, ⟨false, .hdr 6 gv6 gv7 gv8 gv9 none⟩, ⟨true, .flat 0 (.ints .i64 d0)⟩, ⟨true, .flat 0 (.ints .u8 d1)⟩]) (fun x19 gv20 => xloop (xcode (E56 N) ents impl_system_clear_v2.kp 7 N (cL (cK (cB (cB (cB (cB (cK (cA (cB (cB (cL (cK (cB (cB (cB (cB impl_system_clear_v2.bd)))))))))))))))) 4) impl_system_clear_v2.kp 7 4 N (impl_system_clear_v2.st2 at0 c1 gv2 gv3 gv4 gv5 gv6 gv7 gv8 gv9 gv10 x17 gv18 x19 gv20) (impl_system_clear_v2.k2g N L1 (impl_system_clear_v2.k1 N K gv2 gv3 gv4 gv5 gv6 gv7 gv8 gv9 gv10 gv11))) (fun x17 gv18 => L1 (impl_system_clear_v2.st1 at0 c1 gv2 gv3 gv4 gv5 gv6 gv7 gv8 gv9 gv10 x17 gv18)) (fun ov23 => (impl_system_clear_v2.k1 N K gv2 gv3 gv4 gv5 gv6 gv7 gv8 gv9 gv10 gv11) (.exit 2) (impl_system_clear_v2.sx1_0 gv2 gv3 gv4 gv5 gv6 gv7 gv8 gv9 gv10 ov23)) at0 c1 gv4 gv8 gv9 x17 gv18) := by
  have h := impl_system_clear_v2.b1_gen N K L1 (impl_system_clear_v2.k1 N K gv2 gv3 gv4 gv5 gv6 gv7 gv8 gv9 gv10 gv11) at0 c1 gv2 gv3 gv4 gv5 gv6 gv7 gv8 gv9 gv10 gv11 x17 gv18
  rw [impl_system_clear_v2.k1_mix] at h
  exact h

theorem impl_system_clear_v2.a1_0_eq {ρ : Type} (N : Nat) (K : AV → Heap → Option ρ) (gv2 : Nat → Int) (gv3 : Nat → Int) (gv4 : Nat) (gv5 : Nat) (gv6 : Nat) (gv7 : Nat) (gv8 : Nat → Nat) (gv9 : Nat → Nat) (gv10 : Nat → Int) (gv11 : Nat → Int) (ov23 : Nat → Int) :
    (impl_system_clear_v2.k1 N K gv2 gv3 gv4 gv5 gv6 gv7 gv8 gv9 gv10 gv11) (.exit 2) (impl_system_clear_v2.sx1_0 gv2 gv3 gv4 gv5 gv6 gv7 gv8 gv9 gv10 ov23) = (impl_system_clear_v2.a1_0 N (fun d0 d1 => K (.tup []) [⟨false, .flat 2 (.ints .i64 gv2)⟩, ⟨false, .flat 1 (.ints .i64 gv3)⟩, ⟨false, .avs [.slice false 4 0 gv4 .unk 1]⟩, ⟨false, .avs [.slice false 5 0 gv5 .whole 1]⟩, ⟨false, .hdr 6 gv6 gv7 gv8 gv9 none⟩, ⟨true, .flat 0 (.ints .i64 d0)⟩, ⟨true, .flat 0 (.ints .u8 d1)⟩]) gv10 ov23) := by kernel_rfl

theorem impl_system_clear_v2.b0_gen {ρ : Type} (N : Nat) (K : AV → Heap → Option ρ) (L0 : St → Option ρ) (kv : XE → St → Option ρ) (at0 : Int) (c1 : Int) (gv2 : Nat → Int) (gv3 : Nat → Int) (gv4 : Nat) (gv5 : Nat) (gv6 : Nat) (gv7 : Nat) (gv8 : Nat → Nat) (gv9 : Nat → Nat) (gv10 : Nat → Int) (gv11 : Nat → Int) (rv12 : Int) (x13 : Int) (gv14 : Nat → Int) :
    xcode (E56 N) ents impl_system_clear_v2.kp 7 N (cL (cK (cB (cA (cB (cB impl_system_clear_v2.bd)))))) 0 (impl_system_clear_v2.st0 at0 c1 gv2 gv3 gv4 gv5 gv6 gv7 gv8 gv9 gv10 rv12 x13 gv14) (roundK impl_system_clear_v2.kp 7 0 L0 (mixK (impl_system_clear_v2.fin N K gv2 gv3 gv4 gv5 gv6 gv7 gv8 gv9 gv10 gv11 .ret) kv)) = (impl_system_clear_v2.b0 N (fun d0 d1 => K (.tup []) [⟨false, .flat 2 (.ints .i64 gv2)⟩, ⟨false, .flat 1 (.ints .i64 gv3)⟩, ⟨false, .avs [.slice false 4 0 gv4 .unk 1]⟩, ⟨false, .avs [.slice false 5 0 gv5 .whole 1]⟩, ⟨false, .hdr 6 gv6 gv7 gv8 gv9 none⟩, ⟨true, .flat 0 (.ints .i64 d0)⟩, ⟨true, .flat 0 (.ints .u8 d1)⟩]) (fun x13 gv14 => L0 (impl_system_clear_v2.st0 at0 c1 gv2 gv3 gv4 gv5 gv6 gv7 gv8 gv9 gv10 rv12 x13 gv14)) (fun ov16 => kv (.exit 0) (impl_system_clear_v2.sx0_0 at0 c1 gv2 gv3 gv4 gv5 gv6 gv7 gv8 gv9 gv10 ov16)) at0 gv2 gv8 gv9 rv12 x13 gv14) := by kernel_rfl

theorem impl_system_clear_v2.b0_eq {ρ : Type} (N : Nat) (K : AV → Heap → Option ρ) (L0 : St → Option ρ) (at0 : Int) (c1 : Int) (gv2 : Nat → Int) (gv3 : Nat → Int) (gv4 : Nat) (gv5 : Nat) (gv6 : Nat) (gv7 : Nat) (gv8 : Nat → Nat) (gv9 : Nat → Nat) (gv10 : Nat → Int) (gv11 : Nat → Int) (rv12 : Int) (x13 : Int) (gv14 : Nat → Int) :
    xcode (E56 N) ents impl_system_clear_v2.kp 7 N (cL (cK (cB (cA (cB (cB impl_system_clear_v2.bd)))))) 0 (impl_system_clear_v2.st0 at0 c1 gv2 gv3 gv4 gv5 gv6 gv7 gv8 gv9 gv10 rv12 x13 gv14) (roundK impl_system_clear_v2.kp 7 0 L0 (impl_system_clear_v2.k0 N K gv2 gv3 gv4 gv5 gv6 gv7 gv8 gv9 gv10 gv11)) = (impl_system_clear_v2.b0 N (fun d0 d1 => K (.tup []) [⟨false, .flat 2 (.ints .i64 gv2)⟩, ⟨false, .flat 1 (.ints .i64 gv3)⟩, ⟨false, .avs [.slice false 4 0 gv4 .unk 1]⟩, ⟨false, .avs [.slice false 5 0 gv5 .whole 1]⟩, ⟨false, .hdr 6 gv6 gv7 gv8 gv9 none⟩, ⟨true, .flat 0 (.ints .i64 d0)⟩, ⟨true, .flat 0 (.ints .u8 d1)⟩]) (fun x13 gv14 => L0 (impl_system_clear_v2.st0 at0 c1 gv2 gv3 gv4 gv5 gv6 gv7 gv8 gv9 gv10 rv12 x13 gv14)) (fun ov16 => (impl_system_clear_v2.k0 N K gv2 gv3 gv4 gv5 gv6 gv7 gv8 gv9 gv10 gv11) (.exit 0) (impl_system_clear_v2.sx0_0 at0 c1 gv2 gv3 gv4 gv5 gv6 gv7 gv8 gv9 gv10 ov16)) at0 gv2 gv8 gv9 rv12 x13 gv14) := by
  have h := impl_system_clear_v2.b0_gen N K L0 (impl_system_clear_v2.k0 N K gv2 gv3 gv4 gv5 gv6 gv7 gv8 gv9 gv10 gv11) at0 c1 gv2 gv3 gv4 gv5 gv6 gv7 gv8 gv9 gv10 gv11 rv12 x13 gv14
  rw [impl_system_clear_v2.k0_mix] at h
  exact h

theorem impl_system_clear_v2.a0_0_eq {ρ : Type} (N : Nat) (K : AV → Heap → Option ρ) (at0 : Int) (c1 : Int) (gv2 : Nat → Int) (gv3 : Nat → Int) (gv4 : Nat) (gv5 : Nat) (gv6 : Nat) (gv7 : Nat) (gv8 : Nat → Nat) (gv9 : Nat → Nat) (gv10 : Nat → Int) (gv11 : Nat → Int) (ov16 : Nat → Int) :
    (impl_system_clear_v2.k0 N K gv2 gv3 gv4 gv5 gv6 gv7 gv8 gv9 gv10 gv11) (.exit 0) (impl_system_clear_v2.sx0_0 at0 c1 gv2 gv3 gv4 gv5 gv6 gv7 gv8 gv9 gv10 ov16) = (impl_system_clear_v2.a0_0 N (fun d0 d1 => K (.tup []) [⟨false, .flat 2 (.ints .i64 gv2)⟩, ⟨false, .flat 1 (.ints .i64 gv3)⟩, ⟨false, .avs [.slice false 4 0 gv4 .unk 1]⟩, ⟨false, .avs [.slice false 5 0 gv5 .whole 1]⟩, ⟨false, .hdr 6 gv6 gv7 gv8 gv9 none⟩, ⟨true, .flat 0 (.ints .i64 d0)⟩, ⟨true, .flat 0 (.ints .u8 d1)⟩]) (fun x17 gv18 => xloop (xcode (E56 N) ents impl_system_clear_v2.kp 7 N (cL (cK (cB (cB (cB (cB impl_system_clear_v2.bd)))))) 2) impl_system_clear_v2.kp 7 2 N (impl_system_clear_v2.st1 at0 c1 gv2 gv3 gv4 gv5 gv6 gv7 gv8 gv9 gv10 x17 gv18) (impl_system_clear_v2.k1 N K gv2 gv3 gv4 gv5 gv6 gv7 gv8 gv9 gv10 gv11)) ov16) := by kernel_rfl

theorem impl_system_clear_v2.l2_eq {ρ : Type} (N : Nat) (K : AV → Heap → Option ρ) (L1 : St → Option ρ) (at0 : Int) (c1 : Int) (gv2 : Nat → Int) (gv3 : Nat → Int) (gv4 : Nat) (gv5 : Nat) (gv6 : Nat) (gv7 : Nat) (gv8 : Nat → Nat) (gv9 : Nat → Nat) (gv10 : Nat → Int) (gv11 : Nat → Int) (x17 : Int) (gv18 : Nat → Int) :
    ∀ (m : Nat) (x19 : Int) (gv20 : Nat → Int), xloop (xcode (E56 N) ents impl_system_clear_v2.kp 7 N (cL (cK (cB (cB (cB (cB (cK (cA (cB (cB (cL (cK (cB (cB (cB (cB impl_system_clear_v2.bd)))))))))))))))) 4) impl_system_clear_v2.kp 7 4 m (impl_system_clear_v2.st2 at0 c1 gv2 gv3 gv4 gv5 gv6 gv7 gv8 gv9 gv10 x17 gv18 x19 gv20) (impl_system_clear_v2.k2g N L1 (impl_system_clear_v2.k1 N K gv2 gv3 gv4 gv5 gv6 gv7 gv8 gv9 gv10 gv11)) = (impl_system_clear_v2.l2 N (fun d0 d1 => K (.tup []) [⟨false, .flat 2 (.ints .i64 gv2)⟩, ⟨false, .flat 1 (.ints .i64 gv3)⟩, ⟨false, .avs [.slice false 4 0 gv4 .unk 1]⟩, ⟨false, .avs [.slice false 5 0 gv5 .whole 1]⟩, ⟨false, .hdr 6 gv6 gv7 gv8 gv9 none⟩, ⟨true, .flat 0 (.ints .i64 d0)⟩, ⟨true, .flat 0 (.ints .u8 d1)⟩]) at0 c1 gv2 gv8 gv9 x17 gv18 (fun ov22 => (impl_system_clear_v2.k2g N L1 (impl_system_clear_v2.k1 N K gv2 gv3 gv4 gv5 gv6 gv7 gv8 gv9 gv10 gv11)) (.exit 4) (impl_system_clear_v2.sx2_0 at0 c1 gv2 gv3 gv4 gv5 gv6 gv7 gv8 gv9 gv10 x17 ov22)) m x19 gv20) := by
  intro m
  induction m with
  | zero => intros; rfl
  | succ m ih =>
    intro x19 gv20
    refine (impl_system_clear_v2.b2_eq N K L1 (fun s => xloop (xcode (E56 N) ents impl_system_clear_v2.kp 7 N (cL (cK (cB (cB (cB (cB (cK (cA (cB (cB (cL (cK (cB (cB (cB (cB impl_system_clear_v2.bd)))))))))))))))) 4) impl_system_clear_v2.kp 7 4 m s (impl_system_clear_v2.k2g N L1 (impl_system_clear_v2.k1 N K gv2 gv3 gv4 gv5 gv6 gv7 gv8 gv9 gv10 gv11))) at0 c1 gv2 gv3 gv4 gv5 gv6 gv7 gv8 gv9 gv10 gv11 x17 gv18 x19 gv20).trans ?_
    simp only [ih]
    kernel_rfl

theorem impl_system_clear_v2.l1_eq {ρ : Type} (N : Nat) (K : AV → Heap → Option ρ) (at0 : Int) (c1 : Int) (gv2 : Nat → Int) (gv3 : Nat → Int) (gv4 : Nat) (gv5 : Nat) (gv6 : Nat) (gv7 : Nat) (gv8 : Nat → Nat) (gv9 : Nat → Nat) (gv10 : Nat → Int) (gv11 : Nat → Int) :
    ∀ (m : Nat) (x17 : Int) (gv18 : Nat → Int), xloop (xcode (E56 N) ents impl_system_clear_v2.kp 7 N (cL (cK (cB (cB (cB (cB impl_system_clear_v2.bd)))))) 2) impl_system_clear_v2.kp 7 2 m (impl_system_clear_v2.st1 at0 c1 gv2 gv3 gv4 gv5 gv6 gv7 gv8 gv9 gv10 x17 gv18) (impl_system_clear_v2.k1 N K gv2 gv3 gv4 gv5 gv6 gv7 gv8 gv9 gv10 gv11) = (impl_system_clear_v2.l1 N (fun d0 d1 => K (.tup []) [⟨false, .flat 2 (.ints .i64 gv2)⟩, ⟨false, .flat 1 (.ints .i64 gv3)⟩, ⟨false, .avs [.slice false 4 0 gv4 .unk 1]⟩, ⟨false, .avs [.slice false 5 0 gv5 .whole 1]⟩, ⟨false, .hdr 6 gv6 gv7 gv8 gv9 none⟩, ⟨true, .flat 0 (.ints .i64 d0)⟩, ⟨true, .flat 0 (.ints .u8 d1)⟩]) at0 c1 gv2 gv4 gv8 gv9 (fun ov23 => (impl_system_clear_v2.k1 N K gv2 gv3 gv4 gv5 gv6 gv7 gv8 gv9 gv10 gv11) (.exit 2) (impl_system_clear_v2.sx1_0 gv2 gv3 gv4 gv5 gv6 gv7 gv8 gv9 gv10 ov23)) m x17 gv18) := by
  intro m
  induction m with
  | zero => intros; rfl
  | succ m ih =>
    intro x17 gv18
    refine (impl_system_clear_v2.b1_eq N K (fun s => xloop (xcode (E56 N) ents impl_system_clear_v2.kp 7 N (cL (cK (cB (cB (cB (cB impl_system_clear_v2.bd)))))) 2) impl_system_clear_v2.kp 7 2 m s (impl_system_clear_v2.k1 N K gv2 gv3 gv4 gv5 gv6 gv7 gv8 gv9 gv10 gv11)) at0 c1 gv2 gv3 gv4 gv5 gv6 gv7 gv8 gv9 gv10 gv11 x17 gv18).trans ?_
    simp only [ih, impl_system_clear_v2.l2_eq, impl_system_clear_v2.a2_0_eq]
    kernel_rfl

theorem impl_system_clear_v2.l0_eq {ρ : Type} (N : Nat) (K : AV → Heap → Option ρ) (at0 : Int) (c1 : Int) (gv2 : Nat → Int) (gv3 : Nat → Int) (gv4 : Nat) (gv5 : Nat) (gv6 : Nat) (gv7 : Nat) (gv8 : Nat → Nat) (gv9 : Nat → Nat) (gv10 : Nat → Int) (gv11 : Nat → Int) (rv12 : Int) :
    ∀ (m : Nat) (x13 : Int) (gv14 : Nat → Int), xloop (xcode (E56 N) ents impl_system_clear_v2.kp 7 N (cL (cK (cB (cA (cB (cB impl_system_clear_v2.bd)))))) 0) impl_system_clear_v2.kp 7 0 m (impl_system_clear_v2.st0 at0 c1 gv2 gv3 gv4 gv5 gv6 gv7 gv8 gv9 gv10 rv12 x13 gv14) (impl_system_clear_v2.k0 N K gv2 gv3 gv4 gv5 gv6 gv7 gv8 gv9 gv10 gv11) = (impl_system_clear_v2.l0 N (fun d0 d1 => K (.tup []) [⟨false, .flat 2 (.ints .i64 gv2)⟩, ⟨false, .flat 1 (.ints .i64 gv3)⟩, ⟨false, .avs [.slice false 4 0 gv4 .unk 1]⟩, ⟨false, .avs [.slice false 5 0 gv5 .whole 1]⟩, ⟨false, .hdr 6 gv6 gv7 gv8 gv9 none⟩, ⟨true, .flat 0 (.ints .i64 d0)⟩, ⟨true, .flat 0 (.ints .u8 d1)⟩]) at0 gv2 gv8 gv9 rv12 (fun ov16 => (impl_system_clear_v2.k0 N K gv2 gv3 gv4 gv5 gv6 gv7 gv8 gv9 gv10 gv11) (.exit 0) (impl_system_clear_v2.sx0_0 at0 c1 gv2 gv3 gv4 gv5 gv6 gv7 gv8 gv9 gv10 ov16)) m x13 gv14) := by
  intro m
  induction m with
  | zero => intros; rfl
  | succ m ih =>
    intro x13 gv14
    refine (impl_system_clear_v2.b0_eq N K (fun s => xloop (xcode (E56 N) ents impl_system_clear_v2.kp 7 N (cL (cK (cB (cA (cB (cB impl_system_clear_v2.bd)))))) 0) impl_system_clear_v2.kp 7 0 m s (impl_system_clear_v2.k0 N K gv2 gv3 gv4 gv5 gv6 gv7 gv8 gv9 gv10 gv11)) at0 c1 gv2 gv3 gv4 gv5 gv6 gv7 gv8 gv9 gv10 gv11 rv12 x13 gv14).trans ?_
    simp only [ih]
    kernel_rfl

theorem impl_system_clear_v2.s_eq {ρ : Type} (N : Nat) (K : AV → Heap → Option ρ) (at0 : Int) (c1 : Int) (gv2 : Nat → Int) (gv3 : Nat → Int) (gv4 : Nat) (gv5 : Nat) (gv6 : Nat) (gv7 : Nat) (gv8 : Nat → Nat) (gv9 : Nat → Nat) (gv10 : Nat → Int) (gv11 : Nat → Int) :
    xbody (E56 N) ents impl_system_clear_v2.kp N Go.Proofs.Try.f143 impl_system_clear_v2.bd [.sptr [(0, 2), (1, 1), (2, 1), (3, 1)], .int .i64 (at0), .int .i64 (c1)] [⟨false, .flat 2 (.ints .i64 gv2)⟩, ⟨false, .flat 1 (.ints .i64 gv3)⟩, ⟨false, .avs [.slice false 4 0 gv4 .unk 1]⟩, ⟨false, .avs [.slice false 5 0 gv5 .whole 1]⟩, ⟨false, .hdr 6 gv6 gv7 gv8 gv9 none⟩, ⟨true, .flat 0 (.ints .i64 gv10)⟩, ⟨true, .flat 0 (.ints .u8 gv11)⟩] K = (impl_system_clear_v2.s N (fun d0 d1 => K (.tup []) [⟨false, .flat 2 (.ints .i64 gv2)⟩, ⟨false, .flat 1 (.ints .i64 gv3)⟩, ⟨false, .avs [.slice false 4 0 gv4 .unk 1]⟩, ⟨false, .avs [.slice false 5 0 gv5 .whole 1]⟩, ⟨false, .hdr 6 gv6 gv7 gv8 gv9 none⟩, ⟨true, .flat 0 (.ints .i64 d0)⟩, ⟨true, .flat 0 (.ints .u8 d1)⟩]) (fun rv12 x13 gv14 => xloop (xcode (E56 N) ents impl_system_clear_v2.kp 7 N (cL (cK (cB (cA (cB (cB impl_system_clear_v2.bd)))))) 0) impl_system_clear_v2.kp 7 0 N (impl_system_clear_v2.st0 at0 c1 gv2 gv3 gv4 gv5 gv6 gv7 gv8 gv9 gv10 rv12 x13 gv14) (impl_system_clear_v2.k0 N K gv2 gv3 gv4 gv5 gv6 gv7 gv8 gv9 gv10 gv11)) at0 c1 gv2 gv4 gv8 gv9 gv11) := by kernel_rfl

theorem impl_system_clear_v2.eq {ρ : Type} (N : Nat) (K : AV → Heap → Option ρ) (at0 : Int) (c1 : Int) (gv2 : Nat → Int) (gv3 : Nat → Int) (gv4 : Nat) (gv5 : Nat) (gv6 : Nat) (gv7 : Nat) (gv8 : Nat → Nat) (gv9 : Nat → Nat) (gv10 : Nat → Int) (gv11 : Nat → Int) :
    xbody (E56 N) ents impl_system_clear_v2.kp N Go.Proofs.Try.f143 impl_system_clear_v2.bd [.sptr [(0, 2), (1, 1), (2, 1), (3, 1)], .int .i64 (at0), .int .i64 (c1)] [⟨false, .flat 2 (.ints .i64 gv2)⟩, ⟨false, .flat 1 (.ints .i64 gv3)⟩, ⟨false, .avs [.slice false 4 0 gv4 .unk 1]⟩, ⟨false, .avs [.slice false 5 0 gv5 .whole 1]⟩, ⟨false, .hdr 6 gv6 gv7 gv8 gv9 none⟩, ⟨true, .flat 0 (.ints .i64 gv10)⟩, ⟨true, .flat 0 (.ints .u8 gv11)⟩] K = (impl_system_clear_v2 N (fun d0 d1 => K (.tup []) [⟨false, .flat 2 (.ints .i64 gv2)⟩, ⟨false, .flat 1 (.ints .i64 gv3)⟩, ⟨false, .avs [.slice false 4 0 gv4 .unk 1]⟩, ⟨false, .avs [.slice false 5 0 gv5 .whole 1]⟩, ⟨false, .hdr 6 gv6 gv7 gv8 gv9 none⟩, ⟨true, .flat 0 (.ints .i64 d0)⟩, ⟨true, .flat 0 (.ints .u8 d1)⟩]) at0 c1 gv2 gv3 gv4 gv5 gv6 gv7 gv8 gv9 gv10 gv11) := by
  refine (impl_system_clear_v2.s_eq N K at0 c1 gv2 gv3 gv4 gv5 gv6 gv7 gv8 gv9 gv10 gv11).trans ?_
  simp only [impl_system_clear_v2.l0_eq, impl_system_clear_v2.a0_0_eq, impl_system_clear_v2.l1_eq, impl_system_clear_v2.a1_0_eq]
  kernel_rfl

noncomputable def impl_system_clear_v2.en (N : Nat) (ρ : Type) : List AV → Heap → (AV → Heap → Option ρ) → Option ρ
  | [.sptr [(0, 2), (1, 1), (2, 1), (3, 1)], .int .i64 (at0), .int .i64 (c1)], [⟨false, .flat 2 (.ints .i64 gv2)⟩, ⟨false, .flat 1 (.ints .i64 gv3)⟩, ⟨false, .avs [.slice false 4 0 gv4 .unk 1]⟩, ⟨false, .avs [.slice false 5 0 gv5 .whole 1]⟩, ⟨false, .hdr 6 gv6 gv7 gv8 gv9 none⟩, ⟨true, .flat 0 (.ints .i64 gv10)⟩, ⟨true, .flat 0 (.ints .u8 gv11)⟩], K => (impl_system_clear_v2 N (fun d0 d1 => K (.tup []) [⟨false, .flat 2 (.ints .i64 gv2)⟩, ⟨false, .flat 1 (.ints .i64 gv3)⟩, ⟨false, .avs [.slice false 4 0 gv4 .unk 1]⟩, ⟨false, .avs [.slice false 5 0 gv5 .whole 1]⟩, ⟨false, .hdr 6 gv6 gv7 gv8 gv9 none⟩, ⟨true, .flat 0 (.ints .i64 d0)⟩, ⟨true, .flat 0 (.ints .u8 d1)⟩]) at0 c1 gv2 gv3 gv4 gv5 gv6 gv7 gv8 gv9 gv10 gv11)
  | _, _, _ => none

theorem impl_system_clear_v2.en_ok (N : Nat) (hE : EnvOk (E56 N) ents) (ρ : Type) (args : List AV) (sh : Heap) (K : AV → Heap → Option ρ) (r : ρ) (h : impl_system_clear_v2.en N ρ args sh K = some r) : ∃ v sh', K v sh' = some r ∧ FnOk (E56 N).P 143 args sh v sh' := by
  unfold impl_system_clear_v2.en at h
  split at h
  · exact fn_ok hE (kp := impl_system_clear_v2.kp) (N := N) Go.Proofs.Try.func143 (c := impl_system_clear_v2.bd) (by kernel_rfl) ((impl_system_clear_v2.eq N _ _ _ _ _ _ _ _ _ _ _ _ _).trans h)
  · cases h

noncomputable def E57 (N : Nat) : Env := (E56 N).add 143 (impl_system_clear_v2.en N)

theorem E57_ok (N : Nat) : EnvOk (E57 N) ents := Env.add_ok (E56_ok N) (impl_system_clear_v2.en_ok N (E56_ok N))
end Go.Proofs.Ythecjjnieojjoaa.H
