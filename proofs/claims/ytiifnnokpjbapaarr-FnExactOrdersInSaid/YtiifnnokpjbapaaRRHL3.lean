/- The program computes these functions. -/
import Derived.Test.YtiifnnokpjbapaaRRHL2
namespace Go.Proofs.YtiifnnokpjbapaaRR.H
set_option linter.unusedVariables false
set_option linter.unusedSimpArgs false
open Go Go.RowKit Go.Proofs.YtiifnnokpjbapaaRR.Hy
set_option linter.unusedVariables false
set_option maxRecDepth 100000
noncomputable def laws_heldInt64S_su.kp : Keeps := ⟨[(0, [0, 1, 5], [], [])], [(0, [1], [], [])], []⟩

noncomputable def laws_heldInt64S_su.bd : Code := bodyOf Go.Proofs.Try.f20

noncomputable def laws_heldInt64S_su.fin {ρ : Type} (N : Nat) (K : AV → Heap → Option ρ) (gv2 : Nat) (gv3 : Nat → Int) : XE → St → Option ρ := finK (E23 N) laws_heldInt64S_su.kp.fins Go.Proofs.Try.f20 [⟨false, .flat gv2 (.ints .i64 gv3)⟩] K

noncomputable def laws_heldInt64S_su.k0 {ρ : Type} (N : Nat) (K : AV → Heap → Option ρ) (gv2 : Nat) (gv3 : Nat → Int) : XE → St → Option ρ := (blockK laws_heldInt64S_su.kp 1 0 (seqK (xcode (E23 N) ents laws_heldInt64S_su.kp 1 N (cB (cB laws_heldInt64S_su.bd)) 0) (laws_heldInt64S_su.fin N K gv2 gv3)))

theorem laws_heldInt64S_su.k0_mix {ρ : Type} (N : Nat) (K : AV → Heap → Option ρ) (gv2 : Nat) (gv3 : Nat → Int) : mixK (laws_heldInt64S_su.fin N K gv2 gv3 .ret) (laws_heldInt64S_su.k0 N K gv2 gv3) = (laws_heldInt64S_su.k0 N K gv2 gv3) := by
  funext e s; cases e <;> kernel_rfl

noncomputable def laws_heldInt64S_su.st0 (av0 : Nat) (gv2 : Nat) (gv3 : Nat → Int) (k4 : Int) (i5 : Int) : St := ⟨sl 21 [(0, .slice false 0 0 av0 .unk 1), (1, .int .i64 (k4)), (5, .int .i64 (i5))], [⟨false, .flat gv2 (.ints .i64 gv3)⟩]⟩

noncomputable def laws_heldInt64S_su.sx0_0 (gv2 : Nat) (gv3 : Nat → Int) (ov6 : Int) : St := ⟨sl 21 [(1, .int .i64 (ov6))], [⟨false, .flat gv2 (.ints .i64 gv3)⟩]⟩

theorem laws_heldInt64S_su.b0_gen {ρ : Type} (N : Nat) (K : AV → Heap → Option ρ) (L0 : St → Option ρ) (kv : XE → St → Option ρ) (av0 : Nat) (gv2 : Nat) (gv3 : Nat → Int) (k4 : Int) (i5 : Int) :
    xcode (E23 N) ents laws_heldInt64S_su.kp 1 N (cL (cK (cB (cA (cB laws_heldInt64S_su.bd))))) 0 (laws_heldInt64S_su.st0 av0 gv2 gv3 k4 i5) (roundK laws_heldInt64S_su.kp 1 0 L0 (mixK (laws_heldInt64S_su.fin N K gv2 gv3 .ret) kv)) = (laws_heldInt64S_su.b0 N (fun d0 => K (.int .i64 (d0)) [⟨false, .flat gv2 (.ints .i64 gv3)⟩]) (fun k4 i5 => L0 (laws_heldInt64S_su.st0 av0 gv2 gv3 k4 i5)) (fun ov6 => kv (.exit 0) (laws_heldInt64S_su.sx0_0 gv2 gv3 ov6)) av0 gv3 k4 i5) := by kernel_rfl

theorem laws_heldInt64S_su.b0_eq {ρ : Type} (N : Nat) (K : AV → Heap → Option ρ) (L0 : St → Option ρ) (av0 : Nat) (gv2 : Nat) (gv3 : Nat → Int) (k4 : Int) (i5 : Int) :
    xcode (E23 N) ents laws_heldInt64S_su.kp 1 N (cL (cK (cB (cA (cB laws_heldInt64S_su.bd))))) 0 (laws_heldInt64S_su.st0 av0 gv2 gv3 k4 i5) (roundK laws_heldInt64S_su.kp 1 0 L0 (laws_heldInt64S_su.k0 N K gv2 gv3)) = (laws_heldInt64S_su.b0 N (fun d0 => K (.int .i64 (d0)) [⟨false, .flat gv2 (.ints .i64 gv3)⟩]) (fun k4 i5 => L0 (laws_heldInt64S_su.st0 av0 gv2 gv3 k4 i5)) (fun ov6 => (laws_heldInt64S_su.k0 N K gv2 gv3) (.exit 0) (laws_heldInt64S_su.sx0_0 gv2 gv3 ov6)) av0 gv3 k4 i5) := by
  have h := laws_heldInt64S_su.b0_gen N K L0 (laws_heldInt64S_su.k0 N K gv2 gv3) av0 gv2 gv3 k4 i5
  rw [laws_heldInt64S_su.k0_mix] at h
  exact h

theorem laws_heldInt64S_su.a0_0_eq {ρ : Type} (N : Nat) (K : AV → Heap → Option ρ) (gv2 : Nat) (gv3 : Nat → Int) (ov6 : Int) :
    (laws_heldInt64S_su.k0 N K gv2 gv3) (.exit 0) (laws_heldInt64S_su.sx0_0 gv2 gv3 ov6) = (laws_heldInt64S_su.a0_0 N (fun d0 => K (.int .i64 (d0)) [⟨false, .flat gv2 (.ints .i64 gv3)⟩]) ov6) := by kernel_rfl

theorem laws_heldInt64S_su.l0_eq {ρ : Type} (N : Nat) (K : AV → Heap → Option ρ) (av0 : Nat) (gv2 : Nat) (gv3 : Nat → Int) :
    ∀ (m : Nat) (k4 : Int) (i5 : Int), xloop (xcode (E23 N) ents laws_heldInt64S_su.kp 1 N (cL (cK (cB (cA (cB laws_heldInt64S_su.bd))))) 0) laws_heldInt64S_su.kp 1 0 m (laws_heldInt64S_su.st0 av0 gv2 gv3 k4 i5) (laws_heldInt64S_su.k0 N K gv2 gv3) = (laws_heldInt64S_su.l0 N (fun d0 => K (.int .i64 (d0)) [⟨false, .flat gv2 (.ints .i64 gv3)⟩]) av0 gv3 (fun ov6 => (laws_heldInt64S_su.k0 N K gv2 gv3) (.exit 0) (laws_heldInt64S_su.sx0_0 gv2 gv3 ov6)) m k4 i5) := by
  intro m
  induction m with
  | zero => intros; rfl
  | succ m ih =>
    intro k4 i5
    refine (laws_heldInt64S_su.b0_eq N K (fun s => xloop (xcode (E23 N) ents laws_heldInt64S_su.kp 1 N (cL (cK (cB (cA (cB laws_heldInt64S_su.bd))))) 0) laws_heldInt64S_su.kp 1 0 m s (laws_heldInt64S_su.k0 N K gv2 gv3)) av0 gv2 gv3 k4 i5).trans ?_
    simp only [ih]
    kernel_rfl

theorem laws_heldInt64S_su.s_eq {ρ : Type} (N : Nat) (K : AV → Heap → Option ρ) (av0 : Nat) (k1 : Int) (gv2 : Nat) (gv3 : Nat → Int) :
    xbody (E23 N) ents laws_heldInt64S_su.kp N Go.Proofs.Try.f20 laws_heldInt64S_su.bd [.slice false 0 0 av0 .unk 1, .int .i64 (k1)] [⟨false, .flat gv2 (.ints .i64 gv3)⟩] K = (laws_heldInt64S_su.s N (fun d0 => K (.int .i64 (d0)) [⟨false, .flat gv2 (.ints .i64 gv3)⟩]) (fun k4 i5 => xloop (xcode (E23 N) ents laws_heldInt64S_su.kp 1 N (cL (cK (cB (cA (cB laws_heldInt64S_su.bd))))) 0) laws_heldInt64S_su.kp 1 0 N (laws_heldInt64S_su.st0 av0 gv2 gv3 k4 i5) (laws_heldInt64S_su.k0 N K gv2 gv3)) k1) := by kernel_rfl

theorem laws_heldInt64S_su.eq {ρ : Type} (N : Nat) (K : AV → Heap → Option ρ) (av0 : Nat) (k1 : Int) (gv2 : Nat) (gv3 : Nat → Int) :
    xbody (E23 N) ents laws_heldInt64S_su.kp N Go.Proofs.Try.f20 laws_heldInt64S_su.bd [.slice false 0 0 av0 .unk 1, .int .i64 (k1)] [⟨false, .flat gv2 (.ints .i64 gv3)⟩] K = (laws_heldInt64S_su N (fun d0 => K (.int .i64 (d0)) [⟨false, .flat gv2 (.ints .i64 gv3)⟩]) av0 k1 gv2 gv3) := by
  refine (laws_heldInt64S_su.s_eq N K av0 k1 gv2 gv3).trans ?_
  simp only [laws_heldInt64S_su.l0_eq, laws_heldInt64S_su.a0_0_eq]
  kernel_rfl

noncomputable def laws_heldInt64S_su.en (N : Nat) (ρ : Type) : List AV → Heap → (AV → Heap → Option ρ) → Option ρ
  | [.slice false 0 0 av0 .unk 1, .int .i64 (k1)], [⟨false, .flat gv2 (.ints .i64 gv3)⟩], K => (laws_heldInt64S_su N (fun d0 => K (.int .i64 (d0)) [⟨false, .flat gv2 (.ints .i64 gv3)⟩]) av0 k1 gv2 gv3)
  | _, _, _ => none

theorem laws_heldInt64S_su.en_ok (N : Nat) (hE : EnvOk (E23 N) ents) (ρ : Type) (args : List AV) (sh : Heap) (K : AV → Heap → Option ρ) (r : ρ) (h : laws_heldInt64S_su.en N ρ args sh K = some r) : ∃ v sh', K v sh' = some r ∧ FnOk (E23 N).P 20 args sh v sh' := by
  unfold laws_heldInt64S_su.en at h
  split at h
  · exact fn_ok hE (kp := laws_heldInt64S_su.kp) (N := N) Go.Proofs.Try.func20 (c := laws_heldInt64S_su.bd) (by kernel_rfl) ((laws_heldInt64S_su.eq N _ _ _ _ _).trans h)
  · cases h

noncomputable def E24 (N : Nat) : Env := (E23 N).add 20 (laws_heldInt64S_su.en N)

theorem E24_ok (N : Nat) : EnvOk (E24 N) ents := Env.add_ok (E23_ok N) (laws_heldInt64S_su.en_ok N (E23_ok N))

noncomputable def laws_FnExactOrdersIn_suh.kp : Keeps := ⟨[], [], []⟩

noncomputable def laws_FnExactOrdersIn_suh.bd : Code := bodyOf Go.Proofs.Try.f5

noncomputable def laws_FnExactOrdersIn_suh.fin {ρ : Type} (N : Nat) (K : AV → Heap → Option ρ) (gv1 : Nat) (gv2 : Nat) (gv3 : Nat → Nat) (gv4 : Nat → Nat) (gv5 : Nat) (gv6 : Nat → Int) : XE → St → Option ρ := finK (E24 N) laws_FnExactOrdersIn_suh.kp.fins Go.Proofs.Try.f5 [⟨false, .hdr 1 gv1 gv2 gv3 gv4 none⟩, ⟨false, .flat gv5 (.ints .i64 gv6)⟩] K

theorem laws_FnExactOrdersIn_suh.eq {ρ : Type} (N : Nat) (K : AV → Heap → Option ρ) (aTable0 : Nat) (gv1 : Nat) (gv2 : Nat) (gv3 : Nat → Nat) (gv4 : Nat → Nat) (gv5 : Nat) (gv6 : Nat → Int) :
    xbody (E24 N) ents laws_FnExactOrdersIn_suh.kp N Go.Proofs.Try.f5 laws_FnExactOrdersIn_suh.bd [.slice false 0 0 aTable0 .unk 1] [⟨false, .hdr 1 gv1 gv2 gv3 gv4 none⟩, ⟨false, .flat gv5 (.ints .i64 gv6)⟩] K = (laws_FnExactOrdersIn_suh N (fun d0 => K (.bool (d0)) [⟨false, .hdr 1 gv1 gv2 gv3 gv4 none⟩, ⟨false, .flat gv5 (.ints .i64 gv6)⟩]) aTable0 gv1 gv2 gv3 gv4 gv5 gv6) := by kernel_rfl

noncomputable def laws_FnExactOrdersIn_suh.en (N : Nat) (ρ : Type) : List AV → Heap → (AV → Heap → Option ρ) → Option ρ
  | [.slice false 0 0 aTable0 .unk 1], [⟨false, .hdr 1 gv1 gv2 gv3 gv4 none⟩, ⟨false, .flat gv5 (.ints .i64 gv6)⟩], K => (laws_FnExactOrdersIn_suh N (fun d0 => K (.bool (d0)) [⟨false, .hdr 1 gv1 gv2 gv3 gv4 none⟩, ⟨false, .flat gv5 (.ints .i64 gv6)⟩]) aTable0 gv1 gv2 gv3 gv4 gv5 gv6)
  | _, _, _ => none

theorem laws_FnExactOrdersIn_suh.en_ok (N : Nat) (hE : EnvOk (E24 N) ents) (ρ : Type) (args : List AV) (sh : Heap) (K : AV → Heap → Option ρ) (r : ρ) (h : laws_FnExactOrdersIn_suh.en N ρ args sh K = some r) : ∃ v sh', K v sh' = some r ∧ FnOk (E24 N).P 5 args sh v sh' := by
  unfold laws_FnExactOrdersIn_suh.en at h
  split at h
  · exact fn_ok hE (kp := laws_FnExactOrdersIn_suh.kp) (N := N) Go.Proofs.Try.func5 (c := laws_FnExactOrdersIn_suh.bd) (by kernel_rfl) ((laws_FnExactOrdersIn_suh.eq N _ _ _ _ _ _ _ _).trans h)
  · cases h

noncomputable def E25 (N : Nat) : Env := (E24 N).add 5 (laws_FnExactOrdersIn_suh.en N)

theorem E25_ok (N : Nat) : EnvOk (E25 N) ents := Env.add_ok (E24_ok N) (laws_FnExactOrdersIn_suh.en_ok N (E24_ok N))
end Go.Proofs.YtiifnnokpjbapaaRR.H
