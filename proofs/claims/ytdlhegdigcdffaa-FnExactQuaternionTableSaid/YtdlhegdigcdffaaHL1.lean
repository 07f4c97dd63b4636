/- The program computes these functions. -/
import Derived.Test.YtdlhegdigcdffaaHL0
namespace Go.Proofs.Ytdlhegdigcdffaa.H
set_option linter.unusedVariables false
set_option linter.unusedSimpArgs false
open Go Go.RowKit Go.Proofs.Ytdlhegdigcdffaa.Hy
set_option linter.unusedVariables false
set_option maxRecDepth 100000
noncomputable def laws_markInt64SS_v2.kp : Keeps := ⟨[(0, [0, 1, 5], [], [])], [(0, [1], [], [])], []⟩

noncomputable def laws_markInt64SS_v2.bd : Code := bodyOf Go.Proofs.Try.f17

noncomputable def laws_markInt64SS_v2.fin {ρ : Type} (N : Nat) (K : AV → Heap → Option ρ) (gv2 : Nat) (gv3 : Nat) (gv4 : Nat → Nat) (gv5 : Nat → Nat) (gv6 : Nat → Int) : XE → St → Option ρ := finK (E14 N) laws_markInt64SS_v2.kp.fins Go.Proofs.Try.f17 [⟨false, .hdr 1 gv2 gv3 gv4 gv5 none⟩, ⟨true, .flat 0 (.ints .i64 gv6)⟩] K

noncomputable def laws_markInt64SS_v2.k0 {ρ : Type} (N : Nat) (K : AV → Heap → Option ρ) (gv2 : Nat) (gv3 : Nat) (gv4 : Nat → Nat) (gv5 : Nat → Nat) (gv6 : Nat → Int) : XE → St → Option ρ := (blockK laws_markInt64SS_v2.kp 2 0 (seqK (xcode (E14 N) ents laws_markInt64SS_v2.kp 2 N (cB (cB laws_markInt64SS_v2.bd)) 0) (laws_markInt64SS_v2.fin N K gv2 gv3 gv4 gv5 gv6)))

theorem laws_markInt64SS_v2.k0_mix {ρ : Type} (N : Nat) (K : AV → Heap → Option ρ) (gv2 : Nat) (gv3 : Nat) (gv4 : Nat → Nat) (gv5 : Nat → Nat) (gv6 : Nat → Int) : mixK (laws_markInt64SS_v2.fin N K gv2 gv3 gv4 gv5 gv6 .ret) (laws_markInt64SS_v2.k0 N K gv2 gv3 gv4 gv5 gv6) = (laws_markInt64SS_v2.k0 N K gv2 gv3 gv4 gv5 gv6) := by
  funext e s; cases e <;> kernel_rfl

noncomputable def laws_markInt64SS_v2.st0 (av0 : Nat) (gv2 : Nat) (gv3 : Nat) (gv4 : Nat → Nat) (gv5 : Nat → Nat) (k7 : Int) (i8 : Int) (gv9 : Nat → Int) : St := ⟨sl 19 [(0, .slice true 0 0 av0 .unk 1), (1, .int .i64 (k7)), (5, .int .i64 (i8))], [⟨false, .hdr 1 gv2 gv3 gv4 gv5 none⟩, ⟨true, .flat 0 (.ints .i64 gv9)⟩]⟩

noncomputable def laws_markInt64SS_v2.sx0_0 (gv2 : Nat) (gv3 : Nat) (gv4 : Nat → Nat) (gv5 : Nat → Nat) (ov12 : Int) (ov13 : Nat → Int) : St := ⟨sl 19 [(1, .int .i64 (ov12))], [⟨false, .hdr 1 gv2 gv3 gv4 gv5 none⟩, ⟨true, .flat 0 (.ints .i64 ov13)⟩]⟩

theorem laws_markInt64SS_v2.b0_gen {ρ : Type} (N : Nat) (K : AV → Heap → Option ρ) (L0 : St → Option ρ) (kv : XE → St → Option ρ) (av0 : Nat) (gv2 : Nat) (gv3 : Nat) (gv4 : Nat → Nat) (gv5 : Nat → Nat) (gv6 : Nat → Int) (k7 : Int) (i8 : Int) (gv9 : Nat → Int) :
    xcode (E14 N) ents laws_markInt64SS_v2.kp 2 N (cL (cK (cB (cA (cB laws_markInt64SS_v2.bd))))) 0 (laws_markInt64SS_v2.st0 av0 gv2 gv3 gv4 gv5 k7 i8 gv9) (roundK laws_markInt64SS_v2.kp 2 0 L0 (mixK (laws_markInt64SS_v2.fin N K gv2 gv3 gv4 gv5 gv6 .ret) kv)) = (laws_markInt64SS_v2.b0 N (fun d0 d1 => K (.int .i64 (d0)) [⟨false, .hdr 1 gv2 gv3 gv4 gv5 none⟩, ⟨true, .flat 0 (.ints .i64 d1)⟩]) (fun k7 i8 gv9 => L0 (laws_markInt64SS_v2.st0 av0 gv2 gv3 gv4 gv5 k7 i8 gv9)) (fun ov12 ov13 => kv (.exit 0) (laws_markInt64SS_v2.sx0_0 gv2 gv3 gv4 gv5 ov12 ov13)) av0 gv4 gv5 k7 i8 gv9) := by kernel_rfl

theorem laws_markInt64SS_v2.b0_eq {ρ : Type} (N : Nat) (K : AV → Heap → Option ρ) (L0 : St → Option ρ) (av0 : Nat) (gv2 : Nat) (gv3 : Nat) (gv4 : Nat → Nat) (gv5 : Nat → Nat) (gv6 : Nat → Int) (k7 : Int) (i8 : Int) (gv9 : Nat → Int) :
    xcode (E14 N) ents laws_markInt64SS_v2.kp 2 N (cL (cK (cB (cA (cB laws_markInt64SS_v2.bd))))) 0 (laws_markInt64SS_v2.st0 av0 gv2 gv3 gv4 gv5 k7 i8 gv9) (roundK laws_markInt64SS_v2.kp 2 0 L0 (laws_markInt64SS_v2.k0 N K gv2 gv3 gv4 gv5 gv6)) = (laws_markInt64SS_v2.b0 N (fun d0 d1 => K (.int .i64 (d0)) [⟨false, .hdr 1 gv2 gv3 gv4 gv5 none⟩, ⟨true, .flat 0 (.ints .i64 d1)⟩]) (fun k7 i8 gv9 => L0 (laws_markInt64SS_v2.st0 av0 gv2 gv3 gv4 gv5 k7 i8 gv9)) (fun ov12 ov13 => (laws_markInt64SS_v2.k0 N K gv2 gv3 gv4 gv5 gv6) (.exit 0) (laws_markInt64SS_v2.sx0_0 gv2 gv3 gv4 gv5 ov12 ov13)) av0 gv4 gv5 k7 i8 gv9) := by
  have h := laws_markInt64SS_v2.b0_gen N K L0 (laws_markInt64SS_v2.k0 N K gv2 gv3 gv4 gv5 gv6) av0 gv2 gv3 gv4 gv5 gv6 k7 i8 gv9
  rw [laws_markInt64SS_v2.k0_mix] at h
  exact h

theorem laws_markInt64SS_v2.a0_0_eq {ρ : Type} (N : Nat) (K : AV → Heap → Option ρ) (gv2 : Nat) (gv3 : Nat) (gv4 : Nat → Nat) (gv5 : Nat → Nat) (gv6 : Nat → Int) (ov12 : Int) (ov13 : Nat → Int) :
    (laws_markInt64SS_v2.k0 N K gv2 gv3 gv4 gv5 gv6) (.exit 0) (laws_markInt64SS_v2.sx0_0 gv2 gv3 gv4 gv5 ov12 ov13) = (laws_markInt64SS_v2.a0_0 N (fun d0 d1 => K (.int .i64 (d0)) [⟨false, .hdr 1 gv2 gv3 gv4 gv5 none⟩, ⟨true, .flat 0 (.ints .i64 d1)⟩]) ov12 ov13) := by kernel_rfl

theorem laws_markInt64SS_v2.l0_eq {ρ : Type} (N : Nat) (K : AV → Heap → Option ρ) (av0 : Nat) (gv2 : Nat) (gv3 : Nat) (gv4 : Nat → Nat) (gv5 : Nat → Nat) (gv6 : Nat → Int) :
    ∀ (m : Nat) (k7 : Int) (i8 : Int) (gv9 : Nat → Int), xloop (xcode (E14 N) ents laws_markInt64SS_v2.kp 2 N (cL (cK (cB (cA (cB laws_markInt64SS_v2.bd))))) 0) laws_markInt64SS_v2.kp 2 0 m (laws_markInt64SS_v2.st0 av0 gv2 gv3 gv4 gv5 k7 i8 gv9) (laws_markInt64SS_v2.k0 N K gv2 gv3 gv4 gv5 gv6) = (laws_markInt64SS_v2.l0 N (fun d0 d1 => K (.int .i64 (d0)) [⟨false, .hdr 1 gv2 gv3 gv4 gv5 none⟩, ⟨true, .flat 0 (.ints .i64 d1)⟩]) av0 gv4 gv5 (fun ov12 ov13 => (laws_markInt64SS_v2.k0 N K gv2 gv3 gv4 gv5 gv6) (.exit 0) (laws_markInt64SS_v2.sx0_0 gv2 gv3 gv4 gv5 ov12 ov13)) m k7 i8 gv9) := by
  intro m
  induction m with
  | zero => intros; rfl
  | succ m ih =>
    intro k7 i8 gv9
    refine (laws_markInt64SS_v2.b0_eq N K (fun s => xloop (xcode (E14 N) ents laws_markInt64SS_v2.kp 2 N (cL (cK (cB (cA (cB laws_markInt64SS_v2.bd))))) 0) laws_markInt64SS_v2.kp 2 0 m s (laws_markInt64SS_v2.k0 N K gv2 gv3 gv4 gv5 gv6)) av0 gv2 gv3 gv4 gv5 gv6 k7 i8 gv9).trans ?_
    simp only [ih]
    kernel_rfl

theorem laws_markInt64SS_v2.s_eq {ρ : Type} (N : Nat) (K : AV → Heap → Option ρ) (av0 : Nat) (k1 : Int) (gv2 : Nat) (gv3 : Nat) (gv4 : Nat → Nat) (gv5 : Nat → Nat) (gv6 : Nat → Int) :
    xbody (E14 N) ents laws_markInt64SS_v2.kp N Go.Proofs.Try.f17 laws_markInt64SS_v2.bd [.slice true 0 0 av0 .unk 1, .int .i64 (k1)] [⟨false, .hdr 1 gv2 gv3 gv4 gv5 none⟩, ⟨true, .flat 0 (.ints .i64 gv6)⟩] K = (laws_markInt64SS_v2.s N (fun d0 d1 => K (.int .i64 (d0)) [⟨false, .hdr 1 gv2 gv3 gv4 gv5 none⟩, ⟨true, .flat 0 (.ints .i64 d1)⟩]) (fun k7 i8 gv9 => xloop (xcode (E14 N) ents laws_markInt64SS_v2.kp 2 N (cL (cK (cB (cA (cB laws_markInt64SS_v2.bd))))) 0) laws_markInt64SS_v2.kp 2 0 N (laws_markInt64SS_v2.st0 av0 gv2 gv3 gv4 gv5 k7 i8 gv9) (laws_markInt64SS_v2.k0 N K gv2 gv3 gv4 gv5 gv6)) k1 gv6) := by kernel_rfl

theorem laws_markInt64SS_v2.eq {ρ : Type} (N : Nat) (K : AV → Heap → Option ρ) (av0 : Nat) (k1 : Int) (gv2 : Nat) (gv3 : Nat) (gv4 : Nat → Nat) (gv5 : Nat → Nat) (gv6 : Nat → Int) :
    xbody (E14 N) ents laws_markInt64SS_v2.kp N Go.Proofs.Try.f17 laws_markInt64SS_v2.bd [.slice true 0 0 av0 .unk 1, .int .i64 (k1)] [⟨false, .hdr 1 gv2 gv3 gv4 gv5 none⟩, ⟨true, .flat 0 (.ints .i64 gv6)⟩] K = (laws_markInt64SS_v2 N (fun d0 d1 => K (.int .i64 (d0)) [⟨false, .hdr 1 gv2 gv3 gv4 gv5 none⟩, ⟨true, .flat 0 (.ints .i64 d1)⟩]) av0 k1 gv2 gv3 gv4 gv5 gv6) := by
  refine (laws_markInt64SS_v2.s_eq N K av0 k1 gv2 gv3 gv4 gv5 gv6).trans ?_
  simp only [laws_markInt64SS_v2.l0_eq, laws_markInt64SS_v2.a0_0_eq]
  kernel_rfl

noncomputable def laws_markInt64SS.en (N : Nat) (ρ : Type) : List AV → Heap → (AV → Heap → Option ρ) → Option ρ
  | [.slice false 0 0 av0 .unk 1, .int .i64 (k1)], [⟨false, .hdr 1 gv2 gv3 gv4 gv5 none⟩, ⟨true, .flat 0 (.ints .i64 gv6)⟩], K => (laws_markInt64SS N (fun d0 d1 => K (.int .i64 (d0)) [⟨false, .hdr 1 gv2 gv3 gv4 gv5 none⟩, ⟨true, .flat 0 (.ints .i64 d1)⟩]) av0 k1 gv2 gv3 gv4 gv5 gv6)
  | [.slice true 0 0 av0 .unk 1, .int .i64 (k1)], [⟨false, .hdr 1 gv2 gv3 gv4 gv5 none⟩, ⟨true, .flat 0 (.ints .i64 gv6)⟩], K => (laws_markInt64SS_v2 N (fun d0 d1 => K (.int .i64 (d0)) [⟨false, .hdr 1 gv2 gv3 gv4 gv5 none⟩, ⟨true, .flat 0 (.ints .i64 d1)⟩]) av0 k1 gv2 gv3 gv4 gv5 gv6)
  | _, _, _ => none

theorem laws_markInt64SS.en_ok (N : Nat) (hE : EnvOk (E14 N) ents) (ρ : Type) (args : List AV) (sh : Heap) (K : AV → Heap → Option ρ) (r : ρ) (h : laws_markInt64SS.en N ρ args sh K = some r) : ∃ v sh', K v sh' = some r ∧ FnOk (E14 N).P 17 args sh v sh' := by
  unfold laws_markInt64SS.en at h
  split at h
  · exact fn_ok hE (kp := laws_markInt64SS.kp) (N := N) Go.Proofs.Try.func17 (c := laws_markInt64SS.bd) (by kernel_rfl) ((laws_markInt64SS.eq N _ _ _ _ _ _ _ _).trans h)
  · exact fn_ok hE (kp := laws_markInt64SS_v2.kp) (N := N) Go.Proofs.Try.func17 (c := laws_markInt64SS_v2.bd) (by kernel_rfl) ((laws_markInt64SS_v2.eq N _ _ _ _ _ _ _ _).trans h)
  · cases h

noncomputable def E15 (N : Nat) : Env := (E14 N).add 17 (laws_markInt64SS.en N)

theorem E15_ok (N : Nat) : EnvOk (E15 N) ents := Env.add_ok (E14_ok N) (laws_markInt64SS.en_ok N (E14_ok N))

noncomputable def laws_heldInt64S.kp : Keeps := ⟨[(0, [0, 1, 5], [], [])], [(0, [1], [], [])], []⟩

noncomputable def laws_heldInt64S.bd : Code := bodyOf Go.Proofs.Try.f32

noncomputable def laws_heldInt64S.fin {ρ : Type} (N : Nat) (K : AV → Heap → Option ρ) (gv2 : Nat) (gv3 : Nat → Int) : XE → St → Option ρ := finK (E15 N) laws_heldInt64S.kp.fins Go.Proofs.Try.f32 [⟨false, .flat gv2 (.ints .i64 gv3)⟩] K

noncomputable def laws_heldInt64S.k0 {ρ : Type} (N : Nat) (K : AV → Heap → Option ρ) (gv2 : Nat) (gv3 : Nat → Int) : XE → St → Option ρ := (blockK laws_heldInt64S.kp 1 0 (seqK (xcode (E15 N) ents laws_heldInt64S.kp 1 N (cB (cB laws_heldInt64S.bd)) 0) (laws_heldInt64S.fin N K gv2 gv3)))

theorem laws_heldInt64S.k0_mix {ρ : Type} (N : Nat) (K : AV → Heap → Option ρ) (gv2 : Nat) (gv3 : Nat → Int) : mixK (laws_heldInt64S.fin N K gv2 gv3 .ret) (laws_heldInt64S.k0 N K gv2 gv3) = (laws_heldInt64S.k0 N K gv2 gv3) := by
  funext e s; cases e <;> kernel_rfl

noncomputable def laws_heldInt64S.st0 (av0 : Nat) (gv2 : Nat) (gv3 : Nat → Int) (k4 : Int) (i5 : Int) : St := ⟨sl 21 [(0, .slice false 0 0 av0 .unk 1), (1, .int .i64 (k4)), (5, .int .i64 (i5))], [⟨false, .flat gv2 (.ints .i64 gv3)⟩]⟩

noncomputable def laws_heldInt64S.sx0_0 (gv2 : Nat) (gv3 : Nat → Int) (ov6 : Int) : St := ⟨sl 21 [(1, .int .i64 (ov6))], [⟨false, .flat gv2 (.ints .i64 gv3)⟩]⟩

theorem laws_heldInt64S.b0_gen {ρ : Type} (N : Nat) (K : AV → Heap → Option ρ) (L0 : St → Option ρ) (kv : XE → St → Option ρ) (av0 : Nat) (gv2 : Nat) (gv3 : Nat → Int) (k4 : Int) (i5 : Int) :
    xcode (E15 N) ents laws_heldInt64S.kp 1 N (cL (cK (cB (cA (cB laws_heldInt64S.bd))))) 0 (laws_heldInt64S.st0 av0 gv2 gv3 k4 i5) (roundK laws_heldInt64S.kp 1 0 L0 (mixK (laws_heldInt64S.fin N K gv2 gv3 .ret) kv)) = (laws_heldInt64S.b0 N (fun d0 => K (.int .i64 (d0)) [⟨false, .flat gv2 (.ints .i64 gv3)⟩]) (fun k4 i5 => L0 (laws_heldInt64S.st0 av0 gv2 gv3 k4 i5)) (fun ov6 => kv (.exit 0) (laws_heldInt64S.sx0_0 gv2 gv3 ov6)) av0 gv3 k4 i5) := by kernel_rfl

theorem laws_heldInt64S.b0_eq {ρ : Type} (N : Nat) (K : AV → Heap → Option ρ) (L0 : St → Option ρ) (av0 : Nat) (gv2 : Nat) (gv3 : Nat → Int) (k4 : Int) (i5 : Int) :
    xcode (E15 N) ents laws_heldInt64S.kp 1 N (cL (cK (cB (cA (cB laws_heldInt64S.bd))))) 0 (laws_heldInt64S.st0 av0 gv2 gv3 k4 i5) (roundK laws_heldInt64S.kp 1 0 L0 (laws_heldInt64S.k0 N K gv2 gv3)) = (laws_heldInt64S.b0 N (fun d0 => K (.int .i64 (d0)) [⟨false, .flat gv2 (.ints .i64 gv3)⟩]) (fun k4 i5 => L0 (laws_heldInt64S.st0 av0 gv2 gv3 k4 i5)) (fun ov6 => (laws_heldInt64S.k0 N K gv2 gv3) (.exit 0) (laws_heldInt64S.sx0_0 gv2 gv3 ov6)) av0 gv3 k4 i5) := by
  have h := laws_heldInt64S.b0_gen N K L0 (laws_heldInt64S.k0 N K gv2 gv3) av0 gv2 gv3 k4 i5
  rw [laws_heldInt64S.k0_mix] at h
  exact h

theorem laws_heldInt64S.a0_0_eq {ρ : Type} (N : Nat) (K : AV → Heap → Option ρ) (gv2 : Nat) (gv3 : Nat → Int) (ov6 : Int) :
    (laws_heldInt64S.k0 N K gv2 gv3) (.exit 0) (laws_heldInt64S.sx0_0 gv2 gv3 ov6) = (laws_heldInt64S.a0_0 N (fun d0 => K (.int .i64 (d0)) [⟨false, .flat gv2 (.ints .i64 gv3)⟩]) ov6) := by kernel_rfl

theorem laws_heldInt64S.l0_eq {ρ : Type} (N : Nat) (K : AV → Heap → Option ρ) (av0 : Nat) (gv2 : Nat) (gv3 : Nat → Int) :
    ∀ (m : Nat) (k4 : Int) (i5 : Int), xloop (xcode (E15 N) ents laws_heldInt64S.kp 1 N (cL (cK (cB (cA (cB laws_heldInt64S.bd))))) 0) laws_heldInt64S.kp 1 0 m (laws_heldInt64S.st0 av0 gv2 gv3 k4 i5) (laws_heldInt64S.k0 N K gv2 gv3) = (laws_heldInt64S.l0 N (fun d0 => K (.int .i64 (d0)) [⟨false, .flat gv2 (.ints .i64 gv3)⟩]) av0 gv3 (fun ov6 => (laws_heldInt64S.k0 N K gv2 gv3) (.exit 0) (laws_heldInt64S.sx0_0 gv2 gv3 ov6)) m k4 i5) := by
  intro m
  induction m with
  | zero => intros; rfl
  | succ m ih =>
    intro k4 i5
    refine (laws_heldInt64S.b0_eq N K (fun s => xloop (xcode (E15 N) ents laws_heldInt64S.kp 1 N (cL (cK (cB (cA (cB laws_heldInt64S.bd))))) 0) laws_heldInt64S.kp 1 0 m s (laws_heldInt64S.k0 N K gv2 gv3)) av0 gv2 gv3 k4 i5).trans ?_
    simp only [ih]
    kernel_rfl

theorem laws_heldInt64S.s_eq {ρ : Type} (N : Nat) (K : AV → Heap → Option ρ) (av0 : Nat) (k1 : Int) (gv2 : Nat) (gv3 : Nat → Int) :
    xbody (E15 N) ents laws_heldInt64S.kp N Go.Proofs.Try.f32 laws_heldInt64S.bd [.slice false 0 0 av0 .unk 1, .int .i64 (k1)] [⟨false, .flat gv2 (.ints .i64 gv3)⟩] K = (laws_heldInt64S.s N (fun d0 => K (.int .i64 (d0)) [⟨false, .flat gv2 (.ints .i64 gv3)⟩]) (fun k4 i5 => xloop (xcode (E15 N) ents laws_heldInt64S.kp 1 N (cL (cK (cB (cA (cB laws_heldInt64S.bd))))) 0) laws_heldInt64S.kp 1 0 N (laws_heldInt64S.st0 av0 gv2 gv3 k4 i5) (laws_heldInt64S.k0 N K gv2 gv3)) k1) := by kernel_rfl

theorem laws_heldInt64S.eq {ρ : Type} (N : Nat) (K : AV → Heap → Option ρ) (av0 : Nat) (k1 : Int) (gv2 : Nat) (gv3 : Nat → Int) :
    xbody (E15 N) ents laws_heldInt64S.kp N Go.Proofs.Try.f32 laws_heldInt64S.bd [.slice false 0 0 av0 .unk 1, .int .i64 (k1)] [⟨false, .flat gv2 (.ints .i64 gv3)⟩] K = (laws_heldInt64S N (fun d0 => K (.int .i64 (d0)) [⟨false, .flat gv2 (.ints .i64 gv3)⟩]) av0 k1 gv2 gv3) := by
  refine (laws_heldInt64S.s_eq N K av0 k1 gv2 gv3).trans ?_
  simp only [laws_heldInt64S.l0_eq, laws_heldInt64S.a0_0_eq]
  kernel_rfl

noncomputable def laws_heldInt64S.en (N : Nat) (ρ : Type) : List AV → Heap → (AV → Heap → Option ρ) → Option ρ
  | [.slice false 0 0 av0 .unk 1, .int .i64 (k1)], [⟨false, .flat gv2 (.ints .i64 gv3)⟩], K => (laws_heldInt64S N (fun d0 => K (.int .i64 (d0)) [⟨false, .flat gv2 (.ints .i64 gv3)⟩]) av0 k1 gv2 gv3)
  | _, _, _ => none

theorem laws_heldInt64S.en_ok (N : Nat) (hE : EnvOk (E15 N) ents) (ρ : Type) (args : List AV) (sh : Heap) (K : AV → Heap → Option ρ) (r : ρ) (h : laws_heldInt64S.en N ρ args sh K = some r) : ∃ v sh', K v sh' = some r ∧ FnOk (E15 N).P 32 args sh v sh' := by
  unfold laws_heldInt64S.en at h
  split at h
  · exact fn_ok hE (kp := laws_heldInt64S.kp) (N := N) Go.Proofs.Try.func32 (c := laws_heldInt64S.bd) (by kernel_rfl) ((laws_heldInt64S.eq N _ _ _ _ _).trans h)
  · cases h

noncomputable def E16 (N : Nat) : Env := (E15 N).add 32 (laws_heldInt64S.en N)

theorem E16_ok (N : Nat) : EnvOk (E16 N) ents := Env.add_ok (E15_ok N) (laws_heldInt64S.en_ok N (E15_ok N))

noncomputable def laws_heldInt64SS.kp : Keeps := ⟨[(0, [0, 1, 5], [], [])], [(0, [1], [], [])], []⟩

noncomputable def laws_heldInt64SS.bd : Code := bodyOf Go.Proofs.Try.f18

noncomputable def laws_heldInt64SS.fin {ρ : Type} (N : Nat) (K : AV → Heap → Option ρ) (gv2 : Nat) (gv3 : Nat) (gv4 : Nat → Nat) (gv5 : Nat → Nat) (gv6 : Nat → Int) : XE → St → Option ρ := finK (E16 N) laws_heldInt64SS.kp.fins Go.Proofs.Try.f18 [⟨false, .hdr 1 gv2 gv3 gv4 gv5 none⟩, ⟨false, .flat 0 (.ints .i64 gv6)⟩] K

noncomputable def laws_heldInt64SS.k0 {ρ : Type} (N : Nat) (K : AV → Heap → Option ρ) (gv2 : Nat) (gv3 : Nat) (gv4 : Nat → Nat) (gv5 : Nat → Nat) (gv6 : Nat → Int) : XE → St → Option ρ := (blockK laws_heldInt64SS.kp 2 0 (seqK (xcode (E16 N) ents laws_heldInt64SS.kp 2 N (cB (cB laws_heldInt64SS.bd)) 0) (laws_heldInt64SS.fin N K gv2 gv3 gv4 gv5 gv6)))

theorem laws_heldInt64SS.k0_mix {ρ : Type} (N : Nat) (K : AV → Heap → Option ρ) (gv2 : Nat) (gv3 : Nat) (gv4 : Nat → Nat) (gv5 : Nat → Nat) (gv6 : Nat → Int) : mixK (laws_heldInt64SS.fin N K gv2 gv3 gv4 gv5 gv6 .ret) (laws_heldInt64SS.k0 N K gv2 gv3 gv4 gv5 gv6) = (laws_heldInt64SS.k0 N K gv2 gv3 gv4 gv5 gv6) := by
  funext e s; cases e <;> kernel_rfl

noncomputable def laws_heldInt64SS.st0 (av0 : Nat) (gv2 : Nat) (gv3 : Nat) (gv4 : Nat → Nat) (gv5 : Nat → Nat) (gv6 : Nat → Int) (k7 : Int) (i8 : Int) : St := ⟨sl 21 [(0, .slice false 0 0 av0 .unk 1), (1, .int .i64 (k7)), (5, .int .i64 (i8))], [⟨false, .hdr 1 gv2 gv3 gv4 gv5 none⟩, ⟨false, .flat 0 (.ints .i64 gv6)⟩]⟩

noncomputable def laws_heldInt64SS.sx0_0 (gv2 : Nat) (gv3 : Nat) (gv4 : Nat → Nat) (gv5 : Nat → Nat) (gv6 : Nat → Int) (ov10 : Int) : St := ⟨sl 21 [(1, .int .i64 (ov10))], [⟨false, .hdr 1 gv2 gv3 gv4 gv5 none⟩, ⟨false, .flat 0 (.ints .i64 gv6)⟩]⟩

theorem laws_heldInt64SS.b0_gen {ρ : Type} (N : Nat) (K : AV → Heap → Option ρ) (L0 : St → Option ρ) (kv : XE → St → Option ρ) (av0 : Nat) (gv2 : Nat) (gv3 : Nat) (gv4 : Nat → Nat) (gv5 : Nat → Nat) (gv6 : Nat → Int) (k7 : Int) (i8 : Int) :
    xcode (E16 N) ents laws_heldInt64SS.kp 2 N (cL (cK (cB (cA (cB laws_heldInt64SS.bd))))) 0 (laws_heldInt64SS.st0 av0 gv2 gv3 gv4 gv5 gv6 k7 i8) (roundK laws_heldInt64SS.kp 2 0 L0 (mixK (laws_heldInt64SS.fin N K gv2 gv3 gv4 gv5 gv6 .ret) kv)) = (laws_heldInt64SS.b0 N (fun d0 => K (.int .i64 (d0)) [⟨false, .hdr 1 gv2 gv3 gv4 gv5 none⟩, ⟨false, .flat 0 (.ints .i64 gv6)⟩]) (fun k7 i8 => L0 (laws_heldInt64SS.st0 av0 gv2 gv3 gv4 gv5 gv6 k7 i8)) (fun ov10 => kv (.exit 0) (laws_heldInt64SS.sx0_0 gv2 gv3 gv4 gv5 gv6 ov10)) av0 gv4 gv5 gv6 k7 i8) := by kernel_rfl

theorem laws_heldInt64SS.b0_eq {ρ : Type} (N : Nat) (K : AV → Heap → Option ρ) (L0 : St → Option ρ) (av0 : Nat) (gv2 : Nat) (gv3 : Nat) (gv4 : Nat → Nat) (gv5 : Nat → Nat) (gv6 : Nat → Int) (k7 : Int) (i8 : Int) :
    xcode (E16 N) ents laws_heldInt64SS.kp 2 N (cL (cK (cB (cA (cB laws_heldInt64SS.bd))))) 0 (laws_heldInt64SS.st0 av0 gv2 gv3 gv4 gv5 gv6 k7 i8) (roundK laws_heldInt64SS.kp 2 0 L0 (laws_heldInt64SS.k0 N K gv2 gv3 gv4 gv5 gv6)) = (laws_heldInt64SS.b0 N (fun d0 => K (.int .i64 (d0)) [⟨false, .hdr 1 gv2 gv3 gv4 gv5 none⟩, ⟨false, .flat 0 (.ints .i64 gv6)⟩]) (fun k7 i8 => L0 (laws_heldInt64SS.st0 av0 gv2 gv3 gv4 gv5 gv6 k7 i8)) (fun ov10 => (laws_heldInt64SS.k0 N K gv2 gv3 gv4 gv5 gv6) (.exit 0) (laws_heldInt64SS.sx0_0 gv2 gv3 gv4 gv5 gv6 ov10)) av0 gv4 gv5 gv6 k7 i8) := by
  have h := laws_heldInt64SS.b0_gen N K L0 (laws_heldInt64SS.k0 N K gv2 gv3 gv4 gv5 gv6) av0 gv2 gv3 gv4 gv5 gv6 k7 i8
  rw [laws_heldInt64SS.k0_mix] at h
  exact h

theorem laws_heldInt64SS.a0_0_eq {ρ : Type} (N : Nat) (K : AV → Heap → Option ρ) (gv2 : Nat) (gv3 : Nat) (gv4 : Nat → Nat) (gv5 : Nat → Nat) (gv6 : Nat → Int) (ov10 : Int) :
    (laws_heldInt64SS.k0 N K gv2 gv3 gv4 gv5 gv6) (.exit 0) (laws_heldInt64SS.sx0_0 gv2 gv3 gv4 gv5 gv6 ov10) = (laws_heldInt64SS.a0_0 N (fun d0 => K (.int .i64 (d0)) [⟨false, .hdr 1 gv2 gv3 gv4 gv5 none⟩, ⟨false, .flat 0 (.ints .i64 gv6)⟩]) ov10) := by kernel_rfl

theorem laws_heldInt64SS.l0_eq {ρ : Type} (N : Nat) (K : AV → Heap → Option ρ) (av0 : Nat) (gv2 : Nat) (gv3 : Nat) (gv4 : Nat → Nat) (gv5 : Nat → Nat) (gv6 : Nat → Int) :
    ∀ (m : Nat) (k7 : Int) (i8 : Int), xloop (xcode (E16 N) ents laws_heldInt64SS.kp 2 N (cL (cK (cB (cA (cB laws_heldInt64SS.bd))))) 0) laws_heldInt64SS.kp 2 0 m (laws_heldInt64SS.st0 av0 gv2 gv3 gv4 gv5 gv6 k7 i8) (laws_heldInt64SS.k0 N K gv2 gv3 gv4 gv5 gv6) = (laws_heldInt64SS.l0 N (fun d0 => K (.int .i64 (d0)) [⟨false, .hdr 1 gv2 gv3 gv4 gv5 none⟩, ⟨false, .flat 0 (.ints .i64 gv6)⟩]) av0 gv4 gv5 gv6 (fun ov10 => (laws_heldInt64SS.k0 N K gv2 gv3 gv4 gv5 gv6) (.exit 0) (laws_heldInt64SS.sx0_0 gv2 gv3 gv4 gv5 gv6 ov10)) m k7 i8) := by
  intro m
  induction m with
  | zero => intros; rfl
  | succ m ih =>
    intro k7 i8
    refine (laws_heldInt64SS.b0_eq N K (fun s => xloop (xcode (E16 N) ents laws_heldInt64SS.kp 2 N (cL (cK (cB (cA (cB laws_heldInt64SS.bd))))) 0) laws_heldInt64SS.kp 2 0 m s (laws_heldInt64SS.k0 N K gv2 gv3 gv4 gv5 gv6)) av0 gv2 gv3 gv4 gv5 gv6 k7 i8).trans ?_
    simp only [ih]
    kernel_rfl

theorem laws_heldInt64SS.s_eq {ρ : Type} (N : Nat) (K : AV → Heap → Option ρ) (av0 : Nat) (k1 : Int) (gv2 : Nat) (gv3 : Nat) (gv4 : Nat → Nat) (gv5 : Nat → Nat) (gv6 : Nat → Int) :
    xbody (E16 N) ents laws_heldInt64SS.kp N Go.Proofs.Try.f18 laws_heldInt64SS.bd [.slice false 0 0 av0 .unk 1, .int .i64 (k1)] [⟨false, .hdr 1 gv2 gv3 gv4 gv5 none⟩, ⟨false, .flat 0 (.ints .i64 gv6)⟩] K = (laws_heldInt64SS.s N (fun d0 => K (.int .i64 (d0)) [⟨false, .hdr 1 gv2 gv3 gv4 gv5 none⟩, ⟨false, .flat 0 (.ints .i64 gv6)⟩]) (fun k7 i8 => xloop (xcode (E16 N) ents laws_heldInt64SS.kp 2 N (cL (cK (cB (cA (cB laws_heldInt64SS.bd))))) 0) laws_heldInt64SS.kp 2 0 N (laws_heldInt64SS.st0 av0 gv2 gv3 gv4 gv5 gv6 k7 i8) (laws_heldInt64SS.k0 N K gv2 gv3 gv4 gv5 gv6)) k1) := by kernel_rfl

theorem laws_heldInt64SS.eq {ρ : Type} (N : Nat) (K : AV → Heap → Option ρ) (av0 : Nat) (k1 : Int) (gv2 : Nat) (gv3 : Nat) (gv4 : Nat → Nat) (gv5 : Nat → Nat) (gv6 : Nat → Int) :
    xbody (E16 N) ents laws_heldInt64SS.kp N Go.Proofs.Try.f18 laws_heldInt64SS.bd [.slice false 0 0 av0 .unk 1, .int .i64 (k1)] [⟨false, .hdr 1 gv2 gv3 gv4 gv5 none⟩, ⟨false, .flat 0 (.ints .i64 gv6)⟩] K = (laws_heldInt64SS N (fun d0 => K (.int .i64 (d0)) [⟨false, .hdr 1 gv2 gv3 gv4 gv5 none⟩, ⟨false, .flat 0 (.ints .i64 gv6)⟩]) av0 k1 gv2 gv3 gv4 gv5 gv6) := by
  refine (laws_heldInt64SS.s_eq N K av0 k1 gv2 gv3 gv4 gv5 gv6).trans ?_
  simp only [laws_heldInt64SS.l0_eq, laws_heldInt64SS.a0_0_eq]
  kernel_rfl

noncomputable def laws_heldInt64SS_v2.kp : Keeps := ⟨[(0, [0, 1, 5], [], [])], [(0, [1], [], [])], []⟩

noncomputable def laws_heldInt64SS_v2.bd : Code := bodyOf Go.Proofs.Try.f18

noncomputable def laws_heldInt64SS_v2.fin {ρ : Type} (N : Nat) (K : AV → Heap → Option ρ) (gv2 : Nat) (gv3 : Nat) (gv4 : Nat → Nat) (gv5 : Nat → Nat) (gv6 : Nat → Int) : XE → St → Option ρ := finK (E16 N) laws_heldInt64SS_v2.kp.fins Go.Proofs.Try.f18 [⟨false, .hdr 1 gv2 gv3 gv4 gv5 none⟩, ⟨false, .flat 0 (.ints .i64 gv6)⟩] K

noncomputable def laws_heldInt64SS_v2.k0 {ρ : Type} (N : Nat) (K : AV → Heap → Option ρ) (gv2 : Nat) (gv3 : Nat) (gv4 : Nat → Nat) (gv5 : Nat → Nat) (gv6 : Nat → Int) : XE → St → Option ρ := (blockK laws_heldInt64SS_v2.kp 2 0 (seqK (xcode (E16 N) ents laws_heldInt64SS_v2.kp 2 N (cB (cB laws_heldInt64SS_v2.bd)) 0) (laws_heldInt64SS_v2.fin N K gv2 gv3 gv4 gv5 gv6)))

theorem laws_heldInt64SS_v2.k0_mix {ρ : Type} (N : Nat) (K : AV → Heap → Option ρ) (gv2 : Nat) (gv3 : Nat) (gv4 : Nat → Nat) (gv5 : Nat → Nat) (gv6 : Nat → Int) : mixK (laws_heldInt64SS_v2.fin N K gv2 gv3 gv4 gv5 gv6 .ret) (laws_heldInt64SS_v2.k0 N K gv2 gv3 gv4 gv5 gv6) = (laws_heldInt64SS_v2.k0 N K gv2 gv3 gv4 gv5 gv6) := by
  funext e s; cases e <;> kernel_rfl

noncomputable def laws_heldInt64SS_v2.st0 (av0 : Nat) (gv2 : Nat) (gv3 : Nat) (gv4 : Nat → Nat) (gv5 : Nat → Nat) (gv6 : Nat → Int) (k7 : Int) (i8 : Int) : St := ⟨sl 21 [(0, .slice true 0 0 av0 .unk 1), (1, .int .i64 (k7)), (5, .int .i64 (i8))], [⟨false, .hdr 1 gv2 gv3 gv4 gv5 none⟩, ⟨false, .flat 0 (.ints .i64 gv6)⟩]⟩

noncomputable def laws_heldInt64SS_v2.sx0_0 (gv2 : Nat) (gv3 : Nat) (gv4 : Nat → Nat) (gv5 : Nat → Nat) (gv6 : Nat → Int) (ov10 : Int) : St := ⟨sl 21 [(1, .int .i64 (ov10))], [⟨false, .hdr 1 gv2 gv3 gv4 gv5 none⟩, ⟨false, .flat 0 (.ints .i64 gv6)⟩]⟩

theorem laws_heldInt64SS_v2.b0_gen {ρ : Type} (N : Nat) (K : AV → Heap → Option ρ) (L0 : St → Option ρ) (kv : XE → St → Option ρ) (av0 : Nat) (gv2 : Nat) (gv3 : Nat) (gv4 : Nat → Nat) (gv5 : Nat → Nat) (gv6 : Nat → Int) (k7 : Int) (i8 : Int) :
    xcode (E16 N) ents laws_heldInt64SS_v2.kp 2 N (cL (cK (cB (cA (cB laws_heldInt64SS_v2.bd))))) 0 (laws_heldInt64SS_v2.st0 av0 gv2 gv3 gv4 gv5 gv6 k7 i8) (roundK laws_heldInt64SS_v2.kp 2 0 L0 (mixK (laws_heldInt64SS_v2.fin N K gv2 gv3 gv4 gv5 gv6 .ret) kv)) = (laws_heldInt64SS_v2.b0 N (fun d0 => K (.int .i64 (d0)) [⟨false, .hdr 1 gv2 gv3 gv4 gv5 none⟩, ⟨false, .flat 0 (.ints .i64 gv6)⟩]) (fun k7 i8 => L0 (laws_heldInt64SS_v2.st0 av0 gv2 gv3 gv4 gv5 gv6 k7 i8)) (fun ov10 => kv (.exit 0) (laws_heldInt64SS_v2.sx0_0 gv2 gv3 gv4 gv5 gv6 ov10)) av0 gv4 gv5 gv6 k7 i8) := by kernel_rfl

theorem laws_heldInt64SS_v2.b0_eq {ρ : Type} (N : Nat) (K : AV → Heap → Option ρ) (L0 : St → Option ρ) (av0 : Nat) (gv2 : Nat) (gv3 : Nat) (gv4 : Nat → Nat) (gv5 : Nat → Nat) (gv6 : Nat → Int) (k7 : Int) (i8 : Int) :
    xcode (E16 N) ents laws_heldInt64SS_v2.kp 2 N (cL (cK (cB (cA (cB laws_heldInt64SS_v2.bd))))) 0 (laws_heldInt64SS_v2.st0 av0 gv2 gv3 gv4 gv5 gv6 k7 i8) (roundK laws_heldInt64SS_v2.kp 2 0 L0 (laws_heldInt64SS_v2.k0 N K gv2 gv3 gv4 gv5 gv6)) = (laws_heldInt64SS_v2.b0 N (fun d0 => K (.int .i64 (d0)) [⟨false, .hdr 1 gv2 gv3 gv4 gv5 none⟩, ⟨false, .flat 0 (.ints .i64 gv6)⟩]) (fun k7 i8 => L0 (laws_heldInt64SS_v2.st0 av0 gv2 gv3 gv4 gv5 gv6 k7 i8)) (fun ov10 => (laws_heldInt64SS_v2.k0 N K gv2 gv3 gv4 gv5 gv6) (.exit 0) (laws_heldInt64SS_v2.sx0_0 gv2 gv3 gv4 gv5 gv6 ov10)) av0 gv4 gv5 gv6 k7 i8) := by
  have h := laws_heldInt64SS_v2.b0_gen N K L0 (laws_heldInt64SS_v2.k0 N K gv2 gv3 gv4 gv5 gv6) av0 gv2 gv3 gv4 gv5 gv6 k7 i8
  rw [laws_heldInt64SS_v2.k0_mix] at h
  exact h

theorem laws_heldInt64SS_v2.a0_0_eq {ρ : Type} (N : Nat) (K : AV → Heap → Option ρ) (gv2 : Nat) (gv3 : Nat) (gv4 : Nat → Nat) (gv5 : Nat → Nat) (gv6 : Nat → Int) (ov10 : Int) :
    (laws_heldInt64SS_v2.k0 N K gv2 gv3 gv4 gv5 gv6) (.exit 0) (laws_heldInt64SS_v2.sx0_0 gv2 gv3 gv4 gv5 gv6 ov10) = (laws_heldInt64SS_v2.a0_0 N (fun d0 => K (.int .i64 (d0)) [⟨false, .hdr 1 gv2 gv3 gv4 gv5 none⟩, ⟨false, .flat 0 (.ints .i64 gv6)⟩]) ov10) := by kernel_rfl

theorem laws_heldInt64SS_v2.l0_eq {ρ : Type} (N : Nat) (K : AV → Heap → Option ρ) (av0 : Nat) (gv2 : Nat) (gv3 : Nat) (gv4 : Nat → Nat) (gv5 : Nat → Nat) (gv6 : Nat → Int) :
    ∀ (m : Nat) (k7 : Int) (i8 : Int), xloop (xcode (E16 N) ents laws_heldInt64SS_v2.kp 2 N (cL (cK (cB (cA (cB laws_heldInt64SS_v2.bd))))) 0) laws_heldInt64SS_v2.kp 2 0 m (laws_heldInt64SS_v2.st0 av0 gv2 gv3 gv4 gv5 gv6 k7 i8) (laws_heldInt64SS_v2.k0 N K gv2 gv3 gv4 gv5 gv6) = (laws_heldInt64SS_v2.l0 N (fun d0 => K (.int .i64 (d0)) [⟨false, .hdr 1 gv2 gv3 gv4 gv5 none⟩, ⟨false, .flat 0 (.ints .i64 gv6)⟩]) av0 gv4 gv5 gv6 (fun ov10 => (laws_heldInt64SS_v2.k0 N K gv2 gv3 gv4 gv5 gv6) (.exit 0) (laws_heldInt64SS_v2.sx0_0 gv2 gv3 gv4 gv5 gv6 ov10)) m k7 i8) := by
  intro m
  induction m with
  | zero => intros; rfl
  | succ m ih =>
    intro k7 i8
    refine (laws_heldInt64SS_v2.b0_eq N K (fun s => xloop (xcode (E16 N) ents laws_heldInt64SS_v2.kp 2 N (cL (cK (cB (cA (cB laws_heldInt64SS_v2.bd))))) 0) laws_heldInt64SS_v2.kp 2 0 m s (laws_heldInt64SS_v2.k0 N K gv2 gv3 gv4 gv5 gv6)) av0 gv2 gv3 gv4 gv5 gv6 k7 i8).trans ?_
    simp only [ih]
    kernel_rfl

theorem laws_heldInt64SS_v2.s_eq {ρ : Type} (N : Nat) (K : AV → Heap → Option ρ) (av0 : Nat) (k1 : Int) (gv2 : Nat) (gv3 : Nat) (gv4 : Nat → Nat) (gv5 : Nat → Nat) (gv6 : Nat → Int) :
    xbody (E16 N) ents laws_heldInt64SS_v2.kp N Go.Proofs.Try.f18 laws_heldInt64SS_v2.bd [.slice true 0 0 av0 .unk 1, .int .i64 (k1)] [⟨false, .hdr 1 gv2 gv3 gv4 gv5 none⟩, ⟨false, .flat 0 (.ints .i64 gv6)⟩] K = (laws_heldInt64SS_v2.s N (fun d0 => K (.int .i64 (d0)) [⟨false, .hdr 1 gv2 gv3 gv4 gv5 none⟩, ⟨false, .flat 0 (.ints .i64 gv6)⟩]) (fun k7 i8 => xloop (xcode (E16 N) ents laws_heldInt64SS_v2.kp 2 N (cL (cK (cB (cA (cB laws_heldInt64SS_v2.bd))))) 0) laws_heldInt64SS_v2.kp 2 0 N (laws_heldInt64SS_v2.st0 av0 gv2 gv3 gv4 gv5 gv6 k7 i8) (laws_heldInt64SS_v2.k0 N K gv2 gv3 gv4 gv5 gv6)) k1) := by kernel_rfl

theorem laws_heldInt64SS_v2.eq {ρ : Type} (N : Nat) (K : AV → Heap → Option ρ) (av0 : Nat) (k1 : Int) (gv2 : Nat) (gv3 : Nat) (gv4 : Nat → Nat) (gv5 : Nat → Nat) (gv6 : Nat → Int) :
    xbody (E16 N) ents laws_heldInt64SS_v2.kp N Go.Proofs.Try.f18 laws_heldInt64SS_v2.bd [.slice true 0 0 av0 .unk 1, .int .i64 (k1)] [⟨false, .hdr 1 gv2 gv3 gv4 gv5 none⟩, ⟨false, .flat 0 (.ints .i64 gv6)⟩] K = (laws_heldInt64SS_v2 N (fun d0 => K (.int .i64 (d0)) [⟨false, .hdr 1 gv2 gv3 gv4 gv5 none⟩, ⟨false, .flat 0 (.ints .i64 gv6)⟩]) av0 k1 gv2 gv3 gv4 gv5 gv6) := by
  refine (laws_heldInt64SS_v2.s_eq N K av0 k1 gv2 gv3 gv4 gv5 gv6).trans ?_
  simp only [laws_heldInt64SS_v2.l0_eq, laws_heldInt64SS_v2.a0_0_eq]
  kernel_rfl

noncomputable def laws_heldInt64SS.en (N : Nat) (ρ : Type) : List AV → Heap → (AV → Heap → Option ρ) → Option ρ
  | [.slice false 0 0 av0 .unk 1, .int .i64 (k1)], [⟨false, .hdr 1 gv2 gv3 gv4 gv5 none⟩, ⟨false, .flat 0 (.ints .i64 gv6)⟩], K => (laws_heldInt64SS N (fun d0 => K (.int .i64 (d0)) [⟨false, .hdr 1 gv2 gv3 gv4 gv5 none⟩, ⟨false, .flat 0 (.ints .i64 gv6)⟩]) av0 k1 gv2 gv3 gv4 gv5 gv6)
  | [.slice true 0 0 av0 .unk 1, .int .i64 (k1)], [⟨false, .hdr 1 gv2 gv3 gv4 gv5 none⟩, ⟨false, .flat 0 (.ints .i64 gv6)⟩], K => (laws_heldInt64SS_v2 N (fun d0 => K (.int .i64 (d0)) [⟨false, .hdr 1 gv2 gv3 gv4 gv5 none⟩, ⟨false, .flat 0 (.ints .i64 gv6)⟩]) av0 k1 gv2 gv3 gv4 gv5 gv6)
  | _, _, _ => none

theorem laws_heldInt64SS.en_ok (N : Nat) (hE : EnvOk (E16 N) ents) (ρ : Type) (args : List AV) (sh : Heap) (K : AV → Heap → Option ρ) (r : ρ) (h : laws_heldInt64SS.en N ρ args sh K = some r) : ∃ v sh', K v sh' = some r ∧ FnOk (E16 N).P 18 args sh v sh' := by
  unfold laws_heldInt64SS.en at h
  split at h
  · exact fn_ok hE (kp := laws_heldInt64SS.kp) (N := N) Go.Proofs.Try.func18 (c := laws_heldInt64SS.bd) (by kernel_rfl) ((laws_heldInt64SS.eq N _ _ _ _ _ _ _ _).trans h)
  · exact fn_ok hE (kp := laws_heldInt64SS_v2.kp) (N := N) Go.Proofs.Try.func18 (c := laws_heldInt64SS_v2.bd) (by kernel_rfl) ((laws_heldInt64SS_v2.eq N _ _ _ _ _ _ _ _).trans h)
  · cases h

noncomputable def E17 (N : Nat) : Env := (E16 N).add 18 (laws_heldInt64SS.en N)

theorem E17_ok (N : Nat) : EnvOk (E17 N) ents := Env.add_ok (E16_ok N) (laws_heldInt64SS.en_ok N (E16_ok N))

noncomputable def laws_FnExactCyclicTable.kp : Keeps := ⟨[], [], []⟩

noncomputable def laws_FnExactCyclicTable.bd : Code := bodyOf Go.Proofs.Try.f6

noncomputable def laws_FnExactCyclicTable.fin {ρ : Type} (N : Nat) (K : AV → Heap → Option ρ) : XE → St → Option ρ := finK (E17 N) laws_FnExactCyclicTable.kp.fins Go.Proofs.Try.f6 [] K

theorem laws_FnExactCyclicTable.eq {ρ : Type} (N : Nat) (K : AV → Heap → Option ρ) (aN0 : Int) :
    xbody (E17 N) ents laws_FnExactCyclicTable.kp N Go.Proofs.Try.f6 laws_FnExactCyclicTable.bd [.int .i64 (aN0)] [] K = (laws_FnExactCyclicTable N (fun d0 => K (.bool (d0)) []) aN0) := by kernel_rfl

noncomputable def laws_FnExactCyclicTable.en (N : Nat) (ρ : Type) : List AV → Heap → (AV → Heap → Option ρ) → Option ρ
  | [.int .i64 (aN0)], [], K => (laws_FnExactCyclicTable N (fun d0 => K (.bool (d0)) []) aN0)
  | _, _, _ => none

theorem laws_FnExactCyclicTable.en_ok (N : Nat) (hE : EnvOk (E17 N) ents) (ρ : Type) (args : List AV) (sh : Heap) (K : AV → Heap → Option ρ) (r : ρ) (h : laws_FnExactCyclicTable.en N ρ args sh K = some r) : ∃ v sh', K v sh' = some r ∧ FnOk (E17 N).P 6 args sh v sh' := by
  unfold laws_FnExactCyclicTable.en at h
  split at h
  · exact fn_ok hE (kp := laws_FnExactCyclicTable.kp) (N := N) Go.Proofs.Try.func6 (c := laws_FnExactCyclicTable.bd) (by kernel_rfl) ((laws_FnExactCyclicTable.eq N _ _).trans h)
  · cases h

noncomputable def E18 (N : Nat) : Env := (E17 N).add 6 (laws_FnExactCyclicTable.en N)

theorem E18_ok (N : Nat) : EnvOk (E18 N) ents := Env.add_ok (E17_ok N) (laws_FnExactCyclicTable.en_ok N (E17_ok N))

noncomputable def spec_l04Dihedral.kp : Keeps := ⟨[(0, [0, 3, 4], [], []), (2, [0, 3, 4, 5, 6], [], [])], [(0, [3], [], []), (2, [0, 3, 4, 5], [], [])], []⟩

noncomputable def spec_l04Dihedral.bd : Code := bodyOf Go.Proofs.Try.f33

noncomputable def spec_l04Dihedral.fin {ρ : Type} (N : Nat) (K : AV → Heap → Option ρ) : XE → St → Option ρ := finK (E18 N) spec_l04Dihedral.kp.fins Go.Proofs.Try.f33 [] K

noncomputable def spec_l04Dihedral.k0 {ρ : Type} (N : Nat) (K : AV → Heap → Option ρ) : XE → St → Option ρ := (blockK spec_l04Dihedral.kp 0 0 (seqK (xcode (E18 N) ents spec_l04Dihedral.kp 0 N (cB (cB (cB spec_l04Dihedral.bd))) 0) (spec_l04Dihedral.fin N K)))

theorem spec_l04Dihedral.k0_mix {ρ : Type} (N : Nat) (K : AV → Heap → Option ρ) : mixK (spec_l04Dihedral.fin N K .ret) (spec_l04Dihedral.k0 N K) = (spec_l04Dihedral.k0 N K) := by
  funext e s; cases e <;> kernel_rfl

noncomputable def spec_l04Dihedral.st0 (nv0 : Int) (outv1 : Nat) (i2 : Int) (gv3 : Nat) (gv4 : Nat → Nat) (gv5 : Nat → Nat) (gv6 : Nat → Int) : St := ⟨sl 55 [(0, .int .i64 (nv0)), (3, .slice true 0 0 outv1 .whole 1), (4, .int .i64 (i2))], [⟨true, .hdr 1 0 gv3 gv4 gv5 none⟩, ⟨true, .flat 0 (.ints .i64 gv6)⟩]⟩

noncomputable def spec_l04Dihedral.sx0_0 (ov12 : Nat) (ov13 : Nat) (ov14 : Nat → Nat) (ov15 : Nat → Nat) (ov16 : Nat → Int) : St := ⟨sl 55 [(3, .slice true 0 0 ov12 .whole 1)], [⟨true, .hdr 1 0 ov13 ov14 ov15 none⟩, ⟨true, .flat 0 (.ints .i64 ov16)⟩]⟩

noncomputable def spec_l04Dihedral.k1g {ρ : Type} (N : Nat) (L0 : St → Option ρ) (kv : XE → St → Option ρ) : XE → St → Option ρ := (blockK spec_l04Dihedral.kp 0 2 (seqK (xcode (E18 N) ents spec_l04Dihedral.kp 0 N (cB (cB (cK (cA (cB (cL (cK (cB (cA (cB (cB spec_l04Dihedral.bd))))))))))) 1) (blockK spec_l04Dihedral.kp 0 1 (seqK (xcode (E18 N) ents spec_l04Dihedral.kp 0 N (cB (cB (cL (cK (cB (cA (cB (cB spec_l04Dihedral.bd)))))))) 0) (roundK spec_l04Dihedral.kp 0 0 L0 kv)))))

theorem spec_l04Dihedral.k1_mix {ρ : Type} (N : Nat) (K : AV → Heap → Option ρ) (L0 : St → Option ρ) : mixK (spec_l04Dihedral.fin N K .ret) (spec_l04Dihedral.k1g N L0 (spec_l04Dihedral.k0 N K)) = (spec_l04Dihedral.k1g N L0 (spec_l04Dihedral.k0 N K)) := by
  funext e s; cases e <;> kernel_rfl

noncomputable def spec_l04Dihedral.st1 (nv0 : Int) (outv1 : Nat) (i2 : Int) (gv3 : Nat) (gv4 : Nat → Nat) (gv5 : Nat → Nat) (gv6 : Nat → Int) (row7 : Nat) (j8 : Int) (gv9 : Nat → Int) : St := ⟨sl 55 [(0, .int .i64 (nv0)), (3, .slice true 0 0 outv1 .whole 1), (4, .int .i64 (i2)), (5, .slice true 1 0 row7 .whole 1), (6, .int .i64 (j8))], [⟨true, .hdr 2 0 gv3 gv4 gv5 none⟩, ⟨true, .flat 0 (.ints .i64 gv9)⟩, ⟨true, .flat 0 (.ints .i64 gv6)⟩]⟩

noncomputable def spec_l04Dihedral.sx1_0 (nv0 : Int) (outv1 : Nat) (i2 : Int) (gv3 : Nat) (gv4 : Nat → Nat) (gv5 : Nat → Nat) (gv6 : Nat → Int) (ov10 : Nat) (ov11 : Nat → Int) : St := ⟨sl 55 [(0, .int .i64 (nv0)), (3, .slice true 0 0 outv1 .whole 1), (4, .int .i64 (i2)), (5, .slice true 1 0 ov10 .whole 1)], [⟨true, .hdr 2 0 gv3 gv4 gv5 none⟩, ⟨true, .flat 0 (.ints .i64 ov11)⟩, ⟨true, .flat 0 (.ints .i64 gv6)⟩]⟩

theorem spec_l04Dihedral.b1_gen {ρ : Type} (N : Nat) (K : AV → Heap → Option ρ) (L1 : St → Option ρ) (kv : XE → St → Option ρ) (nv0 : Int) (outv1 : Nat) (i2 : Int) (gv3 : Nat) (gv4 : Nat → Nat) (gv5 : Nat → Nat) (gv6 : Nat → Int) (row7 : Nat) (j8 : Int) (gv9 : Nat → Int) :
    xcode (E18 N) ents spec_l04Dihedral.kp 0 N (cL (cK (cB (cA (cB (cK (cA (cB (cL (cK (cB (cA (cB (cB spec_l04Dihedral.bd)))))))))))))) 2 (spec_l04Dihedral.st1 nv0 outv1 i2 gv3 gv4 gv5 gv6 row7 j8 gv9) (roundK spec_l04Dihedral.kp 0 2 L1 (mixK (spec_l04Dihedral.fin N K .ret) kv)) = (spec_l04Dihedral.b1 N (fun d0 d1 d2 d3 d4 => K (.slice true 0 0 d0 .whole 1) [⟨true, .hdr 1 0 d1 d2 d3 none⟩, ⟨true, .flat 0 (.ints .i64 d4)⟩]) (fun row7 j8 gv9 => L1 (spec_l04Dihedral.st1 nv0 outv1 i2 gv3 gv4 gv5 gv6 row7 j8 gv9)) (fun ov10 ov11 => kv (.exit 2) (spec_l04Dihedral.sx1_0 nv0 outv1 i2 gv3 gv4 gv5 gv6 ov10 ov11)) nv0 i2 row7 j8 gv9) := by kernel_rfl

theorem spec_l04Dihedral.b1_eq {ρ : Type} (N : Nat) (K : AV → Heap → Option ρ) (L0 : St → Option ρ) (L1 : St → Option ρ) (nv0 : Int) (outv1 : Nat) (i2 : Int) (gv3 : Nat) (gv4 : Nat → Nat) (gv5 : Nat → Nat) (gv6 : Nat → Int) (row7 : Nat) (j8 : Int) (gv9 : Nat → Int) :
    xcode (E18 N) ents spec_l04Dihedral.kp 0 N (cL (cK (cB (cA (cB (cK (cA (cB (cL (cK (cB (cA (cB (cB spec_l04Dihedral.bd)))))))))))))) 2 (spec_l04Dihedral.st1 nv0 outv1 i2 gv3 gv4 gv5 gv6 row7 j8 gv9) (roundK spec_l04Dihedral.kp 0 2 L1 (spec_l04Dihedral.k1g N L0 (spec_l04Dihedral.k0 N K))) = (spec_l04Dihedral.b1 N (fun d0 d1 d2 d3 d4 => K (.slice true 0 0 d0 .whole 1) [⟨true, .hdr 1 0 d1 d2 d3 none⟩, ⟨true, .flat 0 (.ints .i64 d4)⟩]) (fun row7 j8 gv9 => L1 (spec_l04Dihedral.st1 nv0 outv1 i2 gv3 gv4 gv5 gv6 row7 j8 gv9)) (fun ov10 ov11 => (spec_l04Dihedral.k1g N L0 (spec_l04Dihedral.k0 N K)) (.exit 2) (spec_l04Dihedral.sx1_0 nv0 outv1 i2 gv3 gv4 gv5 gv6 ov10 ov11)) nv0 i2 row7 j8 gv9) := by
  have h := spec_l04Dihedral.b1_gen N K L1 (spec_l04Dihedral.k1g N L0 (spec_l04Dihedral.k0 N K)) nv0 outv1 i2 gv3 gv4 gv5 gv6 row7 j8 gv9
  rw [spec_l04Dihedral.k1_mix] at h
  exact h

theorem spec_l04Dihedral.a1_0_gen {ρ : Type} (N : Nat) (K : AV → Heap → Option ρ) (L0 : St → Option ρ) (kv : XE → St → Option ρ) (nv0 : Int) (outv1 : Nat) (i2 : Int) (gv3 : Nat) (gv4 : Nat → Nat) (gv5 : Nat → Nat) (gv6 : Nat → Int) (ov10 : Nat) (ov11 : Nat → Int) :
    (spec_l04Dihedral.k1g N L0 (mixK (spec_l04Dihedral.fin N K .ret) kv)) (.exit 2) (spec_l04Dihedral.sx1_0 nv0 outv1 i2 gv3 gv4 gv5 gv6 ov10 ov11) = (spec_l04Dihedral.a1_0 N (fun d0 d1 d2 d3 d4 => K (.slice true 0 0 d0 .whole 1) [⟨true, .hdr 1 0 d1 d2 d3 none⟩, ⟨true, .flat 0 (.ints .i64 d4)⟩]) (fun outv1 i2 gv3 gv4 gv5 gv6 => L0 (spec_l04Dihedral.st0 nv0 outv1 i2 gv3 gv4 gv5 gv6)) (fun ov12 ov13 ov14 ov15 ov16 => kv (.exit 0) (spec_l04Dihedral.sx0_0 ov12 ov13 ov14 ov15 ov16)) outv1 i2 gv3 gv4 gv5 gv6 ov10 ov11) := by kernel_rfl

theorem spec_l04Dihedral.a1_0_eq {ρ : Type} (N : Nat) (K : AV → Heap → Option ρ) (L0 : St → Option ρ) (nv0 : Int) (outv1 : Nat) (i2 : Int) (gv3 : Nat) (gv4 : Nat → Nat) (gv5 : Nat → Nat) (gv6 : Nat → Int) (ov10 : Nat) (ov11 : Nat → Int) :
    (spec_l04Dihedral.k1g N L0 (spec_l04Dihedral.k0 N K)) (.exit 2) (spec_l04Dihedral.sx1_0 nv0 outv1 i2 gv3 gv4 gv5 gv6 ov10 ov11) = (spec_l04Dihedral.a1_0 N (fun d0 d1 d2 d3 d4 => K (.slice true 0 0 d0 .whole 1) [⟨true, .hdr 1 0 d1 d2 d3 none⟩, ⟨true, .flat 0 (.ints .i64 d4)⟩]) (fun outv1 i2 gv3 gv4 gv5 gv6 => L0 (spec_l04Dihedral.st0 nv0 outv1 i2 gv3 gv4 gv5 gv6)) (fun ov12 ov13 ov14 ov15 ov16 => (spec_l04Dihedral.k0 N K) (.exit 0) (spec_l04Dihedral.sx0_0 ov12 ov13 ov14 ov15 ov16)) outv1 i2 gv3 gv4 gv5 gv6 ov10 ov11) := by
  have h := spec_l04Dihedral.a1_0_gen N K L0 (spec_l04Dihedral.k0 N K) nv0 outv1 i2 gv3 gv4 gv5 gv6 ov10 ov11
  rw [spec_l04Dihedral.k0_mix] at h
  exact h

theorem spec_l04Dihedral.b0_gen {ρ : Type} (N : Nat) (K : AV → Heap → Option ρ) (L0 : St → Option ρ) (kv : XE → St → Option ρ) (nv0 : Int) (outv1 : Nat) (i2 : Int) (gv3 : Nat) (gv4 : Nat → Nat) (gv5 : Nat → Nat) (gv6 : Nat → Int) :
    xcode (E18 N) ents spec_l04Dihedral.kp 0 N (cL (cK (cB (cA (cB (cB spec_l04Dihedral.bd)))))) 0 (spec_l04Dihedral.st0 nv0 outv1 i2 gv3 gv4 gv5 gv6) (roundK spec_l04Dihedral.kp 0 0 L0 (mixK (spec_l04Dihedral.fin N K .ret) kv)) = (spec_l04Dihedral.b0 N (fun d0 d1 d2 d3 d4 => K (.slice true 0 0 d0 .whole 1) [⟨true, .hdr 1 0 d1 d2 d3 none⟩, ⟨true, .flat 0 (.ints .i64 d4)⟩]) (fun row7 j8 gv9 => xloop (xcode (E18 N) ents spec_l04Dihedral.kp 0 N (cL (cK (cB (cA (cB (cK (cA (cB (cL (cK (cB (cA (cB (cB spec_l04Dihedral.bd)))))))))))))) 2) spec_l04Dihedral.kp 0 2 N (spec_l04Dihedral.st1 nv0 outv1 i2 gv3 gv4 gv5 gv6 row7 j8 gv9) (spec_l04Dihedral.k1g N L0 (mixK (spec_l04Dihedral.fin N K .ret) kv))) (fun outv1 i2 gv3 gv4 gv5 gv6 => L0 (spec_l04Dihedral.st0 nv0 outv1 i2 gv3 gv4 gv5 gv6)) (fun ov12 ov13 ov14 ov15 ov16 => kv (.exit 0) (spec_l04Dihedral.sx0_0 ov12 ov13 ov14 ov15 ov16)) nv0 outv1 i2 gv3 gv4 gv5 gv6) := by kernel_rfl

theorem spec_l04Dihedral.b0_eq {ρ : Type} (N : Nat) (K : AV → Heap → Option ρ) (L0 : St → Option ρ) (nv0 : Int) (outv1 : Nat) (i2 : Int) (gv3 : Nat) (gv4 : Nat → Nat) (gv5 : Nat → Nat) (gv6 : Nat → Int) :
    xcode (E18 N) ents spec_l04Dihedral.kp 0 N (cL (cK (cB (cA (cB (cB spec_l04Dihedral.bd)))))) 0 (spec_l04Dihedral.st0 nv0 outv1 i2 gv3 gv4 gv5 gv6) (roundK spec_l04Dihedral.kp 0 0 L0 (spec_l04Dihedral.k0 N K)) = (spec_l04Dihedral.b0 N (fun d0 d1 d2 d3 d4 => K (.slice true 0 0 d0 .whole 1) [⟨true, .hdr 1 0 d1 d2 d3 none⟩, ⟨true, .flat 0 (.ints .i64 d4)⟩]) (fun row7 j8 gv9 => xloop (xcode (E18 N) ents spec_l04Dihedral.kp 0 N (cL (cK (cB (cA (cB (cK (cA (cB (cL (cK (cB (cA (cB (cB spec_l04Dihedral.bd)))))))))))))) 2) spec_l04Dihedral.kp 0 2 N (spec_l04Dihedral.st1 nv0 outv1 i2 gv3 gv4 gv5 gv6 row7 j8 gv9) (spec_l04Dihedral.k1g N L0 (spec_l04Dihedral.k0 N K))) (fun outv1 i2 gv3 gv4 gv5 gv6 => L0 (spec_l04Dihedral.st0 nv0 outv1 i2 gv3 gv4 gv5 gv6)) (fun ov12 ov13 ov14 ov15 ov16 => (spec_l04Dihedral.k0 N K) (.exit 0) (spec_l04Dihedral.sx0_0 ov12 ov13 ov14 ov15 ov16)) nv0 outv1 i2 gv3 gv4 gv5 gv6) := by
  have h := spec_l04Dihedral.b0_gen N K L0 (spec_l04Dihedral.k0 N K) nv0 outv1 i2 gv3 gv4 gv5 gv6
  rw [spec_l04Dihedral.k0_mix] at h
  exact h

theorem spec_l04Dihedral.a0_0_eq {ρ : Type} (N : Nat) (K : AV → Heap → Option ρ) (ov12 : Nat) (ov13 : Nat) (ov14 : Nat → Nat) (ov15 : Nat → Nat) (ov16 : Nat → Int) :
    (spec_l04Dihedral.k0 N K) (.exit 0) (spec_l04Dihedral.sx0_0 ov12 ov13 ov14 ov15 ov16) = (spec_l04Dihedral.a0_0 N (fun d0 d1 d2 d3 d4 => K (.slice true 0 0 d0 .whole 1) [⟨true, .hdr 1 0 d1 d2 d3 none⟩, ⟨true, .flat 0 (.ints .i64 d4)⟩]) ov12 ov13 ov14 ov15 ov16) := by kernel_rfl

theorem spec_l04Dihedral.l1_eq {ρ : Type} (N : Nat) (K : AV → Heap → Option ρ) (L0 : St → Option ρ) (nv0 : Int) (outv1 : Nat) (i2 : Int) (gv3 : Nat) (gv4 : Nat → Nat) (gv5 : Nat → Nat) (gv6 : Nat → Int) :
    ∀ (m : Nat) (row7 : Nat) (j8 : Int) (gv9 : Nat → Int), xloop (xcode (E18 N) ents spec_l04Dihedral.kp 0 N (cL (cK (cB (cA (cB (cK (cA (cB (cL (cK (cB (cA (cB (cB spec_l04Dihedral.bd)))))))))))))) 2) spec_l04Dihedral.kp 0 2 m (spec_l04Dihedral.st1 nv0 outv1 i2 gv3 gv4 gv5 gv6 row7 j8 gv9) (spec_l04Dihedral.k1g N L0 (spec_l04Dihedral.k0 N K)) = (spec_l04Dihedral.l1 N (fun d0 d1 d2 d3 d4 => K (.slice true 0 0 d0 .whole 1) [⟨true, .hdr 1 0 d1 d2 d3 none⟩, ⟨true, .flat 0 (.ints .i64 d4)⟩]) nv0 i2 (fun ov10 ov11 => (spec_l04Dihedral.k1g N L0 (spec_l04Dihedral.k0 N K)) (.exit 2) (spec_l04Dihedral.sx1_0 nv0 outv1 i2 gv3 gv4 gv5 gv6 ov10 ov11)) m row7 j8 gv9) := by
  intro m
  induction m with
  | zero => intros; rfl
  | succ m ih =>
    intro row7 j8 gv9
    refine (spec_l04Dihedral.b1_eq N K L0 (fun s => xloop (xcode (E18 N) ents spec_l04Dihedral.kp 0 N (cL (cK (cB (cA (cB (cK (cA (cB (cL (cK (cB (cA (cB (cB spec_l04Dihedral.bd)))))))))))))) 2) spec_l04Dihedral.kp 0 2 m s (spec_l04Dihedral.k1g N L0 (spec_l04Dihedral.k0 N K))) nv0 outv1 i2 gv3 gv4 gv5 gv6 row7 j8 gv9).trans ?_
    simp only [ih]
    kernel_rfl

theorem spec_l04Dihedral.l0_eq {ρ : Type} (N : Nat) (K : AV → Heap → Option ρ) (nv0 : Int) :
    ∀ (m : Nat) (outv1 : Nat) (i2 : Int) (gv3 : Nat) (gv4 : Nat → Nat) (gv5 : Nat → Nat) (gv6 : Nat → Int), xloop (xcode (E18 N) ents spec_l04Dihedral.kp 0 N (cL (cK (cB (cA (cB (cB spec_l04Dihedral.bd)))))) 0) spec_l04Dihedral.kp 0 0 m (spec_l04Dihedral.st0 nv0 outv1 i2 gv3 gv4 gv5 gv6) (spec_l04Dihedral.k0 N K) = (spec_l04Dihedral.l0 N (fun d0 d1 d2 d3 d4 => K (.slice true 0 0 d0 .whole 1) [⟨true, .hdr 1 0 d1 d2 d3 none⟩, ⟨true, .flat 0 (.ints .i64 d4)⟩]) nv0 (fun ov12 ov13 ov14 ov15 ov16 => (spec_l04Dihedral.k0 N K) (.exit 0) (spec_l04Dihedral.sx0_0 ov12 ov13 ov14 ov15 ov16)) m outv1 i2 gv3 gv4 gv5 gv6) := by
  intro m
  induction m with
  | zero => intros; rfl
  | succ m ih =>
    intro outv1 i2 gv3 gv4 gv5 gv6
    refine (spec_l04Dihedral.b0_eq N K (fun s => xloop (xcode (E18 N) ents spec_l04Dihedral.kp 0 N (cL (cK (cB (cA (cB (cB spec_l04Dihedral.bd)))))) 0) spec_l04Dihedral.kp 0 0 m s (spec_l04Dihedral.k0 N K)) nv0 outv1 i2 gv3 gv4 gv5 gv6).trans ?_
    simp only [ih, spec_l04Dihedral.l1_eq, spec_l04Dihedral.a1_0_eq]
    kernel_rfl

theorem spec_l04Dihedral.s_eq {ρ : Type} (N : Nat) (K : AV → Heap → Option ρ) (nv0 : Int) :
    xbody (E18 N) ents spec_l04Dihedral.kp N Go.Proofs.Try.f33 spec_l04Dihedral.bd [.int .i64 (nv0)] [] K = (spec_l04Dihedral.s N (fun d0 d1 d2 d3 d4 => K (.slice true 0 0 d0 .whole 1) [⟨true, .hdr 1 0 d1 d2 d3 none⟩, ⟨true, .flat 0 (.ints .i64 d4)⟩]) (fun outv1 i2 gv3 gv4 gv5 gv6 => xloop (xcode (E18 N) ents spec_l04Dihedral.kp 0 N (cL (cK (cB (cA (cB (cB spec_l04Dihedral.bd)))))) 0) spec_l04Dihedral.kp 0 0 N (spec_l04Dihedral.st0 nv0 outv1 i2 gv3 gv4 gv5 gv6) (spec_l04Dihedral.k0 N K))) := by kernel_rfl

theorem spec_l04Dihedral.eq {ρ : Type} (N : Nat) (K : AV → Heap → Option ρ) (nv0 : Int) :
    xbody (E18 N) ents spec_l04Dihedral.kp N Go.Proofs.Try.f33 spec_l04Dihedral.bd [.int .i64 (nv0)] [] K = (spec_l04Dihedral N (fun d0 d1 d2 d3 d4 => K (.slice true 0 0 d0 .whole 1) [⟨true, .hdr 1 0 d1 d2 d3 none⟩, ⟨true, .flat 0 (.ints .i64 d4)⟩]) nv0) := by
  refine (spec_l04Dihedral.s_eq N K nv0).trans ?_
  simp only [spec_l04Dihedral.l0_eq, spec_l04Dihedral.a0_0_eq]
  kernel_rfl

noncomputable def spec_l04Dihedral.en (N : Nat) (ρ : Type) : List AV → Heap → (AV → Heap → Option ρ) → Option ρ
  | [.int .i64 (nv0)], [], K => (spec_l04Dihedral N (fun d0 d1 d2 d3 d4 => K (.slice true 0 0 d0 .whole 1) [⟨true, .hdr 1 0 d1 d2 d3 none⟩, ⟨true, .flat 0 (.ints .i64 d4)⟩]) nv0)
  | _, _, _ => none

theorem spec_l04Dihedral.en_ok (N : Nat) (hE : EnvOk (E18 N) ents) (ρ : Type) (args : List AV) (sh : Heap) (K : AV → Heap → Option ρ) (r : ρ) (h : spec_l04Dihedral.en N ρ args sh K = some r) : ∃ v sh', K v sh' = some r ∧ FnOk (E18 N).P 33 args sh v sh' := by
  unfold spec_l04Dihedral.en at h
  split at h
  · exact fn_ok hE (kp := spec_l04Dihedral.kp) (N := N) Go.Proofs.Try.func33 (c := spec_l04Dihedral.bd) (by kernel_rfl) ((spec_l04Dihedral.eq N _ _).trans h)
  · cases h

noncomputable def E19 (N : Nat) : Env := (E18 N).add 33 (spec_l04Dihedral.en N)

theorem E19_ok (N : Nat) : EnvOk (E19 N) ents := Env.add_ok (E18_ok N) (spec_l04Dihedral.en_ok N (E18_ok N))

noncomputable def spec_DihedralTable.kp : Keeps := ⟨[], [], [(.slot 2, .unkH .i64)]⟩

noncomputable def spec_DihedralTable.bd : Code := bodyOf Go.Proofs.Try.f19

noncomputable def spec_DihedralTable.fin {ρ : Type} (N : Nat) (K : AV → Heap → Option ρ) : XE → St → Option ρ := finK (E19 N) spec_DihedralTable.kp.fins Go.Proofs.Try.f19 [] K

theorem spec_DihedralTable.eq {ρ : Type} (N : Nat) (K : AV → Heap → Option ρ) (nv0 : Int) :
    xbody (E19 N) ents spec_DihedralTable.kp N Go.Proofs.Try.f19 spec_DihedralTable.bd [.int .i64 (nv0)] [] K = (spec_DihedralTable N (fun d0 d1 d2 d3 d4 d5 => K (.tup [.slice false 0 0 d0 .unk 1, .int .i64 (d1)]) [⟨true, .hdr 1 0 d2 d3 d4 none⟩, ⟨true, .flat 0 (.ints .i64 d5)⟩]) nv0) := by kernel_rfl

noncomputable def spec_DihedralTable.en (N : Nat) (ρ : Type) : List AV → Heap → (AV → Heap → Option ρ) → Option ρ
  | [.int .i64 (nv0)], [], K => (spec_DihedralTable N (fun d0 d1 d2 d3 d4 d5 => K (.tup [.slice false 0 0 d0 .unk 1, .int .i64 (d1)]) [⟨true, .hdr 1 0 d2 d3 d4 none⟩, ⟨true, .flat 0 (.ints .i64 d5)⟩]) nv0)
  | _, _, _ => none

theorem spec_DihedralTable.en_ok (N : Nat) (hE : EnvOk (E19 N) ents) (ρ : Type) (args : List AV) (sh : Heap) (K : AV → Heap → Option ρ) (r : ρ) (h : spec_DihedralTable.en N ρ args sh K = some r) : ∃ v sh', K v sh' = some r ∧ FnOk (E19 N).P 19 args sh v sh' := by
  unfold spec_DihedralTable.en at h
  split at h
  · exact fn_ok hE (kp := spec_DihedralTable.kp) (N := N) Go.Proofs.Try.func19 (c := spec_DihedralTable.bd) (by kernel_rfl) ((spec_DihedralTable.eq N _ _).trans h)
  · cases h

noncomputable def E20 (N : Nat) : Env := (E19 N).add 19 (spec_DihedralTable.en N)

theorem E20_ok (N : Nat) : EnvOk (E20 N) ents := Env.add_ok (E19_ok N) (spec_DihedralTable.en_ok N (E19_ok N))

noncomputable def impl_dihedral.kp : Keeps := ⟨[], [], []⟩

noncomputable def impl_dihedral.bd : Code := bodyOf Go.Proofs.Try.f34

noncomputable def impl_dihedral.fin {ρ : Type} (N : Nat) (K : AV → Heap → Option ρ) : XE → St → Option ρ := finK (E20 N) impl_dihedral.kp.fins Go.Proofs.Try.f34 [] K

theorem impl_dihedral.eq {ρ : Type} (N : Nat) (K : AV → Heap → Option ρ) (nv0 : Int) :
    xbody (E20 N) ents impl_dihedral.kp N Go.Proofs.Try.f34 impl_dihedral.bd [.int .i64 (nv0)] [] K = (impl_dihedral N (fun d0 d1 d2 d3 d4 => K (.slice true 0 0 d0 .whole 1) [⟨true, .hdr 1 0 d1 d2 d3 none⟩, ⟨true, .flat 0 (.ints .i64 d4)⟩]) nv0) := by kernel_rfl

noncomputable def impl_dihedral.en (N : Nat) (ρ : Type) : List AV → Heap → (AV → Heap → Option ρ) → Option ρ
  | [.int .i64 (nv0)], [], K => (impl_dihedral N (fun d0 d1 d2 d3 d4 => K (.slice true 0 0 d0 .whole 1) [⟨true, .hdr 1 0 d1 d2 d3 none⟩, ⟨true, .flat 0 (.ints .i64 d4)⟩]) nv0)
  | _, _, _ => none

theorem impl_dihedral.en_ok (N : Nat) (hE : EnvOk (E20 N) ents) (ρ : Type) (args : List AV) (sh : Heap) (K : AV → Heap → Option ρ) (r : ρ) (h : impl_dihedral.en N ρ args sh K = some r) : ∃ v sh', K v sh' = some r ∧ FnOk (E20 N).P 34 args sh v sh' := by
  unfold impl_dihedral.en at h
  split at h
  · exact fn_ok hE (kp := impl_dihedral.kp) (N := N) Go.Proofs.Try.func34 (c := impl_dihedral.bd) (by kernel_rfl) ((impl_dihedral.eq N _ _).trans h)
  · cases h

noncomputable def E21 (N : Nat) : Env := (E20 N).add 34 (impl_dihedral.en N)

theorem E21_ok (N : Nat) : EnvOk (E21 N) ents := Env.add_ok (E20_ok N) (impl_dihedral.en_ok N (E20_ok N))

noncomputable def impl_DihedralTable.kp : Keeps := ⟨[], [], [(.slot 2, .unkH .i64)]⟩

noncomputable def impl_DihedralTable.bd : Code := bodyOf Go.Proofs.Try.f20

noncomputable def impl_DihedralTable.fin {ρ : Type} (N : Nat) (K : AV → Heap → Option ρ) : XE → St → Option ρ := finK (E21 N) impl_DihedralTable.kp.fins Go.Proofs.Try.f20 [] K

theorem impl_DihedralTable.eq {ρ : Type} (N : Nat) (K : AV → Heap → Option ρ) (nv0 : Int) :
    xbody (E21 N) ents impl_DihedralTable.kp N Go.Proofs.Try.f20 impl_DihedralTable.bd [.int .i64 (nv0)] [] K = (impl_DihedralTable N (fun d0 d1 d2 d3 d4 d5 => K (.tup [.slice false 0 0 d0 .unk 1, .int .i64 (d1)]) [⟨true, .hdr 1 0 d2 d3 d4 none⟩, ⟨true, .flat 0 (.ints .i64 d5)⟩]) nv0) := by kernel_rfl

noncomputable def impl_DihedralTable.en (N : Nat) (ρ : Type) : List AV → Heap → (AV → Heap → Option ρ) → Option ρ
  | [.int .i64 (nv0)], [], K => (impl_DihedralTable N (fun d0 d1 d2 d3 d4 d5 => K (.tup [.slice false 0 0 d0 .unk 1, .int .i64 (d1)]) [⟨true, .hdr 1 0 d2 d3 d4 none⟩, ⟨true, .flat 0 (.ints .i64 d5)⟩]) nv0)
  | _, _, _ => none

theorem impl_DihedralTable.en_ok (N : Nat) (hE : EnvOk (E21 N) ents) (ρ : Type) (args : List AV) (sh : Heap) (K : AV → Heap → Option ρ) (r : ρ) (h : impl_DihedralTable.en N ρ args sh K = some r) : ∃ v sh', K v sh' = some r ∧ FnOk (E21 N).P 20 args sh v sh' := by
  unfold impl_DihedralTable.en at h
  split at h
  · exact fn_ok hE (kp := impl_DihedralTable.kp) (N := N) Go.Proofs.Try.func20 (c := impl_DihedralTable.bd) (by kernel_rfl) ((impl_DihedralTable.eq N _ _).trans h)
  · cases h

noncomputable def E22 (N : Nat) : Env := (E21 N).add 20 (impl_DihedralTable.en N)

theorem E22_ok (N : Nat) : EnvOk (E22 N) ents := Env.add_ok (E21_ok N) (impl_DihedralTable.en_ok N (E21_ok N))

noncomputable def laws_FnExactDihedralTable.kp : Keeps := ⟨[], [], []⟩

noncomputable def laws_FnExactDihedralTable.bd : Code := bodyOf Go.Proofs.Try.f7

noncomputable def laws_FnExactDihedralTable.fin {ρ : Type} (N : Nat) (K : AV → Heap → Option ρ) : XE → St → Option ρ := finK (E22 N) laws_FnExactDihedralTable.kp.fins Go.Proofs.Try.f7 [] K

theorem laws_FnExactDihedralTable.eq {ρ : Type} (N : Nat) (K : AV → Heap → Option ρ) (aN0 : Int) :
    xbody (E22 N) ents laws_FnExactDihedralTable.kp N Go.Proofs.Try.f7 laws_FnExactDihedralTable.bd [.int .i64 (aN0)] [] K = (laws_FnExactDihedralTable N (fun d0 => K (.bool (d0)) []) aN0) := by kernel_rfl

noncomputable def laws_FnExactDihedralTable.en (N : Nat) (ρ : Type) : List AV → Heap → (AV → Heap → Option ρ) → Option ρ
  | [.int .i64 (aN0)], [], K => (laws_FnExactDihedralTable N (fun d0 => K (.bool (d0)) []) aN0)
  | _, _, _ => none

theorem laws_FnExactDihedralTable.en_ok (N : Nat) (hE : EnvOk (E22 N) ents) (ρ : Type) (args : List AV) (sh : Heap) (K : AV → Heap → Option ρ) (r : ρ) (h : laws_FnExactDihedralTable.en N ρ args sh K = some r) : ∃ v sh', K v sh' = some r ∧ FnOk (E22 N).P 7 args sh v sh' := by
  unfold laws_FnExactDihedralTable.en at h
  split at h
  · exact fn_ok hE (kp := laws_FnExactDihedralTable.kp) (N := N) Go.Proofs.Try.func7 (c := laws_FnExactDihedralTable.bd) (by kernel_rfl) ((laws_FnExactDihedralTable.eq N _ _).trans h)
  · cases h

noncomputable def E23 (N : Nat) : Env := (E22 N).add 7 (laws_FnExactDihedralTable.en N)

theorem E23_ok (N : Nat) : EnvOk (E23 N) ents := Env.add_ok (E22_ok N) (laws_FnExactDihedralTable.en_ok N (E22_ok N))

noncomputable def spec_l04Quaternion.kp : Keeps := ⟨[(0, [1, 2], [], []), (2, [1, 2, 3, 4], [], [])], [(0, [1], [], []), (2, [1, 2, 3], [], [])], []⟩

noncomputable def spec_l04Quaternion.bd : Code := bodyOf Go.Proofs.Try.f35

noncomputable def spec_l04Quaternion.fin {ρ : Type} (N : Nat) (K : AV → Heap → Option ρ) : XE → St → Option ρ := finK (E23 N) spec_l04Quaternion.kp.fins Go.Proofs.Try.f35 [] K

noncomputable def spec_l04Quaternion.k0 {ρ : Type} (N : Nat) (K : AV → Heap → Option ρ) : XE → St → Option ρ := (blockK spec_l04Quaternion.kp 0 0 (seqK (xcode (E23 N) ents spec_l04Quaternion.kp 0 N (cB (cB (cB spec_l04Quaternion.bd))) 0) (spec_l04Quaternion.fin N K)))

theorem spec_l04Quaternion.k0_mix {ρ : Type} (N : Nat) (K : AV → Heap → Option ρ) : mixK (spec_l04Quaternion.fin N K .ret) (spec_l04Quaternion.k0 N K) = (spec_l04Quaternion.k0 N K) := by
  funext e s; cases e <;> kernel_rfl

noncomputable def spec_l04Quaternion.st0 (outv0 : Nat) (i1 : Int) (gv2 : Nat) (gv3 : Nat → Nat) (gv4 : Nat → Nat) (gv5 : Nat → Int) : St := ⟨sl 71 [(1, .slice true 0 0 outv0 .whole 1), (2, .int .i64 (i1))], [⟨true, .hdr 1 0 gv2 gv3 gv4 none⟩, ⟨true, .flat 0 (.ints .i64 gv5)⟩]⟩

noncomputable def spec_l04Quaternion.sx0_0 (ov11 : Nat) (ov12 : Nat) (ov13 : Nat → Nat) (ov14 : Nat → Nat) (ov15 : Nat → Int) : St := ⟨sl 71 [(1, .slice true 0 0 ov11 .whole 1)], [⟨true, .hdr 1 0 ov12 ov13 ov14 none⟩, ⟨true, .flat 0 (.ints .i64 ov15)⟩]⟩

noncomputable def spec_l04Quaternion.k1g {ρ : Type} (N : Nat) (L0 : St → Option ρ) (kv : XE → St → Option ρ) : XE → St → Option ρ := (blockK spec_l04Quaternion.kp 0 2 (seqK (xcode (E23 N) ents spec_l04Quaternion.kp 0 N (cB (cB (cK (cA (cB (cL (cK (cB (cA (cB (cB spec_l04Quaternion.bd))))))))))) 1) (blockK spec_l04Quaternion.kp 0 1 (seqK (xcode (E23 N) ents spec_l04Quaternion.kp 0 N (cB (cB (cL (cK (cB (cA (cB (cB spec_l04Quaternion.bd)))))))) 0) (roundK spec_l04Quaternion.kp 0 0 L0 kv)))))

theorem spec_l04Quaternion.k1_mix {ρ : Type} (N : Nat) (K : AV → Heap → Option ρ) (L0 : St → Option ρ) : mixK (spec_l04Quaternion.fin N K .ret) (spec_l04Quaternion.k1g N L0 (spec_l04Quaternion.k0 N K)) = (spec_l04Quaternion.k1g N L0 (spec_l04Quaternion.k0 N K)) := by
  funext e s; cases e <;> kernel_rfl

noncomputable def spec_l04Quaternion.st1 (outv0 : Nat) (i1 : Int) (gv2 : Nat) (gv3 : Nat → Nat) (gv4 : Nat → Nat) (gv5 : Nat → Int) (row6 : Nat) (j7 : Int) (gv8 : Nat → Int) : St := ⟨sl 71 [(1, .slice true 0 0 outv0 .whole 1), (2, .int .i64 (i1)), (3, .slice true 1 0 row6 .whole 1), (4, .int .i64 (j7))], [⟨true, .hdr 2 0 gv2 gv3 gv4 none⟩, ⟨true, .flat 0 (.ints .i64 gv8)⟩, ⟨true, .flat 0 (.ints .i64 gv5)⟩]⟩

noncomputable def spec_l04Quaternion.sx1_0 (outv0 : Nat) (i1 : Int) (gv2 : Nat) (gv3 : Nat → Nat) (gv4 : Nat → Nat) (gv5 : Nat → Int) (ov9 : Nat) (ov10 : Nat → Int) : St := ⟨sl 71 [(1, .slice true 0 0 outv0 .whole 1), (2, .int .i64 (i1)), (3, .slice true 1 0 ov9 .whole 1)], [⟨true, .hdr 2 0 gv2 gv3 gv4 none⟩, ⟨true, .flat 0 (.ints .i64 ov10)⟩, ⟨true, .flat 0 (.ints .i64 gv5)⟩]⟩

theorem spec_l04Quaternion.b1_gen {ρ : Type} (N : Nat) (K : AV → Heap → Option ρ) (L1 : St → Option ρ) (kv : XE → St → Option ρ) (outv0 : Nat) (i1 : Int) (gv2 : Nat) (gv3 : Nat → Nat) (gv4 : Nat → Nat) (gv5 : Nat → Int) (row6 : Nat) (j7 : Int) (gv8 : Nat → Int) :
    xcode (E23 N) ents spec_l04Quaternion.kp 0 N (cL (cK (cB (cA (cB (cK (cA (cB (cL (cK (cB (cA (cB (cB spec_l04Quaternion.bd)))))))))))))) 2 (spec_l04Quaternion.st1 outv0 i1 gv2 gv3 gv4 gv5 row6 j7 gv8) (roundK spec_l04Quaternion.kp 0 2 L1 (mixK (spec_l04Quaternion.fin N K .ret) kv)) = (spec_l04Quaternion.b1 N (fun d0 d1 d2 d3 d4 => K (.slice true 0 0 d0 .whole 1) [⟨true, .hdr 1 0 d1 d2 d3 none⟩, ⟨true, .flat 0 (.ints .i64 d4)⟩]) (fun row6 j7 gv8 => L1 (spec_l04Quaternion.st1 outv0 i1 gv2 gv3 gv4 gv5 row6 j7 gv8)) (fun ov9 ov10 => kv (.exit 2) (spec_l04Quaternion.sx1_0 outv0 i1 gv2 gv3 gv4 gv5 ov9 ov10)) i1 row6 j7 gv8) := by kernel_rfl

theorem spec_l04Quaternion.b1_eq {ρ : Type} (N : Nat) (K : AV → Heap → Option ρ) (L0 : St → Option ρ) (L1 : St → Option ρ) (outv0 : Nat) (i1 : Int) (gv2 : Nat) (gv3 : Nat → Nat) (gv4 : Nat → Nat) (gv5 : Nat → Int) (row6 : Nat) (j7 : Int) (gv8 : Nat → Int) :
    xcode (E23 N) ents spec_l04Quaternion.kp 0 N (cL (cK (cB (cA (cB (cK (cA (cB (cL (cK (cB (cA (cB (cB spec_l04Quaternion.bd)))))))))))))) 2 (spec_l04Quaternion.st1 outv0 i1 gv2 gv3 gv4 gv5 row6 j7 gv8) (roundK spec_l04Quaternion.kp 0 2 L1 (spec_l04Quaternion.k1g N L0 (spec_l04Quaternion.k0 N K))) = (spec_l04Quaternion.b1 N (fun d0 d1 d2 d3 d4 => K (.slice true 0 0 d0 .whole 1) [⟨true, .hdr 1 0 d1 d2 d3 none⟩, ⟨true, .flat 0 (.ints .i64 d4)⟩]) (fun row6 j7 gv8 => L1 (spec_l04Quaternion.st1 outv0 i1 gv2 gv3 gv4 gv5 row6 j7 gv8)) (fun ov9 ov10 => (spec_l04Quaternion.k1g N L0 (spec_l04Quaternion.k0 N K)) (.exit 2) (spec_l04Quaternion.sx1_0 outv0 i1 gv2 gv3 gv4 gv5 ov9 ov10)) i1 row6 j7 gv8) := by
  have h := spec_l04Quaternion.b1_gen N K L1 (spec_l04Quaternion.k1g N L0 (spec_l04Quaternion.k0 N K)) outv0 i1 gv2 gv3 gv4 gv5 row6 j7 gv8
  rw [spec_l04Quaternion.k1_mix] at h
  exact h

theorem spec_l04Quaternion.a1_0_gen {ρ : Type} (N : Nat) (K : AV → Heap → Option ρ) (L0 : St → Option ρ) (kv : XE → St → Option ρ) (outv0 : Nat) (i1 : Int) (gv2 : Nat) (gv3 : Nat → Nat) (gv4 : Nat → Nat) (gv5 : Nat → Int) (ov9 : Nat) (ov10 : Nat → Int) :
    (spec_l04Quaternion.k1g N L0 (mixK (spec_l04Quaternion.fin N K .ret) kv)) (.exit 2) (spec_l04Quaternion.sx1_0 outv0 i1 gv2 gv3 gv4 gv5 ov9 ov10) = (spec_l04Quaternion.a1_0 N (fun d0 d1 d2 d3 d4 => K (.slice true 0 0 d0 .whole 1) [⟨true, .hdr 1 0 d1 d2 d3 none⟩, ⟨true, .flat 0 (.ints .i64 d4)⟩]) (fun outv0 i1 gv2 gv3 gv4 gv5 => L0 (spec_l04Quaternion.st0 outv0 i1 gv2 gv3 gv4 gv5)) (fun ov11 ov12 ov13 ov14 ov15 => kv (.exit 0) (spec_l04Quaternion.sx0_0 ov11 ov12 ov13 ov14 ov15)) outv0 i1 gv2 gv3 gv4 gv5 ov9 ov10) := by kernel_rfl

theorem spec_l04Quaternion.a1_0_eq {ρ : Type} (N : Nat) (K : AV → Heap → Option ρ) (L0 : St → Option ρ) (outv0 : Nat) (i1 : Int) (gv2 : Nat) (gv3 : Nat → Nat) (gv4 : Nat → Nat) (gv5 : Nat → Int) (ov9 : Nat) (ov10 : Nat → Int) :
    (spec_l04Quaternion.k1g N L0 (spec_l04Quaternion.k0 N K)) (.exit 2) (spec_l04Quaternion.sx1_0 outv0 i1 gv2 gv3 gv4 gv5 ov9 ov10) = (spec_l04Quaternion.a1_0 N (fun d0 d1 d2 d3 d4 => K (.slice true 0 0 d0 .whole 1) [⟨true, .hdr 1 0 d1 d2 d3 none⟩, ⟨true, .flat 0 (.ints .i64 d4)⟩]) (fun outv0 i1 gv2 gv3 gv4 gv5 => L0 (spec_l04Quaternion.st0 outv0 i1 gv2 gv3 gv4 gv5)) (fun ov11 ov12 ov13 ov14 ov15 => (spec_l04Quaternion.k0 N K) (.exit 0) (spec_l04Quaternion.sx0_0 ov11 ov12 ov13 ov14 ov15)) outv0 i1 gv2 gv3 gv4 gv5 ov9 ov10) := by
  have h := spec_l04Quaternion.a1_0_gen N K L0 (spec_l04Quaternion.k0 N K) outv0 i1 gv2 gv3 gv4 gv5 ov9 ov10
  rw [spec_l04Quaternion.k0_mix] at h
  exact h

theorem spec_l04Quaternion.b0_gen {ρ : Type} (N : Nat) (K : AV → Heap → Option ρ) (L0 : St → Option ρ) (kv : XE → St → Option ρ) (outv0 : Nat) (i1 : Int) (gv2 : Nat) (gv3 : Nat → Nat) (gv4 : Nat → Nat) (gv5 : Nat → Int) :
    xcode (E23 N) ents spec_l04Quaternion.kp 0 N (cL (cK (cB (cA (cB (cB spec_l04Quaternion.bd)))))) 0 (spec_l04Quaternion.st0 outv0 i1 gv2 gv3 gv4 gv5) (roundK spec_l04Quaternion.kp 0 0 L0 (mixK (spec_l04Quaternion.fin N K .ret) kv)) = (spec_l04Quaternion.b0 N (fun d0 d1 d2 d3 d4 => K (.slice true 0 0 d0 .whole 1) [⟨true, .hdr 1 0 d1 d2 d3 none⟩, ⟨true, .flat 0 (.ints .i64 d4)⟩]) (fun row6 j7 gv8 => xloop (xcode (E23 N) ents spec_l04Quaternion.kp 0 N (cL (cK (cB (cA (cB (cK (cA (cB (cL (cK (cB (cA (cB (cB spec_l04Quaternion.bd)))))))))))))) 2) spec_l04Quaternion.kp 0 2 N (spec_l04Quaternion.st1 outv0 i1 gv2 gv3 gv4 gv5 row6 j7 gv8) (spec_l04Quaternion.k1g N L0 (mixK (spec_l04Quaternion.fin N K .ret) kv))) (fun outv0 i1 gv2 gv3 gv4 gv5 => L0 (spec_l04Quaternion.st0 outv0 i1 gv2 gv3 gv4 gv5)) (fun ov11 ov12 ov13 ov14 ov15 => kv (.exit 0) (spec_l04Quaternion.sx0_0 ov11 ov12 ov13 ov14 ov15)) outv0 i1 gv2 gv3 gv4 gv5) := by kernel_rfl

theorem spec_l04Quaternion.b0_eq {ρ : Type} (N : Nat) (K : AV → Heap → Option ρ) (L0 : St → Option ρ) (outv0 : Nat) (i1 : Int) (gv2 : Nat) (gv3 : Nat → Nat) (gv4 : Nat → Nat) (gv5 : Nat → Int) :
    xcode (E23 N) ents spec_l04Quaternion.kp 0 N (cL (cK (cB (cA (cB (cB spec_l04Quaternion.bd)))))) 0 (spec_l04Quaternion.st0 outv0 i1 gv2 gv3 gv4 gv5) (roundK spec_l04Quaternion.kp 0 0 L0 (spec_l04Quaternion.k0 N K)) = (spec_l04Quaternion.b0 N (fun d0 d1 d2 d3 d4 => K (.slice true 0 0 d0 .whole 1) [⟨true, .hdr 1 0 d1 d2 d3 none⟩, ⟨true, .flat 0 (.ints .i64 d4)⟩]) (fun row6 j7 gv8 => xloop (xcode (E23 N) ents spec_l04Quaternion.kp 0 N (cL (cK (cB (cA (cB (cK (cA (cB (cL (cK (cB (cA (cB (cB spec_l04Quaternion.bd)))))))))))))) 2) spec_l04Quaternion.kp 0 2 N (spec_l04Quaternion.st1 outv0 i1 gv2 gv3 gv4 gv5 row6 j7 gv8) (spec_l04Quaternion.k1g N L0 (spec_l04Quaternion.k0 N K))) (fun outv0 i1 gv2 gv3 gv4 gv5 => L0 (spec_l04Quaternion.st0 outv0 i1 gv2 gv3 gv4 gv5)) (fun ov11 ov12 ov13 ov14 ov15 => (spec_l04Quaternion.k0 N K) (.exit 0) (spec_l04Quaternion.sx0_0 ov11 ov12 ov13 ov14 ov15)) outv0 i1 gv2 gv3 gv4 gv5) := by
  have h := spec_l04Quaternion.b0_gen N K L0 (spec_l04Quaternion.k0 N K) outv0 i1 gv2 gv3 gv4 gv5
  rw [spec_l04Quaternion.k0_mix] at h
  exact h

theorem spec_l04Quaternion.a0_0_eq {ρ : Type} (N : Nat) (K : AV → Heap → Option ρ) (ov11 : Nat) (ov12 : Nat) (ov13 : Nat → Nat) (ov14 : Nat → Nat) (ov15 : Nat → Int) :
    (spec_l04Quaternion.k0 N K) (.exit 0) (spec_l04Quaternion.sx0_0 ov11 ov12 ov13 ov14 ov15) = (spec_l04Quaternion.a0_0 N (fun d0 d1 d2 d3 d4 => K (.slice true 0 0 d0 .whole 1) [⟨true, .hdr 1 0 d1 d2 d3 none⟩, ⟨true, .flat 0 (.ints .i64 d4)⟩]) ov11 ov12 ov13 ov14 ov15) := by kernel_rfl

theorem spec_l04Quaternion.l1_eq {ρ : Type} (N : Nat) (K : AV → Heap → Option ρ) (L0 : St → Option ρ) (outv0 : Nat) (i1 : Int) (gv2 : Nat) (gv3 : Nat → Nat) (gv4 : Nat → Nat) (gv5 : Nat → Int) :
    ∀ (m : Nat) (row6 : Nat) (j7 : Int) (gv8 : Nat → Int), xloop (xcode (E23 N) ents spec_l04Quaternion.kp 0 N (cL (cK (cB (cA (cB (cK (cA (cB (cL (cK (cB (cA (cB (cB spec_l04Quaternion.bd)))))))))))))) 2) spec_l04Quaternion.kp 0 2 m (spec_l04Quaternion.st1 outv0 i1 gv2 gv3 gv4 gv5 row6 j7 gv8) (spec_l04Quaternion.k1g N L0 (spec_l04Quaternion.k0 N K)) = (spec_l04Quaternion.l1 N (fun d0 d1 d2 d3 d4 => K (.slice true 0 0 d0 .whole 1) [⟨true, .hdr 1 0 d1 d2 d3 none⟩, ⟨true, .flat 0 (.ints .i64 d4)⟩]) i1 (fun ov9 ov10 => (spec_l04Quaternion.k1g N L0 (spec_l04Quaternion.k0 N K)) (.exit 2) (spec_l04Quaternion.sx1_0 outv0 i1 gv2 gv3 gv4 gv5 ov9 ov10)) m row6 j7 gv8) := by
  intro m
  induction m with
  | zero => intros; rfl
  | succ m ih =>
    intro row6 j7 gv8
    refine (spec_l04Quaternion.b1_eq N K L0 (fun s => xloop (xcode (E23 N) ents spec_l04Quaternion.kp 0 N (cL (cK (cB (cA (cB (cK (cA (cB (cL (cK (cB (cA (cB (cB spec_l04Quaternion.bd)))))))))))))) 2) spec_l04Quaternion.kp 0 2 m s (spec_l04Quaternion.k1g N L0 (spec_l04Quaternion.k0 N K))) outv0 i1 gv2 gv3 gv4 gv5 row6 j7 gv8).trans ?_
    simp only [ih]
    kernel_rfl

theorem spec_l04Quaternion.l0_eq {ρ : Type} (N : Nat) (K : AV → Heap → Option ρ) :
    ∀ (m : Nat) (outv0 : Nat) (i1 : Int) (gv2 : Nat) (gv3 : Nat → Nat) (gv4 : Nat → Nat) (gv5 : Nat → Int), xloop (xcode (E23 N) ents spec_l04Quaternion.kp 0 N (cL (cK (cB (cA (cB (cB spec_l04Quaternion.bd)))))) 0) spec_l04Quaternion.kp 0 0 m (spec_l04Quaternion.st0 outv0 i1 gv2 gv3 gv4 gv5) (spec_l04Quaternion.k0 N K) = (spec_l04Quaternion.l0 N (fun d0 d1 d2 d3 d4 => K (.slice true 0 0 d0 .whole 1) [⟨true, .hdr 1 0 d1 d2 d3 none⟩, ⟨true, .flat 0 (.ints .i64 d4)⟩]) (fun ov11 ov12 ov13 ov14 ov15 => (spec_l04Quaternion.k0 N K) (.exit 0) (spec_l04Quaternion.sx0_0 ov11 ov12 ov13 ov14 ov15)) m outv0 i1 gv2 gv3 gv4 gv5) := by
  intro m
  induction m with
  | zero => intros; rfl
  | succ m ih =>
    intro outv0 i1 gv2 gv3 gv4 gv5
    refine (spec_l04Quaternion.b0_eq N K (fun s => xloop (xcode (E23 N) ents spec_l04Quaternion.kp 0 N (cL (cK (cB (cA (cB (cB spec_l04Quaternion.bd)))))) 0) spec_l04Quaternion.kp 0 0 m s (spec_l04Quaternion.k0 N K)) outv0 i1 gv2 gv3 gv4 gv5).trans ?_
    simp only [ih, spec_l04Quaternion.l1_eq, spec_l04Quaternion.a1_0_eq]
    kernel_rfl

theorem spec_l04Quaternion.s_eq {ρ : Type} (N : Nat) (K : AV → Heap → Option ρ) :
    xbody (E23 N) ents spec_l04Quaternion.kp N Go.Proofs.Try.f35 spec_l04Quaternion.bd [] [] K = (spec_l04Quaternion.s N (fun d0 d1 d2 d3 d4 => K (.slice true 0 0 d0 .whole 1) [⟨true, .hdr 1 0 d1 d2 d3 none⟩, ⟨true, .flat 0 (.ints .i64 d4)⟩]) (fun outv0 i1 gv2 gv3 gv4 gv5 => xloop (xcode (E23 N) ents spec_l04Quaternion.kp 0 N (cL (cK (cB (cA (cB (cB spec_l04Quaternion.bd)))))) 0) spec_l04Quaternion.kp 0 0 N (spec_l04Quaternion.st0 outv0 i1 gv2 gv3 gv4 gv5) (spec_l04Quaternion.k0 N K))) := by kernel_rfl

theorem spec_l04Quaternion.eq {ρ : Type} (N : Nat) (K : AV → Heap → Option ρ) :
    xbody (E23 N) ents spec_l04Quaternion.kp N Go.Proofs.Try.f35 spec_l04Quaternion.bd [] [] K = (spec_l04Quaternion N (fun d0 d1 d2 d3 d4 => K (.slice true 0 0 d0 .whole 1) [⟨true, .hdr 1 0 d1 d2 d3 none⟩, ⟨true, .flat 0 (.ints .i64 d4)⟩])) := by
  refine (spec_l04Quaternion.s_eq N K ).trans ?_
  simp only [spec_l04Quaternion.l0_eq, spec_l04Quaternion.a0_0_eq]
  kernel_rfl

noncomputable def spec_l04Quaternion.en (N : Nat) (ρ : Type) : List AV → Heap → (AV → Heap → Option ρ) → Option ρ
  | [], [], K => (spec_l04Quaternion N (fun d0 d1 d2 d3 d4 => K (.slice true 0 0 d0 .whole 1) [⟨true, .hdr 1 0 d1 d2 d3 none⟩, ⟨true, .flat 0 (.ints .i64 d4)⟩]))
  | _, _, _ => none

theorem spec_l04Quaternion.en_ok (N : Nat) (hE : EnvOk (E23 N) ents) (ρ : Type) (args : List AV) (sh : Heap) (K : AV → Heap → Option ρ) (r : ρ) (h : spec_l04Quaternion.en N ρ args sh K = some r) : ∃ v sh', K v sh' = some r ∧ FnOk (E23 N).P 35 args sh v sh' := by
  unfold spec_l04Quaternion.en at h
  split at h
  · exact fn_ok hE (kp := spec_l04Quaternion.kp) (N := N) Go.Proofs.Try.func35 (c := spec_l04Quaternion.bd) (by kernel_rfl) ((spec_l04Quaternion.eq N _ ).trans h)
  · cases h

noncomputable def E24 (N : Nat) : Env := (E23 N).add 35 (spec_l04Quaternion.en N)

theorem E24_ok (N : Nat) : EnvOk (E24 N) ents := Env.add_ok (E23_ok N) (spec_l04Quaternion.en_ok N (E23_ok N))

noncomputable def spec_QuaternionTable.kp : Keeps := ⟨[], [], []⟩

noncomputable def spec_QuaternionTable.bd : Code := bodyOf Go.Proofs.Try.f21

noncomputable def spec_QuaternionTable.fin {ρ : Type} (N : Nat) (K : AV → Heap → Option ρ) : XE → St → Option ρ := finK (E24 N) spec_QuaternionTable.kp.fins Go.Proofs.Try.f21 [] K

theorem spec_QuaternionTable.eq {ρ : Type} (N : Nat) (K : AV → Heap → Option ρ) :
    xbody (E24 N) ents spec_QuaternionTable.kp N Go.Proofs.Try.f21 spec_QuaternionTable.bd [] [] K = (spec_QuaternionTable N (fun d0 d1 d2 d3 d4 => K (.slice true 0 0 d0 .whole 1) [⟨true, .hdr 1 0 d1 d2 d3 none⟩, ⟨true, .flat 0 (.ints .i64 d4)⟩])) := by kernel_rfl

noncomputable def spec_QuaternionTable.en (N : Nat) (ρ : Type) : List AV → Heap → (AV → Heap → Option ρ) → Option ρ
  | [], [], K => (spec_QuaternionTable N (fun d0 d1 d2 d3 d4 => K (.slice true 0 0 d0 .whole 1) [⟨true, .hdr 1 0 d1 d2 d3 none⟩, ⟨true, .flat 0 (.ints .i64 d4)⟩]))
  | _, _, _ => none

theorem spec_QuaternionTable.en_ok (N : Nat) (hE : EnvOk (E24 N) ents) (ρ : Type) (args : List AV) (sh : Heap) (K : AV → Heap → Option ρ) (r : ρ) (h : spec_QuaternionTable.en N ρ args sh K = some r) : ∃ v sh', K v sh' = some r ∧ FnOk (E24 N).P 21 args sh v sh' := by
  unfold spec_QuaternionTable.en at h
  split at h
  · exact fn_ok hE (kp := spec_QuaternionTable.kp) (N := N) Go.Proofs.Try.func21 (c := spec_QuaternionTable.bd) (by kernel_rfl) ((spec_QuaternionTable.eq N _ ).trans h)
  · cases h

noncomputable def E25 (N : Nat) : Env := (E24 N).add 21 (spec_QuaternionTable.en N)

theorem E25_ok (N : Nat) : EnvOk (E25 N) ents := Env.add_ok (E24_ok N) (spec_QuaternionTable.en_ok N (E24_ok N))

noncomputable def impl_QuaternionTable.kp : Keeps := ⟨[], [], []⟩

noncomputable def impl_QuaternionTable.bd : Code := bodyOf Go.Proofs.Try.f22

noncomputable def impl_QuaternionTable.fin {ρ : Type} (N : Nat) (K : AV → Heap → Option ρ) : XE → St → Option ρ := finK (E25 N) impl_QuaternionTable.kp.fins Go.Proofs.Try.f22 [] K

theorem impl_QuaternionTable.eq {ρ : Type} (N : Nat) (K : AV → Heap → Option ρ) :
    xbody (E25 N) ents impl_QuaternionTable.kp N Go.Proofs.Try.f22 impl_QuaternionTable.bd [] [] K = (impl_QuaternionTable N (fun d0 d1 d2 d3 d4 => K (.slice true 0 0 d0 .whole 1) [⟨true, .hdr 1 0 d1 d2 d3 none⟩, ⟨true, .flat 0 (.ints .i64 d4)⟩])) := by kernel_rfl

noncomputable def impl_QuaternionTable.en (N : Nat) (ρ : Type) : List AV → Heap → (AV → Heap → Option ρ) → Option ρ
  | [], [], K => (impl_QuaternionTable N (fun d0 d1 d2 d3 d4 => K (.slice true 0 0 d0 .whole 1) [⟨true, .hdr 1 0 d1 d2 d3 none⟩, ⟨true, .flat 0 (.ints .i64 d4)⟩]))
  | _, _, _ => none

theorem impl_QuaternionTable.en_ok (N : Nat) (hE : EnvOk (E25 N) ents) (ρ : Type) (args : List AV) (sh : Heap) (K : AV → Heap → Option ρ) (r : ρ) (h : impl_QuaternionTable.en N ρ args sh K = some r) : ∃ v sh', K v sh' = some r ∧ FnOk (E25 N).P 22 args sh v sh' := by
  unfold impl_QuaternionTable.en at h
  split at h
  · exact fn_ok hE (kp := impl_QuaternionTable.kp) (N := N) Go.Proofs.Try.func22 (c := impl_QuaternionTable.bd) (by kernel_rfl) ((impl_QuaternionTable.eq N _ ).trans h)
  · cases h

noncomputable def E26 (N : Nat) : Env := (E25 N).add 22 (impl_QuaternionTable.en N)

theorem E26_ok (N : Nat) : EnvOk (E26 N) ents := Env.add_ok (E25_ok N) (impl_QuaternionTable.en_ok N (E25_ok N))

noncomputable def laws_FnExactQuaternionTable.kp : Keeps := ⟨[], [], []⟩

noncomputable def laws_FnExactQuaternionTable.bd : Code := bodyOf Go.Proofs.Try.f8

noncomputable def laws_FnExactQuaternionTable.fin {ρ : Type} (N : Nat) (K : AV → Heap → Option ρ) : XE → St → Option ρ := finK (E26 N) laws_FnExactQuaternionTable.kp.fins Go.Proofs.Try.f8 [] K

theorem laws_FnExactQuaternionTable.eq {ρ : Type} (N : Nat) (K : AV → Heap → Option ρ) :
    xbody (E26 N) ents laws_FnExactQuaternionTable.kp N Go.Proofs.Try.f8 laws_FnExactQuaternionTable.bd [] [] K = (laws_FnExactQuaternionTable N (fun d0 => K (.bool (d0)) [])) := by kernel_rfl

noncomputable def laws_FnExactQuaternionTable.en (N : Nat) (ρ : Type) : List AV → Heap → (AV → Heap → Option ρ) → Option ρ
  | [], [], K => (laws_FnExactQuaternionTable N (fun d0 => K (.bool (d0)) []))
  | _, _, _ => none

theorem laws_FnExactQuaternionTable.en_ok (N : Nat) (hE : EnvOk (E26 N) ents) (ρ : Type) (args : List AV) (sh : Heap) (K : AV → Heap → Option ρ) (r : ρ) (h : laws_FnExactQuaternionTable.en N ρ args sh K = some r) : ∃ v sh', K v sh' = some r ∧ FnOk (E26 N).P 8 args sh v sh' := by
  unfold laws_FnExactQuaternionTable.en at h
  split at h
  · exact fn_ok hE (kp := laws_FnExactQuaternionTable.kp) (N := N) Go.Proofs.Try.func8 (c := laws_FnExactQuaternionTable.bd) (by kernel_rfl) ((laws_FnExactQuaternionTable.eq N _ ).trans h)
  · cases h

noncomputable def E27 (N : Nat) : Env := (E26 N).add 8 (laws_FnExactQuaternionTable.en N)

theorem E27_ok (N : Nat) : EnvOk (E27 N) ents := Env.add_ok (E26_ok N) (laws_FnExactQuaternionTable.en_ok N (E26_ok N))
end Go.Proofs.Ytdlhegdigcdffaa.H
