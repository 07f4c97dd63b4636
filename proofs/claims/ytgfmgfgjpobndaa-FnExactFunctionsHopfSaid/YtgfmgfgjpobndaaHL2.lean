/- The program computes these functions. -/
import Derived.Test.YtgfmgfgjpobndaaHL1
namespace Go.Proofs.Ytgfmgfgjpobndaa.H
set_option linter.unusedVariables false
set_option linter.unusedSimpArgs false
open Go Go.RowKit Go.Proofs.Ytgfmgfgjpobndaa.Hy
set_option linter.unusedVariables false
set_option maxRecDepth 100000
noncomputable def impl_isRows_sh.kp : Keeps := ⟨[(0, [3, 11, 12, 13], [], [])], [(0, [], [], [])], []⟩

noncomputable def impl_isRows_sh.bd : Code := bodyOf Go.Proofs.Try.f35

noncomputable def impl_isRows_sh.fin {ρ : Type} (N : Nat) (K : AV → Heap → Option ρ) (gv2 : Nat) (gv3 : Nat) (gv4 : Nat → Nat) (gv5 : Nat → Nat) (gv6 : Nat → Nat) (gv7 : Nat → Int) : XE → St → Option ρ := finK (E18 N) impl_isRows_sh.kp.fins Go.Proofs.Try.f35 [⟨false, .hdr 1 gv2 gv3 gv4 gv5 (some gv6)⟩, ⟨false, .flat 0 (.ints .i64 gv7)⟩] K

noncomputable def impl_isRows_sh.k0 {ρ : Type} (N : Nat) (K : AV → Heap → Option ρ) (gv2 : Nat) (gv3 : Nat) (gv4 : Nat → Nat) (gv5 : Nat → Nat) (gv6 : Nat → Nat) (gv7 : Nat → Int) : XE → St → Option ρ := (blockK impl_isRows_sh.kp 2 0 (seqK (xcode (E18 N) ents impl_isRows_sh.kp 2 N (cB (cB (cB (cB impl_isRows_sh.bd)))) 0) (impl_isRows_sh.fin N K gv2 gv3 gv4 gv5 gv6 gv7)))

theorem impl_isRows_sh.k0_mix {ρ : Type} (N : Nat) (K : AV → Heap → Option ρ) (gv2 : Nat) (gv3 : Nat) (gv4 : Nat → Nat) (gv5 : Nat → Nat) (gv6 : Nat → Nat) (gv7 : Nat → Int) : mixK (impl_isRows_sh.fin N K gv2 gv3 gv4 gv5 gv6 gv7 .ret) (impl_isRows_sh.k0 N K gv2 gv3 gv4 gv5 gv6 gv7) = (impl_isRows_sh.k0 N K gv2 gv3 gv4 gv5 gv6 gv7) := by
  funext e s; cases e <;> kernel_rfl

noncomputable def impl_isRows_sh.st0 (table0 : Nat) (table1 : Nat) (gv2 : Nat) (gv3 : Nat) (gv4 : Nat → Nat) (gv5 : Nat → Nat) (gv6 : Nat → Nat) (gv7 : Nat → Int) (x9 : Int) : St := ⟨sl 27 [(3, .sptr [(2, 1)]), (11, .slice true 0 0 table0 (.exact table1) 1), (12, .int .i64 ((table0 : Int))), (13, .int .i64 (x9))], [⟨false, .hdr 1 gv2 gv3 gv4 gv5 (some gv6)⟩, ⟨false, .flat 0 (.ints .i64 gv7)⟩, ⟨true, .flat 1 (.ints .i64 (fun _ => (table0 : Int)))⟩]⟩

noncomputable def impl_isRows_sh.sx0_0 (gv2 : Nat) (gv3 : Nat) (gv4 : Nat → Nat) (gv5 : Nat → Nat) (gv6 : Nat → Nat) (gv7 : Nat → Int) : St := ⟨sl 27 [], [⟨false, .hdr 1 gv2 gv3 gv4 gv5 (some gv6)⟩, ⟨false, .flat 0 (.ints .i64 gv7)⟩]⟩

theorem impl_isRows_sh.b0_gen {ρ : Type} (N : Nat) (K : AV → Heap → Option ρ) (L0 : St → Option ρ) (kv : XE → St → Option ρ) (table0 : Nat) (table1 : Nat) (gv2 : Nat) (gv3 : Nat) (gv4 : Nat → Nat) (gv5 : Nat → Nat) (gv6 : Nat → Nat) (gv7 : Nat → Int) (x9 : Int) :
    xcode (E18 N) ents impl_isRows_sh.kp 2 N (cL (cK (cB (cA (cB (cB (cB impl_isRows_sh.bd))))))) 0 (impl_isRows_sh.st0 table0 table1 gv2 gv3 gv4 gv5 gv6 gv7 x9) (roundK impl_isRows_sh.kp 2 0 L0 (mixK (impl_isRows_sh.fin N K gv2 gv3 gv4 gv5 gv6 gv7 .ret) kv)) = (impl_isRows_sh.b0 N (fun d0 => K (.bool (d0)) [⟨false, .hdr 1 gv2 gv3 gv4 gv5 (some gv6)⟩, ⟨false, .flat 0 (.ints .i64 gv7)⟩]) (fun x9 => L0 (impl_isRows_sh.st0 table0 table1 gv2 gv3 gv4 gv5 gv6 gv7 x9)) (kv (.exit 0) (impl_isRows_sh.sx0_0 gv2 gv3 gv4 gv5 gv6 gv7)) table0 gv4 gv5 gv6 gv7 x9) := by kernel_rfl

theorem impl_isRows_sh.b0_eq {ρ : Type} (N : Nat) (K : AV → Heap → Option ρ) (L0 : St → Option ρ) (table0 : Nat) (table1 : Nat) (gv2 : Nat) (gv3 : Nat) (gv4 : Nat → Nat) (gv5 : Nat → Nat) (gv6 : Nat → Nat) (gv7 : Nat → Int) (x9 : Int) :
    xcode (E18 N) ents impl_isRows_sh.kp 2 N (cL (cK (cB (cA (cB (cB (cB impl_isRows_sh.bd))))))) 0 (impl_isRows_sh.st0 table0 table1 gv2 gv3 gv4 gv5 gv6 gv7 x9) (roundK impl_isRows_sh.kp 2 0 L0 (impl_isRows_sh.k0 N K gv2 gv3 gv4 gv5 gv6 gv7)) = (impl_isRows_sh.b0 N (fun d0 => K (.bool (d0)) [⟨false, .hdr 1 gv2 gv3 gv4 gv5 (some gv6)⟩, ⟨false, .flat 0 (.ints .i64 gv7)⟩]) (fun x9 => L0 (impl_isRows_sh.st0 table0 table1 gv2 gv3 gv4 gv5 gv6 gv7 x9)) ((impl_isRows_sh.k0 N K gv2 gv3 gv4 gv5 gv6 gv7) (.exit 0) (impl_isRows_sh.sx0_0 gv2 gv3 gv4 gv5 gv6 gv7)) table0 gv4 gv5 gv6 gv7 x9) := by
  have h := impl_isRows_sh.b0_gen N K L0 (impl_isRows_sh.k0 N K gv2 gv3 gv4 gv5 gv6 gv7) table0 table1 gv2 gv3 gv4 gv5 gv6 gv7 x9
  rw [impl_isRows_sh.k0_mix] at h
  exact h

theorem impl_isRows_sh.a0_0_eq {ρ : Type} (N : Nat) (K : AV → Heap → Option ρ) (gv2 : Nat) (gv3 : Nat) (gv4 : Nat → Nat) (gv5 : Nat → Nat) (gv6 : Nat → Nat) (gv7 : Nat → Int) :
    (impl_isRows_sh.k0 N K gv2 gv3 gv4 gv5 gv6 gv7) (.exit 0) (impl_isRows_sh.sx0_0 gv2 gv3 gv4 gv5 gv6 gv7) = (impl_isRows_sh.a0_0 N (fun d0 => K (.bool (d0)) [⟨false, .hdr 1 gv2 gv3 gv4 gv5 (some gv6)⟩, ⟨false, .flat 0 (.ints .i64 gv7)⟩])) := by kernel_rfl

theorem impl_isRows_sh.l0_eq {ρ : Type} (N : Nat) (K : AV → Heap → Option ρ) (table0 : Nat) (table1 : Nat) (gv2 : Nat) (gv3 : Nat) (gv4 : Nat → Nat) (gv5 : Nat → Nat) (gv6 : Nat → Nat) (gv7 : Nat → Int) :
    ∀ (m : Nat) (x9 : Int), xloop (xcode (E18 N) ents impl_isRows_sh.kp 2 N (cL (cK (cB (cA (cB (cB (cB impl_isRows_sh.bd))))))) 0) impl_isRows_sh.kp 2 0 m (impl_isRows_sh.st0 table0 table1 gv2 gv3 gv4 gv5 gv6 gv7 x9) (impl_isRows_sh.k0 N K gv2 gv3 gv4 gv5 gv6 gv7) = (impl_isRows_sh.l0 N (fun d0 => K (.bool (d0)) [⟨false, .hdr 1 gv2 gv3 gv4 gv5 (some gv6)⟩, ⟨false, .flat 0 (.ints .i64 gv7)⟩]) table0 gv4 gv5 gv6 gv7 ((impl_isRows_sh.k0 N K gv2 gv3 gv4 gv5 gv6 gv7) (.exit 0) (impl_isRows_sh.sx0_0 gv2 gv3 gv4 gv5 gv6 gv7)) m x9) := by
  intro m
  induction m with
  | zero => intros; rfl
  | succ m ih =>
    intro x9
    refine (impl_isRows_sh.b0_eq N K (fun s => xloop (xcode (E18 N) ents impl_isRows_sh.kp 2 N (cL (cK (cB (cA (cB (cB (cB impl_isRows_sh.bd))))))) 0) impl_isRows_sh.kp 2 0 m s (impl_isRows_sh.k0 N K gv2 gv3 gv4 gv5 gv6 gv7)) table0 table1 gv2 gv3 gv4 gv5 gv6 gv7 x9).trans ?_
    simp only [ih]
    kernel_rfl

theorem impl_isRows_sh.s_eq {ρ : Type} (N : Nat) (K : AV → Heap → Option ρ) (table0 : Nat) (table1 : Nat) (gv2 : Nat) (gv3 : Nat) (gv4 : Nat → Nat) (gv5 : Nat → Nat) (gv6 : Nat → Nat) (gv7 : Nat → Int) :
    xbody (E18 N) ents impl_isRows_sh.kp N Go.Proofs.Try.f35 impl_isRows_sh.bd [.slice true 0 0 table0 (.exact table1) 1] [⟨false, .hdr 1 gv2 gv3 gv4 gv5 (some gv6)⟩, ⟨false, .flat 0 (.ints .i64 gv7)⟩] K = (impl_isRows_sh.s N (fun d0 => K (.bool (d0)) [⟨false, .hdr 1 gv2 gv3 gv4 gv5 (some gv6)⟩, ⟨false, .flat 0 (.ints .i64 gv7)⟩]) (fun x9 => xloop (xcode (E18 N) ents impl_isRows_sh.kp 2 N (cL (cK (cB (cA (cB (cB (cB impl_isRows_sh.bd))))))) 0) impl_isRows_sh.kp 2 0 N (impl_isRows_sh.st0 table0 table1 gv2 gv3 gv4 gv5 gv6 gv7 x9) (impl_isRows_sh.k0 N K gv2 gv3 gv4 gv5 gv6 gv7)) table0) := by kernel_rfl

theorem impl_isRows_sh.eq {ρ : Type} (N : Nat) (K : AV → Heap → Option ρ) (table0 : Nat) (table1 : Nat) (gv2 : Nat) (gv3 : Nat) (gv4 : Nat → Nat) (gv5 : Nat → Nat) (gv6 : Nat → Nat) (gv7 : Nat → Int) :
    xbody (E18 N) ents impl_isRows_sh.kp N Go.Proofs.Try.f35 impl_isRows_sh.bd [.slice true 0 0 table0 (.exact table1) 1] [⟨false, .hdr 1 gv2 gv3 gv4 gv5 (some gv6)⟩, ⟨false, .flat 0 (.ints .i64 gv7)⟩] K = (impl_isRows_sh N (fun d0 => K (.bool (d0)) [⟨false, .hdr 1 gv2 gv3 gv4 gv5 (some gv6)⟩, ⟨false, .flat 0 (.ints .i64 gv7)⟩]) table0 table1 gv2 gv3 gv4 gv5 gv6 gv7) := by
  refine (impl_isRows_sh.s_eq N K table0 table1 gv2 gv3 gv4 gv5 gv6 gv7).trans ?_
  simp only [impl_isRows_sh.l0_eq, impl_isRows_sh.a0_0_eq]
  kernel_rfl

noncomputable def impl_isRows_n.kp : Keeps := ⟨[(0, [3, 11, 12, 13], [], [])], [(0, [], [], [])], []⟩

noncomputable def impl_isRows_n.bd : Code := bodyOf Go.Proofs.Try.f35

noncomputable def impl_isRows_n.fin {ρ : Type} (N : Nat) (K : AV → Heap → Option ρ) : XE → St → Option ρ := finK (E18 N) impl_isRows_n.kp.fins Go.Proofs.Try.f35 [] K

noncomputable def impl_isRows_n.k0 {ρ : Type} (N : Nat) (K : AV → Heap → Option ρ) : XE → St → Option ρ := (blockK impl_isRows_n.kp 0 0 (seqK (xcode (E18 N) ents impl_isRows_n.kp 0 N (cB (cB (cB (cB impl_isRows_n.bd)))) 0) (impl_isRows_n.fin N K)))

theorem impl_isRows_n.k0_mix {ρ : Type} (N : Nat) (K : AV → Heap → Option ρ) : mixK (impl_isRows_n.fin N K .ret) (impl_isRows_n.k0 N K) = (impl_isRows_n.k0 N K) := by
  funext e s; cases e <;> kernel_rfl

noncomputable def impl_isRows_n.st0 : St := ⟨sl 27 [(3, .sptr [(0, 1)]), (11, .nils), (12, .int .i64 0), (13, .int .i64 0)], [⟨true, .flat 1 (.ints .i64 (fun _ => 0))⟩]⟩

noncomputable def impl_isRows_n.sx0_0 : St := ⟨sl 27 [], []⟩

theorem impl_isRows_n.b0_gen {ρ : Type} (N : Nat) (K : AV → Heap → Option ρ) (L0 : St → Option ρ) (kv : XE → St → Option ρ) :
    xcode (E18 N) ents impl_isRows_n.kp 0 N (cL (cK (cB (cA (cB (cB (cB impl_isRows_n.bd))))))) 0 (impl_isRows_n.st0) (roundK impl_isRows_n.kp 0 0 L0 (mixK (impl_isRows_n.fin N K .ret) kv)) = (impl_isRows_n.b0 N (fun d0 => K (.bool (d0)) []) (L0 (impl_isRows_n.st0)) (kv (.exit 0) (impl_isRows_n.sx0_0))) := by kernel_rfl

theorem impl_isRows_n.b0_eq {ρ : Type} (N : Nat) (K : AV → Heap → Option ρ) (L0 : St → Option ρ) :
    xcode (E18 N) ents impl_isRows_n.kp 0 N (cL (cK (cB (cA (cB (cB (cB impl_isRows_n.bd))))))) 0 (impl_isRows_n.st0) (roundK impl_isRows_n.kp 0 0 L0 (impl_isRows_n.k0 N K)) = (impl_isRows_n.b0 N (fun d0 => K (.bool (d0)) []) (L0 (impl_isRows_n.st0)) ((impl_isRows_n.k0 N K) (.exit 0) (impl_isRows_n.sx0_0))) := by
  have h := impl_isRows_n.b0_gen N K L0 (impl_isRows_n.k0 N K) 
  rw [impl_isRows_n.k0_mix] at h
  exact h

theorem impl_isRows_n.a0_0_eq {ρ : Type} (N : Nat) (K : AV → Heap → Option ρ) :
    (impl_isRows_n.k0 N K) (.exit 0) (impl_isRows_n.sx0_0) = (impl_isRows_n.a0_0 N (fun d0 => K (.bool (d0)) [])) := by kernel_rfl

theorem impl_isRows_n.l0_eq {ρ : Type} (N : Nat) (K : AV → Heap → Option ρ) :
    ∀ (m : Nat), xloop (xcode (E18 N) ents impl_isRows_n.kp 0 N (cL (cK (cB (cA (cB (cB (cB impl_isRows_n.bd))))))) 0) impl_isRows_n.kp 0 0 m (impl_isRows_n.st0) (impl_isRows_n.k0 N K) = (impl_isRows_n.l0 N (fun d0 => K (.bool (d0)) []) ((impl_isRows_n.k0 N K) (.exit 0) (impl_isRows_n.sx0_0)) m) := by
  intro m
  induction m with
  | zero => intros; rfl
  | succ m ih =>
    refine (impl_isRows_n.b0_eq N K (fun s => xloop (xcode (E18 N) ents impl_isRows_n.kp 0 N (cL (cK (cB (cA (cB (cB (cB impl_isRows_n.bd))))))) 0) impl_isRows_n.kp 0 0 m s (impl_isRows_n.k0 N K)) ).trans ?_
    simp only [ih]
    kernel_rfl

theorem impl_isRows_n.s_eq {ρ : Type} (N : Nat) (K : AV → Heap → Option ρ) :
    xbody (E18 N) ents impl_isRows_n.kp N Go.Proofs.Try.f35 impl_isRows_n.bd [.nils] [] K = (impl_isRows_n.s N (fun d0 => K (.bool (d0)) []) (xloop (xcode (E18 N) ents impl_isRows_n.kp 0 N (cL (cK (cB (cA (cB (cB (cB impl_isRows_n.bd))))))) 0) impl_isRows_n.kp 0 0 N (impl_isRows_n.st0) (impl_isRows_n.k0 N K))) := by kernel_rfl

theorem impl_isRows_n.eq {ρ : Type} (N : Nat) (K : AV → Heap → Option ρ) :
    xbody (E18 N) ents impl_isRows_n.kp N Go.Proofs.Try.f35 impl_isRows_n.bd [.nils] [] K = (impl_isRows_n N (fun d0 => K (.bool (d0)) [])) := by
  refine (impl_isRows_n.s_eq N K ).trans ?_
  simp only [impl_isRows_n.l0_eq, impl_isRows_n.a0_0_eq]
  kernel_rfl

noncomputable def impl_isRows_sh.en (N : Nat) (ρ : Type) : List AV → Heap → (AV → Heap → Option ρ) → Option ρ
  | [.slice true 0 0 table0 (.exact table1) 1], [⟨false, .hdr 1 gv2 gv3 gv4 gv5 (some gv6)⟩, ⟨false, .flat 0 (.ints .i64 gv7)⟩], K => (impl_isRows_sh N (fun d0 => K (.bool (d0)) [⟨false, .hdr 1 gv2 gv3 gv4 gv5 (some gv6)⟩, ⟨false, .flat 0 (.ints .i64 gv7)⟩]) table0 table1 gv2 gv3 gv4 gv5 gv6 gv7)
  | [.nils], [], K => (impl_isRows_n N (fun d0 => K (.bool (d0)) []))
  | _, _, _ => none

theorem impl_isRows_sh.en_ok (N : Nat) (hE : EnvOk (E18 N) ents) (ρ : Type) (args : List AV) (sh : Heap) (K : AV → Heap → Option ρ) (r : ρ) (h : impl_isRows_sh.en N ρ args sh K = some r) : ∃ v sh', K v sh' = some r ∧ FnOk (E18 N).P 35 args sh v sh' := by
  unfold impl_isRows_sh.en at h
  split at h
  · exact fn_ok hE (kp := impl_isRows_sh.kp) (N := N) Go.Proofs.Try.func35 (c := impl_isRows_sh.bd) (by kernel_rfl) ((impl_isRows_sh.eq N _ _ _ _ _ _ _ _ _).trans h)
  · exact fn_ok hE (kp := impl_isRows_n.kp) (N := N) Go.Proofs.Try.func35 (c := impl_isRows_n.bd) (by kernel_rfl) ((impl_isRows_n.eq N _ ).trans h)
  · cases h

noncomputable def E19 (N : Nat) : Env := (E18 N).add 35 (impl_isRows_sh.en N)

theorem E19_ok (N : Nat) : EnvOk (E19 N) ents := Env.add_ok (E18_ok N) (impl_isRows_sh.en_ok N (E18_ok N))

noncomputable def impl_inverseIn_sh.kp : Keeps := ⟨[(0, [0, 1, 7, 8], [], [])], [(0, [], [], [])], []⟩

noncomputable def impl_inverseIn_sh.bd : Code := bodyOf Go.Proofs.Try.f38

noncomputable def impl_inverseIn_sh.fin {ρ : Type} (N : Nat) (K : AV → Heap → Option ρ) (gv3 : Nat) (gv4 : Nat) (gv5 : Nat → Nat) (gv6 : Nat → Nat) (gv7 : Nat → Nat) (gv8 : Nat → Int) : XE → St → Option ρ := finK (E19 N) impl_inverseIn_sh.kp.fins Go.Proofs.Try.f38 [⟨false, .hdr 1 gv3 gv4 gv5 gv6 (some gv7)⟩, ⟨false, .flat 0 (.ints .i64 gv8)⟩] K

noncomputable def impl_inverseIn_sh.k0 {ρ : Type} (N : Nat) (K : AV → Heap → Option ρ) (gv3 : Nat) (gv4 : Nat) (gv5 : Nat → Nat) (gv6 : Nat → Nat) (gv7 : Nat → Nat) (gv8 : Nat → Int) : XE → St → Option ρ := (blockK impl_inverseIn_sh.kp 2 0 (seqK (xcode (E19 N) ents impl_inverseIn_sh.kp 2 N (cB (cB impl_inverseIn_sh.bd)) 0) (impl_inverseIn_sh.fin N K gv3 gv4 gv5 gv6 gv7 gv8)))

theorem impl_inverseIn_sh.k0_mix {ρ : Type} (N : Nat) (K : AV → Heap → Option ρ) (gv3 : Nat) (gv4 : Nat) (gv5 : Nat → Nat) (gv6 : Nat → Nat) (gv7 : Nat → Nat) (gv8 : Nat → Int) : mixK (impl_inverseIn_sh.fin N K gv3 gv4 gv5 gv6 gv7 gv8 .ret) (impl_inverseIn_sh.k0 N K gv3 gv4 gv5 gv6 gv7 gv8) = (impl_inverseIn_sh.k0 N K gv3 gv4 gv5 gv6 gv7 gv8) := by
  funext e s; cases e <;> kernel_rfl

noncomputable def impl_inverseIn_sh.st0 (table0 : Nat) (table1 : Nat) (i2 : Int) (gv3 : Nat) (gv4 : Nat) (gv5 : Nat → Nat) (gv6 : Nat → Nat) (gv7 : Nat → Nat) (gv8 : Nat → Int) (x9 : Int) : St := ⟨sl 31 [(0, .slice true 0 0 table0 (.exact table1) 1), (1, .int .i64 (i2)), (7, .int .i64 ((table0 : Int))), (8, .int .i64 (x9))], [⟨false, .hdr 1 gv3 gv4 gv5 gv6 (some gv7)⟩, ⟨false, .flat 0 (.ints .i64 gv8)⟩]⟩

noncomputable def impl_inverseIn_sh.sx0_0 (gv3 : Nat) (gv4 : Nat) (gv5 : Nat → Nat) (gv6 : Nat → Nat) (gv7 : Nat → Nat) (gv8 : Nat → Int) : St := ⟨sl 31 [], [⟨false, .hdr 1 gv3 gv4 gv5 gv6 (some gv7)⟩, ⟨false, .flat 0 (.ints .i64 gv8)⟩]⟩

theorem impl_inverseIn_sh.b0_gen {ρ : Type} (N : Nat) (K : AV → Heap → Option ρ) (L0 : St → Option ρ) (kv : XE → St → Option ρ) (table0 : Nat) (table1 : Nat) (i2 : Int) (gv3 : Nat) (gv4 : Nat) (gv5 : Nat → Nat) (gv6 : Nat → Nat) (gv7 : Nat → Nat) (gv8 : Nat → Int) (x9 : Int) :
    xcode (E19 N) ents impl_inverseIn_sh.kp 2 N (cL (cK (cB (cA (cB impl_inverseIn_sh.bd))))) 0 (impl_inverseIn_sh.st0 table0 table1 i2 gv3 gv4 gv5 gv6 gv7 gv8 x9) (roundK impl_inverseIn_sh.kp 2 0 L0 (mixK (impl_inverseIn_sh.fin N K gv3 gv4 gv5 gv6 gv7 gv8 .ret) kv)) = (impl_inverseIn_sh.b0 N (fun d0 => K (.int .i64 (d0)) [⟨false, .hdr 1 gv3 gv4 gv5 gv6 (some gv7)⟩, ⟨false, .flat 0 (.ints .i64 gv8)⟩]) (fun x9 => L0 (impl_inverseIn_sh.st0 table0 table1 i2 gv3 gv4 gv5 gv6 gv7 gv8 x9)) (kv (.exit 0) (impl_inverseIn_sh.sx0_0 gv3 gv4 gv5 gv6 gv7 gv8)) table0 i2 gv5 gv6 gv8 x9) := by kernel_rfl

theorem impl_inverseIn_sh.b0_eq {ρ : Type} (N : Nat) (K : AV → Heap → Option ρ) (L0 : St → Option ρ) (table0 : Nat) (table1 : Nat) (i2 : Int) (gv3 : Nat) (gv4 : Nat) (gv5 : Nat → Nat) (gv6 : Nat → Nat) (gv7 : Nat → Nat) (gv8 : Nat → Int) (x9 : Int) :
    xcode (E19 N) ents impl_inverseIn_sh.kp 2 N (cL (cK (cB (cA (cB impl_inverseIn_sh.bd))))) 0 (impl_inverseIn_sh.st0 table0 table1 i2 gv3 gv4 gv5 gv6 gv7 gv8 x9) (roundK impl_inverseIn_sh.kp 2 0 L0 (impl_inverseIn_sh.k0 N K gv3 gv4 gv5 gv6 gv7 gv8)) = (impl_inverseIn_sh.b0 N (fun d0 => K (.int .i64 (d0)) [⟨false, .hdr 1 gv3 gv4 gv5 gv6 (some gv7)⟩, ⟨false, .flat 0 (.ints .i64 gv8)⟩]) (fun x9 => L0 (impl_inverseIn_sh.st0 table0 table1 i2 gv3 gv4 gv5 gv6 gv7 gv8 x9)) ((impl_inverseIn_sh.k0 N K gv3 gv4 gv5 gv6 gv7 gv8) (.exit 0) (impl_inverseIn_sh.sx0_0 gv3 gv4 gv5 gv6 gv7 gv8)) table0 i2 gv5 gv6 gv8 x9) := by
  have h := impl_inverseIn_sh.b0_gen N K L0 (impl_inverseIn_sh.k0 N K gv3 gv4 gv5 gv6 gv7 gv8) table0 table1 i2 gv3 gv4 gv5 gv6 gv7 gv8 x9
  rw [impl_inverseIn_sh.k0_mix] at h
  exact h

theorem impl_inverseIn_sh.a0_0_eq {ρ : Type} (N : Nat) (K : AV → Heap → Option ρ) (gv3 : Nat) (gv4 : Nat) (gv5 : Nat → Nat) (gv6 : Nat → Nat) (gv7 : Nat → Nat) (gv8 : Nat → Int) :
    (impl_inverseIn_sh.k0 N K gv3 gv4 gv5 gv6 gv7 gv8) (.exit 0) (impl_inverseIn_sh.sx0_0 gv3 gv4 gv5 gv6 gv7 gv8) = (impl_inverseIn_sh.a0_0 N (fun d0 => K (.int .i64 (d0)) [⟨false, .hdr 1 gv3 gv4 gv5 gv6 (some gv7)⟩, ⟨false, .flat 0 (.ints .i64 gv8)⟩])) := by kernel_rfl

theorem impl_inverseIn_sh.l0_eq {ρ : Type} (N : Nat) (K : AV → Heap → Option ρ) (table0 : Nat) (table1 : Nat) (i2 : Int) (gv3 : Nat) (gv4 : Nat) (gv5 : Nat → Nat) (gv6 : Nat → Nat) (gv7 : Nat → Nat) (gv8 : Nat → Int) :
    ∀ (m : Nat) (x9 : Int), xloop (xcode (E19 N) ents impl_inverseIn_sh.kp 2 N (cL (cK (cB (cA (cB impl_inverseIn_sh.bd))))) 0) impl_inverseIn_sh.kp 2 0 m (impl_inverseIn_sh.st0 table0 table1 i2 gv3 gv4 gv5 gv6 gv7 gv8 x9) (impl_inverseIn_sh.k0 N K gv3 gv4 gv5 gv6 gv7 gv8) = (impl_inverseIn_sh.l0 N (fun d0 => K (.int .i64 (d0)) [⟨false, .hdr 1 gv3 gv4 gv5 gv6 (some gv7)⟩, ⟨false, .flat 0 (.ints .i64 gv8)⟩]) table0 i2 gv5 gv6 gv8 ((impl_inverseIn_sh.k0 N K gv3 gv4 gv5 gv6 gv7 gv8) (.exit 0) (impl_inverseIn_sh.sx0_0 gv3 gv4 gv5 gv6 gv7 gv8)) m x9) := by
  intro m
  induction m with
  | zero => intros; rfl
  | succ m ih =>
    intro x9
    refine (impl_inverseIn_sh.b0_eq N K (fun s => xloop (xcode (E19 N) ents impl_inverseIn_sh.kp 2 N (cL (cK (cB (cA (cB impl_inverseIn_sh.bd))))) 0) impl_inverseIn_sh.kp 2 0 m s (impl_inverseIn_sh.k0 N K gv3 gv4 gv5 gv6 gv7 gv8)) table0 table1 i2 gv3 gv4 gv5 gv6 gv7 gv8 x9).trans ?_
    simp only [ih]
    kernel_rfl

theorem impl_inverseIn_sh.s_eq {ρ : Type} (N : Nat) (K : AV → Heap → Option ρ) (table0 : Nat) (table1 : Nat) (i2 : Int) (gv3 : Nat) (gv4 : Nat) (gv5 : Nat → Nat) (gv6 : Nat → Nat) (gv7 : Nat → Nat) (gv8 : Nat → Int) :
    xbody (E19 N) ents impl_inverseIn_sh.kp N Go.Proofs.Try.f38 impl_inverseIn_sh.bd [.slice true 0 0 table0 (.exact table1) 1, .int .i64 (i2)] [⟨false, .hdr 1 gv3 gv4 gv5 gv6 (some gv7)⟩, ⟨false, .flat 0 (.ints .i64 gv8)⟩] K = (impl_inverseIn_sh.s N (fun d0 => K (.int .i64 (d0)) [⟨false, .hdr 1 gv3 gv4 gv5 gv6 (some gv7)⟩, ⟨false, .flat 0 (.ints .i64 gv8)⟩]) (fun x9 => xloop (xcode (E19 N) ents impl_inverseIn_sh.kp 2 N (cL (cK (cB (cA (cB impl_inverseIn_sh.bd))))) 0) impl_inverseIn_sh.kp 2 0 N (impl_inverseIn_sh.st0 table0 table1 i2 gv3 gv4 gv5 gv6 gv7 gv8 x9) (impl_inverseIn_sh.k0 N K gv3 gv4 gv5 gv6 gv7 gv8))) := by kernel_rfl

theorem impl_inverseIn_sh.eq {ρ : Type} (N : Nat) (K : AV → Heap → Option ρ) (table0 : Nat) (table1 : Nat) (i2 : Int) (gv3 : Nat) (gv4 : Nat) (gv5 : Nat → Nat) (gv6 : Nat → Nat) (gv7 : Nat → Nat) (gv8 : Nat → Int) :
    xbody (E19 N) ents impl_inverseIn_sh.kp N Go.Proofs.Try.f38 impl_inverseIn_sh.bd [.slice true 0 0 table0 (.exact table1) 1, .int .i64 (i2)] [⟨false, .hdr 1 gv3 gv4 gv5 gv6 (some gv7)⟩, ⟨false, .flat 0 (.ints .i64 gv8)⟩] K = (impl_inverseIn_sh N (fun d0 => K (.int .i64 (d0)) [⟨false, .hdr 1 gv3 gv4 gv5 gv6 (some gv7)⟩, ⟨false, .flat 0 (.ints .i64 gv8)⟩]) table0 table1 i2 gv3 gv4 gv5 gv6 gv7 gv8) := by
  refine (impl_inverseIn_sh.s_eq N K table0 table1 i2 gv3 gv4 gv5 gv6 gv7 gv8).trans ?_
  simp only [impl_inverseIn_sh.l0_eq, impl_inverseIn_sh.a0_0_eq]
  kernel_rfl

noncomputable def impl_inverseIn_sh.en (N : Nat) (ρ : Type) : List AV → Heap → (AV → Heap → Option ρ) → Option ρ
  | [.slice true 0 0 table0 (.exact table1) 1, .int .i64 (i2)], [⟨false, .hdr 1 gv3 gv4 gv5 gv6 (some gv7)⟩, ⟨false, .flat 0 (.ints .i64 gv8)⟩], K => (impl_inverseIn_sh N (fun d0 => K (.int .i64 (d0)) [⟨false, .hdr 1 gv3 gv4 gv5 gv6 (some gv7)⟩, ⟨false, .flat 0 (.ints .i64 gv8)⟩]) table0 table1 i2 gv3 gv4 gv5 gv6 gv7 gv8)
  | _, _, _ => none

theorem impl_inverseIn_sh.en_ok (N : Nat) (hE : EnvOk (E19 N) ents) (ρ : Type) (args : List AV) (sh : Heap) (K : AV → Heap → Option ρ) (r : ρ) (h : impl_inverseIn_sh.en N ρ args sh K = some r) : ∃ v sh', K v sh' = some r ∧ FnOk (E19 N).P 38 args sh v sh' := by
  unfold impl_inverseIn_sh.en at h
  split at h
  · exact fn_ok hE (kp := impl_inverseIn_sh.kp) (N := N) Go.Proofs.Try.func38 (c := impl_inverseIn_sh.bd) (by kernel_rfl) ((impl_inverseIn_sh.eq N _ _ _ _ _ _ _ _ _ _).trans h)
  · cases h

noncomputable def E20 (N : Nat) : Env := (E19 N).add 38 (impl_inverseIn_sh.en N)

theorem E20_ok (N : Nat) : EnvOk (E20 N) ents := Env.add_ok (E19_ok N) (impl_inverseIn_sh.en_ok N (E19_ok N))

noncomputable def impl_isGroupAt_sh.kp : Keeps := ⟨[(0, [0, 1, 26, 27], [], []), (2, [0, 1, 5, 26, 27, 31, 32], [], [])], [(0, [0, 1], [], []), (2, [0, 1, 26, 27], [], [])], []⟩

noncomputable def impl_isGroupAt_sh.bd : Code := bodyOf Go.Proofs.Try.f36

noncomputable def impl_isGroupAt_sh.fin {ρ : Type} (N : Nat) (K : AV → Heap → Option ρ) (gv3 : Nat) (gv4 : Nat) (gv5 : Nat → Nat) (gv6 : Nat → Nat) (gv7 : Nat → Nat) (gv8 : Nat → Int) : XE → St → Option ρ := finK (E20 N) impl_isGroupAt_sh.kp.fins Go.Proofs.Try.f36 [⟨false, .hdr 1 gv3 gv4 gv5 gv6 (some gv7)⟩, ⟨false, .flat 0 (.ints .i64 gv8)⟩] K

noncomputable def impl_isGroupAt_sh.k0 {ρ : Type} (N : Nat) (K : AV → Heap → Option ρ) (gv3 : Nat) (gv4 : Nat) (gv5 : Nat → Nat) (gv6 : Nat → Nat) (gv7 : Nat → Nat) (gv8 : Nat → Int) : XE → St → Option ρ := (blockK impl_isGroupAt_sh.kp 2 0 (seqK (xcode (E20 N) ents impl_isGroupAt_sh.kp 2 N (cB (cB (cB impl_isGroupAt_sh.bd))) 0) (impl_isGroupAt_sh.fin N K gv3 gv4 gv5 gv6 gv7 gv8)))

theorem impl_isGroupAt_sh.k0_mix {ρ : Type} (N : Nat) (K : AV → Heap → Option ρ) (gv3 : Nat) (gv4 : Nat) (gv5 : Nat → Nat) (gv6 : Nat → Nat) (gv7 : Nat → Nat) (gv8 : Nat → Int) : mixK (impl_isGroupAt_sh.fin N K gv3 gv4 gv5 gv6 gv7 gv8 .ret) (impl_isGroupAt_sh.k0 N K gv3 gv4 gv5 gv6 gv7 gv8) = (impl_isGroupAt_sh.k0 N K gv3 gv4 gv5 gv6 gv7 gv8) := by
  funext e s; cases e <;> kernel_rfl

noncomputable def impl_isGroupAt_sh.st0 (table0 : Nat) (table1 : Nat) (i2 : Int) (gv3 : Nat) (gv4 : Nat) (gv5 : Nat → Nat) (gv6 : Nat → Nat) (gv7 : Nat → Nat) (gv8 : Nat → Int) (x9 : Int) : St := ⟨sl 68 [(0, .slice true 0 0 table0 (.exact table1) 1), (1, .int .i64 (i2)), (26, .int .i64 ((table0 : Int))), (27, .int .i64 (x9))], [⟨false, .hdr 1 gv3 gv4 gv5 gv6 (some gv7)⟩, ⟨false, .flat 0 (.ints .i64 gv8)⟩]⟩

noncomputable def impl_isGroupAt_sh.sx0_0 (table0 : Nat) (table1 : Nat) (i2 : Int) (gv3 : Nat) (gv4 : Nat) (gv5 : Nat → Nat) (gv6 : Nat → Nat) (gv7 : Nat → Nat) (gv8 : Nat → Int) : St := ⟨sl 68 [(0, .slice true 0 0 table0 (.exact table1) 1), (1, .int .i64 (i2))], [⟨false, .hdr 1 gv3 gv4 gv5 gv6 (some gv7)⟩, ⟨false, .flat 0 (.ints .i64 gv8)⟩]⟩

noncomputable def impl_isGroupAt_sh.k1g {ρ : Type} (N : Nat) (L0 : St → Option ρ) (kv : XE → St → Option ρ) : XE → St → Option ρ := (blockK impl_isGroupAt_sh.kp 2 2 (blockK impl_isGroupAt_sh.kp 2 1 (seqK (xcode (E20 N) ents impl_isGroupAt_sh.kp 2 N (cB (cB (cB (cL (cK (cB (cA (cB (cB impl_isGroupAt_sh.bd))))))))) 0) (roundK impl_isGroupAt_sh.kp 2 0 L0 kv))))

theorem impl_isGroupAt_sh.k1_mix {ρ : Type} (N : Nat) (K : AV → Heap → Option ρ) (L0 : St → Option ρ) (gv3 : Nat) (gv4 : Nat) (gv5 : Nat → Nat) (gv6 : Nat → Nat) (gv7 : Nat → Nat) (gv8 : Nat → Int) : mixK (impl_isGroupAt_sh.fin N K gv3 gv4 gv5 gv6 gv7 gv8 .ret) (impl_isGroupAt_sh.k1g N L0 (impl_isGroupAt_sh.k0 N K gv3 gv4 gv5 gv6 gv7 gv8)) = (impl_isGroupAt_sh.k1g N L0 (impl_isGroupAt_sh.k0 N K gv3 gv4 gv5 gv6 gv7 gv8)) := by
  funext e s; cases e <;> kernel_rfl

noncomputable def impl_isGroupAt_sh.st1 (table0 : Nat) (table1 : Nat) (i2 : Int) (gv3 : Nat) (gv4 : Nat) (gv5 : Nat → Nat) (gv6 : Nat → Nat) (gv7 : Nat → Nat) (gv8 : Nat → Int) (x9 : Int) (x10 : Int) : St := ⟨sl 68 [(0, .slice true 0 0 table0 (.exact table1) 1), (1, .int .i64 (i2)), (5, .int .i64 (x9)), (26, .int .i64 ((table0 : Int))), (27, .int .i64 (x9)), (31, .int .i64 ((table0 : Int))), (32, .int .i64 (x10))], [⟨false, .hdr 1 gv3 gv4 gv5 gv6 (some gv7)⟩, ⟨false, .flat 0 (.ints .i64 gv8)⟩]⟩

noncomputable def impl_isGroupAt_sh.sx1_0 (table0 : Nat) (table1 : Nat) (i2 : Int) (gv3 : Nat) (gv4 : Nat) (gv5 : Nat → Nat) (gv6 : Nat → Nat) (gv7 : Nat → Nat) (gv8 : Nat → Int) (x9 : Int) : St := ⟨sl 68 [(0, .slice true 0 0 table0 (.exact table1) 1), (1, .int .i64 (i2)), (26, .int .i64 ((table0 : Int))), (27, .int .i64 (x9))], [⟨false, .hdr 1 gv3 gv4 gv5 gv6 (some gv7)⟩, ⟨false, .flat 0 (.ints .i64 gv8)⟩]⟩

theorem impl_isGroupAt_sh.b1_gen {ρ : Type} (N : Nat) (K : AV → Heap → Option ρ) (L1 : St → Option ρ) (kv : XE → St → Option ρ) (table0 : Nat) (table1 : Nat) (i2 : Int) (gv3 : Nat) (gv4 : Nat) (gv5 : Nat → Nat) (gv6 : Nat → Nat) (gv7 : Nat → Nat) (gv8 : Nat → Int) (x9 : Int) (x10 : Int) :
    xcode (E20 N) ents impl_isGroupAt_sh.kp 2 N (cL (cK (cB (cB (cK (cA (cB (cB (cL (cK (cB (cA (cB (cB impl_isGroupAt_sh.bd)))))))))))))) 2 (impl_isGroupAt_sh.st1 table0 table1 i2 gv3 gv4 gv5 gv6 gv7 gv8 x9 x10) (roundK impl_isGroupAt_sh.kp 2 2 L1 (mixK (impl_isGroupAt_sh.fin N K gv3 gv4 gv5 gv6 gv7 gv8 .ret) kv)) = (impl_isGroupAt_sh.b1 N (fun d0 => K (.bool (d0)) [⟨false, .hdr 1 gv3 gv4 gv5 gv6 (some gv7)⟩, ⟨false, .flat 0 (.ints .i64 gv8)⟩]) (fun x10 => L1 (impl_isGroupAt_sh.st1 table0 table1 i2 gv3 gv4 gv5 gv6 gv7 gv8 x9 x10)) (kv (.exit 2) (impl_isGroupAt_sh.sx1_0 table0 table1 i2 gv3 gv4 gv5 gv6 gv7 gv8 x9)) table0 i2 gv5 gv6 gv8 x9 x10) := by kernel_rfl

theorem impl_isGroupAt_sh.b1_eq {ρ : Type} (N : Nat) (K : AV → Heap → Option ρ) (L0 : St → Option ρ) (L1 : St → Option ρ) (table0 : Nat) (table1 : Nat) (i2 : Int) (gv3 : Nat) (gv4 : Nat) (gv5 : Nat → Nat) (gv6 : Nat → Nat) (gv7 : Nat → Nat) (gv8 : Nat → Int) (x9 : Int) (x10 : Int) :
    xcode (E20 N) ents impl_isGroupAt_sh.kp 2 N (cL (cK (cB (cB (cK (cA (cB (cB (cL (cK (cB (cA (cB (cB impl_isGroupAt_sh.bd)))))))))))))) 2 (impl_isGroupAt_sh.st1 table0 table1 i2 gv3 gv4 gv5 gv6 gv7 gv8 x9 x10) (roundK impl_isGroupAt_sh.kp 2 2 L1 (impl_isGroupAt_sh.k1g N L0 (impl_isGroupAt_sh.k0 N K gv3 gv4 gv5 gv6 gv7 gv8))) = (impl_isGroupAt_sh.b1 N (fun d0 => K (.bool (d0)) [⟨false, .hdr 1 gv3 gv4 gv5 gv6 (some gv7)⟩, ⟨false, .flat 0 (.ints .i64 gv8)⟩]) (fun x10 => L1 (impl_isGroupAt_sh.st1 table0 table1 i2 gv3 gv4 gv5 gv6 gv7 gv8 x9 x10)) ((impl_isGroupAt_sh.k1g N L0 (impl_isGroupAt_sh.k0 N K gv3 gv4 gv5 gv6 gv7 gv8)) (.exit 2) (impl_isGroupAt_sh.sx1_0 table0 table1 i2 gv3 gv4 gv5 gv6 gv7 gv8 x9)) table0 i2 gv5 gv6 gv8 x9 x10) := by
  have h := impl_isGroupAt_sh.b1_gen N K L1 (impl_isGroupAt_sh.k1g N L0 (impl_isGroupAt_sh.k0 N K gv3 gv4 gv5 gv6 gv7 gv8)) table0 table1 i2 gv3 gv4 gv5 gv6 gv7 gv8 x9 x10
  rw [impl_isGroupAt_sh.k1_mix] at h
  exact h

theorem impl_isGroupAt_sh.a1_0_gen {ρ : Type} (N : Nat) (K : AV → Heap → Option ρ) (L0 : St → Option ρ) (kv : XE → St → Option ρ) (table0 : Nat) (table1 : Nat) (i2 : Int) (gv3 : Nat) (gv4 : Nat) (gv5 : Nat → Nat) (gv6 : Nat → Nat) (gv7 : Nat → Nat) (gv8 : Nat → Int) (x9 : Int) :
    (impl_isGroupAt_sh.k1g N L0 (mixK (impl_isGroupAt_sh.fin N K gv3 gv4 gv5 gv6 gv7 gv8 .ret) kv)) (.exit 2) (impl_isGroupAt_sh.sx1_0 table0 table1 i2 gv3 gv4 gv5 gv6 gv7 gv8 x9) = (impl_isGroupAt_sh.a1_0 N (fun d0 => K (.bool (d0)) [⟨false, .hdr 1 gv3 gv4 gv5 gv6 (some gv7)⟩, ⟨false, .flat 0 (.ints .i64 gv8)⟩]) (fun x9 => L0 (impl_isGroupAt_sh.st0 table0 table1 i2 gv3 gv4 gv5 gv6 gv7 gv8 x9)) (kv (.exit 0) (impl_isGroupAt_sh.sx0_0 table0 table1 i2 gv3 gv4 gv5 gv6 gv7 gv8)) x9) := by kernel_rfl

theorem impl_isGroupAt_sh.a1_0_eq {ρ : Type} (N : Nat) (K : AV → Heap → Option ρ) (L0 : St → Option ρ) (table0 : Nat) (table1 : Nat) (i2 : Int) (gv3 : Nat) (gv4 : Nat) (gv5 : Nat → Nat) (gv6 : Nat → Nat) (gv7 : Nat → Nat) (gv8 : Nat → Int) (x9 : Int) :
    (impl_isGroupAt_sh.k1g N L0 (impl_isGroupAt_sh.k0 N K gv3 gv4 gv5 gv6 gv7 gv8)) (.exit 2) (impl_isGroupAt_sh.sx1_0 table0 table1 i2 gv3 gv4 gv5 gv6 gv7 gv8 x9) = (impl_isGroupAt_sh.a1_0 N (fun d0 => K (.bool (d0)) [⟨false, .hdr 1 gv3 gv4 gv5 gv6 (some gv7)⟩, ⟨false, .flat 0 (.ints .i64 gv8)⟩]) (fun x9 => L0 (impl_isGroupAt_sh.st0 table0 table1 i2 gv3 gv4 gv5 gv6 gv7 gv8 x9)) ((impl_isGroupAt_sh.k0 N K gv3 gv4 gv5 gv6 gv7 gv8) (.exit 0) (impl_isGroupAt_sh.sx0_0 table0 table1 i2 gv3 gv4 gv5 gv6 gv7 gv8)) x9) := by
  have h := impl_isGroupAt_sh.a1_0_gen N K L0 (impl_isGroupAt_sh.k0 N K gv3 gv4 gv5 gv6 gv7 gv8) table0 table1 i2 gv3 gv4 gv5 gv6 gv7 gv8 x9
  rw [impl_isGroupAt_sh.k0_mix] at h
  exact h

theorem impl_isGroupAt_sh.b0_gen {ρ : Type} (N : Nat) (K : AV → Heap → Option ρ) (L0 : St → Option ρ) (kv : XE → St → Option ρ) (table0 : Nat) (table1 : Nat) (i2 : Int) (gv3 : Nat) (gv4 : Nat) (gv5 : Nat → Nat) (gv6 : Nat → Nat) (gv7 : Nat → Nat) (gv8 : Nat → Int) (x9 : Int) :
    xcode (E20 N) ents impl_isGroupAt_sh.kp 2 N (cL (cK (cB (cA (cB (cB impl_isGroupAt_sh.bd)))))) 0 (impl_isGroupAt_sh.st0 table0 table1 i2 gv3 gv4 gv5 gv6 gv7 gv8 x9) (roundK impl_isGroupAt_sh.kp 2 0 L0 (mixK (impl_isGroupAt_sh.fin N K gv3 gv4 gv5 gv6 gv7 gv8 .ret) kv)) = (impl_isGroupAt_sh.b0 N (fun d0 => K (.bool (d0)) [⟨false, .hdr 1 gv3 gv4 gv5 gv6 (some gv7)⟩, ⟨false, .flat 0 (.ints .i64 gv8)⟩]) (fun x10 => xloop (xcode (E20 N) ents impl_isGroupAt_sh.kp 2 N (cL (cK (cB (cB (cK (cA (cB (cB (cL (cK (cB (cA (cB (cB impl_isGroupAt_sh.bd)))))))))))))) 2) impl_isGroupAt_sh.kp 2 2 N (impl_isGroupAt_sh.st1 table0 table1 i2 gv3 gv4 gv5 gv6 gv7 gv8 x9 x10) (impl_isGroupAt_sh.k1g N L0 (mixK (impl_isGroupAt_sh.fin N K gv3 gv4 gv5 gv6 gv7 gv8 .ret) kv))) (fun x9 => L0 (impl_isGroupAt_sh.st0 table0 table1 i2 gv3 gv4 gv5 gv6 gv7 gv8 x9)) (kv (.exit 0) (impl_isGroupAt_sh.sx0_0 table0 table1 i2 gv3 gv4 gv5 gv6 gv7 gv8)) table0 x9) := by kernel_rfl

theorem impl_isGroupAt_sh.b0_eq {ρ : Type} (N : Nat) (K : AV → Heap → Option ρ) (L0 : St → Option ρ) (table0 : Nat) (table1 : Nat) (i2 : Int) (gv3 : Nat) (gv4 : Nat) (gv5 : Nat → Nat) (gv6 : Nat → Nat) (gv7 : Nat → Nat) (gv8 : Nat → Int) (x9 : Int) :
    xcode (E20 N) ents impl_isGroupAt_sh.kp 2 N (cL (cK (cB (cA (cB (cB impl_isGroupAt_sh.bd)))))) 0 (impl_isGroupAt_sh.st0 table0 table1 i2 gv3 gv4 gv5 gv6 gv7 gv8 x9) (roundK impl_isGroupAt_sh.kp 2 0 L0 (impl_isGroupAt_sh.k0 N K gv3 gv4 gv5 gv6 gv7 gv8)) = (impl_isGroupAt_sh.b0 N (fun d0 => K (.bool (d0)) [⟨false, .hdr 1 gv3 gv4 gv5 gv6 (some gv7)⟩, ⟨false, .flat 0 (.ints .i64 gv8)⟩]) (fun x10 => xloop (xcode (E20 N) ents impl_isGroupAt_sh.kp 2 N (cL (cK (cB (cB (cK (cA (cB (cB (cL (cK (cB (cA (cB (cB impl_isGroupAt_sh.bd)))))))))))))) 2) impl_isGroupAt_sh.kp 2 2 N (impl_isGroupAt_sh.st1 table0 table1 i2 gv3 gv4 gv5 gv6 gv7 gv8 x9 x10) (impl_isGroupAt_sh.k1g N L0 (impl_isGroupAt_sh.k0 N K gv3 gv4 gv5 gv6 gv7 gv8))) (fun x9 => L0 (impl_isGroupAt_sh.st0 table0 table1 i2 gv3 gv4 gv5 gv6 gv7 gv8 x9)) ((impl_isGroupAt_sh.k0 N K gv3 gv4 gv5 gv6 gv7 gv8) (.exit 0) (impl_isGroupAt_sh.sx0_0 table0 table1 i2 gv3 gv4 gv5 gv6 gv7 gv8)) table0 x9) := by
  have h := impl_isGroupAt_sh.b0_gen N K L0 (impl_isGroupAt_sh.k0 N K gv3 gv4 gv5 gv6 gv7 gv8) table0 table1 i2 gv3 gv4 gv5 gv6 gv7 gv8 x9
  rw [impl_isGroupAt_sh.k0_mix] at h
  exact h

theorem impl_isGroupAt_sh.a0_0_eq {ρ : Type} (N : Nat) (K : AV → Heap → Option ρ) (table0 : Nat) (table1 : Nat) (i2 : Int) (gv3 : Nat) (gv4 : Nat) (gv5 : Nat → Nat) (gv6 : Nat → Nat) (gv7 : Nat → Nat) (gv8 : Nat → Int) :
    (impl_isGroupAt_sh.k0 N K gv3 gv4 gv5 gv6 gv7 gv8) (.exit 0) (impl_isGroupAt_sh.sx0_0 table0 table1 i2 gv3 gv4 gv5 gv6 gv7 gv8) = (impl_isGroupAt_sh.a0_0 N (fun d0 => K (.bool (d0)) [⟨false, .hdr 1 gv3 gv4 gv5 gv6 (some gv7)⟩, ⟨false, .flat 0 (.ints .i64 gv8)⟩]) table0 table1 i2 gv4 gv5 gv6 gv7 gv8) := by kernel_rfl

theorem impl_isGroupAt_sh.l1_eq {ρ : Type} (N : Nat) (K : AV → Heap → Option ρ) (L0 : St → Option ρ) (table0 : Nat) (table1 : Nat) (i2 : Int) (gv3 : Nat) (gv4 : Nat) (gv5 : Nat → Nat) (gv6 : Nat → Nat) (gv7 : Nat → Nat) (gv8 : Nat → Int) (x9 : Int) :
    ∀ (m : Nat) (x10 : Int), xloop (xcode (E20 N) ents impl_isGroupAt_sh.kp 2 N (cL (cK (cB (cB (cK (cA (cB (cB (cL (cK (cB (cA (cB (cB impl_isGroupAt_sh.bd)))))))))))))) 2) impl_isGroupAt_sh.kp 2 2 m (impl_isGroupAt_sh.st1 table0 table1 i2 gv3 gv4 gv5 gv6 gv7 gv8 x9 x10) (impl_isGroupAt_sh.k1g N L0 (impl_isGroupAt_sh.k0 N K gv3 gv4 gv5 gv6 gv7 gv8)) = (impl_isGroupAt_sh.l1 N (fun d0 => K (.bool (d0)) [⟨false, .hdr 1 gv3 gv4 gv5 gv6 (some gv7)⟩, ⟨false, .flat 0 (.ints .i64 gv8)⟩]) table0 i2 gv5 gv6 gv8 x9 ((impl_isGroupAt_sh.k1g N L0 (impl_isGroupAt_sh.k0 N K gv3 gv4 gv5 gv6 gv7 gv8)) (.exit 2) (impl_isGroupAt_sh.sx1_0 table0 table1 i2 gv3 gv4 gv5 gv6 gv7 gv8 x9)) m x10) := by
  intro m
  induction m with
  | zero => intros; rfl
  | succ m ih =>
    intro x10
    refine (impl_isGroupAt_sh.b1_eq N K L0 (fun s => xloop (xcode (E20 N) ents impl_isGroupAt_sh.kp 2 N (cL (cK (cB (cB (cK (cA (cB (cB (cL (cK (cB (cA (cB (cB impl_isGroupAt_sh.bd)))))))))))))) 2) impl_isGroupAt_sh.kp 2 2 m s (impl_isGroupAt_sh.k1g N L0 (impl_isGroupAt_sh.k0 N K gv3 gv4 gv5 gv6 gv7 gv8))) table0 table1 i2 gv3 gv4 gv5 gv6 gv7 gv8 x9 x10).trans ?_
    simp only [ih]
    kernel_rfl

theorem impl_isGroupAt_sh.l0_eq {ρ : Type} (N : Nat) (K : AV → Heap → Option ρ) (table0 : Nat) (table1 : Nat) (i2 : Int) (gv3 : Nat) (gv4 : Nat) (gv5 : Nat → Nat) (gv6 : Nat → Nat) (gv7 : Nat → Nat) (gv8 : Nat → Int) :
    ∀ (m : Nat) (x9 : Int), xloop (xcode (E20 N) ents impl_isGroupAt_sh.kp 2 N (cL (cK (cB (cA (cB (cB impl_isGroupAt_sh.bd)))))) 0) impl_isGroupAt_sh.kp 2 0 m (impl_isGroupAt_sh.st0 table0 table1 i2 gv3 gv4 gv5 gv6 gv7 gv8 x9) (impl_isGroupAt_sh.k0 N K gv3 gv4 gv5 gv6 gv7 gv8) = (impl_isGroupAt_sh.l0 N (fun d0 => K (.bool (d0)) [⟨false, .hdr 1 gv3 gv4 gv5 gv6 (some gv7)⟩, ⟨false, .flat 0 (.ints .i64 gv8)⟩]) table0 i2 gv5 gv6 gv8 ((impl_isGroupAt_sh.k0 N K gv3 gv4 gv5 gv6 gv7 gv8) (.exit 0) (impl_isGroupAt_sh.sx0_0 table0 table1 i2 gv3 gv4 gv5 gv6 gv7 gv8)) m x9) := by
  intro m
  induction m with
  | zero => intros; rfl
  | succ m ih =>
    intro x9
    refine (impl_isGroupAt_sh.b0_eq N K (fun s => xloop (xcode (E20 N) ents impl_isGroupAt_sh.kp 2 N (cL (cK (cB (cA (cB (cB impl_isGroupAt_sh.bd)))))) 0) impl_isGroupAt_sh.kp 2 0 m s (impl_isGroupAt_sh.k0 N K gv3 gv4 gv5 gv6 gv7 gv8)) table0 table1 i2 gv3 gv4 gv5 gv6 gv7 gv8 x9).trans ?_
    simp only [ih, impl_isGroupAt_sh.l1_eq, impl_isGroupAt_sh.a1_0_eq]
    kernel_rfl

theorem impl_isGroupAt_sh.s_eq {ρ : Type} (N : Nat) (K : AV → Heap → Option ρ) (table0 : Nat) (table1 : Nat) (i2 : Int) (gv3 : Nat) (gv4 : Nat) (gv5 : Nat → Nat) (gv6 : Nat → Nat) (gv7 : Nat → Nat) (gv8 : Nat → Int) :
    xbody (E20 N) ents impl_isGroupAt_sh.kp N Go.Proofs.Try.f36 impl_isGroupAt_sh.bd [.slice true 0 0 table0 (.exact table1) 1, .int .i64 (i2)] [⟨false, .hdr 1 gv3 gv4 gv5 gv6 (some gv7)⟩, ⟨false, .flat 0 (.ints .i64 gv8)⟩] K = (impl_isGroupAt_sh.s N (fun d0 => K (.bool (d0)) [⟨false, .hdr 1 gv3 gv4 gv5 gv6 (some gv7)⟩, ⟨false, .flat 0 (.ints .i64 gv8)⟩]) (fun x9 => xloop (xcode (E20 N) ents impl_isGroupAt_sh.kp 2 N (cL (cK (cB (cA (cB (cB impl_isGroupAt_sh.bd)))))) 0) impl_isGroupAt_sh.kp 2 0 N (impl_isGroupAt_sh.st0 table0 table1 i2 gv3 gv4 gv5 gv6 gv7 gv8 x9) (impl_isGroupAt_sh.k0 N K gv3 gv4 gv5 gv6 gv7 gv8)) table0 i2 gv5 gv6 gv8) := by kernel_rfl

theorem impl_isGroupAt_sh.eq {ρ : Type} (N : Nat) (K : AV → Heap → Option ρ) (table0 : Nat) (table1 : Nat) (i2 : Int) (gv3 : Nat) (gv4 : Nat) (gv5 : Nat → Nat) (gv6 : Nat → Nat) (gv7 : Nat → Nat) (gv8 : Nat → Int) :
    xbody (E20 N) ents impl_isGroupAt_sh.kp N Go.Proofs.Try.f36 impl_isGroupAt_sh.bd [.slice true 0 0 table0 (.exact table1) 1, .int .i64 (i2)] [⟨false, .hdr 1 gv3 gv4 gv5 gv6 (some gv7)⟩, ⟨false, .flat 0 (.ints .i64 gv8)⟩] K = (impl_isGroupAt_sh N (fun d0 => K (.bool (d0)) [⟨false, .hdr 1 gv3 gv4 gv5 gv6 (some gv7)⟩, ⟨false, .flat 0 (.ints .i64 gv8)⟩]) table0 table1 i2 gv3 gv4 gv5 gv6 gv7 gv8) := by
  refine (impl_isGroupAt_sh.s_eq N K table0 table1 i2 gv3 gv4 gv5 gv6 gv7 gv8).trans ?_
  simp only [impl_isGroupAt_sh.l0_eq, impl_isGroupAt_sh.a0_0_eq]
  kernel_rfl

noncomputable def impl_isGroupAt_sh.en (N : Nat) (ρ : Type) : List AV → Heap → (AV → Heap → Option ρ) → Option ρ
  | [.slice true 0 0 table0 (.exact table1) 1, .int .i64 (i2)], [⟨false, .hdr 1 gv3 gv4 gv5 gv6 (some gv7)⟩, ⟨false, .flat 0 (.ints .i64 gv8)⟩], K => (impl_isGroupAt_sh N (fun d0 => K (.bool (d0)) [⟨false, .hdr 1 gv3 gv4 gv5 gv6 (some gv7)⟩, ⟨false, .flat 0 (.ints .i64 gv8)⟩]) table0 table1 i2 gv3 gv4 gv5 gv6 gv7 gv8)
  | _, _, _ => none

theorem impl_isGroupAt_sh.en_ok (N : Nat) (hE : EnvOk (E20 N) ents) (ρ : Type) (args : List AV) (sh : Heap) (K : AV → Heap → Option ρ) (r : ρ) (h : impl_isGroupAt_sh.en N ρ args sh K = some r) : ∃ v sh', K v sh' = some r ∧ FnOk (E20 N).P 36 args sh v sh' := by
  unfold impl_isGroupAt_sh.en at h
  split at h
  · exact fn_ok hE (kp := impl_isGroupAt_sh.kp) (N := N) Go.Proofs.Try.func36 (c := impl_isGroupAt_sh.bd) (by kernel_rfl) ((impl_isGroupAt_sh.eq N _ _ _ _ _ _ _ _ _ _).trans h)
  · cases h

noncomputable def E21 (N : Nat) : Env := (E20 N).add 36 (impl_isGroupAt_sh.en N)

theorem E21_ok (N : Nat) : EnvOk (E21 N) ents := Env.add_ok (E20_ok N) (impl_isGroupAt_sh.en_ok N (E20_ok N))

noncomputable def impl_IsGroupTable_sh.kp : Keeps := ⟨[(0, [0, 8, 9], [], [])], [(0, [], [], [])], []⟩

noncomputable def impl_IsGroupTable_sh.bd : Code := bodyOf Go.Proofs.Try.f28

noncomputable def impl_IsGroupTable_sh.fin {ρ : Type} (N : Nat) (K : AV → Heap → Option ρ) (gv2 : Nat) (gv3 : Nat) (gv4 : Nat → Nat) (gv5 : Nat → Nat) (gv6 : Nat → Nat) (gv7 : Nat → Int) : XE → St → Option ρ := finK (E21 N) impl_IsGroupTable_sh.kp.fins Go.Proofs.Try.f28 [⟨false, .hdr 1 gv2 gv3 gv4 gv5 (some gv6)⟩, ⟨false, .flat 0 (.ints .i64 gv7)⟩] K

noncomputable def impl_IsGroupTable_sh.k0 {ρ : Type} (N : Nat) (K : AV → Heap → Option ρ) (gv2 : Nat) (gv3 : Nat) (gv4 : Nat → Nat) (gv5 : Nat → Nat) (gv6 : Nat → Nat) (gv7 : Nat → Int) : XE → St → Option ρ := (blockK impl_IsGroupTable_sh.kp 2 0 (seqK (xcode (E21 N) ents impl_IsGroupTable_sh.kp 2 N (cB (cB (cB impl_IsGroupTable_sh.bd))) 0) (impl_IsGroupTable_sh.fin N K gv2 gv3 gv4 gv5 gv6 gv7)))

theorem impl_IsGroupTable_sh.k0_mix {ρ : Type} (N : Nat) (K : AV → Heap → Option ρ) (gv2 : Nat) (gv3 : Nat) (gv4 : Nat → Nat) (gv5 : Nat → Nat) (gv6 : Nat → Nat) (gv7 : Nat → Int) : mixK (impl_IsGroupTable_sh.fin N K gv2 gv3 gv4 gv5 gv6 gv7 .ret) (impl_IsGroupTable_sh.k0 N K gv2 gv3 gv4 gv5 gv6 gv7) = (impl_IsGroupTable_sh.k0 N K gv2 gv3 gv4 gv5 gv6 gv7) := by
  funext e s; cases e <;> kernel_rfl

noncomputable def impl_IsGroupTable_sh.st0 (table0 : Nat) (table1 : Nat) (gv2 : Nat) (gv3 : Nat) (gv4 : Nat → Nat) (gv5 : Nat → Nat) (gv6 : Nat → Nat) (gv7 : Nat → Int) (x9 : Int) : St := ⟨sl 17 [(0, .slice true 0 0 table0 (.exact table1) 1), (8, .int .i64 ((table0 : Int))), (9, .int .i64 (x9))], [⟨false, .hdr 1 gv2 gv3 gv4 gv5 (some gv6)⟩, ⟨false, .flat 0 (.ints .i64 gv7)⟩]⟩

noncomputable def impl_IsGroupTable_sh.sx0_0 (gv2 : Nat) (gv3 : Nat) (gv4 : Nat → Nat) (gv5 : Nat → Nat) (gv6 : Nat → Nat) (gv7 : Nat → Int) : St := ⟨sl 17 [], [⟨false, .hdr 1 gv2 gv3 gv4 gv5 (some gv6)⟩, ⟨false, .flat 0 (.ints .i64 gv7)⟩]⟩

theorem impl_IsGroupTable_sh.b0_gen {ρ : Type} (N : Nat) (K : AV → Heap → Option ρ) (L0 : St → Option ρ) (kv : XE → St → Option ρ) (table0 : Nat) (table1 : Nat) (gv2 : Nat) (gv3 : Nat) (gv4 : Nat → Nat) (gv5 : Nat → Nat) (gv6 : Nat → Nat) (gv7 : Nat → Int) (x9 : Int) :
    xcode (E21 N) ents impl_IsGroupTable_sh.kp 2 N (cL (cK (cB (cA (cB (cB impl_IsGroupTable_sh.bd)))))) 0 (impl_IsGroupTable_sh.st0 table0 table1 gv2 gv3 gv4 gv5 gv6 gv7 x9) (roundK impl_IsGroupTable_sh.kp 2 0 L0 (mixK (impl_IsGroupTable_sh.fin N K gv2 gv3 gv4 gv5 gv6 gv7 .ret) kv)) = (impl_IsGroupTable_sh.b0 N (fun d0 => K (.bool (d0)) [⟨false, .hdr 1 gv2 gv3 gv4 gv5 (some gv6)⟩, ⟨false, .flat 0 (.ints .i64 gv7)⟩]) (fun x9 => L0 (impl_IsGroupTable_sh.st0 table0 table1 gv2 gv3 gv4 gv5 gv6 gv7 x9)) (kv (.exit 0) (impl_IsGroupTable_sh.sx0_0 gv2 gv3 gv4 gv5 gv6 gv7)) table0 table1 gv3 gv4 gv5 gv6 gv7 x9) := by kernel_rfl

theorem impl_IsGroupTable_sh.b0_eq {ρ : Type} (N : Nat) (K : AV → Heap → Option ρ) (L0 : St → Option ρ) (table0 : Nat) (table1 : Nat) (gv2 : Nat) (gv3 : Nat) (gv4 : Nat → Nat) (gv5 : Nat → Nat) (gv6 : Nat → Nat) (gv7 : Nat → Int) (x9 : Int) :
    xcode (E21 N) ents impl_IsGroupTable_sh.kp 2 N (cL (cK (cB (cA (cB (cB impl_IsGroupTable_sh.bd)))))) 0 (impl_IsGroupTable_sh.st0 table0 table1 gv2 gv3 gv4 gv5 gv6 gv7 x9) (roundK impl_IsGroupTable_sh.kp 2 0 L0 (impl_IsGroupTable_sh.k0 N K gv2 gv3 gv4 gv5 gv6 gv7)) = (impl_IsGroupTable_sh.b0 N (fun d0 => K (.bool (d0)) [⟨false, .hdr 1 gv2 gv3 gv4 gv5 (some gv6)⟩, ⟨false, .flat 0 (.ints .i64 gv7)⟩]) (fun x9 => L0 (impl_IsGroupTable_sh.st0 table0 table1 gv2 gv3 gv4 gv5 gv6 gv7 x9)) ((impl_IsGroupTable_sh.k0 N K gv2 gv3 gv4 gv5 gv6 gv7) (.exit 0) (impl_IsGroupTable_sh.sx0_0 gv2 gv3 gv4 gv5 gv6 gv7)) table0 table1 gv3 gv4 gv5 gv6 gv7 x9) := by
  have h := impl_IsGroupTable_sh.b0_gen N K L0 (impl_IsGroupTable_sh.k0 N K gv2 gv3 gv4 gv5 gv6 gv7) table0 table1 gv2 gv3 gv4 gv5 gv6 gv7 x9
  rw [impl_IsGroupTable_sh.k0_mix] at h
  exact h

theorem impl_IsGroupTable_sh.a0_0_eq {ρ : Type} (N : Nat) (K : AV → Heap → Option ρ) (gv2 : Nat) (gv3 : Nat) (gv4 : Nat → Nat) (gv5 : Nat → Nat) (gv6 : Nat → Nat) (gv7 : Nat → Int) :
    (impl_IsGroupTable_sh.k0 N K gv2 gv3 gv4 gv5 gv6 gv7) (.exit 0) (impl_IsGroupTable_sh.sx0_0 gv2 gv3 gv4 gv5 gv6 gv7) = (impl_IsGroupTable_sh.a0_0 N (fun d0 => K (.bool (d0)) [⟨false, .hdr 1 gv2 gv3 gv4 gv5 (some gv6)⟩, ⟨false, .flat 0 (.ints .i64 gv7)⟩])) := by kernel_rfl

theorem impl_IsGroupTable_sh.l0_eq {ρ : Type} (N : Nat) (K : AV → Heap → Option ρ) (table0 : Nat) (table1 : Nat) (gv2 : Nat) (gv3 : Nat) (gv4 : Nat → Nat) (gv5 : Nat → Nat) (gv6 : Nat → Nat) (gv7 : Nat → Int) :
    ∀ (m : Nat) (x9 : Int), xloop (xcode (E21 N) ents impl_IsGroupTable_sh.kp 2 N (cL (cK (cB (cA (cB (cB impl_IsGroupTable_sh.bd)))))) 0) impl_IsGroupTable_sh.kp 2 0 m (impl_IsGroupTable_sh.st0 table0 table1 gv2 gv3 gv4 gv5 gv6 gv7 x9) (impl_IsGroupTable_sh.k0 N K gv2 gv3 gv4 gv5 gv6 gv7) = (impl_IsGroupTable_sh.l0 N (fun d0 => K (.bool (d0)) [⟨false, .hdr 1 gv2 gv3 gv4 gv5 (some gv6)⟩, ⟨false, .flat 0 (.ints .i64 gv7)⟩]) table0 table1 gv3 gv4 gv5 gv6 gv7 ((impl_IsGroupTable_sh.k0 N K gv2 gv3 gv4 gv5 gv6 gv7) (.exit 0) (impl_IsGroupTable_sh.sx0_0 gv2 gv3 gv4 gv5 gv6 gv7)) m x9) := by
  intro m
  induction m with
  | zero => intros; rfl
  | succ m ih =>
    intro x9
    refine (impl_IsGroupTable_sh.b0_eq N K (fun s => xloop (xcode (E21 N) ents impl_IsGroupTable_sh.kp 2 N (cL (cK (cB (cA (cB (cB impl_IsGroupTable_sh.bd)))))) 0) impl_IsGroupTable_sh.kp 2 0 m s (impl_IsGroupTable_sh.k0 N K gv2 gv3 gv4 gv5 gv6 gv7)) table0 table1 gv2 gv3 gv4 gv5 gv6 gv7 x9).trans ?_
    simp only [ih]
    kernel_rfl

theorem impl_IsGroupTable_sh.s_eq {ρ : Type} (N : Nat) (K : AV → Heap → Option ρ) (table0 : Nat) (table1 : Nat) (gv2 : Nat) (gv3 : Nat) (gv4 : Nat → Nat) (gv5 : Nat → Nat) (gv6 : Nat → Nat) (gv7 : Nat → Int) :
    xbody (E21 N) ents impl_IsGroupTable_sh.kp N Go.Proofs.Try.f28 impl_IsGroupTable_sh.bd [.slice true 0 0 table0 (.exact table1) 1] [⟨false, .hdr 1 gv2 gv3 gv4 gv5 (some gv6)⟩, ⟨false, .flat 0 (.ints .i64 gv7)⟩] K = (impl_IsGroupTable_sh.s N (fun d0 => K (.bool (d0)) [⟨false, .hdr 1 gv2 gv3 gv4 gv5 (some gv6)⟩, ⟨false, .flat 0 (.ints .i64 gv7)⟩]) (fun x9 => xloop (xcode (E21 N) ents impl_IsGroupTable_sh.kp 2 N (cL (cK (cB (cA (cB (cB impl_IsGroupTable_sh.bd)))))) 0) impl_IsGroupTable_sh.kp 2 0 N (impl_IsGroupTable_sh.st0 table0 table1 gv2 gv3 gv4 gv5 gv6 gv7 x9) (impl_IsGroupTable_sh.k0 N K gv2 gv3 gv4 gv5 gv6 gv7)) table0 table1 gv3 gv4 gv5 gv6 gv7) := by kernel_rfl

theorem impl_IsGroupTable_sh.eq {ρ : Type} (N : Nat) (K : AV → Heap → Option ρ) (table0 : Nat) (table1 : Nat) (gv2 : Nat) (gv3 : Nat) (gv4 : Nat → Nat) (gv5 : Nat → Nat) (gv6 : Nat → Nat) (gv7 : Nat → Int) :
    xbody (E21 N) ents impl_IsGroupTable_sh.kp N Go.Proofs.Try.f28 impl_IsGroupTable_sh.bd [.slice true 0 0 table0 (.exact table1) 1] [⟨false, .hdr 1 gv2 gv3 gv4 gv5 (some gv6)⟩, ⟨false, .flat 0 (.ints .i64 gv7)⟩] K = (impl_IsGroupTable_sh N (fun d0 => K (.bool (d0)) [⟨false, .hdr 1 gv2 gv3 gv4 gv5 (some gv6)⟩, ⟨false, .flat 0 (.ints .i64 gv7)⟩]) table0 table1 gv2 gv3 gv4 gv5 gv6 gv7) := by
  refine (impl_IsGroupTable_sh.s_eq N K table0 table1 gv2 gv3 gv4 gv5 gv6 gv7).trans ?_
  simp only [impl_IsGroupTable_sh.l0_eq, impl_IsGroupTable_sh.a0_0_eq]
  kernel_rfl

noncomputable def impl_IsGroupTable_n.kp : Keeps := ⟨[(0, [0, 8, 9], [], [])], [(0, [], [], [])], []⟩

noncomputable def impl_IsGroupTable_n.bd : Code := bodyOf Go.Proofs.Try.f28

noncomputable def impl_IsGroupTable_n.fin {ρ : Type} (N : Nat) (K : AV → Heap → Option ρ) : XE → St → Option ρ := finK (E21 N) impl_IsGroupTable_n.kp.fins Go.Proofs.Try.f28 [] K

noncomputable def impl_IsGroupTable_n.k0 {ρ : Type} (N : Nat) (K : AV → Heap → Option ρ) : XE → St → Option ρ := (blockK impl_IsGroupTable_n.kp 0 0 (seqK (xcode (E21 N) ents impl_IsGroupTable_n.kp 0 N (cB (cB (cB impl_IsGroupTable_n.bd))) 0) (impl_IsGroupTable_n.fin N K)))

theorem impl_IsGroupTable_n.k0_mix {ρ : Type} (N : Nat) (K : AV → Heap → Option ρ) : mixK (impl_IsGroupTable_n.fin N K .ret) (impl_IsGroupTable_n.k0 N K) = (impl_IsGroupTable_n.k0 N K) := by
  funext e s; cases e <;> kernel_rfl

noncomputable def impl_IsGroupTable_n.st0 : St := ⟨sl 17 [(0, .nils), (8, .int .i64 0), (9, .int .i64 0)], []⟩

noncomputable def impl_IsGroupTable_n.sx0_0 : St := ⟨sl 17 [], []⟩

theorem impl_IsGroupTable_n.b0_gen {ρ : Type} (N : Nat) (K : AV → Heap → Option ρ) (L0 : St → Option ρ) (kv : XE → St → Option ρ) :
    xcode (E21 N) ents impl_IsGroupTable_n.kp 0 N (cL (cK (cB (cA (cB (cB impl_IsGroupTable_n.bd)))))) 0 (impl_IsGroupTable_n.st0) (roundK impl_IsGroupTable_n.kp 0 0 L0 (mixK (impl_IsGroupTable_n.fin N K .ret) kv)) = (impl_IsGroupTable_n.b0 N (fun d0 => K (.bool (d0)) []) (L0 (impl_IsGroupTable_n.st0)) (kv (.exit 0) (impl_IsGroupTable_n.sx0_0))) := by kernel_rfl

theorem impl_IsGroupTable_n.b0_eq {ρ : Type} (N : Nat) (K : AV → Heap → Option ρ) (L0 : St → Option ρ) :
    xcode (E21 N) ents impl_IsGroupTable_n.kp 0 N (cL (cK (cB (cA (cB (cB impl_IsGroupTable_n.bd)))))) 0 (impl_IsGroupTable_n.st0) (roundK impl_IsGroupTable_n.kp 0 0 L0 (impl_IsGroupTable_n.k0 N K)) = (impl_IsGroupTable_n.b0 N (fun d0 => K (.bool (d0)) []) (L0 (impl_IsGroupTable_n.st0)) ((impl_IsGroupTable_n.k0 N K) (.exit 0) (impl_IsGroupTable_n.sx0_0))) := by
  have h := impl_IsGroupTable_n.b0_gen N K L0 (impl_IsGroupTable_n.k0 N K) 
  rw [impl_IsGroupTable_n.k0_mix] at h
  exact h

theorem impl_IsGroupTable_n.a0_0_eq {ρ : Type} (N : Nat) (K : AV → Heap → Option ρ) :
    (impl_IsGroupTable_n.k0 N K) (.exit 0) (impl_IsGroupTable_n.sx0_0) = (impl_IsGroupTable_n.a0_0 N (fun d0 => K (.bool (d0)) [])) := by kernel_rfl

theorem impl_IsGroupTable_n.l0_eq {ρ : Type} (N : Nat) (K : AV → Heap → Option ρ) :
    ∀ (m : Nat), xloop (xcode (E21 N) ents impl_IsGroupTable_n.kp 0 N (cL (cK (cB (cA (cB (cB impl_IsGroupTable_n.bd)))))) 0) impl_IsGroupTable_n.kp 0 0 m (impl_IsGroupTable_n.st0) (impl_IsGroupTable_n.k0 N K) = (impl_IsGroupTable_n.l0 N (fun d0 => K (.bool (d0)) []) ((impl_IsGroupTable_n.k0 N K) (.exit 0) (impl_IsGroupTable_n.sx0_0)) m) := by
  intro m
  induction m with
  | zero => intros; rfl
  | succ m ih =>
    refine (impl_IsGroupTable_n.b0_eq N K (fun s => xloop (xcode (E21 N) ents impl_IsGroupTable_n.kp 0 N (cL (cK (cB (cA (cB (cB impl_IsGroupTable_n.bd)))))) 0) impl_IsGroupTable_n.kp 0 0 m s (impl_IsGroupTable_n.k0 N K)) ).trans ?_
    simp only [ih]
    kernel_rfl

theorem impl_IsGroupTable_n.s_eq {ρ : Type} (N : Nat) (K : AV → Heap → Option ρ) :
    xbody (E21 N) ents impl_IsGroupTable_n.kp N Go.Proofs.Try.f28 impl_IsGroupTable_n.bd [.nils] [] K = (impl_IsGroupTable_n.s N (fun d0 => K (.bool (d0)) []) (xloop (xcode (E21 N) ents impl_IsGroupTable_n.kp 0 N (cL (cK (cB (cA (cB (cB impl_IsGroupTable_n.bd)))))) 0) impl_IsGroupTable_n.kp 0 0 N (impl_IsGroupTable_n.st0) (impl_IsGroupTable_n.k0 N K))) := by kernel_rfl

theorem impl_IsGroupTable_n.eq {ρ : Type} (N : Nat) (K : AV → Heap → Option ρ) :
    xbody (E21 N) ents impl_IsGroupTable_n.kp N Go.Proofs.Try.f28 impl_IsGroupTable_n.bd [.nils] [] K = (impl_IsGroupTable_n N (fun d0 => K (.bool (d0)) [])) := by
  refine (impl_IsGroupTable_n.s_eq N K ).trans ?_
  simp only [impl_IsGroupTable_n.l0_eq, impl_IsGroupTable_n.a0_0_eq]
  kernel_rfl

noncomputable def impl_IsGroupTable_sh.en (N : Nat) (ρ : Type) : List AV → Heap → (AV → Heap → Option ρ) → Option ρ
  | [.slice true 0 0 table0 (.exact table1) 1], [⟨false, .hdr 1 gv2 gv3 gv4 gv5 (some gv6)⟩, ⟨false, .flat 0 (.ints .i64 gv7)⟩], K => (impl_IsGroupTable_sh N (fun d0 => K (.bool (d0)) [⟨false, .hdr 1 gv2 gv3 gv4 gv5 (some gv6)⟩, ⟨false, .flat 0 (.ints .i64 gv7)⟩]) table0 table1 gv2 gv3 gv4 gv5 gv6 gv7)
  | [.nils], [], K => (impl_IsGroupTable_n N (fun d0 => K (.bool (d0)) []))
  | _, _, _ => none

theorem impl_IsGroupTable_sh.en_ok (N : Nat) (hE : EnvOk (E21 N) ents) (ρ : Type) (args : List AV) (sh : Heap) (K : AV → Heap → Option ρ) (r : ρ) (h : impl_IsGroupTable_sh.en N ρ args sh K = some r) : ∃ v sh', K v sh' = some r ∧ FnOk (E21 N).P 28 args sh v sh' := by
  unfold impl_IsGroupTable_sh.en at h
  split at h
  · exact fn_ok hE (kp := impl_IsGroupTable_sh.kp) (N := N) Go.Proofs.Try.func28 (c := impl_IsGroupTable_sh.bd) (by kernel_rfl) ((impl_IsGroupTable_sh.eq N _ _ _ _ _ _ _ _ _).trans h)
  · exact fn_ok hE (kp := impl_IsGroupTable_n.kp) (N := N) Go.Proofs.Try.func28 (c := impl_IsGroupTable_n.bd) (by kernel_rfl) ((impl_IsGroupTable_n.eq N _ ).trans h)
  · cases h

noncomputable def E22 (N : Nat) : Env := (E21 N).add 28 (impl_IsGroupTable_sh.en N)

theorem E22_ok (N : Nat) : EnvOk (E22 N) ents := Env.add_ok (E21_ok N) (impl_IsGroupTable_sh.en_ok N (E21_ok N))

noncomputable def impl_first_s.kp : Keeps := ⟨[(0, [5, 6, 7], [], [])], [(0, [], [], [])], []⟩

noncomputable def impl_first_s.bd : Code := bodyOf Go.Proofs.Try.f25

noncomputable def impl_first_s.fin {ρ : Type} (N : Nat) (K : AV → Heap → Option ρ) (gv2 : Nat) (gv3 : Nat → Int) : XE → St → Option ρ := finK (E22 N) impl_first_s.kp.fins Go.Proofs.Try.f25 [⟨false, .flat gv2 (.ints .i64 gv3)⟩] K

noncomputable def impl_first_s.k0 {ρ : Type} (N : Nat) (K : AV → Heap → Option ρ) (gv2 : Nat) (gv3 : Nat → Int) : XE → St → Option ρ := (blockK impl_first_s.kp 1 0 (seqK (xcode (E22 N) ents impl_first_s.kp 1 N (cB (cB impl_first_s.bd)) 0) (impl_first_s.fin N K gv2 gv3)))

theorem impl_first_s.k0_mix {ρ : Type} (N : Nat) (K : AV → Heap → Option ρ) (gv2 : Nat) (gv3 : Nat → Int) : mixK (impl_first_s.fin N K gv2 gv3 .ret) (impl_first_s.k0 N K gv2 gv3) = (impl_first_s.k0 N K gv2 gv3) := by
  funext e s; cases e <;> kernel_rfl

noncomputable def impl_first_s.st0 (codes0 : Nat) (codes1 : Nat) (gv2 : Nat) (gv3 : Nat → Int) (x4 : Int) : St := ⟨sl 15 [(5, .slice true 0 0 codes0 (.exact codes1) 1), (6, .int .i64 ((codes0 : Int))), (7, .int .i64 (x4))], [⟨false, .flat gv2 (.ints .i64 gv3)⟩]⟩

noncomputable def impl_first_s.sx0_0 (gv2 : Nat) (gv3 : Nat → Int) : St := ⟨sl 15 [], [⟨false, .flat gv2 (.ints .i64 gv3)⟩]⟩

theorem impl_first_s.b0_gen {ρ : Type} (N : Nat) (K : AV → Heap → Option ρ) (L0 : St → Option ρ) (kv : XE → St → Option ρ) (codes0 : Nat) (codes1 : Nat) (gv2 : Nat) (gv3 : Nat → Int) (x4 : Int) :
    xcode (E22 N) ents impl_first_s.kp 1 N (cL (cK (cB (cA (cB impl_first_s.bd))))) 0 (impl_first_s.st0 codes0 codes1 gv2 gv3 x4) (roundK impl_first_s.kp 1 0 L0 (mixK (impl_first_s.fin N K gv2 gv3 .ret) kv)) = (impl_first_s.b0 N (fun d0 => K (.int .i64 (d0)) [⟨false, .flat gv2 (.ints .i64 gv3)⟩]) (fun x4 => L0 (impl_first_s.st0 codes0 codes1 gv2 gv3 x4)) (kv (.exit 0) (impl_first_s.sx0_0 gv2 gv3)) codes0 gv3 x4) := by kernel_rfl

theorem impl_first_s.b0_eq {ρ : Type} (N : Nat) (K : AV → Heap → Option ρ) (L0 : St → Option ρ) (codes0 : Nat) (codes1 : Nat) (gv2 : Nat) (gv3 : Nat → Int) (x4 : Int) :
    xcode (E22 N) ents impl_first_s.kp 1 N (cL (cK (cB (cA (cB impl_first_s.bd))))) 0 (impl_first_s.st0 codes0 codes1 gv2 gv3 x4) (roundK impl_first_s.kp 1 0 L0 (impl_first_s.k0 N K gv2 gv3)) = (impl_first_s.b0 N (fun d0 => K (.int .i64 (d0)) [⟨false, .flat gv2 (.ints .i64 gv3)⟩]) (fun x4 => L0 (impl_first_s.st0 codes0 codes1 gv2 gv3 x4)) ((impl_first_s.k0 N K gv2 gv3) (.exit 0) (impl_first_s.sx0_0 gv2 gv3)) codes0 gv3 x4) := by
  have h := impl_first_s.b0_gen N K L0 (impl_first_s.k0 N K gv2 gv3) codes0 codes1 gv2 gv3 x4
  rw [impl_first_s.k0_mix] at h
  exact h

theorem impl_first_s.a0_0_eq {ρ : Type} (N : Nat) (K : AV → Heap → Option ρ) (gv2 : Nat) (gv3 : Nat → Int) :
    (impl_first_s.k0 N K gv2 gv3) (.exit 0) (impl_first_s.sx0_0 gv2 gv3) = (impl_first_s.a0_0 N (fun d0 => K (.int .i64 (d0)) [⟨false, .flat gv2 (.ints .i64 gv3)⟩])) := by kernel_rfl

theorem impl_first_s.l0_eq {ρ : Type} (N : Nat) (K : AV → Heap → Option ρ) (codes0 : Nat) (codes1 : Nat) (gv2 : Nat) (gv3 : Nat → Int) :
    ∀ (m : Nat) (x4 : Int), xloop (xcode (E22 N) ents impl_first_s.kp 1 N (cL (cK (cB (cA (cB impl_first_s.bd))))) 0) impl_first_s.kp 1 0 m (impl_first_s.st0 codes0 codes1 gv2 gv3 x4) (impl_first_s.k0 N K gv2 gv3) = (impl_first_s.l0 N (fun d0 => K (.int .i64 (d0)) [⟨false, .flat gv2 (.ints .i64 gv3)⟩]) codes0 gv3 ((impl_first_s.k0 N K gv2 gv3) (.exit 0) (impl_first_s.sx0_0 gv2 gv3)) m x4) := by
  intro m
  induction m with
  | zero => intros; rfl
  | succ m ih =>
    intro x4
    refine (impl_first_s.b0_eq N K (fun s => xloop (xcode (E22 N) ents impl_first_s.kp 1 N (cL (cK (cB (cA (cB impl_first_s.bd))))) 0) impl_first_s.kp 1 0 m s (impl_first_s.k0 N K gv2 gv3)) codes0 codes1 gv2 gv3 x4).trans ?_
    simp only [ih]
    kernel_rfl

theorem impl_first_s.s_eq {ρ : Type} (N : Nat) (K : AV → Heap → Option ρ) (codes0 : Nat) (codes1 : Nat) (gv2 : Nat) (gv3 : Nat → Int) :
    xbody (E22 N) ents impl_first_s.kp N Go.Proofs.Try.f25 impl_first_s.bd [.slice true 0 0 codes0 (.exact codes1) 1] [⟨false, .flat gv2 (.ints .i64 gv3)⟩] K = (impl_first_s.s N (fun d0 => K (.int .i64 (d0)) [⟨false, .flat gv2 (.ints .i64 gv3)⟩]) (fun x4 => xloop (xcode (E22 N) ents impl_first_s.kp 1 N (cL (cK (cB (cA (cB impl_first_s.bd))))) 0) impl_first_s.kp 1 0 N (impl_first_s.st0 codes0 codes1 gv2 gv3 x4) (impl_first_s.k0 N K gv2 gv3))) := by kernel_rfl

theorem impl_first_s.eq {ρ : Type} (N : Nat) (K : AV → Heap → Option ρ) (codes0 : Nat) (codes1 : Nat) (gv2 : Nat) (gv3 : Nat → Int) :
    xbody (E22 N) ents impl_first_s.kp N Go.Proofs.Try.f25 impl_first_s.bd [.slice true 0 0 codes0 (.exact codes1) 1] [⟨false, .flat gv2 (.ints .i64 gv3)⟩] K = (impl_first_s N (fun d0 => K (.int .i64 (d0)) [⟨false, .flat gv2 (.ints .i64 gv3)⟩]) codes0 codes1 gv2 gv3) := by
  refine (impl_first_s.s_eq N K codes0 codes1 gv2 gv3).trans ?_
  simp only [impl_first_s.l0_eq, impl_first_s.a0_0_eq]
  kernel_rfl

noncomputable def impl_first_s.en (N : Nat) (ρ : Type) : List AV → Heap → (AV → Heap → Option ρ) → Option ρ
  | [.slice true 0 0 codes0 (.exact codes1) 1], [⟨false, .flat gv2 (.ints .i64 gv3)⟩], K => (impl_first_s N (fun d0 => K (.int .i64 (d0)) [⟨false, .flat gv2 (.ints .i64 gv3)⟩]) codes0 codes1 gv2 gv3)
  | _, _, _ => none

theorem impl_first_s.en_ok (N : Nat) (hE : EnvOk (E22 N) ents) (ρ : Type) (args : List AV) (sh : Heap) (K : AV → Heap → Option ρ) (r : ρ) (h : impl_first_s.en N ρ args sh K = some r) : ∃ v sh', K v sh' = some r ∧ FnOk (E22 N).P 25 args sh v sh' := by
  unfold impl_first_s.en at h
  split at h
  · exact fn_ok hE (kp := impl_first_s.kp) (N := N) Go.Proofs.Try.func25 (c := impl_first_s.bd) (by kernel_rfl) ((impl_first_s.eq N _ _ _ _ _).trans h)
  · cases h

noncomputable def E23 (N : Nat) : Env := (E22 N).add 25 (impl_first_s.en N)

theorem E23_ok (N : Nat) : EnvOk (E23 N) ents := Env.add_ok (E22_ok N) (impl_first_s.en_ok N (E22_ok N))

noncomputable def impl_basis.kp : Keeps := ⟨[], [], []⟩

noncomputable def impl_basis.bd : Code := bodyOf Go.Proofs.Try.f37

noncomputable def impl_basis.fin {ρ : Type} (N : Nat) (K : AV → Heap → Option ρ) : XE → St → Option ρ := finK (E23 N) impl_basis.kp.fins Go.Proofs.Try.f37 [] K

theorem impl_basis.eq {ρ : Type} (N : Nat) (K : AV → Heap → Option ρ) (i0 : Int) :
    xbody (E23 N) ents impl_basis.kp N Go.Proofs.Try.f37 impl_basis.bd [.int .i64 (i0)] [] K = (impl_basis N (fun d0 => K (.agg [⟨.u8, 8, d0⟩]) []) i0) := by kernel_rfl

noncomputable def impl_basis.en (N : Nat) (ρ : Type) : List AV → Heap → (AV → Heap → Option ρ) → Option ρ
  | [.int .i64 (i0)], [], K => (impl_basis N (fun d0 => K (.agg [⟨.u8, 8, d0⟩]) []) i0)
  | _, _, _ => none

theorem impl_basis.en_ok (N : Nat) (hE : EnvOk (E23 N) ents) (ρ : Type) (args : List AV) (sh : Heap) (K : AV → Heap → Option ρ) (r : ρ) (h : impl_basis.en N ρ args sh K = some r) : ∃ v sh', K v sh' = some r ∧ FnOk (E23 N).P 37 args sh v sh' := by
  unfold impl_basis.en at h
  split at h
  · exact fn_ok hE (kp := impl_basis.kp) (N := N) Go.Proofs.Try.func37 (c := impl_basis.bd) (by kernel_rfl) ((impl_basis.eq N _ _).trans h)
  · cases h

noncomputable def E24 (N : Nat) : Env := (E23 N).add 37 (impl_basis.en N)

theorem E24_ok (N : Nat) : EnvOk (E24 N) ents := Env.add_ok (E23_ok N) (impl_basis.en_ok N (E23_ok N))

noncomputable def impl_groupHopf_sh.kp : Keeps := ⟨[(0, [1, 4, 5, 15, 16, 17], [], []), (2, [1, 4, 5, 6, 15, 16, 17, 22, 23, 24], [], [])], [(0, [4, 5], [], []), (2, [1, 4, 5, 6, 15, 16, 17], [], [])], []⟩

noncomputable def impl_groupHopf_sh.bd : Code := bodyOf Go.Proofs.Try.f29

noncomputable def impl_groupHopf_sh.fin {ρ : Type} (N : Nat) (K : AV → Heap → Option ρ) (gv3 : Nat) (gv4 : Nat) (gv5 : Nat → Nat) (gv6 : Nat → Nat) (gv7 : Nat → Nat) (gv8 : Nat → Int) : XE → St → Option ρ := finK (E24 N) impl_groupHopf_sh.kp.fins Go.Proofs.Try.f29 [⟨false, .hdr 1 gv3 gv4 gv5 gv6 (some gv7)⟩, ⟨false, .flat 0 (.ints .i64 gv8)⟩] K

noncomputable def impl_groupHopf_sh.k0 {ρ : Type} (N : Nat) (K : AV → Heap → Option ρ) (gv3 : Nat) (gv4 : Nat) (gv5 : Nat → Nat) (gv6 : Nat → Nat) (gv7 : Nat → Nat) (gv8 : Nat → Int) : XE → St → Option ρ := (blockK impl_groupHopf_sh.kp 2 0 (seqK (xcode (E24 N) ents impl_groupHopf_sh.kp 2 N (cB (cB (cB impl_groupHopf_sh.bd))) 0) (impl_groupHopf_sh.fin N K gv3 gv4 gv5 gv6 gv7 gv8)))

theorem impl_groupHopf_sh.k0_mix {ρ : Type} (N : Nat) (K : AV → Heap → Option ρ) (gv3 : Nat) (gv4 : Nat) (gv5 : Nat → Nat) (gv6 : Nat → Nat) (gv7 : Nat → Nat) (gv8 : Nat → Int) : mixK (impl_groupHopf_sh.fin N K gv3 gv4 gv5 gv6 gv7 gv8 .ret) (impl_groupHopf_sh.k0 N K gv3 gv4 gv5 gv6 gv7 gv8) = (impl_groupHopf_sh.k0 N K gv3 gv4 gv5 gv6 gv7 gv8) := by
  funext e s; cases e <;> kernel_rfl

noncomputable def impl_groupHopf_sh.st0 (p0 : Int) (table1 : Nat) (table2 : Nat) (gv3 : Nat) (gv4 : Nat) (gv5 : Nat → Nat) (gv6 : Nat → Nat) (gv7 : Nat → Nat) (gv8 : Nat → Int) (x10 : Int) (gv11 : Nat → Int) : St := ⟨sl 56 [(1, .slice true 0 0 table1 (.exact table2) 1), (4, .sptr [(2, 2), (3, 1104)]), (5, .sptr [(4, 2), (5, 1104)]), (15, .slice true 0 0 table1 (.exact table2) 1), (16, .int .i64 ((table1 : Int))), (17, .int .i64 (x10))], [⟨false, .hdr 1 gv3 gv4 gv5 gv6 (some gv7)⟩, ⟨false, .flat 0 (.ints .i64 gv8)⟩, ⟨true, .flat 2 (.ints .i64 (fun _ => 0))⟩, ⟨true, .flat 1104 (.ints .u8 (fun _ => 0))⟩, ⟨true, .flat 2 (.ints .i64 (upd (upd (fun _ => 0) 0 p0) 1 (table1 : Int)))⟩, ⟨true, .flat 1104 (.ints .u8 gv11)⟩]⟩

noncomputable def impl_groupHopf_sh.sx0_0 (p0 : Int) (table1 : Nat) (gv3 : Nat) (gv4 : Nat) (gv5 : Nat → Nat) (gv6 : Nat → Nat) (gv7 : Nat → Nat) (gv8 : Nat → Int) (ov19 : Nat → Int) : St := ⟨sl 56 [(4, .sptr [(2, 2), (3, 1104)]), (5, .sptr [(4, 2), (5, 1104)])], [⟨false, .hdr 1 gv3 gv4 gv5 gv6 (some gv7)⟩, ⟨false, .flat 0 (.ints .i64 gv8)⟩, ⟨true, .flat 2 (.ints .i64 (fun _ => 0))⟩, ⟨true, .flat 1104 (.ints .u8 (fun _ => 0))⟩, ⟨true, .flat 2 (.ints .i64 (upd (upd (fun _ => 0) 0 p0) 1 (table1 : Int)))⟩, ⟨true, .flat 1104 (.ints .u8 ov19)⟩]⟩

noncomputable def impl_groupHopf_sh.k1g {ρ : Type} (N : Nat) (L0 : St → Option ρ) (kv : XE → St → Option ρ) : XE → St → Option ρ := (blockK impl_groupHopf_sh.kp 2 2 (seqK (xcode (E24 N) ents impl_groupHopf_sh.kp 2 N (cB (cB (cK (cA (cB (cB (cL (cK (cB (cA (cB (cB impl_groupHopf_sh.bd)))))))))))) 1) (blockK impl_groupHopf_sh.kp 2 1 (seqK (xcode (E24 N) ents impl_groupHopf_sh.kp 2 N (cB (cB (cB (cL (cK (cB (cA (cB (cB impl_groupHopf_sh.bd))))))))) 0) (roundK impl_groupHopf_sh.kp 2 0 L0 kv)))))

theorem impl_groupHopf_sh.k1_mix {ρ : Type} (N : Nat) (K : AV → Heap → Option ρ) (L0 : St → Option ρ) (gv3 : Nat) (gv4 : Nat) (gv5 : Nat → Nat) (gv6 : Nat → Nat) (gv7 : Nat → Nat) (gv8 : Nat → Int) : mixK (impl_groupHopf_sh.fin N K gv3 gv4 gv5 gv6 gv7 gv8 .ret) (impl_groupHopf_sh.k1g N L0 (impl_groupHopf_sh.k0 N K gv3 gv4 gv5 gv6 gv7 gv8)) = (impl_groupHopf_sh.k1g N L0 (impl_groupHopf_sh.k0 N K gv3 gv4 gv5 gv6 gv7 gv8)) := by
  funext e s; cases e <;> kernel_rfl

noncomputable def impl_groupHopf_sh.st1 (p0 : Int) (table1 : Nat) (table2 : Nat) (gv3 : Nat) (gv4 : Nat) (gv5 : Nat → Nat) (gv6 : Nat → Nat) (gv7 : Nat → Nat) (gv8 : Nat → Int) (x10 : Int) (x12 : Int) (gv13 : Nat → Int) : St := ⟨sl 56 [(1, .slice true 0 0 table1 (.exact table2) 1), (4, .sptr [(2, 2), (3, 1104)]), (5, .sptr [(4, 2), (5, 1104)]), (6, .int .i64 (x10)), (15, .slice true 0 0 table1 (.exact table2) 1), (16, .int .i64 ((table1 : Int))), (17, .int .i64 (x10)), (22, .slice false 1 (gv5 (0 + (x10.toNat * 1))) (gv6 (0 + (x10.toNat * 1))) (.exact (gv7 (0 + (x10.toNat * 1)))) 1), (23, .int .i64 ((((gv6 (0 + (x10.toNat * 1))) : Nat) : Int))), (24, .int .i64 (x12))], [⟨false, .hdr 1 gv3 gv4 gv5 gv6 (some gv7)⟩, ⟨false, .flat 0 (.ints .i64 gv8)⟩, ⟨true, .flat 2 (.ints .i64 (fun _ => 0))⟩, ⟨true, .flat 1104 (.ints .u8 (fun _ => 0))⟩, ⟨true, .flat 2 (.ints .i64 (upd (upd (fun _ => 0) 0 p0) 1 (table1 : Int)))⟩, ⟨true, .flat 1104 (.ints .u8 gv13)⟩]⟩

noncomputable def impl_groupHopf_sh.sx1_0 (p0 : Int) (table1 : Nat) (table2 : Nat) (gv3 : Nat) (gv4 : Nat) (gv5 : Nat → Nat) (gv6 : Nat → Nat) (gv7 : Nat → Nat) (gv8 : Nat → Int) (x10 : Int) (ov15 : Nat → Int) : St := ⟨sl 56 [(1, .slice true 0 0 table1 (.exact table2) 1), (4, .sptr [(2, 2), (3, 1104)]), (5, .sptr [(4, 2), (5, 1104)]), (6, .int .i64 (x10)), (15, .slice true 0 0 table1 (.exact table2) 1), (16, .int .i64 ((table1 : Int))), (17, .int .i64 (x10))], [⟨false, .hdr 1 gv3 gv4 gv5 gv6 (some gv7)⟩, ⟨false, .flat 0 (.ints .i64 gv8)⟩, ⟨true, .flat 2 (.ints .i64 (fun _ => 0))⟩, ⟨true, .flat 1104 (.ints .u8 (fun _ => 0))⟩, ⟨true, .flat 2 (.ints .i64 (upd (upd (fun _ => 0) 0 p0) 1 (table1 : Int)))⟩, ⟨true, .flat 1104 (.ints .u8 ov15)⟩]⟩

theorem impl_groupHopf_sh.b1_gen {ρ : Type} (N : Nat) (K : AV → Heap → Option ρ) (L1 : St → Option ρ) (kv : XE → St → Option ρ) (p0 : Int) (table1 : Nat) (table2 : Nat) (gv3 : Nat) (gv4 : Nat) (gv5 : Nat → Nat) (gv6 : Nat → Nat) (gv7 : Nat → Nat) (gv8 : Nat → Int) (x10 : Int) (x12 : Int) (gv13 : Nat → Int) :
    xcode (E24 N) ents impl_groupHopf_sh.kp 2 N (cL (cK (cB (cA (cB (cK (cA (cB (cB (cL (cK (cB (cA (cB (cB impl_groupHopf_sh.bd))))))))))))))) 2 (impl_groupHopf_sh.st1 p0 table1 table2 gv3 gv4 gv5 gv6 gv7 gv8 x10 x12 gv13) (roundK impl_groupHopf_sh.kp 2 2 L1 (mixK (impl_groupHopf_sh.fin N K gv3 gv4 gv5 gv6 gv7 gv8 .ret) kv)) = (impl_groupHopf_sh.b1 N (fun d0 d1 => K (.agg [⟨.i64, 2, d0⟩, ⟨.u8, 1104, d1⟩]) [⟨false, .hdr 1 gv3 gv4 gv5 gv6 (some gv7)⟩, ⟨false, .flat 0 (.ints .i64 gv8)⟩]) (fun x12 gv13 => L1 (impl_groupHopf_sh.st1 p0 table1 table2 gv3 gv4 gv5 gv6 gv7 gv8 x10 x12 gv13)) (fun ov15 => kv (.exit 2) (impl_groupHopf_sh.sx1_0 p0 table1 table2 gv3 gv4 gv5 gv6 gv7 gv8 x10 ov15)) gv5 gv6 gv8 x10 x12 gv13) := by kernel_rfl

theorem impl_groupHopf_sh.b1_eq {ρ : Type} (N : Nat) (K : AV → Heap → Option ρ) (L0 : St → Option ρ) (L1 : St → Option ρ) (p0 : Int) (table1 : Nat) (table2 : Nat) (gv3 : Nat) (gv4 : Nat) (gv5 : Nat → Nat) (gv6 : Nat → Nat) (gv7 : Nat → Nat) (gv8 : Nat → Int) (x10 : Int) (x12 : Int) (gv13 : Nat → Int) :
    xcode (E24 N) ents impl_groupHopf_sh.kp 2 N (cL (cK (cB (cA (cB (cK (cA (cB (cB (cL (cK (cB (cA (cB (cB impl_groupHopf_sh.bd))))))))))))))) 2 (impl_groupHopf_sh.st1 p0 table1 table2 gv3 gv4 gv5 gv6 gv7 gv8 x10 x12 gv13) (roundK impl_groupHopf_sh.kp 2 2 L1 (impl_groupHopf_sh.k1g N L0 (impl_groupHopf_sh.k0 N K gv3 gv4 gv5 gv6 gv7 gv8))) = (impl_groupHopf_sh.b1 N (fun d0 d1 => K (.agg [⟨.i64, 2, d0⟩, ⟨.u8, 1104, d1⟩]) [⟨false, .hdr 1 gv3 gv4 gv5 gv6 (some gv7)⟩, ⟨false, .flat 0 (.ints .i64 gv8)⟩]) (fun x12 gv13 => L1 (impl_groupHopf_sh.st1 p0 table1 table2 gv3 gv4 gv5 gv6 gv7 gv8 x10 x12 gv13)) (fun ov15 => (impl_groupHopf_sh.k1g N L0 (impl_groupHopf_sh.k0 N K gv3 gv4 gv5 gv6 gv7 gv8)) (.exit 2) (impl_groupHopf_sh.sx1_0 p0 table1 table2 gv3 gv4 gv5 gv6 gv7 gv8 x10 ov15)) gv5 gv6 gv8 x10 x12 gv13) := by
  have h := impl_groupHopf_sh.b1_gen N K L1 (impl_groupHopf_sh.k1g N L0 (impl_groupHopf_sh.k0 N K gv3 gv4 gv5 gv6 gv7 gv8)) p0 table1 table2 gv3 gv4 gv5 gv6 gv7 gv8 x10 x12 gv13
  rw [impl_groupHopf_sh.k1_mix] at h
  exact h

theorem impl_groupHopf_sh.a1_0_gen {ρ : Type} (N : Nat) (K : AV → Heap → Option ρ) (L0 : St → Option ρ) (kv : XE → St → Option ρ) (p0 : Int) (table1 : Nat) (table2 : Nat) (gv3 : Nat) (gv4 : Nat) (gv5 : Nat → Nat) (gv6 : Nat → Nat) (gv7 : Nat → Nat) (gv8 : Nat → Int) (x10 : Int) (ov15 : Nat → Int) :
    (impl_groupHopf_sh.k1g N L0 (mixK (impl_groupHopf_sh.fin N K gv3 gv4 gv5 gv6 gv7 gv8 .ret) kv)) (.exit 2) (impl_groupHopf_sh.sx1_0 p0 table1 table2 gv3 gv4 gv5 gv6 gv7 gv8 x10 ov15) = (impl_groupHopf_sh.a1_0 N (fun d0 d1 => K (.agg [⟨.i64, 2, d0⟩, ⟨.u8, 1104, d1⟩]) [⟨false, .hdr 1 gv3 gv4 gv5 gv6 (some gv7)⟩, ⟨false, .flat 0 (.ints .i64 gv8)⟩]) (fun x10 gv11 => L0 (impl_groupHopf_sh.st0 p0 table1 table2 gv3 gv4 gv5 gv6 gv7 gv8 x10 gv11)) (fun ov19 => kv (.exit 0) (impl_groupHopf_sh.sx0_0 p0 table1 gv3 gv4 gv5 gv6 gv7 gv8 ov19)) table1 table2 gv4 gv5 gv6 gv7 gv8 x10 ov15) := by kernel_rfl

theorem impl_groupHopf_sh.a1_0_eq {ρ : Type} (N : Nat) (K : AV → Heap → Option ρ) (L0 : St → Option ρ) (p0 : Int) (table1 : Nat) (table2 : Nat) (gv3 : Nat) (gv4 : Nat) (gv5 : Nat → Nat) (gv6 : Nat → Nat) (gv7 : Nat → Nat) (gv8 : Nat → Int) (x10 : Int) (ov15 : Nat → Int) :
    (impl_groupHopf_sh.k1g N L0 (impl_groupHopf_sh.k0 N K gv3 gv4 gv5 gv6 gv7 gv8)) (.exit 2) (impl_groupHopf_sh.sx1_0 p0 table1 table2 gv3 gv4 gv5 gv6 gv7 gv8 x10 ov15) = (impl_groupHopf_sh.a1_0 N (fun d0 d1 => K (.agg [⟨.i64, 2, d0⟩, ⟨.u8, 1104, d1⟩]) [⟨false, .hdr 1 gv3 gv4 gv5 gv6 (some gv7)⟩, ⟨false, .flat 0 (.ints .i64 gv8)⟩]) (fun x10 gv11 => L0 (impl_groupHopf_sh.st0 p0 table1 table2 gv3 gv4 gv5 gv6 gv7 gv8 x10 gv11)) (fun ov19 => (impl_groupHopf_sh.k0 N K gv3 gv4 gv5 gv6 gv7 gv8) (.exit 0) (impl_groupHopf_sh.sx0_0 p0 table1 gv3 gv4 gv5 gv6 gv7 gv8 ov19)) table1 table2 gv4 gv5 gv6 gv7 gv8 x10 ov15) := by
  have h := impl_groupHopf_sh.a1_0_gen N K L0 (impl_groupHopf_sh.k0 N K gv3 gv4 gv5 gv6 gv7 gv8) p0 table1 table2 gv3 gv4 gv5 gv6 gv7 gv8 x10 ov15
  rw [impl_groupHopf_sh.k0_mix] at h
  exact h

theorem impl_groupHopf_sh.b0_gen {ρ : Type} (N : Nat) (K : AV → Heap → Option ρ) (L0 : St → Option ρ) (kv : XE → St → Option ρ) (p0 : Int) (table1 : Nat) (table2 : Nat) (gv3 : Nat) (gv4 : Nat) (gv5 : Nat → Nat) (gv6 : Nat → Nat) (gv7 : Nat → Nat) (gv8 : Nat → Int) (x10 : Int) (gv11 : Nat → Int) :
    xcode (E24 N) ents impl_groupHopf_sh.kp 2 N (cL (cK (cB (cA (cB (cB impl_groupHopf_sh.bd)))))) 0 (impl_groupHopf_sh.st0 p0 table1 table2 gv3 gv4 gv5 gv6 gv7 gv8 x10 gv11) (roundK impl_groupHopf_sh.kp 2 0 L0 (mixK (impl_groupHopf_sh.fin N K gv3 gv4 gv5 gv6 gv7 gv8 .ret) kv)) = (impl_groupHopf_sh.b0 N (fun d0 d1 => K (.agg [⟨.i64, 2, d0⟩, ⟨.u8, 1104, d1⟩]) [⟨false, .hdr 1 gv3 gv4 gv5 gv6 (some gv7)⟩, ⟨false, .flat 0 (.ints .i64 gv8)⟩]) (fun x12 gv13 => xloop (xcode (E24 N) ents impl_groupHopf_sh.kp 2 N (cL (cK (cB (cA (cB (cK (cA (cB (cB (cL (cK (cB (cA (cB (cB impl_groupHopf_sh.bd))))))))))))))) 2) impl_groupHopf_sh.kp 2 2 N (impl_groupHopf_sh.st1 p0 table1 table2 gv3 gv4 gv5 gv6 gv7 gv8 x10 x12 gv13) (impl_groupHopf_sh.k1g N L0 (mixK (impl_groupHopf_sh.fin N K gv3 gv4 gv5 gv6 gv7 gv8 .ret) kv))) (fun x10 gv11 => L0 (impl_groupHopf_sh.st0 p0 table1 table2 gv3 gv4 gv5 gv6 gv7 gv8 x10 gv11)) (fun ov19 => kv (.exit 0) (impl_groupHopf_sh.sx0_0 p0 table1 gv3 gv4 gv5 gv6 gv7 gv8 ov19)) table1 x10 gv11) := by kernel_rfl

theorem impl_groupHopf_sh.b0_eq {ρ : Type} (N : Nat) (K : AV → Heap → Option ρ) (L0 : St → Option ρ) (p0 : Int) (table1 : Nat) (table2 : Nat) (gv3 : Nat) (gv4 : Nat) (gv5 : Nat → Nat) (gv6 : Nat → Nat) (gv7 : Nat → Nat) (gv8 : Nat → Int) (x10 : Int) (gv11 : Nat → Int) :
    xcode (E24 N) ents impl_groupHopf_sh.kp 2 N (cL (cK (cB (cA (cB (cB impl_groupHopf_sh.bd)))))) 0 (impl_groupHopf_sh.st0 p0 table1 table2 gv3 gv4 gv5 gv6 gv7 gv8 x10 gv11) (roundK impl_groupHopf_sh.kp 2 0 L0 (impl_groupHopf_sh.k0 N K gv3 gv4 gv5 gv6 gv7 gv8)) = (impl_groupHopf_sh.b0 N (fun d0 d1 => K (.agg [⟨.i64, 2, d0⟩, ⟨.u8, 1104, d1⟩]) [⟨false, .hdr 1 gv3 gv4 gv5 gv6 (some gv7)⟩, ⟨false, .flat 0 (.ints .i64 gv8)⟩]) (fun x12 gv13 => xloop (xcode (E24 N) ents impl_groupHopf_sh.kp 2 N (cL (cK (cB (cA (cB (cK (cA (cB (cB (cL (cK (cB (cA (cB (cB impl_groupHopf_sh.bd))))))))))))))) 2) impl_groupHopf_sh.kp 2 2 N (impl_groupHopf_sh.st1 p0 table1 table2 gv3 gv4 gv5 gv6 gv7 gv8 x10 x12 gv13) (impl_groupHopf_sh.k1g N L0 (impl_groupHopf_sh.k0 N K gv3 gv4 gv5 gv6 gv7 gv8))) (fun x10 gv11 => L0 (impl_groupHopf_sh.st0 p0 table1 table2 gv3 gv4 gv5 gv6 gv7 gv8 x10 gv11)) (fun ov19 => (impl_groupHopf_sh.k0 N K gv3 gv4 gv5 gv6 gv7 gv8) (.exit 0) (impl_groupHopf_sh.sx0_0 p0 table1 gv3 gv4 gv5 gv6 gv7 gv8 ov19)) table1 x10 gv11) := by
  have h := impl_groupHopf_sh.b0_gen N K L0 (impl_groupHopf_sh.k0 N K gv3 gv4 gv5 gv6 gv7 gv8) p0 table1 table2 gv3 gv4 gv5 gv6 gv7 gv8 x10 gv11
  rw [impl_groupHopf_sh.k0_mix] at h
  exact h

theorem impl_groupHopf_sh.a0_0_eq {ρ : Type} (N : Nat) (K : AV → Heap → Option ρ) (p0 : Int) (table1 : Nat) (gv3 : Nat) (gv4 : Nat) (gv5 : Nat → Nat) (gv6 : Nat → Nat) (gv7 : Nat → Nat) (gv8 : Nat → Int) (ov19 : Nat → Int) :
    (impl_groupHopf_sh.k0 N K gv3 gv4 gv5 gv6 gv7 gv8) (.exit 0) (impl_groupHopf_sh.sx0_0 p0 table1 gv3 gv4 gv5 gv6 gv7 gv8 ov19) = (impl_groupHopf_sh.a0_0 N (fun d0 d1 => K (.agg [⟨.i64, 2, d0⟩, ⟨.u8, 1104, d1⟩]) [⟨false, .hdr 1 gv3 gv4 gv5 gv6 (some gv7)⟩, ⟨false, .flat 0 (.ints .i64 gv8)⟩]) p0 table1 ov19) := by kernel_rfl

theorem impl_groupHopf_sh.l1_eq {ρ : Type} (N : Nat) (K : AV → Heap → Option ρ) (L0 : St → Option ρ) (p0 : Int) (table1 : Nat) (table2 : Nat) (gv3 : Nat) (gv4 : Nat) (gv5 : Nat → Nat) (gv6 : Nat → Nat) (gv7 : Nat → Nat) (gv8 : Nat → Int) (x10 : Int) :
    ∀ (m : Nat) (x12 : Int) (gv13 : Nat → Int), xloop (xcode (E24 N) ents impl_groupHopf_sh.kp 2 N (cL (cK (cB (cA (cB (cK (cA (cB (cB (cL (cK (cB (cA (cB (cB impl_groupHopf_sh.bd))))))))))))))) 2) impl_groupHopf_sh.kp 2 2 m (impl_groupHopf_sh.st1 p0 table1 table2 gv3 gv4 gv5 gv6 gv7 gv8 x10 x12 gv13) (impl_groupHopf_sh.k1g N L0 (impl_groupHopf_sh.k0 N K gv3 gv4 gv5 gv6 gv7 gv8)) = (impl_groupHopf_sh.l1 N (fun d0 d1 => K (.agg [⟨.i64, 2, d0⟩, ⟨.u8, 1104, d1⟩]) [⟨false, .hdr 1 gv3 gv4 gv5 gv6 (some gv7)⟩, ⟨false, .flat 0 (.ints .i64 gv8)⟩]) gv5 gv6 gv8 x10 (fun ov15 => (impl_groupHopf_sh.k1g N L0 (impl_groupHopf_sh.k0 N K gv3 gv4 gv5 gv6 gv7 gv8)) (.exit 2) (impl_groupHopf_sh.sx1_0 p0 table1 table2 gv3 gv4 gv5 gv6 gv7 gv8 x10 ov15)) m x12 gv13) := by
  intro m
  induction m with
  | zero => intros; rfl
  | succ m ih =>
    intro x12 gv13
    refine (impl_groupHopf_sh.b1_eq N K L0 (fun s => xloop (xcode (E24 N) ents impl_groupHopf_sh.kp 2 N (cL (cK (cB (cA (cB (cK (cA (cB (cB (cL (cK (cB (cA (cB (cB impl_groupHopf_sh.bd))))))))))))))) 2) impl_groupHopf_sh.kp 2 2 m s (impl_groupHopf_sh.k1g N L0 (impl_groupHopf_sh.k0 N K gv3 gv4 gv5 gv6 gv7 gv8))) p0 table1 table2 gv3 gv4 gv5 gv6 gv7 gv8 x10 x12 gv13).trans ?_
    simp only [ih]
    kernel_rfl

theorem impl_groupHopf_sh.l0_eq {ρ : Type} (N : Nat) (K : AV → Heap → Option ρ) (p0 : Int) (table1 : Nat) (table2 : Nat) (gv3 : Nat) (gv4 : Nat) (gv5 : Nat → Nat) (gv6 : Nat → Nat) (gv7 : Nat → Nat) (gv8 : Nat → Int) :
    ∀ (m : Nat) (x10 : Int) (gv11 : Nat → Int), xloop (xcode (E24 N) ents impl_groupHopf_sh.kp 2 N (cL (cK (cB (cA (cB (cB impl_groupHopf_sh.bd)))))) 0) impl_groupHopf_sh.kp 2 0 m (impl_groupHopf_sh.st0 p0 table1 table2 gv3 gv4 gv5 gv6 gv7 gv8 x10 gv11) (impl_groupHopf_sh.k0 N K gv3 gv4 gv5 gv6 gv7 gv8) = (impl_groupHopf_sh.l0 N (fun d0 d1 => K (.agg [⟨.i64, 2, d0⟩, ⟨.u8, 1104, d1⟩]) [⟨false, .hdr 1 gv3 gv4 gv5 gv6 (some gv7)⟩, ⟨false, .flat 0 (.ints .i64 gv8)⟩]) table1 table2 gv4 gv5 gv6 gv7 gv8 (fun ov19 => (impl_groupHopf_sh.k0 N K gv3 gv4 gv5 gv6 gv7 gv8) (.exit 0) (impl_groupHopf_sh.sx0_0 p0 table1 gv3 gv4 gv5 gv6 gv7 gv8 ov19)) m x10 gv11) := by
  intro m
  induction m with
  | zero => intros; rfl
  | succ m ih =>
    intro x10 gv11
    refine (impl_groupHopf_sh.b0_eq N K (fun s => xloop (xcode (E24 N) ents impl_groupHopf_sh.kp 2 N (cL (cK (cB (cA (cB (cB impl_groupHopf_sh.bd)))))) 0) impl_groupHopf_sh.kp 2 0 m s (impl_groupHopf_sh.k0 N K gv3 gv4 gv5 gv6 gv7 gv8)) p0 table1 table2 gv3 gv4 gv5 gv6 gv7 gv8 x10 gv11).trans ?_
    simp only [ih, impl_groupHopf_sh.l1_eq, impl_groupHopf_sh.a1_0_eq]
    kernel_rfl

theorem impl_groupHopf_sh.s_eq {ρ : Type} (N : Nat) (K : AV → Heap → Option ρ) (p0 : Int) (table1 : Nat) (table2 : Nat) (gv3 : Nat) (gv4 : Nat) (gv5 : Nat → Nat) (gv6 : Nat → Nat) (gv7 : Nat → Nat) (gv8 : Nat → Int) :
    xbody (E24 N) ents impl_groupHopf_sh.kp N Go.Proofs.Try.f29 impl_groupHopf_sh.bd [.int .i64 (p0), .slice true 0 0 table1 (.exact table2) 1] [⟨false, .hdr 1 gv3 gv4 gv5 gv6 (some gv7)⟩, ⟨false, .flat 0 (.ints .i64 gv8)⟩] K = (impl_groupHopf_sh.s N (fun d0 d1 => K (.agg [⟨.i64, 2, d0⟩, ⟨.u8, 1104, d1⟩]) [⟨false, .hdr 1 gv3 gv4 gv5 gv6 (some gv7)⟩, ⟨false, .flat 0 (.ints .i64 gv8)⟩]) (fun x10 gv11 => xloop (xcode (E24 N) ents impl_groupHopf_sh.kp 2 N (cL (cK (cB (cA (cB (cB impl_groupHopf_sh.bd)))))) 0) impl_groupHopf_sh.kp 2 0 N (impl_groupHopf_sh.st0 p0 table1 table2 gv3 gv4 gv5 gv6 gv7 gv8 x10 gv11) (impl_groupHopf_sh.k0 N K gv3 gv4 gv5 gv6 gv7 gv8))) := by kernel_rfl

theorem impl_groupHopf_sh.eq {ρ : Type} (N : Nat) (K : AV → Heap → Option ρ) (p0 : Int) (table1 : Nat) (table2 : Nat) (gv3 : Nat) (gv4 : Nat) (gv5 : Nat → Nat) (gv6 : Nat → Nat) (gv7 : Nat → Nat) (gv8 : Nat → Int) :
    xbody (E24 N) ents impl_groupHopf_sh.kp N Go.Proofs.Try.f29 impl_groupHopf_sh.bd [.int .i64 (p0), .slice true 0 0 table1 (.exact table2) 1] [⟨false, .hdr 1 gv3 gv4 gv5 gv6 (some gv7)⟩, ⟨false, .flat 0 (.ints .i64 gv8)⟩] K = (impl_groupHopf_sh N (fun d0 d1 => K (.agg [⟨.i64, 2, d0⟩, ⟨.u8, 1104, d1⟩]) [⟨false, .hdr 1 gv3 gv4 gv5 gv6 (some gv7)⟩, ⟨false, .flat 0 (.ints .i64 gv8)⟩]) p0 table1 table2 gv3 gv4 gv5 gv6 gv7 gv8) := by
  refine (impl_groupHopf_sh.s_eq N K p0 table1 table2 gv3 gv4 gv5 gv6 gv7 gv8).trans ?_
  simp only [impl_groupHopf_sh.l0_eq, impl_groupHopf_sh.a0_0_eq]
  kernel_rfl

noncomputable def impl_groupHopf_n.kp : Keeps := ⟨[(0, [1, 4, 5, 15, 16, 17], [], [])], [(0, [4, 5], [], [])], []⟩

noncomputable def impl_groupHopf_n.bd : Code := bodyOf Go.Proofs.Try.f29

noncomputable def impl_groupHopf_n.fin {ρ : Type} (N : Nat) (K : AV → Heap → Option ρ) : XE → St → Option ρ := finK (E24 N) impl_groupHopf_n.kp.fins Go.Proofs.Try.f29 [] K

noncomputable def impl_groupHopf_n.k0 {ρ : Type} (N : Nat) (K : AV → Heap → Option ρ) : XE → St → Option ρ := (blockK impl_groupHopf_n.kp 0 0 (seqK (xcode (E24 N) ents impl_groupHopf_n.kp 0 N (cB (cB (cB impl_groupHopf_n.bd))) 0) (impl_groupHopf_n.fin N K)))

theorem impl_groupHopf_n.k0_mix {ρ : Type} (N : Nat) (K : AV → Heap → Option ρ) : mixK (impl_groupHopf_n.fin N K .ret) (impl_groupHopf_n.k0 N K) = (impl_groupHopf_n.k0 N K) := by
  funext e s; cases e <;> kernel_rfl

noncomputable def impl_groupHopf_n.st0 (p0 : Int) (rv1 : Nat → Int) : St := ⟨sl 56 [(1, .nils), (4, .sptr [(0, 2), (1, 1104)]), (5, .sptr [(2, 2), (3, 1104)]), (15, .nils), (16, .int .i64 0), (17, .int .i64 0)], [⟨true, .flat 2 (.ints .i64 (fun _ => 0))⟩, ⟨true, .flat 1104 (.ints .u8 (fun _ => 0))⟩, ⟨true, .flat 2 (.ints .i64 (upd (upd (fun _ => 0) 0 p0) 1 0))⟩, ⟨true, .flat 1104 (.ints .u8 (updN (fun _ => 0) 0 8 rv1))⟩]⟩

noncomputable def impl_groupHopf_n.sx0_0 (p0 : Int) (rv1 : Nat → Int) : St := ⟨sl 56 [(4, .sptr [(0, 2), (1, 1104)]), (5, .sptr [(2, 2), (3, 1104)])], [⟨true, .flat 2 (.ints .i64 (fun _ => 0))⟩, ⟨true, .flat 1104 (.ints .u8 (fun _ => 0))⟩, ⟨true, .flat 2 (.ints .i64 (upd (upd (fun _ => 0) 0 p0) 1 0))⟩, ⟨true, .flat 1104 (.ints .u8 (updN (fun _ => 0) 0 8 rv1))⟩]⟩

theorem impl_groupHopf_n.b0_gen {ρ : Type} (N : Nat) (K : AV → Heap → Option ρ) (L0 : St → Option ρ) (kv : XE → St → Option ρ) (p0 : Int) (rv1 : Nat → Int) :
    xcode (E24 N) ents impl_groupHopf_n.kp 0 N (cL (cK (cB (cA (cB (cB impl_groupHopf_n.bd)))))) 0 (impl_groupHopf_n.st0 p0 rv1) (roundK impl_groupHopf_n.kp 0 0 L0 (mixK (impl_groupHopf_n.fin N K .ret) kv)) = (impl_groupHopf_n.b0 N (fun d0 d1 => K (.agg [⟨.i64, 2, d0⟩, ⟨.u8, 1104, d1⟩]) []) (L0 (impl_groupHopf_n.st0 p0 rv1)) (kv (.exit 0) (impl_groupHopf_n.sx0_0 p0 rv1))) := by kernel_rfl

theorem impl_groupHopf_n.b0_eq {ρ : Type} (N : Nat) (K : AV → Heap → Option ρ) (L0 : St → Option ρ) (p0 : Int) (rv1 : Nat → Int) :
    xcode (E24 N) ents impl_groupHopf_n.kp 0 N (cL (cK (cB (cA (cB (cB impl_groupHopf_n.bd)))))) 0 (impl_groupHopf_n.st0 p0 rv1) (roundK impl_groupHopf_n.kp 0 0 L0 (impl_groupHopf_n.k0 N K)) = (impl_groupHopf_n.b0 N (fun d0 d1 => K (.agg [⟨.i64, 2, d0⟩, ⟨.u8, 1104, d1⟩]) []) (L0 (impl_groupHopf_n.st0 p0 rv1)) ((impl_groupHopf_n.k0 N K) (.exit 0) (impl_groupHopf_n.sx0_0 p0 rv1))) := by
  have h := impl_groupHopf_n.b0_gen N K L0 (impl_groupHopf_n.k0 N K) p0 rv1
  rw [impl_groupHopf_n.k0_mix] at h
  exact h

theorem impl_groupHopf_n.a0_0_eq {ρ : Type} (N : Nat) (K : AV → Heap → Option ρ) (p0 : Int) (rv1 : Nat → Int) :
    (impl_groupHopf_n.k0 N K) (.exit 0) (impl_groupHopf_n.sx0_0 p0 rv1) = (impl_groupHopf_n.a0_0 N (fun d0 d1 => K (.agg [⟨.i64, 2, d0⟩, ⟨.u8, 1104, d1⟩]) []) p0 rv1) := by kernel_rfl

theorem impl_groupHopf_n.l0_eq {ρ : Type} (N : Nat) (K : AV → Heap → Option ρ) (p0 : Int) (rv1 : Nat → Int) :
    ∀ (m : Nat), xloop (xcode (E24 N) ents impl_groupHopf_n.kp 0 N (cL (cK (cB (cA (cB (cB impl_groupHopf_n.bd)))))) 0) impl_groupHopf_n.kp 0 0 m (impl_groupHopf_n.st0 p0 rv1) (impl_groupHopf_n.k0 N K) = (impl_groupHopf_n.l0 N (fun d0 d1 => K (.agg [⟨.i64, 2, d0⟩, ⟨.u8, 1104, d1⟩]) []) ((impl_groupHopf_n.k0 N K) (.exit 0) (impl_groupHopf_n.sx0_0 p0 rv1)) m) := by
  intro m
  induction m with
  | zero => intros; rfl
  | succ m ih =>
    refine (impl_groupHopf_n.b0_eq N K (fun s => xloop (xcode (E24 N) ents impl_groupHopf_n.kp 0 N (cL (cK (cB (cA (cB (cB impl_groupHopf_n.bd)))))) 0) impl_groupHopf_n.kp 0 0 m s (impl_groupHopf_n.k0 N K)) p0 rv1).trans ?_
    simp only [ih]
    kernel_rfl

theorem impl_groupHopf_n.s_eq {ρ : Type} (N : Nat) (K : AV → Heap → Option ρ) (p0 : Int) :
    xbody (E24 N) ents impl_groupHopf_n.kp N Go.Proofs.Try.f29 impl_groupHopf_n.bd [.int .i64 (p0), .nils] [] K = (impl_groupHopf_n.s N (fun d0 d1 => K (.agg [⟨.i64, 2, d0⟩, ⟨.u8, 1104, d1⟩]) []) (fun rv1 => xloop (xcode (E24 N) ents impl_groupHopf_n.kp 0 N (cL (cK (cB (cA (cB (cB impl_groupHopf_n.bd)))))) 0) impl_groupHopf_n.kp 0 0 N (impl_groupHopf_n.st0 p0 rv1) (impl_groupHopf_n.k0 N K))) := by kernel_rfl

theorem impl_groupHopf_n.eq {ρ : Type} (N : Nat) (K : AV → Heap → Option ρ) (p0 : Int) :
    xbody (E24 N) ents impl_groupHopf_n.kp N Go.Proofs.Try.f29 impl_groupHopf_n.bd [.int .i64 (p0), .nils] [] K = (impl_groupHopf_n N (fun d0 d1 => K (.agg [⟨.i64, 2, d0⟩, ⟨.u8, 1104, d1⟩]) []) p0) := by
  refine (impl_groupHopf_n.s_eq N K p0).trans ?_
  simp only [impl_groupHopf_n.l0_eq, impl_groupHopf_n.a0_0_eq]
  kernel_rfl

noncomputable def impl_groupHopf_sh.en (N : Nat) (ρ : Type) : List AV → Heap → (AV → Heap → Option ρ) → Option ρ
  | [.int .i64 (p0), .slice true 0 0 table1 (.exact table2) 1], [⟨false, .hdr 1 gv3 gv4 gv5 gv6 (some gv7)⟩, ⟨false, .flat 0 (.ints .i64 gv8)⟩], K => (impl_groupHopf_sh N (fun d0 d1 => K (.agg [⟨.i64, 2, d0⟩, ⟨.u8, 1104, d1⟩]) [⟨false, .hdr 1 gv3 gv4 gv5 gv6 (some gv7)⟩, ⟨false, .flat 0 (.ints .i64 gv8)⟩]) p0 table1 table2 gv3 gv4 gv5 gv6 gv7 gv8)
  | [.int .i64 (p0), .nils], [], K => (impl_groupHopf_n N (fun d0 d1 => K (.agg [⟨.i64, 2, d0⟩, ⟨.u8, 1104, d1⟩]) []) p0)
  | _, _, _ => none

theorem impl_groupHopf_sh.en_ok (N : Nat) (hE : EnvOk (E24 N) ents) (ρ : Type) (args : List AV) (sh : Heap) (K : AV → Heap → Option ρ) (r : ρ) (h : impl_groupHopf_sh.en N ρ args sh K = some r) : ∃ v sh', K v sh' = some r ∧ FnOk (E24 N).P 29 args sh v sh' := by
  unfold impl_groupHopf_sh.en at h
  split at h
  · exact fn_ok hE (kp := impl_groupHopf_sh.kp) (N := N) Go.Proofs.Try.func29 (c := impl_groupHopf_sh.bd) (by kernel_rfl) ((impl_groupHopf_sh.eq N _ _ _ _ _ _ _ _ _ _).trans h)
  · exact fn_ok hE (kp := impl_groupHopf_n.kp) (N := N) Go.Proofs.Try.func29 (c := impl_groupHopf_n.bd) (by kernel_rfl) ((impl_groupHopf_n.eq N _ _).trans h)
  · cases h

noncomputable def E25 (N : Nat) : Env := (E24 N).add 29 (impl_groupHopf_sh.en N)

theorem E25_ok (N : Nat) : EnvOk (E25 N) ents := Env.add_ok (E24_ok N) (impl_groupHopf_sh.en_ok N (E24_ok N))

noncomputable def impl_GroupHopf_sh.kp : Keeps := ⟨[], [], []⟩

noncomputable def impl_GroupHopf_sh.bd : Code := bodyOf Go.Proofs.Try.f16

noncomputable def impl_GroupHopf_sh.fin {ρ : Type} (N : Nat) (K : AV → Heap → Option ρ) (gv3 : Nat) (gv4 : Nat) (gv5 : Nat → Nat) (gv6 : Nat → Nat) (gv7 : Nat → Nat) (gv8 : Nat → Int) : XE → St → Option ρ := finK (E25 N) impl_GroupHopf_sh.kp.fins Go.Proofs.Try.f16 [⟨false, .hdr 1 gv3 gv4 gv5 gv6 (some gv7)⟩, ⟨false, .flat 0 (.ints .i64 gv8)⟩] K

theorem impl_GroupHopf_sh.eq {ρ : Type} (N : Nat) (K : AV → Heap → Option ρ) (p0 : Int) (table1 : Nat) (table2 : Nat) (gv3 : Nat) (gv4 : Nat) (gv5 : Nat → Nat) (gv6 : Nat → Nat) (gv7 : Nat → Nat) (gv8 : Nat → Int) :
    xbody (E25 N) ents impl_GroupHopf_sh.kp N Go.Proofs.Try.f16 impl_GroupHopf_sh.bd [.int .i64 (p0), .slice true 0 0 table1 (.exact table2) 1] [⟨false, .hdr 1 gv3 gv4 gv5 gv6 (some gv7)⟩, ⟨false, .flat 0 (.ints .i64 gv8)⟩] K = (impl_GroupHopf_sh N (fun d0 d1 d2 => K (.tup [.agg [⟨.i64, 2, d0⟩, ⟨.u8, 1104, d1⟩], .int .i64 (d2)]) [⟨false, .hdr 1 gv3 gv4 gv5 gv6 (some gv7)⟩, ⟨false, .flat 0 (.ints .i64 gv8)⟩]) p0 table1 table2 gv3 gv4 gv5 gv6 gv7 gv8) := by kernel_rfl

noncomputable def impl_GroupHopf_n.kp : Keeps := ⟨[], [], []⟩

noncomputable def impl_GroupHopf_n.bd : Code := bodyOf Go.Proofs.Try.f16

noncomputable def impl_GroupHopf_n.fin {ρ : Type} (N : Nat) (K : AV → Heap → Option ρ) : XE → St → Option ρ := finK (E25 N) impl_GroupHopf_n.kp.fins Go.Proofs.Try.f16 [] K

theorem impl_GroupHopf_n.eq {ρ : Type} (N : Nat) (K : AV → Heap → Option ρ) (p0 : Int) :
    xbody (E25 N) ents impl_GroupHopf_n.kp N Go.Proofs.Try.f16 impl_GroupHopf_n.bd [.int .i64 (p0), .nils] [] K = (impl_GroupHopf_n N (fun d0 d1 d2 => K (.tup [.agg [⟨.i64, 2, d0⟩, ⟨.u8, 1104, d1⟩], .int .i64 (d2)]) []) p0) := by kernel_rfl

noncomputable def impl_GroupHopf_sh.en (N : Nat) (ρ : Type) : List AV → Heap → (AV → Heap → Option ρ) → Option ρ
  | [.int .i64 (p0), .slice true 0 0 table1 (.exact table2) 1], [⟨false, .hdr 1 gv3 gv4 gv5 gv6 (some gv7)⟩, ⟨false, .flat 0 (.ints .i64 gv8)⟩], K => (impl_GroupHopf_sh N (fun d0 d1 d2 => K (.tup [.agg [⟨.i64, 2, d0⟩, ⟨.u8, 1104, d1⟩], .int .i64 (d2)]) [⟨false, .hdr 1 gv3 gv4 gv5 gv6 (some gv7)⟩, ⟨false, .flat 0 (.ints .i64 gv8)⟩]) p0 table1 table2 gv3 gv4 gv5 gv6 gv7 gv8)
  | [.int .i64 (p0), .nils], [], K => (impl_GroupHopf_n N (fun d0 d1 d2 => K (.tup [.agg [⟨.i64, 2, d0⟩, ⟨.u8, 1104, d1⟩], .int .i64 (d2)]) []) p0)
  | _, _, _ => none

theorem impl_GroupHopf_sh.en_ok (N : Nat) (hE : EnvOk (E25 N) ents) (ρ : Type) (args : List AV) (sh : Heap) (K : AV → Heap → Option ρ) (r : ρ) (h : impl_GroupHopf_sh.en N ρ args sh K = some r) : ∃ v sh', K v sh' = some r ∧ FnOk (E25 N).P 16 args sh v sh' := by
  unfold impl_GroupHopf_sh.en at h
  split at h
  · exact fn_ok hE (kp := impl_GroupHopf_sh.kp) (N := N) Go.Proofs.Try.func16 (c := impl_GroupHopf_sh.bd) (by kernel_rfl) ((impl_GroupHopf_sh.eq N _ _ _ _ _ _ _ _ _ _).trans h)
  · exact fn_ok hE (kp := impl_GroupHopf_n.kp) (N := N) Go.Proofs.Try.func16 (c := impl_GroupHopf_n.bd) (by kernel_rfl) ((impl_GroupHopf_n.eq N _ _).trans h)
  · cases h

noncomputable def E26 (N : Nat) : Env := (E25 N).add 16 (impl_GroupHopf_sh.en N)

theorem E26_ok (N : Nat) : EnvOk (E26 N) ents := Env.add_ok (E25_ok N) (impl_GroupHopf_sh.en_ok N (E25_ok N))

noncomputable def impl_dualBack.kp : Keeps := ⟨[(0, [0, 2, 3, 8], [], []), (2, [0, 2, 3, 4, 8, 11], [], []), (4, [0, 2, 3, 4, 5, 8, 11, 14], [], [])], [(0, [2, 3], [], []), (2, [0, 2, 3, 8], [], []), (4, [0, 2, 3, 4, 8, 11], [], [])], []⟩

noncomputable def impl_dualBack.bd : Code := bodyOf Go.Proofs.Try.f30

noncomputable def impl_dualBack.fin {ρ : Type} (N : Nat) (K : AV → Heap → Option ρ) (gv0 : Nat → Int) : XE → St → Option ρ := finK (E26 N) impl_dualBack.kp.fins Go.Proofs.Try.f30 [⟨false, .flat 512 (.ints .u8 gv0)⟩] K

noncomputable def impl_dualBack.k0 {ρ : Type} (N : Nat) (K : AV → Heap → Option ρ) (gv0 : Nat → Int) : XE → St → Option ρ := (blockK impl_dualBack.kp 1 0 (seqK (xcode (E26 N) ents impl_dualBack.kp 1 N (cB (cB (cB impl_dualBack.bd))) 0) (impl_dualBack.fin N K gv0)))

theorem impl_dualBack.k0_mix {ρ : Type} (N : Nat) (K : AV → Heap → Option ρ) (gv0 : Nat → Int) : mixK (impl_dualBack.fin N K gv0 .ret) (impl_dualBack.k0 N K gv0) = (impl_dualBack.k0 N K gv0) := by
  funext e s; cases e <;> kernel_rfl

noncomputable def impl_dualBack.st0 (gv0 : Nat → Int) (x1 : Int) (gv2 : Nat → Int) : St := ⟨sl 36 [(0, .sptr [(0, 512)]), (2, .sptr [(1, 512)]), (3, .sptr [(2, 512)]), (8, .int .i64 (x1))], [⟨false, .flat 512 (.ints .u8 gv0)⟩, ⟨true, .flat 512 (.ints .u8 (fun _ => 0))⟩, ⟨true, .flat 512 (.ints .u8 gv2)⟩]⟩

noncomputable def impl_dualBack.sx0_0 (gv0 : Nat → Int) (ov9 : Nat → Int) : St := ⟨sl 36 [(2, .sptr [(1, 512)]), (3, .sptr [(2, 512)])], [⟨false, .flat 512 (.ints .u8 gv0)⟩, ⟨true, .flat 512 (.ints .u8 (fun _ => 0))⟩, ⟨true, .flat 512 (.ints .u8 ov9)⟩]⟩

noncomputable def impl_dualBack.k1g {ρ : Type} (N : Nat) (L0 : St → Option ρ) (kv : XE → St → Option ρ) : XE → St → Option ρ := (blockK impl_dualBack.kp 1 2 (blockK impl_dualBack.kp 1 1 (seqK (xcode (E26 N) ents impl_dualBack.kp 1 N (cB (cB (cB (cL (cK (cB (cA (cB (cB impl_dualBack.bd))))))))) 0) (roundK impl_dualBack.kp 1 0 L0 kv))))

theorem impl_dualBack.k1_mix {ρ : Type} (N : Nat) (K : AV → Heap → Option ρ) (L0 : St → Option ρ) (gv0 : Nat → Int) : mixK (impl_dualBack.fin N K gv0 .ret) (impl_dualBack.k1g N L0 (impl_dualBack.k0 N K gv0)) = (impl_dualBack.k1g N L0 (impl_dualBack.k0 N K gv0)) := by
  funext e s; cases e <;> kernel_rfl

noncomputable def impl_dualBack.st1 (gv0 : Nat → Int) (x1 : Int) (x3 : Int) (gv4 : Nat → Int) : St := ⟨sl 36 [(0, .sptr [(0, 512)]), (2, .sptr [(1, 512)]), (3, .sptr [(2, 512)]), (4, .int .i64 (x1)), (8, .int .i64 (x1)), (11, .int .i64 (x3))], [⟨false, .flat 512 (.ints .u8 gv0)⟩, ⟨true, .flat 512 (.ints .u8 (fun _ => 0))⟩, ⟨true, .flat 512 (.ints .u8 gv4)⟩]⟩

noncomputable def impl_dualBack.sx1_0 (gv0 : Nat → Int) (x1 : Int) (ov8 : Nat → Int) : St := ⟨sl 36 [(0, .sptr [(0, 512)]), (2, .sptr [(1, 512)]), (3, .sptr [(2, 512)]), (8, .int .i64 (x1))], [⟨false, .flat 512 (.ints .u8 gv0)⟩, ⟨true, .flat 512 (.ints .u8 (fun _ => 0))⟩, ⟨true, .flat 512 (.ints .u8 ov8)⟩]⟩

noncomputable def impl_dualBack.k2g {ρ : Type} (N : Nat) (L1 : St → Option ρ) (kv : XE → St → Option ρ) : XE → St → Option ρ := (blockK impl_dualBack.kp 1 4 (blockK impl_dualBack.kp 1 3 (seqK (xcode (E26 N) ents impl_dualBack.kp 1 N (cB (cB (cB (cL (cK (cB (cB (cK (cA (cB (cB (cL (cK (cB (cA (cB (cB impl_dualBack.bd))))))))))))))))) 2) (roundK impl_dualBack.kp 1 2 L1 kv))))

theorem impl_dualBack.k2_mix {ρ : Type} (N : Nat) (K : AV → Heap → Option ρ) (L0 : St → Option ρ) (L1 : St → Option ρ) (gv0 : Nat → Int) : mixK (impl_dualBack.fin N K gv0 .ret) (impl_dualBack.k2g N L1 (impl_dualBack.k1g N L0 (impl_dualBack.k0 N K gv0))) = (impl_dualBack.k2g N L1 (impl_dualBack.k1g N L0 (impl_dualBack.k0 N K gv0))) := by
  funext e s; cases e <;> kernel_rfl

noncomputable def impl_dualBack.st2 (gv0 : Nat → Int) (x1 : Int) (x3 : Int) (x5 : Int) (gv6 : Nat → Int) : St := ⟨sl 36 [(0, .sptr [(0, 512)]), (2, .sptr [(1, 512)]), (3, .sptr [(2, 512)]), (4, .int .i64 (x1)), (5, .int .i64 (x3)), (8, .int .i64 (x1)), (11, .int .i64 (x3)), (14, .int .i64 (x5))], [⟨false, .flat 512 (.ints .u8 gv0)⟩, ⟨true, .flat 512 (.ints .u8 (fun _ => 0))⟩, ⟨true, .flat 512 (.ints .u8 gv6)⟩]⟩

noncomputable def impl_dualBack.sx2_0 (gv0 : Nat → Int) (x1 : Int) (x3 : Int) (ov7 : Nat → Int) : St := ⟨sl 36 [(0, .sptr [(0, 512)]), (2, .sptr [(1, 512)]), (3, .sptr [(2, 512)]), (4, .int .i64 (x1)), (8, .int .i64 (x1)), (11, .int .i64 (x3))], [⟨false, .flat 512 (.ints .u8 gv0)⟩, ⟨true, .flat 512 (.ints .u8 (fun _ => 0))⟩, ⟨true, .flat 512 (.ints .u8 ov7)⟩]⟩

theorem impl_dualBack.b2_gen {ρ : Type} (N : Nat) (K : AV → Heap → Option ρ) (L2 : St → Option ρ) (kv : XE → St → Option ρ) (gv0 : Nat → Int) (x1 : Int) (x3 : Int) (x5 : Int) (gv6 : Nat → Int) :
    xcode (E26 N) ents impl_dualBack.kp 1 N (cL (cK (cB (cB (cK (cA (cB (cB (cL (cK (cB (cB (cK (cA (cB (cB (cL (cK (cB (cA (cB (cB impl_dualBack.bd)))))))))))))))))))))) 4 (impl_dualBack.st2 gv0 x1 x3 x5 gv6) (roundK impl_dualBack.kp 1 4 L2 (mixK (impl_dualBack.fin N K gv0 .ret) kv)) = (impl_dualBack.b2 N (fun d0 => K (.agg [⟨.u8, 512, d0⟩]) [⟨false, .flat 512 (.ints .u8 gv0)⟩]) (fun x5 gv6 => L2 (impl_dualBack.st2 gv0 x1 x3 x5 gv6)) (fun ov7 => kv (.exit 4) (impl_dualBack.sx2_0 gv0 x1 x3 ov7)) gv0 x1 x3 x5 gv6) := by kernel_rfl

theorem impl_dualBack.b2_eq {ρ : Type} (N : Nat) (K : AV → Heap → Option ρ) (L0 : St → Option ρ) (L1 : St → Option ρ) (L2 : St → Option ρ) (gv0 : Nat → Int) (x1 : Int) (x3 : Int) (x5 : Int) (gv6 : Nat → Int) :
    xcode (E26 N) ents impl_dualBack.kp 1 N (cL (cK (cB (cB (cK (cA (cB (cB (cL (cK (cB (cB (cK (cA (cB (cB (cL (cK (cB (cA (cB (cB impl_dualBack.bd)))))))))))))))))))))) 4 (impl_dualBack.st2 gv0 x1 x3 x5 gv6) (roundK impl_dualBack.kp 1 4 L2 (impl_dualBack.k2g N L1 (impl_dualBack.k1g N L0 (impl_dualBack.k0 N K gv0)))) = (impl_dualBack.b2 N (fun d0 => K (.agg [⟨.u8, 512, d0⟩]) [⟨false, .flat 512 (.ints .u8 gv0)⟩]) (fun x5 gv6 => L2 (impl_dualBack.st2 gv0 x1 x3 x5 gv6)) (fun ov7 => (impl_dualBack.k2g N L1 (impl_dualBack.k1g N L0 (impl_dualBack.k0 N K gv0))) (.exit 4) (impl_dualBack.sx2_0 gv0 x1 x3 ov7)) gv0 x1 x3 x5 gv6) := by
  have h := impl_dualBack.b2_gen N K L2 (impl_dualBack.k2g N L1 (impl_dualBack.k1g N L0 (impl_dualBack.k0 N K gv0))) gv0 x1 x3 x5 gv6
  rw [impl_dualBack.k2_mix] at h
  exact h

theorem impl_dualBack.a2_0_gen {ρ : Type} (N : Nat) (K : AV → Heap → Option ρ) (L1 : St → Option ρ) (kv : XE → St → Option ρ) (gv0 : Nat → Int) (x1 : Int) (x3 : Int) (ov7 : Nat → Int) :
    (impl_dualBack.k2g N L1 (mixK (impl_dualBack.fin N K gv0 .ret) kv)) (.exit 4) (impl_dualBack.sx2_0 gv0 x1 x3 ov7) = (impl_dualBack.a2_0 N (fun d0 => K (.agg [⟨.u8, 512, d0⟩]) [⟨false, .flat 512 (.ints .u8 gv0)⟩]) (fun x3 gv4 => L1 (impl_dualBack.st1 gv0 x1 x3 gv4)) (fun ov8 => kv (.exit 2) (impl_dualBack.sx1_0 gv0 x1 ov8)) x3 ov7) := by kernel_rfl

theorem impl_dualBack.a2_0_eq {ρ : Type} (N : Nat) (K : AV → Heap → Option ρ) (L0 : St → Option ρ) (L1 : St → Option ρ) (gv0 : Nat → Int) (x1 : Int) (x3 : Int) (ov7 : Nat → Int) :
    (impl_dualBack.k2g N L1 (impl_dualBack.k1g N L0 (impl_dualBack.k0 N K gv0))) (.exit 4) (impl_dualBack.sx2_0 gv0 x1 x3 ov7) = (impl_dualBack.a2_0 N (fun d0 => K (.agg [⟨.u8, 512, d0⟩]) [⟨false, .flat 512 (.ints .u8 gv0)⟩]) (fun x3 gv4 => L1 (impl_dualBack.st1 gv0 x1 x3 gv4)) (fun ov8 => (impl_dualBack.k1g N L0 (impl_dualBack.k0 N K gv0)) (.exit 2) (impl_dualBack.sx1_0 gv0 x1 ov8)) x3 ov7) := by
  have h := impl_dualBack.a2_0_gen N K L1 (impl_dualBack.k1g N L0 (impl_dualBack.k0 N K gv0)) gv0 x1 x3 ov7
  rw [impl_dualBack.k1_mix] at h
  exact h

theorem impl_dualBack.b1_gen {ρ : Type} (N : Nat) (K : AV → Heap → Option ρ) (L1 : St → Option ρ) (kv : XE → St → Option ρ) (gv0 : Nat → Int) (x1 : Int) (x3 : Int) (gv4 : Nat → Int) :
    xcode (E26 N) ents impl_dualBack.kp 1 N (cL (cK (cB (cB (cK (cA (cB (cB (cL (cK (cB (cA (cB (cB impl_dualBack.bd)))))))))))))) 2 (impl_dualBack.st1 gv0 x1 x3 gv4) (roundK impl_dualBack.kp 1 2 L1 (mixK (impl_dualBack.fin N K gv0 .ret) kv)) = (impl_dualBack.b1 N (fun d0 => K (.agg [⟨.u8, 512, d0⟩]) [⟨false, .flat 512 (.ints .u8 gv0)⟩]) (fun x5 gv6 => xloop (xcode (E26 N) ents impl_dualBack.kp 1 N (cL (cK (cB (cB (cK (cA (cB (cB (cL (cK (cB (cB (cK (cA (cB (cB (cL (cK (cB (cA (cB (cB impl_dualBack.bd)))))))))))))))))))))) 4) impl_dualBack.kp 1 4 N (impl_dualBack.st2 gv0 x1 x3 x5 gv6) (impl_dualBack.k2g N L1 (mixK (impl_dualBack.fin N K gv0 .ret) kv))) (fun x3 gv4 => L1 (impl_dualBack.st1 gv0 x1 x3 gv4)) (fun ov8 => kv (.exit 2) (impl_dualBack.sx1_0 gv0 x1 ov8)) x3 gv4) := by kernel_rfl

theorem impl_dualBack.b1_eq {ρ : Type} (N : Nat) (K : AV → Heap → Option ρ) (L0 : St → Option ρ) (L1 : St → Option ρ) (gv0 : Nat → Int) (x1 : Int) (x3 : Int) (gv4 : Nat → Int) :
    xcode (E26 N) ents impl_dualBack.kp 1 N (cL (cK (cB (cB (cK (cA (cB (cB (cL (cK (cB (cA (cB (cB impl_dualBack.bd)))))))))))))) 2 (impl_dualBack.st1 gv0 x1 x3 gv4) (roundK impl_dualBack.kp 1 2 L1 (impl_dualBack.k1g N L0 (impl_dualBack.k0 N K gv0))) = (impl_dualBack.b1 N (fun d0 => K (.agg [⟨.u8, 512, d0⟩]) [⟨false, .flat 512 (.ints .u8 gv0)⟩]) (fun x5 gv6 => xloop (xcode (E26 N) ents impl_dualBack.kp 1 N (cL (cK (cB (cB (cK (cA (cB (cB (cL (cK (cB (cB (cK (cA (cB (cB (cL (cK (cB (cA (cB (cB impl_dualBack.bd)))))))))))))))))))))) 4) impl_dualBack.kp 1 4 N (impl_dualBack.st2 gv0 x1 x3 x5 gv6) (impl_dualBack.k2g N L1 (impl_dualBack.k1g N L0 (impl_dualBack.k0 N K gv0)))) (fun x3 gv4 => L1 (impl_dualBack.st1 gv0 x1 x3 gv4)) (fun ov8 => (impl_dualBack.k1g N L0 (impl_dualBack.k0 N K gv0)) (.exit 2) (impl_dualBack.sx1_0 gv0 x1 ov8)) x3 gv4) := by
  have h := impl_dualBack.b1_gen N K L1 (impl_dualBack.k1g N L0 (impl_dualBack.k0 N K gv0)) gv0 x1 x3 gv4
  rw [impl_dualBack.k1_mix] at h
  exact h

theorem impl_dualBack.a1_0_gen {ρ : Type} (N : Nat) (K : AV → Heap → Option ρ) (L0 : St → Option ρ) (kv : XE → St → Option ρ) (gv0 : Nat → Int) (x1 : Int) (ov8 : Nat → Int) :
    (impl_dualBack.k1g N L0 (mixK (impl_dualBack.fin N K gv0 .ret) kv)) (.exit 2) (impl_dualBack.sx1_0 gv0 x1 ov8) = (impl_dualBack.a1_0 N (fun d0 => K (.agg [⟨.u8, 512, d0⟩]) [⟨false, .flat 512 (.ints .u8 gv0)⟩]) (fun x1 gv2 => L0 (impl_dualBack.st0 gv0 x1 gv2)) (fun ov9 => kv (.exit 0) (impl_dualBack.sx0_0 gv0 ov9)) x1 ov8) := by kernel_rfl

theorem impl_dualBack.a1_0_eq {ρ : Type} (N : Nat) (K : AV → Heap → Option ρ) (L0 : St → Option ρ) (gv0 : Nat → Int) (x1 : Int) (ov8 : Nat → Int) :
    (impl_dualBack.k1g N L0 (impl_dualBack.k0 N K gv0)) (.exit 2) (impl_dualBack.sx1_0 gv0 x1 ov8) = (impl_dualBack.a1_0 N (fun d0 => K (.agg [⟨.u8, 512, d0⟩]) [⟨false, .flat 512 (.ints .u8 gv0)⟩]) (fun x1 gv2 => L0 (impl_dualBack.st0 gv0 x1 gv2)) (fun ov9 => (impl_dualBack.k0 N K gv0) (.exit 0) (impl_dualBack.sx0_0 gv0 ov9)) x1 ov8) := by
  have h := impl_dualBack.a1_0_gen N K L0 (impl_dualBack.k0 N K gv0) gv0 x1 ov8
  rw [impl_dualBack.k0_mix] at h
  exact h

theorem impl_dualBack.b0_gen {ρ : Type} (N : Nat) (K : AV → Heap → Option ρ) (L0 : St → Option ρ) (kv : XE → St → Option ρ) (gv0 : Nat → Int) (x1 : Int) (gv2 : Nat → Int) :
    xcode (E26 N) ents impl_dualBack.kp 1 N (cL (cK (cB (cA (cB (cB impl_dualBack.bd)))))) 0 (impl_dualBack.st0 gv0 x1 gv2) (roundK impl_dualBack.kp 1 0 L0 (mixK (impl_dualBack.fin N K gv0 .ret) kv)) = (impl_dualBack.b0 N (fun d0 => K (.agg [⟨.u8, 512, d0⟩]) [⟨false, .flat 512 (.ints .u8 gv0)⟩]) (fun x3 gv4 => xloop (xcode (E26 N) ents impl_dualBack.kp 1 N (cL (cK (cB (cB (cK (cA (cB (cB (cL (cK (cB (cA (cB (cB impl_dualBack.bd)))))))))))))) 2) impl_dualBack.kp 1 2 N (impl_dualBack.st1 gv0 x1 x3 gv4) (impl_dualBack.k1g N L0 (mixK (impl_dualBack.fin N K gv0 .ret) kv))) (fun x1 gv2 => L0 (impl_dualBack.st0 gv0 x1 gv2)) (fun ov9 => kv (.exit 0) (impl_dualBack.sx0_0 gv0 ov9)) x1 gv2) := by kernel_rfl

theorem impl_dualBack.b0_eq {ρ : Type} (N : Nat) (K : AV → Heap → Option ρ) (L0 : St → Option ρ) (gv0 : Nat → Int) (x1 : Int) (gv2 : Nat → Int) :
    xcode (E26 N) ents impl_dualBack.kp 1 N (cL (cK (cB (cA (cB (cB impl_dualBack.bd)))))) 0 (impl_dualBack.st0 gv0 x1 gv2) (roundK impl_dualBack.kp 1 0 L0 (impl_dualBack.k0 N K gv0)) = (impl_dualBack.b0 N (fun d0 => K (.agg [⟨.u8, 512, d0⟩]) [⟨false, .flat 512 (.ints .u8 gv0)⟩]) (fun x3 gv4 => xloop (xcode (E26 N) ents impl_dualBack.kp 1 N (cL (cK (cB (cB (cK (cA (cB (cB (cL (cK (cB (cA (cB (cB impl_dualBack.bd)))))))))))))) 2) impl_dualBack.kp 1 2 N (impl_dualBack.st1 gv0 x1 x3 gv4) (impl_dualBack.k1g N L0 (impl_dualBack.k0 N K gv0))) (fun x1 gv2 => L0 (impl_dualBack.st0 gv0 x1 gv2)) (fun ov9 => (impl_dualBack.k0 N K gv0) (.exit 0) (impl_dualBack.sx0_0 gv0 ov9)) x1 gv2) := by
  have h := impl_dualBack.b0_gen N K L0 (impl_dualBack.k0 N K gv0) gv0 x1 gv2
  rw [impl_dualBack.k0_mix] at h
  exact h

theorem impl_dualBack.a0_0_eq {ρ : Type} (N : Nat) (K : AV → Heap → Option ρ) (gv0 : Nat → Int) (ov9 : Nat → Int) :
    (impl_dualBack.k0 N K gv0) (.exit 0) (impl_dualBack.sx0_0 gv0 ov9) = (impl_dualBack.a0_0 N (fun d0 => K (.agg [⟨.u8, 512, d0⟩]) [⟨false, .flat 512 (.ints .u8 gv0)⟩]) ov9) := by kernel_rfl

theorem impl_dualBack.l2_eq {ρ : Type} (N : Nat) (K : AV → Heap → Option ρ) (L0 : St → Option ρ) (L1 : St → Option ρ) (gv0 : Nat → Int) (x1 : Int) (x3 : Int) :
    ∀ (m : Nat) (x5 : Int) (gv6 : Nat → Int), xloop (xcode (E26 N) ents impl_dualBack.kp 1 N (cL (cK (cB (cB (cK (cA (cB (cB (cL (cK (cB (cB (cK (cA (cB (cB (cL (cK (cB (cA (cB (cB impl_dualBack.bd)))))))))))))))))))))) 4) impl_dualBack.kp 1 4 m (impl_dualBack.st2 gv0 x1 x3 x5 gv6) (impl_dualBack.k2g N L1 (impl_dualBack.k1g N L0 (impl_dualBack.k0 N K gv0))) = (impl_dualBack.l2 N (fun d0 => K (.agg [⟨.u8, 512, d0⟩]) [⟨false, .flat 512 (.ints .u8 gv0)⟩]) gv0 x1 x3 (fun ov7 => (impl_dualBack.k2g N L1 (impl_dualBack.k1g N L0 (impl_dualBack.k0 N K gv0))) (.exit 4) (impl_dualBack.sx2_0 gv0 x1 x3 ov7)) m x5 gv6) := by
  intro m
  induction m with
  | zero => intros; rfl
  | succ m ih =>
    intro x5 gv6
    refine (impl_dualBack.b2_eq N K L0 L1 (fun s => xloop (xcode (E26 N) ents impl_dualBack.kp 1 N (cL (cK (cB (cB (cK (cA (cB (cB (cL (cK (cB (cB (cK (cA (cB (cB (cL (cK (cB (cA (cB (cB impl_dualBack.bd)))))))))))))))))))))) 4) impl_dualBack.kp 1 4 m s (impl_dualBack.k2g N L1 (impl_dualBack.k1g N L0 (impl_dualBack.k0 N K gv0)))) gv0 x1 x3 x5 gv6).trans ?_
    simp only [ih]
    kernel_rfl

theorem impl_dualBack.l1_eq {ρ : Type} (N : Nat) (K : AV → Heap → Option ρ) (L0 : St → Option ρ) (gv0 : Nat → Int) (x1 : Int) :
    ∀ (m : Nat) (x3 : Int) (gv4 : Nat → Int), xloop (xcode (E26 N) ents impl_dualBack.kp 1 N (cL (cK (cB (cB (cK (cA (cB (cB (cL (cK (cB (cA (cB (cB impl_dualBack.bd)))))))))))))) 2) impl_dualBack.kp 1 2 m (impl_dualBack.st1 gv0 x1 x3 gv4) (impl_dualBack.k1g N L0 (impl_dualBack.k0 N K gv0)) = (impl_dualBack.l1 N (fun d0 => K (.agg [⟨.u8, 512, d0⟩]) [⟨false, .flat 512 (.ints .u8 gv0)⟩]) gv0 x1 (fun ov8 => (impl_dualBack.k1g N L0 (impl_dualBack.k0 N K gv0)) (.exit 2) (impl_dualBack.sx1_0 gv0 x1 ov8)) m x3 gv4) := by
  intro m
  induction m with
  | zero => intros; rfl
  | succ m ih =>
    intro x3 gv4
    refine (impl_dualBack.b1_eq N K L0 (fun s => xloop (xcode (E26 N) ents impl_dualBack.kp 1 N (cL (cK (cB (cB (cK (cA (cB (cB (cL (cK (cB (cA (cB (cB impl_dualBack.bd)))))))))))))) 2) impl_dualBack.kp 1 2 m s (impl_dualBack.k1g N L0 (impl_dualBack.k0 N K gv0))) gv0 x1 x3 gv4).trans ?_
    simp only [ih, impl_dualBack.l2_eq, impl_dualBack.a2_0_eq]
    kernel_rfl

theorem impl_dualBack.l0_eq {ρ : Type} (N : Nat) (K : AV → Heap → Option ρ) (gv0 : Nat → Int) :
    ∀ (m : Nat) (x1 : Int) (gv2 : Nat → Int), xloop (xcode (E26 N) ents impl_dualBack.kp 1 N (cL (cK (cB (cA (cB (cB impl_dualBack.bd)))))) 0) impl_dualBack.kp 1 0 m (impl_dualBack.st0 gv0 x1 gv2) (impl_dualBack.k0 N K gv0) = (impl_dualBack.l0 N (fun d0 => K (.agg [⟨.u8, 512, d0⟩]) [⟨false, .flat 512 (.ints .u8 gv0)⟩]) gv0 (fun ov9 => (impl_dualBack.k0 N K gv0) (.exit 0) (impl_dualBack.sx0_0 gv0 ov9)) m x1 gv2) := by
  intro m
  induction m with
  | zero => intros; rfl
  | succ m ih =>
    intro x1 gv2
    refine (impl_dualBack.b0_eq N K (fun s => xloop (xcode (E26 N) ents impl_dualBack.kp 1 N (cL (cK (cB (cA (cB (cB impl_dualBack.bd)))))) 0) impl_dualBack.kp 1 0 m s (impl_dualBack.k0 N K gv0)) gv0 x1 gv2).trans ?_
    simp only [ih, impl_dualBack.l1_eq, impl_dualBack.a1_0_eq]
    kernel_rfl

theorem impl_dualBack.s_eq {ρ : Type} (N : Nat) (K : AV → Heap → Option ρ) (gv0 : Nat → Int) :
    xbody (E26 N) ents impl_dualBack.kp N Go.Proofs.Try.f30 impl_dualBack.bd [.sptr [(0, 512)]] [⟨false, .flat 512 (.ints .u8 gv0)⟩] K = (impl_dualBack.s N (fun d0 => K (.agg [⟨.u8, 512, d0⟩]) [⟨false, .flat 512 (.ints .u8 gv0)⟩]) (fun x1 gv2 => xloop (xcode (E26 N) ents impl_dualBack.kp 1 N (cL (cK (cB (cA (cB (cB impl_dualBack.bd)))))) 0) impl_dualBack.kp 1 0 N (impl_dualBack.st0 gv0 x1 gv2) (impl_dualBack.k0 N K gv0))) := by kernel_rfl

theorem impl_dualBack.eq {ρ : Type} (N : Nat) (K : AV → Heap → Option ρ) (gv0 : Nat → Int) :
    xbody (E26 N) ents impl_dualBack.kp N Go.Proofs.Try.f30 impl_dualBack.bd [.sptr [(0, 512)]] [⟨false, .flat 512 (.ints .u8 gv0)⟩] K = (impl_dualBack N (fun d0 => K (.agg [⟨.u8, 512, d0⟩]) [⟨false, .flat 512 (.ints .u8 gv0)⟩]) gv0) := by
  refine (impl_dualBack.s_eq N K gv0).trans ?_
  simp only [impl_dualBack.l0_eq, impl_dualBack.a0_0_eq]
  kernel_rfl

noncomputable def impl_dualBack.en (N : Nat) (ρ : Type) : List AV → Heap → (AV → Heap → Option ρ) → Option ρ
  | [.sptr [(0, 512)]], [⟨false, .flat 512 (.ints .u8 gv0)⟩], K => (impl_dualBack N (fun d0 => K (.agg [⟨.u8, 512, d0⟩]) [⟨false, .flat 512 (.ints .u8 gv0)⟩]) gv0)
  | _, _, _ => none

theorem impl_dualBack.en_ok (N : Nat) (hE : EnvOk (E26 N) ents) (ρ : Type) (args : List AV) (sh : Heap) (K : AV → Heap → Option ρ) (r : ρ) (h : impl_dualBack.en N ρ args sh K = some r) : ∃ v sh', K v sh' = some r ∧ FnOk (E26 N).P 30 args sh v sh' := by
  unfold impl_dualBack.en at h
  split at h
  · exact fn_ok hE (kp := impl_dualBack.kp) (N := N) Go.Proofs.Try.func30 (c := impl_dualBack.bd) (by kernel_rfl) ((impl_dualBack.eq N _ _).trans h)
  · cases h

noncomputable def E27 (N : Nat) : Env := (E26 N).add 30 (impl_dualBack.en N)

theorem E27_ok (N : Nat) : EnvOk (E27 N) ents := Env.add_ok (E26_ok N) (impl_dualBack.en_ok N (E26_ok N))
end Go.Proofs.Ytgfmgfgjpobndaa.H
