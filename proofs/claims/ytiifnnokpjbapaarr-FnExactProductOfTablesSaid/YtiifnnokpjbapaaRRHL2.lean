/- The program computes these functions. -/
import Derived.Test.YtiifnnokpjbapaaRRHL1
namespace Go.Proofs.YtiifnnokpjbapaaRR.H
set_option linter.unusedVariables false
set_option linter.unusedSimpArgs false
open Go Go.RowKit Go.Proofs.YtiifnnokpjbapaaRR.Hy
set_option linter.unusedVariables false
set_option maxRecDepth 100000
noncomputable def impl_inverseIn_sh.kp : Keeps := ⟨[(0, [0, 1, 7, 8], [], [])], [(0, [], [], [])], []⟩

noncomputable def impl_inverseIn_sh.bd : Code := bodyOf Go.Proofs.Try.f65

noncomputable def impl_inverseIn_sh.fin {ρ : Type} (N : Nat) (K : AV → Heap → Option ρ) (gv3 : Nat) (gv4 : Nat) (gv5 : Nat → Nat) (gv6 : Nat → Nat) (gv7 : Nat → Nat) (gv8 : Nat → Int) : XE → St → Option ρ := finK (E14 N) impl_inverseIn_sh.kp.fins Go.Proofs.Try.f65 [⟨false, .hdr 1 gv3 gv4 gv5 gv6 (some gv7)⟩, ⟨false, .flat 0 (.ints .i64 gv8)⟩] K

noncomputable def impl_inverseIn_sh.k0 {ρ : Type} (N : Nat) (K : AV → Heap → Option ρ) (gv3 : Nat) (gv4 : Nat) (gv5 : Nat → Nat) (gv6 : Nat → Nat) (gv7 : Nat → Nat) (gv8 : Nat → Int) : XE → St → Option ρ := (blockK impl_inverseIn_sh.kp 2 0 (seqK (xcode (E14 N) ents impl_inverseIn_sh.kp 2 N (cB (cB impl_inverseIn_sh.bd)) 0) (impl_inverseIn_sh.fin N K gv3 gv4 gv5 gv6 gv7 gv8)))

theorem impl_inverseIn_sh.k0_mix {ρ : Type} (N : Nat) (K : AV → Heap → Option ρ) (gv3 : Nat) (gv4 : Nat) (gv5 : Nat → Nat) (gv6 : Nat → Nat) (gv7 : Nat → Nat) (gv8 : Nat → Int) : mixK (impl_inverseIn_sh.fin N K gv3 gv4 gv5 gv6 gv7 gv8 .ret) (impl_inverseIn_sh.k0 N K gv3 gv4 gv5 gv6 gv7 gv8) = (impl_inverseIn_sh.k0 N K gv3 gv4 gv5 gv6 gv7 gv8) := by
  funext e s; cases e <;> kernel_rfl

noncomputable def impl_inverseIn_sh.st0 (table0 : Nat) (table1 : Nat) (i2 : Int) (gv3 : Nat) (gv4 : Nat) (gv5 : Nat → Nat) (gv6 : Nat → Nat) (gv7 : Nat → Nat) (gv8 : Nat → Int) (x9 : Int) : St := ⟨sl 31 [(0, .slice true 0 0 table0 (.exact table1) 1), (1, .int .i64 (i2)), (7, .int .i64 ((table0 : Int))), (8, .int .i64 (x9))], [⟨false, .hdr 1 gv3 gv4 gv5 gv6 (some gv7)⟩, ⟨false, .flat 0 (.ints .i64 gv8)⟩]⟩

noncomputable def impl_inverseIn_sh.sx0_0 (gv3 : Nat) (gv4 : Nat) (gv5 : Nat → Nat) (gv6 : Nat → Nat) (gv7 : Nat → Nat) (gv8 : Nat → Int) : St := ⟨sl 31 [], [⟨false, .hdr 1 gv3 gv4 gv5 gv6 (some gv7)⟩, ⟨false, .flat 0 (.ints .i64 gv8)⟩]⟩

theorem impl_inverseIn_sh.b0_gen {ρ : Type} (N : Nat) (K : AV → Heap → Option ρ) (L0 : St → Option ρ) (kv : XE → St → Option ρ) (table0 : Nat) (table1 : Nat) (i2 : Int) (gv3 : Nat) (gv4 : Nat) (gv5 : Nat → Nat) (gv6 : Nat → Nat) (gv7 : Nat → Nat) (gv8 : Nat → Int) (x9 : Int) :
    xcode (E14 N) ents impl_inverseIn_sh.kp 2 N (cL (cK (cB (cA (cB impl_inverseIn_sh.bd))))) 0 (impl_inverseIn_sh.st0 table0 table1 i2 gv3 gv4 gv5 gv6 gv7 gv8 x9) (roundK impl_inverseIn_sh.kp 2 0 L0 (mixK (impl_inverseIn_sh.fin N K gv3 gv4 gv5 gv6 gv7 gv8 .ret) kv)) = (impl_inverseIn_sh.b0 N (fun d0 => K (.int .i64 (d0)) [⟨false, .hdr 1 gv3 gv4 gv5 gv6 (some gv7)⟩, ⟨false, .flat 0 (.ints .i64 gv8)⟩]) (fun x9 => L0 (impl_inverseIn_sh.st0 table0 table1 i2 gv3 gv4 gv5 gv6 gv7 gv8 x9)) (kv (.exit 0) (impl_inverseIn_sh.sx0_0 gv3 gv4 gv5 gv6 gv7 gv8)) table0 i2 gv5 gv6 gv8 x9) := by kernel_rfl

theorem impl_inverseIn_sh.b0_eq {ρ : Type} (N : Nat) (K : AV → Heap → Option ρ) (L0 : St → Option ρ) (table0 : Nat) (table1 : Nat) (i2 : Int) (gv3 : Nat) (gv4 : Nat) (gv5 : Nat → Nat) (gv6 : Nat → Nat) (gv7 : Nat → Nat) (gv8 : Nat → Int) (x9 : Int) :
    xcode (E14 N) ents impl_inverseIn_sh.kp 2 N (cL (cK (cB (cA (cB impl_inverseIn_sh.bd))))) 0 (impl_inverseIn_sh.st0 table0 table1 i2 gv3 gv4 gv5 gv6 gv7 gv8 x9) (roundK impl_inverseIn_sh.kp 2 0 L0 (impl_inverseIn_sh.k0 N K gv3 gv4 gv5 gv6 gv7 gv8)) = (impl_inverseIn_sh.b0 N (fun d0 => K (.int .i64 (d0)) [⟨false, .hdr 1 gv3 gv4 gv5 gv6 (some gv7)⟩, ⟨false, .flat 0 (.ints .i64 gv8)⟩]) (fun x9 => L0 (impl_inverseIn_sh.st0 table0 table1 i2 gv3 gv4 gv5 gv6 gv7 gv8 x9)) ((impl_inverseIn_sh.k0 N K gv3 gv4 gv5 gv6 gv7 gv8) (.exit 0) (impl_inverseIn_sh.sx0_0 gv3 gv4 gv5 gv6 gv7 gv8)) table0 i2 gv5 gv6 gv8 x9) := by
  have h := impl_inverseIn_sh.b0_gen N K L0 (impl_inverseIn_sh.k0 N K gv3 gv4 gv5 gv6 gv7 gv8) table0 table1 i2 gv3 gv4 gv5 gv6 gv7 gv8 x9
  rw [impl_inverseIn_sh.k0_mix] at h
  exact h

theorem impl_inverseIn_sh.a0_0_eq {ρ : Type} (N : Nat) (K : AV → Heap → Option ρ) (gv3 : Nat) (gv4 : Nat) (gv5 : Nat → Nat) (gv6 : Nat → Nat) (gv7 : Nat → Nat) (gv8 : Nat → Int) :
    (impl_inverseIn_sh.k0 N K gv3 gv4 gv5 gv6 gv7 gv8) (.exit 0) (impl_inverseIn_sh.sx0_0 gv3 gv4 gv5 gv6 gv7 gv8) = (impl_inverseIn_sh.a0_0 N (fun d0 => K (.int .i64 (d0)) [⟨false, .hdr 1 gv3 gv4 gv5 gv6 (some gv7)⟩, ⟨false, .flat 0 (.ints .i64 gv8)⟩])) := by kernel_rfl

theorem impl_inverseIn_sh.l0_eq {ρ : Type} (N : Nat) (K : AV → Heap → Option ρ) (table0 : Nat) (table1 : Nat) (i2 : Int) (gv3 : Nat) (gv4 : Nat) (gv5 : Nat → Nat) (gv6 : Nat → Nat) (gv7 : Nat → Nat) (gv8 : Nat → Int) :
    ∀ (m : Nat) (x9 : Int), xloop (xcode (E14 N) ents impl_inverseIn_sh.kp 2 N (cL (cK (cB (cA (cB impl_inverseIn_sh.bd))))) 0) impl_inverseIn_sh.kp 2 0 m (impl_inverseIn_sh.st0 table0 table1 i2 gv3 gv4 gv5 gv6 gv7 gv8 x9) (impl_inverseIn_sh.k0 N K gv3 gv4 gv5 gv6 gv7 gv8) = (impl_inverseIn_sh.l0 N (fun d0 => K (.int .i64 (d0)) [⟨false, .hdr 1 gv3 gv4 gv5 gv6 (some gv7)⟩, ⟨false, .flat 0 (.ints .i64 gv8)⟩]) table0 i2 gv5 gv6 gv8 ((impl_inverseIn_sh.k0 N K gv3 gv4 gv5 gv6 gv7 gv8) (.exit 0) (impl_inverseIn_sh.sx0_0 gv3 gv4 gv5 gv6 gv7 gv8)) m x9) := by
  intro m
  induction m with
  | zero => intros; rfl
  | succ m ih =>
    intro x9
    refine (impl_inverseIn_sh.b0_eq N K (fun s => xloop (xcode (E14 N) ents impl_inverseIn_sh.kp 2 N (cL (cK (cB (cA (cB impl_inverseIn_sh.bd))))) 0) impl_inverseIn_sh.kp 2 0 m s (impl_inverseIn_sh.k0 N K gv3 gv4 gv5 gv6 gv7 gv8)) table0 table1 i2 gv3 gv4 gv5 gv6 gv7 gv8 x9).trans ?_
    simp only [ih]
    kernel_rfl

theorem impl_inverseIn_sh.s_eq {ρ : Type} (N : Nat) (K : AV → Heap → Option ρ) (table0 : Nat) (table1 : Nat) (i2 : Int) (gv3 : Nat) (gv4 : Nat) (gv5 : Nat → Nat) (gv6 : Nat → Nat) (gv7 : Nat → Nat) (gv8 : Nat → Int) :
    xbody (E14 N) ents impl_inverseIn_sh.kp N Go.Proofs.Try.f65 impl_inverseIn_sh.bd [.slice true 0 0 table0 (.exact table1) 1, .int .i64 (i2)] [⟨false, .hdr 1 gv3 gv4 gv5 gv6 (some gv7)⟩, ⟨false, .flat 0 (.ints .i64 gv8)⟩] K = (impl_inverseIn_sh.s N (fun d0 => K (.int .i64 (d0)) [⟨false, .hdr 1 gv3 gv4 gv5 gv6 (some gv7)⟩, ⟨false, .flat 0 (.ints .i64 gv8)⟩]) (fun x9 => xloop (xcode (E14 N) ents impl_inverseIn_sh.kp 2 N (cL (cK (cB (cA (cB impl_inverseIn_sh.bd))))) 0) impl_inverseIn_sh.kp 2 0 N (impl_inverseIn_sh.st0 table0 table1 i2 gv3 gv4 gv5 gv6 gv7 gv8 x9) (impl_inverseIn_sh.k0 N K gv3 gv4 gv5 gv6 gv7 gv8))) := by kernel_rfl

theorem impl_inverseIn_sh.eq {ρ : Type} (N : Nat) (K : AV → Heap → Option ρ) (table0 : Nat) (table1 : Nat) (i2 : Int) (gv3 : Nat) (gv4 : Nat) (gv5 : Nat → Nat) (gv6 : Nat → Nat) (gv7 : Nat → Nat) (gv8 : Nat → Int) :
    xbody (E14 N) ents impl_inverseIn_sh.kp N Go.Proofs.Try.f65 impl_inverseIn_sh.bd [.slice true 0 0 table0 (.exact table1) 1, .int .i64 (i2)] [⟨false, .hdr 1 gv3 gv4 gv5 gv6 (some gv7)⟩, ⟨false, .flat 0 (.ints .i64 gv8)⟩] K = (impl_inverseIn_sh N (fun d0 => K (.int .i64 (d0)) [⟨false, .hdr 1 gv3 gv4 gv5 gv6 (some gv7)⟩, ⟨false, .flat 0 (.ints .i64 gv8)⟩]) table0 table1 i2 gv3 gv4 gv5 gv6 gv7 gv8) := by
  refine (impl_inverseIn_sh.s_eq N K table0 table1 i2 gv3 gv4 gv5 gv6 gv7 gv8).trans ?_
  simp only [impl_inverseIn_sh.l0_eq, impl_inverseIn_sh.a0_0_eq]
  kernel_rfl

noncomputable def impl_inverseIn_sh.en (N : Nat) (ρ : Type) : List AV → Heap → (AV → Heap → Option ρ) → Option ρ
  | [.slice true 0 0 table0 (.exact table1) 1, .int .i64 (i2)], [⟨false, .hdr 1 gv3 gv4 gv5 gv6 (some gv7)⟩, ⟨false, .flat 0 (.ints .i64 gv8)⟩], K => (impl_inverseIn_sh N (fun d0 => K (.int .i64 (d0)) [⟨false, .hdr 1 gv3 gv4 gv5 gv6 (some gv7)⟩, ⟨false, .flat 0 (.ints .i64 gv8)⟩]) table0 table1 i2 gv3 gv4 gv5 gv6 gv7 gv8)
  | _, _, _ => none

theorem impl_inverseIn_sh.en_ok (N : Nat) (hE : EnvOk (E14 N) ents) (ρ : Type) (args : List AV) (sh : Heap) (K : AV → Heap → Option ρ) (r : ρ) (h : impl_inverseIn_sh.en N ρ args sh K = some r) : ∃ v sh', K v sh' = some r ∧ FnOk (E14 N).P 65 args sh v sh' := by
  unfold impl_inverseIn_sh.en at h
  split at h
  · exact fn_ok hE (kp := impl_inverseIn_sh.kp) (N := N) Go.Proofs.Try.func65 (c := impl_inverseIn_sh.bd) (by kernel_rfl) ((impl_inverseIn_sh.eq N _ _ _ _ _ _ _ _ _ _).trans h)
  · cases h

noncomputable def E15 (N : Nat) : Env := (E14 N).add 65 (impl_inverseIn_sh.en N)

theorem E15_ok (N : Nat) : EnvOk (E15 N) ents := Env.add_ok (E14_ok N) (impl_inverseIn_sh.en_ok N (E14_ok N))

noncomputable def impl_isGroupAt_sh.kp : Keeps := ⟨[(0, [0, 1, 26, 27], [], []), (2, [0, 1, 5, 26, 27, 31, 32], [], [])], [(0, [0, 1], [], []), (2, [0, 1, 26, 27], [], [])], []⟩

noncomputable def impl_isGroupAt_sh.bd : Code := bodyOf Go.Proofs.Try.f44

noncomputable def impl_isGroupAt_sh.fin {ρ : Type} (N : Nat) (K : AV → Heap → Option ρ) (gv3 : Nat) (gv4 : Nat) (gv5 : Nat → Nat) (gv6 : Nat → Nat) (gv7 : Nat → Nat) (gv8 : Nat → Int) : XE → St → Option ρ := finK (E15 N) impl_isGroupAt_sh.kp.fins Go.Proofs.Try.f44 [⟨false, .hdr 1 gv3 gv4 gv5 gv6 (some gv7)⟩, ⟨false, .flat 0 (.ints .i64 gv8)⟩] K

noncomputable def impl_isGroupAt_sh.k0 {ρ : Type} (N : Nat) (K : AV → Heap → Option ρ) (gv3 : Nat) (gv4 : Nat) (gv5 : Nat → Nat) (gv6 : Nat → Nat) (gv7 : Nat → Nat) (gv8 : Nat → Int) : XE → St → Option ρ := (blockK impl_isGroupAt_sh.kp 2 0 (seqK (xcode (E15 N) ents impl_isGroupAt_sh.kp 2 N (cB (cB (cB impl_isGroupAt_sh.bd))) 0) (impl_isGroupAt_sh.fin N K gv3 gv4 gv5 gv6 gv7 gv8)))

theorem impl_isGroupAt_sh.k0_mix {ρ : Type} (N : Nat) (K : AV → Heap → Option ρ) (gv3 : Nat) (gv4 : Nat) (gv5 : Nat → Nat) (gv6 : Nat → Nat) (gv7 : Nat → Nat) (gv8 : Nat → Int) : mixK (impl_isGroupAt_sh.fin N K gv3 gv4 gv5 gv6 gv7 gv8 .ret) (impl_isGroupAt_sh.k0 N K gv3 gv4 gv5 gv6 gv7 gv8) = (impl_isGroupAt_sh.k0 N K gv3 gv4 gv5 gv6 gv7 gv8) := by
  funext e s; cases e <;> kernel_rfl

noncomputable def impl_isGroupAt_sh.st0 (table0 : Nat) (table1 : Nat) (i2 : Int) (gv3 : Nat) (gv4 : Nat) (gv5 : Nat → Nat) (gv6 : Nat → Nat) (gv7 : Nat → Nat) (gv8 : Nat → Int) (x9 : Int) : St := ⟨sl 68 [(0, .slice true 0 0 table0 (.exact table1) 1), (1, .int .i64 (i2)), (26, .int .i64 ((table0 : Int))), (27, .int .i64 (x9))], [⟨false, .hdr 1 gv3 gv4 gv5 gv6 (some gv7)⟩, ⟨false, .flat 0 (.ints .i64 gv8)⟩]⟩

noncomputable def impl_isGroupAt_sh.sx0_0 (table0 : Nat) (table1 : Nat) (i2 : Int) (gv3 : Nat) (gv4 : Nat) (gv5 : Nat → Nat) (gv6 : Nat → Nat) (gv7 : Nat → Nat) (gv8 : Nat → Int) : St := ⟨sl 68 [(0, .slice true 0 0 table0 (.exact table1) 1), (1, .int .i64 (i2))], [⟨false, .hdr 1 gv3 gv4 gv5 gv6 (some gv7)⟩, ⟨false, .flat 0 (.ints .i64 gv8)⟩]⟩

noncomputable def impl_isGroupAt_sh.k1g {ρ : Type} (N : Nat) (L0 : St → Option ρ) (kv : XE → St → Option ρ) : XE → St → Option ρ := (blockK impl_isGroupAt_sh.kp 2 2 (blockK impl_isGroupAt_sh.kp 2 1 (seqK (xcode (E15 N) ents impl_isGroupAt_sh.kp 2 N (cB (cB (cB (cL (cK (cB (cA (cB (cB impl_isGroupAt_sh.bd))))))))) 0) (roundK impl_isGroupAt_sh.kp 2 0 L0 kv))))

theorem impl_isGroupAt_sh.k1_mix {ρ : Type} (N : Nat) (K : AV → Heap → Option ρ) (L0 : St → Option ρ) (gv3 : Nat) (gv4 : Nat) (gv5 : Nat → Nat) (gv6 : Nat → Nat) (gv7 : Nat → Nat) (gv8 : Nat → Int) : mixK (impl_isGroupAt_sh.fin N K gv3 gv4 gv5 gv6 gv7 gv8 .ret) (impl_isGroupAt_sh.k1g N L0 (impl_isGroupAt_sh.k0 N K gv3 gv4 gv5 gv6 gv7 gv8)) = (impl_isGroupAt_sh.k1g N L0 (impl_isGroupAt_sh.k0 N K gv3 gv4 gv5 gv6 gv7 gv8)) := by
  funext e s; cases e <;> kernel_rfl

noncomputable def impl_isGroupAt_sh.st1 (table0 : Nat) (table1 : Nat) (i2 : Int) (gv3 : Nat) (gv4 : Nat) (gv5 : Nat → Nat) (gv6 : Nat → Nat) (gv7 : Nat → Nat) (gv8 : Nat → Int) (x9 : Int) (x10 : Int) : St := ⟨sl 68 [(0, .slice true 0 0 table0 (.exact table1) 1), (1, .int .i64 (i2)), (5, .int .i64 (x9)), (26, .int .i64 ((table0 : Int))), (27, .int .i64 (x9)), (31, .int .i64 ((table0 : Int))), (32, .int .i64 (x10))], [⟨false, .hdr 1 gv3 gv4 gv5 gv6 (some gv7)⟩, ⟨false, .flat 0 (.ints .i64 gv8)⟩]⟩

noncomputable def impl_isGroupAt_sh.sx1_0 (table0 : Nat) (table1 : Nat) (i2 : Int) (gv3 : Nat) (gv4 : Nat) (gv5 : Nat → Nat) (gv6 : Nat → Nat) (gv7 : Nat → Nat) (gv8 : Nat → Int) (x9 : Int) : St := ⟨sl 68 [(0, .slice true 0 0 table0 (.exact table1) 1), (1, .int .i64 (i2)), (26, .int .i64 ((table0 : Int))), (27, .int .i64 (x9))], [⟨false, .hdr 1 gv3 gv4 gv5 gv6 (some gv7)⟩, ⟨false, .flat 0 (.ints .i64 gv8)⟩]⟩

theorem impl_isGroupAt_sh.b1_gen {ρ : Type} (N : Nat) (K : AV → Heap → Option ρ) (L1 : St → Option ρ) (kv : XE → St → Option ρ) (table0 : Nat) (table1 : Nat) (i2 : Int) (gv3 : Nat) (gv4 : Nat) (gv5 : Nat → Nat) (gv6 : Nat → Nat) (gv7 : Nat → Nat) (gv8 : Nat → Int) (x9 : Int) (x10 : Int) :
    xcode (E15 N) ents impl_isGroupAt_sh.kp 2 N (cL (cK (cB (cB (cK (cA (cB (cB (cL (cK (cB (cA (cB (cB impl_isGroupAt_sh.bd)))))))))))))) 2 (impl_isGroupAt_sh.st1 table0 table1 i2 gv3 gv4 gv5 gv6 gv7 gv8 x9 x10) (roundK impl_isGroupAt_sh.kp 2 2 L1 (mixK (impl_isGroupAt_sh.fin N K gv3 gv4 gv5 gv6 gv7 gv8 .ret) kv)) = (impl_isGroupAt_sh.b1 N (fun d0 => K (.bool (d0)) [⟨false, .hdr 1 gv3 gv4 gv5 gv6 (some gv7)⟩, ⟨false, .flat 0 (.ints .i64 gv8)⟩]) (fun x10 => L1 (impl_isGroupAt_sh.st1 table0 table1 i2 gv3 gv4 gv5 gv6 gv7 gv8 x9 x10)) (kv (.exit 2) (impl_isGroupAt_sh.sx1_0 table0 table1 i2 gv3 gv4 gv5 gv6 gv7 gv8 x9)) table0 i2 gv5 gv6 gv8 x9 x10) := by kernel_rfl

theorem impl_isGroupAt_sh.b1_eq {ρ : Type} (N : Nat) (K : AV → Heap → Option ρ) (L0 : St → Option ρ) (L1 : St → Option ρ) (table0 : Nat) (table1 : Nat) (i2 : Int) (gv3 : Nat) (gv4 : Nat) (gv5 : Nat → Nat) (gv6 : Nat → Nat) (gv7 : Nat → Nat) (gv8 : Nat → Int) (x9 : Int) (x10 : Int) :
    xcode (E15 N) ents impl_isGroupAt_sh.kp 2 N (cL (cK (cB (cB (cK (cA (cB (cB (cL (cK (cB (cA (cB (cB impl_isGroupAt_sh.bd)))))))))))))) 2 (impl_isGroupAt_sh.st1 table0 table1 i2 gv3 gv4 gv5 gv6 gv7 gv8 x9 x10) (roundK impl_isGroupAt_sh.kp 2 2 L1 (impl_isGroupAt_sh.k1g N L0 (impl_isGroupAt_sh.k0 N K gv3 gv4 gv5 gv6 gv7 gv8))) = (impl_isGroupAt_sh.b1 N (fun d0 => K (.bool (d0)) [⟨false, .hdr 1 gv3 gv4 gv5 gv6 (some gv7)⟩, ⟨false, .flat 0 (.ints .i64 gv8)⟩]) (fun x10 => L1 (impl_isGroupAt_sh.st1 table0 table1 i2 gv3 gv4 gv5 gv6 gv7 gv8 x9 x10)) ((impl_isGroupAt_sh.k1g N L0 (impl_isGroupAt_sh.k0 N K gv3 gv4 gv5 gv6 gv7 gv8)) (.exit 2) (impl_isGroupAt_sh.sx1_0 table0 table1 i2 gv3 gv4 gv5 gv6 gv7 gv8 x9)) table0 i2 gv5 gv6 gv8 x9 x10) := by
  have h := impl_isGroupAt_sh.b1_gen N K L1 (impl_isGroupAt_sh.k1g N L0 (impl_isGroupAt_sh.k0 N K gv3 gv4 gv5 gv6 gv7 gv8)) table0 table1 i2 gv3 gv4 gv5 gv6 gv7 gv8 x9 x10
  rw [impl_isGroupAt_sh.k1_mix] at h
  exact h

theorem impl_isGroupAt_sh.a1_0_gen {ρ : Type} (N : Nat) (K : AV → Heap → Option ρ) (L0 : St → Option ρ) (kv : XE → St → Option ρ) (table0 : Nat) (table1 : Nat) (i2 : Int) (gv3 : Nat) (gv4 : Nat) (gv5 : Nat → Nat) (gv6 : Nat → Nat) (gv7 : Nat → Nat) (gv8 : Nat → Int) (x9 : Int) :
    (impl_isGroupAt_sh.k1g N L0 (mixK (impl_isGroupAt_sh.fin N K gv3 gv4 gv5 gv6 gv7 gv8 .ret) kv)) (.exit 2) (impl_isGroupAt_sh.sx1_0 table0 table1 i2 gv3 gv4 gv5 gv6 gv7 gv8 x9) = (impl_isGroupAt_sh.a1_0 N (fun d0 => K (.bool (d0)) [⟨false, .hdr 1 gv3 gv4 gv5 gv6 (some gv7)⟩, ⟨false, .flat 0 (.ints .i64 gv8)⟩]) (fun x9 => L0 (impl_isGroupAt_sh.st0 table0 table1 i2 gv3 gv4 gv5 gv6 gv7 gv8 x9)) (kv (.exit 0) (impl_isGroupAt_sh.sx0_0 table0 table1 i2 gv3 gv4 gv5 gv6 gv7 gv8)) x9) := by kernel_rfl

theorem impl_isGroupAt_sh.a1_0_eq {ρ : Type} (N : Nat) (K : AV → Heap → Option ρ) (L0 : St → Option ρ) (table0 : Nat) (table1 : Nat) (i2 : Int) (gv3 : Nat) (gv4 : Nat) (gv5 : Nat → Nat) (gv6 : Nat → Nat) (gv7 : Nat → Nat) (gv8 : Nat → Int) (x9 : Int) :
    (impl_isGroupAt_sh.k1g N L0 (impl_isGroupAt_sh.k0 N K gv3 gv4 gv5 gv6 gv7 gv8)) (.exit 2) (impl_isGroupAt_sh.sx1_0 table0 table1 i2 gv3 gv4 gv5 gv6 gv7 gv8 x9) = (impl_isGroupAt_sh.a1_0 N (fun d0 => K (.bool (d0)) [⟨false, .hdr 1 gv3 gv4 gv5 gv6 (some gv7)⟩, ⟨false, .flat 0 (.ints .i64 gv8)⟩]) (fun x9 => L0 (impl_isGroupAt_sh.st0 table0 table1 i2 gv3 gv4 gv5 gv6 gv7 gv8 x9)) ((impl_isGroupAt_sh.k0 N K gv3 gv4 gv5 gv6 gv7 gv8) (.exit 0) (impl_isGroupAt_sh.sx0_0 table0 table1 i2 gv3 gv4 gv5 gv6 gv7 gv8)) x9) := by
  have h := impl_isGroupAt_sh.a1_0_gen N K L0 (impl_isGroupAt_sh.k0 N K gv3 gv4 gv5 gv6 gv7 gv8) table0 table1 i2 gv3 gv4 gv5 gv6 gv7 gv8 x9
  rw [impl_isGroupAt_sh.k0_mix] at h
  exact h

theorem impl_isGroupAt_sh.b0_gen {ρ : Type} (N : Nat) (K : AV → Heap → Option ρ) (L0 : St → Option ρ) (kv : XE → St → Option ρ) (table0 : Nat) (table1 : Nat) (i2 : Int) (gv3 : Nat) (gv4 : Nat) (gv5 : Nat → Nat) (gv6 : Nat → Nat) (gv7 : Nat → Nat) (gv8 : Nat → Int) (x9 : Int) :
    xcode (E15 N) ents impl_isGroupAt_sh.kp 2 N (cL (cK (cB (cA (cB (cB impl_isGroupAt_sh.bd)))))) 0 (impl_isGroupAt_sh.st0 table0 table1 i2 gv3 gv4 gv5 gv6 gv7 gv8 x9) (roundK impl_isGroupAt_sh.kp 2 0 L0 (mixK (impl_isGroupAt_sh.fin N K gv3 gv4 gv5 gv6 gv7 gv8 .ret) kv)) = (impl_isGroupAt_sh.b0 N (fun d0 => K (.bool (d0)) [⟨false, .hdr 1 gv3 gv4 gv5 gv6 (some gv7)⟩, ⟨false, .flat 0 (.ints .i64 gv8)⟩]) (fun x10 => xloop (xcode (E15 N) ents impl_isGroupAt_sh.kp 2 N (cL (cK (cB (cB (cK (cA (cB (cB (cL (cK (cB (cA (cB (cB impl_isGroupAt_sh.bd)))))))))))))) 2) impl_isGroupAt_sh.kp 2 2 N (impl_isGroupAt_sh.st1 table0 table1 i2 gv3 gv4 gv5 gv6 gv7 gv8 x9 x10) (impl_isGroupAt_sh.k1g N L0 (mixK (impl_isGroupAt_sh.fin N K gv3 gv4 gv5 gv6 gv7 gv8 .ret) kv))) (fun x9 => L0 (impl_isGroupAt_sh.st0 table0 table1 i2 gv3 gv4 gv5 gv6 gv7 gv8 x9)) (kv (.exit 0) (impl_isGroupAt_sh.sx0_0 table0 table1 i2 gv3 gv4 gv5 gv6 gv7 gv8)) table0 x9) := by kernel_rfl

theorem impl_isGroupAt_sh.b0_eq {ρ : Type} (N : Nat) (K : AV → Heap → Option ρ) (L0 : St → Option ρ) (table0 : Nat) (table1 : Nat) (i2 : Int) (gv3 : Nat) (gv4 : Nat) (gv5 : Nat → Nat) (gv6 : Nat → Nat) (gv7 : Nat → Nat) (gv8 : Nat → Int) (x9 : Int) :
    xcode (E15 N) ents impl_isGroupAt_sh.kp 2 N (cL (cK (cB (cA (cB (cB impl_isGroupAt_sh.bd)))))) 0 (impl_isGroupAt_sh.st0 table0 table1 i2 gv3 gv4 gv5 gv6 gv7 gv8 x9) (roundK impl_isGroupAt_sh.kp 2 0 L0 (impl_isGroupAt_sh.k0 N K gv3 gv4 gv5 gv6 gv7 gv8)) = (impl_isGroupAt_sh.b0 N (fun d0 => K (.bool (d0)) [⟨false, .hdr 1 gv3 gv4 gv5 gv6 (some gv7)⟩, ⟨false, .flat 0 (.ints .i64 gv8)⟩]) (fun x10 => xloop (xcode (E15 N) ents impl_isGroupAt_sh.kp 2 N (cL (cK (cB (cB (cK (cA (cB (cB (cL (cK (cB (cA (cB (cB impl_isGroupAt_sh.bd)))))))))))))) 2) impl_isGroupAt_sh.kp 2 2 N (impl_isGroupAt_sh.st1 table0 table1 i2 gv3 gv4 gv5 gv6 gv7 gv8 x9 x10) (impl_isGroupAt_sh.k1g N L0 (impl_isGroupAt_sh.k0 N K gv3 gv4 gv5 gv6 gv7 gv8))) (fun x9 => L0 (impl_isGroupAt_sh.st0 table0 table1 i2 gv3 gv4 gv5 gv6 gv7 gv8 x9)) ((impl_isGroupAt_sh.k0 N K gv3 gv4 gv5 gv6 gv7 gv8) (.exit 0) (impl_isGroupAt_sh.sx0_0 table0 table1 i2 gv3 gv4 gv5 gv6 gv7 gv8)) table0 x9) := by
  have h := impl_isGroupAt_sh.b0_gen N K L0 (impl_isGroupAt_sh.k0 N K gv3 gv4 gv5 gv6 gv7 gv8) table0 table1 i2 gv3 gv4 gv5 gv6 gv7 gv8 x9
  rw [impl_isGroupAt_sh.k0_mix] at h
  exact h

theorem impl_isGroupAt_sh.a0_0_eq {ρ : Type} (N : Nat) (K : AV → Heap → Option ρ) (table0 : Nat) (table1 : Nat) (i2 : Int) (gv3 : Nat) (gv4 : Nat) (gv5 : Nat → Nat) (gv6 : Nat → Nat) (gv7 : Nat → Nat) (gv8 : Nat → Int) :
    (impl_isGroupAt_sh.k0 N K gv3 gv4 gv5 gv6 gv7 gv8) (.exit 0) (impl_isGroupAt_sh.sx0_0 table0 table1 i2 gv3 gv4 gv5 gv6 gv7 gv8) = (impl_isGroupAt_sh.a0_0 N (fun d0 => K (.bool (d0)) [⟨false, .hdr 1 gv3 gv4 gv5 gv6 (some gv7)⟩, ⟨false, .flat 0 (.ints .i64 gv8)⟩]) table0 table1 i2 gv4 gv5 gv6 gv7 gv8) := by kernel_rfl

theorem impl_isGroupAt_sh.l1_eq {ρ : Type} (N : Nat) (K : AV → Heap → Option ρ) (L0 : St → Option ρ) (table0 : Nat) (table1 : Nat) (i2 : Int) (gv3 : Nat) (gv4 : Nat) (gv5 : Nat → Nat) (gv6 : Nat → Nat) (gv7 : Nat → Nat) (gv8 : Nat → Int) (x9 : Int) :
    ∀ (m : Nat) (x10 : Int), xloop (xcode (E15 N) ents impl_isGroupAt_sh.kp 2 N (cL (cK (cB (cB (cK (cA (cB (cB (cL (cK (cB (cA (cB (cB impl_isGroupAt_sh.bd)))))))))))))) 2) impl_isGroupAt_sh.kp 2 2 m (impl_isGroupAt_sh.st1 table0 table1 i2 gv3 gv4 gv5 gv6 gv7 gv8 x9 x10) (impl_isGroupAt_sh.k1g N L0 (impl_isGroupAt_sh.k0 N K gv3 gv4 gv5 gv6 gv7 gv8)) = (impl_isGroupAt_sh.l1 N (fun d0 => K (.bool (d0)) [⟨false, .hdr 1 gv3 gv4 gv5 gv6 (some gv7)⟩, ⟨false, .flat 0 (.ints .i64 gv8)⟩]) table0 i2 gv5 gv6 gv8 x9 ((impl_isGroupAt_sh.k1g N L0 (impl_isGroupAt_sh.k0 N K gv3 gv4 gv5 gv6 gv7 gv8)) (.exit 2) (impl_isGroupAt_sh.sx1_0 table0 table1 i2 gv3 gv4 gv5 gv6 gv7 gv8 x9)) m x10) := by
  intro m
  induction m with
  | zero => intros; rfl
  | succ m ih =>
    intro x10
    refine (impl_isGroupAt_sh.b1_eq N K L0 (fun s => xloop (xcode (E15 N) ents impl_isGroupAt_sh.kp 2 N (cL (cK (cB (cB (cK (cA (cB (cB (cL (cK (cB (cA (cB (cB impl_isGroupAt_sh.bd)))))))))))))) 2) impl_isGroupAt_sh.kp 2 2 m s (impl_isGroupAt_sh.k1g N L0 (impl_isGroupAt_sh.k0 N K gv3 gv4 gv5 gv6 gv7 gv8))) table0 table1 i2 gv3 gv4 gv5 gv6 gv7 gv8 x9 x10).trans ?_
    simp only [ih]
    kernel_rfl

theorem impl_isGroupAt_sh.l0_eq {ρ : Type} (N : Nat) (K : AV → Heap → Option ρ) (table0 : Nat) (table1 : Nat) (i2 : Int) (gv3 : Nat) (gv4 : Nat) (gv5 : Nat → Nat) (gv6 : Nat → Nat) (gv7 : Nat → Nat) (gv8 : Nat → Int) :
    ∀ (m : Nat) (x9 : Int), xloop (xcode (E15 N) ents impl_isGroupAt_sh.kp 2 N (cL (cK (cB (cA (cB (cB impl_isGroupAt_sh.bd)))))) 0) impl_isGroupAt_sh.kp 2 0 m (impl_isGroupAt_sh.st0 table0 table1 i2 gv3 gv4 gv5 gv6 gv7 gv8 x9) (impl_isGroupAt_sh.k0 N K gv3 gv4 gv5 gv6 gv7 gv8) = (impl_isGroupAt_sh.l0 N (fun d0 => K (.bool (d0)) [⟨false, .hdr 1 gv3 gv4 gv5 gv6 (some gv7)⟩, ⟨false, .flat 0 (.ints .i64 gv8)⟩]) table0 i2 gv5 gv6 gv8 ((impl_isGroupAt_sh.k0 N K gv3 gv4 gv5 gv6 gv7 gv8) (.exit 0) (impl_isGroupAt_sh.sx0_0 table0 table1 i2 gv3 gv4 gv5 gv6 gv7 gv8)) m x9) := by
  intro m
  induction m with
  | zero => intros; rfl
  | succ m ih =>
    intro x9
    refine (impl_isGroupAt_sh.b0_eq N K (fun s => xloop (xcode (E15 N) ents impl_isGroupAt_sh.kp 2 N (cL (cK (cB (cA (cB (cB impl_isGroupAt_sh.bd)))))) 0) impl_isGroupAt_sh.kp 2 0 m s (impl_isGroupAt_sh.k0 N K gv3 gv4 gv5 gv6 gv7 gv8)) table0 table1 i2 gv3 gv4 gv5 gv6 gv7 gv8 x9).trans ?_
    simp only [ih, impl_isGroupAt_sh.l1_eq, impl_isGroupAt_sh.a1_0_eq]
    kernel_rfl

theorem impl_isGroupAt_sh.s_eq {ρ : Type} (N : Nat) (K : AV → Heap → Option ρ) (table0 : Nat) (table1 : Nat) (i2 : Int) (gv3 : Nat) (gv4 : Nat) (gv5 : Nat → Nat) (gv6 : Nat → Nat) (gv7 : Nat → Nat) (gv8 : Nat → Int) :
    xbody (E15 N) ents impl_isGroupAt_sh.kp N Go.Proofs.Try.f44 impl_isGroupAt_sh.bd [.slice true 0 0 table0 (.exact table1) 1, .int .i64 (i2)] [⟨false, .hdr 1 gv3 gv4 gv5 gv6 (some gv7)⟩, ⟨false, .flat 0 (.ints .i64 gv8)⟩] K = (impl_isGroupAt_sh.s N (fun d0 => K (.bool (d0)) [⟨false, .hdr 1 gv3 gv4 gv5 gv6 (some gv7)⟩, ⟨false, .flat 0 (.ints .i64 gv8)⟩]) (fun x9 => xloop (xcode (E15 N) ents impl_isGroupAt_sh.kp 2 N (cL (cK (cB (cA (cB (cB impl_isGroupAt_sh.bd)))))) 0) impl_isGroupAt_sh.kp 2 0 N (impl_isGroupAt_sh.st0 table0 table1 i2 gv3 gv4 gv5 gv6 gv7 gv8 x9) (impl_isGroupAt_sh.k0 N K gv3 gv4 gv5 gv6 gv7 gv8)) table0 i2 gv5 gv6 gv8) := by kernel_rfl

theorem impl_isGroupAt_sh.eq {ρ : Type} (N : Nat) (K : AV → Heap → Option ρ) (table0 : Nat) (table1 : Nat) (i2 : Int) (gv3 : Nat) (gv4 : Nat) (gv5 : Nat → Nat) (gv6 : Nat → Nat) (gv7 : Nat → Nat) (gv8 : Nat → Int) :
    xbody (E15 N) ents impl_isGroupAt_sh.kp N Go.Proofs.Try.f44 impl_isGroupAt_sh.bd [.slice true 0 0 table0 (.exact table1) 1, .int .i64 (i2)] [⟨false, .hdr 1 gv3 gv4 gv5 gv6 (some gv7)⟩, ⟨false, .flat 0 (.ints .i64 gv8)⟩] K = (impl_isGroupAt_sh N (fun d0 => K (.bool (d0)) [⟨false, .hdr 1 gv3 gv4 gv5 gv6 (some gv7)⟩, ⟨false, .flat 0 (.ints .i64 gv8)⟩]) table0 table1 i2 gv3 gv4 gv5 gv6 gv7 gv8) := by
  refine (impl_isGroupAt_sh.s_eq N K table0 table1 i2 gv3 gv4 gv5 gv6 gv7 gv8).trans ?_
  simp only [impl_isGroupAt_sh.l0_eq, impl_isGroupAt_sh.a0_0_eq]
  kernel_rfl

noncomputable def impl_isGroupAt_sh.en (N : Nat) (ρ : Type) : List AV → Heap → (AV → Heap → Option ρ) → Option ρ
  | [.slice true 0 0 table0 (.exact table1) 1, .int .i64 (i2)], [⟨false, .hdr 1 gv3 gv4 gv5 gv6 (some gv7)⟩, ⟨false, .flat 0 (.ints .i64 gv8)⟩], K => (impl_isGroupAt_sh N (fun d0 => K (.bool (d0)) [⟨false, .hdr 1 gv3 gv4 gv5 gv6 (some gv7)⟩, ⟨false, .flat 0 (.ints .i64 gv8)⟩]) table0 table1 i2 gv3 gv4 gv5 gv6 gv7 gv8)
  | _, _, _ => none

theorem impl_isGroupAt_sh.en_ok (N : Nat) (hE : EnvOk (E15 N) ents) (ρ : Type) (args : List AV) (sh : Heap) (K : AV → Heap → Option ρ) (r : ρ) (h : impl_isGroupAt_sh.en N ρ args sh K = some r) : ∃ v sh', K v sh' = some r ∧ FnOk (E15 N).P 44 args sh v sh' := by
  unfold impl_isGroupAt_sh.en at h
  split at h
  · exact fn_ok hE (kp := impl_isGroupAt_sh.kp) (N := N) Go.Proofs.Try.func44 (c := impl_isGroupAt_sh.bd) (by kernel_rfl) ((impl_isGroupAt_sh.eq N _ _ _ _ _ _ _ _ _ _).trans h)
  · cases h

noncomputable def E16 (N : Nat) : Env := (E15 N).add 44 (impl_isGroupAt_sh.en N)

theorem E16_ok (N : Nat) : EnvOk (E16 N) ents := Env.add_ok (E15_ok N) (impl_isGroupAt_sh.en_ok N (E15_ok N))

noncomputable def impl_IsGroupTable_sh.kp : Keeps := ⟨[(0, [0, 8, 9], [], [])], [(0, [], [], [])], []⟩

noncomputable def impl_IsGroupTable_sh.bd : Code := bodyOf Go.Proofs.Try.f11

noncomputable def impl_IsGroupTable_sh.fin {ρ : Type} (N : Nat) (K : AV → Heap → Option ρ) (gv2 : Nat) (gv3 : Nat) (gv4 : Nat → Nat) (gv5 : Nat → Nat) (gv6 : Nat → Nat) (gv7 : Nat → Int) : XE → St → Option ρ := finK (E16 N) impl_IsGroupTable_sh.kp.fins Go.Proofs.Try.f11 [⟨false, .hdr 1 gv2 gv3 gv4 gv5 (some gv6)⟩, ⟨false, .flat 0 (.ints .i64 gv7)⟩] K

noncomputable def impl_IsGroupTable_sh.k0 {ρ : Type} (N : Nat) (K : AV → Heap → Option ρ) (gv2 : Nat) (gv3 : Nat) (gv4 : Nat → Nat) (gv5 : Nat → Nat) (gv6 : Nat → Nat) (gv7 : Nat → Int) : XE → St → Option ρ := (blockK impl_IsGroupTable_sh.kp 2 0 (seqK (xcode (E16 N) ents impl_IsGroupTable_sh.kp 2 N (cB (cB (cB impl_IsGroupTable_sh.bd))) 0) (impl_IsGroupTable_sh.fin N K gv2 gv3 gv4 gv5 gv6 gv7)))

theorem impl_IsGroupTable_sh.k0_mix {ρ : Type} (N : Nat) (K : AV → Heap → Option ρ) (gv2 : Nat) (gv3 : Nat) (gv4 : Nat → Nat) (gv5 : Nat → Nat) (gv6 : Nat → Nat) (gv7 : Nat → Int) : mixK (impl_IsGroupTable_sh.fin N K gv2 gv3 gv4 gv5 gv6 gv7 .ret) (impl_IsGroupTable_sh.k0 N K gv2 gv3 gv4 gv5 gv6 gv7) = (impl_IsGroupTable_sh.k0 N K gv2 gv3 gv4 gv5 gv6 gv7) := by
  funext e s; cases e <;> kernel_rfl

noncomputable def impl_IsGroupTable_sh.st0 (table0 : Nat) (table1 : Nat) (gv2 : Nat) (gv3 : Nat) (gv4 : Nat → Nat) (gv5 : Nat → Nat) (gv6 : Nat → Nat) (gv7 : Nat → Int) (x9 : Int) : St := ⟨sl 17 [(0, .slice true 0 0 table0 (.exact table1) 1), (8, .int .i64 ((table0 : Int))), (9, .int .i64 (x9))], [⟨false, .hdr 1 gv2 gv3 gv4 gv5 (some gv6)⟩, ⟨false, .flat 0 (.ints .i64 gv7)⟩]⟩

noncomputable def impl_IsGroupTable_sh.sx0_0 (gv2 : Nat) (gv3 : Nat) (gv4 : Nat → Nat) (gv5 : Nat → Nat) (gv6 : Nat → Nat) (gv7 : Nat → Int) : St := ⟨sl 17 [], [⟨false, .hdr 1 gv2 gv3 gv4 gv5 (some gv6)⟩, ⟨false, .flat 0 (.ints .i64 gv7)⟩]⟩

theorem impl_IsGroupTable_sh.b0_gen {ρ : Type} (N : Nat) (K : AV → Heap → Option ρ) (L0 : St → Option ρ) (kv : XE → St → Option ρ) (table0 : Nat) (table1 : Nat) (gv2 : Nat) (gv3 : Nat) (gv4 : Nat → Nat) (gv5 : Nat → Nat) (gv6 : Nat → Nat) (gv7 : Nat → Int) (x9 : Int) :
    xcode (E16 N) ents impl_IsGroupTable_sh.kp 2 N (cL (cK (cB (cA (cB (cB impl_IsGroupTable_sh.bd)))))) 0 (impl_IsGroupTable_sh.st0 table0 table1 gv2 gv3 gv4 gv5 gv6 gv7 x9) (roundK impl_IsGroupTable_sh.kp 2 0 L0 (mixK (impl_IsGroupTable_sh.fin N K gv2 gv3 gv4 gv5 gv6 gv7 .ret) kv)) = (impl_IsGroupTable_sh.b0 N (fun d0 => K (.bool (d0)) [⟨false, .hdr 1 gv2 gv3 gv4 gv5 (some gv6)⟩, ⟨false, .flat 0 (.ints .i64 gv7)⟩]) (fun x9 => L0 (impl_IsGroupTable_sh.st0 table0 table1 gv2 gv3 gv4 gv5 gv6 gv7 x9)) (kv (.exit 0) (impl_IsGroupTable_sh.sx0_0 gv2 gv3 gv4 gv5 gv6 gv7)) table0 table1 gv3 gv4 gv5 gv6 gv7 x9) := by kernel_rfl

theorem impl_IsGroupTable_sh.b0_eq {ρ : Type} (N : Nat) (K : AV → Heap → Option ρ) (L0 : St → Option ρ) (table0 : Nat) (table1 : Nat) (gv2 : Nat) (gv3 : Nat) (gv4 : Nat → Nat) (gv5 : Nat → Nat) (gv6 : Nat → Nat) (gv7 : Nat → Int) (x9 : Int) :
    xcode (E16 N) ents impl_IsGroupTable_sh.kp 2 N (cL (cK (cB (cA (cB (cB impl_IsGroupTable_sh.bd)))))) 0 (impl_IsGroupTable_sh.st0 table0 table1 gv2 gv3 gv4 gv5 gv6 gv7 x9) (roundK impl_IsGroupTable_sh.kp 2 0 L0 (impl_IsGroupTable_sh.k0 N K gv2 gv3 gv4 gv5 gv6 gv7)) = (impl_IsGroupTable_sh.b0 N (fun d0 => K (.bool (d0)) [⟨false, .hdr 1 gv2 gv3 gv4 gv5 (some gv6)⟩, ⟨false, .flat 0 (.ints .i64 gv7)⟩]) (fun x9 => L0 (impl_IsGroupTable_sh.st0 table0 table1 gv2 gv3 gv4 gv5 gv6 gv7 x9)) ((impl_IsGroupTable_sh.k0 N K gv2 gv3 gv4 gv5 gv6 gv7) (.exit 0) (impl_IsGroupTable_sh.sx0_0 gv2 gv3 gv4 gv5 gv6 gv7)) table0 table1 gv3 gv4 gv5 gv6 gv7 x9) := by
  have h := impl_IsGroupTable_sh.b0_gen N K L0 (impl_IsGroupTable_sh.k0 N K gv2 gv3 gv4 gv5 gv6 gv7) table0 table1 gv2 gv3 gv4 gv5 gv6 gv7 x9
  rw [impl_IsGroupTable_sh.k0_mix] at h
  exact h

theorem impl_IsGroupTable_sh.a0_0_eq {ρ : Type} (N : Nat) (K : AV → Heap → Option ρ) (gv2 : Nat) (gv3 : Nat) (gv4 : Nat → Nat) (gv5 : Nat → Nat) (gv6 : Nat → Nat) (gv7 : Nat → Int) :
    (impl_IsGroupTable_sh.k0 N K gv2 gv3 gv4 gv5 gv6 gv7) (.exit 0) (impl_IsGroupTable_sh.sx0_0 gv2 gv3 gv4 gv5 gv6 gv7) = (impl_IsGroupTable_sh.a0_0 N (fun d0 => K (.bool (d0)) [⟨false, .hdr 1 gv2 gv3 gv4 gv5 (some gv6)⟩, ⟨false, .flat 0 (.ints .i64 gv7)⟩])) := by kernel_rfl

theorem impl_IsGroupTable_sh.l0_eq {ρ : Type} (N : Nat) (K : AV → Heap → Option ρ) (table0 : Nat) (table1 : Nat) (gv2 : Nat) (gv3 : Nat) (gv4 : Nat → Nat) (gv5 : Nat → Nat) (gv6 : Nat → Nat) (gv7 : Nat → Int) :
    ∀ (m : Nat) (x9 : Int), xloop (xcode (E16 N) ents impl_IsGroupTable_sh.kp 2 N (cL (cK (cB (cA (cB (cB impl_IsGroupTable_sh.bd)))))) 0) impl_IsGroupTable_sh.kp 2 0 m (impl_IsGroupTable_sh.st0 table0 table1 gv2 gv3 gv4 gv5 gv6 gv7 x9) (impl_IsGroupTable_sh.k0 N K gv2 gv3 gv4 gv5 gv6 gv7) = (impl_IsGroupTable_sh.l0 N (fun d0 => K (.bool (d0)) [⟨false, .hdr 1 gv2 gv3 gv4 gv5 (some gv6)⟩, ⟨false, .flat 0 (.ints .i64 gv7)⟩]) table0 table1 gv3 gv4 gv5 gv6 gv7 ((impl_IsGroupTable_sh.k0 N K gv2 gv3 gv4 gv5 gv6 gv7) (.exit 0) (impl_IsGroupTable_sh.sx0_0 gv2 gv3 gv4 gv5 gv6 gv7)) m x9) := by
  intro m
  induction m with
  | zero => intros; rfl
  | succ m ih =>
    intro x9
    refine (impl_IsGroupTable_sh.b0_eq N K (fun s => xloop (xcode (E16 N) ents impl_IsGroupTable_sh.kp 2 N (cL (cK (cB (cA (cB (cB impl_IsGroupTable_sh.bd)))))) 0) impl_IsGroupTable_sh.kp 2 0 m s (impl_IsGroupTable_sh.k0 N K gv2 gv3 gv4 gv5 gv6 gv7)) table0 table1 gv2 gv3 gv4 gv5 gv6 gv7 x9).trans ?_
    simp only [ih]
    kernel_rfl

theorem impl_IsGroupTable_sh.s_eq {ρ : Type} (N : Nat) (K : AV → Heap → Option ρ) (table0 : Nat) (table1 : Nat) (gv2 : Nat) (gv3 : Nat) (gv4 : Nat → Nat) (gv5 : Nat → Nat) (gv6 : Nat → Nat) (gv7 : Nat → Int) :
    xbody (E16 N) ents impl_IsGroupTable_sh.kp N Go.Proofs.Try.f11 impl_IsGroupTable_sh.bd [.slice true 0 0 table0 (.exact table1) 1] [⟨false, .hdr 1 gv2 gv3 gv4 gv5 (some gv6)⟩, ⟨false, .flat 0 (.ints .i64 gv7)⟩] K = (impl_IsGroupTable_sh.s N (fun d0 => K (.bool (d0)) [⟨false, .hdr 1 gv2 gv3 gv4 gv5 (some gv6)⟩, ⟨false, .flat 0 (.ints .i64 gv7)⟩]) (fun x9 => xloop (xcode (E16 N) ents impl_IsGroupTable_sh.kp 2 N (cL (cK (cB (cA (cB (cB impl_IsGroupTable_sh.bd)))))) 0) impl_IsGroupTable_sh.kp 2 0 N (impl_IsGroupTable_sh.st0 table0 table1 gv2 gv3 gv4 gv5 gv6 gv7 x9) (impl_IsGroupTable_sh.k0 N K gv2 gv3 gv4 gv5 gv6 gv7)) table0 table1 gv3 gv4 gv5 gv6 gv7) := by kernel_rfl

theorem impl_IsGroupTable_sh.eq {ρ : Type} (N : Nat) (K : AV → Heap → Option ρ) (table0 : Nat) (table1 : Nat) (gv2 : Nat) (gv3 : Nat) (gv4 : Nat → Nat) (gv5 : Nat → Nat) (gv6 : Nat → Nat) (gv7 : Nat → Int) :
    xbody (E16 N) ents impl_IsGroupTable_sh.kp N Go.Proofs.Try.f11 impl_IsGroupTable_sh.bd [.slice true 0 0 table0 (.exact table1) 1] [⟨false, .hdr 1 gv2 gv3 gv4 gv5 (some gv6)⟩, ⟨false, .flat 0 (.ints .i64 gv7)⟩] K = (impl_IsGroupTable_sh N (fun d0 => K (.bool (d0)) [⟨false, .hdr 1 gv2 gv3 gv4 gv5 (some gv6)⟩, ⟨false, .flat 0 (.ints .i64 gv7)⟩]) table0 table1 gv2 gv3 gv4 gv5 gv6 gv7) := by
  refine (impl_IsGroupTable_sh.s_eq N K table0 table1 gv2 gv3 gv4 gv5 gv6 gv7).trans ?_
  simp only [impl_IsGroupTable_sh.l0_eq, impl_IsGroupTable_sh.a0_0_eq]
  kernel_rfl

noncomputable def impl_IsGroupTable_n.kp : Keeps := ⟨[(0, [0, 8, 9], [], [])], [(0, [], [], [])], []⟩

noncomputable def impl_IsGroupTable_n.bd : Code := bodyOf Go.Proofs.Try.f11

noncomputable def impl_IsGroupTable_n.fin {ρ : Type} (N : Nat) (K : AV → Heap → Option ρ) : XE → St → Option ρ := finK (E16 N) impl_IsGroupTable_n.kp.fins Go.Proofs.Try.f11 [] K

noncomputable def impl_IsGroupTable_n.k0 {ρ : Type} (N : Nat) (K : AV → Heap → Option ρ) : XE → St → Option ρ := (blockK impl_IsGroupTable_n.kp 0 0 (seqK (xcode (E16 N) ents impl_IsGroupTable_n.kp 0 N (cB (cB (cB impl_IsGroupTable_n.bd))) 0) (impl_IsGroupTable_n.fin N K)))

theorem impl_IsGroupTable_n.k0_mix {ρ : Type} (N : Nat) (K : AV → Heap → Option ρ) : mixK (impl_IsGroupTable_n.fin N K .ret) (impl_IsGroupTable_n.k0 N K) = (impl_IsGroupTable_n.k0 N K) := by
  funext e s; cases e <;> kernel_rfl

noncomputable def impl_IsGroupTable_n.st0 : St := ⟨sl 17 [(0, .nils), (8, .int .i64 0), (9, .int .i64 0)], []⟩

noncomputable def impl_IsGroupTable_n.sx0_0 : St := ⟨sl 17 [], []⟩

theorem impl_IsGroupTable_n.b0_gen {ρ : Type} (N : Nat) (K : AV → Heap → Option ρ) (L0 : St → Option ρ) (kv : XE → St → Option ρ) :
    xcode (E16 N) ents impl_IsGroupTable_n.kp 0 N (cL (cK (cB (cA (cB (cB impl_IsGroupTable_n.bd)))))) 0 (impl_IsGroupTable_n.st0) (roundK impl_IsGroupTable_n.kp 0 0 L0 (mixK (impl_IsGroupTable_n.fin N K .ret) kv)) = (impl_IsGroupTable_n.b0 N (fun d0 => K (.bool (d0)) []) (L0 (impl_IsGroupTable_n.st0)) (kv (.exit 0) (impl_IsGroupTable_n.sx0_0))) := by kernel_rfl

theorem impl_IsGroupTable_n.b0_eq {ρ : Type} (N : Nat) (K : AV → Heap → Option ρ) (L0 : St → Option ρ) :
    xcode (E16 N) ents impl_IsGroupTable_n.kp 0 N (cL (cK (cB (cA (cB (cB impl_IsGroupTable_n.bd)))))) 0 (impl_IsGroupTable_n.st0) (roundK impl_IsGroupTable_n.kp 0 0 L0 (impl_IsGroupTable_n.k0 N K)) = (impl_IsGroupTable_n.b0 N (fun d0 => K (.bool (d0)) []) (L0 (impl_IsGroupTable_n.st0)) ((impl_IsGroupTable_n.k0 N K) (.exit 0) (impl_IsGroupTable_n.sx0_0))) := by
  have h := impl_IsGroupTable_n.b0_gen N K L0 (impl_IsGroupTable_n.k0 N K) 
  rw [impl_IsGroupTable_n.k0_mix] at h
  exact h

theorem impl_IsGroupTable_n.a0_0_eq {ρ : Type} (N : Nat) (K : AV → Heap → Option ρ) :
    (impl_IsGroupTable_n.k0 N K) (.exit 0) (impl_IsGroupTable_n.sx0_0) = (impl_IsGroupTable_n.a0_0 N (fun d0 => K (.bool (d0)) [])) := by kernel_rfl

theorem impl_IsGroupTable_n.l0_eq {ρ : Type} (N : Nat) (K : AV → Heap → Option ρ) :
    ∀ (m : Nat), xloop (xcode (E16 N) ents impl_IsGroupTable_n.kp 0 N (cL (cK (cB (cA (cB (cB impl_IsGroupTable_n.bd)))))) 0) impl_IsGroupTable_n.kp 0 0 m (impl_IsGroupTable_n.st0) (impl_IsGroupTable_n.k0 N K) = (impl_IsGroupTable_n.l0 N (fun d0 => K (.bool (d0)) []) ((impl_IsGroupTable_n.k0 N K) (.exit 0) (impl_IsGroupTable_n.sx0_0)) m) := by
  intro m
  induction m with
  | zero => intros; rfl
  | succ m ih =>
    refine (impl_IsGroupTable_n.b0_eq N K (fun s => xloop (xcode (E16 N) ents impl_IsGroupTable_n.kp 0 N (cL (cK (cB (cA (cB (cB impl_IsGroupTable_n.bd)))))) 0) impl_IsGroupTable_n.kp 0 0 m s (impl_IsGroupTable_n.k0 N K)) ).trans ?_
    simp only [ih]
    kernel_rfl

theorem impl_IsGroupTable_n.s_eq {ρ : Type} (N : Nat) (K : AV → Heap → Option ρ) :
    xbody (E16 N) ents impl_IsGroupTable_n.kp N Go.Proofs.Try.f11 impl_IsGroupTable_n.bd [.nils] [] K = (impl_IsGroupTable_n.s N (fun d0 => K (.bool (d0)) []) (xloop (xcode (E16 N) ents impl_IsGroupTable_n.kp 0 N (cL (cK (cB (cA (cB (cB impl_IsGroupTable_n.bd)))))) 0) impl_IsGroupTable_n.kp 0 0 N (impl_IsGroupTable_n.st0) (impl_IsGroupTable_n.k0 N K))) := by kernel_rfl

theorem impl_IsGroupTable_n.eq {ρ : Type} (N : Nat) (K : AV → Heap → Option ρ) :
    xbody (E16 N) ents impl_IsGroupTable_n.kp N Go.Proofs.Try.f11 impl_IsGroupTable_n.bd [.nils] [] K = (impl_IsGroupTable_n N (fun d0 => K (.bool (d0)) [])) := by
  refine (impl_IsGroupTable_n.s_eq N K ).trans ?_
  simp only [impl_IsGroupTable_n.l0_eq, impl_IsGroupTable_n.a0_0_eq]
  kernel_rfl

noncomputable def impl_IsGroupTable_sh.en (N : Nat) (ρ : Type) : List AV → Heap → (AV → Heap → Option ρ) → Option ρ
  | [.slice true 0 0 table0 (.exact table1) 1], [⟨false, .hdr 1 gv2 gv3 gv4 gv5 (some gv6)⟩, ⟨false, .flat 0 (.ints .i64 gv7)⟩], K => (impl_IsGroupTable_sh N (fun d0 => K (.bool (d0)) [⟨false, .hdr 1 gv2 gv3 gv4 gv5 (some gv6)⟩, ⟨false, .flat 0 (.ints .i64 gv7)⟩]) table0 table1 gv2 gv3 gv4 gv5 gv6 gv7)
  | [.nils], [], K => (impl_IsGroupTable_n N (fun d0 => K (.bool (d0)) []))
  | _, _, _ => none

theorem impl_IsGroupTable_sh.en_ok (N : Nat) (hE : EnvOk (E16 N) ents) (ρ : Type) (args : List AV) (sh : Heap) (K : AV → Heap → Option ρ) (r : ρ) (h : impl_IsGroupTable_sh.en N ρ args sh K = some r) : ∃ v sh', K v sh' = some r ∧ FnOk (E16 N).P 11 args sh v sh' := by
  unfold impl_IsGroupTable_sh.en at h
  split at h
  · exact fn_ok hE (kp := impl_IsGroupTable_sh.kp) (N := N) Go.Proofs.Try.func11 (c := impl_IsGroupTable_sh.bd) (by kernel_rfl) ((impl_IsGroupTable_sh.eq N _ _ _ _ _ _ _ _ _).trans h)
  · exact fn_ok hE (kp := impl_IsGroupTable_n.kp) (N := N) Go.Proofs.Try.func11 (c := impl_IsGroupTable_n.bd) (by kernel_rfl) ((impl_IsGroupTable_n.eq N _ ).trans h)
  · cases h

noncomputable def E17 (N : Nat) : Env := (E16 N).add 11 (impl_IsGroupTable_sh.en N)

theorem E17_ok (N : Nat) : EnvOk (E17 N) ents := Env.add_ok (E16_ok N) (impl_IsGroupTable_sh.en_ok N (E16_ok N))

noncomputable def impl_unless.kp : Keeps := ⟨[], [], []⟩

noncomputable def impl_unless.bd : Code := bodyOf Go.Proofs.Try.f48

noncomputable def impl_unless.fin {ρ : Type} (N : Nat) (K : AV → Heap → Option ρ) : XE → St → Option ρ := finK (E17 N) impl_unless.kp.fins Go.Proofs.Try.f48 [] K

theorem impl_unless.eq {ρ : Type} (N : Nat) (K : AV → Heap → Option ρ) (so0 : Bool) (code1 : Int) :
    xbody (E17 N) ents impl_unless.kp N Go.Proofs.Try.f48 impl_unless.bd [.bool (so0), .int .i64 (code1)] [] K = (impl_unless N (fun d0 => K (.int .i64 (d0)) []) so0 code1) := by kernel_rfl

noncomputable def impl_unless.en (N : Nat) (ρ : Type) : List AV → Heap → (AV → Heap → Option ρ) → Option ρ
  | [.bool (so0), .int .i64 (code1)], [], K => (impl_unless N (fun d0 => K (.int .i64 (d0)) []) so0 code1)
  | _, _, _ => none

theorem impl_unless.en_ok (N : Nat) (hE : EnvOk (E17 N) ents) (ρ : Type) (args : List AV) (sh : Heap) (K : AV → Heap → Option ρ) (r : ρ) (h : impl_unless.en N ρ args sh K = some r) : ∃ v sh', K v sh' = some r ∧ FnOk (E17 N).P 48 args sh v sh' := by
  unfold impl_unless.en at h
  split at h
  · exact fn_ok hE (kp := impl_unless.kp) (N := N) Go.Proofs.Try.func48 (c := impl_unless.bd) (by kernel_rfl) ((impl_unless.eq N _ _ _).trans h)
  · cases h

noncomputable def E18 (N : Nat) : Env := (E17 N).add 48 (impl_unless.en N)

theorem E18_ok (N : Nat) : EnvOk (E18 N) ents := Env.add_ok (E17_ok N) (impl_unless.en_ok N (E17_ok N))

noncomputable def impl_first_s.kp : Keeps := ⟨[(0, [5, 6, 7], [], [])], [(0, [], [], [])], []⟩

noncomputable def impl_first_s.bd : Code := bodyOf Go.Proofs.Try.f47

noncomputable def impl_first_s.fin {ρ : Type} (N : Nat) (K : AV → Heap → Option ρ) (gv2 : Nat) (gv3 : Nat → Int) : XE → St → Option ρ := finK (E18 N) impl_first_s.kp.fins Go.Proofs.Try.f47 [⟨false, .flat gv2 (.ints .i64 gv3)⟩] K

noncomputable def impl_first_s.k0 {ρ : Type} (N : Nat) (K : AV → Heap → Option ρ) (gv2 : Nat) (gv3 : Nat → Int) : XE → St → Option ρ := (blockK impl_first_s.kp 1 0 (seqK (xcode (E18 N) ents impl_first_s.kp 1 N (cB (cB impl_first_s.bd)) 0) (impl_first_s.fin N K gv2 gv3)))

theorem impl_first_s.k0_mix {ρ : Type} (N : Nat) (K : AV → Heap → Option ρ) (gv2 : Nat) (gv3 : Nat → Int) : mixK (impl_first_s.fin N K gv2 gv3 .ret) (impl_first_s.k0 N K gv2 gv3) = (impl_first_s.k0 N K gv2 gv3) := by
  funext e s; cases e <;> kernel_rfl

noncomputable def impl_first_s.st0 (codes0 : Nat) (codes1 : Nat) (gv2 : Nat) (gv3 : Nat → Int) (x4 : Int) : St := ⟨sl 15 [(5, .slice true 0 0 codes0 (.exact codes1) 1), (6, .int .i64 ((codes0 : Int))), (7, .int .i64 (x4))], [⟨false, .flat gv2 (.ints .i64 gv3)⟩]⟩

noncomputable def impl_first_s.sx0_0 (gv2 : Nat) (gv3 : Nat → Int) : St := ⟨sl 15 [], [⟨false, .flat gv2 (.ints .i64 gv3)⟩]⟩

theorem impl_first_s.b0_gen {ρ : Type} (N : Nat) (K : AV → Heap → Option ρ) (L0 : St → Option ρ) (kv : XE → St → Option ρ) (codes0 : Nat) (codes1 : Nat) (gv2 : Nat) (gv3 : Nat → Int) (x4 : Int) :
    xcode (E18 N) ents impl_first_s.kp 1 N (cL (cK (cB (cA (cB impl_first_s.bd))))) 0 (impl_first_s.st0 codes0 codes1 gv2 gv3 x4) (roundK impl_first_s.kp 1 0 L0 (mixK (impl_first_s.fin N K gv2 gv3 .ret) kv)) = (impl_first_s.b0 N (fun d0 => K (.int .i64 (d0)) [⟨false, .flat gv2 (.ints .i64 gv3)⟩]) (fun x4 => L0 (impl_first_s.st0 codes0 codes1 gv2 gv3 x4)) (kv (.exit 0) (impl_first_s.sx0_0 gv2 gv3)) codes0 gv3 x4) := by kernel_rfl

theorem impl_first_s.b0_eq {ρ : Type} (N : Nat) (K : AV → Heap → Option ρ) (L0 : St → Option ρ) (codes0 : Nat) (codes1 : Nat) (gv2 : Nat) (gv3 : Nat → Int) (x4 : Int) :
    xcode (E18 N) ents impl_first_s.kp 1 N (cL (cK (cB (cA (cB impl_first_s.bd))))) 0 (impl_first_s.st0 codes0 codes1 gv2 gv3 x4) (roundK impl_first_s.kp 1 0 L0 (impl_first_s.k0 N K gv2 gv3)) = (impl_first_s.b0 N (fun d0 => K (.int .i64 (d0)) [⟨false, .flat gv2 (.ints .i64 gv3)⟩]) (fun x4 => L0 (impl_first_s.st0 codes0 codes1 gv2 gv3 x4)) ((impl_first_s.k0 N K gv2 gv3) (.exit 0) (impl_first_s.sx0_0 gv2 gv3)) codes0 gv3 x4) := by
  have h := impl_first_s.b0_gen N K L0 (impl_first_s.k0 N K gv2 gv3) codes0 codes1 gv2 gv3 x4
  rw [impl_first_s.k0_mix] at h
  exact h

theorem impl_first_s.a0_0_eq {ρ : Type} (N : Nat) (K : AV → Heap → Option ρ) (gv2 : Nat) (gv3 : Nat → Int) :
    (impl_first_s.k0 N K gv2 gv3) (.exit 0) (impl_first_s.sx0_0 gv2 gv3) = (impl_first_s.a0_0 N (fun d0 => K (.int .i64 (d0)) [⟨false, .flat gv2 (.ints .i64 gv3)⟩])) := by kernel_rfl

theorem impl_first_s.l0_eq {ρ : Type} (N : Nat) (K : AV → Heap → Option ρ) (codes0 : Nat) (codes1 : Nat) (gv2 : Nat) (gv3 : Nat → Int) :
    ∀ (m : Nat) (x4 : Int), xloop (xcode (E18 N) ents impl_first_s.kp 1 N (cL (cK (cB (cA (cB impl_first_s.bd))))) 0) impl_first_s.kp 1 0 m (impl_first_s.st0 codes0 codes1 gv2 gv3 x4) (impl_first_s.k0 N K gv2 gv3) = (impl_first_s.l0 N (fun d0 => K (.int .i64 (d0)) [⟨false, .flat gv2 (.ints .i64 gv3)⟩]) codes0 gv3 ((impl_first_s.k0 N K gv2 gv3) (.exit 0) (impl_first_s.sx0_0 gv2 gv3)) m x4) := by
  intro m
  induction m with
  | zero => intros; rfl
  | succ m ih =>
    intro x4
    refine (impl_first_s.b0_eq N K (fun s => xloop (xcode (E18 N) ents impl_first_s.kp 1 N (cL (cK (cB (cA (cB impl_first_s.bd))))) 0) impl_first_s.kp 1 0 m s (impl_first_s.k0 N K gv2 gv3)) codes0 codes1 gv2 gv3 x4).trans ?_
    simp only [ih]
    kernel_rfl

theorem impl_first_s.s_eq {ρ : Type} (N : Nat) (K : AV → Heap → Option ρ) (codes0 : Nat) (codes1 : Nat) (gv2 : Nat) (gv3 : Nat → Int) :
    xbody (E18 N) ents impl_first_s.kp N Go.Proofs.Try.f47 impl_first_s.bd [.slice true 0 0 codes0 (.exact codes1) 1] [⟨false, .flat gv2 (.ints .i64 gv3)⟩] K = (impl_first_s.s N (fun d0 => K (.int .i64 (d0)) [⟨false, .flat gv2 (.ints .i64 gv3)⟩]) (fun x4 => xloop (xcode (E18 N) ents impl_first_s.kp 1 N (cL (cK (cB (cA (cB impl_first_s.bd))))) 0) impl_first_s.kp 1 0 N (impl_first_s.st0 codes0 codes1 gv2 gv3 x4) (impl_first_s.k0 N K gv2 gv3))) := by kernel_rfl

theorem impl_first_s.eq {ρ : Type} (N : Nat) (K : AV → Heap → Option ρ) (codes0 : Nat) (codes1 : Nat) (gv2 : Nat) (gv3 : Nat → Int) :
    xbody (E18 N) ents impl_first_s.kp N Go.Proofs.Try.f47 impl_first_s.bd [.slice true 0 0 codes0 (.exact codes1) 1] [⟨false, .flat gv2 (.ints .i64 gv3)⟩] K = (impl_first_s N (fun d0 => K (.int .i64 (d0)) [⟨false, .flat gv2 (.ints .i64 gv3)⟩]) codes0 codes1 gv2 gv3) := by
  refine (impl_first_s.s_eq N K codes0 codes1 gv2 gv3).trans ?_
  simp only [impl_first_s.l0_eq, impl_first_s.a0_0_eq]
  kernel_rfl

noncomputable def impl_first_s.en (N : Nat) (ρ : Type) : List AV → Heap → (AV → Heap → Option ρ) → Option ρ
  | [.slice true 0 0 codes0 (.exact codes1) 1], [⟨false, .flat gv2 (.ints .i64 gv3)⟩], K => (impl_first_s N (fun d0 => K (.int .i64 (d0)) [⟨false, .flat gv2 (.ints .i64 gv3)⟩]) codes0 codes1 gv2 gv3)
  | _, _, _ => none

theorem impl_first_s.en_ok (N : Nat) (hE : EnvOk (E18 N) ents) (ρ : Type) (args : List AV) (sh : Heap) (K : AV → Heap → Option ρ) (r : ρ) (h : impl_first_s.en N ρ args sh K = some r) : ∃ v sh', K v sh' = some r ∧ FnOk (E18 N).P 47 args sh v sh' := by
  unfold impl_first_s.en at h
  split at h
  · exact fn_ok hE (kp := impl_first_s.kp) (N := N) Go.Proofs.Try.func47 (c := impl_first_s.bd) (by kernel_rfl) ((impl_first_s.eq N _ _ _ _ _).trans h)
  · cases h

noncomputable def E19 (N : Nat) : Env := (E18 N).add 47 (impl_first_s.en N)

theorem E19_ok (N : Nat) : EnvOk (E19 N) ents := Env.add_ok (E18_ok N) (impl_first_s.en_ok N (E18_ok N))

noncomputable def impl_productTable_c1.kp : Keeps := ⟨[], [], []⟩

noncomputable def impl_productTable_c1.bd : Code := bodyOf Go.Proofs.Try.f66

noncomputable def impl_productTable_c1.fin {ρ : Type} (N : Nat) (K : AV → Heap → Option ρ) (gv2 : Nat → Int) (gv3 : Nat) (gv4 : Nat) (gv5 : Nat) (gv6 : Nat) (gv7 : Nat) (gv8 : Nat) (gv9 : Nat → Nat) (gv10 : Nat → Nat) (gv11 : Nat → Nat) (gv12 : Nat) (gv13 : Nat) (gv14 : Nat → Nat) (gv15 : Nat → Nat) (gv16 : Nat → Nat) (gv17 : Nat → Int) (gv18 : Nat → Int) : XE → St → Option ρ := finK (E19 N) impl_productTable_c1.kp.fins Go.Proofs.Try.f66 [⟨false, .flat 1 (.ints .i64 gv2)⟩, ⟨false, .avs [.slice true 3 0 gv3 (.exact gv4) 1]⟩, ⟨false, .avs [.slice true 4 0 gv5 (.exact gv6) 1]⟩, ⟨false, .hdr 5 gv7 gv8 gv9 gv10 (some gv11)⟩, ⟨false, .hdr 6 gv12 gv13 gv14 gv15 (some gv16)⟩, ⟨false, .flat 0 (.ints .i64 gv17)⟩, ⟨false, .flat 0 (.ints .i64 gv18)⟩] K

theorem impl_productTable_c1.eq {ρ : Type} (N : Nat) (K : AV → Heap → Option ρ) (x0 : Int) (y1 : Int) (gv2 : Nat → Int) (gv3 : Nat) (gv4 : Nat) (gv5 : Nat) (gv6 : Nat) (gv7 : Nat) (gv8 : Nat) (gv9 : Nat → Nat) (gv10 : Nat → Nat) (gv11 : Nat → Nat) (gv12 : Nat) (gv13 : Nat) (gv14 : Nat → Nat) (gv15 : Nat → Nat) (gv16 : Nat → Nat) (gv17 : Nat → Int) (gv18 : Nat → Int) :
    xbody (E19 N) ents impl_productTable_c1.kp N Go.Proofs.Try.f66 impl_productTable_c1.bd [.int .i64 (x0), .int .i64 (y1), .sptr [(0, 1)], .sptr [(1, 1)], .sptr [(2, 1)]] [⟨false, .flat 1 (.ints .i64 gv2)⟩, ⟨false, .avs [.slice true 3 0 gv3 (.exact gv4) 1]⟩, ⟨false, .avs [.slice true 4 0 gv5 (.exact gv6) 1]⟩, ⟨false, .hdr 5 gv7 gv8 gv9 gv10 (some gv11)⟩, ⟨false, .hdr 6 gv12 gv13 gv14 gv15 (some gv16)⟩, ⟨false, .flat 0 (.ints .i64 gv17)⟩, ⟨false, .flat 0 (.ints .i64 gv18)⟩] K = (impl_productTable_c1 N (fun d0 => K (.int .i64 (d0)) [⟨false, .flat 1 (.ints .i64 gv2)⟩, ⟨false, .avs [.slice true 3 0 gv3 (.exact gv4) 1]⟩, ⟨false, .avs [.slice true 4 0 gv5 (.exact gv6) 1]⟩, ⟨false, .hdr 5 gv7 gv8 gv9 gv10 (some gv11)⟩, ⟨false, .hdr 6 gv12 gv13 gv14 gv15 (some gv16)⟩, ⟨false, .flat 0 (.ints .i64 gv17)⟩, ⟨false, .flat 0 (.ints .i64 gv18)⟩]) x0 y1 gv2 gv3 gv4 gv5 gv6 gv7 gv8 gv9 gv10 gv11 gv12 gv13 gv14 gv15 gv16 gv17 gv18) := by kernel_rfl

noncomputable def impl_productTable_c1_v2.kp : Keeps := ⟨[], [], []⟩

noncomputable def impl_productTable_c1_v2.bd : Code := bodyOf Go.Proofs.Try.f66

noncomputable def impl_productTable_c1_v2.fin {ρ : Type} (N : Nat) (K : AV → Heap → Option ρ) (gv2 : Nat → Int) : XE → St → Option ρ := finK (E19 N) impl_productTable_c1_v2.kp.fins Go.Proofs.Try.f66 [⟨false, .flat 1 (.ints .i64 gv2)⟩, ⟨false, .avs [.nils]⟩, ⟨false, .avs [.nils]⟩] K

theorem impl_productTable_c1_v2.eq {ρ : Type} (N : Nat) (K : AV → Heap → Option ρ) (x0 : Int) (y1 : Int) (gv2 : Nat → Int) :
    xbody (E19 N) ents impl_productTable_c1_v2.kp N Go.Proofs.Try.f66 impl_productTable_c1_v2.bd [.int .i64 (x0), .int .i64 (y1), .sptr [(0, 1)], .sptr [(1, 1)], .sptr [(2, 1)]] [⟨false, .flat 1 (.ints .i64 gv2)⟩, ⟨false, .avs [.nils]⟩, ⟨false, .avs [.nils]⟩] K = (impl_productTable_c1_v2 N x0 y1 gv2) := by kernel_rfl

noncomputable def impl_productTable_c1_v3.kp : Keeps := ⟨[], [], []⟩

noncomputable def impl_productTable_c1_v3.bd : Code := bodyOf Go.Proofs.Try.f66

noncomputable def impl_productTable_c1_v3.fin {ρ : Type} (N : Nat) (K : AV → Heap → Option ρ) (gv2 : Nat → Int) (gv3 : Nat) (gv4 : Nat) (gv5 : Nat) (gv6 : Nat) (gv7 : Nat → Nat) (gv8 : Nat → Nat) (gv9 : Nat → Nat) (gv10 : Nat → Int) : XE → St → Option ρ := finK (E19 N) impl_productTable_c1_v3.kp.fins Go.Proofs.Try.f66 [⟨false, .flat 1 (.ints .i64 gv2)⟩, ⟨false, .avs [.nils]⟩, ⟨false, .avs [.slice true 3 0 gv3 (.exact gv4) 1]⟩, ⟨false, .hdr 4 gv5 gv6 gv7 gv8 (some gv9)⟩, ⟨false, .flat 0 (.ints .i64 gv10)⟩] K

theorem impl_productTable_c1_v3.eq {ρ : Type} (N : Nat) (K : AV → Heap → Option ρ) (x0 : Int) (y1 : Int) (gv2 : Nat → Int) (gv3 : Nat) (gv4 : Nat) (gv5 : Nat) (gv6 : Nat) (gv7 : Nat → Nat) (gv8 : Nat → Nat) (gv9 : Nat → Nat) (gv10 : Nat → Int) :
    xbody (E19 N) ents impl_productTable_c1_v3.kp N Go.Proofs.Try.f66 impl_productTable_c1_v3.bd [.int .i64 (x0), .int .i64 (y1), .sptr [(0, 1)], .sptr [(1, 1)], .sptr [(2, 1)]] [⟨false, .flat 1 (.ints .i64 gv2)⟩, ⟨false, .avs [.nils]⟩, ⟨false, .avs [.slice true 3 0 gv3 (.exact gv4) 1]⟩, ⟨false, .hdr 4 gv5 gv6 gv7 gv8 (some gv9)⟩, ⟨false, .flat 0 (.ints .i64 gv10)⟩] K = (impl_productTable_c1_v3 N x0 y1 gv2 gv3 gv4 gv5 gv6 gv7 gv8 gv9 gv10) := by kernel_rfl

noncomputable def impl_productTable_c1_v4.kp : Keeps := ⟨[], [], []⟩

noncomputable def impl_productTable_c1_v4.bd : Code := bodyOf Go.Proofs.Try.f66

noncomputable def impl_productTable_c1_v4.fin {ρ : Type} (N : Nat) (K : AV → Heap → Option ρ) (gv2 : Nat → Int) (gv3 : Nat) (gv4 : Nat) (gv5 : Nat) (gv6 : Nat) (gv7 : Nat → Nat) (gv8 : Nat → Nat) (gv9 : Nat → Nat) (gv10 : Nat → Int) : XE → St → Option ρ := finK (E19 N) impl_productTable_c1_v4.kp.fins Go.Proofs.Try.f66 [⟨false, .flat 1 (.ints .i64 gv2)⟩, ⟨false, .avs [.slice true 3 0 gv3 (.exact gv4) 1]⟩, ⟨false, .avs [.nils]⟩, ⟨false, .hdr 4 gv5 gv6 gv7 gv8 (some gv9)⟩, ⟨false, .flat 0 (.ints .i64 gv10)⟩] K

theorem impl_productTable_c1_v4.eq {ρ : Type} (N : Nat) (K : AV → Heap → Option ρ) (x0 : Int) (y1 : Int) (gv2 : Nat → Int) (gv3 : Nat) (gv4 : Nat) (gv5 : Nat) (gv6 : Nat) (gv7 : Nat → Nat) (gv8 : Nat → Nat) (gv9 : Nat → Nat) (gv10 : Nat → Int) :
    xbody (E19 N) ents impl_productTable_c1_v4.kp N Go.Proofs.Try.f66 impl_productTable_c1_v4.bd [.int .i64 (x0), .int .i64 (y1), .sptr [(0, 1)], .sptr [(1, 1)], .sptr [(2, 1)]] [⟨false, .flat 1 (.ints .i64 gv2)⟩, ⟨false, .avs [.slice true 3 0 gv3 (.exact gv4) 1]⟩, ⟨false, .avs [.nils]⟩, ⟨false, .hdr 4 gv5 gv6 gv7 gv8 (some gv9)⟩, ⟨false, .flat 0 (.ints .i64 gv10)⟩] K = (impl_productTable_c1_v4 N x0 y1 gv2 gv3 gv4 gv5 gv6 gv7 gv8 gv9 gv10) := by kernel_rfl

noncomputable def impl_productTable_c1.en (N : Nat) (ρ : Type) : List AV → Heap → (AV → Heap → Option ρ) → Option ρ
  | [.int .i64 (x0), .int .i64 (y1), .sptr [(0, 1)], .sptr [(1, 1)], .sptr [(2, 1)]], [⟨false, .flat 1 (.ints .i64 gv2)⟩, ⟨false, .avs [.slice true 3 0 gv3 (.exact gv4) 1]⟩, ⟨false, .avs [.slice true 4 0 gv5 (.exact gv6) 1]⟩, ⟨false, .hdr 5 gv7 gv8 gv9 gv10 (some gv11)⟩, ⟨false, .hdr 6 gv12 gv13 gv14 gv15 (some gv16)⟩, ⟨false, .flat 0 (.ints .i64 gv17)⟩, ⟨false, .flat 0 (.ints .i64 gv18)⟩], K => (impl_productTable_c1 N (fun d0 => K (.int .i64 (d0)) [⟨false, .flat 1 (.ints .i64 gv2)⟩, ⟨false, .avs [.slice true 3 0 gv3 (.exact gv4) 1]⟩, ⟨false, .avs [.slice true 4 0 gv5 (.exact gv6) 1]⟩, ⟨false, .hdr 5 gv7 gv8 gv9 gv10 (some gv11)⟩, ⟨false, .hdr 6 gv12 gv13 gv14 gv15 (some gv16)⟩, ⟨false, .flat 0 (.ints .i64 gv17)⟩, ⟨false, .flat 0 (.ints .i64 gv18)⟩]) x0 y1 gv2 gv3 gv4 gv5 gv6 gv7 gv8 gv9 gv10 gv11 gv12 gv13 gv14 gv15 gv16 gv17 gv18)
  | [.int .i64 (x0), .int .i64 (y1), .sptr [(0, 1)], .sptr [(1, 1)], .sptr [(2, 1)]], [⟨false, .flat 1 (.ints .i64 gv2)⟩, ⟨false, .avs [.nils]⟩, ⟨false, .avs [.nils]⟩], K => (impl_productTable_c1_v2 N x0 y1 gv2)
  | [.int .i64 (x0), .int .i64 (y1), .sptr [(0, 1)], .sptr [(1, 1)], .sptr [(2, 1)]], [⟨false, .flat 1 (.ints .i64 gv2)⟩, ⟨false, .avs [.nils]⟩, ⟨false, .avs [.slice true 3 0 gv3 (.exact gv4) 1]⟩, ⟨false, .hdr 4 gv5 gv6 gv7 gv8 (some gv9)⟩, ⟨false, .flat 0 (.ints .i64 gv10)⟩], K => (impl_productTable_c1_v3 N x0 y1 gv2 gv3 gv4 gv5 gv6 gv7 gv8 gv9 gv10)
  | [.int .i64 (x0), .int .i64 (y1), .sptr [(0, 1)], .sptr [(1, 1)], .sptr [(2, 1)]], [⟨false, .flat 1 (.ints .i64 gv2)⟩, ⟨false, .avs [.slice true 3 0 gv3 (.exact gv4) 1]⟩, ⟨false, .avs [.nils]⟩, ⟨false, .hdr 4 gv5 gv6 gv7 gv8 (some gv9)⟩, ⟨false, .flat 0 (.ints .i64 gv10)⟩], K => (impl_productTable_c1_v4 N x0 y1 gv2 gv3 gv4 gv5 gv6 gv7 gv8 gv9 gv10)
  | _, _, _ => none

theorem impl_productTable_c1.en_ok (N : Nat) (hE : EnvOk (E19 N) ents) (ρ : Type) (args : List AV) (sh : Heap) (K : AV → Heap → Option ρ) (r : ρ) (h : impl_productTable_c1.en N ρ args sh K = some r) : ∃ v sh', K v sh' = some r ∧ FnOk (E19 N).P 66 args sh v sh' := by
  unfold impl_productTable_c1.en at h
  split at h
  · exact fn_ok hE (kp := impl_productTable_c1.kp) (N := N) Go.Proofs.Try.func66 (c := impl_productTable_c1.bd) (by kernel_rfl) ((impl_productTable_c1.eq N _ _ _ _ _ _ _ _ _ _ _ _ _ _ _ _ _ _ _ _).trans h)
  · exact fn_ok hE (kp := impl_productTable_c1_v2.kp) (N := N) Go.Proofs.Try.func66 (c := impl_productTable_c1_v2.bd) (by kernel_rfl) ((impl_productTable_c1_v2.eq N _ _ _ _).trans h)
  · exact fn_ok hE (kp := impl_productTable_c1_v3.kp) (N := N) Go.Proofs.Try.func66 (c := impl_productTable_c1_v3.bd) (by kernel_rfl) ((impl_productTable_c1_v3.eq N _ _ _ _ _ _ _ _ _ _ _ _).trans h)
  · exact fn_ok hE (kp := impl_productTable_c1_v4.kp) (N := N) Go.Proofs.Try.func66 (c := impl_productTable_c1_v4.bd) (by kernel_rfl) ((impl_productTable_c1_v4.eq N _ _ _ _ _ _ _ _ _ _ _ _).trans h)
  · cases h

noncomputable def E20 (N : Nat) : Env := (E19 N).add 66 (impl_productTable_c1.en N)

theorem E20_ok (N : Nat) : EnvOk (E20 N) ents := Env.add_ok (E19_ok N) (impl_productTable_c1.en_ok N (E19_ok N))

noncomputable def impl_tableOf_f.kp : Keeps := ⟨[(0, [0, 1, 5, 10, 11], [], []), (2, [0, 1, 5, 6, 7, 10, 11, 15, 16], [], [])], [(0, [5], [], []), (2, [0, 1, 5, 7, 10, 11], [], [])], []⟩

noncomputable def impl_tableOf_f.bd : Code := bodyOf Go.Proofs.Try.f59

noncomputable def impl_tableOf_f.fin {ρ : Type} (N : Nat) (K : AV → Heap → Option ρ) (gv1 : Nat → Int) (gv2 : Nat) (gv3 : Nat) (gv4 : Nat) (gv5 : Nat) (gv6 : Nat) (gv7 : Nat) (gv8 : Nat → Nat) (gv9 : Nat → Nat) (gv10 : Nat → Nat) (gv11 : Nat) (gv12 : Nat) (gv13 : Nat → Nat) (gv14 : Nat → Nat) (gv15 : Nat → Nat) (gv16 : Nat → Int) (gv17 : Nat → Int) : XE → St → Option ρ := finK (E20 N) impl_tableOf_f.kp.fins Go.Proofs.Try.f59 [⟨false, .flat 1 (.ints .i64 gv1)⟩, ⟨false, .avs [.slice true 3 0 gv2 (.exact gv3) 1]⟩, ⟨false, .avs [.slice true 4 0 gv4 (.exact gv5) 1]⟩, ⟨false, .hdr 5 gv6 gv7 gv8 gv9 (some gv10)⟩, ⟨false, .hdr 6 gv11 gv12 gv13 gv14 (some gv15)⟩, ⟨false, .flat 0 (.ints .i64 gv16)⟩, ⟨false, .flat 0 (.ints .i64 gv17)⟩] K

noncomputable def impl_tableOf_f.k0 {ρ : Type} (N : Nat) (K : AV → Heap → Option ρ) (gv1 : Nat → Int) (gv2 : Nat) (gv3 : Nat) (gv4 : Nat) (gv5 : Nat) (gv6 : Nat) (gv7 : Nat) (gv8 : Nat → Nat) (gv9 : Nat → Nat) (gv10 : Nat → Nat) (gv11 : Nat) (gv12 : Nat) (gv13 : Nat → Nat) (gv14 : Nat → Nat) (gv15 : Nat → Nat) (gv16 : Nat → Int) (gv17 : Nat → Int) : XE → St → Option ρ := (blockK impl_tableOf_f.kp 7 0 (seqK (xcode (E20 N) ents impl_tableOf_f.kp 7 N (cB (cB (cB impl_tableOf_f.bd))) 0) (impl_tableOf_f.fin N K gv1 gv2 gv3 gv4 gv5 gv6 gv7 gv8 gv9 gv10 gv11 gv12 gv13 gv14 gv15 gv16 gv17)))

theorem impl_tableOf_f.k0_mix {ρ : Type} (N : Nat) (K : AV → Heap → Option ρ) (gv1 : Nat → Int) (gv2 : Nat) (gv3 : Nat) (gv4 : Nat) (gv5 : Nat) (gv6 : Nat) (gv7 : Nat) (gv8 : Nat → Nat) (gv9 : Nat → Nat) (gv10 : Nat → Nat) (gv11 : Nat) (gv12 : Nat) (gv13 : Nat → Nat) (gv14 : Nat → Nat) (gv15 : Nat → Nat) (gv16 : Nat → Int) (gv17 : Nat → Int) : mixK (impl_tableOf_f.fin N K gv1 gv2 gv3 gv4 gv5 gv6 gv7 gv8 gv9 gv10 gv11 gv12 gv13 gv14 gv15 gv16 gv17 .ret) (impl_tableOf_f.k0 N K gv1 gv2 gv3 gv4 gv5 gv6 gv7 gv8 gv9 gv10 gv11 gv12 gv13 gv14 gv15 gv16 gv17) = (impl_tableOf_f.k0 N K gv1 gv2 gv3 gv4 gv5 gv6 gv7 gv8 gv9 gv10 gv11 gv12 gv13 gv14 gv15 gv16 gv17) := by
  funext e s; cases e <;> kernel_rfl

noncomputable def impl_tableOf_f.st0 (nv0 : Int) (gv1 : Nat → Int) (gv2 : Nat) (gv3 : Nat) (gv4 : Nat) (gv5 : Nat) (gv6 : Nat) (gv7 : Nat) (gv8 : Nat → Nat) (gv9 : Nat → Nat) (gv10 : Nat → Nat) (gv11 : Nat) (gv12 : Nat) (gv13 : Nat → Nat) (gv14 : Nat → Nat) (gv15 : Nat → Nat) (gv16 : Nat → Int) (gv17 : Nat → Int) (outv18 : Nat) (x19 : Int) (gv20 : Nat) (gv21 : Nat → Nat) (gv22 : Nat → Nat) (gv23 : Nat → Int) : St := ⟨sl 33 [(0, .int .i64 (nv0)), (1, .fn 66 0 [[(0, 1)], [(1, 1)], [(2, 1)]]), (5, .slice true 7 0 outv18 .whole 1), (10, .int .i64 (nv0)), (11, .int .i64 (x19))], [⟨false, .flat 1 (.ints .i64 gv1)⟩, ⟨false, .avs [.slice true 3 0 gv2 (.exact gv3) 1]⟩, ⟨false, .avs [.slice true 4 0 gv4 (.exact gv5) 1]⟩, ⟨false, .hdr 5 gv6 gv7 gv8 gv9 (some gv10)⟩, ⟨false, .hdr 6 gv11 gv12 gv13 gv14 (some gv15)⟩, ⟨false, .flat 0 (.ints .i64 gv16)⟩, ⟨false, .flat 0 (.ints .i64 gv17)⟩, ⟨true, .hdr 8 0 gv20 gv21 gv22 none⟩, ⟨true, .flat 0 (.ints .i64 gv23)⟩]⟩

noncomputable def impl_tableOf_f.sx0_0 (gv1 : Nat → Int) (gv2 : Nat) (gv3 : Nat) (gv4 : Nat) (gv5 : Nat) (gv6 : Nat) (gv7 : Nat) (gv8 : Nat → Nat) (gv9 : Nat → Nat) (gv10 : Nat → Nat) (gv11 : Nat) (gv12 : Nat) (gv13 : Nat → Nat) (gv14 : Nat → Nat) (gv15 : Nat → Nat) (gv16 : Nat → Int) (gv17 : Nat → Int) (ov30 : Nat) (ov31 : Nat) (ov32 : Nat → Nat) (ov33 : Nat → Nat) (ov34 : Nat → Int) : St := ⟨sl 33 [(5, .slice true 7 0 ov30 .whole 1)], [⟨false, .flat 1 (.ints .i64 gv1)⟩, ⟨false, .avs [.slice true 3 0 gv2 (.exact gv3) 1]⟩, ⟨false, .avs [.slice true 4 0 gv4 (.exact gv5) 1]⟩, ⟨false, .hdr 5 gv6 gv7 gv8 gv9 (some gv10)⟩, ⟨false, .hdr 6 gv11 gv12 gv13 gv14 (some gv15)⟩, ⟨false, .flat 0 (.ints .i64 gv16)⟩, ⟨false, .flat 0 (.ints .i64 gv17)⟩, ⟨true, .hdr 8 0 ov31 ov32 ov33 none⟩, ⟨true, .flat 0 (.ints .i64 ov34)⟩]⟩

noncomputable def impl_tableOf_f.k1g {ρ : Type} (N : Nat) (L0 : St → Option ρ) (kv : XE → St → Option ρ) : XE → St → Option ρ := (blockK impl_tableOf_f.kp 7 2 (seqK (xcode (E20 N) ents impl_tableOf_f.kp 7 N (cB (cB (cB (cK (cA (cB (cB (cL (cK (cB (cA (cB (cB impl_tableOf_f.bd))))))))))))) 1) (blockK impl_tableOf_f.kp 7 1 (seqK (xcode (E20 N) ents impl_tableOf_f.kp 7 N (cB (cB (cB (cL (cK (cB (cA (cB (cB impl_tableOf_f.bd))))))))) 0) (roundK impl_tableOf_f.kp 7 0 L0 kv)))))

theorem impl_tableOf_f.k1_mix {ρ : Type} (N : Nat) (K : AV → Heap → Option ρ) (L0 : St → Option ρ) (gv1 : Nat → Int) (gv2 : Nat) (gv3 : Nat) (gv4 : Nat) (gv5 : Nat) (gv6 : Nat) (gv7 : Nat) (gv8 : Nat → Nat) (gv9 : Nat → Nat) (gv10 : Nat → Nat) (gv11 : Nat) (gv12 : Nat) (gv13 : Nat → Nat) (gv14 : Nat → Nat) (gv15 : Nat → Nat) (gv16 : Nat → Int) (gv17 : Nat → Int) : mixK (impl_tableOf_f.fin N K gv1 gv2 gv3 gv4 gv5 gv6 gv7 gv8 gv9 gv10 gv11 gv12 gv13 gv14 gv15 gv16 gv17 .ret) (impl_tableOf_f.k1g N L0 (impl_tableOf_f.k0 N K gv1 gv2 gv3 gv4 gv5 gv6 gv7 gv8 gv9 gv10 gv11 gv12 gv13 gv14 gv15 gv16 gv17)) = (impl_tableOf_f.k1g N L0 (impl_tableOf_f.k0 N K gv1 gv2 gv3 gv4 gv5 gv6 gv7 gv8 gv9 gv10 gv11 gv12 gv13 gv14 gv15 gv16 gv17)) := by
  funext e s; cases e <;> kernel_rfl

noncomputable def impl_tableOf_f.st1 (nv0 : Int) (gv1 : Nat → Int) (gv2 : Nat) (gv3 : Nat) (gv4 : Nat) (gv5 : Nat) (gv6 : Nat) (gv7 : Nat) (gv8 : Nat → Nat) (gv9 : Nat → Nat) (gv10 : Nat → Nat) (gv11 : Nat) (gv12 : Nat) (gv13 : Nat → Nat) (gv14 : Nat → Nat) (gv15 : Nat → Nat) (gv16 : Nat → Int) (gv17 : Nat → Int) (outv18 : Nat) (x19 : Int) (gv20 : Nat) (gv21 : Nat → Nat) (gv22 : Nat → Nat) (gv23 : Nat → Int) (row24 : Nat) (x25 : Int) (gv26 : Nat → Int) : St := ⟨sl 33 [(0, .int .i64 (nv0)), (1, .fn 66 0 [[(0, 1)], [(1, 1)], [(2, 1)]]), (5, .slice true 7 0 outv18 .whole 1), (6, .int .i64 (x19)), (7, .slice true 8 0 row24 .whole 1), (10, .int .i64 (nv0)), (11, .int .i64 (x19)), (15, .int .i64 (nv0)), (16, .int .i64 (x25))], [⟨false, .flat 1 (.ints .i64 gv1)⟩, ⟨false, .avs [.slice true 3 0 gv2 (.exact gv3) 1]⟩, ⟨false, .avs [.slice true 4 0 gv4 (.exact gv5) 1]⟩, ⟨false, .hdr 5 gv6 gv7 gv8 gv9 (some gv10)⟩, ⟨false, .hdr 6 gv11 gv12 gv13 gv14 (some gv15)⟩, ⟨false, .flat 0 (.ints .i64 gv16)⟩, ⟨false, .flat 0 (.ints .i64 gv17)⟩, ⟨true, .hdr 9 0 gv20 gv21 gv22 none⟩, ⟨true, .flat 0 (.ints .i64 gv26)⟩, ⟨true, .flat 0 (.ints .i64 gv23)⟩]⟩

noncomputable def impl_tableOf_f.sx1_0 (nv0 : Int) (gv1 : Nat → Int) (gv2 : Nat) (gv3 : Nat) (gv4 : Nat) (gv5 : Nat) (gv6 : Nat) (gv7 : Nat) (gv8 : Nat → Nat) (gv9 : Nat → Nat) (gv10 : Nat → Nat) (gv11 : Nat) (gv12 : Nat) (gv13 : Nat → Nat) (gv14 : Nat → Nat) (gv15 : Nat → Nat) (gv16 : Nat → Int) (gv17 : Nat → Int) (outv18 : Nat) (x19 : Int) (gv20 : Nat) (gv21 : Nat → Nat) (gv22 : Nat → Nat) (gv23 : Nat → Int) (ov28 : Nat) (ov29 : Nat → Int) : St := ⟨sl 33 [(0, .int .i64 (nv0)), (1, .fn 66 0 [[(0, 1)], [(1, 1)], [(2, 1)]]), (5, .slice true 7 0 outv18 .whole 1), (7, .slice true 8 0 ov28 .whole 1), (10, .int .i64 (nv0)), (11, .int .i64 (x19))], [⟨false, .flat 1 (.ints .i64 gv1)⟩, ⟨false, .avs [.slice true 3 0 gv2 (.exact gv3) 1]⟩, ⟨false, .avs [.slice true 4 0 gv4 (.exact gv5) 1]⟩, ⟨false, .hdr 5 gv6 gv7 gv8 gv9 (some gv10)⟩, ⟨false, .hdr 6 gv11 gv12 gv13 gv14 (some gv15)⟩, ⟨false, .flat 0 (.ints .i64 gv16)⟩, ⟨false, .flat 0 (.ints .i64 gv17)⟩, ⟨true, .hdr 9 0 gv20 gv21 gv22 none⟩, ⟨true, .flat 0 (.ints .i64 ov29)⟩, ⟨true, .flat 0 (.ints .i64 gv23)⟩]⟩

theorem impl_tableOf_f.b1_gen {ρ : Type} (N : Nat) (K : AV → Heap → Option ρ) (L1 : St → Option ρ) (kv : XE → St → Option ρ) (nv0 : Int) (gv1 : Nat → Int) (gv2 : Nat) (gv3 : Nat) (gv4 : Nat) (gv5 : Nat) (gv6 : Nat) (gv7 : Nat) (gv8 : Nat → Nat) (gv9 : Nat → Nat) (gv10 : Nat → Nat) (gv11 : Nat) (gv12 : Nat) (gv13 : Nat → Nat) (gv14 : Nat → Nat) (gv15 : Nat → Nat) (gv16 : Nat → Int) (gv17 : Nat → Int) (outv18 : Nat) (x19 : Int) (gv20 : Nat) (gv21 : Nat → Nat) (gv22 : Nat → Nat) (gv23 : Nat → Int) (row24 : Nat) (x25 : Int) (gv26 : Nat → Int) :
    xcode (E20 N) ents impl_tableOf_f.kp 7 N (cL (cK (cB (cA (cB (cB (cK (cA (cB (cB (cL (cK (cB (cA (cB (cB impl_tableOf_f.bd)))))))))))))))) 2 (impl_tableOf_f.st1 nv0 gv1 gv2 gv3 gv4 gv5 gv6 gv7 gv8 gv9 gv10 gv11 gv12 gv13 gv14 gv15 gv16 gv17 outv18 x19 gv20 gv21 gv22 gv23 row24 x25 gv26) (roundK impl_tableOf_f.kp 7 2 L1 (mixK (impl_tableOf_f.fin N K gv1 gv2 gv3 gv4 gv5 gv6 gv7 gv8 gv9 gv10 gv11 gv12 gv13 gv14 gv15 gv16 gv17 .ret) kv)) = (impl_tableOf_f.b1 N (fun d0 d1 d2 d3 d4 => K (.slice true 7 0 d0 .whole 1) [⟨false, .flat 1 (.ints .i64 gv1)⟩, ⟨false, .avs [.slice true 3 0 gv2 (.exact gv3) 1]⟩, ⟨false, .avs [.slice true 4 0 gv4 (.exact gv5) 1]⟩, ⟨false, .hdr 5 gv6 gv7 gv8 gv9 (some gv10)⟩, ⟨false, .hdr 6 gv11 gv12 gv13 gv14 (some gv15)⟩, ⟨false, .flat 0 (.ints .i64 gv16)⟩, ⟨false, .flat 0 (.ints .i64 gv17)⟩, ⟨true, .hdr 8 0 d1 d2 d3 none⟩, ⟨true, .flat 0 (.ints .i64 d4)⟩]) (fun row24 x25 gv26 => L1 (impl_tableOf_f.st1 nv0 gv1 gv2 gv3 gv4 gv5 gv6 gv7 gv8 gv9 gv10 gv11 gv12 gv13 gv14 gv15 gv16 gv17 outv18 x19 gv20 gv21 gv22 gv23 row24 x25 gv26)) (fun ov28 ov29 => kv (.exit 2) (impl_tableOf_f.sx1_0 nv0 gv1 gv2 gv3 gv4 gv5 gv6 gv7 gv8 gv9 gv10 gv11 gv12 gv13 gv14 gv15 gv16 gv17 outv18 x19 gv20 gv21 gv22 gv23 ov28 ov29)) nv0 gv1 gv2 gv3 gv4 gv5 gv7 gv8 gv9 gv10 gv12 gv13 gv14 gv15 gv16 gv17 x19 row24 x25 gv26) := by kernel_rfl

theorem impl_tableOf_f.b1_eq {ρ : Type} (N : Nat) (K : AV → Heap → Option ρ) (L0 : St → Option ρ) (L1 : St → Option ρ) (nv0 : Int) (gv1 : Nat → Int) (gv2 : Nat) (gv3 : Nat) (gv4 : Nat) (gv5 : Nat) (gv6 : Nat) (gv7 : Nat) (gv8 : Nat → Nat) (gv9 : Nat → Nat) (gv10 : Nat → Nat) (gv11 : Nat) (gv12 : Nat) (gv13 : Nat → Nat) (gv14 : Nat → Nat) (gv15 : Nat → Nat) (gv16 : Nat → Int) (gv17 : Nat → Int) (outv18 : Nat) (x19 : Int) (gv20 : Nat) (gv21 : Nat → Nat) (gv22 : Nat → Nat) (gv23 : Nat → Int) (row24 : Nat) (x25 : Int) (gv26 : Nat → Int) :
    xcode (E20 N) ents impl_tableOf_f.kp 7 N (cL (cK (cB (cA (cB (cB (cK (cA (cB (cB (cL (cK (cB (cA (cB (cB impl_tableOf_f.bd)))))))))))))))) 2 (impl_tableOf_f.st1 nv0 gv1 gv2 gv3 gv4 gv5 gv6 gv7 gv8 gv9 gv10 gv11 gv12 gv13 gv14 gv15 gv16 gv17 outv18 x19 gv20 gv21 gv22 gv23 row24 x25 gv26) (roundK impl_tableOf_f.kp 7 2 L1 (impl_tableOf_f.k1g N L0 (impl_tableOf_f.k0 N K gv1 gv2 gv3 gv4 gv5 gv6 gv7 gv8 gv9 gv10 gv11 gv12 gv13 gv14 gv15 gv16 gv17))) = (impl_tableOf_f.b1 N (fun d0 d1 d2 d3 d4 => K (.slice true 7 0 d0 .whole 1) [⟨false, .flat 1 (.ints .i64 gv1)⟩, ⟨false, .avs [.slice true 3 0 gv2 (.exact gv3) 1]⟩, ⟨false, .avs [.slice true 4 0 gv4 (.exact gv5) 1]⟩, ⟨false, .hdr 5 gv6 gv7 gv8 gv9 (some gv10)⟩, ⟨false, .hdr 6 gv11 gv12 gv13 gv14 (some gv15)⟩, ⟨false, .flat 0 (.ints .i64 gv16)⟩, ⟨false, .flat 0 (.ints .i64 gv17)⟩, ⟨true, .hdr 8 0 d1 d2 d3 none⟩, ⟨true, .flat 0 (.ints .i64 d4)⟩]) (fun row24 x25 gv26 => L1 (impl_tableOf_f.st1 nv0 gv1 gv2 gv3 gv4 gv5 gv6 gv7 gv8 gv9 gv10 gv11 gv12 gv13 gv14 gv15 gv16 gv17 outv18 x19 gv20 gv21 gv22 gv23 row24 x25 gv26)) (fun ov28 ov29 => (impl_tableOf_f.k1g N L0 (impl_tableOf_f.k0 N K gv1 gv2 gv3 gv4 gv5 gv6 gv7 gv8 gv9 gv10 gv11 gv12 gv13 gv14 gv15 gv16 gv17)) (.exit 2) (impl_tableOf_f.sx1_0 nv0 gv1 gv2 gv3 gv4 gv5 gv6 gv7 gv8 gv9 gv10 gv11 gv12 gv13 gv14 gv15 gv16 gv17 outv18 x19 gv20 gv21 gv22 gv23 ov28 ov29)) nv0 gv1 gv2 gv3 gv4 gv5 gv7 gv8 gv9 gv10 gv12 gv13 gv14 gv15 gv16 gv17 x19 row24 x25 gv26) := by
  have h := impl_tableOf_f.b1_gen N K L1 (impl_tableOf_f.k1g N L0 (impl_tableOf_f.k0 N K gv1 gv2 gv3 gv4 gv5 gv6 gv7 gv8 gv9 gv10 gv11 gv12 gv13 gv14 gv15 gv16 gv17)) nv0 gv1 gv2 gv3 gv4 gv5 gv6 gv7 gv8 gv9 gv10 gv11 gv12 gv13 gv14 gv15 gv16 gv17 outv18 x19 gv20 gv21 gv22 gv23 row24 x25 gv26
  rw [impl_tableOf_f.k1_mix] at h
  exact h

theorem impl_tableOf_f.a1_0_gen {ρ : Type} (N : Nat) (K : AV → Heap → Option ρ) (L0 : St → Option ρ) (kv : XE → St → Option ρ) (nv0 : Int) (gv1 : Nat → Int) (gv2 : Nat) (gv3 : Nat) (gv4 : Nat) (gv5 : Nat) (gv6 : Nat) (gv7 : Nat) (gv8 : Nat → Nat) (gv9 : Nat → Nat) (gv10 : Nat → Nat) (gv11 : Nat) (gv12 : Nat) (gv13 : Nat → Nat) (gv14 : Nat → Nat) (gv15 : Nat → Nat) (gv16 : Nat → Int) (gv17 : Nat → Int) (outv18 : Nat) (x19 : Int) (gv20 : Nat) (gv21 : Nat → Nat) (gv22 : Nat → Nat) (gv23 : Nat → Int) (ov28 : Nat) (ov29 : Nat → Int) :
    (impl_tableOf_f.k1g N L0 (mixK (impl_tableOf_f.fin N K gv1 gv2 gv3 gv4 gv5 gv6 gv7 gv8 gv9 gv10 gv11 gv12 gv13 gv14 gv15 gv16 gv17 .ret) kv)) (.exit 2) (impl_tableOf_f.sx1_0 nv0 gv1 gv2 gv3 gv4 gv5 gv6 gv7 gv8 gv9 gv10 gv11 gv12 gv13 gv14 gv15 gv16 gv17 outv18 x19 gv20 gv21 gv22 gv23 ov28 ov29) = (impl_tableOf_f.a1_0 N (fun d0 d1 d2 d3 d4 => K (.slice true 7 0 d0 .whole 1) [⟨false, .flat 1 (.ints .i64 gv1)⟩, ⟨false, .avs [.slice true 3 0 gv2 (.exact gv3) 1]⟩, ⟨false, .avs [.slice true 4 0 gv4 (.exact gv5) 1]⟩, ⟨false, .hdr 5 gv6 gv7 gv8 gv9 (some gv10)⟩, ⟨false, .hdr 6 gv11 gv12 gv13 gv14 (some gv15)⟩, ⟨false, .flat 0 (.ints .i64 gv16)⟩, ⟨false, .flat 0 (.ints .i64 gv17)⟩, ⟨true, .hdr 8 0 d1 d2 d3 none⟩, ⟨true, .flat 0 (.ints .i64 d4)⟩]) (fun outv18 x19 gv20 gv21 gv22 gv23 => L0 (impl_tableOf_f.st0 nv0 gv1 gv2 gv3 gv4 gv5 gv6 gv7 gv8 gv9 gv10 gv11 gv12 gv13 gv14 gv15 gv16 gv17 outv18 x19 gv20 gv21 gv22 gv23)) (fun ov30 ov31 ov32 ov33 ov34 => kv (.exit 0) (impl_tableOf_f.sx0_0 gv1 gv2 gv3 gv4 gv5 gv6 gv7 gv8 gv9 gv10 gv11 gv12 gv13 gv14 gv15 gv16 gv17 ov30 ov31 ov32 ov33 ov34)) outv18 x19 gv20 gv21 gv22 gv23 ov28 ov29) := by kernel_rfl

theorem impl_tableOf_f.a1_0_eq {ρ : Type} (N : Nat) (K : AV → Heap → Option ρ) (L0 : St → Option ρ) (nv0 : Int) (gv1 : Nat → Int) (gv2 : Nat) (gv3 : Nat) (gv4 : Nat) (gv5 : Nat) (gv6 : Nat) (gv7 : Nat) (gv8 : Nat → Nat) (gv9 : Nat → Nat) (gv10 : Nat → Nat) (gv11 : Nat) (gv12 : Nat) (gv13 : Nat → Nat) (gv14 : Nat → Nat) (gv15 : Nat → Nat) (gv16 : Nat → Int) (gv17 : Nat → Int) (outv18 : Nat) (x19 : Int) (gv20 : Nat) (gv21 : Nat → Nat) (gv22 : Nat → Nat) (gv23 : Nat → Int) (ov28 : Nat) (ov29 : Nat → Int) :
    (impl_tableOf_f.k1g N L0 (impl_tableOf_f.k0 N K gv1 gv2 gv3 gv4 gv5 gv6 gv7 gv8 gv9 gv10 gv11 gv12 gv13 gv14 gv15 gv16 gv17)) (.exit 2) (impl_tableOf_f.sx1_0 nv0 gv1 gv2 gv3 gv4 gv5 gv6 gv7 gv8 gv9 gv10 gv11 gv12 gv13 gv14 gv15 gv16 gv17 outv18 x19 gv20 gv21 gv22 gv23 ov28 ov29) = (impl_tableOf_f.a1_0 N (fun d0 d1 d2 d3 d4 => K (.slice true 7 0 d0 .whole 1) [⟨false, .flat 1 (.ints .i64 gv1)⟩, ⟨false, .avs [.slice true 3 0 gv2 (.exact gv3) 1]⟩, ⟨false, .avs [.slice true 4 0 gv4 (.exact gv5) 1]⟩, ⟨false, .hdr 5 gv6 gv7 gv8 gv9 (some gv10)⟩, ⟨false, .hdr 6 gv11 gv12 gv13 gv14 (some gv15)⟩, ⟨false, .flat 0 (.ints .i64 gv16)⟩, ⟨false, .flat 0 (.ints .i64 gv17)⟩, ⟨true, .hdr 8 0 d1 d2 d3 none⟩, ⟨true, .flat 0 (.ints .i64 d4)⟩]) (fun outv18 x19 gv20 gv21 gv22 gv23 => L0 (impl_tableOf_f.st0 nv0 gv1 gv2 gv3 gv4 gv5 gv6 gv7 gv8 gv9 gv10 gv11 gv12 gv13 gv14 gv15 gv16 gv17 outv18 x19 gv20 gv21 gv22 gv23)) (fun ov30 ov31 ov32 ov33 ov34 => (impl_tableOf_f.k0 N K gv1 gv2 gv3 gv4 gv5 gv6 gv7 gv8 gv9 gv10 gv11 gv12 gv13 gv14 gv15 gv16 gv17) (.exit 0) (impl_tableOf_f.sx0_0 gv1 gv2 gv3 gv4 gv5 gv6 gv7 gv8 gv9 gv10 gv11 gv12 gv13 gv14 gv15 gv16 gv17 ov30 ov31 ov32 ov33 ov34)) outv18 x19 gv20 gv21 gv22 gv23 ov28 ov29) := by
  have h := impl_tableOf_f.a1_0_gen N K L0 (impl_tableOf_f.k0 N K gv1 gv2 gv3 gv4 gv5 gv6 gv7 gv8 gv9 gv10 gv11 gv12 gv13 gv14 gv15 gv16 gv17) nv0 gv1 gv2 gv3 gv4 gv5 gv6 gv7 gv8 gv9 gv10 gv11 gv12 gv13 gv14 gv15 gv16 gv17 outv18 x19 gv20 gv21 gv22 gv23 ov28 ov29
  rw [impl_tableOf_f.k0_mix] at h
  exact h

theorem impl_tableOf_f.b0_gen {ρ : Type} (N : Nat) (K : AV → Heap → Option ρ) (L0 : St → Option ρ) (kv : XE → St → Option ρ) (nv0 : Int) (gv1 : Nat → Int) (gv2 : Nat) (gv3 : Nat) (gv4 : Nat) (gv5 : Nat) (gv6 : Nat) (gv7 : Nat) (gv8 : Nat → Nat) (gv9 : Nat → Nat) (gv10 : Nat → Nat) (gv11 : Nat) (gv12 : Nat) (gv13 : Nat → Nat) (gv14 : Nat → Nat) (gv15 : Nat → Nat) (gv16 : Nat → Int) (gv17 : Nat → Int) (outv18 : Nat) (x19 : Int) (gv20 : Nat) (gv21 : Nat → Nat) (gv22 : Nat → Nat) (gv23 : Nat → Int) :
    xcode (E20 N) ents impl_tableOf_f.kp 7 N (cL (cK (cB (cA (cB (cB impl_tableOf_f.bd)))))) 0 (impl_tableOf_f.st0 nv0 gv1 gv2 gv3 gv4 gv5 gv6 gv7 gv8 gv9 gv10 gv11 gv12 gv13 gv14 gv15 gv16 gv17 outv18 x19 gv20 gv21 gv22 gv23) (roundK impl_tableOf_f.kp 7 0 L0 (mixK (impl_tableOf_f.fin N K gv1 gv2 gv3 gv4 gv5 gv6 gv7 gv8 gv9 gv10 gv11 gv12 gv13 gv14 gv15 gv16 gv17 .ret) kv)) = (impl_tableOf_f.b0 N (fun d0 d1 d2 d3 d4 => K (.slice true 7 0 d0 .whole 1) [⟨false, .flat 1 (.ints .i64 gv1)⟩, ⟨false, .avs [.slice true 3 0 gv2 (.exact gv3) 1]⟩, ⟨false, .avs [.slice true 4 0 gv4 (.exact gv5) 1]⟩, ⟨false, .hdr 5 gv6 gv7 gv8 gv9 (some gv10)⟩, ⟨false, .hdr 6 gv11 gv12 gv13 gv14 (some gv15)⟩, ⟨false, .flat 0 (.ints .i64 gv16)⟩, ⟨false, .flat 0 (.ints .i64 gv17)⟩, ⟨true, .hdr 8 0 d1 d2 d3 none⟩, ⟨true, .flat 0 (.ints .i64 d4)⟩]) (fun row24 x25 gv26 => xloop (xcode (E20 N) ents impl_tableOf_f.kp 7 N (cL (cK (cB (cA (cB (cB (cK (cA (cB (cB (cL (cK (cB (cA (cB (cB impl_tableOf_f.bd)))))))))))))))) 2) impl_tableOf_f.kp 7 2 N (impl_tableOf_f.st1 nv0 gv1 gv2 gv3 gv4 gv5 gv6 gv7 gv8 gv9 gv10 gv11 gv12 gv13 gv14 gv15 gv16 gv17 outv18 x19 gv20 gv21 gv22 gv23 row24 x25 gv26) (impl_tableOf_f.k1g N L0 (mixK (impl_tableOf_f.fin N K gv1 gv2 gv3 gv4 gv5 gv6 gv7 gv8 gv9 gv10 gv11 gv12 gv13 gv14 gv15 gv16 gv17 .ret) kv))) (fun outv18 x19 gv20 gv21 gv22 gv23 => L0 (impl_tableOf_f.st0 nv0 gv1 gv2 gv3 gv4 gv5 gv6 gv7 gv8 gv9 gv10 gv11 gv12 gv13 gv14 gv15 gv16 gv17 outv18 x19 gv20 gv21 gv22 gv23)) (fun ov30 ov31 ov32 ov33 ov34 => kv (.exit 0) (impl_tableOf_f.sx0_0 gv1 gv2 gv3 gv4 gv5 gv6 gv7 gv8 gv9 gv10 gv11 gv12 gv13 gv14 gv15 gv16 gv17 ov30 ov31 ov32 ov33 ov34)) nv0 outv18 x19 gv20 gv21 gv22 gv23) := by kernel_rfl

theorem impl_tableOf_f.b0_eq {ρ : Type} (N : Nat) (K : AV → Heap → Option ρ) (L0 : St → Option ρ) (nv0 : Int) (gv1 : Nat → Int) (gv2 : Nat) (gv3 : Nat) (gv4 : Nat) (gv5 : Nat) (gv6 : Nat) (gv7 : Nat) (gv8 : Nat → Nat) (gv9 : Nat → Nat) (gv10 : Nat → Nat) (gv11 : Nat) (gv12 : Nat) (gv13 : Nat → Nat) (gv14 : Nat → Nat) (gv15 : Nat → Nat) (gv16 : Nat → Int) (gv17 : Nat → Int) (outv18 : Nat) (x19 : Int) (gv20 : Nat) (gv21 : Nat → Nat) (gv22 : Nat → Nat) (gv23 : Nat → Int) :
    xcode (E20 N) ents impl_tableOf_f.kp 7 N (cL (cK (cB (cA (cB (cB impl_tableOf_f.bd)))))) 0 (impl_tableOf_f.st0 nv0 gv1 gv2 gv3 gv4 gv5 gv6 gv7 gv8 gv9 gv10 gv11 gv12 gv13 gv14 gv15 gv16 gv17 outv18 x19 gv20 gv21 gv22 gv23) (roundK impl_tableOf_f.kp 7 0 L0 (impl_tableOf_f.k0 N K gv1 gv2 gv3 gv4 gv5 gv6 gv7 gv8 gv9 gv10 gv11 gv12 gv13 gv14 gv15 gv16 gv17)) = (impl_tableOf_f.b0 N (fun d0 d1 d2 d3 d4 => K (.slice true 7 0 d0 .whole 1) [⟨false, .flat 1 (.ints .i64 gv1)⟩, ⟨false, .avs [.slice true 3 0 gv2 (.exact gv3) 1]⟩, ⟨false, .avs [.slice true 4 0 gv4 (.exact gv5) 1]⟩, ⟨false, .hdr 5 gv6 gv7 gv8 gv9 (some gv10)⟩, ⟨false, .hdr 6 gv11 gv12 gv13 gv14 (some gv15)⟩, ⟨false, .flat 0 (.ints .i64 gv16)⟩, ⟨false, .flat 0 (.ints .i64 gv17)⟩, ⟨true, .hdr 8 0 d1 d2 d3 none⟩, ⟨true, .flat 0 (.ints .i64 d4)⟩]) (fun row24 x25 gv26 => xloop (xcode (E20 N) ents impl_tableOf_f.kp 7 N (cL (cK (cB (cA (cB (cB (cK (cA (cB (cB (cL (cK (cB (cA (cB (cB impl_tableOf_f.bd)))))))))))))))) 2) impl_tableOf_f.kp 7 2 N (impl_tableOf_f.st1 nv0 gv1 gv2 gv3 gv4 gv5 gv6 gv7 gv8 gv9 gv10 gv11 gv12 gv13 gv14 gv15 gv16 gv17 outv18 x19 gv20 gv21 gv22 gv23 row24 x25 gv26) (impl_tableOf_f.k1g N L0 (impl_tableOf_f.k0 N K gv1 gv2 gv3 gv4 gv5 gv6 gv7 gv8 gv9 gv10 gv11 gv12 gv13 gv14 gv15 gv16 gv17))) (fun outv18 x19 gv20 gv21 gv22 gv23 => L0 (impl_tableOf_f.st0 nv0 gv1 gv2 gv3 gv4 gv5 gv6 gv7 gv8 gv9 gv10 gv11 gv12 gv13 gv14 gv15 gv16 gv17 outv18 x19 gv20 gv21 gv22 gv23)) (fun ov30 ov31 ov32 ov33 ov34 => (impl_tableOf_f.k0 N K gv1 gv2 gv3 gv4 gv5 gv6 gv7 gv8 gv9 gv10 gv11 gv12 gv13 gv14 gv15 gv16 gv17) (.exit 0) (impl_tableOf_f.sx0_0 gv1 gv2 gv3 gv4 gv5 gv6 gv7 gv8 gv9 gv10 gv11 gv12 gv13 gv14 gv15 gv16 gv17 ov30 ov31 ov32 ov33 ov34)) nv0 outv18 x19 gv20 gv21 gv22 gv23) := by
  have h := impl_tableOf_f.b0_gen N K L0 (impl_tableOf_f.k0 N K gv1 gv2 gv3 gv4 gv5 gv6 gv7 gv8 gv9 gv10 gv11 gv12 gv13 gv14 gv15 gv16 gv17) nv0 gv1 gv2 gv3 gv4 gv5 gv6 gv7 gv8 gv9 gv10 gv11 gv12 gv13 gv14 gv15 gv16 gv17 outv18 x19 gv20 gv21 gv22 gv23
  rw [impl_tableOf_f.k0_mix] at h
  exact h

theorem impl_tableOf_f.a0_0_eq {ρ : Type} (N : Nat) (K : AV → Heap → Option ρ) (gv1 : Nat → Int) (gv2 : Nat) (gv3 : Nat) (gv4 : Nat) (gv5 : Nat) (gv6 : Nat) (gv7 : Nat) (gv8 : Nat → Nat) (gv9 : Nat → Nat) (gv10 : Nat → Nat) (gv11 : Nat) (gv12 : Nat) (gv13 : Nat → Nat) (gv14 : Nat → Nat) (gv15 : Nat → Nat) (gv16 : Nat → Int) (gv17 : Nat → Int) (ov30 : Nat) (ov31 : Nat) (ov32 : Nat → Nat) (ov33 : Nat → Nat) (ov34 : Nat → Int) :
    (impl_tableOf_f.k0 N K gv1 gv2 gv3 gv4 gv5 gv6 gv7 gv8 gv9 gv10 gv11 gv12 gv13 gv14 gv15 gv16 gv17) (.exit 0) (impl_tableOf_f.sx0_0 gv1 gv2 gv3 gv4 gv5 gv6 gv7 gv8 gv9 gv10 gv11 gv12 gv13 gv14 gv15 gv16 gv17 ov30 ov31 ov32 ov33 ov34) = (impl_tableOf_f.a0_0 N (fun d0 d1 d2 d3 d4 => K (.slice true 7 0 d0 .whole 1) [⟨false, .flat 1 (.ints .i64 gv1)⟩, ⟨false, .avs [.slice true 3 0 gv2 (.exact gv3) 1]⟩, ⟨false, .avs [.slice true 4 0 gv4 (.exact gv5) 1]⟩, ⟨false, .hdr 5 gv6 gv7 gv8 gv9 (some gv10)⟩, ⟨false, .hdr 6 gv11 gv12 gv13 gv14 (some gv15)⟩, ⟨false, .flat 0 (.ints .i64 gv16)⟩, ⟨false, .flat 0 (.ints .i64 gv17)⟩, ⟨true, .hdr 8 0 d1 d2 d3 none⟩, ⟨true, .flat 0 (.ints .i64 d4)⟩]) ov30 ov31 ov32 ov33 ov34) := by kernel_rfl

theorem impl_tableOf_f.l1_eq {ρ : Type} (N : Nat) (K : AV → Heap → Option ρ) (L0 : St → Option ρ) (nv0 : Int) (gv1 : Nat → Int) (gv2 : Nat) (gv3 : Nat) (gv4 : Nat) (gv5 : Nat) (gv6 : Nat) (gv7 : Nat) (gv8 : Nat → Nat) (gv9 : Nat → Nat) (gv10 : Nat → Nat) (gv11 : Nat) (gv12 : Nat) (gv13 : Nat → Nat) (gv14 : Nat → Nat) (gv15 : Nat → Nat) (gv16 : Nat → Int) (gv17 : Nat → Int) (outv18 : Nat) (x19 : Int) (gv20 : Nat) (gv21 : Nat → Nat) (gv22 : Nat → Nat) (gv23 : Nat → Int) :
    ∀ (m : Nat) (row24 : Nat) (x25 : Int) (gv26 : Nat → Int), xloop (xcode (E20 N) ents impl_tableOf_f.kp 7 N (cL (cK (cB (cA (cB (cB (cK (cA (cB (cB (cL (cK (cB (cA (cB (cB impl_tableOf_f.bd)))))))))))))))) 2) impl_tableOf_f.kp 7 2 m (impl_tableOf_f.st1 nv0 gv1 gv2 gv3 gv4 gv5 gv6 gv7 gv8 gv9 gv10 gv11 gv12 gv13 gv14 gv15 gv16 gv17 outv18 x19 gv20 gv21 gv22 gv23 row24 x25 gv26) (impl_tableOf_f.k1g N L0 (impl_tableOf_f.k0 N K gv1 gv2 gv3 gv4 gv5 gv6 gv7 gv8 gv9 gv10 gv11 gv12 gv13 gv14 gv15 gv16 gv17)) = (impl_tableOf_f.l1 N (fun d0 d1 d2 d3 d4 => K (.slice true 7 0 d0 .whole 1) [⟨false, .flat 1 (.ints .i64 gv1)⟩, ⟨false, .avs [.slice true 3 0 gv2 (.exact gv3) 1]⟩, ⟨false, .avs [.slice true 4 0 gv4 (.exact gv5) 1]⟩, ⟨false, .hdr 5 gv6 gv7 gv8 gv9 (some gv10)⟩, ⟨false, .hdr 6 gv11 gv12 gv13 gv14 (some gv15)⟩, ⟨false, .flat 0 (.ints .i64 gv16)⟩, ⟨false, .flat 0 (.ints .i64 gv17)⟩, ⟨true, .hdr 8 0 d1 d2 d3 none⟩, ⟨true, .flat 0 (.ints .i64 d4)⟩]) nv0 gv1 gv2 gv3 gv4 gv5 gv7 gv8 gv9 gv10 gv12 gv13 gv14 gv15 gv16 gv17 x19 (fun ov28 ov29 => (impl_tableOf_f.k1g N L0 (impl_tableOf_f.k0 N K gv1 gv2 gv3 gv4 gv5 gv6 gv7 gv8 gv9 gv10 gv11 gv12 gv13 gv14 gv15 gv16 gv17)) (.exit 2) (impl_tableOf_f.sx1_0 nv0 gv1 gv2 gv3 gv4 gv5 gv6 gv7 gv8 gv9 gv10 gv11 gv12 gv13 gv14 gv15 gv16 gv17 outv18 x19 gv20 gv21 gv22 gv23 ov28 ov29)) m row24 x25 gv26) := by
  intro m
  induction m with
  | zero => intros; rfl
  | succ m ih =>
    intro row24 x25 gv26
    refine (impl_tableOf_f.b1_eq N K L0 (fun s => xloop (xcode (E20 N) ents impl_tableOf_f.kp 7 N (cL (cK (cB (cA (cB (cB (cK (cA (cB (cB (cL (cK (cB (cA (cB (cB impl_tableOf_f.bd)))))))))))))))) 2) impl_tableOf_f.kp 7 2 m s (impl_tableOf_f.k1g N L0 (impl_tableOf_f.k0 N K gv1 gv2 gv3 gv4 gv5 gv6 gv7 gv8 gv9 gv10 gv11 gv12 gv13 gv14 gv15 gv16 gv17))) nv0 gv1 gv2 gv3 gv4 gv5 gv6 gv7 gv8 gv9 gv10 gv11 gv12 gv13 gv14 gv15 gv16 gv17 outv18 x19 gv20 gv21 gv22 gv23 row24 x25 gv26).trans ?_
    simp only [ih]
    kernel_rfl

theorem impl_tableOf_f.l0_eq {ρ : Type} (N : Nat) (K : AV → Heap → Option ρ) (nv0 : Int) (gv1 : Nat → Int) (gv2 : Nat) (gv3 : Nat) (gv4 : Nat) (gv5 : Nat) (gv6 : Nat) (gv7 : Nat) (gv8 : Nat → Nat) (gv9 : Nat → Nat) (gv10 : Nat → Nat) (gv11 : Nat) (gv12 : Nat) (gv13 : Nat → Nat) (gv14 : Nat → Nat) (gv15 : Nat → Nat) (gv16 : Nat → Int) (gv17 : Nat → Int) :
    ∀ (m : Nat) (outv18 : Nat) (x19 : Int) (gv20 : Nat) (gv21 : Nat → Nat) (gv22 : Nat → Nat) (gv23 : Nat → Int), xloop (xcode (E20 N) ents impl_tableOf_f.kp 7 N (cL (cK (cB (cA (cB (cB impl_tableOf_f.bd)))))) 0) impl_tableOf_f.kp 7 0 m (impl_tableOf_f.st0 nv0 gv1 gv2 gv3 gv4 gv5 gv6 gv7 gv8 gv9 gv10 gv11 gv12 gv13 gv14 gv15 gv16 gv17 outv18 x19 gv20 gv21 gv22 gv23) (impl_tableOf_f.k0 N K gv1 gv2 gv3 gv4 gv5 gv6 gv7 gv8 gv9 gv10 gv11 gv12 gv13 gv14 gv15 gv16 gv17) = (impl_tableOf_f.l0 N (fun d0 d1 d2 d3 d4 => K (.slice true 7 0 d0 .whole 1) [⟨false, .flat 1 (.ints .i64 gv1)⟩, ⟨false, .avs [.slice true 3 0 gv2 (.exact gv3) 1]⟩, ⟨false, .avs [.slice true 4 0 gv4 (.exact gv5) 1]⟩, ⟨false, .hdr 5 gv6 gv7 gv8 gv9 (some gv10)⟩, ⟨false, .hdr 6 gv11 gv12 gv13 gv14 (some gv15)⟩, ⟨false, .flat 0 (.ints .i64 gv16)⟩, ⟨false, .flat 0 (.ints .i64 gv17)⟩, ⟨true, .hdr 8 0 d1 d2 d3 none⟩, ⟨true, .flat 0 (.ints .i64 d4)⟩]) nv0 gv1 gv2 gv3 gv4 gv5 gv7 gv8 gv9 gv10 gv12 gv13 gv14 gv15 gv16 gv17 (fun ov30 ov31 ov32 ov33 ov34 => (impl_tableOf_f.k0 N K gv1 gv2 gv3 gv4 gv5 gv6 gv7 gv8 gv9 gv10 gv11 gv12 gv13 gv14 gv15 gv16 gv17) (.exit 0) (impl_tableOf_f.sx0_0 gv1 gv2 gv3 gv4 gv5 gv6 gv7 gv8 gv9 gv10 gv11 gv12 gv13 gv14 gv15 gv16 gv17 ov30 ov31 ov32 ov33 ov34)) m outv18 x19 gv20 gv21 gv22 gv23) := by
  intro m
  induction m with
  | zero => intros; rfl
  | succ m ih =>
    intro outv18 x19 gv20 gv21 gv22 gv23
    refine (impl_tableOf_f.b0_eq N K (fun s => xloop (xcode (E20 N) ents impl_tableOf_f.kp 7 N (cL (cK (cB (cA (cB (cB impl_tableOf_f.bd)))))) 0) impl_tableOf_f.kp 7 0 m s (impl_tableOf_f.k0 N K gv1 gv2 gv3 gv4 gv5 gv6 gv7 gv8 gv9 gv10 gv11 gv12 gv13 gv14 gv15 gv16 gv17)) nv0 gv1 gv2 gv3 gv4 gv5 gv6 gv7 gv8 gv9 gv10 gv11 gv12 gv13 gv14 gv15 gv16 gv17 outv18 x19 gv20 gv21 gv22 gv23).trans ?_
    simp only [ih, impl_tableOf_f.l1_eq, impl_tableOf_f.a1_0_eq]
    kernel_rfl

theorem impl_tableOf_f.s_eq {ρ : Type} (N : Nat) (K : AV → Heap → Option ρ) (nv0 : Int) (gv1 : Nat → Int) (gv2 : Nat) (gv3 : Nat) (gv4 : Nat) (gv5 : Nat) (gv6 : Nat) (gv7 : Nat) (gv8 : Nat → Nat) (gv9 : Nat → Nat) (gv10 : Nat → Nat) (gv11 : Nat) (gv12 : Nat) (gv13 : Nat → Nat) (gv14 : Nat → Nat) (gv15 : Nat → Nat) (gv16 : Nat → Int) (gv17 : Nat → Int) :
    xbody (E20 N) ents impl_tableOf_f.kp N Go.Proofs.Try.f59 impl_tableOf_f.bd [.int .i64 (nv0), .fn 66 0 [[(0, 1)], [(1, 1)], [(2, 1)]]] [⟨false, .flat 1 (.ints .i64 gv1)⟩, ⟨false, .avs [.slice true 3 0 gv2 (.exact gv3) 1]⟩, ⟨false, .avs [.slice true 4 0 gv4 (.exact gv5) 1]⟩, ⟨false, .hdr 5 gv6 gv7 gv8 gv9 (some gv10)⟩, ⟨false, .hdr 6 gv11 gv12 gv13 gv14 (some gv15)⟩, ⟨false, .flat 0 (.ints .i64 gv16)⟩, ⟨false, .flat 0 (.ints .i64 gv17)⟩] K = (impl_tableOf_f.s N (fun d0 d1 d2 d3 d4 => K (.slice true 7 0 d0 .whole 1) [⟨false, .flat 1 (.ints .i64 gv1)⟩, ⟨false, .avs [.slice true 3 0 gv2 (.exact gv3) 1]⟩, ⟨false, .avs [.slice true 4 0 gv4 (.exact gv5) 1]⟩, ⟨false, .hdr 5 gv6 gv7 gv8 gv9 (some gv10)⟩, ⟨false, .hdr 6 gv11 gv12 gv13 gv14 (some gv15)⟩, ⟨false, .flat 0 (.ints .i64 gv16)⟩, ⟨false, .flat 0 (.ints .i64 gv17)⟩, ⟨true, .hdr 8 0 d1 d2 d3 none⟩, ⟨true, .flat 0 (.ints .i64 d4)⟩]) (fun outv18 x19 gv20 gv21 gv22 gv23 => xloop (xcode (E20 N) ents impl_tableOf_f.kp 7 N (cL (cK (cB (cA (cB (cB impl_tableOf_f.bd)))))) 0) impl_tableOf_f.kp 7 0 N (impl_tableOf_f.st0 nv0 gv1 gv2 gv3 gv4 gv5 gv6 gv7 gv8 gv9 gv10 gv11 gv12 gv13 gv14 gv15 gv16 gv17 outv18 x19 gv20 gv21 gv22 gv23) (impl_tableOf_f.k0 N K gv1 gv2 gv3 gv4 gv5 gv6 gv7 gv8 gv9 gv10 gv11 gv12 gv13 gv14 gv15 gv16 gv17))) := by kernel_rfl

theorem impl_tableOf_f.eq {ρ : Type} (N : Nat) (K : AV → Heap → Option ρ) (nv0 : Int) (gv1 : Nat → Int) (gv2 : Nat) (gv3 : Nat) (gv4 : Nat) (gv5 : Nat) (gv6 : Nat) (gv7 : Nat) (gv8 : Nat → Nat) (gv9 : Nat → Nat) (gv10 : Nat → Nat) (gv11 : Nat) (gv12 : Nat) (gv13 : Nat → Nat) (gv14 : Nat → Nat) (gv15 : Nat → Nat) (gv16 : Nat → Int) (gv17 : Nat → Int) :
    xbody (E20 N) ents impl_tableOf_f.kp N Go.Proofs.Try.f59 impl_tableOf_f.bd [.int .i64 (nv0), .fn 66 0 [[(0, 1)], [(1, 1)], [(2, 1)]]] [⟨false, .flat 1 (.ints .i64 gv1)⟩, ⟨false, .avs [.slice true 3 0 gv2 (.exact gv3) 1]⟩, ⟨false, .avs [.slice true 4 0 gv4 (.exact gv5) 1]⟩, ⟨false, .hdr 5 gv6 gv7 gv8 gv9 (some gv10)⟩, ⟨false, .hdr 6 gv11 gv12 gv13 gv14 (some gv15)⟩, ⟨false, .flat 0 (.ints .i64 gv16)⟩, ⟨false, .flat 0 (.ints .i64 gv17)⟩] K = (impl_tableOf_f N (fun d0 d1 d2 d3 d4 => K (.slice true 7 0 d0 .whole 1) [⟨false, .flat 1 (.ints .i64 gv1)⟩, ⟨false, .avs [.slice true 3 0 gv2 (.exact gv3) 1]⟩, ⟨false, .avs [.slice true 4 0 gv4 (.exact gv5) 1]⟩, ⟨false, .hdr 5 gv6 gv7 gv8 gv9 (some gv10)⟩, ⟨false, .hdr 6 gv11 gv12 gv13 gv14 (some gv15)⟩, ⟨false, .flat 0 (.ints .i64 gv16)⟩, ⟨false, .flat 0 (.ints .i64 gv17)⟩, ⟨true, .hdr 8 0 d1 d2 d3 none⟩, ⟨true, .flat 0 (.ints .i64 d4)⟩]) nv0 gv1 gv2 gv3 gv4 gv5 gv6 gv7 gv8 gv9 gv10 gv11 gv12 gv13 gv14 gv15 gv16 gv17) := by
  refine (impl_tableOf_f.s_eq N K nv0 gv1 gv2 gv3 gv4 gv5 gv6 gv7 gv8 gv9 gv10 gv11 gv12 gv13 gv14 gv15 gv16 gv17).trans ?_
  simp only [impl_tableOf_f.l0_eq, impl_tableOf_f.a0_0_eq]
  kernel_rfl

noncomputable def impl_tableOf_f_v2.kp : Keeps := ⟨[(0, [0, 1, 5, 10, 11], [], []), (2, [0, 1, 5, 6, 7, 10, 11, 15, 16], [], [])], [(0, [5], [], []), (2, [0, 1, 5, 7, 10, 11], [], [])], []⟩

noncomputable def impl_tableOf_f_v2.bd : Code := bodyOf Go.Proofs.Try.f59

noncomputable def impl_tableOf_f_v2.fin {ρ : Type} (N : Nat) (K : AV → Heap → Option ρ) (gv1 : Nat → Int) : XE → St → Option ρ := finK (E20 N) impl_tableOf_f_v2.kp.fins Go.Proofs.Try.f59 [⟨false, .flat 1 (.ints .i64 gv1)⟩, ⟨false, .avs [.nils]⟩, ⟨false, .avs [.nils]⟩] K

noncomputable def impl_tableOf_f_v2.k0 {ρ : Type} (N : Nat) (K : AV → Heap → Option ρ) (gv1 : Nat → Int) : XE → St → Option ρ := (blockK impl_tableOf_f_v2.kp 3 0 (seqK (xcode (E20 N) ents impl_tableOf_f_v2.kp 3 N (cB (cB (cB impl_tableOf_f_v2.bd))) 0) (impl_tableOf_f_v2.fin N K gv1)))

theorem impl_tableOf_f_v2.k0_mix {ρ : Type} (N : Nat) (K : AV → Heap → Option ρ) (gv1 : Nat → Int) : mixK (impl_tableOf_f_v2.fin N K gv1 .ret) (impl_tableOf_f_v2.k0 N K gv1) = (impl_tableOf_f_v2.k0 N K gv1) := by
  funext e s; cases e <;> kernel_rfl

noncomputable def impl_tableOf_f_v2.st0 (nv0 : Int) (gv1 : Nat → Int) (outv2 : Nat) (x3 : Int) (gv4 : Nat → Nat) (gv5 : Nat → Nat) (gv6 : Nat → Int) : St := ⟨sl 33 [(0, .int .i64 (nv0)), (1, .fn 66 0 [[(0, 1)], [(1, 1)], [(2, 1)]]), (5, .slice true 3 0 outv2 .whole 1), (10, .int .i64 (nv0)), (11, .int .i64 (x3))], [⟨false, .flat 1 (.ints .i64 gv1)⟩, ⟨false, .avs [.nils]⟩, ⟨false, .avs [.nils]⟩, ⟨true, .hdr 4 0 0 gv4 gv5 none⟩, ⟨true, .flat 0 (.ints .i64 gv6)⟩]⟩

noncomputable def impl_tableOf_f_v2.sx0_0 (gv1 : Nat → Int) (ov7 : Nat) (ov8 : Nat → Nat) (ov9 : Nat → Nat) (ov10 : Nat → Int) : St := ⟨sl 33 [(5, .slice true 3 0 ov7 .whole 1)], [⟨false, .flat 1 (.ints .i64 gv1)⟩, ⟨false, .avs [.nils]⟩, ⟨false, .avs [.nils]⟩, ⟨true, .hdr 4 0 0 ov8 ov9 none⟩, ⟨true, .flat 0 (.ints .i64 ov10)⟩]⟩

noncomputable def impl_tableOf_f_v2.k1g {ρ : Type} (N : Nat) (L0 : St → Option ρ) (kv : XE → St → Option ρ) : XE → St → Option ρ := (blockK impl_tableOf_f_v2.kp 3 2 (seqK (xcode (E20 N) ents impl_tableOf_f_v2.kp 3 N (cB (cB (cB (cK (cA (cB (cB (cL (cK (cB (cA (cB (cB impl_tableOf_f_v2.bd))))))))))))) 1) (blockK impl_tableOf_f_v2.kp 3 1 (seqK (xcode (E20 N) ents impl_tableOf_f_v2.kp 3 N (cB (cB (cB (cL (cK (cB (cA (cB (cB impl_tableOf_f_v2.bd))))))))) 0) (roundK impl_tableOf_f_v2.kp 3 0 L0 kv)))))

theorem impl_tableOf_f_v2.k1_mix {ρ : Type} (N : Nat) (K : AV → Heap → Option ρ) (L0 : St → Option ρ) (gv1 : Nat → Int) : mixK (impl_tableOf_f_v2.fin N K gv1 .ret) (impl_tableOf_f_v2.k1g N L0 (impl_tableOf_f_v2.k0 N K gv1)) = (impl_tableOf_f_v2.k1g N L0 (impl_tableOf_f_v2.k0 N K gv1)) := by
  funext e s; cases e <;> kernel_rfl

noncomputable def impl_tableOf_f_v2.st1 (nv0 : Int) (gv1 : Nat → Int) (outv2 : Nat) (x3 : Int) (gv4 : Nat → Nat) (gv5 : Nat → Nat) (gv6 : Nat → Int) : St := ⟨sl 33 [(0, .int .i64 (nv0)), (1, .fn 66 0 [[(0, 1)], [(1, 1)], [(2, 1)]]), (5, .slice true 3 0 outv2 .whole 1), (6, .int .i64 (x3)), (7, .slice true 4 0 0 .whole 1), (10, .int .i64 (nv0)), (11, .int .i64 (x3)), (15, .int .i64 (nv0)), (16, .int .i64 0)], [⟨false, .flat 1 (.ints .i64 gv1)⟩, ⟨false, .avs [.nils]⟩, ⟨false, .avs [.nils]⟩, ⟨true, .hdr 5 0 0 gv4 gv5 none⟩, ⟨true, .flat 0 (.ints .i64 (fun _ => 0))⟩, ⟨true, .flat 0 (.ints .i64 gv6)⟩]⟩

noncomputable def impl_tableOf_f_v2.sx1_0 (nv0 : Int) (gv1 : Nat → Int) (outv2 : Nat) (x3 : Int) (gv4 : Nat → Nat) (gv5 : Nat → Nat) (gv6 : Nat → Int) : St := ⟨sl 33 [(0, .int .i64 (nv0)), (1, .fn 66 0 [[(0, 1)], [(1, 1)], [(2, 1)]]), (5, .slice true 3 0 outv2 .whole 1), (7, .slice true 4 0 0 .whole 1), (10, .int .i64 (nv0)), (11, .int .i64 (x3))], [⟨false, .flat 1 (.ints .i64 gv1)⟩, ⟨false, .avs [.nils]⟩, ⟨false, .avs [.nils]⟩, ⟨true, .hdr 5 0 0 gv4 gv5 none⟩, ⟨true, .flat 0 (.ints .i64 (fun _ => 0))⟩, ⟨true, .flat 0 (.ints .i64 gv6)⟩]⟩

theorem impl_tableOf_f_v2.b1_gen {ρ : Type} (N : Nat) (K : AV → Heap → Option ρ) (L1 : St → Option ρ) (kv : XE → St → Option ρ) (nv0 : Int) (gv1 : Nat → Int) (outv2 : Nat) (x3 : Int) (gv4 : Nat → Nat) (gv5 : Nat → Nat) (gv6 : Nat → Int) :
    xcode (E20 N) ents impl_tableOf_f_v2.kp 3 N (cL (cK (cB (cA (cB (cB (cK (cA (cB (cB (cL (cK (cB (cA (cB (cB impl_tableOf_f_v2.bd)))))))))))))))) 2 (impl_tableOf_f_v2.st1 nv0 gv1 outv2 x3 gv4 gv5 gv6) (roundK impl_tableOf_f_v2.kp 3 2 L1 (mixK (impl_tableOf_f_v2.fin N K gv1 .ret) kv)) = (impl_tableOf_f_v2.b1 N (fun d0 d1 d2 d3 d4 => K (.slice true 3 0 d0 .whole 1) [⟨false, .flat 1 (.ints .i64 gv1)⟩, ⟨false, .avs [.nils]⟩, ⟨false, .avs [.nils]⟩, ⟨true, .hdr 4 0 d1 d2 d3 none⟩, ⟨true, .flat 0 (.ints .i64 d4)⟩]) (L1 (impl_tableOf_f_v2.st1 nv0 gv1 outv2 x3 gv4 gv5 gv6)) (kv (.exit 2) (impl_tableOf_f_v2.sx1_0 nv0 gv1 outv2 x3 gv4 gv5 gv6)) nv0 gv1 x3) := by kernel_rfl

theorem impl_tableOf_f_v2.b1_eq {ρ : Type} (N : Nat) (K : AV → Heap → Option ρ) (L0 : St → Option ρ) (L1 : St → Option ρ) (nv0 : Int) (gv1 : Nat → Int) (outv2 : Nat) (x3 : Int) (gv4 : Nat → Nat) (gv5 : Nat → Nat) (gv6 : Nat → Int) :
    xcode (E20 N) ents impl_tableOf_f_v2.kp 3 N (cL (cK (cB (cA (cB (cB (cK (cA (cB (cB (cL (cK (cB (cA (cB (cB impl_tableOf_f_v2.bd)))))))))))))))) 2 (impl_tableOf_f_v2.st1 nv0 gv1 outv2 x3 gv4 gv5 gv6) (roundK impl_tableOf_f_v2.kp 3 2 L1 (impl_tableOf_f_v2.k1g N L0 (impl_tableOf_f_v2.k0 N K gv1))) = (impl_tableOf_f_v2.b1 N (fun d0 d1 d2 d3 d4 => K (.slice true 3 0 d0 .whole 1) [⟨false, .flat 1 (.ints .i64 gv1)⟩, ⟨false, .avs [.nils]⟩, ⟨false, .avs [.nils]⟩, ⟨true, .hdr 4 0 d1 d2 d3 none⟩, ⟨true, .flat 0 (.ints .i64 d4)⟩]) (L1 (impl_tableOf_f_v2.st1 nv0 gv1 outv2 x3 gv4 gv5 gv6)) ((impl_tableOf_f_v2.k1g N L0 (impl_tableOf_f_v2.k0 N K gv1)) (.exit 2) (impl_tableOf_f_v2.sx1_0 nv0 gv1 outv2 x3 gv4 gv5 gv6)) nv0 gv1 x3) := by
  have h := impl_tableOf_f_v2.b1_gen N K L1 (impl_tableOf_f_v2.k1g N L0 (impl_tableOf_f_v2.k0 N K gv1)) nv0 gv1 outv2 x3 gv4 gv5 gv6
  rw [impl_tableOf_f_v2.k1_mix] at h
  exact h

theorem impl_tableOf_f_v2.a1_0_gen {ρ : Type} (N : Nat) (K : AV → Heap → Option ρ) (L0 : St → Option ρ) (kv : XE → St → Option ρ) (nv0 : Int) (gv1 : Nat → Int) (outv2 : Nat) (x3 : Int) (gv4 : Nat → Nat) (gv5 : Nat → Nat) (gv6 : Nat → Int) :
    (impl_tableOf_f_v2.k1g N L0 (mixK (impl_tableOf_f_v2.fin N K gv1 .ret) kv)) (.exit 2) (impl_tableOf_f_v2.sx1_0 nv0 gv1 outv2 x3 gv4 gv5 gv6) = (impl_tableOf_f_v2.a1_0 N (fun d0 d1 d2 d3 d4 => K (.slice true 3 0 d0 .whole 1) [⟨false, .flat 1 (.ints .i64 gv1)⟩, ⟨false, .avs [.nils]⟩, ⟨false, .avs [.nils]⟩, ⟨true, .hdr 4 0 d1 d2 d3 none⟩, ⟨true, .flat 0 (.ints .i64 d4)⟩]) (fun outv2 x3 gv4 gv5 gv6 => L0 (impl_tableOf_f_v2.st0 nv0 gv1 outv2 x3 gv4 gv5 gv6)) (fun ov7 ov8 ov9 ov10 => kv (.exit 0) (impl_tableOf_f_v2.sx0_0 gv1 ov7 ov8 ov9 ov10)) outv2 x3 gv4 gv5 gv6) := by kernel_rfl

theorem impl_tableOf_f_v2.a1_0_eq {ρ : Type} (N : Nat) (K : AV → Heap → Option ρ) (L0 : St → Option ρ) (nv0 : Int) (gv1 : Nat → Int) (outv2 : Nat) (x3 : Int) (gv4 : Nat → Nat) (gv5 : Nat → Nat) (gv6 : Nat → Int) :
    (impl_tableOf_f_v2.k1g N L0 (impl_tableOf_f_v2.k0 N K gv1)) (.exit 2) (impl_tableOf_f_v2.sx1_0 nv0 gv1 outv2 x3 gv4 gv5 gv6) = (impl_tableOf_f_v2.a1_0 N (fun d0 d1 d2 d3 d4 => K (.slice true 3 0 d0 .whole 1) [⟨false, .flat 1 (.ints .i64 gv1)⟩, ⟨false, .avs [.nils]⟩, ⟨false, .avs [.nils]⟩, ⟨true, .hdr 4 0 d1 d2 d3 none⟩, ⟨true, .flat 0 (.ints .i64 d4)⟩]) (fun outv2 x3 gv4 gv5 gv6 => L0 (impl_tableOf_f_v2.st0 nv0 gv1 outv2 x3 gv4 gv5 gv6)) (fun ov7 ov8 ov9 ov10 => (impl_tableOf_f_v2.k0 N K gv1) (.exit 0) (impl_tableOf_f_v2.sx0_0 gv1 ov7 ov8 ov9 ov10)) outv2 x3 gv4 gv5 gv6) := by
  have h := impl_tableOf_f_v2.a1_0_gen N K L0 (impl_tableOf_f_v2.k0 N K gv1) nv0 gv1 outv2 x3 gv4 gv5 gv6
  rw [impl_tableOf_f_v2.k0_mix] at h
  exact h

theorem impl_tableOf_f_v2.b0_gen {ρ : Type} (N : Nat) (K : AV → Heap → Option ρ) (L0 : St → Option ρ) (kv : XE → St → Option ρ) (nv0 : Int) (gv1 : Nat → Int) (outv2 : Nat) (x3 : Int) (gv4 : Nat → Nat) (gv5 : Nat → Nat) (gv6 : Nat → Int) :
    xcode (E20 N) ents impl_tableOf_f_v2.kp 3 N (cL (cK (cB (cA (cB (cB impl_tableOf_f_v2.bd)))))) 0 (impl_tableOf_f_v2.st0 nv0 gv1 outv2 x3 gv4 gv5 gv6) (roundK impl_tableOf_f_v2.kp 3 0 L0 (mixK (impl_tableOf_f_v2.fin N K gv1 .ret) kv)) = (impl_tableOf_f_v2.b0 N (fun d0 d1 d2 d3 d4 => K (.slice true 3 0 d0 .whole 1) [⟨false, .flat 1 (.ints .i64 gv1)⟩, ⟨false, .avs [.nils]⟩, ⟨false, .avs [.nils]⟩, ⟨true, .hdr 4 0 d1 d2 d3 none⟩, ⟨true, .flat 0 (.ints .i64 d4)⟩]) (xloop (xcode (E20 N) ents impl_tableOf_f_v2.kp 3 N (cL (cK (cB (cA (cB (cB (cK (cA (cB (cB (cL (cK (cB (cA (cB (cB impl_tableOf_f_v2.bd)))))))))))))))) 2) impl_tableOf_f_v2.kp 3 2 N (impl_tableOf_f_v2.st1 nv0 gv1 outv2 x3 gv4 gv5 gv6) (impl_tableOf_f_v2.k1g N L0 (mixK (impl_tableOf_f_v2.fin N K gv1 .ret) kv))) (fun outv2 x3 gv4 gv5 gv6 => L0 (impl_tableOf_f_v2.st0 nv0 gv1 outv2 x3 gv4 gv5 gv6)) (fun ov7 ov8 ov9 ov10 => kv (.exit 0) (impl_tableOf_f_v2.sx0_0 gv1 ov7 ov8 ov9 ov10)) nv0 outv2 x3 gv4 gv5 gv6) := by kernel_rfl

theorem impl_tableOf_f_v2.b0_eq {ρ : Type} (N : Nat) (K : AV → Heap → Option ρ) (L0 : St → Option ρ) (nv0 : Int) (gv1 : Nat → Int) (outv2 : Nat) (x3 : Int) (gv4 : Nat → Nat) (gv5 : Nat → Nat) (gv6 : Nat → Int) :
    xcode (E20 N) ents impl_tableOf_f_v2.kp 3 N (cL (cK (cB (cA (cB (cB impl_tableOf_f_v2.bd)))))) 0 (impl_tableOf_f_v2.st0 nv0 gv1 outv2 x3 gv4 gv5 gv6) (roundK impl_tableOf_f_v2.kp 3 0 L0 (impl_tableOf_f_v2.k0 N K gv1)) = (impl_tableOf_f_v2.b0 N (fun d0 d1 d2 d3 d4 => K (.slice true 3 0 d0 .whole 1) [⟨false, .flat 1 (.ints .i64 gv1)⟩, ⟨false, .avs [.nils]⟩, ⟨false, .avs [.nils]⟩, ⟨true, .hdr 4 0 d1 d2 d3 none⟩, ⟨true, .flat 0 (.ints .i64 d4)⟩]) (xloop (xcode (E20 N) ents impl_tableOf_f_v2.kp 3 N (cL (cK (cB (cA (cB (cB (cK (cA (cB (cB (cL (cK (cB (cA (cB (cB impl_tableOf_f_v2.bd)))))))))))))))) 2) impl_tableOf_f_v2.kp 3 2 N (impl_tableOf_f_v2.st1 nv0 gv1 outv2 x3 gv4 gv5 gv6) (impl_tableOf_f_v2.k1g N L0 (impl_tableOf_f_v2.k0 N K gv1))) (fun outv2 x3 gv4 gv5 gv6 => L0 (impl_tableOf_f_v2.st0 nv0 gv1 outv2 x3 gv4 gv5 gv6)) (fun ov7 ov8 ov9 ov10 => (impl_tableOf_f_v2.k0 N K gv1) (.exit 0) (impl_tableOf_f_v2.sx0_0 gv1 ov7 ov8 ov9 ov10)) nv0 outv2 x3 gv4 gv5 gv6) := by
  have h := impl_tableOf_f_v2.b0_gen N K L0 (impl_tableOf_f_v2.k0 N K gv1) nv0 gv1 outv2 x3 gv4 gv5 gv6
  rw [impl_tableOf_f_v2.k0_mix] at h
  exact h

theorem impl_tableOf_f_v2.a0_0_eq {ρ : Type} (N : Nat) (K : AV → Heap → Option ρ) (gv1 : Nat → Int) (ov7 : Nat) (ov8 : Nat → Nat) (ov9 : Nat → Nat) (ov10 : Nat → Int) :
    (impl_tableOf_f_v2.k0 N K gv1) (.exit 0) (impl_tableOf_f_v2.sx0_0 gv1 ov7 ov8 ov9 ov10) = (impl_tableOf_f_v2.a0_0 N (fun d0 d1 d2 d3 d4 => K (.slice true 3 0 d0 .whole 1) [⟨false, .flat 1 (.ints .i64 gv1)⟩, ⟨false, .avs [.nils]⟩, ⟨false, .avs [.nils]⟩, ⟨true, .hdr 4 0 d1 d2 d3 none⟩, ⟨true, .flat 0 (.ints .i64 d4)⟩]) ov7 ov8 ov9 ov10) := by kernel_rfl

theorem impl_tableOf_f_v2.l1_eq {ρ : Type} (N : Nat) (K : AV → Heap → Option ρ) (L0 : St → Option ρ) (nv0 : Int) (gv1 : Nat → Int) (outv2 : Nat) (x3 : Int) (gv4 : Nat → Nat) (gv5 : Nat → Nat) (gv6 : Nat → Int) :
    ∀ (m : Nat), xloop (xcode (E20 N) ents impl_tableOf_f_v2.kp 3 N (cL (cK (cB (cA (cB (cB (cK (cA (cB (cB (cL (cK (cB (cA (cB (cB impl_tableOf_f_v2.bd)))))))))))))))) 2) impl_tableOf_f_v2.kp 3 2 m (impl_tableOf_f_v2.st1 nv0 gv1 outv2 x3 gv4 gv5 gv6) (impl_tableOf_f_v2.k1g N L0 (impl_tableOf_f_v2.k0 N K gv1)) = (impl_tableOf_f_v2.l1 N (fun d0 d1 d2 d3 d4 => K (.slice true 3 0 d0 .whole 1) [⟨false, .flat 1 (.ints .i64 gv1)⟩, ⟨false, .avs [.nils]⟩, ⟨false, .avs [.nils]⟩, ⟨true, .hdr 4 0 d1 d2 d3 none⟩, ⟨true, .flat 0 (.ints .i64 d4)⟩]) nv0 gv1 x3 ((impl_tableOf_f_v2.k1g N L0 (impl_tableOf_f_v2.k0 N K gv1)) (.exit 2) (impl_tableOf_f_v2.sx1_0 nv0 gv1 outv2 x3 gv4 gv5 gv6)) m) := by
  intro m
  induction m with
  | zero => intros; rfl
  | succ m ih =>
    refine (impl_tableOf_f_v2.b1_eq N K L0 (fun s => xloop (xcode (E20 N) ents impl_tableOf_f_v2.kp 3 N (cL (cK (cB (cA (cB (cB (cK (cA (cB (cB (cL (cK (cB (cA (cB (cB impl_tableOf_f_v2.bd)))))))))))))))) 2) impl_tableOf_f_v2.kp 3 2 m s (impl_tableOf_f_v2.k1g N L0 (impl_tableOf_f_v2.k0 N K gv1))) nv0 gv1 outv2 x3 gv4 gv5 gv6).trans ?_
    simp only [ih]
    kernel_rfl

theorem impl_tableOf_f_v2.l0_eq {ρ : Type} (N : Nat) (K : AV → Heap → Option ρ) (nv0 : Int) (gv1 : Nat → Int) :
    ∀ (m : Nat) (outv2 : Nat) (x3 : Int) (gv4 : Nat → Nat) (gv5 : Nat → Nat) (gv6 : Nat → Int), xloop (xcode (E20 N) ents impl_tableOf_f_v2.kp 3 N (cL (cK (cB (cA (cB (cB impl_tableOf_f_v2.bd)))))) 0) impl_tableOf_f_v2.kp 3 0 m (impl_tableOf_f_v2.st0 nv0 gv1 outv2 x3 gv4 gv5 gv6) (impl_tableOf_f_v2.k0 N K gv1) = (impl_tableOf_f_v2.l0 N (fun d0 d1 d2 d3 d4 => K (.slice true 3 0 d0 .whole 1) [⟨false, .flat 1 (.ints .i64 gv1)⟩, ⟨false, .avs [.nils]⟩, ⟨false, .avs [.nils]⟩, ⟨true, .hdr 4 0 d1 d2 d3 none⟩, ⟨true, .flat 0 (.ints .i64 d4)⟩]) nv0 gv1 (fun ov7 ov8 ov9 ov10 => (impl_tableOf_f_v2.k0 N K gv1) (.exit 0) (impl_tableOf_f_v2.sx0_0 gv1 ov7 ov8 ov9 ov10)) m outv2 x3 gv4 gv5 gv6) := by
  intro m
  induction m with
  | zero => intros; rfl
  | succ m ih =>
    intro outv2 x3 gv4 gv5 gv6
    refine (impl_tableOf_f_v2.b0_eq N K (fun s => xloop (xcode (E20 N) ents impl_tableOf_f_v2.kp 3 N (cL (cK (cB (cA (cB (cB impl_tableOf_f_v2.bd)))))) 0) impl_tableOf_f_v2.kp 3 0 m s (impl_tableOf_f_v2.k0 N K gv1)) nv0 gv1 outv2 x3 gv4 gv5 gv6).trans ?_
    simp only [ih, impl_tableOf_f_v2.l1_eq, impl_tableOf_f_v2.a1_0_eq]
    kernel_rfl

theorem impl_tableOf_f_v2.s_eq {ρ : Type} (N : Nat) (K : AV → Heap → Option ρ) (nv0 : Int) (gv1 : Nat → Int) :
    xbody (E20 N) ents impl_tableOf_f_v2.kp N Go.Proofs.Try.f59 impl_tableOf_f_v2.bd [.int .i64 (nv0), .fn 66 0 [[(0, 1)], [(1, 1)], [(2, 1)]]] [⟨false, .flat 1 (.ints .i64 gv1)⟩, ⟨false, .avs [.nils]⟩, ⟨false, .avs [.nils]⟩] K = (impl_tableOf_f_v2.s N (fun d0 d1 d2 d3 d4 => K (.slice true 3 0 d0 .whole 1) [⟨false, .flat 1 (.ints .i64 gv1)⟩, ⟨false, .avs [.nils]⟩, ⟨false, .avs [.nils]⟩, ⟨true, .hdr 4 0 d1 d2 d3 none⟩, ⟨true, .flat 0 (.ints .i64 d4)⟩]) (fun outv2 x3 gv4 gv5 gv6 => xloop (xcode (E20 N) ents impl_tableOf_f_v2.kp 3 N (cL (cK (cB (cA (cB (cB impl_tableOf_f_v2.bd)))))) 0) impl_tableOf_f_v2.kp 3 0 N (impl_tableOf_f_v2.st0 nv0 gv1 outv2 x3 gv4 gv5 gv6) (impl_tableOf_f_v2.k0 N K gv1))) := by kernel_rfl

theorem impl_tableOf_f_v2.eq {ρ : Type} (N : Nat) (K : AV → Heap → Option ρ) (nv0 : Int) (gv1 : Nat → Int) :
    xbody (E20 N) ents impl_tableOf_f_v2.kp N Go.Proofs.Try.f59 impl_tableOf_f_v2.bd [.int .i64 (nv0), .fn 66 0 [[(0, 1)], [(1, 1)], [(2, 1)]]] [⟨false, .flat 1 (.ints .i64 gv1)⟩, ⟨false, .avs [.nils]⟩, ⟨false, .avs [.nils]⟩] K = (impl_tableOf_f_v2 N (fun d0 d1 d2 d3 d4 => K (.slice true 3 0 d0 .whole 1) [⟨false, .flat 1 (.ints .i64 gv1)⟩, ⟨false, .avs [.nils]⟩, ⟨false, .avs [.nils]⟩, ⟨true, .hdr 4 0 d1 d2 d3 none⟩, ⟨true, .flat 0 (.ints .i64 d4)⟩]) nv0 gv1) := by
  refine (impl_tableOf_f_v2.s_eq N K nv0 gv1).trans ?_
  simp only [impl_tableOf_f_v2.l0_eq, impl_tableOf_f_v2.a0_0_eq]
  kernel_rfl
end Go.Proofs.YtiifnnokpjbapaaRR.H
