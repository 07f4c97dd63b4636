/- The program computes these functions. -/
import Derived.Test.YtiifnnokpjbapaaRRHL1
namespace Go.Proofs.YtiifnnokpjbapaaRR.H
set_option linter.unusedVariables false
set_option linter.unusedSimpArgs false
open Go Go.RowKit Go.Proofs.YtiifnnokpjbapaaRR.Hy
set_option linter.unusedVariables false
set_option maxRecDepth 100000
noncomputable def impl_isGroupAt_sh.kp : Keeps := ⟨[(0, [0, 1, 26, 27], [], []), (2, [0, 1, 5, 26, 27, 31, 32], [], [])], [(0, [0, 1], [], []), (2, [0, 1, 26, 27], [], [])], []⟩

noncomputable def impl_isGroupAt_sh.bd : Code := bodyOf Go.Proofs.Try.f44

noncomputable def impl_isGroupAt_sh.fin {ρ : Type} (N : Nat) (K : AV → Heap → Option ρ) (gv3 : Nat) (gv4 : Nat) (gv5 : Nat → Nat) (gv6 : Nat → Nat) (gv7 : Nat → Nat) (gv8 : Nat → Int) : XE → St → Option ρ := finK (E14 N) impl_isGroupAt_sh.kp.fins Go.Proofs.Try.f44 [⟨false, .hdr 1 gv3 gv4 gv5 gv6 (some gv7)⟩, ⟨false, .flat 0 (.ints .i64 gv8)⟩] K

noncomputable def impl_isGroupAt_sh.k0 {ρ : Type} (N : Nat) (K : AV → Heap → Option ρ) (gv3 : Nat) (gv4 : Nat) (gv5 : Nat → Nat) (gv6 : Nat → Nat) (gv7 : Nat → Nat) (gv8 : Nat → Int) : XE → St → Option ρ := (blockK impl_isGroupAt_sh.kp 2 0 (seqK (xcode (E14 N) ents impl_isGroupAt_sh.kp 2 N (cB (cB (cB impl_isGroupAt_sh.bd))) 0) (impl_isGroupAt_sh.fin N K gv3 gv4 gv5 gv6 gv7 gv8)))

theorem impl_isGroupAt_sh.k0_mix {ρ : Type} (N : Nat) (K : AV → Heap → Option ρ) (gv3 : Nat) (gv4 : Nat) (gv5 : Nat → Nat) (gv6 : Nat → Nat) (gv7 : Nat → Nat) (gv8 : Nat → Int) : mixK (impl_isGroupAt_sh.fin N K gv3 gv4 gv5 gv6 gv7 gv8 .ret) (impl_isGroupAt_sh.k0 N K gv3 gv4 gv5 gv6 gv7 gv8) = (impl_isGroupAt_sh.k0 N K gv3 gv4 gv5 gv6 gv7 gv8) := by
  funext e s; cases e <;> kernel_rfl

noncomputable def impl_isGroupAt_sh.st0 (table0 : Nat) (table1 : Nat) (i2 : Int) (gv3 : Nat) (gv4 : Nat) (gv5 : Nat → Nat) (gv6 : Nat → Nat) (gv7 : Nat → Nat) (gv8 : Nat → Int) (x9 : Int) : St := ⟨sl 68 [(0, .slice true 0 0 table0 (.exact table1) 1), (1, .int .i64 (i2)), (26, .int .i64 ((table0 : Int))), (27, .int .i64 (x9))], [⟨false, .hdr 1 gv3 gv4 gv5 gv6 (some gv7)⟩, ⟨false, .flat 0 (.ints .i64 gv8)⟩]⟩

noncomputable def impl_isGroupAt_sh.sx0_0 (table0 : Nat) (table1 : Nat) (i2 : Int) (gv3 : Nat) (gv4 : Nat) (gv5 : Nat → Nat) (gv6 : Nat → Nat) (gv7 : Nat → Nat) (gv8 : Nat → Int) : St := ⟨sl 68 [(0, .slice true 0 0 table0 (.exact table1) 1), (1, .int .i64 (i2))], [⟨false, .hdr 1 gv3 gv4 gv5 gv6 (some gv7)⟩, ⟨false, .flat 0 (.ints .i64 gv8)⟩]⟩

noncomputable def impl_isGroupAt_sh.k1g {ρ : Type} (N : Nat) (L0 : St → Option ρ) (kv : XE → St → Option ρ) : XE → St → Option ρ := (blockK impl_isGroupAt_sh.kp 2 2 (blockK impl_isGroupAt_sh.kp 2 1 (seqK (xcode (E14 N) ents impl_isGroupAt_sh.kp 2 N (cB (cB (cB (cL (cK (cB (cA (cB (cB impl_isGroupAt_sh.bd))))))))) 0) (roundK impl_isGroupAt_sh.kp 2 0 L0 kv))))

theorem impl_isGroupAt_sh.k1_mix {ρ : Type} (N : Nat) (K : AV → Heap → Option ρ) (L0 : St → Option ρ) (gv3 : Nat) (gv4 : Nat) (gv5 : Nat → Nat) (gv6 : Nat → Nat) (gv7 : Nat → Nat) (gv8 : Nat → Int) : mixK (impl_isGroupAt_sh.fin N K gv3 gv4 gv5 gv6 gv7 gv8 .ret) (impl_isGroupAt_sh.k1g N L0 (impl_isGroupAt_sh.k0 N K gv3 gv4 gv5 gv6 gv7 gv8)) = (impl_isGroupAt_sh.k1g N L0 (impl_isGroupAt_sh.k0 N K gv3 gv4 gv5 gv6 gv7 gv8)) := by
  funext e s; cases e <;> kernel_rfl

noncomputable def impl_isGroupAt_sh.st1 (table0 : Nat) (table1 : Nat) (i2 : Int) (gv3 : Nat) (gv4 : Nat) (gv5 : Nat → Nat) (gv6 : Nat → Nat) (gv7 : Nat → Nat) (gv8 : Nat → Int) (x9 : Int) (x10 : Int) : St := ⟨sl 68 [(0, .slice true 0 0 table0 (.exact table1) 1), (1, .int .i64 (i2)), (5, .int .i64 (x9)), (26, .int .i64 ((table0 : Int))), (27, .int .i64 (x9)), (31, .int .i64 ((table0 : Int))), (32, .int .i64 (x10))], [⟨false, .hdr 1 gv3 gv4 gv5 gv6 (some gv7)⟩, ⟨false, .flat 0 (.ints .i64 gv8)⟩]⟩

noncomputable def impl_isGroupAt_sh.sx1_0 (table0 : Nat) (table1 : Nat) (i2 : Int) (gv3 : Nat) (gv4 : Nat) (gv5 : Nat → Nat) (gv6 : Nat → Nat) (gv7 : Nat → Nat) (gv8 : Nat → Int) (x9 : Int) : St := ⟨sl 68 [(0, .slice true 0 0 table0 (.exact table1) 1), (1, .int .i64 (i2)), (26, .int .i64 ((table0 : Int))), (27, .int .i64 (x9))], [⟨false, .hdr 1 gv3 gv4 gv5 gv6 (some gv7)⟩, ⟨false, .flat 0 (.ints .i64 gv8)⟩]⟩

theorem impl_isGroupAt_sh.b1_gen {ρ : Type} (N : Nat) (K : AV → Heap → Option ρ) (L1 : St → Option ρ) (kv : XE → St → Option ρ) (table0 : Nat) (table1 : Nat) (i2 : Int) (gv3 : Nat) (gv4 : Nat) (gv5 : Nat → Nat) (gv6 : Nat → Nat) (gv7 : Nat → Nat) (gv8 : Nat → Int) (x9 : Int) (x10 : Int) :
    xcode (E14 N) ents impl_isGroupAt_sh.kp 2 N (cL (cK (cB (cB (cK (cA (cB (cB (cL (cK (cB (cA (cB (cB impl_isGroupAt_sh.bd)))))))))))))) 2 (impl_isGroupAt_sh.st1 table0 table1 i2 gv3 gv4 gv5 gv6 gv7 gv8 x9 x10) (roundK impl_isGroupAt_sh.kp 2 2 L1 (mixK (impl_isGroupAt_sh.fin N K gv3 gv4 gv5 gv6 gv7 gv8 .ret) kv)) = (impl_isGroupAt_sh.b1 N (fun d0 => K (.bool (d0)) [⟨false, .hdr 1 gv3 gv4 gv5 gv6 (some gv7)⟩, ⟨false, .flat 0 (.ints .i64 gv8)⟩]) (fun x10 => L1 (impl_isGroupAt_sh.st1 table0 table1 i2 gv3 gv4 gv5 gv6 gv7 gv8 x9 x10)) (kv (.exit 2) (impl_isGroupAt_sh.sx1_0 table0 table1 i2 gv3 gv4 gv5 gv6 gv7 gv8 x9)) table0 i2 gv5 gv6 gv8 x9 x10) := by kernel_rfl

theorem impl_isGroupAt_sh.b1_eq {ρ : Type} (N : Nat) (K : AV → Heap → Option ρ) (L0 : St → Option ρ) (L1 : St → Option ρ) (table0 : Nat) (table1 : Nat) (i2 : Int) (gv3 : Nat) (gv4 : Nat) (gv5 : Nat → Nat) (gv6 : Nat → Nat) (gv7 : Nat → Nat) (gv8 : Nat → Int) (x9 : Int) (x10 : Int) :
    xcode (E14 N) ents impl_isGroupAt_sh.kp 2 N (cL (cK (cB (cB (cK (cA (cB (cB (cL (cK (cB (cA (cB (cB impl_isGroupAt_sh.bd)))))))))))))) 2 (impl_isGroupAt_sh.st1 table0 table1 i2 gv3 gv4 gv5 gv6 gv7 gv8 x9 x10) (roundK impl_isGroupAt_sh.kp 2 2 L1 (impl_isGroupAt_sh.k1g N L0 (impl_isGroupAt_sh.k0 N K gv3 gv4 gv5 gv6 gv7 gv8))) = (impl_isGroupAt_sh.b1 N (fun d0 => K (.bool (d0)) [⟨false, .hdr 1 gv3 gv4 gv5 gv6 (some gv7)⟩, ⟨false, .flat 0 (.ints .i64 gv8)⟩]) (fun x10 => L1 (impl_isGroupAt_sh.st1 table0 table1 i2 gv3 gv4 gv5 gv6 gv7 gv8 x9 x10)) ((impl_isGroupAt_sh.k1g N L0 (impl_isGroupAt_sh.k0 N K gv3 gv4 gv5 gv6 gv7 gv8)) (.exit 2) (impl_isGroupAt_sh.sx1_0 table0 table1 i2 gv3 gv4 gv5 gv6 gv7 gv8 x9)) table0 i2 gv5 gv6 gv8 x9 x10) := by
  have h := impl_isGroupAt_sh.b1_gen N K L1 (impl_isGroupAt_sh.k1g N L0 (impl_isGroupAt_sh.k0 N K gv3 gv4 gv5 gv6 gv7 gv8)) table0 table1 i2 gv3 gv4 gv5 gv6 gv7 gv8 x9 x10
  rw [impl_isGroupAt_sh.k1_mix] at h
  exact h

theorem impl_isGroupAt_sh.a1_0_gen {ρ : Type} (N : Nat) (K : AV → Heap → Option ρ) (L0 : St → Option ρ) (kv : XE → St → Option ρ) (table0 : Nat) (table1 : Nat) (i2 : Int) (gv3 : Nat) (gv4 : Nat) (gv5 : Nat → Nat) (gv6 : Nat → Nat) (gv7 : Nat → Nat) (gv8 : Nat → Int) (x9 : Int) :
    (impl_isGroupAt_sh.k1g N L0 (mixK (impl_isGroupAt_sh.fin N K gv3 gv4 gv5 gv6 gv7 gv8 .ret) kv)) (.exit 2) (impl_isGroupAt_sh.sx1_0 table0 table1 i2 gv3 gv4 gv5 gv6 gv7 gv8 x9) = (impl_isGroupAt_sh.a1_0 N (fun d0 => K (.bool (d0)) [⟨false, .hdr 1 gv3 gv4 gv5 gv6 (some gv7)⟩, ⟨false, .flat 0 (.ints .i64 gv8)⟩]) (fun x9 => L0 (impl_isGroupAt_sh.st0 table0 table1 i2 gv3 gv4 gv5 gv6 gv7 gv8 x9)) (kv (.exit 0) (impl_isGroupAt_sh.sx0_0 table0 table1 i2 gv3 gv4 gv5 gv6 gv7 gv8)) x9) := by kernel_rfl

theorem impl_isGroupAt_sh.a1_0_eq {ρ : Type} (N : Nat) (K : AV → Heap → Option ρ) (L0 : St → Option ρ) (table0 : Nat) (table1 : Nat) (i2 : Int) (gv3 : Nat) (gv4 : Nat) (gv5 : Nat → Nat) (gv6 : Nat → Nat) (gv7 : Nat → Nat) (gv8 : Nat → Int) (x9 : Int) :
    (impl_isGroupAt_sh.k1g N L0 (impl_isGroupAt_sh.k0 N K gv3 gv4 gv5 gv6 gv7 gv8)) (.exit 2) (impl_isGroupAt_sh.sx1_0 table0 table1 i2 gv3 gv4 gv5 gv6 gv7 gv8 x9) = (impl_isGroupAt_sh.a1_0 N (fun d0 => K (.bool (d0)) [⟨false, .hdr 1 gv3 gv4 gv5 gv6 (some gv7)⟩, ⟨false, .flat 0 (.ints .i64 gv8)⟩]) (fun x9 => L0 (impl_isGroupAt_sh.st0 table0 table1 i2 gv3 gv4 gv5 gv6 gv7 gv8 x9)) ((impl_isGroupAt_sh.k0 N K gv3 gv4 gv5 gv6 gv7 gv8) (.exit 0) (impl_isGroupAt_sh.sx0_0 table0 table1 i2 gv3 gv4 gv5 gv6 gv7 gv8)) x9) := by
  have h := impl_isGroupAt_sh.a1_0_gen N K L0 (impl_isGroupAt_sh.k0 N K gv3 gv4 gv5 gv6 gv7 gv8) table0 table1 i2 gv3 gv4 gv5 gv6 gv7 gv8 x9
  rw [impl_isGroupAt_sh.k0_mix] at h
  exact h

theorem impl_isGroupAt_sh.b0_gen {ρ : Type} (N : Nat) (K : AV → Heap → Option ρ) (L0 : St → Option ρ) (kv : XE → St → Option ρ) (table0 : Nat) (table1 : Nat) (i2 : Int) (gv3 : Nat) (gv4 : Nat) (gv5 : Nat → Nat) (gv6 : Nat → Nat) (gv7 : Nat → Nat) (gv8 : Nat → Int) (x9 : Int) :
    xcode (E14 N) ents impl_isGroupAt_sh.kp 2 N (cL (cK (cB (cA (cB (cB impl_isGroupAt_sh.bd)))))) 0 (impl_isGroupAt_sh.st0 table0 table1 i2 gv3 gv4 gv5 gv6 gv7 gv8 x9) (roundK impl_isGroupAt_sh.kp 2 0 L0 (mixK (impl_isGroupAt_sh.fin N K gv3 gv4 gv5 gv6 gv7 gv8 .ret) kv)) = (impl_isGroupAt_sh.b0 N (fun d0 => K (.bool (d0)) [⟨false, .hdr 1 gv3 gv4 gv5 gv6 (some gv7)⟩, ⟨false, .flat 0 (.ints .i64 gv8)⟩]) (fun x10 => xloop (xcode (E14 N) ents impl_isGroupAt_sh.kp 2 N (cL (cK (cB (cB (cK (cA (cB (cB (cL (cK (cB (cA (cB (cB impl_isGroupAt_sh.bd)))))))))))))) 2) impl_isGroupAt_sh.kp 2 2 N (impl_isGroupAt_sh.st1 table0 table1 i2 gv3 gv4 gv5 gv6 gv7 gv8 x9 x10) (impl_isGroupAt_sh.k1g N L0 (mixK (impl_isGroupAt_sh.fin N K gv3 gv4 gv5 gv6 gv7 gv8 .ret) kv))) (fun x9 => L0 (impl_isGroupAt_sh.st0 table0 table1 i2 gv3 gv4 gv5 gv6 gv7 gv8 x9)) (kv (.exit 0) (impl_isGroupAt_sh.sx0_0 table0 table1 i2 gv3 gv4 gv5 gv6 gv7 gv8)) table0 x9) := by kernel_rfl

theorem impl_isGroupAt_sh.b0_eq {ρ : Type} (N : Nat) (K : AV → Heap → Option ρ) (L0 : St → Option ρ) (table0 : Nat) (table1 : Nat) (i2 : Int) (gv3 : Nat) (gv4 : Nat) (gv5 : Nat → Nat) (gv6 : Nat → Nat) (gv7 : Nat → Nat) (gv8 : Nat → Int) (x9 : Int) :
    xcode (E14 N) ents impl_isGroupAt_sh.kp 2 N (cL (cK (cB (cA (cB (cB impl_isGroupAt_sh.bd)))))) 0 (impl_isGroupAt_sh.st0 table0 table1 i2 gv3 gv4 gv5 gv6 gv7 gv8 x9) (roundK impl_isGroupAt_sh.kp 2 0 L0 (impl_isGroupAt_sh.k0 N K gv3 gv4 gv5 gv6 gv7 gv8)) = (impl_isGroupAt_sh.b0 N (fun d0 => K (.bool (d0)) [⟨false, .hdr 1 gv3 gv4 gv5 gv6 (some gv7)⟩, ⟨false, .flat 0 (.ints .i64 gv8)⟩]) (fun x10 => xloop (xcode (E14 N) ents impl_isGroupAt_sh.kp 2 N (cL (cK (cB (cB (cK (cA (cB (cB (cL (cK (cB (cA (cB (cB impl_isGroupAt_sh.bd)))))))))))))) 2) impl_isGroupAt_sh.kp 2 2 N (impl_isGroupAt_sh.st1 table0 table1 i2 gv3 gv4 gv5 gv6 gv7 gv8 x9 x10) (impl_isGroupAt_sh.k1g N L0 (impl_isGroupAt_sh.k0 N K gv3 gv4 gv5 gv6 gv7 gv8))) (fun x9 => L0 (impl_isGroupAt_sh.st0 table0 table1 i2 gv3 gv4 gv5 gv6 gv7 gv8 x9)) ((impl_isGroupAt_sh.k0 N K gv3 gv4 gv5 gv6 gv7 gv8) (.exit 0) (impl_isGroupAt_sh.sx0_0 table0 table1 i2 gv3 gv4 gv5 gv6 gv7 gv8)) table0 x9) := by
  have h := impl_isGroupAt_sh.b0_gen N K L0 (impl_isGroupAt_sh.k0 N K gv3 gv4 gv5 gv6 gv7 gv8) table0 table1 i2 gv3 gv4 gv5 gv6 gv7 gv8 x9
  rw [impl_isGroupAt_sh.k0_mix] at h
  exact h

theorem impl_isGroupAt_sh.a0_0_eq {ρ : Type} (N : Nat) (K : AV → Heap → Option ρ) (table0 : Nat) (table1 : Nat) (i2 : Int) (gv3 : Nat) (gv4 : Nat) (gv5 : Nat → Nat) (gv6 : Nat → Nat) (gv7 : Nat → Nat) (gv8 : Nat → Int) :
    (impl_isGroupAt_sh.k0 N K gv3 gv4 gv5 gv6 gv7 gv8) (.exit 0) (impl_isGroupAt_sh.sx0_0 table0 table1 i2 gv3 gv4 gv5 gv6 gv7 gv8) = (impl_isGroupAt_sh.a0_0 N (fun d0 => K (.bool (d0)) [⟨false, .hdr 1 gv3 gv4 gv5 gv6 (some gv7)⟩, ⟨false, .flat 0 (.ints .i64 gv8)⟩]) table0 table1 i2 gv4 gv5 gv6 gv7 gv8) := by kernel_rfl

theorem impl_isGroupAt_sh.l1_eq {ρ : Type} (N : Nat) (K : AV → Heap → Option ρ) (L0 : St → Option ρ) (table0 : Nat) (table1 : Nat) (i2 : Int) (gv3 : Nat) (gv4 : Nat) (gv5 : Nat → Nat) (gv6 : Nat → Nat) (gv7 : Nat → Nat) (gv8 : Nat → Int) (x9 : Int) :
    ∀ (m : Nat) (x10 : Int), xloop (xcode (E14 N) ents impl_isGroupAt_sh.kp 2 N (cL (cK (cB (cB (cK (cA (cB (cB (cL (cK (cB (cA (cB (cB impl_isGroupAt_sh.bd)))))))))))))) 2) impl_isGroupAt_sh.kp 2 2 m (impl_isGroupAt_sh.st1 table0 table1 i2 gv3 gv4 gv5 gv6 gv7 gv8 x9 x10) (impl_isGroupAt_sh.k1g N L0 (impl_isGroupAt_sh.k0 N K gv3 gv4 gv5 gv6 gv7 gv8)) = (impl_isGroupAt_sh.l1 N (fun d0 => K (.bool (d0)) [⟨false, .hdr 1 gv3 gv4 gv5 gv6 (some gv7)⟩, ⟨false, .flat 0 (.ints .i64 gv8)⟩]) table0 i2 gv5 gv6 gv8 x9 ((impl_isGroupAt_sh.k1g N L0 (impl_isGroupAt_sh.k0 N K gv3 gv4 gv5 gv6 gv7 gv8)) (.exit 2) (impl_isGroupAt_sh.sx1_0 table0 table1 i2 gv3 gv4 gv5 gv6 gv7 gv8 x9)) m x10) := by
  intro m
  induction m with
  | zero => intros; rfl
  | succ m ih =>
    intro x10
    refine (impl_isGroupAt_sh.b1_eq N K L0 (fun s => xloop (xcode (E14 N) ents impl_isGroupAt_sh.kp 2 N (cL (cK (cB (cB (cK (cA (cB (cB (cL (cK (cB (cA (cB (cB impl_isGroupAt_sh.bd)))))))))))))) 2) impl_isGroupAt_sh.kp 2 2 m s (impl_isGroupAt_sh.k1g N L0 (impl_isGroupAt_sh.k0 N K gv3 gv4 gv5 gv6 gv7 gv8))) table0 table1 i2 gv3 gv4 gv5 gv6 gv7 gv8 x9 x10).trans ?_
    simp only [ih]
    kernel_rfl

theorem impl_isGroupAt_sh.l0_eq {ρ : Type} (N : Nat) (K : AV → Heap → Option ρ) (table0 : Nat) (table1 : Nat) (i2 : Int) (gv3 : Nat) (gv4 : Nat) (gv5 : Nat → Nat) (gv6 : Nat → Nat) (gv7 : Nat → Nat) (gv8 : Nat → Int) :
    ∀ (m : Nat) (x9 : Int), xloop (xcode (E14 N) ents impl_isGroupAt_sh.kp 2 N (cL (cK (cB (cA (cB (cB impl_isGroupAt_sh.bd)))))) 0) impl_isGroupAt_sh.kp 2 0 m (impl_isGroupAt_sh.st0 table0 table1 i2 gv3 gv4 gv5 gv6 gv7 gv8 x9) (impl_isGroupAt_sh.k0 N K gv3 gv4 gv5 gv6 gv7 gv8) = (impl_isGroupAt_sh.l0 N (fun d0 => K (.bool (d0)) [⟨false, .hdr 1 gv3 gv4 gv5 gv6 (some gv7)⟩, ⟨false, .flat 0 (.ints .i64 gv8)⟩]) table0 i2 gv5 gv6 gv8 ((impl_isGroupAt_sh.k0 N K gv3 gv4 gv5 gv6 gv7 gv8) (.exit 0) (impl_isGroupAt_sh.sx0_0 table0 table1 i2 gv3 gv4 gv5 gv6 gv7 gv8)) m x9) := by
  intro m
  induction m with
  | zero => intros; rfl
  | succ m ih =>
    intro x9
    refine (impl_isGroupAt_sh.b0_eq N K (fun s => xloop (xcode (E14 N) ents impl_isGroupAt_sh.kp 2 N (cL (cK (cB (cA (cB (cB impl_isGroupAt_sh.bd)))))) 0) impl_isGroupAt_sh.kp 2 0 m s (impl_isGroupAt_sh.k0 N K gv3 gv4 gv5 gv6 gv7 gv8)) table0 table1 i2 gv3 gv4 gv5 gv6 gv7 gv8 x9).trans ?_
    simp only [ih, impl_isGroupAt_sh.l1_eq, impl_isGroupAt_sh.a1_0_eq]
    kernel_rfl

theorem impl_isGroupAt_sh.s_eq {ρ : Type} (N : Nat) (K : AV → Heap → Option ρ) (table0 : Nat) (table1 : Nat) (i2 : Int) (gv3 : Nat) (gv4 : Nat) (gv5 : Nat → Nat) (gv6 : Nat → Nat) (gv7 : Nat → Nat) (gv8 : Nat → Int) :
    xbody (E14 N) ents impl_isGroupAt_sh.kp N Go.Proofs.Try.f44 impl_isGroupAt_sh.bd [.slice true 0 0 table0 (.exact table1) 1, .int .i64 (i2)] [⟨false, .hdr 1 gv3 gv4 gv5 gv6 (some gv7)⟩, ⟨false, .flat 0 (.ints .i64 gv8)⟩] K = (impl_isGroupAt_sh.s N (fun d0 => K (.bool (d0)) [⟨false, .hdr 1 gv3 gv4 gv5 gv6 (some gv7)⟩, ⟨false, .flat 0 (.ints .i64 gv8)⟩]) (fun x9 => xloop (xcode (E14 N) ents impl_isGroupAt_sh.kp 2 N (cL (cK (cB (cA (cB (cB impl_isGroupAt_sh.bd)))))) 0) impl_isGroupAt_sh.kp 2 0 N (impl_isGroupAt_sh.st0 table0 table1 i2 gv3 gv4 gv5 gv6 gv7 gv8 x9) (impl_isGroupAt_sh.k0 N K gv3 gv4 gv5 gv6 gv7 gv8)) table0 i2 gv5 gv6 gv8) := by kernel_rfl

theorem impl_isGroupAt_sh.eq {ρ : Type} (N : Nat) (K : AV → Heap → Option ρ) (table0 : Nat) (table1 : Nat) (i2 : Int) (gv3 : Nat) (gv4 : Nat) (gv5 : Nat → Nat) (gv6 : Nat → Nat) (gv7 : Nat → Nat) (gv8 : Nat → Int) :
    xbody (E14 N) ents impl_isGroupAt_sh.kp N Go.Proofs.Try.f44 impl_isGroupAt_sh.bd [.slice true 0 0 table0 (.exact table1) 1, .int .i64 (i2)] [⟨false, .hdr 1 gv3 gv4 gv5 gv6 (some gv7)⟩, ⟨false, .flat 0 (.ints .i64 gv8)⟩] K = (impl_isGroupAt_sh N (fun d0 => K (.bool (d0)) [⟨false, .hdr 1 gv3 gv4 gv5 gv6 (some gv7)⟩, ⟨false, .flat 0 (.ints .i64 gv8)⟩]) table0 table1 i2 gv3 gv4 gv5 gv6 gv7 gv8) := by
  refine (impl_isGroupAt_sh.s_eq N K table0 table1 i2 gv3 gv4 gv5 gv6 gv7 gv8).trans ?_
  simp only [impl_isGroupAt_sh.l0_eq, impl_isGroupAt_sh.a0_0_eq]
  kernel_rfl

noncomputable def impl_isGroupAt_sh.en (N : Nat) (ρ : Type) : List AV → Heap → (AV → Heap → Option ρ) → Option ρ
  | [.slice true 0 0 table0 (.exact table1) 1, .int .i64 (i2)], [⟨false, .hdr 1 gv3 gv4 gv5 gv6 (some gv7)⟩, ⟨false, .flat 0 (.ints .i64 gv8)⟩], K => (impl_isGroupAt_sh N (fun d0 => K (.bool (d0)) [⟨false, .hdr 1 gv3 gv4 gv5 gv6 (some gv7)⟩, ⟨false, .flat 0 (.ints .i64 gv8)⟩]) table0 table1 i2 gv3 gv4 gv5 gv6 gv7 gv8)
  | _, _, _ => none

theorem impl_isGroupAt_sh.en_ok (N : Nat) (hE : EnvOk (E14 N) ents) (ρ : Type) (args : List AV) (sh : Heap) (K : AV → Heap → Option ρ) (r : ρ) (h : impl_isGroupAt_sh.en N ρ args sh K = some r) : ∃ v sh', K v sh' = some r ∧ FnOk (E14 N).P 44 args sh v sh' := by
  unfold impl_isGroupAt_sh.en at h
  split at h
  · exact fn_ok hE (kp := impl_isGroupAt_sh.kp) (N := N) Go.Proofs.Try.func44 (c := impl_isGroupAt_sh.bd) (by kernel_rfl) ((impl_isGroupAt_sh.eq N _ _ _ _ _ _ _ _ _ _).trans h)
  · cases h

noncomputable def E15 (N : Nat) : Env := (E14 N).add 44 (impl_isGroupAt_sh.en N)

theorem E15_ok (N : Nat) : EnvOk (E15 N) ents := Env.add_ok (E14_ok N) (impl_isGroupAt_sh.en_ok N (E14_ok N))

noncomputable def impl_IsGroupTable_sh.kp : Keeps := ⟨[(0, [0, 8, 9], [], [])], [(0, [], [], [])], []⟩

noncomputable def impl_IsGroupTable_sh.bd : Code := bodyOf Go.Proofs.Try.f11

noncomputable def impl_IsGroupTable_sh.fin {ρ : Type} (N : Nat) (K : AV → Heap → Option ρ) (gv2 : Nat) (gv3 : Nat) (gv4 : Nat → Nat) (gv5 : Nat → Nat) (gv6 : Nat → Nat) (gv7 : Nat → Int) : XE → St → Option ρ := finK (E15 N) impl_IsGroupTable_sh.kp.fins Go.Proofs.Try.f11 [⟨false, .hdr 1 gv2 gv3 gv4 gv5 (some gv6)⟩, ⟨false, .flat 0 (.ints .i64 gv7)⟩] K

noncomputable def impl_IsGroupTable_sh.k0 {ρ : Type} (N : Nat) (K : AV → Heap → Option ρ) (gv2 : Nat) (gv3 : Nat) (gv4 : Nat → Nat) (gv5 : Nat → Nat) (gv6 : Nat → Nat) (gv7 : Nat → Int) : XE → St → Option ρ := (blockK impl_IsGroupTable_sh.kp 2 0 (seqK (xcode (E15 N) ents impl_IsGroupTable_sh.kp 2 N (cB (cB (cB impl_IsGroupTable_sh.bd))) 0) (impl_IsGroupTable_sh.fin N K gv2 gv3 gv4 gv5 gv6 gv7)))

theorem impl_IsGroupTable_sh.k0_mix {ρ : Type} (N : Nat) (K : AV → Heap → Option ρ) (gv2 : Nat) (gv3 : Nat) (gv4 : Nat → Nat) (gv5 : Nat → Nat) (gv6 : Nat → Nat) (gv7 : Nat → Int) : mixK (impl_IsGroupTable_sh.fin N K gv2 gv3 gv4 gv5 gv6 gv7 .ret) (impl_IsGroupTable_sh.k0 N K gv2 gv3 gv4 gv5 gv6 gv7) = (impl_IsGroupTable_sh.k0 N K gv2 gv3 gv4 gv5 gv6 gv7) := by
  funext e s; cases e <;> kernel_rfl

noncomputable def impl_IsGroupTable_sh.st0 (table0 : Nat) (table1 : Nat) (gv2 : Nat) (gv3 : Nat) (gv4 : Nat → Nat) (gv5 : Nat → Nat) (gv6 : Nat → Nat) (gv7 : Nat → Int) (x9 : Int) : St := ⟨sl 17 [(0, .slice true 0 0 table0 (.exact table1) 1), (8, .int .i64 ((table0 : Int))), (9, .int .i64 (x9))], [⟨false, .hdr 1 gv2 gv3 gv4 gv5 (some gv6)⟩, ⟨false, .flat 0 (.ints .i64 gv7)⟩]⟩

noncomputable def impl_IsGroupTable_sh.sx0_0 (gv2 : Nat) (gv3 : Nat) (gv4 : Nat → Nat) (gv5 : Nat → Nat) (gv6 : Nat → Nat) (gv7 : Nat → Int) : St := ⟨sl 17 [], [⟨false, .hdr 1 gv2 gv3 gv4 gv5 (some gv6)⟩, ⟨false, .flat 0 (.ints .i64 gv7)⟩]⟩

theorem impl_IsGroupTable_sh.b0_gen {ρ : Type} (N : Nat) (K : AV → Heap → Option ρ) (L0 : St → Option ρ) (kv : XE → St → Option ρ) (table0 : Nat) (table1 : Nat) (gv2 : Nat) (gv3 : Nat) (gv4 : Nat → Nat) (gv5 : Nat → Nat) (gv6 : Nat → Nat) (gv7 : Nat → Int) (x9 : Int) :
    xcode (E15 N) ents impl_IsGroupTable_sh.kp 2 N (cL (cK (cB (cA (cB (cB impl_IsGroupTable_sh.bd)))))) 0 (impl_IsGroupTable_sh.st0 table0 table1 gv2 gv3 gv4 gv5 gv6 gv7 x9) (roundK impl_IsGroupTable_sh.kp 2 0 L0 (mixK (impl_IsGroupTable_sh.fin N K gv2 gv3 gv4 gv5 gv6 gv7 .ret) kv)) = (impl_IsGroupTable_sh.b0 N (fun d0 => K (.bool (d0)) [⟨false, .hdr 1 gv2 gv3 gv4 gv5 (some gv6)⟩, ⟨false, .flat 0 (.ints .i64 gv7)⟩]) (fun x9 => L0 (impl_IsGroupTable_sh.st0 table0 table1 gv2 gv3 gv4 gv5 gv6 gv7 x9)) (kv (.exit 0) (impl_IsGroupTable_sh.sx0_0 gv2 gv3 gv4 gv5 gv6 gv7)) table0 table1 gv3 gv4 gv5 gv6 gv7 x9) := by kernel_rfl

theorem impl_IsGroupTable_sh.b0_eq {ρ : Type} (N : Nat) (K : AV → Heap → Option ρ) (L0 : St → Option ρ) (table0 : Nat) (table1 : Nat) (gv2 : Nat) (gv3 : Nat) (gv4 : Nat → Nat) (gv5 : Nat → Nat) (gv6 : Nat → Nat) (gv7 : Nat → Int) (x9 : Int) :
    xcode (E15 N) ents impl_IsGroupTable_sh.kp 2 N (cL (cK (cB (cA (cB (cB impl_IsGroupTable_sh.bd)))))) 0 (impl_IsGroupTable_sh.st0 table0 table1 gv2 gv3 gv4 gv5 gv6 gv7 x9) (roundK impl_IsGroupTable_sh.kp 2 0 L0 (impl_IsGroupTable_sh.k0 N K gv2 gv3 gv4 gv5 gv6 gv7)) = (impl_IsGroupTable_sh.b0 N (fun d0 => K (.bool (d0)) [⟨false, .hdr 1 gv2 gv3 gv4 gv5 (some gv6)⟩, ⟨false, .flat 0 (.ints .i64 gv7)⟩]) (fun x9 => L0 (impl_IsGroupTable_sh.st0 table0 table1 gv2 gv3 gv4 gv5 gv6 gv7 x9)) ((impl_IsGroupTable_sh.k0 N K gv2 gv3 gv4 gv5 gv6 gv7) (.exit 0) (impl_IsGroupTable_sh.sx0_0 gv2 gv3 gv4 gv5 gv6 gv7)) table0 table1 gv3 gv4 gv5 gv6 gv7 x9) := by
  have h := impl_IsGroupTable_sh.b0_gen N K L0 (impl_IsGroupTable_sh.k0 N K gv2 gv3 gv4 gv5 gv6 gv7) table0 table1 gv2 gv3 gv4 gv5 gv6 gv7 x9
  rw [impl_IsGroupTable_sh.k0_mix] at h
  exact h

theorem impl_IsGroupTable_sh.a0_0_eq {ρ : Type} (N : Nat) (K : AV → Heap → Option ρ) (gv2 : Nat) (gv3 : Nat) (gv4 : Nat → Nat) (gv5 : Nat → Nat) (gv6 : Nat → Nat) (gv7 : Nat → Int) :
    (impl_IsGroupTable_sh.k0 N K gv2 gv3 gv4 gv5 gv6 gv7) (.exit 0) (impl_IsGroupTable_sh.sx0_0 gv2 gv3 gv4 gv5 gv6 gv7) = (impl_IsGroupTable_sh.a0_0 N (fun d0 => K (.bool (d0)) [⟨false, .hdr 1 gv2 gv3 gv4 gv5 (some gv6)⟩, ⟨false, .flat 0 (.ints .i64 gv7)⟩])) := by kernel_rfl

theorem impl_IsGroupTable_sh.l0_eq {ρ : Type} (N : Nat) (K : AV → Heap → Option ρ) (table0 : Nat) (table1 : Nat) (gv2 : Nat) (gv3 : Nat) (gv4 : Nat → Nat) (gv5 : Nat → Nat) (gv6 : Nat → Nat) (gv7 : Nat → Int) :
    ∀ (m : Nat) (x9 : Int), xloop (xcode (E15 N) ents impl_IsGroupTable_sh.kp 2 N (cL (cK (cB (cA (cB (cB impl_IsGroupTable_sh.bd)))))) 0) impl_IsGroupTable_sh.kp 2 0 m (impl_IsGroupTable_sh.st0 table0 table1 gv2 gv3 gv4 gv5 gv6 gv7 x9) (impl_IsGroupTable_sh.k0 N K gv2 gv3 gv4 gv5 gv6 gv7) = (impl_IsGroupTable_sh.l0 N (fun d0 => K (.bool (d0)) [⟨false, .hdr 1 gv2 gv3 gv4 gv5 (some gv6)⟩, ⟨false, .flat 0 (.ints .i64 gv7)⟩]) table0 table1 gv3 gv4 gv5 gv6 gv7 ((impl_IsGroupTable_sh.k0 N K gv2 gv3 gv4 gv5 gv6 gv7) (.exit 0) (impl_IsGroupTable_sh.sx0_0 gv2 gv3 gv4 gv5 gv6 gv7)) m x9) := by
  intro m
  induction m with
  | zero => intros; rfl
  | succ m ih =>
    intro x9
    refine (impl_IsGroupTable_sh.b0_eq N K (fun s => xloop (xcode (E15 N) ents impl_IsGroupTable_sh.kp 2 N (cL (cK (cB (cA (cB (cB impl_IsGroupTable_sh.bd)))))) 0) impl_IsGroupTable_sh.kp 2 0 m s (impl_IsGroupTable_sh.k0 N K gv2 gv3 gv4 gv5 gv6 gv7)) table0 table1 gv2 gv3 gv4 gv5 gv6 gv7 x9).trans ?_
    simp only [ih]
    kernel_rfl

theorem impl_IsGroupTable_sh.s_eq {ρ : Type} (N : Nat) (K : AV → Heap → Option ρ) (table0 : Nat) (table1 : Nat) (gv2 : Nat) (gv3 : Nat) (gv4 : Nat → Nat) (gv5 : Nat → Nat) (gv6 : Nat → Nat) (gv7 : Nat → Int) :
    xbody (E15 N) ents impl_IsGroupTable_sh.kp N Go.Proofs.Try.f11 impl_IsGroupTable_sh.bd [.slice true 0 0 table0 (.exact table1) 1] [⟨false, .hdr 1 gv2 gv3 gv4 gv5 (some gv6)⟩, ⟨false, .flat 0 (.ints .i64 gv7)⟩] K = (impl_IsGroupTable_sh.s N (fun d0 => K (.bool (d0)) [⟨false, .hdr 1 gv2 gv3 gv4 gv5 (some gv6)⟩, ⟨false, .flat 0 (.ints .i64 gv7)⟩]) (fun x9 => xloop (xcode (E15 N) ents impl_IsGroupTable_sh.kp 2 N (cL (cK (cB (cA (cB (cB impl_IsGroupTable_sh.bd)))))) 0) impl_IsGroupTable_sh.kp 2 0 N (impl_IsGroupTable_sh.st0 table0 table1 gv2 gv3 gv4 gv5 gv6 gv7 x9) (impl_IsGroupTable_sh.k0 N K gv2 gv3 gv4 gv5 gv6 gv7)) table0 table1 gv3 gv4 gv5 gv6 gv7) := by kernel_rfl

theorem impl_IsGroupTable_sh.eq {ρ : Type} (N : Nat) (K : AV → Heap → Option ρ) (table0 : Nat) (table1 : Nat) (gv2 : Nat) (gv3 : Nat) (gv4 : Nat → Nat) (gv5 : Nat → Nat) (gv6 : Nat → Nat) (gv7 : Nat → Int) :
    xbody (E15 N) ents impl_IsGroupTable_sh.kp N Go.Proofs.Try.f11 impl_IsGroupTable_sh.bd [.slice true 0 0 table0 (.exact table1) 1] [⟨false, .hdr 1 gv2 gv3 gv4 gv5 (some gv6)⟩, ⟨false, .flat 0 (.ints .i64 gv7)⟩] K = (impl_IsGroupTable_sh N (fun d0 => K (.bool (d0)) [⟨false, .hdr 1 gv2 gv3 gv4 gv5 (some gv6)⟩, ⟨false, .flat 0 (.ints .i64 gv7)⟩]) table0 table1 gv2 gv3 gv4 gv5 gv6 gv7) := by
  refine (impl_IsGroupTable_sh.s_eq N K table0 table1 gv2 gv3 gv4 gv5 gv6 gv7).trans ?_
  simp only [impl_IsGroupTable_sh.l0_eq, impl_IsGroupTable_sh.a0_0_eq]
  kernel_rfl

noncomputable def impl_IsGroupTable_n.kp : Keeps := ⟨[(0, [0, 8, 9], [], [])], [(0, [], [], [])], []⟩

noncomputable def impl_IsGroupTable_n.bd : Code := bodyOf Go.Proofs.Try.f11

noncomputable def impl_IsGroupTable_n.fin {ρ : Type} (N : Nat) (K : AV → Heap → Option ρ) : XE → St → Option ρ := finK (E15 N) impl_IsGroupTable_n.kp.fins Go.Proofs.Try.f11 [] K

noncomputable def impl_IsGroupTable_n.k0 {ρ : Type} (N : Nat) (K : AV → Heap → Option ρ) : XE → St → Option ρ := (blockK impl_IsGroupTable_n.kp 0 0 (seqK (xcode (E15 N) ents impl_IsGroupTable_n.kp 0 N (cB (cB (cB impl_IsGroupTable_n.bd))) 0) (impl_IsGroupTable_n.fin N K)))

theorem impl_IsGroupTable_n.k0_mix {ρ : Type} (N : Nat) (K : AV → Heap → Option ρ) : mixK (impl_IsGroupTable_n.fin N K .ret) (impl_IsGroupTable_n.k0 N K) = (impl_IsGroupTable_n.k0 N K) := by
  funext e s; cases e <;> kernel_rfl

noncomputable def impl_IsGroupTable_n.st0 : St := ⟨sl 17 [(0, .nils), (8, .int .i64 0), (9, .int .i64 0)], []⟩

noncomputable def impl_IsGroupTable_n.sx0_0 : St := ⟨sl 17 [], []⟩

theorem impl_IsGroupTable_n.b0_gen {ρ : Type} (N : Nat) (K : AV → Heap → Option ρ) (L0 : St → Option ρ) (kv : XE → St → Option ρ) :
    xcode (E15 N) ents impl_IsGroupTable_n.kp 0 N (cL (cK (cB (cA (cB (cB impl_IsGroupTable_n.bd)))))) 0 (impl_IsGroupTable_n.st0) (roundK impl_IsGroupTable_n.kp 0 0 L0 (mixK (impl_IsGroupTable_n.fin N K .ret) kv)) = (impl_IsGroupTable_n.b0 N (fun d0 => K (.bool (d0)) []) (L0 (impl_IsGroupTable_n.st0)) (kv (.exit 0) (impl_IsGroupTable_n.sx0_0))) := by kernel_rfl

theorem impl_IsGroupTable_n.b0_eq {ρ : Type} (N : Nat) (K : AV → Heap → Option ρ) (L0 : St → Option ρ) :
    xcode (E15 N) ents impl_IsGroupTable_n.kp 0 N (cL (cK (cB (cA (cB (cB impl_IsGroupTable_n.bd)))))) 0 (impl_IsGroupTable_n.st0) (roundK impl_IsGroupTable_n.kp 0 0 L0 (impl_IsGroupTable_n.k0 N K)) = (impl_IsGroupTable_n.b0 N (fun d0 => K (.bool (d0)) []) (L0 (impl_IsGroupTable_n.st0)) ((impl_IsGroupTable_n.k0 N K) (.exit 0) (impl_IsGroupTable_n.sx0_0))) := by
  have h := impl_IsGroupTable_n.b0_gen N K L0 (impl_IsGroupTable_n.k0 N K) 
  rw [impl_IsGroupTable_n.k0_mix] at h
  exact h

theorem impl_IsGroupTable_n.a0_0_eq {ρ : Type} (N : Nat) (K : AV → Heap → Option ρ) :
    (impl_IsGroupTable_n.k0 N K) (.exit 0) (impl_IsGroupTable_n.sx0_0) = (impl_IsGroupTable_n.a0_0 N (fun d0 => K (.bool (d0)) [])) := by kernel_rfl

theorem impl_IsGroupTable_n.l0_eq {ρ : Type} (N : Nat) (K : AV → Heap → Option ρ) :
    ∀ (m : Nat), xloop (xcode (E15 N) ents impl_IsGroupTable_n.kp 0 N (cL (cK (cB (cA (cB (cB impl_IsGroupTable_n.bd)))))) 0) impl_IsGroupTable_n.kp 0 0 m (impl_IsGroupTable_n.st0) (impl_IsGroupTable_n.k0 N K) = (impl_IsGroupTable_n.l0 N (fun d0 => K (.bool (d0)) []) ((impl_IsGroupTable_n.k0 N K) (.exit 0) (impl_IsGroupTable_n.sx0_0)) m) := by
  intro m
  induction m with
  | zero => intros; rfl
  | succ m ih =>
    refine (impl_IsGroupTable_n.b0_eq N K (fun s => xloop (xcode (E15 N) ents impl_IsGroupTable_n.kp 0 N (cL (cK (cB (cA (cB (cB impl_IsGroupTable_n.bd)))))) 0) impl_IsGroupTable_n.kp 0 0 m s (impl_IsGroupTable_n.k0 N K)) ).trans ?_
    simp only [ih]
    kernel_rfl

theorem impl_IsGroupTable_n.s_eq {ρ : Type} (N : Nat) (K : AV → Heap → Option ρ) :
    xbody (E15 N) ents impl_IsGroupTable_n.kp N Go.Proofs.Try.f11 impl_IsGroupTable_n.bd [.nils] [] K = (impl_IsGroupTable_n.s N (fun d0 => K (.bool (d0)) []) (xloop (xcode (E15 N) ents impl_IsGroupTable_n.kp 0 N (cL (cK (cB (cA (cB (cB impl_IsGroupTable_n.bd)))))) 0) impl_IsGroupTable_n.kp 0 0 N (impl_IsGroupTable_n.st0) (impl_IsGroupTable_n.k0 N K))) := by kernel_rfl

theorem impl_IsGroupTable_n.eq {ρ : Type} (N : Nat) (K : AV → Heap → Option ρ) :
    xbody (E15 N) ents impl_IsGroupTable_n.kp N Go.Proofs.Try.f11 impl_IsGroupTable_n.bd [.nils] [] K = (impl_IsGroupTable_n N (fun d0 => K (.bool (d0)) [])) := by
  refine (impl_IsGroupTable_n.s_eq N K ).trans ?_
  simp only [impl_IsGroupTable_n.l0_eq, impl_IsGroupTable_n.a0_0_eq]
  kernel_rfl

noncomputable def impl_IsGroupTable_sh.en (N : Nat) (ρ : Type) : List AV → Heap → (AV → Heap → Option ρ) → Option ρ
  | [.slice true 0 0 table0 (.exact table1) 1], [⟨false, .hdr 1 gv2 gv3 gv4 gv5 (some gv6)⟩, ⟨false, .flat 0 (.ints .i64 gv7)⟩], K => (impl_IsGroupTable_sh N (fun d0 => K (.bool (d0)) [⟨false, .hdr 1 gv2 gv3 gv4 gv5 (some gv6)⟩, ⟨false, .flat 0 (.ints .i64 gv7)⟩]) table0 table1 gv2 gv3 gv4 gv5 gv6 gv7)
  | [.nils], [], K => (impl_IsGroupTable_n N (fun d0 => K (.bool (d0)) []))
  | _, _, _ => none

theorem impl_IsGroupTable_sh.en_ok (N : Nat) (hE : EnvOk (E15 N) ents) (ρ : Type) (args : List AV) (sh : Heap) (K : AV → Heap → Option ρ) (r : ρ) (h : impl_IsGroupTable_sh.en N ρ args sh K = some r) : ∃ v sh', K v sh' = some r ∧ FnOk (E15 N).P 11 args sh v sh' := by
  unfold impl_IsGroupTable_sh.en at h
  split at h
  · exact fn_ok hE (kp := impl_IsGroupTable_sh.kp) (N := N) Go.Proofs.Try.func11 (c := impl_IsGroupTable_sh.bd) (by kernel_rfl) ((impl_IsGroupTable_sh.eq N _ _ _ _ _ _ _ _ _).trans h)
  · exact fn_ok hE (kp := impl_IsGroupTable_n.kp) (N := N) Go.Proofs.Try.func11 (c := impl_IsGroupTable_n.bd) (by kernel_rfl) ((impl_IsGroupTable_n.eq N _ ).trans h)
  · cases h

noncomputable def E16 (N : Nat) : Env := (E15 N).add 11 (impl_IsGroupTable_sh.en N)

theorem E16_ok (N : Nat) : EnvOk (E16 N) ents := Env.add_ok (E15_ok N) (impl_IsGroupTable_sh.en_ok N (E15_ok N))

noncomputable def impl_IsAbelianTable_sh.kp : Keeps := ⟨[(0, [0, 10, 11], [], []), (2, [0, 4, 10, 11, 15, 16], [], [])], [(0, [], [], []), (2, [0, 10, 11], [], [])], []⟩

noncomputable def impl_IsAbelianTable_sh.bd : Code := bodyOf Go.Proofs.Try.f14

noncomputable def impl_IsAbelianTable_sh.fin {ρ : Type} (N : Nat) (K : AV → Heap → Option ρ) (gv2 : Nat) (gv3 : Nat) (gv4 : Nat → Nat) (gv5 : Nat → Nat) (gv6 : Nat → Nat) (gv7 : Nat → Int) : XE → St → Option ρ := finK (E16 N) impl_IsAbelianTable_sh.kp.fins Go.Proofs.Try.f14 [⟨false, .hdr 1 gv2 gv3 gv4 gv5 (some gv6)⟩, ⟨false, .flat 0 (.ints .i64 gv7)⟩] K

noncomputable def impl_IsAbelianTable_sh.k0 {ρ : Type} (N : Nat) (K : AV → Heap → Option ρ) (gv2 : Nat) (gv3 : Nat) (gv4 : Nat → Nat) (gv5 : Nat → Nat) (gv6 : Nat → Nat) (gv7 : Nat → Int) : XE → St → Option ρ := (blockK impl_IsAbelianTable_sh.kp 2 0 (seqK (xcode (E16 N) ents impl_IsAbelianTable_sh.kp 2 N (cB (cB (cB impl_IsAbelianTable_sh.bd))) 0) (impl_IsAbelianTable_sh.fin N K gv2 gv3 gv4 gv5 gv6 gv7)))

theorem impl_IsAbelianTable_sh.k0_mix {ρ : Type} (N : Nat) (K : AV → Heap → Option ρ) (gv2 : Nat) (gv3 : Nat) (gv4 : Nat → Nat) (gv5 : Nat → Nat) (gv6 : Nat → Nat) (gv7 : Nat → Int) : mixK (impl_IsAbelianTable_sh.fin N K gv2 gv3 gv4 gv5 gv6 gv7 .ret) (impl_IsAbelianTable_sh.k0 N K gv2 gv3 gv4 gv5 gv6 gv7) = (impl_IsAbelianTable_sh.k0 N K gv2 gv3 gv4 gv5 gv6 gv7) := by
  funext e s; cases e <;> kernel_rfl

noncomputable def impl_IsAbelianTable_sh.st0 (table0 : Nat) (table1 : Nat) (gv2 : Nat) (gv3 : Nat) (gv4 : Nat → Nat) (gv5 : Nat → Nat) (gv6 : Nat → Nat) (gv7 : Nat → Int) (x9 : Int) : St := ⟨sl 36 [(0, .slice true 0 0 table0 (.exact table1) 1), (10, .int .i64 ((table0 : Int))), (11, .int .i64 (x9))], [⟨false, .hdr 1 gv2 gv3 gv4 gv5 (some gv6)⟩, ⟨false, .flat 0 (.ints .i64 gv7)⟩]⟩

noncomputable def impl_IsAbelianTable_sh.sx0_0 (gv2 : Nat) (gv3 : Nat) (gv4 : Nat → Nat) (gv5 : Nat → Nat) (gv6 : Nat → Nat) (gv7 : Nat → Int) : St := ⟨sl 36 [], [⟨false, .hdr 1 gv2 gv3 gv4 gv5 (some gv6)⟩, ⟨false, .flat 0 (.ints .i64 gv7)⟩]⟩

noncomputable def impl_IsAbelianTable_sh.k1g {ρ : Type} (N : Nat) (L0 : St → Option ρ) (kv : XE → St → Option ρ) : XE → St → Option ρ := (blockK impl_IsAbelianTable_sh.kp 2 2 (blockK impl_IsAbelianTable_sh.kp 2 1 (seqK (xcode (E16 N) ents impl_IsAbelianTable_sh.kp 2 N (cB (cB (cB (cL (cK (cB (cA (cB (cB impl_IsAbelianTable_sh.bd))))))))) 0) (roundK impl_IsAbelianTable_sh.kp 2 0 L0 kv))))

theorem impl_IsAbelianTable_sh.k1_mix {ρ : Type} (N : Nat) (K : AV → Heap → Option ρ) (L0 : St → Option ρ) (gv2 : Nat) (gv3 : Nat) (gv4 : Nat → Nat) (gv5 : Nat → Nat) (gv6 : Nat → Nat) (gv7 : Nat → Int) : mixK (impl_IsAbelianTable_sh.fin N K gv2 gv3 gv4 gv5 gv6 gv7 .ret) (impl_IsAbelianTable_sh.k1g N L0 (impl_IsAbelianTable_sh.k0 N K gv2 gv3 gv4 gv5 gv6 gv7)) = (impl_IsAbelianTable_sh.k1g N L0 (impl_IsAbelianTable_sh.k0 N K gv2 gv3 gv4 gv5 gv6 gv7)) := by
  funext e s; cases e <;> kernel_rfl

noncomputable def impl_IsAbelianTable_sh.st1 (table0 : Nat) (table1 : Nat) (gv2 : Nat) (gv3 : Nat) (gv4 : Nat → Nat) (gv5 : Nat → Nat) (gv6 : Nat → Nat) (gv7 : Nat → Int) (x9 : Int) (x10 : Int) : St := ⟨sl 36 [(0, .slice true 0 0 table0 (.exact table1) 1), (4, .int .i64 (x9)), (10, .int .i64 ((table0 : Int))), (11, .int .i64 (x9)), (15, .int .i64 ((table0 : Int))), (16, .int .i64 (x10))], [⟨false, .hdr 1 gv2 gv3 gv4 gv5 (some gv6)⟩, ⟨false, .flat 0 (.ints .i64 gv7)⟩]⟩

noncomputable def impl_IsAbelianTable_sh.sx1_0 (table0 : Nat) (table1 : Nat) (gv2 : Nat) (gv3 : Nat) (gv4 : Nat → Nat) (gv5 : Nat → Nat) (gv6 : Nat → Nat) (gv7 : Nat → Int) (x9 : Int) : St := ⟨sl 36 [(0, .slice true 0 0 table0 (.exact table1) 1), (10, .int .i64 ((table0 : Int))), (11, .int .i64 (x9))], [⟨false, .hdr 1 gv2 gv3 gv4 gv5 (some gv6)⟩, ⟨false, .flat 0 (.ints .i64 gv7)⟩]⟩

theorem impl_IsAbelianTable_sh.b1_gen {ρ : Type} (N : Nat) (K : AV → Heap → Option ρ) (L1 : St → Option ρ) (kv : XE → St → Option ρ) (table0 : Nat) (table1 : Nat) (gv2 : Nat) (gv3 : Nat) (gv4 : Nat → Nat) (gv5 : Nat → Nat) (gv6 : Nat → Nat) (gv7 : Nat → Int) (x9 : Int) (x10 : Int) :
    xcode (E16 N) ents impl_IsAbelianTable_sh.kp 2 N (cL (cK (cB (cB (cK (cA (cB (cB (cL (cK (cB (cA (cB (cB impl_IsAbelianTable_sh.bd)))))))))))))) 2 (impl_IsAbelianTable_sh.st1 table0 table1 gv2 gv3 gv4 gv5 gv6 gv7 x9 x10) (roundK impl_IsAbelianTable_sh.kp 2 2 L1 (mixK (impl_IsAbelianTable_sh.fin N K gv2 gv3 gv4 gv5 gv6 gv7 .ret) kv)) = (impl_IsAbelianTable_sh.b1 N (fun d0 d1 => K (.tup [.bool (d0), .int .i64 (d1)]) [⟨false, .hdr 1 gv2 gv3 gv4 gv5 (some gv6)⟩, ⟨false, .flat 0 (.ints .i64 gv7)⟩]) (fun x10 => L1 (impl_IsAbelianTable_sh.st1 table0 table1 gv2 gv3 gv4 gv5 gv6 gv7 x9 x10)) (kv (.exit 2) (impl_IsAbelianTable_sh.sx1_0 table0 table1 gv2 gv3 gv4 gv5 gv6 gv7 x9)) table0 gv4 gv5 gv7 x9 x10) := by kernel_rfl

theorem impl_IsAbelianTable_sh.b1_eq {ρ : Type} (N : Nat) (K : AV → Heap → Option ρ) (L0 : St → Option ρ) (L1 : St → Option ρ) (table0 : Nat) (table1 : Nat) (gv2 : Nat) (gv3 : Nat) (gv4 : Nat → Nat) (gv5 : Nat → Nat) (gv6 : Nat → Nat) (gv7 : Nat → Int) (x9 : Int) (x10 : Int) :
    xcode (E16 N) ents impl_IsAbelianTable_sh.kp 2 N (cL (cK (cB (cB (cK (cA (cB (cB (cL (cK (cB (cA (cB (cB impl_IsAbelianTable_sh.bd)))))))))))))) 2 (impl_IsAbelianTable_sh.st1 table0 table1 gv2 gv3 gv4 gv5 gv6 gv7 x9 x10) (roundK impl_IsAbelianTable_sh.kp 2 2 L1 (impl_IsAbelianTable_sh.k1g N L0 (impl_IsAbelianTable_sh.k0 N K gv2 gv3 gv4 gv5 gv6 gv7))) = (impl_IsAbelianTable_sh.b1 N (fun d0 d1 => K (.tup [.bool (d0), .int .i64 (d1)]) [⟨false, .hdr 1 gv2 gv3 gv4 gv5 (some gv6)⟩, ⟨false, .flat 0 (.ints .i64 gv7)⟩]) (fun x10 => L1 (impl_IsAbelianTable_sh.st1 table0 table1 gv2 gv3 gv4 gv5 gv6 gv7 x9 x10)) ((impl_IsAbelianTable_sh.k1g N L0 (impl_IsAbelianTable_sh.k0 N K gv2 gv3 gv4 gv5 gv6 gv7)) (.exit 2) (impl_IsAbelianTable_sh.sx1_0 table0 table1 gv2 gv3 gv4 gv5 gv6 gv7 x9)) table0 gv4 gv5 gv7 x9 x10) := by
  have h := impl_IsAbelianTable_sh.b1_gen N K L1 (impl_IsAbelianTable_sh.k1g N L0 (impl_IsAbelianTable_sh.k0 N K gv2 gv3 gv4 gv5 gv6 gv7)) table0 table1 gv2 gv3 gv4 gv5 gv6 gv7 x9 x10
  rw [impl_IsAbelianTable_sh.k1_mix] at h
  exact h

theorem impl_IsAbelianTable_sh.a1_0_gen {ρ : Type} (N : Nat) (K : AV → Heap → Option ρ) (L0 : St → Option ρ) (kv : XE → St → Option ρ) (table0 : Nat) (table1 : Nat) (gv2 : Nat) (gv3 : Nat) (gv4 : Nat → Nat) (gv5 : Nat → Nat) (gv6 : Nat → Nat) (gv7 : Nat → Int) (x9 : Int) :
    (impl_IsAbelianTable_sh.k1g N L0 (mixK (impl_IsAbelianTable_sh.fin N K gv2 gv3 gv4 gv5 gv6 gv7 .ret) kv)) (.exit 2) (impl_IsAbelianTable_sh.sx1_0 table0 table1 gv2 gv3 gv4 gv5 gv6 gv7 x9) = (impl_IsAbelianTable_sh.a1_0 N (fun d0 d1 => K (.tup [.bool (d0), .int .i64 (d1)]) [⟨false, .hdr 1 gv2 gv3 gv4 gv5 (some gv6)⟩, ⟨false, .flat 0 (.ints .i64 gv7)⟩]) (fun x9 => L0 (impl_IsAbelianTable_sh.st0 table0 table1 gv2 gv3 gv4 gv5 gv6 gv7 x9)) (kv (.exit 0) (impl_IsAbelianTable_sh.sx0_0 gv2 gv3 gv4 gv5 gv6 gv7)) x9) := by kernel_rfl

theorem impl_IsAbelianTable_sh.a1_0_eq {ρ : Type} (N : Nat) (K : AV → Heap → Option ρ) (L0 : St → Option ρ) (table0 : Nat) (table1 : Nat) (gv2 : Nat) (gv3 : Nat) (gv4 : Nat → Nat) (gv5 : Nat → Nat) (gv6 : Nat → Nat) (gv7 : Nat → Int) (x9 : Int) :
    (impl_IsAbelianTable_sh.k1g N L0 (impl_IsAbelianTable_sh.k0 N K gv2 gv3 gv4 gv5 gv6 gv7)) (.exit 2) (impl_IsAbelianTable_sh.sx1_0 table0 table1 gv2 gv3 gv4 gv5 gv6 gv7 x9) = (impl_IsAbelianTable_sh.a1_0 N (fun d0 d1 => K (.tup [.bool (d0), .int .i64 (d1)]) [⟨false, .hdr 1 gv2 gv3 gv4 gv5 (some gv6)⟩, ⟨false, .flat 0 (.ints .i64 gv7)⟩]) (fun x9 => L0 (impl_IsAbelianTable_sh.st0 table0 table1 gv2 gv3 gv4 gv5 gv6 gv7 x9)) ((impl_IsAbelianTable_sh.k0 N K gv2 gv3 gv4 gv5 gv6 gv7) (.exit 0) (impl_IsAbelianTable_sh.sx0_0 gv2 gv3 gv4 gv5 gv6 gv7)) x9) := by
  have h := impl_IsAbelianTable_sh.a1_0_gen N K L0 (impl_IsAbelianTable_sh.k0 N K gv2 gv3 gv4 gv5 gv6 gv7) table0 table1 gv2 gv3 gv4 gv5 gv6 gv7 x9
  rw [impl_IsAbelianTable_sh.k0_mix] at h
  exact h

theorem impl_IsAbelianTable_sh.b0_gen {ρ : Type} (N : Nat) (K : AV → Heap → Option ρ) (L0 : St → Option ρ) (kv : XE → St → Option ρ) (table0 : Nat) (table1 : Nat) (gv2 : Nat) (gv3 : Nat) (gv4 : Nat → Nat) (gv5 : Nat → Nat) (gv6 : Nat → Nat) (gv7 : Nat → Int) (x9 : Int) :
    xcode (E16 N) ents impl_IsAbelianTable_sh.kp 2 N (cL (cK (cB (cA (cB (cB impl_IsAbelianTable_sh.bd)))))) 0 (impl_IsAbelianTable_sh.st0 table0 table1 gv2 gv3 gv4 gv5 gv6 gv7 x9) (roundK impl_IsAbelianTable_sh.kp 2 0 L0 (mixK (impl_IsAbelianTable_sh.fin N K gv2 gv3 gv4 gv5 gv6 gv7 .ret) kv)) = (impl_IsAbelianTable_sh.b0 N (fun d0 d1 => K (.tup [.bool (d0), .int .i64 (d1)]) [⟨false, .hdr 1 gv2 gv3 gv4 gv5 (some gv6)⟩, ⟨false, .flat 0 (.ints .i64 gv7)⟩]) (fun x10 => xloop (xcode (E16 N) ents impl_IsAbelianTable_sh.kp 2 N (cL (cK (cB (cB (cK (cA (cB (cB (cL (cK (cB (cA (cB (cB impl_IsAbelianTable_sh.bd)))))))))))))) 2) impl_IsAbelianTable_sh.kp 2 2 N (impl_IsAbelianTable_sh.st1 table0 table1 gv2 gv3 gv4 gv5 gv6 gv7 x9 x10) (impl_IsAbelianTable_sh.k1g N L0 (mixK (impl_IsAbelianTable_sh.fin N K gv2 gv3 gv4 gv5 gv6 gv7 .ret) kv))) (fun x9 => L0 (impl_IsAbelianTable_sh.st0 table0 table1 gv2 gv3 gv4 gv5 gv6 gv7 x9)) (kv (.exit 0) (impl_IsAbelianTable_sh.sx0_0 gv2 gv3 gv4 gv5 gv6 gv7)) table0 x9) := by kernel_rfl

theorem impl_IsAbelianTable_sh.b0_eq {ρ : Type} (N : Nat) (K : AV → Heap → Option ρ) (L0 : St → Option ρ) (table0 : Nat) (table1 : Nat) (gv2 : Nat) (gv3 : Nat) (gv4 : Nat → Nat) (gv5 : Nat → Nat) (gv6 : Nat → Nat) (gv7 : Nat → Int) (x9 : Int) :
    xcode (E16 N) ents impl_IsAbelianTable_sh.kp 2 N (cL (cK (cB (cA (cB (cB impl_IsAbelianTable_sh.bd)))))) 0 (impl_IsAbelianTable_sh.st0 table0 table1 gv2 gv3 gv4 gv5 gv6 gv7 x9) (roundK impl_IsAbelianTable_sh.kp 2 0 L0 (impl_IsAbelianTable_sh.k0 N K gv2 gv3 gv4 gv5 gv6 gv7)) = (impl_IsAbelianTable_sh.b0 N (fun d0 d1 => K (.tup [.bool (d0), .int .i64 (d1)]) [⟨false, .hdr 1 gv2 gv3 gv4 gv5 (some gv6)⟩, ⟨false, .flat 0 (.ints .i64 gv7)⟩]) (fun x10 => xloop (xcode (E16 N) ents impl_IsAbelianTable_sh.kp 2 N (cL (cK (cB (cB (cK (cA (cB (cB (cL (cK (cB (cA (cB (cB impl_IsAbelianTable_sh.bd)))))))))))))) 2) impl_IsAbelianTable_sh.kp 2 2 N (impl_IsAbelianTable_sh.st1 table0 table1 gv2 gv3 gv4 gv5 gv6 gv7 x9 x10) (impl_IsAbelianTable_sh.k1g N L0 (impl_IsAbelianTable_sh.k0 N K gv2 gv3 gv4 gv5 gv6 gv7))) (fun x9 => L0 (impl_IsAbelianTable_sh.st0 table0 table1 gv2 gv3 gv4 gv5 gv6 gv7 x9)) ((impl_IsAbelianTable_sh.k0 N K gv2 gv3 gv4 gv5 gv6 gv7) (.exit 0) (impl_IsAbelianTable_sh.sx0_0 gv2 gv3 gv4 gv5 gv6 gv7)) table0 x9) := by
  have h := impl_IsAbelianTable_sh.b0_gen N K L0 (impl_IsAbelianTable_sh.k0 N K gv2 gv3 gv4 gv5 gv6 gv7) table0 table1 gv2 gv3 gv4 gv5 gv6 gv7 x9
  rw [impl_IsAbelianTable_sh.k0_mix] at h
  exact h

theorem impl_IsAbelianTable_sh.a0_0_eq {ρ : Type} (N : Nat) (K : AV → Heap → Option ρ) (gv2 : Nat) (gv3 : Nat) (gv4 : Nat → Nat) (gv5 : Nat → Nat) (gv6 : Nat → Nat) (gv7 : Nat → Int) :
    (impl_IsAbelianTable_sh.k0 N K gv2 gv3 gv4 gv5 gv6 gv7) (.exit 0) (impl_IsAbelianTable_sh.sx0_0 gv2 gv3 gv4 gv5 gv6 gv7) = (impl_IsAbelianTable_sh.a0_0 N (fun d0 d1 => K (.tup [.bool (d0), .int .i64 (d1)]) [⟨false, .hdr 1 gv2 gv3 gv4 gv5 (some gv6)⟩, ⟨false, .flat 0 (.ints .i64 gv7)⟩])) := by kernel_rfl

theorem impl_IsAbelianTable_sh.l1_eq {ρ : Type} (N : Nat) (K : AV → Heap → Option ρ) (L0 : St → Option ρ) (table0 : Nat) (table1 : Nat) (gv2 : Nat) (gv3 : Nat) (gv4 : Nat → Nat) (gv5 : Nat → Nat) (gv6 : Nat → Nat) (gv7 : Nat → Int) (x9 : Int) :
    ∀ (m : Nat) (x10 : Int), xloop (xcode (E16 N) ents impl_IsAbelianTable_sh.kp 2 N (cL (cK (cB (cB (cK (cA (cB (cB (cL (cK (cB (cA (cB (cB impl_IsAbelianTable_sh.bd)))))))))))))) 2) impl_IsAbelianTable_sh.kp 2 2 m (impl_IsAbelianTable_sh.st1 table0 table1 gv2 gv3 gv4 gv5 gv6 gv7 x9 x10) (impl_IsAbelianTable_sh.k1g N L0 (impl_IsAbelianTable_sh.k0 N K gv2 gv3 gv4 gv5 gv6 gv7)) = (impl_IsAbelianTable_sh.l1 N (fun d0 d1 => K (.tup [.bool (d0), .int .i64 (d1)]) [⟨false, .hdr 1 gv2 gv3 gv4 gv5 (some gv6)⟩, ⟨false, .flat 0 (.ints .i64 gv7)⟩]) table0 gv4 gv5 gv7 x9 ((impl_IsAbelianTable_sh.k1g N L0 (impl_IsAbelianTable_sh.k0 N K gv2 gv3 gv4 gv5 gv6 gv7)) (.exit 2) (impl_IsAbelianTable_sh.sx1_0 table0 table1 gv2 gv3 gv4 gv5 gv6 gv7 x9)) m x10) := by
  intro m
  induction m with
  | zero => intros; rfl
  | succ m ih =>
    intro x10
    refine (impl_IsAbelianTable_sh.b1_eq N K L0 (fun s => xloop (xcode (E16 N) ents impl_IsAbelianTable_sh.kp 2 N (cL (cK (cB (cB (cK (cA (cB (cB (cL (cK (cB (cA (cB (cB impl_IsAbelianTable_sh.bd)))))))))))))) 2) impl_IsAbelianTable_sh.kp 2 2 m s (impl_IsAbelianTable_sh.k1g N L0 (impl_IsAbelianTable_sh.k0 N K gv2 gv3 gv4 gv5 gv6 gv7))) table0 table1 gv2 gv3 gv4 gv5 gv6 gv7 x9 x10).trans ?_
    simp only [ih]
    kernel_rfl

theorem impl_IsAbelianTable_sh.l0_eq {ρ : Type} (N : Nat) (K : AV → Heap → Option ρ) (table0 : Nat) (table1 : Nat) (gv2 : Nat) (gv3 : Nat) (gv4 : Nat → Nat) (gv5 : Nat → Nat) (gv6 : Nat → Nat) (gv7 : Nat → Int) :
    ∀ (m : Nat) (x9 : Int), xloop (xcode (E16 N) ents impl_IsAbelianTable_sh.kp 2 N (cL (cK (cB (cA (cB (cB impl_IsAbelianTable_sh.bd)))))) 0) impl_IsAbelianTable_sh.kp 2 0 m (impl_IsAbelianTable_sh.st0 table0 table1 gv2 gv3 gv4 gv5 gv6 gv7 x9) (impl_IsAbelianTable_sh.k0 N K gv2 gv3 gv4 gv5 gv6 gv7) = (impl_IsAbelianTable_sh.l0 N (fun d0 d1 => K (.tup [.bool (d0), .int .i64 (d1)]) [⟨false, .hdr 1 gv2 gv3 gv4 gv5 (some gv6)⟩, ⟨false, .flat 0 (.ints .i64 gv7)⟩]) table0 gv4 gv5 gv7 ((impl_IsAbelianTable_sh.k0 N K gv2 gv3 gv4 gv5 gv6 gv7) (.exit 0) (impl_IsAbelianTable_sh.sx0_0 gv2 gv3 gv4 gv5 gv6 gv7)) m x9) := by
  intro m
  induction m with
  | zero => intros; rfl
  | succ m ih =>
    intro x9
    refine (impl_IsAbelianTable_sh.b0_eq N K (fun s => xloop (xcode (E16 N) ents impl_IsAbelianTable_sh.kp 2 N (cL (cK (cB (cA (cB (cB impl_IsAbelianTable_sh.bd)))))) 0) impl_IsAbelianTable_sh.kp 2 0 m s (impl_IsAbelianTable_sh.k0 N K gv2 gv3 gv4 gv5 gv6 gv7)) table0 table1 gv2 gv3 gv4 gv5 gv6 gv7 x9).trans ?_
    simp only [ih, impl_IsAbelianTable_sh.l1_eq, impl_IsAbelianTable_sh.a1_0_eq]
    kernel_rfl

theorem impl_IsAbelianTable_sh.s_eq {ρ : Type} (N : Nat) (K : AV → Heap → Option ρ) (table0 : Nat) (table1 : Nat) (gv2 : Nat) (gv3 : Nat) (gv4 : Nat → Nat) (gv5 : Nat → Nat) (gv6 : Nat → Nat) (gv7 : Nat → Int) :
    xbody (E16 N) ents impl_IsAbelianTable_sh.kp N Go.Proofs.Try.f14 impl_IsAbelianTable_sh.bd [.slice true 0 0 table0 (.exact table1) 1] [⟨false, .hdr 1 gv2 gv3 gv4 gv5 (some gv6)⟩, ⟨false, .flat 0 (.ints .i64 gv7)⟩] K = (impl_IsAbelianTable_sh.s N (fun d0 d1 => K (.tup [.bool (d0), .int .i64 (d1)]) [⟨false, .hdr 1 gv2 gv3 gv4 gv5 (some gv6)⟩, ⟨false, .flat 0 (.ints .i64 gv7)⟩]) (fun x9 => xloop (xcode (E16 N) ents impl_IsAbelianTable_sh.kp 2 N (cL (cK (cB (cA (cB (cB impl_IsAbelianTable_sh.bd)))))) 0) impl_IsAbelianTable_sh.kp 2 0 N (impl_IsAbelianTable_sh.st0 table0 table1 gv2 gv3 gv4 gv5 gv6 gv7 x9) (impl_IsAbelianTable_sh.k0 N K gv2 gv3 gv4 gv5 gv6 gv7)) table0 table1 gv3 gv4 gv5 gv6 gv7) := by kernel_rfl

theorem impl_IsAbelianTable_sh.eq {ρ : Type} (N : Nat) (K : AV → Heap → Option ρ) (table0 : Nat) (table1 : Nat) (gv2 : Nat) (gv3 : Nat) (gv4 : Nat → Nat) (gv5 : Nat → Nat) (gv6 : Nat → Nat) (gv7 : Nat → Int) :
    xbody (E16 N) ents impl_IsAbelianTable_sh.kp N Go.Proofs.Try.f14 impl_IsAbelianTable_sh.bd [.slice true 0 0 table0 (.exact table1) 1] [⟨false, .hdr 1 gv2 gv3 gv4 gv5 (some gv6)⟩, ⟨false, .flat 0 (.ints .i64 gv7)⟩] K = (impl_IsAbelianTable_sh N (fun d0 d1 => K (.tup [.bool (d0), .int .i64 (d1)]) [⟨false, .hdr 1 gv2 gv3 gv4 gv5 (some gv6)⟩, ⟨false, .flat 0 (.ints .i64 gv7)⟩]) table0 table1 gv2 gv3 gv4 gv5 gv6 gv7) := by
  refine (impl_IsAbelianTable_sh.s_eq N K table0 table1 gv2 gv3 gv4 gv5 gv6 gv7).trans ?_
  simp only [impl_IsAbelianTable_sh.l0_eq, impl_IsAbelianTable_sh.a0_0_eq]
  kernel_rfl

noncomputable def impl_IsAbelianTable_n.kp : Keeps := ⟨[(0, [0, 10, 11], [], [])], [(0, [], [], [])], []⟩

noncomputable def impl_IsAbelianTable_n.bd : Code := bodyOf Go.Proofs.Try.f14

noncomputable def impl_IsAbelianTable_n.fin {ρ : Type} (N : Nat) (K : AV → Heap → Option ρ) : XE → St → Option ρ := finK (E16 N) impl_IsAbelianTable_n.kp.fins Go.Proofs.Try.f14 [] K

noncomputable def impl_IsAbelianTable_n.k0 {ρ : Type} (N : Nat) (K : AV → Heap → Option ρ) : XE → St → Option ρ := (blockK impl_IsAbelianTable_n.kp 0 0 (seqK (xcode (E16 N) ents impl_IsAbelianTable_n.kp 0 N (cB (cB (cB impl_IsAbelianTable_n.bd))) 0) (impl_IsAbelianTable_n.fin N K)))

theorem impl_IsAbelianTable_n.k0_mix {ρ : Type} (N : Nat) (K : AV → Heap → Option ρ) : mixK (impl_IsAbelianTable_n.fin N K .ret) (impl_IsAbelianTable_n.k0 N K) = (impl_IsAbelianTable_n.k0 N K) := by
  funext e s; cases e <;> kernel_rfl

noncomputable def impl_IsAbelianTable_n.st0 : St := ⟨sl 36 [(0, .nils), (10, .int .i64 0), (11, .int .i64 0)], []⟩

noncomputable def impl_IsAbelianTable_n.sx0_0 : St := ⟨sl 36 [], []⟩

theorem impl_IsAbelianTable_n.b0_gen {ρ : Type} (N : Nat) (K : AV → Heap → Option ρ) (L0 : St → Option ρ) (kv : XE → St → Option ρ) :
    xcode (E16 N) ents impl_IsAbelianTable_n.kp 0 N (cL (cK (cB (cA (cB (cB impl_IsAbelianTable_n.bd)))))) 0 (impl_IsAbelianTable_n.st0) (roundK impl_IsAbelianTable_n.kp 0 0 L0 (mixK (impl_IsAbelianTable_n.fin N K .ret) kv)) = (impl_IsAbelianTable_n.b0 N (fun d0 d1 => K (.tup [.bool (d0), .int .i64 (d1)]) []) (L0 (impl_IsAbelianTable_n.st0)) (kv (.exit 0) (impl_IsAbelianTable_n.sx0_0))) := by kernel_rfl

theorem impl_IsAbelianTable_n.b0_eq {ρ : Type} (N : Nat) (K : AV → Heap → Option ρ) (L0 : St → Option ρ) :
    xcode (E16 N) ents impl_IsAbelianTable_n.kp 0 N (cL (cK (cB (cA (cB (cB impl_IsAbelianTable_n.bd)))))) 0 (impl_IsAbelianTable_n.st0) (roundK impl_IsAbelianTable_n.kp 0 0 L0 (impl_IsAbelianTable_n.k0 N K)) = (impl_IsAbelianTable_n.b0 N (fun d0 d1 => K (.tup [.bool (d0), .int .i64 (d1)]) []) (L0 (impl_IsAbelianTable_n.st0)) ((impl_IsAbelianTable_n.k0 N K) (.exit 0) (impl_IsAbelianTable_n.sx0_0))) := by
  have h := impl_IsAbelianTable_n.b0_gen N K L0 (impl_IsAbelianTable_n.k0 N K) 
  rw [impl_IsAbelianTable_n.k0_mix] at h
  exact h

theorem impl_IsAbelianTable_n.a0_0_eq {ρ : Type} (N : Nat) (K : AV → Heap → Option ρ) :
    (impl_IsAbelianTable_n.k0 N K) (.exit 0) (impl_IsAbelianTable_n.sx0_0) = (impl_IsAbelianTable_n.a0_0 N (fun d0 d1 => K (.tup [.bool (d0), .int .i64 (d1)]) [])) := by kernel_rfl

theorem impl_IsAbelianTable_n.l0_eq {ρ : Type} (N : Nat) (K : AV → Heap → Option ρ) :
    ∀ (m : Nat), xloop (xcode (E16 N) ents impl_IsAbelianTable_n.kp 0 N (cL (cK (cB (cA (cB (cB impl_IsAbelianTable_n.bd)))))) 0) impl_IsAbelianTable_n.kp 0 0 m (impl_IsAbelianTable_n.st0) (impl_IsAbelianTable_n.k0 N K) = (impl_IsAbelianTable_n.l0 N (fun d0 d1 => K (.tup [.bool (d0), .int .i64 (d1)]) []) ((impl_IsAbelianTable_n.k0 N K) (.exit 0) (impl_IsAbelianTable_n.sx0_0)) m) := by
  intro m
  induction m with
  | zero => intros; rfl
  | succ m ih =>
    refine (impl_IsAbelianTable_n.b0_eq N K (fun s => xloop (xcode (E16 N) ents impl_IsAbelianTable_n.kp 0 N (cL (cK (cB (cA (cB (cB impl_IsAbelianTable_n.bd)))))) 0) impl_IsAbelianTable_n.kp 0 0 m s (impl_IsAbelianTable_n.k0 N K)) ).trans ?_
    simp only [ih]
    kernel_rfl

theorem impl_IsAbelianTable_n.s_eq {ρ : Type} (N : Nat) (K : AV → Heap → Option ρ) :
    xbody (E16 N) ents impl_IsAbelianTable_n.kp N Go.Proofs.Try.f14 impl_IsAbelianTable_n.bd [.nils] [] K = (impl_IsAbelianTable_n.s N (fun d0 d1 => K (.tup [.bool (d0), .int .i64 (d1)]) []) (xloop (xcode (E16 N) ents impl_IsAbelianTable_n.kp 0 N (cL (cK (cB (cA (cB (cB impl_IsAbelianTable_n.bd)))))) 0) impl_IsAbelianTable_n.kp 0 0 N (impl_IsAbelianTable_n.st0) (impl_IsAbelianTable_n.k0 N K))) := by kernel_rfl

theorem impl_IsAbelianTable_n.eq {ρ : Type} (N : Nat) (K : AV → Heap → Option ρ) :
    xbody (E16 N) ents impl_IsAbelianTable_n.kp N Go.Proofs.Try.f14 impl_IsAbelianTable_n.bd [.nils] [] K = (impl_IsAbelianTable_n N (fun d0 d1 => K (.tup [.bool (d0), .int .i64 (d1)]) [])) := by
  refine (impl_IsAbelianTable_n.s_eq N K ).trans ?_
  simp only [impl_IsAbelianTable_n.l0_eq, impl_IsAbelianTable_n.a0_0_eq]
  kernel_rfl

noncomputable def impl_IsAbelianTable_sh.en (N : Nat) (ρ : Type) : List AV → Heap → (AV → Heap → Option ρ) → Option ρ
  | [.slice true 0 0 table0 (.exact table1) 1], [⟨false, .hdr 1 gv2 gv3 gv4 gv5 (some gv6)⟩, ⟨false, .flat 0 (.ints .i64 gv7)⟩], K => (impl_IsAbelianTable_sh N (fun d0 d1 => K (.tup [.bool (d0), .int .i64 (d1)]) [⟨false, .hdr 1 gv2 gv3 gv4 gv5 (some gv6)⟩, ⟨false, .flat 0 (.ints .i64 gv7)⟩]) table0 table1 gv2 gv3 gv4 gv5 gv6 gv7)
  | [.nils], [], K => (impl_IsAbelianTable_n N (fun d0 d1 => K (.tup [.bool (d0), .int .i64 (d1)]) []))
  | _, _, _ => none

theorem impl_IsAbelianTable_sh.en_ok (N : Nat) (hE : EnvOk (E16 N) ents) (ρ : Type) (args : List AV) (sh : Heap) (K : AV → Heap → Option ρ) (r : ρ) (h : impl_IsAbelianTable_sh.en N ρ args sh K = some r) : ∃ v sh', K v sh' = some r ∧ FnOk (E16 N).P 14 args sh v sh' := by
  unfold impl_IsAbelianTable_sh.en at h
  split at h
  · exact fn_ok hE (kp := impl_IsAbelianTable_sh.kp) (N := N) Go.Proofs.Try.func14 (c := impl_IsAbelianTable_sh.bd) (by kernel_rfl) ((impl_IsAbelianTable_sh.eq N _ _ _ _ _ _ _ _ _).trans h)
  · exact fn_ok hE (kp := impl_IsAbelianTable_n.kp) (N := N) Go.Proofs.Try.func14 (c := impl_IsAbelianTable_n.bd) (by kernel_rfl) ((impl_IsAbelianTable_n.eq N _ ).trans h)
  · cases h

noncomputable def E17 (N : Nat) : Env := (E16 N).add 14 (impl_IsAbelianTable_sh.en N)

theorem E17_ok (N : Nat) : EnvOk (E17 N) ents := Env.add_ok (E16_ok N) (impl_IsAbelianTable_sh.en_ok N (E16_ok N))

noncomputable def laws_eqInt64S_ss.kp : Keeps := ⟨[(0, [0, 1, 5], [], [])], [(0, [], [], [])], []⟩

noncomputable def laws_eqInt64S_ss.bd : Code := bodyOf Go.Proofs.Try.f17

noncomputable def laws_eqInt64S_ss.fin {ρ : Type} (N : Nat) (K : AV → Heap → Option ρ) (gv4 : Nat) (gv5 : Nat → Int) (gv6 : Nat) (gv7 : Nat → Int) : XE → St → Option ρ := finK (E17 N) laws_eqInt64S_ss.kp.fins Go.Proofs.Try.f17 [⟨false, .flat gv4 (.ints .i64 gv5)⟩, ⟨false, .flat gv6 (.ints .i64 gv7)⟩] K

noncomputable def laws_eqInt64S_ss.k0 {ρ : Type} (N : Nat) (K : AV → Heap → Option ρ) (gv4 : Nat) (gv5 : Nat → Int) (gv6 : Nat) (gv7 : Nat → Int) : XE → St → Option ρ := (blockK laws_eqInt64S_ss.kp 2 0 (seqK (xcode (E17 N) ents laws_eqInt64S_ss.kp 2 N (cB (cB (cB laws_eqInt64S_ss.bd))) 0) (laws_eqInt64S_ss.fin N K gv4 gv5 gv6 gv7)))

theorem laws_eqInt64S_ss.k0_mix {ρ : Type} (N : Nat) (K : AV → Heap → Option ρ) (gv4 : Nat) (gv5 : Nat → Int) (gv6 : Nat) (gv7 : Nat → Int) : mixK (laws_eqInt64S_ss.fin N K gv4 gv5 gv6 gv7 .ret) (laws_eqInt64S_ss.k0 N K gv4 gv5 gv6 gv7) = (laws_eqInt64S_ss.k0 N K gv4 gv5 gv6 gv7) := by
  funext e s; cases e <;> kernel_rfl

noncomputable def laws_eqInt64S_ss.st0 (av0 : Nat) (av1 : Nat) (bv2 : Nat) (bv3 : Nat) (gv4 : Nat) (gv5 : Nat → Int) (gv6 : Nat) (gv7 : Nat → Int) (i8 : Int) : St := ⟨sl 26 [(0, .slice false 0 0 av0 (.exact av1) 1), (1, .slice false 1 0 bv2 (.exact bv3) 1), (5, .int .i64 (i8))], [⟨false, .flat gv4 (.ints .i64 gv5)⟩, ⟨false, .flat gv6 (.ints .i64 gv7)⟩]⟩

noncomputable def laws_eqInt64S_ss.sx0_0 (gv4 : Nat) (gv5 : Nat → Int) (gv6 : Nat) (gv7 : Nat → Int) : St := ⟨sl 26 [], [⟨false, .flat gv4 (.ints .i64 gv5)⟩, ⟨false, .flat gv6 (.ints .i64 gv7)⟩]⟩

theorem laws_eqInt64S_ss.b0_gen {ρ : Type} (N : Nat) (K : AV → Heap → Option ρ) (L0 : St → Option ρ) (kv : XE → St → Option ρ) (av0 : Nat) (av1 : Nat) (bv2 : Nat) (bv3 : Nat) (gv4 : Nat) (gv5 : Nat → Int) (gv6 : Nat) (gv7 : Nat → Int) (i8 : Int) :
    xcode (E17 N) ents laws_eqInt64S_ss.kp 2 N (cL (cK (cB (cA (cB (cB laws_eqInt64S_ss.bd)))))) 0 (laws_eqInt64S_ss.st0 av0 av1 bv2 bv3 gv4 gv5 gv6 gv7 i8) (roundK laws_eqInt64S_ss.kp 2 0 L0 (mixK (laws_eqInt64S_ss.fin N K gv4 gv5 gv6 gv7 .ret) kv)) = (laws_eqInt64S_ss.b0 N (fun d0 => K (.bool (d0)) [⟨false, .flat gv4 (.ints .i64 gv5)⟩, ⟨false, .flat gv6 (.ints .i64 gv7)⟩]) (fun i8 => L0 (laws_eqInt64S_ss.st0 av0 av1 bv2 bv3 gv4 gv5 gv6 gv7 i8)) (kv (.exit 0) (laws_eqInt64S_ss.sx0_0 gv4 gv5 gv6 gv7)) av0 bv2 gv5 gv7 i8) := by kernel_rfl

theorem laws_eqInt64S_ss.b0_eq {ρ : Type} (N : Nat) (K : AV → Heap → Option ρ) (L0 : St → Option ρ) (av0 : Nat) (av1 : Nat) (bv2 : Nat) (bv3 : Nat) (gv4 : Nat) (gv5 : Nat → Int) (gv6 : Nat) (gv7 : Nat → Int) (i8 : Int) :
    xcode (E17 N) ents laws_eqInt64S_ss.kp 2 N (cL (cK (cB (cA (cB (cB laws_eqInt64S_ss.bd)))))) 0 (laws_eqInt64S_ss.st0 av0 av1 bv2 bv3 gv4 gv5 gv6 gv7 i8) (roundK laws_eqInt64S_ss.kp 2 0 L0 (laws_eqInt64S_ss.k0 N K gv4 gv5 gv6 gv7)) = (laws_eqInt64S_ss.b0 N (fun d0 => K (.bool (d0)) [⟨false, .flat gv4 (.ints .i64 gv5)⟩, ⟨false, .flat gv6 (.ints .i64 gv7)⟩]) (fun i8 => L0 (laws_eqInt64S_ss.st0 av0 av1 bv2 bv3 gv4 gv5 gv6 gv7 i8)) ((laws_eqInt64S_ss.k0 N K gv4 gv5 gv6 gv7) (.exit 0) (laws_eqInt64S_ss.sx0_0 gv4 gv5 gv6 gv7)) av0 bv2 gv5 gv7 i8) := by
  have h := laws_eqInt64S_ss.b0_gen N K L0 (laws_eqInt64S_ss.k0 N K gv4 gv5 gv6 gv7) av0 av1 bv2 bv3 gv4 gv5 gv6 gv7 i8
  rw [laws_eqInt64S_ss.k0_mix] at h
  exact h

theorem laws_eqInt64S_ss.a0_0_eq {ρ : Type} (N : Nat) (K : AV → Heap → Option ρ) (gv4 : Nat) (gv5 : Nat → Int) (gv6 : Nat) (gv7 : Nat → Int) :
    (laws_eqInt64S_ss.k0 N K gv4 gv5 gv6 gv7) (.exit 0) (laws_eqInt64S_ss.sx0_0 gv4 gv5 gv6 gv7) = (laws_eqInt64S_ss.a0_0 N (fun d0 => K (.bool (d0)) [⟨false, .flat gv4 (.ints .i64 gv5)⟩, ⟨false, .flat gv6 (.ints .i64 gv7)⟩])) := by kernel_rfl

theorem laws_eqInt64S_ss.l0_eq {ρ : Type} (N : Nat) (K : AV → Heap → Option ρ) (av0 : Nat) (av1 : Nat) (bv2 : Nat) (bv3 : Nat) (gv4 : Nat) (gv5 : Nat → Int) (gv6 : Nat) (gv7 : Nat → Int) :
    ∀ (m : Nat) (i8 : Int), xloop (xcode (E17 N) ents laws_eqInt64S_ss.kp 2 N (cL (cK (cB (cA (cB (cB laws_eqInt64S_ss.bd)))))) 0) laws_eqInt64S_ss.kp 2 0 m (laws_eqInt64S_ss.st0 av0 av1 bv2 bv3 gv4 gv5 gv6 gv7 i8) (laws_eqInt64S_ss.k0 N K gv4 gv5 gv6 gv7) = (laws_eqInt64S_ss.l0 N (fun d0 => K (.bool (d0)) [⟨false, .flat gv4 (.ints .i64 gv5)⟩, ⟨false, .flat gv6 (.ints .i64 gv7)⟩]) av0 bv2 gv5 gv7 ((laws_eqInt64S_ss.k0 N K gv4 gv5 gv6 gv7) (.exit 0) (laws_eqInt64S_ss.sx0_0 gv4 gv5 gv6 gv7)) m i8) := by
  intro m
  induction m with
  | zero => intros; rfl
  | succ m ih =>
    intro i8
    refine (laws_eqInt64S_ss.b0_eq N K (fun s => xloop (xcode (E17 N) ents laws_eqInt64S_ss.kp 2 N (cL (cK (cB (cA (cB (cB laws_eqInt64S_ss.bd)))))) 0) laws_eqInt64S_ss.kp 2 0 m s (laws_eqInt64S_ss.k0 N K gv4 gv5 gv6 gv7)) av0 av1 bv2 bv3 gv4 gv5 gv6 gv7 i8).trans ?_
    simp only [ih]
    kernel_rfl

theorem laws_eqInt64S_ss.s_eq {ρ : Type} (N : Nat) (K : AV → Heap → Option ρ) (av0 : Nat) (av1 : Nat) (bv2 : Nat) (bv3 : Nat) (gv4 : Nat) (gv5 : Nat → Int) (gv6 : Nat) (gv7 : Nat → Int) :
    xbody (E17 N) ents laws_eqInt64S_ss.kp N Go.Proofs.Try.f17 laws_eqInt64S_ss.bd [.slice false 0 0 av0 (.exact av1) 1, .slice false 1 0 bv2 (.exact bv3) 1] [⟨false, .flat gv4 (.ints .i64 gv5)⟩, ⟨false, .flat gv6 (.ints .i64 gv7)⟩] K = (laws_eqInt64S_ss.s N (fun d0 => K (.bool (d0)) [⟨false, .flat gv4 (.ints .i64 gv5)⟩, ⟨false, .flat gv6 (.ints .i64 gv7)⟩]) (fun i8 => xloop (xcode (E17 N) ents laws_eqInt64S_ss.kp 2 N (cL (cK (cB (cA (cB (cB laws_eqInt64S_ss.bd)))))) 0) laws_eqInt64S_ss.kp 2 0 N (laws_eqInt64S_ss.st0 av0 av1 bv2 bv3 gv4 gv5 gv6 gv7 i8) (laws_eqInt64S_ss.k0 N K gv4 gv5 gv6 gv7)) av0 bv2) := by kernel_rfl

theorem laws_eqInt64S_ss.eq {ρ : Type} (N : Nat) (K : AV → Heap → Option ρ) (av0 : Nat) (av1 : Nat) (bv2 : Nat) (bv3 : Nat) (gv4 : Nat) (gv5 : Nat → Int) (gv6 : Nat) (gv7 : Nat → Int) :
    xbody (E17 N) ents laws_eqInt64S_ss.kp N Go.Proofs.Try.f17 laws_eqInt64S_ss.bd [.slice false 0 0 av0 (.exact av1) 1, .slice false 1 0 bv2 (.exact bv3) 1] [⟨false, .flat gv4 (.ints .i64 gv5)⟩, ⟨false, .flat gv6 (.ints .i64 gv7)⟩] K = (laws_eqInt64S_ss N (fun d0 => K (.bool (d0)) [⟨false, .flat gv4 (.ints .i64 gv5)⟩, ⟨false, .flat gv6 (.ints .i64 gv7)⟩]) av0 av1 bv2 bv3 gv4 gv5 gv6 gv7) := by
  refine (laws_eqInt64S_ss.s_eq N K av0 av1 bv2 bv3 gv4 gv5 gv6 gv7).trans ?_
  simp only [laws_eqInt64S_ss.l0_eq, laws_eqInt64S_ss.a0_0_eq]
  kernel_rfl

noncomputable def laws_eqInt64S_ss.en (N : Nat) (ρ : Type) : List AV → Heap → (AV → Heap → Option ρ) → Option ρ
  | [.slice false 0 0 av0 (.exact av1) 1, .slice false 1 0 bv2 (.exact bv3) 1], [⟨false, .flat gv4 (.ints .i64 gv5)⟩, ⟨false, .flat gv6 (.ints .i64 gv7)⟩], K => (laws_eqInt64S_ss N (fun d0 => K (.bool (d0)) [⟨false, .flat gv4 (.ints .i64 gv5)⟩, ⟨false, .flat gv6 (.ints .i64 gv7)⟩]) av0 av1 bv2 bv3 gv4 gv5 gv6 gv7)
  | _, _, _ => none

theorem laws_eqInt64S_ss.en_ok (N : Nat) (hE : EnvOk (E17 N) ents) (ρ : Type) (args : List AV) (sh : Heap) (K : AV → Heap → Option ρ) (r : ρ) (h : laws_eqInt64S_ss.en N ρ args sh K = some r) : ∃ v sh', K v sh' = some r ∧ FnOk (E17 N).P 17 args sh v sh' := by
  unfold laws_eqInt64S_ss.en at h
  split at h
  · exact fn_ok hE (kp := laws_eqInt64S_ss.kp) (N := N) Go.Proofs.Try.func17 (c := laws_eqInt64S_ss.bd) (by kernel_rfl) ((laws_eqInt64S_ss.eq N _ _ _ _ _ _ _ _ _).trans h)
  · cases h

noncomputable def E18 (N : Nat) : Env := (E17 N).add 17 (laws_eqInt64S_ss.en N)

theorem E18_ok (N : Nat) : EnvOk (E18 N) ents := Env.add_ok (E17_ok N) (laws_eqInt64S_ss.en_ok N (E17_ok N))

noncomputable def laws_intactInt64S_ss.kp : Keeps := ⟨[], [], []⟩

noncomputable def laws_intactInt64S_ss.bd : Code := bodyOf Go.Proofs.Try.f45

noncomputable def laws_intactInt64S_ss.fin {ρ : Type} (N : Nat) (K : AV → Heap → Option ρ) (gv4 : Nat) (gv5 : Nat → Int) (gv6 : Nat) (gv7 : Nat → Int) : XE → St → Option ρ := finK (E18 N) laws_intactInt64S_ss.kp.fins Go.Proofs.Try.f45 [⟨false, .flat gv4 (.ints .i64 gv5)⟩, ⟨false, .flat gv6 (.ints .i64 gv7)⟩] K

theorem laws_intactInt64S_ss.eq {ρ : Type} (N : Nat) (K : AV → Heap → Option ρ) (x0 : Nat) (x1 : Nat) (y2 : Nat) (y3 : Nat) (gv4 : Nat) (gv5 : Nat → Int) (gv6 : Nat) (gv7 : Nat → Int) :
    xbody (E18 N) ents laws_intactInt64S_ss.kp N Go.Proofs.Try.f45 laws_intactInt64S_ss.bd [.slice false 0 0 x0 (.exact x1) 1, .slice false 1 0 y2 (.exact y3) 1] [⟨false, .flat gv4 (.ints .i64 gv5)⟩, ⟨false, .flat gv6 (.ints .i64 gv7)⟩] K = (laws_intactInt64S_ss N (fun d0 => K (.bool (d0)) [⟨false, .flat gv4 (.ints .i64 gv5)⟩, ⟨false, .flat gv6 (.ints .i64 gv7)⟩]) x0 x1 y2 y3 gv4 gv5 gv6 gv7) := by kernel_rfl

noncomputable def laws_intactInt64S_ss.en (N : Nat) (ρ : Type) : List AV → Heap → (AV → Heap → Option ρ) → Option ρ
  | [.slice false 0 0 x0 (.exact x1) 1, .slice false 1 0 y2 (.exact y3) 1], [⟨false, .flat gv4 (.ints .i64 gv5)⟩, ⟨false, .flat gv6 (.ints .i64 gv7)⟩], K => (laws_intactInt64S_ss N (fun d0 => K (.bool (d0)) [⟨false, .flat gv4 (.ints .i64 gv5)⟩, ⟨false, .flat gv6 (.ints .i64 gv7)⟩]) x0 x1 y2 y3 gv4 gv5 gv6 gv7)
  | _, _, _ => none

theorem laws_intactInt64S_ss.en_ok (N : Nat) (hE : EnvOk (E18 N) ents) (ρ : Type) (args : List AV) (sh : Heap) (K : AV → Heap → Option ρ) (r : ρ) (h : laws_intactInt64S_ss.en N ρ args sh K = some r) : ∃ v sh', K v sh' = some r ∧ FnOk (E18 N).P 45 args sh v sh' := by
  unfold laws_intactInt64S_ss.en at h
  split at h
  · exact fn_ok hE (kp := laws_intactInt64S_ss.kp) (N := N) Go.Proofs.Try.func45 (c := laws_intactInt64S_ss.bd) (by kernel_rfl) ((laws_intactInt64S_ss.eq N _ _ _ _ _ _ _ _ _).trans h)
  · cases h

noncomputable def E19 (N : Nat) : Env := (E18 N).add 45 (laws_intactInt64S_ss.en N)

theorem E19_ok (N : Nat) : EnvOk (E19 N) ents := Env.add_ok (E18_ok N) (laws_intactInt64S_ss.en_ok N (E18_ok N))

noncomputable def laws_eqInt64SS_shsh.kp : Keeps := ⟨[(0, [0, 1, 5], [], [])], [(0, [], [], [])], []⟩

noncomputable def laws_eqInt64SS_shsh.bd : Code := bodyOf Go.Proofs.Try.f23

noncomputable def laws_eqInt64SS_shsh.fin {ρ : Type} (N : Nat) (K : AV → Heap → Option ρ) (gv4 : Nat) (gv5 : Nat) (gv6 : Nat → Nat) (gv7 : Nat → Nat) (gv8 : Nat → Nat) (gv9 : Nat) (gv10 : Nat) (gv11 : Nat → Nat) (gv12 : Nat → Nat) (gv13 : Nat → Nat) (gv14 : Nat → Int) (gv15 : Nat → Int) : XE → St → Option ρ := finK (E19 N) laws_eqInt64SS_shsh.kp.fins Go.Proofs.Try.f23 [⟨false, .hdr 2 gv4 gv5 gv6 gv7 (some gv8)⟩, ⟨false, .hdr 3 gv9 gv10 gv11 gv12 (some gv13)⟩, ⟨false, .flat 0 (.ints .i64 gv14)⟩, ⟨false, .flat 0 (.ints .i64 gv15)⟩] K

noncomputable def laws_eqInt64SS_shsh.k0 {ρ : Type} (N : Nat) (K : AV → Heap → Option ρ) (gv4 : Nat) (gv5 : Nat) (gv6 : Nat → Nat) (gv7 : Nat → Nat) (gv8 : Nat → Nat) (gv9 : Nat) (gv10 : Nat) (gv11 : Nat → Nat) (gv12 : Nat → Nat) (gv13 : Nat → Nat) (gv14 : Nat → Int) (gv15 : Nat → Int) : XE → St → Option ρ := (blockK laws_eqInt64SS_shsh.kp 4 0 (seqK (xcode (E19 N) ents laws_eqInt64SS_shsh.kp 4 N (cB (cB (cB laws_eqInt64SS_shsh.bd))) 0) (laws_eqInt64SS_shsh.fin N K gv4 gv5 gv6 gv7 gv8 gv9 gv10 gv11 gv12 gv13 gv14 gv15)))

theorem laws_eqInt64SS_shsh.k0_mix {ρ : Type} (N : Nat) (K : AV → Heap → Option ρ) (gv4 : Nat) (gv5 : Nat) (gv6 : Nat → Nat) (gv7 : Nat → Nat) (gv8 : Nat → Nat) (gv9 : Nat) (gv10 : Nat) (gv11 : Nat → Nat) (gv12 : Nat → Nat) (gv13 : Nat → Nat) (gv14 : Nat → Int) (gv15 : Nat → Int) : mixK (laws_eqInt64SS_shsh.fin N K gv4 gv5 gv6 gv7 gv8 gv9 gv10 gv11 gv12 gv13 gv14 gv15 .ret) (laws_eqInt64SS_shsh.k0 N K gv4 gv5 gv6 gv7 gv8 gv9 gv10 gv11 gv12 gv13 gv14 gv15) = (laws_eqInt64SS_shsh.k0 N K gv4 gv5 gv6 gv7 gv8 gv9 gv10 gv11 gv12 gv13 gv14 gv15) := by
  funext e s; cases e <;> kernel_rfl

noncomputable def laws_eqInt64SS_shsh.st0 (av0 : Nat) (av1 : Nat) (bv2 : Nat) (bv3 : Nat) (gv4 : Nat) (gv5 : Nat) (gv6 : Nat → Nat) (gv7 : Nat → Nat) (gv8 : Nat → Nat) (gv9 : Nat) (gv10 : Nat) (gv11 : Nat → Nat) (gv12 : Nat → Nat) (gv13 : Nat → Nat) (gv14 : Nat → Int) (gv15 : Nat → Int) (i16 : Int) : St := ⟨sl 27 [(0, .slice true 0 0 av0 (.exact av1) 1), (1, .slice true 1 0 bv2 (.exact bv3) 1), (5, .int .i64 (i16))], [⟨false, .hdr 2 gv4 gv5 gv6 gv7 (some gv8)⟩, ⟨false, .hdr 3 gv9 gv10 gv11 gv12 (some gv13)⟩, ⟨false, .flat 0 (.ints .i64 gv14)⟩, ⟨false, .flat 0 (.ints .i64 gv15)⟩]⟩

noncomputable def laws_eqInt64SS_shsh.sx0_0 (gv4 : Nat) (gv5 : Nat) (gv6 : Nat → Nat) (gv7 : Nat → Nat) (gv8 : Nat → Nat) (gv9 : Nat) (gv10 : Nat) (gv11 : Nat → Nat) (gv12 : Nat → Nat) (gv13 : Nat → Nat) (gv14 : Nat → Int) (gv15 : Nat → Int) : St := ⟨sl 27 [], [⟨false, .hdr 2 gv4 gv5 gv6 gv7 (some gv8)⟩, ⟨false, .hdr 3 gv9 gv10 gv11 gv12 (some gv13)⟩, ⟨false, .flat 0 (.ints .i64 gv14)⟩, ⟨false, .flat 0 (.ints .i64 gv15)⟩]⟩

theorem laws_eqInt64SS_shsh.b0_gen {ρ : Type} (N : Nat) (K : AV → Heap → Option ρ) (L0 : St → Option ρ) (kv : XE → St → Option ρ) (av0 : Nat) (av1 : Nat) (bv2 : Nat) (bv3 : Nat) (gv4 : Nat) (gv5 : Nat) (gv6 : Nat → Nat) (gv7 : Nat → Nat) (gv8 : Nat → Nat) (gv9 : Nat) (gv10 : Nat) (gv11 : Nat → Nat) (gv12 : Nat → Nat) (gv13 : Nat → Nat) (gv14 : Nat → Int) (gv15 : Nat → Int) (i16 : Int) :
    xcode (E19 N) ents laws_eqInt64SS_shsh.kp 4 N (cL (cK (cB (cA (cB (cB laws_eqInt64SS_shsh.bd)))))) 0 (laws_eqInt64SS_shsh.st0 av0 av1 bv2 bv3 gv4 gv5 gv6 gv7 gv8 gv9 gv10 gv11 gv12 gv13 gv14 gv15 i16) (roundK laws_eqInt64SS_shsh.kp 4 0 L0 (mixK (laws_eqInt64SS_shsh.fin N K gv4 gv5 gv6 gv7 gv8 gv9 gv10 gv11 gv12 gv13 gv14 gv15 .ret) kv)) = (laws_eqInt64SS_shsh.b0 N (fun d0 => K (.bool (d0)) [⟨false, .hdr 2 gv4 gv5 gv6 gv7 (some gv8)⟩, ⟨false, .hdr 3 gv9 gv10 gv11 gv12 (some gv13)⟩, ⟨false, .flat 0 (.ints .i64 gv14)⟩, ⟨false, .flat 0 (.ints .i64 gv15)⟩]) (fun i16 => L0 (laws_eqInt64SS_shsh.st0 av0 av1 bv2 bv3 gv4 gv5 gv6 gv7 gv8 gv9 gv10 gv11 gv12 gv13 gv14 gv15 i16)) (kv (.exit 0) (laws_eqInt64SS_shsh.sx0_0 gv4 gv5 gv6 gv7 gv8 gv9 gv10 gv11 gv12 gv13 gv14 gv15)) av0 bv2 gv6 gv7 gv8 gv11 gv12 gv13 gv14 gv15 i16) := by kernel_rfl

theorem laws_eqInt64SS_shsh.b0_eq {ρ : Type} (N : Nat) (K : AV → Heap → Option ρ) (L0 : St → Option ρ) (av0 : Nat) (av1 : Nat) (bv2 : Nat) (bv3 : Nat) (gv4 : Nat) (gv5 : Nat) (gv6 : Nat → Nat) (gv7 : Nat → Nat) (gv8 : Nat → Nat) (gv9 : Nat) (gv10 : Nat) (gv11 : Nat → Nat) (gv12 : Nat → Nat) (gv13 : Nat → Nat) (gv14 : Nat → Int) (gv15 : Nat → Int) (i16 : Int) :
    xcode (E19 N) ents laws_eqInt64SS_shsh.kp 4 N (cL (cK (cB (cA (cB (cB laws_eqInt64SS_shsh.bd)))))) 0 (laws_eqInt64SS_shsh.st0 av0 av1 bv2 bv3 gv4 gv5 gv6 gv7 gv8 gv9 gv10 gv11 gv12 gv13 gv14 gv15 i16) (roundK laws_eqInt64SS_shsh.kp 4 0 L0 (laws_eqInt64SS_shsh.k0 N K gv4 gv5 gv6 gv7 gv8 gv9 gv10 gv11 gv12 gv13 gv14 gv15)) = (laws_eqInt64SS_shsh.b0 N (fun d0 => K (.bool (d0)) [⟨false, .hdr 2 gv4 gv5 gv6 gv7 (some gv8)⟩, ⟨false, .hdr 3 gv9 gv10 gv11 gv12 (some gv13)⟩, ⟨false, .flat 0 (.ints .i64 gv14)⟩, ⟨false, .flat 0 (.ints .i64 gv15)⟩]) (fun i16 => L0 (laws_eqInt64SS_shsh.st0 av0 av1 bv2 bv3 gv4 gv5 gv6 gv7 gv8 gv9 gv10 gv11 gv12 gv13 gv14 gv15 i16)) ((laws_eqInt64SS_shsh.k0 N K gv4 gv5 gv6 gv7 gv8 gv9 gv10 gv11 gv12 gv13 gv14 gv15) (.exit 0) (laws_eqInt64SS_shsh.sx0_0 gv4 gv5 gv6 gv7 gv8 gv9 gv10 gv11 gv12 gv13 gv14 gv15)) av0 bv2 gv6 gv7 gv8 gv11 gv12 gv13 gv14 gv15 i16) := by
  have h := laws_eqInt64SS_shsh.b0_gen N K L0 (laws_eqInt64SS_shsh.k0 N K gv4 gv5 gv6 gv7 gv8 gv9 gv10 gv11 gv12 gv13 gv14 gv15) av0 av1 bv2 bv3 gv4 gv5 gv6 gv7 gv8 gv9 gv10 gv11 gv12 gv13 gv14 gv15 i16
  rw [laws_eqInt64SS_shsh.k0_mix] at h
  exact h

theorem laws_eqInt64SS_shsh.a0_0_eq {ρ : Type} (N : Nat) (K : AV → Heap → Option ρ) (gv4 : Nat) (gv5 : Nat) (gv6 : Nat → Nat) (gv7 : Nat → Nat) (gv8 : Nat → Nat) (gv9 : Nat) (gv10 : Nat) (gv11 : Nat → Nat) (gv12 : Nat → Nat) (gv13 : Nat → Nat) (gv14 : Nat → Int) (gv15 : Nat → Int) :
    (laws_eqInt64SS_shsh.k0 N K gv4 gv5 gv6 gv7 gv8 gv9 gv10 gv11 gv12 gv13 gv14 gv15) (.exit 0) (laws_eqInt64SS_shsh.sx0_0 gv4 gv5 gv6 gv7 gv8 gv9 gv10 gv11 gv12 gv13 gv14 gv15) = (laws_eqInt64SS_shsh.a0_0 N (fun d0 => K (.bool (d0)) [⟨false, .hdr 2 gv4 gv5 gv6 gv7 (some gv8)⟩, ⟨false, .hdr 3 gv9 gv10 gv11 gv12 (some gv13)⟩, ⟨false, .flat 0 (.ints .i64 gv14)⟩, ⟨false, .flat 0 (.ints .i64 gv15)⟩])) := by kernel_rfl

theorem laws_eqInt64SS_shsh.l0_eq {ρ : Type} (N : Nat) (K : AV → Heap → Option ρ) (av0 : Nat) (av1 : Nat) (bv2 : Nat) (bv3 : Nat) (gv4 : Nat) (gv5 : Nat) (gv6 : Nat → Nat) (gv7 : Nat → Nat) (gv8 : Nat → Nat) (gv9 : Nat) (gv10 : Nat) (gv11 : Nat → Nat) (gv12 : Nat → Nat) (gv13 : Nat → Nat) (gv14 : Nat → Int) (gv15 : Nat → Int) :
    ∀ (m : Nat) (i16 : Int), xloop (xcode (E19 N) ents laws_eqInt64SS_shsh.kp 4 N (cL (cK (cB (cA (cB (cB laws_eqInt64SS_shsh.bd)))))) 0) laws_eqInt64SS_shsh.kp 4 0 m (laws_eqInt64SS_shsh.st0 av0 av1 bv2 bv3 gv4 gv5 gv6 gv7 gv8 gv9 gv10 gv11 gv12 gv13 gv14 gv15 i16) (laws_eqInt64SS_shsh.k0 N K gv4 gv5 gv6 gv7 gv8 gv9 gv10 gv11 gv12 gv13 gv14 gv15) = (laws_eqInt64SS_shsh.l0 N (fun d0 => K (.bool (d0)) [⟨false, .hdr 2 gv4 gv5 gv6 gv7 (some gv8)⟩, ⟨false, .hdr 3 gv9 gv10 gv11 gv12 (some gv13)⟩, ⟨false, .flat 0 (.ints .i64 gv14)⟩, ⟨false, .flat 0 (.ints .i64 gv15)⟩]) av0 bv2 gv6 gv7 gv8 gv11 gv12 gv13 gv14 gv15 ((laws_eqInt64SS_shsh.k0 N K gv4 gv5 gv6 gv7 gv8 gv9 gv10 gv11 gv12 gv13 gv14 gv15) (.exit 0) (laws_eqInt64SS_shsh.sx0_0 gv4 gv5 gv6 gv7 gv8 gv9 gv10 gv11 gv12 gv13 gv14 gv15)) m i16) := by
  intro m
  induction m with
  | zero => intros; rfl
  | succ m ih =>
    intro i16
    refine (laws_eqInt64SS_shsh.b0_eq N K (fun s => xloop (xcode (E19 N) ents laws_eqInt64SS_shsh.kp 4 N (cL (cK (cB (cA (cB (cB laws_eqInt64SS_shsh.bd)))))) 0) laws_eqInt64SS_shsh.kp 4 0 m s (laws_eqInt64SS_shsh.k0 N K gv4 gv5 gv6 gv7 gv8 gv9 gv10 gv11 gv12 gv13 gv14 gv15)) av0 av1 bv2 bv3 gv4 gv5 gv6 gv7 gv8 gv9 gv10 gv11 gv12 gv13 gv14 gv15 i16).trans ?_
    simp only [ih]
    kernel_rfl

theorem laws_eqInt64SS_shsh.s_eq {ρ : Type} (N : Nat) (K : AV → Heap → Option ρ) (av0 : Nat) (av1 : Nat) (bv2 : Nat) (bv3 : Nat) (gv4 : Nat) (gv5 : Nat) (gv6 : Nat → Nat) (gv7 : Nat → Nat) (gv8 : Nat → Nat) (gv9 : Nat) (gv10 : Nat) (gv11 : Nat → Nat) (gv12 : Nat → Nat) (gv13 : Nat → Nat) (gv14 : Nat → Int) (gv15 : Nat → Int) :
    xbody (E19 N) ents laws_eqInt64SS_shsh.kp N Go.Proofs.Try.f23 laws_eqInt64SS_shsh.bd [.slice true 0 0 av0 (.exact av1) 1, .slice true 1 0 bv2 (.exact bv3) 1] [⟨false, .hdr 2 gv4 gv5 gv6 gv7 (some gv8)⟩, ⟨false, .hdr 3 gv9 gv10 gv11 gv12 (some gv13)⟩, ⟨false, .flat 0 (.ints .i64 gv14)⟩, ⟨false, .flat 0 (.ints .i64 gv15)⟩] K = (laws_eqInt64SS_shsh.s N (fun d0 => K (.bool (d0)) [⟨false, .hdr 2 gv4 gv5 gv6 gv7 (some gv8)⟩, ⟨false, .hdr 3 gv9 gv10 gv11 gv12 (some gv13)⟩, ⟨false, .flat 0 (.ints .i64 gv14)⟩, ⟨false, .flat 0 (.ints .i64 gv15)⟩]) (fun i16 => xloop (xcode (E19 N) ents laws_eqInt64SS_shsh.kp 4 N (cL (cK (cB (cA (cB (cB laws_eqInt64SS_shsh.bd)))))) 0) laws_eqInt64SS_shsh.kp 4 0 N (laws_eqInt64SS_shsh.st0 av0 av1 bv2 bv3 gv4 gv5 gv6 gv7 gv8 gv9 gv10 gv11 gv12 gv13 gv14 gv15 i16) (laws_eqInt64SS_shsh.k0 N K gv4 gv5 gv6 gv7 gv8 gv9 gv10 gv11 gv12 gv13 gv14 gv15)) av0 bv2) := by kernel_rfl

theorem laws_eqInt64SS_shsh.eq {ρ : Type} (N : Nat) (K : AV → Heap → Option ρ) (av0 : Nat) (av1 : Nat) (bv2 : Nat) (bv3 : Nat) (gv4 : Nat) (gv5 : Nat) (gv6 : Nat → Nat) (gv7 : Nat → Nat) (gv8 : Nat → Nat) (gv9 : Nat) (gv10 : Nat) (gv11 : Nat → Nat) (gv12 : Nat → Nat) (gv13 : Nat → Nat) (gv14 : Nat → Int) (gv15 : Nat → Int) :
    xbody (E19 N) ents laws_eqInt64SS_shsh.kp N Go.Proofs.Try.f23 laws_eqInt64SS_shsh.bd [.slice true 0 0 av0 (.exact av1) 1, .slice true 1 0 bv2 (.exact bv3) 1] [⟨false, .hdr 2 gv4 gv5 gv6 gv7 (some gv8)⟩, ⟨false, .hdr 3 gv9 gv10 gv11 gv12 (some gv13)⟩, ⟨false, .flat 0 (.ints .i64 gv14)⟩, ⟨false, .flat 0 (.ints .i64 gv15)⟩] K = (laws_eqInt64SS_shsh N (fun d0 => K (.bool (d0)) [⟨false, .hdr 2 gv4 gv5 gv6 gv7 (some gv8)⟩, ⟨false, .hdr 3 gv9 gv10 gv11 gv12 (some gv13)⟩, ⟨false, .flat 0 (.ints .i64 gv14)⟩, ⟨false, .flat 0 (.ints .i64 gv15)⟩]) av0 av1 bv2 bv3 gv4 gv5 gv6 gv7 gv8 gv9 gv10 gv11 gv12 gv13 gv14 gv15) := by
  refine (laws_eqInt64SS_shsh.s_eq N K av0 av1 bv2 bv3 gv4 gv5 gv6 gv7 gv8 gv9 gv10 gv11 gv12 gv13 gv14 gv15).trans ?_
  simp only [laws_eqInt64SS_shsh.l0_eq, laws_eqInt64SS_shsh.a0_0_eq]
  kernel_rfl

noncomputable def laws_eqInt64SS_shsh.en (N : Nat) (ρ : Type) : List AV → Heap → (AV → Heap → Option ρ) → Option ρ
  | [.slice true 0 0 av0 (.exact av1) 1, .slice true 1 0 bv2 (.exact bv3) 1], [⟨false, .hdr 2 gv4 gv5 gv6 gv7 (some gv8)⟩, ⟨false, .hdr 3 gv9 gv10 gv11 gv12 (some gv13)⟩, ⟨false, .flat 0 (.ints .i64 gv14)⟩, ⟨false, .flat 0 (.ints .i64 gv15)⟩], K => (laws_eqInt64SS_shsh N (fun d0 => K (.bool (d0)) [⟨false, .hdr 2 gv4 gv5 gv6 gv7 (some gv8)⟩, ⟨false, .hdr 3 gv9 gv10 gv11 gv12 (some gv13)⟩, ⟨false, .flat 0 (.ints .i64 gv14)⟩, ⟨false, .flat 0 (.ints .i64 gv15)⟩]) av0 av1 bv2 bv3 gv4 gv5 gv6 gv7 gv8 gv9 gv10 gv11 gv12 gv13 gv14 gv15)
  | _, _, _ => none

theorem laws_eqInt64SS_shsh.en_ok (N : Nat) (hE : EnvOk (E19 N) ents) (ρ : Type) (args : List AV) (sh : Heap) (K : AV → Heap → Option ρ) (r : ρ) (h : laws_eqInt64SS_shsh.en N ρ args sh K = some r) : ∃ v sh', K v sh' = some r ∧ FnOk (E19 N).P 23 args sh v sh' := by
  unfold laws_eqInt64SS_shsh.en at h
  split at h
  · exact fn_ok hE (kp := laws_eqInt64SS_shsh.kp) (N := N) Go.Proofs.Try.func23 (c := laws_eqInt64SS_shsh.bd) (by kernel_rfl) ((laws_eqInt64SS_shsh.eq N _ _ _ _ _ _ _ _ _ _ _ _ _ _ _ _ _).trans h)
  · cases h

noncomputable def E20 (N : Nat) : Env := (E19 N).add 23 (laws_eqInt64SS_shsh.en N)

theorem E20_ok (N : Nat) : EnvOk (E20 N) ents := Env.add_ok (E19_ok N) (laws_eqInt64SS_shsh.en_ok N (E19_ok N))

noncomputable def laws_intactInt64SS_shsh.kp : Keeps := ⟨[(0, [0, 1, 5, 6], [], [])], [(0, [0, 1, 5], [], [])], []⟩

noncomputable def laws_intactInt64SS_shsh.bd : Code := bodyOf Go.Proofs.Try.f12

noncomputable def laws_intactInt64SS_shsh.fin {ρ : Type} (N : Nat) (K : AV → Heap → Option ρ) (gv4 : Nat) (gv5 : Nat) (gv6 : Nat → Nat) (gv7 : Nat → Nat) (gv8 : Nat → Nat) (gv9 : Nat) (gv10 : Nat) (gv11 : Nat → Nat) (gv12 : Nat → Nat) (gv13 : Nat → Nat) (gv14 : Nat → Int) (gv15 : Nat → Int) : XE → St → Option ρ := finK (E20 N) laws_intactInt64SS_shsh.kp.fins Go.Proofs.Try.f12 [⟨false, .hdr 2 gv4 gv5 gv6 gv7 (some gv8)⟩, ⟨false, .hdr 3 gv9 gv10 gv11 gv12 (some gv13)⟩, ⟨false, .flat 0 (.ints .i64 gv14)⟩, ⟨false, .flat 0 (.ints .i64 gv15)⟩] K

noncomputable def laws_intactInt64SS_shsh.k0 {ρ : Type} (N : Nat) (K : AV → Heap → Option ρ) (gv4 : Nat) (gv5 : Nat) (gv6 : Nat → Nat) (gv7 : Nat → Nat) (gv8 : Nat → Nat) (gv9 : Nat) (gv10 : Nat) (gv11 : Nat → Nat) (gv12 : Nat → Nat) (gv13 : Nat → Nat) (gv14 : Nat → Int) (gv15 : Nat → Int) : XE → St → Option ρ := (blockK laws_intactInt64SS_shsh.kp 4 0 (seqK (xcode (E20 N) ents laws_intactInt64SS_shsh.kp 4 N (cB (cB (cB (cB laws_intactInt64SS_shsh.bd)))) 0) (laws_intactInt64SS_shsh.fin N K gv4 gv5 gv6 gv7 gv8 gv9 gv10 gv11 gv12 gv13 gv14 gv15)))

theorem laws_intactInt64SS_shsh.k0_mix {ρ : Type} (N : Nat) (K : AV → Heap → Option ρ) (gv4 : Nat) (gv5 : Nat) (gv6 : Nat → Nat) (gv7 : Nat → Nat) (gv8 : Nat → Nat) (gv9 : Nat) (gv10 : Nat) (gv11 : Nat → Nat) (gv12 : Nat → Nat) (gv13 : Nat → Nat) (gv14 : Nat → Int) (gv15 : Nat → Int) : mixK (laws_intactInt64SS_shsh.fin N K gv4 gv5 gv6 gv7 gv8 gv9 gv10 gv11 gv12 gv13 gv14 gv15 .ret) (laws_intactInt64SS_shsh.k0 N K gv4 gv5 gv6 gv7 gv8 gv9 gv10 gv11 gv12 gv13 gv14 gv15) = (laws_intactInt64SS_shsh.k0 N K gv4 gv5 gv6 gv7 gv8 gv9 gv10 gv11 gv12 gv13 gv14 gv15) := by
  funext e s; cases e <;> kernel_rfl

noncomputable def laws_intactInt64SS_shsh.st0 (x0 : Nat) (x1 : Nat) (y2 : Nat) (y3 : Nat) (gv4 : Nat) (gv5 : Nat) (gv6 : Nat → Nat) (gv7 : Nat → Nat) (gv8 : Nat → Nat) (gv9 : Nat) (gv10 : Nat) (gv11 : Nat → Nat) (gv12 : Nat → Nat) (gv13 : Nat → Nat) (gv14 : Nat → Int) (gv15 : Nat → Int) (rv16 : Int) (i17 : Int) : St := ⟨sl 45 [(0, .slice true 0 0 x0 (.exact x1) 1), (1, .slice true 1 0 y2 (.exact y3) 1), (5, .int .i64 ((IntKind.i64.wrap ((y2 : Int) + rv16)))), (6, .int .i64 (i17))], [⟨false, .hdr 2 gv4 gv5 gv6 gv7 (some gv8)⟩, ⟨false, .hdr 3 gv9 gv10 gv11 gv12 (some gv13)⟩, ⟨false, .flat 0 (.ints .i64 gv14)⟩, ⟨false, .flat 0 (.ints .i64 gv15)⟩]⟩

noncomputable def laws_intactInt64SS_shsh.sx0_0 (x0 : Nat) (x1 : Nat) (y2 : Nat) (y3 : Nat) (gv4 : Nat) (gv5 : Nat) (gv6 : Nat → Nat) (gv7 : Nat → Nat) (gv8 : Nat → Nat) (gv9 : Nat) (gv10 : Nat) (gv11 : Nat → Nat) (gv12 : Nat → Nat) (gv13 : Nat → Nat) (gv14 : Nat → Int) (gv15 : Nat → Int) (rv16 : Int) : St := ⟨sl 45 [(0, .slice true 0 0 x0 (.exact x1) 1), (1, .slice true 1 0 y2 (.exact y3) 1), (5, .int .i64 ((IntKind.i64.wrap ((y2 : Int) + rv16))))], [⟨false, .hdr 2 gv4 gv5 gv6 gv7 (some gv8)⟩, ⟨false, .hdr 3 gv9 gv10 gv11 gv12 (some gv13)⟩, ⟨false, .flat 0 (.ints .i64 gv14)⟩, ⟨false, .flat 0 (.ints .i64 gv15)⟩]⟩

theorem laws_intactInt64SS_shsh.b0_gen {ρ : Type} (N : Nat) (K : AV → Heap → Option ρ) (L0 : St → Option ρ) (kv : XE → St → Option ρ) (x0 : Nat) (x1 : Nat) (y2 : Nat) (y3 : Nat) (gv4 : Nat) (gv5 : Nat) (gv6 : Nat → Nat) (gv7 : Nat → Nat) (gv8 : Nat → Nat) (gv9 : Nat) (gv10 : Nat) (gv11 : Nat → Nat) (gv12 : Nat → Nat) (gv13 : Nat → Nat) (gv14 : Nat → Int) (gv15 : Nat → Int) (rv16 : Int) (i17 : Int) :
    xcode (E20 N) ents laws_intactInt64SS_shsh.kp 4 N (cL (cK (cB (cA (cB (cB (cB laws_intactInt64SS_shsh.bd))))))) 0 (laws_intactInt64SS_shsh.st0 x0 x1 y2 y3 gv4 gv5 gv6 gv7 gv8 gv9 gv10 gv11 gv12 gv13 gv14 gv15 rv16 i17) (roundK laws_intactInt64SS_shsh.kp 4 0 L0 (mixK (laws_intactInt64SS_shsh.fin N K gv4 gv5 gv6 gv7 gv8 gv9 gv10 gv11 gv12 gv13 gv14 gv15 .ret) kv)) = (laws_intactInt64SS_shsh.b0 N (fun d0 => K (.bool (d0)) [⟨false, .hdr 2 gv4 gv5 gv6 gv7 (some gv8)⟩, ⟨false, .hdr 3 gv9 gv10 gv11 gv12 (some gv13)⟩, ⟨false, .flat 0 (.ints .i64 gv14)⟩, ⟨false, .flat 0 (.ints .i64 gv15)⟩]) (fun i17 => L0 (laws_intactInt64SS_shsh.st0 x0 x1 y2 y3 gv4 gv5 gv6 gv7 gv8 gv9 gv10 gv11 gv12 gv13 gv14 gv15 rv16 i17)) (kv (.exit 0) (laws_intactInt64SS_shsh.sx0_0 x0 x1 y2 y3 gv4 gv5 gv6 gv7 gv8 gv9 gv10 gv11 gv12 gv13 gv14 gv15 rv16)) x0 y2 gv6 gv7 gv8 gv11 gv12 gv13 gv14 gv15 i17) := by kernel_rfl

theorem laws_intactInt64SS_shsh.b0_eq {ρ : Type} (N : Nat) (K : AV → Heap → Option ρ) (L0 : St → Option ρ) (x0 : Nat) (x1 : Nat) (y2 : Nat) (y3 : Nat) (gv4 : Nat) (gv5 : Nat) (gv6 : Nat → Nat) (gv7 : Nat → Nat) (gv8 : Nat → Nat) (gv9 : Nat) (gv10 : Nat) (gv11 : Nat → Nat) (gv12 : Nat → Nat) (gv13 : Nat → Nat) (gv14 : Nat → Int) (gv15 : Nat → Int) (rv16 : Int) (i17 : Int) :
    xcode (E20 N) ents laws_intactInt64SS_shsh.kp 4 N (cL (cK (cB (cA (cB (cB (cB laws_intactInt64SS_shsh.bd))))))) 0 (laws_intactInt64SS_shsh.st0 x0 x1 y2 y3 gv4 gv5 gv6 gv7 gv8 gv9 gv10 gv11 gv12 gv13 gv14 gv15 rv16 i17) (roundK laws_intactInt64SS_shsh.kp 4 0 L0 (laws_intactInt64SS_shsh.k0 N K gv4 gv5 gv6 gv7 gv8 gv9 gv10 gv11 gv12 gv13 gv14 gv15)) = (laws_intactInt64SS_shsh.b0 N (fun d0 => K (.bool (d0)) [⟨false, .hdr 2 gv4 gv5 gv6 gv7 (some gv8)⟩, ⟨false, .hdr 3 gv9 gv10 gv11 gv12 (some gv13)⟩, ⟨false, .flat 0 (.ints .i64 gv14)⟩, ⟨false, .flat 0 (.ints .i64 gv15)⟩]) (fun i17 => L0 (laws_intactInt64SS_shsh.st0 x0 x1 y2 y3 gv4 gv5 gv6 gv7 gv8 gv9 gv10 gv11 gv12 gv13 gv14 gv15 rv16 i17)) ((laws_intactInt64SS_shsh.k0 N K gv4 gv5 gv6 gv7 gv8 gv9 gv10 gv11 gv12 gv13 gv14 gv15) (.exit 0) (laws_intactInt64SS_shsh.sx0_0 x0 x1 y2 y3 gv4 gv5 gv6 gv7 gv8 gv9 gv10 gv11 gv12 gv13 gv14 gv15 rv16)) x0 y2 gv6 gv7 gv8 gv11 gv12 gv13 gv14 gv15 i17) := by
  have h := laws_intactInt64SS_shsh.b0_gen N K L0 (laws_intactInt64SS_shsh.k0 N K gv4 gv5 gv6 gv7 gv8 gv9 gv10 gv11 gv12 gv13 gv14 gv15) x0 x1 y2 y3 gv4 gv5 gv6 gv7 gv8 gv9 gv10 gv11 gv12 gv13 gv14 gv15 rv16 i17
  rw [laws_intactInt64SS_shsh.k0_mix] at h
  exact h

theorem laws_intactInt64SS_shsh.a0_0_eq {ρ : Type} (N : Nat) (K : AV → Heap → Option ρ) (x0 : Nat) (x1 : Nat) (y2 : Nat) (y3 : Nat) (gv4 : Nat) (gv5 : Nat) (gv6 : Nat → Nat) (gv7 : Nat → Nat) (gv8 : Nat → Nat) (gv9 : Nat) (gv10 : Nat) (gv11 : Nat → Nat) (gv12 : Nat → Nat) (gv13 : Nat → Nat) (gv14 : Nat → Int) (gv15 : Nat → Int) (rv16 : Int) :
    (laws_intactInt64SS_shsh.k0 N K gv4 gv5 gv6 gv7 gv8 gv9 gv10 gv11 gv12 gv13 gv14 gv15) (.exit 0) (laws_intactInt64SS_shsh.sx0_0 x0 x1 y2 y3 gv4 gv5 gv6 gv7 gv8 gv9 gv10 gv11 gv12 gv13 gv14 gv15 rv16) = (laws_intactInt64SS_shsh.a0_0 N (fun d0 => K (.bool (d0)) [⟨false, .hdr 2 gv4 gv5 gv6 gv7 (some gv8)⟩, ⟨false, .hdr 3 gv9 gv10 gv11 gv12 (some gv13)⟩, ⟨false, .flat 0 (.ints .i64 gv14)⟩, ⟨false, .flat 0 (.ints .i64 gv15)⟩]) x1 y2 y3 gv5 gv6 gv7 gv8 gv10 gv11 gv12 gv13 gv14 gv15 rv16) := by kernel_rfl

theorem laws_intactInt64SS_shsh.l0_eq {ρ : Type} (N : Nat) (K : AV → Heap → Option ρ) (x0 : Nat) (x1 : Nat) (y2 : Nat) (y3 : Nat) (gv4 : Nat) (gv5 : Nat) (gv6 : Nat → Nat) (gv7 : Nat → Nat) (gv8 : Nat → Nat) (gv9 : Nat) (gv10 : Nat) (gv11 : Nat → Nat) (gv12 : Nat → Nat) (gv13 : Nat → Nat) (gv14 : Nat → Int) (gv15 : Nat → Int) (rv16 : Int) :
    ∀ (m : Nat) (i17 : Int), xloop (xcode (E20 N) ents laws_intactInt64SS_shsh.kp 4 N (cL (cK (cB (cA (cB (cB (cB laws_intactInt64SS_shsh.bd))))))) 0) laws_intactInt64SS_shsh.kp 4 0 m (laws_intactInt64SS_shsh.st0 x0 x1 y2 y3 gv4 gv5 gv6 gv7 gv8 gv9 gv10 gv11 gv12 gv13 gv14 gv15 rv16 i17) (laws_intactInt64SS_shsh.k0 N K gv4 gv5 gv6 gv7 gv8 gv9 gv10 gv11 gv12 gv13 gv14 gv15) = (laws_intactInt64SS_shsh.l0 N (fun d0 => K (.bool (d0)) [⟨false, .hdr 2 gv4 gv5 gv6 gv7 (some gv8)⟩, ⟨false, .hdr 3 gv9 gv10 gv11 gv12 (some gv13)⟩, ⟨false, .flat 0 (.ints .i64 gv14)⟩, ⟨false, .flat 0 (.ints .i64 gv15)⟩]) x0 y2 gv6 gv7 gv8 gv11 gv12 gv13 gv14 gv15 ((laws_intactInt64SS_shsh.k0 N K gv4 gv5 gv6 gv7 gv8 gv9 gv10 gv11 gv12 gv13 gv14 gv15) (.exit 0) (laws_intactInt64SS_shsh.sx0_0 x0 x1 y2 y3 gv4 gv5 gv6 gv7 gv8 gv9 gv10 gv11 gv12 gv13 gv14 gv15 rv16)) m i17) := by
  intro m
  induction m with
  | zero => intros; rfl
  | succ m ih =>
    intro i17
    refine (laws_intactInt64SS_shsh.b0_eq N K (fun s => xloop (xcode (E20 N) ents laws_intactInt64SS_shsh.kp 4 N (cL (cK (cB (cA (cB (cB (cB laws_intactInt64SS_shsh.bd))))))) 0) laws_intactInt64SS_shsh.kp 4 0 m s (laws_intactInt64SS_shsh.k0 N K gv4 gv5 gv6 gv7 gv8 gv9 gv10 gv11 gv12 gv13 gv14 gv15)) x0 x1 y2 y3 gv4 gv5 gv6 gv7 gv8 gv9 gv10 gv11 gv12 gv13 gv14 gv15 rv16 i17).trans ?_
    simp only [ih]
    kernel_rfl

theorem laws_intactInt64SS_shsh.s_eq {ρ : Type} (N : Nat) (K : AV → Heap → Option ρ) (x0 : Nat) (x1 : Nat) (y2 : Nat) (y3 : Nat) (gv4 : Nat) (gv5 : Nat) (gv6 : Nat → Nat) (gv7 : Nat → Nat) (gv8 : Nat → Nat) (gv9 : Nat) (gv10 : Nat) (gv11 : Nat → Nat) (gv12 : Nat → Nat) (gv13 : Nat → Nat) (gv14 : Nat → Int) (gv15 : Nat → Int) :
    xbody (E20 N) ents laws_intactInt64SS_shsh.kp N Go.Proofs.Try.f12 laws_intactInt64SS_shsh.bd [.slice true 0 0 x0 (.exact x1) 1, .slice true 1 0 y2 (.exact y3) 1] [⟨false, .hdr 2 gv4 gv5 gv6 gv7 (some gv8)⟩, ⟨false, .hdr 3 gv9 gv10 gv11 gv12 (some gv13)⟩, ⟨false, .flat 0 (.ints .i64 gv14)⟩, ⟨false, .flat 0 (.ints .i64 gv15)⟩] K = (laws_intactInt64SS_shsh.s N (fun d0 => K (.bool (d0)) [⟨false, .hdr 2 gv4 gv5 gv6 gv7 (some gv8)⟩, ⟨false, .hdr 3 gv9 gv10 gv11 gv12 (some gv13)⟩, ⟨false, .flat 0 (.ints .i64 gv14)⟩, ⟨false, .flat 0 (.ints .i64 gv15)⟩]) (fun rv16 i17 => xloop (xcode (E20 N) ents laws_intactInt64SS_shsh.kp 4 N (cL (cK (cB (cA (cB (cB (cB laws_intactInt64SS_shsh.bd))))))) 0) laws_intactInt64SS_shsh.kp 4 0 N (laws_intactInt64SS_shsh.st0 x0 x1 y2 y3 gv4 gv5 gv6 gv7 gv8 gv9 gv10 gv11 gv12 gv13 gv14 gv15 rv16 i17) (laws_intactInt64SS_shsh.k0 N K gv4 gv5 gv6 gv7 gv8 gv9 gv10 gv11 gv12 gv13 gv14 gv15)) x0 y2) := by kernel_rfl

theorem laws_intactInt64SS_shsh.eq {ρ : Type} (N : Nat) (K : AV → Heap → Option ρ) (x0 : Nat) (x1 : Nat) (y2 : Nat) (y3 : Nat) (gv4 : Nat) (gv5 : Nat) (gv6 : Nat → Nat) (gv7 : Nat → Nat) (gv8 : Nat → Nat) (gv9 : Nat) (gv10 : Nat) (gv11 : Nat → Nat) (gv12 : Nat → Nat) (gv13 : Nat → Nat) (gv14 : Nat → Int) (gv15 : Nat → Int) :
    xbody (E20 N) ents laws_intactInt64SS_shsh.kp N Go.Proofs.Try.f12 laws_intactInt64SS_shsh.bd [.slice true 0 0 x0 (.exact x1) 1, .slice true 1 0 y2 (.exact y3) 1] [⟨false, .hdr 2 gv4 gv5 gv6 gv7 (some gv8)⟩, ⟨false, .hdr 3 gv9 gv10 gv11 gv12 (some gv13)⟩, ⟨false, .flat 0 (.ints .i64 gv14)⟩, ⟨false, .flat 0 (.ints .i64 gv15)⟩] K = (laws_intactInt64SS_shsh N (fun d0 => K (.bool (d0)) [⟨false, .hdr 2 gv4 gv5 gv6 gv7 (some gv8)⟩, ⟨false, .hdr 3 gv9 gv10 gv11 gv12 (some gv13)⟩, ⟨false, .flat 0 (.ints .i64 gv14)⟩, ⟨false, .flat 0 (.ints .i64 gv15)⟩]) x0 x1 y2 y3 gv4 gv5 gv6 gv7 gv8 gv9 gv10 gv11 gv12 gv13 gv14 gv15) := by
  refine (laws_intactInt64SS_shsh.s_eq N K x0 x1 y2 y3 gv4 gv5 gv6 gv7 gv8 gv9 gv10 gv11 gv12 gv13 gv14 gv15).trans ?_
  simp only [laws_intactInt64SS_shsh.l0_eq, laws_intactInt64SS_shsh.a0_0_eq]
  kernel_rfl

noncomputable def laws_intactInt64SS_shsh.en (N : Nat) (ρ : Type) : List AV → Heap → (AV → Heap → Option ρ) → Option ρ
  | [.slice true 0 0 x0 (.exact x1) 1, .slice true 1 0 y2 (.exact y3) 1], [⟨false, .hdr 2 gv4 gv5 gv6 gv7 (some gv8)⟩, ⟨false, .hdr 3 gv9 gv10 gv11 gv12 (some gv13)⟩, ⟨false, .flat 0 (.ints .i64 gv14)⟩, ⟨false, .flat 0 (.ints .i64 gv15)⟩], K => (laws_intactInt64SS_shsh N (fun d0 => K (.bool (d0)) [⟨false, .hdr 2 gv4 gv5 gv6 gv7 (some gv8)⟩, ⟨false, .hdr 3 gv9 gv10 gv11 gv12 (some gv13)⟩, ⟨false, .flat 0 (.ints .i64 gv14)⟩, ⟨false, .flat 0 (.ints .i64 gv15)⟩]) x0 x1 y2 y3 gv4 gv5 gv6 gv7 gv8 gv9 gv10 gv11 gv12 gv13 gv14 gv15)
  | _, _, _ => none

theorem laws_intactInt64SS_shsh.en_ok (N : Nat) (hE : EnvOk (E20 N) ents) (ρ : Type) (args : List AV) (sh : Heap) (K : AV → Heap → Option ρ) (r : ρ) (h : laws_intactInt64SS_shsh.en N ρ args sh K = some r) : ∃ v sh', K v sh' = some r ∧ FnOk (E20 N).P 12 args sh v sh' := by
  unfold laws_intactInt64SS_shsh.en at h
  split at h
  · exact fn_ok hE (kp := laws_intactInt64SS_shsh.kp) (N := N) Go.Proofs.Try.func12 (c := laws_intactInt64SS_shsh.bd) (by kernel_rfl) ((laws_intactInt64SS_shsh.eq N _ _ _ _ _ _ _ _ _ _ _ _ _ _ _ _ _).trans h)
  · cases h

noncomputable def E21 (N : Nat) : Env := (E20 N).add 12 (laws_intactInt64SS_shsh.en N)

theorem E21_ok (N : Nat) : EnvOk (E21 N) ents := Env.add_ok (E20_ok N) (laws_intactInt64SS_shsh.en_ok N (E20_ok N))

noncomputable def laws_FnExactIsAbelianTable_suh.kp : Keeps := ⟨[], [], []⟩

noncomputable def laws_FnExactIsAbelianTable_suh.bd : Code := bodyOf Go.Proofs.Try.f4

noncomputable def laws_FnExactIsAbelianTable_suh.fin {ρ : Type} (N : Nat) (K : AV → Heap → Option ρ) (gv1 : Nat) (gv2 : Nat) (gv3 : Nat → Nat) (gv4 : Nat → Nat) (gv5 : Nat) (gv6 : Nat → Int) : XE → St → Option ρ := finK (E21 N) laws_FnExactIsAbelianTable_suh.kp.fins Go.Proofs.Try.f4 [⟨false, .hdr 1 gv1 gv2 gv3 gv4 none⟩, ⟨false, .flat gv5 (.ints .i64 gv6)⟩] K

theorem laws_FnExactIsAbelianTable_suh.eq {ρ : Type} (N : Nat) (K : AV → Heap → Option ρ) (aTable0 : Nat) (gv1 : Nat) (gv2 : Nat) (gv3 : Nat → Nat) (gv4 : Nat → Nat) (gv5 : Nat) (gv6 : Nat → Int) :
    xbody (E21 N) ents laws_FnExactIsAbelianTable_suh.kp N Go.Proofs.Try.f4 laws_FnExactIsAbelianTable_suh.bd [.slice false 0 0 aTable0 .unk 1] [⟨false, .hdr 1 gv1 gv2 gv3 gv4 none⟩, ⟨false, .flat gv5 (.ints .i64 gv6)⟩] K = (laws_FnExactIsAbelianTable_suh N (fun d0 => K (.bool (d0)) [⟨false, .hdr 1 gv1 gv2 gv3 gv4 none⟩, ⟨false, .flat gv5 (.ints .i64 gv6)⟩]) aTable0 gv1 gv2 gv3 gv4 gv5 gv6) := by kernel_rfl

noncomputable def laws_FnExactIsAbelianTable_suh.en (N : Nat) (ρ : Type) : List AV → Heap → (AV → Heap → Option ρ) → Option ρ
  | [.slice false 0 0 aTable0 .unk 1], [⟨false, .hdr 1 gv1 gv2 gv3 gv4 none⟩, ⟨false, .flat gv5 (.ints .i64 gv6)⟩], K => (laws_FnExactIsAbelianTable_suh N (fun d0 => K (.bool (d0)) [⟨false, .hdr 1 gv1 gv2 gv3 gv4 none⟩, ⟨false, .flat gv5 (.ints .i64 gv6)⟩]) aTable0 gv1 gv2 gv3 gv4 gv5 gv6)
  | _, _, _ => none

theorem laws_FnExactIsAbelianTable_suh.en_ok (N : Nat) (hE : EnvOk (E21 N) ents) (ρ : Type) (args : List AV) (sh : Heap) (K : AV → Heap → Option ρ) (r : ρ) (h : laws_FnExactIsAbelianTable_suh.en N ρ args sh K = some r) : ∃ v sh', K v sh' = some r ∧ FnOk (E21 N).P 4 args sh v sh' := by
  unfold laws_FnExactIsAbelianTable_suh.en at h
  split at h
  · exact fn_ok hE (kp := laws_FnExactIsAbelianTable_suh.kp) (N := N) Go.Proofs.Try.func4 (c := laws_FnExactIsAbelianTable_suh.bd) (by kernel_rfl) ((laws_FnExactIsAbelianTable_suh.eq N _ _ _ _ _ _ _ _).trans h)
  · cases h

noncomputable def E22 (N : Nat) : Env := (E21 N).add 4 (laws_FnExactIsAbelianTable_suh.en N)

theorem E22_ok (N : Nat) : EnvOk (E22 N) ents := Env.add_ok (E21_ok N) (laws_FnExactIsAbelianTable_suh.en_ok N (E21_ok N))
end Go.Proofs.YtiifnnokpjbapaaRR.H
