/- The program computes these functions. -/
import Derived.Test.YtiifnnokpjbapaaRRHL1
namespace Go.Proofs.YtiifnnokpjbapaaRR.H
set_option linter.unusedVariables false
set_option linter.unusedSimpArgs false
open Go Go.RowKit Go.Proofs.YtiifnnokpjbapaaRR.Hy
set_option linter.unusedVariables false
set_option maxRecDepth 100000
noncomputable def impl_isGroupAt_sh.kp : Keeps := ⟨[(0, [0, 1, 26, 27], [], []), (2, [0, 1, 5, 26, 27, 31, 32], [], [])], [(0, [0, 1], [], []), (2, [0, 1, 26, 27], [], [])], []⟩

noncomputable def impl_isGroupAt_sh.bd : Code := bodyOf Go.Proofs.Try.f44

noncomputable def impl_isGroupAt_sh.fin {ρ : Type} (N : Nat) (K : AV → Heap → Option ρ) (gv3 : Nat) (gv4 : Nat) (gv5 : Nat → Nat) (gv6 : Nat → Nat) (gv7 : Nat → Nat) (gv8 : Nat → Int) : XE → St → Option ρ := finK (E14 N) impl_isGroupAt_sh.kp.fins Go.Proofs.Try.f44 [⟨false, .hdr 1 gv3 gv4 gv5 gv6 (some gv7)⟩, ⟨false, .flat 0 (.ints .i64 gv8)⟩] K

noncomputable def impl_isGroupAt_sh.k0 {ρ : Type} (N : Nat) (K : AV → Heap → Option ρ) (gv3 : Nat) (gv4 : Nat) (gv5 : Nat → Nat) (gv6 : Nat → Nat) (gv7 : Nat → Nat) (gv8 : Nat → Int) : XE → St → Option ρ := (blockK impl_isGroupAt_sh.kp 2 0 (seqK (xcode (E14 N) ents impl_isGroupAt_sh.kp 2 N (cB (cB (cB impl_isGroupAt_sh.bd))) 0) (impl_isGroupAt_sh.fin N K gv3 gv4 gv5 gv6 gv7 gv8)))

theorem impl_isGroupAt_sh.k0_mix {ρ : Type} (N : Nat) (K : AV → Heap → Option ρ) (gv3 : Nat) (gv4 : Nat) (gv5 : Nat → Nat) (gv6 : Nat → Nat) (gv7 : Nat → Nat) (gv8 : Nat → Int) : mixK (impl_isGroupAt_sh.fin N K gv3 gv4 gv5 gv6 gv7 gv8 .ret) (impl_isGroupAt_sh.k0 N K gv3 gv4 gv5 gv6 gv7 gv8) = (impl_isGroupAt_sh.k0 N K gv3 gv4 gv5 gv6 gv7 gv8) := by
  funext e s; cases e <;> kernel_rfl

noncomputable def impl_isGroupAt_sh.st0 (table0 : Nat) (table1 : Nat) (i2 : Int) (gv3 : Nat) (gv4 : Nat) (gv5 : Nat → Nat) (gv6 : Nat → Nat) (gv7 : Nat → Nat) (gv8 : Nat → Int) (x9 : Int) : St := ⟨sl 68 [(0, .slice true 0 0 table0 (.exact table1) 1), (1, .int .i64 (i2)), (26, .int .i64 ((table0 : Int))), (27, .int .i64 (x9))], [⟨false, .hdr 1 gv3 gv4 gv5 gv6 (some gv7)⟩, ⟨false, .flat 0 (.ints .i64 gv8)⟩]⟩

noncomputable def impl_isGroupAt_sh.sx0_0 (table0 : Nat) (table1 : Nat) (i2 : Int) (gv3 : Nat) (gv4 : Nat) (gv5 : Nat → Nat) (gv6 : Nat → Nat) (gv7 : Nat → Nat) (gv8 : Nat → Int) : St := ⟨sl 68 [(0, .slice true 0 0 table0 (.exact table1) 1), (1, .int .i64 (i2))], [⟨false, .hdr 1 gv3 gv4 gv5 gv6 (some gv7)⟩, ⟨false, .flat 0 (.ints .i64 gv8)⟩]⟩

noncomputable def impl_isGroupAt_sh.k1g {ρ : Type} (N : Nat) (L0 : St → Option ρ) (kv : XE → St → Option ρ) : XE → St → Option ρ := (blockK impl_isGroupAt_sh.kp 2 2 (blockK impl_isGroupAt_sh.kp 2 1 (seqK (xcode (E14 N) ents impl_isGroupAt_sh.kp 2 N (cB (cB (cB (cL (cK (cB (cA (cB (cB impl_isGroupAt_sh.bd))))))))) 0) (roundK impl_isGroupAt_sh.kp 2 0 L0 kv))))

theorem impl_isGroupAt_sh.k1_mix {ρ : Type} (N : Nat) (K : AV → Heap → Option ρ) (L0 : St → Option ρ) (gv3 : Nat) (gv4 : Nat) (gv5 : Nat → Nat) (gv6 : Nat → Nat) (gv7 : Nat → Nat) (gv8 : Nat → Int) : mixK (impl_isGroupAt_sh.fin N K gv3 gv4 gv5 gv6 gv7 gv8 .ret) (impl_isGroupAt_sh.k1g N L0 (impl_isGroupAt_sh.k0 N K gv3 gv4 gv5 gv6 gv7 gv8)) = (impl_isGroupAt_sh.k1g N L0 (impl_isGroupAt_sh.k0 N K gv3 gv4 gv5 gv6 gv7 gv8)) := by
  funext e s; cases e <;> kernel_rfl

noncomputable def impl_isGroupAt_sh.st1 (table0 : Nat) (table1 : Nat) (i2 : Int) (gv3 : Nat) (gv4 : Nat) (gv5 : Nat → Nat) (gv6 : Nat → Nat) (gv7 : Nat → Nat) (gv8 : Nat → Int) (x9 : Int) (x10 : Int) : St := ⟨sl 68 [(0, .slice true 0 0 table0 (.exact table1) 1), (1, .int .i64 (i2)), (5, .int .i64 (x9)), (26, .int .i64 ((table0 : Int))), (27, .int .i64 (x9)), (31, .int .i64 ((table0 : Int))), (32, .int .i64 (x10))], [⟨false, .hdr 1 gv3 gv4 gv5 gv6 (some gv7)⟩, ⟨false, .flat 0 (.ints .i64 gv8)⟩]⟩

noncomputable def impl_isGroupAt_sh.sx1_0 (table0 : Nat) (table1 : Nat) (i2 : Int) (gv3 : Nat) (gv4 : Nat) (gv5 : Nat → Nat) (gv6 : Nat → Nat) (gv7 : Nat → Nat) (gv8 : Nat → Int) (x9 : Int) : St := ⟨sl 68 [(0, .slice true 0 0 table0 (.exact table1) 1), (1, .int .i64 (i2)), (26, .int .i64 ((table0 : Int))), (27, .int .i64 (x9))], [⟨false, .hdr 1 gv3 gv4 gv5 gv6 (some gv7)⟩, ⟨false, .flat 0 (.ints .i64 gv8)⟩]⟩

theorem impl_isGroupAt_sh.b1_gen {ρ : Type} (N : Nat) (K : AV → Heap → Option ρ) (L1 : St → Option ρ) (kv : XE → St → Option ρ) (table0 : Nat) (table1 : Nat) (i2 : Int) (gv3 : Nat) (gv4 : Nat) (gv5 : Nat → Nat) (gv6 : Nat → Nat) (gv7 : Nat → Nat) (gv8 : Nat → Int) (x9 : Int) (x10 : Int) :
    xcode (E14 N) ents impl_isGroupAt_sh.kp 2 N (cL (cK (cB (cB (cK (cA (cB (cB (cL (cK (cB (cA (cB (cB impl_isGroupAt_sh.bd)))))))))))))) 2 (impl_isGroupAt_sh.st1 table0 table1 i2 gv3 gv4 gv5 gv6 gv7 gv8 x9 x10) (roundK impl_isGroupAt_sh.kp 2 2 L1 (mixK (impl_isGroupAt_sh.fin N K gv3 gv4 gv5 gv6 gv7 gv8 .ret) kv)) = (impl_isGroupAt_sh.b1 N (fun d0 => K (.bool (d0)) [⟨false, .hdr 1 gv3 gv4 gv5 gv6 (some gv7)⟩, ⟨false, .flat 0 (.ints .i64 gv8)⟩]) (fun x10 => L1 (impl_isGroupAt_sh.st1 table0 table1 i2 gv3 gv4 gv5 gv6 gv7 gv8 x9 x10)) (kv (.exit 2) (impl_isGroupAt_sh.sx1_0 table0 table1 i2 gv3 gv4 gv5 gv6 gv7 gv8 x9)) table0 i2 gv5 gv6 gv8 x9 x10) := by kernel_rfl

theorem impl_isGroupAt_sh.b1_eq {ρ : Type} (N : Nat) (K : AV → Heap → Option ρ) (L0 : St → Option ρ) (L1 : St → Option ρ) (table0 : Nat) (table1 : Nat) (i2 : Int) (gv3 : Nat) (gv4 : Nat) (gv5 : Nat → Nat) (gv6 : Nat → Nat) (gv7 : Nat → Nat) (gv8 : Nat → Int) (x9 : Int) (x10 : Int) :
    xcode (E14 N) ents impl_isGroupAt_sh.kp 2 N (cL (cK (cB (cB (cK (cA (cB (cB (cL (cK (cB (cA (cB (cB impl_isGroupAt_sh.bd)))))))))))))) 2 (impl_isGroupAt_sh.st1 table0 table1 i2 gv3 gv4 gv5 gv6 gv7 gv8 x9 x10) (roundK impl_isGroupAt_sh.kp 2 2 L1 (impl_isGroupAt_sh.k1g N L0 (impl_isGroupAt_sh.k0 N K gv3 gv4 gv5 gv6 gv7 gv8))) = (impl_isGroupAt_sh.b1 N (fun d0 => K (.bool (d0)) [⟨false, .hdr 1 gv3 gv4 gv5 gv6 (some gv7)⟩, ⟨false, .flat 0 (.ints .i64 gv8)⟩]) (fun x10 => L1 (impl_isGroupAt_sh.st1 table0 table1 i2 gv3 gv4 gv5 gv6 gv7 gv8 x9 x10)) ((impl_isGroupAt_sh.k1g N L0 (impl_isGroupAt_sh.k0 N K gv3 gv4 gv5 gv6 gv7 gv8)) (.exit 2) (impl_isGroupAt_sh.sx1_0 table0 table1 i2 gv3 gv4 gv5 gv6 gv7 gv8 x9)) table0 i2 gv5 gv6 gv8 x9 x10) := by
  have h := impl_isGroupAt_sh.b1_gen N K L1 (impl_isGroupAt_sh.k1g N L0 (impl_isGroupAt_sh.k0 N K gv3 gv4 gv5 gv6 gv7 gv8)) table0 table1 i2 gv3 gv4 gv5 gv6 gv7 gv8 x9 x10
  rw [impl_isGroupAt_sh.k1_mix] at h
  exact h

theorem impl_isGroupAt_sh.a1_0_gen {ρ : Type} (N : Nat) (K : AV → Heap → Option ρ) (L0 : St → Option ρ) (kv : XE → St → Option ρ) (table0 : Nat) (table1 : Nat) (i2 : Int) (gv3 : Nat) (gv4 : Nat) (gv5 : Nat → Nat) (gv6 : Nat → Nat) (gv7 : Nat → Nat) (gv8 : Nat → Int) (x9 : Int) :
    (impl_isGroupAt_sh.k1g N L0 (mixK (impl_isGroupAt_sh.fin N K gv3 gv4 gv5 gv6 gv7 gv8 .ret) kv)) (.exit 2) (impl_isGroupAt_sh.sx1_0 table0 table1 i2 gv3 gv4 gv5 gv6 gv7 gv8 x9) = (impl_isGroupAt_sh.a1_0 N (fun d0 => K (.bool (d0)) [⟨false, .hdr 1 gv3 gv4 gv5 gv6 (some gv7)⟩, ⟨false, .flat 0 (.ints .i64 gv8)⟩]) (fun x9 => L0 (impl_isGroupAt_sh.st0 table0 table1 i2 gv3 gv4 gv5 gv6 gv7 gv8 x9)) (kv (.exit 0) (impl_isGroupAt_sh.sx0_0 table0 table1 i2 gv3 gv4 gv5 gv6 gv7 gv8)) x9) := by kernel_rfl

theorem impl_isGroupAt_sh.a1_0_eq {ρ : Type} (N : Nat) (K : AV → Heap → Option ρ) (L0 : St → Option ρ) (table0 : Nat) (table1 : Nat) (i2 : Int) (gv3 : Nat) (gv4 : Nat) (gv5 : Nat → Nat) (gv6 : Nat → Nat) (gv7 : Nat → Nat) (gv8 : Nat → Int) (x9 : Int) :
    (impl_isGroupAt_sh.k1g N L0 (impl_isGroupAt_sh.k0 N K gv3 gv4 gv5 gv6 gv7 gv8)) (.exit 2) (impl_isGroupAt_sh.sx1_0 table0 table1 i2 gv3 gv4 gv5 gv6 gv7 gv8 x9) = (impl_isGroupAt_sh.a1_0 N (fun d0 => K (.bool (d0)) [⟨false, .hdr 1 gv3 gv4 gv5 gv6 (some gv7)⟩, ⟨false, .flat 0 (.ints .i64 gv8)⟩]) (fun x9 => L0 (impl_isGroupAt_sh.st0 table0 table1 i2 gv3 gv4 gv5 gv6 gv7 gv8 x9)) ((impl_isGroupAt_sh.k0 N K gv3 gv4 gv5 gv6 gv7 gv8) (.exit 0) (impl_isGroupAt_sh.sx0_0 table0 table1 i2 gv3 gv4 gv5 gv6 gv7 gv8)) x9) := by
  have h := impl_isGroupAt_sh.a1_0_gen N K L0 (impl_isGroupAt_sh.k0 N K gv3 gv4 gv5 gv6 gv7 gv8) table0 table1 i2 gv3 gv4 gv5 gv6 gv7 gv8 x9
  rw [impl_isGroupAt_sh.k0_mix] at h
  exact h

theorem impl_isGroupAt_sh.b0_gen {ρ : Type} (N : Nat) (K : AV → Heap → Option ρ) (L0 : St → Option ρ) (kv : XE → St → Option ρ) (table0 : Nat) (table1 : Nat) (i2 : Int) (gv3 : Nat) (gv4 : Nat) (gv5 : Nat → Nat) (gv6 : Nat → Nat) (gv7 : Nat → Nat) (gv8 : Nat → Int) (x9 : Int) :
    xcode (E14 N) ents impl_isGroupAt_sh.kp 2 N (cL (cK (cB (cA (cB (cB impl_isGroupAt_sh.bd)))))) 0 (impl_isGroupAt_sh.st0 table0 table1 i2 gv3 gv4 gv5 gv6 gv7 gv8 x9) (roundK impl_isGroupAt_sh.kp 2 0 L0 (mixK (impl_isGroupAt_sh.fin N K gv3 gv4 gv5 gv6 gv7 gv8 .ret) kv)) = (impl_isGroupAt_sh.b0 N (fun d0 => K (.bool (d0)) [⟨false, .hdr 1 gv3 gv4 gv5 gv6 (some gv7)⟩, ⟨false, .flat 0 (.ints .i64 gv8)⟩]) (fun x10 => xloop (xcode (E14 N) ents impl_isGroupAt_sh.kp 2 N (cL (cK (cB (cB (cK (cA (cB (cB (cL (cK (cB (cA (cB (cB impl_isGroupAt_sh.bd)))))))))))))) 2) impl_isGroupAt_sh.kp 2 2 N (impl_isGroupAt_sh.st1 table0 table1 i2 gv3 gv4 gv5 gv6 gv7 gv8 x9 x10) (impl_isGroupAt_sh.k1g N L0 (mixK (impl_isGroupAt_sh.fin N K gv3 gv4 gv5 gv6 gv7 gv8 .ret) kv))) (fun x9 => L0 (impl_isGroupAt_sh.st0 table0 table1 i2 gv3 gv4 gv5 gv6 gv7 gv8 x9)) (kv (.exit 0) (impl_isGroupAt_sh.sx0_0 table0 table1 i2 gv3 gv4 gv5 gv6 gv7 gv8)) table0 x9) := by kernel_rfl

theorem impl_isGroupAt_sh.b0_eq {ρ : Type} (N : Nat) (K : AV → Heap → Option ρ) (L0 : St → Option ρ) (table0 : Nat) (table1 : Nat) (i2 : Int) (gv3 : Nat) (gv4 : Nat) (gv5 : Nat → Nat) (gv6 : Nat → Nat) (gv7 : Nat → Nat) (gv8 : Nat → Int) (x9 : Int) :
    xcode (E14 N) ents impl_isGroupAt_sh.kp 2 N (cL (cK (cB (cA (cB (cB impl_isGroupAt_sh.bd)))))) 0 (impl_isGroupAt_sh.st0 table0 table1 i2 gv3 gv4 gv5 gv6 gv7 gv8 x9) (roundK impl_isGroupAt_sh.kp 2 0 L0 (impl_isGroupAt_sh.k0 N K gv3 gv4 gv5 gv6 gv7 gv8)) = (impl_isGroupAt_sh.b0 N (fun d0 => K (.bool (d0)) [⟨false, .hdr 1 gv3 gv4 gv5 gv6 (some gv7)⟩, ⟨false, .flat 0 (.ints .i64 gv8)⟩]) (fun x10 => xloop (xcode (E14 N) ents impl_isGroupAt_sh.kp 2 N (cL (cK (cB (cB (cK (cA (cB (cB (cL (cK (cB (cA (cB (cB impl_isGroupAt_sh.bd)))))))))))))) 2) impl_isGroupAt_sh.kp 2 2 N (impl_isGroupAt_sh.st1 table0 table1 i2 gv3 gv4 gv5 gv6 gv7 gv8 x9 x10) (impl_isGroupAt_sh.k1g N L0 (impl_isGroupAt_sh.k0 N K gv3 gv4 gv5 gv6 gv7 gv8))) (fun x9 => L0 (impl_isGroupAt_sh.st0 table0 table1 i2 gv3 gv4 gv5 gv6 gv7 gv8 x9)) ((impl_isGroupAt_sh.k0 N K gv3 gv4 gv5 gv6 gv7 gv8) (.exit 0) (impl_isGroupAt_sh.sx0_0 table0 table1 i2 gv3 gv4 gv5 gv6 gv7 gv8)) table0 x9) := by
  have h := impl_isGroupAt_sh.b0_gen N K L0 (impl_isGroupAt_sh.k0 N K gv3 gv4 gv5 gv6 gv7 gv8) table0 table1 i2 gv3 gv4 gv5 gv6 gv7 gv8 x9
  rw [impl_isGroupAt_sh.k0_mix] at h
  exact h

theorem impl_isGroupAt_sh.a0_0_eq {ρ : Type} (N : Nat) (K : AV → Heap → Option ρ) (table0 : Nat) (table1 : Nat) (i2 : Int) (gv3 : Nat) (gv4 : Nat) (gv5 : Nat → Nat) (gv6 : Nat → Nat) (gv7 : Nat → Nat) (gv8 : Nat → Int) :
    (impl_isGroupAt_sh.k0 N K gv3 gv4 gv5 gv6 gv7 gv8) (.exit 0) (impl_isGroupAt_sh.sx0_0 table0 table1 i2 gv3 gv4 gv5 gv6 gv7 gv8) = (impl_isGroupAt_sh.a0_0 N (fun d0 => K (.bool (d0)) [⟨false, .hdr 1 gv3 gv4 gv5 gv6 (some gv7)⟩, ⟨false, .flat 0 (.ints .i64 gv8)⟩]) table0 table1 i2 gv4 gv5 gv6 gv7 gv8) := by kernel_rfl

theorem impl_isGroupAt_sh.l1_eq {ρ : Type} (N : Nat) (K : AV → Heap → Option ρ) (L0 : St → Option ρ) (table0 : Nat) (table1 : Nat) (i2 : Int) (gv3 : Nat) (gv4 : Nat) (gv5 : Nat → Nat) (gv6 : Nat → Nat) (gv7 : Nat → Nat) (gv8 : Nat → Int) (x9 : Int) :
    ∀ (m : Nat) (x10 : Int), xloop (xcode (E14 N) ents impl_isGroupAt_sh.kp 2 N (cL (cK (cB (cB (cK (cA (cB (cB (cL (cK (cB (cA (cB (cB impl_isGroupAt_sh.bd)))))))))))))) 2) impl_isGroupAt_sh.kp 2 2 m (impl_isGroupAt_sh.st1 table0 table1 i2 gv3 gv4 gv5 gv6 gv7 gv8 x9 x10) (impl_isGroupAt_sh.k1g N L0 (impl_isGroupAt_sh.k0 N K gv3 gv4 gv5 gv6 gv7 gv8)) = (impl_isGroupAt_sh.l1 N (fun d0 => K (.bool (d0)) [⟨false, .hdr 1 gv3 gv4 gv5 gv6 (some gv7)⟩, ⟨false, .flat 0 (.ints .i64 gv8)⟩]) table0 i2 gv5 gv6 gv8 x9 ((impl_isGroupAt_sh.k1g N L0 (impl_isGroupAt_sh.k0 N K gv3 gv4 gv5 gv6 gv7 gv8)) (.exit 2) (impl_isGroupAt_sh.sx1_0 table0 table1 i2 gv3 gv4 gv5 gv6 gv7 gv8 x9)) m x10) := by
  intro m
  induction m with
  | zero => intros; rfl
  | succ m ih =>
    intro x10
    refine (impl_isGroupAt_sh.b1_eq N K L0 (fun s => xloop (xcode (E14 N) ents impl_isGroupAt_sh.kp 2 N (cL (cK (cB (cB (cK (cA (cB (cB (cL (cK (cB (cA (cB (cB impl_isGroupAt_sh.bd)))))))))))))) 2) impl_isGroupAt_sh.kp 2 2 m s (impl_isGroupAt_sh.k1g N L0 (impl_isGroupAt_sh.k0 N K gv3 gv4 gv5 gv6 gv7 gv8))) table0 table1 i2 gv3 gv4 gv5 gv6 gv7 gv8 x9 x10).trans ?_
    simp only [ih]
    kernel_rfl

theorem impl_isGroupAt_sh.l0_eq {ρ : Type} (N : Nat) (K : AV → Heap → Option ρ) (table0 : Nat) (table1 : Nat) (i2 : Int) (gv3 : Nat) (gv4 : Nat) (gv5 : Nat → Nat) (gv6 : Nat → Nat) (gv7 : Nat → Nat) (gv8 : Nat → Int) :
    ∀ (m : Nat) (x9 : Int), xloop (xcode (E14 N) ents impl_isGroupAt_sh.kp 2 N (cL (cK (cB (cA (cB (cB impl_isGroupAt_sh.bd)))))) 0) impl_isGroupAt_sh.kp 2 0 m (impl_isGroupAt_sh.st0 table0 table1 i2 gv3 gv4 gv5 gv6 gv7 gv8 x9) (impl_isGroupAt_sh.k0 N K gv3 gv4 gv5 gv6 gv7 gv8) = (impl_isGroupAt_sh.l0 N (fun d0 => K (.bool (d0)) [⟨false, .hdr 1 gv3 gv4 gv5 gv6 (some gv7)⟩, ⟨false, .flat 0 (.ints .i64 gv8)⟩]) table0 i2 gv5 gv6 gv8 ((impl_isGroupAt_sh.k0 N K gv3 gv4 gv5 gv6 gv7 gv8) (.exit 0) (impl_isGroupAt_sh.sx0_0 table0 table1 i2 gv3 gv4 gv5 gv6 gv7 gv8)) m x9) := by
  intro m
  induction m with
  | zero => intros; rfl
  | succ m ih =>
    intro x9
    refine (impl_isGroupAt_sh.b0_eq N K (fun s => xloop (xcode (E14 N) ents impl_isGroupAt_sh.kp 2 N (cL (cK (cB (cA (cB (cB impl_isGroupAt_sh.bd)))))) 0) impl_isGroupAt_sh.kp 2 0 m s (impl_isGroupAt_sh.k0 N K gv3 gv4 gv5 gv6 gv7 gv8)) table0 table1 i2 gv3 gv4 gv5 gv6 gv7 gv8 x9).trans ?_
    simp only [ih, impl_isGroupAt_sh.l1_eq, impl_isGroupAt_sh.a1_0_eq]
    kernel_rfl

theorem impl_isGroupAt_sh.s_eq {ρ : Type} (N : Nat) (K : AV → Heap → Option ρ) (table0 : Nat) (table1 : Nat) (i2 : Int) (gv3 : Nat) (gv4 : Nat) (gv5 : Nat → Nat) (gv6 : Nat → Nat) (gv7 : Nat → Nat) (gv8 : Nat → Int) :
    xbody (E14 N) ents impl_isGroupAt_sh.kp N Go.Proofs.Try.f44 impl_isGroupAt_sh.bd [.slice true 0 0 table0 (.exact table1) 1, .int .i64 (i2)] [⟨false, .hdr 1 gv3 gv4 gv5 gv6 (some gv7)⟩, ⟨false, .flat 0 (.ints .i64 gv8)⟩] K = (impl_isGroupAt_sh.s N (fun d0 => K (.bool (d0)) [⟨false, .hdr 1 gv3 gv4 gv5 gv6 (some gv7)⟩, ⟨false, .flat 0 (.ints .i64 gv8)⟩]) (fun x9 => xloop (xcode (E14 N) ents impl_isGroupAt_sh.kp 2 N (cL (cK (cB (cA (cB (cB impl_isGroupAt_sh.bd)))))) 0) impl_isGroupAt_sh.kp 2 0 N (impl_isGroupAt_sh.st0 table0 table1 i2 gv3 gv4 gv5 gv6 gv7 gv8 x9) (impl_isGroupAt_sh.k0 N K gv3 gv4 gv5 gv6 gv7 gv8)) table0 i2 gv5 gv6 gv8) := by kernel_rfl

theorem impl_isGroupAt_sh.eq {ρ : Type} (N : Nat) (K : AV → Heap → Option ρ) (table0 : Nat) (table1 : Nat) (i2 : Int) (gv3 : Nat) (gv4 : Nat) (gv5 : Nat → Nat) (gv6 : Nat → Nat) (gv7 : Nat → Nat) (gv8 : Nat → Int) :
    xbody (E14 N) ents impl_isGroupAt_sh.kp N Go.Proofs.Try.f44 impl_isGroupAt_sh.bd [.slice true 0 0 table0 (.exact table1) 1, .int .i64 (i2)] [⟨false, .hdr 1 gv3 gv4 gv5 gv6 (some gv7)⟩, ⟨false, .flat 0 (.ints .i64 gv8)⟩] K = (impl_isGroupAt_sh N (fun d0 => K (.bool (d0)) [⟨false, .hdr 1 gv3 gv4 gv5 gv6 (some gv7)⟩, ⟨false, .flat 0 (.ints .i64 gv8)⟩]) table0 table1 i2 gv3 gv4 gv5 gv6 gv7 gv8) := by
  refine (impl_isGroupAt_sh.s_eq N K table0 table1 i2 gv3 gv4 gv5 gv6 gv7 gv8).trans ?_
  simp only [impl_isGroupAt_sh.l0_eq, impl_isGroupAt_sh.a0_0_eq]
  kernel_rfl

noncomputable def impl_isGroupAt_sh.en (N : Nat) (ρ : Type) : List AV → Heap → (AV → Heap → Option ρ) → Option ρ
  | [.slice true 0 0 table0 (.exact table1) 1, .int .i64 (i2)], [⟨false, .hdr 1 gv3 gv4 gv5 gv6 (some gv7)⟩, ⟨false, .flat 0 (.ints .i64 gv8)⟩], K => (impl_isGroupAt_sh N (fun d0 => K (.bool (d0)) [⟨false, .hdr 1 gv3 gv4 gv5 gv6 (some gv7)⟩, ⟨false, .flat 0 (.ints .i64 gv8)⟩]) table0 table1 i2 gv3 gv4 gv5 gv6 gv7 gv8)
  | _, _, _ => none

theorem impl_isGroupAt_sh.en_ok (N : Nat) (hE : EnvOk (E14 N) ents) (ρ : Type) (args : List AV) (sh : Heap) (K : AV → Heap → Option ρ) (r : ρ) (h : impl_isGroupAt_sh.en N ρ args sh K = some r) : ∃ v sh', K v sh' = some r ∧ FnOk (E14 N).P 44 args sh v sh' := by
  unfold impl_isGroupAt_sh.en at h
  split at h
  · exact fn_ok hE (kp := impl_isGroupAt_sh.kp) (N := N) Go.Proofs.Try.func44 (c := impl_isGroupAt_sh.bd) (by kernel_rfl) ((impl_isGroupAt_sh.eq N _ _ _ _ _ _ _ _ _ _).trans h)
  · cases h

noncomputable def E15 (N : Nat) : Env := (E14 N).add 44 (impl_isGroupAt_sh.en N)

theorem E15_ok (N : Nat) : EnvOk (E15 N) ents := Env.add_ok (E14_ok N) (impl_isGroupAt_sh.en_ok N (E14_ok N))

noncomputable def impl_IsGroupTable_sh.kp : Keeps := ⟨[(0, [0, 8, 9], [], [])], [(0, [], [], [])], []⟩

noncomputable def impl_IsGroupTable_sh.bd : Code := bodyOf Go.Proofs.Try.f11

noncomputable def impl_IsGroupTable_sh.fin {ρ : Type} (N : Nat) (K : AV → Heap → Option ρ) (gv2 : Nat) (gv3 : Nat) (gv4 : Nat → Nat) (gv5 : Nat → Nat) (gv6 : Nat → Nat) (gv7 : Nat → Int) : XE → St → Option ρ := finK (E15 N) impl_IsGroupTable_sh.kp.fins Go.Proofs.Try.f11 [⟨false, .hdr 1 gv2 gv3 gv4 gv5 (some gv6)⟩, ⟨false, .flat 0 (.ints .i64 gv7)⟩] K

noncomputable def impl_IsGroupTable_sh.k0 {ρ : Type} (N : Nat) (K : AV → Heap → Option ρ) (gv2 : Nat) (gv3 : Nat) (gv4 : Nat → Nat) (gv5 : Nat → Nat) (gv6 : Nat → Nat) (gv7 : Nat → Int) : XE → St → Option ρ := (blockK impl_IsGroupTable_sh.kp 2 0 (seqK (xcode (E15 N) ents impl_IsGroupTable_sh.kp 2 N (cB (cB (cB impl_IsGroupTable_sh.bd))) 0) (impl_IsGroupTable_sh.fin N K gv2 gv3 gv4 gv5 gv6 gv7)))

theorem impl_IsGroupTable_sh.k0_mix {ρ : Type} (N : Nat) (K : AV → Heap → Option ρ) (gv2 : Nat) (gv3 : Nat) (gv4 : Nat → Nat) (gv5 : Nat → Nat) (gv6 : Nat → Nat) (gv7 : Nat → Int) : mixK (impl_IsGroupTable_sh.fin N K gv2 gv3 gv4 gv5 gv6 gv7 .ret) (impl_IsGroupTable_sh.k0 N K gv2 gv3 gv4 gv5 gv6 gv7) = (impl_IsGroupTable_sh.k0 N K gv2 gv3 gv4 gv5 gv6 gv7) := by
  funext e s; cases e <;> kernel_rfl

noncomputable def impl_IsGroupTable_sh.st0 (table0 : Nat) (table1 : Nat) (gv2 : Nat) (gv3 : Nat) (gv4 : Nat → Nat) (gv5 : Nat → Nat) (gv6 : Nat → Nat) (gv7 : Nat → Int) (x9 : Int) : St := ⟨sl 17 [(0, .slice true 0 0 table0 (.exact table1) 1), (8, .int .i64 ((table0 : Int))), (9, .int .i64 (x9))], [⟨false, .hdr 1 gv2 gv3 gv4 gv5 (some gv6)⟩, ⟨false, .flat 0 (.ints .i64 gv7)⟩]⟩

noncomputable def impl_IsGroupTable_sh.sx0_0 (gv2 : Nat) (gv3 : Nat) (gv4 : Nat → Nat) (gv5 : Nat → Nat) (gv6 : Nat → Nat) (gv7 : Nat → Int) : St := ⟨sl 17 [], [⟨false, .hdr 1 gv2 gv3 gv4 gv5 (some gv6)⟩, ⟨false, .flat 0 (.ints .i64 gv7)⟩]⟩

theorem impl_IsGroupTable_sh.b0_gen {ρ : Type} (N : Nat) (K : AV → Heap → Option ρ) (L0 : St → Option ρ) (kv : XE → St → Option ρ) (table0 : Nat) (table1 : Nat) (gv2 : Nat) (gv3 : Nat) (gv4 : Nat → Nat) (gv5 : Nat → Nat) (gv6 : Nat → Nat) (gv7 : Nat → Int) (x9 : Int) :
    xcode (E15 N) ents impl_IsGroupTable_sh.kp 2 N (cL (cK (cB (cA (cB (cB impl_IsGroupTable_sh.bd)))))) 0 (impl_IsGroupTable_sh.st0 table0 table1 gv2 gv3 gv4 gv5 gv6 gv7 x9) (roundK impl_IsGroupTable_sh.kp 2 0 L0 (mixK (impl_IsGroupTable_sh.fin N K gv2 gv3 gv4 gv5 gv6 gv7 .ret) kv)) = (impl_IsGroupTable_sh.b0 N (fun d0 => K (.bool (d0)) [⟨false, .hdr 1 gv2 gv3 gv4 gv5 (some gv6)⟩, ⟨false, .flat 0 (.ints .i64 gv7)⟩]) (fun x9 => L0 (impl_IsGroupTable_sh.st0 table0 table1 gv2 gv3 gv4 gv5 gv6 gv7 x9)) (kv (.exit 0) (impl_IsGroupTable_sh.sx0_0 gv2 gv3 gv4 gv5 gv6 gv7)) table0 table1 gv3 gv4 gv5 gv6 gv7 x9) := by kernel_rfl

theorem impl_IsGroupTable_sh.b0_eq {ρ : Type} (N : Nat) (K : AV → Heap → Option ρ) (L0 : St → Option ρ) (table0 : Nat) (table1 : Nat) (gv2 : Nat) (gv3 : Nat) (gv4 : Nat → Nat) (gv5 : Nat → Nat) (gv6 : Nat → Nat) (gv7 : Nat → Int) (x9 : Int) :
    xcode (E15 N) ents impl_IsGroupTable_sh.kp 2 N (cL (cK (cB (cA (cB (cB impl_IsGroupTable_sh.bd)))))) 0 (impl_IsGroupTable_sh.st0 table0 table1 gv2 gv3 gv4 gv5 gv6 gv7 x9) (roundK impl_IsGroupTable_sh.kp 2 0 L0 (impl_IsGroupTable_sh.k0 N K gv2 gv3 gv4 gv5 gv6 gv7)) = (impl_IsGroupTable_sh.b0 N (fun d0 => K (.bool (d0)) [⟨false, .hdr 1 gv2 gv3 gv4 gv5 (some gv6)⟩, ⟨false, .flat 0 (.ints .i64 gv7)⟩]) (fun x9 => L0 (impl_IsGroupTable_sh.st0 table0 table1 gv2 gv3 gv4 gv5 gv6 gv7 x9)) ((impl_IsGroupTable_sh.k0 N K gv2 gv3 gv4 gv5 gv6 gv7) (.exit 0) (impl_IsGroupTable_sh.sx0_0 gv2 gv3 gv4 gv5 gv6 gv7)) table0 table1 gv3 gv4 gv5 gv6 gv7 x9) := by
  have h := impl_IsGroupTable_sh.b0_gen N K L0 (impl_IsGroupTable_sh.k0 N K gv2 gv3 gv4 gv5 gv6 gv7) table0 table1 gv2 gv3 gv4 gv5 gv6 gv7 x9
  rw [impl_IsGroupTable_sh.k0_mix] at h
  exact h

theorem impl_IsGroupTable_sh.a0_0_eq {ρ : Type} (N : Nat) (K : AV → Heap → Option ρ) (gv2 : Nat) (gv3 : Nat) (gv4 : Nat → Nat) (gv5 : Nat → Nat) (gv6 : Nat → Nat) (gv7 : Nat → Int) :
    (impl_IsGroupTable_sh.k0 N K gv2 gv3 gv4 gv5 gv6 gv7) (.exit 0) (impl_IsGroupTable_sh.sx0_0 gv2 gv3 gv4 gv5 gv6 gv7) = (impl_IsGroupTable_sh.a0_0 N (fun d0 => K (.bool (d0)) [⟨false, .hdr 1 gv2 gv3 gv4 gv5 (some gv6)⟩, ⟨false, .flat 0 (.ints .i64 gv7)⟩])) := by kernel_rfl

theorem impl_IsGroupTable_sh.l0_eq {ρ : Type} (N : Nat) (K : AV → Heap → Option ρ) (table0 : Nat) (table1 : Nat) (gv2 : Nat) (gv3 : Nat) (gv4 : Nat → Nat) (gv5 : Nat → Nat) (gv6 : Nat → Nat) (gv7 : Nat → Int) :
    ∀ (m : Nat) (x9 : Int), xloop (xcode (E15 N) ents impl_IsGroupTable_sh.kp 2 N (cL (cK (cB (cA (cB (cB impl_IsGroupTable_sh.bd)))))) 0) impl_IsGroupTable_sh.kp 2 0 m (impl_IsGroupTable_sh.st0 table0 table1 gv2 gv3 gv4 gv5 gv6 gv7 x9) (impl_IsGroupTable_sh.k0 N K gv2 gv3 gv4 gv5 gv6 gv7) = (impl_IsGroupTable_sh.l0 N (fun d0 => K (.bool (d0)) [⟨false, .hdr 1 gv2 gv3 gv4 gv5 (some gv6)⟩, ⟨false, .flat 0 (.ints .i64 gv7)⟩]) table0 table1 gv3 gv4 gv5 gv6 gv7 ((impl_IsGroupTable_sh.k0 N K gv2 gv3 gv4 gv5 gv6 gv7) (.exit 0) (impl_IsGroupTable_sh.sx0_0 gv2 gv3 gv4 gv5 gv6 gv7)) m x9) := by
  intro m
  induction m with
  | zero => intros; rfl
  | succ m ih =>
    intro x9
    refine (impl_IsGroupTable_sh.b0_eq N K (fun s => xloop (xcode (E15 N) ents impl_IsGroupTable_sh.kp 2 N (cL (cK (cB (cA (cB (cB impl_IsGroupTable_sh.bd)))))) 0) impl_IsGroupTable_sh.kp 2 0 m s (impl_IsGroupTable_sh.k0 N K gv2 gv3 gv4 gv5 gv6 gv7)) table0 table1 gv2 gv3 gv4 gv5 gv6 gv7 x9).trans ?_
    simp only [ih]
    kernel_rfl

theorem impl_IsGroupTable_sh.s_eq {ρ : Type} (N : Nat) (K : AV → Heap → Option ρ) (table0 : Nat) (table1 : Nat) (gv2 : Nat) (gv3 : Nat) (gv4 : Nat → Nat) (gv5 : Nat → Nat) (gv6 : Nat → Nat) (gv7 : Nat → Int) :
    xbody (E15 N) ents impl_IsGroupTable_sh.kp N Go.Proofs.Try.f11 impl_IsGroupTable_sh.bd [.slice true 0 0 table0 (.exact table1) 1] [⟨false, .hdr 1 gv2 gv3 gv4 gv5 (some gv6)⟩, ⟨false, .flat 0 (.ints .i64 gv7)⟩] K = (impl_IsGroupTable_sh.s N (fun d0 => K (.bool (d0)) [⟨false, .hdr 1 gv2 gv3 gv4 gv5 (some gv6)⟩, ⟨false, .flat 0 (.ints .i64 gv7)⟩]) (fun x9 => xloop (xcode (E15 N) ents impl_IsGroupTable_sh.kp 2 N (cL (cK (cB (cA (cB (cB impl_IsGroupTable_sh.bd)))))) 0) impl_IsGroupTable_sh.kp 2 0 N (impl_IsGroupTable_sh.st0 table0 table1 gv2 gv3 gv4 gv5 gv6 gv7 x9) (impl_IsGroupTable_sh.k0 N K gv2 gv3 gv4 gv5 gv6 gv7)) table0 table1 gv3 gv4 gv5 gv6 gv7) := by kernel_rfl

theorem impl_IsGroupTable_sh.eq {ρ : Type} (N : Nat) (K : AV → Heap → Option ρ) (table0 : Nat) (table1 : Nat) (gv2 : Nat) (gv3 : Nat) (gv4 : Nat → Nat) (gv5 : Nat → Nat) (gv6 : Nat → Nat) (gv7 : Nat → Int) :
    xbody (E15 N) ents impl_IsGroupTable_sh.kp N Go.Proofs.Try.f11 impl_IsGroupTable_sh.bd [.slice true 0 0 table0 (.exact table1) 1] [⟨false, .hdr 1 gv2 gv3 gv4 gv5 (some gv6)⟩, ⟨false, .flat 0 (.ints .i64 gv7)⟩] K = (impl_IsGroupTable_sh N (fun d0 => K (.bool (d0)) [⟨false, .hdr 1 gv2 gv3 gv4 gv5 (some gv6)⟩, ⟨false, .flat 0 (.ints .i64 gv7)⟩]) table0 table1 gv2 gv3 gv4 gv5 gv6 gv7) := by
  refine (impl_IsGroupTable_sh.s_eq N K table0 table1 gv2 gv3 gv4 gv5 gv6 gv7).trans ?_
  simp only [impl_IsGroupTable_sh.l0_eq, impl_IsGroupTable_sh.a0_0_eq]
  kernel_rfl

noncomputable def impl_IsGroupTable_n.kp : Keeps := ⟨[(0, [0, 8, 9], [], [])], [(0, [], [], [])], []⟩

noncomputable def impl_IsGroupTable_n.bd : Code := bodyOf Go.Proofs.Try.f11

noncomputable def impl_IsGroupTable_n.fin {ρ : Type} (N : Nat) (K : AV → Heap → Option ρ) : XE → St → Option ρ := finK (E15 N) impl_IsGroupTable_n.kp.fins Go.Proofs.Try.f11 [] K

noncomputable def impl_IsGroupTable_n.k0 {ρ : Type} (N : Nat) (K : AV → Heap → Option ρ) : XE → St → Option ρ := (blockK impl_IsGroupTable_n.kp 0 0 (seqK (xcode (E15 N) ents impl_IsGroupTable_n.kp 0 N (cB (cB (cB impl_IsGroupTable_n.bd))) 0) (impl_IsGroupTable_n.fin N K)))

theorem impl_IsGroupTable_n.k0_mix {ρ : Type} (N : Nat) (K : AV → Heap → Option ρ) : mixK (impl_IsGroupTable_n.fin N K .ret) (impl_IsGroupTable_n.k0 N K) = (impl_IsGroupTable_n.k0 N K) := by
  funext e s; cases e <;> kernel_rfl

noncomputable def impl_IsGroupTable_n.st0 : St := ⟨sl 17 [(0, .nils), (8, .int .i64 0), (9, .int .i64 0)], []⟩

noncomputable def impl_IsGroupTable_n.sx0_0 : St := ⟨sl 17 [], []⟩

theorem impl_IsGroupTable_n.b0_gen {ρ : Type} (N : Nat) (K : AV → Heap → Option ρ) (L0 : St → Option ρ) (kv : XE → St → Option ρ) :
    xcode (E15 N) ents impl_IsGroupTable_n.kp 0 N (cL (cK (cB (cA (cB (cB impl_IsGroupTable_n.bd)))))) 0 (impl_IsGroupTable_n.st0) (roundK impl_IsGroupTable_n.kp 0 0 L0 (mixK (impl_IsGroupTable_n.fin N K .ret) kv)) = (impl_IsGroupTable_n.b0 N (fun d0 => K (.bool (d0)) []) (L0 (impl_IsGroupTable_n.st0)) (kv (.exit 0) (impl_IsGroupTable_n.sx0_0))) := by kernel_rfl

theorem impl_IsGroupTable_n.b0_eq {ρ : Type} (N : Nat) (K : AV → Heap → Option ρ) (L0 : St → Option ρ) :
    xcode (E15 N) ents impl_IsGroupTable_n.kp 0 N (cL (cK (cB (cA (cB (cB impl_IsGroupTable_n.bd)))))) 0 (impl_IsGroupTable_n.st0) (roundK impl_IsGroupTable_n.kp 0 0 L0 (impl_IsGroupTable_n.k0 N K)) = (impl_IsGroupTable_n.b0 N (fun d0 => K (.bool (d0)) []) (L0 (impl_IsGroupTable_n.st0)) ((impl_IsGroupTable_n.k0 N K) (.exit 0) (impl_IsGroupTable_n.sx0_0))) := by
  have h := impl_IsGroupTable_n.b0_gen N K L0 (impl_IsGroupTable_n.k0 N K) 
  rw [impl_IsGroupTable_n.k0_mix] at h
  exact h

theorem impl_IsGroupTable_n.a0_0_eq {ρ : Type} (N : Nat) (K : AV → Heap → Option ρ) :
    (impl_IsGroupTable_n.k0 N K) (.exit 0) (impl_IsGroupTable_n.sx0_0) = (impl_IsGroupTable_n.a0_0 N (fun d0 => K (.bool (d0)) [])) := by kernel_rfl

theorem impl_IsGroupTable_n.l0_eq {ρ : Type} (N : Nat) (K : AV → Heap → Option ρ) :
    ∀ (m : Nat), xloop (xcode (E15 N) ents impl_IsGroupTable_n.kp 0 N (cL (cK (cB (cA (cB (cB impl_IsGroupTable_n.bd)))))) 0) impl_IsGroupTable_n.kp 0 0 m (impl_IsGroupTable_n.st0) (impl_IsGroupTable_n.k0 N K) = (impl_IsGroupTable_n.l0 N (fun d0 => K (.bool (d0)) []) ((impl_IsGroupTable_n.k0 N K) (.exit 0) (impl_IsGroupTable_n.sx0_0)) m) := by
  intro m
  induction m with
  | zero => intros; rfl
  | succ m ih =>
    refine (impl_IsGroupTable_n.b0_eq N K (fun s => xloop (xcode (E15 N) ents impl_IsGroupTable_n.kp 0 N (cL (cK (cB (cA (cB (cB impl_IsGroupTable_n.bd)))))) 0) impl_IsGroupTable_n.kp 0 0 m s (impl_IsGroupTable_n.k0 N K)) ).trans ?_
    simp only [ih]
    kernel_rfl

theorem impl_IsGroupTable_n.s_eq {ρ : Type} (N : Nat) (K : AV → Heap → Option ρ) :
    xbody (E15 N) ents impl_IsGroupTable_n.kp N Go.Proofs.Try.f11 impl_IsGroupTable_n.bd [.nils] [] K = (impl_IsGroupTable_n.s N (fun d0 => K (.bool (d0)) []) (xloop (xcode (E15 N) ents impl_IsGroupTable_n.kp 0 N (cL (cK (cB (cA (cB (cB impl_IsGroupTable_n.bd)))))) 0) impl_IsGroupTable_n.kp 0 0 N (impl_IsGroupTable_n.st0) (impl_IsGroupTable_n.k0 N K))) := by kernel_rfl

theorem impl_IsGroupTable_n.eq {ρ : Type} (N : Nat) (K : AV → Heap → Option ρ) :
    xbody (E15 N) ents impl_IsGroupTable_n.kp N Go.Proofs.Try.f11 impl_IsGroupTable_n.bd [.nils] [] K = (impl_IsGroupTable_n N (fun d0 => K (.bool (d0)) [])) := by
  refine (impl_IsGroupTable_n.s_eq N K ).trans ?_
  simp only [impl_IsGroupTable_n.l0_eq, impl_IsGroupTable_n.a0_0_eq]
  kernel_rfl

noncomputable def impl_IsGroupTable_sh.en (N : Nat) (ρ : Type) : List AV → Heap → (AV → Heap → Option ρ) → Option ρ
  | [.slice true 0 0 table0 (.exact table1) 1], [⟨false, .hdr 1 gv2 gv3 gv4 gv5 (some gv6)⟩, ⟨false, .flat 0 (.ints .i64 gv7)⟩], K => (impl_IsGroupTable_sh N (fun d0 => K (.bool (d0)) [⟨false, .hdr 1 gv2 gv3 gv4 gv5 (some gv6)⟩, ⟨false, .flat 0 (.ints .i64 gv7)⟩]) table0 table1 gv2 gv3 gv4 gv5 gv6 gv7)
  | [.nils], [], K => (impl_IsGroupTable_n N (fun d0 => K (.bool (d0)) []))
  | _, _, _ => none

theorem impl_IsGroupTable_sh.en_ok (N : Nat) (hE : EnvOk (E15 N) ents) (ρ : Type) (args : List AV) (sh : Heap) (K : AV → Heap → Option ρ) (r : ρ) (h : impl_IsGroupTable_sh.en N ρ args sh K = some r) : ∃ v sh', K v sh' = some r ∧ FnOk (E15 N).P 11 args sh v sh' := by
  unfold impl_IsGroupTable_sh.en at h
  split at h
  · exact fn_ok hE (kp := impl_IsGroupTable_sh.kp) (N := N) Go.Proofs.Try.func11 (c := impl_IsGroupTable_sh.bd) (by kernel_rfl) ((impl_IsGroupTable_sh.eq N _ _ _ _ _ _ _ _ _).trans h)
  · exact fn_ok hE (kp := impl_IsGroupTable_n.kp) (N := N) Go.Proofs.Try.func11 (c := impl_IsGroupTable_n.bd) (by kernel_rfl) ((impl_IsGroupTable_n.eq N _ ).trans h)
  · cases h

noncomputable def E16 (N : Nat) : Env := (E15 N).add 11 (impl_IsGroupTable_sh.en N)

theorem E16_ok (N : Nat) : EnvOk (E16 N) ents := Env.add_ok (E15_ok N) (impl_IsGroupTable_sh.en_ok N (E15_ok N))

noncomputable def impl_OrdersIn_sh.kp : Keeps := ⟨[(0, [0, 4, 13, 14], [], []), (2, [0, 4, 5, 6, 7, 13, 14], [], [])], [(0, [4], [], []), (2, [0, 4, 6, 13, 14], [], [])], [(.slot 2, .unk (.ints .i64 (fun _ => 0)) 1)]⟩

noncomputable def impl_OrdersIn_sh.bd : Code := bodyOf Go.Proofs.Try.f16

noncomputable def impl_OrdersIn_sh.fin {ρ : Type} (N : Nat) (K : AV → Heap → Option ρ) (gv2 : Nat) (gv3 : Nat) (gv4 : Nat → Nat) (gv5 : Nat → Nat) (gv6 : Nat → Nat) (gv7 : Nat → Int) : XE → St → Option ρ := finK (E16 N) impl_OrdersIn_sh.kp.fins Go.Proofs.Try.f16 [⟨false, .hdr 1 gv2 gv3 gv4 gv5 (some gv6)⟩, ⟨false, .flat 0 (.ints .i64 gv7)⟩] K

noncomputable def impl_OrdersIn_sh.k0 {ρ : Type} (N : Nat) (K : AV → Heap → Option ρ) (gv2 : Nat) (gv3 : Nat) (gv4 : Nat → Nat) (gv5 : Nat → Nat) (gv6 : Nat → Nat) (gv7 : Nat → Int) : XE → St → Option ρ := (blockK impl_OrdersIn_sh.kp 2 0 (seqK (xcode (E16 N) ents impl_OrdersIn_sh.kp 2 N (cB (cB (cB (cB impl_OrdersIn_sh.bd)))) 0) (impl_OrdersIn_sh.fin N K gv2 gv3 gv4 gv5 gv6 gv7)))

theorem impl_OrdersIn_sh.k0_mix {ρ : Type} (N : Nat) (K : AV → Heap → Option ρ) (gv2 : Nat) (gv3 : Nat) (gv4 : Nat → Nat) (gv5 : Nat → Nat) (gv6 : Nat → Nat) (gv7 : Nat → Int) : mixK (impl_OrdersIn_sh.fin N K gv2 gv3 gv4 gv5 gv6 gv7 .ret) (impl_OrdersIn_sh.k0 N K gv2 gv3 gv4 gv5 gv6 gv7) = (impl_OrdersIn_sh.k0 N K gv2 gv3 gv4 gv5 gv6 gv7) := by
  funext e s; cases e <;> kernel_rfl

noncomputable def impl_OrdersIn_sh.st0 (table0 : Nat) (table1 : Nat) (gv2 : Nat) (gv3 : Nat) (gv4 : Nat → Nat) (gv5 : Nat → Nat) (gv6 : Nat → Nat) (gv7 : Nat → Int) (outv9 : Nat) (x10 : Int) (gv11 : Nat → Int) : St := ⟨sl 35 [(0, .slice true 0 0 table0 (.exact table1) 1), (4, .slice true 2 0 outv9 .whole 1), (13, .int .i64 ((table0 : Int))), (14, .int .i64 (x10))], [⟨false, .hdr 1 gv2 gv3 gv4 gv5 (some gv6)⟩, ⟨false, .flat 0 (.ints .i64 gv7)⟩, ⟨true, .flat 0 (.ints .i64 gv11)⟩]⟩

noncomputable def impl_OrdersIn_sh.sx0_0 (gv2 : Nat) (gv3 : Nat) (gv4 : Nat → Nat) (gv5 : Nat → Nat) (gv6 : Nat → Nat) (gv7 : Nat → Int) (ov15 : Nat) (ov16 : Nat → Int) : St := ⟨sl 35 [(4, .slice true 2 0 ov15 .whole 1)], [⟨false, .hdr 1 gv2 gv3 gv4 gv5 (some gv6)⟩, ⟨false, .flat 0 (.ints .i64 gv7)⟩, ⟨true, .flat 0 (.ints .i64 ov16)⟩]⟩

noncomputable def impl_OrdersIn_sh.k1g {ρ : Type} (N : Nat) (L0 : St → Option ρ) (kv : XE → St → Option ρ) : XE → St → Option ρ := (blockK impl_OrdersIn_sh.kp 2 2 (seqK (xcode (E16 N) ents impl_OrdersIn_sh.kp 2 N (cB (cB (cB (cK (cA (cB (cB (cL (cK (cB (cA (cB (cB (cB impl_OrdersIn_sh.bd)))))))))))))) 1) (blockK impl_OrdersIn_sh.kp 2 1 (seqK (xcode (E16 N) ents impl_OrdersIn_sh.kp 2 N (cB (cB (cB (cL (cK (cB (cA (cB (cB (cB impl_OrdersIn_sh.bd)))))))))) 0) (roundK impl_OrdersIn_sh.kp 2 0 L0 kv)))))

theorem impl_OrdersIn_sh.k1_mix {ρ : Type} (N : Nat) (K : AV → Heap → Option ρ) (L0 : St → Option ρ) (gv2 : Nat) (gv3 : Nat) (gv4 : Nat → Nat) (gv5 : Nat → Nat) (gv6 : Nat → Nat) (gv7 : Nat → Int) : mixK (impl_OrdersIn_sh.fin N K gv2 gv3 gv4 gv5 gv6 gv7 .ret) (impl_OrdersIn_sh.k1g N L0 (impl_OrdersIn_sh.k0 N K gv2 gv3 gv4 gv5 gv6 gv7)) = (impl_OrdersIn_sh.k1g N L0 (impl_OrdersIn_sh.k0 N K gv2 gv3 gv4 gv5 gv6 gv7)) := by
  funext e s; cases e <;> kernel_rfl

noncomputable def impl_OrdersIn_sh.st1 (table0 : Nat) (table1 : Nat) (gv2 : Nat) (gv3 : Nat) (gv4 : Nat → Nat) (gv5 : Nat → Nat) (gv6 : Nat → Nat) (gv7 : Nat → Int) (outv9 : Nat) (x10 : Int) (gv11 : Nat → Int) (k12 : Int) (x13 : Int) : St := ⟨sl 35 [(0, .slice true 0 0 table0 (.exact table1) 1), (4, .slice true 2 0 outv9 .whole 1), (5, .int .i64 (x10)), (6, .int .i64 (k12)), (7, .int .i64 (x13)), (13, .int .i64 ((table0 : Int))), (14, .int .i64 (x10))], [⟨false, .hdr 1 gv2 gv3 gv4 gv5 (some gv6)⟩, ⟨false, .flat 0 (.ints .i64 gv7)⟩, ⟨true, .flat 0 (.ints .i64 gv11)⟩]⟩

noncomputable def impl_OrdersIn_sh.sx1_0 (table0 : Nat) (table1 : Nat) (gv2 : Nat) (gv3 : Nat) (gv4 : Nat → Nat) (gv5 : Nat → Nat) (gv6 : Nat → Nat) (gv7 : Nat → Int) (outv9 : Nat) (x10 : Int) (gv11 : Nat → Int) (ov14 : Int) : St := ⟨sl 35 [(0, .slice true 0 0 table0 (.exact table1) 1), (4, .slice true 2 0 outv9 .whole 1), (6, .int .i64 (ov14)), (13, .int .i64 ((table0 : Int))), (14, .int .i64 (x10))], [⟨false, .hdr 1 gv2 gv3 gv4 gv5 (some gv6)⟩, ⟨false, .flat 0 (.ints .i64 gv7)⟩, ⟨true, .flat 0 (.ints .i64 gv11)⟩]⟩

theorem impl_OrdersIn_sh.b1_gen {ρ : Type} (N : Nat) (K : AV → Heap → Option ρ) (L1 : St → Option ρ) (kv : XE → St → Option ρ) (table0 : Nat) (table1 : Nat) (gv2 : Nat) (gv3 : Nat) (gv4 : Nat → Nat) (gv5 : Nat → Nat) (gv6 : Nat → Nat) (gv7 : Nat → Int) (outv9 : Nat) (x10 : Int) (gv11 : Nat → Int) (k12 : Int) (x13 : Int) :
    xcode (E16 N) ents impl_OrdersIn_sh.kp 2 N (cL (cK (cB (cA (cB (cB (cK (cA (cB (cB (cL (cK (cB (cA (cB (cB (cB impl_OrdersIn_sh.bd))))))))))))))))) 2 (impl_OrdersIn_sh.st1 table0 table1 gv2 gv3 gv4 gv5 gv6 gv7 outv9 x10 gv11 k12 x13) (roundK impl_OrdersIn_sh.kp 2 2 L1 (mixK (impl_OrdersIn_sh.fin N K gv2 gv3 gv4 gv5 gv6 gv7 .ret) kv)) = (impl_OrdersIn_sh.b1 N (fun d0 d1 d2 => K (.tup [.slice false 2 0 d0 .unk 1, .int .i64 (d1)]) [⟨false, .hdr 1 gv2 gv3 gv4 gv5 (some gv6)⟩, ⟨false, .flat 0 (.ints .i64 gv7)⟩, ⟨true, .flat 0 (.ints .i64 d2)⟩]) (fun k12 x13 => L1 (impl_OrdersIn_sh.st1 table0 table1 gv2 gv3 gv4 gv5 gv6 gv7 outv9 x10 gv11 k12 x13)) (fun ov14 => kv (.exit 2) (impl_OrdersIn_sh.sx1_0 table0 table1 gv2 gv3 gv4 gv5 gv6 gv7 outv9 x10 gv11 ov14)) table0 gv4 gv5 gv7 x10 k12 x13) := by kernel_rfl

theorem impl_OrdersIn_sh.b1_eq {ρ : Type} (N : Nat) (K : AV → Heap → Option ρ) (L0 : St → Option ρ) (L1 : St → Option ρ) (table0 : Nat) (table1 : Nat) (gv2 : Nat) (gv3 : Nat) (gv4 : Nat → Nat) (gv5 : Nat → Nat) (gv6 : Nat → Nat) (gv7 : Nat → Int) (outv9 : Nat) (x10 : Int) (gv11 : Nat → Int) (k12 : Int) (x13 : Int) :
    xcode (E16 N) ents impl_OrdersIn_sh.kp 2 N (cL (cK (cB (cA (cB (cB (cK (cA (cB (cB (cL (cK (cB (cA (cB (cB (cB impl_OrdersIn_sh.bd))))))))))))))))) 2 (impl_OrdersIn_sh.st1 table0 table1 gv2 gv3 gv4 gv5 gv6 gv7 outv9 x10 gv11 k12 x13) (roundK impl_OrdersIn_sh.kp 2 2 L1 (impl_OrdersIn_sh.k1g N L0 (impl_OrdersIn_sh.k0 N K gv2 gv3 gv4 gv5 gv6 gv7))) = (impl_OrdersIn_sh.b1 N (fun d0 d1 d2 => K (.tup [.slice false 2 0 d0 .unk 1, .int .i64 (d1)]) [⟨false, .hdr 1 gv2 gv3 gv4 gv5 (some gv6)⟩, ⟨false, .flat 0 (.ints .i64 gv7)⟩, ⟨true, .flat 0 (.ints .i64 d2)⟩]) (fun k12 x13 => L1 (impl_OrdersIn_sh.st1 table0 table1 gv2 gv3 gv4 gv5 gv6 gv7 outv9 x10 gv11 k12 x13)) (fun ov14 => (impl_OrdersIn_sh.k1g N L0 (impl_OrdersIn_sh.k0 N K gv2 gv3 gv4 gv5 gv6 gv7)) (.exit 2) (impl_OrdersIn_sh.sx1_0 table0 table1 gv2 gv3 gv4 gv5 gv6 gv7 outv9 x10 gv11 ov14)) table0 gv4 gv5 gv7 x10 k12 x13) := by
  have h := impl_OrdersIn_sh.b1_gen N K L1 (impl_OrdersIn_sh.k1g N L0 (impl_OrdersIn_sh.k0 N K gv2 gv3 gv4 gv5 gv6 gv7)) table0 table1 gv2 gv3 gv4 gv5 gv6 gv7 outv9 x10 gv11 k12 x13
  rw [impl_OrdersIn_sh.k1_mix] at h
  exact h

theorem impl_OrdersIn_sh.a1_0_gen {ρ : Type} (N : Nat) (K : AV → Heap → Option ρ) (L0 : St → Option ρ) (kv : XE → St → Option ρ) (table0 : Nat) (table1 : Nat) (gv2 : Nat) (gv3 : Nat) (gv4 : Nat → Nat) (gv5 : Nat → Nat) (gv6 : Nat → Nat) (gv7 : Nat → Int) (outv9 : Nat) (x10 : Int) (gv11 : Nat → Int) (ov14 : Int) :
    (impl_OrdersIn_sh.k1g N L0 (mixK (impl_OrdersIn_sh.fin N K gv2 gv3 gv4 gv5 gv6 gv7 .ret) kv)) (.exit 2) (impl_OrdersIn_sh.sx1_0 table0 table1 gv2 gv3 gv4 gv5 gv6 gv7 outv9 x10 gv11 ov14) = (impl_OrdersIn_sh.a1_0 N (fun d0 d1 d2 => K (.tup [.slice false 2 0 d0 .unk 1, .int .i64 (d1)]) [⟨false, .hdr 1 gv2 gv3 gv4 gv5 (some gv6)⟩, ⟨false, .flat 0 (.ints .i64 gv7)⟩, ⟨true, .flat 0 (.ints .i64 d2)⟩]) (fun outv9 x10 gv11 => L0 (impl_OrdersIn_sh.st0 table0 table1 gv2 gv3 gv4 gv5 gv6 gv7 outv9 x10 gv11)) (fun ov15 ov16 => kv (.exit 0) (impl_OrdersIn_sh.sx0_0 gv2 gv3 gv4 gv5 gv6 gv7 ov15 ov16)) outv9 x10 gv11 ov14) := by kernel_rfl

theorem impl_OrdersIn_sh.a1_0_eq {ρ : Type} (N : Nat) (K : AV → Heap → Option ρ) (L0 : St → Option ρ) (table0 : Nat) (table1 : Nat) (gv2 : Nat) (gv3 : Nat) (gv4 : Nat → Nat) (gv5 : Nat → Nat) (gv6 : Nat → Nat) (gv7 : Nat → Int) (outv9 : Nat) (x10 : Int) (gv11 : Nat → Int) (ov14 : Int) :
    (impl_OrdersIn_sh.k1g N L0 (impl_OrdersIn_sh.k0 N K gv2 gv3 gv4 gv5 gv6 gv7)) (.exit 2) (impl_OrdersIn_sh.sx1_0 table0 table1 gv2 gv3 gv4 gv5 gv6 gv7 outv9 x10 gv11 ov14) = (impl_OrdersIn_sh.a1_0 N (fun d0 d1 d2 => K (.tup [.slice false 2 0 d0 .unk 1, .int .i64 (d1)]) [⟨false, .hdr 1 gv2 gv3 gv4 gv5 (some gv6)⟩, ⟨false, .flat 0 (.ints .i64 gv7)⟩, ⟨true, .flat 0 (.ints .i64 d2)⟩]) (fun outv9 x10 gv11 => L0 (impl_OrdersIn_sh.st0 table0 table1 gv2 gv3 gv4 gv5 gv6 gv7 outv9 x10 gv11)) (fun ov15 ov16 => (impl_OrdersIn_sh.k0 N K gv2 gv3 gv4 gv5 gv6 gv7) (.exit 0) (impl_OrdersIn_sh.sx0_0 gv2 gv3 gv4 gv5 gv6 gv7 ov15 ov16)) outv9 x10 gv11 ov14) := by
  have h := impl_OrdersIn_sh.a1_0_gen N K L0 (impl_OrdersIn_sh.k0 N K gv2 gv3 gv4 gv5 gv6 gv7) table0 table1 gv2 gv3 gv4 gv5 gv6 gv7 outv9 x10 gv11 ov14
  rw [impl_OrdersIn_sh.k0_mix] at h
  exact h

theorem impl_OrdersIn_sh.b0_gen {ρ : Type} (N : Nat) (K : AV → Heap → Option ρ) (L0 : St → Option ρ) (kv : XE → St → Option ρ) (table0 : Nat) (table1 : Nat) (gv2 : Nat) (gv3 : Nat) (gv4 : Nat → Nat) (gv5 : Nat → Nat) (gv6 : Nat → Nat) (gv7 : Nat → Int) (outv9 : Nat) (x10 : Int) (gv11 : Nat → Int) :
    xcode (E16 N) ents impl_OrdersIn_sh.kp 2 N (cL (cK (cB (cA (cB (cB (cB impl_OrdersIn_sh.bd))))))) 0 (impl_OrdersIn_sh.st0 table0 table1 gv2 gv3 gv4 gv5 gv6 gv7 outv9 x10 gv11) (roundK impl_OrdersIn_sh.kp 2 0 L0 (mixK (impl_OrdersIn_sh.fin N K gv2 gv3 gv4 gv5 gv6 gv7 .ret) kv)) = (impl_OrdersIn_sh.b0 N (fun d0 d1 d2 => K (.tup [.slice false 2 0 d0 .unk 1, .int .i64 (d1)]) [⟨false, .hdr 1 gv2 gv3 gv4 gv5 (some gv6)⟩, ⟨false, .flat 0 (.ints .i64 gv7)⟩, ⟨true, .flat 0 (.ints .i64 d2)⟩]) (fun k12 x13 => xloop (xcode (E16 N) ents impl_OrdersIn_sh.kp 2 N (cL (cK (cB (cA (cB (cB (cK (cA (cB (cB (cL (cK (cB (cA (cB (cB (cB impl_OrdersIn_sh.bd))))))))))))))))) 2) impl_OrdersIn_sh.kp 2 2 N (impl_OrdersIn_sh.st1 table0 table1 gv2 gv3 gv4 gv5 gv6 gv7 outv9 x10 gv11 k12 x13) (impl_OrdersIn_sh.k1g N L0 (mixK (impl_OrdersIn_sh.fin N K gv2 gv3 gv4 gv5 gv6 gv7 .ret) kv))) (fun outv9 x10 gv11 => L0 (impl_OrdersIn_sh.st0 table0 table1 gv2 gv3 gv4 gv5 gv6 gv7 outv9 x10 gv11)) (fun ov15 ov16 => kv (.exit 0) (impl_OrdersIn_sh.sx0_0 gv2 gv3 gv4 gv5 gv6 gv7 ov15 ov16)) table0 outv9 x10 gv11) := by kernel_rfl

theorem impl_OrdersIn_sh.b0_eq {ρ : Type} (N : Nat) (K : AV → Heap → Option ρ) (L0 : St → Option ρ) (table0 : Nat) (table1 : Nat) (gv2 : Nat) (gv3 : Nat) (gv4 : Nat → Nat) (gv5 : Nat → Nat) (gv6 : Nat → Nat) (gv7 : Nat → Int) (outv9 : Nat) (x10 : Int) (gv11 : Nat → Int) :
    xcode (E16 N) ents impl_OrdersIn_sh.kp 2 N (cL (cK (cB (cA (cB (cB (cB impl_OrdersIn_sh.bd))))))) 0 (impl_OrdersIn_sh.st0 table0 table1 gv2 gv3 gv4 gv5 gv6 gv7 outv9 x10 gv11) (roundK impl_OrdersIn_sh.kp 2 0 L0 (impl_OrdersIn_sh.k0 N K gv2 gv3 gv4 gv5 gv6 gv7)) = (impl_OrdersIn_sh.b0 N (fun d0 d1 d2 => K (.tup [.slice false 2 0 d0 .unk 1, .int .i64 (d1)]) [⟨false, .hdr 1 gv2 gv3 gv4 gv5 (some gv6)⟩, ⟨false, .flat 0 (.ints .i64 gv7)⟩, ⟨true, .flat 0 (.ints .i64 d2)⟩]) (fun k12 x13 => xloop (xcode (E16 N) ents impl_OrdersIn_sh.kp 2 N (cL (cK (cB (cA (cB (cB (cK (cA (cB (cB (cL (cK (cB (cA (cB (cB (cB impl_OrdersIn_sh.bd))))))))))))))))) 2) impl_OrdersIn_sh.kp 2 2 N (impl_OrdersIn_sh.st1 table0 table1 gv2 gv3 gv4 gv5 gv6 gv7 outv9 x10 gv11 k12 x13) (impl_OrdersIn_sh.k1g N L0 (impl_OrdersIn_sh.k0 N K gv2 gv3 gv4 gv5 gv6 gv7))) (fun outv9 x10 gv11 => L0 (impl_OrdersIn_sh.st0 table0 table1 gv2 gv3 gv4 gv5 gv6 gv7 outv9 x10 gv11)) (fun ov15 ov16 => (impl_OrdersIn_sh.k0 N K gv2 gv3 gv4 gv5 gv6 gv7) (.exit 0) (impl_OrdersIn_sh.sx0_0 gv2 gv3 gv4 gv5 gv6 gv7 ov15 ov16)) table0 outv9 x10 gv11) := by
  have h := impl_OrdersIn_sh.b0_gen N K L0 (impl_OrdersIn_sh.k0 N K gv2 gv3 gv4 gv5 gv6 gv7) table0 table1 gv2 gv3 gv4 gv5 gv6 gv7 outv9 x10 gv11
  rw [impl_OrdersIn_sh.k0_mix] at h
  exact h

theorem impl_OrdersIn_sh.a0_0_eq {ρ : Type} (N : Nat) (K : AV → Heap → Option ρ) (gv2 : Nat) (gv3 : Nat) (gv4 : Nat → Nat) (gv5 : Nat → Nat) (gv6 : Nat → Nat) (gv7 : Nat → Int) (ov15 : Nat) (ov16 : Nat → Int) :
    (impl_OrdersIn_sh.k0 N K gv2 gv3 gv4 gv5 gv6 gv7) (.exit 0) (impl_OrdersIn_sh.sx0_0 gv2 gv3 gv4 gv5 gv6 gv7 ov15 ov16) = (impl_OrdersIn_sh.a0_0 N (fun d0 d1 d2 => K (.tup [.slice false 2 0 d0 .unk 1, .int .i64 (d1)]) [⟨false, .hdr 1 gv2 gv3 gv4 gv5 (some gv6)⟩, ⟨false, .flat 0 (.ints .i64 gv7)⟩, ⟨true, .flat 0 (.ints .i64 d2)⟩]) ov15 ov16) := by kernel_rfl

theorem impl_OrdersIn_sh.l1_eq {ρ : Type} (N : Nat) (K : AV → Heap → Option ρ) (L0 : St → Option ρ) (table0 : Nat) (table1 : Nat) (gv2 : Nat) (gv3 : Nat) (gv4 : Nat → Nat) (gv5 : Nat → Nat) (gv6 : Nat → Nat) (gv7 : Nat → Int) (outv9 : Nat) (x10 : Int) (gv11 : Nat → Int) :
    ∀ (m : Nat) (k12 : Int) (x13 : Int), xloop (xcode (E16 N) ents impl_OrdersIn_sh.kp 2 N (cL (cK (cB (cA (cB (cB (cK (cA (cB (cB (cL (cK (cB (cA (cB (cB (cB impl_OrdersIn_sh.bd))))))))))))))))) 2) impl_OrdersIn_sh.kp 2 2 m (impl_OrdersIn_sh.st1 table0 table1 gv2 gv3 gv4 gv5 gv6 gv7 outv9 x10 gv11 k12 x13) (impl_OrdersIn_sh.k1g N L0 (impl_OrdersIn_sh.k0 N K gv2 gv3 gv4 gv5 gv6 gv7)) = (impl_OrdersIn_sh.l1 N (fun d0 d1 d2 => K (.tup [.slice false 2 0 d0 .unk 1, .int .i64 (d1)]) [⟨false, .hdr 1 gv2 gv3 gv4 gv5 (some gv6)⟩, ⟨false, .flat 0 (.ints .i64 gv7)⟩, ⟨true, .flat 0 (.ints .i64 d2)⟩]) table0 gv4 gv5 gv7 x10 (fun ov14 => (impl_OrdersIn_sh.k1g N L0 (impl_OrdersIn_sh.k0 N K gv2 gv3 gv4 gv5 gv6 gv7)) (.exit 2) (impl_OrdersIn_sh.sx1_0 table0 table1 gv2 gv3 gv4 gv5 gv6 gv7 outv9 x10 gv11 ov14)) m k12 x13) := by
  intro m
  induction m with
  | zero => intros; rfl
  | succ m ih =>
    intro k12 x13
    refine (impl_OrdersIn_sh.b1_eq N K L0 (fun s => xloop (xcode (E16 N) ents impl_OrdersIn_sh.kp 2 N (cL (cK (cB (cA (cB (cB (cK (cA (cB (cB (cL (cK (cB (cA (cB (cB (cB impl_OrdersIn_sh.bd))))))))))))))))) 2) impl_OrdersIn_sh.kp 2 2 m s (impl_OrdersIn_sh.k1g N L0 (impl_OrdersIn_sh.k0 N K gv2 gv3 gv4 gv5 gv6 gv7))) table0 table1 gv2 gv3 gv4 gv5 gv6 gv7 outv9 x10 gv11 k12 x13).trans ?_
    simp only [ih]
    kernel_rfl

theorem impl_OrdersIn_sh.l0_eq {ρ : Type} (N : Nat) (K : AV → Heap → Option ρ) (table0 : Nat) (table1 : Nat) (gv2 : Nat) (gv3 : Nat) (gv4 : Nat → Nat) (gv5 : Nat → Nat) (gv6 : Nat → Nat) (gv7 : Nat → Int) :
    ∀ (m : Nat) (outv9 : Nat) (x10 : Int) (gv11 : Nat → Int), xloop (xcode (E16 N) ents impl_OrdersIn_sh.kp 2 N (cL (cK (cB (cA (cB (cB (cB impl_OrdersIn_sh.bd))))))) 0) impl_OrdersIn_sh.kp 2 0 m (impl_OrdersIn_sh.st0 table0 table1 gv2 gv3 gv4 gv5 gv6 gv7 outv9 x10 gv11) (impl_OrdersIn_sh.k0 N K gv2 gv3 gv4 gv5 gv6 gv7) = (impl_OrdersIn_sh.l0 N (fun d0 d1 d2 => K (.tup [.slice false 2 0 d0 .unk 1, .int .i64 (d1)]) [⟨false, .hdr 1 gv2 gv3 gv4 gv5 (some gv6)⟩, ⟨false, .flat 0 (.ints .i64 gv7)⟩, ⟨true, .flat 0 (.ints .i64 d2)⟩]) table0 gv4 gv5 gv7 (fun ov15 ov16 => (impl_OrdersIn_sh.k0 N K gv2 gv3 gv4 gv5 gv6 gv7) (.exit 0) (impl_OrdersIn_sh.sx0_0 gv2 gv3 gv4 gv5 gv6 gv7 ov15 ov16)) m outv9 x10 gv11) := by
  intro m
  induction m with
  | zero => intros; rfl
  | succ m ih =>
    intro outv9 x10 gv11
    refine (impl_OrdersIn_sh.b0_eq N K (fun s => xloop (xcode (E16 N) ents impl_OrdersIn_sh.kp 2 N (cL (cK (cB (cA (cB (cB (cB impl_OrdersIn_sh.bd))))))) 0) impl_OrdersIn_sh.kp 2 0 m s (impl_OrdersIn_sh.k0 N K gv2 gv3 gv4 gv5 gv6 gv7)) table0 table1 gv2 gv3 gv4 gv5 gv6 gv7 outv9 x10 gv11).trans ?_
    simp only [ih, impl_OrdersIn_sh.l1_eq, impl_OrdersIn_sh.a1_0_eq]
    kernel_rfl

theorem impl_OrdersIn_sh.s_eq {ρ : Type} (N : Nat) (K : AV → Heap → Option ρ) (table0 : Nat) (table1 : Nat) (gv2 : Nat) (gv3 : Nat) (gv4 : Nat → Nat) (gv5 : Nat → Nat) (gv6 : Nat → Nat) (gv7 : Nat → Int) :
    xbody (E16 N) ents impl_OrdersIn_sh.kp N Go.Proofs.Try.f16 impl_OrdersIn_sh.bd [.slice true 0 0 table0 (.exact table1) 1] [⟨false, .hdr 1 gv2 gv3 gv4 gv5 (some gv6)⟩, ⟨false, .flat 0 (.ints .i64 gv7)⟩] K = (impl_OrdersIn_sh.s N (fun d0 d1 d2 => K (.tup [.slice false 2 0 d0 .unk 1, .int .i64 (d1)]) [⟨false, .hdr 1 gv2 gv3 gv4 gv5 (some gv6)⟩, ⟨false, .flat 0 (.ints .i64 gv7)⟩, ⟨true, .flat 0 (.ints .i64 d2)⟩]) (fun outv9 x10 gv11 => xloop (xcode (E16 N) ents impl_OrdersIn_sh.kp 2 N (cL (cK (cB (cA (cB (cB (cB impl_OrdersIn_sh.bd))))))) 0) impl_OrdersIn_sh.kp 2 0 N (impl_OrdersIn_sh.st0 table0 table1 gv2 gv3 gv4 gv5 gv6 gv7 outv9 x10 gv11) (impl_OrdersIn_sh.k0 N K gv2 gv3 gv4 gv5 gv6 gv7)) table0 table1 gv3 gv4 gv5 gv6 gv7) := by kernel_rfl

theorem impl_OrdersIn_sh.eq {ρ : Type} (N : Nat) (K : AV → Heap → Option ρ) (table0 : Nat) (table1 : Nat) (gv2 : Nat) (gv3 : Nat) (gv4 : Nat → Nat) (gv5 : Nat → Nat) (gv6 : Nat → Nat) (gv7 : Nat → Int) :
    xbody (E16 N) ents impl_OrdersIn_sh.kp N Go.Proofs.Try.f16 impl_OrdersIn_sh.bd [.slice true 0 0 table0 (.exact table1) 1] [⟨false, .hdr 1 gv2 gv3 gv4 gv5 (some gv6)⟩, ⟨false, .flat 0 (.ints .i64 gv7)⟩] K = (impl_OrdersIn_sh N (fun d0 d1 d2 => K (.tup [.slice false 2 0 d0 .unk 1, .int .i64 (d1)]) [⟨false, .hdr 1 gv2 gv3 gv4 gv5 (some gv6)⟩, ⟨false, .flat 0 (.ints .i64 gv7)⟩, ⟨true, .flat 0 (.ints .i64 d2)⟩]) table0 table1 gv2 gv3 gv4 gv5 gv6 gv7) := by
  refine (impl_OrdersIn_sh.s_eq N K table0 table1 gv2 gv3 gv4 gv5 gv6 gv7).trans ?_
  simp only [impl_OrdersIn_sh.l0_eq, impl_OrdersIn_sh.a0_0_eq]
  kernel_rfl

noncomputable def impl_OrdersIn_n.kp : Keeps := ⟨[(0, [0, 4, 13, 14], [], [])], [(0, [4], [], [])], [(.slot 2, .unk (.ints .i64 (fun _ => 0)) 1)]⟩

noncomputable def impl_OrdersIn_n.bd : Code := bodyOf Go.Proofs.Try.f16

noncomputable def impl_OrdersIn_n.fin {ρ : Type} (N : Nat) (K : AV → Heap → Option ρ) : XE → St → Option ρ := finK (E16 N) impl_OrdersIn_n.kp.fins Go.Proofs.Try.f16 [] K

noncomputable def impl_OrdersIn_n.k0 {ρ : Type} (N : Nat) (K : AV → Heap → Option ρ) : XE → St → Option ρ := (blockK impl_OrdersIn_n.kp 0 0 (seqK (xcode (E16 N) ents impl_OrdersIn_n.kp 0 N (cB (cB (cB (cB impl_OrdersIn_n.bd)))) 0) (impl_OrdersIn_n.fin N K)))

theorem impl_OrdersIn_n.k0_mix {ρ : Type} (N : Nat) (K : AV → Heap → Option ρ) : mixK (impl_OrdersIn_n.fin N K .ret) (impl_OrdersIn_n.k0 N K) = (impl_OrdersIn_n.k0 N K) := by
  funext e s; cases e <;> kernel_rfl

noncomputable def impl_OrdersIn_n.st0 : St := ⟨sl 35 [(0, .nils), (4, .slice true 0 0 0 .whole 1), (13, .int .i64 0), (14, .int .i64 0)], [⟨true, .flat 0 (.ints .i64 (fun _ => 0))⟩]⟩

noncomputable def impl_OrdersIn_n.sx0_0 : St := ⟨sl 35 [(4, .slice true 0 0 0 .whole 1)], [⟨true, .flat 0 (.ints .i64 (fun _ => 0))⟩]⟩

theorem impl_OrdersIn_n.b0_gen {ρ : Type} (N : Nat) (K : AV → Heap → Option ρ) (L0 : St → Option ρ) (kv : XE → St → Option ρ) :
    xcode (E16 N) ents impl_OrdersIn_n.kp 0 N (cL (cK (cB (cA (cB (cB (cB impl_OrdersIn_n.bd))))))) 0 (impl_OrdersIn_n.st0) (roundK impl_OrdersIn_n.kp 0 0 L0 (mixK (impl_OrdersIn_n.fin N K .ret) kv)) = (impl_OrdersIn_n.b0 N (fun d0 d1 d2 => K (.tup [.slice false 0 0 d0 .unk 1, .int .i64 (d1)]) [⟨true, .flat 0 (.ints .i64 d2)⟩]) (L0 (impl_OrdersIn_n.st0)) (kv (.exit 0) (impl_OrdersIn_n.sx0_0))) := by kernel_rfl

theorem impl_OrdersIn_n.b0_eq {ρ : Type} (N : Nat) (K : AV → Heap → Option ρ) (L0 : St → Option ρ) :
    xcode (E16 N) ents impl_OrdersIn_n.kp 0 N (cL (cK (cB (cA (cB (cB (cB impl_OrdersIn_n.bd))))))) 0 (impl_OrdersIn_n.st0) (roundK impl_OrdersIn_n.kp 0 0 L0 (impl_OrdersIn_n.k0 N K)) = (impl_OrdersIn_n.b0 N (fun d0 d1 d2 => K (.tup [.slice false 0 0 d0 .unk 1, .int .i64 (d1)]) [⟨true, .flat 0 (.ints .i64 d2)⟩]) (L0 (impl_OrdersIn_n.st0)) ((impl_OrdersIn_n.k0 N K) (.exit 0) (impl_OrdersIn_n.sx0_0))) := by
  have h := impl_OrdersIn_n.b0_gen N K L0 (impl_OrdersIn_n.k0 N K) 
  rw [impl_OrdersIn_n.k0_mix] at h
  exact h

theorem impl_OrdersIn_n.a0_0_eq {ρ : Type} (N : Nat) (K : AV → Heap → Option ρ) :
    (impl_OrdersIn_n.k0 N K) (.exit 0) (impl_OrdersIn_n.sx0_0) = (impl_OrdersIn_n.a0_0 N (fun d0 d1 d2 => K (.tup [.slice false 0 0 d0 .unk 1, .int .i64 (d1)]) [⟨true, .flat 0 (.ints .i64 d2)⟩])) := by kernel_rfl

theorem impl_OrdersIn_n.l0_eq {ρ : Type} (N : Nat) (K : AV → Heap → Option ρ) :
    ∀ (m : Nat), xloop (xcode (E16 N) ents impl_OrdersIn_n.kp 0 N (cL (cK (cB (cA (cB (cB (cB impl_OrdersIn_n.bd))))))) 0) impl_OrdersIn_n.kp 0 0 m (impl_OrdersIn_n.st0) (impl_OrdersIn_n.k0 N K) = (impl_OrdersIn_n.l0 N (fun d0 d1 d2 => K (.tup [.slice false 0 0 d0 .unk 1, .int .i64 (d1)]) [⟨true, .flat 0 (.ints .i64 d2)⟩]) ((impl_OrdersIn_n.k0 N K) (.exit 0) (impl_OrdersIn_n.sx0_0)) m) := by
  intro m
  induction m with
  | zero => intros; rfl
  | succ m ih =>
    refine (impl_OrdersIn_n.b0_eq N K (fun s => xloop (xcode (E16 N) ents impl_OrdersIn_n.kp 0 N (cL (cK (cB (cA (cB (cB (cB impl_OrdersIn_n.bd))))))) 0) impl_OrdersIn_n.kp 0 0 m s (impl_OrdersIn_n.k0 N K)) ).trans ?_
    simp only [ih]
    kernel_rfl

theorem impl_OrdersIn_n.s_eq {ρ : Type} (N : Nat) (K : AV → Heap → Option ρ) :
    xbody (E16 N) ents impl_OrdersIn_n.kp N Go.Proofs.Try.f16 impl_OrdersIn_n.bd [.nils] [] K = (impl_OrdersIn_n.s N (fun d0 d1 d2 => K (.tup [.slice false 0 0 d0 .unk 1, .int .i64 (d1)]) [⟨true, .flat 0 (.ints .i64 d2)⟩]) (xloop (xcode (E16 N) ents impl_OrdersIn_n.kp 0 N (cL (cK (cB (cA (cB (cB (cB impl_OrdersIn_n.bd))))))) 0) impl_OrdersIn_n.kp 0 0 N (impl_OrdersIn_n.st0) (impl_OrdersIn_n.k0 N K))) := by kernel_rfl

theorem impl_OrdersIn_n.eq {ρ : Type} (N : Nat) (K : AV → Heap → Option ρ) :
    xbody (E16 N) ents impl_OrdersIn_n.kp N Go.Proofs.Try.f16 impl_OrdersIn_n.bd [.nils] [] K = (impl_OrdersIn_n N (fun d0 d1 d2 => K (.tup [.slice false 0 0 d0 .unk 1, .int .i64 (d1)]) [⟨true, .flat 0 (.ints .i64 d2)⟩])) := by
  refine (impl_OrdersIn_n.s_eq N K ).trans ?_
  simp only [impl_OrdersIn_n.l0_eq, impl_OrdersIn_n.a0_0_eq]
  kernel_rfl

noncomputable def impl_OrdersIn_sh.en (N : Nat) (ρ : Type) : List AV → Heap → (AV → Heap → Option ρ) → Option ρ
  | [.slice true 0 0 table0 (.exact table1) 1], [⟨false, .hdr 1 gv2 gv3 gv4 gv5 (some gv6)⟩, ⟨false, .flat 0 (.ints .i64 gv7)⟩], K => (impl_OrdersIn_sh N (fun d0 d1 d2 => K (.tup [.slice false 2 0 d0 .unk 1, .int .i64 (d1)]) [⟨false, .hdr 1 gv2 gv3 gv4 gv5 (some gv6)⟩, ⟨false, .flat 0 (.ints .i64 gv7)⟩, ⟨true, .flat 0 (.ints .i64 d2)⟩]) table0 table1 gv2 gv3 gv4 gv5 gv6 gv7)
  | [.nils], [], K => (impl_OrdersIn_n N (fun d0 d1 d2 => K (.tup [.slice false 0 0 d0 .unk 1, .int .i64 (d1)]) [⟨true, .flat 0 (.ints .i64 d2)⟩]))
  | _, _, _ => none

theorem impl_OrdersIn_sh.en_ok (N : Nat) (hE : EnvOk (E16 N) ents) (ρ : Type) (args : List AV) (sh : Heap) (K : AV → Heap → Option ρ) (r : ρ) (h : impl_OrdersIn_sh.en N ρ args sh K = some r) : ∃ v sh', K v sh' = some r ∧ FnOk (E16 N).P 16 args sh v sh' := by
  unfold impl_OrdersIn_sh.en at h
  split at h
  · exact fn_ok hE (kp := impl_OrdersIn_sh.kp) (N := N) Go.Proofs.Try.func16 (c := impl_OrdersIn_sh.bd) (by kernel_rfl) ((impl_OrdersIn_sh.eq N _ _ _ _ _ _ _ _ _).trans h)
  · exact fn_ok hE (kp := impl_OrdersIn_n.kp) (N := N) Go.Proofs.Try.func16 (c := impl_OrdersIn_n.bd) (by kernel_rfl) ((impl_OrdersIn_n.eq N _ ).trans h)
  · cases h

noncomputable def E17 (N : Nat) : Env := (E16 N).add 16 (impl_OrdersIn_sh.en N)

theorem E17_ok (N : Nat) : EnvOk (E17 N) ents := Env.add_ok (E16_ok N) (impl_OrdersIn_sh.en_ok N (E16_ok N))

noncomputable def laws_eqInt64S_susu.kp : Keeps := ⟨[(0, [0, 1, 5], [], [])], [(0, [], [], [])], []⟩

noncomputable def laws_eqInt64S_susu.bd : Code := bodyOf Go.Proofs.Try.f17

noncomputable def laws_eqInt64S_susu.fin {ρ : Type} (N : Nat) (K : AV → Heap → Option ρ) (gv2 : Nat) (gv3 : Nat → Int) (gv4 : Nat) (gv5 : Nat → Int) : XE → St → Option ρ := finK (E17 N) laws_eqInt64S_susu.kp.fins Go.Proofs.Try.f17 [⟨false, .flat gv2 (.ints .i64 gv3)⟩, ⟨false, .flat gv4 (.ints .i64 gv5)⟩] K

noncomputable def laws_eqInt64S_susu.k0 {ρ : Type} (N : Nat) (K : AV → Heap → Option ρ) (gv2 : Nat) (gv3 : Nat → Int) (gv4 : Nat) (gv5 : Nat → Int) : XE → St → Option ρ := (blockK laws_eqInt64S_susu.kp 2 0 (seqK (xcode (E17 N) ents laws_eqInt64S_susu.kp 2 N (cB (cB (cB laws_eqInt64S_susu.bd))) 0) (laws_eqInt64S_susu.fin N K gv2 gv3 gv4 gv5)))

theorem laws_eqInt64S_susu.k0_mix {ρ : Type} (N : Nat) (K : AV → Heap → Option ρ) (gv2 : Nat) (gv3 : Nat → Int) (gv4 : Nat) (gv5 : Nat → Int) : mixK (laws_eqInt64S_susu.fin N K gv2 gv3 gv4 gv5 .ret) (laws_eqInt64S_susu.k0 N K gv2 gv3 gv4 gv5) = (laws_eqInt64S_susu.k0 N K gv2 gv3 gv4 gv5) := by
  funext e s; cases e <;> kernel_rfl

noncomputable def laws_eqInt64S_susu.st0 (av0 : Nat) (bv1 : Nat) (gv2 : Nat) (gv3 : Nat → Int) (gv4 : Nat) (gv5 : Nat → Int) (i6 : Int) : St := ⟨sl 26 [(0, .slice false 0 0 av0 .unk 1), (1, .slice false 1 0 bv1 .unk 1), (5, .int .i64 (i6))], [⟨false, .flat gv2 (.ints .i64 gv3)⟩, ⟨false, .flat gv4 (.ints .i64 gv5)⟩]⟩

noncomputable def laws_eqInt64S_susu.sx0_0 (gv2 : Nat) (gv3 : Nat → Int) (gv4 : Nat) (gv5 : Nat → Int) : St := ⟨sl 26 [], [⟨false, .flat gv2 (.ints .i64 gv3)⟩, ⟨false, .flat gv4 (.ints .i64 gv5)⟩]⟩

theorem laws_eqInt64S_susu.b0_gen {ρ : Type} (N : Nat) (K : AV → Heap → Option ρ) (L0 : St → Option ρ) (kv : XE → St → Option ρ) (av0 : Nat) (bv1 : Nat) (gv2 : Nat) (gv3 : Nat → Int) (gv4 : Nat) (gv5 : Nat → Int) (i6 : Int) :
    xcode (E17 N) ents laws_eqInt64S_susu.kp 2 N (cL (cK (cB (cA (cB (cB laws_eqInt64S_susu.bd)))))) 0 (laws_eqInt64S_susu.st0 av0 bv1 gv2 gv3 gv4 gv5 i6) (roundK laws_eqInt64S_susu.kp 2 0 L0 (mixK (laws_eqInt64S_susu.fin N K gv2 gv3 gv4 gv5 .ret) kv)) = (laws_eqInt64S_susu.b0 N (fun d0 => K (.bool (d0)) [⟨false, .flat gv2 (.ints .i64 gv3)⟩, ⟨false, .flat gv4 (.ints .i64 gv5)⟩]) (fun i6 => L0 (laws_eqInt64S_susu.st0 av0 bv1 gv2 gv3 gv4 gv5 i6)) (kv (.exit 0) (laws_eqInt64S_susu.sx0_0 gv2 gv3 gv4 gv5)) av0 bv1 gv3 gv5 i6) := by kernel_rfl

theorem laws_eqInt64S_susu.b0_eq {ρ : Type} (N : Nat) (K : AV → Heap → Option ρ) (L0 : St → Option ρ) (av0 : Nat) (bv1 : Nat) (gv2 : Nat) (gv3 : Nat → Int) (gv4 : Nat) (gv5 : Nat → Int) (i6 : Int) :
    xcode (E17 N) ents laws_eqInt64S_susu.kp 2 N (cL (cK (cB (cA (cB (cB laws_eqInt64S_susu.bd)))))) 0 (laws_eqInt64S_susu.st0 av0 bv1 gv2 gv3 gv4 gv5 i6) (roundK laws_eqInt64S_susu.kp 2 0 L0 (laws_eqInt64S_susu.k0 N K gv2 gv3 gv4 gv5)) = (laws_eqInt64S_susu.b0 N (fun d0 => K (.bool (d0)) [⟨false, .flat gv2 (.ints .i64 gv3)⟩, ⟨false, .flat gv4 (.ints .i64 gv5)⟩]) (fun i6 => L0 (laws_eqInt64S_susu.st0 av0 bv1 gv2 gv3 gv4 gv5 i6)) ((laws_eqInt64S_susu.k0 N K gv2 gv3 gv4 gv5) (.exit 0) (laws_eqInt64S_susu.sx0_0 gv2 gv3 gv4 gv5)) av0 bv1 gv3 gv5 i6) := by
  have h := laws_eqInt64S_susu.b0_gen N K L0 (laws_eqInt64S_susu.k0 N K gv2 gv3 gv4 gv5) av0 bv1 gv2 gv3 gv4 gv5 i6
  rw [laws_eqInt64S_susu.k0_mix] at h
  exact h

theorem laws_eqInt64S_susu.a0_0_eq {ρ : Type} (N : Nat) (K : AV → Heap → Option ρ) (gv2 : Nat) (gv3 : Nat → Int) (gv4 : Nat) (gv5 : Nat → Int) :
    (laws_eqInt64S_susu.k0 N K gv2 gv3 gv4 gv5) (.exit 0) (laws_eqInt64S_susu.sx0_0 gv2 gv3 gv4 gv5) = (laws_eqInt64S_susu.a0_0 N (fun d0 => K (.bool (d0)) [⟨false, .flat gv2 (.ints .i64 gv3)⟩, ⟨false, .flat gv4 (.ints .i64 gv5)⟩])) := by kernel_rfl

theorem laws_eqInt64S_susu.l0_eq {ρ : Type} (N : Nat) (K : AV → Heap → Option ρ) (av0 : Nat) (bv1 : Nat) (gv2 : Nat) (gv3 : Nat → Int) (gv4 : Nat) (gv5 : Nat → Int) :
    ∀ (m : Nat) (i6 : Int), xloop (xcode (E17 N) ents laws_eqInt64S_susu.kp 2 N (cL (cK (cB (cA (cB (cB laws_eqInt64S_susu.bd)))))) 0) laws_eqInt64S_susu.kp 2 0 m (laws_eqInt64S_susu.st0 av0 bv1 gv2 gv3 gv4 gv5 i6) (laws_eqInt64S_susu.k0 N K gv2 gv3 gv4 gv5) = (laws_eqInt64S_susu.l0 N (fun d0 => K (.bool (d0)) [⟨false, .flat gv2 (.ints .i64 gv3)⟩, ⟨false, .flat gv4 (.ints .i64 gv5)⟩]) av0 bv1 gv3 gv5 ((laws_eqInt64S_susu.k0 N K gv2 gv3 gv4 gv5) (.exit 0) (laws_eqInt64S_susu.sx0_0 gv2 gv3 gv4 gv5)) m i6) := by
  intro m
  induction m with
  | zero => intros; rfl
  | succ m ih =>
    intro i6
    refine (laws_eqInt64S_susu.b0_eq N K (fun s => xloop (xcode (E17 N) ents laws_eqInt64S_susu.kp 2 N (cL (cK (cB (cA (cB (cB laws_eqInt64S_susu.bd)))))) 0) laws_eqInt64S_susu.kp 2 0 m s (laws_eqInt64S_susu.k0 N K gv2 gv3 gv4 gv5)) av0 bv1 gv2 gv3 gv4 gv5 i6).trans ?_
    simp only [ih]
    kernel_rfl

theorem laws_eqInt64S_susu.s_eq {ρ : Type} (N : Nat) (K : AV → Heap → Option ρ) (av0 : Nat) (bv1 : Nat) (gv2 : Nat) (gv3 : Nat → Int) (gv4 : Nat) (gv5 : Nat → Int) :
    xbody (E17 N) ents laws_eqInt64S_susu.kp N Go.Proofs.Try.f17 laws_eqInt64S_susu.bd [.slice false 0 0 av0 .unk 1, .slice false 1 0 bv1 .unk 1] [⟨false, .flat gv2 (.ints .i64 gv3)⟩, ⟨false, .flat gv4 (.ints .i64 gv5)⟩] K = (laws_eqInt64S_susu.s N (fun d0 => K (.bool (d0)) [⟨false, .flat gv2 (.ints .i64 gv3)⟩, ⟨false, .flat gv4 (.ints .i64 gv5)⟩]) (fun i6 => xloop (xcode (E17 N) ents laws_eqInt64S_susu.kp 2 N (cL (cK (cB (cA (cB (cB laws_eqInt64S_susu.bd)))))) 0) laws_eqInt64S_susu.kp 2 0 N (laws_eqInt64S_susu.st0 av0 bv1 gv2 gv3 gv4 gv5 i6) (laws_eqInt64S_susu.k0 N K gv2 gv3 gv4 gv5)) av0 bv1) := by kernel_rfl

theorem laws_eqInt64S_susu.eq {ρ : Type} (N : Nat) (K : AV → Heap → Option ρ) (av0 : Nat) (bv1 : Nat) (gv2 : Nat) (gv3 : Nat → Int) (gv4 : Nat) (gv5 : Nat → Int) :
    xbody (E17 N) ents laws_eqInt64S_susu.kp N Go.Proofs.Try.f17 laws_eqInt64S_susu.bd [.slice false 0 0 av0 .unk 1, .slice false 1 0 bv1 .unk 1] [⟨false, .flat gv2 (.ints .i64 gv3)⟩, ⟨false, .flat gv4 (.ints .i64 gv5)⟩] K = (laws_eqInt64S_susu N (fun d0 => K (.bool (d0)) [⟨false, .flat gv2 (.ints .i64 gv3)⟩, ⟨false, .flat gv4 (.ints .i64 gv5)⟩]) av0 bv1 gv2 gv3 gv4 gv5) := by
  refine (laws_eqInt64S_susu.s_eq N K av0 bv1 gv2 gv3 gv4 gv5).trans ?_
  simp only [laws_eqInt64S_susu.l0_eq, laws_eqInt64S_susu.a0_0_eq]
  kernel_rfl

noncomputable def laws_eqInt64S_ss.kp : Keeps := ⟨[(0, [0, 1, 5], [], [])], [(0, [], [], [])], []⟩

noncomputable def laws_eqInt64S_ss.bd : Code := bodyOf Go.Proofs.Try.f17

noncomputable def laws_eqInt64S_ss.fin {ρ : Type} (N : Nat) (K : AV → Heap → Option ρ) (gv4 : Nat) (gv5 : Nat → Int) (gv6 : Nat) (gv7 : Nat → Int) : XE → St → Option ρ := finK (E17 N) laws_eqInt64S_ss.kp.fins Go.Proofs.Try.f17 [⟨false, .flat gv4 (.ints .i64 gv5)⟩, ⟨false, .flat gv6 (.ints .i64 gv7)⟩] K

noncomputable def laws_eqInt64S_ss.k0 {ρ : Type} (N : Nat) (K : AV → Heap → Option ρ) (gv4 : Nat) (gv5 : Nat → Int) (gv6 : Nat) (gv7 : Nat → Int) : XE → St → Option ρ := (blockK laws_eqInt64S_ss.kp 2 0 (seqK (xcode (E17 N) ents laws_eqInt64S_ss.kp 2 N (cB (cB (cB laws_eqInt64S_ss.bd))) 0) (laws_eqInt64S_ss.fin N K gv4 gv5 gv6 gv7)))

theorem laws_eqInt64S_ss.k0_mix {ρ : Type} (N : Nat) (K : AV → Heap → Option ρ) (gv4 : Nat) (gv5 : Nat → Int) (gv6 : Nat) (gv7 : Nat → Int) : mixK (laws_eqInt64S_ss.fin N K gv4 gv5 gv6 gv7 .ret) (laws_eqInt64S_ss.k0 N K gv4 gv5 gv6 gv7) = (laws_eqInt64S_ss.k0 N K gv4 gv5 gv6 gv7) := by
  funext e s; cases e <;> kernel_rfl

noncomputable def laws_eqInt64S_ss.st0 (av0 : Nat) (av1 : Nat) (bv2 : Nat) (bv3 : Nat) (gv4 : Nat) (gv5 : Nat → Int) (gv6 : Nat) (gv7 : Nat → Int) (i8 : Int) : St := ⟨sl 26 [(0, .slice false 0 0 av0 (.exact av1) 1), (1, .slice false 1 0 bv2 (.exact bv3) 1), (5, .int .i64 (i8))], [⟨false, .flat gv4 (.ints .i64 gv5)⟩, ⟨false, .flat gv6 (.ints .i64 gv7)⟩]⟩

noncomputable def laws_eqInt64S_ss.sx0_0 (gv4 : Nat) (gv5 : Nat → Int) (gv6 : Nat) (gv7 : Nat → Int) : St := ⟨sl 26 [], [⟨false, .flat gv4 (.ints .i64 gv5)⟩, ⟨false, .flat gv6 (.ints .i64 gv7)⟩]⟩

theorem laws_eqInt64S_ss.b0_gen {ρ : Type} (N : Nat) (K : AV → Heap → Option ρ) (L0 : St → Option ρ) (kv : XE → St → Option ρ) (av0 : Nat) (av1 : Nat) (bv2 : Nat) (bv3 : Nat) (gv4 : Nat) (gv5 : Nat → Int) (gv6 : Nat) (gv7 : Nat → Int) (i8 : Int) :
    xcode (E17 N) ents laws_eqInt64S_ss.kp 2 N (cL (cK (cB (cA (cB (cB laws_eqInt64S_ss.bd)))))) 0 (laws_eqInt64S_ss.st0 av0 av1 bv2 bv3 gv4 gv5 gv6 gv7 i8) (roundK laws_eqInt64S_ss.kp 2 0 L0 (mixK (laws_eqInt64S_ss.fin N K gv4 gv5 gv6 gv7 .ret) kv)) = (laws_eqInt64S_ss.b0 N (fun d0 => K (.bool (d0)) [⟨false, .flat gv4 (.ints .i64 gv5)⟩, ⟨false, .flat gv6 (.ints .i64 gv7)⟩]) (fun i8 => L0 (laws_eqInt64S_ss.st0 av0 av1 bv2 bv3 gv4 gv5 gv6 gv7 i8)) (kv (.exit 0) (laws_eqInt64S_ss.sx0_0 gv4 gv5 gv6 gv7)) av0 bv2 gv5 gv7 i8) := by kernel_rfl

theorem laws_eqInt64S_ss.b0_eq {ρ : Type} (N : Nat) (K : AV → Heap → Option ρ) (L0 : St → Option ρ) (av0 : Nat) (av1 : Nat) (bv2 : Nat) (bv3 : Nat) (gv4 : Nat) (gv5 : Nat → Int) (gv6 : Nat) (gv7 : Nat → Int) (i8 : Int) :
    xcode (E17 N) ents laws_eqInt64S_ss.kp 2 N (cL (cK (cB (cA (cB (cB laws_eqInt64S_ss.bd)))))) 0 (laws_eqInt64S_ss.st0 av0 av1 bv2 bv3 gv4 gv5 gv6 gv7 i8) (roundK laws_eqInt64S_ss.kp 2 0 L0 (laws_eqInt64S_ss.k0 N K gv4 gv5 gv6 gv7)) = (laws_eqInt64S_ss.b0 N (fun d0 => K (.bool (d0)) [⟨false, .flat gv4 (.ints .i64 gv5)⟩, ⟨false, .flat gv6 (.ints .i64 gv7)⟩]) (fun i8 => L0 (laws_eqInt64S_ss.st0 av0 av1 bv2 bv3 gv4 gv5 gv6 gv7 i8)) ((laws_eqInt64S_ss.k0 N K gv4 gv5 gv6 gv7) (.exit 0) (laws_eqInt64S_ss.sx0_0 gv4 gv5 gv6 gv7)) av0 bv2 gv5 gv7 i8) := by
  have h := laws_eqInt64S_ss.b0_gen N K L0 (laws_eqInt64S_ss.k0 N K gv4 gv5 gv6 gv7) av0 av1 bv2 bv3 gv4 gv5 gv6 gv7 i8
  rw [laws_eqInt64S_ss.k0_mix] at h
  exact h

theorem laws_eqInt64S_ss.a0_0_eq {ρ : Type} (N : Nat) (K : AV → Heap → Option ρ) (gv4 : Nat) (gv5 : Nat → Int) (gv6 : Nat) (gv7 : Nat → Int) :
    (laws_eqInt64S_ss.k0 N K gv4 gv5 gv6 gv7) (.exit 0) (laws_eqInt64S_ss.sx0_0 gv4 gv5 gv6 gv7) = (laws_eqInt64S_ss.a0_0 N (fun d0 => K (.bool (d0)) [⟨false, .flat gv4 (.ints .i64 gv5)⟩, ⟨false, .flat gv6 (.ints .i64 gv7)⟩])) := by kernel_rfl

theorem laws_eqInt64S_ss.l0_eq {ρ : Type} (N : Nat) (K : AV → Heap → Option ρ) (av0 : Nat) (av1 : Nat) (bv2 : Nat) (bv3 : Nat) (gv4 : Nat) (gv5 : Nat → Int) (gv6 : Nat) (gv7 : Nat → Int) :
    ∀ (m : Nat) (i8 : Int), xloop (xcode (E17 N) ents laws_eqInt64S_ss.kp 2 N (cL (cK (cB (cA (cB (cB laws_eqInt64S_ss.bd)))))) 0) laws_eqInt64S_ss.kp 2 0 m (laws_eqInt64S_ss.st0 av0 av1 bv2 bv3 gv4 gv5 gv6 gv7 i8) (laws_eqInt64S_ss.k0 N K gv4 gv5 gv6 gv7) = (laws_eqInt64S_ss.l0 N (fun d0 => K (.bool (d0)) [⟨false, .flat gv4 (.ints .i64 gv5)⟩, ⟨false, .flat gv6 (.ints .i64 gv7)⟩]) av0 bv2 gv5 gv7 ((laws_eqInt64S_ss.k0 N K gv4 gv5 gv6 gv7) (.exit 0) (laws_eqInt64S_ss.sx0_0 gv4 gv5 gv6 gv7)) m i8) := by
  intro m
  induction m with
  | zero => intros; rfl
  | succ m ih =>
    intro i8
    refine (laws_eqInt64S_ss.b0_eq N K (fun s => xloop (xcode (E17 N) ents laws_eqInt64S_ss.kp 2 N (cL (cK (cB (cA (cB (cB laws_eqInt64S_ss.bd)))))) 0) laws_eqInt64S_ss.kp 2 0 m s (laws_eqInt64S_ss.k0 N K gv4 gv5 gv6 gv7)) av0 av1 bv2 bv3 gv4 gv5 gv6 gv7 i8).trans ?_
    simp only [ih]
    kernel_rfl

theorem laws_eqInt64S_ss.s_eq {ρ : Type} (N : Nat) (K : AV → Heap → Option ρ) (av0 : Nat) (av1 : Nat) (bv2 : Nat) (bv3 : Nat) (gv4 : Nat) (gv5 : Nat → Int) (gv6 : Nat) (gv7 : Nat → Int) :
    xbody (E17 N) ents laws_eqInt64S_ss.kp N Go.Proofs.Try.f17 laws_eqInt64S_ss.bd [.slice false 0 0 av0 (.exact av1) 1, .slice false 1 0 bv2 (.exact bv3) 1] [⟨false, .flat gv4 (.ints .i64 gv5)⟩, ⟨false, .flat gv6 (.ints .i64 gv7)⟩] K = (laws_eqInt64S_ss.s N (fun d0 => K (.bool (d0)) [⟨false, .flat gv4 (.ints .i64 gv5)⟩, ⟨false, .flat gv6 (.ints .i64 gv7)⟩]) (fun i8 => xloop (xcode (E17 N) ents laws_eqInt64S_ss.kp 2 N (cL (cK (cB (cA (cB (cB laws_eqInt64S_ss.bd)))))) 0) laws_eqInt64S_ss.kp 2 0 N (laws_eqInt64S_ss.st0 av0 av1 bv2 bv3 gv4 gv5 gv6 gv7 i8) (laws_eqInt64S_ss.k0 N K gv4 gv5 gv6 gv7)) av0 bv2) := by kernel_rfl

theorem laws_eqInt64S_ss.eq {ρ : Type} (N : Nat) (K : AV → Heap → Option ρ) (av0 : Nat) (av1 : Nat) (bv2 : Nat) (bv3 : Nat) (gv4 : Nat) (gv5 : Nat → Int) (gv6 : Nat) (gv7 : Nat → Int) :
    xbody (E17 N) ents laws_eqInt64S_ss.kp N Go.Proofs.Try.f17 laws_eqInt64S_ss.bd [.slice false 0 0 av0 (.exact av1) 1, .slice false 1 0 bv2 (.exact bv3) 1] [⟨false, .flat gv4 (.ints .i64 gv5)⟩, ⟨false, .flat gv6 (.ints .i64 gv7)⟩] K = (laws_eqInt64S_ss N (fun d0 => K (.bool (d0)) [⟨false, .flat gv4 (.ints .i64 gv5)⟩, ⟨false, .flat gv6 (.ints .i64 gv7)⟩]) av0 av1 bv2 bv3 gv4 gv5 gv6 gv7) := by
  refine (laws_eqInt64S_ss.s_eq N K av0 av1 bv2 bv3 gv4 gv5 gv6 gv7).trans ?_
  simp only [laws_eqInt64S_ss.l0_eq, laws_eqInt64S_ss.a0_0_eq]
  kernel_rfl

noncomputable def laws_eqInt64S_susu.en (N : Nat) (ρ : Type) : List AV → Heap → (AV → Heap → Option ρ) → Option ρ
  | [.slice false 0 0 av0 .unk 1, .slice false 1 0 bv1 .unk 1], [⟨false, .flat gv2 (.ints .i64 gv3)⟩, ⟨false, .flat gv4 (.ints .i64 gv5)⟩], K => (laws_eqInt64S_susu N (fun d0 => K (.bool (d0)) [⟨false, .flat gv2 (.ints .i64 gv3)⟩, ⟨false, .flat gv4 (.ints .i64 gv5)⟩]) av0 bv1 gv2 gv3 gv4 gv5)
  | [.slice false 0 0 av0 (.exact av1) 1, .slice false 1 0 bv2 (.exact bv3) 1], [⟨false, .flat gv4 (.ints .i64 gv5)⟩, ⟨false, .flat gv6 (.ints .i64 gv7)⟩], K => (laws_eqInt64S_ss N (fun d0 => K (.bool (d0)) [⟨false, .flat gv4 (.ints .i64 gv5)⟩, ⟨false, .flat gv6 (.ints .i64 gv7)⟩]) av0 av1 bv2 bv3 gv4 gv5 gv6 gv7)
  | _, _, _ => none

theorem laws_eqInt64S_susu.en_ok (N : Nat) (hE : EnvOk (E17 N) ents) (ρ : Type) (args : List AV) (sh : Heap) (K : AV → Heap → Option ρ) (r : ρ) (h : laws_eqInt64S_susu.en N ρ args sh K = some r) : ∃ v sh', K v sh' = some r ∧ FnOk (E17 N).P 17 args sh v sh' := by
  unfold laws_eqInt64S_susu.en at h
  split at h
  · exact fn_ok hE (kp := laws_eqInt64S_susu.kp) (N := N) Go.Proofs.Try.func17 (c := laws_eqInt64S_susu.bd) (by kernel_rfl) ((laws_eqInt64S_susu.eq N _ _ _ _ _ _ _).trans h)
  · exact fn_ok hE (kp := laws_eqInt64S_ss.kp) (N := N) Go.Proofs.Try.func17 (c := laws_eqInt64S_ss.bd) (by kernel_rfl) ((laws_eqInt64S_ss.eq N _ _ _ _ _ _ _ _ _).trans h)
  · cases h

noncomputable def E18 (N : Nat) : Env := (E17 N).add 17 (laws_eqInt64S_susu.en N)

theorem E18_ok (N : Nat) : EnvOk (E18 N) ents := Env.add_ok (E17_ok N) (laws_eqInt64S_susu.en_ok N (E17_ok N))

noncomputable def laws_intactInt64S_ss.kp : Keeps := ⟨[], [], []⟩

noncomputable def laws_intactInt64S_ss.bd : Code := bodyOf Go.Proofs.Try.f45

noncomputable def laws_intactInt64S_ss.fin {ρ : Type} (N : Nat) (K : AV → Heap → Option ρ) (gv4 : Nat) (gv5 : Nat → Int) (gv6 : Nat) (gv7 : Nat → Int) : XE → St → Option ρ := finK (E18 N) laws_intactInt64S_ss.kp.fins Go.Proofs.Try.f45 [⟨false, .flat gv4 (.ints .i64 gv5)⟩, ⟨false, .flat gv6 (.ints .i64 gv7)⟩] K

theorem laws_intactInt64S_ss.eq {ρ : Type} (N : Nat) (K : AV → Heap → Option ρ) (x0 : Nat) (x1 : Nat) (y2 : Nat) (y3 : Nat) (gv4 : Nat) (gv5 : Nat → Int) (gv6 : Nat) (gv7 : Nat → Int) :
    xbody (E18 N) ents laws_intactInt64S_ss.kp N Go.Proofs.Try.f45 laws_intactInt64S_ss.bd [.slice false 0 0 x0 (.exact x1) 1, .slice false 1 0 y2 (.exact y3) 1] [⟨false, .flat gv4 (.ints .i64 gv5)⟩, ⟨false, .flat gv6 (.ints .i64 gv7)⟩] K = (laws_intactInt64S_ss N (fun d0 => K (.bool (d0)) [⟨false, .flat gv4 (.ints .i64 gv5)⟩, ⟨false, .flat gv6 (.ints .i64 gv7)⟩]) x0 x1 y2 y3 gv4 gv5 gv6 gv7) := by kernel_rfl

noncomputable def laws_intactInt64S_ss.en (N : Nat) (ρ : Type) : List AV → Heap → (AV → Heap → Option ρ) → Option ρ
  | [.slice false 0 0 x0 (.exact x1) 1, .slice false 1 0 y2 (.exact y3) 1], [⟨false, .flat gv4 (.ints .i64 gv5)⟩, ⟨false, .flat gv6 (.ints .i64 gv7)⟩], K => (laws_intactInt64S_ss N (fun d0 => K (.bool (d0)) [⟨false, .flat gv4 (.ints .i64 gv5)⟩, ⟨false, .flat gv6 (.ints .i64 gv7)⟩]) x0 x1 y2 y3 gv4 gv5 gv6 gv7)
  | _, _, _ => none

theorem laws_intactInt64S_ss.en_ok (N : Nat) (hE : EnvOk (E18 N) ents) (ρ : Type) (args : List AV) (sh : Heap) (K : AV → Heap → Option ρ) (r : ρ) (h : laws_intactInt64S_ss.en N ρ args sh K = some r) : ∃ v sh', K v sh' = some r ∧ FnOk (E18 N).P 45 args sh v sh' := by
  unfold laws_intactInt64S_ss.en at h
  split at h
  · exact fn_ok hE (kp := laws_intactInt64S_ss.kp) (N := N) Go.Proofs.Try.func45 (c := laws_intactInt64S_ss.bd) (by kernel_rfl) ((laws_intactInt64S_ss.eq N _ _ _ _ _ _ _ _ _).trans h)
  · cases h

noncomputable def E19 (N : Nat) : Env := (E18 N).add 45 (laws_intactInt64S_ss.en N)

theorem E19_ok (N : Nat) : EnvOk (E19 N) ents := Env.add_ok (E18_ok N) (laws_intactInt64S_ss.en_ok N (E18_ok N))

noncomputable def laws_eqInt64SS_shsh.kp : Keeps := ⟨[(0, [0, 1, 5], [], [])], [(0, [], [], [])], []⟩

noncomputable def laws_eqInt64SS_shsh.bd : Code := bodyOf Go.Proofs.Try.f23

noncomputable def laws_eqInt64SS_shsh.fin {ρ : Type} (N : Nat) (K : AV → Heap → Option ρ) (gv4 : Nat) (gv5 : Nat) (gv6 : Nat → Nat) (gv7 : Nat → Nat) (gv8 : Nat → Nat) (gv9 : Nat) (gv10 : Nat) (gv11 : Nat → Nat) (gv12 : Nat → Nat) (gv13 : Nat → Nat) (gv14 : Nat → Int) (gv15 : Nat → Int) : XE → St → Option ρ := finK (E19 N) laws_eqInt64SS_shsh.kp.fins Go.Proofs.Try.f23 [⟨false, .hdr 2 gv4 gv5 gv6 gv7 (some gv8)⟩, ⟨false, .hdr 3 gv9 gv10 gv11 gv12 (some gv13)⟩, ⟨false, .flat 0 (.ints .i64 gv14)⟩, ⟨false, .flat 0 (.ints .i64 gv15)⟩] K

noncomputable def laws_eqInt64SS_shsh.k0 {ρ : Type} (N : Nat) (K : AV → Heap → Option ρ) (gv4 : Nat) (gv5 : Nat) (gv6 : Nat → Nat) (gv7 : Nat → Nat) (gv8 : Nat → Nat) (gv9 : Nat) (gv10 : Nat) (gv11 : Nat → Nat) (gv12 : Nat → Nat) (gv13 : Nat → Nat) (gv14 : Nat → Int) (gv15 : Nat → Int) : XE → St → Option ρ := (blockK laws_eqInt64SS_shsh.kp 4 0 (seqK (xcode (E19 N) ents laws_eqInt64SS_shsh.kp 4 N (cB (cB (cB laws_eqInt64SS_shsh.bd))) 0) (laws_eqInt64SS_shsh.fin N K gv4 gv5 gv6 gv7 gv8 gv9 gv10 gv11 gv12 gv13 gv14 gv15)))

theorem laws_eqInt64SS_shsh.k0_mix {ρ : Type} (N : Nat) (K : AV → Heap → Option ρ) (gv4 : Nat) (gv5 : Nat) (gv6 : Nat → Nat) (gv7 : Nat → Nat) (gv8 : Nat → Nat) (gv9 : Nat) (gv10 : Nat) (gv11 : Nat → Nat) (gv12 : Nat → Nat) (gv13 : Nat → Nat) (gv14 : Nat → Int) (gv15 : Nat → Int) : mixK (laws_eqInt64SS_shsh.fin N K gv4 gv5 gv6 gv7 gv8 gv9 gv10 gv11 gv12 gv13 gv14 gv15 .ret) (laws_eqInt64SS_shsh.k0 N K gv4 gv5 gv6 gv7 gv8 gv9 gv10 gv11 gv12 gv13 gv14 gv15) = (laws_eqInt64SS_shsh.k0 N K gv4 gv5 gv6 gv7 gv8 gv9 gv10 gv11 gv12 gv13 gv14 gv15) := by
  funext e s; cases e <;> kernel_rfl

noncomputable def laws_eqInt64SS_shsh.st0 (av0 : Nat) (av1 : Nat) (bv2 : Nat) (bv3 : Nat) (gv4 : Nat) (gv5 : Nat) (gv6 : Nat → Nat) (gv7 : Nat → Nat) (gv8 : Nat → Nat) (gv9 : Nat) (gv10 : Nat) (gv11 : Nat → Nat) (gv12 : Nat → Nat) (gv13 : Nat → Nat) (gv14 : Nat → Int) (gv15 : Nat → Int) (i16 : Int) : St := ⟨sl 27 [(0, .slice true 0 0 av0 (.exact av1) 1), (1, .slice true 1 0 bv2 (.exact bv3) 1), (5, .int .i64 (i16))], [⟨false, .hdr 2 gv4 gv5 gv6 gv7 (some gv8)⟩, ⟨false, .hdr 3 gv9 gv10 gv11 gv12 (some gv13)⟩, ⟨false, .flat 0 (.ints .i64 gv14)⟩, ⟨false, .flat 0 (.ints .i64 gv15)⟩]⟩

noncomputable def laws_eqInt64SS_shsh.sx0_0 (gv4 : Nat) (gv5 : Nat) (gv6 : Nat → Nat) (gv7 : Nat → Nat) (gv8 : Nat → Nat) (gv9 : Nat) (gv10 : Nat) (gv11 : Nat → Nat) (gv12 : Nat → Nat) (gv13 : Nat → Nat) (gv14 : Nat → Int) (gv15 : Nat → Int) : St := ⟨sl 27 [], [⟨false, .hdr 2 gv4 gv5 gv6 gv7 (some gv8)⟩, ⟨false, .hdr 3 gv9 gv10 gv11 gv12 (some gv13)⟩, ⟨false, .flat 0 (.ints .i64 gv14)⟩, ⟨false, .flat 0 (.ints .i64 gv15)⟩]⟩

theorem laws_eqInt64SS_shsh.b0_gen {ρ : Type} (N : Nat) (K : AV → Heap → Option ρ) (L0 : St → Option ρ) (kv : XE → St → Option ρ) (av0 : Nat) (av1 : Nat) (bv2 : Nat) (bv3 : Nat) (gv4 : Nat) (gv5 : Nat) (gv6 : Nat → Nat) (gv7 : Nat → Nat) (gv8 : Nat → Nat) (gv9 : Nat) (gv10 : Nat) (gv11 : Nat → Nat) (gv12 : Nat → Nat) (gv13 : Nat → Nat) (gv14 : Nat → Int) (gv15 : Nat → Int) (i16 : Int) :
    xcode (E19 N) ents laws_eqInt64SS_shsh.kp 4 N (cL (cK (cB (cA (cB (cB laws_eqInt64SS_shsh.bd)))))) 0 (laws_eqInt64SS_shsh.st0 av0 av1 bv2 bv3 gv4 gv5 gv6 gv7 gv8 gv9 gv10 gv11 gv12 gv13 gv14 gv15 i16) (roundK laws_eqInt64SS_shsh.kp 4 0 L0 (mixK (laws_eqInt64SS_shsh.fin N K gv4 gv5 gv6 gv7 gv8 gv9 gv10 gv11 gv12 gv13 gv14 gv15 .ret) kv)) = (laws_eqInt64SS_shsh.b0 N (fun d0 => K (.bool (d0)) [⟨false, .hdr 2 gv4 gv5 gv6 gv7 (some gv8)⟩, ⟨false, .hdr 3 gv9 gv10 gv11 gv12 (some gv13)⟩, ⟨false, .flat 0 (.ints .i64 gv14)⟩, ⟨false, .flat 0 (.ints .i64 gv15)⟩]) (fun i16 => L0 (laws_eqInt64SS_shsh.st0 av0 av1 bv2 bv3 gv4 gv5 gv6 gv7 gv8 gv9 gv10 gv11 gv12 gv13 gv14 gv15 i16)) (kv (.exit 0) (laws_eqInt64SS_shsh.sx0_0 gv4 gv5 gv6 gv7 gv8 gv9 gv10 gv11 gv12 gv13 gv14 gv15)) av0 bv2 gv6 gv7 gv8 gv11 gv12 gv13 gv14 gv15 i16) := by kernel_rfl

theorem laws_eqInt64SS_shsh.b0_eq {ρ : Type} (N : Nat) (K : AV → Heap → Option ρ) (L0 : St → Option ρ) (av0 : Nat) (av1 : Nat) (bv2 : Nat) (bv3 : Nat) (gv4 : Nat) (gv5 : Nat) (gv6 : Nat → Nat) (gv7 : Nat → Nat) (gv8 : Nat → Nat) (gv9 : Nat) (gv10 : Nat) (gv11 : Nat → Nat) (gv12 : Nat → Nat) (gv13 : Nat → Nat) (gv14 : Nat → Int) (gv15 : Nat → Int) (i16 : Int) :
    xcode (E19 N) ents laws_eqInt64SS_shsh.kp 4 N (cL (cK (cB (cA (cB (cB laws_eqInt64SS_shsh.bd)))))) 0 (laws_eqInt64SS_shsh.st0 av0 av1 bv2 bv3 gv4 gv5 gv6 gv7 gv8 gv9 gv10 gv11 gv12 gv13 gv14 gv15 i16) (roundK laws_eqInt64SS_shsh.kp 4 0 L0 (laws_eqInt64SS_shsh.k0 N K gv4 gv5 gv6 gv7 gv8 gv9 gv10 gv11 gv12 gv13 gv14 gv15)) = (laws_eqInt64SS_shsh.b0 N (fun d0 => K (.bool (d0)) [⟨false, .hdr 2 gv4 gv5 gv6 gv7 (some gv8)⟩, ⟨false, .hdr 3 gv9 gv10 gv11 gv12 (some gv13)⟩, ⟨false, .flat 0 (.ints .i64 gv14)⟩, ⟨false, .flat 0 (.ints .i64 gv15)⟩]) (fun i16 => L0 (laws_eqInt64SS_shsh.st0 av0 av1 bv2 bv3 gv4 gv5 gv6 gv7 gv8 gv9 gv10 gv11 gv12 gv13 gv14 gv15 i16)) ((laws_eqInt64SS_shsh.k0 N K gv4 gv5 gv6 gv7 gv8 gv9 gv10 gv11 gv12 gv13 gv14 gv15) (.exit 0) (laws_eqInt64SS_shsh.sx0_0 gv4 gv5 gv6 gv7 gv8 gv9 gv10 gv11 gv12 gv13 gv14 gv15)) av0 bv2 gv6 gv7 gv8 gv11 gv12 gv13 gv14 gv15 i16) := by
  have h := laws_eqInt64SS_shsh.b0_gen N K L0 (laws_eqInt64SS_shsh.k0 N K gv4 gv5 gv6 gv7 gv8 gv9 gv10 gv11 gv12 gv13 gv14 gv15) av0 av1 bv2 bv3 gv4 gv5 gv6 gv7 gv8 gv9 gv10 gv11 gv12 gv13 gv14 gv15 i16
  rw [laws_eqInt64SS_shsh.k0_mix] at h
  exact h

theorem laws_eqInt64SS_shsh.a0_0_eq {ρ : Type} (N : Nat) (K : AV → Heap → Option ρ) (gv4 : Nat) (gv5 : Nat) (gv6 : Nat → Nat) (gv7 : Nat → Nat) (gv8 : Nat → Nat) (gv9 : Nat) (gv10 : Nat) (gv11 : Nat → Nat) (gv12 : Nat → Nat) (gv13 : Nat → Nat) (gv14 : Nat → Int) (gv15 : Nat → Int) :
    (laws_eqInt64SS_shsh.k0 N K gv4 gv5 gv6 gv7 gv8 gv9 gv10 gv11 gv12 gv13 gv14 gv15) (.exit 0) (laws_eqInt64SS_shsh.sx0_0 gv4 gv5 gv6 gv7 gv8 gv9 gv10 gv11 gv12 gv13 gv14 gv15) = (laws_eqInt64SS_shsh.a0_0 N (fun d0 => K (.bool (d0)) [⟨false, .hdr 2 gv4 gv5 gv6 gv7 (some gv8)⟩, ⟨false, .hdr 3 gv9 gv10 gv11 gv12 (some gv13)⟩, ⟨false, .flat 0 (.ints .i64 gv14)⟩, ⟨false, .flat 0 (.ints .i64 gv15)⟩])) := by kernel_rfl

theorem laws_eqInt64SS_shsh.l0_eq {ρ : Type} (N : Nat) (K : AV → Heap → Option ρ) (av0 : Nat) (av1 : Nat) (bv2 : Nat) (bv3 : Nat) (gv4 : Nat) (gv5 : Nat) (gv6 : Nat → Nat) (gv7 : Nat → Nat) (gv8 : Nat → Nat) (gv9 : Nat) (gv10 : Nat) (gv11 : Nat → Nat) (gv12 : Nat → Nat) (gv13 : Nat → Nat) (gv14 : Nat → Int) (gv15 : Nat → Int) :
    ∀ (m : Nat) (i16 : Int), xloop (xcode (E19 N) ents laws_eqInt64SS_shsh.kp 4 N (cL (cK (cB (cA (cB (cB laws_eqInt64SS_shsh.bd)))))) 0) laws_eqInt64SS_shsh.kp 4 0 m (laws_eqInt64SS_shsh.st0 av0 av1 bv2 bv3 gv4 gv5 gv6 gv7 gv8 gv9 gv10 gv11 gv12 gv13 gv14 gv15 i16) (laws_eqInt64SS_shsh.k0 N K gv4 gv5 gv6 gv7 gv8 gv9 gv10 gv11 gv12 gv13 gv14 gv15) = (laws_eqInt64SS_shsh.l0 N (fun d0 => K (.bool (d0)) [⟨false, .hdr 2 gv4 gv5 gv6 gv7 (some gv8)⟩, ⟨false, .hdr 3 gv9 gv10 gv11 gv12 (some gv13)⟩, ⟨false, .flat 0 (.ints .i64 gv14)⟩, ⟨false, .flat 0 (.ints .i64 gv15)⟩]) av0 bv2 gv6 gv7 gv8 gv11 gv12 gv13 gv14 gv15 ((laws_eqInt64SS_shsh.k0 N K gv4 gv5 gv6 gv7 gv8 gv9 gv10 gv11 gv12 gv13 gv14 gv15) (.exit 0) (laws_eqInt64SS_shsh.sx0_0 gv4 gv5 gv6 gv7 gv8 gv9 gv10 gv11 gv12 gv13 gv14 gv15)) m i16) := by
  intro m
  induction m with
  | zero => intros; rfl
  | succ m ih =>
    intro i16
    refine (laws_eqInt64SS_shsh.b0_eq N K (fun s => xloop (xcode (E19 N) ents laws_eqInt64SS_shsh.kp 4 N (cL (cK (cB (cA (cB (cB laws_eqInt64SS_shsh.bd)))))) 0) laws_eqInt64SS_shsh.kp 4 0 m s (laws_eqInt64SS_shsh.k0 N K gv4 gv5 gv6 gv7 gv8 gv9 gv10 gv11 gv12 gv13 gv14 gv15)) av0 av1 bv2 bv3 gv4 gv5 gv6 gv7 gv8 gv9 gv10 gv11 gv12 gv13 gv14 gv15 i16).trans ?_
    simp only [ih]
    kernel_rfl

theorem laws_eqInt64SS_shsh.s_eq {ρ : Type} (N : Nat) (K : AV → Heap → Option ρ) (av0 : Nat) (av1 : Nat) (bv2 : Nat) (bv3 : Nat) (gv4 : Nat) (gv5 : Nat) (gv6 : Nat → Nat) (gv7 : Nat → Nat) (gv8 : Nat → Nat) (gv9 : Nat) (gv10 : Nat) (gv11 : Nat → Nat) (gv12 : Nat → Nat) (gv13 : Nat → Nat) (gv14 : Nat → Int) (gv15 : Nat → Int) :
    xbody (E19 N) ents laws_eqInt64SS_shsh.kp N Go.Proofs.Try.f23 laws_eqInt64SS_shsh.bd [.slice true 0 0 av0 (.exact av1) 1, .slice true 1 0 bv2 (.exact bv3) 1] [⟨false, .hdr 2 gv4 gv5 gv6 gv7 (some gv8)⟩, ⟨false, .hdr 3 gv9 gv10 gv11 gv12 (some gv13)⟩, ⟨false, .flat 0 (.ints .i64 gv14)⟩, ⟨false, .flat 0 (.ints .i64 gv15)⟩] K = (laws_eqInt64SS_shsh.s N (fun d0 => K (.bool (d0)) [⟨false, .hdr 2 gv4 gv5 gv6 gv7 (some gv8)⟩, ⟨false, .hdr 3 gv9 gv10 gv11 gv12 (some gv13)⟩, ⟨false, .flat 0 (.ints .i64 gv14)⟩, ⟨false, .flat 0 (.ints .i64 gv15)⟩]) (fun i16 => xloop (xcode (E19 N) ents laws_eqInt64SS_shsh.kp 4 N (cL (cK (cB (cA (cB (cB laws_eqInt64SS_shsh.bd)))))) 0) laws_eqInt64SS_shsh.kp 4 0 N (laws_eqInt64SS_shsh.st0 av0 av1 bv2 bv3 gv4 gv5 gv6 gv7 gv8 gv9 gv10 gv11 gv12 gv13 gv14 gv15 i16) (laws_eqInt64SS_shsh.k0 N K gv4 gv5 gv6 gv7 gv8 gv9 gv10 gv11 gv12 gv13 gv14 gv15)) av0 bv2) := by kernel_rfl

theorem laws_eqInt64SS_shsh.eq {ρ : Type} (N : Nat) (K : AV → Heap → Option ρ) (av0 : Nat) (av1 : Nat) (bv2 : Nat) (bv3 : Nat) (gv4 : Nat) (gv5 : Nat) (gv6 : Nat → Nat) (gv7 : Nat → Nat) (gv8 : Nat → Nat) (gv9 : Nat) (gv10 : Nat) (gv11 : Nat → Nat) (gv12 : Nat → Nat) (gv13 : Nat → Nat) (gv14 : Nat → Int) (gv15 : Nat → Int) :
    xbody (E19 N) ents laws_eqInt64SS_shsh.kp N Go.Proofs.Try.f23 laws_eqInt64SS_shsh.bd [.slice true 0 0 av0 (.exact av1) 1, .slice true 1 0 bv2 (.exact bv3) 1] [⟨false, .hdr 2 gv4 gv5 gv6 gv7 (some gv8)⟩, ⟨false, .hdr 3 gv9 gv10 gv11 gv12 (some gv13)⟩, ⟨false, .flat 0 (.ints .i64 gv14)⟩, ⟨false, .flat 0 (.ints .i64 gv15)⟩] K = (laws_eqInt64SS_shsh N (fun d0 => K (.bool (d0)) [⟨false, .hdr 2 gv4 gv5 gv6 gv7 (some gv8)⟩, ⟨false, .hdr 3 gv9 gv10 gv11 gv12 (some gv13)⟩, ⟨false, .flat 0 (.ints .i64 gv14)⟩, ⟨false, .flat 0 (.ints .i64 gv15)⟩]) av0 av1 bv2 bv3 gv4 gv5 gv6 gv7 gv8 gv9 gv10 gv11 gv12 gv13 gv14 gv15) := by
  refine (laws_eqInt64SS_shsh.s_eq N K av0 av1 bv2 bv3 gv4 gv5 gv6 gv7 gv8 gv9 gv10 gv11 gv12 gv13 gv14 gv15).trans ?_
  simp only [laws_eqInt64SS_shsh.l0_eq, laws_eqInt64SS_shsh.a0_0_eq]
  kernel_rfl

noncomputable def laws_eqInt64SS_shsh.en (N : Nat) (ρ : Type) : List AV → Heap → (AV → Heap → Option ρ) → Option ρ
  | [.slice true 0 0 av0 (.exact av1) 1, .slice true 1 0 bv2 (.exact bv3) 1], [⟨false, .hdr 2 gv4 gv5 gv6 gv7 (some gv8)⟩, ⟨false, .hdr 3 gv9 gv10 gv11 gv12 (some gv13)⟩, ⟨false, .flat 0 (.ints .i64 gv14)⟩, ⟨false, .flat 0 (.ints .i64 gv15)⟩], K => (laws_eqInt64SS_shsh N (fun d0 => K (.bool (d0)) [⟨false, .hdr 2 gv4 gv5 gv6 gv7 (some gv8)⟩, ⟨false, .hdr 3 gv9 gv10 gv11 gv12 (some gv13)⟩, ⟨false, .flat 0 (.ints .i64 gv14)⟩, ⟨false, .flat 0 (.ints .i64 gv15)⟩]) av0 av1 bv2 bv3 gv4 gv5 gv6 gv7 gv8 gv9 gv10 gv11 gv12 gv13 gv14 gv15)
  | _, _, _ => none

theorem laws_eqInt64SS_shsh.en_ok (N : Nat) (hE : EnvOk (E19 N) ents) (ρ : Type) (args : List AV) (sh : Heap) (K : AV → Heap → Option ρ) (r : ρ) (h : laws_eqInt64SS_shsh.en N ρ args sh K = some r) : ∃ v sh', K v sh' = some r ∧ FnOk (E19 N).P 23 args sh v sh' := by
  unfold laws_eqInt64SS_shsh.en at h
  split at h
  · exact fn_ok hE (kp := laws_eqInt64SS_shsh.kp) (N := N) Go.Proofs.Try.func23 (c := laws_eqInt64SS_shsh.bd) (by kernel_rfl) ((laws_eqInt64SS_shsh.eq N _ _ _ _ _ _ _ _ _ _ _ _ _ _ _ _ _).trans h)
  · cases h

noncomputable def E20 (N : Nat) : Env := (E19 N).add 23 (laws_eqInt64SS_shsh.en N)

theorem E20_ok (N : Nat) : EnvOk (E20 N) ents := Env.add_ok (E19_ok N) (laws_eqInt64SS_shsh.en_ok N (E19_ok N))

noncomputable def laws_intactInt64SS_shsh.kp : Keeps := ⟨[(0, [0, 1, 5, 6], [], [])], [(0, [0, 1, 5], [], [])], []⟩

noncomputable def laws_intactInt64SS_shsh.bd : Code := bodyOf Go.Proofs.Try.f12

noncomputable def laws_intactInt64SS_shsh.fin {ρ : Type} (N : Nat) (K : AV → Heap → Option ρ) (gv4 : Nat) (gv5 : Nat) (gv6 : Nat → Nat) (gv7 : Nat → Nat) (gv8 : Nat → Nat) (gv9 : Nat) (gv10 : Nat) (gv11 : Nat → Nat) (gv12 : Nat → Nat) (gv13 : Nat → Nat) (gv14 : Nat → Int) (gv15 : Nat → Int) : XE → St → Option ρ := finK (E20 N) laws_intactInt64SS_shsh.kp.fins Go.Proofs.Try.f12 [⟨false, .hdr 2 gv4 gv5 gv6 gv7 (some gv8)⟩, ⟨false, .hdr 3 gv9 gv10 gv11 gv12 (some gv13)⟩, ⟨false, .flat 0 (.ints .i64 gv14)⟩, ⟨false, .flat 0 (.ints .i64 gv15)⟩] K

noncomputable def laws_intactInt64SS_shsh.k0 {ρ : Type} (N : Nat) (K : AV → Heap → Option ρ) (gv4 : Nat) (gv5 : Nat) (gv6 : Nat → Nat) (gv7 : Nat → Nat) (gv8 : Nat → Nat) (gv9 : Nat) (gv10 : Nat) (gv11 : Nat → Nat) (gv12 : Nat → Nat) (gv13 : Nat → Nat) (gv14 : Nat → Int) (gv15 : Nat → Int) : XE → St → Option ρ := (blockK laws_intactInt64SS_shsh.kp 4 0 (seqK (xcode (E20 N) ents laws_intactInt64SS_shsh.kp 4 N (cB (cB (cB (cB laws_intactInt64SS_shsh.bd)))) 0) (laws_intactInt64SS_shsh.fin N K gv4 gv5 gv6 gv7 gv8 gv9 gv10 gv11 gv12 gv13 gv14 gv15)))

theorem laws_intactInt64SS_shsh.k0_mix {ρ : Type} (N : Nat) (K : AV → Heap → Option ρ) (gv4 : Nat) (gv5 : Nat) (gv6 : Nat → Nat) (gv7 : Nat → Nat) (gv8 : Nat → Nat) (gv9 : Nat) (gv10 : Nat) (gv11 : Nat → Nat) (gv12 : Nat → Nat) (gv13 : Nat → Nat) (gv14 : Nat → Int) (gv15 : Nat → Int) : mixK (laws_intactInt64SS_shsh.fin N K gv4 gv5 gv6 gv7 gv8 gv9 gv10 gv11 gv12 gv13 gv14 gv15 .ret) (laws_intactInt64SS_shsh.k0 N K gv4 gv5 gv6 gv7 gv8 gv9 gv10 gv11 gv12 gv13 gv14 gv15) = (laws_intactInt64SS_shsh.k0 N K gv4 gv5 gv6 gv7 gv8 gv9 gv10 gv11 gv12 gv13 gv14 gv15) := by
  funext e s; cases e <;> kernel_rfl

noncomputable def laws_intactInt64SS_shsh.st0 (x0 : Nat) (x1 : Nat) (y2 : Nat) (y3 : Nat) (gv4 : Nat) (gv5 : Nat) (gv6 : Nat → Nat) (gv7 : Nat → Nat) (gv8 : Nat → Nat) (gv9 : Nat) (gv10 : Nat) (gv11 : Nat → Nat) (gv12 : Nat → Nat) (gv13 : Nat → Nat) (gv14 : Nat → Int) (gv15 : Nat → Int) (rv16 : Int) (i17 : Int) : St := ⟨sl 45 [(0, .slice true 0 0 x0 (.exact x1) 1), (1, .slice true 1 0 y2 (.exact y3) 1), (5, .int .i64 ((IntKind.i64.wrap ((y2 : Int) + rv16)))), (6, .int .i64 (i17))], [⟨false, .hdr 2 gv4 gv5 gv6 gv7 (some gv8)⟩, ⟨false, .hdr 3 gv9 gv10 gv11 gv12 (some gv13)⟩, ⟨false, .flat 0 (.ints .i64 gv14)⟩, ⟨false, .flat 0 (.ints .i64 gv15)⟩]⟩

noncomputable def laws_intactInt64SS_shsh.sx0_0 (x0 : Nat) (x1 : Nat) (y2 : Nat) (y3 : Nat) (gv4 : Nat) (gv5 : Nat) (gv6 : Nat → Nat) (gv7 : Nat → Nat) (gv8 : Nat → Nat) (gv9 : Nat) (gv10 : Nat) (gv11 : Nat → Nat) (gv12 : Nat → Nat) (gv13 : Nat → Nat) (gv14 : Nat → Int) (gv15 : Nat → Int) (rv16 : Int) : St := ⟨sl 45 [(0, .slice true 0 0 x0 (.exact x1) 1), (1, .slice true 1 0 y2 (.exact y3) 1), (5, .int .i64 ((IntKind.i64.wrap ((y2 : Int) + rv16))))], [⟨false, .hdr 2 gv4 gv5 gv6 gv7 (some gv8)⟩, ⟨false, .hdr 3 gv9 gv10 gv11 gv12 (some gv13)⟩, ⟨false, .flat 0 (.ints .i64 gv14)⟩, ⟨false, .flat 0 (.ints .i64 gv15)⟩]⟩

theorem laws_intactInt64SS_shsh.b0_gen {ρ : Type} (N : Nat) (K : AV → Heap → Option ρ) (L0 : St → Option ρ) (kv : XE → St → Option ρ) (x0 : Nat) (x1 : Nat) (y2 : Nat) (y3 : Nat) (gv4 : Nat) (gv5 : Nat) (gv6 : Nat → Nat) (gv7 : Nat → Nat) (gv8 : Nat → Nat) (gv9 : Nat) (gv10 : Nat) (gv11 : Nat → Nat) (gv12 : Nat → Nat) (gv13 : Nat → Nat) (gv14 : Nat → Int) (gv15 : Nat → Int) (rv16 : Int) (i17 : Int) :
    xcode (E20 N) ents laws_intactInt64SS_shsh.kp 4 N (cL (cK (cB (cA (cB (cB (cB laws_intactInt64SS_shsh.bd))))))) 0 (laws_intactInt64SS_shsh.st0 x0 x1 y2 y3 gv4 gv5 gv6 gv7 gv8 gv9 gv10 gv11 gv12 gv13 gv14 gv15 rv16 i17) (roundK laws_intactInt64SS_shsh.kp 4 0 L0 (mixK (laws_intactInt64SS_shsh.fin N K gv4 gv5 gv6 gv7 gv8 gv9 gv10 gv11 gv12 gv13 gv14 gv15 .ret) kv)) = (laws_intactInt64SS_shsh.b0 N (fun d0 => K (.bool (d0)) [⟨false, .hdr 2 gv4 gv5 gv6 gv7 (some gv8)⟩, ⟨false, .hdr 3 gv9 gv10 gv11 gv12 (some gv13)⟩, ⟨false, .flat 0 (.ints .i64 gv14)⟩, ⟨false, .flat 0 (.ints .i64 gv15)⟩]) (fun i17 => L0 (laws_intactInt64SS_shsh.st0 x0 x1 y2 y3 gv4 gv5 gv6 gv7 gv8 gv9 gv10 gv11 gv12 gv13 gv14 gv15 rv16 i17)) (kv (.exit 0) (laws_intactInt64SS_shsh.sx0_0 x0 x1 y2 y3 gv4 gv5 gv6 gv7 gv8 gv9 gv10 gv11 gv12 gv13 gv14 gv15 rv16)) x0 y2 gv6 gv7 gv8 gv11 gv12 gv13 gv14 gv15 i17) := by kernel_rfl

theorem laws_intactInt64SS_shsh.b0_eq {ρ : Type} (N : Nat) (K : AV → Heap → Option ρ) (L0 : St → Option ρ) (x0 : Nat) (x1 : Nat) (y2 : Nat) (y3 : Nat) (gv4 : Nat) (gv5 : Nat) (gv6 : Nat → Nat) (gv7 : Nat → Nat) (gv8 : Nat → Nat) (gv9 : Nat) (gv10 : Nat) (gv11 : Nat → Nat) (gv12 : Nat → Nat) (gv13 : Nat → Nat) (gv14 : Nat → Int) (gv15 : Nat → Int) (rv16 : Int) (i17 : Int) :
    xcode (E20 N) ents laws_intactInt64SS_shsh.kp 4 N (cL (cK (cB (cA (cB (cB (cB laws_intactInt64SS_shsh.bd))))))) 0 (laws_intactInt64SS_shsh.st0 x0 x1 y2 y3 gv4 gv5 gv6 gv7 gv8 gv9 gv10 gv11 gv12 gv13 gv14 gv15 rv16 i17) (roundK laws_intactInt64SS_shsh.kp 4 0 L0 (laws_intactInt64SS_shsh.k0 N K gv4 gv5 gv6 gv7 gv8 gv9 gv10 gv11 gv12 gv13 gv14 gv15)) = (laws_intactInt64SS_shsh.b0 N (fun d0 => K (.bool (d0)) [⟨false, .hdr 2 gv4 gv5 gv6 gv7 (some gv8)⟩, ⟨false, .hdr 3 gv9 gv10 gv11 gv12 (some gv13)⟩, ⟨false, .flat 0 (.ints .i64 gv14)⟩, ⟨false, .flat 0 (.ints .i64 gv15)⟩]) (fun i17 => L0 (laws_intactInt64SS_shsh.st0 x0 x1 y2 y3 gv4 gv5 gv6 gv7 gv8 gv9 gv10 gv11 gv12 gv13 gv14 gv15 rv16 i17)) ((laws_intactInt64SS_shsh.k0 N K gv4 gv5 gv6 gv7 gv8 gv9 gv10 gv11 gv12 gv13 gv14 gv15) (.exit 0) (laws_intactInt64SS_shsh.sx0_0 x0 x1 y2 y3 gv4 gv5 gv6 gv7 gv8 gv9 gv10 gv11 gv12 gv13 gv14 gv15 rv16)) x0 y2 gv6 gv7 gv8 gv11 gv12 gv13 gv14 gv15 i17) := by
  have h := laws_intactInt64SS_shsh.b0_gen N K L0 (laws_intactInt64SS_shsh.k0 N K gv4 gv5 gv6 gv7 gv8 gv9 gv10 gv11 gv12 gv13 gv14 gv15) x0 x1 y2 y3 gv4 gv5 gv6 gv7 gv8 gv9 gv10 gv11 gv12 gv13 gv14 gv15 rv16 i17
  rw [laws_intactInt64SS_shsh.k0_mix] at h
  exact h

theorem laws_intactInt64SS_shsh.a0_0_eq {ρ : Type} (N : Nat) (K : AV → Heap → Option ρ) (x0 : Nat) (x1 : Nat) (y2 : Nat) (y3 : Nat) (gv4 : Nat) (gv5 : Nat) (gv6 : Nat → Nat) (gv7 : Nat → Nat) (gv8 : Nat → Nat) (gv9 : Nat) (gv10 : Nat) (gv11 : Nat → Nat) (gv12 : Nat → Nat) (gv13 : Nat → Nat) (gv14 : Nat → Int) (gv15 : Nat → Int) (rv16 : Int) :
    (laws_intactInt64SS_shsh.k0 N K gv4 gv5 gv6 gv7 gv8 gv9 gv10 gv11 gv12 gv13 gv14 gv15) (.exit 0) (laws_intactInt64SS_shsh.sx0_0 x0 x1 y2 y3 gv4 gv5 gv6 gv7 gv8 gv9 gv10 gv11 gv12 gv13 gv14 gv15 rv16) = (laws_intactInt64SS_shsh.a0_0 N (fun d0 => K (.bool (d0)) [⟨false, .hdr 2 gv4 gv5 gv6 gv7 (some gv8)⟩, ⟨false, .hdr 3 gv9 gv10 gv11 gv12 (some gv13)⟩, ⟨false, .flat 0 (.ints .i64 gv14)⟩, ⟨false, .flat 0 (.ints .i64 gv15)⟩]) x1 y2 y3 gv5 gv6 gv7 gv8 gv10 gv11 gv12 gv13 gv14 gv15 rv16) := by kernel_rfl

theorem laws_intactInt64SS_shsh.l0_eq {ρ : Type} (N : Nat) (K : AV → Heap → Option ρ) (x0 : Nat) (x1 : Nat) (y2 : Nat) (y3 : Nat) (gv4 : Nat) (gv5 : Nat) (gv6 : Nat → Nat) (gv7 : Nat → Nat) (gv8 : Nat → Nat) (gv9 : Nat) (gv10 : Nat) (gv11 : Nat → Nat) (gv12 : Nat → Nat) (gv13 : Nat → Nat) (gv14 : Nat → Int) (gv15 : Nat → Int) (rv16 : Int) :
    ∀ (m : Nat) (i17 : Int), xloop (xcode (E20 N) ents laws_intactInt64SS_shsh.kp 4 N (cL (cK (cB (cA (cB (cB (cB laws_intactInt64SS_shsh.bd))))))) 0) laws_intactInt64SS_shsh.kp 4 0 m (laws_intactInt64SS_shsh.st0 x0 x1 y2 y3 gv4 gv5 gv6 gv7 gv8 gv9 gv10 gv11 gv12 gv13 gv14 gv15 rv16 i17) (laws_intactInt64SS_shsh.k0 N K gv4 gv5 gv6 gv7 gv8 gv9 gv10 gv11 gv12 gv13 gv14 gv15) = (laws_intactInt64SS_shsh.l0 N (fun d0 => K (.bool (d0)) [⟨false, .hdr 2 gv4 gv5 gv6 gv7 (some gv8)⟩, ⟨false, .hdr 3 gv9 gv10 gv11 gv12 (some gv13)⟩, ⟨false, .flat 0 (.ints .i64 gv14)⟩, ⟨false, .flat 0 (.ints .i64 gv15)⟩]) x0 y2 gv6 gv7 gv8 gv11 gv12 gv13 gv14 gv15 ((laws_intactInt64SS_shsh.k0 N K gv4 gv5 gv6 gv7 gv8 gv9 gv10 gv11 gv12 gv13 gv14 gv15) (.exit 0) (laws_intactInt64SS_shsh.sx0_0 x0 x1 y2 y3 gv4 gv5 gv6 gv7 gv8 gv9 gv10 gv11 gv12 gv13 gv14 gv15 rv16)) m i17) := by
  intro m
  induction m with
  | zero => intros; rfl
  | succ m ih =>
    intro i17
    refine (laws_intactInt64SS_shsh.b0_eq N K (fun s => xloop (xcode (E20 N) ents laws_intactInt64SS_shsh.kp 4 N (cL (cK (cB (cA (cB (cB (cB laws_intactInt64SS_shsh.bd))))))) 0) laws_intactInt64SS_shsh.kp 4 0 m s (laws_intactInt64SS_shsh.k0 N K gv4 gv5 gv6 gv7 gv8 gv9 gv10 gv11 gv12 gv13 gv14 gv15)) x0 x1 y2 y3 gv4 gv5 gv6 gv7 gv8 gv9 gv10 gv11 gv12 gv13 gv14 gv15 rv16 i17).trans ?_
    simp only [ih]
    kernel_rfl

theorem laws_intactInt64SS_shsh.s_eq {ρ : Type} (N : Nat) (K : AV → Heap → Option ρ) (x0 : Nat) (x1 : Nat) (y2 : Nat) (y3 : Nat) (gv4 : Nat) (gv5 : Nat) (gv6 : Nat → Nat) (gv7 : Nat → Nat) (gv8 : Nat → Nat) (gv9 : Nat) (gv10 : Nat) (gv11 : Nat → Nat) (gv12 : Nat → Nat) (gv13 : Nat → Nat) (gv14 : Nat → Int) (gv15 : Nat → Int) :
    xbody (E20 N) ents laws_intactInt64SS_shsh.kp N Go.Proofs.Try.f12 laws_intactInt64SS_shsh.bd [.slice true 0 0 x0 (.exact x1) 1, .slice true 1 0 y2 (.exact y3) 1] [⟨false, .hdr 2 gv4 gv5 gv6 gv7 (some gv8)⟩, ⟨false, .hdr 3 gv9 gv10 gv11 gv12 (some gv13)⟩, ⟨false, .flat 0 (.ints .i64 gv14)⟩, ⟨false, .flat 0 (.ints .i64 gv15)⟩] K = (laws_intactInt64SS_shsh.s N (fun d0 => K (.bool (d0)) [⟨false, .hdr 2 gv4 gv5 gv6 gv7 (some gv8)⟩, ⟨false, .hdr 3 gv9 gv10 gv11 gv12 (some gv13)⟩, ⟨false, .flat 0 (.ints .i64 gv14)⟩, ⟨false, .flat 0 (.ints .i64 gv15)⟩]) (fun rv16 i17 => xloop (xcode (E20 N) ents laws_intactInt64SS_shsh.kp 4 N (cL (cK (cB (cA (cB (cB (cB laws_intactInt64SS_shsh.bd))))))) 0) laws_intactInt64SS_shsh.kp 4 0 N (laws_intactInt64SS_shsh.st0 x0 x1 y2 y3 gv4 gv5 gv6 gv7 gv8 gv9 gv10 gv11 gv12 gv13 gv14 gv15 rv16 i17) (laws_intactInt64SS_shsh.k0 N K gv4 gv5 gv6 gv7 gv8 gv9 gv10 gv11 gv12 gv13 gv14 gv15)) x0 y2) := by kernel_rfl

theorem laws_intactInt64SS_shsh.eq {ρ : Type} (N : Nat) (K : AV → Heap → Option ρ) (x0 : Nat) (x1 : Nat) (y2 : Nat) (y3 : Nat) (gv4 : Nat) (gv5 : Nat) (gv6 : Nat → Nat) (gv7 : Nat → Nat) (gv8 : Nat → Nat) (gv9 : Nat) (gv10 : Nat) (gv11 : Nat → Nat) (gv12 : Nat → Nat) (gv13 : Nat → Nat) (gv14 : Nat → Int) (gv15 : Nat → Int) :
    xbody (E20 N) ents laws_intactInt64SS_shsh.kp N Go.Proofs.Try.f12 laws_intactInt64SS_shsh.bd [.slice true 0 0 x0 (.exact x1) 1, .slice true 1 0 y2 (.exact y3) 1] [⟨false, .hdr 2 gv4 gv5 gv6 gv7 (some gv8)⟩, ⟨false, .hdr 3 gv9 gv10 gv11 gv12 (some gv13)⟩, ⟨false, .flat 0 (.ints .i64 gv14)⟩, ⟨false, .flat 0 (.ints .i64 gv15)⟩] K = (laws_intactInt64SS_shsh N (fun d0 => K (.bool (d0)) [⟨false, .hdr 2 gv4 gv5 gv6 gv7 (some gv8)⟩, ⟨false, .hdr 3 gv9 gv10 gv11 gv12 (some gv13)⟩, ⟨false, .flat 0 (.ints .i64 gv14)⟩, ⟨false, .flat 0 (.ints .i64 gv15)⟩]) x0 x1 y2 y3 gv4 gv5 gv6 gv7 gv8 gv9 gv10 gv11 gv12 gv13 gv14 gv15) := by
  refine (laws_intactInt64SS_shsh.s_eq N K x0 x1 y2 y3 gv4 gv5 gv6 gv7 gv8 gv9 gv10 gv11 gv12 gv13 gv14 gv15).trans ?_
  simp only [laws_intactInt64SS_shsh.l0_eq, laws_intactInt64SS_shsh.a0_0_eq]
  kernel_rfl

noncomputable def laws_intactInt64SS_shsh.en (N : Nat) (ρ : Type) : List AV → Heap → (AV → Heap → Option ρ) → Option ρ
  | [.slice true 0 0 x0 (.exact x1) 1, .slice true 1 0 y2 (.exact y3) 1], [⟨false, .hdr 2 gv4 gv5 gv6 gv7 (some gv8)⟩, ⟨false, .hdr 3 gv9 gv10 gv11 gv12 (some gv13)⟩, ⟨false, .flat 0 (.ints .i64 gv14)⟩, ⟨false, .flat 0 (.ints .i64 gv15)⟩], K => (laws_intactInt64SS_shsh N (fun d0 => K (.bool (d0)) [⟨false, .hdr 2 gv4 gv5 gv6 gv7 (some gv8)⟩, ⟨false, .hdr 3 gv9 gv10 gv11 gv12 (some gv13)⟩, ⟨false, .flat 0 (.ints .i64 gv14)⟩, ⟨false, .flat 0 (.ints .i64 gv15)⟩]) x0 x1 y2 y3 gv4 gv5 gv6 gv7 gv8 gv9 gv10 gv11 gv12 gv13 gv14 gv15)
  | _, _, _ => none

theorem laws_intactInt64SS_shsh.en_ok (N : Nat) (hE : EnvOk (E20 N) ents) (ρ : Type) (args : List AV) (sh : Heap) (K : AV → Heap → Option ρ) (r : ρ) (h : laws_intactInt64SS_shsh.en N ρ args sh K = some r) : ∃ v sh', K v sh' = some r ∧ FnOk (E20 N).P 12 args sh v sh' := by
  unfold laws_intactInt64SS_shsh.en at h
  split at h
  · exact fn_ok hE (kp := laws_intactInt64SS_shsh.kp) (N := N) Go.Proofs.Try.func12 (c := laws_intactInt64SS_shsh.bd) (by kernel_rfl) ((laws_intactInt64SS_shsh.eq N _ _ _ _ _ _ _ _ _ _ _ _ _ _ _ _ _).trans h)
  · cases h

noncomputable def E21 (N : Nat) : Env := (E20 N).add 12 (laws_intactInt64SS_shsh.en N)

theorem E21_ok (N : Nat) : EnvOk (E21 N) ents := Env.add_ok (E20_ok N) (laws_intactInt64SS_shsh.en_ok N (E20_ok N))

noncomputable def laws_markInt64S_s.kp : Keeps := ⟨[(0, [0, 1, 5], [], [])], [(0, [1], [], [])], []⟩

noncomputable def laws_markInt64S_s.bd : Code := bodyOf Go.Proofs.Try.f19

noncomputable def laws_markInt64S_s.fin {ρ : Type} (N : Nat) (K : AV → Heap → Option ρ) (gv3 : Nat) (gv4 : Nat → Int) : XE → St → Option ρ := finK (E21 N) laws_markInt64S_s.kp.fins Go.Proofs.Try.f19 [⟨true, .flat gv3 (.ints .i64 gv4)⟩] K

noncomputable def laws_markInt64S_s.k0 {ρ : Type} (N : Nat) (K : AV → Heap → Option ρ) (gv3 : Nat) (gv4 : Nat → Int) : XE → St → Option ρ := (blockK laws_markInt64S_s.kp 1 0 (seqK (xcode (E21 N) ents laws_markInt64S_s.kp 1 N (cB (cB laws_markInt64S_s.bd)) 0) (laws_markInt64S_s.fin N K gv3 gv4)))

theorem laws_markInt64S_s.k0_mix {ρ : Type} (N : Nat) (K : AV → Heap → Option ρ) (gv3 : Nat) (gv4 : Nat → Int) : mixK (laws_markInt64S_s.fin N K gv3 gv4 .ret) (laws_markInt64S_s.k0 N K gv3 gv4) = (laws_markInt64S_s.k0 N K gv3 gv4) := by
  funext e s; cases e <;> kernel_rfl

noncomputable def laws_markInt64S_s.st0 (av0 : Nat) (av1 : Nat) (gv3 : Nat) (k5 : Int) (i6 : Int) (gv7 : Nat → Int) : St := ⟨sl 19 [(0, .slice false 0 0 av0 (.exact av1) 1), (1, .int .i64 (k5)), (5, .int .i64 (i6))], [⟨true, .flat gv3 (.ints .i64 gv7)⟩]⟩

noncomputable def laws_markInt64S_s.sx0_0 (gv3 : Nat) (ov8 : Int) (ov9 : Nat → Int) : St := ⟨sl 19 [(1, .int .i64 (ov8))], [⟨true, .flat gv3 (.ints .i64 ov9)⟩]⟩

theorem laws_markInt64S_s.b0_gen {ρ : Type} (N : Nat) (K : AV → Heap → Option ρ) (L0 : St → Option ρ) (kv : XE → St → Option ρ) (av0 : Nat) (av1 : Nat) (gv3 : Nat) (gv4 : Nat → Int) (k5 : Int) (i6 : Int) (gv7 : Nat → Int) :
    xcode (E21 N) ents laws_markInt64S_s.kp 1 N (cL (cK (cB (cA (cB laws_markInt64S_s.bd))))) 0 (laws_markInt64S_s.st0 av0 av1 gv3 k5 i6 gv7) (roundK laws_markInt64S_s.kp 1 0 L0 (mixK (laws_markInt64S_s.fin N K gv3 gv4 .ret) kv)) = (laws_markInt64S_s.b0 N (fun d0 d1 => K (.int .i64 (d0)) [⟨true, .flat gv3 (.ints .i64 d1)⟩]) (fun k5 i6 gv7 => L0 (laws_markInt64S_s.st0 av0 av1 gv3 k5 i6 gv7)) (fun ov8 ov9 => kv (.exit 0) (laws_markInt64S_s.sx0_0 gv3 ov8 ov9)) av0 k5 i6 gv7) := by kernel_rfl

theorem laws_markInt64S_s.b0_eq {ρ : Type} (N : Nat) (K : AV → Heap → Option ρ) (L0 : St → Option ρ) (av0 : Nat) (av1 : Nat) (gv3 : Nat) (gv4 : Nat → Int) (k5 : Int) (i6 : Int) (gv7 : Nat → Int) :
    xcode (E21 N) ents laws_markInt64S_s.kp 1 N (cL (cK (cB (cA (cB laws_markInt64S_s.bd))))) 0 (laws_markInt64S_s.st0 av0 av1 gv3 k5 i6 gv7) (roundK laws_markInt64S_s.kp 1 0 L0 (laws_markInt64S_s.k0 N K gv3 gv4)) = (laws_markInt64S_s.b0 N (fun d0 d1 => K (.int .i64 (d0)) [⟨true, .flat gv3 (.ints .i64 d1)⟩]) (fun k5 i6 gv7 => L0 (laws_markInt64S_s.st0 av0 av1 gv3 k5 i6 gv7)) (fun ov8 ov9 => (laws_markInt64S_s.k0 N K gv3 gv4) (.exit 0) (laws_markInt64S_s.sx0_0 gv3 ov8 ov9)) av0 k5 i6 gv7) := by
  have h := laws_markInt64S_s.b0_gen N K L0 (laws_markInt64S_s.k0 N K gv3 gv4) av0 av1 gv3 gv4 k5 i6 gv7
  rw [laws_markInt64S_s.k0_mix] at h
  exact h

theorem laws_markInt64S_s.a0_0_eq {ρ : Type} (N : Nat) (K : AV → Heap → Option ρ) (gv3 : Nat) (gv4 : Nat → Int) (ov8 : Int) (ov9 : Nat → Int) :
    (laws_markInt64S_s.k0 N K gv3 gv4) (.exit 0) (laws_markInt64S_s.sx0_0 gv3 ov8 ov9) = (laws_markInt64S_s.a0_0 N (fun d0 d1 => K (.int .i64 (d0)) [⟨true, .flat gv3 (.ints .i64 d1)⟩]) ov8 ov9) := by kernel_rfl

theorem laws_markInt64S_s.l0_eq {ρ : Type} (N : Nat) (K : AV → Heap → Option ρ) (av0 : Nat) (av1 : Nat) (gv3 : Nat) (gv4 : Nat → Int) :
    ∀ (m : Nat) (k5 : Int) (i6 : Int) (gv7 : Nat → Int), xloop (xcode (E21 N) ents laws_markInt64S_s.kp 1 N (cL (cK (cB (cA (cB laws_markInt64S_s.bd))))) 0) laws_markInt64S_s.kp 1 0 m (laws_markInt64S_s.st0 av0 av1 gv3 k5 i6 gv7) (laws_markInt64S_s.k0 N K gv3 gv4) = (laws_markInt64S_s.l0 N (fun d0 d1 => K (.int .i64 (d0)) [⟨true, .flat gv3 (.ints .i64 d1)⟩]) av0 (fun ov8 ov9 => (laws_markInt64S_s.k0 N K gv3 gv4) (.exit 0) (laws_markInt64S_s.sx0_0 gv3 ov8 ov9)) m k5 i6 gv7) := by
  intro m
  induction m with
  | zero => intros; rfl
  | succ m ih =>
    intro k5 i6 gv7
    refine (laws_markInt64S_s.b0_eq N K (fun s => xloop (xcode (E21 N) ents laws_markInt64S_s.kp 1 N (cL (cK (cB (cA (cB laws_markInt64S_s.bd))))) 0) laws_markInt64S_s.kp 1 0 m s (laws_markInt64S_s.k0 N K gv3 gv4)) av0 av1 gv3 gv4 k5 i6 gv7).trans ?_
    simp only [ih]
    kernel_rfl

theorem laws_markInt64S_s.s_eq {ρ : Type} (N : Nat) (K : AV → Heap → Option ρ) (av0 : Nat) (av1 : Nat) (k2 : Int) (gv3 : Nat) (gv4 : Nat → Int) :
    xbody (E21 N) ents laws_markInt64S_s.kp N Go.Proofs.Try.f19 laws_markInt64S_s.bd [.slice false 0 0 av0 (.exact av1) 1, .int .i64 (k2)] [⟨true, .flat gv3 (.ints .i64 gv4)⟩] K = (laws_markInt64S_s.s N (fun d0 d1 => K (.int .i64 (d0)) [⟨true, .flat gv3 (.ints .i64 d1)⟩]) (fun k5 i6 gv7 => xloop (xcode (E21 N) ents laws_markInt64S_s.kp 1 N (cL (cK (cB (cA (cB laws_markInt64S_s.bd))))) 0) laws_markInt64S_s.kp 1 0 N (laws_markInt64S_s.st0 av0 av1 gv3 k5 i6 gv7) (laws_markInt64S_s.k0 N K gv3 gv4)) k2 gv4) := by kernel_rfl

theorem laws_markInt64S_s.eq {ρ : Type} (N : Nat) (K : AV → Heap → Option ρ) (av0 : Nat) (av1 : Nat) (k2 : Int) (gv3 : Nat) (gv4 : Nat → Int) :
    xbody (E21 N) ents laws_markInt64S_s.kp N Go.Proofs.Try.f19 laws_markInt64S_s.bd [.slice false 0 0 av0 (.exact av1) 1, .int .i64 (k2)] [⟨true, .flat gv3 (.ints .i64 gv4)⟩] K = (laws_markInt64S_s N (fun d0 d1 => K (.int .i64 (d0)) [⟨true, .flat gv3 (.ints .i64 d1)⟩]) av0 av1 k2 gv3 gv4) := by
  refine (laws_markInt64S_s.s_eq N K av0 av1 k2 gv3 gv4).trans ?_
  simp only [laws_markInt64S_s.l0_eq, laws_markInt64S_s.a0_0_eq]
  kernel_rfl

noncomputable def laws_markInt64S_su.kp : Keeps := ⟨[(0, [0, 1, 5], [], [])], [(0, [1], [], [])], []⟩

noncomputable def laws_markInt64S_su.bd : Code := bodyOf Go.Proofs.Try.f19

noncomputable def laws_markInt64S_su.fin {ρ : Type} (N : Nat) (K : AV → Heap → Option ρ) (gv2 : Nat) (gv3 : Nat → Int) : XE → St → Option ρ := finK (E21 N) laws_markInt64S_su.kp.fins Go.Proofs.Try.f19 [⟨true, .flat gv2 (.ints .i64 gv3)⟩] K

noncomputable def laws_markInt64S_su.k0 {ρ : Type} (N : Nat) (K : AV → Heap → Option ρ) (gv2 : Nat) (gv3 : Nat → Int) : XE → St → Option ρ := (blockK laws_markInt64S_su.kp 1 0 (seqK (xcode (E21 N) ents laws_markInt64S_su.kp 1 N (cB (cB laws_markInt64S_su.bd)) 0) (laws_markInt64S_su.fin N K gv2 gv3)))

theorem laws_markInt64S_su.k0_mix {ρ : Type} (N : Nat) (K : AV → Heap → Option ρ) (gv2 : Nat) (gv3 : Nat → Int) : mixK (laws_markInt64S_su.fin N K gv2 gv3 .ret) (laws_markInt64S_su.k0 N K gv2 gv3) = (laws_markInt64S_su.k0 N K gv2 gv3) := by
  funext e s; cases e <;> kernel_rfl

noncomputable def laws_markInt64S_su.st0 (av0 : Nat) (gv2 : Nat) (k4 : Int) (i5 : Int) (gv6 : Nat → Int) : St := ⟨sl 19 [(0, .slice false 0 0 av0 .unk 1), (1, .int .i64 (k4)), (5, .int .i64 (i5))], [⟨true, .flat gv2 (.ints .i64 gv6)⟩]⟩

noncomputable def laws_markInt64S_su.sx0_0 (gv2 : Nat) (ov7 : Int) (ov8 : Nat → Int) : St := ⟨sl 19 [(1, .int .i64 (ov7))], [⟨true, .flat gv2 (.ints .i64 ov8)⟩]⟩

theorem laws_markInt64S_su.b0_gen {ρ : Type} (N : Nat) (K : AV → Heap → Option ρ) (L0 : St → Option ρ) (kv : XE → St → Option ρ) (av0 : Nat) (gv2 : Nat) (gv3 : Nat → Int) (k4 : Int) (i5 : Int) (gv6 : Nat → Int) :
    xcode (E21 N) ents laws_markInt64S_su.kp 1 N (cL (cK (cB (cA (cB laws_markInt64S_su.bd))))) 0 (laws_markInt64S_su.st0 av0 gv2 k4 i5 gv6) (roundK laws_markInt64S_su.kp 1 0 L0 (mixK (laws_markInt64S_su.fin N K gv2 gv3 .ret) kv)) = (laws_markInt64S_su.b0 N (fun d0 d1 => K (.int .i64 (d0)) [⟨true, .flat gv2 (.ints .i64 d1)⟩]) (fun k4 i5 gv6 => L0 (laws_markInt64S_su.st0 av0 gv2 k4 i5 gv6)) (fun ov7 ov8 => kv (.exit 0) (laws_markInt64S_su.sx0_0 gv2 ov7 ov8)) av0 k4 i5 gv6) := by kernel_rfl

theorem laws_markInt64S_su.b0_eq {ρ : Type} (N : Nat) (K : AV → Heap → Option ρ) (L0 : St → Option ρ) (av0 : Nat) (gv2 : Nat) (gv3 : Nat → Int) (k4 : Int) (i5 : Int) (gv6 : Nat → Int) :
    xcode (E21 N) ents laws_markInt64S_su.kp 1 N (cL (cK (cB (cA (cB laws_markInt64S_su.bd))))) 0 (laws_markInt64S_su.st0 av0 gv2 k4 i5 gv6) (roundK laws_markInt64S_su.kp 1 0 L0 (laws_markInt64S_su.k0 N K gv2 gv3)) = (laws_markInt64S_su.b0 N (fun d0 d1 => K (.int .i64 (d0)) [⟨true, .flat gv2 (.ints .i64 d1)⟩]) (fun k4 i5 gv6 => L0 (laws_markInt64S_su.st0 av0 gv2 k4 i5 gv6)) (fun ov7 ov8 => (laws_markInt64S_su.k0 N K gv2 gv3) (.exit 0) (laws_markInt64S_su.sx0_0 gv2 ov7 ov8)) av0 k4 i5 gv6) := by
  have h := laws_markInt64S_su.b0_gen N K L0 (laws_markInt64S_su.k0 N K gv2 gv3) av0 gv2 gv3 k4 i5 gv6
  rw [laws_markInt64S_su.k0_mix] at h
  exact h

theorem laws_markInt64S_su.a0_0_eq {ρ : Type} (N : Nat) (K : AV → Heap → Option ρ) (gv2 : Nat) (gv3 : Nat → Int) (ov7 : Int) (ov8 : Nat → Int) :
    (laws_markInt64S_su.k0 N K gv2 gv3) (.exit 0) (laws_markInt64S_su.sx0_0 gv2 ov7 ov8) = (laws_markInt64S_su.a0_0 N (fun d0 d1 => K (.int .i64 (d0)) [⟨true, .flat gv2 (.ints .i64 d1)⟩]) ov7 ov8) := by kernel_rfl

theorem laws_markInt64S_su.l0_eq {ρ : Type} (N : Nat) (K : AV → Heap → Option ρ) (av0 : Nat) (gv2 : Nat) (gv3 : Nat → Int) :
    ∀ (m : Nat) (k4 : Int) (i5 : Int) (gv6 : Nat → Int), xloop (xcode (E21 N) ents laws_markInt64S_su.kp 1 N (cL (cK (cB (cA (cB laws_markInt64S_su.bd))))) 0) laws_markInt64S_su.kp 1 0 m (laws_markInt64S_su.st0 av0 gv2 k4 i5 gv6) (laws_markInt64S_su.k0 N K gv2 gv3) = (laws_markInt64S_su.l0 N (fun d0 d1 => K (.int .i64 (d0)) [⟨true, .flat gv2 (.ints .i64 d1)⟩]) av0 (fun ov7 ov8 => (laws_markInt64S_su.k0 N K gv2 gv3) (.exit 0) (laws_markInt64S_su.sx0_0 gv2 ov7 ov8)) m k4 i5 gv6) := by
  intro m
  induction m with
  | zero => intros; rfl
  | succ m ih =>
    intro k4 i5 gv6
    refine (laws_markInt64S_su.b0_eq N K (fun s => xloop (xcode (E21 N) ents laws_markInt64S_su.kp 1 N (cL (cK (cB (cA (cB laws_markInt64S_su.bd))))) 0) laws_markInt64S_su.kp 1 0 m s (laws_markInt64S_su.k0 N K gv2 gv3)) av0 gv2 gv3 k4 i5 gv6).trans ?_
    simp only [ih]
    kernel_rfl

theorem laws_markInt64S_su.s_eq {ρ : Type} (N : Nat) (K : AV → Heap → Option ρ) (av0 : Nat) (k1 : Int) (gv2 : Nat) (gv3 : Nat → Int) :
    xbody (E21 N) ents laws_markInt64S_su.kp N Go.Proofs.Try.f19 laws_markInt64S_su.bd [.slice false 0 0 av0 .unk 1, .int .i64 (k1)] [⟨true, .flat gv2 (.ints .i64 gv3)⟩] K = (laws_markInt64S_su.s N (fun d0 d1 => K (.int .i64 (d0)) [⟨true, .flat gv2 (.ints .i64 d1)⟩]) (fun k4 i5 gv6 => xloop (xcode (E21 N) ents laws_markInt64S_su.kp 1 N (cL (cK (cB (cA (cB laws_markInt64S_su.bd))))) 0) laws_markInt64S_su.kp 1 0 N (laws_markInt64S_su.st0 av0 gv2 k4 i5 gv6) (laws_markInt64S_su.k0 N K gv2 gv3)) k1 gv3) := by kernel_rfl

theorem laws_markInt64S_su.eq {ρ : Type} (N : Nat) (K : AV → Heap → Option ρ) (av0 : Nat) (k1 : Int) (gv2 : Nat) (gv3 : Nat → Int) :
    xbody (E21 N) ents laws_markInt64S_su.kp N Go.Proofs.Try.f19 laws_markInt64S_su.bd [.slice false 0 0 av0 .unk 1, .int .i64 (k1)] [⟨true, .flat gv2 (.ints .i64 gv3)⟩] K = (laws_markInt64S_su N (fun d0 d1 => K (.int .i64 (d0)) [⟨true, .flat gv2 (.ints .i64 d1)⟩]) av0 k1 gv2 gv3) := by
  refine (laws_markInt64S_su.s_eq N K av0 k1 gv2 gv3).trans ?_
  simp only [laws_markInt64S_su.l0_eq, laws_markInt64S_su.a0_0_eq]
  kernel_rfl

noncomputable def laws_markInt64S_s.en (N : Nat) (ρ : Type) : List AV → Heap → (AV → Heap → Option ρ) → Option ρ
  | [.slice false 0 0 av0 (.exact av1) 1, .int .i64 (k2)], [⟨true, .flat gv3 (.ints .i64 gv4)⟩], K => (laws_markInt64S_s N (fun d0 d1 => K (.int .i64 (d0)) [⟨true, .flat gv3 (.ints .i64 d1)⟩]) av0 av1 k2 gv3 gv4)
  | [.slice false 0 0 av0 .unk 1, .int .i64 (k1)], [⟨true, .flat gv2 (.ints .i64 gv3)⟩], K => (laws_markInt64S_su N (fun d0 d1 => K (.int .i64 (d0)) [⟨true, .flat gv2 (.ints .i64 d1)⟩]) av0 k1 gv2 gv3)
  | _, _, _ => none

theorem laws_markInt64S_s.en_ok (N : Nat) (hE : EnvOk (E21 N) ents) (ρ : Type) (args : List AV) (sh : Heap) (K : AV → Heap → Option ρ) (r : ρ) (h : laws_markInt64S_s.en N ρ args sh K = some r) : ∃ v sh', K v sh' = some r ∧ FnOk (E21 N).P 19 args sh v sh' := by
  unfold laws_markInt64S_s.en at h
  split at h
  · exact fn_ok hE (kp := laws_markInt64S_s.kp) (N := N) Go.Proofs.Try.func19 (c := laws_markInt64S_s.bd) (by kernel_rfl) ((laws_markInt64S_s.eq N _ _ _ _ _ _).trans h)
  · exact fn_ok hE (kp := laws_markInt64S_su.kp) (N := N) Go.Proofs.Try.func19 (c := laws_markInt64S_su.bd) (by kernel_rfl) ((laws_markInt64S_su.eq N _ _ _ _ _).trans h)
  · cases h

noncomputable def E22 (N : Nat) : Env := (E21 N).add 19 (laws_markInt64S_s.en N)

theorem E22_ok (N : Nat) : EnvOk (E22 N) ents := Env.add_ok (E21_ok N) (laws_markInt64S_s.en_ok N (E21_ok N))

noncomputable def laws_markInt64SS_sh.kp : Keeps := ⟨[(0, [0, 1, 5], [], [])], [(0, [1], [], [])], []⟩

noncomputable def laws_markInt64SS_sh.bd : Code := bodyOf Go.Proofs.Try.f18

noncomputable def laws_markInt64SS_sh.fin {ρ : Type} (N : Nat) (K : AV → Heap → Option ρ) (gv3 : Nat) (gv4 : Nat) (gv5 : Nat → Nat) (gv6 : Nat → Nat) (gv7 : Nat → Nat) (gv8 : Nat → Int) : XE → St → Option ρ := finK (E22 N) laws_markInt64SS_sh.kp.fins Go.Proofs.Try.f18 [⟨false, .hdr 1 gv3 gv4 gv5 gv6 (some gv7)⟩, ⟨true, .flat 0 (.ints .i64 gv8)⟩] K

noncomputable def laws_markInt64SS_sh.k0 {ρ : Type} (N : Nat) (K : AV → Heap → Option ρ) (gv3 : Nat) (gv4 : Nat) (gv5 : Nat → Nat) (gv6 : Nat → Nat) (gv7 : Nat → Nat) (gv8 : Nat → Int) : XE → St → Option ρ := (blockK laws_markInt64SS_sh.kp 2 0 (seqK (xcode (E22 N) ents laws_markInt64SS_sh.kp 2 N (cB (cB laws_markInt64SS_sh.bd)) 0) (laws_markInt64SS_sh.fin N K gv3 gv4 gv5 gv6 gv7 gv8)))

theorem laws_markInt64SS_sh.k0_mix {ρ : Type} (N : Nat) (K : AV → Heap → Option ρ) (gv3 : Nat) (gv4 : Nat) (gv5 : Nat → Nat) (gv6 : Nat → Nat) (gv7 : Nat → Nat) (gv8 : Nat → Int) : mixK (laws_markInt64SS_sh.fin N K gv3 gv4 gv5 gv6 gv7 gv8 .ret) (laws_markInt64SS_sh.k0 N K gv3 gv4 gv5 gv6 gv7 gv8) = (laws_markInt64SS_sh.k0 N K gv3 gv4 gv5 gv6 gv7 gv8) := by
  funext e s; cases e <;> kernel_rfl

noncomputable def laws_markInt64SS_sh.st0 (av0 : Nat) (av1 : Nat) (gv3 : Nat) (gv4 : Nat) (gv5 : Nat → Nat) (gv6 : Nat → Nat) (gv7 : Nat → Nat) (k9 : Int) (i10 : Int) (gv11 : Nat → Int) : St := ⟨sl 19 [(0, .slice true 0 0 av0 (.exact av1) 1), (1, .int .i64 (k9)), (5, .int .i64 (i10))], [⟨false, .hdr 1 gv3 gv4 gv5 gv6 (some gv7)⟩, ⟨true, .flat 0 (.ints .i64 gv11)⟩]⟩

noncomputable def laws_markInt64SS_sh.sx0_0 (gv3 : Nat) (gv4 : Nat) (gv5 : Nat → Nat) (gv6 : Nat → Nat) (gv7 : Nat → Nat) (ov14 : Int) (ov15 : Nat → Int) : St := ⟨sl 19 [(1, .int .i64 (ov14))], [⟨false, .hdr 1 gv3 gv4 gv5 gv6 (some gv7)⟩, ⟨true, .flat 0 (.ints .i64 ov15)⟩]⟩

theorem laws_markInt64SS_sh.b0_gen {ρ : Type} (N : Nat) (K : AV → Heap → Option ρ) (L0 : St → Option ρ) (kv : XE → St → Option ρ) (av0 : Nat) (av1 : Nat) (gv3 : Nat) (gv4 : Nat) (gv5 : Nat → Nat) (gv6 : Nat → Nat) (gv7 : Nat → Nat) (gv8 : Nat → Int) (k9 : Int) (i10 : Int) (gv11 : Nat → Int) :
    xcode (E22 N) ents laws_markInt64SS_sh.kp 2 N (cL (cK (cB (cA (cB laws_markInt64SS_sh.bd))))) 0 (laws_markInt64SS_sh.st0 av0 av1 gv3 gv4 gv5 gv6 gv7 k9 i10 gv11) (roundK laws_markInt64SS_sh.kp 2 0 L0 (mixK (laws_markInt64SS_sh.fin N K gv3 gv4 gv5 gv6 gv7 gv8 .ret) kv)) = (laws_markInt64SS_sh.b0 N (fun d0 d1 => K (.int .i64 (d0)) [⟨false, .hdr 1 gv3 gv4 gv5 gv6 (some gv7)⟩, ⟨true, .flat 0 (.ints .i64 d1)⟩]) (fun k9 i10 gv11 => L0 (laws_markInt64SS_sh.st0 av0 av1 gv3 gv4 gv5 gv6 gv7 k9 i10 gv11)) (fun ov14 ov15 => kv (.exit 0) (laws_markInt64SS_sh.sx0_0 gv3 gv4 gv5 gv6 gv7 ov14 ov15)) av0 gv5 gv6 gv7 k9 i10 gv11) := by kernel_rfl

theorem laws_markInt64SS_sh.b0_eq {ρ : Type} (N : Nat) (K : AV → Heap → Option ρ) (L0 : St → Option ρ) (av0 : Nat) (av1 : Nat) (gv3 : Nat) (gv4 : Nat) (gv5 : Nat → Nat) (gv6 : Nat → Nat) (gv7 : Nat → Nat) (gv8 : Nat → Int) (k9 : Int) (i10 : Int) (gv11 : Nat → Int) :
    xcode (E22 N) ents laws_markInt64SS_sh.kp 2 N (cL (cK (cB (cA (cB laws_markInt64SS_sh.bd))))) 0 (laws_markInt64SS_sh.st0 av0 av1 gv3 gv4 gv5 gv6 gv7 k9 i10 gv11) (roundK laws_markInt64SS_sh.kp 2 0 L0 (laws_markInt64SS_sh.k0 N K gv3 gv4 gv5 gv6 gv7 gv8)) = (laws_markInt64SS_sh.b0 N (fun d0 d1 => K (.int .i64 (d0)) [⟨false, .hdr 1 gv3 gv4 gv5 gv6 (some gv7)⟩, ⟨true, .flat 0 (.ints .i64 d1)⟩]) (fun k9 i10 gv11 => L0 (laws_markInt64SS_sh.st0 av0 av1 gv3 gv4 gv5 gv6 gv7 k9 i10 gv11)) (fun ov14 ov15 => (laws_markInt64SS_sh.k0 N K gv3 gv4 gv5 gv6 gv7 gv8) (.exit 0) (laws_markInt64SS_sh.sx0_0 gv3 gv4 gv5 gv6 gv7 ov14 ov15)) av0 gv5 gv6 gv7 k9 i10 gv11) := by
  have h := laws_markInt64SS_sh.b0_gen N K L0 (laws_markInt64SS_sh.k0 N K gv3 gv4 gv5 gv6 gv7 gv8) av0 av1 gv3 gv4 gv5 gv6 gv7 gv8 k9 i10 gv11
  rw [laws_markInt64SS_sh.k0_mix] at h
  exact h

theorem laws_markInt64SS_sh.a0_0_eq {ρ : Type} (N : Nat) (K : AV → Heap → Option ρ) (gv3 : Nat) (gv4 : Nat) (gv5 : Nat → Nat) (gv6 : Nat → Nat) (gv7 : Nat → Nat) (gv8 : Nat → Int) (ov14 : Int) (ov15 : Nat → Int) :
    (laws_markInt64SS_sh.k0 N K gv3 gv4 gv5 gv6 gv7 gv8) (.exit 0) (laws_markInt64SS_sh.sx0_0 gv3 gv4 gv5 gv6 gv7 ov14 ov15) = (laws_markInt64SS_sh.a0_0 N (fun d0 d1 => K (.int .i64 (d0)) [⟨false, .hdr 1 gv3 gv4 gv5 gv6 (some gv7)⟩, ⟨true, .flat 0 (.ints .i64 d1)⟩]) ov14 ov15) := by kernel_rfl

theorem laws_markInt64SS_sh.l0_eq {ρ : Type} (N : Nat) (K : AV → Heap → Option ρ) (av0 : Nat) (av1 : Nat) (gv3 : Nat) (gv4 : Nat) (gv5 : Nat → Nat) (gv6 : Nat → Nat) (gv7 : Nat → Nat) (gv8 : Nat → Int) :
    ∀ (m : Nat) (k9 : Int) (i10 : Int) (gv11 : Nat → Int), xloop (xcode (E22 N) ents laws_markInt64SS_sh.kp 2 N (cL (cK (cB (cA (cB laws_markInt64SS_sh.bd))))) 0) laws_markInt64SS_sh.kp 2 0 m (laws_markInt64SS_sh.st0 av0 av1 gv3 gv4 gv5 gv6 gv7 k9 i10 gv11) (laws_markInt64SS_sh.k0 N K gv3 gv4 gv5 gv6 gv7 gv8) = (laws_markInt64SS_sh.l0 N (fun d0 d1 => K (.int .i64 (d0)) [⟨false, .hdr 1 gv3 gv4 gv5 gv6 (some gv7)⟩, ⟨true, .flat 0 (.ints .i64 d1)⟩]) av0 gv5 gv6 gv7 (fun ov14 ov15 => (laws_markInt64SS_sh.k0 N K gv3 gv4 gv5 gv6 gv7 gv8) (.exit 0) (laws_markInt64SS_sh.sx0_0 gv3 gv4 gv5 gv6 gv7 ov14 ov15)) m k9 i10 gv11) := by
  intro m
  induction m with
  | zero => intros; rfl
  | succ m ih =>
    intro k9 i10 gv11
    refine (laws_markInt64SS_sh.b0_eq N K (fun s => xloop (xcode (E22 N) ents laws_markInt64SS_sh.kp 2 N (cL (cK (cB (cA (cB laws_markInt64SS_sh.bd))))) 0) laws_markInt64SS_sh.kp 2 0 m s (laws_markInt64SS_sh.k0 N K gv3 gv4 gv5 gv6 gv7 gv8)) av0 av1 gv3 gv4 gv5 gv6 gv7 gv8 k9 i10 gv11).trans ?_
    simp only [ih]
    kernel_rfl

theorem laws_markInt64SS_sh.s_eq {ρ : Type} (N : Nat) (K : AV → Heap → Option ρ) (av0 : Nat) (av1 : Nat) (k2 : Int) (gv3 : Nat) (gv4 : Nat) (gv5 : Nat → Nat) (gv6 : Nat → Nat) (gv7 : Nat → Nat) (gv8 : Nat → Int) :
    xbody (E22 N) ents laws_markInt64SS_sh.kp N Go.Proofs.Try.f18 laws_markInt64SS_sh.bd [.slice true 0 0 av0 (.exact av1) 1, .int .i64 (k2)] [⟨false, .hdr 1 gv3 gv4 gv5 gv6 (some gv7)⟩, ⟨true, .flat 0 (.ints .i64 gv8)⟩] K = (laws_markInt64SS_sh.s N (fun d0 d1 => K (.int .i64 (d0)) [⟨false, .hdr 1 gv3 gv4 gv5 gv6 (some gv7)⟩, ⟨true, .flat 0 (.ints .i64 d1)⟩]) (fun k9 i10 gv11 => xloop (xcode (E22 N) ents laws_markInt64SS_sh.kp 2 N (cL (cK (cB (cA (cB laws_markInt64SS_sh.bd))))) 0) laws_markInt64SS_sh.kp 2 0 N (laws_markInt64SS_sh.st0 av0 av1 gv3 gv4 gv5 gv6 gv7 k9 i10 gv11) (laws_markInt64SS_sh.k0 N K gv3 gv4 gv5 gv6 gv7 gv8)) k2 gv8) := by kernel_rfl

theorem laws_markInt64SS_sh.eq {ρ : Type} (N : Nat) (K : AV → Heap → Option ρ) (av0 : Nat) (av1 : Nat) (k2 : Int) (gv3 : Nat) (gv4 : Nat) (gv5 : Nat → Nat) (gv6 : Nat → Nat) (gv7 : Nat → Nat) (gv8 : Nat → Int) :
    xbody (E22 N) ents laws_markInt64SS_sh.kp N Go.Proofs.Try.f18 laws_markInt64SS_sh.bd [.slice true 0 0 av0 (.exact av1) 1, .int .i64 (k2)] [⟨false, .hdr 1 gv3 gv4 gv5 gv6 (some gv7)⟩, ⟨true, .flat 0 (.ints .i64 gv8)⟩] K = (laws_markInt64SS_sh N (fun d0 d1 => K (.int .i64 (d0)) [⟨false, .hdr 1 gv3 gv4 gv5 gv6 (some gv7)⟩, ⟨true, .flat 0 (.ints .i64 d1)⟩]) av0 av1 k2 gv3 gv4 gv5 gv6 gv7 gv8) := by
  refine (laws_markInt64SS_sh.s_eq N K av0 av1 k2 gv3 gv4 gv5 gv6 gv7 gv8).trans ?_
  simp only [laws_markInt64SS_sh.l0_eq, laws_markInt64SS_sh.a0_0_eq]
  kernel_rfl

noncomputable def laws_markInt64SS_sh.en (N : Nat) (ρ : Type) : List AV → Heap → (AV → Heap → Option ρ) → Option ρ
  | [.slice true 0 0 av0 (.exact av1) 1, .int .i64 (k2)], [⟨false, .hdr 1 gv3 gv4 gv5 gv6 (some gv7)⟩, ⟨true, .flat 0 (.ints .i64 gv8)⟩], K => (laws_markInt64SS_sh N (fun d0 d1 => K (.int .i64 (d0)) [⟨false, .hdr 1 gv3 gv4 gv5 gv6 (some gv7)⟩, ⟨true, .flat 0 (.ints .i64 d1)⟩]) av0 av1 k2 gv3 gv4 gv5 gv6 gv7 gv8)
  | _, _, _ => none

theorem laws_markInt64SS_sh.en_ok (N : Nat) (hE : EnvOk (E22 N) ents) (ρ : Type) (args : List AV) (sh : Heap) (K : AV → Heap → Option ρ) (r : ρ) (h : laws_markInt64SS_sh.en N ρ args sh K = some r) : ∃ v sh', K v sh' = some r ∧ FnOk (E22 N).P 18 args sh v sh' := by
  unfold laws_markInt64SS_sh.en at h
  split at h
  · exact fn_ok hE (kp := laws_markInt64SS_sh.kp) (N := N) Go.Proofs.Try.func18 (c := laws_markInt64SS_sh.bd) (by kernel_rfl) ((laws_markInt64SS_sh.eq N _ _ _ _ _ _ _ _ _ _).trans h)
  · cases h

noncomputable def E23 (N : Nat) : Env := (E22 N).add 18 (laws_markInt64SS_sh.en N)

theorem E23_ok (N : Nat) : EnvOk (E23 N) ents := Env.add_ok (E22_ok N) (laws_markInt64SS_sh.en_ok N (E22_ok N))
end Go.Proofs.YtiifnnokpjbapaaRR.H
