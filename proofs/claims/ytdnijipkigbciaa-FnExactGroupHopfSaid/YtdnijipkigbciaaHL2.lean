/- The program computes these functions. -/
import Derived.Test.YtdnijipkigbciaaHL1
namespace Go.Proofs.Ytdnijipkigbciaa.H
set_option linter.unusedVariables false
set_option linter.unusedSimpArgs false
open Go Go.RowKit Go.Proofs.Ytdnijipkigbciaa.Hy
set_option linter.unusedVariables false
set_option maxRecDepth 100000
noncomputable def impl_isGroupAt_sh.kp : Keeps := ⟨[(0, [0, 1, 26, 27], [], []), (2, [0, 1, 5, 26, 27, 31, 32], [], [])], [(0, [0, 1], [], []), (2, [0, 1, 26, 27], [], [])], []⟩

noncomputable def impl_isGroupAt_sh.bd : Code := bodyOf Go.Proofs.Try.f28

noncomputable def impl_isGroupAt_sh.fin {ρ : Type} (N : Nat) (K : AV → Heap → Option ρ) (gv3 : Nat) (gv4 : Nat) (gv5 : Nat → Nat) (gv6 : Nat → Nat) (gv7 : Nat → Nat) (gv8 : Nat → Int) : XE → St → Option ρ := finK (E19 N) impl_isGroupAt_sh.kp.fins Go.Proofs.Try.f28 [⟨false, .hdr 1 gv3 gv4 gv5 gv6 (some gv7)⟩, ⟨false, .flat 0 (.ints .i64 gv8)⟩] K

noncomputable def impl_isGroupAt_sh.k0 {ρ : Type} (N : Nat) (K : AV → Heap → Option ρ) (gv3 : Nat) (gv4 : Nat) (gv5 : Nat → Nat) (gv6 : Nat → Nat) (gv7 : Nat → Nat) (gv8 : Nat → Int) : XE → St → Option ρ := (blockK impl_isGroupAt_sh.kp 2 0 (seqK (xcode (E19 N) ents impl_isGroupAt_sh.kp 2 N (cB (cB (cB impl_isGroupAt_sh.bd))) 0) (impl_isGroupAt_sh.fin N K gv3 gv4 gv5 gv6 gv7 gv8)))

theorem impl_isGroupAt_sh.k0_mix {ρ : Type} (N : Nat) (K : AV → Heap → Option ρ) (gv3 : Nat) (gv4 : Nat) (gv5 : Nat → Nat) (gv6 : Nat → Nat) (gv7 : Nat → Nat) (gv8 : Nat → Int) : mixK (impl_isGroupAt_sh.fin N K gv3 gv4 gv5 gv6 gv7 gv8 .ret) (impl_isGroupAt_sh.k0 N K gv3 gv4 gv5 gv6 gv7 gv8) = (impl_isGroupAt_sh.k0 N K gv3 gv4 gv5 gv6 gv7 gv8) := by
  funext e s; cases e <;> kernel_rfl

noncomputable def impl_isGroupAt_sh.st0 (table0 : Nat) (table1 : Nat) (i2 : Int) (gv3 : Nat) (gv4 : Nat) (gv5 : Nat → Nat) (gv6 : Nat → Nat) (gv7 : Nat → Nat) (gv8 : Nat → Int) (x9 : Int) : St := ⟨sl 68 [(0, .slice true 0 0 table0 (.exact table1) 1), (1, .int .i64 (i2)), (26, .int .i64 ((table0 : Int))), (27, .int .i64 (x9))], [⟨false, .hdr 1 gv3 gv4 gv5 gv6 (some gv7)⟩, ⟨false, .flat 0 (.ints .i64 gv8)⟩]⟩

noncomputable def impl_isGroupAt_sh.sx0_0 (table0 : Nat) (table1 : Nat) (i2 : Int) (gv3 : Nat) (gv4 : Nat) (gv5 : Nat → Nat) (gv6 : Nat → Nat) (gv7 : Nat → Nat) (gv8 : Nat → Int) : St := ⟨sl 68 [(0, .slice true 0 0 table0 (.exact table1) 1), (1, .int .i64 (i2))], [⟨false, .hdr 1 gv3 gv4 gv5 gv6 (some gv7)⟩, ⟨false, .flat 0 (.ints .i64 gv8)⟩]⟩

noncomputable def impl_isGroupAt_sh.k1g {ρ : Type} (N : Nat) (L0 : St → Option ρ) (kv : XE → St → Option ρ) : XE → St → Option ρ := (blockK impl_isGroupAt_sh.kp 2 2 (blockK impl_isGroupAt_sh.kp 2 1 (seqK (xcode (E19 N) ents impl_isGroupAt_sh.kp 2 N (cB (cB (cB (cL (cK (cB (cA (cB (cB impl_isGroupAt_sh.bd))))))))) 0) (roundK impl_isGroupAt_sh.kp 2 0 L0 kv))))

theorem impl_isGroupAt_sh.k1_mix {ρ : Type} (N : Nat) (K : AV → Heap → Option ρ) (L0 : St → Option ρ) (gv3 : Nat) (gv4 : Nat) (gv5 : Nat → Nat) (gv6 : Nat → Nat) (gv7 : Nat → Nat) (gv8 : Nat → Int) : mixK (impl_isGroupAt_sh.fin N K gv3 gv4 gv5 gv6 gv7 gv8 .ret) (impl_isGroupAt_sh.k1g N L0 (impl_isGroupAt_sh.k0 N K gv3 gv4 gv5 gv6 gv7 gv8)) = (impl_isGroupAt_sh.k1g N L0 (impl_isGroupAt_sh.k0 N K gv3 gv4 gv5 gv6 gv7 gv8)) := by
  funext e s; cases e <;> kernel_rfl

noncomputable def impl_isGroupAt_sh.st1 (table0 : Nat) (table1 : Nat) (i2 : Int) (gv3 : Nat) (gv4 : Nat) (gv5 : Nat → Nat) (gv6 : Nat → Nat) (gv7 : Nat → Nat) (gv8 : Nat → Int) (x9 : Int) (x10 : Int) : St := ⟨sl 68 [(0, .slice true 0 0 table0 (.exact table1) 1), (1, .int .i64 (i2)), (5, .int .i64 (x9)), (26, .int .i64 ((table0 : Int))), (27, .int .i64 (x9)), (31, .int .i64 ((table0 : Int))), (32, .int .i64 (x10))], [⟨false, .hdr 1 gv3 gv4 gv5 gv6 (some gv7)⟩, ⟨false, .flat 0 (.ints .i64 gv8)⟩]⟩

noncomputable def impl_isGroupAt_sh.sx1_0 (table0 : Nat) (table1 : Nat) (i2 : Int) (gv3 : Nat) (gv4 : Nat) (gv5 : Nat → Nat) (gv6 : Nat → Nat) (gv7 : Nat → Nat) (gv8 : Nat → Int) (x9 : Int) : St := ⟨sl 68 [(0, .slice true 0 0 table0 (.exact table1) 1), (1, .int .i64 (i2)), (26, .int .i64 ((table0 : Int))), (27, .int .i64 (x9))], [⟨false, .hdr 1 gv3 gv4 gv5 gv6 (some gv7)⟩, ⟨false, .flat 0 (.ints .i64 gv8)⟩]⟩

theorem impl_isGroupAt_sh.b1_gen {ρ : Type} (N : Nat) (K : AV → Heap → Option ρ) (L1 : St → Option ρ) (kv : XE → St → Option ρ) (table0 : Nat) (table1 : Nat) (i2 : Int) (gv3 : Nat) (gv4 : Nat) (gv5 : Nat → Nat) (gv6 : Nat → Nat) (gv7 : Nat → Nat) (gv8 : Nat → Int) (x9 : Int) (x10 : Int) :
    xcode (E19 N) ents impl_isGroupAt_sh.kp 2 N (cL (cK (cB (cB (cK (cA (cB (cB (cL (cK (cB (cA (cB (cB impl_isGroupAt_sh.bd)))))))))))))) 2 (impl_isGroupAt_sh.st1 table0 table1 i2 gv3 gv4 gv5 gv6 gv7 gv8 x9 x10) (roundK impl_isGroupAt_sh.kp 2 2 L1 (mixK (impl_isGroupAt_sh.fin N K gv3 gv4 gv5 gv6 gv7 gv8 .ret) kv)) = (impl_isGroupAt_sh.b1 N (fun d0 => K (.bool (d0)) [⟨false, .hdr 1 gv3 gv4 gv5 gv6 (some gv7)⟩, ⟨false, .flat 0 (.ints .i64 gv8)⟩]) (fun x10 => L1 (impl_isGroupAt_sh.st1 table0 table1 i2 gv3 gv4 gv5 gv6 gv7 gv8 x9 x10)) (kv (.exit 2) (impl_isGroupAt_sh.sx1_0 table0 table1 i2 gv3 gv4 gv5 gv6 gv7 gv8 x9)) table0 i2 gv5 gv6 gv8 x9 x10) := by kernel_rfl

theorem impl_isGroupAt_sh.b1_eq {ρ : Type} (N : Nat) (K : AV → Heap → Option ρ) (L0 : St → Option ρ) (L1 : St → Option ρ) (table0 : Nat) (table1 : Nat) (i2 : Int) (gv3 : Nat) (gv4 : Nat) (gv5 : Nat → Nat) (gv6 : Nat → Nat) (gv7 : Nat → Nat) (gv8 : Nat → Int) (x9 : Int) (x10 : Int) :
    xcode (E19 N) ents impl_isGroupAt_sh.kp 2 N (cL (cK (cB (cB (cK (cA (cB (cB (cL (cK (cB (cA (cB (cB impl_isGroupAt_sh.bd)))))))))))))) 2 (impl_isGroupAt_sh.st1 table0 table1 i2 gv3 gv4 gv5 gv6 gv7 gv8 x9 x10) (roundK impl_isGroupAt_sh.kp 2 2 L1 (impl_isGroupAt_sh.k1g N L0 (impl_isGroupAt_sh.k0 N K gv3 gv4 gv5 gv6 gv7 gv8))) = (impl_isGroupAt_sh.b1 N (fun d0 => K (.bool (d0)) [⟨false, .hdr 1 gv3 gv4 gv5 gv6 (some gv7)⟩, ⟨false, .flat 0 (.ints .i64 gv8)⟩]) (fun x10 => L1 (impl_isGroupAt_sh.st1 table0 table1 i2 gv3 gv4 gv5 gv6 gv7 gv8 x9 x10)) ((impl_isGroupAt_sh.k1g N L0 (impl_isGroupAt_sh.k0 N K gv3 gv4 gv5 gv6 gv7 gv8)) (.exit 2) (impl_isGroupAt_sh.sx1_0 table0 table1 i2 gv3 gv4 gv5 gv6 gv7 gv8 x9)) table0 i2 gv5 gv6 gv8 x9 x10) := by
  have h := impl_isGroupAt_sh.b1_gen N K L1 (impl_isGroupAt_sh.k1g N L0 (impl_isGroupAt_sh.k0 N K gv3 gv4 gv5 gv6 gv7 gv8)) table0 table1 i2 gv3 gv4 gv5 gv6 gv7 gv8 x9 x10
  rw [impl_isGroupAt_sh.k1_mix] at h
  exact h

theorem impl_isGroupAt_sh.a1_0_gen {ρ : Type} (N : Nat) (K : AV → Heap → Option ρ) (L0 : St → Option ρ) (kv : XE → St → Option ρ) (table0 : Nat) (table1 : Nat) (i2 : Int) (gv3 : Nat) (gv4 : Nat) (gv5 : Nat → Nat) (gv6 : Nat → Nat) (gv7 : Nat → Nat) (gv8 : Nat → Int) (x9 : Int) :
    (impl_isGroupAt_sh.k1g N L0 (mixK (impl_isGroupAt_sh.fin N K gv3 gv4 gv5 gv6 gv7 gv8 .ret) kv)) (.exit 2) (impl_isGroupAt_sh.sx1_0 table0 table1 i2 gv3 gv4 gv5 gv6 gv7 gv8 x9) = (impl_isGroupAt_sh.a1_0 N (fun d0 => K (.bool (d0)) [⟨false, .hdr 1 gv3 gv4 gv5 gv6 (some gv7)⟩, ⟨false, .flat 0 (.ints .i64 gv8)⟩]) (fun x9 => L0 (impl_isGroupAt_sh.st0 table0 table1 i2 gv3 gv4 gv5 gv6 gv7 gv8 x9)) (kv (.exit 0) (impl_isGroupAt_sh.sx0_0 table0 table1 i2 gv3 gv4 gv5 gv6 gv7 gv8)) x9) := by kernel_rfl

theorem impl_isGroupAt_sh.a1_0_eq {ρ : Type} (N : Nat) (K : AV → Heap → Option ρ) (L0 : St → Option ρ) (table0 : Nat) (table1 : Nat) (i2 : Int) (gv3 : Nat) (gv4 : Nat) (gv5 : Nat → Nat) (gv6 : Nat → Nat) (gv7 : Nat → Nat) (gv8 : Nat → Int) (x9 : Int) :
    (impl_isGroupAt_sh.k1g N L0 (impl_isGroupAt_sh.k0 N K gv3 gv4 gv5 gv6 gv7 gv8)) (.exit 2) (impl_isGroupAt_sh.sx1_0 table0 table1 i2 gv3 gv4 gv5 gv6 gv7 gv8 x9) = (impl_isGroupAt_sh.a1_0 N (fun d0 => K (.bool (d0)) [⟨false, .hdr 1 gv3 gv4 gv5 gv6 (some gv7)⟩, ⟨false, .flat 0 (.ints .i64 gv8)⟩]) (fun x9 => L0 (impl_isGroupAt_sh.st0 table0 table1 i2 gv3 gv4 gv5 gv6 gv7 gv8 x9)) ((impl_isGroupAt_sh.k0 N K gv3 gv4 gv5 gv6 gv7 gv8) (.exit 0) (impl_isGroupAt_sh.sx0_0 table0 table1 i2 gv3 gv4 gv5 gv6 gv7 gv8)) x9) := by
  have h := impl_isGroupAt_sh.a1_0_gen N K L0 (impl_isGroupAt_sh.k0 N K gv3 gv4 gv5 gv6 gv7 gv8) table0 table1 i2 gv3 gv4 gv5 gv6 gv7 gv8 x9
  rw [impl_isGroupAt_sh.k0_mix] at h
  exact h

theorem impl_isGroupAt_sh.b0_gen {ρ : Type} (N : Nat) (K : AV → Heap → Option ρ) (L0 : St → Option ρ) (kv : XE → St → Option ρ) (table0 : Nat) (table1 : Nat) (i2 : Int) (gv3 : Nat) (gv4 : Nat) (gv5 : Nat → Nat) (gv6 : Nat → Nat) (gv7 : Nat → Nat) (gv8 : Nat → Int) (x9 : Int) :
    xcode (E19 N) ents impl_isGroupAt_sh.kp 2 N (cL (cK (cB (cA (cB (cB impl_isGroupAt_sh.bd)))))) 0 (impl_isGroupAt_sh.st0 table0 table1 i2 gv3 gv4 gv5 gv6 gv7 gv8 x9) (roundK impl_isGroupAt_sh.kp 2 0 L0 (mixK (impl_isGroupAt_sh.fin N K gv3 gv4 gv5 gv6 gv7 gv8 .ret) kv)) = (impl_isGroupAt_sh.b0 N (fun d0 => K (.bool (d0)) [⟨false, .hdr 1 gv3 gv4 gv5 gv6 (some gv7)⟩, ⟨false, .flat 0 (.ints .i64 gv8)⟩]) (fun x10 => xloop (xcode (E19 N) ents impl_isGroupAt_sh.kp 2 N (cL (cK (cB (cB (cK (cA (cB (cB (cL (cK (cB (cA (cB (cB impl_isGroupAt_sh.bd)))))))))))))) 2) impl_isGroupAt_sh.kp 2 2 N (impl_isGroupAt_sh.st1 table0 table1 i2 gv3 gv4 gv5 gv6 gv7 gv8 x9 x10) (impl_isGroupAt_sh.k1g N L0 (mixK (impl_isGroupAt_sh.fin N K gv3 gv4 gv5 gv6 gv7 gv8 .ret) kv))) (fun x9 => L0 (impl_isGroupAt_sh.st0 table0 table1 i2 gv3 gv4 gv5 gv6 gv7 gv8 x9)) (kv (.exit 0) (impl_isGroupAt_sh.sx0_0 table0 table1 i2 gv3 gv4 gv5 gv6 gv7 gv8)) table0 x9) := by kernel_rfl

theorem impl_isGroupAt_sh.b0_eq {ρ : Type} (N : Nat) (K : AV → Heap → Option ρ) (L0 : St → Option ρ) (table0 : Nat) (table1 : Nat) (i2 : Int) (gv3 : Nat) (gv4 : Nat) (gv5 : Nat → Nat) (gv6 : Nat → Nat) (gv7 : Nat → Nat) (gv8 : Nat → Int) (x9 : Int) :
    xcode (E19 N) ents impl_isGroupAt_sh.kp 2 N (cL (cK (cB (cA (cB (cB impl_isGroupAt_sh.bd)))))) 0 (impl_isGroupAt_sh.st0 table0 table1 i2 gv3 gv4 gv5 gv6 gv7 gv8 x9) (roundK impl_isGroupAt_sh.kp 2 0 L0 (impl_isGroupAt_sh.k0 N K gv3 gv4 gv5 gv6 gv7 gv8)) = (impl_isGroupAt_sh.b0 N (fun d0 => K (.bool (d0)) [⟨false, .hdr 1 gv3 gv4 gv5 gv6 (some gv7)⟩, ⟨false, .flat 0 (.ints .i64 gv8)⟩]) (fun x10 => xloop (xcode (E19 N) ents impl_isGroupAt_sh.kp 2 N (cL (cK (cB (cB (cK (cA (cB (cB (cL (cK (cB (cA (cB (cB impl_isGroupAt_sh.bd)))))))))))))) 2) impl_isGroupAt_sh.kp 2 2 N (impl_isGroupAt_sh.st1 table0 table1 i2 gv3 gv4 gv5 gv6 gv7 gv8 x9 x10) (impl_isGroupAt_sh.k1g N L0 (impl_isGroupAt_sh.k0 N K gv3 gv4 gv5 gv6 gv7 gv8))) (fun x9 => L0 (impl_isGroupAt_sh.st0 table0 table1 i2 gv3 gv4 gv5 gv6 gv7 gv8 x9)) ((impl_isGroupAt_sh.k0 N K gv3 gv4 gv5 gv6 gv7 gv8) (.exit 0) (impl_isGroupAt_sh.sx0_0 table0 table1 i2 gv3 gv4 gv5 gv6 gv7 gv8)) table0 x9) := by
  have h := impl_isGroupAt_sh.b0_gen N K L0 (impl_isGroupAt_sh.k0 N K gv3 gv4 gv5 gv6 gv7 gv8) table0 table1 i2 gv3 gv4 gv5 gv6 gv7 gv8 x9
  rw [impl_isGroupAt_sh.k0_mix] at h
  exact h

theorem impl_isGroupAt_sh.a0_0_eq {ρ : Type} (N : Nat) (K : AV → Heap → Option ρ) (table0 : Nat) (table1 : Nat) (i2 : Int) (gv3 : Nat) (gv4 : Nat) (gv5 : Nat → Nat) (gv6 : Nat → Nat) (gv7 : Nat → Nat) (gv8 : Nat → Int) :
    (impl_isGroupAt_sh.k0 N K gv3 gv4 gv5 gv6 gv7 gv8) (.exit 0) (impl_isGroupAt_sh.sx0_0 table0 table1 i2 gv3 gv4 gv5 gv6 gv7 gv8) = (impl_isGroupAt_sh.a0_0 N (fun d0 => K (.bool (d0)) [⟨false, .hdr 1 gv3 gv4 gv5 gv6 (some gv7)⟩, ⟨false, .flat 0 (.ints .i64 gv8)⟩]) table0 table1 i2 gv4 gv5 gv6 gv7 gv8) := by kernel_rfl

theorem impl_isGroupAt_sh.l1_eq {ρ : Type} (N : Nat) (K : AV → Heap → Option ρ) (L0 : St → Option ρ) (table0 : Nat) (table1 : Nat) (i2 : Int) (gv3 : Nat) (gv4 : Nat) (gv5 : Nat → Nat) (gv6 : Nat → Nat) (gv7 : Nat → Nat) (gv8 : Nat → Int) (x9 : Int) :
    ∀ (m : Nat) (x10 : Int), xloop (xcode (E19 N) ents impl_isGroupAt_sh.kp 2 N (cL (cK (cB (cB (cK (cA (cB (cB (cL (cK (cB (cA (cB (cB impl_isGroupAt_sh.bd)))))))))))))) 2) impl_isGroupAt_sh.kp 2 2 m (impl_isGroupAt_sh.st1 table0 table1 i2 gv3 gv4 gv5 gv6 gv7 gv8 x9 x10) (impl_isGroupAt_sh.k1g N L0 (impl_isGroupAt_sh.k0 N K gv3 gv4 gv5 gv6 gv7 gv8)) = (impl_isGroupAt_sh.l1 N (fun d0 => K (.bool (d0)) [⟨false, .hdr 1 gv3 gv4 gv5 gv6 (some gv7)⟩, ⟨false, .flat 0 (.ints .i64 gv8)⟩]) table0 i2 gv5 gv6 gv8 x9 ((impl_isGroupAt_sh.k1g N L0 (impl_isGroupAt_sh.k0 N K gv3 gv4 gv5 gv6 gv7 gv8)) (.exit 2) (impl_isGroupAt_sh.sx1_0 table0 table1 i2 gv3 gv4 gv5 gv6 gv7 gv8 x9)) m x10) := by
  intro m
  induction m with
  | zero => intros; rfl
  | succ m ih =>
    intro x10
    refine (impl_isGroupAt_sh.b1_eq N K L0 (fun s => xloop (xcode (E19 N) ents impl_isGroupAt_sh.kp 2 N (cL (cK (cB (cB (cK (cA (cB (cB (cL (cK (cB (cA (cB (cB impl_isGroupAt_sh.bd)))))))))))))) 2) impl_isGroupAt_sh.kp 2 2 m s (impl_isGroupAt_sh.k1g N L0 (impl_isGroupAt_sh.k0 N K gv3 gv4 gv5 gv6 gv7 gv8))) table0 table1 i2 gv3 gv4 gv5 gv6 gv7 gv8 x9 x10).trans ?_
    simp only [ih]
    kernel_rfl

theorem impl_isGroupAt_sh.l0_eq {ρ : Type} (N : Nat) (K : AV → Heap → Option ρ) (table0 : Nat) (table1 : Nat) (i2 : Int) (gv3 : Nat) (gv4 : Nat) (gv5 : Nat → Nat) (gv6 : Nat → Nat) (gv7 : Nat → Nat) (gv8 : Nat → Int) :
    ∀ (m : Nat) (x9 : Int), xloop (xcode (E19 N) ents impl_isGroupAt_sh.kp 2 N (cL (cK (cB (cA (cB (cB impl_isGroupAt_sh.bd)))))) 0) impl_isGroupAt_sh.kp 2 0 m (impl_isGroupAt_sh.st0 table0 table1 i2 gv3 gv4 gv5 gv6 gv7 gv8 x9) (impl_isGroupAt_sh.k0 N K gv3 gv4 gv5 gv6 gv7 gv8) = (impl_isGroupAt_sh.l0 N (fun d0 => K (.bool (d0)) [⟨false, .hdr 1 gv3 gv4 gv5 gv6 (some gv7)⟩, ⟨false, .flat 0 (.ints .i64 gv8)⟩]) table0 i2 gv5 gv6 gv8 ((impl_isGroupAt_sh.k0 N K gv3 gv4 gv5 gv6 gv7 gv8) (.exit 0) (impl_isGroupAt_sh.sx0_0 table0 table1 i2 gv3 gv4 gv5 gv6 gv7 gv8)) m x9) := by
  intro m
  induction m with
  | zero => intros; rfl
  | succ m ih =>
    intro x9
    refine (impl_isGroupAt_sh.b0_eq N K (fun s => xloop (xcode (E19 N) ents impl_isGroupAt_sh.kp 2 N (cL (cK (cB (cA (cB (cB impl_isGroupAt_sh.bd)))))) 0) impl_isGroupAt_sh.kp 2 0 m s (impl_isGroupAt_sh.k0 N K gv3 gv4 gv5 gv6 gv7 gv8)) table0 table1 i2 gv3 gv4 gv5 gv6 gv7 gv8 x9).trans ?_
    simp only [ih, impl_isGroupAt_sh.l1_eq, impl_isGroupAt_sh.a1_0_eq]
    kernel_rfl

theorem impl_isGroupAt_sh.s_eq {ρ : Type} (N : Nat) (K : AV → Heap → Option ρ) (table0 : Nat) (table1 : Nat) (i2 : Int) (gv3 : Nat) (gv4 : Nat) (gv5 : Nat → Nat) (gv6 : Nat → Nat) (gv7 : Nat → Nat) (gv8 : Nat → Int) :
    xbody (E19 N) ents impl_isGroupAt_sh.kp N Go.Proofs.Try.f28 impl_isGroupAt_sh.bd [.slice true 0 0 table0 (.exact table1) 1, .int .i64 (i2)] [⟨false, .hdr 1 gv3 gv4 gv5 gv6 (some gv7)⟩, ⟨false, .flat 0 (.ints .i64 gv8)⟩] K = (impl_isGroupAt_sh.s N (fun d0 => K (.bool (d0)) [⟨false, .hdr 1 gv3 gv4 gv5 gv6 (some gv7)⟩, ⟨false, .flat 0 (.ints .i64 gv8)⟩]) (fun x9 => xloop (xcode (E19 N) ents impl_isGroupAt_sh.kp 2 N (cL (cK (cB (cA (cB (cB impl_isGroupAt_sh.bd)))))) 0) impl_isGroupAt_sh.kp 2 0 N (impl_isGroupAt_sh.st0 table0 table1 i2 gv3 gv4 gv5 gv6 gv7 gv8 x9) (impl_isGroupAt_sh.k0 N K gv3 gv4 gv5 gv6 gv7 gv8)) table0 i2 gv5 gv6 gv8) := by kernel_rfl

theorem impl_isGroupAt_sh.eq {ρ : Type} (N : Nat) (K : AV → Heap → Option ρ) (table0 : Nat) (table1 : Nat) (i2 : Int) (gv3 : Nat) (gv4 : Nat) (gv5 : Nat → Nat) (gv6 : Nat → Nat) (gv7 : Nat → Nat) (gv8 : Nat → Int) :
    xbody (E19 N) ents impl_isGroupAt_sh.kp N Go.Proofs.Try.f28 impl_isGroupAt_sh.bd [.slice true 0 0 table0 (.exact table1) 1, .int .i64 (i2)] [⟨false, .hdr 1 gv3 gv4 gv5 gv6 (some gv7)⟩, ⟨false, .flat 0 (.ints .i64 gv8)⟩] K = (impl_isGroupAt_sh N (fun d0 => K (.bool (d0)) [⟨false, .hdr 1 gv3 gv4 gv5 gv6 (some gv7)⟩, ⟨false, .flat 0 (.ints .i64 gv8)⟩]) table0 table1 i2 gv3 gv4 gv5 gv6 gv7 gv8) := by
  refine (impl_isGroupAt_sh.s_eq N K table0 table1 i2 gv3 gv4 gv5 gv6 gv7 gv8).trans ?_
  simp only [impl_isGroupAt_sh.l0_eq, impl_isGroupAt_sh.a0_0_eq]
  kernel_rfl

noncomputable def impl_isGroupAt_sh.en (N : Nat) (ρ : Type) : List AV → Heap → (AV → Heap → Option ρ) → Option ρ
  | [.slice true 0 0 table0 (.exact table1) 1, .int .i64 (i2)], [⟨false, .hdr 1 gv3 gv4 gv5 gv6 (some gv7)⟩, ⟨false, .flat 0 (.ints .i64 gv8)⟩], K => (impl_isGroupAt_sh N (fun d0 => K (.bool (d0)) [⟨false, .hdr 1 gv3 gv4 gv5 gv6 (some gv7)⟩, ⟨false, .flat 0 (.ints .i64 gv8)⟩]) table0 table1 i2 gv3 gv4 gv5 gv6 gv7 gv8)
  | _, _, _ => none

theorem impl_isGroupAt_sh.en_ok (N : Nat) (hE : EnvOk (E19 N) ents) (ρ : Type) (args : List AV) (sh : Heap) (K : AV → Heap → Option ρ) (r : ρ) (h : impl_isGroupAt_sh.en N ρ args sh K = some r) : ∃ v sh', K v sh' = some r ∧ FnOk (E19 N).P 28 args sh v sh' := by
  unfold impl_isGroupAt_sh.en at h
  split at h
  · exact fn_ok hE (kp := impl_isGroupAt_sh.kp) (N := N) Go.Proofs.Try.func28 (c := impl_isGroupAt_sh.bd) (by kernel_rfl) ((impl_isGroupAt_sh.eq N _ _ _ _ _ _ _ _ _ _).trans h)
  · cases h

noncomputable def E20 (N : Nat) : Env := (E19 N).add 28 (impl_isGroupAt_sh.en N)

theorem E20_ok (N : Nat) : EnvOk (E20 N) ents := Env.add_ok (E19_ok N) (impl_isGroupAt_sh.en_ok N (E19_ok N))

noncomputable def impl_IsGroupTable_sh.kp : Keeps := ⟨[(0, [0, 8, 9], [], [])], [(0, [], [], [])], []⟩

noncomputable def impl_IsGroupTable_sh.bd : Code := bodyOf Go.Proofs.Try.f18

noncomputable def impl_IsGroupTable_sh.fin {ρ : Type} (N : Nat) (K : AV → Heap → Option ρ) (gv2 : Nat) (gv3 : Nat) (gv4 : Nat → Nat) (gv5 : Nat → Nat) (gv6 : Nat → Nat) (gv7 : Nat → Int) : XE → St → Option ρ := finK (E20 N) impl_IsGroupTable_sh.kp.fins Go.Proofs.Try.f18 [⟨false, .hdr 1 gv2 gv3 gv4 gv5 (some gv6)⟩, ⟨false, .flat 0 (.ints .i64 gv7)⟩] K

noncomputable def impl_IsGroupTable_sh.k0 {ρ : Type} (N : Nat) (K : AV → Heap → Option ρ) (gv2 : Nat) (gv3 : Nat) (gv4 : Nat → Nat) (gv5 : Nat → Nat) (gv6 : Nat → Nat) (gv7 : Nat → Int) : XE → St → Option ρ := (blockK impl_IsGroupTable_sh.kp 2 0 (seqK (xcode (E20 N) ents impl_IsGroupTable_sh.kp 2 N (cB (cB (cB impl_IsGroupTable_sh.bd))) 0) (impl_IsGroupTable_sh.fin N K gv2 gv3 gv4 gv5 gv6 gv7)))

theorem impl_IsGroupTable_sh.k0_mix {ρ : Type} (N : Nat) (K : AV → Heap → Option ρ) (gv2 : Nat) (gv3 : Nat) (gv4 : Nat → Nat) (gv5 : Nat → Nat) (gv6 : Nat → Nat) (gv7 : Nat → Int) : mixK (impl_IsGroupTable_sh.fin N K gv2 gv3 gv4 gv5 gv6 gv7 .ret) (impl_IsGroupTable_sh.k0 N K gv2 gv3 gv4 gv5 gv6 gv7) = (impl_IsGroupTable_sh.k0 N K gv2 gv3 gv4 gv5 gv6 gv7) := by
  funext e s; cases e <;> kernel_rfl

noncomputable def impl_IsGroupTable_sh.st0 (table0 : Nat) (table1 : Nat) (gv2 : Nat) (gv3 : Nat) (gv4 : Nat → Nat) (gv5 : Nat → Nat) (gv6 : Nat → Nat) (gv7 : Nat → Int) (x9 : Int) : St := ⟨sl 17 [(0, .slice true 0 0 table0 (.exact table1) 1), (8, .int .i64 ((table0 : Int))), (9, .int .i64 (x9))], [⟨false, .hdr 1 gv2 gv3 gv4 gv5 (some gv6)⟩, ⟨false, .flat 0 (.ints .i64 gv7)⟩]⟩

noncomputable def impl_IsGroupTable_sh.sx0_0 (gv2 : Nat) (gv3 : Nat) (gv4 : Nat → Nat) (gv5 : Nat → Nat) (gv6 : Nat → Nat) (gv7 : Nat → Int) : St := ⟨sl 17 [], [⟨false, .hdr 1 gv2 gv3 gv4 gv5 (some gv6)⟩, ⟨false, .flat 0 (.ints .i64 gv7)⟩]⟩

theorem impl_IsGroupTable_sh.b0_gen {ρ : Type} (N : Nat) (K : AV → Heap → Option ρ) (L0 : St → Option ρ) (kv : XE → St → Option ρ) (table0 : Nat) (table1 : Nat) (gv2 : Nat) (gv3 : Nat) (gv4 : Nat → Nat) (gv5 : Nat → Nat) (gv6 : Nat → Nat) (gv7 : Nat → Int) (x9 : Int) :
    xcode (E20 N) ents impl_IsGroupTable_sh.kp 2 N (cL (cK (cB (cA (cB (cB impl_IsGroupTable_sh.bd)))))) 0 (impl_IsGroupTable_sh.st0 table0 table1 gv2 gv3 gv4 gv5 gv6 gv7 x9) (roundK impl_IsGroupTable_sh.kp 2 0 L0 (mixK (impl_IsGroupTable_sh.fin N K gv2 gv3 gv4 gv5 gv6 gv7 .ret) kv)) = (impl_IsGroupTable_sh.b0 N (fun d0 => K (.bool (d0)) [⟨false, .hdr 1 gv2 gv3 gv4 gv5 (some gv6)⟩, ⟨false, .flat 0 (.ints .i64 gv7)⟩]) (fun x9 => L0 (impl_IsGroupTable_sh.st0 table0 table1 gv2 gv3 gv4 gv5 gv6 gv7 x9)) (kv (.exit 0) (impl_IsGroupTable_sh.sx0_0 gv2 gv3 gv4 gv5 gv6 gv7)) table0 table1 gv3 gv4 gv5 gv6 gv7 x9) := by kernel_rfl

theorem impl_IsGroupTable_sh.b0_eq {ρ : Type} (N : Nat) (K : AV → Heap → Option ρ) (L0 : St → Option ρ) (table0 : Nat) (table1 : Nat) (gv2 : Nat) (gv3 : Nat) (gv4 : Nat → Nat) (gv5 : Nat → Nat) (gv6 : Nat → Nat) (gv7 : Nat → Int) (x9 : Int) :
    xcode (E20 N) ents impl_IsGroupTable_sh.kp 2 N (cL (cK (cB (cA (cB (cB impl_IsGroupTable_sh.bd)))))) 0 (impl_IsGroupTable_sh.st0 table0 table1 gv2 gv3 gv4 gv5 gv6 gv7 x9) (roundK impl_IsGroupTable_sh.kp 2 0 L0 (impl_IsGroupTable_sh.k0 N K gv2 gv3 gv4 gv5 gv6 gv7)) = (impl_IsGroupTable_sh.b0 N (fun d0 => K (.bool (d0)) [⟨false, .hdr 1 gv2 gv3 gv4 gv5 (some gv6)⟩, ⟨false, .flat 0 (.ints .i64 gv7)⟩]) (fun x9 => L0 (impl_IsGroupTable_sh.st0 table0 table1 gv2 gv3 gv4 gv5 gv6 gv7 x9)) ((impl_IsGroupTable_sh.k0 N K gv2 gv3 gv4 gv5 gv6 gv7) (.exit 0) (impl_IsGroupTable_sh.sx0_0 gv2 gv3 gv4 gv5 gv6 gv7)) table0 table1 gv3 gv4 gv5 gv6 gv7 x9) := by
  have h := impl_IsGroupTable_sh.b0_gen N K L0 (impl_IsGroupTable_sh.k0 N K gv2 gv3 gv4 gv5 gv6 gv7) table0 table1 gv2 gv3 gv4 gv5 gv6 gv7 x9
  rw [impl_IsGroupTable_sh.k0_mix] at h
  exact h

theorem impl_IsGroupTable_sh.a0_0_eq {ρ : Type} (N : Nat) (K : AV → Heap → Option ρ) (gv2 : Nat) (gv3 : Nat) (gv4 : Nat → Nat) (gv5 : Nat → Nat) (gv6 : Nat → Nat) (gv7 : Nat → Int) :
    (impl_IsGroupTable_sh.k0 N K gv2 gv3 gv4 gv5 gv6 gv7) (.exit 0) (impl_IsGroupTable_sh.sx0_0 gv2 gv3 gv4 gv5 gv6 gv7) = (impl_IsGroupTable_sh.a0_0 N (fun d0 => K (.bool (d0)) [⟨false, .hdr 1 gv2 gv3 gv4 gv5 (some gv6)⟩, ⟨false, .flat 0 (.ints .i64 gv7)⟩])) := by kernel_rfl

theorem impl_IsGroupTable_sh.l0_eq {ρ : Type} (N : Nat) (K : AV → Heap → Option ρ) (table0 : Nat) (table1 : Nat) (gv2 : Nat) (gv3 : Nat) (gv4 : Nat → Nat) (gv5 : Nat → Nat) (gv6 : Nat → Nat) (gv7 : Nat → Int) :
    ∀ (m : Nat) (x9 : Int), xloop (xcode (E20 N) ents impl_IsGroupTable_sh.kp 2 N (cL (cK (cB (cA (cB (cB impl_IsGroupTable_sh.bd)))))) 0) impl_IsGroupTable_sh.kp 2 0 m (impl_IsGroupTable_sh.st0 table0 table1 gv2 gv3 gv4 gv5 gv6 gv7 x9) (impl_IsGroupTable_sh.k0 N K gv2 gv3 gv4 gv5 gv6 gv7) = (impl_IsGroupTable_sh.l0 N (fun d0 => K (.bool (d0)) [⟨false, .hdr 1 gv2 gv3 gv4 gv5 (some gv6)⟩, ⟨false, .flat 0 (.ints .i64 gv7)⟩]) table0 table1 gv3 gv4 gv5 gv6 gv7 ((impl_IsGroupTable_sh.k0 N K gv2 gv3 gv4 gv5 gv6 gv7) (.exit 0) (impl_IsGroupTable_sh.sx0_0 gv2 gv3 gv4 gv5 gv6 gv7)) m x9) := by
  intro m
  induction m with
  | zero => intros; rfl
  | succ m ih =>
    intro x9
    refine (impl_IsGroupTable_sh.b0_eq N K (fun s => xloop (xcode (E20 N) ents impl_IsGroupTable_sh.kp 2 N (cL (cK (cB (cA (cB (cB impl_IsGroupTable_sh.bd)))))) 0) impl_IsGroupTable_sh.kp 2 0 m s (impl_IsGroupTable_sh.k0 N K gv2 gv3 gv4 gv5 gv6 gv7)) table0 table1 gv2 gv3 gv4 gv5 gv6 gv7 x9).trans ?_
    simp only [ih]
    kernel_rfl

theorem impl_IsGroupTable_sh.s_eq {ρ : Type} (N : Nat) (K : AV → Heap → Option ρ) (table0 : Nat) (table1 : Nat) (gv2 : Nat) (gv3 : Nat) (gv4 : Nat → Nat) (gv5 : Nat → Nat) (gv6 : Nat → Nat) (gv7 : Nat → Int) :
    xbody (E20 N) ents impl_IsGroupTable_sh.kp N Go.Proofs.Try.f18 impl_IsGroupTable_sh.bd [.slice true 0 0 table0 (.exact table1) 1] [⟨false, .hdr 1 gv2 gv3 gv4 gv5 (some gv6)⟩, ⟨false, .flat 0 (.ints .i64 gv7)⟩] K = (impl_IsGroupTable_sh.s N (fun d0 => K (.bool (d0)) [⟨false, .hdr 1 gv2 gv3 gv4 gv5 (some gv6)⟩, ⟨false, .flat 0 (.ints .i64 gv7)⟩]) (fun x9 => xloop (xcode (E20 N) ents impl_IsGroupTable_sh.kp 2 N (cL (cK (cB (cA (cB (cB impl_IsGroupTable_sh.bd)))))) 0) impl_IsGroupTable_sh.kp 2 0 N (impl_IsGroupTable_sh.st0 table0 table1 gv2 gv3 gv4 gv5 gv6 gv7 x9) (impl_IsGroupTable_sh.k0 N K gv2 gv3 gv4 gv5 gv6 gv7)) table0 table1 gv3 gv4 gv5 gv6 gv7) := by kernel_rfl

theorem impl_IsGroupTable_sh.eq {ρ : Type} (N : Nat) (K : AV → Heap → Option ρ) (table0 : Nat) (table1 : Nat) (gv2 : Nat) (gv3 : Nat) (gv4 : Nat → Nat) (gv5 : Nat → Nat) (gv6 : Nat → Nat) (gv7 : Nat → Int) :
    xbody (E20 N) ents impl_IsGroupTable_sh.kp N Go.Proofs.Try.f18 impl_IsGroupTable_sh.bd [.slice true 0 0 table0 (.exact table1) 1] [⟨false, .hdr 1 gv2 gv3 gv4 gv5 (some gv6)⟩, ⟨false, .flat 0 (.ints .i64 gv7)⟩] K = (impl_IsGroupTable_sh N (fun d0 => K (.bool (d0)) [⟨false, .hdr 1 gv2 gv3 gv4 gv5 (some gv6)⟩, ⟨false, .flat 0 (.ints .i64 gv7)⟩]) table0 table1 gv2 gv3 gv4 gv5 gv6 gv7) := by
  refine (impl_IsGroupTable_sh.s_eq N K table0 table1 gv2 gv3 gv4 gv5 gv6 gv7).trans ?_
  simp only [impl_IsGroupTable_sh.l0_eq, impl_IsGroupTable_sh.a0_0_eq]
  kernel_rfl

noncomputable def impl_IsGroupTable_n.kp : Keeps := ⟨[(0, [0, 8, 9], [], [])], [(0, [], [], [])], []⟩

noncomputable def impl_IsGroupTable_n.bd : Code := bodyOf Go.Proofs.Try.f18

noncomputable def impl_IsGroupTable_n.fin {ρ : Type} (N : Nat) (K : AV → Heap → Option ρ) : XE → St → Option ρ := finK (E20 N) impl_IsGroupTable_n.kp.fins Go.Proofs.Try.f18 [] K

noncomputable def impl_IsGroupTable_n.k0 {ρ : Type} (N : Nat) (K : AV → Heap → Option ρ) : XE → St → Option ρ := (blockK impl_IsGroupTable_n.kp 0 0 (seqK (xcode (E20 N) ents impl_IsGroupTable_n.kp 0 N (cB (cB (cB impl_IsGroupTable_n.bd))) 0) (impl_IsGroupTable_n.fin N K)))

theorem impl_IsGroupTable_n.k0_mix {ρ : Type} (N : Nat) (K : AV → Heap → Option ρ) : mixK (impl_IsGroupTable_n.fin N K .ret) (impl_IsGroupTable_n.k0 N K) = (impl_IsGroupTable_n.k0 N K) := by
  funext e s; cases e <;> kernel_rfl

noncomputable def impl_IsGroupTable_n.st0 : St := ⟨sl 17 [(0, .nils), (8, .int .i64 0), (9, .int .i64 0)], []⟩

noncomputable def impl_IsGroupTable_n.sx0_0 : St := ⟨sl 17 [], []⟩

theorem impl_IsGroupTable_n.b0_gen {ρ : Type} (N : Nat) (K : AV → Heap → Option ρ) (L0 : St → Option ρ) (kv : XE → St → Option ρ) :
    xcode (E20 N) ents impl_IsGroupTable_n.kp 0 N (cL (cK (cB (cA (cB (cB impl_IsGroupTable_n.bd)))))) 0 (impl_IsGroupTable_n.st0) (roundK impl_IsGroupTable_n.kp 0 0 L0 (mixK (impl_IsGroupTable_n.fin N K .ret) kv)) = (impl_IsGroupTable_n.b0 N (fun d0 => K (.bool (d0)) []) (L0 (impl_IsGroupTable_n.st0)) (kv (.exit 0) (impl_IsGroupTable_n.sx0_0))) := by kernel_rfl

theorem impl_IsGroupTable_n.b0_eq {ρ : Type} (N : Nat) (K : AV → Heap → Option ρ) (L0 : St → Option ρ) :
    xcode (E20 N) ents impl_IsGroupTable_n.kp 0 N (cL (cK (cB (cA (cB (cB impl_IsGroupTable_n.bd)))))) 0 (impl_IsGroupTable_n.st0) (roundK impl_IsGroupTable_n.kp 0 0 L0 (impl_IsGroupTable_n.k0 N K)) = (impl_IsGroupTable_n.b0 N (fun d0 => K (.bool (d0)) []) (L0 (impl_IsGroupTable_n.st0)) ((impl_IsGroupTable_n.k0 N K) (.exit 0) (impl_IsGroupTable_n.sx0_0))) := by
  have h := impl_IsGroupTable_n.b0_gen N K L0 (impl_IsGroupTable_n.k0 N K) 
  rw [impl_IsGroupTable_n.k0_mix] at h
  exact h

theorem impl_IsGroupTable_n.a0_0_eq {ρ : Type} (N : Nat) (K : AV → Heap → Option ρ) :
    (impl_IsGroupTable_n.k0 N K) (.exit 0) (impl_IsGroupTable_n.sx0_0) = (impl_IsGroupTable_n.a0_0 N (fun d0 => K (.bool (d0)) [])) := by kernel_rfl

theorem impl_IsGroupTable_n.l0_eq {ρ : Type} (N : Nat) (K : AV → Heap → Option ρ) :
    ∀ (m : Nat), xloop (xcode (E20 N) ents impl_IsGroupTable_n.kp 0 N (cL (cK (cB (cA (cB (cB impl_IsGroupTable_n.bd)))))) 0) impl_IsGroupTable_n.kp 0 0 m (impl_IsGroupTable_n.st0) (impl_IsGroupTable_n.k0 N K) = (impl_IsGroupTable_n.l0 N (fun d0 => K (.bool (d0)) []) ((impl_IsGroupTable_n.k0 N K) (.exit 0) (impl_IsGroupTable_n.sx0_0)) m) := by
  intro m
  induction m with
  | zero => intros; rfl
  | succ m ih =>
    refine (impl_IsGroupTable_n.b0_eq N K (fun s => xloop (xcode (E20 N) ents impl_IsGroupTable_n.kp 0 N (cL (cK (cB (cA (cB (cB impl_IsGroupTable_n.bd)))))) 0) impl_IsGroupTable_n.kp 0 0 m s (impl_IsGroupTable_n.k0 N K)) ).trans ?_
    simp only [ih]
    kernel_rfl

theorem impl_IsGroupTable_n.s_eq {ρ : Type} (N : Nat) (K : AV → Heap → Option ρ) :
    xbody (E20 N) ents impl_IsGroupTable_n.kp N Go.Proofs.Try.f18 impl_IsGroupTable_n.bd [.nils] [] K = (impl_IsGroupTable_n.s N (fun d0 => K (.bool (d0)) []) (xloop (xcode (E20 N) ents impl_IsGroupTable_n.kp 0 N (cL (cK (cB (cA (cB (cB impl_IsGroupTable_n.bd)))))) 0) impl_IsGroupTable_n.kp 0 0 N (impl_IsGroupTable_n.st0) (impl_IsGroupTable_n.k0 N K))) := by kernel_rfl

theorem impl_IsGroupTable_n.eq {ρ : Type} (N : Nat) (K : AV → Heap → Option ρ) :
    xbody (E20 N) ents impl_IsGroupTable_n.kp N Go.Proofs.Try.f18 impl_IsGroupTable_n.bd [.nils] [] K = (impl_IsGroupTable_n N (fun d0 => K (.bool (d0)) [])) := by
  refine (impl_IsGroupTable_n.s_eq N K ).trans ?_
  simp only [impl_IsGroupTable_n.l0_eq, impl_IsGroupTable_n.a0_0_eq]
  kernel_rfl

noncomputable def impl_IsGroupTable_sh.en (N : Nat) (ρ : Type) : List AV → Heap → (AV → Heap → Option ρ) → Option ρ
  | [.slice true 0 0 table0 (.exact table1) 1], [⟨false, .hdr 1 gv2 gv3 gv4 gv5 (some gv6)⟩, ⟨false, .flat 0 (.ints .i64 gv7)⟩], K => (impl_IsGroupTable_sh N (fun d0 => K (.bool (d0)) [⟨false, .hdr 1 gv2 gv3 gv4 gv5 (some gv6)⟩, ⟨false, .flat 0 (.ints .i64 gv7)⟩]) table0 table1 gv2 gv3 gv4 gv5 gv6 gv7)
  | [.nils], [], K => (impl_IsGroupTable_n N (fun d0 => K (.bool (d0)) []))
  | _, _, _ => none

theorem impl_IsGroupTable_sh.en_ok (N : Nat) (hE : EnvOk (E20 N) ents) (ρ : Type) (args : List AV) (sh : Heap) (K : AV → Heap → Option ρ) (r : ρ) (h : impl_IsGroupTable_sh.en N ρ args sh K = some r) : ∃ v sh', K v sh' = some r ∧ FnOk (E20 N).P 18 args sh v sh' := by
  unfold impl_IsGroupTable_sh.en at h
  split at h
  · exact fn_ok hE (kp := impl_IsGroupTable_sh.kp) (N := N) Go.Proofs.Try.func18 (c := impl_IsGroupTable_sh.bd) (by kernel_rfl) ((impl_IsGroupTable_sh.eq N _ _ _ _ _ _ _ _ _).trans h)
  · exact fn_ok hE (kp := impl_IsGroupTable_n.kp) (N := N) Go.Proofs.Try.func18 (c := impl_IsGroupTable_n.bd) (by kernel_rfl) ((impl_IsGroupTable_n.eq N _ ).trans h)
  · cases h

noncomputable def E21 (N : Nat) : Env := (E20 N).add 18 (impl_IsGroupTable_sh.en N)

theorem E21_ok (N : Nat) : EnvOk (E21 N) ents := Env.add_ok (E20_ok N) (impl_IsGroupTable_sh.en_ok N (E20_ok N))

noncomputable def impl_first_s.kp : Keeps := ⟨[(0, [5, 6, 7], [], [])], [(0, [], [], [])], []⟩

noncomputable def impl_first_s.bd : Code := bodyOf Go.Proofs.Try.f15

noncomputable def impl_first_s.fin {ρ : Type} (N : Nat) (K : AV → Heap → Option ρ) (gv2 : Nat) (gv3 : Nat → Int) : XE → St → Option ρ := finK (E21 N) impl_first_s.kp.fins Go.Proofs.Try.f15 [⟨false, .flat gv2 (.ints .i64 gv3)⟩] K

noncomputable def impl_first_s.k0 {ρ : Type} (N : Nat) (K : AV → Heap → Option ρ) (gv2 : Nat) (gv3 : Nat → Int) : XE → St → Option ρ := (blockK impl_first_s.kp 1 0 (seqK (xcode (E21 N) ents impl_first_s.kp 1 N (cB (cB impl_first_s.bd)) 0) (impl_first_s.fin N K gv2 gv3)))

theorem impl_first_s.k0_mix {ρ : Type} (N : Nat) (K : AV → Heap → Option ρ) (gv2 : Nat) (gv3 : Nat → Int) : mixK (impl_first_s.fin N K gv2 gv3 .ret) (impl_first_s.k0 N K gv2 gv3) = (impl_first_s.k0 N K gv2 gv3) := by
  funext e s; cases e <;> kernel_rfl

noncomputable def impl_first_s.st0 (codes0 : Nat) (codes1 : Nat) (gv2 : Nat) (gv3 : Nat → Int) (x4 : Int) : St := ⟨sl 15 [(5, .slice true 0 0 codes0 (.exact codes1) 1), (6, .int .i64 ((codes0 : Int))), (7, .int .i64 (x4))], [⟨false, .flat gv2 (.ints .i64 gv3)⟩]⟩

noncomputable def impl_first_s.sx0_0 (gv2 : Nat) (gv3 : Nat → Int) : St := ⟨sl 15 [], [⟨false, .flat gv2 (.ints .i64 gv3)⟩]⟩

theorem impl_first_s.b0_gen {ρ : Type} (N : Nat) (K : AV → Heap → Option ρ) (L0 : St → Option ρ) (kv : XE → St → Option ρ) (codes0 : Nat) (codes1 : Nat) (gv2 : Nat) (gv3 : Nat → Int) (x4 : Int) :
    xcode (E21 N) ents impl_first_s.kp 1 N (cL (cK (cB (cA (cB impl_first_s.bd))))) 0 (impl_first_s.st0 codes0 codes1 gv2 gv3 x4) (roundK impl_first_s.kp 1 0 L0 (mixK (impl_first_s.fin N K gv2 gv3 .ret) kv)) = (impl_first_s.b0 N (fun d0 => K (.int .i64 (d0)) [⟨false, .flat gv2 (.ints .i64 gv3)⟩]) (fun x4 => L0 (impl_first_s.st0 codes0 codes1 gv2 gv3 x4)) (kv (.exit 0) (impl_first_s.sx0_0 gv2 gv3)) codes0 gv3 x4) := by kernel_rfl

theorem impl_first_s.b0_eq {ρ : Type} (N : Nat) (K : AV → Heap → Option ρ) (L0 : St → Option ρ) (codes0 : Nat) (codes1 : Nat) (gv2 : Nat) (gv3 : Nat → Int) (x4 : Int) :
    xcode (E21 N) ents impl_first_s.kp 1 N (cL (cK (cB (cA (cB impl_first_s.bd))))) 0 (impl_first_s.st0 codes0 codes1 gv2 gv3 x4) (roundK impl_first_s.kp 1 0 L0 (impl_first_s.k0 N K gv2 gv3)) = (impl_first_s.b0 N (fun d0 => K (.int .i64 (d0)) [⟨false, .flat gv2 (.ints .i64 gv3)⟩]) (fun x4 => L0 (impl_first_s.st0 codes0 codes1 gv2 gv3 x4)) ((impl_first_s.k0 N K gv2 gv3) (.exit 0) (impl_first_s.sx0_0 gv2 gv3)) codes0 gv3 x4) := by
  have h := impl_first_s.b0_gen N K L0 (impl_first_s.k0 N K gv2 gv3) codes0 codes1 gv2 gv3 x4
  rw [impl_first_s.k0_mix] at h
  exact h

theorem impl_first_s.a0_0_eq {ρ : Type} (N : Nat) (K : AV → Heap → Option ρ) (gv2 : Nat) (gv3 : Nat → Int) :
    (impl_first_s.k0 N K gv2 gv3) (.exit 0) (impl_first_s.sx0_0 gv2 gv3) = (impl_first_s.a0_0 N (fun d0 => K (.int .i64 (d0)) [⟨false, .flat gv2 (.ints .i64 gv3)⟩])) := by kernel_rfl

theorem impl_first_s.l0_eq {ρ : Type} (N : Nat) (K : AV → Heap → Option ρ) (codes0 : Nat) (codes1 : Nat) (gv2 : Nat) (gv3 : Nat → Int) :
    ∀ (m : Nat) (x4 : Int), xloop (xcode (E21 N) ents impl_first_s.kp 1 N (cL (cK (cB (cA (cB impl_first_s.bd))))) 0) impl_first_s.kp 1 0 m (impl_first_s.st0 codes0 codes1 gv2 gv3 x4) (impl_first_s.k0 N K gv2 gv3) = (impl_first_s.l0 N (fun d0 => K (.int .i64 (d0)) [⟨false, .flat gv2 (.ints .i64 gv3)⟩]) codes0 gv3 ((impl_first_s.k0 N K gv2 gv3) (.exit 0) (impl_first_s.sx0_0 gv2 gv3)) m x4) := by
  intro m
  induction m with
  | zero => intros; rfl
  | succ m ih =>
    intro x4
    refine (impl_first_s.b0_eq N K (fun s => xloop (xcode (E21 N) ents impl_first_s.kp 1 N (cL (cK (cB (cA (cB impl_first_s.bd))))) 0) impl_first_s.kp 1 0 m s (impl_first_s.k0 N K gv2 gv3)) codes0 codes1 gv2 gv3 x4).trans ?_
    simp only [ih]
    kernel_rfl

theorem impl_first_s.s_eq {ρ : Type} (N : Nat) (K : AV → Heap → Option ρ) (codes0 : Nat) (codes1 : Nat) (gv2 : Nat) (gv3 : Nat → Int) :
    xbody (E21 N) ents impl_first_s.kp N Go.Proofs.Try.f15 impl_first_s.bd [.slice true 0 0 codes0 (.exact codes1) 1] [⟨false, .flat gv2 (.ints .i64 gv3)⟩] K = (impl_first_s.s N (fun d0 => K (.int .i64 (d0)) [⟨false, .flat gv2 (.ints .i64 gv3)⟩]) (fun x4 => xloop (xcode (E21 N) ents impl_first_s.kp 1 N (cL (cK (cB (cA (cB impl_first_s.bd))))) 0) impl_first_s.kp 1 0 N (impl_first_s.st0 codes0 codes1 gv2 gv3 x4) (impl_first_s.k0 N K gv2 gv3))) := by kernel_rfl

theorem impl_first_s.eq {ρ : Type} (N : Nat) (K : AV → Heap → Option ρ) (codes0 : Nat) (codes1 : Nat) (gv2 : Nat) (gv3 : Nat → Int) :
    xbody (E21 N) ents impl_first_s.kp N Go.Proofs.Try.f15 impl_first_s.bd [.slice true 0 0 codes0 (.exact codes1) 1] [⟨false, .flat gv2 (.ints .i64 gv3)⟩] K = (impl_first_s N (fun d0 => K (.int .i64 (d0)) [⟨false, .flat gv2 (.ints .i64 gv3)⟩]) codes0 codes1 gv2 gv3) := by
  refine (impl_first_s.s_eq N K codes0 codes1 gv2 gv3).trans ?_
  simp only [impl_first_s.l0_eq, impl_first_s.a0_0_eq]
  kernel_rfl

noncomputable def impl_first_s.en (N : Nat) (ρ : Type) : List AV → Heap → (AV → Heap → Option ρ) → Option ρ
  | [.slice true 0 0 codes0 (.exact codes1) 1], [⟨false, .flat gv2 (.ints .i64 gv3)⟩], K => (impl_first_s N (fun d0 => K (.int .i64 (d0)) [⟨false, .flat gv2 (.ints .i64 gv3)⟩]) codes0 codes1 gv2 gv3)
  | _, _, _ => none

theorem impl_first_s.en_ok (N : Nat) (hE : EnvOk (E21 N) ents) (ρ : Type) (args : List AV) (sh : Heap) (K : AV → Heap → Option ρ) (r : ρ) (h : impl_first_s.en N ρ args sh K = some r) : ∃ v sh', K v sh' = some r ∧ FnOk (E21 N).P 15 args sh v sh' := by
  unfold impl_first_s.en at h
  split at h
  · exact fn_ok hE (kp := impl_first_s.kp) (N := N) Go.Proofs.Try.func15 (c := impl_first_s.bd) (by kernel_rfl) ((impl_first_s.eq N _ _ _ _ _).trans h)
  · cases h

noncomputable def E22 (N : Nat) : Env := (E21 N).add 15 (impl_first_s.en N)

theorem E22_ok (N : Nat) : EnvOk (E22 N) ents := Env.add_ok (E21_ok N) (impl_first_s.en_ok N (E21_ok N))

noncomputable def impl_basis.kp : Keeps := ⟨[], [], []⟩

noncomputable def impl_basis.bd : Code := bodyOf Go.Proofs.Try.f29

noncomputable def impl_basis.fin {ρ : Type} (N : Nat) (K : AV → Heap → Option ρ) : XE → St → Option ρ := finK (E22 N) impl_basis.kp.fins Go.Proofs.Try.f29 [] K

theorem impl_basis.eq {ρ : Type} (N : Nat) (K : AV → Heap → Option ρ) (i0 : Int) :
    xbody (E22 N) ents impl_basis.kp N Go.Proofs.Try.f29 impl_basis.bd [.int .i64 (i0)] [] K = (impl_basis N (fun d0 => K (.agg [⟨.u8, 8, d0⟩]) []) i0) := by kernel_rfl

noncomputable def impl_basis.en (N : Nat) (ρ : Type) : List AV → Heap → (AV → Heap → Option ρ) → Option ρ
  | [.int .i64 (i0)], [], K => (impl_basis N (fun d0 => K (.agg [⟨.u8, 8, d0⟩]) []) i0)
  | _, _, _ => none

theorem impl_basis.en_ok (N : Nat) (hE : EnvOk (E22 N) ents) (ρ : Type) (args : List AV) (sh : Heap) (K : AV → Heap → Option ρ) (r : ρ) (h : impl_basis.en N ρ args sh K = some r) : ∃ v sh', K v sh' = some r ∧ FnOk (E22 N).P 29 args sh v sh' := by
  unfold impl_basis.en at h
  split at h
  · exact fn_ok hE (kp := impl_basis.kp) (N := N) Go.Proofs.Try.func29 (c := impl_basis.bd) (by kernel_rfl) ((impl_basis.eq N _ _).trans h)
  · cases h

noncomputable def E23 (N : Nat) : Env := (E22 N).add 29 (impl_basis.en N)

theorem E23_ok (N : Nat) : EnvOk (E23 N) ents := Env.add_ok (E22_ok N) (impl_basis.en_ok N (E22_ok N))

noncomputable def impl_groupHopf_sh.kp : Keeps := ⟨[(0, [1, 4, 5, 15, 16, 17], [], []), (2, [1, 4, 5, 6, 15, 16, 17, 22, 23, 24], [], [])], [(0, [4, 5], [], []), (2, [1, 4, 5, 6, 15, 16, 17], [], [])], []⟩

noncomputable def impl_groupHopf_sh.bd : Code := bodyOf Go.Proofs.Try.f19

noncomputable def impl_groupHopf_sh.fin {ρ : Type} (N : Nat) (K : AV → Heap → Option ρ) (gv3 : Nat) (gv4 : Nat) (gv5 : Nat → Nat) (gv6 : Nat → Nat) (gv7 : Nat → Nat) (gv8 : Nat → Int) : XE → St → Option ρ := finK (E23 N) impl_groupHopf_sh.kp.fins Go.Proofs.Try.f19 [⟨false, .hdr 1 gv3 gv4 gv5 gv6 (some gv7)⟩, ⟨false, .flat 0 (.ints .i64 gv8)⟩] K

noncomputable def impl_groupHopf_sh.k0 {ρ : Type} (N : Nat) (K : AV → Heap → Option ρ) (gv3 : Nat) (gv4 : Nat) (gv5 : Nat → Nat) (gv6 : Nat → Nat) (gv7 : Nat → Nat) (gv8 : Nat → Int) : XE → St → Option ρ := (blockK impl_groupHopf_sh.kp 2 0 (seqK (xcode (E23 N) ents impl_groupHopf_sh.kp 2 N (cB (cB (cB impl_groupHopf_sh.bd))) 0) (impl_groupHopf_sh.fin N K gv3 gv4 gv5 gv6 gv7 gv8)))

theorem impl_groupHopf_sh.k0_mix {ρ : Type} (N : Nat) (K : AV → Heap → Option ρ) (gv3 : Nat) (gv4 : Nat) (gv5 : Nat → Nat) (gv6 : Nat → Nat) (gv7 : Nat → Nat) (gv8 : Nat → Int) : mixK (impl_groupHopf_sh.fin N K gv3 gv4 gv5 gv6 gv7 gv8 .ret) (impl_groupHopf_sh.k0 N K gv3 gv4 gv5 gv6 gv7 gv8) = (impl_groupHopf_sh.k0 N K gv3 gv4 gv5 gv6 gv7 gv8) := by
  funext e s; cases e <;> kernel_rfl

noncomputable def impl_groupHopf_sh.st0 (p0 : Int) (table1 : Nat) (table2 : Nat) (gv3 : Nat) (gv4 : Nat) (gv5 : Nat → Nat) (gv6 : Nat → Nat) (gv7 : Nat → Nat) (gv8 : Nat → Int) (x10 : Int) (gv11 : Nat → Int) : St := ⟨sl 56 [(1, .slice true 0 0 table1 (.exact table2) 1), (4, .sptr [(2, 2), (3, 1104)]), (5, .sptr [(4, 2), (5, 1104)]), (15, .slice true 0 0 table1 (.exact table2) 1), (16, .int .i64 ((table1 : Int))), (17, .int .i64 (x10))], [⟨false, .hdr 1 gv3 gv4 gv5 gv6 (some gv7)⟩, ⟨false, .flat 0 (.ints .i64 gv8)⟩, ⟨true, .flat 2 (.ints .i64 (fun _ => 0))⟩, ⟨true, .flat 1104 (.ints .u8 (fun _ => 0))⟩, ⟨true, .flat 2 (.ints .i64 (upd (upd (fun _ => 0) 0 p0) 1 (table1 : Int)))⟩, ⟨true, .flat 1104 (.ints .u8 gv11)⟩]⟩

noncomputable def impl_groupHopf_sh.sx0_0 (p0 : Int) (table1 : Nat) (gv3 : Nat) (gv4 : Nat) (gv5 : Nat → Nat) (gv6 : Nat → Nat) (gv7 : Nat → Nat) (gv8 : Nat → Int) (ov19 : Nat → Int) : St := ⟨sl 56 [(4, .sptr [(2, 2), (3, 1104)]), (5, .sptr [(4, 2), (5, 1104)])], [⟨false, .hdr 1 gv3 gv4 gv5 gv6 (some gv7)⟩, ⟨false, .flat 0 (.ints .i64 gv8)⟩, ⟨true, .flat 2 (.ints .i64 (fun _ => 0))⟩, ⟨true, .flat 1104 (.ints .u8 (fun _ => 0))⟩, ⟨true, .flat 2 (.ints .i64 (upd (upd (fun _ => 0) 0 p0) 1 (table1 : Int)))⟩, ⟨true, .flat 1104 (.ints .u8 ov19)⟩]⟩

noncomputable def impl_groupHopf_sh.k1g {ρ : Type} (N : Nat) (L0 : St → Option ρ) (kv : XE → St → Option ρ) : XE → St → Option ρ := (blockK impl_groupHopf_sh.kp 2 2 (seqK (xcode (E23 N) ents impl_groupHopf_sh.kp 2 N (cB (cB (cK (cA (cB (cB (cL (cK (cB (cA (cB (cB impl_groupHopf_sh.bd)))))))))))) 1) (blockK impl_groupHopf_sh.kp 2 1 (seqK (xcode (E23 N) ents impl_groupHopf_sh.kp 2 N (cB (cB (cB (cL (cK (cB (cA (cB (cB impl_groupHopf_sh.bd))))))))) 0) (roundK impl_groupHopf_sh.kp 2 0 L0 kv)))))

theorem impl_groupHopf_sh.k1_mix {ρ : Type} (N : Nat) (K : AV → Heap → Option ρ) (L0 : St → Option ρ) (gv3 : Nat) (gv4 : Nat) (gv5 : Nat → Nat) (gv6 : Nat → Nat) (gv7 : Nat → Nat) (gv8 : Nat → Int) : mixK (impl_groupHopf_sh.fin N K gv3 gv4 gv5 gv6 gv7 gv8 .ret) (impl_groupHopf_sh.k1g N L0 (impl_groupHopf_sh.k0 N K gv3 gv4 gv5 gv6 gv7 gv8)) = (impl_groupHopf_sh.k1g N L0 (impl_groupHopf_sh.k0 N K gv3 gv4 gv5 gv6 gv7 gv8)) := by
  funext e s; cases e <;> kernel_rfl

noncomputable def impl_groupHopf_sh.st1 (p0 : Int) (table1 : Nat) (table2 : Nat) (gv3 : Nat) (gv4 : Nat) (gv5 : Nat → Nat) (gv6 : Nat → Nat) (gv7 : Nat → Nat) (gv8 : Nat → Int) (x10 : Int) (x12 : Int) (gv13 : Nat → Int) : St := ⟨sl 56 [(1, .slice true 0 0 table1 (.exact table2) 1), (4, .sptr [(2, 2), (3, 1104)]), (5, .sptr [(4, 2), (5, 1104)]), (6, .int .i64 (x10)), (15, .slice true 0 0 table1 (.exact table2) 1), (16, .int .i64 ((table1 : Int))), (17, .int .i64 (x10)), (22, .slice false 1 (gv5 (0 + (x10.toNat * 1))) (gv6 (0 + (x10.toNat * 1))) (.exact (gv7 (0 + (x10.toNat * 1)))) 1), (23, .int .i64 ((((gv6 (0 + (x10.toNat * 1))) : Nat) : Int))), (24, .int .i64 (x12))], [⟨false, .hdr 1 gv3 gv4 gv5 gv6 (some gv7)⟩, ⟨false, .flat 0 (.ints .i64 gv8)⟩, ⟨true, .flat 2 (.ints .i64 (fun _ => 0))⟩, ⟨true, .flat 1104 (.ints .u8 (fun _ => 0))⟩, ⟨true, .flat 2 (.ints .i64 (upd (upd (fun _ => 0) 0 p0) 1 (table1 : Int)))⟩, ⟨true, .flat 1104 (.ints .u8 gv13)⟩]⟩

noncomputable def impl_groupHopf_sh.sx1_0 (p0 : Int) (table1 : Nat) (table2 : Nat) (gv3 : Nat) (gv4 : Nat) (gv5 : Nat → Nat) (gv6 : Nat → Nat) (gv7 : Nat → Nat) (gv8 : Nat → Int) (x10 : Int) (ov15 : Nat → Int) : St := ⟨sl 56 [(1, .slice true 0 0 table1 (.exact table2) 1), (4, .sptr [(2, 2), (3, 1104)]), (5, .sptr [(4, 2), (5, 1104)]), (6, .int .i64 (x10)), (15, .slice true 0 0 table1 (.exact table2) 1), (16, .int .i64 ((table1 : Int))), (17, .int .i64 (x10))], [⟨false, .hdr 1 gv3 gv4 gv5 gv6 (some gv7)⟩, ⟨false, .flat 0 (.ints .i64 gv8)⟩, ⟨true, .flat 2 (.ints .i64 (fun _ => 0))⟩, ⟨true, .flat 1104 (.ints .u8 (fun _ => 0))⟩, ⟨true, .flat 2 (.ints .i64 (upd (upd (fun _ => 0) 0 p0) 1 (table1 : Int)))⟩, ⟨true, .flat 1104 (.ints .u8 ov15)⟩]⟩

theorem impl_groupHopf_sh.b1_gen {ρ : Type} (N : Nat) (K : AV → Heap → Option ρ) (L1 : St → Option ρ) (kv : XE → St → Option ρ) (p0 : Int) (table1 : Nat) (table2 : Nat) (gv3 : Nat) (gv4 : Nat) (gv5 : Nat → Nat) (gv6 : Nat → Nat) (gv7 : Nat → Nat) (gv8 : Nat → Int) (x10 : Int) (x12 : Int) (gv13 : Nat → Int) :
    xcode (E23 N) ents impl_groupHopf_sh.kp 2 N (cL (cK (cB (cA (cB (cK (cA (cB (cB (cL (cK (cB (cA (cB (cB impl_groupHopf_sh.bd))))))))))))))) 2 (impl_groupHopf_sh.st1 p0 table1 table2 gv3 gv4 gv5 gv6 gv7 gv8 x10 x12 gv13) (roundK impl_groupHopf_sh.kp 2 2 L1 (mixK (impl_groupHopf_sh.fin N K gv3 gv4 gv5 gv6 gv7 gv8 .ret) kv)) = (impl_groupHopf_sh.b1 N (fun d0 d1 => K (.agg [⟨.i64, 2, d0⟩, ⟨.u8, 1104, d1⟩]) [⟨false, .hdr 1 gv3 gv4 gv5 gv6 (some gv7)⟩, ⟨false, .flat 0 (.ints .i64 gv8)⟩]) (fun x12 gv13 => L1 (impl_groupHopf_sh.st1 p0 table1 table2 gv3 gv4 gv5 gv6 gv7 gv8 x10 x12 gv13)) (fun ov15 => kv (.exit 2) (impl_groupHopf_sh.sx1_0 p0 table1 table2 gv3 gv4 gv5 gv6 gv7 gv8 x10 ov15)) gv5 gv6 gv8 x10 x12 gv13) := by kernel_rfl

theorem impl_groupHopf_sh.b1_eq {ρ : Type} (N : Nat) (K : AV → Heap → Option ρ) (L0 : St → Option ρ) (L1 : St → Option ρ) (p0 : Int) (table1 : Nat) (table2 : Nat) (gv3 : Nat) (gv4 : Nat) (gv5 : Nat → Nat) (gv6 : Nat → Nat) (gv7 : Nat → Nat) (gv8 : Nat → Int) (x10 : Int) (x12 : Int) (gv13 : Nat → Int) :
    xcode (E23 N) ents impl_groupHopf_sh.kp 2 N (cL (cK (cB (cA (cB (cK (cA (cB (cB (cL (cK (cB (cA (cB (cB impl_groupHopf_sh.bd))))))))))))))) 2 (impl_groupHopf_sh.st1 p0 table1 table2 gv3 gv4 gv5 gv6 gv7 gv8 x10 x12 gv13) (roundK impl_groupHopf_sh.kp 2 2 L1 (impl_groupHopf_sh.k1g N L0 (impl_groupHopf_sh.k0 N K gv3 gv4 gv5 gv6 gv7 gv8))) = (impl_groupHopf_sh.b1 N (fun d0 d1 => K (.agg [⟨.i64, 2, d0⟩, ⟨.u8, 1104, d1⟩]) [⟨false, .hdr 1 gv3 gv4 gv5 gv6 (some gv7)⟩, ⟨false, .flat 0 (.ints .i64 gv8)⟩]) (fun x12 gv13 => L1 (impl_groupHopf_sh.st1 p0 table1 table2 gv3 gv4 gv5 gv6 gv7 gv8 x10 x12 gv13)) (fun ov15 => (impl_groupHopf_sh.k1g N L0 (impl_groupHopf_sh.k0 N K gv3 gv4 gv5 gv6 gv7 gv8)) (.exit 2) (impl_groupHopf_sh.sx1_0 p0 table1 table2 gv3 gv4 gv5 gv6 gv7 gv8 x10 ov15)) gv5 gv6 gv8 x10 x12 gv13) := by
  have h := impl_groupHopf_sh.b1_gen N K L1 (impl_groupHopf_sh.k1g N L0 (impl_groupHopf_sh.k0 N K gv3 gv4 gv5 gv6 gv7 gv8)) p0 table1 table2 gv3 gv4 gv5 gv6 gv7 gv8 x10 x12 gv13
  rw [impl_groupHopf_sh.k1_mix] at h
  exact h

theorem impl_groupHopf_sh.a1_0_gen {ρ : Type} (N : Nat) (K : AV → Heap → Option ρ) (L0 : St → Option ρ) (kv : XE → St → Option ρ) (p0 : Int) (table1 : Nat) (table2 : Nat) (gv3 : Nat) (gv4 : Nat) (gv5 : Nat → Nat) (gv6 : Nat → Nat) (gv7 : Nat → Nat) (gv8 : Nat → Int) (x10 : Int) (ov15 : Nat → Int) :
    (impl_groupHopf_sh.k1g N L0 (mixK (impl_groupHopf_sh.fin N K gv3 gv4 gv5 gv6 gv7 gv8 .ret) kv)) (.exit 2) (impl_groupHopf_sh.sx1_0 p0 table1 table2 gv3 gv4 gv5 gv6 gv7 gv8 x10 ov15) = (impl_groupHopf_sh.a1_0 N (fun d0 d1 => K (.agg [⟨.i64, 2, d0⟩, ⟨.u8, 1104, d1⟩]) [⟨false, .hdr 1 gv3 gv4 gv5 gv6 (some gv7)⟩, ⟨false, .flat 0 (.ints .i64 gv8)⟩]) (fun x10 gv11 => L0 (impl_groupHopf_sh.st0 p0 table1 table2 gv3 gv4 gv5 gv6 gv7 gv8 x10 gv11)) (fun ov19 => kv (.exit 0) (impl_groupHopf_sh.sx0_0 p0 table1 gv3 gv4 gv5 gv6 gv7 gv8 ov19)) table1 table2 gv4 gv5 gv6 gv7 gv8 x10 ov15) := by kernel_rfl

theorem impl_groupHopf_sh.a1_0_eq {ρ : Type} (N : Nat) (K : AV → Heap → Option ρ) (L0 : St → Option ρ) (p0 : Int) (table1 : Nat) (table2 : Nat) (gv3 : Nat) (gv4 : Nat) (gv5 : Nat → Nat) (gv6 : Nat → Nat) (gv7 : Nat → Nat) (gv8 : Nat → Int) (x10 : Int) (ov15 : Nat → Int) :
    (impl_groupHopf_sh.k1g N L0 (impl_groupHopf_sh.k0 N K gv3 gv4 gv5 gv6 gv7 gv8)) (.exit 2) (impl_groupHopf_sh.sx1_0 p0 table1 table2 gv3 gv4 gv5 gv6 gv7 gv8 x10 ov15) = (impl_groupHopf_sh.a1_0 N (fun d0 d1 => K (.agg [⟨.i64, 2, d0⟩, ⟨.u8, 1104, d1⟩]) [⟨false, .hdr 1 gv3 gv4 gv5 gv6 (some gv7)⟩, ⟨false, .flat 0 (.ints .i64 gv8)⟩]) (fun x10 gv11 => L0 (impl_groupHopf_sh.st0 p0 table1 table2 gv3 gv4 gv5 gv6 gv7 gv8 x10 gv11)) (fun ov19 => (impl_groupHopf_sh.k0 N K gv3 gv4 gv5 gv6 gv7 gv8) (.exit 0) (impl_groupHopf_sh.sx0_0 p0 table1 gv3 gv4 gv5 gv6 gv7 gv8 ov19)) table1 table2 gv4 gv5 gv6 gv7 gv8 x10 ov15) := by
  have h := impl_groupHopf_sh.a1_0_gen N K L0 (impl_groupHopf_sh.k0 N K gv3 gv4 gv5 gv6 gv7 gv8) p0 table1 table2 gv3 gv4 gv5 gv6 gv7 gv8 x10 ov15
  rw [impl_groupHopf_sh.k0_mix] at h
  exact h

theorem impl_groupHopf_sh.b0_gen {ρ : Type} (N : Nat) (K : AV → Heap → Option ρ) (L0 : St → Option ρ) (kv : XE → St → Option ρ) (p0 : Int) (table1 : Nat) (table2 : Nat) (gv3 : Nat) (gv4 : Nat) (gv5 : Nat → Nat) (gv6 : Nat → Nat) (gv7 : Nat → Nat) (gv8 : Nat → Int) (x10 : Int) (gv11 : Nat → Int) :
    xcode (E23 N) ents impl_groupHopf_sh.kp 2 N (cL (cK (cB (cA (cB (cB impl_groupHopf_sh.bd)))))) 0 (impl_groupHopf_sh.st0 p0 table1 table2 gv3 gv4 gv5 gv6 gv7 gv8 x10 gv11) (roundK impl_groupHopf_sh.kp 2 0 L0 (mixK (impl_groupHopf_sh.fin N K gv3 gv4 gv5 gv6 gv7 gv8 .ret) kv)) = (impl_groupHopf_sh.b0 N (fun d0 d1 => K (.agg [⟨.i64, 2, d0⟩, ⟨.u8, 1104, d1⟩]) [⟨false, .hdr 1 gv3 gv4 gv5 gv6 (some gv7)⟩, ⟨false, .flat 0 (.ints .i64 gv8)⟩]) (fun x12 gv13 => xloop (xcode (E23 N) ents impl_groupHopf_sh.kp 2 N (cL (cK (cB (cA (cB (cK (cA (cB (cB (cL (cK (cB (cA (cB (cB impl_groupHopf_sh.bd))))))))))))))) 2) impl_groupHopf_sh.kp 2 2 N (impl_groupHopf_sh.st1 p0 table1 table2 gv3 gv4 gv5 gv6 gv7 gv8 x10 x12 gv13) (impl_groupHopf_sh.k1g N L0 (mixK (impl_groupHopf_sh.fin N K gv3 gv4 gv5 gv6 gv7 gv8 .ret) kv))) (fun x10 gv11 => L0 (impl_groupHopf_sh.st0 p0 table1 table2 gv3 gv4 gv5 gv6 gv7 gv8 x10 gv11)) (fun ov19 => kv (.exit 0) (impl_groupHopf_sh.sx0_0 p0 table1 gv3 gv4 gv5 gv6 gv7 gv8 ov19)) table1 x10 gv11) := by kernel_rfl

theorem impl_groupHopf_sh.b0_eq {ρ : Type} (N : Nat) (K : AV → Heap → Option ρ) (L0 : St → Option ρ) (p0 : Int) (table1 : Nat) (table2 : Nat) (gv3 : Nat) (gv4 : Nat) (gv5 : Nat → Nat) (gv6 : Nat → Nat) (gv7 : Nat → Nat) (gv8 : Nat → Int) (x10 : Int) (gv11 : Nat → Int) :
    xcode (E23 N) ents impl_groupHopf_sh.kp 2 N (cL (cK (cB (cA (cB (cB impl_groupHopf_sh.bd)))))) 0 (impl_groupHopf_sh.st0 p0 table1 table2 gv3 gv4 gv5 gv6 gv7 gv8 x10 gv11) (roundK impl_groupHopf_sh.kp 2 0 L0 (impl_groupHopf_sh.k0 N K gv3 gv4 gv5 gv6 gv7 gv8)) = (impl_groupHopf_sh.b0 N (fun d0 d1 => K (.agg [⟨.i64, 2, d0⟩, ⟨.u8, 1104, d1⟩]) [⟨false, .hdr 1 gv3 gv4 gv5 gv6 (some gv7)⟩, ⟨false, .flat 0 (.ints .i64 gv8)⟩]) (fun x12 gv13 => xloop (xcode (E23 N) ents impl_groupHopf_sh.kp 2 N (cL (cK (cB (cA (cB (cK (cA (cB (cB (cL (cK (cB (cA (cB (cB impl_groupHopf_sh.bd))))))))))))))) 2) impl_groupHopf_sh.kp 2 2 N (impl_groupHopf_sh.st1 p0 table1 table2 gv3 gv4 gv5 gv6 gv7 gv8 x10 x12 gv13) (impl_groupHopf_sh.k1g N L0 (impl_groupHopf_sh.k0 N K gv3 gv4 gv5 gv6 gv7 gv8))) (fun x10 gv11 => L0 (impl_groupHopf_sh.st0 p0 table1 table2 gv3 gv4 gv5 gv6 gv7 gv8 x10 gv11)) (fun ov19 => (impl_groupHopf_sh.k0 N K gv3 gv4 gv5 gv6 gv7 gv8) (.exit 0) (impl_groupHopf_sh.sx0_0 p0 table1 gv3 gv4 gv5 gv6 gv7 gv8 ov19)) table1 x10 gv11) := by
  have h := impl_groupHopf_sh.b0_gen N K L0 (impl_groupHopf_sh.k0 N K gv3 gv4 gv5 gv6 gv7 gv8) p0 table1 table2 gv3 gv4 gv5 gv6 gv7 gv8 x10 gv11
  rw [impl_groupHopf_sh.k0_mix] at h
  exact h

theorem impl_groupHopf_sh.a0_0_eq {ρ : Type} (N : Nat) (K : AV → Heap → Option ρ) (p0 : Int) (table1 : Nat) (gv3 : Nat) (gv4 : Nat) (gv5 : Nat → Nat) (gv6 : Nat → Nat) (gv7 : Nat → Nat) (gv8 : Nat → Int) (ov19 : Nat → Int) :
    (impl_groupHopf_sh.k0 N K gv3 gv4 gv5 gv6 gv7 gv8) (.exit 0) (impl_groupHopf_sh.sx0_0 p0 table1 gv3 gv4 gv5 gv6 gv7 gv8 ov19) = (impl_groupHopf_sh.a0_0 N (fun d0 d1 => K (.agg [⟨.i64, 2, d0⟩, ⟨.u8, 1104, d1⟩]) [⟨false, .hdr 1 gv3 gv4 gv5 gv6 (some gv7)⟩, ⟨false, .flat 0 (.ints .i64 gv8)⟩]) p0 table1 ov19) := by kernel_rfl

theorem impl_groupHopf_sh.l1_eq {ρ : Type} (N : Nat) (K : AV → Heap → Option ρ) (L0 : St → Option ρ) (p0 : Int) (table1 : Nat) (table2 : Nat) (gv3 : Nat) (gv4 : Nat) (gv5 : Nat → Nat) (gv6 : Nat → Nat) (gv7 : Nat → Nat) (gv8 : Nat → Int) (x10 : Int) :
    ∀ (m : Nat) (x12 : Int) (gv13 : Nat → Int), xloop (xcode (E23 N) ents impl_groupHopf_sh.kp 2 N (cL (cK (cB (cA (cB (cK (cA (cB (cB (cL (cK (cB (cA (cB (cB impl_groupHopf_sh.bd))))))))))))))) 2) impl_groupHopf_sh.kp 2 2 m (impl_groupHopf_sh.st1 p0 table1 table2 gv3 gv4 gv5 gv6 gv7 gv8 x10 x12 gv13) (impl_groupHopf_sh.k1g N L0 (impl_groupHopf_sh.k0 N K gv3 gv4 gv5 gv6 gv7 gv8)) = (impl_groupHopf_sh.l1 N (fun d0 d1 => K (.agg [⟨.i64, 2, d0⟩, ⟨.u8, 1104, d1⟩]) [⟨false, .hdr 1 gv3 gv4 gv5 gv6 (some gv7)⟩, ⟨false, .flat 0 (.ints .i64 gv8)⟩]) gv5 gv6 gv8 x10 (fun ov15 => (impl_groupHopf_sh.k1g N L0 (impl_groupHopf_sh.k0 N K gv3 gv4 gv5 gv6 gv7 gv8)) (.exit 2) (impl_groupHopf_sh.sx1_0 p0 table1 table2 gv3 gv4 gv5 gv6 gv7 gv8 x10 ov15)) m x12 gv13) := by
  intro m
  induction m with
  | zero => intros; rfl
  | succ m ih =>
    intro x12 gv13
    refine (impl_groupHopf_sh.b1_eq N K L0 (fun s => xloop (xcode (E23 N) ents impl_groupHopf_sh.kp 2 N (cL (cK (cB (cA (cB (cK (cA (cB (cB (cL (cK (cB (cA (cB (cB impl_groupHopf_sh.bd))))))))))))))) 2) impl_groupHopf_sh.kp 2 2 m s (impl_groupHopf_sh.k1g N L0 (impl_groupHopf_sh.k0 N K gv3 gv4 gv5 gv6 gv7 gv8))) p0 table1 table2 gv3 gv4 gv5 gv6 gv7 gv8 x10 x12 gv13).trans ?_
    simp only [ih]
    kernel_rfl

theorem impl_groupHopf_sh.l0_eq {ρ : Type} (N : Nat) (K : AV → Heap → Option ρ) (p0 : Int) (table1 : Nat) (table2 : Nat) (gv3 : Nat) (gv4 : Nat) (gv5 : Nat → Nat) (gv6 : Nat → Nat) (gv7 : Nat → Nat) (gv8 : Nat → Int) :
    ∀ (m : Nat) (x10 : Int) (gv11 : Nat → Int), xloop (xcode (E23 N) ents impl_groupHopf_sh.kp 2 N (cL (cK (cB (cA (cB (cB impl_groupHopf_sh.bd)))))) 0) impl_groupHopf_sh.kp 2 0 m (impl_groupHopf_sh.st0 p0 table1 table2 gv3 gv4 gv5 gv6 gv7 gv8 x10 gv11) (impl_groupHopf_sh.k0 N K gv3 gv4 gv5 gv6 gv7 gv8) = (impl_groupHopf_sh.l0 N (fun d0 d1 => K (.agg [⟨.i64, 2, d0⟩, ⟨.u8, 1104, d1⟩]) [⟨false, .hdr 1 gv3 gv4 gv5 gv6 (some gv7)⟩, ⟨false, .flat 0 (.ints .i64 gv8)⟩]) table1 table2 gv4 gv5 gv6 gv7 gv8 (fun ov19 => (impl_groupHopf_sh.k0 N K gv3 gv4 gv5 gv6 gv7 gv8) (.exit 0) (impl_groupHopf_sh.sx0_0 p0 table1 gv3 gv4 gv5 gv6 gv7 gv8 ov19)) m x10 gv11) := by
  intro m
  induction m with
  | zero => intros; rfl
  | succ m ih =>
    intro x10 gv11
    refine (impl_groupHopf_sh.b0_eq N K (fun s => xloop (xcode (E23 N) ents impl_groupHopf_sh.kp 2 N (cL (cK (cB (cA (cB (cB impl_groupHopf_sh.bd)))))) 0) impl_groupHopf_sh.kp 2 0 m s (impl_groupHopf_sh.k0 N K gv3 gv4 gv5 gv6 gv7 gv8)) p0 table1 table2 gv3 gv4 gv5 gv6 gv7 gv8 x10 gv11).trans ?_
    simp only [ih, impl_groupHopf_sh.l1_eq, impl_groupHopf_sh.a1_0_eq]
    kernel_rfl

theorem impl_groupHopf_sh.s_eq {ρ : Type} (N : Nat) (K : AV → Heap → Option ρ) (p0 : Int) (table1 : Nat) (table2 : Nat) (gv3 : Nat) (gv4 : Nat) (gv5 : Nat → Nat) (gv6 : Nat → Nat) (gv7 : Nat → Nat) (gv8 : Nat → Int) :
    xbody (E23 N) ents impl_groupHopf_sh.kp N Go.Proofs.Try.f19 impl_groupHopf_sh.bd [.int .i64 (p0), .slice true 0 0 table1 (.exact table2) 1] [⟨false, .hdr 1 gv3 gv4 gv5 gv6 (some gv7)⟩, ⟨false, .flat 0 (.ints .i64 gv8)⟩] K = (impl_groupHopf_sh.s N (fun d0 d1 => K (.agg [⟨.i64, 2, d0⟩, ⟨.u8, 1104, d1⟩]) [⟨false, .hdr 1 gv3 gv4 gv5 gv6 (some gv7)⟩, ⟨false, .flat 0 (.ints .i64 gv8)⟩]) (fun x10 gv11 => xloop (xcode (E23 N) ents impl_groupHopf_sh.kp 2 N (cL (cK (cB (cA (cB (cB impl_groupHopf_sh.bd)))))) 0) impl_groupHopf_sh.kp 2 0 N (impl_groupHopf_sh.st0 p0 table1 table2 gv3 gv4 gv5 gv6 gv7 gv8 x10 gv11) (impl_groupHopf_sh.k0 N K gv3 gv4 gv5 gv6 gv7 gv8))) := by kernel_rfl

theorem impl_groupHopf_sh.eq {ρ : Type} (N : Nat) (K : AV → Heap → Option ρ) (p0 : Int) (table1 : Nat) (table2 : Nat) (gv3 : Nat) (gv4 : Nat) (gv5 : Nat → Nat) (gv6 : Nat → Nat) (gv7 : Nat → Nat) (gv8 : Nat → Int) :
    xbody (E23 N) ents impl_groupHopf_sh.kp N Go.Proofs.Try.f19 impl_groupHopf_sh.bd [.int .i64 (p0), .slice true 0 0 table1 (.exact table2) 1] [⟨false, .hdr 1 gv3 gv4 gv5 gv6 (some gv7)⟩, ⟨false, .flat 0 (.ints .i64 gv8)⟩] K = (impl_groupHopf_sh N (fun d0 d1 => K (.agg [⟨.i64, 2, d0⟩, ⟨.u8, 1104, d1⟩]) [⟨false, .hdr 1 gv3 gv4 gv5 gv6 (some gv7)⟩, ⟨false, .flat 0 (.ints .i64 gv8)⟩]) p0 table1 table2 gv3 gv4 gv5 gv6 gv7 gv8) := by
  refine (impl_groupHopf_sh.s_eq N K p0 table1 table2 gv3 gv4 gv5 gv6 gv7 gv8).trans ?_
  simp only [impl_groupHopf_sh.l0_eq, impl_groupHopf_sh.a0_0_eq]
  kernel_rfl

noncomputable def impl_groupHopf_n.kp : Keeps := ⟨[(0, [1, 4, 5, 15, 16, 17], [], [])], [(0, [4, 5], [], [])], []⟩

noncomputable def impl_groupHopf_n.bd : Code := bodyOf Go.Proofs.Try.f19

noncomputable def impl_groupHopf_n.fin {ρ : Type} (N : Nat) (K : AV → Heap → Option ρ) : XE → St → Option ρ := finK (E23 N) impl_groupHopf_n.kp.fins Go.Proofs.Try.f19 [] K

noncomputable def impl_groupHopf_n.k0 {ρ : Type} (N : Nat) (K : AV → Heap → Option ρ) : XE → St → Option ρ := (blockK impl_groupHopf_n.kp 0 0 (seqK (xcode (E23 N) ents impl_groupHopf_n.kp 0 N (cB (cB (cB impl_groupHopf_n.bd))) 0) (impl_groupHopf_n.fin N K)))

theorem impl_groupHopf_n.k0_mix {ρ : Type} (N : Nat) (K : AV → Heap → Option ρ) : mixK (impl_groupHopf_n.fin N K .ret) (impl_groupHopf_n.k0 N K) = (impl_groupHopf_n.k0 N K) := by
  funext e s; cases e <;> kernel_rfl

noncomputable def impl_groupHopf_n.st0 (p0 : Int) (rv1 : Nat → Int) : St := ⟨sl 56 [(1, .nils), (4, .sptr [(0, 2), (1, 1104)]), (5, .sptr [(2, 2), (3, 1104)]), (15, .nils), (16, .int .i64 0), (17, .int .i64 0)], [⟨true, .flat 2 (.ints .i64 (fun _ => 0))⟩, ⟨true, .flat 1104 (.ints .u8 (fun _ => 0))⟩, ⟨true, .flat 2 (.ints .i64 (upd (upd (fun _ => 0) 0 p0) 1 0))⟩, ⟨true, .flat 1104 (.ints .u8 (updN (fun _ => 0) 0 8 rv1))⟩]⟩

noncomputable def impl_groupHopf_n.sx0_0 (p0 : Int) (rv1 : Nat → Int) : St := ⟨sl 56 [(4, .sptr [(0, 2), (1, 1104)]), (5, .sptr [(2, 2), (3, 1104)])], [⟨true, .flat 2 (.ints .i64 (fun _ => 0))⟩, ⟨true, .flat 1104 (.ints .u8 (fun _ => 0))⟩, ⟨true, .flat 2 (.ints .i64 (upd (upd (fun _ => 0) 0 p0) 1 0))⟩, ⟨true, .flat 1104 (.ints .u8 (updN (fun _ => 0) 0 8 rv1))⟩]⟩

theorem impl_groupHopf_n.b0_gen {ρ : Type} (N : Nat) (K : AV → Heap → Option ρ) (L0 : St → Option ρ) (kv : XE → St → Option ρ) (p0 : Int) (rv1 : Nat → Int) :
    xcode (E23 N) ents impl_groupHopf_n.kp 0 N (cL (cK (cB (cA (cB (cB impl_groupHopf_n.bd)))))) 0 (impl_groupHopf_n.st0 p0 rv1) (roundK impl_groupHopf_n.kp 0 0 L0 (mixK (impl_groupHopf_n.fin N K .ret) kv)) = (impl_groupHopf_n.b0 N (fun d0 d1 => K (.agg [⟨.i64, 2, d0⟩, ⟨.u8, 1104, d1⟩]) []) (L0 (impl_groupHopf_n.st0 p0 rv1)) (kv (.exit 0) (impl_groupHopf_n.sx0_0 p0 rv1))) := by kernel_rfl

theorem impl_groupHopf_n.b0_eq {ρ : Type} (N : Nat) (K : AV → Heap → Option ρ) (L0 : St → Option ρ) (p0 : Int) (rv1 : Nat → Int) :
    xcode (E23 N) ents impl_groupHopf_n.kp 0 N (cL (cK (cB (cA (cB (cB impl_groupHopf_n.bd)))))) 0 (impl_groupHopf_n.st0 p0 rv1) (roundK impl_groupHopf_n.kp 0 0 L0 (impl_groupHopf_n.k0 N K)) = (impl_groupHopf_n.b0 N (fun d0 d1 => K (.agg [⟨.i64, 2, d0⟩, ⟨.u8, 1104, d1⟩]) []) (L0 (impl_groupHopf_n.st0 p0 rv1)) ((impl_groupHopf_n.k0 N K) (.exit 0) (impl_groupHopf_n.sx0_0 p0 rv1))) := by
  have h := impl_groupHopf_n.b0_gen N K L0 (impl_groupHopf_n.k0 N K) p0 rv1
  rw [impl_groupHopf_n.k0_mix] at h
  exact h

theorem impl_groupHopf_n.a0_0_eq {ρ : Type} (N : Nat) (K : AV → Heap → Option ρ) (p0 : Int) (rv1 : Nat → Int) :
    (impl_groupHopf_n.k0 N K) (.exit 0) (impl_groupHopf_n.sx0_0 p0 rv1) = (impl_groupHopf_n.a0_0 N (fun d0 d1 => K (.agg [⟨.i64, 2, d0⟩, ⟨.u8, 1104, d1⟩]) []) p0 rv1) := by kernel_rfl

theorem impl_groupHopf_n.l0_eq {ρ : Type} (N : Nat) (K : AV → Heap → Option ρ) (p0 : Int) (rv1 : Nat → Int) :
    ∀ (m : Nat), xloop (xcode (E23 N) ents impl_groupHopf_n.kp 0 N (cL (cK (cB (cA (cB (cB impl_groupHopf_n.bd)))))) 0) impl_groupHopf_n.kp 0 0 m (impl_groupHopf_n.st0 p0 rv1) (impl_groupHopf_n.k0 N K) = (impl_groupHopf_n.l0 N (fun d0 d1 => K (.agg [⟨.i64, 2, d0⟩, ⟨.u8, 1104, d1⟩]) []) ((impl_groupHopf_n.k0 N K) (.exit 0) (impl_groupHopf_n.sx0_0 p0 rv1)) m) := by
  intro m
  induction m with
  | zero => intros; rfl
  | succ m ih =>
    refine (impl_groupHopf_n.b0_eq N K (fun s => xloop (xcode (E23 N) ents impl_groupHopf_n.kp 0 N (cL (cK (cB (cA (cB (cB impl_groupHopf_n.bd)))))) 0) impl_groupHopf_n.kp 0 0 m s (impl_groupHopf_n.k0 N K)) p0 rv1).trans ?_
    simp only [ih]
    kernel_rfl

theorem impl_groupHopf_n.s_eq {ρ : Type} (N : Nat) (K : AV → Heap → Option ρ) (p0 : Int) :
    xbody (E23 N) ents impl_groupHopf_n.kp N Go.Proofs.Try.f19 impl_groupHopf_n.bd [.int .i64 (p0), .nils] [] K = (impl_groupHopf_n.s N (fun d0 d1 => K (.agg [⟨.i64, 2, d0⟩, ⟨.u8, 1104, d1⟩]) []) (fun rv1 => xloop (xcode (E23 N) ents impl_groupHopf_n.kp 0 N (cL (cK (cB (cA (cB (cB impl_groupHopf_n.bd)))))) 0) impl_groupHopf_n.kp 0 0 N (impl_groupHopf_n.st0 p0 rv1) (impl_groupHopf_n.k0 N K))) := by kernel_rfl

theorem impl_groupHopf_n.eq {ρ : Type} (N : Nat) (K : AV → Heap → Option ρ) (p0 : Int) :
    xbody (E23 N) ents impl_groupHopf_n.kp N Go.Proofs.Try.f19 impl_groupHopf_n.bd [.int .i64 (p0), .nils] [] K = (impl_groupHopf_n N (fun d0 d1 => K (.agg [⟨.i64, 2, d0⟩, ⟨.u8, 1104, d1⟩]) []) p0) := by
  refine (impl_groupHopf_n.s_eq N K p0).trans ?_
  simp only [impl_groupHopf_n.l0_eq, impl_groupHopf_n.a0_0_eq]
  kernel_rfl

noncomputable def impl_groupHopf_sh.en (N : Nat) (ρ : Type) : List AV → Heap → (AV → Heap → Option ρ) → Option ρ
  | [.int .i64 (p0), .slice true 0 0 table1 (.exact table2) 1], [⟨false, .hdr 1 gv3 gv4 gv5 gv6 (some gv7)⟩, ⟨false, .flat 0 (.ints .i64 gv8)⟩], K => (impl_groupHopf_sh N (fun d0 d1 => K (.agg [⟨.i64, 2, d0⟩, ⟨.u8, 1104, d1⟩]) [⟨false, .hdr 1 gv3 gv4 gv5 gv6 (some gv7)⟩, ⟨false, .flat 0 (.ints .i64 gv8)⟩]) p0 table1 table2 gv3 gv4 gv5 gv6 gv7 gv8)
  | [.int .i64 (p0), .nils], [], K => (impl_groupHopf_n N (fun d0 d1 => K (.agg [⟨.i64, 2, d0⟩, ⟨.u8, 1104, d1⟩]) []) p0)
  | _, _, _ => none

theorem impl_groupHopf_sh.en_ok (N : Nat) (hE : EnvOk (E23 N) ents) (ρ : Type) (args : List AV) (sh : Heap) (K : AV → Heap → Option ρ) (r : ρ) (h : impl_groupHopf_sh.en N ρ args sh K = some r) : ∃ v sh', K v sh' = some r ∧ FnOk (E23 N).P 19 args sh v sh' := by
  unfold impl_groupHopf_sh.en at h
  split at h
  · exact fn_ok hE (kp := impl_groupHopf_sh.kp) (N := N) Go.Proofs.Try.func19 (c := impl_groupHopf_sh.bd) (by kernel_rfl) ((impl_groupHopf_sh.eq N _ _ _ _ _ _ _ _ _ _).trans h)
  · exact fn_ok hE (kp := impl_groupHopf_n.kp) (N := N) Go.Proofs.Try.func19 (c := impl_groupHopf_n.bd) (by kernel_rfl) ((impl_groupHopf_n.eq N _ _).trans h)
  · cases h

noncomputable def E24 (N : Nat) : Env := (E23 N).add 19 (impl_groupHopf_sh.en N)

theorem E24_ok (N : Nat) : EnvOk (E24 N) ents := Env.add_ok (E23_ok N) (impl_groupHopf_sh.en_ok N (E23_ok N))

noncomputable def impl_GroupHopf_sh.kp : Keeps := ⟨[], [], []⟩

noncomputable def impl_GroupHopf_sh.bd : Code := bodyOf Go.Proofs.Try.f7

noncomputable def impl_GroupHopf_sh.fin {ρ : Type} (N : Nat) (K : AV → Heap → Option ρ) (gv3 : Nat) (gv4 : Nat) (gv5 : Nat → Nat) (gv6 : Nat → Nat) (gv7 : Nat → Nat) (gv8 : Nat → Int) : XE → St → Option ρ := finK (E24 N) impl_GroupHopf_sh.kp.fins Go.Proofs.Try.f7 [⟨false, .hdr 1 gv3 gv4 gv5 gv6 (some gv7)⟩, ⟨false, .flat 0 (.ints .i64 gv8)⟩] K

theorem impl_GroupHopf_sh.eq {ρ : Type} (N : Nat) (K : AV → Heap → Option ρ) (p0 : Int) (table1 : Nat) (table2 : Nat) (gv3 : Nat) (gv4 : Nat) (gv5 : Nat → Nat) (gv6 : Nat → Nat) (gv7 : Nat → Nat) (gv8 : Nat → Int) :
    xbody (E24 N) ents impl_GroupHopf_sh.kp N Go.Proofs.Try.f7 impl_GroupHopf_sh.bd [.int .i64 (p0), .slice true 0 0 table1 (.exact table2) 1] [⟨false, .hdr 1 gv3 gv4 gv5 gv6 (some gv7)⟩, ⟨false, .flat 0 (.ints .i64 gv8)⟩] K = (impl_GroupHopf_sh N (fun d0 d1 d2 => K (.tup [.agg [⟨.i64, 2, d0⟩, ⟨.u8, 1104, d1⟩], .int .i64 (d2)]) [⟨false, .hdr 1 gv3 gv4 gv5 gv6 (some gv7)⟩, ⟨false, .flat 0 (.ints .i64 gv8)⟩]) p0 table1 table2 gv3 gv4 gv5 gv6 gv7 gv8) := by kernel_rfl

noncomputable def impl_GroupHopf_n.kp : Keeps := ⟨[], [], []⟩

noncomputable def impl_GroupHopf_n.bd : Code := bodyOf Go.Proofs.Try.f7

noncomputable def impl_GroupHopf_n.fin {ρ : Type} (N : Nat) (K : AV → Heap → Option ρ) : XE → St → Option ρ := finK (E24 N) impl_GroupHopf_n.kp.fins Go.Proofs.Try.f7 [] K

theorem impl_GroupHopf_n.eq {ρ : Type} (N : Nat) (K : AV → Heap → Option ρ) (p0 : Int) :
    xbody (E24 N) ents impl_GroupHopf_n.kp N Go.Proofs.Try.f7 impl_GroupHopf_n.bd [.int .i64 (p0), .nils] [] K = (impl_GroupHopf_n N (fun d0 d1 d2 => K (.tup [.agg [⟨.i64, 2, d0⟩, ⟨.u8, 1104, d1⟩], .int .i64 (d2)]) []) p0) := by kernel_rfl

noncomputable def impl_GroupHopf_sh.en (N : Nat) (ρ : Type) : List AV → Heap → (AV → Heap → Option ρ) → Option ρ
  | [.int .i64 (p0), .slice true 0 0 table1 (.exact table2) 1], [⟨false, .hdr 1 gv3 gv4 gv5 gv6 (some gv7)⟩, ⟨false, .flat 0 (.ints .i64 gv8)⟩], K => (impl_GroupHopf_sh N (fun d0 d1 d2 => K (.tup [.agg [⟨.i64, 2, d0⟩, ⟨.u8, 1104, d1⟩], .int .i64 (d2)]) [⟨false, .hdr 1 gv3 gv4 gv5 gv6 (some gv7)⟩, ⟨false, .flat 0 (.ints .i64 gv8)⟩]) p0 table1 table2 gv3 gv4 gv5 gv6 gv7 gv8)
  | [.int .i64 (p0), .nils], [], K => (impl_GroupHopf_n N (fun d0 d1 d2 => K (.tup [.agg [⟨.i64, 2, d0⟩, ⟨.u8, 1104, d1⟩], .int .i64 (d2)]) []) p0)
  | _, _, _ => none

theorem impl_GroupHopf_sh.en_ok (N : Nat) (hE : EnvOk (E24 N) ents) (ρ : Type) (args : List AV) (sh : Heap) (K : AV → Heap → Option ρ) (r : ρ) (h : impl_GroupHopf_sh.en N ρ args sh K = some r) : ∃ v sh', K v sh' = some r ∧ FnOk (E24 N).P 7 args sh v sh' := by
  unfold impl_GroupHopf_sh.en at h
  split at h
  · exact fn_ok hE (kp := impl_GroupHopf_sh.kp) (N := N) Go.Proofs.Try.func7 (c := impl_GroupHopf_sh.bd) (by kernel_rfl) ((impl_GroupHopf_sh.eq N _ _ _ _ _ _ _ _ _ _).trans h)
  · exact fn_ok hE (kp := impl_GroupHopf_n.kp) (N := N) Go.Proofs.Try.func7 (c := impl_GroupHopf_n.bd) (by kernel_rfl) ((impl_GroupHopf_n.eq N _ _).trans h)
  · cases h

noncomputable def E25 (N : Nat) : Env := (E24 N).add 7 (impl_GroupHopf_sh.en N)

theorem E25_ok (N : Nat) : EnvOk (E25 N) ents := Env.add_ok (E24_ok N) (impl_GroupHopf_sh.en_ok N (E24_ok N))

noncomputable def laws_eqVector.kp : Keeps := ⟨[(0, [2, 3, 5], [], [])], [(0, [], [], [])], []⟩

noncomputable def laws_eqVector.bd : Code := bodyOf Go.Proofs.Try.f20

noncomputable def laws_eqVector.fin {ρ : Type} (N : Nat) (K : AV → Heap → Option ρ) : XE → St → Option ρ := finK (E25 N) laws_eqVector.kp.fins Go.Proofs.Try.f20 [] K

noncomputable def laws_eqVector.k0 {ρ : Type} (N : Nat) (K : AV → Heap → Option ρ) : XE → St → Option ρ := (blockK laws_eqVector.kp 0 0 (seqK (xcode (E25 N) ents laws_eqVector.kp 0 N (cB (cB laws_eqVector.bd)) 0) (laws_eqVector.fin N K)))

theorem laws_eqVector.k0_mix {ρ : Type} (N : Nat) (K : AV → Heap → Option ρ) : mixK (laws_eqVector.fin N K .ret) (laws_eqVector.k0 N K) = (laws_eqVector.k0 N K) := by
  funext e s; cases e <;> kernel_rfl

noncomputable def laws_eqVector.st0 (av0 : Nat → Int) (bv1 : Nat → Int) (i2 : Int) : St := ⟨sl 17 [(2, .sptr [(0, 8)]), (3, .sptr [(1, 8)]), (5, .int .i64 (i2))], [⟨true, .flat 8 (.ints .u8 av0)⟩, ⟨true, .flat 8 (.ints .u8 bv1)⟩]⟩

noncomputable def laws_eqVector.sx0_0 : St := ⟨sl 17 [], []⟩

theorem laws_eqVector.b0_gen {ρ : Type} (N : Nat) (K : AV → Heap → Option ρ) (L0 : St → Option ρ) (kv : XE → St → Option ρ) (av0 : Nat → Int) (bv1 : Nat → Int) (i2 : Int) :
    xcode (E25 N) ents laws_eqVector.kp 0 N (cL (cK (cB (cA (cB laws_eqVector.bd))))) 0 (laws_eqVector.st0 av0 bv1 i2) (roundK laws_eqVector.kp 0 0 L0 (mixK (laws_eqVector.fin N K .ret) kv)) = (laws_eqVector.b0 N (fun d0 => K (.bool (d0)) []) (fun i2 => L0 (laws_eqVector.st0 av0 bv1 i2)) (kv (.exit 0) (laws_eqVector.sx0_0)) av0 bv1 i2) := by kernel_rfl

theorem laws_eqVector.b0_eq {ρ : Type} (N : Nat) (K : AV → Heap → Option ρ) (L0 : St → Option ρ) (av0 : Nat → Int) (bv1 : Nat → Int) (i2 : Int) :
    xcode (E25 N) ents laws_eqVector.kp 0 N (cL (cK (cB (cA (cB laws_eqVector.bd))))) 0 (laws_eqVector.st0 av0 bv1 i2) (roundK laws_eqVector.kp 0 0 L0 (laws_eqVector.k0 N K)) = (laws_eqVector.b0 N (fun d0 => K (.bool (d0)) []) (fun i2 => L0 (laws_eqVector.st0 av0 bv1 i2)) ((laws_eqVector.k0 N K) (.exit 0) (laws_eqVector.sx0_0)) av0 bv1 i2) := by
  have h := laws_eqVector.b0_gen N K L0 (laws_eqVector.k0 N K) av0 bv1 i2
  rw [laws_eqVector.k0_mix] at h
  exact h

theorem laws_eqVector.a0_0_eq {ρ : Type} (N : Nat) (K : AV → Heap → Option ρ) :
    (laws_eqVector.k0 N K) (.exit 0) (laws_eqVector.sx0_0) = (laws_eqVector.a0_0 N (fun d0 => K (.bool (d0)) [])) := by kernel_rfl

theorem laws_eqVector.l0_eq {ρ : Type} (N : Nat) (K : AV → Heap → Option ρ) (av0 : Nat → Int) (bv1 : Nat → Int) :
    ∀ (m : Nat) (i2 : Int), xloop (xcode (E25 N) ents laws_eqVector.kp 0 N (cL (cK (cB (cA (cB laws_eqVector.bd))))) 0) laws_eqVector.kp 0 0 m (laws_eqVector.st0 av0 bv1 i2) (laws_eqVector.k0 N K) = (laws_eqVector.l0 N (fun d0 => K (.bool (d0)) []) av0 bv1 ((laws_eqVector.k0 N K) (.exit 0) (laws_eqVector.sx0_0)) m i2) := by
  intro m
  induction m with
  | zero => intros; rfl
  | succ m ih =>
    intro i2
    refine (laws_eqVector.b0_eq N K (fun s => xloop (xcode (E25 N) ents laws_eqVector.kp 0 N (cL (cK (cB (cA (cB laws_eqVector.bd))))) 0) laws_eqVector.kp 0 0 m s (laws_eqVector.k0 N K)) av0 bv1 i2).trans ?_
    simp only [ih]
    kernel_rfl

theorem laws_eqVector.s_eq {ρ : Type} (N : Nat) (K : AV → Heap → Option ρ) (av0 : Nat → Int) (bv1 : Nat → Int) :
    xbody (E25 N) ents laws_eqVector.kp N Go.Proofs.Try.f20 laws_eqVector.bd [.agg [⟨.u8, 8, av0⟩], .agg [⟨.u8, 8, bv1⟩]] [] K = (laws_eqVector.s N (fun d0 => K (.bool (d0)) []) (fun i2 => xloop (xcode (E25 N) ents laws_eqVector.kp 0 N (cL (cK (cB (cA (cB laws_eqVector.bd))))) 0) laws_eqVector.kp 0 0 N (laws_eqVector.st0 av0 bv1 i2) (laws_eqVector.k0 N K))) := by kernel_rfl

theorem laws_eqVector.eq {ρ : Type} (N : Nat) (K : AV → Heap → Option ρ) (av0 : Nat → Int) (bv1 : Nat → Int) :
    xbody (E25 N) ents laws_eqVector.kp N Go.Proofs.Try.f20 laws_eqVector.bd [.agg [⟨.u8, 8, av0⟩], .agg [⟨.u8, 8, bv1⟩]] [] K = (laws_eqVector N (fun d0 => K (.bool (d0)) []) av0 bv1) := by
  refine (laws_eqVector.s_eq N K av0 bv1).trans ?_
  simp only [laws_eqVector.l0_eq, laws_eqVector.a0_0_eq]
  kernel_rfl

noncomputable def laws_eqVector.en (N : Nat) (ρ : Type) : List AV → Heap → (AV → Heap → Option ρ) → Option ρ
  | [.agg [⟨.u8, 8, av0⟩], .agg [⟨.u8, 8, bv1⟩]], [], K => (laws_eqVector N (fun d0 => K (.bool (d0)) []) av0 bv1)
  | _, _, _ => none

theorem laws_eqVector.en_ok (N : Nat) (hE : EnvOk (E25 N) ents) (ρ : Type) (args : List AV) (sh : Heap) (K : AV → Heap → Option ρ) (r : ρ) (h : laws_eqVector.en N ρ args sh K = some r) : ∃ v sh', K v sh' = some r ∧ FnOk (E25 N).P 20 args sh v sh' := by
  unfold laws_eqVector.en at h
  split at h
  · exact fn_ok hE (kp := laws_eqVector.kp) (N := N) Go.Proofs.Try.func20 (c := laws_eqVector.bd) (by kernel_rfl) ((laws_eqVector.eq N _ _ _).trans h)
  · cases h

noncomputable def E26 (N : Nat) : Env := (E25 N).add 20 (laws_eqVector.en N)

theorem E26_ok (N : Nat) : EnvOk (E26 N) ents := Env.add_ok (E25_ok N) (laws_eqVector.en_ok N (E25_ok N))

noncomputable def laws_eqLinear.kp : Keeps := ⟨[(0, [2, 3, 5], [], [])], [(0, [], [], [])], []⟩

noncomputable def laws_eqLinear.bd : Code := bodyOf Go.Proofs.Try.f22

noncomputable def laws_eqLinear.fin {ρ : Type} (N : Nat) (K : AV → Heap → Option ρ) : XE → St → Option ρ := finK (E26 N) laws_eqLinear.kp.fins Go.Proofs.Try.f22 [] K

noncomputable def laws_eqLinear.k0 {ρ : Type} (N : Nat) (K : AV → Heap → Option ρ) : XE → St → Option ρ := (blockK laws_eqLinear.kp 0 0 (seqK (xcode (E26 N) ents laws_eqLinear.kp 0 N (cB (cB laws_eqLinear.bd)) 0) (laws_eqLinear.fin N K)))

theorem laws_eqLinear.k0_mix {ρ : Type} (N : Nat) (K : AV → Heap → Option ρ) : mixK (laws_eqLinear.fin N K .ret) (laws_eqLinear.k0 N K) = (laws_eqLinear.k0 N K) := by
  funext e s; cases e <;> kernel_rfl

noncomputable def laws_eqLinear.st0 (av0 : Nat → Int) (bv1 : Nat → Int) (i2 : Int) : St := ⟨sl 18 [(2, .sptr [(0, 64)]), (3, .sptr [(1, 64)]), (5, .int .i64 (i2))], [⟨true, .flat 64 (.ints .u8 av0)⟩, ⟨true, .flat 64 (.ints .u8 bv1)⟩]⟩

noncomputable def laws_eqLinear.sx0_0 : St := ⟨sl 18 [], []⟩

theorem laws_eqLinear.b0_gen {ρ : Type} (N : Nat) (K : AV → Heap → Option ρ) (L0 : St → Option ρ) (kv : XE → St → Option ρ) (av0 : Nat → Int) (bv1 : Nat → Int) (i2 : Int) :
    xcode (E26 N) ents laws_eqLinear.kp 0 N (cL (cK (cB (cA (cB laws_eqLinear.bd))))) 0 (laws_eqLinear.st0 av0 bv1 i2) (roundK laws_eqLinear.kp 0 0 L0 (mixK (laws_eqLinear.fin N K .ret) kv)) = (laws_eqLinear.b0 N (fun d0 => K (.bool (d0)) []) (fun i2 => L0 (laws_eqLinear.st0 av0 bv1 i2)) (kv (.exit 0) (laws_eqLinear.sx0_0)) av0 bv1 i2) := by kernel_rfl

theorem laws_eqLinear.b0_eq {ρ : Type} (N : Nat) (K : AV → Heap → Option ρ) (L0 : St → Option ρ) (av0 : Nat → Int) (bv1 : Nat → Int) (i2 : Int) :
    xcode (E26 N) ents laws_eqLinear.kp 0 N (cL (cK (cB (cA (cB laws_eqLinear.bd))))) 0 (laws_eqLinear.st0 av0 bv1 i2) (roundK laws_eqLinear.kp 0 0 L0 (laws_eqLinear.k0 N K)) = (laws_eqLinear.b0 N (fun d0 => K (.bool (d0)) []) (fun i2 => L0 (laws_eqLinear.st0 av0 bv1 i2)) ((laws_eqLinear.k0 N K) (.exit 0) (laws_eqLinear.sx0_0)) av0 bv1 i2) := by
  have h := laws_eqLinear.b0_gen N K L0 (laws_eqLinear.k0 N K) av0 bv1 i2
  rw [laws_eqLinear.k0_mix] at h
  exact h

theorem laws_eqLinear.a0_0_eq {ρ : Type} (N : Nat) (K : AV → Heap → Option ρ) :
    (laws_eqLinear.k0 N K) (.exit 0) (laws_eqLinear.sx0_0) = (laws_eqLinear.a0_0 N (fun d0 => K (.bool (d0)) [])) := by kernel_rfl

theorem laws_eqLinear.l0_eq {ρ : Type} (N : Nat) (K : AV → Heap → Option ρ) (av0 : Nat → Int) (bv1 : Nat → Int) :
    ∀ (m : Nat) (i2 : Int), xloop (xcode (E26 N) ents laws_eqLinear.kp 0 N (cL (cK (cB (cA (cB laws_eqLinear.bd))))) 0) laws_eqLinear.kp 0 0 m (laws_eqLinear.st0 av0 bv1 i2) (laws_eqLinear.k0 N K) = (laws_eqLinear.l0 N (fun d0 => K (.bool (d0)) []) av0 bv1 ((laws_eqLinear.k0 N K) (.exit 0) (laws_eqLinear.sx0_0)) m i2) := by
  intro m
  induction m with
  | zero => intros; rfl
  | succ m ih =>
    intro i2
    refine (laws_eqLinear.b0_eq N K (fun s => xloop (xcode (E26 N) ents laws_eqLinear.kp 0 N (cL (cK (cB (cA (cB laws_eqLinear.bd))))) 0) laws_eqLinear.kp 0 0 m s (laws_eqLinear.k0 N K)) av0 bv1 i2).trans ?_
    simp only [ih]
    kernel_rfl

theorem laws_eqLinear.s_eq {ρ : Type} (N : Nat) (K : AV → Heap → Option ρ) (av0 : Nat → Int) (bv1 : Nat → Int) :
    xbody (E26 N) ents laws_eqLinear.kp N Go.Proofs.Try.f22 laws_eqLinear.bd [.agg [⟨.u8, 64, av0⟩], .agg [⟨.u8, 64, bv1⟩]] [] K = (laws_eqLinear.s N (fun d0 => K (.bool (d0)) []) (fun i2 => xloop (xcode (E26 N) ents laws_eqLinear.kp 0 N (cL (cK (cB (cA (cB laws_eqLinear.bd))))) 0) laws_eqLinear.kp 0 0 N (laws_eqLinear.st0 av0 bv1 i2) (laws_eqLinear.k0 N K))) := by kernel_rfl

theorem laws_eqLinear.eq {ρ : Type} (N : Nat) (K : AV → Heap → Option ρ) (av0 : Nat → Int) (bv1 : Nat → Int) :
    xbody (E26 N) ents laws_eqLinear.kp N Go.Proofs.Try.f22 laws_eqLinear.bd [.agg [⟨.u8, 64, av0⟩], .agg [⟨.u8, 64, bv1⟩]] [] K = (laws_eqLinear N (fun d0 => K (.bool (d0)) []) av0 bv1) := by
  refine (laws_eqLinear.s_eq N K av0 bv1).trans ?_
  simp only [laws_eqLinear.l0_eq, laws_eqLinear.a0_0_eq]
  kernel_rfl

noncomputable def laws_eqLinear.en (N : Nat) (ρ : Type) : List AV → Heap → (AV → Heap → Option ρ) → Option ρ
  | [.agg [⟨.u8, 64, av0⟩], .agg [⟨.u8, 64, bv1⟩]], [], K => (laws_eqLinear N (fun d0 => K (.bool (d0)) []) av0 bv1)
  | _, _, _ => none

theorem laws_eqLinear.en_ok (N : Nat) (hE : EnvOk (E26 N) ents) (ρ : Type) (args : List AV) (sh : Heap) (K : AV → Heap → Option ρ) (r : ρ) (h : laws_eqLinear.en N ρ args sh K = some r) : ∃ v sh', K v sh' = some r ∧ FnOk (E26 N).P 22 args sh v sh' := by
  unfold laws_eqLinear.en at h
  split at h
  · exact fn_ok hE (kp := laws_eqLinear.kp) (N := N) Go.Proofs.Try.func22 (c := laws_eqLinear.bd) (by kernel_rfl) ((laws_eqLinear.eq N _ _ _).trans h)
  · cases h

noncomputable def E27 (N : Nat) : Env := (E26 N).add 22 (laws_eqLinear.en N)

theorem E27_ok (N : Nat) : EnvOk (E27 N) ents := Env.add_ok (E26_ok N) (laws_eqLinear.en_ok N (E26_ok N))

noncomputable def laws_eqTable.kp : Keeps := ⟨[(0, [2, 3, 5], [], [])], [(0, [], [], [])], []⟩

noncomputable def laws_eqTable.bd : Code := bodyOf Go.Proofs.Try.f21

noncomputable def laws_eqTable.fin {ρ : Type} (N : Nat) (K : AV → Heap → Option ρ) : XE → St → Option ρ := finK (E27 N) laws_eqTable.kp.fins Go.Proofs.Try.f21 [] K

noncomputable def laws_eqTable.k0 {ρ : Type} (N : Nat) (K : AV → Heap → Option ρ) : XE → St → Option ρ := (blockK laws_eqTable.kp 0 0 (seqK (xcode (E27 N) ents laws_eqTable.kp 0 N (cB (cB laws_eqTable.bd)) 0) (laws_eqTable.fin N K)))

theorem laws_eqTable.k0_mix {ρ : Type} (N : Nat) (K : AV → Heap → Option ρ) : mixK (laws_eqTable.fin N K .ret) (laws_eqTable.k0 N K) = (laws_eqTable.k0 N K) := by
  funext e s; cases e <;> kernel_rfl

noncomputable def laws_eqTable.st0 (av0 : Nat → Int) (bv1 : Nat → Int) (i2 : Int) : St := ⟨sl 18 [(2, .sptr [(0, 512)]), (3, .sptr [(1, 512)]), (5, .int .i64 (i2))], [⟨true, .flat 512 (.ints .u8 av0)⟩, ⟨true, .flat 512 (.ints .u8 bv1)⟩]⟩

noncomputable def laws_eqTable.sx0_0 : St := ⟨sl 18 [], []⟩

theorem laws_eqTable.b0_gen {ρ : Type} (N : Nat) (K : AV → Heap → Option ρ) (L0 : St → Option ρ) (kv : XE → St → Option ρ) (av0 : Nat → Int) (bv1 : Nat → Int) (i2 : Int) :
    xcode (E27 N) ents laws_eqTable.kp 0 N (cL (cK (cB (cA (cB laws_eqTable.bd))))) 0 (laws_eqTable.st0 av0 bv1 i2) (roundK laws_eqTable.kp 0 0 L0 (mixK (laws_eqTable.fin N K .ret) kv)) = (laws_eqTable.b0 N (fun d0 => K (.bool (d0)) []) (fun i2 => L0 (laws_eqTable.st0 av0 bv1 i2)) (kv (.exit 0) (laws_eqTable.sx0_0)) av0 bv1 i2) := by kernel_rfl

theorem laws_eqTable.b0_eq {ρ : Type} (N : Nat) (K : AV → Heap → Option ρ) (L0 : St → Option ρ) (av0 : Nat → Int) (bv1 : Nat → Int) (i2 : Int) :
    xcode (E27 N) ents laws_eqTable.kp 0 N (cL (cK (cB (cA (cB laws_eqTable.bd))))) 0 (laws_eqTable.st0 av0 bv1 i2) (roundK laws_eqTable.kp 0 0 L0 (laws_eqTable.k0 N K)) = (laws_eqTable.b0 N (fun d0 => K (.bool (d0)) []) (fun i2 => L0 (laws_eqTable.st0 av0 bv1 i2)) ((laws_eqTable.k0 N K) (.exit 0) (laws_eqTable.sx0_0)) av0 bv1 i2) := by
  have h := laws_eqTable.b0_gen N K L0 (laws_eqTable.k0 N K) av0 bv1 i2
  rw [laws_eqTable.k0_mix] at h
  exact h

theorem laws_eqTable.a0_0_eq {ρ : Type} (N : Nat) (K : AV → Heap → Option ρ) :
    (laws_eqTable.k0 N K) (.exit 0) (laws_eqTable.sx0_0) = (laws_eqTable.a0_0 N (fun d0 => K (.bool (d0)) [])) := by kernel_rfl

theorem laws_eqTable.l0_eq {ρ : Type} (N : Nat) (K : AV → Heap → Option ρ) (av0 : Nat → Int) (bv1 : Nat → Int) :
    ∀ (m : Nat) (i2 : Int), xloop (xcode (E27 N) ents laws_eqTable.kp 0 N (cL (cK (cB (cA (cB laws_eqTable.bd))))) 0) laws_eqTable.kp 0 0 m (laws_eqTable.st0 av0 bv1 i2) (laws_eqTable.k0 N K) = (laws_eqTable.l0 N (fun d0 => K (.bool (d0)) []) av0 bv1 ((laws_eqTable.k0 N K) (.exit 0) (laws_eqTable.sx0_0)) m i2) := by
  intro m
  induction m with
  | zero => intros; rfl
  | succ m ih =>
    intro i2
    refine (laws_eqTable.b0_eq N K (fun s => xloop (xcode (E27 N) ents laws_eqTable.kp 0 N (cL (cK (cB (cA (cB laws_eqTable.bd))))) 0) laws_eqTable.kp 0 0 m s (laws_eqTable.k0 N K)) av0 bv1 i2).trans ?_
    simp only [ih]
    kernel_rfl

theorem laws_eqTable.s_eq {ρ : Type} (N : Nat) (K : AV → Heap → Option ρ) (av0 : Nat → Int) (bv1 : Nat → Int) :
    xbody (E27 N) ents laws_eqTable.kp N Go.Proofs.Try.f21 laws_eqTable.bd [.agg [⟨.u8, 512, av0⟩], .agg [⟨.u8, 512, bv1⟩]] [] K = (laws_eqTable.s N (fun d0 => K (.bool (d0)) []) (fun i2 => xloop (xcode (E27 N) ents laws_eqTable.kp 0 N (cL (cK (cB (cA (cB laws_eqTable.bd))))) 0) laws_eqTable.kp 0 0 N (laws_eqTable.st0 av0 bv1 i2) (laws_eqTable.k0 N K))) := by kernel_rfl

theorem laws_eqTable.eq {ρ : Type} (N : Nat) (K : AV → Heap → Option ρ) (av0 : Nat → Int) (bv1 : Nat → Int) :
    xbody (E27 N) ents laws_eqTable.kp N Go.Proofs.Try.f21 laws_eqTable.bd [.agg [⟨.u8, 512, av0⟩], .agg [⟨.u8, 512, bv1⟩]] [] K = (laws_eqTable N (fun d0 => K (.bool (d0)) []) av0 bv1) := by
  refine (laws_eqTable.s_eq N K av0 bv1).trans ?_
  simp only [laws_eqTable.l0_eq, laws_eqTable.a0_0_eq]
  kernel_rfl

noncomputable def laws_eqTable.en (N : Nat) (ρ : Type) : List AV → Heap → (AV → Heap → Option ρ) → Option ρ
  | [.agg [⟨.u8, 512, av0⟩], .agg [⟨.u8, 512, bv1⟩]], [], K => (laws_eqTable N (fun d0 => K (.bool (d0)) []) av0 bv1)
  | _, _, _ => none

theorem laws_eqTable.en_ok (N : Nat) (hE : EnvOk (E27 N) ents) (ρ : Type) (args : List AV) (sh : Heap) (K : AV → Heap → Option ρ) (r : ρ) (h : laws_eqTable.en N ρ args sh K = some r) : ∃ v sh', K v sh' = some r ∧ FnOk (E27 N).P 21 args sh v sh' := by
  unfold laws_eqTable.en at h
  split at h
  · exact fn_ok hE (kp := laws_eqTable.kp) (N := N) Go.Proofs.Try.func21 (c := laws_eqTable.bd) (by kernel_rfl) ((laws_eqTable.eq N _ _ _).trans h)
  · cases h

noncomputable def E28 (N : Nat) : Env := (E27 N).add 21 (laws_eqTable.en N)

theorem E28_ok (N : Nat) : EnvOk (E28 N) ents := Env.add_ok (E27_ok N) (laws_eqTable.en_ok N (E27_ok N))

noncomputable def laws_eqHopf.kp : Keeps := ⟨[], [], []⟩

noncomputable def laws_eqHopf.bd : Code := bodyOf Go.Proofs.Try.f8

noncomputable def laws_eqHopf.fin {ρ : Type} (N : Nat) (K : AV → Heap → Option ρ) : XE → St → Option ρ := finK (E28 N) laws_eqHopf.kp.fins Go.Proofs.Try.f8 [] K

theorem laws_eqHopf.eq {ρ : Type} (N : Nat) (K : AV → Heap → Option ρ) (av0 : Nat → Int) (av1 : Nat → Int) (bv2 : Nat → Int) (bv3 : Nat → Int) :
    xbody (E28 N) ents laws_eqHopf.kp N Go.Proofs.Try.f8 laws_eqHopf.bd [.agg [⟨.i64, 2, av0⟩, ⟨.u8, 1104, av1⟩], .agg [⟨.i64, 2, bv2⟩, ⟨.u8, 1104, bv3⟩]] [] K = (laws_eqHopf N (fun d0 => K (.bool (d0)) []) av0 av1 bv2 bv3) := by kernel_rfl

noncomputable def laws_eqHopf.en (N : Nat) (ρ : Type) : List AV → Heap → (AV → Heap → Option ρ) → Option ρ
  | [.agg [⟨.i64, 2, av0⟩, ⟨.u8, 1104, av1⟩], .agg [⟨.i64, 2, bv2⟩, ⟨.u8, 1104, bv3⟩]], [], K => (laws_eqHopf N (fun d0 => K (.bool (d0)) []) av0 av1 bv2 bv3)
  | _, _, _ => none

theorem laws_eqHopf.en_ok (N : Nat) (hE : EnvOk (E28 N) ents) (ρ : Type) (args : List AV) (sh : Heap) (K : AV → Heap → Option ρ) (r : ρ) (h : laws_eqHopf.en N ρ args sh K = some r) : ∃ v sh', K v sh' = some r ∧ FnOk (E28 N).P 8 args sh v sh' := by
  unfold laws_eqHopf.en at h
  split at h
  · exact fn_ok hE (kp := laws_eqHopf.kp) (N := N) Go.Proofs.Try.func8 (c := laws_eqHopf.bd) (by kernel_rfl) ((laws_eqHopf.eq N _ _ _ _ _).trans h)
  · cases h

noncomputable def E29 (N : Nat) : Env := (E28 N).add 8 (laws_eqHopf.en N)

theorem E29_ok (N : Nat) : EnvOk (E29 N) ents := Env.add_ok (E28_ok N) (laws_eqHopf.en_ok N (E28_ok N))

noncomputable def laws_eqInt64S_ss.kp : Keeps := ⟨[(0, [0, 1, 5], [], [])], [(0, [], [], [])], []⟩

noncomputable def laws_eqInt64S_ss.bd : Code := bodyOf Go.Proofs.Try.f31

noncomputable def laws_eqInt64S_ss.fin {ρ : Type} (N : Nat) (K : AV → Heap → Option ρ) (gv4 : Nat) (gv5 : Nat → Int) (gv6 : Nat) (gv7 : Nat → Int) : XE → St → Option ρ := finK (E29 N) laws_eqInt64S_ss.kp.fins Go.Proofs.Try.f31 [⟨false, .flat gv4 (.ints .i64 gv5)⟩, ⟨false, .flat gv6 (.ints .i64 gv7)⟩] K

noncomputable def laws_eqInt64S_ss.k0 {ρ : Type} (N : Nat) (K : AV → Heap → Option ρ) (gv4 : Nat) (gv5 : Nat → Int) (gv6 : Nat) (gv7 : Nat → Int) : XE → St → Option ρ := (blockK laws_eqInt64S_ss.kp 2 0 (seqK (xcode (E29 N) ents laws_eqInt64S_ss.kp 2 N (cB (cB (cB laws_eqInt64S_ss.bd))) 0) (laws_eqInt64S_ss.fin N K gv4 gv5 gv6 gv7)))

theorem laws_eqInt64S_ss.k0_mix {ρ : Type} (N : Nat) (K : AV → Heap → Option ρ) (gv4 : Nat) (gv5 : Nat → Int) (gv6 : Nat) (gv7 : Nat → Int) : mixK (laws_eqInt64S_ss.fin N K gv4 gv5 gv6 gv7 .ret) (laws_eqInt64S_ss.k0 N K gv4 gv5 gv6 gv7) = (laws_eqInt64S_ss.k0 N K gv4 gv5 gv6 gv7) := by
  funext e s; cases e <;> kernel_rfl

noncomputable def laws_eqInt64S_ss.st0 (av0 : Nat) (av1 : Nat) (bv2 : Nat) (bv3 : Nat) (gv4 : Nat) (gv5 : Nat → Int) (gv6 : Nat) (gv7 : Nat → Int) (i8 : Int) : St := ⟨sl 26 [(0, .slice false 0 0 av0 (.exact av1) 1), (1, .slice false 1 0 bv2 (.exact bv3) 1), (5, .int .i64 (i8))], [⟨false, .flat gv4 (.ints .i64 gv5)⟩, ⟨false, .flat gv6 (.ints .i64 gv7)⟩]⟩

noncomputable def laws_eqInt64S_ss.sx0_0 (gv4 : Nat) (gv5 : Nat → Int) (gv6 : Nat) (gv7 : Nat → Int) : St := ⟨sl 26 [], [⟨false, .flat gv4 (.ints .i64 gv5)⟩, ⟨false, .flat gv6 (.ints .i64 gv7)⟩]⟩

theorem laws_eqInt64S_ss.b0_gen {ρ : Type} (N : Nat) (K : AV → Heap → Option ρ) (L0 : St → Option ρ) (kv : XE → St → Option ρ) (av0 : Nat) (av1 : Nat) (bv2 : Nat) (bv3 : Nat) (gv4 : Nat) (gv5 : Nat → Int) (gv6 : Nat) (gv7 : Nat → Int) (i8 : Int) :
    xcode (E29 N) ents laws_eqInt64S_ss.kp 2 N (cL (cK (cB (cA (cB (cB laws_eqInt64S_ss.bd)))))) 0 (laws_eqInt64S_ss.st0 av0 av1 bv2 bv3 gv4 gv5 gv6 gv7 i8) (roundK laws_eqInt64S_ss.kp 2 0 L0 (mixK (laws_eqInt64S_ss.fin N K gv4 gv5 gv6 gv7 .ret) kv)) = (laws_eqInt64S_ss.b0 N (fun d0 => K (.bool (d0)) [⟨false, .flat gv4 (.ints .i64 gv5)⟩, ⟨false, .flat gv6 (.ints .i64 gv7)⟩]) (fun i8 => L0 (laws_eqInt64S_ss.st0 av0 av1 bv2 bv3 gv4 gv5 gv6 gv7 i8)) (kv (.exit 0) (laws_eqInt64S_ss.sx0_0 gv4 gv5 gv6 gv7)) av0 bv2 gv5 gv7 i8) := by kernel_rfl

theorem laws_eqInt64S_ss.b0_eq {ρ : Type} (N : Nat) (K : AV → Heap → Option ρ) (L0 : St → Option ρ) (av0 : Nat) (av1 : Nat) (bv2 : Nat) (bv3 : Nat) (gv4 : Nat) (gv5 : Nat → Int) (gv6 : Nat) (gv7 : Nat → Int) (i8 : Int) :
    xcode (E29 N) ents laws_eqInt64S_ss.kp 2 N (cL (cK (cB (cA (cB (cB laws_eqInt64S_ss.bd)))))) 0 (laws_eqInt64S_ss.st0 av0 av1 bv2 bv3 gv4 gv5 gv6 gv7 i8) (roundK laws_eqInt64S_ss.kp 2 0 L0 (laws_eqInt64S_ss.k0 N K gv4 gv5 gv6 gv7)) = (laws_eqInt64S_ss.b0 N (fun d0 => K (.bool (d0)) [⟨false, .flat gv4 (.ints .i64 gv5)⟩, ⟨false, .flat gv6 (.ints .i64 gv7)⟩]) (fun i8 => L0 (laws_eqInt64S_ss.st0 av0 av1 bv2 bv3 gv4 gv5 gv6 gv7 i8)) ((laws_eqInt64S_ss.k0 N K gv4 gv5 gv6 gv7) (.exit 0) (laws_eqInt64S_ss.sx0_0 gv4 gv5 gv6 gv7)) av0 bv2 gv5 gv7 i8) := by
  have h := laws_eqInt64S_ss.b0_gen N K L0 (laws_eqInt64S_ss.k0 N K gv4 gv5 gv6 gv7) av0 av1 bv2 bv3 gv4 gv5 gv6 gv7 i8
  rw [laws_eqInt64S_ss.k0_mix] at h
  exact h

theorem laws_eqInt64S_ss.a0_0_eq {ρ : Type} (N : Nat) (K : AV → Heap → Option ρ) (gv4 : Nat) (gv5 : Nat → Int) (gv6 : Nat) (gv7 : Nat → Int) :
    (laws_eqInt64S_ss.k0 N K gv4 gv5 gv6 gv7) (.exit 0) (laws_eqInt64S_ss.sx0_0 gv4 gv5 gv6 gv7) = (laws_eqInt64S_ss.a0_0 N (fun d0 => K (.bool (d0)) [⟨false, .flat gv4 (.ints .i64 gv5)⟩, ⟨false, .flat gv6 (.ints .i64 gv7)⟩])) := by kernel_rfl

theorem laws_eqInt64S_ss.l0_eq {ρ : Type} (N : Nat) (K : AV → Heap → Option ρ) (av0 : Nat) (av1 : Nat) (bv2 : Nat) (bv3 : Nat) (gv4 : Nat) (gv5 : Nat → Int) (gv6 : Nat) (gv7 : Nat → Int) :
    ∀ (m : Nat) (i8 : Int), xloop (xcode (E29 N) ents laws_eqInt64S_ss.kp 2 N (cL (cK (cB (cA (cB (cB laws_eqInt64S_ss.bd)))))) 0) laws_eqInt64S_ss.kp 2 0 m (laws_eqInt64S_ss.st0 av0 av1 bv2 bv3 gv4 gv5 gv6 gv7 i8) (laws_eqInt64S_ss.k0 N K gv4 gv5 gv6 gv7) = (laws_eqInt64S_ss.l0 N (fun d0 => K (.bool (d0)) [⟨false, .flat gv4 (.ints .i64 gv5)⟩, ⟨false, .flat gv6 (.ints .i64 gv7)⟩]) av0 bv2 gv5 gv7 ((laws_eqInt64S_ss.k0 N K gv4 gv5 gv6 gv7) (.exit 0) (laws_eqInt64S_ss.sx0_0 gv4 gv5 gv6 gv7)) m i8) := by
  intro m
  induction m with
  | zero => intros; rfl
  | succ m ih =>
    intro i8
    refine (laws_eqInt64S_ss.b0_eq N K (fun s => xloop (xcode (E29 N) ents laws_eqInt64S_ss.kp 2 N (cL (cK (cB (cA (cB (cB laws_eqInt64S_ss.bd)))))) 0) laws_eqInt64S_ss.kp 2 0 m s (laws_eqInt64S_ss.k0 N K gv4 gv5 gv6 gv7)) av0 av1 bv2 bv3 gv4 gv5 gv6 gv7 i8).trans ?_
    simp only [ih]
    kernel_rfl

theorem laws_eqInt64S_ss.s_eq {ρ : Type} (N : Nat) (K : AV → Heap → Option ρ) (av0 : Nat) (av1 : Nat) (bv2 : Nat) (bv3 : Nat) (gv4 : Nat) (gv5 : Nat → Int) (gv6 : Nat) (gv7 : Nat → Int) :
    xbody (E29 N) ents laws_eqInt64S_ss.kp N Go.Proofs.Try.f31 laws_eqInt64S_ss.bd [.slice false 0 0 av0 (.exact av1) 1, .slice false 1 0 bv2 (.exact bv3) 1] [⟨false, .flat gv4 (.ints .i64 gv5)⟩, ⟨false, .flat gv6 (.ints .i64 gv7)⟩] K = (laws_eqInt64S_ss.s N (fun d0 => K (.bool (d0)) [⟨false, .flat gv4 (.ints .i64 gv5)⟩, ⟨false, .flat gv6 (.ints .i64 gv7)⟩]) (fun i8 => xloop (xcode (E29 N) ents laws_eqInt64S_ss.kp 2 N (cL (cK (cB (cA (cB (cB laws_eqInt64S_ss.bd)))))) 0) laws_eqInt64S_ss.kp 2 0 N (laws_eqInt64S_ss.st0 av0 av1 bv2 bv3 gv4 gv5 gv6 gv7 i8) (laws_eqInt64S_ss.k0 N K gv4 gv5 gv6 gv7)) av0 bv2) := by kernel_rfl

theorem laws_eqInt64S_ss.eq {ρ : Type} (N : Nat) (K : AV → Heap → Option ρ) (av0 : Nat) (av1 : Nat) (bv2 : Nat) (bv3 : Nat) (gv4 : Nat) (gv5 : Nat → Int) (gv6 : Nat) (gv7 : Nat → Int) :
    xbody (E29 N) ents laws_eqInt64S_ss.kp N Go.Proofs.Try.f31 laws_eqInt64S_ss.bd [.slice false 0 0 av0 (.exact av1) 1, .slice false 1 0 bv2 (.exact bv3) 1] [⟨false, .flat gv4 (.ints .i64 gv5)⟩, ⟨false, .flat gv6 (.ints .i64 gv7)⟩] K = (laws_eqInt64S_ss N (fun d0 => K (.bool (d0)) [⟨false, .flat gv4 (.ints .i64 gv5)⟩, ⟨false, .flat gv6 (.ints .i64 gv7)⟩]) av0 av1 bv2 bv3 gv4 gv5 gv6 gv7) := by
  refine (laws_eqInt64S_ss.s_eq N K av0 av1 bv2 bv3 gv4 gv5 gv6 gv7).trans ?_
  simp only [laws_eqInt64S_ss.l0_eq, laws_eqInt64S_ss.a0_0_eq]
  kernel_rfl

noncomputable def laws_eqInt64S_ss.en (N : Nat) (ρ : Type) : List AV → Heap → (AV → Heap → Option ρ) → Option ρ
  | [.slice false 0 0 av0 (.exact av1) 1, .slice false 1 0 bv2 (.exact bv3) 1], [⟨false, .flat gv4 (.ints .i64 gv5)⟩, ⟨false, .flat gv6 (.ints .i64 gv7)⟩], K => (laws_eqInt64S_ss N (fun d0 => K (.bool (d0)) [⟨false, .flat gv4 (.ints .i64 gv5)⟩, ⟨false, .flat gv6 (.ints .i64 gv7)⟩]) av0 av1 bv2 bv3 gv4 gv5 gv6 gv7)
  | _, _, _ => none

theorem laws_eqInt64S_ss.en_ok (N : Nat) (hE : EnvOk (E29 N) ents) (ρ : Type) (args : List AV) (sh : Heap) (K : AV → Heap → Option ρ) (r : ρ) (h : laws_eqInt64S_ss.en N ρ args sh K = some r) : ∃ v sh', K v sh' = some r ∧ FnOk (E29 N).P 31 args sh v sh' := by
  unfold laws_eqInt64S_ss.en at h
  split at h
  · exact fn_ok hE (kp := laws_eqInt64S_ss.kp) (N := N) Go.Proofs.Try.func31 (c := laws_eqInt64S_ss.bd) (by kernel_rfl) ((laws_eqInt64S_ss.eq N _ _ _ _ _ _ _ _ _).trans h)
  · cases h

noncomputable def E30 (N : Nat) : Env := (E29 N).add 31 (laws_eqInt64S_ss.en N)

theorem E30_ok (N : Nat) : EnvOk (E30 N) ents := Env.add_ok (E29_ok N) (laws_eqInt64S_ss.en_ok N (E29_ok N))

noncomputable def laws_intactInt64S_ss.kp : Keeps := ⟨[], [], []⟩

noncomputable def laws_intactInt64S_ss.bd : Code := bodyOf Go.Proofs.Try.f23

noncomputable def laws_intactInt64S_ss.fin {ρ : Type} (N : Nat) (K : AV → Heap → Option ρ) (gv4 : Nat) (gv5 : Nat → Int) (gv6 : Nat) (gv7 : Nat → Int) : XE → St → Option ρ := finK (E30 N) laws_intactInt64S_ss.kp.fins Go.Proofs.Try.f23 [⟨false, .flat gv4 (.ints .i64 gv5)⟩, ⟨false, .flat gv6 (.ints .i64 gv7)⟩] K

theorem laws_intactInt64S_ss.eq {ρ : Type} (N : Nat) (K : AV → Heap → Option ρ) (x0 : Nat) (x1 : Nat) (y2 : Nat) (y3 : Nat) (gv4 : Nat) (gv5 : Nat → Int) (gv6 : Nat) (gv7 : Nat → Int) :
    xbody (E30 N) ents laws_intactInt64S_ss.kp N Go.Proofs.Try.f23 laws_intactInt64S_ss.bd [.slice false 0 0 x0 (.exact x1) 1, .slice false 1 0 y2 (.exact y3) 1] [⟨false, .flat gv4 (.ints .i64 gv5)⟩, ⟨false, .flat gv6 (.ints .i64 gv7)⟩] K = (laws_intactInt64S_ss N (fun d0 => K (.bool (d0)) [⟨false, .flat gv4 (.ints .i64 gv5)⟩, ⟨false, .flat gv6 (.ints .i64 gv7)⟩]) x0 x1 y2 y3 gv4 gv5 gv6 gv7) := by kernel_rfl

noncomputable def laws_intactInt64S_ss.en (N : Nat) (ρ : Type) : List AV → Heap → (AV → Heap → Option ρ) → Option ρ
  | [.slice false 0 0 x0 (.exact x1) 1, .slice false 1 0 y2 (.exact y3) 1], [⟨false, .flat gv4 (.ints .i64 gv5)⟩, ⟨false, .flat gv6 (.ints .i64 gv7)⟩], K => (laws_intactInt64S_ss N (fun d0 => K (.bool (d0)) [⟨false, .flat gv4 (.ints .i64 gv5)⟩, ⟨false, .flat gv6 (.ints .i64 gv7)⟩]) x0 x1 y2 y3 gv4 gv5 gv6 gv7)
  | _, _, _ => none

theorem laws_intactInt64S_ss.en_ok (N : Nat) (hE : EnvOk (E30 N) ents) (ρ : Type) (args : List AV) (sh : Heap) (K : AV → Heap → Option ρ) (r : ρ) (h : laws_intactInt64S_ss.en N ρ args sh K = some r) : ∃ v sh', K v sh' = some r ∧ FnOk (E30 N).P 23 args sh v sh' := by
  unfold laws_intactInt64S_ss.en at h
  split at h
  · exact fn_ok hE (kp := laws_intactInt64S_ss.kp) (N := N) Go.Proofs.Try.func23 (c := laws_intactInt64S_ss.bd) (by kernel_rfl) ((laws_intactInt64S_ss.eq N _ _ _ _ _ _ _ _ _).trans h)
  · cases h

noncomputable def E31 (N : Nat) : Env := (E30 N).add 23 (laws_intactInt64S_ss.en N)

theorem E31_ok (N : Nat) : EnvOk (E31 N) ents := Env.add_ok (E30_ok N) (laws_intactInt64S_ss.en_ok N (E30_ok N))

noncomputable def laws_eqInt64SS_shsh.kp : Keeps := ⟨[(0, [0, 1, 5], [], [])], [(0, [], [], [])], []⟩

noncomputable def laws_eqInt64SS_shsh.bd : Code := bodyOf Go.Proofs.Try.f24

noncomputable def laws_eqInt64SS_shsh.fin {ρ : Type} (N : Nat) (K : AV → Heap → Option ρ) (gv4 : Nat) (gv5 : Nat) (gv6 : Nat → Nat) (gv7 : Nat → Nat) (gv8 : Nat → Nat) (gv9 : Nat) (gv10 : Nat) (gv11 : Nat → Nat) (gv12 : Nat → Nat) (gv13 : Nat → Nat) (gv14 : Nat → Int) (gv15 : Nat → Int) : XE → St → Option ρ := finK (E31 N) laws_eqInt64SS_shsh.kp.fins Go.Proofs.Try.f24 [⟨false, .hdr 2 gv4 gv5 gv6 gv7 (some gv8)⟩, ⟨false, .hdr 3 gv9 gv10 gv11 gv12 (some gv13)⟩, ⟨false, .flat 0 (.ints .i64 gv14)⟩, ⟨false, .flat 0 (.ints .i64 gv15)⟩] K

noncomputable def laws_eqInt64SS_shsh.k0 {ρ : Type} (N : Nat) (K : AV → Heap → Option ρ) (gv4 : Nat) (gv5 : Nat) (gv6 : Nat → Nat) (gv7 : Nat → Nat) (gv8 : Nat → Nat) (gv9 : Nat) (gv10 : Nat) (gv11 : Nat → Nat) (gv12 : Nat → Nat) (gv13 : Nat → Nat) (gv14 : Nat → Int) (gv15 : Nat → Int) : XE → St → Option ρ := (blockK laws_eqInt64SS_shsh.kp 4 0 (seqK (xcode (E31 N) ents laws_eqInt64SS_shsh.kp 4 N (cB (cB (cB laws_eqInt64SS_shsh.bd))) 0) (laws_eqInt64SS_shsh.fin N K gv4 gv5 gv6 gv7 gv8 gv9 gv10 gv11 gv12 gv13 gv14 gv15)))

theorem laws_eqInt64SS_shsh.k0_mix {ρ : Type} (N : Nat) (K : AV → Heap → Option ρ) (gv4 : Nat) (gv5 : Nat) (gv6 : Nat → Nat) (gv7 : Nat → Nat) (gv8 : Nat → Nat) (gv9 : Nat) (gv10 : Nat) (gv11 : Nat → Nat) (gv12 : Nat → Nat) (gv13 : Nat → Nat) (gv14 : Nat → Int) (gv15 : Nat → Int) : mixK (laws_eqInt64SS_shsh.fin N K gv4 gv5 gv6 gv7 gv8 gv9 gv10 gv11 gv12 gv13 gv14 gv15 .ret) (laws_eqInt64SS_shsh.k0 N K gv4 gv5 gv6 gv7 gv8 gv9 gv10 gv11 gv12 gv13 gv14 gv15) = (laws_eqInt64SS_shsh.k0 N K gv4 gv5 gv6 gv7 gv8 gv9 gv10 gv11 gv12 gv13 gv14 gv15) := by
  funext e s; cases e <;> kernel_rfl

noncomputable def laws_eqInt64SS_shsh.st0 (av0 : Nat) (av1 : Nat) (bv2 : Nat) (bv3 : Nat) (gv4 : Nat) (gv5 : Nat) (gv6 : Nat → Nat) (gv7 : Nat → Nat) (gv8 : Nat → Nat) (gv9 : Nat) (gv10 : Nat) (gv11 : Nat → Nat) (gv12 : Nat → Nat) (gv13 : Nat → Nat) (gv14 : Nat → Int) (gv15 : Nat → Int) (i16 : Int) : St := ⟨sl 27 [(0, .slice true 0 0 av0 (.exact av1) 1), (1, .slice true 1 0 bv2 (.exact bv3) 1), (5, .int .i64 (i16))], [⟨false, .hdr 2 gv4 gv5 gv6 gv7 (some gv8)⟩, ⟨false, .hdr 3 gv9 gv10 gv11 gv12 (some gv13)⟩, ⟨false, .flat 0 (.ints .i64 gv14)⟩, ⟨false, .flat 0 (.ints .i64 gv15)⟩]⟩

noncomputable def laws_eqInt64SS_shsh.sx0_0 (gv4 : Nat) (gv5 : Nat) (gv6 : Nat → Nat) (gv7 : Nat → Nat) (gv8 : Nat → Nat) (gv9 : Nat) (gv10 : Nat) (gv11 : Nat → Nat) (gv12 : Nat → Nat) (gv13 : Nat → Nat) (gv14 : Nat → Int) (gv15 : Nat → Int) : St := ⟨sl 27 [], [⟨false, .hdr 2 gv4 gv5 gv6 gv7 (some gv8)⟩, ⟨false, .hdr 3 gv9 gv10 gv11 gv12 (some gv13)⟩, ⟨false, .flat 0 (.ints .i64 gv14)⟩, ⟨false, .flat 0 (.ints .i64 gv15)⟩]⟩

theorem laws_eqInt64SS_shsh.b0_gen {ρ : Type} (N : Nat) (K : AV → Heap → Option ρ) (L0 : St → Option ρ) (kv : XE → St → Option ρ) (av0 : Nat) (av1 : Nat) (bv2 : Nat) (bv3 : Nat) (gv4 : Nat) (gv5 : Nat) (gv6 : Nat → Nat) (gv7 : Nat → Nat) (gv8 : Nat → Nat) (gv9 : Nat) (gv10 : Nat) (gv11 : Nat → Nat) (gv12 : Nat → Nat) (gv13 : Nat → Nat) (gv14 : Nat → Int) (gv15 : Nat → Int) (i16 : Int) :
    xcode (E31 N) ents laws_eqInt64SS_shsh.kp 4 N (cL (cK (cB (cA (cB (cB laws_eqInt64SS_shsh.bd)))))) 0 (laws_eqInt64SS_shsh.st0 av0 av1 bv2 bv3 gv4 gv5 gv6 gv7 gv8 gv9 gv10 gv11 gv12 gv13 gv14 gv15 i16) (roundK laws_eqInt64SS_shsh.kp 4 0 L0 (mixK (laws_eqInt64SS_shsh.fin N K gv4 gv5 gv6 gv7 gv8 gv9 gv10 gv11 gv12 gv13 gv14 gv15 .ret) kv)) = (laws_eqInt64SS_shsh.b0 N (fun d0 => K (.bool (d0)) [⟨false, .hdr 2 gv4 gv5 gv6 gv7 (some gv8)⟩, ⟨false, .hdr 3 gv9 gv10 gv11 gv12 (some gv13)⟩, ⟨false, .flat 0 (.ints .i64 gv14)⟩, ⟨false, .flat 0 (.ints .i64 gv15)⟩]) (fun i16 => L0 (laws_eqInt64SS_shsh.st0 av0 av1 bv2 bv3 gv4 gv5 gv6 gv7 gv8 gv9 gv10 gv11 gv12 gv13 gv14 gv15 i16)) (kv (.exit 0) (laws_eqInt64SS_shsh.sx0_0 gv4 gv5 gv6 gv7 gv8 gv9 gv10 gv11 gv12 gv13 gv14 gv15)) av0 bv2 gv6 gv7 gv8 gv11 gv12 gv13 gv14 gv15 i16) := by kernel_rfl

theorem laws_eqInt64SS_shsh.b0_eq {ρ : Type} (N : Nat) (K : AV → Heap → Option ρ) (L0 : St → Option ρ) (av0 : Nat) (av1 : Nat) (bv2 : Nat) (bv3 : Nat) (gv4 : Nat) (gv5 : Nat) (gv6 : Nat → Nat) (gv7 : Nat → Nat) (gv8 : Nat → Nat) (gv9 : Nat) (gv10 : Nat) (gv11 : Nat → Nat) (gv12 : Nat → Nat) (gv13 : Nat → Nat) (gv14 : Nat → Int) (gv15 : Nat → Int) (i16 : Int) :
    xcode (E31 N) ents laws_eqInt64SS_shsh.kp 4 N (cL (cK (cB (cA (cB (cB laws_eqInt64SS_shsh.bd)))))) 0 (laws_eqInt64SS_shsh.st0 av0 av1 bv2 bv3 gv4 gv5 gv6 gv7 gv8 gv9 gv10 gv11 gv12 gv13 gv14 gv15 i16) (roundK laws_eqInt64SS_shsh.kp 4 0 L0 (laws_eqInt64SS_shsh.k0 N K gv4 gv5 gv6 gv7 gv8 gv9 gv10 gv11 gv12 gv13 gv14 gv15)) = (laws_eqInt64SS_shsh.b0 N (fun d0 => K (.bool (d0)) [⟨false, .hdr 2 gv4 gv5 gv6 gv7 (some gv8)⟩, ⟨false, .hdr 3 gv9 gv10 gv11 gv12 (some gv13)⟩, ⟨false, .flat 0 (.ints .i64 gv14)⟩, ⟨false, .flat 0 (.ints .i64 gv15)⟩]) (fun i16 => L0 (laws_eqInt64SS_shsh.st0 av0 av1 bv2 bv3 gv4 gv5 gv6 gv7 gv8 gv9 gv10 gv11 gv12 gv13 gv14 gv15 i16)) ((laws_eqInt64SS_shsh.k0 N K gv4 gv5 gv6 gv7 gv8 gv9 gv10 gv11 gv12 gv13 gv14 gv15) (.exit 0) (laws_eqInt64SS_shsh.sx0_0 gv4 gv5 gv6 gv7 gv8 gv9 gv10 gv11 gv12 gv13 gv14 gv15)) av0 bv2 gv6 gv7 gv8 gv11 gv12 gv13 gv14 gv15 i16) := by
  have h := laws_eqInt64SS_shsh.b0_gen N K L0 (laws_eqInt64SS_shsh.k0 N K gv4 gv5 gv6 gv7 gv8 gv9 gv10 gv11 gv12 gv13 gv14 gv15) av0 av1 bv2 bv3 gv4 gv5 gv6 gv7 gv8 gv9 gv10 gv11 gv12 gv13 gv14 gv15 i16
  rw [laws_eqInt64SS_shsh.k0_mix] at h
  exact h

theorem laws_eqInt64SS_shsh.a0_0_eq {ρ : Type} (N : Nat) (K : AV → Heap → Option ρ) (gv4 : Nat) (gv5 : Nat) (gv6 : Nat → Nat) (gv7 : Nat → Nat) (gv8 : Nat → Nat) (gv9 : Nat) (gv10 : Nat) (gv11 : Nat → Nat) (gv12 : Nat → Nat) (gv13 : Nat → Nat) (gv14 : Nat → Int) (gv15 : Nat → Int) :
    (laws_eqInt64SS_shsh.k0 N K gv4 gv5 gv6 gv7 gv8 gv9 gv10 gv11 gv12 gv13 gv14 gv15) (.exit 0) (laws_eqInt64SS_shsh.sx0_0 gv4 gv5 gv6 gv7 gv8 gv9 gv10 gv11 gv12 gv13 gv14 gv15) = (laws_eqInt64SS_shsh.a0_0 N (fun d0 => K (.bool (d0)) [⟨false, .hdr 2 gv4 gv5 gv6 gv7 (some gv8)⟩, ⟨false, .hdr 3 gv9 gv10 gv11 gv12 (some gv13)⟩, ⟨false, .flat 0 (.ints .i64 gv14)⟩, ⟨false, .flat 0 (.ints .i64 gv15)⟩])) := by kernel_rfl

theorem laws_eqInt64SS_shsh.l0_eq {ρ : Type} (N : Nat) (K : AV → Heap → Option ρ) (av0 : Nat) (av1 : Nat) (bv2 : Nat) (bv3 : Nat) (gv4 : Nat) (gv5 : Nat) (gv6 : Nat → Nat) (gv7 : Nat → Nat) (gv8 : Nat → Nat) (gv9 : Nat) (gv10 : Nat) (gv11 : Nat → Nat) (gv12 : Nat → Nat) (gv13 : Nat → Nat) (gv14 : Nat → Int) (gv15 : Nat → Int) :
    ∀ (m : Nat) (i16 : Int), xloop (xcode (E31 N) ents laws_eqInt64SS_shsh.kp 4 N (cL (cK (cB (cA (cB (cB laws_eqInt64SS_shsh.bd)))))) 0) laws_eqInt64SS_shsh.kp 4 0 m (laws_eqInt64SS_shsh.st0 av0 av1 bv2 bv3 gv4 gv5 gv6 gv7 gv8 gv9 gv10 gv11 gv12 gv13 gv14 gv15 i16) (laws_eqInt64SS_shsh.k0 N K gv4 gv5 gv6 gv7 gv8 gv9 gv10 gv11 gv12 gv13 gv14 gv15) = (laws_eqInt64SS_shsh.l0 N (fun d0 => K (.bool (d0)) [⟨false, .hdr 2 gv4 gv5 gv6 gv7 (some gv8)⟩, ⟨false, .hdr 3 gv9 gv10 gv11 gv12 (some gv13)⟩, ⟨false, .flat 0 (.ints .i64 gv14)⟩, ⟨false, .flat 0 (.ints .i64 gv15)⟩]) av0 bv2 gv6 gv7 gv8 gv11 gv12 gv13 gv14 gv15 ((laws_eqInt64SS_shsh.k0 N K gv4 gv5 gv6 gv7 gv8 gv9 gv10 gv11 gv12 gv13 gv14 gv15) (.exit 0) (laws_eqInt64SS_shsh.sx0_0 gv4 gv5 gv6 gv7 gv8 gv9 gv10 gv11 gv12 gv13 gv14 gv15)) m i16) := by
  intro m
  induction m with
  | zero => intros; rfl
  | succ m ih =>
    intro i16
    refine (laws_eqInt64SS_shsh.b0_eq N K (fun s => xloop (xcode (E31 N) ents laws_eqInt64SS_shsh.kp 4 N (cL (cK (cB (cA (cB (cB laws_eqInt64SS_shsh.bd)))))) 0) laws_eqInt64SS_shsh.kp 4 0 m s (laws_eqInt64SS_shsh.k0 N K gv4 gv5 gv6 gv7 gv8 gv9 gv10 gv11 gv12 gv13 gv14 gv15)) av0 av1 bv2 bv3 gv4 gv5 gv6 gv7 gv8 gv9 gv10 gv11 gv12 gv13 gv14 gv15 i16).trans ?_
    simp only [ih]
    kernel_rfl

theorem laws_eqInt64SS_shsh.s_eq {ρ : Type} (N : Nat) (K : AV → Heap → Option ρ) (av0 : Nat) (av1 : Nat) (bv2 : Nat) (bv3 : Nat) (gv4 : Nat) (gv5 : Nat) (gv6 : Nat → Nat) (gv7 : Nat → Nat) (gv8 : Nat → Nat) (gv9 : Nat) (gv10 : Nat) (gv11 : Nat → Nat) (gv12 : Nat → Nat) (gv13 : Nat → Nat) (gv14 : Nat → Int) (gv15 : Nat → Int) :
    xbody (E31 N) ents laws_eqInt64SS_shsh.kp N Go.Proofs.Try.f24 laws_eqInt64SS_shsh.bd [.slice true 0 0 av0 (.exact av1) 1, .slice true 1 0 bv2 (.exact bv3) 1] [⟨false, .hdr 2 gv4 gv5 gv6 gv7 (some gv8)⟩, ⟨false, .hdr 3 gv9 gv10 gv11 gv12 (some gv13)⟩, ⟨false, .flat 0 (.ints .i64 gv14)⟩, ⟨false, .flat 0 (.ints .i64 gv15)⟩] K = (laws_eqInt64SS_shsh.s N (fun d0 => K (.bool (d0)) [⟨false, .hdr 2 gv4 gv5 gv6 gv7 (some gv8)⟩, ⟨false, .hdr 3 gv9 gv10 gv11 gv12 (some gv13)⟩, ⟨false, .flat 0 (.ints .i64 gv14)⟩, ⟨false, .flat 0 (.ints .i64 gv15)⟩]) (fun i16 => xloop (xcode (E31 N) ents laws_eqInt64SS_shsh.kp 4 N (cL (cK (cB (cA (cB (cB laws_eqInt64SS_shsh.bd)))))) 0) laws_eqInt64SS_shsh.kp 4 0 N (laws_eqInt64SS_shsh.st0 av0 av1 bv2 bv3 gv4 gv5 gv6 gv7 gv8 gv9 gv10 gv11 gv12 gv13 gv14 gv15 i16) (laws_eqInt64SS_shsh.k0 N K gv4 gv5 gv6 gv7 gv8 gv9 gv10 gv11 gv12 gv13 gv14 gv15)) av0 bv2) := by kernel_rfl

theorem laws_eqInt64SS_shsh.eq {ρ : Type} (N : Nat) (K : AV → Heap → Option ρ) (av0 : Nat) (av1 : Nat) (bv2 : Nat) (bv3 : Nat) (gv4 : Nat) (gv5 : Nat) (gv6 : Nat → Nat) (gv7 : Nat → Nat) (gv8 : Nat → Nat) (gv9 : Nat) (gv10 : Nat) (gv11 : Nat → Nat) (gv12 : Nat → Nat) (gv13 : Nat → Nat) (gv14 : Nat → Int) (gv15 : Nat → Int) :
    xbody (E31 N) ents laws_eqInt64SS_shsh.kp N Go.Proofs.Try.f24 laws_eqInt64SS_shsh.bd [.slice true 0 0 av0 (.exact av1) 1, .slice true 1 0 bv2 (.exact bv3) 1] [⟨false, .hdr 2 gv4 gv5 gv6 gv7 (some gv8)⟩, ⟨false, .hdr 3 gv9 gv10 gv11 gv12 (some gv13)⟩, ⟨false, .flat 0 (.ints .i64 gv14)⟩, ⟨false, .flat 0 (.ints .i64 gv15)⟩] K = (laws_eqInt64SS_shsh N (fun d0 => K (.bool (d0)) [⟨false, .hdr 2 gv4 gv5 gv6 gv7 (some gv8)⟩, ⟨false, .hdr 3 gv9 gv10 gv11 gv12 (some gv13)⟩, ⟨false, .flat 0 (.ints .i64 gv14)⟩, ⟨false, .flat 0 (.ints .i64 gv15)⟩]) av0 av1 bv2 bv3 gv4 gv5 gv6 gv7 gv8 gv9 gv10 gv11 gv12 gv13 gv14 gv15) := by
  refine (laws_eqInt64SS_shsh.s_eq N K av0 av1 bv2 bv3 gv4 gv5 gv6 gv7 gv8 gv9 gv10 gv11 gv12 gv13 gv14 gv15).trans ?_
  simp only [laws_eqInt64SS_shsh.l0_eq, laws_eqInt64SS_shsh.a0_0_eq]
  kernel_rfl

noncomputable def laws_eqInt64SS_shsh.en (N : Nat) (ρ : Type) : List AV → Heap → (AV → Heap → Option ρ) → Option ρ
  | [.slice true 0 0 av0 (.exact av1) 1, .slice true 1 0 bv2 (.exact bv3) 1], [⟨false, .hdr 2 gv4 gv5 gv6 gv7 (some gv8)⟩, ⟨false, .hdr 3 gv9 gv10 gv11 gv12 (some gv13)⟩, ⟨false, .flat 0 (.ints .i64 gv14)⟩, ⟨false, .flat 0 (.ints .i64 gv15)⟩], K => (laws_eqInt64SS_shsh N (fun d0 => K (.bool (d0)) [⟨false, .hdr 2 gv4 gv5 gv6 gv7 (some gv8)⟩, ⟨false, .hdr 3 gv9 gv10 gv11 gv12 (some gv13)⟩, ⟨false, .flat 0 (.ints .i64 gv14)⟩, ⟨false, .flat 0 (.ints .i64 gv15)⟩]) av0 av1 bv2 bv3 gv4 gv5 gv6 gv7 gv8 gv9 gv10 gv11 gv12 gv13 gv14 gv15)
  | _, _, _ => none

theorem laws_eqInt64SS_shsh.en_ok (N : Nat) (hE : EnvOk (E31 N) ents) (ρ : Type) (args : List AV) (sh : Heap) (K : AV → Heap → Option ρ) (r : ρ) (h : laws_eqInt64SS_shsh.en N ρ args sh K = some r) : ∃ v sh', K v sh' = some r ∧ FnOk (E31 N).P 24 args sh v sh' := by
  unfold laws_eqInt64SS_shsh.en at h
  split at h
  · exact fn_ok hE (kp := laws_eqInt64SS_shsh.kp) (N := N) Go.Proofs.Try.func24 (c := laws_eqInt64SS_shsh.bd) (by kernel_rfl) ((laws_eqInt64SS_shsh.eq N _ _ _ _ _ _ _ _ _ _ _ _ _ _ _ _ _).trans h)
  · cases h

noncomputable def E32 (N : Nat) : Env := (E31 N).add 24 (laws_eqInt64SS_shsh.en N)

theorem E32_ok (N : Nat) : EnvOk (E32 N) ents := Env.add_ok (E31_ok N) (laws_eqInt64SS_shsh.en_ok N (E31_ok N))

noncomputable def laws_intactInt64SS_shsh.kp : Keeps := ⟨[(0, [0, 1, 5, 6], [], [])], [(0, [0, 1, 5], [], [])], []⟩

noncomputable def laws_intactInt64SS_shsh.bd : Code := bodyOf Go.Proofs.Try.f9

noncomputable def laws_intactInt64SS_shsh.fin {ρ : Type} (N : Nat) (K : AV → Heap → Option ρ) (gv4 : Nat) (gv5 : Nat) (gv6 : Nat → Nat) (gv7 : Nat → Nat) (gv8 : Nat → Nat) (gv9 : Nat) (gv10 : Nat) (gv11 : Nat → Nat) (gv12 : Nat → Nat) (gv13 : Nat → Nat) (gv14 : Nat → Int) (gv15 : Nat → Int) : XE → St → Option ρ := finK (E32 N) laws_intactInt64SS_shsh.kp.fins Go.Proofs.Try.f9 [⟨false, .hdr 2 gv4 gv5 gv6 gv7 (some gv8)⟩, ⟨false, .hdr 3 gv9 gv10 gv11 gv12 (some gv13)⟩, ⟨false, .flat 0 (.ints .i64 gv14)⟩, ⟨false, .flat 0 (.ints .i64 gv15)⟩] K

noncomputable def laws_intactInt64SS_shsh.k0 {ρ : Type} (N : Nat) (K : AV → Heap → Option ρ) (gv4 : Nat) (gv5 : Nat) (gv6 : Nat → Nat) (gv7 : Nat → Nat) (gv8 : Nat → Nat) (gv9 : Nat) (gv10 : Nat) (gv11 : Nat → Nat) (gv12 : Nat → Nat) (gv13 : Nat → Nat) (gv14 : Nat → Int) (gv15 : Nat → Int) : XE → St → Option ρ := (blockK laws_intactInt64SS_shsh.kp 4 0 (seqK (xcode (E32 N) ents laws_intactInt64SS_shsh.kp 4 N (cB (cB (cB (cB laws_intactInt64SS_shsh.bd)))) 0) (laws_intactInt64SS_shsh.fin N K gv4 gv5 gv6 gv7 gv8 gv9 gv10 gv11 gv12 gv13 gv14 gv15)))

theorem laws_intactInt64SS_shsh.k0_mix {ρ : Type} (N : Nat) (K : AV → Heap → Option ρ) (gv4 : Nat) (gv5 : Nat) (gv6 : Nat → Nat) (gv7 : Nat → Nat) (gv8 : Nat → Nat) (gv9 : Nat) (gv10 : Nat) (gv11 : Nat → Nat) (gv12 : Nat → Nat) (gv13 : Nat → Nat) (gv14 : Nat → Int) (gv15 : Nat → Int) : mixK (laws_intactInt64SS_shsh.fin N K gv4 gv5 gv6 gv7 gv8 gv9 gv10 gv11 gv12 gv13 gv14 gv15 .ret) (laws_intactInt64SS_shsh.k0 N K gv4 gv5 gv6 gv7 gv8 gv9 gv10 gv11 gv12 gv13 gv14 gv15) = (laws_intactInt64SS_shsh.k0 N K gv4 gv5 gv6 gv7 gv8 gv9 gv10 gv11 gv12 gv13 gv14 gv15) := by
  funext e s; cases e <;> kernel_rfl

noncomputable def laws_intactInt64SS_shsh.st0 (x0 : Nat) (x1 : Nat) (y2 : Nat) (y3 : Nat) (gv4 : Nat) (gv5 : Nat) (gv6 : Nat → Nat) (gv7 : Nat → Nat) (gv8 : Nat → Nat) (gv9 : Nat) (gv10 : Nat) (gv11 : Nat → Nat) (gv12 : Nat → Nat) (gv13 : Nat → Nat) (gv14 : Nat → Int) (gv15 : Nat → Int) (rv16 : Int) (i17 : Int) : St := ⟨sl 45 [(0, .slice true 0 0 x0 (.exact x1) 1), (1, .slice true 1 0 y2 (.exact y3) 1), (5, .int .i64 ((IntKind.i64.wrap ((y2 : Int) + rv16)))), (6, .int .i64 (i17))], [⟨false, .hdr 2 gv4 gv5 gv6 gv7 (some gv8)⟩, ⟨false, .hdr 3 gv9 gv10 gv11 gv12 (some gv13)⟩, ⟨false, .flat 0 (.ints .i64 gv14)⟩, ⟨false, .flat 0 (.ints .i64 gv15)⟩]⟩

noncomputable def laws_intactInt64SS_shsh.sx0_0 (x0 : Nat) (x1 : Nat) (y2 : Nat) (y3 : Nat) (gv4 : Nat) (gv5 : Nat) (gv6 : Nat → Nat) (gv7 : Nat → Nat) (gv8 : Nat → Nat) (gv9 : Nat) (gv10 : Nat) (gv11 : Nat → Nat) (gv12 : Nat → Nat) (gv13 : Nat → Nat) (gv14 : Nat → Int) (gv15 : Nat → Int) (rv16 : Int) : St := ⟨sl 45 [(0, .slice true 0 0 x0 (.exact x1) 1), (1, .slice true 1 0 y2 (.exact y3) 1), (5, .int .i64 ((IntKind.i64.wrap ((y2 : Int) + rv16))))], [⟨false, .hdr 2 gv4 gv5 gv6 gv7 (some gv8)⟩, ⟨false, .hdr 3 gv9 gv10 gv11 gv12 (some gv13)⟩, ⟨false, .flat 0 (.ints .i64 gv14)⟩, ⟨false, .flat 0 (.ints .i64 gv15)⟩]⟩

theorem laws_intactInt64SS_shsh.b0_gen {ρ : Type} (N : Nat) (K : AV → Heap → Option ρ) (L0 : St → Option ρ) (kv : XE → St → Option ρ) (x0 : Nat) (x1 : Nat) (y2 : Nat) (y3 : Nat) (gv4 : Nat) (gv5 : Nat) (gv6 : Nat → Nat) (gv7 : Nat → Nat) (gv8 : Nat → Nat) (gv9 : Nat) (gv10 : Nat) (gv11 : Nat → Nat) (gv12 : Nat → Nat) (gv13 : Nat → Nat) (gv14 : Nat → Int) (gv15 : Nat → Int) (rv16 : Int) (i17 : Int) :
    xcode (E32 N) ents laws_intactInt64SS_shsh.kp 4 N (cL (cK (cB (cA (cB (cB (cB laws_intactInt64SS_shsh.bd))))))) 0 (laws_intactInt64SS_shsh.st0 x0 x1 y2 y3 gv4 gv5 gv6 gv7 gv8 gv9 gv10 gv11 gv12 gv13 gv14 gv15 rv16 i17) (roundK laws_intactInt64SS_shsh.kp 4 0 L0 (mixK (laws_intactInt64SS_shsh.fin N K gv4 gv5 gv6 gv7 gv8 gv9 gv10 gv11 gv12 gv13 gv14 gv15 .ret) kv)) = (laws_intactInt64SS_shsh.b0 N (fun d0 => K (.bool (d0)) [⟨false, .hdr 2 gv4 gv5 gv6 gv7 (some gv8)⟩, ⟨false, .hdr 3 gv9 gv10 gv11 gv12 (some gv13)⟩, ⟨false, .flat 0 (.ints .i64 gv14)⟩, ⟨false, .flat 0 (.ints .i64 gv15)⟩]) (fun i17 => L0 (laws_intactInt64SS_shsh.st0 x0 x1 y2 y3 gv4 gv5 gv6 gv7 gv8 gv9 gv10 gv11 gv12 gv13 gv14 gv15 rv16 i17)) (kv (.exit 0) (laws_intactInt64SS_shsh.sx0_0 x0 x1 y2 y3 gv4 gv5 gv6 gv7 gv8 gv9 gv10 gv11 gv12 gv13 gv14 gv15 rv16)) x0 y2 gv6 gv7 gv8 gv11 gv12 gv13 gv14 gv15 i17) := by kernel_rfl

theorem laws_intactInt64SS_shsh.b0_eq {ρ : Type} (N : Nat) (K : AV → Heap → Option ρ) (L0 : St → Option ρ) (x0 : Nat) (x1 : Nat) (y2 : Nat) (y3 : Nat) (gv4 : Nat) (gv5 : Nat) (gv6 : Nat → Nat) (gv7 : Nat → Nat) (gv8 : Nat → Nat) (gv9 : Nat) (gv10 : Nat) (gv11 : Nat → Nat) (gv12 : Nat → Nat) (gv13 : Nat → Nat) (gv14 : Nat → Int) (gv15 : Nat → Int) (rv16 : Int) (i17 : Int) :
    xcode (E32 N) ents laws_intactInt64SS_shsh.kp 4 N (cL (cK (cB (cA (cB (cB (cB laws_intactInt64SS_shsh.bd))))))) 0 (laws_intactInt64SS_shsh.st0 x0 x1 y2 y3 gv4 gv5 gv6 gv7 gv8 gv9 gv10 gv11 gv12 gv13 gv14 gv15 rv16 i17) (roundK laws_intactInt64SS_shsh.kp 4 0 L0 (laws_intactInt64SS_shsh.k0 N K gv4 gv5 gv6 gv7 gv8 gv9 gv10 gv11 gv12 gv13 gv14 gv15)) = (laws_intactInt64SS_shsh.b0 N (fun d0 => K (.bool (d0)) [⟨false, .hdr 2 gv4 gv5 gv6 gv7 (some gv8)⟩, ⟨false, .hdr 3 gv9 gv10 gv11 gv12 (some gv13)⟩, ⟨false, .flat 0 (.ints .i64 gv14)⟩, ⟨false, .flat 0 (.ints .i64 gv15)⟩]) (fun i17 => L0 (laws_intactInt64SS_shsh.st0 x0 x1 y2 y3 gv4 gv5 gv6 gv7 gv8 gv9 gv10 gv11 gv12 gv13 gv14 gv15 rv16 i17)) ((laws_intactInt64SS_shsh.k0 N K gv4 gv5 gv6 gv7 gv8 gv9 gv10 gv11 gv12 gv13 gv14 gv15) (.exit 0) (laws_intactInt64SS_shsh.sx0_0 x0 x1 y2 y3 gv4 gv5 gv6 gv7 gv8 gv9 gv10 gv11 gv12 gv13 gv14 gv15 rv16)) x0 y2 gv6 gv7 gv8 gv11 gv12 gv13 gv14 gv15 i17) := by
  have h := laws_intactInt64SS_shsh.b0_gen N K L0 (laws_intactInt64SS_shsh.k0 N K gv4 gv5 gv6 gv7 gv8 gv9 gv10 gv11 gv12 gv13 gv14 gv15) x0 x1 y2 y3 gv4 gv5 gv6 gv7 gv8 gv9 gv10 gv11 gv12 gv13 gv14 gv15 rv16 i17
  rw [laws_intactInt64SS_shsh.k0_mix] at h
  exact h

theorem laws_intactInt64SS_shsh.a0_0_eq {ρ : Type} (N : Nat) (K : AV → Heap → Option ρ) (x0 : Nat) (x1 : Nat) (y2 : Nat) (y3 : Nat) (gv4 : Nat) (gv5 : Nat) (gv6 : Nat → Nat) (gv7 : Nat → Nat) (gv8 : Nat → Nat) (gv9 : Nat) (gv10 : Nat) (gv11 : Nat → Nat) (gv12 : Nat → Nat) (gv13 : Nat → Nat) (gv14 : Nat → Int) (gv15 : Nat → Int) (rv16 : Int) :
    (laws_intactInt64SS_shsh.k0 N K gv4 gv5 gv6 gv7 gv8 gv9 gv10 gv11 gv12 gv13 gv14 gv15) (.exit 0) (laws_intactInt64SS_shsh.sx0_0 x0 x1 y2 y3 gv4 gv5 gv6 gv7 gv8 gv9 gv10 gv11 gv12 gv13 gv14 gv15 rv16) = (laws_intactInt64SS_shsh.a0_0 N (fun d0 => K (.bool (d0)) [⟨false, .hdr 2 gv4 gv5 gv6 gv7 (some gv8)⟩, ⟨false, .hdr 3 gv9 gv10 gv11 gv12 (some gv13)⟩, ⟨false, .flat 0 (.ints .i64 gv14)⟩, ⟨false, .flat 0 (.ints .i64 gv15)⟩]) x1 y2 y3 gv5 gv6 gv7 gv8 gv10 gv11 gv12 gv13 gv14 gv15 rv16) := by kernel_rfl

theorem laws_intactInt64SS_shsh.l0_eq {ρ : Type} (N : Nat) (K : AV → Heap → Option ρ) (x0 : Nat) (x1 : Nat) (y2 : Nat) (y3 : Nat) (gv4 : Nat) (gv5 : Nat) (gv6 : Nat → Nat) (gv7 : Nat → Nat) (gv8 : Nat → Nat) (gv9 : Nat) (gv10 : Nat) (gv11 : Nat → Nat) (gv12 : Nat → Nat) (gv13 : Nat → Nat) (gv14 : Nat → Int) (gv15 : Nat → Int) (rv16 : Int) :
    ∀ (m : Nat) (i17 : Int), xloop (xcode (E32 N) ents laws_intactInt64SS_shsh.kp 4 N (cL (cK (cB (cA (cB (cB (cB laws_intactInt64SS_shsh.bd))))))) 0) laws_intactInt64SS_shsh.kp 4 0 m (laws_intactInt64SS_shsh.st0 x0 x1 y2 y3 gv4 gv5 gv6 gv7 gv8 gv9 gv10 gv11 gv12 gv13 gv14 gv15 rv16 i17) (laws_intactInt64SS_shsh.k0 N K gv4 gv5 gv6 gv7 gv8 gv9 gv10 gv11 gv12 gv13 gv14 gv15) = (laws_intactInt64SS_shsh.l0 N (fun d0 => K (.bool (d0)) [⟨false, .hdr 2 gv4 gv5 gv6 gv7 (some gv8)⟩, ⟨false, .hdr 3 gv9 gv10 gv11 gv12 (some gv13)⟩, ⟨false, .flat 0 (.ints .i64 gv14)⟩, ⟨false, .flat 0 (.ints .i64 gv15)⟩]) x0 y2 gv6 gv7 gv8 gv11 gv12 gv13 gv14 gv15 ((laws_intactInt64SS_shsh.k0 N K gv4 gv5 gv6 gv7 gv8 gv9 gv10 gv11 gv12 gv13 gv14 gv15) (.exit 0) (laws_intactInt64SS_shsh.sx0_0 x0 x1 y2 y3 gv4 gv5 gv6 gv7 gv8 gv9 gv10 gv11 gv12 gv13 gv14 gv15 rv16)) m i17) := by
  intro m
  induction m with
  | zero => intros; rfl
  | succ m ih =>
    intro i17
    refine (laws_intactInt64SS_shsh.b0_eq N K (fun s => xloop (xcode (E32 N) ents laws_intactInt64SS_shsh.kp 4 N (cL (cK (cB (cA (cB (cB (cB laws_intactInt64SS_shsh.bd))))))) 0) laws_intactInt64SS_shsh.kp 4 0 m s (laws_intactInt64SS_shsh.k0 N K gv4 gv5 gv6 gv7 gv8 gv9 gv10 gv11 gv12 gv13 gv14 gv15)) x0 x1 y2 y3 gv4 gv5 gv6 gv7 gv8 gv9 gv10 gv11 gv12 gv13 gv14 gv15 rv16 i17).trans ?_
    simp only [ih]
    kernel_rfl

theorem laws_intactInt64SS_shsh.s_eq {ρ : Type} (N : Nat) (K : AV → Heap → Option ρ) (x0 : Nat) (x1 : Nat) (y2 : Nat) (y3 : Nat) (gv4 : Nat) (gv5 : Nat) (gv6 : Nat → Nat) (gv7 : Nat → Nat) (gv8 : Nat → Nat) (gv9 : Nat) (gv10 : Nat) (gv11 : Nat → Nat) (gv12 : Nat → Nat) (gv13 : Nat → Nat) (gv14 : Nat → Int) (gv15 : Nat → Int) :
    xbody (E32 N) ents laws_intactInt64SS_shsh.kp N Go.Proofs.Try.f9 laws_intactInt64SS_shsh.bd [.slice true 0 0 x0 (.exact x1) 1, .slice true 1 0 y2 (.exact y3) 1] [⟨false, .hdr 2 gv4 gv5 gv6 gv7 (some gv8)⟩, ⟨false, .hdr 3 gv9 gv10 gv11 gv12 (some gv13)⟩, ⟨false, .flat 0 (.ints .i64 gv14)⟩, ⟨false, .flat 0 (.ints .i64 gv15)⟩] K = (laws_intactInt64SS_shsh.s N (fun d0 => K (.bool (d0)) [⟨false, .hdr 2 gv4 gv5 gv6 gv7 (some gv8)⟩, ⟨false, .hdr 3 gv9 gv10 gv11 gv12 (some gv13)⟩, ⟨false, .flat 0 (.ints .i64 gv14)⟩, ⟨false, .flat 0 (.ints .i64 gv15)⟩]) (fun rv16 i17 => xloop (xcode (E32 N) ents laws_intactInt64SS_shsh.kp 4 N (cL (cK (cB (cA (cB (cB (cB laws_intactInt64SS_shsh.bd))))))) 0) laws_intactInt64SS_shsh.kp 4 0 N (laws_intactInt64SS_shsh.st0 x0 x1 y2 y3 gv4 gv5 gv6 gv7 gv8 gv9 gv10 gv11 gv12 gv13 gv14 gv15 rv16 i17) (laws_intactInt64SS_shsh.k0 N K gv4 gv5 gv6 gv7 gv8 gv9 gv10 gv11 gv12 gv13 gv14 gv15)) x0 y2) := by kernel_rfl

theorem laws_intactInt64SS_shsh.eq {ρ : Type} (N : Nat) (K : AV → Heap → Option ρ) (x0 : Nat) (x1 : Nat) (y2 : Nat) (y3 : Nat) (gv4 : Nat) (gv5 : Nat) (gv6 : Nat → Nat) (gv7 : Nat → Nat) (gv8 : Nat → Nat) (gv9 : Nat) (gv10 : Nat) (gv11 : Nat → Nat) (gv12 : Nat → Nat) (gv13 : Nat → Nat) (gv14 : Nat → Int) (gv15 : Nat → Int) :
    xbody (E32 N) ents laws_intactInt64SS_shsh.kp N Go.Proofs.Try.f9 laws_intactInt64SS_shsh.bd [.slice true 0 0 x0 (.exact x1) 1, .slice true 1 0 y2 (.exact y3) 1] [⟨false, .hdr 2 gv4 gv5 gv6 gv7 (some gv8)⟩, ⟨false, .hdr 3 gv9 gv10 gv11 gv12 (some gv13)⟩, ⟨false, .flat 0 (.ints .i64 gv14)⟩, ⟨false, .flat 0 (.ints .i64 gv15)⟩] K = (laws_intactInt64SS_shsh N (fun d0 => K (.bool (d0)) [⟨false, .hdr 2 gv4 gv5 gv6 gv7 (some gv8)⟩, ⟨false, .hdr 3 gv9 gv10 gv11 gv12 (some gv13)⟩, ⟨false, .flat 0 (.ints .i64 gv14)⟩, ⟨false, .flat 0 (.ints .i64 gv15)⟩]) x0 x1 y2 y3 gv4 gv5 gv6 gv7 gv8 gv9 gv10 gv11 gv12 gv13 gv14 gv15) := by
  refine (laws_intactInt64SS_shsh.s_eq N K x0 x1 y2 y3 gv4 gv5 gv6 gv7 gv8 gv9 gv10 gv11 gv12 gv13 gv14 gv15).trans ?_
  simp only [laws_intactInt64SS_shsh.l0_eq, laws_intactInt64SS_shsh.a0_0_eq]
  kernel_rfl

noncomputable def laws_intactInt64SS_shsh.en (N : Nat) (ρ : Type) : List AV → Heap → (AV → Heap → Option ρ) → Option ρ
  | [.slice true 0 0 x0 (.exact x1) 1, .slice true 1 0 y2 (.exact y3) 1], [⟨false, .hdr 2 gv4 gv5 gv6 gv7 (some gv8)⟩, ⟨false, .hdr 3 gv9 gv10 gv11 gv12 (some gv13)⟩, ⟨false, .flat 0 (.ints .i64 gv14)⟩, ⟨false, .flat 0 (.ints .i64 gv15)⟩], K => (laws_intactInt64SS_shsh N (fun d0 => K (.bool (d0)) [⟨false, .hdr 2 gv4 gv5 gv6 gv7 (some gv8)⟩, ⟨false, .hdr 3 gv9 gv10 gv11 gv12 (some gv13)⟩, ⟨false, .flat 0 (.ints .i64 gv14)⟩, ⟨false, .flat 0 (.ints .i64 gv15)⟩]) x0 x1 y2 y3 gv4 gv5 gv6 gv7 gv8 gv9 gv10 gv11 gv12 gv13 gv14 gv15)
  | _, _, _ => none

theorem laws_intactInt64SS_shsh.en_ok (N : Nat) (hE : EnvOk (E32 N) ents) (ρ : Type) (args : List AV) (sh : Heap) (K : AV → Heap → Option ρ) (r : ρ) (h : laws_intactInt64SS_shsh.en N ρ args sh K = some r) : ∃ v sh', K v sh' = some r ∧ FnOk (E32 N).P 9 args sh v sh' := by
  unfold laws_intactInt64SS_shsh.en at h
  split at h
  · exact fn_ok hE (kp := laws_intactInt64SS_shsh.kp) (N := N) Go.Proofs.Try.func9 (c := laws_intactInt64SS_shsh.bd) (by kernel_rfl) ((laws_intactInt64SS_shsh.eq N _ _ _ _ _ _ _ _ _ _ _ _ _ _ _ _ _).trans h)
  · cases h

noncomputable def E33 (N : Nat) : Env := (E32 N).add 9 (laws_intactInt64SS_shsh.en N)

theorem E33_ok (N : Nat) : EnvOk (E33 N) ents := Env.add_ok (E32_ok N) (laws_intactInt64SS_shsh.en_ok N (E32_ok N))

noncomputable def laws_FnExactGroupHopf_suh.kp : Keeps := ⟨[], [], []⟩

noncomputable def laws_FnExactGroupHopf_suh.bd : Code := bodyOf Go.Proofs.Try.f3

noncomputable def laws_FnExactGroupHopf_suh.fin {ρ : Type} (N : Nat) (K : AV → Heap → Option ρ) (gv2 : Nat) (gv3 : Nat) (gv4 : Nat → Nat) (gv5 : Nat → Nat) (gv6 : Nat) (gv7 : Nat → Int) : XE → St → Option ρ := finK (E33 N) laws_FnExactGroupHopf_suh.kp.fins Go.Proofs.Try.f3 [⟨false, .hdr 1 gv2 gv3 gv4 gv5 none⟩, ⟨false, .flat gv6 (.ints .i64 gv7)⟩] K

theorem laws_FnExactGroupHopf_suh.eq {ρ : Type} (N : Nat) (K : AV → Heap → Option ρ) (aP0 : Int) (aTable1 : Nat) (gv2 : Nat) (gv3 : Nat) (gv4 : Nat → Nat) (gv5 : Nat → Nat) (gv6 : Nat) (gv7 : Nat → Int) :
    xbody (E33 N) ents laws_FnExactGroupHopf_suh.kp N Go.Proofs.Try.f3 laws_FnExactGroupHopf_suh.bd [.int .i64 (aP0), .slice false 0 0 aTable1 .unk 1] [⟨false, .hdr 1 gv2 gv3 gv4 gv5 none⟩, ⟨false, .flat gv6 (.ints .i64 gv7)⟩] K = (laws_FnExactGroupHopf_suh N (fun d0 => K (.bool (d0)) [⟨false, .hdr 1 gv2 gv3 gv4 gv5 none⟩, ⟨false, .flat gv6 (.ints .i64 gv7)⟩]) aP0 aTable1 gv2 gv3 gv4 gv5 gv6 gv7) := by kernel_rfl
end Go.Proofs.Ytdnijipkigbciaa.H
