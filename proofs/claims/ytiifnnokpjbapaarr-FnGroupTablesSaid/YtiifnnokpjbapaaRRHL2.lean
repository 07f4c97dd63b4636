import Derived.Test.YtiifnnokpjbapaaRRHL1
namespace Go.Proofs.YtiifnnokpjbapaaRR.H
noncomputable section
set_option linter.unusedVariables false
set_option linter.unusedSimpArgs false
open Go Go.RowKit Go.Proofs.YtiifnnokpjbapaaRR.Hy
set_option maxRecDepth 100000
def impl_isGroupAt_suh_v2.kp : Keeps := ⟨[(0, [0, 1, 26, 27], [], []), (2, [0, 1, 5, 26, 27, 31, 32], [], [])], [(0, [0, 1], [], []), (2, [0, 1, 26, 27], [], [])], []⟩
def impl_isGroupAt_suh_v2.bd : Code := bodyOf Try.f44
def impl_isGroupAt_suh_v2.fin {ρ : Type} (N : Nat) (K : AV → Heap → Option ρ) (gv2 : Nat) (gv3 : Nat) (gv4 : Nat → Nat) (gv5 : Nat → Nat) (gv6 : Nat → Int) : XE → St → Option ρ := finK (E18 N) impl_isGroupAt_suh_v2.kp.fins Try.f44 [⟨false, .hdr 1 gv2 gv3 gv4 gv5 none⟩, ⟨false, .flat 0 (.ints .i64 gv6)⟩] K
def impl_isGroupAt_suh_v2.k0 {ρ : Type} (N : Nat) (K : AV → Heap → Option ρ) (gv2 : Nat) (gv3 : Nat) (gv4 : Nat → Nat) (gv5 : Nat → Nat) (gv6 : Nat → Int) : XE → St → Option ρ := (blockK impl_isGroupAt_suh_v2.kp 2 0 (seqK (xcode (E18 N) ents impl_isGroupAt_suh_v2.kp 2 N (cB (cB (cB impl_isGroupAt_suh_v2.bd))) 0) (impl_isGroupAt_suh_v2.fin N K gv2 gv3 gv4 gv5 gv6)))
theorem impl_isGroupAt_suh_v2.k0_mix {ρ : Type} (N : Nat) (K : AV → Heap → Option ρ) (gv2 : Nat) (gv3 : Nat) (gv4 : Nat → Nat) (gv5 : Nat → Nat) (gv6 : Nat → Int) : mixK (impl_isGroupAt_suh_v2.fin N K gv2 gv3 gv4 gv5 gv6 .ret) (impl_isGroupAt_suh_v2.k0 N K gv2 gv3 gv4 gv5 gv6) = (impl_isGroupAt_suh_v2.k0 N K gv2 gv3 gv4 gv5 gv6) := by
  funext e s; cases e <;> kernel_rfl
def impl_isGroupAt_suh_v2.st0 (table0 : Nat) (i1 : Int) (gv2 : Nat) (gv3 : Nat) (gv4 : Nat → Nat) (gv5 : Nat → Nat) (gv6 : Nat → Int) (x7 : Int) : St := ⟨sl 68 [(0, .slice false 0 0 table0 .unk 1), (1, .int .i64 (i1)), (26, .int .i64 ((table0 : Int))), (27, .int .i64 (x7))], [⟨false, .hdr 1 gv2 gv3 gv4 gv5 none⟩, ⟨false, .flat 0 (.ints .i64 gv6)⟩]⟩
def impl_isGroupAt_suh_v2.sx0_0 (table0 : Nat) (i1 : Int) (gv2 : Nat) (gv3 : Nat) (gv4 : Nat → Nat) (gv5 : Nat → Nat) (gv6 : Nat → Int) : St := ⟨sl 68 [(0, .slice false 0 0 table0 .unk 1), (1, .int .i64 (i1))], [⟨false, .hdr 1 gv2 gv3 gv4 gv5 none⟩, ⟨false, .flat 0 (.ints .i64 gv6)⟩]⟩
def impl_isGroupAt_suh_v2.k1g {ρ : Type} (N : Nat) (L0 : St → Option ρ) (kv : XE → St → Option ρ) : XE → St → Option ρ := (blockK impl_isGroupAt_suh_v2.kp 2 2 (blockK impl_isGroupAt_suh_v2.kp 2 1 (seqK (xcode (E18 N) ents impl_isGroupAt_suh_v2.kp 2 N (cB (cB (cB (cL (cK (cB (cA (cB (cB impl_isGroupAt_suh_v2.bd))))))))) 0) (roundK impl_isGroupAt_suh_v2.kp 2 0 L0 kv))))
theorem impl_isGroupAt_suh_v2.k1_mix {ρ : Type} (N : Nat) (K : AV → Heap → Option ρ) (L0 : St → Option ρ) (gv2 : Nat) (gv3 : Nat) (gv4 : Nat → Nat) (gv5 : Nat → Nat) (gv6 : Nat → Int) : mixK (impl_isGroupAt_suh_v2.fin N K gv2 gv3 gv4 gv5 gv6 .ret) (impl_isGroupAt_suh_v2.k1g N L0 (impl_isGroupAt_suh_v2.k0 N K gv2 gv3 gv4 gv5 gv6)) = (impl_isGroupAt_suh_v2.k1g N L0 (impl_isGroupAt_suh_v2.k0 N K gv2 gv3 gv4 gv5 gv6)) := by
  funext e s; cases e <;> kernel_rfl
def impl_isGroupAt_suh_v2.st1 (table0 : Nat) (i1 : Int) (gv2 : Nat) (gv3 : Nat) (gv4 : Nat → Nat) (gv5 : Nat → Nat) (gv6 : Nat → Int) (x7 : Int) (x8 : Int) : St := ⟨sl 68 [(0, .slice false 0 0 table0 .unk 1), (1, .int .i64 (i1)), (5, .int .i64 (x7)), (26, .int .i64 ((table0 : Int))), (27, .int .i64 (x7)), (31, .int .i64 ((table0 : Int))), (32, .int .i64 (x8))], [⟨false, .hdr 1 gv2 gv3 gv4 gv5 none⟩, ⟨false, .flat 0 (.ints .i64 gv6)⟩]⟩
def impl_isGroupAt_suh_v2.sx1_0 (table0 : Nat) (i1 : Int) (gv2 : Nat) (gv3 : Nat) (gv4 : Nat → Nat) (gv5 : Nat → Nat) (gv6 : Nat → Int) (x7 : Int) : St := ⟨sl 68 [(0, .slice false 0 0 table0 .unk 1), (1, .int .i64 (i1)), (26, .int .i64 ((table0 : Int))), (27, .int .i64 (x7))], [⟨false, .hdr 1 gv2 gv3 gv4 gv5 none⟩, ⟨false, .flat 0 (.ints .i64 gv6)⟩]⟩
theorem impl_isGroupAt_suh_v2.b1_gen {ρ : Type} (N : Nat) (K : AV → Heap → Option ρ) (L1 : St → Option ρ) (kv : XE → St → Option ρ) (table0 : Nat) (i1 : Int) (gv2 : Nat) (gv3 : Nat) (gv4 : Nat → Nat) (gv5 : Nat → Nat) (gv6 : Nat → Int) (x7 : Int) (x8 : Int) :
    xcode (E18 N) ents impl_isGroupAt_suh_v2.kp 2 N (cL (cK (cB (cB (cK (cA (cB (cB (cL (cK (cB (cA (cB (cB impl_isGroupAt_suh_v2.bd)))))))))))))) 2 (impl_isGroupAt_suh_v2.st1 table0 i1 gv2 gv3 gv4 gv5 gv6 x7 x8) (roundK impl_isGroupAt_suh_v2.kp 2 2 L1 (mixK (impl_isGroupAt_suh_v2.fin N K gv2 gv3 gv4 gv5 gv6 .ret) kv)) = (impl_isGroupAt_suh_v2.b1 N (fun d0 => K (.bool (d0)) [⟨false, .hdr 1 gv2 gv3 gv4 gv5 none⟩, ⟨false, .flat 0 (.ints .i64 gv6)⟩]) (fun x8 => L1 (impl_isGroupAt_suh_v2.st1 table0 i1 gv2 gv3 gv4 gv5 gv6 x7 x8)) (kv (.exit 2) (impl_isGroupAt_suh_v2.sx1_0 table0 i1 gv2 gv3 gv4 gv5 gv6 x7)) table0 i1 gv4 gv5 gv6 x7 x8) := by kernel_rfl
theorem impl_isGroupAt_suh_v2.b1_eq {ρ : Type} (N : Nat) (K : AV → Heap → Option ρ) (L0 : St → Option ρ) (L1 : St → Option ρ) (table0 : Nat) (i1 : Int) (gv2 : Nat) (gv3 : Nat) (gv4 : Nat → Nat) (gv5 : Nat → Nat) (gv6 : Nat → Int) (x7 : Int) (x8 : Int) :
    xcode (E18 N) ents impl_isGroupAt_suh_v2.kp 2 N (cL (cK (cB (cB (cK (cA (cB (cB (cL (cK (cB (cA (cB (cB impl_isGroupAt_suh_v2.bd)))))))))))))) 2 (impl_isGroupAt_suh_v2.st1 table0 i1 gv2 gv3 gv4 gv5 gv6 x7 x8) (roundK impl_isGroupAt_suh_v2.kp 2 2 L1 (impl_isGroupAt_suh_v2.k1g N L0 (impl_isGroupAt_suh_v2.k0 N K gv2 gv3 gv4 gv5 gv6))) = (impl_isGroupAt_suh_v2.b1 N (fun d0 => K (.bool (d0)) [⟨false, .hdr 1 gv2 gv3 gv4 gv5 none⟩, ⟨false, .flat 0 (.ints .i64 gv6)⟩]) (fun x8 => L1 (impl_isGroupAt_suh_v2.st1 table0 i1 gv2 gv3 gv4 gv5 gv6 x7 x8)) ((impl_isGroupAt_suh_v2.k1g N L0 (impl_isGroupAt_suh_v2.k0 N K gv2 gv3 gv4 gv5 gv6)) (.exit 2) (impl_isGroupAt_suh_v2.sx1_0 table0 i1 gv2 gv3 gv4 gv5 gv6 x7)) table0 i1 gv4 gv5 gv6 x7 x8) := by
  have h := impl_isGroupAt_suh_v2.b1_gen N K L1 (impl_isGroupAt_suh_v2.k1g N L0 (impl_isGroupAt_suh_v2.k0 N K gv2 gv3 gv4 gv5 gv6)) table0 i1 gv2 gv3 gv4 gv5 gv6 x7 x8
  rw [impl_isGroupAt_suh_v2.k1_mix] at h
  exact h
theorem impl_isGroupAt_suh_v2.a1_0_gen {ρ : Type} (N : Nat) (K : AV → Heap → Option ρ) (L0 : St → Option ρ) (kv : XE → St → Option ρ) (table0 : Nat) (i1 : Int) (gv2 : Nat) (gv3 : Nat) (gv4 : Nat → Nat) (gv5 : Nat → Nat) (gv6 : Nat → Int) (x7 : Int) :
    (impl_isGroupAt_suh_v2.k1g N L0 (mixK (impl_isGroupAt_suh_v2.fin N K gv2 gv3 gv4 gv5 gv6 .ret) kv)) (.exit 2) (impl_isGroupAt_suh_v2.sx1_0 table0 i1 gv2 gv3 gv4 gv5 gv6 x7) = (impl_isGroupAt_suh_v2.a1_0 N (fun d0 => K (.bool (d0)) [⟨false, .hdr 1 gv2 gv3 gv4 gv5 none⟩, ⟨false, .flat 0 (.ints .i64 gv6)⟩]) (fun x7 => L0 (impl_isGroupAt_suh_v2.st0 table0 i1 gv2 gv3 gv4 gv5 gv6 x7)) (kv (.exit 0) (impl_isGroupAt_suh_v2.sx0_0 table0 i1 gv2 gv3 gv4 gv5 gv6)) x7) := by kernel_rfl
theorem impl_isGroupAt_suh_v2.a1_0_eq {ρ : Type} (N : Nat) (K : AV → Heap → Option ρ) (L0 : St → Option ρ) (table0 : Nat) (i1 : Int) (gv2 : Nat) (gv3 : Nat) (gv4 : Nat → Nat) (gv5 : Nat → Nat) (gv6 : Nat → Int) (x7 : Int) :
    (impl_isGroupAt_suh_v2.k1g N L0 (impl_isGroupAt_suh_v2.k0 N K gv2 gv3 gv4 gv5 gv6)) (.exit 2) (impl_isGroupAt_suh_v2.sx1_0 table0 i1 gv2 gv3 gv4 gv5 gv6 x7) = (impl_isGroupAt_suh_v2.a1_0 N (fun d0 => K (.bool (d0)) [⟨false, .hdr 1 gv2 gv3 gv4 gv5 none⟩, ⟨false, .flat 0 (.ints .i64 gv6)⟩]) (fun x7 => L0 (impl_isGroupAt_suh_v2.st0 table0 i1 gv2 gv3 gv4 gv5 gv6 x7)) ((impl_isGroupAt_suh_v2.k0 N K gv2 gv3 gv4 gv5 gv6) (.exit 0) (impl_isGroupAt_suh_v2.sx0_0 table0 i1 gv2 gv3 gv4 gv5 gv6)) x7) := by
  have h := impl_isGroupAt_suh_v2.a1_0_gen N K L0 (impl_isGroupAt_suh_v2.k0 N K gv2 gv3 gv4 gv5 gv6) table0 i1 gv2 gv3 gv4 gv5 gv6 x7
  rw [impl_isGroupAt_suh_v2.k0_mix] at h
  exact h
theorem impl_isGroupAt_suh_v2.b0_gen {ρ : Type} (N : Nat) (K : AV → Heap → Option ρ) (L0 : St → Option ρ) (kv : XE → St → Option ρ) (table0 : Nat) (i1 : Int) (gv2 : Nat) (gv3 : Nat) (gv4 : Nat → Nat) (gv5 : Nat → Nat) (gv6 : Nat → Int) (x7 : Int) :
    xcode (E18 N) ents impl_isGroupAt_suh_v2.kp 2 N (cL (cK (cB (cA (cB (cB impl_isGroupAt_suh_v2.bd)))))) 0 (impl_isGroupAt_suh_v2.st0 table0 i1 gv2 gv3 gv4 gv5 gv6 x7) (roundK impl_isGroupAt_suh_v2.kp 2 0 L0 (mixK (impl_isGroupAt_suh_v2.fin N K gv2 gv3 gv4 gv5 gv6 .ret) kv)) = (impl_isGroupAt_suh_v2.b0 N (fun d0 => K (.bool (d0)) [⟨false, .hdr 1 gv2 gv3 gv4 gv5 none⟩, ⟨false, .flat 0 (.ints .i64 gv6)⟩]) (fun x8 => xloop (xcode (E18 N) ents impl_isGroupAt_suh_v2.kp 2 N (cL (cK (cB (cB (cK (cA (cB (cB (cL (cK (cB (cA (cB (cB impl_isGroupAt_suh_v2.bd)))))))))))))) 2) impl_isGroupAt_suh_v2.kp 2 2 N (impl_isGroupAt_suh_v2.st1 table0 i1 gv2 gv3 gv4 gv5 gv6 x7 x8) (impl_isGroupAt_suh_v2.k1g N L0 (mixK (impl_isGroupAt_suh_v2.fin N K gv2 gv3 gv4 gv5 gv6 .ret) kv))) (fun x7 => L0 (impl_isGroupAt_suh_v2.st0 table0 i1 gv2 gv3 gv4 gv5 gv6 x7)) (kv (.exit 0) (impl_isGroupAt_suh_v2.sx0_0 table0 i1 gv2 gv3 gv4 gv5 gv6)) table0 x7) := by kernel_rfl
theorem impl_isGroupAt_suh_v2.b0_eq {ρ : Type} (N : Nat) (K : AV → Heap → Option ρ) (L0 : St → Option ρ) (table0 : Nat) (i1 : Int) (gv2 : Nat) (gv3 : Nat) (gv4 : Nat → Nat) (gv5 : Nat → Nat) (gv6 : Nat → Int) (x7 : Int) :
    xcode (E18 N) ents impl_isGroupAt_suh_v2.kp 2 N (cL (cK (cB (cA (cB (cB impl_isGroupAt_suh_v2.bd)))))) 0 (impl_isGroupAt_suh_v2.st0 table0 i1 gv2 gv3 gv4 gv5 gv6 x7) (roundK impl_isGroupAt_suh_v2.kp 2 0 L0 (impl_isGroupAt_suh_v2.k0 N K gv2 gv3 gv4 gv5 gv6)) = (impl_isGroupAt_suh_v2.b0 N (fun d0 => K (.bool (d0)) [⟨false, .hdr 1 gv2 gv3 gv4 gv5 none⟩, ⟨false, .flat 0 (.ints .i64 gv6)⟩]) (fun x8 => xloop (xcode (E18 N) ents impl_isGroupAt_suh_v2.kp 2 N (cL (cK (cB (cB (cK (cA (cB (cB (cL (cK (cB (cA (cB (cB impl_isGroupAt_suh_v2.bd)))))))))))))) 2) impl_isGroupAt_suh_v2.kp 2 2 N (impl_isGroupAt_suh_v2.st1 table0 i1 gv2 gv3 gv4 gv5 gv6 x7 x8) (impl_isGroupAt_suh_v2.k1g N L0 (impl_isGroupAt_suh_v2.k0 N K gv2 gv3 gv4 gv5 gv6))) (fun x7 => L0 (impl_isGroupAt_suh_v2.st0 table0 i1 gv2 gv3 gv4 gv5 gv6 x7)) ((impl_isGroupAt_suh_v2.k0 N K gv2 gv3 gv4 gv5 gv6) (.exit 0) (impl_isGroupAt_suh_v2.sx0_0 table0 i1 gv2 gv3 gv4 gv5 gv6)) table0 x7) := by
  have h := impl_isGroupAt_suh_v2.b0_gen N K L0 (impl_isGroupAt_suh_v2.k0 N K gv2 gv3 gv4 gv5 gv6) table0 i1 gv2 gv3 gv4 gv5 gv6 x7
  rw [impl_isGroupAt_suh_v2.k0_mix] at h
  exact h
theorem impl_isGroupAt_suh_v2.a0_0_eq {ρ : Type} (N : Nat) (K : AV → Heap → Option ρ) (table0 : Nat) (i1 : Int) (gv2 : Nat) (gv3 : Nat) (gv4 : Nat → Nat) (gv5 : Nat → Nat) (gv6 : Nat → Int) :
    (impl_isGroupAt_suh_v2.k0 N K gv2 gv3 gv4 gv5 gv6) (.exit 0) (impl_isGroupAt_suh_v2.sx0_0 table0 i1 gv2 gv3 gv4 gv5 gv6) = (impl_isGroupAt_suh_v2.a0_0 N (fun d0 => K (.bool (d0)) [⟨false, .hdr 1 gv2 gv3 gv4 gv5 none⟩, ⟨false, .flat 0 (.ints .i64 gv6)⟩]) table0 i1 gv3 gv4 gv5 gv6) := by kernel_rfl
theorem impl_isGroupAt_suh_v2.l1_eq {ρ : Type} (N : Nat) (K : AV → Heap → Option ρ) (L0 : St → Option ρ) (table0 : Nat) (i1 : Int) (gv2 : Nat) (gv3 : Nat) (gv4 : Nat → Nat) (gv5 : Nat → Nat) (gv6 : Nat → Int) (x7 : Int) :
    ∀ (m : Nat) (x8 : Int), xloop (xcode (E18 N) ents impl_isGroupAt_suh_v2.kp 2 N (cL (cK (cB (cB (cK (cA (cB (cB (cL (cK (cB (cA (cB (cB impl_isGroupAt_suh_v2.bd)))))))))))))) 2) impl_isGroupAt_suh_v2.kp 2 2 m (impl_isGroupAt_suh_v2.st1 table0 i1 gv2 gv3 gv4 gv5 gv6 x7 x8) (impl_isGroupAt_suh_v2.k1g N L0 (impl_isGroupAt_suh_v2.k0 N K gv2 gv3 gv4 gv5 gv6)) = (impl_isGroupAt_suh_v2.l1 N (fun d0 => K (.bool (d0)) [⟨false, .hdr 1 gv2 gv3 gv4 gv5 none⟩, ⟨false, .flat 0 (.ints .i64 gv6)⟩]) table0 i1 gv4 gv5 gv6 x7 ((impl_isGroupAt_suh_v2.k1g N L0 (impl_isGroupAt_suh_v2.k0 N K gv2 gv3 gv4 gv5 gv6)) (.exit 2) (impl_isGroupAt_suh_v2.sx1_0 table0 i1 gv2 gv3 gv4 gv5 gv6 x7)) m x8) := by
  intro m
  induction m with
  | zero => intros; rfl
  | succ m ih =>
    intro x8
    refine (impl_isGroupAt_suh_v2.b1_eq N K L0 (fun s => xloop (xcode (E18 N) ents impl_isGroupAt_suh_v2.kp 2 N (cL (cK (cB (cB (cK (cA (cB (cB (cL (cK (cB (cA (cB (cB impl_isGroupAt_suh_v2.bd)))))))))))))) 2) impl_isGroupAt_suh_v2.kp 2 2 m s (impl_isGroupAt_suh_v2.k1g N L0 (impl_isGroupAt_suh_v2.k0 N K gv2 gv3 gv4 gv5 gv6))) table0 i1 gv2 gv3 gv4 gv5 gv6 x7 x8).trans ?_
    simp only [ih]
    kernel_rfl
theorem impl_isGroupAt_suh_v2.l0_eq {ρ : Type} (N : Nat) (K : AV → Heap → Option ρ) (table0 : Nat) (i1 : Int) (gv2 : Nat) (gv3 : Nat) (gv4 : Nat → Nat) (gv5 : Nat → Nat) (gv6 : Nat → Int) :
    ∀ (m : Nat) (x7 : Int), xloop (xcode (E18 N) ents impl_isGroupAt_suh_v2.kp 2 N (cL (cK (cB (cA (cB (cB impl_isGroupAt_suh_v2.bd)))))) 0) impl_isGroupAt_suh_v2.kp 2 0 m (impl_isGroupAt_suh_v2.st0 table0 i1 gv2 gv3 gv4 gv5 gv6 x7) (impl_isGroupAt_suh_v2.k0 N K gv2 gv3 gv4 gv5 gv6) = (impl_isGroupAt_suh_v2.l0 N (fun d0 => K (.bool (d0)) [⟨false, .hdr 1 gv2 gv3 gv4 gv5 none⟩, ⟨false, .flat 0 (.ints .i64 gv6)⟩]) table0 i1 gv4 gv5 gv6 ((impl_isGroupAt_suh_v2.k0 N K gv2 gv3 gv4 gv5 gv6) (.exit 0) (impl_isGroupAt_suh_v2.sx0_0 table0 i1 gv2 gv3 gv4 gv5 gv6)) m x7) := by
  intro m
  induction m with
  | zero => intros; rfl
  | succ m ih =>
    intro x7
    refine (impl_isGroupAt_suh_v2.b0_eq N K (fun s => xloop (xcode (E18 N) ents impl_isGroupAt_suh_v2.kp 2 N (cL (cK (cB (cA (cB (cB impl_isGroupAt_suh_v2.bd)))))) 0) impl_isGroupAt_suh_v2.kp 2 0 m s (impl_isGroupAt_suh_v2.k0 N K gv2 gv3 gv4 gv5 gv6)) table0 i1 gv2 gv3 gv4 gv5 gv6 x7).trans ?_
    simp only [ih, impl_isGroupAt_suh_v2.l1_eq, impl_isGroupAt_suh_v2.a1_0_eq]
    kernel_rfl
theorem impl_isGroupAt_suh_v2.s_eq {ρ : Type} (N : Nat) (K : AV → Heap → Option ρ) (table0 : Nat) (i1 : Int) (gv2 : Nat) (gv3 : Nat) (gv4 : Nat → Nat) (gv5 : Nat → Nat) (gv6 : Nat → Int) :
    xbody (E18 N) ents impl_isGroupAt_suh_v2.kp N Try.f44 impl_isGroupAt_suh_v2.bd [.slice false 0 0 table0 .unk 1, .int .i64 (i1)] [⟨false, .hdr 1 gv2 gv3 gv4 gv5 none⟩, ⟨false, .flat 0 (.ints .i64 gv6)⟩] K = (impl_isGroupAt_suh_v2.s N (fun d0 => K (.bool (d0)) [⟨false, .hdr 1 gv2 gv3 gv4 gv5 none⟩, ⟨false, .flat 0 (.ints .i64 gv6)⟩]) (fun x7 => xloop (xcode (E18 N) ents impl_isGroupAt_suh_v2.kp 2 N (cL (cK (cB (cA (cB (cB impl_isGroupAt_suh_v2.bd)))))) 0) impl_isGroupAt_suh_v2.kp 2 0 N (impl_isGroupAt_suh_v2.st0 table0 i1 gv2 gv3 gv4 gv5 gv6 x7) (impl_isGroupAt_suh_v2.k0 N K gv2 gv3 gv4 gv5 gv6)) table0 i1 gv4 gv5 gv6) := by kernel_rfl
theorem impl_isGroupAt_suh_v2.eq {ρ : Type} (N : Nat) (K : AV → Heap → Option ρ) (table0 : Nat) (i1 : Int) (gv2 : Nat) (gv3 : Nat) (gv4 : Nat → Nat) (gv5 : Nat → Nat) (gv6 : Nat → Int) :
    xbody (E18 N) ents impl_isGroupAt_suh_v2.kp N Try.f44 impl_isGroupAt_suh_v2.bd [.slice false 0 0 table0 .unk 1, .int .i64 (i1)] [⟨false, .hdr 1 gv2 gv3 gv4 gv5 none⟩, ⟨false, .flat 0 (.ints .i64 gv6)⟩] K = (impl_isGroupAt_suh_v2 N (fun d0 => K (.bool (d0)) [⟨false, .hdr 1 gv2 gv3 gv4 gv5 none⟩, ⟨false, .flat 0 (.ints .i64 gv6)⟩]) table0 i1 gv2 gv3 gv4 gv5 gv6) := by
  refine (impl_isGroupAt_suh_v2.s_eq N K table0 i1 gv2 gv3 gv4 gv5 gv6).trans ?_
  simp only [impl_isGroupAt_suh_v2.l0_eq, impl_isGroupAt_suh_v2.a0_0_eq]
  kernel_rfl
def impl_isGroupAt_suh.en (N : Nat) (ρ : Type) : List AV → Heap → (AV → Heap → Option ρ) → Option ρ
  | [.slice true 0 0 table0 .unk 1, .int .i64 (i1)], [⟨false, .hdr 1 gv2 gv3 gv4 gv5 none⟩, ⟨false, .flat 0 (.ints .i64 gv6)⟩], K => (impl_isGroupAt_suh N (fun d0 => K (.bool (d0)) [⟨false, .hdr 1 gv2 gv3 gv4 gv5 none⟩, ⟨false, .flat 0 (.ints .i64 gv6)⟩]) table0 i1 gv2 gv3 gv4 gv5 gv6)
  | [.slice false 0 0 table0 .unk 1, .int .i64 (i1)], [⟨false, .hdr 1 gv2 gv3 gv4 gv5 none⟩, ⟨false, .flat 0 (.ints .i64 gv6)⟩], K => (impl_isGroupAt_suh_v2 N (fun d0 => K (.bool (d0)) [⟨false, .hdr 1 gv2 gv3 gv4 gv5 none⟩, ⟨false, .flat 0 (.ints .i64 gv6)⟩]) table0 i1 gv2 gv3 gv4 gv5 gv6)
  | _, _, _ => none
theorem impl_isGroupAt_suh.en_ok (N : Nat) (hE : EnvOk (E18 N) ents) (ρ : Type) (args : List AV) (sh : Heap) (K : AV → Heap → Option ρ) (r : ρ) (h : impl_isGroupAt_suh.en N ρ args sh K = some r) : ∃ v sh', K v sh' = some r ∧ FnOk (E18 N).P 44 args sh v sh' := by
  unfold impl_isGroupAt_suh.en at h
  split at h
  · exact fn_ok hE (kp := impl_isGroupAt_suh.kp) (N := N) Try.func44 (c := impl_isGroupAt_suh.bd) (by kernel_rfl) ((impl_isGroupAt_suh.eq N _ _ _ _ _ _ _ _).trans h)
  · exact fn_ok hE (kp := impl_isGroupAt_suh_v2.kp) (N := N) Try.func44 (c := impl_isGroupAt_suh_v2.bd) (by kernel_rfl) ((impl_isGroupAt_suh_v2.eq N _ _ _ _ _ _ _ _).trans h)
  · cases h
def E19 (N : Nat) : Env := (E18 N).add 44 (impl_isGroupAt_suh.en N)
theorem E19_ok (N : Nat) : EnvOk (E19 N) ents := Env.add_ok (E18_ok N) (impl_isGroupAt_suh.en_ok N (E18_ok N))
def impl_IsGroupTable_suh.kp : Keeps := ⟨[(0, [0, 8, 9], [], [])], [(0, [], [], [])], []⟩
def impl_IsGroupTable_suh.bd : Code := bodyOf Try.f11
def impl_IsGroupTable_suh.fin {ρ : Type} (N : Nat) (K : AV → Heap → Option ρ) (gv1 : Nat) (gv2 : Nat) (gv3 : Nat → Nat) (gv4 : Nat → Nat) (gv5 : Nat → Int) : XE → St → Option ρ := finK (E19 N) impl_IsGroupTable_suh.kp.fins Try.f11 [⟨false, .hdr 1 gv1 gv2 gv3 gv4 none⟩, ⟨false, .flat 0 (.ints .i64 gv5)⟩] K
def impl_IsGroupTable_suh.k0 {ρ : Type} (N : Nat) (K : AV → Heap → Option ρ) (gv1 : Nat) (gv2 : Nat) (gv3 : Nat → Nat) (gv4 : Nat → Nat) (gv5 : Nat → Int) : XE → St → Option ρ := (blockK impl_IsGroupTable_suh.kp 2 0 (seqK (xcode (E19 N) ents impl_IsGroupTable_suh.kp 2 N (cB (cB (cB impl_IsGroupTable_suh.bd))) 0) (impl_IsGroupTable_suh.fin N K gv1 gv2 gv3 gv4 gv5)))
theorem impl_IsGroupTable_suh.k0_mix {ρ : Type} (N : Nat) (K : AV → Heap → Option ρ) (gv1 : Nat) (gv2 : Nat) (gv3 : Nat → Nat) (gv4 : Nat → Nat) (gv5 : Nat → Int) : mixK (impl_IsGroupTable_suh.fin N K gv1 gv2 gv3 gv4 gv5 .ret) (impl_IsGroupTable_suh.k0 N K gv1 gv2 gv3 gv4 gv5) = (impl_IsGroupTable_suh.k0 N K gv1 gv2 gv3 gv4 gv5) := by
  funext e s; cases e <;> kernel_rfl
def impl_IsGroupTable_suh.st0 (table0 : Nat) (gv1 : Nat) (gv2 : Nat) (gv3 : Nat → Nat) (gv4 : Nat → Nat) (gv5 : Nat → Int) (x7 : Int) : St := ⟨sl 17 [(0, .slice true 0 0 table0 .unk 1), (8, .int .i64 ((table0 : Int))), (9, .int .i64 (x7))], [⟨false, .hdr 1 gv1 gv2 gv3 gv4 none⟩, ⟨false, .flat 0 (.ints .i64 gv5)⟩]⟩
def impl_IsGroupTable_suh.sx0_0 (gv1 : Nat) (gv2 : Nat) (gv3 : Nat → Nat) (gv4 : Nat → Nat) (gv5 : Nat → Int) : St := ⟨sl 17 [], [⟨false, .hdr 1 gv1 gv2 gv3 gv4 none⟩, ⟨false, .flat 0 (.ints .i64 gv5)⟩]⟩
theorem impl_IsGroupTable_suh.b0_gen {ρ : Type} (N : Nat) (K : AV → Heap → Option ρ) (L0 : St → Option ρ) (kv : XE → St → Option ρ) (table0 : Nat) (gv1 : Nat) (gv2 : Nat) (gv3 : Nat → Nat) (gv4 : Nat → Nat) (gv5 : Nat → Int) (x7 : Int) :
    xcode (E19 N) ents impl_IsGroupTable_suh.kp 2 N (cL (cK (cB (cA (cB (cB impl_IsGroupTable_suh.bd)))))) 0 (impl_IsGroupTable_suh.st0 table0 gv1 gv2 gv3 gv4 gv5 x7) (roundK impl_IsGroupTable_suh.kp 2 0 L0 (mixK (impl_IsGroupTable_suh.fin N K gv1 gv2 gv3 gv4 gv5 .ret) kv)) = (impl_IsGroupTable_suh.b0 N (fun d0 => K (.bool (d0)) [⟨false, .hdr 1 gv1 gv2 gv3 gv4 none⟩, ⟨false, .flat 0 (.ints .i64 gv5)⟩]) (fun x7 => L0 (impl_IsGroupTable_suh.st0 table0 gv1 gv2 gv3 gv4 gv5 x7)) (kv (.exit 0) (impl_IsGroupTable_suh.sx0_0 gv1 gv2 gv3 gv4 gv5)) table0 gv2 gv3 gv4 gv5 x7) := by kernel_rfl
theorem impl_IsGroupTable_suh.b0_eq {ρ : Type} (N : Nat) (K : AV → Heap → Option ρ) (L0 : St → Option ρ) (table0 : Nat) (gv1 : Nat) (gv2 : Nat) (gv3 : Nat → Nat) (gv4 : Nat → Nat) (gv5 : Nat → Int) (x7 : Int) :
    xcode (E19 N) ents impl_IsGroupTable_suh.kp 2 N (cL (cK (cB (cA (cB (cB impl_IsGroupTable_suh.bd)))))) 0 (impl_IsGroupTable_suh.st0 table0 gv1 gv2 gv3 gv4 gv5 x7) (roundK impl_IsGroupTable_suh.kp 2 0 L0 (impl_IsGroupTable_suh.k0 N K gv1 gv2 gv3 gv4 gv5)) = (impl_IsGroupTable_suh.b0 N (fun d0 => K (.bool (d0)) [⟨false, .hdr 1 gv1 gv2 gv3 gv4 none⟩, ⟨false, .flat 0 (.ints .i64 gv5)⟩]) (fun x7 => L0 (impl_IsGroupTable_suh.st0 table0 gv1 gv2 gv3 gv4 gv5 x7)) ((impl_IsGroupTable_suh.k0 N K gv1 gv2 gv3 gv4 gv5) (.exit 0) (impl_IsGroupTable_suh.sx0_0 gv1 gv2 gv3 gv4 gv5)) table0 gv2 gv3 gv4 gv5 x7) := by
  have h := impl_IsGroupTable_suh.b0_gen N K L0 (impl_IsGroupTable_suh.k0 N K gv1 gv2 gv3 gv4 gv5) table0 gv1 gv2 gv3 gv4 gv5 x7
  rw [impl_IsGroupTable_suh.k0_mix] at h
  exact h
theorem impl_IsGroupTable_suh.a0_0_eq {ρ : Type} (N : Nat) (K : AV → Heap → Option ρ) (gv1 : Nat) (gv2 : Nat) (gv3 : Nat → Nat) (gv4 : Nat → Nat) (gv5 : Nat → Int) :
    (impl_IsGroupTable_suh.k0 N K gv1 gv2 gv3 gv4 gv5) (.exit 0) (impl_IsGroupTable_suh.sx0_0 gv1 gv2 gv3 gv4 gv5) = (impl_IsGroupTable_suh.a0_0 N (fun d0 => K (.bool (d0)) [⟨false, .hdr 1 gv1 gv2 gv3 gv4 none⟩, ⟨false, .flat 0 (.ints .i64 gv5)⟩])) := by kernel_rfl
theorem impl_IsGroupTable_suh.l0_eq {ρ : Type} (N : Nat) (K : AV → Heap → Option ρ) (table0 : Nat) (gv1 : Nat) (gv2 : Nat) (gv3 : Nat → Nat) (gv4 : Nat → Nat) (gv5 : Nat → Int) :
    ∀ (m : Nat) (x7 : Int), xloop (xcode (E19 N) ents impl_IsGroupTable_suh.kp 2 N (cL (cK (cB (cA (cB (cB impl_IsGroupTable_suh.bd)))))) 0) impl_IsGroupTable_suh.kp 2 0 m (impl_IsGroupTable_suh.st0 table0 gv1 gv2 gv3 gv4 gv5 x7) (impl_IsGroupTable_suh.k0 N K gv1 gv2 gv3 gv4 gv5) = (impl_IsGroupTable_suh.l0 N (fun d0 => K (.bool (d0)) [⟨false, .hdr 1 gv1 gv2 gv3 gv4 none⟩, ⟨false, .flat 0 (.ints .i64 gv5)⟩]) table0 gv2 gv3 gv4 gv5 ((impl_IsGroupTable_suh.k0 N K gv1 gv2 gv3 gv4 gv5) (.exit 0) (impl_IsGroupTable_suh.sx0_0 gv1 gv2 gv3 gv4 gv5)) m x7) := by
  intro m
  induction m with
  | zero => intros; rfl
  | succ m ih =>
    intro x7
    refine (impl_IsGroupTable_suh.b0_eq N K (fun s => xloop (xcode (E19 N) ents impl_IsGroupTable_suh.kp 2 N (cL (cK (cB (cA (cB (cB impl_IsGroupTable_suh.bd)))))) 0) impl_IsGroupTable_suh.kp 2 0 m s (impl_IsGroupTable_suh.k0 N K gv1 gv2 gv3 gv4 gv5)) table0 gv1 gv2 gv3 gv4 gv5 x7).trans ?_
    simp only [ih]
    kernel_rfl
theorem impl_IsGroupTable_suh.s_eq {ρ : Type} (N : Nat) (K : AV → Heap → Option ρ) (table0 : Nat) (gv1 : Nat) (gv2 : Nat) (gv3 : Nat → Nat) (gv4 : Nat → Nat) (gv5 : Nat → Int) :
    xbody (E19 N) ents impl_IsGroupTable_suh.kp N Try.f11 impl_IsGroupTable_suh.bd [.slice true 0 0 table0 .unk 1] [⟨false, .hdr 1 gv1 gv2 gv3 gv4 none⟩, ⟨false, .flat 0 (.ints .i64 gv5)⟩] K = (impl_IsGroupTable_suh.s N (fun d0 => K (.bool (d0)) [⟨false, .hdr 1 gv1 gv2 gv3 gv4 none⟩, ⟨false, .flat 0 (.ints .i64 gv5)⟩]) (fun x7 => xloop (xcode (E19 N) ents impl_IsGroupTable_suh.kp 2 N (cL (cK (cB (cA (cB (cB impl_IsGroupTable_suh.bd)))))) 0) impl_IsGroupTable_suh.kp 2 0 N (impl_IsGroupTable_suh.st0 table0 gv1 gv2 gv3 gv4 gv5 x7) (impl_IsGroupTable_suh.k0 N K gv1 gv2 gv3 gv4 gv5)) table0 gv2 gv3 gv4 gv5) := by kernel_rfl
theorem impl_IsGroupTable_suh.eqb {ρ : Type} (N : Nat) (K : AV → Heap → Option ρ) (table0 : Nat) (gv1 : Nat) (gv2 : Nat) (gv3 : Nat → Nat) (gv4 : Nat → Nat) (gv5 : Nat → Int) :
    xbody (E19 N) ents impl_IsGroupTable_suh.kp N Try.f11 impl_IsGroupTable_suh.bd [.slice true 0 0 table0 .unk 1] [⟨false, .hdr 1 gv1 gv2 gv3 gv4 none⟩, ⟨false, .flat 0 (.ints .i64 gv5)⟩] K = (impl_IsGroupTable_suh.bdy N (fun d0 => K (.bool (d0)) [⟨false, .hdr 1 gv1 gv2 gv3 gv4 none⟩, ⟨false, .flat 0 (.ints .i64 gv5)⟩]) table0 gv1 gv2 gv3 gv4 gv5) := by
  refine (impl_IsGroupTable_suh.s_eq N K table0 gv1 gv2 gv3 gv4 gv5).trans ?_
  simp only [impl_IsGroupTable_suh.l0_eq, impl_IsGroupTable_suh.a0_0_eq]
  kernel_rfl
theorem impl_IsGroupTable_suh.eq {ρ : Type} (N : Nat) (K : AV → Heap → Option ρ) (table0 : Nat) (gv1 : Nat) (gv2 : Nat) (gv3 : Nat → Nat) (gv4 : Nat → Nat) (gv5 : Nat → Int) :
    xbody (E19 N) ents impl_IsGroupTable_suh.kp N Try.f11 impl_IsGroupTable_suh.bd [.slice true 0 0 table0 .unk 1] [⟨false, .hdr 1 gv1 gv2 gv3 gv4 none⟩, ⟨false, .flat 0 (.ints .i64 gv5)⟩] K = (impl_IsGroupTable_suh N (fun d0 => K (.bool (d0)) [⟨false, .hdr 1 gv1 gv2 gv3 gv4 none⟩, ⟨false, .flat 0 (.ints .i64 gv5)⟩]) table0 gv1 gv2 gv3 gv4 gv5) :=
  (impl_IsGroupTable_suh.eqb N K table0 gv1 gv2 gv3 gv4 gv5).trans (impl_IsGroupTable_suh.opq _ _ _ _ _ _ _ _).symm
def impl_IsGroupTable_suh_v2.kp : Keeps := ⟨[(0, [0, 8, 9], [], [])], [(0, [], [], [])], []⟩
def impl_IsGroupTable_suh_v2.bd : Code := bodyOf Try.f11
def impl_IsGroupTable_suh_v2.fin {ρ : Type} (N : Nat) (K : AV → Heap → Option ρ) (gv1 : Nat) (gv2 : Nat) (gv3 : Nat → Nat) (gv4 : Nat → Nat) (gv5 : Nat → Int) : XE → St → Option ρ := finK (E19 N) impl_IsGroupTable_suh_v2.kp.fins Try.f11 [⟨false, .hdr 1 gv1 gv2 gv3 gv4 none⟩, ⟨false, .flat 0 (.ints .i64 gv5)⟩] K
def impl_IsGroupTable_suh_v2.k0 {ρ : Type} (N : Nat) (K : AV → Heap → Option ρ) (gv1 : Nat) (gv2 : Nat) (gv3 : Nat → Nat) (gv4 : Nat → Nat) (gv5 : Nat → Int) : XE → St → Option ρ := (blockK impl_IsGroupTable_suh_v2.kp 2 0 (seqK (xcode (E19 N) ents impl_IsGroupTable_suh_v2.kp 2 N (cB (cB (cB impl_IsGroupTable_suh_v2.bd))) 0) (impl_IsGroupTable_suh_v2.fin N K gv1 gv2 gv3 gv4 gv5)))
theorem impl_IsGroupTable_suh_v2.k0_mix {ρ : Type} (N : Nat) (K : AV → Heap → Option ρ) (gv1 : Nat) (gv2 : Nat) (gv3 : Nat → Nat) (gv4 : Nat → Nat) (gv5 : Nat → Int) : mixK (impl_IsGroupTable_suh_v2.fin N K gv1 gv2 gv3 gv4 gv5 .ret) (impl_IsGroupTable_suh_v2.k0 N K gv1 gv2 gv3 gv4 gv5) = (impl_IsGroupTable_suh_v2.k0 N K gv1 gv2 gv3 gv4 gv5) := by
  funext e s; cases e <;> kernel_rfl
def impl_IsGroupTable_suh_v2.st0 (table0 : Nat) (gv1 : Nat) (gv2 : Nat) (gv3 : Nat → Nat) (gv4 : Nat → Nat) (gv5 : Nat → Int) (x7 : Int) : St := ⟨sl 17 [(0, .slice false 0 0 table0 .unk 1), (8, .int .i64 ((table0 : Int))), (9, .int .i64 (x7))], [⟨false, .hdr 1 gv1 gv2 gv3 gv4 none⟩, ⟨false, .flat 0 (.ints .i64 gv5)⟩]⟩
def impl_IsGroupTable_suh_v2.sx0_0 (gv1 : Nat) (gv2 : Nat) (gv3 : Nat → Nat) (gv4 : Nat → Nat) (gv5 : Nat → Int) : St := ⟨sl 17 [], [⟨false, .hdr 1 gv1 gv2 gv3 gv4 none⟩, ⟨false, .flat 0 (.ints .i64 gv5)⟩]⟩
theorem impl_IsGroupTable_suh_v2.b0_gen {ρ : Type} (N : Nat) (K : AV → Heap → Option ρ) (L0 : St → Option ρ) (kv : XE → St → Option ρ) (table0 : Nat) (gv1 : Nat) (gv2 : Nat) (gv3 : Nat → Nat) (gv4 : Nat → Nat) (gv5 : Nat → Int) (x7 : Int) :
    xcode (E19 N) ents impl_IsGroupTable_suh_v2.kp 2 N (cL (cK (cB (cA (cB (cB impl_IsGroupTable_suh_v2.bd)))))) 0 (impl_IsGroupTable_suh_v2.st0 table0 gv1 gv2 gv3 gv4 gv5 x7) (roundK impl_IsGroupTable_suh_v2.kp 2 0 L0 (mixK (impl_IsGroupTable_suh_v2.fin N K gv1 gv2 gv3 gv4 gv5 .ret) kv)) = (impl_IsGroupTable_suh_v2.b0 N (fun d0 => K (.bool (d0)) [⟨false, .hdr 1 gv1 gv2 gv3 gv4 none⟩, ⟨false, .flat 0 (.ints .i64 gv5)⟩]) (fun x7 => L0 (impl_IsGroupTable_suh_v2.st0 table0 gv1 gv2 gv3 gv4 gv5 x7)) (kv (.exit 0) (impl_IsGroupTable_suh_v2.sx0_0 gv1 gv2 gv3 gv4 gv5)) table0 gv2 gv3 gv4 gv5 x7) := by kernel_rfl
theorem impl_IsGroupTable_suh_v2.b0_eq {ρ : Type} (N : Nat) (K : AV → Heap → Option ρ) (L0 : St → Option ρ) (table0 : Nat) (gv1 : Nat) (gv2 : Nat) (gv3 : Nat → Nat) (gv4 : Nat → Nat) (gv5 : Nat → Int) (x7 : Int) :
    xcode (E19 N) ents impl_IsGroupTable_suh_v2.kp 2 N (cL (cK (cB (cA (cB (cB impl_IsGroupTable_suh_v2.bd)))))) 0 (impl_IsGroupTable_suh_v2.st0 table0 gv1 gv2 gv3 gv4 gv5 x7) (roundK impl_IsGroupTable_suh_v2.kp 2 0 L0 (impl_IsGroupTable_suh_v2.k0 N K gv1 gv2 gv3 gv4 gv5)) = (impl_IsGroupTable_suh_v2.b0 N (fun d0 => K (.bool (d0)) [⟨false, .hdr 1 gv1 gv2 gv3 gv4 none⟩, ⟨false, .flat 0 (.ints .i64 gv5)⟩]) (fun x7 => L0 (impl_IsGroupTable_suh_v2.st0 table0 gv1 gv2 gv3 gv4 gv5 x7)) ((impl_IsGroupTable_suh_v2.k0 N K gv1 gv2 gv3 gv4 gv5) (.exit 0) (impl_IsGroupTable_suh_v2.sx0_0 gv1 gv2 gv3 gv4 gv5)) table0 gv2 gv3 gv4 gv5 x7) := by
  have h := impl_IsGroupTable_suh_v2.b0_gen N K L0 (impl_IsGroupTable_suh_v2.k0 N K gv1 gv2 gv3 gv4 gv5) table0 gv1 gv2 gv3 gv4 gv5 x7
  rw [impl_IsGroupTable_suh_v2.k0_mix] at h
  exact h
theorem impl_IsGroupTable_suh_v2.a0_0_eq {ρ : Type} (N : Nat) (K : AV → Heap → Option ρ) (gv1 : Nat) (gv2 : Nat) (gv3 : Nat → Nat) (gv4 : Nat → Nat) (gv5 : Nat → Int) :
    (impl_IsGroupTable_suh_v2.k0 N K gv1 gv2 gv3 gv4 gv5) (.exit 0) (impl_IsGroupTable_suh_v2.sx0_0 gv1 gv2 gv3 gv4 gv5) = (impl_IsGroupTable_suh_v2.a0_0 N (fun d0 => K (.bool (d0)) [⟨false, .hdr 1 gv1 gv2 gv3 gv4 none⟩, ⟨false, .flat 0 (.ints .i64 gv5)⟩])) := by kernel_rfl
theorem impl_IsGroupTable_suh_v2.l0_eq {ρ : Type} (N : Nat) (K : AV → Heap → Option ρ) (table0 : Nat) (gv1 : Nat) (gv2 : Nat) (gv3 : Nat → Nat) (gv4 : Nat → Nat) (gv5 : Nat → Int) :
    ∀ (m : Nat) (x7 : Int), xloop (xcode (E19 N) ents impl_IsGroupTable_suh_v2.kp 2 N (cL (cK (cB (cA (cB (cB impl_IsGroupTable_suh_v2.bd)))))) 0) impl_IsGroupTable_suh_v2.kp 2 0 m (impl_IsGroupTable_suh_v2.st0 table0 gv1 gv2 gv3 gv4 gv5 x7) (impl_IsGroupTable_suh_v2.k0 N K gv1 gv2 gv3 gv4 gv5) = (impl_IsGroupTable_suh_v2.l0 N (fun d0 => K (.bool (d0)) [⟨false, .hdr 1 gv1 gv2 gv3 gv4 none⟩, ⟨false, .flat 0 (.ints .i64 gv5)⟩]) table0 gv2 gv3 gv4 gv5 ((impl_IsGroupTable_suh_v2.k0 N K gv1 gv2 gv3 gv4 gv5) (.exit 0) (impl_IsGroupTable_suh_v2.sx0_0 gv1 gv2 gv3 gv4 gv5)) m x7) := by
  intro m
  induction m with
  | zero => intros; rfl
  | succ m ih =>
    intro x7
    refine (impl_IsGroupTable_suh_v2.b0_eq N K (fun s => xloop (xcode (E19 N) ents impl_IsGroupTable_suh_v2.kp 2 N (cL (cK (cB (cA (cB (cB impl_IsGroupTable_suh_v2.bd)))))) 0) impl_IsGroupTable_suh_v2.kp 2 0 m s (impl_IsGroupTable_suh_v2.k0 N K gv1 gv2 gv3 gv4 gv5)) table0 gv1 gv2 gv3 gv4 gv5 x7).trans ?_
    simp only [ih]
    kernel_rfl
theorem impl_IsGroupTable_suh_v2.s_eq {ρ : Type} (N : Nat) (K : AV → Heap → Option ρ) (table0 : Nat) (gv1 : Nat) (gv2 : Nat) (gv3 : Nat → Nat) (gv4 : Nat → Nat) (gv5 : Nat → Int) :
    xbody (E19 N) ents impl_IsGroupTable_suh_v2.kp N Try.f11 impl_IsGroupTable_suh_v2.bd [.slice false 0 0 table0 .unk 1] [⟨false, .hdr 1 gv1 gv2 gv3 gv4 none⟩, ⟨false, .flat 0 (.ints .i64 gv5)⟩] K = (impl_IsGroupTable_suh_v2.s N (fun d0 => K (.bool (d0)) [⟨false, .hdr 1 gv1 gv2 gv3 gv4 none⟩, ⟨false, .flat 0 (.ints .i64 gv5)⟩]) (fun x7 => xloop (xcode (E19 N) ents impl_IsGroupTable_suh_v2.kp 2 N (cL (cK (cB (cA (cB (cB impl_IsGroupTable_suh_v2.bd)))))) 0) impl_IsGroupTable_suh_v2.kp 2 0 N (impl_IsGroupTable_suh_v2.st0 table0 gv1 gv2 gv3 gv4 gv5 x7) (impl_IsGroupTable_suh_v2.k0 N K gv1 gv2 gv3 gv4 gv5)) table0 gv2 gv3 gv4 gv5) := by kernel_rfl
theorem impl_IsGroupTable_suh_v2.eqb {ρ : Type} (N : Nat) (K : AV → Heap → Option ρ) (table0 : Nat) (gv1 : Nat) (gv2 : Nat) (gv3 : Nat → Nat) (gv4 : Nat → Nat) (gv5 : Nat → Int) :
    xbody (E19 N) ents impl_IsGroupTable_suh_v2.kp N Try.f11 impl_IsGroupTable_suh_v2.bd [.slice false 0 0 table0 .unk 1] [⟨false, .hdr 1 gv1 gv2 gv3 gv4 none⟩, ⟨false, .flat 0 (.ints .i64 gv5)⟩] K = (impl_IsGroupTable_suh_v2.bdy N (fun d0 => K (.bool (d0)) [⟨false, .hdr 1 gv1 gv2 gv3 gv4 none⟩, ⟨false, .flat 0 (.ints .i64 gv5)⟩]) table0 gv1 gv2 gv3 gv4 gv5) := by
  refine (impl_IsGroupTable_suh_v2.s_eq N K table0 gv1 gv2 gv3 gv4 gv5).trans ?_
  simp only [impl_IsGroupTable_suh_v2.l0_eq, impl_IsGroupTable_suh_v2.a0_0_eq]
  kernel_rfl
theorem impl_IsGroupTable_suh_v2.eq {ρ : Type} (N : Nat) (K : AV → Heap → Option ρ) (table0 : Nat) (gv1 : Nat) (gv2 : Nat) (gv3 : Nat → Nat) (gv4 : Nat → Nat) (gv5 : Nat → Int) :
    xbody (E19 N) ents impl_IsGroupTable_suh_v2.kp N Try.f11 impl_IsGroupTable_suh_v2.bd [.slice false 0 0 table0 .unk 1] [⟨false, .hdr 1 gv1 gv2 gv3 gv4 none⟩, ⟨false, .flat 0 (.ints .i64 gv5)⟩] K = (impl_IsGroupTable_suh_v2 N (fun d0 => K (.bool (d0)) [⟨false, .hdr 1 gv1 gv2 gv3 gv4 none⟩, ⟨false, .flat 0 (.ints .i64 gv5)⟩]) table0 gv1 gv2 gv3 gv4 gv5) :=
  (impl_IsGroupTable_suh_v2.eqb N K table0 gv1 gv2 gv3 gv4 gv5).trans (impl_IsGroupTable_suh_v2.opq _ _ _ _ _ _ _ _).symm
def impl_IsGroupTable_suh.en (N : Nat) (ρ : Type) : List AV → Heap → (AV → Heap → Option ρ) → Option ρ
  | [.slice true 0 0 table0 .unk 1], [⟨false, .hdr 1 gv1 gv2 gv3 gv4 none⟩, ⟨false, .flat 0 (.ints .i64 gv5)⟩], K => (impl_IsGroupTable_suh N (fun d0 => K (.bool (d0)) [⟨false, .hdr 1 gv1 gv2 gv3 gv4 none⟩, ⟨false, .flat 0 (.ints .i64 gv5)⟩]) table0 gv1 gv2 gv3 gv4 gv5)
  | [.slice false 0 0 table0 .unk 1], [⟨false, .hdr 1 gv1 gv2 gv3 gv4 none⟩, ⟨false, .flat 0 (.ints .i64 gv5)⟩], K => (impl_IsGroupTable_suh_v2 N (fun d0 => K (.bool (d0)) [⟨false, .hdr 1 gv1 gv2 gv3 gv4 none⟩, ⟨false, .flat 0 (.ints .i64 gv5)⟩]) table0 gv1 gv2 gv3 gv4 gv5)
  | _, _, _ => none
theorem impl_IsGroupTable_suh.en_ok (N : Nat) (hE : EnvOk (E19 N) ents) (ρ : Type) (args : List AV) (sh : Heap) (K : AV → Heap → Option ρ) (r : ρ) (h : impl_IsGroupTable_suh.en N ρ args sh K = some r) : ∃ v sh', K v sh' = some r ∧ FnOk (E19 N).P 11 args sh v sh' := by
  unfold impl_IsGroupTable_suh.en at h
  split at h
  · exact fn_ok hE (kp := impl_IsGroupTable_suh.kp) (N := N) Try.func11 (c := impl_IsGroupTable_suh.bd) (by kernel_rfl) ((impl_IsGroupTable_suh.eq N _ _ _ _ _ _ _).trans h)
  · exact fn_ok hE (kp := impl_IsGroupTable_suh_v2.kp) (N := N) Try.func11 (c := impl_IsGroupTable_suh_v2.bd) (by kernel_rfl) ((impl_IsGroupTable_suh_v2.eq N _ _ _ _ _ _ _).trans h)
  · cases h
def E20 (N : Nat) : Env := (E19 N).add 11 (impl_IsGroupTable_suh.en N)
theorem E20_ok (N : Nat) : EnvOk (E20 N) ents := Env.add_ok (E19_ok N) (impl_IsGroupTable_suh.en_ok N (E19_ok N))
def spec_IsAbelianTable_suh.kp : Keeps := ⟨[(0, [0, 4], [], []), (2, [0, 4, 5], [], [])], [(0, [], [], []), (2, [0, 4], [], [])], []⟩
def spec_IsAbelianTable_suh.bd : Code := bodyOf Try.f13
def spec_IsAbelianTable_suh.fin {ρ : Type} (N : Nat) (K : AV → Heap → Option ρ) (gv1 : Nat) (gv2 : Nat) (gv3 : Nat → Nat) (gv4 : Nat → Nat) (gv5 : Nat → Int) : XE → St → Option ρ := finK (E20 N) spec_IsAbelianTable_suh.kp.fins Try.f13 [⟨false, .hdr 1 gv1 gv2 gv3 gv4 none⟩, ⟨false, .flat 0 (.ints .i64 gv5)⟩] K
def spec_IsAbelianTable_suh.k0 {ρ : Type} (N : Nat) (K : AV → Heap → Option ρ) (gv1 : Nat) (gv2 : Nat) (gv3 : Nat → Nat) (gv4 : Nat → Nat) (gv5 : Nat → Int) : XE → St → Option ρ := (blockK spec_IsAbelianTable_suh.kp 2 0 (seqK (xcode (E20 N) ents spec_IsAbelianTable_suh.kp 2 N (cB (cB (cB spec_IsAbelianTable_suh.bd))) 0) (spec_IsAbelianTable_suh.fin N K gv1 gv2 gv3 gv4 gv5)))
theorem spec_IsAbelianTable_suh.k0_mix {ρ : Type} (N : Nat) (K : AV → Heap → Option ρ) (gv1 : Nat) (gv2 : Nat) (gv3 : Nat → Nat) (gv4 : Nat → Nat) (gv5 : Nat → Int) : mixK (spec_IsAbelianTable_suh.fin N K gv1 gv2 gv3 gv4 gv5 .ret) (spec_IsAbelianTable_suh.k0 N K gv1 gv2 gv3 gv4 gv5) = (spec_IsAbelianTable_suh.k0 N K gv1 gv2 gv3 gv4 gv5) := by
  funext e s; cases e <;> kernel_rfl
def spec_IsAbelianTable_suh.st0 (table0 : Nat) (gv1 : Nat) (gv2 : Nat) (gv3 : Nat → Nat) (gv4 : Nat → Nat) (gv5 : Nat → Int) (i7 : Int) : St := ⟨sl 35 [(0, .slice true 0 0 table0 .unk 1), (4, .int .i64 (i7))], [⟨false, .hdr 1 gv1 gv2 gv3 gv4 none⟩, ⟨false, .flat 0 (.ints .i64 gv5)⟩]⟩
def spec_IsAbelianTable_suh.sx0_0 (gv1 : Nat) (gv2 : Nat) (gv3 : Nat → Nat) (gv4 : Nat → Nat) (gv5 : Nat → Int) : St := ⟨sl 35 [], [⟨false, .hdr 1 gv1 gv2 gv3 gv4 none⟩, ⟨false, .flat 0 (.ints .i64 gv5)⟩]⟩
def spec_IsAbelianTable_suh.k1g {ρ : Type} (N : Nat) (L0 : St → Option ρ) (kv : XE → St → Option ρ) : XE → St → Option ρ := (blockK spec_IsAbelianTable_suh.kp 2 2 (blockK spec_IsAbelianTable_suh.kp 2 1 (seqK (xcode (E20 N) ents spec_IsAbelianTable_suh.kp 2 N (cB (cB (cL (cK (cB (cA (cB (cB spec_IsAbelianTable_suh.bd)))))))) 0) (roundK spec_IsAbelianTable_suh.kp 2 0 L0 kv))))
theorem spec_IsAbelianTable_suh.k1_mix {ρ : Type} (N : Nat) (K : AV → Heap → Option ρ) (L0 : St → Option ρ) (gv1 : Nat) (gv2 : Nat) (gv3 : Nat → Nat) (gv4 : Nat → Nat) (gv5 : Nat → Int) : mixK (spec_IsAbelianTable_suh.fin N K gv1 gv2 gv3 gv4 gv5 .ret) (spec_IsAbelianTable_suh.k1g N L0 (spec_IsAbelianTable_suh.k0 N K gv1 gv2 gv3 gv4 gv5)) = (spec_IsAbelianTable_suh.k1g N L0 (spec_IsAbelianTable_suh.k0 N K gv1 gv2 gv3 gv4 gv5)) := by
  funext e s; cases e <;> kernel_rfl
def spec_IsAbelianTable_suh.st1 (table0 : Nat) (gv1 : Nat) (gv2 : Nat) (gv3 : Nat → Nat) (gv4 : Nat → Nat) (gv5 : Nat → Int) (i7 : Int) (j8 : Int) : St := ⟨sl 35 [(0, .slice true 0 0 table0 .unk 1), (4, .int .i64 (i7)), (5, .int .i64 (j8))], [⟨false, .hdr 1 gv1 gv2 gv3 gv4 none⟩, ⟨false, .flat 0 (.ints .i64 gv5)⟩]⟩
def spec_IsAbelianTable_suh.sx1_0 (table0 : Nat) (gv1 : Nat) (gv2 : Nat) (gv3 : Nat → Nat) (gv4 : Nat → Nat) (gv5 : Nat → Int) (i7 : Int) : St := ⟨sl 35 [(0, .slice true 0 0 table0 .unk 1), (4, .int .i64 (i7))], [⟨false, .hdr 1 gv1 gv2 gv3 gv4 none⟩, ⟨false, .flat 0 (.ints .i64 gv5)⟩]⟩
theorem spec_IsAbelianTable_suh.b1_gen {ρ : Type} (N : Nat) (K : AV → Heap → Option ρ) (L1 : St → Option ρ) (kv : XE → St → Option ρ) (table0 : Nat) (gv1 : Nat) (gv2 : Nat) (gv3 : Nat → Nat) (gv4 : Nat → Nat) (gv5 : Nat → Int) (i7 : Int) (j8 : Int) :
    xcode (E20 N) ents spec_IsAbelianTable_suh.kp 2 N (cL (cK (cB (cK (cA (cB (cL (cK (cB (cA (cB (cB spec_IsAbelianTable_suh.bd)))))))))))) 2 (spec_IsAbelianTable_suh.st1 table0 gv1 gv2 gv3 gv4 gv5 i7 j8) (roundK spec_IsAbelianTable_suh.kp 2 2 L1 (mixK (spec_IsAbelianTable_suh.fin N K gv1 gv2 gv3 gv4 gv5 .ret) kv)) = (spec_IsAbelianTable_suh.b1 N (fun d0 d1 => K (.tup [.bool (d0), .int .i64 (d1)]) [⟨false, .hdr 1 gv1 gv2 gv3 gv4 none⟩, ⟨false, .flat 0 (.ints .i64 gv5)⟩]) (fun j8 => L1 (spec_IsAbelianTable_suh.st1 table0 gv1 gv2 gv3 gv4 gv5 i7 j8)) (kv (.exit 2) (spec_IsAbelianTable_suh.sx1_0 table0 gv1 gv2 gv3 gv4 gv5 i7)) table0 gv3 gv4 gv5 i7 j8) := by kernel_rfl
theorem spec_IsAbelianTable_suh.b1_eq {ρ : Type} (N : Nat) (K : AV → Heap → Option ρ) (L0 : St → Option ρ) (L1 : St → Option ρ) (table0 : Nat) (gv1 : Nat) (gv2 : Nat) (gv3 : Nat → Nat) (gv4 : Nat → Nat) (gv5 : Nat → Int) (i7 : Int) (j8 : Int) :
    xcode (E20 N) ents spec_IsAbelianTable_suh.kp 2 N (cL (cK (cB (cK (cA (cB (cL (cK (cB (cA (cB (cB spec_IsAbelianTable_suh.bd)))))))))))) 2 (spec_IsAbelianTable_suh.st1 table0 gv1 gv2 gv3 gv4 gv5 i7 j8) (roundK spec_IsAbelianTable_suh.kp 2 2 L1 (spec_IsAbelianTable_suh.k1g N L0 (spec_IsAbelianTable_suh.k0 N K gv1 gv2 gv3 gv4 gv5))) = (spec_IsAbelianTable_suh.b1 N (fun d0 d1 => K (.tup [.bool (d0), .int .i64 (d1)]) [⟨false, .hdr 1 gv1 gv2 gv3 gv4 none⟩, ⟨false, .flat 0 (.ints .i64 gv5)⟩]) (fun j8 => L1 (spec_IsAbelianTable_suh.st1 table0 gv1 gv2 gv3 gv4 gv5 i7 j8)) ((spec_IsAbelianTable_suh.k1g N L0 (spec_IsAbelianTable_suh.k0 N K gv1 gv2 gv3 gv4 gv5)) (.exit 2) (spec_IsAbelianTable_suh.sx1_0 table0 gv1 gv2 gv3 gv4 gv5 i7)) table0 gv3 gv4 gv5 i7 j8) := by
  have h := spec_IsAbelianTable_suh.b1_gen N K L1 (spec_IsAbelianTable_suh.k1g N L0 (spec_IsAbelianTable_suh.k0 N K gv1 gv2 gv3 gv4 gv5)) table0 gv1 gv2 gv3 gv4 gv5 i7 j8
  rw [spec_IsAbelianTable_suh.k1_mix] at h
  exact h
theorem spec_IsAbelianTable_suh.a1_0_gen {ρ : Type} (N : Nat) (K : AV → Heap → Option ρ) (L0 : St → Option ρ) (kv : XE → St → Option ρ) (table0 : Nat) (gv1 : Nat) (gv2 : Nat) (gv3 : Nat → Nat) (gv4 : Nat → Nat) (gv5 : Nat → Int) (i7 : Int) :
    (spec_IsAbelianTable_suh.k1g N L0 (mixK (spec_IsAbelianTable_suh.fin N K gv1 gv2 gv3 gv4 gv5 .ret) kv)) (.exit 2) (spec_IsAbelianTable_suh.sx1_0 table0 gv1 gv2 gv3 gv4 gv5 i7) = (spec_IsAbelianTable_suh.a1_0 N (fun d0 d1 => K (.tup [.bool (d0), .int .i64 (d1)]) [⟨false, .hdr 1 gv1 gv2 gv3 gv4 none⟩, ⟨false, .flat 0 (.ints .i64 gv5)⟩]) (fun i7 => L0 (spec_IsAbelianTable_suh.st0 table0 gv1 gv2 gv3 gv4 gv5 i7)) (kv (.exit 0) (spec_IsAbelianTable_suh.sx0_0 gv1 gv2 gv3 gv4 gv5)) i7) := by kernel_rfl
theorem spec_IsAbelianTable_suh.a1_0_eq {ρ : Type} (N : Nat) (K : AV → Heap → Option ρ) (L0 : St → Option ρ) (table0 : Nat) (gv1 : Nat) (gv2 : Nat) (gv3 : Nat → Nat) (gv4 : Nat → Nat) (gv5 : Nat → Int) (i7 : Int) :
    (spec_IsAbelianTable_suh.k1g N L0 (spec_IsAbelianTable_suh.k0 N K gv1 gv2 gv3 gv4 gv5)) (.exit 2) (spec_IsAbelianTable_suh.sx1_0 table0 gv1 gv2 gv3 gv4 gv5 i7) = (spec_IsAbelianTable_suh.a1_0 N (fun d0 d1 => K (.tup [.bool (d0), .int .i64 (d1)]) [⟨false, .hdr 1 gv1 gv2 gv3 gv4 none⟩, ⟨false, .flat 0 (.ints .i64 gv5)⟩]) (fun i7 => L0 (spec_IsAbelianTable_suh.st0 table0 gv1 gv2 gv3 gv4 gv5 i7)) ((spec_IsAbelianTable_suh.k0 N K gv1 gv2 gv3 gv4 gv5) (.exit 0) (spec_IsAbelianTable_suh.sx0_0 gv1 gv2 gv3 gv4 gv5)) i7) := by
  have h := spec_IsAbelianTable_suh.a1_0_gen N K L0 (spec_IsAbelianTable_suh.k0 N K gv1 gv2 gv3 gv4 gv5) table0 gv1 gv2 gv3 gv4 gv5 i7
  rw [spec_IsAbelianTable_suh.k0_mix] at h
  exact h
theorem spec_IsAbelianTable_suh.b0_gen {ρ : Type} (N : Nat) (K : AV → Heap → Option ρ) (L0 : St → Option ρ) (kv : XE → St → Option ρ) (table0 : Nat) (gv1 : Nat) (gv2 : Nat) (gv3 : Nat → Nat) (gv4 : Nat → Nat) (gv5 : Nat → Int) (i7 : Int) :
    xcode (E20 N) ents spec_IsAbelianTable_suh.kp 2 N (cL (cK (cB (cA (cB (cB spec_IsAbelianTable_suh.bd)))))) 0 (spec_IsAbelianTable_suh.st0 table0 gv1 gv2 gv3 gv4 gv5 i7) (roundK spec_IsAbelianTable_suh.kp 2 0 L0 (mixK (spec_IsAbelianTable_suh.fin N K gv1 gv2 gv3 gv4 gv5 .ret) kv)) = (spec_IsAbelianTable_suh.b0 N (fun d0 d1 => K (.tup [.bool (d0), .int .i64 (d1)]) [⟨false, .hdr 1 gv1 gv2 gv3 gv4 none⟩, ⟨false, .flat 0 (.ints .i64 gv5)⟩]) (fun j8 => xloop (xcode (E20 N) ents spec_IsAbelianTable_suh.kp 2 N (cL (cK (cB (cK (cA (cB (cL (cK (cB (cA (cB (cB spec_IsAbelianTable_suh.bd)))))))))))) 2) spec_IsAbelianTable_suh.kp 2 2 N (spec_IsAbelianTable_suh.st1 table0 gv1 gv2 gv3 gv4 gv5 i7 j8) (spec_IsAbelianTable_suh.k1g N L0 (mixK (spec_IsAbelianTable_suh.fin N K gv1 gv2 gv3 gv4 gv5 .ret) kv))) (fun i7 => L0 (spec_IsAbelianTable_suh.st0 table0 gv1 gv2 gv3 gv4 gv5 i7)) (kv (.exit 0) (spec_IsAbelianTable_suh.sx0_0 gv1 gv2 gv3 gv4 gv5)) table0 i7) := by kernel_rfl
theorem spec_IsAbelianTable_suh.b0_eq {ρ : Type} (N : Nat) (K : AV → Heap → Option ρ) (L0 : St → Option ρ) (table0 : Nat) (gv1 : Nat) (gv2 : Nat) (gv3 : Nat → Nat) (gv4 : Nat → Nat) (gv5 : Nat → Int) (i7 : Int) :
    xcode (E20 N) ents spec_IsAbelianTable_suh.kp 2 N (cL (cK (cB (cA (cB (cB spec_IsAbelianTable_suh.bd)))))) 0 (spec_IsAbelianTable_suh.st0 table0 gv1 gv2 gv3 gv4 gv5 i7) (roundK spec_IsAbelianTable_suh.kp 2 0 L0 (spec_IsAbelianTable_suh.k0 N K gv1 gv2 gv3 gv4 gv5)) = (spec_IsAbelianTable_suh.b0 N (fun d0 d1 => K (.tup [.bool (d0), .int .i64 (d1)]) [⟨false, .hdr 1 gv1 gv2 gv3 gv4 none⟩, ⟨false, .flat 0 (.ints .i64 gv5)⟩]) (fun j8 => xloop (xcode (E20 N) ents spec_IsAbelianTable_suh.kp 2 N (cL (cK (cB (cK (cA (cB (cL (cK (cB (cA (cB (cB spec_IsAbelianTable_suh.bd)))))))))))) 2) spec_IsAbelianTable_suh.kp 2 2 N (spec_IsAbelianTable_suh.st1 table0 gv1 gv2 gv3 gv4 gv5 i7 j8) (spec_IsAbelianTable_suh.k1g N L0 (spec_IsAbelianTable_suh.k0 N K gv1 gv2 gv3 gv4 gv5))) (fun i7 => L0 (spec_IsAbelianTable_suh.st0 table0 gv1 gv2 gv3 gv4 gv5 i7)) ((spec_IsAbelianTable_suh.k0 N K gv1 gv2 gv3 gv4 gv5) (.exit 0) (spec_IsAbelianTable_suh.sx0_0 gv1 gv2 gv3 gv4 gv5)) table0 i7) := by
  have h := spec_IsAbelianTable_suh.b0_gen N K L0 (spec_IsAbelianTable_suh.k0 N K gv1 gv2 gv3 gv4 gv5) table0 gv1 gv2 gv3 gv4 gv5 i7
  rw [spec_IsAbelianTable_suh.k0_mix] at h
  exact h
theorem spec_IsAbelianTable_suh.a0_0_eq {ρ : Type} (N : Nat) (K : AV → Heap → Option ρ) (gv1 : Nat) (gv2 : Nat) (gv3 : Nat → Nat) (gv4 : Nat → Nat) (gv5 : Nat → Int) :
    (spec_IsAbelianTable_suh.k0 N K gv1 gv2 gv3 gv4 gv5) (.exit 0) (spec_IsAbelianTable_suh.sx0_0 gv1 gv2 gv3 gv4 gv5) = (spec_IsAbelianTable_suh.a0_0 N (fun d0 d1 => K (.tup [.bool (d0), .int .i64 (d1)]) [⟨false, .hdr 1 gv1 gv2 gv3 gv4 none⟩, ⟨false, .flat 0 (.ints .i64 gv5)⟩])) := by kernel_rfl
theorem spec_IsAbelianTable_suh.l1_eq {ρ : Type} (N : Nat) (K : AV → Heap → Option ρ) (L0 : St → Option ρ) (table0 : Nat) (gv1 : Nat) (gv2 : Nat) (gv3 : Nat → Nat) (gv4 : Nat → Nat) (gv5 : Nat → Int) (i7 : Int) :
    ∀ (m : Nat) (j8 : Int), xloop (xcode (E20 N) ents spec_IsAbelianTable_suh.kp 2 N (cL (cK (cB (cK (cA (cB (cL (cK (cB (cA (cB (cB spec_IsAbelianTable_suh.bd)))))))))))) 2) spec_IsAbelianTable_suh.kp 2 2 m (spec_IsAbelianTable_suh.st1 table0 gv1 gv2 gv3 gv4 gv5 i7 j8) (spec_IsAbelianTable_suh.k1g N L0 (spec_IsAbelianTable_suh.k0 N K gv1 gv2 gv3 gv4 gv5)) = (spec_IsAbelianTable_suh.l1 N (fun d0 d1 => K (.tup [.bool (d0), .int .i64 (d1)]) [⟨false, .hdr 1 gv1 gv2 gv3 gv4 none⟩, ⟨false, .flat 0 (.ints .i64 gv5)⟩]) table0 gv3 gv4 gv5 i7 ((spec_IsAbelianTable_suh.k1g N L0 (spec_IsAbelianTable_suh.k0 N K gv1 gv2 gv3 gv4 gv5)) (.exit 2) (spec_IsAbelianTable_suh.sx1_0 table0 gv1 gv2 gv3 gv4 gv5 i7)) m j8) := by
  intro m
  induction m with
  | zero => intros; rfl
  | succ m ih =>
    intro j8
    refine (spec_IsAbelianTable_suh.b1_eq N K L0 (fun s => xloop (xcode (E20 N) ents spec_IsAbelianTable_suh.kp 2 N (cL (cK (cB (cK (cA (cB (cL (cK (cB (cA (cB (cB spec_IsAbelianTable_suh.bd)))))))))))) 2) spec_IsAbelianTable_suh.kp 2 2 m s (spec_IsAbelianTable_suh.k1g N L0 (spec_IsAbelianTable_suh.k0 N K gv1 gv2 gv3 gv4 gv5))) table0 gv1 gv2 gv3 gv4 gv5 i7 j8).trans ?_
    simp only [ih]
    kernel_rfl
theorem spec_IsAbelianTable_suh.l0_eq {ρ : Type} (N : Nat) (K : AV → Heap → Option ρ) (table0 : Nat) (gv1 : Nat) (gv2 : Nat) (gv3 : Nat → Nat) (gv4 : Nat → Nat) (gv5 : Nat → Int) :
    ∀ (m : Nat) (i7 : Int), xloop (xcode (E20 N) ents spec_IsAbelianTable_suh.kp 2 N (cL (cK (cB (cA (cB (cB spec_IsAbelianTable_suh.bd)))))) 0) spec_IsAbelianTable_suh.kp 2 0 m (spec_IsAbelianTable_suh.st0 table0 gv1 gv2 gv3 gv4 gv5 i7) (spec_IsAbelianTable_suh.k0 N K gv1 gv2 gv3 gv4 gv5) = (spec_IsAbelianTable_suh.l0 N (fun d0 d1 => K (.tup [.bool (d0), .int .i64 (d1)]) [⟨false, .hdr 1 gv1 gv2 gv3 gv4 none⟩, ⟨false, .flat 0 (.ints .i64 gv5)⟩]) table0 gv3 gv4 gv5 ((spec_IsAbelianTable_suh.k0 N K gv1 gv2 gv3 gv4 gv5) (.exit 0) (spec_IsAbelianTable_suh.sx0_0 gv1 gv2 gv3 gv4 gv5)) m i7) := by
  intro m
  induction m with
  | zero => intros; rfl
  | succ m ih =>
    intro i7
    refine (spec_IsAbelianTable_suh.b0_eq N K (fun s => xloop (xcode (E20 N) ents spec_IsAbelianTable_suh.kp 2 N (cL (cK (cB (cA (cB (cB spec_IsAbelianTable_suh.bd)))))) 0) spec_IsAbelianTable_suh.kp 2 0 m s (spec_IsAbelianTable_suh.k0 N K gv1 gv2 gv3 gv4 gv5)) table0 gv1 gv2 gv3 gv4 gv5 i7).trans ?_
    simp only [ih, spec_IsAbelianTable_suh.l1_eq, spec_IsAbelianTable_suh.a1_0_eq]
    kernel_rfl
theorem spec_IsAbelianTable_suh.s_eq {ρ : Type} (N : Nat) (K : AV → Heap → Option ρ) (table0 : Nat) (gv1 : Nat) (gv2 : Nat) (gv3 : Nat → Nat) (gv4 : Nat → Nat) (gv5 : Nat → Int) :
    xbody (E20 N) ents spec_IsAbelianTable_suh.kp N Try.f13 spec_IsAbelianTable_suh.bd [.slice true 0 0 table0 .unk 1] [⟨false, .hdr 1 gv1 gv2 gv3 gv4 none⟩, ⟨false, .flat 0 (.ints .i64 gv5)⟩] K = (spec_IsAbelianTable_suh.s N (fun d0 d1 => K (.tup [.bool (d0), .int .i64 (d1)]) [⟨false, .hdr 1 gv1 gv2 gv3 gv4 none⟩, ⟨false, .flat 0 (.ints .i64 gv5)⟩]) (fun i7 => xloop (xcode (E20 N) ents spec_IsAbelianTable_suh.kp 2 N (cL (cK (cB (cA (cB (cB spec_IsAbelianTable_suh.bd)))))) 0) spec_IsAbelianTable_suh.kp 2 0 N (spec_IsAbelianTable_suh.st0 table0 gv1 gv2 gv3 gv4 gv5 i7) (spec_IsAbelianTable_suh.k0 N K gv1 gv2 gv3 gv4 gv5)) table0 gv2 gv3 gv4 gv5) := by kernel_rfl
theorem spec_IsAbelianTable_suh.eqb {ρ : Type} (N : Nat) (K : AV → Heap → Option ρ) (table0 : Nat) (gv1 : Nat) (gv2 : Nat) (gv3 : Nat → Nat) (gv4 : Nat → Nat) (gv5 : Nat → Int) :
    xbody (E20 N) ents spec_IsAbelianTable_suh.kp N Try.f13 spec_IsAbelianTable_suh.bd [.slice true 0 0 table0 .unk 1] [⟨false, .hdr 1 gv1 gv2 gv3 gv4 none⟩, ⟨false, .flat 0 (.ints .i64 gv5)⟩] K = (spec_IsAbelianTable_suh.bdy N (fun d0 d1 => K (.tup [.bool (d0), .int .i64 (d1)]) [⟨false, .hdr 1 gv1 gv2 gv3 gv4 none⟩, ⟨false, .flat 0 (.ints .i64 gv5)⟩]) table0 gv1 gv2 gv3 gv4 gv5) := by
  refine (spec_IsAbelianTable_suh.s_eq N K table0 gv1 gv2 gv3 gv4 gv5).trans ?_
  simp only [spec_IsAbelianTable_suh.l0_eq, spec_IsAbelianTable_suh.a0_0_eq]
  kernel_rfl
theorem spec_IsAbelianTable_suh.eq {ρ : Type} (N : Nat) (K : AV → Heap → Option ρ) (table0 : Nat) (gv1 : Nat) (gv2 : Nat) (gv3 : Nat → Nat) (gv4 : Nat → Nat) (gv5 : Nat → Int) :
    xbody (E20 N) ents spec_IsAbelianTable_suh.kp N Try.f13 spec_IsAbelianTable_suh.bd [.slice true 0 0 table0 .unk 1] [⟨false, .hdr 1 gv1 gv2 gv3 gv4 none⟩, ⟨false, .flat 0 (.ints .i64 gv5)⟩] K = (spec_IsAbelianTable_suh N (fun d0 d1 => K (.tup [.bool (d0), .int .i64 (d1)]) [⟨false, .hdr 1 gv1 gv2 gv3 gv4 none⟩, ⟨false, .flat 0 (.ints .i64 gv5)⟩]) table0 gv1 gv2 gv3 gv4 gv5) :=
  (spec_IsAbelianTable_suh.eqb N K table0 gv1 gv2 gv3 gv4 gv5).trans (spec_IsAbelianTable_suh.opq _ _ _ _ _ _ _ _).symm
def spec_IsAbelianTable_suh.en (N : Nat) (ρ : Type) : List AV → Heap → (AV → Heap → Option ρ) → Option ρ
  | [.slice true 0 0 table0 .unk 1], [⟨false, .hdr 1 gv1 gv2 gv3 gv4 none⟩, ⟨false, .flat 0 (.ints .i64 gv5)⟩], K => (spec_IsAbelianTable_suh N (fun d0 d1 => K (.tup [.bool (d0), .int .i64 (d1)]) [⟨false, .hdr 1 gv1 gv2 gv3 gv4 none⟩, ⟨false, .flat 0 (.ints .i64 gv5)⟩]) table0 gv1 gv2 gv3 gv4 gv5)
  | _, _, _ => none
theorem spec_IsAbelianTable_suh.en_ok (N : Nat) (hE : EnvOk (E20 N) ents) (ρ : Type) (args : List AV) (sh : Heap) (K : AV → Heap → Option ρ) (r : ρ) (h : spec_IsAbelianTable_suh.en N ρ args sh K = some r) : ∃ v sh', K v sh' = some r ∧ FnOk (E20 N).P 13 args sh v sh' := by
  unfold spec_IsAbelianTable_suh.en at h
  split at h
  · exact fn_ok hE (kp := spec_IsAbelianTable_suh.kp) (N := N) Try.func13 (c := spec_IsAbelianTable_suh.bd) (by kernel_rfl) ((spec_IsAbelianTable_suh.eq N _ _ _ _ _ _ _).trans h)
  · cases h
def E21 (N : Nat) : Env := (E20 N).add 13 (spec_IsAbelianTable_suh.en N)
theorem E21_ok (N : Nat) : EnvOk (E21 N) ents := Env.add_ok (E20_ok N) (spec_IsAbelianTable_suh.en_ok N (E20_ok N))
def impl_IsAbelianTable_suh.kp : Keeps := ⟨[(0, [0, 10, 11], [], []), (2, [0, 4, 10, 11, 15, 16], [], [])], [(0, [], [], []), (2, [0, 10, 11], [], [])], []⟩
def impl_IsAbelianTable_suh.bd : Code := bodyOf Try.f14
def impl_IsAbelianTable_suh.fin {ρ : Type} (N : Nat) (K : AV → Heap → Option ρ) (gv1 : Nat) (gv2 : Nat) (gv3 : Nat → Nat) (gv4 : Nat → Nat) (gv5 : Nat → Int) : XE → St → Option ρ := finK (E21 N) impl_IsAbelianTable_suh.kp.fins Try.f14 [⟨false, .hdr 1 gv1 gv2 gv3 gv4 none⟩, ⟨false, .flat 0 (.ints .i64 gv5)⟩] K
def impl_IsAbelianTable_suh.k0 {ρ : Type} (N : Nat) (K : AV → Heap → Option ρ) (gv1 : Nat) (gv2 : Nat) (gv3 : Nat → Nat) (gv4 : Nat → Nat) (gv5 : Nat → Int) : XE → St → Option ρ := (blockK impl_IsAbelianTable_suh.kp 2 0 (seqK (xcode (E21 N) ents impl_IsAbelianTable_suh.kp 2 N (cB (cB (cB impl_IsAbelianTable_suh.bd))) 0) (impl_IsAbelianTable_suh.fin N K gv1 gv2 gv3 gv4 gv5)))
theorem impl_IsAbelianTable_suh.k0_mix {ρ : Type} (N : Nat) (K : AV → Heap → Option ρ) (gv1 : Nat) (gv2 : Nat) (gv3 : Nat → Nat) (gv4 : Nat → Nat) (gv5 : Nat → Int) : mixK (impl_IsAbelianTable_suh.fin N K gv1 gv2 gv3 gv4 gv5 .ret) (impl_IsAbelianTable_suh.k0 N K gv1 gv2 gv3 gv4 gv5) = (impl_IsAbelianTable_suh.k0 N K gv1 gv2 gv3 gv4 gv5) := by
  funext e s; cases e <;> kernel_rfl
def impl_IsAbelianTable_suh.st0 (table0 : Nat) (gv1 : Nat) (gv2 : Nat) (gv3 : Nat → Nat) (gv4 : Nat → Nat) (gv5 : Nat → Int) (x7 : Int) : St := ⟨sl 36 [(0, .slice true 0 0 table0 .unk 1), (10, .int .i64 ((table0 : Int))), (11, .int .i64 (x7))], [⟨false, .hdr 1 gv1 gv2 gv3 gv4 none⟩, ⟨false, .flat 0 (.ints .i64 gv5)⟩]⟩
def impl_IsAbelianTable_suh.sx0_0 (gv1 : Nat) (gv2 : Nat) (gv3 : Nat → Nat) (gv4 : Nat → Nat) (gv5 : Nat → Int) : St := ⟨sl 36 [], [⟨false, .hdr 1 gv1 gv2 gv3 gv4 none⟩, ⟨false, .flat 0 (.ints .i64 gv5)⟩]⟩
def impl_IsAbelianTable_suh.k1g {ρ : Type} (N : Nat) (L0 : St → Option ρ) (kv : XE → St → Option ρ) : XE → St → Option ρ := (blockK impl_IsAbelianTable_suh.kp 2 2 (blockK impl_IsAbelianTable_suh.kp 2 1 (seqK (xcode (E21 N) ents impl_IsAbelianTable_suh.kp 2 N (cB (cB (cB (cL (cK (cB (cA (cB (cB impl_IsAbelianTable_suh.bd))))))))) 0) (roundK impl_IsAbelianTable_suh.kp 2 0 L0 kv))))
theorem impl_IsAbelianTable_suh.k1_mix {ρ : Type} (N : Nat) (K : AV → Heap → Option ρ) (L0 : St → Option ρ) (gv1 : Nat) (gv2 : Nat) (gv3 : Nat → Nat) (gv4 : Nat → Nat) (gv5 : Nat → Int) : mixK (impl_IsAbelianTable_suh.fin N K gv1 gv2 gv3 gv4 gv5 .ret) (impl_IsAbelianTable_suh.k1g N L0 (impl_IsAbelianTable_suh.k0 N K gv1 gv2 gv3 gv4 gv5)) = (impl_IsAbelianTable_suh.k1g N L0 (impl_IsAbelianTable_suh.k0 N K gv1 gv2 gv3 gv4 gv5)) := by
  funext e s; cases e <;> kernel_rfl
def impl_IsAbelianTable_suh.st1 (table0 : Nat) (gv1 : Nat) (gv2 : Nat) (gv3 : Nat → Nat) (gv4 : Nat → Nat) (gv5 : Nat → Int) (x7 : Int) (x8 : Int) : St := ⟨sl 36 [(0, .slice true 0 0 table0 .unk 1), (4, .int .i64 (x7)), (10, .int .i64 ((table0 : Int))), (11, .int .i64 (x7)), (15, .int .i64 ((table0 : Int))), (16, .int .i64 (x8))], [⟨false, .hdr 1 gv1 gv2 gv3 gv4 none⟩, ⟨false, .flat 0 (.ints .i64 gv5)⟩]⟩
def impl_IsAbelianTable_suh.sx1_0 (table0 : Nat) (gv1 : Nat) (gv2 : Nat) (gv3 : Nat → Nat) (gv4 : Nat → Nat) (gv5 : Nat → Int) (x7 : Int) : St := ⟨sl 36 [(0, .slice true 0 0 table0 .unk 1), (10, .int .i64 ((table0 : Int))), (11, .int .i64 (x7))], [⟨false, .hdr 1 gv1 gv2 gv3 gv4 none⟩, ⟨false, .flat 0 (.ints .i64 gv5)⟩]⟩
theorem impl_IsAbelianTable_suh.b1_gen {ρ : Type} (N : Nat) (K : AV → Heap → Option ρ) (L1 : St → Option ρ) (kv : XE → St → Option ρ) (table0 : Nat) (gv1 : Nat) (gv2 : Nat) (gv3 : Nat → Nat) (gv4 : Nat → Nat) (gv5 : Nat → Int) (x7 : Int) (x8 : Int) :
    xcode (E21 N) ents impl_IsAbelianTable_suh.kp 2 N (cL (cK (cB (cB (cK (cA (cB (cB (cL (cK (cB (cA (cB (cB impl_IsAbelianTable_suh.bd)))))))))))))) 2 (impl_IsAbelianTable_suh.st1 table0 gv1 gv2 gv3 gv4 gv5 x7 x8) (roundK impl_IsAbelianTable_suh.kp 2 2 L1 (mixK (impl_IsAbelianTable_suh.fin N K gv1 gv2 gv3 gv4 gv5 .ret) kv)) = (impl_IsAbelianTable_suh.b1 N (fun d0 d1 => K (.tup [.bool (d0), .int .i64 (d1)]) [⟨false, .hdr 1 gv1 gv2 gv3 gv4 none⟩, ⟨false, .flat 0 (.ints .i64 gv5)⟩]) (fun x8 => L1 (impl_IsAbelianTable_suh.st1 table0 gv1 gv2 gv3 gv4 gv5 x7 x8)) (kv (.exit 2) (impl_IsAbelianTable_suh.sx1_0 table0 gv1 gv2 gv3 gv4 gv5 x7)) table0 gv3 gv4 gv5 x7 x8) := by kernel_rfl
theorem impl_IsAbelianTable_suh.b1_eq {ρ : Type} (N : Nat) (K : AV → Heap → Option ρ) (L0 : St → Option ρ) (L1 : St → Option ρ) (table0 : Nat) (gv1 : Nat) (gv2 : Nat) (gv3 : Nat → Nat) (gv4 : Nat → Nat) (gv5 : Nat → Int) (x7 : Int) (x8 : Int) :
    xcode (E21 N) ents impl_IsAbelianTable_suh.kp 2 N (cL (cK (cB (cB (cK (cA (cB (cB (cL (cK (cB (cA (cB (cB impl_IsAbelianTable_suh.bd)))))))))))))) 2 (impl_IsAbelianTable_suh.st1 table0 gv1 gv2 gv3 gv4 gv5 x7 x8) (roundK impl_IsAbelianTable_suh.kp 2 2 L1 (impl_IsAbelianTable_suh.k1g N L0 (impl_IsAbelianTable_suh.k0 N K gv1 gv2 gv3 gv4 gv5))) = (impl_IsAbelianTable_suh.b1 N (fun d0 d1 => K (.tup [.bool (d0), .int .i64 (d1)]) [⟨false, .hdr 1 gv1 gv2 gv3 gv4 none⟩, ⟨false, .flat 0 (.ints .i64 gv5)⟩]) (fun x8 => L1 (impl_IsAbelianTable_suh.st1 table0 gv1 gv2 gv3 gv4 gv5 x7 x8)) ((impl_IsAbelianTable_suh.k1g N L0 (impl_IsAbelianTable_suh.k0 N K gv1 gv2 gv3 gv4 gv5)) (.exit 2) (impl_IsAbelianTable_suh.sx1_0 table0 gv1 gv2 gv3 gv4 gv5 x7)) table0 gv3 gv4 gv5 x7 x8) := by
  have h := impl_IsAbelianTable_suh.b1_gen N K L1 (impl_IsAbelianTable_suh.k1g N L0 (impl_IsAbelianTable_suh.k0 N K gv1 gv2 gv3 gv4 gv5)) table0 gv1 gv2 gv3 gv4 gv5 x7 x8
  rw [impl_IsAbelianTable_suh.k1_mix] at h
  exact h
theorem impl_IsAbelianTable_suh.a1_0_gen {ρ : Type} (N : Nat) (K : AV → Heap → Option ρ) (L0 : St → Option ρ) (kv : XE → St → Option ρ) (table0 : Nat) (gv1 : Nat) (gv2 : Nat) (gv3 : Nat → Nat) (gv4 : Nat → Nat) (gv5 : Nat → Int) (x7 : Int) :
    (impl_IsAbelianTable_suh.k1g N L0 (mixK (impl_IsAbelianTable_suh.fin N K gv1 gv2 gv3 gv4 gv5 .ret) kv)) (.exit 2) (impl_IsAbelianTable_suh.sx1_0 table0 gv1 gv2 gv3 gv4 gv5 x7) = (impl_IsAbelianTable_suh.a1_0 N (fun d0 d1 => K (.tup [.bool (d0), .int .i64 (d1)]) [⟨false, .hdr 1 gv1 gv2 gv3 gv4 none⟩, ⟨false, .flat 0 (.ints .i64 gv5)⟩]) (fun x7 => L0 (impl_IsAbelianTable_suh.st0 table0 gv1 gv2 gv3 gv4 gv5 x7)) (kv (.exit 0) (impl_IsAbelianTable_suh.sx0_0 gv1 gv2 gv3 gv4 gv5)) x7) := by kernel_rfl
theorem impl_IsAbelianTable_suh.a1_0_eq {ρ : Type} (N : Nat) (K : AV → Heap → Option ρ) (L0 : St → Option ρ) (table0 : Nat) (gv1 : Nat) (gv2 : Nat) (gv3 : Nat → Nat) (gv4 : Nat → Nat) (gv5 : Nat → Int) (x7 : Int) :
    (impl_IsAbelianTable_suh.k1g N L0 (impl_IsAbelianTable_suh.k0 N K gv1 gv2 gv3 gv4 gv5)) (.exit 2) (impl_IsAbelianTable_suh.sx1_0 table0 gv1 gv2 gv3 gv4 gv5 x7) = (impl_IsAbelianTable_suh.a1_0 N (fun d0 d1 => K (.tup [.bool (d0), .int .i64 (d1)]) [⟨false, .hdr 1 gv1 gv2 gv3 gv4 none⟩, ⟨false, .flat 0 (.ints .i64 gv5)⟩]) (fun x7 => L0 (impl_IsAbelianTable_suh.st0 table0 gv1 gv2 gv3 gv4 gv5 x7)) ((impl_IsAbelianTable_suh.k0 N K gv1 gv2 gv3 gv4 gv5) (.exit 0) (impl_IsAbelianTable_suh.sx0_0 gv1 gv2 gv3 gv4 gv5)) x7) := by
  have h := impl_IsAbelianTable_suh.a1_0_gen N K L0 (impl_IsAbelianTable_suh.k0 N K gv1 gv2 gv3 gv4 gv5) table0 gv1 gv2 gv3 gv4 gv5 x7
  rw [impl_IsAbelianTable_suh.k0_mix] at h
  exact h
theorem impl_IsAbelianTable_suh.b0_gen {ρ : Type} (N : Nat) (K : AV → Heap → Option ρ) (L0 : St → Option ρ) (kv : XE → St → Option ρ) (table0 : Nat) (gv1 : Nat) (gv2 : Nat) (gv3 : Nat → Nat) (gv4 : Nat → Nat) (gv5 : Nat → Int) (x7 : Int) :
    xcode (E21 N) ents impl_IsAbelianTable_suh.kp 2 N (cL (cK (cB (cA (cB (cB impl_IsAbelianTable_suh.bd)))))) 0 (impl_IsAbelianTable_suh.st0 table0 gv1 gv2 gv3 gv4 gv5 x7) (roundK impl_IsAbelianTable_suh.kp 2 0 L0 (mixK (impl_IsAbelianTable_suh.fin N K gv1 gv2 gv3 gv4 gv5 .ret) kv)) = (impl_IsAbelianTable_suh.b0 N (fun d0 d1 => K (.tup [.bool (d0), .int .i64 (d1)]) [⟨false, .hdr 1 gv1 gv2 gv3 gv4 none⟩, ⟨false, .flat 0 (.ints .i64 gv5)⟩]) (fun x8 => xloop (xcode (E21 N) ents impl_IsAbelianTable_suh.kp 2 N (cL (cK (cB (cB (cK (cA (cB (cB (cL (cK (cB (cA (cB (cB impl_IsAbelianTable_suh.bd)))))))))))))) 2) impl_IsAbelianTable_suh.kp 2 2 N (impl_IsAbelianTable_suh.st1 table0 gv1 gv2 gv3 gv4 gv5 x7 x8) (impl_IsAbelianTable_suh.k1g N L0 (mixK (impl_IsAbelianTable_suh.fin N K gv1 gv2 gv3 gv4 gv5 .ret) kv))) (fun x7 => L0 (impl_IsAbelianTable_suh.st0 table0 gv1 gv2 gv3 gv4 gv5 x7)) (kv (.exit 0) (impl_IsAbelianTable_suh.sx0_0 gv1 gv2 gv3 gv4 gv5)) table0 x7) := by kernel_rfl
theorem impl_IsAbelianTable_suh.b0_eq {ρ : Type} (N : Nat) (K : AV → Heap → Option ρ) (L0 : St → Option ρ) (table0 : Nat) (gv1 : Nat) (gv2 : Nat) (gv3 : Nat → Nat) (gv4 : Nat → Nat) (gv5 : Nat → Int) (x7 : Int) :
    xcode (E21 N) ents impl_IsAbelianTable_suh.kp 2 N (cL (cK (cB (cA (cB (cB impl_IsAbelianTable_suh.bd)))))) 0 (impl_IsAbelianTable_suh.st0 table0 gv1 gv2 gv3 gv4 gv5 x7) (roundK impl_IsAbelianTable_suh.kp 2 0 L0 (impl_IsAbelianTable_suh.k0 N K gv1 gv2 gv3 gv4 gv5)) = (impl_IsAbelianTable_suh.b0 N (fun d0 d1 => K (.tup [.bool (d0), .int .i64 (d1)]) [⟨false, .hdr 1 gv1 gv2 gv3 gv4 none⟩, ⟨false, .flat 0 (.ints .i64 gv5)⟩]) (fun x8 => xloop (xcode (E21 N) ents impl_IsAbelianTable_suh.kp 2 N (cL (cK (cB (cB (cK (cA (cB (cB (cL (cK (cB (cA (cB (cB impl_IsAbelianTable_suh.bd)))))))))))))) 2) impl_IsAbelianTable_suh.kp 2 2 N (impl_IsAbelianTable_suh.st1 table0 gv1 gv2 gv3 gv4 gv5 x7 x8) (impl_IsAbelianTable_suh.k1g N L0 (impl_IsAbelianTable_suh.k0 N K gv1 gv2 gv3 gv4 gv5))) (fun x7 => L0 (impl_IsAbelianTable_suh.st0 table0 gv1 gv2 gv3 gv4 gv5 x7)) ((impl_IsAbelianTable_suh.k0 N K gv1 gv2 gv3 gv4 gv5) (.exit 0) (impl_IsAbelianTable_suh.sx0_0 gv1 gv2 gv3 gv4 gv5)) table0 x7) := by
  have h := impl_IsAbelianTable_suh.b0_gen N K L0 (impl_IsAbelianTable_suh.k0 N K gv1 gv2 gv3 gv4 gv5) table0 gv1 gv2 gv3 gv4 gv5 x7
  rw [impl_IsAbelianTable_suh.k0_mix] at h
  exact h
theorem impl_IsAbelianTable_suh.a0_0_eq {ρ : Type} (N : Nat) (K : AV → Heap → Option ρ) (gv1 : Nat) (gv2 : Nat) (gv3 : Nat → Nat) (gv4 : Nat → Nat) (gv5 : Nat → Int) :
    (impl_IsAbelianTable_suh.k0 N K gv1 gv2 gv3 gv4 gv5) (.exit 0) (impl_IsAbelianTable_suh.sx0_0 gv1 gv2 gv3 gv4 gv5) = (impl_IsAbelianTable_suh.a0_0 N (fun d0 d1 => K (.tup [.bool (d0), .int .i64 (d1)]) [⟨false, .hdr 1 gv1 gv2 gv3 gv4 none⟩, ⟨false, .flat 0 (.ints .i64 gv5)⟩])) := by kernel_rfl
theorem impl_IsAbelianTable_suh.l1_eq {ρ : Type} (N : Nat) (K : AV → Heap → Option ρ) (L0 : St → Option ρ) (table0 : Nat) (gv1 : Nat) (gv2 : Nat) (gv3 : Nat → Nat) (gv4 : Nat → Nat) (gv5 : Nat → Int) (x7 : Int) :
    ∀ (m : Nat) (x8 : Int), xloop (xcode (E21 N) ents impl_IsAbelianTable_suh.kp 2 N (cL (cK (cB (cB (cK (cA (cB (cB (cL (cK (cB (cA (cB (cB impl_IsAbelianTable_suh.bd)))))))))))))) 2) impl_IsAbelianTable_suh.kp 2 2 m (impl_IsAbelianTable_suh.st1 table0 gv1 gv2 gv3 gv4 gv5 x7 x8) (impl_IsAbelianTable_suh.k1g N L0 (impl_IsAbelianTable_suh.k0 N K gv1 gv2 gv3 gv4 gv5)) = (impl_IsAbelianTable_suh.l1 N (fun d0 d1 => K (.tup [.bool (d0), .int .i64 (d1)]) [⟨false, .hdr 1 gv1 gv2 gv3 gv4 none⟩, ⟨false, .flat 0 (.ints .i64 gv5)⟩]) table0 gv3 gv4 gv5 x7 ((impl_IsAbelianTable_suh.k1g N L0 (impl_IsAbelianTable_suh.k0 N K gv1 gv2 gv3 gv4 gv5)) (.exit 2) (impl_IsAbelianTable_suh.sx1_0 table0 gv1 gv2 gv3 gv4 gv5 x7)) m x8) := by
  intro m
  induction m with
  | zero => intros; rfl
  | succ m ih =>
    intro x8
    refine (impl_IsAbelianTable_suh.b1_eq N K L0 (fun s => xloop (xcode (E21 N) ents impl_IsAbelianTable_suh.kp 2 N (cL (cK (cB (cB (cK (cA (cB (cB (cL (cK (cB (cA (cB (cB impl_IsAbelianTable_suh.bd)))))))))))))) 2) impl_IsAbelianTable_suh.kp 2 2 m s (impl_IsAbelianTable_suh.k1g N L0 (impl_IsAbelianTable_suh.k0 N K gv1 gv2 gv3 gv4 gv5))) table0 gv1 gv2 gv3 gv4 gv5 x7 x8).trans ?_
    simp only [ih]
    kernel_rfl
theorem impl_IsAbelianTable_suh.l0_eq {ρ : Type} (N : Nat) (K : AV → Heap → Option ρ) (table0 : Nat) (gv1 : Nat) (gv2 : Nat) (gv3 : Nat → Nat) (gv4 : Nat → Nat) (gv5 : Nat → Int) :
    ∀ (m : Nat) (x7 : Int), xloop (xcode (E21 N) ents impl_IsAbelianTable_suh.kp 2 N (cL (cK (cB (cA (cB (cB impl_IsAbelianTable_suh.bd)))))) 0) impl_IsAbelianTable_suh.kp 2 0 m (impl_IsAbelianTable_suh.st0 table0 gv1 gv2 gv3 gv4 gv5 x7) (impl_IsAbelianTable_suh.k0 N K gv1 gv2 gv3 gv4 gv5) = (impl_IsAbelianTable_suh.l0 N (fun d0 d1 => K (.tup [.bool (d0), .int .i64 (d1)]) [⟨false, .hdr 1 gv1 gv2 gv3 gv4 none⟩, ⟨false, .flat 0 (.ints .i64 gv5)⟩]) table0 gv3 gv4 gv5 ((impl_IsAbelianTable_suh.k0 N K gv1 gv2 gv3 gv4 gv5) (.exit 0) (impl_IsAbelianTable_suh.sx0_0 gv1 gv2 gv3 gv4 gv5)) m x7) := by
  intro m
  induction m with
  | zero => intros; rfl
  | succ m ih =>
    intro x7
    refine (impl_IsAbelianTable_suh.b0_eq N K (fun s => xloop (xcode (E21 N) ents impl_IsAbelianTable_suh.kp 2 N (cL (cK (cB (cA (cB (cB impl_IsAbelianTable_suh.bd)))))) 0) impl_IsAbelianTable_suh.kp 2 0 m s (impl_IsAbelianTable_suh.k0 N K gv1 gv2 gv3 gv4 gv5)) table0 gv1 gv2 gv3 gv4 gv5 x7).trans ?_
    simp only [ih, impl_IsAbelianTable_suh.l1_eq, impl_IsAbelianTable_suh.a1_0_eq]
    kernel_rfl
theorem impl_IsAbelianTable_suh.s_eq {ρ : Type} (N : Nat) (K : AV → Heap → Option ρ) (table0 : Nat) (gv1 : Nat) (gv2 : Nat) (gv3 : Nat → Nat) (gv4 : Nat → Nat) (gv5 : Nat → Int) :
    xbody (E21 N) ents impl_IsAbelianTable_suh.kp N Try.f14 impl_IsAbelianTable_suh.bd [.slice true 0 0 table0 .unk 1] [⟨false, .hdr 1 gv1 gv2 gv3 gv4 none⟩, ⟨false, .flat 0 (.ints .i64 gv5)⟩] K = (impl_IsAbelianTable_suh.s N (fun d0 d1 => K (.tup [.bool (d0), .int .i64 (d1)]) [⟨false, .hdr 1 gv1 gv2 gv3 gv4 none⟩, ⟨false, .flat 0 (.ints .i64 gv5)⟩]) (fun x7 => xloop (xcode (E21 N) ents impl_IsAbelianTable_suh.kp 2 N (cL (cK (cB (cA (cB (cB impl_IsAbelianTable_suh.bd)))))) 0) impl_IsAbelianTable_suh.kp 2 0 N (impl_IsAbelianTable_suh.st0 table0 gv1 gv2 gv3 gv4 gv5 x7) (impl_IsAbelianTable_suh.k0 N K gv1 gv2 gv3 gv4 gv5)) table0 gv2 gv3 gv4 gv5) := by kernel_rfl
theorem impl_IsAbelianTable_suh.eqb {ρ : Type} (N : Nat) (K : AV → Heap → Option ρ) (table0 : Nat) (gv1 : Nat) (gv2 : Nat) (gv3 : Nat → Nat) (gv4 : Nat → Nat) (gv5 : Nat → Int) :
    xbody (E21 N) ents impl_IsAbelianTable_suh.kp N Try.f14 impl_IsAbelianTable_suh.bd [.slice true 0 0 table0 .unk 1] [⟨false, .hdr 1 gv1 gv2 gv3 gv4 none⟩, ⟨false, .flat 0 (.ints .i64 gv5)⟩] K = (impl_IsAbelianTable_suh.bdy N (fun d0 d1 => K (.tup [.bool (d0), .int .i64 (d1)]) [⟨false, .hdr 1 gv1 gv2 gv3 gv4 none⟩, ⟨false, .flat 0 (.ints .i64 gv5)⟩]) table0 gv1 gv2 gv3 gv4 gv5) := by
  refine (impl_IsAbelianTable_suh.s_eq N K table0 gv1 gv2 gv3 gv4 gv5).trans ?_
  simp only [impl_IsAbelianTable_suh.l0_eq, impl_IsAbelianTable_suh.a0_0_eq]
  kernel_rfl
theorem impl_IsAbelianTable_suh.eq {ρ : Type} (N : Nat) (K : AV → Heap → Option ρ) (table0 : Nat) (gv1 : Nat) (gv2 : Nat) (gv3 : Nat → Nat) (gv4 : Nat → Nat) (gv5 : Nat → Int) :
    xbody (E21 N) ents impl_IsAbelianTable_suh.kp N Try.f14 impl_IsAbelianTable_suh.bd [.slice true 0 0 table0 .unk 1] [⟨false, .hdr 1 gv1 gv2 gv3 gv4 none⟩, ⟨false, .flat 0 (.ints .i64 gv5)⟩] K = (impl_IsAbelianTable_suh N (fun d0 d1 => K (.tup [.bool (d0), .int .i64 (d1)]) [⟨false, .hdr 1 gv1 gv2 gv3 gv4 none⟩, ⟨false, .flat 0 (.ints .i64 gv5)⟩]) table0 gv1 gv2 gv3 gv4 gv5) :=
  (impl_IsAbelianTable_suh.eqb N K table0 gv1 gv2 gv3 gv4 gv5).trans (impl_IsAbelianTable_suh.opq _ _ _ _ _ _ _ _).symm
def impl_IsAbelianTable_suh.en (N : Nat) (ρ : Type) : List AV → Heap → (AV → Heap → Option ρ) → Option ρ
  | [.slice true 0 0 table0 .unk 1], [⟨false, .hdr 1 gv1 gv2 gv3 gv4 none⟩, ⟨false, .flat 0 (.ints .i64 gv5)⟩], K => (impl_IsAbelianTable_suh N (fun d0 d1 => K (.tup [.bool (d0), .int .i64 (d1)]) [⟨false, .hdr 1 gv1 gv2 gv3 gv4 none⟩, ⟨false, .flat 0 (.ints .i64 gv5)⟩]) table0 gv1 gv2 gv3 gv4 gv5)
  | _, _, _ => none
theorem impl_IsAbelianTable_suh.en_ok (N : Nat) (hE : EnvOk (E21 N) ents) (ρ : Type) (args : List AV) (sh : Heap) (K : AV → Heap → Option ρ) (r : ρ) (h : impl_IsAbelianTable_suh.en N ρ args sh K = some r) : ∃ v sh', K v sh' = some r ∧ FnOk (E21 N).P 14 args sh v sh' := by
  unfold impl_IsAbelianTable_suh.en at h
  split at h
  · exact fn_ok hE (kp := impl_IsAbelianTable_suh.kp) (N := N) Try.func14 (c := impl_IsAbelianTable_suh.bd) (by kernel_rfl) ((impl_IsAbelianTable_suh.eq N _ _ _ _ _ _ _).trans h)
  · cases h
def E22 (N : Nat) : Env := (E21 N).add 14 (impl_IsAbelianTable_suh.en N)
theorem E22_ok (N : Nat) : EnvOk (E22 N) ents := Env.add_ok (E21_ok N) (impl_IsAbelianTable_suh.en_ok N (E21_ok N))
def spec_DrawCyclicTable_su.kp : Keeps := ⟨[], [], []⟩
def spec_DrawCyclicTable_su.bd : Code := bodyOf Try.f27
def spec_DrawCyclicTable_su.fin {ρ : Type} (N : Nat) (K : AV → Heap → Option ρ) (gv1 : Nat) (gv2 : Nat → Int) : XE → St → Option ρ := finK (E22 N) spec_DrawCyclicTable_su.kp.fins Try.f27 [⟨false, .flat gv1 (.ints .u8 gv2)⟩] K
theorem spec_DrawCyclicTable_su.eqb {ρ : Type} (N : Nat) (K : AV → Heap → Option ρ) (code0 : Nat) (gv1 : Nat) (gv2 : Nat → Int) :
    xbody (E22 N) ents spec_DrawCyclicTable_su.kp N Try.f27 spec_DrawCyclicTable_su.bd [.slice false 0 0 code0 .unk 1] [⟨false, .flat gv1 (.ints .u8 gv2)⟩] K = (spec_DrawCyclicTable_su.bdy N (fun d0 => K (.int .i64 (d0)) [⟨false, .flat gv1 (.ints .u8 gv2)⟩]) code0 gv1 gv2) := by kernel_rfl
theorem spec_DrawCyclicTable_su.eq {ρ : Type} (N : Nat) (K : AV → Heap → Option ρ) (code0 : Nat) (gv1 : Nat) (gv2 : Nat → Int) :
    xbody (E22 N) ents spec_DrawCyclicTable_su.kp N Try.f27 spec_DrawCyclicTable_su.bd [.slice false 0 0 code0 .unk 1] [⟨false, .flat gv1 (.ints .u8 gv2)⟩] K = (spec_DrawCyclicTable_su N (fun d0 => K (.int .i64 (d0)) [⟨false, .flat gv1 (.ints .u8 gv2)⟩]) code0 gv1 gv2) :=
  (spec_DrawCyclicTable_su.eqb N K code0 gv1 gv2).trans (spec_DrawCyclicTable_su.opq _ _ _ _ _).symm
def spec_DrawCyclicTable_su.en (N : Nat) (ρ : Type) : List AV → Heap → (AV → Heap → Option ρ) → Option ρ
  | [.slice false 0 0 code0 .unk 1], [⟨false, .flat gv1 (.ints .u8 gv2)⟩], K => (spec_DrawCyclicTable_su N (fun d0 => K (.int .i64 (d0)) [⟨false, .flat gv1 (.ints .u8 gv2)⟩]) code0 gv1 gv2)
  | _, _, _ => none
theorem spec_DrawCyclicTable_su.en_ok (N : Nat) (hE : EnvOk (E22 N) ents) (ρ : Type) (args : List AV) (sh : Heap) (K : AV → Heap → Option ρ) (r : ρ) (h : spec_DrawCyclicTable_su.en N ρ args sh K = some r) : ∃ v sh', K v sh' = some r ∧ FnOk (E22 N).P 27 args sh v sh' := by
  unfold spec_DrawCyclicTable_su.en at h
  split at h
  · exact fn_ok hE (kp := spec_DrawCyclicTable_su.kp) (N := N) Try.func27 (c := spec_DrawCyclicTable_su.bd) (by kernel_rfl) ((spec_DrawCyclicTable_su.eq N _ _ _ _).trans h)
  · cases h
def E23 (N : Nat) : Env := (E22 N).add 27 (spec_DrawCyclicTable_su.en N)
theorem E23_ok (N : Nat) : EnvOk (E23 N) ents := Env.add_ok (E22_ok N) (spec_DrawCyclicTable_su.en_ok N (E22_ok N))
def spec_CyclicTable.kp : Keeps := ⟨[], [], [(.slot 2, .unkH .i64)]⟩
def spec_CyclicTable.bd : Code := bodyOf Try.f28
def spec_CyclicTable.fin {ρ : Type} (N : Nat) (K : AV → Heap → Option ρ) : XE → St → Option ρ := finK (E23 N) spec_CyclicTable.kp.fins Try.f28 [] K
theorem spec_CyclicTable.eqb {ρ : Type} (N : Nat) (K : AV → Heap → Option ρ) (nv0 : Int) :
    xbody (E23 N) ents spec_CyclicTable.kp N Try.f28 spec_CyclicTable.bd [.int .i64 (nv0)] [] K = (spec_CyclicTable.bdy N (fun d0 d1 d2 d3 d4 d5 => K (.tup [.slice false 0 0 d0 .unk 1, .int .i64 (d1)]) [⟨true, .hdr 1 0 d2 d3 d4 none⟩, ⟨true, .flat 0 (.ints .i64 d5)⟩]) nv0) := by kernel_rfl
theorem spec_CyclicTable.eq {ρ : Type} (N : Nat) (K : AV → Heap → Option ρ) (nv0 : Int) :
    xbody (E23 N) ents spec_CyclicTable.kp N Try.f28 spec_CyclicTable.bd [.int .i64 (nv0)] [] K = (spec_CyclicTable N (fun d0 d1 d2 d3 d4 d5 => K (.tup [.slice false 0 0 d0 .unk 1, .int .i64 (d1)]) [⟨true, .hdr 1 0 d2 d3 d4 none⟩, ⟨true, .flat 0 (.ints .i64 d5)⟩]) nv0) :=
  (spec_CyclicTable.eqb N K nv0).trans (spec_CyclicTable.opq _ _ _).symm
def spec_CyclicTable.en (N : Nat) (ρ : Type) : List AV → Heap → (AV → Heap → Option ρ) → Option ρ
  | [.int .i64 (nv0)], [], K => (spec_CyclicTable N (fun d0 d1 d2 d3 d4 d5 => K (.tup [.slice false 0 0 d0 .unk 1, .int .i64 (d1)]) [⟨true, .hdr 1 0 d2 d3 d4 none⟩, ⟨true, .flat 0 (.ints .i64 d5)⟩]) nv0)
  | _, _, _ => none
theorem spec_CyclicTable.en_ok (N : Nat) (hE : EnvOk (E23 N) ents) (ρ : Type) (args : List AV) (sh : Heap) (K : AV → Heap → Option ρ) (r : ρ) (h : spec_CyclicTable.en N ρ args sh K = some r) : ∃ v sh', K v sh' = some r ∧ FnOk (E23 N).P 28 args sh v sh' := by
  unfold spec_CyclicTable.en at h
  split at h
  · exact fn_ok hE (kp := spec_CyclicTable.kp) (N := N) Try.func28 (c := spec_CyclicTable.bd) (by kernel_rfl) ((spec_CyclicTable.eq N _ _).trans h)
  · cases h
def E24 (N : Nat) : Env := (E23 N).add 28 (spec_CyclicTable.en N)
theorem E24_ok (N : Nat) : EnvOk (E24 N) ents := Env.add_ok (E23_ok N) (spec_CyclicTable.en_ok N (E23_ok N))
def impl_cyclic_c1.kp : Keeps := ⟨[], [], []⟩
def impl_cyclic_c1.bd : Code := bodyOf Try.f67
def impl_cyclic_c1.fin {ρ : Type} (N : Nat) (K : AV → Heap → Option ρ) (gv2 : Nat → Int) : XE → St → Option ρ := finK (E24 N) impl_cyclic_c1.kp.fins Try.f67 [⟨false, .flat 1 (.ints .i64 gv2)⟩] K
theorem impl_cyclic_c1.eq {ρ : Type} (N : Nat) (K : AV → Heap → Option ρ) (i0 : Int) (j1 : Int) (gv2 : Nat → Int) :
    xbody (E24 N) ents impl_cyclic_c1.kp N Try.f67 impl_cyclic_c1.bd [.int .i64 (i0), .int .i64 (j1), .sptr [(0, 1)]] [⟨false, .flat 1 (.ints .i64 gv2)⟩] K = (impl_cyclic_c1 N (fun d0 => K (.int .i64 (d0)) [⟨false, .flat 1 (.ints .i64 gv2)⟩]) i0 j1 gv2) := by kernel_rfl
def impl_cyclic_c1.en (N : Nat) (ρ : Type) : List AV → Heap → (AV → Heap → Option ρ) → Option ρ
  | [.int .i64 (i0), .int .i64 (j1), .sptr [(0, 1)]], [⟨false, .flat 1 (.ints .i64 gv2)⟩], K => (impl_cyclic_c1 N (fun d0 => K (.int .i64 (d0)) [⟨false, .flat 1 (.ints .i64 gv2)⟩]) i0 j1 gv2)
  | _, _, _ => none
theorem impl_cyclic_c1.en_ok (N : Nat) (hE : EnvOk (E24 N) ents) (ρ : Type) (args : List AV) (sh : Heap) (K : AV → Heap → Option ρ) (r : ρ) (h : impl_cyclic_c1.en N ρ args sh K = some r) : ∃ v sh', K v sh' = some r ∧ FnOk (E24 N).P 67 args sh v sh' := by
  unfold impl_cyclic_c1.en at h
  split at h
  · exact fn_ok hE (kp := impl_cyclic_c1.kp) (N := N) Try.func67 (c := impl_cyclic_c1.bd) (by kernel_rfl) ((impl_cyclic_c1.eq N _ _ _ _).trans h)
  · cases h
def E25 (N : Nat) : Env := (E24 N).add 67 (impl_cyclic_c1.en N)
theorem E25_ok (N : Nat) : EnvOk (E25 N) ents := Env.add_ok (E24_ok N) (impl_cyclic_c1.en_ok N (E24_ok N))
def impl_dihedral_c1.kp : Keeps := ⟨[], [], []⟩
def impl_dihedral_c1.bd : Code := bodyOf Try.f68
def impl_dihedral_c1.fin {ρ : Type} (N : Nat) (K : AV → Heap → Option ρ) (gv2 : Nat → Int) : XE → St → Option ρ := finK (E25 N) impl_dihedral_c1.kp.fins Try.f68 [⟨false, .flat 1 (.ints .i64 gv2)⟩] K
theorem impl_dihedral_c1.eq {ρ : Type} (N : Nat) (K : AV → Heap → Option ρ) (i0 : Int) (j1 : Int) (gv2 : Nat → Int) :
    xbody (E25 N) ents impl_dihedral_c1.kp N Try.f68 impl_dihedral_c1.bd [.int .i64 (i0), .int .i64 (j1), .sptr [(0, 1)]] [⟨false, .flat 1 (.ints .i64 gv2)⟩] K = (impl_dihedral_c1 N (fun d0 => K (.int .i64 (d0)) [⟨false, .flat 1 (.ints .i64 gv2)⟩]) i0 j1 gv2) := by kernel_rfl
def impl_dihedral_c1.en (N : Nat) (ρ : Type) : List AV → Heap → (AV → Heap → Option ρ) → Option ρ
  | [.int .i64 (i0), .int .i64 (j1), .sptr [(0, 1)]], [⟨false, .flat 1 (.ints .i64 gv2)⟩], K => (impl_dihedral_c1 N (fun d0 => K (.int .i64 (d0)) [⟨false, .flat 1 (.ints .i64 gv2)⟩]) i0 j1 gv2)
  | _, _, _ => none
theorem impl_dihedral_c1.en_ok (N : Nat) (hE : EnvOk (E25 N) ents) (ρ : Type) (args : List AV) (sh : Heap) (K : AV → Heap → Option ρ) (r : ρ) (h : impl_dihedral_c1.en N ρ args sh K = some r) : ∃ v sh', K v sh' = some r ∧ FnOk (E25 N).P 68 args sh v sh' := by
  unfold impl_dihedral_c1.en at h
  split at h
  · exact fn_ok hE (kp := impl_dihedral_c1.kp) (N := N) Try.func68 (c := impl_dihedral_c1.bd) (by kernel_rfl) ((impl_dihedral_c1.eq N _ _ _ _).trans h)
  · cases h
def E26 (N : Nat) : Env := (E25 N).add 68 (impl_dihedral_c1.en N)
theorem E26_ok (N : Nat) : EnvOk (E26 N) ents := Env.add_ok (E25_ok N) (impl_dihedral_c1.en_ok N (E25_ok N))
def impl_units.kp : Keeps := ⟨[], [], []⟩
def impl_units.bd : Code := bodyOf Try.f61
def impl_units.fin {ρ : Type} (N : Nat) (K : AV → Heap → Option ρ) : XE → St → Option ρ := finK (E26 N) impl_units.kp.fins Try.f61 [] K
theorem impl_units.eq {ρ : Type} (N : Nat) (K : AV → Heap → Option ρ) (av0 : Int) (bv1 : Int) :
    xbody (E26 N) ents impl_units.kp N Try.f61 impl_units.bd [.int .i64 (av0), .int .i64 (bv1)] [] K = (impl_units N (fun d0 => K (.int .i64 (d0)) []) av0 bv1) := by kernel_rfl
def impl_units.en (N : Nat) (ρ : Type) : List AV → Heap → (AV → Heap → Option ρ) → Option ρ
  | [.int .i64 (av0), .int .i64 (bv1)], [], K => (impl_units N (fun d0 => K (.int .i64 (d0)) []) av0 bv1)
  | _, _, _ => none
theorem impl_units.en_ok (N : Nat) (hE : EnvOk (E26 N) ents) (ρ : Type) (args : List AV) (sh : Heap) (K : AV → Heap → Option ρ) (r : ρ) (h : impl_units.en N ρ args sh K = some r) : ∃ v sh', K v sh' = some r ∧ FnOk (E26 N).P 61 args sh v sh' := by
  unfold impl_units.en at h
  split at h
  · exact fn_ok hE (kp := impl_units.kp) (N := N) Try.func61 (c := impl_units.bd) (by kernel_rfl) ((impl_units.eq N _ _ _).trans h)
  · cases h
def E27 (N : Nat) : Env := (E26 N).add 61 (impl_units.en N)
theorem E27_ok (N : Nat) : EnvOk (E27 N) ents := Env.add_ok (E26_ok N) (impl_units.en_ok N (E26_ok N))
def impl_QuaternionTable_c1.kp : Keeps := ⟨[], [], []⟩
def impl_QuaternionTable_c1.bd : Code := bodyOf Try.f60
def impl_QuaternionTable_c1.fin {ρ : Type} (N : Nat) (K : AV → Heap → Option ρ) : XE → St → Option ρ := finK (E27 N) impl_QuaternionTable_c1.kp.fins Try.f60 [] K
theorem impl_QuaternionTable_c1.eq {ρ : Type} (N : Nat) (K : AV → Heap → Option ρ) (i0 : Int) (j1 : Int) :
    xbody (E27 N) ents impl_QuaternionTable_c1.kp N Try.f60 impl_QuaternionTable_c1.bd [.int .i64 (i0), .int .i64 (j1)] [] K = (impl_QuaternionTable_c1 N (fun d0 => K (.int .i64 (d0)) []) i0 j1) := by kernel_rfl
def impl_QuaternionTable_c1.en (N : Nat) (ρ : Type) : List AV → Heap → (AV → Heap → Option ρ) → Option ρ
  | [.int .i64 (i0), .int .i64 (j1)], [], K => (impl_QuaternionTable_c1 N (fun d0 => K (.int .i64 (d0)) []) i0 j1)
  | _, _, _ => none
theorem impl_QuaternionTable_c1.en_ok (N : Nat) (hE : EnvOk (E27 N) ents) (ρ : Type) (args : List AV) (sh : Heap) (K : AV → Heap → Option ρ) (r : ρ) (h : impl_QuaternionTable_c1.en N ρ args sh K = some r) : ∃ v sh', K v sh' = some r ∧ FnOk (E27 N).P 60 args sh v sh' := by
  unfold impl_QuaternionTable_c1.en at h
  split at h
  · exact fn_ok hE (kp := impl_QuaternionTable_c1.kp) (N := N) Try.func60 (c := impl_QuaternionTable_c1.bd) (by kernel_rfl) ((impl_QuaternionTable_c1.eq N _ _ _).trans h)
  · cases h
def E28 (N : Nat) : Env := (E27 N).add 60 (impl_QuaternionTable_c1.en N)
theorem E28_ok (N : Nat) : EnvOk (E28 N) ents := Env.add_ok (E27_ok N) (impl_QuaternionTable_c1.en_ok N (E27_ok N))
def impl_productTable_c1.kp : Keeps := ⟨[], [], []⟩
def impl_productTable_c1.bd : Code := bodyOf Try.f66
def impl_productTable_c1.fin {ρ : Type} (N : Nat) (K : AV → Heap → Option ρ) (gv2 : Nat → Int) (gv3 : Nat) (gv4 : Nat) (gv5 : Nat) (gv6 : Nat) (gv7 : Nat → Nat) (gv8 : Nat → Nat) (gv9 : Nat) (gv10 : Nat) (gv11 : Nat → Nat) (gv12 : Nat → Nat) (gv13 : Nat → Int) (gv14 : Nat → Int) : XE → St → Option ρ := finK (E28 N) impl_productTable_c1.kp.fins Try.f66 [⟨false, .flat 1 (.ints .i64 gv2)⟩, ⟨false, .avs [.slice true 3 0 gv3 .unk 1]⟩, ⟨false, .avs [.slice true 4 0 gv4 .unk 1]⟩, ⟨false, .hdr 5 gv5 gv6 gv7 gv8 none⟩, ⟨false, .hdr 6 gv9 gv10 gv11 gv12 none⟩, ⟨false, .flat 0 (.ints .i64 gv13)⟩, ⟨false, .flat 0 (.ints .i64 gv14)⟩] K
theorem impl_productTable_c1.eq {ρ : Type} (N : Nat) (K : AV → Heap → Option ρ) (x0 : Int) (y1 : Int) (gv2 : Nat → Int) (gv3 : Nat) (gv4 : Nat) (gv5 : Nat) (gv6 : Nat) (gv7 : Nat → Nat) (gv8 : Nat → Nat) (gv9 : Nat) (gv10 : Nat) (gv11 : Nat → Nat) (gv12 : Nat → Nat) (gv13 : Nat → Int) (gv14 : Nat → Int) :
    xbody (E28 N) ents impl_productTable_c1.kp N Try.f66 impl_productTable_c1.bd [.int .i64 (x0), .int .i64 (y1), .sptr [(0, 1)], .sptr [(1, 1)], .sptr [(2, 1)]] [⟨false, .flat 1 (.ints .i64 gv2)⟩, ⟨false, .avs [.slice true 3 0 gv3 .unk 1]⟩, ⟨false, .avs [.slice true 4 0 gv4 .unk 1]⟩, ⟨false, .hdr 5 gv5 gv6 gv7 gv8 none⟩, ⟨false, .hdr 6 gv9 gv10 gv11 gv12 none⟩, ⟨false, .flat 0 (.ints .i64 gv13)⟩, ⟨false, .flat 0 (.ints .i64 gv14)⟩] K = (impl_productTable_c1 N (fun d0 => K (.int .i64 (d0)) [⟨false, .flat 1 (.ints .i64 gv2)⟩, ⟨false, .avs [.slice true 3 0 gv3 .unk 1]⟩, ⟨false, .avs [.slice true 4 0 gv4 .unk 1]⟩, ⟨false, .hdr 5 gv5 gv6 gv7 gv8 none⟩, ⟨false, .hdr 6 gv9 gv10 gv11 gv12 none⟩, ⟨false, .flat 0 (.ints .i64 gv13)⟩, ⟨false, .flat 0 (.ints .i64 gv14)⟩]) x0 y1 gv2 gv3 gv4 gv5 gv6 gv7 gv8 gv9 gv10 gv11 gv12 gv13 gv14) := by kernel_rfl
def impl_productTable_c1.en (N : Nat) (ρ : Type) : List AV → Heap → (AV → Heap → Option ρ) → Option ρ
  | [.int .i64 (x0), .int .i64 (y1), .sptr [(0, 1)], .sptr [(1, 1)], .sptr [(2, 1)]], [⟨false, .flat 1 (.ints .i64 gv2)⟩, ⟨false, .avs [.slice true 3 0 gv3 .unk 1]⟩, ⟨false, .avs [.slice true 4 0 gv4 .unk 1]⟩, ⟨false, .hdr 5 gv5 gv6 gv7 gv8 none⟩, ⟨false, .hdr 6 gv9 gv10 gv11 gv12 none⟩, ⟨false, .flat 0 (.ints .i64 gv13)⟩, ⟨false, .flat 0 (.ints .i64 gv14)⟩], K => (impl_productTable_c1 N (fun d0 => K (.int .i64 (d0)) [⟨false, .flat 1 (.ints .i64 gv2)⟩, ⟨false, .avs [.slice true 3 0 gv3 .unk 1]⟩, ⟨false, .avs [.slice true 4 0 gv4 .unk 1]⟩, ⟨false, .hdr 5 gv5 gv6 gv7 gv8 none⟩, ⟨false, .hdr 6 gv9 gv10 gv11 gv12 none⟩, ⟨false, .flat 0 (.ints .i64 gv13)⟩, ⟨false, .flat 0 (.ints .i64 gv14)⟩]) x0 y1 gv2 gv3 gv4 gv5 gv6 gv7 gv8 gv9 gv10 gv11 gv12 gv13 gv14)
  | _, _, _ => none
theorem impl_productTable_c1.en_ok (N : Nat) (hE : EnvOk (E28 N) ents) (ρ : Type) (args : List AV) (sh : Heap) (K : AV → Heap → Option ρ) (r : ρ) (h : impl_productTable_c1.en N ρ args sh K = some r) : ∃ v sh', K v sh' = some r ∧ FnOk (E28 N).P 66 args sh v sh' := by
  unfold impl_productTable_c1.en at h
  split at h
  · exact fn_ok hE (kp := impl_productTable_c1.kp) (N := N) Try.func66 (c := impl_productTable_c1.bd) (by kernel_rfl) ((impl_productTable_c1.eq N _ _ _ _ _ _ _ _ _ _ _ _ _ _ _ _).trans h)
  · cases h
def E29 (N : Nat) : Env := (E28 N).add 66 (impl_productTable_c1.en N)
theorem E29_ok (N : Nat) : EnvOk (E29 N) ents := Env.add_ok (E28_ok N) (impl_productTable_c1.en_ok N (E28_ok N))
def impl_tableOf_f.kp : Keeps := ⟨[(0, [0, 1, 5, 10, 11], [], []), (2, [0, 1, 5, 6, 7, 10, 11, 15, 16], [], [])], [(0, [5], [], []), (2, [0, 1, 5, 7, 10, 11], [], [])], []⟩
def impl_tableOf_f.bd : Code := bodyOf Try.f59
def impl_tableOf_f.fin {ρ : Type} (N : Nat) (K : AV → Heap → Option ρ) (gv1 : Nat → Int) : XE → St → Option ρ := finK (E29 N) impl_tableOf_f.kp.fins Try.f59 [⟨false, .flat 1 (.ints .i64 gv1)⟩] K
def impl_tableOf_f.k0 {ρ : Type} (N : Nat) (K : AV → Heap → Option ρ) (gv1 : Nat → Int) : XE → St → Option ρ := (blockK impl_tableOf_f.kp 1 0 (seqK (xcode (E29 N) ents impl_tableOf_f.kp 1 N (cB (cB (cB impl_tableOf_f.bd))) 0) (impl_tableOf_f.fin N K gv1)))
theorem impl_tableOf_f.k0_mix {ρ : Type} (N : Nat) (K : AV → Heap → Option ρ) (gv1 : Nat → Int) : mixK (impl_tableOf_f.fin N K gv1 .ret) (impl_tableOf_f.k0 N K gv1) = (impl_tableOf_f.k0 N K gv1) := by
  funext e s; cases e <;> kernel_rfl
def impl_tableOf_f.st0 (nv0 : Int) (gv1 : Nat → Int) (outv2 : Nat) (x3 : Int) (gv4 : Nat) (gv5 : Nat → Nat) (gv6 : Nat → Nat) (gv7 : Nat → Int) : St := ⟨sl 33 [(0, .int .i64 (nv0)), (1, .fn 67 0 [[(0, 1)]]), (5, .slice true 1 0 outv2 .whole 1), (10, .int .i64 (nv0)), (11, .int .i64 (x3))], [⟨false, .flat 1 (.ints .i64 gv1)⟩, ⟨true, .hdr 2 0 gv4 gv5 gv6 none⟩, ⟨true, .flat 0 (.ints .i64 gv7)⟩]⟩
def impl_tableOf_f.sx0_0 (gv1 : Nat → Int) (ov14 : Nat) (ov15 : Nat) (ov16 : Nat → Nat) (ov17 : Nat → Nat) (ov18 : Nat → Int) : St := ⟨sl 33 [(5, .slice true 1 0 ov14 .whole 1)], [⟨false, .flat 1 (.ints .i64 gv1)⟩, ⟨true, .hdr 2 0 ov15 ov16 ov17 none⟩, ⟨true, .flat 0 (.ints .i64 ov18)⟩]⟩
def impl_tableOf_f.k1g {ρ : Type} (N : Nat) (L0 : St → Option ρ) (kv : XE → St → Option ρ) : XE → St → Option ρ := (blockK impl_tableOf_f.kp 1 2 (seqK (xcode (E29 N) ents impl_tableOf_f.kp 1 N (cB (cB (cB (cK (cA (cB (cB (cL (cK (cB (cA (cB (cB impl_tableOf_f.bd))))))))))))) 1) (blockK impl_tableOf_f.kp 1 1 (seqK (xcode (E29 N) ents impl_tableOf_f.kp 1 N (cB (cB (cB (cL (cK (cB (cA (cB (cB impl_tableOf_f.bd))))))))) 0) (roundK impl_tableOf_f.kp 1 0 L0 kv)))))
theorem impl_tableOf_f.k1_mix {ρ : Type} (N : Nat) (K : AV → Heap → Option ρ) (L0 : St → Option ρ) (gv1 : Nat → Int) : mixK (impl_tableOf_f.fin N K gv1 .ret) (impl_tableOf_f.k1g N L0 (impl_tableOf_f.k0 N K gv1)) = (impl_tableOf_f.k1g N L0 (impl_tableOf_f.k0 N K gv1)) := by
  funext e s; cases e <;> kernel_rfl
def impl_tableOf_f.st1 (nv0 : Int) (gv1 : Nat → Int) (outv2 : Nat) (x3 : Int) (gv4 : Nat) (gv5 : Nat → Nat) (gv6 : Nat → Nat) (gv7 : Nat → Int) (row8 : Nat) (x9 : Int) (gv10 : Nat → Int) : St := ⟨sl 33 [(0, .int .i64 (nv0)), (1, .fn 67 0 [[(0, 1)]]), (5, .slice true 1 0 outv2 .whole 1), (6, .int .i64 (x3)), (7, .slice true 2 0 row8 .whole 1), (10, .int .i64 (nv0)), (11, .int .i64 (x3)), (15, .int .i64 (nv0)), (16, .int .i64 (x9))], [⟨false, .flat 1 (.ints .i64 gv1)⟩, ⟨true, .hdr 3 0 gv4 gv5 gv6 none⟩, ⟨true, .flat 0 (.ints .i64 gv10)⟩, ⟨true, .flat 0 (.ints .i64 gv7)⟩]⟩
def impl_tableOf_f.sx1_0 (nv0 : Int) (gv1 : Nat → Int) (outv2 : Nat) (x3 : Int) (gv4 : Nat) (gv5 : Nat → Nat) (gv6 : Nat → Nat) (gv7 : Nat → Int) (ov12 : Nat) (ov13 : Nat → Int) : St := ⟨sl 33 [(0, .int .i64 (nv0)), (1, .fn 67 0 [[(0, 1)]]), (5, .slice true 1 0 outv2 .whole 1), (7, .slice true 2 0 ov12 .whole 1), (10, .int .i64 (nv0)), (11, .int .i64 (x3))], [⟨false, .flat 1 (.ints .i64 gv1)⟩, ⟨true, .hdr 3 0 gv4 gv5 gv6 none⟩, ⟨true, .flat 0 (.ints .i64 ov13)⟩, ⟨true, .flat 0 (.ints .i64 gv7)⟩]⟩
theorem impl_tableOf_f.b1_gen {ρ : Type} (N : Nat) (K : AV → Heap → Option ρ) (L1 : St → Option ρ) (kv : XE → St → Option ρ) (nv0 : Int) (gv1 : Nat → Int) (outv2 : Nat) (x3 : Int) (gv4 : Nat) (gv5 : Nat → Nat) (gv6 : Nat → Nat) (gv7 : Nat → Int) (row8 : Nat) (x9 : Int) (gv10 : Nat → Int) :
    xcode (E29 N) ents impl_tableOf_f.kp 1 N (cL (cK (cB (cA (cB (cB (cK (cA (cB (cB (cL (cK (cB (cA (cB (cB impl_tableOf_f.bd)))))))))))))))) 2 (impl_tableOf_f.st1 nv0 gv1 outv2 x3 gv4 gv5 gv6 gv7 row8 x9 gv10) (roundK impl_tableOf_f.kp 1 2 L1 (mixK (impl_tableOf_f.fin N K gv1 .ret) kv)) = (impl_tableOf_f.b1 N (fun d0 d1 d2 d3 d4 => K (.slice true 1 0 d0 .whole 1) [⟨false, .flat 1 (.ints .i64 gv1)⟩, ⟨true, .hdr 2 0 d1 d2 d3 none⟩, ⟨true, .flat 0 (.ints .i64 d4)⟩]) (fun row8 x9 gv10 => L1 (impl_tableOf_f.st1 nv0 gv1 outv2 x3 gv4 gv5 gv6 gv7 row8 x9 gv10)) (fun ov12 ov13 => kv (.exit 2) (impl_tableOf_f.sx1_0 nv0 gv1 outv2 x3 gv4 gv5 gv6 gv7 ov12 ov13)) nv0 gv1 x3 row8 x9 gv10) := by kernel_rfl
theorem impl_tableOf_f.b1_eq {ρ : Type} (N : Nat) (K : AV → Heap → Option ρ) (L0 : St → Option ρ) (L1 : St → Option ρ) (nv0 : Int) (gv1 : Nat → Int) (outv2 : Nat) (x3 : Int) (gv4 : Nat) (gv5 : Nat → Nat) (gv6 : Nat → Nat) (gv7 : Nat → Int) (row8 : Nat) (x9 : Int) (gv10 : Nat → Int) :
    xcode (E29 N) ents impl_tableOf_f.kp 1 N (cL (cK (cB (cA (cB (cB (cK (cA (cB (cB (cL (cK (cB (cA (cB (cB impl_tableOf_f.bd)))))))))))))))) 2 (impl_tableOf_f.st1 nv0 gv1 outv2 x3 gv4 gv5 gv6 gv7 row8 x9 gv10) (roundK impl_tableOf_f.kp 1 2 L1 (impl_tableOf_f.k1g N L0 (impl_tableOf_f.k0 N K gv1))) = (impl_tableOf_f.b1 N (fun d0 d1 d2 d3 d4 => K (.slice true 1 0 d0 .whole 1) [⟨false, .flat 1 (.ints .i64 gv1)⟩, ⟨true, .hdr 2 0 d1 d2 d3 none⟩, ⟨true, .flat 0 (.ints .i64 d4)⟩]) (fun row8 x9 gv10 => L1 (impl_tableOf_f.st1 nv0 gv1 outv2 x3 gv4 gv5 gv6 gv7 row8 x9 gv10)) (fun ov12 ov13 => (impl_tableOf_f.k1g N L0 (impl_tableOf_f.k0 N K gv1)) (.exit 2) (impl_tableOf_f.sx1_0 nv0 gv1 outv2 x3 gv4 gv5 gv6 gv7 ov12 ov13)) nv0 gv1 x3 row8 x9 gv10) := by
  have h := impl_tableOf_f.b1_gen N K L1 (impl_tableOf_f.k1g N L0 (impl_tableOf_f.k0 N K gv1)) nv0 gv1 outv2 x3 gv4 gv5 gv6 gv7 row8 x9 gv10
  rw [impl_tableOf_f.k1_mix] at h
  exact h
theorem impl_tableOf_f.a1_0_gen {ρ : Type} (N : Nat) (K : AV → Heap → Option ρ) (L0 : St → Option ρ) (kv : XE → St → Option ρ) (nv0 : Int) (gv1 : Nat → Int) (outv2 : Nat) (x3 : Int) (gv4 : Nat) (gv5 : Nat → Nat) (gv6 : Nat → Nat) (gv7 : Nat → Int) (ov12 : Nat) (ov13 : Nat → Int) :
    (impl_tableOf_f.k1g N L0 (mixK (impl_tableOf_f.fin N K gv1 .ret) kv)) (.exit 2) (impl_tableOf_f.sx1_0 nv0 gv1 outv2 x3 gv4 gv5 gv6 gv7 ov12 ov13) = (impl_tableOf_f.a1_0 N (fun d0 d1 d2 d3 d4 => K (.slice true 1 0 d0 .whole 1) [⟨false, .flat 1 (.ints .i64 gv1)⟩, ⟨true, .hdr 2 0 d1 d2 d3 none⟩, ⟨true, .flat 0 (.ints .i64 d4)⟩]) (fun outv2 x3 gv4 gv5 gv6 gv7 => L0 (impl_tableOf_f.st0 nv0 gv1 outv2 x3 gv4 gv5 gv6 gv7)) (fun ov14 ov15 ov16 ov17 ov18 => kv (.exit 0) (impl_tableOf_f.sx0_0 gv1 ov14 ov15 ov16 ov17 ov18)) outv2 x3 gv4 gv5 gv6 gv7 ov12 ov13) := by kernel_rfl
theorem impl_tableOf_f.a1_0_eq {ρ : Type} (N : Nat) (K : AV → Heap → Option ρ) (L0 : St → Option ρ) (nv0 : Int) (gv1 : Nat → Int) (outv2 : Nat) (x3 : Int) (gv4 : Nat) (gv5 : Nat → Nat) (gv6 : Nat → Nat) (gv7 : Nat → Int) (ov12 : Nat) (ov13 : Nat → Int) :
    (impl_tableOf_f.k1g N L0 (impl_tableOf_f.k0 N K gv1)) (.exit 2) (impl_tableOf_f.sx1_0 nv0 gv1 outv2 x3 gv4 gv5 gv6 gv7 ov12 ov13) = (impl_tableOf_f.a1_0 N (fun d0 d1 d2 d3 d4 => K (.slice true 1 0 d0 .whole 1) [⟨false, .flat 1 (.ints .i64 gv1)⟩, ⟨true, .hdr 2 0 d1 d2 d3 none⟩, ⟨true, .flat 0 (.ints .i64 d4)⟩]) (fun outv2 x3 gv4 gv5 gv6 gv7 => L0 (impl_tableOf_f.st0 nv0 gv1 outv2 x3 gv4 gv5 gv6 gv7)) (fun ov14 ov15 ov16 ov17 ov18 => (impl_tableOf_f.k0 N K gv1) (.exit 0) (impl_tableOf_f.sx0_0 gv1 ov14 ov15 ov16 ov17 ov18)) outv2 x3 gv4 gv5 gv6 gv7 ov12 ov13) := by
  have h := impl_tableOf_f.a1_0_gen N K L0 (impl_tableOf_f.k0 N K gv1) nv0 gv1 outv2 x3 gv4 gv5 gv6 gv7 ov12 ov13
  rw [impl_tableOf_f.k0_mix] at h
  exact h
theorem impl_tableOf_f.b0_gen {ρ : Type} (N : Nat) (K : AV → Heap → Option ρ) (L0 : St → Option ρ) (kv : XE → St → Option ρ) (nv0 : Int) (gv1 : Nat → Int) (outv2 : Nat) (x3 : Int) (gv4 : Nat) (gv5 : Nat → Nat) (gv6 : Nat → Nat) (gv7 : Nat → Int) :
    xcode (E29 N) ents impl_tableOf_f.kp 1 N (cL (cK (cB (cA (cB (cB impl_tableOf_f.bd)))))) 0 (impl_tableOf_f.st0 nv0 gv1 outv2 x3 gv4 gv5 gv6 gv7) (roundK impl_tableOf_f.kp 1 0 L0 (mixK (impl_tableOf_f.fin N K gv1 .ret) kv)) = (impl_tableOf_f.b0 N (fun d0 d1 d2 d3 d4 => K (.slice true 1 0 d0 .whole 1) [⟨false, .flat 1 (.ints .i64 gv1)⟩, ⟨true, .hdr 2 0 d1 d2 d3 none⟩, ⟨true, .flat 0 (.ints .i64 d4)⟩]) (fun row8 x9 gv10 => xloop (xcode (E29 N) ents impl_tableOf_f.kp 1 N (cL (cK (cB (cA (cB (cB (cK (cA (cB (cB (cL (cK (cB (cA (cB (cB impl_tableOf_f.bd)))))))))))))))) 2) impl_tableOf_f.kp 1 2 N (impl_tableOf_f.st1 nv0 gv1 outv2 x3 gv4 gv5 gv6 gv7 row8 x9 gv10) (impl_tableOf_f.k1g N L0 (mixK (impl_tableOf_f.fin N K gv1 .ret) kv))) (fun outv2 x3 gv4 gv5 gv6 gv7 => L0 (impl_tableOf_f.st0 nv0 gv1 outv2 x3 gv4 gv5 gv6 gv7)) (fun ov14 ov15 ov16 ov17 ov18 => kv (.exit 0) (impl_tableOf_f.sx0_0 gv1 ov14 ov15 ov16 ov17 ov18)) nv0 outv2 x3 gv4 gv5 gv6 gv7) := by kernel_rfl
theorem impl_tableOf_f.b0_eq {ρ : Type} (N : Nat) (K : AV → Heap → Option ρ) (L0 : St → Option ρ) (nv0 : Int) (gv1 : Nat → Int) (outv2 : Nat) (x3 : Int) (gv4 : Nat) (gv5 : Nat → Nat) (gv6 : Nat → Nat) (gv7 : Nat → Int) :
    xcode (E29 N) ents impl_tableOf_f.kp 1 N (cL (cK (cB (cA (cB (cB impl_tableOf_f.bd)))))) 0 (impl_tableOf_f.st0 nv0 gv1 outv2 x3 gv4 gv5 gv6 gv7) (roundK impl_tableOf_f.kp 1 0 L0 (impl_tableOf_f.k0 N K gv1)) = (impl_tableOf_f.b0 N (fun d0 d1 d2 d3 d4 => K (.slice true 1 0 d0 .whole 1) [⟨false, .flat 1 (.ints .i64 gv1)⟩, ⟨true, .hdr 2 0 d1 d2 d3 none⟩, ⟨true, .flat 0 (.ints .i64 d4)⟩]) (fun row8 x9 gv10 => xloop (xcode (E29 N) ents impl_tableOf_f.kp 1 N (cL (cK (cB (cA (cB (cB (cK (cA (cB (cB (cL (cK (cB (cA (cB (cB impl_tableOf_f.bd)))))))))))))))) 2) impl_tableOf_f.kp 1 2 N (impl_tableOf_f.st1 nv0 gv1 outv2 x3 gv4 gv5 gv6 gv7 row8 x9 gv10) (impl_tableOf_f.k1g N L0 (impl_tableOf_f.k0 N K gv1))) (fun outv2 x3 gv4 gv5 gv6 gv7 => L0 (impl_tableOf_f.st0 nv0 gv1 outv2 x3 gv4 gv5 gv6 gv7)) (fun ov14 ov15 ov16 ov17 ov18 => (impl_tableOf_f.k0 N K gv1) (.exit 0) (impl_tableOf_f.sx0_0 gv1 ov14 ov15 ov16 ov17 ov18)) nv0 outv2 x3 gv4 gv5 gv6 gv7) := by
  have h := impl_tableOf_f.b0_gen N K L0 (impl_tableOf_f.k0 N K gv1) nv0 gv1 outv2 x3 gv4 gv5 gv6 gv7
  rw [impl_tableOf_f.k0_mix] at h
  exact h
theorem impl_tableOf_f.a0_0_eq {ρ : Type} (N : Nat) (K : AV → Heap → Option ρ) (gv1 : Nat → Int) (ov14 : Nat) (ov15 : Nat) (ov16 : Nat → Nat) (ov17 : Nat → Nat) (ov18 : Nat → Int) :
    (impl_tableOf_f.k0 N K gv1) (.exit 0) (impl_tableOf_f.sx0_0 gv1 ov14 ov15 ov16 ov17 ov18) = (impl_tableOf_f.a0_0 N (fun d0 d1 d2 d3 d4 => K (.slice true 1 0 d0 .whole 1) [⟨false, .flat 1 (.ints .i64 gv1)⟩, ⟨true, .hdr 2 0 d1 d2 d3 none⟩, ⟨true, .flat 0 (.ints .i64 d4)⟩]) ov14 ov15 ov16 ov17 ov18) := by kernel_rfl
theorem impl_tableOf_f.l1_eq {ρ : Type} (N : Nat) (K : AV → Heap → Option ρ) (L0 : St → Option ρ) (nv0 : Int) (gv1 : Nat → Int) (outv2 : Nat) (x3 : Int) (gv4 : Nat) (gv5 : Nat → Nat) (gv6 : Nat → Nat) (gv7 : Nat → Int) :
    ∀ (m : Nat) (row8 : Nat) (x9 : Int) (gv10 : Nat → Int), xloop (xcode (E29 N) ents impl_tableOf_f.kp 1 N (cL (cK (cB (cA (cB (cB (cK (cA (cB (cB (cL (cK (cB (cA (cB (cB impl_tableOf_f.bd)))))))))))))))) 2) impl_tableOf_f.kp 1 2 m (impl_tableOf_f.st1 nv0 gv1 outv2 x3 gv4 gv5 gv6 gv7 row8 x9 gv10) (impl_tableOf_f.k1g N L0 (impl_tableOf_f.k0 N K gv1)) = (impl_tableOf_f.l1 N (fun d0 d1 d2 d3 d4 => K (.slice true 1 0 d0 .whole 1) [⟨false, .flat 1 (.ints .i64 gv1)⟩, ⟨true, .hdr 2 0 d1 d2 d3 none⟩, ⟨true, .flat 0 (.ints .i64 d4)⟩]) nv0 gv1 x3 (fun ov12 ov13 => (impl_tableOf_f.k1g N L0 (impl_tableOf_f.k0 N K gv1)) (.exit 2) (impl_tableOf_f.sx1_0 nv0 gv1 outv2 x3 gv4 gv5 gv6 gv7 ov12 ov13)) m row8 x9 gv10) := by
  intro m
  induction m with
  | zero => intros; rfl
  | succ m ih =>
    intro row8 x9 gv10
    refine (impl_tableOf_f.b1_eq N K L0 (fun s => xloop (xcode (E29 N) ents impl_tableOf_f.kp 1 N (cL (cK (cB (cA (cB (cB (cK (cA (cB (cB (cL (cK (cB (cA (cB (cB impl_tableOf_f.bd)))))))))))))))) 2) impl_tableOf_f.kp 1 2 m s (impl_tableOf_f.k1g N L0 (impl_tableOf_f.k0 N K gv1))) nv0 gv1 outv2 x3 gv4 gv5 gv6 gv7 row8 x9 gv10).trans ?_
    simp only [ih]
    kernel_rfl
theorem impl_tableOf_f.l0_eq {ρ : Type} (N : Nat) (K : AV → Heap → Option ρ) (nv0 : Int) (gv1 : Nat → Int) :
    ∀ (m : Nat) (outv2 : Nat) (x3 : Int) (gv4 : Nat) (gv5 : Nat → Nat) (gv6 : Nat → Nat) (gv7 : Nat → Int), xloop (xcode (E29 N) ents impl_tableOf_f.kp 1 N (cL (cK (cB (cA (cB (cB impl_tableOf_f.bd)))))) 0) impl_tableOf_f.kp 1 0 m (impl_tableOf_f.st0 nv0 gv1 outv2 x3 gv4 gv5 gv6 gv7) (impl_tableOf_f.k0 N K gv1) = (impl_tableOf_f.l0 N (fun d0 d1 d2 d3 d4 => K (.slice true 1 0 d0 .whole 1) [⟨false, .flat 1 (.ints .i64 gv1)⟩, ⟨true, .hdr 2 0 d1 d2 d3 none⟩, ⟨true, .flat 0 (.ints .i64 d4)⟩]) nv0 gv1 (fun ov14 ov15 ov16 ov17 ov18 => (impl_tableOf_f.k0 N K gv1) (.exit 0) (impl_tableOf_f.sx0_0 gv1 ov14 ov15 ov16 ov17 ov18)) m outv2 x3 gv4 gv5 gv6 gv7) := by
  intro m
  induction m with
  | zero => intros; rfl
  | succ m ih =>
    intro outv2 x3 gv4 gv5 gv6 gv7
    refine (impl_tableOf_f.b0_eq N K (fun s => xloop (xcode (E29 N) ents impl_tableOf_f.kp 1 N (cL (cK (cB (cA (cB (cB impl_tableOf_f.bd)))))) 0) impl_tableOf_f.kp 1 0 m s (impl_tableOf_f.k0 N K gv1)) nv0 gv1 outv2 x3 gv4 gv5 gv6 gv7).trans ?_
    simp only [ih, impl_tableOf_f.l1_eq, impl_tableOf_f.a1_0_eq]
    kernel_rfl
theorem impl_tableOf_f.s_eq {ρ : Type} (N : Nat) (K : AV → Heap → Option ρ) (nv0 : Int) (gv1 : Nat → Int) :
    xbody (E29 N) ents impl_tableOf_f.kp N Try.f59 impl_tableOf_f.bd [.int .i64 (nv0), .fn 67 0 [[(0, 1)]]] [⟨false, .flat 1 (.ints .i64 gv1)⟩] K = (impl_tableOf_f.s N (fun d0 d1 d2 d3 d4 => K (.slice true 1 0 d0 .whole 1) [⟨false, .flat 1 (.ints .i64 gv1)⟩, ⟨true, .hdr 2 0 d1 d2 d3 none⟩, ⟨true, .flat 0 (.ints .i64 d4)⟩]) (fun outv2 x3 gv4 gv5 gv6 gv7 => xloop (xcode (E29 N) ents impl_tableOf_f.kp 1 N (cL (cK (cB (cA (cB (cB impl_tableOf_f.bd)))))) 0) impl_tableOf_f.kp 1 0 N (impl_tableOf_f.st0 nv0 gv1 outv2 x3 gv4 gv5 gv6 gv7) (impl_tableOf_f.k0 N K gv1))) := by kernel_rfl
theorem impl_tableOf_f.eq {ρ : Type} (N : Nat) (K : AV → Heap → Option ρ) (nv0 : Int) (gv1 : Nat → Int) :
    xbody (E29 N) ents impl_tableOf_f.kp N Try.f59 impl_tableOf_f.bd [.int .i64 (nv0), .fn 67 0 [[(0, 1)]]] [⟨false, .flat 1 (.ints .i64 gv1)⟩] K = (impl_tableOf_f N (fun d0 d1 d2 d3 d4 => K (.slice true 1 0 d0 .whole 1) [⟨false, .flat 1 (.ints .i64 gv1)⟩, ⟨true, .hdr 2 0 d1 d2 d3 none⟩, ⟨true, .flat 0 (.ints .i64 d4)⟩]) nv0 gv1) := by
  refine (impl_tableOf_f.s_eq N K nv0 gv1).trans ?_
  simp only [impl_tableOf_f.l0_eq, impl_tableOf_f.a0_0_eq]
  kernel_rfl
def impl_tableOf_f_v2.kp : Keeps := ⟨[(0, [0, 1, 5, 10, 11], [], []), (2, [0, 1, 5, 6, 7, 10, 11, 15, 16], [], [])], [(0, [5], [], []), (2, [0, 1, 5, 7, 10, 11], [], [])], []⟩
def impl_tableOf_f_v2.bd : Code := bodyOf Try.f59
def impl_tableOf_f_v2.fin {ρ : Type} (N : Nat) (K : AV → Heap → Option ρ) (gv1 : Nat → Int) : XE → St → Option ρ := finK (E29 N) impl_tableOf_f_v2.kp.fins Try.f59 [⟨false, .flat 1 (.ints .i64 gv1)⟩] K
def impl_tableOf_f_v2.k0 {ρ : Type} (N : Nat) (K : AV → Heap → Option ρ) (gv1 : Nat → Int) : XE → St → Option ρ := (blockK impl_tableOf_f_v2.kp 1 0 (seqK (xcode (E29 N) ents impl_tableOf_f_v2.kp 1 N (cB (cB (cB impl_tableOf_f_v2.bd))) 0) (impl_tableOf_f_v2.fin N K gv1)))
theorem impl_tableOf_f_v2.k0_mix {ρ : Type} (N : Nat) (K : AV → Heap → Option ρ) (gv1 : Nat → Int) : mixK (impl_tableOf_f_v2.fin N K gv1 .ret) (impl_tableOf_f_v2.k0 N K gv1) = (impl_tableOf_f_v2.k0 N K gv1) := by
  funext e s; cases e <;> kernel_rfl
def impl_tableOf_f_v2.st0 (nv0 : Int) (gv1 : Nat → Int) (outv2 : Nat) (x3 : Int) (gv4 : Nat) (gv5 : Nat → Nat) (gv6 : Nat → Nat) (gv7 : Nat → Int) : St := ⟨sl 33 [(0, .int .i64 (nv0)), (1, .fn 68 0 [[(0, 1)]]), (5, .slice true 1 0 outv2 .whole 1), (10, .int .i64 (nv0)), (11, .int .i64 (x3))], [⟨false, .flat 1 (.ints .i64 gv1)⟩, ⟨true, .hdr 2 0 gv4 gv5 gv6 none⟩, ⟨true, .flat 0 (.ints .i64 gv7)⟩]⟩
def impl_tableOf_f_v2.sx0_0 (gv1 : Nat → Int) (ov14 : Nat) (ov15 : Nat) (ov16 : Nat → Nat) (ov17 : Nat → Nat) (ov18 : Nat → Int) : St := ⟨sl 33 [(5, .slice true 1 0 ov14 .whole 1)], [⟨false, .flat 1 (.ints .i64 gv1)⟩, ⟨true, .hdr 2 0 ov15 ov16 ov17 none⟩, ⟨true, .flat 0 (.ints .i64 ov18)⟩]⟩
def impl_tableOf_f_v2.k1g {ρ : Type} (N : Nat) (L0 : St → Option ρ) (kv : XE → St → Option ρ) : XE → St → Option ρ := (blockK impl_tableOf_f_v2.kp 1 2 (seqK (xcode (E29 N) ents impl_tableOf_f_v2.kp 1 N (cB (cB (cB (cK (cA (cB (cB (cL (cK (cB (cA (cB (cB impl_tableOf_f_v2.bd))))))))))))) 1) (blockK impl_tableOf_f_v2.kp 1 1 (seqK (xcode (E29 N) ents impl_tableOf_f_v2.kp 1 N (cB (cB (cB (cL (cK (cB (cA (cB (cB impl_tableOf_f_v2.bd))))))))) 0) (roundK impl_tableOf_f_v2.kp 1 0 L0 kv)))))
theorem impl_tableOf_f_v2.k1_mix {ρ : Type} (N : Nat) (K : AV → Heap → Option ρ) (L0 : St → Option ρ) (gv1 : Nat → Int) : mixK (impl_tableOf_f_v2.fin N K gv1 .ret) (impl_tableOf_f_v2.k1g N L0 (impl_tableOf_f_v2.k0 N K gv1)) = (impl_tableOf_f_v2.k1g N L0 (impl_tableOf_f_v2.k0 N K gv1)) := by
  funext e s; cases e <;> kernel_rfl
def impl_tableOf_f_v2.st1 (nv0 : Int) (gv1 : Nat → Int) (outv2 : Nat) (x3 : Int) (gv4 : Nat) (gv5 : Nat → Nat) (gv6 : Nat → Nat) (gv7 : Nat → Int) (row8 : Nat) (x9 : Int) (gv10 : Nat → Int) : St := ⟨sl 33 [(0, .int .i64 (nv0)), (1, .fn 68 0 [[(0, 1)]]), (5, .slice true 1 0 outv2 .whole 1), (6, .int .i64 (x3)), (7, .slice true 2 0 row8 .whole 1), (10, .int .i64 (nv0)), (11, .int .i64 (x3)), (15, .int .i64 (nv0)), (16, .int .i64 (x9))], [⟨false, .flat 1 (.ints .i64 gv1)⟩, ⟨true, .hdr 3 0 gv4 gv5 gv6 none⟩, ⟨true, .flat 0 (.ints .i64 gv10)⟩, ⟨true, .flat 0 (.ints .i64 gv7)⟩]⟩
def impl_tableOf_f_v2.sx1_0 (nv0 : Int) (gv1 : Nat → Int) (outv2 : Nat) (x3 : Int) (gv4 : Nat) (gv5 : Nat → Nat) (gv6 : Nat → Nat) (gv7 : Nat → Int) (ov12 : Nat) (ov13 : Nat → Int) : St := ⟨sl 33 [(0, .int .i64 (nv0)), (1, .fn 68 0 [[(0, 1)]]), (5, .slice true 1 0 outv2 .whole 1), (7, .slice true 2 0 ov12 .whole 1), (10, .int .i64 (nv0)), (11, .int .i64 (x3))], [⟨false, .flat 1 (.ints .i64 gv1)⟩, ⟨true, .hdr 3 0 gv4 gv5 gv6 none⟩, ⟨true, .flat 0 (.ints .i64 ov13)⟩, ⟨true, .flat 0 (.ints .i64 gv7)⟩]⟩
theorem impl_tableOf_f_v2.b1_gen {ρ : Type} (N : Nat) (K : AV → Heap → Option ρ) (L1 : St → Option ρ) (kv : XE → St → Option ρ) (nv0 : Int) (gv1 : Nat → Int) (outv2 : Nat) (x3 : Int) (gv4 : Nat) (gv5 : Nat → Nat) (gv6 : Nat → Nat) (gv7 : Nat → Int) (row8 : Nat) (x9 : Int) (gv10 : Nat → Int) :
    xcode (E29 N) ents impl_tableOf_f_v2.kp 1 N (cL (cK (cB (cA (cB (cB (cK (cA (cB (cB (cL (cK (cB (cA (cB (cB impl_tableOf_f_v2.bd)))))))))))))))) 2 (impl_tableOf_f_v2.st1 nv0 gv1 outv2 x3 gv4 gv5 gv6 gv7 row8 x9 gv10) (roundK impl_tableOf_f_v2.kp 1 2 L1 (mixK (impl_tableOf_f_v2.fin N K gv1 .ret) kv)) = (impl_tableOf_f_v2.b1 N (fun d0 d1 d2 d3 d4 => K (.slice true 1 0 d0 .whole 1) [⟨false, .flat 1 (.ints .i64 gv1)⟩, ⟨true, .hdr 2 0 d1 d2 d3 none⟩, ⟨true, .flat 0 (.ints .i64 d4)⟩]) (fun row8 x9 gv10 => L1 (impl_tableOf_f_v2.st1 nv0 gv1 outv2 x3 gv4 gv5 gv6 gv7 row8 x9 gv10)) (fun ov12 ov13 => kv (.exit 2) (impl_tableOf_f_v2.sx1_0 nv0 gv1 outv2 x3 gv4 gv5 gv6 gv7 ov12 ov13)) nv0 gv1 x3 row8 x9 gv10) := by kernel_rfl
theorem impl_tableOf_f_v2.b1_eq {ρ : Type} (N : Nat) (K : AV → Heap → Option ρ) (L0 : St → Option ρ) (L1 : St → Option ρ) (nv0 : Int) (gv1 : Nat → Int) (outv2 : Nat) (x3 : Int) (gv4 : Nat) (gv5 : Nat → Nat) (gv6 : Nat → Nat) (gv7 : Nat → Int) (row8 : Nat) (x9 : Int) (gv10 : Nat → Int) :
    xcode (E29 N) ents impl_tableOf_f_v2.kp 1 N (cL (cK (cB (cA (cB (cB (cK (cA (cB (cB (cL (cK (cB (cA (cB (cB impl_tableOf_f_v2.bd)))))))))))))))) 2 (impl_tableOf_f_v2.st1 nv0 gv1 outv2 x3 gv4 gv5 gv6 gv7 row8 x9 gv10) (roundK impl_tableOf_f_v2.kp 1 2 L1 (impl_tableOf_f_v2.k1g N L0 (impl_tableOf_f_v2.k0 N K gv1))) = (impl_tableOf_f_v2.b1 N (fun d0 d1 d2 d3 d4 => K (.slice true 1 0 d0 .whole 1) [⟨false, .flat 1 (.ints .i64 gv1)⟩, ⟨true, .hdr 2 0 d1 d2 d3 none⟩, ⟨true, .flat 0 (.ints .i64 d4)⟩]) (fun row8 x9 gv10 => L1 (impl_tableOf_f_v2.st1 nv0 gv1 outv2 x3 gv4 gv5 gv6 gv7 row8 x9 gv10)) (fun ov12 ov13 => (impl_tableOf_f_v2.k1g N L0 (impl_tableOf_f_v2.k0 N K gv1)) (.exit 2) (impl_tableOf_f_v2.sx1_0 nv0 gv1 outv2 x3 gv4 gv5 gv6 gv7 ov12 ov13)) nv0 gv1 x3 row8 x9 gv10) := by
  have h := impl_tableOf_f_v2.b1_gen N K L1 (impl_tableOf_f_v2.k1g N L0 (impl_tableOf_f_v2.k0 N K gv1)) nv0 gv1 outv2 x3 gv4 gv5 gv6 gv7 row8 x9 gv10
  rw [impl_tableOf_f_v2.k1_mix] at h
  exact h
theorem impl_tableOf_f_v2.a1_0_gen {ρ : Type} (N : Nat) (K : AV → Heap → Option ρ) (L0 : St → Option ρ) (kv : XE → St → Option ρ) (nv0 : Int) (gv1 : Nat → Int) (outv2 : Nat) (x3 : Int) (gv4 : Nat) (gv5 : Nat → Nat) (gv6 : Nat → Nat) (gv7 : Nat → Int) (ov12 : Nat) (ov13 : Nat → Int) :
    (impl_tableOf_f_v2.k1g N L0 (mixK (impl_tableOf_f_v2.fin N K gv1 .ret) kv)) (.exit 2) (impl_tableOf_f_v2.sx1_0 nv0 gv1 outv2 x3 gv4 gv5 gv6 gv7 ov12 ov13) = (impl_tableOf_f_v2.a1_0 N (fun d0 d1 d2 d3 d4 => K (.slice true 1 0 d0 .whole 1) [⟨false, .flat 1 (.ints .i64 gv1)⟩, ⟨true, .hdr 2 0 d1 d2 d3 none⟩, ⟨true, .flat 0 (.ints .i64 d4)⟩]) (fun outv2 x3 gv4 gv5 gv6 gv7 => L0 (impl_tableOf_f_v2.st0 nv0 gv1 outv2 x3 gv4 gv5 gv6 gv7)) (fun ov14 ov15 ov16 ov17 ov18 => kv (.exit 0) (impl_tableOf_f_v2.sx0_0 gv1 ov14 ov15 ov16 ov17 ov18)) outv2 x3 gv4 gv5 gv6 gv7 ov12 ov13) := by kernel_rfl
theorem impl_tableOf_f_v2.a1_0_eq {ρ : Type} (N : Nat) (K : AV → Heap → Option ρ) (L0 : St → Option ρ) (nv0 : Int) (gv1 : Nat → Int) (outv2 : Nat) (x3 : Int) (gv4 : Nat) (gv5 : Nat → Nat) (gv6 : Nat → Nat) (gv7 : Nat → Int) (ov12 : Nat) (ov13 : Nat → Int) :
    (impl_tableOf_f_v2.k1g N L0 (impl_tableOf_f_v2.k0 N K gv1)) (.exit 2) (impl_tableOf_f_v2.sx1_0 nv0 gv1 outv2 x3 gv4 gv5 gv6 gv7 ov12 ov13) = (impl_tableOf_f_v2.a1_0 N (fun d0 d1 d2 d3 d4 => K (.slice true 1 0 d0 .whole 1) [⟨false, .flat 1 (.ints .i64 gv1)⟩, ⟨true, .hdr 2 0 d1 d2 d3 none⟩, ⟨true, .flat 0 (.ints .i64 d4)⟩]) (fun outv2 x3 gv4 gv5 gv6 gv7 => L0 (impl_tableOf_f_v2.st0 nv0 gv1 outv2 x3 gv4 gv5 gv6 gv7)) (fun ov14 ov15 ov16 ov17 ov18 => (impl_tableOf_f_v2.k0 N K gv1) (.exit 0) (impl_tableOf_f_v2.sx0_0 gv1 ov14 ov15 ov16 ov17 ov18)) outv2 x3 gv4 gv5 gv6 gv7 ov12 ov13) := by
  have h := impl_tableOf_f_v2.a1_0_gen N K L0 (impl_tableOf_f_v2.k0 N K gv1) nv0 gv1 outv2 x3 gv4 gv5 gv6 gv7 ov12 ov13
  rw [impl_tableOf_f_v2.k0_mix] at h
  exact h
theorem impl_tableOf_f_v2.b0_gen {ρ : Type} (N : Nat) (K : AV → Heap → Option ρ) (L0 : St → Option ρ) (kv : XE → St → Option ρ) (nv0 : Int) (gv1 : Nat → Int) (outv2 : Nat) (x3 : Int) (gv4 : Nat) (gv5 : Nat → Nat) (gv6 : Nat → Nat) (gv7 : Nat → Int) :
    xcode (E29 N) ents impl_tableOf_f_v2.kp 1 N (cL (cK (cB (cA (cB (cB impl_tableOf_f_v2.bd)))))) 0 (impl_tableOf_f_v2.st0 nv0 gv1 outv2 x3 gv4 gv5 gv6 gv7) (roundK impl_tableOf_f_v2.kp 1 0 L0 (mixK (impl_tableOf_f_v2.fin N K gv1 .ret) kv)) = (impl_tableOf_f_v2.b0 N (fun d0 d1 d2 d3 d4 => K (.slice true 1 0 d0 .whole 1) [⟨false, .flat 1 (.ints .i64 gv1)⟩, ⟨true, .hdr 2 0 d1 d2 d3 none⟩, ⟨true, .flat 0 (.ints .i64 d4)⟩]) (fun row8 x9 gv10 => xloop (xcode (E29 N) ents impl_tableOf_f_v2.kp 1 N (cL (cK (cB (cA (cB (cB (cK (cA (cB (cB (cL (cK (cB (cA (cB (cB impl_tableOf_f_v2.bd)))))))))))))))) 2) impl_tableOf_f_v2.kp 1 2 N (impl_tableOf_f_v2.st1 nv0 gv1 outv2 x3 gv4 gv5 gv6 gv7 row8 x9 gv10) (impl_tableOf_f_v2.k1g N L0 (mixK (impl_tableOf_f_v2.fin N K gv1 .ret) kv))) (fun outv2 x3 gv4 gv5 gv6 gv7 => L0 (impl_tableOf_f_v2.st0 nv0 gv1 outv2 x3 gv4 gv5 gv6 gv7)) (fun ov14 ov15 ov16 ov17 ov18 => kv (.exit 0) (impl_tableOf_f_v2.sx0_0 gv1 ov14 ov15 ov16 ov17 ov18)) nv0 outv2 x3 gv4 gv5 gv6 gv7) := by kernel_rfl
theorem impl_tableOf_f_v2.b0_eq {ρ : Type} (N : Nat) (K : AV → Heap → Option ρ) (L0 : St → Option ρ) (nv0 : Int) (gv1 : Nat → Int) (outv2 : Nat) (x3 : Int) (gv4 : Nat) (gv5 : Nat → Nat) (gv6 : Nat → Nat) (gv7 : Nat → Int) :
    xcode (E29 N) ents impl_tableOf_f_v2.kp 1 N (cL (cK (cB (cA (cB (cB impl_tableOf_f_v2.bd)))))) 0 (impl_tableOf_f_v2.st0 nv0 gv1 outv2 x3 gv4 gv5 gv6 gv7) (roundK impl_tableOf_f_v2.kp 1 0 L0 (impl_tableOf_f_v2.k0 N K gv1)) = (impl_tableOf_f_v2.b0 N (fun d0 d1 d2 d3 d4 => K (.slice true 1 0 d0 .whole 1) [⟨false, .flat 1 (.ints .i64 gv1)⟩, ⟨true, .hdr 2 0 d1 d2 d3 none⟩, ⟨true, .flat 0 (.ints .i64 d4)⟩]) (fun row8 x9 gv10 => xloop (xcode (E29 N) ents impl_tableOf_f_v2.kp 1 N (cL (cK (cB (cA (cB (cB (cK (cA (cB (cB (cL (cK (cB (cA (cB (cB impl_tableOf_f_v2.bd)))))))))))))))) 2) impl_tableOf_f_v2.kp 1 2 N (impl_tableOf_f_v2.st1 nv0 gv1 outv2 x3 gv4 gv5 gv6 gv7 row8 x9 gv10) (impl_tableOf_f_v2.k1g N L0 (impl_tableOf_f_v2.k0 N K gv1))) (fun outv2 x3 gv4 gv5 gv6 gv7 => L0 (impl_tableOf_f_v2.st0 nv0 gv1 outv2 x3 gv4 gv5 gv6 gv7)) (fun ov14 ov15 ov16 ov17 ov18 => (impl_tableOf_f_v2.k0 N K gv1) (.exit 0) (impl_tableOf_f_v2.sx0_0 gv1 ov14 ov15 ov16 ov17 ov18)) nv0 outv2 x3 gv4 gv5 gv6 gv7) := by
  have h := impl_tableOf_f_v2.b0_gen N K L0 (impl_tableOf_f_v2.k0 N K gv1) nv0 gv1 outv2 x3 gv4 gv5 gv6 gv7
  rw [impl_tableOf_f_v2.k0_mix] at h
  exact h
theorem impl_tableOf_f_v2.a0_0_eq {ρ : Type} (N : Nat) (K : AV → Heap → Option ρ) (gv1 : Nat → Int) (ov14 : Nat) (ov15 : Nat) (ov16 : Nat → Nat) (ov17 : Nat → Nat) (ov18 : Nat → Int) :
    (impl_tableOf_f_v2.k0 N K gv1) (.exit 0) (impl_tableOf_f_v2.sx0_0 gv1 ov14 ov15 ov16 ov17 ov18) = (impl_tableOf_f_v2.a0_0 N (fun d0 d1 d2 d3 d4 => K (.slice true 1 0 d0 .whole 1) [⟨false, .flat 1 (.ints .i64 gv1)⟩, ⟨true, .hdr 2 0 d1 d2 d3 none⟩, ⟨true, .flat 0 (.ints .i64 d4)⟩]) ov14 ov15 ov16 ov17 ov18) := by kernel_rfl
theorem impl_tableOf_f_v2.l1_eq {ρ : Type} (N : Nat) (K : AV → Heap → Option ρ) (L0 : St → Option ρ) (nv0 : Int) (gv1 : Nat → Int) (outv2 : Nat) (x3 : Int) (gv4 : Nat) (gv5 : Nat → Nat) (gv6 : Nat → Nat) (gv7 : Nat → Int) :
    ∀ (m : Nat) (row8 : Nat) (x9 : Int) (gv10 : Nat → Int), xloop (xcode (E29 N) ents impl_tableOf_f_v2.kp 1 N (cL (cK (cB (cA (cB (cB (cK (cA (cB (cB (cL (cK (cB (cA (cB (cB impl_tableOf_f_v2.bd)))))))))))))))) 2) impl_tableOf_f_v2.kp 1 2 m (impl_tableOf_f_v2.st1 nv0 gv1 outv2 x3 gv4 gv5 gv6 gv7 row8 x9 gv10) (impl_tableOf_f_v2.k1g N L0 (impl_tableOf_f_v2.k0 N K gv1)) = (impl_tableOf_f_v2.l1 N (fun d0 d1 d2 d3 d4 => K (.slice true 1 0 d0 .whole 1) [⟨false, .flat 1 (.ints .i64 gv1)⟩, ⟨true, .hdr 2 0 d1 d2 d3 none⟩, ⟨true, .flat 0 (.ints .i64 d4)⟩]) nv0 gv1 x3 (fun ov12 ov13 => (impl_tableOf_f_v2.k1g N L0 (impl_tableOf_f_v2.k0 N K gv1)) (.exit 2) (impl_tableOf_f_v2.sx1_0 nv0 gv1 outv2 x3 gv4 gv5 gv6 gv7 ov12 ov13)) m row8 x9 gv10) := by
  intro m
  induction m with
  | zero => intros; rfl
  | succ m ih =>
    intro row8 x9 gv10
    refine (impl_tableOf_f_v2.b1_eq N K L0 (fun s => xloop (xcode (E29 N) ents impl_tableOf_f_v2.kp 1 N (cL (cK (cB (cA (cB (cB (cK (cA (cB (cB (cL (cK (cB (cA (cB (cB impl_tableOf_f_v2.bd)))))))))))))))) 2) impl_tableOf_f_v2.kp 1 2 m s (impl_tableOf_f_v2.k1g N L0 (impl_tableOf_f_v2.k0 N K gv1))) nv0 gv1 outv2 x3 gv4 gv5 gv6 gv7 row8 x9 gv10).trans ?_
    simp only [ih]
    kernel_rfl
theorem impl_tableOf_f_v2.l0_eq {ρ : Type} (N : Nat) (K : AV → Heap → Option ρ) (nv0 : Int) (gv1 : Nat → Int) :
    ∀ (m : Nat) (outv2 : Nat) (x3 : Int) (gv4 : Nat) (gv5 : Nat → Nat) (gv6 : Nat → Nat) (gv7 : Nat → Int), xloop (xcode (E29 N) ents impl_tableOf_f_v2.kp 1 N (cL (cK (cB (cA (cB (cB impl_tableOf_f_v2.bd)))))) 0) impl_tableOf_f_v2.kp 1 0 m (impl_tableOf_f_v2.st0 nv0 gv1 outv2 x3 gv4 gv5 gv6 gv7) (impl_tableOf_f_v2.k0 N K gv1) = (impl_tableOf_f_v2.l0 N (fun d0 d1 d2 d3 d4 => K (.slice true 1 0 d0 .whole 1) [⟨false, .flat 1 (.ints .i64 gv1)⟩, ⟨true, .hdr 2 0 d1 d2 d3 none⟩, ⟨true, .flat 0 (.ints .i64 d4)⟩]) nv0 gv1 (fun ov14 ov15 ov16 ov17 ov18 => (impl_tableOf_f_v2.k0 N K gv1) (.exit 0) (impl_tableOf_f_v2.sx0_0 gv1 ov14 ov15 ov16 ov17 ov18)) m outv2 x3 gv4 gv5 gv6 gv7) := by
  intro m
  induction m with
  | zero => intros; rfl
  | succ m ih =>
    intro outv2 x3 gv4 gv5 gv6 gv7
    refine (impl_tableOf_f_v2.b0_eq N K (fun s => xloop (xcode (E29 N) ents impl_tableOf_f_v2.kp 1 N (cL (cK (cB (cA (cB (cB impl_tableOf_f_v2.bd)))))) 0) impl_tableOf_f_v2.kp 1 0 m s (impl_tableOf_f_v2.k0 N K gv1)) nv0 gv1 outv2 x3 gv4 gv5 gv6 gv7).trans ?_
    simp only [ih, impl_tableOf_f_v2.l1_eq, impl_tableOf_f_v2.a1_0_eq]
    kernel_rfl
theorem impl_tableOf_f_v2.s_eq {ρ : Type} (N : Nat) (K : AV → Heap → Option ρ) (nv0 : Int) (gv1 : Nat → Int) :
    xbody (E29 N) ents impl_tableOf_f_v2.kp N Try.f59 impl_tableOf_f_v2.bd [.int .i64 (nv0), .fn 68 0 [[(0, 1)]]] [⟨false, .flat 1 (.ints .i64 gv1)⟩] K = (impl_tableOf_f_v2.s N (fun d0 d1 d2 d3 d4 => K (.slice true 1 0 d0 .whole 1) [⟨false, .flat 1 (.ints .i64 gv1)⟩, ⟨true, .hdr 2 0 d1 d2 d3 none⟩, ⟨true, .flat 0 (.ints .i64 d4)⟩]) (fun outv2 x3 gv4 gv5 gv6 gv7 => xloop (xcode (E29 N) ents impl_tableOf_f_v2.kp 1 N (cL (cK (cB (cA (cB (cB impl_tableOf_f_v2.bd)))))) 0) impl_tableOf_f_v2.kp 1 0 N (impl_tableOf_f_v2.st0 nv0 gv1 outv2 x3 gv4 gv5 gv6 gv7) (impl_tableOf_f_v2.k0 N K gv1))) := by kernel_rfl
theorem impl_tableOf_f_v2.eq {ρ : Type} (N : Nat) (K : AV → Heap → Option ρ) (nv0 : Int) (gv1 : Nat → Int) :
    xbody (E29 N) ents impl_tableOf_f_v2.kp N Try.f59 impl_tableOf_f_v2.bd [.int .i64 (nv0), .fn 68 0 [[(0, 1)]]] [⟨false, .flat 1 (.ints .i64 gv1)⟩] K = (impl_tableOf_f_v2 N (fun d0 d1 d2 d3 d4 => K (.slice true 1 0 d0 .whole 1) [⟨false, .flat 1 (.ints .i64 gv1)⟩, ⟨true, .hdr 2 0 d1 d2 d3 none⟩, ⟨true, .flat 0 (.ints .i64 d4)⟩]) nv0 gv1) := by
  refine (impl_tableOf_f_v2.s_eq N K nv0 gv1).trans ?_
  simp only [impl_tableOf_f_v2.l0_eq, impl_tableOf_f_v2.a0_0_eq]
  kernel_rfl
end
end Go.Proofs.YtiifnnokpjbapaaRR.H
