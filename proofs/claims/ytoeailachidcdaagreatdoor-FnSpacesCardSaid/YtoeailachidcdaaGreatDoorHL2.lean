import Derived.Test.YtoeailachidcdaaGreatDoorHL1
namespace Go.Proofs.YtoeailachidcdaaGreatDoor.H
noncomputable section
set_option linter.unusedVariables false
set_option linter.unusedSimpArgs false
set_option linter.unusedSectionVars false
open Go Go.RowKit Go.Proofs.YtoeailachidcdaaGreatDoor.Hg
set_option maxRecDepth 100000
def impl_reduced_su.kp : Keeps := ⟨[(0, [5, 13, 14, 15], [], [(.cell 3 0, .wholeH false .u8)]), (2, [8, 39, 40, 41], [], [])], [(0, [5], [], []), (2, [8], [], [])], []⟩
def impl_reduced_su.bd : Code := bodyOf Go.Proofs.Tryz.f26
def impl_reduced_su.fin {ρ : Type} (N : Nat) (K : AV → Heap → Option ρ) (gv2 : Nat) (gv3 : Nat → Int) : XE → St → Option ρ := finK (E38 N) impl_reduced_su.kp.fins Go.Proofs.Tryz.f26 [⟨false, .flat gv2 (.ints .u8 gv3)⟩] K
def impl_reduced_su.k0 {ρ : Type} (N : Nat) (K : AV → Heap → Option ρ) (gv2 : Nat) (gv3 : Nat → Int) : XE → St → Option ρ := (blockK impl_reduced_su.kp 1 0 (seqK (xcode (E38 N) ents impl_reduced_su.kp 1 N (cB (cB (cB impl_reduced_su.bd))) 0) (impl_reduced_su.fin N K gv2 gv3)))
theorem impl_reduced_su.k0_mix {ρ : Type} (N : Nat) (K : AV → Heap → Option ρ) (gv2 : Nat) (gv3 : Nat → Int) : mixK (impl_reduced_su.fin N K gv2 gv3 .ret) (impl_reduced_su.k0 N K gv2 gv3) = (impl_reduced_su.k0 N K gv2 gv3) := by
  funext e s; cases e <;> kernel_rfl
def impl_reduced_su.st0 (list1 : Nat) (gv2 : Nat) (gv3 : Nat → Int) (rv4 : Nat → Int) (rv5 : Nat → Int) (x6 : Int) (gv7 : Nat) (gv8 : Nat) (gv9 : Nat → Nat) (gv10 : Nat → Nat) (gv11 : Nat → Int) : St := ⟨sl 54 [(5, .sptr [(1, 2), (2, 1), (3, 1), (4, 1)]), (13, .slice true 0 0 list1 .unk 8), (14, .int .i64 ((list1 : Int))), (15, .int .i64 (x6))], [⟨false, .flat gv2 (.ints .u8 gv3)⟩, ⟨true, .flat 2 (.ints .i64 rv4)⟩, ⟨true, .flat 1 (.ints .i64 rv5)⟩, ⟨true, .avs [.slice false 5 0 gv7 .whole 1]⟩, ⟨true, .avs [.nils]⟩, ⟨true, .hdr 6 0 gv8 gv9 gv10 none⟩, ⟨true, .flat 0 (.ints .u8 gv11)⟩]⟩
def impl_reduced_su.sx0_0 (gv2 : Nat) (gv3 : Nat → Int) (rv4 : Nat → Int) (rv5 : Nat → Int) (ov14 : Nat) (ov15 : Nat) (ov16 : Nat → Nat) (ov17 : Nat → Nat) (ov18 : Nat → Int) : St := ⟨sl 54 [(5, .sptr [(1, 2), (2, 1), (3, 1), (4, 1)])], [⟨false, .flat gv2 (.ints .u8 gv3)⟩, ⟨true, .flat 2 (.ints .i64 rv4)⟩, ⟨true, .flat 1 (.ints .i64 rv5)⟩, ⟨true, .avs [.slice false 5 0 ov14 .whole 1]⟩, ⟨true, .avs [.nils]⟩, ⟨true, .hdr 6 0 ov15 ov16 ov17 none⟩, ⟨true, .flat 0 (.ints .u8 ov18)⟩]⟩
def impl_reduced_su.k1 {ρ : Type} (N : Nat) (K : AV → Heap → Option ρ) (gv2 : Nat) (gv3 : Nat → Int) : XE → St → Option ρ := (blockK impl_reduced_su.kp 1 2 (seqK (xcode (E38 N) ents impl_reduced_su.kp 1 N (cB (cB (cB (cB (cB (cB impl_reduced_su.bd)))))) 0) (impl_reduced_su.fin N K gv2 gv3)))
theorem impl_reduced_su.k1_mix {ρ : Type} (N : Nat) (K : AV → Heap → Option ρ) (gv2 : Nat) (gv3 : Nat → Int) : mixK (impl_reduced_su.fin N K gv2 gv3 .ret) (impl_reduced_su.k1 N K gv2 gv3) = (impl_reduced_su.k1 N K gv2 gv3) := by
  funext e s; cases e <;> kernel_rfl
def impl_reduced_su.st1 (gv2 : Nat) (gv3 : Nat → Int) (rv20 : Nat) (rv22 : Nat) (rv23 : Nat → Nat) (rv24 : Nat → Nat) (rv25 : Nat → Int) (outv27 : Nat) (x28 : Int) (gv29 : Nat → Int) : St := ⟨sl 54 [(8, .slice true 1 0 outv27 .whole 8), (39, .slice false 2 0 rv20 .unk 1), (40, .int .i64 ((rv20 : Int))), (41, .int .i64 (x28))], [⟨false, .flat gv2 (.ints .u8 gv3)⟩, ⟨true, .flat 0 (.ints .u8 gv29)⟩, ⟨true, .hdr 3 0 rv22 rv23 rv24 none⟩, ⟨true, .flat 0 (.ints .u8 rv25)⟩]⟩
def impl_reduced_su.sx1_0 (gv2 : Nat) (gv3 : Nat → Int) (ov30 : Nat) (ov31 : Nat → Int) : St := ⟨sl 54 [(8, .slice true 1 0 ov30 .whole 8)], [⟨false, .flat gv2 (.ints .u8 gv3)⟩, ⟨true, .flat 0 (.ints .u8 ov31)⟩]⟩
theorem impl_reduced_su.b1_gen {ρ : Type} (N : Nat) (K : AV → Heap → Option ρ) (L1 : St → Option ρ) (kv : XE → St → Option ρ) (gv2 : Nat) (gv3 : Nat → Int) (rv20 : Nat) (rv22 : Nat) (rv23 : Nat → Nat) (rv24 : Nat → Nat) (rv25 : Nat → Int) (outv27 : Nat) (x28 : Int) (gv29 : Nat → Int) :
    xcode (E38 N) ents impl_reduced_su.kp 1 N (cL (cK (cB (cA (cB (cB (cB (cB (cB impl_reduced_su.bd))))))))) 2 (impl_reduced_su.st1 gv2 gv3 rv20 rv22 rv23 rv24 rv25 outv27 x28 gv29) (roundK impl_reduced_su.kp 1 2 L1 (mixK (impl_reduced_su.fin N K gv2 gv3 .ret) kv)) = (impl_reduced_su.b1 N (fun d0 d1 => K (.slice true 1 0 d0 .whole 8) [⟨false, .flat gv2 (.ints .u8 gv3)⟩, ⟨true, .flat 0 (.ints .u8 d1)⟩]) (fun outv27 x28 gv29 => L1 (impl_reduced_su.st1 gv2 gv3 rv20 rv22 rv23 rv24 rv25 outv27 x28 gv29)) (fun ov30 ov31 => kv (.exit 2) (impl_reduced_su.sx1_0 gv2 gv3 ov30 ov31)) rv20 rv23 rv24 rv25 outv27 x28 gv29) := by kernel_rfl
theorem impl_reduced_su.b1_eq {ρ : Type} (N : Nat) (K : AV → Heap → Option ρ) (L1 : St → Option ρ) (gv2 : Nat) (gv3 : Nat → Int) (rv20 : Nat) (rv22 : Nat) (rv23 : Nat → Nat) (rv24 : Nat → Nat) (rv25 : Nat → Int) (outv27 : Nat) (x28 : Int) (gv29 : Nat → Int) :
    xcode (E38 N) ents impl_reduced_su.kp 1 N (cL (cK (cB (cA (cB (cB (cB (cB (cB impl_reduced_su.bd))))))))) 2 (impl_reduced_su.st1 gv2 gv3 rv20 rv22 rv23 rv24 rv25 outv27 x28 gv29) (roundK impl_reduced_su.kp 1 2 L1 (impl_reduced_su.k1 N K gv2 gv3)) = (impl_reduced_su.b1 N (fun d0 d1 => K (.slice true 1 0 d0 .whole 8) [⟨false, .flat gv2 (.ints .u8 gv3)⟩, ⟨true, .flat 0 (.ints .u8 d1)⟩]) (fun outv27 x28 gv29 => L1 (impl_reduced_su.st1 gv2 gv3 rv20 rv22 rv23 rv24 rv25 outv27 x28 gv29)) (fun ov30 ov31 => (impl_reduced_su.k1 N K gv2 gv3) (.exit 2) (impl_reduced_su.sx1_0 gv2 gv3 ov30 ov31)) rv20 rv23 rv24 rv25 outv27 x28 gv29) := by
  have h := impl_reduced_su.b1_gen N K L1 (impl_reduced_su.k1 N K gv2 gv3) gv2 gv3 rv20 rv22 rv23 rv24 rv25 outv27 x28 gv29
  rw [impl_reduced_su.k1_mix] at h
  exact h
theorem impl_reduced_su.a1_0_eq {ρ : Type} (N : Nat) (K : AV → Heap → Option ρ) (gv2 : Nat) (gv3 : Nat → Int) (ov30 : Nat) (ov31 : Nat → Int) :
    (impl_reduced_su.k1 N K gv2 gv3) (.exit 2) (impl_reduced_su.sx1_0 gv2 gv3 ov30 ov31) = (impl_reduced_su.a1_0 N (fun d0 d1 => K (.slice true 1 0 d0 .whole 8) [⟨false, .flat gv2 (.ints .u8 gv3)⟩, ⟨true, .flat 0 (.ints .u8 d1)⟩]) ov30 ov31) := by kernel_rfl
theorem impl_reduced_su.b0_gen {ρ : Type} (N : Nat) (K : AV → Heap → Option ρ) (L0 : St → Option ρ) (kv : XE → St → Option ρ) (list1 : Nat) (gv2 : Nat) (gv3 : Nat → Int) (rv4 : Nat → Int) (rv5 : Nat → Int) (x6 : Int) (gv7 : Nat) (gv8 : Nat) (gv9 : Nat → Nat) (gv10 : Nat → Nat) (gv11 : Nat → Int) :
    xcode (E38 N) ents impl_reduced_su.kp 1 N (cL (cK (cB (cA (cB (cB impl_reduced_su.bd)))))) 0 (impl_reduced_su.st0 list1 gv2 gv3 rv4 rv5 x6 gv7 gv8 gv9 gv10 gv11) (roundK impl_reduced_su.kp 1 0 L0 (mixK (impl_reduced_su.fin N K gv2 gv3 .ret) kv)) = (impl_reduced_su.b0 N (fun d0 d1 => K (.slice true 1 0 d0 .whole 8) [⟨false, .flat gv2 (.ints .u8 gv3)⟩, ⟨true, .flat 0 (.ints .u8 d1)⟩]) (fun x6 gv7 gv8 gv9 gv10 gv11 => L0 (impl_reduced_su.st0 list1 gv2 gv3 rv4 rv5 x6 gv7 gv8 gv9 gv10 gv11)) (fun ov14 ov15 ov16 ov17 ov18 => kv (.exit 0) (impl_reduced_su.sx0_0 gv2 gv3 rv4 rv5 ov14 ov15 ov16 ov17 ov18)) list1 gv3 x6 gv7 gv8 gv9 gv10 gv11) := by kernel_rfl
theorem impl_reduced_su.b0_eq {ρ : Type} (N : Nat) (K : AV → Heap → Option ρ) (L0 : St → Option ρ) (list1 : Nat) (gv2 : Nat) (gv3 : Nat → Int) (rv4 : Nat → Int) (rv5 : Nat → Int) (x6 : Int) (gv7 : Nat) (gv8 : Nat) (gv9 : Nat → Nat) (gv10 : Nat → Nat) (gv11 : Nat → Int) :
    xcode (E38 N) ents impl_reduced_su.kp 1 N (cL (cK (cB (cA (cB (cB impl_reduced_su.bd)))))) 0 (impl_reduced_su.st0 list1 gv2 gv3 rv4 rv5 x6 gv7 gv8 gv9 gv10 gv11) (roundK impl_reduced_su.kp 1 0 L0 (impl_reduced_su.k0 N K gv2 gv3)) = (impl_reduced_su.b0 N (fun d0 d1 => K (.slice true 1 0 d0 .whole 8) [⟨false, .flat gv2 (.ints .u8 gv3)⟩, ⟨true, .flat 0 (.ints .u8 d1)⟩]) (fun x6 gv7 gv8 gv9 gv10 gv11 => L0 (impl_reduced_su.st0 list1 gv2 gv3 rv4 rv5 x6 gv7 gv8 gv9 gv10 gv11)) (fun ov14 ov15 ov16 ov17 ov18 => (impl_reduced_su.k0 N K gv2 gv3) (.exit 0) (impl_reduced_su.sx0_0 gv2 gv3 rv4 rv5 ov14 ov15 ov16 ov17 ov18)) list1 gv3 x6 gv7 gv8 gv9 gv10 gv11) := by
  have h := impl_reduced_su.b0_gen N K L0 (impl_reduced_su.k0 N K gv2 gv3) list1 gv2 gv3 rv4 rv5 x6 gv7 gv8 gv9 gv10 gv11
  rw [impl_reduced_su.k0_mix] at h
  exact h
theorem impl_reduced_su.a0_0_eq {ρ : Type} (N : Nat) (K : AV → Heap → Option ρ) (gv2 : Nat) (gv3 : Nat → Int) (rv4 : Nat → Int) (rv5 : Nat → Int) (ov14 : Nat) (ov15 : Nat) (ov16 : Nat → Nat) (ov17 : Nat → Nat) (ov18 : Nat → Int) :
    (impl_reduced_su.k0 N K gv2 gv3) (.exit 0) (impl_reduced_su.sx0_0 gv2 gv3 rv4 rv5 ov14 ov15 ov16 ov17 ov18) = (impl_reduced_su.a0_0 N (fun d0 d1 => K (.slice true 1 0 d0 .whole 8) [⟨false, .flat gv2 (.ints .u8 gv3)⟩, ⟨true, .flat 0 (.ints .u8 d1)⟩]) (fun rv20 rv22 rv23 rv24 rv25 outv27 x28 gv29 => xloop (xcode (E38 N) ents impl_reduced_su.kp 1 N (cL (cK (cB (cA (cB (cB (cB (cB (cB impl_reduced_su.bd))))))))) 2) impl_reduced_su.kp 1 2 N (impl_reduced_su.st1 gv2 gv3 rv20 rv22 rv23 rv24 rv25 outv27 x28 gv29) (impl_reduced_su.k1 N K gv2 gv3)) rv4 rv5 ov14 ov15 ov16 ov17 ov18) := by kernel_rfl
theorem impl_reduced_su.l1_eq {ρ : Type} (N : Nat) (K : AV → Heap → Option ρ) (gv2 : Nat) (gv3 : Nat → Int) (rv20 : Nat) (rv22 : Nat) (rv23 : Nat → Nat) (rv24 : Nat → Nat) (rv25 : Nat → Int) :
    ∀ (m : Nat) (outv27 : Nat) (x28 : Int) (gv29 : Nat → Int), xloop (xcode (E38 N) ents impl_reduced_su.kp 1 N (cL (cK (cB (cA (cB (cB (cB (cB (cB impl_reduced_su.bd))))))))) 2) impl_reduced_su.kp 1 2 m (impl_reduced_su.st1 gv2 gv3 rv20 rv22 rv23 rv24 rv25 outv27 x28 gv29) (impl_reduced_su.k1 N K gv2 gv3) = (impl_reduced_su.l1 N (fun d0 d1 => K (.slice true 1 0 d0 .whole 8) [⟨false, .flat gv2 (.ints .u8 gv3)⟩, ⟨true, .flat 0 (.ints .u8 d1)⟩]) rv20 rv23 rv24 rv25 (fun ov30 ov31 => (impl_reduced_su.k1 N K gv2 gv3) (.exit 2) (impl_reduced_su.sx1_0 gv2 gv3 ov30 ov31)) m outv27 x28 gv29) := by
  intro m
  induction m with
  | zero => intros; rfl
  | succ m ih =>
    intro outv27 x28 gv29
    refine (impl_reduced_su.b1_eq N K (fun s => xloop (xcode (E38 N) ents impl_reduced_su.kp 1 N (cL (cK (cB (cA (cB (cB (cB (cB (cB impl_reduced_su.bd))))))))) 2) impl_reduced_su.kp 1 2 m s (impl_reduced_su.k1 N K gv2 gv3)) gv2 gv3 rv20 rv22 rv23 rv24 rv25 outv27 x28 gv29).trans ?_
    simp only [ih]
    kernel_rfl
theorem impl_reduced_su.l0_eq {ρ : Type} (N : Nat) (K : AV → Heap → Option ρ) (list1 : Nat) (gv2 : Nat) (gv3 : Nat → Int) (rv4 : Nat → Int) (rv5 : Nat → Int) :
    ∀ (m : Nat) (x6 : Int) (gv7 : Nat) (gv8 : Nat) (gv9 : Nat → Nat) (gv10 : Nat → Nat) (gv11 : Nat → Int), xloop (xcode (E38 N) ents impl_reduced_su.kp 1 N (cL (cK (cB (cA (cB (cB impl_reduced_su.bd)))))) 0) impl_reduced_su.kp 1 0 m (impl_reduced_su.st0 list1 gv2 gv3 rv4 rv5 x6 gv7 gv8 gv9 gv10 gv11) (impl_reduced_su.k0 N K gv2 gv3) = (impl_reduced_su.l0 N (fun d0 d1 => K (.slice true 1 0 d0 .whole 8) [⟨false, .flat gv2 (.ints .u8 gv3)⟩, ⟨true, .flat 0 (.ints .u8 d1)⟩]) list1 gv3 (fun ov14 ov15 ov16 ov17 ov18 => (impl_reduced_su.k0 N K gv2 gv3) (.exit 0) (impl_reduced_su.sx0_0 gv2 gv3 rv4 rv5 ov14 ov15 ov16 ov17 ov18)) m x6 gv7 gv8 gv9 gv10 gv11) := by
  intro m
  induction m with
  | zero => intros; rfl
  | succ m ih =>
    intro x6 gv7 gv8 gv9 gv10 gv11
    refine (impl_reduced_su.b0_eq N K (fun s => xloop (xcode (E38 N) ents impl_reduced_su.kp 1 N (cL (cK (cB (cA (cB (cB impl_reduced_su.bd)))))) 0) impl_reduced_su.kp 1 0 m s (impl_reduced_su.k0 N K gv2 gv3)) list1 gv2 gv3 rv4 rv5 x6 gv7 gv8 gv9 gv10 gv11).trans ?_
    simp only [ih]
    kernel_rfl
theorem impl_reduced_su.s_eq {ρ : Type} (N : Nat) (K : AV → Heap → Option ρ) (p0 : Int) (list1 : Nat) (gv2 : Nat) (gv3 : Nat → Int) :
    xbody (E38 N) ents impl_reduced_su.kp N Go.Proofs.Tryz.f26 impl_reduced_su.bd [.int .i64 (p0), .slice true 0 0 list1 .unk 8] [⟨false, .flat gv2 (.ints .u8 gv3)⟩] K = (impl_reduced_su.s N (fun d0 d1 => K (.slice true 1 0 d0 .whole 8) [⟨false, .flat gv2 (.ints .u8 gv3)⟩, ⟨true, .flat 0 (.ints .u8 d1)⟩]) (fun rv4 rv5 x6 gv7 gv8 gv9 gv10 gv11 => xloop (xcode (E38 N) ents impl_reduced_su.kp 1 N (cL (cK (cB (cA (cB (cB impl_reduced_su.bd)))))) 0) impl_reduced_su.kp 1 0 N (impl_reduced_su.st0 list1 gv2 gv3 rv4 rv5 x6 gv7 gv8 gv9 gv10 gv11) (impl_reduced_su.k0 N K gv2 gv3)) p0) := by kernel_rfl
theorem impl_reduced_su.eq {ρ : Type} (N : Nat) (K : AV → Heap → Option ρ) (p0 : Int) (list1 : Nat) (gv2 : Nat) (gv3 : Nat → Int) :
    xbody (E38 N) ents impl_reduced_su.kp N Go.Proofs.Tryz.f26 impl_reduced_su.bd [.int .i64 (p0), .slice true 0 0 list1 .unk 8] [⟨false, .flat gv2 (.ints .u8 gv3)⟩] K = (impl_reduced_su N (fun d0 d1 => K (.slice true 1 0 d0 .whole 8) [⟨false, .flat gv2 (.ints .u8 gv3)⟩, ⟨true, .flat 0 (.ints .u8 d1)⟩]) p0 list1 gv2 gv3) := by
  refine (impl_reduced_su.s_eq N K p0 list1 gv2 gv3).trans ?_
  simp only [impl_reduced_su.l0_eq, impl_reduced_su.a0_0_eq, impl_reduced_su.l1_eq, impl_reduced_su.a1_0_eq]
  kernel_rfl
def impl_reduced_su_v2.kp : Keeps := ⟨[(0, [5, 13, 14, 15], [], [(.cell 3 0, .wholeH false .u8)]), (2, [8, 39, 40, 41], [], [])], [(0, [5], [], []), (2, [8], [], [])], []⟩
def impl_reduced_su_v2.bd : Code := bodyOf Go.Proofs.Tryz.f26
def impl_reduced_su_v2.fin {ρ : Type} (N : Nat) (K : AV → Heap → Option ρ) (gv2 : Nat) (gv3 : Nat → Int) : XE → St → Option ρ := finK (E38 N) impl_reduced_su_v2.kp.fins Go.Proofs.Tryz.f26 [⟨false, .flat gv2 (.ints .u8 gv3)⟩] K
def impl_reduced_su_v2.k0 {ρ : Type} (N : Nat) (K : AV → Heap → Option ρ) (gv2 : Nat) (gv3 : Nat → Int) : XE → St → Option ρ := (blockK impl_reduced_su_v2.kp 1 0 (seqK (xcode (E38 N) ents impl_reduced_su_v2.kp 1 N (cB (cB (cB impl_reduced_su_v2.bd))) 0) (impl_reduced_su_v2.fin N K gv2 gv3)))
theorem impl_reduced_su_v2.k0_mix {ρ : Type} (N : Nat) (K : AV → Heap → Option ρ) (gv2 : Nat) (gv3 : Nat → Int) : mixK (impl_reduced_su_v2.fin N K gv2 gv3 .ret) (impl_reduced_su_v2.k0 N K gv2 gv3) = (impl_reduced_su_v2.k0 N K gv2 gv3) := by
  funext e s; cases e <;> kernel_rfl
def impl_reduced_su_v2.st0 (list1 : Nat) (gv2 : Nat) (gv3 : Nat → Int) (rv4 : Nat → Int) (rv5 : Nat → Int) (x6 : Int) (gv7 : Nat) (gv8 : Nat) (gv9 : Nat → Nat) (gv10 : Nat → Nat) (gv11 : Nat → Int) : St := ⟨sl 54 [(5, .sptr [(1, 2), (2, 1), (3, 1), (4, 1)]), (13, .slice false 0 0 list1 .unk 8), (14, .int .i64 ((list1 : Int))), (15, .int .i64 (x6))], [⟨false, .flat gv2 (.ints .u8 gv3)⟩, ⟨true, .flat 2 (.ints .i64 rv4)⟩, ⟨true, .flat 1 (.ints .i64 rv5)⟩, ⟨true, .avs [.slice false 5 0 gv7 .whole 1]⟩, ⟨true, .avs [.nils]⟩, ⟨true, .hdr 6 0 gv8 gv9 gv10 none⟩, ⟨true, .flat 0 (.ints .u8 gv11)⟩]⟩
def impl_reduced_su_v2.sx0_0 (gv2 : Nat) (gv3 : Nat → Int) (rv4 : Nat → Int) (rv5 : Nat → Int) (ov14 : Nat) (ov15 : Nat) (ov16 : Nat → Nat) (ov17 : Nat → Nat) (ov18 : Nat → Int) : St := ⟨sl 54 [(5, .sptr [(1, 2), (2, 1), (3, 1), (4, 1)])], [⟨false, .flat gv2 (.ints .u8 gv3)⟩, ⟨true, .flat 2 (.ints .i64 rv4)⟩, ⟨true, .flat 1 (.ints .i64 rv5)⟩, ⟨true, .avs [.slice false 5 0 ov14 .whole 1]⟩, ⟨true, .avs [.nils]⟩, ⟨true, .hdr 6 0 ov15 ov16 ov17 none⟩, ⟨true, .flat 0 (.ints .u8 ov18)⟩]⟩
def impl_reduced_su_v2.k1 {ρ : Type} (N : Nat) (K : AV → Heap → Option ρ) (gv2 : Nat) (gv3 : Nat → Int) : XE → St → Option ρ := (blockK impl_reduced_su_v2.kp 1 2 (seqK (xcode (E38 N) ents impl_reduced_su_v2.kp 1 N (cB (cB (cB (cB (cB (cB impl_reduced_su_v2.bd)))))) 0) (impl_reduced_su_v2.fin N K gv2 gv3)))
theorem impl_reduced_su_v2.k1_mix {ρ : Type} (N : Nat) (K : AV → Heap → Option ρ) (gv2 : Nat) (gv3 : Nat → Int) : mixK (impl_reduced_su_v2.fin N K gv2 gv3 .ret) (impl_reduced_su_v2.k1 N K gv2 gv3) = (impl_reduced_su_v2.k1 N K gv2 gv3) := by
  funext e s; cases e <;> kernel_rfl
def impl_reduced_su_v2.st1 (gv2 : Nat) (gv3 : Nat → Int) (rv20 : Nat) (rv22 : Nat) (rv23 : Nat → Nat) (rv24 : Nat → Nat) (rv25 : Nat → Int) (outv27 : Nat) (x28 : Int) (gv29 : Nat → Int) : St := ⟨sl 54 [(8, .slice true 1 0 outv27 .whole 8), (39, .slice false 2 0 rv20 .unk 1), (40, .int .i64 ((rv20 : Int))), (41, .int .i64 (x28))], [⟨false, .flat gv2 (.ints .u8 gv3)⟩, ⟨true, .flat 0 (.ints .u8 gv29)⟩, ⟨true, .hdr 3 0 rv22 rv23 rv24 none⟩, ⟨true, .flat 0 (.ints .u8 rv25)⟩]⟩
def impl_reduced_su_v2.sx1_0 (gv2 : Nat) (gv3 : Nat → Int) (ov30 : Nat) (ov31 : Nat → Int) : St := ⟨sl 54 [(8, .slice true 1 0 ov30 .whole 8)], [⟨false, .flat gv2 (.ints .u8 gv3)⟩, ⟨true, .flat 0 (.ints .u8 ov31)⟩]⟩
theorem impl_reduced_su_v2.b1_gen {ρ : Type} (N : Nat) (K : AV → Heap → Option ρ) (L1 : St → Option ρ) (kv : XE → St → Option ρ) (gv2 : Nat) (gv3 : Nat → Int) (rv20 : Nat) (rv22 : Nat) (rv23 : Nat → Nat) (rv24 : Nat → Nat) (rv25 : Nat → Int) (outv27 : Nat) (x28 : Int) (gv29 : Nat → Int) :
    xcode (E38 N) ents impl_reduced_su_v2.kp 1 N (cL (cK (cB (cA (cB (cB (cB (cB (cB impl_reduced_su_v2.bd))))))))) 2 (impl_reduced_su_v2.st1 gv2 gv3 rv20 rv22 rv23 rv24 rv25 outv27 x28 gv29) (roundK impl_reduced_su_v2.kp 1 2 L1 (mixK (impl_reduced_su_v2.fin N K gv2 gv3 .ret) kv)) = (impl_reduced_su_v2.b1 N (fun d0 d1 => K (.slice true 1 0 d0 .whole 8) [⟨false, .flat gv2 (.ints .u8 gv3)⟩, ⟨true, .flat 0 (.ints .u8 d1)⟩]) (fun outv27 x28 gv29 => L1 (impl_reduced_su_v2.st1 gv2 gv3 rv20 rv22 rv23 rv24 rv25 outv27 x28 gv29)) (fun ov30 ov31 => kv (.exit 2) (impl_reduced_su_v2.sx1_0 gv2 gv3 ov30 ov31)) rv20 rv23 rv24 rv25 outv27 x28 gv29) := by kernel_rfl
theorem impl_reduced_su_v2.b1_eq {ρ : Type} (N : Nat) (K : AV → Heap → Option ρ) (L1 : St → Option ρ) (gv2 : Nat) (gv3 : Nat → Int) (rv20 : Nat) (rv22 : Nat) (rv23 : Nat → Nat) (rv24 : Nat → Nat) (rv25 : Nat → Int) (outv27 : Nat) (x28 : Int) (gv29 : Nat → Int) :
    xcode (E38 N) ents impl_reduced_su_v2.kp 1 N (cL (cK (cB (cA (cB (cB (cB (cB (cB impl_reduced_su_v2.bd))))))))) 2 (impl_reduced_su_v2.st1 gv2 gv3 rv20 rv22 rv23 rv24 rv25 outv27 x28 gv29) (roundK impl_reduced_su_v2.kp 1 2 L1 (impl_reduced_su_v2.k1 N K gv2 gv3)) = (impl_reduced_su_v2.b1 N (fun d0 d1 => K (.slice true 1 0 d0 .whole 8) [⟨false, .flat gv2 (.ints .u8 gv3)⟩, ⟨true, .flat 0 (.ints .u8 d1)⟩]) (fun outv27 x28 gv29 => L1 (impl_reduced_su_v2.st1 gv2 gv3 rv20 rv22 rv23 rv24 rv25 outv27 x28 gv29)) (fun ov30 ov31 => (impl_reduced_su_v2.k1 N K gv2 gv3) (.exit 2) (impl_reduced_su_v2.sx1_0 gv2 gv3 ov30 ov31)) rv20 rv23 rv24 rv25 outv27 x28 gv29) := by
  have h := impl_reduced_su_v2.b1_gen N K L1 (impl_reduced_su_v2.k1 N K gv2 gv3) gv2 gv3 rv20 rv22 rv23 rv24 rv25 outv27 x28 gv29
  rw [impl_reduced_su_v2.k1_mix] at h
  exact h
theorem impl_reduced_su_v2.a1_0_eq {ρ : Type} (N : Nat) (K : AV → Heap → Option ρ) (gv2 : Nat) (gv3 : Nat → Int) (ov30 : Nat) (ov31 : Nat → Int) :
    (impl_reduced_su_v2.k1 N K gv2 gv3) (.exit 2) (impl_reduced_su_v2.sx1_0 gv2 gv3 ov30 ov31) = (impl_reduced_su_v2.a1_0 N (fun d0 d1 => K (.slice true 1 0 d0 .whole 8) [⟨false, .flat gv2 (.ints .u8 gv3)⟩, ⟨true, .flat 0 (.ints .u8 d1)⟩]) ov30 ov31) := by kernel_rfl
theorem impl_reduced_su_v2.b0_gen {ρ : Type} (N : Nat) (K : AV → Heap → Option ρ) (L0 : St → Option ρ) (kv : XE → St → Option ρ) (list1 : Nat) (gv2 : Nat) (gv3 : Nat → Int) (rv4 : Nat → Int) (rv5 : Nat → Int) (x6 : Int) (gv7 : Nat) (gv8 : Nat) (gv9 : Nat → Nat) (gv10 : Nat → Nat) (gv11 : Nat → Int) :
    xcode (E38 N) ents impl_reduced_su_v2.kp 1 N (cL (cK (cB (cA (cB (cB impl_reduced_su_v2.bd)))))) 0 (impl_reduced_su_v2.st0 list1 gv2 gv3 rv4 rv5 x6 gv7 gv8 gv9 gv10 gv11) (roundK impl_reduced_su_v2.kp 1 0 L0 (mixK (impl_reduced_su_v2.fin N K gv2 gv3 .ret) kv)) = (impl_reduced_su_v2.b0 N (fun d0 d1 => K (.slice true 1 0 d0 .whole 8) [⟨false, .flat gv2 (.ints .u8 gv3)⟩, ⟨true, .flat 0 (.ints .u8 d1)⟩]) (fun x6 gv7 gv8 gv9 gv10 gv11 => L0 (impl_reduced_su_v2.st0 list1 gv2 gv3 rv4 rv5 x6 gv7 gv8 gv9 gv10 gv11)) (fun ov14 ov15 ov16 ov17 ov18 => kv (.exit 0) (impl_reduced_su_v2.sx0_0 gv2 gv3 rv4 rv5 ov14 ov15 ov16 ov17 ov18)) list1 gv3 x6 gv7 gv8 gv9 gv10 gv11) := by kernel_rfl
theorem impl_reduced_su_v2.b0_eq {ρ : Type} (N : Nat) (K : AV → Heap → Option ρ) (L0 : St → Option ρ) (list1 : Nat) (gv2 : Nat) (gv3 : Nat → Int) (rv4 : Nat → Int) (rv5 : Nat → Int) (x6 : Int) (gv7 : Nat) (gv8 : Nat) (gv9 : Nat → Nat) (gv10 : Nat → Nat) (gv11 : Nat → Int) :
    xcode (E38 N) ents impl_reduced_su_v2.kp 1 N (cL (cK (cB (cA (cB (cB impl_reduced_su_v2.bd)))))) 0 (impl_reduced_su_v2.st0 list1 gv2 gv3 rv4 rv5 x6 gv7 gv8 gv9 gv10 gv11) (roundK impl_reduced_su_v2.kp 1 0 L0 (impl_reduced_su_v2.k0 N K gv2 gv3)) = (impl_reduced_su_v2.b0 N (fun d0 d1 => K (.slice true 1 0 d0 .whole 8) [⟨false, .flat gv2 (.ints .u8 gv3)⟩, ⟨true, .flat 0 (.ints .u8 d1)⟩]) (fun x6 gv7 gv8 gv9 gv10 gv11 => L0 (impl_reduced_su_v2.st0 list1 gv2 gv3 rv4 rv5 x6 gv7 gv8 gv9 gv10 gv11)) (fun ov14 ov15 ov16 ov17 ov18 => (impl_reduced_su_v2.k0 N K gv2 gv3) (.exit 0) (impl_reduced_su_v2.sx0_0 gv2 gv3 rv4 rv5 ov14 ov15 ov16 ov17 ov18)) list1 gv3 x6 gv7 gv8 gv9 gv10 gv11) := by
  have h := impl_reduced_su_v2.b0_gen N K L0 (impl_reduced_su_v2.k0 N K gv2 gv3) list1 gv2 gv3 rv4 rv5 x6 gv7 gv8 gv9 gv10 gv11
  rw [impl_reduced_su_v2.k0_mix] at h
  exact h
theorem impl_reduced_su_v2.a0_0_eq {ρ : Type} (N : Nat) (K : AV → Heap → Option ρ) (gv2 : Nat) (gv3 : Nat → Int) (rv4 : Nat → Int) (rv5 : Nat → Int) (ov14 : Nat) (ov15 : Nat) (ov16 : Nat → Nat) (ov17 : Nat → Nat) (ov18 : Nat → Int) :
    (impl_reduced_su_v2.k0 N K gv2 gv3) (.exit 0) (impl_reduced_su_v2.sx0_0 gv2 gv3 rv4 rv5 ov14 ov15 ov16 ov17 ov18) = (impl_reduced_su_v2.a0_0 N (fun d0 d1 => K (.slice true 1 0 d0 .whole 8) [⟨false, .flat gv2 (.ints .u8 gv3)⟩, ⟨true, .flat 0 (.ints .u8 d1)⟩]) (fun rv20 rv22 rv23 rv24 rv25 outv27 x28 gv29 => xloop (xcode (E38 N) ents impl_reduced_su_v2.kp 1 N (cL (cK (cB (cA (cB (cB (cB (cB (cB impl_reduced_su_v2.bd))))))))) 2) impl_reduced_su_v2.kp 1 2 N (impl_reduced_su_v2.st1 gv2 gv3 rv20 rv22 rv23 rv24 rv25 outv27 x28 gv29) (impl_reduced_su_v2.k1 N K gv2 gv3)) rv4 rv5 ov14 ov15 ov16 ov17 ov18) := by kernel_rfl
theorem impl_reduced_su_v2.l1_eq {ρ : Type} (N : Nat) (K : AV → Heap → Option ρ) (gv2 : Nat) (gv3 : Nat → Int) (rv20 : Nat) (rv22 : Nat) (rv23 : Nat → Nat) (rv24 : Nat → Nat) (rv25 : Nat → Int) :
    ∀ (m : Nat) (outv27 : Nat) (x28 : Int) (gv29 : Nat → Int), xloop (xcode (E38 N) ents impl_reduced_su_v2.kp 1 N (cL (cK (cB (cA (cB (cB (cB (cB (cB impl_reduced_su_v2.bd))))))))) 2) impl_reduced_su_v2.kp 1 2 m (impl_reduced_su_v2.st1 gv2 gv3 rv20 rv22 rv23 rv24 rv25 outv27 x28 gv29) (impl_reduced_su_v2.k1 N K gv2 gv3) = (impl_reduced_su_v2.l1 N (fun d0 d1 => K (.slice true 1 0 d0 .whole 8) [⟨false, .flat gv2 (.ints .u8 gv3)⟩, ⟨true, .flat 0 (.ints .u8 d1)⟩]) rv20 rv23 rv24 rv25 (fun ov30 ov31 => (impl_reduced_su_v2.k1 N K gv2 gv3) (.exit 2) (impl_reduced_su_v2.sx1_0 gv2 gv3 ov30 ov31)) m outv27 x28 gv29) := by
  intro m
  induction m with
  | zero => intros; rfl
  | succ m ih =>
    intro outv27 x28 gv29
    refine (impl_reduced_su_v2.b1_eq N K (fun s => xloop (xcode (E38 N) ents impl_reduced_su_v2.kp 1 N (cL (cK (cB (cA (cB (cB (cB (cB (cB impl_reduced_su_v2.bd))))))))) 2) impl_reduced_su_v2.kp 1 2 m s (impl_reduced_su_v2.k1 N K gv2 gv3)) gv2 gv3 rv20 rv22 rv23 rv24 rv25 outv27 x28 gv29).trans ?_
    simp only [ih]
    kernel_rfl
theorem impl_reduced_su_v2.l0_eq {ρ : Type} (N : Nat) (K : AV → Heap → Option ρ) (list1 : Nat) (gv2 : Nat) (gv3 : Nat → Int) (rv4 : Nat → Int) (rv5 : Nat → Int) :
    ∀ (m : Nat) (x6 : Int) (gv7 : Nat) (gv8 : Nat) (gv9 : Nat → Nat) (gv10 : Nat → Nat) (gv11 : Nat → Int), xloop (xcode (E38 N) ents impl_reduced_su_v2.kp 1 N (cL (cK (cB (cA (cB (cB impl_reduced_su_v2.bd)))))) 0) impl_reduced_su_v2.kp 1 0 m (impl_reduced_su_v2.st0 list1 gv2 gv3 rv4 rv5 x6 gv7 gv8 gv9 gv10 gv11) (impl_reduced_su_v2.k0 N K gv2 gv3) = (impl_reduced_su_v2.l0 N (fun d0 d1 => K (.slice true 1 0 d0 .whole 8) [⟨false, .flat gv2 (.ints .u8 gv3)⟩, ⟨true, .flat 0 (.ints .u8 d1)⟩]) list1 gv3 (fun ov14 ov15 ov16 ov17 ov18 => (impl_reduced_su_v2.k0 N K gv2 gv3) (.exit 0) (impl_reduced_su_v2.sx0_0 gv2 gv3 rv4 rv5 ov14 ov15 ov16 ov17 ov18)) m x6 gv7 gv8 gv9 gv10 gv11) := by
  intro m
  induction m with
  | zero => intros; rfl
  | succ m ih =>
    intro x6 gv7 gv8 gv9 gv10 gv11
    refine (impl_reduced_su_v2.b0_eq N K (fun s => xloop (xcode (E38 N) ents impl_reduced_su_v2.kp 1 N (cL (cK (cB (cA (cB (cB impl_reduced_su_v2.bd)))))) 0) impl_reduced_su_v2.kp 1 0 m s (impl_reduced_su_v2.k0 N K gv2 gv3)) list1 gv2 gv3 rv4 rv5 x6 gv7 gv8 gv9 gv10 gv11).trans ?_
    simp only [ih]
    kernel_rfl
theorem impl_reduced_su_v2.s_eq {ρ : Type} (N : Nat) (K : AV → Heap → Option ρ) (p0 : Int) (list1 : Nat) (gv2 : Nat) (gv3 : Nat → Int) :
    xbody (E38 N) ents impl_reduced_su_v2.kp N Go.Proofs.Tryz.f26 impl_reduced_su_v2.bd [.int .i64 (p0), .slice false 0 0 list1 .unk 8] [⟨false, .flat gv2 (.ints .u8 gv3)⟩] K = (impl_reduced_su_v2.s N (fun d0 d1 => K (.slice true 1 0 d0 .whole 8) [⟨false, .flat gv2 (.ints .u8 gv3)⟩, ⟨true, .flat 0 (.ints .u8 d1)⟩]) (fun rv4 rv5 x6 gv7 gv8 gv9 gv10 gv11 => xloop (xcode (E38 N) ents impl_reduced_su_v2.kp 1 N (cL (cK (cB (cA (cB (cB impl_reduced_su_v2.bd)))))) 0) impl_reduced_su_v2.kp 1 0 N (impl_reduced_su_v2.st0 list1 gv2 gv3 rv4 rv5 x6 gv7 gv8 gv9 gv10 gv11) (impl_reduced_su_v2.k0 N K gv2 gv3)) p0) := by kernel_rfl
theorem impl_reduced_su_v2.eq {ρ : Type} (N : Nat) (K : AV → Heap → Option ρ) (p0 : Int) (list1 : Nat) (gv2 : Nat) (gv3 : Nat → Int) :
    xbody (E38 N) ents impl_reduced_su_v2.kp N Go.Proofs.Tryz.f26 impl_reduced_su_v2.bd [.int .i64 (p0), .slice false 0 0 list1 .unk 8] [⟨false, .flat gv2 (.ints .u8 gv3)⟩] K = (impl_reduced_su_v2 N (fun d0 d1 => K (.slice true 1 0 d0 .whole 8) [⟨false, .flat gv2 (.ints .u8 gv3)⟩, ⟨true, .flat 0 (.ints .u8 d1)⟩]) p0 list1 gv2 gv3) := by
  refine (impl_reduced_su_v2.s_eq N K p0 list1 gv2 gv3).trans ?_
  simp only [impl_reduced_su_v2.l0_eq, impl_reduced_su_v2.a0_0_eq, impl_reduced_su_v2.l1_eq, impl_reduced_su_v2.a1_0_eq]
  kernel_rfl
def impl_reduced_su.en (N : Nat) (ρ : Type) : List AV → Heap → (AV → Heap → Option ρ) → Option ρ
  | [.int .i64 (p0), .slice true 0 0 list1 .unk 8], [⟨false, .flat gv2 (.ints .u8 gv3)⟩], K => (impl_reduced_su N (fun d0 d1 => K (.slice true 1 0 d0 .whole 8) [⟨false, .flat gv2 (.ints .u8 gv3)⟩, ⟨true, .flat 0 (.ints .u8 d1)⟩]) p0 list1 gv2 gv3)
  | [.int .i64 (p0), .slice false 0 0 list1 .unk 8], [⟨false, .flat gv2 (.ints .u8 gv3)⟩], K => (impl_reduced_su_v2 N (fun d0 d1 => K (.slice true 1 0 d0 .whole 8) [⟨false, .flat gv2 (.ints .u8 gv3)⟩, ⟨true, .flat 0 (.ints .u8 d1)⟩]) p0 list1 gv2 gv3)
  | _, _, _ => none
theorem impl_reduced_su.en_ok (N : Nat) (hE : EnvOk (E38 N) ents) (ρ : Type) (args : List AV) (sh : Heap) (K : AV → Heap → Option ρ) (r : ρ) (h : impl_reduced_su.en N ρ args sh K = some r) : ∃ v sh', K v sh' = some r ∧ FnOk (E38 N).P 26 args sh v sh' := by
  unfold impl_reduced_su.en at h
  split at h
  · exact fn_ok hE (kp := impl_reduced_su.kp) (N := N) Go.Proofs.Tryz.func26 (c := impl_reduced_su.bd) (by kernel_rfl) ((impl_reduced_su.eq N _ _ _ _ _).trans h)
  · exact fn_ok hE (kp := impl_reduced_su_v2.kp) (N := N) Go.Proofs.Tryz.func26 (c := impl_reduced_su_v2.bd) (by kernel_rfl) ((impl_reduced_su_v2.eq N _ _ _ _ _).trans h)
  · cases h
def E39 (N : Nat) : Env := (E38 N).add 26 (impl_reduced_su.en N)
theorem E39_ok (N : Nat) : EnvOk (E39 N) ents := Env.add_ok (E38_ok N) (impl_reduced_su.en_ok N (E38_ok N))
def impl_ReduceVectors_su.kp : Keeps := ⟨[], [], [(.slot 6, .unk (.ints .u8 (fun _ => 0)) 8)]⟩
def impl_ReduceVectors_su.bd : Code := bodyOf Go.Proofs.Tryz.f7
def impl_ReduceVectors_su.fin {ρ : Type} (N : Nat) (K : AV → Heap → Option ρ) (gv3 : Nat) (gv4 : Nat → Int) : XE → St → Option ρ := finK (E39 N) impl_ReduceVectors_su.kp.fins Go.Proofs.Tryz.f7 [⟨false, .flat gv3 (.ints .u8 gv4)⟩] K
theorem impl_ReduceVectors_su.eqb {ρ : Type} (N : Nat) (K : AV → Heap → Option ρ) (p0 : Int) (nv1 : Int) (list2 : Nat) (gv3 : Nat) (gv4 : Nat → Int) :
    xbody (E39 N) ents impl_ReduceVectors_su.kp N Go.Proofs.Tryz.f7 impl_ReduceVectors_su.bd [.int .i64 (p0), .int .i64 (nv1), .slice true 0 0 list2 .unk 8] [⟨false, .flat gv3 (.ints .u8 gv4)⟩] K = (impl_ReduceVectors_su.bdy N (fun d0 d1 d2 => K (.tup [.slice false 1 0 d0 .unk 8, .int .i64 (d1)]) [⟨false, .flat gv3 (.ints .u8 gv4)⟩, ⟨true, .flat 0 (.ints .u8 d2)⟩]) p0 nv1 list2 gv3 gv4) := by kernel_rfl
theorem impl_ReduceVectors_su.eq {ρ : Type} (N : Nat) (K : AV → Heap → Option ρ) (p0 : Int) (nv1 : Int) (list2 : Nat) (gv3 : Nat) (gv4 : Nat → Int) :
    xbody (E39 N) ents impl_ReduceVectors_su.kp N Go.Proofs.Tryz.f7 impl_ReduceVectors_su.bd [.int .i64 (p0), .int .i64 (nv1), .slice true 0 0 list2 .unk 8] [⟨false, .flat gv3 (.ints .u8 gv4)⟩] K = (impl_ReduceVectors_su N (fun d0 d1 d2 => K (.tup [.slice false 1 0 d0 .unk 8, .int .i64 (d1)]) [⟨false, .flat gv3 (.ints .u8 gv4)⟩, ⟨true, .flat 0 (.ints .u8 d2)⟩]) p0 nv1 list2 gv3 gv4) :=
  (impl_ReduceVectors_su.eqb N K p0 nv1 list2 gv3 gv4).trans (impl_ReduceVectors_su.opq _ _ _ _ _ _ _).symm
def impl_ReduceVectors_su_v2.kp : Keeps := ⟨[], [], [(.slot 6, .unk (.ints .u8 (fun _ => 0)) 8)]⟩
def impl_ReduceVectors_su_v2.bd : Code := bodyOf Go.Proofs.Tryz.f7
def impl_ReduceVectors_su_v2.fin {ρ : Type} (N : Nat) (K : AV → Heap → Option ρ) (gv3 : Nat) (gv4 : Nat → Int) : XE → St → Option ρ := finK (E39 N) impl_ReduceVectors_su_v2.kp.fins Go.Proofs.Tryz.f7 [⟨false, .flat gv3 (.ints .u8 gv4)⟩] K
theorem impl_ReduceVectors_su_v2.eqb {ρ : Type} (N : Nat) (K : AV → Heap → Option ρ) (p0 : Int) (nv1 : Int) (list2 : Nat) (gv3 : Nat) (gv4 : Nat → Int) :
    xbody (E39 N) ents impl_ReduceVectors_su_v2.kp N Go.Proofs.Tryz.f7 impl_ReduceVectors_su_v2.bd [.int .i64 (p0), .int .i64 (nv1), .slice false 0 0 list2 .unk 8] [⟨false, .flat gv3 (.ints .u8 gv4)⟩] K = (impl_ReduceVectors_su_v2.bdy N (fun d0 d1 d2 => K (.tup [.slice false 1 0 d0 .unk 8, .int .i64 (d1)]) [⟨false, .flat gv3 (.ints .u8 gv4)⟩, ⟨true, .flat 0 (.ints .u8 d2)⟩]) p0 nv1 list2 gv3 gv4) := by kernel_rfl
theorem impl_ReduceVectors_su_v2.eq {ρ : Type} (N : Nat) (K : AV → Heap → Option ρ) (p0 : Int) (nv1 : Int) (list2 : Nat) (gv3 : Nat) (gv4 : Nat → Int) :
    xbody (E39 N) ents impl_ReduceVectors_su_v2.kp N Go.Proofs.Tryz.f7 impl_ReduceVectors_su_v2.bd [.int .i64 (p0), .int .i64 (nv1), .slice false 0 0 list2 .unk 8] [⟨false, .flat gv3 (.ints .u8 gv4)⟩] K = (impl_ReduceVectors_su_v2 N (fun d0 d1 d2 => K (.tup [.slice false 1 0 d0 .unk 8, .int .i64 (d1)]) [⟨false, .flat gv3 (.ints .u8 gv4)⟩, ⟨true, .flat 0 (.ints .u8 d2)⟩]) p0 nv1 list2 gv3 gv4) :=
  (impl_ReduceVectors_su_v2.eqb N K p0 nv1 list2 gv3 gv4).trans (impl_ReduceVectors_su_v2.opq _ _ _ _ _ _ _).symm
def impl_ReduceVectors_su.en (N : Nat) (ρ : Type) : List AV → Heap → (AV → Heap → Option ρ) → Option ρ
  | [.int .i64 (p0), .int .i64 (nv1), .slice true 0 0 list2 .unk 8], [⟨false, .flat gv3 (.ints .u8 gv4)⟩], K => (impl_ReduceVectors_su N (fun d0 d1 d2 => K (.tup [.slice false 1 0 d0 .unk 8, .int .i64 (d1)]) [⟨false, .flat gv3 (.ints .u8 gv4)⟩, ⟨true, .flat 0 (.ints .u8 d2)⟩]) p0 nv1 list2 gv3 gv4)
  | [.int .i64 (p0), .int .i64 (nv1), .slice false 0 0 list2 .unk 8], [⟨false, .flat gv3 (.ints .u8 gv4)⟩], K => (impl_ReduceVectors_su_v2 N (fun d0 d1 d2 => K (.tup [.slice false 1 0 d0 .unk 8, .int .i64 (d1)]) [⟨false, .flat gv3 (.ints .u8 gv4)⟩, ⟨true, .flat 0 (.ints .u8 d2)⟩]) p0 nv1 list2 gv3 gv4)
  | _, _, _ => none
theorem impl_ReduceVectors_su.en_ok (N : Nat) (hE : EnvOk (E39 N) ents) (ρ : Type) (args : List AV) (sh : Heap) (K : AV → Heap → Option ρ) (r : ρ) (h : impl_ReduceVectors_su.en N ρ args sh K = some r) : ∃ v sh', K v sh' = some r ∧ FnOk (E39 N).P 7 args sh v sh' := by
  unfold impl_ReduceVectors_su.en at h
  split at h
  · exact fn_ok hE (kp := impl_ReduceVectors_su.kp) (N := N) Go.Proofs.Tryz.func7 (c := impl_ReduceVectors_su.bd) (by kernel_rfl) ((impl_ReduceVectors_su.eq N _ _ _ _ _ _).trans h)
  · exact fn_ok hE (kp := impl_ReduceVectors_su_v2.kp) (N := N) Go.Proofs.Tryz.func7 (c := impl_ReduceVectors_su_v2.bd) (by kernel_rfl) ((impl_ReduceVectors_su_v2.eq N _ _ _ _ _ _).trans h)
  · cases h
def E40 (N : Nat) : Env := (E39 N).add 7 (impl_ReduceVectors_su.en N)
theorem E40_ok (N : Nat) : EnvOk (E40 N) ents := Env.add_ok (E39_ok N) (impl_ReduceVectors_su.en_ok N (E39_ok N))
def laws_vectors5_susu.kp : Keeps := ⟨[(0, [0, 1, 5], [], [])], [(0, [], [], [])], []⟩
def laws_vectors5_susu.bd : Code := bodyOf Go.Proofs.Tryz.f8
def laws_vectors5_susu.fin {ρ : Type} (N : Nat) (K : AV → Heap → Option ρ) (gv2 : Nat) (gv3 : Nat → Int) (gv4 : Nat) (gv5 : Nat → Int) : XE → St → Option ρ := finK (E40 N) laws_vectors5_susu.kp.fins Go.Proofs.Tryz.f8 [⟨false, .flat gv2 (.ints .u8 gv3)⟩, ⟨false, .flat gv4 (.ints .u8 gv5)⟩] K
def laws_vectors5_susu.k0 {ρ : Type} (N : Nat) (K : AV → Heap → Option ρ) (gv2 : Nat) (gv3 : Nat → Int) (gv4 : Nat) (gv5 : Nat → Int) : XE → St → Option ρ := (blockK laws_vectors5_susu.kp 2 0 (seqK (xcode (E40 N) ents laws_vectors5_susu.kp 2 N (cB (cB (cB laws_vectors5_susu.bd))) 0) (laws_vectors5_susu.fin N K gv2 gv3 gv4 gv5)))
theorem laws_vectors5_susu.k0_mix {ρ : Type} (N : Nat) (K : AV → Heap → Option ρ) (gv2 : Nat) (gv3 : Nat → Int) (gv4 : Nat) (gv5 : Nat → Int) : mixK (laws_vectors5_susu.fin N K gv2 gv3 gv4 gv5 .ret) (laws_vectors5_susu.k0 N K gv2 gv3 gv4 gv5) = (laws_vectors5_susu.k0 N K gv2 gv3 gv4 gv5) := by
  funext e s; cases e <;> kernel_rfl
def laws_vectors5_susu.st0 (av0 : Nat) (bv1 : Nat) (gv2 : Nat) (gv3 : Nat → Int) (gv4 : Nat) (gv5 : Nat → Int) (i6 : Int) : St := ⟨sl 26 [(0, .slice false 0 0 av0 .unk 8), (1, .slice false 1 0 bv1 .unk 8), (5, .int .i64 (i6))], [⟨false, .flat gv2 (.ints .u8 gv3)⟩, ⟨false, .flat gv4 (.ints .u8 gv5)⟩]⟩
def laws_vectors5_susu.sx0_0 (gv2 : Nat) (gv3 : Nat → Int) (gv4 : Nat) (gv5 : Nat → Int) : St := ⟨sl 26 [], [⟨false, .flat gv2 (.ints .u8 gv3)⟩, ⟨false, .flat gv4 (.ints .u8 gv5)⟩]⟩
theorem laws_vectors5_susu.b0_gen {ρ : Type} (N : Nat) (K : AV → Heap → Option ρ) (L0 : St → Option ρ) (kv : XE → St → Option ρ) (av0 : Nat) (bv1 : Nat) (gv2 : Nat) (gv3 : Nat → Int) (gv4 : Nat) (gv5 : Nat → Int) (i6 : Int) :
    xcode (E40 N) ents laws_vectors5_susu.kp 2 N (cL (cK (cB (cA (cB (cB laws_vectors5_susu.bd)))))) 0 (laws_vectors5_susu.st0 av0 bv1 gv2 gv3 gv4 gv5 i6) (roundK laws_vectors5_susu.kp 2 0 L0 (mixK (laws_vectors5_susu.fin N K gv2 gv3 gv4 gv5 .ret) kv)) = (laws_vectors5_susu.b0 N (fun d0 => K (.bool (d0)) [⟨false, .flat gv2 (.ints .u8 gv3)⟩, ⟨false, .flat gv4 (.ints .u8 gv5)⟩]) (fun i6 => L0 (laws_vectors5_susu.st0 av0 bv1 gv2 gv3 gv4 gv5 i6)) (kv (.exit 0) (laws_vectors5_susu.sx0_0 gv2 gv3 gv4 gv5)) av0 bv1 gv3 gv5 i6) := by kernel_rfl
theorem laws_vectors5_susu.b0_eq {ρ : Type} (N : Nat) (K : AV → Heap → Option ρ) (L0 : St → Option ρ) (av0 : Nat) (bv1 : Nat) (gv2 : Nat) (gv3 : Nat → Int) (gv4 : Nat) (gv5 : Nat → Int) (i6 : Int) :
    xcode (E40 N) ents laws_vectors5_susu.kp 2 N (cL (cK (cB (cA (cB (cB laws_vectors5_susu.bd)))))) 0 (laws_vectors5_susu.st0 av0 bv1 gv2 gv3 gv4 gv5 i6) (roundK laws_vectors5_susu.kp 2 0 L0 (laws_vectors5_susu.k0 N K gv2 gv3 gv4 gv5)) = (laws_vectors5_susu.b0 N (fun d0 => K (.bool (d0)) [⟨false, .flat gv2 (.ints .u8 gv3)⟩, ⟨false, .flat gv4 (.ints .u8 gv5)⟩]) (fun i6 => L0 (laws_vectors5_susu.st0 av0 bv1 gv2 gv3 gv4 gv5 i6)) ((laws_vectors5_susu.k0 N K gv2 gv3 gv4 gv5) (.exit 0) (laws_vectors5_susu.sx0_0 gv2 gv3 gv4 gv5)) av0 bv1 gv3 gv5 i6) := by
  have h := laws_vectors5_susu.b0_gen N K L0 (laws_vectors5_susu.k0 N K gv2 gv3 gv4 gv5) av0 bv1 gv2 gv3 gv4 gv5 i6
  rw [laws_vectors5_susu.k0_mix] at h
  exact h
theorem laws_vectors5_susu.a0_0_eq {ρ : Type} (N : Nat) (K : AV → Heap → Option ρ) (gv2 : Nat) (gv3 : Nat → Int) (gv4 : Nat) (gv5 : Nat → Int) :
    (laws_vectors5_susu.k0 N K gv2 gv3 gv4 gv5) (.exit 0) (laws_vectors5_susu.sx0_0 gv2 gv3 gv4 gv5) = (laws_vectors5_susu.a0_0 N (fun d0 => K (.bool (d0)) [⟨false, .flat gv2 (.ints .u8 gv3)⟩, ⟨false, .flat gv4 (.ints .u8 gv5)⟩])) := by kernel_rfl
theorem laws_vectors5_susu.l0_eq {ρ : Type} (N : Nat) (K : AV → Heap → Option ρ) (av0 : Nat) (bv1 : Nat) (gv2 : Nat) (gv3 : Nat → Int) (gv4 : Nat) (gv5 : Nat → Int) :
    ∀ (m : Nat) (i6 : Int), xloop (xcode (E40 N) ents laws_vectors5_susu.kp 2 N (cL (cK (cB (cA (cB (cB laws_vectors5_susu.bd)))))) 0) laws_vectors5_susu.kp 2 0 m (laws_vectors5_susu.st0 av0 bv1 gv2 gv3 gv4 gv5 i6) (laws_vectors5_susu.k0 N K gv2 gv3 gv4 gv5) = (laws_vectors5_susu.l0 N (fun d0 => K (.bool (d0)) [⟨false, .flat gv2 (.ints .u8 gv3)⟩, ⟨false, .flat gv4 (.ints .u8 gv5)⟩]) av0 bv1 gv3 gv5 ((laws_vectors5_susu.k0 N K gv2 gv3 gv4 gv5) (.exit 0) (laws_vectors5_susu.sx0_0 gv2 gv3 gv4 gv5)) m i6) := by
  intro m
  induction m with
  | zero => intros; rfl
  | succ m ih =>
    intro i6
    refine (laws_vectors5_susu.b0_eq N K (fun s => xloop (xcode (E40 N) ents laws_vectors5_susu.kp 2 N (cL (cK (cB (cA (cB (cB laws_vectors5_susu.bd)))))) 0) laws_vectors5_susu.kp 2 0 m s (laws_vectors5_susu.k0 N K gv2 gv3 gv4 gv5)) av0 bv1 gv2 gv3 gv4 gv5 i6).trans ?_
    simp only [ih]
    kernel_rfl
theorem laws_vectors5_susu.s_eq {ρ : Type} (N : Nat) (K : AV → Heap → Option ρ) (av0 : Nat) (bv1 : Nat) (gv2 : Nat) (gv3 : Nat → Int) (gv4 : Nat) (gv5 : Nat → Int) :
    xbody (E40 N) ents laws_vectors5_susu.kp N Go.Proofs.Tryz.f8 laws_vectors5_susu.bd [.slice false 0 0 av0 .unk 8, .slice false 1 0 bv1 .unk 8] [⟨false, .flat gv2 (.ints .u8 gv3)⟩, ⟨false, .flat gv4 (.ints .u8 gv5)⟩] K = (laws_vectors5_susu.s N (fun d0 => K (.bool (d0)) [⟨false, .flat gv2 (.ints .u8 gv3)⟩, ⟨false, .flat gv4 (.ints .u8 gv5)⟩]) (fun i6 => xloop (xcode (E40 N) ents laws_vectors5_susu.kp 2 N (cL (cK (cB (cA (cB (cB laws_vectors5_susu.bd)))))) 0) laws_vectors5_susu.kp 2 0 N (laws_vectors5_susu.st0 av0 bv1 gv2 gv3 gv4 gv5 i6) (laws_vectors5_susu.k0 N K gv2 gv3 gv4 gv5)) av0 bv1) := by kernel_rfl
theorem laws_vectors5_susu.eqb {ρ : Type} (N : Nat) (K : AV → Heap → Option ρ) (av0 : Nat) (bv1 : Nat) (gv2 : Nat) (gv3 : Nat → Int) (gv4 : Nat) (gv5 : Nat → Int) :
    xbody (E40 N) ents laws_vectors5_susu.kp N Go.Proofs.Tryz.f8 laws_vectors5_susu.bd [.slice false 0 0 av0 .unk 8, .slice false 1 0 bv1 .unk 8] [⟨false, .flat gv2 (.ints .u8 gv3)⟩, ⟨false, .flat gv4 (.ints .u8 gv5)⟩] K = (laws_vectors5_susu.bdy N (fun d0 => K (.bool (d0)) [⟨false, .flat gv2 (.ints .u8 gv3)⟩, ⟨false, .flat gv4 (.ints .u8 gv5)⟩]) av0 bv1 gv2 gv3 gv4 gv5) := by
  refine (laws_vectors5_susu.s_eq N K av0 bv1 gv2 gv3 gv4 gv5).trans ?_
  simp only [laws_vectors5_susu.l0_eq, laws_vectors5_susu.a0_0_eq]
  kernel_rfl
theorem laws_vectors5_susu.eq {ρ : Type} (N : Nat) (K : AV → Heap → Option ρ) (av0 : Nat) (bv1 : Nat) (gv2 : Nat) (gv3 : Nat → Int) (gv4 : Nat) (gv5 : Nat → Int) :
    xbody (E40 N) ents laws_vectors5_susu.kp N Go.Proofs.Tryz.f8 laws_vectors5_susu.bd [.slice false 0 0 av0 .unk 8, .slice false 1 0 bv1 .unk 8] [⟨false, .flat gv2 (.ints .u8 gv3)⟩, ⟨false, .flat gv4 (.ints .u8 gv5)⟩] K = (laws_vectors5_susu N (fun d0 => K (.bool (d0)) [⟨false, .flat gv2 (.ints .u8 gv3)⟩, ⟨false, .flat gv4 (.ints .u8 gv5)⟩]) av0 bv1 gv2 gv3 gv4 gv5) :=
  (laws_vectors5_susu.eqb N K av0 bv1 gv2 gv3 gv4 gv5).trans (laws_vectors5_susu.opq _ _ _ _ _ _ _ _).symm
def laws_vectors5_susu.en (N : Nat) (ρ : Type) : List AV → Heap → (AV → Heap → Option ρ) → Option ρ
  | [.slice false 0 0 av0 .unk 8, .slice false 1 0 bv1 .unk 8], [⟨false, .flat gv2 (.ints .u8 gv3)⟩, ⟨false, .flat gv4 (.ints .u8 gv5)⟩], K => (laws_vectors5_susu N (fun d0 => K (.bool (d0)) [⟨false, .flat gv2 (.ints .u8 gv3)⟩, ⟨false, .flat gv4 (.ints .u8 gv5)⟩]) av0 bv1 gv2 gv3 gv4 gv5)
  | _, _, _ => none
theorem laws_vectors5_susu.en_ok (N : Nat) (hE : EnvOk (E40 N) ents) (ρ : Type) (args : List AV) (sh : Heap) (K : AV → Heap → Option ρ) (r : ρ) (h : laws_vectors5_susu.en N ρ args sh K = some r) : ∃ v sh', K v sh' = some r ∧ FnOk (E40 N).P 8 args sh v sh' := by
  unfold laws_vectors5_susu.en at h
  split at h
  · exact fn_ok hE (kp := laws_vectors5_susu.kp) (N := N) Go.Proofs.Tryz.func8 (c := laws_vectors5_susu.bd) (by kernel_rfl) ((laws_vectors5_susu.eq N _ _ _ _ _ _ _).trans h)
  · cases h
def E41 (N : Nat) : Env := (E40 N).add 8 (laws_vectors5_susu.en N)
theorem E41_ok (N : Nat) : EnvOk (E41 N) ents := Env.add_ok (E40_ok N) (laws_vectors5_susu.en_ok N (E40_ok N))
def spec_l01Near.kp : Keeps := ⟨[], [], []⟩
def spec_l01Near.bd : Code := bodyOf Go.Proofs.Tryz.f44
def spec_l01Near.fin {ρ : Type} (N : Nat) (K : AV → Heap → Option ρ) (gv1 : Nat) (gv2 : Nat → Int) (gv3 : Nat → Int) (gv4 : Nat) (gv5 : Nat → Int) : XE → St → Option ρ := finK (E41 N) spec_l01Near.kp.fins Go.Proofs.Tryz.f44 [⟨false, .avs [.slice false 3 0 gv1 .unk 1]⟩, ⟨true, .flat 1 (.ints .i64 gv2)⟩, ⟨true, .flat 1 (.ints .u64 gv3)⟩, ⟨false, .flat gv4 (.ints .u8 gv5)⟩] K
theorem spec_l01Near.eq {ρ : Type} (N : Nat) (K : AV → Heap → Option ρ) (most0 : Int) (gv1 : Nat) (gv2 : Nat → Int) (gv3 : Nat → Int) (gv4 : Nat) (gv5 : Nat → Int) :
    xbody (E41 N) ents spec_l01Near.kp N Go.Proofs.Tryz.f44 spec_l01Near.bd [.sptr [(0, 1), (1, 1), (2, 1)], .int .i64 (most0)] [⟨false, .avs [.slice false 3 0 gv1 .unk 1]⟩, ⟨true, .flat 1 (.ints .i64 gv2)⟩, ⟨true, .flat 1 (.ints .u64 gv3)⟩, ⟨false, .flat gv4 (.ints .u8 gv5)⟩] K = (spec_l01Near N (fun d0 d1 d2 => K (.int .i64 (d0)) [⟨false, .avs [.slice false 3 0 gv1 .unk 1]⟩, ⟨true, .flat 1 (.ints .i64 d1)⟩, ⟨true, .flat 1 (.ints .u64 d2)⟩, ⟨false, .flat gv4 (.ints .u8 gv5)⟩]) most0 gv1 gv2 gv3 gv4 gv5) := by kernel_rfl
def spec_l01Near.en (N : Nat) (ρ : Type) : List AV → Heap → (AV → Heap → Option ρ) → Option ρ
  | [.sptr [(0, 1), (1, 1), (2, 1)], .int .i64 (most0)], [⟨false, .avs [.slice false 3 0 gv1 .unk 1]⟩, ⟨true, .flat 1 (.ints .i64 gv2)⟩, ⟨true, .flat 1 (.ints .u64 gv3)⟩, ⟨false, .flat gv4 (.ints .u8 gv5)⟩], K => (spec_l01Near N (fun d0 d1 d2 => K (.int .i64 (d0)) [⟨false, .avs [.slice false 3 0 gv1 .unk 1]⟩, ⟨true, .flat 1 (.ints .i64 d1)⟩, ⟨true, .flat 1 (.ints .u64 d2)⟩, ⟨false, .flat gv4 (.ints .u8 gv5)⟩]) most0 gv1 gv2 gv3 gv4 gv5)
  | _, _, _ => none
theorem spec_l01Near.en_ok (N : Nat) (hE : EnvOk (E41 N) ents) (ρ : Type) (args : List AV) (sh : Heap) (K : AV → Heap → Option ρ) (r : ρ) (h : spec_l01Near.en N ρ args sh K = some r) : ∃ v sh', K v sh' = some r ∧ FnOk (E41 N).P 44 args sh v sh' := by
  unfold spec_l01Near.en at h
  split at h
  · exact fn_ok hE (kp := spec_l01Near.kp) (N := N) Go.Proofs.Tryz.func44 (c := spec_l01Near.bd) (by kernel_rfl) ((spec_l01Near.eq N _ _ _ _ _ _ _).trans h)
  · cases h
def E42 (N : Nat) : Env := (E41 N).add 44 (spec_l01Near.en N)
theorem E42_ok (N : Nat) : EnvOk (E42 N) ents := Env.add_ok (E41_ok N) (spec_l01Near.en_ok N (E41_ok N))
def spec_DrawIsVector_su.kp : Keeps := ⟨[], [], []⟩
def spec_DrawIsVector_su.bd : Code := bodyOf Go.Proofs.Tryz.f27
def spec_DrawIsVector_su.fin {ρ : Type} (N : Nat) (K : AV → Heap → Option ρ) (gv1 : Nat) (gv2 : Nat → Int) : XE → St → Option ρ := finK (E42 N) spec_DrawIsVector_su.kp.fins Go.Proofs.Tryz.f27 [⟨false, .flat gv1 (.ints .u8 gv2)⟩] K
theorem spec_DrawIsVector_su.eq {ρ : Type} (N : Nat) (K : AV → Heap → Option ρ) (code0 : Nat) (gv1 : Nat) (gv2 : Nat → Int) :
    xbody (E42 N) ents spec_DrawIsVector_su.kp N Go.Proofs.Tryz.f27 spec_DrawIsVector_su.bd [.slice false 0 0 code0 .unk 1] [⟨false, .flat gv1 (.ints .u8 gv2)⟩] K = (spec_DrawIsVector_su N (fun d0 d1 d2 => K (.tup [.int .i64 (d0), .int .i64 (d1), .agg [⟨.u8, 8, d2⟩]]) [⟨false, .flat gv1 (.ints .u8 gv2)⟩]) code0 gv1 gv2) := by kernel_rfl
def spec_DrawIsVector_su.en (N : Nat) (ρ : Type) : List AV → Heap → (AV → Heap → Option ρ) → Option ρ
  | [.slice false 0 0 code0 .unk 1], [⟨false, .flat gv1 (.ints .u8 gv2)⟩], K => (spec_DrawIsVector_su N (fun d0 d1 d2 => K (.tup [.int .i64 (d0), .int .i64 (d1), .agg [⟨.u8, 8, d2⟩]]) [⟨false, .flat gv1 (.ints .u8 gv2)⟩]) code0 gv1 gv2)
  | _, _, _ => none
theorem spec_DrawIsVector_su.en_ok (N : Nat) (hE : EnvOk (E42 N) ents) (ρ : Type) (args : List AV) (sh : Heap) (K : AV → Heap → Option ρ) (r : ρ) (h : spec_DrawIsVector_su.en N ρ args sh K = some r) : ∃ v sh', K v sh' = some r ∧ FnOk (E42 N).P 27 args sh v sh' := by
  unfold spec_DrawIsVector_su.en at h
  split at h
  · exact fn_ok hE (kp := spec_DrawIsVector_su.kp) (N := N) Go.Proofs.Tryz.func27 (c := spec_DrawIsVector_su.bd) (by kernel_rfl) ((spec_DrawIsVector_su.eq N _ _ _ _).trans h)
  · cases h
def E43 (N : Nat) : Env := (E42 N).add 27 (spec_DrawIsVector_su.en N)
theorem E43_ok (N : Nat) : EnvOk (E43 N) ents := Env.add_ok (E42_ok N) (spec_DrawIsVector_su.en_ok N (E42_ok N))
def spec_DrawVectorText_su.kp : Keeps := ⟨[], [], []⟩
def spec_DrawVectorText_su.bd : Code := bodyOf Go.Proofs.Tryz.f9
def spec_DrawVectorText_su.fin {ρ : Type} (N : Nat) (K : AV → Heap → Option ρ) (gv1 : Nat) (gv2 : Nat → Int) : XE → St → Option ρ := finK (E43 N) spec_DrawVectorText_su.kp.fins Go.Proofs.Tryz.f9 [⟨false, .flat gv1 (.ints .u8 gv2)⟩] K
theorem spec_DrawVectorText_su.eqb {ρ : Type} (N : Nat) (K : AV → Heap → Option ρ) (code0 : Nat) (gv1 : Nat) (gv2 : Nat → Int) :
    xbody (E43 N) ents spec_DrawVectorText_su.kp N Go.Proofs.Tryz.f9 spec_DrawVectorText_su.bd [.slice false 0 0 code0 .unk 1] [⟨false, .flat gv1 (.ints .u8 gv2)⟩] K = (spec_DrawVectorText_su.bdy N (fun d0 d1 d2 => K (.tup [.int .i64 (d0), .int .i64 (d1), .agg [⟨.u8, 8, d2⟩]]) [⟨false, .flat gv1 (.ints .u8 gv2)⟩]) code0 gv1 gv2) := by kernel_rfl
theorem spec_DrawVectorText_su.eq {ρ : Type} (N : Nat) (K : AV → Heap → Option ρ) (code0 : Nat) (gv1 : Nat) (gv2 : Nat → Int) :
    xbody (E43 N) ents spec_DrawVectorText_su.kp N Go.Proofs.Tryz.f9 spec_DrawVectorText_su.bd [.slice false 0 0 code0 .unk 1] [⟨false, .flat gv1 (.ints .u8 gv2)⟩] K = (spec_DrawVectorText_su N (fun d0 d1 d2 => K (.tup [.int .i64 (d0), .int .i64 (d1), .agg [⟨.u8, 8, d2⟩]]) [⟨false, .flat gv1 (.ints .u8 gv2)⟩]) code0 gv1 gv2) :=
  (spec_DrawVectorText_su.eqb N K code0 gv1 gv2).trans (spec_DrawVectorText_su.opq _ _ _ _ _).symm
def spec_DrawVectorText_su.en (N : Nat) (ρ : Type) : List AV → Heap → (AV → Heap → Option ρ) → Option ρ
  | [.slice false 0 0 code0 .unk 1], [⟨false, .flat gv1 (.ints .u8 gv2)⟩], K => (spec_DrawVectorText_su N (fun d0 d1 d2 => K (.tup [.int .i64 (d0), .int .i64 (d1), .agg [⟨.u8, 8, d2⟩]]) [⟨false, .flat gv1 (.ints .u8 gv2)⟩]) code0 gv1 gv2)
  | _, _, _ => none
theorem spec_DrawVectorText_su.en_ok (N : Nat) (hE : EnvOk (E43 N) ents) (ρ : Type) (args : List AV) (sh : Heap) (K : AV → Heap → Option ρ) (r : ρ) (h : spec_DrawVectorText_su.en N ρ args sh K = some r) : ∃ v sh', K v sh' = some r ∧ FnOk (E43 N).P 9 args sh v sh' := by
  unfold spec_DrawVectorText_su.en at h
  split at h
  · exact fn_ok hE (kp := spec_DrawVectorText_su.kp) (N := N) Go.Proofs.Tryz.func9 (c := spec_DrawVectorText_su.bd) (by kernel_rfl) ((spec_DrawVectorText_su.eq N _ _ _ _).trans h)
  · cases h
def E44 (N : Nat) : Env := (E43 N).add 9 (spec_DrawVectorText_su.en N)
theorem E44_ok (N : Nat) : EnvOk (E44 N) ents := Env.add_ok (E43_ok N) (spec_DrawVectorText_su.en_ok N (E43_ok N))
def spec_IsVector.kp : Keeps := ⟨[], [], []⟩
def spec_IsVector.bd : Code := bodyOf Go.Proofs.Tryz.f16
def spec_IsVector.fin {ρ : Type} (N : Nat) (K : AV → Heap → Option ρ) : XE → St → Option ρ := finK (E44 N) spec_IsVector.kp.fins Go.Proofs.Tryz.f16 [] K
theorem spec_IsVector.eqb {ρ : Type} (N : Nat) (K : AV → Heap → Option ρ) (p0 : Int) (nv1 : Int) (v2 : Nat → Int) :
    xbody (E44 N) ents spec_IsVector.kp N Go.Proofs.Tryz.f16 spec_IsVector.bd [.int .i64 (p0), .int .i64 (nv1), .agg [⟨.u8, 8, v2⟩]] [] K = (spec_IsVector.bdy N (fun d0 => K (.bool (d0)) []) p0 nv1 v2) := by kernel_rfl
theorem spec_IsVector.eq {ρ : Type} (N : Nat) (K : AV → Heap → Option ρ) (p0 : Int) (nv1 : Int) (v2 : Nat → Int) :
    xbody (E44 N) ents spec_IsVector.kp N Go.Proofs.Tryz.f16 spec_IsVector.bd [.int .i64 (p0), .int .i64 (nv1), .agg [⟨.u8, 8, v2⟩]] [] K = (spec_IsVector N (fun d0 => K (.bool (d0)) []) p0 nv1 v2) :=
  (spec_IsVector.eqb N K p0 nv1 v2).trans (spec_IsVector.opq _ _ _ _ _).symm
def spec_IsVector.en (N : Nat) (ρ : Type) : List AV → Heap → (AV → Heap → Option ρ) → Option ρ
  | [.int .i64 (p0), .int .i64 (nv1), .agg [⟨.u8, 8, v2⟩]], [], K => (spec_IsVector N (fun d0 => K (.bool (d0)) []) p0 nv1 v2)
  | _, _, _ => none
theorem spec_IsVector.en_ok (N : Nat) (hE : EnvOk (E44 N) ents) (ρ : Type) (args : List AV) (sh : Heap) (K : AV → Heap → Option ρ) (r : ρ) (h : spec_IsVector.en N ρ args sh K = some r) : ∃ v sh', K v sh' = some r ∧ FnOk (E44 N).P 16 args sh v sh' := by
  unfold spec_IsVector.en at h
  split at h
  · exact fn_ok hE (kp := spec_IsVector.kp) (N := N) Go.Proofs.Tryz.func16 (c := spec_IsVector.bd) (by kernel_rfl) ((spec_IsVector.eq N _ _ _ _).trans h)
  · cases h
def E45 (N : Nat) : Env := (E44 N).add 16 (spec_IsVector.en N)
theorem E45_ok (N : Nat) : EnvOk (E45 N) ents := Env.add_ok (E44_ok N) (spec_IsVector.en_ok N (E44_ok N))
def spec_l01Dec_v3.kp : Keeps := ⟨[], [], []⟩
def spec_l01Dec_v3.bd : Code := bodyOf Go.Proofs.Tryz.f45
def spec_l01Dec_v3.fin {ρ : Type} (N : Nat) (K : AV → Heap → Option ρ) : XE → St → Option ρ := finK (E45 N) spec_l01Dec_v3.kp.fins Go.Proofs.Tryz.f45 [] K
theorem spec_l01Dec_v3.eq {ρ : Type} (N : Nat) (K : AV → Heap → Option ρ) (nv0 : Int) :
    xbody (E45 N) ents spec_l01Dec_v3.kp N Go.Proofs.Tryz.f45 spec_l01Dec_v3.bd [.int .i64 (nv0)] [] K = (spec_l01Dec_v3 N (fun d0 => K (.str (d0)) []) nv0) := by kernel_rfl
def spec_l01Dec_v3.en (N : Nat) (ρ : Type) : List AV → Heap → (AV → Heap → Option ρ) → Option ρ
  | [.int .i64 (nv0)], [], K => (spec_l01Dec_v3 N (fun d0 => K (.str (d0)) []) nv0)
  | _, _, _ => none
theorem spec_l01Dec_v3.en_ok (N : Nat) (hE : EnvOk (E45 N) ents) (ρ : Type) (args : List AV) (sh : Heap) (K : AV → Heap → Option ρ) (r : ρ) (h : spec_l01Dec_v3.en N ρ args sh K = some r) : ∃ v sh', K v sh' = some r ∧ FnOk (E45 N).P 45 args sh v sh' := by
  unfold spec_l01Dec_v3.en at h
  split at h
  · exact fn_ok hE (kp := spec_l01Dec_v3.kp) (N := N) Go.Proofs.Tryz.func45 (c := spec_l01Dec_v3.bd) (by kernel_rfl) ((spec_l01Dec_v3.eq N _ _).trans h)
  · cases h
def E46 (N : Nat) : Env := (E45 N).add 45 (spec_l01Dec_v3.en N)
theorem E46_ok (N : Nat) : EnvOk (E46 N) ents := Env.add_ok (E45_ok N) (spec_l01Dec_v3.en_ok N (E45_ok N))
def spec_l01Dec_v2.kp : Keeps := ⟨[], [], []⟩
def spec_l01Dec_v2.bd : Code := bodyOf Go.Proofs.Tryz.f45
def spec_l01Dec_v2.fin {ρ : Type} (N : Nat) (K : AV → Heap → Option ρ) : XE → St → Option ρ := finK (E46 N) spec_l01Dec_v2.kp.fins Go.Proofs.Tryz.f45 [] K
theorem spec_l01Dec_v2.eq {ρ : Type} (N : Nat) (K : AV → Heap → Option ρ) (nv0 : Int) :
    xbody (E46 N) ents spec_l01Dec_v2.kp N Go.Proofs.Tryz.f45 spec_l01Dec_v2.bd [.int .i64 (nv0)] [] K = (spec_l01Dec_v2 N (fun d0 => K (.str (d0)) []) nv0) := by kernel_rfl
def spec_l01Dec_v2.en (N : Nat) (ρ : Type) : List AV → Heap → (AV → Heap → Option ρ) → Option ρ
  | [.int .i64 (nv0)], [], K => (spec_l01Dec_v2 N (fun d0 => K (.str (d0)) []) nv0)
  | args, sh, K => (E46 N).fn 45 ρ args sh K
theorem spec_l01Dec_v2.en_ok (N : Nat) (hE : EnvOk (E46 N) ents) (ρ : Type) (args : List AV) (sh : Heap) (K : AV → Heap → Option ρ) (r : ρ) (h : spec_l01Dec_v2.en N ρ args sh K = some r) : ∃ v sh', K v sh' = some r ∧ FnOk (E46 N).P 45 args sh v sh' := by
  unfold spec_l01Dec_v2.en at h
  split at h
  · exact fn_ok hE (kp := spec_l01Dec_v2.kp) (N := N) Go.Proofs.Tryz.func45 (c := spec_l01Dec_v2.bd) (by kernel_rfl) ((spec_l01Dec_v2.eq N _ _).trans h)
  · exact hE.spec _ _ _ _ _ _ h
def E47 (N : Nat) : Env := (E46 N).add 45 (spec_l01Dec_v2.en N)
theorem E47_ok (N : Nat) : EnvOk (E47 N) ents := Env.add_ok (E46_ok N) (spec_l01Dec_v2.en_ok N (E46_ok N))
def spec_l01Dec.kp : Keeps := ⟨[], [], []⟩
def spec_l01Dec.bd : Code := bodyOf Go.Proofs.Tryz.f45
def spec_l01Dec.fin {ρ : Type} (N : Nat) (K : AV → Heap → Option ρ) : XE → St → Option ρ := finK (E47 N) spec_l01Dec.kp.fins Go.Proofs.Tryz.f45 [] K
theorem spec_l01Dec.eq {ρ : Type} (N : Nat) (K : AV → Heap → Option ρ) (nv0 : Int) :
    xbody (E47 N) ents spec_l01Dec.kp N Go.Proofs.Tryz.f45 spec_l01Dec.bd [.int .i64 (nv0)] [] K = (spec_l01Dec N (fun d0 => K (.str (d0)) []) nv0) := by kernel_rfl
def spec_l01Dec.en (N : Nat) (ρ : Type) : List AV → Heap → (AV → Heap → Option ρ) → Option ρ
  | [.int .i64 (nv0)], [], K => (spec_l01Dec N (fun d0 => K (.str (d0)) []) nv0)
  | args, sh, K => (E47 N).fn 45 ρ args sh K
theorem spec_l01Dec.en_ok (N : Nat) (hE : EnvOk (E47 N) ents) (ρ : Type) (args : List AV) (sh : Heap) (K : AV → Heap → Option ρ) (r : ρ) (h : spec_l01Dec.en N ρ args sh K = some r) : ∃ v sh', K v sh' = some r ∧ FnOk (E47 N).P 45 args sh v sh' := by
  unfold spec_l01Dec.en at h
  split at h
  · exact fn_ok hE (kp := spec_l01Dec.kp) (N := N) Go.Proofs.Tryz.func45 (c := spec_l01Dec.bd) (by kernel_rfl) ((spec_l01Dec.eq N _ _).trans h)
  · exact hE.spec _ _ _ _ _ _ h
def E48 (N : Nat) : Env := (E47 N).add 45 (spec_l01Dec.en N)
theorem E48_ok (N : Nat) : EnvOk (E48 N) ents := Env.add_ok (E47_ok N) (spec_l01Dec.en_ok N (E47_ok N))
def spec_l01Text.kp : Keeps := ⟨[(0, [0, 3, 5, 6], [], [])], [(0, [5], [], [])], []⟩
def spec_l01Text.bd : Code := bodyOf Go.Proofs.Tryz.f28
def spec_l01Text.fin {ρ : Type} (N : Nat) (K : AV → Heap → Option ρ) : XE → St → Option ρ := finK (E48 N) spec_l01Text.kp.fins Go.Proofs.Tryz.f28 [] K
def spec_l01Text.k0 {ρ : Type} (N : Nat) (K : AV → Heap → Option ρ) : XE → St → Option ρ := (blockK spec_l01Text.kp 0 0 (seqK (xcode (E48 N) ents spec_l01Text.kp 0 N (cB (cB (cB spec_l01Text.bd))) 0) (spec_l01Text.fin N K)))
theorem spec_l01Text.k0_mix {ρ : Type} (N : Nat) (K : AV → Heap → Option ρ) : mixK (spec_l01Text.fin N K .ret) (spec_l01Text.k0 N K) = (spec_l01Text.k0 N K) := by
  funext e s; cases e <;> kernel_rfl
def spec_l01Text.st0 (nv0 : Int) (v1 : Nat → Int) (text2 : ByteArray) (i3 : Int) : St := ⟨sl 24 [(0, .int .i64 (nv0)), (3, .sptr [(0, 8)]), (5, .str (text2)), (6, .int .i64 (i3))], [⟨true, .flat 8 (.ints .u8 v1)⟩]⟩
def spec_l01Text.sx0_0 (ov6 : ByteArray) : St := ⟨sl 24 [(5, .str (ov6))], []⟩
theorem spec_l01Text.b0_gen {ρ : Type} (N : Nat) (K : AV → Heap → Option ρ) (L0 : St → Option ρ) (kv : XE → St → Option ρ) (nv0 : Int) (v1 : Nat → Int) (text2 : ByteArray) (i3 : Int) :
    xcode (E48 N) ents spec_l01Text.kp 0 N (cL (cK (cB (cA (cB (cB spec_l01Text.bd)))))) 0 (spec_l01Text.st0 nv0 v1 text2 i3) (roundK spec_l01Text.kp 0 0 L0 (mixK (spec_l01Text.fin N K .ret) kv)) = (spec_l01Text.b0 N (fun d0 => K (.str (d0)) []) (fun text2 i3 => L0 (spec_l01Text.st0 nv0 v1 text2 i3)) (fun ov6 => kv (.exit 0) (spec_l01Text.sx0_0 ov6)) nv0 v1 text2 i3) := by kernel_rfl
theorem spec_l01Text.b0_eq {ρ : Type} (N : Nat) (K : AV → Heap → Option ρ) (L0 : St → Option ρ) (nv0 : Int) (v1 : Nat → Int) (text2 : ByteArray) (i3 : Int) :
    xcode (E48 N) ents spec_l01Text.kp 0 N (cL (cK (cB (cA (cB (cB spec_l01Text.bd)))))) 0 (spec_l01Text.st0 nv0 v1 text2 i3) (roundK spec_l01Text.kp 0 0 L0 (spec_l01Text.k0 N K)) = (spec_l01Text.b0 N (fun d0 => K (.str (d0)) []) (fun text2 i3 => L0 (spec_l01Text.st0 nv0 v1 text2 i3)) (fun ov6 => (spec_l01Text.k0 N K) (.exit 0) (spec_l01Text.sx0_0 ov6)) nv0 v1 text2 i3) := by
  have h := spec_l01Text.b0_gen N K L0 (spec_l01Text.k0 N K) nv0 v1 text2 i3
  rw [spec_l01Text.k0_mix] at h
  exact h
theorem spec_l01Text.a0_0_eq {ρ : Type} (N : Nat) (K : AV → Heap → Option ρ) (ov6 : ByteArray) :
    (spec_l01Text.k0 N K) (.exit 0) (spec_l01Text.sx0_0 ov6) = (spec_l01Text.a0_0 N (fun d0 => K (.str (d0)) []) ov6) := by kernel_rfl
theorem spec_l01Text.l0_eq {ρ : Type} (N : Nat) (K : AV → Heap → Option ρ) (nv0 : Int) (v1 : Nat → Int) :
    ∀ (m : Nat) (text2 : ByteArray) (i3 : Int), xloop (xcode (E48 N) ents spec_l01Text.kp 0 N (cL (cK (cB (cA (cB (cB spec_l01Text.bd)))))) 0) spec_l01Text.kp 0 0 m (spec_l01Text.st0 nv0 v1 text2 i3) (spec_l01Text.k0 N K) = (spec_l01Text.l0 N (fun d0 => K (.str (d0)) []) nv0 v1 (fun ov6 => (spec_l01Text.k0 N K) (.exit 0) (spec_l01Text.sx0_0 ov6)) m text2 i3) := by
  intro m
  induction m with
  | zero => intros; rfl
  | succ m ih =>
    intro text2 i3
    refine (spec_l01Text.b0_eq N K (fun s => xloop (xcode (E48 N) ents spec_l01Text.kp 0 N (cL (cK (cB (cA (cB (cB spec_l01Text.bd)))))) 0) spec_l01Text.kp 0 0 m s (spec_l01Text.k0 N K)) nv0 v1 text2 i3).trans ?_
    simp only [ih]
    kernel_rfl
theorem spec_l01Text.s_eq {ρ : Type} (N : Nat) (K : AV → Heap → Option ρ) (nv0 : Int) (v1 : Nat → Int) :
    xbody (E48 N) ents spec_l01Text.kp N Go.Proofs.Tryz.f28 spec_l01Text.bd [.int .i64 (nv0), .agg [⟨.u8, 8, v1⟩]] [] K = (spec_l01Text.s N (fun d0 => K (.str (d0)) []) (fun text2 i3 => xloop (xcode (E48 N) ents spec_l01Text.kp 0 N (cL (cK (cB (cA (cB (cB spec_l01Text.bd)))))) 0) spec_l01Text.kp 0 0 N (spec_l01Text.st0 nv0 v1 text2 i3) (spec_l01Text.k0 N K))) := by kernel_rfl
theorem spec_l01Text.eq {ρ : Type} (N : Nat) (K : AV → Heap → Option ρ) (nv0 : Int) (v1 : Nat → Int) :
    xbody (E48 N) ents spec_l01Text.kp N Go.Proofs.Tryz.f28 spec_l01Text.bd [.int .i64 (nv0), .agg [⟨.u8, 8, v1⟩]] [] K = (spec_l01Text N (fun d0 => K (.str (d0)) []) nv0 v1) := by
  refine (spec_l01Text.s_eq N K nv0 v1).trans ?_
  simp only [spec_l01Text.l0_eq, spec_l01Text.a0_0_eq]
  kernel_rfl
def spec_l01Text.en (N : Nat) (ρ : Type) : List AV → Heap → (AV → Heap → Option ρ) → Option ρ
  | [.int .i64 (nv0), .agg [⟨.u8, 8, v1⟩]], [], K => (spec_l01Text N (fun d0 => K (.str (d0)) []) nv0 v1)
  | _, _, _ => none
theorem spec_l01Text.en_ok (N : Nat) (hE : EnvOk (E48 N) ents) (ρ : Type) (args : List AV) (sh : Heap) (K : AV → Heap → Option ρ) (r : ρ) (h : spec_l01Text.en N ρ args sh K = some r) : ∃ v sh', K v sh' = some r ∧ FnOk (E48 N).P 28 args sh v sh' := by
  unfold spec_l01Text.en at h
  split at h
  · exact fn_ok hE (kp := spec_l01Text.kp) (N := N) Go.Proofs.Tryz.func28 (c := spec_l01Text.bd) (by kernel_rfl) ((spec_l01Text.eq N _ _ _).trans h)
  · cases h
def E49 (N : Nat) : Env := (E48 N).add 28 (spec_l01Text.en N)
theorem E49_ok (N : Nat) : EnvOk (E49 N) ents := Env.add_ok (E48_ok N) (spec_l01Text.en_ok N (E48_ok N))
def spec_VectorText.kp : Keeps := ⟨[], [], []⟩
def spec_VectorText.bd : Code := bodyOf Go.Proofs.Tryz.f10
def spec_VectorText.fin {ρ : Type} (N : Nat) (K : AV → Heap → Option ρ) : XE → St → Option ρ := finK (E49 N) spec_VectorText.kp.fins Go.Proofs.Tryz.f10 [] K
theorem spec_VectorText.eqb {ρ : Type} (N : Nat) (K : AV → Heap → Option ρ) (p0 : Int) (nv1 : Int) (v2 : Nat → Int) :
    xbody (E49 N) ents spec_VectorText.kp N Go.Proofs.Tryz.f10 spec_VectorText.bd [.int .i64 (p0), .int .i64 (nv1), .agg [⟨.u8, 8, v2⟩]] [] K = (spec_VectorText.bdy N (fun d0 d1 => K (.tup [.str (d0), .int .i64 (d1)]) []) p0 nv1 v2) := by kernel_rfl
theorem spec_VectorText.eq {ρ : Type} (N : Nat) (K : AV → Heap → Option ρ) (p0 : Int) (nv1 : Int) (v2 : Nat → Int) :
    xbody (E49 N) ents spec_VectorText.kp N Go.Proofs.Tryz.f10 spec_VectorText.bd [.int .i64 (p0), .int .i64 (nv1), .agg [⟨.u8, 8, v2⟩]] [] K = (spec_VectorText N (fun d0 d1 => K (.tup [.str (d0), .int .i64 (d1)]) []) p0 nv1 v2) :=
  (spec_VectorText.eqb N K p0 nv1 v2).trans (spec_VectorText.opq _ _ _ _ _).symm
def spec_VectorText.en (N : Nat) (ρ : Type) : List AV → Heap → (AV → Heap → Option ρ) → Option ρ
  | [.int .i64 (p0), .int .i64 (nv1), .agg [⟨.u8, 8, v2⟩]], [], K => (spec_VectorText N (fun d0 d1 => K (.tup [.str (d0), .int .i64 (d1)]) []) p0 nv1 v2)
  | _, _, _ => none
theorem spec_VectorText.en_ok (N : Nat) (hE : EnvOk (E49 N) ents) (ρ : Type) (args : List AV) (sh : Heap) (K : AV → Heap → Option ρ) (r : ρ) (h : spec_VectorText.en N ρ args sh K = some r) : ∃ v sh', K v sh' = some r ∧ FnOk (E49 N).P 10 args sh v sh' := by
  unfold spec_VectorText.en at h
  split at h
  · exact fn_ok hE (kp := spec_VectorText.kp) (N := N) Go.Proofs.Tryz.func10 (c := spec_VectorText.bd) (by kernel_rfl) ((spec_VectorText.eq N _ _ _ _).trans h)
  · cases h
def E50 (N : Nat) : Env := (E49 N).add 10 (spec_VectorText.en N)
theorem E50_ok (N : Nat) : EnvOk (E50 N) ents := Env.add_ok (E49_ok N) (spec_VectorText.en_ok N (E49_ok N))
def strconv_Itoa.en (N : Nat) (ρ : Type) : List AV → Heap → (AV → Heap → Option ρ) → Option ρ
  | [.int .i64 (i0)], [], K => (strconv_Itoa N (fun d0 => K (.str (d0)) []) i0)
  | _, _, _ => none
theorem strconv_Itoa.en_ok (N : Nat) (hE : EnvOk (E50 N) ents) (ρ : Type) (args : List AV) (sh : Heap) (K : AV → Heap → Option ρ) (r : ρ) (h : strconv_Itoa.en N ρ args sh K = some r) : ∃ v sh', K v sh' = some r ∧ FnOk (E50 N).P 46 args sh v sh' := by
  unfold strconv_Itoa.en at h
  split at h
  · exact strconv_Itoa.con N _ _ h
  · cases h
def E51 (N : Nat) : Env := (E50 N).add 46 (strconv_Itoa.en N)
theorem E51_ok (N : Nat) : EnvOk (E51 N) ents := Env.add_ok (E50_ok N) (strconv_Itoa.en_ok N (E50_ok N))
def strings_Join_su.en (N : Nat) (ρ : Type) : List AV → Heap → (AV → Heap → Option ρ) → Option ρ
  | [.slice true 0 0 elems0 .unk 1, .str (sep1)], [⟨false, .flat gv2 (.strs gv3)⟩], K => (strings_Join_su N (fun d0 => K (.str (d0)) [⟨false, .flat gv2 (.strs gv3)⟩]) elems0 sep1 gv2 gv3)
  | _, _, _ => none
theorem strings_Join_su.en_ok (N : Nat) (hE : EnvOk (E51 N) ents) (ρ : Type) (args : List AV) (sh : Heap) (K : AV → Heap → Option ρ) (r : ρ) (h : strings_Join_su.en N ρ args sh K = some r) : ∃ v sh', K v sh' = some r ∧ FnOk (E51 N).P 47 args sh v sh' := by
  unfold strings_Join_su.en at h
  split at h
  · exact strings_Join_su.con N _ _ _ _ _ h
  · cases h
def E52 (N : Nat) : Env := (E51 N).add 47 (strings_Join_su.en N)
theorem E52_ok (N : Nat) : EnvOk (E52 N) ents := Env.add_ok (E51_ok N) (strings_Join_su.en_ok N (E51_ok N))
def impl_vectorText.kp : Keeps := ⟨[(0, [5, 10, 11, 12], [], [])], [(0, [5], [], [])], []⟩
def impl_vectorText.bd : Code := bodyOf Go.Proofs.Tryz.f29
def impl_vectorText.fin {ρ : Type} (N : Nat) (K : AV → Heap → Option ρ) : XE → St → Option ρ := finK (E52 N) impl_vectorText.kp.fins Go.Proofs.Tryz.f29 [] K
def impl_vectorText.k0 {ρ : Type} (N : Nat) (K : AV → Heap → Option ρ) : XE → St → Option ρ := (blockK impl_vectorText.kp 0 0 (seqK (xcode (E52 N) ents impl_vectorText.kp 0 N (cB (cB (cB impl_vectorText.bd))) 0) (impl_vectorText.fin N K)))
theorem impl_vectorText.k0_mix {ρ : Type} (N : Nat) (K : AV → Heap → Option ρ) : mixK (impl_vectorText.fin N K .ret) (impl_vectorText.k0 N K) = (impl_vectorText.k0 N K) := by
  funext e s; cases e <;> kernel_rfl
def impl_vectorText.st0 (nv0 : Int) (v1 : Nat → Int) (outv2 : Nat) (x3 : Int) (gv4 : Nat → ByteArray) : St := ⟨sl 25 [(5, .slice true 0 0 outv2 .whole 1), (10, .slice true 1 0 nv0.toNat (.exact 8) 1), (11, .int .i64 ((nv0.toNat : Int))), (12, .int .i64 (x3))], [⟨true, .flat 0 (.strs gv4)⟩, ⟨true, .flat 8 (.ints .u8 v1)⟩]⟩
def impl_vectorText.sx0_0 (ov6 : Nat) (ov7 : Nat → ByteArray) : St := ⟨sl 25 [(5, .slice true 0 0 ov6 .whole 1)], [⟨true, .flat 0 (.strs ov7)⟩]⟩
theorem impl_vectorText.b0_gen {ρ : Type} (N : Nat) (K : AV → Heap → Option ρ) (L0 : St → Option ρ) (kv : XE → St → Option ρ) (nv0 : Int) (v1 : Nat → Int) (outv2 : Nat) (x3 : Int) (gv4 : Nat → ByteArray) :
    xcode (E52 N) ents impl_vectorText.kp 0 N (cL (cK (cB (cA (cB (cB impl_vectorText.bd)))))) 0 (impl_vectorText.st0 nv0 v1 outv2 x3 gv4) (roundK impl_vectorText.kp 0 0 L0 (mixK (impl_vectorText.fin N K .ret) kv)) = (impl_vectorText.b0 N (fun d0 => K (.str (d0)) []) (fun outv2 x3 gv4 => L0 (impl_vectorText.st0 nv0 v1 outv2 x3 gv4)) (fun ov6 ov7 => kv (.exit 0) (impl_vectorText.sx0_0 ov6 ov7)) nv0 v1 outv2 x3 gv4) := by kernel_rfl
theorem impl_vectorText.b0_eq {ρ : Type} (N : Nat) (K : AV → Heap → Option ρ) (L0 : St → Option ρ) (nv0 : Int) (v1 : Nat → Int) (outv2 : Nat) (x3 : Int) (gv4 : Nat → ByteArray) :
    xcode (E52 N) ents impl_vectorText.kp 0 N (cL (cK (cB (cA (cB (cB impl_vectorText.bd)))))) 0 (impl_vectorText.st0 nv0 v1 outv2 x3 gv4) (roundK impl_vectorText.kp 0 0 L0 (impl_vectorText.k0 N K)) = (impl_vectorText.b0 N (fun d0 => K (.str (d0)) []) (fun outv2 x3 gv4 => L0 (impl_vectorText.st0 nv0 v1 outv2 x3 gv4)) (fun ov6 ov7 => (impl_vectorText.k0 N K) (.exit 0) (impl_vectorText.sx0_0 ov6 ov7)) nv0 v1 outv2 x3 gv4) := by
  have h := impl_vectorText.b0_gen N K L0 (impl_vectorText.k0 N K) nv0 v1 outv2 x3 gv4
  rw [impl_vectorText.k0_mix] at h
  exact h
theorem impl_vectorText.a0_0_eq {ρ : Type} (N : Nat) (K : AV → Heap → Option ρ) (ov6 : Nat) (ov7 : Nat → ByteArray) :
    (impl_vectorText.k0 N K) (.exit 0) (impl_vectorText.sx0_0 ov6 ov7) = (impl_vectorText.a0_0 N (fun d0 => K (.str (d0)) []) ov6 ov7) := by kernel_rfl
theorem impl_vectorText.l0_eq {ρ : Type} (N : Nat) (K : AV → Heap → Option ρ) (nv0 : Int) (v1 : Nat → Int) :
    ∀ (m : Nat) (outv2 : Nat) (x3 : Int) (gv4 : Nat → ByteArray), xloop (xcode (E52 N) ents impl_vectorText.kp 0 N (cL (cK (cB (cA (cB (cB impl_vectorText.bd)))))) 0) impl_vectorText.kp 0 0 m (impl_vectorText.st0 nv0 v1 outv2 x3 gv4) (impl_vectorText.k0 N K) = (impl_vectorText.l0 N (fun d0 => K (.str (d0)) []) nv0 v1 (fun ov6 ov7 => (impl_vectorText.k0 N K) (.exit 0) (impl_vectorText.sx0_0 ov6 ov7)) m outv2 x3 gv4) := by
  intro m
  induction m with
  | zero => intros; rfl
  | succ m ih =>
    intro outv2 x3 gv4
    refine (impl_vectorText.b0_eq N K (fun s => xloop (xcode (E52 N) ents impl_vectorText.kp 0 N (cL (cK (cB (cA (cB (cB impl_vectorText.bd)))))) 0) impl_vectorText.kp 0 0 m s (impl_vectorText.k0 N K)) nv0 v1 outv2 x3 gv4).trans ?_
    simp only [ih]
    kernel_rfl
theorem impl_vectorText.s_eq {ρ : Type} (N : Nat) (K : AV → Heap → Option ρ) (nv0 : Int) (v1 : Nat → Int) :
    xbody (E52 N) ents impl_vectorText.kp N Go.Proofs.Tryz.f29 impl_vectorText.bd [.int .i64 (nv0), .agg [⟨.u8, 8, v1⟩]] [] K = (impl_vectorText.s N (fun d0 => K (.str (d0)) []) (fun outv2 x3 gv4 => xloop (xcode (E52 N) ents impl_vectorText.kp 0 N (cL (cK (cB (cA (cB (cB impl_vectorText.bd)))))) 0) impl_vectorText.kp 0 0 N (impl_vectorText.st0 nv0 v1 outv2 x3 gv4) (impl_vectorText.k0 N K)) nv0) := by kernel_rfl
theorem impl_vectorText.eq {ρ : Type} (N : Nat) (K : AV → Heap → Option ρ) (nv0 : Int) (v1 : Nat → Int) :
    xbody (E52 N) ents impl_vectorText.kp N Go.Proofs.Tryz.f29 impl_vectorText.bd [.int .i64 (nv0), .agg [⟨.u8, 8, v1⟩]] [] K = (impl_vectorText N (fun d0 => K (.str (d0)) []) nv0 v1) := by
  refine (impl_vectorText.s_eq N K nv0 v1).trans ?_
  simp only [impl_vectorText.l0_eq, impl_vectorText.a0_0_eq]
  kernel_rfl
def impl_vectorText.en (N : Nat) (ρ : Type) : List AV → Heap → (AV → Heap → Option ρ) → Option ρ
  | [.int .i64 (nv0), .agg [⟨.u8, 8, v1⟩]], [], K => (impl_vectorText N (fun d0 => K (.str (d0)) []) nv0 v1)
  | _, _, _ => none
theorem impl_vectorText.en_ok (N : Nat) (hE : EnvOk (E52 N) ents) (ρ : Type) (args : List AV) (sh : Heap) (K : AV → Heap → Option ρ) (r : ρ) (h : impl_vectorText.en N ρ args sh K = some r) : ∃ v sh', K v sh' = some r ∧ FnOk (E52 N).P 29 args sh v sh' := by
  unfold impl_vectorText.en at h
  split at h
  · exact fn_ok hE (kp := impl_vectorText.kp) (N := N) Go.Proofs.Tryz.func29 (c := impl_vectorText.bd) (by kernel_rfl) ((impl_vectorText.eq N _ _ _).trans h)
  · cases h
def E53 (N : Nat) : Env := (E52 N).add 29 (impl_vectorText.en N)
theorem E53_ok (N : Nat) : EnvOk (E53 N) ents := Env.add_ok (E52_ok N) (impl_vectorText.en_ok N (E52_ok N))
def impl_VectorText.kp : Keeps := ⟨[], [], []⟩
def impl_VectorText.bd : Code := bodyOf Go.Proofs.Tryz.f11
def impl_VectorText.fin {ρ : Type} (N : Nat) (K : AV → Heap → Option ρ) : XE → St → Option ρ := finK (E53 N) impl_VectorText.kp.fins Go.Proofs.Tryz.f11 [] K
theorem impl_VectorText.eqb {ρ : Type} (N : Nat) (K : AV → Heap → Option ρ) (p0 : Int) (nv1 : Int) (v2 : Nat → Int) :
    xbody (E53 N) ents impl_VectorText.kp N Go.Proofs.Tryz.f11 impl_VectorText.bd [.int .i64 (p0), .int .i64 (nv1), .agg [⟨.u8, 8, v2⟩]] [] K = (impl_VectorText.bdy N (fun d0 d1 => K (.tup [.str (d0), .int .i64 (d1)]) []) p0 nv1 v2) := by kernel_rfl
theorem impl_VectorText.eq {ρ : Type} (N : Nat) (K : AV → Heap → Option ρ) (p0 : Int) (nv1 : Int) (v2 : Nat → Int) :
    xbody (E53 N) ents impl_VectorText.kp N Go.Proofs.Tryz.f11 impl_VectorText.bd [.int .i64 (p0), .int .i64 (nv1), .agg [⟨.u8, 8, v2⟩]] [] K = (impl_VectorText N (fun d0 d1 => K (.tup [.str (d0), .int .i64 (d1)]) []) p0 nv1 v2) :=
  (impl_VectorText.eqb N K p0 nv1 v2).trans (impl_VectorText.opq _ _ _ _ _).symm
def impl_VectorText.en (N : Nat) (ρ : Type) : List AV → Heap → (AV → Heap → Option ρ) → Option ρ
  | [.int .i64 (p0), .int .i64 (nv1), .agg [⟨.u8, 8, v2⟩]], [], K => (impl_VectorText N (fun d0 d1 => K (.tup [.str (d0), .int .i64 (d1)]) []) p0 nv1 v2)
  | _, _, _ => none
theorem impl_VectorText.en_ok (N : Nat) (hE : EnvOk (E53 N) ents) (ρ : Type) (args : List AV) (sh : Heap) (K : AV → Heap → Option ρ) (r : ρ) (h : impl_VectorText.en N ρ args sh K = some r) : ∃ v sh', K v sh' = some r ∧ FnOk (E53 N).P 11 args sh v sh' := by
  unfold impl_VectorText.en at h
  split at h
  · exact fn_ok hE (kp := impl_VectorText.kp) (N := N) Go.Proofs.Tryz.func11 (c := impl_VectorText.bd) (by kernel_rfl) ((impl_VectorText.eq N _ _ _ _).trans h)
  · cases h
def E54 (N : Nat) : Env := (E53 N).add 11 (impl_VectorText.en N)
theorem E54_ok (N : Nat) : EnvOk (E54 N) ents := Env.add_ok (E53_ok N) (impl_VectorText.en_ok N (E53_ok N))
def spec_l01Damage.kp : Keeps := ⟨[], [], []⟩
def spec_l01Damage.bd : Code := bodyOf Go.Proofs.Tryz.f31
def spec_l01Damage.fin {ρ : Type} (N : Nat) (K : AV → Heap → Option ρ) (gv1 : Nat) (gv2 : Nat → Int) (gv3 : Nat → Int) (gv4 : Nat) (gv5 : Nat → Int) : XE → St → Option ρ := finK (E54 N) spec_l01Damage.kp.fins Go.Proofs.Tryz.f31 [⟨false, .avs [.slice false 3 0 gv1 .unk 1]⟩, ⟨true, .flat 1 (.ints .i64 gv2)⟩, ⟨true, .flat 1 (.ints .u64 gv3)⟩, ⟨false, .flat gv4 (.ints .u8 gv5)⟩] K
theorem spec_l01Damage.eq {ρ : Type} (N : Nat) (K : AV → Heap → Option ρ) (t0 : ByteArray) (gv1 : Nat) (gv2 : Nat → Int) (gv3 : Nat → Int) (gv4 : Nat) (gv5 : Nat → Int) :
    xbody (E54 N) ents spec_l01Damage.kp N Go.Proofs.Tryz.f31 spec_l01Damage.bd [.sptr [(0, 1), (1, 1), (2, 1)], .str (t0)] [⟨false, .avs [.slice false 3 0 gv1 .unk 1]⟩, ⟨true, .flat 1 (.ints .i64 gv2)⟩, ⟨true, .flat 1 (.ints .u64 gv3)⟩, ⟨false, .flat gv4 (.ints .u8 gv5)⟩] K = (spec_l01Damage N (fun d0 d1 d2 => K (.str (d0)) [⟨false, .avs [.slice false 3 0 gv1 .unk 1]⟩, ⟨true, .flat 1 (.ints .i64 d1)⟩, ⟨true, .flat 1 (.ints .u64 d2)⟩, ⟨false, .flat gv4 (.ints .u8 gv5)⟩]) t0 gv1 gv2 gv3 gv4 gv5) := by kernel_rfl
def spec_l01Damage.en (N : Nat) (ρ : Type) : List AV → Heap → (AV → Heap → Option ρ) → Option ρ
  | [.sptr [(0, 1), (1, 1), (2, 1)], .str (t0)], [⟨false, .avs [.slice false 3 0 gv1 .unk 1]⟩, ⟨true, .flat 1 (.ints .i64 gv2)⟩, ⟨true, .flat 1 (.ints .u64 gv3)⟩, ⟨false, .flat gv4 (.ints .u8 gv5)⟩], K => (spec_l01Damage N (fun d0 d1 d2 => K (.str (d0)) [⟨false, .avs [.slice false 3 0 gv1 .unk 1]⟩, ⟨true, .flat 1 (.ints .i64 d1)⟩, ⟨true, .flat 1 (.ints .u64 d2)⟩, ⟨false, .flat gv4 (.ints .u8 gv5)⟩]) t0 gv1 gv2 gv3 gv4 gv5)
  | _, _, _ => none
theorem spec_l01Damage.en_ok (N : Nat) (hE : EnvOk (E54 N) ents) (ρ : Type) (args : List AV) (sh : Heap) (K : AV → Heap → Option ρ) (r : ρ) (h : spec_l01Damage.en N ρ args sh K = some r) : ∃ v sh', K v sh' = some r ∧ FnOk (E54 N).P 31 args sh v sh' := by
  unfold spec_l01Damage.en at h
  split at h
  · exact fn_ok hE (kp := spec_l01Damage.kp) (N := N) Go.Proofs.Tryz.func31 (c := spec_l01Damage.bd) (by kernel_rfl) ((spec_l01Damage.eq N _ _ _ _ _ _ _).trans h)
  · cases h
def E55 (N : Nat) : Env := (E54 N).add 31 (spec_l01Damage.en N)
theorem E55_ok (N : Nat) : EnvOk (E55 N) ents := Env.add_ok (E54_ok N) (spec_l01Damage.en_ok N (E54_ok N))
def spec_DrawParseVector_su.kp : Keeps := ⟨[(0, [5, 6, 7, 8, 9], [], [])], [(0, [5, 6, 7, 8], [], [])], []⟩
def spec_DrawParseVector_su.bd : Code := bodyOf Go.Proofs.Tryz.f12
def spec_DrawParseVector_su.fin {ρ : Type} (N : Nat) (K : AV → Heap → Option ρ) (gv1 : Nat) (gv2 : Nat → Int) : XE → St → Option ρ := finK (E55 N) spec_DrawParseVector_su.kp.fins Go.Proofs.Tryz.f12 [⟨false, .flat gv1 (.ints .u8 gv2)⟩] K
def spec_DrawParseVector_su.k0 {ρ : Type} (N : Nat) (K : AV → Heap → Option ρ) (gv1 : Nat) (gv2 : Nat → Int) : XE → St → Option ρ := (blockK spec_DrawParseVector_su.kp 1 0 (seqK (xcode (E55 N) ents spec_DrawParseVector_su.kp 1 N (cB (cB (cB (cB (cB spec_DrawParseVector_su.bd))))) 0) (spec_DrawParseVector_su.fin N K gv1 gv2)))
theorem spec_DrawParseVector_su.k0_mix {ρ : Type} (N : Nat) (K : AV → Heap → Option ρ) (gv1 : Nat) (gv2 : Nat → Int) : mixK (spec_DrawParseVector_su.fin N K gv1 gv2 .ret) (spec_DrawParseVector_su.k0 N K gv1 gv2) = (spec_DrawParseVector_su.k0 N K gv1 gv2) := by
  funext e s; cases e <;> kernel_rfl
def spec_DrawParseVector_su.st0 (gv1 : Nat) (gv2 : Nat → Int) (rv3 : Nat) (rv6 : Int) (rv9 : Int) (text16 : ByteArray) (k17 : Int) (gv18 : Nat → Int) (gv19 : Nat → Int) : St := ⟨sl 44 [(5, .sptr [(1, 1), (2, 1), (3, 1)]), (6, .int .i64 (rv6)), (7, .int .i64 ((IntKind.i64.wrap (1 + rv9)))), (8, .str (text16)), (9, .int .i64 (k17))], [⟨false, .flat gv1 (.ints .u8 gv2)⟩, ⟨true, .avs [.slice false 0 0 rv3 .unk 1]⟩, ⟨true, .flat 1 (.ints .i64 gv18)⟩, ⟨true, .flat 1 (.ints .u64 gv19)⟩]⟩
def spec_DrawParseVector_su.sx0_0 (gv1 : Nat) (gv2 : Nat → Int) (rv3 : Nat) (rv6 : Int) (rv9 : Int) (ov26 : ByteArray) (ov27 : Nat → Int) (ov28 : Nat → Int) : St := ⟨sl 44 [(5, .sptr [(1, 1), (2, 1), (3, 1)]), (6, .int .i64 (rv6)), (7, .int .i64 ((IntKind.i64.wrap (1 + rv9)))), (8, .str (ov26))], [⟨false, .flat gv1 (.ints .u8 gv2)⟩, ⟨true, .avs [.slice false 0 0 rv3 .unk 1]⟩, ⟨true, .flat 1 (.ints .i64 ov27)⟩, ⟨true, .flat 1 (.ints .u64 ov28)⟩]⟩
theorem spec_DrawParseVector_su.b0_gen {ρ : Type} (N : Nat) (K : AV → Heap → Option ρ) (L0 : St → Option ρ) (kv : XE → St → Option ρ) (gv1 : Nat) (gv2 : Nat → Int) (rv3 : Nat) (rv6 : Int) (rv9 : Int) (text16 : ByteArray) (k17 : Int) (gv18 : Nat → Int) (gv19 : Nat → Int) :
    xcode (E55 N) ents spec_DrawParseVector_su.kp 1 N (cL (cK (cB (cA (cB (cB (cB (cB spec_DrawParseVector_su.bd)))))))) 0 (spec_DrawParseVector_su.st0 gv1 gv2 rv3 rv6 rv9 text16 k17 gv18 gv19) (roundK spec_DrawParseVector_su.kp 1 0 L0 (mixK (spec_DrawParseVector_su.fin N K gv1 gv2 .ret) kv)) = (spec_DrawParseVector_su.b0 N (fun d0 d1 d2 => K (.tup [.int .i64 (d0), .int .i64 (d1), .str (d2)]) [⟨false, .flat gv1 (.ints .u8 gv2)⟩]) (fun text16 k17 gv18 gv19 => L0 (spec_DrawParseVector_su.st0 gv1 gv2 rv3 rv6 rv9 text16 k17 gv18 gv19)) (fun ov26 ov27 ov28 => kv (.exit 0) (spec_DrawParseVector_su.sx0_0 gv1 gv2 rv3 rv6 rv9 ov26 ov27 ov28)) gv2 rv3 text16 k17 gv18 gv19) := by kernel_rfl
theorem spec_DrawParseVector_su.b0_eq {ρ : Type} (N : Nat) (K : AV → Heap → Option ρ) (L0 : St → Option ρ) (gv1 : Nat) (gv2 : Nat → Int) (rv3 : Nat) (rv6 : Int) (rv9 : Int) (text16 : ByteArray) (k17 : Int) (gv18 : Nat → Int) (gv19 : Nat → Int) :
    xcode (E55 N) ents spec_DrawParseVector_su.kp 1 N (cL (cK (cB (cA (cB (cB (cB (cB spec_DrawParseVector_su.bd)))))))) 0 (spec_DrawParseVector_su.st0 gv1 gv2 rv3 rv6 rv9 text16 k17 gv18 gv19) (roundK spec_DrawParseVector_su.kp 1 0 L0 (spec_DrawParseVector_su.k0 N K gv1 gv2)) = (spec_DrawParseVector_su.b0 N (fun d0 d1 d2 => K (.tup [.int .i64 (d0), .int .i64 (d1), .str (d2)]) [⟨false, .flat gv1 (.ints .u8 gv2)⟩]) (fun text16 k17 gv18 gv19 => L0 (spec_DrawParseVector_su.st0 gv1 gv2 rv3 rv6 rv9 text16 k17 gv18 gv19)) (fun ov26 ov27 ov28 => (spec_DrawParseVector_su.k0 N K gv1 gv2) (.exit 0) (spec_DrawParseVector_su.sx0_0 gv1 gv2 rv3 rv6 rv9 ov26 ov27 ov28)) gv2 rv3 text16 k17 gv18 gv19) := by
  have h := spec_DrawParseVector_su.b0_gen N K L0 (spec_DrawParseVector_su.k0 N K gv1 gv2) gv1 gv2 rv3 rv6 rv9 text16 k17 gv18 gv19
  rw [spec_DrawParseVector_su.k0_mix] at h
  exact h
theorem spec_DrawParseVector_su.a0_0_eq {ρ : Type} (N : Nat) (K : AV → Heap → Option ρ) (gv1 : Nat) (gv2 : Nat → Int) (rv3 : Nat) (rv6 : Int) (rv9 : Int) (ov26 : ByteArray) (ov27 : Nat → Int) (ov28 : Nat → Int) :
    (spec_DrawParseVector_su.k0 N K gv1 gv2) (.exit 0) (spec_DrawParseVector_su.sx0_0 gv1 gv2 rv3 rv6 rv9 ov26 ov27 ov28) = (spec_DrawParseVector_su.a0_0 N (fun d0 d1 d2 => K (.tup [.int .i64 (d0), .int .i64 (d1), .str (d2)]) [⟨false, .flat gv1 (.ints .u8 gv2)⟩]) gv2 rv3 rv6 rv9 ov26 ov27 ov28) := by kernel_rfl
theorem spec_DrawParseVector_su.l0_eq {ρ : Type} (N : Nat) (K : AV → Heap → Option ρ) (gv1 : Nat) (gv2 : Nat → Int) (rv3 : Nat) (rv6 : Int) (rv9 : Int) :
    ∀ (m : Nat) (text16 : ByteArray) (k17 : Int) (gv18 : Nat → Int) (gv19 : Nat → Int), xloop (xcode (E55 N) ents spec_DrawParseVector_su.kp 1 N (cL (cK (cB (cA (cB (cB (cB (cB spec_DrawParseVector_su.bd)))))))) 0) spec_DrawParseVector_su.kp 1 0 m (spec_DrawParseVector_su.st0 gv1 gv2 rv3 rv6 rv9 text16 k17 gv18 gv19) (spec_DrawParseVector_su.k0 N K gv1 gv2) = (spec_DrawParseVector_su.l0 N (fun d0 d1 d2 => K (.tup [.int .i64 (d0), .int .i64 (d1), .str (d2)]) [⟨false, .flat gv1 (.ints .u8 gv2)⟩]) gv2 rv3 (fun ov26 ov27 ov28 => (spec_DrawParseVector_su.k0 N K gv1 gv2) (.exit 0) (spec_DrawParseVector_su.sx0_0 gv1 gv2 rv3 rv6 rv9 ov26 ov27 ov28)) m text16 k17 gv18 gv19) := by
  intro m
  induction m with
  | zero => intros; rfl
  | succ m ih =>
    intro text16 k17 gv18 gv19
    refine (spec_DrawParseVector_su.b0_eq N K (fun s => xloop (xcode (E55 N) ents spec_DrawParseVector_su.kp 1 N (cL (cK (cB (cA (cB (cB (cB (cB spec_DrawParseVector_su.bd)))))))) 0) spec_DrawParseVector_su.kp 1 0 m s (spec_DrawParseVector_su.k0 N K gv1 gv2)) gv1 gv2 rv3 rv6 rv9 text16 k17 gv18 gv19).trans ?_
    simp only [ih]
    kernel_rfl
theorem spec_DrawParseVector_su.s_eq {ρ : Type} (N : Nat) (K : AV → Heap → Option ρ) (code0 : Nat) (gv1 : Nat) (gv2 : Nat → Int) :
    xbody (E55 N) ents spec_DrawParseVector_su.kp N Go.Proofs.Tryz.f12 spec_DrawParseVector_su.bd [.slice false 0 0 code0 .unk 1] [⟨false, .flat gv1 (.ints .u8 gv2)⟩] K = (spec_DrawParseVector_su.s N (fun d0 d1 d2 => K (.tup [.int .i64 (d0), .int .i64 (d1), .str (d2)]) [⟨false, .flat gv1 (.ints .u8 gv2)⟩]) (fun rv3 rv6 rv9 text16 k17 gv18 gv19 => xloop (xcode (E55 N) ents spec_DrawParseVector_su.kp 1 N (cL (cK (cB (cA (cB (cB (cB (cB spec_DrawParseVector_su.bd)))))))) 0) spec_DrawParseVector_su.kp 1 0 N (spec_DrawParseVector_su.st0 gv1 gv2 rv3 rv6 rv9 text16 k17 gv18 gv19) (spec_DrawParseVector_su.k0 N K gv1 gv2)) code0 gv2) := by kernel_rfl
theorem spec_DrawParseVector_su.eqb {ρ : Type} (N : Nat) (K : AV → Heap → Option ρ) (code0 : Nat) (gv1 : Nat) (gv2 : Nat → Int) :
    xbody (E55 N) ents spec_DrawParseVector_su.kp N Go.Proofs.Tryz.f12 spec_DrawParseVector_su.bd [.slice false 0 0 code0 .unk 1] [⟨false, .flat gv1 (.ints .u8 gv2)⟩] K = (spec_DrawParseVector_su.bdy N (fun d0 d1 d2 => K (.tup [.int .i64 (d0), .int .i64 (d1), .str (d2)]) [⟨false, .flat gv1 (.ints .u8 gv2)⟩]) code0 gv1 gv2) := by
  refine (spec_DrawParseVector_su.s_eq N K code0 gv1 gv2).trans ?_
  simp only [spec_DrawParseVector_su.l0_eq, spec_DrawParseVector_su.a0_0_eq]
  kernel_rfl
theorem spec_DrawParseVector_su.eq {ρ : Type} (N : Nat) (K : AV → Heap → Option ρ) (code0 : Nat) (gv1 : Nat) (gv2 : Nat → Int) :
    xbody (E55 N) ents spec_DrawParseVector_su.kp N Go.Proofs.Tryz.f12 spec_DrawParseVector_su.bd [.slice false 0 0 code0 .unk 1] [⟨false, .flat gv1 (.ints .u8 gv2)⟩] K = (spec_DrawParseVector_su N (fun d0 d1 d2 => K (.tup [.int .i64 (d0), .int .i64 (d1), .str (d2)]) [⟨false, .flat gv1 (.ints .u8 gv2)⟩]) code0 gv1 gv2) :=
  (spec_DrawParseVector_su.eqb N K code0 gv1 gv2).trans (spec_DrawParseVector_su.opq _ _ _ _ _).symm
def spec_DrawParseVector_su.en (N : Nat) (ρ : Type) : List AV → Heap → (AV → Heap → Option ρ) → Option ρ
  | [.slice false 0 0 code0 .unk 1], [⟨false, .flat gv1 (.ints .u8 gv2)⟩], K => (spec_DrawParseVector_su N (fun d0 d1 d2 => K (.tup [.int .i64 (d0), .int .i64 (d1), .str (d2)]) [⟨false, .flat gv1 (.ints .u8 gv2)⟩]) code0 gv1 gv2)
  | _, _, _ => none
theorem spec_DrawParseVector_su.en_ok (N : Nat) (hE : EnvOk (E55 N) ents) (ρ : Type) (args : List AV) (sh : Heap) (K : AV → Heap → Option ρ) (r : ρ) (h : spec_DrawParseVector_su.en N ρ args sh K = some r) : ∃ v sh', K v sh' = some r ∧ FnOk (E55 N).P 12 args sh v sh' := by
  unfold spec_DrawParseVector_su.en at h
  split at h
  · exact fn_ok hE (kp := spec_DrawParseVector_su.kp) (N := N) Go.Proofs.Tryz.func12 (c := spec_DrawParseVector_su.bd) (by kernel_rfl) ((spec_DrawParseVector_su.eq N _ _ _ _).trans h)
  · cases h
def E56 (N : Nat) : Env := (E55 N).add 12 (spec_DrawParseVector_su.en N)
theorem E56_ok (N : Nat) : EnvOk (E56 N) ents := Env.add_ok (E55_ok N) (spec_DrawParseVector_su.en_ok N (E55_ok N))
def spec_l01Split.kp : Keeps := ⟨[(0, [0, 1, 5, 6, 7], [], [])], [(0, [0, 5, 6], [], [])], []⟩
def spec_l01Split.bd : Code := bodyOf Go.Proofs.Tryz.f50
def spec_l01Split.fin {ρ : Type} (N : Nat) (K : AV → Heap → Option ρ) : XE → St → Option ρ := finK (E56 N) spec_l01Split.kp.fins Go.Proofs.Tryz.f50 [] K
def spec_l01Split.k0 {ρ : Type} (N : Nat) (K : AV → Heap → Option ρ) : XE → St → Option ρ := (blockK spec_l01Split.kp 0 0 (seqK (xcode (E56 N) ents spec_l01Split.kp 0 N (cB (cB (cB (cB spec_l01Split.bd)))) 0) (spec_l01Split.fin N K)))
theorem spec_l01Split.k0_mix {ρ : Type} (N : Nat) (K : AV → Heap → Option ρ) : mixK (spec_l01Split.fin N K .ret) (spec_l01Split.k0 N K) = (spec_l01Split.k0 N K) := by
  funext e s; cases e <;> kernel_rfl
def spec_l01Split.st0 (s0 : ByteArray) (by1 : Int) (outv2 : Nat) (at3 : Int) (i4 : Int) (gv5 : Nat → ByteArray) : St := ⟨sl 35 [(0, .str (s0)), (1, .int .u8 (by1)), (5, .slice true 0 0 outv2 .whole 1), (6, .int .i64 (at3)), (7, .int .i64 (i4))], [⟨true, .flat 0 (.strs gv5)⟩]⟩
def spec_l01Split.sx0_0 (s0 : ByteArray) (ov6 : Nat) (ov7 : Int) (ov8 : Nat → ByteArray) : St := ⟨sl 35 [(0, .str (s0)), (5, .slice true 0 0 ov6 .whole 1), (6, .int .i64 (ov7))], [⟨true, .flat 0 (.strs ov8)⟩]⟩
theorem spec_l01Split.b0_gen {ρ : Type} (N : Nat) (K : AV → Heap → Option ρ) (L0 : St → Option ρ) (kv : XE → St → Option ρ) (s0 : ByteArray) (by1 : Int) (outv2 : Nat) (at3 : Int) (i4 : Int) (gv5 : Nat → ByteArray) :
    xcode (E56 N) ents spec_l01Split.kp 0 N (cL (cK (cB (cA (cB (cB (cB spec_l01Split.bd))))))) 0 (spec_l01Split.st0 s0 by1 outv2 at3 i4 gv5) (roundK spec_l01Split.kp 0 0 L0 (mixK (spec_l01Split.fin N K .ret) kv)) = (spec_l01Split.b0 N (fun d0 d1 => K (.slice true 0 0 d0 .whole 1) [⟨true, .flat 0 (.strs d1)⟩]) (fun outv2 at3 i4 gv5 => L0 (spec_l01Split.st0 s0 by1 outv2 at3 i4 gv5)) (fun ov6 ov7 ov8 => kv (.exit 0) (spec_l01Split.sx0_0 s0 ov6 ov7 ov8)) s0 by1 outv2 at3 i4 gv5) := by kernel_rfl
theorem spec_l01Split.b0_eq {ρ : Type} (N : Nat) (K : AV → Heap → Option ρ) (L0 : St → Option ρ) (s0 : ByteArray) (by1 : Int) (outv2 : Nat) (at3 : Int) (i4 : Int) (gv5 : Nat → ByteArray) :
    xcode (E56 N) ents spec_l01Split.kp 0 N (cL (cK (cB (cA (cB (cB (cB spec_l01Split.bd))))))) 0 (spec_l01Split.st0 s0 by1 outv2 at3 i4 gv5) (roundK spec_l01Split.kp 0 0 L0 (spec_l01Split.k0 N K)) = (spec_l01Split.b0 N (fun d0 d1 => K (.slice true 0 0 d0 .whole 1) [⟨true, .flat 0 (.strs d1)⟩]) (fun outv2 at3 i4 gv5 => L0 (spec_l01Split.st0 s0 by1 outv2 at3 i4 gv5)) (fun ov6 ov7 ov8 => (spec_l01Split.k0 N K) (.exit 0) (spec_l01Split.sx0_0 s0 ov6 ov7 ov8)) s0 by1 outv2 at3 i4 gv5) := by
  have h := spec_l01Split.b0_gen N K L0 (spec_l01Split.k0 N K) s0 by1 outv2 at3 i4 gv5
  rw [spec_l01Split.k0_mix] at h
  exact h
theorem spec_l01Split.a0_0_eq {ρ : Type} (N : Nat) (K : AV → Heap → Option ρ) (s0 : ByteArray) (ov6 : Nat) (ov7 : Int) (ov8 : Nat → ByteArray) :
    (spec_l01Split.k0 N K) (.exit 0) (spec_l01Split.sx0_0 s0 ov6 ov7 ov8) = (spec_l01Split.a0_0 N (fun d0 d1 => K (.slice true 0 0 d0 .whole 1) [⟨true, .flat 0 (.strs d1)⟩]) s0 ov6 ov7 ov8) := by kernel_rfl
theorem spec_l01Split.l0_eq {ρ : Type} (N : Nat) (K : AV → Heap → Option ρ) (s0 : ByteArray) (by1 : Int) :
    ∀ (m : Nat) (outv2 : Nat) (at3 : Int) (i4 : Int) (gv5 : Nat → ByteArray), xloop (xcode (E56 N) ents spec_l01Split.kp 0 N (cL (cK (cB (cA (cB (cB (cB spec_l01Split.bd))))))) 0) spec_l01Split.kp 0 0 m (spec_l01Split.st0 s0 by1 outv2 at3 i4 gv5) (spec_l01Split.k0 N K) = (spec_l01Split.l0 N (fun d0 d1 => K (.slice true 0 0 d0 .whole 1) [⟨true, .flat 0 (.strs d1)⟩]) s0 by1 (fun ov6 ov7 ov8 => (spec_l01Split.k0 N K) (.exit 0) (spec_l01Split.sx0_0 s0 ov6 ov7 ov8)) m outv2 at3 i4 gv5) := by
  intro m
  induction m with
  | zero => intros; rfl
  | succ m ih =>
    intro outv2 at3 i4 gv5
    refine (spec_l01Split.b0_eq N K (fun s => xloop (xcode (E56 N) ents spec_l01Split.kp 0 N (cL (cK (cB (cA (cB (cB (cB spec_l01Split.bd))))))) 0) spec_l01Split.kp 0 0 m s (spec_l01Split.k0 N K)) s0 by1 outv2 at3 i4 gv5).trans ?_
    simp only [ih]
    kernel_rfl
theorem spec_l01Split.s_eq {ρ : Type} (N : Nat) (K : AV → Heap → Option ρ) (s0 : ByteArray) (by1 : Int) :
    xbody (E56 N) ents spec_l01Split.kp N Go.Proofs.Tryz.f50 spec_l01Split.bd [.str (s0), .int .u8 (by1)] [] K = (spec_l01Split.s N (fun d0 d1 => K (.slice true 0 0 d0 .whole 1) [⟨true, .flat 0 (.strs d1)⟩]) (fun outv2 at3 i4 gv5 => xloop (xcode (E56 N) ents spec_l01Split.kp 0 N (cL (cK (cB (cA (cB (cB (cB spec_l01Split.bd))))))) 0) spec_l01Split.kp 0 0 N (spec_l01Split.st0 s0 by1 outv2 at3 i4 gv5) (spec_l01Split.k0 N K))) := by kernel_rfl
theorem spec_l01Split.eq {ρ : Type} (N : Nat) (K : AV → Heap → Option ρ) (s0 : ByteArray) (by1 : Int) :
    xbody (E56 N) ents spec_l01Split.kp N Go.Proofs.Tryz.f50 spec_l01Split.bd [.str (s0), .int .u8 (by1)] [] K = (spec_l01Split N (fun d0 d1 => K (.slice true 0 0 d0 .whole 1) [⟨true, .flat 0 (.strs d1)⟩]) s0 by1) := by
  refine (spec_l01Split.s_eq N K s0 by1).trans ?_
  simp only [spec_l01Split.l0_eq, spec_l01Split.a0_0_eq]
  kernel_rfl
def spec_l01Split.en (N : Nat) (ρ : Type) : List AV → Heap → (AV → Heap → Option ρ) → Option ρ
  | [.str (s0), .int .u8 (by1)], [], K => (spec_l01Split N (fun d0 d1 => K (.slice true 0 0 d0 .whole 1) [⟨true, .flat 0 (.strs d1)⟩]) s0 by1)
  | _, _, _ => none
theorem spec_l01Split.en_ok (N : Nat) (hE : EnvOk (E56 N) ents) (ρ : Type) (args : List AV) (sh : Heap) (K : AV → Heap → Option ρ) (r : ρ) (h : spec_l01Split.en N ρ args sh K = some r) : ∃ v sh', K v sh' = some r ∧ FnOk (E56 N).P 50 args sh v sh' := by
  unfold spec_l01Split.en at h
  split at h
  · exact fn_ok hE (kp := spec_l01Split.kp) (N := N) Go.Proofs.Tryz.func50 (c := spec_l01Split.bd) (by kernel_rfl) ((spec_l01Split.eq N _ _ _).trans h)
  · cases h
def E57 (N : Nat) : Env := (E56 N).add 50 (spec_l01Split.en N)
theorem E57_ok (N : Nat) : EnvOk (E57 N) ents := Env.add_ok (E56_ok N) (spec_l01Split.en_ok N (E56_ok N))
def spec_l01Number.kp : Keeps := ⟨[(0, [0, 3, 4], [], [])], [(0, [3], [], [])], []⟩
def spec_l01Number.bd : Code := bodyOf Go.Proofs.Tryz.f51
def spec_l01Number.fin {ρ : Type} (N : Nat) (K : AV → Heap → Option ρ) : XE → St → Option ρ := finK (E57 N) spec_l01Number.kp.fins Go.Proofs.Tryz.f51 [] K
def spec_l01Number.k0 {ρ : Type} (N : Nat) (K : AV → Heap → Option ρ) : XE → St → Option ρ := (blockK spec_l01Number.kp 0 0 (seqK (xcode (E57 N) ents spec_l01Number.kp 0 N (cB (cB (cB (cB spec_l01Number.bd)))) 0) (spec_l01Number.fin N K)))
theorem spec_l01Number.k0_mix {ρ : Type} (N : Nat) (K : AV → Heap → Option ρ) : mixK (spec_l01Number.fin N K .ret) (spec_l01Number.k0 N K) = (spec_l01Number.k0 N K) := by
  funext e s; cases e <;> kernel_rfl
def spec_l01Number.st0 (s0 : ByteArray) (nv1 : Int) (i2 : Int) : St := ⟨sl 48 [(0, .str (s0)), (3, .int .i64 (nv1)), (4, .int .i64 (i2))], []⟩
def spec_l01Number.sx0_0 (ov3 : Int) : St := ⟨sl 48 [(3, .int .i64 (ov3))], []⟩
def spec_l01Number.k1 {ρ : Type} (N : Nat) (K : AV → Heap → Option ρ) : XE → St → Option ρ := (blockK spec_l01Number.kp 0 0 (seqK (xcode (E57 N) ents spec_l01Number.kp 0 N (cB (cB (cB (cB spec_l01Number.bd)))) 0) (spec_l01Number.fin N K)))
theorem spec_l01Number.k1_mix {ρ : Type} (N : Nat) (K : AV → Heap → Option ρ) : mixK (spec_l01Number.fin N K .ret) (spec_l01Number.k1 N K) = (spec_l01Number.k1 N K) := by
  funext e s; cases e <;> kernel_rfl
def spec_l01Number.st1 (s0 : ByteArray) (nv4 : Int) (i5 : Int) : St := ⟨sl 48 [(0, .str (s0)), (3, .int .i64 (nv4)), (4, .int .i64 (i5))], []⟩
def spec_l01Number.sx1_0 (ov6 : Int) : St := ⟨sl 48 [(3, .int .i64 (ov6))], []⟩
theorem spec_l01Number.b0_gen {ρ : Type} (N : Nat) (K : AV → Heap → Option ρ) (L0 : St → Option ρ) (kv : XE → St → Option ρ) (s0 : ByteArray) (nv1 : Int) (i2 : Int) :
    xcode (E57 N) ents spec_l01Number.kp 0 N (cL (cK (cB (cA (cB (cB (cB spec_l01Number.bd))))))) 0 (spec_l01Number.st0 s0 nv1 i2) (roundK spec_l01Number.kp 0 0 L0 (mixK (spec_l01Number.fin N K .ret) kv)) = (spec_l01Number.b0 N (fun d0 => K (.int .i64 (d0)) []) (fun nv1 i2 => L0 (spec_l01Number.st0 s0 nv1 i2)) (fun ov3 => kv (.exit 0) (spec_l01Number.sx0_0 ov3)) s0 nv1 i2) := by kernel_rfl
theorem spec_l01Number.b0_eq {ρ : Type} (N : Nat) (K : AV → Heap → Option ρ) (L0 : St → Option ρ) (s0 : ByteArray) (nv1 : Int) (i2 : Int) :
    xcode (E57 N) ents spec_l01Number.kp 0 N (cL (cK (cB (cA (cB (cB (cB spec_l01Number.bd))))))) 0 (spec_l01Number.st0 s0 nv1 i2) (roundK spec_l01Number.kp 0 0 L0 (spec_l01Number.k0 N K)) = (spec_l01Number.b0 N (fun d0 => K (.int .i64 (d0)) []) (fun nv1 i2 => L0 (spec_l01Number.st0 s0 nv1 i2)) (fun ov3 => (spec_l01Number.k0 N K) (.exit 0) (spec_l01Number.sx0_0 ov3)) s0 nv1 i2) := by
  have h := spec_l01Number.b0_gen N K L0 (spec_l01Number.k0 N K) s0 nv1 i2
  rw [spec_l01Number.k0_mix] at h
  exact h
theorem spec_l01Number.a0_0_eq {ρ : Type} (N : Nat) (K : AV → Heap → Option ρ) (ov3 : Int) :
    (spec_l01Number.k0 N K) (.exit 0) (spec_l01Number.sx0_0 ov3) = (spec_l01Number.a0_0 N (fun d0 => K (.int .i64 (d0)) []) ov3) := by kernel_rfl
theorem spec_l01Number.b1_gen {ρ : Type} (N : Nat) (K : AV → Heap → Option ρ) (L1 : St → Option ρ) (kv : XE → St → Option ρ) (s0 : ByteArray) (nv4 : Int) (i5 : Int) :
    xcode (E57 N) ents spec_l01Number.kp 0 N (cL (cK (cB (cA (cB (cB (cB spec_l01Number.bd))))))) 0 (spec_l01Number.st1 s0 nv4 i5) (roundK spec_l01Number.kp 0 0 L1 (mixK (spec_l01Number.fin N K .ret) kv)) = (spec_l01Number.b1 N (fun d0 => K (.int .i64 (d0)) []) (fun nv4 i5 => L1 (spec_l01Number.st1 s0 nv4 i5)) (fun ov6 => kv (.exit 0) (spec_l01Number.sx1_0 ov6)) s0 nv4 i5) := by kernel_rfl
theorem spec_l01Number.b1_eq {ρ : Type} (N : Nat) (K : AV → Heap → Option ρ) (L1 : St → Option ρ) (s0 : ByteArray) (nv4 : Int) (i5 : Int) :
    xcode (E57 N) ents spec_l01Number.kp 0 N (cL (cK (cB (cA (cB (cB (cB spec_l01Number.bd))))))) 0 (spec_l01Number.st1 s0 nv4 i5) (roundK spec_l01Number.kp 0 0 L1 (spec_l01Number.k1 N K)) = (spec_l01Number.b1 N (fun d0 => K (.int .i64 (d0)) []) (fun nv4 i5 => L1 (spec_l01Number.st1 s0 nv4 i5)) (fun ov6 => (spec_l01Number.k1 N K) (.exit 0) (spec_l01Number.sx1_0 ov6)) s0 nv4 i5) := by
  have h := spec_l01Number.b1_gen N K L1 (spec_l01Number.k1 N K) s0 nv4 i5
  rw [spec_l01Number.k1_mix] at h
  exact h
theorem spec_l01Number.a1_0_eq {ρ : Type} (N : Nat) (K : AV → Heap → Option ρ) (ov6 : Int) :
    (spec_l01Number.k1 N K) (.exit 0) (spec_l01Number.sx1_0 ov6) = (spec_l01Number.a1_0 N (fun d0 => K (.int .i64 (d0)) []) ov6) := by kernel_rfl
theorem spec_l01Number.l0_eq {ρ : Type} (N : Nat) (K : AV → Heap → Option ρ) (s0 : ByteArray) :
    ∀ (m : Nat) (nv1 : Int) (i2 : Int), xloop (xcode (E57 N) ents spec_l01Number.kp 0 N (cL (cK (cB (cA (cB (cB (cB spec_l01Number.bd))))))) 0) spec_l01Number.kp 0 0 m (spec_l01Number.st0 s0 nv1 i2) (spec_l01Number.k0 N K) = (spec_l01Number.l0 N (fun d0 => K (.int .i64 (d0)) []) s0 (fun ov3 => (spec_l01Number.k0 N K) (.exit 0) (spec_l01Number.sx0_0 ov3)) m nv1 i2) := by
  intro m
  induction m with
  | zero => intros; rfl
  | succ m ih =>
    intro nv1 i2
    refine (spec_l01Number.b0_eq N K (fun s => xloop (xcode (E57 N) ents spec_l01Number.kp 0 N (cL (cK (cB (cA (cB (cB (cB spec_l01Number.bd))))))) 0) spec_l01Number.kp 0 0 m s (spec_l01Number.k0 N K)) s0 nv1 i2).trans ?_
    simp only [ih]
    kernel_rfl
theorem spec_l01Number.l1_eq {ρ : Type} (N : Nat) (K : AV → Heap → Option ρ) (s0 : ByteArray) :
    ∀ (m : Nat) (nv4 : Int) (i5 : Int), xloop (xcode (E57 N) ents spec_l01Number.kp 0 N (cL (cK (cB (cA (cB (cB (cB spec_l01Number.bd))))))) 0) spec_l01Number.kp 0 0 m (spec_l01Number.st1 s0 nv4 i5) (spec_l01Number.k1 N K) = (spec_l01Number.l1 N (fun d0 => K (.int .i64 (d0)) []) s0 (fun ov6 => (spec_l01Number.k1 N K) (.exit 0) (spec_l01Number.sx1_0 ov6)) m nv4 i5) := by
  intro m
  induction m with
  | zero => intros; rfl
  | succ m ih =>
    intro nv4 i5
    refine (spec_l01Number.b1_eq N K (fun s => xloop (xcode (E57 N) ents spec_l01Number.kp 0 N (cL (cK (cB (cA (cB (cB (cB spec_l01Number.bd))))))) 0) spec_l01Number.kp 0 0 m s (spec_l01Number.k1 N K)) s0 nv4 i5).trans ?_
    simp only [ih]
    kernel_rfl
theorem spec_l01Number.s_eq {ρ : Type} (N : Nat) (K : AV → Heap → Option ρ) (s0 : ByteArray) :
    xbody (E57 N) ents spec_l01Number.kp N Go.Proofs.Tryz.f51 spec_l01Number.bd [.str (s0)] [] K = (spec_l01Number.s N (fun d0 => K (.int .i64 (d0)) []) (fun nv1 i2 => xloop (xcode (E57 N) ents spec_l01Number.kp 0 N (cL (cK (cB (cA (cB (cB (cB spec_l01Number.bd))))))) 0) spec_l01Number.kp 0 0 N (spec_l01Number.st0 s0 nv1 i2) (spec_l01Number.k0 N K)) (fun nv4 i5 => xloop (xcode (E57 N) ents spec_l01Number.kp 0 N (cL (cK (cB (cA (cB (cB (cB spec_l01Number.bd))))))) 0) spec_l01Number.kp 0 0 N (spec_l01Number.st1 s0 nv4 i5) (spec_l01Number.k1 N K)) s0) := by kernel_rfl
theorem spec_l01Number.eq {ρ : Type} (N : Nat) (K : AV → Heap → Option ρ) (s0 : ByteArray) :
    xbody (E57 N) ents spec_l01Number.kp N Go.Proofs.Tryz.f51 spec_l01Number.bd [.str (s0)] [] K = (spec_l01Number N (fun d0 => K (.int .i64 (d0)) []) s0) := by
  refine (spec_l01Number.s_eq N K s0).trans ?_
  simp only [spec_l01Number.l0_eq, spec_l01Number.a0_0_eq, spec_l01Number.l1_eq, spec_l01Number.a1_0_eq]
  kernel_rfl
def spec_l01Number.en (N : Nat) (ρ : Type) : List AV → Heap → (AV → Heap → Option ρ) → Option ρ
  | [.str (s0)], [], K => (spec_l01Number N (fun d0 => K (.int .i64 (d0)) []) s0)
  | _, _, _ => none
theorem spec_l01Number.en_ok (N : Nat) (hE : EnvOk (E57 N) ents) (ρ : Type) (args : List AV) (sh : Heap) (K : AV → Heap → Option ρ) (r : ρ) (h : spec_l01Number.en N ρ args sh K = some r) : ∃ v sh', K v sh' = some r ∧ FnOk (E57 N).P 51 args sh v sh' := by
  unfold spec_l01Number.en at h
  split at h
  · exact fn_ok hE (kp := spec_l01Number.kp) (N := N) Go.Proofs.Tryz.func51 (c := spec_l01Number.bd) (by kernel_rfl) ((spec_l01Number.eq N _ _).trans h)
  · cases h
def E58 (N : Nat) : Env := (E57 N).add 51 (spec_l01Number.en N)
theorem E58_ok (N : Nat) : EnvOk (E58 N) ents := Env.add_ok (E57_ok N) (spec_l01Number.en_ok N (E57_ok N))
def spec_l01Read.kp : Keeps := ⟨[(0, [0, 6, 8, 9, 10], [], [])], [(0, [6, 9], [], [])], []⟩
def spec_l01Read.bd : Code := bodyOf Go.Proofs.Tryz.f33
def spec_l01Read.fin {ρ : Type} (N : Nat) (K : AV → Heap → Option ρ) : XE → St → Option ρ := finK (E58 N) spec_l01Read.kp.fins Go.Proofs.Tryz.f33 [] K
def spec_l01Read.k0 {ρ : Type} (N : Nat) (K : AV → Heap → Option ρ) : XE → St → Option ρ := (blockK spec_l01Read.kp 0 0 (seqK (xcode (E58 N) ents spec_l01Read.kp 0 N (cB (cB (cB (cB spec_l01Read.bd)))) 0) (spec_l01Read.fin N K)))
theorem spec_l01Read.k0_mix {ρ : Type} (N : Nat) (K : AV → Heap → Option ρ) : mixK (spec_l01Read.fin N K .ret) (spec_l01Read.k0 N K) = (spec_l01Read.k0 N K) := by
  funext e s; cases e <;> kernel_rfl
def spec_l01Read.st0 (p0 : Int) (rv3 : Nat) (rv4 : Nat → ByteArray) (i5 : Int) (gv6 : Nat → Int) : St := ⟨sl 42 [(0, .int .i64 (p0)), (6, .sptr [(0, 8)]), (8, .slice true 1 0 rv3 .whole 1), (9, .sptr [(2, 8)]), (10, .int .i64 (i5))], [⟨true, .flat 8 (.ints .u8 (fun _ => 0))⟩, ⟨true, .flat 0 (.strs rv4)⟩, ⟨true, .flat 8 (.ints .u8 gv6)⟩]⟩
def spec_l01Read.sx0_0 (ov9 : Nat → Int) : St := ⟨sl 42 [(6, .sptr [(0, 8)]), (9, .sptr [(1, 8)])], [⟨true, .flat 8 (.ints .u8 (fun _ => 0))⟩, ⟨true, .flat 8 (.ints .u8 ov9)⟩]⟩
theorem spec_l01Read.b0_gen {ρ : Type} (N : Nat) (K : AV → Heap → Option ρ) (L0 : St → Option ρ) (kv : XE → St → Option ρ) (p0 : Int) (rv3 : Nat) (rv4 : Nat → ByteArray) (i5 : Int) (gv6 : Nat → Int) :
    xcode (E58 N) ents spec_l01Read.kp 0 N (cL (cK (cB (cA (cB (cB (cB spec_l01Read.bd))))))) 0 (spec_l01Read.st0 p0 rv3 rv4 i5 gv6) (roundK spec_l01Read.kp 0 0 L0 (mixK (spec_l01Read.fin N K .ret) kv)) = (spec_l01Read.b0 N (fun d0 d1 => K (.tup [.agg [⟨.u8, 8, d0⟩], .bool (d1)]) []) (fun i5 gv6 => L0 (spec_l01Read.st0 p0 rv3 rv4 i5 gv6)) (fun ov9 => kv (.exit 0) (spec_l01Read.sx0_0 ov9)) p0 rv3 rv4 i5 gv6) := by kernel_rfl
theorem spec_l01Read.b0_eq {ρ : Type} (N : Nat) (K : AV → Heap → Option ρ) (L0 : St → Option ρ) (p0 : Int) (rv3 : Nat) (rv4 : Nat → ByteArray) (i5 : Int) (gv6 : Nat → Int) :
    xcode (E58 N) ents spec_l01Read.kp 0 N (cL (cK (cB (cA (cB (cB (cB spec_l01Read.bd))))))) 0 (spec_l01Read.st0 p0 rv3 rv4 i5 gv6) (roundK spec_l01Read.kp 0 0 L0 (spec_l01Read.k0 N K)) = (spec_l01Read.b0 N (fun d0 d1 => K (.tup [.agg [⟨.u8, 8, d0⟩], .bool (d1)]) []) (fun i5 gv6 => L0 (spec_l01Read.st0 p0 rv3 rv4 i5 gv6)) (fun ov9 => (spec_l01Read.k0 N K) (.exit 0) (spec_l01Read.sx0_0 ov9)) p0 rv3 rv4 i5 gv6) := by
  have h := spec_l01Read.b0_gen N K L0 (spec_l01Read.k0 N K) p0 rv3 rv4 i5 gv6
  rw [spec_l01Read.k0_mix] at h
  exact h
theorem spec_l01Read.a0_0_eq {ρ : Type} (N : Nat) (K : AV → Heap → Option ρ) (ov9 : Nat → Int) :
    (spec_l01Read.k0 N K) (.exit 0) (spec_l01Read.sx0_0 ov9) = (spec_l01Read.a0_0 N (fun d0 d1 => K (.tup [.agg [⟨.u8, 8, d0⟩], .bool (d1)]) []) ov9) := by kernel_rfl
theorem spec_l01Read.l0_eq {ρ : Type} (N : Nat) (K : AV → Heap → Option ρ) (p0 : Int) (rv3 : Nat) (rv4 : Nat → ByteArray) :
    ∀ (m : Nat) (i5 : Int) (gv6 : Nat → Int), xloop (xcode (E58 N) ents spec_l01Read.kp 0 N (cL (cK (cB (cA (cB (cB (cB spec_l01Read.bd))))))) 0) spec_l01Read.kp 0 0 m (spec_l01Read.st0 p0 rv3 rv4 i5 gv6) (spec_l01Read.k0 N K) = (spec_l01Read.l0 N (fun d0 d1 => K (.tup [.agg [⟨.u8, 8, d0⟩], .bool (d1)]) []) p0 rv3 rv4 (fun ov9 => (spec_l01Read.k0 N K) (.exit 0) (spec_l01Read.sx0_0 ov9)) m i5 gv6) := by
  intro m
  induction m with
  | zero => intros; rfl
  | succ m ih =>
    intro i5 gv6
    refine (spec_l01Read.b0_eq N K (fun s => xloop (xcode (E58 N) ents spec_l01Read.kp 0 N (cL (cK (cB (cA (cB (cB (cB spec_l01Read.bd))))))) 0) spec_l01Read.kp 0 0 m s (spec_l01Read.k0 N K)) p0 rv3 rv4 i5 gv6).trans ?_
    simp only [ih]
    kernel_rfl
theorem spec_l01Read.s_eq {ρ : Type} (N : Nat) (K : AV → Heap → Option ρ) (p0 : Int) (nv1 : Int) (text2 : ByteArray) :
    xbody (E58 N) ents spec_l01Read.kp N Go.Proofs.Tryz.f33 spec_l01Read.bd [.int .i64 (p0), .int .i64 (nv1), .str (text2)] [] K = (spec_l01Read.s N (fun d0 d1 => K (.tup [.agg [⟨.u8, 8, d0⟩], .bool (d1)]) []) (fun rv3 rv4 i5 gv6 => xloop (xcode (E58 N) ents spec_l01Read.kp 0 N (cL (cK (cB (cA (cB (cB (cB spec_l01Read.bd))))))) 0) spec_l01Read.kp 0 0 N (spec_l01Read.st0 p0 rv3 rv4 i5 gv6) (spec_l01Read.k0 N K)) nv1 text2) := by kernel_rfl
theorem spec_l01Read.eq {ρ : Type} (N : Nat) (K : AV → Heap → Option ρ) (p0 : Int) (nv1 : Int) (text2 : ByteArray) :
    xbody (E58 N) ents spec_l01Read.kp N Go.Proofs.Tryz.f33 spec_l01Read.bd [.int .i64 (p0), .int .i64 (nv1), .str (text2)] [] K = (spec_l01Read N (fun d0 d1 => K (.tup [.agg [⟨.u8, 8, d0⟩], .bool (d1)]) []) p0 nv1 text2) := by
  refine (spec_l01Read.s_eq N K p0 nv1 text2).trans ?_
  simp only [spec_l01Read.l0_eq, spec_l01Read.a0_0_eq]
  kernel_rfl
def spec_l01Read.en (N : Nat) (ρ : Type) : List AV → Heap → (AV → Heap → Option ρ) → Option ρ
  | [.int .i64 (p0), .int .i64 (nv1), .str (text2)], [], K => (spec_l01Read N (fun d0 d1 => K (.tup [.agg [⟨.u8, 8, d0⟩], .bool (d1)]) []) p0 nv1 text2)
  | _, _, _ => none
theorem spec_l01Read.en_ok (N : Nat) (hE : EnvOk (E58 N) ents) (ρ : Type) (args : List AV) (sh : Heap) (K : AV → Heap → Option ρ) (r : ρ) (h : spec_l01Read.en N ρ args sh K = some r) : ∃ v sh', K v sh' = some r ∧ FnOk (E58 N).P 33 args sh v sh' := by
  unfold spec_l01Read.en at h
  split at h
  · exact fn_ok hE (kp := spec_l01Read.kp) (N := N) Go.Proofs.Tryz.func33 (c := spec_l01Read.bd) (by kernel_rfl) ((spec_l01Read.eq N _ _ _ _).trans h)
  · cases h
def E59 (N : Nat) : Env := (E58 N).add 33 (spec_l01Read.en N)
theorem E59_ok (N : Nat) : EnvOk (E59 N) ents := Env.add_ok (E58_ok N) (spec_l01Read.en_ok N (E58_ok N))
def spec_ParseVector.kp : Keeps := ⟨[], [], []⟩
def spec_ParseVector.bd : Code := bodyOf Go.Proofs.Tryz.f13
def spec_ParseVector.fin {ρ : Type} (N : Nat) (K : AV → Heap → Option ρ) : XE → St → Option ρ := finK (E59 N) spec_ParseVector.kp.fins Go.Proofs.Tryz.f13 [] K
theorem spec_ParseVector.eqb {ρ : Type} (N : Nat) (K : AV → Heap → Option ρ) (p0 : Int) (nv1 : Int) (text2 : ByteArray) :
    xbody (E59 N) ents spec_ParseVector.kp N Go.Proofs.Tryz.f13 spec_ParseVector.bd [.int .i64 (p0), .int .i64 (nv1), .str (text2)] [] K = (spec_ParseVector.bdy N (fun d0 d1 => K (.tup [.agg [⟨.u8, 8, d0⟩], .int .i64 (d1)]) []) p0 nv1 text2) := by kernel_rfl
theorem spec_ParseVector.eq {ρ : Type} (N : Nat) (K : AV → Heap → Option ρ) (p0 : Int) (nv1 : Int) (text2 : ByteArray) :
    xbody (E59 N) ents spec_ParseVector.kp N Go.Proofs.Tryz.f13 spec_ParseVector.bd [.int .i64 (p0), .int .i64 (nv1), .str (text2)] [] K = (spec_ParseVector N (fun d0 d1 => K (.tup [.agg [⟨.u8, 8, d0⟩], .int .i64 (d1)]) []) p0 nv1 text2) :=
  (spec_ParseVector.eqb N K p0 nv1 text2).trans (spec_ParseVector.opq _ _ _ _ _).symm
def spec_ParseVector.en (N : Nat) (ρ : Type) : List AV → Heap → (AV → Heap → Option ρ) → Option ρ
  | [.int .i64 (p0), .int .i64 (nv1), .str (text2)], [], K => (spec_ParseVector N (fun d0 d1 => K (.tup [.agg [⟨.u8, 8, d0⟩], .int .i64 (d1)]) []) p0 nv1 text2)
  | _, _, _ => none
theorem spec_ParseVector.en_ok (N : Nat) (hE : EnvOk (E59 N) ents) (ρ : Type) (args : List AV) (sh : Heap) (K : AV → Heap → Option ρ) (r : ρ) (h : spec_ParseVector.en N ρ args sh K = some r) : ∃ v sh', K v sh' = some r ∧ FnOk (E59 N).P 13 args sh v sh' := by
  unfold spec_ParseVector.en at h
  split at h
  · exact fn_ok hE (kp := spec_ParseVector.kp) (N := N) Go.Proofs.Tryz.func13 (c := spec_ParseVector.bd) (by kernel_rfl) ((spec_ParseVector.eq N _ _ _ _).trans h)
  · cases h
def E60 (N : Nat) : Env := (E59 N).add 13 (spec_ParseVector.en N)
theorem E60_ok (N : Nat) : EnvOk (E60 N) ents := Env.add_ok (E59_ok N) (spec_ParseVector.en_ok N (E59_ok N))
def strings_Split.en (N : Nat) (ρ : Type) : List AV → Heap → (AV → Heap → Option ρ) → Option ρ
  | [.str (s0), .str (sep1)], [], K => (strings_Split N (fun d0 d1 d2 d3 => K (.slice true 0 0 d0 (.exact d1) 1) [⟨true, .flat d2 (.strs d3)⟩]) s0 sep1)
  | _, _, _ => none
theorem strings_Split.en_ok (N : Nat) (hE : EnvOk (E60 N) ents) (ρ : Type) (args : List AV) (sh : Heap) (K : AV → Heap → Option ρ) (r : ρ) (h : strings_Split.en N ρ args sh K = some r) : ∃ v sh', K v sh' = some r ∧ FnOk (E60 N).P 34 args sh v sh' := by
  unfold strings_Split.en at h
  split at h
  · exact strings_Split.con N _ _ _ h
  · cases h
def E61 (N : Nat) : Env := (E60 N).add 34 (strings_Split.en N)
theorem E61_ok (N : Nat) : EnvOk (E61 N) ents := Env.add_ok (E60_ok N) (strings_Split.en_ok N (E60_ok N))
def strconv_ParseUint.en (N : Nat) (ρ : Type) : List AV → Heap → (AV → Heap → Option ρ) → Option ρ
  | [.str (s0), .int .i64 (base1), .int .i64 (bitSize2)], [], K => (strconv_ParseUint N (fun d0 d1 => K (.tup [.int .u64 (d0), .ifc (d1)]) []) s0 base1 bitSize2)
  | _, _, _ => none
theorem strconv_ParseUint.en_ok (N : Nat) (hE : EnvOk (E61 N) ents) (ρ : Type) (args : List AV) (sh : Heap) (K : AV → Heap → Option ρ) (r : ρ) (h : strconv_ParseUint.en N ρ args sh K = some r) : ∃ v sh', K v sh' = some r ∧ FnOk (E61 N).P 35 args sh v sh' := by
  unfold strconv_ParseUint.en at h
  split at h
  · exact strconv_ParseUint.con N _ _ _ _ h
  · cases h
def E62 (N : Nat) : Env := (E61 N).add 35 (strconv_ParseUint.en N)
theorem E62_ok (N : Nat) : EnvOk (E62 N) ents := Env.add_ok (E61_ok N) (strconv_ParseUint.en_ok N (E61_ok N))
def impl_ParseVector.kp : Keeps := ⟨[(0, [0, 1, 2, 6, 8, 23, 24, 25], [], [])], [(0, [0, 1, 2, 6, 8], [], [])], []⟩
def impl_ParseVector.bd : Code := bodyOf Go.Proofs.Tryz.f14
def impl_ParseVector.fin {ρ : Type} (N : Nat) (K : AV → Heap → Option ρ) : XE → St → Option ρ := finK (E62 N) impl_ParseVector.kp.fins Go.Proofs.Tryz.f14 [] K
def impl_ParseVector.k0 {ρ : Type} (N : Nat) (K : AV → Heap → Option ρ) : XE → St → Option ρ := (blockK impl_ParseVector.kp 0 0 (seqK (xcode (E62 N) ents impl_ParseVector.kp 0 N (cB (cB (cB (cB impl_ParseVector.bd)))) 0) (impl_ParseVector.fin N K)))
theorem impl_ParseVector.k0_mix {ρ : Type} (N : Nat) (K : AV → Heap → Option ρ) : mixK (impl_ParseVector.fin N K .ret) (impl_ParseVector.k0 N K) = (impl_ParseVector.k0 N K) := by
  funext e s; cases e <;> kernel_rfl
def impl_ParseVector.st0 (p0 : Int) (nv1 : Int) (text2 : ByteArray) (rv4 : Nat) (rv5 : Nat) (rv6 : Nat) (rv7 : Nat → ByteArray) (x8 : Int) (gv9 : Nat → Int) : St := ⟨sl 61 [(0, .int .i64 (p0)), (1, .int .i64 (nv1)), (2, .str (text2)), (6, .sptr [(0, 8)]), (8, .sptr [(1, 8)]), (23, .slice true 2 0 rv4 (.exact rv5) 1), (24, .int .i64 ((rv4 : Int))), (25, .int .i64 (x8))], [⟨true, .flat 8 (.ints .u8 (fun _ => 0))⟩, ⟨true, .flat 8 (.ints .u8 gv9)⟩, ⟨true, .flat rv6 (.strs rv7)⟩]⟩
def impl_ParseVector.sx0_0 (p0 : Int) (nv1 : Int) (text2 : ByteArray) (ov12 : Nat → Int) : St := ⟨sl 61 [(0, .int .i64 (p0)), (1, .int .i64 (nv1)), (2, .str (text2)), (6, .sptr [(0, 8)]), (8, .sptr [(1, 8)])], [⟨true, .flat 8 (.ints .u8 (fun _ => 0))⟩, ⟨true, .flat 8 (.ints .u8 ov12)⟩]⟩
theorem impl_ParseVector.b0_gen {ρ : Type} (N : Nat) (K : AV → Heap → Option ρ) (L0 : St → Option ρ) (kv : XE → St → Option ρ) (p0 : Int) (nv1 : Int) (text2 : ByteArray) (rv4 : Nat) (rv5 : Nat) (rv6 : Nat) (rv7 : Nat → ByteArray) (x8 : Int) (gv9 : Nat → Int) :
    xcode (E62 N) ents impl_ParseVector.kp 0 N (cL (cK (cB (cA (cB (cB (cB impl_ParseVector.bd))))))) 0 (impl_ParseVector.st0 p0 nv1 text2 rv4 rv5 rv6 rv7 x8 gv9) (roundK impl_ParseVector.kp 0 0 L0 (mixK (impl_ParseVector.fin N K .ret) kv)) = (impl_ParseVector.b0 N (fun d0 d1 => K (.tup [.agg [⟨.u8, 8, d0⟩], .int .i64 (d1)]) []) (fun x8 gv9 => L0 (impl_ParseVector.st0 p0 nv1 text2 rv4 rv5 rv6 rv7 x8 gv9)) (fun ov12 => kv (.exit 0) (impl_ParseVector.sx0_0 p0 nv1 text2 ov12)) rv4 rv7 x8 gv9) := by kernel_rfl
theorem impl_ParseVector.b0_eq {ρ : Type} (N : Nat) (K : AV → Heap → Option ρ) (L0 : St → Option ρ) (p0 : Int) (nv1 : Int) (text2 : ByteArray) (rv4 : Nat) (rv5 : Nat) (rv6 : Nat) (rv7 : Nat → ByteArray) (x8 : Int) (gv9 : Nat → Int) :
    xcode (E62 N) ents impl_ParseVector.kp 0 N (cL (cK (cB (cA (cB (cB (cB impl_ParseVector.bd))))))) 0 (impl_ParseVector.st0 p0 nv1 text2 rv4 rv5 rv6 rv7 x8 gv9) (roundK impl_ParseVector.kp 0 0 L0 (impl_ParseVector.k0 N K)) = (impl_ParseVector.b0 N (fun d0 d1 => K (.tup [.agg [⟨.u8, 8, d0⟩], .int .i64 (d1)]) []) (fun x8 gv9 => L0 (impl_ParseVector.st0 p0 nv1 text2 rv4 rv5 rv6 rv7 x8 gv9)) (fun ov12 => (impl_ParseVector.k0 N K) (.exit 0) (impl_ParseVector.sx0_0 p0 nv1 text2 ov12)) rv4 rv7 x8 gv9) := by
  have h := impl_ParseVector.b0_gen N K L0 (impl_ParseVector.k0 N K) p0 nv1 text2 rv4 rv5 rv6 rv7 x8 gv9
  rw [impl_ParseVector.k0_mix] at h
  exact h
theorem impl_ParseVector.a0_0_eq {ρ : Type} (N : Nat) (K : AV → Heap → Option ρ) (p0 : Int) (nv1 : Int) (text2 : ByteArray) (ov12 : Nat → Int) :
    (impl_ParseVector.k0 N K) (.exit 0) (impl_ParseVector.sx0_0 p0 nv1 text2 ov12) = (impl_ParseVector.a0_0 N (fun d0 d1 => K (.tup [.agg [⟨.u8, 8, d0⟩], .int .i64 (d1)]) []) p0 nv1 text2 ov12) := by kernel_rfl
theorem impl_ParseVector.l0_eq {ρ : Type} (N : Nat) (K : AV → Heap → Option ρ) (p0 : Int) (nv1 : Int) (text2 : ByteArray) (rv4 : Nat) (rv5 : Nat) (rv6 : Nat) (rv7 : Nat → ByteArray) :
    ∀ (m : Nat) (x8 : Int) (gv9 : Nat → Int), xloop (xcode (E62 N) ents impl_ParseVector.kp 0 N (cL (cK (cB (cA (cB (cB (cB impl_ParseVector.bd))))))) 0) impl_ParseVector.kp 0 0 m (impl_ParseVector.st0 p0 nv1 text2 rv4 rv5 rv6 rv7 x8 gv9) (impl_ParseVector.k0 N K) = (impl_ParseVector.l0 N (fun d0 d1 => K (.tup [.agg [⟨.u8, 8, d0⟩], .int .i64 (d1)]) []) rv4 rv7 (fun ov12 => (impl_ParseVector.k0 N K) (.exit 0) (impl_ParseVector.sx0_0 p0 nv1 text2 ov12)) m x8 gv9) := by
  intro m
  induction m with
  | zero => intros; rfl
  | succ m ih =>
    intro x8 gv9
    refine (impl_ParseVector.b0_eq N K (fun s => xloop (xcode (E62 N) ents impl_ParseVector.kp 0 N (cL (cK (cB (cA (cB (cB (cB impl_ParseVector.bd))))))) 0) impl_ParseVector.kp 0 0 m s (impl_ParseVector.k0 N K)) p0 nv1 text2 rv4 rv5 rv6 rv7 x8 gv9).trans ?_
    simp only [ih]
    kernel_rfl
theorem impl_ParseVector.s_eq {ρ : Type} (N : Nat) (K : AV → Heap → Option ρ) (p0 : Int) (nv1 : Int) (text2 : ByteArray) :
    xbody (E62 N) ents impl_ParseVector.kp N Go.Proofs.Tryz.f14 impl_ParseVector.bd [.int .i64 (p0), .int .i64 (nv1), .str (text2)] [] K = (impl_ParseVector.s N (fun d0 d1 => K (.tup [.agg [⟨.u8, 8, d0⟩], .int .i64 (d1)]) []) (fun rv4 rv5 rv6 rv7 x8 gv9 => xloop (xcode (E62 N) ents impl_ParseVector.kp 0 N (cL (cK (cB (cA (cB (cB (cB impl_ParseVector.bd))))))) 0) impl_ParseVector.kp 0 0 N (impl_ParseVector.st0 p0 nv1 text2 rv4 rv5 rv6 rv7 x8 gv9) (impl_ParseVector.k0 N K)) p0 nv1 text2) := by kernel_rfl
theorem impl_ParseVector.eqb {ρ : Type} (N : Nat) (K : AV → Heap → Option ρ) (p0 : Int) (nv1 : Int) (text2 : ByteArray) :
    xbody (E62 N) ents impl_ParseVector.kp N Go.Proofs.Tryz.f14 impl_ParseVector.bd [.int .i64 (p0), .int .i64 (nv1), .str (text2)] [] K = (impl_ParseVector.bdy N (fun d0 d1 => K (.tup [.agg [⟨.u8, 8, d0⟩], .int .i64 (d1)]) []) p0 nv1 text2) := by
  refine (impl_ParseVector.s_eq N K p0 nv1 text2).trans ?_
  simp only [impl_ParseVector.l0_eq, impl_ParseVector.a0_0_eq]
  kernel_rfl
theorem impl_ParseVector.eq {ρ : Type} (N : Nat) (K : AV → Heap → Option ρ) (p0 : Int) (nv1 : Int) (text2 : ByteArray) :
    xbody (E62 N) ents impl_ParseVector.kp N Go.Proofs.Tryz.f14 impl_ParseVector.bd [.int .i64 (p0), .int .i64 (nv1), .str (text2)] [] K = (impl_ParseVector N (fun d0 d1 => K (.tup [.agg [⟨.u8, 8, d0⟩], .int .i64 (d1)]) []) p0 nv1 text2) :=
  (impl_ParseVector.eqb N K p0 nv1 text2).trans (impl_ParseVector.opq _ _ _ _ _).symm
def impl_ParseVector.en (N : Nat) (ρ : Type) : List AV → Heap → (AV → Heap → Option ρ) → Option ρ
  | [.int .i64 (p0), .int .i64 (nv1), .str (text2)], [], K => (impl_ParseVector N (fun d0 d1 => K (.tup [.agg [⟨.u8, 8, d0⟩], .int .i64 (d1)]) []) p0 nv1 text2)
  | _, _, _ => none
theorem impl_ParseVector.en_ok (N : Nat) (hE : EnvOk (E62 N) ents) (ρ : Type) (args : List AV) (sh : Heap) (K : AV → Heap → Option ρ) (r : ρ) (h : impl_ParseVector.en N ρ args sh K = some r) : ∃ v sh', K v sh' = some r ∧ FnOk (E62 N).P 14 args sh v sh' := by
  unfold impl_ParseVector.en at h
  split at h
  · exact fn_ok hE (kp := impl_ParseVector.kp) (N := N) Go.Proofs.Tryz.func14 (c := impl_ParseVector.bd) (by kernel_rfl) ((impl_ParseVector.eq N _ _ _ _).trans h)
  · cases h
def E63 (N : Nat) : Env := (E62 N).add 14 (impl_ParseVector.en N)
theorem E63_ok (N : Nat) : EnvOk (E63 N) ents := Env.add_ok (E62_ok N) (impl_ParseVector.en_ok N (E62_ok N))
def laws_FnSpaces_su.kp : Keeps := ⟨[], [], []⟩
def laws_FnSpaces_su.bd : Code := bodyOf Go.Proofs.Tryz.f3
def laws_FnSpaces_su.fin {ρ : Type} (N : Nat) (K : AV → Heap → Option ρ) (gv1 : Nat) (gv2 : Nat → Int) : XE → St → Option ρ := finK (E63 N) laws_FnSpaces_su.kp.fins Go.Proofs.Tryz.f3 [⟨false, .flat gv1 (.ints .u8 gv2)⟩] K
theorem laws_FnSpaces_su.eq {ρ : Type} (N : Nat) (K : AV → Heap → Option ρ) (code0 : Nat) (gv1 : Nat) (gv2 : Nat → Int) :
    xbody (E63 N) ents laws_FnSpaces_su.kp N Go.Proofs.Tryz.f3 laws_FnSpaces_su.bd [.slice false 0 0 code0 .unk 1] [⟨false, .flat gv1 (.ints .u8 gv2)⟩] K = (laws_FnSpaces_su N (fun d0 => K (.bool (d0)) [⟨false, .flat gv1 (.ints .u8 gv2)⟩]) code0 gv1 gv2) := by kernel_rfl
def laws_FnSpaces_su.en (N : Nat) (ρ : Type) : List AV → Heap → (AV → Heap → Option ρ) → Option ρ
  | [.slice false 0 0 code0 .unk 1], [⟨false, .flat gv1 (.ints .u8 gv2)⟩], K => (laws_FnSpaces_su N (fun d0 => K (.bool (d0)) [⟨false, .flat gv1 (.ints .u8 gv2)⟩]) code0 gv1 gv2)
  | _, _, _ => none
theorem laws_FnSpaces_su.en_ok (N : Nat) (hE : EnvOk (E63 N) ents) (ρ : Type) (args : List AV) (sh : Heap) (K : AV → Heap → Option ρ) (r : ρ) (h : laws_FnSpaces_su.en N ρ args sh K = some r) : ∃ v sh', K v sh' = some r ∧ FnOk (E63 N).P 3 args sh v sh' := by
  unfold laws_FnSpaces_su.en at h
  split at h
  · exact fn_ok hE (kp := laws_FnSpaces_su.kp) (N := N) Go.Proofs.Tryz.func3 (c := laws_FnSpaces_su.bd) (by kernel_rfl) ((laws_FnSpaces_su.eq N _ _ _ _).trans h)
  · cases h
def E64 (N : Nat) : Env := (E63 N).add 3 (laws_FnSpaces_su.en N)
theorem E64_ok (N : Nat) : EnvOk (E64 N) ents := Env.add_ok (E63_ok N) (laws_FnSpaces_su.en_ok N (E63_ok N))
end
end Go.Proofs.YtoeailachidcdaaGreatDoor.H
