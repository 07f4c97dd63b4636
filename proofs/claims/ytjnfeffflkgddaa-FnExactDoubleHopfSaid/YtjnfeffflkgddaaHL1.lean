/- The program computes these functions. -/
import Derived.Test.YtjnfeffflkgddaaHL0
namespace Go.Proofs.Ytjnfeffflkgddaa.H
set_option linter.unusedVariables false
set_option linter.unusedSimpArgs false
open Go Go.RowKit Go.Proofs.Ytjnfeffflkgddaa.Hx
set_option linter.unusedVariables false
set_option maxRecDepth 100000
noncomputable def impl_Hopf_tensor_c1_c1.kp : Keeps := ⟨[(0, [1, 2, 3, 5, 6, 7, 8, 21, 22], 8)], [(0, [], 8)]⟩

noncomputable def impl_Hopf_tensor_c1_c1.bd : Code := bodyOf Go.Proofs.Try.f32

noncomputable def impl_Hopf_tensor_c1_c1.fin {ρ : Type} (N : Nat) (K : AV → Heap → Option ρ) (g3 : Nat → Int) (g4 : Nat → Int) (g5 : Nat → Int) (g6 : Nat → Int) (g7 : Nat → Int) (g8 : Nat → Int) (g9 : Nat → Int) : XE → St → Option ρ := finK (E20 N) Go.Proofs.Try.f32 [⟨false, .avs [.sptr [(6, 2), (7, 1104)]]⟩, ⟨false, .ints .i64 1 g3⟩, ⟨false, .ints .i64 2 g4⟩, ⟨true, .ints .u8 64 g5⟩, ⟨false, .ints .i64 1 g6⟩, ⟨false, .ints .i64 1 g7⟩, ⟨false, .ints .i64 2 g8⟩, ⟨false, .ints .u8 1104 g9⟩] K

noncomputable def impl_Hopf_tensor_c1_c1.k0 {ρ : Type} (N : Nat) (K : AV → Heap → Option ρ) (g3 : Nat → Int) (g4 : Nat → Int) (g5 : Nat → Int) (g6 : Nat → Int) (g7 : Nat → Int) (g8 : Nat → Int) (g9 : Nat → Int) : XE → St → Option ρ := (blockK impl_Hopf_tensor_c1_c1.kp 8 0 (impl_Hopf_tensor_c1_c1.fin N K g3 g4 g5 g6 g7 g8 g9))

theorem impl_Hopf_tensor_c1_c1.k0_mix {ρ : Type} (N : Nat) (K : AV → Heap → Option ρ) (g3 : Nat → Int) (g4 : Nat → Int) (g5 : Nat → Int) (g6 : Nat → Int) (g7 : Nat → Int) (g8 : Nat → Int) (g9 : Nat → Int) : mixK (impl_Hopf_tensor_c1_c1.fin N K g3 g4 g5 g6 g7 g8 g9 .ret) (impl_Hopf_tensor_c1_c1.k0 N K g3 g4 g5 g6 g7 g8 g9) = (impl_Hopf_tensor_c1_c1.k0 N K g3 g4 g5 g6 g7 g8 g9) := by
  funext e s; cases e <;> rfl

noncomputable def impl_Hopf_tensor_c1_c1.st0 (l0 : Int) (m1 : Int) (y2 : Int) (g3 : Nat → Int) (g4 : Nat → Int) (g6 : Nat → Int) (g7 : Nat → Int) (g8 : Nat → Int) (g9 : Nat → Int) (x10 : Int) (g11 : Nat → Int) : St := ⟨sl 48 [(1, .int .i64 (m1)), (2, .int .i64 (y2)), (3, .sptr [(0, 1)]), (5, .sptr [(2, 2)]), (6, .sptr [(3, 64)]), (7, .sptr [(4, 1)]), (8, .sptr [(5, 1)]), (21, .agg [⟨.u8, 8, (fun z => (g9 (((8 + (((g3 0)).toNat * 64)) + (l0.toNat * 8)) + z)))⟩]), (22, .int .i64 (x10))], [⟨false, .avs [.sptr [(6, 2), (7, 1104)]]⟩, ⟨false, .ints .i64 1 g3⟩, ⟨false, .ints .i64 2 g4⟩, ⟨true, .ints .u8 64 g11⟩, ⟨false, .ints .i64 1 g6⟩, ⟨false, .ints .i64 1 g7⟩, ⟨false, .ints .i64 2 g8⟩, ⟨false, .ints .u8 1104 g9⟩]⟩

noncomputable def impl_Hopf_tensor_c1_c1.sx0_0 (g3 : Nat → Int) (g4 : Nat → Int) (g6 : Nat → Int) (g7 : Nat → Int) (g8 : Nat → Int) (g9 : Nat → Int) (o13 : Nat → Int) : St := ⟨sl 48 [], [⟨false, .avs [.sptr [(6, 2), (7, 1104)]]⟩, ⟨false, .ints .i64 1 g3⟩, ⟨false, .ints .i64 2 g4⟩, ⟨true, .ints .u8 64 o13⟩, ⟨false, .ints .i64 1 g6⟩, ⟨false, .ints .i64 1 g7⟩, ⟨false, .ints .i64 2 g8⟩, ⟨false, .ints .u8 1104 g9⟩]⟩

theorem impl_Hopf_tensor_c1_c1.b0_gen {ρ : Type} (N : Nat) (K : AV → Heap → Option ρ) (L0 : St → Option ρ) (kv : XE → St → Option ρ) (l0 : Int) (m1 : Int) (y2 : Int) (g3 : Nat → Int) (g4 : Nat → Int) (g5 : Nat → Int) (g6 : Nat → Int) (g7 : Nat → Int) (g8 : Nat → Int) (g9 : Nat → Int) (x10 : Int) (g11 : Nat → Int) :
    xcode (E20 N) ents impl_Hopf_tensor_c1_c1.kp 8 N (cL (cK (cB impl_Hopf_tensor_c1_c1.bd))) 0 (impl_Hopf_tensor_c1_c1.st0 l0 m1 y2 g3 g4 g6 g7 g8 g9 x10 g11) (roundK impl_Hopf_tensor_c1_c1.kp 8 0 L0 (mixK (impl_Hopf_tensor_c1_c1.fin N K g3 g4 g5 g6 g7 g8 g9 .ret) kv)) = (impl_Hopf_tensor_c1_c1.b0 N (fun d0 => K (.tup []) [⟨false, .avs [.sptr [(6, 2), (7, 1104)]]⟩, ⟨false, .ints .i64 1 g3⟩, ⟨false, .ints .i64 2 g4⟩, ⟨true, .ints .u8 64 d0⟩, ⟨false, .ints .i64 1 g6⟩, ⟨false, .ints .i64 1 g7⟩, ⟨false, .ints .i64 2 g8⟩, ⟨false, .ints .u8 1104 g9⟩]) (fun x10 g11 => L0 (impl_Hopf_tensor_c1_c1.st0 l0 m1 y2 g3 g4 g6 g7 g8 g9 x10 g11)) (fun o13 => kv (.exit 0) (impl_Hopf_tensor_c1_c1.sx0_0 g3 g4 g6 g7 g8 g9 o13)) l0 m1 y2 g3 g4 g6 g7 g9 x10 g11) := by kernel_rfl

theorem impl_Hopf_tensor_c1_c1.b0_eq {ρ : Type} (N : Nat) (K : AV → Heap → Option ρ) (L0 : St → Option ρ) (l0 : Int) (m1 : Int) (y2 : Int) (g3 : Nat → Int) (g4 : Nat → Int) (g5 : Nat → Int) (g6 : Nat → Int) (g7 : Nat → Int) (g8 : Nat → Int) (g9 : Nat → Int) (x10 : Int) (g11 : Nat → Int) :
    xcode (E20 N) ents impl_Hopf_tensor_c1_c1.kp 8 N (cL (cK (cB impl_Hopf_tensor_c1_c1.bd))) 0 (impl_Hopf_tensor_c1_c1.st0 l0 m1 y2 g3 g4 g6 g7 g8 g9 x10 g11) (roundK impl_Hopf_tensor_c1_c1.kp 8 0 L0 (impl_Hopf_tensor_c1_c1.k0 N K g3 g4 g5 g6 g7 g8 g9)) = (impl_Hopf_tensor_c1_c1.b0 N (fun d0 => K (.tup []) [⟨false, .avs [.sptr [(6, 2), (7, 1104)]]⟩, ⟨false, .ints .i64 1 g3⟩, ⟨false, .ints .i64 2 g4⟩, ⟨true, .ints .u8 64 d0⟩, ⟨false, .ints .i64 1 g6⟩, ⟨false, .ints .i64 1 g7⟩, ⟨false, .ints .i64 2 g8⟩, ⟨false, .ints .u8 1104 g9⟩]) (fun x10 g11 => L0 (impl_Hopf_tensor_c1_c1.st0 l0 m1 y2 g3 g4 g6 g7 g8 g9 x10 g11)) (fun o13 => (impl_Hopf_tensor_c1_c1.k0 N K g3 g4 g5 g6 g7 g8 g9) (.exit 0) (impl_Hopf_tensor_c1_c1.sx0_0 g3 g4 g6 g7 g8 g9 o13)) l0 m1 y2 g3 g4 g6 g7 g9 x10 g11) := by
  have h := impl_Hopf_tensor_c1_c1.b0_gen N K L0 (impl_Hopf_tensor_c1_c1.k0 N K g3 g4 g5 g6 g7 g8 g9) l0 m1 y2 g3 g4 g5 g6 g7 g8 g9 x10 g11
  rw [impl_Hopf_tensor_c1_c1.k0_mix] at h
  exact h

theorem impl_Hopf_tensor_c1_c1.a0_0_eq {ρ : Type} (N : Nat) (K : AV → Heap → Option ρ) (g3 : Nat → Int) (g4 : Nat → Int) (g5 : Nat → Int) (g6 : Nat → Int) (g7 : Nat → Int) (g8 : Nat → Int) (g9 : Nat → Int) (o13 : Nat → Int) :
    (impl_Hopf_tensor_c1_c1.k0 N K g3 g4 g5 g6 g7 g8 g9) (.exit 0) (impl_Hopf_tensor_c1_c1.sx0_0 g3 g4 g6 g7 g8 g9 o13) = (impl_Hopf_tensor_c1_c1.a0_0 N (fun d0 => K (.tup []) [⟨false, .avs [.sptr [(6, 2), (7, 1104)]]⟩, ⟨false, .ints .i64 1 g3⟩, ⟨false, .ints .i64 2 g4⟩, ⟨true, .ints .u8 64 d0⟩, ⟨false, .ints .i64 1 g6⟩, ⟨false, .ints .i64 1 g7⟩, ⟨false, .ints .i64 2 g8⟩, ⟨false, .ints .u8 1104 g9⟩]) o13) := by kernel_rfl

theorem impl_Hopf_tensor_c1_c1.l0_eq {ρ : Type} (N : Nat) (K : AV → Heap → Option ρ) (l0 : Int) (m1 : Int) (y2 : Int) (g3 : Nat → Int) (g4 : Nat → Int) (g5 : Nat → Int) (g6 : Nat → Int) (g7 : Nat → Int) (g8 : Nat → Int) (g9 : Nat → Int) :
    ∀ (m : Nat) (x10 : Int) (g11 : Nat → Int), xloop (xcode (E20 N) ents impl_Hopf_tensor_c1_c1.kp 8 N (cL (cK (cB impl_Hopf_tensor_c1_c1.bd))) 0) impl_Hopf_tensor_c1_c1.kp 8 0 m (impl_Hopf_tensor_c1_c1.st0 l0 m1 y2 g3 g4 g6 g7 g8 g9 x10 g11) (impl_Hopf_tensor_c1_c1.k0 N K g3 g4 g5 g6 g7 g8 g9) = (impl_Hopf_tensor_c1_c1.l0 N (fun d0 => K (.tup []) [⟨false, .avs [.sptr [(6, 2), (7, 1104)]]⟩, ⟨false, .ints .i64 1 g3⟩, ⟨false, .ints .i64 2 g4⟩, ⟨true, .ints .u8 64 d0⟩, ⟨false, .ints .i64 1 g6⟩, ⟨false, .ints .i64 1 g7⟩, ⟨false, .ints .i64 2 g8⟩, ⟨false, .ints .u8 1104 g9⟩]) l0 m1 y2 g3 g4 g6 g7 g9 (fun o13 => (impl_Hopf_tensor_c1_c1.k0 N K g3 g4 g5 g6 g7 g8 g9) (.exit 0) (impl_Hopf_tensor_c1_c1.sx0_0 g3 g4 g6 g7 g8 g9 o13)) m x10 g11) := by
  intro m
  induction m with
  | zero => intros; rfl
  | succ m ih =>
    intro x10 g11
    refine (impl_Hopf_tensor_c1_c1.b0_eq N K (fun s => xloop (xcode (E20 N) ents impl_Hopf_tensor_c1_c1.kp 8 N (cL (cK (cB impl_Hopf_tensor_c1_c1.bd))) 0) impl_Hopf_tensor_c1_c1.kp 8 0 m s (impl_Hopf_tensor_c1_c1.k0 N K g3 g4 g5 g6 g7 g8 g9)) l0 m1 y2 g3 g4 g5 g6 g7 g8 g9 x10 g11).trans ?_
    simp only [ih]
    kernel_rfl

theorem impl_Hopf_tensor_c1_c1.s_eq {ρ : Type} (N : Nat) (K : AV → Heap → Option ρ) (l0 : Int) (m1 : Int) (y2 : Int) (g3 : Nat → Int) (g4 : Nat → Int) (g5 : Nat → Int) (g6 : Nat → Int) (g7 : Nat → Int) (g8 : Nat → Int) (g9 : Nat → Int) :
    xbody (E20 N) ents impl_Hopf_tensor_c1_c1.kp N Go.Proofs.Try.f32 impl_Hopf_tensor_c1_c1.bd [.int .i64 (l0), .int .i64 (m1), .int .i64 (y2), .sptr [(0, 1)], .sptr [(1, 1)], .sptr [(2, 2)], .sptr [(3, 64)], .sptr [(4, 1)], .sptr [(5, 1)]] [⟨false, .avs [.sptr [(6, 2), (7, 1104)]]⟩, ⟨false, .ints .i64 1 g3⟩, ⟨false, .ints .i64 2 g4⟩, ⟨true, .ints .u8 64 g5⟩, ⟨false, .ints .i64 1 g6⟩, ⟨false, .ints .i64 1 g7⟩, ⟨false, .ints .i64 2 g8⟩, ⟨false, .ints .u8 1104 g9⟩] K = (impl_Hopf_tensor_c1_c1.s N (fun d0 => K (.tup []) [⟨false, .avs [.sptr [(6, 2), (7, 1104)]]⟩, ⟨false, .ints .i64 1 g3⟩, ⟨false, .ints .i64 2 g4⟩, ⟨true, .ints .u8 64 d0⟩, ⟨false, .ints .i64 1 g6⟩, ⟨false, .ints .i64 1 g7⟩, ⟨false, .ints .i64 2 g8⟩, ⟨false, .ints .u8 1104 g9⟩]) (fun x10 g11 => xloop (xcode (E20 N) ents impl_Hopf_tensor_c1_c1.kp 8 N (cL (cK (cB impl_Hopf_tensor_c1_c1.bd))) 0) impl_Hopf_tensor_c1_c1.kp 8 0 N (impl_Hopf_tensor_c1_c1.st0 l0 m1 y2 g3 g4 g6 g7 g8 g9 x10 g11) (impl_Hopf_tensor_c1_c1.k0 N K g3 g4 g5 g6 g7 g8 g9)) l0 g3 g5) := by kernel_rfl

theorem impl_Hopf_tensor_c1_c1.eq {ρ : Type} (N : Nat) (K : AV → Heap → Option ρ) (l0 : Int) (m1 : Int) (y2 : Int) (g3 : Nat → Int) (g4 : Nat → Int) (g5 : Nat → Int) (g6 : Nat → Int) (g7 : Nat → Int) (g8 : Nat → Int) (g9 : Nat → Int) :
    xbody (E20 N) ents impl_Hopf_tensor_c1_c1.kp N Go.Proofs.Try.f32 impl_Hopf_tensor_c1_c1.bd [.int .i64 (l0), .int .i64 (m1), .int .i64 (y2), .sptr [(0, 1)], .sptr [(1, 1)], .sptr [(2, 2)], .sptr [(3, 64)], .sptr [(4, 1)], .sptr [(5, 1)]] [⟨false, .avs [.sptr [(6, 2), (7, 1104)]]⟩, ⟨false, .ints .i64 1 g3⟩, ⟨false, .ints .i64 2 g4⟩, ⟨true, .ints .u8 64 g5⟩, ⟨false, .ints .i64 1 g6⟩, ⟨false, .ints .i64 1 g7⟩, ⟨false, .ints .i64 2 g8⟩, ⟨false, .ints .u8 1104 g9⟩] K = (impl_Hopf_tensor_c1_c1 N (fun d0 => K (.tup []) [⟨false, .avs [.sptr [(6, 2), (7, 1104)]]⟩, ⟨false, .ints .i64 1 g3⟩, ⟨false, .ints .i64 2 g4⟩, ⟨true, .ints .u8 64 d0⟩, ⟨false, .ints .i64 1 g6⟩, ⟨false, .ints .i64 1 g7⟩, ⟨false, .ints .i64 2 g8⟩, ⟨false, .ints .u8 1104 g9⟩]) l0 m1 y2 g3 g4 g5 g6 g7 g8 g9) := by
  refine (impl_Hopf_tensor_c1_c1.s_eq N K l0 m1 y2 g3 g4 g5 g6 g7 g8 g9).trans ?_
  simp only [impl_Hopf_tensor_c1_c1.l0_eq, impl_Hopf_tensor_c1_c1.a0_0_eq]
  kernel_rfl

noncomputable def impl_Hopf_tensor_c1_c1.en (N : Nat) (ρ : Type) : List AV → Heap → (AV → Heap → Option ρ) → Option ρ
  | [.int .i64 (l0), .int .i64 (m1), .int .i64 (y2), .sptr [(0, 1)], .sptr [(1, 1)], .sptr [(2, 2)], .sptr [(3, 64)], .sptr [(4, 1)], .sptr [(5, 1)]], [⟨false, .avs [.sptr [(6, 2), (7, 1104)]]⟩, ⟨false, .ints .i64 1 g3⟩, ⟨false, .ints .i64 2 g4⟩, ⟨true, .ints .u8 64 g5⟩, ⟨false, .ints .i64 1 g6⟩, ⟨false, .ints .i64 1 g7⟩, ⟨false, .ints .i64 2 g8⟩, ⟨false, .ints .u8 1104 g9⟩], K => (impl_Hopf_tensor_c1_c1 N (fun d0 => K (.tup []) [⟨false, .avs [.sptr [(6, 2), (7, 1104)]]⟩, ⟨false, .ints .i64 1 g3⟩, ⟨false, .ints .i64 2 g4⟩, ⟨true, .ints .u8 64 d0⟩, ⟨false, .ints .i64 1 g6⟩, ⟨false, .ints .i64 1 g7⟩, ⟨false, .ints .i64 2 g8⟩, ⟨false, .ints .u8 1104 g9⟩]) l0 m1 y2 g3 g4 g5 g6 g7 g8 g9)
  | _, _, _ => none

theorem impl_Hopf_tensor_c1_c1.en_ok (N : Nat) (hE : EnvOk (E20 N) ents) (ρ : Type) (args : List AV) (sh : Heap) (K : AV → Heap → Option ρ) (r : ρ) (h : impl_Hopf_tensor_c1_c1.en N ρ args sh K = some r) : ∃ v sh', K v sh' = some r ∧ FnOk (E20 N).P 32 args sh v sh' := by
  unfold impl_Hopf_tensor_c1_c1.en at h
  split at h
  · exact fn_ok hE (kp := impl_Hopf_tensor_c1_c1.kp) (N := N) Go.Proofs.Try.func32 (c := impl_Hopf_tensor_c1_c1.bd) (by kernel_rfl) ((impl_Hopf_tensor_c1_c1.eq N _ _ _ _ _ _ _ _ _ _ _).trans h)
  · cases h

noncomputable def E21 (N : Nat) : Env := (E20 N).add 32 (impl_Hopf_tensor_c1_c1.en N)

theorem E21_ok (N : Nat) : EnvOk (E21 N) ents := Env.add_ok (E20_ok N) (impl_Hopf_tensor_c1_c1.en_ok N (E20_ok N))

noncomputable def impl_pairs_f_v2.kp : Keeps := ⟨[(0, [0, 1, 7], 9), (2, [0, 1, 4, 7, 14, 15], 9)], [(0, [], 9), (2, [0, 1, 7], 9)]⟩

noncomputable def impl_pairs_f_v2.bd : Code := bodyOf Go.Proofs.Try.f30

noncomputable def impl_pairs_f_v2.fin {ρ : Type} (N : Nat) (K : AV → Heap → Option ρ) (g0 : Nat → Int) (g1 : Nat → Int) (g2 : Nat → Int) (g3 : Nat → Int) (g4 : Nat → Int) (g5 : Nat → Int) (g6 : Nat → Int) (g7 : Nat → Int) : XE → St → Option ρ := finK (E21 N) Go.Proofs.Try.f30 [⟨false, .ints .u8 64 g0⟩, ⟨true, .avs [.sptr [(7, 2), (8, 1104)]]⟩, ⟨true, .ints .i64 1 g1⟩, ⟨true, .ints .i64 2 g2⟩, ⟨true, .ints .u8 64 g3⟩, ⟨true, .ints .i64 1 g4⟩, ⟨true, .ints .i64 1 g5⟩, ⟨false, .ints .i64 2 g6⟩, ⟨false, .ints .u8 1104 g7⟩] K

noncomputable def impl_pairs_f_v2.k0 {ρ : Type} (N : Nat) (K : AV → Heap → Option ρ) (g0 : Nat → Int) (g1 : Nat → Int) (g2 : Nat → Int) (g3 : Nat → Int) (g4 : Nat → Int) (g5 : Nat → Int) (g6 : Nat → Int) (g7 : Nat → Int) : XE → St → Option ρ := (blockK impl_pairs_f_v2.kp 9 0 (impl_pairs_f_v2.fin N K g0 g1 g2 g3 g4 g5 g6 g7))

theorem impl_pairs_f_v2.k0_mix {ρ : Type} (N : Nat) (K : AV → Heap → Option ρ) (g0 : Nat → Int) (g1 : Nat → Int) (g2 : Nat → Int) (g3 : Nat → Int) (g4 : Nat → Int) (g5 : Nat → Int) (g6 : Nat → Int) (g7 : Nat → Int) : mixK (impl_pairs_f_v2.fin N K g0 g1 g2 g3 g4 g5 g6 g7 .ret) (impl_pairs_f_v2.k0 N K g0 g1 g2 g3 g4 g5 g6 g7) = (impl_pairs_f_v2.k0 N K g0 g1 g2 g3 g4 g5 g6 g7) := by
  funext e s; cases e <;> rfl

noncomputable def impl_pairs_f_v2.st0 (g0 : Nat → Int) (g1 : Nat → Int) (g2 : Nat → Int) (g4 : Nat → Int) (g5 : Nat → Int) (g6 : Nat → Int) (g7 : Nat → Int) (x8 : Int) (g9 : Nat → Int) : St := ⟨sl 29 [(0, .sptr [(0, 64)]), (1, .fn 32 0 [[(1, 1)], [(2, 1)], [(3, 2)], [(4, 64)], [(5, 1)], [(6, 1)]]), (7, .int .i64 (x8))], [⟨false, .ints .u8 64 g0⟩, ⟨true, .avs [.sptr [(7, 2), (8, 1104)]]⟩, ⟨true, .ints .i64 1 g1⟩, ⟨true, .ints .i64 2 g2⟩, ⟨true, .ints .u8 64 g9⟩, ⟨true, .ints .i64 1 g4⟩, ⟨true, .ints .i64 1 g5⟩, ⟨false, .ints .i64 2 g6⟩, ⟨false, .ints .u8 1104 g7⟩]⟩

noncomputable def impl_pairs_f_v2.sx0_0 (g0 : Nat → Int) (g1 : Nat → Int) (g2 : Nat → Int) (g4 : Nat → Int) (g5 : Nat → Int) (g6 : Nat → Int) (g7 : Nat → Int) (o14 : Nat → Int) : St := ⟨sl 29 [], [⟨false, .ints .u8 64 g0⟩, ⟨true, .avs [.sptr [(7, 2), (8, 1104)]]⟩, ⟨true, .ints .i64 1 g1⟩, ⟨true, .ints .i64 2 g2⟩, ⟨true, .ints .u8 64 o14⟩, ⟨true, .ints .i64 1 g4⟩, ⟨true, .ints .i64 1 g5⟩, ⟨false, .ints .i64 2 g6⟩, ⟨false, .ints .u8 1104 g7⟩]⟩

noncomputable def impl_pairs_f_v2.k1g {ρ : Type} (N : Nat) (L0 : St → Option ρ) (kv : XE → St → Option ρ) : XE → St → Option ρ := (blockK impl_pairs_f_v2.kp 9 2 (blockK impl_pairs_f_v2.kp 9 1 (seqK (xcode (E21 N) ents impl_pairs_f_v2.kp 9 N (cB (cB (cB (cL (cK (cB impl_pairs_f_v2.bd)))))) 0) (roundK impl_pairs_f_v2.kp 9 0 L0 kv))))

theorem impl_pairs_f_v2.k1_mix {ρ : Type} (N : Nat) (K : AV → Heap → Option ρ) (L0 : St → Option ρ) (g0 : Nat → Int) (g1 : Nat → Int) (g2 : Nat → Int) (g3 : Nat → Int) (g4 : Nat → Int) (g5 : Nat → Int) (g6 : Nat → Int) (g7 : Nat → Int) : mixK (impl_pairs_f_v2.fin N K g0 g1 g2 g3 g4 g5 g6 g7 .ret) (impl_pairs_f_v2.k1g N L0 (impl_pairs_f_v2.k0 N K g0 g1 g2 g3 g4 g5 g6 g7)) = (impl_pairs_f_v2.k1g N L0 (impl_pairs_f_v2.k0 N K g0 g1 g2 g3 g4 g5 g6 g7)) := by
  funext e s; cases e <;> rfl

noncomputable def impl_pairs_f_v2.st1 (g0 : Nat → Int) (g1 : Nat → Int) (g2 : Nat → Int) (g4 : Nat → Int) (g5 : Nat → Int) (g6 : Nat → Int) (g7 : Nat → Int) (x8 : Int) (x10 : Int) (g11 : Nat → Int) : St := ⟨sl 29 [(0, .sptr [(0, 64)]), (1, .fn 32 0 [[(1, 1)], [(2, 1)], [(3, 2)], [(4, 64)], [(5, 1)], [(6, 1)]]), (4, .int .i64 (x8)), (7, .int .i64 (x8)), (14, .agg [⟨.u8, 8, (fun z => (g0 ((x8.toNat * 8) + z)))⟩]), (15, .int .i64 (x10))], [⟨false, .ints .u8 64 g0⟩, ⟨true, .avs [.sptr [(7, 2), (8, 1104)]]⟩, ⟨true, .ints .i64 1 g1⟩, ⟨true, .ints .i64 2 g2⟩, ⟨true, .ints .u8 64 g11⟩, ⟨true, .ints .i64 1 g4⟩, ⟨true, .ints .i64 1 g5⟩, ⟨false, .ints .i64 2 g6⟩, ⟨false, .ints .u8 1104 g7⟩]⟩

noncomputable def impl_pairs_f_v2.sx1_0 (g0 : Nat → Int) (g1 : Nat → Int) (g2 : Nat → Int) (g4 : Nat → Int) (g5 : Nat → Int) (g6 : Nat → Int) (g7 : Nat → Int) (x8 : Int) (o13 : Nat → Int) : St := ⟨sl 29 [(0, .sptr [(0, 64)]), (1, .fn 32 0 [[(1, 1)], [(2, 1)], [(3, 2)], [(4, 64)], [(5, 1)], [(6, 1)]]), (7, .int .i64 (x8))], [⟨false, .ints .u8 64 g0⟩, ⟨true, .avs [.sptr [(7, 2), (8, 1104)]]⟩, ⟨true, .ints .i64 1 g1⟩, ⟨true, .ints .i64 2 g2⟩, ⟨true, .ints .u8 64 o13⟩, ⟨true, .ints .i64 1 g4⟩, ⟨true, .ints .i64 1 g5⟩, ⟨false, .ints .i64 2 g6⟩, ⟨false, .ints .u8 1104 g7⟩]⟩

theorem impl_pairs_f_v2.b1_gen {ρ : Type} (N : Nat) (K : AV → Heap → Option ρ) (L1 : St → Option ρ) (kv : XE → St → Option ρ) (g0 : Nat → Int) (g1 : Nat → Int) (g2 : Nat → Int) (g3 : Nat → Int) (g4 : Nat → Int) (g5 : Nat → Int) (g6 : Nat → Int) (g7 : Nat → Int) (x8 : Int) (x10 : Int) (g11 : Nat → Int) :
    xcode (E21 N) ents impl_pairs_f_v2.kp 9 N (cL (cK (cB (cB (cK (cA (cB (cB (cL (cK (cB impl_pairs_f_v2.bd))))))))))) 2 (impl_pairs_f_v2.st1 g0 g1 g2 g4 g5 g6 g7 x8 x10 g11) (roundK impl_pairs_f_v2.kp 9 2 L1 (mixK (impl_pairs_f_v2.fin N K g0 g1 g2 g3 g4 g5 g6 g7 .ret) kv)) = (impl_pairs_f_v2.b1 N (fun d0 d1 d2 d3 d4 => K (.tup []) [⟨false, .ints .u8 64 g0⟩, ⟨true, .avs [.sptr [(7, 2), (8, 1104)]]⟩, ⟨true, .ints .i64 1 d0⟩, ⟨true, .ints .i64 2 d1⟩, ⟨true, .ints .u8 64 d2⟩, ⟨true, .ints .i64 1 d3⟩, ⟨true, .ints .i64 1 d4⟩, ⟨false, .ints .i64 2 g6⟩, ⟨false, .ints .u8 1104 g7⟩]) (fun x10 g11 => L1 (impl_pairs_f_v2.st1 g0 g1 g2 g4 g5 g6 g7 x8 x10 g11)) (fun o13 => kv (.exit 2) (impl_pairs_f_v2.sx1_0 g0 g1 g2 g4 g5 g6 g7 x8 o13)) g0 g1 g2 g4 g5 g6 g7 x8 x10 g11) := by kernel_rfl

theorem impl_pairs_f_v2.b1_eq {ρ : Type} (N : Nat) (K : AV → Heap → Option ρ) (L0 : St → Option ρ) (L1 : St → Option ρ) (g0 : Nat → Int) (g1 : Nat → Int) (g2 : Nat → Int) (g3 : Nat → Int) (g4 : Nat → Int) (g5 : Nat → Int) (g6 : Nat → Int) (g7 : Nat → Int) (x8 : Int) (x10 : Int) (g11 : Nat → Int) :
    xcode (E21 N) ents impl_pairs_f_v2.kp 9 N (cL (cK (cB (cB (cK (cA (cB (cB (cL (cK (cB impl_pairs_f_v2.bd))))))))))) 2 (impl_pairs_f_v2.st1 g0 g1 g2 g4 g5 g6 g7 x8 x10 g11) (roundK impl_pairs_f_v2.kp 9 2 L1 (impl_pairs_f_v2.k1g N L0 (impl_pairs_f_v2.k0 N K g0 g1 g2 g3 g4 g5 g6 g7))) = (impl_pairs_f_v2.b1 N (fun d0 d1 d2 d3 d4 => K (.tup []) [⟨false, .ints .u8 64 g0⟩, ⟨true, .avs [.sptr [(7, 2), (8, 1104)]]⟩, ⟨true, .ints .i64 1 d0⟩, ⟨true, .ints .i64 2 d1⟩, ⟨true, .ints .u8 64 d2⟩, ⟨true, .ints .i64 1 d3⟩, ⟨true, .ints .i64 1 d4⟩, ⟨false, .ints .i64 2 g6⟩, ⟨false, .ints .u8 1104 g7⟩]) (fun x10 g11 => L1 (impl_pairs_f_v2.st1 g0 g1 g2 g4 g5 g6 g7 x8 x10 g11)) (fun o13 => (impl_pairs_f_v2.k1g N L0 (impl_pairs_f_v2.k0 N K g0 g1 g2 g3 g4 g5 g6 g7)) (.exit 2) (impl_pairs_f_v2.sx1_0 g0 g1 g2 g4 g5 g6 g7 x8 o13)) g0 g1 g2 g4 g5 g6 g7 x8 x10 g11) := by
  have h := impl_pairs_f_v2.b1_gen N K L1 (impl_pairs_f_v2.k1g N L0 (impl_pairs_f_v2.k0 N K g0 g1 g2 g3 g4 g5 g6 g7)) g0 g1 g2 g3 g4 g5 g6 g7 x8 x10 g11
  rw [impl_pairs_f_v2.k1_mix] at h
  exact h

theorem impl_pairs_f_v2.a1_0_gen {ρ : Type} (N : Nat) (K : AV → Heap → Option ρ) (L0 : St → Option ρ) (kv : XE → St → Option ρ) (g0 : Nat → Int) (g1 : Nat → Int) (g2 : Nat → Int) (g3 : Nat → Int) (g4 : Nat → Int) (g5 : Nat → Int) (g6 : Nat → Int) (g7 : Nat → Int) (x8 : Int) (o13 : Nat → Int) :
    (impl_pairs_f_v2.k1g N L0 (mixK (impl_pairs_f_v2.fin N K g0 g1 g2 g3 g4 g5 g6 g7 .ret) kv)) (.exit 2) (impl_pairs_f_v2.sx1_0 g0 g1 g2 g4 g5 g6 g7 x8 o13) = (impl_pairs_f_v2.a1_0 N (fun d0 d1 d2 d3 d4 => K (.tup []) [⟨false, .ints .u8 64 g0⟩, ⟨true, .avs [.sptr [(7, 2), (8, 1104)]]⟩, ⟨true, .ints .i64 1 d0⟩, ⟨true, .ints .i64 2 d1⟩, ⟨true, .ints .u8 64 d2⟩, ⟨true, .ints .i64 1 d3⟩, ⟨true, .ints .i64 1 d4⟩, ⟨false, .ints .i64 2 g6⟩, ⟨false, .ints .u8 1104 g7⟩]) (fun x8 g9 => L0 (impl_pairs_f_v2.st0 g0 g1 g2 g4 g5 g6 g7 x8 g9)) (fun o14 => kv (.exit 0) (impl_pairs_f_v2.sx0_0 g0 g1 g2 g4 g5 g6 g7 o14)) x8 o13) := by kernel_rfl

theorem impl_pairs_f_v2.a1_0_eq {ρ : Type} (N : Nat) (K : AV → Heap → Option ρ) (L0 : St → Option ρ) (g0 : Nat → Int) (g1 : Nat → Int) (g2 : Nat → Int) (g3 : Nat → Int) (g4 : Nat → Int) (g5 : Nat → Int) (g6 : Nat → Int) (g7 : Nat → Int) (x8 : Int) (o13 : Nat → Int) :
    (impl_pairs_f_v2.k1g N L0 (impl_pairs_f_v2.k0 N K g0 g1 g2 g3 g4 g5 g6 g7)) (.exit 2) (impl_pairs_f_v2.sx1_0 g0 g1 g2 g4 g5 g6 g7 x8 o13) = (impl_pairs_f_v2.a1_0 N (fun d0 d1 d2 d3 d4 => K (.tup []) [⟨false, .ints .u8 64 g0⟩, ⟨true, .avs [.sptr [(7, 2), (8, 1104)]]⟩, ⟨true, .ints .i64 1 d0⟩, ⟨true, .ints .i64 2 d1⟩, ⟨true, .ints .u8 64 d2⟩, ⟨true, .ints .i64 1 d3⟩, ⟨true, .ints .i64 1 d4⟩, ⟨false, .ints .i64 2 g6⟩, ⟨false, .ints .u8 1104 g7⟩]) (fun x8 g9 => L0 (impl_pairs_f_v2.st0 g0 g1 g2 g4 g5 g6 g7 x8 g9)) (fun o14 => (impl_pairs_f_v2.k0 N K g0 g1 g2 g3 g4 g5 g6 g7) (.exit 0) (impl_pairs_f_v2.sx0_0 g0 g1 g2 g4 g5 g6 g7 o14)) x8 o13) := by
  have h := impl_pairs_f_v2.a1_0_gen N K L0 (impl_pairs_f_v2.k0 N K g0 g1 g2 g3 g4 g5 g6 g7) g0 g1 g2 g3 g4 g5 g6 g7 x8 o13
  rw [impl_pairs_f_v2.k0_mix] at h
  exact h

theorem impl_pairs_f_v2.b0_gen {ρ : Type} (N : Nat) (K : AV → Heap → Option ρ) (L0 : St → Option ρ) (kv : XE → St → Option ρ) (g0 : Nat → Int) (g1 : Nat → Int) (g2 : Nat → Int) (g3 : Nat → Int) (g4 : Nat → Int) (g5 : Nat → Int) (g6 : Nat → Int) (g7 : Nat → Int) (x8 : Int) (g9 : Nat → Int) :
    xcode (E21 N) ents impl_pairs_f_v2.kp 9 N (cL (cK (cB impl_pairs_f_v2.bd))) 0 (impl_pairs_f_v2.st0 g0 g1 g2 g4 g5 g6 g7 x8 g9) (roundK impl_pairs_f_v2.kp 9 0 L0 (mixK (impl_pairs_f_v2.fin N K g0 g1 g2 g3 g4 g5 g6 g7 .ret) kv)) = (impl_pairs_f_v2.b0 N (fun d0 d1 d2 d3 d4 => K (.tup []) [⟨false, .ints .u8 64 g0⟩, ⟨true, .avs [.sptr [(7, 2), (8, 1104)]]⟩, ⟨true, .ints .i64 1 d0⟩, ⟨true, .ints .i64 2 d1⟩, ⟨true, .ints .u8 64 d2⟩, ⟨true, .ints .i64 1 d3⟩, ⟨true, .ints .i64 1 d4⟩, ⟨false, .ints .i64 2 g6⟩, ⟨false, .ints .u8 1104 g7⟩]) (fun x10 g11 => xloop (xcode (E21 N) ents impl_pairs_f_v2.kp 9 N (cL (cK (cB (cB (cK (cA (cB (cB (cL (cK (cB impl_pairs_f_v2.bd))))))))))) 2) impl_pairs_f_v2.kp 9 2 N (impl_pairs_f_v2.st1 g0 g1 g2 g4 g5 g6 g7 x8 x10 g11) (impl_pairs_f_v2.k1g N L0 (mixK (impl_pairs_f_v2.fin N K g0 g1 g2 g3 g4 g5 g6 g7 .ret) kv))) (fun x8 g9 => L0 (impl_pairs_f_v2.st0 g0 g1 g2 g4 g5 g6 g7 x8 g9)) (fun o14 => kv (.exit 0) (impl_pairs_f_v2.sx0_0 g0 g1 g2 g4 g5 g6 g7 o14)) x8 g9) := by kernel_rfl

theorem impl_pairs_f_v2.b0_eq {ρ : Type} (N : Nat) (K : AV → Heap → Option ρ) (L0 : St → Option ρ) (g0 : Nat → Int) (g1 : Nat → Int) (g2 : Nat → Int) (g3 : Nat → Int) (g4 : Nat → Int) (g5 : Nat → Int) (g6 : Nat → Int) (g7 : Nat → Int) (x8 : Int) (g9 : Nat → Int) :
    xcode (E21 N) ents impl_pairs_f_v2.kp 9 N (cL (cK (cB impl_pairs_f_v2.bd))) 0 (impl_pairs_f_v2.st0 g0 g1 g2 g4 g5 g6 g7 x8 g9) (roundK impl_pairs_f_v2.kp 9 0 L0 (impl_pairs_f_v2.k0 N K g0 g1 g2 g3 g4 g5 g6 g7)) = (impl_pairs_f_v2.b0 N (fun d0 d1 d2 d3 d4 => K (.tup []) [⟨false, .ints .u8 64 g0⟩, ⟨true, .avs [.sptr [(7, 2), (8, 1104)]]⟩, ⟨true, .ints .i64 1 d0⟩, ⟨true, .ints .i64 2 d1⟩, ⟨true, .ints .u8 64 d2⟩, ⟨true, .ints .i64 1 d3⟩, ⟨true, .ints .i64 1 d4⟩, ⟨false, .ints .i64 2 g6⟩, ⟨false, .ints .u8 1104 g7⟩]) (fun x10 g11 => xloop (xcode (E21 N) ents impl_pairs_f_v2.kp 9 N (cL (cK (cB (cB (cK (cA (cB (cB (cL (cK (cB impl_pairs_f_v2.bd))))))))))) 2) impl_pairs_f_v2.kp 9 2 N (impl_pairs_f_v2.st1 g0 g1 g2 g4 g5 g6 g7 x8 x10 g11) (impl_pairs_f_v2.k1g N L0 (impl_pairs_f_v2.k0 N K g0 g1 g2 g3 g4 g5 g6 g7))) (fun x8 g9 => L0 (impl_pairs_f_v2.st0 g0 g1 g2 g4 g5 g6 g7 x8 g9)) (fun o14 => (impl_pairs_f_v2.k0 N K g0 g1 g2 g3 g4 g5 g6 g7) (.exit 0) (impl_pairs_f_v2.sx0_0 g0 g1 g2 g4 g5 g6 g7 o14)) x8 g9) := by
  have h := impl_pairs_f_v2.b0_gen N K L0 (impl_pairs_f_v2.k0 N K g0 g1 g2 g3 g4 g5 g6 g7) g0 g1 g2 g3 g4 g5 g6 g7 x8 g9
  rw [impl_pairs_f_v2.k0_mix] at h
  exact h

theorem impl_pairs_f_v2.a0_0_eq {ρ : Type} (N : Nat) (K : AV → Heap → Option ρ) (g0 : Nat → Int) (g1 : Nat → Int) (g2 : Nat → Int) (g3 : Nat → Int) (g4 : Nat → Int) (g5 : Nat → Int) (g6 : Nat → Int) (g7 : Nat → Int) (o14 : Nat → Int) :
    (impl_pairs_f_v2.k0 N K g0 g1 g2 g3 g4 g5 g6 g7) (.exit 0) (impl_pairs_f_v2.sx0_0 g0 g1 g2 g4 g5 g6 g7 o14) = (impl_pairs_f_v2.a0_0 N (fun d0 d1 d2 d3 d4 => K (.tup []) [⟨false, .ints .u8 64 g0⟩, ⟨true, .avs [.sptr [(7, 2), (8, 1104)]]⟩, ⟨true, .ints .i64 1 d0⟩, ⟨true, .ints .i64 2 d1⟩, ⟨true, .ints .u8 64 d2⟩, ⟨true, .ints .i64 1 d3⟩, ⟨true, .ints .i64 1 d4⟩, ⟨false, .ints .i64 2 g6⟩, ⟨false, .ints .u8 1104 g7⟩]) g1 g2 g4 g5 o14) := by kernel_rfl

theorem impl_pairs_f_v2.l1_eq {ρ : Type} (N : Nat) (K : AV → Heap → Option ρ) (L0 : St → Option ρ) (g0 : Nat → Int) (g1 : Nat → Int) (g2 : Nat → Int) (g3 : Nat → Int) (g4 : Nat → Int) (g5 : Nat → Int) (g6 : Nat → Int) (g7 : Nat → Int) (x8 : Int) :
    ∀ (m : Nat) (x10 : Int) (g11 : Nat → Int), xloop (xcode (E21 N) ents impl_pairs_f_v2.kp 9 N (cL (cK (cB (cB (cK (cA (cB (cB (cL (cK (cB impl_pairs_f_v2.bd))))))))))) 2) impl_pairs_f_v2.kp 9 2 m (impl_pairs_f_v2.st1 g0 g1 g2 g4 g5 g6 g7 x8 x10 g11) (impl_pairs_f_v2.k1g N L0 (impl_pairs_f_v2.k0 N K g0 g1 g2 g3 g4 g5 g6 g7)) = (impl_pairs_f_v2.l1 N (fun d0 d1 d2 d3 d4 => K (.tup []) [⟨false, .ints .u8 64 g0⟩, ⟨true, .avs [.sptr [(7, 2), (8, 1104)]]⟩, ⟨true, .ints .i64 1 d0⟩, ⟨true, .ints .i64 2 d1⟩, ⟨true, .ints .u8 64 d2⟩, ⟨true, .ints .i64 1 d3⟩, ⟨true, .ints .i64 1 d4⟩, ⟨false, .ints .i64 2 g6⟩, ⟨false, .ints .u8 1104 g7⟩]) g0 g1 g2 g4 g5 g6 g7 x8 (fun o13 => (impl_pairs_f_v2.k1g N L0 (impl_pairs_f_v2.k0 N K g0 g1 g2 g3 g4 g5 g6 g7)) (.exit 2) (impl_pairs_f_v2.sx1_0 g0 g1 g2 g4 g5 g6 g7 x8 o13)) m x10 g11) := by
  intro m
  induction m with
  | zero => intros; rfl
  | succ m ih =>
    intro x10 g11
    refine (impl_pairs_f_v2.b1_eq N K L0 (fun s => xloop (xcode (E21 N) ents impl_pairs_f_v2.kp 9 N (cL (cK (cB (cB (cK (cA (cB (cB (cL (cK (cB impl_pairs_f_v2.bd))))))))))) 2) impl_pairs_f_v2.kp 9 2 m s (impl_pairs_f_v2.k1g N L0 (impl_pairs_f_v2.k0 N K g0 g1 g2 g3 g4 g5 g6 g7))) g0 g1 g2 g3 g4 g5 g6 g7 x8 x10 g11).trans ?_
    simp only [ih]
    kernel_rfl

theorem impl_pairs_f_v2.l0_eq {ρ : Type} (N : Nat) (K : AV → Heap → Option ρ) (g0 : Nat → Int) (g1 : Nat → Int) (g2 : Nat → Int) (g3 : Nat → Int) (g4 : Nat → Int) (g5 : Nat → Int) (g6 : Nat → Int) (g7 : Nat → Int) :
    ∀ (m : Nat) (x8 : Int) (g9 : Nat → Int), xloop (xcode (E21 N) ents impl_pairs_f_v2.kp 9 N (cL (cK (cB impl_pairs_f_v2.bd))) 0) impl_pairs_f_v2.kp 9 0 m (impl_pairs_f_v2.st0 g0 g1 g2 g4 g5 g6 g7 x8 g9) (impl_pairs_f_v2.k0 N K g0 g1 g2 g3 g4 g5 g6 g7) = (impl_pairs_f_v2.l0 N (fun d0 d1 d2 d3 d4 => K (.tup []) [⟨false, .ints .u8 64 g0⟩, ⟨true, .avs [.sptr [(7, 2), (8, 1104)]]⟩, ⟨true, .ints .i64 1 d0⟩, ⟨true, .ints .i64 2 d1⟩, ⟨true, .ints .u8 64 d2⟩, ⟨true, .ints .i64 1 d3⟩, ⟨true, .ints .i64 1 d4⟩, ⟨false, .ints .i64 2 g6⟩, ⟨false, .ints .u8 1104 g7⟩]) g0 g1 g2 g4 g5 g6 g7 (fun o14 => (impl_pairs_f_v2.k0 N K g0 g1 g2 g3 g4 g5 g6 g7) (.exit 0) (impl_pairs_f_v2.sx0_0 g0 g1 g2 g4 g5 g6 g7 o14)) m x8 g9) := by
  intro m
  induction m with
  | zero => intros; rfl
  | succ m ih =>
    intro x8 g9
    refine (impl_pairs_f_v2.b0_eq N K (fun s => xloop (xcode (E21 N) ents impl_pairs_f_v2.kp 9 N (cL (cK (cB impl_pairs_f_v2.bd))) 0) impl_pairs_f_v2.kp 9 0 m s (impl_pairs_f_v2.k0 N K g0 g1 g2 g3 g4 g5 g6 g7)) g0 g1 g2 g3 g4 g5 g6 g7 x8 g9).trans ?_
    simp only [ih, impl_pairs_f_v2.l1_eq, impl_pairs_f_v2.a1_0_eq]
    kernel_rfl

theorem impl_pairs_f_v2.s_eq {ρ : Type} (N : Nat) (K : AV → Heap → Option ρ) (g0 : Nat → Int) (g1 : Nat → Int) (g2 : Nat → Int) (g3 : Nat → Int) (g4 : Nat → Int) (g5 : Nat → Int) (g6 : Nat → Int) (g7 : Nat → Int) :
    xbody (E21 N) ents impl_pairs_f_v2.kp N Go.Proofs.Try.f30 impl_pairs_f_v2.bd [.sptr [(0, 64)], .fn 32 0 [[(1, 1)], [(2, 1)], [(3, 2)], [(4, 64)], [(5, 1)], [(6, 1)]]] [⟨false, .ints .u8 64 g0⟩, ⟨true, .avs [.sptr [(7, 2), (8, 1104)]]⟩, ⟨true, .ints .i64 1 g1⟩, ⟨true, .ints .i64 2 g2⟩, ⟨true, .ints .u8 64 g3⟩, ⟨true, .ints .i64 1 g4⟩, ⟨true, .ints .i64 1 g5⟩, ⟨false, .ints .i64 2 g6⟩, ⟨false, .ints .u8 1104 g7⟩] K = (impl_pairs_f_v2.s N (fun d0 d1 d2 d3 d4 => K (.tup []) [⟨false, .ints .u8 64 g0⟩, ⟨true, .avs [.sptr [(7, 2), (8, 1104)]]⟩, ⟨true, .ints .i64 1 d0⟩, ⟨true, .ints .i64 2 d1⟩, ⟨true, .ints .u8 64 d2⟩, ⟨true, .ints .i64 1 d3⟩, ⟨true, .ints .i64 1 d4⟩, ⟨false, .ints .i64 2 g6⟩, ⟨false, .ints .u8 1104 g7⟩]) (fun x8 g9 => xloop (xcode (E21 N) ents impl_pairs_f_v2.kp 9 N (cL (cK (cB impl_pairs_f_v2.bd))) 0) impl_pairs_f_v2.kp 9 0 N (impl_pairs_f_v2.st0 g0 g1 g2 g4 g5 g6 g7 x8 g9) (impl_pairs_f_v2.k0 N K g0 g1 g2 g3 g4 g5 g6 g7)) g3) := by kernel_rfl

theorem impl_pairs_f_v2.eq {ρ : Type} (N : Nat) (K : AV → Heap → Option ρ) (g0 : Nat → Int) (g1 : Nat → Int) (g2 : Nat → Int) (g3 : Nat → Int) (g4 : Nat → Int) (g5 : Nat → Int) (g6 : Nat → Int) (g7 : Nat → Int) :
    xbody (E21 N) ents impl_pairs_f_v2.kp N Go.Proofs.Try.f30 impl_pairs_f_v2.bd [.sptr [(0, 64)], .fn 32 0 [[(1, 1)], [(2, 1)], [(3, 2)], [(4, 64)], [(5, 1)], [(6, 1)]]] [⟨false, .ints .u8 64 g0⟩, ⟨true, .avs [.sptr [(7, 2), (8, 1104)]]⟩, ⟨true, .ints .i64 1 g1⟩, ⟨true, .ints .i64 2 g2⟩, ⟨true, .ints .u8 64 g3⟩, ⟨true, .ints .i64 1 g4⟩, ⟨true, .ints .i64 1 g5⟩, ⟨false, .ints .i64 2 g6⟩, ⟨false, .ints .u8 1104 g7⟩] K = (impl_pairs_f_v2 N (fun d0 d1 d2 d3 d4 => K (.tup []) [⟨false, .ints .u8 64 g0⟩, ⟨true, .avs [.sptr [(7, 2), (8, 1104)]]⟩, ⟨true, .ints .i64 1 d0⟩, ⟨true, .ints .i64 2 d1⟩, ⟨true, .ints .u8 64 d2⟩, ⟨true, .ints .i64 1 d3⟩, ⟨true, .ints .i64 1 d4⟩, ⟨false, .ints .i64 2 g6⟩, ⟨false, .ints .u8 1104 g7⟩]) g0 g1 g2 g3 g4 g5 g6 g7) := by
  refine (impl_pairs_f_v2.s_eq N K g0 g1 g2 g3 g4 g5 g6 g7).trans ?_
  simp only [impl_pairs_f_v2.l0_eq, impl_pairs_f_v2.a0_0_eq]
  kernel_rfl

noncomputable def impl_pairs_f_v2.en (N : Nat) (ρ : Type) : List AV → Heap → (AV → Heap → Option ρ) → Option ρ
  | [.sptr [(0, 64)], .fn 32 0 [[(1, 1)], [(2, 1)], [(3, 2)], [(4, 64)], [(5, 1)], [(6, 1)]]], [⟨false, .ints .u8 64 g0⟩, ⟨true, .avs [.sptr [(7, 2), (8, 1104)]]⟩, ⟨true, .ints .i64 1 g1⟩, ⟨true, .ints .i64 2 g2⟩, ⟨true, .ints .u8 64 g3⟩, ⟨true, .ints .i64 1 g4⟩, ⟨true, .ints .i64 1 g5⟩, ⟨false, .ints .i64 2 g6⟩, ⟨false, .ints .u8 1104 g7⟩], K => (impl_pairs_f_v2 N (fun d0 d1 d2 d3 d4 => K (.tup []) [⟨false, .ints .u8 64 g0⟩, ⟨true, .avs [.sptr [(7, 2), (8, 1104)]]⟩, ⟨true, .ints .i64 1 d0⟩, ⟨true, .ints .i64 2 d1⟩, ⟨true, .ints .u8 64 d2⟩, ⟨true, .ints .i64 1 d3⟩, ⟨true, .ints .i64 1 d4⟩, ⟨false, .ints .i64 2 g6⟩, ⟨false, .ints .u8 1104 g7⟩]) g0 g1 g2 g3 g4 g5 g6 g7)
  | _, _, _ => none

theorem impl_pairs_f_v2.en_ok (N : Nat) (hE : EnvOk (E21 N) ents) (ρ : Type) (args : List AV) (sh : Heap) (K : AV → Heap → Option ρ) (r : ρ) (h : impl_pairs_f_v2.en N ρ args sh K = some r) : ∃ v sh', K v sh' = some r ∧ FnOk (E21 N).P 30 args sh v sh' := by
  unfold impl_pairs_f_v2.en at h
  split at h
  · exact fn_ok hE (kp := impl_pairs_f_v2.kp) (N := N) Go.Proofs.Try.func30 (c := impl_pairs_f_v2.bd) (by kernel_rfl) ((impl_pairs_f_v2.eq N _ _ _ _ _ _ _ _ _).trans h)
  · cases h

noncomputable def E22 (N : Nat) : Env := (E21 N).add 30 (impl_pairs_f_v2.en N)

theorem E22_ok (N : Nat) : EnvOk (E22 N) ents := Env.add_ok (E21_ok N) (impl_pairs_f_v2.en_ok N (E21_ok N))

noncomputable def impl_Hopf_tensor_c1.kp : Keeps := ⟨[], []⟩

noncomputable def impl_Hopf_tensor_c1.bd : Code := bodyOf Go.Proofs.Try.f31

noncomputable def impl_Hopf_tensor_c1.fin {ρ : Type} (N : Nat) (K : AV → Heap → Option ρ) (g3 : Nat → Int) (g4 : Nat → Int) (g5 : Nat → Int) (g6 : Nat → Int) (g7 : Nat → Int) : XE → St → Option ρ := finK (E22 N) Go.Proofs.Try.f31 [⟨false, .avs [.sptr [(4, 64)]]⟩, ⟨true, .avs [.sptr [(5, 2), (6, 1104)]]⟩, ⟨true, .ints .i64 2 g3⟩, ⟨true, .ints .u8 64 g4⟩, ⟨false, .ints .u8 64 g5⟩, ⟨false, .ints .i64 2 g6⟩, ⟨false, .ints .u8 1104 g7⟩] K

theorem impl_Hopf_tensor_c1.eq {ρ : Type} (N : Nat) (K : AV → Heap → Option ρ) (j0 : Int) (k1 : Int) (x2 : Int) (g3 : Nat → Int) (g4 : Nat → Int) (g5 : Nat → Int) (g6 : Nat → Int) (g7 : Nat → Int) :
    xbody (E22 N) ents impl_Hopf_tensor_c1.kp N Go.Proofs.Try.f31 impl_Hopf_tensor_c1.bd [.int .i64 (j0), .int .i64 (k1), .int .i64 (x2), .sptr [(0, 1)], .sptr [(1, 1)], .sptr [(2, 2)], .sptr [(3, 64)]] [⟨false, .avs [.sptr [(4, 64)]]⟩, ⟨true, .avs [.sptr [(5, 2), (6, 1104)]]⟩, ⟨true, .ints .i64 2 g3⟩, ⟨true, .ints .u8 64 g4⟩, ⟨false, .ints .u8 64 g5⟩, ⟨false, .ints .i64 2 g6⟩, ⟨false, .ints .u8 1104 g7⟩] K = (impl_Hopf_tensor_c1 N (fun d0 d1 => K (.tup []) [⟨false, .avs [.sptr [(4, 64)]]⟩, ⟨true, .avs [.sptr [(5, 2), (6, 1104)]]⟩, ⟨true, .ints .i64 2 d0⟩, ⟨true, .ints .u8 64 d1⟩, ⟨false, .ints .u8 64 g5⟩, ⟨false, .ints .i64 2 g6⟩, ⟨false, .ints .u8 1104 g7⟩]) j0 k1 x2 g3 g4 g5 g6 g7) := by kernel_rfl

noncomputable def impl_Hopf_tensor_c1.en (N : Nat) (ρ : Type) : List AV → Heap → (AV → Heap → Option ρ) → Option ρ
  | [.int .i64 (j0), .int .i64 (k1), .int .i64 (x2), .sptr [(0, 1)], .sptr [(1, 1)], .sptr [(2, 2)], .sptr [(3, 64)]], [⟨false, .avs [.sptr [(4, 64)]]⟩, ⟨true, .avs [.sptr [(5, 2), (6, 1104)]]⟩, ⟨true, .ints .i64 2 g3⟩, ⟨true, .ints .u8 64 g4⟩, ⟨false, .ints .u8 64 g5⟩, ⟨false, .ints .i64 2 g6⟩, ⟨false, .ints .u8 1104 g7⟩], K => (impl_Hopf_tensor_c1 N (fun d0 d1 => K (.tup []) [⟨false, .avs [.sptr [(4, 64)]]⟩, ⟨true, .avs [.sptr [(5, 2), (6, 1104)]]⟩, ⟨true, .ints .i64 2 d0⟩, ⟨true, .ints .u8 64 d1⟩, ⟨false, .ints .u8 64 g5⟩, ⟨false, .ints .i64 2 g6⟩, ⟨false, .ints .u8 1104 g7⟩]) j0 k1 x2 g3 g4 g5 g6 g7)
  | _, _, _ => none

theorem impl_Hopf_tensor_c1.en_ok (N : Nat) (hE : EnvOk (E22 N) ents) (ρ : Type) (args : List AV) (sh : Heap) (K : AV → Heap → Option ρ) (r : ρ) (h : impl_Hopf_tensor_c1.en N ρ args sh K = some r) : ∃ v sh', K v sh' = some r ∧ FnOk (E22 N).P 31 args sh v sh' := by
  unfold impl_Hopf_tensor_c1.en at h
  split at h
  · exact fn_ok hE (kp := impl_Hopf_tensor_c1.kp) (N := N) Go.Proofs.Try.func31 (c := impl_Hopf_tensor_c1.bd) (by kernel_rfl) ((impl_Hopf_tensor_c1.eq N _ _ _ _ _ _ _ _ _).trans h)
  · cases h

noncomputable def E23 (N : Nat) : Env := (E22 N).add 31 (impl_Hopf_tensor_c1.en N)

theorem E23_ok (N : Nat) : EnvOk (E23 N) ents := Env.add_ok (E22_ok N) (impl_Hopf_tensor_c1.en_ok N (E22_ok N))

noncomputable def impl_pairs_f.kp : Keeps := ⟨[(0, [0, 1, 7], 8), (2, [0, 1, 4, 7, 14, 15], 8)], [(0, [], 8), (2, [0, 1, 7], 8)]⟩

noncomputable def impl_pairs_f.bd : Code := bodyOf Go.Proofs.Try.f30

noncomputable def impl_pairs_f.fin {ρ : Type} (N : Nat) (K : AV → Heap → Option ρ) (g0 : Nat → Int) (g1 : Nat → Int) (g2 : Nat → Int) (g3 : Nat → Int) (g4 : Nat → Int) (g5 : Nat → Int) : XE → St → Option ρ := finK (E23 N) Go.Proofs.Try.f30 [⟨false, .ints .u8 64 g0⟩, ⟨true, .avs [.sptr [(5, 64)]]⟩, ⟨true, .avs [.sptr [(6, 2), (7, 1104)]]⟩, ⟨true, .ints .i64 2 g1⟩, ⟨true, .ints .u8 64 g2⟩, ⟨false, .ints .u8 64 g3⟩, ⟨false, .ints .i64 2 g4⟩, ⟨false, .ints .u8 1104 g5⟩] K

noncomputable def impl_pairs_f.k0 {ρ : Type} (N : Nat) (K : AV → Heap → Option ρ) (g0 : Nat → Int) (g1 : Nat → Int) (g2 : Nat → Int) (g3 : Nat → Int) (g4 : Nat → Int) (g5 : Nat → Int) : XE → St → Option ρ := (blockK impl_pairs_f.kp 8 0 (impl_pairs_f.fin N K g0 g1 g2 g3 g4 g5))

theorem impl_pairs_f.k0_mix {ρ : Type} (N : Nat) (K : AV → Heap → Option ρ) (g0 : Nat → Int) (g1 : Nat → Int) (g2 : Nat → Int) (g3 : Nat → Int) (g4 : Nat → Int) (g5 : Nat → Int) : mixK (impl_pairs_f.fin N K g0 g1 g2 g3 g4 g5 .ret) (impl_pairs_f.k0 N K g0 g1 g2 g3 g4 g5) = (impl_pairs_f.k0 N K g0 g1 g2 g3 g4 g5) := by
  funext e s; cases e <;> rfl

noncomputable def impl_pairs_f.st0 (g0 : Nat → Int) (g3 : Nat → Int) (g4 : Nat → Int) (g5 : Nat → Int) (x6 : Int) (g7 : Nat → Int) (g8 : Nat → Int) : St := ⟨sl 29 [(0, .sptr [(0, 64)]), (1, .fn 31 0 [[(1, 1)], [(2, 1)], [(3, 2)], [(4, 64)]]), (7, .int .i64 (x6))], [⟨false, .ints .u8 64 g0⟩, ⟨true, .avs [.sptr [(5, 64)]]⟩, ⟨true, .avs [.sptr [(6, 2), (7, 1104)]]⟩, ⟨true, .ints .i64 2 g7⟩, ⟨true, .ints .u8 64 g8⟩, ⟨false, .ints .u8 64 g3⟩, ⟨false, .ints .i64 2 g4⟩, ⟨false, .ints .u8 1104 g5⟩]⟩

noncomputable def impl_pairs_f.sx0_0 (g0 : Nat → Int) (g3 : Nat → Int) (g4 : Nat → Int) (g5 : Nat → Int) (o16 : Nat → Int) (o17 : Nat → Int) : St := ⟨sl 29 [], [⟨false, .ints .u8 64 g0⟩, ⟨true, .avs [.sptr [(5, 64)]]⟩, ⟨true, .avs [.sptr [(6, 2), (7, 1104)]]⟩, ⟨true, .ints .i64 2 o16⟩, ⟨true, .ints .u8 64 o17⟩, ⟨false, .ints .u8 64 g3⟩, ⟨false, .ints .i64 2 g4⟩, ⟨false, .ints .u8 1104 g5⟩]⟩

noncomputable def impl_pairs_f.k1g {ρ : Type} (N : Nat) (L0 : St → Option ρ) (kv : XE → St → Option ρ) : XE → St → Option ρ := (blockK impl_pairs_f.kp 8 2 (blockK impl_pairs_f.kp 8 1 (seqK (xcode (E23 N) ents impl_pairs_f.kp 8 N (cB (cB (cB (cL (cK (cB impl_pairs_f.bd)))))) 0) (roundK impl_pairs_f.kp 8 0 L0 kv))))

theorem impl_pairs_f.k1_mix {ρ : Type} (N : Nat) (K : AV → Heap → Option ρ) (L0 : St → Option ρ) (g0 : Nat → Int) (g1 : Nat → Int) (g2 : Nat → Int) (g3 : Nat → Int) (g4 : Nat → Int) (g5 : Nat → Int) : mixK (impl_pairs_f.fin N K g0 g1 g2 g3 g4 g5 .ret) (impl_pairs_f.k1g N L0 (impl_pairs_f.k0 N K g0 g1 g2 g3 g4 g5)) = (impl_pairs_f.k1g N L0 (impl_pairs_f.k0 N K g0 g1 g2 g3 g4 g5)) := by
  funext e s; cases e <;> rfl

noncomputable def impl_pairs_f.st1 (g0 : Nat → Int) (g3 : Nat → Int) (g4 : Nat → Int) (g5 : Nat → Int) (x6 : Int) (x9 : Int) (g10 : Nat → Int) (g11 : Nat → Int) : St := ⟨sl 29 [(0, .sptr [(0, 64)]), (1, .fn 31 0 [[(1, 1)], [(2, 1)], [(3, 2)], [(4, 64)]]), (4, .int .i64 (x6)), (7, .int .i64 (x6)), (14, .agg [⟨.u8, 8, (fun z => (g0 ((x6.toNat * 8) + z)))⟩]), (15, .int .i64 (x9))], [⟨false, .ints .u8 64 g0⟩, ⟨true, .avs [.sptr [(5, 64)]]⟩, ⟨true, .avs [.sptr [(6, 2), (7, 1104)]]⟩, ⟨true, .ints .i64 2 g10⟩, ⟨true, .ints .u8 64 g11⟩, ⟨false, .ints .u8 64 g3⟩, ⟨false, .ints .i64 2 g4⟩, ⟨false, .ints .u8 1104 g5⟩]⟩

noncomputable def impl_pairs_f.sx1_0 (g0 : Nat → Int) (g3 : Nat → Int) (g4 : Nat → Int) (g5 : Nat → Int) (x6 : Int) (o14 : Nat → Int) (o15 : Nat → Int) : St := ⟨sl 29 [(0, .sptr [(0, 64)]), (1, .fn 31 0 [[(1, 1)], [(2, 1)], [(3, 2)], [(4, 64)]]), (7, .int .i64 (x6))], [⟨false, .ints .u8 64 g0⟩, ⟨true, .avs [.sptr [(5, 64)]]⟩, ⟨true, .avs [.sptr [(6, 2), (7, 1104)]]⟩, ⟨true, .ints .i64 2 o14⟩, ⟨true, .ints .u8 64 o15⟩, ⟨false, .ints .u8 64 g3⟩, ⟨false, .ints .i64 2 g4⟩, ⟨false, .ints .u8 1104 g5⟩]⟩

theorem impl_pairs_f.b1_gen {ρ : Type} (N : Nat) (K : AV → Heap → Option ρ) (L1 : St → Option ρ) (kv : XE → St → Option ρ) (g0 : Nat → Int) (g1 : Nat → Int) (g2 : Nat → Int) (g3 : Nat → Int) (g4 : Nat → Int) (g5 : Nat → Int) (x6 : Int) (x9 : Int) (g10 : Nat → Int) (g11 : Nat → Int) :
    xcode (E23 N) ents impl_pairs_f.kp 8 N (cL (cK (cB (cB (cK (cA (cB (cB (cL (cK (cB impl_pairs_f.bd))))))))))) 2 (impl_pairs_f.st1 g0 g3 g4 g5 x6 x9 g10 g11) (roundK impl_pairs_f.kp 8 2 L1 (mixK (impl_pairs_f.fin N K g0 g1 g2 g3 g4 g5 .ret) kv)) = (impl_pairs_f.b1 N (fun d0 d1 => K (.tup []) [⟨false, .ints .u8 64 g0⟩, ⟨true, .avs [.sptr [(5, 64)]]⟩, ⟨true, .avs [.sptr [(6, 2), (7, 1104)]]⟩, ⟨true, .ints .i64 2 d0⟩, ⟨true, .ints .u8 64 d1⟩, ⟨false, .ints .u8 64 g3⟩, ⟨false, .ints .i64 2 g4⟩, ⟨false, .ints .u8 1104 g5⟩]) (fun x9 g10 g11 => L1 (impl_pairs_f.st1 g0 g3 g4 g5 x6 x9 g10 g11)) (fun o14 o15 => kv (.exit 2) (impl_pairs_f.sx1_0 g0 g3 g4 g5 x6 o14 o15)) g0 g3 g4 g5 x6 x9 g10 g11) := by kernel_rfl

theorem impl_pairs_f.b1_eq {ρ : Type} (N : Nat) (K : AV → Heap → Option ρ) (L0 : St → Option ρ) (L1 : St → Option ρ) (g0 : Nat → Int) (g1 : Nat → Int) (g2 : Nat → Int) (g3 : Nat → Int) (g4 : Nat → Int) (g5 : Nat → Int) (x6 : Int) (x9 : Int) (g10 : Nat → Int) (g11 : Nat → Int) :
    xcode (E23 N) ents impl_pairs_f.kp 8 N (cL (cK (cB (cB (cK (cA (cB (cB (cL (cK (cB impl_pairs_f.bd))))))))))) 2 (impl_pairs_f.st1 g0 g3 g4 g5 x6 x9 g10 g11) (roundK impl_pairs_f.kp 8 2 L1 (impl_pairs_f.k1g N L0 (impl_pairs_f.k0 N K g0 g1 g2 g3 g4 g5))) = (impl_pairs_f.b1 N (fun d0 d1 => K (.tup []) [⟨false, .ints .u8 64 g0⟩, ⟨true, .avs [.sptr [(5, 64)]]⟩, ⟨true, .avs [.sptr [(6, 2), (7, 1104)]]⟩, ⟨true, .ints .i64 2 d0⟩, ⟨true, .ints .u8 64 d1⟩, ⟨false, .ints .u8 64 g3⟩, ⟨false, .ints .i64 2 g4⟩, ⟨false, .ints .u8 1104 g5⟩]) (fun x9 g10 g11 => L1 (impl_pairs_f.st1 g0 g3 g4 g5 x6 x9 g10 g11)) (fun o14 o15 => (impl_pairs_f.k1g N L0 (impl_pairs_f.k0 N K g0 g1 g2 g3 g4 g5)) (.exit 2) (impl_pairs_f.sx1_0 g0 g3 g4 g5 x6 o14 o15)) g0 g3 g4 g5 x6 x9 g10 g11) := by
  have h := impl_pairs_f.b1_gen N K L1 (impl_pairs_f.k1g N L0 (impl_pairs_f.k0 N K g0 g1 g2 g3 g4 g5)) g0 g1 g2 g3 g4 g5 x6 x9 g10 g11
  rw [impl_pairs_f.k1_mix] at h
  exact h

theorem impl_pairs_f.a1_0_gen {ρ : Type} (N : Nat) (K : AV → Heap → Option ρ) (L0 : St → Option ρ) (kv : XE → St → Option ρ) (g0 : Nat → Int) (g1 : Nat → Int) (g2 : Nat → Int) (g3 : Nat → Int) (g4 : Nat → Int) (g5 : Nat → Int) (x6 : Int) (o14 : Nat → Int) (o15 : Nat → Int) :
    (impl_pairs_f.k1g N L0 (mixK (impl_pairs_f.fin N K g0 g1 g2 g3 g4 g5 .ret) kv)) (.exit 2) (impl_pairs_f.sx1_0 g0 g3 g4 g5 x6 o14 o15) = (impl_pairs_f.a1_0 N (fun d0 d1 => K (.tup []) [⟨false, .ints .u8 64 g0⟩, ⟨true, .avs [.sptr [(5, 64)]]⟩, ⟨true, .avs [.sptr [(6, 2), (7, 1104)]]⟩, ⟨true, .ints .i64 2 d0⟩, ⟨true, .ints .u8 64 d1⟩, ⟨false, .ints .u8 64 g3⟩, ⟨false, .ints .i64 2 g4⟩, ⟨false, .ints .u8 1104 g5⟩]) (fun x6 g7 g8 => L0 (impl_pairs_f.st0 g0 g3 g4 g5 x6 g7 g8)) (fun o16 o17 => kv (.exit 0) (impl_pairs_f.sx0_0 g0 g3 g4 g5 o16 o17)) x6 o14 o15) := by kernel_rfl

theorem impl_pairs_f.a1_0_eq {ρ : Type} (N : Nat) (K : AV → Heap → Option ρ) (L0 : St → Option ρ) (g0 : Nat → Int) (g1 : Nat → Int) (g2 : Nat → Int) (g3 : Nat → Int) (g4 : Nat → Int) (g5 : Nat → Int) (x6 : Int) (o14 : Nat → Int) (o15 : Nat → Int) :
    (impl_pairs_f.k1g N L0 (impl_pairs_f.k0 N K g0 g1 g2 g3 g4 g5)) (.exit 2) (impl_pairs_f.sx1_0 g0 g3 g4 g5 x6 o14 o15) = (impl_pairs_f.a1_0 N (fun d0 d1 => K (.tup []) [⟨false, .ints .u8 64 g0⟩, ⟨true, .avs [.sptr [(5, 64)]]⟩, ⟨true, .avs [.sptr [(6, 2), (7, 1104)]]⟩, ⟨true, .ints .i64 2 d0⟩, ⟨true, .ints .u8 64 d1⟩, ⟨false, .ints .u8 64 g3⟩, ⟨false, .ints .i64 2 g4⟩, ⟨false, .ints .u8 1104 g5⟩]) (fun x6 g7 g8 => L0 (impl_pairs_f.st0 g0 g3 g4 g5 x6 g7 g8)) (fun o16 o17 => (impl_pairs_f.k0 N K g0 g1 g2 g3 g4 g5) (.exit 0) (impl_pairs_f.sx0_0 g0 g3 g4 g5 o16 o17)) x6 o14 o15) := by
  have h := impl_pairs_f.a1_0_gen N K L0 (impl_pairs_f.k0 N K g0 g1 g2 g3 g4 g5) g0 g1 g2 g3 g4 g5 x6 o14 o15
  rw [impl_pairs_f.k0_mix] at h
  exact h

theorem impl_pairs_f.b0_gen {ρ : Type} (N : Nat) (K : AV → Heap → Option ρ) (L0 : St → Option ρ) (kv : XE → St → Option ρ) (g0 : Nat → Int) (g1 : Nat → Int) (g2 : Nat → Int) (g3 : Nat → Int) (g4 : Nat → Int) (g5 : Nat → Int) (x6 : Int) (g7 : Nat → Int) (g8 : Nat → Int) :
    xcode (E23 N) ents impl_pairs_f.kp 8 N (cL (cK (cB impl_pairs_f.bd))) 0 (impl_pairs_f.st0 g0 g3 g4 g5 x6 g7 g8) (roundK impl_pairs_f.kp 8 0 L0 (mixK (impl_pairs_f.fin N K g0 g1 g2 g3 g4 g5 .ret) kv)) = (impl_pairs_f.b0 N (fun d0 d1 => K (.tup []) [⟨false, .ints .u8 64 g0⟩, ⟨true, .avs [.sptr [(5, 64)]]⟩, ⟨true, .avs [.sptr [(6, 2), (7, 1104)]]⟩, ⟨true, .ints .i64 2 d0⟩, ⟨true, .ints .u8 64 d1⟩, ⟨false, .ints .u8 64 g3⟩, ⟨false, .ints .i64 2 g4⟩, ⟨false, .ints .u8 1104 g5⟩]) (fun x9 g10 g11 => xloop (xcode (E23 N) ents impl_pairs_f.kp 8 N (cL (cK (cB (cB (cK (cA (cB (cB (cL (cK (cB impl_pairs_f.bd))))))))))) 2) impl_pairs_f.kp 8 2 N (impl_pairs_f.st1 g0 g3 g4 g5 x6 x9 g10 g11) (impl_pairs_f.k1g N L0 (mixK (impl_pairs_f.fin N K g0 g1 g2 g3 g4 g5 .ret) kv))) (fun x6 g7 g8 => L0 (impl_pairs_f.st0 g0 g3 g4 g5 x6 g7 g8)) (fun o16 o17 => kv (.exit 0) (impl_pairs_f.sx0_0 g0 g3 g4 g5 o16 o17)) x6 g7 g8) := by kernel_rfl

theorem impl_pairs_f.b0_eq {ρ : Type} (N : Nat) (K : AV → Heap → Option ρ) (L0 : St → Option ρ) (g0 : Nat → Int) (g1 : Nat → Int) (g2 : Nat → Int) (g3 : Nat → Int) (g4 : Nat → Int) (g5 : Nat → Int) (x6 : Int) (g7 : Nat → Int) (g8 : Nat → Int) :
    xcode (E23 N) ents impl_pairs_f.kp 8 N (cL (cK (cB impl_pairs_f.bd))) 0 (impl_pairs_f.st0 g0 g3 g4 g5 x6 g7 g8) (roundK impl_pairs_f.kp 8 0 L0 (impl_pairs_f.k0 N K g0 g1 g2 g3 g4 g5)) = (impl_pairs_f.b0 N (fun d0 d1 => K (.tup []) [⟨false, .ints .u8 64 g0⟩, ⟨true, .avs [.sptr [(5, 64)]]⟩, ⟨true, .avs [.sptr [(6, 2), (7, 1104)]]⟩, ⟨true, .ints .i64 2 d0⟩, ⟨true, .ints .u8 64 d1⟩, ⟨false, .ints .u8 64 g3⟩, ⟨false, .ints .i64 2 g4⟩, ⟨false, .ints .u8 1104 g5⟩]) (fun x9 g10 g11 => xloop (xcode (E23 N) ents impl_pairs_f.kp 8 N (cL (cK (cB (cB (cK (cA (cB (cB (cL (cK (cB impl_pairs_f.bd))))))))))) 2) impl_pairs_f.kp 8 2 N (impl_pairs_f.st1 g0 g3 g4 g5 x6 x9 g10 g11) (impl_pairs_f.k1g N L0 (impl_pairs_f.k0 N K g0 g1 g2 g3 g4 g5))) (fun x6 g7 g8 => L0 (impl_pairs_f.st0 g0 g3 g4 g5 x6 g7 g8)) (fun o16 o17 => (impl_pairs_f.k0 N K g0 g1 g2 g3 g4 g5) (.exit 0) (impl_pairs_f.sx0_0 g0 g3 g4 g5 o16 o17)) x6 g7 g8) := by
  have h := impl_pairs_f.b0_gen N K L0 (impl_pairs_f.k0 N K g0 g1 g2 g3 g4 g5) g0 g1 g2 g3 g4 g5 x6 g7 g8
  rw [impl_pairs_f.k0_mix] at h
  exact h

theorem impl_pairs_f.a0_0_eq {ρ : Type} (N : Nat) (K : AV → Heap → Option ρ) (g0 : Nat → Int) (g1 : Nat → Int) (g2 : Nat → Int) (g3 : Nat → Int) (g4 : Nat → Int) (g5 : Nat → Int) (o16 : Nat → Int) (o17 : Nat → Int) :
    (impl_pairs_f.k0 N K g0 g1 g2 g3 g4 g5) (.exit 0) (impl_pairs_f.sx0_0 g0 g3 g4 g5 o16 o17) = (impl_pairs_f.a0_0 N (fun d0 d1 => K (.tup []) [⟨false, .ints .u8 64 g0⟩, ⟨true, .avs [.sptr [(5, 64)]]⟩, ⟨true, .avs [.sptr [(6, 2), (7, 1104)]]⟩, ⟨true, .ints .i64 2 d0⟩, ⟨true, .ints .u8 64 d1⟩, ⟨false, .ints .u8 64 g3⟩, ⟨false, .ints .i64 2 g4⟩, ⟨false, .ints .u8 1104 g5⟩]) o16 o17) := by kernel_rfl

theorem impl_pairs_f.l1_eq {ρ : Type} (N : Nat) (K : AV → Heap → Option ρ) (L0 : St → Option ρ) (g0 : Nat → Int) (g1 : Nat → Int) (g2 : Nat → Int) (g3 : Nat → Int) (g4 : Nat → Int) (g5 : Nat → Int) (x6 : Int) :
    ∀ (m : Nat) (x9 : Int) (g10 : Nat → Int) (g11 : Nat → Int), xloop (xcode (E23 N) ents impl_pairs_f.kp 8 N (cL (cK (cB (cB (cK (cA (cB (cB (cL (cK (cB impl_pairs_f.bd))))))))))) 2) impl_pairs_f.kp 8 2 m (impl_pairs_f.st1 g0 g3 g4 g5 x6 x9 g10 g11) (impl_pairs_f.k1g N L0 (impl_pairs_f.k0 N K g0 g1 g2 g3 g4 g5)) = (impl_pairs_f.l1 N (fun d0 d1 => K (.tup []) [⟨false, .ints .u8 64 g0⟩, ⟨true, .avs [.sptr [(5, 64)]]⟩, ⟨true, .avs [.sptr [(6, 2), (7, 1104)]]⟩, ⟨true, .ints .i64 2 d0⟩, ⟨true, .ints .u8 64 d1⟩, ⟨false, .ints .u8 64 g3⟩, ⟨false, .ints .i64 2 g4⟩, ⟨false, .ints .u8 1104 g5⟩]) g0 g3 g4 g5 x6 (fun o14 o15 => (impl_pairs_f.k1g N L0 (impl_pairs_f.k0 N K g0 g1 g2 g3 g4 g5)) (.exit 2) (impl_pairs_f.sx1_0 g0 g3 g4 g5 x6 o14 o15)) m x9 g10 g11) := by
  intro m
  induction m with
  | zero => intros; rfl
  | succ m ih =>
    intro x9 g10 g11
    refine (impl_pairs_f.b1_eq N K L0 (fun s => xloop (xcode (E23 N) ents impl_pairs_f.kp 8 N (cL (cK (cB (cB (cK (cA (cB (cB (cL (cK (cB impl_pairs_f.bd))))))))))) 2) impl_pairs_f.kp 8 2 m s (impl_pairs_f.k1g N L0 (impl_pairs_f.k0 N K g0 g1 g2 g3 g4 g5))) g0 g1 g2 g3 g4 g5 x6 x9 g10 g11).trans ?_
    simp only [ih]
    kernel_rfl

theorem impl_pairs_f.l0_eq {ρ : Type} (N : Nat) (K : AV → Heap → Option ρ) (g0 : Nat → Int) (g1 : Nat → Int) (g2 : Nat → Int) (g3 : Nat → Int) (g4 : Nat → Int) (g5 : Nat → Int) :
    ∀ (m : Nat) (x6 : Int) (g7 : Nat → Int) (g8 : Nat → Int), xloop (xcode (E23 N) ents impl_pairs_f.kp 8 N (cL (cK (cB impl_pairs_f.bd))) 0) impl_pairs_f.kp 8 0 m (impl_pairs_f.st0 g0 g3 g4 g5 x6 g7 g8) (impl_pairs_f.k0 N K g0 g1 g2 g3 g4 g5) = (impl_pairs_f.l0 N (fun d0 d1 => K (.tup []) [⟨false, .ints .u8 64 g0⟩, ⟨true, .avs [.sptr [(5, 64)]]⟩, ⟨true, .avs [.sptr [(6, 2), (7, 1104)]]⟩, ⟨true, .ints .i64 2 d0⟩, ⟨true, .ints .u8 64 d1⟩, ⟨false, .ints .u8 64 g3⟩, ⟨false, .ints .i64 2 g4⟩, ⟨false, .ints .u8 1104 g5⟩]) g0 g3 g4 g5 (fun o16 o17 => (impl_pairs_f.k0 N K g0 g1 g2 g3 g4 g5) (.exit 0) (impl_pairs_f.sx0_0 g0 g3 g4 g5 o16 o17)) m x6 g7 g8) := by
  intro m
  induction m with
  | zero => intros; rfl
  | succ m ih =>
    intro x6 g7 g8
    refine (impl_pairs_f.b0_eq N K (fun s => xloop (xcode (E23 N) ents impl_pairs_f.kp 8 N (cL (cK (cB impl_pairs_f.bd))) 0) impl_pairs_f.kp 8 0 m s (impl_pairs_f.k0 N K g0 g1 g2 g3 g4 g5)) g0 g1 g2 g3 g4 g5 x6 g7 g8).trans ?_
    simp only [ih, impl_pairs_f.l1_eq, impl_pairs_f.a1_0_eq]
    kernel_rfl

theorem impl_pairs_f.s_eq {ρ : Type} (N : Nat) (K : AV → Heap → Option ρ) (g0 : Nat → Int) (g1 : Nat → Int) (g2 : Nat → Int) (g3 : Nat → Int) (g4 : Nat → Int) (g5 : Nat → Int) :
    xbody (E23 N) ents impl_pairs_f.kp N Go.Proofs.Try.f30 impl_pairs_f.bd [.sptr [(0, 64)], .fn 31 0 [[(1, 1)], [(2, 1)], [(3, 2)], [(4, 64)]]] [⟨false, .ints .u8 64 g0⟩, ⟨true, .avs [.sptr [(5, 64)]]⟩, ⟨true, .avs [.sptr [(6, 2), (7, 1104)]]⟩, ⟨true, .ints .i64 2 g1⟩, ⟨true, .ints .u8 64 g2⟩, ⟨false, .ints .u8 64 g3⟩, ⟨false, .ints .i64 2 g4⟩, ⟨false, .ints .u8 1104 g5⟩] K = (impl_pairs_f.s N (fun d0 d1 => K (.tup []) [⟨false, .ints .u8 64 g0⟩, ⟨true, .avs [.sptr [(5, 64)]]⟩, ⟨true, .avs [.sptr [(6, 2), (7, 1104)]]⟩, ⟨true, .ints .i64 2 d0⟩, ⟨true, .ints .u8 64 d1⟩, ⟨false, .ints .u8 64 g3⟩, ⟨false, .ints .i64 2 g4⟩, ⟨false, .ints .u8 1104 g5⟩]) (fun x6 g7 g8 => xloop (xcode (E23 N) ents impl_pairs_f.kp 8 N (cL (cK (cB impl_pairs_f.bd))) 0) impl_pairs_f.kp 8 0 N (impl_pairs_f.st0 g0 g3 g4 g5 x6 g7 g8) (impl_pairs_f.k0 N K g0 g1 g2 g3 g4 g5)) g1 g2) := by kernel_rfl

theorem impl_pairs_f.eq {ρ : Type} (N : Nat) (K : AV → Heap → Option ρ) (g0 : Nat → Int) (g1 : Nat → Int) (g2 : Nat → Int) (g3 : Nat → Int) (g4 : Nat → Int) (g5 : Nat → Int) :
    xbody (E23 N) ents impl_pairs_f.kp N Go.Proofs.Try.f30 impl_pairs_f.bd [.sptr [(0, 64)], .fn 31 0 [[(1, 1)], [(2, 1)], [(3, 2)], [(4, 64)]]] [⟨false, .ints .u8 64 g0⟩, ⟨true, .avs [.sptr [(5, 64)]]⟩, ⟨true, .avs [.sptr [(6, 2), (7, 1104)]]⟩, ⟨true, .ints .i64 2 g1⟩, ⟨true, .ints .u8 64 g2⟩, ⟨false, .ints .u8 64 g3⟩, ⟨false, .ints .i64 2 g4⟩, ⟨false, .ints .u8 1104 g5⟩] K = (impl_pairs_f N (fun d0 d1 => K (.tup []) [⟨false, .ints .u8 64 g0⟩, ⟨true, .avs [.sptr [(5, 64)]]⟩, ⟨true, .avs [.sptr [(6, 2), (7, 1104)]]⟩, ⟨true, .ints .i64 2 d0⟩, ⟨true, .ints .u8 64 d1⟩, ⟨false, .ints .u8 64 g3⟩, ⟨false, .ints .i64 2 g4⟩, ⟨false, .ints .u8 1104 g5⟩]) g0 g1 g2 g3 g4 g5) := by
  refine (impl_pairs_f.s_eq N K g0 g1 g2 g3 g4 g5).trans ?_
  simp only [impl_pairs_f.l0_eq, impl_pairs_f.a0_0_eq]
  kernel_rfl

noncomputable def impl_pairs_f.en (N : Nat) (ρ : Type) : List AV → Heap → (AV → Heap → Option ρ) → Option ρ
  | [.sptr [(0, 64)], .fn 31 0 [[(1, 1)], [(2, 1)], [(3, 2)], [(4, 64)]]], [⟨false, .ints .u8 64 g0⟩, ⟨true, .avs [.sptr [(5, 64)]]⟩, ⟨true, .avs [.sptr [(6, 2), (7, 1104)]]⟩, ⟨true, .ints .i64 2 g1⟩, ⟨true, .ints .u8 64 g2⟩, ⟨false, .ints .u8 64 g3⟩, ⟨false, .ints .i64 2 g4⟩, ⟨false, .ints .u8 1104 g5⟩], K => (impl_pairs_f N (fun d0 d1 => K (.tup []) [⟨false, .ints .u8 64 g0⟩, ⟨true, .avs [.sptr [(5, 64)]]⟩, ⟨true, .avs [.sptr [(6, 2), (7, 1104)]]⟩, ⟨true, .ints .i64 2 d0⟩, ⟨true, .ints .u8 64 d1⟩, ⟨false, .ints .u8 64 g3⟩, ⟨false, .ints .i64 2 g4⟩, ⟨false, .ints .u8 1104 g5⟩]) g0 g1 g2 g3 g4 g5)
  | args, sh, K => (E23 N).fn 30 ρ args sh K

theorem impl_pairs_f.en_ok (N : Nat) (hE : EnvOk (E23 N) ents) (ρ : Type) (args : List AV) (sh : Heap) (K : AV → Heap → Option ρ) (r : ρ) (h : impl_pairs_f.en N ρ args sh K = some r) : ∃ v sh', K v sh' = some r ∧ FnOk (E23 N).P 30 args sh v sh' := by
  unfold impl_pairs_f.en at h
  split at h
  · exact fn_ok hE (kp := impl_pairs_f.kp) (N := N) Go.Proofs.Try.func30 (c := impl_pairs_f.bd) (by kernel_rfl) ((impl_pairs_f.eq N _ _ _ _ _ _ _).trans h)
  · exact hE.spec _ _ _ _ _ _ h

noncomputable def E24 (N : Nat) : Env := (E23 N).add 30 (impl_pairs_f.en N)

theorem E24_ok (N : Nat) : EnvOk (E24 N) ents := Env.add_ok (E23_ok N) (impl_pairs_f.en_ok N (E23_ok N))

noncomputable def impl_Hopf_tensor.kp : Keeps := ⟨[], []⟩

noncomputable def impl_Hopf_tensor.bd : Code := bodyOf Go.Proofs.Try.f24

noncomputable def impl_Hopf_tensor.fin {ρ : Type} (N : Nat) (K : AV → Heap → Option ρ) (g0 : Nat → Int) (g1 : Nat → Int) (g2 : Nat → Int) (g3 : Nat → Int) : XE → St → Option ρ := finK (E24 N) Go.Proofs.Try.f24 [⟨false, .ints .i64 2 g0⟩, ⟨false, .ints .u8 1104 g1⟩, ⟨false, .ints .u8 64 g2⟩, ⟨false, .ints .u8 64 g3⟩] K

theorem impl_Hopf_tensor.eq {ρ : Type} (N : Nat) (K : AV → Heap → Option ρ) (g0 : Nat → Int) (g1 : Nat → Int) (g2 : Nat → Int) (g3 : Nat → Int) :
    xbody (E24 N) ents impl_Hopf_tensor.kp N Go.Proofs.Try.f24 impl_Hopf_tensor.bd [.sptr [(0, 2), (1, 1104)], .sptr [(2, 64)], .sptr [(3, 64)]] [⟨false, .ints .i64 2 g0⟩, ⟨false, .ints .u8 1104 g1⟩, ⟨false, .ints .u8 64 g2⟩, ⟨false, .ints .u8 64 g3⟩] K = (impl_Hopf_tensor N (fun d0 => K (.agg [⟨.u8, 64, d0⟩]) [⟨false, .ints .i64 2 g0⟩, ⟨false, .ints .u8 1104 g1⟩, ⟨false, .ints .u8 64 g2⟩, ⟨false, .ints .u8 64 g3⟩]) g0 g1 g2 g3) := by kernel_rfl

noncomputable def impl_Hopf_tensor.en (N : Nat) (ρ : Type) : List AV → Heap → (AV → Heap → Option ρ) → Option ρ
  | [.sptr [(0, 2), (1, 1104)], .sptr [(2, 64)], .sptr [(3, 64)]], [⟨false, .ints .i64 2 g0⟩, ⟨false, .ints .u8 1104 g1⟩, ⟨false, .ints .u8 64 g2⟩, ⟨false, .ints .u8 64 g3⟩], K => (impl_Hopf_tensor N (fun d0 => K (.agg [⟨.u8, 64, d0⟩]) [⟨false, .ints .i64 2 g0⟩, ⟨false, .ints .u8 1104 g1⟩, ⟨false, .ints .u8 64 g2⟩, ⟨false, .ints .u8 64 g3⟩]) g0 g1 g2 g3)
  | _, _, _ => none

theorem impl_Hopf_tensor.en_ok (N : Nat) (hE : EnvOk (E24 N) ents) (ρ : Type) (args : List AV) (sh : Heap) (K : AV → Heap → Option ρ) (r : ρ) (h : impl_Hopf_tensor.en N ρ args sh K = some r) : ∃ v sh', K v sh' = some r ∧ FnOk (E24 N).P 24 args sh v sh' := by
  unfold impl_Hopf_tensor.en at h
  split at h
  · exact fn_ok hE (kp := impl_Hopf_tensor.kp) (N := N) Go.Proofs.Try.func24 (c := impl_Hopf_tensor.bd) (by kernel_rfl) ((impl_Hopf_tensor.eq N _ _ _ _ _).trans h)
  · cases h

noncomputable def E25 (N : Nat) : Env := (E24 N).add 24 (impl_Hopf_tensor.en N)

theorem E25_ok (N : Nat) : EnvOk (E25 N) ents := Env.add_ok (E24_ok N) (impl_Hopf_tensor.en_ok N (E24_ok N))

noncomputable def impl_Hopf_product.kp : Keeps := ⟨[(0, [0, 4, 5, 6, 7, 8, 15, 16], 7), (2, [0, 4, 5, 6, 7, 8, 9, 15, 16, 24, 25], 7)], [(0, [6, 8], 7), (2, [0, 4, 5, 6, 7, 8, 15, 16], 7)]⟩

noncomputable def impl_Hopf_product.bd : Code := bodyOf Go.Proofs.Try.f25

noncomputable def impl_Hopf_product.fin {ρ : Type} (N : Nat) (K : AV → Heap → Option ρ) (g2 : Nat → Int) (g3 : Nat → Int) : XE → St → Option ρ := finK (E25 N) Go.Proofs.Try.f25 [⟨false, .ints .i64 2 g2⟩, ⟨false, .ints .u8 1104 g3⟩] K

noncomputable def impl_Hopf_product.k0 {ρ : Type} (N : Nat) (K : AV → Heap → Option ρ) (g2 : Nat → Int) (g3 : Nat → Int) : XE → St → Option ρ := (blockK impl_Hopf_product.kp 2 0 (seqK (xcode (E25 N) ents impl_Hopf_product.kp 2 N (cB (cB (cB impl_Hopf_product.bd))) 0) (impl_Hopf_product.fin N K g2 g3)))

theorem impl_Hopf_product.k0_mix {ρ : Type} (N : Nat) (K : AV → Heap → Option ρ) (g2 : Nat → Int) (g3 : Nat → Int) : mixK (impl_Hopf_product.fin N K g2 g3 .ret) (impl_Hopf_product.k0 N K g2 g3) = (impl_Hopf_product.k0 N K g2 g3) := by
  funext e s; cases e <;> rfl

noncomputable def impl_Hopf_product.st0 (v0 : Nat → Int) (w1 : Nat → Int) (g2 : Nat → Int) (g3 : Nat → Int) (r4 : Nat → Int) (x5 : Int) (g6 : Nat → Int) : St := ⟨sl 50 [(0, .sptr [(0, 2), (1, 1104)]), (4, .sptr [(2, 8)]), (5, .sptr [(3, 8)]), (6, .sptr [(4, 8)]), (7, .sptr [(5, 2)]), (8, .sptr [(6, 8)]), (15, .int .i64 ((r4 1))), (16, .int .i64 (x5))], [⟨false, .ints .i64 2 g2⟩, ⟨false, .ints .u8 1104 g3⟩, ⟨true, .ints .u8 8 v0⟩, ⟨true, .ints .u8 8 w1⟩, ⟨true, .ints .u8 8 (fun _ => 0)⟩, ⟨true, .ints .i64 2 r4⟩, ⟨true, .ints .u8 8 g6⟩]⟩

noncomputable def impl_Hopf_product.sx0_0 (v0 : Nat → Int) (w1 : Nat → Int) (g2 : Nat → Int) (g3 : Nat → Int) (r4 : Nat → Int) (o11 : Nat → Int) : St := ⟨sl 50 [(6, .sptr [(4, 8)]), (8, .sptr [(6, 8)])], [⟨false, .ints .i64 2 g2⟩, ⟨false, .ints .u8 1104 g3⟩, ⟨true, .ints .u8 8 v0⟩, ⟨true, .ints .u8 8 w1⟩, ⟨true, .ints .u8 8 (fun _ => 0)⟩, ⟨true, .ints .i64 2 r4⟩, ⟨true, .ints .u8 8 o11⟩]⟩

noncomputable def impl_Hopf_product.k1g {ρ : Type} (N : Nat) (L0 : St → Option ρ) (kv : XE → St → Option ρ) : XE → St → Option ρ := (blockK impl_Hopf_product.kp 2 2 (blockK impl_Hopf_product.kp 2 1 (seqK (xcode (E25 N) ents impl_Hopf_product.kp 2 N (cB (cB (cB (cL (cK (cB (cA (cB (cB impl_Hopf_product.bd))))))))) 0) (roundK impl_Hopf_product.kp 2 0 L0 kv))))

theorem impl_Hopf_product.k1_mix {ρ : Type} (N : Nat) (K : AV → Heap → Option ρ) (L0 : St → Option ρ) (g2 : Nat → Int) (g3 : Nat → Int) : mixK (impl_Hopf_product.fin N K g2 g3 .ret) (impl_Hopf_product.k1g N L0 (impl_Hopf_product.k0 N K g2 g3)) = (impl_Hopf_product.k1g N L0 (impl_Hopf_product.k0 N K g2 g3)) := by
  funext e s; cases e <;> rfl

noncomputable def impl_Hopf_product.st1 (v0 : Nat → Int) (w1 : Nat → Int) (g2 : Nat → Int) (g3 : Nat → Int) (r4 : Nat → Int) (x5 : Int) (x7 : Int) (g8 : Nat → Int) : St := ⟨sl 50 [(0, .sptr [(0, 2), (1, 1104)]), (4, .sptr [(2, 8)]), (5, .sptr [(3, 8)]), (6, .sptr [(4, 8)]), (7, .sptr [(5, 2)]), (8, .sptr [(6, 8)]), (9, .int .i64 (x5)), (15, .int .i64 ((r4 1))), (16, .int .i64 (x5)), (24, .int .i64 ((r4 1))), (25, .int .i64 (x7))], [⟨false, .ints .i64 2 g2⟩, ⟨false, .ints .u8 1104 g3⟩, ⟨true, .ints .u8 8 v0⟩, ⟨true, .ints .u8 8 w1⟩, ⟨true, .ints .u8 8 (fun _ => 0)⟩, ⟨true, .ints .i64 2 r4⟩, ⟨true, .ints .u8 8 g8⟩]⟩

noncomputable def impl_Hopf_product.sx1_0 (v0 : Nat → Int) (w1 : Nat → Int) (g2 : Nat → Int) (g3 : Nat → Int) (r4 : Nat → Int) (x5 : Int) (o10 : Nat → Int) : St := ⟨sl 50 [(0, .sptr [(0, 2), (1, 1104)]), (4, .sptr [(2, 8)]), (5, .sptr [(3, 8)]), (6, .sptr [(4, 8)]), (7, .sptr [(5, 2)]), (8, .sptr [(6, 8)]), (15, .int .i64 ((r4 1))), (16, .int .i64 (x5))], [⟨false, .ints .i64 2 g2⟩, ⟨false, .ints .u8 1104 g3⟩, ⟨true, .ints .u8 8 v0⟩, ⟨true, .ints .u8 8 w1⟩, ⟨true, .ints .u8 8 (fun _ => 0)⟩, ⟨true, .ints .i64 2 r4⟩, ⟨true, .ints .u8 8 o10⟩]⟩

theorem impl_Hopf_product.b1_gen {ρ : Type} (N : Nat) (K : AV → Heap → Option ρ) (L1 : St → Option ρ) (kv : XE → St → Option ρ) (v0 : Nat → Int) (w1 : Nat → Int) (g2 : Nat → Int) (g3 : Nat → Int) (r4 : Nat → Int) (x5 : Int) (x7 : Int) (g8 : Nat → Int) :
    xcode (E25 N) ents impl_Hopf_product.kp 2 N (cL (cK (cB (cB (cB (cK (cA (cB (cB (cL (cK (cB (cA (cB (cB impl_Hopf_product.bd))))))))))))))) 2 (impl_Hopf_product.st1 v0 w1 g2 g3 r4 x5 x7 g8) (roundK impl_Hopf_product.kp 2 2 L1 (mixK (impl_Hopf_product.fin N K g2 g3 .ret) kv)) = (impl_Hopf_product.b1 N (fun d0 => K (.agg [⟨.u8, 8, d0⟩]) [⟨false, .ints .i64 2 g2⟩, ⟨false, .ints .u8 1104 g3⟩]) (fun x7 g8 => L1 (impl_Hopf_product.st1 v0 w1 g2 g3 r4 x5 x7 g8)) (fun o10 => kv (.exit 2) (impl_Hopf_product.sx1_0 v0 w1 g2 g3 r4 x5 o10)) v0 w1 g3 r4 x5 x7 g8) := by kernel_rfl

theorem impl_Hopf_product.b1_eq {ρ : Type} (N : Nat) (K : AV → Heap → Option ρ) (L0 : St → Option ρ) (L1 : St → Option ρ) (v0 : Nat → Int) (w1 : Nat → Int) (g2 : Nat → Int) (g3 : Nat → Int) (r4 : Nat → Int) (x5 : Int) (x7 : Int) (g8 : Nat → Int) :
    xcode (E25 N) ents impl_Hopf_product.kp 2 N (cL (cK (cB (cB (cB (cK (cA (cB (cB (cL (cK (cB (cA (cB (cB impl_Hopf_product.bd))))))))))))))) 2 (impl_Hopf_product.st1 v0 w1 g2 g3 r4 x5 x7 g8) (roundK impl_Hopf_product.kp 2 2 L1 (impl_Hopf_product.k1g N L0 (impl_Hopf_product.k0 N K g2 g3))) = (impl_Hopf_product.b1 N (fun d0 => K (.agg [⟨.u8, 8, d0⟩]) [⟨false, .ints .i64 2 g2⟩, ⟨false, .ints .u8 1104 g3⟩]) (fun x7 g8 => L1 (impl_Hopf_product.st1 v0 w1 g2 g3 r4 x5 x7 g8)) (fun o10 => (impl_Hopf_product.k1g N L0 (impl_Hopf_product.k0 N K g2 g3)) (.exit 2) (impl_Hopf_product.sx1_0 v0 w1 g2 g3 r4 x5 o10)) v0 w1 g3 r4 x5 x7 g8) := by
  have h := impl_Hopf_product.b1_gen N K L1 (impl_Hopf_product.k1g N L0 (impl_Hopf_product.k0 N K g2 g3)) v0 w1 g2 g3 r4 x5 x7 g8
  rw [impl_Hopf_product.k1_mix] at h
  exact h

theorem impl_Hopf_product.a1_0_gen {ρ : Type} (N : Nat) (K : AV → Heap → Option ρ) (L0 : St → Option ρ) (kv : XE → St → Option ρ) (v0 : Nat → Int) (w1 : Nat → Int) (g2 : Nat → Int) (g3 : Nat → Int) (r4 : Nat → Int) (x5 : Int) (o10 : Nat → Int) :
    (impl_Hopf_product.k1g N L0 (mixK (impl_Hopf_product.fin N K g2 g3 .ret) kv)) (.exit 2) (impl_Hopf_product.sx1_0 v0 w1 g2 g3 r4 x5 o10) = (impl_Hopf_product.a1_0 N (fun d0 => K (.agg [⟨.u8, 8, d0⟩]) [⟨false, .ints .i64 2 g2⟩, ⟨false, .ints .u8 1104 g3⟩]) (fun x5 g6 => L0 (impl_Hopf_product.st0 v0 w1 g2 g3 r4 x5 g6)) (fun o11 => kv (.exit 0) (impl_Hopf_product.sx0_0 v0 w1 g2 g3 r4 o11)) x5 o10) := by kernel_rfl

theorem impl_Hopf_product.a1_0_eq {ρ : Type} (N : Nat) (K : AV → Heap → Option ρ) (L0 : St → Option ρ) (v0 : Nat → Int) (w1 : Nat → Int) (g2 : Nat → Int) (g3 : Nat → Int) (r4 : Nat → Int) (x5 : Int) (o10 : Nat → Int) :
    (impl_Hopf_product.k1g N L0 (impl_Hopf_product.k0 N K g2 g3)) (.exit 2) (impl_Hopf_product.sx1_0 v0 w1 g2 g3 r4 x5 o10) = (impl_Hopf_product.a1_0 N (fun d0 => K (.agg [⟨.u8, 8, d0⟩]) [⟨false, .ints .i64 2 g2⟩, ⟨false, .ints .u8 1104 g3⟩]) (fun x5 g6 => L0 (impl_Hopf_product.st0 v0 w1 g2 g3 r4 x5 g6)) (fun o11 => (impl_Hopf_product.k0 N K g2 g3) (.exit 0) (impl_Hopf_product.sx0_0 v0 w1 g2 g3 r4 o11)) x5 o10) := by
  have h := impl_Hopf_product.a1_0_gen N K L0 (impl_Hopf_product.k0 N K g2 g3) v0 w1 g2 g3 r4 x5 o10
  rw [impl_Hopf_product.k0_mix] at h
  exact h

theorem impl_Hopf_product.b0_gen {ρ : Type} (N : Nat) (K : AV → Heap → Option ρ) (L0 : St → Option ρ) (kv : XE → St → Option ρ) (v0 : Nat → Int) (w1 : Nat → Int) (g2 : Nat → Int) (g3 : Nat → Int) (r4 : Nat → Int) (x5 : Int) (g6 : Nat → Int) :
    xcode (E25 N) ents impl_Hopf_product.kp 2 N (cL (cK (cB (cA (cB (cB impl_Hopf_product.bd)))))) 0 (impl_Hopf_product.st0 v0 w1 g2 g3 r4 x5 g6) (roundK impl_Hopf_product.kp 2 0 L0 (mixK (impl_Hopf_product.fin N K g2 g3 .ret) kv)) = (impl_Hopf_product.b0 N (fun d0 => K (.agg [⟨.u8, 8, d0⟩]) [⟨false, .ints .i64 2 g2⟩, ⟨false, .ints .u8 1104 g3⟩]) (fun x7 g8 => xloop (xcode (E25 N) ents impl_Hopf_product.kp 2 N (cL (cK (cB (cB (cB (cK (cA (cB (cB (cL (cK (cB (cA (cB (cB impl_Hopf_product.bd))))))))))))))) 2) impl_Hopf_product.kp 2 2 N (impl_Hopf_product.st1 v0 w1 g2 g3 r4 x5 x7 g8) (impl_Hopf_product.k1g N L0 (mixK (impl_Hopf_product.fin N K g2 g3 .ret) kv))) (fun x5 g6 => L0 (impl_Hopf_product.st0 v0 w1 g2 g3 r4 x5 g6)) (fun o11 => kv (.exit 0) (impl_Hopf_product.sx0_0 v0 w1 g2 g3 r4 o11)) v0 r4 x5 g6) := by kernel_rfl

theorem impl_Hopf_product.b0_eq {ρ : Type} (N : Nat) (K : AV → Heap → Option ρ) (L0 : St → Option ρ) (v0 : Nat → Int) (w1 : Nat → Int) (g2 : Nat → Int) (g3 : Nat → Int) (r4 : Nat → Int) (x5 : Int) (g6 : Nat → Int) :
    xcode (E25 N) ents impl_Hopf_product.kp 2 N (cL (cK (cB (cA (cB (cB impl_Hopf_product.bd)))))) 0 (impl_Hopf_product.st0 v0 w1 g2 g3 r4 x5 g6) (roundK impl_Hopf_product.kp 2 0 L0 (impl_Hopf_product.k0 N K g2 g3)) = (impl_Hopf_product.b0 N (fun d0 => K (.agg [⟨.u8, 8, d0⟩]) [⟨false, .ints .i64 2 g2⟩, ⟨false, .ints .u8 1104 g3⟩]) (fun x7 g8 => xloop (xcode (E25 N) ents impl_Hopf_product.kp 2 N (cL (cK (cB (cB (cB (cK (cA (cB (cB (cL (cK (cB (cA (cB (cB impl_Hopf_product.bd))))))))))))))) 2) impl_Hopf_product.kp 2 2 N (impl_Hopf_product.st1 v0 w1 g2 g3 r4 x5 x7 g8) (impl_Hopf_product.k1g N L0 (impl_Hopf_product.k0 N K g2 g3))) (fun x5 g6 => L0 (impl_Hopf_product.st0 v0 w1 g2 g3 r4 x5 g6)) (fun o11 => (impl_Hopf_product.k0 N K g2 g3) (.exit 0) (impl_Hopf_product.sx0_0 v0 w1 g2 g3 r4 o11)) v0 r4 x5 g6) := by
  have h := impl_Hopf_product.b0_gen N K L0 (impl_Hopf_product.k0 N K g2 g3) v0 w1 g2 g3 r4 x5 g6
  rw [impl_Hopf_product.k0_mix] at h
  exact h

theorem impl_Hopf_product.a0_0_eq {ρ : Type} (N : Nat) (K : AV → Heap → Option ρ) (v0 : Nat → Int) (w1 : Nat → Int) (g2 : Nat → Int) (g3 : Nat → Int) (r4 : Nat → Int) (o11 : Nat → Int) :
    (impl_Hopf_product.k0 N K g2 g3) (.exit 0) (impl_Hopf_product.sx0_0 v0 w1 g2 g3 r4 o11) = (impl_Hopf_product.a0_0 N (fun d0 => K (.agg [⟨.u8, 8, d0⟩]) [⟨false, .ints .i64 2 g2⟩, ⟨false, .ints .u8 1104 g3⟩]) o11) := by kernel_rfl

theorem impl_Hopf_product.l1_eq {ρ : Type} (N : Nat) (K : AV → Heap → Option ρ) (L0 : St → Option ρ) (v0 : Nat → Int) (w1 : Nat → Int) (g2 : Nat → Int) (g3 : Nat → Int) (r4 : Nat → Int) (x5 : Int) :
    ∀ (m : Nat) (x7 : Int) (g8 : Nat → Int), xloop (xcode (E25 N) ents impl_Hopf_product.kp 2 N (cL (cK (cB (cB (cB (cK (cA (cB (cB (cL (cK (cB (cA (cB (cB impl_Hopf_product.bd))))))))))))))) 2) impl_Hopf_product.kp 2 2 m (impl_Hopf_product.st1 v0 w1 g2 g3 r4 x5 x7 g8) (impl_Hopf_product.k1g N L0 (impl_Hopf_product.k0 N K g2 g3)) = (impl_Hopf_product.l1 N (fun d0 => K (.agg [⟨.u8, 8, d0⟩]) [⟨false, .ints .i64 2 g2⟩, ⟨false, .ints .u8 1104 g3⟩]) v0 w1 g3 r4 x5 (fun o10 => (impl_Hopf_product.k1g N L0 (impl_Hopf_product.k0 N K g2 g3)) (.exit 2) (impl_Hopf_product.sx1_0 v0 w1 g2 g3 r4 x5 o10)) m x7 g8) := by
  intro m
  induction m with
  | zero => intros; rfl
  | succ m ih =>
    intro x7 g8
    refine (impl_Hopf_product.b1_eq N K L0 (fun s => xloop (xcode (E25 N) ents impl_Hopf_product.kp 2 N (cL (cK (cB (cB (cB (cK (cA (cB (cB (cL (cK (cB (cA (cB (cB impl_Hopf_product.bd))))))))))))))) 2) impl_Hopf_product.kp 2 2 m s (impl_Hopf_product.k1g N L0 (impl_Hopf_product.k0 N K g2 g3))) v0 w1 g2 g3 r4 x5 x7 g8).trans ?_
    simp only [ih]
    kernel_rfl

theorem impl_Hopf_product.l0_eq {ρ : Type} (N : Nat) (K : AV → Heap → Option ρ) (v0 : Nat → Int) (w1 : Nat → Int) (g2 : Nat → Int) (g3 : Nat → Int) (r4 : Nat → Int) :
    ∀ (m : Nat) (x5 : Int) (g6 : Nat → Int), xloop (xcode (E25 N) ents impl_Hopf_product.kp 2 N (cL (cK (cB (cA (cB (cB impl_Hopf_product.bd)))))) 0) impl_Hopf_product.kp 2 0 m (impl_Hopf_product.st0 v0 w1 g2 g3 r4 x5 g6) (impl_Hopf_product.k0 N K g2 g3) = (impl_Hopf_product.l0 N (fun d0 => K (.agg [⟨.u8, 8, d0⟩]) [⟨false, .ints .i64 2 g2⟩, ⟨false, .ints .u8 1104 g3⟩]) v0 w1 g3 r4 (fun o11 => (impl_Hopf_product.k0 N K g2 g3) (.exit 0) (impl_Hopf_product.sx0_0 v0 w1 g2 g3 r4 o11)) m x5 g6) := by
  intro m
  induction m with
  | zero => intros; rfl
  | succ m ih =>
    intro x5 g6
    refine (impl_Hopf_product.b0_eq N K (fun s => xloop (xcode (E25 N) ents impl_Hopf_product.kp 2 N (cL (cK (cB (cA (cB (cB impl_Hopf_product.bd)))))) 0) impl_Hopf_product.kp 2 0 m s (impl_Hopf_product.k0 N K g2 g3)) v0 w1 g2 g3 r4 x5 g6).trans ?_
    simp only [ih, impl_Hopf_product.l1_eq, impl_Hopf_product.a1_0_eq]
    kernel_rfl

theorem impl_Hopf_product.s_eq {ρ : Type} (N : Nat) (K : AV → Heap → Option ρ) (v0 : Nat → Int) (w1 : Nat → Int) (g2 : Nat → Int) (g3 : Nat → Int) :
    xbody (E25 N) ents impl_Hopf_product.kp N Go.Proofs.Try.f25 impl_Hopf_product.bd [.sptr [(0, 2), (1, 1104)], .agg [⟨.u8, 8, v0⟩], .agg [⟨.u8, 8, w1⟩]] [⟨false, .ints .i64 2 g2⟩, ⟨false, .ints .u8 1104 g3⟩] K = (impl_Hopf_product.s N (fun d0 => K (.agg [⟨.u8, 8, d0⟩]) [⟨false, .ints .i64 2 g2⟩, ⟨false, .ints .u8 1104 g3⟩]) (fun r4 x5 g6 => xloop (xcode (E25 N) ents impl_Hopf_product.kp 2 N (cL (cK (cB (cA (cB (cB impl_Hopf_product.bd)))))) 0) impl_Hopf_product.kp 2 0 N (impl_Hopf_product.st0 v0 w1 g2 g3 r4 x5 g6) (impl_Hopf_product.k0 N K g2 g3)) g2 g3) := by kernel_rfl

theorem impl_Hopf_product.eq {ρ : Type} (N : Nat) (K : AV → Heap → Option ρ) (v0 : Nat → Int) (w1 : Nat → Int) (g2 : Nat → Int) (g3 : Nat → Int) :
    xbody (E25 N) ents impl_Hopf_product.kp N Go.Proofs.Try.f25 impl_Hopf_product.bd [.sptr [(0, 2), (1, 1104)], .agg [⟨.u8, 8, v0⟩], .agg [⟨.u8, 8, w1⟩]] [⟨false, .ints .i64 2 g2⟩, ⟨false, .ints .u8 1104 g3⟩] K = (impl_Hopf_product N (fun d0 => K (.agg [⟨.u8, 8, d0⟩]) [⟨false, .ints .i64 2 g2⟩, ⟨false, .ints .u8 1104 g3⟩]) v0 w1 g2 g3) := by
  refine (impl_Hopf_product.s_eq N K v0 w1 g2 g3).trans ?_
  simp only [impl_Hopf_product.l0_eq, impl_Hopf_product.a0_0_eq]
  kernel_rfl

noncomputable def impl_Hopf_product.en (N : Nat) (ρ : Type) : List AV → Heap → (AV → Heap → Option ρ) → Option ρ
  | [.sptr [(0, 2), (1, 1104)], .agg [⟨.u8, 8, v0⟩], .agg [⟨.u8, 8, w1⟩]], [⟨false, .ints .i64 2 g2⟩, ⟨false, .ints .u8 1104 g3⟩], K => (impl_Hopf_product N (fun d0 => K (.agg [⟨.u8, 8, d0⟩]) [⟨false, .ints .i64 2 g2⟩, ⟨false, .ints .u8 1104 g3⟩]) v0 w1 g2 g3)
  | _, _, _ => none

theorem impl_Hopf_product.en_ok (N : Nat) (hE : EnvOk (E25 N) ents) (ρ : Type) (args : List AV) (sh : Heap) (K : AV → Heap → Option ρ) (r : ρ) (h : impl_Hopf_product.en N ρ args sh K = some r) : ∃ v sh', K v sh' = some r ∧ FnOk (E25 N).P 25 args sh v sh' := by
  unfold impl_Hopf_product.en at h
  split at h
  · exact fn_ok hE (kp := impl_Hopf_product.kp) (N := N) Go.Proofs.Try.func25 (c := impl_Hopf_product.bd) (by kernel_rfl) ((impl_Hopf_product.eq N _ _ _ _ _).trans h)
  · cases h

noncomputable def E26 (N : Nat) : Env := (E25 N).add 25 (impl_Hopf_product.en N)

theorem E26_ok (N : Nat) : EnvOk (E26 N) ents := Env.add_ok (E25_ok N) (impl_Hopf_product.en_ok N (E25_ok N))

noncomputable def impl_signed.kp : Keeps := ⟨[(0, [4, 5, 6, 25, 26], 5), (2, [4, 5, 6, 7, 25, 26, 30, 31], 5), (4, [4, 5, 6, 11, 61, 62], 6), (6, [4, 5, 6, 11, 12, 13, 14, 61, 62, 78, 79, 80], 9)], [(0, [4, 5, 6], 5), (2, [4, 5, 6, 25, 26], 5), (4, [4, 5], 6), (6, [4, 5, 6, 11, 12, 13, 14, 61, 62], 9)]⟩

noncomputable def impl_signed.bd : Code := bodyOf Go.Proofs.Try.f10

noncomputable def impl_signed.fin {ρ : Type} (N : Nat) (K : AV → Heap → Option ρ) : XE → St → Option ρ := finK (E26 N) Go.Proofs.Try.f10 [] K

noncomputable def impl_signed.k0 {ρ : Type} (N : Nat) (K : AV → Heap → Option ρ) : XE → St → Option ρ := (blockK impl_signed.kp 0 0 (seqK (xcode (E26 N) ents impl_signed.kp 0 N (cB (cB (cB (cB impl_signed.bd)))) 0) (impl_signed.fin N K)))

theorem impl_signed.k0_mix {ρ : Type} (N : Nat) (K : AV → Heap → Option ρ) : mixK (impl_signed.fin N K .ret) (impl_signed.k0 N K) = (impl_signed.k0 N K) := by
  funext e s; cases e <;> rfl

noncomputable def impl_signed.st0 (p0 : Int) (size1 : Int) (r4 : Nat → Int) (x5 : Int) (g6 : Nat → Int) : St := ⟨sl 114 [(4, .sptr [(0, 2), (1, 1104)]), (5, .sptr [(2, 2), (3, 1104)]), (6, .sptr [(4, 2)]), (25, .int .i64 ((r4 1))), (26, .int .i64 (x5))], [⟨true, .ints .i64 2 (fun _ => 0)⟩, ⟨true, .ints .u8 1104 (fun _ => 0)⟩, ⟨true, .ints .i64 2 (upd (upd (fun _ => 0) 0 p0) 1 size1)⟩, ⟨true, .ints .u8 1104 g6⟩, ⟨true, .ints .i64 2 r4⟩]⟩

noncomputable def impl_signed.sx0_0 (p0 : Int) (size1 : Int) (r4 : Nat → Int) (o14 : Nat → Int) : St := ⟨sl 114 [(4, .sptr [(0, 2), (1, 1104)]), (5, .sptr [(2, 2), (3, 1104)]), (6, .sptr [(4, 2)])], [⟨true, .ints .i64 2 (fun _ => 0)⟩, ⟨true, .ints .u8 1104 (fun _ => 0)⟩, ⟨true, .ints .i64 2 (upd (upd (fun _ => 0) 0 p0) 1 size1)⟩, ⟨true, .ints .u8 1104 o14⟩, ⟨true, .ints .i64 2 r4⟩]⟩

noncomputable def impl_signed.k1g {ρ : Type} (N : Nat) (L0 : St → Option ρ) (kv : XE → St → Option ρ) : XE → St → Option ρ := (blockK impl_signed.kp 0 2 (blockK impl_signed.kp 0 1 (seqK (xcode (E26 N) ents impl_signed.kp 0 N (cB (cB (cB (cL (cK (cB (cA (cB (cB (cB impl_signed.bd)))))))))) 0) (roundK impl_signed.kp 0 0 L0 kv))))

theorem impl_signed.k1_mix {ρ : Type} (N : Nat) (K : AV → Heap → Option ρ) (L0 : St → Option ρ) : mixK (impl_signed.fin N K .ret) (impl_signed.k1g N L0 (impl_signed.k0 N K)) = (impl_signed.k1g N L0 (impl_signed.k0 N K)) := by
  funext e s; cases e <;> rfl

noncomputable def impl_signed.st1 (p0 : Int) (size1 : Int) (r4 : Nat → Int) (x5 : Int) (x7 : Int) (g8 : Nat → Int) : St := ⟨sl 114 [(4, .sptr [(0, 2), (1, 1104)]), (5, .sptr [(2, 2), (3, 1104)]), (6, .sptr [(4, 2)]), (7, .int .i64 (x5)), (25, .int .i64 ((r4 1))), (26, .int .i64 (x5)), (30, .int .i64 ((r4 1))), (31, .int .i64 (x7))], [⟨true, .ints .i64 2 (fun _ => 0)⟩, ⟨true, .ints .u8 1104 (fun _ => 0)⟩, ⟨true, .ints .i64 2 (upd (upd (fun _ => 0) 0 p0) 1 size1)⟩, ⟨true, .ints .u8 1104 g8⟩, ⟨true, .ints .i64 2 r4⟩]⟩

noncomputable def impl_signed.sx1_0 (p0 : Int) (size1 : Int) (r4 : Nat → Int) (x5 : Int) (o13 : Nat → Int) : St := ⟨sl 114 [(4, .sptr [(0, 2), (1, 1104)]), (5, .sptr [(2, 2), (3, 1104)]), (6, .sptr [(4, 2)]), (25, .int .i64 ((r4 1))), (26, .int .i64 (x5))], [⟨true, .ints .i64 2 (fun _ => 0)⟩, ⟨true, .ints .u8 1104 (fun _ => 0)⟩, ⟨true, .ints .i64 2 (upd (upd (fun _ => 0) 0 p0) 1 size1)⟩, ⟨true, .ints .u8 1104 o13⟩, ⟨true, .ints .i64 2 r4⟩]⟩

noncomputable def impl_signed.k2 {ρ : Type} (N : Nat) (K : AV → Heap → Option ρ) : XE → St → Option ρ := (blockK impl_signed.kp 0 4 (seqK (xcode (E26 N) ents impl_signed.kp 0 N (cB (cB (cB (cB (cB (cB (cB impl_signed.bd))))))) 0) (impl_signed.fin N K)))

theorem impl_signed.k2_mix {ρ : Type} (N : Nat) (K : AV → Heap → Option ρ) : mixK (impl_signed.fin N K .ret) (impl_signed.k2 N K) = (impl_signed.k2 N K) := by
  funext e s; cases e <;> rfl

noncomputable def impl_signed.st2 (p0 : Int) (size1 : Int) (r4 : Nat → Int) (r17 : Nat → Int) (x18 : Int) (g19 : Nat → Int) : St := ⟨sl 114 [(4, .sptr [(0, 2), (1, 1104)]), (5, .sptr [(2, 2), (3, 1104)]), (6, .sptr [(4, 2)]), (11, .sptr [(5, 64)]), (61, .int .i64 ((r4 1))), (62, .int .i64 (x18))], [⟨true, .ints .i64 2 (fun _ => 0)⟩, ⟨true, .ints .u8 1104 (fun _ => 0)⟩, ⟨true, .ints .i64 2 (upd (upd (fun _ => 0) 0 p0) 1 size1)⟩, ⟨true, .ints .u8 1104 g19⟩, ⟨true, .ints .i64 2 r4⟩, ⟨true, .ints .u8 64 r17⟩]⟩

noncomputable def impl_signed.sx2_0 (p0 : Int) (size1 : Int) (r4 : Nat → Int) (r17 : Nat → Int) (o41 : Nat → Int) : St := ⟨sl 114 [(4, .sptr [(0, 2), (1, 1104)]), (5, .sptr [(2, 2), (3, 1104)])], [⟨true, .ints .i64 2 (fun _ => 0)⟩, ⟨true, .ints .u8 1104 (fun _ => 0)⟩, ⟨true, .ints .i64 2 (upd (upd (fun _ => 0) 0 p0) 1 size1)⟩, ⟨true, .ints .u8 1104 o41⟩, ⟨true, .ints .i64 2 r4⟩, ⟨true, .ints .u8 64 r17⟩]⟩

noncomputable def impl_signed.k3g {ρ : Type} (N : Nat) (L2 : St → Option ρ) (kv : XE → St → Option ρ) : XE → St → Option ρ := (blockK impl_signed.kp 0 6 (seqK (xcode (E26 N) ents impl_signed.kp 0 N (cB (cB (cB (cB (cK (cA (cB (cB (cL (cK (cB (cA (cB (cB (cB (cB (cB (cB impl_signed.bd)))))))))))))))))) 5) (blockK impl_signed.kp 0 5 (seqK (xcode (E26 N) ents impl_signed.kp 0 N (cB (cB (cB (cL (cK (cB (cA (cB (cB (cB (cB (cB (cB impl_signed.bd))))))))))))) 4) (roundK impl_signed.kp 0 4 L2 kv)))))

theorem impl_signed.k3_mix {ρ : Type} (N : Nat) (K : AV → Heap → Option ρ) (L2 : St → Option ρ) : mixK (impl_signed.fin N K .ret) (impl_signed.k3g N L2 (impl_signed.k2 N K)) = (impl_signed.k3g N L2 (impl_signed.k2 N K)) := by
  funext e s; cases e <;> rfl

noncomputable def impl_signed.st3 (p0 : Int) (size1 : Int) (r4 : Nat → Int) (r17 : Nat → Int) (x18 : Int) (g19 : Nat → Int) (x23 : Int) (g24 : Nat → Int) (g25 : Nat → Int) : St := ⟨sl 114 [(4, .sptr [(0, 2), (1, 1104)]), (5, .sptr [(2, 2), (3, 1104)]), (6, .sptr [(4, 2)]), (11, .sptr [(5, 64)]), (12, .int .i64 (x18)), (13, .sptr [(6, 64)]), (14, .sptr [(7, 8)]), (61, .int .i64 ((r4 1))), (62, .int .i64 (x18)), (78, .slice 8 0 2 (some 2) 1), (79, .int .i64 2), (80, .int .i64 (x23))], [⟨true, .ints .i64 2 (fun _ => 0)⟩, ⟨true, .ints .u8 1104 (fun _ => 0)⟩, ⟨true, .ints .i64 2 (upd (upd (fun _ => 0) 0 p0) 1 size1)⟩, ⟨true, .ints .u8 1104 g19⟩, ⟨true, .ints .i64 2 r4⟩, ⟨true, .ints .u8 64 r17⟩, ⟨true, .ints .u8 64 g24⟩, ⟨true, .ints .u8 8 g25⟩, ⟨true, .ints .i64 2 (upd (upd (fun _ => 0) 0 2) 1 4)⟩]⟩

noncomputable def impl_signed.sx3_0 (p0 : Int) (size1 : Int) (r4 : Nat → Int) (r17 : Nat → Int) (x18 : Int) (g19 : Nat → Int) (o30 : Nat → Int) (o31 : Nat → Int) : St := ⟨sl 114 [(4, .sptr [(0, 2), (1, 1104)]), (5, .sptr [(2, 2), (3, 1104)]), (6, .sptr [(4, 2)]), (11, .sptr [(5, 64)]), (12, .int .i64 (x18)), (13, .sptr [(6, 64)]), (14, .sptr [(7, 8)]), (61, .int .i64 ((r4 1))), (62, .int .i64 (x18))], [⟨true, .ints .i64 2 (fun _ => 0)⟩, ⟨true, .ints .u8 1104 (fun _ => 0)⟩, ⟨true, .ints .i64 2 (upd (upd (fun _ => 0) 0 p0) 1 size1)⟩, ⟨true, .ints .u8 1104 g19⟩, ⟨true, .ints .i64 2 r4⟩, ⟨true, .ints .u8 64 r17⟩, ⟨true, .ints .u8 64 o30⟩, ⟨true, .ints .u8 8 o31⟩, ⟨true, .ints .i64 2 (upd (upd (fun _ => 0) 0 2) 1 4)⟩]⟩

noncomputable def impl_signed.k4g {ρ : Type} (N : Nat) (L2 : St → Option ρ) (kv : XE → St → Option ρ) : XE → St → Option ρ := (blockK impl_signed.kp 0 6 (seqK (xcode (E26 N) ents impl_signed.kp 0 N (cB (cB (cB (cB (cK (cA (cB (cB (cL (cK (cB (cA (cB (cB (cB (cB (cB (cB impl_signed.bd)))))))))))))))))) 5) (blockK impl_signed.kp 0 5 (seqK (xcode (E26 N) ents impl_signed.kp 0 N (cB (cB (cB (cL (cK (cB (cA (cB (cB (cB (cB (cB (cB impl_signed.bd))))))))))))) 4) (roundK impl_signed.kp 0 4 L2 kv)))))

theorem impl_signed.k4_mix {ρ : Type} (N : Nat) (K : AV → Heap → Option ρ) (L2 : St → Option ρ) : mixK (impl_signed.fin N K .ret) (impl_signed.k4g N L2 (impl_signed.k2 N K)) = (impl_signed.k4g N L2 (impl_signed.k2 N K)) := by
  funext e s; cases e <;> rfl

noncomputable def impl_signed.st4 (p0 : Int) (size1 : Int) (r4 : Nat → Int) (r17 : Nat → Int) (x18 : Int) (g19 : Nat → Int) (x32 : Int) (g33 : Nat → Int) (g34 : Nat → Int) : St := ⟨sl 114 [(4, .sptr [(0, 2), (1, 1104)]), (5, .sptr [(2, 2), (3, 1104)]), (6, .sptr [(4, 2)]), (11, .sptr [(5, 64)]), (12, .int .i64 (x18)), (13, .sptr [(6, 64)]), (14, .sptr [(7, 8)]), (61, .int .i64 ((r4 1))), (62, .int .i64 (x18)), (78, .slice 8 0 2 (some 2) 1), (79, .int .i64 2), (80, .int .i64 (x32))], [⟨true, .ints .i64 2 (fun _ => 0)⟩, ⟨true, .ints .u8 1104 (fun _ => 0)⟩, ⟨true, .ints .i64 2 (upd (upd (fun _ => 0) 0 p0) 1 size1)⟩, ⟨true, .ints .u8 1104 g19⟩, ⟨true, .ints .i64 2 r4⟩, ⟨true, .ints .u8 64 r17⟩, ⟨true, .ints .u8 64 g33⟩, ⟨true, .ints .u8 8 g34⟩, ⟨true, .ints .i64 2 (upd (upd (fun _ => 0) 0 2) 1 4)⟩]⟩

noncomputable def impl_signed.sx4_0 (p0 : Int) (size1 : Int) (r4 : Nat → Int) (r17 : Nat → Int) (x18 : Int) (g19 : Nat → Int) (o39 : Nat → Int) (o40 : Nat → Int) : St := ⟨sl 114 [(4, .sptr [(0, 2), (1, 1104)]), (5, .sptr [(2, 2), (3, 1104)]), (6, .sptr [(4, 2)]), (11, .sptr [(5, 64)]), (12, .int .i64 (x18)), (13, .sptr [(6, 64)]), (14, .sptr [(7, 8)]), (61, .int .i64 ((r4 1))), (62, .int .i64 (x18))], [⟨true, .ints .i64 2 (fun _ => 0)⟩, ⟨true, .ints .u8 1104 (fun _ => 0)⟩, ⟨true, .ints .i64 2 (upd (upd (fun _ => 0) 0 p0) 1 size1)⟩, ⟨true, .ints .u8 1104 g19⟩, ⟨true, .ints .i64 2 r4⟩, ⟨true, .ints .u8 64 r17⟩, ⟨true, .ints .u8 64 o39⟩, ⟨true, .ints .u8 8 o40⟩, ⟨true, .ints .i64 2 (upd (upd (fun _ => 0) 0 2) 1 4)⟩]⟩

theorem impl_signed.b1_gen {ρ : Type} (N : Nat) (K : AV → Heap → Option ρ) (L1 : St → Option ρ) (kv : XE → St → Option ρ) (p0 : Int) (size1 : Int) (r4 : Nat → Int) (x5 : Int) (x7 : Int) (g8 : Nat → Int) :
    xcode (E26 N) ents impl_signed.kp 0 N (cL (cK (cB (cB (cK (cA (cB (cB (cL (cK (cB (cA (cB (cB (cB impl_signed.bd))))))))))))))) 2 (impl_signed.st1 p0 size1 r4 x5 x7 g8) (roundK impl_signed.kp 0 2 L1 (mixK (impl_signed.fin N K .ret) kv)) = (impl_signed.b1 N (fun d0 d1 => K (.agg [⟨.i64, 2, d0⟩, ⟨.u8, 1104, d1⟩]) []) (fun x7 g8 => L1 (impl_signed.st1 p0 size1 r4 x5 x7 g8)) (fun o13 => kv (.exit 2) (impl_signed.sx1_0 p0 size1 r4 x5 o13)) r4 x5 x7 g8) := by kernel_rfl

theorem impl_signed.b1_eq {ρ : Type} (N : Nat) (K : AV → Heap → Option ρ) (L0 : St → Option ρ) (L1 : St → Option ρ) (p0 : Int) (size1 : Int) (r4 : Nat → Int) (x5 : Int) (x7 : Int) (g8 : Nat → Int) :
    xcode (E26 N) ents impl_signed.kp 0 N (cL (cK (cB (cB (cK (cA (cB (cB (cL (cK (cB (cA (cB (cB (cB impl_signed.bd))))))))))))))) 2 (impl_signed.st1 p0 size1 r4 x5 x7 g8) (roundK impl_signed.kp 0 2 L1 (impl_signed.k1g N L0 (impl_signed.k0 N K))) = (impl_signed.b1 N (fun d0 d1 => K (.agg [⟨.i64, 2, d0⟩, ⟨.u8, 1104, d1⟩]) []) (fun x7 g8 => L1 (impl_signed.st1 p0 size1 r4 x5 x7 g8)) (fun o13 => (impl_signed.k1g N L0 (impl_signed.k0 N K)) (.exit 2) (impl_signed.sx1_0 p0 size1 r4 x5 o13)) r4 x5 x7 g8) := by
  have h := impl_signed.b1_gen N K L1 (impl_signed.k1g N L0 (impl_signed.k0 N K)) p0 size1 r4 x5 x7 g8
  rw [impl_signed.k1_mix] at h
  exact h

theorem impl_signed.a1_0_gen {ρ : Type} (N : Nat) (K : AV → Heap → Option ρ) (L0 : St → Option ρ) (kv : XE → St → Option ρ) (p0 : Int) (size1 : Int) (r4 : Nat → Int) (x5 : Int) (o13 : Nat → Int) :
    (impl_signed.k1g N L0 (mixK (impl_signed.fin N K .ret) kv)) (.exit 2) (impl_signed.sx1_0 p0 size1 r4 x5 o13) = (impl_signed.a1_0 N (fun d0 d1 => K (.agg [⟨.i64, 2, d0⟩, ⟨.u8, 1104, d1⟩]) []) (fun x5 g6 => L0 (impl_signed.st0 p0 size1 r4 x5 g6)) (fun o14 => kv (.exit 0) (impl_signed.sx0_0 p0 size1 r4 o14)) x5 o13) := by kernel_rfl

theorem impl_signed.a1_0_eq {ρ : Type} (N : Nat) (K : AV → Heap → Option ρ) (L0 : St → Option ρ) (p0 : Int) (size1 : Int) (r4 : Nat → Int) (x5 : Int) (o13 : Nat → Int) :
    (impl_signed.k1g N L0 (impl_signed.k0 N K)) (.exit 2) (impl_signed.sx1_0 p0 size1 r4 x5 o13) = (impl_signed.a1_0 N (fun d0 d1 => K (.agg [⟨.i64, 2, d0⟩, ⟨.u8, 1104, d1⟩]) []) (fun x5 g6 => L0 (impl_signed.st0 p0 size1 r4 x5 g6)) (fun o14 => (impl_signed.k0 N K) (.exit 0) (impl_signed.sx0_0 p0 size1 r4 o14)) x5 o13) := by
  have h := impl_signed.a1_0_gen N K L0 (impl_signed.k0 N K) p0 size1 r4 x5 o13
  rw [impl_signed.k0_mix] at h
  exact h

theorem impl_signed.b3_gen {ρ : Type} (N : Nat) (K : AV → Heap → Option ρ) (L3 : St → Option ρ) (kv : XE → St → Option ρ) (p0 : Int) (size1 : Int) (r4 : Nat → Int) (r17 : Nat → Int) (x18 : Int) (g19 : Nat → Int) (x23 : Int) (g24 : Nat → Int) (g25 : Nat → Int) :
    xcode (E26 N) ents impl_signed.kp 0 N (cL (cK (cB (cA (cB (cB (cB (cK (cA (cB (cB (cL (cK (cB (cA (cB (cB (cB (cB (cB (cB impl_signed.bd))))))))))))))))))))) 6 (impl_signed.st3 p0 size1 r4 r17 x18 g19 x23 g24 g25) (roundK impl_signed.kp 0 6 L3 (mixK (impl_signed.fin N K .ret) kv)) = (impl_signed.b3 N (fun d0 d1 => K (.agg [⟨.i64, 2, d0⟩, ⟨.u8, 1104, d1⟩]) []) (fun x23 g24 g25 => L3 (impl_signed.st3 p0 size1 r4 r17 x18 g19 x23 g24 g25)) (fun o30 o31 => kv (.exit 6) (impl_signed.sx3_0 p0 size1 r4 r17 x18 g19 o30 o31)) p0 size1 r4 x18 g19 x23 g24 g25) := by kernel_rfl

theorem impl_signed.b3_eq {ρ : Type} (N : Nat) (K : AV → Heap → Option ρ) (L2 : St → Option ρ) (L3 : St → Option ρ) (p0 : Int) (size1 : Int) (r4 : Nat → Int) (r17 : Nat → Int) (x18 : Int) (g19 : Nat → Int) (x23 : Int) (g24 : Nat → Int) (g25 : Nat → Int) :
    xcode (E26 N) ents impl_signed.kp 0 N (cL (cK (cB (cA (cB (cB (cB (cK (cA (cB (cB (cL (cK (cB (cA (cB (cB (cB (cB (cB (cB impl_signed.bd))))))))))))))))))))) 6 (impl_signed.st3 p0 size1 r4 r17 x18 g19 x23 g24 g25) (roundK impl_signed.kp 0 6 L3 (impl_signed.k3g N L2 (impl_signed.k2 N K))) = (impl_signed.b3 N (fun d0 d1 => K (.agg [⟨.i64, 2, d0⟩, ⟨.u8, 1104, d1⟩]) []) (fun x23 g24 g25 => L3 (impl_signed.st3 p0 size1 r4 r17 x18 g19 x23 g24 g25)) (fun o30 o31 => (impl_signed.k3g N L2 (impl_signed.k2 N K)) (.exit 6) (impl_signed.sx3_0 p0 size1 r4 r17 x18 g19 o30 o31)) p0 size1 r4 x18 g19 x23 g24 g25) := by
  have h := impl_signed.b3_gen N K L3 (impl_signed.k3g N L2 (impl_signed.k2 N K)) p0 size1 r4 r17 x18 g19 x23 g24 g25
  rw [impl_signed.k3_mix] at h
  exact h

theorem impl_signed.a3_0_gen {ρ : Type} (N : Nat) (K : AV → Heap → Option ρ) (L2 : St → Option ρ) (kv : XE → St → Option ρ) (p0 : Int) (size1 : Int) (r4 : Nat → Int) (r17 : Nat → Int) (x18 : Int) (g19 : Nat → Int) (o30 : Nat → Int) (o31 : Nat → Int) :
    (impl_signed.k3g N L2 (mixK (impl_signed.fin N K .ret) kv)) (.exit 6) (impl_signed.sx3_0 p0 size1 r4 r17 x18 g19 o30 o31) = (impl_signed.a3_0 N (fun d0 d1 => K (.agg [⟨.i64, 2, d0⟩, ⟨.u8, 1104, d1⟩]) []) (fun x18 g19 => L2 (impl_signed.st2 p0 size1 r4 r17 x18 g19)) (fun o41 => kv (.exit 4) (impl_signed.sx2_0 p0 size1 r4 r17 o41)) x18 g19 o30 o31) := by kernel_rfl

theorem impl_signed.a3_0_eq {ρ : Type} (N : Nat) (K : AV → Heap → Option ρ) (L2 : St → Option ρ) (p0 : Int) (size1 : Int) (r4 : Nat → Int) (r17 : Nat → Int) (x18 : Int) (g19 : Nat → Int) (o30 : Nat → Int) (o31 : Nat → Int) :
    (impl_signed.k3g N L2 (impl_signed.k2 N K)) (.exit 6) (impl_signed.sx3_0 p0 size1 r4 r17 x18 g19 o30 o31) = (impl_signed.a3_0 N (fun d0 d1 => K (.agg [⟨.i64, 2, d0⟩, ⟨.u8, 1104, d1⟩]) []) (fun x18 g19 => L2 (impl_signed.st2 p0 size1 r4 r17 x18 g19)) (fun o41 => (impl_signed.k2 N K) (.exit 4) (impl_signed.sx2_0 p0 size1 r4 r17 o41)) x18 g19 o30 o31) := by
  have h := impl_signed.a3_0_gen N K L2 (impl_signed.k2 N K) p0 size1 r4 r17 x18 g19 o30 o31
  rw [impl_signed.k2_mix] at h
  exact h

theorem impl_signed.b4_gen {ρ : Type} (N : Nat) (K : AV → Heap → Option ρ) (L4 : St → Option ρ) (kv : XE → St → Option ρ) (p0 : Int) (size1 : Int) (r4 : Nat → Int) (r17 : Nat → Int) (x18 : Int) (g19 : Nat → Int) (x32 : Int) (g33 : Nat → Int) (g34 : Nat → Int) :
    xcode (E26 N) ents impl_signed.kp 0 N (cL (cK (cB (cA (cB (cB (cB (cK (cA (cB (cB (cL (cK (cB (cA (cB (cB (cB (cB (cB (cB impl_signed.bd))))))))))))))))))))) 6 (impl_signed.st4 p0 size1 r4 r17 x18 g19 x32 g33 g34) (roundK impl_signed.kp 0 6 L4 (mixK (impl_signed.fin N K .ret) kv)) = (impl_signed.b4 N (fun d0 d1 => K (.agg [⟨.i64, 2, d0⟩, ⟨.u8, 1104, d1⟩]) []) (fun x32 g33 g34 => L4 (impl_signed.st4 p0 size1 r4 r17 x18 g19 x32 g33 g34)) (fun o39 o40 => kv (.exit 6) (impl_signed.sx4_0 p0 size1 r4 r17 x18 g19 o39 o40)) p0 size1 r4 x18 g19 x32 g33 g34) := by kernel_rfl

theorem impl_signed.b4_eq {ρ : Type} (N : Nat) (K : AV → Heap → Option ρ) (L2 : St → Option ρ) (L4 : St → Option ρ) (p0 : Int) (size1 : Int) (r4 : Nat → Int) (r17 : Nat → Int) (x18 : Int) (g19 : Nat → Int) (x32 : Int) (g33 : Nat → Int) (g34 : Nat → Int) :
    xcode (E26 N) ents impl_signed.kp 0 N (cL (cK (cB (cA (cB (cB (cB (cK (cA (cB (cB (cL (cK (cB (cA (cB (cB (cB (cB (cB (cB impl_signed.bd))))))))))))))))))))) 6 (impl_signed.st4 p0 size1 r4 r17 x18 g19 x32 g33 g34) (roundK impl_signed.kp 0 6 L4 (impl_signed.k4g N L2 (impl_signed.k2 N K))) = (impl_signed.b4 N (fun d0 d1 => K (.agg [⟨.i64, 2, d0⟩, ⟨.u8, 1104, d1⟩]) []) (fun x32 g33 g34 => L4 (impl_signed.st4 p0 size1 r4 r17 x18 g19 x32 g33 g34)) (fun o39 o40 => (impl_signed.k4g N L2 (impl_signed.k2 N K)) (.exit 6) (impl_signed.sx4_0 p0 size1 r4 r17 x18 g19 o39 o40)) p0 size1 r4 x18 g19 x32 g33 g34) := by
  have h := impl_signed.b4_gen N K L4 (impl_signed.k4g N L2 (impl_signed.k2 N K)) p0 size1 r4 r17 x18 g19 x32 g33 g34
  rw [impl_signed.k4_mix] at h
  exact h

theorem impl_signed.a4_0_gen {ρ : Type} (N : Nat) (K : AV → Heap → Option ρ) (L2 : St → Option ρ) (kv : XE → St → Option ρ) (p0 : Int) (size1 : Int) (r4 : Nat → Int) (r17 : Nat → Int) (x18 : Int) (g19 : Nat → Int) (o39 : Nat → Int) (o40 : Nat → Int) :
    (impl_signed.k4g N L2 (mixK (impl_signed.fin N K .ret) kv)) (.exit 6) (impl_signed.sx4_0 p0 size1 r4 r17 x18 g19 o39 o40) = (impl_signed.a4_0 N (fun d0 d1 => K (.agg [⟨.i64, 2, d0⟩, ⟨.u8, 1104, d1⟩]) []) (fun x18 g19 => L2 (impl_signed.st2 p0 size1 r4 r17 x18 g19)) (fun o41 => kv (.exit 4) (impl_signed.sx2_0 p0 size1 r4 r17 o41)) x18 g19 o39 o40) := by kernel_rfl

theorem impl_signed.a4_0_eq {ρ : Type} (N : Nat) (K : AV → Heap → Option ρ) (L2 : St → Option ρ) (p0 : Int) (size1 : Int) (r4 : Nat → Int) (r17 : Nat → Int) (x18 : Int) (g19 : Nat → Int) (o39 : Nat → Int) (o40 : Nat → Int) :
    (impl_signed.k4g N L2 (impl_signed.k2 N K)) (.exit 6) (impl_signed.sx4_0 p0 size1 r4 r17 x18 g19 o39 o40) = (impl_signed.a4_0 N (fun d0 d1 => K (.agg [⟨.i64, 2, d0⟩, ⟨.u8, 1104, d1⟩]) []) (fun x18 g19 => L2 (impl_signed.st2 p0 size1 r4 r17 x18 g19)) (fun o41 => (impl_signed.k2 N K) (.exit 4) (impl_signed.sx2_0 p0 size1 r4 r17 o41)) x18 g19 o39 o40) := by
  have h := impl_signed.a4_0_gen N K L2 (impl_signed.k2 N K) p0 size1 r4 r17 x18 g19 o39 o40
  rw [impl_signed.k2_mix] at h
  exact h

theorem impl_signed.b2_gen {ρ : Type} (N : Nat) (K : AV → Heap → Option ρ) (L2 : St → Option ρ) (kv : XE → St → Option ρ) (p0 : Int) (size1 : Int) (r4 : Nat → Int) (r17 : Nat → Int) (x18 : Int) (g19 : Nat → Int) :
    xcode (E26 N) ents impl_signed.kp 0 N (cL (cK (cB (cA (cB (cB (cB (cB (cB (cB impl_signed.bd)))))))))) 4 (impl_signed.st2 p0 size1 r4 r17 x18 g19) (roundK impl_signed.kp 0 4 L2 (mixK (impl_signed.fin N K .ret) kv)) = (impl_signed.b2 N (fun d0 d1 => K (.agg [⟨.i64, 2, d0⟩, ⟨.u8, 1104, d1⟩]) []) (fun x23 g24 g25 => xloop (xcode (E26 N) ents impl_signed.kp 0 N (cL (cK (cB (cA (cB (cB (cB (cK (cA (cB (cB (cL (cK (cB (cA (cB (cB (cB (cB (cB (cB impl_signed.bd))))))))))))))))))))) 6) impl_signed.kp 0 6 N (impl_signed.st3 p0 size1 r4 r17 x18 g19 x23 g24 g25) (impl_signed.k3g N L2 (mixK (impl_signed.fin N K .ret) kv))) (fun x32 g33 g34 => xloop (xcode (E26 N) ents impl_signed.kp 0 N (cL (cK (cB (cA (cB (cB (cB (cK (cA (cB (cB (cL (cK (cB (cA (cB (cB (cB (cB (cB (cB impl_signed.bd))))))))))))))))))))) 6) impl_signed.kp 0 6 N (impl_signed.st4 p0 size1 r4 r17 x18 g19 x32 g33 g34) (impl_signed.k4g N L2 (mixK (impl_signed.fin N K .ret) kv))) (fun x18 g19 => L2 (impl_signed.st2 p0 size1 r4 r17 x18 g19)) (fun o41 => kv (.exit 4) (impl_signed.sx2_0 p0 size1 r4 r17 o41)) p0 size1 r4 r17 x18 g19) := by kernel_rfl

theorem impl_signed.b2_eq {ρ : Type} (N : Nat) (K : AV → Heap → Option ρ) (L2 : St → Option ρ) (p0 : Int) (size1 : Int) (r4 : Nat → Int) (r17 : Nat → Int) (x18 : Int) (g19 : Nat → Int) :
    xcode (E26 N) ents impl_signed.kp 0 N (cL (cK (cB (cA (cB (cB (cB (cB (cB (cB impl_signed.bd)))))))))) 4 (impl_signed.st2 p0 size1 r4 r17 x18 g19) (roundK impl_signed.kp 0 4 L2 (impl_signed.k2 N K)) = (impl_signed.b2 N (fun d0 d1 => K (.agg [⟨.i64, 2, d0⟩, ⟨.u8, 1104, d1⟩]) []) (fun x23 g24 g25 => xloop (xcode (E26 N) ents impl_signed.kp 0 N (cL (cK (cB (cA (cB (cB (cB (cK (cA (cB (cB (cL (cK (cB (cA (cB (cB (cB (cB (cB (cB impl_signed.bd))))))))))))))))))))) 6) impl_signed.kp 0 6 N (impl_signed.st3 p0 size1 r4 r17 x18 g19 x23 g24 g25) (impl_signed.k3g N L2 (impl_signed.k2 N K))) (fun x32 g33 g34 => xloop (xcode (E26 N) ents impl_signed.kp 0 N (cL (cK (cB (cA (cB (cB (cB (cK (cA (cB (cB (cL (cK (cB (cA (cB (cB (cB (cB (cB (cB impl_signed.bd))))))))))))))))))))) 6) impl_signed.kp 0 6 N (impl_signed.st4 p0 size1 r4 r17 x18 g19 x32 g33 g34) (impl_signed.k4g N L2 (impl_signed.k2 N K))) (fun x18 g19 => L2 (impl_signed.st2 p0 size1 r4 r17 x18 g19)) (fun o41 => (impl_signed.k2 N K) (.exit 4) (impl_signed.sx2_0 p0 size1 r4 r17 o41)) p0 size1 r4 r17 x18 g19) := by
  have h := impl_signed.b2_gen N K L2 (impl_signed.k2 N K) p0 size1 r4 r17 x18 g19
  rw [impl_signed.k2_mix] at h
  exact h

theorem impl_signed.a2_0_eq {ρ : Type} (N : Nat) (K : AV → Heap → Option ρ) (p0 : Int) (size1 : Int) (r4 : Nat → Int) (r17 : Nat → Int) (o41 : Nat → Int) :
    (impl_signed.k2 N K) (.exit 4) (impl_signed.sx2_0 p0 size1 r4 r17 o41) = (impl_signed.a2_0 N (fun d0 d1 => K (.agg [⟨.i64, 2, d0⟩, ⟨.u8, 1104, d1⟩]) []) p0 size1 o41) := by kernel_rfl

theorem impl_signed.b0_gen {ρ : Type} (N : Nat) (K : AV → Heap → Option ρ) (L0 : St → Option ρ) (kv : XE → St → Option ρ) (p0 : Int) (size1 : Int) (r4 : Nat → Int) (x5 : Int) (g6 : Nat → Int) :
    xcode (E26 N) ents impl_signed.kp 0 N (cL (cK (cB (cA (cB (cB (cB impl_signed.bd))))))) 0 (impl_signed.st0 p0 size1 r4 x5 g6) (roundK impl_signed.kp 0 0 L0 (mixK (impl_signed.fin N K .ret) kv)) = (impl_signed.b0 N (fun d0 d1 => K (.agg [⟨.i64, 2, d0⟩, ⟨.u8, 1104, d1⟩]) []) (fun x7 g8 => xloop (xcode (E26 N) ents impl_signed.kp 0 N (cL (cK (cB (cB (cK (cA (cB (cB (cL (cK (cB (cA (cB (cB (cB impl_signed.bd))))))))))))))) 2) impl_signed.kp 0 2 N (impl_signed.st1 p0 size1 r4 x5 x7 g8) (impl_signed.k1g N L0 (mixK (impl_signed.fin N K .ret) kv))) (fun x5 g6 => L0 (impl_signed.st0 p0 size1 r4 x5 g6)) (fun o14 => kv (.exit 0) (impl_signed.sx0_0 p0 size1 r4 o14)) r4 x5 g6) := by kernel_rfl

theorem impl_signed.b0_eq {ρ : Type} (N : Nat) (K : AV → Heap → Option ρ) (L0 : St → Option ρ) (p0 : Int) (size1 : Int) (r4 : Nat → Int) (x5 : Int) (g6 : Nat → Int) :
    xcode (E26 N) ents impl_signed.kp 0 N (cL (cK (cB (cA (cB (cB (cB impl_signed.bd))))))) 0 (impl_signed.st0 p0 size1 r4 x5 g6) (roundK impl_signed.kp 0 0 L0 (impl_signed.k0 N K)) = (impl_signed.b0 N (fun d0 d1 => K (.agg [⟨.i64, 2, d0⟩, ⟨.u8, 1104, d1⟩]) []) (fun x7 g8 => xloop (xcode (E26 N) ents impl_signed.kp 0 N (cL (cK (cB (cB (cK (cA (cB (cB (cL (cK (cB (cA (cB (cB (cB impl_signed.bd))))))))))))))) 2) impl_signed.kp 0 2 N (impl_signed.st1 p0 size1 r4 x5 x7 g8) (impl_signed.k1g N L0 (impl_signed.k0 N K))) (fun x5 g6 => L0 (impl_signed.st0 p0 size1 r4 x5 g6)) (fun o14 => (impl_signed.k0 N K) (.exit 0) (impl_signed.sx0_0 p0 size1 r4 o14)) r4 x5 g6) := by
  have h := impl_signed.b0_gen N K L0 (impl_signed.k0 N K) p0 size1 r4 x5 g6
  rw [impl_signed.k0_mix] at h
  exact h

theorem impl_signed.a0_0_eq {ρ : Type} (N : Nat) (K : AV → Heap → Option ρ) (p0 : Int) (size1 : Int) (r4 : Nat → Int) (o14 : Nat → Int) :
    (impl_signed.k0 N K) (.exit 0) (impl_signed.sx0_0 p0 size1 r4 o14) = (impl_signed.a0_0 N (fun d0 d1 => K (.agg [⟨.i64, 2, d0⟩, ⟨.u8, 1104, d1⟩]) []) (fun r17 x18 g19 => xloop (xcode (E26 N) ents impl_signed.kp 0 N (cL (cK (cB (cA (cB (cB (cB (cB (cB (cB impl_signed.bd)))))))))) 4) impl_signed.kp 0 4 N (impl_signed.st2 p0 size1 r4 r17 x18 g19) (impl_signed.k2 N K)) r4 o14) := by kernel_rfl

theorem impl_signed.l1_eq {ρ : Type} (N : Nat) (K : AV → Heap → Option ρ) (L0 : St → Option ρ) (p0 : Int) (size1 : Int) (r4 : Nat → Int) (x5 : Int) :
    ∀ (m : Nat) (x7 : Int) (g8 : Nat → Int), xloop (xcode (E26 N) ents impl_signed.kp 0 N (cL (cK (cB (cB (cK (cA (cB (cB (cL (cK (cB (cA (cB (cB (cB impl_signed.bd))))))))))))))) 2) impl_signed.kp 0 2 m (impl_signed.st1 p0 size1 r4 x5 x7 g8) (impl_signed.k1g N L0 (impl_signed.k0 N K)) = (impl_signed.l1 N (fun d0 d1 => K (.agg [⟨.i64, 2, d0⟩, ⟨.u8, 1104, d1⟩]) []) r4 x5 (fun o13 => (impl_signed.k1g N L0 (impl_signed.k0 N K)) (.exit 2) (impl_signed.sx1_0 p0 size1 r4 x5 o13)) m x7 g8) := by
  intro m
  induction m with
  | zero => intros; rfl
  | succ m ih =>
    intro x7 g8
    refine (impl_signed.b1_eq N K L0 (fun s => xloop (xcode (E26 N) ents impl_signed.kp 0 N (cL (cK (cB (cB (cK (cA (cB (cB (cL (cK (cB (cA (cB (cB (cB impl_signed.bd))))))))))))))) 2) impl_signed.kp 0 2 m s (impl_signed.k1g N L0 (impl_signed.k0 N K))) p0 size1 r4 x5 x7 g8).trans ?_
    simp only [ih]
    kernel_rfl

theorem impl_signed.l3_eq {ρ : Type} (N : Nat) (K : AV → Heap → Option ρ) (L2 : St → Option ρ) (p0 : Int) (size1 : Int) (r4 : Nat → Int) (r17 : Nat → Int) (x18 : Int) (g19 : Nat → Int) :
    ∀ (m : Nat) (x23 : Int) (g24 : Nat → Int) (g25 : Nat → Int), xloop (xcode (E26 N) ents impl_signed.kp 0 N (cL (cK (cB (cA (cB (cB (cB (cK (cA (cB (cB (cL (cK (cB (cA (cB (cB (cB (cB (cB (cB impl_signed.bd))))))))))))))))))))) 6) impl_signed.kp 0 6 m (impl_signed.st3 p0 size1 r4 r17 x18 g19 x23 g24 g25) (impl_signed.k3g N L2 (impl_signed.k2 N K)) = (impl_signed.l3 N (fun d0 d1 => K (.agg [⟨.i64, 2, d0⟩, ⟨.u8, 1104, d1⟩]) []) p0 size1 r4 x18 g19 (fun o30 o31 => (impl_signed.k3g N L2 (impl_signed.k2 N K)) (.exit 6) (impl_signed.sx3_0 p0 size1 r4 r17 x18 g19 o30 o31)) m x23 g24 g25) := by
  intro m
  induction m with
  | zero => intros; rfl
  | succ m ih =>
    intro x23 g24 g25
    refine (impl_signed.b3_eq N K L2 (fun s => xloop (xcode (E26 N) ents impl_signed.kp 0 N (cL (cK (cB (cA (cB (cB (cB (cK (cA (cB (cB (cL (cK (cB (cA (cB (cB (cB (cB (cB (cB impl_signed.bd))))))))))))))))))))) 6) impl_signed.kp 0 6 m s (impl_signed.k3g N L2 (impl_signed.k2 N K))) p0 size1 r4 r17 x18 g19 x23 g24 g25).trans ?_
    simp only [ih]
    kernel_rfl

theorem impl_signed.l4_eq {ρ : Type} (N : Nat) (K : AV → Heap → Option ρ) (L2 : St → Option ρ) (p0 : Int) (size1 : Int) (r4 : Nat → Int) (r17 : Nat → Int) (x18 : Int) (g19 : Nat → Int) :
    ∀ (m : Nat) (x32 : Int) (g33 : Nat → Int) (g34 : Nat → Int), xloop (xcode (E26 N) ents impl_signed.kp 0 N (cL (cK (cB (cA (cB (cB (cB (cK (cA (cB (cB (cL (cK (cB (cA (cB (cB (cB (cB (cB (cB impl_signed.bd))))))))))))))))))))) 6) impl_signed.kp 0 6 m (impl_signed.st4 p0 size1 r4 r17 x18 g19 x32 g33 g34) (impl_signed.k4g N L2 (impl_signed.k2 N K)) = (impl_signed.l4 N (fun d0 d1 => K (.agg [⟨.i64, 2, d0⟩, ⟨.u8, 1104, d1⟩]) []) p0 size1 r4 x18 g19 (fun o39 o40 => (impl_signed.k4g N L2 (impl_signed.k2 N K)) (.exit 6) (impl_signed.sx4_0 p0 size1 r4 r17 x18 g19 o39 o40)) m x32 g33 g34) := by
  intro m
  induction m with
  | zero => intros; rfl
  | succ m ih =>
    intro x32 g33 g34
    refine (impl_signed.b4_eq N K L2 (fun s => xloop (xcode (E26 N) ents impl_signed.kp 0 N (cL (cK (cB (cA (cB (cB (cB (cK (cA (cB (cB (cL (cK (cB (cA (cB (cB (cB (cB (cB (cB impl_signed.bd))))))))))))))))))))) 6) impl_signed.kp 0 6 m s (impl_signed.k4g N L2 (impl_signed.k2 N K))) p0 size1 r4 r17 x18 g19 x32 g33 g34).trans ?_
    simp only [ih]
    kernel_rfl

theorem impl_signed.l2_eq {ρ : Type} (N : Nat) (K : AV → Heap → Option ρ) (p0 : Int) (size1 : Int) (r4 : Nat → Int) (r17 : Nat → Int) :
    ∀ (m : Nat) (x18 : Int) (g19 : Nat → Int), xloop (xcode (E26 N) ents impl_signed.kp 0 N (cL (cK (cB (cA (cB (cB (cB (cB (cB (cB impl_signed.bd)))))))))) 4) impl_signed.kp 0 4 m (impl_signed.st2 p0 size1 r4 r17 x18 g19) (impl_signed.k2 N K) = (impl_signed.l2 N (fun d0 d1 => K (.agg [⟨.i64, 2, d0⟩, ⟨.u8, 1104, d1⟩]) []) p0 size1 r4 r17 (fun o41 => (impl_signed.k2 N K) (.exit 4) (impl_signed.sx2_0 p0 size1 r4 r17 o41)) m x18 g19) := by
  intro m
  induction m with
  | zero => intros; rfl
  | succ m ih =>
    intro x18 g19
    refine (impl_signed.b2_eq N K (fun s => xloop (xcode (E26 N) ents impl_signed.kp 0 N (cL (cK (cB (cA (cB (cB (cB (cB (cB (cB impl_signed.bd)))))))))) 4) impl_signed.kp 0 4 m s (impl_signed.k2 N K)) p0 size1 r4 r17 x18 g19).trans ?_
    simp only [ih, impl_signed.l3_eq, impl_signed.a3_0_eq, impl_signed.l4_eq, impl_signed.a4_0_eq]
    kernel_rfl

theorem impl_signed.l0_eq {ρ : Type} (N : Nat) (K : AV → Heap → Option ρ) (p0 : Int) (size1 : Int) (r4 : Nat → Int) :
    ∀ (m : Nat) (x5 : Int) (g6 : Nat → Int), xloop (xcode (E26 N) ents impl_signed.kp 0 N (cL (cK (cB (cA (cB (cB (cB impl_signed.bd))))))) 0) impl_signed.kp 0 0 m (impl_signed.st0 p0 size1 r4 x5 g6) (impl_signed.k0 N K) = (impl_signed.l0 N (fun d0 d1 => K (.agg [⟨.i64, 2, d0⟩, ⟨.u8, 1104, d1⟩]) []) r4 (fun o14 => (impl_signed.k0 N K) (.exit 0) (impl_signed.sx0_0 p0 size1 r4 o14)) m x5 g6) := by
  intro m
  induction m with
  | zero => intros; rfl
  | succ m ih =>
    intro x5 g6
    refine (impl_signed.b0_eq N K (fun s => xloop (xcode (E26 N) ents impl_signed.kp 0 N (cL (cK (cB (cA (cB (cB (cB impl_signed.bd))))))) 0) impl_signed.kp 0 0 m s (impl_signed.k0 N K)) p0 size1 r4 x5 g6).trans ?_
    simp only [ih, impl_signed.l1_eq, impl_signed.a1_0_eq]
    kernel_rfl

theorem impl_signed.s_eq {ρ : Type} (N : Nat) (K : AV → Heap → Option ρ) (p0 : Int) (size1 : Int) :
    xbody (E26 N) ents impl_signed.kp N Go.Proofs.Try.f10 impl_signed.bd [.int .i64 (p0), .int .i64 (size1)] [] K = (impl_signed.s N (fun d0 d1 => K (.agg [⟨.i64, 2, d0⟩, ⟨.u8, 1104, d1⟩]) []) (fun r4 x5 g6 => xloop (xcode (E26 N) ents impl_signed.kp 0 N (cL (cK (cB (cA (cB (cB (cB impl_signed.bd))))))) 0) impl_signed.kp 0 0 N (impl_signed.st0 p0 size1 r4 x5 g6) (impl_signed.k0 N K)) p0 size1) := by kernel_rfl

theorem impl_signed.eq {ρ : Type} (N : Nat) (K : AV → Heap → Option ρ) (p0 : Int) (size1 : Int) :
    xbody (E26 N) ents impl_signed.kp N Go.Proofs.Try.f10 impl_signed.bd [.int .i64 (p0), .int .i64 (size1)] [] K = (impl_signed N (fun d0 d1 => K (.agg [⟨.i64, 2, d0⟩, ⟨.u8, 1104, d1⟩]) []) p0 size1) := by
  refine (impl_signed.s_eq N K p0 size1).trans ?_
  simp only [impl_signed.l0_eq, impl_signed.a0_0_eq, impl_signed.l2_eq, impl_signed.a2_0_eq]
  kernel_rfl

noncomputable def impl_signed.en (N : Nat) (ρ : Type) : List AV → Heap → (AV → Heap → Option ρ) → Option ρ
  | [.int .i64 (p0), .int .i64 (size1)], [], K => (impl_signed N (fun d0 d1 => K (.agg [⟨.i64, 2, d0⟩, ⟨.u8, 1104, d1⟩]) []) p0 size1)
  | _, _, _ => none

theorem impl_signed.en_ok (N : Nat) (hE : EnvOk (E26 N) ents) (ρ : Type) (args : List AV) (sh : Heap) (K : AV → Heap → Option ρ) (r : ρ) (h : impl_signed.en N ρ args sh K = some r) : ∃ v sh', K v sh' = some r ∧ FnOk (E26 N).P 10 args sh v sh' := by
  unfold impl_signed.en at h
  split at h
  · exact fn_ok hE (kp := impl_signed.kp) (N := N) Go.Proofs.Try.func10 (c := impl_signed.bd) (by kernel_rfl) ((impl_signed.eq N _ _ _).trans h)
  · cases h

noncomputable def E27 (N : Nat) : Env := (E26 N).add 10 (impl_signed.en N)

theorem E27_ok (N : Nat) : EnvOk (E27 N) ents := Env.add_ok (E26_ok N) (impl_signed.en_ok N (E26_ok N))

noncomputable def impl_DoubleHopf.kp : Keeps := ⟨[], []⟩

noncomputable def impl_DoubleHopf.bd : Code := bodyOf Go.Proofs.Try.f5

noncomputable def impl_DoubleHopf.fin {ρ : Type} (N : Nat) (K : AV → Heap → Option ρ) : XE → St → Option ρ := finK (E27 N) Go.Proofs.Try.f5 [] K

theorem impl_DoubleHopf.eq {ρ : Type} (N : Nat) (K : AV → Heap → Option ρ) (p0 : Int) :
    xbody (E27 N) ents impl_DoubleHopf.kp N Go.Proofs.Try.f5 impl_DoubleHopf.bd [.int .i64 (p0)] [] K = (impl_DoubleHopf N (fun d0 d1 d2 => K (.tup [.agg [⟨.i64, 2, d0⟩, ⟨.u8, 1104, d1⟩], .int .i64 (d2)]) []) p0) := by kernel_rfl

noncomputable def impl_DoubleHopf.en (N : Nat) (ρ : Type) : List AV → Heap → (AV → Heap → Option ρ) → Option ρ
  | [.int .i64 (p0)], [], K => (impl_DoubleHopf N (fun d0 d1 d2 => K (.tup [.agg [⟨.i64, 2, d0⟩, ⟨.u8, 1104, d1⟩], .int .i64 (d2)]) []) p0)
  | _, _, _ => none

theorem impl_DoubleHopf.en_ok (N : Nat) (hE : EnvOk (E27 N) ents) (ρ : Type) (args : List AV) (sh : Heap) (K : AV → Heap → Option ρ) (r : ρ) (h : impl_DoubleHopf.en N ρ args sh K = some r) : ∃ v sh', K v sh' = some r ∧ FnOk (E27 N).P 5 args sh v sh' := by
  unfold impl_DoubleHopf.en at h
  split at h
  · exact fn_ok hE (kp := impl_DoubleHopf.kp) (N := N) Go.Proofs.Try.func5 (c := impl_DoubleHopf.bd) (by kernel_rfl) ((impl_DoubleHopf.eq N _ _).trans h)
  · cases h

noncomputable def E28 (N : Nat) : Env := (E27 N).add 5 (impl_DoubleHopf.en N)

theorem E28_ok (N : Nat) : EnvOk (E28 N) ents := Env.add_ok (E27_ok N) (impl_DoubleHopf.en_ok N (E27_ok N))

noncomputable def laws_eqVector.kp : Keeps := ⟨[(0, [2, 3, 5], 2)], [(0, [], 2)]⟩

noncomputable def laws_eqVector.bd : Code := bodyOf Go.Proofs.Try.f11

noncomputable def laws_eqVector.fin {ρ : Type} (N : Nat) (K : AV → Heap → Option ρ) : XE → St → Option ρ := finK (E28 N) Go.Proofs.Try.f11 [] K

noncomputable def laws_eqVector.k0 {ρ : Type} (N : Nat) (K : AV → Heap → Option ρ) : XE → St → Option ρ := (blockK laws_eqVector.kp 0 0 (seqK (xcode (E28 N) ents laws_eqVector.kp 0 N (cB (cB laws_eqVector.bd)) 0) (laws_eqVector.fin N K)))

theorem laws_eqVector.k0_mix {ρ : Type} (N : Nat) (K : AV → Heap → Option ρ) : mixK (laws_eqVector.fin N K .ret) (laws_eqVector.k0 N K) = (laws_eqVector.k0 N K) := by
  funext e s; cases e <;> rfl

noncomputable def laws_eqVector.st0 (a0 : Nat → Int) (b1 : Nat → Int) (i2 : Int) : St := ⟨sl 17 [(2, .sptr [(0, 8)]), (3, .sptr [(1, 8)]), (5, .int .i64 (i2))], [⟨true, .ints .u8 8 a0⟩, ⟨true, .ints .u8 8 b1⟩]⟩

noncomputable def laws_eqVector.sx0_0 (a0 : Nat → Int) (b1 : Nat → Int) : St := ⟨sl 17 [], [⟨true, .ints .u8 8 a0⟩, ⟨true, .ints .u8 8 b1⟩]⟩

theorem laws_eqVector.b0_gen {ρ : Type} (N : Nat) (K : AV → Heap → Option ρ) (L0 : St → Option ρ) (kv : XE → St → Option ρ) (a0 : Nat → Int) (b1 : Nat → Int) (i2 : Int) :
    xcode (E28 N) ents laws_eqVector.kp 0 N (cL (cK (cB (cA (cB laws_eqVector.bd))))) 0 (laws_eqVector.st0 a0 b1 i2) (roundK laws_eqVector.kp 0 0 L0 (mixK (laws_eqVector.fin N K .ret) kv)) = (laws_eqVector.b0 N (fun d0 => K (.bool (d0)) []) (fun i2 => L0 (laws_eqVector.st0 a0 b1 i2)) (kv (.exit 0) (laws_eqVector.sx0_0 a0 b1)) a0 b1 i2) := by kernel_rfl

theorem laws_eqVector.b0_eq {ρ : Type} (N : Nat) (K : AV → Heap → Option ρ) (L0 : St → Option ρ) (a0 : Nat → Int) (b1 : Nat → Int) (i2 : Int) :
    xcode (E28 N) ents laws_eqVector.kp 0 N (cL (cK (cB (cA (cB laws_eqVector.bd))))) 0 (laws_eqVector.st0 a0 b1 i2) (roundK laws_eqVector.kp 0 0 L0 (laws_eqVector.k0 N K)) = (laws_eqVector.b0 N (fun d0 => K (.bool (d0)) []) (fun i2 => L0 (laws_eqVector.st0 a0 b1 i2)) ((laws_eqVector.k0 N K) (.exit 0) (laws_eqVector.sx0_0 a0 b1)) a0 b1 i2) := by
  have h := laws_eqVector.b0_gen N K L0 (laws_eqVector.k0 N K) a0 b1 i2
  rw [laws_eqVector.k0_mix] at h
  exact h

theorem laws_eqVector.a0_0_eq {ρ : Type} (N : Nat) (K : AV → Heap → Option ρ) (a0 : Nat → Int) (b1 : Nat → Int) :
    (laws_eqVector.k0 N K) (.exit 0) (laws_eqVector.sx0_0 a0 b1) = (laws_eqVector.a0_0 N (fun d0 => K (.bool (d0)) [])) := by kernel_rfl

theorem laws_eqVector.l0_eq {ρ : Type} (N : Nat) (K : AV → Heap → Option ρ) (a0 : Nat → Int) (b1 : Nat → Int) :
    ∀ (m : Nat) (i2 : Int), xloop (xcode (E28 N) ents laws_eqVector.kp 0 N (cL (cK (cB (cA (cB laws_eqVector.bd))))) 0) laws_eqVector.kp 0 0 m (laws_eqVector.st0 a0 b1 i2) (laws_eqVector.k0 N K) = (laws_eqVector.l0 N (fun d0 => K (.bool (d0)) []) a0 b1 ((laws_eqVector.k0 N K) (.exit 0) (laws_eqVector.sx0_0 a0 b1)) m i2) := by
  intro m
  induction m with
  | zero => intros; rfl
  | succ m ih =>
    intro i2
    refine (laws_eqVector.b0_eq N K (fun s => xloop (xcode (E28 N) ents laws_eqVector.kp 0 N (cL (cK (cB (cA (cB laws_eqVector.bd))))) 0) laws_eqVector.kp 0 0 m s (laws_eqVector.k0 N K)) a0 b1 i2).trans ?_
    simp only [ih]
    kernel_rfl

theorem laws_eqVector.s_eq {ρ : Type} (N : Nat) (K : AV → Heap → Option ρ) (a0 : Nat → Int) (b1 : Nat → Int) :
    xbody (E28 N) ents laws_eqVector.kp N Go.Proofs.Try.f11 laws_eqVector.bd [.agg [⟨.u8, 8, a0⟩], .agg [⟨.u8, 8, b1⟩]] [] K = (laws_eqVector.s N (fun d0 => K (.bool (d0)) []) (fun i2 => xloop (xcode (E28 N) ents laws_eqVector.kp 0 N (cL (cK (cB (cA (cB laws_eqVector.bd))))) 0) laws_eqVector.kp 0 0 N (laws_eqVector.st0 a0 b1 i2) (laws_eqVector.k0 N K))) := by kernel_rfl

theorem laws_eqVector.eq {ρ : Type} (N : Nat) (K : AV → Heap → Option ρ) (a0 : Nat → Int) (b1 : Nat → Int) :
    xbody (E28 N) ents laws_eqVector.kp N Go.Proofs.Try.f11 laws_eqVector.bd [.agg [⟨.u8, 8, a0⟩], .agg [⟨.u8, 8, b1⟩]] [] K = (laws_eqVector N (fun d0 => K (.bool (d0)) []) a0 b1) := by
  refine (laws_eqVector.s_eq N K a0 b1).trans ?_
  simp only [laws_eqVector.l0_eq, laws_eqVector.a0_0_eq]
  kernel_rfl

noncomputable def laws_eqVector.en (N : Nat) (ρ : Type) : List AV → Heap → (AV → Heap → Option ρ) → Option ρ
  | [.agg [⟨.u8, 8, a0⟩], .agg [⟨.u8, 8, b1⟩]], [], K => (laws_eqVector N (fun d0 => K (.bool (d0)) []) a0 b1)
  | _, _, _ => none

theorem laws_eqVector.en_ok (N : Nat) (hE : EnvOk (E28 N) ents) (ρ : Type) (args : List AV) (sh : Heap) (K : AV → Heap → Option ρ) (r : ρ) (h : laws_eqVector.en N ρ args sh K = some r) : ∃ v sh', K v sh' = some r ∧ FnOk (E28 N).P 11 args sh v sh' := by
  unfold laws_eqVector.en at h
  split at h
  · exact fn_ok hE (kp := laws_eqVector.kp) (N := N) Go.Proofs.Try.func11 (c := laws_eqVector.bd) (by kernel_rfl) ((laws_eqVector.eq N _ _ _).trans h)
  · cases h

noncomputable def E29 (N : Nat) : Env := (E28 N).add 11 (laws_eqVector.en N)

theorem E29_ok (N : Nat) : EnvOk (E29 N) ents := Env.add_ok (E28_ok N) (laws_eqVector.en_ok N (E28_ok N))

noncomputable def laws_eqLinear.kp : Keeps := ⟨[(0, [2, 3, 5], 2)], [(0, [], 2)]⟩

noncomputable def laws_eqLinear.bd : Code := bodyOf Go.Proofs.Try.f13

noncomputable def laws_eqLinear.fin {ρ : Type} (N : Nat) (K : AV → Heap → Option ρ) : XE → St → Option ρ := finK (E29 N) Go.Proofs.Try.f13 [] K

noncomputable def laws_eqLinear.k0 {ρ : Type} (N : Nat) (K : AV → Heap → Option ρ) : XE → St → Option ρ := (blockK laws_eqLinear.kp 0 0 (seqK (xcode (E29 N) ents laws_eqLinear.kp 0 N (cB (cB laws_eqLinear.bd)) 0) (laws_eqLinear.fin N K)))

theorem laws_eqLinear.k0_mix {ρ : Type} (N : Nat) (K : AV → Heap → Option ρ) : mixK (laws_eqLinear.fin N K .ret) (laws_eqLinear.k0 N K) = (laws_eqLinear.k0 N K) := by
  funext e s; cases e <;> rfl

noncomputable def laws_eqLinear.st0 (a0 : Nat → Int) (b1 : Nat → Int) (i2 : Int) : St := ⟨sl 18 [(2, .sptr [(0, 64)]), (3, .sptr [(1, 64)]), (5, .int .i64 (i2))], [⟨true, .ints .u8 64 a0⟩, ⟨true, .ints .u8 64 b1⟩]⟩

noncomputable def laws_eqLinear.sx0_0 (a0 : Nat → Int) (b1 : Nat → Int) : St := ⟨sl 18 [], [⟨true, .ints .u8 64 a0⟩, ⟨true, .ints .u8 64 b1⟩]⟩

theorem laws_eqLinear.b0_gen {ρ : Type} (N : Nat) (K : AV → Heap → Option ρ) (L0 : St → Option ρ) (kv : XE → St → Option ρ) (a0 : Nat → Int) (b1 : Nat → Int) (i2 : Int) :
    xcode (E29 N) ents laws_eqLinear.kp 0 N (cL (cK (cB (cA (cB laws_eqLinear.bd))))) 0 (laws_eqLinear.st0 a0 b1 i2) (roundK laws_eqLinear.kp 0 0 L0 (mixK (laws_eqLinear.fin N K .ret) kv)) = (laws_eqLinear.b0 N (fun d0 => K (.bool (d0)) []) (fun i2 => L0 (laws_eqLinear.st0 a0 b1 i2)) (kv (.exit 0) (laws_eqLinear.sx0_0 a0 b1)) a0 b1 i2) := by kernel_rfl

theorem laws_eqLinear.b0_eq {ρ : Type} (N : Nat) (K : AV → Heap → Option ρ) (L0 : St → Option ρ) (a0 : Nat → Int) (b1 : Nat → Int) (i2 : Int) :
    xcode (E29 N) ents laws_eqLinear.kp 0 N (cL (cK (cB (cA (cB laws_eqLinear.bd))))) 0 (laws_eqLinear.st0 a0 b1 i2) (roundK laws_eqLinear.kp 0 0 L0 (laws_eqLinear.k0 N K)) = (laws_eqLinear.b0 N (fun d0 => K (.bool (d0)) []) (fun i2 => L0 (laws_eqLinear.st0 a0 b1 i2)) ((laws_eqLinear.k0 N K) (.exit 0) (laws_eqLinear.sx0_0 a0 b1)) a0 b1 i2) := by
  have h := laws_eqLinear.b0_gen N K L0 (laws_eqLinear.k0 N K) a0 b1 i2
  rw [laws_eqLinear.k0_mix] at h
  exact h

theorem laws_eqLinear.a0_0_eq {ρ : Type} (N : Nat) (K : AV → Heap → Option ρ) (a0 : Nat → Int) (b1 : Nat → Int) :
    (laws_eqLinear.k0 N K) (.exit 0) (laws_eqLinear.sx0_0 a0 b1) = (laws_eqLinear.a0_0 N (fun d0 => K (.bool (d0)) [])) := by kernel_rfl

theorem laws_eqLinear.l0_eq {ρ : Type} (N : Nat) (K : AV → Heap → Option ρ) (a0 : Nat → Int) (b1 : Nat → Int) :
    ∀ (m : Nat) (i2 : Int), xloop (xcode (E29 N) ents laws_eqLinear.kp 0 N (cL (cK (cB (cA (cB laws_eqLinear.bd))))) 0) laws_eqLinear.kp 0 0 m (laws_eqLinear.st0 a0 b1 i2) (laws_eqLinear.k0 N K) = (laws_eqLinear.l0 N (fun d0 => K (.bool (d0)) []) a0 b1 ((laws_eqLinear.k0 N K) (.exit 0) (laws_eqLinear.sx0_0 a0 b1)) m i2) := by
  intro m
  induction m with
  | zero => intros; rfl
  | succ m ih =>
    intro i2
    refine (laws_eqLinear.b0_eq N K (fun s => xloop (xcode (E29 N) ents laws_eqLinear.kp 0 N (cL (cK (cB (cA (cB laws_eqLinear.bd))))) 0) laws_eqLinear.kp 0 0 m s (laws_eqLinear.k0 N K)) a0 b1 i2).trans ?_
    simp only [ih]
    kernel_rfl

theorem laws_eqLinear.s_eq {ρ : Type} (N : Nat) (K : AV → Heap → Option ρ) (a0 : Nat → Int) (b1 : Nat → Int) :
    xbody (E29 N) ents laws_eqLinear.kp N Go.Proofs.Try.f13 laws_eqLinear.bd [.agg [⟨.u8, 64, a0⟩], .agg [⟨.u8, 64, b1⟩]] [] K = (laws_eqLinear.s N (fun d0 => K (.bool (d0)) []) (fun i2 => xloop (xcode (E29 N) ents laws_eqLinear.kp 0 N (cL (cK (cB (cA (cB laws_eqLinear.bd))))) 0) laws_eqLinear.kp 0 0 N (laws_eqLinear.st0 a0 b1 i2) (laws_eqLinear.k0 N K))) := by kernel_rfl

theorem laws_eqLinear.eq {ρ : Type} (N : Nat) (K : AV → Heap → Option ρ) (a0 : Nat → Int) (b1 : Nat → Int) :
    xbody (E29 N) ents laws_eqLinear.kp N Go.Proofs.Try.f13 laws_eqLinear.bd [.agg [⟨.u8, 64, a0⟩], .agg [⟨.u8, 64, b1⟩]] [] K = (laws_eqLinear N (fun d0 => K (.bool (d0)) []) a0 b1) := by
  refine (laws_eqLinear.s_eq N K a0 b1).trans ?_
  simp only [laws_eqLinear.l0_eq, laws_eqLinear.a0_0_eq]
  kernel_rfl

noncomputable def laws_eqLinear.en (N : Nat) (ρ : Type) : List AV → Heap → (AV → Heap → Option ρ) → Option ρ
  | [.agg [⟨.u8, 64, a0⟩], .agg [⟨.u8, 64, b1⟩]], [], K => (laws_eqLinear N (fun d0 => K (.bool (d0)) []) a0 b1)
  | _, _, _ => none

theorem laws_eqLinear.en_ok (N : Nat) (hE : EnvOk (E29 N) ents) (ρ : Type) (args : List AV) (sh : Heap) (K : AV → Heap → Option ρ) (r : ρ) (h : laws_eqLinear.en N ρ args sh K = some r) : ∃ v sh', K v sh' = some r ∧ FnOk (E29 N).P 13 args sh v sh' := by
  unfold laws_eqLinear.en at h
  split at h
  · exact fn_ok hE (kp := laws_eqLinear.kp) (N := N) Go.Proofs.Try.func13 (c := laws_eqLinear.bd) (by kernel_rfl) ((laws_eqLinear.eq N _ _ _).trans h)
  · cases h

noncomputable def E30 (N : Nat) : Env := (E29 N).add 13 (laws_eqLinear.en N)

theorem E30_ok (N : Nat) : EnvOk (E30 N) ents := Env.add_ok (E29_ok N) (laws_eqLinear.en_ok N (E29_ok N))
end Go.Proofs.Ytjnfeffflkgddaa.H
