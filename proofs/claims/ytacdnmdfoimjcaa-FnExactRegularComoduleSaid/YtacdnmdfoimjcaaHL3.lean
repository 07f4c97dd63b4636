/- The program computes these functions. -/
import Derived.Test.YtacdnmdfoimjcaaHL2
namespace Go.Proofs.Ytacdnmdfoimjcaa.H
set_option linter.unusedVariables false
set_option linter.unusedSimpArgs false
open Go Go.RowKit Go.Proofs.Ytacdnmdfoimjcaa.Hx
set_option linter.unusedVariables false
set_option maxRecDepth 100000
noncomputable def impl_Coalgebra_fault.en (N : Nat) (ρ : Type) : List AV → Heap → (AV → Heap → Option ρ) → Option ρ
  | [.sptr [(0, 2), (1, 520)]], [⟨false, .ints .i64 2 g0⟩, ⟨false, .ints .u8 520 g1⟩], K => (impl_Coalgebra_fault N (fun d0 d1 d2 => K (.slice 2 0 d0 (some d1) 1) [⟨false, .ints .i64 2 g0⟩, ⟨false, .ints .u8 520 g1⟩, ⟨true, .ints .i64 4 d2⟩]) (K (.nils) [⟨false, .ints .i64 2 g0⟩, ⟨false, .ints .u8 520 g1⟩]) g0 g1)
  | _, _, _ => none

theorem impl_Coalgebra_fault.en_ok (N : Nat) (hE : EnvOk (E58 N) ents) (ρ : Type) (args : List AV) (sh : Heap) (K : AV → Heap → Option ρ) (r : ρ) (h : impl_Coalgebra_fault.en N ρ args sh K = some r) : ∃ v sh', K v sh' = some r ∧ FnOk (E58 N).P 85 args sh v sh' := by
  unfold impl_Coalgebra_fault.en at h
  split at h
  · exact fn_ok hE (kp := impl_Coalgebra_fault.kp) (N := N) Go.Proofs.Try.func85 (c := impl_Coalgebra_fault.bd) (by kernel_rfl) ((impl_Coalgebra_fault.eq N _ _ _).trans h)
  · cases h

noncomputable def E59 (N : Nat) : Env := (E58 N).add 85 (impl_Coalgebra_fault.en N)

theorem E59_ok (N : Nat) : EnvOk (E59 N) ents := Env.add_ok (E58_ok N) (impl_Coalgebra_fault.en_ok N (E58_ok N))

noncomputable def impl_IsCoalgebra.kp : Keeps := ⟨[], []⟩

noncomputable def impl_IsCoalgebra.bd : Code := bodyOf Go.Proofs.Try.f61

noncomputable def impl_IsCoalgebra.fin {ρ : Type} (N : Nat) (K : AV → Heap → Option ρ) : XE → St → Option ρ := finK (E59 N) Go.Proofs.Try.f61 [] K

theorem impl_IsCoalgebra.eq {ρ : Type} (N : Nat) (K : AV → Heap → Option ρ) (c0 : Nat → Int) (c1 : Nat → Int) :
    xbody (E59 N) ents impl_IsCoalgebra.kp N Go.Proofs.Try.f61 impl_IsCoalgebra.bd [.agg [⟨.i64, 2, c0⟩, ⟨.u8, 520, c1⟩]] [] K = (impl_IsCoalgebra N (fun d0 => K (.bool (d0)) []) c0 c1) := by kernel_rfl

noncomputable def impl_IsCoalgebra.en (N : Nat) (ρ : Type) : List AV → Heap → (AV → Heap → Option ρ) → Option ρ
  | [.agg [⟨.i64, 2, c0⟩, ⟨.u8, 520, c1⟩]], [], K => (impl_IsCoalgebra N (fun d0 => K (.bool (d0)) []) c0 c1)
  | _, _, _ => none

theorem impl_IsCoalgebra.en_ok (N : Nat) (hE : EnvOk (E59 N) ents) (ρ : Type) (args : List AV) (sh : Heap) (K : AV → Heap → Option ρ) (r : ρ) (h : impl_IsCoalgebra.en N ρ args sh K = some r) : ∃ v sh', K v sh' = some r ∧ FnOk (E59 N).P 61 args sh v sh' := by
  unfold impl_IsCoalgebra.en at h
  split at h
  · exact fn_ok hE (kp := impl_IsCoalgebra.kp) (N := N) Go.Proofs.Try.func61 (c := impl_IsCoalgebra.bd) (by kernel_rfl) ((impl_IsCoalgebra.eq N _ _ _).trans h)
  · cases h

noncomputable def E60 (N : Nat) : Env := (E59 N).add 61 (impl_IsCoalgebra.en N)

theorem E60_ok (N : Nat) : EnvOk (E60 N) ents := Env.add_ok (E59_ok N) (impl_IsCoalgebra.en_ok N (E59_ok N))

noncomputable def impl_Hopf_fails_c2.kp : Keeps := ⟨[], []⟩

noncomputable def impl_Hopf_fails_c2.bd : Code := bodyOf Go.Proofs.Try.f60

noncomputable def impl_Hopf_fails_c2.fin {ρ : Type} (N : Nat) (K : AV → Heap → Option ρ) (g0 : Nat → Int) (g1 : Nat → Int) : XE → St → Option ρ := finK (E60 N) Go.Proofs.Try.f60 [⟨false, .avs [.sptr [(1, 2), (2, 1104)]]⟩, ⟨false, .ints .i64 2 g0⟩, ⟨false, .ints .u8 1104 g1⟩] K

theorem impl_Hopf_fails_c2.eq {ρ : Type} (N : Nat) (K : AV → Heap → Option ρ) (g0 : Nat → Int) (g1 : Nat → Int) :
    xbody (E60 N) ents impl_Hopf_fails_c2.kp N Go.Proofs.Try.f60 impl_Hopf_fails_c2.bd [.sptr [(0, 1)]] [⟨false, .avs [.sptr [(1, 2), (2, 1104)]]⟩, ⟨false, .ints .i64 2 g0⟩, ⟨false, .ints .u8 1104 g1⟩] K = (impl_Hopf_fails_c2 N (fun d0 => K (.bool (d0)) [⟨false, .avs [.sptr [(1, 2), (2, 1104)]]⟩, ⟨false, .ints .i64 2 g0⟩, ⟨false, .ints .u8 1104 g1⟩]) g0 g1) := by kernel_rfl

noncomputable def impl_Hopf_fails_c2.en (N : Nat) (ρ : Type) : List AV → Heap → (AV → Heap → Option ρ) → Option ρ
  | [.sptr [(0, 1)]], [⟨false, .avs [.sptr [(1, 2), (2, 1104)]]⟩, ⟨false, .ints .i64 2 g0⟩, ⟨false, .ints .u8 1104 g1⟩], K => (impl_Hopf_fails_c2 N (fun d0 => K (.bool (d0)) [⟨false, .avs [.sptr [(1, 2), (2, 1104)]]⟩, ⟨false, .ints .i64 2 g0⟩, ⟨false, .ints .u8 1104 g1⟩]) g0 g1)
  | _, _, _ => none

theorem impl_Hopf_fails_c2.en_ok (N : Nat) (hE : EnvOk (E60 N) ents) (ρ : Type) (args : List AV) (sh : Heap) (K : AV → Heap → Option ρ) (r : ρ) (h : impl_Hopf_fails_c2.en N ρ args sh K = some r) : ∃ v sh', K v sh' = some r ∧ FnOk (E60 N).P 60 args sh v sh' := by
  unfold impl_Hopf_fails_c2.en at h
  split at h
  · exact fn_ok hE (kp := impl_Hopf_fails_c2.kp) (N := N) Go.Proofs.Try.func60 (c := impl_Hopf_fails_c2.bd) (by kernel_rfl) ((impl_Hopf_fails_c2.eq N _ _ _).trans h)
  · cases h

noncomputable def E61 (N : Nat) : Env := (E60 N).add 60 (impl_Hopf_fails_c2.en N)

theorem E61_ok (N : Nat) : EnvOk (E61 N) ents := Env.add_ok (E60_ok N) (impl_Hopf_fails_c2.en_ok N (E60_ok N))

noncomputable def impl_Hopf_field.kp : Keeps := ⟨[], []⟩

noncomputable def impl_Hopf_field.bd : Code := bodyOf Go.Proofs.Try.f44

noncomputable def impl_Hopf_field.fin {ρ : Type} (N : Nat) (K : AV → Heap → Option ρ) (g0 : Nat → Int) (g1 : Nat → Int) : XE → St → Option ρ := finK (E61 N) Go.Proofs.Try.f44 [⟨false, .ints .i64 2 g0⟩, ⟨false, .ints .u8 1104 g1⟩] K

theorem impl_Hopf_field.eq {ρ : Type} (N : Nat) (K : AV → Heap → Option ρ) (g0 : Nat → Int) (g1 : Nat → Int) :
    xbody (E61 N) ents impl_Hopf_field.kp N Go.Proofs.Try.f44 impl_Hopf_field.bd [.sptr [(0, 2), (1, 1104)]] [⟨false, .ints .i64 2 g0⟩, ⟨false, .ints .u8 1104 g1⟩] K = (impl_Hopf_field N (fun d0 => K (.agg [⟨.i64, 2, d0⟩]) [⟨false, .ints .i64 2 g0⟩, ⟨false, .ints .u8 1104 g1⟩]) g0 g1) := by kernel_rfl

noncomputable def impl_Hopf_field.en (N : Nat) (ρ : Type) : List AV → Heap → (AV → Heap → Option ρ) → Option ρ
  | [.sptr [(0, 2), (1, 1104)]], [⟨false, .ints .i64 2 g0⟩, ⟨false, .ints .u8 1104 g1⟩], K => (impl_Hopf_field N (fun d0 => K (.agg [⟨.i64, 2, d0⟩]) [⟨false, .ints .i64 2 g0⟩, ⟨false, .ints .u8 1104 g1⟩]) g0 g1)
  | _, _, _ => none

theorem impl_Hopf_field.en_ok (N : Nat) (hE : EnvOk (E61 N) ents) (ρ : Type) (args : List AV) (sh : Heap) (K : AV → Heap → Option ρ) (r : ρ) (h : impl_Hopf_field.en N ρ args sh K = some r) : ∃ v sh', K v sh' = some r ∧ FnOk (E61 N).P 44 args sh v sh' := by
  unfold impl_Hopf_field.en at h
  split at h
  · exact fn_ok hE (kp := impl_Hopf_field.kp) (N := N) Go.Proofs.Try.func44 (c := impl_Hopf_field.bd) (by kernel_rfl) ((impl_Hopf_field.eq N _ _ _).trans h)
  · cases h

noncomputable def E62 (N : Nat) : Env := (E61 N).add 44 (impl_Hopf_field.en N)

theorem E62_ok (N : Nat) : EnvOk (E62 N) ents := Env.add_ok (E61_ok N) (impl_Hopf_field.en_ok N (E61_ok N))

noncomputable def impl_Hopf_coproduct.kp : Keeps := ⟨[(0, [0, 4, 5, 6, 13, 14], 6), (2, [0, 4, 5, 6, 7, 8, 9, 13, 14], 6)], [(0, [4, 6], 6), (2, [0, 4, 5, 6, 13, 14], 6)]⟩

noncomputable def impl_Hopf_coproduct.bd : Code := bodyOf Go.Proofs.Try.f49

noncomputable def impl_Hopf_coproduct.fin {ρ : Type} (N : Nat) (K : AV → Heap → Option ρ) (g1 : Nat → Int) (g2 : Nat → Int) : XE → St → Option ρ := finK (E62 N) Go.Proofs.Try.f49 [⟨false, .ints .i64 2 g1⟩, ⟨false, .ints .u8 1104 g2⟩] K

noncomputable def impl_Hopf_coproduct.k0 {ρ : Type} (N : Nat) (K : AV → Heap → Option ρ) (g1 : Nat → Int) (g2 : Nat → Int) : XE → St → Option ρ := (blockK impl_Hopf_coproduct.kp 2 0 (seqK (xcode (E62 N) ents impl_Hopf_coproduct.kp 2 N (cB (cB (cB impl_Hopf_coproduct.bd))) 0) (impl_Hopf_coproduct.fin N K g1 g2)))

theorem impl_Hopf_coproduct.k0_mix {ρ : Type} (N : Nat) (K : AV → Heap → Option ρ) (g1 : Nat → Int) (g2 : Nat → Int) : mixK (impl_Hopf_coproduct.fin N K g1 g2 .ret) (impl_Hopf_coproduct.k0 N K g1 g2) = (impl_Hopf_coproduct.k0 N K g1 g2) := by
  funext e s; cases e <;> rfl

noncomputable def impl_Hopf_coproduct.st0 (v0 : Nat → Int) (g1 : Nat → Int) (g2 : Nat → Int) (r3 : Nat → Int) (x4 : Int) (g5 : Nat → Int) : St := ⟨sl 44 [(0, .sptr [(0, 2), (1, 1104)]), (4, .sptr [(3, 64)]), (5, .sptr [(4, 2)]), (6, .sptr [(5, 64)]), (13, .agg [⟨.u8, 8, v0⟩]), (14, .int .i64 (x4))], [⟨false, .ints .i64 2 g1⟩, ⟨false, .ints .u8 1104 g2⟩, ⟨true, .ints .u8 8 v0⟩, ⟨true, .ints .u8 64 (fun _ => 0)⟩, ⟨true, .ints .i64 2 r3⟩, ⟨true, .ints .u8 64 g5⟩]⟩

noncomputable def impl_Hopf_coproduct.sx0_0 (v0 : Nat → Int) (g1 : Nat → Int) (g2 : Nat → Int) (r3 : Nat → Int) (o10 : Nat → Int) : St := ⟨sl 44 [(4, .sptr [(3, 64)]), (6, .sptr [(5, 64)])], [⟨false, .ints .i64 2 g1⟩, ⟨false, .ints .u8 1104 g2⟩, ⟨true, .ints .u8 8 v0⟩, ⟨true, .ints .u8 64 (fun _ => 0)⟩, ⟨true, .ints .i64 2 r3⟩, ⟨true, .ints .u8 64 o10⟩]⟩

noncomputable def impl_Hopf_coproduct.k1g {ρ : Type} (N : Nat) (L0 : St → Option ρ) (kv : XE → St → Option ρ) : XE → St → Option ρ := (blockK impl_Hopf_coproduct.kp 2 2 (blockK impl_Hopf_coproduct.kp 2 1 (seqK (xcode (E62 N) ents impl_Hopf_coproduct.kp 2 N (cB (cB (cB (cL (cK (cB (cA (cB (cB impl_Hopf_coproduct.bd))))))))) 0) (roundK impl_Hopf_coproduct.kp 2 0 L0 kv))))

theorem impl_Hopf_coproduct.k1_mix {ρ : Type} (N : Nat) (K : AV → Heap → Option ρ) (L0 : St → Option ρ) (g1 : Nat → Int) (g2 : Nat → Int) : mixK (impl_Hopf_coproduct.fin N K g1 g2 .ret) (impl_Hopf_coproduct.k1g N L0 (impl_Hopf_coproduct.k0 N K g1 g2)) = (impl_Hopf_coproduct.k1g N L0 (impl_Hopf_coproduct.k0 N K g1 g2)) := by
  funext e s; cases e <;> rfl

noncomputable def impl_Hopf_coproduct.st1 (v0 : Nat → Int) (g1 : Nat → Int) (g2 : Nat → Int) (r3 : Nat → Int) (x4 : Int) (j6 : Int) (g7 : Nat → Int) : St := ⟨sl 44 [(0, .sptr [(0, 2), (1, 1104)]), (4, .sptr [(3, 64)]), (5, .sptr [(4, 2)]), (6, .sptr [(5, 64)]), (7, .int .i64 (x4)), (8, .int .u8 ((v0 x4.toNat))), (9, .int .i64 (j6)), (13, .agg [⟨.u8, 8, v0⟩]), (14, .int .i64 (x4))], [⟨false, .ints .i64 2 g1⟩, ⟨false, .ints .u8 1104 g2⟩, ⟨true, .ints .u8 8 v0⟩, ⟨true, .ints .u8 64 (fun _ => 0)⟩, ⟨true, .ints .i64 2 r3⟩, ⟨true, .ints .u8 64 g7⟩]⟩

noncomputable def impl_Hopf_coproduct.sx1_0 (v0 : Nat → Int) (g1 : Nat → Int) (g2 : Nat → Int) (r3 : Nat → Int) (x4 : Int) (o9 : Nat → Int) : St := ⟨sl 44 [(0, .sptr [(0, 2), (1, 1104)]), (4, .sptr [(3, 64)]), (5, .sptr [(4, 2)]), (6, .sptr [(5, 64)]), (13, .agg [⟨.u8, 8, v0⟩]), (14, .int .i64 (x4))], [⟨false, .ints .i64 2 g1⟩, ⟨false, .ints .u8 1104 g2⟩, ⟨true, .ints .u8 8 v0⟩, ⟨true, .ints .u8 64 (fun _ => 0)⟩, ⟨true, .ints .i64 2 r3⟩, ⟨true, .ints .u8 64 o9⟩]⟩

theorem impl_Hopf_coproduct.b1_gen {ρ : Type} (N : Nat) (K : AV → Heap → Option ρ) (L1 : St → Option ρ) (kv : XE → St → Option ρ) (v0 : Nat → Int) (g1 : Nat → Int) (g2 : Nat → Int) (r3 : Nat → Int) (x4 : Int) (j6 : Int) (g7 : Nat → Int) :
    xcode (E62 N) ents impl_Hopf_coproduct.kp 2 N (cL (cK (cB (cB (cK (cA (cB (cB (cL (cK (cB (cA (cB (cB impl_Hopf_coproduct.bd)))))))))))))) 2 (impl_Hopf_coproduct.st1 v0 g1 g2 r3 x4 j6 g7) (roundK impl_Hopf_coproduct.kp 2 2 L1 (mixK (impl_Hopf_coproduct.fin N K g1 g2 .ret) kv)) = (impl_Hopf_coproduct.b1 N (fun d0 => K (.agg [⟨.u8, 64, d0⟩]) [⟨false, .ints .i64 2 g1⟩, ⟨false, .ints .u8 1104 g2⟩]) (fun j6 g7 => L1 (impl_Hopf_coproduct.st1 v0 g1 g2 r3 x4 j6 g7)) (fun o9 => kv (.exit 2) (impl_Hopf_coproduct.sx1_0 v0 g1 g2 r3 x4 o9)) v0 g2 r3 x4 j6 g7) := by kernel_rfl

theorem impl_Hopf_coproduct.b1_eq {ρ : Type} (N : Nat) (K : AV → Heap → Option ρ) (L0 : St → Option ρ) (L1 : St → Option ρ) (v0 : Nat → Int) (g1 : Nat → Int) (g2 : Nat → Int) (r3 : Nat → Int) (x4 : Int) (j6 : Int) (g7 : Nat → Int) :
    xcode (E62 N) ents impl_Hopf_coproduct.kp 2 N (cL (cK (cB (cB (cK (cA (cB (cB (cL (cK (cB (cA (cB (cB impl_Hopf_coproduct.bd)))))))))))))) 2 (impl_Hopf_coproduct.st1 v0 g1 g2 r3 x4 j6 g7) (roundK impl_Hopf_coproduct.kp 2 2 L1 (impl_Hopf_coproduct.k1g N L0 (impl_Hopf_coproduct.k0 N K g1 g2))) = (impl_Hopf_coproduct.b1 N (fun d0 => K (.agg [⟨.u8, 64, d0⟩]) [⟨false, .ints .i64 2 g1⟩, ⟨false, .ints .u8 1104 g2⟩]) (fun j6 g7 => L1 (impl_Hopf_coproduct.st1 v0 g1 g2 r3 x4 j6 g7)) (fun o9 => (impl_Hopf_coproduct.k1g N L0 (impl_Hopf_coproduct.k0 N K g1 g2)) (.exit 2) (impl_Hopf_coproduct.sx1_0 v0 g1 g2 r3 x4 o9)) v0 g2 r3 x4 j6 g7) := by
  have h := impl_Hopf_coproduct.b1_gen N K L1 (impl_Hopf_coproduct.k1g N L0 (impl_Hopf_coproduct.k0 N K g1 g2)) v0 g1 g2 r3 x4 j6 g7
  rw [impl_Hopf_coproduct.k1_mix] at h
  exact h

theorem impl_Hopf_coproduct.a1_0_gen {ρ : Type} (N : Nat) (K : AV → Heap → Option ρ) (L0 : St → Option ρ) (kv : XE → St → Option ρ) (v0 : Nat → Int) (g1 : Nat → Int) (g2 : Nat → Int) (r3 : Nat → Int) (x4 : Int) (o9 : Nat → Int) :
    (impl_Hopf_coproduct.k1g N L0 (mixK (impl_Hopf_coproduct.fin N K g1 g2 .ret) kv)) (.exit 2) (impl_Hopf_coproduct.sx1_0 v0 g1 g2 r3 x4 o9) = (impl_Hopf_coproduct.a1_0 N (fun d0 => K (.agg [⟨.u8, 64, d0⟩]) [⟨false, .ints .i64 2 g1⟩, ⟨false, .ints .u8 1104 g2⟩]) (fun x4 g5 => L0 (impl_Hopf_coproduct.st0 v0 g1 g2 r3 x4 g5)) (fun o10 => kv (.exit 0) (impl_Hopf_coproduct.sx0_0 v0 g1 g2 r3 o10)) x4 o9) := by kernel_rfl

theorem impl_Hopf_coproduct.a1_0_eq {ρ : Type} (N : Nat) (K : AV → Heap → Option ρ) (L0 : St → Option ρ) (v0 : Nat → Int) (g1 : Nat → Int) (g2 : Nat → Int) (r3 : Nat → Int) (x4 : Int) (o9 : Nat → Int) :
    (impl_Hopf_coproduct.k1g N L0 (impl_Hopf_coproduct.k0 N K g1 g2)) (.exit 2) (impl_Hopf_coproduct.sx1_0 v0 g1 g2 r3 x4 o9) = (impl_Hopf_coproduct.a1_0 N (fun d0 => K (.agg [⟨.u8, 64, d0⟩]) [⟨false, .ints .i64 2 g1⟩, ⟨false, .ints .u8 1104 g2⟩]) (fun x4 g5 => L0 (impl_Hopf_coproduct.st0 v0 g1 g2 r3 x4 g5)) (fun o10 => (impl_Hopf_coproduct.k0 N K g1 g2) (.exit 0) (impl_Hopf_coproduct.sx0_0 v0 g1 g2 r3 o10)) x4 o9) := by
  have h := impl_Hopf_coproduct.a1_0_gen N K L0 (impl_Hopf_coproduct.k0 N K g1 g2) v0 g1 g2 r3 x4 o9
  rw [impl_Hopf_coproduct.k0_mix] at h
  exact h

theorem impl_Hopf_coproduct.b0_gen {ρ : Type} (N : Nat) (K : AV → Heap → Option ρ) (L0 : St → Option ρ) (kv : XE → St → Option ρ) (v0 : Nat → Int) (g1 : Nat → Int) (g2 : Nat → Int) (r3 : Nat → Int) (x4 : Int) (g5 : Nat → Int) :
    xcode (E62 N) ents impl_Hopf_coproduct.kp 2 N (cL (cK (cB (cA (cB (cB impl_Hopf_coproduct.bd)))))) 0 (impl_Hopf_coproduct.st0 v0 g1 g2 r3 x4 g5) (roundK impl_Hopf_coproduct.kp 2 0 L0 (mixK (impl_Hopf_coproduct.fin N K g1 g2 .ret) kv)) = (impl_Hopf_coproduct.b0 N (fun d0 => K (.agg [⟨.u8, 64, d0⟩]) [⟨false, .ints .i64 2 g1⟩, ⟨false, .ints .u8 1104 g2⟩]) (fun j6 g7 => xloop (xcode (E62 N) ents impl_Hopf_coproduct.kp 2 N (cL (cK (cB (cB (cK (cA (cB (cB (cL (cK (cB (cA (cB (cB impl_Hopf_coproduct.bd)))))))))))))) 2) impl_Hopf_coproduct.kp 2 2 N (impl_Hopf_coproduct.st1 v0 g1 g2 r3 x4 j6 g7) (impl_Hopf_coproduct.k1g N L0 (mixK (impl_Hopf_coproduct.fin N K g1 g2 .ret) kv))) (fun x4 g5 => L0 (impl_Hopf_coproduct.st0 v0 g1 g2 r3 x4 g5)) (fun o10 => kv (.exit 0) (impl_Hopf_coproduct.sx0_0 v0 g1 g2 r3 o10)) x4 g5) := by kernel_rfl

theorem impl_Hopf_coproduct.b0_eq {ρ : Type} (N : Nat) (K : AV → Heap → Option ρ) (L0 : St → Option ρ) (v0 : Nat → Int) (g1 : Nat → Int) (g2 : Nat → Int) (r3 : Nat → Int) (x4 : Int) (g5 : Nat → Int) :
    xcode (E62 N) ents impl_Hopf_coproduct.kp 2 N (cL (cK (cB (cA (cB (cB impl_Hopf_coproduct.bd)))))) 0 (impl_Hopf_coproduct.st0 v0 g1 g2 r3 x4 g5) (roundK impl_Hopf_coproduct.kp 2 0 L0 (impl_Hopf_coproduct.k0 N K g1 g2)) = (impl_Hopf_coproduct.b0 N (fun d0 => K (.agg [⟨.u8, 64, d0⟩]) [⟨false, .ints .i64 2 g1⟩, ⟨false, .ints .u8 1104 g2⟩]) (fun j6 g7 => xloop (xcode (E62 N) ents impl_Hopf_coproduct.kp 2 N (cL (cK (cB (cB (cK (cA (cB (cB (cL (cK (cB (cA (cB (cB impl_Hopf_coproduct.bd)))))))))))))) 2) impl_Hopf_coproduct.kp 2 2 N (impl_Hopf_coproduct.st1 v0 g1 g2 r3 x4 j6 g7) (impl_Hopf_coproduct.k1g N L0 (impl_Hopf_coproduct.k0 N K g1 g2))) (fun x4 g5 => L0 (impl_Hopf_coproduct.st0 v0 g1 g2 r3 x4 g5)) (fun o10 => (impl_Hopf_coproduct.k0 N K g1 g2) (.exit 0) (impl_Hopf_coproduct.sx0_0 v0 g1 g2 r3 o10)) x4 g5) := by
  have h := impl_Hopf_coproduct.b0_gen N K L0 (impl_Hopf_coproduct.k0 N K g1 g2) v0 g1 g2 r3 x4 g5
  rw [impl_Hopf_coproduct.k0_mix] at h
  exact h

theorem impl_Hopf_coproduct.a0_0_eq {ρ : Type} (N : Nat) (K : AV → Heap → Option ρ) (v0 : Nat → Int) (g1 : Nat → Int) (g2 : Nat → Int) (r3 : Nat → Int) (o10 : Nat → Int) :
    (impl_Hopf_coproduct.k0 N K g1 g2) (.exit 0) (impl_Hopf_coproduct.sx0_0 v0 g1 g2 r3 o10) = (impl_Hopf_coproduct.a0_0 N (fun d0 => K (.agg [⟨.u8, 64, d0⟩]) [⟨false, .ints .i64 2 g1⟩, ⟨false, .ints .u8 1104 g2⟩]) o10) := by kernel_rfl

theorem impl_Hopf_coproduct.l1_eq {ρ : Type} (N : Nat) (K : AV → Heap → Option ρ) (L0 : St → Option ρ) (v0 : Nat → Int) (g1 : Nat → Int) (g2 : Nat → Int) (r3 : Nat → Int) (x4 : Int) :
    ∀ (m : Nat) (j6 : Int) (g7 : Nat → Int), xloop (xcode (E62 N) ents impl_Hopf_coproduct.kp 2 N (cL (cK (cB (cB (cK (cA (cB (cB (cL (cK (cB (cA (cB (cB impl_Hopf_coproduct.bd)))))))))))))) 2) impl_Hopf_coproduct.kp 2 2 m (impl_Hopf_coproduct.st1 v0 g1 g2 r3 x4 j6 g7) (impl_Hopf_coproduct.k1g N L0 (impl_Hopf_coproduct.k0 N K g1 g2)) = (impl_Hopf_coproduct.l1 N (fun d0 => K (.agg [⟨.u8, 64, d0⟩]) [⟨false, .ints .i64 2 g1⟩, ⟨false, .ints .u8 1104 g2⟩]) v0 g2 r3 x4 (fun o9 => (impl_Hopf_coproduct.k1g N L0 (impl_Hopf_coproduct.k0 N K g1 g2)) (.exit 2) (impl_Hopf_coproduct.sx1_0 v0 g1 g2 r3 x4 o9)) m j6 g7) := by
  intro m
  induction m with
  | zero => intros; rfl
  | succ m ih =>
    intro j6 g7
    refine (impl_Hopf_coproduct.b1_eq N K L0 (fun s => xloop (xcode (E62 N) ents impl_Hopf_coproduct.kp 2 N (cL (cK (cB (cB (cK (cA (cB (cB (cL (cK (cB (cA (cB (cB impl_Hopf_coproduct.bd)))))))))))))) 2) impl_Hopf_coproduct.kp 2 2 m s (impl_Hopf_coproduct.k1g N L0 (impl_Hopf_coproduct.k0 N K g1 g2))) v0 g1 g2 r3 x4 j6 g7).trans ?_
    simp only [ih]
    kernel_rfl

theorem impl_Hopf_coproduct.l0_eq {ρ : Type} (N : Nat) (K : AV → Heap → Option ρ) (v0 : Nat → Int) (g1 : Nat → Int) (g2 : Nat → Int) (r3 : Nat → Int) :
    ∀ (m : Nat) (x4 : Int) (g5 : Nat → Int), xloop (xcode (E62 N) ents impl_Hopf_coproduct.kp 2 N (cL (cK (cB (cA (cB (cB impl_Hopf_coproduct.bd)))))) 0) impl_Hopf_coproduct.kp 2 0 m (impl_Hopf_coproduct.st0 v0 g1 g2 r3 x4 g5) (impl_Hopf_coproduct.k0 N K g1 g2) = (impl_Hopf_coproduct.l0 N (fun d0 => K (.agg [⟨.u8, 64, d0⟩]) [⟨false, .ints .i64 2 g1⟩, ⟨false, .ints .u8 1104 g2⟩]) v0 g2 r3 (fun o10 => (impl_Hopf_coproduct.k0 N K g1 g2) (.exit 0) (impl_Hopf_coproduct.sx0_0 v0 g1 g2 r3 o10)) m x4 g5) := by
  intro m
  induction m with
  | zero => intros; rfl
  | succ m ih =>
    intro x4 g5
    refine (impl_Hopf_coproduct.b0_eq N K (fun s => xloop (xcode (E62 N) ents impl_Hopf_coproduct.kp 2 N (cL (cK (cB (cA (cB (cB impl_Hopf_coproduct.bd)))))) 0) impl_Hopf_coproduct.kp 2 0 m s (impl_Hopf_coproduct.k0 N K g1 g2)) v0 g1 g2 r3 x4 g5).trans ?_
    simp only [ih, impl_Hopf_coproduct.l1_eq, impl_Hopf_coproduct.a1_0_eq]
    kernel_rfl

theorem impl_Hopf_coproduct.s_eq {ρ : Type} (N : Nat) (K : AV → Heap → Option ρ) (v0 : Nat → Int) (g1 : Nat → Int) (g2 : Nat → Int) :
    xbody (E62 N) ents impl_Hopf_coproduct.kp N Go.Proofs.Try.f49 impl_Hopf_coproduct.bd [.sptr [(0, 2), (1, 1104)], .agg [⟨.u8, 8, v0⟩]] [⟨false, .ints .i64 2 g1⟩, ⟨false, .ints .u8 1104 g2⟩] K = (impl_Hopf_coproduct.s N (fun d0 => K (.agg [⟨.u8, 64, d0⟩]) [⟨false, .ints .i64 2 g1⟩, ⟨false, .ints .u8 1104 g2⟩]) (fun r3 x4 g5 => xloop (xcode (E62 N) ents impl_Hopf_coproduct.kp 2 N (cL (cK (cB (cA (cB (cB impl_Hopf_coproduct.bd)))))) 0) impl_Hopf_coproduct.kp 2 0 N (impl_Hopf_coproduct.st0 v0 g1 g2 r3 x4 g5) (impl_Hopf_coproduct.k0 N K g1 g2)) g1 g2) := by kernel_rfl

theorem impl_Hopf_coproduct.eq {ρ : Type} (N : Nat) (K : AV → Heap → Option ρ) (v0 : Nat → Int) (g1 : Nat → Int) (g2 : Nat → Int) :
    xbody (E62 N) ents impl_Hopf_coproduct.kp N Go.Proofs.Try.f49 impl_Hopf_coproduct.bd [.sptr [(0, 2), (1, 1104)], .agg [⟨.u8, 8, v0⟩]] [⟨false, .ints .i64 2 g1⟩, ⟨false, .ints .u8 1104 g2⟩] K = (impl_Hopf_coproduct N (fun d0 => K (.agg [⟨.u8, 64, d0⟩]) [⟨false, .ints .i64 2 g1⟩, ⟨false, .ints .u8 1104 g2⟩]) v0 g1 g2) := by
  refine (impl_Hopf_coproduct.s_eq N K v0 g1 g2).trans ?_
  simp only [impl_Hopf_coproduct.l0_eq, impl_Hopf_coproduct.a0_0_eq]
  kernel_rfl

noncomputable def impl_Hopf_coproduct.en (N : Nat) (ρ : Type) : List AV → Heap → (AV → Heap → Option ρ) → Option ρ
  | [.sptr [(0, 2), (1, 1104)], .agg [⟨.u8, 8, v0⟩]], [⟨false, .ints .i64 2 g1⟩, ⟨false, .ints .u8 1104 g2⟩], K => (impl_Hopf_coproduct N (fun d0 => K (.agg [⟨.u8, 64, d0⟩]) [⟨false, .ints .i64 2 g1⟩, ⟨false, .ints .u8 1104 g2⟩]) v0 g1 g2)
  | _, _, _ => none

theorem impl_Hopf_coproduct.en_ok (N : Nat) (hE : EnvOk (E62 N) ents) (ρ : Type) (args : List AV) (sh : Heap) (K : AV → Heap → Option ρ) (r : ρ) (h : impl_Hopf_coproduct.en N ρ args sh K = some r) : ∃ v sh', K v sh' = some r ∧ FnOk (E62 N).P 49 args sh v sh' := by
  unfold impl_Hopf_coproduct.en at h
  split at h
  · exact fn_ok hE (kp := impl_Hopf_coproduct.kp) (N := N) Go.Proofs.Try.func49 (c := impl_Hopf_coproduct.bd) (by kernel_rfl) ((impl_Hopf_coproduct.eq N _ _ _ _).trans h)
  · cases h

noncomputable def E63 (N : Nat) : Env := (E62 N).add 49 (impl_Hopf_coproduct.en N)

theorem E63_ok (N : Nat) : EnvOk (E63 N) ents := Env.add_ok (E62_ok N) (impl_Hopf_coproduct.en_ok N (E62_ok N))

noncomputable def impl_Hopf_tensor_c1_c1.kp : Keeps := ⟨[(0, [1, 2, 3, 5, 6, 7, 8, 21, 22], 8)], [(0, [], 8)]⟩

noncomputable def impl_Hopf_tensor_c1_c1.bd : Code := bodyOf Go.Proofs.Try.f105

noncomputable def impl_Hopf_tensor_c1_c1.fin {ρ : Type} (N : Nat) (K : AV → Heap → Option ρ) (g3 : Nat → Int) (g4 : Nat → Int) (g5 : Nat → Int) (g6 : Nat → Int) (g7 : Nat → Int) (g8 : Nat → Int) (g9 : Nat → Int) : XE → St → Option ρ := finK (E63 N) Go.Proofs.Try.f105 [⟨false, .avs [.sptr [(6, 2), (7, 1104)]]⟩, ⟨false, .ints .i64 1 g3⟩, ⟨false, .ints .i64 2 g4⟩, ⟨true, .ints .u8 64 g5⟩, ⟨false, .ints .i64 1 g6⟩, ⟨false, .ints .i64 1 g7⟩, ⟨false, .ints .i64 2 g8⟩, ⟨false, .ints .u8 1104 g9⟩] K

noncomputable def impl_Hopf_tensor_c1_c1.k0 {ρ : Type} (N : Nat) (K : AV → Heap → Option ρ) (g3 : Nat → Int) (g4 : Nat → Int) (g5 : Nat → Int) (g6 : Nat → Int) (g7 : Nat → Int) (g8 : Nat → Int) (g9 : Nat → Int) : XE → St → Option ρ := (blockK impl_Hopf_tensor_c1_c1.kp 8 0 (impl_Hopf_tensor_c1_c1.fin N K g3 g4 g5 g6 g7 g8 g9))

theorem impl_Hopf_tensor_c1_c1.k0_mix {ρ : Type} (N : Nat) (K : AV → Heap → Option ρ) (g3 : Nat → Int) (g4 : Nat → Int) (g5 : Nat → Int) (g6 : Nat → Int) (g7 : Nat → Int) (g8 : Nat → Int) (g9 : Nat → Int) : mixK (impl_Hopf_tensor_c1_c1.fin N K g3 g4 g5 g6 g7 g8 g9 .ret) (impl_Hopf_tensor_c1_c1.k0 N K g3 g4 g5 g6 g7 g8 g9) = (impl_Hopf_tensor_c1_c1.k0 N K g3 g4 g5 g6 g7 g8 g9) := by
  funext e s; cases e <;> rfl

noncomputable def impl_Hopf_tensor_c1_c1.st0 (l0 : Int) (m1 : Int) (y2 : Int) (g3 : Nat → Int) (g4 : Nat → Int) (g6 : Nat → Int) (g7 : Nat → Int) (g8 : Nat → Int) (g9 : Nat → Int) (x10 : Int) (g11 : Nat → Int) : St := ⟨sl 48 [(1, .int .i64 (m1)), (2, .int .i64 (y2)), (3, .sptr [(0, 1)]), (5, .sptr [(2, 2)]), (6, .sptr [(3, 64)]), (7, .sptr [(4, 1)]), (8, .sptr [(5, 1)]), (21, .agg [⟨.u8, 8, (fun z => (g9 (((8 + (((g3 0)).toNat * 64)) + (l0.toNat * 8)) + z)))⟩]), (22, .int .i64 (x10))], [⟨false, .avs [.sptr [(6, 2), (7, 1104)]]⟩, ⟨false, .ints .i64 1 g3⟩, ⟨false, .ints .i64 2 g4⟩, ⟨true, .ints .u8 64 g11⟩, ⟨false, .ints .i64 1 g6⟩, ⟨false, .ints .i64 1 g7⟩, ⟨false, .ints .i64 2 g8⟩, ⟨false, .ints .u8 1104 g9⟩]⟩

noncomputable def impl_Hopf_tensor_c1_c1.sx0_0 (g3 : Nat → Int) (g4 : Nat → Int) (g6 : Nat → Int) (g7 : Nat → Int) (g8 : Nat → Int) (g9 : Nat → Int) (o13 : Nat → Int) : St := ⟨sl 48 [], [⟨false, .avs [.sptr [(6, 2), (7, 1104)]]⟩, ⟨false, .ints .i64 1 g3⟩, ⟨false, .ints .i64 2 g4⟩, ⟨true, .ints .u8 64 o13⟩, ⟨false, .ints .i64 1 g6⟩, ⟨false, .ints .i64 1 g7⟩, ⟨false, .ints .i64 2 g8⟩, ⟨false, .ints .u8 1104 g9⟩]⟩

theorem impl_Hopf_tensor_c1_c1.b0_gen {ρ : Type} (N : Nat) (K : AV → Heap → Option ρ) (L0 : St → Option ρ) (kv : XE → St → Option ρ) (l0 : Int) (m1 : Int) (y2 : Int) (g3 : Nat → Int) (g4 : Nat → Int) (g5 : Nat → Int) (g6 : Nat → Int) (g7 : Nat → Int) (g8 : Nat → Int) (g9 : Nat → Int) (x10 : Int) (g11 : Nat → Int) :
    xcode (E63 N) ents impl_Hopf_tensor_c1_c1.kp 8 N (cL (cK (cB impl_Hopf_tensor_c1_c1.bd))) 0 (impl_Hopf_tensor_c1_c1.st0 l0 m1 y2 g3 g4 g6 g7 g8 g9 x10 g11) (roundK impl_Hopf_tensor_c1_c1.kp 8 0 L0 (mixK (impl_Hopf_tensor_c1_c1.fin N K g3 g4 g5 g6 g7 g8 g9 .ret) kv)) = (impl_Hopf_tensor_c1_c1.b0 N (fun d0 => K (.tup []) [⟨false, .avs [.sptr [(6, 2), (7, 1104)]]⟩, ⟨false, .ints .i64 1 g3⟩, ⟨false, .ints .i64 2 g4⟩, ⟨true, .ints .u8 64 d0⟩, ⟨false, .ints .i64 1 g6⟩, ⟨false, .ints .i64 1 g7⟩, ⟨false, .ints .i64 2 g8⟩, ⟨false, .ints .u8 1104 g9⟩]) (fun x10 g11 => L0 (impl_Hopf_tensor_c1_c1.st0 l0 m1 y2 g3 g4 g6 g7 g8 g9 x10 g11)) (fun o13 => kv (.exit 0) (impl_Hopf_tensor_c1_c1.sx0_0 g3 g4 g6 g7 g8 g9 o13)) l0 m1 y2 g3 g4 g6 g7 g9 x10 g11) := by kernel_rfl

theorem impl_Hopf_tensor_c1_c1.b0_eq {ρ : Type} (N : Nat) (K : AV → Heap → Option ρ) (L0 : St → Option ρ) (l0 : Int) (m1 : Int) (y2 : Int) (g3 : Nat → Int) (g4 : Nat → Int) (g5 : Nat → Int) (g6 : Nat → Int) (g7 : Nat → Int) (g8 : Nat → Int) (g9 : Nat → Int) (x10 : Int) (g11 : Nat → Int) :
    xcode (E63 N) ents impl_Hopf_tensor_c1_c1.kp 8 N (cL (cK (cB impl_Hopf_tensor_c1_c1.bd))) 0 (impl_Hopf_tensor_c1_c1.st0 l0 m1 y2 g3 g4 g6 g7 g8 g9 x10 g11) (roundK impl_Hopf_tensor_c1_c1.kp 8 0 L0 (impl_Hopf_tensor_c1_c1.k0 N K g3 g4 g5 g6 g7 g8 g9)) = (impl_Hopf_tensor_c1_c1.b0 N (fun d0 => K (.tup []) [⟨false, .avs [.sptr [(6, 2), (7, 1104)]]⟩, ⟨false, .ints .i64 1 g3⟩, ⟨false, .ints .i64 2 g4⟩, ⟨true, .ints .u8 64 d0⟩, ⟨false, .ints .i64 1 g6⟩, ⟨false, .ints .i64 1 g7⟩, ⟨false, .ints .i64 2 g8⟩, ⟨false, .ints .u8 1104 g9⟩]) (fun x10 g11 => L0 (impl_Hopf_tensor_c1_c1.st0 l0 m1 y2 g3 g4 g6 g7 g8 g9 x10 g11)) (fun o13 => (impl_Hopf_tensor_c1_c1.k0 N K g3 g4 g5 g6 g7 g8 g9) (.exit 0) (impl_Hopf_tensor_c1_c1.sx0_0 g3 g4 g6 g7 g8 g9 o13)) l0 m1 y2 g3 g4 g6 g7 g9 x10 g11) := by
  have h := impl_Hopf_tensor_c1_c1.b0_gen N K L0 (impl_Hopf_tensor_c1_c1.k0 N K g3 g4 g5 g6 g7 g8 g9) l0 m1 y2 g3 g4 g5 g6 g7 g8 g9 x10 g11
  rw [impl_Hopf_tensor_c1_c1.k0_mix] at h
  exact h

theorem impl_Hopf_tensor_c1_c1.a0_0_eq {ρ : Type} (N : Nat) (K : AV → Heap → Option ρ) (g3 : Nat → Int) (g4 : Nat → Int) (g5 : Nat → Int) (g6 : Nat → Int) (g7 : Nat → Int) (g8 : Nat → Int) (g9 : Nat → Int) (o13 : Nat → Int) :
    (impl_Hopf_tensor_c1_c1.k0 N K g3 g4 g5 g6 g7 g8 g9) (.exit 0) (impl_Hopf_tensor_c1_c1.sx0_0 g3 g4 g6 g7 g8 g9 o13) = (impl_Hopf_tensor_c1_c1.a0_0 N (fun d0 => K (.tup []) [⟨false, .avs [.sptr [(6, 2), (7, 1104)]]⟩, ⟨false, .ints .i64 1 g3⟩, ⟨false, .ints .i64 2 g4⟩, ⟨true, .ints .u8 64 d0⟩, ⟨false, .ints .i64 1 g6⟩, ⟨false, .ints .i64 1 g7⟩, ⟨false, .ints .i64 2 g8⟩, ⟨false, .ints .u8 1104 g9⟩]) o13) := by kernel_rfl

theorem impl_Hopf_tensor_c1_c1.l0_eq {ρ : Type} (N : Nat) (K : AV → Heap → Option ρ) (l0 : Int) (m1 : Int) (y2 : Int) (g3 : Nat → Int) (g4 : Nat → Int) (g5 : Nat → Int) (g6 : Nat → Int) (g7 : Nat → Int) (g8 : Nat → Int) (g9 : Nat → Int) :
    ∀ (m : Nat) (x10 : Int) (g11 : Nat → Int), xloop (xcode (E63 N) ents impl_Hopf_tensor_c1_c1.kp 8 N (cL (cK (cB impl_Hopf_tensor_c1_c1.bd))) 0) impl_Hopf_tensor_c1_c1.kp 8 0 m (impl_Hopf_tensor_c1_c1.st0 l0 m1 y2 g3 g4 g6 g7 g8 g9 x10 g11) (impl_Hopf_tensor_c1_c1.k0 N K g3 g4 g5 g6 g7 g8 g9) = (impl_Hopf_tensor_c1_c1.l0 N (fun d0 => K (.tup []) [⟨false, .avs [.sptr [(6, 2), (7, 1104)]]⟩, ⟨false, .ints .i64 1 g3⟩, ⟨false, .ints .i64 2 g4⟩, ⟨true, .ints .u8 64 d0⟩, ⟨false, .ints .i64 1 g6⟩, ⟨false, .ints .i64 1 g7⟩, ⟨false, .ints .i64 2 g8⟩, ⟨false, .ints .u8 1104 g9⟩]) l0 m1 y2 g3 g4 g6 g7 g9 (fun o13 => (impl_Hopf_tensor_c1_c1.k0 N K g3 g4 g5 g6 g7 g8 g9) (.exit 0) (impl_Hopf_tensor_c1_c1.sx0_0 g3 g4 g6 g7 g8 g9 o13)) m x10 g11) := by
  intro m
  induction m with
  | zero => intros; rfl
  | succ m ih =>
    intro x10 g11
    refine (impl_Hopf_tensor_c1_c1.b0_eq N K (fun s => xloop (xcode (E63 N) ents impl_Hopf_tensor_c1_c1.kp 8 N (cL (cK (cB impl_Hopf_tensor_c1_c1.bd))) 0) impl_Hopf_tensor_c1_c1.kp 8 0 m s (impl_Hopf_tensor_c1_c1.k0 N K g3 g4 g5 g6 g7 g8 g9)) l0 m1 y2 g3 g4 g5 g6 g7 g8 g9 x10 g11).trans ?_
    simp only [ih]
    kernel_rfl

theorem impl_Hopf_tensor_c1_c1.s_eq {ρ : Type} (N : Nat) (K : AV → Heap → Option ρ) (l0 : Int) (m1 : Int) (y2 : Int) (g3 : Nat → Int) (g4 : Nat → Int) (g5 : Nat → Int) (g6 : Nat → Int) (g7 : Nat → Int) (g8 : Nat → Int) (g9 : Nat → Int) :
    xbody (E63 N) ents impl_Hopf_tensor_c1_c1.kp N Go.Proofs.Try.f105 impl_Hopf_tensor_c1_c1.bd [.int .i64 (l0), .int .i64 (m1), .int .i64 (y2), .sptr [(0, 1)], .sptr [(1, 1)], .sptr [(2, 2)], .sptr [(3, 64)], .sptr [(4, 1)], .sptr [(5, 1)]] [⟨false, .avs [.sptr [(6, 2), (7, 1104)]]⟩, ⟨false, .ints .i64 1 g3⟩, ⟨false, .ints .i64 2 g4⟩, ⟨true, .ints .u8 64 g5⟩, ⟨false, .ints .i64 1 g6⟩, ⟨false, .ints .i64 1 g7⟩, ⟨false, .ints .i64 2 g8⟩, ⟨false, .ints .u8 1104 g9⟩] K = (impl_Hopf_tensor_c1_c1.s N (fun d0 => K (.tup []) [⟨false, .avs [.sptr [(6, 2), (7, 1104)]]⟩, ⟨false, .ints .i64 1 g3⟩, ⟨false, .ints .i64 2 g4⟩, ⟨true, .ints .u8 64 d0⟩, ⟨false, .ints .i64 1 g6⟩, ⟨false, .ints .i64 1 g7⟩, ⟨false, .ints .i64 2 g8⟩, ⟨false, .ints .u8 1104 g9⟩]) (fun x10 g11 => xloop (xcode (E63 N) ents impl_Hopf_tensor_c1_c1.kp 8 N (cL (cK (cB impl_Hopf_tensor_c1_c1.bd))) 0) impl_Hopf_tensor_c1_c1.kp 8 0 N (impl_Hopf_tensor_c1_c1.st0 l0 m1 y2 g3 g4 g6 g7 g8 g9 x10 g11) (impl_Hopf_tensor_c1_c1.k0 N K g3 g4 g5 g6 g7 g8 g9)) l0 g3 g5) := by kernel_rfl

theorem impl_Hopf_tensor_c1_c1.eq {ρ : Type} (N : Nat) (K : AV → Heap → Option ρ) (l0 : Int) (m1 : Int) (y2 : Int) (g3 : Nat → Int) (g4 : Nat → Int) (g5 : Nat → Int) (g6 : Nat → Int) (g7 : Nat → Int) (g8 : Nat → Int) (g9 : Nat → Int) :
    xbody (E63 N) ents impl_Hopf_tensor_c1_c1.kp N Go.Proofs.Try.f105 impl_Hopf_tensor_c1_c1.bd [.int .i64 (l0), .int .i64 (m1), .int .i64 (y2), .sptr [(0, 1)], .sptr [(1, 1)], .sptr [(2, 2)], .sptr [(3, 64)], .sptr [(4, 1)], .sptr [(5, 1)]] [⟨false, .avs [.sptr [(6, 2), (7, 1104)]]⟩, ⟨false, .ints .i64 1 g3⟩, ⟨false, .ints .i64 2 g4⟩, ⟨true, .ints .u8 64 g5⟩, ⟨false, .ints .i64 1 g6⟩, ⟨false, .ints .i64 1 g7⟩, ⟨false, .ints .i64 2 g8⟩, ⟨false, .ints .u8 1104 g9⟩] K = (impl_Hopf_tensor_c1_c1 N (fun d0 => K (.tup []) [⟨false, .avs [.sptr [(6, 2), (7, 1104)]]⟩, ⟨false, .ints .i64 1 g3⟩, ⟨false, .ints .i64 2 g4⟩, ⟨true, .ints .u8 64 d0⟩, ⟨false, .ints .i64 1 g6⟩, ⟨false, .ints .i64 1 g7⟩, ⟨false, .ints .i64 2 g8⟩, ⟨false, .ints .u8 1104 g9⟩]) l0 m1 y2 g3 g4 g5 g6 g7 g8 g9) := by
  refine (impl_Hopf_tensor_c1_c1.s_eq N K l0 m1 y2 g3 g4 g5 g6 g7 g8 g9).trans ?_
  simp only [impl_Hopf_tensor_c1_c1.l0_eq, impl_Hopf_tensor_c1_c1.a0_0_eq]
  kernel_rfl

noncomputable def impl_Hopf_tensor_c1_c1.en (N : Nat) (ρ : Type) : List AV → Heap → (AV → Heap → Option ρ) → Option ρ
  | [.int .i64 (l0), .int .i64 (m1), .int .i64 (y2), .sptr [(0, 1)], .sptr [(1, 1)], .sptr [(2, 2)], .sptr [(3, 64)], .sptr [(4, 1)], .sptr [(5, 1)]], [⟨false, .avs [.sptr [(6, 2), (7, 1104)]]⟩, ⟨false, .ints .i64 1 g3⟩, ⟨false, .ints .i64 2 g4⟩, ⟨true, .ints .u8 64 g5⟩, ⟨false, .ints .i64 1 g6⟩, ⟨false, .ints .i64 1 g7⟩, ⟨false, .ints .i64 2 g8⟩, ⟨false, .ints .u8 1104 g9⟩], K => (impl_Hopf_tensor_c1_c1 N (fun d0 => K (.tup []) [⟨false, .avs [.sptr [(6, 2), (7, 1104)]]⟩, ⟨false, .ints .i64 1 g3⟩, ⟨false, .ints .i64 2 g4⟩, ⟨true, .ints .u8 64 d0⟩, ⟨false, .ints .i64 1 g6⟩, ⟨false, .ints .i64 1 g7⟩, ⟨false, .ints .i64 2 g8⟩, ⟨false, .ints .u8 1104 g9⟩]) l0 m1 y2 g3 g4 g5 g6 g7 g8 g9)
  | _, _, _ => none

theorem impl_Hopf_tensor_c1_c1.en_ok (N : Nat) (hE : EnvOk (E63 N) ents) (ρ : Type) (args : List AV) (sh : Heap) (K : AV → Heap → Option ρ) (r : ρ) (h : impl_Hopf_tensor_c1_c1.en N ρ args sh K = some r) : ∃ v sh', K v sh' = some r ∧ FnOk (E63 N).P 105 args sh v sh' := by
  unfold impl_Hopf_tensor_c1_c1.en at h
  split at h
  · exact fn_ok hE (kp := impl_Hopf_tensor_c1_c1.kp) (N := N) Go.Proofs.Try.func105 (c := impl_Hopf_tensor_c1_c1.bd) (by kernel_rfl) ((impl_Hopf_tensor_c1_c1.eq N _ _ _ _ _ _ _ _ _ _ _).trans h)
  · cases h

noncomputable def E64 (N : Nat) : Env := (E63 N).add 105 (impl_Hopf_tensor_c1_c1.en N)

theorem E64_ok (N : Nat) : EnvOk (E64 N) ents := Env.add_ok (E63_ok N) (impl_Hopf_tensor_c1_c1.en_ok N (E63_ok N))

noncomputable def impl_pairs_f_v2.kp : Keeps := ⟨[(0, [0, 1, 7], 9), (2, [0, 1, 4, 7, 14, 15], 9)], [(0, [], 9), (2, [0, 1, 7], 9)]⟩

noncomputable def impl_pairs_f_v2.bd : Code := bodyOf Go.Proofs.Try.f103

noncomputable def impl_pairs_f_v2.fin {ρ : Type} (N : Nat) (K : AV → Heap → Option ρ) (g0 : Nat → Int) (g1 : Nat → Int) (g2 : Nat → Int) (g3 : Nat → Int) (g4 : Nat → Int) (g5 : Nat → Int) (g6 : Nat → Int) (g7 : Nat → Int) : XE → St → Option ρ := finK (E64 N) Go.Proofs.Try.f103 [⟨false, .ints .u8 64 g0⟩, ⟨true, .avs [.sptr [(7, 2), (8, 1104)]]⟩, ⟨true, .ints .i64 1 g1⟩, ⟨true, .ints .i64 2 g2⟩, ⟨true, .ints .u8 64 g3⟩, ⟨true, .ints .i64 1 g4⟩, ⟨true, .ints .i64 1 g5⟩, ⟨false, .ints .i64 2 g6⟩, ⟨false, .ints .u8 1104 g7⟩] K

noncomputable def impl_pairs_f_v2.k0 {ρ : Type} (N : Nat) (K : AV → Heap → Option ρ) (g0 : Nat → Int) (g1 : Nat → Int) (g2 : Nat → Int) (g3 : Nat → Int) (g4 : Nat → Int) (g5 : Nat → Int) (g6 : Nat → Int) (g7 : Nat → Int) : XE → St → Option ρ := (blockK impl_pairs_f_v2.kp 9 0 (impl_pairs_f_v2.fin N K g0 g1 g2 g3 g4 g5 g6 g7))

theorem impl_pairs_f_v2.k0_mix {ρ : Type} (N : Nat) (K : AV → Heap → Option ρ) (g0 : Nat → Int) (g1 : Nat → Int) (g2 : Nat → Int) (g3 : Nat → Int) (g4 : Nat → Int) (g5 : Nat → Int) (g6 : Nat → Int) (g7 : Nat → Int) : mixK (impl_pairs_f_v2.fin N K g0 g1 g2 g3 g4 g5 g6 g7 .ret) (impl_pairs_f_v2.k0 N K g0 g1 g2 g3 g4 g5 g6 g7) = (impl_pairs_f_v2.k0 N K g0 g1 g2 g3 g4 g5 g6 g7) := by
  funext e s; cases e <;> rfl

noncomputable def impl_pairs_f_v2.st0 (g0 : Nat → Int) (g1 : Nat → Int) (g2 : Nat → Int) (g4 : Nat → Int) (g5 : Nat → Int) (g6 : Nat → Int) (g7 : Nat → Int) (x8 : Int) (g9 : Nat → Int) : St := ⟨sl 29 [(0, .sptr [(0, 64)]), (1, .fn 105 0 [[(1, 1)], [(2, 1)], [(3, 2)], [(4, 64)], [(5, 1)], [(6, 1)]]), (7, .int .i64 (x8))], [⟨false, .ints .u8 64 g0⟩, ⟨true, .avs [.sptr [(7, 2), (8, 1104)]]⟩, ⟨true, .ints .i64 1 g1⟩, ⟨true, .ints .i64 2 g2⟩, ⟨true, .ints .u8 64 g9⟩, ⟨true, .ints .i64 1 g4⟩, ⟨true, .ints .i64 1 g5⟩, ⟨false, .ints .i64 2 g6⟩, ⟨false, .ints .u8 1104 g7⟩]⟩

noncomputable def impl_pairs_f_v2.sx0_0 (g0 : Nat → Int) (g1 : Nat → Int) (g2 : Nat → Int) (g4 : Nat → Int) (g5 : Nat → Int) (g6 : Nat → Int) (g7 : Nat → Int) (o14 : Nat → Int) : St := ⟨sl 29 [], [⟨false, .ints .u8 64 g0⟩, ⟨true, .avs [.sptr [(7, 2), (8, 1104)]]⟩, ⟨true, .ints .i64 1 g1⟩, ⟨true, .ints .i64 2 g2⟩, ⟨true, .ints .u8 64 o14⟩, ⟨true, .ints .i64 1 g4⟩, ⟨true, .ints .i64 1 g5⟩, ⟨false, .ints .i64 2 g6⟩, ⟨false, .ints .u8 1104 g7⟩]⟩

noncomputable def impl_pairs_f_v2.k1g {ρ : Type} (N : Nat) (L0 : St → Option ρ) (kv : XE → St → Option ρ) : XE → St → Option ρ := (blockK impl_pairs_f_v2.kp 9 2 (blockK impl_pairs_f_v2.kp 9 1 (seqK (xcode (E64 N) ents impl_pairs_f_v2.kp 9 N (cB (cB (cB (cL (cK (cB impl_pairs_f_v2.bd)))))) 0) (roundK impl_pairs_f_v2.kp 9 0 L0 kv))))

theorem impl_pairs_f_v2.k1_mix {ρ : Type} (N : Nat) (K : AV → Heap → Option ρ) (L0 : St → Option ρ) (g0 : Nat → Int) (g1 : Nat → Int) (g2 : Nat → Int) (g3 : Nat → Int) (g4 : Nat → Int) (g5 : Nat → Int) (g6 : Nat → Int) (g7 : Nat → Int) : mixK (impl_pairs_f_v2.fin N K g0 g1 g2 g3 g4 g5 g6 g7 .ret) (impl_pairs_f_v2.k1g N L0 (impl_pairs_f_v2.k0 N K g0 g1 g2 g3 g4 g5 g6 g7)) = (impl_pairs_f_v2.k1g N L0 (impl_pairs_f_v2.k0 N K g0 g1 g2 g3 g4 g5 g6 g7)) := by
  funext e s; cases e <;> rfl

noncomputable def impl_pairs_f_v2.st1 (g0 : Nat → Int) (g1 : Nat → Int) (g2 : Nat → Int) (g4 : Nat → Int) (g5 : Nat → Int) (g6 : Nat → Int) (g7 : Nat → Int) (x8 : Int) (x10 : Int) (g11 : Nat → Int) : St := ⟨sl 29 [(0, .sptr [(0, 64)]), (1, .fn 105 0 [[(1, 1)], [(2, 1)], [(3, 2)], [(4, 64)], [(5, 1)], [(6, 1)]]), (4, .int .i64 (x8)), (7, .int .i64 (x8)), (14, .agg [⟨.u8, 8, (fun z => (g0 ((x8.toNat * 8) + z)))⟩]), (15, .int .i64 (x10))], [⟨false, .ints .u8 64 g0⟩, ⟨true, .avs [.sptr [(7, 2), (8, 1104)]]⟩, ⟨true, .ints .i64 1 g1⟩, ⟨true, .ints .i64 2 g2⟩, ⟨true, .ints .u8 64 g11⟩, ⟨true, .ints .i64 1 g4⟩, ⟨true, .ints .i64 1 g5⟩, ⟨false, .ints .i64 2 g6⟩, ⟨false, .ints .u8 1104 g7⟩]⟩

noncomputable def impl_pairs_f_v2.sx1_0 (g0 : Nat → Int) (g1 : Nat → Int) (g2 : Nat → Int) (g4 : Nat → Int) (g5 : Nat → Int) (g6 : Nat → Int) (g7 : Nat → Int) (x8 : Int) (o13 : Nat → Int) : St := ⟨sl 29 [(0, .sptr [(0, 64)]), (1, .fn 105 0 [[(1, 1)], [(2, 1)], [(3, 2)], [(4, 64)], [(5, 1)], [(6, 1)]]), (7, .int .i64 (x8))], [⟨false, .ints .u8 64 g0⟩, ⟨true, .avs [.sptr [(7, 2), (8, 1104)]]⟩, ⟨true, .ints .i64 1 g1⟩, ⟨true, .ints .i64 2 g2⟩, ⟨true, .ints .u8 64 o13⟩, ⟨true, .ints .i64 1 g4⟩, ⟨true, .ints .i64 1 g5⟩, ⟨false, .ints .i64 2 g6⟩, ⟨false, .ints .u8 1104 g7⟩]⟩

theorem impl_pairs_f_v2.b1_gen {ρ : Type} (N : Nat) (K : AV → Heap → Option ρ) (L1 : St → Option ρ) (kv : XE → St → Option ρ) (g0 : Nat → Int) (g1 : Nat → Int) (g2 : Nat → Int) (g3 : Nat → Int) (g4 : Nat → Int) (g5 : Nat → Int) (g6 : Nat → Int) (g7 : Nat → Int) (x8 : Int) (x10 : Int) (g11 : Nat → Int) :
    xcode (E64 N) ents impl_pairs_f_v2.kp 9 N (cL (cK (cB (cB (cK (cA (cB (cB (cL (cK (cB impl_pairs_f_v2.bd))))))))))) 2 (impl_pairs_f_v2.st1 g0 g1 g2 g4 g5 g6 g7 x8 x10 g11) (roundK impl_pairs_f_v2.kp 9 2 L1 (mixK (impl_pairs_f_v2.fin N K g0 g1 g2 g3 g4 g5 g6 g7 .ret) kv)) = (impl_pairs_f_v2.b1 N (fun d0 d1 d2 d3 d4 => K (.tup []) [⟨false, .ints .u8 64 g0⟩, ⟨true, .avs [.sptr [(7, 2), (8, 1104)]]⟩, ⟨true, .ints .i64 1 d0⟩, ⟨true, .ints .i64 2 d1⟩, ⟨true, .ints .u8 64 d2⟩, ⟨true, .ints .i64 1 d3⟩, ⟨true, .ints .i64 1 d4⟩, ⟨false, .ints .i64 2 g6⟩, ⟨false, .ints .u8 1104 g7⟩]) (fun x10 g11 => L1 (impl_pairs_f_v2.st1 g0 g1 g2 g4 g5 g6 g7 x8 x10 g11)) (fun o13 => kv (.exit 2) (impl_pairs_f_v2.sx1_0 g0 g1 g2 g4 g5 g6 g7 x8 o13)) g0 g1 g2 g4 g5 g6 g7 x8 x10 g11) := by kernel_rfl

theorem impl_pairs_f_v2.b1_eq {ρ : Type} (N : Nat) (K : AV → Heap → Option ρ) (L0 : St → Option ρ) (L1 : St → Option ρ) (g0 : Nat → Int) (g1 : Nat → Int) (g2 : Nat → Int) (g3 : Nat → Int) (g4 : Nat → Int) (g5 : Nat → Int) (g6 : Nat → Int) (g7 : Nat → Int) (x8 : Int) (x10 : Int) (g11 : Nat → Int) :
    xcode (E64 N) ents impl_pairs_f_v2.kp 9 N (cL (cK (cB (cB (cK (cA (cB (cB (cL (cK (cB impl_pairs_f_v2.bd))))))))))) 2 (impl_pairs_f_v2.st1 g0 g1 g2 g4 g5 g6 g7 x8 x10 g11) (roundK impl_pairs_f_v2.kp 9 2 L1 (impl_pairs_f_v2.k1g N L0 (impl_pairs_f_v2.k0 N K g0 g1 g2 g3 g4 g5 g6 g7))) = (impl_pairs_f_v2.b1 N (fun d0 d1 d2 d3 d4 => K (.tup []) [⟨false, .ints .u8 64 g0⟩, ⟨true, .avs [.sptr [(7, 2), (8, 1104)]]⟩, ⟨true, .ints .i64 1 d0⟩, ⟨true, .ints .i64 2 d1⟩, ⟨true, .ints .u8 64 d2⟩, ⟨true, .ints .i64 1 d3⟩, ⟨true, .ints .i64 1 d4⟩, ⟨false, .ints .i64 2 g6⟩, ⟨false, .ints .u8 1104 g7⟩]) (fun x10 g11 => L1 (impl_pairs_f_v2.st1 g0 g1 g2 g4 g5 g6 g7 x8 x10 g11)) (fun o13 => (impl_pairs_f_v2.k1g N L0 (impl_pairs_f_v2.k0 N K g0 g1 g2 g3 g4 g5 g6 g7)) (.exit 2) (impl_pairs_f_v2.sx1_0 g0 g1 g2 g4 g5 g6 g7 x8 o13)) g0 g1 g2 g4 g5 g6 g7 x8 x10 g11) := by
  have h := impl_pairs_f_v2.b1_gen N K L1 (impl_pairs_f_v2.k1g N L0 (impl_pairs_f_v2.k0 N K g0 g1 g2 g3 g4 g5 g6 g7)) g0 g1 g2 g3 g4 g5 g6 g7 x8 x10 g11
  rw [impl_pairs_f_v2.k1_mix] at h
  exact h

theorem impl_pairs_f_v2.a1_0_gen {ρ : Type} (N : Nat) (K : AV → Heap → Option ρ) (L0 : St → Option ρ) (kv : XE → St → Option ρ) (g0 : Nat → Int) (g1 : Nat → Int) (g2 : Nat → Int) (g3 : Nat → Int) (g4 : Nat → Int) (g5 : Nat → Int) (g6 : Nat → Int) (g7 : Nat → Int) (x8 : Int) (o13 : Nat → Int) :
    (impl_pairs_f_v2.k1g N L0 (mixK (impl_pairs_f_v2.fin N K g0 g1 g2 g3 g4 g5 g6 g7 .ret) kv)) (.exit 2) (impl_pairs_f_v2.sx1_0 g0 g1 g2 g4 g5 g6 g7 x8 o13) = (impl_pairs_f_v2.a1_0 N (fun d0 d1 d2 d3 d4 => K (.tup []) [⟨false, .ints .u8 64 g0⟩, ⟨true, .avs [.sptr [(7, 2), (8, 1104)]]⟩, ⟨true, .ints .i64 1 d0⟩, ⟨true, .ints .i64 2 d1⟩, ⟨true, .ints .u8 64 d2⟩, ⟨true, .ints .i64 1 d3⟩, ⟨true, .ints .i64 1 d4⟩, ⟨false, .ints .i64 2 g6⟩, ⟨false, .ints .u8 1104 g7⟩]) (fun x8 g9 => L0 (impl_pairs_f_v2.st0 g0 g1 g2 g4 g5 g6 g7 x8 g9)) (fun o14 => kv (.exit 0) (impl_pairs_f_v2.sx0_0 g0 g1 g2 g4 g5 g6 g7 o14)) x8 o13) := by kernel_rfl

theorem impl_pairs_f_v2.a1_0_eq {ρ : Type} (N : Nat) (K : AV → Heap → Option ρ) (L0 : St → Option ρ) (g0 : Nat → Int) (g1 : Nat → Int) (g2 : Nat → Int) (g3 : Nat → Int) (g4 : Nat → Int) (g5 : Nat → Int) (g6 : Nat → Int) (g7 : Nat → Int) (x8 : Int) (o13 : Nat → Int) :
    (impl_pairs_f_v2.k1g N L0 (impl_pairs_f_v2.k0 N K g0 g1 g2 g3 g4 g5 g6 g7)) (.exit 2) (impl_pairs_f_v2.sx1_0 g0 g1 g2 g4 g5 g6 g7 x8 o13) = (impl_pairs_f_v2.a1_0 N (fun d0 d1 d2 d3 d4 => K (.tup []) [⟨false, .ints .u8 64 g0⟩, ⟨true, .avs [.sptr [(7, 2), (8, 1104)]]⟩, ⟨true, .ints .i64 1 d0⟩, ⟨true, .ints .i64 2 d1⟩, ⟨true, .ints .u8 64 d2⟩, ⟨true, .ints .i64 1 d3⟩, ⟨true, .ints .i64 1 d4⟩, ⟨false, .ints .i64 2 g6⟩, ⟨false, .ints .u8 1104 g7⟩]) (fun x8 g9 => L0 (impl_pairs_f_v2.st0 g0 g1 g2 g4 g5 g6 g7 x8 g9)) (fun o14 => (impl_pairs_f_v2.k0 N K g0 g1 g2 g3 g4 g5 g6 g7) (.exit 0) (impl_pairs_f_v2.sx0_0 g0 g1 g2 g4 g5 g6 g7 o14)) x8 o13) := by
  have h := impl_pairs_f_v2.a1_0_gen N K L0 (impl_pairs_f_v2.k0 N K g0 g1 g2 g3 g4 g5 g6 g7) g0 g1 g2 g3 g4 g5 g6 g7 x8 o13
  rw [impl_pairs_f_v2.k0_mix] at h
  exact h

theorem impl_pairs_f_v2.b0_gen {ρ : Type} (N : Nat) (K : AV → Heap → Option ρ) (L0 : St → Option ρ) (kv : XE → St → Option ρ) (g0 : Nat → Int) (g1 : Nat → Int) (g2 : Nat → Int) (g3 : Nat → Int) (g4 : Nat → Int) (g5 : Nat → Int) (g6 : Nat → Int) (g7 : Nat → Int) (x8 : Int) (g9 : Nat → Int) :
    xcode (E64 N) ents impl_pairs_f_v2.kp 9 N (cL (cK (cB impl_pairs_f_v2.bd))) 0 (impl_pairs_f_v2.st0 g0 g1 g2 g4 g5 g6 g7 x8 g9) (roundK impl_pairs_f_v2.kp 9 0 L0 (mixK (impl_pairs_f_v2.fin N K g0 g1 g2 g3 g4 g5 g6 g7 .ret) kv)) = (impl_pairs_f_v2.b0 N (fun d0 d1 d2 d3 d4 => K (.tup []) [⟨false, .ints .u8 64 g0⟩, ⟨true, .avs [.sptr [(7, 2), (8, 1104)]]⟩, ⟨true, .ints .i64 1 d0⟩, ⟨true, .ints .i64 2 d1⟩, ⟨true, .ints .u8 64 d2⟩, ⟨true, .ints .i64 1 d3⟩, ⟨true, .ints .i64 1 d4⟩, ⟨false, .ints .i64 2 g6⟩, ⟨false, .ints .u8 1104 g7⟩]) (fun x10 g11 => xloop (xcode (E64 N) ents impl_pairs_f_v2.kp 9 N (cL (cK (cB (cB (cK (cA (cB (cB (cL (cK (cB impl_pairs_f_v2.bd))))))))))) 2) impl_pairs_f_v2.kp 9 2 N (impl_pairs_f_v2.st1 g0 g1 g2 g4 g5 g6 g7 x8 x10 g11) (impl_pairs_f_v2.k1g N L0 (mixK (impl_pairs_f_v2.fin N K g0 g1 g2 g3 g4 g5 g6 g7 .ret) kv))) (fun x8 g9 => L0 (impl_pairs_f_v2.st0 g0 g1 g2 g4 g5 g6 g7 x8 g9)) (fun o14 => kv (.exit 0) (impl_pairs_f_v2.sx0_0 g0 g1 g2 g4 g5 g6 g7 o14)) x8 g9) := by kernel_rfl

theorem impl_pairs_f_v2.b0_eq {ρ : Type} (N : Nat) (K : AV → Heap → Option ρ) (L0 : St → Option ρ) (g0 : Nat → Int) (g1 : Nat → Int) (g2 : Nat → Int) (g3 : Nat → Int) (g4 : Nat → Int) (g5 : Nat → Int) (g6 : Nat → Int) (g7 : Nat → Int) (x8 : Int) (g9 : Nat → Int) :
    xcode (E64 N) ents impl_pairs_f_v2.kp 9 N (cL (cK (cB impl_pairs_f_v2.bd))) 0 (impl_pairs_f_v2.st0 g0 g1 g2 g4 g5 g6 g7 x8 g9) (roundK impl_pairs_f_v2.kp 9 0 L0 (impl_pairs_f_v2.k0 N K g0 g1 g2 g3 g4 g5 g6 g7)) = (impl_pairs_f_v2.b0 N (fun d0 d1 d2 d3 d4 => K (.tup []) [⟨false, .ints .u8 64 g0⟩, ⟨true, .avs [.sptr [(7, 2), (8, 1104)]]⟩, ⟨true, .ints .i64 1 d0⟩, ⟨true, .ints .i64 2 d1⟩, ⟨true, .ints .u8 64 d2⟩, ⟨true, .ints .i64 1 d3⟩, ⟨true, .ints .i64 1 d4⟩, ⟨false, .ints .i64 2 g6⟩, ⟨false, .ints .u8 1104 g7⟩]) (fun x10 g11 => xloop (xcode (E64 N) ents impl_pairs_f_v2.kp 9 N (cL (cK (cB (cB (cK (cA (cB (cB (cL (cK (cB impl_pairs_f_v2.bd))))))))))) 2) impl_pairs_f_v2.kp 9 2 N (impl_pairs_f_v2.st1 g0 g1 g2 g4 g5 g6 g7 x8 x10 g11) (impl_pairs_f_v2.k1g N L0 (impl_pairs_f_v2.k0 N K g0 g1 g2 g3 g4 g5 g6 g7))) (fun x8 g9 => L0 (impl_pairs_f_v2.st0 g0 g1 g2 g4 g5 g6 g7 x8 g9)) (fun o14 => (impl_pairs_f_v2.k0 N K g0 g1 g2 g3 g4 g5 g6 g7) (.exit 0) (impl_pairs_f_v2.sx0_0 g0 g1 g2 g4 g5 g6 g7 o14)) x8 g9) := by
  have h := impl_pairs_f_v2.b0_gen N K L0 (impl_pairs_f_v2.k0 N K g0 g1 g2 g3 g4 g5 g6 g7) g0 g1 g2 g3 g4 g5 g6 g7 x8 g9
  rw [impl_pairs_f_v2.k0_mix] at h
  exact h

theorem impl_pairs_f_v2.a0_0_eq {ρ : Type} (N : Nat) (K : AV → Heap → Option ρ) (g0 : Nat → Int) (g1 : Nat → Int) (g2 : Nat → Int) (g3 : Nat → Int) (g4 : Nat → Int) (g5 : Nat → Int) (g6 : Nat → Int) (g7 : Nat → Int) (o14 : Nat → Int) :
    (impl_pairs_f_v2.k0 N K g0 g1 g2 g3 g4 g5 g6 g7) (.exit 0) (impl_pairs_f_v2.sx0_0 g0 g1 g2 g4 g5 g6 g7 o14) = (impl_pairs_f_v2.a0_0 N (fun d0 d1 d2 d3 d4 => K (.tup []) [⟨false, .ints .u8 64 g0⟩, ⟨true, .avs [.sptr [(7, 2), (8, 1104)]]⟩, ⟨true, .ints .i64 1 d0⟩, ⟨true, .ints .i64 2 d1⟩, ⟨true, .ints .u8 64 d2⟩, ⟨true, .ints .i64 1 d3⟩, ⟨true, .ints .i64 1 d4⟩, ⟨false, .ints .i64 2 g6⟩, ⟨false, .ints .u8 1104 g7⟩]) g1 g2 g4 g5 o14) := by kernel_rfl

theorem impl_pairs_f_v2.l1_eq {ρ : Type} (N : Nat) (K : AV → Heap → Option ρ) (L0 : St → Option ρ) (g0 : Nat → Int) (g1 : Nat → Int) (g2 : Nat → Int) (g3 : Nat → Int) (g4 : Nat → Int) (g5 : Nat → Int) (g6 : Nat → Int) (g7 : Nat → Int) (x8 : Int) :
    ∀ (m : Nat) (x10 : Int) (g11 : Nat → Int), xloop (xcode (E64 N) ents impl_pairs_f_v2.kp 9 N (cL (cK (cB (cB (cK (cA (cB (cB (cL (cK (cB impl_pairs_f_v2.bd))))))))))) 2) impl_pairs_f_v2.kp 9 2 m (impl_pairs_f_v2.st1 g0 g1 g2 g4 g5 g6 g7 x8 x10 g11) (impl_pairs_f_v2.k1g N L0 (impl_pairs_f_v2.k0 N K g0 g1 g2 g3 g4 g5 g6 g7)) = (impl_pairs_f_v2.l1 N (fun d0 d1 d2 d3 d4 => K (.tup []) [⟨false, .ints .u8 64 g0⟩, ⟨true, .avs [.sptr [(7, 2), (8, 1104)]]⟩, ⟨true, .ints .i64 1 d0⟩, ⟨true, .ints .i64 2 d1⟩, ⟨true, .ints .u8 64 d2⟩, ⟨true, .ints .i64 1 d3⟩, ⟨true, .ints .i64 1 d4⟩, ⟨false, .ints .i64 2 g6⟩, ⟨false, .ints .u8 1104 g7⟩]) g0 g1 g2 g4 g5 g6 g7 x8 (fun o13 => (impl_pairs_f_v2.k1g N L0 (impl_pairs_f_v2.k0 N K g0 g1 g2 g3 g4 g5 g6 g7)) (.exit 2) (impl_pairs_f_v2.sx1_0 g0 g1 g2 g4 g5 g6 g7 x8 o13)) m x10 g11) := by
  intro m
  induction m with
  | zero => intros; rfl
  | succ m ih =>
    intro x10 g11
    refine (impl_pairs_f_v2.b1_eq N K L0 (fun s => xloop (xcode (E64 N) ents impl_pairs_f_v2.kp 9 N (cL (cK (cB (cB (cK (cA (cB (cB (cL (cK (cB impl_pairs_f_v2.bd))))))))))) 2) impl_pairs_f_v2.kp 9 2 m s (impl_pairs_f_v2.k1g N L0 (impl_pairs_f_v2.k0 N K g0 g1 g2 g3 g4 g5 g6 g7))) g0 g1 g2 g3 g4 g5 g6 g7 x8 x10 g11).trans ?_
    simp only [ih]
    kernel_rfl

theorem impl_pairs_f_v2.l0_eq {ρ : Type} (N : Nat) (K : AV → Heap → Option ρ) (g0 : Nat → Int) (g1 : Nat → Int) (g2 : Nat → Int) (g3 : Nat → Int) (g4 : Nat → Int) (g5 : Nat → Int) (g6 : Nat → Int) (g7 : Nat → Int) :
    ∀ (m : Nat) (x8 : Int) (g9 : Nat → Int), xloop (xcode (E64 N) ents impl_pairs_f_v2.kp 9 N (cL (cK (cB impl_pairs_f_v2.bd))) 0) impl_pairs_f_v2.kp 9 0 m (impl_pairs_f_v2.st0 g0 g1 g2 g4 g5 g6 g7 x8 g9) (impl_pairs_f_v2.k0 N K g0 g1 g2 g3 g4 g5 g6 g7) = (impl_pairs_f_v2.l0 N (fun d0 d1 d2 d3 d4 => K (.tup []) [⟨false, .ints .u8 64 g0⟩, ⟨true, .avs [.sptr [(7, 2), (8, 1104)]]⟩, ⟨true, .ints .i64 1 d0⟩, ⟨true, .ints .i64 2 d1⟩, ⟨true, .ints .u8 64 d2⟩, ⟨true, .ints .i64 1 d3⟩, ⟨true, .ints .i64 1 d4⟩, ⟨false, .ints .i64 2 g6⟩, ⟨false, .ints .u8 1104 g7⟩]) g0 g1 g2 g4 g5 g6 g7 (fun o14 => (impl_pairs_f_v2.k0 N K g0 g1 g2 g3 g4 g5 g6 g7) (.exit 0) (impl_pairs_f_v2.sx0_0 g0 g1 g2 g4 g5 g6 g7 o14)) m x8 g9) := by
  intro m
  induction m with
  | zero => intros; rfl
  | succ m ih =>
    intro x8 g9
    refine (impl_pairs_f_v2.b0_eq N K (fun s => xloop (xcode (E64 N) ents impl_pairs_f_v2.kp 9 N (cL (cK (cB impl_pairs_f_v2.bd))) 0) impl_pairs_f_v2.kp 9 0 m s (impl_pairs_f_v2.k0 N K g0 g1 g2 g3 g4 g5 g6 g7)) g0 g1 g2 g3 g4 g5 g6 g7 x8 g9).trans ?_
    simp only [ih, impl_pairs_f_v2.l1_eq, impl_pairs_f_v2.a1_0_eq]
    kernel_rfl

theorem impl_pairs_f_v2.s_eq {ρ : Type} (N : Nat) (K : AV → Heap → Option ρ) (g0 : Nat → Int) (g1 : Nat → Int) (g2 : Nat → Int) (g3 : Nat → Int) (g4 : Nat → Int) (g5 : Nat → Int) (g6 : Nat → Int) (g7 : Nat → Int) :
    xbody (E64 N) ents impl_pairs_f_v2.kp N Go.Proofs.Try.f103 impl_pairs_f_v2.bd [.sptr [(0, 64)], .fn 105 0 [[(1, 1)], [(2, 1)], [(3, 2)], [(4, 64)], [(5, 1)], [(6, 1)]]] [⟨false, .ints .u8 64 g0⟩, ⟨true, .avs [.sptr [(7, 2), (8, 1104)]]⟩, ⟨true, .ints .i64 1 g1⟩, ⟨true, .ints .i64 2 g2⟩, ⟨true, .ints .u8 64 g3⟩, ⟨true, .ints .i64 1 g4⟩, ⟨true, .ints .i64 1 g5⟩, ⟨false, .ints .i64 2 g6⟩, ⟨false, .ints .u8 1104 g7⟩] K = (impl_pairs_f_v2.s N (fun d0 d1 d2 d3 d4 => K (.tup []) [⟨false, .ints .u8 64 g0⟩, ⟨true, .avs [.sptr [(7, 2), (8, 1104)]]⟩, ⟨true, .ints .i64 1 d0⟩, ⟨true, .ints .i64 2 d1⟩, ⟨true, .ints .u8 64 d2⟩, ⟨true, .ints .i64 1 d3⟩, ⟨true, .ints .i64 1 d4⟩, ⟨false, .ints .i64 2 g6⟩, ⟨false, .ints .u8 1104 g7⟩]) (fun x8 g9 => xloop (xcode (E64 N) ents impl_pairs_f_v2.kp 9 N (cL (cK (cB impl_pairs_f_v2.bd))) 0) impl_pairs_f_v2.kp 9 0 N (impl_pairs_f_v2.st0 g0 g1 g2 g4 g5 g6 g7 x8 g9) (impl_pairs_f_v2.k0 N K g0 g1 g2 g3 g4 g5 g6 g7)) g3) := by kernel_rfl

theorem impl_pairs_f_v2.eq {ρ : Type} (N : Nat) (K : AV → Heap → Option ρ) (g0 : Nat → Int) (g1 : Nat → Int) (g2 : Nat → Int) (g3 : Nat → Int) (g4 : Nat → Int) (g5 : Nat → Int) (g6 : Nat → Int) (g7 : Nat → Int) :
    xbody (E64 N) ents impl_pairs_f_v2.kp N Go.Proofs.Try.f103 impl_pairs_f_v2.bd [.sptr [(0, 64)], .fn 105 0 [[(1, 1)], [(2, 1)], [(3, 2)], [(4, 64)], [(5, 1)], [(6, 1)]]] [⟨false, .ints .u8 64 g0⟩, ⟨true, .avs [.sptr [(7, 2), (8, 1104)]]⟩, ⟨true, .ints .i64 1 g1⟩, ⟨true, .ints .i64 2 g2⟩, ⟨true, .ints .u8 64 g3⟩, ⟨true, .ints .i64 1 g4⟩, ⟨true, .ints .i64 1 g5⟩, ⟨false, .ints .i64 2 g6⟩, ⟨false, .ints .u8 1104 g7⟩] K = (impl_pairs_f_v2 N (fun d0 d1 d2 d3 d4 => K (.tup []) [⟨false, .ints .u8 64 g0⟩, ⟨true, .avs [.sptr [(7, 2), (8, 1104)]]⟩, ⟨true, .ints .i64 1 d0⟩, ⟨true, .ints .i64 2 d1⟩, ⟨true, .ints .u8 64 d2⟩, ⟨true, .ints .i64 1 d3⟩, ⟨true, .ints .i64 1 d4⟩, ⟨false, .ints .i64 2 g6⟩, ⟨false, .ints .u8 1104 g7⟩]) g0 g1 g2 g3 g4 g5 g6 g7) := by
  refine (impl_pairs_f_v2.s_eq N K g0 g1 g2 g3 g4 g5 g6 g7).trans ?_
  simp only [impl_pairs_f_v2.l0_eq, impl_pairs_f_v2.a0_0_eq]
  kernel_rfl

noncomputable def impl_pairs_f_v2.en (N : Nat) (ρ : Type) : List AV → Heap → (AV → Heap → Option ρ) → Option ρ
  | [.sptr [(0, 64)], .fn 105 0 [[(1, 1)], [(2, 1)], [(3, 2)], [(4, 64)], [(5, 1)], [(6, 1)]]], [⟨false, .ints .u8 64 g0⟩, ⟨true, .avs [.sptr [(7, 2), (8, 1104)]]⟩, ⟨true, .ints .i64 1 g1⟩, ⟨true, .ints .i64 2 g2⟩, ⟨true, .ints .u8 64 g3⟩, ⟨true, .ints .i64 1 g4⟩, ⟨true, .ints .i64 1 g5⟩, ⟨false, .ints .i64 2 g6⟩, ⟨false, .ints .u8 1104 g7⟩], K => (impl_pairs_f_v2 N (fun d0 d1 d2 d3 d4 => K (.tup []) [⟨false, .ints .u8 64 g0⟩, ⟨true, .avs [.sptr [(7, 2), (8, 1104)]]⟩, ⟨true, .ints .i64 1 d0⟩, ⟨true, .ints .i64 2 d1⟩, ⟨true, .ints .u8 64 d2⟩, ⟨true, .ints .i64 1 d3⟩, ⟨true, .ints .i64 1 d4⟩, ⟨false, .ints .i64 2 g6⟩, ⟨false, .ints .u8 1104 g7⟩]) g0 g1 g2 g3 g4 g5 g6 g7)
  | _, _, _ => none

theorem impl_pairs_f_v2.en_ok (N : Nat) (hE : EnvOk (E64 N) ents) (ρ : Type) (args : List AV) (sh : Heap) (K : AV → Heap → Option ρ) (r : ρ) (h : impl_pairs_f_v2.en N ρ args sh K = some r) : ∃ v sh', K v sh' = some r ∧ FnOk (E64 N).P 103 args sh v sh' := by
  unfold impl_pairs_f_v2.en at h
  split at h
  · exact fn_ok hE (kp := impl_pairs_f_v2.kp) (N := N) Go.Proofs.Try.func103 (c := impl_pairs_f_v2.bd) (by kernel_rfl) ((impl_pairs_f_v2.eq N _ _ _ _ _ _ _ _ _).trans h)
  · cases h

noncomputable def E65 (N : Nat) : Env := (E64 N).add 103 (impl_pairs_f_v2.en N)

theorem E65_ok (N : Nat) : EnvOk (E65 N) ents := Env.add_ok (E64_ok N) (impl_pairs_f_v2.en_ok N (E64_ok N))

noncomputable def impl_Hopf_tensor_c1.kp : Keeps := ⟨[], []⟩

noncomputable def impl_Hopf_tensor_c1.bd : Code := bodyOf Go.Proofs.Try.f104

noncomputable def impl_Hopf_tensor_c1.fin {ρ : Type} (N : Nat) (K : AV → Heap → Option ρ) (g3 : Nat → Int) (g4 : Nat → Int) (g5 : Nat → Int) (g6 : Nat → Int) (g7 : Nat → Int) : XE → St → Option ρ := finK (E65 N) Go.Proofs.Try.f104 [⟨false, .avs [.sptr [(4, 64)]]⟩, ⟨true, .avs [.sptr [(5, 2), (6, 1104)]]⟩, ⟨true, .ints .i64 2 g3⟩, ⟨true, .ints .u8 64 g4⟩, ⟨false, .ints .u8 64 g5⟩, ⟨false, .ints .i64 2 g6⟩, ⟨false, .ints .u8 1104 g7⟩] K

theorem impl_Hopf_tensor_c1.eq {ρ : Type} (N : Nat) (K : AV → Heap → Option ρ) (j0 : Int) (k1 : Int) (x2 : Int) (g3 : Nat → Int) (g4 : Nat → Int) (g5 : Nat → Int) (g6 : Nat → Int) (g7 : Nat → Int) :
    xbody (E65 N) ents impl_Hopf_tensor_c1.kp N Go.Proofs.Try.f104 impl_Hopf_tensor_c1.bd [.int .i64 (j0), .int .i64 (k1), .int .i64 (x2), .sptr [(0, 1)], .sptr [(1, 1)], .sptr [(2, 2)], .sptr [(3, 64)]] [⟨false, .avs [.sptr [(4, 64)]]⟩, ⟨true, .avs [.sptr [(5, 2), (6, 1104)]]⟩, ⟨true, .ints .i64 2 g3⟩, ⟨true, .ints .u8 64 g4⟩, ⟨false, .ints .u8 64 g5⟩, ⟨false, .ints .i64 2 g6⟩, ⟨false, .ints .u8 1104 g7⟩] K = (impl_Hopf_tensor_c1 N (fun d0 d1 => K (.tup []) [⟨false, .avs [.sptr [(4, 64)]]⟩, ⟨true, .avs [.sptr [(5, 2), (6, 1104)]]⟩, ⟨true, .ints .i64 2 d0⟩, ⟨true, .ints .u8 64 d1⟩, ⟨false, .ints .u8 64 g5⟩, ⟨false, .ints .i64 2 g6⟩, ⟨false, .ints .u8 1104 g7⟩]) j0 k1 x2 g3 g4 g5 g6 g7) := by kernel_rfl

noncomputable def impl_Hopf_tensor_c1.en (N : Nat) (ρ : Type) : List AV → Heap → (AV → Heap → Option ρ) → Option ρ
  | [.int .i64 (j0), .int .i64 (k1), .int .i64 (x2), .sptr [(0, 1)], .sptr [(1, 1)], .sptr [(2, 2)], .sptr [(3, 64)]], [⟨false, .avs [.sptr [(4, 64)]]⟩, ⟨true, .avs [.sptr [(5, 2), (6, 1104)]]⟩, ⟨true, .ints .i64 2 g3⟩, ⟨true, .ints .u8 64 g4⟩, ⟨false, .ints .u8 64 g5⟩, ⟨false, .ints .i64 2 g6⟩, ⟨false, .ints .u8 1104 g7⟩], K => (impl_Hopf_tensor_c1 N (fun d0 d1 => K (.tup []) [⟨false, .avs [.sptr [(4, 64)]]⟩, ⟨true, .avs [.sptr [(5, 2), (6, 1104)]]⟩, ⟨true, .ints .i64 2 d0⟩, ⟨true, .ints .u8 64 d1⟩, ⟨false, .ints .u8 64 g5⟩, ⟨false, .ints .i64 2 g6⟩, ⟨false, .ints .u8 1104 g7⟩]) j0 k1 x2 g3 g4 g5 g6 g7)
  | _, _, _ => none

theorem impl_Hopf_tensor_c1.en_ok (N : Nat) (hE : EnvOk (E65 N) ents) (ρ : Type) (args : List AV) (sh : Heap) (K : AV → Heap → Option ρ) (r : ρ) (h : impl_Hopf_tensor_c1.en N ρ args sh K = some r) : ∃ v sh', K v sh' = some r ∧ FnOk (E65 N).P 104 args sh v sh' := by
  unfold impl_Hopf_tensor_c1.en at h
  split at h
  · exact fn_ok hE (kp := impl_Hopf_tensor_c1.kp) (N := N) Go.Proofs.Try.func104 (c := impl_Hopf_tensor_c1.bd) (by kernel_rfl) ((impl_Hopf_tensor_c1.eq N _ _ _ _ _ _ _ _ _).trans h)
  · cases h

noncomputable def E66 (N : Nat) : Env := (E65 N).add 104 (impl_Hopf_tensor_c1.en N)

theorem E66_ok (N : Nat) : EnvOk (E66 N) ents := Env.add_ok (E65_ok N) (impl_Hopf_tensor_c1.en_ok N (E65_ok N))

noncomputable def impl_pairs_f.kp : Keeps := ⟨[(0, [0, 1, 7], 8), (2, [0, 1, 4, 7, 14, 15], 8)], [(0, [], 8), (2, [0, 1, 7], 8)]⟩

noncomputable def impl_pairs_f.bd : Code := bodyOf Go.Proofs.Try.f103

noncomputable def impl_pairs_f.fin {ρ : Type} (N : Nat) (K : AV → Heap → Option ρ) (g0 : Nat → Int) (g1 : Nat → Int) (g2 : Nat → Int) (g3 : Nat → Int) (g4 : Nat → Int) (g5 : Nat → Int) : XE → St → Option ρ := finK (E66 N) Go.Proofs.Try.f103 [⟨false, .ints .u8 64 g0⟩, ⟨true, .avs [.sptr [(5, 64)]]⟩, ⟨true, .avs [.sptr [(6, 2), (7, 1104)]]⟩, ⟨true, .ints .i64 2 g1⟩, ⟨true, .ints .u8 64 g2⟩, ⟨false, .ints .u8 64 g3⟩, ⟨false, .ints .i64 2 g4⟩, ⟨false, .ints .u8 1104 g5⟩] K

noncomputable def impl_pairs_f.k0 {ρ : Type} (N : Nat) (K : AV → Heap → Option ρ) (g0 : Nat → Int) (g1 : Nat → Int) (g2 : Nat → Int) (g3 : Nat → Int) (g4 : Nat → Int) (g5 : Nat → Int) : XE → St → Option ρ := (blockK impl_pairs_f.kp 8 0 (impl_pairs_f.fin N K g0 g1 g2 g3 g4 g5))

theorem impl_pairs_f.k0_mix {ρ : Type} (N : Nat) (K : AV → Heap → Option ρ) (g0 : Nat → Int) (g1 : Nat → Int) (g2 : Nat → Int) (g3 : Nat → Int) (g4 : Nat → Int) (g5 : Nat → Int) : mixK (impl_pairs_f.fin N K g0 g1 g2 g3 g4 g5 .ret) (impl_pairs_f.k0 N K g0 g1 g2 g3 g4 g5) = (impl_pairs_f.k0 N K g0 g1 g2 g3 g4 g5) := by
  funext e s; cases e <;> rfl

noncomputable def impl_pairs_f.st0 (g0 : Nat → Int) (g3 : Nat → Int) (g4 : Nat → Int) (g5 : Nat → Int) (x6 : Int) (g7 : Nat → Int) (g8 : Nat → Int) : St := ⟨sl 29 [(0, .sptr [(0, 64)]), (1, .fn 104 0 [[(1, 1)], [(2, 1)], [(3, 2)], [(4, 64)]]), (7, .int .i64 (x6))], [⟨false, .ints .u8 64 g0⟩, ⟨true, .avs [.sptr [(5, 64)]]⟩, ⟨true, .avs [.sptr [(6, 2), (7, 1104)]]⟩, ⟨true, .ints .i64 2 g7⟩, ⟨true, .ints .u8 64 g8⟩, ⟨false, .ints .u8 64 g3⟩, ⟨false, .ints .i64 2 g4⟩, ⟨false, .ints .u8 1104 g5⟩]⟩

noncomputable def impl_pairs_f.sx0_0 (g0 : Nat → Int) (g3 : Nat → Int) (g4 : Nat → Int) (g5 : Nat → Int) (o16 : Nat → Int) (o17 : Nat → Int) : St := ⟨sl 29 [], [⟨false, .ints .u8 64 g0⟩, ⟨true, .avs [.sptr [(5, 64)]]⟩, ⟨true, .avs [.sptr [(6, 2), (7, 1104)]]⟩, ⟨true, .ints .i64 2 o16⟩, ⟨true, .ints .u8 64 o17⟩, ⟨false, .ints .u8 64 g3⟩, ⟨false, .ints .i64 2 g4⟩, ⟨false, .ints .u8 1104 g5⟩]⟩

noncomputable def impl_pairs_f.k1g {ρ : Type} (N : Nat) (L0 : St → Option ρ) (kv : XE → St → Option ρ) : XE → St → Option ρ := (blockK impl_pairs_f.kp 8 2 (blockK impl_pairs_f.kp 8 1 (seqK (xcode (E66 N) ents impl_pairs_f.kp 8 N (cB (cB (cB (cL (cK (cB impl_pairs_f.bd)))))) 0) (roundK impl_pairs_f.kp 8 0 L0 kv))))

theorem impl_pairs_f.k1_mix {ρ : Type} (N : Nat) (K : AV → Heap → Option ρ) (L0 : St → Option ρ) (g0 : Nat → Int) (g1 : Nat → Int) (g2 : Nat → Int) (g3 : Nat → Int) (g4 : Nat → Int) (g5 : Nat → Int) : mixK (impl_pairs_f.fin N K g0 g1 g2 g3 g4 g5 .ret) (impl_pairs_f.k1g N L0 (impl_pairs_f.k0 N K g0 g1 g2 g3 g4 g5)) = (impl_pairs_f.k1g N L0 (impl_pairs_f.k0 N K g0 g1 g2 g3 g4 g5)) := by
  funext e s; cases e <;> rfl

noncomputable def impl_pairs_f.st1 (g0 : Nat → Int) (g3 : Nat → Int) (g4 : Nat → Int) (g5 : Nat → Int) (x6 : Int) (x9 : Int) (g10 : Nat → Int) (g11 : Nat → Int) : St := ⟨sl 29 [(0, .sptr [(0, 64)]), (1, .fn 104 0 [[(1, 1)], [(2, 1)], [(3, 2)], [(4, 64)]]), (4, .int .i64 (x6)), (7, .int .i64 (x6)), (14, .agg [⟨.u8, 8, (fun z => (g0 ((x6.toNat * 8) + z)))⟩]), (15, .int .i64 (x9))], [⟨false, .ints .u8 64 g0⟩, ⟨true, .avs [.sptr [(5, 64)]]⟩, ⟨true, .avs [.sptr [(6, 2), (7, 1104)]]⟩, ⟨true, .ints .i64 2 g10⟩, ⟨true, .ints .u8 64 g11⟩, ⟨false, .ints .u8 64 g3⟩, ⟨false, .ints .i64 2 g4⟩, ⟨false, .ints .u8 1104 g5⟩]⟩

noncomputable def impl_pairs_f.sx1_0 (g0 : Nat → Int) (g3 : Nat → Int) (g4 : Nat → Int) (g5 : Nat → Int) (x6 : Int) (o14 : Nat → Int) (o15 : Nat → Int) : St := ⟨sl 29 [(0, .sptr [(0, 64)]), (1, .fn 104 0 [[(1, 1)], [(2, 1)], [(3, 2)], [(4, 64)]]), (7, .int .i64 (x6))], [⟨false, .ints .u8 64 g0⟩, ⟨true, .avs [.sptr [(5, 64)]]⟩, ⟨true, .avs [.sptr [(6, 2), (7, 1104)]]⟩, ⟨true, .ints .i64 2 o14⟩, ⟨true, .ints .u8 64 o15⟩, ⟨false, .ints .u8 64 g3⟩, ⟨false, .ints .i64 2 g4⟩, ⟨false, .ints .u8 1104 g5⟩]⟩

theorem impl_pairs_f.b1_gen {ρ : Type} (N : Nat) (K : AV → Heap → Option ρ) (L1 : St → Option ρ) (kv : XE → St → Option ρ) (g0 : Nat → Int) (g1 : Nat → Int) (g2 : Nat → Int) (g3 : Nat → Int) (g4 : Nat → Int) (g5 : Nat → Int) (x6 : Int) (x9 : Int) (g10 : Nat → Int) (g11 : Nat → Int) :
    xcode (E66 N) ents impl_pairs_f.kp 8 N (cL (cK (cB (cB (cK (cA (cB (cB (cL (cK (cB impl_pairs_f.bd))))))))))) 2 (impl_pairs_f.st1 g0 g3 g4 g5 x6 x9 g10 g11) (roundK impl_pairs_f.kp 8 2 L1 (mixK (impl_pairs_f.fin N K g0 g1 g2 g3 g4 g5 .ret) kv)) = (impl_pairs_f.b1 N (fun d0 d1 => K (.tup []) [⟨false, .ints .u8 64 g0⟩, ⟨true, .avs [.sptr [(5, 64)]]⟩, ⟨true, .avs [.sptr [(6, 2), (7, 1104)]]⟩, ⟨true, .ints .i64 2 d0⟩, ⟨true, .ints .u8 64 d1⟩, ⟨false, .ints .u8 64 g3⟩, ⟨false, .ints .i64 2 g4⟩, ⟨false, .ints .u8 1104 g5⟩]) (fun x9 g10 g11 => L1 (impl_pairs_f.st1 g0 g3 g4 g5 x6 x9 g10 g11)) (fun o14 o15 => kv (.exit 2) (impl_pairs_f.sx1_0 g0 g3 g4 g5 x6 o14 o15)) g0 g3 g4 g5 x6 x9 g10 g11) := by kernel_rfl

theorem impl_pairs_f.b1_eq {ρ : Type} (N : Nat) (K : AV → Heap → Option ρ) (L0 : St → Option ρ) (L1 : St → Option ρ) (g0 : Nat → Int) (g1 : Nat → Int) (g2 : Nat → Int) (g3 : Nat → Int) (g4 : Nat → Int) (g5 : Nat → Int) (x6 : Int) (x9 : Int) (g10 : Nat → Int) (g11 : Nat → Int) :
    xcode (E66 N) ents impl_pairs_f.kp 8 N (cL (cK (cB (cB (cK (cA (cB (cB (cL (cK (cB impl_pairs_f.bd))))))))))) 2 (impl_pairs_f.st1 g0 g3 g4 g5 x6 x9 g10 g11) (roundK impl_pairs_f.kp 8 2 L1 (impl_pairs_f.k1g N L0 (impl_pairs_f.k0 N K g0 g1 g2 g3 g4 g5))) = (impl_pairs_f.b1 N (fun d0 d1 => K (.tup []) [⟨false, .ints .u8 64 g0⟩, ⟨true, .avs [.sptr [(5, 64)]]⟩, ⟨true, .avs [.sptr [(6, 2), (7, 1104)]]⟩, ⟨true, .ints .i64 2 d0⟩, ⟨true, .ints .u8 64 d1⟩, ⟨false, .ints .u8 64 g3⟩, ⟨false, .ints .i64 2 g4⟩, ⟨false, .ints .u8 1104 g5⟩]) (fun x9 g10 g11 => L1 (impl_pairs_f.st1 g0 g3 g4 g5 x6 x9 g10 g11)) (fun o14 o15 => (impl_pairs_f.k1g N L0 (impl_pairs_f.k0 N K g0 g1 g2 g3 g4 g5)) (.exit 2) (impl_pairs_f.sx1_0 g0 g3 g4 g5 x6 o14 o15)) g0 g3 g4 g5 x6 x9 g10 g11) := by
  have h := impl_pairs_f.b1_gen N K L1 (impl_pairs_f.k1g N L0 (impl_pairs_f.k0 N K g0 g1 g2 g3 g4 g5)) g0 g1 g2 g3 g4 g5 x6 x9 g10 g11
  rw [impl_pairs_f.k1_mix] at h
  exact h

theorem impl_pairs_f.a1_0_gen {ρ : Type} (N : Nat) (K : AV → Heap → Option ρ) (L0 : St → Option ρ) (kv : XE → St → Option ρ) (g0 : Nat → Int) (g1 : Nat → Int) (g2 : Nat → Int) (g3 : Nat → Int) (g4 : Nat → Int) (g5 : Nat → Int) (x6 : Int) (o14 : Nat → Int) (o15 : Nat → Int) :
    (impl_pairs_f.k1g N L0 (mixK (impl_pairs_f.fin N K g0 g1 g2 g3 g4 g5 .ret) kv)) (.exit 2) (impl_pairs_f.sx1_0 g0 g3 g4 g5 x6 o14 o15) = (impl_pairs_f.a1_0 N (fun d0 d1 => K (.tup []) [⟨false, .ints .u8 64 g0⟩, ⟨true, .avs [.sptr [(5, 64)]]⟩, ⟨true, .avs [.sptr [(6, 2), (7, 1104)]]⟩, ⟨true, .ints .i64 2 d0⟩, ⟨true, .ints .u8 64 d1⟩, ⟨false, .ints .u8 64 g3⟩, ⟨false, .ints .i64 2 g4⟩, ⟨false, .ints .u8 1104 g5⟩]) (fun x6 g7 g8 => L0 (impl_pairs_f.st0 g0 g3 g4 g5 x6 g7 g8)) (fun o16 o17 => kv (.exit 0) (impl_pairs_f.sx0_0 g0 g3 g4 g5 o16 o17)) x6 o14 o15) := by kernel_rfl

theorem impl_pairs_f.a1_0_eq {ρ : Type} (N : Nat) (K : AV → Heap → Option ρ) (L0 : St → Option ρ) (g0 : Nat → Int) (g1 : Nat → Int) (g2 : Nat → Int) (g3 : Nat → Int) (g4 : Nat → Int) (g5 : Nat → Int) (x6 : Int) (o14 : Nat → Int) (o15 : Nat → Int) :
    (impl_pairs_f.k1g N L0 (impl_pairs_f.k0 N K g0 g1 g2 g3 g4 g5)) (.exit 2) (impl_pairs_f.sx1_0 g0 g3 g4 g5 x6 o14 o15) = (impl_pairs_f.a1_0 N (fun d0 d1 => K (.tup []) [⟨false, .ints .u8 64 g0⟩, ⟨true, .avs [.sptr [(5, 64)]]⟩, ⟨true, .avs [.sptr [(6, 2), (7, 1104)]]⟩, ⟨true, .ints .i64 2 d0⟩, ⟨true, .ints .u8 64 d1⟩, ⟨false, .ints .u8 64 g3⟩, ⟨false, .ints .i64 2 g4⟩, ⟨false, .ints .u8 1104 g5⟩]) (fun x6 g7 g8 => L0 (impl_pairs_f.st0 g0 g3 g4 g5 x6 g7 g8)) (fun o16 o17 => (impl_pairs_f.k0 N K g0 g1 g2 g3 g4 g5) (.exit 0) (impl_pairs_f.sx0_0 g0 g3 g4 g5 o16 o17)) x6 o14 o15) := by
  have h := impl_pairs_f.a1_0_gen N K L0 (impl_pairs_f.k0 N K g0 g1 g2 g3 g4 g5) g0 g1 g2 g3 g4 g5 x6 o14 o15
  rw [impl_pairs_f.k0_mix] at h
  exact h

theorem impl_pairs_f.b0_gen {ρ : Type} (N : Nat) (K : AV → Heap → Option ρ) (L0 : St → Option ρ) (kv : XE → St → Option ρ) (g0 : Nat → Int) (g1 : Nat → Int) (g2 : Nat → Int) (g3 : Nat → Int) (g4 : Nat → Int) (g5 : Nat → Int) (x6 : Int) (g7 : Nat → Int) (g8 : Nat → Int) :
    xcode (E66 N) ents impl_pairs_f.kp 8 N (cL (cK (cB impl_pairs_f.bd))) 0 (impl_pairs_f.st0 g0 g3 g4 g5 x6 g7 g8) (roundK impl_pairs_f.kp 8 0 L0 (mixK (impl_pairs_f.fin N K g0 g1 g2 g3 g4 g5 .ret) kv)) = (impl_pairs_f.b0 N (fun d0 d1 => K (.tup []) [⟨false, .ints .u8 64 g0⟩, ⟨true, .avs [.sptr [(5, 64)]]⟩, ⟨true, .avs [.sptr [(6, 2), (7, 1104)]]⟩, ⟨true, .ints .i64 2 d0⟩, ⟨true, .ints .u8 64 d1⟩, ⟨false, .ints .u8 64 g3⟩, ⟨false, .ints .i64 2 g4⟩, ⟨false, .ints .u8 1104 g5⟩]) (fun x9 g10 g11 => xloop (xcode (E66 N) ents impl_pairs_f.kp 8 N (cL (cK (cB (cB (cK (cA (cB (cB (cL (cK (cB impl_pairs_f.bd))))))))))) 2) impl_pairs_f.kp 8 2 N (impl_pairs_f.st1 g0 g3 g4 g5 x6 x9 g10 g11) (impl_pairs_f.k1g N L0 (mixK (impl_pairs_f.fin N K g0 g1 g2 g3 g4 g5 .ret) kv))) (fun x6 g7 g8 => L0 (impl_pairs_f.st0 g0 g3 g4 g5 x6 g7 g8)) (fun o16 o17 => kv (.exit 0) (impl_pairs_f.sx0_0 g0 g3 g4 g5 o16 o17)) x6 g7 g8) := by kernel_rfl

theorem impl_pairs_f.b0_eq {ρ : Type} (N : Nat) (K : AV → Heap → Option ρ) (L0 : St → Option ρ) (g0 : Nat → Int) (g1 : Nat → Int) (g2 : Nat → Int) (g3 : Nat → Int) (g4 : Nat → Int) (g5 : Nat → Int) (x6 : Int) (g7 : Nat → Int) (g8 : Nat → Int) :
    xcode (E66 N) ents impl_pairs_f.kp 8 N (cL (cK (cB impl_pairs_f.bd))) 0 (impl_pairs_f.st0 g0 g3 g4 g5 x6 g7 g8) (roundK impl_pairs_f.kp 8 0 L0 (impl_pairs_f.k0 N K g0 g1 g2 g3 g4 g5)) = (impl_pairs_f.b0 N (fun d0 d1 => K (.tup []) [⟨false, .ints .u8 64 g0⟩, ⟨true, .avs [.sptr [(5, 64)]]⟩, ⟨true, .avs [.sptr [(6, 2), (7, 1104)]]⟩, ⟨true, .ints .i64 2 d0⟩, ⟨true, .ints .u8 64 d1⟩, ⟨false, .ints .u8 64 g3⟩, ⟨false, .ints .i64 2 g4⟩, ⟨false, .ints .u8 1104 g5⟩]) (fun x9 g10 g11 => xloop (xcode (E66 N) ents impl_pairs_f.kp 8 N (cL (cK (cB (cB (cK (cA (cB (cB (cL (cK (cB impl_pairs_f.bd))))))))))) 2) impl_pairs_f.kp 8 2 N (impl_pairs_f.st1 g0 g3 g4 g5 x6 x9 g10 g11) (impl_pairs_f.k1g N L0 (impl_pairs_f.k0 N K g0 g1 g2 g3 g4 g5))) (fun x6 g7 g8 => L0 (impl_pairs_f.st0 g0 g3 g4 g5 x6 g7 g8)) (fun o16 o17 => (impl_pairs_f.k0 N K g0 g1 g2 g3 g4 g5) (.exit 0) (impl_pairs_f.sx0_0 g0 g3 g4 g5 o16 o17)) x6 g7 g8) := by
  have h := impl_pairs_f.b0_gen N K L0 (impl_pairs_f.k0 N K g0 g1 g2 g3 g4 g5) g0 g1 g2 g3 g4 g5 x6 g7 g8
  rw [impl_pairs_f.k0_mix] at h
  exact h

theorem impl_pairs_f.a0_0_eq {ρ : Type} (N : Nat) (K : AV → Heap → Option ρ) (g0 : Nat → Int) (g1 : Nat → Int) (g2 : Nat → Int) (g3 : Nat → Int) (g4 : Nat → Int) (g5 : Nat → Int) (o16 : Nat → Int) (o17 : Nat → Int) :
    (impl_pairs_f.k0 N K g0 g1 g2 g3 g4 g5) (.exit 0) (impl_pairs_f.sx0_0 g0 g3 g4 g5 o16 o17) = (impl_pairs_f.a0_0 N (fun d0 d1 => K (.tup []) [⟨false, .ints .u8 64 g0⟩, ⟨true, .avs [.sptr [(5, 64)]]⟩, ⟨true, .avs [.sptr [(6, 2), (7, 1104)]]⟩, ⟨true, .ints .i64 2 d0⟩, ⟨true, .ints .u8 64 d1⟩, ⟨false, .ints .u8 64 g3⟩, ⟨false, .ints .i64 2 g4⟩, ⟨false, .ints .u8 1104 g5⟩]) o16 o17) := by kernel_rfl

theorem impl_pairs_f.l1_eq {ρ : Type} (N : Nat) (K : AV → Heap → Option ρ) (L0 : St → Option ρ) (g0 : Nat → Int) (g1 : Nat → Int) (g2 : Nat → Int) (g3 : Nat → Int) (g4 : Nat → Int) (g5 : Nat → Int) (x6 : Int) :
    ∀ (m : Nat) (x9 : Int) (g10 : Nat → Int) (g11 : Nat → Int), xloop (xcode (E66 N) ents impl_pairs_f.kp 8 N (cL (cK (cB (cB (cK (cA (cB (cB (cL (cK (cB impl_pairs_f.bd))))))))))) 2) impl_pairs_f.kp 8 2 m (impl_pairs_f.st1 g0 g3 g4 g5 x6 x9 g10 g11) (impl_pairs_f.k1g N L0 (impl_pairs_f.k0 N K g0 g1 g2 g3 g4 g5)) = (impl_pairs_f.l1 N (fun d0 d1 => K (.tup []) [⟨false, .ints .u8 64 g0⟩, ⟨true, .avs [.sptr [(5, 64)]]⟩, ⟨true, .avs [.sptr [(6, 2), (7, 1104)]]⟩, ⟨true, .ints .i64 2 d0⟩, ⟨true, .ints .u8 64 d1⟩, ⟨false, .ints .u8 64 g3⟩, ⟨false, .ints .i64 2 g4⟩, ⟨false, .ints .u8 1104 g5⟩]) g0 g3 g4 g5 x6 (fun o14 o15 => (impl_pairs_f.k1g N L0 (impl_pairs_f.k0 N K g0 g1 g2 g3 g4 g5)) (.exit 2) (impl_pairs_f.sx1_0 g0 g3 g4 g5 x6 o14 o15)) m x9 g10 g11) := by
  intro m
  induction m with
  | zero => intros; rfl
  | succ m ih =>
    intro x9 g10 g11
    refine (impl_pairs_f.b1_eq N K L0 (fun s => xloop (xcode (E66 N) ents impl_pairs_f.kp 8 N (cL (cK (cB (cB (cK (cA (cB (cB (cL (cK (cB impl_pairs_f.bd))))))))))) 2) impl_pairs_f.kp 8 2 m s (impl_pairs_f.k1g N L0 (impl_pairs_f.k0 N K g0 g1 g2 g3 g4 g5))) g0 g1 g2 g3 g4 g5 x6 x9 g10 g11).trans ?_
    simp only [ih]
    kernel_rfl

theorem impl_pairs_f.l0_eq {ρ : Type} (N : Nat) (K : AV → Heap → Option ρ) (g0 : Nat → Int) (g1 : Nat → Int) (g2 : Nat → Int) (g3 : Nat → Int) (g4 : Nat → Int) (g5 : Nat → Int) :
    ∀ (m : Nat) (x6 : Int) (g7 : Nat → Int) (g8 : Nat → Int), xloop (xcode (E66 N) ents impl_pairs_f.kp 8 N (cL (cK (cB impl_pairs_f.bd))) 0) impl_pairs_f.kp 8 0 m (impl_pairs_f.st0 g0 g3 g4 g5 x6 g7 g8) (impl_pairs_f.k0 N K g0 g1 g2 g3 g4 g5) = (impl_pairs_f.l0 N (fun d0 d1 => K (.tup []) [⟨false, .ints .u8 64 g0⟩, ⟨true, .avs [.sptr [(5, 64)]]⟩, ⟨true, .avs [.sptr [(6, 2), (7, 1104)]]⟩, ⟨true, .ints .i64 2 d0⟩, ⟨true, .ints .u8 64 d1⟩, ⟨false, .ints .u8 64 g3⟩, ⟨false, .ints .i64 2 g4⟩, ⟨false, .ints .u8 1104 g5⟩]) g0 g3 g4 g5 (fun o16 o17 => (impl_pairs_f.k0 N K g0 g1 g2 g3 g4 g5) (.exit 0) (impl_pairs_f.sx0_0 g0 g3 g4 g5 o16 o17)) m x6 g7 g8) := by
  intro m
  induction m with
  | zero => intros; rfl
  | succ m ih =>
    intro x6 g7 g8
    refine (impl_pairs_f.b0_eq N K (fun s => xloop (xcode (E66 N) ents impl_pairs_f.kp 8 N (cL (cK (cB impl_pairs_f.bd))) 0) impl_pairs_f.kp 8 0 m s (impl_pairs_f.k0 N K g0 g1 g2 g3 g4 g5)) g0 g1 g2 g3 g4 g5 x6 g7 g8).trans ?_
    simp only [ih, impl_pairs_f.l1_eq, impl_pairs_f.a1_0_eq]
    kernel_rfl

theorem impl_pairs_f.s_eq {ρ : Type} (N : Nat) (K : AV → Heap → Option ρ) (g0 : Nat → Int) (g1 : Nat → Int) (g2 : Nat → Int) (g3 : Nat → Int) (g4 : Nat → Int) (g5 : Nat → Int) :
    xbody (E66 N) ents impl_pairs_f.kp N Go.Proofs.Try.f103 impl_pairs_f.bd [.sptr [(0, 64)], .fn 104 0 [[(1, 1)], [(2, 1)], [(3, 2)], [(4, 64)]]] [⟨false, .ints .u8 64 g0⟩, ⟨true, .avs [.sptr [(5, 64)]]⟩, ⟨true, .avs [.sptr [(6, 2), (7, 1104)]]⟩, ⟨true, .ints .i64 2 g1⟩, ⟨true, .ints .u8 64 g2⟩, ⟨false, .ints .u8 64 g3⟩, ⟨false, .ints .i64 2 g4⟩, ⟨false, .ints .u8 1104 g5⟩] K = (impl_pairs_f.s N (fun d0 d1 => K (.tup []) [⟨false, .ints .u8 64 g0⟩, ⟨true, .avs [.sptr [(5, 64)]]⟩, ⟨true, .avs [.sptr [(6, 2), (7, 1104)]]⟩, ⟨true, .ints .i64 2 d0⟩, ⟨true, .ints .u8 64 d1⟩, ⟨false, .ints .u8 64 g3⟩, ⟨false, .ints .i64 2 g4⟩, ⟨false, .ints .u8 1104 g5⟩]) (fun x6 g7 g8 => xloop (xcode (E66 N) ents impl_pairs_f.kp 8 N (cL (cK (cB impl_pairs_f.bd))) 0) impl_pairs_f.kp 8 0 N (impl_pairs_f.st0 g0 g3 g4 g5 x6 g7 g8) (impl_pairs_f.k0 N K g0 g1 g2 g3 g4 g5)) g1 g2) := by kernel_rfl

theorem impl_pairs_f.eq {ρ : Type} (N : Nat) (K : AV → Heap → Option ρ) (g0 : Nat → Int) (g1 : Nat → Int) (g2 : Nat → Int) (g3 : Nat → Int) (g4 : Nat → Int) (g5 : Nat → Int) :
    xbody (E66 N) ents impl_pairs_f.kp N Go.Proofs.Try.f103 impl_pairs_f.bd [.sptr [(0, 64)], .fn 104 0 [[(1, 1)], [(2, 1)], [(3, 2)], [(4, 64)]]] [⟨false, .ints .u8 64 g0⟩, ⟨true, .avs [.sptr [(5, 64)]]⟩, ⟨true, .avs [.sptr [(6, 2), (7, 1104)]]⟩, ⟨true, .ints .i64 2 g1⟩, ⟨true, .ints .u8 64 g2⟩, ⟨false, .ints .u8 64 g3⟩, ⟨false, .ints .i64 2 g4⟩, ⟨false, .ints .u8 1104 g5⟩] K = (impl_pairs_f N (fun d0 d1 => K (.tup []) [⟨false, .ints .u8 64 g0⟩, ⟨true, .avs [.sptr [(5, 64)]]⟩, ⟨true, .avs [.sptr [(6, 2), (7, 1104)]]⟩, ⟨true, .ints .i64 2 d0⟩, ⟨true, .ints .u8 64 d1⟩, ⟨false, .ints .u8 64 g3⟩, ⟨false, .ints .i64 2 g4⟩, ⟨false, .ints .u8 1104 g5⟩]) g0 g1 g2 g3 g4 g5) := by
  refine (impl_pairs_f.s_eq N K g0 g1 g2 g3 g4 g5).trans ?_
  simp only [impl_pairs_f.l0_eq, impl_pairs_f.a0_0_eq]
  kernel_rfl

noncomputable def impl_pairs_f.en (N : Nat) (ρ : Type) : List AV → Heap → (AV → Heap → Option ρ) → Option ρ
  | [.sptr [(0, 64)], .fn 104 0 [[(1, 1)], [(2, 1)], [(3, 2)], [(4, 64)]]], [⟨false, .ints .u8 64 g0⟩, ⟨true, .avs [.sptr [(5, 64)]]⟩, ⟨true, .avs [.sptr [(6, 2), (7, 1104)]]⟩, ⟨true, .ints .i64 2 g1⟩, ⟨true, .ints .u8 64 g2⟩, ⟨false, .ints .u8 64 g3⟩, ⟨false, .ints .i64 2 g4⟩, ⟨false, .ints .u8 1104 g5⟩], K => (impl_pairs_f N (fun d0 d1 => K (.tup []) [⟨false, .ints .u8 64 g0⟩, ⟨true, .avs [.sptr [(5, 64)]]⟩, ⟨true, .avs [.sptr [(6, 2), (7, 1104)]]⟩, ⟨true, .ints .i64 2 d0⟩, ⟨true, .ints .u8 64 d1⟩, ⟨false, .ints .u8 64 g3⟩, ⟨false, .ints .i64 2 g4⟩, ⟨false, .ints .u8 1104 g5⟩]) g0 g1 g2 g3 g4 g5)
  | args, sh, K => (E66 N).fn 103 ρ args sh K

theorem impl_pairs_f.en_ok (N : Nat) (hE : EnvOk (E66 N) ents) (ρ : Type) (args : List AV) (sh : Heap) (K : AV → Heap → Option ρ) (r : ρ) (h : impl_pairs_f.en N ρ args sh K = some r) : ∃ v sh', K v sh' = some r ∧ FnOk (E66 N).P 103 args sh v sh' := by
  unfold impl_pairs_f.en at h
  split at h
  · exact fn_ok hE (kp := impl_pairs_f.kp) (N := N) Go.Proofs.Try.func103 (c := impl_pairs_f.bd) (by kernel_rfl) ((impl_pairs_f.eq N _ _ _ _ _ _ _).trans h)
  · exact hE.spec _ _ _ _ _ _ h

noncomputable def E67 (N : Nat) : Env := (E66 N).add 103 (impl_pairs_f.en N)

theorem E67_ok (N : Nat) : EnvOk (E67 N) ents := Env.add_ok (E66_ok N) (impl_pairs_f.en_ok N (E66_ok N))

noncomputable def impl_Hopf_tensor.kp : Keeps := ⟨[], []⟩

noncomputable def impl_Hopf_tensor.bd : Code := bodyOf Go.Proofs.Try.f86

noncomputable def impl_Hopf_tensor.fin {ρ : Type} (N : Nat) (K : AV → Heap → Option ρ) (g0 : Nat → Int) (g1 : Nat → Int) (g2 : Nat → Int) (g3 : Nat → Int) : XE → St → Option ρ := finK (E67 N) Go.Proofs.Try.f86 [⟨false, .ints .i64 2 g0⟩, ⟨false, .ints .u8 1104 g1⟩, ⟨false, .ints .u8 64 g2⟩, ⟨false, .ints .u8 64 g3⟩] K

theorem impl_Hopf_tensor.eq {ρ : Type} (N : Nat) (K : AV → Heap → Option ρ) (g0 : Nat → Int) (g1 : Nat → Int) (g2 : Nat → Int) (g3 : Nat → Int) :
    xbody (E67 N) ents impl_Hopf_tensor.kp N Go.Proofs.Try.f86 impl_Hopf_tensor.bd [.sptr [(0, 2), (1, 1104)], .sptr [(2, 64)], .sptr [(3, 64)]] [⟨false, .ints .i64 2 g0⟩, ⟨false, .ints .u8 1104 g1⟩, ⟨false, .ints .u8 64 g2⟩, ⟨false, .ints .u8 64 g3⟩] K = (impl_Hopf_tensor N (fun d0 => K (.agg [⟨.u8, 64, d0⟩]) [⟨false, .ints .i64 2 g0⟩, ⟨false, .ints .u8 1104 g1⟩, ⟨false, .ints .u8 64 g2⟩, ⟨false, .ints .u8 64 g3⟩]) g0 g1 g2 g3) := by kernel_rfl

noncomputable def impl_Hopf_tensor.en (N : Nat) (ρ : Type) : List AV → Heap → (AV → Heap → Option ρ) → Option ρ
  | [.sptr [(0, 2), (1, 1104)], .sptr [(2, 64)], .sptr [(3, 64)]], [⟨false, .ints .i64 2 g0⟩, ⟨false, .ints .u8 1104 g1⟩, ⟨false, .ints .u8 64 g2⟩, ⟨false, .ints .u8 64 g3⟩], K => (impl_Hopf_tensor N (fun d0 => K (.agg [⟨.u8, 64, d0⟩]) [⟨false, .ints .i64 2 g0⟩, ⟨false, .ints .u8 1104 g1⟩, ⟨false, .ints .u8 64 g2⟩, ⟨false, .ints .u8 64 g3⟩]) g0 g1 g2 g3)
  | _, _, _ => none

theorem impl_Hopf_tensor.en_ok (N : Nat) (hE : EnvOk (E67 N) ents) (ρ : Type) (args : List AV) (sh : Heap) (K : AV → Heap → Option ρ) (r : ρ) (h : impl_Hopf_tensor.en N ρ args sh K = some r) : ∃ v sh', K v sh' = some r ∧ FnOk (E67 N).P 86 args sh v sh' := by
  unfold impl_Hopf_tensor.en at h
  split at h
  · exact fn_ok hE (kp := impl_Hopf_tensor.kp) (N := N) Go.Proofs.Try.func86 (c := impl_Hopf_tensor.bd) (by kernel_rfl) ((impl_Hopf_tensor.eq N _ _ _ _ _).trans h)
  · cases h

noncomputable def E68 (N : Nat) : Env := (E67 N).add 86 (impl_Hopf_tensor.en N)

theorem E68_ok (N : Nat) : EnvOk (E68 N) ents := Env.add_ok (E67_ok N) (impl_Hopf_tensor.en_ok N (E67_ok N))

noncomputable def impl_Hopf_axiom3.kp : Keeps := ⟨[(0, [0, 3, 10, 11], 2), (2, [0, 3, 4, 10, 11, 14, 15], 2)], [(0, [], 2), (2, [0, 3, 10, 11], 2)]⟩

noncomputable def impl_Hopf_axiom3.bd : Code := bodyOf Go.Proofs.Try.f62

noncomputable def impl_Hopf_axiom3.fin {ρ : Type} (N : Nat) (K : AV → Heap → Option ρ) (g0 : Nat → Int) (g1 : Nat → Int) : XE → St → Option ρ := finK (E68 N) Go.Proofs.Try.f62 [⟨false, .ints .i64 2 g0⟩, ⟨false, .ints .u8 1104 g1⟩] K

noncomputable def impl_Hopf_axiom3.k0 {ρ : Type} (N : Nat) (K : AV → Heap → Option ρ) (g0 : Nat → Int) (g1 : Nat → Int) : XE → St → Option ρ := (blockK impl_Hopf_axiom3.kp 2 0 (seqK (xcode (E68 N) ents impl_Hopf_axiom3.kp 2 N (cB (cB (cB impl_Hopf_axiom3.bd))) 0) (impl_Hopf_axiom3.fin N K g0 g1)))

theorem impl_Hopf_axiom3.k0_mix {ρ : Type} (N : Nat) (K : AV → Heap → Option ρ) (g0 : Nat → Int) (g1 : Nat → Int) : mixK (impl_Hopf_axiom3.fin N K g0 g1 .ret) (impl_Hopf_axiom3.k0 N K g0 g1) = (impl_Hopf_axiom3.k0 N K g0 g1) := by
  funext e s; cases e <;> rfl

noncomputable def impl_Hopf_axiom3.st0 (g0 : Nat → Int) (g1 : Nat → Int) (x2 : Int) : St := ⟨sl 43 [(0, .sptr [(0, 2), (1, 1104)]), (3, .int .i64 ((g0 1))), (10, .int .i64 ((g0 1))), (11, .int .i64 (x2))], [⟨false, .ints .i64 2 g0⟩, ⟨false, .ints .u8 1104 g1⟩]⟩

noncomputable def impl_Hopf_axiom3.sx0_0 (g0 : Nat → Int) (g1 : Nat → Int) : St := ⟨sl 43 [], [⟨false, .ints .i64 2 g0⟩, ⟨false, .ints .u8 1104 g1⟩]⟩

noncomputable def impl_Hopf_axiom3.k1g {ρ : Type} (N : Nat) (L0 : St → Option ρ) (kv : XE → St → Option ρ) : XE → St → Option ρ := (blockK impl_Hopf_axiom3.kp 2 2 (blockK impl_Hopf_axiom3.kp 2 1 (seqK (xcode (E68 N) ents impl_Hopf_axiom3.kp 2 N (cB (cB (cB (cL (cK (cB (cA (cB (cB impl_Hopf_axiom3.bd))))))))) 0) (roundK impl_Hopf_axiom3.kp 2 0 L0 kv))))

theorem impl_Hopf_axiom3.k1_mix {ρ : Type} (N : Nat) (K : AV → Heap → Option ρ) (L0 : St → Option ρ) (g0 : Nat → Int) (g1 : Nat → Int) : mixK (impl_Hopf_axiom3.fin N K g0 g1 .ret) (impl_Hopf_axiom3.k1g N L0 (impl_Hopf_axiom3.k0 N K g0 g1)) = (impl_Hopf_axiom3.k1g N L0 (impl_Hopf_axiom3.k0 N K g0 g1)) := by
  funext e s; cases e <;> rfl

noncomputable def impl_Hopf_axiom3.st1 (g0 : Nat → Int) (g1 : Nat → Int) (x2 : Int) (x3 : Int) : St := ⟨sl 43 [(0, .sptr [(0, 2), (1, 1104)]), (3, .int .i64 ((g0 1))), (4, .int .i64 (x2)), (10, .int .i64 ((g0 1))), (11, .int .i64 (x2)), (14, .int .i64 ((g0 1))), (15, .int .i64 (x3))], [⟨false, .ints .i64 2 g0⟩, ⟨false, .ints .u8 1104 g1⟩]⟩

noncomputable def impl_Hopf_axiom3.sx1_0 (g0 : Nat → Int) (g1 : Nat → Int) (x2 : Int) : St := ⟨sl 43 [(0, .sptr [(0, 2), (1, 1104)]), (3, .int .i64 ((g0 1))), (10, .int .i64 ((g0 1))), (11, .int .i64 (x2))], [⟨false, .ints .i64 2 g0⟩, ⟨false, .ints .u8 1104 g1⟩]⟩

theorem impl_Hopf_axiom3.b1_gen {ρ : Type} (N : Nat) (K : AV → Heap → Option ρ) (L1 : St → Option ρ) (kv : XE → St → Option ρ) (g0 : Nat → Int) (g1 : Nat → Int) (x2 : Int) (x3 : Int) :
    xcode (E68 N) ents impl_Hopf_axiom3.kp 2 N (cL (cK (cB (cB (cK (cA (cB (cB (cL (cK (cB (cA (cB (cB impl_Hopf_axiom3.bd)))))))))))))) 2 (impl_Hopf_axiom3.st1 g0 g1 x2 x3) (roundK impl_Hopf_axiom3.kp 2 2 L1 (mixK (impl_Hopf_axiom3.fin N K g0 g1 .ret) kv)) = (impl_Hopf_axiom3.b1 N (fun d0 => K (.bool (d0)) [⟨false, .ints .i64 2 g0⟩, ⟨false, .ints .u8 1104 g1⟩]) (fun x3 => L1 (impl_Hopf_axiom3.st1 g0 g1 x2 x3)) (kv (.exit 2) (impl_Hopf_axiom3.sx1_0 g0 g1 x2)) g0 g1 x2 x3) := by kernel_rfl

theorem impl_Hopf_axiom3.b1_eq {ρ : Type} (N : Nat) (K : AV → Heap → Option ρ) (L0 : St → Option ρ) (L1 : St → Option ρ) (g0 : Nat → Int) (g1 : Nat → Int) (x2 : Int) (x3 : Int) :
    xcode (E68 N) ents impl_Hopf_axiom3.kp 2 N (cL (cK (cB (cB (cK (cA (cB (cB (cL (cK (cB (cA (cB (cB impl_Hopf_axiom3.bd)))))))))))))) 2 (impl_Hopf_axiom3.st1 g0 g1 x2 x3) (roundK impl_Hopf_axiom3.kp 2 2 L1 (impl_Hopf_axiom3.k1g N L0 (impl_Hopf_axiom3.k0 N K g0 g1))) = (impl_Hopf_axiom3.b1 N (fun d0 => K (.bool (d0)) [⟨false, .ints .i64 2 g0⟩, ⟨false, .ints .u8 1104 g1⟩]) (fun x3 => L1 (impl_Hopf_axiom3.st1 g0 g1 x2 x3)) ((impl_Hopf_axiom3.k1g N L0 (impl_Hopf_axiom3.k0 N K g0 g1)) (.exit 2) (impl_Hopf_axiom3.sx1_0 g0 g1 x2)) g0 g1 x2 x3) := by
  have h := impl_Hopf_axiom3.b1_gen N K L1 (impl_Hopf_axiom3.k1g N L0 (impl_Hopf_axiom3.k0 N K g0 g1)) g0 g1 x2 x3
  rw [impl_Hopf_axiom3.k1_mix] at h
  exact h

theorem impl_Hopf_axiom3.a1_0_gen {ρ : Type} (N : Nat) (K : AV → Heap → Option ρ) (L0 : St → Option ρ) (kv : XE → St → Option ρ) (g0 : Nat → Int) (g1 : Nat → Int) (x2 : Int) :
    (impl_Hopf_axiom3.k1g N L0 (mixK (impl_Hopf_axiom3.fin N K g0 g1 .ret) kv)) (.exit 2) (impl_Hopf_axiom3.sx1_0 g0 g1 x2) = (impl_Hopf_axiom3.a1_0 N (fun d0 => K (.bool (d0)) [⟨false, .ints .i64 2 g0⟩, ⟨false, .ints .u8 1104 g1⟩]) (fun x2 => L0 (impl_Hopf_axiom3.st0 g0 g1 x2)) (kv (.exit 0) (impl_Hopf_axiom3.sx0_0 g0 g1)) x2) := by kernel_rfl

theorem impl_Hopf_axiom3.a1_0_eq {ρ : Type} (N : Nat) (K : AV → Heap → Option ρ) (L0 : St → Option ρ) (g0 : Nat → Int) (g1 : Nat → Int) (x2 : Int) :
    (impl_Hopf_axiom3.k1g N L0 (impl_Hopf_axiom3.k0 N K g0 g1)) (.exit 2) (impl_Hopf_axiom3.sx1_0 g0 g1 x2) = (impl_Hopf_axiom3.a1_0 N (fun d0 => K (.bool (d0)) [⟨false, .ints .i64 2 g0⟩, ⟨false, .ints .u8 1104 g1⟩]) (fun x2 => L0 (impl_Hopf_axiom3.st0 g0 g1 x2)) ((impl_Hopf_axiom3.k0 N K g0 g1) (.exit 0) (impl_Hopf_axiom3.sx0_0 g0 g1)) x2) := by
  have h := impl_Hopf_axiom3.a1_0_gen N K L0 (impl_Hopf_axiom3.k0 N K g0 g1) g0 g1 x2
  rw [impl_Hopf_axiom3.k0_mix] at h
  exact h

theorem impl_Hopf_axiom3.b0_gen {ρ : Type} (N : Nat) (K : AV → Heap → Option ρ) (L0 : St → Option ρ) (kv : XE → St → Option ρ) (g0 : Nat → Int) (g1 : Nat → Int) (x2 : Int) :
    xcode (E68 N) ents impl_Hopf_axiom3.kp 2 N (cL (cK (cB (cA (cB (cB impl_Hopf_axiom3.bd)))))) 0 (impl_Hopf_axiom3.st0 g0 g1 x2) (roundK impl_Hopf_axiom3.kp 2 0 L0 (mixK (impl_Hopf_axiom3.fin N K g0 g1 .ret) kv)) = (impl_Hopf_axiom3.b0 N (fun d0 => K (.bool (d0)) [⟨false, .ints .i64 2 g0⟩, ⟨false, .ints .u8 1104 g1⟩]) (fun x3 => xloop (xcode (E68 N) ents impl_Hopf_axiom3.kp 2 N (cL (cK (cB (cB (cK (cA (cB (cB (cL (cK (cB (cA (cB (cB impl_Hopf_axiom3.bd)))))))))))))) 2) impl_Hopf_axiom3.kp 2 2 N (impl_Hopf_axiom3.st1 g0 g1 x2 x3) (impl_Hopf_axiom3.k1g N L0 (mixK (impl_Hopf_axiom3.fin N K g0 g1 .ret) kv))) (fun x2 => L0 (impl_Hopf_axiom3.st0 g0 g1 x2)) (kv (.exit 0) (impl_Hopf_axiom3.sx0_0 g0 g1)) g0 x2) := by kernel_rfl

theorem impl_Hopf_axiom3.b0_eq {ρ : Type} (N : Nat) (K : AV → Heap → Option ρ) (L0 : St → Option ρ) (g0 : Nat → Int) (g1 : Nat → Int) (x2 : Int) :
    xcode (E68 N) ents impl_Hopf_axiom3.kp 2 N (cL (cK (cB (cA (cB (cB impl_Hopf_axiom3.bd)))))) 0 (impl_Hopf_axiom3.st0 g0 g1 x2) (roundK impl_Hopf_axiom3.kp 2 0 L0 (impl_Hopf_axiom3.k0 N K g0 g1)) = (impl_Hopf_axiom3.b0 N (fun d0 => K (.bool (d0)) [⟨false, .ints .i64 2 g0⟩, ⟨false, .ints .u8 1104 g1⟩]) (fun x3 => xloop (xcode (E68 N) ents impl_Hopf_axiom3.kp 2 N (cL (cK (cB (cB (cK (cA (cB (cB (cL (cK (cB (cA (cB (cB impl_Hopf_axiom3.bd)))))))))))))) 2) impl_Hopf_axiom3.kp 2 2 N (impl_Hopf_axiom3.st1 g0 g1 x2 x3) (impl_Hopf_axiom3.k1g N L0 (impl_Hopf_axiom3.k0 N K g0 g1))) (fun x2 => L0 (impl_Hopf_axiom3.st0 g0 g1 x2)) ((impl_Hopf_axiom3.k0 N K g0 g1) (.exit 0) (impl_Hopf_axiom3.sx0_0 g0 g1)) g0 x2) := by
  have h := impl_Hopf_axiom3.b0_gen N K L0 (impl_Hopf_axiom3.k0 N K g0 g1) g0 g1 x2
  rw [impl_Hopf_axiom3.k0_mix] at h
  exact h

theorem impl_Hopf_axiom3.a0_0_eq {ρ : Type} (N : Nat) (K : AV → Heap → Option ρ) (g0 : Nat → Int) (g1 : Nat → Int) :
    (impl_Hopf_axiom3.k0 N K g0 g1) (.exit 0) (impl_Hopf_axiom3.sx0_0 g0 g1) = (impl_Hopf_axiom3.a0_0 N (fun d0 => K (.bool (d0)) [⟨false, .ints .i64 2 g0⟩, ⟨false, .ints .u8 1104 g1⟩])) := by kernel_rfl

theorem impl_Hopf_axiom3.l1_eq {ρ : Type} (N : Nat) (K : AV → Heap → Option ρ) (L0 : St → Option ρ) (g0 : Nat → Int) (g1 : Nat → Int) (x2 : Int) :
    ∀ (m : Nat) (x3 : Int), xloop (xcode (E68 N) ents impl_Hopf_axiom3.kp 2 N (cL (cK (cB (cB (cK (cA (cB (cB (cL (cK (cB (cA (cB (cB impl_Hopf_axiom3.bd)))))))))))))) 2) impl_Hopf_axiom3.kp 2 2 m (impl_Hopf_axiom3.st1 g0 g1 x2 x3) (impl_Hopf_axiom3.k1g N L0 (impl_Hopf_axiom3.k0 N K g0 g1)) = (impl_Hopf_axiom3.l1 N (fun d0 => K (.bool (d0)) [⟨false, .ints .i64 2 g0⟩, ⟨false, .ints .u8 1104 g1⟩]) g0 g1 x2 ((impl_Hopf_axiom3.k1g N L0 (impl_Hopf_axiom3.k0 N K g0 g1)) (.exit 2) (impl_Hopf_axiom3.sx1_0 g0 g1 x2)) m x3) := by
  intro m
  induction m with
  | zero => intros; rfl
  | succ m ih =>
    intro x3
    refine (impl_Hopf_axiom3.b1_eq N K L0 (fun s => xloop (xcode (E68 N) ents impl_Hopf_axiom3.kp 2 N (cL (cK (cB (cB (cK (cA (cB (cB (cL (cK (cB (cA (cB (cB impl_Hopf_axiom3.bd)))))))))))))) 2) impl_Hopf_axiom3.kp 2 2 m s (impl_Hopf_axiom3.k1g N L0 (impl_Hopf_axiom3.k0 N K g0 g1))) g0 g1 x2 x3).trans ?_
    simp only [ih]
    kernel_rfl

theorem impl_Hopf_axiom3.l0_eq {ρ : Type} (N : Nat) (K : AV → Heap → Option ρ) (g0 : Nat → Int) (g1 : Nat → Int) :
    ∀ (m : Nat) (x2 : Int), xloop (xcode (E68 N) ents impl_Hopf_axiom3.kp 2 N (cL (cK (cB (cA (cB (cB impl_Hopf_axiom3.bd)))))) 0) impl_Hopf_axiom3.kp 2 0 m (impl_Hopf_axiom3.st0 g0 g1 x2) (impl_Hopf_axiom3.k0 N K g0 g1) = (impl_Hopf_axiom3.l0 N (fun d0 => K (.bool (d0)) [⟨false, .ints .i64 2 g0⟩, ⟨false, .ints .u8 1104 g1⟩]) g0 g1 ((impl_Hopf_axiom3.k0 N K g0 g1) (.exit 0) (impl_Hopf_axiom3.sx0_0 g0 g1)) m x2) := by
  intro m
  induction m with
  | zero => intros; rfl
  | succ m ih =>
    intro x2
    refine (impl_Hopf_axiom3.b0_eq N K (fun s => xloop (xcode (E68 N) ents impl_Hopf_axiom3.kp 2 N (cL (cK (cB (cA (cB (cB impl_Hopf_axiom3.bd)))))) 0) impl_Hopf_axiom3.kp 2 0 m s (impl_Hopf_axiom3.k0 N K g0 g1)) g0 g1 x2).trans ?_
    simp only [ih, impl_Hopf_axiom3.l1_eq, impl_Hopf_axiom3.a1_0_eq]
    kernel_rfl

theorem impl_Hopf_axiom3.s_eq {ρ : Type} (N : Nat) (K : AV → Heap → Option ρ) (g0 : Nat → Int) (g1 : Nat → Int) :
    xbody (E68 N) ents impl_Hopf_axiom3.kp N Go.Proofs.Try.f62 impl_Hopf_axiom3.bd [.sptr [(0, 2), (1, 1104)]] [⟨false, .ints .i64 2 g0⟩, ⟨false, .ints .u8 1104 g1⟩] K = (impl_Hopf_axiom3.s N (fun d0 => K (.bool (d0)) [⟨false, .ints .i64 2 g0⟩, ⟨false, .ints .u8 1104 g1⟩]) (fun x2 => xloop (xcode (E68 N) ents impl_Hopf_axiom3.kp 2 N (cL (cK (cB (cA (cB (cB impl_Hopf_axiom3.bd)))))) 0) impl_Hopf_axiom3.kp 2 0 N (impl_Hopf_axiom3.st0 g0 g1 x2) (impl_Hopf_axiom3.k0 N K g0 g1))) := by kernel_rfl

theorem impl_Hopf_axiom3.eq {ρ : Type} (N : Nat) (K : AV → Heap → Option ρ) (g0 : Nat → Int) (g1 : Nat → Int) :
    xbody (E68 N) ents impl_Hopf_axiom3.kp N Go.Proofs.Try.f62 impl_Hopf_axiom3.bd [.sptr [(0, 2), (1, 1104)]] [⟨false, .ints .i64 2 g0⟩, ⟨false, .ints .u8 1104 g1⟩] K = (impl_Hopf_axiom3 N (fun d0 => K (.bool (d0)) [⟨false, .ints .i64 2 g0⟩, ⟨false, .ints .u8 1104 g1⟩]) g0 g1) := by
  refine (impl_Hopf_axiom3.s_eq N K g0 g1).trans ?_
  simp only [impl_Hopf_axiom3.l0_eq, impl_Hopf_axiom3.a0_0_eq]
  kernel_rfl

noncomputable def impl_Hopf_axiom3.en (N : Nat) (ρ : Type) : List AV → Heap → (AV → Heap → Option ρ) → Option ρ
  | [.sptr [(0, 2), (1, 1104)]], [⟨false, .ints .i64 2 g0⟩, ⟨false, .ints .u8 1104 g1⟩], K => (impl_Hopf_axiom3 N (fun d0 => K (.bool (d0)) [⟨false, .ints .i64 2 g0⟩, ⟨false, .ints .u8 1104 g1⟩]) g0 g1)
  | _, _, _ => none

theorem impl_Hopf_axiom3.en_ok (N : Nat) (hE : EnvOk (E68 N) ents) (ρ : Type) (args : List AV) (sh : Heap) (K : AV → Heap → Option ρ) (r : ρ) (h : impl_Hopf_axiom3.en N ρ args sh K = some r) : ∃ v sh', K v sh' = some r ∧ FnOk (E68 N).P 62 args sh v sh' := by
  unfold impl_Hopf_axiom3.en at h
  split at h
  · exact fn_ok hE (kp := impl_Hopf_axiom3.kp) (N := N) Go.Proofs.Try.func62 (c := impl_Hopf_axiom3.bd) (by kernel_rfl) ((impl_Hopf_axiom3.eq N _ _ _).trans h)
  · cases h

noncomputable def E69 (N : Nat) : Env := (E68 N).add 62 (impl_Hopf_axiom3.en N)

theorem E69_ok (N : Nat) : EnvOk (E69 N) ents := Env.add_ok (E68_ok N) (impl_Hopf_axiom3.en_ok N (E68_ok N))

noncomputable def impl_field_times.kp : Keeps := ⟨[], []⟩

noncomputable def impl_field_times.bd : Code := bodyOf Go.Proofs.Try.f47

noncomputable def impl_field_times.fin {ρ : Type} (N : Nat) (K : AV → Heap → Option ρ) : XE → St → Option ρ := finK (E69 N) Go.Proofs.Try.f47 [] K

theorem impl_field_times.eq {ρ : Type} (N : Nat) (K : AV → Heap → Option ρ) (f0 : Nat → Int) (k1 : Int) (w2 : Nat → Int) :
    xbody (E69 N) ents impl_field_times.kp N Go.Proofs.Try.f47 impl_field_times.bd [.agg [⟨.i64, 2, f0⟩], .int .i64 (k1), .agg [⟨.u8, 8, w2⟩]] [] K = (impl_field_times N (fun d0 => K (.agg [⟨.u8, 8, d0⟩]) []) f0 k1 w2) := by kernel_rfl

noncomputable def impl_field_times.en (N : Nat) (ρ : Type) : List AV → Heap → (AV → Heap → Option ρ) → Option ρ
  | [.agg [⟨.i64, 2, f0⟩], .int .i64 (k1), .agg [⟨.u8, 8, w2⟩]], [], K => (impl_field_times N (fun d0 => K (.agg [⟨.u8, 8, d0⟩]) []) f0 k1 w2)
  | _, _, _ => none

theorem impl_field_times.en_ok (N : Nat) (hE : EnvOk (E69 N) ents) (ρ : Type) (args : List AV) (sh : Heap) (K : AV → Heap → Option ρ) (r : ρ) (h : impl_field_times.en N ρ args sh K = some r) : ∃ v sh', K v sh' = some r ∧ FnOk (E69 N).P 47 args sh v sh' := by
  unfold impl_field_times.en at h
  split at h
  · exact fn_ok hE (kp := impl_field_times.kp) (N := N) Go.Proofs.Try.func47 (c := impl_field_times.bd) (by kernel_rfl) ((impl_field_times.eq N _ _ _ _).trans h)
  · cases h

noncomputable def E70 (N : Nat) : Env := (E69 N).add 47 (impl_field_times.en N)

theorem E70_ok (N : Nat) : EnvOk (E70 N) ents := Env.add_ok (E69_ok N) (impl_field_times.en_ok N (E69_ok N))

noncomputable def impl_field_pair.kp : Keeps := ⟨[(0, [3, 5, 6, 7, 11, 12], 5)], [(0, [6, 7], 5)]⟩

noncomputable def impl_field_pair.bd : Code := bodyOf Go.Proofs.Try.f87

noncomputable def impl_field_pair.fin {ρ : Type} (N : Nat) (K : AV → Heap → Option ρ) : XE → St → Option ρ := finK (E70 N) Go.Proofs.Try.f87 [] K

noncomputable def impl_field_pair.k0 {ρ : Type} (N : Nat) (K : AV → Heap → Option ρ) : XE → St → Option ρ := (blockK impl_field_pair.kp 0 0 (seqK (xcode (E70 N) ents impl_field_pair.kp 0 N (cB (cB (cB impl_field_pair.bd))) 0) (impl_field_pair.fin N K)))

theorem impl_field_pair.k0_mix {ρ : Type} (N : Nat) (K : AV → Heap → Option ρ) : mixK (impl_field_pair.fin N K .ret) (impl_field_pair.k0 N K) = (impl_field_pair.k0 N K) := by
  funext e s; cases e <;> rfl

noncomputable def impl_field_pair.st0 (f0 : Nat → Int) (v1 : Nat → Int) (w2 : Nat → Int) (x3 : Int) (g4 : Nat → Int) : St := ⟨sl 25 [(3, .sptr [(0, 2)]), (5, .sptr [(2, 8)]), (6, .sptr [(3, 64)]), (7, .sptr [(4, 64)]), (11, .agg [⟨.u8, 8, v1⟩]), (12, .int .i64 (x3))], [⟨true, .ints .i64 2 f0⟩, ⟨true, .ints .u8 8 v1⟩, ⟨true, .ints .u8 8 w2⟩, ⟨true, .ints .u8 64 (fun _ => 0)⟩, ⟨true, .ints .u8 64 g4⟩]⟩

noncomputable def impl_field_pair.sx0_0 (f0 : Nat → Int) (v1 : Nat → Int) (w2 : Nat → Int) (o6 : Nat → Int) : St := ⟨sl 25 [(6, .sptr [(3, 64)]), (7, .sptr [(4, 64)])], [⟨true, .ints .i64 2 f0⟩, ⟨true, .ints .u8 8 v1⟩, ⟨true, .ints .u8 8 w2⟩, ⟨true, .ints .u8 64 (fun _ => 0)⟩, ⟨true, .ints .u8 64 o6⟩]⟩

theorem impl_field_pair.b0_gen {ρ : Type} (N : Nat) (K : AV → Heap → Option ρ) (L0 : St → Option ρ) (kv : XE → St → Option ρ) (f0 : Nat → Int) (v1 : Nat → Int) (w2 : Nat → Int) (x3 : Int) (g4 : Nat → Int) :
    xcode (E70 N) ents impl_field_pair.kp 0 N (cL (cK (cB (cA (cB (cB impl_field_pair.bd)))))) 0 (impl_field_pair.st0 f0 v1 w2 x3 g4) (roundK impl_field_pair.kp 0 0 L0 (mixK (impl_field_pair.fin N K .ret) kv)) = (impl_field_pair.b0 N (fun d0 => K (.agg [⟨.u8, 64, d0⟩]) []) (fun x3 g4 => L0 (impl_field_pair.st0 f0 v1 w2 x3 g4)) (fun o6 => kv (.exit 0) (impl_field_pair.sx0_0 f0 v1 w2 o6)) f0 v1 w2 x3 g4) := by kernel_rfl

theorem impl_field_pair.b0_eq {ρ : Type} (N : Nat) (K : AV → Heap → Option ρ) (L0 : St → Option ρ) (f0 : Nat → Int) (v1 : Nat → Int) (w2 : Nat → Int) (x3 : Int) (g4 : Nat → Int) :
    xcode (E70 N) ents impl_field_pair.kp 0 N (cL (cK (cB (cA (cB (cB impl_field_pair.bd)))))) 0 (impl_field_pair.st0 f0 v1 w2 x3 g4) (roundK impl_field_pair.kp 0 0 L0 (impl_field_pair.k0 N K)) = (impl_field_pair.b0 N (fun d0 => K (.agg [⟨.u8, 64, d0⟩]) []) (fun x3 g4 => L0 (impl_field_pair.st0 f0 v1 w2 x3 g4)) (fun o6 => (impl_field_pair.k0 N K) (.exit 0) (impl_field_pair.sx0_0 f0 v1 w2 o6)) f0 v1 w2 x3 g4) := by
  have h := impl_field_pair.b0_gen N K L0 (impl_field_pair.k0 N K) f0 v1 w2 x3 g4
  rw [impl_field_pair.k0_mix] at h
  exact h

theorem impl_field_pair.a0_0_eq {ρ : Type} (N : Nat) (K : AV → Heap → Option ρ) (f0 : Nat → Int) (v1 : Nat → Int) (w2 : Nat → Int) (o6 : Nat → Int) :
    (impl_field_pair.k0 N K) (.exit 0) (impl_field_pair.sx0_0 f0 v1 w2 o6) = (impl_field_pair.a0_0 N (fun d0 => K (.agg [⟨.u8, 64, d0⟩]) []) o6) := by kernel_rfl

theorem impl_field_pair.l0_eq {ρ : Type} (N : Nat) (K : AV → Heap → Option ρ) (f0 : Nat → Int) (v1 : Nat → Int) (w2 : Nat → Int) :
    ∀ (m : Nat) (x3 : Int) (g4 : Nat → Int), xloop (xcode (E70 N) ents impl_field_pair.kp 0 N (cL (cK (cB (cA (cB (cB impl_field_pair.bd)))))) 0) impl_field_pair.kp 0 0 m (impl_field_pair.st0 f0 v1 w2 x3 g4) (impl_field_pair.k0 N K) = (impl_field_pair.l0 N (fun d0 => K (.agg [⟨.u8, 64, d0⟩]) []) f0 v1 w2 (fun o6 => (impl_field_pair.k0 N K) (.exit 0) (impl_field_pair.sx0_0 f0 v1 w2 o6)) m x3 g4) := by
  intro m
  induction m with
  | zero => intros; rfl
  | succ m ih =>
    intro x3 g4
    refine (impl_field_pair.b0_eq N K (fun s => xloop (xcode (E70 N) ents impl_field_pair.kp 0 N (cL (cK (cB (cA (cB (cB impl_field_pair.bd)))))) 0) impl_field_pair.kp 0 0 m s (impl_field_pair.k0 N K)) f0 v1 w2 x3 g4).trans ?_
    simp only [ih]
    kernel_rfl

theorem impl_field_pair.s_eq {ρ : Type} (N : Nat) (K : AV → Heap → Option ρ) (f0 : Nat → Int) (v1 : Nat → Int) (w2 : Nat → Int) :
    xbody (E70 N) ents impl_field_pair.kp N Go.Proofs.Try.f87 impl_field_pair.bd [.agg [⟨.i64, 2, f0⟩], .agg [⟨.u8, 8, v1⟩], .agg [⟨.u8, 8, w2⟩]] [] K = (impl_field_pair.s N (fun d0 => K (.agg [⟨.u8, 64, d0⟩]) []) (fun x3 g4 => xloop (xcode (E70 N) ents impl_field_pair.kp 0 N (cL (cK (cB (cA (cB (cB impl_field_pair.bd)))))) 0) impl_field_pair.kp 0 0 N (impl_field_pair.st0 f0 v1 w2 x3 g4) (impl_field_pair.k0 N K))) := by kernel_rfl

theorem impl_field_pair.eq {ρ : Type} (N : Nat) (K : AV → Heap → Option ρ) (f0 : Nat → Int) (v1 : Nat → Int) (w2 : Nat → Int) :
    xbody (E70 N) ents impl_field_pair.kp N Go.Proofs.Try.f87 impl_field_pair.bd [.agg [⟨.i64, 2, f0⟩], .agg [⟨.u8, 8, v1⟩], .agg [⟨.u8, 8, w2⟩]] [] K = (impl_field_pair N (fun d0 => K (.agg [⟨.u8, 64, d0⟩]) []) f0 v1 w2) := by
  refine (impl_field_pair.s_eq N K f0 v1 w2).trans ?_
  simp only [impl_field_pair.l0_eq, impl_field_pair.a0_0_eq]
  kernel_rfl

noncomputable def impl_field_pair.en (N : Nat) (ρ : Type) : List AV → Heap → (AV → Heap → Option ρ) → Option ρ
  | [.agg [⟨.i64, 2, f0⟩], .agg [⟨.u8, 8, v1⟩], .agg [⟨.u8, 8, w2⟩]], [], K => (impl_field_pair N (fun d0 => K (.agg [⟨.u8, 64, d0⟩]) []) f0 v1 w2)
  | _, _, _ => none

theorem impl_field_pair.en_ok (N : Nat) (hE : EnvOk (E70 N) ents) (ρ : Type) (args : List AV) (sh : Heap) (K : AV → Heap → Option ρ) (r : ρ) (h : impl_field_pair.en N ρ args sh K = some r) : ∃ v sh', K v sh' = some r ∧ FnOk (E70 N).P 87 args sh v sh' := by
  unfold impl_field_pair.en at h
  split at h
  · exact fn_ok hE (kp := impl_field_pair.kp) (N := N) Go.Proofs.Try.func87 (c := impl_field_pair.bd) (by kernel_rfl) ((impl_field_pair.eq N _ _ _ _).trans h)
  · cases h

noncomputable def E71 (N : Nat) : Env := (E70 N).add 87 (impl_field_pair.en N)

theorem E71_ok (N : Nat) : EnvOk (E71 N) ents := Env.add_ok (E70_ok N) (impl_field_pair.en_ok N (E70_ok N))

noncomputable def impl_Hopf_axiom4.kp : Keeps := ⟨[], []⟩

noncomputable def impl_Hopf_axiom4.bd : Code := bodyOf Go.Proofs.Try.f63

noncomputable def impl_Hopf_axiom4.fin {ρ : Type} (N : Nat) (K : AV → Heap → Option ρ) (g0 : Nat → Int) (g1 : Nat → Int) : XE → St → Option ρ := finK (E71 N) Go.Proofs.Try.f63 [⟨false, .ints .i64 2 g0⟩, ⟨false, .ints .u8 1104 g1⟩] K

theorem impl_Hopf_axiom4.eq {ρ : Type} (N : Nat) (K : AV → Heap → Option ρ) (g0 : Nat → Int) (g1 : Nat → Int) :
    xbody (E71 N) ents impl_Hopf_axiom4.kp N Go.Proofs.Try.f63 impl_Hopf_axiom4.bd [.sptr [(0, 2), (1, 1104)]] [⟨false, .ints .i64 2 g0⟩, ⟨false, .ints .u8 1104 g1⟩] K = (impl_Hopf_axiom4 N (fun d0 => K (.bool (d0)) [⟨false, .ints .i64 2 g0⟩, ⟨false, .ints .u8 1104 g1⟩]) g0 g1) := by kernel_rfl

noncomputable def impl_Hopf_axiom4.en (N : Nat) (ρ : Type) : List AV → Heap → (AV → Heap → Option ρ) → Option ρ
  | [.sptr [(0, 2), (1, 1104)]], [⟨false, .ints .i64 2 g0⟩, ⟨false, .ints .u8 1104 g1⟩], K => (impl_Hopf_axiom4 N (fun d0 => K (.bool (d0)) [⟨false, .ints .i64 2 g0⟩, ⟨false, .ints .u8 1104 g1⟩]) g0 g1)
  | _, _, _ => none

theorem impl_Hopf_axiom4.en_ok (N : Nat) (hE : EnvOk (E71 N) ents) (ρ : Type) (args : List AV) (sh : Heap) (K : AV → Heap → Option ρ) (r : ρ) (h : impl_Hopf_axiom4.en N ρ args sh K = some r) : ∃ v sh', K v sh' = some r ∧ FnOk (E71 N).P 63 args sh v sh' := by
  unfold impl_Hopf_axiom4.en at h
  split at h
  · exact fn_ok hE (kp := impl_Hopf_axiom4.kp) (N := N) Go.Proofs.Try.func63 (c := impl_Hopf_axiom4.bd) (by kernel_rfl) ((impl_Hopf_axiom4.eq N _ _ _).trans h)
  · cases h

noncomputable def E72 (N : Nat) : Env := (E71 N).add 63 (impl_Hopf_axiom4.en N)

theorem E72_ok (N : Nat) : EnvOk (E72 N) ents := Env.add_ok (E71_ok N) (impl_Hopf_axiom4.en_ok N (E71_ok N))

noncomputable def impl_Hopf_counit.kp : Keeps := ⟨[], []⟩

noncomputable def impl_Hopf_counit.bd : Code := bodyOf Go.Proofs.Try.f39

noncomputable def impl_Hopf_counit.fin {ρ : Type} (N : Nat) (K : AV → Heap → Option ρ) (g1 : Nat → Int) (g2 : Nat → Int) : XE → St → Option ρ := finK (E72 N) Go.Proofs.Try.f39 [⟨false, .ints .i64 2 g1⟩, ⟨false, .ints .u8 1104 g2⟩] K

theorem impl_Hopf_counit.eq {ρ : Type} (N : Nat) (K : AV → Heap → Option ρ) (v0 : Nat → Int) (g1 : Nat → Int) (g2 : Nat → Int) :
    xbody (E72 N) ents impl_Hopf_counit.kp N Go.Proofs.Try.f39 impl_Hopf_counit.bd [.sptr [(0, 2), (1, 1104)], .agg [⟨.u8, 8, v0⟩]] [⟨false, .ints .i64 2 g1⟩, ⟨false, .ints .u8 1104 g2⟩] K = (impl_Hopf_counit N (fun d0 => K (.int .i64 (d0)) [⟨false, .ints .i64 2 g1⟩, ⟨false, .ints .u8 1104 g2⟩]) v0 g1 g2) := by kernel_rfl

noncomputable def impl_Hopf_counit.en (N : Nat) (ρ : Type) : List AV → Heap → (AV → Heap → Option ρ) → Option ρ
  | [.sptr [(0, 2), (1, 1104)], .agg [⟨.u8, 8, v0⟩]], [⟨false, .ints .i64 2 g1⟩, ⟨false, .ints .u8 1104 g2⟩], K => (impl_Hopf_counit N (fun d0 => K (.int .i64 (d0)) [⟨false, .ints .i64 2 g1⟩, ⟨false, .ints .u8 1104 g2⟩]) v0 g1 g2)
  | _, _, _ => none

theorem impl_Hopf_counit.en_ok (N : Nat) (hE : EnvOk (E72 N) ents) (ρ : Type) (args : List AV) (sh : Heap) (K : AV → Heap → Option ρ) (r : ρ) (h : impl_Hopf_counit.en N ρ args sh K = some r) : ∃ v sh', K v sh' = some r ∧ FnOk (E72 N).P 39 args sh v sh' := by
  unfold impl_Hopf_counit.en at h
  split at h
  · exact fn_ok hE (kp := impl_Hopf_counit.kp) (N := N) Go.Proofs.Try.func39 (c := impl_Hopf_counit.bd) (by kernel_rfl) ((impl_Hopf_counit.eq N _ _ _ _).trans h)
  · cases h

noncomputable def E73 (N : Nat) : Env := (E72 N).add 39 (impl_Hopf_counit.en N)

theorem E73_ok (N : Nat) : EnvOk (E73 N) ents := Env.add_ok (E72_ok N) (impl_Hopf_counit.en_ok N (E72_ok N))

noncomputable def impl_Hopf_axiom5.kp : Keeps := ⟨[(0, [0, 3, 9, 10], 3), (2, [0, 3, 4, 9, 10, 14, 15], 3)], [(0, [0], 3), (2, [0, 3, 9, 10], 3)]⟩

noncomputable def impl_Hopf_axiom5.bd : Code := bodyOf Go.Proofs.Try.f64

noncomputable def impl_Hopf_axiom5.fin {ρ : Type} (N : Nat) (K : AV → Heap → Option ρ) (g0 : Nat → Int) (g1 : Nat → Int) : XE → St → Option ρ := finK (E73 N) Go.Proofs.Try.f64 [⟨false, .ints .i64 2 g0⟩, ⟨false, .ints .u8 1104 g1⟩] K

noncomputable def impl_Hopf_axiom5.k0 {ρ : Type} (N : Nat) (K : AV → Heap → Option ρ) (g0 : Nat → Int) (g1 : Nat → Int) : XE → St → Option ρ := (blockK impl_Hopf_axiom5.kp 2 0 (seqK (xcode (E73 N) ents impl_Hopf_axiom5.kp 2 N (cB (cB (cB impl_Hopf_axiom5.bd))) 0) (impl_Hopf_axiom5.fin N K g0 g1)))

theorem impl_Hopf_axiom5.k0_mix {ρ : Type} (N : Nat) (K : AV → Heap → Option ρ) (g0 : Nat → Int) (g1 : Nat → Int) : mixK (impl_Hopf_axiom5.fin N K g0 g1 .ret) (impl_Hopf_axiom5.k0 N K g0 g1) = (impl_Hopf_axiom5.k0 N K g0 g1) := by
  funext e s; cases e <;> rfl

noncomputable def impl_Hopf_axiom5.st0 (g0 : Nat → Int) (g1 : Nat → Int) (r2 : Nat → Int) (x3 : Int) : St := ⟨sl 56 [(0, .sptr [(0, 2), (1, 1104)]), (3, .sptr [(2, 2)]), (9, .int .i64 ((r2 1))), (10, .int .i64 (x3))], [⟨false, .ints .i64 2 g0⟩, ⟨false, .ints .u8 1104 g1⟩, ⟨true, .ints .i64 2 r2⟩]⟩

noncomputable def impl_Hopf_axiom5.sx0_0 (g0 : Nat → Int) (g1 : Nat → Int) (r2 : Nat → Int) : St := ⟨sl 56 [(0, .sptr [(0, 2), (1, 1104)])], [⟨false, .ints .i64 2 g0⟩, ⟨false, .ints .u8 1104 g1⟩, ⟨true, .ints .i64 2 r2⟩]⟩

noncomputable def impl_Hopf_axiom5.k1g {ρ : Type} (N : Nat) (L0 : St → Option ρ) (kv : XE → St → Option ρ) : XE → St → Option ρ := (blockK impl_Hopf_axiom5.kp 2 2 (blockK impl_Hopf_axiom5.kp 2 1 (seqK (xcode (E73 N) ents impl_Hopf_axiom5.kp 2 N (cB (cB (cB (cL (cK (cB (cA (cB (cB impl_Hopf_axiom5.bd))))))))) 0) (roundK impl_Hopf_axiom5.kp 2 0 L0 kv))))

theorem impl_Hopf_axiom5.k1_mix {ρ : Type} (N : Nat) (K : AV → Heap → Option ρ) (L0 : St → Option ρ) (g0 : Nat → Int) (g1 : Nat → Int) : mixK (impl_Hopf_axiom5.fin N K g0 g1 .ret) (impl_Hopf_axiom5.k1g N L0 (impl_Hopf_axiom5.k0 N K g0 g1)) = (impl_Hopf_axiom5.k1g N L0 (impl_Hopf_axiom5.k0 N K g0 g1)) := by
  funext e s; cases e <;> rfl

noncomputable def impl_Hopf_axiom5.st1 (g0 : Nat → Int) (g1 : Nat → Int) (r2 : Nat → Int) (x3 : Int) (x4 : Int) : St := ⟨sl 56 [(0, .sptr [(0, 2), (1, 1104)]), (3, .sptr [(2, 2)]), (4, .int .i64 (x3)), (9, .int .i64 ((r2 1))), (10, .int .i64 (x3)), (14, .int .i64 ((r2 1))), (15, .int .i64 (x4))], [⟨false, .ints .i64 2 g0⟩, ⟨false, .ints .u8 1104 g1⟩, ⟨true, .ints .i64 2 r2⟩]⟩

noncomputable def impl_Hopf_axiom5.sx1_0 (g0 : Nat → Int) (g1 : Nat → Int) (r2 : Nat → Int) (x3 : Int) : St := ⟨sl 56 [(0, .sptr [(0, 2), (1, 1104)]), (3, .sptr [(2, 2)]), (9, .int .i64 ((r2 1))), (10, .int .i64 (x3))], [⟨false, .ints .i64 2 g0⟩, ⟨false, .ints .u8 1104 g1⟩, ⟨true, .ints .i64 2 r2⟩]⟩

theorem impl_Hopf_axiom5.b1_gen {ρ : Type} (N : Nat) (K : AV → Heap → Option ρ) (L1 : St → Option ρ) (kv : XE → St → Option ρ) (g0 : Nat → Int) (g1 : Nat → Int) (r2 : Nat → Int) (x3 : Int) (x4 : Int) :
    xcode (E73 N) ents impl_Hopf_axiom5.kp 2 N (cL (cK (cB (cB (cK (cA (cB (cB (cL (cK (cB (cA (cB (cB impl_Hopf_axiom5.bd)))))))))))))) 2 (impl_Hopf_axiom5.st1 g0 g1 r2 x3 x4) (roundK impl_Hopf_axiom5.kp 2 2 L1 (mixK (impl_Hopf_axiom5.fin N K g0 g1 .ret) kv)) = (impl_Hopf_axiom5.b1 N (fun d0 => K (.bool (d0)) [⟨false, .ints .i64 2 g0⟩, ⟨false, .ints .u8 1104 g1⟩]) (fun x4 => L1 (impl_Hopf_axiom5.st1 g0 g1 r2 x3 x4)) (kv (.exit 2) (impl_Hopf_axiom5.sx1_0 g0 g1 r2 x3)) g0 g1 r2 x3 x4) := by kernel_rfl

theorem impl_Hopf_axiom5.b1_eq {ρ : Type} (N : Nat) (K : AV → Heap → Option ρ) (L0 : St → Option ρ) (L1 : St → Option ρ) (g0 : Nat → Int) (g1 : Nat → Int) (r2 : Nat → Int) (x3 : Int) (x4 : Int) :
    xcode (E73 N) ents impl_Hopf_axiom5.kp 2 N (cL (cK (cB (cB (cK (cA (cB (cB (cL (cK (cB (cA (cB (cB impl_Hopf_axiom5.bd)))))))))))))) 2 (impl_Hopf_axiom5.st1 g0 g1 r2 x3 x4) (roundK impl_Hopf_axiom5.kp 2 2 L1 (impl_Hopf_axiom5.k1g N L0 (impl_Hopf_axiom5.k0 N K g0 g1))) = (impl_Hopf_axiom5.b1 N (fun d0 => K (.bool (d0)) [⟨false, .ints .i64 2 g0⟩, ⟨false, .ints .u8 1104 g1⟩]) (fun x4 => L1 (impl_Hopf_axiom5.st1 g0 g1 r2 x3 x4)) ((impl_Hopf_axiom5.k1g N L0 (impl_Hopf_axiom5.k0 N K g0 g1)) (.exit 2) (impl_Hopf_axiom5.sx1_0 g0 g1 r2 x3)) g0 g1 r2 x3 x4) := by
  have h := impl_Hopf_axiom5.b1_gen N K L1 (impl_Hopf_axiom5.k1g N L0 (impl_Hopf_axiom5.k0 N K g0 g1)) g0 g1 r2 x3 x4
  rw [impl_Hopf_axiom5.k1_mix] at h
  exact h

theorem impl_Hopf_axiom5.a1_0_gen {ρ : Type} (N : Nat) (K : AV → Heap → Option ρ) (L0 : St → Option ρ) (kv : XE → St → Option ρ) (g0 : Nat → Int) (g1 : Nat → Int) (r2 : Nat → Int) (x3 : Int) :
    (impl_Hopf_axiom5.k1g N L0 (mixK (impl_Hopf_axiom5.fin N K g0 g1 .ret) kv)) (.exit 2) (impl_Hopf_axiom5.sx1_0 g0 g1 r2 x3) = (impl_Hopf_axiom5.a1_0 N (fun d0 => K (.bool (d0)) [⟨false, .ints .i64 2 g0⟩, ⟨false, .ints .u8 1104 g1⟩]) (fun x3 => L0 (impl_Hopf_axiom5.st0 g0 g1 r2 x3)) (kv (.exit 0) (impl_Hopf_axiom5.sx0_0 g0 g1 r2)) x3) := by kernel_rfl

theorem impl_Hopf_axiom5.a1_0_eq {ρ : Type} (N : Nat) (K : AV → Heap → Option ρ) (L0 : St → Option ρ) (g0 : Nat → Int) (g1 : Nat → Int) (r2 : Nat → Int) (x3 : Int) :
    (impl_Hopf_axiom5.k1g N L0 (impl_Hopf_axiom5.k0 N K g0 g1)) (.exit 2) (impl_Hopf_axiom5.sx1_0 g0 g1 r2 x3) = (impl_Hopf_axiom5.a1_0 N (fun d0 => K (.bool (d0)) [⟨false, .ints .i64 2 g0⟩, ⟨false, .ints .u8 1104 g1⟩]) (fun x3 => L0 (impl_Hopf_axiom5.st0 g0 g1 r2 x3)) ((impl_Hopf_axiom5.k0 N K g0 g1) (.exit 0) (impl_Hopf_axiom5.sx0_0 g0 g1 r2)) x3) := by
  have h := impl_Hopf_axiom5.a1_0_gen N K L0 (impl_Hopf_axiom5.k0 N K g0 g1) g0 g1 r2 x3
  rw [impl_Hopf_axiom5.k0_mix] at h
  exact h

theorem impl_Hopf_axiom5.b0_gen {ρ : Type} (N : Nat) (K : AV → Heap → Option ρ) (L0 : St → Option ρ) (kv : XE → St → Option ρ) (g0 : Nat → Int) (g1 : Nat → Int) (r2 : Nat → Int) (x3 : Int) :
    xcode (E73 N) ents impl_Hopf_axiom5.kp 2 N (cL (cK (cB (cA (cB (cB impl_Hopf_axiom5.bd)))))) 0 (impl_Hopf_axiom5.st0 g0 g1 r2 x3) (roundK impl_Hopf_axiom5.kp 2 0 L0 (mixK (impl_Hopf_axiom5.fin N K g0 g1 .ret) kv)) = (impl_Hopf_axiom5.b0 N (fun d0 => K (.bool (d0)) [⟨false, .ints .i64 2 g0⟩, ⟨false, .ints .u8 1104 g1⟩]) (fun x4 => xloop (xcode (E73 N) ents impl_Hopf_axiom5.kp 2 N (cL (cK (cB (cB (cK (cA (cB (cB (cL (cK (cB (cA (cB (cB impl_Hopf_axiom5.bd)))))))))))))) 2) impl_Hopf_axiom5.kp 2 2 N (impl_Hopf_axiom5.st1 g0 g1 r2 x3 x4) (impl_Hopf_axiom5.k1g N L0 (mixK (impl_Hopf_axiom5.fin N K g0 g1 .ret) kv))) (fun x3 => L0 (impl_Hopf_axiom5.st0 g0 g1 r2 x3)) (kv (.exit 0) (impl_Hopf_axiom5.sx0_0 g0 g1 r2)) r2 x3) := by kernel_rfl

theorem impl_Hopf_axiom5.b0_eq {ρ : Type} (N : Nat) (K : AV → Heap → Option ρ) (L0 : St → Option ρ) (g0 : Nat → Int) (g1 : Nat → Int) (r2 : Nat → Int) (x3 : Int) :
    xcode (E73 N) ents impl_Hopf_axiom5.kp 2 N (cL (cK (cB (cA (cB (cB impl_Hopf_axiom5.bd)))))) 0 (impl_Hopf_axiom5.st0 g0 g1 r2 x3) (roundK impl_Hopf_axiom5.kp 2 0 L0 (impl_Hopf_axiom5.k0 N K g0 g1)) = (impl_Hopf_axiom5.b0 N (fun d0 => K (.bool (d0)) [⟨false, .ints .i64 2 g0⟩, ⟨false, .ints .u8 1104 g1⟩]) (fun x4 => xloop (xcode (E73 N) ents impl_Hopf_axiom5.kp 2 N (cL (cK (cB (cB (cK (cA (cB (cB (cL (cK (cB (cA (cB (cB impl_Hopf_axiom5.bd)))))))))))))) 2) impl_Hopf_axiom5.kp 2 2 N (impl_Hopf_axiom5.st1 g0 g1 r2 x3 x4) (impl_Hopf_axiom5.k1g N L0 (impl_Hopf_axiom5.k0 N K g0 g1))) (fun x3 => L0 (impl_Hopf_axiom5.st0 g0 g1 r2 x3)) ((impl_Hopf_axiom5.k0 N K g0 g1) (.exit 0) (impl_Hopf_axiom5.sx0_0 g0 g1 r2)) r2 x3) := by
  have h := impl_Hopf_axiom5.b0_gen N K L0 (impl_Hopf_axiom5.k0 N K g0 g1) g0 g1 r2 x3
  rw [impl_Hopf_axiom5.k0_mix] at h
  exact h

theorem impl_Hopf_axiom5.a0_0_eq {ρ : Type} (N : Nat) (K : AV → Heap → Option ρ) (g0 : Nat → Int) (g1 : Nat → Int) (r2 : Nat → Int) :
    (impl_Hopf_axiom5.k0 N K g0 g1) (.exit 0) (impl_Hopf_axiom5.sx0_0 g0 g1 r2) = (impl_Hopf_axiom5.a0_0 N (fun d0 => K (.bool (d0)) [⟨false, .ints .i64 2 g0⟩, ⟨false, .ints .u8 1104 g1⟩]) g0 g1) := by kernel_rfl

theorem impl_Hopf_axiom5.l1_eq {ρ : Type} (N : Nat) (K : AV → Heap → Option ρ) (L0 : St → Option ρ) (g0 : Nat → Int) (g1 : Nat → Int) (r2 : Nat → Int) (x3 : Int) :
    ∀ (m : Nat) (x4 : Int), xloop (xcode (E73 N) ents impl_Hopf_axiom5.kp 2 N (cL (cK (cB (cB (cK (cA (cB (cB (cL (cK (cB (cA (cB (cB impl_Hopf_axiom5.bd)))))))))))))) 2) impl_Hopf_axiom5.kp 2 2 m (impl_Hopf_axiom5.st1 g0 g1 r2 x3 x4) (impl_Hopf_axiom5.k1g N L0 (impl_Hopf_axiom5.k0 N K g0 g1)) = (impl_Hopf_axiom5.l1 N (fun d0 => K (.bool (d0)) [⟨false, .ints .i64 2 g0⟩, ⟨false, .ints .u8 1104 g1⟩]) g0 g1 r2 x3 ((impl_Hopf_axiom5.k1g N L0 (impl_Hopf_axiom5.k0 N K g0 g1)) (.exit 2) (impl_Hopf_axiom5.sx1_0 g0 g1 r2 x3)) m x4) := by
  intro m
  induction m with
  | zero => intros; rfl
  | succ m ih =>
    intro x4
    refine (impl_Hopf_axiom5.b1_eq N K L0 (fun s => xloop (xcode (E73 N) ents impl_Hopf_axiom5.kp 2 N (cL (cK (cB (cB (cK (cA (cB (cB (cL (cK (cB (cA (cB (cB impl_Hopf_axiom5.bd)))))))))))))) 2) impl_Hopf_axiom5.kp 2 2 m s (impl_Hopf_axiom5.k1g N L0 (impl_Hopf_axiom5.k0 N K g0 g1))) g0 g1 r2 x3 x4).trans ?_
    simp only [ih]
    kernel_rfl

theorem impl_Hopf_axiom5.l0_eq {ρ : Type} (N : Nat) (K : AV → Heap → Option ρ) (g0 : Nat → Int) (g1 : Nat → Int) (r2 : Nat → Int) :
    ∀ (m : Nat) (x3 : Int), xloop (xcode (E73 N) ents impl_Hopf_axiom5.kp 2 N (cL (cK (cB (cA (cB (cB impl_Hopf_axiom5.bd)))))) 0) impl_Hopf_axiom5.kp 2 0 m (impl_Hopf_axiom5.st0 g0 g1 r2 x3) (impl_Hopf_axiom5.k0 N K g0 g1) = (impl_Hopf_axiom5.l0 N (fun d0 => K (.bool (d0)) [⟨false, .ints .i64 2 g0⟩, ⟨false, .ints .u8 1104 g1⟩]) g0 g1 r2 ((impl_Hopf_axiom5.k0 N K g0 g1) (.exit 0) (impl_Hopf_axiom5.sx0_0 g0 g1 r2)) m x3) := by
  intro m
  induction m with
  | zero => intros; rfl
  | succ m ih =>
    intro x3
    refine (impl_Hopf_axiom5.b0_eq N K (fun s => xloop (xcode (E73 N) ents impl_Hopf_axiom5.kp 2 N (cL (cK (cB (cA (cB (cB impl_Hopf_axiom5.bd)))))) 0) impl_Hopf_axiom5.kp 2 0 m s (impl_Hopf_axiom5.k0 N K g0 g1)) g0 g1 r2 x3).trans ?_
    simp only [ih, impl_Hopf_axiom5.l1_eq, impl_Hopf_axiom5.a1_0_eq]
    kernel_rfl

theorem impl_Hopf_axiom5.s_eq {ρ : Type} (N : Nat) (K : AV → Heap → Option ρ) (g0 : Nat → Int) (g1 : Nat → Int) :
    xbody (E73 N) ents impl_Hopf_axiom5.kp N Go.Proofs.Try.f64 impl_Hopf_axiom5.bd [.sptr [(0, 2), (1, 1104)]] [⟨false, .ints .i64 2 g0⟩, ⟨false, .ints .u8 1104 g1⟩] K = (impl_Hopf_axiom5.s N (fun d0 => K (.bool (d0)) [⟨false, .ints .i64 2 g0⟩, ⟨false, .ints .u8 1104 g1⟩]) (fun r2 x3 => xloop (xcode (E73 N) ents impl_Hopf_axiom5.kp 2 N (cL (cK (cB (cA (cB (cB impl_Hopf_axiom5.bd)))))) 0) impl_Hopf_axiom5.kp 2 0 N (impl_Hopf_axiom5.st0 g0 g1 r2 x3) (impl_Hopf_axiom5.k0 N K g0 g1)) g0 g1) := by kernel_rfl

theorem impl_Hopf_axiom5.eq {ρ : Type} (N : Nat) (K : AV → Heap → Option ρ) (g0 : Nat → Int) (g1 : Nat → Int) :
    xbody (E73 N) ents impl_Hopf_axiom5.kp N Go.Proofs.Try.f64 impl_Hopf_axiom5.bd [.sptr [(0, 2), (1, 1104)]] [⟨false, .ints .i64 2 g0⟩, ⟨false, .ints .u8 1104 g1⟩] K = (impl_Hopf_axiom5 N (fun d0 => K (.bool (d0)) [⟨false, .ints .i64 2 g0⟩, ⟨false, .ints .u8 1104 g1⟩]) g0 g1) := by
  refine (impl_Hopf_axiom5.s_eq N K g0 g1).trans ?_
  simp only [impl_Hopf_axiom5.l0_eq, impl_Hopf_axiom5.a0_0_eq]
  kernel_rfl

noncomputable def impl_Hopf_axiom5.en (N : Nat) (ρ : Type) : List AV → Heap → (AV → Heap → Option ρ) → Option ρ
  | [.sptr [(0, 2), (1, 1104)]], [⟨false, .ints .i64 2 g0⟩, ⟨false, .ints .u8 1104 g1⟩], K => (impl_Hopf_axiom5 N (fun d0 => K (.bool (d0)) [⟨false, .ints .i64 2 g0⟩, ⟨false, .ints .u8 1104 g1⟩]) g0 g1)
  | _, _, _ => none

theorem impl_Hopf_axiom5.en_ok (N : Nat) (hE : EnvOk (E73 N) ents) (ρ : Type) (args : List AV) (sh : Heap) (K : AV → Heap → Option ρ) (r : ρ) (h : impl_Hopf_axiom5.en N ρ args sh K = some r) : ∃ v sh', K v sh' = some r ∧ FnOk (E73 N).P 64 args sh v sh' := by
  unfold impl_Hopf_axiom5.en at h
  split at h
  · exact fn_ok hE (kp := impl_Hopf_axiom5.kp) (N := N) Go.Proofs.Try.func64 (c := impl_Hopf_axiom5.bd) (by kernel_rfl) ((impl_Hopf_axiom5.eq N _ _ _).trans h)
  · cases h

noncomputable def E74 (N : Nat) : Env := (E73 N).add 64 (impl_Hopf_axiom5.en N)

theorem E74_ok (N : Nat) : EnvOk (E74 N) ents := Env.add_ok (E73_ok N) (impl_Hopf_axiom5.en_ok N (E73_ok N))
end Go.Proofs.Ytacdnmdfoimjcaa.H
