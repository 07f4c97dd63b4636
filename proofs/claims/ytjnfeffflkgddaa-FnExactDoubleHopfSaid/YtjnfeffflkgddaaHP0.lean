/- The functions that the program computes, in plain Lean. -/
import Derived.Test.YtjnfeffflkgddaaHxUse
namespace Go.Proofs.Ytjnfeffflkgddaa.H
set_option linter.unusedVariables false
set_option linter.unusedSimpArgs false
open Go Go.RowKit Go.Proofs.Ytjnfeffflkgddaa.Hx
set_option linter.unusedVariables false
set_option maxRecDepth 100000
noncomputable def spec_l01In {ρ : Type} (N : Nat) (K0 : Bool → Option ρ) (n0 : Int) (low1 : Int) (high2 : Int) : Option ρ :=
  (if (decide (n0 ≥ low1)) = true then (K0 ((decide (n0 ≤ high2)))) else (K0 false))

noncomputable def spec_l01Prime.b0 {ρ : Type} (N : Nat) (K0 : Bool → Option ρ) (rec : Int → Option ρ) (out0 : Option ρ) (p0 : Int) (k1 : Int) : Option ρ :=
  (if (decide (k1 < p0)) = true then (if (decide (k1 ≤ 31)) = true then (if k1 = 0 then none else (if ((Int.tmod p0 k1) == 0) = true then (K0 false) else (rec ((IntKind.i64.wrap (k1 + 1)))))) else out0) else out0)

noncomputable def spec_l01Prime.a0_0 {ρ : Type} (N : Nat) (K0 : Bool → Option ρ) (p0 : Int) : Option ρ :=
  (spec_l01In N (fun r2 => (K0 (r2))) p0 2 31)

noncomputable def spec_l01Prime.l0 {ρ : Type} (N : Nat) (K0 : Bool → Option ρ) (p0 : Int) (out0 : Option ρ) : Nat → Int → Option ρ
  | 0, _ => none
  | m + 1, k1 => (spec_l01Prime.b0 N K0 ((spec_l01Prime.l0 N K0 p0 out0 m)) out0 p0 k1)

noncomputable def spec_l01Prime.s {ρ : Type} (N : Nat) (K0 : Bool → Option ρ) (lp0 : Int → Option ρ) : Option ρ :=
  (lp0 2)

noncomputable def spec_l01Prime {ρ : Type} (N : Nat) (K0 : Bool → Option ρ) (p0 : Int) : Option ρ :=
  (spec_l01Prime.s N K0 (fun k1 => (spec_l01Prime.l0 N K0 p0 (spec_l01Prime.a0_0 N K0 p0) N k1)))

noncomputable def spec_l01Basis {ρ : Type} (N : Nat) (K0 : (Nat → Int) → Option ρ) (i0 : Int) : Option ρ :=
  (if (0 : Int) ≤ i0 ∧ i0 < 8 then (K0 (upd (fun _ => 0) (i0.toNat * 1) 1)) else none)

noncomputable def spec_l01Mod {ρ : Type} (N : Nat) (K0 : Int → Option ρ) (p0 : Int) (x1 : Int) : Option ρ :=
  (if p0 = 0 then none else (if p0 = 0 then none else (K0 ((IntKind.u8.wrap (Int.tmod (IntKind.i64.wrap ((Int.tmod x1 p0) + p0)) p0))))))

noncomputable def spec_l01Add.b0 {ρ : Type} (N : Nat) (K0 : (Nat → Int) → Option ρ) (rec : Int → (Nat → Int) → Option ρ) (out0 : (Nat → Int) → Option ρ) (p0 : Int) (w2 : Nat → Int) (k3 : Int) (i4 : Int) (g5 : Nat → Int) : Option ρ :=
  (if (decide (i4 < 8)) = true then (if (0 : Int) ≤ i4 ∧ i4 < 8 then (if (0 : Int) ≤ i4 ∧ i4 < 8 then (spec_l01Mod N (fun r6 => (if (0 : Int) ≤ i4 ∧ i4 < 8 then (rec ((IntKind.i64.wrap (i4 + 1))) (upd g5 (i4.toNat * 1) r6)) else none)) p0 ((IntKind.i64.wrap ((IntKind.i64.wrap (g5 (i4.toNat * 1))) + (IntKind.i64.wrap (k3 * (IntKind.i64.wrap (w2 (i4.toNat * 1))))))))) else none) else none) else (out0 g5))

noncomputable def spec_l01Add.a0_0 {ρ : Type} (N : Nat) (K0 : (Nat → Int) → Option ρ) (o7 : Nat → Int) : Option ρ :=
  (K0 o7)

noncomputable def spec_l01Add.l0 {ρ : Type} (N : Nat) (K0 : (Nat → Int) → Option ρ) (p0 : Int) (w2 : Nat → Int) (k3 : Int) (out0 : (Nat → Int) → Option ρ) : Nat → Int → (Nat → Int) → Option ρ
  | 0, _, _ => none
  | m + 1, i4, g5 => (spec_l01Add.b0 N K0 ((spec_l01Add.l0 N K0 p0 w2 k3 out0 m)) out0 p0 w2 k3 i4 g5)

noncomputable def spec_l01Add.s {ρ : Type} (N : Nat) (K0 : (Nat → Int) → Option ρ) (lp0 : Int → (Nat → Int) → Option ρ) (v1 : Nat → Int) : Option ρ :=
  (lp0 0 v1)

noncomputable def spec_l01Add {ρ : Type} (N : Nat) (K0 : (Nat → Int) → Option ρ) (p0 : Int) (v1 : Nat → Int) (w2 : Nat → Int) (k3 : Int) : Option ρ :=
  (spec_l01Add.s N K0 (fun i4 g5 => (spec_l01Add.l0 N K0 p0 w2 k3 (fun o7 => (spec_l01Add.a0_0 N K0 o7)) N i4 g5)) v1)

noncomputable def spec_l02Outer.b0 {ρ : Type} (N : Nat) (K0 : (Nat → Int) → Option ρ) (rec : Int → (Nat → Int) → Option ρ) (out0 : (Nat → Int) → Option ρ) (p0 : Int) (v1 : Nat → Int) (w2 : Nat → Int) (j3 : Int) (g4 : Nat → Int) : Option ρ :=
  (if (decide (j3 < 8)) = true then (if (0 : Int) ≤ j3 ∧ j3 < 8 then (spec_l01Add N (fun r5 => (if (0 : Int) ≤ j3 ∧ j3 < 8 then (rec ((IntKind.i64.wrap (j3 + 1))) (updN g4 (j3.toNat * 8) 8 r5)) else none)) p0 (fun _ => 0) w2 ((IntKind.i64.wrap (v1 (j3.toNat * 1))))) else none) else (out0 g4))

noncomputable def spec_l02Outer.a0_0 {ρ : Type} (N : Nat) (K0 : (Nat → Int) → Option ρ) (o6 : Nat → Int) : Option ρ :=
  (K0 o6)

noncomputable def spec_l02Outer.l0 {ρ : Type} (N : Nat) (K0 : (Nat → Int) → Option ρ) (p0 : Int) (v1 : Nat → Int) (w2 : Nat → Int) (out0 : (Nat → Int) → Option ρ) : Nat → Int → (Nat → Int) → Option ρ
  | 0, _, _ => none
  | m + 1, j3, g4 => (spec_l02Outer.b0 N K0 ((spec_l02Outer.l0 N K0 p0 v1 w2 out0 m)) out0 p0 v1 w2 j3 g4)

noncomputable def spec_l02Outer.s {ρ : Type} (N : Nat) (K0 : (Nat → Int) → Option ρ) (lp0 : Int → (Nat → Int) → Option ρ) : Option ρ :=
  (lp0 0 (fun _ => 0))

noncomputable def spec_l02Outer {ρ : Type} (N : Nat) (K0 : (Nat → Int) → Option ρ) (p0 : Int) (v1 : Nat → Int) (w2 : Nat → Int) : Option ρ :=
  (spec_l02Outer.s N K0 (fun j3 g4 => (spec_l02Outer.l0 N K0 p0 v1 w2 (fun o6 => (spec_l02Outer.a0_0 N K0 o6)) N j3 g4)))

noncomputable def spec_l04Pairs.b4 {ρ : Type} (N : Nat) (K0 : (Nat → Int) → Option ρ) (rec : Int → (Nat → Int) → Option ρ) (out0 : (Nat → Int) → Option ρ) (a0 : Nat → Int) (f2 : Nat → Int) (g3 : Nat → Int) (j4 : Int) (k6 : Int) (l8 : Int) (m10 : Int) (r12 : Nat → Int) (i13 : Int) (g14 : Nat → Int) : Option ρ :=
  (if (decide (i13 < (a0 1))) = true then (if (0 : Int) ≤ i13 ∧ i13 < 8 then (if (0 : Int) ≤ i13 ∧ i13 < 8 then (spec_l01Add N (fun r15 => (if (0 : Int) ≤ i13 ∧ i13 < 8 then (rec ((IntKind.i64.wrap (i13 + 1))) (updN g14 (i13.toNat * 8) 8 r15)) else none)) ((a0 0)) (fun z => (g14 ((i13.toNat * 8) + z))) (fun z => (r12 ((i13.toNat * 8) + z))) ((IntKind.i64.wrap ((IntKind.i64.wrap (f2 ((j4.toNat * 8) + (k6.toNat * 1)))) * (IntKind.i64.wrap (g3 ((l8.toNat * 8) + (m10.toNat * 1)))))))) else none) else none) else (out0 g14))

noncomputable def spec_l04Pairs.a4_0 {ρ : Type} (N : Nat) (K0 : (Nat → Int) → Option ρ) (rec : Int → (Nat → Int) → Option ρ) (out0 : (Nat → Int) → Option ρ) (m10 : Int) (o16 : Nat → Int) : Option ρ :=
  (rec ((IntKind.i64.wrap (m10 + 1))) o16)

noncomputable def spec_l04Pairs.b3 {ρ : Type} (N : Nat) (K0 : (Nat → Int) → Option ρ) (lp4 : (Nat → Int) → Int → (Nat → Int) → Option ρ) (rec : Int → (Nat → Int) → Option ρ) (out0 : (Nat → Int) → Option ρ) (a0 : Nat → Int) (a1 : Nat → Int) (g3 : Nat → Int) (j4 : Int) (k6 : Int) (l8 : Int) (m10 : Int) (g11 : Nat → Int) : Option ρ :=
  (if (decide (m10 < (a0 1))) = true then (if (0 : Int) ≤ l8 ∧ l8 < 8 then (if (0 : Int) ≤ m10 ∧ m10 < 8 then (if ((g3 ((l8.toNat * 8) + (m10.toNat * 1))) == 0) = true then (rec ((IntKind.i64.wrap (m10 + 1))) g11) else (if (0 : Int) ≤ j4 ∧ j4 < 8 then (if (0 : Int) ≤ l8 ∧ l8 < 8 then (if (0 : Int) ≤ k6 ∧ k6 < 8 then (if (0 : Int) ≤ m10 ∧ m10 < 8 then (spec_l02Outer N (fun r12 => (if (0 : Int) ≤ j4 ∧ j4 < 8 then (if (0 : Int) ≤ k6 ∧ k6 < 8 then (if (0 : Int) ≤ l8 ∧ l8 < 8 then (if (0 : Int) ≤ m10 ∧ m10 < 8 then (lp4 r12 0 g11) else none) else none) else none) else none)) ((a0 0)) (fun z => (a1 (((8 + (j4.toNat * 64)) + (l8.toNat * 8)) + z))) (fun z => (a1 (((8 + (k6.toNat * 64)) + (m10.toNat * 8)) + z)))) else none) else none) else none) else none)) else none) else none) else (out0 g11))

noncomputable def spec_l04Pairs.a3_0 {ρ : Type} (N : Nat) (K0 : (Nat → Int) → Option ρ) (rec : Int → (Nat → Int) → Option ρ) (out0 : (Nat → Int) → Option ρ) (l8 : Int) (o17 : Nat → Int) : Option ρ :=
  (rec ((IntKind.i64.wrap (l8 + 1))) o17)

noncomputable def spec_l04Pairs.b2 {ρ : Type} (N : Nat) (K0 : (Nat → Int) → Option ρ) (lp3 : Int → (Nat → Int) → Option ρ) (rec : Int → (Nat → Int) → Option ρ) (out0 : (Nat → Int) → Option ρ) (a0 : Nat → Int) (f2 : Nat → Int) (j4 : Int) (k6 : Int) (l8 : Int) (g9 : Nat → Int) : Option ρ :=
  (if (decide (l8 < (a0 1))) = true then (if (0 : Int) ≤ j4 ∧ j4 < 8 then (if (0 : Int) ≤ k6 ∧ k6 < 8 then (if ((f2 ((j4.toNat * 8) + (k6.toNat * 1))) != 0) = true then (lp3 0 g9) else (out0 g9)) else none) else none) else (out0 g9))

noncomputable def spec_l04Pairs.a2_0 {ρ : Type} (N : Nat) (K0 : (Nat → Int) → Option ρ) (rec : Int → (Nat → Int) → Option ρ) (out0 : (Nat → Int) → Option ρ) (k6 : Int) (o18 : Nat → Int) : Option ρ :=
  (rec ((IntKind.i64.wrap (k6 + 1))) o18)

noncomputable def spec_l04Pairs.b1 {ρ : Type} (N : Nat) (K0 : (Nat → Int) → Option ρ) (lp2 : Int → (Nat → Int) → Option ρ) (rec : Int → (Nat → Int) → Option ρ) (out0 : (Nat → Int) → Option ρ) (a0 : Nat → Int) (k6 : Int) (g7 : Nat → Int) : Option ρ :=
  (if (decide (k6 < (a0 1))) = true then (lp2 0 g7) else (out0 g7))

noncomputable def spec_l04Pairs.a1_0 {ρ : Type} (N : Nat) (K0 : (Nat → Int) → Option ρ) (rec : Int → (Nat → Int) → Option ρ) (out0 : (Nat → Int) → Option ρ) (j4 : Int) (o19 : Nat → Int) : Option ρ :=
  (rec ((IntKind.i64.wrap (j4 + 1))) o19)

noncomputable def spec_l04Pairs.b0 {ρ : Type} (N : Nat) (K0 : (Nat → Int) → Option ρ) (lp1 : Int → (Nat → Int) → Option ρ) (rec : Int → (Nat → Int) → Option ρ) (out0 : (Nat → Int) → Option ρ) (a0 : Nat → Int) (j4 : Int) (g5 : Nat → Int) : Option ρ :=
  (if (decide (j4 < (a0 1))) = true then (lp1 0 g5) else (out0 g5))

noncomputable def spec_l04Pairs.a0_0 {ρ : Type} (N : Nat) (K0 : (Nat → Int) → Option ρ) (o20 : Nat → Int) : Option ρ :=
  (K0 o20)

noncomputable def spec_l04Pairs.l4 {ρ : Type} (N : Nat) (K0 : (Nat → Int) → Option ρ) (a0 : Nat → Int) (f2 : Nat → Int) (g3 : Nat → Int) (j4 : Int) (k6 : Int) (l8 : Int) (m10 : Int) (r12 : Nat → Int) (out0 : (Nat → Int) → Option ρ) : Nat → Int → (Nat → Int) → Option ρ
  | 0, _, _ => none
  | m + 1, i13, g14 => (spec_l04Pairs.b4 N K0 ((spec_l04Pairs.l4 N K0 a0 f2 g3 j4 k6 l8 m10 r12 out0 m)) out0 a0 f2 g3 j4 k6 l8 m10 r12 i13 g14)

noncomputable def spec_l04Pairs.l3 {ρ : Type} (N : Nat) (K0 : (Nat → Int) → Option ρ) (a0 : Nat → Int) (a1 : Nat → Int) (f2 : Nat → Int) (g3 : Nat → Int) (j4 : Int) (k6 : Int) (l8 : Int) (out0 : (Nat → Int) → Option ρ) : Nat → Int → (Nat → Int) → Option ρ
  | 0, _, _ => none
  | m + 1, m10, g11 => (spec_l04Pairs.b3 N K0 (fun r12 i13 g14 => (spec_l04Pairs.l4 N K0 a0 f2 g3 j4 k6 l8 m10 r12 (fun o16 => (spec_l04Pairs.a4_0 N K0 (spec_l04Pairs.l3 N K0 a0 a1 f2 g3 j4 k6 l8 out0 m) out0 m10 o16)) N i13 g14)) ((spec_l04Pairs.l3 N K0 a0 a1 f2 g3 j4 k6 l8 out0 m)) out0 a0 a1 g3 j4 k6 l8 m10 g11)

noncomputable def spec_l04Pairs.l2 {ρ : Type} (N : Nat) (K0 : (Nat → Int) → Option ρ) (a0 : Nat → Int) (a1 : Nat → Int) (f2 : Nat → Int) (g3 : Nat → Int) (j4 : Int) (k6 : Int) (out0 : (Nat → Int) → Option ρ) : Nat → Int → (Nat → Int) → Option ρ
  | 0, _, _ => none
  | m + 1, l8, g9 => (spec_l04Pairs.b2 N K0 (fun m10 g11 => (spec_l04Pairs.l3 N K0 a0 a1 f2 g3 j4 k6 l8 (fun o17 => (spec_l04Pairs.a3_0 N K0 (spec_l04Pairs.l2 N K0 a0 a1 f2 g3 j4 k6 out0 m) out0 l8 o17)) N m10 g11)) ((spec_l04Pairs.l2 N K0 a0 a1 f2 g3 j4 k6 out0 m)) out0 a0 f2 j4 k6 l8 g9)

noncomputable def spec_l04Pairs.l1 {ρ : Type} (N : Nat) (K0 : (Nat → Int) → Option ρ) (a0 : Nat → Int) (a1 : Nat → Int) (f2 : Nat → Int) (g3 : Nat → Int) (j4 : Int) (out0 : (Nat → Int) → Option ρ) : Nat → Int → (Nat → Int) → Option ρ
  | 0, _, _ => none
  | m + 1, k6, g7 => (spec_l04Pairs.b1 N K0 (fun l8 g9 => (spec_l04Pairs.l2 N K0 a0 a1 f2 g3 j4 k6 (fun o18 => (spec_l04Pairs.a2_0 N K0 (spec_l04Pairs.l1 N K0 a0 a1 f2 g3 j4 out0 m) out0 k6 o18)) N l8 g9)) ((spec_l04Pairs.l1 N K0 a0 a1 f2 g3 j4 out0 m)) out0 a0 k6 g7)

noncomputable def spec_l04Pairs.l0 {ρ : Type} (N : Nat) (K0 : (Nat → Int) → Option ρ) (a0 : Nat → Int) (a1 : Nat → Int) (f2 : Nat → Int) (g3 : Nat → Int) (out0 : (Nat → Int) → Option ρ) : Nat → Int → (Nat → Int) → Option ρ
  | 0, _, _ => none
  | m + 1, j4, g5 => (spec_l04Pairs.b0 N K0 (fun k6 g7 => (spec_l04Pairs.l1 N K0 a0 a1 f2 g3 j4 (fun o19 => (spec_l04Pairs.a1_0 N K0 (spec_l04Pairs.l0 N K0 a0 a1 f2 g3 out0 m) out0 j4 o19)) N k6 g7)) ((spec_l04Pairs.l0 N K0 a0 a1 f2 g3 out0 m)) out0 a0 j4 g5)

noncomputable def spec_l04Pairs.s {ρ : Type} (N : Nat) (K0 : (Nat → Int) → Option ρ) (lp0 : Int → (Nat → Int) → Option ρ) : Option ρ :=
  (lp0 0 (fun _ => 0))

noncomputable def spec_l04Pairs {ρ : Type} (N : Nat) (K0 : (Nat → Int) → Option ρ) (a0 : Nat → Int) (a1 : Nat → Int) (f2 : Nat → Int) (g3 : Nat → Int) : Option ρ :=
  (spec_l04Pairs.s N K0 (fun j4 g5 => (spec_l04Pairs.l0 N K0 a0 a1 f2 g3 (fun o20 => (spec_l04Pairs.a0_0 N K0 o20)) N j4 g5)))

noncomputable def spec_l01Apply.b0 {ρ : Type} (N : Nat) (K0 : (Nat → Int) → Option ρ) (rec : Int → (Nat → Int) → Option ρ) (out0 : (Nat → Int) → Option ρ) (p0 : Int) (n1 : Int) (f2 : Nat → Int) (v3 : Nat → Int) (i4 : Int) (g5 : Nat → Int) : Option ρ :=
  (if (decide (i4 < n1)) = true then (if (0 : Int) ≤ i4 ∧ i4 < 8 then (if ((v3 (i4.toNat * 1)) != 0) = true then (if (0 : Int) ≤ i4 ∧ i4 < 8 then (if (0 : Int) ≤ i4 ∧ i4 < 8 then (spec_l01Add N (fun r6 => (rec ((IntKind.i64.wrap (i4 + 1))) r6)) p0 g5 (fun z => (f2 ((i4.toNat * 8) + z))) ((IntKind.i64.wrap (v3 (i4.toNat * 1))))) else none) else none) else (rec ((IntKind.i64.wrap (i4 + 1))) g5)) else none) else (out0 g5))

noncomputable def spec_l01Apply.a0_0 {ρ : Type} (N : Nat) (K0 : (Nat → Int) → Option ρ) (o7 : Nat → Int) : Option ρ :=
  (K0 o7)

noncomputable def spec_l01Apply.l0 {ρ : Type} (N : Nat) (K0 : (Nat → Int) → Option ρ) (p0 : Int) (n1 : Int) (f2 : Nat → Int) (v3 : Nat → Int) (out0 : (Nat → Int) → Option ρ) : Nat → Int → (Nat → Int) → Option ρ
  | 0, _, _ => none
  | m + 1, i4, g5 => (spec_l01Apply.b0 N K0 ((spec_l01Apply.l0 N K0 p0 n1 f2 v3 out0 m)) out0 p0 n1 f2 v3 i4 g5)

noncomputable def spec_l01Apply.s {ρ : Type} (N : Nat) (K0 : (Nat → Int) → Option ρ) (lp0 : Int → (Nat → Int) → Option ρ) : Option ρ :=
  (lp0 0 (fun _ => 0))

noncomputable def spec_l01Apply {ρ : Type} (N : Nat) (K0 : (Nat → Int) → Option ρ) (p0 : Int) (n1 : Int) (f2 : Nat → Int) (v3 : Nat → Int) : Option ρ :=
  (spec_l01Apply.s N K0 (fun i4 g5 => (spec_l01Apply.l0 N K0 p0 n1 f2 v3 (fun o7 => (spec_l01Apply.a0_0 N K0 o7)) N i4 g5)))

noncomputable def spec_l01Times.b0 {ρ : Type} (N : Nat) (K0 : (Nat → Int) → Option ρ) (rec : Int → (Nat → Int) → Option ρ) (out0 : (Nat → Int) → Option ρ) (a0 : Nat → Int) (a1 : Nat → Int) (v2 : Nat → Int) (w3 : Nat → Int) (i4 : Int) (g5 : Nat → Int) : Option ρ :=
  (if (decide (i4 < (a0 1))) = true then (if (0 : Int) ≤ i4 ∧ i4 < 8 then (if ((v2 (i4.toNat * 1)) != 0) = true then (if (0 : Int) ≤ i4 ∧ i4 < 8 then (spec_l01Apply N (fun r6 => (if (0 : Int) ≤ i4 ∧ i4 < 8 then (spec_l01Add N (fun r7 => (rec ((IntKind.i64.wrap (i4 + 1))) r7)) ((a0 0)) g5 r6 ((IntKind.i64.wrap (v2 (i4.toNat * 1))))) else none)) ((a0 0)) ((a0 1)) (fun z => (a1 ((8 + (i4.toNat * 64)) + z))) w3) else none) else (rec ((IntKind.i64.wrap (i4 + 1))) g5)) else none) else (out0 g5))

noncomputable def spec_l01Times.a0_0 {ρ : Type} (N : Nat) (K0 : (Nat → Int) → Option ρ) (o8 : Nat → Int) : Option ρ :=
  (K0 o8)

noncomputable def spec_l01Times.l0 {ρ : Type} (N : Nat) (K0 : (Nat → Int) → Option ρ) (a0 : Nat → Int) (a1 : Nat → Int) (v2 : Nat → Int) (w3 : Nat → Int) (out0 : (Nat → Int) → Option ρ) : Nat → Int → (Nat → Int) → Option ρ
  | 0, _, _ => none
  | m + 1, i4, g5 => (spec_l01Times.b0 N K0 ((spec_l01Times.l0 N K0 a0 a1 v2 w3 out0 m)) out0 a0 a1 v2 w3 i4 g5)

noncomputable def spec_l01Times.s {ρ : Type} (N : Nat) (K0 : (Nat → Int) → Option ρ) (lp0 : Int → (Nat → Int) → Option ρ) : Option ρ :=
  (lp0 0 (fun _ => 0))

noncomputable def spec_l01Times {ρ : Type} (N : Nat) (K0 : (Nat → Int) → Option ρ) (a0 : Nat → Int) (a1 : Nat → Int) (v2 : Nat → Int) (w3 : Nat → Int) : Option ρ :=
  (spec_l01Times.s N K0 (fun i4 g5 => (spec_l01Times.l0 N K0 a0 a1 v2 w3 (fun o8 => (spec_l01Times.a0_0 N K0 o8)) N i4 g5)))

noncomputable def spec_l04Double.b1 {ρ : Type} (N : Nat) (K0 : (Nat → Int) → (Nat → Int) → Option ρ) (rec : Int → (Nat → Int) → Option ρ) (out0 : (Nat → Int) → Option ρ) (p0 : Int) (i1 : Int) (j3 : Int) (g4 : Nat → Int) : Option ρ :=
  (if (decide (j3 < 8)) = true then (if (decide ((IntKind.i64.wrap ((Int.tmod (IntKind.i64.wrap (Int.tdiv i1 2)) 2) + (Int.tmod (IntKind.i64.wrap (Int.tdiv j3 2)) 2))) > 1)) = true then (rec ((IntKind.i64.wrap (j3 + 1))) g4) else (if (decide ((IntKind.i64.wrap ((IntKind.i64.wrap (Int.tdiv i1 4)) + (IntKind.i64.wrap (Int.tdiv j3 4)))) > 1)) = true then (rec ((IntKind.i64.wrap (j3 + 1))) g4) else (if ((Int.tmod (IntKind.i64.wrap ((IntKind.i64.wrap ((Int.tmod j3 2) * (IntKind.i64.wrap ((Int.tmod (IntKind.i64.wrap (Int.tdiv i1 2)) 2) + (IntKind.i64.wrap (Int.tdiv i1 4)))))) + (IntKind.i64.wrap ((IntKind.i64.wrap (Int.tdiv i1 4)) * (Int.tmod (IntKind.i64.wrap (Int.tdiv j3 2)) 2))))) 2) == 1) = true then (if (0 : Int) ≤ i1 ∧ i1 < 8 then (if (0 : Int) ≤ j3 ∧ j3 < 8 then (if (0 : Int) ≤ (IntKind.i64.wrap ((IntKind.i64.wrap ((Int.tmod (IntKind.i64.wrap ((Int.tmod i1 2) + (Int.tmod j3 2))) 2) + (IntKind.i64.wrap (2 * (IntKind.i64.wrap ((Int.tmod (IntKind.i64.wrap (Int.tdiv i1 2)) 2) + (Int.tmod (IntKind.i64.wrap (Int.tdiv j3 2)) 2))))))) + (IntKind.i64.wrap (4 * (IntKind.i64.wrap ((IntKind.i64.wrap (Int.tdiv i1 4)) + (IntKind.i64.wrap (Int.tdiv j3 4)))))))) ∧ (IntKind.i64.wrap ((IntKind.i64.wrap ((Int.tmod (IntKind.i64.wrap ((Int.tmod i1 2) + (Int.tmod j3 2))) 2) + (IntKind.i64.wrap (2 * (IntKind.i64.wrap ((Int.tmod (IntKind.i64.wrap (Int.tdiv i1 2)) 2) + (Int.tmod (IntKind.i64.wrap (Int.tdiv j3 2)) 2))))))) + (IntKind.i64.wrap (4 * (IntKind.i64.wrap ((IntKind.i64.wrap (Int.tdiv i1 4)) + (IntKind.i64.wrap (Int.tdiv j3 4)))))))) < 8 then (rec ((IntKind.i64.wrap (j3 + 1))) (upd g4 (((8 + (i1.toNat * 64)) + (j3.toNat * 8)) + (((IntKind.i64.wrap ((IntKind.i64.wrap ((Int.tmod (IntKind.i64.wrap ((Int.tmod i1 2) + (Int.tmod j3 2))) 2) + (IntKind.i64.wrap (2 * (IntKind.i64.wrap ((Int.tmod (IntKind.i64.wrap (Int.tdiv i1 2)) 2) + (Int.tmod (IntKind.i64.wrap (Int.tdiv j3 2)) 2))))))) + (IntKind.i64.wrap (4 * (IntKind.i64.wrap ((IntKind.i64.wrap (Int.tdiv i1 4)) + (IntKind.i64.wrap (Int.tdiv j3 4))))))))).toNat * 1)) (IntKind.u8.wrap (IntKind.i64.wrap (p0 - 1))))) else none) else none) else none) else (if (0 : Int) ≤ i1 ∧ i1 < 8 then (if (0 : Int) ≤ j3 ∧ j3 < 8 then (if (0 : Int) ≤ (IntKind.i64.wrap ((IntKind.i64.wrap ((Int.tmod (IntKind.i64.wrap ((Int.tmod i1 2) + (Int.tmod j3 2))) 2) + (IntKind.i64.wrap (2 * (IntKind.i64.wrap ((Int.tmod (IntKind.i64.wrap (Int.tdiv i1 2)) 2) + (Int.tmod (IntKind.i64.wrap (Int.tdiv j3 2)) 2))))))) + (IntKind.i64.wrap (4 * (IntKind.i64.wrap ((IntKind.i64.wrap (Int.tdiv i1 4)) + (IntKind.i64.wrap (Int.tdiv j3 4)))))))) ∧ (IntKind.i64.wrap ((IntKind.i64.wrap ((Int.tmod (IntKind.i64.wrap ((Int.tmod i1 2) + (Int.tmod j3 2))) 2) + (IntKind.i64.wrap (2 * (IntKind.i64.wrap ((Int.tmod (IntKind.i64.wrap (Int.tdiv i1 2)) 2) + (Int.tmod (IntKind.i64.wrap (Int.tdiv j3 2)) 2))))))) + (IntKind.i64.wrap (4 * (IntKind.i64.wrap ((IntKind.i64.wrap (Int.tdiv i1 4)) + (IntKind.i64.wrap (Int.tdiv j3 4)))))))) < 8 then (rec ((IntKind.i64.wrap (j3 + 1))) (upd g4 (((8 + (i1.toNat * 64)) + (j3.toNat * 8)) + (((IntKind.i64.wrap ((IntKind.i64.wrap ((Int.tmod (IntKind.i64.wrap ((Int.tmod i1 2) + (Int.tmod j3 2))) 2) + (IntKind.i64.wrap (2 * (IntKind.i64.wrap ((Int.tmod (IntKind.i64.wrap (Int.tdiv i1 2)) 2) + (Int.tmod (IntKind.i64.wrap (Int.tdiv j3 2)) 2))))))) + (IntKind.i64.wrap (4 * (IntKind.i64.wrap ((IntKind.i64.wrap (Int.tdiv i1 4)) + (IntKind.i64.wrap (Int.tdiv j3 4))))))))).toNat * 1)) 1)) else none) else none) else none)))) else (out0 g4))

noncomputable def spec_l04Double.a1_0 {ρ : Type} (N : Nat) (K0 : (Nat → Int) → (Nat → Int) → Option ρ) (rec : Int → (Nat → Int) → Option ρ) (out0 : (Nat → Int) → Option ρ) (i1 : Int) (o5 : Nat → Int) : Option ρ :=
  (rec ((IntKind.i64.wrap (i1 + 1))) o5)

noncomputable def spec_l04Double.b2 {ρ : Type} (N : Nat) (K0 : (Nat → Int) → (Nat → Int) → Option ρ) (rec : Int → (Nat → Int) → Option ρ) (out0 : (Nat → Int) → Option ρ) (p0 : Int) (o6 : Nat → Int) (i7 : Int) (g8 : Nat → Int) : Option ρ :=
  (if (decide (i7 < 8)) = true then (spec_l01Basis N (fun r9 => (if ((Int.tmod i7 2) == 1) = true then (spec_l04Pairs N (fun r10 => (spec_l01Times N (fun r11 => (if ((Int.tmod (IntKind.i64.wrap (Int.tdiv i7 2)) 2) == 1) = true then (spec_l04Pairs N (fun r12 => (spec_l01Times N (fun r13 => (if ((IntKind.i64.wrap (Int.tdiv i7 4)) == 1) = true then (spec_l04Pairs N (fun r14 => (spec_l01Times N (fun r15 => (if (0 : Int) ≤ i7 ∧ i7 < 8 then (if (0 : Int) ≤ i7 ∧ i7 < 8 then (rec ((IntKind.i64.wrap (i7 + 1))) (updN (updN g8 (528 + (i7.toNat * 64)) 64 r14) (1040 + (i7.toNat * 8)) 8 r15)) else none) else none)) (upd (upd (fun _ => 0) 0 p0) 1 8) (updN (updN (fun _ => 0) 0 8 (fun z => (o6 (0 + z)))) 8 512 (fun z => (o6 (8 + z)))) (fun z => ((updN (updN (updN (fun _ => 0) 0 8 (upd (upd (fun _ => 0) 0 0) 1 1)) 8 8 (upd (upd (upd (upd (fun _ => 0) 0 0) 1 0) 2 0) 3 (IntKind.u8.wrap (IntKind.i64.wrap (p0 - 1))))) 16 8 (upd (upd (upd (upd (upd (upd (fun _ => 0) 0 0) 1 0) 2 0) 3 0) 4 0) 5 (IntKind.u8.wrap (IntKind.i64.wrap (p0 - 1))))) (16 + z))) r13)) (upd (upd (fun _ => 0) 0 p0) 1 8) (updN (updN (fun _ => 0) 0 8 (fun z => (o6 (0 + z)))) 8 512 (fun z => (o6 (8 + z)))) r12 (updN (updN (updN (updN (updN (fun _ => 0) 0 8 (fun _ => 0)) 8 8 (upd (upd (upd (upd (upd (fun _ => 0) 0 0) 1 0) 2 0) 3 0) 4 1)) 16 8 (fun _ => 0)) 24 8 (fun _ => 0)) 32 8 (upd (fun _ => 0) 0 1))) else (if (0 : Int) ≤ i7 ∧ i7 < 8 then (if (0 : Int) ≤ i7 ∧ i7 < 8 then (rec ((IntKind.i64.wrap (i7 + 1))) (updN (updN g8 (528 + (i7.toNat * 64)) 64 r12) (1040 + (i7.toNat * 8)) 8 r13)) else none) else none))) (upd (upd (fun _ => 0) 0 p0) 1 8) (updN (updN (fun _ => 0) 0 8 (fun z => (o6 (0 + z)))) 8 512 (fun z => (o6 (8 + z)))) (fun z => ((updN (updN (updN (fun _ => 0) 0 8 (upd (upd (fun _ => 0) 0 0) 1 1)) 8 8 (upd (upd (upd (upd (fun _ => 0) 0 0) 1 0) 2 0) 3 (IntKind.u8.wrap (IntKind.i64.wrap (p0 - 1))))) 16 8 (upd (upd (upd (upd (upd (upd (fun _ => 0) 0 0) 1 0) 2 0) 3 0) 4 0) 5 (IntKind.u8.wrap (IntKind.i64.wrap (p0 - 1))))) (8 + z))) r11)) (upd (upd (fun _ => 0) 0 p0) 1 8) (updN (updN (fun _ => 0) 0 8 (fun z => (o6 (0 + z)))) 8 512 (fun z => (o6 (8 + z)))) r10 (updN (updN (updN (fun _ => 0) 0 8 (fun _ => 0)) 8 8 (upd (upd (upd (fun _ => 0) 0 0) 1 0) 2 1)) 16 8 (upd (fun _ => 0) 0 1))) else (if ((IntKind.i64.wrap (Int.tdiv i7 4)) == 1) = true then (spec_l04Pairs N (fun r16 => (spec_l01Times N (fun r17 => (if (0 : Int) ≤ i7 ∧ i7 < 8 then (if (0 : Int) ≤ i7 ∧ i7 < 8 then (rec ((IntKind.i64.wrap (i7 + 1))) (updN (updN g8 (528 + (i7.toNat * 64)) 64 r16) (1040 + (i7.toNat * 8)) 8 r17)) else none) else none)) (upd (upd (fun _ => 0) 0 p0) 1 8) (updN (updN (fun _ => 0) 0 8 (fun z => (o6 (0 + z)))) 8 512 (fun z => (o6 (8 + z)))) (fun z => ((updN (updN (updN (fun _ => 0) 0 8 (upd (upd (fun _ => 0) 0 0) 1 1)) 8 8 (upd (upd (upd (upd (fun _ => 0) 0 0) 1 0) 2 0) 3 (IntKind.u8.wrap (IntKind.i64.wrap (p0 - 1))))) 16 8 (upd (upd (upd (upd (upd (upd (fun _ => 0) 0 0) 1 0) 2 0) 3 0) 4 0) 5 (IntKind.u8.wrap (IntKind.i64.wrap (p0 - 1))))) (16 + z))) r11)) (upd (upd (fun _ => 0) 0 p0) 1 8) (updN (updN (fun _ => 0) 0 8 (fun z => (o6 (0 + z)))) 8 512 (fun z => (o6 (8 + z)))) r10 (updN (updN (updN (updN (updN (fun _ => 0) 0 8 (fun _ => 0)) 8 8 (upd (upd (upd (upd (upd (fun _ => 0) 0 0) 1 0) 2 0) 3 0) 4 1)) 16 8 (fun _ => 0)) 24 8 (fun _ => 0)) 32 8 (upd (fun _ => 0) 0 1))) else (if (0 : Int) ≤ i7 ∧ i7 < 8 then (if (0 : Int) ≤ i7 ∧ i7 < 8 then (rec ((IntKind.i64.wrap (i7 + 1))) (updN (updN g8 (528 + (i7.toNat * 64)) 64 r10) (1040 + (i7.toNat * 8)) 8 r11)) else none) else none)))) (upd (upd (fun _ => 0) 0 p0) 1 8) (updN (updN (fun _ => 0) 0 8 (fun z => (o6 (0 + z)))) 8 512 (fun z => (o6 (8 + z)))) (fun z => ((updN (updN (updN (fun _ => 0) 0 8 (upd (upd (fun _ => 0) 0 0) 1 1)) 8 8 (upd (upd (upd (upd (fun _ => 0) 0 0) 1 0) 2 0) 3 (IntKind.u8.wrap (IntKind.i64.wrap (p0 - 1))))) 16 8 (upd (upd (upd (upd (upd (upd (fun _ => 0) 0 0) 1 0) 2 0) 3 0) 4 0) 5 (IntKind.u8.wrap (IntKind.i64.wrap (p0 - 1))))) (0 + z))) r9)) (upd (upd (fun _ => 0) 0 p0) 1 8) (updN (updN (fun _ => 0) 0 8 (fun z => (o6 (0 + z)))) 8 512 (fun z => (o6 (8 + z)))) (updN (fun _ => 0) 0 8 (upd (fun _ => 0) 0 1)) (updN (updN (fun _ => 0) 0 8 (fun _ => 0)) 8 8 (upd (upd (fun _ => 0) 0 0) 1 1))) else (if ((Int.tmod (IntKind.i64.wrap (Int.tdiv i7 2)) 2) == 1) = true then (spec_l04Pairs N (fun r18 => (spec_l01Times N (fun r19 => (if ((IntKind.i64.wrap (Int.tdiv i7 4)) == 1) = true then (spec_l04Pairs N (fun r20 => (spec_l01Times N (fun r21 => (if (0 : Int) ≤ i7 ∧ i7 < 8 then (if (0 : Int) ≤ i7 ∧ i7 < 8 then (rec ((IntKind.i64.wrap (i7 + 1))) (updN (updN g8 (528 + (i7.toNat * 64)) 64 r20) (1040 + (i7.toNat * 8)) 8 r21)) else none) else none)) (upd (upd (fun _ => 0) 0 p0) 1 8) (updN (updN (fun _ => 0) 0 8 (fun z => (o6 (0 + z)))) 8 512 (fun z => (o6 (8 + z)))) (fun z => ((updN (updN (updN (fun _ => 0) 0 8 (upd (upd (fun _ => 0) 0 0) 1 1)) 8 8 (upd (upd (upd (upd (fun _ => 0) 0 0) 1 0) 2 0) 3 (IntKind.u8.wrap (IntKind.i64.wrap (p0 - 1))))) 16 8 (upd (upd (upd (upd (upd (upd (fun _ => 0) 0 0) 1 0) 2 0) 3 0) 4 0) 5 (IntKind.u8.wrap (IntKind.i64.wrap (p0 - 1))))) (16 + z))) r19)) (upd (upd (fun _ => 0) 0 p0) 1 8) (updN (updN (fun _ => 0) 0 8 (fun z => (o6 (0 + z)))) 8 512 (fun z => (o6 (8 + z)))) r18 (updN (updN (updN (updN (updN (fun _ => 0) 0 8 (fun _ => 0)) 8 8 (upd (upd (upd (upd (upd (fun _ => 0) 0 0) 1 0) 2 0) 3 0) 4 1)) 16 8 (fun _ => 0)) 24 8 (fun _ => 0)) 32 8 (upd (fun _ => 0) 0 1))) else (if (0 : Int) ≤ i7 ∧ i7 < 8 then (if (0 : Int) ≤ i7 ∧ i7 < 8 then (rec ((IntKind.i64.wrap (i7 + 1))) (updN (updN g8 (528 + (i7.toNat * 64)) 64 r18) (1040 + (i7.toNat * 8)) 8 r19)) else none) else none))) (upd (upd (fun _ => 0) 0 p0) 1 8) (updN (updN (fun _ => 0) 0 8 (fun z => (o6 (0 + z)))) 8 512 (fun z => (o6 (8 + z)))) (fun z => ((updN (updN (updN (fun _ => 0) 0 8 (upd (upd (fun _ => 0) 0 0) 1 1)) 8 8 (upd (upd (upd (upd (fun _ => 0) 0 0) 1 0) 2 0) 3 (IntKind.u8.wrap (IntKind.i64.wrap (p0 - 1))))) 16 8 (upd (upd (upd (upd (upd (upd (fun _ => 0) 0 0) 1 0) 2 0) 3 0) 4 0) 5 (IntKind.u8.wrap (IntKind.i64.wrap (p0 - 1))))) (8 + z))) r9)) (upd (upd (fun _ => 0) 0 p0) 1 8) (updN (updN (fun _ => 0) 0 8 (fun z => (o6 (0 + z)))) 8 512 (fun z => (o6 (8 + z)))) (updN (fun _ => 0) 0 8 (upd (fun _ => 0) 0 1)) (updN (updN (updN (fun _ => 0) 0 8 (fun _ => 0)) 8 8 (upd (upd (upd (fun _ => 0) 0 0) 1 0) 2 1)) 16 8 (upd (fun _ => 0) 0 1))) else (if ((IntKind.i64.wrap (Int.tdiv i7 4)) == 1) = true then (spec_l04Pairs N (fun r22 => (spec_l01Times N (fun r23 => (if (0 : Int) ≤ i7 ∧ i7 < 8 then (if (0 : Int) ≤ i7 ∧ i7 < 8 then (rec ((IntKind.i64.wrap (i7 + 1))) (updN (updN g8 (528 + (i7.toNat * 64)) 64 r22) (1040 + (i7.toNat * 8)) 8 r23)) else none) else none)) (upd (upd (fun _ => 0) 0 p0) 1 8) (updN (updN (fun _ => 0) 0 8 (fun z => (o6 (0 + z)))) 8 512 (fun z => (o6 (8 + z)))) (fun z => ((updN (updN (updN (fun _ => 0) 0 8 (upd (upd (fun _ => 0) 0 0) 1 1)) 8 8 (upd (upd (upd (upd (fun _ => 0) 0 0) 1 0) 2 0) 3 (IntKind.u8.wrap (IntKind.i64.wrap (p0 - 1))))) 16 8 (upd (upd (upd (upd (upd (upd (fun _ => 0) 0 0) 1 0) 2 0) 3 0) 4 0) 5 (IntKind.u8.wrap (IntKind.i64.wrap (p0 - 1))))) (16 + z))) r9)) (upd (upd (fun _ => 0) 0 p0) 1 8) (updN (updN (fun _ => 0) 0 8 (fun z => (o6 (0 + z)))) 8 512 (fun z => (o6 (8 + z)))) (updN (fun _ => 0) 0 8 (upd (fun _ => 0) 0 1)) (updN (updN (updN (updN (updN (fun _ => 0) 0 8 (fun _ => 0)) 8 8 (upd (upd (upd (upd (upd (fun _ => 0) 0 0) 1 0) 2 0) 3 0) 4 1)) 16 8 (fun _ => 0)) 24 8 (fun _ => 0)) 32 8 (upd (fun _ => 0) 0 1))) else (if (0 : Int) ≤ i7 ∧ i7 < 8 then (if (0 : Int) ≤ i7 ∧ i7 < 8 then (rec ((IntKind.i64.wrap (i7 + 1))) (updN (updN g8 (528 + (i7.toNat * 64)) 64 (updN (fun _ => 0) 0 8 (upd (fun _ => 0) 0 1))) (1040 + (i7.toNat * 8)) 8 r9)) else none) else none))))) 0) else (out0 g8))

noncomputable def spec_l04Double.a2_0 {ρ : Type} (N : Nat) (K0 : (Nat → Int) → (Nat → Int) → Option ρ) (p0 : Int) (o24 : Nat → Int) : Option ρ :=
  (K0 (upd (upd (fun _ => 0) 0 p0) 1 8) o24)

noncomputable def spec_l04Double.b0 {ρ : Type} (N : Nat) (K0 : (Nat → Int) → (Nat → Int) → Option ρ) (lp1 : Int → (Nat → Int) → Option ρ) (rec : Int → (Nat → Int) → Option ρ) (out0 : (Nat → Int) → Option ρ) (i1 : Int) (g2 : Nat → Int) : Option ρ :=
  (if (decide (i1 < 8)) = true then (lp1 0 g2) else (out0 g2))

noncomputable def spec_l04Double.a0_0 {ρ : Type} (N : Nat) (K0 : (Nat → Int) → (Nat → Int) → Option ρ) (lp2 : Int → (Nat → Int) → Option ρ) (o6 : Nat → Int) : Option ρ :=
  (lp2 0 o6)

noncomputable def spec_l04Double.l1 {ρ : Type} (N : Nat) (K0 : (Nat → Int) → (Nat → Int) → Option ρ) (p0 : Int) (i1 : Int) (out0 : (Nat → Int) → Option ρ) : Nat → Int → (Nat → Int) → Option ρ
  | 0, _, _ => none
  | m + 1, j3, g4 => (spec_l04Double.b1 N K0 ((spec_l04Double.l1 N K0 p0 i1 out0 m)) out0 p0 i1 j3 g4)

noncomputable def spec_l04Double.l2 {ρ : Type} (N : Nat) (K0 : (Nat → Int) → (Nat → Int) → Option ρ) (p0 : Int) (o6 : Nat → Int) (out0 : (Nat → Int) → Option ρ) : Nat → Int → (Nat → Int) → Option ρ
  | 0, _, _ => none
  | m + 1, i7, g8 => (spec_l04Double.b2 N K0 ((spec_l04Double.l2 N K0 p0 o6 out0 m)) out0 p0 o6 i7 g8)

noncomputable def spec_l04Double.l0 {ρ : Type} (N : Nat) (K0 : (Nat → Int) → (Nat → Int) → Option ρ) (p0 : Int) (out0 : (Nat → Int) → Option ρ) : Nat → Int → (Nat → Int) → Option ρ
  | 0, _, _ => none
  | m + 1, i1, g2 => (spec_l04Double.b0 N K0 (fun j3 g4 => (spec_l04Double.l1 N K0 p0 i1 (fun o5 => (spec_l04Double.a1_0 N K0 (spec_l04Double.l0 N K0 p0 out0 m) out0 i1 o5)) N j3 g4)) ((spec_l04Double.l0 N K0 p0 out0 m)) out0 i1 g2)

noncomputable def spec_l04Double.s {ρ : Type} (N : Nat) (K0 : (Nat → Int) → (Nat → Int) → Option ρ) (lp0 : Int → (Nat → Int) → Option ρ) : Option ρ :=
  (lp0 0 (upd (upd (upd (fun _ => 0) 0 1) 520 1) 521 1))

noncomputable def spec_l04Double {ρ : Type} (N : Nat) (K0 : (Nat → Int) → (Nat → Int) → Option ρ) (p0 : Int) : Option ρ :=
  (spec_l04Double.s N K0 (fun i1 g2 => (spec_l04Double.l0 N K0 p0 (fun o6 => (spec_l04Double.a0_0 N K0 (fun i7 g8 => (spec_l04Double.l2 N K0 p0 o6 (fun o24 => (spec_l04Double.a2_0 N K0 p0 o24)) N i7 g8)) o6)) N i1 g2)))

noncomputable def spec_DoubleHopf {ρ : Type} (N : Nat) (K0 : (Nat → Int) → (Nat → Int) → Int → Option ρ) (p0 : Int) : Option ρ :=
  (spec_l01Prime N (fun r1 => (if (!r1) = true then (K0 (fun _ => 0) (fun _ => 0) 2) else (if (p0 == 2) = true then (K0 (fun _ => 0) (fun _ => 0) 2) else (spec_l04Double N (fun r2 r3 => (K0 r2 r3 0)) p0)))) p0)

noncomputable def impl_IsPrime.b0 {ρ : Type} (N : Nat) (K0 : Bool → Option ρ) (rec : Int → Option ρ) (out0 : Option ρ) (p0 : Int) (k1 : Int) : Option ρ :=
  (if (decide ((IntKind.i64.wrap (k1 * k1)) ≤ p0)) = true then (if k1 = 0 then none else (if ((Int.tmod p0 k1) == 0) = true then (K0 false) else (rec ((IntKind.i64.wrap (k1 + 1)))))) else out0)

noncomputable def impl_IsPrime.a0_0 {ρ : Type} (N : Nat) (K0 : Bool → Option ρ) : Option ρ :=
  (K0 true)

noncomputable def impl_IsPrime.l0 {ρ : Type} (N : Nat) (K0 : Bool → Option ρ) (p0 : Int) (out0 : Option ρ) : Nat → Int → Option ρ
  | 0, _ => none
  | m + 1, k1 => (impl_IsPrime.b0 N K0 ((impl_IsPrime.l0 N K0 p0 out0 m)) out0 p0 k1)

noncomputable def impl_IsPrime.s {ρ : Type} (N : Nat) (K0 : Bool → Option ρ) (lp0 : Int → Option ρ) (p0 : Int) : Option ρ :=
  (if (decide (p0 < 2)) = true then (K0 false) else (if (decide (p0 > 31)) = true then (K0 false) else (lp0 2)))

noncomputable def impl_IsPrime {ρ : Type} (N : Nat) (K0 : Bool → Option ρ) (p0 : Int) : Option ρ :=
  (impl_IsPrime.s N K0 (fun k1 => (impl_IsPrime.l0 N K0 p0 (impl_IsPrime.a0_0 N K0) N k1)) p0)

noncomputable def impl_isOdd {ρ : Type} (N : Nat) (K0 : Bool → Option ρ) (p0 : Int) : Option ρ :=
  (impl_IsPrime N (fun r1 => (if r1 = true then (K0 ((decide (p0 > 2)))) else (K0 false))) p0)

noncomputable def impl_basis {ρ : Type} (N : Nat) (K0 : (Nat → Int) → Option ρ) (i0 : Int) : Option ρ :=
  (if (0 : Int) ≤ i0 ∧ i0 < 8 then (K0 (upd (fun _ => 0) (i0.toNat * 1) 1)) else none)

noncomputable def impl_Hopf_field {ρ : Type} (N : Nat) (K0 : (Nat → Int) → Option ρ) (g0 : Nat → Int) (g1 : Nat → Int) : Option ρ :=
  (K0 (upd (upd (fun _ => 0) 0 (g0 0)) 1 (g0 1)))

noncomputable def impl_word {ρ : Type} (N : Nat) (K0 : Int → Int → Option ρ) (m0 : Int) (n1 : Int) : Option ρ :=
  (if (decide ((IntKind.i64.wrap ((Int.tmod (IntKind.i64.wrap (Int.tdiv m0 2)) 2) + (Int.tmod (IntKind.i64.wrap (Int.tdiv n1 2)) 2))) > 1)) = true then (K0 0 0) else (if (decide ((IntKind.i64.wrap ((IntKind.i64.wrap (Int.tdiv m0 4)) + (IntKind.i64.wrap (Int.tdiv n1 4)))) > 1)) = true then (K0 0 0) else (if ((Int.tmod (IntKind.i64.wrap ((IntKind.i64.wrap ((Int.tmod n1 2) * (IntKind.i64.wrap ((Int.tmod (IntKind.i64.wrap (Int.tdiv m0 2)) 2) + (IntKind.i64.wrap (Int.tdiv m0 4)))))) + (IntKind.i64.wrap ((IntKind.i64.wrap (Int.tdiv m0 4)) * (Int.tmod (IntKind.i64.wrap (Int.tdiv n1 2)) 2))))) 2) == 1) = true then (K0 (-1) ((IntKind.i64.wrap (((BitVec.ofInt (IntKind.i64).bits m0 ^^^ BitVec.ofInt (IntKind.i64).bits n1)).toNat : Int)))) else (K0 1 ((IntKind.i64.wrap (((BitVec.ofInt (IntKind.i64).bits m0 ^^^ BitVec.ofInt (IntKind.i64).bits n1)).toNat : Int)))))))

noncomputable def impl_field_mod {ρ : Type} (N : Nat) (K0 : Int → Option ρ) (f0 : Nat → Int) (x1 : Int) : Option ρ :=
  (if (f0 0) = 0 then none else (if (decide ((Int.tmod x1 (f0 0)) < 0)) = true then (K0 ((IntKind.u8.wrap (IntKind.i64.wrap ((Int.tmod x1 (f0 0)) + (f0 0)))))) else (K0 ((IntKind.u8.wrap (Int.tmod x1 (f0 0)))))))

noncomputable def impl_field_plus.b0 {ρ : Type} (N : Nat) (K0 : (Nat → Int) → Option ρ) (rec : Int → (Nat → Int) → Option ρ) (out0 : (Nat → Int) → Option ρ) (f0 : Nat → Int) (k1 : Int) (w2 : Nat → Int) (x4 : Int) (g5 : Nat → Int) : Option ρ :=
  (if (decide (x4 < 8)) = true then (if (0 : Int) ≤ x4 ∧ x4 < 8 then (if (0 : Int) ≤ x4 ∧ x4 < 8 then (impl_field_mod N (fun r6 => (if (0 : Int) ≤ x4 ∧ x4 < 8 then (rec ((IntKind.i64.wrap (x4 + 1))) (upd g5 (x4.toNat * 1) r6)) else none)) f0 ((IntKind.i64.wrap ((IntKind.i64.wrap (g5 (x4.toNat * 1))) + (IntKind.i64.wrap (k1 * (IntKind.i64.wrap (w2 x4.toNat)))))))) else none) else none) else (out0 g5))

noncomputable def impl_field_plus.a0_0 {ρ : Type} (N : Nat) (K0 : (Nat → Int) → Option ρ) (o7 : Nat → Int) : Option ρ :=
  (K0 o7)

noncomputable def impl_field_plus.l0 {ρ : Type} (N : Nat) (K0 : (Nat → Int) → Option ρ) (f0 : Nat → Int) (k1 : Int) (w2 : Nat → Int) (out0 : (Nat → Int) → Option ρ) : Nat → Int → (Nat → Int) → Option ρ
  | 0, _, _ => none
  | m + 1, x4, g5 => (impl_field_plus.b0 N K0 ((impl_field_plus.l0 N K0 f0 k1 w2 out0 m)) out0 f0 k1 w2 x4 g5)

noncomputable def impl_field_plus.s {ρ : Type} (N : Nat) (K0 : (Nat → Int) → Option ρ) (lp0 : Int → (Nat → Int) → Option ρ) (k1 : Int) (g3 : Nat → Int) : Option ρ :=
  (if (k1 == 0) = true then (K0 g3) else (lp0 0 g3))

noncomputable def impl_field_plus {ρ : Type} (N : Nat) (K0 : (Nat → Int) → Option ρ) (f0 : Nat → Int) (k1 : Int) (w2 : Nat → Int) (g3 : Nat → Int) : Option ρ :=
  (impl_field_plus.s N K0 (fun x4 g5 => (impl_field_plus.l0 N K0 f0 k1 w2 (fun o7 => (impl_field_plus.a0_0 N K0 o7)) N x4 g5)) k1 g3)

noncomputable def impl_field_times {ρ : Type} (N : Nat) (K0 : (Nat → Int) → Option ρ) (f0 : Nat → Int) (k1 : Int) (w2 : Nat → Int) : Option ρ :=
  (impl_field_plus N (fun r3 => (K0 r3)) f0 k1 w2 (fun _ => 0))

noncomputable def impl_field_pair.b0 {ρ : Type} (N : Nat) (K0 : (Nat → Int) → Option ρ) (rec : Int → (Nat → Int) → Option ρ) (out0 : (Nat → Int) → Option ρ) (f0 : Nat → Int) (v1 : Nat → Int) (w2 : Nat → Int) (x3 : Int) (g4 : Nat → Int) : Option ρ :=
  (if (decide (x3 < 8)) = true then (if (0 : Int) ≤ x3 ∧ x3 < 8 then (impl_field_times N (fun r5 => (if (0 : Int) ≤ x3 ∧ x3 < 8 then (rec ((IntKind.i64.wrap (x3 + 1))) (updN g4 (x3.toNat * 8) 8 r5)) else none)) f0 ((IntKind.i64.wrap (v1 x3.toNat))) w2) else none) else (out0 g4))

noncomputable def impl_field_pair.a0_0 {ρ : Type} (N : Nat) (K0 : (Nat → Int) → Option ρ) (o6 : Nat → Int) : Option ρ :=
  (K0 o6)

noncomputable def impl_field_pair.l0 {ρ : Type} (N : Nat) (K0 : (Nat → Int) → Option ρ) (f0 : Nat → Int) (v1 : Nat → Int) (w2 : Nat → Int) (out0 : (Nat → Int) → Option ρ) : Nat → Int → (Nat → Int) → Option ρ
  | 0, _, _ => none
  | m + 1, x3, g4 => (impl_field_pair.b0 N K0 ((impl_field_pair.l0 N K0 f0 v1 w2 out0 m)) out0 f0 v1 w2 x3 g4)

noncomputable def impl_field_pair.s {ρ : Type} (N : Nat) (K0 : (Nat → Int) → Option ρ) (lp0 : Int → (Nat → Int) → Option ρ) : Option ρ :=
  (lp0 0 (fun _ => 0))

noncomputable def impl_field_pair {ρ : Type} (N : Nat) (K0 : (Nat → Int) → Option ρ) (f0 : Nat → Int) (v1 : Nat → Int) (w2 : Nat → Int) : Option ρ :=
  (impl_field_pair.s N K0 (fun x3 g4 => (impl_field_pair.l0 N K0 f0 v1 w2 (fun o6 => (impl_field_pair.a0_0 N K0 o6)) N x3 g4)))

noncomputable def impl_Hopf_tensor_c1_c1.b0 {ρ : Type} (N : Nat) (K0 : (Nat → Int) → Option ρ) (rec : Int → (Nat → Int) → Option ρ) (out0 : (Nat → Int) → Option ρ) (l0 : Int) (m1 : Int) (y2 : Int) (g3 : Nat → Int) (g4 : Nat → Int) (g6 : Nat → Int) (g7 : Nat → Int) (g9 : Nat → Int) (x10 : Int) (g11 : Nat → Int) : Option ρ :=
  (if (decide (x10 < 8)) = true then (if (0 : Int) ≤ x10 ∧ x10 < 8 then (if (0 : Int) ≤ x10 ∧ x10 < 8 then (if (g4 0) = 0 then none else (if (0 : Int) ≤ (g7 0) ∧ (g7 0) < 8 then (if (0 : Int) ≤ m1 ∧ m1 < 8 then (impl_field_plus N (fun r12 => (rec ((IntKind.i64.wrap (x10 + 1))) (updN g11 (x10.toNat * 8) 8 r12))) g4 ((IntKind.i64.wrap ((Int.tmod (IntKind.i64.wrap ((g6 0) * y2)) (g4 0)) * (IntKind.i64.wrap (g9 (((8 + (((g3 0)).toNat * 64)) + (l0.toNat * 8)) + x10.toNat)))))) (fun z => (g9 (((8 + (((g7 0)).toNat * 64)) + (m1.toNat * 8)) + z))) (fun z => (g11 ((x10.toNat * 8) + z)))) else none) else none)) else none) else none) else (out0 g11))

noncomputable def impl_Hopf_tensor_c1_c1.a0_0 {ρ : Type} (N : Nat) (K0 : (Nat → Int) → Option ρ) (o13 : Nat → Int) : Option ρ :=
  (K0 o13)

noncomputable def impl_Hopf_tensor_c1_c1.l0 {ρ : Type} (N : Nat) (K0 : (Nat → Int) → Option ρ) (l0 : Int) (m1 : Int) (y2 : Int) (g3 : Nat → Int) (g4 : Nat → Int) (g6 : Nat → Int) (g7 : Nat → Int) (g9 : Nat → Int) (out0 : (Nat → Int) → Option ρ) : Nat → Int → (Nat → Int) → Option ρ
  | 0, _, _ => none
  | m + 1, x10, g11 => (impl_Hopf_tensor_c1_c1.b0 N K0 ((impl_Hopf_tensor_c1_c1.l0 N K0 l0 m1 y2 g3 g4 g6 g7 g9 out0 m)) out0 l0 m1 y2 g3 g4 g6 g7 g9 x10 g11)

noncomputable def impl_Hopf_tensor_c1_c1.s {ρ : Type} (N : Nat) (K0 : (Nat → Int) → Option ρ) (lp0 : Int → (Nat → Int) → Option ρ) (l0 : Int) (g3 : Nat → Int) (g5 : Nat → Int) : Option ρ :=
  (if (0 : Int) ≤ (g3 0) ∧ (g3 0) < 8 then (if (0 : Int) ≤ l0 ∧ l0 < 8 then (lp0 0 g5) else none) else none)

noncomputable def impl_Hopf_tensor_c1_c1 {ρ : Type} (N : Nat) (K0 : (Nat → Int) → Option ρ) (l0 : Int) (m1 : Int) (y2 : Int) (g3 : Nat → Int) (g4 : Nat → Int) (g5 : Nat → Int) (g6 : Nat → Int) (g7 : Nat → Int) (g8 : Nat → Int) (g9 : Nat → Int) : Option ρ :=
  (impl_Hopf_tensor_c1_c1.s N K0 (fun x10 g11 => (impl_Hopf_tensor_c1_c1.l0 N K0 l0 m1 y2 g3 g4 g6 g7 g9 (fun o13 => (impl_Hopf_tensor_c1_c1.a0_0 N K0 o13)) N x10 g11)) l0 g3 g5)

noncomputable def impl_pairs_f_v2.b1 {ρ : Type} (N : Nat) (K0 : (Nat → Int) → (Nat → Int) → (Nat → Int) → (Nat → Int) → (Nat → Int) → Option ρ) (rec : Int → (Nat → Int) → Option ρ) (out0 : (Nat → Int) → Option ρ) (g0 : Nat → Int) (g1 : Nat → Int) (g2 : Nat → Int) (g4 : Nat → Int) (g5 : Nat → Int) (g6 : Nat → Int) (g7 : Nat → Int) (x8 : Int) (x10 : Int) (g11 : Nat → Int) : Option ρ :=
  (if (decide (x10 < 8)) = true then (if (0 : Int) ≤ x10 ∧ x10 < 8 then (if ((g0 ((x8.toNat * 8) + x10.toNat)) != 0) = true then (impl_Hopf_tensor_c1_c1 N (fun r12 => (rec ((IntKind.i64.wrap (x10 + 1))) r12)) x8 x10 ((IntKind.i64.wrap (g0 ((x8.toNat * 8) + x10.toNat)))) g1 g2 g11 g4 g5 g6 g7) else (rec ((IntKind.i64.wrap (x10 + 1))) g11)) else none) else (out0 g11))

noncomputable def impl_pairs_f_v2.a1_0 {ρ : Type} (N : Nat) (K0 : (Nat → Int) → (Nat → Int) → (Nat → Int) → (Nat → Int) → (Nat → Int) → Option ρ) (rec : Int → (Nat → Int) → Option ρ) (out0 : (Nat → Int) → Option ρ) (x8 : Int) (o13 : Nat → Int) : Option ρ :=
  (rec ((IntKind.i64.wrap (x8 + 1))) o13)

noncomputable def impl_pairs_f_v2.b0 {ρ : Type} (N : Nat) (K0 : (Nat → Int) → (Nat → Int) → (Nat → Int) → (Nat → Int) → (Nat → Int) → Option ρ) (lp1 : Int → (Nat → Int) → Option ρ) (rec : Int → (Nat → Int) → Option ρ) (out0 : (Nat → Int) → Option ρ) (x8 : Int) (g9 : Nat → Int) : Option ρ :=
  (if (decide (x8 < 8)) = true then (if (0 : Int) ≤ x8 ∧ x8 < 8 then (lp1 0 g9) else none) else (out0 g9))

noncomputable def impl_pairs_f_v2.a0_0 {ρ : Type} (N : Nat) (K0 : (Nat → Int) → (Nat → Int) → (Nat → Int) → (Nat → Int) → (Nat → Int) → Option ρ) (g1 : Nat → Int) (g2 : Nat → Int) (g4 : Nat → Int) (g5 : Nat → Int) (o14 : Nat → Int) : Option ρ :=
  (K0 g1 g2 o14 g4 g5)

noncomputable def impl_pairs_f_v2.l1 {ρ : Type} (N : Nat) (K0 : (Nat → Int) → (Nat → Int) → (Nat → Int) → (Nat → Int) → (Nat → Int) → Option ρ) (g0 : Nat → Int) (g1 : Nat → Int) (g2 : Nat → Int) (g4 : Nat → Int) (g5 : Nat → Int) (g6 : Nat → Int) (g7 : Nat → Int) (x8 : Int) (out0 : (Nat → Int) → Option ρ) : Nat → Int → (Nat → Int) → Option ρ
  | 0, _, _ => none
  | m + 1, x10, g11 => (impl_pairs_f_v2.b1 N K0 ((impl_pairs_f_v2.l1 N K0 g0 g1 g2 g4 g5 g6 g7 x8 out0 m)) out0 g0 g1 g2 g4 g5 g6 g7 x8 x10 g11)

noncomputable def impl_pairs_f_v2.l0 {ρ : Type} (N : Nat) (K0 : (Nat → Int) → (Nat → Int) → (Nat → Int) → (Nat → Int) → (Nat → Int) → Option ρ) (g0 : Nat → Int) (g1 : Nat → Int) (g2 : Nat → Int) (g4 : Nat → Int) (g5 : Nat → Int) (g6 : Nat → Int) (g7 : Nat → Int) (out0 : (Nat → Int) → Option ρ) : Nat → Int → (Nat → Int) → Option ρ
  | 0, _, _ => none
  | m + 1, x8, g9 => (impl_pairs_f_v2.b0 N K0 (fun x10 g11 => (impl_pairs_f_v2.l1 N K0 g0 g1 g2 g4 g5 g6 g7 x8 (fun o13 => (impl_pairs_f_v2.a1_0 N K0 (impl_pairs_f_v2.l0 N K0 g0 g1 g2 g4 g5 g6 g7 out0 m) out0 x8 o13)) N x10 g11)) ((impl_pairs_f_v2.l0 N K0 g0 g1 g2 g4 g5 g6 g7 out0 m)) out0 x8 g9)

noncomputable def impl_pairs_f_v2.s {ρ : Type} (N : Nat) (K0 : (Nat → Int) → (Nat → Int) → (Nat → Int) → (Nat → Int) → (Nat → Int) → Option ρ) (lp0 : Int → (Nat → Int) → Option ρ) (g3 : Nat → Int) : Option ρ :=
  (lp0 0 g3)

noncomputable def impl_pairs_f_v2 {ρ : Type} (N : Nat) (K0 : (Nat → Int) → (Nat → Int) → (Nat → Int) → (Nat → Int) → (Nat → Int) → Option ρ) (g0 : Nat → Int) (g1 : Nat → Int) (g2 : Nat → Int) (g3 : Nat → Int) (g4 : Nat → Int) (g5 : Nat → Int) (g6 : Nat → Int) (g7 : Nat → Int) : Option ρ :=
  (impl_pairs_f_v2.s N K0 (fun x8 g9 => (impl_pairs_f_v2.l0 N K0 g0 g1 g2 g4 g5 g6 g7 (fun o14 => (impl_pairs_f_v2.a0_0 N K0 g1 g2 g4 g5 o14)) N x8 g9)) g3)

noncomputable def impl_Hopf_tensor_c1 {ρ : Type} (N : Nat) (K0 : (Nat → Int) → (Nat → Int) → Option ρ) (j0 : Int) (k1 : Int) (x2 : Int) (g3 : Nat → Int) (g4 : Nat → Int) (g5 : Nat → Int) (g6 : Nat → Int) (g7 : Nat → Int) : Option ρ :=
  (impl_pairs_f_v2 N (fun r8 r9 r10 r11 r12 => (K0 r9 r10)) g5 (fun _ => j0) g3 g4 (fun _ => x2) (fun _ => k1) g6 g7)

noncomputable def impl_pairs_f.b1 {ρ : Type} (N : Nat) (K0 : (Nat → Int) → (Nat → Int) → Option ρ) (rec : Int → (Nat → Int) → (Nat → Int) → Option ρ) (out0 : (Nat → Int) → (Nat → Int) → Option ρ) (g0 : Nat → Int) (g3 : Nat → Int) (g4 : Nat → Int) (g5 : Nat → Int) (x6 : Int) (x9 : Int) (g10 : Nat → Int) (g11 : Nat → Int) : Option ρ :=
  (if (decide (x9 < 8)) = true then (if (0 : Int) ≤ x9 ∧ x9 < 8 then (if ((g0 ((x6.toNat * 8) + x9.toNat)) != 0) = true then (impl_Hopf_tensor_c1 N (fun r12 r13 => (rec ((IntKind.i64.wrap (x9 + 1))) r12 r13)) x6 x9 ((IntKind.i64.wrap (g0 ((x6.toNat * 8) + x9.toNat)))) g10 g11 g3 g4 g5) else (rec ((IntKind.i64.wrap (x9 + 1))) g10 g11)) else none) else (out0 g10 g11))

noncomputable def impl_pairs_f.a1_0 {ρ : Type} (N : Nat) (K0 : (Nat → Int) → (Nat → Int) → Option ρ) (rec : Int → (Nat → Int) → (Nat → Int) → Option ρ) (out0 : (Nat → Int) → (Nat → Int) → Option ρ) (x6 : Int) (o14 : Nat → Int) (o15 : Nat → Int) : Option ρ :=
  (rec ((IntKind.i64.wrap (x6 + 1))) o14 o15)

noncomputable def impl_pairs_f.b0 {ρ : Type} (N : Nat) (K0 : (Nat → Int) → (Nat → Int) → Option ρ) (lp1 : Int → (Nat → Int) → (Nat → Int) → Option ρ) (rec : Int → (Nat → Int) → (Nat → Int) → Option ρ) (out0 : (Nat → Int) → (Nat → Int) → Option ρ) (x6 : Int) (g7 : Nat → Int) (g8 : Nat → Int) : Option ρ :=
  (if (decide (x6 < 8)) = true then (if (0 : Int) ≤ x6 ∧ x6 < 8 then (lp1 0 g7 g8) else none) else (out0 g7 g8))

noncomputable def impl_pairs_f.a0_0 {ρ : Type} (N : Nat) (K0 : (Nat → Int) → (Nat → Int) → Option ρ) (o16 : Nat → Int) (o17 : Nat → Int) : Option ρ :=
  (K0 o16 o17)

noncomputable def impl_pairs_f.l1 {ρ : Type} (N : Nat) (K0 : (Nat → Int) → (Nat → Int) → Option ρ) (g0 : Nat → Int) (g3 : Nat → Int) (g4 : Nat → Int) (g5 : Nat → Int) (x6 : Int) (out0 : (Nat → Int) → (Nat → Int) → Option ρ) : Nat → Int → (Nat → Int) → (Nat → Int) → Option ρ
  | 0, _, _, _ => none
  | m + 1, x9, g10, g11 => (impl_pairs_f.b1 N K0 ((impl_pairs_f.l1 N K0 g0 g3 g4 g5 x6 out0 m)) out0 g0 g3 g4 g5 x6 x9 g10 g11)

noncomputable def impl_pairs_f.l0 {ρ : Type} (N : Nat) (K0 : (Nat → Int) → (Nat → Int) → Option ρ) (g0 : Nat → Int) (g3 : Nat → Int) (g4 : Nat → Int) (g5 : Nat → Int) (out0 : (Nat → Int) → (Nat → Int) → Option ρ) : Nat → Int → (Nat → Int) → (Nat → Int) → Option ρ
  | 0, _, _, _ => none
  | m + 1, x6, g7, g8 => (impl_pairs_f.b0 N K0 (fun x9 g10 g11 => (impl_pairs_f.l1 N K0 g0 g3 g4 g5 x6 (fun o14 o15 => (impl_pairs_f.a1_0 N K0 (impl_pairs_f.l0 N K0 g0 g3 g4 g5 out0 m) out0 x6 o14 o15)) N x9 g10 g11)) ((impl_pairs_f.l0 N K0 g0 g3 g4 g5 out0 m)) out0 x6 g7 g8)

noncomputable def impl_pairs_f.s {ρ : Type} (N : Nat) (K0 : (Nat → Int) → (Nat → Int) → Option ρ) (lp0 : Int → (Nat → Int) → (Nat → Int) → Option ρ) (g1 : Nat → Int) (g2 : Nat → Int) : Option ρ :=
  (lp0 0 g1 g2)

noncomputable def impl_pairs_f {ρ : Type} (N : Nat) (K0 : (Nat → Int) → (Nat → Int) → Option ρ) (g0 : Nat → Int) (g1 : Nat → Int) (g2 : Nat → Int) (g3 : Nat → Int) (g4 : Nat → Int) (g5 : Nat → Int) : Option ρ :=
  (impl_pairs_f.s N K0 (fun x6 g7 g8 => (impl_pairs_f.l0 N K0 g0 g3 g4 g5 (fun o16 o17 => (impl_pairs_f.a0_0 N K0 o16 o17)) N x6 g7 g8)) g1 g2)

noncomputable def impl_Hopf_tensor {ρ : Type} (N : Nat) (K0 : (Nat → Int) → Option ρ) (g0 : Nat → Int) (g1 : Nat → Int) (g2 : Nat → Int) (g3 : Nat → Int) : Option ρ :=
  (impl_Hopf_field N (fun r4 => (impl_pairs_f N (fun r5 r6 => (K0 r6)) g2 r4 (fun _ => 0) g3 g0 g1)) g0 g1)

noncomputable def impl_Hopf_product.b1 {ρ : Type} (N : Nat) (K0 : (Nat → Int) → Option ρ) (rec : Int → (Nat → Int) → Option ρ) (out0 : (Nat → Int) → Option ρ) (v0 : Nat → Int) (w1 : Nat → Int) (g3 : Nat → Int) (r4 : Nat → Int) (x5 : Int) (x7 : Int) (g8 : Nat → Int) : Option ρ :=
  (if (decide (x7 < (r4 1))) = true then (if (0 : Int) ≤ x5 ∧ x5 < 8 then (if (0 : Int) ≤ x7 ∧ x7 < 8 then (if (0 : Int) ≤ x5 ∧ x5 < 8 then (if (0 : Int) ≤ x7 ∧ x7 < 8 then (impl_field_plus N (fun r9 => (rec ((IntKind.i64.wrap (x7 + 1))) r9)) r4 ((IntKind.i64.wrap ((IntKind.i64.wrap (v0 (x5.toNat * 1))) * (IntKind.i64.wrap (w1 (x7.toNat * 1)))))) (fun z => (g3 (((8 + (x5.toNat * 64)) + (x7.toNat * 8)) + z))) g8) else none) else none) else none) else none) else (out0 g8))

noncomputable def impl_Hopf_product.a1_0 {ρ : Type} (N : Nat) (K0 : (Nat → Int) → Option ρ) (rec : Int → (Nat → Int) → Option ρ) (out0 : (Nat → Int) → Option ρ) (x5 : Int) (o10 : Nat → Int) : Option ρ :=
  (rec ((IntKind.i64.wrap (x5 + 1))) o10)

noncomputable def impl_Hopf_product.b0 {ρ : Type} (N : Nat) (K0 : (Nat → Int) → Option ρ) (lp1 : Int → (Nat → Int) → Option ρ) (rec : Int → (Nat → Int) → Option ρ) (out0 : (Nat → Int) → Option ρ) (v0 : Nat → Int) (r4 : Nat → Int) (x5 : Int) (g6 : Nat → Int) : Option ρ :=
  (if (decide (x5 < (r4 1))) = true then (if (0 : Int) ≤ x5 ∧ x5 < 8 then (if ((v0 (x5.toNat * 1)) == 0) = true then (rec ((IntKind.i64.wrap (x5 + 1))) g6) else (lp1 0 g6)) else none) else (out0 g6))

noncomputable def impl_Hopf_product.a0_0 {ρ : Type} (N : Nat) (K0 : (Nat → Int) → Option ρ) (o11 : Nat → Int) : Option ρ :=
  (K0 o11)

noncomputable def impl_Hopf_product.l1 {ρ : Type} (N : Nat) (K0 : (Nat → Int) → Option ρ) (v0 : Nat → Int) (w1 : Nat → Int) (g3 : Nat → Int) (r4 : Nat → Int) (x5 : Int) (out0 : (Nat → Int) → Option ρ) : Nat → Int → (Nat → Int) → Option ρ
  | 0, _, _ => none
  | m + 1, x7, g8 => (impl_Hopf_product.b1 N K0 ((impl_Hopf_product.l1 N K0 v0 w1 g3 r4 x5 out0 m)) out0 v0 w1 g3 r4 x5 x7 g8)

noncomputable def impl_Hopf_product.l0 {ρ : Type} (N : Nat) (K0 : (Nat → Int) → Option ρ) (v0 : Nat → Int) (w1 : Nat → Int) (g3 : Nat → Int) (r4 : Nat → Int) (out0 : (Nat → Int) → Option ρ) : Nat → Int → (Nat → Int) → Option ρ
  | 0, _, _ => none
  | m + 1, x5, g6 => (impl_Hopf_product.b0 N K0 (fun x7 g8 => (impl_Hopf_product.l1 N K0 v0 w1 g3 r4 x5 (fun o10 => (impl_Hopf_product.a1_0 N K0 (impl_Hopf_product.l0 N K0 v0 w1 g3 r4 out0 m) out0 x5 o10)) N x7 g8)) ((impl_Hopf_product.l0 N K0 v0 w1 g3 r4 out0 m)) out0 v0 r4 x5 g6)

noncomputable def impl_Hopf_product.s {ρ : Type} (N : Nat) (K0 : (Nat → Int) → Option ρ) (lp0 : (Nat → Int) → Int → (Nat → Int) → Option ρ) (g2 : Nat → Int) (g3 : Nat → Int) : Option ρ :=
  (impl_Hopf_field N (fun r4 => (lp0 r4 0 (fun _ => 0))) g2 g3)

noncomputable def impl_Hopf_product {ρ : Type} (N : Nat) (K0 : (Nat → Int) → Option ρ) (v0 : Nat → Int) (w1 : Nat → Int) (g2 : Nat → Int) (g3 : Nat → Int) : Option ρ :=
  (impl_Hopf_product.s N K0 (fun r4 x5 g6 => (impl_Hopf_product.l0 N K0 v0 w1 g3 r4 (fun o11 => (impl_Hopf_product.a0_0 N K0 o11)) N x5 g6)) g2 g3)

noncomputable def impl_signed.b1 {ρ : Type} (N : Nat) (K0 : (Nat → Int) → (Nat → Int) → Option ρ) (rec : Int → (Nat → Int) → Option ρ) (out0 : (Nat → Int) → Option ρ) (r4 : Nat → Int) (x5 : Int) (x7 : Int) (g8 : Nat → Int) : Option ρ :=
  (if (decide (x7 < (r4 1))) = true then (impl_word N (fun r9 r10 => (if (r9 != 0) = true then (impl_basis N (fun r11 => (impl_field_times N (fun r12 => (if (0 : Int) ≤ x5 ∧ x5 < 8 then (if (0 : Int) ≤ x7 ∧ x7 < 8 then (rec ((IntKind.i64.wrap (x7 + 1))) (updN g8 ((8 + (x5.toNat * 64)) + (x7.toNat * 8)) 8 r12)) else none) else none)) r4 r9 r11)) r10) else (rec ((IntKind.i64.wrap (x7 + 1))) g8))) x5 x7) else (out0 g8))

noncomputable def impl_signed.a1_0 {ρ : Type} (N : Nat) (K0 : (Nat → Int) → (Nat → Int) → Option ρ) (rec : Int → (Nat → Int) → Option ρ) (out0 : (Nat → Int) → Option ρ) (x5 : Int) (o13 : Nat → Int) : Option ρ :=
  (rec ((IntKind.i64.wrap (x5 + 1))) o13)

noncomputable def impl_signed.b3 {ρ : Type} (N : Nat) (K0 : (Nat → Int) → (Nat → Int) → Option ρ) (rec : Int → (Nat → Int) → (Nat → Int) → Option ρ) (out0 : (Nat → Int) → (Nat → Int) → Option ρ) (p0 : Int) (size1 : Int) (r4 : Nat → Int) (x18 : Int) (g19 : Nat → Int) (x23 : Int) (g24 : Nat → Int) (g25 : Nat → Int) : Option ρ :=
  (if (decide (x23 < 2)) = true then (if (0 : Int) ≤ x23 ∧ x23 < 2 then (if ((IntKind.i64.wrap (((BitVec.ofInt (IntKind.i64).bits x18 &&& BitVec.ofInt (IntKind.i64).bits ((upd (upd (fun _ => 0) 0 2) 1 4) (0 + (x23.toNat * 1))))).toNat : Int)) == 0) = true then (rec ((IntKind.i64.wrap (x23 + 1))) g24 g25) else (if (0 : Int) ≤ ((upd (upd (fun _ => 0) 0 2) 1 4) (0 + (x23.toNat * 1))) ∧ ((upd (upd (fun _ => 0) 0 2) 1 4) (0 + (x23.toNat * 1))) < 8 then (if (0 : Int) ≤ ((upd (upd (fun _ => 0) 0 2) 1 4) (0 + (x23.toNat * 1))) ∧ ((upd (upd (fun _ => 0) 0 2) 1 4) (0 + (x23.toNat * 1))) < 8 then (impl_Hopf_tensor N (fun r26 => (impl_basis N (fun r27 => (impl_field_times N (fun r28 => (impl_Hopf_product N (fun r29 => (rec ((IntKind.i64.wrap (x23 + 1))) r26 r29)) r28 g25 (upd (upd (fun _ => 0) 0 p0) 1 size1) g19)) r4 (-1) r27)) ((IntKind.i64.wrap (1 + ((upd (upd (fun _ => 0) 0 2) 1 4) (0 + (x23.toNat * 1)))))))) (upd (upd (fun _ => 0) 0 p0) 1 size1) g19 g24 (upd (upd (fun _ => 0) (8 + ((((upd (upd (fun _ => 0) 0 2) 1 4) (0 + (x23.toNat * 1)))).toNat * 1)) 1) (((((upd (upd (fun _ => 0) 0 2) 1 4) (0 + (x23.toNat * 1)))).toNat * 8) + 0) 1)) else none) else none)) else none) else (out0 g24 g25))

noncomputable def impl_signed.a3_0 {ρ : Type} (N : Nat) (K0 : (Nat → Int) → (Nat → Int) → Option ρ) (rec : Int → (Nat → Int) → Option ρ) (out0 : (Nat → Int) → Option ρ) (x18 : Int) (g19 : Nat → Int) (o30 : Nat → Int) (o31 : Nat → Int) : Option ρ :=
  (if (0 : Int) ≤ x18 ∧ x18 < 8 then (if (0 : Int) ≤ x18 ∧ x18 < 8 then (rec ((IntKind.i64.wrap (x18 + 1))) (updN (updN g19 (528 + (x18.toNat * 64)) 64 o30) (1040 + (x18.toNat * 8)) 8 o31)) else none) else none)

noncomputable def impl_signed.b4 {ρ : Type} (N : Nat) (K0 : (Nat → Int) → (Nat → Int) → Option ρ) (rec : Int → (Nat → Int) → (Nat → Int) → Option ρ) (out0 : (Nat → Int) → (Nat → Int) → Option ρ) (p0 : Int) (size1 : Int) (r4 : Nat → Int) (x18 : Int) (g19 : Nat → Int) (x32 : Int) (g33 : Nat → Int) (g34 : Nat → Int) : Option ρ :=
  (if (decide (x32 < 2)) = true then (if (0 : Int) ≤ x32 ∧ x32 < 2 then (if ((IntKind.i64.wrap (((BitVec.ofInt (IntKind.i64).bits x18 &&& BitVec.ofInt (IntKind.i64).bits ((upd (upd (fun _ => 0) 0 2) 1 4) (0 + (x32.toNat * 1))))).toNat : Int)) == 0) = true then (rec ((IntKind.i64.wrap (x32 + 1))) g33 g34) else (if (0 : Int) ≤ ((upd (upd (fun _ => 0) 0 2) 1 4) (0 + (x32.toNat * 1))) ∧ ((upd (upd (fun _ => 0) 0 2) 1 4) (0 + (x32.toNat * 1))) < 8 then (if (0 : Int) ≤ ((upd (upd (fun _ => 0) 0 2) 1 4) (0 + (x32.toNat * 1))) ∧ ((upd (upd (fun _ => 0) 0 2) 1 4) (0 + (x32.toNat * 1))) < 8 then (impl_Hopf_tensor N (fun r35 => (impl_basis N (fun r36 => (impl_field_times N (fun r37 => (impl_Hopf_product N (fun r38 => (rec ((IntKind.i64.wrap (x32 + 1))) r35 r38)) r37 g34 (upd (upd (fun _ => 0) 0 p0) 1 size1) g19)) r4 (-1) r36)) ((IntKind.i64.wrap (1 + ((upd (upd (fun _ => 0) 0 2) 1 4) (0 + (x32.toNat * 1)))))))) (upd (upd (fun _ => 0) 0 p0) 1 size1) g19 g33 (upd (upd (fun _ => 0) (8 + ((((upd (upd (fun _ => 0) 0 2) 1 4) (0 + (x32.toNat * 1)))).toNat * 1)) 1) (((((upd (upd (fun _ => 0) 0 2) 1 4) (0 + (x32.toNat * 1)))).toNat * 8) + 0) 1)) else none) else none)) else none) else (out0 g33 g34))

noncomputable def impl_signed.a4_0 {ρ : Type} (N : Nat) (K0 : (Nat → Int) → (Nat → Int) → Option ρ) (rec : Int → (Nat → Int) → Option ρ) (out0 : (Nat → Int) → Option ρ) (x18 : Int) (g19 : Nat → Int) (o39 : Nat → Int) (o40 : Nat → Int) : Option ρ :=
  (if (0 : Int) ≤ x18 ∧ x18 < 8 then (if (0 : Int) ≤ x18 ∧ x18 < 8 then (rec ((IntKind.i64.wrap (x18 + 1))) (updN (updN g19 (528 + (x18.toNat * 64)) 64 o39) (1040 + (x18.toNat * 8)) 8 o40)) else none) else none)

noncomputable def impl_signed.b2 {ρ : Type} (N : Nat) (K0 : (Nat → Int) → (Nat → Int) → Option ρ) (lp3 : Int → (Nat → Int) → (Nat → Int) → Option ρ) (lp4 : Int → (Nat → Int) → (Nat → Int) → Option ρ) (rec : Int → (Nat → Int) → Option ρ) (out0 : (Nat → Int) → Option ρ) (p0 : Int) (size1 : Int) (r4 : Nat → Int) (r17 : Nat → Int) (x18 : Int) (g19 : Nat → Int) : Option ρ :=
  (if (decide (x18 < (r4 1))) = true then (impl_field_pair N (fun r20 => (if ((Int.tmod x18 2) == 1) = true then (impl_Hopf_tensor N (fun r21 => (impl_basis N (fun r22 => (lp3 0 r21 r22)) 1)) (upd (upd (fun _ => 0) 0 p0) 1 size1) g19 r20 r17) else (lp4 0 r20 (fun z => (g19 (0 + z)))))) r4 (fun z => (g19 (0 + z))) (fun z => (g19 (0 + z)))) else (out0 g19))

noncomputable def impl_signed.a2_0 {ρ : Type} (N : Nat) (K0 : (Nat → Int) → (Nat → Int) → Option ρ) (p0 : Int) (size1 : Int) (o41 : Nat → Int) : Option ρ :=
  (K0 (upd (upd (fun _ => 0) 0 p0) 1 size1) o41)

noncomputable def impl_signed.b0 {ρ : Type} (N : Nat) (K0 : (Nat → Int) → (Nat → Int) → Option ρ) (lp1 : Int → (Nat → Int) → Option ρ) (rec : Int → (Nat → Int) → Option ρ) (out0 : (Nat → Int) → Option ρ) (r4 : Nat → Int) (x5 : Int) (g6 : Nat → Int) : Option ρ :=
  (if (decide (x5 < (r4 1))) = true then (lp1 0 g6) else (out0 g6))

noncomputable def impl_signed.a0_0 {ρ : Type} (N : Nat) (K0 : (Nat → Int) → (Nat → Int) → Option ρ) (lp2 : (Nat → Int) → Int → (Nat → Int) → Option ρ) (r4 : Nat → Int) (o14 : Nat → Int) : Option ρ :=
  (impl_basis N (fun r15 => (impl_basis N (fun r16 => (impl_field_pair N (fun r17 => (lp2 r17 0 (upd o14 521 1))) r4 r15 r16)) 1)) 1)

noncomputable def impl_signed.l1 {ρ : Type} (N : Nat) (K0 : (Nat → Int) → (Nat → Int) → Option ρ) (r4 : Nat → Int) (x5 : Int) (out0 : (Nat → Int) → Option ρ) : Nat → Int → (Nat → Int) → Option ρ
  | 0, _, _ => none
  | m + 1, x7, g8 => (impl_signed.b1 N K0 ((impl_signed.l1 N K0 r4 x5 out0 m)) out0 r4 x5 x7 g8)

noncomputable def impl_signed.l3 {ρ : Type} (N : Nat) (K0 : (Nat → Int) → (Nat → Int) → Option ρ) (p0 : Int) (size1 : Int) (r4 : Nat → Int) (x18 : Int) (g19 : Nat → Int) (out0 : (Nat → Int) → (Nat → Int) → Option ρ) : Nat → Int → (Nat → Int) → (Nat → Int) → Option ρ
  | 0, _, _, _ => none
  | m + 1, x23, g24, g25 => (impl_signed.b3 N K0 ((impl_signed.l3 N K0 p0 size1 r4 x18 g19 out0 m)) out0 p0 size1 r4 x18 g19 x23 g24 g25)

noncomputable def impl_signed.l4 {ρ : Type} (N : Nat) (K0 : (Nat → Int) → (Nat → Int) → Option ρ) (p0 : Int) (size1 : Int) (r4 : Nat → Int) (x18 : Int) (g19 : Nat → Int) (out0 : (Nat → Int) → (Nat → Int) → Option ρ) : Nat → Int → (Nat → Int) → (Nat → Int) → Option ρ
  | 0, _, _, _ => none
  | m + 1, x32, g33, g34 => (impl_signed.b4 N K0 ((impl_signed.l4 N K0 p0 size1 r4 x18 g19 out0 m)) out0 p0 size1 r4 x18 g19 x32 g33 g34)

noncomputable def impl_signed.l2 {ρ : Type} (N : Nat) (K0 : (Nat → Int) → (Nat → Int) → Option ρ) (p0 : Int) (size1 : Int) (r4 : Nat → Int) (r17 : Nat → Int) (out0 : (Nat → Int) → Option ρ) : Nat → Int → (Nat → Int) → Option ρ
  | 0, _, _ => none
  | m + 1, x18, g19 => (impl_signed.b2 N K0 (fun x23 g24 g25 => (impl_signed.l3 N K0 p0 size1 r4 x18 g19 (fun o30 o31 => (impl_signed.a3_0 N K0 (impl_signed.l2 N K0 p0 size1 r4 r17 out0 m) out0 x18 g19 o30 o31)) N x23 g24 g25)) (fun x32 g33 g34 => (impl_signed.l4 N K0 p0 size1 r4 x18 g19 (fun o39 o40 => (impl_signed.a4_0 N K0 (impl_signed.l2 N K0 p0 size1 r4 r17 out0 m) out0 x18 g19 o39 o40)) N x32 g33 g34)) ((impl_signed.l2 N K0 p0 size1 r4 r17 out0 m)) out0 p0 size1 r4 r17 x18 g19)

noncomputable def impl_signed.l0 {ρ : Type} (N : Nat) (K0 : (Nat → Int) → (Nat → Int) → Option ρ) (r4 : Nat → Int) (out0 : (Nat → Int) → Option ρ) : Nat → Int → (Nat → Int) → Option ρ
  | 0, _, _ => none
  | m + 1, x5, g6 => (impl_signed.b0 N K0 (fun x7 g8 => (impl_signed.l1 N K0 r4 x5 (fun o13 => (impl_signed.a1_0 N K0 (impl_signed.l0 N K0 r4 out0 m) out0 x5 o13)) N x7 g8)) ((impl_signed.l0 N K0 r4 out0 m)) out0 r4 x5 g6)

noncomputable def impl_signed.s {ρ : Type} (N : Nat) (K0 : (Nat → Int) → (Nat → Int) → Option ρ) (lp0 : (Nat → Int) → Int → (Nat → Int) → Option ρ) (p0 : Int) (size1 : Int) : Option ρ :=
  (impl_basis N (fun r2 => (impl_basis N (fun r3 => (impl_Hopf_field N (fun r4 => (lp0 r4 0 (updN (updN (fun _ => 0) 0 8 r2) 520 8 r3))) (upd (upd (fun _ => 0) 0 p0) 1 size1) (updN (updN (fun _ => 0) 0 8 r2) 520 8 r3))) 0)) 0)

noncomputable def impl_signed {ρ : Type} (N : Nat) (K0 : (Nat → Int) → (Nat → Int) → Option ρ) (p0 : Int) (size1 : Int) : Option ρ :=
  (impl_signed.s N K0 (fun r4 x5 g6 => (impl_signed.l0 N K0 r4 (fun o14 => (impl_signed.a0_0 N K0 (fun r17 x18 g19 => (impl_signed.l2 N K0 p0 size1 r4 r17 (fun o41 => (impl_signed.a2_0 N K0 p0 size1 o41)) N x18 g19)) r4 o14)) N x5 g6)) p0 size1)

noncomputable def impl_DoubleHopf {ρ : Type} (N : Nat) (K0 : (Nat → Int) → (Nat → Int) → Int → Option ρ) (p0 : Int) : Option ρ :=
  (impl_isOdd N (fun r1 => (if (!r1) = true then (K0 (fun _ => 0) (fun _ => 0) 2) else (impl_signed N (fun r2 r3 => (K0 r2 r3 0)) p0 8))) p0)

noncomputable def laws_eqVector.b0 {ρ : Type} (N : Nat) (K0 : Bool → Option ρ) (rec : Int → Option ρ) (out0 : Option ρ) (a0 : Nat → Int) (b1 : Nat → Int) (i2 : Int) : Option ρ :=
  (if (decide (i2 < 8)) = true then (if (0 : Int) ≤ i2 ∧ i2 < 8 then (if (0 : Int) ≤ i2 ∧ i2 < 8 then (if ((a0 (i2.toNat * 1)) != (b1 (i2.toNat * 1))) = true then (K0 false) else (rec ((IntKind.i64.wrap (i2 + 1))))) else none) else none) else out0)

noncomputable def laws_eqVector.a0_0 {ρ : Type} (N : Nat) (K0 : Bool → Option ρ) : Option ρ :=
  (K0 true)

noncomputable def laws_eqVector.l0 {ρ : Type} (N : Nat) (K0 : Bool → Option ρ) (a0 : Nat → Int) (b1 : Nat → Int) (out0 : Option ρ) : Nat → Int → Option ρ
  | 0, _ => none
  | m + 1, i2 => (laws_eqVector.b0 N K0 ((laws_eqVector.l0 N K0 a0 b1 out0 m)) out0 a0 b1 i2)

noncomputable def laws_eqVector.s {ρ : Type} (N : Nat) (K0 : Bool → Option ρ) (lp0 : Int → Option ρ) : Option ρ :=
  (lp0 0)

noncomputable def laws_eqVector {ρ : Type} (N : Nat) (K0 : Bool → Option ρ) (a0 : Nat → Int) (b1 : Nat → Int) : Option ρ :=
  (laws_eqVector.s N K0 (fun i2 => (laws_eqVector.l0 N K0 a0 b1 (laws_eqVector.a0_0 N K0) N i2)))

noncomputable def laws_eqLinear.b0 {ρ : Type} (N : Nat) (K0 : Bool → Option ρ) (rec : Int → Option ρ) (out0 : Option ρ) (a0 : Nat → Int) (b1 : Nat → Int) (i2 : Int) : Option ρ :=
  (if (decide (i2 < 8)) = true then (if (0 : Int) ≤ i2 ∧ i2 < 8 then (if (0 : Int) ≤ i2 ∧ i2 < 8 then (laws_eqVector N (fun r3 => (if (!r3) = true then (K0 false) else (rec ((IntKind.i64.wrap (i2 + 1)))))) (fun z => (a0 ((i2.toNat * 8) + z))) (fun z => (b1 ((i2.toNat * 8) + z)))) else none) else none) else out0)

noncomputable def laws_eqLinear.a0_0 {ρ : Type} (N : Nat) (K0 : Bool → Option ρ) : Option ρ :=
  (K0 true)

noncomputable def laws_eqLinear.l0 {ρ : Type} (N : Nat) (K0 : Bool → Option ρ) (a0 : Nat → Int) (b1 : Nat → Int) (out0 : Option ρ) : Nat → Int → Option ρ
  | 0, _ => none
  | m + 1, i2 => (laws_eqLinear.b0 N K0 ((laws_eqLinear.l0 N K0 a0 b1 out0 m)) out0 a0 b1 i2)

noncomputable def laws_eqLinear.s {ρ : Type} (N : Nat) (K0 : Bool → Option ρ) (lp0 : Int → Option ρ) : Option ρ :=
  (lp0 0)

noncomputable def laws_eqLinear {ρ : Type} (N : Nat) (K0 : Bool → Option ρ) (a0 : Nat → Int) (b1 : Nat → Int) : Option ρ :=
  (laws_eqLinear.s N K0 (fun i2 => (laws_eqLinear.l0 N K0 a0 b1 (laws_eqLinear.a0_0 N K0) N i2)))

noncomputable def laws_eqTable.b0 {ρ : Type} (N : Nat) (K0 : Bool → Option ρ) (rec : Int → Option ρ) (out0 : Option ρ) (a0 : Nat → Int) (b1 : Nat → Int) (i2 : Int) : Option ρ :=
  (if (decide (i2 < 8)) = true then (if (0 : Int) ≤ i2 ∧ i2 < 8 then (if (0 : Int) ≤ i2 ∧ i2 < 8 then (laws_eqLinear N (fun r3 => (if (!r3) = true then (K0 false) else (rec ((IntKind.i64.wrap (i2 + 1)))))) (fun z => (a0 ((i2.toNat * 64) + z))) (fun z => (b1 ((i2.toNat * 64) + z)))) else none) else none) else out0)

noncomputable def laws_eqTable.a0_0 {ρ : Type} (N : Nat) (K0 : Bool → Option ρ) : Option ρ :=
  (K0 true)

noncomputable def laws_eqTable.l0 {ρ : Type} (N : Nat) (K0 : Bool → Option ρ) (a0 : Nat → Int) (b1 : Nat → Int) (out0 : Option ρ) : Nat → Int → Option ρ
  | 0, _ => none
  | m + 1, i2 => (laws_eqTable.b0 N K0 ((laws_eqTable.l0 N K0 a0 b1 out0 m)) out0 a0 b1 i2)

noncomputable def laws_eqTable.s {ρ : Type} (N : Nat) (K0 : Bool → Option ρ) (lp0 : Int → Option ρ) : Option ρ :=
  (lp0 0)

noncomputable def laws_eqTable {ρ : Type} (N : Nat) (K0 : Bool → Option ρ) (a0 : Nat → Int) (b1 : Nat → Int) : Option ρ :=
  (laws_eqTable.s N K0 (fun i2 => (laws_eqTable.l0 N K0 a0 b1 (laws_eqTable.a0_0 N K0) N i2)))

noncomputable def laws_eqHopf {ρ : Type} (N : Nat) (K0 : Bool → Option ρ) (a0 : Nat → Int) (a1 : Nat → Int) (b2 : Nat → Int) (b3 : Nat → Int) : Option ρ :=
  (if ((a0 0) != (b2 0)) = true then (K0 false) else (if ((a0 1) != (b2 1)) = true then (K0 false) else (laws_eqVector N (fun r4 => (if (!r4) = true then (K0 false) else (laws_eqTable N (fun r5 => (if (!r5) = true then (K0 false) else (laws_eqVector N (fun r6 => (if (!r6) = true then (K0 false) else (laws_eqTable N (fun r7 => (if (!r7) = true then (K0 false) else (laws_eqLinear N (fun r8 => (if (!r8) = true then (K0 false) else (K0 true))) (fun z => (a1 (1040 + z))) (fun z => (b3 (1040 + z)))))) (fun z => (a1 (528 + z))) (fun z => (b3 (528 + z)))))) (fun z => (a1 (520 + z))) (fun z => (b3 (520 + z)))))) (fun z => (a1 (8 + z))) (fun z => (b3 (8 + z)))))) (fun z => (a1 (0 + z))) (fun z => (b3 (0 + z))))))

noncomputable def laws_FnExactDoubleHopf {ρ : Type} (N : Nat) (K0 : Bool → Option ρ) (aP0 : Int) : Option ρ :=
  (spec_DoubleHopf N (fun r1 r2 r3 => (impl_DoubleHopf N (fun r4 r5 r6 => (laws_eqHopf N (fun r7 => (if (!r7) = true then (K0 false) else (if (r6 != r3) = true then (K0 false) else (K0 true)))) r4 r5 r1 r2)) aP0)) aP0)
end Go.Proofs.Ytjnfeffflkgddaa.H
