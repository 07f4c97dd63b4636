/- The functions that the program computes, in plain Lean. -/
import Derived.Test.YthecjjnieojjoaaHxUse
namespace Go.Proofs.Ythecjjnieojjoaa.H
set_option linter.unusedVariables false
set_option linter.unusedSimpArgs false
open Go Go.RowKit Go.Proofs.Ythecjjnieojjoaa.Hx
set_option linter.unusedVariables false
set_option maxRecDepth 100000
noncomputable def laws_toVector.b0 {ρ : Type} (N : Nat) (K0 : (Nat → Int) → Option ρ) (rec : Int → (Nat → Int) → Option ρ) (out0 : (Nat → Int) → Option ρ) (a0 : Nat → Int) (i1 : Int) (g2 : Nat → Int) : Option ρ :=
  (if (decide (i1 < 8)) = true then (if (0 : Int) ≤ i1 ∧ i1 < 8 then (if (0 : Int) ≤ i1 ∧ i1 < 8 then (rec ((IntKind.i64.wrap (i1 + 1))) (upd g2 (i1.toNat * 1) (a0 (i1.toNat * 1)))) else none) else none) else (out0 g2))

noncomputable def laws_toVector.a0_0 {ρ : Type} (N : Nat) (K0 : (Nat → Int) → Option ρ) (o3 : Nat → Int) : Option ρ :=
  (K0 o3)

noncomputable def laws_toVector.l0 {ρ : Type} (N : Nat) (K0 : (Nat → Int) → Option ρ) (a0 : Nat → Int) (out0 : (Nat → Int) → Option ρ) : Nat → Int → (Nat → Int) → Option ρ
  | 0, _, _ => none
  | m + 1, i1, g2 => (laws_toVector.b0 N K0 ((laws_toVector.l0 N K0 a0 out0 m)) out0 a0 i1 g2)

noncomputable def laws_toVector.s {ρ : Type} (N : Nat) (K0 : (Nat → Int) → Option ρ) (lp0 : Int → (Nat → Int) → Option ρ) : Option ρ :=
  (lp0 0 (fun _ => 0))

noncomputable def laws_toVector {ρ : Type} (N : Nat) (K0 : (Nat → Int) → Option ρ) (a0 : Nat → Int) : Option ρ :=
  (laws_toVector.s N K0 (fun i1 g2 => (laws_toVector.l0 N K0 a0 (fun o3 => (laws_toVector.a0_0 N K0 o3)) N i1 g2)))

noncomputable def laws_toLinear.b0 {ρ : Type} (N : Nat) (K0 : (Nat → Int) → Option ρ) (rec : Int → (Nat → Int) → Option ρ) (out0 : (Nat → Int) → Option ρ) (a0 : Nat → Int) (i1 : Int) (g2 : Nat → Int) : Option ρ :=
  (if (decide (i1 < 8)) = true then (if (0 : Int) ≤ i1 ∧ i1 < 8 then (laws_toVector N (fun r3 => (if (0 : Int) ≤ i1 ∧ i1 < 8 then (rec ((IntKind.i64.wrap (i1 + 1))) (updN g2 (i1.toNat * 8) 8 r3)) else none)) (fun z => (a0 ((i1.toNat * 8) + z)))) else none) else (out0 g2))

noncomputable def laws_toLinear.a0_0 {ρ : Type} (N : Nat) (K0 : (Nat → Int) → Option ρ) (o4 : Nat → Int) : Option ρ :=
  (K0 o4)

noncomputable def laws_toLinear.l0 {ρ : Type} (N : Nat) (K0 : (Nat → Int) → Option ρ) (a0 : Nat → Int) (out0 : (Nat → Int) → Option ρ) : Nat → Int → (Nat → Int) → Option ρ
  | 0, _, _ => none
  | m + 1, i1, g2 => (laws_toLinear.b0 N K0 ((laws_toLinear.l0 N K0 a0 out0 m)) out0 a0 i1 g2)

noncomputable def laws_toLinear.s {ρ : Type} (N : Nat) (K0 : (Nat → Int) → Option ρ) (lp0 : Int → (Nat → Int) → Option ρ) : Option ρ :=
  (lp0 0 (fun _ => 0))

noncomputable def laws_toLinear {ρ : Type} (N : Nat) (K0 : (Nat → Int) → Option ρ) (a0 : Nat → Int) : Option ρ :=
  (laws_toLinear.s N K0 (fun i1 g2 => (laws_toLinear.l0 N K0 a0 (fun o4 => (laws_toLinear.a0_0 N K0 o4)) N i1 g2)))

noncomputable def laws_toTable.b0 {ρ : Type} (N : Nat) (K0 : (Nat → Int) → Option ρ) (rec : Int → (Nat → Int) → Option ρ) (out0 : (Nat → Int) → Option ρ) (a0 : Nat → Int) (i1 : Int) (g2 : Nat → Int) : Option ρ :=
  (if (decide (i1 < 8)) = true then (if (0 : Int) ≤ i1 ∧ i1 < 8 then (laws_toLinear N (fun r3 => (if (0 : Int) ≤ i1 ∧ i1 < 8 then (rec ((IntKind.i64.wrap (i1 + 1))) (updN g2 (i1.toNat * 64) 64 r3)) else none)) (fun z => (a0 ((i1.toNat * 64) + z)))) else none) else (out0 g2))

noncomputable def laws_toTable.a0_0 {ρ : Type} (N : Nat) (K0 : (Nat → Int) → Option ρ) (o4 : Nat → Int) : Option ρ :=
  (K0 o4)

noncomputable def laws_toTable.l0 {ρ : Type} (N : Nat) (K0 : (Nat → Int) → Option ρ) (a0 : Nat → Int) (out0 : (Nat → Int) → Option ρ) : Nat → Int → (Nat → Int) → Option ρ
  | 0, _, _ => none
  | m + 1, i1, g2 => (laws_toTable.b0 N K0 ((laws_toTable.l0 N K0 a0 out0 m)) out0 a0 i1 g2)

noncomputable def laws_toTable.s {ρ : Type} (N : Nat) (K0 : (Nat → Int) → Option ρ) (lp0 : Int → (Nat → Int) → Option ρ) : Option ρ :=
  (lp0 0 (fun _ => 0))

noncomputable def laws_toTable {ρ : Type} (N : Nat) (K0 : (Nat → Int) → Option ρ) (a0 : Nat → Int) : Option ρ :=
  (laws_toTable.s N K0 (fun i1 g2 => (laws_toTable.l0 N K0 a0 (fun o4 => (laws_toTable.a0_0 N K0 o4)) N i1 g2)))

noncomputable def laws_toCoalgebra {ρ : Type} (N : Nat) (K0 : (Nat → Int) → (Nat → Int) → Option ρ) (a0 : Nat → Int) (a1 : Nat → Int) : Option ρ :=
  (laws_toVector N (fun r2 => (laws_toTable N (fun r3 => (K0 (upd (upd (fun _ => 0) 0 (a0 0)) 1 (a0 1)) (updN (updN (fun _ => 0) 0 8 r2) 8 512 r3))) (fun z => (a1 (8 + z))))) (fun z => (a1 (0 + z))))

noncomputable def spec_l01In {ρ : Type} (N : Nat) (K0 : Bool → Option ρ) (n0 : Int) (low1 : Int) (high2 : Int) : Option ρ :=
  (if (decide (n0 ≥ low1)) = true then (K0 ((decide (n0 ≤ high2)))) else (K0 false))

noncomputable def spec_l01Prime.b0 {ρ : Type} (N : Nat) (K0 : Bool → Option ρ) (rec : Int → Option ρ) (out0 : Option ρ) (p0 : Int) (k1 : Int) : Option ρ :=
  (if (decide (k1 < p0)) = true then (if (decide (k1 ≤ 31)) = true then (if k1 = 0 then none else (if ((Int.tmod p0 k1) == 0) = true then (K0 false) else (rec ((IntKind.i64.wrap (k1 + 1)))))) else out0) else out0)

noncomputable def spec_l01Prime.a0_0 {ρ : Type} (N : Nat) (K0 : Bool → Option ρ) (p0 : Int) : Option ρ :=
  (spec_l01In N (fun r2 => (K0 (r2))) p0 2 31)

noncomputable def spec_l01Prime.l0 {ρ : Type} (N : Nat) (K0 : Bool → Option ρ) (p0 : Int) (out0 : Option ρ) : Nat → Int → Option ρ
  | 0, _ => none
  | m + 1, k1 => (spec_l01Prime.b0 N K0 ((spec_l01Prime.l0 N K0 p0 out0 m)) out0 p0 k1)

noncomputable def spec_l01Prime.s {ρ : Type} (N : Nat) (K0 : Bool → Option ρ) (lp0 : Int → Option ρ) : Option ρ :=
  (lp0 2)

noncomputable def spec_l01Prime {ρ : Type} (N : Nat) (K0 : Bool → Option ρ) (p0 : Int) : Option ρ :=
  (spec_l01Prime.s N K0 (fun k1 => (spec_l01Prime.l0 N K0 p0 (spec_l01Prime.a0_0 N K0 p0) N k1)))

noncomputable def spec_l01Sizes {ρ : Type} (N : Nat) (K0 : Bool → Option ρ) (p0 : Int) (n1 : Int) : Option ρ :=
  (spec_l01Prime N (fun r2 => (if r2 = true then (spec_l01In N (fun r3 => (K0 (r3))) n1 1 8) else (K0 false))) p0)

noncomputable def spec_l01Vector.b0 {ρ : Type} (N : Nat) (K0 : Bool → Option ρ) (rec : Int → Option ρ) (out0 : Option ρ) (p0 : Int) (n1 : Int) (v2 : Nat → Int) (i3 : Int) : Option ρ :=
  (if (decide (i3 < 8)) = true then (if (0 : Int) ≤ i3 ∧ i3 < 8 then (if (decide ((IntKind.i64.wrap (v2 (i3.toNat * 1))) ≥ p0)) = true then (K0 false) else (if (decide (i3 ≥ n1)) = true then (if (0 : Int) ≤ i3 ∧ i3 < 8 then (if ((v2 (i3.toNat * 1)) != 0) = true then (K0 false) else (rec ((IntKind.i64.wrap (i3 + 1))))) else none) else (rec ((IntKind.i64.wrap (i3 + 1)))))) else none) else out0)

noncomputable def spec_l01Vector.a0_0 {ρ : Type} (N : Nat) (K0 : Bool → Option ρ) : Option ρ :=
  (K0 true)

noncomputable def spec_l01Vector.l0 {ρ : Type} (N : Nat) (K0 : Bool → Option ρ) (p0 : Int) (n1 : Int) (v2 : Nat → Int) (out0 : Option ρ) : Nat → Int → Option ρ
  | 0, _ => none
  | m + 1, i3 => (spec_l01Vector.b0 N K0 ((spec_l01Vector.l0 N K0 p0 n1 v2 out0 m)) out0 p0 n1 v2 i3)

noncomputable def spec_l01Vector.s {ρ : Type} (N : Nat) (K0 : Bool → Option ρ) (lp0 : Int → Option ρ) : Option ρ :=
  (lp0 0)

noncomputable def spec_l01Vector {ρ : Type} (N : Nat) (K0 : Bool → Option ρ) (p0 : Int) (n1 : Int) (v2 : Nat → Int) : Option ρ :=
  (spec_l01Vector.s N K0 (fun i3 => (spec_l01Vector.l0 N K0 p0 n1 v2 (spec_l01Vector.a0_0 N K0) N i3)))

noncomputable def spec_l01Linear.b0 {ρ : Type} (N : Nat) (K0 : Bool → Option ρ) (rec : Int → Option ρ) (out0 : Option ρ) (p0 : Int) (n1 : Int) (f2 : Nat → Int) (i3 : Int) : Option ρ :=
  (if (decide (i3 < 8)) = true then (if (0 : Int) ≤ i3 ∧ i3 < 8 then (spec_l01Vector N (fun r4 => (if (!r4) = true then (K0 false) else (if (decide (i3 ≥ n1)) = true then (if (0 : Int) ≤ i3 ∧ i3 < 8 then (if (!eqN 8 (fun z => (f2 ((i3.toNat * 8) + z))) (fun _ => 0)) = true then (K0 false) else (rec ((IntKind.i64.wrap (i3 + 1))))) else none) else (rec ((IntKind.i64.wrap (i3 + 1))))))) p0 n1 (fun z => (f2 ((i3.toNat * 8) + z)))) else none) else out0)

noncomputable def spec_l01Linear.a0_0 {ρ : Type} (N : Nat) (K0 : Bool → Option ρ) : Option ρ :=
  (K0 true)

noncomputable def spec_l01Linear.l0 {ρ : Type} (N : Nat) (K0 : Bool → Option ρ) (p0 : Int) (n1 : Int) (f2 : Nat → Int) (out0 : Option ρ) : Nat → Int → Option ρ
  | 0, _ => none
  | m + 1, i3 => (spec_l01Linear.b0 N K0 ((spec_l01Linear.l0 N K0 p0 n1 f2 out0 m)) out0 p0 n1 f2 i3)

noncomputable def spec_l01Linear.s {ρ : Type} (N : Nat) (K0 : Bool → Option ρ) (lp0 : Int → Option ρ) : Option ρ :=
  (lp0 0)

noncomputable def spec_l01Linear {ρ : Type} (N : Nat) (K0 : Bool → Option ρ) (p0 : Int) (n1 : Int) (f2 : Nat → Int) : Option ρ :=
  (spec_l01Linear.s N K0 (fun i3 => (spec_l01Linear.l0 N K0 p0 n1 f2 (spec_l01Linear.a0_0 N K0) N i3)))

noncomputable def spec_l01Table.b0 {ρ : Type} (N : Nat) (K0 : Bool → Option ρ) (rec : Int → Option ρ) (out0 : Option ρ) (p0 : Int) (n1 : Int) (t2 : Nat → Int) (i3 : Int) : Option ρ :=
  (if (decide (i3 < 8)) = true then (if (0 : Int) ≤ i3 ∧ i3 < 8 then (spec_l01Linear N (fun r4 => (if (!r4) = true then (K0 false) else (if (decide (i3 ≥ n1)) = true then (if (0 : Int) ≤ i3 ∧ i3 < 8 then (if (!eqN 64 (fun z => (t2 ((i3.toNat * 64) + z))) (fun _ => 0)) = true then (K0 false) else (rec ((IntKind.i64.wrap (i3 + 1))))) else none) else (rec ((IntKind.i64.wrap (i3 + 1))))))) p0 n1 (fun z => (t2 ((i3.toNat * 64) + z)))) else none) else out0)

noncomputable def spec_l01Table.a0_0 {ρ : Type} (N : Nat) (K0 : Bool → Option ρ) : Option ρ :=
  (K0 true)

noncomputable def spec_l01Table.l0 {ρ : Type} (N : Nat) (K0 : Bool → Option ρ) (p0 : Int) (n1 : Int) (t2 : Nat → Int) (out0 : Option ρ) : Nat → Int → Option ρ
  | 0, _ => none
  | m + 1, i3 => (spec_l01Table.b0 N K0 ((spec_l01Table.l0 N K0 p0 n1 t2 out0 m)) out0 p0 n1 t2 i3)

noncomputable def spec_l01Table.s {ρ : Type} (N : Nat) (K0 : Bool → Option ρ) (lp0 : Int → Option ρ) : Option ρ :=
  (lp0 0)

noncomputable def spec_l01Table {ρ : Type} (N : Nat) (K0 : Bool → Option ρ) (p0 : Int) (n1 : Int) (t2 : Nat → Int) : Option ρ :=
  (spec_l01Table.s N K0 (fun i3 => (spec_l01Table.l0 N K0 p0 n1 t2 (spec_l01Table.a0_0 N K0) N i3)))

noncomputable def spec_l02Shape {ρ : Type} (N : Nat) (K0 : Bool → Option ρ) (c0 : Nat → Int) (c1 : Nat → Int) : Option ρ :=
  (spec_l01Sizes N (fun r2 => (if r2 = true then (spec_l01Vector N (fun r3 => (if r3 = true then (spec_l01Table N (fun r4 => (K0 (r4))) ((c0 0)) ((c0 1)) (fun z => (c1 (8 + z)))) else (K0 false))) ((c0 0)) ((c0 1)) (fun z => (c1 (0 + z)))) else (K0 false))) ((c0 0)) ((c0 1)))

noncomputable def spec_l01Mod {ρ : Type} (N : Nat) (K0 : Int → Option ρ) (p0 : Int) (x1 : Int) : Option ρ :=
  (if p0 = 0 then none else (if p0 = 0 then none else (K0 ((IntKind.u8.wrap (Int.tmod (IntKind.i64.wrap ((Int.tmod x1 p0) + p0)) p0))))))

noncomputable def spec_l02Sums.b0 {ρ : Type} (N : Nat) (K0 : Int → Int → Option ρ) (rec : Int → Int → Int → Option ρ) (out0 : Int → Int → Option ρ) (c0 : Nat → Int) (c1 : Nat → Int) (i2 : Int) (j3 : Int) (k4 : Int) (l5 : Int) (left6 : Int) (right7 : Int) (a8 : Int) : Option ρ :=
  (if (decide (a8 < (c0 1))) = true then (if (0 : Int) ≤ i2 ∧ i2 < 8 then (if (0 : Int) ≤ a8 ∧ a8 < 8 then (if (0 : Int) ≤ l5 ∧ l5 < 8 then (if (0 : Int) ≤ a8 ∧ a8 < 8 then (if (0 : Int) ≤ j3 ∧ j3 < 8 then (if (0 : Int) ≤ k4 ∧ k4 < 8 then (if (0 : Int) ≤ i2 ∧ i2 < 8 then (if (0 : Int) ≤ j3 ∧ j3 < 8 then (if (0 : Int) ≤ a8 ∧ a8 < 8 then (if (0 : Int) ≤ a8 ∧ a8 < 8 then (if (0 : Int) ≤ k4 ∧ k4 < 8 then (if (0 : Int) ≤ l5 ∧ l5 < 8 then (rec ((IntKind.i64.wrap (left6 + (IntKind.i64.wrap ((IntKind.i64.wrap (c1 (((8 + (i2.toNat * 64)) + (a8.toNat * 8)) + (l5.toNat * 1)))) * (IntKind.i64.wrap (c1 (((8 + (a8.toNat * 64)) + (j3.toNat * 8)) + (k4.toNat * 1))))))))) ((IntKind.i64.wrap (right7 + (IntKind.i64.wrap ((IntKind.i64.wrap (c1 (((8 + (i2.toNat * 64)) + (j3.toNat * 8)) + (a8.toNat * 1)))) * (IntKind.i64.wrap (c1 (((8 + (a8.toNat * 64)) + (k4.toNat * 8)) + (l5.toNat * 1))))))))) ((IntKind.i64.wrap (a8 + 1)))) else none) else none) else none) else none) else none) else none) else none) else none) else none) else none) else none) else none) else (out0 left6 right7))

noncomputable def spec_l02Sums.a0_0 {ρ : Type} (N : Nat) (K0 : Int → Int → Option ρ) (c0 : Nat → Int) (o9 : Int) (o10 : Int) : Option ρ :=
  (spec_l01Mod N (fun r11 => (spec_l01Mod N (fun r12 => (K0 r11 r12)) ((c0 0)) o10)) ((c0 0)) o9)

noncomputable def spec_l02Sums.l0 {ρ : Type} (N : Nat) (K0 : Int → Int → Option ρ) (c0 : Nat → Int) (c1 : Nat → Int) (i2 : Int) (j3 : Int) (k4 : Int) (l5 : Int) (out0 : Int → Int → Option ρ) : Nat → Int → Int → Int → Option ρ
  | 0, _, _, _ => none
  | m + 1, left6, right7, a8 => (spec_l02Sums.b0 N K0 ((spec_l02Sums.l0 N K0 c0 c1 i2 j3 k4 l5 out0 m)) out0 c0 c1 i2 j3 k4 l5 left6 right7 a8)

noncomputable def spec_l02Sums.s {ρ : Type} (N : Nat) (K0 : Int → Int → Option ρ) (lp0 : Int → Int → Int → Option ρ) : Option ρ :=
  (lp0 0 0 0)

noncomputable def spec_l02Sums {ρ : Type} (N : Nat) (K0 : Int → Int → Option ρ) (c0 : Nat → Int) (c1 : Nat → Int) (i2 : Int) (j3 : Int) (k4 : Int) (l5 : Int) : Option ρ :=
  (spec_l02Sums.s N K0 (fun left6 right7 a8 => (spec_l02Sums.l0 N K0 c0 c1 i2 j3 k4 l5 (fun o9 o10 => (spec_l02Sums.a0_0 N K0 c0 o9 o10)) N left6 right7 a8)))

noncomputable def spec_l02Fault.b0 {ρ : Type} (N : Nat) (K0 : Nat → Nat → Bool → (Nat → Int) → Option ρ) (K1 : Bool → Option ρ) (rec : Int → Option ρ) (out0 : Option ρ) (c0 : Nat → Int) (c1 : Nat → Int) (m2 : Int) : Option ρ :=
  (if (decide (m2 < (IntKind.i64.wrap ((IntKind.i64.wrap ((IntKind.i64.wrap ((c0 1) * (c0 1))) * (c0 1))) * (c0 1))))) = true then (if (IntKind.i64.wrap ((IntKind.i64.wrap ((c0 1) * (c0 1))) * (c0 1))) = 0 then none else (if (IntKind.i64.wrap ((c0 1) * (c0 1))) = 0 then none else (if (c0 1) = 0 then none else (if (c0 1) = 0 then none else (if (c0 1) = 0 then none else (if (c0 1) = 0 then none else (spec_l02Sums N (fun r3 r4 => (if (r3 != r4) = true then (K0 4 4 true (upd (upd (upd (upd (fun _ => 0) 0 (IntKind.i64.wrap (Int.tdiv m2 (IntKind.i64.wrap ((IntKind.i64.wrap ((c0 1) * (c0 1))) * (c0 1)))))) 1 (Int.tmod (IntKind.i64.wrap (Int.tdiv m2 (IntKind.i64.wrap ((c0 1) * (c0 1))))) (c0 1))) 2 (Int.tmod (IntKind.i64.wrap (Int.tdiv m2 (c0 1))) (c0 1))) 3 (Int.tmod m2 (c0 1)))) else (rec ((IntKind.i64.wrap (m2 + 1)))))) c0 c1 ((IntKind.i64.wrap (Int.tdiv m2 (IntKind.i64.wrap ((IntKind.i64.wrap ((c0 1) * (c0 1))) * (c0 1)))))) ((Int.tmod (IntKind.i64.wrap (Int.tdiv m2 (IntKind.i64.wrap ((c0 1) * (c0 1))))) (c0 1))) ((Int.tmod (IntKind.i64.wrap (Int.tdiv m2 (c0 1))) (c0 1))) ((Int.tmod m2 (c0 1)))))))))) else out0)

noncomputable def spec_l02Fault.a0_0 {ρ : Type} (N : Nat) (K0 : Nat → Nat → Bool → (Nat → Int) → Option ρ) (K1 : Bool → Option ρ) : Option ρ :=
  (K1 false)

noncomputable def spec_l02Fault.l0 {ρ : Type} (N : Nat) (K0 : Nat → Nat → Bool → (Nat → Int) → Option ρ) (K1 : Bool → Option ρ) (c0 : Nat → Int) (c1 : Nat → Int) (out0 : Option ρ) : Nat → Int → Option ρ
  | 0, _ => none
  | m + 1, m2 => (spec_l02Fault.b0 N K0 K1 ((spec_l02Fault.l0 N K0 K1 c0 c1 out0 m)) out0 c0 c1 m2)

noncomputable def spec_l02Fault.s {ρ : Type} (N : Nat) (K0 : Nat → Nat → Bool → (Nat → Int) → Option ρ) (K1 : Bool → Option ρ) (lp0 : Int → Option ρ) : Option ρ :=
  (lp0 0)

noncomputable def spec_l02Fault {ρ : Type} (N : Nat) (K0 : Nat → Nat → Bool → (Nat → Int) → Option ρ) (K1 : Bool → Option ρ) (c0 : Nat → Int) (c1 : Nat → Int) : Option ρ :=
  (spec_l02Fault.s N K0 K1 (fun m2 => (spec_l02Fault.l0 N K0 K1 c0 c1 (spec_l02Fault.a0_0 N K0 K1) N m2)))

noncomputable def spec_l01Add.b0 {ρ : Type} (N : Nat) (K0 : (Nat → Int) → Option ρ) (rec : Int → (Nat → Int) → Option ρ) (out0 : (Nat → Int) → Option ρ) (p0 : Int) (w2 : Nat → Int) (k3 : Int) (i4 : Int) (g5 : Nat → Int) : Option ρ :=
  (if (decide (i4 < 8)) = true then (if (0 : Int) ≤ i4 ∧ i4 < 8 then (if (0 : Int) ≤ i4 ∧ i4 < 8 then (spec_l01Mod N (fun r6 => (if (0 : Int) ≤ i4 ∧ i4 < 8 then (rec ((IntKind.i64.wrap (i4 + 1))) (upd g5 (i4.toNat * 1) r6)) else none)) p0 ((IntKind.i64.wrap ((IntKind.i64.wrap (g5 (i4.toNat * 1))) + (IntKind.i64.wrap (k3 * (IntKind.i64.wrap (w2 (i4.toNat * 1))))))))) else none) else none) else (out0 g5))

noncomputable def spec_l01Add.a0_0 {ρ : Type} (N : Nat) (K0 : (Nat → Int) → Option ρ) (o7 : Nat → Int) : Option ρ :=
  (K0 o7)

noncomputable def spec_l01Add.l0 {ρ : Type} (N : Nat) (K0 : (Nat → Int) → Option ρ) (p0 : Int) (w2 : Nat → Int) (k3 : Int) (out0 : (Nat → Int) → Option ρ) : Nat → Int → (Nat → Int) → Option ρ
  | 0, _, _ => none
  | m + 1, i4, g5 => (spec_l01Add.b0 N K0 ((spec_l01Add.l0 N K0 p0 w2 k3 out0 m)) out0 p0 w2 k3 i4 g5)

noncomputable def spec_l01Add.s {ρ : Type} (N : Nat) (K0 : (Nat → Int) → Option ρ) (lp0 : Int → (Nat → Int) → Option ρ) (v1 : Nat → Int) : Option ρ :=
  (lp0 0 v1)

noncomputable def spec_l01Add {ρ : Type} (N : Nat) (K0 : (Nat → Int) → Option ρ) (p0 : Int) (v1 : Nat → Int) (w2 : Nat → Int) (k3 : Int) : Option ρ :=
  (spec_l01Add.s N K0 (fun i4 g5 => (spec_l01Add.l0 N K0 p0 w2 k3 (fun o7 => (spec_l01Add.a0_0 N K0 o7)) N i4 g5)) v1)

noncomputable def spec_l01Basis {ρ : Type} (N : Nat) (K0 : (Nat → Int) → Option ρ) (i0 : Int) : Option ρ :=
  (if (0 : Int) ≤ i0 ∧ i0 < 8 then (K0 (upd (fun _ => 0) (i0.toNat * 1) 1)) else none)

noncomputable def spec_l02Counits.b2 {ρ : Type} (N : Nat) (K0 : Bool → Option ρ) (rec : Int → Int → Option ρ) (out0 : Int → Option ρ) (c0 : Nat → Int) (c1 : Nat → Int) (i2 : Int) (j3 : Int) (sum7 : Int) (k8 : Int) : Option ρ :=
  (if (decide (k8 < (c0 1))) = true then (if (0 : Int) ≤ k8 ∧ k8 < 8 then (if (0 : Int) ≤ i2 ∧ i2 < 8 then (if (0 : Int) ≤ j3 ∧ j3 < 8 then (if (0 : Int) ≤ k8 ∧ k8 < 8 then (rec ((IntKind.i64.wrap (sum7 + (IntKind.i64.wrap ((IntKind.i64.wrap (c1 (0 + (k8.toNat * 1)))) * (IntKind.i64.wrap (c1 (((8 + (i2.toNat * 64)) + (j3.toNat * 8)) + (k8.toNat * 1))))))))) ((IntKind.i64.wrap (k8 + 1)))) else none) else none) else none) else none) else (out0 sum7))

noncomputable def spec_l02Counits.a2_0 {ρ : Type} (N : Nat) (K0 : Bool → Option ρ) (rec : Int → (Nat → Int) → (Nat → Int) → Option ρ) (out0 : (Nat → Int) → (Nat → Int) → Option ρ) (c0 : Nat → Int) (j3 : Int) (g5 : Nat → Int) (r6 : Nat → Int) (o9 : Int) : Option ρ :=
  (spec_l01Mod N (fun r10 => (if (0 : Int) ≤ j3 ∧ j3 < 8 then (rec ((IntKind.i64.wrap (j3 + 1))) r6 (upd g5 (j3.toNat * 1) r10)) else none)) ((c0 0)) o9)

noncomputable def spec_l02Counits.b1 {ρ : Type} (N : Nat) (K0 : Bool → Option ρ) (lp2 : (Nat → Int) → Int → Int → Option ρ) (rec : Int → (Nat → Int) → (Nat → Int) → Option ρ) (out0 : (Nat → Int) → (Nat → Int) → Option ρ) (c0 : Nat → Int) (c1 : Nat → Int) (i2 : Int) (j3 : Int) (g4 : Nat → Int) (g5 : Nat → Int) : Option ρ :=
  (if (decide (j3 < (c0 1))) = true then (if (0 : Int) ≤ i2 ∧ i2 < 8 then (if (0 : Int) ≤ j3 ∧ j3 < 8 then (if (0 : Int) ≤ j3 ∧ j3 < 8 then (spec_l01Add N (fun r6 => (lp2 r6 0 0)) ((c0 0)) g4 (fun z => (c1 (((8 + (i2.toNat * 64)) + (j3.toNat * 8)) + z))) ((IntKind.i64.wrap (c1 (0 + (j3.toNat * 1)))))) else none) else none) else none) else (out0 g4 g5))

noncomputable def spec_l02Counits.a1_0 {ρ : Type} (N : Nat) (K0 : Bool → Option ρ) (rec : Int → Option ρ) (out0 : Option ρ) (i2 : Int) (o11 : Nat → Int) (o12 : Nat → Int) : Option ρ :=
  (spec_l01Basis N (fun r13 => (if (!eqN 8 o11 r13) = true then (K0 false) else (spec_l01Basis N (fun r14 => (if (!eqN 8 o12 r14) = true then (K0 false) else (rec ((IntKind.i64.wrap (i2 + 1)))))) i2))) i2)

noncomputable def spec_l02Counits.b0 {ρ : Type} (N : Nat) (K0 : Bool → Option ρ) (lp1 : Int → (Nat → Int) → (Nat → Int) → Option ρ) (rec : Int → Option ρ) (out0 : Option ρ) (c0 : Nat → Int) (i2 : Int) : Option ρ :=
  (if (decide (i2 < (c0 1))) = true then (lp1 0 (fun _ => 0) (fun _ => 0)) else out0)

noncomputable def spec_l02Counits.a0_0 {ρ : Type} (N : Nat) (K0 : Bool → Option ρ) : Option ρ :=
  (K0 true)

noncomputable def spec_l02Counits.l2 {ρ : Type} (N : Nat) (K0 : Bool → Option ρ) (c0 : Nat → Int) (c1 : Nat → Int) (i2 : Int) (j3 : Int) (out0 : Int → Option ρ) : Nat → Int → Int → Option ρ
  | 0, _, _ => none
  | m + 1, sum7, k8 => (spec_l02Counits.b2 N K0 ((spec_l02Counits.l2 N K0 c0 c1 i2 j3 out0 m)) out0 c0 c1 i2 j3 sum7 k8)

noncomputable def spec_l02Counits.l1 {ρ : Type} (N : Nat) (K0 : Bool → Option ρ) (c0 : Nat → Int) (c1 : Nat → Int) (i2 : Int) (out0 : (Nat → Int) → (Nat → Int) → Option ρ) : Nat → Int → (Nat → Int) → (Nat → Int) → Option ρ
  | 0, _, _, _ => none
  | m + 1, j3, g4, g5 => (spec_l02Counits.b1 N K0 (fun r6 sum7 k8 => (spec_l02Counits.l2 N K0 c0 c1 i2 j3 (fun o9 => (spec_l02Counits.a2_0 N K0 (spec_l02Counits.l1 N K0 c0 c1 i2 out0 m) out0 c0 j3 g5 r6 o9)) N sum7 k8)) ((spec_l02Counits.l1 N K0 c0 c1 i2 out0 m)) out0 c0 c1 i2 j3 g4 g5)

noncomputable def spec_l02Counits.l0 {ρ : Type} (N : Nat) (K0 : Bool → Option ρ) (c0 : Nat → Int) (c1 : Nat → Int) (out0 : Option ρ) : Nat → Int → Option ρ
  | 0, _ => none
  | m + 1, i2 => (spec_l02Counits.b0 N K0 (fun j3 g4 g5 => (spec_l02Counits.l1 N K0 c0 c1 i2 (fun o11 o12 => (spec_l02Counits.a1_0 N K0 (spec_l02Counits.l0 N K0 c0 c1 out0 m) out0 i2 o11 o12)) N j3 g4 g5)) ((spec_l02Counits.l0 N K0 c0 c1 out0 m)) out0 c0 i2)

noncomputable def spec_l02Counits.s {ρ : Type} (N : Nat) (K0 : Bool → Option ρ) (lp0 : Int → Option ρ) : Option ρ :=
  (lp0 0)

noncomputable def spec_l02Counits {ρ : Type} (N : Nat) (K0 : Bool → Option ρ) (c0 : Nat → Int) (c1 : Nat → Int) : Option ρ :=
  (spec_l02Counits.s N K0 (fun i2 => (spec_l02Counits.l0 N K0 c0 c1 (spec_l02Counits.a0_0 N K0) N i2)))

noncomputable def spec_l02Is {ρ : Type} (N : Nat) (K0 : Bool → Option ρ) (c0 : Nat → Int) (c1 : Nat → Int) : Option ρ :=
  (spec_l02Shape N (fun r2 => (if (!r2) = true then (K0 false) else (spec_l02Fault N (fun r3 r4 r5 r6 => (if (!r5) = true then (spec_l02Counits N (fun r7 => (K0 (r7))) c0 c1) else (K0 false))) (fun r8 => (if (!r8) = true then (spec_l02Counits N (fun r9 => (K0 (r9))) c0 c1) else (K0 false))) c0 c1))) c0 c1)

noncomputable def spec_IsCoalgebra {ρ : Type} (N : Nat) (K0 : Bool → Option ρ) (c0 : Nat → Int) (c1 : Nat → Int) : Option ρ :=
  (spec_l02Is N (fun r2 => (K0 (r2))) c0 c1)

noncomputable def impl_IsPrime.b0 {ρ : Type} (N : Nat) (K0 : Bool → Option ρ) (rec : Int → Option ρ) (out0 : Option ρ) (p0 : Int) (k1 : Int) : Option ρ :=
  (if (decide ((IntKind.i64.wrap (k1 * k1)) ≤ p0)) = true then (if k1 = 0 then none else (if ((Int.tmod p0 k1) == 0) = true then (K0 false) else (rec ((IntKind.i64.wrap (k1 + 1)))))) else out0)

noncomputable def impl_IsPrime.a0_0 {ρ : Type} (N : Nat) (K0 : Bool → Option ρ) : Option ρ :=
  (K0 true)

noncomputable def impl_IsPrime.l0 {ρ : Type} (N : Nat) (K0 : Bool → Option ρ) (p0 : Int) (out0 : Option ρ) : Nat → Int → Option ρ
  | 0, _ => none
  | m + 1, k1 => (impl_IsPrime.b0 N K0 ((impl_IsPrime.l0 N K0 p0 out0 m)) out0 p0 k1)

noncomputable def impl_IsPrime.s {ρ : Type} (N : Nat) (K0 : Bool → Option ρ) (lp0 : Int → Option ρ) (p0 : Int) : Option ρ :=
  (if (decide (p0 < 2)) = true then (K0 false) else (if (decide (p0 > 31)) = true then (K0 false) else (lp0 2)))

noncomputable def impl_IsPrime {ρ : Type} (N : Nat) (K0 : Bool → Option ρ) (p0 : Int) : Option ρ :=
  (impl_IsPrime.s N K0 (fun k1 => (impl_IsPrime.l0 N K0 p0 (impl_IsPrime.a0_0 N K0) N k1)) p0)

noncomputable def impl_in {ρ : Type} (N : Nat) (K0 : Bool → Option ρ) (x0 : Int) (least1 : Int) (most2 : Int) : Option ρ :=
  (if (decide (least1 ≤ x0)) = true then (K0 ((decide (x0 ≤ most2)))) else (K0 false))

noncomputable def impl_IsVector.b0 {ρ : Type} (N : Nat) (K0 : Bool → Option ρ) (rec : Int → Option ρ) (out0 : Option ρ) (p0 : Int) (n1 : Int) (v2 : Nat → Int) (x5 : Int) : Option ρ :=
  (if (decide (x5 < 8)) = true then (if (0 : Int) ≤ x5 ∧ x5 < 8 then (if (decide ((IntKind.i64.wrap (v2 x5.toNat)) ≥ p0)) = true then (K0 false) else (if (decide (x5 ≥ n1)) = true then (if ((v2 x5.toNat) != 0) = true then (K0 false) else (rec ((IntKind.i64.wrap (x5 + 1))))) else (rec ((IntKind.i64.wrap (x5 + 1)))))) else none) else out0)

noncomputable def impl_IsVector.a0_0 {ρ : Type} (N : Nat) (K0 : Bool → Option ρ) : Option ρ :=
  (K0 true)

noncomputable def impl_IsVector.l0 {ρ : Type} (N : Nat) (K0 : Bool → Option ρ) (p0 : Int) (n1 : Int) (v2 : Nat → Int) (out0 : Option ρ) : Nat → Int → Option ρ
  | 0, _ => none
  | m + 1, x5 => (impl_IsVector.b0 N K0 ((impl_IsVector.l0 N K0 p0 n1 v2 out0 m)) out0 p0 n1 v2 x5)

noncomputable def impl_IsVector.s {ρ : Type} (N : Nat) (K0 : Bool → Option ρ) (lp0 : Int → Option ρ) (p0 : Int) (n1 : Int) : Option ρ :=
  (impl_IsPrime N (fun r3 => (if (!r3) = true then (K0 false) else (impl_in N (fun r4 => (if (!r4) = true then (K0 false) else (lp0 0))) n1 1 8))) p0)

noncomputable def impl_IsVector {ρ : Type} (N : Nat) (K0 : Bool → Option ρ) (p0 : Int) (n1 : Int) (v2 : Nat → Int) : Option ρ :=
  (impl_IsVector.s N K0 (fun x5 => (impl_IsVector.l0 N K0 p0 n1 v2 (impl_IsVector.a0_0 N K0) N x5)) p0 n1)

noncomputable def impl_isLinear.b0 {ρ : Type} (N : Nat) (K0 : Bool → Option ρ) (rec : Int → Option ρ) (out0 : Option ρ) (p0 : Int) (n1 : Int) (size2 : Int) (g3 : Nat → Int) (x4 : Int) : Option ρ :=
  (if (decide (x4 < 8)) = true then (if (0 : Int) ≤ x4 ∧ x4 < 8 then (impl_IsVector N (fun r5 => (if (!r5) = true then (K0 false) else (if (decide (x4 ≥ n1)) = true then (if (!eqN 8 (fun z => (g3 ((x4.toNat * 8) + z))) (fun _ => 0)) = true then (K0 false) else (rec ((IntKind.i64.wrap (x4 + 1))))) else (rec ((IntKind.i64.wrap (x4 + 1))))))) p0 size2 (fun z => (g3 ((x4.toNat * 8) + z)))) else none) else out0)

noncomputable def impl_isLinear.a0_0 {ρ : Type} (N : Nat) (K0 : Bool → Option ρ) : Option ρ :=
  (K0 true)

noncomputable def impl_isLinear.l0 {ρ : Type} (N : Nat) (K0 : Bool → Option ρ) (p0 : Int) (n1 : Int) (size2 : Int) (g3 : Nat → Int) (out0 : Option ρ) : Nat → Int → Option ρ
  | 0, _ => none
  | m + 1, x4 => (impl_isLinear.b0 N K0 ((impl_isLinear.l0 N K0 p0 n1 size2 g3 out0 m)) out0 p0 n1 size2 g3 x4)

noncomputable def impl_isLinear.s {ρ : Type} (N : Nat) (K0 : Bool → Option ρ) (lp0 : Int → Option ρ) : Option ρ :=
  (lp0 0)

noncomputable def impl_isLinear {ρ : Type} (N : Nat) (K0 : Bool → Option ρ) (p0 : Int) (n1 : Int) (size2 : Int) (g3 : Nat → Int) : Option ρ :=
  (impl_isLinear.s N K0 (fun x4 => (impl_isLinear.l0 N K0 p0 n1 size2 g3 (impl_isLinear.a0_0 N K0) N x4)))

noncomputable def impl_isTable.b0 {ρ : Type} (N : Nat) (K0 : Bool → Option ρ) (rec : Int → Option ρ) (out0 : Option ρ) (p0 : Int) (n1 : Int) (g2 : Nat → Int) (x3 : Int) : Option ρ :=
  (if (decide (x3 < 8)) = true then (if (0 : Int) ≤ x3 ∧ x3 < 8 then (impl_isLinear N (fun r4 => (if (!r4) = true then (K0 false) else (if (decide (x3 ≥ n1)) = true then (if (0 : Int) ≤ x3 ∧ x3 < 8 then (if (!eqN 64 (fun z => (g2 ((x3.toNat * 64) + z))) (fun _ => 0)) = true then (K0 false) else (rec ((IntKind.i64.wrap (x3 + 1))))) else none) else (rec ((IntKind.i64.wrap (x3 + 1))))))) p0 n1 n1 (fun z => (g2 ((x3.toNat * 64) + z)))) else none) else out0)

noncomputable def impl_isTable.a0_0 {ρ : Type} (N : Nat) (K0 : Bool → Option ρ) : Option ρ :=
  (K0 true)

noncomputable def impl_isTable.l0 {ρ : Type} (N : Nat) (K0 : Bool → Option ρ) (p0 : Int) (n1 : Int) (g2 : Nat → Int) (out0 : Option ρ) : Nat → Int → Option ρ
  | 0, _ => none
  | m + 1, x3 => (impl_isTable.b0 N K0 ((impl_isTable.l0 N K0 p0 n1 g2 out0 m)) out0 p0 n1 g2 x3)

noncomputable def impl_isTable.s {ρ : Type} (N : Nat) (K0 : Bool → Option ρ) (lp0 : Int → Option ρ) : Option ρ :=
  (lp0 0)

noncomputable def impl_isTable {ρ : Type} (N : Nat) (K0 : Bool → Option ρ) (p0 : Int) (n1 : Int) (g2 : Nat → Int) : Option ρ :=
  (impl_isTable.s N K0 (fun x3 => (impl_isTable.l0 N K0 p0 n1 g2 (impl_isTable.a0_0 N K0) N x3)))

noncomputable def impl_Coalgebra_isShaped {ρ : Type} (N : Nat) (K0 : Bool → Option ρ) (g0 : Nat → Int) (g1 : Nat → Int) : Option ρ :=
  (impl_IsVector N (fun r2 => (if r2 = true then (impl_isTable N (fun r3 => (K0 (r3))) ((g0 0)) ((g0 1)) (fun z => (g1 (8 + z)))) else (K0 false))) ((g0 0)) ((g0 1)) (fun z => (g1 (0 + z))))

noncomputable def impl_Coalgebra_field {ρ : Type} (N : Nat) (K0 : (Nat → Int) → Option ρ) (g0 : Nat → Int) (g1 : Nat → Int) : Option ρ :=
  (K0 (upd (upd (fun _ => 0) 0 (g0 0)) 1 (g0 1)))

noncomputable def impl_field_mod {ρ : Type} (N : Nat) (K0 : Int → Option ρ) (f0 : Nat → Int) (x1 : Int) : Option ρ :=
  (if (f0 0) = 0 then none else (if (decide ((Int.tmod x1 (f0 0)) < 0)) = true then (K0 ((IntKind.u8.wrap (IntKind.i64.wrap ((Int.tmod x1 (f0 0)) + (f0 0)))))) else (K0 ((IntKind.u8.wrap (Int.tmod x1 (f0 0)))))))

noncomputable def impl_field_plus.b0 {ρ : Type} (N : Nat) (K0 : (Nat → Int) → Option ρ) (rec : Int → (Nat → Int) → Option ρ) (out0 : (Nat → Int) → Option ρ) (f0 : Nat → Int) (k1 : Int) (w2 : Nat → Int) (x4 : Int) (g5 : Nat → Int) : Option ρ :=
  (if (decide (x4 < 8)) = true then (if (0 : Int) ≤ x4 ∧ x4 < 8 then (if (0 : Int) ≤ x4 ∧ x4 < 8 then (impl_field_mod N (fun r6 => (if (0 : Int) ≤ x4 ∧ x4 < 8 then (rec ((IntKind.i64.wrap (x4 + 1))) (upd g5 (x4.toNat * 1) r6)) else none)) f0 ((IntKind.i64.wrap ((IntKind.i64.wrap (g5 (x4.toNat * 1))) + (IntKind.i64.wrap (k1 * (IntKind.i64.wrap (w2 x4.toNat)))))))) else none) else none) else (out0 g5))

noncomputable def impl_field_plus.a0_0 {ρ : Type} (N : Nat) (K0 : (Nat → Int) → Option ρ) (o7 : Nat → Int) : Option ρ :=
  (K0 o7)

noncomputable def impl_field_plus.l0 {ρ : Type} (N : Nat) (K0 : (Nat → Int) → Option ρ) (f0 : Nat → Int) (k1 : Int) (w2 : Nat → Int) (out0 : (Nat → Int) → Option ρ) : Nat → Int → (Nat → Int) → Option ρ
  | 0, _, _ => none
  | m + 1, x4, g5 => (impl_field_plus.b0 N K0 ((impl_field_plus.l0 N K0 f0 k1 w2 out0 m)) out0 f0 k1 w2 x4 g5)

noncomputable def impl_field_plus.s {ρ : Type} (N : Nat) (K0 : (Nat → Int) → Option ρ) (lp0 : Int → (Nat → Int) → Option ρ) (k1 : Int) (g3 : Nat → Int) : Option ρ :=
  (if (k1 == 0) = true then (K0 g3) else (lp0 0 g3))

noncomputable def impl_field_plus {ρ : Type} (N : Nat) (K0 : (Nat → Int) → Option ρ) (f0 : Nat → Int) (k1 : Int) (w2 : Nat → Int) (g3 : Nat → Int) : Option ρ :=
  (impl_field_plus.s N K0 (fun x4 g5 => (impl_field_plus.l0 N K0 f0 k1 w2 (fun o7 => (impl_field_plus.a0_0 N K0 o7)) N x4 g5)) k1 g3)

noncomputable def impl_field_dot.b0 {ρ : Type} (N : Nat) (K0 : Int → Option ρ) (rec : Int → Int → Option ρ) (out0 : Int → Option ρ) (v1 : Nat → Int) (w2 : Nat → Int) (out3 : Int) (x4 : Int) : Option ρ :=
  (if (decide (x4 < 8)) = true then (if (0 : Int) ≤ x4 ∧ x4 < 8 then (if (0 : Int) ≤ x4 ∧ x4 < 8 then (rec ((IntKind.i64.wrap (out3 + (IntKind.i64.wrap ((IntKind.i64.wrap (v1 x4.toNat)) * (IntKind.i64.wrap (w2 (x4.toNat * 1)))))))) ((IntKind.i64.wrap (x4 + 1)))) else none) else none) else (out0 out3))

noncomputable def impl_field_dot.a0_0 {ρ : Type} (N : Nat) (K0 : Int → Option ρ) (f0 : Nat → Int) (o5 : Int) : Option ρ :=
  (if (f0 0) = 0 then none else (K0 ((Int.tmod o5 (f0 0)))))

noncomputable def impl_field_dot.l0 {ρ : Type} (N : Nat) (K0 : Int → Option ρ) (v1 : Nat → Int) (w2 : Nat → Int) (out0 : Int → Option ρ) : Nat → Int → Int → Option ρ
  | 0, _, _ => none
  | m + 1, out3, x4 => (impl_field_dot.b0 N K0 ((impl_field_dot.l0 N K0 v1 w2 out0 m)) out0 v1 w2 out3 x4)

noncomputable def impl_field_dot.s {ρ : Type} (N : Nat) (K0 : Int → Option ρ) (lp0 : Int → Int → Option ρ) : Option ρ :=
  (lp0 0 0)

noncomputable def impl_field_dot {ρ : Type} (N : Nat) (K0 : Int → Option ρ) (f0 : Nat → Int) (v1 : Nat → Int) (w2 : Nat → Int) : Option ρ :=
  (impl_field_dot.s N K0 (fun out3 x4 => (impl_field_dot.l0 N K0 v1 w2 (fun o5 => (impl_field_dot.a0_0 N K0 f0 o5)) N out3 x4)))

noncomputable def impl_basis {ρ : Type} (N : Nat) (K0 : (Nat → Int) → Option ρ) (i0 : Int) : Option ρ :=
  (if (0 : Int) ≤ i0 ∧ i0 < 8 then (K0 (upd (fun _ => 0) (i0.toNat * 1) 1)) else none)

noncomputable def impl_Coalgebra_isCounit.b1 {ρ : Type} (N : Nat) (K0 : Bool → Option ρ) (rec : Int → (Nat → Int) → (Nat → Int) → Option ρ) (out0 : (Nat → Int) → (Nat → Int) → Option ρ) (g1 : Nat → Int) (r2 : Nat → Int) (x3 : Int) (x4 : Int) (g5 : Nat → Int) (g6 : Nat → Int) : Option ρ :=
  (if (decide (x4 < (r2 1))) = true then (if (0 : Int) ≤ x4 ∧ x4 < 8 then (if (0 : Int) ≤ x3 ∧ x3 < 8 then (if (0 : Int) ≤ x4 ∧ x4 < 8 then (impl_field_plus N (fun r7 => (if (0 : Int) ≤ x3 ∧ x3 < 8 then (if (0 : Int) ≤ x4 ∧ x4 < 8 then (impl_field_dot N (fun r8 => (if (0 : Int) ≤ x4 ∧ x4 < 8 then (rec ((IntKind.i64.wrap (x4 + 1))) r7 (upd g6 (x4.toNat * 1) (IntKind.u8.wrap r8))) else none)) r2 (fun z => (g1 (0 + z))) (fun z => (g1 (((8 + (x3.toNat * 64)) + (x4.toNat * 8)) + z)))) else none) else none)) r2 ((IntKind.i64.wrap (g1 (0 + (x4.toNat * 1))))) (fun z => (g1 (((8 + (x3.toNat * 64)) + (x4.toNat * 8)) + z))) g5) else none) else none) else none) else (out0 g5 g6))

noncomputable def impl_Coalgebra_isCounit.a1_0 {ρ : Type} (N : Nat) (K0 : Bool → Option ρ) (rec : Int → Option ρ) (out0 : Option ρ) (x3 : Int) (o9 : Nat → Int) (o10 : Nat → Int) : Option ρ :=
  (impl_basis N (fun r11 => (if (!eqN 8 o9 r11) = true then (K0 false) else (impl_basis N (fun r12 => (if (!eqN 8 o10 r12) = true then (K0 false) else (rec ((IntKind.i64.wrap (x3 + 1)))))) x3))) x3)

noncomputable def impl_Coalgebra_isCounit.b0 {ρ : Type} (N : Nat) (K0 : Bool → Option ρ) (lp1 : Int → (Nat → Int) → (Nat → Int) → Option ρ) (rec : Int → Option ρ) (out0 : Option ρ) (r2 : Nat → Int) (x3 : Int) : Option ρ :=
  (if (decide (x3 < (r2 1))) = true then (lp1 0 (fun _ => 0) (fun _ => 0)) else out0)

noncomputable def impl_Coalgebra_isCounit.a0_0 {ρ : Type} (N : Nat) (K0 : Bool → Option ρ) : Option ρ :=
  (K0 true)

noncomputable def impl_Coalgebra_isCounit.l1 {ρ : Type} (N : Nat) (K0 : Bool → Option ρ) (g1 : Nat → Int) (r2 : Nat → Int) (x3 : Int) (out0 : (Nat → Int) → (Nat → Int) → Option ρ) : Nat → Int → (Nat → Int) → (Nat → Int) → Option ρ
  | 0, _, _, _ => none
  | m + 1, x4, g5, g6 => (impl_Coalgebra_isCounit.b1 N K0 ((impl_Coalgebra_isCounit.l1 N K0 g1 r2 x3 out0 m)) out0 g1 r2 x3 x4 g5 g6)

noncomputable def impl_Coalgebra_isCounit.l0 {ρ : Type} (N : Nat) (K0 : Bool → Option ρ) (g1 : Nat → Int) (r2 : Nat → Int) (out0 : Option ρ) : Nat → Int → Option ρ
  | 0, _ => none
  | m + 1, x3 => (impl_Coalgebra_isCounit.b0 N K0 (fun x4 g5 g6 => (impl_Coalgebra_isCounit.l1 N K0 g1 r2 x3 (fun o9 o10 => (impl_Coalgebra_isCounit.a1_0 N K0 (impl_Coalgebra_isCounit.l0 N K0 g1 r2 out0 m) out0 x3 o9 o10)) N x4 g5 g6)) ((impl_Coalgebra_isCounit.l0 N K0 g1 r2 out0 m)) out0 r2 x3)

noncomputable def impl_Coalgebra_isCounit.s {ρ : Type} (N : Nat) (K0 : Bool → Option ρ) (lp0 : (Nat → Int) → Int → Option ρ) (g0 : Nat → Int) (g1 : Nat → Int) : Option ρ :=
  (impl_Coalgebra_field N (fun r2 => (lp0 r2 0)) g0 g1)

noncomputable def impl_Coalgebra_isCounit {ρ : Type} (N : Nat) (K0 : Bool → Option ρ) (g0 : Nat → Int) (g1 : Nat → Int) : Option ρ :=
  (impl_Coalgebra_isCounit.s N K0 (fun r2 x3 => (impl_Coalgebra_isCounit.l0 N K0 g1 r2 (impl_Coalgebra_isCounit.a0_0 N K0) N x3)) g0 g1)

noncomputable def impl_Coalgebra_isFault.b0 {ρ : Type} (N : Nat) (K0 : Bool → Option ρ) (rec : Int → Int → Int → Option ρ) (out0 : Int → Int → Option ρ) (i0 : Int) (j1 : Int) (k2 : Int) (l3 : Int) (g5 : Nat → Int) (r6 : Nat → Int) (one7 : Int) (two8 : Int) (x9 : Int) : Option ρ :=
  (if (decide (x9 < (r6 1))) = true then (if (0 : Int) ≤ i0 ∧ i0 < 8 then (if (0 : Int) ≤ x9 ∧ x9 < 8 then (if (0 : Int) ≤ l3 ∧ l3 < 8 then (if (0 : Int) ≤ x9 ∧ x9 < 8 then (if (0 : Int) ≤ j1 ∧ j1 < 8 then (if (0 : Int) ≤ k2 ∧ k2 < 8 then (if (0 : Int) ≤ i0 ∧ i0 < 8 then (if (0 : Int) ≤ j1 ∧ j1 < 8 then (if (0 : Int) ≤ x9 ∧ x9 < 8 then (if (0 : Int) ≤ x9 ∧ x9 < 8 then (if (0 : Int) ≤ k2 ∧ k2 < 8 then (if (0 : Int) ≤ l3 ∧ l3 < 8 then (rec ((IntKind.i64.wrap (one7 + (IntKind.i64.wrap ((IntKind.i64.wrap (g5 (((8 + (i0.toNat * 64)) + (x9.toNat * 8)) + (l3.toNat * 1)))) * (IntKind.i64.wrap (g5 (((8 + (x9.toNat * 64)) + (j1.toNat * 8)) + (k2.toNat * 1))))))))) ((IntKind.i64.wrap (two8 + (IntKind.i64.wrap ((IntKind.i64.wrap (g5 (((8 + (i0.toNat * 64)) + (j1.toNat * 8)) + (x9.toNat * 1)))) * (IntKind.i64.wrap (g5 (((8 + (x9.toNat * 64)) + (k2.toNat * 8)) + (l3.toNat * 1))))))))) ((IntKind.i64.wrap (x9 + 1)))) else none) else none) else none) else none) else none) else none) else none) else none) else none) else none) else none) else none) else (out0 one7 two8))

noncomputable def impl_Coalgebra_isFault.a0_0 {ρ : Type} (N : Nat) (K0 : Bool → Option ρ) (r6 : Nat → Int) (o10 : Int) (o11 : Int) : Option ρ :=
  (if (r6 0) = 0 then none else (if (r6 0) = 0 then none else (K0 (((Int.tmod o10 (r6 0)) != (Int.tmod o11 (r6 0)))))))

noncomputable def impl_Coalgebra_isFault.l0 {ρ : Type} (N : Nat) (K0 : Bool → Option ρ) (i0 : Int) (j1 : Int) (k2 : Int) (l3 : Int) (g5 : Nat → Int) (r6 : Nat → Int) (out0 : Int → Int → Option ρ) : Nat → Int → Int → Int → Option ρ
  | 0, _, _, _ => none
  | m + 1, one7, two8, x9 => (impl_Coalgebra_isFault.b0 N K0 ((impl_Coalgebra_isFault.l0 N K0 i0 j1 k2 l3 g5 r6 out0 m)) out0 i0 j1 k2 l3 g5 r6 one7 two8 x9)

noncomputable def impl_Coalgebra_isFault.s {ρ : Type} (N : Nat) (K0 : Bool → Option ρ) (lp0 : (Nat → Int) → Int → Int → Int → Option ρ) (g4 : Nat → Int) (g5 : Nat → Int) : Option ρ :=
  (impl_Coalgebra_field N (fun r6 => (lp0 r6 0 0 0)) g4 g5)

noncomputable def impl_Coalgebra_isFault {ρ : Type} (N : Nat) (K0 : Bool → Option ρ) (i0 : Int) (j1 : Int) (k2 : Int) (l3 : Int) (g4 : Nat → Int) (g5 : Nat → Int) : Option ρ :=
  (impl_Coalgebra_isFault.s N K0 (fun r6 one7 two8 x9 => (impl_Coalgebra_isFault.l0 N K0 i0 j1 k2 l3 g5 r6 (fun o10 o11 => (impl_Coalgebra_isFault.a0_0 N K0 r6 o10 o11)) N one7 two8 x9)) g4 g5)

noncomputable def impl_Coalgebra_fault.b0 {ρ : Type} (N : Nat) (K0 : Nat → Nat → (Nat → Int) → Option ρ) (K1 : Option ρ) (rec : Int → Option ρ) (out0 : Option ρ) (g0 : Nat → Int) (g1 : Nat → Int) (x2 : Int) : Option ρ :=
  (if (decide (x2 < (IntKind.i64.wrap ((IntKind.i64.wrap ((IntKind.i64.wrap ((g0 1) * (g0 1))) * (g0 1))) * (g0 1))))) = true then (if (IntKind.i64.wrap ((IntKind.i64.wrap ((g0 1) * (g0 1))) * (g0 1))) = 0 then none else (if (IntKind.i64.wrap ((g0 1) * (g0 1))) = 0 then none else (if (g0 1) = 0 then none else (if (g0 1) = 0 then none else (if (g0 1) = 0 then none else (if (g0 1) = 0 then none else (impl_Coalgebra_isFault N (fun r3 => (if r3 = true then (K0 4 4 (upd (upd (upd (upd (fun _ => 0) 0 (IntKind.i64.wrap (Int.tdiv x2 (IntKind.i64.wrap ((IntKind.i64.wrap ((g0 1) * (g0 1))) * (g0 1)))))) 1 (Int.tmod (IntKind.i64.wrap (Int.tdiv x2 (IntKind.i64.wrap ((g0 1) * (g0 1))))) (g0 1))) 2 (Int.tmod (IntKind.i64.wrap (Int.tdiv x2 (g0 1))) (g0 1))) 3 (Int.tmod x2 (g0 1)))) else (rec ((IntKind.i64.wrap (x2 + 1)))))) ((IntKind.i64.wrap (Int.tdiv x2 (IntKind.i64.wrap ((IntKind.i64.wrap ((g0 1) * (g0 1))) * (g0 1)))))) ((Int.tmod (IntKind.i64.wrap (Int.tdiv x2 (IntKind.i64.wrap ((g0 1) * (g0 1))))) (g0 1))) ((Int.tmod (IntKind.i64.wrap (Int.tdiv x2 (g0 1))) (g0 1))) ((Int.tmod x2 (g0 1))) g0 g1))))))) else out0)

noncomputable def impl_Coalgebra_fault.a0_0 {ρ : Type} (N : Nat) (K0 : Nat → Nat → (Nat → Int) → Option ρ) (K1 : Option ρ) : Option ρ :=
  K1

noncomputable def impl_Coalgebra_fault.l0 {ρ : Type} (N : Nat) (K0 : Nat → Nat → (Nat → Int) → Option ρ) (K1 : Option ρ) (g0 : Nat → Int) (g1 : Nat → Int) (out0 : Option ρ) : Nat → Int → Option ρ
  | 0, _ => none
  | m + 1, x2 => (impl_Coalgebra_fault.b0 N K0 K1 ((impl_Coalgebra_fault.l0 N K0 K1 g0 g1 out0 m)) out0 g0 g1 x2)

noncomputable def impl_Coalgebra_fault.s {ρ : Type} (N : Nat) (K0 : Nat → Nat → (Nat → Int) → Option ρ) (K1 : Option ρ) (lp0 : Int → Option ρ) : Option ρ :=
  (lp0 0)

noncomputable def impl_Coalgebra_fault {ρ : Type} (N : Nat) (K0 : Nat → Nat → (Nat → Int) → Option ρ) (K1 : Option ρ) (g0 : Nat → Int) (g1 : Nat → Int) : Option ρ :=
  (impl_Coalgebra_fault.s N K0 K1 (fun x2 => (impl_Coalgebra_fault.l0 N K0 K1 g0 g1 (impl_Coalgebra_fault.a0_0 N K0 K1) N x2)))

noncomputable def impl_IsCoalgebra {ρ : Type} (N : Nat) (K0 : Bool → Option ρ) (c0 : Nat → Int) (c1 : Nat → Int) : Option ρ :=
  (impl_Coalgebra_isShaped N (fun r2 => (if r2 = true then (impl_Coalgebra_isCounit N (fun r3 => (if r3 = true then (impl_Coalgebra_fault N (fun r4 r5 r6 => (K0 false)) (K0 true) c0 c1) else (K0 false))) c0 c1) else (K0 false))) c0 c1)

noncomputable def laws_FnExactIsCoalgebra {ρ : Type} (N : Nat) (K0 : Bool → Option ρ) (aC0 : Nat → Int) (aC1 : Nat → Int) : Option ρ :=
  (laws_toCoalgebra N (fun r2 r3 => (spec_IsCoalgebra N (fun r4 => (laws_toCoalgebra N (fun r5 r6 => (impl_IsCoalgebra N (fun r7 => (if (!(r7 == r4)) = true then (K0 false) else (K0 true))) r5 r6)) aC0 aC1)) r2 r3)) aC0 aC1)

noncomputable def spec_FirstCoFault {ρ : Type} (N : Nat) (K0 : Int → Option ρ) (K1 : Nat → Nat → Int → (Nat → Int) → Option ρ) (c0 : Nat → Int) (c1 : Nat → Int) : Option ρ :=
  (spec_l02Shape N (fun r2 => (if (!r2) = true then (K0 1) else (spec_l02Fault N (fun r3 r4 r5 r6 => (if (!r5) = true then (K0 4) else (K1 r3 r4 0 r6))) (fun r7 => (if (!r7) = true then (K0 4) else (K0 0))) c0 c1))) c0 c1)

noncomputable def impl_unless {ρ : Type} (N : Nat) (K0 : Int → Option ρ) (so0 : Bool) (code1 : Int) : Option ρ :=
  (if so0 = true then (K0 0) else (K0 code1))

noncomputable def impl_FirstCoFault {ρ : Type} (N : Nat) (K0 : Int → Option ρ) (K1 : Nat → Nat → Int → (Nat → Int) → Option ρ) (c0 : Nat → Int) (c1 : Nat → Int) : Option ρ :=
  (impl_Coalgebra_isShaped N (fun r2 => (if (!r2) = true then (K0 1) else (impl_Coalgebra_fault N (fun r3 r4 r5 => (impl_unless N (fun r6 => (K1 r3 r4 r6 r5)) true 4)) (impl_unless N (fun r7 => (K0 r7)) false 4) c0 c1))) c0 c1)

noncomputable def laws_eqInt64S_nn.b0 {ρ : Type} (N : Nat) (K0 : Bool → Option ρ) (rec : Option ρ) (out0 : Option ρ) : Option ρ :=
  out0

noncomputable def laws_eqInt64S_nn.a0_0 {ρ : Type} (N : Nat) (K0 : Bool → Option ρ) : Option ρ :=
  (K0 true)

noncomputable def laws_eqInt64S_nn.l0 {ρ : Type} (N : Nat) (K0 : Bool → Option ρ) (out0 : Option ρ) : Nat → Option ρ
  | 0 => none
  | m + 1 => (laws_eqInt64S_nn.b0 N K0 ((laws_eqInt64S_nn.l0 N K0 out0 m)) out0)

noncomputable def laws_eqInt64S_nn.s {ρ : Type} (N : Nat) (K0 : Bool → Option ρ) (lp0 : Option ρ) : Option ρ :=
  lp0

noncomputable def laws_eqInt64S_nn {ρ : Type} (N : Nat) (K0 : Bool → Option ρ) : Option ρ :=
  (laws_eqInt64S_nn.s N K0 ((laws_eqInt64S_nn.l0 N K0 (laws_eqInt64S_nn.a0_0 N K0) N)))

noncomputable def laws_markInt64S_n.b0 {ρ : Type} (N : Nat) (K0 : Int → Option ρ) (rec : Option ρ) (out0 : Option ρ) : Option ρ :=
  out0

noncomputable def laws_markInt64S_n.a0_0 {ρ : Type} (N : Nat) (K0 : Int → Option ρ) (k0 : Int) : Option ρ :=
  (K0 k0)

noncomputable def laws_markInt64S_n.l0 {ρ : Type} (N : Nat) (K0 : Int → Option ρ) (out0 : Option ρ) : Nat → Option ρ
  | 0 => none
  | m + 1 => (laws_markInt64S_n.b0 N K0 ((laws_markInt64S_n.l0 N K0 out0 m)) out0)

noncomputable def laws_markInt64S_n.s {ρ : Type} (N : Nat) (K0 : Int → Option ρ) (lp0 : Option ρ) : Option ρ :=
  lp0

noncomputable def laws_markInt64S_n {ρ : Type} (N : Nat) (K0 : Int → Option ρ) (k0 : Int) : Option ρ :=
  (laws_markInt64S_n.s N K0 ((laws_markInt64S_n.l0 N K0 (laws_markInt64S_n.a0_0 N K0 k0) N)))

noncomputable def laws_heldInt64S_n.b0 {ρ : Type} (N : Nat) (K0 : Int → Option ρ) (rec : Option ρ) (out0 : Option ρ) : Option ρ :=
  out0

noncomputable def laws_heldInt64S_n.a0_0 {ρ : Type} (N : Nat) (K0 : Int → Option ρ) (k0 : Int) : Option ρ :=
  (K0 k0)

noncomputable def laws_heldInt64S_n.l0 {ρ : Type} (N : Nat) (K0 : Int → Option ρ) (out0 : Option ρ) : Nat → Option ρ
  | 0 => none
  | m + 1 => (laws_heldInt64S_n.b0 N K0 ((laws_heldInt64S_n.l0 N K0 out0 m)) out0)

noncomputable def laws_heldInt64S_n.s {ρ : Type} (N : Nat) (K0 : Int → Option ρ) (lp0 : Option ρ) : Option ρ :=
  lp0

noncomputable def laws_heldInt64S_n {ρ : Type} (N : Nat) (K0 : Int → Option ρ) (k0 : Int) : Option ρ :=
  (laws_heldInt64S_n.s N K0 ((laws_heldInt64S_n.l0 N K0 (laws_heldInt64S_n.a0_0 N K0 k0) N)))

noncomputable def laws_eqInt64S_sn.b0 {ρ : Type} (N : Nat) (K0 : Bool → Option ρ) (rec : Option ρ) (out0 : Option ρ) (a0 : Nat) : Option ρ :=
  (if (decide (0 < (a0 : Int))) = true then (if (0 : Int) ≤ 0 ∧ 0 < (a0 : Int) then none else none) else out0)

noncomputable def laws_eqInt64S_sn.a0_0 {ρ : Type} (N : Nat) (K0 : Bool → Option ρ) : Option ρ :=
  (K0 true)

noncomputable def laws_eqInt64S_sn.l0 {ρ : Type} (N : Nat) (K0 : Bool → Option ρ) (a0 : Nat) (out0 : Option ρ) : Nat → Option ρ
  | 0 => none
  | m + 1 => (laws_eqInt64S_sn.b0 N K0 ((laws_eqInt64S_sn.l0 N K0 a0 out0 m)) out0 a0)

noncomputable def laws_eqInt64S_sn.s {ρ : Type} (N : Nat) (K0 : Bool → Option ρ) (lp0 : Option ρ) (a0 : Nat) : Option ρ :=
  (if ((a0 : Int) != 0) = true then (K0 false) else lp0)

noncomputable def laws_eqInt64S_sn {ρ : Type} (N : Nat) (K0 : Bool → Option ρ) (a0 : Nat) (a1 : Nat) (g2 : Nat) (g3 : Nat → Int) : Option ρ :=
  (laws_eqInt64S_sn.s N K0 ((laws_eqInt64S_sn.l0 N K0 a0 (laws_eqInt64S_sn.a0_0 N K0) N)) a0)

noncomputable def laws_markInt64S_s.b0 {ρ : Type} (N : Nat) (K0 : Int → (Nat → Int) → Option ρ) (rec : Int → Int → (Nat → Int) → Option ρ) (out0 : Int → (Nat → Int) → Option ρ) (a0 : Nat) (k5 : Int) (i6 : Int) (g7 : Nat → Int) : Option ρ :=
  (if (decide (i6 < (a0 : Int))) = true then (if (0 : Int) ≤ i6 ∧ i6 < (a0 : Int) then (rec ((IntKind.i64.wrap (k5 + 1))) ((IntKind.i64.wrap (i6 + 1))) (upd g7 (0 + (i6.toNat * 1)) k5)) else none) else (out0 k5 g7))

noncomputable def laws_markInt64S_s.a0_0 {ρ : Type} (N : Nat) (K0 : Int → (Nat → Int) → Option ρ) (o8 : Int) (o9 : Nat → Int) : Option ρ :=
  (K0 o8 o9)

noncomputable def laws_markInt64S_s.l0 {ρ : Type} (N : Nat) (K0 : Int → (Nat → Int) → Option ρ) (a0 : Nat) (out0 : Int → (Nat → Int) → Option ρ) : Nat → Int → Int → (Nat → Int) → Option ρ
  | 0, _, _, _ => none
  | m + 1, k5, i6, g7 => (laws_markInt64S_s.b0 N K0 ((laws_markInt64S_s.l0 N K0 a0 out0 m)) out0 a0 k5 i6 g7)

noncomputable def laws_markInt64S_s.s {ρ : Type} (N : Nat) (K0 : Int → (Nat → Int) → Option ρ) (lp0 : Int → Int → (Nat → Int) → Option ρ) (k2 : Int) (g4 : Nat → Int) : Option ρ :=
  (lp0 k2 0 g4)

noncomputable def laws_markInt64S_s {ρ : Type} (N : Nat) (K0 : Int → (Nat → Int) → Option ρ) (a0 : Nat) (a1 : Nat) (k2 : Int) (g3 : Nat) (g4 : Nat → Int) : Option ρ :=
  (laws_markInt64S_s.s N K0 (fun k5 i6 g7 => (laws_markInt64S_s.l0 N K0 a0 (fun o8 o9 => (laws_markInt64S_s.a0_0 N K0 o8 o9)) N k5 i6 g7)) k2 g4)

noncomputable def laws_heldInt64S_s.b0 {ρ : Type} (N : Nat) (K0 : Int → Option ρ) (rec : Int → Int → Option ρ) (out0 : Int → Option ρ) (a0 : Nat) (g4 : Nat → Int) (k5 : Int) (i6 : Int) : Option ρ :=
  (if (decide (i6 < (a0 : Int))) = true then (if (0 : Int) ≤ i6 ∧ i6 < (a0 : Int) then (if ((g4 (0 + (i6.toNat * 1))) != k5) = true then (K0 (-1)) else (rec ((IntKind.i64.wrap (k5 + 1))) ((IntKind.i64.wrap (i6 + 1))))) else none) else (out0 k5))

noncomputable def laws_heldInt64S_s.a0_0 {ρ : Type} (N : Nat) (K0 : Int → Option ρ) (o7 : Int) : Option ρ :=
  (K0 o7)

noncomputable def laws_heldInt64S_s.l0 {ρ : Type} (N : Nat) (K0 : Int → Option ρ) (a0 : Nat) (g4 : Nat → Int) (out0 : Int → Option ρ) : Nat → Int → Int → Option ρ
  | 0, _, _ => none
  | m + 1, k5, i6 => (laws_heldInt64S_s.b0 N K0 ((laws_heldInt64S_s.l0 N K0 a0 g4 out0 m)) out0 a0 g4 k5 i6)

noncomputable def laws_heldInt64S_s.s {ρ : Type} (N : Nat) (K0 : Int → Option ρ) (lp0 : Int → Int → Option ρ) (k2 : Int) : Option ρ :=
  (lp0 k2 0)

noncomputable def laws_heldInt64S_s {ρ : Type} (N : Nat) (K0 : Int → Option ρ) (a0 : Nat) (a1 : Nat) (k2 : Int) (g3 : Nat) (g4 : Nat → Int) : Option ρ :=
  (laws_heldInt64S_s.s N K0 (fun k5 i6 => (laws_heldInt64S_s.l0 N K0 a0 g4 (fun o7 => (laws_heldInt64S_s.a0_0 N K0 o7)) N k5 i6)) k2)

noncomputable def laws_eqInt64S_ns.b0 {ρ : Type} (N : Nat) (K0 : Bool → Option ρ) (rec : Option ρ) (out0 : Option ρ) : Option ρ :=
  out0

noncomputable def laws_eqInt64S_ns.a0_0 {ρ : Type} (N : Nat) (K0 : Bool → Option ρ) : Option ρ :=
  (K0 true)

noncomputable def laws_eqInt64S_ns.l0 {ρ : Type} (N : Nat) (K0 : Bool → Option ρ) (out0 : Option ρ) : Nat → Option ρ
  | 0 => none
  | m + 1 => (laws_eqInt64S_ns.b0 N K0 ((laws_eqInt64S_ns.l0 N K0 out0 m)) out0)

noncomputable def laws_eqInt64S_ns.s {ρ : Type} (N : Nat) (K0 : Bool → Option ρ) (lp0 : Option ρ) (b0 : Nat) : Option ρ :=
  (if (0 != (b0 : Int)) = true then (K0 false) else lp0)

noncomputable def laws_eqInt64S_ns {ρ : Type} (N : Nat) (K0 : Bool → Option ρ) (b0 : Nat) (b1 : Nat) (g2 : Nat) (g3 : Nat → Int) : Option ρ :=
  (laws_eqInt64S_ns.s N K0 ((laws_eqInt64S_ns.l0 N K0 (laws_eqInt64S_ns.a0_0 N K0) N)) b0)

noncomputable def laws_eqInt64S_ss.b0 {ρ : Type} (N : Nat) (K0 : Bool → Option ρ) (rec : Int → Option ρ) (out0 : Option ρ) (a0 : Nat) (b2 : Nat) (g5 : Nat → Int) (g7 : Nat → Int) (i8 : Int) : Option ρ :=
  (if (decide (i8 < (a0 : Int))) = true then (if (0 : Int) ≤ i8 ∧ i8 < (a0 : Int) then (if (0 : Int) ≤ i8 ∧ i8 < (b2 : Int) then (if ((g5 (0 + (i8.toNat * 1))) != (g7 (0 + (i8.toNat * 1)))) = true then (K0 false) else (rec ((IntKind.i64.wrap (i8 + 1))))) else none) else none) else out0)

noncomputable def laws_eqInt64S_ss.a0_0 {ρ : Type} (N : Nat) (K0 : Bool → Option ρ) : Option ρ :=
  (K0 true)

noncomputable def laws_eqInt64S_ss.l0 {ρ : Type} (N : Nat) (K0 : Bool → Option ρ) (a0 : Nat) (b2 : Nat) (g5 : Nat → Int) (g7 : Nat → Int) (out0 : Option ρ) : Nat → Int → Option ρ
  | 0, _ => none
  | m + 1, i8 => (laws_eqInt64S_ss.b0 N K0 ((laws_eqInt64S_ss.l0 N K0 a0 b2 g5 g7 out0 m)) out0 a0 b2 g5 g7 i8)

noncomputable def laws_eqInt64S_ss.s {ρ : Type} (N : Nat) (K0 : Bool → Option ρ) (lp0 : Int → Option ρ) (a0 : Nat) (b2 : Nat) : Option ρ :=
  (if ((a0 : Int) != (b2 : Int)) = true then (K0 false) else (lp0 0))

noncomputable def laws_eqInt64S_ss {ρ : Type} (N : Nat) (K0 : Bool → Option ρ) (a0 : Nat) (a1 : Nat) (b2 : Nat) (b3 : Nat) (g4 : Nat) (g5 : Nat → Int) (g6 : Nat) (g7 : Nat → Int) : Option ρ :=
  (laws_eqInt64S_ss.s N K0 (fun i8 => (laws_eqInt64S_ss.l0 N K0 a0 b2 g5 g7 (laws_eqInt64S_ss.a0_0 N K0) N i8)) a0 b2)

noncomputable def laws_FnExactFirstCoFault {ρ : Type} (N : Nat) (K0 : Bool → Option ρ) (aC0 : Nat → Int) (aC1 : Nat → Int) : Option ρ :=
  (laws_toCoalgebra N (fun r2 r3 => (spec_FirstCoFault N (fun r4 => (laws_toCoalgebra N (fun r5 r6 => (impl_FirstCoFault N (fun r7 => (laws_eqInt64S_nn N (fun r8 => (if (!r8) = true then (K0 false) else (if (r7 != r4) = true then (K0 false) else (laws_markInt64S_n N (fun r9 => (laws_heldInt64S_n N (fun r10 => (if (decide (r10 < 0)) = true then (K0 false) else (if (r10 != r9) = true then (K0 false) else (laws_toCoalgebra N (fun r11 r12 => (impl_FirstCoFault N (fun r13 => (laws_eqInt64S_nn N (fun r14 => (if (!r14) = true then (K0 false) else (if (r13 != r4) = true then (K0 false) else (laws_heldInt64S_n N (fun r15 => (if (decide (r15 < 0)) = true then (K0 false) else (if (r15 != r9) = true then (K0 false) else (K0 true)))) 101)))))) (fun r16 r17 r18 r19 => (laws_eqInt64S_sn N (fun r20 => (if (!r20) = true then (K0 false) else (if (r18 != r4) = true then (K0 false) else (laws_heldInt64S_n N (fun r21 => (if (decide (r21 < 0)) = true then (K0 false) else (if (r21 != r9) = true then (K0 false) else (K0 true)))) 101)))) r16 r17 (r17 * 1) (fun z => (r19 (0 + z))))) r11 r12)) aC0 aC1)))) 101)) 101)))))) (fun r22 r23 r24 r25 => (laws_eqInt64S_sn N (fun r26 => (if (!r26) = true then (K0 false) else (if (r24 != r4) = true then (K0 false) else (laws_markInt64S_s N (fun r27 r28 => (laws_heldInt64S_s N (fun r29 => (if (decide (r29 < 0)) = true then (K0 false) else (if (r29 != r27) = true then (K0 false) else (laws_toCoalgebra N (fun r30 r31 => (impl_FirstCoFault N (fun r32 => (laws_eqInt64S_nn N (fun r33 => (if (!r33) = true then (K0 false) else (if (r32 != r4) = true then (K0 false) else (laws_heldInt64S_s N (fun r34 => (if (decide (r34 < 0)) = true then (K0 false) else (if (r34 != r27) = true then (K0 false) else (K0 true)))) r22 r23 101 (r23 * 1) (fun z => ((updN r25 0 (r23 * 1) r28) (0 + z))))))))) (fun r35 r36 r37 r38 => (laws_eqInt64S_sn N (fun r39 => (if (!r39) = true then (K0 false) else (if (r37 != r4) = true then (K0 false) else (laws_heldInt64S_s N (fun r40 => (if (decide (r40 < 0)) = true then (K0 false) else (if (r40 != r27) = true then (K0 false) else (K0 true)))) r22 r23 101 (r23 * 1) (fun z => ((updN r25 0 (r23 * 1) r28) (0 + z))))))) r35 r36 (r36 * 1) (fun z => (r38 (0 + z))))) r30 r31)) aC0 aC1)))) r22 r23 101 (r23 * 1) (fun z => ((updN r25 0 (r23 * 1) r28) (0 + z))))) r22 r23 101 (r23 * 1) (fun z => (r25 (0 + z))))))) r22 r23 (r23 * 1) (fun z => (r25 (0 + z))))) r5 r6)) aC0 aC1)) (fun r41 r42 r43 r44 => (laws_toCoalgebra N (fun r45 r46 => (impl_FirstCoFault N (fun r47 => (laws_eqInt64S_ns N (fun r48 => (if (!r48) = true then (K0 false) else (if (r47 != r43) = true then (K0 false) else (laws_markInt64S_n N (fun r49 => (laws_heldInt64S_n N (fun r50 => (if (decide (r50 < 0)) = true then (K0 false) else (if (r50 != r49) = true then (K0 false) else (laws_toCoalgebra N (fun r51 r52 => (impl_FirstCoFault N (fun r53 => (laws_eqInt64S_ns N (fun r54 => (if (!r54) = true then (K0 false) else (if (r53 != r43) = true then (K0 false) else (laws_heldInt64S_n N (fun r55 => (if (decide (r55 < 0)) = true then (K0 false) else (if (r55 != r49) = true then (K0 false) else (K0 true)))) 101)))) r41 r42 (r42 * 1) (fun z => (r44 (0 + z))))) (fun r56 r57 r58 r59 => (laws_eqInt64S_ss N (fun r60 => (if (!r60) = true then (K0 false) else (if (r58 != r43) = true then (K0 false) else (laws_heldInt64S_n N (fun r61 => (if (decide (r61 < 0)) = true then (K0 false) else (if (r61 != r49) = true then (K0 false) else (K0 true)))) 101)))) r56 r57 r41 r42 (r57 * 1) (fun z => (r59 (0 + z))) (r42 * 1) (fun z => (r44 (0 + z))))) r51 r52)) aC0 aC1)))) 101)) 101)))) r41 r42 (r42 * 1) (fun z => (r44 (0 + z))))) (fun r62 r63 r64 r65 => (laws_eqInt64S_ss N (fun r66 => (if (!r66) = true then (K0 false) else (if (r64 != r43) = true then (K0 false) else (laws_markInt64S_s N (fun r67 r68 => (laws_heldInt64S_s N (fun r69 => (if (decide (r69 < 0)) = true then (K0 false) else (if (r69 != r67) = true then (K0 false) else (laws_toCoalgebra N (fun r70 r71 => (impl_FirstCoFault N (fun r72 => (laws_eqInt64S_ns N (fun r73 => (if (!r73) = true then (K0 false) else (if (r72 != r43) = true then (K0 false) else (laws_heldInt64S_s N (fun r74 => (if (decide (r74 < 0)) = true then (K0 false) else (if (r74 != r67) = true then (K0 false) else (K0 true)))) r62 r63 101 (r63 * 1) (fun z => ((updN r65 0 (r63 * 1) r68) (0 + z))))))) r41 r42 (r42 * 1) (fun z => (r44 (0 + z))))) (fun r75 r76 r77 r78 => (laws_eqInt64S_ss N (fun r79 => (if (!r79) = true then (K0 false) else (if (r77 != r43) = true then (K0 false) else (laws_heldInt64S_s N (fun r80 => (if (decide (r80 < 0)) = true then (K0 false) else (if (r80 != r67) = true then (K0 false) else (K0 true)))) r62 r63 101 (r63 * 1) (fun z => ((updN r65 0 (r63 * 1) r68) (0 + z))))))) r75 r76 r41 r42 (r76 * 1) (fun z => (r78 (0 + z))) (r42 * 1) (fun z => (r44 (0 + z))))) r70 r71)) aC0 aC1)))) r62 r63 101 (r63 * 1) (fun z => ((updN r65 0 (r63 * 1) r68) (0 + z))))) r62 r63 101 (r63 * 1) (fun z => (r65 (0 + z))))))) r62 r63 r41 r42 (r63 * 1) (fun z => (r65 (0 + z))) (r42 * 1) (fun z => (r44 (0 + z))))) r45 r46)) aC0 aC1)) r2 r3)) aC0 aC1)

noncomputable def spec_l02Code_s8.b0 {ρ : Type} (N : Nat) (K0 : Int → Option ρ) (rec : Int → Option ρ) (out0 : Option ρ) (c0 : Nat → Int) (list2 : Nat) (g4 : Nat → Int) (i6 : Int) : Option ρ :=
  (if (decide (i6 < (list2 : Int))) = true then (if (0 : Int) ≤ i6 ∧ i6 < (list2 : Int) then (spec_l01Vector N (fun r7 => (if (!r7) = true then (K0 1) else (rec ((IntKind.i64.wrap (i6 + 1)))))) ((c0 0)) ((c0 1)) (fun z => (g4 ((0 + (i6.toNat * 8)) + z)))) else none) else out0)

noncomputable def spec_l02Code_s8.a0_0 {ρ : Type} (N : Nat) (K0 : Int → Option ρ) : Option ρ :=
  (K0 0)

noncomputable def spec_l02Code_s8.l0 {ρ : Type} (N : Nat) (K0 : Int → Option ρ) (c0 : Nat → Int) (list2 : Nat) (g4 : Nat → Int) (out0 : Option ρ) : Nat → Int → Option ρ
  | 0, _ => none
  | m + 1, i6 => (spec_l02Code_s8.b0 N K0 ((spec_l02Code_s8.l0 N K0 c0 list2 g4 out0 m)) out0 c0 list2 g4 i6)

noncomputable def spec_l02Code_s8.s {ρ : Type} (N : Nat) (K0 : Int → Option ρ) (lp0 : Int → Option ρ) (c0 : Nat → Int) (c1 : Nat → Int) : Option ρ :=
  (spec_l02Is N (fun r5 => (if (!r5) = true then (K0 1) else (lp0 0))) c0 c1)

noncomputable def spec_l02Code_s8 {ρ : Type} (N : Nat) (K0 : Int → Option ρ) (c0 : Nat → Int) (c1 : Nat → Int) (list2 : Nat) (list3 : Nat) (g4 : Nat → Int) : Option ρ :=
  (spec_l02Code_s8.s N K0 (fun i6 => (spec_l02Code_s8.l0 N K0 c0 list2 g4 (spec_l02Code_s8.a0_0 N K0) N i6)) c0 c1)

noncomputable def spec_l02Counit.b0 {ρ : Type} (N : Nat) (K0 : Int → Option ρ) (rec : Int → Int → Option ρ) (out0 : Int → Option ρ) (c1 : Nat → Int) (v2 : Nat → Int) (sum3 : Int) (i4 : Int) : Option ρ :=
  (if (decide (i4 < 8)) = true then (if (0 : Int) ≤ i4 ∧ i4 < 8 then (if (0 : Int) ≤ i4 ∧ i4 < 8 then (rec ((IntKind.i64.wrap (sum3 + (IntKind.i64.wrap ((IntKind.i64.wrap (v2 (i4.toNat * 1))) * (IntKind.i64.wrap (c1 (0 + (i4.toNat * 1))))))))) ((IntKind.i64.wrap (i4 + 1)))) else none) else none) else (out0 sum3))

noncomputable def spec_l02Counit.a0_0 {ρ : Type} (N : Nat) (K0 : Int → Option ρ) (c0 : Nat → Int) (o5 : Int) : Option ρ :=
  (if (c0 0) = 0 then none else (K0 ((Int.tmod o5 (c0 0)))))

noncomputable def spec_l02Counit.l0 {ρ : Type} (N : Nat) (K0 : Int → Option ρ) (c1 : Nat → Int) (v2 : Nat → Int) (out0 : Int → Option ρ) : Nat → Int → Int → Option ρ
  | 0, _, _ => none
  | m + 1, sum3, i4 => (spec_l02Counit.b0 N K0 ((spec_l02Counit.l0 N K0 c1 v2 out0 m)) out0 c1 v2 sum3 i4)

noncomputable def spec_l02Counit.s {ρ : Type} (N : Nat) (K0 : Int → Option ρ) (lp0 : Int → Int → Option ρ) : Option ρ :=
  (lp0 0 0)

noncomputable def spec_l02Counit {ρ : Type} (N : Nat) (K0 : Int → Option ρ) (c0 : Nat → Int) (c1 : Nat → Int) (v2 : Nat → Int) : Option ρ :=
  (spec_l02Counit.s N K0 (fun sum3 i4 => (spec_l02Counit.l0 N K0 c1 v2 (fun o5 => (spec_l02Counit.a0_0 N K0 c0 o5)) N sum3 i4)))

noncomputable def spec_CounitIn {ρ : Type} (N : Nat) (K0 : Int → Int → Option ρ) (c0 : Nat → Int) (c1 : Nat → Int) (v2 : Nat → Int) : Option ρ :=
  (spec_l02Code_s8 N (fun r3 => (if (r3 != 0) = true then (K0 0 r3) else (spec_l02Counit N (fun r4 => (K0 r4 0)) c0 c1 v2))) c0 c1 1 1 (fun z => (v2 (0 + z))))

noncomputable def impl_Coalgebra_has_c1 {ρ : Type} (N : Nat) (K0 : Bool → Option ρ) (v0 : Nat → Int) (g1 : Nat → Int) (g2 : Nat → Int) : Option ρ :=
  (impl_IsVector N (fun r3 => (K0 ((!r3)))) ((g1 0)) ((g1 1)) v0)

noncomputable def slices_IndexFunc_sf.b0 {ρ : Type} (N : Nat) (K0 : Int → Option ρ) (rec : Int → Option ρ) (out0 : Option ρ) (s0 : Nat) (g3 : Nat → Int) (g4 : Nat → Int) (g5 : Nat → Int) (x6 : Int) : Option ρ :=
  (if (decide (x6 < (s0 : Int))) = true then (if (0 : Int) ≤ x6 ∧ x6 < (s0 : Int) then (impl_Coalgebra_has_c1 N (fun r7 => (if r7 = true then (K0 x6) else (rec ((IntKind.i64.wrap (x6 + 1)))))) (fun z => (g3 ((0 + (x6.toNat * 8)) + z))) g4 g5) else none) else out0)

noncomputable def slices_IndexFunc_sf.a0_0 {ρ : Type} (N : Nat) (K0 : Int → Option ρ) : Option ρ :=
  (K0 (-1))

noncomputable def slices_IndexFunc_sf.l0 {ρ : Type} (N : Nat) (K0 : Int → Option ρ) (s0 : Nat) (g3 : Nat → Int) (g4 : Nat → Int) (g5 : Nat → Int) (out0 : Option ρ) : Nat → Int → Option ρ
  | 0, _ => none
  | m + 1, x6 => (slices_IndexFunc_sf.b0 N K0 ((slices_IndexFunc_sf.l0 N K0 s0 g3 g4 g5 out0 m)) out0 s0 g3 g4 g5 x6)

noncomputable def slices_IndexFunc_sf.s {ρ : Type} (N : Nat) (K0 : Int → Option ρ) (lp0 : Int → Option ρ) : Option ρ :=
  (lp0 0)

noncomputable def slices_IndexFunc_sf {ρ : Type} (N : Nat) (K0 : Int → Option ρ) (s0 : Nat) (s1 : Nat) (g2 : Nat) (g3 : Nat → Int) (g4 : Nat → Int) (g5 : Nat → Int) : Option ρ :=
  (slices_IndexFunc_sf.s N K0 (fun x6 => (slices_IndexFunc_sf.l0 N K0 s0 g3 g4 g5 (slices_IndexFunc_sf.a0_0 N K0) N x6)))

noncomputable def slices_ContainsFunc_sf {ρ : Type} (N : Nat) (K0 : Bool → Option ρ) (s0 : Nat) (s1 : Nat) (g2 : Nat) (g3 : Nat → Int) (g4 : Nat → Int) (g5 : Nat → Int) : Option ρ :=
  (slices_IndexFunc_sf N (fun r6 => (K0 ((decide (r6 ≥ 0))))) s0 s1 (s1 * 8) (fun z => (g3 (0 + z))) g4 g5)

noncomputable def impl_Coalgebra_has_s {ρ : Type} (N : Nat) (K0 : Bool → Option ρ) (list0 : Nat) (list1 : Nat) (g2 : Nat → Int) (g3 : Nat → Int) (g4 : Nat) (g5 : Nat → Int) : Option ρ :=
  (slices_ContainsFunc_sf N (fun r6 => (K0 ((!r6)))) list0 list1 (list1 * 8) (fun z => (g5 (0 + z))) g2 g3)

noncomputable def impl_Coalgebra_code_s8 {ρ : Type} (N : Nat) (K0 : Int → Option ρ) (list0 : Nat) (list1 : Nat) (g2 : Nat → Int) (g3 : Nat → Int) (g4 : Nat → Int) : Option ρ :=
  (impl_IsCoalgebra N (fun r5 => (if r5 = true then (impl_Coalgebra_has_s N (fun r6 => (impl_unless N (fun r7 => (K0 r7)) (r6) 1)) list0 list1 g2 g3 (list1 * 8) (fun z => (g4 (0 + z)))) else (impl_unless N (fun r8 => (K0 r8)) false 1))) g2 g3)

noncomputable def impl_CounitIn {ρ : Type} (N : Nat) (K0 : Int → Int → Option ρ) (c0 : Nat → Int) (c1 : Nat → Int) (v2 : Nat → Int) : Option ρ :=
  (impl_Coalgebra_code_s8 N (fun r3 => (if (r3 != 0) = true then (K0 0 r3) else (impl_Coalgebra_field N (fun r4 => (impl_field_dot N (fun r5 => (K0 r5 0)) r4 (fun z => (c1 (0 + z))) v2)) c0 c1))) 1 1 c0 c1 (fun z => (v2 (0 + z))))

noncomputable def laws_FnExactCounitIn {ρ : Type} (N : Nat) (K0 : Bool → Option ρ) (aC0 : Nat → Int) (aC1 : Nat → Int) (aV2 : Nat → Int) : Option ρ :=
  (laws_toCoalgebra N (fun r3 r4 => (laws_toVector N (fun r5 => (spec_CounitIn N (fun r6 r7 => (laws_toCoalgebra N (fun r8 r9 => (laws_toVector N (fun r10 => (impl_CounitIn N (fun r11 r12 => (if (r11 != r6) = true then (K0 false) else (if (r12 != r7) = true then (K0 false) else (K0 true)))) r8 r9 r10)) aV2)) aC0 aC1)) r3 r4 r5)) aV2)) aC0 aC1)

noncomputable def spec_IsCocommutative.b2 {ρ : Type} (N : Nat) (K0 : Bool → Int → Option ρ) (rec : Int → Option ρ) (out0 : Option ρ) (c1 : Nat → Int) (i3 : Int) (j4 : Int) (k5 : Int) : Option ρ :=
  (if (decide (k5 < j4)) = true then (if (0 : Int) ≤ i3 ∧ i3 < 8 then (if (0 : Int) ≤ j4 ∧ j4 < 8 then (if (0 : Int) ≤ k5 ∧ k5 < 8 then (if (0 : Int) ≤ i3 ∧ i3 < 8 then (if (0 : Int) ≤ k5 ∧ k5 < 8 then (if (0 : Int) ≤ j4 ∧ j4 < 8 then (if ((c1 (((8 + (i3.toNat * 64)) + (j4.toNat * 8)) + (k5.toNat * 1))) != (c1 (((8 + (i3.toNat * 64)) + (k5.toNat * 8)) + (j4.toNat * 1)))) = true then (K0 false 0) else (rec ((IntKind.i64.wrap (k5 + 1))))) else none) else none) else none) else none) else none) else none) else out0)

noncomputable def spec_IsCocommutative.a2_0 {ρ : Type} (N : Nat) (K0 : Bool → Int → Option ρ) (rec : Int → Option ρ) (out0 : Option ρ) (j4 : Int) : Option ρ :=
  (rec ((IntKind.i64.wrap (j4 + 1))))

noncomputable def spec_IsCocommutative.b1 {ρ : Type} (N : Nat) (K0 : Bool → Int → Option ρ) (lp2 : Int → Option ρ) (rec : Int → Option ρ) (out0 : Option ρ) (j4 : Int) : Option ρ :=
  (if (decide (j4 < 8)) = true then (lp2 0) else out0)

noncomputable def spec_IsCocommutative.a1_0 {ρ : Type} (N : Nat) (K0 : Bool → Int → Option ρ) (rec : Int → Option ρ) (out0 : Option ρ) (i3 : Int) : Option ρ :=
  (rec ((IntKind.i64.wrap (i3 + 1))))

noncomputable def spec_IsCocommutative.b0 {ρ : Type} (N : Nat) (K0 : Bool → Int → Option ρ) (lp1 : Int → Option ρ) (rec : Int → Option ρ) (out0 : Option ρ) (i3 : Int) : Option ρ :=
  (if (decide (i3 < 8)) = true then (lp1 0) else out0)

noncomputable def spec_IsCocommutative.a0_0 {ρ : Type} (N : Nat) (K0 : Bool → Int → Option ρ) : Option ρ :=
  (K0 true 0)

noncomputable def spec_IsCocommutative.l2 {ρ : Type} (N : Nat) (K0 : Bool → Int → Option ρ) (c1 : Nat → Int) (i3 : Int) (j4 : Int) (out0 : Option ρ) : Nat → Int → Option ρ
  | 0, _ => none
  | m + 1, k5 => (spec_IsCocommutative.b2 N K0 ((spec_IsCocommutative.l2 N K0 c1 i3 j4 out0 m)) out0 c1 i3 j4 k5)

noncomputable def spec_IsCocommutative.l1 {ρ : Type} (N : Nat) (K0 : Bool → Int → Option ρ) (c1 : Nat → Int) (i3 : Int) (out0 : Option ρ) : Nat → Int → Option ρ
  | 0, _ => none
  | m + 1, j4 => (spec_IsCocommutative.b1 N K0 (fun k5 => (spec_IsCocommutative.l2 N K0 c1 i3 j4 (spec_IsCocommutative.a2_0 N K0 (spec_IsCocommutative.l1 N K0 c1 i3 out0 m) out0 j4) N k5)) ((spec_IsCocommutative.l1 N K0 c1 i3 out0 m)) out0 j4)

noncomputable def spec_IsCocommutative.l0 {ρ : Type} (N : Nat) (K0 : Bool → Int → Option ρ) (c1 : Nat → Int) (out0 : Option ρ) : Nat → Int → Option ρ
  | 0, _ => none
  | m + 1, i3 => (spec_IsCocommutative.b0 N K0 (fun j4 => (spec_IsCocommutative.l1 N K0 c1 i3 (spec_IsCocommutative.a1_0 N K0 (spec_IsCocommutative.l0 N K0 c1 out0 m) out0 i3) N j4)) ((spec_IsCocommutative.l0 N K0 c1 out0 m)) out0 i3)

noncomputable def spec_IsCocommutative.s {ρ : Type} (N : Nat) (K0 : Bool → Int → Option ρ) (lp0 : Int → Option ρ) (c0 : Nat → Int) (c1 : Nat → Int) : Option ρ :=
  (spec_l02Is N (fun r2 => (if (!r2) = true then (K0 false 1) else (lp0 0))) c0 c1)

noncomputable def spec_IsCocommutative {ρ : Type} (N : Nat) (K0 : Bool → Int → Option ρ) (c0 : Nat → Int) (c1 : Nat → Int) : Option ρ :=
  (spec_IsCocommutative.s N K0 (fun i3 => (spec_IsCocommutative.l0 N K0 c1 (spec_IsCocommutative.a0_0 N K0) N i3)) c0 c1)

noncomputable def slices_IndexFunc_nf.b0 {ρ : Type} (N : Nat) (K0 : Int → Option ρ) (rec : Option ρ) (out0 : Option ρ) : Option ρ :=
  out0

noncomputable def slices_IndexFunc_nf.a0_0 {ρ : Type} (N : Nat) (K0 : Int → Option ρ) : Option ρ :=
  (K0 (-1))

noncomputable def slices_IndexFunc_nf.l0 {ρ : Type} (N : Nat) (K0 : Int → Option ρ) (out0 : Option ρ) : Nat → Option ρ
  | 0 => none
  | m + 1 => (slices_IndexFunc_nf.b0 N K0 ((slices_IndexFunc_nf.l0 N K0 out0 m)) out0)

noncomputable def slices_IndexFunc_nf.s {ρ : Type} (N : Nat) (K0 : Int → Option ρ) (lp0 : Option ρ) : Option ρ :=
  lp0

noncomputable def slices_IndexFunc_nf {ρ : Type} (N : Nat) (K0 : Int → Option ρ) (g0 : Nat → Int) (g1 : Nat → Int) : Option ρ :=
  (slices_IndexFunc_nf.s N K0 ((slices_IndexFunc_nf.l0 N K0 (slices_IndexFunc_nf.a0_0 N K0) N)))

noncomputable def slices_ContainsFunc_nf {ρ : Type} (N : Nat) (K0 : Bool → Option ρ) (g0 : Nat → Int) (g1 : Nat → Int) : Option ρ :=
  (slices_IndexFunc_nf N (fun r2 => (K0 ((decide (r2 ≥ 0))))) g0 g1)

noncomputable def impl_Coalgebra_has_n {ρ : Type} (N : Nat) (K0 : Bool → Option ρ) (g0 : Nat → Int) (g1 : Nat → Int) : Option ρ :=
  (slices_ContainsFunc_nf N (fun r2 => (K0 ((!r2)))) g0 g1)

noncomputable def impl_Coalgebra_code_n {ρ : Type} (N : Nat) (K0 : Int → Option ρ) (g0 : Nat → Int) (g1 : Nat → Int) : Option ρ :=
  (impl_IsCoalgebra N (fun r2 => (if r2 = true then (impl_Coalgebra_has_n N (fun r3 => (impl_unless N (fun r4 => (K0 r4)) (r3) 1)) g0 g1) else (impl_unless N (fun r5 => (K0 r5)) false 1))) g0 g1)

noncomputable def impl_transposed.b1 {ρ : Type} (N : Nat) (K0 : (Nat → Int) → Option ρ) (rec : Int → (Nat → Int) → Option ρ) (out0 : (Nat → Int) → Option ρ) (g0 : Nat → Int) (x1 : Int) (x3 : Int) (g4 : Nat → Int) : Option ρ :=
  (if (decide (x3 < 8)) = true then (if (0 : Int) ≤ x3 ∧ x3 < 8 then (if (0 : Int) ≤ x1 ∧ x1 < 8 then (if (0 : Int) ≤ x1 ∧ x1 < 8 then (if (0 : Int) ≤ x3 ∧ x3 < 8 then (rec ((IntKind.i64.wrap (x3 + 1))) (upd g4 ((x1.toNat * 8) + (x3.toNat * 1)) (g0 ((x3.toNat * 8) + (x1.toNat * 1))))) else none) else none) else none) else none) else (out0 g4))

noncomputable def impl_transposed.a1_0 {ρ : Type} (N : Nat) (K0 : (Nat → Int) → Option ρ) (rec : Int → (Nat → Int) → Option ρ) (out0 : (Nat → Int) → Option ρ) (x1 : Int) (o5 : Nat → Int) : Option ρ :=
  (rec ((IntKind.i64.wrap (x1 + 1))) o5)

noncomputable def impl_transposed.b0 {ρ : Type} (N : Nat) (K0 : (Nat → Int) → Option ρ) (lp1 : Int → (Nat → Int) → Option ρ) (rec : Int → (Nat → Int) → Option ρ) (out0 : (Nat → Int) → Option ρ) (x1 : Int) (g2 : Nat → Int) : Option ρ :=
  (if (decide (x1 < 8)) = true then (lp1 0 g2) else (out0 g2))

noncomputable def impl_transposed.a0_0 {ρ : Type} (N : Nat) (K0 : (Nat → Int) → Option ρ) (o6 : Nat → Int) : Option ρ :=
  (K0 o6)

noncomputable def impl_transposed.l1 {ρ : Type} (N : Nat) (K0 : (Nat → Int) → Option ρ) (g0 : Nat → Int) (x1 : Int) (out0 : (Nat → Int) → Option ρ) : Nat → Int → (Nat → Int) → Option ρ
  | 0, _, _ => none
  | m + 1, x3, g4 => (impl_transposed.b1 N K0 ((impl_transposed.l1 N K0 g0 x1 out0 m)) out0 g0 x1 x3 g4)

noncomputable def impl_transposed.l0 {ρ : Type} (N : Nat) (K0 : (Nat → Int) → Option ρ) (g0 : Nat → Int) (out0 : (Nat → Int) → Option ρ) : Nat → Int → (Nat → Int) → Option ρ
  | 0, _, _ => none
  | m + 1, x1, g2 => (impl_transposed.b0 N K0 (fun x3 g4 => (impl_transposed.l1 N K0 g0 x1 (fun o5 => (impl_transposed.a1_0 N K0 (impl_transposed.l0 N K0 g0 out0 m) out0 x1 o5)) N x3 g4)) ((impl_transposed.l0 N K0 g0 out0 m)) out0 x1 g2)

noncomputable def impl_transposed.s {ρ : Type} (N : Nat) (K0 : (Nat → Int) → Option ρ) (lp0 : Int → (Nat → Int) → Option ρ) : Option ρ :=
  (lp0 0 (fun _ => 0))

noncomputable def impl_transposed {ρ : Type} (N : Nat) (K0 : (Nat → Int) → Option ρ) (g0 : Nat → Int) : Option ρ :=
  (impl_transposed.s N K0 (fun x1 g2 => (impl_transposed.l0 N K0 g0 (fun o6 => (impl_transposed.a0_0 N K0 o6)) N x1 g2)))

noncomputable def impl_IsCocommutative.b0 {ρ : Type} (N : Nat) (K0 : Bool → Int → Option ρ) (rec : Int → Option ρ) (out0 : Option ρ) (c1 : Nat → Int) (x3 : Int) : Option ρ :=
  (if (decide (x3 < 8)) = true then (if (0 : Int) ≤ x3 ∧ x3 < 8 then (impl_transposed N (fun r4 => (if (0 : Int) ≤ x3 ∧ x3 < 8 then (if (!eqN 64 r4 (fun z => (c1 ((8 + (x3.toNat * 64)) + z)))) = true then (K0 false 0) else (rec ((IntKind.i64.wrap (x3 + 1))))) else none)) (fun z => (c1 ((8 + (x3.toNat * 64)) + z)))) else none) else out0)

noncomputable def impl_IsCocommutative.a0_0 {ρ : Type} (N : Nat) (K0 : Bool → Int → Option ρ) : Option ρ :=
  (K0 true 0)

noncomputable def impl_IsCocommutative.l0 {ρ : Type} (N : Nat) (K0 : Bool → Int → Option ρ) (c1 : Nat → Int) (out0 : Option ρ) : Nat → Int → Option ρ
  | 0, _ => none
  | m + 1, x3 => (impl_IsCocommutative.b0 N K0 ((impl_IsCocommutative.l0 N K0 c1 out0 m)) out0 c1 x3)

noncomputable def impl_IsCocommutative.s {ρ : Type} (N : Nat) (K0 : Bool → Int → Option ρ) (lp0 : Int → Option ρ) (c0 : Nat → Int) (c1 : Nat → Int) : Option ρ :=
  (impl_Coalgebra_code_n N (fun r2 => (if (r2 != 0) = true then (K0 false r2) else (lp0 0))) c0 c1)

noncomputable def impl_IsCocommutative {ρ : Type} (N : Nat) (K0 : Bool → Int → Option ρ) (c0 : Nat → Int) (c1 : Nat → Int) : Option ρ :=
  (impl_IsCocommutative.s N K0 (fun x3 => (impl_IsCocommutative.l0 N K0 c1 (impl_IsCocommutative.a0_0 N K0) N x3)) c0 c1)

noncomputable def laws_FnExactIsCocommutative {ρ : Type} (N : Nat) (K0 : Bool → Option ρ) (aC0 : Nat → Int) (aC1 : Nat → Int) : Option ρ :=
  (laws_toCoalgebra N (fun r2 r3 => (spec_IsCocommutative N (fun r4 r5 => (laws_toCoalgebra N (fun r6 r7 => (impl_IsCocommutative N (fun r8 r9 => (if (!(r8 == r4)) = true then (K0 false) else (if (r9 != r5) = true then (K0 false) else (K0 true)))) r6 r7)) aC0 aC1)) r2 r3)) aC0 aC1)

noncomputable def spec_l02Coproduct.b1 {ρ : Type} (N : Nat) (K0 : (Nat → Int) → Option ρ) (rec : Int → (Nat → Int) → Option ρ) (out0 : (Nat → Int) → Option ρ) (c0 : Nat → Int) (c1 : Nat → Int) (v2 : Nat → Int) (i3 : Int) (j5 : Int) (g6 : Nat → Int) : Option ρ :=
  (if (decide (j5 < (c0 1))) = true then (if (0 : Int) ≤ j5 ∧ j5 < 8 then (if (0 : Int) ≤ i3 ∧ i3 < 8 then (if (0 : Int) ≤ j5 ∧ j5 < 8 then (if (0 : Int) ≤ i3 ∧ i3 < 8 then (spec_l01Add N (fun r7 => (if (0 : Int) ≤ j5 ∧ j5 < 8 then (rec ((IntKind.i64.wrap (j5 + 1))) (updN g6 (j5.toNat * 8) 8 r7)) else none)) ((c0 0)) (fun z => (g6 ((j5.toNat * 8) + z))) (fun z => (c1 (((8 + (i3.toNat * 64)) + (j5.toNat * 8)) + z))) ((IntKind.i64.wrap (v2 (i3.toNat * 1))))) else none) else none) else none) else none) else (out0 g6))

noncomputable def spec_l02Coproduct.a1_0 {ρ : Type} (N : Nat) (K0 : (Nat → Int) → Option ρ) (rec : Int → (Nat → Int) → Option ρ) (out0 : (Nat → Int) → Option ρ) (i3 : Int) (o8 : Nat → Int) : Option ρ :=
  (rec ((IntKind.i64.wrap (i3 + 1))) o8)

noncomputable def spec_l02Coproduct.b0 {ρ : Type} (N : Nat) (K0 : (Nat → Int) → Option ρ) (lp1 : Int → (Nat → Int) → Option ρ) (rec : Int → (Nat → Int) → Option ρ) (out0 : (Nat → Int) → Option ρ) (c0 : Nat → Int) (i3 : Int) (g4 : Nat → Int) : Option ρ :=
  (if (decide (i3 < (c0 1))) = true then (lp1 0 g4) else (out0 g4))

noncomputable def spec_l02Coproduct.a0_0 {ρ : Type} (N : Nat) (K0 : (Nat → Int) → Option ρ) (o9 : Nat → Int) : Option ρ :=
  (K0 o9)

noncomputable def spec_l02Coproduct.l1 {ρ : Type} (N : Nat) (K0 : (Nat → Int) → Option ρ) (c0 : Nat → Int) (c1 : Nat → Int) (v2 : Nat → Int) (i3 : Int) (out0 : (Nat → Int) → Option ρ) : Nat → Int → (Nat → Int) → Option ρ
  | 0, _, _ => none
  | m + 1, j5, g6 => (spec_l02Coproduct.b1 N K0 ((spec_l02Coproduct.l1 N K0 c0 c1 v2 i3 out0 m)) out0 c0 c1 v2 i3 j5 g6)

noncomputable def spec_l02Coproduct.l0 {ρ : Type} (N : Nat) (K0 : (Nat → Int) → Option ρ) (c0 : Nat → Int) (c1 : Nat → Int) (v2 : Nat → Int) (out0 : (Nat → Int) → Option ρ) : Nat → Int → (Nat → Int) → Option ρ
  | 0, _, _ => none
  | m + 1, i3, g4 => (spec_l02Coproduct.b0 N K0 (fun j5 g6 => (spec_l02Coproduct.l1 N K0 c0 c1 v2 i3 (fun o8 => (spec_l02Coproduct.a1_0 N K0 (spec_l02Coproduct.l0 N K0 c0 c1 v2 out0 m) out0 i3 o8)) N j5 g6)) ((spec_l02Coproduct.l0 N K0 c0 c1 v2 out0 m)) out0 c0 i3 g4)

noncomputable def spec_l02Coproduct.s {ρ : Type} (N : Nat) (K0 : (Nat → Int) → Option ρ) (lp0 : Int → (Nat → Int) → Option ρ) : Option ρ :=
  (lp0 0 (fun _ => 0))

noncomputable def spec_l02Coproduct {ρ : Type} (N : Nat) (K0 : (Nat → Int) → Option ρ) (c0 : Nat → Int) (c1 : Nat → Int) (v2 : Nat → Int) : Option ρ :=
  (spec_l02Coproduct.s N K0 (fun i3 g4 => (spec_l02Coproduct.l0 N K0 c0 c1 v2 (fun o9 => (spec_l02Coproduct.a0_0 N K0 o9)) N i3 g4)))

noncomputable def spec_CoproductIn {ρ : Type} (N : Nat) (K0 : (Nat → Int) → Int → Option ρ) (c0 : Nat → Int) (c1 : Nat → Int) (v2 : Nat → Int) : Option ρ :=
  (spec_l02Code_s8 N (fun r3 => (if (r3 != 0) = true then (K0 (fun _ => 0) r3) else (spec_l02Coproduct N (fun r4 => (K0 r4 0)) c0 c1 v2))) c0 c1 1 1 (fun z => (v2 (0 + z))))

noncomputable def impl_Coalgebra_coproduct.b1 {ρ : Type} (N : Nat) (K0 : (Nat → Int) → Option ρ) (rec : Int → (Nat → Int) → Option ρ) (out0 : (Nat → Int) → Option ρ) (v0 : Nat → Int) (g2 : Nat → Int) (r3 : Nat → Int) (x4 : Int) (x6 : Int) (g7 : Nat → Int) : Option ρ :=
  (if (decide (x6 < (r3 1))) = true then (if (0 : Int) ≤ x6 ∧ x6 < 8 then (if (0 : Int) ≤ x4 ∧ x4 < 8 then (if (0 : Int) ≤ x6 ∧ x6 < 8 then (impl_field_plus N (fun r8 => (rec ((IntKind.i64.wrap (x6 + 1))) (updN g7 (x6.toNat * 8) 8 r8))) r3 ((IntKind.i64.wrap (v0 x4.toNat))) (fun z => (g2 (((8 + (x4.toNat * 64)) + (x6.toNat * 8)) + z))) (fun z => (g7 ((x6.toNat * 8) + z)))) else none) else none) else none) else (out0 g7))

noncomputable def impl_Coalgebra_coproduct.a1_0 {ρ : Type} (N : Nat) (K0 : (Nat → Int) → Option ρ) (rec : Int → (Nat → Int) → Option ρ) (out0 : (Nat → Int) → Option ρ) (x4 : Int) (o9 : Nat → Int) : Option ρ :=
  (rec ((IntKind.i64.wrap (x4 + 1))) o9)

noncomputable def impl_Coalgebra_coproduct.b0 {ρ : Type} (N : Nat) (K0 : (Nat → Int) → Option ρ) (lp1 : Int → (Nat → Int) → Option ρ) (rec : Int → (Nat → Int) → Option ρ) (out0 : (Nat → Int) → Option ρ) (x4 : Int) (g5 : Nat → Int) : Option ρ :=
  (if (decide (x4 < 8)) = true then (if (0 : Int) ≤ x4 ∧ x4 < 8 then (lp1 0 g5) else none) else (out0 g5))

noncomputable def impl_Coalgebra_coproduct.a0_0 {ρ : Type} (N : Nat) (K0 : (Nat → Int) → Option ρ) (o10 : Nat → Int) : Option ρ :=
  (K0 o10)

noncomputable def impl_Coalgebra_coproduct.l1 {ρ : Type} (N : Nat) (K0 : (Nat → Int) → Option ρ) (v0 : Nat → Int) (g2 : Nat → Int) (r3 : Nat → Int) (x4 : Int) (out0 : (Nat → Int) → Option ρ) : Nat → Int → (Nat → Int) → Option ρ
  | 0, _, _ => none
  | m + 1, x6, g7 => (impl_Coalgebra_coproduct.b1 N K0 ((impl_Coalgebra_coproduct.l1 N K0 v0 g2 r3 x4 out0 m)) out0 v0 g2 r3 x4 x6 g7)

noncomputable def impl_Coalgebra_coproduct.l0 {ρ : Type} (N : Nat) (K0 : (Nat → Int) → Option ρ) (v0 : Nat → Int) (g2 : Nat → Int) (r3 : Nat → Int) (out0 : (Nat → Int) → Option ρ) : Nat → Int → (Nat → Int) → Option ρ
  | 0, _, _ => none
  | m + 1, x4, g5 => (impl_Coalgebra_coproduct.b0 N K0 (fun x6 g7 => (impl_Coalgebra_coproduct.l1 N K0 v0 g2 r3 x4 (fun o9 => (impl_Coalgebra_coproduct.a1_0 N K0 (impl_Coalgebra_coproduct.l0 N K0 v0 g2 r3 out0 m) out0 x4 o9)) N x6 g7)) ((impl_Coalgebra_coproduct.l0 N K0 v0 g2 r3 out0 m)) out0 x4 g5)

noncomputable def impl_Coalgebra_coproduct.s {ρ : Type} (N : Nat) (K0 : (Nat → Int) → Option ρ) (lp0 : (Nat → Int) → Int → (Nat → Int) → Option ρ) (g1 : Nat → Int) (g2 : Nat → Int) : Option ρ :=
  (impl_Coalgebra_field N (fun r3 => (lp0 r3 0 (fun _ => 0))) g1 g2)

noncomputable def impl_Coalgebra_coproduct {ρ : Type} (N : Nat) (K0 : (Nat → Int) → Option ρ) (v0 : Nat → Int) (g1 : Nat → Int) (g2 : Nat → Int) : Option ρ :=
  (impl_Coalgebra_coproduct.s N K0 (fun r3 x4 g5 => (impl_Coalgebra_coproduct.l0 N K0 v0 g2 r3 (fun o10 => (impl_Coalgebra_coproduct.a0_0 N K0 o10)) N x4 g5)) g1 g2)

noncomputable def impl_CoproductIn {ρ : Type} (N : Nat) (K0 : (Nat → Int) → Int → Option ρ) (c0 : Nat → Int) (c1 : Nat → Int) (v2 : Nat → Int) : Option ρ :=
  (impl_Coalgebra_code_s8 N (fun r3 => (if (r3 != 0) = true then (K0 (fun _ => 0) r3) else (impl_Coalgebra_coproduct N (fun r4 => (K0 r4 0)) v2 c0 c1))) 1 1 c0 c1 (fun z => (v2 (0 + z))))

noncomputable def laws_eqVector.b0 {ρ : Type} (N : Nat) (K0 : Bool → Option ρ) (rec : Int → Option ρ) (out0 : Option ρ) (a0 : Nat → Int) (b1 : Nat → Int) (i2 : Int) : Option ρ :=
  (if (decide (i2 < 8)) = true then (if (0 : Int) ≤ i2 ∧ i2 < 8 then (if (0 : Int) ≤ i2 ∧ i2 < 8 then (if ((a0 (i2.toNat * 1)) != (b1 (i2.toNat * 1))) = true then (K0 false) else (rec ((IntKind.i64.wrap (i2 + 1))))) else none) else none) else out0)

noncomputable def laws_eqVector.a0_0 {ρ : Type} (N : Nat) (K0 : Bool → Option ρ) : Option ρ :=
  (K0 true)

noncomputable def laws_eqVector.l0 {ρ : Type} (N : Nat) (K0 : Bool → Option ρ) (a0 : Nat → Int) (b1 : Nat → Int) (out0 : Option ρ) : Nat → Int → Option ρ
  | 0, _ => none
  | m + 1, i2 => (laws_eqVector.b0 N K0 ((laws_eqVector.l0 N K0 a0 b1 out0 m)) out0 a0 b1 i2)

noncomputable def laws_eqVector.s {ρ : Type} (N : Nat) (K0 : Bool → Option ρ) (lp0 : Int → Option ρ) : Option ρ :=
  (lp0 0)

noncomputable def laws_eqVector {ρ : Type} (N : Nat) (K0 : Bool → Option ρ) (a0 : Nat → Int) (b1 : Nat → Int) : Option ρ :=
  (laws_eqVector.s N K0 (fun i2 => (laws_eqVector.l0 N K0 a0 b1 (laws_eqVector.a0_0 N K0) N i2)))

noncomputable def laws_eqLinear.b0 {ρ : Type} (N : Nat) (K0 : Bool → Option ρ) (rec : Int → Option ρ) (out0 : Option ρ) (a0 : Nat → Int) (b1 : Nat → Int) (i2 : Int) : Option ρ :=
  (if (decide (i2 < 8)) = true then (if (0 : Int) ≤ i2 ∧ i2 < 8 then (if (0 : Int) ≤ i2 ∧ i2 < 8 then (laws_eqVector N (fun r3 => (if (!r3) = true then (K0 false) else (rec ((IntKind.i64.wrap (i2 + 1)))))) (fun z => (a0 ((i2.toNat * 8) + z))) (fun z => (b1 ((i2.toNat * 8) + z)))) else none) else none) else out0)

noncomputable def laws_eqLinear.a0_0 {ρ : Type} (N : Nat) (K0 : Bool → Option ρ) : Option ρ :=
  (K0 true)

noncomputable def laws_eqLinear.l0 {ρ : Type} (N : Nat) (K0 : Bool → Option ρ) (a0 : Nat → Int) (b1 : Nat → Int) (out0 : Option ρ) : Nat → Int → Option ρ
  | 0, _ => none
  | m + 1, i2 => (laws_eqLinear.b0 N K0 ((laws_eqLinear.l0 N K0 a0 b1 out0 m)) out0 a0 b1 i2)

noncomputable def laws_eqLinear.s {ρ : Type} (N : Nat) (K0 : Bool → Option ρ) (lp0 : Int → Option ρ) : Option ρ :=
  (lp0 0)

noncomputable def laws_eqLinear {ρ : Type} (N : Nat) (K0 : Bool → Option ρ) (a0 : Nat → Int) (b1 : Nat → Int) : Option ρ :=
  (laws_eqLinear.s N K0 (fun i2 => (laws_eqLinear.l0 N K0 a0 b1 (laws_eqLinear.a0_0 N K0) N i2)))

noncomputable def laws_FnExactCoproductIn {ρ : Type} (N : Nat) (K0 : Bool → Option ρ) (aC0 : Nat → Int) (aC1 : Nat → Int) (aV2 : Nat → Int) : Option ρ :=
  (laws_toCoalgebra N (fun r3 r4 => (laws_toVector N (fun r5 => (spec_CoproductIn N (fun r6 r7 => (laws_toCoalgebra N (fun r8 r9 => (laws_toVector N (fun r10 => (impl_CoproductIn N (fun r11 r12 => (laws_eqLinear N (fun r13 => (if (!r13) = true then (K0 false) else (if (r12 != r7) = true then (K0 false) else (K0 true)))) r11 r6)) r8 r9 r10)) aV2)) aC0 aC1)) r3 r4 r5)) aV2)) aC0 aC1)

noncomputable def spec_l02Turned.b2 {ρ : Type} (N : Nat) (K0 : (Nat → Int) → Option ρ) (rec : Int → (Nat → Int) → Option ρ) (out0 : (Nat → Int) → Option ρ) (t0 : Nat → Int) (i1 : Int) (j3 : Int) (k5 : Int) (g6 : Nat → Int) : Option ρ :=
  (if (decide (k5 < 8)) = true then (if (0 : Int) ≤ i1 ∧ i1 < 8 then (if (0 : Int) ≤ j3 ∧ j3 < 8 then (if (0 : Int) ≤ k5 ∧ k5 < 8 then (if (0 : Int) ≤ j3 ∧ j3 < 8 then (if (0 : Int) ≤ k5 ∧ k5 < 8 then (if (0 : Int) ≤ i1 ∧ i1 < 8 then (rec ((IntKind.i64.wrap (k5 + 1))) (upd g6 (((j3.toNat * 64) + (k5.toNat * 8)) + (i1.toNat * 1)) (t0 (((i1.toNat * 64) + (j3.toNat * 8)) + (k5.toNat * 1))))) else none) else none) else none) else none) else none) else none) else (out0 g6))

noncomputable def spec_l02Turned.a2_0 {ρ : Type} (N : Nat) (K0 : (Nat → Int) → Option ρ) (rec : Int → (Nat → Int) → Option ρ) (out0 : (Nat → Int) → Option ρ) (j3 : Int) (o7 : Nat → Int) : Option ρ :=
  (rec ((IntKind.i64.wrap (j3 + 1))) o7)

noncomputable def spec_l02Turned.b1 {ρ : Type} (N : Nat) (K0 : (Nat → Int) → Option ρ) (lp2 : Int → (Nat → Int) → Option ρ) (rec : Int → (Nat → Int) → Option ρ) (out0 : (Nat → Int) → Option ρ) (j3 : Int) (g4 : Nat → Int) : Option ρ :=
  (if (decide (j3 < 8)) = true then (lp2 0 g4) else (out0 g4))

noncomputable def spec_l02Turned.a1_0 {ρ : Type} (N : Nat) (K0 : (Nat → Int) → Option ρ) (rec : Int → (Nat → Int) → Option ρ) (out0 : (Nat → Int) → Option ρ) (i1 : Int) (o8 : Nat → Int) : Option ρ :=
  (rec ((IntKind.i64.wrap (i1 + 1))) o8)

noncomputable def spec_l02Turned.b0 {ρ : Type} (N : Nat) (K0 : (Nat → Int) → Option ρ) (lp1 : Int → (Nat → Int) → Option ρ) (rec : Int → (Nat → Int) → Option ρ) (out0 : (Nat → Int) → Option ρ) (i1 : Int) (g2 : Nat → Int) : Option ρ :=
  (if (decide (i1 < 8)) = true then (lp1 0 g2) else (out0 g2))

noncomputable def spec_l02Turned.a0_0 {ρ : Type} (N : Nat) (K0 : (Nat → Int) → Option ρ) (o9 : Nat → Int) : Option ρ :=
  (K0 o9)

noncomputable def spec_l02Turned.l2 {ρ : Type} (N : Nat) (K0 : (Nat → Int) → Option ρ) (t0 : Nat → Int) (i1 : Int) (j3 : Int) (out0 : (Nat → Int) → Option ρ) : Nat → Int → (Nat → Int) → Option ρ
  | 0, _, _ => none
  | m + 1, k5, g6 => (spec_l02Turned.b2 N K0 ((spec_l02Turned.l2 N K0 t0 i1 j3 out0 m)) out0 t0 i1 j3 k5 g6)

noncomputable def spec_l02Turned.l1 {ρ : Type} (N : Nat) (K0 : (Nat → Int) → Option ρ) (t0 : Nat → Int) (i1 : Int) (out0 : (Nat → Int) → Option ρ) : Nat → Int → (Nat → Int) → Option ρ
  | 0, _, _ => none
  | m + 1, j3, g4 => (spec_l02Turned.b1 N K0 (fun k5 g6 => (spec_l02Turned.l2 N K0 t0 i1 j3 (fun o7 => (spec_l02Turned.a2_0 N K0 (spec_l02Turned.l1 N K0 t0 i1 out0 m) out0 j3 o7)) N k5 g6)) ((spec_l02Turned.l1 N K0 t0 i1 out0 m)) out0 j3 g4)

noncomputable def spec_l02Turned.l0 {ρ : Type} (N : Nat) (K0 : (Nat → Int) → Option ρ) (t0 : Nat → Int) (out0 : (Nat → Int) → Option ρ) : Nat → Int → (Nat → Int) → Option ρ
  | 0, _, _ => none
  | m + 1, i1, g2 => (spec_l02Turned.b0 N K0 (fun j3 g4 => (spec_l02Turned.l1 N K0 t0 i1 (fun o8 => (spec_l02Turned.a1_0 N K0 (spec_l02Turned.l0 N K0 t0 out0 m) out0 i1 o8)) N j3 g4)) ((spec_l02Turned.l0 N K0 t0 out0 m)) out0 i1 g2)

noncomputable def spec_l02Turned.s {ρ : Type} (N : Nat) (K0 : (Nat → Int) → Option ρ) (lp0 : Int → (Nat → Int) → Option ρ) : Option ρ :=
  (lp0 0 (fun _ => 0))

noncomputable def spec_l02Turned {ρ : Type} (N : Nat) (K0 : (Nat → Int) → Option ρ) (t0 : Nat → Int) : Option ρ :=
  (spec_l02Turned.s N K0 (fun i1 g2 => (spec_l02Turned.l0 N K0 t0 (fun o9 => (spec_l02Turned.a0_0 N K0 o9)) N i1 g2)))

noncomputable def spec_DualAlgebra {ρ : Type} (N : Nat) (K0 : (Nat → Int) → (Nat → Int) → Int → Option ρ) (c0 : Nat → Int) (c1 : Nat → Int) : Option ρ :=
  (spec_l02Is N (fun r2 => (if (!r2) = true then (K0 (fun _ => 0) (fun _ => 0) 1) else (spec_l02Turned N (fun r3 => (K0 (upd (upd (fun _ => 0) 0 (c0 0)) 1 (c0 1)) (updN (updN (fun _ => 0) 0 8 (fun z => (c1 (0 + z)))) 8 512 r3) 0)) (fun z => (c1 (8 + z)))))) c0 c1)

noncomputable def impl_dualBack.b2 {ρ : Type} (N : Nat) (K0 : (Nat → Int) → Option ρ) (rec : Int → (Nat → Int) → Option ρ) (out0 : (Nat → Int) → Option ρ) (g0 : Nat → Int) (x1 : Int) (x3 : Int) (x5 : Int) (g6 : Nat → Int) : Option ρ :=
  (if (decide (x5 < 8)) = true then (if (0 : Int) ≤ x1 ∧ x1 < 8 then (if (0 : Int) ≤ x3 ∧ x3 < 8 then (if (0 : Int) ≤ x5 ∧ x5 < 8 then (if (0 : Int) ≤ x3 ∧ x3 < 8 then (if (0 : Int) ≤ x5 ∧ x5 < 8 then (if (0 : Int) ≤ x1 ∧ x1 < 8 then (rec ((IntKind.i64.wrap (x5 + 1))) (upd g6 (((x3.toNat * 64) + (x5.toNat * 8)) + (x1.toNat * 1)) (g0 (((x1.toNat * 64) + (x3.toNat * 8)) + (x5.toNat * 1))))) else none) else none) else none) else none) else none) else none) else (out0 g6))

noncomputable def impl_dualBack.a2_0 {ρ : Type} (N : Nat) (K0 : (Nat → Int) → Option ρ) (rec : Int → (Nat → Int) → Option ρ) (out0 : (Nat → Int) → Option ρ) (x3 : Int) (o7 : Nat → Int) : Option ρ :=
  (rec ((IntKind.i64.wrap (x3 + 1))) o7)

noncomputable def impl_dualBack.b1 {ρ : Type} (N : Nat) (K0 : (Nat → Int) → Option ρ) (lp2 : Int → (Nat → Int) → Option ρ) (rec : Int → (Nat → Int) → Option ρ) (out0 : (Nat → Int) → Option ρ) (x3 : Int) (g4 : Nat → Int) : Option ρ :=
  (if (decide (x3 < 8)) = true then (lp2 0 g4) else (out0 g4))

noncomputable def impl_dualBack.a1_0 {ρ : Type} (N : Nat) (K0 : (Nat → Int) → Option ρ) (rec : Int → (Nat → Int) → Option ρ) (out0 : (Nat → Int) → Option ρ) (x1 : Int) (o8 : Nat → Int) : Option ρ :=
  (rec ((IntKind.i64.wrap (x1 + 1))) o8)

noncomputable def impl_dualBack.b0 {ρ : Type} (N : Nat) (K0 : (Nat → Int) → Option ρ) (lp1 : Int → (Nat → Int) → Option ρ) (rec : Int → (Nat → Int) → Option ρ) (out0 : (Nat → Int) → Option ρ) (x1 : Int) (g2 : Nat → Int) : Option ρ :=
  (if (decide (x1 < 8)) = true then (lp1 0 g2) else (out0 g2))

noncomputable def impl_dualBack.a0_0 {ρ : Type} (N : Nat) (K0 : (Nat → Int) → Option ρ) (o9 : Nat → Int) : Option ρ :=
  (K0 o9)

noncomputable def impl_dualBack.l2 {ρ : Type} (N : Nat) (K0 : (Nat → Int) → Option ρ) (g0 : Nat → Int) (x1 : Int) (x3 : Int) (out0 : (Nat → Int) → Option ρ) : Nat → Int → (Nat → Int) → Option ρ
  | 0, _, _ => none
  | m + 1, x5, g6 => (impl_dualBack.b2 N K0 ((impl_dualBack.l2 N K0 g0 x1 x3 out0 m)) out0 g0 x1 x3 x5 g6)

noncomputable def impl_dualBack.l1 {ρ : Type} (N : Nat) (K0 : (Nat → Int) → Option ρ) (g0 : Nat → Int) (x1 : Int) (out0 : (Nat → Int) → Option ρ) : Nat → Int → (Nat → Int) → Option ρ
  | 0, _, _ => none
  | m + 1, x3, g4 => (impl_dualBack.b1 N K0 (fun x5 g6 => (impl_dualBack.l2 N K0 g0 x1 x3 (fun o7 => (impl_dualBack.a2_0 N K0 (impl_dualBack.l1 N K0 g0 x1 out0 m) out0 x3 o7)) N x5 g6)) ((impl_dualBack.l1 N K0 g0 x1 out0 m)) out0 x3 g4)

noncomputable def impl_dualBack.l0 {ρ : Type} (N : Nat) (K0 : (Nat → Int) → Option ρ) (g0 : Nat → Int) (out0 : (Nat → Int) → Option ρ) : Nat → Int → (Nat → Int) → Option ρ
  | 0, _, _ => none
  | m + 1, x1, g2 => (impl_dualBack.b0 N K0 (fun x3 g4 => (impl_dualBack.l1 N K0 g0 x1 (fun o8 => (impl_dualBack.a1_0 N K0 (impl_dualBack.l0 N K0 g0 out0 m) out0 x1 o8)) N x3 g4)) ((impl_dualBack.l0 N K0 g0 out0 m)) out0 x1 g2)

noncomputable def impl_dualBack.s {ρ : Type} (N : Nat) (K0 : (Nat → Int) → Option ρ) (lp0 : Int → (Nat → Int) → Option ρ) : Option ρ :=
  (lp0 0 (fun _ => 0))

noncomputable def impl_dualBack {ρ : Type} (N : Nat) (K0 : (Nat → Int) → Option ρ) (g0 : Nat → Int) : Option ρ :=
  (impl_dualBack.s N K0 (fun x1 g2 => (impl_dualBack.l0 N K0 g0 (fun o9 => (impl_dualBack.a0_0 N K0 o9)) N x1 g2)))

noncomputable def impl_DualAlgebra {ρ : Type} (N : Nat) (K0 : (Nat → Int) → (Nat → Int) → Int → Option ρ) (c0 : Nat → Int) (c1 : Nat → Int) : Option ρ :=
  (impl_Coalgebra_code_n N (fun r2 => (if (r2 != 0) = true then (K0 (fun _ => 0) (fun _ => 0) r2) else (impl_dualBack N (fun r3 => (K0 (upd (upd (fun _ => 0) 0 (c0 0)) 1 (c0 1)) (updN (updN (fun _ => 0) 0 8 (fun z => (c1 (0 + z)))) 8 512 r3) 0)) (fun z => (c1 (8 + z)))))) c0 c1)

noncomputable def laws_eqTable.b0 {ρ : Type} (N : Nat) (K0 : Bool → Option ρ) (rec : Int → Option ρ) (out0 : Option ρ) (a0 : Nat → Int) (b1 : Nat → Int) (i2 : Int) : Option ρ :=
  (if (decide (i2 < 8)) = true then (if (0 : Int) ≤ i2 ∧ i2 < 8 then (if (0 : Int) ≤ i2 ∧ i2 < 8 then (laws_eqLinear N (fun r3 => (if (!r3) = true then (K0 false) else (rec ((IntKind.i64.wrap (i2 + 1)))))) (fun z => (a0 ((i2.toNat * 64) + z))) (fun z => (b1 ((i2.toNat * 64) + z)))) else none) else none) else out0)

noncomputable def laws_eqTable.a0_0 {ρ : Type} (N : Nat) (K0 : Bool → Option ρ) : Option ρ :=
  (K0 true)

noncomputable def laws_eqTable.l0 {ρ : Type} (N : Nat) (K0 : Bool → Option ρ) (a0 : Nat → Int) (b1 : Nat → Int) (out0 : Option ρ) : Nat → Int → Option ρ
  | 0, _ => none
  | m + 1, i2 => (laws_eqTable.b0 N K0 ((laws_eqTable.l0 N K0 a0 b1 out0 m)) out0 a0 b1 i2)

noncomputable def laws_eqTable.s {ρ : Type} (N : Nat) (K0 : Bool → Option ρ) (lp0 : Int → Option ρ) : Option ρ :=
  (lp0 0)

noncomputable def laws_eqTable {ρ : Type} (N : Nat) (K0 : Bool → Option ρ) (a0 : Nat → Int) (b1 : Nat → Int) : Option ρ :=
  (laws_eqTable.s N K0 (fun i2 => (laws_eqTable.l0 N K0 a0 b1 (laws_eqTable.a0_0 N K0) N i2)))

noncomputable def laws_eqAlgebra {ρ : Type} (N : Nat) (K0 : Bool → Option ρ) (a0 : Nat → Int) (a1 : Nat → Int) (b2 : Nat → Int) (b3 : Nat → Int) : Option ρ :=
  (if ((a0 0) != (b2 0)) = true then (K0 false) else (if ((a0 1) != (b2 1)) = true then (K0 false) else (laws_eqVector N (fun r4 => (if (!r4) = true then (K0 false) else (laws_eqTable N (fun r5 => (if (!r5) = true then (K0 false) else (K0 true))) (fun z => (a1 (8 + z))) (fun z => (b3 (8 + z)))))) (fun z => (a1 (0 + z))) (fun z => (b3 (0 + z))))))

noncomputable def laws_FnExactDualAlgebra {ρ : Type} (N : Nat) (K0 : Bool → Option ρ) (aC0 : Nat → Int) (aC1 : Nat → Int) : Option ρ :=
  (laws_toCoalgebra N (fun r2 r3 => (spec_DualAlgebra N (fun r4 r5 r6 => (laws_toCoalgebra N (fun r7 r8 => (impl_DualAlgebra N (fun r9 r10 r11 => (laws_eqAlgebra N (fun r12 => (if (!r12) = true then (K0 false) else (if (r11 != r6) = true then (K0 false) else (K0 true)))) r9 r10 r4 r5)) r7 r8)) aC0 aC1)) r2 r3)) aC0 aC1)

noncomputable def spec_l02Outer.b0 {ρ : Type} (N : Nat) (K0 : (Nat → Int) → Option ρ) (rec : Int → (Nat → Int) → Option ρ) (out0 : (Nat → Int) → Option ρ) (p0 : Int) (v1 : Nat → Int) (w2 : Nat → Int) (j3 : Int) (g4 : Nat → Int) : Option ρ :=
  (if (decide (j3 < 8)) = true then (if (0 : Int) ≤ j3 ∧ j3 < 8 then (spec_l01Add N (fun r5 => (if (0 : Int) ≤ j3 ∧ j3 < 8 then (rec ((IntKind.i64.wrap (j3 + 1))) (updN g4 (j3.toNat * 8) 8 r5)) else none)) p0 (fun _ => 0) w2 ((IntKind.i64.wrap (v1 (j3.toNat * 1))))) else none) else (out0 g4))

noncomputable def spec_l02Outer.a0_0 {ρ : Type} (N : Nat) (K0 : (Nat → Int) → Option ρ) (o6 : Nat → Int) : Option ρ :=
  (K0 o6)

noncomputable def spec_l02Outer.l0 {ρ : Type} (N : Nat) (K0 : (Nat → Int) → Option ρ) (p0 : Int) (v1 : Nat → Int) (w2 : Nat → Int) (out0 : (Nat → Int) → Option ρ) : Nat → Int → (Nat → Int) → Option ρ
  | 0, _, _ => none
  | m + 1, j3, g4 => (spec_l02Outer.b0 N K0 ((spec_l02Outer.l0 N K0 p0 v1 w2 out0 m)) out0 p0 v1 w2 j3 g4)

noncomputable def spec_l02Outer.s {ρ : Type} (N : Nat) (K0 : (Nat → Int) → Option ρ) (lp0 : Int → (Nat → Int) → Option ρ) : Option ρ :=
  (lp0 0 (fun _ => 0))

noncomputable def spec_l02Outer {ρ : Type} (N : Nat) (K0 : (Nat → Int) → Option ρ) (p0 : Int) (v1 : Nat → Int) (w2 : Nat → Int) : Option ρ :=
  (spec_l02Outer.s N K0 (fun j3 g4 => (spec_l02Outer.l0 N K0 p0 v1 w2 (fun o6 => (spec_l02Outer.a0_0 N K0 o6)) N j3 g4)))

noncomputable def spec_l02Group {ρ : Type} (N : Nat) (K0 : Bool → Option ρ) (c0 : Nat → Int) (c1 : Nat → Int) (v2 : Nat → Int) : Option ρ :=
  (spec_l02Counit N (fun r3 => (if (r3 == 1) = true then (spec_l02Coproduct N (fun r4 => (spec_l02Outer N (fun r5 => (K0 ((eqN 64 r4 r5)))) ((c0 0)) v2 v2)) c0 c1 v2) else (K0 false))) c0 c1 v2)

noncomputable def spec_IsGroupLike {ρ : Type} (N : Nat) (K0 : Bool → Int → Option ρ) (c0 : Nat → Int) (c1 : Nat → Int) (v2 : Nat → Int) : Option ρ :=
  (spec_l02Code_s8 N (fun r3 => (if (r3 != 0) = true then (K0 false r3) else (spec_l02Group N (fun r4 => (K0 (r4) 0)) c0 c1 v2))) c0 c1 1 1 (fun z => (v2 (0 + z))))

noncomputable def impl_field_times {ρ : Type} (N : Nat) (K0 : (Nat → Int) → Option ρ) (f0 : Nat → Int) (k1 : Int) (w2 : Nat → Int) : Option ρ :=
  (impl_field_plus N (fun r3 => (K0 r3)) f0 k1 w2 (fun _ => 0))

noncomputable def impl_field_pair.b0 {ρ : Type} (N : Nat) (K0 : (Nat → Int) → Option ρ) (rec : Int → (Nat → Int) → Option ρ) (out0 : (Nat → Int) → Option ρ) (f0 : Nat → Int) (v1 : Nat → Int) (w2 : Nat → Int) (x3 : Int) (g4 : Nat → Int) : Option ρ :=
  (if (decide (x3 < 8)) = true then (if (0 : Int) ≤ x3 ∧ x3 < 8 then (impl_field_times N (fun r5 => (if (0 : Int) ≤ x3 ∧ x3 < 8 then (rec ((IntKind.i64.wrap (x3 + 1))) (updN g4 (x3.toNat * 8) 8 r5)) else none)) f0 ((IntKind.i64.wrap (v1 x3.toNat))) w2) else none) else (out0 g4))

noncomputable def impl_field_pair.a0_0 {ρ : Type} (N : Nat) (K0 : (Nat → Int) → Option ρ) (o6 : Nat → Int) : Option ρ :=
  (K0 o6)

noncomputable def impl_field_pair.l0 {ρ : Type} (N : Nat) (K0 : (Nat → Int) → Option ρ) (f0 : Nat → Int) (v1 : Nat → Int) (w2 : Nat → Int) (out0 : (Nat → Int) → Option ρ) : Nat → Int → (Nat → Int) → Option ρ
  | 0, _, _ => none
  | m + 1, x3, g4 => (impl_field_pair.b0 N K0 ((impl_field_pair.l0 N K0 f0 v1 w2 out0 m)) out0 f0 v1 w2 x3 g4)

noncomputable def impl_field_pair.s {ρ : Type} (N : Nat) (K0 : (Nat → Int) → Option ρ) (lp0 : Int → (Nat → Int) → Option ρ) : Option ρ :=
  (lp0 0 (fun _ => 0))

noncomputable def impl_field_pair {ρ : Type} (N : Nat) (K0 : (Nat → Int) → Option ρ) (f0 : Nat → Int) (v1 : Nat → Int) (w2 : Nat → Int) : Option ρ :=
  (impl_field_pair.s N K0 (fun x3 g4 => (impl_field_pair.l0 N K0 f0 v1 w2 (fun o6 => (impl_field_pair.a0_0 N K0 o6)) N x3 g4)))

noncomputable def impl_Coalgebra_isGroupLike {ρ : Type} (N : Nat) (K0 : Bool → Option ρ) (v0 : Nat → Int) (g1 : Nat → Int) (g2 : Nat → Int) : Option ρ :=
  (impl_Coalgebra_field N (fun r3 => (impl_field_dot N (fun r4 => (if (r4 == 1) = true then (impl_Coalgebra_coproduct N (fun r5 => (impl_field_pair N (fun r6 => (K0 ((eqN 64 r5 r6)))) r3 v0 v0)) v0 g1 g2) else (K0 false))) r3 (fun z => (g2 (0 + z))) v0)) g1 g2)

noncomputable def impl_IsGroupLike {ρ : Type} (N : Nat) (K0 : Bool → Int → Option ρ) (c0 : Nat → Int) (c1 : Nat → Int) (v2 : Nat → Int) : Option ρ :=
  (impl_Coalgebra_code_s8 N (fun r3 => (if (r3 != 0) = true then (K0 false r3) else (impl_Coalgebra_isGroupLike N (fun r4 => (K0 (r4) 0)) v2 c0 c1))) 1 1 c0 c1 (fun z => (v2 (0 + z))))

noncomputable def laws_FnExactIsGroupLike {ρ : Type} (N : Nat) (K0 : Bool → Option ρ) (aC0 : Nat → Int) (aC1 : Nat → Int) (aV2 : Nat → Int) : Option ρ :=
  (laws_toCoalgebra N (fun r3 r4 => (laws_toVector N (fun r5 => (spec_IsGroupLike N (fun r6 r7 => (laws_toCoalgebra N (fun r8 r9 => (laws_toVector N (fun r10 => (impl_IsGroupLike N (fun r11 r12 => (if (!(r11 == r6)) = true then (K0 false) else (if (r12 != r7) = true then (K0 false) else (K0 true)))) r8 r9 r10)) aV2)) aC0 aC1)) r3 r4 r5)) aV2)) aC0 aC1)

noncomputable def laws_toAlgebra {ρ : Type} (N : Nat) (K0 : (Nat → Int) → (Nat → Int) → Option ρ) (a0 : Nat → Int) (a1 : Nat → Int) : Option ρ :=
  (laws_toVector N (fun r2 => (laws_toTable N (fun r3 => (K0 (upd (upd (fun _ => 0) 0 (a0 0)) 1 (a0 1)) (updN (updN (fun _ => 0) 0 8 r2) 8 512 r3))) (fun z => (a1 (8 + z))))) (fun z => (a1 (0 + z))))

noncomputable def spec_l01Shape {ρ : Type} (N : Nat) (K0 : Bool → Option ρ) (a0 : Nat → Int) (a1 : Nat → Int) : Option ρ :=
  (spec_l01Sizes N (fun r2 => (if r2 = true then (spec_l01Vector N (fun r3 => (if r3 = true then (spec_l01Table N (fun r4 => (K0 (r4))) ((a0 0)) ((a0 1)) (fun z => (a1 (8 + z)))) else (K0 false))) ((a0 0)) ((a0 1)) (fun z => (a1 (0 + z)))) else (K0 false))) ((a0 0)) ((a0 1)))

noncomputable def spec_l01Apply.b0 {ρ : Type} (N : Nat) (K0 : (Nat → Int) → Option ρ) (rec : Int → (Nat → Int) → Option ρ) (out0 : (Nat → Int) → Option ρ) (p0 : Int) (n1 : Int) (f2 : Nat → Int) (v3 : Nat → Int) (i4 : Int) (g5 : Nat → Int) : Option ρ :=
  (if (decide (i4 < n1)) = true then (if (0 : Int) ≤ i4 ∧ i4 < 8 then (if ((v3 (i4.toNat * 1)) != 0) = true then (if (0 : Int) ≤ i4 ∧ i4 < 8 then (if (0 : Int) ≤ i4 ∧ i4 < 8 then (spec_l01Add N (fun r6 => (rec ((IntKind.i64.wrap (i4 + 1))) r6)) p0 g5 (fun z => (f2 ((i4.toNat * 8) + z))) ((IntKind.i64.wrap (v3 (i4.toNat * 1))))) else none) else none) else (rec ((IntKind.i64.wrap (i4 + 1))) g5)) else none) else (out0 g5))

noncomputable def spec_l01Apply.a0_0 {ρ : Type} (N : Nat) (K0 : (Nat → Int) → Option ρ) (o7 : Nat → Int) : Option ρ :=
  (K0 o7)

noncomputable def spec_l01Apply.l0 {ρ : Type} (N : Nat) (K0 : (Nat → Int) → Option ρ) (p0 : Int) (n1 : Int) (f2 : Nat → Int) (v3 : Nat → Int) (out0 : (Nat → Int) → Option ρ) : Nat → Int → (Nat → Int) → Option ρ
  | 0, _, _ => none
  | m + 1, i4, g5 => (spec_l01Apply.b0 N K0 ((spec_l01Apply.l0 N K0 p0 n1 f2 v3 out0 m)) out0 p0 n1 f2 v3 i4 g5)

noncomputable def spec_l01Apply.s {ρ : Type} (N : Nat) (K0 : (Nat → Int) → Option ρ) (lp0 : Int → (Nat → Int) → Option ρ) : Option ρ :=
  (lp0 0 (fun _ => 0))

noncomputable def spec_l01Apply {ρ : Type} (N : Nat) (K0 : (Nat → Int) → Option ρ) (p0 : Int) (n1 : Int) (f2 : Nat → Int) (v3 : Nat → Int) : Option ρ :=
  (spec_l01Apply.s N K0 (fun i4 g5 => (spec_l01Apply.l0 N K0 p0 n1 f2 v3 (fun o7 => (spec_l01Apply.a0_0 N K0 o7)) N i4 g5)))

noncomputable def spec_l01Times.b0 {ρ : Type} (N : Nat) (K0 : (Nat → Int) → Option ρ) (rec : Int → (Nat → Int) → Option ρ) (out0 : (Nat → Int) → Option ρ) (a0 : Nat → Int) (a1 : Nat → Int) (v2 : Nat → Int) (w3 : Nat → Int) (i4 : Int) (g5 : Nat → Int) : Option ρ :=
  (if (decide (i4 < (a0 1))) = true then (if (0 : Int) ≤ i4 ∧ i4 < 8 then (if ((v2 (i4.toNat * 1)) != 0) = true then (if (0 : Int) ≤ i4 ∧ i4 < 8 then (spec_l01Apply N (fun r6 => (if (0 : Int) ≤ i4 ∧ i4 < 8 then (spec_l01Add N (fun r7 => (rec ((IntKind.i64.wrap (i4 + 1))) r7)) ((a0 0)) g5 r6 ((IntKind.i64.wrap (v2 (i4.toNat * 1))))) else none)) ((a0 0)) ((a0 1)) (fun z => (a1 ((8 + (i4.toNat * 64)) + z))) w3) else none) else (rec ((IntKind.i64.wrap (i4 + 1))) g5)) else none) else (out0 g5))

noncomputable def spec_l01Times.a0_0 {ρ : Type} (N : Nat) (K0 : (Nat → Int) → Option ρ) (o8 : Nat → Int) : Option ρ :=
  (K0 o8)

noncomputable def spec_l01Times.l0 {ρ : Type} (N : Nat) (K0 : (Nat → Int) → Option ρ) (a0 : Nat → Int) (a1 : Nat → Int) (v2 : Nat → Int) (w3 : Nat → Int) (out0 : (Nat → Int) → Option ρ) : Nat → Int → (Nat → Int) → Option ρ
  | 0, _, _ => none
  | m + 1, i4, g5 => (spec_l01Times.b0 N K0 ((spec_l01Times.l0 N K0 a0 a1 v2 w3 out0 m)) out0 a0 a1 v2 w3 i4 g5)

noncomputable def spec_l01Times.s {ρ : Type} (N : Nat) (K0 : (Nat → Int) → Option ρ) (lp0 : Int → (Nat → Int) → Option ρ) : Option ρ :=
  (lp0 0 (fun _ => 0))

noncomputable def spec_l01Times {ρ : Type} (N : Nat) (K0 : (Nat → Int) → Option ρ) (a0 : Nat → Int) (a1 : Nat → Int) (v2 : Nat → Int) (w3 : Nat → Int) : Option ρ :=
  (spec_l01Times.s N K0 (fun i4 g5 => (spec_l01Times.l0 N K0 a0 a1 v2 w3 (fun o8 => (spec_l01Times.a0_0 N K0 o8)) N i4 g5)))

noncomputable def spec_l01Fault.b2 {ρ : Type} (N : Nat) (K0 : Nat → Nat → Bool → (Nat → Int) → Option ρ) (K1 : Bool → Option ρ) (rec : Int → Option ρ) (out0 : Option ρ) (a0 : Nat → Int) (a1 : Nat → Int) (i2 : Int) (j3 : Int) (k4 : Int) : Option ρ :=
  (if (decide (k4 < (a0 1))) = true then (if (0 : Int) ≤ i2 ∧ i2 < 8 then (if (0 : Int) ≤ j3 ∧ j3 < 8 then (spec_l01Basis N (fun r5 => (spec_l01Times N (fun r6 => (spec_l01Basis N (fun r7 => (if (0 : Int) ≤ j3 ∧ j3 < 8 then (if (0 : Int) ≤ k4 ∧ k4 < 8 then (spec_l01Times N (fun r8 => (if (!eqN 8 r6 r8) = true then (K0 3 3 true (upd (upd (upd (fun _ => 0) 0 i2) 1 j3) 2 k4)) else (rec ((IntKind.i64.wrap (k4 + 1)))))) a0 a1 r7 (fun z => (a1 (((8 + (j3.toNat * 64)) + (k4.toNat * 8)) + z)))) else none) else none)) i2)) a0 a1 (fun z => (a1 (((8 + (i2.toNat * 64)) + (j3.toNat * 8)) + z))) r5)) k4) else none) else none) else out0)

noncomputable def spec_l01Fault.a2_0 {ρ : Type} (N : Nat) (K0 : Nat → Nat → Bool → (Nat → Int) → Option ρ) (K1 : Bool → Option ρ) (rec : Int → Option ρ) (out0 : Option ρ) (j3 : Int) : Option ρ :=
  (rec ((IntKind.i64.wrap (j3 + 1))))

noncomputable def spec_l01Fault.b1 {ρ : Type} (N : Nat) (K0 : Nat → Nat → Bool → (Nat → Int) → Option ρ) (K1 : Bool → Option ρ) (lp2 : Int → Option ρ) (rec : Int → Option ρ) (out0 : Option ρ) (a0 : Nat → Int) (j3 : Int) : Option ρ :=
  (if (decide (j3 < (a0 1))) = true then (lp2 0) else out0)

noncomputable def spec_l01Fault.a1_0 {ρ : Type} (N : Nat) (K0 : Nat → Nat → Bool → (Nat → Int) → Option ρ) (K1 : Bool → Option ρ) (rec : Int → Option ρ) (out0 : Option ρ) (i2 : Int) : Option ρ :=
  (rec ((IntKind.i64.wrap (i2 + 1))))

noncomputable def spec_l01Fault.b0 {ρ : Type} (N : Nat) (K0 : Nat → Nat → Bool → (Nat → Int) → Option ρ) (K1 : Bool → Option ρ) (lp1 : Int → Option ρ) (rec : Int → Option ρ) (out0 : Option ρ) (a0 : Nat → Int) (i2 : Int) : Option ρ :=
  (if (decide (i2 < (a0 1))) = true then (lp1 0) else out0)

noncomputable def spec_l01Fault.a0_0 {ρ : Type} (N : Nat) (K0 : Nat → Nat → Bool → (Nat → Int) → Option ρ) (K1 : Bool → Option ρ) : Option ρ :=
  (K1 false)

noncomputable def spec_l01Fault.l2 {ρ : Type} (N : Nat) (K0 : Nat → Nat → Bool → (Nat → Int) → Option ρ) (K1 : Bool → Option ρ) (a0 : Nat → Int) (a1 : Nat → Int) (i2 : Int) (j3 : Int) (out0 : Option ρ) : Nat → Int → Option ρ
  | 0, _ => none
  | m + 1, k4 => (spec_l01Fault.b2 N K0 K1 ((spec_l01Fault.l2 N K0 K1 a0 a1 i2 j3 out0 m)) out0 a0 a1 i2 j3 k4)

noncomputable def spec_l01Fault.l1 {ρ : Type} (N : Nat) (K0 : Nat → Nat → Bool → (Nat → Int) → Option ρ) (K1 : Bool → Option ρ) (a0 : Nat → Int) (a1 : Nat → Int) (i2 : Int) (out0 : Option ρ) : Nat → Int → Option ρ
  | 0, _ => none
  | m + 1, j3 => (spec_l01Fault.b1 N K0 K1 (fun k4 => (spec_l01Fault.l2 N K0 K1 a0 a1 i2 j3 (spec_l01Fault.a2_0 N K0 K1 (spec_l01Fault.l1 N K0 K1 a0 a1 i2 out0 m) out0 j3) N k4)) ((spec_l01Fault.l1 N K0 K1 a0 a1 i2 out0 m)) out0 a0 j3)

noncomputable def spec_l01Fault.l0 {ρ : Type} (N : Nat) (K0 : Nat → Nat → Bool → (Nat → Int) → Option ρ) (K1 : Bool → Option ρ) (a0 : Nat → Int) (a1 : Nat → Int) (out0 : Option ρ) : Nat → Int → Option ρ
  | 0, _ => none
  | m + 1, i2 => (spec_l01Fault.b0 N K0 K1 (fun j3 => (spec_l01Fault.l1 N K0 K1 a0 a1 i2 (spec_l01Fault.a1_0 N K0 K1 (spec_l01Fault.l0 N K0 K1 a0 a1 out0 m) out0 i2) N j3)) ((spec_l01Fault.l0 N K0 K1 a0 a1 out0 m)) out0 a0 i2)

noncomputable def spec_l01Fault.s {ρ : Type} (N : Nat) (K0 : Nat → Nat → Bool → (Nat → Int) → Option ρ) (K1 : Bool → Option ρ) (lp0 : Int → Option ρ) : Option ρ :=
  (lp0 0)

noncomputable def spec_l01Fault {ρ : Type} (N : Nat) (K0 : Nat → Nat → Bool → (Nat → Int) → Option ρ) (K1 : Bool → Option ρ) (a0 : Nat → Int) (a1 : Nat → Int) : Option ρ :=
  (spec_l01Fault.s N K0 K1 (fun i2 => (spec_l01Fault.l0 N K0 K1 a0 a1 (spec_l01Fault.a0_0 N K0 K1) N i2)))

noncomputable def spec_l01Is.b0 {ρ : Type} (N : Nat) (K0 : Bool → Option ρ) (rec : Int → Option ρ) (out0 : Option ρ) (a0 : Nat → Int) (a1 : Nat → Int) (i3 : Int) : Option ρ :=
  (if (decide (i3 < (a0 1))) = true then (spec_l01Basis N (fun r4 => (spec_l01Times N (fun r5 => (spec_l01Basis N (fun r6 => (if (!eqN 8 r5 r6) = true then (K0 false) else (spec_l01Basis N (fun r7 => (spec_l01Times N (fun r8 => (spec_l01Basis N (fun r9 => (if (!eqN 8 r8 r9) = true then (K0 false) else (rec ((IntKind.i64.wrap (i3 + 1)))))) i3)) a0 a1 r7 (fun z => (a1 (0 + z))))) i3))) i3)) a0 a1 (fun z => (a1 (0 + z))) r4)) i3) else out0)

noncomputable def spec_l01Is.a0_0 {ρ : Type} (N : Nat) (K0 : Bool → Option ρ) (a0 : Nat → Int) (a1 : Nat → Int) : Option ρ :=
  (spec_l01Fault N (fun r10 r11 r12 r13 => (K0 ((!r12)))) (fun r14 => (K0 ((!r14)))) a0 a1)

noncomputable def spec_l01Is.l0 {ρ : Type} (N : Nat) (K0 : Bool → Option ρ) (a0 : Nat → Int) (a1 : Nat → Int) (out0 : Option ρ) : Nat → Int → Option ρ
  | 0, _ => none
  | m + 1, i3 => (spec_l01Is.b0 N K0 ((spec_l01Is.l0 N K0 a0 a1 out0 m)) out0 a0 a1 i3)

noncomputable def spec_l01Is.s {ρ : Type} (N : Nat) (K0 : Bool → Option ρ) (lp0 : Int → Option ρ) (a0 : Nat → Int) (a1 : Nat → Int) : Option ρ :=
  (spec_l01Shape N (fun r2 => (if (!r2) = true then (K0 false) else (lp0 0))) a0 a1)

noncomputable def spec_l01Is {ρ : Type} (N : Nat) (K0 : Bool → Option ρ) (a0 : Nat → Int) (a1 : Nat → Int) : Option ρ :=
  (spec_l01Is.s N K0 (fun i3 => (spec_l01Is.l0 N K0 a0 a1 (spec_l01Is.a0_0 N K0 a0 a1) N i3)) a0 a1)

noncomputable def spec_l02Maps_n.b0 {ρ : Type} (N : Nat) (K0 : Int → Option ρ) (rec : Option ρ) (out0 : Option ρ) : Option ρ :=
  out0

noncomputable def spec_l02Maps_n.a0_0 {ρ : Type} (N : Nat) (K0 : Int → Option ρ) (c0 : Nat → Int) (a2 : Nat → Int) : Option ρ :=
  (if ((c0 0) != (a2 0)) = true then (K0 2) else (K0 0))

noncomputable def spec_l02Maps_n.l0 {ρ : Type} (N : Nat) (K0 : Int → Option ρ) (out0 : Option ρ) : Nat → Option ρ
  | 0 => none
  | m + 1 => (spec_l02Maps_n.b0 N K0 ((spec_l02Maps_n.l0 N K0 out0 m)) out0)

noncomputable def spec_l02Maps_n.s {ρ : Type} (N : Nat) (K0 : Int → Option ρ) (lp0 : Option ρ) (c0 : Nat → Int) (c1 : Nat → Int) (a2 : Nat → Int) (a3 : Nat → Int) : Option ρ :=
  (spec_l02Is N (fun r4 => (if (!r4) = true then (K0 1) else (spec_l01Is N (fun r5 => (if (!r5) = true then (K0 1) else lp0)) a2 a3))) c0 c1)

noncomputable def spec_l02Maps_n {ρ : Type} (N : Nat) (K0 : Int → Option ρ) (c0 : Nat → Int) (c1 : Nat → Int) (a2 : Nat → Int) (a3 : Nat → Int) : Option ρ :=
  (spec_l02Maps_n.s N K0 ((spec_l02Maps_n.l0 N K0 (spec_l02Maps_n.a0_0 N K0 c0 a2) N)) c0 c1 a2 a3)

noncomputable def spec_UnitMap.b0 {ρ : Type} (N : Nat) (K0 : (Nat → Int) → Int → Option ρ) (rec : Int → (Nat → Int) → Option ρ) (out0 : (Nat → Int) → Option ρ) (c0 : Nat → Int) (c1 : Nat → Int) (a3 : Nat → Int) (i5 : Int) (g6 : Nat → Int) : Option ρ :=
  (if (decide (i5 < (c0 1))) = true then (if (0 : Int) ≤ i5 ∧ i5 < 8 then (spec_l01Add N (fun r7 => (if (0 : Int) ≤ i5 ∧ i5 < 8 then (rec ((IntKind.i64.wrap (i5 + 1))) (updN g6 (i5.toNat * 8) 8 r7)) else none)) ((c0 0)) (fun _ => 0) (fun z => (a3 (0 + z))) ((IntKind.i64.wrap (c1 (0 + (i5.toNat * 1)))))) else none) else (out0 g6))

noncomputable def spec_UnitMap.a0_0 {ρ : Type} (N : Nat) (K0 : (Nat → Int) → Int → Option ρ) (o8 : Nat → Int) : Option ρ :=
  (K0 o8 0)

noncomputable def spec_UnitMap.l0 {ρ : Type} (N : Nat) (K0 : (Nat → Int) → Int → Option ρ) (c0 : Nat → Int) (c1 : Nat → Int) (a3 : Nat → Int) (out0 : (Nat → Int) → Option ρ) : Nat → Int → (Nat → Int) → Option ρ
  | 0, _, _ => none
  | m + 1, i5, g6 => (spec_UnitMap.b0 N K0 ((spec_UnitMap.l0 N K0 c0 c1 a3 out0 m)) out0 c0 c1 a3 i5 g6)

noncomputable def spec_UnitMap.s {ρ : Type} (N : Nat) (K0 : (Nat → Int) → Int → Option ρ) (lp0 : Int → (Nat → Int) → Option ρ) (c0 : Nat → Int) (c1 : Nat → Int) (a2 : Nat → Int) (a3 : Nat → Int) : Option ρ :=
  (spec_l02Maps_n N (fun r4 => (if (r4 != 0) = true then (K0 (fun _ => 0) r4) else (lp0 0 (fun _ => 0)))) c0 c1 a2 a3)

noncomputable def spec_UnitMap {ρ : Type} (N : Nat) (K0 : (Nat → Int) → Int → Option ρ) (c0 : Nat → Int) (c1 : Nat → Int) (a2 : Nat → Int) (a3 : Nat → Int) : Option ρ :=
  (spec_UnitMap.s N K0 (fun i5 g6 => (spec_UnitMap.l0 N K0 c0 c1 a3 (fun o8 => (spec_UnitMap.a0_0 N K0 o8)) N i5 g6)) c0 c1 a2 a3)

noncomputable def impl_Algebra_isShaped {ρ : Type} (N : Nat) (K0 : Bool → Option ρ) (g0 : Nat → Int) (g1 : Nat → Int) : Option ρ :=
  (impl_IsVector N (fun r2 => (if r2 = true then (impl_isTable N (fun r3 => (K0 (r3))) ((g0 0)) ((g0 1)) (fun z => (g1 (8 + z)))) else (K0 false))) ((g0 0)) ((g0 1)) (fun z => (g1 (0 + z))))

noncomputable def impl_Algebra_field {ρ : Type} (N : Nat) (K0 : (Nat → Int) → Option ρ) (g0 : Nat → Int) (g1 : Nat → Int) : Option ρ :=
  (K0 (upd (upd (fun _ => 0) 0 (g0 0)) 1 (g0 1)))

noncomputable def impl_Algebra_product.b1 {ρ : Type} (N : Nat) (K0 : (Nat → Int) → Option ρ) (rec : Int → (Nat → Int) → Option ρ) (out0 : (Nat → Int) → Option ρ) (v0 : Nat → Int) (w1 : Nat → Int) (g3 : Nat → Int) (r4 : Nat → Int) (x5 : Int) (x7 : Int) (g8 : Nat → Int) : Option ρ :=
  (if (decide (x7 < (r4 1))) = true then (if (0 : Int) ≤ x5 ∧ x5 < 8 then (if (0 : Int) ≤ x7 ∧ x7 < 8 then (if (0 : Int) ≤ x5 ∧ x5 < 8 then (if (0 : Int) ≤ x7 ∧ x7 < 8 then (impl_field_plus N (fun r9 => (rec ((IntKind.i64.wrap (x7 + 1))) r9)) r4 ((IntKind.i64.wrap ((IntKind.i64.wrap (v0 (x5.toNat * 1))) * (IntKind.i64.wrap (w1 (x7.toNat * 1)))))) (fun z => (g3 (((8 + (x5.toNat * 64)) + (x7.toNat * 8)) + z))) g8) else none) else none) else none) else none) else (out0 g8))

noncomputable def impl_Algebra_product.a1_0 {ρ : Type} (N : Nat) (K0 : (Nat → Int) → Option ρ) (rec : Int → (Nat → Int) → Option ρ) (out0 : (Nat → Int) → Option ρ) (x5 : Int) (o10 : Nat → Int) : Option ρ :=
  (rec ((IntKind.i64.wrap (x5 + 1))) o10)

noncomputable def impl_Algebra_product.b0 {ρ : Type} (N : Nat) (K0 : (Nat → Int) → Option ρ) (lp1 : Int → (Nat → Int) → Option ρ) (rec : Int → (Nat → Int) → Option ρ) (out0 : (Nat → Int) → Option ρ) (v0 : Nat → Int) (r4 : Nat → Int) (x5 : Int) (g6 : Nat → Int) : Option ρ :=
  (if (decide (x5 < (r4 1))) = true then (if (0 : Int) ≤ x5 ∧ x5 < 8 then (if ((v0 (x5.toNat * 1)) == 0) = true then (rec ((IntKind.i64.wrap (x5 + 1))) g6) else (lp1 0 g6)) else none) else (out0 g6))

noncomputable def impl_Algebra_product.a0_0 {ρ : Type} (N : Nat) (K0 : (Nat → Int) → Option ρ) (o11 : Nat → Int) : Option ρ :=
  (K0 o11)

noncomputable def impl_Algebra_product.l1 {ρ : Type} (N : Nat) (K0 : (Nat → Int) → Option ρ) (v0 : Nat → Int) (w1 : Nat → Int) (g3 : Nat → Int) (r4 : Nat → Int) (x5 : Int) (out0 : (Nat → Int) → Option ρ) : Nat → Int → (Nat → Int) → Option ρ
  | 0, _, _ => none
  | m + 1, x7, g8 => (impl_Algebra_product.b1 N K0 ((impl_Algebra_product.l1 N K0 v0 w1 g3 r4 x5 out0 m)) out0 v0 w1 g3 r4 x5 x7 g8)

noncomputable def impl_Algebra_product.l0 {ρ : Type} (N : Nat) (K0 : (Nat → Int) → Option ρ) (v0 : Nat → Int) (w1 : Nat → Int) (g3 : Nat → Int) (r4 : Nat → Int) (out0 : (Nat → Int) → Option ρ) : Nat → Int → (Nat → Int) → Option ρ
  | 0, _, _ => none
  | m + 1, x5, g6 => (impl_Algebra_product.b0 N K0 (fun x7 g8 => (impl_Algebra_product.l1 N K0 v0 w1 g3 r4 x5 (fun o10 => (impl_Algebra_product.a1_0 N K0 (impl_Algebra_product.l0 N K0 v0 w1 g3 r4 out0 m) out0 x5 o10)) N x7 g8)) ((impl_Algebra_product.l0 N K0 v0 w1 g3 r4 out0 m)) out0 v0 r4 x5 g6)

noncomputable def impl_Algebra_product.s {ρ : Type} (N : Nat) (K0 : (Nat → Int) → Option ρ) (lp0 : (Nat → Int) → Int → (Nat → Int) → Option ρ) (g2 : Nat → Int) (g3 : Nat → Int) : Option ρ :=
  (impl_Algebra_field N (fun r4 => (lp0 r4 0 (fun _ => 0))) g2 g3)

noncomputable def impl_Algebra_product {ρ : Type} (N : Nat) (K0 : (Nat → Int) → Option ρ) (v0 : Nat → Int) (w1 : Nat → Int) (g2 : Nat → Int) (g3 : Nat → Int) : Option ρ :=
  (impl_Algebra_product.s N K0 (fun r4 x5 g6 => (impl_Algebra_product.l0 N K0 v0 w1 g3 r4 (fun o11 => (impl_Algebra_product.a0_0 N K0 o11)) N x5 g6)) g2 g3)

noncomputable def impl_Algebra_fault.b2 {ρ : Type} (N : Nat) (K0 : Nat → Nat → (Nat → Int) → Option ρ) (K1 : Option ρ) (rec : Int → Option ρ) (out0 : Option ρ) (g0 : Nat → Int) (g1 : Nat → Int) (x2 : Int) (x3 : Int) (x4 : Int) : Option ρ :=
  (if (decide (x4 < (g0 1))) = true then (if (0 : Int) ≤ x2 ∧ x2 < 8 then (if (0 : Int) ≤ x3 ∧ x3 < 8 then (impl_basis N (fun r5 => (impl_Algebra_product N (fun r6 => (impl_basis N (fun r7 => (if (0 : Int) ≤ x3 ∧ x3 < 8 then (if (0 : Int) ≤ x4 ∧ x4 < 8 then (impl_Algebra_product N (fun r8 => (if (!eqN 8 r6 r8) = true then (K0 3 3 (upd (upd (upd (fun _ => 0) 0 x2) 1 x3) 2 x4)) else (rec ((IntKind.i64.wrap (x4 + 1)))))) r7 (fun z => (g1 (((8 + (x3.toNat * 64)) + (x4.toNat * 8)) + z))) g0 g1) else none) else none)) x2)) (fun z => (g1 (((8 + (x2.toNat * 64)) + (x3.toNat * 8)) + z))) r5 g0 g1)) x4) else none) else none) else out0)

noncomputable def impl_Algebra_fault.a2_0 {ρ : Type} (N : Nat) (K0 : Nat → Nat → (Nat → Int) → Option ρ) (K1 : Option ρ) (rec : Int → Option ρ) (out0 : Option ρ) (x3 : Int) : Option ρ :=
  (rec ((IntKind.i64.wrap (x3 + 1))))

noncomputable def impl_Algebra_fault.b1 {ρ : Type} (N : Nat) (K0 : Nat → Nat → (Nat → Int) → Option ρ) (K1 : Option ρ) (lp2 : Int → Option ρ) (rec : Int → Option ρ) (out0 : Option ρ) (g0 : Nat → Int) (x3 : Int) : Option ρ :=
  (if (decide (x3 < (g0 1))) = true then (lp2 0) else out0)

noncomputable def impl_Algebra_fault.a1_0 {ρ : Type} (N : Nat) (K0 : Nat → Nat → (Nat → Int) → Option ρ) (K1 : Option ρ) (rec : Int → Option ρ) (out0 : Option ρ) (x2 : Int) : Option ρ :=
  (rec ((IntKind.i64.wrap (x2 + 1))))

noncomputable def impl_Algebra_fault.b0 {ρ : Type} (N : Nat) (K0 : Nat → Nat → (Nat → Int) → Option ρ) (K1 : Option ρ) (lp1 : Int → Option ρ) (rec : Int → Option ρ) (out0 : Option ρ) (g0 : Nat → Int) (x2 : Int) : Option ρ :=
  (if (decide (x2 < (g0 1))) = true then (lp1 0) else out0)

noncomputable def impl_Algebra_fault.a0_0 {ρ : Type} (N : Nat) (K0 : Nat → Nat → (Nat → Int) → Option ρ) (K1 : Option ρ) : Option ρ :=
  K1

noncomputable def impl_Algebra_fault.l2 {ρ : Type} (N : Nat) (K0 : Nat → Nat → (Nat → Int) → Option ρ) (K1 : Option ρ) (g0 : Nat → Int) (g1 : Nat → Int) (x2 : Int) (x3 : Int) (out0 : Option ρ) : Nat → Int → Option ρ
  | 0, _ => none
  | m + 1, x4 => (impl_Algebra_fault.b2 N K0 K1 ((impl_Algebra_fault.l2 N K0 K1 g0 g1 x2 x3 out0 m)) out0 g0 g1 x2 x3 x4)

noncomputable def impl_Algebra_fault.l1 {ρ : Type} (N : Nat) (K0 : Nat → Nat → (Nat → Int) → Option ρ) (K1 : Option ρ) (g0 : Nat → Int) (g1 : Nat → Int) (x2 : Int) (out0 : Option ρ) : Nat → Int → Option ρ
  | 0, _ => none
  | m + 1, x3 => (impl_Algebra_fault.b1 N K0 K1 (fun x4 => (impl_Algebra_fault.l2 N K0 K1 g0 g1 x2 x3 (impl_Algebra_fault.a2_0 N K0 K1 (impl_Algebra_fault.l1 N K0 K1 g0 g1 x2 out0 m) out0 x3) N x4)) ((impl_Algebra_fault.l1 N K0 K1 g0 g1 x2 out0 m)) out0 g0 x3)

noncomputable def impl_Algebra_fault.l0 {ρ : Type} (N : Nat) (K0 : Nat → Nat → (Nat → Int) → Option ρ) (K1 : Option ρ) (g0 : Nat → Int) (g1 : Nat → Int) (out0 : Option ρ) : Nat → Int → Option ρ
  | 0, _ => none
  | m + 1, x2 => (impl_Algebra_fault.b0 N K0 K1 (fun x3 => (impl_Algebra_fault.l1 N K0 K1 g0 g1 x2 (impl_Algebra_fault.a1_0 N K0 K1 (impl_Algebra_fault.l0 N K0 K1 g0 g1 out0 m) out0 x2) N x3)) ((impl_Algebra_fault.l0 N K0 K1 g0 g1 out0 m)) out0 g0 x2)

noncomputable def impl_Algebra_fault.s {ρ : Type} (N : Nat) (K0 : Nat → Nat → (Nat → Int) → Option ρ) (K1 : Option ρ) (lp0 : Int → Option ρ) : Option ρ :=
  (lp0 0)

noncomputable def impl_Algebra_fault {ρ : Type} (N : Nat) (K0 : Nat → Nat → (Nat → Int) → Option ρ) (K1 : Option ρ) (g0 : Nat → Int) (g1 : Nat → Int) : Option ρ :=
  (impl_Algebra_fault.s N K0 K1 (fun x2 => (impl_Algebra_fault.l0 N K0 K1 g0 g1 (impl_Algebra_fault.a0_0 N K0 K1) N x2)))

noncomputable def impl_IsAlgebra.b0 {ρ : Type} (N : Nat) (K0 : Bool → Option ρ) (rec : Int → Option ρ) (out0 : Option ρ) (a0 : Nat → Int) (a1 : Nat → Int) (x3 : Int) : Option ρ :=
  (if (decide (x3 < (a0 1))) = true then (impl_basis N (fun r4 => (impl_Algebra_product N (fun r5 => (if (!eqN 8 r5 r4) = true then (K0 false) else (impl_Algebra_product N (fun r6 => (if (!eqN 8 r6 r4) = true then (K0 false) else (rec ((IntKind.i64.wrap (x3 + 1)))))) r4 (fun z => (a1 (0 + z))) a0 a1))) (fun z => (a1 (0 + z))) r4 a0 a1)) x3) else out0)

noncomputable def impl_IsAlgebra.a0_0 {ρ : Type} (N : Nat) (K0 : Bool → Option ρ) (a0 : Nat → Int) (a1 : Nat → Int) : Option ρ :=
  (impl_Algebra_fault N (fun r7 r8 r9 => (K0 false)) (K0 true) a0 a1)

noncomputable def impl_IsAlgebra.l0 {ρ : Type} (N : Nat) (K0 : Bool → Option ρ) (a0 : Nat → Int) (a1 : Nat → Int) (out0 : Option ρ) : Nat → Int → Option ρ
  | 0, _ => none
  | m + 1, x3 => (impl_IsAlgebra.b0 N K0 ((impl_IsAlgebra.l0 N K0 a0 a1 out0 m)) out0 a0 a1 x3)

noncomputable def impl_IsAlgebra.s {ρ : Type} (N : Nat) (K0 : Bool → Option ρ) (lp0 : Int → Option ρ) (a0 : Nat → Int) (a1 : Nat → Int) : Option ρ :=
  (impl_Algebra_isShaped N (fun r2 => (if (!r2) = true then (K0 false) else (lp0 0))) a0 a1)

noncomputable def impl_IsAlgebra {ρ : Type} (N : Nat) (K0 : Bool → Option ρ) (a0 : Nat → Int) (a1 : Nat → Int) : Option ρ :=
  (impl_IsAlgebra.s N K0 (fun x3 => (impl_IsAlgebra.l0 N K0 a0 a1 (impl_IsAlgebra.a0_0 N K0 a0 a1) N x3)) a0 a1)

noncomputable def impl_first_s2.b0 {ρ : Type} (N : Nat) (K0 : Int → Option ρ) (rec : Int → Option ρ) (out0 : Option ρ) (codes0 : Nat) (g2 : Nat → Int) (x3 : Int) : Option ρ :=
  (if (decide (x3 < (codes0 : Int))) = true then (if (0 : Int) ≤ x3 ∧ x3 < (codes0 : Int) then (if ((g2 (0 + (x3.toNat * 1))) != 0) = true then (K0 ((g2 (0 + (x3.toNat * 1))))) else (rec ((IntKind.i64.wrap (x3 + 1))))) else none) else out0)

noncomputable def impl_first_s2.a0_0 {ρ : Type} (N : Nat) (K0 : Int → Option ρ) : Option ρ :=
  (K0 0)

noncomputable def impl_first_s2.l0 {ρ : Type} (N : Nat) (K0 : Int → Option ρ) (codes0 : Nat) (g2 : Nat → Int) (out0 : Option ρ) : Nat → Int → Option ρ
  | 0, _ => none
  | m + 1, x3 => (impl_first_s2.b0 N K0 ((impl_first_s2.l0 N K0 codes0 g2 out0 m)) out0 codes0 g2 x3)

noncomputable def impl_first_s2.s {ρ : Type} (N : Nat) (K0 : Int → Option ρ) (lp0 : Int → Option ρ) : Option ρ :=
  (lp0 0)

noncomputable def impl_first_s2 {ρ : Type} (N : Nat) (K0 : Int → Option ρ) (codes0 : Nat) (codes1 : Nat) (g2 : Nat → Int) : Option ρ :=
  (impl_first_s2.s N K0 (fun x3 => (impl_first_s2.l0 N K0 codes0 g2 (impl_first_s2.a0_0 N K0) N x3)))

noncomputable def impl_mapsCode_n.b0 {ρ : Type} (N : Nat) (K0 : Int → Option ρ) (rec : Option ρ) (out0 : Option ρ) : Option ρ :=
  out0

noncomputable def impl_mapsCode_n.a0_0 {ρ : Type} (N : Nat) (K0 : Int → Option ρ) (g0 : Nat → Int) (g2 : Nat → Int) (r5 : Bool) : Option ρ :=
  (impl_unless N (fun r6 => (impl_unless N (fun r7 => (impl_first_s2 N (fun r8 => (K0 r8)) 2 2 (fun z => ((upd (upd (fun _ => 0) 0 r6) 1 r7) (0 + z))))) (((g0 0) == (g2 0))) 2)) (r5) 1)

noncomputable def impl_mapsCode_n.b1 {ρ : Type} (N : Nat) (K0 : Int → Option ρ) (rec : Option ρ) (out0 : Option ρ) : Option ρ :=
  out0

noncomputable def impl_mapsCode_n.a1_0 {ρ : Type} (N : Nat) (K0 : Int → Option ρ) (g0 : Nat → Int) (g2 : Nat → Int) : Option ρ :=
  (impl_unless N (fun r9 => (impl_unless N (fun r10 => (impl_first_s2 N (fun r11 => (K0 r11)) 2 2 (fun z => ((upd (upd (fun _ => 0) 0 r9) 1 r10) (0 + z))))) (((g0 0) == (g2 0))) 2)) false 1)

noncomputable def impl_mapsCode_n.l0 {ρ : Type} (N : Nat) (K0 : Int → Option ρ) (out0 : Option ρ) : Nat → Option ρ
  | 0 => none
  | m + 1 => (impl_mapsCode_n.b0 N K0 ((impl_mapsCode_n.l0 N K0 out0 m)) out0)

noncomputable def impl_mapsCode_n.l1 {ρ : Type} (N : Nat) (K0 : Int → Option ρ) (out0 : Option ρ) : Nat → Option ρ
  | 0 => none
  | m + 1 => (impl_mapsCode_n.b1 N K0 ((impl_mapsCode_n.l1 N K0 out0 m)) out0)

noncomputable def impl_mapsCode_n.s {ρ : Type} (N : Nat) (K0 : Int → Option ρ) (lp0 : Bool → Option ρ) (lp1 : Option ρ) (g0 : Nat → Int) (g1 : Nat → Int) (g2 : Nat → Int) (g3 : Nat → Int) : Option ρ :=
  (impl_IsCoalgebra N (fun r4 => (if r4 = true then (impl_IsAlgebra N (fun r5 => (lp0 r5)) g2 g3) else lp1)) g0 g1)

noncomputable def impl_mapsCode_n {ρ : Type} (N : Nat) (K0 : Int → Option ρ) (g0 : Nat → Int) (g1 : Nat → Int) (g2 : Nat → Int) (g3 : Nat → Int) : Option ρ :=
  (impl_mapsCode_n.s N K0 (fun r5 => (impl_mapsCode_n.l0 N K0 (impl_mapsCode_n.a0_0 N K0 g0 g2 r5) N)) ((impl_mapsCode_n.l1 N K0 (impl_mapsCode_n.a1_0 N K0 g0 g2) N)) g0 g1 g2 g3)

noncomputable def impl_UnitMap.b0 {ρ : Type} (N : Nat) (K0 : (Nat → Int) → Int → Option ρ) (rec : Int → (Nat → Int) → Option ρ) (out0 : (Nat → Int) → Option ρ) (c1 : Nat → Int) (a2 : Nat → Int) (a3 : Nat → Int) (x5 : Int) (g6 : Nat → Int) : Option ρ :=
  (if (decide (x5 < 8)) = true then (if (0 : Int) ≤ x5 ∧ x5 < 8 then (impl_Algebra_field N (fun r7 => (impl_field_times N (fun r8 => (if (0 : Int) ≤ x5 ∧ x5 < 8 then (rec ((IntKind.i64.wrap (x5 + 1))) (updN g6 (x5.toNat * 8) 8 r8)) else none)) r7 ((IntKind.i64.wrap (c1 (0 + x5.toNat)))) (fun z => (a3 (0 + z))))) a2 a3) else none) else (out0 g6))

noncomputable def impl_UnitMap.a0_0 {ρ : Type} (N : Nat) (K0 : (Nat → Int) → Int → Option ρ) (o9 : Nat → Int) : Option ρ :=
  (K0 o9 0)

noncomputable def impl_UnitMap.l0 {ρ : Type} (N : Nat) (K0 : (Nat → Int) → Int → Option ρ) (c1 : Nat → Int) (a2 : Nat → Int) (a3 : Nat → Int) (out0 : (Nat → Int) → Option ρ) : Nat → Int → (Nat → Int) → Option ρ
  | 0, _, _ => none
  | m + 1, x5, g6 => (impl_UnitMap.b0 N K0 ((impl_UnitMap.l0 N K0 c1 a2 a3 out0 m)) out0 c1 a2 a3 x5 g6)

noncomputable def impl_UnitMap.s {ρ : Type} (N : Nat) (K0 : (Nat → Int) → Int → Option ρ) (lp0 : Int → (Nat → Int) → Option ρ) (c0 : Nat → Int) (c1 : Nat → Int) (a2 : Nat → Int) (a3 : Nat → Int) : Option ρ :=
  (impl_mapsCode_n N (fun r4 => (if (r4 != 0) = true then (K0 (fun _ => 0) r4) else (lp0 0 (fun _ => 0)))) c0 c1 a2 a3)

noncomputable def impl_UnitMap {ρ : Type} (N : Nat) (K0 : (Nat → Int) → Int → Option ρ) (c0 : Nat → Int) (c1 : Nat → Int) (a2 : Nat → Int) (a3 : Nat → Int) : Option ρ :=
  (impl_UnitMap.s N K0 (fun x5 g6 => (impl_UnitMap.l0 N K0 c1 a2 a3 (fun o9 => (impl_UnitMap.a0_0 N K0 o9)) N x5 g6)) c0 c1 a2 a3)

noncomputable def laws_FnExactUnitMap {ρ : Type} (N : Nat) (K0 : Bool → Option ρ) (aC0 : Nat → Int) (aC1 : Nat → Int) (aA2 : Nat → Int) (aA3 : Nat → Int) : Option ρ :=
  (laws_toCoalgebra N (fun r4 r5 => (laws_toAlgebra N (fun r6 r7 => (spec_UnitMap N (fun r8 r9 => (laws_toCoalgebra N (fun r10 r11 => (laws_toAlgebra N (fun r12 r13 => (impl_UnitMap N (fun r14 r15 => (laws_eqLinear N (fun r16 => (if (!r16) = true then (K0 false) else (if (r15 != r9) = true then (K0 false) else (K0 true)))) r14 r8)) r10 r11 r12 r13)) aA2 aA3)) aC0 aC1)) r4 r5 r6 r7)) aA2 aA3)) aC0 aC1)
end Go.Proofs.Ythecjjnieojjoaa.H
