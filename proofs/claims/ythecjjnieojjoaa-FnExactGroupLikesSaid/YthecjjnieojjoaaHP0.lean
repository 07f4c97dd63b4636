/- The functions that the program computes, in plain Lean. -/
import Derived.Test.YthecjjnieojjoaaHyUse
namespace Go.Proofs.Ythecjjnieojjoaa.H
set_option linter.unusedVariables false
set_option linter.unusedSimpArgs false
open Go Go.RowKit Go.Proofs.Ythecjjnieojjoaa.Hy
set_option linter.unusedVariables false
set_option maxRecDepth 100000
noncomputable def laws_toVector.b0 {ρ : Type} (N : Nat) (K0 : (Nat → Int) → Option ρ) (rec : Int → (Nat → Int) → Option ρ) (out0 : (Nat → Int) → Option ρ) (av0 : Nat → Int) (i1 : Int) (gv2 : Nat → Int) : Option ρ :=
  (if (decide (i1 < 8)) = true then (if (0 : Int) ≤ i1 ∧ i1 < 8 then (if (0 : Int) ≤ i1 ∧ i1 < 8 then (rec ((IntKind.i64.wrap (i1 + 1))) (upd gv2 (i1.toNat * 1) (av0 (i1.toNat * 1)))) else none) else none) else (out0 gv2))

noncomputable def laws_toVector.a0_0 {ρ : Type} (N : Nat) (K0 : (Nat → Int) → Option ρ) (ov3 : Nat → Int) : Option ρ :=
  (K0 ov3)

noncomputable def laws_toVector.l0 {ρ : Type} (N : Nat) (K0 : (Nat → Int) → Option ρ) (av0 : Nat → Int) (out0 : (Nat → Int) → Option ρ) : Nat → Int → (Nat → Int) → Option ρ
  | 0, _, _ => none
  | m + 1, i1, gv2 => (laws_toVector.b0 N K0 ((laws_toVector.l0 N K0 av0 out0 m)) out0 av0 i1 gv2)

noncomputable def laws_toVector.s {ρ : Type} (N : Nat) (K0 : (Nat → Int) → Option ρ) (lp0 : Int → (Nat → Int) → Option ρ) : Option ρ :=
  (lp0 0 (fun _ => 0))

noncomputable def laws_toVector {ρ : Type} (N : Nat) (K0 : (Nat → Int) → Option ρ) (av0 : Nat → Int) : Option ρ :=
  (laws_toVector.s N K0 (fun i1 gv2 => (laws_toVector.l0 N K0 av0 (fun ov3 => (laws_toVector.a0_0 N K0 ov3)) N i1 gv2)))

noncomputable def laws_toLinear.b0 {ρ : Type} (N : Nat) (K0 : (Nat → Int) → Option ρ) (rec : Int → (Nat → Int) → Option ρ) (out0 : (Nat → Int) → Option ρ) (av0 : Nat → Int) (i1 : Int) (gv2 : Nat → Int) : Option ρ :=
  (if (decide (i1 < 8)) = true then (if (0 : Int) ≤ i1 ∧ i1 < 8 then (laws_toVector N (fun rv3 => (if (0 : Int) ≤ i1 ∧ i1 < 8 then (rec ((IntKind.i64.wrap (i1 + 1))) (updN gv2 (i1.toNat * 8) 8 rv3)) else none)) (fun z => (av0 ((i1.toNat * 8) + z)))) else none) else (out0 gv2))

noncomputable def laws_toLinear.a0_0 {ρ : Type} (N : Nat) (K0 : (Nat → Int) → Option ρ) (ov4 : Nat → Int) : Option ρ :=
  (K0 ov4)

noncomputable def laws_toLinear.l0 {ρ : Type} (N : Nat) (K0 : (Nat → Int) → Option ρ) (av0 : Nat → Int) (out0 : (Nat → Int) → Option ρ) : Nat → Int → (Nat → Int) → Option ρ
  | 0, _, _ => none
  | m + 1, i1, gv2 => (laws_toLinear.b0 N K0 ((laws_toLinear.l0 N K0 av0 out0 m)) out0 av0 i1 gv2)

noncomputable def laws_toLinear.s {ρ : Type} (N : Nat) (K0 : (Nat → Int) → Option ρ) (lp0 : Int → (Nat → Int) → Option ρ) : Option ρ :=
  (lp0 0 (fun _ => 0))

noncomputable def laws_toLinear {ρ : Type} (N : Nat) (K0 : (Nat → Int) → Option ρ) (av0 : Nat → Int) : Option ρ :=
  (laws_toLinear.s N K0 (fun i1 gv2 => (laws_toLinear.l0 N K0 av0 (fun ov4 => (laws_toLinear.a0_0 N K0 ov4)) N i1 gv2)))

noncomputable def laws_toTable.b0 {ρ : Type} (N : Nat) (K0 : (Nat → Int) → Option ρ) (rec : Int → (Nat → Int) → Option ρ) (out0 : (Nat → Int) → Option ρ) (av0 : Nat → Int) (i1 : Int) (gv2 : Nat → Int) : Option ρ :=
  (if (decide (i1 < 8)) = true then (if (0 : Int) ≤ i1 ∧ i1 < 8 then (laws_toLinear N (fun rv3 => (if (0 : Int) ≤ i1 ∧ i1 < 8 then (rec ((IntKind.i64.wrap (i1 + 1))) (updN gv2 (i1.toNat * 64) 64 rv3)) else none)) (fun z => (av0 ((i1.toNat * 64) + z)))) else none) else (out0 gv2))

noncomputable def laws_toTable.a0_0 {ρ : Type} (N : Nat) (K0 : (Nat → Int) → Option ρ) (ov4 : Nat → Int) : Option ρ :=
  (K0 ov4)

noncomputable def laws_toTable.l0 {ρ : Type} (N : Nat) (K0 : (Nat → Int) → Option ρ) (av0 : Nat → Int) (out0 : (Nat → Int) → Option ρ) : Nat → Int → (Nat → Int) → Option ρ
  | 0, _, _ => none
  | m + 1, i1, gv2 => (laws_toTable.b0 N K0 ((laws_toTable.l0 N K0 av0 out0 m)) out0 av0 i1 gv2)

noncomputable def laws_toTable.s {ρ : Type} (N : Nat) (K0 : (Nat → Int) → Option ρ) (lp0 : Int → (Nat → Int) → Option ρ) : Option ρ :=
  (lp0 0 (fun _ => 0))

noncomputable def laws_toTable {ρ : Type} (N : Nat) (K0 : (Nat → Int) → Option ρ) (av0 : Nat → Int) : Option ρ :=
  (laws_toTable.s N K0 (fun i1 gv2 => (laws_toTable.l0 N K0 av0 (fun ov4 => (laws_toTable.a0_0 N K0 ov4)) N i1 gv2)))

noncomputable def laws_toCoalgebra {ρ : Type} (N : Nat) (K0 : (Nat → Int) → (Nat → Int) → Option ρ) (av0 : Nat → Int) (av1 : Nat → Int) : Option ρ :=
  (laws_toVector N (fun rv2 => (laws_toTable N (fun rv3 => (K0 (upd (upd (fun _ => 0) 0 (av0 0)) 1 (av0 1)) (updN (updN (fun _ => 0) 0 8 rv2) 8 512 rv3))) (fun z => (av1 (8 + z))))) (fun z => (av1 (0 + z))))

noncomputable def spec_l01In {ρ : Type} (N : Nat) (K0 : Bool → Option ρ) (nv0 : Int) (low1 : Int) (high2 : Int) : Option ρ :=
  (if (decide (nv0 ≥ low1)) = true then (K0 ((decide (nv0 ≤ high2)))) else (K0 false))

noncomputable def spec_l01Prime.b0 {ρ : Type} (N : Nat) (K0 : Bool → Option ρ) (rec : Int → Option ρ) (out0 : Option ρ) (p0 : Int) (k1 : Int) : Option ρ :=
  (if (decide (k1 < p0)) = true then (if (decide (k1 ≤ 31)) = true then (if k1 = 0 then none else (if ((Int.tmod p0 k1) == 0) = true then (K0 false) else (rec ((IntKind.i64.wrap (k1 + 1)))))) else out0) else out0)

noncomputable def spec_l01Prime.a0_0 {ρ : Type} (N : Nat) (K0 : Bool → Option ρ) (p0 : Int) : Option ρ :=
  (spec_l01In N (fun rv2 => (K0 (rv2))) p0 2 31)

noncomputable def spec_l01Prime.l0 {ρ : Type} (N : Nat) (K0 : Bool → Option ρ) (p0 : Int) (out0 : Option ρ) : Nat → Int → Option ρ
  | 0, _ => none
  | m + 1, k1 => (spec_l01Prime.b0 N K0 ((spec_l01Prime.l0 N K0 p0 out0 m)) out0 p0 k1)

noncomputable def spec_l01Prime.s {ρ : Type} (N : Nat) (K0 : Bool → Option ρ) (lp0 : Int → Option ρ) : Option ρ :=
  (lp0 2)

noncomputable def spec_l01Prime {ρ : Type} (N : Nat) (K0 : Bool → Option ρ) (p0 : Int) : Option ρ :=
  (spec_l01Prime.s N K0 (fun k1 => (spec_l01Prime.l0 N K0 p0 (spec_l01Prime.a0_0 N K0 p0) N k1)))

noncomputable def spec_l01Sizes {ρ : Type} (N : Nat) (K0 : Bool → Option ρ) (p0 : Int) (nv1 : Int) : Option ρ :=
  (spec_l01Prime N (fun rv2 => (if rv2 = true then (spec_l01In N (fun rv3 => (K0 (rv3))) nv1 1 8) else (K0 false))) p0)

noncomputable def spec_l01Vector.b0 {ρ : Type} (N : Nat) (K0 : Bool → Option ρ) (rec : Int → Option ρ) (out0 : Option ρ) (p0 : Int) (nv1 : Int) (v2 : Nat → Int) (i3 : Int) : Option ρ :=
  (if (decide (i3 < 8)) = true then (if (0 : Int) ≤ i3 ∧ i3 < 8 then (if (decide ((IntKind.i64.wrap (v2 (i3.toNat * 1))) ≥ p0)) = true then (K0 false) else (if (decide (i3 ≥ nv1)) = true then (if (0 : Int) ≤ i3 ∧ i3 < 8 then (if ((v2 (i3.toNat * 1)) != 0) = true then (K0 false) else (rec ((IntKind.i64.wrap (i3 + 1))))) else none) else (rec ((IntKind.i64.wrap (i3 + 1)))))) else none) else out0)

noncomputable def spec_l01Vector.a0_0 {ρ : Type} (N : Nat) (K0 : Bool → Option ρ) : Option ρ :=
  (K0 true)

noncomputable def spec_l01Vector.l0 {ρ : Type} (N : Nat) (K0 : Bool → Option ρ) (p0 : Int) (nv1 : Int) (v2 : Nat → Int) (out0 : Option ρ) : Nat → Int → Option ρ
  | 0, _ => none
  | m + 1, i3 => (spec_l01Vector.b0 N K0 ((spec_l01Vector.l0 N K0 p0 nv1 v2 out0 m)) out0 p0 nv1 v2 i3)

noncomputable def spec_l01Vector.s {ρ : Type} (N : Nat) (K0 : Bool → Option ρ) (lp0 : Int → Option ρ) : Option ρ :=
  (lp0 0)

noncomputable def spec_l01Vector {ρ : Type} (N : Nat) (K0 : Bool → Option ρ) (p0 : Int) (nv1 : Int) (v2 : Nat → Int) : Option ρ :=
  (spec_l01Vector.s N K0 (fun i3 => (spec_l01Vector.l0 N K0 p0 nv1 v2 (spec_l01Vector.a0_0 N K0) N i3)))

noncomputable def spec_l01Linear.b0 {ρ : Type} (N : Nat) (K0 : Bool → Option ρ) (rec : Int → Option ρ) (out0 : Option ρ) (p0 : Int) (nv1 : Int) (f2 : Nat → Int) (i3 : Int) : Option ρ :=
  (if (decide (i3 < 8)) = true then (if (0 : Int) ≤ i3 ∧ i3 < 8 then (spec_l01Vector N (fun rv4 => (if (!rv4) = true then (K0 false) else (if (decide (i3 ≥ nv1)) = true then (if (0 : Int) ≤ i3 ∧ i3 < 8 then (if (!eqN 8 (fun z => (f2 ((i3.toNat * 8) + z))) (fun _ => 0)) = true then (K0 false) else (rec ((IntKind.i64.wrap (i3 + 1))))) else none) else (rec ((IntKind.i64.wrap (i3 + 1))))))) p0 nv1 (fun z => (f2 ((i3.toNat * 8) + z)))) else none) else out0)

noncomputable def spec_l01Linear.a0_0 {ρ : Type} (N : Nat) (K0 : Bool → Option ρ) : Option ρ :=
  (K0 true)

noncomputable def spec_l01Linear.l0 {ρ : Type} (N : Nat) (K0 : Bool → Option ρ) (p0 : Int) (nv1 : Int) (f2 : Nat → Int) (out0 : Option ρ) : Nat → Int → Option ρ
  | 0, _ => none
  | m + 1, i3 => (spec_l01Linear.b0 N K0 ((spec_l01Linear.l0 N K0 p0 nv1 f2 out0 m)) out0 p0 nv1 f2 i3)

noncomputable def spec_l01Linear.s {ρ : Type} (N : Nat) (K0 : Bool → Option ρ) (lp0 : Int → Option ρ) : Option ρ :=
  (lp0 0)

noncomputable def spec_l01Linear {ρ : Type} (N : Nat) (K0 : Bool → Option ρ) (p0 : Int) (nv1 : Int) (f2 : Nat → Int) : Option ρ :=
  (spec_l01Linear.s N K0 (fun i3 => (spec_l01Linear.l0 N K0 p0 nv1 f2 (spec_l01Linear.a0_0 N K0) N i3)))

noncomputable def spec_l01Table.b0 {ρ : Type} (N : Nat) (K0 : Bool → Option ρ) (rec : Int → Option ρ) (out0 : Option ρ) (p0 : Int) (nv1 : Int) (t2 : Nat → Int) (i3 : Int) : Option ρ :=
  (if (decide (i3 < 8)) = true then (if (0 : Int) ≤ i3 ∧ i3 < 8 then (spec_l01Linear N (fun rv4 => (if (!rv4) = true then (K0 false) else (if (decide (i3 ≥ nv1)) = true then (if (0 : Int) ≤ i3 ∧ i3 < 8 then (if (!eqN 64 (fun z => (t2 ((i3.toNat * 64) + z))) (fun _ => 0)) = true then (K0 false) else (rec ((IntKind.i64.wrap (i3 + 1))))) else none) else (rec ((IntKind.i64.wrap (i3 + 1))))))) p0 nv1 (fun z => (t2 ((i3.toNat * 64) + z)))) else none) else out0)

noncomputable def spec_l01Table.a0_0 {ρ : Type} (N : Nat) (K0 : Bool → Option ρ) : Option ρ :=
  (K0 true)

noncomputable def spec_l01Table.l0 {ρ : Type} (N : Nat) (K0 : Bool → Option ρ) (p0 : Int) (nv1 : Int) (t2 : Nat → Int) (out0 : Option ρ) : Nat → Int → Option ρ
  | 0, _ => none
  | m + 1, i3 => (spec_l01Table.b0 N K0 ((spec_l01Table.l0 N K0 p0 nv1 t2 out0 m)) out0 p0 nv1 t2 i3)

noncomputable def spec_l01Table.s {ρ : Type} (N : Nat) (K0 : Bool → Option ρ) (lp0 : Int → Option ρ) : Option ρ :=
  (lp0 0)

noncomputable def spec_l01Table {ρ : Type} (N : Nat) (K0 : Bool → Option ρ) (p0 : Int) (nv1 : Int) (t2 : Nat → Int) : Option ρ :=
  (spec_l01Table.s N K0 (fun i3 => (spec_l01Table.l0 N K0 p0 nv1 t2 (spec_l01Table.a0_0 N K0) N i3)))

noncomputable def spec_l02Shape {ρ : Type} (N : Nat) (K0 : Bool → Option ρ) (c0 : Nat → Int) (c1 : Nat → Int) : Option ρ :=
  (spec_l01Sizes N (fun rv2 => (if rv2 = true then (spec_l01Vector N (fun rv3 => (if rv3 = true then (spec_l01Table N (fun rv4 => (K0 (rv4))) ((c0 0)) ((c0 1)) (fun z => (c1 (8 + z)))) else (K0 false))) ((c0 0)) ((c0 1)) (fun z => (c1 (0 + z)))) else (K0 false))) ((c0 0)) ((c0 1)))

noncomputable def spec_l01Mod {ρ : Type} (N : Nat) (K0 : Int → Option ρ) (p0 : Int) (x1 : Int) : Option ρ :=
  (if p0 = 0 then none else (if p0 = 0 then none else (K0 ((IntKind.u8.wrap (Int.tmod (IntKind.i64.wrap ((Int.tmod x1 p0) + p0)) p0))))))

noncomputable def spec_l02Sums.b0 {ρ : Type} (N : Nat) (K0 : Int → Int → Option ρ) (rec : Int → Int → Int → Option ρ) (out0 : Int → Int → Option ρ) (c0 : Nat → Int) (c1 : Nat → Int) (i2 : Int) (j3 : Int) (k4 : Int) (lv5 : Int) (left6 : Int) (right7 : Int) (av8 : Int) : Option ρ :=
  (if (decide (av8 < (c0 1))) = true then (if (0 : Int) ≤ i2 ∧ i2 < 8 then (if (0 : Int) ≤ av8 ∧ av8 < 8 then (if (0 : Int) ≤ lv5 ∧ lv5 < 8 then (if (0 : Int) ≤ av8 ∧ av8 < 8 then (if (0 : Int) ≤ j3 ∧ j3 < 8 then (if (0 : Int) ≤ k4 ∧ k4 < 8 then (if (0 : Int) ≤ i2 ∧ i2 < 8 then (if (0 : Int) ≤ j3 ∧ j3 < 8 then (if (0 : Int) ≤ av8 ∧ av8 < 8 then (if (0 : Int) ≤ av8 ∧ av8 < 8 then (if (0 : Int) ≤ k4 ∧ k4 < 8 then (if (0 : Int) ≤ lv5 ∧ lv5 < 8 then (rec ((IntKind.i64.wrap (left6 + (IntKind.i64.wrap ((IntKind.i64.wrap (c1 (((8 + (i2.toNat * 64)) + (av8.toNat * 8)) + (lv5.toNat * 1)))) * (IntKind.i64.wrap (c1 (((8 + (av8.toNat * 64)) + (j3.toNat * 8)) + (k4.toNat * 1))))))))) ((IntKind.i64.wrap (right7 + (IntKind.i64.wrap ((IntKind.i64.wrap (c1 (((8 + (i2.toNat * 64)) + (j3.toNat * 8)) + (av8.toNat * 1)))) * (IntKind.i64.wrap (c1 (((8 + (av8.toNat * 64)) + (k4.toNat * 8)) + (lv5.toNat * 1))))))))) ((IntKind.i64.wrap (av8 + 1)))) else none) else none) else none) else none) else none) else none) else none) else none) else none) else none) else none) else none) else (out0 left6 right7))

noncomputable def spec_l02Sums.a0_0 {ρ : Type} (N : Nat) (K0 : Int → Int → Option ρ) (c0 : Nat → Int) (ov9 : Int) (ov10 : Int) : Option ρ :=
  (spec_l01Mod N (fun rv11 => (spec_l01Mod N (fun rv12 => (K0 rv11 rv12)) ((c0 0)) ov10)) ((c0 0)) ov9)

noncomputable def spec_l02Sums.l0 {ρ : Type} (N : Nat) (K0 : Int → Int → Option ρ) (c0 : Nat → Int) (c1 : Nat → Int) (i2 : Int) (j3 : Int) (k4 : Int) (lv5 : Int) (out0 : Int → Int → Option ρ) : Nat → Int → Int → Int → Option ρ
  | 0, _, _, _ => none
  | m + 1, left6, right7, av8 => (spec_l02Sums.b0 N K0 ((spec_l02Sums.l0 N K0 c0 c1 i2 j3 k4 lv5 out0 m)) out0 c0 c1 i2 j3 k4 lv5 left6 right7 av8)

noncomputable def spec_l02Sums.s {ρ : Type} (N : Nat) (K0 : Int → Int → Option ρ) (lp0 : Int → Int → Int → Option ρ) : Option ρ :=
  (lp0 0 0 0)

noncomputable def spec_l02Sums {ρ : Type} (N : Nat) (K0 : Int → Int → Option ρ) (c0 : Nat → Int) (c1 : Nat → Int) (i2 : Int) (j3 : Int) (k4 : Int) (lv5 : Int) : Option ρ :=
  (spec_l02Sums.s N K0 (fun left6 right7 av8 => (spec_l02Sums.l0 N K0 c0 c1 i2 j3 k4 lv5 (fun ov9 ov10 => (spec_l02Sums.a0_0 N K0 c0 ov9 ov10)) N left6 right7 av8)))

noncomputable def spec_l02Fault.b0 {ρ : Type} (N : Nat) (K0 : Nat → Nat → Bool → (Nat → Int) → Option ρ) (K1 : Bool → Option ρ) (rec : Int → Option ρ) (out0 : Option ρ) (c0 : Nat → Int) (c1 : Nat → Int) (mv2 : Int) : Option ρ :=
  (if (decide (mv2 < (IntKind.i64.wrap ((IntKind.i64.wrap ((IntKind.i64.wrap ((c0 1) * (c0 1))) * (c0 1))) * (c0 1))))) = true then (if (IntKind.i64.wrap ((IntKind.i64.wrap ((c0 1) * (c0 1))) * (c0 1))) = 0 then none else (if (IntKind.i64.wrap ((c0 1) * (c0 1))) = 0 then none else (if (c0 1) = 0 then none else (if (c0 1) = 0 then none else (if (c0 1) = 0 then none else (if (c0 1) = 0 then none else (spec_l02Sums N (fun rv3 rv4 => (if (rv3 != rv4) = true then (K0 4 4 true (upd (upd (upd (upd (fun _ => 0) 0 (IntKind.i64.wrap (Int.tdiv mv2 (IntKind.i64.wrap ((IntKind.i64.wrap ((c0 1) * (c0 1))) * (c0 1)))))) 1 (Int.tmod (IntKind.i64.wrap (Int.tdiv mv2 (IntKind.i64.wrap ((c0 1) * (c0 1))))) (c0 1))) 2 (Int.tmod (IntKind.i64.wrap (Int.tdiv mv2 (c0 1))) (c0 1))) 3 (Int.tmod mv2 (c0 1)))) else (rec ((IntKind.i64.wrap (mv2 + 1)))))) c0 c1 ((IntKind.i64.wrap (Int.tdiv mv2 (IntKind.i64.wrap ((IntKind.i64.wrap ((c0 1) * (c0 1))) * (c0 1)))))) ((Int.tmod (IntKind.i64.wrap (Int.tdiv mv2 (IntKind.i64.wrap ((c0 1) * (c0 1))))) (c0 1))) ((Int.tmod (IntKind.i64.wrap (Int.tdiv mv2 (c0 1))) (c0 1))) ((Int.tmod mv2 (c0 1)))))))))) else out0)

noncomputable def spec_l02Fault.a0_0 {ρ : Type} (N : Nat) (K0 : Nat → Nat → Bool → (Nat → Int) → Option ρ) (K1 : Bool → Option ρ) : Option ρ :=
  (K1 false)

noncomputable def spec_l02Fault.l0 {ρ : Type} (N : Nat) (K0 : Nat → Nat → Bool → (Nat → Int) → Option ρ) (K1 : Bool → Option ρ) (c0 : Nat → Int) (c1 : Nat → Int) (out0 : Option ρ) : Nat → Int → Option ρ
  | 0, _ => none
  | m + 1, mv2 => (spec_l02Fault.b0 N K0 K1 ((spec_l02Fault.l0 N K0 K1 c0 c1 out0 m)) out0 c0 c1 mv2)

noncomputable def spec_l02Fault.s {ρ : Type} (N : Nat) (K0 : Nat → Nat → Bool → (Nat → Int) → Option ρ) (K1 : Bool → Option ρ) (lp0 : Int → Option ρ) : Option ρ :=
  (lp0 0)

noncomputable def spec_l02Fault {ρ : Type} (N : Nat) (K0 : Nat → Nat → Bool → (Nat → Int) → Option ρ) (K1 : Bool → Option ρ) (c0 : Nat → Int) (c1 : Nat → Int) : Option ρ :=
  (spec_l02Fault.s N K0 K1 (fun mv2 => (spec_l02Fault.l0 N K0 K1 c0 c1 (spec_l02Fault.a0_0 N K0 K1) N mv2)))

noncomputable def spec_l01Add.b0 {ρ : Type} (N : Nat) (K0 : (Nat → Int) → Option ρ) (rec : Int → (Nat → Int) → Option ρ) (out0 : (Nat → Int) → Option ρ) (p0 : Int) (w2 : Nat → Int) (k3 : Int) (i4 : Int) (gv5 : Nat → Int) : Option ρ :=
  (if (decide (i4 < 8)) = true then (if (0 : Int) ≤ i4 ∧ i4 < 8 then (if (0 : Int) ≤ i4 ∧ i4 < 8 then (spec_l01Mod N (fun rv6 => (if (0 : Int) ≤ i4 ∧ i4 < 8 then (rec ((IntKind.i64.wrap (i4 + 1))) (upd gv5 (i4.toNat * 1) rv6)) else none)) p0 ((IntKind.i64.wrap ((IntKind.i64.wrap (gv5 (i4.toNat * 1))) + (IntKind.i64.wrap (k3 * (IntKind.i64.wrap (w2 (i4.toNat * 1))))))))) else none) else none) else (out0 gv5))

noncomputable def spec_l01Add.a0_0 {ρ : Type} (N : Nat) (K0 : (Nat → Int) → Option ρ) (ov7 : Nat → Int) : Option ρ :=
  (K0 ov7)

noncomputable def spec_l01Add.l0 {ρ : Type} (N : Nat) (K0 : (Nat → Int) → Option ρ) (p0 : Int) (w2 : Nat → Int) (k3 : Int) (out0 : (Nat → Int) → Option ρ) : Nat → Int → (Nat → Int) → Option ρ
  | 0, _, _ => none
  | m + 1, i4, gv5 => (spec_l01Add.b0 N K0 ((spec_l01Add.l0 N K0 p0 w2 k3 out0 m)) out0 p0 w2 k3 i4 gv5)

noncomputable def spec_l01Add.s {ρ : Type} (N : Nat) (K0 : (Nat → Int) → Option ρ) (lp0 : Int → (Nat → Int) → Option ρ) (v1 : Nat → Int) : Option ρ :=
  (lp0 0 v1)

noncomputable def spec_l01Add {ρ : Type} (N : Nat) (K0 : (Nat → Int) → Option ρ) (p0 : Int) (v1 : Nat → Int) (w2 : Nat → Int) (k3 : Int) : Option ρ :=
  (spec_l01Add.s N K0 (fun i4 gv5 => (spec_l01Add.l0 N K0 p0 w2 k3 (fun ov7 => (spec_l01Add.a0_0 N K0 ov7)) N i4 gv5)) v1)

noncomputable def spec_l01Basis {ρ : Type} (N : Nat) (K0 : (Nat → Int) → Option ρ) (i0 : Int) : Option ρ :=
  (if (0 : Int) ≤ i0 ∧ i0 < 8 then (K0 (upd (fun _ => 0) (i0.toNat * 1) 1)) else none)

noncomputable def spec_l02Counits.b2 {ρ : Type} (N : Nat) (K0 : Bool → Option ρ) (rec : Int → Int → Option ρ) (out0 : Int → Option ρ) (c0 : Nat → Int) (c1 : Nat → Int) (i2 : Int) (j3 : Int) (sum7 : Int) (k8 : Int) : Option ρ :=
  (if (decide (k8 < (c0 1))) = true then (if (0 : Int) ≤ k8 ∧ k8 < 8 then (if (0 : Int) ≤ i2 ∧ i2 < 8 then (if (0 : Int) ≤ j3 ∧ j3 < 8 then (if (0 : Int) ≤ k8 ∧ k8 < 8 then (rec ((IntKind.i64.wrap (sum7 + (IntKind.i64.wrap ((IntKind.i64.wrap (c1 (0 + (k8.toNat * 1)))) * (IntKind.i64.wrap (c1 (((8 + (i2.toNat * 64)) + (j3.toNat * 8)) + (k8.toNat * 1))))))))) ((IntKind.i64.wrap (k8 + 1)))) else none) else none) else none) else none) else (out0 sum7))

noncomputable def spec_l02Counits.a2_0 {ρ : Type} (N : Nat) (K0 : Bool → Option ρ) (rec : Int → (Nat → Int) → (Nat → Int) → Option ρ) (out0 : (Nat → Int) → (Nat → Int) → Option ρ) (c0 : Nat → Int) (j3 : Int) (gv5 : Nat → Int) (rv6 : Nat → Int) (ov9 : Int) : Option ρ :=
  (spec_l01Mod N (fun rv10 => (if (0 : Int) ≤ j3 ∧ j3 < 8 then (rec ((IntKind.i64.wrap (j3 + 1))) rv6 (upd gv5 (j3.toNat * 1) rv10)) else none)) ((c0 0)) ov9)

noncomputable def spec_l02Counits.b1 {ρ : Type} (N : Nat) (K0 : Bool → Option ρ) (lp2 : (Nat → Int) → Int → Int → Option ρ) (rec : Int → (Nat → Int) → (Nat → Int) → Option ρ) (out0 : (Nat → Int) → (Nat → Int) → Option ρ) (c0 : Nat → Int) (c1 : Nat → Int) (i2 : Int) (j3 : Int) (gv4 : Nat → Int) (gv5 : Nat → Int) : Option ρ :=
  (if (decide (j3 < (c0 1))) = true then (if (0 : Int) ≤ i2 ∧ i2 < 8 then (if (0 : Int) ≤ j3 ∧ j3 < 8 then (if (0 : Int) ≤ j3 ∧ j3 < 8 then (spec_l01Add N (fun rv6 => (lp2 rv6 0 0)) ((c0 0)) gv4 (fun z => (c1 (((8 + (i2.toNat * 64)) + (j3.toNat * 8)) + z))) ((IntKind.i64.wrap (c1 (0 + (j3.toNat * 1)))))) else none) else none) else none) else (out0 gv4 gv5))

noncomputable def spec_l02Counits.a1_0 {ρ : Type} (N : Nat) (K0 : Bool → Option ρ) (rec : Int → Option ρ) (out0 : Option ρ) (i2 : Int) (ov11 : Nat → Int) (ov12 : Nat → Int) : Option ρ :=
  (spec_l01Basis N (fun rv13 => (if (!eqN 8 ov11 rv13) = true then (K0 false) else (spec_l01Basis N (fun rv14 => (if (!eqN 8 ov12 rv14) = true then (K0 false) else (rec ((IntKind.i64.wrap (i2 + 1)))))) i2))) i2)

noncomputable def spec_l02Counits.b0 {ρ : Type} (N : Nat) (K0 : Bool → Option ρ) (lp1 : Int → (Nat → Int) → (Nat → Int) → Option ρ) (rec : Int → Option ρ) (out0 : Option ρ) (c0 : Nat → Int) (i2 : Int) : Option ρ :=
  (if (decide (i2 < (c0 1))) = true then (lp1 0 (fun _ => 0) (fun _ => 0)) else out0)

noncomputable def spec_l02Counits.a0_0 {ρ : Type} (N : Nat) (K0 : Bool → Option ρ) : Option ρ :=
  (K0 true)

noncomputable def spec_l02Counits.l2 {ρ : Type} (N : Nat) (K0 : Bool → Option ρ) (c0 : Nat → Int) (c1 : Nat → Int) (i2 : Int) (j3 : Int) (out0 : Int → Option ρ) : Nat → Int → Int → Option ρ
  | 0, _, _ => none
  | m + 1, sum7, k8 => (spec_l02Counits.b2 N K0 ((spec_l02Counits.l2 N K0 c0 c1 i2 j3 out0 m)) out0 c0 c1 i2 j3 sum7 k8)

noncomputable def spec_l02Counits.l1 {ρ : Type} (N : Nat) (K0 : Bool → Option ρ) (c0 : Nat → Int) (c1 : Nat → Int) (i2 : Int) (out0 : (Nat → Int) → (Nat → Int) → Option ρ) : Nat → Int → (Nat → Int) → (Nat → Int) → Option ρ
  | 0, _, _, _ => none
  | m + 1, j3, gv4, gv5 => (spec_l02Counits.b1 N K0 (fun rv6 sum7 k8 => (spec_l02Counits.l2 N K0 c0 c1 i2 j3 (fun ov9 => (spec_l02Counits.a2_0 N K0 (spec_l02Counits.l1 N K0 c0 c1 i2 out0 m) out0 c0 j3 gv5 rv6 ov9)) N sum7 k8)) ((spec_l02Counits.l1 N K0 c0 c1 i2 out0 m)) out0 c0 c1 i2 j3 gv4 gv5)

noncomputable def spec_l02Counits.l0 {ρ : Type} (N : Nat) (K0 : Bool → Option ρ) (c0 : Nat → Int) (c1 : Nat → Int) (out0 : Option ρ) : Nat → Int → Option ρ
  | 0, _ => none
  | m + 1, i2 => (spec_l02Counits.b0 N K0 (fun j3 gv4 gv5 => (spec_l02Counits.l1 N K0 c0 c1 i2 (fun ov11 ov12 => (spec_l02Counits.a1_0 N K0 (spec_l02Counits.l0 N K0 c0 c1 out0 m) out0 i2 ov11 ov12)) N j3 gv4 gv5)) ((spec_l02Counits.l0 N K0 c0 c1 out0 m)) out0 c0 i2)

noncomputable def spec_l02Counits.s {ρ : Type} (N : Nat) (K0 : Bool → Option ρ) (lp0 : Int → Option ρ) : Option ρ :=
  (lp0 0)

noncomputable def spec_l02Counits {ρ : Type} (N : Nat) (K0 : Bool → Option ρ) (c0 : Nat → Int) (c1 : Nat → Int) : Option ρ :=
  (spec_l02Counits.s N K0 (fun i2 => (spec_l02Counits.l0 N K0 c0 c1 (spec_l02Counits.a0_0 N K0) N i2)))

noncomputable def spec_l02Is {ρ : Type} (N : Nat) (K0 : Bool → Option ρ) (c0 : Nat → Int) (c1 : Nat → Int) : Option ρ :=
  (spec_l02Shape N (fun rv2 => (if (!rv2) = true then (K0 false) else (spec_l02Fault N (fun rv3 rv4 rv5 rv6 => (if (!rv5) = true then (spec_l02Counits N (fun rv7 => (K0 (rv7))) c0 c1) else (K0 false))) (fun rv8 => (if (!rv8) = true then (spec_l02Counits N (fun rv9 => (K0 (rv9))) c0 c1) else (K0 false))) c0 c1))) c0 c1)

noncomputable def spec_l02Count.b0 {ρ : Type} (N : Nat) (K0 : Int → Option ρ) (rec : Int → Int → Option ρ) (out0 : Int → Option ρ) (p0 : Int) (nv2 : Int) (outv3 : Int) : Option ρ :=
  (if (decide (nv2 > 0)) = true then (if (decide (outv3 ≤ 5000)) = true then (rec ((IntKind.i64.wrap (nv2 - 1))) ((IntKind.i64.wrap (outv3 * p0)))) else (out0 outv3)) else (out0 outv3))

noncomputable def spec_l02Count.a0_0 {ρ : Type} (N : Nat) (K0 : Int → Option ρ) (ov4 : Int) : Option ρ :=
  (K0 ((if 5001 < ov4 then 5001 else ov4)))

noncomputable def spec_l02Count.l0 {ρ : Type} (N : Nat) (K0 : Int → Option ρ) (p0 : Int) (out0 : Int → Option ρ) : Nat → Int → Int → Option ρ
  | 0, _, _ => none
  | m + 1, nv2, outv3 => (spec_l02Count.b0 N K0 ((spec_l02Count.l0 N K0 p0 out0 m)) out0 p0 nv2 outv3)

noncomputable def spec_l02Count.s {ρ : Type} (N : Nat) (K0 : Int → Option ρ) (lp0 : Int → Int → Option ρ) (nv1 : Int) : Option ρ :=
  (lp0 nv1 1)

noncomputable def spec_l02Count {ρ : Type} (N : Nat) (K0 : Int → Option ρ) (p0 : Int) (nv1 : Int) : Option ρ :=
  (spec_l02Count.s N K0 (fun nv2 outv3 => (spec_l02Count.l0 N K0 p0 (fun ov4 => (spec_l02Count.a0_0 N K0 ov4)) N nv2 outv3)) nv1)

noncomputable def spec_l02Counit.b0 {ρ : Type} (N : Nat) (K0 : Int → Option ρ) (rec : Int → Int → Option ρ) (out0 : Int → Option ρ) (c1 : Nat → Int) (v2 : Nat → Int) (sum3 : Int) (i4 : Int) : Option ρ :=
  (if (decide (i4 < 8)) = true then (if (0 : Int) ≤ i4 ∧ i4 < 8 then (if (0 : Int) ≤ i4 ∧ i4 < 8 then (rec ((IntKind.i64.wrap (sum3 + (IntKind.i64.wrap ((IntKind.i64.wrap (v2 (i4.toNat * 1))) * (IntKind.i64.wrap (c1 (0 + (i4.toNat * 1))))))))) ((IntKind.i64.wrap (i4 + 1)))) else none) else none) else (out0 sum3))

noncomputable def spec_l02Counit.a0_0 {ρ : Type} (N : Nat) (K0 : Int → Option ρ) (c0 : Nat → Int) (ov5 : Int) : Option ρ :=
  (if (c0 0) = 0 then none else (K0 ((Int.tmod ov5 (c0 0)))))

noncomputable def spec_l02Counit.l0 {ρ : Type} (N : Nat) (K0 : Int → Option ρ) (c1 : Nat → Int) (v2 : Nat → Int) (out0 : Int → Option ρ) : Nat → Int → Int → Option ρ
  | 0, _, _ => none
  | m + 1, sum3, i4 => (spec_l02Counit.b0 N K0 ((spec_l02Counit.l0 N K0 c1 v2 out0 m)) out0 c1 v2 sum3 i4)

noncomputable def spec_l02Counit.s {ρ : Type} (N : Nat) (K0 : Int → Option ρ) (lp0 : Int → Int → Option ρ) : Option ρ :=
  (lp0 0 0)

noncomputable def spec_l02Counit {ρ : Type} (N : Nat) (K0 : Int → Option ρ) (c0 : Nat → Int) (c1 : Nat → Int) (v2 : Nat → Int) : Option ρ :=
  (spec_l02Counit.s N K0 (fun sum3 i4 => (spec_l02Counit.l0 N K0 c1 v2 (fun ov5 => (spec_l02Counit.a0_0 N K0 c0 ov5)) N sum3 i4)))

noncomputable def spec_l02Coproduct.b1 {ρ : Type} (N : Nat) (K0 : (Nat → Int) → Option ρ) (rec : Int → (Nat → Int) → Option ρ) (out0 : (Nat → Int) → Option ρ) (c0 : Nat → Int) (c1 : Nat → Int) (v2 : Nat → Int) (i3 : Int) (j5 : Int) (gv6 : Nat → Int) : Option ρ :=
  (if (decide (j5 < (c0 1))) = true then (if (0 : Int) ≤ j5 ∧ j5 < 8 then (if (0 : Int) ≤ i3 ∧ i3 < 8 then (if (0 : Int) ≤ j5 ∧ j5 < 8 then (if (0 : Int) ≤ i3 ∧ i3 < 8 then (spec_l01Add N (fun rv7 => (if (0 : Int) ≤ j5 ∧ j5 < 8 then (rec ((IntKind.i64.wrap (j5 + 1))) (updN gv6 (j5.toNat * 8) 8 rv7)) else none)) ((c0 0)) (fun z => (gv6 ((j5.toNat * 8) + z))) (fun z => (c1 (((8 + (i3.toNat * 64)) + (j5.toNat * 8)) + z))) ((IntKind.i64.wrap (v2 (i3.toNat * 1))))) else none) else none) else none) else none) else (out0 gv6))

noncomputable def spec_l02Coproduct.a1_0 {ρ : Type} (N : Nat) (K0 : (Nat → Int) → Option ρ) (rec : Int → (Nat → Int) → Option ρ) (out0 : (Nat → Int) → Option ρ) (i3 : Int) (ov8 : Nat → Int) : Option ρ :=
  (rec ((IntKind.i64.wrap (i3 + 1))) ov8)

noncomputable def spec_l02Coproduct.b0 {ρ : Type} (N : Nat) (K0 : (Nat → Int) → Option ρ) (lp1 : Int → (Nat → Int) → Option ρ) (rec : Int → (Nat → Int) → Option ρ) (out0 : (Nat → Int) → Option ρ) (c0 : Nat → Int) (i3 : Int) (gv4 : Nat → Int) : Option ρ :=
  (if (decide (i3 < (c0 1))) = true then (lp1 0 gv4) else (out0 gv4))

noncomputable def spec_l02Coproduct.a0_0 {ρ : Type} (N : Nat) (K0 : (Nat → Int) → Option ρ) (ov9 : Nat → Int) : Option ρ :=
  (K0 ov9)

noncomputable def spec_l02Coproduct.l1 {ρ : Type} (N : Nat) (K0 : (Nat → Int) → Option ρ) (c0 : Nat → Int) (c1 : Nat → Int) (v2 : Nat → Int) (i3 : Int) (out0 : (Nat → Int) → Option ρ) : Nat → Int → (Nat → Int) → Option ρ
  | 0, _, _ => none
  | m + 1, j5, gv6 => (spec_l02Coproduct.b1 N K0 ((spec_l02Coproduct.l1 N K0 c0 c1 v2 i3 out0 m)) out0 c0 c1 v2 i3 j5 gv6)

noncomputable def spec_l02Coproduct.l0 {ρ : Type} (N : Nat) (K0 : (Nat → Int) → Option ρ) (c0 : Nat → Int) (c1 : Nat → Int) (v2 : Nat → Int) (out0 : (Nat → Int) → Option ρ) : Nat → Int → (Nat → Int) → Option ρ
  | 0, _, _ => none
  | m + 1, i3, gv4 => (spec_l02Coproduct.b0 N K0 (fun j5 gv6 => (spec_l02Coproduct.l1 N K0 c0 c1 v2 i3 (fun ov8 => (spec_l02Coproduct.a1_0 N K0 (spec_l02Coproduct.l0 N K0 c0 c1 v2 out0 m) out0 i3 ov8)) N j5 gv6)) ((spec_l02Coproduct.l0 N K0 c0 c1 v2 out0 m)) out0 c0 i3 gv4)

noncomputable def spec_l02Coproduct.s {ρ : Type} (N : Nat) (K0 : (Nat → Int) → Option ρ) (lp0 : Int → (Nat → Int) → Option ρ) : Option ρ :=
  (lp0 0 (fun _ => 0))

noncomputable def spec_l02Coproduct {ρ : Type} (N : Nat) (K0 : (Nat → Int) → Option ρ) (c0 : Nat → Int) (c1 : Nat → Int) (v2 : Nat → Int) : Option ρ :=
  (spec_l02Coproduct.s N K0 (fun i3 gv4 => (spec_l02Coproduct.l0 N K0 c0 c1 v2 (fun ov9 => (spec_l02Coproduct.a0_0 N K0 ov9)) N i3 gv4)))

noncomputable def spec_l02Outer.b0 {ρ : Type} (N : Nat) (K0 : (Nat → Int) → Option ρ) (rec : Int → (Nat → Int) → Option ρ) (out0 : (Nat → Int) → Option ρ) (p0 : Int) (v1 : Nat → Int) (w2 : Nat → Int) (j3 : Int) (gv4 : Nat → Int) : Option ρ :=
  (if (decide (j3 < 8)) = true then (if (0 : Int) ≤ j3 ∧ j3 < 8 then (spec_l01Add N (fun rv5 => (if (0 : Int) ≤ j3 ∧ j3 < 8 then (rec ((IntKind.i64.wrap (j3 + 1))) (updN gv4 (j3.toNat * 8) 8 rv5)) else none)) p0 (fun _ => 0) w2 ((IntKind.i64.wrap (v1 (j3.toNat * 1))))) else none) else (out0 gv4))

noncomputable def spec_l02Outer.a0_0 {ρ : Type} (N : Nat) (K0 : (Nat → Int) → Option ρ) (ov6 : Nat → Int) : Option ρ :=
  (K0 ov6)

noncomputable def spec_l02Outer.l0 {ρ : Type} (N : Nat) (K0 : (Nat → Int) → Option ρ) (p0 : Int) (v1 : Nat → Int) (w2 : Nat → Int) (out0 : (Nat → Int) → Option ρ) : Nat → Int → (Nat → Int) → Option ρ
  | 0, _, _ => none
  | m + 1, j3, gv4 => (spec_l02Outer.b0 N K0 ((spec_l02Outer.l0 N K0 p0 v1 w2 out0 m)) out0 p0 v1 w2 j3 gv4)

noncomputable def spec_l02Outer.s {ρ : Type} (N : Nat) (K0 : (Nat → Int) → Option ρ) (lp0 : Int → (Nat → Int) → Option ρ) : Option ρ :=
  (lp0 0 (fun _ => 0))

noncomputable def spec_l02Outer {ρ : Type} (N : Nat) (K0 : (Nat → Int) → Option ρ) (p0 : Int) (v1 : Nat → Int) (w2 : Nat → Int) : Option ρ :=
  (spec_l02Outer.s N K0 (fun j3 gv4 => (spec_l02Outer.l0 N K0 p0 v1 w2 (fun ov6 => (spec_l02Outer.a0_0 N K0 ov6)) N j3 gv4)))

noncomputable def spec_l02Group {ρ : Type} (N : Nat) (K0 : Bool → Option ρ) (c0 : Nat → Int) (c1 : Nat → Int) (v2 : Nat → Int) : Option ρ :=
  (spec_l02Counit N (fun rv3 => (if (rv3 == 1) = true then (spec_l02Coproduct N (fun rv4 => (spec_l02Outer N (fun rv5 => (K0 ((eqN 64 rv4 rv5)))) ((c0 0)) v2 v2)) c0 c1 v2) else (K0 false))) c0 c1 v2)

noncomputable def spec_l02Groups.b1 {ρ : Type} (N : Nat) (K0 : Nat → (Nat → Int) → Option ρ) (rec : Int → Int → (Nat → Int) → Option ρ) (out0 : (Nat → Int) → Option ρ) (c0 : Nat → Int) (rest6 : Int) (i7 : Int) (gv8 : Nat → Int) : Option ρ :=
  (if (decide (i7 ≥ 0)) = true then (if (c0 0) = 0 then none else (if (0 : Int) ≤ i7 ∧ i7 < 8 then (if (c0 0) = 0 then none else (rec ((IntKind.i64.wrap (Int.tdiv rest6 (c0 0)))) ((IntKind.i64.wrap (i7 - 1))) (upd gv8 (i7.toNat * 1) (IntKind.u8.wrap (Int.tmod rest6 (c0 0)))))) else none)) else (out0 gv8))

noncomputable def spec_l02Groups.a1_0 {ρ : Type} (N : Nat) (K0 : Nat → (Nat → Int) → Option ρ) (rec : Nat → Int → (Nat → Int) → Option ρ) (out0 : Nat → (Nat → Int) → Option ρ) (c0 : Nat → Int) (c1 : Nat → Int) (outv3 : Nat) (mv4 : Int) (gv5 : Nat → Int) (ov9 : Nat → Int) : Option ρ :=
  (spec_l02Counit N (fun rv10 => (if (rv10 == 1) = true then (spec_l02Group N (fun rv11 => (if rv11 = true then (if (outv3 + 1) * 8 ≤ 140737488355328 then (rec (outv3 + 1) ((IntKind.i64.wrap (mv4 + 1))) (joinN (outv3 * 8) gv5 ov9)) else none) else (rec outv3 ((IntKind.i64.wrap (mv4 + 1))) gv5))) c0 c1 ov9) else (rec outv3 ((IntKind.i64.wrap (mv4 + 1))) gv5))) c0 c1 ov9)

noncomputable def spec_l02Groups.b0 {ρ : Type} (N : Nat) (K0 : Nat → (Nat → Int) → Option ρ) (lp1 : Int → Int → (Nat → Int) → Option ρ) (rec : Nat → Int → (Nat → Int) → Option ρ) (out0 : Nat → (Nat → Int) → Option ρ) (c0 : Nat → Int) (rv2 : Int) (outv3 : Nat) (mv4 : Int) (gv5 : Nat → Int) : Option ρ :=
  (if (decide (mv4 < rv2)) = true then (lp1 mv4 ((IntKind.i64.wrap ((c0 1) - 1))) (fun _ => 0)) else (out0 outv3 gv5))

noncomputable def spec_l02Groups.a0_0 {ρ : Type} (N : Nat) (K0 : Nat → (Nat → Int) → Option ρ) (ov12 : Nat) (ov13 : Nat → Int) : Option ρ :=
  (K0 ov12 ov13)

noncomputable def spec_l02Groups.l1 {ρ : Type} (N : Nat) (K0 : Nat → (Nat → Int) → Option ρ) (c0 : Nat → Int) (out0 : (Nat → Int) → Option ρ) : Nat → Int → Int → (Nat → Int) → Option ρ
  | 0, _, _, _ => none
  | m + 1, rest6, i7, gv8 => (spec_l02Groups.b1 N K0 ((spec_l02Groups.l1 N K0 c0 out0 m)) out0 c0 rest6 i7 gv8)

noncomputable def spec_l02Groups.l0 {ρ : Type} (N : Nat) (K0 : Nat → (Nat → Int) → Option ρ) (c0 : Nat → Int) (c1 : Nat → Int) (rv2 : Int) (out0 : Nat → (Nat → Int) → Option ρ) : Nat → Nat → Int → (Nat → Int) → Option ρ
  | 0, _, _, _ => none
  | m + 1, outv3, mv4, gv5 => (spec_l02Groups.b0 N K0 (fun rest6 i7 gv8 => (spec_l02Groups.l1 N K0 c0 (fun ov9 => (spec_l02Groups.a1_0 N K0 (spec_l02Groups.l0 N K0 c0 c1 rv2 out0 m) out0 c0 c1 outv3 mv4 gv5 ov9)) N rest6 i7 gv8)) ((spec_l02Groups.l0 N K0 c0 c1 rv2 out0 m)) out0 c0 rv2 outv3 mv4 gv5)

noncomputable def spec_l02Groups.s {ρ : Type} (N : Nat) (K0 : Nat → (Nat → Int) → Option ρ) (lp0 : Int → Nat → Int → (Nat → Int) → Option ρ) (c0 : Nat → Int) : Option ρ :=
  (spec_l02Count N (fun rv2 => (lp0 rv2 0 0 (fun _ => 0))) ((c0 0)) ((c0 1)))

noncomputable def spec_l02Groups {ρ : Type} (N : Nat) (K0 : Nat → (Nat → Int) → Option ρ) (c0 : Nat → Int) (c1 : Nat → Int) : Option ρ :=
  (spec_l02Groups.s N K0 (fun rv2 outv3 mv4 gv5 => (spec_l02Groups.l0 N K0 c0 c1 rv2 (fun ov12 ov13 => (spec_l02Groups.a0_0 N K0 ov12 ov13)) N outv3 mv4 gv5)) c0)

noncomputable def spec_GroupLikes {ρ : Type} (N : Nat) (K0 : Nat → Int → (Nat → Int) → Option ρ) (c0 : Nat → Int) (c1 : Nat → Int) : Option ρ :=
  (spec_l02Is N (fun rv2 => (if (!rv2) = true then (K0 0 1 (fun _ => 0)) else (spec_l02Count N (fun rv3 => (if (decide (rv3 > 5000)) = true then (K0 0 3 (fun _ => 0)) else (spec_l02Groups N (fun rv4 rv5 => (K0 rv4 0 rv5)) c0 c1))) ((c0 0)) ((c0 1))))) c0 c1)

noncomputable def impl_IsPrime.b0 {ρ : Type} (N : Nat) (K0 : Bool → Option ρ) (rec : Int → Option ρ) (out0 : Option ρ) (p0 : Int) (k1 : Int) : Option ρ :=
  (if (decide ((IntKind.i64.wrap (k1 * k1)) ≤ p0)) = true then (if k1 = 0 then none else (if ((Int.tmod p0 k1) == 0) = true then (K0 false) else (rec ((IntKind.i64.wrap (k1 + 1)))))) else out0)

noncomputable def impl_IsPrime.a0_0 {ρ : Type} (N : Nat) (K0 : Bool → Option ρ) : Option ρ :=
  (K0 true)

noncomputable def impl_IsPrime.l0 {ρ : Type} (N : Nat) (K0 : Bool → Option ρ) (p0 : Int) (out0 : Option ρ) : Nat → Int → Option ρ
  | 0, _ => none
  | m + 1, k1 => (impl_IsPrime.b0 N K0 ((impl_IsPrime.l0 N K0 p0 out0 m)) out0 p0 k1)

noncomputable def impl_IsPrime.s {ρ : Type} (N : Nat) (K0 : Bool → Option ρ) (lp0 : Int → Option ρ) (p0 : Int) : Option ρ :=
  (if (decide (p0 < 2)) = true then (K0 false) else (if (decide (p0 > 31)) = true then (K0 false) else (lp0 2)))

noncomputable def impl_IsPrime {ρ : Type} (N : Nat) (K0 : Bool → Option ρ) (p0 : Int) : Option ρ :=
  (impl_IsPrime.s N K0 (fun k1 => (impl_IsPrime.l0 N K0 p0 (impl_IsPrime.a0_0 N K0) N k1)) p0)

noncomputable def impl_in {ρ : Type} (N : Nat) (K0 : Bool → Option ρ) (x0 : Int) (least1 : Int) (most2 : Int) : Option ρ :=
  (if (decide (least1 ≤ x0)) = true then (K0 ((decide (x0 ≤ most2)))) else (K0 false))

noncomputable def impl_IsVector.b0 {ρ : Type} (N : Nat) (K0 : Bool → Option ρ) (rec : Int → Option ρ) (out0 : Option ρ) (p0 : Int) (nv1 : Int) (v2 : Nat → Int) (x5 : Int) : Option ρ :=
  (if (decide (x5 < 8)) = true then (if (0 : Int) ≤ x5 ∧ x5 < 8 then (if (decide ((IntKind.i64.wrap (v2 x5.toNat)) ≥ p0)) = true then (K0 false) else (if (decide (x5 ≥ nv1)) = true then (if ((v2 x5.toNat) != 0) = true then (K0 false) else (rec ((IntKind.i64.wrap (x5 + 1))))) else (rec ((IntKind.i64.wrap (x5 + 1)))))) else none) else out0)

noncomputable def impl_IsVector.a0_0 {ρ : Type} (N : Nat) (K0 : Bool → Option ρ) : Option ρ :=
  (K0 true)

noncomputable def impl_IsVector.l0 {ρ : Type} (N : Nat) (K0 : Bool → Option ρ) (p0 : Int) (nv1 : Int) (v2 : Nat → Int) (out0 : Option ρ) : Nat → Int → Option ρ
  | 0, _ => none
  | m + 1, x5 => (impl_IsVector.b0 N K0 ((impl_IsVector.l0 N K0 p0 nv1 v2 out0 m)) out0 p0 nv1 v2 x5)

noncomputable def impl_IsVector.s {ρ : Type} (N : Nat) (K0 : Bool → Option ρ) (lp0 : Int → Option ρ) (p0 : Int) (nv1 : Int) : Option ρ :=
  (impl_IsPrime N (fun rv3 => (if (!rv3) = true then (K0 false) else (impl_in N (fun rv4 => (if (!rv4) = true then (K0 false) else (lp0 0))) nv1 1 8))) p0)

noncomputable def impl_IsVector {ρ : Type} (N : Nat) (K0 : Bool → Option ρ) (p0 : Int) (nv1 : Int) (v2 : Nat → Int) : Option ρ :=
  (impl_IsVector.s N K0 (fun x5 => (impl_IsVector.l0 N K0 p0 nv1 v2 (impl_IsVector.a0_0 N K0) N x5)) p0 nv1)

noncomputable def impl_isLinear.b0 {ρ : Type} (N : Nat) (K0 : Bool → Option ρ) (rec : Int → Option ρ) (out0 : Option ρ) (p0 : Int) (nv1 : Int) (size2 : Int) (gv3 : Nat → Int) (x4 : Int) : Option ρ :=
  (if (decide (x4 < 8)) = true then (if (0 : Int) ≤ x4 ∧ x4 < 8 then (impl_IsVector N (fun rv5 => (if (!rv5) = true then (K0 false) else (if (decide (x4 ≥ nv1)) = true then (if (!eqN 8 (fun z => (gv3 ((x4.toNat * 8) + z))) (fun _ => 0)) = true then (K0 false) else (rec ((IntKind.i64.wrap (x4 + 1))))) else (rec ((IntKind.i64.wrap (x4 + 1))))))) p0 size2 (fun z => (gv3 ((x4.toNat * 8) + z)))) else none) else out0)

noncomputable def impl_isLinear.a0_0 {ρ : Type} (N : Nat) (K0 : Bool → Option ρ) : Option ρ :=
  (K0 true)

noncomputable def impl_isLinear.l0 {ρ : Type} (N : Nat) (K0 : Bool → Option ρ) (p0 : Int) (nv1 : Int) (size2 : Int) (gv3 : Nat → Int) (out0 : Option ρ) : Nat → Int → Option ρ
  | 0, _ => none
  | m + 1, x4 => (impl_isLinear.b0 N K0 ((impl_isLinear.l0 N K0 p0 nv1 size2 gv3 out0 m)) out0 p0 nv1 size2 gv3 x4)

noncomputable def impl_isLinear.s {ρ : Type} (N : Nat) (K0 : Bool → Option ρ) (lp0 : Int → Option ρ) : Option ρ :=
  (lp0 0)

noncomputable def impl_isLinear {ρ : Type} (N : Nat) (K0 : Bool → Option ρ) (p0 : Int) (nv1 : Int) (size2 : Int) (gv3 : Nat → Int) : Option ρ :=
  (impl_isLinear.s N K0 (fun x4 => (impl_isLinear.l0 N K0 p0 nv1 size2 gv3 (impl_isLinear.a0_0 N K0) N x4)))

noncomputable def impl_isTable.b0 {ρ : Type} (N : Nat) (K0 : Bool → Option ρ) (rec : Int → Option ρ) (out0 : Option ρ) (p0 : Int) (nv1 : Int) (gv2 : Nat → Int) (x3 : Int) : Option ρ :=
  (if (decide (x3 < 8)) = true then (if (0 : Int) ≤ x3 ∧ x3 < 8 then (impl_isLinear N (fun rv4 => (if (!rv4) = true then (K0 false) else (if (decide (x3 ≥ nv1)) = true then (if (0 : Int) ≤ x3 ∧ x3 < 8 then (if (!eqN 64 (fun z => (gv2 ((x3.toNat * 64) + z))) (fun _ => 0)) = true then (K0 false) else (rec ((IntKind.i64.wrap (x3 + 1))))) else none) else (rec ((IntKind.i64.wrap (x3 + 1))))))) p0 nv1 nv1 (fun z => (gv2 ((x3.toNat * 64) + z)))) else none) else out0)

noncomputable def impl_isTable.a0_0 {ρ : Type} (N : Nat) (K0 : Bool → Option ρ) : Option ρ :=
  (K0 true)

noncomputable def impl_isTable.l0 {ρ : Type} (N : Nat) (K0 : Bool → Option ρ) (p0 : Int) (nv1 : Int) (gv2 : Nat → Int) (out0 : Option ρ) : Nat → Int → Option ρ
  | 0, _ => none
  | m + 1, x3 => (impl_isTable.b0 N K0 ((impl_isTable.l0 N K0 p0 nv1 gv2 out0 m)) out0 p0 nv1 gv2 x3)

noncomputable def impl_isTable.s {ρ : Type} (N : Nat) (K0 : Bool → Option ρ) (lp0 : Int → Option ρ) : Option ρ :=
  (lp0 0)

noncomputable def impl_isTable {ρ : Type} (N : Nat) (K0 : Bool → Option ρ) (p0 : Int) (nv1 : Int) (gv2 : Nat → Int) : Option ρ :=
  (impl_isTable.s N K0 (fun x3 => (impl_isTable.l0 N K0 p0 nv1 gv2 (impl_isTable.a0_0 N K0) N x3)))

noncomputable def impl_Coalgebra_isShaped {ρ : Type} (N : Nat) (K0 : Bool → Option ρ) (gv0 : Nat → Int) (gv1 : Nat → Int) : Option ρ :=
  (impl_IsVector N (fun rv2 => (if rv2 = true then (impl_isTable N (fun rv3 => (K0 (rv3))) ((gv0 0)) ((gv0 1)) (fun z => (gv1 (8 + z)))) else (K0 false))) ((gv0 0)) ((gv0 1)) (fun z => (gv1 (0 + z))))

noncomputable def impl_Coalgebra_field {ρ : Type} (N : Nat) (K0 : (Nat → Int) → Option ρ) (gv0 : Nat → Int) (gv1 : Nat → Int) : Option ρ :=
  (K0 (upd (upd (fun _ => 0) 0 (gv0 0)) 1 (gv0 1)))

noncomputable def impl_field_mod {ρ : Type} (N : Nat) (K0 : Int → Option ρ) (f0 : Nat → Int) (x1 : Int) : Option ρ :=
  (if (f0 0) = 0 then none else (if (decide ((Int.tmod x1 (f0 0)) < 0)) = true then (K0 ((IntKind.u8.wrap (IntKind.i64.wrap ((Int.tmod x1 (f0 0)) + (f0 0)))))) else (K0 ((IntKind.u8.wrap (Int.tmod x1 (f0 0)))))))

noncomputable def impl_field_plus.b0 {ρ : Type} (N : Nat) (K0 : (Nat → Int) → Option ρ) (rec : Int → (Nat → Int) → Option ρ) (out0 : (Nat → Int) → Option ρ) (f0 : Nat → Int) (k1 : Int) (w2 : Nat → Int) (x4 : Int) (gv5 : Nat → Int) : Option ρ :=
  (if (decide (x4 < 8)) = true then (if (0 : Int) ≤ x4 ∧ x4 < 8 then (if (0 : Int) ≤ x4 ∧ x4 < 8 then (impl_field_mod N (fun rv6 => (if (0 : Int) ≤ x4 ∧ x4 < 8 then (rec ((IntKind.i64.wrap (x4 + 1))) (upd gv5 (x4.toNat * 1) rv6)) else none)) f0 ((IntKind.i64.wrap ((IntKind.i64.wrap (gv5 (x4.toNat * 1))) + (IntKind.i64.wrap (k1 * (IntKind.i64.wrap (w2 x4.toNat)))))))) else none) else none) else (out0 gv5))

noncomputable def impl_field_plus.a0_0 {ρ : Type} (N : Nat) (K0 : (Nat → Int) → Option ρ) (ov7 : Nat → Int) : Option ρ :=
  (K0 ov7)

noncomputable def impl_field_plus.l0 {ρ : Type} (N : Nat) (K0 : (Nat → Int) → Option ρ) (f0 : Nat → Int) (k1 : Int) (w2 : Nat → Int) (out0 : (Nat → Int) → Option ρ) : Nat → Int → (Nat → Int) → Option ρ
  | 0, _, _ => none
  | m + 1, x4, gv5 => (impl_field_plus.b0 N K0 ((impl_field_plus.l0 N K0 f0 k1 w2 out0 m)) out0 f0 k1 w2 x4 gv5)

noncomputable def impl_field_plus.s {ρ : Type} (N : Nat) (K0 : (Nat → Int) → Option ρ) (lp0 : Int → (Nat → Int) → Option ρ) (k1 : Int) (gv3 : Nat → Int) : Option ρ :=
  (if (k1 == 0) = true then (K0 gv3) else (lp0 0 gv3))

noncomputable def impl_field_plus {ρ : Type} (N : Nat) (K0 : (Nat → Int) → Option ρ) (f0 : Nat → Int) (k1 : Int) (w2 : Nat → Int) (gv3 : Nat → Int) : Option ρ :=
  (impl_field_plus.s N K0 (fun x4 gv5 => (impl_field_plus.l0 N K0 f0 k1 w2 (fun ov7 => (impl_field_plus.a0_0 N K0 ov7)) N x4 gv5)) k1 gv3)

noncomputable def impl_field_dot.b0 {ρ : Type} (N : Nat) (K0 : Int → Option ρ) (rec : Int → Int → Option ρ) (out0 : Int → Option ρ) (v1 : Nat → Int) (w2 : Nat → Int) (outv3 : Int) (x4 : Int) : Option ρ :=
  (if (decide (x4 < 8)) = true then (if (0 : Int) ≤ x4 ∧ x4 < 8 then (if (0 : Int) ≤ x4 ∧ x4 < 8 then (rec ((IntKind.i64.wrap (outv3 + (IntKind.i64.wrap ((IntKind.i64.wrap (v1 x4.toNat)) * (IntKind.i64.wrap (w2 (x4.toNat * 1)))))))) ((IntKind.i64.wrap (x4 + 1)))) else none) else none) else (out0 outv3))

noncomputable def impl_field_dot.a0_0 {ρ : Type} (N : Nat) (K0 : Int → Option ρ) (f0 : Nat → Int) (ov5 : Int) : Option ρ :=
  (if (f0 0) = 0 then none else (K0 ((Int.tmod ov5 (f0 0)))))

noncomputable def impl_field_dot.l0 {ρ : Type} (N : Nat) (K0 : Int → Option ρ) (v1 : Nat → Int) (w2 : Nat → Int) (out0 : Int → Option ρ) : Nat → Int → Int → Option ρ
  | 0, _, _ => none
  | m + 1, outv3, x4 => (impl_field_dot.b0 N K0 ((impl_field_dot.l0 N K0 v1 w2 out0 m)) out0 v1 w2 outv3 x4)

noncomputable def impl_field_dot.s {ρ : Type} (N : Nat) (K0 : Int → Option ρ) (lp0 : Int → Int → Option ρ) : Option ρ :=
  (lp0 0 0)

noncomputable def impl_field_dot {ρ : Type} (N : Nat) (K0 : Int → Option ρ) (f0 : Nat → Int) (v1 : Nat → Int) (w2 : Nat → Int) : Option ρ :=
  (impl_field_dot.s N K0 (fun outv3 x4 => (impl_field_dot.l0 N K0 v1 w2 (fun ov5 => (impl_field_dot.a0_0 N K0 f0 ov5)) N outv3 x4)))

noncomputable def impl_basis {ρ : Type} (N : Nat) (K0 : (Nat → Int) → Option ρ) (i0 : Int) : Option ρ :=
  (if (0 : Int) ≤ i0 ∧ i0 < 8 then (K0 (upd (fun _ => 0) (i0.toNat * 1) 1)) else none)

noncomputable def impl_Coalgebra_isCounit.b1 {ρ : Type} (N : Nat) (K0 : Bool → Option ρ) (rec : Int → (Nat → Int) → (Nat → Int) → Option ρ) (out0 : (Nat → Int) → (Nat → Int) → Option ρ) (gv1 : Nat → Int) (rv2 : Nat → Int) (x3 : Int) (x4 : Int) (gv5 : Nat → Int) (gv6 : Nat → Int) : Option ρ :=
  (if (decide (x4 < (rv2 1))) = true then (if (0 : Int) ≤ x4 ∧ x4 < 8 then (if (0 : Int) ≤ x3 ∧ x3 < 8 then (if (0 : Int) ≤ x4 ∧ x4 < 8 then (impl_field_plus N (fun rv7 => (if (0 : Int) ≤ x3 ∧ x3 < 8 then (if (0 : Int) ≤ x4 ∧ x4 < 8 then (impl_field_dot N (fun rv8 => (if (0 : Int) ≤ x4 ∧ x4 < 8 then (rec ((IntKind.i64.wrap (x4 + 1))) rv7 (upd gv6 (x4.toNat * 1) (IntKind.u8.wrap rv8))) else none)) rv2 (fun z => (gv1 (0 + z))) (fun z => (gv1 (((8 + (x3.toNat * 64)) + (x4.toNat * 8)) + z)))) else none) else none)) rv2 ((IntKind.i64.wrap (gv1 (0 + (x4.toNat * 1))))) (fun z => (gv1 (((8 + (x3.toNat * 64)) + (x4.toNat * 8)) + z))) gv5) else none) else none) else none) else (out0 gv5 gv6))

noncomputable def impl_Coalgebra_isCounit.a1_0 {ρ : Type} (N : Nat) (K0 : Bool → Option ρ) (rec : Int → Option ρ) (out0 : Option ρ) (x3 : Int) (ov9 : Nat → Int) (ov10 : Nat → Int) : Option ρ :=
  (impl_basis N (fun rv11 => (if (!eqN 8 ov9 rv11) = true then (K0 false) else (impl_basis N (fun rv12 => (if (!eqN 8 ov10 rv12) = true then (K0 false) else (rec ((IntKind.i64.wrap (x3 + 1)))))) x3))) x3)

noncomputable def impl_Coalgebra_isCounit.b0 {ρ : Type} (N : Nat) (K0 : Bool → Option ρ) (lp1 : Int → (Nat → Int) → (Nat → Int) → Option ρ) (rec : Int → Option ρ) (out0 : Option ρ) (rv2 : Nat → Int) (x3 : Int) : Option ρ :=
  (if (decide (x3 < (rv2 1))) = true then (lp1 0 (fun _ => 0) (fun _ => 0)) else out0)

noncomputable def impl_Coalgebra_isCounit.a0_0 {ρ : Type} (N : Nat) (K0 : Bool → Option ρ) : Option ρ :=
  (K0 true)

noncomputable def impl_Coalgebra_isCounit.l1 {ρ : Type} (N : Nat) (K0 : Bool → Option ρ) (gv1 : Nat → Int) (rv2 : Nat → Int) (x3 : Int) (out0 : (Nat → Int) → (Nat → Int) → Option ρ) : Nat → Int → (Nat → Int) → (Nat → Int) → Option ρ
  | 0, _, _, _ => none
  | m + 1, x4, gv5, gv6 => (impl_Coalgebra_isCounit.b1 N K0 ((impl_Coalgebra_isCounit.l1 N K0 gv1 rv2 x3 out0 m)) out0 gv1 rv2 x3 x4 gv5 gv6)

noncomputable def impl_Coalgebra_isCounit.l0 {ρ : Type} (N : Nat) (K0 : Bool → Option ρ) (gv1 : Nat → Int) (rv2 : Nat → Int) (out0 : Option ρ) : Nat → Int → Option ρ
  | 0, _ => none
  | m + 1, x3 => (impl_Coalgebra_isCounit.b0 N K0 (fun x4 gv5 gv6 => (impl_Coalgebra_isCounit.l1 N K0 gv1 rv2 x3 (fun ov9 ov10 => (impl_Coalgebra_isCounit.a1_0 N K0 (impl_Coalgebra_isCounit.l0 N K0 gv1 rv2 out0 m) out0 x3 ov9 ov10)) N x4 gv5 gv6)) ((impl_Coalgebra_isCounit.l0 N K0 gv1 rv2 out0 m)) out0 rv2 x3)

noncomputable def impl_Coalgebra_isCounit.s {ρ : Type} (N : Nat) (K0 : Bool → Option ρ) (lp0 : (Nat → Int) → Int → Option ρ) (gv0 : Nat → Int) (gv1 : Nat → Int) : Option ρ :=
  (impl_Coalgebra_field N (fun rv2 => (lp0 rv2 0)) gv0 gv1)

noncomputable def impl_Coalgebra_isCounit {ρ : Type} (N : Nat) (K0 : Bool → Option ρ) (gv0 : Nat → Int) (gv1 : Nat → Int) : Option ρ :=
  (impl_Coalgebra_isCounit.s N K0 (fun rv2 x3 => (impl_Coalgebra_isCounit.l0 N K0 gv1 rv2 (impl_Coalgebra_isCounit.a0_0 N K0) N x3)) gv0 gv1)

noncomputable def impl_Coalgebra_isFault.b0 {ρ : Type} (N : Nat) (K0 : Bool → Option ρ) (rec : Int → Int → Int → Option ρ) (out0 : Int → Int → Option ρ) (i0 : Int) (j1 : Int) (k2 : Int) (lv3 : Int) (gv5 : Nat → Int) (rv6 : Nat → Int) (one7 : Int) (two8 : Int) (x9 : Int) : Option ρ :=
  (if (decide (x9 < (rv6 1))) = true then (if (0 : Int) ≤ i0 ∧ i0 < 8 then (if (0 : Int) ≤ x9 ∧ x9 < 8 then (if (0 : Int) ≤ lv3 ∧ lv3 < 8 then (if (0 : Int) ≤ x9 ∧ x9 < 8 then (if (0 : Int) ≤ j1 ∧ j1 < 8 then (if (0 : Int) ≤ k2 ∧ k2 < 8 then (if (0 : Int) ≤ i0 ∧ i0 < 8 then (if (0 : Int) ≤ j1 ∧ j1 < 8 then (if (0 : Int) ≤ x9 ∧ x9 < 8 then (if (0 : Int) ≤ x9 ∧ x9 < 8 then (if (0 : Int) ≤ k2 ∧ k2 < 8 then (if (0 : Int) ≤ lv3 ∧ lv3 < 8 then (rec ((IntKind.i64.wrap (one7 + (IntKind.i64.wrap ((IntKind.i64.wrap (gv5 (((8 + (i0.toNat * 64)) + (x9.toNat * 8)) + (lv3.toNat * 1)))) * (IntKind.i64.wrap (gv5 (((8 + (x9.toNat * 64)) + (j1.toNat * 8)) + (k2.toNat * 1))))))))) ((IntKind.i64.wrap (two8 + (IntKind.i64.wrap ((IntKind.i64.wrap (gv5 (((8 + (i0.toNat * 64)) + (j1.toNat * 8)) + (x9.toNat * 1)))) * (IntKind.i64.wrap (gv5 (((8 + (x9.toNat * 64)) + (k2.toNat * 8)) + (lv3.toNat * 1))))))))) ((IntKind.i64.wrap (x9 + 1)))) else none) else none) else none) else none) else none) else none) else none) else none) else none) else none) else none) else none) else (out0 one7 two8))

noncomputable def impl_Coalgebra_isFault.a0_0 {ρ : Type} (N : Nat) (K0 : Bool → Option ρ) (rv6 : Nat → Int) (ov10 : Int) (ov11 : Int) : Option ρ :=
  (if (rv6 0) = 0 then none else (if (rv6 0) = 0 then none else (K0 (((Int.tmod ov10 (rv6 0)) != (Int.tmod ov11 (rv6 0)))))))

noncomputable def impl_Coalgebra_isFault.l0 {ρ : Type} (N : Nat) (K0 : Bool → Option ρ) (i0 : Int) (j1 : Int) (k2 : Int) (lv3 : Int) (gv5 : Nat → Int) (rv6 : Nat → Int) (out0 : Int → Int → Option ρ) : Nat → Int → Int → Int → Option ρ
  | 0, _, _, _ => none
  | m + 1, one7, two8, x9 => (impl_Coalgebra_isFault.b0 N K0 ((impl_Coalgebra_isFault.l0 N K0 i0 j1 k2 lv3 gv5 rv6 out0 m)) out0 i0 j1 k2 lv3 gv5 rv6 one7 two8 x9)

noncomputable def impl_Coalgebra_isFault.s {ρ : Type} (N : Nat) (K0 : Bool → Option ρ) (lp0 : (Nat → Int) → Int → Int → Int → Option ρ) (gv4 : Nat → Int) (gv5 : Nat → Int) : Option ρ :=
  (impl_Coalgebra_field N (fun rv6 => (lp0 rv6 0 0 0)) gv4 gv5)

noncomputable def impl_Coalgebra_isFault {ρ : Type} (N : Nat) (K0 : Bool → Option ρ) (i0 : Int) (j1 : Int) (k2 : Int) (lv3 : Int) (gv4 : Nat → Int) (gv5 : Nat → Int) : Option ρ :=
  (impl_Coalgebra_isFault.s N K0 (fun rv6 one7 two8 x9 => (impl_Coalgebra_isFault.l0 N K0 i0 j1 k2 lv3 gv5 rv6 (fun ov10 ov11 => (impl_Coalgebra_isFault.a0_0 N K0 rv6 ov10 ov11)) N one7 two8 x9)) gv4 gv5)

noncomputable def impl_Coalgebra_fault.b0 {ρ : Type} (N : Nat) (K0 : Nat → Nat → (Nat → Int) → Option ρ) (K1 : Option ρ) (rec : Int → Option ρ) (out0 : Option ρ) (gv0 : Nat → Int) (gv1 : Nat → Int) (x2 : Int) : Option ρ :=
  (if (decide (x2 < (IntKind.i64.wrap ((IntKind.i64.wrap ((IntKind.i64.wrap ((gv0 1) * (gv0 1))) * (gv0 1))) * (gv0 1))))) = true then (if (IntKind.i64.wrap ((IntKind.i64.wrap ((gv0 1) * (gv0 1))) * (gv0 1))) = 0 then none else (if (IntKind.i64.wrap ((gv0 1) * (gv0 1))) = 0 then none else (if (gv0 1) = 0 then none else (if (gv0 1) = 0 then none else (if (gv0 1) = 0 then none else (if (gv0 1) = 0 then none else (impl_Coalgebra_isFault N (fun rv3 => (if rv3 = true then (K0 4 4 (upd (upd (upd (upd (fun _ => 0) 0 (IntKind.i64.wrap (Int.tdiv x2 (IntKind.i64.wrap ((IntKind.i64.wrap ((gv0 1) * (gv0 1))) * (gv0 1)))))) 1 (Int.tmod (IntKind.i64.wrap (Int.tdiv x2 (IntKind.i64.wrap ((gv0 1) * (gv0 1))))) (gv0 1))) 2 (Int.tmod (IntKind.i64.wrap (Int.tdiv x2 (gv0 1))) (gv0 1))) 3 (Int.tmod x2 (gv0 1)))) else (rec ((IntKind.i64.wrap (x2 + 1)))))) ((IntKind.i64.wrap (Int.tdiv x2 (IntKind.i64.wrap ((IntKind.i64.wrap ((gv0 1) * (gv0 1))) * (gv0 1)))))) ((Int.tmod (IntKind.i64.wrap (Int.tdiv x2 (IntKind.i64.wrap ((gv0 1) * (gv0 1))))) (gv0 1))) ((Int.tmod (IntKind.i64.wrap (Int.tdiv x2 (gv0 1))) (gv0 1))) ((Int.tmod x2 (gv0 1))) gv0 gv1))))))) else out0)

noncomputable def impl_Coalgebra_fault.a0_0 {ρ : Type} (N : Nat) (K0 : Nat → Nat → (Nat → Int) → Option ρ) (K1 : Option ρ) : Option ρ :=
  K1

noncomputable def impl_Coalgebra_fault.l0 {ρ : Type} (N : Nat) (K0 : Nat → Nat → (Nat → Int) → Option ρ) (K1 : Option ρ) (gv0 : Nat → Int) (gv1 : Nat → Int) (out0 : Option ρ) : Nat → Int → Option ρ
  | 0, _ => none
  | m + 1, x2 => (impl_Coalgebra_fault.b0 N K0 K1 ((impl_Coalgebra_fault.l0 N K0 K1 gv0 gv1 out0 m)) out0 gv0 gv1 x2)

noncomputable def impl_Coalgebra_fault.s {ρ : Type} (N : Nat) (K0 : Nat → Nat → (Nat → Int) → Option ρ) (K1 : Option ρ) (lp0 : Int → Option ρ) : Option ρ :=
  (lp0 0)

noncomputable def impl_Coalgebra_fault {ρ : Type} (N : Nat) (K0 : Nat → Nat → (Nat → Int) → Option ρ) (K1 : Option ρ) (gv0 : Nat → Int) (gv1 : Nat → Int) : Option ρ :=
  (impl_Coalgebra_fault.s N K0 K1 (fun x2 => (impl_Coalgebra_fault.l0 N K0 K1 gv0 gv1 (impl_Coalgebra_fault.a0_0 N K0 K1) N x2)))

noncomputable def impl_IsCoalgebra {ρ : Type} (N : Nat) (K0 : Bool → Option ρ) (c0 : Nat → Int) (c1 : Nat → Int) : Option ρ :=
  (impl_Coalgebra_isShaped N (fun rv2 => (if rv2 = true then (impl_Coalgebra_isCounit N (fun rv3 => (if rv3 = true then (impl_Coalgebra_fault N (fun rv4 rv5 rv6 => (K0 false)) (K0 true) c0 c1) else (K0 false))) c0 c1) else (K0 false))) c0 c1)

noncomputable def slices_IndexFunc_nf.b0 {ρ : Type} (N : Nat) (K0 : Int → Option ρ) (rec : Option ρ) (out0 : Option ρ) : Option ρ :=
  out0

noncomputable def slices_IndexFunc_nf.a0_0 {ρ : Type} (N : Nat) (K0 : Int → Option ρ) : Option ρ :=
  (K0 (-1))

noncomputable def slices_IndexFunc_nf.l0 {ρ : Type} (N : Nat) (K0 : Int → Option ρ) (out0 : Option ρ) : Nat → Option ρ
  | 0 => none
  | m + 1 => (slices_IndexFunc_nf.b0 N K0 ((slices_IndexFunc_nf.l0 N K0 out0 m)) out0)

noncomputable def slices_IndexFunc_nf.s {ρ : Type} (N : Nat) (K0 : Int → Option ρ) (lp0 : Option ρ) : Option ρ :=
  lp0

noncomputable def slices_IndexFunc_nf {ρ : Type} (N : Nat) (K0 : Int → Option ρ) (gv0 : Nat → Int) (gv1 : Nat → Int) : Option ρ :=
  (slices_IndexFunc_nf.s N K0 ((slices_IndexFunc_nf.l0 N K0 (slices_IndexFunc_nf.a0_0 N K0) N)))

noncomputable def slices_ContainsFunc_nf {ρ : Type} (N : Nat) (K0 : Bool → Option ρ) (gv0 : Nat → Int) (gv1 : Nat → Int) : Option ρ :=
  (slices_IndexFunc_nf N (fun rv2 => (K0 ((decide (rv2 ≥ 0))))) gv0 gv1)

noncomputable def impl_Coalgebra_has_n {ρ : Type} (N : Nat) (K0 : Bool → Option ρ) (gv0 : Nat → Int) (gv1 : Nat → Int) : Option ρ :=
  (slices_ContainsFunc_nf N (fun rv2 => (K0 ((!rv2)))) gv0 gv1)

noncomputable def impl_unless {ρ : Type} (N : Nat) (K0 : Int → Option ρ) (so0 : Bool) (code1 : Int) : Option ρ :=
  (if so0 = true then (K0 0) else (K0 code1))

noncomputable def impl_Coalgebra_code_n {ρ : Type} (N : Nat) (K0 : Int → Option ρ) (gv0 : Nat → Int) (gv1 : Nat → Int) : Option ρ :=
  (impl_IsCoalgebra N (fun rv2 => (if rv2 = true then (impl_Coalgebra_has_n N (fun rv3 => (impl_unless N (fun rv4 => (K0 rv4)) (rv3) 1)) gv0 gv1) else (impl_unless N (fun rv5 => (K0 rv5)) false 1))) gv0 gv1)

noncomputable def impl_Coalgebra_coproduct.b1 {ρ : Type} (N : Nat) (K0 : (Nat → Int) → Option ρ) (rec : Int → (Nat → Int) → Option ρ) (out0 : (Nat → Int) → Option ρ) (v0 : Nat → Int) (gv2 : Nat → Int) (rv3 : Nat → Int) (x4 : Int) (x6 : Int) (gv7 : Nat → Int) : Option ρ :=
  (if (decide (x6 < (rv3 1))) = true then (if (0 : Int) ≤ x6 ∧ x6 < 8 then (if (0 : Int) ≤ x4 ∧ x4 < 8 then (if (0 : Int) ≤ x6 ∧ x6 < 8 then (impl_field_plus N (fun rv8 => (rec ((IntKind.i64.wrap (x6 + 1))) (updN gv7 (x6.toNat * 8) 8 rv8))) rv3 ((IntKind.i64.wrap (v0 x4.toNat))) (fun z => (gv2 (((8 + (x4.toNat * 64)) + (x6.toNat * 8)) + z))) (fun z => (gv7 ((x6.toNat * 8) + z)))) else none) else none) else none) else (out0 gv7))

noncomputable def impl_Coalgebra_coproduct.a1_0 {ρ : Type} (N : Nat) (K0 : (Nat → Int) → Option ρ) (rec : Int → (Nat → Int) → Option ρ) (out0 : (Nat → Int) → Option ρ) (x4 : Int) (ov9 : Nat → Int) : Option ρ :=
  (rec ((IntKind.i64.wrap (x4 + 1))) ov9)

noncomputable def impl_Coalgebra_coproduct.b0 {ρ : Type} (N : Nat) (K0 : (Nat → Int) → Option ρ) (lp1 : Int → (Nat → Int) → Option ρ) (rec : Int → (Nat → Int) → Option ρ) (out0 : (Nat → Int) → Option ρ) (x4 : Int) (gv5 : Nat → Int) : Option ρ :=
  (if (decide (x4 < 8)) = true then (if (0 : Int) ≤ x4 ∧ x4 < 8 then (lp1 0 gv5) else none) else (out0 gv5))

noncomputable def impl_Coalgebra_coproduct.a0_0 {ρ : Type} (N : Nat) (K0 : (Nat → Int) → Option ρ) (ov10 : Nat → Int) : Option ρ :=
  (K0 ov10)

noncomputable def impl_Coalgebra_coproduct.l1 {ρ : Type} (N : Nat) (K0 : (Nat → Int) → Option ρ) (v0 : Nat → Int) (gv2 : Nat → Int) (rv3 : Nat → Int) (x4 : Int) (out0 : (Nat → Int) → Option ρ) : Nat → Int → (Nat → Int) → Option ρ
  | 0, _, _ => none
  | m + 1, x6, gv7 => (impl_Coalgebra_coproduct.b1 N K0 ((impl_Coalgebra_coproduct.l1 N K0 v0 gv2 rv3 x4 out0 m)) out0 v0 gv2 rv3 x4 x6 gv7)

noncomputable def impl_Coalgebra_coproduct.l0 {ρ : Type} (N : Nat) (K0 : (Nat → Int) → Option ρ) (v0 : Nat → Int) (gv2 : Nat → Int) (rv3 : Nat → Int) (out0 : (Nat → Int) → Option ρ) : Nat → Int → (Nat → Int) → Option ρ
  | 0, _, _ => none
  | m + 1, x4, gv5 => (impl_Coalgebra_coproduct.b0 N K0 (fun x6 gv7 => (impl_Coalgebra_coproduct.l1 N K0 v0 gv2 rv3 x4 (fun ov9 => (impl_Coalgebra_coproduct.a1_0 N K0 (impl_Coalgebra_coproduct.l0 N K0 v0 gv2 rv3 out0 m) out0 x4 ov9)) N x6 gv7)) ((impl_Coalgebra_coproduct.l0 N K0 v0 gv2 rv3 out0 m)) out0 x4 gv5)

noncomputable def impl_Coalgebra_coproduct.s {ρ : Type} (N : Nat) (K0 : (Nat → Int) → Option ρ) (lp0 : (Nat → Int) → Int → (Nat → Int) → Option ρ) (gv1 : Nat → Int) (gv2 : Nat → Int) : Option ρ :=
  (impl_Coalgebra_field N (fun rv3 => (lp0 rv3 0 (fun _ => 0))) gv1 gv2)

noncomputable def impl_Coalgebra_coproduct {ρ : Type} (N : Nat) (K0 : (Nat → Int) → Option ρ) (v0 : Nat → Int) (gv1 : Nat → Int) (gv2 : Nat → Int) : Option ρ :=
  (impl_Coalgebra_coproduct.s N K0 (fun rv3 x4 gv5 => (impl_Coalgebra_coproduct.l0 N K0 v0 gv2 rv3 (fun ov10 => (impl_Coalgebra_coproduct.a0_0 N K0 ov10)) N x4 gv5)) gv1 gv2)

noncomputable def impl_field_times {ρ : Type} (N : Nat) (K0 : (Nat → Int) → Option ρ) (f0 : Nat → Int) (k1 : Int) (w2 : Nat → Int) : Option ρ :=
  (impl_field_plus N (fun rv3 => (K0 rv3)) f0 k1 w2 (fun _ => 0))

noncomputable def impl_field_pair.b0 {ρ : Type} (N : Nat) (K0 : (Nat → Int) → Option ρ) (rec : Int → (Nat → Int) → Option ρ) (out0 : (Nat → Int) → Option ρ) (f0 : Nat → Int) (v1 : Nat → Int) (w2 : Nat → Int) (x3 : Int) (gv4 : Nat → Int) : Option ρ :=
  (if (decide (x3 < 8)) = true then (if (0 : Int) ≤ x3 ∧ x3 < 8 then (impl_field_times N (fun rv5 => (if (0 : Int) ≤ x3 ∧ x3 < 8 then (rec ((IntKind.i64.wrap (x3 + 1))) (updN gv4 (x3.toNat * 8) 8 rv5)) else none)) f0 ((IntKind.i64.wrap (v1 x3.toNat))) w2) else none) else (out0 gv4))

noncomputable def impl_field_pair.a0_0 {ρ : Type} (N : Nat) (K0 : (Nat → Int) → Option ρ) (ov6 : Nat → Int) : Option ρ :=
  (K0 ov6)

noncomputable def impl_field_pair.l0 {ρ : Type} (N : Nat) (K0 : (Nat → Int) → Option ρ) (f0 : Nat → Int) (v1 : Nat → Int) (w2 : Nat → Int) (out0 : (Nat → Int) → Option ρ) : Nat → Int → (Nat → Int) → Option ρ
  | 0, _, _ => none
  | m + 1, x3, gv4 => (impl_field_pair.b0 N K0 ((impl_field_pair.l0 N K0 f0 v1 w2 out0 m)) out0 f0 v1 w2 x3 gv4)

noncomputable def impl_field_pair.s {ρ : Type} (N : Nat) (K0 : (Nat → Int) → Option ρ) (lp0 : Int → (Nat → Int) → Option ρ) : Option ρ :=
  (lp0 0 (fun _ => 0))

noncomputable def impl_field_pair {ρ : Type} (N : Nat) (K0 : (Nat → Int) → Option ρ) (f0 : Nat → Int) (v1 : Nat → Int) (w2 : Nat → Int) : Option ρ :=
  (impl_field_pair.s N K0 (fun x3 gv4 => (impl_field_pair.l0 N K0 f0 v1 w2 (fun ov6 => (impl_field_pair.a0_0 N K0 ov6)) N x3 gv4)))

noncomputable def impl_Coalgebra_isGroupLike {ρ : Type} (N : Nat) (K0 : Bool → Option ρ) (v0 : Nat → Int) (gv1 : Nat → Int) (gv2 : Nat → Int) : Option ρ :=
  (impl_Coalgebra_field N (fun rv3 => (impl_field_dot N (fun rv4 => (if (rv4 == 1) = true then (impl_Coalgebra_coproduct N (fun rv5 => (impl_field_pair N (fun rv6 => (K0 ((eqN 64 rv5 rv6)))) rv3 v0 v0)) v0 gv1 gv2) else (K0 false))) rv3 (fun z => (gv2 (0 + z))) v0)) gv1 gv2)

noncomputable def impl_GroupLikes.b2 {ρ : Type} (N : Nat) (K0 : Nat → Int → (Nat → Int) → Option ρ) (rec : Int → Int → (Nat → Int) → Option ρ) (out0 : (Nat → Int) → Option ρ) (rv3 : Nat → Int) (left10 : Int) (i11 : Int) (gv12 : Nat → Int) : Option ρ :=
  (if (decide (i11 ≥ 0)) = true then (if (rv3 0) = 0 then none else (if (rv3 0) = 0 then none else (if (0 : Int) ≤ i11 ∧ i11 < 8 then (rec ((IntKind.i64.wrap (Int.tdiv left10 (rv3 0)))) ((IntKind.i64.wrap (i11 - 1))) (upd gv12 (i11.toNat * 1) (IntKind.u8.wrap (Int.tmod left10 (rv3 0))))) else none))) else (out0 gv12))

noncomputable def impl_GroupLikes.a2_0 {ρ : Type} (N : Nat) (K0 : Nat → Int → (Nat → Int) → Option ρ) (rec : Nat → Int → (Nat → Int) → Option ρ) (out0 : Nat → (Nat → Int) → Option ρ) (c0 : Nat → Int) (c1 : Nat → Int) (outv7 : Nat) (x8 : Int) (gv9 : Nat → Int) (ov13 : Nat → Int) : Option ρ :=
  (impl_Coalgebra_isGroupLike N (fun rv14 => (if rv14 = true then (if (outv7 + 1) * 8 ≤ 140737488355328 then (rec (outv7 + 1) ((IntKind.i64.wrap (x8 + 1))) (joinN (outv7 * 8) gv9 ov13)) else none) else (rec outv7 ((IntKind.i64.wrap (x8 + 1))) gv9))) ov13 c0 c1)

noncomputable def impl_GroupLikes.b1 {ρ : Type} (N : Nat) (K0 : Nat → Int → (Nat → Int) → Option ρ) (lp2 : Int → Int → (Nat → Int) → Option ρ) (rec : Nat → Int → (Nat → Int) → Option ρ) (out0 : Nat → (Nat → Int) → Option ρ) (rv3 : Nat → Int) (ov6 : Int) (outv7 : Nat) (x8 : Int) (gv9 : Nat → Int) : Option ρ :=
  (if (decide (x8 < ov6)) = true then (lp2 x8 ((IntKind.i64.wrap ((rv3 1) - 1))) (fun _ => 0)) else (out0 outv7 gv9))

noncomputable def impl_GroupLikes.a1_0 {ρ : Type} (N : Nat) (K0 : Nat → Int → (Nat → Int) → Option ρ) (ov15 : Nat) (ov16 : Nat → Int) : Option ρ :=
  (K0 ov15 0 ov16)

noncomputable def impl_GroupLikes.b0 {ρ : Type} (N : Nat) (K0 : Nat → Int → (Nat → Int) → Option ρ) (rec : Int → Int → Option ρ) (out0 : Int → Option ρ) (rv3 : Nat → Int) (many4 : Int) (x5 : Int) : Option ρ :=
  (if (decide (x5 < (rv3 1))) = true then (if (decide ((IntKind.i64.wrap (many4 * (rv3 0))) > 5000)) = true then (K0 0 3 (fun _ => 0)) else (rec ((IntKind.i64.wrap (many4 * (rv3 0)))) ((IntKind.i64.wrap (x5 + 1))))) else (out0 many4))

noncomputable def impl_GroupLikes.a0_0 {ρ : Type} (N : Nat) (K0 : Nat → Int → (Nat → Int) → Option ρ) (lp1 : Nat → Int → (Nat → Int) → Option ρ) : Option ρ :=
  (lp1 0 0 (fun _ => 0))

noncomputable def impl_GroupLikes.l2 {ρ : Type} (N : Nat) (K0 : Nat → Int → (Nat → Int) → Option ρ) (rv3 : Nat → Int) (out0 : (Nat → Int) → Option ρ) : Nat → Int → Int → (Nat → Int) → Option ρ
  | 0, _, _, _ => none
  | m + 1, left10, i11, gv12 => (impl_GroupLikes.b2 N K0 ((impl_GroupLikes.l2 N K0 rv3 out0 m)) out0 rv3 left10 i11 gv12)

noncomputable def impl_GroupLikes.l1 {ρ : Type} (N : Nat) (K0 : Nat → Int → (Nat → Int) → Option ρ) (c0 : Nat → Int) (c1 : Nat → Int) (rv3 : Nat → Int) (ov6 : Int) (out0 : Nat → (Nat → Int) → Option ρ) : Nat → Nat → Int → (Nat → Int) → Option ρ
  | 0, _, _, _ => none
  | m + 1, outv7, x8, gv9 => (impl_GroupLikes.b1 N K0 (fun left10 i11 gv12 => (impl_GroupLikes.l2 N K0 rv3 (fun ov13 => (impl_GroupLikes.a2_0 N K0 (impl_GroupLikes.l1 N K0 c0 c1 rv3 ov6 out0 m) out0 c0 c1 outv7 x8 gv9 ov13)) N left10 i11 gv12)) ((impl_GroupLikes.l1 N K0 c0 c1 rv3 ov6 out0 m)) out0 rv3 ov6 outv7 x8 gv9)

noncomputable def impl_GroupLikes.l0 {ρ : Type} (N : Nat) (K0 : Nat → Int → (Nat → Int) → Option ρ) (rv3 : Nat → Int) (out0 : Int → Option ρ) : Nat → Int → Int → Option ρ
  | 0, _, _ => none
  | m + 1, many4, x5 => (impl_GroupLikes.b0 N K0 ((impl_GroupLikes.l0 N K0 rv3 out0 m)) out0 rv3 many4 x5)

noncomputable def impl_GroupLikes.s {ρ : Type} (N : Nat) (K0 : Nat → Int → (Nat → Int) → Option ρ) (lp0 : (Nat → Int) → Int → Int → Option ρ) (c0 : Nat → Int) (c1 : Nat → Int) : Option ρ :=
  (impl_Coalgebra_code_n N (fun rv2 => (if (rv2 != 0) = true then (K0 0 rv2 (fun _ => 0)) else (impl_Coalgebra_field N (fun rv3 => (lp0 rv3 1 0)) c0 c1))) c0 c1)

noncomputable def impl_GroupLikes {ρ : Type} (N : Nat) (K0 : Nat → Int → (Nat → Int) → Option ρ) (c0 : Nat → Int) (c1 : Nat → Int) : Option ρ :=
  (impl_GroupLikes.s N K0 (fun rv3 many4 x5 => (impl_GroupLikes.l0 N K0 rv3 (fun ov6 => (impl_GroupLikes.a0_0 N K0 (fun outv7 x8 gv9 => (impl_GroupLikes.l1 N K0 c0 c1 rv3 ov6 (fun ov15 ov16 => (impl_GroupLikes.a1_0 N K0 ov15 ov16)) N outv7 x8 gv9)))) N many4 x5)) c0 c1)

noncomputable def laws_eqVector.b0 {ρ : Type} (N : Nat) (K0 : Bool → Option ρ) (rec : Int → Option ρ) (out0 : Option ρ) (av0 : Nat → Int) (bv1 : Nat → Int) (i2 : Int) : Option ρ :=
  (if (decide (i2 < 8)) = true then (if (0 : Int) ≤ i2 ∧ i2 < 8 then (if (0 : Int) ≤ i2 ∧ i2 < 8 then (if ((av0 (i2.toNat * 1)) != (bv1 (i2.toNat * 1))) = true then (K0 false) else (rec ((IntKind.i64.wrap (i2 + 1))))) else none) else none) else out0)

noncomputable def laws_eqVector.a0_0 {ρ : Type} (N : Nat) (K0 : Bool → Option ρ) : Option ρ :=
  (K0 true)

noncomputable def laws_eqVector.l0 {ρ : Type} (N : Nat) (K0 : Bool → Option ρ) (av0 : Nat → Int) (bv1 : Nat → Int) (out0 : Option ρ) : Nat → Int → Option ρ
  | 0, _ => none
  | m + 1, i2 => (laws_eqVector.b0 N K0 ((laws_eqVector.l0 N K0 av0 bv1 out0 m)) out0 av0 bv1 i2)

noncomputable def laws_eqVector.s {ρ : Type} (N : Nat) (K0 : Bool → Option ρ) (lp0 : Int → Option ρ) : Option ρ :=
  (lp0 0)

noncomputable def laws_eqVector {ρ : Type} (N : Nat) (K0 : Bool → Option ρ) (av0 : Nat → Int) (bv1 : Nat → Int) : Option ρ :=
  (laws_eqVector.s N K0 (fun i2 => (laws_eqVector.l0 N K0 av0 bv1 (laws_eqVector.a0_0 N K0) N i2)))

noncomputable def laws_eqVectorS_susu.b0 {ρ : Type} (N : Nat) (K0 : Bool → Option ρ) (rec : Int → Option ρ) (out0 : Option ρ) (av0 : Nat) (bv1 : Nat) (gv3 : Nat → Int) (gv5 : Nat → Int) (i6 : Int) : Option ρ :=
  (if (decide (i6 < (av0 : Int))) = true then (if (0 : Int) ≤ i6 ∧ i6 < (av0 : Int) then (if (0 : Int) ≤ i6 ∧ i6 < (bv1 : Int) then (laws_eqVector N (fun rv7 => (if (!rv7) = true then (K0 false) else (rec ((IntKind.i64.wrap (i6 + 1)))))) (fun z => (gv3 ((0 + (i6.toNat * 8)) + z))) (fun z => (gv5 ((0 + (i6.toNat * 8)) + z)))) else none) else none) else out0)

noncomputable def laws_eqVectorS_susu.a0_0 {ρ : Type} (N : Nat) (K0 : Bool → Option ρ) : Option ρ :=
  (K0 true)

noncomputable def laws_eqVectorS_susu.l0 {ρ : Type} (N : Nat) (K0 : Bool → Option ρ) (av0 : Nat) (bv1 : Nat) (gv3 : Nat → Int) (gv5 : Nat → Int) (out0 : Option ρ) : Nat → Int → Option ρ
  | 0, _ => none
  | m + 1, i6 => (laws_eqVectorS_susu.b0 N K0 ((laws_eqVectorS_susu.l0 N K0 av0 bv1 gv3 gv5 out0 m)) out0 av0 bv1 gv3 gv5 i6)

noncomputable def laws_eqVectorS_susu.s {ρ : Type} (N : Nat) (K0 : Bool → Option ρ) (lp0 : Int → Option ρ) (av0 : Nat) (bv1 : Nat) : Option ρ :=
  (if ((av0 : Int) != (bv1 : Int)) = true then (K0 false) else (lp0 0))

noncomputable def laws_eqVectorS_susu {ρ : Type} (N : Nat) (K0 : Bool → Option ρ) (av0 : Nat) (bv1 : Nat) (gv2 : Nat) (gv3 : Nat → Int) (gv4 : Nat) (gv5 : Nat → Int) : Option ρ :=
  (laws_eqVectorS_susu.s N K0 (fun i6 => (laws_eqVectorS_susu.l0 N K0 av0 bv1 gv3 gv5 (laws_eqVectorS_susu.a0_0 N K0) N i6)) av0 bv1)

noncomputable def laws_markVectorS_su.b1 {ρ : Type} (N : Nat) (K0 : Int → (Nat → Int) → Option ρ) (rec : Int → Int → (Nat → Int) → Option ρ) (out0 : Int → (Nat → Int) → Option ρ) (av0 : Nat) (i5 : Int) (k7 : Int) (j8 : Int) (gv9 : Nat → Int) : Option ρ :=
  (if (decide (j8 < 8)) = true then (if (0 : Int) ≤ i5 ∧ i5 < (av0 : Int) then (if (0 : Int) ≤ j8 ∧ j8 < 8 then (rec ((IntKind.i64.wrap (k7 + 1))) ((IntKind.i64.wrap (j8 + 1))) (upd gv9 ((0 + (i5.toNat * 8)) + (j8.toNat * 1)) (IntKind.u8.wrap k7))) else none) else none) else (out0 k7 gv9))

noncomputable def laws_markVectorS_su.a1_0 {ρ : Type} (N : Nat) (K0 : Int → (Nat → Int) → Option ρ) (rec : Int → Int → (Nat → Int) → Option ρ) (out0 : Int → (Nat → Int) → Option ρ) (i5 : Int) (ov10 : Int) (ov11 : Nat → Int) : Option ρ :=
  (rec ov10 ((IntKind.i64.wrap (i5 + 1))) ov11)

noncomputable def laws_markVectorS_su.b0 {ρ : Type} (N : Nat) (K0 : Int → (Nat → Int) → Option ρ) (lp1 : Int → Int → (Nat → Int) → Option ρ) (rec : Int → Int → (Nat → Int) → Option ρ) (out0 : Int → (Nat → Int) → Option ρ) (av0 : Nat) (k4 : Int) (i5 : Int) (gv6 : Nat → Int) : Option ρ :=
  (if (decide (i5 < (av0 : Int))) = true then (lp1 k4 0 gv6) else (out0 k4 gv6))

noncomputable def laws_markVectorS_su.a0_0 {ρ : Type} (N : Nat) (K0 : Int → (Nat → Int) → Option ρ) (ov12 : Int) (ov13 : Nat → Int) : Option ρ :=
  (K0 ov12 ov13)

noncomputable def laws_markVectorS_su.l1 {ρ : Type} (N : Nat) (K0 : Int → (Nat → Int) → Option ρ) (av0 : Nat) (i5 : Int) (out0 : Int → (Nat → Int) → Option ρ) : Nat → Int → Int → (Nat → Int) → Option ρ
  | 0, _, _, _ => none
  | m + 1, k7, j8, gv9 => (laws_markVectorS_su.b1 N K0 ((laws_markVectorS_su.l1 N K0 av0 i5 out0 m)) out0 av0 i5 k7 j8 gv9)

noncomputable def laws_markVectorS_su.l0 {ρ : Type} (N : Nat) (K0 : Int → (Nat → Int) → Option ρ) (av0 : Nat) (out0 : Int → (Nat → Int) → Option ρ) : Nat → Int → Int → (Nat → Int) → Option ρ
  | 0, _, _, _ => none
  | m + 1, k4, i5, gv6 => (laws_markVectorS_su.b0 N K0 (fun k7 j8 gv9 => (laws_markVectorS_su.l1 N K0 av0 i5 (fun ov10 ov11 => (laws_markVectorS_su.a1_0 N K0 (laws_markVectorS_su.l0 N K0 av0 out0 m) out0 i5 ov10 ov11)) N k7 j8 gv9)) ((laws_markVectorS_su.l0 N K0 av0 out0 m)) out0 av0 k4 i5 gv6)

noncomputable def laws_markVectorS_su.s {ρ : Type} (N : Nat) (K0 : Int → (Nat → Int) → Option ρ) (lp0 : Int → Int → (Nat → Int) → Option ρ) (k1 : Int) (gv3 : Nat → Int) : Option ρ :=
  (lp0 k1 0 gv3)

noncomputable def laws_markVectorS_su {ρ : Type} (N : Nat) (K0 : Int → (Nat → Int) → Option ρ) (av0 : Nat) (k1 : Int) (gv2 : Nat) (gv3 : Nat → Int) : Option ρ :=
  (laws_markVectorS_su.s N K0 (fun k4 i5 gv6 => (laws_markVectorS_su.l0 N K0 av0 (fun ov12 ov13 => (laws_markVectorS_su.a0_0 N K0 ov12 ov13)) N k4 i5 gv6)) k1 gv3)

noncomputable def laws_heldVectorS_su.b1 {ρ : Type} (N : Nat) (K0 : Int → Option ρ) (rec : Int → Int → Option ρ) (out0 : Int → Option ρ) (av0 : Nat) (gv3 : Nat → Int) (i5 : Int) (k6 : Int) (j7 : Int) : Option ρ :=
  (if (decide (j7 < 8)) = true then (if (0 : Int) ≤ i5 ∧ i5 < (av0 : Int) then (if (0 : Int) ≤ j7 ∧ j7 < 8 then (if ((gv3 ((0 + (i5.toNat * 8)) + (j7.toNat * 1))) != (IntKind.u8.wrap k6)) = true then (K0 (-1)) else (rec ((IntKind.i64.wrap (k6 + 1))) ((IntKind.i64.wrap (j7 + 1))))) else none) else none) else (out0 k6))

noncomputable def laws_heldVectorS_su.a1_0 {ρ : Type} (N : Nat) (K0 : Int → Option ρ) (rec : Int → Int → Option ρ) (out0 : Int → Option ρ) (i5 : Int) (ov8 : Int) : Option ρ :=
  (rec ov8 ((IntKind.i64.wrap (i5 + 1))))

noncomputable def laws_heldVectorS_su.b0 {ρ : Type} (N : Nat) (K0 : Int → Option ρ) (lp1 : Int → Int → Option ρ) (rec : Int → Int → Option ρ) (out0 : Int → Option ρ) (av0 : Nat) (k4 : Int) (i5 : Int) : Option ρ :=
  (if (decide (i5 < (av0 : Int))) = true then (lp1 k4 0) else (out0 k4))

noncomputable def laws_heldVectorS_su.a0_0 {ρ : Type} (N : Nat) (K0 : Int → Option ρ) (ov9 : Int) : Option ρ :=
  (K0 ov9)

noncomputable def laws_heldVectorS_su.l1 {ρ : Type} (N : Nat) (K0 : Int → Option ρ) (av0 : Nat) (gv3 : Nat → Int) (i5 : Int) (out0 : Int → Option ρ) : Nat → Int → Int → Option ρ
  | 0, _, _ => none
  | m + 1, k6, j7 => (laws_heldVectorS_su.b1 N K0 ((laws_heldVectorS_su.l1 N K0 av0 gv3 i5 out0 m)) out0 av0 gv3 i5 k6 j7)

noncomputable def laws_heldVectorS_su.l0 {ρ : Type} (N : Nat) (K0 : Int → Option ρ) (av0 : Nat) (gv3 : Nat → Int) (out0 : Int → Option ρ) : Nat → Int → Int → Option ρ
  | 0, _, _ => none
  | m + 1, k4, i5 => (laws_heldVectorS_su.b0 N K0 (fun k6 j7 => (laws_heldVectorS_su.l1 N K0 av0 gv3 i5 (fun ov8 => (laws_heldVectorS_su.a1_0 N K0 (laws_heldVectorS_su.l0 N K0 av0 gv3 out0 m) out0 i5 ov8)) N k6 j7)) ((laws_heldVectorS_su.l0 N K0 av0 gv3 out0 m)) out0 av0 k4 i5)

noncomputable def laws_heldVectorS_su.s {ρ : Type} (N : Nat) (K0 : Int → Option ρ) (lp0 : Int → Int → Option ρ) (k1 : Int) : Option ρ :=
  (lp0 k1 0)

noncomputable def laws_heldVectorS_su {ρ : Type} (N : Nat) (K0 : Int → Option ρ) (av0 : Nat) (k1 : Int) (gv2 : Nat) (gv3 : Nat → Int) : Option ρ :=
  (laws_heldVectorS_su.s N K0 (fun k4 i5 => (laws_heldVectorS_su.l0 N K0 av0 gv3 (fun ov9 => (laws_heldVectorS_su.a0_0 N K0 ov9)) N k4 i5)) k1)

noncomputable def laws_FnExactGroupLikes {ρ : Type} (N : Nat) (K0 : Bool → Option ρ) (aC0 : Nat → Int) (aC1 : Nat → Int) : Option ρ :=
  (laws_toCoalgebra N (fun rv2 rv3 => (spec_GroupLikes N (fun rv4 rv5 rv6 => (laws_toCoalgebra N (fun rv7 rv8 => (impl_GroupLikes N (fun rv9 rv10 rv11 => (laws_eqVectorS_susu N (fun rv12 => (if (!rv12) = true then (K0 false) else (if (rv10 != rv5) = true then (K0 false) else (laws_markVectorS_su N (fun rv13 rv14 => (laws_heldVectorS_su N (fun rv15 => (if (decide (rv15 < 0)) = true then (K0 false) else (if (rv15 != rv13) = true then (K0 false) else (laws_toCoalgebra N (fun rv16 rv17 => (impl_GroupLikes N (fun rv18 rv19 rv20 => (laws_eqVectorS_susu N (fun rv21 => (if (!rv21) = true then (K0 false) else (if (rv19 != rv5) = true then (K0 false) else (laws_heldVectorS_su N (fun rv22 => (if (decide (rv22 < 0)) = true then (K0 false) else (if (rv22 != rv13) = true then (K0 false) else (K0 true)))) rv9 101 (rv9 * 8) (fun z => ((updN rv11 0 (rv9 * 8) rv14) (0 + z))))))) rv18 rv4 (rv18 * 8) (fun z => (rv20 (0 + z))) (rv4 * 8) (fun z => (rv6 (0 + z))))) rv16 rv17)) aC0 aC1)))) rv9 101 (rv9 * 8) (fun z => ((updN rv11 0 (rv9 * 8) rv14) (0 + z))))) rv9 101 (rv9 * 8) (fun z => (rv11 (0 + z))))))) rv9 rv4 (rv9 * 8) (fun z => (rv11 (0 + z))) (rv4 * 8) (fun z => (rv6 (0 + z))))) rv7 rv8)) aC0 aC1)) rv2 rv3)) aC0 aC1)
end Go.Proofs.Ythecjjnieojjoaa.H
