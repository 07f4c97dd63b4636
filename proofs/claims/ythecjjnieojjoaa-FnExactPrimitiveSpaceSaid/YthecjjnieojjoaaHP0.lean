import Derived.Test.YthecjjnieojjoaaHyUse
namespace Go.Proofs.Ythecjjnieojjoaa.H
set_option linter.unusedVariables false
set_option linter.unusedSimpArgs false
noncomputable section
open Go Go.RowKit Go.Proofs.Ythecjjnieojjoaa.Hy
set_option maxRecDepth 100000
def laws_toVector.b0 {ρ : Type} (N : Nat) (K0 : (Nat → Int) → Option ρ) (rec : Int → (Nat → Int) → Option ρ) (out0 : (Nat → Int) → Option ρ) (av0 : Nat → Int) (i1 : Int) (gv2 : Nat → Int) : Option ρ :=
  (if (decide (i1 < 8)) = true then (if (0 : Int) ≤ i1 ∧ i1 < 8 then (if (0 : Int) ≤ i1 ∧ i1 < 8 then (rec ((IntKind.i64.wrap (i1 + 1))) (upd gv2 (i1.toNat * 1) (av0 (i1.toNat * 1)))) else none) else none) else (out0 gv2))
def laws_toVector.a0_0 {ρ : Type} (N : Nat) (K0 : (Nat → Int) → Option ρ) (ov3 : Nat → Int) : Option ρ :=
  (K0 ov3)
def laws_toVector.l0 {ρ : Type} (N : Nat) (K0 : (Nat → Int) → Option ρ) (av0 : Nat → Int) (out0 : (Nat → Int) → Option ρ) : Nat → Int → (Nat → Int) → Option ρ
  | 0, _, _ => none
  | m + 1, i1, gv2 => (laws_toVector.b0 N K0 ((laws_toVector.l0 N K0 av0 out0 m)) out0 av0 i1 gv2)
def laws_toVector.s {ρ : Type} (N : Nat) (K0 : (Nat → Int) → Option ρ) (lp0 : Int → (Nat → Int) → Option ρ) : Option ρ :=
  (lp0 0 (fun _ => 0))
def laws_toVector {ρ : Type} (N : Nat) (K0 : (Nat → Int) → Option ρ) (av0 : Nat → Int) : Option ρ :=
  (laws_toVector.s N K0 (fun i1 gv2 => (laws_toVector.l0 N K0 av0 (fun ov3 => (laws_toVector.a0_0 N K0 ov3)) N i1 gv2)))
def laws_toLinear.b0 {ρ : Type} (N : Nat) (K0 : (Nat → Int) → Option ρ) (rec : Int → (Nat → Int) → Option ρ) (out0 : (Nat → Int) → Option ρ) (av0 : Nat → Int) (i1 : Int) (gv2 : Nat → Int) : Option ρ :=
  (if (decide (i1 < 8)) = true then (if (0 : Int) ≤ i1 ∧ i1 < 8 then (laws_toVector N (fun rv3 => (if (0 : Int) ≤ i1 ∧ i1 < 8 then (rec ((IntKind.i64.wrap (i1 + 1))) (updN gv2 (i1.toNat * 8) 8 rv3)) else none)) (fun z => (av0 ((i1.toNat * 8) + z)))) else none) else (out0 gv2))
def laws_toLinear.a0_0 {ρ : Type} (N : Nat) (K0 : (Nat → Int) → Option ρ) (ov4 : Nat → Int) : Option ρ :=
  (K0 ov4)
def laws_toLinear.l0 {ρ : Type} (N : Nat) (K0 : (Nat → Int) → Option ρ) (av0 : Nat → Int) (out0 : (Nat → Int) → Option ρ) : Nat → Int → (Nat → Int) → Option ρ
  | 0, _, _ => none
  | m + 1, i1, gv2 => (laws_toLinear.b0 N K0 ((laws_toLinear.l0 N K0 av0 out0 m)) out0 av0 i1 gv2)
def laws_toLinear.s {ρ : Type} (N : Nat) (K0 : (Nat → Int) → Option ρ) (lp0 : Int → (Nat → Int) → Option ρ) : Option ρ :=
  (lp0 0 (fun _ => 0))
def laws_toLinear {ρ : Type} (N : Nat) (K0 : (Nat → Int) → Option ρ) (av0 : Nat → Int) : Option ρ :=
  (laws_toLinear.s N K0 (fun i1 gv2 => (laws_toLinear.l0 N K0 av0 (fun ov4 => (laws_toLinear.a0_0 N K0 ov4)) N i1 gv2)))
def laws_toTable.b0 {ρ : Type} (N : Nat) (K0 : (Nat → Int) → Option ρ) (rec : Int → (Nat → Int) → Option ρ) (out0 : (Nat → Int) → Option ρ) (av0 : Nat → Int) (i1 : Int) (gv2 : Nat → Int) : Option ρ :=
  (if (decide (i1 < 8)) = true then (if (0 : Int) ≤ i1 ∧ i1 < 8 then (laws_toLinear N (fun rv3 => (if (0 : Int) ≤ i1 ∧ i1 < 8 then (rec ((IntKind.i64.wrap (i1 + 1))) (updN gv2 (i1.toNat * 64) 64 rv3)) else none)) (fun z => (av0 ((i1.toNat * 64) + z)))) else none) else (out0 gv2))
def laws_toTable.a0_0 {ρ : Type} (N : Nat) (K0 : (Nat → Int) → Option ρ) (ov4 : Nat → Int) : Option ρ :=
  (K0 ov4)
def laws_toTable.l0 {ρ : Type} (N : Nat) (K0 : (Nat → Int) → Option ρ) (av0 : Nat → Int) (out0 : (Nat → Int) → Option ρ) : Nat → Int → (Nat → Int) → Option ρ
  | 0, _, _ => none
  | m + 1, i1, gv2 => (laws_toTable.b0 N K0 ((laws_toTable.l0 N K0 av0 out0 m)) out0 av0 i1 gv2)
def laws_toTable.s {ρ : Type} (N : Nat) (K0 : (Nat → Int) → Option ρ) (lp0 : Int → (Nat → Int) → Option ρ) : Option ρ :=
  (lp0 0 (fun _ => 0))
def laws_toTable {ρ : Type} (N : Nat) (K0 : (Nat → Int) → Option ρ) (av0 : Nat → Int) : Option ρ :=
  (laws_toTable.s N K0 (fun i1 gv2 => (laws_toTable.l0 N K0 av0 (fun ov4 => (laws_toTable.a0_0 N K0 ov4)) N i1 gv2)))
def laws_toCoalgebra {ρ : Type} (N : Nat) (K0 : (Nat → Int) → (Nat → Int) → Option ρ) (av0 : Nat → Int) (av1 : Nat → Int) : Option ρ :=
  (laws_toVector N (fun rv2 => (laws_toTable N (fun rv3 => (K0 (upd (upd (fun _ => 0) 0 (av0 0)) 1 (av0 1)) (updN (updN (fun _ => 0) 0 8 rv2) 8 512 rv3))) (fun z => (av1 (8 + z))))) (fun z => (av1 (0 + z))))
def spec_l01In {ρ : Type} (N : Nat) (K0 : Bool → Option ρ) (nv0 : Int) (low1 : Int) (high2 : Int) : Option ρ :=
  (if (decide (nv0 ≥ low1)) = true then (K0 ((decide (nv0 ≤ high2)))) else (K0 false))
def spec_l01Prime.b0 {ρ : Type} (N : Nat) (K0 : Bool → Option ρ) (rec : Int → Option ρ) (out0 : Option ρ) (p0 : Int) (k1 : Int) : Option ρ :=
  (if (decide (k1 < p0)) = true then (if (decide (k1 ≤ 31)) = true then (if k1 = 0 then none else (if ((Int.tmod p0 k1) == 0) = true then (K0 false) else (rec ((IntKind.i64.wrap (k1 + 1)))))) else out0) else out0)
def spec_l01Prime.a0_0 {ρ : Type} (N : Nat) (K0 : Bool → Option ρ) (p0 : Int) : Option ρ :=
  (spec_l01In N (fun rv2 => (K0 (rv2))) p0 2 31)
def spec_l01Prime.l0 {ρ : Type} (N : Nat) (K0 : Bool → Option ρ) (p0 : Int) (out0 : Option ρ) : Nat → Int → Option ρ
  | 0, _ => none
  | m + 1, k1 => (spec_l01Prime.b0 N K0 ((spec_l01Prime.l0 N K0 p0 out0 m)) out0 p0 k1)
def spec_l01Prime.s {ρ : Type} (N : Nat) (K0 : Bool → Option ρ) (lp0 : Int → Option ρ) : Option ρ :=
  (lp0 2)
def spec_l01Prime {ρ : Type} (N : Nat) (K0 : Bool → Option ρ) (p0 : Int) : Option ρ :=
  (spec_l01Prime.s N K0 (fun k1 => (spec_l01Prime.l0 N K0 p0 (spec_l01Prime.a0_0 N K0 p0) N k1)))
def spec_l01Sizes {ρ : Type} (N : Nat) (K0 : Bool → Option ρ) (p0 : Int) (nv1 : Int) : Option ρ :=
  (spec_l01Prime N (fun rv2 => (if rv2 = true then (spec_l01In N (fun rv3 => (K0 (rv3))) nv1 1 8) else (K0 false))) p0)
def spec_l01Vector.b0 {ρ : Type} (N : Nat) (K0 : Bool → Option ρ) (rec : Int → Option ρ) (out0 : Option ρ) (p0 : Int) (nv1 : Int) (v2 : Nat → Int) (i3 : Int) : Option ρ :=
  (if (decide (i3 < 8)) = true then (if (0 : Int) ≤ i3 ∧ i3 < 8 then (if (decide ((IntKind.i64.wrap (v2 (i3.toNat * 1))) ≥ p0)) = true then (K0 false) else (if (decide (i3 ≥ nv1)) = true then (if (0 : Int) ≤ i3 ∧ i3 < 8 then (if ((v2 (i3.toNat * 1)) != 0) = true then (K0 false) else (rec ((IntKind.i64.wrap (i3 + 1))))) else none) else (rec ((IntKind.i64.wrap (i3 + 1)))))) else none) else out0)
def spec_l01Vector.a0_0 {ρ : Type} (N : Nat) (K0 : Bool → Option ρ) : Option ρ :=
  (K0 true)
def spec_l01Vector.l0 {ρ : Type} (N : Nat) (K0 : Bool → Option ρ) (p0 : Int) (nv1 : Int) (v2 : Nat → Int) (out0 : Option ρ) : Nat → Int → Option ρ
  | 0, _ => none
  | m + 1, i3 => (spec_l01Vector.b0 N K0 ((spec_l01Vector.l0 N K0 p0 nv1 v2 out0 m)) out0 p0 nv1 v2 i3)
def spec_l01Vector.s {ρ : Type} (N : Nat) (K0 : Bool → Option ρ) (lp0 : Int → Option ρ) : Option ρ :=
  (lp0 0)
def spec_l01Vector {ρ : Type} (N : Nat) (K0 : Bool → Option ρ) (p0 : Int) (nv1 : Int) (v2 : Nat → Int) : Option ρ :=
  (spec_l01Vector.s N K0 (fun i3 => (spec_l01Vector.l0 N K0 p0 nv1 v2 (spec_l01Vector.a0_0 N K0) N i3)))
def spec_l01Linear.b0 {ρ : Type} (N : Nat) (K0 : Bool → Option ρ) (rec : Int → Option ρ) (out0 : Option ρ) (p0 : Int) (nv1 : Int) (f2 : Nat → Int) (i3 : Int) : Option ρ :=
  (if (decide (i3 < 8)) = true then (if (0 : Int) ≤ i3 ∧ i3 < 8 then (spec_l01Vector N (fun rv4 => (if (!rv4) = true then (K0 false) else (if (decide (i3 ≥ nv1)) = true then (if (0 : Int) ≤ i3 ∧ i3 < 8 then (if (!eqN 8 (fun z => (f2 ((i3.toNat * 8) + z))) (fun _ => 0)) = true then (K0 false) else (rec ((IntKind.i64.wrap (i3 + 1))))) else none) else (rec ((IntKind.i64.wrap (i3 + 1))))))) p0 nv1 (fun z => (f2 ((i3.toNat * 8) + z)))) else none) else out0)
def spec_l01Linear.a0_0 {ρ : Type} (N : Nat) (K0 : Bool → Option ρ) : Option ρ :=
  (K0 true)
def spec_l01Linear.l0 {ρ : Type} (N : Nat) (K0 : Bool → Option ρ) (p0 : Int) (nv1 : Int) (f2 : Nat → Int) (out0 : Option ρ) : Nat → Int → Option ρ
  | 0, _ => none
  | m + 1, i3 => (spec_l01Linear.b0 N K0 ((spec_l01Linear.l0 N K0 p0 nv1 f2 out0 m)) out0 p0 nv1 f2 i3)
def spec_l01Linear.s {ρ : Type} (N : Nat) (K0 : Bool → Option ρ) (lp0 : Int → Option ρ) : Option ρ :=
  (lp0 0)
def spec_l01Linear {ρ : Type} (N : Nat) (K0 : Bool → Option ρ) (p0 : Int) (nv1 : Int) (f2 : Nat → Int) : Option ρ :=
  (spec_l01Linear.s N K0 (fun i3 => (spec_l01Linear.l0 N K0 p0 nv1 f2 (spec_l01Linear.a0_0 N K0) N i3)))
def spec_l01Table.b0 {ρ : Type} (N : Nat) (K0 : Bool → Option ρ) (rec : Int → Option ρ) (out0 : Option ρ) (p0 : Int) (nv1 : Int) (t2 : Nat → Int) (i3 : Int) : Option ρ :=
  (if (decide (i3 < 8)) = true then (if (0 : Int) ≤ i3 ∧ i3 < 8 then (spec_l01Linear N (fun rv4 => (if (!rv4) = true then (K0 false) else (if (decide (i3 ≥ nv1)) = true then (if (0 : Int) ≤ i3 ∧ i3 < 8 then (if (!eqN 64 (fun z => (t2 ((i3.toNat * 64) + z))) (fun _ => 0)) = true then (K0 false) else (rec ((IntKind.i64.wrap (i3 + 1))))) else none) else (rec ((IntKind.i64.wrap (i3 + 1))))))) p0 nv1 (fun z => (t2 ((i3.toNat * 64) + z)))) else none) else out0)
def spec_l01Table.a0_0 {ρ : Type} (N : Nat) (K0 : Bool → Option ρ) : Option ρ :=
  (K0 true)
def spec_l01Table.l0 {ρ : Type} (N : Nat) (K0 : Bool → Option ρ) (p0 : Int) (nv1 : Int) (t2 : Nat → Int) (out0 : Option ρ) : Nat → Int → Option ρ
  | 0, _ => none
  | m + 1, i3 => (spec_l01Table.b0 N K0 ((spec_l01Table.l0 N K0 p0 nv1 t2 out0 m)) out0 p0 nv1 t2 i3)
def spec_l01Table.s {ρ : Type} (N : Nat) (K0 : Bool → Option ρ) (lp0 : Int → Option ρ) : Option ρ :=
  (lp0 0)
def spec_l01Table {ρ : Type} (N : Nat) (K0 : Bool → Option ρ) (p0 : Int) (nv1 : Int) (t2 : Nat → Int) : Option ρ :=
  (spec_l01Table.s N K0 (fun i3 => (spec_l01Table.l0 N K0 p0 nv1 t2 (spec_l01Table.a0_0 N K0) N i3)))
def spec_l02Shape {ρ : Type} (N : Nat) (K0 : Bool → Option ρ) (c0 : Nat → Int) (c1 : Nat → Int) : Option ρ :=
  (spec_l01Sizes N (fun rv2 => (if rv2 = true then (spec_l01Vector N (fun rv3 => (if rv3 = true then (spec_l01Table N (fun rv4 => (K0 (rv4))) ((c0 0)) ((c0 1)) (fun z => (c1 (8 + z)))) else (K0 false))) ((c0 0)) ((c0 1)) (fun z => (c1 (0 + z)))) else (K0 false))) ((c0 0)) ((c0 1)))
def spec_l01Mod {ρ : Type} (N : Nat) (K0 : Int → Option ρ) (p0 : Int) (x1 : Int) : Option ρ :=
  (if p0 = 0 then none else (if p0 = 0 then none else (K0 ((IntKind.u8.wrap (Int.tmod (IntKind.i64.wrap ((Int.tmod x1 p0) + p0)) p0))))))
def spec_l02Sums.b0 {ρ : Type} (N : Nat) (K0 : Int → Int → Option ρ) (rec : Int → Int → Int → Option ρ) (out0 : Int → Int → Option ρ) (c0 : Nat → Int) (c1 : Nat → Int) (i2 : Int) (j3 : Int) (k4 : Int) (lv5 : Int) (left6 : Int) (right7 : Int) (av8 : Int) : Option ρ :=
  (if (decide (av8 < (c0 1))) = true then (if (0 : Int) ≤ i2 ∧ i2 < 8 then (if (0 : Int) ≤ av8 ∧ av8 < 8 then (if (0 : Int) ≤ lv5 ∧ lv5 < 8 then (if (0 : Int) ≤ av8 ∧ av8 < 8 then (if (0 : Int) ≤ j3 ∧ j3 < 8 then (if (0 : Int) ≤ k4 ∧ k4 < 8 then (if (0 : Int) ≤ i2 ∧ i2 < 8 then (if (0 : Int) ≤ j3 ∧ j3 < 8 then (if (0 : Int) ≤ av8 ∧ av8 < 8 then (if (0 : Int) ≤ av8 ∧ av8 < 8 then (if (0 : Int) ≤ k4 ∧ k4 < 8 then (if (0 : Int) ≤ lv5 ∧ lv5 < 8 then (rec ((IntKind.i64.wrap (left6 + (IntKind.i64.wrap ((IntKind.i64.wrap (c1 (((8 + (i2.toNat * 64)) + (av8.toNat * 8)) + (lv5.toNat * 1)))) * (IntKind.i64.wrap (c1 (((8 + (av8.toNat * 64)) + (j3.toNat * 8)) + (k4.toNat * 1))))))))) ((IntKind.i64.wrap (right7 + (IntKind.i64.wrap ((IntKind.i64.wrap (c1 (((8 + (i2.toNat * 64)) + (j3.toNat * 8)) + (av8.toNat * 1)))) * (IntKind.i64.wrap (c1 (((8 + (av8.toNat * 64)) + (k4.toNat * 8)) + (lv5.toNat * 1))))))))) ((IntKind.i64.wrap (av8 + 1)))) else none) else none) else none) else none) else none) else none) else none) else none) else none) else none) else none) else none) else (out0 left6 right7))
def spec_l02Sums.a0_0 {ρ : Type} (N : Nat) (K0 : Int → Int → Option ρ) (c0 : Nat → Int) (ov9 : Int) (ov10 : Int) : Option ρ :=
  (spec_l01Mod N (fun rv11 => (spec_l01Mod N (fun rv12 => (K0 rv11 rv12)) ((c0 0)) ov10)) ((c0 0)) ov9)
def spec_l02Sums.l0 {ρ : Type} (N : Nat) (K0 : Int → Int → Option ρ) (c0 : Nat → Int) (c1 : Nat → Int) (i2 : Int) (j3 : Int) (k4 : Int) (lv5 : Int) (out0 : Int → Int → Option ρ) : Nat → Int → Int → Int → Option ρ
  | 0, _, _, _ => none
  | m + 1, left6, right7, av8 => (spec_l02Sums.b0 N K0 ((spec_l02Sums.l0 N K0 c0 c1 i2 j3 k4 lv5 out0 m)) out0 c0 c1 i2 j3 k4 lv5 left6 right7 av8)
def spec_l02Sums.s {ρ : Type} (N : Nat) (K0 : Int → Int → Option ρ) (lp0 : Int → Int → Int → Option ρ) : Option ρ :=
  (lp0 0 0 0)
def spec_l02Sums {ρ : Type} (N : Nat) (K0 : Int → Int → Option ρ) (c0 : Nat → Int) (c1 : Nat → Int) (i2 : Int) (j3 : Int) (k4 : Int) (lv5 : Int) : Option ρ :=
  (spec_l02Sums.s N K0 (fun left6 right7 av8 => (spec_l02Sums.l0 N K0 c0 c1 i2 j3 k4 lv5 (fun ov9 ov10 => (spec_l02Sums.a0_0 N K0 c0 ov9 ov10)) N left6 right7 av8)))
def spec_l02Fault.b0 {ρ : Type} (N : Nat) (K0 : Nat → Nat → Bool → (Nat → Int) → Option ρ) (K1 : Bool → Option ρ) (rec : Int → Option ρ) (out0 : Option ρ) (c0 : Nat → Int) (c1 : Nat → Int) (mv2 : Int) : Option ρ :=
  (if (decide (mv2 < (IntKind.i64.wrap ((IntKind.i64.wrap ((IntKind.i64.wrap ((c0 1) * (c0 1))) * (c0 1))) * (c0 1))))) = true then (if (IntKind.i64.wrap ((IntKind.i64.wrap ((c0 1) * (c0 1))) * (c0 1))) = 0 then none else (if (IntKind.i64.wrap ((c0 1) * (c0 1))) = 0 then none else (if (c0 1) = 0 then none else (if (c0 1) = 0 then none else (if (c0 1) = 0 then none else (if (c0 1) = 0 then none else (spec_l02Sums N (fun rv3 rv4 => (if (rv3 != rv4) = true then (K0 4 4 true (upd (upd (upd (upd (fun _ => 0) 0 (IntKind.i64.wrap (Int.tdiv mv2 (IntKind.i64.wrap ((IntKind.i64.wrap ((c0 1) * (c0 1))) * (c0 1)))))) 1 (Int.tmod (IntKind.i64.wrap (Int.tdiv mv2 (IntKind.i64.wrap ((c0 1) * (c0 1))))) (c0 1))) 2 (Int.tmod (IntKind.i64.wrap (Int.tdiv mv2 (c0 1))) (c0 1))) 3 (Int.tmod mv2 (c0 1)))) else (rec ((IntKind.i64.wrap (mv2 + 1)))))) c0 c1 ((IntKind.i64.wrap (Int.tdiv mv2 (IntKind.i64.wrap ((IntKind.i64.wrap ((c0 1) * (c0 1))) * (c0 1)))))) ((Int.tmod (IntKind.i64.wrap (Int.tdiv mv2 (IntKind.i64.wrap ((c0 1) * (c0 1))))) (c0 1))) ((Int.tmod (IntKind.i64.wrap (Int.tdiv mv2 (c0 1))) (c0 1))) ((Int.tmod mv2 (c0 1)))))))))) else out0)
def spec_l02Fault.a0_0 {ρ : Type} (N : Nat) (K0 : Nat → Nat → Bool → (Nat → Int) → Option ρ) (K1 : Bool → Option ρ) : Option ρ :=
  (K1 false)
def spec_l02Fault.l0 {ρ : Type} (N : Nat) (K0 : Nat → Nat → Bool → (Nat → Int) → Option ρ) (K1 : Bool → Option ρ) (c0 : Nat → Int) (c1 : Nat → Int) (out0 : Option ρ) : Nat → Int → Option ρ
  | 0, _ => none
  | m + 1, mv2 => (spec_l02Fault.b0 N K0 K1 ((spec_l02Fault.l0 N K0 K1 c0 c1 out0 m)) out0 c0 c1 mv2)
def spec_l02Fault.s {ρ : Type} (N : Nat) (K0 : Nat → Nat → Bool → (Nat → Int) → Option ρ) (K1 : Bool → Option ρ) (lp0 : Int → Option ρ) : Option ρ :=
  (lp0 0)
def spec_l02Fault {ρ : Type} (N : Nat) (K0 : Nat → Nat → Bool → (Nat → Int) → Option ρ) (K1 : Bool → Option ρ) (c0 : Nat → Int) (c1 : Nat → Int) : Option ρ :=
  (spec_l02Fault.s N K0 K1 (fun mv2 => (spec_l02Fault.l0 N K0 K1 c0 c1 (spec_l02Fault.a0_0 N K0 K1) N mv2)))
def spec_l01Add.b0 {ρ : Type} (N : Nat) (K0 : (Nat → Int) → Option ρ) (rec : Int → (Nat → Int) → Option ρ) (out0 : (Nat → Int) → Option ρ) (p0 : Int) (w2 : Nat → Int) (k3 : Int) (i4 : Int) (gv5 : Nat → Int) : Option ρ :=
  (if (decide (i4 < 8)) = true then (if (0 : Int) ≤ i4 ∧ i4 < 8 then (if (0 : Int) ≤ i4 ∧ i4 < 8 then (spec_l01Mod N (fun rv6 => (if (0 : Int) ≤ i4 ∧ i4 < 8 then (rec ((IntKind.i64.wrap (i4 + 1))) (upd gv5 (i4.toNat * 1) rv6)) else none)) p0 ((IntKind.i64.wrap ((IntKind.i64.wrap (gv5 (i4.toNat * 1))) + (IntKind.i64.wrap (k3 * (IntKind.i64.wrap (w2 (i4.toNat * 1))))))))) else none) else none) else (out0 gv5))
def spec_l01Add.a0_0 {ρ : Type} (N : Nat) (K0 : (Nat → Int) → Option ρ) (ov7 : Nat → Int) : Option ρ :=
  (K0 ov7)
def spec_l01Add.l0 {ρ : Type} (N : Nat) (K0 : (Nat → Int) → Option ρ) (p0 : Int) (w2 : Nat → Int) (k3 : Int) (out0 : (Nat → Int) → Option ρ) : Nat → Int → (Nat → Int) → Option ρ
  | 0, _, _ => none
  | m + 1, i4, gv5 => (spec_l01Add.b0 N K0 ((spec_l01Add.l0 N K0 p0 w2 k3 out0 m)) out0 p0 w2 k3 i4 gv5)
def spec_l01Add.s {ρ : Type} (N : Nat) (K0 : (Nat → Int) → Option ρ) (lp0 : Int → (Nat → Int) → Option ρ) (v1 : Nat → Int) : Option ρ :=
  (lp0 0 v1)
def spec_l01Add {ρ : Type} (N : Nat) (K0 : (Nat → Int) → Option ρ) (p0 : Int) (v1 : Nat → Int) (w2 : Nat → Int) (k3 : Int) : Option ρ :=
  (spec_l01Add.s N K0 (fun i4 gv5 => (spec_l01Add.l0 N K0 p0 w2 k3 (fun ov7 => (spec_l01Add.a0_0 N K0 ov7)) N i4 gv5)) v1)
def spec_l01Basis {ρ : Type} (N : Nat) (K0 : (Nat → Int) → Option ρ) (i0 : Int) : Option ρ :=
  (if (0 : Int) ≤ i0 ∧ i0 < 8 then (K0 (upd (fun _ => 0) (i0.toNat * 1) 1)) else none)
def spec_l02Counits.b2 {ρ : Type} (N : Nat) (K0 : Bool → Option ρ) (rec : Int → Int → Option ρ) (out0 : Int → Option ρ) (c0 : Nat → Int) (c1 : Nat → Int) (i2 : Int) (j3 : Int) (sum7 : Int) (k8 : Int) : Option ρ :=
  (if (decide (k8 < (c0 1))) = true then (if (0 : Int) ≤ k8 ∧ k8 < 8 then (if (0 : Int) ≤ i2 ∧ i2 < 8 then (if (0 : Int) ≤ j3 ∧ j3 < 8 then (if (0 : Int) ≤ k8 ∧ k8 < 8 then (rec ((IntKind.i64.wrap (sum7 + (IntKind.i64.wrap ((IntKind.i64.wrap (c1 (0 + (k8.toNat * 1)))) * (IntKind.i64.wrap (c1 (((8 + (i2.toNat * 64)) + (j3.toNat * 8)) + (k8.toNat * 1))))))))) ((IntKind.i64.wrap (k8 + 1)))) else none) else none) else none) else none) else (out0 sum7))
def spec_l02Counits.a2_0 {ρ : Type} (N : Nat) (K0 : Bool → Option ρ) (rec : Int → (Nat → Int) → (Nat → Int) → Option ρ) (out0 : (Nat → Int) → (Nat → Int) → Option ρ) (c0 : Nat → Int) (j3 : Int) (gv5 : Nat → Int) (rv6 : Nat → Int) (ov9 : Int) : Option ρ :=
  (spec_l01Mod N (fun rv10 => (if (0 : Int) ≤ j3 ∧ j3 < 8 then (rec ((IntKind.i64.wrap (j3 + 1))) rv6 (upd gv5 (j3.toNat * 1) rv10)) else none)) ((c0 0)) ov9)
def spec_l02Counits.b1 {ρ : Type} (N : Nat) (K0 : Bool → Option ρ) (lp2 : (Nat → Int) → Int → Int → Option ρ) (rec : Int → (Nat → Int) → (Nat → Int) → Option ρ) (out0 : (Nat → Int) → (Nat → Int) → Option ρ) (c0 : Nat → Int) (c1 : Nat → Int) (i2 : Int) (j3 : Int) (gv4 : Nat → Int) (gv5 : Nat → Int) : Option ρ :=
  (if (decide (j3 < (c0 1))) = true then (if (0 : Int) ≤ i2 ∧ i2 < 8 then (if (0 : Int) ≤ j3 ∧ j3 < 8 then (if (0 : Int) ≤ j3 ∧ j3 < 8 then (spec_l01Add N (fun rv6 => (lp2 rv6 0 0)) ((c0 0)) gv4 (fun z => (c1 (((8 + (i2.toNat * 64)) + (j3.toNat * 8)) + z))) ((IntKind.i64.wrap (c1 (0 + (j3.toNat * 1)))))) else none) else none) else none) else (out0 gv4 gv5))
def spec_l02Counits.a1_0 {ρ : Type} (N : Nat) (K0 : Bool → Option ρ) (rec : Int → Option ρ) (out0 : Option ρ) (i2 : Int) (ov11 : Nat → Int) (ov12 : Nat → Int) : Option ρ :=
  (spec_l01Basis N (fun rv13 => (if (!eqN 8 ov11 rv13) = true then (K0 false) else (spec_l01Basis N (fun rv14 => (if (!eqN 8 ov12 rv14) = true then (K0 false) else (rec ((IntKind.i64.wrap (i2 + 1)))))) i2))) i2)
def spec_l02Counits.b0 {ρ : Type} (N : Nat) (K0 : Bool → Option ρ) (lp1 : Int → (Nat → Int) → (Nat → Int) → Option ρ) (rec : Int → Option ρ) (out0 : Option ρ) (c0 : Nat → Int) (i2 : Int) : Option ρ :=
  (if (decide (i2 < (c0 1))) = true then (lp1 0 (fun _ => 0) (fun _ => 0)) else out0)
def spec_l02Counits.a0_0 {ρ : Type} (N : Nat) (K0 : Bool → Option ρ) : Option ρ :=
  (K0 true)
def spec_l02Counits.l2 {ρ : Type} (N : Nat) (K0 : Bool → Option ρ) (c0 : Nat → Int) (c1 : Nat → Int) (i2 : Int) (j3 : Int) (out0 : Int → Option ρ) : Nat → Int → Int → Option ρ
  | 0, _, _ => none
  | m + 1, sum7, k8 => (spec_l02Counits.b2 N K0 ((spec_l02Counits.l2 N K0 c0 c1 i2 j3 out0 m)) out0 c0 c1 i2 j3 sum7 k8)
def spec_l02Counits.l1 {ρ : Type} (N : Nat) (K0 : Bool → Option ρ) (c0 : Nat → Int) (c1 : Nat → Int) (i2 : Int) (out0 : (Nat → Int) → (Nat → Int) → Option ρ) : Nat → Int → (Nat → Int) → (Nat → Int) → Option ρ
  | 0, _, _, _ => none
  | m + 1, j3, gv4, gv5 => (spec_l02Counits.b1 N K0 (fun rv6 sum7 k8 => (spec_l02Counits.l2 N K0 c0 c1 i2 j3 (fun ov9 => (spec_l02Counits.a2_0 N K0 (spec_l02Counits.l1 N K0 c0 c1 i2 out0 m) out0 c0 j3 gv5 rv6 ov9)) N sum7 k8)) ((spec_l02Counits.l1 N K0 c0 c1 i2 out0 m)) out0 c0 c1 i2 j3 gv4 gv5)
def spec_l02Counits.l0 {ρ : Type} (N : Nat) (K0 : Bool → Option ρ) (c0 : Nat → Int) (c1 : Nat → Int) (out0 : Option ρ) : Nat → Int → Option ρ
  | 0, _ => none
  | m + 1, i2 => (spec_l02Counits.b0 N K0 (fun j3 gv4 gv5 => (spec_l02Counits.l1 N K0 c0 c1 i2 (fun ov11 ov12 => (spec_l02Counits.a1_0 N K0 (spec_l02Counits.l0 N K0 c0 c1 out0 m) out0 i2 ov11 ov12)) N j3 gv4 gv5)) ((spec_l02Counits.l0 N K0 c0 c1 out0 m)) out0 c0 i2)
def spec_l02Counits.s {ρ : Type} (N : Nat) (K0 : Bool → Option ρ) (lp0 : Int → Option ρ) : Option ρ :=
  (lp0 0)
def spec_l02Counits {ρ : Type} (N : Nat) (K0 : Bool → Option ρ) (c0 : Nat → Int) (c1 : Nat → Int) : Option ρ :=
  (spec_l02Counits.s N K0 (fun i2 => (spec_l02Counits.l0 N K0 c0 c1 (spec_l02Counits.a0_0 N K0) N i2)))
def spec_l02Is {ρ : Type} (N : Nat) (K0 : Bool → Option ρ) (c0 : Nat → Int) (c1 : Nat → Int) : Option ρ :=
  (spec_l02Shape N (fun rv2 => (if (!rv2) = true then (K0 false) else (spec_l02Fault N (fun rv3 rv4 rv5 rv6 => (if (!rv5) = true then (spec_l02Counits N (fun rv7 => (K0 (rv7))) c0 c1) else (K0 false))) (fun rv8 => (if (!rv8) = true then (spec_l02Counits N (fun rv9 => (K0 (rv9))) c0 c1) else (K0 false))) c0 c1))) c0 c1)
def spec_l02Code_s.b0 {ρ : Type} (N : Nat) (K0 : Int → Option ρ) (rec : Int → Option ρ) (out0 : Option ρ) (c0 : Nat → Int) (list2 : Nat) (gv5 : Nat → Int) (i7 : Int) : Option ρ :=
  (if (decide (i7 < (list2 : Int))) = true then (if (0 : Int) ≤ i7 ∧ i7 < (list2 : Int) then (spec_l01Vector N (fun rv8 => (if (!rv8) = true then (K0 1) else (rec ((IntKind.i64.wrap (i7 + 1)))))) ((c0 0)) ((c0 1)) (fun z => (gv5 ((0 + (i7.toNat * 8)) + z)))) else none) else out0)
def spec_l02Code_s.a0_0 {ρ : Type} (N : Nat) (K0 : Int → Option ρ) : Option ρ :=
  (K0 0)
def spec_l02Code_s.l0 {ρ : Type} (N : Nat) (K0 : Int → Option ρ) (c0 : Nat → Int) (list2 : Nat) (gv5 : Nat → Int) (out0 : Option ρ) : Nat → Int → Option ρ
  | 0, _ => none
  | m + 1, i7 => (spec_l02Code_s.b0 N K0 ((spec_l02Code_s.l0 N K0 c0 list2 gv5 out0 m)) out0 c0 list2 gv5 i7)
def spec_l02Code_s.s {ρ : Type} (N : Nat) (K0 : Int → Option ρ) (lp0 : Int → Option ρ) (c0 : Nat → Int) (c1 : Nat → Int) : Option ρ :=
  (spec_l02Is N (fun rv6 => (if (!rv6) = true then (K0 1) else (lp0 0))) c0 c1)
def spec_l02Code_s {ρ : Type} (N : Nat) (K0 : Int → Option ρ) (c0 : Nat → Int) (c1 : Nat → Int) (list2 : Nat) (list3 : Nat) (gv4 : Nat) (gv5 : Nat → Int) : Option ρ :=
  (spec_l02Code_s.s N K0 (fun i7 => (spec_l02Code_s.l0 N K0 c0 list2 gv5 (spec_l02Code_s.a0_0 N K0) N i7)) c0 c1)
def spec_l02Counit.b0 {ρ : Type} (N : Nat) (K0 : Int → Option ρ) (rec : Int → Int → Option ρ) (out0 : Int → Option ρ) (c1 : Nat → Int) (v2 : Nat → Int) (sum3 : Int) (i4 : Int) : Option ρ :=
  (if (decide (i4 < 8)) = true then (if (0 : Int) ≤ i4 ∧ i4 < 8 then (if (0 : Int) ≤ i4 ∧ i4 < 8 then (rec ((IntKind.i64.wrap (sum3 + (IntKind.i64.wrap ((IntKind.i64.wrap (v2 (i4.toNat * 1))) * (IntKind.i64.wrap (c1 (0 + (i4.toNat * 1))))))))) ((IntKind.i64.wrap (i4 + 1)))) else none) else none) else (out0 sum3))
def spec_l02Counit.a0_0 {ρ : Type} (N : Nat) (K0 : Int → Option ρ) (c0 : Nat → Int) (ov5 : Int) : Option ρ :=
  (if (c0 0) = 0 then none else (K0 ((Int.tmod ov5 (c0 0)))))
def spec_l02Counit.l0 {ρ : Type} (N : Nat) (K0 : Int → Option ρ) (c1 : Nat → Int) (v2 : Nat → Int) (out0 : Int → Option ρ) : Nat → Int → Int → Option ρ
  | 0, _, _ => none
  | m + 1, sum3, i4 => (spec_l02Counit.b0 N K0 ((spec_l02Counit.l0 N K0 c1 v2 out0 m)) out0 c1 v2 sum3 i4)
def spec_l02Counit.s {ρ : Type} (N : Nat) (K0 : Int → Option ρ) (lp0 : Int → Int → Option ρ) : Option ρ :=
  (lp0 0 0)
def spec_l02Counit {ρ : Type} (N : Nat) (K0 : Int → Option ρ) (c0 : Nat → Int) (c1 : Nat → Int) (v2 : Nat → Int) : Option ρ :=
  (spec_l02Counit.s N K0 (fun sum3 i4 => (spec_l02Counit.l0 N K0 c1 v2 (fun ov5 => (spec_l02Counit.a0_0 N K0 c0 ov5)) N sum3 i4)))
def spec_l02Coproduct.b1 {ρ : Type} (N : Nat) (K0 : (Nat → Int) → Option ρ) (rec : Int → (Nat → Int) → Option ρ) (out0 : (Nat → Int) → Option ρ) (c0 : Nat → Int) (c1 : Nat → Int) (v2 : Nat → Int) (i3 : Int) (j5 : Int) (gv6 : Nat → Int) : Option ρ :=
  (if (decide (j5 < (c0 1))) = true then (if (0 : Int) ≤ j5 ∧ j5 < 8 then (if (0 : Int) ≤ i3 ∧ i3 < 8 then (if (0 : Int) ≤ j5 ∧ j5 < 8 then (if (0 : Int) ≤ i3 ∧ i3 < 8 then (spec_l01Add N (fun rv7 => (if (0 : Int) ≤ j5 ∧ j5 < 8 then (rec ((IntKind.i64.wrap (j5 + 1))) (updN gv6 (j5.toNat * 8) 8 rv7)) else none)) ((c0 0)) (fun z => (gv6 ((j5.toNat * 8) + z))) (fun z => (c1 (((8 + (i3.toNat * 64)) + (j5.toNat * 8)) + z))) ((IntKind.i64.wrap (v2 (i3.toNat * 1))))) else none) else none) else none) else none) else (out0 gv6))
def spec_l02Coproduct.a1_0 {ρ : Type} (N : Nat) (K0 : (Nat → Int) → Option ρ) (rec : Int → (Nat → Int) → Option ρ) (out0 : (Nat → Int) → Option ρ) (i3 : Int) (ov8 : Nat → Int) : Option ρ :=
  (rec ((IntKind.i64.wrap (i3 + 1))) ov8)
def spec_l02Coproduct.b0 {ρ : Type} (N : Nat) (K0 : (Nat → Int) → Option ρ) (lp1 : Int → (Nat → Int) → Option ρ) (rec : Int → (Nat → Int) → Option ρ) (out0 : (Nat → Int) → Option ρ) (c0 : Nat → Int) (i3 : Int) (gv4 : Nat → Int) : Option ρ :=
  (if (decide (i3 < (c0 1))) = true then (lp1 0 gv4) else (out0 gv4))
def spec_l02Coproduct.a0_0 {ρ : Type} (N : Nat) (K0 : (Nat → Int) → Option ρ) (ov9 : Nat → Int) : Option ρ :=
  (K0 ov9)
def spec_l02Coproduct.l1 {ρ : Type} (N : Nat) (K0 : (Nat → Int) → Option ρ) (c0 : Nat → Int) (c1 : Nat → Int) (v2 : Nat → Int) (i3 : Int) (out0 : (Nat → Int) → Option ρ) : Nat → Int → (Nat → Int) → Option ρ
  | 0, _, _ => none
  | m + 1, j5, gv6 => (spec_l02Coproduct.b1 N K0 ((spec_l02Coproduct.l1 N K0 c0 c1 v2 i3 out0 m)) out0 c0 c1 v2 i3 j5 gv6)
def spec_l02Coproduct.l0 {ρ : Type} (N : Nat) (K0 : (Nat → Int) → Option ρ) (c0 : Nat → Int) (c1 : Nat → Int) (v2 : Nat → Int) (out0 : (Nat → Int) → Option ρ) : Nat → Int → (Nat → Int) → Option ρ
  | 0, _, _ => none
  | m + 1, i3, gv4 => (spec_l02Coproduct.b0 N K0 (fun j5 gv6 => (spec_l02Coproduct.l1 N K0 c0 c1 v2 i3 (fun ov8 => (spec_l02Coproduct.a1_0 N K0 (spec_l02Coproduct.l0 N K0 c0 c1 v2 out0 m) out0 i3 ov8)) N j5 gv6)) ((spec_l02Coproduct.l0 N K0 c0 c1 v2 out0 m)) out0 c0 i3 gv4)
def spec_l02Coproduct.s {ρ : Type} (N : Nat) (K0 : (Nat → Int) → Option ρ) (lp0 : Int → (Nat → Int) → Option ρ) : Option ρ :=
  (lp0 0 (fun _ => 0))
def spec_l02Coproduct {ρ : Type} (N : Nat) (K0 : (Nat → Int) → Option ρ) (c0 : Nat → Int) (c1 : Nat → Int) (v2 : Nat → Int) : Option ρ :=
  (spec_l02Coproduct.s N K0 (fun i3 gv4 => (spec_l02Coproduct.l0 N K0 c0 c1 v2 (fun ov9 => (spec_l02Coproduct.a0_0 N K0 ov9)) N i3 gv4)))
def spec_l02Outer.b0 {ρ : Type} (N : Nat) (K0 : (Nat → Int) → Option ρ) (rec : Int → (Nat → Int) → Option ρ) (out0 : (Nat → Int) → Option ρ) (p0 : Int) (v1 : Nat → Int) (w2 : Nat → Int) (j3 : Int) (gv4 : Nat → Int) : Option ρ :=
  (if (decide (j3 < 8)) = true then (if (0 : Int) ≤ j3 ∧ j3 < 8 then (spec_l01Add N (fun rv5 => (if (0 : Int) ≤ j3 ∧ j3 < 8 then (rec ((IntKind.i64.wrap (j3 + 1))) (updN gv4 (j3.toNat * 8) 8 rv5)) else none)) p0 (fun _ => 0) w2 ((IntKind.i64.wrap (v1 (j3.toNat * 1))))) else none) else (out0 gv4))
def spec_l02Outer.a0_0 {ρ : Type} (N : Nat) (K0 : (Nat → Int) → Option ρ) (ov6 : Nat → Int) : Option ρ :=
  (K0 ov6)
def spec_l02Outer.l0 {ρ : Type} (N : Nat) (K0 : (Nat → Int) → Option ρ) (p0 : Int) (v1 : Nat → Int) (w2 : Nat → Int) (out0 : (Nat → Int) → Option ρ) : Nat → Int → (Nat → Int) → Option ρ
  | 0, _, _ => none
  | m + 1, j3, gv4 => (spec_l02Outer.b0 N K0 ((spec_l02Outer.l0 N K0 p0 v1 w2 out0 m)) out0 p0 v1 w2 j3 gv4)
def spec_l02Outer.s {ρ : Type} (N : Nat) (K0 : (Nat → Int) → Option ρ) (lp0 : Int → (Nat → Int) → Option ρ) : Option ρ :=
  (lp0 0 (fun _ => 0))
def spec_l02Outer {ρ : Type} (N : Nat) (K0 : (Nat → Int) → Option ρ) (p0 : Int) (v1 : Nat → Int) (w2 : Nat → Int) : Option ρ :=
  (spec_l02Outer.s N K0 (fun j3 gv4 => (spec_l02Outer.l0 N K0 p0 v1 w2 (fun ov6 => (spec_l02Outer.a0_0 N K0 ov6)) N j3 gv4)))
def spec_l02Group {ρ : Type} (N : Nat) (K0 : Bool → Option ρ) (c0 : Nat → Int) (c1 : Nat → Int) (v2 : Nat → Int) : Option ρ :=
  (spec_l02Counit N (fun rv3 => (if (rv3 == 1) = true then (spec_l02Coproduct N (fun rv4 => (spec_l02Outer N (fun rv5 => (K0 ((eqN 64 rv4 rv5)))) ((c0 0)) v2 v2)) c0 c1 v2) else (K0 false))) c0 c1 v2)
def spec_l01First.b0 {ρ : Type} (N : Nat) (K0 : Int → Option ρ) (rec : Int → Option ρ) (out0 : Int → Option ρ) (v0 : Nat → Int) (at1 : Int) : Option ρ :=
  (if (decide (at1 < 8)) = true then (if (0 : Int) ≤ at1 ∧ at1 < 8 then (if ((v0 (at1.toNat * 1)) == 0) = true then (rec ((IntKind.i64.wrap (at1 + 1)))) else (out0 at1)) else none) else (out0 at1))
def spec_l01First.a0_0 {ρ : Type} (N : Nat) (K0 : Int → Option ρ) (ov2 : Int) : Option ρ :=
  (K0 ov2)
def spec_l01First.l0 {ρ : Type} (N : Nat) (K0 : Int → Option ρ) (v0 : Nat → Int) (out0 : Int → Option ρ) : Nat → Int → Option ρ
  | 0, _ => none
  | m + 1, at1 => (spec_l01First.b0 N K0 ((spec_l01First.l0 N K0 v0 out0 m)) out0 v0 at1)
def spec_l01First.s {ρ : Type} (N : Nat) (K0 : Int → Option ρ) (lp0 : Int → Option ρ) : Option ρ :=
  (lp0 0)
def spec_l01First {ρ : Type} (N : Nat) (K0 : Int → Option ρ) (v0 : Nat → Int) : Option ρ :=
  (spec_l01First.s N K0 (fun at1 => (spec_l01First.l0 N K0 v0 (fun ov2 => (spec_l01First.a0_0 N K0 ov2)) N at1)))
def spec_l01Zero {ρ : Type} (N : Nat) (K0 : Bool → Option ρ) (v0 : Nat → Int) : Option ρ :=
  (K0 ((eqN 8 v0 (fun _ => 0))))
def spec_l01Inverse.b0 {ρ : Type} (N : Nat) (K0 : Int → Option ρ) (rec : Int → Option ρ) (out0 : Option ρ) (p0 : Int) (x1 : Int) (k2 : Int) : Option ρ :=
  (if (decide (k2 < p0)) = true then (if p0 = 0 then none else (if ((Int.tmod (IntKind.i64.wrap (k2 * (IntKind.i64.wrap x1))) p0) == 1) = true then (K0 ((IntKind.u8.wrap k2))) else (rec ((IntKind.i64.wrap (k2 + 1)))))) else out0)
def spec_l01Inverse.a0_0 {ρ : Type} (N : Nat) (K0 : Int → Option ρ) : Option ρ :=
  (K0 0)
def spec_l01Inverse.l0 {ρ : Type} (N : Nat) (K0 : Int → Option ρ) (p0 : Int) (x1 : Int) (out0 : Option ρ) : Nat → Int → Option ρ
  | 0, _ => none
  | m + 1, k2 => (spec_l01Inverse.b0 N K0 ((spec_l01Inverse.l0 N K0 p0 x1 out0 m)) out0 p0 x1 k2)
def spec_l01Inverse.s {ρ : Type} (N : Nat) (K0 : Int → Option ρ) (lp0 : Int → Option ρ) : Option ρ :=
  (lp0 1)
def spec_l01Inverse {ρ : Type} (N : Nat) (K0 : Int → Option ρ) (p0 : Int) (x1 : Int) : Option ρ :=
  (spec_l01Inverse.s N K0 (fun k2 => (spec_l01Inverse.l0 N K0 p0 x1 (spec_l01Inverse.a0_0 N K0) N k2)))
def spec_l01By_su_v2.b0 {ρ : Type} (N : Nat) (K0 : (Nat → Int) → Option ρ) (rec : Int → (Nat → Int) → Option ρ) (out0 : (Nat → Int) → Option ρ) (p0 : Int) (rows2 : Nat) (gv4 : Nat → Int) (i5 : Int) (gv6 : Nat → Int) : Option ρ :=
  (if (decide (i5 < (rows2 : Int))) = true then (if (0 : Int) ≤ i5 ∧ i5 < (rows2 : Int) then (spec_l01First N (fun rv7 => (if (0 : Int) ≤ rv7 ∧ rv7 < 8 then (if ((gv6 (rv7.toNat * 1)) != 0) = true then (if (0 : Int) ≤ i5 ∧ i5 < (rows2 : Int) then (if (0 : Int) ≤ rv7 ∧ rv7 < 8 then (spec_l01Add N (fun rv8 => (rec ((IntKind.i64.wrap (i5 + 1))) rv8)) p0 gv6 (fun z => (gv4 ((0 + (i5.toNat * 8)) + z))) ((IntKind.i64.wrap (0 - (IntKind.i64.wrap (gv6 (rv7.toNat * 1))))))) else none) else none) else (rec ((IntKind.i64.wrap (i5 + 1))) gv6)) else none)) (fun z => (gv4 ((0 + (i5.toNat * 8)) + z)))) else none) else (out0 gv6))
def spec_l01By_su_v2.a0_0 {ρ : Type} (N : Nat) (K0 : (Nat → Int) → Option ρ) (ov9 : Nat → Int) : Option ρ :=
  (K0 ov9)
def spec_l01By_su_v2.l0 {ρ : Type} (N : Nat) (K0 : (Nat → Int) → Option ρ) (p0 : Int) (rows2 : Nat) (gv4 : Nat → Int) (out0 : (Nat → Int) → Option ρ) : Nat → Int → (Nat → Int) → Option ρ
  | 0, _, _ => none
  | m + 1, i5, gv6 => (spec_l01By_su_v2.b0 N K0 ((spec_l01By_su_v2.l0 N K0 p0 rows2 gv4 out0 m)) out0 p0 rows2 gv4 i5 gv6)
def spec_l01By_su_v2.s {ρ : Type} (N : Nat) (K0 : (Nat → Int) → Option ρ) (lp0 : Int → (Nat → Int) → Option ρ) (v1 : Nat → Int) : Option ρ :=
  (lp0 0 v1)
def spec_l01By_su_v2 {ρ : Type} (N : Nat) (K0 : (Nat → Int) → Option ρ) (p0 : Int) (v1 : Nat → Int) (rows2 : Nat) (gv3 : Nat) (gv4 : Nat → Int) : Option ρ :=
  (spec_l01By_su_v2.s N K0 (fun i5 gv6 => (spec_l01By_su_v2.l0 N K0 p0 rows2 gv4 (fun ov9 => (spec_l01By_su_v2.a0_0 N K0 ov9)) N i5 gv6)) v1)
def spec_l01Put_su_v2.b0 {ρ : Type} (N : Nat) (K0 : Nat → Option ρ) (K1 : Nat → (Nat → Int) → Option ρ) (rec : Nat → Bool → Int → (Nat → Int) → Option ρ) (out0 : Nat → Bool → (Nat → Int) → Option ρ) (p0 : Int) (rows1 : Nat) (gv4 : Nat → Int) (rv7 : Int) (rv9 : Nat → Int) (outv10 : Nat) (placed11 : Bool) (i12 : Int) (gv13 : Nat → Int) : Option ρ :=
  (if (decide (i12 < (rows1 : Int))) = true then (if (!placed11) = true then (if (0 : Int) ≤ i12 ∧ i12 < (rows1 : Int) then (spec_l01First N (fun rv14 => (if (decide (rv14 > rv7)) = true then (if (outv10 + 1) * 8 ≤ 140737488355328 then (if (0 : Int) ≤ i12 ∧ i12 < (rows1 : Int) then (if (0 : Int) ≤ i12 ∧ i12 < (rows1 : Int) then (if (0 : Int) ≤ rv7 ∧ rv7 < 8 then (spec_l01Add N (fun rv15 => (if ((outv10 + 1) + 1) * 8 ≤ 140737488355328 then (rec ((outv10 + 1) + 1) true ((IntKind.i64.wrap (i12 + 1))) (joinN ((outv10 + 1) * 8) (joinN (outv10 * 8) gv13 rv9) rv15)) else none)) p0 (fun z => (gv4 ((0 + (i12.toNat * 8)) + z))) rv9 ((IntKind.i64.wrap (0 - (IntKind.i64.wrap (gv4 ((0 + (i12.toNat * 8)) + (rv7.toNat * 1)))))))) else none) else none) else none) else none) else (if (0 : Int) ≤ i12 ∧ i12 < (rows1 : Int) then (if (0 : Int) ≤ i12 ∧ i12 < (rows1 : Int) then (if (0 : Int) ≤ rv7 ∧ rv7 < 8 then (spec_l01Add N (fun rv16 => (if (outv10 + 1) * 8 ≤ 140737488355328 then (rec (outv10 + 1) (placed11) ((IntKind.i64.wrap (i12 + 1))) (joinN (outv10 * 8) gv13 rv16)) else none)) p0 (fun z => (gv4 ((0 + (i12.toNat * 8)) + z))) rv9 ((IntKind.i64.wrap (0 - (IntKind.i64.wrap (gv4 ((0 + (i12.toNat * 8)) + (rv7.toNat * 1)))))))) else none) else none) else none))) (fun z => (gv4 ((0 + (i12.toNat * 8)) + z)))) else none) else (if (0 : Int) ≤ i12 ∧ i12 < (rows1 : Int) then (if (0 : Int) ≤ i12 ∧ i12 < (rows1 : Int) then (if (0 : Int) ≤ rv7 ∧ rv7 < 8 then (spec_l01Add N (fun rv17 => (if (outv10 + 1) * 8 ≤ 140737488355328 then (rec (outv10 + 1) (placed11) ((IntKind.i64.wrap (i12 + 1))) (joinN (outv10 * 8) gv13 rv17)) else none)) p0 (fun z => (gv4 ((0 + (i12.toNat * 8)) + z))) rv9 ((IntKind.i64.wrap (0 - (IntKind.i64.wrap (gv4 ((0 + (i12.toNat * 8)) + (rv7.toNat * 1)))))))) else none) else none) else none)) else (out0 outv10 (placed11) gv13))
def spec_l01Put_su_v2.a0_0 {ρ : Type} (N : Nat) (K0 : Nat → Option ρ) (K1 : Nat → (Nat → Int) → Option ρ) (rv9 : Nat → Int) (ov18 : Nat) (ov19 : Bool) (ov20 : Nat → Int) : Option ρ :=
  (if (!ov19) = true then (if (ov18 + 1) * 8 ≤ 140737488355328 then (K1 (ov18 + 1) (joinN (ov18 * 8) ov20 rv9)) else none) else (K1 ov18 ov20))
def spec_l01Put_su_v2.l0 {ρ : Type} (N : Nat) (K0 : Nat → Option ρ) (K1 : Nat → (Nat → Int) → Option ρ) (p0 : Int) (rows1 : Nat) (gv4 : Nat → Int) (rv7 : Int) (rv9 : Nat → Int) (out0 : Nat → Bool → (Nat → Int) → Option ρ) : Nat → Nat → Bool → Int → (Nat → Int) → Option ρ
  | 0, _, _, _, _ => none
  | m + 1, outv10, placed11, i12, gv13 => (spec_l01Put_su_v2.b0 N K0 K1 ((spec_l01Put_su_v2.l0 N K0 K1 p0 rows1 gv4 rv7 rv9 out0 m)) out0 p0 rows1 gv4 rv7 rv9 outv10 placed11 i12 gv13)
def spec_l01Put_su_v2.s {ρ : Type} (N : Nat) (K0 : Nat → Option ρ) (K1 : Nat → (Nat → Int) → Option ρ) (lp0 : Int → (Nat → Int) → Nat → Bool → Int → (Nat → Int) → Option ρ) (p0 : Int) (rows1 : Nat) (v2 : Nat → Int) (gv4 : Nat → Int) : Option ρ :=
  (spec_l01By_su_v2 N (fun rv5 => (spec_l01Zero N (fun rv6 => (if rv6 = true then (K0 rows1) else (spec_l01First N (fun rv7 => (if (0 : Int) ≤ rv7 ∧ rv7 < 8 then (spec_l01Inverse N (fun rv8 => (spec_l01Add N (fun rv9 => (lp0 rv7 rv9 0 false 0 (fun _ => 0))) p0 (fun _ => 0) rv5 ((IntKind.i64.wrap rv8)))) p0 ((rv5 (rv7.toNat * 1)))) else none)) rv5))) rv5)) p0 v2 rows1 (rows1 * 8) (fun z => (gv4 (0 + z))))
def spec_l01Put_su_v2 {ρ : Type} (N : Nat) (K0 : Nat → Option ρ) (K1 : Nat → (Nat → Int) → Option ρ) (p0 : Int) (rows1 : Nat) (v2 : Nat → Int) (gv3 : Nat) (gv4 : Nat → Int) : Option ρ :=
  (spec_l01Put_su_v2.s N K0 K1 (fun rv7 rv9 outv10 placed11 i12 gv13 => (spec_l01Put_su_v2.l0 N K0 K1 p0 rows1 gv4 rv7 rv9 (fun ov18 ov19 ov20 => (spec_l01Put_su_v2.a0_0 N K0 K1 rv9 ov18 ov19 ov20)) N outv10 placed11 i12 gv13)) p0 rows1 v2 gv4)
def spec_l01Reduce_su.b0 {ρ : Type} (N : Nat) (K0 : Nat → (Nat → Int) → Option ρ) (rec : Nat → Int → (Nat → Int) → Option ρ) (out0 : Nat → (Nat → Int) → Option ρ) (p0 : Int) (list1 : Nat) (gv3 : Nat → Int) (outv4 : Nat) (i5 : Int) (gv6 : Nat → Int) : Option ρ :=
  (if (decide (i5 < (list1 : Int))) = true then (if (0 : Int) ≤ i5 ∧ i5 < (list1 : Int) then (spec_l01Put_su_v2 N (fun rv7 => (rec rv7 ((IntKind.i64.wrap (i5 + 1))) gv6)) (fun rv8 rv9 => (rec rv8 ((IntKind.i64.wrap (i5 + 1))) rv9)) p0 outv4 (fun z => (gv3 ((0 + (i5.toNat * 8)) + z))) (outv4 * 8) (fun z => (gv6 (0 + z)))) else none) else (out0 outv4 gv6))
def spec_l01Reduce_su.a0_0 {ρ : Type} (N : Nat) (K0 : Nat → (Nat → Int) → Option ρ) (ov10 : Nat) (ov11 : Nat → Int) : Option ρ :=
  (K0 ov10 ov11)
def spec_l01Reduce_su.l0 {ρ : Type} (N : Nat) (K0 : Nat → (Nat → Int) → Option ρ) (p0 : Int) (list1 : Nat) (gv3 : Nat → Int) (out0 : Nat → (Nat → Int) → Option ρ) : Nat → Nat → Int → (Nat → Int) → Option ρ
  | 0, _, _, _ => none
  | m + 1, outv4, i5, gv6 => (spec_l01Reduce_su.b0 N K0 ((spec_l01Reduce_su.l0 N K0 p0 list1 gv3 out0 m)) out0 p0 list1 gv3 outv4 i5 gv6)
def spec_l01Reduce_su.s {ρ : Type} (N : Nat) (K0 : Nat → (Nat → Int) → Option ρ) (lp0 : Nat → Int → (Nat → Int) → Option ρ) : Option ρ :=
  (lp0 0 0 (fun _ => 0))
def spec_l01Reduce_su {ρ : Type} (N : Nat) (K0 : Nat → (Nat → Int) → Option ρ) (p0 : Int) (list1 : Nat) (gv2 : Nat) (gv3 : Nat → Int) : Option ρ :=
  (spec_l01Reduce_su.s N K0 (fun outv4 i5 gv6 => (spec_l01Reduce_su.l0 N K0 p0 list1 gv3 (fun ov10 ov11 => (spec_l01Reduce_su.a0_0 N K0 ov10 ov11)) N outv4 i5 gv6)))
def spec_l02Null_su.b2 {ρ : Type} (N : Nat) (K0 : Nat → (Nat → Int) → Option ρ) (rec : Int → (Nat → Int) → Option ρ) (out0 : (Nat → Int) → Option ρ) (p0 : Int) (rv5 : Nat) (rv6 : Nat → Int) (k12 : Int) (i15 : Int) (gv16 : Nat → Int) : Option ρ :=
  (if (decide (i15 < (rv5 : Int))) = true then (if (0 : Int) ≤ i15 ∧ i15 < (rv5 : Int) then (spec_l01First N (fun rv17 => (if (0 : Int) ≤ i15 ∧ i15 < (rv5 : Int) then (if (0 : Int) ≤ k12 ∧ k12 < 8 then (spec_l01Mod N (fun rv18 => (if (0 : Int) ≤ rv17 ∧ rv17 < 8 then (rec ((IntKind.i64.wrap (i15 + 1))) (upd gv16 (rv17.toNat * 1) rv18)) else none)) p0 ((IntKind.i64.wrap (0 - (IntKind.i64.wrap (rv6 ((0 + (i15.toNat * 8)) + (k12.toNat * 1)))))))) else none) else none)) (fun z => (rv6 ((0 + (i15.toNat * 8)) + z)))) else none) else (out0 gv16))
def spec_l02Null_su.a2_0 {ρ : Type} (N : Nat) (K0 : Nat → (Nat → Int) → Option ρ) (rec : Nat → Int → (Nat → Int) → Option ρ) (out0 : Nat → (Nat → Int) → Option ρ) (outv11 : Nat) (k12 : Int) (gv13 : Nat → Int) (ov19 : Nat → Int) : Option ρ :=
  (if (outv11 + 1) * 8 ≤ 140737488355328 then (rec (outv11 + 1) ((IntKind.i64.wrap (k12 + 1))) (joinN (outv11 * 8) gv13 ov19)) else none)
def spec_l02Null_su.b1 {ρ : Type} (N : Nat) (K0 : Nat → (Nat → Int) → Option ρ) (lp2 : Int → (Nat → Int) → Option ρ) (rec : Nat → Int → (Nat → Int) → Option ρ) (out0 : Nat → (Nat → Int) → Option ρ) (nv1 : Int) (ov10 : Nat → Bool) (outv11 : Nat) (k12 : Int) (gv13 : Nat → Int) : Option ρ :=
  (if (decide (k12 < nv1)) = true then (if (0 : Int) ≤ k12 ∧ k12 < 8 then (if (ov10 k12.toNat) = true then (rec outv11 ((IntKind.i64.wrap (k12 + 1))) gv13) else (spec_l01Basis N (fun rv14 => (lp2 0 rv14)) k12)) else none) else (out0 outv11 gv13))
def spec_l02Null_su.a1_0 {ρ : Type} (N : Nat) (K0 : Nat → (Nat → Int) → Option ρ) (p0 : Int) (ov20 : Nat) (ov21 : Nat → Int) : Option ρ :=
  (spec_l01Reduce_su N (fun rv22 rv23 => (K0 rv22 rv23)) p0 ov20 (ov20 * 8) (fun z => (ov21 (0 + z))))
def spec_l02Null_su.b0 {ρ : Type} (N : Nat) (K0 : Nat → (Nat → Int) → Option ρ) (rec : Int → (Nat → Bool) → Option ρ) (out0 : (Nat → Bool) → Option ρ) (rv5 : Nat) (rv6 : Nat → Int) (i7 : Int) (gv8 : Nat → Bool) : Option ρ :=
  (if (decide (i7 < (rv5 : Int))) = true then (if (0 : Int) ≤ i7 ∧ i7 < (rv5 : Int) then (spec_l01First N (fun rv9 => (if (0 : Int) ≤ rv9 ∧ rv9 < 8 then (rec ((IntKind.i64.wrap (i7 + 1))) (upd gv8 rv9.toNat true)) else none)) (fun z => (rv6 ((0 + (i7.toNat * 8)) + z)))) else none) else (out0 gv8))
def spec_l02Null_su.a0_0 {ρ : Type} (N : Nat) (K0 : Nat → (Nat → Int) → Option ρ) (lp1 : Nat → Int → (Nat → Int) → Option ρ) : Option ρ :=
  (lp1 0 0 (fun _ => 0))
def spec_l02Null_su.l2 {ρ : Type} (N : Nat) (K0 : Nat → (Nat → Int) → Option ρ) (p0 : Int) (rv5 : Nat) (rv6 : Nat → Int) (k12 : Int) (out0 : (Nat → Int) → Option ρ) : Nat → Int → (Nat → Int) → Option ρ
  | 0, _, _ => none
  | m + 1, i15, gv16 => (spec_l02Null_su.b2 N K0 ((spec_l02Null_su.l2 N K0 p0 rv5 rv6 k12 out0 m)) out0 p0 rv5 rv6 k12 i15 gv16)
def spec_l02Null_su.l1 {ρ : Type} (N : Nat) (K0 : Nat → (Nat → Int) → Option ρ) (p0 : Int) (nv1 : Int) (rv5 : Nat) (rv6 : Nat → Int) (ov10 : Nat → Bool) (out0 : Nat → (Nat → Int) → Option ρ) : Nat → Nat → Int → (Nat → Int) → Option ρ
  | 0, _, _, _ => none
  | m + 1, outv11, k12, gv13 => (spec_l02Null_su.b1 N K0 (fun i15 gv16 => (spec_l02Null_su.l2 N K0 p0 rv5 rv6 k12 (fun ov19 => (spec_l02Null_su.a2_0 N K0 (spec_l02Null_su.l1 N K0 p0 nv1 rv5 rv6 ov10 out0 m) out0 outv11 k12 gv13 ov19)) N i15 gv16)) ((spec_l02Null_su.l1 N K0 p0 nv1 rv5 rv6 ov10 out0 m)) out0 nv1 ov10 outv11 k12 gv13)
def spec_l02Null_su.l0 {ρ : Type} (N : Nat) (K0 : Nat → (Nat → Int) → Option ρ) (rv5 : Nat) (rv6 : Nat → Int) (out0 : (Nat → Bool) → Option ρ) : Nat → Int → (Nat → Bool) → Option ρ
  | 0, _, _ => none
  | m + 1, i7, gv8 => (spec_l02Null_su.b0 N K0 ((spec_l02Null_su.l0 N K0 rv5 rv6 out0 m)) out0 rv5 rv6 i7 gv8)
def spec_l02Null_su.s {ρ : Type} (N : Nat) (K0 : Nat → (Nat → Int) → Option ρ) (lp0 : Nat → (Nat → Int) → Int → (Nat → Bool) → Option ρ) (p0 : Int) (rows2 : Nat) (gv4 : Nat → Int) : Option ρ :=
  (spec_l01Reduce_su N (fun rv5 rv6 => (lp0 rv5 rv6 0 (updN (fun _ => false) 0 8 (fun _ => false)))) p0 rows2 (rows2 * 8) (fun z => (gv4 (0 + z))))
def spec_l02Null_su {ρ : Type} (N : Nat) (K0 : Nat → (Nat → Int) → Option ρ) (p0 : Int) (nv1 : Int) (rows2 : Nat) (gv3 : Nat) (gv4 : Nat → Int) : Option ρ :=
  (spec_l02Null_su.s N K0 (fun rv5 rv6 i7 gv8 => (spec_l02Null_su.l0 N K0 rv5 rv6 (fun ov10 => (spec_l02Null_su.a0_0 N K0 (fun outv11 k12 gv13 => (spec_l02Null_su.l1 N K0 p0 nv1 rv5 rv6 ov10 (fun ov20 ov21 => (spec_l02Null_su.a1_0 N K0 p0 ov20 ov21)) N outv11 k12 gv13)))) N i7 gv8)) p0 rows2 gv4)
def spec_l02Primitive.b2 {ρ : Type} (N : Nat) (K0 : Nat → (Nat → Int) → Option ρ) (rec : Int → (Nat → Int) → Option ρ) (out0 : (Nat → Int) → Option ρ) (c0 : Nat → Int) (c1 : Nat → Int) (gv2 : Nat → Int) (h3 : Nat → Int) (j5 : Int) (k8 : Int) (i10 : Int) (gv11 : Nat → Int) : Option ρ :=
  (if (decide (i10 < (c0 1))) = true then (if (0 : Int) ≤ i10 ∧ i10 < 8 then (if (0 : Int) ≤ j5 ∧ j5 < 8 then (if (0 : Int) ≤ k8 ∧ k8 < 8 then (if (i10 == j5) = true then (if (0 : Int) ≤ k8 ∧ k8 < 8 then (if (i10 == k8) = true then (if (0 : Int) ≤ j5 ∧ j5 < 8 then (spec_l01Mod N (fun rv12 => (if (0 : Int) ≤ i10 ∧ i10 < 8 then (rec ((IntKind.i64.wrap (i10 + 1))) (upd gv11 (i10.toNat * 1) rv12)) else none)) ((c0 0)) ((IntKind.i64.wrap ((IntKind.i64.wrap ((IntKind.i64.wrap (c1 (((8 + (i10.toNat * 64)) + (j5.toNat * 8)) + (k8.toNat * 1)))) - (IntKind.i64.wrap (gv2 (k8.toNat * 1))))) - (IntKind.i64.wrap (h3 (j5.toNat * 1))))))) else none) else (spec_l01Mod N (fun rv13 => (if (0 : Int) ≤ i10 ∧ i10 < 8 then (rec ((IntKind.i64.wrap (i10 + 1))) (upd gv11 (i10.toNat * 1) rv13)) else none)) ((c0 0)) ((IntKind.i64.wrap ((IntKind.i64.wrap (c1 (((8 + (i10.toNat * 64)) + (j5.toNat * 8)) + (k8.toNat * 1)))) - (IntKind.i64.wrap (gv2 (k8.toNat * 1)))))))) else none) else (if (i10 == k8) = true then (if (0 : Int) ≤ j5 ∧ j5 < 8 then (spec_l01Mod N (fun rv14 => (if (0 : Int) ≤ i10 ∧ i10 < 8 then (rec ((IntKind.i64.wrap (i10 + 1))) (upd gv11 (i10.toNat * 1) rv14)) else none)) ((c0 0)) ((IntKind.i64.wrap ((IntKind.i64.wrap (c1 (((8 + (i10.toNat * 64)) + (j5.toNat * 8)) + (k8.toNat * 1)))) - (IntKind.i64.wrap (h3 (j5.toNat * 1))))))) else none) else (spec_l01Mod N (fun rv15 => (if (0 : Int) ≤ i10 ∧ i10 < 8 then (rec ((IntKind.i64.wrap (i10 + 1))) (upd gv11 (i10.toNat * 1) rv15)) else none)) ((c0 0)) ((IntKind.i64.wrap (c1 (((8 + (i10.toNat * 64)) + (j5.toNat * 8)) + (k8.toNat * 1)))))))) else none) else none) else none) else (out0 gv11))
def spec_l02Primitive.a2_0 {ρ : Type} (N : Nat) (K0 : Nat → (Nat → Int) → Option ρ) (rec : Nat → Int → (Nat → Int) → Option ρ) (out0 : Nat → (Nat → Int) → Option ρ) (rows7 : Nat) (k8 : Int) (gv9 : Nat → Int) (ov16 : Nat → Int) : Option ρ :=
  (if (rows7 + 1) * 8 ≤ 140737488355328 then (rec (rows7 + 1) ((IntKind.i64.wrap (k8 + 1))) (joinN (rows7 * 8) gv9 ov16)) else none)
def spec_l02Primitive.b1 {ρ : Type} (N : Nat) (K0 : Nat → (Nat → Int) → Option ρ) (lp2 : Int → (Nat → Int) → Option ρ) (rec : Nat → Int → (Nat → Int) → Option ρ) (out0 : Nat → (Nat → Int) → Option ρ) (c0 : Nat → Int) (rows7 : Nat) (k8 : Int) (gv9 : Nat → Int) : Option ρ :=
  (if (decide (k8 < (c0 1))) = true then (lp2 0 (fun _ => 0)) else (out0 rows7 gv9))
def spec_l02Primitive.a1_0 {ρ : Type} (N : Nat) (K0 : Nat → (Nat → Int) → Option ρ) (rec : Nat → Int → (Nat → Int) → Option ρ) (out0 : Nat → (Nat → Int) → Option ρ) (j5 : Int) (ov17 : Nat) (ov18 : Nat → Int) : Option ρ :=
  (rec ov17 ((IntKind.i64.wrap (j5 + 1))) ov18)
def spec_l02Primitive.b0 {ρ : Type} (N : Nat) (K0 : Nat → (Nat → Int) → Option ρ) (lp1 : Nat → Int → (Nat → Int) → Option ρ) (rec : Nat → Int → (Nat → Int) → Option ρ) (out0 : Nat → (Nat → Int) → Option ρ) (c0 : Nat → Int) (rows4 : Nat) (j5 : Int) (gv6 : Nat → Int) : Option ρ :=
  (if (decide (j5 < (c0 1))) = true then (lp1 rows4 0 gv6) else (out0 rows4 gv6))
def spec_l02Primitive.a0_0 {ρ : Type} (N : Nat) (K0 : Nat → (Nat → Int) → Option ρ) (c0 : Nat → Int) (ov19 : Nat) (ov20 : Nat → Int) : Option ρ :=
  (spec_l02Null_su N (fun rv21 rv22 => (K0 rv21 rv22)) ((c0 0)) ((c0 1)) ov19 (ov19 * 8) (fun z => (ov20 (0 + z))))
def spec_l02Primitive.l2 {ρ : Type} (N : Nat) (K0 : Nat → (Nat → Int) → Option ρ) (c0 : Nat → Int) (c1 : Nat → Int) (gv2 : Nat → Int) (h3 : Nat → Int) (j5 : Int) (k8 : Int) (out0 : (Nat → Int) → Option ρ) : Nat → Int → (Nat → Int) → Option ρ
  | 0, _, _ => none
  | m + 1, i10, gv11 => (spec_l02Primitive.b2 N K0 ((spec_l02Primitive.l2 N K0 c0 c1 gv2 h3 j5 k8 out0 m)) out0 c0 c1 gv2 h3 j5 k8 i10 gv11)
def spec_l02Primitive.l1 {ρ : Type} (N : Nat) (K0 : Nat → (Nat → Int) → Option ρ) (c0 : Nat → Int) (c1 : Nat → Int) (gv2 : Nat → Int) (h3 : Nat → Int) (j5 : Int) (out0 : Nat → (Nat → Int) → Option ρ) : Nat → Nat → Int → (Nat → Int) → Option ρ
  | 0, _, _, _ => none
  | m + 1, rows7, k8, gv9 => (spec_l02Primitive.b1 N K0 (fun i10 gv11 => (spec_l02Primitive.l2 N K0 c0 c1 gv2 h3 j5 k8 (fun ov16 => (spec_l02Primitive.a2_0 N K0 (spec_l02Primitive.l1 N K0 c0 c1 gv2 h3 j5 out0 m) out0 rows7 k8 gv9 ov16)) N i10 gv11)) ((spec_l02Primitive.l1 N K0 c0 c1 gv2 h3 j5 out0 m)) out0 c0 rows7 k8 gv9)
def spec_l02Primitive.l0 {ρ : Type} (N : Nat) (K0 : Nat → (Nat → Int) → Option ρ) (c0 : Nat → Int) (c1 : Nat → Int) (gv2 : Nat → Int) (h3 : Nat → Int) (out0 : Nat → (Nat → Int) → Option ρ) : Nat → Nat → Int → (Nat → Int) → Option ρ
  | 0, _, _, _ => none
  | m + 1, rows4, j5, gv6 => (spec_l02Primitive.b0 N K0 (fun rows7 k8 gv9 => (spec_l02Primitive.l1 N K0 c0 c1 gv2 h3 j5 (fun ov17 ov18 => (spec_l02Primitive.a1_0 N K0 (spec_l02Primitive.l0 N K0 c0 c1 gv2 h3 out0 m) out0 j5 ov17 ov18)) N rows7 k8 gv9)) ((spec_l02Primitive.l0 N K0 c0 c1 gv2 h3 out0 m)) out0 c0 rows4 j5 gv6)
def spec_l02Primitive.s {ρ : Type} (N : Nat) (K0 : Nat → (Nat → Int) → Option ρ) (lp0 : Nat → Int → (Nat → Int) → Option ρ) : Option ρ :=
  (lp0 0 0 (fun _ => 0))
def spec_l02Primitive {ρ : Type} (N : Nat) (K0 : Nat → (Nat → Int) → Option ρ) (c0 : Nat → Int) (c1 : Nat → Int) (gv2 : Nat → Int) (h3 : Nat → Int) : Option ρ :=
  (spec_l02Primitive.s N K0 (fun rows4 j5 gv6 => (spec_l02Primitive.l0 N K0 c0 c1 gv2 h3 (fun ov19 ov20 => (spec_l02Primitive.a0_0 N K0 c0 ov19 ov20)) N rows4 j5 gv6)))
def spec_PrimitiveSpace {ρ : Type} (N : Nat) (K0 : Nat → Int → (Nat → Int) → Option ρ) (c0 : Nat → Int) (c1 : Nat → Int) (gv2 : Nat → Int) (h3 : Nat → Int) : Option ρ :=
  (spec_l02Code_s N (fun rv4 => (if (rv4 != 0) = true then (K0 0 rv4 (fun _ => 0)) else (spec_l02Group N (fun rv5 => (if (!rv5) = true then (K0 0 5 (fun _ => 0)) else (spec_l02Group N (fun rv6 => (if (!rv6) = true then (K0 0 5 (fun _ => 0)) else (spec_l02Primitive N (fun rv7 rv8 => (K0 rv7 0 rv8)) c0 c1 gv2 h3))) c0 c1 h3))) c0 c1 gv2))) c0 c1 2 2 16 (fun z => ((updN (updN (fun _ => 0) 0 8 gv2) 8 8 h3) (0 + z))))
def impl_IsPrime.b0 {ρ : Type} (N : Nat) (K0 : Bool → Option ρ) (rec : Int → Option ρ) (out0 : Option ρ) (p0 : Int) (k1 : Int) : Option ρ :=
  (if (decide ((IntKind.i64.wrap (k1 * k1)) ≤ p0)) = true then (if k1 = 0 then none else (if ((Int.tmod p0 k1) == 0) = true then (K0 false) else (rec ((IntKind.i64.wrap (k1 + 1)))))) else out0)
def impl_IsPrime.a0_0 {ρ : Type} (N : Nat) (K0 : Bool → Option ρ) : Option ρ :=
  (K0 true)
def impl_IsPrime.l0 {ρ : Type} (N : Nat) (K0 : Bool → Option ρ) (p0 : Int) (out0 : Option ρ) : Nat → Int → Option ρ
  | 0, _ => none
  | m + 1, k1 => (impl_IsPrime.b0 N K0 ((impl_IsPrime.l0 N K0 p0 out0 m)) out0 p0 k1)
def impl_IsPrime.s {ρ : Type} (N : Nat) (K0 : Bool → Option ρ) (lp0 : Int → Option ρ) (p0 : Int) : Option ρ :=
  (if (decide (p0 < 2)) = true then (K0 false) else (if (decide (p0 > 31)) = true then (K0 false) else (lp0 2)))
def impl_IsPrime {ρ : Type} (N : Nat) (K0 : Bool → Option ρ) (p0 : Int) : Option ρ :=
  (impl_IsPrime.s N K0 (fun k1 => (impl_IsPrime.l0 N K0 p0 (impl_IsPrime.a0_0 N K0) N k1)) p0)
def impl_in {ρ : Type} (N : Nat) (K0 : Bool → Option ρ) (x0 : Int) (least1 : Int) (most2 : Int) : Option ρ :=
  (if (decide (least1 ≤ x0)) = true then (K0 ((decide (x0 ≤ most2)))) else (K0 false))
def impl_IsVector.b0 {ρ : Type} (N : Nat) (K0 : Bool → Option ρ) (rec : Int → Option ρ) (out0 : Option ρ) (p0 : Int) (nv1 : Int) (v2 : Nat → Int) (x5 : Int) : Option ρ :=
  (if (decide (x5 < 8)) = true then (if (0 : Int) ≤ x5 ∧ x5 < 8 then (if (decide ((IntKind.i64.wrap (v2 x5.toNat)) ≥ p0)) = true then (K0 false) else (if (decide (x5 ≥ nv1)) = true then (if ((v2 x5.toNat) != 0) = true then (K0 false) else (rec ((IntKind.i64.wrap (x5 + 1))))) else (rec ((IntKind.i64.wrap (x5 + 1)))))) else none) else out0)
def impl_IsVector.a0_0 {ρ : Type} (N : Nat) (K0 : Bool → Option ρ) : Option ρ :=
  (K0 true)
def impl_IsVector.l0 {ρ : Type} (N : Nat) (K0 : Bool → Option ρ) (p0 : Int) (nv1 : Int) (v2 : Nat → Int) (out0 : Option ρ) : Nat → Int → Option ρ
  | 0, _ => none
  | m + 1, x5 => (impl_IsVector.b0 N K0 ((impl_IsVector.l0 N K0 p0 nv1 v2 out0 m)) out0 p0 nv1 v2 x5)
def impl_IsVector.s {ρ : Type} (N : Nat) (K0 : Bool → Option ρ) (lp0 : Int → Option ρ) (p0 : Int) (nv1 : Int) : Option ρ :=
  (impl_IsPrime N (fun rv3 => (if (!rv3) = true then (K0 false) else (impl_in N (fun rv4 => (if (!rv4) = true then (K0 false) else (lp0 0))) nv1 1 8))) p0)
def impl_IsVector {ρ : Type} (N : Nat) (K0 : Bool → Option ρ) (p0 : Int) (nv1 : Int) (v2 : Nat → Int) : Option ρ :=
  (impl_IsVector.s N K0 (fun x5 => (impl_IsVector.l0 N K0 p0 nv1 v2 (impl_IsVector.a0_0 N K0) N x5)) p0 nv1)
def impl_isLinear.b0 {ρ : Type} (N : Nat) (K0 : Bool → Option ρ) (rec : Int → Option ρ) (out0 : Option ρ) (p0 : Int) (nv1 : Int) (size2 : Int) (gv3 : Nat → Int) (x4 : Int) : Option ρ :=
  (if (decide (x4 < 8)) = true then (if (0 : Int) ≤ x4 ∧ x4 < 8 then (impl_IsVector N (fun rv5 => (if (!rv5) = true then (K0 false) else (if (decide (x4 ≥ nv1)) = true then (if (!eqN 8 (fun z => (gv3 ((x4.toNat * 8) + z))) (fun _ => 0)) = true then (K0 false) else (rec ((IntKind.i64.wrap (x4 + 1))))) else (rec ((IntKind.i64.wrap (x4 + 1))))))) p0 size2 (fun z => (gv3 ((x4.toNat * 8) + z)))) else none) else out0)
def impl_isLinear.a0_0 {ρ : Type} (N : Nat) (K0 : Bool → Option ρ) : Option ρ :=
  (K0 true)
def impl_isLinear.l0 {ρ : Type} (N : Nat) (K0 : Bool → Option ρ) (p0 : Int) (nv1 : Int) (size2 : Int) (gv3 : Nat → Int) (out0 : Option ρ) : Nat → Int → Option ρ
  | 0, _ => none
  | m + 1, x4 => (impl_isLinear.b0 N K0 ((impl_isLinear.l0 N K0 p0 nv1 size2 gv3 out0 m)) out0 p0 nv1 size2 gv3 x4)
def impl_isLinear.s {ρ : Type} (N : Nat) (K0 : Bool → Option ρ) (lp0 : Int → Option ρ) : Option ρ :=
  (lp0 0)
def impl_isLinear {ρ : Type} (N : Nat) (K0 : Bool → Option ρ) (p0 : Int) (nv1 : Int) (size2 : Int) (gv3 : Nat → Int) : Option ρ :=
  (impl_isLinear.s N K0 (fun x4 => (impl_isLinear.l0 N K0 p0 nv1 size2 gv3 (impl_isLinear.a0_0 N K0) N x4)))
def impl_isTable.b0 {ρ : Type} (N : Nat) (K0 : Bool → Option ρ) (rec : Int → Option ρ) (out0 : Option ρ) (p0 : Int) (nv1 : Int) (gv2 : Nat → Int) (x3 : Int) : Option ρ :=
  (if (decide (x3 < 8)) = true then (if (0 : Int) ≤ x3 ∧ x3 < 8 then (impl_isLinear N (fun rv4 => (if (!rv4) = true then (K0 false) else (if (decide (x3 ≥ nv1)) = true then (if (0 : Int) ≤ x3 ∧ x3 < 8 then (if (!eqN 64 (fun z => (gv2 ((x3.toNat * 64) + z))) (fun _ => 0)) = true then (K0 false) else (rec ((IntKind.i64.wrap (x3 + 1))))) else none) else (rec ((IntKind.i64.wrap (x3 + 1))))))) p0 nv1 nv1 (fun z => (gv2 ((x3.toNat * 64) + z)))) else none) else out0)
def impl_isTable.a0_0 {ρ : Type} (N : Nat) (K0 : Bool → Option ρ) : Option ρ :=
  (K0 true)
def impl_isTable.l0 {ρ : Type} (N : Nat) (K0 : Bool → Option ρ) (p0 : Int) (nv1 : Int) (gv2 : Nat → Int) (out0 : Option ρ) : Nat → Int → Option ρ
  | 0, _ => none
  | m + 1, x3 => (impl_isTable.b0 N K0 ((impl_isTable.l0 N K0 p0 nv1 gv2 out0 m)) out0 p0 nv1 gv2 x3)
def impl_isTable.s {ρ : Type} (N : Nat) (K0 : Bool → Option ρ) (lp0 : Int → Option ρ) : Option ρ :=
  (lp0 0)
def impl_isTable {ρ : Type} (N : Nat) (K0 : Bool → Option ρ) (p0 : Int) (nv1 : Int) (gv2 : Nat → Int) : Option ρ :=
  (impl_isTable.s N K0 (fun x3 => (impl_isTable.l0 N K0 p0 nv1 gv2 (impl_isTable.a0_0 N K0) N x3)))
def impl_Coalgebra_isShaped {ρ : Type} (N : Nat) (K0 : Bool → Option ρ) (gv0 : Nat → Int) (gv1 : Nat → Int) : Option ρ :=
  (impl_IsVector N (fun rv2 => (if rv2 = true then (impl_isTable N (fun rv3 => (K0 (rv3))) ((gv0 0)) ((gv0 1)) (fun z => (gv1 (8 + z)))) else (K0 false))) ((gv0 0)) ((gv0 1)) (fun z => (gv1 (0 + z))))
def impl_Coalgebra_field {ρ : Type} (N : Nat) (K0 : (Nat → Int) → Option ρ) (gv0 : Nat → Int) (gv1 : Nat → Int) : Option ρ :=
  (K0 (upd (upd (fun _ => 0) 0 (gv0 0)) 1 (gv0 1)))
def impl_field_mod {ρ : Type} (N : Nat) (K0 : Int → Option ρ) (f0 : Nat → Int) (x1 : Int) : Option ρ :=
  (if (f0 0) = 0 then none else (if (decide ((Int.tmod x1 (f0 0)) < 0)) = true then (K0 ((IntKind.u8.wrap (IntKind.i64.wrap ((Int.tmod x1 (f0 0)) + (f0 0)))))) else (K0 ((IntKind.u8.wrap (Int.tmod x1 (f0 0)))))))
def impl_field_plus.b0 {ρ : Type} (N : Nat) (K0 : (Nat → Int) → Option ρ) (rec : Int → (Nat → Int) → Option ρ) (out0 : (Nat → Int) → Option ρ) (f0 : Nat → Int) (k1 : Int) (w2 : Nat → Int) (x4 : Int) (gv5 : Nat → Int) : Option ρ :=
  (if (decide (x4 < 8)) = true then (if (0 : Int) ≤ x4 ∧ x4 < 8 then (if (0 : Int) ≤ x4 ∧ x4 < 8 then (impl_field_mod N (fun rv6 => (if (0 : Int) ≤ x4 ∧ x4 < 8 then (rec ((IntKind.i64.wrap (x4 + 1))) (upd gv5 (x4.toNat * 1) rv6)) else none)) f0 ((IntKind.i64.wrap ((IntKind.i64.wrap (gv5 (x4.toNat * 1))) + (IntKind.i64.wrap (k1 * (IntKind.i64.wrap (w2 x4.toNat)))))))) else none) else none) else (out0 gv5))
def impl_field_plus.a0_0 {ρ : Type} (N : Nat) (K0 : (Nat → Int) → Option ρ) (ov7 : Nat → Int) : Option ρ :=
  (K0 ov7)
def impl_field_plus.l0 {ρ : Type} (N : Nat) (K0 : (Nat → Int) → Option ρ) (f0 : Nat → Int) (k1 : Int) (w2 : Nat → Int) (out0 : (Nat → Int) → Option ρ) : Nat → Int → (Nat → Int) → Option ρ
  | 0, _, _ => none
  | m + 1, x4, gv5 => (impl_field_plus.b0 N K0 ((impl_field_plus.l0 N K0 f0 k1 w2 out0 m)) out0 f0 k1 w2 x4 gv5)
def impl_field_plus.s {ρ : Type} (N : Nat) (K0 : (Nat → Int) → Option ρ) (lp0 : Int → (Nat → Int) → Option ρ) (k1 : Int) (gv3 : Nat → Int) : Option ρ :=
  (if (k1 == 0) = true then (K0 gv3) else (lp0 0 gv3))
def impl_field_plus {ρ : Type} (N : Nat) (K0 : (Nat → Int) → Option ρ) (f0 : Nat → Int) (k1 : Int) (w2 : Nat → Int) (gv3 : Nat → Int) : Option ρ :=
  (impl_field_plus.s N K0 (fun x4 gv5 => (impl_field_plus.l0 N K0 f0 k1 w2 (fun ov7 => (impl_field_plus.a0_0 N K0 ov7)) N x4 gv5)) k1 gv3)
def impl_field_dot.b0 {ρ : Type} (N : Nat) (K0 : Int → Option ρ) (rec : Int → Int → Option ρ) (out0 : Int → Option ρ) (v1 : Nat → Int) (w2 : Nat → Int) (outv3 : Int) (x4 : Int) : Option ρ :=
  (if (decide (x4 < 8)) = true then (if (0 : Int) ≤ x4 ∧ x4 < 8 then (if (0 : Int) ≤ x4 ∧ x4 < 8 then (rec ((IntKind.i64.wrap (outv3 + (IntKind.i64.wrap ((IntKind.i64.wrap (v1 x4.toNat)) * (IntKind.i64.wrap (w2 (x4.toNat * 1)))))))) ((IntKind.i64.wrap (x4 + 1)))) else none) else none) else (out0 outv3))
def impl_field_dot.a0_0 {ρ : Type} (N : Nat) (K0 : Int → Option ρ) (f0 : Nat → Int) (ov5 : Int) : Option ρ :=
  (if (f0 0) = 0 then none else (K0 ((Int.tmod ov5 (f0 0)))))
def impl_field_dot.l0 {ρ : Type} (N : Nat) (K0 : Int → Option ρ) (v1 : Nat → Int) (w2 : Nat → Int) (out0 : Int → Option ρ) : Nat → Int → Int → Option ρ
  | 0, _, _ => none
  | m + 1, outv3, x4 => (impl_field_dot.b0 N K0 ((impl_field_dot.l0 N K0 v1 w2 out0 m)) out0 v1 w2 outv3 x4)
def impl_field_dot.s {ρ : Type} (N : Nat) (K0 : Int → Option ρ) (lp0 : Int → Int → Option ρ) : Option ρ :=
  (lp0 0 0)
def impl_field_dot {ρ : Type} (N : Nat) (K0 : Int → Option ρ) (f0 : Nat → Int) (v1 : Nat → Int) (w2 : Nat → Int) : Option ρ :=
  (impl_field_dot.s N K0 (fun outv3 x4 => (impl_field_dot.l0 N K0 v1 w2 (fun ov5 => (impl_field_dot.a0_0 N K0 f0 ov5)) N outv3 x4)))
def impl_basis {ρ : Type} (N : Nat) (K0 : (Nat → Int) → Option ρ) (i0 : Int) : Option ρ :=
  (if (0 : Int) ≤ i0 ∧ i0 < 8 then (K0 (upd (fun _ => 0) (i0.toNat * 1) 1)) else none)
def impl_Coalgebra_isCounit.b1 {ρ : Type} (N : Nat) (K0 : Bool → Option ρ) (rec : Int → (Nat → Int) → (Nat → Int) → Option ρ) (out0 : (Nat → Int) → (Nat → Int) → Option ρ) (gv1 : Nat → Int) (rv2 : Nat → Int) (x3 : Int) (x4 : Int) (gv5 : Nat → Int) (gv6 : Nat → Int) : Option ρ :=
  (if (decide (x4 < (rv2 1))) = true then (if (0 : Int) ≤ x4 ∧ x4 < 8 then (if (0 : Int) ≤ x3 ∧ x3 < 8 then (if (0 : Int) ≤ x4 ∧ x4 < 8 then (impl_field_plus N (fun rv7 => (if (0 : Int) ≤ x3 ∧ x3 < 8 then (if (0 : Int) ≤ x4 ∧ x4 < 8 then (impl_field_dot N (fun rv8 => (if (0 : Int) ≤ x4 ∧ x4 < 8 then (rec ((IntKind.i64.wrap (x4 + 1))) rv7 (upd gv6 (x4.toNat * 1) (IntKind.u8.wrap rv8))) else none)) rv2 (fun z => (gv1 (0 + z))) (fun z => (gv1 (((8 + (x3.toNat * 64)) + (x4.toNat * 8)) + z)))) else none) else none)) rv2 ((IntKind.i64.wrap (gv1 (0 + (x4.toNat * 1))))) (fun z => (gv1 (((8 + (x3.toNat * 64)) + (x4.toNat * 8)) + z))) gv5) else none) else none) else none) else (out0 gv5 gv6))
def impl_Coalgebra_isCounit.a1_0 {ρ : Type} (N : Nat) (K0 : Bool → Option ρ) (rec : Int → Option ρ) (out0 : Option ρ) (x3 : Int) (ov9 : Nat → Int) (ov10 : Nat → Int) : Option ρ :=
  (impl_basis N (fun rv11 => (if (!eqN 8 ov9 rv11) = true then (K0 false) else (impl_basis N (fun rv12 => (if (!eqN 8 ov10 rv12) = true then (K0 false) else (rec ((IntKind.i64.wrap (x3 + 1)))))) x3))) x3)
def impl_Coalgebra_isCounit.b0 {ρ : Type} (N : Nat) (K0 : Bool → Option ρ) (lp1 : Int → (Nat → Int) → (Nat → Int) → Option ρ) (rec : Int → Option ρ) (out0 : Option ρ) (rv2 : Nat → Int) (x3 : Int) : Option ρ :=
  (if (decide (x3 < (rv2 1))) = true then (lp1 0 (fun _ => 0) (fun _ => 0)) else out0)
def impl_Coalgebra_isCounit.a0_0 {ρ : Type} (N : Nat) (K0 : Bool → Option ρ) : Option ρ :=
  (K0 true)
def impl_Coalgebra_isCounit.l1 {ρ : Type} (N : Nat) (K0 : Bool → Option ρ) (gv1 : Nat → Int) (rv2 : Nat → Int) (x3 : Int) (out0 : (Nat → Int) → (Nat → Int) → Option ρ) : Nat → Int → (Nat → Int) → (Nat → Int) → Option ρ
  | 0, _, _, _ => none
  | m + 1, x4, gv5, gv6 => (impl_Coalgebra_isCounit.b1 N K0 ((impl_Coalgebra_isCounit.l1 N K0 gv1 rv2 x3 out0 m)) out0 gv1 rv2 x3 x4 gv5 gv6)
def impl_Coalgebra_isCounit.l0 {ρ : Type} (N : Nat) (K0 : Bool → Option ρ) (gv1 : Nat → Int) (rv2 : Nat → Int) (out0 : Option ρ) : Nat → Int → Option ρ
  | 0, _ => none
  | m + 1, x3 => (impl_Coalgebra_isCounit.b0 N K0 (fun x4 gv5 gv6 => (impl_Coalgebra_isCounit.l1 N K0 gv1 rv2 x3 (fun ov9 ov10 => (impl_Coalgebra_isCounit.a1_0 N K0 (impl_Coalgebra_isCounit.l0 N K0 gv1 rv2 out0 m) out0 x3 ov9 ov10)) N x4 gv5 gv6)) ((impl_Coalgebra_isCounit.l0 N K0 gv1 rv2 out0 m)) out0 rv2 x3)
def impl_Coalgebra_isCounit.s {ρ : Type} (N : Nat) (K0 : Bool → Option ρ) (lp0 : (Nat → Int) → Int → Option ρ) (gv0 : Nat → Int) (gv1 : Nat → Int) : Option ρ :=
  (impl_Coalgebra_field N (fun rv2 => (lp0 rv2 0)) gv0 gv1)
def impl_Coalgebra_isCounit {ρ : Type} (N : Nat) (K0 : Bool → Option ρ) (gv0 : Nat → Int) (gv1 : Nat → Int) : Option ρ :=
  (impl_Coalgebra_isCounit.s N K0 (fun rv2 x3 => (impl_Coalgebra_isCounit.l0 N K0 gv1 rv2 (impl_Coalgebra_isCounit.a0_0 N K0) N x3)) gv0 gv1)
def impl_Coalgebra_isFault.b0 {ρ : Type} (N : Nat) (K0 : Bool → Option ρ) (rec : Int → Int → Int → Option ρ) (out0 : Int → Int → Option ρ) (i0 : Int) (j1 : Int) (k2 : Int) (lv3 : Int) (gv5 : Nat → Int) (rv6 : Nat → Int) (one7 : Int) (two8 : Int) (x9 : Int) : Option ρ :=
  (if (decide (x9 < (rv6 1))) = true then (if (0 : Int) ≤ i0 ∧ i0 < 8 then (if (0 : Int) ≤ x9 ∧ x9 < 8 then (if (0 : Int) ≤ lv3 ∧ lv3 < 8 then (if (0 : Int) ≤ x9 ∧ x9 < 8 then (if (0 : Int) ≤ j1 ∧ j1 < 8 then (if (0 : Int) ≤ k2 ∧ k2 < 8 then (if (0 : Int) ≤ i0 ∧ i0 < 8 then (if (0 : Int) ≤ j1 ∧ j1 < 8 then (if (0 : Int) ≤ x9 ∧ x9 < 8 then (if (0 : Int) ≤ x9 ∧ x9 < 8 then (if (0 : Int) ≤ k2 ∧ k2 < 8 then (if (0 : Int) ≤ lv3 ∧ lv3 < 8 then (rec ((IntKind.i64.wrap (one7 + (IntKind.i64.wrap ((IntKind.i64.wrap (gv5 (((8 + (i0.toNat * 64)) + (x9.toNat * 8)) + (lv3.toNat * 1)))) * (IntKind.i64.wrap (gv5 (((8 + (x9.toNat * 64)) + (j1.toNat * 8)) + (k2.toNat * 1))))))))) ((IntKind.i64.wrap (two8 + (IntKind.i64.wrap ((IntKind.i64.wrap (gv5 (((8 + (i0.toNat * 64)) + (j1.toNat * 8)) + (x9.toNat * 1)))) * (IntKind.i64.wrap (gv5 (((8 + (x9.toNat * 64)) + (k2.toNat * 8)) + (lv3.toNat * 1))))))))) ((IntKind.i64.wrap (x9 + 1)))) else none) else none) else none) else none) else none) else none) else none) else none) else none) else none) else none) else none) else (out0 one7 two8))
def impl_Coalgebra_isFault.a0_0 {ρ : Type} (N : Nat) (K0 : Bool → Option ρ) (rv6 : Nat → Int) (ov10 : Int) (ov11 : Int) : Option ρ :=
  (if (rv6 0) = 0 then none else (if (rv6 0) = 0 then none else (K0 (((Int.tmod ov10 (rv6 0)) != (Int.tmod ov11 (rv6 0)))))))
def impl_Coalgebra_isFault.l0 {ρ : Type} (N : Nat) (K0 : Bool → Option ρ) (i0 : Int) (j1 : Int) (k2 : Int) (lv3 : Int) (gv5 : Nat → Int) (rv6 : Nat → Int) (out0 : Int → Int → Option ρ) : Nat → Int → Int → Int → Option ρ
  | 0, _, _, _ => none
  | m + 1, one7, two8, x9 => (impl_Coalgebra_isFault.b0 N K0 ((impl_Coalgebra_isFault.l0 N K0 i0 j1 k2 lv3 gv5 rv6 out0 m)) out0 i0 j1 k2 lv3 gv5 rv6 one7 two8 x9)
def impl_Coalgebra_isFault.s {ρ : Type} (N : Nat) (K0 : Bool → Option ρ) (lp0 : (Nat → Int) → Int → Int → Int → Option ρ) (gv4 : Nat → Int) (gv5 : Nat → Int) : Option ρ :=
  (impl_Coalgebra_field N (fun rv6 => (lp0 rv6 0 0 0)) gv4 gv5)
def impl_Coalgebra_isFault {ρ : Type} (N : Nat) (K0 : Bool → Option ρ) (i0 : Int) (j1 : Int) (k2 : Int) (lv3 : Int) (gv4 : Nat → Int) (gv5 : Nat → Int) : Option ρ :=
  (impl_Coalgebra_isFault.s N K0 (fun rv6 one7 two8 x9 => (impl_Coalgebra_isFault.l0 N K0 i0 j1 k2 lv3 gv5 rv6 (fun ov10 ov11 => (impl_Coalgebra_isFault.a0_0 N K0 rv6 ov10 ov11)) N one7 two8 x9)) gv4 gv5)
def impl_Coalgebra_fault.b0 {ρ : Type} (N : Nat) (K0 : Nat → Nat → (Nat → Int) → Option ρ) (K1 : Option ρ) (rec : Int → Option ρ) (out0 : Option ρ) (gv0 : Nat → Int) (gv1 : Nat → Int) (x2 : Int) : Option ρ :=
  (if (decide (x2 < (IntKind.i64.wrap ((IntKind.i64.wrap ((IntKind.i64.wrap ((gv0 1) * (gv0 1))) * (gv0 1))) * (gv0 1))))) = true then (if (IntKind.i64.wrap ((IntKind.i64.wrap ((gv0 1) * (gv0 1))) * (gv0 1))) = 0 then none else (if (IntKind.i64.wrap ((gv0 1) * (gv0 1))) = 0 then none else (if (gv0 1) = 0 then none else (if (gv0 1) = 0 then none else (if (gv0 1) = 0 then none else (if (gv0 1) = 0 then none else (impl_Coalgebra_isFault N (fun rv3 => (if rv3 = true then (K0 4 4 (upd (upd (upd (upd (fun _ => 0) 0 (IntKind.i64.wrap (Int.tdiv x2 (IntKind.i64.wrap ((IntKind.i64.wrap ((gv0 1) * (gv0 1))) * (gv0 1)))))) 1 (Int.tmod (IntKind.i64.wrap (Int.tdiv x2 (IntKind.i64.wrap ((gv0 1) * (gv0 1))))) (gv0 1))) 2 (Int.tmod (IntKind.i64.wrap (Int.tdiv x2 (gv0 1))) (gv0 1))) 3 (Int.tmod x2 (gv0 1)))) else (rec ((IntKind.i64.wrap (x2 + 1)))))) ((IntKind.i64.wrap (Int.tdiv x2 (IntKind.i64.wrap ((IntKind.i64.wrap ((gv0 1) * (gv0 1))) * (gv0 1)))))) ((Int.tmod (IntKind.i64.wrap (Int.tdiv x2 (IntKind.i64.wrap ((gv0 1) * (gv0 1))))) (gv0 1))) ((Int.tmod (IntKind.i64.wrap (Int.tdiv x2 (gv0 1))) (gv0 1))) ((Int.tmod x2 (gv0 1))) gv0 gv1))))))) else out0)
def impl_Coalgebra_fault.a0_0 {ρ : Type} (N : Nat) (K0 : Nat → Nat → (Nat → Int) → Option ρ) (K1 : Option ρ) : Option ρ :=
  K1
def impl_Coalgebra_fault.l0 {ρ : Type} (N : Nat) (K0 : Nat → Nat → (Nat → Int) → Option ρ) (K1 : Option ρ) (gv0 : Nat → Int) (gv1 : Nat → Int) (out0 : Option ρ) : Nat → Int → Option ρ
  | 0, _ => none
  | m + 1, x2 => (impl_Coalgebra_fault.b0 N K0 K1 ((impl_Coalgebra_fault.l0 N K0 K1 gv0 gv1 out0 m)) out0 gv0 gv1 x2)
def impl_Coalgebra_fault.s {ρ : Type} (N : Nat) (K0 : Nat → Nat → (Nat → Int) → Option ρ) (K1 : Option ρ) (lp0 : Int → Option ρ) : Option ρ :=
  (lp0 0)
def impl_Coalgebra_fault {ρ : Type} (N : Nat) (K0 : Nat → Nat → (Nat → Int) → Option ρ) (K1 : Option ρ) (gv0 : Nat → Int) (gv1 : Nat → Int) : Option ρ :=
  (impl_Coalgebra_fault.s N K0 K1 (fun x2 => (impl_Coalgebra_fault.l0 N K0 K1 gv0 gv1 (impl_Coalgebra_fault.a0_0 N K0 K1) N x2)))
def impl_IsCoalgebra {ρ : Type} (N : Nat) (K0 : Bool → Option ρ) (c0 : Nat → Int) (c1 : Nat → Int) : Option ρ :=
  (impl_Coalgebra_isShaped N (fun rv2 => (if rv2 = true then (impl_Coalgebra_isCounit N (fun rv3 => (if rv3 = true then (impl_Coalgebra_fault N (fun rv4 rv5 rv6 => (K0 false)) (K0 true) c0 c1) else (K0 false))) c0 c1) else (K0 false))) c0 c1)
def impl_Coalgebra_has_c1 {ρ : Type} (N : Nat) (K0 : Bool → Option ρ) (v0 : Nat → Int) (gv1 : Nat → Int) (gv2 : Nat → Int) : Option ρ :=
  (impl_IsVector N (fun rv3 => (K0 ((!rv3)))) ((gv1 0)) ((gv1 1)) v0)
def slices_IndexFunc_sf.b0 {ρ : Type} (N : Nat) (K0 : Int → Option ρ) (rec : Int → Option ρ) (out0 : Option ρ) (s0 : Nat) (gv3 : Nat → Int) (gv4 : Nat → Int) (gv5 : Nat → Int) (x6 : Int) : Option ρ :=
  (if (decide (x6 < (s0 : Int))) = true then (if (0 : Int) ≤ x6 ∧ x6 < (s0 : Int) then (impl_Coalgebra_has_c1 N (fun rv7 => (if rv7 = true then (K0 x6) else (rec ((IntKind.i64.wrap (x6 + 1)))))) (fun z => (gv3 ((0 + (x6.toNat * 8)) + z))) gv4 gv5) else none) else out0)
def slices_IndexFunc_sf.a0_0 {ρ : Type} (N : Nat) (K0 : Int → Option ρ) : Option ρ :=
  (K0 (-1))
def slices_IndexFunc_sf.l0 {ρ : Type} (N : Nat) (K0 : Int → Option ρ) (s0 : Nat) (gv3 : Nat → Int) (gv4 : Nat → Int) (gv5 : Nat → Int) (out0 : Option ρ) : Nat → Int → Option ρ
  | 0, _ => none
  | m + 1, x6 => (slices_IndexFunc_sf.b0 N K0 ((slices_IndexFunc_sf.l0 N K0 s0 gv3 gv4 gv5 out0 m)) out0 s0 gv3 gv4 gv5 x6)
def slices_IndexFunc_sf.s {ρ : Type} (N : Nat) (K0 : Int → Option ρ) (lp0 : Int → Option ρ) : Option ρ :=
  (lp0 0)
def slices_IndexFunc_sf {ρ : Type} (N : Nat) (K0 : Int → Option ρ) (s0 : Nat) (s1 : Nat) (gv2 : Nat) (gv3 : Nat → Int) (gv4 : Nat → Int) (gv5 : Nat → Int) : Option ρ :=
  (slices_IndexFunc_sf.s N K0 (fun x6 => (slices_IndexFunc_sf.l0 N K0 s0 gv3 gv4 gv5 (slices_IndexFunc_sf.a0_0 N K0) N x6)))
def slices_ContainsFunc_sf {ρ : Type} (N : Nat) (K0 : Bool → Option ρ) (s0 : Nat) (s1 : Nat) (gv2 : Nat) (gv3 : Nat → Int) (gv4 : Nat → Int) (gv5 : Nat → Int) : Option ρ :=
  (slices_IndexFunc_sf N (fun rv6 => (K0 ((decide (rv6 ≥ 0))))) s0 s1 (s1 * 8) (fun z => (gv3 (0 + z))) gv4 gv5)
def impl_Coalgebra_has_s {ρ : Type} (N : Nat) (K0 : Bool → Option ρ) (list0 : Nat) (list1 : Nat) (gv2 : Nat → Int) (gv3 : Nat → Int) (gv4 : Nat) (gv5 : Nat → Int) : Option ρ :=
  (slices_ContainsFunc_sf N (fun rv6 => (K0 ((!rv6)))) list0 list1 (list1 * 8) (fun z => (gv5 (0 + z))) gv2 gv3)
def impl_unless {ρ : Type} (N : Nat) (K0 : Int → Option ρ) (so0 : Bool) (code1 : Int) : Option ρ :=
  (if so0 = true then (K0 0) else (K0 code1))
def impl_Coalgebra_code_s {ρ : Type} (N : Nat) (K0 : Int → Option ρ) (list0 : Nat) (list1 : Nat) (gv2 : Nat → Int) (gv3 : Nat → Int) (gv4 : Nat) (gv5 : Nat → Int) : Option ρ :=
  (impl_IsCoalgebra N (fun rv6 => (if rv6 = true then (impl_Coalgebra_has_s N (fun rv7 => (impl_unless N (fun rv8 => (K0 rv8)) (rv7) 1)) list0 list1 gv2 gv3 (list1 * 8) (fun z => (gv5 (0 + z)))) else (impl_unless N (fun rv9 => (K0 rv9)) false 1))) gv2 gv3)
def impl_first_s.b0 {ρ : Type} (N : Nat) (K0 : Int → Option ρ) (rec : Int → Option ρ) (out0 : Option ρ) (codes0 : Nat) (gv3 : Nat → Int) (x4 : Int) : Option ρ :=
  (if (decide (x4 < (codes0 : Int))) = true then (if (0 : Int) ≤ x4 ∧ x4 < (codes0 : Int) then (if ((gv3 (0 + (x4.toNat * 1))) != 0) = true then (K0 ((gv3 (0 + (x4.toNat * 1))))) else (rec ((IntKind.i64.wrap (x4 + 1))))) else none) else out0)
def impl_first_s.a0_0 {ρ : Type} (N : Nat) (K0 : Int → Option ρ) : Option ρ :=
  (K0 0)
def impl_first_s.l0 {ρ : Type} (N : Nat) (K0 : Int → Option ρ) (codes0 : Nat) (gv3 : Nat → Int) (out0 : Option ρ) : Nat → Int → Option ρ
  | 0, _ => none
  | m + 1, x4 => (impl_first_s.b0 N K0 ((impl_first_s.l0 N K0 codes0 gv3 out0 m)) out0 codes0 gv3 x4)
def impl_first_s.s {ρ : Type} (N : Nat) (K0 : Int → Option ρ) (lp0 : Int → Option ρ) : Option ρ :=
  (lp0 0)
def impl_first_s {ρ : Type} (N : Nat) (K0 : Int → Option ρ) (codes0 : Nat) (codes1 : Nat) (gv2 : Nat) (gv3 : Nat → Int) : Option ρ :=
  (impl_first_s.s N K0 (fun x4 => (impl_first_s.l0 N K0 codes0 gv3 (impl_first_s.a0_0 N K0) N x4)))
def impl_newSystem {ρ : Type} (N : Nat) (K0 : (Nat → Int) → (Nat → Int) → Option ρ) (p0 : Int) (many1 : Int) : Option ρ :=
  (K0 (upd (upd (fun _ => 0) 0 p0) 1 0) (fun _ => many1))
def impl_PrimitiveSpace_c1 {ρ : Type} (N : Nat) (K0 : Int → Option ρ) (form0 : Int) (i1 : Int) (gv2 : Nat → Int) (gv3 : Nat → Int) (gv4 : Nat → Int) (gv5 : Nat → Int) (gv6 : Nat → Int) : Option ρ :=
  (if (gv2 1) = 0 then none else (if (gv2 1) = 0 then none else (if (0 : Int) ≤ i1 ∧ i1 < 8 then (if (0 : Int) ≤ (IntKind.i64.wrap (Int.tdiv form0 (gv2 1))) ∧ (IntKind.i64.wrap (Int.tdiv form0 (gv2 1))) < 8 then (if (0 : Int) ≤ (Int.tmod form0 (gv2 1)) ∧ (Int.tmod form0 (gv2 1)) < 8 then (if ((IntKind.i64.wrap (Int.tdiv form0 (gv2 1))) == i1) = true then (if (0 : Int) ≤ (Int.tmod form0 (gv2 1)) ∧ (Int.tmod form0 (gv2 1)) < 8 then (if ((Int.tmod form0 (gv2 1)) == i1) = true then (if (0 : Int) ≤ (IntKind.i64.wrap (Int.tdiv form0 (gv2 1))) ∧ (IntKind.i64.wrap (Int.tdiv form0 (gv2 1))) < 8 then (K0 ((IntKind.i64.wrap ((IntKind.i64.wrap ((IntKind.i64.wrap (gv4 (((8 + (i1.toNat * 64)) + (((IntKind.i64.wrap (Int.tdiv form0 (gv2 1)))).toNat * 8)) + (((Int.tmod form0 (gv2 1))).toNat * 1)))) - (IntKind.i64.wrap (gv5 (((Int.tmod form0 (gv2 1))).toNat * 1))))) - (IntKind.i64.wrap (gv6 (((IntKind.i64.wrap (Int.tdiv form0 (gv2 1)))).toNat * 1))))))) else none) else (K0 ((IntKind.i64.wrap ((IntKind.i64.wrap (gv4 (((8 + (i1.toNat * 64)) + (((IntKind.i64.wrap (Int.tdiv form0 (gv2 1)))).toNat * 8)) + (((Int.tmod form0 (gv2 1))).toNat * 1)))) - (IntKind.i64.wrap (gv5 (((Int.tmod form0 (gv2 1))).toNat * 1)))))))) else none) else (if ((Int.tmod form0 (gv2 1)) == i1) = true then (if (0 : Int) ≤ (IntKind.i64.wrap (Int.tdiv form0 (gv2 1))) ∧ (IntKind.i64.wrap (Int.tdiv form0 (gv2 1))) < 8 then (K0 ((IntKind.i64.wrap ((IntKind.i64.wrap (gv4 (((8 + (i1.toNat * 64)) + (((IntKind.i64.wrap (Int.tdiv form0 (gv2 1)))).toNat * 8)) + (((Int.tmod form0 (gv2 1))).toNat * 1)))) - (IntKind.i64.wrap (gv6 (((IntKind.i64.wrap (Int.tdiv form0 (gv2 1)))).toNat * 1))))))) else none) else (K0 ((IntKind.i64.wrap (gv4 (((8 + (i1.toNat * 64)) + (((IntKind.i64.wrap (Int.tdiv form0 (gv2 1)))).toNat * 8)) + (((Int.tmod form0 (gv2 1))).toNat * 1)))))))) else none) else none) else none)))
def impl_system_add_s_v2.b0 {ρ : Type} (N : Nat) (K0 : Nat → Nat → (Nat → Nat) → (Nat → Nat) → (Nat → Int) → Option ρ) (rec : Int → (Nat → Int) → Option ρ) (out0 : (Nat → Int) → Option ρ) (coefficients0 : Nat) (gv3 : Nat → Int) (gv4 : Nat → Int) (gv7 : Nat → Int) (x12 : Int) (gv13 : Nat → Int) : Option ρ :=
  (if (decide (x12 < (coefficients0 : Int))) = true then (if (0 : Int) ≤ x12 ∧ x12 < (coefficients0 : Int) then (impl_field_mod N (fun rv14 => (if (0 : Int) ≤ x12 ∧ x12 < ((((IntKind.i64.wrap ((gv4 0) + 1))).toNat : Nat) : Int) then (rec ((IntKind.i64.wrap (x12 + 1))) (upd gv13 (0 + (x12.toNat * 1)) rv14)) else none)) gv3 ((gv7 (0 + (x12.toNat * 1))))) else none) else (out0 gv13))
def impl_system_add_s_v2.a0_0 {ρ : Type} (N : Nat) (K0 : Nat → Nat → (Nat → Nat) → (Nat → Nat) → (Nat → Int) → Option ρ) (value2 : Int) (gv3 : Nat → Int) (gv4 : Nat → Int) (gv5 : Nat) (gv8 : Nat) (gv9 : Nat → Nat) (gv10 : Nat → Nat) (gv11 : Nat → Int) (ov15 : Nat → Int) : Option ρ :=
  (impl_field_mod N (fun rv16 => (if (0 : Int) ≤ (gv4 0) ∧ (gv4 0) < ((((IntKind.i64.wrap ((gv4 0) + 1))).toNat : Nat) : Int) then (if (gv5 + 1) * 24 ≤ 140737488355328 then (K0 (gv5 + 1) (gv8 + ((IntKind.i64.wrap ((gv4 0) + 1))).toNat) (upd gv9 gv5 gv8) (upd gv10 gv5 (((IntKind.i64.wrap ((gv4 0) + 1))).toNat)) (joinN gv8 gv11 (upd ov15 (0 + (((gv4 0)).toNat * 1)) rv16))) else none) else none)) gv3 value2)
def impl_system_add_s_v2.l0 {ρ : Type} (N : Nat) (K0 : Nat → Nat → (Nat → Nat) → (Nat → Nat) → (Nat → Int) → Option ρ) (coefficients0 : Nat) (gv3 : Nat → Int) (gv4 : Nat → Int) (gv7 : Nat → Int) (out0 : (Nat → Int) → Option ρ) : Nat → Int → (Nat → Int) → Option ρ
  | 0, _, _ => none
  | m + 1, x12, gv13 => (impl_system_add_s_v2.b0 N K0 ((impl_system_add_s_v2.l0 N K0 coefficients0 gv3 gv4 gv7 out0 m)) out0 coefficients0 gv3 gv4 gv7 x12 gv13)
def impl_system_add_s_v2.s {ρ : Type} (N : Nat) (K0 : Nat → Nat → (Nat → Nat) → (Nat → Nat) → (Nat → Int) → Option ρ) (lp0 : Int → (Nat → Int) → Option ρ) (gv4 : Nat → Int) : Option ρ :=
  (if (0 : Int) ≤ (IntKind.i64.wrap ((gv4 0) + 1)) ∧ (IntKind.i64.wrap ((gv4 0) + 1)) ≤ (IntKind.i64.wrap ((gv4 0) + 1)) ∧ (1 : Int) * (IntKind.i64.wrap ((gv4 0) + 1)) ≤ 1099511627776 ∧ (IntKind.i64.wrap ((gv4 0) + 1)) ≤ 1099511627776 then (lp0 0 (fun _ => 0)) else none)
def impl_system_add_s_v2 {ρ : Type} (N : Nat) (K0 : Nat → Nat → (Nat → Nat) → (Nat → Nat) → (Nat → Int) → Option ρ) (coefficients0 : Nat) (coefficients1 : Nat) (value2 : Int) (gv3 : Nat → Int) (gv4 : Nat → Int) (gv5 : Nat) (gv6 : Nat) (gv7 : Nat → Int) (gv8 : Nat) (gv9 : Nat → Nat) (gv10 : Nat → Nat) (gv11 : Nat → Int) : Option ρ :=
  (impl_system_add_s_v2.s N K0 (fun x12 gv13 => (impl_system_add_s_v2.l0 N K0 coefficients0 gv3 gv4 gv7 (fun ov15 => (impl_system_add_s_v2.a0_0 N K0 value2 gv3 gv4 gv5 gv8 gv9 gv10 gv11 ov15)) N x12 gv13)) gv4)
def impl_system_solve_c1_su {ρ : Type} (N : Nat) (K0 : Bool → Option ρ) (rv0 : Nat) (gv1 : Nat) (gv2 : Nat → Int) (gv3 : Nat → Int) : Option ρ :=
  (if (0 : Int) ≤ (gv3 0) ∧ (gv3 0) < (rv0 : Int) then (K0 (((gv2 (0 + (((gv3 0)).toNat * 1))) != 0))) else none)
def slices_IndexFunc_suhf.b0 {ρ : Type} (N : Nat) (K0 : Int → Option ρ) (rec : Int → Option ρ) (out0 : Option ρ) (s0 : Nat) (gv3 : Nat → Nat) (gv4 : Nat → Nat) (gv5 : Nat → Int) (gv6 : Nat → Int) (x7 : Int) : Option ρ :=
  (if (decide (x7 < (s0 : Int))) = true then (if (0 : Int) ≤ x7 ∧ x7 < (s0 : Int) then (impl_system_solve_c1_su N (fun rv8 => (if rv8 = true then (K0 x7) else (rec ((IntKind.i64.wrap (x7 + 1)))))) (gv4 (0 + (x7.toNat * 1))) ((gv4 (0 + (x7.toNat * 1))) * 1) (fun z => (gv6 ((gv3 (0 + (x7.toNat * 1))) + z))) gv5) else none) else out0)
def slices_IndexFunc_suhf.a0_0 {ρ : Type} (N : Nat) (K0 : Int → Option ρ) : Option ρ :=
  (K0 (-1))
def slices_IndexFunc_suhf.l0 {ρ : Type} (N : Nat) (K0 : Int → Option ρ) (s0 : Nat) (gv3 : Nat → Nat) (gv4 : Nat → Nat) (gv5 : Nat → Int) (gv6 : Nat → Int) (out0 : Option ρ) : Nat → Int → Option ρ
  | 0, _ => none
  | m + 1, x7 => (slices_IndexFunc_suhf.b0 N K0 ((slices_IndexFunc_suhf.l0 N K0 s0 gv3 gv4 gv5 gv6 out0 m)) out0 s0 gv3 gv4 gv5 gv6 x7)
def slices_IndexFunc_suhf.s {ρ : Type} (N : Nat) (K0 : Int → Option ρ) (lp0 : Int → Option ρ) : Option ρ :=
  (lp0 0)
def slices_IndexFunc_suhf {ρ : Type} (N : Nat) (K0 : Int → Option ρ) (s0 : Nat) (gv1 : Nat) (gv2 : Nat) (gv3 : Nat → Nat) (gv4 : Nat → Nat) (gv5 : Nat → Int) (gv6 : Nat → Int) : Option ρ :=
  (slices_IndexFunc_suhf.s N K0 (fun x7 => (slices_IndexFunc_suhf.l0 N K0 s0 gv3 gv4 gv5 gv6 (slices_IndexFunc_suhf.a0_0 N K0) N x7)))
def impl_field_inverse.b0 {ρ : Type} (N : Nat) (K0 : Int → Option ρ) (rec : Int → Option ρ) (out0 : Option ρ) (f0 : Nat → Int) (x1 : Int) (k2 : Int) : Option ρ :=
  (if (decide (k2 < (f0 0))) = true then (if (f0 0) = 0 then none else (if ((Int.tmod (IntKind.i64.wrap (k2 * (IntKind.i64.wrap x1))) (f0 0)) == 1) = true then (K0 k2) else (rec ((IntKind.i64.wrap (k2 + 1)))))) else out0)
def impl_field_inverse.a0_0 {ρ : Type} (N : Nat) (K0 : Int → Option ρ) (f0 : Nat → Int) : Option ρ :=
  (if (f0 0) = 0 then none else (K0 ((Int.tmod 1 (f0 0)))))
def impl_field_inverse.l0 {ρ : Type} (N : Nat) (K0 : Int → Option ρ) (f0 : Nat → Int) (x1 : Int) (out0 : Option ρ) : Nat → Int → Option ρ
  | 0, _ => none
  | m + 1, k2 => (impl_field_inverse.b0 N K0 ((impl_field_inverse.l0 N K0 f0 x1 out0 m)) out0 f0 x1 k2)
def impl_field_inverse.s {ρ : Type} (N : Nat) (K0 : Int → Option ρ) (lp0 : Int → Option ρ) : Option ρ :=
  (lp0 1)
def impl_field_inverse {ρ : Type} (N : Nat) (K0 : Int → Option ρ) (f0 : Nat → Int) (x1 : Int) : Option ρ :=
  (impl_field_inverse.s N K0 (fun k2 => (impl_field_inverse.l0 N K0 f0 x1 (impl_field_inverse.a0_0 N K0 f0) N k2)))
def impl_system_clear_v2.b2 {ρ : Type} (N : Nat) (K0 : (Nat → Int) → (Nat → Int) → Option ρ) (rec : Int → (Nat → Int) → Option ρ) (out0 : (Nat → Int) → Option ρ) (at0 : Int) (c1 : Int) (gv2 : Nat → Int) (gv8 : Nat → Nat) (gv9 : Nat → Nat) (x17 : Int) (gv18 : Nat → Int) (x19 : Int) (gv20 : Nat → Int) : Option ρ :=
  (if (decide (x19 < (((gv9 (0 + (at0.toNat * 1))) : Nat) : Int))) = true then (if (0 : Int) ≤ x19 ∧ x19 < (((gv9 (0 + (at0.toNat * 1))) : Nat) : Int) then (if (0 : Int) ≤ x19 ∧ x19 < (((gv9 (0 + (x17.toNat * 1))) : Nat) : Int) then (impl_field_mod N (fun rv21 => (if (0 : Int) ≤ x19 ∧ x19 < (((gv9 (0 + (x17.toNat * 1))) : Nat) : Int) then (rec ((IntKind.i64.wrap (x19 + 1))) (upd gv20 ((gv8 (0 + (x17.toNat * 1))) + (x19.toNat * 1)) rv21)) else none)) gv2 ((IntKind.i64.wrap ((IntKind.i64.wrap (gv20 ((gv8 (0 + (x17.toNat * 1))) + (x19.toNat * 1)))) - (IntKind.i64.wrap ((IntKind.i64.wrap (gv18 ((gv8 (0 + (x17.toNat * 1))) + (c1.toNat * 1)))) * (IntKind.i64.wrap (gv20 ((gv8 (0 + (at0.toNat * 1))) + (x19.toNat * 1)))))))))) else none) else none) else (out0 gv20))
def impl_system_clear_v2.a2_0 {ρ : Type} (N : Nat) (K0 : (Nat → Int) → (Nat → Int) → Option ρ) (rec : Int → (Nat → Int) → Option ρ) (out0 : (Nat → Int) → Option ρ) (x17 : Int) (ov22 : Nat → Int) : Option ρ :=
  (rec ((IntKind.i64.wrap (x17 + 1))) ov22)
def impl_system_clear_v2.b1 {ρ : Type} (N : Nat) (K0 : (Nat → Int) → (Nat → Int) → Option ρ) (lp2 : Int → (Nat → Int) → Option ρ) (rec : Int → (Nat → Int) → Option ρ) (out0 : (Nat → Int) → Option ρ) (at0 : Int) (c1 : Int) (gv4 : Nat) (gv8 : Nat → Nat) (gv9 : Nat → Nat) (x17 : Int) (gv18 : Nat → Int) : Option ρ :=
  (if (decide (x17 < (gv4 : Int))) = true then (if (0 : Int) ≤ x17 ∧ x17 < (gv4 : Int) then (if (x17 == at0) = true then (rec ((IntKind.i64.wrap (x17 + 1))) gv18) else (if (0 : Int) ≤ c1 ∧ c1 < (((gv9 (0 + (x17.toNat * 1))) : Nat) : Int) then (if ((gv18 ((gv8 (0 + (x17.toNat * 1))) + (c1.toNat * 1))) == 0) = true then (rec ((IntKind.i64.wrap (x17 + 1))) gv18) else (if (0 : Int) ≤ c1 ∧ c1 < (((gv9 (0 + (x17.toNat * 1))) : Nat) : Int) then (lp2 0 gv18) else none)) else none)) else none) else (out0 gv18))
def impl_system_clear_v2.a1_0 {ρ : Type} (N : Nat) (K0 : (Nat → Int) → (Nat → Int) → Option ρ) (gv10 : Nat → Int) (ov23 : Nat → Int) : Option ρ :=
  (K0 gv10 ov23)
def impl_system_clear_v2.b0 {ρ : Type} (N : Nat) (K0 : (Nat → Int) → (Nat → Int) → Option ρ) (rec : Int → (Nat → Int) → Option ρ) (out0 : (Nat → Int) → Option ρ) (at0 : Int) (gv2 : Nat → Int) (gv8 : Nat → Nat) (gv9 : Nat → Nat) (rv12 : Int) (x13 : Int) (gv14 : Nat → Int) : Option ρ :=
  (if (decide (x13 < (((gv9 (0 + (at0.toNat * 1))) : Nat) : Int))) = true then (if (0 : Int) ≤ x13 ∧ x13 < (((gv9 (0 + (at0.toNat * 1))) : Nat) : Int) then (impl_field_mod N (fun rv15 => (if (0 : Int) ≤ x13 ∧ x13 < (((gv9 (0 + (at0.toNat * 1))) : Nat) : Int) then (rec ((IntKind.i64.wrap (x13 + 1))) (upd gv14 ((gv8 (0 + (at0.toNat * 1))) + (x13.toNat * 1)) rv15)) else none)) gv2 ((IntKind.i64.wrap (rv12 * (IntKind.i64.wrap (gv14 ((gv8 (0 + (at0.toNat * 1))) + (x13.toNat * 1)))))))) else none) else (out0 gv14))
def impl_system_clear_v2.a0_0 {ρ : Type} (N : Nat) (K0 : (Nat → Int) → (Nat → Int) → Option ρ) (lp1 : Int → (Nat → Int) → Option ρ) (ov16 : Nat → Int) : Option ρ :=
  (lp1 0 ov16)
def impl_system_clear_v2.l2 {ρ : Type} (N : Nat) (K0 : (Nat → Int) → (Nat → Int) → Option ρ) (at0 : Int) (c1 : Int) (gv2 : Nat → Int) (gv8 : Nat → Nat) (gv9 : Nat → Nat) (x17 : Int) (gv18 : Nat → Int) (out0 : (Nat → Int) → Option ρ) : Nat → Int → (Nat → Int) → Option ρ
  | 0, _, _ => none
  | m + 1, x19, gv20 => (impl_system_clear_v2.b2 N K0 ((impl_system_clear_v2.l2 N K0 at0 c1 gv2 gv8 gv9 x17 gv18 out0 m)) out0 at0 c1 gv2 gv8 gv9 x17 gv18 x19 gv20)
def impl_system_clear_v2.l1 {ρ : Type} (N : Nat) (K0 : (Nat → Int) → (Nat → Int) → Option ρ) (at0 : Int) (c1 : Int) (gv2 : Nat → Int) (gv4 : Nat) (gv8 : Nat → Nat) (gv9 : Nat → Nat) (out0 : (Nat → Int) → Option ρ) : Nat → Int → (Nat → Int) → Option ρ
  | 0, _, _ => none
  | m + 1, x17, gv18 => (impl_system_clear_v2.b1 N K0 (fun x19 gv20 => (impl_system_clear_v2.l2 N K0 at0 c1 gv2 gv8 gv9 x17 gv18 (fun ov22 => (impl_system_clear_v2.a2_0 N K0 (impl_system_clear_v2.l1 N K0 at0 c1 gv2 gv4 gv8 gv9 out0 m) out0 x17 ov22)) N x19 gv20)) ((impl_system_clear_v2.l1 N K0 at0 c1 gv2 gv4 gv8 gv9 out0 m)) out0 at0 c1 gv4 gv8 gv9 x17 gv18)
def impl_system_clear_v2.l0 {ρ : Type} (N : Nat) (K0 : (Nat → Int) → (Nat → Int) → Option ρ) (at0 : Int) (gv2 : Nat → Int) (gv8 : Nat → Nat) (gv9 : Nat → Nat) (rv12 : Int) (out0 : (Nat → Int) → Option ρ) : Nat → Int → (Nat → Int) → Option ρ
  | 0, _, _ => none
  | m + 1, x13, gv14 => (impl_system_clear_v2.b0 N K0 ((impl_system_clear_v2.l0 N K0 at0 gv2 gv8 gv9 rv12 out0 m)) out0 at0 gv2 gv8 gv9 rv12 x13 gv14)
def impl_system_clear_v2.s {ρ : Type} (N : Nat) (K0 : (Nat → Int) → (Nat → Int) → Option ρ) (lp0 : Int → Int → (Nat → Int) → Option ρ) (at0 : Int) (c1 : Int) (gv2 : Nat → Int) (gv4 : Nat) (gv8 : Nat → Nat) (gv9 : Nat → Nat) (gv11 : Nat → Int) : Option ρ :=
  (if (0 : Int) ≤ at0 ∧ at0 < (gv4 : Int) then (if (0 : Int) ≤ c1 ∧ c1 < (((gv9 (0 + (at0.toNat * 1))) : Nat) : Int) then (impl_field_inverse N (fun rv12 => (lp0 rv12 0 gv11)) gv2 ((gv11 ((gv8 (0 + (at0.toNat * 1))) + (c1.toNat * 1))))) else none) else none)
def impl_system_clear_v2 {ρ : Type} (N : Nat) (K0 : (Nat → Int) → (Nat → Int) → Option ρ) (at0 : Int) (c1 : Int) (gv2 : Nat → Int) (gv3 : Nat → Int) (gv4 : Nat) (gv5 : Nat) (gv6 : Nat) (gv7 : Nat) (gv8 : Nat → Nat) (gv9 : Nat → Nat) (gv10 : Nat → Int) (gv11 : Nat → Int) : Option ρ :=
  (impl_system_clear_v2.s N K0 (fun rv12 x13 gv14 => (impl_system_clear_v2.l0 N K0 at0 gv2 gv8 gv9 rv12 (fun ov16 => (impl_system_clear_v2.a0_0 N K0 (fun x17 gv18 => (impl_system_clear_v2.l1 N K0 at0 c1 gv2 gv4 gv8 gv9 (fun ov23 => (impl_system_clear_v2.a1_0 N K0 gv10 ov23)) N x17 gv18)) ov16)) N x13 gv14)) at0 c1 gv2 gv4 gv8 gv9 gv11)
def impl_system_solve_c2_su {ρ : Type} (N : Nat) (K0 : Bool → Option ρ) (rv0 : Nat) (gv1 : Nat) (gv2 : Nat → Int) (gv3 : Nat → Int) (gv4 : Nat → Int) (gv5 : Nat) (gv6 : Nat) (gv7 : Nat) (gv8 : Nat) (gv9 : Nat → Nat) (gv10 : Nat → Nat) (gv11 : Nat) (gv12 : Nat → Int) (gv13 : Nat → Int) : Option ρ :=
  (if (0 : Int) ≤ (gv4 0) ∧ (gv4 0) < (rv0 : Int) then (K0 (((gv2 (0 + (((gv4 0)).toNat * 1))) != 0))) else none)
def slices_IndexFunc_suhf_v2.b0 {ρ : Type} (N : Nat) (K0 : Int → Option ρ) (rec : Int → Option ρ) (out0 : Option ρ) (s0 : Nat) (gv3 : Nat → Nat) (gv4 : Nat → Nat) (gv5 : Nat → Int) (gv6 : Nat → Int) (gv7 : Nat → Int) (gv8 : Nat) (gv9 : Nat) (gv11 : Nat) (gv12 : Nat → Nat) (gv13 : Nat → Nat) (gv15 : Nat → Int) (x16 : Int) : Option ρ :=
  (if (decide (x16 < (s0 : Int))) = true then (if (0 : Int) ≤ x16 ∧ x16 < (s0 : Int) then (impl_system_solve_c2_su N (fun rv17 => (if rv17 = true then (K0 x16) else (rec ((IntKind.i64.wrap (x16 + 1)))))) (gv4 (0 + (x16.toNat * 1))) ((gv4 (0 + (x16.toNat * 1))) * 1) (fun z => (gv5 ((gv3 (0 + (x16.toNat * 1))) + z))) gv6 gv7 gv8 gv9 (gv8 * 1) gv11 (offN 0 gv12) (offN 0 gv13) (gv9 * 1) (fun z => (gv15 (0 + z))) gv5) else none) else out0)
def slices_IndexFunc_suhf_v2.a0_0 {ρ : Type} (N : Nat) (K0 : Int → Option ρ) : Option ρ :=
  (K0 (-1))
def slices_IndexFunc_suhf_v2.l0 {ρ : Type} (N : Nat) (K0 : Int → Option ρ) (s0 : Nat) (gv3 : Nat → Nat) (gv4 : Nat → Nat) (gv5 : Nat → Int) (gv6 : Nat → Int) (gv7 : Nat → Int) (gv8 : Nat) (gv9 : Nat) (gv11 : Nat) (gv12 : Nat → Nat) (gv13 : Nat → Nat) (gv15 : Nat → Int) (out0 : Option ρ) : Nat → Int → Option ρ
  | 0, _ => none
  | m + 1, x16 => (slices_IndexFunc_suhf_v2.b0 N K0 ((slices_IndexFunc_suhf_v2.l0 N K0 s0 gv3 gv4 gv5 gv6 gv7 gv8 gv9 gv11 gv12 gv13 gv15 out0 m)) out0 s0 gv3 gv4 gv5 gv6 gv7 gv8 gv9 gv11 gv12 gv13 gv15 x16)
def slices_IndexFunc_suhf_v2.s {ρ : Type} (N : Nat) (K0 : Int → Option ρ) (lp0 : Int → Option ρ) : Option ρ :=
  (lp0 0)
def slices_IndexFunc_suhf_v2 {ρ : Type} (N : Nat) (K0 : Int → Option ρ) (s0 : Nat) (gv1 : Nat) (gv2 : Nat) (gv3 : Nat → Nat) (gv4 : Nat → Nat) (gv5 : Nat → Int) (gv6 : Nat → Int) (gv7 : Nat → Int) (gv8 : Nat) (gv9 : Nat) (gv10 : Nat) (gv11 : Nat) (gv12 : Nat → Nat) (gv13 : Nat → Nat) (gv14 : Nat) (gv15 : Nat → Int) : Option ρ :=
  (slices_IndexFunc_suhf_v2.s N K0 (fun x16 => (slices_IndexFunc_suhf_v2.l0 N K0 s0 gv3 gv4 gv5 gv6 gv7 gv8 gv9 gv11 gv12 gv13 gv15 (slices_IndexFunc_suhf_v2.a0_0 N K0) N x16)))
def slices_ContainsFunc_suhf {ρ : Type} (N : Nat) (K0 : Bool → Option ρ) (s0 : Nat) (gv1 : Nat) (gv2 : Nat) (gv3 : Nat → Nat) (gv4 : Nat → Nat) (gv5 : Nat → Int) (gv6 : Nat → Int) (gv7 : Nat → Int) (gv8 : Nat) (gv9 : Nat) (gv10 : Nat) (gv11 : Nat) (gv12 : Nat → Nat) (gv13 : Nat → Nat) (gv14 : Nat) (gv15 : Nat → Int) : Option ρ :=
  (slices_IndexFunc_suhf_v2 N (fun rv16 => (K0 ((decide (rv16 ≥ 0))))) s0 (s0 * 1) gv2 (offN 0 gv3) (offN 0 gv4) gv5 gv6 gv7 gv8 gv9 (gv8 * 1) gv11 (offN 0 gv12) (offN 0 gv13) (gv9 * 1) (fun z => (gv15 (0 + z))))
def impl_system_solve.b0 {ρ : Type} (N : Nat) (K0 : Bool → Nat → Nat → Nat → (Nat → Nat) → (Nat → Nat) → (Nat → Int) → (Nat → Int) → Option ρ) (rec : Int → Nat → (Nat → Nat) → (Nat → Nat) → (Nat → Int) → (Nat → Int) → (Nat → Int) → Option ρ) (out0 : Int → Nat → (Nat → Nat) → (Nat → Nat) → (Nat → Int) → (Nat → Int) → Option ρ) (gv0 : Nat → Int) (gv1 : Nat → Int) (gv2 : Nat) (gv3 : Nat) (done7 : Int) (gv8 : Nat) (gv9 : Nat → Nat) (gv10 : Nat → Nat) (gv11 : Nat → Int) (gv12 : Nat → Int) (gv13 : Nat → Int) : Option ρ :=
  (if (decide ((gv12 0) < (gv1 0))) = true then (if (decide (done7 < (gv2 : Int))) = true then (if (0 : Int) ≤ done7 ∧ done7 ≤ (gv2 : Int) ∧ (gv2 : Int) ≤ (gv2 : Int) then (slices_IndexFunc_suhf N (fun rv14 => (if (decide (rv14 < 0)) = true then (rec done7 gv8 gv9 gv10 gv11 (fun _ => (IntKind.i64.wrap ((gv12 0) + 1))) gv13) else (if (0 : Int) ≤ (IntKind.i64.wrap (done7 + rv14)) ∧ (IntKind.i64.wrap (done7 + rv14)) < (gv2 : Int) then (if (0 : Int) ≤ done7 ∧ done7 < (gv2 : Int) then (if (0 : Int) ≤ done7 ∧ done7 < (gv2 : Int) then (if (0 : Int) ≤ (IntKind.i64.wrap (done7 + rv14)) ∧ (IntKind.i64.wrap (done7 + rv14)) < (gv2 : Int) then (impl_system_clear_v2 N (fun rv15 rv16 => (if (gv8 + 1) * 8 ≤ 140737488355328 then (rec ((IntKind.i64.wrap (done7 + 1))) (gv8 + 1) (upd (upd gv9 (0 + (done7.toNat * 1)) (gv9 (0 + (((IntKind.i64.wrap (done7 + rv14))).toNat * 1)))) (0 + (((IntKind.i64.wrap (done7 + rv14))).toNat * 1)) (gv9 (0 + (done7.toNat * 1)))) (upd (upd gv10 (0 + (done7.toNat * 1)) (gv10 (0 + (((IntKind.i64.wrap (done7 + rv14))).toNat * 1)))) (0 + (((IntKind.i64.wrap (done7 + rv14))).toNat * 1)) (gv10 (0 + (done7.toNat * 1)))) rv16 (fun _ => (IntKind.i64.wrap ((gv12 0) + 1))) (joinN (gv8 * 1) rv15 (upd (fun _ => 0) 0 (gv12 0)))) else none)) done7 ((gv12 0)) gv0 gv1 gv2 gv8 (gv2 * 1) gv3 (offN 0 (upd (upd gv9 (0 + (done7.toNat * 1)) (gv9 (0 + (((IntKind.i64.wrap (done7 + rv14))).toNat * 1)))) (0 + (((IntKind.i64.wrap (done7 + rv14))).toNat * 1)) (gv9 (0 + (done7.toNat * 1))))) (offN 0 (upd (upd gv10 (0 + (done7.toNat * 1)) (gv10 (0 + (((IntKind.i64.wrap (done7 + rv14))).toNat * 1)))) (0 + (((IntKind.i64.wrap (done7 + rv14))).toNat * 1)) (gv10 (0 + (done7.toNat * 1))))) gv13 gv11) else none) else none) else none) else none))) (((gv2 : Int)).toNat - done7.toNat) ((((gv2 : Int)).toNat - done7.toNat) * 1) gv3 (offN (0 + (done7.toNat * 1)) gv9) (offN (0 + (done7.toNat * 1)) gv10) gv12 gv11) else none) else (out0 done7 gv8 gv9 gv10 gv11 gv13)) else (out0 done7 gv8 gv9 gv10 gv11 gv13))
def impl_system_solve.a0_0 {ρ : Type} (N : Nat) (K0 : Bool → Nat → Nat → Nat → (Nat → Nat) → (Nat → Nat) → (Nat → Int) → (Nat → Int) → Option ρ) (gv0 : Nat → Int) (gv1 : Nat → Int) (gv2 : Nat) (gv3 : Nat) (ov17 : Int) (ov18 : Nat) (ov19 : Nat → Nat) (ov20 : Nat → Nat) (ov21 : Nat → Int) (ov22 : Nat → Int) : Option ρ :=
  (if (0 : Int) ≤ ov17 ∧ ov17 ≤ (gv2 : Int) ∧ (gv2 : Int) ≤ (gv2 : Int) then (if (0 : Int) ≤ (0 : Int) ∧ (0 : Int) ≤ ov17 ∧ ov17 ≤ (gv2 : Int) then (slices_ContainsFunc_suhf N (fun rv23 => (K0 ((!rv23)) ov17.toNat ov18 gv3 ov19 ov20 ov21 ov22)) (((gv2 : Int)).toNat - ov17.toNat) ((((gv2 : Int)).toNat - ov17.toNat) * 1) gv3 (offN (0 + (ov17.toNat * 1)) ov19) (offN (0 + (ov17.toNat * 1)) ov20) ov21 gv0 gv1 ov17.toNat ov18 (ov17.toNat * 1) gv3 (offN 0 ov19) (offN 0 ov20) (ov18 * 1) (fun z => (ov22 (0 + z)))) else none) else none)
def impl_system_solve.l0 {ρ : Type} (N : Nat) (K0 : Bool → Nat → Nat → Nat → (Nat → Nat) → (Nat → Nat) → (Nat → Int) → (Nat → Int) → Option ρ) (gv0 : Nat → Int) (gv1 : Nat → Int) (gv2 : Nat) (gv3 : Nat) (out0 : Int → Nat → (Nat → Nat) → (Nat → Nat) → (Nat → Int) → (Nat → Int) → Option ρ) : Nat → Int → Nat → (Nat → Nat) → (Nat → Nat) → (Nat → Int) → (Nat → Int) → (Nat → Int) → Option ρ
  | 0, _, _, _, _, _, _, _ => none
  | m + 1, done7, gv8, gv9, gv10, gv11, gv12, gv13 => (impl_system_solve.b0 N K0 ((impl_system_solve.l0 N K0 gv0 gv1 gv2 gv3 out0 m)) out0 gv0 gv1 gv2 gv3 done7 gv8 gv9 gv10 gv11 gv12 gv13)
def impl_system_solve.s {ρ : Type} (N : Nat) (K0 : Bool → Nat → Nat → Nat → (Nat → Nat) → (Nat → Nat) → (Nat → Int) → (Nat → Int) → Option ρ) (lp0 : Int → Nat → (Nat → Nat) → (Nat → Nat) → (Nat → Int) → (Nat → Int) → (Nat → Int) → Option ρ) (gv4 : Nat → Nat) (gv5 : Nat → Nat) (gv6 : Nat → Int) : Option ρ :=
  (lp0 0 0 gv4 gv5 gv6 (fun _ => 0) (fun _ => 0))
def impl_system_solve {ρ : Type} (N : Nat) (K0 : Bool → Nat → Nat → Nat → (Nat → Nat) → (Nat → Nat) → (Nat → Int) → (Nat → Int) → Option ρ) (gv0 : Nat → Int) (gv1 : Nat → Int) (gv2 : Nat) (gv3 : Nat) (gv4 : Nat → Nat) (gv5 : Nat → Nat) (gv6 : Nat → Int) : Option ρ :=
  (impl_system_solve.s N K0 (fun done7 gv8 gv9 gv10 gv11 gv12 gv13 => (impl_system_solve.l0 N K0 gv0 gv1 gv2 gv3 (fun ov17 ov18 ov19 ov20 ov21 ov22 => (impl_system_solve.a0_0 N K0 gv0 gv1 gv2 gv3 ov17 ov18 ov19 ov20 ov21 ov22)) N done7 gv8 gv9 gv10 gv11 gv12 gv13)) gv4 gv5 gv6)
def slices_Index_su.b0 {ρ : Type} (N : Nat) (K0 : Int → Option ρ) (rec : Int → Option ρ) (out0 : Option ρ) (s0 : Nat) (v1 : Int) (gv3 : Nat → Int) (x4 : Int) : Option ρ :=
  (if (decide (x4 < (s0 : Int))) = true then (if (0 : Int) ≤ x4 ∧ x4 < (s0 : Int) then (if (v1 == (gv3 (0 + (x4.toNat * 1)))) = true then (K0 x4) else (rec ((IntKind.i64.wrap (x4 + 1))))) else none) else out0)
def slices_Index_su.a0_0 {ρ : Type} (N : Nat) (K0 : Int → Option ρ) : Option ρ :=
  (K0 (-1))
def slices_Index_su.l0 {ρ : Type} (N : Nat) (K0 : Int → Option ρ) (s0 : Nat) (v1 : Int) (gv3 : Nat → Int) (out0 : Option ρ) : Nat → Int → Option ρ
  | 0, _ => none
  | m + 1, x4 => (slices_Index_su.b0 N K0 ((slices_Index_su.l0 N K0 s0 v1 gv3 out0 m)) out0 s0 v1 gv3 x4)
def slices_Index_su.s {ρ : Type} (N : Nat) (K0 : Int → Option ρ) (lp0 : Int → Option ρ) : Option ρ :=
  (lp0 0)
def slices_Index_su {ρ : Type} (N : Nat) (K0 : Int → Option ρ) (s0 : Nat) (v1 : Int) (gv2 : Nat) (gv3 : Nat → Int) : Option ρ :=
  (slices_Index_su.s N K0 (fun x4 => (slices_Index_su.l0 N K0 s0 v1 gv3 (slices_Index_su.a0_0 N K0) N x4)))
def slices_Contains_su {ρ : Type} (N : Nat) (K0 : Bool → Option ρ) (s0 : Nat) (v1 : Int) (gv2 : Nat) (gv3 : Nat → Int) : Option ρ :=
  (slices_Index_su N (fun rv4 => (K0 ((decide (rv4 ≥ 0))))) s0 v1 (s0 * 1) (fun z => (gv3 (0 + z))))
def slices_Clone_s {ρ : Type} (N : Nat) (K0 : Nat → (Nat → Int) → Option ρ) (s0 : Nat) (s1 : Nat) (gv2 : Nat) (gv3 : Nat → Int) : Option ρ :=
  (if (0 + s0) * 1 ≤ 140737488355328 then (K0 (0 + s0) (joinN 0 (fun _ => 0) gv3)) else none)
def impl_reduced_su.b1 {ρ : Type} (N : Nat) (K0 : Nat → (Nat → Int) → Option ρ) (rec : Nat → Int → (Nat → Int) → Option ρ) (out0 : Nat → (Nat → Int) → Option ρ) (rv20 : Nat) (rv23 : Nat → Nat) (rv24 : Nat → Nat) (rv25 : Nat → Int) (outv27 : Nat) (x28 : Int) (gv29 : Nat → Int) : Option ρ :=
  (if (decide (x28 < (rv20 : Int))) = true then (if (0 : Int) ≤ x28 ∧ x28 < (rv20 : Int) then (if (0 : Int) ≤ (0 : Int) ∧ (0 : Int) ≤ (8 : Int) ∧ (8 : Int) ≤ (((rv24 (0 + (x28.toNat * 1))) : Nat) : Int) then (if (outv27 + 1) * 8 ≤ 140737488355328 then (rec (outv27 + 1) ((IntKind.i64.wrap (x28 + 1))) (joinN (outv27 * 8) gv29 (fun z => (rv25 (((rv23 (0 + (x28.toNat * 1))) + 0) + z))))) else none) else none) else none) else (out0 outv27 gv29))
def impl_reduced_su.a1_0 {ρ : Type} (N : Nat) (K0 : Nat → (Nat → Int) → Option ρ) (ov30 : Nat) (ov31 : Nat → Int) : Option ρ :=
  (K0 ov30 ov31)
def impl_reduced_su.b0 {ρ : Type} (N : Nat) (K0 : Nat → (Nat → Int) → Option ρ) (rec : Int → Nat → Nat → (Nat → Nat) → (Nat → Nat) → (Nat → Int) → Option ρ) (out0 : Nat → Nat → (Nat → Nat) → (Nat → Nat) → (Nat → Int) → Option ρ) (list1 : Nat) (gv3 : Nat → Int) (x6 : Int) (gv7 : Nat) (gv8 : Nat) (gv9 : Nat → Nat) (gv10 : Nat → Nat) (gv11 : Nat → Int) : Option ρ :=
  (if (decide (x6 < (list1 : Int))) = true then (if (0 : Int) ≤ x6 ∧ x6 < (list1 : Int) then (slices_Clone_s N (fun rv12 rv13 => (if (rv12 + 1) * 1 ≤ 140737488355328 then (if (gv7 + 1) * 24 ≤ 140737488355328 then (rec ((IntKind.i64.wrap (x6 + 1))) (gv7 + 1) (gv8 + (rv12 + 1)) (upd gv9 gv7 gv8) (upd gv10 gv7 (rv12 + 1)) (joinN gv8 gv11 (joinN (rv12 * 1) rv13 (upd (fun _ => 0) 0 0)))) else none) else none)) 8 8 8 (fun z => (gv3 ((0 + (x6.toNat * 8)) + (0 + z))))) else none) else (out0 gv7 gv8 gv9 gv10 gv11))
def impl_reduced_su.a0_0 {ρ : Type} (N : Nat) (K0 : Nat → (Nat → Int) → Option ρ) (lp1 : Nat → Nat → (Nat → Nat) → (Nat → Nat) → (Nat → Int) → Nat → Int → (Nat → Int) → Option ρ) (rv4 : Nat → Int) (rv5 : Nat → Int) (ov14 : Nat) (ov15 : Nat) (ov16 : Nat → Nat) (ov17 : Nat → Nat) (ov18 : Nat → Int) : Option ρ :=
  (impl_system_solve N (fun rv19 rv20 rv21 rv22 rv23 rv24 rv25 rv26 => (lp1 rv20 rv22 rv23 rv24 rv25 0 0 (fun _ => 0))) rv4 rv5 ov14 ov15 ov16 ov17 ov18)
def impl_reduced_su.l1 {ρ : Type} (N : Nat) (K0 : Nat → (Nat → Int) → Option ρ) (rv20 : Nat) (rv23 : Nat → Nat) (rv24 : Nat → Nat) (rv25 : Nat → Int) (out0 : Nat → (Nat → Int) → Option ρ) : Nat → Nat → Int → (Nat → Int) → Option ρ
  | 0, _, _, _ => none
  | m + 1, outv27, x28, gv29 => (impl_reduced_su.b1 N K0 ((impl_reduced_su.l1 N K0 rv20 rv23 rv24 rv25 out0 m)) out0 rv20 rv23 rv24 rv25 outv27 x28 gv29)
def impl_reduced_su.l0 {ρ : Type} (N : Nat) (K0 : Nat → (Nat → Int) → Option ρ) (list1 : Nat) (gv3 : Nat → Int) (out0 : Nat → Nat → (Nat → Nat) → (Nat → Nat) → (Nat → Int) → Option ρ) : Nat → Int → Nat → Nat → (Nat → Nat) → (Nat → Nat) → (Nat → Int) → Option ρ
  | 0, _, _, _, _, _, _ => none
  | m + 1, x6, gv7, gv8, gv9, gv10, gv11 => (impl_reduced_su.b0 N K0 ((impl_reduced_su.l0 N K0 list1 gv3 out0 m)) out0 list1 gv3 x6 gv7 gv8 gv9 gv10 gv11)
def impl_reduced_su.s {ρ : Type} (N : Nat) (K0 : Nat → (Nat → Int) → Option ρ) (lp0 : (Nat → Int) → (Nat → Int) → Int → Nat → Nat → (Nat → Nat) → (Nat → Nat) → (Nat → Int) → Option ρ) (p0 : Int) : Option ρ :=
  (impl_newSystem N (fun rv4 rv5 => (lp0 rv4 rv5 0 0 0 (fun _ => 0) (fun _ => 0) (fun _ => 0))) p0 8)
def impl_reduced_su {ρ : Type} (N : Nat) (K0 : Nat → (Nat → Int) → Option ρ) (p0 : Int) (list1 : Nat) (gv2 : Nat) (gv3 : Nat → Int) : Option ρ :=
  (impl_reduced_su.s N K0 (fun rv4 rv5 x6 gv7 gv8 gv9 gv10 gv11 => (impl_reduced_su.l0 N K0 list1 gv3 (fun ov14 ov15 ov16 ov17 ov18 => (impl_reduced_su.a0_0 N K0 (fun rv20 rv22 rv23 rv24 rv25 outv27 x28 gv29 => (impl_reduced_su.l1 N K0 rv20 rv23 rv24 rv25 (fun ov30 ov31 => (impl_reduced_su.a1_0 N K0 ov30 ov31)) N outv27 x28 gv29)) rv4 rv5 ov14 ov15 ov16 ov17 ov18)) N x6 gv7 gv8 gv9 gv10 gv11)) p0)
def impl_system_spaces.b1 {ρ : Type} (N : Nat) (K0 : Nat → (Nat → Int) → Option ρ) (rec : Int → (Nat → Int) → Option ρ) (out0 : (Nat → Int) → Option ρ) (gv0 : Nat → Int) (gv2 : Nat) (gv3 : Nat) (gv6 : Nat → Nat) (gv7 : Nat → Nat) (gv9 : Nat → Int) (gv10 : Nat → Int) (x12 : Int) (x16 : Int) (gv17 : Nat → Int) : Option ρ :=
  (if (decide (x16 < (gv3 : Int))) = true then (if (0 : Int) ≤ x16 ∧ x16 < (gv3 : Int) then (if (0 : Int) ≤ x16 ∧ x16 < (gv2 : Int) then (if (0 : Int) ≤ x12 ∧ x12 < (((gv7 (0 + (x16.toNat * 1))) : Nat) : Int) then (impl_field_mod N (fun rv18 => (if (0 : Int) ≤ (gv9 (0 + (x16.toNat * 1))) ∧ (gv9 (0 + (x16.toNat * 1))) < 8 then (rec ((IntKind.i64.wrap (x16 + 1))) (upd gv17 (((gv9 (0 + (x16.toNat * 1)))).toNat * 1) rv18)) else none)) gv0 ((IntKind.i64.wrap (0 - (IntKind.i64.wrap (gv10 ((gv6 (0 + (x16.toNat * 1))) + (x12.toNat * 1)))))))) else none) else none) else none) else (out0 gv17))
def impl_system_spaces.a1_0 {ρ : Type} (N : Nat) (K0 : Nat → (Nat → Int) → Option ρ) (rec : Nat → Int → (Nat → Int) → Option ρ) (out0 : Nat → (Nat → Int) → Option ρ) (outv11 : Nat) (x12 : Int) (gv13 : Nat → Int) (ov19 : Nat → Int) : Option ρ :=
  (if (outv11 + 1) * 8 ≤ 140737488355328 then (rec (outv11 + 1) ((IntKind.i64.wrap (x12 + 1))) (joinN (outv11 * 8) gv13 ov19)) else none)
def impl_system_spaces.b0 {ρ : Type} (N : Nat) (K0 : Nat → (Nat → Int) → Option ρ) (lp1 : Int → (Nat → Int) → Option ρ) (rec : Nat → Int → (Nat → Int) → Option ρ) (out0 : Nat → (Nat → Int) → Option ρ) (gv1 : Nat → Int) (gv3 : Nat) (gv9 : Nat → Int) (outv11 : Nat) (x12 : Int) (gv13 : Nat → Int) : Option ρ :=
  (if (decide (x12 < (gv1 0))) = true then (slices_Contains_su N (fun rv14 => (if rv14 = true then (rec outv11 ((IntKind.i64.wrap (x12 + 1))) gv13) else (impl_basis N (fun rv15 => (lp1 0 rv15)) x12))) gv3 x12 (gv3 * 1) (fun z => (gv9 (0 + z)))) else (out0 outv11 gv13))
def impl_system_spaces.a0_0 {ρ : Type} (N : Nat) (K0 : Nat → (Nat → Int) → Option ρ) (gv0 : Nat → Int) (ov20 : Nat) (ov21 : Nat → Int) : Option ρ :=
  (impl_reduced_su N (fun rv22 rv23 => (K0 rv22 rv23)) ((gv0 0)) ov20 (ov20 * 8) (fun z => (ov21 (0 + z))))
def impl_system_spaces.l1 {ρ : Type} (N : Nat) (K0 : Nat → (Nat → Int) → Option ρ) (gv0 : Nat → Int) (gv2 : Nat) (gv3 : Nat) (gv6 : Nat → Nat) (gv7 : Nat → Nat) (gv9 : Nat → Int) (gv10 : Nat → Int) (x12 : Int) (out0 : (Nat → Int) → Option ρ) : Nat → Int → (Nat → Int) → Option ρ
  | 0, _, _ => none
  | m + 1, x16, gv17 => (impl_system_spaces.b1 N K0 ((impl_system_spaces.l1 N K0 gv0 gv2 gv3 gv6 gv7 gv9 gv10 x12 out0 m)) out0 gv0 gv2 gv3 gv6 gv7 gv9 gv10 x12 x16 gv17)
def impl_system_spaces.l0 {ρ : Type} (N : Nat) (K0 : Nat → (Nat → Int) → Option ρ) (gv0 : Nat → Int) (gv1 : Nat → Int) (gv2 : Nat) (gv3 : Nat) (gv6 : Nat → Nat) (gv7 : Nat → Nat) (gv9 : Nat → Int) (gv10 : Nat → Int) (out0 : Nat → (Nat → Int) → Option ρ) : Nat → Nat → Int → (Nat → Int) → Option ρ
  | 0, _, _, _ => none
  | m + 1, outv11, x12, gv13 => (impl_system_spaces.b0 N K0 (fun x16 gv17 => (impl_system_spaces.l1 N K0 gv0 gv2 gv3 gv6 gv7 gv9 gv10 x12 (fun ov19 => (impl_system_spaces.a1_0 N K0 (impl_system_spaces.l0 N K0 gv0 gv1 gv2 gv3 gv6 gv7 gv9 gv10 out0 m) out0 outv11 x12 gv13 ov19)) N x16 gv17)) ((impl_system_spaces.l0 N K0 gv0 gv1 gv2 gv3 gv6 gv7 gv9 gv10 out0 m)) out0 gv1 gv3 gv9 outv11 x12 gv13)
def impl_system_spaces.s {ρ : Type} (N : Nat) (K0 : Nat → (Nat → Int) → Option ρ) (lp0 : Nat → Int → (Nat → Int) → Option ρ) : Option ρ :=
  (lp0 0 0 (fun _ => 0))
def impl_system_spaces {ρ : Type} (N : Nat) (K0 : Nat → (Nat → Int) → Option ρ) (gv0 : Nat → Int) (gv1 : Nat → Int) (gv2 : Nat) (gv3 : Nat) (gv4 : Nat) (gv5 : Nat) (gv6 : Nat → Nat) (gv7 : Nat → Nat) (gv8 : Nat) (gv9 : Nat → Int) (gv10 : Nat → Int) : Option ρ :=
  (impl_system_spaces.s N K0 (fun outv11 x12 gv13 => (impl_system_spaces.l0 N K0 gv0 gv1 gv2 gv3 gv6 gv7 gv9 gv10 (fun ov20 ov21 => (impl_system_spaces.a0_0 N K0 gv0 ov20 ov21)) N outv11 x12 gv13)))
def impl_kernel_f.b1 {ρ : Type} (N : Nat) (K0 : Nat → (Nat → Int) → Option ρ) (rec : Int → (Nat → Int) → Option ρ) (out0 : (Nat → Int) → Option ρ) (f0 : Nat → Int) (gv2 : Nat → Int) (gv3 : Nat → Int) (gv4 : Nat → Int) (gv5 : Nat → Int) (gv6 : Nat → Int) (x9 : Int) (x15 : Int) (gv16 : Nat → Int) : Option ρ :=
  (if (decide (x15 < ((((f0 1)).toNat : Nat) : Int))) = true then (impl_PrimitiveSpace_c1 N (fun rv17 => (if (0 : Int) ≤ x15 ∧ x15 < ((((f0 1)).toNat : Nat) : Int) then (rec ((IntKind.i64.wrap (x15 + 1))) (upd gv16 (0 + (x15.toNat * 1)) rv17)) else none)) x9 x15 gv2 gv3 gv4 gv5 gv6) else (out0 gv16))
def impl_kernel_f.a1_0 {ρ : Type} (N : Nat) (K0 : Nat → (Nat → Int) → Option ρ) (rec : Int → Nat → Nat → (Nat → Nat) → (Nat → Nat) → (Nat → Int) → Option ρ) (out0 : Nat → Nat → (Nat → Nat) → (Nat → Nat) → (Nat → Int) → Option ρ) (f0 : Nat → Int) (rv7 : Nat → Int) (rv8 : Nat → Int) (x9 : Int) (gv10 : Nat) (gv11 : Nat) (gv12 : Nat → Nat) (gv13 : Nat → Nat) (gv14 : Nat → Int) (ov18 : Nat → Int) : Option ρ :=
  (impl_system_add_s_v2 N (fun rv19 rv20 rv21 rv22 rv23 => (rec ((IntKind.i64.wrap (x9 + 1))) rv19 rv20 rv21 rv22 rv23)) ((f0 1)).toNat ((f0 1)).toNat 0 rv7 rv8 gv10 (((f0 1)).toNat * 1) (fun z => (ov18 (0 + z))) gv11 gv12 gv13 gv14)
def impl_kernel_f.b0 {ρ : Type} (N : Nat) (K0 : Nat → (Nat → Int) → Option ρ) (lp1 : Int → (Nat → Int) → Option ρ) (rec : Int → Nat → Nat → (Nat → Nat) → (Nat → Nat) → (Nat → Int) → Option ρ) (out0 : Nat → Nat → (Nat → Nat) → (Nat → Nat) → (Nat → Int) → Option ρ) (f0 : Nat → Int) (forms1 : Int) (x9 : Int) (gv10 : Nat) (gv11 : Nat) (gv12 : Nat → Nat) (gv13 : Nat → Nat) (gv14 : Nat → Int) : Option ρ :=
  (if (decide (x9 < forms1)) = true then (if (0 : Int) ≤ (f0 1) ∧ (f0 1) ≤ (f0 1) ∧ (8 : Int) * (f0 1) ≤ 1099511627776 ∧ (f0 1) ≤ 1099511627776 then (lp1 0 (fun _ => 0)) else none) else (out0 gv10 gv11 gv12 gv13 gv14))
def impl_kernel_f.a0_0 {ρ : Type} (N : Nat) (K0 : Nat → (Nat → Int) → Option ρ) (rv7 : Nat → Int) (rv8 : Nat → Int) (ov24 : Nat) (ov25 : Nat) (ov26 : Nat → Nat) (ov27 : Nat → Nat) (ov28 : Nat → Int) : Option ρ :=
  (impl_system_solve N (fun rv29 rv30 rv31 rv32 rv33 rv34 rv35 rv36 => (impl_system_spaces N (fun rv37 rv38 => (K0 rv37 rv38)) rv7 rv8 rv30 rv31 (rv30 * 1) rv32 (offN 0 rv33) (offN 0 rv34) (rv31 * 1) (fun z => (rv36 (0 + z))) rv35)) rv7 rv8 ov24 ov25 ov26 ov27 ov28)
def impl_kernel_f.l1 {ρ : Type} (N : Nat) (K0 : Nat → (Nat → Int) → Option ρ) (f0 : Nat → Int) (gv2 : Nat → Int) (gv3 : Nat → Int) (gv4 : Nat → Int) (gv5 : Nat → Int) (gv6 : Nat → Int) (x9 : Int) (out0 : (Nat → Int) → Option ρ) : Nat → Int → (Nat → Int) → Option ρ
  | 0, _, _ => none
  | m + 1, x15, gv16 => (impl_kernel_f.b1 N K0 ((impl_kernel_f.l1 N K0 f0 gv2 gv3 gv4 gv5 gv6 x9 out0 m)) out0 f0 gv2 gv3 gv4 gv5 gv6 x9 x15 gv16)
def impl_kernel_f.l0 {ρ : Type} (N : Nat) (K0 : Nat → (Nat → Int) → Option ρ) (f0 : Nat → Int) (forms1 : Int) (gv2 : Nat → Int) (gv3 : Nat → Int) (gv4 : Nat → Int) (gv5 : Nat → Int) (gv6 : Nat → Int) (rv7 : Nat → Int) (rv8 : Nat → Int) (out0 : Nat → Nat → (Nat → Nat) → (Nat → Nat) → (Nat → Int) → Option ρ) : Nat → Int → Nat → Nat → (Nat → Nat) → (Nat → Nat) → (Nat → Int) → Option ρ
  | 0, _, _, _, _, _, _ => none
  | m + 1, x9, gv10, gv11, gv12, gv13, gv14 => (impl_kernel_f.b0 N K0 (fun x15 gv16 => (impl_kernel_f.l1 N K0 f0 gv2 gv3 gv4 gv5 gv6 x9 (fun ov18 => (impl_kernel_f.a1_0 N K0 (impl_kernel_f.l0 N K0 f0 forms1 gv2 gv3 gv4 gv5 gv6 rv7 rv8 out0 m) out0 f0 rv7 rv8 x9 gv10 gv11 gv12 gv13 gv14 ov18)) N x15 gv16)) ((impl_kernel_f.l0 N K0 f0 forms1 gv2 gv3 gv4 gv5 gv6 rv7 rv8 out0 m)) out0 f0 forms1 x9 gv10 gv11 gv12 gv13 gv14)
def impl_kernel_f.s {ρ : Type} (N : Nat) (K0 : Nat → (Nat → Int) → Option ρ) (lp0 : (Nat → Int) → (Nat → Int) → Int → Nat → Nat → (Nat → Nat) → (Nat → Nat) → (Nat → Int) → Option ρ) (f0 : Nat → Int) : Option ρ :=
  (impl_newSystem N (fun rv7 rv8 => (lp0 rv7 rv8 0 0 0 (fun _ => 0) (fun _ => 0) (fun _ => 0))) ((f0 0)) ((f0 1)))
def impl_kernel_f {ρ : Type} (N : Nat) (K0 : Nat → (Nat → Int) → Option ρ) (f0 : Nat → Int) (forms1 : Int) (gv2 : Nat → Int) (gv3 : Nat → Int) (gv4 : Nat → Int) (gv5 : Nat → Int) (gv6 : Nat → Int) : Option ρ :=
  (impl_kernel_f.s N K0 (fun rv7 rv8 x9 gv10 gv11 gv12 gv13 gv14 => (impl_kernel_f.l0 N K0 f0 forms1 gv2 gv3 gv4 gv5 gv6 rv7 rv8 (fun ov24 ov25 ov26 ov27 ov28 => (impl_kernel_f.a0_0 N K0 rv7 rv8 ov24 ov25 ov26 ov27 ov28)) N x9 gv10 gv11 gv12 gv13 gv14)) f0)
def impl_Coalgebra_coproduct.b1 {ρ : Type} (N : Nat) (K0 : (Nat → Int) → Option ρ) (rec : Int → (Nat → Int) → Option ρ) (out0 : (Nat → Int) → Option ρ) (v0 : Nat → Int) (gv2 : Nat → Int) (rv3 : Nat → Int) (x4 : Int) (x6 : Int) (gv7 : Nat → Int) : Option ρ :=
  (if (decide (x6 < (rv3 1))) = true then (if (0 : Int) ≤ x6 ∧ x6 < 8 then (if (0 : Int) ≤ x4 ∧ x4 < 8 then (if (0 : Int) ≤ x6 ∧ x6 < 8 then (impl_field_plus N (fun rv8 => (rec ((IntKind.i64.wrap (x6 + 1))) (updN gv7 (x6.toNat * 8) 8 rv8))) rv3 ((IntKind.i64.wrap (v0 x4.toNat))) (fun z => (gv2 (((8 + (x4.toNat * 64)) + (x6.toNat * 8)) + z))) (fun z => (gv7 ((x6.toNat * 8) + z)))) else none) else none) else none) else (out0 gv7))
def impl_Coalgebra_coproduct.a1_0 {ρ : Type} (N : Nat) (K0 : (Nat → Int) → Option ρ) (rec : Int → (Nat → Int) → Option ρ) (out0 : (Nat → Int) → Option ρ) (x4 : Int) (ov9 : Nat → Int) : Option ρ :=
  (rec ((IntKind.i64.wrap (x4 + 1))) ov9)
def impl_Coalgebra_coproduct.b0 {ρ : Type} (N : Nat) (K0 : (Nat → Int) → Option ρ) (lp1 : Int → (Nat → Int) → Option ρ) (rec : Int → (Nat → Int) → Option ρ) (out0 : (Nat → Int) → Option ρ) (x4 : Int) (gv5 : Nat → Int) : Option ρ :=
  (if (decide (x4 < 8)) = true then (if (0 : Int) ≤ x4 ∧ x4 < 8 then (lp1 0 gv5) else none) else (out0 gv5))
def impl_Coalgebra_coproduct.a0_0 {ρ : Type} (N : Nat) (K0 : (Nat → Int) → Option ρ) (ov10 : Nat → Int) : Option ρ :=
  (K0 ov10)
def impl_Coalgebra_coproduct.l1 {ρ : Type} (N : Nat) (K0 : (Nat → Int) → Option ρ) (v0 : Nat → Int) (gv2 : Nat → Int) (rv3 : Nat → Int) (x4 : Int) (out0 : (Nat → Int) → Option ρ) : Nat → Int → (Nat → Int) → Option ρ
  | 0, _, _ => none
  | m + 1, x6, gv7 => (impl_Coalgebra_coproduct.b1 N K0 ((impl_Coalgebra_coproduct.l1 N K0 v0 gv2 rv3 x4 out0 m)) out0 v0 gv2 rv3 x4 x6 gv7)
def impl_Coalgebra_coproduct.l0 {ρ : Type} (N : Nat) (K0 : (Nat → Int) → Option ρ) (v0 : Nat → Int) (gv2 : Nat → Int) (rv3 : Nat → Int) (out0 : (Nat → Int) → Option ρ) : Nat → Int → (Nat → Int) → Option ρ
  | 0, _, _ => none
  | m + 1, x4, gv5 => (impl_Coalgebra_coproduct.b0 N K0 (fun x6 gv7 => (impl_Coalgebra_coproduct.l1 N K0 v0 gv2 rv3 x4 (fun ov9 => (impl_Coalgebra_coproduct.a1_0 N K0 (impl_Coalgebra_coproduct.l0 N K0 v0 gv2 rv3 out0 m) out0 x4 ov9)) N x6 gv7)) ((impl_Coalgebra_coproduct.l0 N K0 v0 gv2 rv3 out0 m)) out0 x4 gv5)
def impl_Coalgebra_coproduct.s {ρ : Type} (N : Nat) (K0 : (Nat → Int) → Option ρ) (lp0 : (Nat → Int) → Int → (Nat → Int) → Option ρ) (gv1 : Nat → Int) (gv2 : Nat → Int) : Option ρ :=
  (impl_Coalgebra_field N (fun rv3 => (lp0 rv3 0 (fun _ => 0))) gv1 gv2)
def impl_Coalgebra_coproduct {ρ : Type} (N : Nat) (K0 : (Nat → Int) → Option ρ) (v0 : Nat → Int) (gv1 : Nat → Int) (gv2 : Nat → Int) : Option ρ :=
  (impl_Coalgebra_coproduct.s N K0 (fun rv3 x4 gv5 => (impl_Coalgebra_coproduct.l0 N K0 v0 gv2 rv3 (fun ov10 => (impl_Coalgebra_coproduct.a0_0 N K0 ov10)) N x4 gv5)) gv1 gv2)
def impl_field_times {ρ : Type} (N : Nat) (K0 : (Nat → Int) → Option ρ) (f0 : Nat → Int) (k1 : Int) (w2 : Nat → Int) : Option ρ :=
  (impl_field_plus N (fun rv3 => (K0 rv3)) f0 k1 w2 (fun _ => 0))
def impl_field_pair.b0 {ρ : Type} (N : Nat) (K0 : (Nat → Int) → Option ρ) (rec : Int → (Nat → Int) → Option ρ) (out0 : (Nat → Int) → Option ρ) (f0 : Nat → Int) (v1 : Nat → Int) (w2 : Nat → Int) (x3 : Int) (gv4 : Nat → Int) : Option ρ :=
  (if (decide (x3 < 8)) = true then (if (0 : Int) ≤ x3 ∧ x3 < 8 then (impl_field_times N (fun rv5 => (if (0 : Int) ≤ x3 ∧ x3 < 8 then (rec ((IntKind.i64.wrap (x3 + 1))) (updN gv4 (x3.toNat * 8) 8 rv5)) else none)) f0 ((IntKind.i64.wrap (v1 x3.toNat))) w2) else none) else (out0 gv4))
def impl_field_pair.a0_0 {ρ : Type} (N : Nat) (K0 : (Nat → Int) → Option ρ) (ov6 : Nat → Int) : Option ρ :=
  (K0 ov6)
def impl_field_pair.l0 {ρ : Type} (N : Nat) (K0 : (Nat → Int) → Option ρ) (f0 : Nat → Int) (v1 : Nat → Int) (w2 : Nat → Int) (out0 : (Nat → Int) → Option ρ) : Nat → Int → (Nat → Int) → Option ρ
  | 0, _, _ => none
  | m + 1, x3, gv4 => (impl_field_pair.b0 N K0 ((impl_field_pair.l0 N K0 f0 v1 w2 out0 m)) out0 f0 v1 w2 x3 gv4)
def impl_field_pair.s {ρ : Type} (N : Nat) (K0 : (Nat → Int) → Option ρ) (lp0 : Int → (Nat → Int) → Option ρ) : Option ρ :=
  (lp0 0 (fun _ => 0))
def impl_field_pair {ρ : Type} (N : Nat) (K0 : (Nat → Int) → Option ρ) (f0 : Nat → Int) (v1 : Nat → Int) (w2 : Nat → Int) : Option ρ :=
  (impl_field_pair.s N K0 (fun x3 gv4 => (impl_field_pair.l0 N K0 f0 v1 w2 (fun ov6 => (impl_field_pair.a0_0 N K0 ov6)) N x3 gv4)))
def impl_Coalgebra_isGroupLike {ρ : Type} (N : Nat) (K0 : Bool → Option ρ) (v0 : Nat → Int) (gv1 : Nat → Int) (gv2 : Nat → Int) : Option ρ :=
  (impl_Coalgebra_field N (fun rv3 => (impl_field_dot N (fun rv4 => (if (rv4 == 1) = true then (impl_Coalgebra_coproduct N (fun rv5 => (impl_field_pair N (fun rv6 => (K0 ((eqN 64 rv5 rv6)))) rv3 v0 v0)) v0 gv1 gv2) else (K0 false))) rv3 (fun z => (gv2 (0 + z))) v0)) gv1 gv2)
def impl_PrimitiveSpace {ρ : Type} (N : Nat) (K0 : Nat → Int → (Nat → Int) → Option ρ) (c0 : Nat → Int) (c1 : Nat → Int) (gv2 : Nat → Int) (h3 : Nat → Int) : Option ρ :=
  (impl_Coalgebra_code_s N (fun rv4 => (if (rv4 != 0) = true then (impl_unless N (fun rv5 => (impl_first_s N (fun rv6 => (if (rv6 != 0) = true then (K0 0 rv6 (fun _ => 0)) else (impl_Coalgebra_field N (fun rv7 => (impl_kernel_f N (fun rv8 rv9 => (K0 rv8 0 rv9)) rv7 ((IntKind.i64.wrap ((rv7 1) * (rv7 1)))) rv7 c0 c1 gv2 h3)) c0 c1))) 2 2 2 (fun z => ((upd (upd (fun _ => 0) 0 rv4) 1 rv5) (0 + z))))) true 5) else (impl_Coalgebra_isGroupLike N (fun rv10 => (if rv10 = true then (impl_Coalgebra_isGroupLike N (fun rv11 => (impl_unless N (fun rv12 => (impl_first_s N (fun rv13 => (if (rv13 != 0) = true then (K0 0 rv13 (fun _ => 0)) else (impl_Coalgebra_field N (fun rv14 => (impl_kernel_f N (fun rv15 rv16 => (K0 rv15 0 rv16)) rv14 ((IntKind.i64.wrap ((rv14 1) * (rv14 1)))) rv14 c0 c1 gv2 h3)) c0 c1))) 2 2 2 (fun z => ((upd (upd (fun _ => 0) 0 rv4) 1 rv12) (0 + z))))) (rv11) 5)) h3 c0 c1) else (impl_unless N (fun rv17 => (impl_first_s N (fun rv18 => (if (rv18 != 0) = true then (K0 0 rv18 (fun _ => 0)) else (impl_Coalgebra_field N (fun rv19 => (impl_kernel_f N (fun rv20 rv21 => (K0 rv20 0 rv21)) rv19 ((IntKind.i64.wrap ((rv19 1) * (rv19 1)))) rv19 c0 c1 gv2 h3)) c0 c1))) 2 2 2 (fun z => ((upd (upd (fun _ => 0) 0 rv4) 1 rv17) (0 + z))))) false 5))) gv2 c0 c1))) 2 2 c0 c1 16 (fun z => ((updN (updN (fun _ => 0) 0 8 gv2) 8 8 h3) (0 + z))))
def laws_eqVector.b0 {ρ : Type} (N : Nat) (K0 : Bool → Option ρ) (rec : Int → Option ρ) (out0 : Option ρ) (av0 : Nat → Int) (bv1 : Nat → Int) (i2 : Int) : Option ρ :=
  (if (decide (i2 < 8)) = true then (if (0 : Int) ≤ i2 ∧ i2 < 8 then (if (0 : Int) ≤ i2 ∧ i2 < 8 then (if ((av0 (i2.toNat * 1)) != (bv1 (i2.toNat * 1))) = true then (K0 false) else (rec ((IntKind.i64.wrap (i2 + 1))))) else none) else none) else out0)
def laws_eqVector.a0_0 {ρ : Type} (N : Nat) (K0 : Bool → Option ρ) : Option ρ :=
  (K0 true)
def laws_eqVector.l0 {ρ : Type} (N : Nat) (K0 : Bool → Option ρ) (av0 : Nat → Int) (bv1 : Nat → Int) (out0 : Option ρ) : Nat → Int → Option ρ
  | 0, _ => none
  | m + 1, i2 => (laws_eqVector.b0 N K0 ((laws_eqVector.l0 N K0 av0 bv1 out0 m)) out0 av0 bv1 i2)
def laws_eqVector.s {ρ : Type} (N : Nat) (K0 : Bool → Option ρ) (lp0 : Int → Option ρ) : Option ρ :=
  (lp0 0)
def laws_eqVector {ρ : Type} (N : Nat) (K0 : Bool → Option ρ) (av0 : Nat → Int) (bv1 : Nat → Int) : Option ρ :=
  (laws_eqVector.s N K0 (fun i2 => (laws_eqVector.l0 N K0 av0 bv1 (laws_eqVector.a0_0 N K0) N i2)))
def laws_eqVectorS_susu.b0 {ρ : Type} (N : Nat) (K0 : Bool → Option ρ) (rec : Int → Option ρ) (out0 : Option ρ) (av0 : Nat) (bv1 : Nat) (gv3 : Nat → Int) (gv5 : Nat → Int) (i6 : Int) : Option ρ :=
  (if (decide (i6 < (av0 : Int))) = true then (if (0 : Int) ≤ i6 ∧ i6 < (av0 : Int) then (if (0 : Int) ≤ i6 ∧ i6 < (bv1 : Int) then (laws_eqVector N (fun rv7 => (if (!rv7) = true then (K0 false) else (rec ((IntKind.i64.wrap (i6 + 1)))))) (fun z => (gv3 ((0 + (i6.toNat * 8)) + z))) (fun z => (gv5 ((0 + (i6.toNat * 8)) + z)))) else none) else none) else out0)
def laws_eqVectorS_susu.a0_0 {ρ : Type} (N : Nat) (K0 : Bool → Option ρ) : Option ρ :=
  (K0 true)
def laws_eqVectorS_susu.l0 {ρ : Type} (N : Nat) (K0 : Bool → Option ρ) (av0 : Nat) (bv1 : Nat) (gv3 : Nat → Int) (gv5 : Nat → Int) (out0 : Option ρ) : Nat → Int → Option ρ
  | 0, _ => none
  | m + 1, i6 => (laws_eqVectorS_susu.b0 N K0 ((laws_eqVectorS_susu.l0 N K0 av0 bv1 gv3 gv5 out0 m)) out0 av0 bv1 gv3 gv5 i6)
def laws_eqVectorS_susu.s {ρ : Type} (N : Nat) (K0 : Bool → Option ρ) (lp0 : Int → Option ρ) (av0 : Nat) (bv1 : Nat) : Option ρ :=
  (if ((av0 : Int) != (bv1 : Int)) = true then (K0 false) else (lp0 0))
def laws_eqVectorS_susu {ρ : Type} (N : Nat) (K0 : Bool → Option ρ) (av0 : Nat) (bv1 : Nat) (gv2 : Nat) (gv3 : Nat → Int) (gv4 : Nat) (gv5 : Nat → Int) : Option ρ :=
  (laws_eqVectorS_susu.s N K0 (fun i6 => (laws_eqVectorS_susu.l0 N K0 av0 bv1 gv3 gv5 (laws_eqVectorS_susu.a0_0 N K0) N i6)) av0 bv1)
def laws_markVectorS_su.b1 {ρ : Type} (N : Nat) (K0 : Int → (Nat → Int) → Option ρ) (rec : Int → Int → (Nat → Int) → Option ρ) (out0 : Int → (Nat → Int) → Option ρ) (av0 : Nat) (i5 : Int) (k7 : Int) (j8 : Int) (gv9 : Nat → Int) : Option ρ :=
  (if (decide (j8 < 8)) = true then (if (0 : Int) ≤ i5 ∧ i5 < (av0 : Int) then (if (0 : Int) ≤ j8 ∧ j8 < 8 then (rec ((IntKind.i64.wrap (k7 + 1))) ((IntKind.i64.wrap (j8 + 1))) (upd gv9 ((0 + (i5.toNat * 8)) + (j8.toNat * 1)) (IntKind.u8.wrap k7))) else none) else none) else (out0 k7 gv9))
def laws_markVectorS_su.a1_0 {ρ : Type} (N : Nat) (K0 : Int → (Nat → Int) → Option ρ) (rec : Int → Int → (Nat → Int) → Option ρ) (out0 : Int → (Nat → Int) → Option ρ) (i5 : Int) (ov10 : Int) (ov11 : Nat → Int) : Option ρ :=
  (rec ov10 ((IntKind.i64.wrap (i5 + 1))) ov11)
def laws_markVectorS_su.b0 {ρ : Type} (N : Nat) (K0 : Int → (Nat → Int) → Option ρ) (lp1 : Int → Int → (Nat → Int) → Option ρ) (rec : Int → Int → (Nat → Int) → Option ρ) (out0 : Int → (Nat → Int) → Option ρ) (av0 : Nat) (k4 : Int) (i5 : Int) (gv6 : Nat → Int) : Option ρ :=
  (if (decide (i5 < (av0 : Int))) = true then (lp1 k4 0 gv6) else (out0 k4 gv6))
def laws_markVectorS_su.a0_0 {ρ : Type} (N : Nat) (K0 : Int → (Nat → Int) → Option ρ) (ov12 : Int) (ov13 : Nat → Int) : Option ρ :=
  (K0 ov12 ov13)
def laws_markVectorS_su.l1 {ρ : Type} (N : Nat) (K0 : Int → (Nat → Int) → Option ρ) (av0 : Nat) (i5 : Int) (out0 : Int → (Nat → Int) → Option ρ) : Nat → Int → Int → (Nat → Int) → Option ρ
  | 0, _, _, _ => none
  | m + 1, k7, j8, gv9 => (laws_markVectorS_su.b1 N K0 ((laws_markVectorS_su.l1 N K0 av0 i5 out0 m)) out0 av0 i5 k7 j8 gv9)
def laws_markVectorS_su.l0 {ρ : Type} (N : Nat) (K0 : Int → (Nat → Int) → Option ρ) (av0 : Nat) (out0 : Int → (Nat → Int) → Option ρ) : Nat → Int → Int → (Nat → Int) → Option ρ
  | 0, _, _, _ => none
  | m + 1, k4, i5, gv6 => (laws_markVectorS_su.b0 N K0 (fun k7 j8 gv9 => (laws_markVectorS_su.l1 N K0 av0 i5 (fun ov10 ov11 => (laws_markVectorS_su.a1_0 N K0 (laws_markVectorS_su.l0 N K0 av0 out0 m) out0 i5 ov10 ov11)) N k7 j8 gv9)) ((laws_markVectorS_su.l0 N K0 av0 out0 m)) out0 av0 k4 i5 gv6)
def laws_markVectorS_su.s {ρ : Type} (N : Nat) (K0 : Int → (Nat → Int) → Option ρ) (lp0 : Int → Int → (Nat → Int) → Option ρ) (k1 : Int) (gv3 : Nat → Int) : Option ρ :=
  (lp0 k1 0 gv3)
def laws_markVectorS_su {ρ : Type} (N : Nat) (K0 : Int → (Nat → Int) → Option ρ) (av0 : Nat) (k1 : Int) (gv2 : Nat) (gv3 : Nat → Int) : Option ρ :=
  (laws_markVectorS_su.s N K0 (fun k4 i5 gv6 => (laws_markVectorS_su.l0 N K0 av0 (fun ov12 ov13 => (laws_markVectorS_su.a0_0 N K0 ov12 ov13)) N k4 i5 gv6)) k1 gv3)
def laws_heldVectorS_su.b1 {ρ : Type} (N : Nat) (K0 : Int → Option ρ) (rec : Int → Int → Option ρ) (out0 : Int → Option ρ) (av0 : Nat) (gv3 : Nat → Int) (i5 : Int) (k6 : Int) (j7 : Int) : Option ρ :=
  (if (decide (j7 < 8)) = true then (if (0 : Int) ≤ i5 ∧ i5 < (av0 : Int) then (if (0 : Int) ≤ j7 ∧ j7 < 8 then (if ((gv3 ((0 + (i5.toNat * 8)) + (j7.toNat * 1))) != (IntKind.u8.wrap k6)) = true then (K0 (-1)) else (rec ((IntKind.i64.wrap (k6 + 1))) ((IntKind.i64.wrap (j7 + 1))))) else none) else none) else (out0 k6))
def laws_heldVectorS_su.a1_0 {ρ : Type} (N : Nat) (K0 : Int → Option ρ) (rec : Int → Int → Option ρ) (out0 : Int → Option ρ) (i5 : Int) (ov8 : Int) : Option ρ :=
  (rec ov8 ((IntKind.i64.wrap (i5 + 1))))
def laws_heldVectorS_su.b0 {ρ : Type} (N : Nat) (K0 : Int → Option ρ) (lp1 : Int → Int → Option ρ) (rec : Int → Int → Option ρ) (out0 : Int → Option ρ) (av0 : Nat) (k4 : Int) (i5 : Int) : Option ρ :=
  (if (decide (i5 < (av0 : Int))) = true then (lp1 k4 0) else (out0 k4))
def laws_heldVectorS_su.a0_0 {ρ : Type} (N : Nat) (K0 : Int → Option ρ) (ov9 : Int) : Option ρ :=
  (K0 ov9)
def laws_heldVectorS_su.l1 {ρ : Type} (N : Nat) (K0 : Int → Option ρ) (av0 : Nat) (gv3 : Nat → Int) (i5 : Int) (out0 : Int → Option ρ) : Nat → Int → Int → Option ρ
  | 0, _, _ => none
  | m + 1, k6, j7 => (laws_heldVectorS_su.b1 N K0 ((laws_heldVectorS_su.l1 N K0 av0 gv3 i5 out0 m)) out0 av0 gv3 i5 k6 j7)
def laws_heldVectorS_su.l0 {ρ : Type} (N : Nat) (K0 : Int → Option ρ) (av0 : Nat) (gv3 : Nat → Int) (out0 : Int → Option ρ) : Nat → Int → Int → Option ρ
  | 0, _, _ => none
  | m + 1, k4, i5 => (laws_heldVectorS_su.b0 N K0 (fun k6 j7 => (laws_heldVectorS_su.l1 N K0 av0 gv3 i5 (fun ov8 => (laws_heldVectorS_su.a1_0 N K0 (laws_heldVectorS_su.l0 N K0 av0 gv3 out0 m) out0 i5 ov8)) N k6 j7)) ((laws_heldVectorS_su.l0 N K0 av0 gv3 out0 m)) out0 av0 k4 i5)
def laws_heldVectorS_su.s {ρ : Type} (N : Nat) (K0 : Int → Option ρ) (lp0 : Int → Int → Option ρ) (k1 : Int) : Option ρ :=
  (lp0 k1 0)
def laws_heldVectorS_su {ρ : Type} (N : Nat) (K0 : Int → Option ρ) (av0 : Nat) (k1 : Int) (gv2 : Nat) (gv3 : Nat → Int) : Option ρ :=
  (laws_heldVectorS_su.s N K0 (fun k4 i5 => (laws_heldVectorS_su.l0 N K0 av0 gv3 (fun ov9 => (laws_heldVectorS_su.a0_0 N K0 ov9)) N k4 i5)) k1)
def laws_FnExactPrimitiveSpace {ρ : Type} (N : Nat) (K0 : Bool → Option ρ) (aC0 : Nat → Int) (aC1 : Nat → Int) (aG2 : Nat → Int) (aH3 : Nat → Int) : Option ρ :=
  (laws_toCoalgebra N (fun rv4 rv5 => (laws_toVector N (fun rv6 => (laws_toVector N (fun rv7 => (spec_PrimitiveSpace N (fun rv8 rv9 rv10 => (laws_toCoalgebra N (fun rv11 rv12 => (laws_toVector N (fun rv13 => (laws_toVector N (fun rv14 => (impl_PrimitiveSpace N (fun rv15 rv16 rv17 => (laws_eqVectorS_susu N (fun rv18 => (if (!rv18) = true then (K0 false) else (if (rv16 != rv9) = true then (K0 false) else (laws_markVectorS_su N (fun rv19 rv20 => (laws_heldVectorS_su N (fun rv21 => (if (decide (rv21 < 0)) = true then (K0 false) else (if (rv21 != rv19) = true then (K0 false) else (laws_toCoalgebra N (fun rv22 rv23 => (laws_toVector N (fun rv24 => (laws_toVector N (fun rv25 => (impl_PrimitiveSpace N (fun rv26 rv27 rv28 => (laws_eqVectorS_susu N (fun rv29 => (if (!rv29) = true then (K0 false) else (if (rv27 != rv9) = true then (K0 false) else (laws_heldVectorS_su N (fun rv30 => (if (decide (rv30 < 0)) = true then (K0 false) else (if (rv30 != rv19) = true then (K0 false) else (K0 true)))) rv15 101 (rv15 * 8) (fun z => ((updN rv17 0 (rv15 * 8) rv20) (0 + z))))))) rv26 rv8 (rv26 * 8) (fun z => (rv28 (0 + z))) (rv8 * 8) (fun z => (rv10 (0 + z))))) rv22 rv23 rv24 rv25)) aH3)) aG2)) aC0 aC1)))) rv15 101 (rv15 * 8) (fun z => ((updN rv17 0 (rv15 * 8) rv20) (0 + z))))) rv15 101 (rv15 * 8) (fun z => (rv17 (0 + z))))))) rv15 rv8 (rv15 * 8) (fun z => (rv17 (0 + z))) (rv8 * 8) (fun z => (rv10 (0 + z))))) rv11 rv12 rv13 rv14)) aH3)) aG2)) aC0 aC1)) rv4 rv5 rv6 rv7)) aH3)) aG2)) aC0 aC1)
end
end Go.Proofs.Ythecjjnieojjoaa.H
