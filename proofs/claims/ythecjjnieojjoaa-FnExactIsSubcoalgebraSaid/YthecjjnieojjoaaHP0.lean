/- The functions that the program computes, in plain Lean. -/
import Derived.Test.YthecjjnieojjoaaHyUse
namespace Go.Proofs.Ythecjjnieojjoaa.H
set_option linter.unusedVariables false
set_option linter.unusedSimpArgs false
open Go Go.RowKit Go.Proofs.Ythecjjnieojjoaa.Hy
set_option linter.unusedVariables false
set_option maxRecDepth 100000
noncomputable def laws_szVectorS_su {ρ : Type} (N : Nat) (K0 : Int → Option ρ) (av0 : Nat) (left1 : Int) (gv2 : Nat) (gv3 : Nat → Int) : Option ρ :=
  (if (decide ((IntKind.i64.wrap (left1 - (av0 : Int))) < 0)) = true then (K0 (-1)) else (K0 ((IntKind.i64.wrap (left1 - (av0 : Int))))))

noncomputable def laws_toVector.b0 {ρ : Type} (N : Nat) (K0 : (Nat → Int) → Option ρ) (rec : Int → (Nat → Int) → Option ρ) (out0 : (Nat → Int) → Option ρ) (av0 : Nat → Int) (i1 : Int) (gv2 : Nat → Int) : Option ρ :=
  (if (decide (i1 < 8)) = true then (if (0 : Int) ≤ i1 ∧ i1 < 8 then (if (0 : Int) ≤ i1 ∧ i1 < 8 then (rec ((IntKind.i64.wrap (i1 + 1))) (upd gv2 (i1.toNat * 1) (av0 (i1.toNat * 1)))) else none) else none) else (out0 gv2))

noncomputable def laws_toVector.a0_0 {ρ : Type} (N : Nat) (K0 : (Nat → Int) → Option ρ) (ov3 : Nat → Int) : Option ρ :=
  (K0 ov3)

noncomputable def laws_toVector.l0 {ρ : Type} (N : Nat) (K0 : (Nat → Int) → Option ρ) (av0 : Nat → Int) (out0 : (Nat → Int) → Option ρ) : Nat → Int → (Nat → Int) → Option ρ
  | 0, _, _ => none
  | m + 1, i1, gv2 => (laws_toVector.b0 N K0 ((laws_toVector.l0 N K0 av0 out0 m)) out0 av0 i1 gv2)

noncomputable def laws_toVector.s {ρ : Type} (N : Nat) (K0 : (Nat → Int) → Option ρ) (lp0 : Int → (Nat → Int) → Option ρ) : Option ρ :=
  (lp0 0 (fun _ => 0))

noncomputable def laws_toVector {ρ : Type} (N : Nat) (K0 : (Nat → Int) → Option ρ) (av0 : Nat → Int) : Option ρ :=
  (laws_toVector.s N K0 (fun i1 gv2 => (laws_toVector.l0 N K0 av0 (fun ov3 => (laws_toVector.a0_0 N K0 ov3)) N i1 gv2)))

noncomputable def laws_toLinear.b0 {ρ : Type} (N : Nat) (K0 : (Nat → Int) → Option ρ) (rec : Int → (Nat → Int) → Option ρ) (out0 : (Nat → Int) → Option ρ) (av0 : Nat → Int) (i1 : Int) (gv2 : Nat → Int) : Option ρ :=
  (if (decide (i1 < 8)) = true then (if (0 : Int) ≤ i1 ∧ i1 < 8 then (laws_toVector N (fun rv3 => (if (0 : Int) ≤ i1 ∧ i1 < 8 then (rec ((IntKind.i64.wrap (i1 + 1))) (updN gv2 (i1.toNat * 8) 8 rv3)) else none)) (fun z => (av0 ((i1.toNat * 8) + z)))) else none) else (out0 gv2))

noncomputable def laws_toLinear.a0_0 {ρ : Type} (N : Nat) (K0 : (Nat → Int) → Option ρ) (ov4 : Nat → Int) : Option ρ :=
  (K0 ov4)

noncomputable def laws_toLinear.l0 {ρ : Type} (N : Nat) (K0 : (Nat → Int) → Option ρ) (av0 : Nat → Int) (out0 : (Nat → Int) → Option ρ) : Nat → Int → (Nat → Int) → Option ρ
  | 0, _, _ => none
  | m + 1, i1, gv2 => (laws_toLinear.b0 N K0 ((laws_toLinear.l0 N K0 av0 out0 m)) out0 av0 i1 gv2)

noncomputable def laws_toLinear.s {ρ : Type} (N : Nat) (K0 : (Nat → Int) → Option ρ) (lp0 : Int → (Nat → Int) → Option ρ) : Option ρ :=
  (lp0 0 (fun _ => 0))

noncomputable def laws_toLinear {ρ : Type} (N : Nat) (K0 : (Nat → Int) → Option ρ) (av0 : Nat → Int) : Option ρ :=
  (laws_toLinear.s N K0 (fun i1 gv2 => (laws_toLinear.l0 N K0 av0 (fun ov4 => (laws_toLinear.a0_0 N K0 ov4)) N i1 gv2)))

noncomputable def laws_toTable.b0 {ρ : Type} (N : Nat) (K0 : (Nat → Int) → Option ρ) (rec : Int → (Nat → Int) → Option ρ) (out0 : (Nat → Int) → Option ρ) (av0 : Nat → Int) (i1 : Int) (gv2 : Nat → Int) : Option ρ :=
  (if (decide (i1 < 8)) = true then (if (0 : Int) ≤ i1 ∧ i1 < 8 then (laws_toLinear N (fun rv3 => (if (0 : Int) ≤ i1 ∧ i1 < 8 then (rec ((IntKind.i64.wrap (i1 + 1))) (updN gv2 (i1.toNat * 64) 64 rv3)) else none)) (fun z => (av0 ((i1.toNat * 64) + z)))) else none) else (out0 gv2))

noncomputable def laws_toTable.a0_0 {ρ : Type} (N : Nat) (K0 : (Nat → Int) → Option ρ) (ov4 : Nat → Int) : Option ρ :=
  (K0 ov4)

noncomputable def laws_toTable.l0 {ρ : Type} (N : Nat) (K0 : (Nat → Int) → Option ρ) (av0 : Nat → Int) (out0 : (Nat → Int) → Option ρ) : Nat → Int → (Nat → Int) → Option ρ
  | 0, _, _ => none
  | m + 1, i1, gv2 => (laws_toTable.b0 N K0 ((laws_toTable.l0 N K0 av0 out0 m)) out0 av0 i1 gv2)

noncomputable def laws_toTable.s {ρ : Type} (N : Nat) (K0 : (Nat → Int) → Option ρ) (lp0 : Int → (Nat → Int) → Option ρ) : Option ρ :=
  (lp0 0 (fun _ => 0))

noncomputable def laws_toTable {ρ : Type} (N : Nat) (K0 : (Nat → Int) → Option ρ) (av0 : Nat → Int) : Option ρ :=
  (laws_toTable.s N K0 (fun i1 gv2 => (laws_toTable.l0 N K0 av0 (fun ov4 => (laws_toTable.a0_0 N K0 ov4)) N i1 gv2)))

noncomputable def laws_toCoalgebra {ρ : Type} (N : Nat) (K0 : (Nat → Int) → (Nat → Int) → Option ρ) (av0 : Nat → Int) (av1 : Nat → Int) : Option ρ :=
  (laws_toVector N (fun rv2 => (laws_toTable N (fun rv3 => (K0 (upd (upd (fun _ => 0) 0 (av0 0)) 1 (av0 1)) (updN (updN (fun _ => 0) 0 8 rv2) 8 512 rv3))) (fun z => (av1 (8 + z))))) (fun z => (av1 (0 + z))))

noncomputable def laws_roomBehind {ρ : Type} (N : Nat) (K0 : Int → Option ρ) (nv0 : Int) : Option ρ :=
  (if ((Int.tmod nv0 6) == 5) = true then (K0 0) else (if ((Int.tmod nv0 3) == 0) = true then (K0 1) else (K0 nv0)))

noncomputable def laws_toVectorS_su0.b1 {ρ : Type} (N : Nat) (K0 : Nat → Nat → Nat → (Nat → Int) → Option ρ) (rec : Int → (Nat → Int) → Option ρ) (out0 : (Nat → Int) → Option ρ) (av0 : Nat) (rv3 : Int) (i8 : Int) (gv9 : Nat → Int) : Option ρ :=
  (if (decide (i8 < ((((IntKind.i64.wrap ((av0 : Int) + rv3))).toNat : Nat) : Int))) = true then (if (0 : Int) ≤ i8 ∧ i8 < ((((IntKind.i64.wrap ((av0 : Int) + rv3))).toNat : Nat) : Int) then (rec ((IntKind.i64.wrap (i8 + 1))) (updN gv9 (0 + (i8.toNat * 8)) 8 (upd (fun _ => 0) 0 201))) else none) else (out0 gv9))

noncomputable def laws_toVectorS_su0.a1_0 {ρ : Type} (N : Nat) (K0 : Nat → Nat → Nat → (Nat → Int) → Option ρ) (av0 : Nat) (rv3 : Int) (ov10 : Nat → Int) : Option ρ :=
  (if (0 : Int) ≤ (0 : Int) ∧ (0 : Int) ≤ (av0 : Int) ∧ (av0 : Int) ≤ ((((IntKind.i64.wrap ((av0 : Int) + rv3))).toNat : Nat) : Int) then (K0 ((av0 : Int)).toNat ((IntKind.i64.wrap ((av0 : Int) + rv3))).toNat (((IntKind.i64.wrap ((av0 : Int) + rv3))).toNat * 8) ov10) else none)

noncomputable def laws_toVectorS_su0.b0 {ρ : Type} (N : Nat) (K0 : Nat → Nat → Nat → (Nat → Int) → Option ρ) (rec : Int → (Nat → Int) → Option ρ) (out0 : (Nat → Int) → Option ρ) (av0 : Nat) (gv2 : Nat → Int) (rv3 : Int) (i4 : Int) (gv5 : Nat → Int) : Option ρ :=
  (if (decide (i4 < (av0 : Int))) = true then (if (0 : Int) ≤ i4 ∧ i4 < (av0 : Int) then (laws_toVector N (fun rv6 => (if (0 : Int) ≤ i4 ∧ i4 < ((((IntKind.i64.wrap ((av0 : Int) + rv3))).toNat : Nat) : Int) then (rec ((IntKind.i64.wrap (i4 + 1))) (updN gv5 (0 + (i4.toNat * 8)) 8 rv6)) else none)) (fun z => (gv2 ((0 + (i4.toNat * 8)) + z)))) else none) else (out0 gv5))

noncomputable def laws_toVectorS_su0.a0_0 {ρ : Type} (N : Nat) (K0 : Nat → Nat → Nat → (Nat → Int) → Option ρ) (lp1 : Int → (Nat → Int) → Option ρ) (av0 : Nat) (ov7 : Nat → Int) : Option ρ :=
  (lp1 ((av0 : Int)) ov7)

noncomputable def laws_toVectorS_su0.l1 {ρ : Type} (N : Nat) (K0 : Nat → Nat → Nat → (Nat → Int) → Option ρ) (av0 : Nat) (rv3 : Int) (out0 : (Nat → Int) → Option ρ) : Nat → Int → (Nat → Int) → Option ρ
  | 0, _, _ => none
  | m + 1, i8, gv9 => (laws_toVectorS_su0.b1 N K0 ((laws_toVectorS_su0.l1 N K0 av0 rv3 out0 m)) out0 av0 rv3 i8 gv9)

noncomputable def laws_toVectorS_su0.l0 {ρ : Type} (N : Nat) (K0 : Nat → Nat → Nat → (Nat → Int) → Option ρ) (av0 : Nat) (gv2 : Nat → Int) (rv3 : Int) (out0 : (Nat → Int) → Option ρ) : Nat → Int → (Nat → Int) → Option ρ
  | 0, _, _ => none
  | m + 1, i4, gv5 => (laws_toVectorS_su0.b0 N K0 ((laws_toVectorS_su0.l0 N K0 av0 gv2 rv3 out0 m)) out0 av0 gv2 rv3 i4 gv5)

noncomputable def laws_toVectorS_su0.s {ρ : Type} (N : Nat) (K0 : Nat → Nat → Nat → (Nat → Int) → Option ρ) (lp0 : Int → Int → (Nat → Int) → Option ρ) (av0 : Nat) : Option ρ :=
  (laws_roomBehind N (fun rv3 => (if (0 : Int) ≤ (IntKind.i64.wrap ((av0 : Int) + rv3)) ∧ (IntKind.i64.wrap ((av0 : Int) + rv3)) ≤ (IntKind.i64.wrap ((av0 : Int) + rv3)) ∧ (8 : Int) * (IntKind.i64.wrap ((av0 : Int) + rv3)) ≤ 1099511627776 ∧ (IntKind.i64.wrap ((av0 : Int) + rv3)) ≤ 1099511627776 then (lp0 rv3 0 (fun _ => 0)) else none)) ((av0 : Int)))

noncomputable def laws_toVectorS_su0 {ρ : Type} (N : Nat) (K0 : Nat → Nat → Nat → (Nat → Int) → Option ρ) (av0 : Nat) (gv1 : Nat) (gv2 : Nat → Int) : Option ρ :=
  (laws_toVectorS_su0.s N K0 (fun rv3 i4 gv5 => (laws_toVectorS_su0.l0 N K0 av0 gv2 rv3 (fun ov7 => (laws_toVectorS_su0.a0_0 N K0 (fun i8 gv9 => (laws_toVectorS_su0.l1 N K0 av0 rv3 (fun ov10 => (laws_toVectorS_su0.a1_0 N K0 av0 rv3 ov10)) N i8 gv9)) av0 ov7)) N i4 gv5)) av0)

noncomputable def spec_l01In {ρ : Type} (N : Nat) (K0 : Bool → Option ρ) (nv0 : Int) (low1 : Int) (high2 : Int) : Option ρ :=
  (if (decide (nv0 ≥ low1)) = true then (K0 ((decide (nv0 ≤ high2)))) else (K0 false))

noncomputable def spec_l01Prime.b0 {ρ : Type} (N : Nat) (K0 : Bool → Option ρ) (rec : Int → Option ρ) (out0 : Option ρ) (p0 : Int) (k1 : Int) : Option ρ :=
  (if (decide (k1 < p0)) = true then (if (decide (k1 ≤ 31)) = true then (if k1 = 0 then none else (if ((Int.tmod p0 k1) == 0) = true then (K0 false) else (rec ((IntKind.i64.wrap (k1 + 1)))))) else out0) else out0)

noncomputable def spec_l01Prime.a0_0 {ρ : Type} (N : Nat) (K0 : Bool → Option ρ) (p0 : Int) : Option ρ :=
  (spec_l01In N (fun rv2 => (K0 (rv2))) p0 2 31)

noncomputable def spec_l01Prime.l0 {ρ : Type} (N : Nat) (K0 : Bool → Option ρ) (p0 : Int) (out0 : Option ρ) : Nat → Int → Option ρ
  | 0, _ => none
  | m + 1, k1 => (spec_l01Prime.b0 N K0 ((spec_l01Prime.l0 N K0 p0 out0 m)) out0 p0 k1)

noncomputable def spec_l01Prime.s {ρ : Type} (N : Nat) (K0 : Bool → Option ρ) (lp0 : Int → Option ρ) : Option ρ :=
  (lp0 2)

noncomputable def spec_l01Prime {ρ : Type} (N : Nat) (K0 : Bool → Option ρ) (p0 : Int) : Option ρ :=
  (spec_l01Prime.s N K0 (fun k1 => (spec_l01Prime.l0 N K0 p0 (spec_l01Prime.a0_0 N K0 p0) N k1)))

noncomputable def spec_l01Sizes {ρ : Type} (N : Nat) (K0 : Bool → Option ρ) (p0 : Int) (nv1 : Int) : Option ρ :=
  (spec_l01Prime N (fun rv2 => (if rv2 = true then (spec_l01In N (fun rv3 => (K0 (rv3))) nv1 1 8) else (K0 false))) p0)

noncomputable def spec_l01Vector.b0 {ρ : Type} (N : Nat) (K0 : Bool → Option ρ) (rec : Int → Option ρ) (out0 : Option ρ) (p0 : Int) (nv1 : Int) (v2 : Nat → Int) (i3 : Int) : Option ρ :=
  (if (decide (i3 < 8)) = true then (if (0 : Int) ≤ i3 ∧ i3 < 8 then (if (decide ((IntKind.i64.wrap (v2 (i3.toNat * 1))) ≥ p0)) = true then (K0 false) else (if (decide (i3 ≥ nv1)) = true then (if (0 : Int) ≤ i3 ∧ i3 < 8 then (if ((v2 (i3.toNat * 1)) != 0) = true then (K0 false) else (rec ((IntKind.i64.wrap (i3 + 1))))) else none) else (rec ((IntKind.i64.wrap (i3 + 1)))))) else none) else out0)

noncomputable def spec_l01Vector.a0_0 {ρ : Type} (N : Nat) (K0 : Bool → Option ρ) : Option ρ :=
  (K0 true)

noncomputable def spec_l01Vector.l0 {ρ : Type} (N : Nat) (K0 : Bool → Option ρ) (p0 : Int) (nv1 : Int) (v2 : Nat → Int) (out0 : Option ρ) : Nat → Int → Option ρ
  | 0, _ => none
  | m + 1, i3 => (spec_l01Vector.b0 N K0 ((spec_l01Vector.l0 N K0 p0 nv1 v2 out0 m)) out0 p0 nv1 v2 i3)

noncomputable def spec_l01Vector.s {ρ : Type} (N : Nat) (K0 : Bool → Option ρ) (lp0 : Int → Option ρ) : Option ρ :=
  (lp0 0)

noncomputable def spec_l01Vector {ρ : Type} (N : Nat) (K0 : Bool → Option ρ) (p0 : Int) (nv1 : Int) (v2 : Nat → Int) : Option ρ :=
  (spec_l01Vector.s N K0 (fun i3 => (spec_l01Vector.l0 N K0 p0 nv1 v2 (spec_l01Vector.a0_0 N K0) N i3)))

noncomputable def spec_l01Linear.b0 {ρ : Type} (N : Nat) (K0 : Bool → Option ρ) (rec : Int → Option ρ) (out0 : Option ρ) (p0 : Int) (nv1 : Int) (f2 : Nat → Int) (i3 : Int) : Option ρ :=
  (if (decide (i3 < 8)) = true then (if (0 : Int) ≤ i3 ∧ i3 < 8 then (spec_l01Vector N (fun rv4 => (if (!rv4) = true then (K0 false) else (if (decide (i3 ≥ nv1)) = true then (if (0 : Int) ≤ i3 ∧ i3 < 8 then (if (!eqN 8 (fun z => (f2 ((i3.toNat * 8) + z))) (fun _ => 0)) = true then (K0 false) else (rec ((IntKind.i64.wrap (i3 + 1))))) else none) else (rec ((IntKind.i64.wrap (i3 + 1))))))) p0 nv1 (fun z => (f2 ((i3.toNat * 8) + z)))) else none) else out0)

noncomputable def spec_l01Linear.a0_0 {ρ : Type} (N : Nat) (K0 : Bool → Option ρ) : Option ρ :=
  (K0 true)

noncomputable def spec_l01Linear.l0 {ρ : Type} (N : Nat) (K0 : Bool → Option ρ) (p0 : Int) (nv1 : Int) (f2 : Nat → Int) (out0 : Option ρ) : Nat → Int → Option ρ
  | 0, _ => none
  | m + 1, i3 => (spec_l01Linear.b0 N K0 ((spec_l01Linear.l0 N K0 p0 nv1 f2 out0 m)) out0 p0 nv1 f2 i3)

noncomputable def spec_l01Linear.s {ρ : Type} (N : Nat) (K0 : Bool → Option ρ) (lp0 : Int → Option ρ) : Option ρ :=
  (lp0 0)

noncomputable def spec_l01Linear {ρ : Type} (N : Nat) (K0 : Bool → Option ρ) (p0 : Int) (nv1 : Int) (f2 : Nat → Int) : Option ρ :=
  (spec_l01Linear.s N K0 (fun i3 => (spec_l01Linear.l0 N K0 p0 nv1 f2 (spec_l01Linear.a0_0 N K0) N i3)))

noncomputable def spec_l01Table.b0 {ρ : Type} (N : Nat) (K0 : Bool → Option ρ) (rec : Int → Option ρ) (out0 : Option ρ) (p0 : Int) (nv1 : Int) (t2 : Nat → Int) (i3 : Int) : Option ρ :=
  (if (decide (i3 < 8)) = true then (if (0 : Int) ≤ i3 ∧ i3 < 8 then (spec_l01Linear N (fun rv4 => (if (!rv4) = true then (K0 false) else (if (decide (i3 ≥ nv1)) = true then (if (0 : Int) ≤ i3 ∧ i3 < 8 then (if (!eqN 64 (fun z => (t2 ((i3.toNat * 64) + z))) (fun _ => 0)) = true then (K0 false) else (rec ((IntKind.i64.wrap (i3 + 1))))) else none) else (rec ((IntKind.i64.wrap (i3 + 1))))))) p0 nv1 (fun z => (t2 ((i3.toNat * 64) + z)))) else none) else out0)

noncomputable def spec_l01Table.a0_0 {ρ : Type} (N : Nat) (K0 : Bool → Option ρ) : Option ρ :=
  (K0 true)

noncomputable def spec_l01Table.l0 {ρ : Type} (N : Nat) (K0 : Bool → Option ρ) (p0 : Int) (nv1 : Int) (t2 : Nat → Int) (out0 : Option ρ) : Nat → Int → Option ρ
  | 0, _ => none
  | m + 1, i3 => (spec_l01Table.b0 N K0 ((spec_l01Table.l0 N K0 p0 nv1 t2 out0 m)) out0 p0 nv1 t2 i3)

noncomputable def spec_l01Table.s {ρ : Type} (N : Nat) (K0 : Bool → Option ρ) (lp0 : Int → Option ρ) : Option ρ :=
  (lp0 0)

noncomputable def spec_l01Table {ρ : Type} (N : Nat) (K0 : Bool → Option ρ) (p0 : Int) (nv1 : Int) (t2 : Nat → Int) : Option ρ :=
  (spec_l01Table.s N K0 (fun i3 => (spec_l01Table.l0 N K0 p0 nv1 t2 (spec_l01Table.a0_0 N K0) N i3)))

noncomputable def spec_l02Shape {ρ : Type} (N : Nat) (K0 : Bool → Option ρ) (c0 : Nat → Int) (c1 : Nat → Int) : Option ρ :=
  (spec_l01Sizes N (fun rv2 => (if rv2 = true then (spec_l01Vector N (fun rv3 => (if rv3 = true then (spec_l01Table N (fun rv4 => (K0 (rv4))) ((c0 0)) ((c0 1)) (fun z => (c1 (8 + z)))) else (K0 false))) ((c0 0)) ((c0 1)) (fun z => (c1 (0 + z)))) else (K0 false))) ((c0 0)) ((c0 1)))

noncomputable def spec_l01Mod {ρ : Type} (N : Nat) (K0 : Int → Option ρ) (p0 : Int) (x1 : Int) : Option ρ :=
  (if p0 = 0 then none else (if p0 = 0 then none else (K0 ((IntKind.u8.wrap (Int.tmod (IntKind.i64.wrap ((Int.tmod x1 p0) + p0)) p0))))))

noncomputable def spec_l02Sums.b0 {ρ : Type} (N : Nat) (K0 : Int → Int → Option ρ) (rec : Int → Int → Int → Option ρ) (out0 : Int → Int → Option ρ) (c0 : Nat → Int) (c1 : Nat → Int) (i2 : Int) (j3 : Int) (k4 : Int) (lv5 : Int) (left6 : Int) (right7 : Int) (av8 : Int) : Option ρ :=
  (if (decide (av8 < (c0 1))) = true then (if (0 : Int) ≤ i2 ∧ i2 < 8 then (if (0 : Int) ≤ av8 ∧ av8 < 8 then (if (0 : Int) ≤ lv5 ∧ lv5 < 8 then (if (0 : Int) ≤ av8 ∧ av8 < 8 then (if (0 : Int) ≤ j3 ∧ j3 < 8 then (if (0 : Int) ≤ k4 ∧ k4 < 8 then (if (0 : Int) ≤ i2 ∧ i2 < 8 then (if (0 : Int) ≤ j3 ∧ j3 < 8 then (if (0 : Int) ≤ av8 ∧ av8 < 8 then (if (0 : Int) ≤ av8 ∧ av8 < 8 then (if (0 : Int) ≤ k4 ∧ k4 < 8 then (if (0 : Int) ≤ lv5 ∧ lv5 < 8 then (rec ((IntKind.i64.wrap (left6 + (IntKind.i64.wrap ((IntKind.i64.wrap (c1 (((8 + (i2.toNat * 64)) + (av8.toNat * 8)) + (lv5.toNat * 1)))) * (IntKind.i64.wrap (c1 (((8 + (av8.toNat * 64)) + (j3.toNat * 8)) + (k4.toNat * 1))))))))) ((IntKind.i64.wrap (right7 + (IntKind.i64.wrap ((IntKind.i64.wrap (c1 (((8 + (i2.toNat * 64)) + (j3.toNat * 8)) + (av8.toNat * 1)))) * (IntKind.i64.wrap (c1 (((8 + (av8.toNat * 64)) + (k4.toNat * 8)) + (lv5.toNat * 1))))))))) ((IntKind.i64.wrap (av8 + 1)))) else none) else none) else none) else none) else none) else none) else none) else none) else none) else none) else none) else none) else (out0 left6 right7))

noncomputable def spec_l02Sums.a0_0 {ρ : Type} (N : Nat) (K0 : Int → Int → Option ρ) (c0 : Nat → Int) (ov9 : Int) (ov10 : Int) : Option ρ :=
  (spec_l01Mod N (fun rv11 => (spec_l01Mod N (fun rv12 => (K0 rv11 rv12)) ((c0 0)) ov10)) ((c0 0)) ov9)

noncomputable def spec_l02Sums.l0 {ρ : Type} (N : Nat) (K0 : Int → Int → Option ρ) (c0 : Nat → Int) (c1 : Nat → Int) (i2 : Int) (j3 : Int) (k4 : Int) (lv5 : Int) (out0 : Int → Int → Option ρ) : Nat → Int → Int → Int → Option ρ
  | 0, _, _, _ => none
  | m + 1, left6, right7, av8 => (spec_l02Sums.b0 N K0 ((spec_l02Sums.l0 N K0 c0 c1 i2 j3 k4 lv5 out0 m)) out0 c0 c1 i2 j3 k4 lv5 left6 right7 av8)

noncomputable def spec_l02Sums.s {ρ : Type} (N : Nat) (K0 : Int → Int → Option ρ) (lp0 : Int → Int → Int → Option ρ) : Option ρ :=
  (lp0 0 0 0)

noncomputable def spec_l02Sums {ρ : Type} (N : Nat) (K0 : Int → Int → Option ρ) (c0 : Nat → Int) (c1 : Nat → Int) (i2 : Int) (j3 : Int) (k4 : Int) (lv5 : Int) : Option ρ :=
  (spec_l02Sums.s N K0 (fun left6 right7 av8 => (spec_l02Sums.l0 N K0 c0 c1 i2 j3 k4 lv5 (fun ov9 ov10 => (spec_l02Sums.a0_0 N K0 c0 ov9 ov10)) N left6 right7 av8)))

noncomputable def spec_l02Fault.b0 {ρ : Type} (N : Nat) (K0 : Nat → Nat → Bool → (Nat → Int) → Option ρ) (K1 : Bool → Option ρ) (rec : Int → Option ρ) (out0 : Option ρ) (c0 : Nat → Int) (c1 : Nat → Int) (mv2 : Int) : Option ρ :=
  (if (decide (mv2 < (IntKind.i64.wrap ((IntKind.i64.wrap ((IntKind.i64.wrap ((c0 1) * (c0 1))) * (c0 1))) * (c0 1))))) = true then (if (IntKind.i64.wrap ((IntKind.i64.wrap ((c0 1) * (c0 1))) * (c0 1))) = 0 then none else (if (IntKind.i64.wrap ((c0 1) * (c0 1))) = 0 then none else (if (c0 1) = 0 then none else (if (c0 1) = 0 then none else (if (c0 1) = 0 then none else (if (c0 1) = 0 then none else (spec_l02Sums N (fun rv3 rv4 => (if (rv3 != rv4) = true then (K0 4 4 true (upd (upd (upd (upd (fun _ => 0) 0 (IntKind.i64.wrap (Int.tdiv mv2 (IntKind.i64.wrap ((IntKind.i64.wrap ((c0 1) * (c0 1))) * (c0 1)))))) 1 (Int.tmod (IntKind.i64.wrap (Int.tdiv mv2 (IntKind.i64.wrap ((c0 1) * (c0 1))))) (c0 1))) 2 (Int.tmod (IntKind.i64.wrap (Int.tdiv mv2 (c0 1))) (c0 1))) 3 (Int.tmod mv2 (c0 1)))) else (rec ((IntKind.i64.wrap (mv2 + 1)))))) c0 c1 ((IntKind.i64.wrap (Int.tdiv mv2 (IntKind.i64.wrap ((IntKind.i64.wrap ((c0 1) * (c0 1))) * (c0 1)))))) ((Int.tmod (IntKind.i64.wrap (Int.tdiv mv2 (IntKind.i64.wrap ((c0 1) * (c0 1))))) (c0 1))) ((Int.tmod (IntKind.i64.wrap (Int.tdiv mv2 (c0 1))) (c0 1))) ((Int.tmod mv2 (c0 1)))))))))) else out0)

noncomputable def spec_l02Fault.a0_0 {ρ : Type} (N : Nat) (K0 : Nat → Nat → Bool → (Nat → Int) → Option ρ) (K1 : Bool → Option ρ) : Option ρ :=
  (K1 false)

noncomputable def spec_l02Fault.l0 {ρ : Type} (N : Nat) (K0 : Nat → Nat → Bool → (Nat → Int) → Option ρ) (K1 : Bool → Option ρ) (c0 : Nat → Int) (c1 : Nat → Int) (out0 : Option ρ) : Nat → Int → Option ρ
  | 0, _ => none
  | m + 1, mv2 => (spec_l02Fault.b0 N K0 K1 ((spec_l02Fault.l0 N K0 K1 c0 c1 out0 m)) out0 c0 c1 mv2)

noncomputable def spec_l02Fault.s {ρ : Type} (N : Nat) (K0 : Nat → Nat → Bool → (Nat → Int) → Option ρ) (K1 : Bool → Option ρ) (lp0 : Int → Option ρ) : Option ρ :=
  (lp0 0)

noncomputable def spec_l02Fault {ρ : Type} (N : Nat) (K0 : Nat → Nat → Bool → (Nat → Int) → Option ρ) (K1 : Bool → Option ρ) (c0 : Nat → Int) (c1 : Nat → Int) : Option ρ :=
  (spec_l02Fault.s N K0 K1 (fun mv2 => (spec_l02Fault.l0 N K0 K1 c0 c1 (spec_l02Fault.a0_0 N K0 K1) N mv2)))

noncomputable def spec_l01Add.b0 {ρ : Type} (N : Nat) (K0 : (Nat → Int) → Option ρ) (rec : Int → (Nat → Int) → Option ρ) (out0 : (Nat → Int) → Option ρ) (p0 : Int) (w2 : Nat → Int) (k3 : Int) (i4 : Int) (gv5 : Nat → Int) : Option ρ :=
  (if (decide (i4 < 8)) = true then (if (0 : Int) ≤ i4 ∧ i4 < 8 then (if (0 : Int) ≤ i4 ∧ i4 < 8 then (spec_l01Mod N (fun rv6 => (if (0 : Int) ≤ i4 ∧ i4 < 8 then (rec ((IntKind.i64.wrap (i4 + 1))) (upd gv5 (i4.toNat * 1) rv6)) else none)) p0 ((IntKind.i64.wrap ((IntKind.i64.wrap (gv5 (i4.toNat * 1))) + (IntKind.i64.wrap (k3 * (IntKind.i64.wrap (w2 (i4.toNat * 1))))))))) else none) else none) else (out0 gv5))

noncomputable def spec_l01Add.a0_0 {ρ : Type} (N : Nat) (K0 : (Nat → Int) → Option ρ) (ov7 : Nat → Int) : Option ρ :=
  (K0 ov7)

noncomputable def spec_l01Add.l0 {ρ : Type} (N : Nat) (K0 : (Nat → Int) → Option ρ) (p0 : Int) (w2 : Nat → Int) (k3 : Int) (out0 : (Nat → Int) → Option ρ) : Nat → Int → (Nat → Int) → Option ρ
  | 0, _, _ => none
  | m + 1, i4, gv5 => (spec_l01Add.b0 N K0 ((spec_l01Add.l0 N K0 p0 w2 k3 out0 m)) out0 p0 w2 k3 i4 gv5)

noncomputable def spec_l01Add.s {ρ : Type} (N : Nat) (K0 : (Nat → Int) → Option ρ) (lp0 : Int → (Nat → Int) → Option ρ) (v1 : Nat → Int) : Option ρ :=
  (lp0 0 v1)

noncomputable def spec_l01Add {ρ : Type} (N : Nat) (K0 : (Nat → Int) → Option ρ) (p0 : Int) (v1 : Nat → Int) (w2 : Nat → Int) (k3 : Int) : Option ρ :=
  (spec_l01Add.s N K0 (fun i4 gv5 => (spec_l01Add.l0 N K0 p0 w2 k3 (fun ov7 => (spec_l01Add.a0_0 N K0 ov7)) N i4 gv5)) v1)

noncomputable def spec_l01Basis {ρ : Type} (N : Nat) (K0 : (Nat → Int) → Option ρ) (i0 : Int) : Option ρ :=
  (if (0 : Int) ≤ i0 ∧ i0 < 8 then (K0 (upd (fun _ => 0) (i0.toNat * 1) 1)) else none)

noncomputable def spec_l02Counits.b2 {ρ : Type} (N : Nat) (K0 : Bool → Option ρ) (rec : Int → Int → Option ρ) (out0 : Int → Option ρ) (c0 : Nat → Int) (c1 : Nat → Int) (i2 : Int) (j3 : Int) (sum7 : Int) (k8 : Int) : Option ρ :=
  (if (decide (k8 < (c0 1))) = true then (if (0 : Int) ≤ k8 ∧ k8 < 8 then (if (0 : Int) ≤ i2 ∧ i2 < 8 then (if (0 : Int) ≤ j3 ∧ j3 < 8 then (if (0 : Int) ≤ k8 ∧ k8 < 8 then (rec ((IntKind.i64.wrap (sum7 + (IntKind.i64.wrap ((IntKind.i64.wrap (c1 (0 + (k8.toNat * 1)))) * (IntKind.i64.wrap (c1 (((8 + (i2.toNat * 64)) + (j3.toNat * 8)) + (k8.toNat * 1))))))))) ((IntKind.i64.wrap (k8 + 1)))) else none) else none) else none) else none) else (out0 sum7))

noncomputable def spec_l02Counits.a2_0 {ρ : Type} (N : Nat) (K0 : Bool → Option ρ) (rec : Int → (Nat → Int) → (Nat → Int) → Option ρ) (out0 : (Nat → Int) → (Nat → Int) → Option ρ) (c0 : Nat → Int) (j3 : Int) (gv5 : Nat → Int) (rv6 : Nat → Int) (ov9 : Int) : Option ρ :=
  (spec_l01Mod N (fun rv10 => (if (0 : Int) ≤ j3 ∧ j3 < 8 then (rec ((IntKind.i64.wrap (j3 + 1))) rv6 (upd gv5 (j3.toNat * 1) rv10)) else none)) ((c0 0)) ov9)

noncomputable def spec_l02Counits.b1 {ρ : Type} (N : Nat) (K0 : Bool → Option ρ) (lp2 : (Nat → Int) → Int → Int → Option ρ) (rec : Int → (Nat → Int) → (Nat → Int) → Option ρ) (out0 : (Nat → Int) → (Nat → Int) → Option ρ) (c0 : Nat → Int) (c1 : Nat → Int) (i2 : Int) (j3 : Int) (gv4 : Nat → Int) (gv5 : Nat → Int) : Option ρ :=
  (if (decide (j3 < (c0 1))) = true then (if (0 : Int) ≤ i2 ∧ i2 < 8 then (if (0 : Int) ≤ j3 ∧ j3 < 8 then (if (0 : Int) ≤ j3 ∧ j3 < 8 then (spec_l01Add N (fun rv6 => (lp2 rv6 0 0)) ((c0 0)) gv4 (fun z => (c1 (((8 + (i2.toNat * 64)) + (j3.toNat * 8)) + z))) ((IntKind.i64.wrap (c1 (0 + (j3.toNat * 1)))))) else none) else none) else none) else (out0 gv4 gv5))

noncomputable def spec_l02Counits.a1_0 {ρ : Type} (N : Nat) (K0 : Bool → Option ρ) (rec : Int → Option ρ) (out0 : Option ρ) (i2 : Int) (ov11 : Nat → Int) (ov12 : Nat → Int) : Option ρ :=
  (spec_l01Basis N (fun rv13 => (if (!eqN 8 ov11 rv13) = true then (K0 false) else (spec_l01Basis N (fun rv14 => (if (!eqN 8 ov12 rv14) = true then (K0 false) else (rec ((IntKind.i64.wrap (i2 + 1)))))) i2))) i2)

noncomputable def spec_l02Counits.b0 {ρ : Type} (N : Nat) (K0 : Bool → Option ρ) (lp1 : Int → (Nat → Int) → (Nat → Int) → Option ρ) (rec : Int → Option ρ) (out0 : Option ρ) (c0 : Nat → Int) (i2 : Int) : Option ρ :=
  (if (decide (i2 < (c0 1))) = true then (lp1 0 (fun _ => 0) (fun _ => 0)) else out0)

noncomputable def spec_l02Counits.a0_0 {ρ : Type} (N : Nat) (K0 : Bool → Option ρ) : Option ρ :=
  (K0 true)

noncomputable def spec_l02Counits.l2 {ρ : Type} (N : Nat) (K0 : Bool → Option ρ) (c0 : Nat → Int) (c1 : Nat → Int) (i2 : Int) (j3 : Int) (out0 : Int → Option ρ) : Nat → Int → Int → Option ρ
  | 0, _, _ => none
  | m + 1, sum7, k8 => (spec_l02Counits.b2 N K0 ((spec_l02Counits.l2 N K0 c0 c1 i2 j3 out0 m)) out0 c0 c1 i2 j3 sum7 k8)

noncomputable def spec_l02Counits.l1 {ρ : Type} (N : Nat) (K0 : Bool → Option ρ) (c0 : Nat → Int) (c1 : Nat → Int) (i2 : Int) (out0 : (Nat → Int) → (Nat → Int) → Option ρ) : Nat → Int → (Nat → Int) → (Nat → Int) → Option ρ
  | 0, _, _, _ => none
  | m + 1, j3, gv4, gv5 => (spec_l02Counits.b1 N K0 (fun rv6 sum7 k8 => (spec_l02Counits.l2 N K0 c0 c1 i2 j3 (fun ov9 => (spec_l02Counits.a2_0 N K0 (spec_l02Counits.l1 N K0 c0 c1 i2 out0 m) out0 c0 j3 gv5 rv6 ov9)) N sum7 k8)) ((spec_l02Counits.l1 N K0 c0 c1 i2 out0 m)) out0 c0 c1 i2 j3 gv4 gv5)

noncomputable def spec_l02Counits.l0 {ρ : Type} (N : Nat) (K0 : Bool → Option ρ) (c0 : Nat → Int) (c1 : Nat → Int) (out0 : Option ρ) : Nat → Int → Option ρ
  | 0, _ => none
  | m + 1, i2 => (spec_l02Counits.b0 N K0 (fun j3 gv4 gv5 => (spec_l02Counits.l1 N K0 c0 c1 i2 (fun ov11 ov12 => (spec_l02Counits.a1_0 N K0 (spec_l02Counits.l0 N K0 c0 c1 out0 m) out0 i2 ov11 ov12)) N j3 gv4 gv5)) ((spec_l02Counits.l0 N K0 c0 c1 out0 m)) out0 c0 i2)

noncomputable def spec_l02Counits.s {ρ : Type} (N : Nat) (K0 : Bool → Option ρ) (lp0 : Int → Option ρ) : Option ρ :=
  (lp0 0)

noncomputable def spec_l02Counits {ρ : Type} (N : Nat) (K0 : Bool → Option ρ) (c0 : Nat → Int) (c1 : Nat → Int) : Option ρ :=
  (spec_l02Counits.s N K0 (fun i2 => (spec_l02Counits.l0 N K0 c0 c1 (spec_l02Counits.a0_0 N K0) N i2)))

noncomputable def spec_l02Is {ρ : Type} (N : Nat) (K0 : Bool → Option ρ) (c0 : Nat → Int) (c1 : Nat → Int) : Option ρ :=
  (spec_l02Shape N (fun rv2 => (if (!rv2) = true then (K0 false) else (spec_l02Fault N (fun rv3 rv4 rv5 rv6 => (if (!rv5) = true then (spec_l02Counits N (fun rv7 => (K0 (rv7))) c0 c1) else (K0 false))) (fun rv8 => (if (!rv8) = true then (spec_l02Counits N (fun rv9 => (K0 (rv9))) c0 c1) else (K0 false))) c0 c1))) c0 c1)

noncomputable def spec_l02Code_s.b0 {ρ : Type} (N : Nat) (K0 : Int → Option ρ) (rec : Int → Option ρ) (out0 : Option ρ) (c0 : Nat → Int) (list2 : Nat) (gv5 : Nat → Int) (i7 : Int) : Option ρ :=
  (if (decide (i7 < (list2 : Int))) = true then (if (0 : Int) ≤ i7 ∧ i7 < (list2 : Int) then (spec_l01Vector N (fun rv8 => (if (!rv8) = true then (K0 1) else (rec ((IntKind.i64.wrap (i7 + 1)))))) ((c0 0)) ((c0 1)) (fun z => (gv5 ((0 + (i7.toNat * 8)) + z)))) else none) else out0)

noncomputable def spec_l02Code_s.a0_0 {ρ : Type} (N : Nat) (K0 : Int → Option ρ) : Option ρ :=
  (K0 0)

noncomputable def spec_l02Code_s.l0 {ρ : Type} (N : Nat) (K0 : Int → Option ρ) (c0 : Nat → Int) (list2 : Nat) (gv5 : Nat → Int) (out0 : Option ρ) : Nat → Int → Option ρ
  | 0, _ => none
  | m + 1, i7 => (spec_l02Code_s.b0 N K0 ((spec_l02Code_s.l0 N K0 c0 list2 gv5 out0 m)) out0 c0 list2 gv5 i7)

noncomputable def spec_l02Code_s.s {ρ : Type} (N : Nat) (K0 : Int → Option ρ) (lp0 : Int → Option ρ) (c0 : Nat → Int) (c1 : Nat → Int) : Option ρ :=
  (spec_l02Is N (fun rv6 => (if (!rv6) = true then (K0 1) else (lp0 0))) c0 c1)

noncomputable def spec_l02Code_s {ρ : Type} (N : Nat) (K0 : Int → Option ρ) (c0 : Nat → Int) (c1 : Nat → Int) (list2 : Nat) (list3 : Nat) (gv4 : Nat) (gv5 : Nat → Int) : Option ρ :=
  (spec_l02Code_s.s N K0 (fun i7 => (spec_l02Code_s.l0 N K0 c0 list2 gv5 (spec_l02Code_s.a0_0 N K0) N i7)) c0 c1)

noncomputable def spec_l01First.b0 {ρ : Type} (N : Nat) (K0 : Int → Option ρ) (rec : Int → Option ρ) (out0 : Int → Option ρ) (v0 : Nat → Int) (at1 : Int) : Option ρ :=
  (if (decide (at1 < 8)) = true then (if (0 : Int) ≤ at1 ∧ at1 < 8 then (if ((v0 (at1.toNat * 1)) == 0) = true then (rec ((IntKind.i64.wrap (at1 + 1)))) else (out0 at1)) else none) else (out0 at1))

noncomputable def spec_l01First.a0_0 {ρ : Type} (N : Nat) (K0 : Int → Option ρ) (ov2 : Int) : Option ρ :=
  (K0 ov2)

noncomputable def spec_l01First.l0 {ρ : Type} (N : Nat) (K0 : Int → Option ρ) (v0 : Nat → Int) (out0 : Int → Option ρ) : Nat → Int → Option ρ
  | 0, _ => none
  | m + 1, at1 => (spec_l01First.b0 N K0 ((spec_l01First.l0 N K0 v0 out0 m)) out0 v0 at1)

noncomputable def spec_l01First.s {ρ : Type} (N : Nat) (K0 : Int → Option ρ) (lp0 : Int → Option ρ) : Option ρ :=
  (lp0 0)

noncomputable def spec_l01First {ρ : Type} (N : Nat) (K0 : Int → Option ρ) (v0 : Nat → Int) : Option ρ :=
  (spec_l01First.s N K0 (fun at1 => (spec_l01First.l0 N K0 v0 (fun ov2 => (spec_l01First.a0_0 N K0 ov2)) N at1)))

noncomputable def spec_l01Zero {ρ : Type} (N : Nat) (K0 : Bool → Option ρ) (v0 : Nat → Int) : Option ρ :=
  (K0 ((eqN 8 v0 (fun _ => 0))))

noncomputable def spec_l01Inverse.b0 {ρ : Type} (N : Nat) (K0 : Int → Option ρ) (rec : Int → Option ρ) (out0 : Option ρ) (p0 : Int) (x1 : Int) (k2 : Int) : Option ρ :=
  (if (decide (k2 < p0)) = true then (if p0 = 0 then none else (if ((Int.tmod (IntKind.i64.wrap (k2 * (IntKind.i64.wrap x1))) p0) == 1) = true then (K0 ((IntKind.u8.wrap k2))) else (rec ((IntKind.i64.wrap (k2 + 1)))))) else out0)

noncomputable def spec_l01Inverse.a0_0 {ρ : Type} (N : Nat) (K0 : Int → Option ρ) : Option ρ :=
  (K0 0)

noncomputable def spec_l01Inverse.l0 {ρ : Type} (N : Nat) (K0 : Int → Option ρ) (p0 : Int) (x1 : Int) (out0 : Option ρ) : Nat → Int → Option ρ
  | 0, _ => none
  | m + 1, k2 => (spec_l01Inverse.b0 N K0 ((spec_l01Inverse.l0 N K0 p0 x1 out0 m)) out0 p0 x1 k2)

noncomputable def spec_l01Inverse.s {ρ : Type} (N : Nat) (K0 : Int → Option ρ) (lp0 : Int → Option ρ) : Option ρ :=
  (lp0 1)

noncomputable def spec_l01Inverse {ρ : Type} (N : Nat) (K0 : Int → Option ρ) (p0 : Int) (x1 : Int) : Option ρ :=
  (spec_l01Inverse.s N K0 (fun k2 => (spec_l01Inverse.l0 N K0 p0 x1 (spec_l01Inverse.a0_0 N K0) N k2)))

noncomputable def spec_l01By_su_v2.b0 {ρ : Type} (N : Nat) (K0 : (Nat → Int) → Option ρ) (rec : Int → (Nat → Int) → Option ρ) (out0 : (Nat → Int) → Option ρ) (p0 : Int) (rows2 : Nat) (gv4 : Nat → Int) (i5 : Int) (gv6 : Nat → Int) : Option ρ :=
  (if (decide (i5 < (rows2 : Int))) = true then (if (0 : Int) ≤ i5 ∧ i5 < (rows2 : Int) then (spec_l01First N (fun rv7 => (if (0 : Int) ≤ rv7 ∧ rv7 < 8 then (if ((gv6 (rv7.toNat * 1)) != 0) = true then (if (0 : Int) ≤ i5 ∧ i5 < (rows2 : Int) then (if (0 : Int) ≤ rv7 ∧ rv7 < 8 then (spec_l01Add N (fun rv8 => (rec ((IntKind.i64.wrap (i5 + 1))) rv8)) p0 gv6 (fun z => (gv4 ((0 + (i5.toNat * 8)) + z))) ((IntKind.i64.wrap (0 - (IntKind.i64.wrap (gv6 (rv7.toNat * 1))))))) else none) else none) else (rec ((IntKind.i64.wrap (i5 + 1))) gv6)) else none)) (fun z => (gv4 ((0 + (i5.toNat * 8)) + z)))) else none) else (out0 gv6))

noncomputable def spec_l01By_su_v2.a0_0 {ρ : Type} (N : Nat) (K0 : (Nat → Int) → Option ρ) (ov9 : Nat → Int) : Option ρ :=
  (K0 ov9)

noncomputable def spec_l01By_su_v2.l0 {ρ : Type} (N : Nat) (K0 : (Nat → Int) → Option ρ) (p0 : Int) (rows2 : Nat) (gv4 : Nat → Int) (out0 : (Nat → Int) → Option ρ) : Nat → Int → (Nat → Int) → Option ρ
  | 0, _, _ => none
  | m + 1, i5, gv6 => (spec_l01By_su_v2.b0 N K0 ((spec_l01By_su_v2.l0 N K0 p0 rows2 gv4 out0 m)) out0 p0 rows2 gv4 i5 gv6)

noncomputable def spec_l01By_su_v2.s {ρ : Type} (N : Nat) (K0 : (Nat → Int) → Option ρ) (lp0 : Int → (Nat → Int) → Option ρ) (v1 : Nat → Int) : Option ρ :=
  (lp0 0 v1)

noncomputable def spec_l01By_su_v2 {ρ : Type} (N : Nat) (K0 : (Nat → Int) → Option ρ) (p0 : Int) (v1 : Nat → Int) (rows2 : Nat) (gv3 : Nat) (gv4 : Nat → Int) : Option ρ :=
  (spec_l01By_su_v2.s N K0 (fun i5 gv6 => (spec_l01By_su_v2.l0 N K0 p0 rows2 gv4 (fun ov9 => (spec_l01By_su_v2.a0_0 N K0 ov9)) N i5 gv6)) v1)

noncomputable def spec_l01Put_su_v2.b0 {ρ : Type} (N : Nat) (K0 : Nat → Option ρ) (K1 : Nat → (Nat → Int) → Option ρ) (rec : Nat → Bool → Int → (Nat → Int) → Option ρ) (out0 : Nat → Bool → (Nat → Int) → Option ρ) (p0 : Int) (rows1 : Nat) (gv4 : Nat → Int) (rv7 : Int) (rv9 : Nat → Int) (outv10 : Nat) (placed11 : Bool) (i12 : Int) (gv13 : Nat → Int) : Option ρ :=
  (if (decide (i12 < (rows1 : Int))) = true then (if (!placed11) = true then (if (0 : Int) ≤ i12 ∧ i12 < (rows1 : Int) then (spec_l01First N (fun rv14 => (if (decide (rv14 > rv7)) = true then (if (outv10 + 1) * 8 ≤ 140737488355328 then (if (0 : Int) ≤ i12 ∧ i12 < (rows1 : Int) then (if (0 : Int) ≤ i12 ∧ i12 < (rows1 : Int) then (if (0 : Int) ≤ rv7 ∧ rv7 < 8 then (spec_l01Add N (fun rv15 => (if ((outv10 + 1) + 1) * 8 ≤ 140737488355328 then (rec ((outv10 + 1) + 1) true ((IntKind.i64.wrap (i12 + 1))) (joinN ((outv10 + 1) * 8) (joinN (outv10 * 8) gv13 rv9) rv15)) else none)) p0 (fun z => (gv4 ((0 + (i12.toNat * 8)) + z))) rv9 ((IntKind.i64.wrap (0 - (IntKind.i64.wrap (gv4 ((0 + (i12.toNat * 8)) + (rv7.toNat * 1)))))))) else none) else none) else none) else none) else (if (0 : Int) ≤ i12 ∧ i12 < (rows1 : Int) then (if (0 : Int) ≤ i12 ∧ i12 < (rows1 : Int) then (if (0 : Int) ≤ rv7 ∧ rv7 < 8 then (spec_l01Add N (fun rv16 => (if (outv10 + 1) * 8 ≤ 140737488355328 then (rec (outv10 + 1) (placed11) ((IntKind.i64.wrap (i12 + 1))) (joinN (outv10 * 8) gv13 rv16)) else none)) p0 (fun z => (gv4 ((0 + (i12.toNat * 8)) + z))) rv9 ((IntKind.i64.wrap (0 - (IntKind.i64.wrap (gv4 ((0 + (i12.toNat * 8)) + (rv7.toNat * 1)))))))) else none) else none) else none))) (fun z => (gv4 ((0 + (i12.toNat * 8)) + z)))) else none) else (if (0 : Int) ≤ i12 ∧ i12 < (rows1 : Int) then (if (0 : Int) ≤ i12 ∧ i12 < (rows1 : Int) then (if (0 : Int) ≤ rv7 ∧ rv7 < 8 then (spec_l01Add N (fun rv17 => (if (outv10 + 1) * 8 ≤ 140737488355328 then (rec (outv10 + 1) (placed11) ((IntKind.i64.wrap (i12 + 1))) (joinN (outv10 * 8) gv13 rv17)) else none)) p0 (fun z => (gv4 ((0 + (i12.toNat * 8)) + z))) rv9 ((IntKind.i64.wrap (0 - (IntKind.i64.wrap (gv4 ((0 + (i12.toNat * 8)) + (rv7.toNat * 1)))))))) else none) else none) else none)) else (out0 outv10 (placed11) gv13))

noncomputable def spec_l01Put_su_v2.a0_0 {ρ : Type} (N : Nat) (K0 : Nat → Option ρ) (K1 : Nat → (Nat → Int) → Option ρ) (rv9 : Nat → Int) (ov18 : Nat) (ov19 : Bool) (ov20 : Nat → Int) : Option ρ :=
  (if (!ov19) = true then (if (ov18 + 1) * 8 ≤ 140737488355328 then (K1 (ov18 + 1) (joinN (ov18 * 8) ov20 rv9)) else none) else (K1 ov18 ov20))

noncomputable def spec_l01Put_su_v2.l0 {ρ : Type} (N : Nat) (K0 : Nat → Option ρ) (K1 : Nat → (Nat → Int) → Option ρ) (p0 : Int) (rows1 : Nat) (gv4 : Nat → Int) (rv7 : Int) (rv9 : Nat → Int) (out0 : Nat → Bool → (Nat → Int) → Option ρ) : Nat → Nat → Bool → Int → (Nat → Int) → Option ρ
  | 0, _, _, _, _ => none
  | m + 1, outv10, placed11, i12, gv13 => (spec_l01Put_su_v2.b0 N K0 K1 ((spec_l01Put_su_v2.l0 N K0 K1 p0 rows1 gv4 rv7 rv9 out0 m)) out0 p0 rows1 gv4 rv7 rv9 outv10 placed11 i12 gv13)

noncomputable def spec_l01Put_su_v2.s {ρ : Type} (N : Nat) (K0 : Nat → Option ρ) (K1 : Nat → (Nat → Int) → Option ρ) (lp0 : Int → (Nat → Int) → Nat → Bool → Int → (Nat → Int) → Option ρ) (p0 : Int) (rows1 : Nat) (v2 : Nat → Int) (gv4 : Nat → Int) : Option ρ :=
  (spec_l01By_su_v2 N (fun rv5 => (spec_l01Zero N (fun rv6 => (if rv6 = true then (K0 rows1) else (spec_l01First N (fun rv7 => (if (0 : Int) ≤ rv7 ∧ rv7 < 8 then (spec_l01Inverse N (fun rv8 => (spec_l01Add N (fun rv9 => (lp0 rv7 rv9 0 false 0 (fun _ => 0))) p0 (fun _ => 0) rv5 ((IntKind.i64.wrap rv8)))) p0 ((rv5 (rv7.toNat * 1)))) else none)) rv5))) rv5)) p0 v2 rows1 (rows1 * 8) (fun z => (gv4 (0 + z))))

noncomputable def spec_l01Put_su_v2 {ρ : Type} (N : Nat) (K0 : Nat → Option ρ) (K1 : Nat → (Nat → Int) → Option ρ) (p0 : Int) (rows1 : Nat) (v2 : Nat → Int) (gv3 : Nat) (gv4 : Nat → Int) : Option ρ :=
  (spec_l01Put_su_v2.s N K0 K1 (fun rv7 rv9 outv10 placed11 i12 gv13 => (spec_l01Put_su_v2.l0 N K0 K1 p0 rows1 gv4 rv7 rv9 (fun ov18 ov19 ov20 => (spec_l01Put_su_v2.a0_0 N K0 K1 rv9 ov18 ov19 ov20)) N outv10 placed11 i12 gv13)) p0 rows1 v2 gv4)

noncomputable def spec_l01Reduce_s.b0 {ρ : Type} (N : Nat) (K0 : Nat → (Nat → Int) → Option ρ) (rec : Nat → Int → (Nat → Int) → Option ρ) (out0 : Nat → (Nat → Int) → Option ρ) (p0 : Int) (list1 : Nat) (gv4 : Nat → Int) (outv5 : Nat) (i6 : Int) (gv7 : Nat → Int) : Option ρ :=
  (if (decide (i6 < (list1 : Int))) = true then (if (0 : Int) ≤ i6 ∧ i6 < (list1 : Int) then (spec_l01Put_su_v2 N (fun rv8 => (rec rv8 ((IntKind.i64.wrap (i6 + 1))) gv7)) (fun rv9 rv10 => (rec rv9 ((IntKind.i64.wrap (i6 + 1))) rv10)) p0 outv5 (fun z => (gv4 ((0 + (i6.toNat * 8)) + z))) (outv5 * 8) (fun z => (gv7 (0 + z)))) else none) else (out0 outv5 gv7))

noncomputable def spec_l01Reduce_s.a0_0 {ρ : Type} (N : Nat) (K0 : Nat → (Nat → Int) → Option ρ) (ov11 : Nat) (ov12 : Nat → Int) : Option ρ :=
  (K0 ov11 ov12)

noncomputable def spec_l01Reduce_s.l0 {ρ : Type} (N : Nat) (K0 : Nat → (Nat → Int) → Option ρ) (p0 : Int) (list1 : Nat) (gv4 : Nat → Int) (out0 : Nat → (Nat → Int) → Option ρ) : Nat → Nat → Int → (Nat → Int) → Option ρ
  | 0, _, _, _ => none
  | m + 1, outv5, i6, gv7 => (spec_l01Reduce_s.b0 N K0 ((spec_l01Reduce_s.l0 N K0 p0 list1 gv4 out0 m)) out0 p0 list1 gv4 outv5 i6 gv7)

noncomputable def spec_l01Reduce_s.s {ρ : Type} (N : Nat) (K0 : Nat → (Nat → Int) → Option ρ) (lp0 : Nat → Int → (Nat → Int) → Option ρ) : Option ρ :=
  (lp0 0 0 (fun _ => 0))

noncomputable def spec_l01Reduce_s {ρ : Type} (N : Nat) (K0 : Nat → (Nat → Int) → Option ρ) (p0 : Int) (list1 : Nat) (list2 : Nat) (gv3 : Nat) (gv4 : Nat → Int) : Option ρ :=
  (spec_l01Reduce_s.s N K0 (fun outv5 i6 gv7 => (spec_l01Reduce_s.l0 N K0 p0 list1 gv4 (fun ov11 ov12 => (spec_l01Reduce_s.a0_0 N K0 ov11 ov12)) N outv5 i6 gv7)))

noncomputable def spec_l02Coproduct.b1 {ρ : Type} (N : Nat) (K0 : (Nat → Int) → Option ρ) (rec : Int → (Nat → Int) → Option ρ) (out0 : (Nat → Int) → Option ρ) (c0 : Nat → Int) (c1 : Nat → Int) (v2 : Nat → Int) (i3 : Int) (j5 : Int) (gv6 : Nat → Int) : Option ρ :=
  (if (decide (j5 < (c0 1))) = true then (if (0 : Int) ≤ j5 ∧ j5 < 8 then (if (0 : Int) ≤ i3 ∧ i3 < 8 then (if (0 : Int) ≤ j5 ∧ j5 < 8 then (if (0 : Int) ≤ i3 ∧ i3 < 8 then (spec_l01Add N (fun rv7 => (if (0 : Int) ≤ j5 ∧ j5 < 8 then (rec ((IntKind.i64.wrap (j5 + 1))) (updN gv6 (j5.toNat * 8) 8 rv7)) else none)) ((c0 0)) (fun z => (gv6 ((j5.toNat * 8) + z))) (fun z => (c1 (((8 + (i3.toNat * 64)) + (j5.toNat * 8)) + z))) ((IntKind.i64.wrap (v2 (i3.toNat * 1))))) else none) else none) else none) else none) else (out0 gv6))

noncomputable def spec_l02Coproduct.a1_0 {ρ : Type} (N : Nat) (K0 : (Nat → Int) → Option ρ) (rec : Int → (Nat → Int) → Option ρ) (out0 : (Nat → Int) → Option ρ) (i3 : Int) (ov8 : Nat → Int) : Option ρ :=
  (rec ((IntKind.i64.wrap (i3 + 1))) ov8)

noncomputable def spec_l02Coproduct.b0 {ρ : Type} (N : Nat) (K0 : (Nat → Int) → Option ρ) (lp1 : Int → (Nat → Int) → Option ρ) (rec : Int → (Nat → Int) → Option ρ) (out0 : (Nat → Int) → Option ρ) (c0 : Nat → Int) (i3 : Int) (gv4 : Nat → Int) : Option ρ :=
  (if (decide (i3 < (c0 1))) = true then (lp1 0 gv4) else (out0 gv4))

noncomputable def spec_l02Coproduct.a0_0 {ρ : Type} (N : Nat) (K0 : (Nat → Int) → Option ρ) (ov9 : Nat → Int) : Option ρ :=
  (K0 ov9)

noncomputable def spec_l02Coproduct.l1 {ρ : Type} (N : Nat) (K0 : (Nat → Int) → Option ρ) (c0 : Nat → Int) (c1 : Nat → Int) (v2 : Nat → Int) (i3 : Int) (out0 : (Nat → Int) → Option ρ) : Nat → Int → (Nat → Int) → Option ρ
  | 0, _, _ => none
  | m + 1, j5, gv6 => (spec_l02Coproduct.b1 N K0 ((spec_l02Coproduct.l1 N K0 c0 c1 v2 i3 out0 m)) out0 c0 c1 v2 i3 j5 gv6)

noncomputable def spec_l02Coproduct.l0 {ρ : Type} (N : Nat) (K0 : (Nat → Int) → Option ρ) (c0 : Nat → Int) (c1 : Nat → Int) (v2 : Nat → Int) (out0 : (Nat → Int) → Option ρ) : Nat → Int → (Nat → Int) → Option ρ
  | 0, _, _ => none
  | m + 1, i3, gv4 => (spec_l02Coproduct.b0 N K0 (fun j5 gv6 => (spec_l02Coproduct.l1 N K0 c0 c1 v2 i3 (fun ov8 => (spec_l02Coproduct.a1_0 N K0 (spec_l02Coproduct.l0 N K0 c0 c1 v2 out0 m) out0 i3 ov8)) N j5 gv6)) ((spec_l02Coproduct.l0 N K0 c0 c1 v2 out0 m)) out0 c0 i3 gv4)

noncomputable def spec_l02Coproduct.s {ρ : Type} (N : Nat) (K0 : (Nat → Int) → Option ρ) (lp0 : Int → (Nat → Int) → Option ρ) : Option ρ :=
  (lp0 0 (fun _ => 0))

noncomputable def spec_l02Coproduct {ρ : Type} (N : Nat) (K0 : (Nat → Int) → Option ρ) (c0 : Nat → Int) (c1 : Nat → Int) (v2 : Nat → Int) : Option ρ :=
  (spec_l02Coproduct.s N K0 (fun i3 gv4 => (spec_l02Coproduct.l0 N K0 c0 c1 v2 (fun ov9 => (spec_l02Coproduct.a0_0 N K0 ov9)) N i3 gv4)))

noncomputable def spec_l02Closed_su.b2 {ρ : Type} (N : Nat) (K0 : Bool → Option ρ) (rec : Int → (Nat → Int) → Option ρ) (out0 : (Nat → Int) → Option ρ) (c0 : Nat → Int) (rv6 : Nat → Int) (j7 : Int) (k8 : Int) (gv9 : Nat → Int) : Option ρ :=
  (if (decide (k8 < (c0 1))) = true then (if (0 : Int) ≤ k8 ∧ k8 < 8 then (if (0 : Int) ≤ j7 ∧ j7 < 8 then (if (0 : Int) ≤ k8 ∧ k8 < 8 then (rec ((IntKind.i64.wrap (k8 + 1))) (upd gv9 (k8.toNat * 1) (rv6 ((k8.toNat * 8) + (j7.toNat * 1))))) else none) else none) else none) else (out0 gv9))

noncomputable def spec_l02Closed_su.a2_0 {ρ : Type} (N : Nat) (K0 : Bool → Option ρ) (rec : Int → Option ρ) (out0 : Option ρ) (c0 : Nat → Int) (rows2 : Nat) (gv4 : Nat → Int) (rv6 : Nat → Int) (j7 : Int) (ov10 : Nat → Int) : Option ρ :=
  (if (0 : Int) ≤ j7 ∧ j7 < 8 then (spec_l01By_su_v2 N (fun rv11 => (spec_l01Zero N (fun rv12 => (if (!rv12) = true then (K0 false) else (spec_l01By_su_v2 N (fun rv13 => (spec_l01Zero N (fun rv14 => (if (!rv14) = true then (K0 false) else (rec ((IntKind.i64.wrap (j7 + 1)))))) rv13)) ((c0 0)) ov10 rows2 (rows2 * 8) (fun z => (gv4 (0 + z)))))) rv11)) ((c0 0)) (fun z => (rv6 ((j7.toNat * 8) + z))) rows2 (rows2 * 8) (fun z => (gv4 (0 + z)))) else none)

noncomputable def spec_l02Closed_su.b1 {ρ : Type} (N : Nat) (K0 : Bool → Option ρ) (lp2 : Int → (Nat → Int) → Option ρ) (rec : Int → Option ρ) (out0 : Option ρ) (c0 : Nat → Int) (j7 : Int) : Option ρ :=
  (if (decide (j7 < (c0 1))) = true then (lp2 0 (fun _ => 0)) else out0)

noncomputable def spec_l02Closed_su.a1_0 {ρ : Type} (N : Nat) (K0 : Bool → Option ρ) (rec : Int → Option ρ) (out0 : Option ρ) (i5 : Int) : Option ρ :=
  (rec ((IntKind.i64.wrap (i5 + 1))))

noncomputable def spec_l02Closed_su.b0 {ρ : Type} (N : Nat) (K0 : Bool → Option ρ) (lp1 : (Nat → Int) → Int → Option ρ) (rec : Int → Option ρ) (out0 : Option ρ) (c0 : Nat → Int) (c1 : Nat → Int) (rows2 : Nat) (gv4 : Nat → Int) (i5 : Int) : Option ρ :=
  (if (decide (i5 < (rows2 : Int))) = true then (if (0 : Int) ≤ i5 ∧ i5 < (rows2 : Int) then (spec_l02Coproduct N (fun rv6 => (lp1 rv6 0)) c0 c1 (fun z => (gv4 ((0 + (i5.toNat * 8)) + z)))) else none) else out0)

noncomputable def spec_l02Closed_su.a0_0 {ρ : Type} (N : Nat) (K0 : Bool → Option ρ) : Option ρ :=
  (K0 true)

noncomputable def spec_l02Closed_su.l2 {ρ : Type} (N : Nat) (K0 : Bool → Option ρ) (c0 : Nat → Int) (rv6 : Nat → Int) (j7 : Int) (out0 : (Nat → Int) → Option ρ) : Nat → Int → (Nat → Int) → Option ρ
  | 0, _, _ => none
  | m + 1, k8, gv9 => (spec_l02Closed_su.b2 N K0 ((spec_l02Closed_su.l2 N K0 c0 rv6 j7 out0 m)) out0 c0 rv6 j7 k8 gv9)

noncomputable def spec_l02Closed_su.l1 {ρ : Type} (N : Nat) (K0 : Bool → Option ρ) (c0 : Nat → Int) (rows2 : Nat) (gv4 : Nat → Int) (rv6 : Nat → Int) (out0 : Option ρ) : Nat → Int → Option ρ
  | 0, _ => none
  | m + 1, j7 => (spec_l02Closed_su.b1 N K0 (fun k8 gv9 => (spec_l02Closed_su.l2 N K0 c0 rv6 j7 (fun ov10 => (spec_l02Closed_su.a2_0 N K0 (spec_l02Closed_su.l1 N K0 c0 rows2 gv4 rv6 out0 m) out0 c0 rows2 gv4 rv6 j7 ov10)) N k8 gv9)) ((spec_l02Closed_su.l1 N K0 c0 rows2 gv4 rv6 out0 m)) out0 c0 j7)

noncomputable def spec_l02Closed_su.l0 {ρ : Type} (N : Nat) (K0 : Bool → Option ρ) (c0 : Nat → Int) (c1 : Nat → Int) (rows2 : Nat) (gv4 : Nat → Int) (out0 : Option ρ) : Nat → Int → Option ρ
  | 0, _ => none
  | m + 1, i5 => (spec_l02Closed_su.b0 N K0 (fun rv6 j7 => (spec_l02Closed_su.l1 N K0 c0 rows2 gv4 rv6 (spec_l02Closed_su.a1_0 N K0 (spec_l02Closed_su.l0 N K0 c0 c1 rows2 gv4 out0 m) out0 i5) N j7)) ((spec_l02Closed_su.l0 N K0 c0 c1 rows2 gv4 out0 m)) out0 c0 c1 rows2 gv4 i5)

noncomputable def spec_l02Closed_su.s {ρ : Type} (N : Nat) (K0 : Bool → Option ρ) (lp0 : Int → Option ρ) : Option ρ :=
  (lp0 0)

noncomputable def spec_l02Closed_su {ρ : Type} (N : Nat) (K0 : Bool → Option ρ) (c0 : Nat → Int) (c1 : Nat → Int) (rows2 : Nat) (gv3 : Nat) (gv4 : Nat → Int) : Option ρ :=
  (spec_l02Closed_su.s N K0 (fun i5 => (spec_l02Closed_su.l0 N K0 c0 c1 rows2 gv4 (spec_l02Closed_su.a0_0 N K0) N i5)))

noncomputable def spec_IsSubcoalgebra_s {ρ : Type} (N : Nat) (K0 : Bool → Int → Option ρ) (c0 : Nat → Int) (c1 : Nat → Int) (list2 : Nat) (list3 : Nat) (gv4 : Nat) (gv5 : Nat → Int) : Option ρ :=
  (spec_l02Code_s N (fun rv6 => (if (rv6 != 0) = true then (K0 false rv6) else (spec_l01Reduce_s N (fun rv7 rv8 => (spec_l02Closed_su N (fun rv9 => (K0 (rv9) 0)) c0 c1 rv7 (rv7 * 8) (fun z => (rv8 (0 + z))))) ((c0 0)) list2 list3 (list3 * 8) (fun z => (gv5 (0 + z)))))) c0 c1 list2 list3 (list3 * 8) (fun z => (gv5 (0 + z))))

noncomputable def impl_IsPrime.b0 {ρ : Type} (N : Nat) (K0 : Bool → Option ρ) (rec : Int → Option ρ) (out0 : Option ρ) (p0 : Int) (k1 : Int) : Option ρ :=
  (if (decide ((IntKind.i64.wrap (k1 * k1)) ≤ p0)) = true then (if k1 = 0 then none else (if ((Int.tmod p0 k1) == 0) = true then (K0 false) else (rec ((IntKind.i64.wrap (k1 + 1)))))) else out0)

noncomputable def impl_IsPrime.a0_0 {ρ : Type} (N : Nat) (K0 : Bool → Option ρ) : Option ρ :=
  (K0 true)

noncomputable def impl_IsPrime.l0 {ρ : Type} (N : Nat) (K0 : Bool → Option ρ) (p0 : Int) (out0 : Option ρ) : Nat → Int → Option ρ
  | 0, _ => none
  | m + 1, k1 => (impl_IsPrime.b0 N K0 ((impl_IsPrime.l0 N K0 p0 out0 m)) out0 p0 k1)

noncomputable def impl_IsPrime.s {ρ : Type} (N : Nat) (K0 : Bool → Option ρ) (lp0 : Int → Option ρ) (p0 : Int) : Option ρ :=
  (if (decide (p0 < 2)) = true then (K0 false) else (if (decide (p0 > 31)) = true then (K0 false) else (lp0 2)))

noncomputable def impl_IsPrime {ρ : Type} (N : Nat) (K0 : Bool → Option ρ) (p0 : Int) : Option ρ :=
  (impl_IsPrime.s N K0 (fun k1 => (impl_IsPrime.l0 N K0 p0 (impl_IsPrime.a0_0 N K0) N k1)) p0)

noncomputable def impl_in {ρ : Type} (N : Nat) (K0 : Bool → Option ρ) (x0 : Int) (least1 : Int) (most2 : Int) : Option ρ :=
  (if (decide (least1 ≤ x0)) = true then (K0 ((decide (x0 ≤ most2)))) else (K0 false))

noncomputable def impl_IsVector.b0 {ρ : Type} (N : Nat) (K0 : Bool → Option ρ) (rec : Int → Option ρ) (out0 : Option ρ) (p0 : Int) (nv1 : Int) (v2 : Nat → Int) (x5 : Int) : Option ρ :=
  (if (decide (x5 < 8)) = true then (if (0 : Int) ≤ x5 ∧ x5 < 8 then (if (decide ((IntKind.i64.wrap (v2 x5.toNat)) ≥ p0)) = true then (K0 false) else (if (decide (x5 ≥ nv1)) = true then (if ((v2 x5.toNat) != 0) = true then (K0 false) else (rec ((IntKind.i64.wrap (x5 + 1))))) else (rec ((IntKind.i64.wrap (x5 + 1)))))) else none) else out0)

noncomputable def impl_IsVector.a0_0 {ρ : Type} (N : Nat) (K0 : Bool → Option ρ) : Option ρ :=
  (K0 true)

noncomputable def impl_IsVector.l0 {ρ : Type} (N : Nat) (K0 : Bool → Option ρ) (p0 : Int) (nv1 : Int) (v2 : Nat → Int) (out0 : Option ρ) : Nat → Int → Option ρ
  | 0, _ => none
  | m + 1, x5 => (impl_IsVector.b0 N K0 ((impl_IsVector.l0 N K0 p0 nv1 v2 out0 m)) out0 p0 nv1 v2 x5)

noncomputable def impl_IsVector.s {ρ : Type} (N : Nat) (K0 : Bool → Option ρ) (lp0 : Int → Option ρ) (p0 : Int) (nv1 : Int) : Option ρ :=
  (impl_IsPrime N (fun rv3 => (if (!rv3) = true then (K0 false) else (impl_in N (fun rv4 => (if (!rv4) = true then (K0 false) else (lp0 0))) nv1 1 8))) p0)

noncomputable def impl_IsVector {ρ : Type} (N : Nat) (K0 : Bool → Option ρ) (p0 : Int) (nv1 : Int) (v2 : Nat → Int) : Option ρ :=
  (impl_IsVector.s N K0 (fun x5 => (impl_IsVector.l0 N K0 p0 nv1 v2 (impl_IsVector.a0_0 N K0) N x5)) p0 nv1)

noncomputable def impl_isLinear.b0 {ρ : Type} (N : Nat) (K0 : Bool → Option ρ) (rec : Int → Option ρ) (out0 : Option ρ) (p0 : Int) (nv1 : Int) (size2 : Int) (gv3 : Nat → Int) (x4 : Int) : Option ρ :=
  (if (decide (x4 < 8)) = true then (if (0 : Int) ≤ x4 ∧ x4 < 8 then (impl_IsVector N (fun rv5 => (if (!rv5) = true then (K0 false) else (if (decide (x4 ≥ nv1)) = true then (if (!eqN 8 (fun z => (gv3 ((x4.toNat * 8) + z))) (fun _ => 0)) = true then (K0 false) else (rec ((IntKind.i64.wrap (x4 + 1))))) else (rec ((IntKind.i64.wrap (x4 + 1))))))) p0 size2 (fun z => (gv3 ((x4.toNat * 8) + z)))) else none) else out0)

noncomputable def impl_isLinear.a0_0 {ρ : Type} (N : Nat) (K0 : Bool → Option ρ) : Option ρ :=
  (K0 true)

noncomputable def impl_isLinear.l0 {ρ : Type} (N : Nat) (K0 : Bool → Option ρ) (p0 : Int) (nv1 : Int) (size2 : Int) (gv3 : Nat → Int) (out0 : Option ρ) : Nat → Int → Option ρ
  | 0, _ => none
  | m + 1, x4 => (impl_isLinear.b0 N K0 ((impl_isLinear.l0 N K0 p0 nv1 size2 gv3 out0 m)) out0 p0 nv1 size2 gv3 x4)

noncomputable def impl_isLinear.s {ρ : Type} (N : Nat) (K0 : Bool → Option ρ) (lp0 : Int → Option ρ) : Option ρ :=
  (lp0 0)

noncomputable def impl_isLinear {ρ : Type} (N : Nat) (K0 : Bool → Option ρ) (p0 : Int) (nv1 : Int) (size2 : Int) (gv3 : Nat → Int) : Option ρ :=
  (impl_isLinear.s N K0 (fun x4 => (impl_isLinear.l0 N K0 p0 nv1 size2 gv3 (impl_isLinear.a0_0 N K0) N x4)))

noncomputable def impl_isTable.b0 {ρ : Type} (N : Nat) (K0 : Bool → Option ρ) (rec : Int → Option ρ) (out0 : Option ρ) (p0 : Int) (nv1 : Int) (gv2 : Nat → Int) (x3 : Int) : Option ρ :=
  (if (decide (x3 < 8)) = true then (if (0 : Int) ≤ x3 ∧ x3 < 8 then (impl_isLinear N (fun rv4 => (if (!rv4) = true then (K0 false) else (if (decide (x3 ≥ nv1)) = true then (if (0 : Int) ≤ x3 ∧ x3 < 8 then (if (!eqN 64 (fun z => (gv2 ((x3.toNat * 64) + z))) (fun _ => 0)) = true then (K0 false) else (rec ((IntKind.i64.wrap (x3 + 1))))) else none) else (rec ((IntKind.i64.wrap (x3 + 1))))))) p0 nv1 nv1 (fun z => (gv2 ((x3.toNat * 64) + z)))) else none) else out0)

noncomputable def impl_isTable.a0_0 {ρ : Type} (N : Nat) (K0 : Bool → Option ρ) : Option ρ :=
  (K0 true)

noncomputable def impl_isTable.l0 {ρ : Type} (N : Nat) (K0 : Bool → Option ρ) (p0 : Int) (nv1 : Int) (gv2 : Nat → Int) (out0 : Option ρ) : Nat → Int → Option ρ
  | 0, _ => none
  | m + 1, x3 => (impl_isTable.b0 N K0 ((impl_isTable.l0 N K0 p0 nv1 gv2 out0 m)) out0 p0 nv1 gv2 x3)

noncomputable def impl_isTable.s {ρ : Type} (N : Nat) (K0 : Bool → Option ρ) (lp0 : Int → Option ρ) : Option ρ :=
  (lp0 0)

noncomputable def impl_isTable {ρ : Type} (N : Nat) (K0 : Bool → Option ρ) (p0 : Int) (nv1 : Int) (gv2 : Nat → Int) : Option ρ :=
  (impl_isTable.s N K0 (fun x3 => (impl_isTable.l0 N K0 p0 nv1 gv2 (impl_isTable.a0_0 N K0) N x3)))

noncomputable def impl_Coalgebra_isShaped {ρ : Type} (N : Nat) (K0 : Bool → Option ρ) (gv0 : Nat → Int) (gv1 : Nat → Int) : Option ρ :=
  (impl_IsVector N (fun rv2 => (if rv2 = true then (impl_isTable N (fun rv3 => (K0 (rv3))) ((gv0 0)) ((gv0 1)) (fun z => (gv1 (8 + z)))) else (K0 false))) ((gv0 0)) ((gv0 1)) (fun z => (gv1 (0 + z))))

noncomputable def impl_Coalgebra_field {ρ : Type} (N : Nat) (K0 : (Nat → Int) → Option ρ) (gv0 : Nat → Int) (gv1 : Nat → Int) : Option ρ :=
  (K0 (upd (upd (fun _ => 0) 0 (gv0 0)) 1 (gv0 1)))

noncomputable def impl_field_mod {ρ : Type} (N : Nat) (K0 : Int → Option ρ) (f0 : Nat → Int) (x1 : Int) : Option ρ :=
  (if (f0 0) = 0 then none else (if (decide ((Int.tmod x1 (f0 0)) < 0)) = true then (K0 ((IntKind.u8.wrap (IntKind.i64.wrap ((Int.tmod x1 (f0 0)) + (f0 0)))))) else (K0 ((IntKind.u8.wrap (Int.tmod x1 (f0 0)))))))

noncomputable def impl_field_plus.b0 {ρ : Type} (N : Nat) (K0 : (Nat → Int) → Option ρ) (rec : Int → (Nat → Int) → Option ρ) (out0 : (Nat → Int) → Option ρ) (f0 : Nat → Int) (k1 : Int) (w2 : Nat → Int) (x4 : Int) (gv5 : Nat → Int) : Option ρ :=
  (if (decide (x4 < 8)) = true then (if (0 : Int) ≤ x4 ∧ x4 < 8 then (if (0 : Int) ≤ x4 ∧ x4 < 8 then (impl_field_mod N (fun rv6 => (if (0 : Int) ≤ x4 ∧ x4 < 8 then (rec ((IntKind.i64.wrap (x4 + 1))) (upd gv5 (x4.toNat * 1) rv6)) else none)) f0 ((IntKind.i64.wrap ((IntKind.i64.wrap (gv5 (x4.toNat * 1))) + (IntKind.i64.wrap (k1 * (IntKind.i64.wrap (w2 x4.toNat)))))))) else none) else none) else (out0 gv5))

noncomputable def impl_field_plus.a0_0 {ρ : Type} (N : Nat) (K0 : (Nat → Int) → Option ρ) (ov7 : Nat → Int) : Option ρ :=
  (K0 ov7)

noncomputable def impl_field_plus.l0 {ρ : Type} (N : Nat) (K0 : (Nat → Int) → Option ρ) (f0 : Nat → Int) (k1 : Int) (w2 : Nat → Int) (out0 : (Nat → Int) → Option ρ) : Nat → Int → (Nat → Int) → Option ρ
  | 0, _, _ => none
  | m + 1, x4, gv5 => (impl_field_plus.b0 N K0 ((impl_field_plus.l0 N K0 f0 k1 w2 out0 m)) out0 f0 k1 w2 x4 gv5)

noncomputable def impl_field_plus.s {ρ : Type} (N : Nat) (K0 : (Nat → Int) → Option ρ) (lp0 : Int → (Nat → Int) → Option ρ) (k1 : Int) (gv3 : Nat → Int) : Option ρ :=
  (if (k1 == 0) = true then (K0 gv3) else (lp0 0 gv3))

noncomputable def impl_field_plus {ρ : Type} (N : Nat) (K0 : (Nat → Int) → Option ρ) (f0 : Nat → Int) (k1 : Int) (w2 : Nat → Int) (gv3 : Nat → Int) : Option ρ :=
  (impl_field_plus.s N K0 (fun x4 gv5 => (impl_field_plus.l0 N K0 f0 k1 w2 (fun ov7 => (impl_field_plus.a0_0 N K0 ov7)) N x4 gv5)) k1 gv3)

noncomputable def impl_field_dot.b0 {ρ : Type} (N : Nat) (K0 : Int → Option ρ) (rec : Int → Int → Option ρ) (out0 : Int → Option ρ) (v1 : Nat → Int) (w2 : Nat → Int) (outv3 : Int) (x4 : Int) : Option ρ :=
  (if (decide (x4 < 8)) = true then (if (0 : Int) ≤ x4 ∧ x4 < 8 then (if (0 : Int) ≤ x4 ∧ x4 < 8 then (rec ((IntKind.i64.wrap (outv3 + (IntKind.i64.wrap ((IntKind.i64.wrap (v1 x4.toNat)) * (IntKind.i64.wrap (w2 (x4.toNat * 1)))))))) ((IntKind.i64.wrap (x4 + 1)))) else none) else none) else (out0 outv3))

noncomputable def impl_field_dot.a0_0 {ρ : Type} (N : Nat) (K0 : Int → Option ρ) (f0 : Nat → Int) (ov5 : Int) : Option ρ :=
  (if (f0 0) = 0 then none else (K0 ((Int.tmod ov5 (f0 0)))))

noncomputable def impl_field_dot.l0 {ρ : Type} (N : Nat) (K0 : Int → Option ρ) (v1 : Nat → Int) (w2 : Nat → Int) (out0 : Int → Option ρ) : Nat → Int → Int → Option ρ
  | 0, _, _ => none
  | m + 1, outv3, x4 => (impl_field_dot.b0 N K0 ((impl_field_dot.l0 N K0 v1 w2 out0 m)) out0 v1 w2 outv3 x4)

noncomputable def impl_field_dot.s {ρ : Type} (N : Nat) (K0 : Int → Option ρ) (lp0 : Int → Int → Option ρ) : Option ρ :=
  (lp0 0 0)

noncomputable def impl_field_dot {ρ : Type} (N : Nat) (K0 : Int → Option ρ) (f0 : Nat → Int) (v1 : Nat → Int) (w2 : Nat → Int) : Option ρ :=
  (impl_field_dot.s N K0 (fun outv3 x4 => (impl_field_dot.l0 N K0 v1 w2 (fun ov5 => (impl_field_dot.a0_0 N K0 f0 ov5)) N outv3 x4)))

noncomputable def impl_basis {ρ : Type} (N : Nat) (K0 : (Nat → Int) → Option ρ) (i0 : Int) : Option ρ :=
  (if (0 : Int) ≤ i0 ∧ i0 < 8 then (K0 (upd (fun _ => 0) (i0.toNat * 1) 1)) else none)

noncomputable def impl_Coalgebra_isCounit.b1 {ρ : Type} (N : Nat) (K0 : Bool → Option ρ) (rec : Int → (Nat → Int) → (Nat → Int) → Option ρ) (out0 : (Nat → Int) → (Nat → Int) → Option ρ) (gv1 : Nat → Int) (rv2 : Nat → Int) (x3 : Int) (x4 : Int) (gv5 : Nat → Int) (gv6 : Nat → Int) : Option ρ :=
  (if (decide (x4 < (rv2 1))) = true then (if (0 : Int) ≤ x4 ∧ x4 < 8 then (if (0 : Int) ≤ x3 ∧ x3 < 8 then (if (0 : Int) ≤ x4 ∧ x4 < 8 then (impl_field_plus N (fun rv7 => (if (0 : Int) ≤ x3 ∧ x3 < 8 then (if (0 : Int) ≤ x4 ∧ x4 < 8 then (impl_field_dot N (fun rv8 => (if (0 : Int) ≤ x4 ∧ x4 < 8 then (rec ((IntKind.i64.wrap (x4 + 1))) rv7 (upd gv6 (x4.toNat * 1) (IntKind.u8.wrap rv8))) else none)) rv2 (fun z => (gv1 (0 + z))) (fun z => (gv1 (((8 + (x3.toNat * 64)) + (x4.toNat * 8)) + z)))) else none) else none)) rv2 ((IntKind.i64.wrap (gv1 (0 + (x4.toNat * 1))))) (fun z => (gv1 (((8 + (x3.toNat * 64)) + (x4.toNat * 8)) + z))) gv5) else none) else none) else none) else (out0 gv5 gv6))

noncomputable def impl_Coalgebra_isCounit.a1_0 {ρ : Type} (N : Nat) (K0 : Bool → Option ρ) (rec : Int → Option ρ) (out0 : Option ρ) (x3 : Int) (ov9 : Nat → Int) (ov10 : Nat → Int) : Option ρ :=
  (impl_basis N (fun rv11 => (if (!eqN 8 ov9 rv11) = true then (K0 false) else (impl_basis N (fun rv12 => (if (!eqN 8 ov10 rv12) = true then (K0 false) else (rec ((IntKind.i64.wrap (x3 + 1)))))) x3))) x3)

noncomputable def impl_Coalgebra_isCounit.b0 {ρ : Type} (N : Nat) (K0 : Bool → Option ρ) (lp1 : Int → (Nat → Int) → (Nat → Int) → Option ρ) (rec : Int → Option ρ) (out0 : Option ρ) (rv2 : Nat → Int) (x3 : Int) : Option ρ :=
  (if (decide (x3 < (rv2 1))) = true then (lp1 0 (fun _ => 0) (fun _ => 0)) else out0)

noncomputable def impl_Coalgebra_isCounit.a0_0 {ρ : Type} (N : Nat) (K0 : Bool → Option ρ) : Option ρ :=
  (K0 true)

noncomputable def impl_Coalgebra_isCounit.l1 {ρ : Type} (N : Nat) (K0 : Bool → Option ρ) (gv1 : Nat → Int) (rv2 : Nat → Int) (x3 : Int) (out0 : (Nat → Int) → (Nat → Int) → Option ρ) : Nat → Int → (Nat → Int) → (Nat → Int) → Option ρ
  | 0, _, _, _ => none
  | m + 1, x4, gv5, gv6 => (impl_Coalgebra_isCounit.b1 N K0 ((impl_Coalgebra_isCounit.l1 N K0 gv1 rv2 x3 out0 m)) out0 gv1 rv2 x3 x4 gv5 gv6)

noncomputable def impl_Coalgebra_isCounit.l0 {ρ : Type} (N : Nat) (K0 : Bool → Option ρ) (gv1 : Nat → Int) (rv2 : Nat → Int) (out0 : Option ρ) : Nat → Int → Option ρ
  | 0, _ => none
  | m + 1, x3 => (impl_Coalgebra_isCounit.b0 N K0 (fun x4 gv5 gv6 => (impl_Coalgebra_isCounit.l1 N K0 gv1 rv2 x3 (fun ov9 ov10 => (impl_Coalgebra_isCounit.a1_0 N K0 (impl_Coalgebra_isCounit.l0 N K0 gv1 rv2 out0 m) out0 x3 ov9 ov10)) N x4 gv5 gv6)) ((impl_Coalgebra_isCounit.l0 N K0 gv1 rv2 out0 m)) out0 rv2 x3)

noncomputable def impl_Coalgebra_isCounit.s {ρ : Type} (N : Nat) (K0 : Bool → Option ρ) (lp0 : (Nat → Int) → Int → Option ρ) (gv0 : Nat → Int) (gv1 : Nat → Int) : Option ρ :=
  (impl_Coalgebra_field N (fun rv2 => (lp0 rv2 0)) gv0 gv1)

noncomputable def impl_Coalgebra_isCounit {ρ : Type} (N : Nat) (K0 : Bool → Option ρ) (gv0 : Nat → Int) (gv1 : Nat → Int) : Option ρ :=
  (impl_Coalgebra_isCounit.s N K0 (fun rv2 x3 => (impl_Coalgebra_isCounit.l0 N K0 gv1 rv2 (impl_Coalgebra_isCounit.a0_0 N K0) N x3)) gv0 gv1)

noncomputable def impl_Coalgebra_isFault.b0 {ρ : Type} (N : Nat) (K0 : Bool → Option ρ) (rec : Int → Int → Int → Option ρ) (out0 : Int → Int → Option ρ) (i0 : Int) (j1 : Int) (k2 : Int) (lv3 : Int) (gv5 : Nat → Int) (rv6 : Nat → Int) (one7 : Int) (two8 : Int) (x9 : Int) : Option ρ :=
  (if (decide (x9 < (rv6 1))) = true then (if (0 : Int) ≤ i0 ∧ i0 < 8 then (if (0 : Int) ≤ x9 ∧ x9 < 8 then (if (0 : Int) ≤ lv3 ∧ lv3 < 8 then (if (0 : Int) ≤ x9 ∧ x9 < 8 then (if (0 : Int) ≤ j1 ∧ j1 < 8 then (if (0 : Int) ≤ k2 ∧ k2 < 8 then (if (0 : Int) ≤ i0 ∧ i0 < 8 then (if (0 : Int) ≤ j1 ∧ j1 < 8 then (if (0 : Int) ≤ x9 ∧ x9 < 8 then (if (0 : Int) ≤ x9 ∧ x9 < 8 then (if (0 : Int) ≤ k2 ∧ k2 < 8 then (if (0 : Int) ≤ lv3 ∧ lv3 < 8 then (rec ((IntKind.i64.wrap (one7 + (IntKind.i64.wrap ((IntKind.i64.wrap (gv5 (((8 + (i0.toNat * 64)) + (x9.toNat * 8)) + (lv3.toNat * 1)))) * (IntKind.i64.wrap (gv5 (((8 + (x9.toNat * 64)) + (j1.toNat * 8)) + (k2.toNat * 1))))))))) ((IntKind.i64.wrap (two8 + (IntKind.i64.wrap ((IntKind.i64.wrap (gv5 (((8 + (i0.toNat * 64)) + (j1.toNat * 8)) + (x9.toNat * 1)))) * (IntKind.i64.wrap (gv5 (((8 + (x9.toNat * 64)) + (k2.toNat * 8)) + (lv3.toNat * 1))))))))) ((IntKind.i64.wrap (x9 + 1)))) else none) else none) else none) else none) else none) else none) else none) else none) else none) else none) else none) else none) else (out0 one7 two8))

noncomputable def impl_Coalgebra_isFault.a0_0 {ρ : Type} (N : Nat) (K0 : Bool → Option ρ) (rv6 : Nat → Int) (ov10 : Int) (ov11 : Int) : Option ρ :=
  (if (rv6 0) = 0 then none else (if (rv6 0) = 0 then none else (K0 (((Int.tmod ov10 (rv6 0)) != (Int.tmod ov11 (rv6 0)))))))

noncomputable def impl_Coalgebra_isFault.l0 {ρ : Type} (N : Nat) (K0 : Bool → Option ρ) (i0 : Int) (j1 : Int) (k2 : Int) (lv3 : Int) (gv5 : Nat → Int) (rv6 : Nat → Int) (out0 : Int → Int → Option ρ) : Nat → Int → Int → Int → Option ρ
  | 0, _, _, _ => none
  | m + 1, one7, two8, x9 => (impl_Coalgebra_isFault.b0 N K0 ((impl_Coalgebra_isFault.l0 N K0 i0 j1 k2 lv3 gv5 rv6 out0 m)) out0 i0 j1 k2 lv3 gv5 rv6 one7 two8 x9)

noncomputable def impl_Coalgebra_isFault.s {ρ : Type} (N : Nat) (K0 : Bool → Option ρ) (lp0 : (Nat → Int) → Int → Int → Int → Option ρ) (gv4 : Nat → Int) (gv5 : Nat → Int) : Option ρ :=
  (impl_Coalgebra_field N (fun rv6 => (lp0 rv6 0 0 0)) gv4 gv5)

noncomputable def impl_Coalgebra_isFault {ρ : Type} (N : Nat) (K0 : Bool → Option ρ) (i0 : Int) (j1 : Int) (k2 : Int) (lv3 : Int) (gv4 : Nat → Int) (gv5 : Nat → Int) : Option ρ :=
  (impl_Coalgebra_isFault.s N K0 (fun rv6 one7 two8 x9 => (impl_Coalgebra_isFault.l0 N K0 i0 j1 k2 lv3 gv5 rv6 (fun ov10 ov11 => (impl_Coalgebra_isFault.a0_0 N K0 rv6 ov10 ov11)) N one7 two8 x9)) gv4 gv5)

noncomputable def impl_Coalgebra_fault.b0 {ρ : Type} (N : Nat) (K0 : Nat → Nat → (Nat → Int) → Option ρ) (K1 : Option ρ) (rec : Int → Option ρ) (out0 : Option ρ) (gv0 : Nat → Int) (gv1 : Nat → Int) (x2 : Int) : Option ρ :=
  (if (decide (x2 < (IntKind.i64.wrap ((IntKind.i64.wrap ((IntKind.i64.wrap ((gv0 1) * (gv0 1))) * (gv0 1))) * (gv0 1))))) = true then (if (IntKind.i64.wrap ((IntKind.i64.wrap ((gv0 1) * (gv0 1))) * (gv0 1))) = 0 then none else (if (IntKind.i64.wrap ((gv0 1) * (gv0 1))) = 0 then none else (if (gv0 1) = 0 then none else (if (gv0 1) = 0 then none else (if (gv0 1) = 0 then none else (if (gv0 1) = 0 then none else (impl_Coalgebra_isFault N (fun rv3 => (if rv3 = true then (K0 4 4 (upd (upd (upd (upd (fun _ => 0) 0 (IntKind.i64.wrap (Int.tdiv x2 (IntKind.i64.wrap ((IntKind.i64.wrap ((gv0 1) * (gv0 1))) * (gv0 1)))))) 1 (Int.tmod (IntKind.i64.wrap (Int.tdiv x2 (IntKind.i64.wrap ((gv0 1) * (gv0 1))))) (gv0 1))) 2 (Int.tmod (IntKind.i64.wrap (Int.tdiv x2 (gv0 1))) (gv0 1))) 3 (Int.tmod x2 (gv0 1)))) else (rec ((IntKind.i64.wrap (x2 + 1)))))) ((IntKind.i64.wrap (Int.tdiv x2 (IntKind.i64.wrap ((IntKind.i64.wrap ((gv0 1) * (gv0 1))) * (gv0 1)))))) ((Int.tmod (IntKind.i64.wrap (Int.tdiv x2 (IntKind.i64.wrap ((gv0 1) * (gv0 1))))) (gv0 1))) ((Int.tmod (IntKind.i64.wrap (Int.tdiv x2 (gv0 1))) (gv0 1))) ((Int.tmod x2 (gv0 1))) gv0 gv1))))))) else out0)

noncomputable def impl_Coalgebra_fault.a0_0 {ρ : Type} (N : Nat) (K0 : Nat → Nat → (Nat → Int) → Option ρ) (K1 : Option ρ) : Option ρ :=
  K1

noncomputable def impl_Coalgebra_fault.l0 {ρ : Type} (N : Nat) (K0 : Nat → Nat → (Nat → Int) → Option ρ) (K1 : Option ρ) (gv0 : Nat → Int) (gv1 : Nat → Int) (out0 : Option ρ) : Nat → Int → Option ρ
  | 0, _ => none
  | m + 1, x2 => (impl_Coalgebra_fault.b0 N K0 K1 ((impl_Coalgebra_fault.l0 N K0 K1 gv0 gv1 out0 m)) out0 gv0 gv1 x2)

noncomputable def impl_Coalgebra_fault.s {ρ : Type} (N : Nat) (K0 : Nat → Nat → (Nat → Int) → Option ρ) (K1 : Option ρ) (lp0 : Int → Option ρ) : Option ρ :=
  (lp0 0)

noncomputable def impl_Coalgebra_fault {ρ : Type} (N : Nat) (K0 : Nat → Nat → (Nat → Int) → Option ρ) (K1 : Option ρ) (gv0 : Nat → Int) (gv1 : Nat → Int) : Option ρ :=
  (impl_Coalgebra_fault.s N K0 K1 (fun x2 => (impl_Coalgebra_fault.l0 N K0 K1 gv0 gv1 (impl_Coalgebra_fault.a0_0 N K0 K1) N x2)))

noncomputable def impl_IsCoalgebra {ρ : Type} (N : Nat) (K0 : Bool → Option ρ) (c0 : Nat → Int) (c1 : Nat → Int) : Option ρ :=
  (impl_Coalgebra_isShaped N (fun rv2 => (if rv2 = true then (impl_Coalgebra_isCounit N (fun rv3 => (if rv3 = true then (impl_Coalgebra_fault N (fun rv4 rv5 rv6 => (K0 false)) (K0 true) c0 c1) else (K0 false))) c0 c1) else (K0 false))) c0 c1)

noncomputable def impl_Coalgebra_has_c1 {ρ : Type} (N : Nat) (K0 : Bool → Option ρ) (v0 : Nat → Int) (gv1 : Nat → Int) (gv2 : Nat → Int) : Option ρ :=
  (impl_IsVector N (fun rv3 => (K0 ((!rv3)))) ((gv1 0)) ((gv1 1)) v0)

noncomputable def slices_IndexFunc_sf.b0 {ρ : Type} (N : Nat) (K0 : Int → Option ρ) (rec : Int → Option ρ) (out0 : Option ρ) (s0 : Nat) (gv3 : Nat → Int) (gv4 : Nat → Int) (gv5 : Nat → Int) (x6 : Int) : Option ρ :=
  (if (decide (x6 < (s0 : Int))) = true then (if (0 : Int) ≤ x6 ∧ x6 < (s0 : Int) then (impl_Coalgebra_has_c1 N (fun rv7 => (if rv7 = true then (K0 x6) else (rec ((IntKind.i64.wrap (x6 + 1)))))) (fun z => (gv3 ((0 + (x6.toNat * 8)) + z))) gv4 gv5) else none) else out0)

noncomputable def slices_IndexFunc_sf.a0_0 {ρ : Type} (N : Nat) (K0 : Int → Option ρ) : Option ρ :=
  (K0 (-1))

noncomputable def slices_IndexFunc_sf.l0 {ρ : Type} (N : Nat) (K0 : Int → Option ρ) (s0 : Nat) (gv3 : Nat → Int) (gv4 : Nat → Int) (gv5 : Nat → Int) (out0 : Option ρ) : Nat → Int → Option ρ
  | 0, _ => none
  | m + 1, x6 => (slices_IndexFunc_sf.b0 N K0 ((slices_IndexFunc_sf.l0 N K0 s0 gv3 gv4 gv5 out0 m)) out0 s0 gv3 gv4 gv5 x6)

noncomputable def slices_IndexFunc_sf.s {ρ : Type} (N : Nat) (K0 : Int → Option ρ) (lp0 : Int → Option ρ) : Option ρ :=
  (lp0 0)

noncomputable def slices_IndexFunc_sf {ρ : Type} (N : Nat) (K0 : Int → Option ρ) (s0 : Nat) (s1 : Nat) (gv2 : Nat) (gv3 : Nat → Int) (gv4 : Nat → Int) (gv5 : Nat → Int) : Option ρ :=
  (slices_IndexFunc_sf.s N K0 (fun x6 => (slices_IndexFunc_sf.l0 N K0 s0 gv3 gv4 gv5 (slices_IndexFunc_sf.a0_0 N K0) N x6)))

noncomputable def slices_ContainsFunc_sf {ρ : Type} (N : Nat) (K0 : Bool → Option ρ) (s0 : Nat) (s1 : Nat) (gv2 : Nat) (gv3 : Nat → Int) (gv4 : Nat → Int) (gv5 : Nat → Int) : Option ρ :=
  (slices_IndexFunc_sf N (fun rv6 => (K0 ((decide (rv6 ≥ 0))))) s0 s1 (s1 * 8) (fun z => (gv3 (0 + z))) gv4 gv5)

noncomputable def impl_Coalgebra_has_s {ρ : Type} (N : Nat) (K0 : Bool → Option ρ) (list0 : Nat) (list1 : Nat) (gv2 : Nat → Int) (gv3 : Nat → Int) (gv4 : Nat) (gv5 : Nat → Int) : Option ρ :=
  (slices_ContainsFunc_sf N (fun rv6 => (K0 ((!rv6)))) list0 list1 (list1 * 8) (fun z => (gv5 (0 + z))) gv2 gv3)

noncomputable def impl_unless {ρ : Type} (N : Nat) (K0 : Int → Option ρ) (so0 : Bool) (code1 : Int) : Option ρ :=
  (if so0 = true then (K0 0) else (K0 code1))

noncomputable def impl_Coalgebra_code_s {ρ : Type} (N : Nat) (K0 : Int → Option ρ) (list0 : Nat) (list1 : Nat) (gv2 : Nat → Int) (gv3 : Nat → Int) (gv4 : Nat) (gv5 : Nat → Int) : Option ρ :=
  (impl_IsCoalgebra N (fun rv6 => (if rv6 = true then (impl_Coalgebra_has_s N (fun rv7 => (impl_unless N (fun rv8 => (K0 rv8)) (rv7) 1)) list0 list1 gv2 gv3 (list1 * 8) (fun z => (gv5 (0 + z)))) else (impl_unless N (fun rv9 => (K0 rv9)) false 1))) gv2 gv3)

noncomputable def impl_newSystem {ρ : Type} (N : Nat) (K0 : (Nat → Int) → (Nat → Int) → Option ρ) (p0 : Int) (many1 : Int) : Option ρ :=
  (K0 (upd (upd (fun _ => 0) 0 p0) 1 0) (fun _ => many1))

noncomputable def slices_Clone_s {ρ : Type} (N : Nat) (K0 : Nat → (Nat → Int) → Option ρ) (s0 : Nat) (s1 : Nat) (gv2 : Nat) (gv3 : Nat → Int) : Option ρ :=
  (if (0 + s0) * 1 ≤ 140737488355328 then (K0 (0 + s0) (joinN 0 (fun _ => 0) gv3)) else none)

noncomputable def impl_system_solve_c1_su {ρ : Type} (N : Nat) (K0 : Bool → Option ρ) (rv0 : Nat) (gv1 : Nat) (gv2 : Nat → Int) (gv3 : Nat → Int) : Option ρ :=
  (if (0 : Int) ≤ (gv3 0) ∧ (gv3 0) < (rv0 : Int) then (K0 (((gv2 (0 + (((gv3 0)).toNat * 1))) != 0))) else none)

noncomputable def slices_IndexFunc_suhf.b0 {ρ : Type} (N : Nat) (K0 : Int → Option ρ) (rec : Int → Option ρ) (out0 : Option ρ) (s0 : Nat) (gv3 : Nat → Nat) (gv4 : Nat → Nat) (gv5 : Nat → Int) (gv6 : Nat → Int) (x7 : Int) : Option ρ :=
  (if (decide (x7 < (s0 : Int))) = true then (if (0 : Int) ≤ x7 ∧ x7 < (s0 : Int) then (impl_system_solve_c1_su N (fun rv8 => (if rv8 = true then (K0 x7) else (rec ((IntKind.i64.wrap (x7 + 1)))))) (gv4 (0 + (x7.toNat * 1))) ((gv4 (0 + (x7.toNat * 1))) * 1) (fun z => (gv6 ((gv3 (0 + (x7.toNat * 1))) + z))) gv5) else none) else out0)

noncomputable def slices_IndexFunc_suhf.a0_0 {ρ : Type} (N : Nat) (K0 : Int → Option ρ) : Option ρ :=
  (K0 (-1))

noncomputable def slices_IndexFunc_suhf.l0 {ρ : Type} (N : Nat) (K0 : Int → Option ρ) (s0 : Nat) (gv3 : Nat → Nat) (gv4 : Nat → Nat) (gv5 : Nat → Int) (gv6 : Nat → Int) (out0 : Option ρ) : Nat → Int → Option ρ
  | 0, _ => none
  | m + 1, x7 => (slices_IndexFunc_suhf.b0 N K0 ((slices_IndexFunc_suhf.l0 N K0 s0 gv3 gv4 gv5 gv6 out0 m)) out0 s0 gv3 gv4 gv5 gv6 x7)

noncomputable def slices_IndexFunc_suhf.s {ρ : Type} (N : Nat) (K0 : Int → Option ρ) (lp0 : Int → Option ρ) : Option ρ :=
  (lp0 0)

noncomputable def slices_IndexFunc_suhf {ρ : Type} (N : Nat) (K0 : Int → Option ρ) (s0 : Nat) (gv1 : Nat) (gv2 : Nat) (gv3 : Nat → Nat) (gv4 : Nat → Nat) (gv5 : Nat → Int) (gv6 : Nat → Int) : Option ρ :=
  (slices_IndexFunc_suhf.s N K0 (fun x7 => (slices_IndexFunc_suhf.l0 N K0 s0 gv3 gv4 gv5 gv6 (slices_IndexFunc_suhf.a0_0 N K0) N x7)))

noncomputable def impl_field_inverse.b0 {ρ : Type} (N : Nat) (K0 : Int → Option ρ) (rec : Int → Option ρ) (out0 : Option ρ) (f0 : Nat → Int) (x1 : Int) (k2 : Int) : Option ρ :=
  (if (decide (k2 < (f0 0))) = true then (if (f0 0) = 0 then none else (if ((Int.tmod (IntKind.i64.wrap (k2 * (IntKind.i64.wrap x1))) (f0 0)) == 1) = true then (K0 k2) else (rec ((IntKind.i64.wrap (k2 + 1)))))) else out0)

noncomputable def impl_field_inverse.a0_0 {ρ : Type} (N : Nat) (K0 : Int → Option ρ) (f0 : Nat → Int) : Option ρ :=
  (if (f0 0) = 0 then none else (K0 ((Int.tmod 1 (f0 0)))))

noncomputable def impl_field_inverse.l0 {ρ : Type} (N : Nat) (K0 : Int → Option ρ) (f0 : Nat → Int) (x1 : Int) (out0 : Option ρ) : Nat → Int → Option ρ
  | 0, _ => none
  | m + 1, k2 => (impl_field_inverse.b0 N K0 ((impl_field_inverse.l0 N K0 f0 x1 out0 m)) out0 f0 x1 k2)

noncomputable def impl_field_inverse.s {ρ : Type} (N : Nat) (K0 : Int → Option ρ) (lp0 : Int → Option ρ) : Option ρ :=
  (lp0 1)

noncomputable def impl_field_inverse {ρ : Type} (N : Nat) (K0 : Int → Option ρ) (f0 : Nat → Int) (x1 : Int) : Option ρ :=
  (impl_field_inverse.s N K0 (fun k2 => (impl_field_inverse.l0 N K0 f0 x1 (impl_field_inverse.a0_0 N K0 f0) N k2)))

noncomputable def impl_system_clear_v2.b2 {ρ : Type} (N : Nat) (K0 : (Nat → Int) → (Nat → Int) → Option ρ) (rec : Int → (Nat → Int) → Option ρ) (out0 : (Nat → Int) → Option ρ) (at0 : Int) (c1 : Int) (gv2 : Nat → Int) (gv8 : Nat → Nat) (gv9 : Nat → Nat) (x17 : Int) (gv18 : Nat → Int) (x19 : Int) (gv20 : Nat → Int) : Option ρ :=
  (if (decide (x19 < (((gv9 (0 + (at0.toNat * 1))) : Nat) : Int))) = true then (if (0 : Int) ≤ x19 ∧ x19 < (((gv9 (0 + (at0.toNat * 1))) : Nat) : Int) then (if (0 : Int) ≤ x19 ∧ x19 < (((gv9 (0 + (x17.toNat * 1))) : Nat) : Int) then (impl_field_mod N (fun rv21 => (if (0 : Int) ≤ x19 ∧ x19 < (((gv9 (0 + (x17.toNat * 1))) : Nat) : Int) then (rec ((IntKind.i64.wrap (x19 + 1))) (upd gv20 ((gv8 (0 + (x17.toNat * 1))) + (x19.toNat * 1)) rv21)) else none)) gv2 ((IntKind.i64.wrap ((IntKind.i64.wrap (gv20 ((gv8 (0 + (x17.toNat * 1))) + (x19.toNat * 1)))) - (IntKind.i64.wrap ((IntKind.i64.wrap (gv18 ((gv8 (0 + (x17.toNat * 1))) + (c1.toNat * 1)))) * (IntKind.i64.wrap (gv20 ((gv8 (0 + (at0.toNat * 1))) + (x19.toNat * 1)))))))))) else none) else none) else (out0 gv20))

noncomputable def impl_system_clear_v2.a2_0 {ρ : Type} (N : Nat) (K0 : (Nat → Int) → (Nat → Int) → Option ρ) (rec : Int → (Nat → Int) → Option ρ) (out0 : (Nat → Int) → Option ρ) (x17 : Int) (ov22 : Nat → Int) : Option ρ :=
  (rec ((IntKind.i64.wrap (x17 + 1))) ov22)

noncomputable def impl_system_clear_v2.b1 {ρ : Type} (N : Nat) (K0 : (Nat → Int) → (Nat → Int) → Option ρ) (lp2 : Int → (Nat → Int) → Option ρ) (rec : Int → (Nat → Int) → Option ρ) (out0 : (Nat → Int) → Option ρ) (at0 : Int) (c1 : Int) (gv4 : Nat) (gv8 : Nat → Nat) (gv9 : Nat → Nat) (x17 : Int) (gv18 : Nat → Int) : Option ρ :=
  (if (decide (x17 < (gv4 : Int))) = true then (if (0 : Int) ≤ x17 ∧ x17 < (gv4 : Int) then (if (x17 == at0) = true then (rec ((IntKind.i64.wrap (x17 + 1))) gv18) else (if (0 : Int) ≤ c1 ∧ c1 < (((gv9 (0 + (x17.toNat * 1))) : Nat) : Int) then (if ((gv18 ((gv8 (0 + (x17.toNat * 1))) + (c1.toNat * 1))) == 0) = true then (rec ((IntKind.i64.wrap (x17 + 1))) gv18) else (if (0 : Int) ≤ c1 ∧ c1 < (((gv9 (0 + (x17.toNat * 1))) : Nat) : Int) then (lp2 0 gv18) else none)) else none)) else none) else (out0 gv18))

noncomputable def impl_system_clear_v2.a1_0 {ρ : Type} (N : Nat) (K0 : (Nat → Int) → (Nat → Int) → Option ρ) (gv10 : Nat → Int) (ov23 : Nat → Int) : Option ρ :=
  (K0 gv10 ov23)

noncomputable def impl_system_clear_v2.b0 {ρ : Type} (N : Nat) (K0 : (Nat → Int) → (Nat → Int) → Option ρ) (rec : Int → (Nat → Int) → Option ρ) (out0 : (Nat → Int) → Option ρ) (at0 : Int) (gv2 : Nat → Int) (gv8 : Nat → Nat) (gv9 : Nat → Nat) (rv12 : Int) (x13 : Int) (gv14 : Nat → Int) : Option ρ :=
  (if (decide (x13 < (((gv9 (0 + (at0.toNat * 1))) : Nat) : Int))) = true then (if (0 : Int) ≤ x13 ∧ x13 < (((gv9 (0 + (at0.toNat * 1))) : Nat) : Int) then (impl_field_mod N (fun rv15 => (if (0 : Int) ≤ x13 ∧ x13 < (((gv9 (0 + (at0.toNat * 1))) : Nat) : Int) then (rec ((IntKind.i64.wrap (x13 + 1))) (upd gv14 ((gv8 (0 + (at0.toNat * 1))) + (x13.toNat * 1)) rv15)) else none)) gv2 ((IntKind.i64.wrap (rv12 * (IntKind.i64.wrap (gv14 ((gv8 (0 + (at0.toNat * 1))) + (x13.toNat * 1)))))))) else none) else (out0 gv14))

noncomputable def impl_system_clear_v2.a0_0 {ρ : Type} (N : Nat) (K0 : (Nat → Int) → (Nat → Int) → Option ρ) (lp1 : Int → (Nat → Int) → Option ρ) (ov16 : Nat → Int) : Option ρ :=
  (lp1 0 ov16)

noncomputable def impl_system_clear_v2.l2 {ρ : Type} (N : Nat) (K0 : (Nat → Int) → (Nat → Int) → Option ρ) (at0 : Int) (c1 : Int) (gv2 : Nat → Int) (gv8 : Nat → Nat) (gv9 : Nat → Nat) (x17 : Int) (gv18 : Nat → Int) (out0 : (Nat → Int) → Option ρ) : Nat → Int → (Nat → Int) → Option ρ
  | 0, _, _ => none
  | m + 1, x19, gv20 => (impl_system_clear_v2.b2 N K0 ((impl_system_clear_v2.l2 N K0 at0 c1 gv2 gv8 gv9 x17 gv18 out0 m)) out0 at0 c1 gv2 gv8 gv9 x17 gv18 x19 gv20)

noncomputable def impl_system_clear_v2.l1 {ρ : Type} (N : Nat) (K0 : (Nat → Int) → (Nat → Int) → Option ρ) (at0 : Int) (c1 : Int) (gv2 : Nat → Int) (gv4 : Nat) (gv8 : Nat → Nat) (gv9 : Nat → Nat) (out0 : (Nat → Int) → Option ρ) : Nat → Int → (Nat → Int) → Option ρ
  | 0, _, _ => none
  | m + 1, x17, gv18 => (impl_system_clear_v2.b1 N K0 (fun x19 gv20 => (impl_system_clear_v2.l2 N K0 at0 c1 gv2 gv8 gv9 x17 gv18 (fun ov22 => (impl_system_clear_v2.a2_0 N K0 (impl_system_clear_v2.l1 N K0 at0 c1 gv2 gv4 gv8 gv9 out0 m) out0 x17 ov22)) N x19 gv20)) ((impl_system_clear_v2.l1 N K0 at0 c1 gv2 gv4 gv8 gv9 out0 m)) out0 at0 c1 gv4 gv8 gv9 x17 gv18)

noncomputable def impl_system_clear_v2.l0 {ρ : Type} (N : Nat) (K0 : (Nat → Int) → (Nat → Int) → Option ρ) (at0 : Int) (gv2 : Nat → Int) (gv8 : Nat → Nat) (gv9 : Nat → Nat) (rv12 : Int) (out0 : (Nat → Int) → Option ρ) : Nat → Int → (Nat → Int) → Option ρ
  | 0, _, _ => none
  | m + 1, x13, gv14 => (impl_system_clear_v2.b0 N K0 ((impl_system_clear_v2.l0 N K0 at0 gv2 gv8 gv9 rv12 out0 m)) out0 at0 gv2 gv8 gv9 rv12 x13 gv14)

noncomputable def impl_system_clear_v2.s {ρ : Type} (N : Nat) (K0 : (Nat → Int) → (Nat → Int) → Option ρ) (lp0 : Int → Int → (Nat → Int) → Option ρ) (at0 : Int) (c1 : Int) (gv2 : Nat → Int) (gv4 : Nat) (gv8 : Nat → Nat) (gv9 : Nat → Nat) (gv11 : Nat → Int) : Option ρ :=
  (if (0 : Int) ≤ at0 ∧ at0 < (gv4 : Int) then (if (0 : Int) ≤ c1 ∧ c1 < (((gv9 (0 + (at0.toNat * 1))) : Nat) : Int) then (impl_field_inverse N (fun rv12 => (lp0 rv12 0 gv11)) gv2 ((gv11 ((gv8 (0 + (at0.toNat * 1))) + (c1.toNat * 1))))) else none) else none)

noncomputable def impl_system_clear_v2 {ρ : Type} (N : Nat) (K0 : (Nat → Int) → (Nat → Int) → Option ρ) (at0 : Int) (c1 : Int) (gv2 : Nat → Int) (gv3 : Nat → Int) (gv4 : Nat) (gv5 : Nat) (gv6 : Nat) (gv7 : Nat) (gv8 : Nat → Nat) (gv9 : Nat → Nat) (gv10 : Nat → Int) (gv11 : Nat → Int) : Option ρ :=
  (impl_system_clear_v2.s N K0 (fun rv12 x13 gv14 => (impl_system_clear_v2.l0 N K0 at0 gv2 gv8 gv9 rv12 (fun ov16 => (impl_system_clear_v2.a0_0 N K0 (fun x17 gv18 => (impl_system_clear_v2.l1 N K0 at0 c1 gv2 gv4 gv8 gv9 (fun ov23 => (impl_system_clear_v2.a1_0 N K0 gv10 ov23)) N x17 gv18)) ov16)) N x13 gv14)) at0 c1 gv2 gv4 gv8 gv9 gv11)

noncomputable def impl_system_solve_c2_su {ρ : Type} (N : Nat) (K0 : Bool → Option ρ) (rv0 : Nat) (gv1 : Nat) (gv2 : Nat → Int) (gv3 : Nat → Int) (gv4 : Nat → Int) (gv5 : Nat) (gv6 : Nat) (gv7 : Nat) (gv8 : Nat) (gv9 : Nat → Nat) (gv10 : Nat → Nat) (gv11 : Nat) (gv12 : Nat → Int) (gv13 : Nat → Int) : Option ρ :=
  (if (0 : Int) ≤ (gv4 0) ∧ (gv4 0) < (rv0 : Int) then (K0 (((gv2 (0 + (((gv4 0)).toNat * 1))) != 0))) else none)

noncomputable def slices_IndexFunc_suhf_v2.b0 {ρ : Type} (N : Nat) (K0 : Int → Option ρ) (rec : Int → Option ρ) (out0 : Option ρ) (s0 : Nat) (gv3 : Nat → Nat) (gv4 : Nat → Nat) (gv5 : Nat → Int) (gv6 : Nat → Int) (gv7 : Nat → Int) (gv8 : Nat) (gv9 : Nat) (gv11 : Nat) (gv12 : Nat → Nat) (gv13 : Nat → Nat) (gv15 : Nat → Int) (x16 : Int) : Option ρ :=
  (if (decide (x16 < (s0 : Int))) = true then (if (0 : Int) ≤ x16 ∧ x16 < (s0 : Int) then (impl_system_solve_c2_su N (fun rv17 => (if rv17 = true then (K0 x16) else (rec ((IntKind.i64.wrap (x16 + 1)))))) (gv4 (0 + (x16.toNat * 1))) ((gv4 (0 + (x16.toNat * 1))) * 1) (fun z => (gv5 ((gv3 (0 + (x16.toNat * 1))) + z))) gv6 gv7 gv8 gv9 (gv8 * 1) gv11 (offN 0 gv12) (offN 0 gv13) (gv9 * 1) (fun z => (gv15 (0 + z))) gv5) else none) else out0)

noncomputable def slices_IndexFunc_suhf_v2.a0_0 {ρ : Type} (N : Nat) (K0 : Int → Option ρ) : Option ρ :=
  (K0 (-1))

noncomputable def slices_IndexFunc_suhf_v2.l0 {ρ : Type} (N : Nat) (K0 : Int → Option ρ) (s0 : Nat) (gv3 : Nat → Nat) (gv4 : Nat → Nat) (gv5 : Nat → Int) (gv6 : Nat → Int) (gv7 : Nat → Int) (gv8 : Nat) (gv9 : Nat) (gv11 : Nat) (gv12 : Nat → Nat) (gv13 : Nat → Nat) (gv15 : Nat → Int) (out0 : Option ρ) : Nat → Int → Option ρ
  | 0, _ => none
  | m + 1, x16 => (slices_IndexFunc_suhf_v2.b0 N K0 ((slices_IndexFunc_suhf_v2.l0 N K0 s0 gv3 gv4 gv5 gv6 gv7 gv8 gv9 gv11 gv12 gv13 gv15 out0 m)) out0 s0 gv3 gv4 gv5 gv6 gv7 gv8 gv9 gv11 gv12 gv13 gv15 x16)

noncomputable def slices_IndexFunc_suhf_v2.s {ρ : Type} (N : Nat) (K0 : Int → Option ρ) (lp0 : Int → Option ρ) : Option ρ :=
  (lp0 0)

noncomputable def slices_IndexFunc_suhf_v2 {ρ : Type} (N : Nat) (K0 : Int → Option ρ) (s0 : Nat) (gv1 : Nat) (gv2 : Nat) (gv3 : Nat → Nat) (gv4 : Nat → Nat) (gv5 : Nat → Int) (gv6 : Nat → Int) (gv7 : Nat → Int) (gv8 : Nat) (gv9 : Nat) (gv10 : Nat) (gv11 : Nat) (gv12 : Nat → Nat) (gv13 : Nat → Nat) (gv14 : Nat) (gv15 : Nat → Int) : Option ρ :=
  (slices_IndexFunc_suhf_v2.s N K0 (fun x16 => (slices_IndexFunc_suhf_v2.l0 N K0 s0 gv3 gv4 gv5 gv6 gv7 gv8 gv9 gv11 gv12 gv13 gv15 (slices_IndexFunc_suhf_v2.a0_0 N K0) N x16)))

noncomputable def slices_ContainsFunc_suhf {ρ : Type} (N : Nat) (K0 : Bool → Option ρ) (s0 : Nat) (gv1 : Nat) (gv2 : Nat) (gv3 : Nat → Nat) (gv4 : Nat → Nat) (gv5 : Nat → Int) (gv6 : Nat → Int) (gv7 : Nat → Int) (gv8 : Nat) (gv9 : Nat) (gv10 : Nat) (gv11 : Nat) (gv12 : Nat → Nat) (gv13 : Nat → Nat) (gv14 : Nat) (gv15 : Nat → Int) : Option ρ :=
  (slices_IndexFunc_suhf_v2 N (fun rv16 => (K0 ((decide (rv16 ≥ 0))))) s0 (s0 * 1) gv2 (offN 0 gv3) (offN 0 gv4) gv5 gv6 gv7 gv8 gv9 (gv8 * 1) gv11 (offN 0 gv12) (offN 0 gv13) (gv9 * 1) (fun z => (gv15 (0 + z))))

noncomputable def impl_system_solve.b0 {ρ : Type} (N : Nat) (K0 : Bool → Nat → Nat → Nat → (Nat → Nat) → (Nat → Nat) → (Nat → Int) → (Nat → Int) → Option ρ) (rec : Int → Nat → (Nat → Nat) → (Nat → Nat) → (Nat → Int) → (Nat → Int) → (Nat → Int) → Option ρ) (out0 : Int → Nat → (Nat → Nat) → (Nat → Nat) → (Nat → Int) → (Nat → Int) → Option ρ) (gv0 : Nat → Int) (gv1 : Nat → Int) (gv2 : Nat) (gv3 : Nat) (done7 : Int) (gv8 : Nat) (gv9 : Nat → Nat) (gv10 : Nat → Nat) (gv11 : Nat → Int) (gv12 : Nat → Int) (gv13 : Nat → Int) : Option ρ :=
  (if (decide ((gv12 0) < (gv1 0))) = true then (if (decide (done7 < (gv2 : Int))) = true then (if (0 : Int) ≤ done7 ∧ done7 ≤ (gv2 : Int) ∧ (gv2 : Int) ≤ (gv2 : Int) then (slices_IndexFunc_suhf N (fun rv14 => (if (decide (rv14 < 0)) = true then (rec done7 gv8 gv9 gv10 gv11 (fun _ => (IntKind.i64.wrap ((gv12 0) + 1))) gv13) else (if (0 : Int) ≤ (IntKind.i64.wrap (done7 + rv14)) ∧ (IntKind.i64.wrap (done7 + rv14)) < (gv2 : Int) then (if (0 : Int) ≤ done7 ∧ done7 < (gv2 : Int) then (if (0 : Int) ≤ done7 ∧ done7 < (gv2 : Int) then (if (0 : Int) ≤ (IntKind.i64.wrap (done7 + rv14)) ∧ (IntKind.i64.wrap (done7 + rv14)) < (gv2 : Int) then (impl_system_clear_v2 N (fun rv15 rv16 => (if (gv8 + 1) * 8 ≤ 140737488355328 then (rec ((IntKind.i64.wrap (done7 + 1))) (gv8 + 1) (upd (upd gv9 (0 + (done7.toNat * 1)) (gv9 (0 + (((IntKind.i64.wrap (done7 + rv14))).toNat * 1)))) (0 + (((IntKind.i64.wrap (done7 + rv14))).toNat * 1)) (gv9 (0 + (done7.toNat * 1)))) (upd (upd gv10 (0 + (done7.toNat * 1)) (gv10 (0 + (((IntKind.i64.wrap (done7 + rv14))).toNat * 1)))) (0 + (((IntKind.i64.wrap (done7 + rv14))).toNat * 1)) (gv10 (0 + (done7.toNat * 1)))) rv16 (fun _ => (IntKind.i64.wrap ((gv12 0) + 1))) (joinN (gv8 * 1) rv15 (upd (fun _ => 0) 0 (gv12 0)))) else none)) done7 ((gv12 0)) gv0 gv1 gv2 gv8 (gv2 * 1) gv3 (offN 0 (upd (upd gv9 (0 + (done7.toNat * 1)) (gv9 (0 + (((IntKind.i64.wrap (done7 + rv14))).toNat * 1)))) (0 + (((IntKind.i64.wrap (done7 + rv14))).toNat * 1)) (gv9 (0 + (done7.toNat * 1))))) (offN 0 (upd (upd gv10 (0 + (done7.toNat * 1)) (gv10 (0 + (((IntKind.i64.wrap (done7 + rv14))).toNat * 1)))) (0 + (((IntKind.i64.wrap (done7 + rv14))).toNat * 1)) (gv10 (0 + (done7.toNat * 1))))) gv13 gv11) else none) else none) else none) else none))) (((gv2 : Int)).toNat - done7.toNat) ((((gv2 : Int)).toNat - done7.toNat) * 1) gv3 (offN (0 + (done7.toNat * 1)) gv9) (offN (0 + (done7.toNat * 1)) gv10) gv12 gv11) else none) else (out0 done7 gv8 gv9 gv10 gv11 gv13)) else (out0 done7 gv8 gv9 gv10 gv11 gv13))

noncomputable def impl_system_solve.a0_0 {ρ : Type} (N : Nat) (K0 : Bool → Nat → Nat → Nat → (Nat → Nat) → (Nat → Nat) → (Nat → Int) → (Nat → Int) → Option ρ) (gv0 : Nat → Int) (gv1 : Nat → Int) (gv2 : Nat) (gv3 : Nat) (ov17 : Int) (ov18 : Nat) (ov19 : Nat → Nat) (ov20 : Nat → Nat) (ov21 : Nat → Int) (ov22 : Nat → Int) : Option ρ :=
  (if (0 : Int) ≤ ov17 ∧ ov17 ≤ (gv2 : Int) ∧ (gv2 : Int) ≤ (gv2 : Int) then (if (0 : Int) ≤ (0 : Int) ∧ (0 : Int) ≤ ov17 ∧ ov17 ≤ (gv2 : Int) then (slices_ContainsFunc_suhf N (fun rv23 => (K0 ((!rv23)) ov17.toNat ov18 gv3 ov19 ov20 ov21 ov22)) (((gv2 : Int)).toNat - ov17.toNat) ((((gv2 : Int)).toNat - ov17.toNat) * 1) gv3 (offN (0 + (ov17.toNat * 1)) ov19) (offN (0 + (ov17.toNat * 1)) ov20) ov21 gv0 gv1 ov17.toNat ov18 (ov17.toNat * 1) gv3 (offN 0 ov19) (offN 0 ov20) (ov18 * 1) (fun z => (ov22 (0 + z)))) else none) else none)

noncomputable def impl_system_solve.l0 {ρ : Type} (N : Nat) (K0 : Bool → Nat → Nat → Nat → (Nat → Nat) → (Nat → Nat) → (Nat → Int) → (Nat → Int) → Option ρ) (gv0 : Nat → Int) (gv1 : Nat → Int) (gv2 : Nat) (gv3 : Nat) (out0 : Int → Nat → (Nat → Nat) → (Nat → Nat) → (Nat → Int) → (Nat → Int) → Option ρ) : Nat → Int → Nat → (Nat → Nat) → (Nat → Nat) → (Nat → Int) → (Nat → Int) → (Nat → Int) → Option ρ
  | 0, _, _, _, _, _, _, _ => none
  | m + 1, done7, gv8, gv9, gv10, gv11, gv12, gv13 => (impl_system_solve.b0 N K0 ((impl_system_solve.l0 N K0 gv0 gv1 gv2 gv3 out0 m)) out0 gv0 gv1 gv2 gv3 done7 gv8 gv9 gv10 gv11 gv12 gv13)

noncomputable def impl_system_solve.s {ρ : Type} (N : Nat) (K0 : Bool → Nat → Nat → Nat → (Nat → Nat) → (Nat → Nat) → (Nat → Int) → (Nat → Int) → Option ρ) (lp0 : Int → Nat → (Nat → Nat) → (Nat → Nat) → (Nat → Int) → (Nat → Int) → (Nat → Int) → Option ρ) (gv4 : Nat → Nat) (gv5 : Nat → Nat) (gv6 : Nat → Int) : Option ρ :=
  (lp0 0 0 gv4 gv5 gv6 (fun _ => 0) (fun _ => 0))

noncomputable def impl_system_solve {ρ : Type} (N : Nat) (K0 : Bool → Nat → Nat → Nat → (Nat → Nat) → (Nat → Nat) → (Nat → Int) → (Nat → Int) → Option ρ) (gv0 : Nat → Int) (gv1 : Nat → Int) (gv2 : Nat) (gv3 : Nat) (gv4 : Nat → Nat) (gv5 : Nat → Nat) (gv6 : Nat → Int) : Option ρ :=
  (impl_system_solve.s N K0 (fun done7 gv8 gv9 gv10 gv11 gv12 gv13 => (impl_system_solve.l0 N K0 gv0 gv1 gv2 gv3 (fun ov17 ov18 ov19 ov20 ov21 ov22 => (impl_system_solve.a0_0 N K0 gv0 gv1 gv2 gv3 ov17 ov18 ov19 ov20 ov21 ov22)) N done7 gv8 gv9 gv10 gv11 gv12 gv13)) gv4 gv5 gv6)

noncomputable def impl_reduced_s.b1 {ρ : Type} (N : Nat) (K0 : Nat → (Nat → Int) → Option ρ) (rec : Nat → Int → (Nat → Int) → Option ρ) (out0 : Nat → (Nat → Int) → Option ρ) (rv21 : Nat) (rv24 : Nat → Nat) (rv25 : Nat → Nat) (rv26 : Nat → Int) (outv28 : Nat) (x29 : Int) (gv30 : Nat → Int) : Option ρ :=
  (if (decide (x29 < (rv21 : Int))) = true then (if (0 : Int) ≤ x29 ∧ x29 < (rv21 : Int) then (if (0 : Int) ≤ (0 : Int) ∧ (0 : Int) ≤ (8 : Int) ∧ (8 : Int) ≤ (((rv25 (0 + (x29.toNat * 1))) : Nat) : Int) then (if (outv28 + 1) * 8 ≤ 140737488355328 then (rec (outv28 + 1) ((IntKind.i64.wrap (x29 + 1))) (joinN (outv28 * 8) gv30 (fun z => (rv26 (((rv24 (0 + (x29.toNat * 1))) + 0) + z))))) else none) else none) else none) else (out0 outv28 gv30))

noncomputable def impl_reduced_s.a1_0 {ρ : Type} (N : Nat) (K0 : Nat → (Nat → Int) → Option ρ) (ov31 : Nat) (ov32 : Nat → Int) : Option ρ :=
  (K0 ov31 ov32)

noncomputable def impl_reduced_s.b0 {ρ : Type} (N : Nat) (K0 : Nat → (Nat → Int) → Option ρ) (rec : Int → Nat → Nat → (Nat → Nat) → (Nat → Nat) → (Nat → Int) → Option ρ) (out0 : Nat → Nat → (Nat → Nat) → (Nat → Nat) → (Nat → Int) → Option ρ) (list1 : Nat) (gv4 : Nat → Int) (x7 : Int) (gv8 : Nat) (gv9 : Nat) (gv10 : Nat → Nat) (gv11 : Nat → Nat) (gv12 : Nat → Int) : Option ρ :=
  (if (decide (x7 < (list1 : Int))) = true then (if (0 : Int) ≤ x7 ∧ x7 < (list1 : Int) then (slices_Clone_s N (fun rv13 rv14 => (if (rv13 + 1) * 1 ≤ 140737488355328 then (if (gv8 + 1) * 24 ≤ 140737488355328 then (rec ((IntKind.i64.wrap (x7 + 1))) (gv8 + 1) (gv9 + (rv13 + 1)) (upd gv10 gv8 gv9) (upd gv11 gv8 (rv13 + 1)) (joinN gv9 gv12 (joinN (rv13 * 1) rv14 (upd (fun _ => 0) 0 0)))) else none) else none)) 8 8 8 (fun z => (gv4 ((0 + (x7.toNat * 8)) + (0 + z))))) else none) else (out0 gv8 gv9 gv10 gv11 gv12))

noncomputable def impl_reduced_s.a0_0 {ρ : Type} (N : Nat) (K0 : Nat → (Nat → Int) → Option ρ) (lp1 : Nat → Nat → (Nat → Nat) → (Nat → Nat) → (Nat → Int) → Nat → Int → (Nat → Int) → Option ρ) (rv5 : Nat → Int) (rv6 : Nat → Int) (ov15 : Nat) (ov16 : Nat) (ov17 : Nat → Nat) (ov18 : Nat → Nat) (ov19 : Nat → Int) : Option ρ :=
  (impl_system_solve N (fun rv20 rv21 rv22 rv23 rv24 rv25 rv26 rv27 => (lp1 rv21 rv23 rv24 rv25 rv26 0 0 (fun _ => 0))) rv5 rv6 ov15 ov16 ov17 ov18 ov19)

noncomputable def impl_reduced_s.l1 {ρ : Type} (N : Nat) (K0 : Nat → (Nat → Int) → Option ρ) (rv21 : Nat) (rv24 : Nat → Nat) (rv25 : Nat → Nat) (rv26 : Nat → Int) (out0 : Nat → (Nat → Int) → Option ρ) : Nat → Nat → Int → (Nat → Int) → Option ρ
  | 0, _, _, _ => none
  | m + 1, outv28, x29, gv30 => (impl_reduced_s.b1 N K0 ((impl_reduced_s.l1 N K0 rv21 rv24 rv25 rv26 out0 m)) out0 rv21 rv24 rv25 rv26 outv28 x29 gv30)

noncomputable def impl_reduced_s.l0 {ρ : Type} (N : Nat) (K0 : Nat → (Nat → Int) → Option ρ) (list1 : Nat) (gv4 : Nat → Int) (out0 : Nat → Nat → (Nat → Nat) → (Nat → Nat) → (Nat → Int) → Option ρ) : Nat → Int → Nat → Nat → (Nat → Nat) → (Nat → Nat) → (Nat → Int) → Option ρ
  | 0, _, _, _, _, _, _ => none
  | m + 1, x7, gv8, gv9, gv10, gv11, gv12 => (impl_reduced_s.b0 N K0 ((impl_reduced_s.l0 N K0 list1 gv4 out0 m)) out0 list1 gv4 x7 gv8 gv9 gv10 gv11 gv12)

noncomputable def impl_reduced_s.s {ρ : Type} (N : Nat) (K0 : Nat → (Nat → Int) → Option ρ) (lp0 : (Nat → Int) → (Nat → Int) → Int → Nat → Nat → (Nat → Nat) → (Nat → Nat) → (Nat → Int) → Option ρ) (p0 : Int) : Option ρ :=
  (impl_newSystem N (fun rv5 rv6 => (lp0 rv5 rv6 0 0 0 (fun _ => 0) (fun _ => 0) (fun _ => 0))) p0 8)

noncomputable def impl_reduced_s {ρ : Type} (N : Nat) (K0 : Nat → (Nat → Int) → Option ρ) (p0 : Int) (list1 : Nat) (list2 : Nat) (gv3 : Nat) (gv4 : Nat → Int) : Option ρ :=
  (impl_reduced_s.s N K0 (fun rv5 rv6 x7 gv8 gv9 gv10 gv11 gv12 => (impl_reduced_s.l0 N K0 list1 gv4 (fun ov15 ov16 ov17 ov18 ov19 => (impl_reduced_s.a0_0 N K0 (fun rv21 rv23 rv24 rv25 rv26 outv28 x29 gv30 => (impl_reduced_s.l1 N K0 rv21 rv24 rv25 rv26 (fun ov31 ov32 => (impl_reduced_s.a1_0 N K0 ov31 ov32)) N outv28 x29 gv30)) rv5 rv6 ov15 ov16 ov17 ov18 ov19)) N x7 gv8 gv9 gv10 gv11 gv12)) p0)

noncomputable def impl_Coalgebra_coproduct.b1 {ρ : Type} (N : Nat) (K0 : (Nat → Int) → Option ρ) (rec : Int → (Nat → Int) → Option ρ) (out0 : (Nat → Int) → Option ρ) (v0 : Nat → Int) (gv2 : Nat → Int) (rv3 : Nat → Int) (x4 : Int) (x6 : Int) (gv7 : Nat → Int) : Option ρ :=
  (if (decide (x6 < (rv3 1))) = true then (if (0 : Int) ≤ x6 ∧ x6 < 8 then (if (0 : Int) ≤ x4 ∧ x4 < 8 then (if (0 : Int) ≤ x6 ∧ x6 < 8 then (impl_field_plus N (fun rv8 => (rec ((IntKind.i64.wrap (x6 + 1))) (updN gv7 (x6.toNat * 8) 8 rv8))) rv3 ((IntKind.i64.wrap (v0 x4.toNat))) (fun z => (gv2 (((8 + (x4.toNat * 64)) + (x6.toNat * 8)) + z))) (fun z => (gv7 ((x6.toNat * 8) + z)))) else none) else none) else none) else (out0 gv7))

noncomputable def impl_Coalgebra_coproduct.a1_0 {ρ : Type} (N : Nat) (K0 : (Nat → Int) → Option ρ) (rec : Int → (Nat → Int) → Option ρ) (out0 : (Nat → Int) → Option ρ) (x4 : Int) (ov9 : Nat → Int) : Option ρ :=
  (rec ((IntKind.i64.wrap (x4 + 1))) ov9)

noncomputable def impl_Coalgebra_coproduct.b0 {ρ : Type} (N : Nat) (K0 : (Nat → Int) → Option ρ) (lp1 : Int → (Nat → Int) → Option ρ) (rec : Int → (Nat → Int) → Option ρ) (out0 : (Nat → Int) → Option ρ) (x4 : Int) (gv5 : Nat → Int) : Option ρ :=
  (if (decide (x4 < 8)) = true then (if (0 : Int) ≤ x4 ∧ x4 < 8 then (lp1 0 gv5) else none) else (out0 gv5))

noncomputable def impl_Coalgebra_coproduct.a0_0 {ρ : Type} (N : Nat) (K0 : (Nat → Int) → Option ρ) (ov10 : Nat → Int) : Option ρ :=
  (K0 ov10)

noncomputable def impl_Coalgebra_coproduct.l1 {ρ : Type} (N : Nat) (K0 : (Nat → Int) → Option ρ) (v0 : Nat → Int) (gv2 : Nat → Int) (rv3 : Nat → Int) (x4 : Int) (out0 : (Nat → Int) → Option ρ) : Nat → Int → (Nat → Int) → Option ρ
  | 0, _, _ => none
  | m + 1, x6, gv7 => (impl_Coalgebra_coproduct.b1 N K0 ((impl_Coalgebra_coproduct.l1 N K0 v0 gv2 rv3 x4 out0 m)) out0 v0 gv2 rv3 x4 x6 gv7)

noncomputable def impl_Coalgebra_coproduct.l0 {ρ : Type} (N : Nat) (K0 : (Nat → Int) → Option ρ) (v0 : Nat → Int) (gv2 : Nat → Int) (rv3 : Nat → Int) (out0 : (Nat → Int) → Option ρ) : Nat → Int → (Nat → Int) → Option ρ
  | 0, _, _ => none
  | m + 1, x4, gv5 => (impl_Coalgebra_coproduct.b0 N K0 (fun x6 gv7 => (impl_Coalgebra_coproduct.l1 N K0 v0 gv2 rv3 x4 (fun ov9 => (impl_Coalgebra_coproduct.a1_0 N K0 (impl_Coalgebra_coproduct.l0 N K0 v0 gv2 rv3 out0 m) out0 x4 ov9)) N x6 gv7)) ((impl_Coalgebra_coproduct.l0 N K0 v0 gv2 rv3 out0 m)) out0 x4 gv5)

noncomputable def impl_Coalgebra_coproduct.s {ρ : Type} (N : Nat) (K0 : (Nat → Int) → Option ρ) (lp0 : (Nat → Int) → Int → (Nat → Int) → Option ρ) (gv1 : Nat → Int) (gv2 : Nat → Int) : Option ρ :=
  (impl_Coalgebra_field N (fun rv3 => (lp0 rv3 0 (fun _ => 0))) gv1 gv2)

noncomputable def impl_Coalgebra_coproduct {ρ : Type} (N : Nat) (K0 : (Nat → Int) → Option ρ) (v0 : Nat → Int) (gv1 : Nat → Int) (gv2 : Nat → Int) : Option ρ :=
  (impl_Coalgebra_coproduct.s N K0 (fun rv3 x4 gv5 => (impl_Coalgebra_coproduct.l0 N K0 v0 gv2 rv3 (fun ov10 => (impl_Coalgebra_coproduct.a0_0 N K0 ov10)) N x4 gv5)) gv1 gv2)

noncomputable def impl_transposed.b1 {ρ : Type} (N : Nat) (K0 : (Nat → Int) → Option ρ) (rec : Int → (Nat → Int) → Option ρ) (out0 : (Nat → Int) → Option ρ) (gv0 : Nat → Int) (x1 : Int) (x3 : Int) (gv4 : Nat → Int) : Option ρ :=
  (if (decide (x3 < 8)) = true then (if (0 : Int) ≤ x3 ∧ x3 < 8 then (if (0 : Int) ≤ x1 ∧ x1 < 8 then (if (0 : Int) ≤ x1 ∧ x1 < 8 then (if (0 : Int) ≤ x3 ∧ x3 < 8 then (rec ((IntKind.i64.wrap (x3 + 1))) (upd gv4 ((x1.toNat * 8) + (x3.toNat * 1)) (gv0 ((x3.toNat * 8) + (x1.toNat * 1))))) else none) else none) else none) else none) else (out0 gv4))

noncomputable def impl_transposed.a1_0 {ρ : Type} (N : Nat) (K0 : (Nat → Int) → Option ρ) (rec : Int → (Nat → Int) → Option ρ) (out0 : (Nat → Int) → Option ρ) (x1 : Int) (ov5 : Nat → Int) : Option ρ :=
  (rec ((IntKind.i64.wrap (x1 + 1))) ov5)

noncomputable def impl_transposed.b0 {ρ : Type} (N : Nat) (K0 : (Nat → Int) → Option ρ) (lp1 : Int → (Nat → Int) → Option ρ) (rec : Int → (Nat → Int) → Option ρ) (out0 : (Nat → Int) → Option ρ) (x1 : Int) (gv2 : Nat → Int) : Option ρ :=
  (if (decide (x1 < 8)) = true then (lp1 0 gv2) else (out0 gv2))

noncomputable def impl_transposed.a0_0 {ρ : Type} (N : Nat) (K0 : (Nat → Int) → Option ρ) (ov6 : Nat → Int) : Option ρ :=
  (K0 ov6)

noncomputable def impl_transposed.l1 {ρ : Type} (N : Nat) (K0 : (Nat → Int) → Option ρ) (gv0 : Nat → Int) (x1 : Int) (out0 : (Nat → Int) → Option ρ) : Nat → Int → (Nat → Int) → Option ρ
  | 0, _, _ => none
  | m + 1, x3, gv4 => (impl_transposed.b1 N K0 ((impl_transposed.l1 N K0 gv0 x1 out0 m)) out0 gv0 x1 x3 gv4)

noncomputable def impl_transposed.l0 {ρ : Type} (N : Nat) (K0 : (Nat → Int) → Option ρ) (gv0 : Nat → Int) (out0 : (Nat → Int) → Option ρ) : Nat → Int → (Nat → Int) → Option ρ
  | 0, _, _ => none
  | m + 1, x1, gv2 => (impl_transposed.b0 N K0 (fun x3 gv4 => (impl_transposed.l1 N K0 gv0 x1 (fun ov5 => (impl_transposed.a1_0 N K0 (impl_transposed.l0 N K0 gv0 out0 m) out0 x1 ov5)) N x3 gv4)) ((impl_transposed.l0 N K0 gv0 out0 m)) out0 x1 gv2)

noncomputable def impl_transposed.s {ρ : Type} (N : Nat) (K0 : (Nat → Int) → Option ρ) (lp0 : Int → (Nat → Int) → Option ρ) : Option ρ :=
  (lp0 0 (fun _ => 0))

noncomputable def impl_transposed {ρ : Type} (N : Nat) (K0 : (Nat → Int) → Option ρ) (gv0 : Nat → Int) : Option ρ :=
  (impl_transposed.s N K0 (fun x1 gv2 => (impl_transposed.l0 N K0 gv0 (fun ov6 => (impl_transposed.a0_0 N K0 ov6)) N x1 gv2)))

noncomputable def slices_Clone_s_v2 {ρ : Type} (N : Nat) (K0 : Nat → (Nat → Int) → Option ρ) (s0 : Nat) (s1 : Nat) (gv2 : Nat) (gv3 : Nat → Int) : Option ρ :=
  (if (0 + s0) * 8 ≤ 140737488355328 then (K0 (0 + s0) (joinN 0 (fun _ => 0) gv3)) else none)

noncomputable def impl_legs {ρ : Type} (N : Nat) (K0 : Nat → (Nat → Int) → Option ρ) (mv0 : Nat → Int) : Option ρ :=
  (impl_transposed N (fun rv1 => (slices_Clone_s_v2 N (fun rv2 rv3 => (if (rv2 + 8) * 8 ≤ 140737488355328 then (K0 (rv2 + 8) (joinN (rv2 * 8) rv3 rv1)) else none)) 8 8 64 (fun z => (mv0 (0 + z))))) mv0)

noncomputable def impl_lead_c1 {ρ : Type} (N : Nat) (K0 : Bool → Option ρ) (x0 : Int) : Option ρ :=
  (K0 ((x0 != 0)))

noncomputable def slices_IndexFunc_sf_v2.b0 {ρ : Type} (N : Nat) (K0 : Int → Option ρ) (rec : Int → Option ρ) (out0 : Option ρ) (s0 : Nat) (gv3 : Nat → Int) (x4 : Int) : Option ρ :=
  (if (decide (x4 < (s0 : Int))) = true then (if (0 : Int) ≤ x4 ∧ x4 < (s0 : Int) then (impl_lead_c1 N (fun rv5 => (if rv5 = true then (K0 x4) else (rec ((IntKind.i64.wrap (x4 + 1)))))) ((gv3 (0 + (x4.toNat * 1))))) else none) else out0)

noncomputable def slices_IndexFunc_sf_v2.a0_0 {ρ : Type} (N : Nat) (K0 : Int → Option ρ) : Option ρ :=
  (K0 (-1))

noncomputable def slices_IndexFunc_sf_v2.l0 {ρ : Type} (N : Nat) (K0 : Int → Option ρ) (s0 : Nat) (gv3 : Nat → Int) (out0 : Option ρ) : Nat → Int → Option ρ
  | 0, _ => none
  | m + 1, x4 => (slices_IndexFunc_sf_v2.b0 N K0 ((slices_IndexFunc_sf_v2.l0 N K0 s0 gv3 out0 m)) out0 s0 gv3 x4)

noncomputable def slices_IndexFunc_sf_v2.s {ρ : Type} (N : Nat) (K0 : Int → Option ρ) (lp0 : Int → Option ρ) : Option ρ :=
  (lp0 0)

noncomputable def slices_IndexFunc_sf_v2 {ρ : Type} (N : Nat) (K0 : Int → Option ρ) (s0 : Nat) (s1 : Nat) (gv2 : Nat) (gv3 : Nat → Int) : Option ρ :=
  (slices_IndexFunc_sf_v2.s N K0 (fun x4 => (slices_IndexFunc_sf_v2.l0 N K0 s0 gv3 (slices_IndexFunc_sf_v2.a0_0 N K0) N x4)))

noncomputable def impl_lead {ρ : Type} (N : Nat) (K0 : Int → Option ρ) (v0 : Nat → Int) : Option ρ :=
  (slices_IndexFunc_sf_v2 N (fun rv1 => (K0 rv1)) 8 8 8 (fun z => (v0 (0 + z))))

noncomputable def impl_field_rest_su.b0 {ρ : Type} (N : Nat) (K0 : (Nat → Int) → Option ρ) (rec : Int → (Nat → Int) → Option ρ) (out0 : (Nat → Int) → Option ρ) (f0 : Nat → Int) (space1 : Nat) (gv4 : Nat → Int) (x5 : Int) (gv6 : Nat → Int) : Option ρ :=
  (if (decide (x5 < (space1 : Int))) = true then (if (0 : Int) ≤ x5 ∧ x5 < (space1 : Int) then (impl_lead N (fun rv7 => (if (0 : Int) ≤ rv7 ∧ rv7 < 8 then (impl_field_plus N (fun rv8 => (rec ((IntKind.i64.wrap (x5 + 1))) rv8)) f0 ((IntKind.i64.wrap (0 - (IntKind.i64.wrap (gv6 (rv7.toNat * 1)))))) (fun z => (gv4 ((0 + (x5.toNat * 8)) + z))) gv6) else none)) (fun z => (gv4 ((0 + (x5.toNat * 8)) + z)))) else none) else (out0 gv6))

noncomputable def impl_field_rest_su.a0_0 {ρ : Type} (N : Nat) (K0 : (Nat → Int) → Option ρ) (ov9 : Nat → Int) : Option ρ :=
  (K0 ov9)

noncomputable def impl_field_rest_su.l0 {ρ : Type} (N : Nat) (K0 : (Nat → Int) → Option ρ) (f0 : Nat → Int) (space1 : Nat) (gv4 : Nat → Int) (out0 : (Nat → Int) → Option ρ) : Nat → Int → (Nat → Int) → Option ρ
  | 0, _, _ => none
  | m + 1, x5, gv6 => (impl_field_rest_su.b0 N K0 ((impl_field_rest_su.l0 N K0 f0 space1 gv4 out0 m)) out0 f0 space1 gv4 x5 gv6)

noncomputable def impl_field_rest_su.s {ρ : Type} (N : Nat) (K0 : (Nat → Int) → Option ρ) (lp0 : Int → (Nat → Int) → Option ρ) (v2 : Nat → Int) : Option ρ :=
  (lp0 0 v2)

noncomputable def impl_field_rest_su {ρ : Type} (N : Nat) (K0 : (Nat → Int) → Option ρ) (f0 : Nat → Int) (space1 : Nat) (v2 : Nat → Int) (gv3 : Nat) (gv4 : Nat → Int) : Option ρ :=
  (impl_field_rest_su.s N K0 (fun x5 gv6 => (impl_field_rest_su.l0 N K0 f0 space1 gv4 (fun ov9 => (impl_field_rest_su.a0_0 N K0 ov9)) N x5 gv6)) v2)

noncomputable def impl_within_c1 {ρ : Type} (N : Nat) (K0 : Bool → Option ρ) (v0 : Nat → Int) (gv1 : Nat → Int) (gv2 : Nat) (gv3 : Nat) (gv4 : Nat → Int) : Option ρ :=
  (impl_field_rest_su N (fun rv5 => (K0 ((!eqN 8 rv5 (fun _ => 0))))) gv1 gv2 v0 (gv2 * 8) (fun z => (gv4 (0 + z))))

noncomputable def slices_IndexFunc_suf.b0 {ρ : Type} (N : Nat) (K0 : Int → Option ρ) (rec : Int → Option ρ) (out0 : Option ρ) (s0 : Nat) (gv2 : Nat → Int) (gv3 : Nat → Int) (gv4 : Nat) (gv6 : Nat → Int) (x7 : Int) : Option ρ :=
  (if (decide (x7 < (s0 : Int))) = true then (if (0 : Int) ≤ x7 ∧ x7 < (s0 : Int) then (impl_within_c1 N (fun rv8 => (if rv8 = true then (K0 x7) else (rec ((IntKind.i64.wrap (x7 + 1)))))) (fun z => (gv2 ((0 + (x7.toNat * 8)) + z))) gv3 gv4 (gv4 * 8) (fun z => (gv6 (0 + z)))) else none) else out0)

noncomputable def slices_IndexFunc_suf.a0_0 {ρ : Type} (N : Nat) (K0 : Int → Option ρ) : Option ρ :=
  (K0 (-1))

noncomputable def slices_IndexFunc_suf.l0 {ρ : Type} (N : Nat) (K0 : Int → Option ρ) (s0 : Nat) (gv2 : Nat → Int) (gv3 : Nat → Int) (gv4 : Nat) (gv6 : Nat → Int) (out0 : Option ρ) : Nat → Int → Option ρ
  | 0, _ => none
  | m + 1, x7 => (slices_IndexFunc_suf.b0 N K0 ((slices_IndexFunc_suf.l0 N K0 s0 gv2 gv3 gv4 gv6 out0 m)) out0 s0 gv2 gv3 gv4 gv6 x7)

noncomputable def slices_IndexFunc_suf.s {ρ : Type} (N : Nat) (K0 : Int → Option ρ) (lp0 : Int → Option ρ) : Option ρ :=
  (lp0 0)

noncomputable def slices_IndexFunc_suf {ρ : Type} (N : Nat) (K0 : Int → Option ρ) (s0 : Nat) (gv1 : Nat) (gv2 : Nat → Int) (gv3 : Nat → Int) (gv4 : Nat) (gv5 : Nat) (gv6 : Nat → Int) : Option ρ :=
  (slices_IndexFunc_suf.s N K0 (fun x7 => (slices_IndexFunc_suf.l0 N K0 s0 gv2 gv3 gv4 gv6 (slices_IndexFunc_suf.a0_0 N K0) N x7)))

noncomputable def slices_ContainsFunc_suf {ρ : Type} (N : Nat) (K0 : Bool → Option ρ) (s0 : Nat) (gv1 : Nat) (gv2 : Nat → Int) (gv3 : Nat → Int) (gv4 : Nat) (gv5 : Nat) (gv6 : Nat → Int) : Option ρ :=
  (slices_IndexFunc_suf N (fun rv7 => (K0 ((decide (rv7 ≥ 0))))) s0 (s0 * 8) (fun z => (gv2 (0 + z))) gv3 gv4 (gv4 * 8) (fun z => (gv6 (0 + z))))

noncomputable def impl_within_susu {ρ : Type} (N : Nat) (K0 : Bool → Option ρ) (p0 : Int) (space1 : Nat) (list2 : Nat) (gv3 : Nat) (gv4 : Nat → Int) (gv5 : Nat) (gv6 : Nat → Int) : Option ρ :=
  (slices_ContainsFunc_suf N (fun rv7 => (K0 ((!rv7)))) list2 (list2 * 8) (fun z => (gv6 (0 + z))) (upd (upd (fun _ => 0) 0 p0) 1 8) space1 (space1 * 8) (fun z => (gv4 (0 + z))))

noncomputable def impl_IsSubcoalgebra_s.b0 {ρ : Type} (N : Nat) (K0 : Bool → Int → Option ρ) (rec : Int → Option ρ) (out0 : Option ρ) (c0 : Nat → Int) (c1 : Nat → Int) (rv7 : Nat) (rv8 : Nat → Int) (x9 : Int) : Option ρ :=
  (if (decide (x9 < (rv7 : Int))) = true then (if (0 : Int) ≤ x9 ∧ x9 < (rv7 : Int) then (impl_Coalgebra_coproduct N (fun rv10 => (impl_legs N (fun rv11 rv12 => (impl_within_susu N (fun rv13 => (if (!rv13) = true then (K0 false 0) else (rec ((IntKind.i64.wrap (x9 + 1)))))) ((c0 0)) rv7 rv11 (rv7 * 8) (fun z => (rv8 (0 + z))) (rv11 * 8) (fun z => (rv12 (0 + z))))) rv10)) (fun z => (rv8 ((0 + (x9.toNat * 8)) + z))) c0 c1) else none) else out0)

noncomputable def impl_IsSubcoalgebra_s.a0_0 {ρ : Type} (N : Nat) (K0 : Bool → Int → Option ρ) : Option ρ :=
  (K0 true 0)

noncomputable def impl_IsSubcoalgebra_s.l0 {ρ : Type} (N : Nat) (K0 : Bool → Int → Option ρ) (c0 : Nat → Int) (c1 : Nat → Int) (rv7 : Nat) (rv8 : Nat → Int) (out0 : Option ρ) : Nat → Int → Option ρ
  | 0, _ => none
  | m + 1, x9 => (impl_IsSubcoalgebra_s.b0 N K0 ((impl_IsSubcoalgebra_s.l0 N K0 c0 c1 rv7 rv8 out0 m)) out0 c0 c1 rv7 rv8 x9)

noncomputable def impl_IsSubcoalgebra_s.s {ρ : Type} (N : Nat) (K0 : Bool → Int → Option ρ) (lp0 : Nat → (Nat → Int) → Int → Option ρ) (c0 : Nat → Int) (c1 : Nat → Int) (list2 : Nat) (list3 : Nat) (gv5 : Nat → Int) : Option ρ :=
  (impl_Coalgebra_code_s N (fun rv6 => (if (rv6 != 0) = true then (K0 false rv6) else (impl_reduced_s N (fun rv7 rv8 => (lp0 rv7 rv8 0)) ((c0 0)) list2 list3 (list3 * 8) (fun z => (gv5 (0 + z)))))) list2 list3 c0 c1 (list3 * 8) (fun z => (gv5 (0 + z))))

noncomputable def impl_IsSubcoalgebra_s {ρ : Type} (N : Nat) (K0 : Bool → Int → Option ρ) (c0 : Nat → Int) (c1 : Nat → Int) (list2 : Nat) (list3 : Nat) (gv4 : Nat) (gv5 : Nat → Int) : Option ρ :=
  (impl_IsSubcoalgebra_s.s N K0 (fun rv7 rv8 x9 => (impl_IsSubcoalgebra_s.l0 N K0 c0 c1 rv7 rv8 (impl_IsSubcoalgebra_s.a0_0 N K0) N x9)) c0 c1 list2 list3 gv5)

noncomputable def laws_eqVector.b0 {ρ : Type} (N : Nat) (K0 : Bool → Option ρ) (rec : Int → Option ρ) (out0 : Option ρ) (av0 : Nat → Int) (bv1 : Nat → Int) (i2 : Int) : Option ρ :=
  (if (decide (i2 < 8)) = true then (if (0 : Int) ≤ i2 ∧ i2 < 8 then (if (0 : Int) ≤ i2 ∧ i2 < 8 then (if ((av0 (i2.toNat * 1)) != (bv1 (i2.toNat * 1))) = true then (K0 false) else (rec ((IntKind.i64.wrap (i2 + 1))))) else none) else none) else out0)

noncomputable def laws_eqVector.a0_0 {ρ : Type} (N : Nat) (K0 : Bool → Option ρ) : Option ρ :=
  (K0 true)

noncomputable def laws_eqVector.l0 {ρ : Type} (N : Nat) (K0 : Bool → Option ρ) (av0 : Nat → Int) (bv1 : Nat → Int) (out0 : Option ρ) : Nat → Int → Option ρ
  | 0, _ => none
  | m + 1, i2 => (laws_eqVector.b0 N K0 ((laws_eqVector.l0 N K0 av0 bv1 out0 m)) out0 av0 bv1 i2)

noncomputable def laws_eqVector.s {ρ : Type} (N : Nat) (K0 : Bool → Option ρ) (lp0 : Int → Option ρ) : Option ρ :=
  (lp0 0)

noncomputable def laws_eqVector {ρ : Type} (N : Nat) (K0 : Bool → Option ρ) (av0 : Nat → Int) (bv1 : Nat → Int) : Option ρ :=
  (laws_eqVector.s N K0 (fun i2 => (laws_eqVector.l0 N K0 av0 bv1 (laws_eqVector.a0_0 N K0) N i2)))

noncomputable def laws_eqVectorS_ss.b0 {ρ : Type} (N : Nat) (K0 : Bool → Option ρ) (rec : Int → Option ρ) (out0 : Option ρ) (av0 : Nat) (bv2 : Nat) (gv5 : Nat → Int) (gv7 : Nat → Int) (i8 : Int) : Option ρ :=
  (if (decide (i8 < (av0 : Int))) = true then (if (0 : Int) ≤ i8 ∧ i8 < (av0 : Int) then (if (0 : Int) ≤ i8 ∧ i8 < (bv2 : Int) then (laws_eqVector N (fun rv9 => (if (!rv9) = true then (K0 false) else (rec ((IntKind.i64.wrap (i8 + 1)))))) (fun z => (gv5 ((0 + (i8.toNat * 8)) + z))) (fun z => (gv7 ((0 + (i8.toNat * 8)) + z)))) else none) else none) else out0)

noncomputable def laws_eqVectorS_ss.a0_0 {ρ : Type} (N : Nat) (K0 : Bool → Option ρ) : Option ρ :=
  (K0 true)

noncomputable def laws_eqVectorS_ss.l0 {ρ : Type} (N : Nat) (K0 : Bool → Option ρ) (av0 : Nat) (bv2 : Nat) (gv5 : Nat → Int) (gv7 : Nat → Int) (out0 : Option ρ) : Nat → Int → Option ρ
  | 0, _ => none
  | m + 1, i8 => (laws_eqVectorS_ss.b0 N K0 ((laws_eqVectorS_ss.l0 N K0 av0 bv2 gv5 gv7 out0 m)) out0 av0 bv2 gv5 gv7 i8)

noncomputable def laws_eqVectorS_ss.s {ρ : Type} (N : Nat) (K0 : Bool → Option ρ) (lp0 : Int → Option ρ) (av0 : Nat) (bv2 : Nat) : Option ρ :=
  (if ((av0 : Int) != (bv2 : Int)) = true then (K0 false) else (lp0 0))

noncomputable def laws_eqVectorS_ss {ρ : Type} (N : Nat) (K0 : Bool → Option ρ) (av0 : Nat) (av1 : Nat) (bv2 : Nat) (bv3 : Nat) (gv4 : Nat) (gv5 : Nat → Int) (gv6 : Nat) (gv7 : Nat → Int) : Option ρ :=
  (laws_eqVectorS_ss.s N K0 (fun i8 => (laws_eqVectorS_ss.l0 N K0 av0 bv2 gv5 gv7 (laws_eqVectorS_ss.a0_0 N K0) N i8)) av0 bv2)

noncomputable def laws_intactVectorS_ss {ρ : Type} (N : Nat) (K0 : Bool → Option ρ) (x0 : Nat) (x1 : Nat) (y2 : Nat) (y3 : Nat) (gv4 : Nat) (gv5 : Nat → Int) (gv6 : Nat) (gv7 : Nat → Int) : Option ρ :=
  (laws_roomBehind N (fun rv8 => (if ((x0 : Int) == (y2 : Int)) = true then (if (0 : Int) ≤ (0 : Int) ∧ (0 : Int) ≤ (IntKind.i64.wrap ((y2 : Int) + rv8)) ∧ (IntKind.i64.wrap ((y2 : Int) + rv8)) ≤ (x1 : Int) then (if (0 : Int) ≤ (0 : Int) ∧ (0 : Int) ≤ (IntKind.i64.wrap ((y2 : Int) + rv8)) ∧ (IntKind.i64.wrap ((y2 : Int) + rv8)) ≤ (y3 : Int) then (laws_eqVectorS_ss N (fun rv9 => (K0 (rv9))) ((IntKind.i64.wrap ((y2 : Int) + rv8))).toNat x1 ((IntKind.i64.wrap ((y2 : Int) + rv8))).toNat y3 (x1 * 8) (fun z => (gv5 (0 + z))) (y3 * 8) (fun z => (gv7 (0 + z)))) else none) else none) else (K0 false))) ((y2 : Int)))

noncomputable def laws_toVectorS_su1.b1 {ρ : Type} (N : Nat) (K0 : Option ρ) (K1 : Nat → Nat → Nat → (Nat → Int) → Option ρ) (rec : Int → (Nat → Int) → Option ρ) (out0 : (Nat → Int) → Option ρ) (av0 : Nat) (rv3 : Int) (i8 : Int) (gv9 : Nat → Int) : Option ρ :=
  (if (decide (i8 < ((((IntKind.i64.wrap ((av0 : Int) + rv3))).toNat : Nat) : Int))) = true then (if (0 : Int) ≤ i8 ∧ i8 < ((((IntKind.i64.wrap ((av0 : Int) + rv3))).toNat : Nat) : Int) then (rec ((IntKind.i64.wrap (i8 + 1))) (updN gv9 (0 + (i8.toNat * 8)) 8 (upd (fun _ => 0) 0 201))) else none) else (out0 gv9))

noncomputable def laws_toVectorS_su1.a1_0 {ρ : Type} (N : Nat) (K0 : Option ρ) (K1 : Nat → Nat → Nat → (Nat → Int) → Option ρ) (av0 : Nat) (rv3 : Int) (ov10 : Nat → Int) : Option ρ :=
  (if (0 : Int) ≤ (0 : Int) ∧ (0 : Int) ≤ (av0 : Int) ∧ (av0 : Int) ≤ ((((IntKind.i64.wrap ((av0 : Int) + rv3))).toNat : Nat) : Int) then (K1 ((av0 : Int)).toNat ((IntKind.i64.wrap ((av0 : Int) + rv3))).toNat (((IntKind.i64.wrap ((av0 : Int) + rv3))).toNat * 8) ov10) else none)

noncomputable def laws_toVectorS_su1.b0 {ρ : Type} (N : Nat) (K0 : Option ρ) (K1 : Nat → Nat → Nat → (Nat → Int) → Option ρ) (rec : Int → (Nat → Int) → Option ρ) (out0 : (Nat → Int) → Option ρ) (av0 : Nat) (gv2 : Nat → Int) (rv3 : Int) (i4 : Int) (gv5 : Nat → Int) : Option ρ :=
  (if (decide (i4 < (av0 : Int))) = true then (if (0 : Int) ≤ i4 ∧ i4 < (av0 : Int) then (laws_toVector N (fun rv6 => (if (0 : Int) ≤ i4 ∧ i4 < ((((IntKind.i64.wrap ((av0 : Int) + rv3))).toNat : Nat) : Int) then (rec ((IntKind.i64.wrap (i4 + 1))) (updN gv5 (0 + (i4.toNat * 8)) 8 rv6)) else none)) (fun z => (gv2 ((0 + (i4.toNat * 8)) + z)))) else none) else (out0 gv5))

noncomputable def laws_toVectorS_su1.a0_0 {ρ : Type} (N : Nat) (K0 : Option ρ) (K1 : Nat → Nat → Nat → (Nat → Int) → Option ρ) (lp1 : Int → (Nat → Int) → Option ρ) (av0 : Nat) (ov7 : Nat → Int) : Option ρ :=
  (lp1 ((av0 : Int)) ov7)

noncomputable def laws_toVectorS_su1.l1 {ρ : Type} (N : Nat) (K0 : Option ρ) (K1 : Nat → Nat → Nat → (Nat → Int) → Option ρ) (av0 : Nat) (rv3 : Int) (out0 : (Nat → Int) → Option ρ) : Nat → Int → (Nat → Int) → Option ρ
  | 0, _, _ => none
  | m + 1, i8, gv9 => (laws_toVectorS_su1.b1 N K0 K1 ((laws_toVectorS_su1.l1 N K0 K1 av0 rv3 out0 m)) out0 av0 rv3 i8 gv9)

noncomputable def laws_toVectorS_su1.l0 {ρ : Type} (N : Nat) (K0 : Option ρ) (K1 : Nat → Nat → Nat → (Nat → Int) → Option ρ) (av0 : Nat) (gv2 : Nat → Int) (rv3 : Int) (out0 : (Nat → Int) → Option ρ) : Nat → Int → (Nat → Int) → Option ρ
  | 0, _, _ => none
  | m + 1, i4, gv5 => (laws_toVectorS_su1.b0 N K0 K1 ((laws_toVectorS_su1.l0 N K0 K1 av0 gv2 rv3 out0 m)) out0 av0 gv2 rv3 i4 gv5)

noncomputable def laws_toVectorS_su1.s {ρ : Type} (N : Nat) (K0 : Option ρ) (K1 : Nat → Nat → Nat → (Nat → Int) → Option ρ) (lp0 : Int → Int → (Nat → Int) → Option ρ) (av0 : Nat) : Option ρ :=
  (if ((av0 : Int) == 0) = true then K0 else (laws_roomBehind N (fun rv3 => (if (0 : Int) ≤ (IntKind.i64.wrap ((av0 : Int) + rv3)) ∧ (IntKind.i64.wrap ((av0 : Int) + rv3)) ≤ (IntKind.i64.wrap ((av0 : Int) + rv3)) ∧ (8 : Int) * (IntKind.i64.wrap ((av0 : Int) + rv3)) ≤ 1099511627776 ∧ (IntKind.i64.wrap ((av0 : Int) + rv3)) ≤ 1099511627776 then (lp0 rv3 0 (fun _ => 0)) else none)) ((av0 : Int))))

noncomputable def laws_toVectorS_su1 {ρ : Type} (N : Nat) (K0 : Option ρ) (K1 : Nat → Nat → Nat → (Nat → Int) → Option ρ) (av0 : Nat) (gv1 : Nat) (gv2 : Nat → Int) : Option ρ :=
  (laws_toVectorS_su1.s N K0 K1 (fun rv3 i4 gv5 => (laws_toVectorS_su1.l0 N K0 K1 av0 gv2 rv3 (fun ov7 => (laws_toVectorS_su1.a0_0 N K0 K1 (fun i8 gv9 => (laws_toVectorS_su1.l1 N K0 K1 av0 rv3 (fun ov10 => (laws_toVectorS_su1.a1_0 N K0 K1 av0 rv3 ov10)) N i8 gv9)) av0 ov7)) N i4 gv5)) av0)

noncomputable def slices_IndexFunc_nf.b0 {ρ : Type} (N : Nat) (K0 : Int → Option ρ) (rec : Option ρ) (out0 : Option ρ) : Option ρ :=
  out0

noncomputable def slices_IndexFunc_nf.a0_0 {ρ : Type} (N : Nat) (K0 : Int → Option ρ) : Option ρ :=
  (K0 (-1))

noncomputable def slices_IndexFunc_nf.l0 {ρ : Type} (N : Nat) (K0 : Int → Option ρ) (out0 : Option ρ) : Nat → Option ρ
  | 0 => none
  | m + 1 => (slices_IndexFunc_nf.b0 N K0 ((slices_IndexFunc_nf.l0 N K0 out0 m)) out0)

noncomputable def slices_IndexFunc_nf.s {ρ : Type} (N : Nat) (K0 : Int → Option ρ) (lp0 : Option ρ) : Option ρ :=
  lp0

noncomputable def slices_IndexFunc_nf {ρ : Type} (N : Nat) (K0 : Int → Option ρ) (gv0 : Nat → Int) (gv1 : Nat → Int) : Option ρ :=
  (slices_IndexFunc_nf.s N K0 ((slices_IndexFunc_nf.l0 N K0 (slices_IndexFunc_nf.a0_0 N K0) N)))

noncomputable def slices_ContainsFunc_nf {ρ : Type} (N : Nat) (K0 : Bool → Option ρ) (gv0 : Nat → Int) (gv1 : Nat → Int) : Option ρ :=
  (slices_IndexFunc_nf N (fun rv2 => (K0 ((decide (rv2 ≥ 0))))) gv0 gv1)

noncomputable def impl_Coalgebra_has_n {ρ : Type} (N : Nat) (K0 : Bool → Option ρ) (gv0 : Nat → Int) (gv1 : Nat → Int) : Option ρ :=
  (slices_ContainsFunc_nf N (fun rv2 => (K0 ((!rv2)))) gv0 gv1)

noncomputable def impl_Coalgebra_code_n {ρ : Type} (N : Nat) (K0 : Int → Option ρ) (gv0 : Nat → Int) (gv1 : Nat → Int) : Option ρ :=
  (impl_IsCoalgebra N (fun rv2 => (if rv2 = true then (impl_Coalgebra_has_n N (fun rv3 => (impl_unless N (fun rv4 => (K0 rv4)) (rv3) 1)) gv0 gv1) else (impl_unless N (fun rv5 => (K0 rv5)) false 1))) gv0 gv1)

noncomputable def slices_IndexFunc_nf_v2.b0 {ρ : Type} (N : Nat) (K0 : Int → Option ρ) (rec : Option ρ) (out0 : Option ρ) : Option ρ :=
  out0

noncomputable def slices_IndexFunc_nf_v2.a0_0 {ρ : Type} (N : Nat) (K0 : Int → Option ρ) : Option ρ :=
  (K0 (-1))

noncomputable def slices_IndexFunc_nf_v2.l0 {ρ : Type} (N : Nat) (K0 : Int → Option ρ) (out0 : Option ρ) : Nat → Option ρ
  | 0 => none
  | m + 1 => (slices_IndexFunc_nf_v2.b0 N K0 ((slices_IndexFunc_nf_v2.l0 N K0 out0 m)) out0)

noncomputable def slices_IndexFunc_nf_v2.s {ρ : Type} (N : Nat) (K0 : Int → Option ρ) (lp0 : Option ρ) : Option ρ :=
  lp0

noncomputable def slices_IndexFunc_nf_v2 {ρ : Type} (N : Nat) (K0 : Int → Option ρ) (gv0 : Nat → Int) (gv1 : Nat → Int) : Option ρ :=
  (slices_IndexFunc_nf_v2.s N K0 ((slices_IndexFunc_nf_v2.l0 N K0 (slices_IndexFunc_nf_v2.a0_0 N K0) N)))

noncomputable def slices_ContainsFunc_nf_v2 {ρ : Type} (N : Nat) (K0 : Bool → Option ρ) (gv0 : Nat → Int) (gv1 : Nat → Int) : Option ρ :=
  (slices_IndexFunc_nf_v2 N (fun rv2 => (K0 ((decide (rv2 ≥ 0))))) gv0 gv1)

noncomputable def impl_system_solve_v2.b0 {ρ : Type} (N : Nat) (K0 : Bool → Option ρ) (rec : Option ρ) (out0 : Option ρ) (gv1 : Nat → Int) : Option ρ :=
  (if (decide (0 < (gv1 0))) = true then out0 else out0)

noncomputable def impl_system_solve_v2.a0_0 {ρ : Type} (N : Nat) (K0 : Bool → Option ρ) (gv0 : Nat → Int) (gv1 : Nat → Int) : Option ρ :=
  (slices_ContainsFunc_nf_v2 N (fun rv2 => (K0 ((!rv2)))) gv0 gv1)

noncomputable def impl_system_solve_v2.l0 {ρ : Type} (N : Nat) (K0 : Bool → Option ρ) (gv1 : Nat → Int) (out0 : Option ρ) : Nat → Option ρ
  | 0 => none
  | m + 1 => (impl_system_solve_v2.b0 N K0 ((impl_system_solve_v2.l0 N K0 gv1 out0 m)) out0 gv1)

noncomputable def impl_system_solve_v2.s {ρ : Type} (N : Nat) (K0 : Bool → Option ρ) (lp0 : Option ρ) : Option ρ :=
  lp0

noncomputable def impl_system_solve_v2 {ρ : Type} (N : Nat) (K0 : Bool → Option ρ) (gv0 : Nat → Int) (gv1 : Nat → Int) : Option ρ :=
  (impl_system_solve_v2.s N K0 ((impl_system_solve_v2.l0 N K0 gv1 (impl_system_solve_v2.a0_0 N K0 gv0 gv1) N)))

noncomputable def impl_reduced_n.b1 {ρ : Type} (N : Nat) (K0 : Nat → (Nat → Int) → Option ρ) (rec : Option ρ) (out0 : Option ρ) : Option ρ :=
  out0

noncomputable def impl_reduced_n.a1_0 {ρ : Type} (N : Nat) (K0 : Nat → (Nat → Int) → Option ρ) : Option ρ :=
  (K0 0 (fun _ => 0))

noncomputable def impl_reduced_n.b0 {ρ : Type} (N : Nat) (K0 : Nat → (Nat → Int) → Option ρ) (rec : Option ρ) (out0 : Option ρ) : Option ρ :=
  out0

noncomputable def impl_reduced_n.a0_0 {ρ : Type} (N : Nat) (K0 : Nat → (Nat → Int) → Option ρ) (lp1 : Option ρ) (rv1 : Nat → Int) (rv2 : Nat → Int) : Option ρ :=
  (impl_system_solve_v2 N (fun rv3 => lp1) rv1 rv2)

noncomputable def impl_reduced_n.l1 {ρ : Type} (N : Nat) (K0 : Nat → (Nat → Int) → Option ρ) (out0 : Option ρ) : Nat → Option ρ
  | 0 => none
  | m + 1 => (impl_reduced_n.b1 N K0 ((impl_reduced_n.l1 N K0 out0 m)) out0)

noncomputable def impl_reduced_n.l0 {ρ : Type} (N : Nat) (K0 : Nat → (Nat → Int) → Option ρ) (out0 : Option ρ) : Nat → Option ρ
  | 0 => none
  | m + 1 => (impl_reduced_n.b0 N K0 ((impl_reduced_n.l0 N K0 out0 m)) out0)

noncomputable def impl_reduced_n.s {ρ : Type} (N : Nat) (K0 : Nat → (Nat → Int) → Option ρ) (lp0 : (Nat → Int) → (Nat → Int) → Option ρ) (p0 : Int) : Option ρ :=
  (impl_newSystem N (fun rv1 rv2 => (lp0 rv1 rv2)) p0 8)

noncomputable def impl_reduced_n {ρ : Type} (N : Nat) (K0 : Nat → (Nat → Int) → Option ρ) (p0 : Int) : Option ρ :=
  (impl_reduced_n.s N K0 (fun rv1 rv2 => (impl_reduced_n.l0 N K0 (impl_reduced_n.a0_0 N K0 ((impl_reduced_n.l1 N K0 (impl_reduced_n.a1_0 N K0) N)) rv1 rv2) N)) p0)

noncomputable def impl_IsSubcoalgebra_n.b0 {ρ : Type} (N : Nat) (K0 : Bool → Int → Option ρ) (rec : Int → Option ρ) (out0 : Option ρ) (c0 : Nat → Int) (c1 : Nat → Int) (rv3 : Nat) (rv4 : Nat → Int) (x5 : Int) : Option ρ :=
  (if (decide (x5 < (rv3 : Int))) = true then (if (0 : Int) ≤ x5 ∧ x5 < (rv3 : Int) then (impl_Coalgebra_coproduct N (fun rv6 => (impl_legs N (fun rv7 rv8 => (impl_within_susu N (fun rv9 => (if (!rv9) = true then (K0 false 0) else (rec ((IntKind.i64.wrap (x5 + 1)))))) ((c0 0)) rv3 rv7 (rv3 * 8) (fun z => (rv4 (0 + z))) (rv7 * 8) (fun z => (rv8 (0 + z))))) rv6)) (fun z => (rv4 ((0 + (x5.toNat * 8)) + z))) c0 c1) else none) else out0)

noncomputable def impl_IsSubcoalgebra_n.a0_0 {ρ : Type} (N : Nat) (K0 : Bool → Int → Option ρ) : Option ρ :=
  (K0 true 0)

noncomputable def impl_IsSubcoalgebra_n.l0 {ρ : Type} (N : Nat) (K0 : Bool → Int → Option ρ) (c0 : Nat → Int) (c1 : Nat → Int) (rv3 : Nat) (rv4 : Nat → Int) (out0 : Option ρ) : Nat → Int → Option ρ
  | 0, _ => none
  | m + 1, x5 => (impl_IsSubcoalgebra_n.b0 N K0 ((impl_IsSubcoalgebra_n.l0 N K0 c0 c1 rv3 rv4 out0 m)) out0 c0 c1 rv3 rv4 x5)

noncomputable def impl_IsSubcoalgebra_n.s {ρ : Type} (N : Nat) (K0 : Bool → Int → Option ρ) (lp0 : Nat → (Nat → Int) → Int → Option ρ) (c0 : Nat → Int) (c1 : Nat → Int) : Option ρ :=
  (impl_Coalgebra_code_n N (fun rv2 => (if (rv2 != 0) = true then (K0 false rv2) else (impl_reduced_n N (fun rv3 rv4 => (lp0 rv3 rv4 0)) ((c0 0))))) c0 c1)

noncomputable def impl_IsSubcoalgebra_n {ρ : Type} (N : Nat) (K0 : Bool → Int → Option ρ) (c0 : Nat → Int) (c1 : Nat → Int) : Option ρ :=
  (impl_IsSubcoalgebra_n.s N K0 (fun rv3 rv4 x5 => (impl_IsSubcoalgebra_n.l0 N K0 c0 c1 rv3 rv4 (impl_IsSubcoalgebra_n.a0_0 N K0) N x5)) c0 c1)

noncomputable def laws_FnExactIsSubcoalgebra_su {ρ : Type} (N : Nat) (K0 : Bool → Option ρ) (aC0 : Nat → Int) (aC1 : Nat → Int) (aList2 : Nat) (gv3 : Nat) (gv4 : Nat → Int) : Option ρ :=
  (laws_szVectorS_su N (fun rv5 => (if (decide (rv5 < 0)) = true then (K0 true) else (laws_toCoalgebra N (fun rv6 rv7 => (laws_toVectorS_su0 N (fun rv8 rv9 rv10 rv11 => (spec_IsSubcoalgebra_s N (fun rv12 rv13 => (laws_toVectorS_su0 N (fun rv14 rv15 rv16 rv17 => (laws_toCoalgebra N (fun rv18 rv19 => (impl_IsSubcoalgebra_s N (fun rv20 rv21 => (if (!(rv20 == rv12)) = true then (K0 false) else (if (rv21 != rv13) = true then (K0 false) else (laws_toVectorS_su0 N (fun rv22 rv23 rv24 rv25 => (laws_intactVectorS_ss N (fun rv26 => (if (!rv26) = true then (K0 false) else (laws_toCoalgebra N (fun rv27 rv28 => (laws_toVectorS_su1 N (impl_IsSubcoalgebra_n N (fun rv29 rv30 => (if (!(rv29 == rv12)) = true then (K0 false) else (if (rv30 != rv13) = true then (K0 false) else (K0 true)))) rv27 rv28) (fun rv31 rv32 rv33 rv34 => (impl_IsSubcoalgebra_s N (fun rv35 rv36 => (if (!(rv35 == rv12)) = true then (K0 false) else (if (rv36 != rv13) = true then (K0 false) else (K0 true)))) rv27 rv28 rv31 rv32 (rv32 * 8) (fun z => (rv34 (0 + z))))) aList2 (aList2 * 8) (fun z => (gv4 (0 + z))))) aC0 aC1))) rv14 rv15 rv22 rv23 (rv15 * 8) (fun z => (rv17 (0 + z))) (rv23 * 8) (fun z => (rv25 (0 + z))))) aList2 (aList2 * 8) (fun z => (gv4 (0 + z))))))) rv18 rv19 rv14 rv15 (rv15 * 8) (fun z => (rv17 (0 + z))))) aC0 aC1)) aList2 (aList2 * 8) (fun z => (gv4 (0 + z))))) rv6 rv7 rv8 rv9 (rv9 * 8) (fun z => (rv11 (0 + z))))) aList2 (aList2 * 8) (fun z => (gv4 (0 + z))))) aC0 aC1))) aList2 1000000 (aList2 * 8) (fun z => (gv4 (0 + z))))
end Go.Proofs.Ythecjjnieojjoaa.H
