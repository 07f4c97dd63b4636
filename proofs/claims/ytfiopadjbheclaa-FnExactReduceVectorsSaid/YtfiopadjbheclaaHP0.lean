/- The functions that the program computes, in plain Lean. -/
import Derived.Test.YtfiopadjbheclaaHyUse
namespace Go.Proofs.Ytfiopadjbheclaa.H
set_option linter.unusedVariables false
set_option linter.unusedSimpArgs false
open Go Go.RowKit Go.Proofs.Ytfiopadjbheclaa.Hy
set_option linter.unusedVariables false
set_option maxRecDepth 100000
noncomputable def laws_szVectorS_su {ρ : Type} (N : Nat) (K0 : Int → Option ρ) (av0 : Nat) (left1 : Int) (gv2 : Nat) (gv3 : Nat → Int) : Option ρ :=
  (if (decide ((IntKind.i64.wrap (left1 - (av0 : Int))) < 0)) = true then (K0 (-1)) else (K0 ((IntKind.i64.wrap (left1 - (av0 : Int))))))

noncomputable def laws_roomBehind {ρ : Type} (N : Nat) (K0 : Int → Option ρ) (nv0 : Int) : Option ρ :=
  (if ((Int.tmod nv0 6) == 5) = true then (K0 0) else (if ((Int.tmod nv0 3) == 0) = true then (K0 1) else (K0 nv0)))

noncomputable def laws_toVector.b0 {ρ : Type} (N : Nat) (K0 : (Nat → Int) → Option ρ) (rec : Int → (Nat → Int) → Option ρ) (out0 : (Nat → Int) → Option ρ) (av0 : Nat → Int) (i1 : Int) (gv2 : Nat → Int) : Option ρ :=
  (if (decide (i1 < 8)) = true then (if (0 : Int) ≤ i1 ∧ i1 < 8 then (if (0 : Int) ≤ i1 ∧ i1 < 8 then (rec ((IntKind.i64.wrap (i1 + 1))) (upd gv2 (i1.toNat * 1) (av0 (i1.toNat * 1)))) else none) else none) else (out0 gv2))

noncomputable def laws_toVector.a0_0 {ρ : Type} (N : Nat) (K0 : (Nat → Int) → Option ρ) (ov3 : Nat → Int) : Option ρ :=
  (K0 ov3)

noncomputable def laws_toVector.l0 {ρ : Type} (N : Nat) (K0 : (Nat → Int) → Option ρ) (av0 : Nat → Int) (out0 : (Nat → Int) → Option ρ) : Nat → Int → (Nat → Int) → Option ρ
  | 0, _, _ => none
  | m + 1, i1, gv2 => (laws_toVector.b0 N K0 ((laws_toVector.l0 N K0 av0 out0 m)) out0 av0 i1 gv2)

noncomputable def laws_toVector.s {ρ : Type} (N : Nat) (K0 : (Nat → Int) → Option ρ) (lp0 : Int → (Nat → Int) → Option ρ) : Option ρ :=
  (lp0 0 (fun _ => 0))

noncomputable def laws_toVector {ρ : Type} (N : Nat) (K0 : (Nat → Int) → Option ρ) (av0 : Nat → Int) : Option ρ :=
  (laws_toVector.s N K0 (fun i1 gv2 => (laws_toVector.l0 N K0 av0 (fun ov3 => (laws_toVector.a0_0 N K0 ov3)) N i1 gv2)))

noncomputable def laws_toVectorS_su0.b1 {ρ : Type} (N : Nat) (K0 : Nat → Nat → Nat → (Nat → Int) → Option ρ) (rec : Int → (Nat → Int) → Option ρ) (out0 : (Nat → Int) → Option ρ) (av0 : Nat) (rv3 : Int) (i8 : Int) (gv9 : Nat → Int) : Option ρ :=
  (if (decide (i8 < ((((IntKind.i64.wrap ((av0 : Int) + rv3))).toNat : Nat) : Int))) = true then (if (0 : Int) ≤ i8 ∧ i8 < ((((IntKind.i64.wrap ((av0 : Int) + rv3))).toNat : Nat) : Int) then (rec ((IntKind.i64.wrap (i8 + 1))) (updN gv9 (0 + (i8.toNat * 8)) 8 (upd (fun _ => 0) 0 201))) else none) else (out0 gv9))

noncomputable def laws_toVectorS_su0.a1_0 {ρ : Type} (N : Nat) (K0 : Nat → Nat → Nat → (Nat → Int) → Option ρ) (av0 : Nat) (rv3 : Int) (ov10 : Nat → Int) : Option ρ :=
  (if (0 : Int) ≤ (0 : Int) ∧ (0 : Int) ≤ (av0 : Int) ∧ (av0 : Int) ≤ ((((IntKind.i64.wrap ((av0 : Int) + rv3))).toNat : Nat) : Int) then (K0 ((av0 : Int)).toNat ((IntKind.i64.wrap ((av0 : Int) + rv3))).toNat (((IntKind.i64.wrap ((av0 : Int) + rv3))).toNat * 8) ov10) else none)

noncomputable def laws_toVectorS_su0.b0 {ρ : Type} (N : Nat) (K0 : Nat → Nat → Nat → (Nat → Int) → Option ρ) (rec : Int → (Nat → Int) → Option ρ) (out0 : (Nat → Int) → Option ρ) (av0 : Nat) (gv2 : Nat → Int) (rv3 : Int) (i4 : Int) (gv5 : Nat → Int) : Option ρ :=
  (if (decide (i4 < (av0 : Int))) = true then (if (0 : Int) ≤ i4 ∧ i4 < (av0 : Int) then (laws_toVector N (fun rv6 => (if (0 : Int) ≤ i4 ∧ i4 < ((((IntKind.i64.wrap ((av0 : Int) + rv3))).toNat : Nat) : Int) then (rec ((IntKind.i64.wrap (i4 + 1))) (updN gv5 (0 + (i4.toNat * 8)) 8 rv6)) else none)) (fun z => (gv2 ((0 + (i4.toNat * 8)) + z)))) else none) else (out0 gv5))

noncomputable def laws_toVectorS_su0.a0_0 {ρ : Type} (N : Nat) (K0 : Nat → Nat → Nat → (Nat → Int) → Option ρ) (lp1 : Int → (Nat → Int) → Option ρ) (av0 : Nat) (ov7 : Nat → Int) : Option ρ :=
  (lp1 ((av0 : Int)) ov7)

noncomputable def laws_toVectorS_su0.l1 {ρ : Type} (N : Nat) (K0 : Nat → Nat → Nat → (Nat → Int) → Option ρ) (av0 : Nat) (rv3 : Int) (out0 : (Nat → Int) → Option ρ) : Nat → Int → (Nat → Int) → Option ρ
  | 0, _, _ => none
  | m + 1, i8, gv9 => (laws_toVectorS_su0.b1 N K0 ((laws_toVectorS_su0.l1 N K0 av0 rv3 out0 m)) out0 av0 rv3 i8 gv9)

noncomputable def laws_toVectorS_su0.l0 {ρ : Type} (N : Nat) (K0 : Nat → Nat → Nat → (Nat → Int) → Option ρ) (av0 : Nat) (gv2 : Nat → Int) (rv3 : Int) (out0 : (Nat → Int) → Option ρ) : Nat → Int → (Nat → Int) → Option ρ
  | 0, _, _ => none
  | m + 1, i4, gv5 => (laws_toVectorS_su0.b0 N K0 ((laws_toVectorS_su0.l0 N K0 av0 gv2 rv3 out0 m)) out0 av0 gv2 rv3 i4 gv5)

noncomputable def laws_toVectorS_su0.s {ρ : Type} (N : Nat) (K0 : Nat → Nat → Nat → (Nat → Int) → Option ρ) (lp0 : Int → Int → (Nat → Int) → Option ρ) (av0 : Nat) : Option ρ :=
  (laws_roomBehind N (fun rv3 => (if (0 : Int) ≤ (IntKind.i64.wrap ((av0 : Int) + rv3)) ∧ (IntKind.i64.wrap ((av0 : Int) + rv3)) ≤ (IntKind.i64.wrap ((av0 : Int) + rv3)) ∧ (8 : Int) * (IntKind.i64.wrap ((av0 : Int) + rv3)) ≤ 1099511627776 ∧ (IntKind.i64.wrap ((av0 : Int) + rv3)) ≤ 1099511627776 then (lp0 rv3 0 (fun _ => 0)) else none)) ((av0 : Int)))

noncomputable def laws_toVectorS_su0 {ρ : Type} (N : Nat) (K0 : Nat → Nat → Nat → (Nat → Int) → Option ρ) (av0 : Nat) (gv1 : Nat) (gv2 : Nat → Int) : Option ρ :=
  (laws_toVectorS_su0.s N K0 (fun rv3 i4 gv5 => (laws_toVectorS_su0.l0 N K0 av0 gv2 rv3 (fun ov7 => (laws_toVectorS_su0.a0_0 N K0 (fun i8 gv9 => (laws_toVectorS_su0.l1 N K0 av0 rv3 (fun ov10 => (laws_toVectorS_su0.a1_0 N K0 av0 rv3 ov10)) N i8 gv9)) av0 ov7)) N i4 gv5)) av0)

noncomputable def spec_l01In {ρ : Type} (N : Nat) (K0 : Bool → Option ρ) (nv0 : Int) (low1 : Int) (high2 : Int) : Option ρ :=
  (if (decide (nv0 ≥ low1)) = true then (K0 ((decide (nv0 ≤ high2)))) else (K0 false))

noncomputable def spec_l01Prime.b0 {ρ : Type} (N : Nat) (K0 : Bool → Option ρ) (rec : Int → Option ρ) (out0 : Option ρ) (p0 : Int) (k1 : Int) : Option ρ :=
  (if (decide (k1 < p0)) = true then (if (decide (k1 ≤ 31)) = true then (if k1 = 0 then none else (if ((Int.tmod p0 k1) == 0) = true then (K0 false) else (rec ((IntKind.i64.wrap (k1 + 1)))))) else out0) else out0)

noncomputable def spec_l01Prime.a0_0 {ρ : Type} (N : Nat) (K0 : Bool → Option ρ) (p0 : Int) : Option ρ :=
  (spec_l01In N (fun rv2 => (K0 (rv2))) p0 2 31)

noncomputable def spec_l01Prime.l0 {ρ : Type} (N : Nat) (K0 : Bool → Option ρ) (p0 : Int) (out0 : Option ρ) : Nat → Int → Option ρ
  | 0, _ => none
  | m + 1, k1 => (spec_l01Prime.b0 N K0 ((spec_l01Prime.l0 N K0 p0 out0 m)) out0 p0 k1)

noncomputable def spec_l01Prime.s {ρ : Type} (N : Nat) (K0 : Bool → Option ρ) (lp0 : Int → Option ρ) : Option ρ :=
  (lp0 2)

noncomputable def spec_l01Prime {ρ : Type} (N : Nat) (K0 : Bool → Option ρ) (p0 : Int) : Option ρ :=
  (spec_l01Prime.s N K0 (fun k1 => (spec_l01Prime.l0 N K0 p0 (spec_l01Prime.a0_0 N K0 p0) N k1)))

noncomputable def spec_l01Sizes {ρ : Type} (N : Nat) (K0 : Bool → Option ρ) (p0 : Int) (nv1 : Int) : Option ρ :=
  (spec_l01Prime N (fun rv2 => (if rv2 = true then (spec_l01In N (fun rv3 => (K0 (rv3))) nv1 1 8) else (K0 false))) p0)

noncomputable def spec_l01Vector.b0 {ρ : Type} (N : Nat) (K0 : Bool → Option ρ) (rec : Int → Option ρ) (out0 : Option ρ) (p0 : Int) (nv1 : Int) (v2 : Nat → Int) (i3 : Int) : Option ρ :=
  (if (decide (i3 < 8)) = true then (if (0 : Int) ≤ i3 ∧ i3 < 8 then (if (decide ((IntKind.i64.wrap (v2 (i3.toNat * 1))) ≥ p0)) = true then (K0 false) else (if (decide (i3 ≥ nv1)) = true then (if (0 : Int) ≤ i3 ∧ i3 < 8 then (if ((v2 (i3.toNat * 1)) != 0) = true then (K0 false) else (rec ((IntKind.i64.wrap (i3 + 1))))) else none) else (rec ((IntKind.i64.wrap (i3 + 1)))))) else none) else out0)

noncomputable def spec_l01Vector.a0_0 {ρ : Type} (N : Nat) (K0 : Bool → Option ρ) : Option ρ :=
  (K0 true)

noncomputable def spec_l01Vector.l0 {ρ : Type} (N : Nat) (K0 : Bool → Option ρ) (p0 : Int) (nv1 : Int) (v2 : Nat → Int) (out0 : Option ρ) : Nat → Int → Option ρ
  | 0, _ => none
  | m + 1, i3 => (spec_l01Vector.b0 N K0 ((spec_l01Vector.l0 N K0 p0 nv1 v2 out0 m)) out0 p0 nv1 v2 i3)

noncomputable def spec_l01Vector.s {ρ : Type} (N : Nat) (K0 : Bool → Option ρ) (lp0 : Int → Option ρ) : Option ρ :=
  (lp0 0)

noncomputable def spec_l01Vector {ρ : Type} (N : Nat) (K0 : Bool → Option ρ) (p0 : Int) (nv1 : Int) (v2 : Nat → Int) : Option ρ :=
  (spec_l01Vector.s N K0 (fun i3 => (spec_l01Vector.l0 N K0 p0 nv1 v2 (spec_l01Vector.a0_0 N K0) N i3)))

noncomputable def spec_l01Many_s.b0 {ρ : Type} (N : Nat) (K0 : Int → Option ρ) (rec : Int → Option ρ) (out0 : Option ρ) (p0 : Int) (nv1 : Int) (list2 : Nat) (gv5 : Nat → Int) (i7 : Int) : Option ρ :=
  (if (decide (i7 < (list2 : Int))) = true then (if (0 : Int) ≤ i7 ∧ i7 < (list2 : Int) then (spec_l01Vector N (fun rv8 => (if (!rv8) = true then (K0 1) else (rec ((IntKind.i64.wrap (i7 + 1)))))) p0 nv1 (fun z => (gv5 ((0 + (i7.toNat * 8)) + z)))) else none) else out0)

noncomputable def spec_l01Many_s.a0_0 {ρ : Type} (N : Nat) (K0 : Int → Option ρ) : Option ρ :=
  (K0 0)

noncomputable def spec_l01Many_s.l0 {ρ : Type} (N : Nat) (K0 : Int → Option ρ) (p0 : Int) (nv1 : Int) (list2 : Nat) (gv5 : Nat → Int) (out0 : Option ρ) : Nat → Int → Option ρ
  | 0, _ => none
  | m + 1, i7 => (spec_l01Many_s.b0 N K0 ((spec_l01Many_s.l0 N K0 p0 nv1 list2 gv5 out0 m)) out0 p0 nv1 list2 gv5 i7)

noncomputable def spec_l01Many_s.s {ρ : Type} (N : Nat) (K0 : Int → Option ρ) (lp0 : Int → Option ρ) (p0 : Int) (nv1 : Int) : Option ρ :=
  (spec_l01Sizes N (fun rv6 => (if (!rv6) = true then (K0 1) else (lp0 0))) p0 nv1)

noncomputable def spec_l01Many_s {ρ : Type} (N : Nat) (K0 : Int → Option ρ) (p0 : Int) (nv1 : Int) (list2 : Nat) (list3 : Nat) (gv4 : Nat) (gv5 : Nat → Int) : Option ρ :=
  (spec_l01Many_s.s N K0 (fun i7 => (spec_l01Many_s.l0 N K0 p0 nv1 list2 gv5 (spec_l01Many_s.a0_0 N K0) N i7)) p0 nv1)

noncomputable def spec_l01First.b0 {ρ : Type} (N : Nat) (K0 : Int → Option ρ) (rec : Int → Option ρ) (out0 : Int → Option ρ) (v0 : Nat → Int) (at1 : Int) : Option ρ :=
  (if (decide (at1 < 8)) = true then (if (0 : Int) ≤ at1 ∧ at1 < 8 then (if ((v0 (at1.toNat * 1)) == 0) = true then (rec ((IntKind.i64.wrap (at1 + 1)))) else (out0 at1)) else none) else (out0 at1))

noncomputable def spec_l01First.a0_0 {ρ : Type} (N : Nat) (K0 : Int → Option ρ) (ov2 : Int) : Option ρ :=
  (K0 ov2)

noncomputable def spec_l01First.l0 {ρ : Type} (N : Nat) (K0 : Int → Option ρ) (v0 : Nat → Int) (out0 : Int → Option ρ) : Nat → Int → Option ρ
  | 0, _ => none
  | m + 1, at1 => (spec_l01First.b0 N K0 ((spec_l01First.l0 N K0 v0 out0 m)) out0 v0 at1)

noncomputable def spec_l01First.s {ρ : Type} (N : Nat) (K0 : Int → Option ρ) (lp0 : Int → Option ρ) : Option ρ :=
  (lp0 0)

noncomputable def spec_l01First {ρ : Type} (N : Nat) (K0 : Int → Option ρ) (v0 : Nat → Int) : Option ρ :=
  (spec_l01First.s N K0 (fun at1 => (spec_l01First.l0 N K0 v0 (fun ov2 => (spec_l01First.a0_0 N K0 ov2)) N at1)))

noncomputable def spec_l01Mod {ρ : Type} (N : Nat) (K0 : Int → Option ρ) (p0 : Int) (x1 : Int) : Option ρ :=
  (if p0 = 0 then none else (if p0 = 0 then none else (K0 ((IntKind.u8.wrap (Int.tmod (IntKind.i64.wrap ((Int.tmod x1 p0) + p0)) p0))))))

noncomputable def spec_l01Add.b0 {ρ : Type} (N : Nat) (K0 : (Nat → Int) → Option ρ) (rec : Int → (Nat → Int) → Option ρ) (out0 : (Nat → Int) → Option ρ) (p0 : Int) (w2 : Nat → Int) (k3 : Int) (i4 : Int) (gv5 : Nat → Int) : Option ρ :=
  (if (decide (i4 < 8)) = true then (if (0 : Int) ≤ i4 ∧ i4 < 8 then (if (0 : Int) ≤ i4 ∧ i4 < 8 then (spec_l01Mod N (fun rv6 => (if (0 : Int) ≤ i4 ∧ i4 < 8 then (rec ((IntKind.i64.wrap (i4 + 1))) (upd gv5 (i4.toNat * 1) rv6)) else none)) p0 ((IntKind.i64.wrap ((IntKind.i64.wrap (gv5 (i4.toNat * 1))) + (IntKind.i64.wrap (k3 * (IntKind.i64.wrap (w2 (i4.toNat * 1))))))))) else none) else none) else (out0 gv5))

noncomputable def spec_l01Add.a0_0 {ρ : Type} (N : Nat) (K0 : (Nat → Int) → Option ρ) (ov7 : Nat → Int) : Option ρ :=
  (K0 ov7)

noncomputable def spec_l01Add.l0 {ρ : Type} (N : Nat) (K0 : (Nat → Int) → Option ρ) (p0 : Int) (w2 : Nat → Int) (k3 : Int) (out0 : (Nat → Int) → Option ρ) : Nat → Int → (Nat → Int) → Option ρ
  | 0, _, _ => none
  | m + 1, i4, gv5 => (spec_l01Add.b0 N K0 ((spec_l01Add.l0 N K0 p0 w2 k3 out0 m)) out0 p0 w2 k3 i4 gv5)

noncomputable def spec_l01Add.s {ρ : Type} (N : Nat) (K0 : (Nat → Int) → Option ρ) (lp0 : Int → (Nat → Int) → Option ρ) (v1 : Nat → Int) : Option ρ :=
  (lp0 0 v1)

noncomputable def spec_l01Add {ρ : Type} (N : Nat) (K0 : (Nat → Int) → Option ρ) (p0 : Int) (v1 : Nat → Int) (w2 : Nat → Int) (k3 : Int) : Option ρ :=
  (spec_l01Add.s N K0 (fun i4 gv5 => (spec_l01Add.l0 N K0 p0 w2 k3 (fun ov7 => (spec_l01Add.a0_0 N K0 ov7)) N i4 gv5)) v1)

noncomputable def spec_l01Zero {ρ : Type} (N : Nat) (K0 : Bool → Option ρ) (v0 : Nat → Int) : Option ρ :=
  (K0 ((eqN 8 v0 (fun _ => 0))))

noncomputable def spec_l01Inverse.b0 {ρ : Type} (N : Nat) (K0 : Int → Option ρ) (rec : Int → Option ρ) (out0 : Option ρ) (p0 : Int) (x1 : Int) (k2 : Int) : Option ρ :=
  (if (decide (k2 < p0)) = true then (if p0 = 0 then none else (if ((Int.tmod (IntKind.i64.wrap (k2 * (IntKind.i64.wrap x1))) p0) == 1) = true then (K0 ((IntKind.u8.wrap k2))) else (rec ((IntKind.i64.wrap (k2 + 1)))))) else out0)

noncomputable def spec_l01Inverse.a0_0 {ρ : Type} (N : Nat) (K0 : Int → Option ρ) : Option ρ :=
  (K0 0)

noncomputable def spec_l01Inverse.l0 {ρ : Type} (N : Nat) (K0 : Int → Option ρ) (p0 : Int) (x1 : Int) (out0 : Option ρ) : Nat → Int → Option ρ
  | 0, _ => none
  | m + 1, k2 => (spec_l01Inverse.b0 N K0 ((spec_l01Inverse.l0 N K0 p0 x1 out0 m)) out0 p0 x1 k2)

noncomputable def spec_l01Inverse.s {ρ : Type} (N : Nat) (K0 : Int → Option ρ) (lp0 : Int → Option ρ) : Option ρ :=
  (lp0 1)

noncomputable def spec_l01Inverse {ρ : Type} (N : Nat) (K0 : Int → Option ρ) (p0 : Int) (x1 : Int) : Option ρ :=
  (spec_l01Inverse.s N K0 (fun k2 => (spec_l01Inverse.l0 N K0 p0 x1 (spec_l01Inverse.a0_0 N K0) N k2)))

noncomputable def spec_l01By_su_v2.b0 {ρ : Type} (N : Nat) (K0 : (Nat → Int) → Option ρ) (rec : Int → (Nat → Int) → Option ρ) (out0 : (Nat → Int) → Option ρ) (p0 : Int) (rows2 : Nat) (gv4 : Nat → Int) (i5 : Int) (gv6 : Nat → Int) : Option ρ :=
  (if (decide (i5 < (rows2 : Int))) = true then (if (0 : Int) ≤ i5 ∧ i5 < (rows2 : Int) then (spec_l01First N (fun rv7 => (if (0 : Int) ≤ rv7 ∧ rv7 < 8 then (if ((gv6 (rv7.toNat * 1)) != 0) = true then (if (0 : Int) ≤ i5 ∧ i5 < (rows2 : Int) then (if (0 : Int) ≤ rv7 ∧ rv7 < 8 then (spec_l01Add N (fun rv8 => (rec ((IntKind.i64.wrap (i5 + 1))) rv8)) p0 gv6 (fun z => (gv4 ((0 + (i5.toNat * 8)) + z))) ((IntKind.i64.wrap (0 - (IntKind.i64.wrap (gv6 (rv7.toNat * 1))))))) else none) else none) else (rec ((IntKind.i64.wrap (i5 + 1))) gv6)) else none)) (fun z => (gv4 ((0 + (i5.toNat * 8)) + z)))) else none) else (out0 gv6))

noncomputable def spec_l01By_su_v2.a0_0 {ρ : Type} (N : Nat) (K0 : (Nat → Int) → Option ρ) (ov9 : Nat → Int) : Option ρ :=
  (K0 ov9)

noncomputable def spec_l01By_su_v2.l0 {ρ : Type} (N : Nat) (K0 : (Nat → Int) → Option ρ) (p0 : Int) (rows2 : Nat) (gv4 : Nat → Int) (out0 : (Nat → Int) → Option ρ) : Nat → Int → (Nat → Int) → Option ρ
  | 0, _, _ => none
  | m + 1, i5, gv6 => (spec_l01By_su_v2.b0 N K0 ((spec_l01By_su_v2.l0 N K0 p0 rows2 gv4 out0 m)) out0 p0 rows2 gv4 i5 gv6)

noncomputable def spec_l01By_su_v2.s {ρ : Type} (N : Nat) (K0 : (Nat → Int) → Option ρ) (lp0 : Int → (Nat → Int) → Option ρ) (v1 : Nat → Int) : Option ρ :=
  (lp0 0 v1)

noncomputable def spec_l01By_su_v2 {ρ : Type} (N : Nat) (K0 : (Nat → Int) → Option ρ) (p0 : Int) (v1 : Nat → Int) (rows2 : Nat) (gv3 : Nat) (gv4 : Nat → Int) : Option ρ :=
  (spec_l01By_su_v2.s N K0 (fun i5 gv6 => (spec_l01By_su_v2.l0 N K0 p0 rows2 gv4 (fun ov9 => (spec_l01By_su_v2.a0_0 N K0 ov9)) N i5 gv6)) v1)

noncomputable def spec_l01Put_su_v2.b0 {ρ : Type} (N : Nat) (K0 : Nat → Option ρ) (K1 : Nat → (Nat → Int) → Option ρ) (rec : Nat → Bool → Int → (Nat → Int) → Option ρ) (out0 : Nat → Bool → (Nat → Int) → Option ρ) (p0 : Int) (rows1 : Nat) (gv4 : Nat → Int) (rv7 : Int) (rv9 : Nat → Int) (outv10 : Nat) (placed11 : Bool) (i12 : Int) (gv13 : Nat → Int) : Option ρ :=
  (if (decide (i12 < (rows1 : Int))) = true then (if (!placed11) = true then (if (0 : Int) ≤ i12 ∧ i12 < (rows1 : Int) then (spec_l01First N (fun rv14 => (if (decide (rv14 > rv7)) = true then (if (outv10 + 1) * 8 ≤ 140737488355328 then (if (0 : Int) ≤ i12 ∧ i12 < (rows1 : Int) then (if (0 : Int) ≤ i12 ∧ i12 < (rows1 : Int) then (if (0 : Int) ≤ rv7 ∧ rv7 < 8 then (spec_l01Add N (fun rv15 => (if ((outv10 + 1) + 1) * 8 ≤ 140737488355328 then (rec ((outv10 + 1) + 1) true ((IntKind.i64.wrap (i12 + 1))) (joinN ((outv10 + 1) * 8) (joinN (outv10 * 8) gv13 rv9) rv15)) else none)) p0 (fun z => (gv4 ((0 + (i12.toNat * 8)) + z))) rv9 ((IntKind.i64.wrap (0 - (IntKind.i64.wrap (gv4 ((0 + (i12.toNat * 8)) + (rv7.toNat * 1)))))))) else none) else none) else none) else none) else (if (0 : Int) ≤ i12 ∧ i12 < (rows1 : Int) then (if (0 : Int) ≤ i12 ∧ i12 < (rows1 : Int) then (if (0 : Int) ≤ rv7 ∧ rv7 < 8 then (spec_l01Add N (fun rv16 => (if (outv10 + 1) * 8 ≤ 140737488355328 then (rec (outv10 + 1) (placed11) ((IntKind.i64.wrap (i12 + 1))) (joinN (outv10 * 8) gv13 rv16)) else none)) p0 (fun z => (gv4 ((0 + (i12.toNat * 8)) + z))) rv9 ((IntKind.i64.wrap (0 - (IntKind.i64.wrap (gv4 ((0 + (i12.toNat * 8)) + (rv7.toNat * 1)))))))) else none) else none) else none))) (fun z => (gv4 ((0 + (i12.toNat * 8)) + z)))) else none) else (if (0 : Int) ≤ i12 ∧ i12 < (rows1 : Int) then (if (0 : Int) ≤ i12 ∧ i12 < (rows1 : Int) then (if (0 : Int) ≤ rv7 ∧ rv7 < 8 then (spec_l01Add N (fun rv17 => (if (outv10 + 1) * 8 ≤ 140737488355328 then (rec (outv10 + 1) (placed11) ((IntKind.i64.wrap (i12 + 1))) (joinN (outv10 * 8) gv13 rv17)) else none)) p0 (fun z => (gv4 ((0 + (i12.toNat * 8)) + z))) rv9 ((IntKind.i64.wrap (0 - (IntKind.i64.wrap (gv4 ((0 + (i12.toNat * 8)) + (rv7.toNat * 1)))))))) else none) else none) else none)) else (out0 outv10 (placed11) gv13))

noncomputable def spec_l01Put_su_v2.a0_0 {ρ : Type} (N : Nat) (K0 : Nat → Option ρ) (K1 : Nat → (Nat → Int) → Option ρ) (rv9 : Nat → Int) (ov18 : Nat) (ov19 : Bool) (ov20 : Nat → Int) : Option ρ :=
  (if (!ov19) = true then (if (ov18 + 1) * 8 ≤ 140737488355328 then (K1 (ov18 + 1) (joinN (ov18 * 8) ov20 rv9)) else none) else (K1 ov18 ov20))

noncomputable def spec_l01Put_su_v2.l0 {ρ : Type} (N : Nat) (K0 : Nat → Option ρ) (K1 : Nat → (Nat → Int) → Option ρ) (p0 : Int) (rows1 : Nat) (gv4 : Nat → Int) (rv7 : Int) (rv9 : Nat → Int) (out0 : Nat → Bool → (Nat → Int) → Option ρ) : Nat → Nat → Bool → Int → (Nat → Int) → Option ρ
  | 0, _, _, _, _ => none
  | m + 1, outv10, placed11, i12, gv13 => (spec_l01Put_su_v2.b0 N K0 K1 ((spec_l01Put_su_v2.l0 N K0 K1 p0 rows1 gv4 rv7 rv9 out0 m)) out0 p0 rows1 gv4 rv7 rv9 outv10 placed11 i12 gv13)

noncomputable def spec_l01Put_su_v2.s {ρ : Type} (N : Nat) (K0 : Nat → Option ρ) (K1 : Nat → (Nat → Int) → Option ρ) (lp0 : Int → (Nat → Int) → Nat → Bool → Int → (Nat → Int) → Option ρ) (p0 : Int) (rows1 : Nat) (v2 : Nat → Int) (gv4 : Nat → Int) : Option ρ :=
  (spec_l01By_su_v2 N (fun rv5 => (spec_l01Zero N (fun rv6 => (if rv6 = true then (K0 rows1) else (spec_l01First N (fun rv7 => (if (0 : Int) ≤ rv7 ∧ rv7 < 8 then (spec_l01Inverse N (fun rv8 => (spec_l01Add N (fun rv9 => (lp0 rv7 rv9 0 false 0 (fun _ => 0))) p0 (fun _ => 0) rv5 ((IntKind.i64.wrap rv8)))) p0 ((rv5 (rv7.toNat * 1)))) else none)) rv5))) rv5)) p0 v2 rows1 (rows1 * 8) (fun z => (gv4 (0 + z))))

noncomputable def spec_l01Put_su_v2 {ρ : Type} (N : Nat) (K0 : Nat → Option ρ) (K1 : Nat → (Nat → Int) → Option ρ) (p0 : Int) (rows1 : Nat) (v2 : Nat → Int) (gv3 : Nat) (gv4 : Nat → Int) : Option ρ :=
  (spec_l01Put_su_v2.s N K0 K1 (fun rv7 rv9 outv10 placed11 i12 gv13 => (spec_l01Put_su_v2.l0 N K0 K1 p0 rows1 gv4 rv7 rv9 (fun ov18 ov19 ov20 => (spec_l01Put_su_v2.a0_0 N K0 K1 rv9 ov18 ov19 ov20)) N outv10 placed11 i12 gv13)) p0 rows1 v2 gv4)

noncomputable def spec_l01Reduce_s.b0 {ρ : Type} (N : Nat) (K0 : Nat → (Nat → Int) → Option ρ) (rec : Nat → Int → (Nat → Int) → Option ρ) (out0 : Nat → (Nat → Int) → Option ρ) (p0 : Int) (list1 : Nat) (gv4 : Nat → Int) (outv5 : Nat) (i6 : Int) (gv7 : Nat → Int) : Option ρ :=
  (if (decide (i6 < (list1 : Int))) = true then (if (0 : Int) ≤ i6 ∧ i6 < (list1 : Int) then (spec_l01Put_su_v2 N (fun rv8 => (rec rv8 ((IntKind.i64.wrap (i6 + 1))) gv7)) (fun rv9 rv10 => (rec rv9 ((IntKind.i64.wrap (i6 + 1))) rv10)) p0 outv5 (fun z => (gv4 ((0 + (i6.toNat * 8)) + z))) (outv5 * 8) (fun z => (gv7 (0 + z)))) else none) else (out0 outv5 gv7))

noncomputable def spec_l01Reduce_s.a0_0 {ρ : Type} (N : Nat) (K0 : Nat → (Nat → Int) → Option ρ) (ov11 : Nat) (ov12 : Nat → Int) : Option ρ :=
  (K0 ov11 ov12)

noncomputable def spec_l01Reduce_s.l0 {ρ : Type} (N : Nat) (K0 : Nat → (Nat → Int) → Option ρ) (p0 : Int) (list1 : Nat) (gv4 : Nat → Int) (out0 : Nat → (Nat → Int) → Option ρ) : Nat → Nat → Int → (Nat → Int) → Option ρ
  | 0, _, _, _ => none
  | m + 1, outv5, i6, gv7 => (spec_l01Reduce_s.b0 N K0 ((spec_l01Reduce_s.l0 N K0 p0 list1 gv4 out0 m)) out0 p0 list1 gv4 outv5 i6 gv7)

noncomputable def spec_l01Reduce_s.s {ρ : Type} (N : Nat) (K0 : Nat → (Nat → Int) → Option ρ) (lp0 : Nat → Int → (Nat → Int) → Option ρ) : Option ρ :=
  (lp0 0 0 (fun _ => 0))

noncomputable def spec_l01Reduce_s {ρ : Type} (N : Nat) (K0 : Nat → (Nat → Int) → Option ρ) (p0 : Int) (list1 : Nat) (list2 : Nat) (gv3 : Nat) (gv4 : Nat → Int) : Option ρ :=
  (spec_l01Reduce_s.s N K0 (fun outv5 i6 gv7 => (spec_l01Reduce_s.l0 N K0 p0 list1 gv4 (fun ov11 ov12 => (spec_l01Reduce_s.a0_0 N K0 ov11 ov12)) N outv5 i6 gv7)))

noncomputable def spec_ReduceVectors_s {ρ : Type} (N : Nat) (K0 : Nat → Int → (Nat → Int) → Option ρ) (p0 : Int) (nv1 : Int) (list2 : Nat) (list3 : Nat) (gv4 : Nat) (gv5 : Nat → Int) : Option ρ :=
  (spec_l01Many_s N (fun rv6 => (if (rv6 != 0) = true then (K0 0 rv6 (fun _ => 0)) else (spec_l01Reduce_s N (fun rv7 rv8 => (K0 rv7 0 rv8)) p0 list2 list3 (list3 * 8) (fun z => (gv5 (0 + z)))))) p0 nv1 list2 list3 (list3 * 8) (fun z => (gv5 (0 + z))))

noncomputable def impl_IsPrime.b0 {ρ : Type} (N : Nat) (K0 : Bool → Option ρ) (rec : Int → Option ρ) (out0 : Option ρ) (p0 : Int) (k1 : Int) : Option ρ :=
  (if (decide ((IntKind.i64.wrap (k1 * k1)) ≤ p0)) = true then (if k1 = 0 then none else (if ((Int.tmod p0 k1) == 0) = true then (K0 false) else (rec ((IntKind.i64.wrap (k1 + 1)))))) else out0)

noncomputable def impl_IsPrime.a0_0 {ρ : Type} (N : Nat) (K0 : Bool → Option ρ) : Option ρ :=
  (K0 true)

noncomputable def impl_IsPrime.l0 {ρ : Type} (N : Nat) (K0 : Bool → Option ρ) (p0 : Int) (out0 : Option ρ) : Nat → Int → Option ρ
  | 0, _ => none
  | m + 1, k1 => (impl_IsPrime.b0 N K0 ((impl_IsPrime.l0 N K0 p0 out0 m)) out0 p0 k1)

noncomputable def impl_IsPrime.s {ρ : Type} (N : Nat) (K0 : Bool → Option ρ) (lp0 : Int → Option ρ) (p0 : Int) : Option ρ :=
  (if (decide (p0 < 2)) = true then (K0 false) else (if (decide (p0 > 31)) = true then (K0 false) else (lp0 2)))

noncomputable def impl_IsPrime {ρ : Type} (N : Nat) (K0 : Bool → Option ρ) (p0 : Int) : Option ρ :=
  (impl_IsPrime.s N K0 (fun k1 => (impl_IsPrime.l0 N K0 p0 (impl_IsPrime.a0_0 N K0) N k1)) p0)

noncomputable def impl_in {ρ : Type} (N : Nat) (K0 : Bool → Option ρ) (x0 : Int) (least1 : Int) (most2 : Int) : Option ρ :=
  (if (decide (least1 ≤ x0)) = true then (K0 ((decide (x0 ≤ most2)))) else (K0 false))

noncomputable def impl_IsVector.b0 {ρ : Type} (N : Nat) (K0 : Bool → Option ρ) (rec : Int → Option ρ) (out0 : Option ρ) (p0 : Int) (nv1 : Int) (v2 : Nat → Int) (x5 : Int) : Option ρ :=
  (if (decide (x5 < 8)) = true then (if (0 : Int) ≤ x5 ∧ x5 < 8 then (if (decide ((IntKind.i64.wrap (v2 x5.toNat)) ≥ p0)) = true then (K0 false) else (if (decide (x5 ≥ nv1)) = true then (if ((v2 x5.toNat) != 0) = true then (K0 false) else (rec ((IntKind.i64.wrap (x5 + 1))))) else (rec ((IntKind.i64.wrap (x5 + 1)))))) else none) else out0)

noncomputable def impl_IsVector.a0_0 {ρ : Type} (N : Nat) (K0 : Bool → Option ρ) : Option ρ :=
  (K0 true)

noncomputable def impl_IsVector.l0 {ρ : Type} (N : Nat) (K0 : Bool → Option ρ) (p0 : Int) (nv1 : Int) (v2 : Nat → Int) (out0 : Option ρ) : Nat → Int → Option ρ
  | 0, _ => none
  | m + 1, x5 => (impl_IsVector.b0 N K0 ((impl_IsVector.l0 N K0 p0 nv1 v2 out0 m)) out0 p0 nv1 v2 x5)

noncomputable def impl_IsVector.s {ρ : Type} (N : Nat) (K0 : Bool → Option ρ) (lp0 : Int → Option ρ) (p0 : Int) (nv1 : Int) : Option ρ :=
  (impl_IsPrime N (fun rv3 => (if (!rv3) = true then (K0 false) else (impl_in N (fun rv4 => (if (!rv4) = true then (K0 false) else (lp0 0))) nv1 1 8))) p0)

noncomputable def impl_IsVector {ρ : Type} (N : Nat) (K0 : Bool → Option ρ) (p0 : Int) (nv1 : Int) (v2 : Nat → Int) : Option ρ :=
  (impl_IsVector.s N K0 (fun x5 => (impl_IsVector.l0 N K0 p0 nv1 v2 (impl_IsVector.a0_0 N K0) N x5)) p0 nv1)

noncomputable def impl_ReduceVectors_c1 {ρ : Type} (N : Nat) (K0 : Bool → Option ρ) (v0 : Nat → Int) (gv1 : Nat → Int) (gv2 : Nat → Int) : Option ρ :=
  (impl_IsVector N (fun rv3 => (K0 ((!rv3)))) ((gv1 0)) ((gv2 0)) v0)

noncomputable def slices_IndexFunc_sf.b0 {ρ : Type} (N : Nat) (K0 : Int → Option ρ) (rec : Int → Option ρ) (out0 : Option ρ) (s0 : Nat) (gv3 : Nat → Int) (gv4 : Nat → Int) (gv5 : Nat → Int) (x6 : Int) : Option ρ :=
  (if (decide (x6 < (s0 : Int))) = true then (if (0 : Int) ≤ x6 ∧ x6 < (s0 : Int) then (impl_ReduceVectors_c1 N (fun rv7 => (if rv7 = true then (K0 x6) else (rec ((IntKind.i64.wrap (x6 + 1)))))) (fun z => (gv3 ((0 + (x6.toNat * 8)) + z))) gv4 gv5) else none) else out0)

noncomputable def slices_IndexFunc_sf.a0_0 {ρ : Type} (N : Nat) (K0 : Int → Option ρ) : Option ρ :=
  (K0 (-1))

noncomputable def slices_IndexFunc_sf.l0 {ρ : Type} (N : Nat) (K0 : Int → Option ρ) (s0 : Nat) (gv3 : Nat → Int) (gv4 : Nat → Int) (gv5 : Nat → Int) (out0 : Option ρ) : Nat → Int → Option ρ
  | 0, _ => none
  | m + 1, x6 => (slices_IndexFunc_sf.b0 N K0 ((slices_IndexFunc_sf.l0 N K0 s0 gv3 gv4 gv5 out0 m)) out0 s0 gv3 gv4 gv5 x6)

noncomputable def slices_IndexFunc_sf.s {ρ : Type} (N : Nat) (K0 : Int → Option ρ) (lp0 : Int → Option ρ) : Option ρ :=
  (lp0 0)

noncomputable def slices_IndexFunc_sf {ρ : Type} (N : Nat) (K0 : Int → Option ρ) (s0 : Nat) (s1 : Nat) (gv2 : Nat) (gv3 : Nat → Int) (gv4 : Nat → Int) (gv5 : Nat → Int) : Option ρ :=
  (slices_IndexFunc_sf.s N K0 (fun x6 => (slices_IndexFunc_sf.l0 N K0 s0 gv3 gv4 gv5 (slices_IndexFunc_sf.a0_0 N K0) N x6)))

noncomputable def slices_ContainsFunc_sf {ρ : Type} (N : Nat) (K0 : Bool → Option ρ) (s0 : Nat) (s1 : Nat) (gv2 : Nat) (gv3 : Nat → Int) (gv4 : Nat → Int) (gv5 : Nat → Int) : Option ρ :=
  (slices_IndexFunc_sf N (fun rv6 => (K0 ((decide (rv6 ≥ 0))))) s0 s1 (s1 * 8) (fun z => (gv3 (0 + z))) gv4 gv5)

noncomputable def impl_newSystem {ρ : Type} (N : Nat) (K0 : (Nat → Int) → (Nat → Int) → Option ρ) (p0 : Int) (many1 : Int) : Option ρ :=
  (K0 (upd (upd (fun _ => 0) 0 p0) 1 0) (fun _ => many1))

noncomputable def slices_Clone_s {ρ : Type} (N : Nat) (K0 : Nat → (Nat → Int) → Option ρ) (s0 : Nat) (s1 : Nat) (gv2 : Nat) (gv3 : Nat → Int) : Option ρ :=
  (if (0 + s0) * 1 ≤ 140737488355328 then (K0 (0 + s0) (joinN 0 (fun _ => 0) gv3)) else none)

noncomputable def impl_system_solve_c1_su {ρ : Type} (N : Nat) (K0 : Bool → Option ρ) (rv0 : Nat) (gv1 : Nat) (gv2 : Nat → Int) (gv3 : Nat → Int) : Option ρ :=
  (if (0 : Int) ≤ (gv3 0) ∧ (gv3 0) < (rv0 : Int) then (K0 (((gv2 (0 + (((gv3 0)).toNat * 1))) != 0))) else none)

noncomputable def slices_IndexFunc_suhf.b0 {ρ : Type} (N : Nat) (K0 : Int → Option ρ) (rec : Int → Option ρ) (out0 : Option ρ) (s0 : Nat) (gv3 : Nat → Nat) (gv4 : Nat → Nat) (gv5 : Nat → Int) (gv6 : Nat → Int) (x7 : Int) : Option ρ :=
  (if (decide (x7 < (s0 : Int))) = true then (if (0 : Int) ≤ x7 ∧ x7 < (s0 : Int) then (impl_system_solve_c1_su N (fun rv8 => (if rv8 = true then (K0 x7) else (rec ((IntKind.i64.wrap (x7 + 1)))))) (gv4 (0 + (x7.toNat * 1))) ((gv4 (0 + (x7.toNat * 1))) * 1) (fun z => (gv6 ((gv3 (0 + (x7.toNat * 1))) + z))) gv5) else none) else out0)

noncomputable def slices_IndexFunc_suhf.a0_0 {ρ : Type} (N : Nat) (K0 : Int → Option ρ) : Option ρ :=
  (K0 (-1))

noncomputable def slices_IndexFunc_suhf.l0 {ρ : Type} (N : Nat) (K0 : Int → Option ρ) (s0 : Nat) (gv3 : Nat → Nat) (gv4 : Nat → Nat) (gv5 : Nat → Int) (gv6 : Nat → Int) (out0 : Option ρ) : Nat → Int → Option ρ
  | 0, _ => none
  | m + 1, x7 => (slices_IndexFunc_suhf.b0 N K0 ((slices_IndexFunc_suhf.l0 N K0 s0 gv3 gv4 gv5 gv6 out0 m)) out0 s0 gv3 gv4 gv5 gv6 x7)

noncomputable def slices_IndexFunc_suhf.s {ρ : Type} (N : Nat) (K0 : Int → Option ρ) (lp0 : Int → Option ρ) : Option ρ :=
  (lp0 0)

noncomputable def slices_IndexFunc_suhf {ρ : Type} (N : Nat) (K0 : Int → Option ρ) (s0 : Nat) (gv1 : Nat) (gv2 : Nat) (gv3 : Nat → Nat) (gv4 : Nat → Nat) (gv5 : Nat → Int) (gv6 : Nat → Int) : Option ρ :=
  (slices_IndexFunc_suhf.s N K0 (fun x7 => (slices_IndexFunc_suhf.l0 N K0 s0 gv3 gv4 gv5 gv6 (slices_IndexFunc_suhf.a0_0 N K0) N x7)))

noncomputable def impl_field_inverse.b0 {ρ : Type} (N : Nat) (K0 : Int → Option ρ) (rec : Int → Option ρ) (out0 : Option ρ) (f0 : Nat → Int) (x1 : Int) (k2 : Int) : Option ρ :=
  (if (decide (k2 < (f0 0))) = true then (if (f0 0) = 0 then none else (if ((Int.tmod (IntKind.i64.wrap (k2 * (IntKind.i64.wrap x1))) (f0 0)) == 1) = true then (K0 k2) else (rec ((IntKind.i64.wrap (k2 + 1)))))) else out0)

noncomputable def impl_field_inverse.a0_0 {ρ : Type} (N : Nat) (K0 : Int → Option ρ) (f0 : Nat → Int) : Option ρ :=
  (if (f0 0) = 0 then none else (K0 ((Int.tmod 1 (f0 0)))))

noncomputable def impl_field_inverse.l0 {ρ : Type} (N : Nat) (K0 : Int → Option ρ) (f0 : Nat → Int) (x1 : Int) (out0 : Option ρ) : Nat → Int → Option ρ
  | 0, _ => none
  | m + 1, k2 => (impl_field_inverse.b0 N K0 ((impl_field_inverse.l0 N K0 f0 x1 out0 m)) out0 f0 x1 k2)

noncomputable def impl_field_inverse.s {ρ : Type} (N : Nat) (K0 : Int → Option ρ) (lp0 : Int → Option ρ) : Option ρ :=
  (lp0 1)

noncomputable def impl_field_inverse {ρ : Type} (N : Nat) (K0 : Int → Option ρ) (f0 : Nat → Int) (x1 : Int) : Option ρ :=
  (impl_field_inverse.s N K0 (fun k2 => (impl_field_inverse.l0 N K0 f0 x1 (impl_field_inverse.a0_0 N K0 f0) N k2)))

noncomputable def impl_field_mod {ρ : Type} (N : Nat) (K0 : Int → Option ρ) (f0 : Nat → Int) (x1 : Int) : Option ρ :=
  (if (f0 0) = 0 then none else (if (decide ((Int.tmod x1 (f0 0)) < 0)) = true then (K0 ((IntKind.u8.wrap (IntKind.i64.wrap ((Int.tmod x1 (f0 0)) + (f0 0)))))) else (K0 ((IntKind.u8.wrap (Int.tmod x1 (f0 0)))))))

noncomputable def impl_system_clear_v2.b2 {ρ : Type} (N : Nat) (K0 : (Nat → Int) → (Nat → Int) → Option ρ) (rec : Int → (Nat → Int) → Option ρ) (out0 : (Nat → Int) → Option ρ) (at0 : Int) (c1 : Int) (gv2 : Nat → Int) (gv8 : Nat → Nat) (gv9 : Nat → Nat) (x17 : Int) (gv18 : Nat → Int) (x19 : Int) (gv20 : Nat → Int) : Option ρ :=
  (if (decide (x19 < (((gv9 (0 + (at0.toNat * 1))) : Nat) : Int))) = true then (if (0 : Int) ≤ x19 ∧ x19 < (((gv9 (0 + (at0.toNat * 1))) : Nat) : Int) then (if (0 : Int) ≤ x19 ∧ x19 < (((gv9 (0 + (x17.toNat * 1))) : Nat) : Int) then (impl_field_mod N (fun rv21 => (if (0 : Int) ≤ x19 ∧ x19 < (((gv9 (0 + (x17.toNat * 1))) : Nat) : Int) then (rec ((IntKind.i64.wrap (x19 + 1))) (upd gv20 ((gv8 (0 + (x17.toNat * 1))) + (x19.toNat * 1)) rv21)) else none)) gv2 ((IntKind.i64.wrap ((IntKind.i64.wrap (gv20 ((gv8 (0 + (x17.toNat * 1))) + (x19.toNat * 1)))) - (IntKind.i64.wrap ((IntKind.i64.wrap (gv18 ((gv8 (0 + (x17.toNat * 1))) + (c1.toNat * 1)))) * (IntKind.i64.wrap (gv20 ((gv8 (0 + (at0.toNat * 1))) + (x19.toNat * 1)))))))))) else none) else none) else (out0 gv20))

noncomputable def impl_system_clear_v2.a2_0 {ρ : Type} (N : Nat) (K0 : (Nat → Int) → (Nat → Int) → Option ρ) (rec : Int → (Nat → Int) → Option ρ) (out0 : (Nat → Int) → Option ρ) (x17 : Int) (ov22 : Nat → Int) : Option ρ :=
  (rec ((IntKind.i64.wrap (x17 + 1))) ov22)

noncomputable def impl_system_clear_v2.b1 {ρ : Type} (N : Nat) (K0 : (Nat → Int) → (Nat → Int) → Option ρ) (lp2 : Int → (Nat → Int) → Option ρ) (rec : Int → (Nat → Int) → Option ρ) (out0 : (Nat → Int) → Option ρ) (at0 : Int) (c1 : Int) (gv4 : Nat) (gv8 : Nat → Nat) (gv9 : Nat → Nat) (x17 : Int) (gv18 : Nat → Int) : Option ρ :=
  (if (decide (x17 < (gv4 : Int))) = true then (if (0 : Int) ≤ x17 ∧ x17 < (gv4 : Int) then (if (x17 == at0) = true then (rec ((IntKind.i64.wrap (x17 + 1))) gv18) else (if (0 : Int) ≤ c1 ∧ c1 < (((gv9 (0 + (x17.toNat * 1))) : Nat) : Int) then (if ((gv18 ((gv8 (0 + (x17.toNat * 1))) + (c1.toNat * 1))) == 0) = true then (rec ((IntKind.i64.wrap (x17 + 1))) gv18) else (if (0 : Int) ≤ c1 ∧ c1 < (((gv9 (0 + (x17.toNat * 1))) : Nat) : Int) then (lp2 0 gv18) else none)) else none)) else none) else (out0 gv18))

noncomputable def impl_system_clear_v2.a1_0 {ρ : Type} (N : Nat) (K0 : (Nat → Int) → (Nat → Int) → Option ρ) (gv10 : Nat → Int) (ov23 : Nat → Int) : Option ρ :=
  (K0 gv10 ov23)

noncomputable def impl_system_clear_v2.b0 {ρ : Type} (N : Nat) (K0 : (Nat → Int) → (Nat → Int) → Option ρ) (rec : Int → (Nat → Int) → Option ρ) (out0 : (Nat → Int) → Option ρ) (at0 : Int) (gv2 : Nat → Int) (gv8 : Nat → Nat) (gv9 : Nat → Nat) (rv12 : Int) (x13 : Int) (gv14 : Nat → Int) : Option ρ :=
  (if (decide (x13 < (((gv9 (0 + (at0.toNat * 1))) : Nat) : Int))) = true then (if (0 : Int) ≤ x13 ∧ x13 < (((gv9 (0 + (at0.toNat * 1))) : Nat) : Int) then (impl_field_mod N (fun rv15 => (if (0 : Int) ≤ x13 ∧ x13 < (((gv9 (0 + (at0.toNat * 1))) : Nat) : Int) then (rec ((IntKind.i64.wrap (x13 + 1))) (upd gv14 ((gv8 (0 + (at0.toNat * 1))) + (x13.toNat * 1)) rv15)) else none)) gv2 ((IntKind.i64.wrap (rv12 * (IntKind.i64.wrap (gv14 ((gv8 (0 + (at0.toNat * 1))) + (x13.toNat * 1)))))))) else none) else (out0 gv14))

noncomputable def impl_system_clear_v2.a0_0 {ρ : Type} (N : Nat) (K0 : (Nat → Int) → (Nat → Int) → Option ρ) (lp1 : Int → (Nat → Int) → Option ρ) (ov16 : Nat → Int) : Option ρ :=
  (lp1 0 ov16)

noncomputable def impl_system_clear_v2.l2 {ρ : Type} (N : Nat) (K0 : (Nat → Int) → (Nat → Int) → Option ρ) (at0 : Int) (c1 : Int) (gv2 : Nat → Int) (gv8 : Nat → Nat) (gv9 : Nat → Nat) (x17 : Int) (gv18 : Nat → Int) (out0 : (Nat → Int) → Option ρ) : Nat → Int → (Nat → Int) → Option ρ
  | 0, _, _ => none
  | m + 1, x19, gv20 => (impl_system_clear_v2.b2 N K0 ((impl_system_clear_v2.l2 N K0 at0 c1 gv2 gv8 gv9 x17 gv18 out0 m)) out0 at0 c1 gv2 gv8 gv9 x17 gv18 x19 gv20)

noncomputable def impl_system_clear_v2.l1 {ρ : Type} (N : Nat) (K0 : (Nat → Int) → (Nat → Int) → Option ρ) (at0 : Int) (c1 : Int) (gv2 : Nat → Int) (gv4 : Nat) (gv8 : Nat → Nat) (gv9 : Nat → Nat) (out0 : (Nat → Int) → Option ρ) : Nat → Int → (Nat → Int) → Option ρ
  | 0, _, _ => none
  | m + 1, x17, gv18 => (impl_system_clear_v2.b1 N K0 (fun x19 gv20 => (impl_system_clear_v2.l2 N K0 at0 c1 gv2 gv8 gv9 x17 gv18 (fun ov22 => (impl_system_clear_v2.a2_0 N K0 (impl_system_clear_v2.l1 N K0 at0 c1 gv2 gv4 gv8 gv9 out0 m) out0 x17 ov22)) N x19 gv20)) ((impl_system_clear_v2.l1 N K0 at0 c1 gv2 gv4 gv8 gv9 out0 m)) out0 at0 c1 gv4 gv8 gv9 x17 gv18)

noncomputable def impl_system_clear_v2.l0 {ρ : Type} (N : Nat) (K0 : (Nat → Int) → (Nat → Int) → Option ρ) (at0 : Int) (gv2 : Nat → Int) (gv8 : Nat → Nat) (gv9 : Nat → Nat) (rv12 : Int) (out0 : (Nat → Int) → Option ρ) : Nat → Int → (Nat → Int) → Option ρ
  | 0, _, _ => none
  | m + 1, x13, gv14 => (impl_system_clear_v2.b0 N K0 ((impl_system_clear_v2.l0 N K0 at0 gv2 gv8 gv9 rv12 out0 m)) out0 at0 gv2 gv8 gv9 rv12 x13 gv14)

noncomputable def impl_system_clear_v2.s {ρ : Type} (N : Nat) (K0 : (Nat → Int) → (Nat → Int) → Option ρ) (lp0 : Int → Int → (Nat → Int) → Option ρ) (at0 : Int) (c1 : Int) (gv2 : Nat → Int) (gv4 : Nat) (gv8 : Nat → Nat) (gv9 : Nat → Nat) (gv11 : Nat → Int) : Option ρ :=
  (if (0 : Int) ≤ at0 ∧ at0 < (gv4 : Int) then (if (0 : Int) ≤ c1 ∧ c1 < (((gv9 (0 + (at0.toNat * 1))) : Nat) : Int) then (impl_field_inverse N (fun rv12 => (lp0 rv12 0 gv11)) gv2 ((gv11 ((gv8 (0 + (at0.toNat * 1))) + (c1.toNat * 1))))) else none) else none)

noncomputable def impl_system_clear_v2 {ρ : Type} (N : Nat) (K0 : (Nat → Int) → (Nat → Int) → Option ρ) (at0 : Int) (c1 : Int) (gv2 : Nat → Int) (gv3 : Nat → Int) (gv4 : Nat) (gv5 : Nat) (gv6 : Nat) (gv7 : Nat) (gv8 : Nat → Nat) (gv9 : Nat → Nat) (gv10 : Nat → Int) (gv11 : Nat → Int) : Option ρ :=
  (impl_system_clear_v2.s N K0 (fun rv12 x13 gv14 => (impl_system_clear_v2.l0 N K0 at0 gv2 gv8 gv9 rv12 (fun ov16 => (impl_system_clear_v2.a0_0 N K0 (fun x17 gv18 => (impl_system_clear_v2.l1 N K0 at0 c1 gv2 gv4 gv8 gv9 (fun ov23 => (impl_system_clear_v2.a1_0 N K0 gv10 ov23)) N x17 gv18)) ov16)) N x13 gv14)) at0 c1 gv2 gv4 gv8 gv9 gv11)

noncomputable def impl_system_solve_c2_su {ρ : Type} (N : Nat) (K0 : Bool → Option ρ) (rv0 : Nat) (gv1 : Nat) (gv2 : Nat → Int) (gv3 : Nat → Int) (gv4 : Nat → Int) (gv5 : Nat) (gv6 : Nat) (gv7 : Nat) (gv8 : Nat) (gv9 : Nat → Nat) (gv10 : Nat → Nat) (gv11 : Nat) (gv12 : Nat → Int) (gv13 : Nat → Int) : Option ρ :=
  (if (0 : Int) ≤ (gv4 0) ∧ (gv4 0) < (rv0 : Int) then (K0 (((gv2 (0 + (((gv4 0)).toNat * 1))) != 0))) else none)

noncomputable def slices_IndexFunc_suhf_v2.b0 {ρ : Type} (N : Nat) (K0 : Int → Option ρ) (rec : Int → Option ρ) (out0 : Option ρ) (s0 : Nat) (gv3 : Nat → Nat) (gv4 : Nat → Nat) (gv5 : Nat → Int) (gv6 : Nat → Int) (gv7 : Nat → Int) (gv8 : Nat) (gv9 : Nat) (gv11 : Nat) (gv12 : Nat → Nat) (gv13 : Nat → Nat) (gv15 : Nat → Int) (x16 : Int) : Option ρ :=
  (if (decide (x16 < (s0 : Int))) = true then (if (0 : Int) ≤ x16 ∧ x16 < (s0 : Int) then (impl_system_solve_c2_su N (fun rv17 => (if rv17 = true then (K0 x16) else (rec ((IntKind.i64.wrap (x16 + 1)))))) (gv4 (0 + (x16.toNat * 1))) ((gv4 (0 + (x16.toNat * 1))) * 1) (fun z => (gv5 ((gv3 (0 + (x16.toNat * 1))) + z))) gv6 gv7 gv8 gv9 (gv8 * 1) gv11 (offN 0 gv12) (offN 0 gv13) (gv9 * 1) (fun z => (gv15 (0 + z))) gv5) else none) else out0)

noncomputable def slices_IndexFunc_suhf_v2.a0_0 {ρ : Type} (N : Nat) (K0 : Int → Option ρ) : Option ρ :=
  (K0 (-1))

noncomputable def slices_IndexFunc_suhf_v2.l0 {ρ : Type} (N : Nat) (K0 : Int → Option ρ) (s0 : Nat) (gv3 : Nat → Nat) (gv4 : Nat → Nat) (gv5 : Nat → Int) (gv6 : Nat → Int) (gv7 : Nat → Int) (gv8 : Nat) (gv9 : Nat) (gv11 : Nat) (gv12 : Nat → Nat) (gv13 : Nat → Nat) (gv15 : Nat → Int) (out0 : Option ρ) : Nat → Int → Option ρ
  | 0, _ => none
  | m + 1, x16 => (slices_IndexFunc_suhf_v2.b0 N K0 ((slices_IndexFunc_suhf_v2.l0 N K0 s0 gv3 gv4 gv5 gv6 gv7 gv8 gv9 gv11 gv12 gv13 gv15 out0 m)) out0 s0 gv3 gv4 gv5 gv6 gv7 gv8 gv9 gv11 gv12 gv13 gv15 x16)

noncomputable def slices_IndexFunc_suhf_v2.s {ρ : Type} (N : Nat) (K0 : Int → Option ρ) (lp0 : Int → Option ρ) : Option ρ :=
  (lp0 0)

noncomputable def slices_IndexFunc_suhf_v2 {ρ : Type} (N : Nat) (K0 : Int → Option ρ) (s0 : Nat) (gv1 : Nat) (gv2 : Nat) (gv3 : Nat → Nat) (gv4 : Nat → Nat) (gv5 : Nat → Int) (gv6 : Nat → Int) (gv7 : Nat → Int) (gv8 : Nat) (gv9 : Nat) (gv10 : Nat) (gv11 : Nat) (gv12 : Nat → Nat) (gv13 : Nat → Nat) (gv14 : Nat) (gv15 : Nat → Int) : Option ρ :=
  (slices_IndexFunc_suhf_v2.s N K0 (fun x16 => (slices_IndexFunc_suhf_v2.l0 N K0 s0 gv3 gv4 gv5 gv6 gv7 gv8 gv9 gv11 gv12 gv13 gv15 (slices_IndexFunc_suhf_v2.a0_0 N K0) N x16)))

noncomputable def slices_ContainsFunc_suhf {ρ : Type} (N : Nat) (K0 : Bool → Option ρ) (s0 : Nat) (gv1 : Nat) (gv2 : Nat) (gv3 : Nat → Nat) (gv4 : Nat → Nat) (gv5 : Nat → Int) (gv6 : Nat → Int) (gv7 : Nat → Int) (gv8 : Nat) (gv9 : Nat) (gv10 : Nat) (gv11 : Nat) (gv12 : Nat → Nat) (gv13 : Nat → Nat) (gv14 : Nat) (gv15 : Nat → Int) : Option ρ :=
  (slices_IndexFunc_suhf_v2 N (fun rv16 => (K0 ((decide (rv16 ≥ 0))))) s0 (s0 * 1) gv2 (offN 0 gv3) (offN 0 gv4) gv5 gv6 gv7 gv8 gv9 (gv8 * 1) gv11 (offN 0 gv12) (offN 0 gv13) (gv9 * 1) (fun z => (gv15 (0 + z))))

noncomputable def impl_system_solve.b0 {ρ : Type} (N : Nat) (K0 : Bool → Nat → Nat → Nat → (Nat → Nat) → (Nat → Nat) → (Nat → Int) → (Nat → Int) → Option ρ) (rec : Int → Nat → (Nat → Nat) → (Nat → Nat) → (Nat → Int) → (Nat → Int) → (Nat → Int) → Option ρ) (out0 : Int → Nat → (Nat → Nat) → (Nat → Nat) → (Nat → Int) → (Nat → Int) → Option ρ) (gv0 : Nat → Int) (gv1 : Nat → Int) (gv2 : Nat) (gv3 : Nat) (done7 : Int) (gv8 : Nat) (gv9 : Nat → Nat) (gv10 : Nat → Nat) (gv11 : Nat → Int) (gv12 : Nat → Int) (gv13 : Nat → Int) : Option ρ :=
  (if (decide ((gv12 0) < (gv1 0))) = true then (if (decide (done7 < (gv2 : Int))) = true then (if (0 : Int) ≤ done7 ∧ done7 ≤ (gv2 : Int) ∧ (gv2 : Int) ≤ (gv2 : Int) then (slices_IndexFunc_suhf N (fun rv14 => (if (decide (rv14 < 0)) = true then (rec done7 gv8 gv9 gv10 gv11 (fun _ => (IntKind.i64.wrap ((gv12 0) + 1))) gv13) else (if (0 : Int) ≤ (IntKind.i64.wrap (done7 + rv14)) ∧ (IntKind.i64.wrap (done7 + rv14)) < (gv2 : Int) then (if (0 : Int) ≤ done7 ∧ done7 < (gv2 : Int) then (if (0 : Int) ≤ done7 ∧ done7 < (gv2 : Int) then (if (0 : Int) ≤ (IntKind.i64.wrap (done7 + rv14)) ∧ (IntKind.i64.wrap (done7 + rv14)) < (gv2 : Int) then (impl_system_clear_v2 N (fun rv15 rv16 => (if (gv8 + 1) * 8 ≤ 140737488355328 then (rec ((IntKind.i64.wrap (done7 + 1))) (gv8 + 1) (upd (upd gv9 (0 + (done7.toNat * 1)) (gv9 (0 + (((IntKind.i64.wrap (done7 + rv14))).toNat * 1)))) (0 + (((IntKind.i64.wrap (done7 + rv14))).toNat * 1)) (gv9 (0 + (done7.toNat * 1)))) (upd (upd gv10 (0 + (done7.toNat * 1)) (gv10 (0 + (((IntKind.i64.wrap (done7 + rv14))).toNat * 1)))) (0 + (((IntKind.i64.wrap (done7 + rv14))).toNat * 1)) (gv10 (0 + (done7.toNat * 1)))) rv16 (fun _ => (IntKind.i64.wrap ((gv12 0) + 1))) (joinN (gv8 * 1) rv15 (upd (fun _ => 0) 0 (gv12 0)))) else none)) done7 ((gv12 0)) gv0 gv1 gv2 gv8 (gv2 * 1) gv3 (offN 0 (upd (upd gv9 (0 + (done7.toNat * 1)) (gv9 (0 + (((IntKind.i64.wrap (done7 + rv14))).toNat * 1)))) (0 + (((IntKind.i64.wrap (done7 + rv14))).toNat * 1)) (gv9 (0 + (done7.toNat * 1))))) (offN 0 (upd (upd gv10 (0 + (done7.toNat * 1)) (gv10 (0 + (((IntKind.i64.wrap (done7 + rv14))).toNat * 1)))) (0 + (((IntKind.i64.wrap (done7 + rv14))).toNat * 1)) (gv10 (0 + (done7.toNat * 1))))) gv13 gv11) else none) else none) else none) else none))) (((gv2 : Int)).toNat - done7.toNat) ((((gv2 : Int)).toNat - done7.toNat) * 1) gv3 (offN (0 + (done7.toNat * 1)) gv9) (offN (0 + (done7.toNat * 1)) gv10) gv12 gv11) else none) else (out0 done7 gv8 gv9 gv10 gv11 gv13)) else (out0 done7 gv8 gv9 gv10 gv11 gv13))

noncomputable def impl_system_solve.a0_0 {ρ : Type} (N : Nat) (K0 : Bool → Nat → Nat → Nat → (Nat → Nat) → (Nat → Nat) → (Nat → Int) → (Nat → Int) → Option ρ) (gv0 : Nat → Int) (gv1 : Nat → Int) (gv2 : Nat) (gv3 : Nat) (ov17 : Int) (ov18 : Nat) (ov19 : Nat → Nat) (ov20 : Nat → Nat) (ov21 : Nat → Int) (ov22 : Nat → Int) : Option ρ :=
  (if (0 : Int) ≤ ov17 ∧ ov17 ≤ (gv2 : Int) ∧ (gv2 : Int) ≤ (gv2 : Int) then (if (0 : Int) ≤ (0 : Int) ∧ (0 : Int) ≤ ov17 ∧ ov17 ≤ (gv2 : Int) then (slices_ContainsFunc_suhf N (fun rv23 => (K0 ((!rv23)) ov17.toNat ov18 gv3 ov19 ov20 ov21 ov22)) (((gv2 : Int)).toNat - ov17.toNat) ((((gv2 : Int)).toNat - ov17.toNat) * 1) gv3 (offN (0 + (ov17.toNat * 1)) ov19) (offN (0 + (ov17.toNat * 1)) ov20) ov21 gv0 gv1 ov17.toNat ov18 (ov17.toNat * 1) gv3 (offN 0 ov19) (offN 0 ov20) (ov18 * 1) (fun z => (ov22 (0 + z)))) else none) else none)

noncomputable def impl_system_solve.l0 {ρ : Type} (N : Nat) (K0 : Bool → Nat → Nat → Nat → (Nat → Nat) → (Nat → Nat) → (Nat → Int) → (Nat → Int) → Option ρ) (gv0 : Nat → Int) (gv1 : Nat → Int) (gv2 : Nat) (gv3 : Nat) (out0 : Int → Nat → (Nat → Nat) → (Nat → Nat) → (Nat → Int) → (Nat → Int) → Option ρ) : Nat → Int → Nat → (Nat → Nat) → (Nat → Nat) → (Nat → Int) → (Nat → Int) → (Nat → Int) → Option ρ
  | 0, _, _, _, _, _, _, _ => none
  | m + 1, done7, gv8, gv9, gv10, gv11, gv12, gv13 => (impl_system_solve.b0 N K0 ((impl_system_solve.l0 N K0 gv0 gv1 gv2 gv3 out0 m)) out0 gv0 gv1 gv2 gv3 done7 gv8 gv9 gv10 gv11 gv12 gv13)

noncomputable def impl_system_solve.s {ρ : Type} (N : Nat) (K0 : Bool → Nat → Nat → Nat → (Nat → Nat) → (Nat → Nat) → (Nat → Int) → (Nat → Int) → Option ρ) (lp0 : Int → Nat → (Nat → Nat) → (Nat → Nat) → (Nat → Int) → (Nat → Int) → (Nat → Int) → Option ρ) (gv4 : Nat → Nat) (gv5 : Nat → Nat) (gv6 : Nat → Int) : Option ρ :=
  (lp0 0 0 gv4 gv5 gv6 (fun _ => 0) (fun _ => 0))

noncomputable def impl_system_solve {ρ : Type} (N : Nat) (K0 : Bool → Nat → Nat → Nat → (Nat → Nat) → (Nat → Nat) → (Nat → Int) → (Nat → Int) → Option ρ) (gv0 : Nat → Int) (gv1 : Nat → Int) (gv2 : Nat) (gv3 : Nat) (gv4 : Nat → Nat) (gv5 : Nat → Nat) (gv6 : Nat → Int) : Option ρ :=
  (impl_system_solve.s N K0 (fun done7 gv8 gv9 gv10 gv11 gv12 gv13 => (impl_system_solve.l0 N K0 gv0 gv1 gv2 gv3 (fun ov17 ov18 ov19 ov20 ov21 ov22 => (impl_system_solve.a0_0 N K0 gv0 gv1 gv2 gv3 ov17 ov18 ov19 ov20 ov21 ov22)) N done7 gv8 gv9 gv10 gv11 gv12 gv13)) gv4 gv5 gv6)

noncomputable def impl_reduced_s.b1 {ρ : Type} (N : Nat) (K0 : Nat → (Nat → Int) → Option ρ) (rec : Nat → Int → (Nat → Int) → Option ρ) (out0 : Nat → (Nat → Int) → Option ρ) (rv21 : Nat) (rv24 : Nat → Nat) (rv25 : Nat → Nat) (rv26 : Nat → Int) (outv28 : Nat) (x29 : Int) (gv30 : Nat → Int) : Option ρ :=
  (if (decide (x29 < (rv21 : Int))) = true then (if (0 : Int) ≤ x29 ∧ x29 < (rv21 : Int) then (if (0 : Int) ≤ (0 : Int) ∧ (0 : Int) ≤ (8 : Int) ∧ (8 : Int) ≤ (((rv25 (0 + (x29.toNat * 1))) : Nat) : Int) then (if (outv28 + 1) * 8 ≤ 140737488355328 then (rec (outv28 + 1) ((IntKind.i64.wrap (x29 + 1))) (joinN (outv28 * 8) gv30 (fun z => (rv26 (((rv24 (0 + (x29.toNat * 1))) + 0) + z))))) else none) else none) else none) else (out0 outv28 gv30))

noncomputable def impl_reduced_s.a1_0 {ρ : Type} (N : Nat) (K0 : Nat → (Nat → Int) → Option ρ) (ov31 : Nat) (ov32 : Nat → Int) : Option ρ :=
  (K0 ov31 ov32)

noncomputable def impl_reduced_s.b0 {ρ : Type} (N : Nat) (K0 : Nat → (Nat → Int) → Option ρ) (rec : Int → Nat → Nat → (Nat → Nat) → (Nat → Nat) → (Nat → Int) → Option ρ) (out0 : Nat → Nat → (Nat → Nat) → (Nat → Nat) → (Nat → Int) → Option ρ) (list1 : Nat) (gv4 : Nat → Int) (x7 : Int) (gv8 : Nat) (gv9 : Nat) (gv10 : Nat → Nat) (gv11 : Nat → Nat) (gv12 : Nat → Int) : Option ρ :=
  (if (decide (x7 < (list1 : Int))) = true then (if (0 : Int) ≤ x7 ∧ x7 < (list1 : Int) then (slices_Clone_s N (fun rv13 rv14 => (if (rv13 + 1) * 1 ≤ 140737488355328 then (if (gv8 + 1) * 24 ≤ 140737488355328 then (rec ((IntKind.i64.wrap (x7 + 1))) (gv8 + 1) (gv9 + (rv13 + 1)) (upd gv10 gv8 gv9) (upd gv11 gv8 (rv13 + 1)) (joinN gv9 gv12 (joinN (rv13 * 1) rv14 (upd (fun _ => 0) 0 0)))) else none) else none)) 8 8 8 (fun z => (gv4 ((0 + (x7.toNat * 8)) + (0 + z))))) else none) else (out0 gv8 gv9 gv10 gv11 gv12))

noncomputable def impl_reduced_s.a0_0 {ρ : Type} (N : Nat) (K0 : Nat → (Nat → Int) → Option ρ) (lp1 : Nat → Nat → (Nat → Nat) → (Nat → Nat) → (Nat → Int) → Nat → Int → (Nat → Int) → Option ρ) (rv5 : Nat → Int) (rv6 : Nat → Int) (ov15 : Nat) (ov16 : Nat) (ov17 : Nat → Nat) (ov18 : Nat → Nat) (ov19 : Nat → Int) : Option ρ :=
  (impl_system_solve N (fun rv20 rv21 rv22 rv23 rv24 rv25 rv26 rv27 => (lp1 rv21 rv23 rv24 rv25 rv26 0 0 (fun _ => 0))) rv5 rv6 ov15 ov16 ov17 ov18 ov19)

noncomputable def impl_reduced_s.l1 {ρ : Type} (N : Nat) (K0 : Nat → (Nat → Int) → Option ρ) (rv21 : Nat) (rv24 : Nat → Nat) (rv25 : Nat → Nat) (rv26 : Nat → Int) (out0 : Nat → (Nat → Int) → Option ρ) : Nat → Nat → Int → (Nat → Int) → Option ρ
  | 0, _, _, _ => none
  | m + 1, outv28, x29, gv30 => (impl_reduced_s.b1 N K0 ((impl_reduced_s.l1 N K0 rv21 rv24 rv25 rv26 out0 m)) out0 rv21 rv24 rv25 rv26 outv28 x29 gv30)

noncomputable def impl_reduced_s.l0 {ρ : Type} (N : Nat) (K0 : Nat → (Nat → Int) → Option ρ) (list1 : Nat) (gv4 : Nat → Int) (out0 : Nat → Nat → (Nat → Nat) → (Nat → Nat) → (Nat → Int) → Option ρ) : Nat → Int → Nat → Nat → (Nat → Nat) → (Nat → Nat) → (Nat → Int) → Option ρ
  | 0, _, _, _, _, _, _ => none
  | m + 1, x7, gv8, gv9, gv10, gv11, gv12 => (impl_reduced_s.b0 N K0 ((impl_reduced_s.l0 N K0 list1 gv4 out0 m)) out0 list1 gv4 x7 gv8 gv9 gv10 gv11 gv12)

noncomputable def impl_reduced_s.s {ρ : Type} (N : Nat) (K0 : Nat → (Nat → Int) → Option ρ) (lp0 : (Nat → Int) → (Nat → Int) → Int → Nat → Nat → (Nat → Nat) → (Nat → Nat) → (Nat → Int) → Option ρ) (p0 : Int) : Option ρ :=
  (impl_newSystem N (fun rv5 rv6 => (lp0 rv5 rv6 0 0 0 (fun _ => 0) (fun _ => 0) (fun _ => 0))) p0 8)

noncomputable def impl_reduced_s {ρ : Type} (N : Nat) (K0 : Nat → (Nat → Int) → Option ρ) (p0 : Int) (list1 : Nat) (list2 : Nat) (gv3 : Nat) (gv4 : Nat → Int) : Option ρ :=
  (impl_reduced_s.s N K0 (fun rv5 rv6 x7 gv8 gv9 gv10 gv11 gv12 => (impl_reduced_s.l0 N K0 list1 gv4 (fun ov15 ov16 ov17 ov18 ov19 => (impl_reduced_s.a0_0 N K0 (fun rv21 rv23 rv24 rv25 rv26 outv28 x29 gv30 => (impl_reduced_s.l1 N K0 rv21 rv24 rv25 rv26 (fun ov31 ov32 => (impl_reduced_s.a1_0 N K0 ov31 ov32)) N outv28 x29 gv30)) rv5 rv6 ov15 ov16 ov17 ov18 ov19)) N x7 gv8 gv9 gv10 gv11 gv12)) p0)

noncomputable def impl_ReduceVectors_s {ρ : Type} (N : Nat) (K0 : Nat → Int → (Nat → Int) → Option ρ) (p0 : Int) (nv1 : Int) (list2 : Nat) (list3 : Nat) (gv4 : Nat) (gv5 : Nat → Int) : Option ρ :=
  (slices_ContainsFunc_sf N (fun rv6 => (impl_IsVector N (fun rv7 => (if (!rv7) = true then (K0 0 1 (fun _ => 0)) else (if rv6 = true then (K0 0 1 (fun _ => 0)) else (impl_reduced_s N (fun rv8 rv9 => (K0 rv8 0 rv9)) p0 list2 list3 (list3 * 8) (fun z => (gv5 (0 + z))))))) p0 nv1 (fun _ => 0))) list2 list3 (list3 * 8) (fun z => (gv5 (0 + z))) (fun _ => p0) (fun _ => nv1))

noncomputable def laws_eqVector.b0 {ρ : Type} (N : Nat) (K0 : Bool → Option ρ) (rec : Int → Option ρ) (out0 : Option ρ) (av0 : Nat → Int) (bv1 : Nat → Int) (i2 : Int) : Option ρ :=
  (if (decide (i2 < 8)) = true then (if (0 : Int) ≤ i2 ∧ i2 < 8 then (if (0 : Int) ≤ i2 ∧ i2 < 8 then (if ((av0 (i2.toNat * 1)) != (bv1 (i2.toNat * 1))) = true then (K0 false) else (rec ((IntKind.i64.wrap (i2 + 1))))) else none) else none) else out0)

noncomputable def laws_eqVector.a0_0 {ρ : Type} (N : Nat) (K0 : Bool → Option ρ) : Option ρ :=
  (K0 true)

noncomputable def laws_eqVector.l0 {ρ : Type} (N : Nat) (K0 : Bool → Option ρ) (av0 : Nat → Int) (bv1 : Nat → Int) (out0 : Option ρ) : Nat → Int → Option ρ
  | 0, _ => none
  | m + 1, i2 => (laws_eqVector.b0 N K0 ((laws_eqVector.l0 N K0 av0 bv1 out0 m)) out0 av0 bv1 i2)

noncomputable def laws_eqVector.s {ρ : Type} (N : Nat) (K0 : Bool → Option ρ) (lp0 : Int → Option ρ) : Option ρ :=
  (lp0 0)

noncomputable def laws_eqVector {ρ : Type} (N : Nat) (K0 : Bool → Option ρ) (av0 : Nat → Int) (bv1 : Nat → Int) : Option ρ :=
  (laws_eqVector.s N K0 (fun i2 => (laws_eqVector.l0 N K0 av0 bv1 (laws_eqVector.a0_0 N K0) N i2)))

noncomputable def laws_eqVectorS_susu.b0 {ρ : Type} (N : Nat) (K0 : Bool → Option ρ) (rec : Int → Option ρ) (out0 : Option ρ) (av0 : Nat) (bv1 : Nat) (gv3 : Nat → Int) (gv5 : Nat → Int) (i6 : Int) : Option ρ :=
  (if (decide (i6 < (av0 : Int))) = true then (if (0 : Int) ≤ i6 ∧ i6 < (av0 : Int) then (if (0 : Int) ≤ i6 ∧ i6 < (bv1 : Int) then (laws_eqVector N (fun rv7 => (if (!rv7) = true then (K0 false) else (rec ((IntKind.i64.wrap (i6 + 1)))))) (fun z => (gv3 ((0 + (i6.toNat * 8)) + z))) (fun z => (gv5 ((0 + (i6.toNat * 8)) + z)))) else none) else none) else out0)

noncomputable def laws_eqVectorS_susu.a0_0 {ρ : Type} (N : Nat) (K0 : Bool → Option ρ) : Option ρ :=
  (K0 true)

noncomputable def laws_eqVectorS_susu.l0 {ρ : Type} (N : Nat) (K0 : Bool → Option ρ) (av0 : Nat) (bv1 : Nat) (gv3 : Nat → Int) (gv5 : Nat → Int) (out0 : Option ρ) : Nat → Int → Option ρ
  | 0, _ => none
  | m + 1, i6 => (laws_eqVectorS_susu.b0 N K0 ((laws_eqVectorS_susu.l0 N K0 av0 bv1 gv3 gv5 out0 m)) out0 av0 bv1 gv3 gv5 i6)

noncomputable def laws_eqVectorS_susu.s {ρ : Type} (N : Nat) (K0 : Bool → Option ρ) (lp0 : Int → Option ρ) (av0 : Nat) (bv1 : Nat) : Option ρ :=
  (if ((av0 : Int) != (bv1 : Int)) = true then (K0 false) else (lp0 0))

noncomputable def laws_eqVectorS_susu {ρ : Type} (N : Nat) (K0 : Bool → Option ρ) (av0 : Nat) (bv1 : Nat) (gv2 : Nat) (gv3 : Nat → Int) (gv4 : Nat) (gv5 : Nat → Int) : Option ρ :=
  (laws_eqVectorS_susu.s N K0 (fun i6 => (laws_eqVectorS_susu.l0 N K0 av0 bv1 gv3 gv5 (laws_eqVectorS_susu.a0_0 N K0) N i6)) av0 bv1)

noncomputable def laws_eqVectorS_ss.b0 {ρ : Type} (N : Nat) (K0 : Bool → Option ρ) (rec : Int → Option ρ) (out0 : Option ρ) (av0 : Nat) (bv2 : Nat) (gv5 : Nat → Int) (gv7 : Nat → Int) (i8 : Int) : Option ρ :=
  (if (decide (i8 < (av0 : Int))) = true then (if (0 : Int) ≤ i8 ∧ i8 < (av0 : Int) then (if (0 : Int) ≤ i8 ∧ i8 < (bv2 : Int) then (laws_eqVector N (fun rv9 => (if (!rv9) = true then (K0 false) else (rec ((IntKind.i64.wrap (i8 + 1)))))) (fun z => (gv5 ((0 + (i8.toNat * 8)) + z))) (fun z => (gv7 ((0 + (i8.toNat * 8)) + z)))) else none) else none) else out0)

noncomputable def laws_eqVectorS_ss.a0_0 {ρ : Type} (N : Nat) (K0 : Bool → Option ρ) : Option ρ :=
  (K0 true)

noncomputable def laws_eqVectorS_ss.l0 {ρ : Type} (N : Nat) (K0 : Bool → Option ρ) (av0 : Nat) (bv2 : Nat) (gv5 : Nat → Int) (gv7 : Nat → Int) (out0 : Option ρ) : Nat → Int → Option ρ
  | 0, _ => none
  | m + 1, i8 => (laws_eqVectorS_ss.b0 N K0 ((laws_eqVectorS_ss.l0 N K0 av0 bv2 gv5 gv7 out0 m)) out0 av0 bv2 gv5 gv7 i8)

noncomputable def laws_eqVectorS_ss.s {ρ : Type} (N : Nat) (K0 : Bool → Option ρ) (lp0 : Int → Option ρ) (av0 : Nat) (bv2 : Nat) : Option ρ :=
  (if ((av0 : Int) != (bv2 : Int)) = true then (K0 false) else (lp0 0))

noncomputable def laws_eqVectorS_ss {ρ : Type} (N : Nat) (K0 : Bool → Option ρ) (av0 : Nat) (av1 : Nat) (bv2 : Nat) (bv3 : Nat) (gv4 : Nat) (gv5 : Nat → Int) (gv6 : Nat) (gv7 : Nat → Int) : Option ρ :=
  (laws_eqVectorS_ss.s N K0 (fun i8 => (laws_eqVectorS_ss.l0 N K0 av0 bv2 gv5 gv7 (laws_eqVectorS_ss.a0_0 N K0) N i8)) av0 bv2)

noncomputable def laws_intactVectorS_ss {ρ : Type} (N : Nat) (K0 : Bool → Option ρ) (x0 : Nat) (x1 : Nat) (y2 : Nat) (y3 : Nat) (gv4 : Nat) (gv5 : Nat → Int) (gv6 : Nat) (gv7 : Nat → Int) : Option ρ :=
  (laws_roomBehind N (fun rv8 => (if ((x0 : Int) == (y2 : Int)) = true then (if (0 : Int) ≤ (0 : Int) ∧ (0 : Int) ≤ (IntKind.i64.wrap ((y2 : Int) + rv8)) ∧ (IntKind.i64.wrap ((y2 : Int) + rv8)) ≤ (x1 : Int) then (if (0 : Int) ≤ (0 : Int) ∧ (0 : Int) ≤ (IntKind.i64.wrap ((y2 : Int) + rv8)) ∧ (IntKind.i64.wrap ((y2 : Int) + rv8)) ≤ (y3 : Int) then (laws_eqVectorS_ss N (fun rv9 => (K0 (rv9))) ((IntKind.i64.wrap ((y2 : Int) + rv8))).toNat x1 ((IntKind.i64.wrap ((y2 : Int) + rv8))).toNat y3 (x1 * 8) (fun z => (gv5 (0 + z))) (y3 * 8) (fun z => (gv7 (0 + z)))) else none) else none) else (K0 false))) ((y2 : Int)))

noncomputable def laws_markVectorS_s.b1 {ρ : Type} (N : Nat) (K0 : Int → (Nat → Int) → Option ρ) (rec : Int → Int → (Nat → Int) → Option ρ) (out0 : Int → (Nat → Int) → Option ρ) (av0 : Nat) (i6 : Int) (k8 : Int) (j9 : Int) (gv10 : Nat → Int) : Option ρ :=
  (if (decide (j9 < 8)) = true then (if (0 : Int) ≤ i6 ∧ i6 < (av0 : Int) then (if (0 : Int) ≤ j9 ∧ j9 < 8 then (rec ((IntKind.i64.wrap (k8 + 1))) ((IntKind.i64.wrap (j9 + 1))) (upd gv10 ((0 + (i6.toNat * 8)) + (j9.toNat * 1)) (IntKind.u8.wrap k8))) else none) else none) else (out0 k8 gv10))

noncomputable def laws_markVectorS_s.a1_0 {ρ : Type} (N : Nat) (K0 : Int → (Nat → Int) → Option ρ) (rec : Int → Int → (Nat → Int) → Option ρ) (out0 : Int → (Nat → Int) → Option ρ) (i6 : Int) (ov11 : Int) (ov12 : Nat → Int) : Option ρ :=
  (rec ov11 ((IntKind.i64.wrap (i6 + 1))) ov12)

noncomputable def laws_markVectorS_s.b0 {ρ : Type} (N : Nat) (K0 : Int → (Nat → Int) → Option ρ) (lp1 : Int → Int → (Nat → Int) → Option ρ) (rec : Int → Int → (Nat → Int) → Option ρ) (out0 : Int → (Nat → Int) → Option ρ) (av0 : Nat) (k5 : Int) (i6 : Int) (gv7 : Nat → Int) : Option ρ :=
  (if (decide (i6 < (av0 : Int))) = true then (lp1 k5 0 gv7) else (out0 k5 gv7))

noncomputable def laws_markVectorS_s.a0_0 {ρ : Type} (N : Nat) (K0 : Int → (Nat → Int) → Option ρ) (ov13 : Int) (ov14 : Nat → Int) : Option ρ :=
  (K0 ov13 ov14)

noncomputable def laws_markVectorS_s.l1 {ρ : Type} (N : Nat) (K0 : Int → (Nat → Int) → Option ρ) (av0 : Nat) (i6 : Int) (out0 : Int → (Nat → Int) → Option ρ) : Nat → Int → Int → (Nat → Int) → Option ρ
  | 0, _, _, _ => none
  | m + 1, k8, j9, gv10 => (laws_markVectorS_s.b1 N K0 ((laws_markVectorS_s.l1 N K0 av0 i6 out0 m)) out0 av0 i6 k8 j9 gv10)

noncomputable def laws_markVectorS_s.l0 {ρ : Type} (N : Nat) (K0 : Int → (Nat → Int) → Option ρ) (av0 : Nat) (out0 : Int → (Nat → Int) → Option ρ) : Nat → Int → Int → (Nat → Int) → Option ρ
  | 0, _, _, _ => none
  | m + 1, k5, i6, gv7 => (laws_markVectorS_s.b0 N K0 (fun k8 j9 gv10 => (laws_markVectorS_s.l1 N K0 av0 i6 (fun ov11 ov12 => (laws_markVectorS_s.a1_0 N K0 (laws_markVectorS_s.l0 N K0 av0 out0 m) out0 i6 ov11 ov12)) N k8 j9 gv10)) ((laws_markVectorS_s.l0 N K0 av0 out0 m)) out0 av0 k5 i6 gv7)

noncomputable def laws_markVectorS_s.s {ρ : Type} (N : Nat) (K0 : Int → (Nat → Int) → Option ρ) (lp0 : Int → Int → (Nat → Int) → Option ρ) (k2 : Int) (gv4 : Nat → Int) : Option ρ :=
  (lp0 k2 0 gv4)

noncomputable def laws_markVectorS_s {ρ : Type} (N : Nat) (K0 : Int → (Nat → Int) → Option ρ) (av0 : Nat) (av1 : Nat) (k2 : Int) (gv3 : Nat) (gv4 : Nat → Int) : Option ρ :=
  (laws_markVectorS_s.s N K0 (fun k5 i6 gv7 => (laws_markVectorS_s.l0 N K0 av0 (fun ov13 ov14 => (laws_markVectorS_s.a0_0 N K0 ov13 ov14)) N k5 i6 gv7)) k2 gv4)

noncomputable def laws_markVectorS_su.b1 {ρ : Type} (N : Nat) (K0 : Int → (Nat → Int) → Option ρ) (rec : Int → Int → (Nat → Int) → Option ρ) (out0 : Int → (Nat → Int) → Option ρ) (av0 : Nat) (i5 : Int) (k7 : Int) (j8 : Int) (gv9 : Nat → Int) : Option ρ :=
  (if (decide (j8 < 8)) = true then (if (0 : Int) ≤ i5 ∧ i5 < (av0 : Int) then (if (0 : Int) ≤ j8 ∧ j8 < 8 then (rec ((IntKind.i64.wrap (k7 + 1))) ((IntKind.i64.wrap (j8 + 1))) (upd gv9 ((0 + (i5.toNat * 8)) + (j8.toNat * 1)) (IntKind.u8.wrap k7))) else none) else none) else (out0 k7 gv9))

noncomputable def laws_markVectorS_su.a1_0 {ρ : Type} (N : Nat) (K0 : Int → (Nat → Int) → Option ρ) (rec : Int → Int → (Nat → Int) → Option ρ) (out0 : Int → (Nat → Int) → Option ρ) (i5 : Int) (ov10 : Int) (ov11 : Nat → Int) : Option ρ :=
  (rec ov10 ((IntKind.i64.wrap (i5 + 1))) ov11)

noncomputable def laws_markVectorS_su.b0 {ρ : Type} (N : Nat) (K0 : Int → (Nat → Int) → Option ρ) (lp1 : Int → Int → (Nat → Int) → Option ρ) (rec : Int → Int → (Nat → Int) → Option ρ) (out0 : Int → (Nat → Int) → Option ρ) (av0 : Nat) (k4 : Int) (i5 : Int) (gv6 : Nat → Int) : Option ρ :=
  (if (decide (i5 < (av0 : Int))) = true then (lp1 k4 0 gv6) else (out0 k4 gv6))

noncomputable def laws_markVectorS_su.a0_0 {ρ : Type} (N : Nat) (K0 : Int → (Nat → Int) → Option ρ) (ov12 : Int) (ov13 : Nat → Int) : Option ρ :=
  (K0 ov12 ov13)

noncomputable def laws_markVectorS_su.l1 {ρ : Type} (N : Nat) (K0 : Int → (Nat → Int) → Option ρ) (av0 : Nat) (i5 : Int) (out0 : Int → (Nat → Int) → Option ρ) : Nat → Int → Int → (Nat → Int) → Option ρ
  | 0, _, _, _ => none
  | m + 1, k7, j8, gv9 => (laws_markVectorS_su.b1 N K0 ((laws_markVectorS_su.l1 N K0 av0 i5 out0 m)) out0 av0 i5 k7 j8 gv9)

noncomputable def laws_markVectorS_su.l0 {ρ : Type} (N : Nat) (K0 : Int → (Nat → Int) → Option ρ) (av0 : Nat) (out0 : Int → (Nat → Int) → Option ρ) : Nat → Int → Int → (Nat → Int) → Option ρ
  | 0, _, _, _ => none
  | m + 1, k4, i5, gv6 => (laws_markVectorS_su.b0 N K0 (fun k7 j8 gv9 => (laws_markVectorS_su.l1 N K0 av0 i5 (fun ov10 ov11 => (laws_markVectorS_su.a1_0 N K0 (laws_markVectorS_su.l0 N K0 av0 out0 m) out0 i5 ov10 ov11)) N k7 j8 gv9)) ((laws_markVectorS_su.l0 N K0 av0 out0 m)) out0 av0 k4 i5 gv6)

noncomputable def laws_markVectorS_su.s {ρ : Type} (N : Nat) (K0 : Int → (Nat → Int) → Option ρ) (lp0 : Int → Int → (Nat → Int) → Option ρ) (k1 : Int) (gv3 : Nat → Int) : Option ρ :=
  (lp0 k1 0 gv3)

noncomputable def laws_markVectorS_su {ρ : Type} (N : Nat) (K0 : Int → (Nat → Int) → Option ρ) (av0 : Nat) (k1 : Int) (gv2 : Nat) (gv3 : Nat → Int) : Option ρ :=
  (laws_markVectorS_su.s N K0 (fun k4 i5 gv6 => (laws_markVectorS_su.l0 N K0 av0 (fun ov12 ov13 => (laws_markVectorS_su.a0_0 N K0 ov12 ov13)) N k4 i5 gv6)) k1 gv3)

noncomputable def laws_heldVectorS_su.b1 {ρ : Type} (N : Nat) (K0 : Int → Option ρ) (rec : Int → Int → Option ρ) (out0 : Int → Option ρ) (av0 : Nat) (gv3 : Nat → Int) (i5 : Int) (k6 : Int) (j7 : Int) : Option ρ :=
  (if (decide (j7 < 8)) = true then (if (0 : Int) ≤ i5 ∧ i5 < (av0 : Int) then (if (0 : Int) ≤ j7 ∧ j7 < 8 then (if ((gv3 ((0 + (i5.toNat * 8)) + (j7.toNat * 1))) != (IntKind.u8.wrap k6)) = true then (K0 (-1)) else (rec ((IntKind.i64.wrap (k6 + 1))) ((IntKind.i64.wrap (j7 + 1))))) else none) else none) else (out0 k6))

noncomputable def laws_heldVectorS_su.a1_0 {ρ : Type} (N : Nat) (K0 : Int → Option ρ) (rec : Int → Int → Option ρ) (out0 : Int → Option ρ) (i5 : Int) (ov8 : Int) : Option ρ :=
  (rec ov8 ((IntKind.i64.wrap (i5 + 1))))

noncomputable def laws_heldVectorS_su.b0 {ρ : Type} (N : Nat) (K0 : Int → Option ρ) (lp1 : Int → Int → Option ρ) (rec : Int → Int → Option ρ) (out0 : Int → Option ρ) (av0 : Nat) (k4 : Int) (i5 : Int) : Option ρ :=
  (if (decide (i5 < (av0 : Int))) = true then (lp1 k4 0) else (out0 k4))

noncomputable def laws_heldVectorS_su.a0_0 {ρ : Type} (N : Nat) (K0 : Int → Option ρ) (ov9 : Int) : Option ρ :=
  (K0 ov9)

noncomputable def laws_heldVectorS_su.l1 {ρ : Type} (N : Nat) (K0 : Int → Option ρ) (av0 : Nat) (gv3 : Nat → Int) (i5 : Int) (out0 : Int → Option ρ) : Nat → Int → Int → Option ρ
  | 0, _, _ => none
  | m + 1, k6, j7 => (laws_heldVectorS_su.b1 N K0 ((laws_heldVectorS_su.l1 N K0 av0 gv3 i5 out0 m)) out0 av0 gv3 i5 k6 j7)

noncomputable def laws_heldVectorS_su.l0 {ρ : Type} (N : Nat) (K0 : Int → Option ρ) (av0 : Nat) (gv3 : Nat → Int) (out0 : Int → Option ρ) : Nat → Int → Int → Option ρ
  | 0, _, _ => none
  | m + 1, k4, i5 => (laws_heldVectorS_su.b0 N K0 (fun k6 j7 => (laws_heldVectorS_su.l1 N K0 av0 gv3 i5 (fun ov8 => (laws_heldVectorS_su.a1_0 N K0 (laws_heldVectorS_su.l0 N K0 av0 gv3 out0 m) out0 i5 ov8)) N k6 j7)) ((laws_heldVectorS_su.l0 N K0 av0 gv3 out0 m)) out0 av0 k4 i5)

noncomputable def laws_heldVectorS_su.s {ρ : Type} (N : Nat) (K0 : Int → Option ρ) (lp0 : Int → Int → Option ρ) (k1 : Int) : Option ρ :=
  (lp0 k1 0)

noncomputable def laws_heldVectorS_su {ρ : Type} (N : Nat) (K0 : Int → Option ρ) (av0 : Nat) (k1 : Int) (gv2 : Nat) (gv3 : Nat → Int) : Option ρ :=
  (laws_heldVectorS_su.s N K0 (fun k4 i5 => (laws_heldVectorS_su.l0 N K0 av0 gv3 (fun ov9 => (laws_heldVectorS_su.a0_0 N K0 ov9)) N k4 i5)) k1)

noncomputable def laws_toVectorS_su1.b1 {ρ : Type} (N : Nat) (K0 : Option ρ) (K1 : Nat → Nat → Nat → (Nat → Int) → Option ρ) (rec : Int → (Nat → Int) → Option ρ) (out0 : (Nat → Int) → Option ρ) (av0 : Nat) (rv3 : Int) (i8 : Int) (gv9 : Nat → Int) : Option ρ :=
  (if (decide (i8 < ((((IntKind.i64.wrap ((av0 : Int) + rv3))).toNat : Nat) : Int))) = true then (if (0 : Int) ≤ i8 ∧ i8 < ((((IntKind.i64.wrap ((av0 : Int) + rv3))).toNat : Nat) : Int) then (rec ((IntKind.i64.wrap (i8 + 1))) (updN gv9 (0 + (i8.toNat * 8)) 8 (upd (fun _ => 0) 0 201))) else none) else (out0 gv9))

noncomputable def laws_toVectorS_su1.a1_0 {ρ : Type} (N : Nat) (K0 : Option ρ) (K1 : Nat → Nat → Nat → (Nat → Int) → Option ρ) (av0 : Nat) (rv3 : Int) (ov10 : Nat → Int) : Option ρ :=
  (if (0 : Int) ≤ (0 : Int) ∧ (0 : Int) ≤ (av0 : Int) ∧ (av0 : Int) ≤ ((((IntKind.i64.wrap ((av0 : Int) + rv3))).toNat : Nat) : Int) then (K1 ((av0 : Int)).toNat ((IntKind.i64.wrap ((av0 : Int) + rv3))).toNat (((IntKind.i64.wrap ((av0 : Int) + rv3))).toNat * 8) ov10) else none)

noncomputable def laws_toVectorS_su1.b0 {ρ : Type} (N : Nat) (K0 : Option ρ) (K1 : Nat → Nat → Nat → (Nat → Int) → Option ρ) (rec : Int → (Nat → Int) → Option ρ) (out0 : (Nat → Int) → Option ρ) (av0 : Nat) (gv2 : Nat → Int) (rv3 : Int) (i4 : Int) (gv5 : Nat → Int) : Option ρ :=
  (if (decide (i4 < (av0 : Int))) = true then (if (0 : Int) ≤ i4 ∧ i4 < (av0 : Int) then (laws_toVector N (fun rv6 => (if (0 : Int) ≤ i4 ∧ i4 < ((((IntKind.i64.wrap ((av0 : Int) + rv3))).toNat : Nat) : Int) then (rec ((IntKind.i64.wrap (i4 + 1))) (updN gv5 (0 + (i4.toNat * 8)) 8 rv6)) else none)) (fun z => (gv2 ((0 + (i4.toNat * 8)) + z)))) else none) else (out0 gv5))

noncomputable def laws_toVectorS_su1.a0_0 {ρ : Type} (N : Nat) (K0 : Option ρ) (K1 : Nat → Nat → Nat → (Nat → Int) → Option ρ) (lp1 : Int → (Nat → Int) → Option ρ) (av0 : Nat) (ov7 : Nat → Int) : Option ρ :=
  (lp1 ((av0 : Int)) ov7)

noncomputable def laws_toVectorS_su1.l1 {ρ : Type} (N : Nat) (K0 : Option ρ) (K1 : Nat → Nat → Nat → (Nat → Int) → Option ρ) (av0 : Nat) (rv3 : Int) (out0 : (Nat → Int) → Option ρ) : Nat → Int → (Nat → Int) → Option ρ
  | 0, _, _ => none
  | m + 1, i8, gv9 => (laws_toVectorS_su1.b1 N K0 K1 ((laws_toVectorS_su1.l1 N K0 K1 av0 rv3 out0 m)) out0 av0 rv3 i8 gv9)

noncomputable def laws_toVectorS_su1.l0 {ρ : Type} (N : Nat) (K0 : Option ρ) (K1 : Nat → Nat → Nat → (Nat → Int) → Option ρ) (av0 : Nat) (gv2 : Nat → Int) (rv3 : Int) (out0 : (Nat → Int) → Option ρ) : Nat → Int → (Nat → Int) → Option ρ
  | 0, _, _ => none
  | m + 1, i4, gv5 => (laws_toVectorS_su1.b0 N K0 K1 ((laws_toVectorS_su1.l0 N K0 K1 av0 gv2 rv3 out0 m)) out0 av0 gv2 rv3 i4 gv5)

noncomputable def laws_toVectorS_su1.s {ρ : Type} (N : Nat) (K0 : Option ρ) (K1 : Nat → Nat → Nat → (Nat → Int) → Option ρ) (lp0 : Int → Int → (Nat → Int) → Option ρ) (av0 : Nat) : Option ρ :=
  (if ((av0 : Int) == 0) = true then K0 else (laws_roomBehind N (fun rv3 => (if (0 : Int) ≤ (IntKind.i64.wrap ((av0 : Int) + rv3)) ∧ (IntKind.i64.wrap ((av0 : Int) + rv3)) ≤ (IntKind.i64.wrap ((av0 : Int) + rv3)) ∧ (8 : Int) * (IntKind.i64.wrap ((av0 : Int) + rv3)) ≤ 1099511627776 ∧ (IntKind.i64.wrap ((av0 : Int) + rv3)) ≤ 1099511627776 then (lp0 rv3 0 (fun _ => 0)) else none)) ((av0 : Int))))

noncomputable def laws_toVectorS_su1 {ρ : Type} (N : Nat) (K0 : Option ρ) (K1 : Nat → Nat → Nat → (Nat → Int) → Option ρ) (av0 : Nat) (gv1 : Nat) (gv2 : Nat → Int) : Option ρ :=
  (laws_toVectorS_su1.s N K0 K1 (fun rv3 i4 gv5 => (laws_toVectorS_su1.l0 N K0 K1 av0 gv2 rv3 (fun ov7 => (laws_toVectorS_su1.a0_0 N K0 K1 (fun i8 gv9 => (laws_toVectorS_su1.l1 N K0 K1 av0 rv3 (fun ov10 => (laws_toVectorS_su1.a1_0 N K0 K1 av0 rv3 ov10)) N i8 gv9)) av0 ov7)) N i4 gv5)) av0)

noncomputable def slices_IndexFunc_nf.b0 {ρ : Type} (N : Nat) (K0 : Int → Option ρ) (rec : Option ρ) (out0 : Option ρ) : Option ρ :=
  out0

noncomputable def slices_IndexFunc_nf.a0_0 {ρ : Type} (N : Nat) (K0 : Int → Option ρ) : Option ρ :=
  (K0 (-1))

noncomputable def slices_IndexFunc_nf.l0 {ρ : Type} (N : Nat) (K0 : Int → Option ρ) (out0 : Option ρ) : Nat → Option ρ
  | 0 => none
  | m + 1 => (slices_IndexFunc_nf.b0 N K0 ((slices_IndexFunc_nf.l0 N K0 out0 m)) out0)

noncomputable def slices_IndexFunc_nf.s {ρ : Type} (N : Nat) (K0 : Int → Option ρ) (lp0 : Option ρ) : Option ρ :=
  lp0

noncomputable def slices_IndexFunc_nf {ρ : Type} (N : Nat) (K0 : Int → Option ρ) (gv0 : Nat → Int) (gv1 : Nat → Int) : Option ρ :=
  (slices_IndexFunc_nf.s N K0 ((slices_IndexFunc_nf.l0 N K0 (slices_IndexFunc_nf.a0_0 N K0) N)))

noncomputable def slices_ContainsFunc_nf {ρ : Type} (N : Nat) (K0 : Bool → Option ρ) (gv0 : Nat → Int) (gv1 : Nat → Int) : Option ρ :=
  (slices_IndexFunc_nf N (fun rv2 => (K0 ((decide (rv2 ≥ 0))))) gv0 gv1)

noncomputable def slices_IndexFunc_nf_v2.b0 {ρ : Type} (N : Nat) (K0 : Int → Option ρ) (rec : Option ρ) (out0 : Option ρ) : Option ρ :=
  out0

noncomputable def slices_IndexFunc_nf_v2.a0_0 {ρ : Type} (N : Nat) (K0 : Int → Option ρ) : Option ρ :=
  (K0 (-1))

noncomputable def slices_IndexFunc_nf_v2.l0 {ρ : Type} (N : Nat) (K0 : Int → Option ρ) (out0 : Option ρ) : Nat → Option ρ
  | 0 => none
  | m + 1 => (slices_IndexFunc_nf_v2.b0 N K0 ((slices_IndexFunc_nf_v2.l0 N K0 out0 m)) out0)

noncomputable def slices_IndexFunc_nf_v2.s {ρ : Type} (N : Nat) (K0 : Int → Option ρ) (lp0 : Option ρ) : Option ρ :=
  lp0

noncomputable def slices_IndexFunc_nf_v2 {ρ : Type} (N : Nat) (K0 : Int → Option ρ) (gv0 : Nat → Int) (gv1 : Nat → Int) : Option ρ :=
  (slices_IndexFunc_nf_v2.s N K0 ((slices_IndexFunc_nf_v2.l0 N K0 (slices_IndexFunc_nf_v2.a0_0 N K0) N)))

noncomputable def slices_ContainsFunc_nf_v2 {ρ : Type} (N : Nat) (K0 : Bool → Option ρ) (gv0 : Nat → Int) (gv1 : Nat → Int) : Option ρ :=
  (slices_IndexFunc_nf_v2 N (fun rv2 => (K0 ((decide (rv2 ≥ 0))))) gv0 gv1)

noncomputable def impl_system_solve_v2.b0 {ρ : Type} (N : Nat) (K0 : Bool → Option ρ) (rec : Option ρ) (out0 : Option ρ) (gv1 : Nat → Int) : Option ρ :=
  (if (decide (0 < (gv1 0))) = true then out0 else out0)

noncomputable def impl_system_solve_v2.a0_0 {ρ : Type} (N : Nat) (K0 : Bool → Option ρ) (gv0 : Nat → Int) (gv1 : Nat → Int) : Option ρ :=
  (slices_ContainsFunc_nf_v2 N (fun rv2 => (K0 ((!rv2)))) gv0 gv1)

noncomputable def impl_system_solve_v2.l0 {ρ : Type} (N : Nat) (K0 : Bool → Option ρ) (gv1 : Nat → Int) (out0 : Option ρ) : Nat → Option ρ
  | 0 => none
  | m + 1 => (impl_system_solve_v2.b0 N K0 ((impl_system_solve_v2.l0 N K0 gv1 out0 m)) out0 gv1)

noncomputable def impl_system_solve_v2.s {ρ : Type} (N : Nat) (K0 : Bool → Option ρ) (lp0 : Option ρ) : Option ρ :=
  lp0

noncomputable def impl_system_solve_v2 {ρ : Type} (N : Nat) (K0 : Bool → Option ρ) (gv0 : Nat → Int) (gv1 : Nat → Int) : Option ρ :=
  (impl_system_solve_v2.s N K0 ((impl_system_solve_v2.l0 N K0 gv1 (impl_system_solve_v2.a0_0 N K0 gv0 gv1) N)))

noncomputable def impl_reduced_n.b1 {ρ : Type} (N : Nat) (K0 : Nat → (Nat → Int) → Option ρ) (rec : Option ρ) (out0 : Option ρ) : Option ρ :=
  out0

noncomputable def impl_reduced_n.a1_0 {ρ : Type} (N : Nat) (K0 : Nat → (Nat → Int) → Option ρ) : Option ρ :=
  (K0 0 (fun _ => 0))

noncomputable def impl_reduced_n.b0 {ρ : Type} (N : Nat) (K0 : Nat → (Nat → Int) → Option ρ) (rec : Option ρ) (out0 : Option ρ) : Option ρ :=
  out0

noncomputable def impl_reduced_n.a0_0 {ρ : Type} (N : Nat) (K0 : Nat → (Nat → Int) → Option ρ) (lp1 : Option ρ) (rv1 : Nat → Int) (rv2 : Nat → Int) : Option ρ :=
  (impl_system_solve_v2 N (fun rv3 => lp1) rv1 rv2)

noncomputable def impl_reduced_n.l1 {ρ : Type} (N : Nat) (K0 : Nat → (Nat → Int) → Option ρ) (out0 : Option ρ) : Nat → Option ρ
  | 0 => none
  | m + 1 => (impl_reduced_n.b1 N K0 ((impl_reduced_n.l1 N K0 out0 m)) out0)

noncomputable def impl_reduced_n.l0 {ρ : Type} (N : Nat) (K0 : Nat → (Nat → Int) → Option ρ) (out0 : Option ρ) : Nat → Option ρ
  | 0 => none
  | m + 1 => (impl_reduced_n.b0 N K0 ((impl_reduced_n.l0 N K0 out0 m)) out0)

noncomputable def impl_reduced_n.s {ρ : Type} (N : Nat) (K0 : Nat → (Nat → Int) → Option ρ) (lp0 : (Nat → Int) → (Nat → Int) → Option ρ) (p0 : Int) : Option ρ :=
  (impl_newSystem N (fun rv1 rv2 => (lp0 rv1 rv2)) p0 8)

noncomputable def impl_reduced_n {ρ : Type} (N : Nat) (K0 : Nat → (Nat → Int) → Option ρ) (p0 : Int) : Option ρ :=
  (impl_reduced_n.s N K0 (fun rv1 rv2 => (impl_reduced_n.l0 N K0 (impl_reduced_n.a0_0 N K0 ((impl_reduced_n.l1 N K0 (impl_reduced_n.a1_0 N K0) N)) rv1 rv2) N)) p0)

noncomputable def impl_ReduceVectors_n {ρ : Type} (N : Nat) (K0 : Nat → Int → (Nat → Int) → Option ρ) (p0 : Int) (nv1 : Int) : Option ρ :=
  (slices_ContainsFunc_nf N (fun rv2 => (impl_IsVector N (fun rv3 => (if (!rv3) = true then (K0 0 1 (fun _ => 0)) else (if rv2 = true then (K0 0 1 (fun _ => 0)) else (impl_reduced_n N (fun rv4 rv5 => (K0 rv4 0 rv5)) p0)))) p0 nv1 (fun _ => 0))) (fun _ => p0) (fun _ => nv1))

noncomputable def laws_FnExactReduceVectors_su {ρ : Type} (N : Nat) (K0 : Bool → Option ρ) (aP0 : Int) (aN1 : Int) (aList2 : Nat) (gv3 : Nat) (gv4 : Nat → Int) : Option ρ :=
  (laws_szVectorS_su N (fun rv5 => (if (decide (rv5 < 0)) = true then (K0 true) else (laws_toVectorS_su0 N (fun rv6 rv7 rv8 rv9 => (spec_ReduceVectors_s N (fun rv10 rv11 rv12 => (laws_toVectorS_su0 N (fun rv13 rv14 rv15 rv16 => (impl_ReduceVectors_s N (fun rv17 rv18 rv19 => (laws_eqVectorS_susu N (fun rv20 => (if (!rv20) = true then (K0 false) else (if (rv18 != rv11) = true then (K0 false) else (laws_toVectorS_su0 N (fun rv21 rv22 rv23 rv24 => (laws_intactVectorS_ss N (fun rv25 => (if (!rv25) = true then (K0 false) else (laws_markVectorS_s N (fun rv26 rv27 => (if (decide (rv26 < 0)) = true then (K0 false) else (laws_eqVectorS_susu N (fun rv28 => (if (!rv28) = true then (K0 false) else (if (rv18 != rv11) = true then (K0 false) else (laws_markVectorS_su N (fun rv29 rv30 => (laws_heldVectorS_su N (fun rv31 => (if (decide (rv31 < 0)) = true then (K0 false) else (if (rv31 != rv29) = true then (K0 false) else (laws_toVectorS_su1 N (impl_ReduceVectors_n N (fun rv32 rv33 rv34 => (laws_eqVectorS_susu N (fun rv35 => (if (!rv35) = true then (K0 false) else (if (rv33 != rv11) = true then (K0 false) else (laws_heldVectorS_su N (fun rv36 => (if (decide (rv36 < 0)) = true then (K0 false) else (if (rv36 != rv29) = true then (K0 false) else (K0 true)))) rv17 101 (rv17 * 8) (fun z => ((updN rv19 0 (rv17 * 8) rv30) (0 + z))))))) rv32 rv10 (rv32 * 8) (fun z => (rv34 (0 + z))) (rv10 * 8) (fun z => (rv12 (0 + z))))) aP0 aN1) (fun rv37 rv38 rv39 rv40 => (impl_ReduceVectors_s N (fun rv41 rv42 rv43 => (laws_eqVectorS_susu N (fun rv44 => (if (!rv44) = true then (K0 false) else (if (rv42 != rv11) = true then (K0 false) else (laws_heldVectorS_su N (fun rv45 => (if (decide (rv45 < 0)) = true then (K0 false) else (if (rv45 != rv29) = true then (K0 false) else (K0 true)))) rv17 101 (rv17 * 8) (fun z => ((updN rv19 0 (rv17 * 8) rv30) (0 + z))))))) rv41 rv10 (rv41 * 8) (fun z => (rv43 (0 + z))) (rv10 * 8) (fun z => (rv12 (0 + z))))) aP0 aN1 rv37 rv38 (rv38 * 8) (fun z => (rv40 (0 + z))))) aList2 (aList2 * 8) (fun z => (gv4 (0 + z))))))) rv17 101 (rv17 * 8) (fun z => ((updN rv19 0 (rv17 * 8) rv30) (0 + z))))) rv17 101 (rv17 * 8) (fun z => (rv19 (0 + z))))))) rv17 rv10 (rv17 * 8) (fun z => (rv19 (0 + z))) (rv10 * 8) (fun z => (rv12 (0 + z)))))) rv13 rv14 101 (rv14 * 8) (fun z => (rv16 (0 + z)))))) rv13 rv14 rv21 rv22 (rv14 * 8) (fun z => (rv16 (0 + z))) (rv22 * 8) (fun z => (rv24 (0 + z))))) aList2 (aList2 * 8) (fun z => (gv4 (0 + z))))))) rv17 rv10 (rv17 * 8) (fun z => (rv19 (0 + z))) (rv10 * 8) (fun z => (rv12 (0 + z))))) aP0 aN1 rv13 rv14 (rv14 * 8) (fun z => (rv16 (0 + z))))) aList2 (aList2 * 8) (fun z => (gv4 (0 + z))))) aP0 aN1 rv6 rv7 (rv7 * 8) (fun z => (rv9 (0 + z))))) aList2 (aList2 * 8) (fun z => (gv4 (0 + z)))))) aList2 1000000 (aList2 * 8) (fun z => (gv4 (0 + z))))
end Go.Proofs.Ytfiopadjbheclaa.H
