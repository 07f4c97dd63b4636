import Derived.Test.YtmjpfchbkolcbaaHyUse
namespace Go.Proofs.Ytmjpfchbkolcbaa.H
noncomputable section
set_option linter.unusedVariables false
set_option linter.unusedSimpArgs false
open Go Go.RowKit Go.Proofs.Ytmjpfchbkolcbaa.Hy
set_option maxRecDepth 100000
def laws_toVector.b0 {ρ : Type} (N : Nat) (K0 : (Nat → Int) → Option ρ) (rec : Int → (Nat → Int) → Option ρ) (out0 : (Nat → Int) → Option ρ) (av0 : Nat → Int) (i1 : Int) (gv2 : Nat → Int) : Option ρ :=
  (if (decide (i1 < 8)) = true then (if (0 : Int) ≤ i1 ∧ i1 < 8 then (if (0 : Int) ≤ i1 ∧ i1 < 8 then (rec ((IntKind.i64.wrap (i1 + 1))) (upd gv2 (i1.toNat * 1) (av0 (i1.toNat * 1)))) else none) else none) else (out0 gv2))
def laws_toVector.a0_0 {ρ : Type} (N : Nat) (K0 : (Nat → Int) → Option ρ) (ov3 : Nat → Int) : Option ρ :=
  (K0 ov3)
def laws_toVector.l0 {ρ : Type} (N : Nat) (K0 : (Nat → Int) → Option ρ) (av0 : Nat → Int) (out0 : (Nat → Int) → Option ρ) : Nat → Int → (Nat → Int) → Option ρ
  | 0, _, _ => none
  | m + 1, i1, gv2 => (laws_toVector.b0 N K0 ((laws_toVector.l0 N K0 av0 out0 m)) out0 av0 i1 gv2)
def laws_toVector.s {ρ : Type} (N : Nat) (K0 : (Nat → Int) → Option ρ) (lp0 : Int → (Nat → Int) → Option ρ) : Option ρ :=
  (lp0 0 (fun _ => 0))
def laws_toVector {ρ : Type} (N : Nat) (K0 : (Nat → Int) → Option ρ) (av0 : Nat → Int) : Option ρ :=
  (laws_toVector.s N K0 (fun i1 gv2 => (laws_toVector.l0 N K0 av0 (fun ov3 => (laws_toVector.a0_0 N K0 ov3)) N i1 gv2)))
def laws_toLinear.b0 {ρ : Type} (N : Nat) (K0 : (Nat → Int) → Option ρ) (rec : Int → (Nat → Int) → Option ρ) (out0 : (Nat → Int) → Option ρ) (av0 : Nat → Int) (i1 : Int) (gv2 : Nat → Int) : Option ρ :=
  (if (decide (i1 < 8)) = true then (if (0 : Int) ≤ i1 ∧ i1 < 8 then (laws_toVector N (fun rv3 => (if (0 : Int) ≤ i1 ∧ i1 < 8 then (rec ((IntKind.i64.wrap (i1 + 1))) (updN gv2 (i1.toNat * 8) 8 rv3)) else none)) (fun z => (av0 ((i1.toNat * 8) + z)))) else none) else (out0 gv2))
def laws_toLinear.a0_0 {ρ : Type} (N : Nat) (K0 : (Nat → Int) → Option ρ) (ov4 : Nat → Int) : Option ρ :=
  (K0 ov4)
def laws_toLinear.l0 {ρ : Type} (N : Nat) (K0 : (Nat → Int) → Option ρ) (av0 : Nat → Int) (out0 : (Nat → Int) → Option ρ) : Nat → Int → (Nat → Int) → Option ρ
  | 0, _, _ => none
  | m + 1, i1, gv2 => (laws_toLinear.b0 N K0 ((laws_toLinear.l0 N K0 av0 out0 m)) out0 av0 i1 gv2)
def laws_toLinear.s {ρ : Type} (N : Nat) (K0 : (Nat → Int) → Option ρ) (lp0 : Int → (Nat → Int) → Option ρ) : Option ρ :=
  (lp0 0 (fun _ => 0))
def laws_toLinear {ρ : Type} (N : Nat) (K0 : (Nat → Int) → Option ρ) (av0 : Nat → Int) : Option ρ :=
  (laws_toLinear.s N K0 (fun i1 gv2 => (laws_toLinear.l0 N K0 av0 (fun ov4 => (laws_toLinear.a0_0 N K0 ov4)) N i1 gv2)))
def laws_toTable.b0 {ρ : Type} (N : Nat) (K0 : (Nat → Int) → Option ρ) (rec : Int → (Nat → Int) → Option ρ) (out0 : (Nat → Int) → Option ρ) (av0 : Nat → Int) (i1 : Int) (gv2 : Nat → Int) : Option ρ :=
  (if (decide (i1 < 8)) = true then (if (0 : Int) ≤ i1 ∧ i1 < 8 then (laws_toLinear N (fun rv3 => (if (0 : Int) ≤ i1 ∧ i1 < 8 then (rec ((IntKind.i64.wrap (i1 + 1))) (updN gv2 (i1.toNat * 64) 64 rv3)) else none)) (fun z => (av0 ((i1.toNat * 64) + z)))) else none) else (out0 gv2))
def laws_toTable.a0_0 {ρ : Type} (N : Nat) (K0 : (Nat → Int) → Option ρ) (ov4 : Nat → Int) : Option ρ :=
  (K0 ov4)
def laws_toTable.l0 {ρ : Type} (N : Nat) (K0 : (Nat → Int) → Option ρ) (av0 : Nat → Int) (out0 : (Nat → Int) → Option ρ) : Nat → Int → (Nat → Int) → Option ρ
  | 0, _, _ => none
  | m + 1, i1, gv2 => (laws_toTable.b0 N K0 ((laws_toTable.l0 N K0 av0 out0 m)) out0 av0 i1 gv2)
def laws_toTable.s {ρ : Type} (N : Nat) (K0 : (Nat → Int) → Option ρ) (lp0 : Int → (Nat → Int) → Option ρ) : Option ρ :=
  (lp0 0 (fun _ => 0))
def laws_toTable {ρ : Type} (N : Nat) (K0 : (Nat → Int) → Option ρ) (av0 : Nat → Int) : Option ρ :=
  (laws_toTable.s N K0 (fun i1 gv2 => (laws_toTable.l0 N K0 av0 (fun ov4 => (laws_toTable.a0_0 N K0 ov4)) N i1 gv2)))
def laws_toAlgebra {ρ : Type} (N : Nat) (K0 : (Nat → Int) → (Nat → Int) → Option ρ) (av0 : Nat → Int) (av1 : Nat → Int) : Option ρ :=
  (laws_toVector N (fun rv2 => (laws_toTable N (fun rv3 => (K0 (upd (upd (fun _ => 0) 0 (av0 0)) 1 (av0 1)) (updN (updN (fun _ => 0) 0 8 rv2) 8 512 rv3))) (fun z => (av1 (8 + z))))) (fun z => (av1 (0 + z))))
def spec_l01In {ρ : Type} (N : Nat) (K0 : Bool → Option ρ) (nv0 : Int) (low1 : Int) (high2 : Int) : Option ρ :=
  (if (decide (nv0 ≥ low1)) = true then (K0 ((decide (nv0 ≤ high2)))) else (K0 false))
def spec_l01Prime.b0 {ρ : Type} (N : Nat) (K0 : Bool → Option ρ) (rec : Int → Option ρ) (out0 : Option ρ) (p0 : Int) (k1 : Int) : Option ρ :=
  (if (decide (k1 < p0)) = true then (if (decide (k1 ≤ 31)) = true then (if k1 = 0 then none else (if ((Int.tmod p0 k1) == 0) = true then (K0 false) else (rec ((IntKind.i64.wrap (k1 + 1)))))) else out0) else out0)
def spec_l01Prime.a0_0 {ρ : Type} (N : Nat) (K0 : Bool → Option ρ) (p0 : Int) : Option ρ :=
  (spec_l01In N (fun rv2 => (K0 (rv2))) p0 2 31)
def spec_l01Prime.l0 {ρ : Type} (N : Nat) (K0 : Bool → Option ρ) (p0 : Int) (out0 : Option ρ) : Nat → Int → Option ρ
  | 0, _ => none
  | m + 1, k1 => (spec_l01Prime.b0 N K0 ((spec_l01Prime.l0 N K0 p0 out0 m)) out0 p0 k1)
def spec_l01Prime.s {ρ : Type} (N : Nat) (K0 : Bool → Option ρ) (lp0 : Int → Option ρ) : Option ρ :=
  (lp0 2)
def spec_l01Prime {ρ : Type} (N : Nat) (K0 : Bool → Option ρ) (p0 : Int) : Option ρ :=
  (spec_l01Prime.s N K0 (fun k1 => (spec_l01Prime.l0 N K0 p0 (spec_l01Prime.a0_0 N K0 p0) N k1)))
def spec_l01Sizes {ρ : Type} (N : Nat) (K0 : Bool → Option ρ) (p0 : Int) (nv1 : Int) : Option ρ :=
  (spec_l01Prime N (fun rv2 => (if rv2 = true then (spec_l01In N (fun rv3 => (K0 (rv3))) nv1 1 8) else (K0 false))) p0)
def spec_l01Vector.b0 {ρ : Type} (N : Nat) (K0 : Bool → Option ρ) (rec : Int → Option ρ) (out0 : Option ρ) (p0 : Int) (nv1 : Int) (v2 : Nat → Int) (i3 : Int) : Option ρ :=
  (if (decide (i3 < 8)) = true then (if (0 : Int) ≤ i3 ∧ i3 < 8 then (if (decide ((IntKind.i64.wrap (v2 (i3.toNat * 1))) ≥ p0)) = true then (K0 false) else (if (decide (i3 ≥ nv1)) = true then (if (0 : Int) ≤ i3 ∧ i3 < 8 then (if ((v2 (i3.toNat * 1)) != 0) = true then (K0 false) else (rec ((IntKind.i64.wrap (i3 + 1))))) else none) else (rec ((IntKind.i64.wrap (i3 + 1)))))) else none) else out0)
def spec_l01Vector.a0_0 {ρ : Type} (N : Nat) (K0 : Bool → Option ρ) : Option ρ :=
  (K0 true)
def spec_l01Vector.l0 {ρ : Type} (N : Nat) (K0 : Bool → Option ρ) (p0 : Int) (nv1 : Int) (v2 : Nat → Int) (out0 : Option ρ) : Nat → Int → Option ρ
  | 0, _ => none
  | m + 1, i3 => (spec_l01Vector.b0 N K0 ((spec_l01Vector.l0 N K0 p0 nv1 v2 out0 m)) out0 p0 nv1 v2 i3)
def spec_l01Vector.s {ρ : Type} (N : Nat) (K0 : Bool → Option ρ) (lp0 : Int → Option ρ) : Option ρ :=
  (lp0 0)
def spec_l01Vector {ρ : Type} (N : Nat) (K0 : Bool → Option ρ) (p0 : Int) (nv1 : Int) (v2 : Nat → Int) : Option ρ :=
  (spec_l01Vector.s N K0 (fun i3 => (spec_l01Vector.l0 N K0 p0 nv1 v2 (spec_l01Vector.a0_0 N K0) N i3)))
def spec_l01Linear.b0 {ρ : Type} (N : Nat) (K0 : Bool → Option ρ) (rec : Int → Option ρ) (out0 : Option ρ) (p0 : Int) (nv1 : Int) (f2 : Nat → Int) (i3 : Int) : Option ρ :=
  (if (decide (i3 < 8)) = true then (if (0 : Int) ≤ i3 ∧ i3 < 8 then (spec_l01Vector N (fun rv4 => (if (!rv4) = true then (K0 false) else (if (decide (i3 ≥ nv1)) = true then (if (0 : Int) ≤ i3 ∧ i3 < 8 then (if (!eqN 8 (fun z => (f2 ((i3.toNat * 8) + z))) (fun _ => 0)) = true then (K0 false) else (rec ((IntKind.i64.wrap (i3 + 1))))) else none) else (rec ((IntKind.i64.wrap (i3 + 1))))))) p0 nv1 (fun z => (f2 ((i3.toNat * 8) + z)))) else none) else out0)
def spec_l01Linear.a0_0 {ρ : Type} (N : Nat) (K0 : Bool → Option ρ) : Option ρ :=
  (K0 true)
def spec_l01Linear.l0 {ρ : Type} (N : Nat) (K0 : Bool → Option ρ) (p0 : Int) (nv1 : Int) (f2 : Nat → Int) (out0 : Option ρ) : Nat → Int → Option ρ
  | 0, _ => none
  | m + 1, i3 => (spec_l01Linear.b0 N K0 ((spec_l01Linear.l0 N K0 p0 nv1 f2 out0 m)) out0 p0 nv1 f2 i3)
def spec_l01Linear.s {ρ : Type} (N : Nat) (K0 : Bool → Option ρ) (lp0 : Int → Option ρ) : Option ρ :=
  (lp0 0)
def spec_l01Linear {ρ : Type} (N : Nat) (K0 : Bool → Option ρ) (p0 : Int) (nv1 : Int) (f2 : Nat → Int) : Option ρ :=
  (spec_l01Linear.s N K0 (fun i3 => (spec_l01Linear.l0 N K0 p0 nv1 f2 (spec_l01Linear.a0_0 N K0) N i3)))
def spec_l01Table.b0 {ρ : Type} (N : Nat) (K0 : Bool → Option ρ) (rec : Int → Option ρ) (out0 : Option ρ) (p0 : Int) (nv1 : Int) (t2 : Nat → Int) (i3 : Int) : Option ρ :=
  (if (decide (i3 < 8)) = true then (if (0 : Int) ≤ i3 ∧ i3 < 8 then (spec_l01Linear N (fun rv4 => (if (!rv4) = true then (K0 false) else (if (decide (i3 ≥ nv1)) = true then (if (0 : Int) ≤ i3 ∧ i3 < 8 then (if (!eqN 64 (fun z => (t2 ((i3.toNat * 64) + z))) (fun _ => 0)) = true then (K0 false) else (rec ((IntKind.i64.wrap (i3 + 1))))) else none) else (rec ((IntKind.i64.wrap (i3 + 1))))))) p0 nv1 (fun z => (t2 ((i3.toNat * 64) + z)))) else none) else out0)
def spec_l01Table.a0_0 {ρ : Type} (N : Nat) (K0 : Bool → Option ρ) : Option ρ :=
  (K0 true)
def spec_l01Table.l0 {ρ : Type} (N : Nat) (K0 : Bool → Option ρ) (p0 : Int) (nv1 : Int) (t2 : Nat → Int) (out0 : Option ρ) : Nat → Int → Option ρ
  | 0, _ => none
  | m + 1, i3 => (spec_l01Table.b0 N K0 ((spec_l01Table.l0 N K0 p0 nv1 t2 out0 m)) out0 p0 nv1 t2 i3)
def spec_l01Table.s {ρ : Type} (N : Nat) (K0 : Bool → Option ρ) (lp0 : Int → Option ρ) : Option ρ :=
  (lp0 0)
def spec_l01Table {ρ : Type} (N : Nat) (K0 : Bool → Option ρ) (p0 : Int) (nv1 : Int) (t2 : Nat → Int) : Option ρ :=
  (spec_l01Table.s N K0 (fun i3 => (spec_l01Table.l0 N K0 p0 nv1 t2 (spec_l01Table.a0_0 N K0) N i3)))
def spec_l01Shape {ρ : Type} (N : Nat) (K0 : Bool → Option ρ) (av0 : Nat → Int) (av1 : Nat → Int) : Option ρ :=
  (spec_l01Sizes N (fun rv2 => (if rv2 = true then (spec_l01Vector N (fun rv3 => (if rv3 = true then (spec_l01Table N (fun rv4 => (K0 (rv4))) ((av0 0)) ((av0 1)) (fun z => (av1 (8 + z)))) else (K0 false))) ((av0 0)) ((av0 1)) (fun z => (av1 (0 + z)))) else (K0 false))) ((av0 0)) ((av0 1)))
def spec_l01Basis {ρ : Type} (N : Nat) (K0 : (Nat → Int) → Option ρ) (i0 : Int) : Option ρ :=
  (if (0 : Int) ≤ i0 ∧ i0 < 8 then (K0 (upd (fun _ => 0) (i0.toNat * 1) 1)) else none)
def spec_l01Mod {ρ : Type} (N : Nat) (K0 : Int → Option ρ) (p0 : Int) (x1 : Int) : Option ρ :=
  (if p0 = 0 then none else (if p0 = 0 then none else (K0 ((IntKind.u8.wrap (Int.tmod (IntKind.i64.wrap ((Int.tmod x1 p0) + p0)) p0))))))
def spec_l01Add.b0 {ρ : Type} (N : Nat) (K0 : (Nat → Int) → Option ρ) (rec : Int → (Nat → Int) → Option ρ) (out0 : (Nat → Int) → Option ρ) (p0 : Int) (w2 : Nat → Int) (k3 : Int) (i4 : Int) (gv5 : Nat → Int) : Option ρ :=
  (if (decide (i4 < 8)) = true then (if (0 : Int) ≤ i4 ∧ i4 < 8 then (if (0 : Int) ≤ i4 ∧ i4 < 8 then (spec_l01Mod N (fun rv6 => (if (0 : Int) ≤ i4 ∧ i4 < 8 then (rec ((IntKind.i64.wrap (i4 + 1))) (upd gv5 (i4.toNat * 1) rv6)) else none)) p0 ((IntKind.i64.wrap ((IntKind.i64.wrap (gv5 (i4.toNat * 1))) + (IntKind.i64.wrap (k3 * (IntKind.i64.wrap (w2 (i4.toNat * 1))))))))) else none) else none) else (out0 gv5))
def spec_l01Add.a0_0 {ρ : Type} (N : Nat) (K0 : (Nat → Int) → Option ρ) (ov7 : Nat → Int) : Option ρ :=
  (K0 ov7)
def spec_l01Add.l0 {ρ : Type} (N : Nat) (K0 : (Nat → Int) → Option ρ) (p0 : Int) (w2 : Nat → Int) (k3 : Int) (out0 : (Nat → Int) → Option ρ) : Nat → Int → (Nat → Int) → Option ρ
  | 0, _, _ => none
  | m + 1, i4, gv5 => (spec_l01Add.b0 N K0 ((spec_l01Add.l0 N K0 p0 w2 k3 out0 m)) out0 p0 w2 k3 i4 gv5)
def spec_l01Add.s {ρ : Type} (N : Nat) (K0 : (Nat → Int) → Option ρ) (lp0 : Int → (Nat → Int) → Option ρ) (v1 : Nat → Int) : Option ρ :=
  (lp0 0 v1)
def spec_l01Add {ρ : Type} (N : Nat) (K0 : (Nat → Int) → Option ρ) (p0 : Int) (v1 : Nat → Int) (w2 : Nat → Int) (k3 : Int) : Option ρ :=
  (spec_l01Add.s N K0 (fun i4 gv5 => (spec_l01Add.l0 N K0 p0 w2 k3 (fun ov7 => (spec_l01Add.a0_0 N K0 ov7)) N i4 gv5)) v1)
def spec_l01Apply.b0 {ρ : Type} (N : Nat) (K0 : (Nat → Int) → Option ρ) (rec : Int → (Nat → Int) → Option ρ) (out0 : (Nat → Int) → Option ρ) (p0 : Int) (nv1 : Int) (f2 : Nat → Int) (v3 : Nat → Int) (i4 : Int) (gv5 : Nat → Int) : Option ρ :=
  (if (decide (i4 < nv1)) = true then (if (0 : Int) ≤ i4 ∧ i4 < 8 then (if ((v3 (i4.toNat * 1)) != 0) = true then (if (0 : Int) ≤ i4 ∧ i4 < 8 then (if (0 : Int) ≤ i4 ∧ i4 < 8 then (spec_l01Add N (fun rv6 => (rec ((IntKind.i64.wrap (i4 + 1))) rv6)) p0 gv5 (fun z => (f2 ((i4.toNat * 8) + z))) ((IntKind.i64.wrap (v3 (i4.toNat * 1))))) else none) else none) else (rec ((IntKind.i64.wrap (i4 + 1))) gv5)) else none) else (out0 gv5))
def spec_l01Apply.a0_0 {ρ : Type} (N : Nat) (K0 : (Nat → Int) → Option ρ) (ov7 : Nat → Int) : Option ρ :=
  (K0 ov7)
def spec_l01Apply.l0 {ρ : Type} (N : Nat) (K0 : (Nat → Int) → Option ρ) (p0 : Int) (nv1 : Int) (f2 : Nat → Int) (v3 : Nat → Int) (out0 : (Nat → Int) → Option ρ) : Nat → Int → (Nat → Int) → Option ρ
  | 0, _, _ => none
  | m + 1, i4, gv5 => (spec_l01Apply.b0 N K0 ((spec_l01Apply.l0 N K0 p0 nv1 f2 v3 out0 m)) out0 p0 nv1 f2 v3 i4 gv5)
def spec_l01Apply.s {ρ : Type} (N : Nat) (K0 : (Nat → Int) → Option ρ) (lp0 : Int → (Nat → Int) → Option ρ) : Option ρ :=
  (lp0 0 (fun _ => 0))
def spec_l01Apply {ρ : Type} (N : Nat) (K0 : (Nat → Int) → Option ρ) (p0 : Int) (nv1 : Int) (f2 : Nat → Int) (v3 : Nat → Int) : Option ρ :=
  (spec_l01Apply.s N K0 (fun i4 gv5 => (spec_l01Apply.l0 N K0 p0 nv1 f2 v3 (fun ov7 => (spec_l01Apply.a0_0 N K0 ov7)) N i4 gv5)))
def spec_l01Times.b0 {ρ : Type} (N : Nat) (K0 : (Nat → Int) → Option ρ) (rec : Int → (Nat → Int) → Option ρ) (out0 : (Nat → Int) → Option ρ) (av0 : Nat → Int) (av1 : Nat → Int) (v2 : Nat → Int) (w3 : Nat → Int) (i4 : Int) (gv5 : Nat → Int) : Option ρ :=
  (if (decide (i4 < (av0 1))) = true then (if (0 : Int) ≤ i4 ∧ i4 < 8 then (if ((v2 (i4.toNat * 1)) != 0) = true then (if (0 : Int) ≤ i4 ∧ i4 < 8 then (spec_l01Apply N (fun rv6 => (if (0 : Int) ≤ i4 ∧ i4 < 8 then (spec_l01Add N (fun rv7 => (rec ((IntKind.i64.wrap (i4 + 1))) rv7)) ((av0 0)) gv5 rv6 ((IntKind.i64.wrap (v2 (i4.toNat * 1))))) else none)) ((av0 0)) ((av0 1)) (fun z => (av1 ((8 + (i4.toNat * 64)) + z))) w3) else none) else (rec ((IntKind.i64.wrap (i4 + 1))) gv5)) else none) else (out0 gv5))
def spec_l01Times.a0_0 {ρ : Type} (N : Nat) (K0 : (Nat → Int) → Option ρ) (ov8 : Nat → Int) : Option ρ :=
  (K0 ov8)
def spec_l01Times.l0 {ρ : Type} (N : Nat) (K0 : (Nat → Int) → Option ρ) (av0 : Nat → Int) (av1 : Nat → Int) (v2 : Nat → Int) (w3 : Nat → Int) (out0 : (Nat → Int) → Option ρ) : Nat → Int → (Nat → Int) → Option ρ
  | 0, _, _ => none
  | m + 1, i4, gv5 => (spec_l01Times.b0 N K0 ((spec_l01Times.l0 N K0 av0 av1 v2 w3 out0 m)) out0 av0 av1 v2 w3 i4 gv5)
def spec_l01Times.s {ρ : Type} (N : Nat) (K0 : (Nat → Int) → Option ρ) (lp0 : Int → (Nat → Int) → Option ρ) : Option ρ :=
  (lp0 0 (fun _ => 0))
def spec_l01Times {ρ : Type} (N : Nat) (K0 : (Nat → Int) → Option ρ) (av0 : Nat → Int) (av1 : Nat → Int) (v2 : Nat → Int) (w3 : Nat → Int) : Option ρ :=
  (spec_l01Times.s N K0 (fun i4 gv5 => (spec_l01Times.l0 N K0 av0 av1 v2 w3 (fun ov8 => (spec_l01Times.a0_0 N K0 ov8)) N i4 gv5)))
def spec_l01Fault.b2 {ρ : Type} (N : Nat) (K0 : Nat → Nat → Bool → (Nat → Int) → Option ρ) (K1 : Bool → Option ρ) (rec : Int → Option ρ) (out0 : Option ρ) (av0 : Nat → Int) (av1 : Nat → Int) (i2 : Int) (j3 : Int) (k4 : Int) : Option ρ :=
  (if (decide (k4 < (av0 1))) = true then (if (0 : Int) ≤ i2 ∧ i2 < 8 then (if (0 : Int) ≤ j3 ∧ j3 < 8 then (spec_l01Basis N (fun rv5 => (spec_l01Times N (fun rv6 => (spec_l01Basis N (fun rv7 => (if (0 : Int) ≤ j3 ∧ j3 < 8 then (if (0 : Int) ≤ k4 ∧ k4 < 8 then (spec_l01Times N (fun rv8 => (if (!eqN 8 rv6 rv8) = true then (K0 3 3 true (upd (upd (upd (fun _ => 0) 0 i2) 1 j3) 2 k4)) else (rec ((IntKind.i64.wrap (k4 + 1)))))) av0 av1 rv7 (fun z => (av1 (((8 + (j3.toNat * 64)) + (k4.toNat * 8)) + z)))) else none) else none)) i2)) av0 av1 (fun z => (av1 (((8 + (i2.toNat * 64)) + (j3.toNat * 8)) + z))) rv5)) k4) else none) else none) else out0)
def spec_l01Fault.a2_0 {ρ : Type} (N : Nat) (K0 : Nat → Nat → Bool → (Nat → Int) → Option ρ) (K1 : Bool → Option ρ) (rec : Int → Option ρ) (out0 : Option ρ) (j3 : Int) : Option ρ :=
  (rec ((IntKind.i64.wrap (j3 + 1))))
def spec_l01Fault.b1 {ρ : Type} (N : Nat) (K0 : Nat → Nat → Bool → (Nat → Int) → Option ρ) (K1 : Bool → Option ρ) (lp2 : Int → Option ρ) (rec : Int → Option ρ) (out0 : Option ρ) (av0 : Nat → Int) (j3 : Int) : Option ρ :=
  (if (decide (j3 < (av0 1))) = true then (lp2 0) else out0)
def spec_l01Fault.a1_0 {ρ : Type} (N : Nat) (K0 : Nat → Nat → Bool → (Nat → Int) → Option ρ) (K1 : Bool → Option ρ) (rec : Int → Option ρ) (out0 : Option ρ) (i2 : Int) : Option ρ :=
  (rec ((IntKind.i64.wrap (i2 + 1))))
def spec_l01Fault.b0 {ρ : Type} (N : Nat) (K0 : Nat → Nat → Bool → (Nat → Int) → Option ρ) (K1 : Bool → Option ρ) (lp1 : Int → Option ρ) (rec : Int → Option ρ) (out0 : Option ρ) (av0 : Nat → Int) (i2 : Int) : Option ρ :=
  (if (decide (i2 < (av0 1))) = true then (lp1 0) else out0)
def spec_l01Fault.a0_0 {ρ : Type} (N : Nat) (K0 : Nat → Nat → Bool → (Nat → Int) → Option ρ) (K1 : Bool → Option ρ) : Option ρ :=
  (K1 false)
def spec_l01Fault.l2 {ρ : Type} (N : Nat) (K0 : Nat → Nat → Bool → (Nat → Int) → Option ρ) (K1 : Bool → Option ρ) (av0 : Nat → Int) (av1 : Nat → Int) (i2 : Int) (j3 : Int) (out0 : Option ρ) : Nat → Int → Option ρ
  | 0, _ => none
  | m + 1, k4 => (spec_l01Fault.b2 N K0 K1 ((spec_l01Fault.l2 N K0 K1 av0 av1 i2 j3 out0 m)) out0 av0 av1 i2 j3 k4)
def spec_l01Fault.l1 {ρ : Type} (N : Nat) (K0 : Nat → Nat → Bool → (Nat → Int) → Option ρ) (K1 : Bool → Option ρ) (av0 : Nat → Int) (av1 : Nat → Int) (i2 : Int) (out0 : Option ρ) : Nat → Int → Option ρ
  | 0, _ => none
  | m + 1, j3 => (spec_l01Fault.b1 N K0 K1 (fun k4 => (spec_l01Fault.l2 N K0 K1 av0 av1 i2 j3 (spec_l01Fault.a2_0 N K0 K1 (spec_l01Fault.l1 N K0 K1 av0 av1 i2 out0 m) out0 j3) N k4)) ((spec_l01Fault.l1 N K0 K1 av0 av1 i2 out0 m)) out0 av0 j3)
def spec_l01Fault.l0 {ρ : Type} (N : Nat) (K0 : Nat → Nat → Bool → (Nat → Int) → Option ρ) (K1 : Bool → Option ρ) (av0 : Nat → Int) (av1 : Nat → Int) (out0 : Option ρ) : Nat → Int → Option ρ
  | 0, _ => none
  | m + 1, i2 => (spec_l01Fault.b0 N K0 K1 (fun j3 => (spec_l01Fault.l1 N K0 K1 av0 av1 i2 (spec_l01Fault.a1_0 N K0 K1 (spec_l01Fault.l0 N K0 K1 av0 av1 out0 m) out0 i2) N j3)) ((spec_l01Fault.l0 N K0 K1 av0 av1 out0 m)) out0 av0 i2)
def spec_l01Fault.s {ρ : Type} (N : Nat) (K0 : Nat → Nat → Bool → (Nat → Int) → Option ρ) (K1 : Bool → Option ρ) (lp0 : Int → Option ρ) : Option ρ :=
  (lp0 0)
def spec_l01Fault {ρ : Type} (N : Nat) (K0 : Nat → Nat → Bool → (Nat → Int) → Option ρ) (K1 : Bool → Option ρ) (av0 : Nat → Int) (av1 : Nat → Int) : Option ρ :=
  (spec_l01Fault.s N K0 K1 (fun i2 => (spec_l01Fault.l0 N K0 K1 av0 av1 (spec_l01Fault.a0_0 N K0 K1) N i2)))
def spec_l01Is.b0 {ρ : Type} (N : Nat) (K0 : Bool → Option ρ) (rec : Int → Option ρ) (out0 : Option ρ) (av0 : Nat → Int) (av1 : Nat → Int) (i3 : Int) : Option ρ :=
  (if (decide (i3 < (av0 1))) = true then (spec_l01Basis N (fun rv4 => (spec_l01Times N (fun rv5 => (spec_l01Basis N (fun rv6 => (if (!eqN 8 rv5 rv6) = true then (K0 false) else (spec_l01Basis N (fun rv7 => (spec_l01Times N (fun rv8 => (spec_l01Basis N (fun rv9 => (if (!eqN 8 rv8 rv9) = true then (K0 false) else (rec ((IntKind.i64.wrap (i3 + 1)))))) i3)) av0 av1 rv7 (fun z => (av1 (0 + z))))) i3))) i3)) av0 av1 (fun z => (av1 (0 + z))) rv4)) i3) else out0)
def spec_l01Is.a0_0 {ρ : Type} (N : Nat) (K0 : Bool → Option ρ) (av0 : Nat → Int) (av1 : Nat → Int) : Option ρ :=
  (spec_l01Fault N (fun rv10 rv11 rv12 rv13 => (K0 ((!rv12)))) (fun rv14 => (K0 ((!rv14)))) av0 av1)
def spec_l01Is.l0 {ρ : Type} (N : Nat) (K0 : Bool → Option ρ) (av0 : Nat → Int) (av1 : Nat → Int) (out0 : Option ρ) : Nat → Int → Option ρ
  | 0, _ => none
  | m + 1, i3 => (spec_l01Is.b0 N K0 ((spec_l01Is.l0 N K0 av0 av1 out0 m)) out0 av0 av1 i3)
def spec_l01Is.s {ρ : Type} (N : Nat) (K0 : Bool → Option ρ) (lp0 : Int → Option ρ) (av0 : Nat → Int) (av1 : Nat → Int) : Option ρ :=
  (spec_l01Shape N (fun rv2 => (if (!rv2) = true then (K0 false) else (lp0 0))) av0 av1)
def spec_l01Is {ρ : Type} (N : Nat) (K0 : Bool → Option ρ) (av0 : Nat → Int) (av1 : Nat → Int) : Option ρ :=
  (spec_l01Is.s N K0 (fun i3 => (spec_l01Is.l0 N K0 av0 av1 (spec_l01Is.a0_0 N K0 av0 av1) N i3)) av0 av1)
def spec_l01Whole.b0 {ρ : Type} (N : Nat) (K0 : Nat → (Nat → Int) → Option ρ) (rec : Nat → Int → (Nat → Int) → Option ρ) (out0 : Nat → (Nat → Int) → Option ρ) (nv0 : Int) (outv1 : Nat) (i2 : Int) (gv3 : Nat → Int) : Option ρ :=
  (if (decide (i2 < nv0)) = true then (spec_l01Basis N (fun rv4 => (if (outv1 + 1) * 8 ≤ 140737488355328 then (rec (outv1 + 1) ((IntKind.i64.wrap (i2 + 1))) (joinN (outv1 * 8) gv3 rv4)) else none)) i2) else (out0 outv1 gv3))
def spec_l01Whole.a0_0 {ρ : Type} (N : Nat) (K0 : Nat → (Nat → Int) → Option ρ) (ov5 : Nat) (ov6 : Nat → Int) : Option ρ :=
  (K0 ov5 ov6)
def spec_l01Whole.l0 {ρ : Type} (N : Nat) (K0 : Nat → (Nat → Int) → Option ρ) (nv0 : Int) (out0 : Nat → (Nat → Int) → Option ρ) : Nat → Nat → Int → (Nat → Int) → Option ρ
  | 0, _, _, _ => none
  | m + 1, outv1, i2, gv3 => (spec_l01Whole.b0 N K0 ((spec_l01Whole.l0 N K0 nv0 out0 m)) out0 nv0 outv1 i2 gv3)
def spec_l01Whole.s {ρ : Type} (N : Nat) (K0 : Nat → (Nat → Int) → Option ρ) (lp0 : Nat → Int → (Nat → Int) → Option ρ) : Option ρ :=
  (lp0 0 0 (fun _ => 0))
def spec_l01Whole {ρ : Type} (N : Nat) (K0 : Nat → (Nat → Int) → Option ρ) (nv0 : Int) : Option ρ :=
  (spec_l01Whole.s N K0 (fun outv1 i2 gv3 => (spec_l01Whole.l0 N K0 nv0 (fun ov5 ov6 => (spec_l01Whole.a0_0 N K0 ov5 ov6)) N outv1 i2 gv3)))
def spec_l01Zero {ρ : Type} (N : Nat) (K0 : Bool → Option ρ) (v0 : Nat → Int) : Option ρ :=
  (K0 ((eqN 8 v0 (fun _ => 0))))
def spec_l01First.b0 {ρ : Type} (N : Nat) (K0 : Int → Option ρ) (rec : Int → Option ρ) (out0 : Int → Option ρ) (v0 : Nat → Int) (at1 : Int) : Option ρ :=
  (if (decide (at1 < 8)) = true then (if (0 : Int) ≤ at1 ∧ at1 < 8 then (if ((v0 (at1.toNat * 1)) == 0) = true then (rec ((IntKind.i64.wrap (at1 + 1)))) else (out0 at1)) else none) else (out0 at1))
def spec_l01First.a0_0 {ρ : Type} (N : Nat) (K0 : Int → Option ρ) (ov2 : Int) : Option ρ :=
  (K0 ov2)
def spec_l01First.l0 {ρ : Type} (N : Nat) (K0 : Int → Option ρ) (v0 : Nat → Int) (out0 : Int → Option ρ) : Nat → Int → Option ρ
  | 0, _ => none
  | m + 1, at1 => (spec_l01First.b0 N K0 ((spec_l01First.l0 N K0 v0 out0 m)) out0 v0 at1)
def spec_l01First.s {ρ : Type} (N : Nat) (K0 : Int → Option ρ) (lp0 : Int → Option ρ) : Option ρ :=
  (lp0 0)
def spec_l01First {ρ : Type} (N : Nat) (K0 : Int → Option ρ) (v0 : Nat → Int) : Option ρ :=
  (spec_l01First.s N K0 (fun at1 => (spec_l01First.l0 N K0 v0 (fun ov2 => (spec_l01First.a0_0 N K0 ov2)) N at1)))
def spec_l01Inverse.b0 {ρ : Type} (N : Nat) (K0 : Int → Option ρ) (rec : Int → Option ρ) (out0 : Option ρ) (p0 : Int) (x1 : Int) (k2 : Int) : Option ρ :=
  (if (decide (k2 < p0)) = true then (if p0 = 0 then none else (if ((Int.tmod (IntKind.i64.wrap (k2 * (IntKind.i64.wrap x1))) p0) == 1) = true then (K0 ((IntKind.u8.wrap k2))) else (rec ((IntKind.i64.wrap (k2 + 1)))))) else out0)
def spec_l01Inverse.a0_0 {ρ : Type} (N : Nat) (K0 : Int → Option ρ) : Option ρ :=
  (K0 0)
def spec_l01Inverse.l0 {ρ : Type} (N : Nat) (K0 : Int → Option ρ) (p0 : Int) (x1 : Int) (out0 : Option ρ) : Nat → Int → Option ρ
  | 0, _ => none
  | m + 1, k2 => (spec_l01Inverse.b0 N K0 ((spec_l01Inverse.l0 N K0 p0 x1 out0 m)) out0 p0 x1 k2)
def spec_l01Inverse.s {ρ : Type} (N : Nat) (K0 : Int → Option ρ) (lp0 : Int → Option ρ) : Option ρ :=
  (lp0 1)
def spec_l01Inverse {ρ : Type} (N : Nat) (K0 : Int → Option ρ) (p0 : Int) (x1 : Int) : Option ρ :=
  (spec_l01Inverse.s N K0 (fun k2 => (spec_l01Inverse.l0 N K0 p0 x1 (spec_l01Inverse.a0_0 N K0) N k2)))
def spec_l01Solve.b1 {ρ : Type} (N : Nat) (K0 : Nat → Nat → Nat → (Nat → Int) → (Nat → Int) → (Nat → Int) → Option ρ) (rec : Int → (Nat → Int) → (Nat → Int) → Option ρ) (out0 : (Nat → Int) → (Nat → Int) → Option ρ) (p0 : Int) (images3 : Nat) (sources4 : Nat) (gv7 : Nat → Int) (gv8 : Nat → Int) (k11 : Int) (gv12 : Nat → Int) (gv13 : Nat → Int) : Option ρ :=
  (if (decide (k11 < (images3 : Int))) = true then (if (0 : Int) ≤ k11 ∧ k11 < (images3 : Int) then (spec_l01First N (fun rv14 => (if (0 : Int) ≤ rv14 ∧ rv14 < 8 then (if ((gv12 (rv14.toNat * 1)) != 0) = true then (if (0 : Int) ≤ rv14 ∧ rv14 < 8 then (if (0 : Int) ≤ k11 ∧ k11 < (images3 : Int) then (spec_l01Add N (fun rv15 => (if (0 : Int) ≤ k11 ∧ k11 < (sources4 : Int) then (spec_l01Add N (fun rv16 => (rec ((IntKind.i64.wrap (k11 + 1))) rv15 rv16)) p0 gv13 (fun z => (gv8 ((0 + (k11.toNat * 8)) + z))) ((IntKind.i64.wrap (0 - (IntKind.i64.wrap (gv12 (rv14.toNat * 1))))))) else none)) p0 gv12 (fun z => (gv7 ((0 + (k11.toNat * 8)) + z))) ((IntKind.i64.wrap (0 - (IntKind.i64.wrap (gv12 (rv14.toNat * 1))))))) else none) else none) else (rec ((IntKind.i64.wrap (k11 + 1))) gv12 gv13)) else none)) (fun z => (gv7 ((0 + (k11.toNat * 8)) + z)))) else none) else (out0 gv12 gv13))
def spec_l01Solve.a1_0 {ρ : Type} (N : Nat) (K0 : Nat → Nat → Nat → (Nat → Int) → (Nat → Int) → (Nat → Int) → Option ρ) (rec : Nat → Nat → Nat → Int → (Nat → Int) → (Nat → Int) → (Nat → Int) → Option ρ) (out0 : Nat → Nat → Nat → (Nat → Int) → (Nat → Int) → (Nat → Int) → Option ρ) (p0 : Int) (images3 : Nat) (sources4 : Nat) (kernel5 : Nat) (i6 : Int) (gv7 : Nat → Int) (gv8 : Nat → Int) (gv9 : Nat → Int) (ov17 : Nat → Int) (ov18 : Nat → Int) : Option ρ :=
  (spec_l01Zero N (fun rv19 => (if rv19 = true then (if (kernel5 + 1) * 8 ≤ 140737488355328 then (rec images3 sources4 (kernel5 + 1) ((IntKind.i64.wrap (i6 + 1))) gv7 gv8 (joinN (kernel5 * 8) gv9 ov18)) else none) else (spec_l01First N (fun rv20 => (if (0 : Int) ≤ rv20 ∧ rv20 < 8 then (spec_l01Inverse N (fun rv21 => (spec_l01Add N (fun rv22 => (if (images3 + 1) * 8 ≤ 140737488355328 then (spec_l01Add N (fun rv23 => (if (sources4 + 1) * 8 ≤ 140737488355328 then (rec (images3 + 1) (sources4 + 1) kernel5 ((IntKind.i64.wrap (i6 + 1))) (joinN (images3 * 8) gv7 rv22) (joinN (sources4 * 8) gv8 rv23) gv9) else none)) p0 (fun _ => 0) ov18 ((IntKind.i64.wrap rv21))) else none)) p0 (fun _ => 0) ov17 ((IntKind.i64.wrap rv21)))) p0 ((ov17 (rv20.toNat * 1)))) else none)) ov17))) ov17)
def spec_l01Solve.b0 {ρ : Type} (N : Nat) (K0 : Nat → Nat → Nat → (Nat → Int) → (Nat → Int) → (Nat → Int) → Option ρ) (lp1 : Int → (Nat → Int) → (Nat → Int) → Option ρ) (rec : Nat → Nat → Nat → Int → (Nat → Int) → (Nat → Int) → (Nat → Int) → Option ρ) (out0 : Nat → Nat → Nat → (Nat → Int) → (Nat → Int) → (Nat → Int) → Option ρ) (nv1 : Int) (f2 : Nat → Int) (images3 : Nat) (sources4 : Nat) (kernel5 : Nat) (i6 : Int) (gv7 : Nat → Int) (gv8 : Nat → Int) (gv9 : Nat → Int) : Option ρ :=
  (if (decide (i6 < nv1)) = true then (if (0 : Int) ≤ i6 ∧ i6 < 8 then (spec_l01Basis N (fun rv10 => (lp1 0 (fun z => (f2 ((i6.toNat * 8) + z))) rv10)) i6) else none) else (out0 images3 sources4 kernel5 gv7 gv8 gv9))
def spec_l01Solve.a0_0 {ρ : Type} (N : Nat) (K0 : Nat → Nat → Nat → (Nat → Int) → (Nat → Int) → (Nat → Int) → Option ρ) (ov24 : Nat) (ov25 : Nat) (ov26 : Nat) (ov27 : Nat → Int) (ov28 : Nat → Int) (ov29 : Nat → Int) : Option ρ :=
  (K0 ov24 ov25 ov26 ov27 ov28 ov29)
def spec_l01Solve.l1 {ρ : Type} (N : Nat) (K0 : Nat → Nat → Nat → (Nat → Int) → (Nat → Int) → (Nat → Int) → Option ρ) (p0 : Int) (images3 : Nat) (sources4 : Nat) (gv7 : Nat → Int) (gv8 : Nat → Int) (out0 : (Nat → Int) → (Nat → Int) → Option ρ) : Nat → Int → (Nat → Int) → (Nat → Int) → Option ρ
  | 0, _, _, _ => none
  | m + 1, k11, gv12, gv13 => (spec_l01Solve.b1 N K0 ((spec_l01Solve.l1 N K0 p0 images3 sources4 gv7 gv8 out0 m)) out0 p0 images3 sources4 gv7 gv8 k11 gv12 gv13)
def spec_l01Solve.l0 {ρ : Type} (N : Nat) (K0 : Nat → Nat → Nat → (Nat → Int) → (Nat → Int) → (Nat → Int) → Option ρ) (p0 : Int) (nv1 : Int) (f2 : Nat → Int) (out0 : Nat → Nat → Nat → (Nat → Int) → (Nat → Int) → (Nat → Int) → Option ρ) : Nat → Nat → Nat → Nat → Int → (Nat → Int) → (Nat → Int) → (Nat → Int) → Option ρ
  | 0, _, _, _, _, _, _, _ => none
  | m + 1, images3, sources4, kernel5, i6, gv7, gv8, gv9 => (spec_l01Solve.b0 N K0 (fun k11 gv12 gv13 => (spec_l01Solve.l1 N K0 p0 images3 sources4 gv7 gv8 (fun ov17 ov18 => (spec_l01Solve.a1_0 N K0 (spec_l01Solve.l0 N K0 p0 nv1 f2 out0 m) out0 p0 images3 sources4 kernel5 i6 gv7 gv8 gv9 ov17 ov18)) N k11 gv12 gv13)) ((spec_l01Solve.l0 N K0 p0 nv1 f2 out0 m)) out0 nv1 f2 images3 sources4 kernel5 i6 gv7 gv8 gv9)
def spec_l01Solve.s {ρ : Type} (N : Nat) (K0 : Nat → Nat → Nat → (Nat → Int) → (Nat → Int) → (Nat → Int) → Option ρ) (lp0 : Nat → Nat → Nat → Int → (Nat → Int) → (Nat → Int) → (Nat → Int) → Option ρ) : Option ρ :=
  (lp0 0 0 0 0 (fun _ => 0) (fun _ => 0) (fun _ => 0))
def spec_l01Solve {ρ : Type} (N : Nat) (K0 : Nat → Nat → Nat → (Nat → Int) → (Nat → Int) → (Nat → Int) → Option ρ) (p0 : Int) (nv1 : Int) (f2 : Nat → Int) : Option ρ :=
  (spec_l01Solve.s N K0 (fun images3 sources4 kernel5 i6 gv7 gv8 gv9 => (spec_l01Solve.l0 N K0 p0 nv1 f2 (fun ov24 ov25 ov26 ov27 ov28 ov29 => (spec_l01Solve.a0_0 N K0 ov24 ov25 ov26 ov27 ov28 ov29)) N images3 sources4 kernel5 i6 gv7 gv8 gv9)))
def spec_l01By_su_v2.b0 {ρ : Type} (N : Nat) (K0 : (Nat → Int) → Option ρ) (rec : Int → (Nat → Int) → Option ρ) (out0 : (Nat → Int) → Option ρ) (p0 : Int) (rows2 : Nat) (gv4 : Nat → Int) (i5 : Int) (gv6 : Nat → Int) : Option ρ :=
  (if (decide (i5 < (rows2 : Int))) = true then (if (0 : Int) ≤ i5 ∧ i5 < (rows2 : Int) then (spec_l01First N (fun rv7 => (if (0 : Int) ≤ rv7 ∧ rv7 < 8 then (if ((gv6 (rv7.toNat * 1)) != 0) = true then (if (0 : Int) ≤ i5 ∧ i5 < (rows2 : Int) then (if (0 : Int) ≤ rv7 ∧ rv7 < 8 then (spec_l01Add N (fun rv8 => (rec ((IntKind.i64.wrap (i5 + 1))) rv8)) p0 gv6 (fun z => (gv4 ((0 + (i5.toNat * 8)) + z))) ((IntKind.i64.wrap (0 - (IntKind.i64.wrap (gv6 (rv7.toNat * 1))))))) else none) else none) else (rec ((IntKind.i64.wrap (i5 + 1))) gv6)) else none)) (fun z => (gv4 ((0 + (i5.toNat * 8)) + z)))) else none) else (out0 gv6))
def spec_l01By_su_v2.a0_0 {ρ : Type} (N : Nat) (K0 : (Nat → Int) → Option ρ) (ov9 : Nat → Int) : Option ρ :=
  (K0 ov9)
def spec_l01By_su_v2.l0 {ρ : Type} (N : Nat) (K0 : (Nat → Int) → Option ρ) (p0 : Int) (rows2 : Nat) (gv4 : Nat → Int) (out0 : (Nat → Int) → Option ρ) : Nat → Int → (Nat → Int) → Option ρ
  | 0, _, _ => none
  | m + 1, i5, gv6 => (spec_l01By_su_v2.b0 N K0 ((spec_l01By_su_v2.l0 N K0 p0 rows2 gv4 out0 m)) out0 p0 rows2 gv4 i5 gv6)
def spec_l01By_su_v2.s {ρ : Type} (N : Nat) (K0 : (Nat → Int) → Option ρ) (lp0 : Int → (Nat → Int) → Option ρ) (v1 : Nat → Int) : Option ρ :=
  (lp0 0 v1)
def spec_l01By_su_v2 {ρ : Type} (N : Nat) (K0 : (Nat → Int) → Option ρ) (p0 : Int) (v1 : Nat → Int) (rows2 : Nat) (gv3 : Nat) (gv4 : Nat → Int) : Option ρ :=
  (spec_l01By_su_v2.s N K0 (fun i5 gv6 => (spec_l01By_su_v2.l0 N K0 p0 rows2 gv4 (fun ov9 => (spec_l01By_su_v2.a0_0 N K0 ov9)) N i5 gv6)) v1)
def spec_l01Put_su_v2.b0 {ρ : Type} (N : Nat) (K0 : Nat → Option ρ) (K1 : Nat → (Nat → Int) → Option ρ) (rec : Nat → Bool → Int → (Nat → Int) → Option ρ) (out0 : Nat → Bool → (Nat → Int) → Option ρ) (p0 : Int) (rows1 : Nat) (gv4 : Nat → Int) (rv7 : Int) (rv9 : Nat → Int) (outv10 : Nat) (placed11 : Bool) (i12 : Int) (gv13 : Nat → Int) : Option ρ :=
  (if (decide (i12 < (rows1 : Int))) = true then (if (!placed11) = true then (if (0 : Int) ≤ i12 ∧ i12 < (rows1 : Int) then (spec_l01First N (fun rv14 => (if (decide (rv14 > rv7)) = true then (if (outv10 + 1) * 8 ≤ 140737488355328 then (if (0 : Int) ≤ i12 ∧ i12 < (rows1 : Int) then (if (0 : Int) ≤ i12 ∧ i12 < (rows1 : Int) then (if (0 : Int) ≤ rv7 ∧ rv7 < 8 then (spec_l01Add N (fun rv15 => (if ((outv10 + 1) + 1) * 8 ≤ 140737488355328 then (rec ((outv10 + 1) + 1) true ((IntKind.i64.wrap (i12 + 1))) (joinN ((outv10 + 1) * 8) (joinN (outv10 * 8) gv13 rv9) rv15)) else none)) p0 (fun z => (gv4 ((0 + (i12.toNat * 8)) + z))) rv9 ((IntKind.i64.wrap (0 - (IntKind.i64.wrap (gv4 ((0 + (i12.toNat * 8)) + (rv7.toNat * 1)))))))) else none) else none) else none) else none) else (if (0 : Int) ≤ i12 ∧ i12 < (rows1 : Int) then (if (0 : Int) ≤ i12 ∧ i12 < (rows1 : Int) then (if (0 : Int) ≤ rv7 ∧ rv7 < 8 then (spec_l01Add N (fun rv16 => (if (outv10 + 1) * 8 ≤ 140737488355328 then (rec (outv10 + 1) (placed11) ((IntKind.i64.wrap (i12 + 1))) (joinN (outv10 * 8) gv13 rv16)) else none)) p0 (fun z => (gv4 ((0 + (i12.toNat * 8)) + z))) rv9 ((IntKind.i64.wrap (0 - (IntKind.i64.wrap (gv4 ((0 + (i12.toNat * 8)) + (rv7.toNat * 1)))))))) else none) else none) else none))) (fun z => (gv4 ((0 + (i12.toNat * 8)) + z)))) else none) else (if (0 : Int) ≤ i12 ∧ i12 < (rows1 : Int) then (if (0 : Int) ≤ i12 ∧ i12 < (rows1 : Int) then (if (0 : Int) ≤ rv7 ∧ rv7 < 8 then (spec_l01Add N (fun rv17 => (if (outv10 + 1) * 8 ≤ 140737488355328 then (rec (outv10 + 1) (placed11) ((IntKind.i64.wrap (i12 + 1))) (joinN (outv10 * 8) gv13 rv17)) else none)) p0 (fun z => (gv4 ((0 + (i12.toNat * 8)) + z))) rv9 ((IntKind.i64.wrap (0 - (IntKind.i64.wrap (gv4 ((0 + (i12.toNat * 8)) + (rv7.toNat * 1)))))))) else none) else none) else none)) else (out0 outv10 (placed11) gv13))
def spec_l01Put_su_v2.a0_0 {ρ : Type} (N : Nat) (K0 : Nat → Option ρ) (K1 : Nat → (Nat → Int) → Option ρ) (rv9 : Nat → Int) (ov18 : Nat) (ov19 : Bool) (ov20 : Nat → Int) : Option ρ :=
  (if (!ov19) = true then (if (ov18 + 1) * 8 ≤ 140737488355328 then (K1 (ov18 + 1) (joinN (ov18 * 8) ov20 rv9)) else none) else (K1 ov18 ov20))
def spec_l01Put_su_v2.l0 {ρ : Type} (N : Nat) (K0 : Nat → Option ρ) (K1 : Nat → (Nat → Int) → Option ρ) (p0 : Int) (rows1 : Nat) (gv4 : Nat → Int) (rv7 : Int) (rv9 : Nat → Int) (out0 : Nat → Bool → (Nat → Int) → Option ρ) : Nat → Nat → Bool → Int → (Nat → Int) → Option ρ
  | 0, _, _, _, _ => none
  | m + 1, outv10, placed11, i12, gv13 => (spec_l01Put_su_v2.b0 N K0 K1 ((spec_l01Put_su_v2.l0 N K0 K1 p0 rows1 gv4 rv7 rv9 out0 m)) out0 p0 rows1 gv4 rv7 rv9 outv10 placed11 i12 gv13)
def spec_l01Put_su_v2.s {ρ : Type} (N : Nat) (K0 : Nat → Option ρ) (K1 : Nat → (Nat → Int) → Option ρ) (lp0 : Int → (Nat → Int) → Nat → Bool → Int → (Nat → Int) → Option ρ) (p0 : Int) (rows1 : Nat) (v2 : Nat → Int) (gv4 : Nat → Int) : Option ρ :=
  (spec_l01By_su_v2 N (fun rv5 => (spec_l01Zero N (fun rv6 => (if rv6 = true then (K0 rows1) else (spec_l01First N (fun rv7 => (if (0 : Int) ≤ rv7 ∧ rv7 < 8 then (spec_l01Inverse N (fun rv8 => (spec_l01Add N (fun rv9 => (lp0 rv7 rv9 0 false 0 (fun _ => 0))) p0 (fun _ => 0) rv5 ((IntKind.i64.wrap rv8)))) p0 ((rv5 (rv7.toNat * 1)))) else none)) rv5))) rv5)) p0 v2 rows1 (rows1 * 8) (fun z => (gv4 (0 + z))))
def spec_l01Put_su_v2 {ρ : Type} (N : Nat) (K0 : Nat → Option ρ) (K1 : Nat → (Nat → Int) → Option ρ) (p0 : Int) (rows1 : Nat) (v2 : Nat → Int) (gv3 : Nat) (gv4 : Nat → Int) : Option ρ :=
  (spec_l01Put_su_v2.s N K0 K1 (fun rv7 rv9 outv10 placed11 i12 gv13 => (spec_l01Put_su_v2.l0 N K0 K1 p0 rows1 gv4 rv7 rv9 (fun ov18 ov19 ov20 => (spec_l01Put_su_v2.a0_0 N K0 K1 rv9 ov18 ov19 ov20)) N outv10 placed11 i12 gv13)) p0 rows1 v2 gv4)
def spec_l01Reduce_su.b0 {ρ : Type} (N : Nat) (K0 : Nat → (Nat → Int) → Option ρ) (rec : Nat → Int → (Nat → Int) → Option ρ) (out0 : Nat → (Nat → Int) → Option ρ) (p0 : Int) (list1 : Nat) (gv3 : Nat → Int) (outv4 : Nat) (i5 : Int) (gv6 : Nat → Int) : Option ρ :=
  (if (decide (i5 < (list1 : Int))) = true then (if (0 : Int) ≤ i5 ∧ i5 < (list1 : Int) then (spec_l01Put_su_v2 N (fun rv7 => (rec rv7 ((IntKind.i64.wrap (i5 + 1))) gv6)) (fun rv8 rv9 => (rec rv8 ((IntKind.i64.wrap (i5 + 1))) rv9)) p0 outv4 (fun z => (gv3 ((0 + (i5.toNat * 8)) + z))) (outv4 * 8) (fun z => (gv6 (0 + z)))) else none) else (out0 outv4 gv6))
def spec_l01Reduce_su.a0_0 {ρ : Type} (N : Nat) (K0 : Nat → (Nat → Int) → Option ρ) (ov10 : Nat) (ov11 : Nat → Int) : Option ρ :=
  (K0 ov10 ov11)
def spec_l01Reduce_su.l0 {ρ : Type} (N : Nat) (K0 : Nat → (Nat → Int) → Option ρ) (p0 : Int) (list1 : Nat) (gv3 : Nat → Int) (out0 : Nat → (Nat → Int) → Option ρ) : Nat → Nat → Int → (Nat → Int) → Option ρ
  | 0, _, _, _ => none
  | m + 1, outv4, i5, gv6 => (spec_l01Reduce_su.b0 N K0 ((spec_l01Reduce_su.l0 N K0 p0 list1 gv3 out0 m)) out0 p0 list1 gv3 outv4 i5 gv6)
def spec_l01Reduce_su.s {ρ : Type} (N : Nat) (K0 : Nat → (Nat → Int) → Option ρ) (lp0 : Nat → Int → (Nat → Int) → Option ρ) : Option ρ :=
  (lp0 0 0 (fun _ => 0))
def spec_l01Reduce_su {ρ : Type} (N : Nat) (K0 : Nat → (Nat → Int) → Option ρ) (p0 : Int) (list1 : Nat) (gv2 : Nat) (gv3 : Nat → Int) : Option ρ :=
  (spec_l01Reduce_su.s N K0 (fun outv4 i5 gv6 => (spec_l01Reduce_su.l0 N K0 p0 list1 gv3 (fun ov10 ov11 => (spec_l01Reduce_su.a0_0 N K0 ov10 ov11)) N outv4 i5 gv6)))
def spec_l01Kernel {ρ : Type} (N : Nat) (K0 : Nat → (Nat → Int) → Option ρ) (p0 : Int) (nv1 : Int) (f2 : Nat → Int) : Option ρ :=
  (spec_l01Solve N (fun rv3 rv4 rv5 rv6 rv7 rv8 => (spec_l01Reduce_su N (fun rv9 rv10 => (K0 rv9 rv10)) p0 rv5 (rv5 * 8) (fun z => (rv8 (0 + z))))) p0 nv1 f2)
def spec_l01Meet_susu_v2.b2 {ρ : Type} (N : Nat) (K0 : Nat → (Nat → Int) → Option ρ) (rec : Int → (Nat → Int) → Option ρ) (out0 : (Nat → Int) → Option ρ) (p0 : Int) (one1 : Nat) (gv4 : Nat → Int) (rv11 : Nat) (rv12 : Nat → Int) (i14 : Int) (k16 : Int) (gv17 : Nat → Int) : Option ρ :=
  (if (decide (k16 < (one1 : Int))) = true then (if (0 : Int) ≤ k16 ∧ k16 < (one1 : Int) then (if (0 : Int) ≤ i14 ∧ i14 < (rv11 : Int) then (if (0 : Int) ≤ k16 ∧ k16 < 8 then (spec_l01Add N (fun rv18 => (rec ((IntKind.i64.wrap (k16 + 1))) rv18)) p0 gv17 (fun z => (gv4 ((0 + (k16.toNat * 8)) + z))) ((IntKind.i64.wrap (rv12 ((0 + (i14.toNat * 8)) + (k16.toNat * 1)))))) else none) else none) else none) else (out0 gv17))
def spec_l01Meet_susu_v2.a2_0 {ρ : Type} (N : Nat) (K0 : Nat → (Nat → Int) → Option ρ) (rec : Nat → Int → (Nat → Int) → Option ρ) (out0 : Nat → (Nat → Int) → Option ρ) (p0 : Int) (outv13 : Nat) (i14 : Int) (gv15 : Nat → Int) (ov19 : Nat → Int) : Option ρ :=
  (spec_l01Put_su_v2 N (fun rv20 => (rec rv20 ((IntKind.i64.wrap (i14 + 1))) gv15)) (fun rv21 rv22 => (rec rv21 ((IntKind.i64.wrap (i14 + 1))) rv22)) p0 outv13 ov19 (outv13 * 8) (fun z => (gv15 (0 + z))))
def spec_l01Meet_susu_v2.b1 {ρ : Type} (N : Nat) (K0 : Nat → (Nat → Int) → Option ρ) (lp2 : Int → (Nat → Int) → Option ρ) (rec : Nat → Int → (Nat → Int) → Option ρ) (out0 : Nat → (Nat → Int) → Option ρ) (rv11 : Nat) (outv13 : Nat) (i14 : Int) (gv15 : Nat → Int) : Option ρ :=
  (if (decide (i14 < (rv11 : Int))) = true then (lp2 0 (fun _ => 0)) else (out0 outv13 gv15))
def spec_l01Meet_susu_v2.a1_0 {ρ : Type} (N : Nat) (K0 : Nat → (Nat → Int) → Option ρ) (ov23 : Nat) (ov24 : Nat → Int) : Option ρ :=
  (K0 ov23 ov24)
def spec_l01Meet_susu_v2.b0 {ρ : Type} (N : Nat) (K0 : Nat → (Nat → Int) → Option ρ) (rec : Int → (Nat → Int) → Option ρ) (out0 : (Nat → Int) → Option ρ) (p0 : Int) (one1 : Nat) (two2 : Nat) (gv4 : Nat → Int) (gv6 : Nat → Int) (i7 : Int) (gv8 : Nat → Int) : Option ρ :=
  (if (decide (i7 < (one1 : Int))) = true then (if (0 : Int) ≤ i7 ∧ i7 < (one1 : Int) then (spec_l01By_su_v2 N (fun rv9 => (if (0 : Int) ≤ i7 ∧ i7 < 8 then (rec ((IntKind.i64.wrap (i7 + 1))) (updN gv8 (i7.toNat * 8) 8 rv9)) else none)) p0 (fun z => (gv4 ((0 + (i7.toNat * 8)) + z))) two2 (two2 * 8) (fun z => (gv6 (0 + z)))) else none) else (out0 gv8))
def spec_l01Meet_susu_v2.a0_0 {ρ : Type} (N : Nat) (K0 : Nat → (Nat → Int) → Option ρ) (lp1 : Nat → (Nat → Int) → Nat → Int → (Nat → Int) → Option ρ) (p0 : Int) (one1 : Nat) (ov10 : Nat → Int) : Option ρ :=
  (spec_l01Kernel N (fun rv11 rv12 => (lp1 rv11 rv12 0 0 (fun _ => 0))) p0 ((one1 : Int)) ov10)
def spec_l01Meet_susu_v2.l2 {ρ : Type} (N : Nat) (K0 : Nat → (Nat → Int) → Option ρ) (p0 : Int) (one1 : Nat) (gv4 : Nat → Int) (rv11 : Nat) (rv12 : Nat → Int) (i14 : Int) (out0 : (Nat → Int) → Option ρ) : Nat → Int → (Nat → Int) → Option ρ
  | 0, _, _ => none
  | m + 1, k16, gv17 => (spec_l01Meet_susu_v2.b2 N K0 ((spec_l01Meet_susu_v2.l2 N K0 p0 one1 gv4 rv11 rv12 i14 out0 m)) out0 p0 one1 gv4 rv11 rv12 i14 k16 gv17)
def spec_l01Meet_susu_v2.l1 {ρ : Type} (N : Nat) (K0 : Nat → (Nat → Int) → Option ρ) (p0 : Int) (one1 : Nat) (gv4 : Nat → Int) (rv11 : Nat) (rv12 : Nat → Int) (out0 : Nat → (Nat → Int) → Option ρ) : Nat → Nat → Int → (Nat → Int) → Option ρ
  | 0, _, _, _ => none
  | m + 1, outv13, i14, gv15 => (spec_l01Meet_susu_v2.b1 N K0 (fun k16 gv17 => (spec_l01Meet_susu_v2.l2 N K0 p0 one1 gv4 rv11 rv12 i14 (fun ov19 => (spec_l01Meet_susu_v2.a2_0 N K0 (spec_l01Meet_susu_v2.l1 N K0 p0 one1 gv4 rv11 rv12 out0 m) out0 p0 outv13 i14 gv15 ov19)) N k16 gv17)) ((spec_l01Meet_susu_v2.l1 N K0 p0 one1 gv4 rv11 rv12 out0 m)) out0 rv11 outv13 i14 gv15)
def spec_l01Meet_susu_v2.l0 {ρ : Type} (N : Nat) (K0 : Nat → (Nat → Int) → Option ρ) (p0 : Int) (one1 : Nat) (two2 : Nat) (gv4 : Nat → Int) (gv6 : Nat → Int) (out0 : (Nat → Int) → Option ρ) : Nat → Int → (Nat → Int) → Option ρ
  | 0, _, _ => none
  | m + 1, i7, gv8 => (spec_l01Meet_susu_v2.b0 N K0 ((spec_l01Meet_susu_v2.l0 N K0 p0 one1 two2 gv4 gv6 out0 m)) out0 p0 one1 two2 gv4 gv6 i7 gv8)
def spec_l01Meet_susu_v2.s {ρ : Type} (N : Nat) (K0 : Nat → (Nat → Int) → Option ρ) (lp0 : Int → (Nat → Int) → Option ρ) : Option ρ :=
  (lp0 0 (fun _ => 0))
def spec_l01Meet_susu_v2 {ρ : Type} (N : Nat) (K0 : Nat → (Nat → Int) → Option ρ) (p0 : Int) (one1 : Nat) (two2 : Nat) (gv3 : Nat) (gv4 : Nat → Int) (gv5 : Nat) (gv6 : Nat → Int) : Option ρ :=
  (spec_l01Meet_susu_v2.s N K0 (fun i7 gv8 => (spec_l01Meet_susu_v2.l0 N K0 p0 one1 two2 gv4 gv6 (fun ov10 => (spec_l01Meet_susu_v2.a0_0 N K0 (fun rv11 rv12 outv13 i14 gv15 => (spec_l01Meet_susu_v2.l1 N K0 p0 one1 gv4 rv11 rv12 (fun ov23 ov24 => (spec_l01Meet_susu_v2.a1_0 N K0 ov23 ov24)) N outv13 i14 gv15)) p0 one1 ov10)) N i7 gv8)))
def spec_CentreOf.b1 {ρ : Type} (N : Nat) (K0 : Nat → Int → (Nat → Int) → Option ρ) (rec : Int → (Nat → Int) → Option ρ) (out0 : (Nat → Int) → Option ρ) (av0 : Nat → Int) (av1 : Nat → Int) (i6 : Int) (k8 : Int) (gv9 : Nat → Int) : Option ρ :=
  (if (decide (k8 < (av0 1))) = true then (if (0 : Int) ≤ k8 ∧ k8 < 8 then (if (0 : Int) ≤ i6 ∧ i6 < 8 then (if (0 : Int) ≤ i6 ∧ i6 < 8 then (if (0 : Int) ≤ k8 ∧ k8 < 8 then (spec_l01Add N (fun rv10 => (if (0 : Int) ≤ k8 ∧ k8 < 8 then (rec ((IntKind.i64.wrap (k8 + 1))) (updN gv9 (k8.toNat * 8) 8 rv10)) else none)) ((av0 0)) (fun z => (av1 (((8 + (k8.toNat * 64)) + (i6.toNat * 8)) + z))) (fun z => (av1 (((8 + (i6.toNat * 64)) + (k8.toNat * 8)) + z))) (-1)) else none) else none) else none) else none) else (out0 gv9))
def spec_CentreOf.a1_0 {ρ : Type} (N : Nat) (K0 : Nat → Int → (Nat → Int) → Option ρ) (rec : Nat → Int → (Nat → Int) → Option ρ) (out0 : Nat → (Nat → Int) → Option ρ) (av0 : Nat → Int) (outv5 : Nat) (i6 : Int) (gv7 : Nat → Int) (ov11 : Nat → Int) : Option ρ :=
  (spec_l01Kernel N (fun rv12 rv13 => (spec_l01Meet_susu_v2 N (fun rv14 rv15 => (rec rv14 ((IntKind.i64.wrap (i6 + 1))) rv15)) ((av0 0)) outv5 rv12 (outv5 * 8) (fun z => (gv7 (0 + z))) (rv12 * 8) (fun z => (rv13 (0 + z))))) ((av0 0)) ((av0 1)) ov11)
def spec_CentreOf.b0 {ρ : Type} (N : Nat) (K0 : Nat → Int → (Nat → Int) → Option ρ) (lp1 : Int → (Nat → Int) → Option ρ) (rec : Nat → Int → (Nat → Int) → Option ρ) (out0 : Nat → (Nat → Int) → Option ρ) (av0 : Nat → Int) (outv5 : Nat) (i6 : Int) (gv7 : Nat → Int) : Option ρ :=
  (if (decide (i6 < (av0 1))) = true then (lp1 0 (fun _ => 0)) else (out0 outv5 gv7))
def spec_CentreOf.a0_0 {ρ : Type} (N : Nat) (K0 : Nat → Int → (Nat → Int) → Option ρ) (ov16 : Nat) (ov17 : Nat → Int) : Option ρ :=
  (K0 ov16 0 ov17)
def spec_CentreOf.l1 {ρ : Type} (N : Nat) (K0 : Nat → Int → (Nat → Int) → Option ρ) (av0 : Nat → Int) (av1 : Nat → Int) (i6 : Int) (out0 : (Nat → Int) → Option ρ) : Nat → Int → (Nat → Int) → Option ρ
  | 0, _, _ => none
  | m + 1, k8, gv9 => (spec_CentreOf.b1 N K0 ((spec_CentreOf.l1 N K0 av0 av1 i6 out0 m)) out0 av0 av1 i6 k8 gv9)
def spec_CentreOf.l0 {ρ : Type} (N : Nat) (K0 : Nat → Int → (Nat → Int) → Option ρ) (av0 : Nat → Int) (av1 : Nat → Int) (out0 : Nat → (Nat → Int) → Option ρ) : Nat → Nat → Int → (Nat → Int) → Option ρ
  | 0, _, _, _ => none
  | m + 1, outv5, i6, gv7 => (spec_CentreOf.b0 N K0 (fun k8 gv9 => (spec_CentreOf.l1 N K0 av0 av1 i6 (fun ov11 => (spec_CentreOf.a1_0 N K0 (spec_CentreOf.l0 N K0 av0 av1 out0 m) out0 av0 outv5 i6 gv7 ov11)) N k8 gv9)) ((spec_CentreOf.l0 N K0 av0 av1 out0 m)) out0 av0 outv5 i6 gv7)
def spec_CentreOf.s {ρ : Type} (N : Nat) (K0 : Nat → Int → (Nat → Int) → Option ρ) (lp0 : Nat → Int → (Nat → Int) → Option ρ) (av0 : Nat → Int) (av1 : Nat → Int) : Option ρ :=
  (spec_l01Is N (fun rv2 => (if (!rv2) = true then (K0 0 1 (fun _ => 0)) else (spec_l01Whole N (fun rv3 rv4 => (lp0 rv3 0 rv4)) ((av0 1))))) av0 av1)
def spec_CentreOf {ρ : Type} (N : Nat) (K0 : Nat → Int → (Nat → Int) → Option ρ) (av0 : Nat → Int) (av1 : Nat → Int) : Option ρ :=
  (spec_CentreOf.s N K0 (fun outv5 i6 gv7 => (spec_CentreOf.l0 N K0 av0 av1 (fun ov16 ov17 => (spec_CentreOf.a0_0 N K0 ov16 ov17)) N outv5 i6 gv7)) av0 av1)
def impl_IsPrime.b0 {ρ : Type} (N : Nat) (K0 : Bool → Option ρ) (rec : Int → Option ρ) (out0 : Option ρ) (p0 : Int) (k1 : Int) : Option ρ :=
  (if (decide ((IntKind.i64.wrap (k1 * k1)) ≤ p0)) = true then (if k1 = 0 then none else (if ((Int.tmod p0 k1) == 0) = true then (K0 false) else (rec ((IntKind.i64.wrap (k1 + 1)))))) else out0)
def impl_IsPrime.a0_0 {ρ : Type} (N : Nat) (K0 : Bool → Option ρ) : Option ρ :=
  (K0 true)
def impl_IsPrime.l0 {ρ : Type} (N : Nat) (K0 : Bool → Option ρ) (p0 : Int) (out0 : Option ρ) : Nat → Int → Option ρ
  | 0, _ => none
  | m + 1, k1 => (impl_IsPrime.b0 N K0 ((impl_IsPrime.l0 N K0 p0 out0 m)) out0 p0 k1)
def impl_IsPrime.s {ρ : Type} (N : Nat) (K0 : Bool → Option ρ) (lp0 : Int → Option ρ) (p0 : Int) : Option ρ :=
  (if (decide (p0 < 2)) = true then (K0 false) else (if (decide (p0 > 31)) = true then (K0 false) else (lp0 2)))
def impl_IsPrime {ρ : Type} (N : Nat) (K0 : Bool → Option ρ) (p0 : Int) : Option ρ :=
  (impl_IsPrime.s N K0 (fun k1 => (impl_IsPrime.l0 N K0 p0 (impl_IsPrime.a0_0 N K0) N k1)) p0)
def impl_in {ρ : Type} (N : Nat) (K0 : Bool → Option ρ) (x0 : Int) (least1 : Int) (most2 : Int) : Option ρ :=
  (if (decide (least1 ≤ x0)) = true then (K0 ((decide (x0 ≤ most2)))) else (K0 false))
def impl_IsVector.b0 {ρ : Type} (N : Nat) (K0 : Bool → Option ρ) (rec : Int → Option ρ) (out0 : Option ρ) (p0 : Int) (nv1 : Int) (v2 : Nat → Int) (x5 : Int) : Option ρ :=
  (if (decide (x5 < 8)) = true then (if (0 : Int) ≤ x5 ∧ x5 < 8 then (if (decide ((IntKind.i64.wrap (v2 x5.toNat)) ≥ p0)) = true then (K0 false) else (if (decide (x5 ≥ nv1)) = true then (if ((v2 x5.toNat) != 0) = true then (K0 false) else (rec ((IntKind.i64.wrap (x5 + 1))))) else (rec ((IntKind.i64.wrap (x5 + 1)))))) else none) else out0)
def impl_IsVector.a0_0 {ρ : Type} (N : Nat) (K0 : Bool → Option ρ) : Option ρ :=
  (K0 true)
def impl_IsVector.l0 {ρ : Type} (N : Nat) (K0 : Bool → Option ρ) (p0 : Int) (nv1 : Int) (v2 : Nat → Int) (out0 : Option ρ) : Nat → Int → Option ρ
  | 0, _ => none
  | m + 1, x5 => (impl_IsVector.b0 N K0 ((impl_IsVector.l0 N K0 p0 nv1 v2 out0 m)) out0 p0 nv1 v2 x5)
def impl_IsVector.s {ρ : Type} (N : Nat) (K0 : Bool → Option ρ) (lp0 : Int → Option ρ) (p0 : Int) (nv1 : Int) : Option ρ :=
  (impl_IsPrime N (fun rv3 => (if (!rv3) = true then (K0 false) else (impl_in N (fun rv4 => (if (!rv4) = true then (K0 false) else (lp0 0))) nv1 1 8))) p0)
def impl_IsVector {ρ : Type} (N : Nat) (K0 : Bool → Option ρ) (p0 : Int) (nv1 : Int) (v2 : Nat → Int) : Option ρ :=
  (impl_IsVector.s N K0 (fun x5 => (impl_IsVector.l0 N K0 p0 nv1 v2 (impl_IsVector.a0_0 N K0) N x5)) p0 nv1)
def impl_isLinear.b0 {ρ : Type} (N : Nat) (K0 : Bool → Option ρ) (rec : Int → Option ρ) (out0 : Option ρ) (p0 : Int) (nv1 : Int) (size2 : Int) (gv3 : Nat → Int) (x4 : Int) : Option ρ :=
  (if (decide (x4 < 8)) = true then (if (0 : Int) ≤ x4 ∧ x4 < 8 then (impl_IsVector N (fun rv5 => (if (!rv5) = true then (K0 false) else (if (decide (x4 ≥ nv1)) = true then (if (!eqN 8 (fun z => (gv3 ((x4.toNat * 8) + z))) (fun _ => 0)) = true then (K0 false) else (rec ((IntKind.i64.wrap (x4 + 1))))) else (rec ((IntKind.i64.wrap (x4 + 1))))))) p0 size2 (fun z => (gv3 ((x4.toNat * 8) + z)))) else none) else out0)
def impl_isLinear.a0_0 {ρ : Type} (N : Nat) (K0 : Bool → Option ρ) : Option ρ :=
  (K0 true)
def impl_isLinear.l0 {ρ : Type} (N : Nat) (K0 : Bool → Option ρ) (p0 : Int) (nv1 : Int) (size2 : Int) (gv3 : Nat → Int) (out0 : Option ρ) : Nat → Int → Option ρ
  | 0, _ => none
  | m + 1, x4 => (impl_isLinear.b0 N K0 ((impl_isLinear.l0 N K0 p0 nv1 size2 gv3 out0 m)) out0 p0 nv1 size2 gv3 x4)
def impl_isLinear.s {ρ : Type} (N : Nat) (K0 : Bool → Option ρ) (lp0 : Int → Option ρ) : Option ρ :=
  (lp0 0)
def impl_isLinear {ρ : Type} (N : Nat) (K0 : Bool → Option ρ) (p0 : Int) (nv1 : Int) (size2 : Int) (gv3 : Nat → Int) : Option ρ :=
  (impl_isLinear.s N K0 (fun x4 => (impl_isLinear.l0 N K0 p0 nv1 size2 gv3 (impl_isLinear.a0_0 N K0) N x4)))
def impl_isTable.b0 {ρ : Type} (N : Nat) (K0 : Bool → Option ρ) (rec : Int → Option ρ) (out0 : Option ρ) (p0 : Int) (nv1 : Int) (gv2 : Nat → Int) (x3 : Int) : Option ρ :=
  (if (decide (x3 < 8)) = true then (if (0 : Int) ≤ x3 ∧ x3 < 8 then (impl_isLinear N (fun rv4 => (if (!rv4) = true then (K0 false) else (if (decide (x3 ≥ nv1)) = true then (if (0 : Int) ≤ x3 ∧ x3 < 8 then (if (!eqN 64 (fun z => (gv2 ((x3.toNat * 64) + z))) (fun _ => 0)) = true then (K0 false) else (rec ((IntKind.i64.wrap (x3 + 1))))) else none) else (rec ((IntKind.i64.wrap (x3 + 1))))))) p0 nv1 nv1 (fun z => (gv2 ((x3.toNat * 64) + z)))) else none) else out0)
def impl_isTable.a0_0 {ρ : Type} (N : Nat) (K0 : Bool → Option ρ) : Option ρ :=
  (K0 true)
def impl_isTable.l0 {ρ : Type} (N : Nat) (K0 : Bool → Option ρ) (p0 : Int) (nv1 : Int) (gv2 : Nat → Int) (out0 : Option ρ) : Nat → Int → Option ρ
  | 0, _ => none
  | m + 1, x3 => (impl_isTable.b0 N K0 ((impl_isTable.l0 N K0 p0 nv1 gv2 out0 m)) out0 p0 nv1 gv2 x3)
def impl_isTable.s {ρ : Type} (N : Nat) (K0 : Bool → Option ρ) (lp0 : Int → Option ρ) : Option ρ :=
  (lp0 0)
def impl_isTable {ρ : Type} (N : Nat) (K0 : Bool → Option ρ) (p0 : Int) (nv1 : Int) (gv2 : Nat → Int) : Option ρ :=
  (impl_isTable.s N K0 (fun x3 => (impl_isTable.l0 N K0 p0 nv1 gv2 (impl_isTable.a0_0 N K0) N x3)))
def impl_Algebra_isShaped {ρ : Type} (N : Nat) (K0 : Bool → Option ρ) (gv0 : Nat → Int) (gv1 : Nat → Int) : Option ρ :=
  (impl_IsVector N (fun rv2 => (if rv2 = true then (impl_isTable N (fun rv3 => (K0 (rv3))) ((gv0 0)) ((gv0 1)) (fun z => (gv1 (8 + z)))) else (K0 false))) ((gv0 0)) ((gv0 1)) (fun z => (gv1 (0 + z))))
def impl_basis {ρ : Type} (N : Nat) (K0 : (Nat → Int) → Option ρ) (i0 : Int) : Option ρ :=
  (if (0 : Int) ≤ i0 ∧ i0 < 8 then (K0 (upd (fun _ => 0) (i0.toNat * 1) 1)) else none)
def impl_Algebra_field {ρ : Type} (N : Nat) (K0 : (Nat → Int) → Option ρ) (gv0 : Nat → Int) (gv1 : Nat → Int) : Option ρ :=
  (K0 (upd (upd (fun _ => 0) 0 (gv0 0)) 1 (gv0 1)))
def impl_field_mod {ρ : Type} (N : Nat) (K0 : Int → Option ρ) (f0 : Nat → Int) (x1 : Int) : Option ρ :=
  (if (f0 0) = 0 then none else (if (decide ((Int.tmod x1 (f0 0)) < 0)) = true then (K0 ((IntKind.u8.wrap (IntKind.i64.wrap ((Int.tmod x1 (f0 0)) + (f0 0)))))) else (K0 ((IntKind.u8.wrap (Int.tmod x1 (f0 0)))))))
def impl_field_plus.b0 {ρ : Type} (N : Nat) (K0 : (Nat → Int) → Option ρ) (rec : Int → (Nat → Int) → Option ρ) (out0 : (Nat → Int) → Option ρ) (f0 : Nat → Int) (k1 : Int) (w2 : Nat → Int) (x4 : Int) (gv5 : Nat → Int) : Option ρ :=
  (if (decide (x4 < 8)) = true then (if (0 : Int) ≤ x4 ∧ x4 < 8 then (if (0 : Int) ≤ x4 ∧ x4 < 8 then (impl_field_mod N (fun rv6 => (if (0 : Int) ≤ x4 ∧ x4 < 8 then (rec ((IntKind.i64.wrap (x4 + 1))) (upd gv5 (x4.toNat * 1) rv6)) else none)) f0 ((IntKind.i64.wrap ((IntKind.i64.wrap (gv5 (x4.toNat * 1))) + (IntKind.i64.wrap (k1 * (IntKind.i64.wrap (w2 x4.toNat)))))))) else none) else none) else (out0 gv5))
def impl_field_plus.a0_0 {ρ : Type} (N : Nat) (K0 : (Nat → Int) → Option ρ) (ov7 : Nat → Int) : Option ρ :=
  (K0 ov7)
def impl_field_plus.l0 {ρ : Type} (N : Nat) (K0 : (Nat → Int) → Option ρ) (f0 : Nat → Int) (k1 : Int) (w2 : Nat → Int) (out0 : (Nat → Int) → Option ρ) : Nat → Int → (Nat → Int) → Option ρ
  | 0, _, _ => none
  | m + 1, x4, gv5 => (impl_field_plus.b0 N K0 ((impl_field_plus.l0 N K0 f0 k1 w2 out0 m)) out0 f0 k1 w2 x4 gv5)
def impl_field_plus.s {ρ : Type} (N : Nat) (K0 : (Nat → Int) → Option ρ) (lp0 : Int → (Nat → Int) → Option ρ) (k1 : Int) (gv3 : Nat → Int) : Option ρ :=
  (if (k1 == 0) = true then (K0 gv3) else (lp0 0 gv3))
def impl_field_plus {ρ : Type} (N : Nat) (K0 : (Nat → Int) → Option ρ) (f0 : Nat → Int) (k1 : Int) (w2 : Nat → Int) (gv3 : Nat → Int) : Option ρ :=
  (impl_field_plus.s N K0 (fun x4 gv5 => (impl_field_plus.l0 N K0 f0 k1 w2 (fun ov7 => (impl_field_plus.a0_0 N K0 ov7)) N x4 gv5)) k1 gv3)
def impl_Algebra_product.b1 {ρ : Type} (N : Nat) (K0 : (Nat → Int) → Option ρ) (rec : Int → (Nat → Int) → Option ρ) (out0 : (Nat → Int) → Option ρ) (v0 : Nat → Int) (w1 : Nat → Int) (gv3 : Nat → Int) (rv4 : Nat → Int) (x5 : Int) (x7 : Int) (gv8 : Nat → Int) : Option ρ :=
  (if (decide (x7 < (rv4 1))) = true then (if (0 : Int) ≤ x5 ∧ x5 < 8 then (if (0 : Int) ≤ x7 ∧ x7 < 8 then (if (0 : Int) ≤ x5 ∧ x5 < 8 then (if (0 : Int) ≤ x7 ∧ x7 < 8 then (impl_field_plus N (fun rv9 => (rec ((IntKind.i64.wrap (x7 + 1))) rv9)) rv4 ((IntKind.i64.wrap ((IntKind.i64.wrap (v0 (x5.toNat * 1))) * (IntKind.i64.wrap (w1 (x7.toNat * 1)))))) (fun z => (gv3 (((8 + (x5.toNat * 64)) + (x7.toNat * 8)) + z))) gv8) else none) else none) else none) else none) else (out0 gv8))
def impl_Algebra_product.a1_0 {ρ : Type} (N : Nat) (K0 : (Nat → Int) → Option ρ) (rec : Int → (Nat → Int) → Option ρ) (out0 : (Nat → Int) → Option ρ) (x5 : Int) (ov10 : Nat → Int) : Option ρ :=
  (rec ((IntKind.i64.wrap (x5 + 1))) ov10)
def impl_Algebra_product.b0 {ρ : Type} (N : Nat) (K0 : (Nat → Int) → Option ρ) (lp1 : Int → (Nat → Int) → Option ρ) (rec : Int → (Nat → Int) → Option ρ) (out0 : (Nat → Int) → Option ρ) (v0 : Nat → Int) (rv4 : Nat → Int) (x5 : Int) (gv6 : Nat → Int) : Option ρ :=
  (if (decide (x5 < (rv4 1))) = true then (if (0 : Int) ≤ x5 ∧ x5 < 8 then (if ((v0 (x5.toNat * 1)) == 0) = true then (rec ((IntKind.i64.wrap (x5 + 1))) gv6) else (lp1 0 gv6)) else none) else (out0 gv6))
def impl_Algebra_product.a0_0 {ρ : Type} (N : Nat) (K0 : (Nat → Int) → Option ρ) (ov11 : Nat → Int) : Option ρ :=
  (K0 ov11)
def impl_Algebra_product.l1 {ρ : Type} (N : Nat) (K0 : (Nat → Int) → Option ρ) (v0 : Nat → Int) (w1 : Nat → Int) (gv3 : Nat → Int) (rv4 : Nat → Int) (x5 : Int) (out0 : (Nat → Int) → Option ρ) : Nat → Int → (Nat → Int) → Option ρ
  | 0, _, _ => none
  | m + 1, x7, gv8 => (impl_Algebra_product.b1 N K0 ((impl_Algebra_product.l1 N K0 v0 w1 gv3 rv4 x5 out0 m)) out0 v0 w1 gv3 rv4 x5 x7 gv8)
def impl_Algebra_product.l0 {ρ : Type} (N : Nat) (K0 : (Nat → Int) → Option ρ) (v0 : Nat → Int) (w1 : Nat → Int) (gv3 : Nat → Int) (rv4 : Nat → Int) (out0 : (Nat → Int) → Option ρ) : Nat → Int → (Nat → Int) → Option ρ
  | 0, _, _ => none
  | m + 1, x5, gv6 => (impl_Algebra_product.b0 N K0 (fun x7 gv8 => (impl_Algebra_product.l1 N K0 v0 w1 gv3 rv4 x5 (fun ov10 => (impl_Algebra_product.a1_0 N K0 (impl_Algebra_product.l0 N K0 v0 w1 gv3 rv4 out0 m) out0 x5 ov10)) N x7 gv8)) ((impl_Algebra_product.l0 N K0 v0 w1 gv3 rv4 out0 m)) out0 v0 rv4 x5 gv6)
def impl_Algebra_product.s {ρ : Type} (N : Nat) (K0 : (Nat → Int) → Option ρ) (lp0 : (Nat → Int) → Int → (Nat → Int) → Option ρ) (gv2 : Nat → Int) (gv3 : Nat → Int) : Option ρ :=
  (impl_Algebra_field N (fun rv4 => (lp0 rv4 0 (fun _ => 0))) gv2 gv3)
def impl_Algebra_product {ρ : Type} (N : Nat) (K0 : (Nat → Int) → Option ρ) (v0 : Nat → Int) (w1 : Nat → Int) (gv2 : Nat → Int) (gv3 : Nat → Int) : Option ρ :=
  (impl_Algebra_product.s N K0 (fun rv4 x5 gv6 => (impl_Algebra_product.l0 N K0 v0 w1 gv3 rv4 (fun ov11 => (impl_Algebra_product.a0_0 N K0 ov11)) N x5 gv6)) gv2 gv3)
def impl_Algebra_fault.b2 {ρ : Type} (N : Nat) (K0 : Nat → Nat → (Nat → Int) → Option ρ) (K1 : Option ρ) (rec : Int → Option ρ) (out0 : Option ρ) (gv0 : Nat → Int) (gv1 : Nat → Int) (x2 : Int) (x3 : Int) (x4 : Int) : Option ρ :=
  (if (decide (x4 < (gv0 1))) = true then (if (0 : Int) ≤ x2 ∧ x2 < 8 then (if (0 : Int) ≤ x3 ∧ x3 < 8 then (impl_basis N (fun rv5 => (impl_Algebra_product N (fun rv6 => (impl_basis N (fun rv7 => (if (0 : Int) ≤ x3 ∧ x3 < 8 then (if (0 : Int) ≤ x4 ∧ x4 < 8 then (impl_Algebra_product N (fun rv8 => (if (!eqN 8 rv6 rv8) = true then (K0 3 3 (upd (upd (upd (fun _ => 0) 0 x2) 1 x3) 2 x4)) else (rec ((IntKind.i64.wrap (x4 + 1)))))) rv7 (fun z => (gv1 (((8 + (x3.toNat * 64)) + (x4.toNat * 8)) + z))) gv0 gv1) else none) else none)) x2)) (fun z => (gv1 (((8 + (x2.toNat * 64)) + (x3.toNat * 8)) + z))) rv5 gv0 gv1)) x4) else none) else none) else out0)
def impl_Algebra_fault.a2_0 {ρ : Type} (N : Nat) (K0 : Nat → Nat → (Nat → Int) → Option ρ) (K1 : Option ρ) (rec : Int → Option ρ) (out0 : Option ρ) (x3 : Int) : Option ρ :=
  (rec ((IntKind.i64.wrap (x3 + 1))))
def impl_Algebra_fault.b1 {ρ : Type} (N : Nat) (K0 : Nat → Nat → (Nat → Int) → Option ρ) (K1 : Option ρ) (lp2 : Int → Option ρ) (rec : Int → Option ρ) (out0 : Option ρ) (gv0 : Nat → Int) (x3 : Int) : Option ρ :=
  (if (decide (x3 < (gv0 1))) = true then (lp2 0) else out0)
def impl_Algebra_fault.a1_0 {ρ : Type} (N : Nat) (K0 : Nat → Nat → (Nat → Int) → Option ρ) (K1 : Option ρ) (rec : Int → Option ρ) (out0 : Option ρ) (x2 : Int) : Option ρ :=
  (rec ((IntKind.i64.wrap (x2 + 1))))
def impl_Algebra_fault.b0 {ρ : Type} (N : Nat) (K0 : Nat → Nat → (Nat → Int) → Option ρ) (K1 : Option ρ) (lp1 : Int → Option ρ) (rec : Int → Option ρ) (out0 : Option ρ) (gv0 : Nat → Int) (x2 : Int) : Option ρ :=
  (if (decide (x2 < (gv0 1))) = true then (lp1 0) else out0)
def impl_Algebra_fault.a0_0 {ρ : Type} (N : Nat) (K0 : Nat → Nat → (Nat → Int) → Option ρ) (K1 : Option ρ) : Option ρ :=
  K1
def impl_Algebra_fault.l2 {ρ : Type} (N : Nat) (K0 : Nat → Nat → (Nat → Int) → Option ρ) (K1 : Option ρ) (gv0 : Nat → Int) (gv1 : Nat → Int) (x2 : Int) (x3 : Int) (out0 : Option ρ) : Nat → Int → Option ρ
  | 0, _ => none
  | m + 1, x4 => (impl_Algebra_fault.b2 N K0 K1 ((impl_Algebra_fault.l2 N K0 K1 gv0 gv1 x2 x3 out0 m)) out0 gv0 gv1 x2 x3 x4)
def impl_Algebra_fault.l1 {ρ : Type} (N : Nat) (K0 : Nat → Nat → (Nat → Int) → Option ρ) (K1 : Option ρ) (gv0 : Nat → Int) (gv1 : Nat → Int) (x2 : Int) (out0 : Option ρ) : Nat → Int → Option ρ
  | 0, _ => none
  | m + 1, x3 => (impl_Algebra_fault.b1 N K0 K1 (fun x4 => (impl_Algebra_fault.l2 N K0 K1 gv0 gv1 x2 x3 (impl_Algebra_fault.a2_0 N K0 K1 (impl_Algebra_fault.l1 N K0 K1 gv0 gv1 x2 out0 m) out0 x3) N x4)) ((impl_Algebra_fault.l1 N K0 K1 gv0 gv1 x2 out0 m)) out0 gv0 x3)
def impl_Algebra_fault.l0 {ρ : Type} (N : Nat) (K0 : Nat → Nat → (Nat → Int) → Option ρ) (K1 : Option ρ) (gv0 : Nat → Int) (gv1 : Nat → Int) (out0 : Option ρ) : Nat → Int → Option ρ
  | 0, _ => none
  | m + 1, x2 => (impl_Algebra_fault.b0 N K0 K1 (fun x3 => (impl_Algebra_fault.l1 N K0 K1 gv0 gv1 x2 (impl_Algebra_fault.a1_0 N K0 K1 (impl_Algebra_fault.l0 N K0 K1 gv0 gv1 out0 m) out0 x2) N x3)) ((impl_Algebra_fault.l0 N K0 K1 gv0 gv1 out0 m)) out0 gv0 x2)
def impl_Algebra_fault.s {ρ : Type} (N : Nat) (K0 : Nat → Nat → (Nat → Int) → Option ρ) (K1 : Option ρ) (lp0 : Int → Option ρ) : Option ρ :=
  (lp0 0)
def impl_Algebra_fault {ρ : Type} (N : Nat) (K0 : Nat → Nat → (Nat → Int) → Option ρ) (K1 : Option ρ) (gv0 : Nat → Int) (gv1 : Nat → Int) : Option ρ :=
  (impl_Algebra_fault.s N K0 K1 (fun x2 => (impl_Algebra_fault.l0 N K0 K1 gv0 gv1 (impl_Algebra_fault.a0_0 N K0 K1) N x2)))
def impl_IsAlgebra.b0 {ρ : Type} (N : Nat) (K0 : Bool → Option ρ) (rec : Int → Option ρ) (out0 : Option ρ) (av0 : Nat → Int) (av1 : Nat → Int) (x3 : Int) : Option ρ :=
  (if (decide (x3 < (av0 1))) = true then (impl_basis N (fun rv4 => (impl_Algebra_product N (fun rv5 => (if (!eqN 8 rv5 rv4) = true then (K0 false) else (impl_Algebra_product N (fun rv6 => (if (!eqN 8 rv6 rv4) = true then (K0 false) else (rec ((IntKind.i64.wrap (x3 + 1)))))) rv4 (fun z => (av1 (0 + z))) av0 av1))) (fun z => (av1 (0 + z))) rv4 av0 av1)) x3) else out0)
def impl_IsAlgebra.a0_0 {ρ : Type} (N : Nat) (K0 : Bool → Option ρ) (av0 : Nat → Int) (av1 : Nat → Int) : Option ρ :=
  (impl_Algebra_fault N (fun rv7 rv8 rv9 => (K0 false)) (K0 true) av0 av1)
def impl_IsAlgebra.l0 {ρ : Type} (N : Nat) (K0 : Bool → Option ρ) (av0 : Nat → Int) (av1 : Nat → Int) (out0 : Option ρ) : Nat → Int → Option ρ
  | 0, _ => none
  | m + 1, x3 => (impl_IsAlgebra.b0 N K0 ((impl_IsAlgebra.l0 N K0 av0 av1 out0 m)) out0 av0 av1 x3)
def impl_IsAlgebra.s {ρ : Type} (N : Nat) (K0 : Bool → Option ρ) (lp0 : Int → Option ρ) (av0 : Nat → Int) (av1 : Nat → Int) : Option ρ :=
  (impl_Algebra_isShaped N (fun rv2 => (if (!rv2) = true then (K0 false) else (lp0 0))) av0 av1)
def impl_IsAlgebra {ρ : Type} (N : Nat) (K0 : Bool → Option ρ) (av0 : Nat → Int) (av1 : Nat → Int) : Option ρ :=
  (impl_IsAlgebra.s N K0 (fun x3 => (impl_IsAlgebra.l0 N K0 av0 av1 (impl_IsAlgebra.a0_0 N K0 av0 av1) N x3)) av0 av1)
def slices_IndexFunc_nf.b0 {ρ : Type} (N : Nat) (K0 : Int → Option ρ) (rec : Option ρ) (out0 : Option ρ) : Option ρ :=
  out0
def slices_IndexFunc_nf.a0_0 {ρ : Type} (N : Nat) (K0 : Int → Option ρ) : Option ρ :=
  (K0 (-1))
def slices_IndexFunc_nf.l0 {ρ : Type} (N : Nat) (K0 : Int → Option ρ) (out0 : Option ρ) : Nat → Option ρ
  | 0 => none
  | m + 1 => (slices_IndexFunc_nf.b0 N K0 ((slices_IndexFunc_nf.l0 N K0 out0 m)) out0)
def slices_IndexFunc_nf.s {ρ : Type} (N : Nat) (K0 : Int → Option ρ) (lp0 : Option ρ) : Option ρ :=
  lp0
def slices_IndexFunc_nf {ρ : Type} (N : Nat) (K0 : Int → Option ρ) (gv0 : Nat → Int) (gv1 : Nat → Int) : Option ρ :=
  (slices_IndexFunc_nf.s N K0 ((slices_IndexFunc_nf.l0 N K0 (slices_IndexFunc_nf.a0_0 N K0) N)))
def slices_ContainsFunc_nf {ρ : Type} (N : Nat) (K0 : Bool → Option ρ) (gv0 : Nat → Int) (gv1 : Nat → Int) : Option ρ :=
  (slices_IndexFunc_nf N (fun rv2 => (K0 ((decide (rv2 ≥ 0))))) gv0 gv1)
def impl_Algebra_has_n {ρ : Type} (N : Nat) (K0 : Bool → Option ρ) (gv0 : Nat → Int) (gv1 : Nat → Int) : Option ρ :=
  (slices_ContainsFunc_nf N (fun rv2 => (K0 ((!rv2)))) gv0 gv1)
def impl_unless {ρ : Type} (N : Nat) (K0 : Int → Option ρ) (so0 : Bool) (code1 : Int) : Option ρ :=
  (if so0 = true then (K0 0) else (K0 code1))
def impl_Algebra_code_n {ρ : Type} (N : Nat) (K0 : Int → Option ρ) (gv0 : Nat → Int) (gv1 : Nat → Int) : Option ρ :=
  (impl_IsAlgebra N (fun rv2 => (if rv2 = true then (impl_Algebra_has_n N (fun rv3 => (impl_unless N (fun rv4 => (K0 rv4)) (rv3) 1)) gv0 gv1) else (impl_unless N (fun rv5 => (K0 rv5)) false 1))) gv0 gv1)
def impl_newSystem {ρ : Type} (N : Nat) (K0 : (Nat → Int) → (Nat → Int) → Option ρ) (p0 : Int) (many1 : Int) : Option ρ :=
  (K0 (upd (upd (fun _ => 0) 0 p0) 1 0) (fun _ => many1))
def impl_CentreOf_c1 {ρ : Type} (N : Nat) (K0 : Int → Option ρ) (form0 : Int) (c1 : Int) (gv2 : Nat → Int) (gv3 : Nat → Int) (gv4 : Nat → Int) : Option ρ :=
  (if (gv2 0) = 0 then none else (if (gv2 0) = 0 then none else (if (0 : Int) ≤ c1 ∧ c1 < 8 then (if (0 : Int) ≤ (IntKind.i64.wrap (Int.tdiv form0 (gv2 0))) ∧ (IntKind.i64.wrap (Int.tdiv form0 (gv2 0))) < 8 then (if (0 : Int) ≤ (Int.tmod form0 (gv2 0)) ∧ (Int.tmod form0 (gv2 0)) < 8 then (if (0 : Int) ≤ (IntKind.i64.wrap (Int.tdiv form0 (gv2 0))) ∧ (IntKind.i64.wrap (Int.tdiv form0 (gv2 0))) < 8 then (if (0 : Int) ≤ c1 ∧ c1 < 8 then (if (0 : Int) ≤ (Int.tmod form0 (gv2 0)) ∧ (Int.tmod form0 (gv2 0)) < 8 then (K0 ((IntKind.i64.wrap ((IntKind.i64.wrap (gv4 (((8 + (c1.toNat * 64)) + (((IntKind.i64.wrap (Int.tdiv form0 (gv2 0)))).toNat * 8)) + (((Int.tmod form0 (gv2 0))).toNat * 1)))) - (IntKind.i64.wrap (gv4 (((8 + (((IntKind.i64.wrap (Int.tdiv form0 (gv2 0)))).toNat * 64)) + (c1.toNat * 8)) + (((Int.tmod form0 (gv2 0))).toNat * 1)))))))) else none) else none) else none) else none) else none) else none)))
def impl_system_add_s_v2.b0 {ρ : Type} (N : Nat) (K0 : Nat → Nat → (Nat → Nat) → (Nat → Nat) → (Nat → Int) → Option ρ) (rec : Int → (Nat → Int) → Option ρ) (out0 : (Nat → Int) → Option ρ) (coefficients0 : Nat) (gv3 : Nat → Int) (gv4 : Nat → Int) (gv7 : Nat → Int) (x12 : Int) (gv13 : Nat → Int) : Option ρ :=
  (if (decide (x12 < (coefficients0 : Int))) = true then (if (0 : Int) ≤ x12 ∧ x12 < (coefficients0 : Int) then (impl_field_mod N (fun rv14 => (if (0 : Int) ≤ x12 ∧ x12 < ((((IntKind.i64.wrap ((gv4 0) + 1))).toNat : Nat) : Int) then (rec ((IntKind.i64.wrap (x12 + 1))) (upd gv13 (0 + (x12.toNat * 1)) rv14)) else none)) gv3 ((gv7 (0 + (x12.toNat * 1))))) else none) else (out0 gv13))
def impl_system_add_s_v2.a0_0 {ρ : Type} (N : Nat) (K0 : Nat → Nat → (Nat → Nat) → (Nat → Nat) → (Nat → Int) → Option ρ) (value2 : Int) (gv3 : Nat → Int) (gv4 : Nat → Int) (gv5 : Nat) (gv8 : Nat) (gv9 : Nat → Nat) (gv10 : Nat → Nat) (gv11 : Nat → Int) (ov15 : Nat → Int) : Option ρ :=
  (impl_field_mod N (fun rv16 => (if (0 : Int) ≤ (gv4 0) ∧ (gv4 0) < ((((IntKind.i64.wrap ((gv4 0) + 1))).toNat : Nat) : Int) then (if (gv5 + 1) * 24 ≤ 140737488355328 then (K0 (gv5 + 1) (gv8 + ((IntKind.i64.wrap ((gv4 0) + 1))).toNat) (upd gv9 gv5 gv8) (upd gv10 gv5 (((IntKind.i64.wrap ((gv4 0) + 1))).toNat)) (joinN gv8 gv11 (upd ov15 (0 + (((gv4 0)).toNat * 1)) rv16))) else none) else none)) gv3 value2)
def impl_system_add_s_v2.l0 {ρ : Type} (N : Nat) (K0 : Nat → Nat → (Nat → Nat) → (Nat → Nat) → (Nat → Int) → Option ρ) (coefficients0 : Nat) (gv3 : Nat → Int) (gv4 : Nat → Int) (gv7 : Nat → Int) (out0 : (Nat → Int) → Option ρ) : Nat → Int → (Nat → Int) → Option ρ
  | 0, _, _ => none
  | m + 1, x12, gv13 => (impl_system_add_s_v2.b0 N K0 ((impl_system_add_s_v2.l0 N K0 coefficients0 gv3 gv4 gv7 out0 m)) out0 coefficients0 gv3 gv4 gv7 x12 gv13)
def impl_system_add_s_v2.s {ρ : Type} (N : Nat) (K0 : Nat → Nat → (Nat → Nat) → (Nat → Nat) → (Nat → Int) → Option ρ) (lp0 : Int → (Nat → Int) → Option ρ) (gv4 : Nat → Int) : Option ρ :=
  (if (0 : Int) ≤ (IntKind.i64.wrap ((gv4 0) + 1)) ∧ (IntKind.i64.wrap ((gv4 0) + 1)) ≤ (IntKind.i64.wrap ((gv4 0) + 1)) ∧ (1 : Int) * (IntKind.i64.wrap ((gv4 0) + 1)) ≤ 1099511627776 ∧ (IntKind.i64.wrap ((gv4 0) + 1)) ≤ 1099511627776 then (lp0 0 (fun _ => 0)) else none)
def impl_system_add_s_v2 {ρ : Type} (N : Nat) (K0 : Nat → Nat → (Nat → Nat) → (Nat → Nat) → (Nat → Int) → Option ρ) (coefficients0 : Nat) (coefficients1 : Nat) (value2 : Int) (gv3 : Nat → Int) (gv4 : Nat → Int) (gv5 : Nat) (gv6 : Nat) (gv7 : Nat → Int) (gv8 : Nat) (gv9 : Nat → Nat) (gv10 : Nat → Nat) (gv11 : Nat → Int) : Option ρ :=
  (impl_system_add_s_v2.s N K0 (fun x12 gv13 => (impl_system_add_s_v2.l0 N K0 coefficients0 gv3 gv4 gv7 (fun ov15 => (impl_system_add_s_v2.a0_0 N K0 value2 gv3 gv4 gv5 gv8 gv9 gv10 gv11 ov15)) N x12 gv13)) gv4)
def impl_system_solve_c1_su {ρ : Type} (N : Nat) (K0 : Bool → Option ρ) (rv0 : Nat) (gv1 : Nat) (gv2 : Nat → Int) (gv3 : Nat → Int) : Option ρ :=
  (if (0 : Int) ≤ (gv3 0) ∧ (gv3 0) < (rv0 : Int) then (K0 (((gv2 (0 + (((gv3 0)).toNat * 1))) != 0))) else none)
def slices_IndexFunc_suhf.b0 {ρ : Type} (N : Nat) (K0 : Int → Option ρ) (rec : Int → Option ρ) (out0 : Option ρ) (s0 : Nat) (gv3 : Nat → Nat) (gv4 : Nat → Nat) (gv5 : Nat → Int) (gv6 : Nat → Int) (x7 : Int) : Option ρ :=
  (if (decide (x7 < (s0 : Int))) = true then (if (0 : Int) ≤ x7 ∧ x7 < (s0 : Int) then (impl_system_solve_c1_su N (fun rv8 => (if rv8 = true then (K0 x7) else (rec ((IntKind.i64.wrap (x7 + 1)))))) (gv4 (0 + (x7.toNat * 1))) ((gv4 (0 + (x7.toNat * 1))) * 1) (fun z => (gv6 ((gv3 (0 + (x7.toNat * 1))) + z))) gv5) else none) else out0)
def slices_IndexFunc_suhf.a0_0 {ρ : Type} (N : Nat) (K0 : Int → Option ρ) : Option ρ :=
  (K0 (-1))
def slices_IndexFunc_suhf.l0 {ρ : Type} (N : Nat) (K0 : Int → Option ρ) (s0 : Nat) (gv3 : Nat → Nat) (gv4 : Nat → Nat) (gv5 : Nat → Int) (gv6 : Nat → Int) (out0 : Option ρ) : Nat → Int → Option ρ
  | 0, _ => none
  | m + 1, x7 => (slices_IndexFunc_suhf.b0 N K0 ((slices_IndexFunc_suhf.l0 N K0 s0 gv3 gv4 gv5 gv6 out0 m)) out0 s0 gv3 gv4 gv5 gv6 x7)
def slices_IndexFunc_suhf.s {ρ : Type} (N : Nat) (K0 : Int → Option ρ) (lp0 : Int → Option ρ) : Option ρ :=
  (lp0 0)
def slices_IndexFunc_suhf {ρ : Type} (N : Nat) (K0 : Int → Option ρ) (s0 : Nat) (gv1 : Nat) (gv2 : Nat) (gv3 : Nat → Nat) (gv4 : Nat → Nat) (gv5 : Nat → Int) (gv6 : Nat → Int) : Option ρ :=
  (slices_IndexFunc_suhf.s N K0 (fun x7 => (slices_IndexFunc_suhf.l0 N K0 s0 gv3 gv4 gv5 gv6 (slices_IndexFunc_suhf.a0_0 N K0) N x7)))
def impl_field_inverse.b0 {ρ : Type} (N : Nat) (K0 : Int → Option ρ) (rec : Int → Option ρ) (out0 : Option ρ) (f0 : Nat → Int) (x1 : Int) (k2 : Int) : Option ρ :=
  (if (decide (k2 < (f0 0))) = true then (if (f0 0) = 0 then none else (if ((Int.tmod (IntKind.i64.wrap (k2 * (IntKind.i64.wrap x1))) (f0 0)) == 1) = true then (K0 k2) else (rec ((IntKind.i64.wrap (k2 + 1)))))) else out0)
def impl_field_inverse.a0_0 {ρ : Type} (N : Nat) (K0 : Int → Option ρ) (f0 : Nat → Int) : Option ρ :=
  (if (f0 0) = 0 then none else (K0 ((Int.tmod 1 (f0 0)))))
def impl_field_inverse.l0 {ρ : Type} (N : Nat) (K0 : Int → Option ρ) (f0 : Nat → Int) (x1 : Int) (out0 : Option ρ) : Nat → Int → Option ρ
  | 0, _ => none
  | m + 1, k2 => (impl_field_inverse.b0 N K0 ((impl_field_inverse.l0 N K0 f0 x1 out0 m)) out0 f0 x1 k2)
def impl_field_inverse.s {ρ : Type} (N : Nat) (K0 : Int → Option ρ) (lp0 : Int → Option ρ) : Option ρ :=
  (lp0 1)
def impl_field_inverse {ρ : Type} (N : Nat) (K0 : Int → Option ρ) (f0 : Nat → Int) (x1 : Int) : Option ρ :=
  (impl_field_inverse.s N K0 (fun k2 => (impl_field_inverse.l0 N K0 f0 x1 (impl_field_inverse.a0_0 N K0 f0) N k2)))
def impl_system_clear_v2.b2 {ρ : Type} (N : Nat) (K0 : (Nat → Int) → (Nat → Int) → Option ρ) (rec : Int → (Nat → Int) → Option ρ) (out0 : (Nat → Int) → Option ρ) (at0 : Int) (c1 : Int) (gv2 : Nat → Int) (gv8 : Nat → Nat) (gv9 : Nat → Nat) (x17 : Int) (gv18 : Nat → Int) (x19 : Int) (gv20 : Nat → Int) : Option ρ :=
  (if (decide (x19 < (((gv9 (0 + (at0.toNat * 1))) : Nat) : Int))) = true then (if (0 : Int) ≤ x19 ∧ x19 < (((gv9 (0 + (at0.toNat * 1))) : Nat) : Int) then (if (0 : Int) ≤ x19 ∧ x19 < (((gv9 (0 + (x17.toNat * 1))) : Nat) : Int) then (impl_field_mod N (fun rv21 => (if (0 : Int) ≤ x19 ∧ x19 < (((gv9 (0 + (x17.toNat * 1))) : Nat) : Int) then (rec ((IntKind.i64.wrap (x19 + 1))) (upd gv20 ((gv8 (0 + (x17.toNat * 1))) + (x19.toNat * 1)) rv21)) else none)) gv2 ((IntKind.i64.wrap ((IntKind.i64.wrap (gv20 ((gv8 (0 + (x17.toNat * 1))) + (x19.toNat * 1)))) - (IntKind.i64.wrap ((IntKind.i64.wrap (gv18 ((gv8 (0 + (x17.toNat * 1))) + (c1.toNat * 1)))) * (IntKind.i64.wrap (gv20 ((gv8 (0 + (at0.toNat * 1))) + (x19.toNat * 1)))))))))) else none) else none) else (out0 gv20))
def impl_system_clear_v2.a2_0 {ρ : Type} (N : Nat) (K0 : (Nat → Int) → (Nat → Int) → Option ρ) (rec : Int → (Nat → Int) → Option ρ) (out0 : (Nat → Int) → Option ρ) (x17 : Int) (ov22 : Nat → Int) : Option ρ :=
  (rec ((IntKind.i64.wrap (x17 + 1))) ov22)
def impl_system_clear_v2.b1 {ρ : Type} (N : Nat) (K0 : (Nat → Int) → (Nat → Int) → Option ρ) (lp2 : Int → (Nat → Int) → Option ρ) (rec : Int → (Nat → Int) → Option ρ) (out0 : (Nat → Int) → Option ρ) (at0 : Int) (c1 : Int) (gv4 : Nat) (gv8 : Nat → Nat) (gv9 : Nat → Nat) (x17 : Int) (gv18 : Nat → Int) : Option ρ :=
  (if (decide (x17 < (gv4 : Int))) = true then (if (0 : Int) ≤ x17 ∧ x17 < (gv4 : Int) then (if (x17 == at0) = true then (rec ((IntKind.i64.wrap (x17 + 1))) gv18) else (if (0 : Int) ≤ c1 ∧ c1 < (((gv9 (0 + (x17.toNat * 1))) : Nat) : Int) then (if ((gv18 ((gv8 (0 + (x17.toNat * 1))) + (c1.toNat * 1))) == 0) = true then (rec ((IntKind.i64.wrap (x17 + 1))) gv18) else (if (0 : Int) ≤ c1 ∧ c1 < (((gv9 (0 + (x17.toNat * 1))) : Nat) : Int) then (lp2 0 gv18) else none)) else none)) else none) else (out0 gv18))
def impl_system_clear_v2.a1_0 {ρ : Type} (N : Nat) (K0 : (Nat → Int) → (Nat → Int) → Option ρ) (gv10 : Nat → Int) (ov23 : Nat → Int) : Option ρ :=
  (K0 gv10 ov23)
def impl_system_clear_v2.b0 {ρ : Type} (N : Nat) (K0 : (Nat → Int) → (Nat → Int) → Option ρ) (rec : Int → (Nat → Int) → Option ρ) (out0 : (Nat → Int) → Option ρ) (at0 : Int) (gv2 : Nat → Int) (gv8 : Nat → Nat) (gv9 : Nat → Nat) (rv12 : Int) (x13 : Int) (gv14 : Nat → Int) : Option ρ :=
  (if (decide (x13 < (((gv9 (0 + (at0.toNat * 1))) : Nat) : Int))) = true then (if (0 : Int) ≤ x13 ∧ x13 < (((gv9 (0 + (at0.toNat * 1))) : Nat) : Int) then (impl_field_mod N (fun rv15 => (if (0 : Int) ≤ x13 ∧ x13 < (((gv9 (0 + (at0.toNat * 1))) : Nat) : Int) then (rec ((IntKind.i64.wrap (x13 + 1))) (upd gv14 ((gv8 (0 + (at0.toNat * 1))) + (x13.toNat * 1)) rv15)) else none)) gv2 ((IntKind.i64.wrap (rv12 * (IntKind.i64.wrap (gv14 ((gv8 (0 + (at0.toNat * 1))) + (x13.toNat * 1)))))))) else none) else (out0 gv14))
def impl_system_clear_v2.a0_0 {ρ : Type} (N : Nat) (K0 : (Nat → Int) → (Nat → Int) → Option ρ) (lp1 : Int → (Nat → Int) → Option ρ) (ov16 : Nat → Int) : Option ρ :=
  (lp1 0 ov16)
def impl_system_clear_v2.l2 {ρ : Type} (N : Nat) (K0 : (Nat → Int) → (Nat → Int) → Option ρ) (at0 : Int) (c1 : Int) (gv2 : Nat → Int) (gv8 : Nat → Nat) (gv9 : Nat → Nat) (x17 : Int) (gv18 : Nat → Int) (out0 : (Nat → Int) → Option ρ) : Nat → Int → (Nat → Int) → Option ρ
  | 0, _, _ => none
  | m + 1, x19, gv20 => (impl_system_clear_v2.b2 N K0 ((impl_system_clear_v2.l2 N K0 at0 c1 gv2 gv8 gv9 x17 gv18 out0 m)) out0 at0 c1 gv2 gv8 gv9 x17 gv18 x19 gv20)
def impl_system_clear_v2.l1 {ρ : Type} (N : Nat) (K0 : (Nat → Int) → (Nat → Int) → Option ρ) (at0 : Int) (c1 : Int) (gv2 : Nat → Int) (gv4 : Nat) (gv8 : Nat → Nat) (gv9 : Nat → Nat) (out0 : (Nat → Int) → Option ρ) : Nat → Int → (Nat → Int) → Option ρ
  | 0, _, _ => none
  | m + 1, x17, gv18 => (impl_system_clear_v2.b1 N K0 (fun x19 gv20 => (impl_system_clear_v2.l2 N K0 at0 c1 gv2 gv8 gv9 x17 gv18 (fun ov22 => (impl_system_clear_v2.a2_0 N K0 (impl_system_clear_v2.l1 N K0 at0 c1 gv2 gv4 gv8 gv9 out0 m) out0 x17 ov22)) N x19 gv20)) ((impl_system_clear_v2.l1 N K0 at0 c1 gv2 gv4 gv8 gv9 out0 m)) out0 at0 c1 gv4 gv8 gv9 x17 gv18)
def impl_system_clear_v2.l0 {ρ : Type} (N : Nat) (K0 : (Nat → Int) → (Nat → Int) → Option ρ) (at0 : Int) (gv2 : Nat → Int) (gv8 : Nat → Nat) (gv9 : Nat → Nat) (rv12 : Int) (out0 : (Nat → Int) → Option ρ) : Nat → Int → (Nat → Int) → Option ρ
  | 0, _, _ => none
  | m + 1, x13, gv14 => (impl_system_clear_v2.b0 N K0 ((impl_system_clear_v2.l0 N K0 at0 gv2 gv8 gv9 rv12 out0 m)) out0 at0 gv2 gv8 gv9 rv12 x13 gv14)
def impl_system_clear_v2.s {ρ : Type} (N : Nat) (K0 : (Nat → Int) → (Nat → Int) → Option ρ) (lp0 : Int → Int → (Nat → Int) → Option ρ) (at0 : Int) (c1 : Int) (gv2 : Nat → Int) (gv4 : Nat) (gv8 : Nat → Nat) (gv9 : Nat → Nat) (gv11 : Nat → Int) : Option ρ :=
  (if (0 : Int) ≤ at0 ∧ at0 < (gv4 : Int) then (if (0 : Int) ≤ c1 ∧ c1 < (((gv9 (0 + (at0.toNat * 1))) : Nat) : Int) then (impl_field_inverse N (fun rv12 => (lp0 rv12 0 gv11)) gv2 ((gv11 ((gv8 (0 + (at0.toNat * 1))) + (c1.toNat * 1))))) else none) else none)
def impl_system_clear_v2 {ρ : Type} (N : Nat) (K0 : (Nat → Int) → (Nat → Int) → Option ρ) (at0 : Int) (c1 : Int) (gv2 : Nat → Int) (gv3 : Nat → Int) (gv4 : Nat) (gv5 : Nat) (gv6 : Nat) (gv7 : Nat) (gv8 : Nat → Nat) (gv9 : Nat → Nat) (gv10 : Nat → Int) (gv11 : Nat → Int) : Option ρ :=
  (impl_system_clear_v2.s N K0 (fun rv12 x13 gv14 => (impl_system_clear_v2.l0 N K0 at0 gv2 gv8 gv9 rv12 (fun ov16 => (impl_system_clear_v2.a0_0 N K0 (fun x17 gv18 => (impl_system_clear_v2.l1 N K0 at0 c1 gv2 gv4 gv8 gv9 (fun ov23 => (impl_system_clear_v2.a1_0 N K0 gv10 ov23)) N x17 gv18)) ov16)) N x13 gv14)) at0 c1 gv2 gv4 gv8 gv9 gv11)
def impl_system_solve_c2_su {ρ : Type} (N : Nat) (K0 : Bool → Option ρ) (rv0 : Nat) (gv1 : Nat) (gv2 : Nat → Int) (gv3 : Nat → Int) (gv4 : Nat → Int) (gv5 : Nat) (gv6 : Nat) (gv7 : Nat) (gv8 : Nat) (gv9 : Nat → Nat) (gv10 : Nat → Nat) (gv11 : Nat) (gv12 : Nat → Int) (gv13 : Nat → Int) : Option ρ :=
  (if (0 : Int) ≤ (gv4 0) ∧ (gv4 0) < (rv0 : Int) then (K0 (((gv2 (0 + (((gv4 0)).toNat * 1))) != 0))) else none)
def slices_IndexFunc_suhf_v2.b0 {ρ : Type} (N : Nat) (K0 : Int → Option ρ) (rec : Int → Option ρ) (out0 : Option ρ) (s0 : Nat) (gv3 : Nat → Nat) (gv4 : Nat → Nat) (gv5 : Nat → Int) (gv6 : Nat → Int) (gv7 : Nat → Int) (gv8 : Nat) (gv9 : Nat) (gv11 : Nat) (gv12 : Nat → Nat) (gv13 : Nat → Nat) (gv15 : Nat → Int) (x16 : Int) : Option ρ :=
  (if (decide (x16 < (s0 : Int))) = true then (if (0 : Int) ≤ x16 ∧ x16 < (s0 : Int) then (impl_system_solve_c2_su N (fun rv17 => (if rv17 = true then (K0 x16) else (rec ((IntKind.i64.wrap (x16 + 1)))))) (gv4 (0 + (x16.toNat * 1))) ((gv4 (0 + (x16.toNat * 1))) * 1) (fun z => (gv5 ((gv3 (0 + (x16.toNat * 1))) + z))) gv6 gv7 gv8 gv9 (gv8 * 1) gv11 (offN 0 gv12) (offN 0 gv13) (gv9 * 1) (fun z => (gv15 (0 + z))) gv5) else none) else out0)
def slices_IndexFunc_suhf_v2.a0_0 {ρ : Type} (N : Nat) (K0 : Int → Option ρ) : Option ρ :=
  (K0 (-1))
def slices_IndexFunc_suhf_v2.l0 {ρ : Type} (N : Nat) (K0 : Int → Option ρ) (s0 : Nat) (gv3 : Nat → Nat) (gv4 : Nat → Nat) (gv5 : Nat → Int) (gv6 : Nat → Int) (gv7 : Nat → Int) (gv8 : Nat) (gv9 : Nat) (gv11 : Nat) (gv12 : Nat → Nat) (gv13 : Nat → Nat) (gv15 : Nat → Int) (out0 : Option ρ) : Nat → Int → Option ρ
  | 0, _ => none
  | m + 1, x16 => (slices_IndexFunc_suhf_v2.b0 N K0 ((slices_IndexFunc_suhf_v2.l0 N K0 s0 gv3 gv4 gv5 gv6 gv7 gv8 gv9 gv11 gv12 gv13 gv15 out0 m)) out0 s0 gv3 gv4 gv5 gv6 gv7 gv8 gv9 gv11 gv12 gv13 gv15 x16)
def slices_IndexFunc_suhf_v2.s {ρ : Type} (N : Nat) (K0 : Int → Option ρ) (lp0 : Int → Option ρ) : Option ρ :=
  (lp0 0)
def slices_IndexFunc_suhf_v2 {ρ : Type} (N : Nat) (K0 : Int → Option ρ) (s0 : Nat) (gv1 : Nat) (gv2 : Nat) (gv3 : Nat → Nat) (gv4 : Nat → Nat) (gv5 : Nat → Int) (gv6 : Nat → Int) (gv7 : Nat → Int) (gv8 : Nat) (gv9 : Nat) (gv10 : Nat) (gv11 : Nat) (gv12 : Nat → Nat) (gv13 : Nat → Nat) (gv14 : Nat) (gv15 : Nat → Int) : Option ρ :=
  (slices_IndexFunc_suhf_v2.s N K0 (fun x16 => (slices_IndexFunc_suhf_v2.l0 N K0 s0 gv3 gv4 gv5 gv6 gv7 gv8 gv9 gv11 gv12 gv13 gv15 (slices_IndexFunc_suhf_v2.a0_0 N K0) N x16)))
def slices_ContainsFunc_suhf {ρ : Type} (N : Nat) (K0 : Bool → Option ρ) (s0 : Nat) (gv1 : Nat) (gv2 : Nat) (gv3 : Nat → Nat) (gv4 : Nat → Nat) (gv5 : Nat → Int) (gv6 : Nat → Int) (gv7 : Nat → Int) (gv8 : Nat) (gv9 : Nat) (gv10 : Nat) (gv11 : Nat) (gv12 : Nat → Nat) (gv13 : Nat → Nat) (gv14 : Nat) (gv15 : Nat → Int) : Option ρ :=
  (slices_IndexFunc_suhf_v2 N (fun rv16 => (K0 ((decide (rv16 ≥ 0))))) s0 (s0 * 1) gv2 (offN 0 gv3) (offN 0 gv4) gv5 gv6 gv7 gv8 gv9 (gv8 * 1) gv11 (offN 0 gv12) (offN 0 gv13) (gv9 * 1) (fun z => (gv15 (0 + z))))
def impl_system_solve.b0 {ρ : Type} (N : Nat) (K0 : Bool → Nat → Nat → Nat → (Nat → Nat) → (Nat → Nat) → (Nat → Int) → (Nat → Int) → Option ρ) (rec : Int → Nat → (Nat → Nat) → (Nat → Nat) → (Nat → Int) → (Nat → Int) → (Nat → Int) → Option ρ) (out0 : Int → Nat → (Nat → Nat) → (Nat → Nat) → (Nat → Int) → (Nat → Int) → Option ρ) (gv0 : Nat → Int) (gv1 : Nat → Int) (gv2 : Nat) (gv3 : Nat) (done7 : Int) (gv8 : Nat) (gv9 : Nat → Nat) (gv10 : Nat → Nat) (gv11 : Nat → Int) (gv12 : Nat → Int) (gv13 : Nat → Int) : Option ρ :=
  (if (decide ((gv12 0) < (gv1 0))) = true then (if (decide (done7 < (gv2 : Int))) = true then (if (0 : Int) ≤ done7 ∧ done7 ≤ (gv2 : Int) ∧ (gv2 : Int) ≤ (gv2 : Int) then (slices_IndexFunc_suhf N (fun rv14 => (if (decide (rv14 < 0)) = true then (rec done7 gv8 gv9 gv10 gv11 (fun _ => (IntKind.i64.wrap ((gv12 0) + 1))) gv13) else (if (0 : Int) ≤ (IntKind.i64.wrap (done7 + rv14)) ∧ (IntKind.i64.wrap (done7 + rv14)) < (gv2 : Int) then (if (0 : Int) ≤ done7 ∧ done7 < (gv2 : Int) then (if (0 : Int) ≤ done7 ∧ done7 < (gv2 : Int) then (if (0 : Int) ≤ (IntKind.i64.wrap (done7 + rv14)) ∧ (IntKind.i64.wrap (done7 + rv14)) < (gv2 : Int) then (impl_system_clear_v2 N (fun rv15 rv16 => (if (gv8 + 1) * 8 ≤ 140737488355328 then (rec ((IntKind.i64.wrap (done7 + 1))) (gv8 + 1) (upd (upd gv9 (0 + (done7.toNat * 1)) (gv9 (0 + (((IntKind.i64.wrap (done7 + rv14))).toNat * 1)))) (0 + (((IntKind.i64.wrap (done7 + rv14))).toNat * 1)) (gv9 (0 + (done7.toNat * 1)))) (upd (upd gv10 (0 + (done7.toNat * 1)) (gv10 (0 + (((IntKind.i64.wrap (done7 + rv14))).toNat * 1)))) (0 + (((IntKind.i64.wrap (done7 + rv14))).toNat * 1)) (gv10 (0 + (done7.toNat * 1)))) rv16 (fun _ => (IntKind.i64.wrap ((gv12 0) + 1))) (joinN (gv8 * 1) rv15 (upd (fun _ => 0) 0 (gv12 0)))) else none)) done7 ((gv12 0)) gv0 gv1 gv2 gv8 (gv2 * 1) gv3 (offN 0 (upd (upd gv9 (0 + (done7.toNat * 1)) (gv9 (0 + (((IntKind.i64.wrap (done7 + rv14))).toNat * 1)))) (0 + (((IntKind.i64.wrap (done7 + rv14))).toNat * 1)) (gv9 (0 + (done7.toNat * 1))))) (offN 0 (upd (upd gv10 (0 + (done7.toNat * 1)) (gv10 (0 + (((IntKind.i64.wrap (done7 + rv14))).toNat * 1)))) (0 + (((IntKind.i64.wrap (done7 + rv14))).toNat * 1)) (gv10 (0 + (done7.toNat * 1))))) gv13 gv11) else none) else none) else none) else none))) (((gv2 : Int)).toNat - done7.toNat) ((((gv2 : Int)).toNat - done7.toNat) * 1) gv3 (offN (0 + (done7.toNat * 1)) gv9) (offN (0 + (done7.toNat * 1)) gv10) gv12 gv11) else none) else (out0 done7 gv8 gv9 gv10 gv11 gv13)) else (out0 done7 gv8 gv9 gv10 gv11 gv13))
def impl_system_solve.a0_0 {ρ : Type} (N : Nat) (K0 : Bool → Nat → Nat → Nat → (Nat → Nat) → (Nat → Nat) → (Nat → Int) → (Nat → Int) → Option ρ) (gv0 : Nat → Int) (gv1 : Nat → Int) (gv2 : Nat) (gv3 : Nat) (ov17 : Int) (ov18 : Nat) (ov19 : Nat → Nat) (ov20 : Nat → Nat) (ov21 : Nat → Int) (ov22 : Nat → Int) : Option ρ :=
  (if (0 : Int) ≤ ov17 ∧ ov17 ≤ (gv2 : Int) ∧ (gv2 : Int) ≤ (gv2 : Int) then (if (0 : Int) ≤ (0 : Int) ∧ (0 : Int) ≤ ov17 ∧ ov17 ≤ (gv2 : Int) then (slices_ContainsFunc_suhf N (fun rv23 => (K0 ((!rv23)) ov17.toNat ov18 gv3 ov19 ov20 ov21 ov22)) (((gv2 : Int)).toNat - ov17.toNat) ((((gv2 : Int)).toNat - ov17.toNat) * 1) gv3 (offN (0 + (ov17.toNat * 1)) ov19) (offN (0 + (ov17.toNat * 1)) ov20) ov21 gv0 gv1 ov17.toNat ov18 (ov17.toNat * 1) gv3 (offN 0 ov19) (offN 0 ov20) (ov18 * 1) (fun z => (ov22 (0 + z)))) else none) else none)
def impl_system_solve.l0 {ρ : Type} (N : Nat) (K0 : Bool → Nat → Nat → Nat → (Nat → Nat) → (Nat → Nat) → (Nat → Int) → (Nat → Int) → Option ρ) (gv0 : Nat → Int) (gv1 : Nat → Int) (gv2 : Nat) (gv3 : Nat) (out0 : Int → Nat → (Nat → Nat) → (Nat → Nat) → (Nat → Int) → (Nat → Int) → Option ρ) : Nat → Int → Nat → (Nat → Nat) → (Nat → Nat) → (Nat → Int) → (Nat → Int) → (Nat → Int) → Option ρ
  | 0, _, _, _, _, _, _, _ => none
  | m + 1, done7, gv8, gv9, gv10, gv11, gv12, gv13 => (impl_system_solve.b0 N K0 ((impl_system_solve.l0 N K0 gv0 gv1 gv2 gv3 out0 m)) out0 gv0 gv1 gv2 gv3 done7 gv8 gv9 gv10 gv11 gv12 gv13)
def impl_system_solve.s {ρ : Type} (N : Nat) (K0 : Bool → Nat → Nat → Nat → (Nat → Nat) → (Nat → Nat) → (Nat → Int) → (Nat → Int) → Option ρ) (lp0 : Int → Nat → (Nat → Nat) → (Nat → Nat) → (Nat → Int) → (Nat → Int) → (Nat → Int) → Option ρ) (gv4 : Nat → Nat) (gv5 : Nat → Nat) (gv6 : Nat → Int) : Option ρ :=
  (lp0 0 0 gv4 gv5 gv6 (fun _ => 0) (fun _ => 0))
def impl_system_solve {ρ : Type} (N : Nat) (K0 : Bool → Nat → Nat → Nat → (Nat → Nat) → (Nat → Nat) → (Nat → Int) → (Nat → Int) → Option ρ) (gv0 : Nat → Int) (gv1 : Nat → Int) (gv2 : Nat) (gv3 : Nat) (gv4 : Nat → Nat) (gv5 : Nat → Nat) (gv6 : Nat → Int) : Option ρ :=
  (impl_system_solve.s N K0 (fun done7 gv8 gv9 gv10 gv11 gv12 gv13 => (impl_system_solve.l0 N K0 gv0 gv1 gv2 gv3 (fun ov17 ov18 ov19 ov20 ov21 ov22 => (impl_system_solve.a0_0 N K0 gv0 gv1 gv2 gv3 ov17 ov18 ov19 ov20 ov21 ov22)) N done7 gv8 gv9 gv10 gv11 gv12 gv13)) gv4 gv5 gv6)
def slices_Index_su.b0 {ρ : Type} (N : Nat) (K0 : Int → Option ρ) (rec : Int → Option ρ) (out0 : Option ρ) (s0 : Nat) (v1 : Int) (gv3 : Nat → Int) (x4 : Int) : Option ρ :=
  (if (decide (x4 < (s0 : Int))) = true then (if (0 : Int) ≤ x4 ∧ x4 < (s0 : Int) then (if (v1 == (gv3 (0 + (x4.toNat * 1)))) = true then (K0 x4) else (rec ((IntKind.i64.wrap (x4 + 1))))) else none) else out0)
def slices_Index_su.a0_0 {ρ : Type} (N : Nat) (K0 : Int → Option ρ) : Option ρ :=
  (K0 (-1))
def slices_Index_su.l0 {ρ : Type} (N : Nat) (K0 : Int → Option ρ) (s0 : Nat) (v1 : Int) (gv3 : Nat → Int) (out0 : Option ρ) : Nat → Int → Option ρ
  | 0, _ => none
  | m + 1, x4 => (slices_Index_su.b0 N K0 ((slices_Index_su.l0 N K0 s0 v1 gv3 out0 m)) out0 s0 v1 gv3 x4)
def slices_Index_su.s {ρ : Type} (N : Nat) (K0 : Int → Option ρ) (lp0 : Int → Option ρ) : Option ρ :=
  (lp0 0)
def slices_Index_su {ρ : Type} (N : Nat) (K0 : Int → Option ρ) (s0 : Nat) (v1 : Int) (gv2 : Nat) (gv3 : Nat → Int) : Option ρ :=
  (slices_Index_su.s N K0 (fun x4 => (slices_Index_su.l0 N K0 s0 v1 gv3 (slices_Index_su.a0_0 N K0) N x4)))
def slices_Contains_su {ρ : Type} (N : Nat) (K0 : Bool → Option ρ) (s0 : Nat) (v1 : Int) (gv2 : Nat) (gv3 : Nat → Int) : Option ρ :=
  (slices_Index_su N (fun rv4 => (K0 ((decide (rv4 ≥ 0))))) s0 v1 (s0 * 1) (fun z => (gv3 (0 + z))))
def slices_Clone_s {ρ : Type} (N : Nat) (K0 : Nat → (Nat → Int) → Option ρ) (s0 : Nat) (s1 : Nat) (gv2 : Nat) (gv3 : Nat → Int) : Option ρ :=
  (if (0 + s0) * 1 ≤ 140737488355328 then (K0 (0 + s0) (joinN 0 (fun _ => 0) gv3)) else none)
def impl_reduced_su.b1 {ρ : Type} (N : Nat) (K0 : Nat → (Nat → Int) → Option ρ) (rec : Nat → Int → (Nat → Int) → Option ρ) (out0 : Nat → (Nat → Int) → Option ρ) (rv20 : Nat) (rv23 : Nat → Nat) (rv24 : Nat → Nat) (rv25 : Nat → Int) (outv27 : Nat) (x28 : Int) (gv29 : Nat → Int) : Option ρ :=
  (if (decide (x28 < (rv20 : Int))) = true then (if (0 : Int) ≤ x28 ∧ x28 < (rv20 : Int) then (if (0 : Int) ≤ (0 : Int) ∧ (0 : Int) ≤ (8 : Int) ∧ (8 : Int) ≤ (((rv24 (0 + (x28.toNat * 1))) : Nat) : Int) then (if (outv27 + 1) * 8 ≤ 140737488355328 then (rec (outv27 + 1) ((IntKind.i64.wrap (x28 + 1))) (joinN (outv27 * 8) gv29 (fun z => (rv25 (((rv23 (0 + (x28.toNat * 1))) + 0) + z))))) else none) else none) else none) else (out0 outv27 gv29))
def impl_reduced_su.a1_0 {ρ : Type} (N : Nat) (K0 : Nat → (Nat → Int) → Option ρ) (ov30 : Nat) (ov31 : Nat → Int) : Option ρ :=
  (K0 ov30 ov31)
def impl_reduced_su.b0 {ρ : Type} (N : Nat) (K0 : Nat → (Nat → Int) → Option ρ) (rec : Int → Nat → Nat → (Nat → Nat) → (Nat → Nat) → (Nat → Int) → Option ρ) (out0 : Nat → Nat → (Nat → Nat) → (Nat → Nat) → (Nat → Int) → Option ρ) (list1 : Nat) (gv3 : Nat → Int) (x6 : Int) (gv7 : Nat) (gv8 : Nat) (gv9 : Nat → Nat) (gv10 : Nat → Nat) (gv11 : Nat → Int) : Option ρ :=
  (if (decide (x6 < (list1 : Int))) = true then (if (0 : Int) ≤ x6 ∧ x6 < (list1 : Int) then (slices_Clone_s N (fun rv12 rv13 => (if (rv12 + 1) * 1 ≤ 140737488355328 then (if (gv7 + 1) * 24 ≤ 140737488355328 then (rec ((IntKind.i64.wrap (x6 + 1))) (gv7 + 1) (gv8 + (rv12 + 1)) (upd gv9 gv7 gv8) (upd gv10 gv7 (rv12 + 1)) (joinN gv8 gv11 (joinN (rv12 * 1) rv13 (upd (fun _ => 0) 0 0)))) else none) else none)) 8 8 8 (fun z => (gv3 ((0 + (x6.toNat * 8)) + (0 + z))))) else none) else (out0 gv7 gv8 gv9 gv10 gv11))
def impl_reduced_su.a0_0 {ρ : Type} (N : Nat) (K0 : Nat → (Nat → Int) → Option ρ) (lp1 : Nat → Nat → (Nat → Nat) → (Nat → Nat) → (Nat → Int) → Nat → Int → (Nat → Int) → Option ρ) (rv4 : Nat → Int) (rv5 : Nat → Int) (ov14 : Nat) (ov15 : Nat) (ov16 : Nat → Nat) (ov17 : Nat → Nat) (ov18 : Nat → Int) : Option ρ :=
  (impl_system_solve N (fun rv19 rv20 rv21 rv22 rv23 rv24 rv25 rv26 => (lp1 rv20 rv22 rv23 rv24 rv25 0 0 (fun _ => 0))) rv4 rv5 ov14 ov15 ov16 ov17 ov18)
def impl_reduced_su.l1 {ρ : Type} (N : Nat) (K0 : Nat → (Nat → Int) → Option ρ) (rv20 : Nat) (rv23 : Nat → Nat) (rv24 : Nat → Nat) (rv25 : Nat → Int) (out0 : Nat → (Nat → Int) → Option ρ) : Nat → Nat → Int → (Nat → Int) → Option ρ
  | 0, _, _, _ => none
  | m + 1, outv27, x28, gv29 => (impl_reduced_su.b1 N K0 ((impl_reduced_su.l1 N K0 rv20 rv23 rv24 rv25 out0 m)) out0 rv20 rv23 rv24 rv25 outv27 x28 gv29)
def impl_reduced_su.l0 {ρ : Type} (N : Nat) (K0 : Nat → (Nat → Int) → Option ρ) (list1 : Nat) (gv3 : Nat → Int) (out0 : Nat → Nat → (Nat → Nat) → (Nat → Nat) → (Nat → Int) → Option ρ) : Nat → Int → Nat → Nat → (Nat → Nat) → (Nat → Nat) → (Nat → Int) → Option ρ
  | 0, _, _, _, _, _, _ => none
  | m + 1, x6, gv7, gv8, gv9, gv10, gv11 => (impl_reduced_su.b0 N K0 ((impl_reduced_su.l0 N K0 list1 gv3 out0 m)) out0 list1 gv3 x6 gv7 gv8 gv9 gv10 gv11)
def impl_reduced_su.s {ρ : Type} (N : Nat) (K0 : Nat → (Nat → Int) → Option ρ) (lp0 : (Nat → Int) → (Nat → Int) → Int → Nat → Nat → (Nat → Nat) → (Nat → Nat) → (Nat → Int) → Option ρ) (p0 : Int) : Option ρ :=
  (impl_newSystem N (fun rv4 rv5 => (lp0 rv4 rv5 0 0 0 (fun _ => 0) (fun _ => 0) (fun _ => 0))) p0 8)
def impl_reduced_su {ρ : Type} (N : Nat) (K0 : Nat → (Nat → Int) → Option ρ) (p0 : Int) (list1 : Nat) (gv2 : Nat) (gv3 : Nat → Int) : Option ρ :=
  (impl_reduced_su.s N K0 (fun rv4 rv5 x6 gv7 gv8 gv9 gv10 gv11 => (impl_reduced_su.l0 N K0 list1 gv3 (fun ov14 ov15 ov16 ov17 ov18 => (impl_reduced_su.a0_0 N K0 (fun rv20 rv22 rv23 rv24 rv25 outv27 x28 gv29 => (impl_reduced_su.l1 N K0 rv20 rv23 rv24 rv25 (fun ov30 ov31 => (impl_reduced_su.a1_0 N K0 ov30 ov31)) N outv27 x28 gv29)) rv4 rv5 ov14 ov15 ov16 ov17 ov18)) N x6 gv7 gv8 gv9 gv10 gv11)) p0)
def impl_system_spaces.b1 {ρ : Type} (N : Nat) (K0 : Nat → (Nat → Int) → Option ρ) (rec : Int → (Nat → Int) → Option ρ) (out0 : (Nat → Int) → Option ρ) (gv0 : Nat → Int) (gv2 : Nat) (gv3 : Nat) (gv6 : Nat → Nat) (gv7 : Nat → Nat) (gv9 : Nat → Int) (gv10 : Nat → Int) (x12 : Int) (x16 : Int) (gv17 : Nat → Int) : Option ρ :=
  (if (decide (x16 < (gv3 : Int))) = true then (if (0 : Int) ≤ x16 ∧ x16 < (gv3 : Int) then (if (0 : Int) ≤ x16 ∧ x16 < (gv2 : Int) then (if (0 : Int) ≤ x12 ∧ x12 < (((gv7 (0 + (x16.toNat * 1))) : Nat) : Int) then (impl_field_mod N (fun rv18 => (if (0 : Int) ≤ (gv9 (0 + (x16.toNat * 1))) ∧ (gv9 (0 + (x16.toNat * 1))) < 8 then (rec ((IntKind.i64.wrap (x16 + 1))) (upd gv17 (((gv9 (0 + (x16.toNat * 1)))).toNat * 1) rv18)) else none)) gv0 ((IntKind.i64.wrap (0 - (IntKind.i64.wrap (gv10 ((gv6 (0 + (x16.toNat * 1))) + (x12.toNat * 1)))))))) else none) else none) else none) else (out0 gv17))
def impl_system_spaces.a1_0 {ρ : Type} (N : Nat) (K0 : Nat → (Nat → Int) → Option ρ) (rec : Nat → Int → (Nat → Int) → Option ρ) (out0 : Nat → (Nat → Int) → Option ρ) (outv11 : Nat) (x12 : Int) (gv13 : Nat → Int) (ov19 : Nat → Int) : Option ρ :=
  (if (outv11 + 1) * 8 ≤ 140737488355328 then (rec (outv11 + 1) ((IntKind.i64.wrap (x12 + 1))) (joinN (outv11 * 8) gv13 ov19)) else none)
def impl_system_spaces.b0 {ρ : Type} (N : Nat) (K0 : Nat → (Nat → Int) → Option ρ) (lp1 : Int → (Nat → Int) → Option ρ) (rec : Nat → Int → (Nat → Int) → Option ρ) (out0 : Nat → (Nat → Int) → Option ρ) (gv1 : Nat → Int) (gv3 : Nat) (gv9 : Nat → Int) (outv11 : Nat) (x12 : Int) (gv13 : Nat → Int) : Option ρ :=
  (if (decide (x12 < (gv1 0))) = true then (slices_Contains_su N (fun rv14 => (if rv14 = true then (rec outv11 ((IntKind.i64.wrap (x12 + 1))) gv13) else (impl_basis N (fun rv15 => (lp1 0 rv15)) x12))) gv3 x12 (gv3 * 1) (fun z => (gv9 (0 + z)))) else (out0 outv11 gv13))
def impl_system_spaces.a0_0 {ρ : Type} (N : Nat) (K0 : Nat → (Nat → Int) → Option ρ) (gv0 : Nat → Int) (ov20 : Nat) (ov21 : Nat → Int) : Option ρ :=
  (impl_reduced_su N (fun rv22 rv23 => (K0 rv22 rv23)) ((gv0 0)) ov20 (ov20 * 8) (fun z => (ov21 (0 + z))))
def impl_system_spaces.l1 {ρ : Type} (N : Nat) (K0 : Nat → (Nat → Int) → Option ρ) (gv0 : Nat → Int) (gv2 : Nat) (gv3 : Nat) (gv6 : Nat → Nat) (gv7 : Nat → Nat) (gv9 : Nat → Int) (gv10 : Nat → Int) (x12 : Int) (out0 : (Nat → Int) → Option ρ) : Nat → Int → (Nat → Int) → Option ρ
  | 0, _, _ => none
  | m + 1, x16, gv17 => (impl_system_spaces.b1 N K0 ((impl_system_spaces.l1 N K0 gv0 gv2 gv3 gv6 gv7 gv9 gv10 x12 out0 m)) out0 gv0 gv2 gv3 gv6 gv7 gv9 gv10 x12 x16 gv17)
def impl_system_spaces.l0 {ρ : Type} (N : Nat) (K0 : Nat → (Nat → Int) → Option ρ) (gv0 : Nat → Int) (gv1 : Nat → Int) (gv2 : Nat) (gv3 : Nat) (gv6 : Nat → Nat) (gv7 : Nat → Nat) (gv9 : Nat → Int) (gv10 : Nat → Int) (out0 : Nat → (Nat → Int) → Option ρ) : Nat → Nat → Int → (Nat → Int) → Option ρ
  | 0, _, _, _ => none
  | m + 1, outv11, x12, gv13 => (impl_system_spaces.b0 N K0 (fun x16 gv17 => (impl_system_spaces.l1 N K0 gv0 gv2 gv3 gv6 gv7 gv9 gv10 x12 (fun ov19 => (impl_system_spaces.a1_0 N K0 (impl_system_spaces.l0 N K0 gv0 gv1 gv2 gv3 gv6 gv7 gv9 gv10 out0 m) out0 outv11 x12 gv13 ov19)) N x16 gv17)) ((impl_system_spaces.l0 N K0 gv0 gv1 gv2 gv3 gv6 gv7 gv9 gv10 out0 m)) out0 gv1 gv3 gv9 outv11 x12 gv13)
def impl_system_spaces.s {ρ : Type} (N : Nat) (K0 : Nat → (Nat → Int) → Option ρ) (lp0 : Nat → Int → (Nat → Int) → Option ρ) : Option ρ :=
  (lp0 0 0 (fun _ => 0))
def impl_system_spaces {ρ : Type} (N : Nat) (K0 : Nat → (Nat → Int) → Option ρ) (gv0 : Nat → Int) (gv1 : Nat → Int) (gv2 : Nat) (gv3 : Nat) (gv4 : Nat) (gv5 : Nat) (gv6 : Nat → Nat) (gv7 : Nat → Nat) (gv8 : Nat) (gv9 : Nat → Int) (gv10 : Nat → Int) : Option ρ :=
  (impl_system_spaces.s N K0 (fun outv11 x12 gv13 => (impl_system_spaces.l0 N K0 gv0 gv1 gv2 gv3 gv6 gv7 gv9 gv10 (fun ov20 ov21 => (impl_system_spaces.a0_0 N K0 gv0 ov20 ov21)) N outv11 x12 gv13)))
def impl_kernel_f.b1 {ρ : Type} (N : Nat) (K0 : Nat → (Nat → Int) → Option ρ) (rec : Int → (Nat → Int) → Option ρ) (out0 : (Nat → Int) → Option ρ) (f0 : Nat → Int) (gv2 : Nat → Int) (gv3 : Nat → Int) (gv4 : Nat → Int) (x7 : Int) (x13 : Int) (gv14 : Nat → Int) : Option ρ :=
  (if (decide (x13 < ((((f0 1)).toNat : Nat) : Int))) = true then (impl_CentreOf_c1 N (fun rv15 => (if (0 : Int) ≤ x13 ∧ x13 < ((((f0 1)).toNat : Nat) : Int) then (rec ((IntKind.i64.wrap (x13 + 1))) (upd gv14 (0 + (x13.toNat * 1)) rv15)) else none)) x7 x13 gv2 gv3 gv4) else (out0 gv14))
def impl_kernel_f.a1_0 {ρ : Type} (N : Nat) (K0 : Nat → (Nat → Int) → Option ρ) (rec : Int → Nat → Nat → (Nat → Nat) → (Nat → Nat) → (Nat → Int) → Option ρ) (out0 : Nat → Nat → (Nat → Nat) → (Nat → Nat) → (Nat → Int) → Option ρ) (f0 : Nat → Int) (rv5 : Nat → Int) (rv6 : Nat → Int) (x7 : Int) (gv8 : Nat) (gv9 : Nat) (gv10 : Nat → Nat) (gv11 : Nat → Nat) (gv12 : Nat → Int) (ov16 : Nat → Int) : Option ρ :=
  (impl_system_add_s_v2 N (fun rv17 rv18 rv19 rv20 rv21 => (rec ((IntKind.i64.wrap (x7 + 1))) rv17 rv18 rv19 rv20 rv21)) ((f0 1)).toNat ((f0 1)).toNat 0 rv5 rv6 gv8 (((f0 1)).toNat * 1) (fun z => (ov16 (0 + z))) gv9 gv10 gv11 gv12)
def impl_kernel_f.b0 {ρ : Type} (N : Nat) (K0 : Nat → (Nat → Int) → Option ρ) (lp1 : Int → (Nat → Int) → Option ρ) (rec : Int → Nat → Nat → (Nat → Nat) → (Nat → Nat) → (Nat → Int) → Option ρ) (out0 : Nat → Nat → (Nat → Nat) → (Nat → Nat) → (Nat → Int) → Option ρ) (f0 : Nat → Int) (forms1 : Int) (x7 : Int) (gv8 : Nat) (gv9 : Nat) (gv10 : Nat → Nat) (gv11 : Nat → Nat) (gv12 : Nat → Int) : Option ρ :=
  (if (decide (x7 < forms1)) = true then (if (0 : Int) ≤ (f0 1) ∧ (f0 1) ≤ (f0 1) ∧ (8 : Int) * (f0 1) ≤ 1099511627776 ∧ (f0 1) ≤ 1099511627776 then (lp1 0 (fun _ => 0)) else none) else (out0 gv8 gv9 gv10 gv11 gv12))
def impl_kernel_f.a0_0 {ρ : Type} (N : Nat) (K0 : Nat → (Nat → Int) → Option ρ) (rv5 : Nat → Int) (rv6 : Nat → Int) (ov22 : Nat) (ov23 : Nat) (ov24 : Nat → Nat) (ov25 : Nat → Nat) (ov26 : Nat → Int) : Option ρ :=
  (impl_system_solve N (fun rv27 rv28 rv29 rv30 rv31 rv32 rv33 rv34 => (impl_system_spaces N (fun rv35 rv36 => (K0 rv35 rv36)) rv5 rv6 rv28 rv29 (rv28 * 1) rv30 (offN 0 rv31) (offN 0 rv32) (rv29 * 1) (fun z => (rv34 (0 + z))) rv33)) rv5 rv6 ov22 ov23 ov24 ov25 ov26)
def impl_kernel_f.l1 {ρ : Type} (N : Nat) (K0 : Nat → (Nat → Int) → Option ρ) (f0 : Nat → Int) (gv2 : Nat → Int) (gv3 : Nat → Int) (gv4 : Nat → Int) (x7 : Int) (out0 : (Nat → Int) → Option ρ) : Nat → Int → (Nat → Int) → Option ρ
  | 0, _, _ => none
  | m + 1, x13, gv14 => (impl_kernel_f.b1 N K0 ((impl_kernel_f.l1 N K0 f0 gv2 gv3 gv4 x7 out0 m)) out0 f0 gv2 gv3 gv4 x7 x13 gv14)
def impl_kernel_f.l0 {ρ : Type} (N : Nat) (K0 : Nat → (Nat → Int) → Option ρ) (f0 : Nat → Int) (forms1 : Int) (gv2 : Nat → Int) (gv3 : Nat → Int) (gv4 : Nat → Int) (rv5 : Nat → Int) (rv6 : Nat → Int) (out0 : Nat → Nat → (Nat → Nat) → (Nat → Nat) → (Nat → Int) → Option ρ) : Nat → Int → Nat → Nat → (Nat → Nat) → (Nat → Nat) → (Nat → Int) → Option ρ
  | 0, _, _, _, _, _, _ => none
  | m + 1, x7, gv8, gv9, gv10, gv11, gv12 => (impl_kernel_f.b0 N K0 (fun x13 gv14 => (impl_kernel_f.l1 N K0 f0 gv2 gv3 gv4 x7 (fun ov16 => (impl_kernel_f.a1_0 N K0 (impl_kernel_f.l0 N K0 f0 forms1 gv2 gv3 gv4 rv5 rv6 out0 m) out0 f0 rv5 rv6 x7 gv8 gv9 gv10 gv11 gv12 ov16)) N x13 gv14)) ((impl_kernel_f.l0 N K0 f0 forms1 gv2 gv3 gv4 rv5 rv6 out0 m)) out0 f0 forms1 x7 gv8 gv9 gv10 gv11 gv12)
def impl_kernel_f.s {ρ : Type} (N : Nat) (K0 : Nat → (Nat → Int) → Option ρ) (lp0 : (Nat → Int) → (Nat → Int) → Int → Nat → Nat → (Nat → Nat) → (Nat → Nat) → (Nat → Int) → Option ρ) (f0 : Nat → Int) : Option ρ :=
  (impl_newSystem N (fun rv5 rv6 => (lp0 rv5 rv6 0 0 0 (fun _ => 0) (fun _ => 0) (fun _ => 0))) ((f0 0)) ((f0 1)))
def impl_kernel_f {ρ : Type} (N : Nat) (K0 : Nat → (Nat → Int) → Option ρ) (f0 : Nat → Int) (forms1 : Int) (gv2 : Nat → Int) (gv3 : Nat → Int) (gv4 : Nat → Int) : Option ρ :=
  (impl_kernel_f.s N K0 (fun rv5 rv6 x7 gv8 gv9 gv10 gv11 gv12 => (impl_kernel_f.l0 N K0 f0 forms1 gv2 gv3 gv4 rv5 rv6 (fun ov22 ov23 ov24 ov25 ov26 => (impl_kernel_f.a0_0 N K0 rv5 rv6 ov22 ov23 ov24 ov25 ov26)) N x7 gv8 gv9 gv10 gv11 gv12)) f0)
def impl_CentreOf {ρ : Type} (N : Nat) (K0 : Nat → Int → (Nat → Int) → Option ρ) (av0 : Nat → Int) (av1 : Nat → Int) : Option ρ :=
  (impl_Algebra_code_n N (fun rv2 => (if (rv2 != 0) = true then (K0 0 rv2 (fun _ => 0)) else (impl_Algebra_field N (fun rv3 => (impl_kernel_f N (fun rv4 rv5 => (K0 rv4 0 rv5)) rv3 ((IntKind.i64.wrap ((av0 1) * (av0 1)))) (fun _ => (av0 1)) av0 av1)) av0 av1))) av0 av1)
def laws_eqVector.b0 {ρ : Type} (N : Nat) (K0 : Bool → Option ρ) (rec : Int → Option ρ) (out0 : Option ρ) (av0 : Nat → Int) (bv1 : Nat → Int) (i2 : Int) : Option ρ :=
  (if (decide (i2 < 8)) = true then (if (0 : Int) ≤ i2 ∧ i2 < 8 then (if (0 : Int) ≤ i2 ∧ i2 < 8 then (if ((av0 (i2.toNat * 1)) != (bv1 (i2.toNat * 1))) = true then (K0 false) else (rec ((IntKind.i64.wrap (i2 + 1))))) else none) else none) else out0)
def laws_eqVector.a0_0 {ρ : Type} (N : Nat) (K0 : Bool → Option ρ) : Option ρ :=
  (K0 true)
def laws_eqVector.l0 {ρ : Type} (N : Nat) (K0 : Bool → Option ρ) (av0 : Nat → Int) (bv1 : Nat → Int) (out0 : Option ρ) : Nat → Int → Option ρ
  | 0, _ => none
  | m + 1, i2 => (laws_eqVector.b0 N K0 ((laws_eqVector.l0 N K0 av0 bv1 out0 m)) out0 av0 bv1 i2)
def laws_eqVector.s {ρ : Type} (N : Nat) (K0 : Bool → Option ρ) (lp0 : Int → Option ρ) : Option ρ :=
  (lp0 0)
def laws_eqVector {ρ : Type} (N : Nat) (K0 : Bool → Option ρ) (av0 : Nat → Int) (bv1 : Nat → Int) : Option ρ :=
  (laws_eqVector.s N K0 (fun i2 => (laws_eqVector.l0 N K0 av0 bv1 (laws_eqVector.a0_0 N K0) N i2)))
def laws_eqVectorS_susu.b0 {ρ : Type} (N : Nat) (K0 : Bool → Option ρ) (rec : Int → Option ρ) (out0 : Option ρ) (av0 : Nat) (bv1 : Nat) (gv3 : Nat → Int) (gv5 : Nat → Int) (i6 : Int) : Option ρ :=
  (if (decide (i6 < (av0 : Int))) = true then (if (0 : Int) ≤ i6 ∧ i6 < (av0 : Int) then (if (0 : Int) ≤ i6 ∧ i6 < (bv1 : Int) then (laws_eqVector N (fun rv7 => (if (!rv7) = true then (K0 false) else (rec ((IntKind.i64.wrap (i6 + 1)))))) (fun z => (gv3 ((0 + (i6.toNat * 8)) + z))) (fun z => (gv5 ((0 + (i6.toNat * 8)) + z)))) else none) else none) else out0)
def laws_eqVectorS_susu.a0_0 {ρ : Type} (N : Nat) (K0 : Bool → Option ρ) : Option ρ :=
  (K0 true)
def laws_eqVectorS_susu.l0 {ρ : Type} (N : Nat) (K0 : Bool → Option ρ) (av0 : Nat) (bv1 : Nat) (gv3 : Nat → Int) (gv5 : Nat → Int) (out0 : Option ρ) : Nat → Int → Option ρ
  | 0, _ => none
  | m + 1, i6 => (laws_eqVectorS_susu.b0 N K0 ((laws_eqVectorS_susu.l0 N K0 av0 bv1 gv3 gv5 out0 m)) out0 av0 bv1 gv3 gv5 i6)
def laws_eqVectorS_susu.s {ρ : Type} (N : Nat) (K0 : Bool → Option ρ) (lp0 : Int → Option ρ) (av0 : Nat) (bv1 : Nat) : Option ρ :=
  (if ((av0 : Int) != (bv1 : Int)) = true then (K0 false) else (lp0 0))
def laws_eqVectorS_susu {ρ : Type} (N : Nat) (K0 : Bool → Option ρ) (av0 : Nat) (bv1 : Nat) (gv2 : Nat) (gv3 : Nat → Int) (gv4 : Nat) (gv5 : Nat → Int) : Option ρ :=
  (laws_eqVectorS_susu.s N K0 (fun i6 => (laws_eqVectorS_susu.l0 N K0 av0 bv1 gv3 gv5 (laws_eqVectorS_susu.a0_0 N K0) N i6)) av0 bv1)
def laws_markVectorS_su.b1 {ρ : Type} (N : Nat) (K0 : Int → (Nat → Int) → Option ρ) (rec : Int → Int → (Nat → Int) → Option ρ) (out0 : Int → (Nat → Int) → Option ρ) (av0 : Nat) (i5 : Int) (k7 : Int) (j8 : Int) (gv9 : Nat → Int) : Option ρ :=
  (if (decide (j8 < 8)) = true then (if (0 : Int) ≤ i5 ∧ i5 < (av0 : Int) then (if (0 : Int) ≤ j8 ∧ j8 < 8 then (rec ((IntKind.i64.wrap (k7 + 1))) ((IntKind.i64.wrap (j8 + 1))) (upd gv9 ((0 + (i5.toNat * 8)) + (j8.toNat * 1)) (IntKind.u8.wrap k7))) else none) else none) else (out0 k7 gv9))
def laws_markVectorS_su.a1_0 {ρ : Type} (N : Nat) (K0 : Int → (Nat → Int) → Option ρ) (rec : Int → Int → (Nat → Int) → Option ρ) (out0 : Int → (Nat → Int) → Option ρ) (i5 : Int) (ov10 : Int) (ov11 : Nat → Int) : Option ρ :=
  (rec ov10 ((IntKind.i64.wrap (i5 + 1))) ov11)
def laws_markVectorS_su.b0 {ρ : Type} (N : Nat) (K0 : Int → (Nat → Int) → Option ρ) (lp1 : Int → Int → (Nat → Int) → Option ρ) (rec : Int → Int → (Nat → Int) → Option ρ) (out0 : Int → (Nat → Int) → Option ρ) (av0 : Nat) (k4 : Int) (i5 : Int) (gv6 : Nat → Int) : Option ρ :=
  (if (decide (i5 < (av0 : Int))) = true then (lp1 k4 0 gv6) else (out0 k4 gv6))
def laws_markVectorS_su.a0_0 {ρ : Type} (N : Nat) (K0 : Int → (Nat → Int) → Option ρ) (ov12 : Int) (ov13 : Nat → Int) : Option ρ :=
  (K0 ov12 ov13)
def laws_markVectorS_su.l1 {ρ : Type} (N : Nat) (K0 : Int → (Nat → Int) → Option ρ) (av0 : Nat) (i5 : Int) (out0 : Int → (Nat → Int) → Option ρ) : Nat → Int → Int → (Nat → Int) → Option ρ
  | 0, _, _, _ => none
  | m + 1, k7, j8, gv9 => (laws_markVectorS_su.b1 N K0 ((laws_markVectorS_su.l1 N K0 av0 i5 out0 m)) out0 av0 i5 k7 j8 gv9)
def laws_markVectorS_su.l0 {ρ : Type} (N : Nat) (K0 : Int → (Nat → Int) → Option ρ) (av0 : Nat) (out0 : Int → (Nat → Int) → Option ρ) : Nat → Int → Int → (Nat → Int) → Option ρ
  | 0, _, _, _ => none
  | m + 1, k4, i5, gv6 => (laws_markVectorS_su.b0 N K0 (fun k7 j8 gv9 => (laws_markVectorS_su.l1 N K0 av0 i5 (fun ov10 ov11 => (laws_markVectorS_su.a1_0 N K0 (laws_markVectorS_su.l0 N K0 av0 out0 m) out0 i5 ov10 ov11)) N k7 j8 gv9)) ((laws_markVectorS_su.l0 N K0 av0 out0 m)) out0 av0 k4 i5 gv6)
def laws_markVectorS_su.s {ρ : Type} (N : Nat) (K0 : Int → (Nat → Int) → Option ρ) (lp0 : Int → Int → (Nat → Int) → Option ρ) (k1 : Int) (gv3 : Nat → Int) : Option ρ :=
  (lp0 k1 0 gv3)
def laws_markVectorS_su {ρ : Type} (N : Nat) (K0 : Int → (Nat → Int) → Option ρ) (av0 : Nat) (k1 : Int) (gv2 : Nat) (gv3 : Nat → Int) : Option ρ :=
  (laws_markVectorS_su.s N K0 (fun k4 i5 gv6 => (laws_markVectorS_su.l0 N K0 av0 (fun ov12 ov13 => (laws_markVectorS_su.a0_0 N K0 ov12 ov13)) N k4 i5 gv6)) k1 gv3)
def laws_heldVectorS_su.b1 {ρ : Type} (N : Nat) (K0 : Int → Option ρ) (rec : Int → Int → Option ρ) (out0 : Int → Option ρ) (av0 : Nat) (gv3 : Nat → Int) (i5 : Int) (k6 : Int) (j7 : Int) : Option ρ :=
  (if (decide (j7 < 8)) = true then (if (0 : Int) ≤ i5 ∧ i5 < (av0 : Int) then (if (0 : Int) ≤ j7 ∧ j7 < 8 then (if ((gv3 ((0 + (i5.toNat * 8)) + (j7.toNat * 1))) != (IntKind.u8.wrap k6)) = true then (K0 (-1)) else (rec ((IntKind.i64.wrap (k6 + 1))) ((IntKind.i64.wrap (j7 + 1))))) else none) else none) else (out0 k6))
def laws_heldVectorS_su.a1_0 {ρ : Type} (N : Nat) (K0 : Int → Option ρ) (rec : Int → Int → Option ρ) (out0 : Int → Option ρ) (i5 : Int) (ov8 : Int) : Option ρ :=
  (rec ov8 ((IntKind.i64.wrap (i5 + 1))))
def laws_heldVectorS_su.b0 {ρ : Type} (N : Nat) (K0 : Int → Option ρ) (lp1 : Int → Int → Option ρ) (rec : Int → Int → Option ρ) (out0 : Int → Option ρ) (av0 : Nat) (k4 : Int) (i5 : Int) : Option ρ :=
  (if (decide (i5 < (av0 : Int))) = true then (lp1 k4 0) else (out0 k4))
def laws_heldVectorS_su.a0_0 {ρ : Type} (N : Nat) (K0 : Int → Option ρ) (ov9 : Int) : Option ρ :=
  (K0 ov9)
def laws_heldVectorS_su.l1 {ρ : Type} (N : Nat) (K0 : Int → Option ρ) (av0 : Nat) (gv3 : Nat → Int) (i5 : Int) (out0 : Int → Option ρ) : Nat → Int → Int → Option ρ
  | 0, _, _ => none
  | m + 1, k6, j7 => (laws_heldVectorS_su.b1 N K0 ((laws_heldVectorS_su.l1 N K0 av0 gv3 i5 out0 m)) out0 av0 gv3 i5 k6 j7)
def laws_heldVectorS_su.l0 {ρ : Type} (N : Nat) (K0 : Int → Option ρ) (av0 : Nat) (gv3 : Nat → Int) (out0 : Int → Option ρ) : Nat → Int → Int → Option ρ
  | 0, _, _ => none
  | m + 1, k4, i5 => (laws_heldVectorS_su.b0 N K0 (fun k6 j7 => (laws_heldVectorS_su.l1 N K0 av0 gv3 i5 (fun ov8 => (laws_heldVectorS_su.a1_0 N K0 (laws_heldVectorS_su.l0 N K0 av0 gv3 out0 m) out0 i5 ov8)) N k6 j7)) ((laws_heldVectorS_su.l0 N K0 av0 gv3 out0 m)) out0 av0 k4 i5)
def laws_heldVectorS_su.s {ρ : Type} (N : Nat) (K0 : Int → Option ρ) (lp0 : Int → Int → Option ρ) (k1 : Int) : Option ρ :=
  (lp0 k1 0)
def laws_heldVectorS_su {ρ : Type} (N : Nat) (K0 : Int → Option ρ) (av0 : Nat) (k1 : Int) (gv2 : Nat) (gv3 : Nat → Int) : Option ρ :=
  (laws_heldVectorS_su.s N K0 (fun k4 i5 => (laws_heldVectorS_su.l0 N K0 av0 gv3 (fun ov9 => (laws_heldVectorS_su.a0_0 N K0 ov9)) N k4 i5)) k1)
def laws_FnExactCentreOf {ρ : Type} (N : Nat) (K0 : Bool → Option ρ) (aA0 : Nat → Int) (aA1 : Nat → Int) : Option ρ :=
  (laws_toAlgebra N (fun rv2 rv3 => (spec_CentreOf N (fun rv4 rv5 rv6 => (laws_toAlgebra N (fun rv7 rv8 => (impl_CentreOf N (fun rv9 rv10 rv11 => (laws_eqVectorS_susu N (fun rv12 => (if (!rv12) = true then (K0 false) else (if (rv10 != rv5) = true then (K0 false) else (laws_markVectorS_su N (fun rv13 rv14 => (laws_heldVectorS_su N (fun rv15 => (if (decide (rv15 < 0)) = true then (K0 false) else (if (rv15 != rv13) = true then (K0 false) else (laws_toAlgebra N (fun rv16 rv17 => (impl_CentreOf N (fun rv18 rv19 rv20 => (laws_eqVectorS_susu N (fun rv21 => (if (!rv21) = true then (K0 false) else (if (rv19 != rv5) = true then (K0 false) else (laws_heldVectorS_su N (fun rv22 => (if (decide (rv22 < 0)) = true then (K0 false) else (if (rv22 != rv13) = true then (K0 false) else (K0 true)))) rv9 101 (rv9 * 8) (fun z => ((updN rv11 0 (rv9 * 8) rv14) (0 + z))))))) rv18 rv4 (rv18 * 8) (fun z => (rv20 (0 + z))) (rv4 * 8) (fun z => (rv6 (0 + z))))) rv16 rv17)) aA0 aA1)))) rv9 101 (rv9 * 8) (fun z => ((updN rv11 0 (rv9 * 8) rv14) (0 + z))))) rv9 101 (rv9 * 8) (fun z => (rv11 (0 + z))))))) rv9 rv4 (rv9 * 8) (fun z => (rv11 (0 + z))) (rv4 * 8) (fun z => (rv6 (0 + z))))) rv7 rv8)) aA0 aA1)) rv2 rv3)) aA0 aA1)
end
end Go.Proofs.Ytmjpfchbkolcbaa.H
