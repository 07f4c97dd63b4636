/- The functions that the program computes, in plain Lean. -/
import Derived.Test.YtiifnnokpjbapaaRRHyUse
namespace Go.Proofs.YtiifnnokpjbapaaRR.H
set_option linter.unusedVariables false
set_option linter.unusedSimpArgs false
open Go Go.RowKit Go.Proofs.YtiifnnokpjbapaaRR.Hy
set_option linter.unusedVariables false
set_option maxRecDepth 100000
noncomputable def laws_szInt64S_su {ρ : Type} (N : Nat) (K0 : Int → Option ρ) (av0 : Nat) (left1 : Int) (gv2 : Nat) (gv3 : Nat → Int) : Option ρ :=
  (if (decide ((IntKind.i64.wrap (left1 - (av0 : Int))) < 0)) = true then (K0 (-1)) else (K0 ((IntKind.i64.wrap (left1 - (av0 : Int))))))

noncomputable def laws_szInt64SS_suh.b0 {ρ : Type} (N : Nat) (K0 : Int → Option ρ) (rec : Int → Int → Option ρ) (out0 : Int → Option ρ) (av0 : Nat) (gv4 : Nat → Nat) (gv5 : Nat → Nat) (gv7 : Nat → Int) (left8 : Int) (i9 : Int) : Option ρ :=
  (if (decide (i9 < (av0 : Int))) = true then (if (0 : Int) ≤ i9 ∧ i9 < (av0 : Int) then (laws_szInt64S_su N (fun rv10 => (if (decide (rv10 < 0)) = true then (K0 (-1)) else (rec rv10 ((IntKind.i64.wrap (i9 + 1)))))) (gv5 (0 + (i9.toNat * 1))) left8 ((gv5 (0 + (i9.toNat * 1))) * 1) (fun z => (gv7 ((gv4 (0 + (i9.toNat * 1))) + z)))) else none) else (out0 left8))

noncomputable def laws_szInt64SS_suh.a0_0 {ρ : Type} (N : Nat) (K0 : Int → Option ρ) (ov11 : Int) : Option ρ :=
  (K0 ov11)

noncomputable def laws_szInt64SS_suh.l0 {ρ : Type} (N : Nat) (K0 : Int → Option ρ) (av0 : Nat) (gv4 : Nat → Nat) (gv5 : Nat → Nat) (gv7 : Nat → Int) (out0 : Int → Option ρ) : Nat → Int → Int → Option ρ
  | 0, _, _ => none
  | m + 1, left8, i9 => (laws_szInt64SS_suh.b0 N K0 ((laws_szInt64SS_suh.l0 N K0 av0 gv4 gv5 gv7 out0 m)) out0 av0 gv4 gv5 gv7 left8 i9)

noncomputable def laws_szInt64SS_suh.s {ρ : Type} (N : Nat) (K0 : Int → Option ρ) (lp0 : Int → Int → Option ρ) (av0 : Nat) (left1 : Int) : Option ρ :=
  (if (decide ((IntKind.i64.wrap (left1 - (av0 : Int))) < 0)) = true then (K0 (-1)) else (lp0 ((IntKind.i64.wrap (left1 - (av0 : Int)))) 0))

noncomputable def laws_szInt64SS_suh {ρ : Type} (N : Nat) (K0 : Int → Option ρ) (av0 : Nat) (left1 : Int) (gv2 : Nat) (gv3 : Nat) (gv4 : Nat → Nat) (gv5 : Nat → Nat) (gv6 : Nat) (gv7 : Nat → Int) : Option ρ :=
  (laws_szInt64SS_suh.s N K0 (fun left8 i9 => (laws_szInt64SS_suh.l0 N K0 av0 gv4 gv5 gv7 (fun ov11 => (laws_szInt64SS_suh.a0_0 N K0 ov11)) N left8 i9)) av0 left1)

noncomputable def laws_roomBehind {ρ : Type} (N : Nat) (K0 : Int → Option ρ) (nv0 : Int) : Option ρ :=
  (if ((Int.tmod nv0 6) == 5) = true then (K0 0) else (if ((Int.tmod nv0 3) == 0) = true then (K0 1) else (K0 nv0)))

noncomputable def laws_toInt64S_su0.b1 {ρ : Type} (N : Nat) (K0 : Nat → Nat → Nat → (Nat → Int) → Option ρ) (rec : Int → (Nat → Int) → Option ρ) (out0 : (Nat → Int) → Option ρ) (av0 : Nat) (rv3 : Int) (i7 : Int) (gv8 : Nat → Int) : Option ρ :=
  (if (decide (i7 < ((((IntKind.i64.wrap ((av0 : Int) + rv3))).toNat : Nat) : Int))) = true then (if (0 : Int) ≤ i7 ∧ i7 < ((((IntKind.i64.wrap ((av0 : Int) + rv3))).toNat : Nat) : Int) then (rec ((IntKind.i64.wrap (i7 + 1))) (upd gv8 (0 + (i7.toNat * 1)) (-7000000000000000101))) else none) else (out0 gv8))

noncomputable def laws_toInt64S_su0.a1_0 {ρ : Type} (N : Nat) (K0 : Nat → Nat → Nat → (Nat → Int) → Option ρ) (av0 : Nat) (rv3 : Int) (ov9 : Nat → Int) : Option ρ :=
  (if (0 : Int) ≤ (0 : Int) ∧ (0 : Int) ≤ (av0 : Int) ∧ (av0 : Int) ≤ ((((IntKind.i64.wrap ((av0 : Int) + rv3))).toNat : Nat) : Int) then (K0 ((av0 : Int)).toNat ((IntKind.i64.wrap ((av0 : Int) + rv3))).toNat (((IntKind.i64.wrap ((av0 : Int) + rv3))).toNat * 1) ov9) else none)

noncomputable def laws_toInt64S_su0.b0 {ρ : Type} (N : Nat) (K0 : Nat → Nat → Nat → (Nat → Int) → Option ρ) (rec : Int → (Nat → Int) → Option ρ) (out0 : (Nat → Int) → Option ρ) (av0 : Nat) (gv2 : Nat → Int) (rv3 : Int) (i4 : Int) (gv5 : Nat → Int) : Option ρ :=
  (if (decide (i4 < (av0 : Int))) = true then (if (0 : Int) ≤ i4 ∧ i4 < (av0 : Int) then (if (0 : Int) ≤ i4 ∧ i4 < ((((IntKind.i64.wrap ((av0 : Int) + rv3))).toNat : Nat) : Int) then (rec ((IntKind.i64.wrap (i4 + 1))) (upd gv5 (0 + (i4.toNat * 1)) (gv2 (0 + (i4.toNat * 1))))) else none) else none) else (out0 gv5))

noncomputable def laws_toInt64S_su0.a0_0 {ρ : Type} (N : Nat) (K0 : Nat → Nat → Nat → (Nat → Int) → Option ρ) (lp1 : Int → (Nat → Int) → Option ρ) (av0 : Nat) (ov6 : Nat → Int) : Option ρ :=
  (lp1 ((av0 : Int)) ov6)

noncomputable def laws_toInt64S_su0.l1 {ρ : Type} (N : Nat) (K0 : Nat → Nat → Nat → (Nat → Int) → Option ρ) (av0 : Nat) (rv3 : Int) (out0 : (Nat → Int) → Option ρ) : Nat → Int → (Nat → Int) → Option ρ
  | 0, _, _ => none
  | m + 1, i7, gv8 => (laws_toInt64S_su0.b1 N K0 ((laws_toInt64S_su0.l1 N K0 av0 rv3 out0 m)) out0 av0 rv3 i7 gv8)

noncomputable def laws_toInt64S_su0.l0 {ρ : Type} (N : Nat) (K0 : Nat → Nat → Nat → (Nat → Int) → Option ρ) (av0 : Nat) (gv2 : Nat → Int) (rv3 : Int) (out0 : (Nat → Int) → Option ρ) : Nat → Int → (Nat → Int) → Option ρ
  | 0, _, _ => none
  | m + 1, i4, gv5 => (laws_toInt64S_su0.b0 N K0 ((laws_toInt64S_su0.l0 N K0 av0 gv2 rv3 out0 m)) out0 av0 gv2 rv3 i4 gv5)

noncomputable def laws_toInt64S_su0.s {ρ : Type} (N : Nat) (K0 : Nat → Nat → Nat → (Nat → Int) → Option ρ) (lp0 : Int → Int → (Nat → Int) → Option ρ) (av0 : Nat) : Option ρ :=
  (laws_roomBehind N (fun rv3 => (if (0 : Int) ≤ (IntKind.i64.wrap ((av0 : Int) + rv3)) ∧ (IntKind.i64.wrap ((av0 : Int) + rv3)) ≤ (IntKind.i64.wrap ((av0 : Int) + rv3)) ∧ (8 : Int) * (IntKind.i64.wrap ((av0 : Int) + rv3)) ≤ 1099511627776 ∧ (IntKind.i64.wrap ((av0 : Int) + rv3)) ≤ 1099511627776 then (lp0 rv3 0 (fun _ => 0)) else none)) ((av0 : Int)))

noncomputable def laws_toInt64S_su0 {ρ : Type} (N : Nat) (K0 : Nat → Nat → Nat → (Nat → Int) → Option ρ) (av0 : Nat) (gv1 : Nat) (gv2 : Nat → Int) : Option ρ :=
  (laws_toInt64S_su0.s N K0 (fun rv3 i4 gv5 => (laws_toInt64S_su0.l0 N K0 av0 gv2 rv3 (fun ov6 => (laws_toInt64S_su0.a0_0 N K0 (fun i7 gv8 => (laws_toInt64S_su0.l1 N K0 av0 rv3 (fun ov9 => (laws_toInt64S_su0.a1_0 N K0 av0 rv3 ov9)) N i7 gv8)) av0 ov6)) N i4 gv5)) av0)

noncomputable def laws_toInt64SS_suh0.b1 {ρ : Type} (N : Nat) (K0 : Nat → Nat → Nat → Nat → (Nat → Nat) → (Nat → Nat) → (Nat → Nat) → (Nat → Int) → Option ρ) (rec : Int → Nat → (Nat → Nat) → (Nat → Nat) → (Nat → Nat) → (Nat → Int) → Option ρ) (out0 : Nat → (Nat → Nat) → (Nat → Nat) → (Nat → Nat) → (Nat → Int) → Option ρ) (av0 : Nat) (rv7 : Int) (i23 : Int) (gv24 : Nat) (gv25 : Nat → Nat) (gv26 : Nat → Nat) (gv27 : Nat → Nat) (gv28 : Nat → Int) : Option ρ :=
  (if (decide (i23 < ((((IntKind.i64.wrap ((av0 : Int) + rv7))).toNat : Nat) : Int))) = true then (if (0 : Int) ≤ i23 ∧ i23 < ((((IntKind.i64.wrap ((av0 : Int) + rv7))).toNat : Nat) : Int) then (rec ((IntKind.i64.wrap (i23 + 1))) (gv24 + 1) (upd gv25 (0 + (i23.toNat * 1)) gv24) (upd gv26 (0 + (i23.toNat * 1)) 1) (upd gv27 (0 + (i23.toNat * 1)) 1) (joinN gv24 gv28 (upd (fun _ => 0) 0 (-7000000000000000101)))) else none) else (out0 gv24 gv25 gv26 gv27 gv28))

noncomputable def laws_toInt64SS_suh0.a1_0 {ρ : Type} (N : Nat) (K0 : Nat → Nat → Nat → Nat → (Nat → Nat) → (Nat → Nat) → (Nat → Nat) → (Nat → Int) → Option ρ) (av0 : Nat) (rv7 : Int) (ov29 : Nat) (ov30 : Nat → Nat) (ov31 : Nat → Nat) (ov32 : Nat → Nat) (ov33 : Nat → Int) : Option ρ :=
  (if (0 : Int) ≤ (0 : Int) ∧ (0 : Int) ≤ (av0 : Int) ∧ (av0 : Int) ≤ ((((IntKind.i64.wrap ((av0 : Int) + rv7))).toNat : Nat) : Int) then (K0 ((av0 : Int)).toNat ((IntKind.i64.wrap ((av0 : Int) + rv7))).toNat ((IntKind.i64.wrap ((av0 : Int) + rv7))).toNat ov29 ov30 ov31 ov32 ov33) else none)

noncomputable def laws_toInt64SS_suh0.b0 {ρ : Type} (N : Nat) (K0 : Nat → Nat → Nat → Nat → (Nat → Nat) → (Nat → Nat) → (Nat → Nat) → (Nat → Int) → Option ρ) (rec : Int → Nat → (Nat → Nat) → (Nat → Nat) → (Nat → Nat) → (Nat → Int) → Option ρ) (out0 : Nat → (Nat → Nat) → (Nat → Nat) → (Nat → Nat) → (Nat → Int) → Option ρ) (av0 : Nat) (gv3 : Nat → Nat) (gv4 : Nat → Nat) (gv6 : Nat → Int) (rv7 : Int) (i8 : Int) (gv9 : Nat) (gv10 : Nat → Nat) (gv11 : Nat → Nat) (gv12 : Nat → Nat) (gv13 : Nat → Int) : Option ρ :=
  (if (decide (i8 < (av0 : Int))) = true then (if (0 : Int) ≤ i8 ∧ i8 < (av0 : Int) then (laws_toInt64S_su0 N (fun rv14 rv15 rv16 rv17 => (if (0 : Int) ≤ i8 ∧ i8 < ((((IntKind.i64.wrap ((av0 : Int) + rv7))).toNat : Nat) : Int) then (rec ((IntKind.i64.wrap (i8 + 1))) (gv9 + rv15) (upd gv10 (0 + (i8.toNat * 1)) gv9) (upd gv11 (0 + (i8.toNat * 1)) rv14) (upd gv12 (0 + (i8.toNat * 1)) rv15) (joinN gv9 gv13 rv17)) else none)) (gv4 (0 + (i8.toNat * 1))) ((gv4 (0 + (i8.toNat * 1))) * 1) (fun z => (gv6 ((gv3 (0 + (i8.toNat * 1))) + z)))) else none) else (out0 gv9 gv10 gv11 gv12 gv13))

noncomputable def laws_toInt64SS_suh0.a0_0 {ρ : Type} (N : Nat) (K0 : Nat → Nat → Nat → Nat → (Nat → Nat) → (Nat → Nat) → (Nat → Nat) → (Nat → Int) → Option ρ) (lp1 : Int → Nat → (Nat → Nat) → (Nat → Nat) → (Nat → Nat) → (Nat → Int) → Option ρ) (av0 : Nat) (ov18 : Nat) (ov19 : Nat → Nat) (ov20 : Nat → Nat) (ov21 : Nat → Nat) (ov22 : Nat → Int) : Option ρ :=
  (lp1 ((av0 : Int)) ov18 ov19 ov20 ov21 ov22)

noncomputable def laws_toInt64SS_suh0.l1 {ρ : Type} (N : Nat) (K0 : Nat → Nat → Nat → Nat → (Nat → Nat) → (Nat → Nat) → (Nat → Nat) → (Nat → Int) → Option ρ) (av0 : Nat) (rv7 : Int) (out0 : Nat → (Nat → Nat) → (Nat → Nat) → (Nat → Nat) → (Nat → Int) → Option ρ) : Nat → Int → Nat → (Nat → Nat) → (Nat → Nat) → (Nat → Nat) → (Nat → Int) → Option ρ
  | 0, _, _, _, _, _, _ => none
  | m + 1, i23, gv24, gv25, gv26, gv27, gv28 => (laws_toInt64SS_suh0.b1 N K0 ((laws_toInt64SS_suh0.l1 N K0 av0 rv7 out0 m)) out0 av0 rv7 i23 gv24 gv25 gv26 gv27 gv28)

noncomputable def laws_toInt64SS_suh0.l0 {ρ : Type} (N : Nat) (K0 : Nat → Nat → Nat → Nat → (Nat → Nat) → (Nat → Nat) → (Nat → Nat) → (Nat → Int) → Option ρ) (av0 : Nat) (gv3 : Nat → Nat) (gv4 : Nat → Nat) (gv6 : Nat → Int) (rv7 : Int) (out0 : Nat → (Nat → Nat) → (Nat → Nat) → (Nat → Nat) → (Nat → Int) → Option ρ) : Nat → Int → Nat → (Nat → Nat) → (Nat → Nat) → (Nat → Nat) → (Nat → Int) → Option ρ
  | 0, _, _, _, _, _, _ => none
  | m + 1, i8, gv9, gv10, gv11, gv12, gv13 => (laws_toInt64SS_suh0.b0 N K0 ((laws_toInt64SS_suh0.l0 N K0 av0 gv3 gv4 gv6 rv7 out0 m)) out0 av0 gv3 gv4 gv6 rv7 i8 gv9 gv10 gv11 gv12 gv13)

noncomputable def laws_toInt64SS_suh0.s {ρ : Type} (N : Nat) (K0 : Nat → Nat → Nat → Nat → (Nat → Nat) → (Nat → Nat) → (Nat → Nat) → (Nat → Int) → Option ρ) (lp0 : Int → Int → Nat → (Nat → Nat) → (Nat → Nat) → (Nat → Nat) → (Nat → Int) → Option ρ) (av0 : Nat) : Option ρ :=
  (laws_roomBehind N (fun rv7 => (if (0 : Int) ≤ (IntKind.i64.wrap ((av0 : Int) + rv7)) ∧ (IntKind.i64.wrap ((av0 : Int) + rv7)) ≤ (IntKind.i64.wrap ((av0 : Int) + rv7)) ∧ (24 : Int) * (IntKind.i64.wrap ((av0 : Int) + rv7)) ≤ 1099511627776 ∧ (IntKind.i64.wrap ((av0 : Int) + rv7)) ≤ 1099511627776 then (lp0 rv7 0 0 (fun _ => 0) (fun _ => 0) (fun _ => 0) (fun _ => 0)) else none)) ((av0 : Int)))

noncomputable def laws_toInt64SS_suh0 {ρ : Type} (N : Nat) (K0 : Nat → Nat → Nat → Nat → (Nat → Nat) → (Nat → Nat) → (Nat → Nat) → (Nat → Int) → Option ρ) (av0 : Nat) (gv1 : Nat) (gv2 : Nat) (gv3 : Nat → Nat) (gv4 : Nat → Nat) (gv5 : Nat) (gv6 : Nat → Int) : Option ρ :=
  (laws_toInt64SS_suh0.s N K0 (fun rv7 i8 gv9 gv10 gv11 gv12 gv13 => (laws_toInt64SS_suh0.l0 N K0 av0 gv3 gv4 gv6 rv7 (fun ov18 ov19 ov20 ov21 ov22 => (laws_toInt64SS_suh0.a0_0 N K0 (fun i23 gv24 gv25 gv26 gv27 gv28 => (laws_toInt64SS_suh0.l1 N K0 av0 rv7 (fun ov29 ov30 ov31 ov32 ov33 => (laws_toInt64SS_suh0.a1_0 N K0 av0 rv7 ov29 ov30 ov31 ov32 ov33)) N i23 gv24 gv25 gv26 gv27 gv28)) av0 ov18 ov19 ov20 ov21 ov22)) N i8 gv9 gv10 gv11 gv12 gv13)) av0)

noncomputable def spec_l01In {ρ : Type} (N : Nat) (K0 : Bool → Option ρ) (nv0 : Int) (low1 : Int) (high2 : Int) : Option ρ :=
  (if (decide (nv0 ≥ low1)) = true then (K0 ((decide (nv0 ≤ high2)))) else (K0 false))

noncomputable def spec_l04Is_sh.b1 {ρ : Type} (N : Nat) (K0 : Bool → Option ρ) (rec : Int → Option ρ) (out0 : Option ρ) (table0 : Nat) (gv4 : Nat → Nat) (gv5 : Nat → Nat) (gv7 : Nat → Int) (i9 : Int) (j10 : Int) : Option ρ :=
  (if (decide (j10 < (table0 : Int))) = true then (if (0 : Int) ≤ i9 ∧ i9 < (table0 : Int) then (if (0 : Int) ≤ j10 ∧ j10 < (((gv5 (0 + (i9.toNat * 1))) : Nat) : Int) then (spec_l01In N (fun rv11 => (if (!rv11) = true then (K0 false) else (rec ((IntKind.i64.wrap (j10 + 1)))))) ((gv7 ((gv4 (0 + (i9.toNat * 1))) + (j10.toNat * 1)))) 0 ((IntKind.i64.wrap ((table0 : Int) - 1)))) else none) else none) else out0)

noncomputable def spec_l04Is_sh.a1_0 {ρ : Type} (N : Nat) (K0 : Bool → Option ρ) (rec : Int → Option ρ) (out0 : Option ρ) (i9 : Int) : Option ρ :=
  (rec ((IntKind.i64.wrap (i9 + 1))))

noncomputable def spec_l04Is_sh.b4 {ρ : Type} (N : Nat) (K0 : Bool → Option ρ) (rec : Int → Option ρ) (out0 : Option ρ) (table0 : Nat) (gv4 : Nat → Nat) (gv5 : Nat → Nat) (gv7 : Nat → Int) (i12 : Int) (j14 : Int) (k15 : Int) : Option ρ :=
  (if (decide (k15 < (table0 : Int))) = true then (if (0 : Int) ≤ i12 ∧ i12 < (table0 : Int) then (if (0 : Int) ≤ j14 ∧ j14 < (((gv5 (0 + (i12.toNat * 1))) : Nat) : Int) then (if (0 : Int) ≤ (gv7 ((gv4 (0 + (i12.toNat * 1))) + (j14.toNat * 1))) ∧ (gv7 ((gv4 (0 + (i12.toNat * 1))) + (j14.toNat * 1))) < (table0 : Int) then (if (0 : Int) ≤ k15 ∧ k15 < (((gv5 (0 + (((gv7 ((gv4 (0 + (i12.toNat * 1))) + (j14.toNat * 1)))).toNat * 1))) : Nat) : Int) then (if (0 : Int) ≤ i12 ∧ i12 < (table0 : Int) then (if (0 : Int) ≤ j14 ∧ j14 < (table0 : Int) then (if (0 : Int) ≤ k15 ∧ k15 < (((gv5 (0 + (j14.toNat * 1))) : Nat) : Int) then (if (0 : Int) ≤ (gv7 ((gv4 (0 + (j14.toNat * 1))) + (k15.toNat * 1))) ∧ (gv7 ((gv4 (0 + (j14.toNat * 1))) + (k15.toNat * 1))) < (((gv5 (0 + (i12.toNat * 1))) : Nat) : Int) then (if ((gv7 ((gv4 (0 + (((gv7 ((gv4 (0 + (i12.toNat * 1))) + (j14.toNat * 1)))).toNat * 1))) + (k15.toNat * 1))) != (gv7 ((gv4 (0 + (i12.toNat * 1))) + (((gv7 ((gv4 (0 + (j14.toNat * 1))) + (k15.toNat * 1)))).toNat * 1)))) = true then (K0 false) else (rec ((IntKind.i64.wrap (k15 + 1))))) else none) else none) else none) else none) else none) else none) else none) else none) else out0)

noncomputable def spec_l04Is_sh.a4_0 {ρ : Type} (N : Nat) (K0 : Bool → Option ρ) (rec : Bool → Int → Option ρ) (out0 : Bool → Option ρ) (j14 : Int) : Option ρ :=
  (rec true ((IntKind.i64.wrap (j14 + 1))))

noncomputable def spec_l04Is_sh.b5 {ρ : Type} (N : Nat) (K0 : Bool → Option ρ) (rec : Int → Option ρ) (out0 : Option ρ) (table0 : Nat) (gv4 : Nat → Nat) (gv5 : Nat → Nat) (gv7 : Nat → Int) (i12 : Int) (j14 : Int) (k16 : Int) : Option ρ :=
  (if (decide (k16 < (table0 : Int))) = true then (if (0 : Int) ≤ i12 ∧ i12 < (table0 : Int) then (if (0 : Int) ≤ j14 ∧ j14 < (((gv5 (0 + (i12.toNat * 1))) : Nat) : Int) then (if (0 : Int) ≤ (gv7 ((gv4 (0 + (i12.toNat * 1))) + (j14.toNat * 1))) ∧ (gv7 ((gv4 (0 + (i12.toNat * 1))) + (j14.toNat * 1))) < (table0 : Int) then (if (0 : Int) ≤ k16 ∧ k16 < (((gv5 (0 + (((gv7 ((gv4 (0 + (i12.toNat * 1))) + (j14.toNat * 1)))).toNat * 1))) : Nat) : Int) then (if (0 : Int) ≤ i12 ∧ i12 < (table0 : Int) then (if (0 : Int) ≤ j14 ∧ j14 < (table0 : Int) then (if (0 : Int) ≤ k16 ∧ k16 < (((gv5 (0 + (j14.toNat * 1))) : Nat) : Int) then (if (0 : Int) ≤ (gv7 ((gv4 (0 + (j14.toNat * 1))) + (k16.toNat * 1))) ∧ (gv7 ((gv4 (0 + (j14.toNat * 1))) + (k16.toNat * 1))) < (((gv5 (0 + (i12.toNat * 1))) : Nat) : Int) then (if ((gv7 ((gv4 (0 + (((gv7 ((gv4 (0 + (i12.toNat * 1))) + (j14.toNat * 1)))).toNat * 1))) + (k16.toNat * 1))) != (gv7 ((gv4 (0 + (i12.toNat * 1))) + (((gv7 ((gv4 (0 + (j14.toNat * 1))) + (k16.toNat * 1)))).toNat * 1)))) = true then (K0 false) else (rec ((IntKind.i64.wrap (k16 + 1))))) else none) else none) else none) else none) else none) else none) else none) else none) else out0)

noncomputable def spec_l04Is_sh.a5_0 {ρ : Type} (N : Nat) (K0 : Bool → Option ρ) (rec : Bool → Int → Option ρ) (out0 : Bool → Option ρ) (gv4 : Nat → Nat) (gv7 : Nat → Int) (i12 : Int) (j14 : Int) : Option ρ :=
  (rec (((gv7 ((gv4 (0 + (j14.toNat * 1))) + (i12.toNat * 1))) == 0)) ((IntKind.i64.wrap (j14 + 1))))

noncomputable def spec_l04Is_sh.b6 {ρ : Type} (N : Nat) (K0 : Bool → Option ρ) (rec : Int → Option ρ) (out0 : Option ρ) (table0 : Nat) (gv4 : Nat → Nat) (gv5 : Nat → Nat) (gv7 : Nat → Int) (i12 : Int) (j14 : Int) (k17 : Int) : Option ρ :=
  (if (decide (k17 < (table0 : Int))) = true then (if (0 : Int) ≤ i12 ∧ i12 < (table0 : Int) then (if (0 : Int) ≤ j14 ∧ j14 < (((gv5 (0 + (i12.toNat * 1))) : Nat) : Int) then (if (0 : Int) ≤ (gv7 ((gv4 (0 + (i12.toNat * 1))) + (j14.toNat * 1))) ∧ (gv7 ((gv4 (0 + (i12.toNat * 1))) + (j14.toNat * 1))) < (table0 : Int) then (if (0 : Int) ≤ k17 ∧ k17 < (((gv5 (0 + (((gv7 ((gv4 (0 + (i12.toNat * 1))) + (j14.toNat * 1)))).toNat * 1))) : Nat) : Int) then (if (0 : Int) ≤ i12 ∧ i12 < (table0 : Int) then (if (0 : Int) ≤ j14 ∧ j14 < (table0 : Int) then (if (0 : Int) ≤ k17 ∧ k17 < (((gv5 (0 + (j14.toNat * 1))) : Nat) : Int) then (if (0 : Int) ≤ (gv7 ((gv4 (0 + (j14.toNat * 1))) + (k17.toNat * 1))) ∧ (gv7 ((gv4 (0 + (j14.toNat * 1))) + (k17.toNat * 1))) < (((gv5 (0 + (i12.toNat * 1))) : Nat) : Int) then (if ((gv7 ((gv4 (0 + (((gv7 ((gv4 (0 + (i12.toNat * 1))) + (j14.toNat * 1)))).toNat * 1))) + (k17.toNat * 1))) != (gv7 ((gv4 (0 + (i12.toNat * 1))) + (((gv7 ((gv4 (0 + (j14.toNat * 1))) + (k17.toNat * 1)))).toNat * 1)))) = true then (K0 false) else (rec ((IntKind.i64.wrap (k17 + 1))))) else none) else none) else none) else none) else none) else none) else none) else none) else out0)

noncomputable def spec_l04Is_sh.a6_0 {ρ : Type} (N : Nat) (K0 : Bool → Option ρ) (rec : Bool → Int → Option ρ) (out0 : Bool → Option ρ) (j14 : Int) : Option ρ :=
  (rec false ((IntKind.i64.wrap (j14 + 1))))

noncomputable def spec_l04Is_sh.b3 {ρ : Type} (N : Nat) (K0 : Bool → Option ρ) (lp4 : Int → Option ρ) (lp5 : Int → Option ρ) (lp6 : Int → Option ρ) (rec : Bool → Int → Option ρ) (out0 : Bool → Option ρ) (table0 : Nat) (gv4 : Nat → Nat) (gv5 : Nat → Nat) (gv7 : Nat → Int) (i12 : Int) (inverse13 : Bool) (j14 : Int) : Option ρ :=
  (if (decide (j14 < (table0 : Int))) = true then (if inverse13 = true then (lp4 0) else (if (0 : Int) ≤ i12 ∧ i12 < (table0 : Int) then (if (0 : Int) ≤ j14 ∧ j14 < (((gv5 (0 + (i12.toNat * 1))) : Nat) : Int) then (if ((gv7 ((gv4 (0 + (i12.toNat * 1))) + (j14.toNat * 1))) == 0) = true then (if (0 : Int) ≤ j14 ∧ j14 < (table0 : Int) then (if (0 : Int) ≤ i12 ∧ i12 < (((gv5 (0 + (j14.toNat * 1))) : Nat) : Int) then (lp5 0) else none) else none) else (lp6 0)) else none) else none)) else (out0 (inverse13)))

noncomputable def spec_l04Is_sh.a3_0 {ρ : Type} (N : Nat) (K0 : Bool → Option ρ) (rec : Int → Option ρ) (out0 : Option ρ) (table0 : Nat) (gv4 : Nat → Nat) (gv5 : Nat → Nat) (gv7 : Nat → Int) (i12 : Int) (ov18 : Bool) : Option ρ :=
  (if (!ov18) = true then (K0 false) else (if (0 : Int) ≤ 0 ∧ 0 < (table0 : Int) then (if (0 : Int) ≤ i12 ∧ i12 < (((gv5 0) : Nat) : Int) then (if ((gv7 ((gv4 0) + (i12.toNat * 1))) != i12) = true then (K0 false) else (if (0 : Int) ≤ i12 ∧ i12 < (table0 : Int) then (if (0 : Int) ≤ 0 ∧ 0 < (((gv5 (0 + (i12.toNat * 1))) : Nat) : Int) then (if ((gv7 ((gv4 (0 + (i12.toNat * 1))) + 0)) != i12) = true then (K0 false) else (rec ((IntKind.i64.wrap (i12 + 1))))) else none) else none)) else none) else none))

noncomputable def spec_l04Is_sh.b2 {ρ : Type} (N : Nat) (K0 : Bool → Option ρ) (lp3 : Bool → Int → Option ρ) (rec : Int → Option ρ) (out0 : Option ρ) (table0 : Nat) (i12 : Int) : Option ρ :=
  (if (decide (i12 < (table0 : Int))) = true then (lp3 false 0) else out0)

noncomputable def spec_l04Is_sh.a2_0 {ρ : Type} (N : Nat) (K0 : Bool → Option ρ) : Option ρ :=
  (K0 true)

noncomputable def spec_l04Is_sh.b0 {ρ : Type} (N : Nat) (K0 : Bool → Option ρ) (lp1 : Int → Option ρ) (rec : Int → Option ρ) (out0 : Option ρ) (table0 : Nat) (gv5 : Nat → Nat) (i9 : Int) : Option ρ :=
  (if (decide (i9 < (table0 : Int))) = true then (if (0 : Int) ≤ i9 ∧ i9 < (table0 : Int) then (if ((((gv5 (0 + (i9.toNat * 1))) : Nat) : Int) != (table0 : Int)) = true then (K0 false) else (lp1 0)) else none) else out0)

noncomputable def spec_l04Is_sh.a0_0 {ρ : Type} (N : Nat) (K0 : Bool → Option ρ) (lp2 : Int → Option ρ) : Option ρ :=
  (lp2 0)

noncomputable def spec_l04Is_sh.l1 {ρ : Type} (N : Nat) (K0 : Bool → Option ρ) (table0 : Nat) (gv4 : Nat → Nat) (gv5 : Nat → Nat) (gv7 : Nat → Int) (i9 : Int) (out0 : Option ρ) : Nat → Int → Option ρ
  | 0, _ => none
  | m + 1, j10 => (spec_l04Is_sh.b1 N K0 ((spec_l04Is_sh.l1 N K0 table0 gv4 gv5 gv7 i9 out0 m)) out0 table0 gv4 gv5 gv7 i9 j10)

noncomputable def spec_l04Is_sh.l4 {ρ : Type} (N : Nat) (K0 : Bool → Option ρ) (table0 : Nat) (gv4 : Nat → Nat) (gv5 : Nat → Nat) (gv7 : Nat → Int) (i12 : Int) (j14 : Int) (out0 : Option ρ) : Nat → Int → Option ρ
  | 0, _ => none
  | m + 1, k15 => (spec_l04Is_sh.b4 N K0 ((spec_l04Is_sh.l4 N K0 table0 gv4 gv5 gv7 i12 j14 out0 m)) out0 table0 gv4 gv5 gv7 i12 j14 k15)

noncomputable def spec_l04Is_sh.l5 {ρ : Type} (N : Nat) (K0 : Bool → Option ρ) (table0 : Nat) (gv4 : Nat → Nat) (gv5 : Nat → Nat) (gv7 : Nat → Int) (i12 : Int) (j14 : Int) (out0 : Option ρ) : Nat → Int → Option ρ
  | 0, _ => none
  | m + 1, k16 => (spec_l04Is_sh.b5 N K0 ((spec_l04Is_sh.l5 N K0 table0 gv4 gv5 gv7 i12 j14 out0 m)) out0 table0 gv4 gv5 gv7 i12 j14 k16)

noncomputable def spec_l04Is_sh.l6 {ρ : Type} (N : Nat) (K0 : Bool → Option ρ) (table0 : Nat) (gv4 : Nat → Nat) (gv5 : Nat → Nat) (gv7 : Nat → Int) (i12 : Int) (j14 : Int) (out0 : Option ρ) : Nat → Int → Option ρ
  | 0, _ => none
  | m + 1, k17 => (spec_l04Is_sh.b6 N K0 ((spec_l04Is_sh.l6 N K0 table0 gv4 gv5 gv7 i12 j14 out0 m)) out0 table0 gv4 gv5 gv7 i12 j14 k17)

noncomputable def spec_l04Is_sh.l3 {ρ : Type} (N : Nat) (K0 : Bool → Option ρ) (table0 : Nat) (gv4 : Nat → Nat) (gv5 : Nat → Nat) (gv7 : Nat → Int) (i12 : Int) (out0 : Bool → Option ρ) : Nat → Bool → Int → Option ρ
  | 0, _, _ => none
  | m + 1, inverse13, j14 => (spec_l04Is_sh.b3 N K0 (fun k15 => (spec_l04Is_sh.l4 N K0 table0 gv4 gv5 gv7 i12 j14 (spec_l04Is_sh.a4_0 N K0 (spec_l04Is_sh.l3 N K0 table0 gv4 gv5 gv7 i12 out0 m) out0 j14) N k15)) (fun k16 => (spec_l04Is_sh.l5 N K0 table0 gv4 gv5 gv7 i12 j14 (spec_l04Is_sh.a5_0 N K0 (spec_l04Is_sh.l3 N K0 table0 gv4 gv5 gv7 i12 out0 m) out0 gv4 gv7 i12 j14) N k16)) (fun k17 => (spec_l04Is_sh.l6 N K0 table0 gv4 gv5 gv7 i12 j14 (spec_l04Is_sh.a6_0 N K0 (spec_l04Is_sh.l3 N K0 table0 gv4 gv5 gv7 i12 out0 m) out0 j14) N k17)) ((spec_l04Is_sh.l3 N K0 table0 gv4 gv5 gv7 i12 out0 m)) out0 table0 gv4 gv5 gv7 i12 inverse13 j14)

noncomputable def spec_l04Is_sh.l2 {ρ : Type} (N : Nat) (K0 : Bool → Option ρ) (table0 : Nat) (gv4 : Nat → Nat) (gv5 : Nat → Nat) (gv7 : Nat → Int) (out0 : Option ρ) : Nat → Int → Option ρ
  | 0, _ => none
  | m + 1, i12 => (spec_l04Is_sh.b2 N K0 (fun inverse13 j14 => (spec_l04Is_sh.l3 N K0 table0 gv4 gv5 gv7 i12 (fun ov18 => (spec_l04Is_sh.a3_0 N K0 (spec_l04Is_sh.l2 N K0 table0 gv4 gv5 gv7 out0 m) out0 table0 gv4 gv5 gv7 i12 ov18)) N inverse13 j14)) ((spec_l04Is_sh.l2 N K0 table0 gv4 gv5 gv7 out0 m)) out0 table0 i12)

noncomputable def spec_l04Is_sh.l0 {ρ : Type} (N : Nat) (K0 : Bool → Option ρ) (table0 : Nat) (gv4 : Nat → Nat) (gv5 : Nat → Nat) (gv7 : Nat → Int) (out0 : Option ρ) : Nat → Int → Option ρ
  | 0, _ => none
  | m + 1, i9 => (spec_l04Is_sh.b0 N K0 (fun j10 => (spec_l04Is_sh.l1 N K0 table0 gv4 gv5 gv7 i9 (spec_l04Is_sh.a1_0 N K0 (spec_l04Is_sh.l0 N K0 table0 gv4 gv5 gv7 out0 m) out0 i9) N j10)) ((spec_l04Is_sh.l0 N K0 table0 gv4 gv5 gv7 out0 m)) out0 table0 gv5 i9)

noncomputable def spec_l04Is_sh.s {ρ : Type} (N : Nat) (K0 : Bool → Option ρ) (lp0 : Int → Option ρ) (table0 : Nat) : Option ρ :=
  (spec_l01In N (fun rv8 => (if (!rv8) = true then (K0 false) else (lp0 0))) ((table0 : Int)) 1 8)

noncomputable def spec_l04Is_sh {ρ : Type} (N : Nat) (K0 : Bool → Option ρ) (table0 : Nat) (table1 : Nat) (gv2 : Nat) (gv3 : Nat) (gv4 : Nat → Nat) (gv5 : Nat → Nat) (gv6 : Nat → Nat) (gv7 : Nat → Int) : Option ρ :=
  (spec_l04Is_sh.s N K0 (fun i9 => (spec_l04Is_sh.l0 N K0 table0 gv4 gv5 gv7 (spec_l04Is_sh.a0_0 N K0 (fun i12 => (spec_l04Is_sh.l2 N K0 table0 gv4 gv5 gv7 (spec_l04Is_sh.a2_0 N K0) N i12))) N i9)) table0)

noncomputable def spec_l04Product_shsh.b1 {ρ : Type} (N : Nat) (K0 : Nat → Nat → (Nat → Nat) → (Nat → Nat) → (Nat → Int) → Option ρ) (rec : Nat → Int → (Nat → Int) → Option ρ) (out0 : Nat → (Nat → Int) → Option ρ) (table0 : Nat) (other2 : Nat) (gv6 : Nat → Nat) (gv7 : Nat → Nat) (gv11 : Nat → Nat) (gv12 : Nat → Nat) (gv14 : Nat → Int) (gv15 : Nat → Int) (i17 : Int) (row22 : Nat) (j23 : Int) (gv24 : Nat → Int) : Option ρ :=
  (if (decide (j23 < (IntKind.i64.wrap ((table0 : Int) * (other2 : Int))))) = true then (if (other2 : Int) = 0 then none else (if (0 : Int) ≤ (IntKind.i64.wrap (Int.tdiv i17 (other2 : Int))) ∧ (IntKind.i64.wrap (Int.tdiv i17 (other2 : Int))) < (table0 : Int) then (if (other2 : Int) = 0 then none else (if (0 : Int) ≤ (IntKind.i64.wrap (Int.tdiv j23 (other2 : Int))) ∧ (IntKind.i64.wrap (Int.tdiv j23 (other2 : Int))) < (((gv7 (0 + (((IntKind.i64.wrap (Int.tdiv i17 (other2 : Int)))).toNat * 1))) : Nat) : Int) then (if (other2 : Int) = 0 then none else (if (0 : Int) ≤ (Int.tmod i17 (other2 : Int)) ∧ (Int.tmod i17 (other2 : Int)) < (other2 : Int) then (if (other2 : Int) = 0 then none else (if (0 : Int) ≤ (Int.tmod j23 (other2 : Int)) ∧ (Int.tmod j23 (other2 : Int)) < (((gv12 (0 + (((Int.tmod i17 (other2 : Int))).toNat * 1))) : Nat) : Int) then (if (row22 + 1) * 8 ≤ 140737488355328 then (rec (row22 + 1) ((IntKind.i64.wrap (j23 + 1))) (joinN (row22 * 1) gv24 (upd (fun _ => 0) 0 (IntKind.i64.wrap ((IntKind.i64.wrap ((other2 : Int) * (gv14 ((gv6 (0 + (((IntKind.i64.wrap (Int.tdiv i17 (other2 : Int)))).toNat * 1))) + (((IntKind.i64.wrap (Int.tdiv j23 (other2 : Int)))).toNat * 1))))) + (gv15 ((gv11 (0 + (((Int.tmod i17 (other2 : Int))).toNat * 1))) + (((Int.tmod j23 (other2 : Int))).toNat * 1)))))))) else none) else none)) else none)) else none)) else none)) else (out0 row22 gv24))

noncomputable def spec_l04Product_shsh.a1_0 {ρ : Type} (N : Nat) (K0 : Nat → Nat → (Nat → Nat) → (Nat → Nat) → (Nat → Int) → Option ρ) (rec : Nat → Int → Nat → (Nat → Nat) → (Nat → Nat) → (Nat → Int) → Option ρ) (out0 : Nat → Nat → (Nat → Nat) → (Nat → Nat) → (Nat → Int) → Option ρ) (outv16 : Nat) (i17 : Int) (gv18 : Nat) (gv19 : Nat → Nat) (gv20 : Nat → Nat) (gv21 : Nat → Int) (ov25 : Nat) (ov26 : Nat → Int) : Option ρ :=
  (if (outv16 + 1) * 24 ≤ 140737488355328 then (rec (outv16 + 1) ((IntKind.i64.wrap (i17 + 1))) (gv18 + ov25) (upd gv19 outv16 gv18) (upd gv20 outv16 ov25) (joinN gv18 gv21 ov26)) else none)

noncomputable def spec_l04Product_shsh.b0 {ρ : Type} (N : Nat) (K0 : Nat → Nat → (Nat → Nat) → (Nat → Nat) → (Nat → Int) → Option ρ) (lp1 : Nat → Int → (Nat → Int) → Option ρ) (rec : Nat → Int → Nat → (Nat → Nat) → (Nat → Nat) → (Nat → Int) → Option ρ) (out0 : Nat → Nat → (Nat → Nat) → (Nat → Nat) → (Nat → Int) → Option ρ) (table0 : Nat) (other2 : Nat) (outv16 : Nat) (i17 : Int) (gv18 : Nat) (gv19 : Nat → Nat) (gv20 : Nat → Nat) (gv21 : Nat → Int) : Option ρ :=
  (if (decide (i17 < (IntKind.i64.wrap ((table0 : Int) * (other2 : Int))))) = true then (lp1 0 0 (fun _ => 0)) else (out0 outv16 gv18 gv19 gv20 gv21))

noncomputable def spec_l04Product_shsh.a0_0 {ρ : Type} (N : Nat) (K0 : Nat → Nat → (Nat → Nat) → (Nat → Nat) → (Nat → Int) → Option ρ) (ov27 : Nat) (ov28 : Nat) (ov29 : Nat → Nat) (ov30 : Nat → Nat) (ov31 : Nat → Int) : Option ρ :=
  (K0 ov27 ov28 ov29 ov30 ov31)

noncomputable def spec_l04Product_shsh.l1 {ρ : Type} (N : Nat) (K0 : Nat → Nat → (Nat → Nat) → (Nat → Nat) → (Nat → Int) → Option ρ) (table0 : Nat) (other2 : Nat) (gv6 : Nat → Nat) (gv7 : Nat → Nat) (gv11 : Nat → Nat) (gv12 : Nat → Nat) (gv14 : Nat → Int) (gv15 : Nat → Int) (i17 : Int) (out0 : Nat → (Nat → Int) → Option ρ) : Nat → Nat → Int → (Nat → Int) → Option ρ
  | 0, _, _, _ => none
  | m + 1, row22, j23, gv24 => (spec_l04Product_shsh.b1 N K0 ((spec_l04Product_shsh.l1 N K0 table0 other2 gv6 gv7 gv11 gv12 gv14 gv15 i17 out0 m)) out0 table0 other2 gv6 gv7 gv11 gv12 gv14 gv15 i17 row22 j23 gv24)

noncomputable def spec_l04Product_shsh.l0 {ρ : Type} (N : Nat) (K0 : Nat → Nat → (Nat → Nat) → (Nat → Nat) → (Nat → Int) → Option ρ) (table0 : Nat) (other2 : Nat) (gv6 : Nat → Nat) (gv7 : Nat → Nat) (gv11 : Nat → Nat) (gv12 : Nat → Nat) (gv14 : Nat → Int) (gv15 : Nat → Int) (out0 : Nat → Nat → (Nat → Nat) → (Nat → Nat) → (Nat → Int) → Option ρ) : Nat → Nat → Int → Nat → (Nat → Nat) → (Nat → Nat) → (Nat → Int) → Option ρ
  | 0, _, _, _, _, _, _ => none
  | m + 1, outv16, i17, gv18, gv19, gv20, gv21 => (spec_l04Product_shsh.b0 N K0 (fun row22 j23 gv24 => (spec_l04Product_shsh.l1 N K0 table0 other2 gv6 gv7 gv11 gv12 gv14 gv15 i17 (fun ov25 ov26 => (spec_l04Product_shsh.a1_0 N K0 (spec_l04Product_shsh.l0 N K0 table0 other2 gv6 gv7 gv11 gv12 gv14 gv15 out0 m) out0 outv16 i17 gv18 gv19 gv20 gv21 ov25 ov26)) N row22 j23 gv24)) ((spec_l04Product_shsh.l0 N K0 table0 other2 gv6 gv7 gv11 gv12 gv14 gv15 out0 m)) out0 table0 other2 outv16 i17 gv18 gv19 gv20 gv21)

noncomputable def spec_l04Product_shsh.s {ρ : Type} (N : Nat) (K0 : Nat → Nat → (Nat → Nat) → (Nat → Nat) → (Nat → Int) → Option ρ) (lp0 : Nat → Int → Nat → (Nat → Nat) → (Nat → Nat) → (Nat → Int) → Option ρ) : Option ρ :=
  (lp0 0 0 0 (fun _ => 0) (fun _ => 0) (fun _ => 0))

noncomputable def spec_l04Product_shsh {ρ : Type} (N : Nat) (K0 : Nat → Nat → (Nat → Nat) → (Nat → Nat) → (Nat → Int) → Option ρ) (table0 : Nat) (table1 : Nat) (other2 : Nat) (other3 : Nat) (gv4 : Nat) (gv5 : Nat) (gv6 : Nat → Nat) (gv7 : Nat → Nat) (gv8 : Nat → Nat) (gv9 : Nat) (gv10 : Nat) (gv11 : Nat → Nat) (gv12 : Nat → Nat) (gv13 : Nat → Nat) (gv14 : Nat → Int) (gv15 : Nat → Int) : Option ρ :=
  (spec_l04Product_shsh.s N K0 (fun outv16 i17 gv18 gv19 gv20 gv21 => (spec_l04Product_shsh.l0 N K0 table0 other2 gv6 gv7 gv11 gv12 gv14 gv15 (fun ov27 ov28 ov29 ov30 ov31 => (spec_l04Product_shsh.a0_0 N K0 ov27 ov28 ov29 ov30 ov31)) N outv16 i17 gv18 gv19 gv20 gv21)))

noncomputable def spec_ProductOfTables_shsh {ρ : Type} (N : Nat) (K0 : Nat → Int → Nat → (Nat → Nat) → (Nat → Nat) → (Nat → Int) → Option ρ) (table0 : Nat) (table1 : Nat) (other2 : Nat) (other3 : Nat) (gv4 : Nat) (gv5 : Nat) (gv6 : Nat → Nat) (gv7 : Nat → Nat) (gv8 : Nat → Nat) (gv9 : Nat) (gv10 : Nat) (gv11 : Nat → Nat) (gv12 : Nat → Nat) (gv13 : Nat → Nat) (gv14 : Nat → Int) (gv15 : Nat → Int) : Option ρ :=
  (spec_l04Is_sh N (fun rv16 => (if (!rv16) = true then (K0 0 1 0 (fun _ => 0) (fun _ => 0) (fun _ => 0)) else (spec_l04Is_sh N (fun rv17 => (if (!rv17) = true then (K0 0 1 0 (fun _ => 0) (fun _ => 0) (fun _ => 0)) else (if (decide ((IntKind.i64.wrap ((table0 : Int) * (other2 : Int))) > 8)) = true then (K0 0 3 0 (fun _ => 0) (fun _ => 0) (fun _ => 0)) else (spec_l04Product_shsh N (fun rv18 rv19 rv20 rv21 rv22 => (K0 rv18 0 rv19 rv20 rv21 rv22)) table0 table1 other2 other3 (table1 * 1) gv5 (offN 0 gv6) (offN 0 gv7) (offN 0 gv8) (other3 * 1) gv10 (offN 0 gv11) (offN 0 gv12) (offN 0 gv13) gv14 gv15)))) other2 other3 (other3 * 1) gv10 (offN 0 gv11) (offN 0 gv12) (offN 0 gv13) gv15))) table0 table1 (table1 * 1) gv5 (offN 0 gv6) (offN 0 gv7) (offN 0 gv8) gv14)

noncomputable def impl_in {ρ : Type} (N : Nat) (K0 : Bool → Option ρ) (x0 : Int) (least1 : Int) (most2 : Int) : Option ρ :=
  (if (decide (least1 ≤ x0)) = true then (K0 ((decide (x0 ≤ most2)))) else (K0 false))

noncomputable def impl_isRows_c1 {ρ : Type} (N : Nat) (K0 : Bool → Option ρ) (x0 : Int) (gv1 : Nat → Int) : Option ρ :=
  (impl_in N (fun rv2 => (K0 ((!rv2)))) x0 0 ((IntKind.i64.wrap ((gv1 0) - 1))))

noncomputable def slices_IndexFunc_sf.b0 {ρ : Type} (N : Nat) (K0 : Int → Option ρ) (rec : Int → Option ρ) (out0 : Option ρ) (s0 : Nat) (gv3 : Nat → Int) (gv4 : Nat → Int) (x5 : Int) : Option ρ :=
  (if (decide (x5 < (s0 : Int))) = true then (if (0 : Int) ≤ x5 ∧ x5 < (s0 : Int) then (impl_isRows_c1 N (fun rv6 => (if rv6 = true then (K0 x5) else (rec ((IntKind.i64.wrap (x5 + 1)))))) ((gv3 (0 + (x5.toNat * 1)))) gv4) else none) else out0)

noncomputable def slices_IndexFunc_sf.a0_0 {ρ : Type} (N : Nat) (K0 : Int → Option ρ) : Option ρ :=
  (K0 (-1))

noncomputable def slices_IndexFunc_sf.l0 {ρ : Type} (N : Nat) (K0 : Int → Option ρ) (s0 : Nat) (gv3 : Nat → Int) (gv4 : Nat → Int) (out0 : Option ρ) : Nat → Int → Option ρ
  | 0, _ => none
  | m + 1, x5 => (slices_IndexFunc_sf.b0 N K0 ((slices_IndexFunc_sf.l0 N K0 s0 gv3 gv4 out0 m)) out0 s0 gv3 gv4 x5)

noncomputable def slices_IndexFunc_sf.s {ρ : Type} (N : Nat) (K0 : Int → Option ρ) (lp0 : Int → Option ρ) : Option ρ :=
  (lp0 0)

noncomputable def slices_IndexFunc_sf {ρ : Type} (N : Nat) (K0 : Int → Option ρ) (s0 : Nat) (s1 : Nat) (gv2 : Nat) (gv3 : Nat → Int) (gv4 : Nat → Int) : Option ρ :=
  (slices_IndexFunc_sf.s N K0 (fun x5 => (slices_IndexFunc_sf.l0 N K0 s0 gv3 gv4 (slices_IndexFunc_sf.a0_0 N K0) N x5)))

noncomputable def slices_ContainsFunc_sf {ρ : Type} (N : Nat) (K0 : Bool → Option ρ) (s0 : Nat) (s1 : Nat) (gv2 : Nat) (gv3 : Nat → Int) (gv4 : Nat → Int) : Option ρ :=
  (slices_IndexFunc_sf N (fun rv5 => (K0 ((decide (rv5 ≥ 0))))) s0 s1 (s1 * 1) (fun z => (gv3 (0 + z))) gv4)

noncomputable def impl_isRows_sh.b0 {ρ : Type} (N : Nat) (K0 : Bool → Option ρ) (rec : Int → Option ρ) (out0 : Option ρ) (table0 : Nat) (gv4 : Nat → Nat) (gv5 : Nat → Nat) (gv6 : Nat → Nat) (gv7 : Nat → Int) (x9 : Int) : Option ρ :=
  (if (decide (x9 < (table0 : Int))) = true then (if (0 : Int) ≤ x9 ∧ x9 < (table0 : Int) then (if ((((gv5 (0 + (x9.toNat * 1))) : Nat) : Int) != (table0 : Int)) = true then (K0 false) else (slices_ContainsFunc_sf N (fun rv10 => (if rv10 = true then (K0 false) else (rec ((IntKind.i64.wrap (x9 + 1)))))) (gv5 (0 + (x9.toNat * 1))) (gv6 (0 + (x9.toNat * 1))) ((gv6 (0 + (x9.toNat * 1))) * 1) (fun z => (gv7 ((gv4 (0 + (x9.toNat * 1))) + z))) (fun _ => (table0 : Int)))) else none) else out0)

noncomputable def impl_isRows_sh.a0_0 {ρ : Type} (N : Nat) (K0 : Bool → Option ρ) : Option ρ :=
  (K0 true)

noncomputable def impl_isRows_sh.l0 {ρ : Type} (N : Nat) (K0 : Bool → Option ρ) (table0 : Nat) (gv4 : Nat → Nat) (gv5 : Nat → Nat) (gv6 : Nat → Nat) (gv7 : Nat → Int) (out0 : Option ρ) : Nat → Int → Option ρ
  | 0, _ => none
  | m + 1, x9 => (impl_isRows_sh.b0 N K0 ((impl_isRows_sh.l0 N K0 table0 gv4 gv5 gv6 gv7 out0 m)) out0 table0 gv4 gv5 gv6 gv7 x9)

noncomputable def impl_isRows_sh.s {ρ : Type} (N : Nat) (K0 : Bool → Option ρ) (lp0 : Int → Option ρ) (table0 : Nat) : Option ρ :=
  (impl_in N (fun rv8 => (if (!rv8) = true then (K0 false) else (lp0 0))) ((table0 : Int)) 1 8)

noncomputable def impl_isRows_sh {ρ : Type} (N : Nat) (K0 : Bool → Option ρ) (table0 : Nat) (table1 : Nat) (gv2 : Nat) (gv3 : Nat) (gv4 : Nat → Nat) (gv5 : Nat → Nat) (gv6 : Nat → Nat) (gv7 : Nat → Int) : Option ρ :=
  (impl_isRows_sh.s N K0 (fun x9 => (impl_isRows_sh.l0 N K0 table0 gv4 gv5 gv6 gv7 (impl_isRows_sh.a0_0 N K0) N x9)) table0)

noncomputable def impl_inverseIn_sh.b0 {ρ : Type} (N : Nat) (K0 : Int → Option ρ) (rec : Int → Option ρ) (out0 : Option ρ) (table0 : Nat) (i2 : Int) (gv5 : Nat → Nat) (gv6 : Nat → Nat) (gv8 : Nat → Int) (x9 : Int) : Option ρ :=
  (if (decide (x9 < (table0 : Int))) = true then (if (0 : Int) ≤ i2 ∧ i2 < (table0 : Int) then (if (0 : Int) ≤ x9 ∧ x9 < (((gv6 (0 + (i2.toNat * 1))) : Nat) : Int) then (if ((gv8 ((gv5 (0 + (i2.toNat * 1))) + (x9.toNat * 1))) == 0) = true then (if (0 : Int) ≤ x9 ∧ x9 < (table0 : Int) then (if (0 : Int) ≤ i2 ∧ i2 < (((gv6 (0 + (x9.toNat * 1))) : Nat) : Int) then (if ((gv8 ((gv5 (0 + (x9.toNat * 1))) + (i2.toNat * 1))) == 0) = true then (K0 x9) else (rec ((IntKind.i64.wrap (x9 + 1))))) else none) else none) else (rec ((IntKind.i64.wrap (x9 + 1))))) else none) else none) else out0)

noncomputable def impl_inverseIn_sh.a0_0 {ρ : Type} (N : Nat) (K0 : Int → Option ρ) : Option ρ :=
  (K0 (-1))

noncomputable def impl_inverseIn_sh.l0 {ρ : Type} (N : Nat) (K0 : Int → Option ρ) (table0 : Nat) (i2 : Int) (gv5 : Nat → Nat) (gv6 : Nat → Nat) (gv8 : Nat → Int) (out0 : Option ρ) : Nat → Int → Option ρ
  | 0, _ => none
  | m + 1, x9 => (impl_inverseIn_sh.b0 N K0 ((impl_inverseIn_sh.l0 N K0 table0 i2 gv5 gv6 gv8 out0 m)) out0 table0 i2 gv5 gv6 gv8 x9)

noncomputable def impl_inverseIn_sh.s {ρ : Type} (N : Nat) (K0 : Int → Option ρ) (lp0 : Int → Option ρ) : Option ρ :=
  (lp0 0)

noncomputable def impl_inverseIn_sh {ρ : Type} (N : Nat) (K0 : Int → Option ρ) (table0 : Nat) (table1 : Nat) (i2 : Int) (gv3 : Nat) (gv4 : Nat) (gv5 : Nat → Nat) (gv6 : Nat → Nat) (gv7 : Nat → Nat) (gv8 : Nat → Int) : Option ρ :=
  (impl_inverseIn_sh.s N K0 (fun x9 => (impl_inverseIn_sh.l0 N K0 table0 i2 gv5 gv6 gv8 (impl_inverseIn_sh.a0_0 N K0) N x9)))

noncomputable def impl_isGroupAt_sh.b1 {ρ : Type} (N : Nat) (K0 : Bool → Option ρ) (rec : Int → Option ρ) (out0 : Option ρ) (table0 : Nat) (i2 : Int) (gv5 : Nat → Nat) (gv6 : Nat → Nat) (gv8 : Nat → Int) (x9 : Int) (x10 : Int) : Option ρ :=
  (if (decide (x10 < (table0 : Int))) = true then (if (0 : Int) ≤ i2 ∧ i2 < (table0 : Int) then (if (0 : Int) ≤ x9 ∧ x9 < (((gv6 (0 + (i2.toNat * 1))) : Nat) : Int) then (if (0 : Int) ≤ (gv8 ((gv5 (0 + (i2.toNat * 1))) + (x9.toNat * 1))) ∧ (gv8 ((gv5 (0 + (i2.toNat * 1))) + (x9.toNat * 1))) < (table0 : Int) then (if (0 : Int) ≤ x10 ∧ x10 < (((gv6 (0 + (((gv8 ((gv5 (0 + (i2.toNat * 1))) + (x9.toNat * 1)))).toNat * 1))) : Nat) : Int) then (if (0 : Int) ≤ i2 ∧ i2 < (table0 : Int) then (if (0 : Int) ≤ x9 ∧ x9 < (table0 : Int) then (if (0 : Int) ≤ x10 ∧ x10 < (((gv6 (0 + (x9.toNat * 1))) : Nat) : Int) then (if (0 : Int) ≤ (gv8 ((gv5 (0 + (x9.toNat * 1))) + (x10.toNat * 1))) ∧ (gv8 ((gv5 (0 + (x9.toNat * 1))) + (x10.toNat * 1))) < (((gv6 (0 + (i2.toNat * 1))) : Nat) : Int) then (if ((gv8 ((gv5 (0 + (((gv8 ((gv5 (0 + (i2.toNat * 1))) + (x9.toNat * 1)))).toNat * 1))) + (x10.toNat * 1))) != (gv8 ((gv5 (0 + (i2.toNat * 1))) + (((gv8 ((gv5 (0 + (x9.toNat * 1))) + (x10.toNat * 1)))).toNat * 1)))) = true then (K0 false) else (rec ((IntKind.i64.wrap (x10 + 1))))) else none) else none) else none) else none) else none) else none) else none) else none) else out0)

noncomputable def impl_isGroupAt_sh.a1_0 {ρ : Type} (N : Nat) (K0 : Bool → Option ρ) (rec : Int → Option ρ) (out0 : Option ρ) (x9 : Int) : Option ρ :=
  (rec ((IntKind.i64.wrap (x9 + 1))))

noncomputable def impl_isGroupAt_sh.b0 {ρ : Type} (N : Nat) (K0 : Bool → Option ρ) (lp1 : Int → Option ρ) (rec : Int → Option ρ) (out0 : Option ρ) (table0 : Nat) (x9 : Int) : Option ρ :=
  (if (decide (x9 < (table0 : Int))) = true then (lp1 0) else out0)

noncomputable def impl_isGroupAt_sh.a0_0 {ρ : Type} (N : Nat) (K0 : Bool → Option ρ) (table0 : Nat) (table1 : Nat) (i2 : Int) (gv4 : Nat) (gv5 : Nat → Nat) (gv6 : Nat → Nat) (gv7 : Nat → Nat) (gv8 : Nat → Int) : Option ρ :=
  (impl_inverseIn_sh N (fun rv11 => (K0 ((decide (rv11 ≥ 0))))) table0 table1 i2 (table1 * 1) gv4 (offN 0 gv5) (offN 0 gv6) (offN 0 gv7) gv8)

noncomputable def impl_isGroupAt_sh.l1 {ρ : Type} (N : Nat) (K0 : Bool → Option ρ) (table0 : Nat) (i2 : Int) (gv5 : Nat → Nat) (gv6 : Nat → Nat) (gv8 : Nat → Int) (x9 : Int) (out0 : Option ρ) : Nat → Int → Option ρ
  | 0, _ => none
  | m + 1, x10 => (impl_isGroupAt_sh.b1 N K0 ((impl_isGroupAt_sh.l1 N K0 table0 i2 gv5 gv6 gv8 x9 out0 m)) out0 table0 i2 gv5 gv6 gv8 x9 x10)

noncomputable def impl_isGroupAt_sh.l0 {ρ : Type} (N : Nat) (K0 : Bool → Option ρ) (table0 : Nat) (i2 : Int) (gv5 : Nat → Nat) (gv6 : Nat → Nat) (gv8 : Nat → Int) (out0 : Option ρ) : Nat → Int → Option ρ
  | 0, _ => none
  | m + 1, x9 => (impl_isGroupAt_sh.b0 N K0 (fun x10 => (impl_isGroupAt_sh.l1 N K0 table0 i2 gv5 gv6 gv8 x9 (impl_isGroupAt_sh.a1_0 N K0 (impl_isGroupAt_sh.l0 N K0 table0 i2 gv5 gv6 gv8 out0 m) out0 x9) N x10)) ((impl_isGroupAt_sh.l0 N K0 table0 i2 gv5 gv6 gv8 out0 m)) out0 table0 x9)

noncomputable def impl_isGroupAt_sh.s {ρ : Type} (N : Nat) (K0 : Bool → Option ρ) (lp0 : Int → Option ρ) (table0 : Nat) (i2 : Int) (gv5 : Nat → Nat) (gv6 : Nat → Nat) (gv8 : Nat → Int) : Option ρ :=
  (if (0 : Int) ≤ 0 ∧ 0 < (table0 : Int) then (if (0 : Int) ≤ i2 ∧ i2 < (((gv6 0) : Nat) : Int) then (if ((gv8 ((gv5 0) + (i2.toNat * 1))) != i2) = true then (K0 false) else (if (0 : Int) ≤ i2 ∧ i2 < (table0 : Int) then (if (0 : Int) ≤ 0 ∧ 0 < (((gv6 (0 + (i2.toNat * 1))) : Nat) : Int) then (if ((gv8 ((gv5 (0 + (i2.toNat * 1))) + 0)) != i2) = true then (K0 false) else (lp0 0)) else none) else none)) else none) else none)

noncomputable def impl_isGroupAt_sh {ρ : Type} (N : Nat) (K0 : Bool → Option ρ) (table0 : Nat) (table1 : Nat) (i2 : Int) (gv3 : Nat) (gv4 : Nat) (gv5 : Nat → Nat) (gv6 : Nat → Nat) (gv7 : Nat → Nat) (gv8 : Nat → Int) : Option ρ :=
  (impl_isGroupAt_sh.s N K0 (fun x9 => (impl_isGroupAt_sh.l0 N K0 table0 i2 gv5 gv6 gv8 (impl_isGroupAt_sh.a0_0 N K0 table0 table1 i2 gv4 gv5 gv6 gv7 gv8) N x9)) table0 i2 gv5 gv6 gv8)

noncomputable def impl_IsGroupTable_sh.b0 {ρ : Type} (N : Nat) (K0 : Bool → Option ρ) (rec : Int → Option ρ) (out0 : Option ρ) (table0 : Nat) (table1 : Nat) (gv3 : Nat) (gv4 : Nat → Nat) (gv5 : Nat → Nat) (gv6 : Nat → Nat) (gv7 : Nat → Int) (x9 : Int) : Option ρ :=
  (if (decide (x9 < (table0 : Int))) = true then (impl_isGroupAt_sh N (fun rv10 => (if (!rv10) = true then (K0 false) else (rec ((IntKind.i64.wrap (x9 + 1)))))) table0 table1 x9 (table1 * 1) gv3 (offN 0 gv4) (offN 0 gv5) (offN 0 gv6) gv7) else out0)

noncomputable def impl_IsGroupTable_sh.a0_0 {ρ : Type} (N : Nat) (K0 : Bool → Option ρ) : Option ρ :=
  (K0 true)

noncomputable def impl_IsGroupTable_sh.l0 {ρ : Type} (N : Nat) (K0 : Bool → Option ρ) (table0 : Nat) (table1 : Nat) (gv3 : Nat) (gv4 : Nat → Nat) (gv5 : Nat → Nat) (gv6 : Nat → Nat) (gv7 : Nat → Int) (out0 : Option ρ) : Nat → Int → Option ρ
  | 0, _ => none
  | m + 1, x9 => (impl_IsGroupTable_sh.b0 N K0 ((impl_IsGroupTable_sh.l0 N K0 table0 table1 gv3 gv4 gv5 gv6 gv7 out0 m)) out0 table0 table1 gv3 gv4 gv5 gv6 gv7 x9)

noncomputable def impl_IsGroupTable_sh.s {ρ : Type} (N : Nat) (K0 : Bool → Option ρ) (lp0 : Int → Option ρ) (table0 : Nat) (table1 : Nat) (gv3 : Nat) (gv4 : Nat → Nat) (gv5 : Nat → Nat) (gv6 : Nat → Nat) (gv7 : Nat → Int) : Option ρ :=
  (impl_isRows_sh N (fun rv8 => (if (!rv8) = true then (K0 false) else (lp0 0))) table0 table1 (table1 * 1) gv3 (offN 0 gv4) (offN 0 gv5) (offN 0 gv6) gv7)

noncomputable def impl_IsGroupTable_sh {ρ : Type} (N : Nat) (K0 : Bool → Option ρ) (table0 : Nat) (table1 : Nat) (gv2 : Nat) (gv3 : Nat) (gv4 : Nat → Nat) (gv5 : Nat → Nat) (gv6 : Nat → Nat) (gv7 : Nat → Int) : Option ρ :=
  (impl_IsGroupTable_sh.s N K0 (fun x9 => (impl_IsGroupTable_sh.l0 N K0 table0 table1 gv3 gv4 gv5 gv6 gv7 (impl_IsGroupTable_sh.a0_0 N K0) N x9)) table0 table1 gv3 gv4 gv5 gv6 gv7)

noncomputable def impl_unless {ρ : Type} (N : Nat) (K0 : Int → Option ρ) (so0 : Bool) (code1 : Int) : Option ρ :=
  (if so0 = true then (K0 0) else (K0 code1))

noncomputable def impl_first_s.b0 {ρ : Type} (N : Nat) (K0 : Int → Option ρ) (rec : Int → Option ρ) (out0 : Option ρ) (codes0 : Nat) (gv3 : Nat → Int) (x4 : Int) : Option ρ :=
  (if (decide (x4 < (codes0 : Int))) = true then (if (0 : Int) ≤ x4 ∧ x4 < (codes0 : Int) then (if ((gv3 (0 + (x4.toNat * 1))) != 0) = true then (K0 ((gv3 (0 + (x4.toNat * 1))))) else (rec ((IntKind.i64.wrap (x4 + 1))))) else none) else out0)

noncomputable def impl_first_s.a0_0 {ρ : Type} (N : Nat) (K0 : Int → Option ρ) : Option ρ :=
  (K0 0)

noncomputable def impl_first_s.l0 {ρ : Type} (N : Nat) (K0 : Int → Option ρ) (codes0 : Nat) (gv3 : Nat → Int) (out0 : Option ρ) : Nat → Int → Option ρ
  | 0, _ => none
  | m + 1, x4 => (impl_first_s.b0 N K0 ((impl_first_s.l0 N K0 codes0 gv3 out0 m)) out0 codes0 gv3 x4)

noncomputable def impl_first_s.s {ρ : Type} (N : Nat) (K0 : Int → Option ρ) (lp0 : Int → Option ρ) : Option ρ :=
  (lp0 0)

noncomputable def impl_first_s {ρ : Type} (N : Nat) (K0 : Int → Option ρ) (codes0 : Nat) (codes1 : Nat) (gv2 : Nat) (gv3 : Nat → Int) : Option ρ :=
  (impl_first_s.s N K0 (fun x4 => (impl_first_s.l0 N K0 codes0 gv3 (impl_first_s.a0_0 N K0) N x4)))

noncomputable def impl_productTable_c1 {ρ : Type} (N : Nat) (K0 : Int → Option ρ) (x0 : Int) (y1 : Int) (gv2 : Nat → Int) (gv3 : Nat) (gv4 : Nat) (gv5 : Nat) (gv6 : Nat) (gv7 : Nat) (gv8 : Nat) (gv9 : Nat → Nat) (gv10 : Nat → Nat) (gv11 : Nat → Nat) (gv12 : Nat) (gv13 : Nat) (gv14 : Nat → Nat) (gv15 : Nat → Nat) (gv16 : Nat → Nat) (gv17 : Nat → Int) (gv18 : Nat → Int) : Option ρ :=
  (if (gv2 0) = 0 then none else (if (0 : Int) ≤ (IntKind.i64.wrap (Int.tdiv x0 (gv2 0))) ∧ (IntKind.i64.wrap (Int.tdiv x0 (gv2 0))) < (gv3 : Int) then (if (gv2 0) = 0 then none else (if (0 : Int) ≤ (IntKind.i64.wrap (Int.tdiv y1 (gv2 0))) ∧ (IntKind.i64.wrap (Int.tdiv y1 (gv2 0))) < (((gv10 (0 + (((IntKind.i64.wrap (Int.tdiv x0 (gv2 0)))).toNat * 1))) : Nat) : Int) then (if (gv2 0) = 0 then none else (if (0 : Int) ≤ (Int.tmod x0 (gv2 0)) ∧ (Int.tmod x0 (gv2 0)) < (gv5 : Int) then (if (gv2 0) = 0 then none else (if (0 : Int) ≤ (Int.tmod y1 (gv2 0)) ∧ (Int.tmod y1 (gv2 0)) < (((gv15 (0 + (((Int.tmod x0 (gv2 0))).toNat * 1))) : Nat) : Int) then (K0 ((IntKind.i64.wrap ((IntKind.i64.wrap ((gv2 0) * (gv17 ((gv9 (0 + (((IntKind.i64.wrap (Int.tdiv x0 (gv2 0)))).toNat * 1))) + (((IntKind.i64.wrap (Int.tdiv y1 (gv2 0)))).toNat * 1))))) + (gv18 ((gv14 (0 + (((Int.tmod x0 (gv2 0))).toNat * 1))) + (((Int.tmod y1 (gv2 0))).toNat * 1))))))) else none)) else none)) else none)) else none))

noncomputable def impl_tableOf_f.b1 {ρ : Type} (N : Nat) (K0 : Nat → Nat → (Nat → Nat) → (Nat → Nat) → (Nat → Int) → Option ρ) (rec : Nat → Int → (Nat → Int) → Option ρ) (out0 : Nat → (Nat → Int) → Option ρ) (nv0 : Int) (gv1 : Nat → Int) (gv2 : Nat) (gv3 : Nat) (gv4 : Nat) (gv5 : Nat) (gv7 : Nat) (gv8 : Nat → Nat) (gv9 : Nat → Nat) (gv10 : Nat → Nat) (gv12 : Nat) (gv13 : Nat → Nat) (gv14 : Nat → Nat) (gv15 : Nat → Nat) (gv16 : Nat → Int) (gv17 : Nat → Int) (x19 : Int) (row24 : Nat) (x25 : Int) (gv26 : Nat → Int) : Option ρ :=
  (if (decide (x25 < nv0)) = true then (impl_productTable_c1 N (fun rv27 => (if (row24 + 1) * 8 ≤ 140737488355328 then (rec (row24 + 1) ((IntKind.i64.wrap (x25 + 1))) (joinN (row24 * 1) gv26 (upd (fun _ => 0) 0 rv27))) else none)) x19 x25 gv1 gv2 gv3 gv4 gv5 (gv3 * 1) gv7 (offN 0 gv8) (offN 0 gv9) (offN 0 gv10) (gv5 * 1) gv12 (offN 0 gv13) (offN 0 gv14) (offN 0 gv15) gv16 gv17) else (out0 row24 gv26))

noncomputable def impl_tableOf_f.a1_0 {ρ : Type} (N : Nat) (K0 : Nat → Nat → (Nat → Nat) → (Nat → Nat) → (Nat → Int) → Option ρ) (rec : Nat → Int → Nat → (Nat → Nat) → (Nat → Nat) → (Nat → Int) → Option ρ) (out0 : Nat → Nat → (Nat → Nat) → (Nat → Nat) → (Nat → Int) → Option ρ) (outv18 : Nat) (x19 : Int) (gv20 : Nat) (gv21 : Nat → Nat) (gv22 : Nat → Nat) (gv23 : Nat → Int) (ov28 : Nat) (ov29 : Nat → Int) : Option ρ :=
  (if (outv18 + 1) * 24 ≤ 140737488355328 then (rec (outv18 + 1) ((IntKind.i64.wrap (x19 + 1))) (gv20 + ov28) (upd gv21 outv18 gv20) (upd gv22 outv18 ov28) (joinN gv20 gv23 ov29)) else none)

noncomputable def impl_tableOf_f.b0 {ρ : Type} (N : Nat) (K0 : Nat → Nat → (Nat → Nat) → (Nat → Nat) → (Nat → Int) → Option ρ) (lp1 : Nat → Int → (Nat → Int) → Option ρ) (rec : Nat → Int → Nat → (Nat → Nat) → (Nat → Nat) → (Nat → Int) → Option ρ) (out0 : Nat → Nat → (Nat → Nat) → (Nat → Nat) → (Nat → Int) → Option ρ) (nv0 : Int) (outv18 : Nat) (x19 : Int) (gv20 : Nat) (gv21 : Nat → Nat) (gv22 : Nat → Nat) (gv23 : Nat → Int) : Option ρ :=
  (if (decide (x19 < nv0)) = true then (lp1 0 0 (fun _ => 0)) else (out0 outv18 gv20 gv21 gv22 gv23))

noncomputable def impl_tableOf_f.a0_0 {ρ : Type} (N : Nat) (K0 : Nat → Nat → (Nat → Nat) → (Nat → Nat) → (Nat → Int) → Option ρ) (ov30 : Nat) (ov31 : Nat) (ov32 : Nat → Nat) (ov33 : Nat → Nat) (ov34 : Nat → Int) : Option ρ :=
  (K0 ov30 ov31 ov32 ov33 ov34)

noncomputable def impl_tableOf_f.l1 {ρ : Type} (N : Nat) (K0 : Nat → Nat → (Nat → Nat) → (Nat → Nat) → (Nat → Int) → Option ρ) (nv0 : Int) (gv1 : Nat → Int) (gv2 : Nat) (gv3 : Nat) (gv4 : Nat) (gv5 : Nat) (gv7 : Nat) (gv8 : Nat → Nat) (gv9 : Nat → Nat) (gv10 : Nat → Nat) (gv12 : Nat) (gv13 : Nat → Nat) (gv14 : Nat → Nat) (gv15 : Nat → Nat) (gv16 : Nat → Int) (gv17 : Nat → Int) (x19 : Int) (out0 : Nat → (Nat → Int) → Option ρ) : Nat → Nat → Int → (Nat → Int) → Option ρ
  | 0, _, _, _ => none
  | m + 1, row24, x25, gv26 => (impl_tableOf_f.b1 N K0 ((impl_tableOf_f.l1 N K0 nv0 gv1 gv2 gv3 gv4 gv5 gv7 gv8 gv9 gv10 gv12 gv13 gv14 gv15 gv16 gv17 x19 out0 m)) out0 nv0 gv1 gv2 gv3 gv4 gv5 gv7 gv8 gv9 gv10 gv12 gv13 gv14 gv15 gv16 gv17 x19 row24 x25 gv26)

noncomputable def impl_tableOf_f.l0 {ρ : Type} (N : Nat) (K0 : Nat → Nat → (Nat → Nat) → (Nat → Nat) → (Nat → Int) → Option ρ) (nv0 : Int) (gv1 : Nat → Int) (gv2 : Nat) (gv3 : Nat) (gv4 : Nat) (gv5 : Nat) (gv7 : Nat) (gv8 : Nat → Nat) (gv9 : Nat → Nat) (gv10 : Nat → Nat) (gv12 : Nat) (gv13 : Nat → Nat) (gv14 : Nat → Nat) (gv15 : Nat → Nat) (gv16 : Nat → Int) (gv17 : Nat → Int) (out0 : Nat → Nat → (Nat → Nat) → (Nat → Nat) → (Nat → Int) → Option ρ) : Nat → Nat → Int → Nat → (Nat → Nat) → (Nat → Nat) → (Nat → Int) → Option ρ
  | 0, _, _, _, _, _, _ => none
  | m + 1, outv18, x19, gv20, gv21, gv22, gv23 => (impl_tableOf_f.b0 N K0 (fun row24 x25 gv26 => (impl_tableOf_f.l1 N K0 nv0 gv1 gv2 gv3 gv4 gv5 gv7 gv8 gv9 gv10 gv12 gv13 gv14 gv15 gv16 gv17 x19 (fun ov28 ov29 => (impl_tableOf_f.a1_0 N K0 (impl_tableOf_f.l0 N K0 nv0 gv1 gv2 gv3 gv4 gv5 gv7 gv8 gv9 gv10 gv12 gv13 gv14 gv15 gv16 gv17 out0 m) out0 outv18 x19 gv20 gv21 gv22 gv23 ov28 ov29)) N row24 x25 gv26)) ((impl_tableOf_f.l0 N K0 nv0 gv1 gv2 gv3 gv4 gv5 gv7 gv8 gv9 gv10 gv12 gv13 gv14 gv15 gv16 gv17 out0 m)) out0 nv0 outv18 x19 gv20 gv21 gv22 gv23)

noncomputable def impl_tableOf_f.s {ρ : Type} (N : Nat) (K0 : Nat → Nat → (Nat → Nat) → (Nat → Nat) → (Nat → Int) → Option ρ) (lp0 : Nat → Int → Nat → (Nat → Nat) → (Nat → Nat) → (Nat → Int) → Option ρ) : Option ρ :=
  (lp0 0 0 0 (fun _ => 0) (fun _ => 0) (fun _ => 0))

noncomputable def impl_tableOf_f {ρ : Type} (N : Nat) (K0 : Nat → Nat → (Nat → Nat) → (Nat → Nat) → (Nat → Int) → Option ρ) (nv0 : Int) (gv1 : Nat → Int) (gv2 : Nat) (gv3 : Nat) (gv4 : Nat) (gv5 : Nat) (gv6 : Nat) (gv7 : Nat) (gv8 : Nat → Nat) (gv9 : Nat → Nat) (gv10 : Nat → Nat) (gv11 : Nat) (gv12 : Nat) (gv13 : Nat → Nat) (gv14 : Nat → Nat) (gv15 : Nat → Nat) (gv16 : Nat → Int) (gv17 : Nat → Int) : Option ρ :=
  (impl_tableOf_f.s N K0 (fun outv18 x19 gv20 gv21 gv22 gv23 => (impl_tableOf_f.l0 N K0 nv0 gv1 gv2 gv3 gv4 gv5 gv7 gv8 gv9 gv10 gv12 gv13 gv14 gv15 gv16 gv17 (fun ov30 ov31 ov32 ov33 ov34 => (impl_tableOf_f.a0_0 N K0 ov30 ov31 ov32 ov33 ov34)) N outv18 x19 gv20 gv21 gv22 gv23)))

noncomputable def impl_productTable_shsh {ρ : Type} (N : Nat) (K0 : Nat → Nat → (Nat → Nat) → (Nat → Nat) → (Nat → Int) → Option ρ) (av0 : Nat) (av1 : Nat) (bv2 : Nat) (bv3 : Nat) (gv4 : Nat) (gv5 : Nat) (gv6 : Nat → Nat) (gv7 : Nat → Nat) (gv8 : Nat → Nat) (gv9 : Nat) (gv10 : Nat) (gv11 : Nat → Nat) (gv12 : Nat → Nat) (gv13 : Nat → Nat) (gv14 : Nat → Int) (gv15 : Nat → Int) : Option ρ :=
  (impl_tableOf_f N (fun rv16 rv17 rv18 rv19 rv20 => (K0 rv16 rv17 rv18 rv19 rv20)) ((IntKind.i64.wrap ((av0 : Int) * (bv2 : Int)))) (fun _ => (bv2 : Int)) av0 av1 bv2 bv3 (av1 * 1) gv5 (offN 0 gv6) (offN 0 gv7) (offN 0 gv8) (bv3 * 1) gv10 (offN 0 gv11) (offN 0 gv12) (offN 0 gv13) gv14 gv15)

noncomputable def impl_ProductOfTables_shsh {ρ : Type} (N : Nat) (K0 : Nat → Int → Nat → (Nat → Nat) → (Nat → Nat) → (Nat → Int) → Option ρ) (table0 : Nat) (table1 : Nat) (other2 : Nat) (other3 : Nat) (gv4 : Nat) (gv5 : Nat) (gv6 : Nat → Nat) (gv7 : Nat → Nat) (gv8 : Nat → Nat) (gv9 : Nat) (gv10 : Nat) (gv11 : Nat → Nat) (gv12 : Nat → Nat) (gv13 : Nat → Nat) (gv14 : Nat → Int) (gv15 : Nat → Int) : Option ρ :=
  (impl_IsGroupTable_sh N (fun rv16 => (if rv16 = true then (impl_IsGroupTable_sh N (fun rv17 => (impl_unless N (fun rv18 => (impl_unless N (fun rv19 => (impl_first_s N (fun rv20 => (if (rv20 != 0) = true then (K0 0 rv20 0 (fun _ => 0) (fun _ => 0) (fun _ => 0)) else (impl_productTable_shsh N (fun rv21 rv22 rv23 rv24 rv25 => (K0 rv21 0 rv22 rv23 rv24 rv25)) table0 table1 other2 other3 (table1 * 1) gv5 (offN 0 gv6) (offN 0 gv7) (offN 0 gv8) (other3 * 1) gv10 (offN 0 gv11) (offN 0 gv12) (offN 0 gv13) gv14 gv15))) 2 2 2 (fun z => ((upd (upd (fun _ => 0) 0 rv18) 1 rv19) (0 + z))))) ((decide ((IntKind.i64.wrap ((table0 : Int) * (other2 : Int))) ≤ 8))) 3)) (rv17) 1)) other2 other3 (other3 * 1) gv10 (offN 0 gv11) (offN 0 gv12) (offN 0 gv13) gv15) else (impl_unless N (fun rv26 => (impl_unless N (fun rv27 => (impl_first_s N (fun rv28 => (if (rv28 != 0) = true then (K0 0 rv28 0 (fun _ => 0) (fun _ => 0) (fun _ => 0)) else (impl_productTable_shsh N (fun rv29 rv30 rv31 rv32 rv33 => (K0 rv29 0 rv30 rv31 rv32 rv33)) table0 table1 other2 other3 (table1 * 1) gv5 (offN 0 gv6) (offN 0 gv7) (offN 0 gv8) (other3 * 1) gv10 (offN 0 gv11) (offN 0 gv12) (offN 0 gv13) gv14 gv15))) 2 2 2 (fun z => ((upd (upd (fun _ => 0) 0 rv26) 1 rv27) (0 + z))))) ((decide ((IntKind.i64.wrap ((table0 : Int) * (other2 : Int))) ≤ 8))) 3)) false 1))) table0 table1 (table1 * 1) gv5 (offN 0 gv6) (offN 0 gv7) (offN 0 gv8) gv14)

noncomputable def laws_eqInt64S_susu.b0 {ρ : Type} (N : Nat) (K0 : Bool → Option ρ) (rec : Int → Option ρ) (out0 : Option ρ) (av0 : Nat) (bv1 : Nat) (gv3 : Nat → Int) (gv5 : Nat → Int) (i6 : Int) : Option ρ :=
  (if (decide (i6 < (av0 : Int))) = true then (if (0 : Int) ≤ i6 ∧ i6 < (av0 : Int) then (if (0 : Int) ≤ i6 ∧ i6 < (bv1 : Int) then (if ((gv3 (0 + (i6.toNat * 1))) != (gv5 (0 + (i6.toNat * 1)))) = true then (K0 false) else (rec ((IntKind.i64.wrap (i6 + 1))))) else none) else none) else out0)

noncomputable def laws_eqInt64S_susu.a0_0 {ρ : Type} (N : Nat) (K0 : Bool → Option ρ) : Option ρ :=
  (K0 true)

noncomputable def laws_eqInt64S_susu.l0 {ρ : Type} (N : Nat) (K0 : Bool → Option ρ) (av0 : Nat) (bv1 : Nat) (gv3 : Nat → Int) (gv5 : Nat → Int) (out0 : Option ρ) : Nat → Int → Option ρ
  | 0, _ => none
  | m + 1, i6 => (laws_eqInt64S_susu.b0 N K0 ((laws_eqInt64S_susu.l0 N K0 av0 bv1 gv3 gv5 out0 m)) out0 av0 bv1 gv3 gv5 i6)

noncomputable def laws_eqInt64S_susu.s {ρ : Type} (N : Nat) (K0 : Bool → Option ρ) (lp0 : Int → Option ρ) (av0 : Nat) (bv1 : Nat) : Option ρ :=
  (if ((av0 : Int) != (bv1 : Int)) = true then (K0 false) else (lp0 0))

noncomputable def laws_eqInt64S_susu {ρ : Type} (N : Nat) (K0 : Bool → Option ρ) (av0 : Nat) (bv1 : Nat) (gv2 : Nat) (gv3 : Nat → Int) (gv4 : Nat) (gv5 : Nat → Int) : Option ρ :=
  (laws_eqInt64S_susu.s N K0 (fun i6 => (laws_eqInt64S_susu.l0 N K0 av0 bv1 gv3 gv5 (laws_eqInt64S_susu.a0_0 N K0) N i6)) av0 bv1)

noncomputable def laws_eqInt64SS_suhsuh.b0 {ρ : Type} (N : Nat) (K0 : Bool → Option ρ) (rec : Int → Option ρ) (out0 : Option ρ) (av0 : Nat) (bv1 : Nat) (gv4 : Nat → Nat) (gv5 : Nat → Nat) (gv8 : Nat → Nat) (gv9 : Nat → Nat) (gv10 : Nat → Int) (gv11 : Nat → Int) (i12 : Int) : Option ρ :=
  (if (decide (i12 < (av0 : Int))) = true then (if (0 : Int) ≤ i12 ∧ i12 < (av0 : Int) then (if (0 : Int) ≤ i12 ∧ i12 < (bv1 : Int) then (laws_eqInt64S_susu N (fun rv13 => (if (!rv13) = true then (K0 false) else (rec ((IntKind.i64.wrap (i12 + 1)))))) (gv5 (0 + (i12.toNat * 1))) (gv9 (0 + (i12.toNat * 1))) ((gv5 (0 + (i12.toNat * 1))) * 1) (fun z => (gv10 ((gv4 (0 + (i12.toNat * 1))) + z))) ((gv9 (0 + (i12.toNat * 1))) * 1) (fun z => (gv11 ((gv8 (0 + (i12.toNat * 1))) + z)))) else none) else none) else out0)

noncomputable def laws_eqInt64SS_suhsuh.a0_0 {ρ : Type} (N : Nat) (K0 : Bool → Option ρ) : Option ρ :=
  (K0 true)

noncomputable def laws_eqInt64SS_suhsuh.l0 {ρ : Type} (N : Nat) (K0 : Bool → Option ρ) (av0 : Nat) (bv1 : Nat) (gv4 : Nat → Nat) (gv5 : Nat → Nat) (gv8 : Nat → Nat) (gv9 : Nat → Nat) (gv10 : Nat → Int) (gv11 : Nat → Int) (out0 : Option ρ) : Nat → Int → Option ρ
  | 0, _ => none
  | m + 1, i12 => (laws_eqInt64SS_suhsuh.b0 N K0 ((laws_eqInt64SS_suhsuh.l0 N K0 av0 bv1 gv4 gv5 gv8 gv9 gv10 gv11 out0 m)) out0 av0 bv1 gv4 gv5 gv8 gv9 gv10 gv11 i12)

noncomputable def laws_eqInt64SS_suhsuh.s {ρ : Type} (N : Nat) (K0 : Bool → Option ρ) (lp0 : Int → Option ρ) (av0 : Nat) (bv1 : Nat) : Option ρ :=
  (if ((av0 : Int) != (bv1 : Int)) = true then (K0 false) else (lp0 0))

noncomputable def laws_eqInt64SS_suhsuh {ρ : Type} (N : Nat) (K0 : Bool → Option ρ) (av0 : Nat) (bv1 : Nat) (gv2 : Nat) (gv3 : Nat) (gv4 : Nat → Nat) (gv5 : Nat → Nat) (gv6 : Nat) (gv7 : Nat) (gv8 : Nat → Nat) (gv9 : Nat → Nat) (gv10 : Nat → Int) (gv11 : Nat → Int) : Option ρ :=
  (laws_eqInt64SS_suhsuh.s N K0 (fun i12 => (laws_eqInt64SS_suhsuh.l0 N K0 av0 bv1 gv4 gv5 gv8 gv9 gv10 gv11 (laws_eqInt64SS_suhsuh.a0_0 N K0) N i12)) av0 bv1)

noncomputable def laws_eqInt64S_ss.b0 {ρ : Type} (N : Nat) (K0 : Bool → Option ρ) (rec : Int → Option ρ) (out0 : Option ρ) (av0 : Nat) (bv2 : Nat) (gv5 : Nat → Int) (gv7 : Nat → Int) (i8 : Int) : Option ρ :=
  (if (decide (i8 < (av0 : Int))) = true then (if (0 : Int) ≤ i8 ∧ i8 < (av0 : Int) then (if (0 : Int) ≤ i8 ∧ i8 < (bv2 : Int) then (if ((gv5 (0 + (i8.toNat * 1))) != (gv7 (0 + (i8.toNat * 1)))) = true then (K0 false) else (rec ((IntKind.i64.wrap (i8 + 1))))) else none) else none) else out0)

noncomputable def laws_eqInt64S_ss.a0_0 {ρ : Type} (N : Nat) (K0 : Bool → Option ρ) : Option ρ :=
  (K0 true)

noncomputable def laws_eqInt64S_ss.l0 {ρ : Type} (N : Nat) (K0 : Bool → Option ρ) (av0 : Nat) (bv2 : Nat) (gv5 : Nat → Int) (gv7 : Nat → Int) (out0 : Option ρ) : Nat → Int → Option ρ
  | 0, _ => none
  | m + 1, i8 => (laws_eqInt64S_ss.b0 N K0 ((laws_eqInt64S_ss.l0 N K0 av0 bv2 gv5 gv7 out0 m)) out0 av0 bv2 gv5 gv7 i8)

noncomputable def laws_eqInt64S_ss.s {ρ : Type} (N : Nat) (K0 : Bool → Option ρ) (lp0 : Int → Option ρ) (av0 : Nat) (bv2 : Nat) : Option ρ :=
  (if ((av0 : Int) != (bv2 : Int)) = true then (K0 false) else (lp0 0))

noncomputable def laws_eqInt64S_ss {ρ : Type} (N : Nat) (K0 : Bool → Option ρ) (av0 : Nat) (av1 : Nat) (bv2 : Nat) (bv3 : Nat) (gv4 : Nat) (gv5 : Nat → Int) (gv6 : Nat) (gv7 : Nat → Int) : Option ρ :=
  (laws_eqInt64S_ss.s N K0 (fun i8 => (laws_eqInt64S_ss.l0 N K0 av0 bv2 gv5 gv7 (laws_eqInt64S_ss.a0_0 N K0) N i8)) av0 bv2)

noncomputable def laws_intactInt64S_ss {ρ : Type} (N : Nat) (K0 : Bool → Option ρ) (x0 : Nat) (x1 : Nat) (y2 : Nat) (y3 : Nat) (gv4 : Nat) (gv5 : Nat → Int) (gv6 : Nat) (gv7 : Nat → Int) : Option ρ :=
  (laws_roomBehind N (fun rv8 => (if ((x0 : Int) == (y2 : Int)) = true then (if (0 : Int) ≤ (0 : Int) ∧ (0 : Int) ≤ (IntKind.i64.wrap ((y2 : Int) + rv8)) ∧ (IntKind.i64.wrap ((y2 : Int) + rv8)) ≤ (x1 : Int) then (if (0 : Int) ≤ (0 : Int) ∧ (0 : Int) ≤ (IntKind.i64.wrap ((y2 : Int) + rv8)) ∧ (IntKind.i64.wrap ((y2 : Int) + rv8)) ≤ (y3 : Int) then (laws_eqInt64S_ss N (fun rv9 => (K0 (rv9))) ((IntKind.i64.wrap ((y2 : Int) + rv8))).toNat x1 ((IntKind.i64.wrap ((y2 : Int) + rv8))).toNat y3 (x1 * 1) (fun z => (gv5 (0 + z))) (y3 * 1) (fun z => (gv7 (0 + z)))) else none) else none) else (K0 false))) ((y2 : Int)))

noncomputable def laws_eqInt64SS_shsh.b0 {ρ : Type} (N : Nat) (K0 : Bool → Option ρ) (rec : Int → Option ρ) (out0 : Option ρ) (av0 : Nat) (bv2 : Nat) (gv6 : Nat → Nat) (gv7 : Nat → Nat) (gv8 : Nat → Nat) (gv11 : Nat → Nat) (gv12 : Nat → Nat) (gv13 : Nat → Nat) (gv14 : Nat → Int) (gv15 : Nat → Int) (i16 : Int) : Option ρ :=
  (if (decide (i16 < (av0 : Int))) = true then (if (0 : Int) ≤ i16 ∧ i16 < (av0 : Int) then (if (0 : Int) ≤ i16 ∧ i16 < (bv2 : Int) then (laws_eqInt64S_ss N (fun rv17 => (if (!rv17) = true then (K0 false) else (rec ((IntKind.i64.wrap (i16 + 1)))))) (gv7 (0 + (i16.toNat * 1))) (gv8 (0 + (i16.toNat * 1))) (gv12 (0 + (i16.toNat * 1))) (gv13 (0 + (i16.toNat * 1))) ((gv8 (0 + (i16.toNat * 1))) * 1) (fun z => (gv14 ((gv6 (0 + (i16.toNat * 1))) + z))) ((gv13 (0 + (i16.toNat * 1))) * 1) (fun z => (gv15 ((gv11 (0 + (i16.toNat * 1))) + z)))) else none) else none) else out0)

noncomputable def laws_eqInt64SS_shsh.a0_0 {ρ : Type} (N : Nat) (K0 : Bool → Option ρ) : Option ρ :=
  (K0 true)

noncomputable def laws_eqInt64SS_shsh.l0 {ρ : Type} (N : Nat) (K0 : Bool → Option ρ) (av0 : Nat) (bv2 : Nat) (gv6 : Nat → Nat) (gv7 : Nat → Nat) (gv8 : Nat → Nat) (gv11 : Nat → Nat) (gv12 : Nat → Nat) (gv13 : Nat → Nat) (gv14 : Nat → Int) (gv15 : Nat → Int) (out0 : Option ρ) : Nat → Int → Option ρ
  | 0, _ => none
  | m + 1, i16 => (laws_eqInt64SS_shsh.b0 N K0 ((laws_eqInt64SS_shsh.l0 N K0 av0 bv2 gv6 gv7 gv8 gv11 gv12 gv13 gv14 gv15 out0 m)) out0 av0 bv2 gv6 gv7 gv8 gv11 gv12 gv13 gv14 gv15 i16)

noncomputable def laws_eqInt64SS_shsh.s {ρ : Type} (N : Nat) (K0 : Bool → Option ρ) (lp0 : Int → Option ρ) (av0 : Nat) (bv2 : Nat) : Option ρ :=
  (if ((av0 : Int) != (bv2 : Int)) = true then (K0 false) else (lp0 0))

noncomputable def laws_eqInt64SS_shsh {ρ : Type} (N : Nat) (K0 : Bool → Option ρ) (av0 : Nat) (av1 : Nat) (bv2 : Nat) (bv3 : Nat) (gv4 : Nat) (gv5 : Nat) (gv6 : Nat → Nat) (gv7 : Nat → Nat) (gv8 : Nat → Nat) (gv9 : Nat) (gv10 : Nat) (gv11 : Nat → Nat) (gv12 : Nat → Nat) (gv13 : Nat → Nat) (gv14 : Nat → Int) (gv15 : Nat → Int) : Option ρ :=
  (laws_eqInt64SS_shsh.s N K0 (fun i16 => (laws_eqInt64SS_shsh.l0 N K0 av0 bv2 gv6 gv7 gv8 gv11 gv12 gv13 gv14 gv15 (laws_eqInt64SS_shsh.a0_0 N K0) N i16)) av0 bv2)

noncomputable def laws_intactInt64SS_shsh.b0 {ρ : Type} (N : Nat) (K0 : Bool → Option ρ) (rec : Int → Option ρ) (out0 : Option ρ) (x0 : Nat) (y2 : Nat) (gv6 : Nat → Nat) (gv7 : Nat → Nat) (gv8 : Nat → Nat) (gv11 : Nat → Nat) (gv12 : Nat → Nat) (gv13 : Nat → Nat) (gv14 : Nat → Int) (gv15 : Nat → Int) (i17 : Int) : Option ρ :=
  (if (decide (i17 < (y2 : Int))) = true then (if (0 : Int) ≤ i17 ∧ i17 < (x0 : Int) then (if (0 : Int) ≤ i17 ∧ i17 < (y2 : Int) then (laws_intactInt64S_ss N (fun rv18 => (if (!rv18) = true then (K0 false) else (rec ((IntKind.i64.wrap (i17 + 1)))))) (gv7 (0 + (i17.toNat * 1))) (gv8 (0 + (i17.toNat * 1))) (gv12 (0 + (i17.toNat * 1))) (gv13 (0 + (i17.toNat * 1))) ((gv8 (0 + (i17.toNat * 1))) * 1) (fun z => (gv14 ((gv6 (0 + (i17.toNat * 1))) + z))) ((gv13 (0 + (i17.toNat * 1))) * 1) (fun z => (gv15 ((gv11 (0 + (i17.toNat * 1))) + z)))) else none) else none) else out0)

noncomputable def laws_intactInt64SS_shsh.a0_0 {ρ : Type} (N : Nat) (K0 : Bool → Option ρ) (x1 : Nat) (y2 : Nat) (y3 : Nat) (gv5 : Nat) (gv6 : Nat → Nat) (gv7 : Nat → Nat) (gv8 : Nat → Nat) (gv10 : Nat) (gv11 : Nat → Nat) (gv12 : Nat → Nat) (gv13 : Nat → Nat) (gv14 : Nat → Int) (gv15 : Nat → Int) (rv16 : Int) : Option ρ :=
  (if (0 : Int) ≤ (y2 : Int) ∧ (y2 : Int) ≤ (IntKind.i64.wrap ((y2 : Int) + rv16)) ∧ (IntKind.i64.wrap ((y2 : Int) + rv16)) ≤ (x1 : Int) then (if (0 : Int) ≤ (y2 : Int) ∧ (y2 : Int) ≤ (IntKind.i64.wrap ((y2 : Int) + rv16)) ∧ (IntKind.i64.wrap ((y2 : Int) + rv16)) ≤ (y3 : Int) then (laws_eqInt64SS_shsh N (fun rv19 => (K0 (rv19))) (((IntKind.i64.wrap ((y2 : Int) + rv16))).toNat - ((y2 : Int)).toNat) (x1 - ((y2 : Int)).toNat) (((IntKind.i64.wrap ((y2 : Int) + rv16))).toNat - ((y2 : Int)).toNat) (y3 - ((y2 : Int)).toNat) ((x1 - ((y2 : Int)).toNat) * 1) gv5 (offN (0 + (((y2 : Int)).toNat * 1)) gv6) (offN (0 + (((y2 : Int)).toNat * 1)) gv7) (offN (0 + (((y2 : Int)).toNat * 1)) gv8) ((y3 - ((y2 : Int)).toNat) * 1) gv10 (offN (0 + (((y2 : Int)).toNat * 1)) gv11) (offN (0 + (((y2 : Int)).toNat * 1)) gv12) (offN (0 + (((y2 : Int)).toNat * 1)) gv13) gv14 gv15) else none) else none)

noncomputable def laws_intactInt64SS_shsh.l0 {ρ : Type} (N : Nat) (K0 : Bool → Option ρ) (x0 : Nat) (y2 : Nat) (gv6 : Nat → Nat) (gv7 : Nat → Nat) (gv8 : Nat → Nat) (gv11 : Nat → Nat) (gv12 : Nat → Nat) (gv13 : Nat → Nat) (gv14 : Nat → Int) (gv15 : Nat → Int) (out0 : Option ρ) : Nat → Int → Option ρ
  | 0, _ => none
  | m + 1, i17 => (laws_intactInt64SS_shsh.b0 N K0 ((laws_intactInt64SS_shsh.l0 N K0 x0 y2 gv6 gv7 gv8 gv11 gv12 gv13 gv14 gv15 out0 m)) out0 x0 y2 gv6 gv7 gv8 gv11 gv12 gv13 gv14 gv15 i17)

noncomputable def laws_intactInt64SS_shsh.s {ρ : Type} (N : Nat) (K0 : Bool → Option ρ) (lp0 : Int → Int → Option ρ) (x0 : Nat) (y2 : Nat) : Option ρ :=
  (laws_roomBehind N (fun rv16 => (if ((x0 : Int) != (y2 : Int)) = true then (K0 false) else (lp0 rv16 0))) ((y2 : Int)))

noncomputable def laws_intactInt64SS_shsh {ρ : Type} (N : Nat) (K0 : Bool → Option ρ) (x0 : Nat) (x1 : Nat) (y2 : Nat) (y3 : Nat) (gv4 : Nat) (gv5 : Nat) (gv6 : Nat → Nat) (gv7 : Nat → Nat) (gv8 : Nat → Nat) (gv9 : Nat) (gv10 : Nat) (gv11 : Nat → Nat) (gv12 : Nat → Nat) (gv13 : Nat → Nat) (gv14 : Nat → Int) (gv15 : Nat → Int) : Option ρ :=
  (laws_intactInt64SS_shsh.s N K0 (fun rv16 i17 => (laws_intactInt64SS_shsh.l0 N K0 x0 y2 gv6 gv7 gv8 gv11 gv12 gv13 gv14 gv15 (laws_intactInt64SS_shsh.a0_0 N K0 x1 y2 y3 gv5 gv6 gv7 gv8 gv10 gv11 gv12 gv13 gv14 gv15 rv16) N i17)) x0 y2)

noncomputable def laws_markInt64S_s.b0 {ρ : Type} (N : Nat) (K0 : Int → (Nat → Int) → Option ρ) (rec : Int → Int → (Nat → Int) → Option ρ) (out0 : Int → (Nat → Int) → Option ρ) (av0 : Nat) (k5 : Int) (i6 : Int) (gv7 : Nat → Int) : Option ρ :=
  (if (decide (i6 < (av0 : Int))) = true then (if (0 : Int) ≤ i6 ∧ i6 < (av0 : Int) then (rec ((IntKind.i64.wrap (k5 + 1))) ((IntKind.i64.wrap (i6 + 1))) (upd gv7 (0 + (i6.toNat * 1)) k5)) else none) else (out0 k5 gv7))

noncomputable def laws_markInt64S_s.a0_0 {ρ : Type} (N : Nat) (K0 : Int → (Nat → Int) → Option ρ) (ov8 : Int) (ov9 : Nat → Int) : Option ρ :=
  (K0 ov8 ov9)

noncomputable def laws_markInt64S_s.l0 {ρ : Type} (N : Nat) (K0 : Int → (Nat → Int) → Option ρ) (av0 : Nat) (out0 : Int → (Nat → Int) → Option ρ) : Nat → Int → Int → (Nat → Int) → Option ρ
  | 0, _, _, _ => none
  | m + 1, k5, i6, gv7 => (laws_markInt64S_s.b0 N K0 ((laws_markInt64S_s.l0 N K0 av0 out0 m)) out0 av0 k5 i6 gv7)

noncomputable def laws_markInt64S_s.s {ρ : Type} (N : Nat) (K0 : Int → (Nat → Int) → Option ρ) (lp0 : Int → Int → (Nat → Int) → Option ρ) (k2 : Int) (gv4 : Nat → Int) : Option ρ :=
  (lp0 k2 0 gv4)

noncomputable def laws_markInt64S_s {ρ : Type} (N : Nat) (K0 : Int → (Nat → Int) → Option ρ) (av0 : Nat) (av1 : Nat) (k2 : Int) (gv3 : Nat) (gv4 : Nat → Int) : Option ρ :=
  (laws_markInt64S_s.s N K0 (fun k5 i6 gv7 => (laws_markInt64S_s.l0 N K0 av0 (fun ov8 ov9 => (laws_markInt64S_s.a0_0 N K0 ov8 ov9)) N k5 i6 gv7)) k2 gv4)

noncomputable def laws_markInt64SS_sh.b0 {ρ : Type} (N : Nat) (K0 : Int → (Nat → Int) → Option ρ) (rec : Int → Int → (Nat → Int) → Option ρ) (out0 : Int → (Nat → Int) → Option ρ) (av0 : Nat) (gv5 : Nat → Nat) (gv6 : Nat → Nat) (gv7 : Nat → Nat) (k9 : Int) (i10 : Int) (gv11 : Nat → Int) : Option ρ :=
  (if (decide (i10 < (av0 : Int))) = true then (if (0 : Int) ≤ i10 ∧ i10 < (av0 : Int) then (laws_markInt64S_s N (fun rv12 rv13 => (rec rv12 ((IntKind.i64.wrap (i10 + 1))) (updN gv11 (gv5 (0 + (i10.toNat * 1))) ((gv7 (0 + (i10.toNat * 1))) * 1) rv13))) (gv6 (0 + (i10.toNat * 1))) (gv7 (0 + (i10.toNat * 1))) k9 ((gv7 (0 + (i10.toNat * 1))) * 1) (fun z => (gv11 ((gv5 (0 + (i10.toNat * 1))) + z)))) else none) else (out0 k9 gv11))

noncomputable def laws_markInt64SS_sh.a0_0 {ρ : Type} (N : Nat) (K0 : Int → (Nat → Int) → Option ρ) (ov14 : Int) (ov15 : Nat → Int) : Option ρ :=
  (K0 ov14 ov15)

noncomputable def laws_markInt64SS_sh.l0 {ρ : Type} (N : Nat) (K0 : Int → (Nat → Int) → Option ρ) (av0 : Nat) (gv5 : Nat → Nat) (gv6 : Nat → Nat) (gv7 : Nat → Nat) (out0 : Int → (Nat → Int) → Option ρ) : Nat → Int → Int → (Nat → Int) → Option ρ
  | 0, _, _, _ => none
  | m + 1, k9, i10, gv11 => (laws_markInt64SS_sh.b0 N K0 ((laws_markInt64SS_sh.l0 N K0 av0 gv5 gv6 gv7 out0 m)) out0 av0 gv5 gv6 gv7 k9 i10 gv11)

noncomputable def laws_markInt64SS_sh.s {ρ : Type} (N : Nat) (K0 : Int → (Nat → Int) → Option ρ) (lp0 : Int → Int → (Nat → Int) → Option ρ) (k2 : Int) (gv8 : Nat → Int) : Option ρ :=
  (lp0 k2 0 gv8)

noncomputable def laws_markInt64SS_sh {ρ : Type} (N : Nat) (K0 : Int → (Nat → Int) → Option ρ) (av0 : Nat) (av1 : Nat) (k2 : Int) (gv3 : Nat) (gv4 : Nat) (gv5 : Nat → Nat) (gv6 : Nat → Nat) (gv7 : Nat → Nat) (gv8 : Nat → Int) : Option ρ :=
  (laws_markInt64SS_sh.s N K0 (fun k9 i10 gv11 => (laws_markInt64SS_sh.l0 N K0 av0 gv5 gv6 gv7 (fun ov14 ov15 => (laws_markInt64SS_sh.a0_0 N K0 ov14 ov15)) N k9 i10 gv11)) k2 gv8)

noncomputable def laws_markInt64S_su.b0 {ρ : Type} (N : Nat) (K0 : Int → (Nat → Int) → Option ρ) (rec : Int → Int → (Nat → Int) → Option ρ) (out0 : Int → (Nat → Int) → Option ρ) (av0 : Nat) (k4 : Int) (i5 : Int) (gv6 : Nat → Int) : Option ρ :=
  (if (decide (i5 < (av0 : Int))) = true then (if (0 : Int) ≤ i5 ∧ i5 < (av0 : Int) then (rec ((IntKind.i64.wrap (k4 + 1))) ((IntKind.i64.wrap (i5 + 1))) (upd gv6 (0 + (i5.toNat * 1)) k4)) else none) else (out0 k4 gv6))

noncomputable def laws_markInt64S_su.a0_0 {ρ : Type} (N : Nat) (K0 : Int → (Nat → Int) → Option ρ) (ov7 : Int) (ov8 : Nat → Int) : Option ρ :=
  (K0 ov7 ov8)

noncomputable def laws_markInt64S_su.l0 {ρ : Type} (N : Nat) (K0 : Int → (Nat → Int) → Option ρ) (av0 : Nat) (out0 : Int → (Nat → Int) → Option ρ) : Nat → Int → Int → (Nat → Int) → Option ρ
  | 0, _, _, _ => none
  | m + 1, k4, i5, gv6 => (laws_markInt64S_su.b0 N K0 ((laws_markInt64S_su.l0 N K0 av0 out0 m)) out0 av0 k4 i5 gv6)

noncomputable def laws_markInt64S_su.s {ρ : Type} (N : Nat) (K0 : Int → (Nat → Int) → Option ρ) (lp0 : Int → Int → (Nat → Int) → Option ρ) (k1 : Int) (gv3 : Nat → Int) : Option ρ :=
  (lp0 k1 0 gv3)

noncomputable def laws_markInt64S_su {ρ : Type} (N : Nat) (K0 : Int → (Nat → Int) → Option ρ) (av0 : Nat) (k1 : Int) (gv2 : Nat) (gv3 : Nat → Int) : Option ρ :=
  (laws_markInt64S_su.s N K0 (fun k4 i5 gv6 => (laws_markInt64S_su.l0 N K0 av0 (fun ov7 ov8 => (laws_markInt64S_su.a0_0 N K0 ov7 ov8)) N k4 i5 gv6)) k1 gv3)

noncomputable def laws_markInt64SS_suh.b0 {ρ : Type} (N : Nat) (K0 : Int → (Nat → Int) → Option ρ) (rec : Int → Int → (Nat → Int) → Option ρ) (out0 : Int → (Nat → Int) → Option ρ) (av0 : Nat) (gv4 : Nat → Nat) (gv5 : Nat → Nat) (k7 : Int) (i8 : Int) (gv9 : Nat → Int) : Option ρ :=
  (if (decide (i8 < (av0 : Int))) = true then (if (0 : Int) ≤ i8 ∧ i8 < (av0 : Int) then (laws_markInt64S_su N (fun rv10 rv11 => (rec rv10 ((IntKind.i64.wrap (i8 + 1))) (updN gv9 (gv4 (0 + (i8.toNat * 1))) ((gv5 (0 + (i8.toNat * 1))) * 1) rv11))) (gv5 (0 + (i8.toNat * 1))) k7 ((gv5 (0 + (i8.toNat * 1))) * 1) (fun z => (gv9 ((gv4 (0 + (i8.toNat * 1))) + z)))) else none) else (out0 k7 gv9))

noncomputable def laws_markInt64SS_suh.a0_0 {ρ : Type} (N : Nat) (K0 : Int → (Nat → Int) → Option ρ) (ov12 : Int) (ov13 : Nat → Int) : Option ρ :=
  (K0 ov12 ov13)

noncomputable def laws_markInt64SS_suh.l0 {ρ : Type} (N : Nat) (K0 : Int → (Nat → Int) → Option ρ) (av0 : Nat) (gv4 : Nat → Nat) (gv5 : Nat → Nat) (out0 : Int → (Nat → Int) → Option ρ) : Nat → Int → Int → (Nat → Int) → Option ρ
  | 0, _, _, _ => none
  | m + 1, k7, i8, gv9 => (laws_markInt64SS_suh.b0 N K0 ((laws_markInt64SS_suh.l0 N K0 av0 gv4 gv5 out0 m)) out0 av0 gv4 gv5 k7 i8 gv9)

noncomputable def laws_markInt64SS_suh.s {ρ : Type} (N : Nat) (K0 : Int → (Nat → Int) → Option ρ) (lp0 : Int → Int → (Nat → Int) → Option ρ) (k1 : Int) (gv6 : Nat → Int) : Option ρ :=
  (lp0 k1 0 gv6)

noncomputable def laws_markInt64SS_suh {ρ : Type} (N : Nat) (K0 : Int → (Nat → Int) → Option ρ) (av0 : Nat) (k1 : Int) (gv2 : Nat) (gv3 : Nat) (gv4 : Nat → Nat) (gv5 : Nat → Nat) (gv6 : Nat → Int) : Option ρ :=
  (laws_markInt64SS_suh.s N K0 (fun k7 i8 gv9 => (laws_markInt64SS_suh.l0 N K0 av0 gv4 gv5 (fun ov12 ov13 => (laws_markInt64SS_suh.a0_0 N K0 ov12 ov13)) N k7 i8 gv9)) k1 gv6)

noncomputable def laws_heldInt64S_su.b0 {ρ : Type} (N : Nat) (K0 : Int → Option ρ) (rec : Int → Int → Option ρ) (out0 : Int → Option ρ) (av0 : Nat) (gv3 : Nat → Int) (k4 : Int) (i5 : Int) : Option ρ :=
  (if (decide (i5 < (av0 : Int))) = true then (if (0 : Int) ≤ i5 ∧ i5 < (av0 : Int) then (if ((gv3 (0 + (i5.toNat * 1))) != k4) = true then (K0 (-1)) else (rec ((IntKind.i64.wrap (k4 + 1))) ((IntKind.i64.wrap (i5 + 1))))) else none) else (out0 k4))

noncomputable def laws_heldInt64S_su.a0_0 {ρ : Type} (N : Nat) (K0 : Int → Option ρ) (ov6 : Int) : Option ρ :=
  (K0 ov6)

noncomputable def laws_heldInt64S_su.l0 {ρ : Type} (N : Nat) (K0 : Int → Option ρ) (av0 : Nat) (gv3 : Nat → Int) (out0 : Int → Option ρ) : Nat → Int → Int → Option ρ
  | 0, _, _ => none
  | m + 1, k4, i5 => (laws_heldInt64S_su.b0 N K0 ((laws_heldInt64S_su.l0 N K0 av0 gv3 out0 m)) out0 av0 gv3 k4 i5)

noncomputable def laws_heldInt64S_su.s {ρ : Type} (N : Nat) (K0 : Int → Option ρ) (lp0 : Int → Int → Option ρ) (k1 : Int) : Option ρ :=
  (lp0 k1 0)

noncomputable def laws_heldInt64S_su {ρ : Type} (N : Nat) (K0 : Int → Option ρ) (av0 : Nat) (k1 : Int) (gv2 : Nat) (gv3 : Nat → Int) : Option ρ :=
  (laws_heldInt64S_su.s N K0 (fun k4 i5 => (laws_heldInt64S_su.l0 N K0 av0 gv3 (fun ov6 => (laws_heldInt64S_su.a0_0 N K0 ov6)) N k4 i5)) k1)

noncomputable def laws_heldInt64SS_suh.b0 {ρ : Type} (N : Nat) (K0 : Int → Option ρ) (rec : Int → Int → Option ρ) (out0 : Int → Option ρ) (av0 : Nat) (gv4 : Nat → Nat) (gv5 : Nat → Nat) (gv6 : Nat → Int) (k7 : Int) (i8 : Int) : Option ρ :=
  (if (decide (i8 < (av0 : Int))) = true then (if (0 : Int) ≤ i8 ∧ i8 < (av0 : Int) then (laws_heldInt64S_su N (fun rv9 => (if (decide (rv9 < 0)) = true then (K0 (-1)) else (rec rv9 ((IntKind.i64.wrap (i8 + 1)))))) (gv5 (0 + (i8.toNat * 1))) k7 ((gv5 (0 + (i8.toNat * 1))) * 1) (fun z => (gv6 ((gv4 (0 + (i8.toNat * 1))) + z)))) else none) else (out0 k7))

noncomputable def laws_heldInt64SS_suh.a0_0 {ρ : Type} (N : Nat) (K0 : Int → Option ρ) (ov10 : Int) : Option ρ :=
  (K0 ov10)

noncomputable def laws_heldInt64SS_suh.l0 {ρ : Type} (N : Nat) (K0 : Int → Option ρ) (av0 : Nat) (gv4 : Nat → Nat) (gv5 : Nat → Nat) (gv6 : Nat → Int) (out0 : Int → Option ρ) : Nat → Int → Int → Option ρ
  | 0, _, _ => none
  | m + 1, k7, i8 => (laws_heldInt64SS_suh.b0 N K0 ((laws_heldInt64SS_suh.l0 N K0 av0 gv4 gv5 gv6 out0 m)) out0 av0 gv4 gv5 gv6 k7 i8)

noncomputable def laws_heldInt64SS_suh.s {ρ : Type} (N : Nat) (K0 : Int → Option ρ) (lp0 : Int → Int → Option ρ) (k1 : Int) : Option ρ :=
  (lp0 k1 0)

noncomputable def laws_heldInt64SS_suh {ρ : Type} (N : Nat) (K0 : Int → Option ρ) (av0 : Nat) (k1 : Int) (gv2 : Nat) (gv3 : Nat) (gv4 : Nat → Nat) (gv5 : Nat → Nat) (gv6 : Nat → Int) : Option ρ :=
  (laws_heldInt64SS_suh.s N K0 (fun k7 i8 => (laws_heldInt64SS_suh.l0 N K0 av0 gv4 gv5 gv6 (fun ov10 => (laws_heldInt64SS_suh.a0_0 N K0 ov10)) N k7 i8)) k1)

noncomputable def laws_toInt64S_su1.b1 {ρ : Type} (N : Nat) (K0 : Option ρ) (K1 : Nat → Nat → Nat → (Nat → Int) → Option ρ) (rec : Int → (Nat → Int) → Option ρ) (out0 : (Nat → Int) → Option ρ) (av0 : Nat) (rv3 : Int) (i7 : Int) (gv8 : Nat → Int) : Option ρ :=
  (if (decide (i7 < ((((IntKind.i64.wrap ((av0 : Int) + rv3))).toNat : Nat) : Int))) = true then (if (0 : Int) ≤ i7 ∧ i7 < ((((IntKind.i64.wrap ((av0 : Int) + rv3))).toNat : Nat) : Int) then (rec ((IntKind.i64.wrap (i7 + 1))) (upd gv8 (0 + (i7.toNat * 1)) (-7000000000000000101))) else none) else (out0 gv8))

noncomputable def laws_toInt64S_su1.a1_0 {ρ : Type} (N : Nat) (K0 : Option ρ) (K1 : Nat → Nat → Nat → (Nat → Int) → Option ρ) (av0 : Nat) (rv3 : Int) (ov9 : Nat → Int) : Option ρ :=
  (if (0 : Int) ≤ (0 : Int) ∧ (0 : Int) ≤ (av0 : Int) ∧ (av0 : Int) ≤ ((((IntKind.i64.wrap ((av0 : Int) + rv3))).toNat : Nat) : Int) then (K1 ((av0 : Int)).toNat ((IntKind.i64.wrap ((av0 : Int) + rv3))).toNat (((IntKind.i64.wrap ((av0 : Int) + rv3))).toNat * 1) ov9) else none)

noncomputable def laws_toInt64S_su1.b0 {ρ : Type} (N : Nat) (K0 : Option ρ) (K1 : Nat → Nat → Nat → (Nat → Int) → Option ρ) (rec : Int → (Nat → Int) → Option ρ) (out0 : (Nat → Int) → Option ρ) (av0 : Nat) (gv2 : Nat → Int) (rv3 : Int) (i4 : Int) (gv5 : Nat → Int) : Option ρ :=
  (if (decide (i4 < (av0 : Int))) = true then (if (0 : Int) ≤ i4 ∧ i4 < (av0 : Int) then (if (0 : Int) ≤ i4 ∧ i4 < ((((IntKind.i64.wrap ((av0 : Int) + rv3))).toNat : Nat) : Int) then (rec ((IntKind.i64.wrap (i4 + 1))) (upd gv5 (0 + (i4.toNat * 1)) (gv2 (0 + (i4.toNat * 1))))) else none) else none) else (out0 gv5))

noncomputable def laws_toInt64S_su1.a0_0 {ρ : Type} (N : Nat) (K0 : Option ρ) (K1 : Nat → Nat → Nat → (Nat → Int) → Option ρ) (lp1 : Int → (Nat → Int) → Option ρ) (av0 : Nat) (ov6 : Nat → Int) : Option ρ :=
  (lp1 ((av0 : Int)) ov6)

noncomputable def laws_toInt64S_su1.l1 {ρ : Type} (N : Nat) (K0 : Option ρ) (K1 : Nat → Nat → Nat → (Nat → Int) → Option ρ) (av0 : Nat) (rv3 : Int) (out0 : (Nat → Int) → Option ρ) : Nat → Int → (Nat → Int) → Option ρ
  | 0, _, _ => none
  | m + 1, i7, gv8 => (laws_toInt64S_su1.b1 N K0 K1 ((laws_toInt64S_su1.l1 N K0 K1 av0 rv3 out0 m)) out0 av0 rv3 i7 gv8)

noncomputable def laws_toInt64S_su1.l0 {ρ : Type} (N : Nat) (K0 : Option ρ) (K1 : Nat → Nat → Nat → (Nat → Int) → Option ρ) (av0 : Nat) (gv2 : Nat → Int) (rv3 : Int) (out0 : (Nat → Int) → Option ρ) : Nat → Int → (Nat → Int) → Option ρ
  | 0, _, _ => none
  | m + 1, i4, gv5 => (laws_toInt64S_su1.b0 N K0 K1 ((laws_toInt64S_su1.l0 N K0 K1 av0 gv2 rv3 out0 m)) out0 av0 gv2 rv3 i4 gv5)

noncomputable def laws_toInt64S_su1.s {ρ : Type} (N : Nat) (K0 : Option ρ) (K1 : Nat → Nat → Nat → (Nat → Int) → Option ρ) (lp0 : Int → Int → (Nat → Int) → Option ρ) (av0 : Nat) : Option ρ :=
  (if ((av0 : Int) == 0) = true then K0 else (laws_roomBehind N (fun rv3 => (if (0 : Int) ≤ (IntKind.i64.wrap ((av0 : Int) + rv3)) ∧ (IntKind.i64.wrap ((av0 : Int) + rv3)) ≤ (IntKind.i64.wrap ((av0 : Int) + rv3)) ∧ (8 : Int) * (IntKind.i64.wrap ((av0 : Int) + rv3)) ≤ 1099511627776 ∧ (IntKind.i64.wrap ((av0 : Int) + rv3)) ≤ 1099511627776 then (lp0 rv3 0 (fun _ => 0)) else none)) ((av0 : Int))))

noncomputable def laws_toInt64S_su1 {ρ : Type} (N : Nat) (K0 : Option ρ) (K1 : Nat → Nat → Nat → (Nat → Int) → Option ρ) (av0 : Nat) (gv1 : Nat) (gv2 : Nat → Int) : Option ρ :=
  (laws_toInt64S_su1.s N K0 K1 (fun rv3 i4 gv5 => (laws_toInt64S_su1.l0 N K0 K1 av0 gv2 rv3 (fun ov6 => (laws_toInt64S_su1.a0_0 N K0 K1 (fun i7 gv8 => (laws_toInt64S_su1.l1 N K0 K1 av0 rv3 (fun ov9 => (laws_toInt64S_su1.a1_0 N K0 K1 av0 rv3 ov9)) N i7 gv8)) av0 ov6)) N i4 gv5)) av0)

noncomputable def laws_toInt64SS_suh1.b1 {ρ : Type} (N : Nat) (K0 : Option ρ) (K1 : Nat → Nat → Nat → Nat → (Nat → Nat) → (Nat → Nat) → (Nat → Nat) → (Nat → Int) → Option ρ) (rec : Int → Nat → (Nat → Nat) → (Nat → Nat) → (Nat → Nat) → (Nat → Int) → Option ρ) (out0 : Nat → (Nat → Nat) → (Nat → Nat) → (Nat → Nat) → (Nat → Int) → Option ρ) (av0 : Nat) (rv7 : Int) (i23 : Int) (gv24 : Nat) (gv25 : Nat → Nat) (gv26 : Nat → Nat) (gv27 : Nat → Nat) (gv28 : Nat → Int) : Option ρ :=
  (if (decide (i23 < ((((IntKind.i64.wrap ((av0 : Int) + rv7))).toNat : Nat) : Int))) = true then (if (0 : Int) ≤ i23 ∧ i23 < ((((IntKind.i64.wrap ((av0 : Int) + rv7))).toNat : Nat) : Int) then (rec ((IntKind.i64.wrap (i23 + 1))) (gv24 + 1) (upd gv25 (0 + (i23.toNat * 1)) gv24) (upd gv26 (0 + (i23.toNat * 1)) 1) (upd gv27 (0 + (i23.toNat * 1)) 1) (joinN gv24 gv28 (upd (fun _ => 0) 0 (-7000000000000000101)))) else none) else (out0 gv24 gv25 gv26 gv27 gv28))

noncomputable def laws_toInt64SS_suh1.a1_0 {ρ : Type} (N : Nat) (K0 : Option ρ) (K1 : Nat → Nat → Nat → Nat → (Nat → Nat) → (Nat → Nat) → (Nat → Nat) → (Nat → Int) → Option ρ) (av0 : Nat) (rv7 : Int) (ov29 : Nat) (ov30 : Nat → Nat) (ov31 : Nat → Nat) (ov32 : Nat → Nat) (ov33 : Nat → Int) : Option ρ :=
  (if (0 : Int) ≤ (0 : Int) ∧ (0 : Int) ≤ (av0 : Int) ∧ (av0 : Int) ≤ ((((IntKind.i64.wrap ((av0 : Int) + rv7))).toNat : Nat) : Int) then (K1 ((av0 : Int)).toNat ((IntKind.i64.wrap ((av0 : Int) + rv7))).toNat ((IntKind.i64.wrap ((av0 : Int) + rv7))).toNat ov29 ov30 ov31 ov32 ov33) else none)

noncomputable def laws_toInt64SS_suh1.b0 {ρ : Type} (N : Nat) (K0 : Option ρ) (K1 : Nat → Nat → Nat → Nat → (Nat → Nat) → (Nat → Nat) → (Nat → Nat) → (Nat → Int) → Option ρ) (rec : Int → Nat → (Nat → Nat) → (Nat → Nat) → (Nat → Nat) → (Nat → Int) → Option ρ) (out0 : Nat → (Nat → Nat) → (Nat → Nat) → (Nat → Nat) → (Nat → Int) → Option ρ) (av0 : Nat) (gv3 : Nat → Nat) (gv4 : Nat → Nat) (gv6 : Nat → Int) (rv7 : Int) (i8 : Int) (gv9 : Nat) (gv10 : Nat → Nat) (gv11 : Nat → Nat) (gv12 : Nat → Nat) (gv13 : Nat → Int) : Option ρ :=
  (if (decide (i8 < (av0 : Int))) = true then (if (0 : Int) ≤ i8 ∧ i8 < (av0 : Int) then (laws_toInt64S_su1 N (if (0 : Int) ≤ i8 ∧ i8 < ((((IntKind.i64.wrap ((av0 : Int) + rv7))).toNat : Nat) : Int) then (rec ((IntKind.i64.wrap (i8 + 1))) gv9 (upd gv10 (0 + (i8.toNat * 1)) 0) (upd gv11 (0 + (i8.toNat * 1)) 0) (upd gv12 (0 + (i8.toNat * 1)) 0) gv13) else none) (fun rv14 rv15 rv16 rv17 => (if (0 : Int) ≤ i8 ∧ i8 < ((((IntKind.i64.wrap ((av0 : Int) + rv7))).toNat : Nat) : Int) then (rec ((IntKind.i64.wrap (i8 + 1))) (gv9 + rv15) (upd gv10 (0 + (i8.toNat * 1)) gv9) (upd gv11 (0 + (i8.toNat * 1)) rv14) (upd gv12 (0 + (i8.toNat * 1)) rv15) (joinN gv9 gv13 rv17)) else none)) (gv4 (0 + (i8.toNat * 1))) ((gv4 (0 + (i8.toNat * 1))) * 1) (fun z => (gv6 ((gv3 (0 + (i8.toNat * 1))) + z)))) else none) else (out0 gv9 gv10 gv11 gv12 gv13))

noncomputable def laws_toInt64SS_suh1.a0_0 {ρ : Type} (N : Nat) (K0 : Option ρ) (K1 : Nat → Nat → Nat → Nat → (Nat → Nat) → (Nat → Nat) → (Nat → Nat) → (Nat → Int) → Option ρ) (lp1 : Int → Nat → (Nat → Nat) → (Nat → Nat) → (Nat → Nat) → (Nat → Int) → Option ρ) (av0 : Nat) (ov18 : Nat) (ov19 : Nat → Nat) (ov20 : Nat → Nat) (ov21 : Nat → Nat) (ov22 : Nat → Int) : Option ρ :=
  (lp1 ((av0 : Int)) ov18 ov19 ov20 ov21 ov22)

noncomputable def laws_toInt64SS_suh1.l1 {ρ : Type} (N : Nat) (K0 : Option ρ) (K1 : Nat → Nat → Nat → Nat → (Nat → Nat) → (Nat → Nat) → (Nat → Nat) → (Nat → Int) → Option ρ) (av0 : Nat) (rv7 : Int) (out0 : Nat → (Nat → Nat) → (Nat → Nat) → (Nat → Nat) → (Nat → Int) → Option ρ) : Nat → Int → Nat → (Nat → Nat) → (Nat → Nat) → (Nat → Nat) → (Nat → Int) → Option ρ
  | 0, _, _, _, _, _, _ => none
  | m + 1, i23, gv24, gv25, gv26, gv27, gv28 => (laws_toInt64SS_suh1.b1 N K0 K1 ((laws_toInt64SS_suh1.l1 N K0 K1 av0 rv7 out0 m)) out0 av0 rv7 i23 gv24 gv25 gv26 gv27 gv28)

noncomputable def laws_toInt64SS_suh1.l0 {ρ : Type} (N : Nat) (K0 : Option ρ) (K1 : Nat → Nat → Nat → Nat → (Nat → Nat) → (Nat → Nat) → (Nat → Nat) → (Nat → Int) → Option ρ) (av0 : Nat) (gv3 : Nat → Nat) (gv4 : Nat → Nat) (gv6 : Nat → Int) (rv7 : Int) (out0 : Nat → (Nat → Nat) → (Nat → Nat) → (Nat → Nat) → (Nat → Int) → Option ρ) : Nat → Int → Nat → (Nat → Nat) → (Nat → Nat) → (Nat → Nat) → (Nat → Int) → Option ρ
  | 0, _, _, _, _, _, _ => none
  | m + 1, i8, gv9, gv10, gv11, gv12, gv13 => (laws_toInt64SS_suh1.b0 N K0 K1 ((laws_toInt64SS_suh1.l0 N K0 K1 av0 gv3 gv4 gv6 rv7 out0 m)) out0 av0 gv3 gv4 gv6 rv7 i8 gv9 gv10 gv11 gv12 gv13)

noncomputable def laws_toInt64SS_suh1.s {ρ : Type} (N : Nat) (K0 : Option ρ) (K1 : Nat → Nat → Nat → Nat → (Nat → Nat) → (Nat → Nat) → (Nat → Nat) → (Nat → Int) → Option ρ) (lp0 : Int → Int → Nat → (Nat → Nat) → (Nat → Nat) → (Nat → Nat) → (Nat → Int) → Option ρ) (av0 : Nat) : Option ρ :=
  (if ((av0 : Int) == 0) = true then K0 else (laws_roomBehind N (fun rv7 => (if (0 : Int) ≤ (IntKind.i64.wrap ((av0 : Int) + rv7)) ∧ (IntKind.i64.wrap ((av0 : Int) + rv7)) ≤ (IntKind.i64.wrap ((av0 : Int) + rv7)) ∧ (24 : Int) * (IntKind.i64.wrap ((av0 : Int) + rv7)) ≤ 1099511627776 ∧ (IntKind.i64.wrap ((av0 : Int) + rv7)) ≤ 1099511627776 then (lp0 rv7 0 0 (fun _ => 0) (fun _ => 0) (fun _ => 0) (fun _ => 0)) else none)) ((av0 : Int))))

noncomputable def laws_toInt64SS_suh1 {ρ : Type} (N : Nat) (K0 : Option ρ) (K1 : Nat → Nat → Nat → Nat → (Nat → Nat) → (Nat → Nat) → (Nat → Nat) → (Nat → Int) → Option ρ) (av0 : Nat) (gv1 : Nat) (gv2 : Nat) (gv3 : Nat → Nat) (gv4 : Nat → Nat) (gv5 : Nat) (gv6 : Nat → Int) : Option ρ :=
  (laws_toInt64SS_suh1.s N K0 K1 (fun rv7 i8 gv9 gv10 gv11 gv12 gv13 => (laws_toInt64SS_suh1.l0 N K0 K1 av0 gv3 gv4 gv6 rv7 (fun ov18 ov19 ov20 ov21 ov22 => (laws_toInt64SS_suh1.a0_0 N K0 K1 (fun i23 gv24 gv25 gv26 gv27 gv28 => (laws_toInt64SS_suh1.l1 N K0 K1 av0 rv7 (fun ov29 ov30 ov31 ov32 ov33 => (laws_toInt64SS_suh1.a1_0 N K0 K1 av0 rv7 ov29 ov30 ov31 ov32 ov33)) N i23 gv24 gv25 gv26 gv27 gv28)) av0 ov18 ov19 ov20 ov21 ov22)) N i8 gv9 gv10 gv11 gv12 gv13)) av0)

noncomputable def impl_isRows_n.b0 {ρ : Type} (N : Nat) (K0 : Bool → Option ρ) (rec : Option ρ) (out0 : Option ρ) : Option ρ :=
  out0

noncomputable def impl_isRows_n.a0_0 {ρ : Type} (N : Nat) (K0 : Bool → Option ρ) : Option ρ :=
  (K0 true)

noncomputable def impl_isRows_n.l0 {ρ : Type} (N : Nat) (K0 : Bool → Option ρ) (out0 : Option ρ) : Nat → Option ρ
  | 0 => none
  | m + 1 => (impl_isRows_n.b0 N K0 ((impl_isRows_n.l0 N K0 out0 m)) out0)

noncomputable def impl_isRows_n.s {ρ : Type} (N : Nat) (K0 : Bool → Option ρ) (lp0 : Option ρ) : Option ρ :=
  (impl_in N (fun rv0 => (if (!rv0) = true then (K0 false) else lp0)) 0 1 8)

noncomputable def impl_isRows_n {ρ : Type} (N : Nat) (K0 : Bool → Option ρ) : Option ρ :=
  (impl_isRows_n.s N K0 ((impl_isRows_n.l0 N K0 (impl_isRows_n.a0_0 N K0) N)))

noncomputable def impl_IsGroupTable_n.b0 {ρ : Type} (N : Nat) (K0 : Bool → Option ρ) (rec : Option ρ) (out0 : Option ρ) : Option ρ :=
  out0

noncomputable def impl_IsGroupTable_n.a0_0 {ρ : Type} (N : Nat) (K0 : Bool → Option ρ) : Option ρ :=
  (K0 true)

noncomputable def impl_IsGroupTable_n.l0 {ρ : Type} (N : Nat) (K0 : Bool → Option ρ) (out0 : Option ρ) : Nat → Option ρ
  | 0 => none
  | m + 1 => (impl_IsGroupTable_n.b0 N K0 ((impl_IsGroupTable_n.l0 N K0 out0 m)) out0)

noncomputable def impl_IsGroupTable_n.s {ρ : Type} (N : Nat) (K0 : Bool → Option ρ) (lp0 : Option ρ) : Option ρ :=
  (impl_isRows_n N (fun rv0 => (if (!rv0) = true then (K0 false) else lp0)))

noncomputable def impl_IsGroupTable_n {ρ : Type} (N : Nat) (K0 : Bool → Option ρ) : Option ρ :=
  (impl_IsGroupTable_n.s N K0 ((impl_IsGroupTable_n.l0 N K0 (impl_IsGroupTable_n.a0_0 N K0) N)))

noncomputable def impl_productTable_c1_v2 {ρ : Type} (N : Nat) (x0 : Int) (y1 : Int) (gv2 : Nat → Int) : Option ρ :=
  (if (gv2 0) = 0 then none else none)

noncomputable def impl_tableOf_f_v2.b1 {ρ : Type} (N : Nat) (K0 : Nat → Nat → (Nat → Nat) → (Nat → Nat) → (Nat → Int) → Option ρ) (rec : Option ρ) (out0 : Option ρ) (nv0 : Int) (gv1 : Nat → Int) (x3 : Int) : Option ρ :=
  (if (decide (0 < nv0)) = true then (impl_productTable_c1_v2 N x3 0 gv1) else out0)

noncomputable def impl_tableOf_f_v2.a1_0 {ρ : Type} (N : Nat) (K0 : Nat → Nat → (Nat → Nat) → (Nat → Nat) → (Nat → Int) → Option ρ) (rec : Nat → Int → (Nat → Nat) → (Nat → Nat) → (Nat → Int) → Option ρ) (out0 : Nat → (Nat → Nat) → (Nat → Nat) → (Nat → Int) → Option ρ) (outv2 : Nat) (x3 : Int) (gv4 : Nat → Nat) (gv5 : Nat → Nat) (gv6 : Nat → Int) : Option ρ :=
  (if (outv2 + 1) * 24 ≤ 140737488355328 then (rec (outv2 + 1) ((IntKind.i64.wrap (x3 + 1))) (upd gv4 outv2 0) (upd gv5 outv2 0) (joinN 0 gv6 (fun _ => 0))) else none)

noncomputable def impl_tableOf_f_v2.b0 {ρ : Type} (N : Nat) (K0 : Nat → Nat → (Nat → Nat) → (Nat → Nat) → (Nat → Int) → Option ρ) (lp1 : Option ρ) (rec : Nat → Int → (Nat → Nat) → (Nat → Nat) → (Nat → Int) → Option ρ) (out0 : Nat → (Nat → Nat) → (Nat → Nat) → (Nat → Int) → Option ρ) (nv0 : Int) (outv2 : Nat) (x3 : Int) (gv4 : Nat → Nat) (gv5 : Nat → Nat) (gv6 : Nat → Int) : Option ρ :=
  (if (decide (x3 < nv0)) = true then lp1 else (out0 outv2 gv4 gv5 gv6))

noncomputable def impl_tableOf_f_v2.a0_0 {ρ : Type} (N : Nat) (K0 : Nat → Nat → (Nat → Nat) → (Nat → Nat) → (Nat → Int) → Option ρ) (ov7 : Nat) (ov8 : Nat → Nat) (ov9 : Nat → Nat) (ov10 : Nat → Int) : Option ρ :=
  (K0 ov7 0 ov8 ov9 ov10)

noncomputable def impl_tableOf_f_v2.l1 {ρ : Type} (N : Nat) (K0 : Nat → Nat → (Nat → Nat) → (Nat → Nat) → (Nat → Int) → Option ρ) (nv0 : Int) (gv1 : Nat → Int) (x3 : Int) (out0 : Option ρ) : Nat → Option ρ
  | 0 => none
  | m + 1 => (impl_tableOf_f_v2.b1 N K0 ((impl_tableOf_f_v2.l1 N K0 nv0 gv1 x3 out0 m)) out0 nv0 gv1 x3)

noncomputable def impl_tableOf_f_v2.l0 {ρ : Type} (N : Nat) (K0 : Nat → Nat → (Nat → Nat) → (Nat → Nat) → (Nat → Int) → Option ρ) (nv0 : Int) (gv1 : Nat → Int) (out0 : Nat → (Nat → Nat) → (Nat → Nat) → (Nat → Int) → Option ρ) : Nat → Nat → Int → (Nat → Nat) → (Nat → Nat) → (Nat → Int) → Option ρ
  | 0, _, _, _, _, _ => none
  | m + 1, outv2, x3, gv4, gv5, gv6 => (impl_tableOf_f_v2.b0 N K0 ((impl_tableOf_f_v2.l1 N K0 nv0 gv1 x3 (impl_tableOf_f_v2.a1_0 N K0 (impl_tableOf_f_v2.l0 N K0 nv0 gv1 out0 m) out0 outv2 x3 gv4 gv5 gv6) N)) ((impl_tableOf_f_v2.l0 N K0 nv0 gv1 out0 m)) out0 nv0 outv2 x3 gv4 gv5 gv6)

noncomputable def impl_tableOf_f_v2.s {ρ : Type} (N : Nat) (K0 : Nat → Nat → (Nat → Nat) → (Nat → Nat) → (Nat → Int) → Option ρ) (lp0 : Nat → Int → (Nat → Nat) → (Nat → Nat) → (Nat → Int) → Option ρ) : Option ρ :=
  (lp0 0 0 (fun _ => 0) (fun _ => 0) (fun _ => 0))

noncomputable def impl_tableOf_f_v2 {ρ : Type} (N : Nat) (K0 : Nat → Nat → (Nat → Nat) → (Nat → Nat) → (Nat → Int) → Option ρ) (nv0 : Int) (gv1 : Nat → Int) : Option ρ :=
  (impl_tableOf_f_v2.s N K0 (fun outv2 x3 gv4 gv5 gv6 => (impl_tableOf_f_v2.l0 N K0 nv0 gv1 (fun ov7 ov8 ov9 ov10 => (impl_tableOf_f_v2.a0_0 N K0 ov7 ov8 ov9 ov10)) N outv2 x3 gv4 gv5 gv6)))

noncomputable def impl_productTable_nn {ρ : Type} (N : Nat) (K0 : Nat → Nat → (Nat → Nat) → (Nat → Nat) → (Nat → Int) → Option ρ) : Option ρ :=
  (impl_tableOf_f_v2 N (fun rv0 rv1 rv2 rv3 rv4 => (K0 rv0 rv1 rv2 rv3 rv4)) 0 (fun _ => 0))

noncomputable def impl_ProductOfTables_nn {ρ : Type} (N : Nat) (K0 : Nat → Int → Nat → (Nat → Nat) → (Nat → Nat) → (Nat → Int) → Option ρ) : Option ρ :=
  (impl_IsGroupTable_n N (fun rv0 => (if rv0 = true then (impl_IsGroupTable_n N (fun rv1 => (impl_unless N (fun rv2 => (impl_unless N (fun rv3 => (impl_first_s N (fun rv4 => (if (rv4 != 0) = true then (K0 0 rv4 0 (fun _ => 0) (fun _ => 0) (fun _ => 0)) else (impl_productTable_nn N (fun rv5 rv6 rv7 rv8 rv9 => (K0 rv5 0 rv6 rv7 rv8 rv9))))) 2 2 2 (fun z => ((upd (upd (fun _ => 0) 0 rv2) 1 rv3) (0 + z))))) true 3)) (rv1) 1))) else (impl_unless N (fun rv10 => (impl_unless N (fun rv11 => (impl_first_s N (fun rv12 => (if (rv12 != 0) = true then (K0 0 rv12 0 (fun _ => 0) (fun _ => 0) (fun _ => 0)) else (impl_productTable_nn N (fun rv13 rv14 rv15 rv16 rv17 => (K0 rv13 0 rv14 rv15 rv16 rv17))))) 2 2 2 (fun z => ((upd (upd (fun _ => 0) 0 rv10) 1 rv11) (0 + z))))) true 3)) false 1))))

noncomputable def impl_productTable_c1_v3 {ρ : Type} (N : Nat) (x0 : Int) (y1 : Int) (gv2 : Nat → Int) (gv3 : Nat) (gv4 : Nat) (gv5 : Nat) (gv6 : Nat) (gv7 : Nat → Nat) (gv8 : Nat → Nat) (gv9 : Nat → Nat) (gv10 : Nat → Int) : Option ρ :=
  (if (gv2 0) = 0 then none else none)

noncomputable def impl_tableOf_f_v3.b1 {ρ : Type} (N : Nat) (K0 : Nat → Nat → (Nat → Nat) → (Nat → Nat) → (Nat → Int) → Option ρ) (rec : Option ρ) (out0 : Option ρ) (nv0 : Int) (gv1 : Nat → Int) (gv2 : Nat) (gv3 : Nat) (gv5 : Nat) (gv6 : Nat → Nat) (gv7 : Nat → Nat) (gv8 : Nat → Nat) (gv9 : Nat → Int) (x11 : Int) : Option ρ :=
  (if (decide (0 < nv0)) = true then (impl_productTable_c1_v3 N x11 0 gv1 gv2 gv3 (gv3 * 1) gv5 (offN 0 gv6) (offN 0 gv7) (offN 0 gv8) gv9) else out0)

noncomputable def impl_tableOf_f_v3.a1_0 {ρ : Type} (N : Nat) (K0 : Nat → Nat → (Nat → Nat) → (Nat → Nat) → (Nat → Int) → Option ρ) (rec : Nat → Int → (Nat → Nat) → (Nat → Nat) → (Nat → Int) → Option ρ) (out0 : Nat → (Nat → Nat) → (Nat → Nat) → (Nat → Int) → Option ρ) (outv10 : Nat) (x11 : Int) (gv12 : Nat → Nat) (gv13 : Nat → Nat) (gv14 : Nat → Int) : Option ρ :=
  (if (outv10 + 1) * 24 ≤ 140737488355328 then (rec (outv10 + 1) ((IntKind.i64.wrap (x11 + 1))) (upd gv12 outv10 0) (upd gv13 outv10 0) (joinN 0 gv14 (fun _ => 0))) else none)

noncomputable def impl_tableOf_f_v3.b0 {ρ : Type} (N : Nat) (K0 : Nat → Nat → (Nat → Nat) → (Nat → Nat) → (Nat → Int) → Option ρ) (lp1 : Option ρ) (rec : Nat → Int → (Nat → Nat) → (Nat → Nat) → (Nat → Int) → Option ρ) (out0 : Nat → (Nat → Nat) → (Nat → Nat) → (Nat → Int) → Option ρ) (nv0 : Int) (outv10 : Nat) (x11 : Int) (gv12 : Nat → Nat) (gv13 : Nat → Nat) (gv14 : Nat → Int) : Option ρ :=
  (if (decide (x11 < nv0)) = true then lp1 else (out0 outv10 gv12 gv13 gv14))

noncomputable def impl_tableOf_f_v3.a0_0 {ρ : Type} (N : Nat) (K0 : Nat → Nat → (Nat → Nat) → (Nat → Nat) → (Nat → Int) → Option ρ) (ov15 : Nat) (ov16 : Nat → Nat) (ov17 : Nat → Nat) (ov18 : Nat → Int) : Option ρ :=
  (K0 ov15 0 ov16 ov17 ov18)

noncomputable def impl_tableOf_f_v3.l1 {ρ : Type} (N : Nat) (K0 : Nat → Nat → (Nat → Nat) → (Nat → Nat) → (Nat → Int) → Option ρ) (nv0 : Int) (gv1 : Nat → Int) (gv2 : Nat) (gv3 : Nat) (gv5 : Nat) (gv6 : Nat → Nat) (gv7 : Nat → Nat) (gv8 : Nat → Nat) (gv9 : Nat → Int) (x11 : Int) (out0 : Option ρ) : Nat → Option ρ
  | 0 => none
  | m + 1 => (impl_tableOf_f_v3.b1 N K0 ((impl_tableOf_f_v3.l1 N K0 nv0 gv1 gv2 gv3 gv5 gv6 gv7 gv8 gv9 x11 out0 m)) out0 nv0 gv1 gv2 gv3 gv5 gv6 gv7 gv8 gv9 x11)

noncomputable def impl_tableOf_f_v3.l0 {ρ : Type} (N : Nat) (K0 : Nat → Nat → (Nat → Nat) → (Nat → Nat) → (Nat → Int) → Option ρ) (nv0 : Int) (gv1 : Nat → Int) (gv2 : Nat) (gv3 : Nat) (gv5 : Nat) (gv6 : Nat → Nat) (gv7 : Nat → Nat) (gv8 : Nat → Nat) (gv9 : Nat → Int) (out0 : Nat → (Nat → Nat) → (Nat → Nat) → (Nat → Int) → Option ρ) : Nat → Nat → Int → (Nat → Nat) → (Nat → Nat) → (Nat → Int) → Option ρ
  | 0, _, _, _, _, _ => none
  | m + 1, outv10, x11, gv12, gv13, gv14 => (impl_tableOf_f_v3.b0 N K0 ((impl_tableOf_f_v3.l1 N K0 nv0 gv1 gv2 gv3 gv5 gv6 gv7 gv8 gv9 x11 (impl_tableOf_f_v3.a1_0 N K0 (impl_tableOf_f_v3.l0 N K0 nv0 gv1 gv2 gv3 gv5 gv6 gv7 gv8 gv9 out0 m) out0 outv10 x11 gv12 gv13 gv14) N)) ((impl_tableOf_f_v3.l0 N K0 nv0 gv1 gv2 gv3 gv5 gv6 gv7 gv8 gv9 out0 m)) out0 nv0 outv10 x11 gv12 gv13 gv14)

noncomputable def impl_tableOf_f_v3.s {ρ : Type} (N : Nat) (K0 : Nat → Nat → (Nat → Nat) → (Nat → Nat) → (Nat → Int) → Option ρ) (lp0 : Nat → Int → (Nat → Nat) → (Nat → Nat) → (Nat → Int) → Option ρ) : Option ρ :=
  (lp0 0 0 (fun _ => 0) (fun _ => 0) (fun _ => 0))

noncomputable def impl_tableOf_f_v3 {ρ : Type} (N : Nat) (K0 : Nat → Nat → (Nat → Nat) → (Nat → Nat) → (Nat → Int) → Option ρ) (nv0 : Int) (gv1 : Nat → Int) (gv2 : Nat) (gv3 : Nat) (gv4 : Nat) (gv5 : Nat) (gv6 : Nat → Nat) (gv7 : Nat → Nat) (gv8 : Nat → Nat) (gv9 : Nat → Int) : Option ρ :=
  (impl_tableOf_f_v3.s N K0 (fun outv10 x11 gv12 gv13 gv14 => (impl_tableOf_f_v3.l0 N K0 nv0 gv1 gv2 gv3 gv5 gv6 gv7 gv8 gv9 (fun ov15 ov16 ov17 ov18 => (impl_tableOf_f_v3.a0_0 N K0 ov15 ov16 ov17 ov18)) N outv10 x11 gv12 gv13 gv14)))

noncomputable def impl_productTable_nsh {ρ : Type} (N : Nat) (K0 : Nat → Nat → (Nat → Nat) → (Nat → Nat) → (Nat → Int) → Option ρ) (bv0 : Nat) (bv1 : Nat) (gv2 : Nat) (gv3 : Nat) (gv4 : Nat → Nat) (gv5 : Nat → Nat) (gv6 : Nat → Nat) (gv7 : Nat → Int) : Option ρ :=
  (impl_tableOf_f_v3 N (fun rv8 rv9 rv10 rv11 rv12 => (K0 rv8 rv9 rv10 rv11 rv12)) ((IntKind.i64.wrap (0 * (bv0 : Int)))) (fun _ => (bv0 : Int)) bv0 bv1 (bv1 * 1) gv3 (offN 0 gv4) (offN 0 gv5) (offN 0 gv6) gv7)

noncomputable def impl_ProductOfTables_nsh {ρ : Type} (N : Nat) (K0 : Nat → Int → Nat → (Nat → Nat) → (Nat → Nat) → (Nat → Int) → Option ρ) (other0 : Nat) (other1 : Nat) (gv2 : Nat) (gv3 : Nat) (gv4 : Nat → Nat) (gv5 : Nat → Nat) (gv6 : Nat → Nat) (gv7 : Nat → Int) : Option ρ :=
  (impl_IsGroupTable_n N (fun rv8 => (if rv8 = true then (impl_IsGroupTable_sh N (fun rv9 => (impl_unless N (fun rv10 => (impl_unless N (fun rv11 => (impl_first_s N (fun rv12 => (if (rv12 != 0) = true then (K0 0 rv12 0 (fun _ => 0) (fun _ => 0) (fun _ => 0)) else (impl_productTable_nsh N (fun rv13 rv14 rv15 rv16 rv17 => (K0 rv13 0 rv14 rv15 rv16 rv17)) other0 other1 (other1 * 1) gv3 (offN 0 gv4) (offN 0 gv5) (offN 0 gv6) gv7))) 2 2 2 (fun z => ((upd (upd (fun _ => 0) 0 rv10) 1 rv11) (0 + z))))) ((decide ((IntKind.i64.wrap (0 * (other0 : Int))) ≤ 8))) 3)) (rv9) 1)) other0 other1 (other1 * 1) gv3 (offN 0 gv4) (offN 0 gv5) (offN 0 gv6) gv7) else (impl_unless N (fun rv18 => (impl_unless N (fun rv19 => (impl_first_s N (fun rv20 => (if (rv20 != 0) = true then (K0 0 rv20 0 (fun _ => 0) (fun _ => 0) (fun _ => 0)) else (impl_productTable_nsh N (fun rv21 rv22 rv23 rv24 rv25 => (K0 rv21 0 rv22 rv23 rv24 rv25)) other0 other1 (other1 * 1) gv3 (offN 0 gv4) (offN 0 gv5) (offN 0 gv6) gv7))) 2 2 2 (fun z => ((upd (upd (fun _ => 0) 0 rv18) 1 rv19) (0 + z))))) ((decide ((IntKind.i64.wrap (0 * (other0 : Int))) ≤ 8))) 3)) false 1))))

noncomputable def impl_productTable_c1_v4 {ρ : Type} (N : Nat) (x0 : Int) (y1 : Int) (gv2 : Nat → Int) (gv3 : Nat) (gv4 : Nat) (gv5 : Nat) (gv6 : Nat) (gv7 : Nat → Nat) (gv8 : Nat → Nat) (gv9 : Nat → Nat) (gv10 : Nat → Int) : Option ρ :=
  (if (gv2 0) = 0 then none else (if (0 : Int) ≤ (IntKind.i64.wrap (Int.tdiv x0 (gv2 0))) ∧ (IntKind.i64.wrap (Int.tdiv x0 (gv2 0))) < (gv3 : Int) then (if (gv2 0) = 0 then none else (if (0 : Int) ≤ (IntKind.i64.wrap (Int.tdiv y1 (gv2 0))) ∧ (IntKind.i64.wrap (Int.tdiv y1 (gv2 0))) < (((gv8 (0 + (((IntKind.i64.wrap (Int.tdiv x0 (gv2 0)))).toNat * 1))) : Nat) : Int) then (if (gv2 0) = 0 then none else none) else none)) else none))

noncomputable def impl_tableOf_f_v4.b1 {ρ : Type} (N : Nat) (K0 : Nat → Nat → (Nat → Nat) → (Nat → Nat) → (Nat → Int) → Option ρ) (rec : Option ρ) (out0 : Option ρ) (nv0 : Int) (gv1 : Nat → Int) (gv2 : Nat) (gv3 : Nat) (gv5 : Nat) (gv6 : Nat → Nat) (gv7 : Nat → Nat) (gv8 : Nat → Nat) (gv9 : Nat → Int) (x11 : Int) : Option ρ :=
  (if (decide (0 < nv0)) = true then (impl_productTable_c1_v4 N x11 0 gv1 gv2 gv3 (gv3 * 1) gv5 (offN 0 gv6) (offN 0 gv7) (offN 0 gv8) gv9) else out0)

noncomputable def impl_tableOf_f_v4.a1_0 {ρ : Type} (N : Nat) (K0 : Nat → Nat → (Nat → Nat) → (Nat → Nat) → (Nat → Int) → Option ρ) (rec : Nat → Int → (Nat → Nat) → (Nat → Nat) → (Nat → Int) → Option ρ) (out0 : Nat → (Nat → Nat) → (Nat → Nat) → (Nat → Int) → Option ρ) (outv10 : Nat) (x11 : Int) (gv12 : Nat → Nat) (gv13 : Nat → Nat) (gv14 : Nat → Int) : Option ρ :=
  (if (outv10 + 1) * 24 ≤ 140737488355328 then (rec (outv10 + 1) ((IntKind.i64.wrap (x11 + 1))) (upd gv12 outv10 0) (upd gv13 outv10 0) (joinN 0 gv14 (fun _ => 0))) else none)

noncomputable def impl_tableOf_f_v4.b0 {ρ : Type} (N : Nat) (K0 : Nat → Nat → (Nat → Nat) → (Nat → Nat) → (Nat → Int) → Option ρ) (lp1 : Option ρ) (rec : Nat → Int → (Nat → Nat) → (Nat → Nat) → (Nat → Int) → Option ρ) (out0 : Nat → (Nat → Nat) → (Nat → Nat) → (Nat → Int) → Option ρ) (nv0 : Int) (outv10 : Nat) (x11 : Int) (gv12 : Nat → Nat) (gv13 : Nat → Nat) (gv14 : Nat → Int) : Option ρ :=
  (if (decide (x11 < nv0)) = true then lp1 else (out0 outv10 gv12 gv13 gv14))

noncomputable def impl_tableOf_f_v4.a0_0 {ρ : Type} (N : Nat) (K0 : Nat → Nat → (Nat → Nat) → (Nat → Nat) → (Nat → Int) → Option ρ) (ov15 : Nat) (ov16 : Nat → Nat) (ov17 : Nat → Nat) (ov18 : Nat → Int) : Option ρ :=
  (K0 ov15 0 ov16 ov17 ov18)

noncomputable def impl_tableOf_f_v4.l1 {ρ : Type} (N : Nat) (K0 : Nat → Nat → (Nat → Nat) → (Nat → Nat) → (Nat → Int) → Option ρ) (nv0 : Int) (gv1 : Nat → Int) (gv2 : Nat) (gv3 : Nat) (gv5 : Nat) (gv6 : Nat → Nat) (gv7 : Nat → Nat) (gv8 : Nat → Nat) (gv9 : Nat → Int) (x11 : Int) (out0 : Option ρ) : Nat → Option ρ
  | 0 => none
  | m + 1 => (impl_tableOf_f_v4.b1 N K0 ((impl_tableOf_f_v4.l1 N K0 nv0 gv1 gv2 gv3 gv5 gv6 gv7 gv8 gv9 x11 out0 m)) out0 nv0 gv1 gv2 gv3 gv5 gv6 gv7 gv8 gv9 x11)

noncomputable def impl_tableOf_f_v4.l0 {ρ : Type} (N : Nat) (K0 : Nat → Nat → (Nat → Nat) → (Nat → Nat) → (Nat → Int) → Option ρ) (nv0 : Int) (gv1 : Nat → Int) (gv2 : Nat) (gv3 : Nat) (gv5 : Nat) (gv6 : Nat → Nat) (gv7 : Nat → Nat) (gv8 : Nat → Nat) (gv9 : Nat → Int) (out0 : Nat → (Nat → Nat) → (Nat → Nat) → (Nat → Int) → Option ρ) : Nat → Nat → Int → (Nat → Nat) → (Nat → Nat) → (Nat → Int) → Option ρ
  | 0, _, _, _, _, _ => none
  | m + 1, outv10, x11, gv12, gv13, gv14 => (impl_tableOf_f_v4.b0 N K0 ((impl_tableOf_f_v4.l1 N K0 nv0 gv1 gv2 gv3 gv5 gv6 gv7 gv8 gv9 x11 (impl_tableOf_f_v4.a1_0 N K0 (impl_tableOf_f_v4.l0 N K0 nv0 gv1 gv2 gv3 gv5 gv6 gv7 gv8 gv9 out0 m) out0 outv10 x11 gv12 gv13 gv14) N)) ((impl_tableOf_f_v4.l0 N K0 nv0 gv1 gv2 gv3 gv5 gv6 gv7 gv8 gv9 out0 m)) out0 nv0 outv10 x11 gv12 gv13 gv14)

noncomputable def impl_tableOf_f_v4.s {ρ : Type} (N : Nat) (K0 : Nat → Nat → (Nat → Nat) → (Nat → Nat) → (Nat → Int) → Option ρ) (lp0 : Nat → Int → (Nat → Nat) → (Nat → Nat) → (Nat → Int) → Option ρ) : Option ρ :=
  (lp0 0 0 (fun _ => 0) (fun _ => 0) (fun _ => 0))

noncomputable def impl_tableOf_f_v4 {ρ : Type} (N : Nat) (K0 : Nat → Nat → (Nat → Nat) → (Nat → Nat) → (Nat → Int) → Option ρ) (nv0 : Int) (gv1 : Nat → Int) (gv2 : Nat) (gv3 : Nat) (gv4 : Nat) (gv5 : Nat) (gv6 : Nat → Nat) (gv7 : Nat → Nat) (gv8 : Nat → Nat) (gv9 : Nat → Int) : Option ρ :=
  (impl_tableOf_f_v4.s N K0 (fun outv10 x11 gv12 gv13 gv14 => (impl_tableOf_f_v4.l0 N K0 nv0 gv1 gv2 gv3 gv5 gv6 gv7 gv8 gv9 (fun ov15 ov16 ov17 ov18 => (impl_tableOf_f_v4.a0_0 N K0 ov15 ov16 ov17 ov18)) N outv10 x11 gv12 gv13 gv14)))

noncomputable def impl_productTable_shn {ρ : Type} (N : Nat) (K0 : Nat → Nat → (Nat → Nat) → (Nat → Nat) → (Nat → Int) → Option ρ) (av0 : Nat) (av1 : Nat) (gv2 : Nat) (gv3 : Nat) (gv4 : Nat → Nat) (gv5 : Nat → Nat) (gv6 : Nat → Nat) (gv7 : Nat → Int) : Option ρ :=
  (impl_tableOf_f_v4 N (fun rv8 rv9 rv10 rv11 rv12 => (K0 rv8 rv9 rv10 rv11 rv12)) ((IntKind.i64.wrap ((av0 : Int) * 0))) (fun _ => 0) av0 av1 (av1 * 1) gv3 (offN 0 gv4) (offN 0 gv5) (offN 0 gv6) gv7)

noncomputable def impl_ProductOfTables_shn {ρ : Type} (N : Nat) (K0 : Nat → Int → Nat → (Nat → Nat) → (Nat → Nat) → (Nat → Int) → Option ρ) (table0 : Nat) (table1 : Nat) (gv2 : Nat) (gv3 : Nat) (gv4 : Nat → Nat) (gv5 : Nat → Nat) (gv6 : Nat → Nat) (gv7 : Nat → Int) : Option ρ :=
  (impl_IsGroupTable_sh N (fun rv8 => (if rv8 = true then (impl_IsGroupTable_n N (fun rv9 => (impl_unless N (fun rv10 => (impl_unless N (fun rv11 => (impl_first_s N (fun rv12 => (if (rv12 != 0) = true then (K0 0 rv12 0 (fun _ => 0) (fun _ => 0) (fun _ => 0)) else (impl_productTable_shn N (fun rv13 rv14 rv15 rv16 rv17 => (K0 rv13 0 rv14 rv15 rv16 rv17)) table0 table1 (table1 * 1) gv3 (offN 0 gv4) (offN 0 gv5) (offN 0 gv6) gv7))) 2 2 2 (fun z => ((upd (upd (fun _ => 0) 0 rv10) 1 rv11) (0 + z))))) ((decide ((IntKind.i64.wrap ((table0 : Int) * 0)) ≤ 8))) 3)) (rv9) 1))) else (impl_unless N (fun rv18 => (impl_unless N (fun rv19 => (impl_first_s N (fun rv20 => (if (rv20 != 0) = true then (K0 0 rv20 0 (fun _ => 0) (fun _ => 0) (fun _ => 0)) else (impl_productTable_shn N (fun rv21 rv22 rv23 rv24 rv25 => (K0 rv21 0 rv22 rv23 rv24 rv25)) table0 table1 (table1 * 1) gv3 (offN 0 gv4) (offN 0 gv5) (offN 0 gv6) gv7))) 2 2 2 (fun z => ((upd (upd (fun _ => 0) 0 rv18) 1 rv19) (0 + z))))) ((decide ((IntKind.i64.wrap ((table0 : Int) * 0)) ≤ 8))) 3)) false 1))) table0 table1 (table1 * 1) gv3 (offN 0 gv4) (offN 0 gv5) (offN 0 gv6) gv7)

noncomputable def laws_FnExactProductOfTables_suhsuh {ρ : Type} (N : Nat) (K0 : Bool → Option ρ) (aTable0 : Nat) (aOther1 : Nat) (gv2 : Nat) (gv3 : Nat) (gv4 : Nat → Nat) (gv5 : Nat → Nat) (gv6 : Nat) (gv7 : Nat → Int) (gv8 : Nat) (gv9 : Nat) (gv10 : Nat → Nat) (gv11 : Nat → Nat) (gv12 : Nat) (gv13 : Nat → Int) : Option ρ :=
  (laws_szInt64SS_suh N (fun rv14 => (if (decide (rv14 < 0)) = true then (K0 true) else (laws_szInt64SS_suh N (fun rv15 => (if (decide (rv15 < 0)) = true then (K0 true) else (laws_toInt64SS_suh0 N (fun rv16 rv17 rv18 rv19 rv20 rv21 rv22 rv23 => (laws_toInt64SS_suh0 N (fun rv24 rv25 rv26 rv27 rv28 rv29 rv30 rv31 => (spec_ProductOfTables_shsh N (fun rv32 rv33 rv34 rv35 rv36 rv37 => (laws_toInt64SS_suh0 N (fun rv38 rv39 rv40 rv41 rv42 rv43 rv44 rv45 => (laws_toInt64SS_suh0 N (fun rv46 rv47 rv48 rv49 rv50 rv51 rv52 rv53 => (impl_ProductOfTables_shsh N (fun rv54 rv55 rv56 rv57 rv58 rv59 => (laws_eqInt64SS_suhsuh N (fun rv60 => (if (!rv60) = true then (K0 false) else (if (rv55 != rv33) = true then (K0 false) else (laws_toInt64SS_suh0 N (fun rv61 rv62 rv63 rv64 rv65 rv66 rv67 rv68 => (laws_intactInt64SS_shsh N (fun rv69 => (if (!rv69) = true then (K0 false) else (laws_toInt64SS_suh0 N (fun rv70 rv71 rv72 rv73 rv74 rv75 rv76 rv77 => (laws_intactInt64SS_shsh N (fun rv78 => (if (!rv78) = true then (K0 false) else (laws_markInt64SS_sh N (fun rv79 rv80 => (laws_markInt64SS_sh N (fun rv81 rv82 => (if (decide (rv81 < 0)) = true then (K0 false) else (laws_eqInt64SS_suhsuh N (fun rv83 => (if (!rv83) = true then (K0 false) else (if (rv55 != rv33) = true then (K0 false) else (laws_markInt64SS_suh N (fun rv84 rv85 => (laws_heldInt64SS_suh N (fun rv86 => (if (decide (rv86 < 0)) = true then (K0 false) else (if (rv86 != rv84) = true then (K0 false) else (laws_toInt64SS_suh1 N (laws_toInt64SS_suh1 N (impl_ProductOfTables_nn N (fun rv87 rv88 rv89 rv90 rv91 rv92 => (laws_eqInt64SS_suhsuh N (fun rv93 => (if (!rv93) = true then (K0 false) else (if (rv88 != rv33) = true then (K0 false) else (laws_heldInt64SS_suh N (fun rv94 => (if (decide (rv94 < 0)) = true then (K0 false) else (if (rv94 != rv84) = true then (K0 false) else (K0 true)))) rv54 101 (rv54 * 1) rv56 (offN 0 rv57) (offN 0 rv58) rv85)))) rv87 rv32 (rv87 * 1) rv89 (offN 0 rv90) (offN 0 rv91) (rv32 * 1) rv34 (offN 0 rv35) (offN 0 rv36) rv92 rv37))) (fun rv95 rv96 rv97 rv98 rv99 rv100 rv101 rv102 => (impl_ProductOfTables_nsh N (fun rv103 rv104 rv105 rv106 rv107 rv108 => (laws_eqInt64SS_suhsuh N (fun rv109 => (if (!rv109) = true then (K0 false) else (if (rv104 != rv33) = true then (K0 false) else (laws_heldInt64SS_suh N (fun rv110 => (if (decide (rv110 < 0)) = true then (K0 false) else (if (rv110 != rv84) = true then (K0 false) else (K0 true)))) rv54 101 (rv54 * 1) rv56 (offN 0 rv57) (offN 0 rv58) rv85)))) rv103 rv32 (rv103 * 1) rv105 (offN 0 rv106) (offN 0 rv107) (rv32 * 1) rv34 (offN 0 rv35) (offN 0 rv36) rv108 rv37)) rv95 rv96 (rv96 * 1) rv98 (offN 0 rv99) (offN 0 rv100) (offN 0 rv101) rv102)) aOther1 (aOther1 * 1) gv9 (offN 0 gv10) (offN 0 gv11) gv12 gv13) (fun rv111 rv112 rv113 rv114 rv115 rv116 rv117 rv118 => (laws_toInt64SS_suh1 N (impl_ProductOfTables_shn N (fun rv119 rv120 rv121 rv122 rv123 rv124 => (laws_eqInt64SS_suhsuh N (fun rv125 => (if (!rv125) = true then (K0 false) else (if (rv120 != rv33) = true then (K0 false) else (laws_heldInt64SS_suh N (fun rv126 => (if (decide (rv126 < 0)) = true then (K0 false) else (if (rv126 != rv84) = true then (K0 false) else (K0 true)))) rv54 101 (rv54 * 1) rv56 (offN 0 rv57) (offN 0 rv58) rv85)))) rv119 rv32 (rv119 * 1) rv121 (offN 0 rv122) (offN 0 rv123) (rv32 * 1) rv34 (offN 0 rv35) (offN 0 rv36) rv124 rv37)) rv111 rv112 (rv112 * 1) rv114 (offN 0 rv115) (offN 0 rv116) (offN 0 rv117) rv118) (fun rv127 rv128 rv129 rv130 rv131 rv132 rv133 rv134 => (impl_ProductOfTables_shsh N (fun rv135 rv136 rv137 rv138 rv139 rv140 => (laws_eqInt64SS_suhsuh N (fun rv141 => (if (!rv141) = true then (K0 false) else (if (rv136 != rv33) = true then (K0 false) else (laws_heldInt64SS_suh N (fun rv142 => (if (decide (rv142 < 0)) = true then (K0 false) else (if (rv142 != rv84) = true then (K0 false) else (K0 true)))) rv54 101 (rv54 * 1) rv56 (offN 0 rv57) (offN 0 rv58) rv85)))) rv135 rv32 (rv135 * 1) rv137 (offN 0 rv138) (offN 0 rv139) (rv32 * 1) rv34 (offN 0 rv35) (offN 0 rv36) rv140 rv37)) rv111 rv112 rv127 rv128 (rv112 * 1) rv114 (offN 0 rv115) (offN 0 rv116) (offN 0 rv117) (rv128 * 1) rv130 (offN 0 rv131) (offN 0 rv132) (offN 0 rv133) rv118 rv134)) aOther1 (aOther1 * 1) gv9 (offN 0 gv10) (offN 0 gv11) gv12 gv13)) aTable0 (aTable0 * 1) gv3 (offN 0 gv4) (offN 0 gv5) gv6 gv7)))) rv54 101 (rv54 * 1) rv56 (offN 0 rv57) (offN 0 rv58) rv85)) rv54 101 (rv54 * 1) rv56 (offN 0 rv57) (offN 0 rv58) rv59)))) rv54 rv32 (rv54 * 1) rv56 (offN 0 rv57) (offN 0 rv58) (rv32 * 1) rv34 (offN 0 rv35) (offN 0 rv36) rv59 rv37))) rv46 rv47 rv79 (rv47 * 1) rv49 (offN 0 rv50) (offN 0 rv51) (offN 0 rv52) rv53)) rv38 rv39 101 (rv39 * 1) rv41 (offN 0 rv42) (offN 0 rv43) (offN 0 rv44) rv45))) rv46 rv47 rv70 rv71 (rv47 * 1) rv49 (offN 0 rv50) (offN 0 rv51) (offN 0 rv52) (rv71 * 1) rv73 (offN 0 rv74) (offN 0 rv75) (offN 0 rv76) rv53 rv77)) aOther1 (aOther1 * 1) gv9 (offN 0 gv10) (offN 0 gv11) gv12 gv13))) rv38 rv39 rv61 rv62 (rv39 * 1) rv41 (offN 0 rv42) (offN 0 rv43) (offN 0 rv44) (rv62 * 1) rv64 (offN 0 rv65) (offN 0 rv66) (offN 0 rv67) rv45 rv68)) aTable0 (aTable0 * 1) gv3 (offN 0 gv4) (offN 0 gv5) gv6 gv7)))) rv54 rv32 (rv54 * 1) rv56 (offN 0 rv57) (offN 0 rv58) (rv32 * 1) rv34 (offN 0 rv35) (offN 0 rv36) rv59 rv37)) rv38 rv39 rv46 rv47 (rv39 * 1) rv41 (offN 0 rv42) (offN 0 rv43) (offN 0 rv44) (rv47 * 1) rv49 (offN 0 rv50) (offN 0 rv51) (offN 0 rv52) rv45 rv53)) aOther1 (aOther1 * 1) gv9 (offN 0 gv10) (offN 0 gv11) gv12 gv13)) aTable0 (aTable0 * 1) gv3 (offN 0 gv4) (offN 0 gv5) gv6 gv7)) rv16 rv17 rv24 rv25 (rv17 * 1) rv19 (offN 0 rv20) (offN 0 rv21) (offN 0 rv22) (rv25 * 1) rv27 (offN 0 rv28) (offN 0 rv29) (offN 0 rv30) rv23 rv31)) aOther1 (aOther1 * 1) gv9 (offN 0 gv10) (offN 0 gv11) gv12 gv13)) aTable0 (aTable0 * 1) gv3 (offN 0 gv4) (offN 0 gv5) gv6 gv7))) aOther1 rv14 (aOther1 * 1) gv9 (offN 0 gv10) (offN 0 gv11) gv12 gv13))) aTable0 1000000 (aTable0 * 1) gv3 (offN 0 gv4) (offN 0 gv5) gv6 gv7)
end Go.Proofs.YtiifnnokpjbapaaRR.H
