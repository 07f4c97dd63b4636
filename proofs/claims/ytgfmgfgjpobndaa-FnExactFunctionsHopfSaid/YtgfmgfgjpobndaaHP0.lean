/- The functions that the program computes, in plain Lean. -/
import Derived.Test.YtgfmgfgjpobndaaHyUse
namespace Go.Proofs.Ytgfmgfgjpobndaa.H
set_option linter.unusedVariables false
set_option linter.unusedSimpArgs false
open Go Go.RowKit Go.Proofs.Ytgfmgfgjpobndaa.Hy
set_option linter.unusedVariables false
set_option maxRecDepth 100000
noncomputable def laws_szInt64S_su {ρ : Type} (N : Nat) (K0 : Int → Option ρ) (av0 : Nat) (left1 : Int) (gv2 : Nat) (gv3 : Nat → Int) : Option ρ :=
  (if (decide ((IntKind.i64.wrap (left1 - (av0 : Int))) < 0)) = true then (K0 (-1)) else (K0 ((IntKind.i64.wrap (left1 - (av0 : Int))))))

noncomputable def laws_szInt64SS_suh.b0 {ρ : Type} (N : Nat) (K0 : Int → Option ρ) (rec : Int → Int → Option ρ) (out0 : Int → Option ρ) (av0 : Nat) (gv4 : Nat → Nat) (gv5 : Nat → Nat) (gv7 : Nat → Int) (left8 : Int) (i9 : Int) : Option ρ :=
  (if (decide (i9 < (av0 : Int))) = true then (if (0 : Int) ≤ i9 ∧ i9 < (av0 : Int) then (laws_szInt64S_su N (fun rv10 => (if (decide (rv10 < 0)) = true then (K0 (-1)) else (rec rv10 ((IntKind.i64.wrap (i9 + 1)))))) (gv5 (0 + (i9.toNat * 1))) left8 ((gv5 (0 + (i9.toNat * 1))) * 1) (fun z => (gv7 ((gv4 (0 + (i9.toNat * 1))) + z)))) else none) else (out0 left8))

noncomputable def laws_szInt64SS_suh.a0_0 {ρ : Type} (N : Nat) (K0 : Int → Option ρ) (ov11 : Int) : Option ρ :=
  (K0 ov11)

noncomputable def laws_szInt64SS_suh.l0 {ρ : Type} (N : Nat) (K0 : Int → Option ρ) (av0 : Nat) (gv4 : Nat → Nat) (gv5 : Nat → Nat) (gv7 : Nat → Int) (out0 : Int → Option ρ) : Nat → Int → Int → Option ρ
  | 0, _, _ => none
  | m + 1, left8, i9 => (laws_szInt64SS_suh.b0 N K0 ((laws_szInt64SS_suh.l0 N K0 av0 gv4 gv5 gv7 out0 m)) out0 av0 gv4 gv5 gv7 left8 i9)

noncomputable def laws_szInt64SS_suh.s {ρ : Type} (N : Nat) (K0 : Int → Option ρ) (lp0 : Int → Int → Option ρ) (av0 : Nat) (left1 : Int) : Option ρ :=
  (if (decide ((IntKind.i64.wrap (left1 - (av0 : Int))) < 0)) = true then (K0 (-1)) else (lp0 ((IntKind.i64.wrap (left1 - (av0 : Int)))) 0))

noncomputable def laws_szInt64SS_suh {ρ : Type} (N : Nat) (K0 : Int → Option ρ) (av0 : Nat) (left1 : Int) (gv2 : Nat) (gv3 : Nat) (gv4 : Nat → Nat) (gv5 : Nat → Nat) (gv6 : Nat) (gv7 : Nat → Int) : Option ρ :=
  (laws_szInt64SS_suh.s N K0 (fun left8 i9 => (laws_szInt64SS_suh.l0 N K0 av0 gv4 gv5 gv7 (fun ov11 => (laws_szInt64SS_suh.a0_0 N K0 ov11)) N left8 i9)) av0 left1)

noncomputable def laws_roomBehind {ρ : Type} (N : Nat) (K0 : Int → Option ρ) (nv0 : Int) : Option ρ :=
  (if ((Int.tmod nv0 6) == 5) = true then (K0 0) else (if ((Int.tmod nv0 3) == 0) = true then (K0 1) else (K0 nv0)))

noncomputable def laws_toInt64S_su0.b1 {ρ : Type} (N : Nat) (K0 : Nat → Nat → Nat → (Nat → Int) → Option ρ) (rec : Int → (Nat → Int) → Option ρ) (out0 : (Nat → Int) → Option ρ) (av0 : Nat) (rv3 : Int) (i7 : Int) (gv8 : Nat → Int) : Option ρ :=
  (if (decide (i7 < ((((IntKind.i64.wrap ((av0 : Int) + rv3))).toNat : Nat) : Int))) = true then (if (0 : Int) ≤ i7 ∧ i7 < ((((IntKind.i64.wrap ((av0 : Int) + rv3))).toNat : Nat) : Int) then (rec ((IntKind.i64.wrap (i7 + 1))) (upd gv8 (0 + (i7.toNat * 1)) (-7000000000000000101))) else none) else (out0 gv8))

noncomputable def laws_toInt64S_su0.a1_0 {ρ : Type} (N : Nat) (K0 : Nat → Nat → Nat → (Nat → Int) → Option ρ) (av0 : Nat) (rv3 : Int) (ov9 : Nat → Int) : Option ρ :=
  (if (0 : Int) ≤ (0 : Int) ∧ (0 : Int) ≤ (av0 : Int) ∧ (av0 : Int) ≤ ((((IntKind.i64.wrap ((av0 : Int) + rv3))).toNat : Nat) : Int) then (K0 ((av0 : Int)).toNat ((IntKind.i64.wrap ((av0 : Int) + rv3))).toNat (((IntKind.i64.wrap ((av0 : Int) + rv3))).toNat * 1) ov9) else none)

noncomputable def laws_toInt64S_su0.b0 {ρ : Type} (N : Nat) (K0 : Nat → Nat → Nat → (Nat → Int) → Option ρ) (rec : Int → (Nat → Int) → Option ρ) (out0 : (Nat → Int) → Option ρ) (av0 : Nat) (gv2 : Nat → Int) (rv3 : Int) (i4 : Int) (gv5 : Nat → Int) : Option ρ :=
  (if (decide (i4 < (av0 : Int))) = true then (if (0 : Int) ≤ i4 ∧ i4 < (av0 : Int) then (if (0 : Int) ≤ i4 ∧ i4 < ((((IntKind.i64.wrap ((av0 : Int) + rv3))).toNat : Nat) : Int) then (rec ((IntKind.i64.wrap (i4 + 1))) (upd gv5 (0 + (i4.toNat * 1)) (gv2 (0 + (i4.toNat * 1))))) else none) else none) else (out0 gv5))

noncomputable def laws_toInt64S_su0.a0_0 {ρ : Type} (N : Nat) (K0 : Nat → Nat → Nat → (Nat → Int) → Option ρ) (lp1 : Int → (Nat → Int) → Option ρ) (av0 : Nat) (ov6 : Nat → Int) : Option ρ :=
  (lp1 ((av0 : Int)) ov6)

noncomputable def laws_toInt64S_su0.l1 {ρ : Type} (N : Nat) (K0 : Nat → Nat → Nat → (Nat → Int) → Option ρ) (av0 : Nat) (rv3 : Int) (out0 : (Nat → Int) → Option ρ) : Nat → Int → (Nat → Int) → Option ρ
  | 0, _, _ => none
  | m + 1, i7, gv8 => (laws_toInt64S_su0.b1 N K0 ((laws_toInt64S_su0.l1 N K0 av0 rv3 out0 m)) out0 av0 rv3 i7 gv8)

noncomputable def laws_toInt64S_su0.l0 {ρ : Type} (N : Nat) (K0 : Nat → Nat → Nat → (Nat → Int) → Option ρ) (av0 : Nat) (gv2 : Nat → Int) (rv3 : Int) (out0 : (Nat → Int) → Option ρ) : Nat → Int → (Nat → Int) → Option ρ
  | 0, _, _ => none
  | m + 1, i4, gv5 => (laws_toInt64S_su0.b0 N K0 ((laws_toInt64S_su0.l0 N K0 av0 gv2 rv3 out0 m)) out0 av0 gv2 rv3 i4 gv5)

noncomputable def laws_toInt64S_su0.s {ρ : Type} (N : Nat) (K0 : Nat → Nat → Nat → (Nat → Int) → Option ρ) (lp0 : Int → Int → (Nat → Int) → Option ρ) (av0 : Nat) : Option ρ :=
  (laws_roomBehind N (fun rv3 => (if (0 : Int) ≤ (IntKind.i64.wrap ((av0 : Int) + rv3)) ∧ (IntKind.i64.wrap ((av0 : Int) + rv3)) ≤ (IntKind.i64.wrap ((av0 : Int) + rv3)) ∧ (8 : Int) * (IntKind.i64.wrap ((av0 : Int) + rv3)) ≤ 1099511627776 ∧ (IntKind.i64.wrap ((av0 : Int) + rv3)) ≤ 1099511627776 then (lp0 rv3 0 (fun _ => 0)) else none)) ((av0 : Int)))

noncomputable def laws_toInt64S_su0 {ρ : Type} (N : Nat) (K0 : Nat → Nat → Nat → (Nat → Int) → Option ρ) (av0 : Nat) (gv1 : Nat) (gv2 : Nat → Int) : Option ρ :=
  (laws_toInt64S_su0.s N K0 (fun rv3 i4 gv5 => (laws_toInt64S_su0.l0 N K0 av0 gv2 rv3 (fun ov6 => (laws_toInt64S_su0.a0_0 N K0 (fun i7 gv8 => (laws_toInt64S_su0.l1 N K0 av0 rv3 (fun ov9 => (laws_toInt64S_su0.a1_0 N K0 av0 rv3 ov9)) N i7 gv8)) av0 ov6)) N i4 gv5)) av0)

noncomputable def laws_toInt64SS_suh0.b1 {ρ : Type} (N : Nat) (K0 : Nat → Nat → Nat → Nat → (Nat → Nat) → (Nat → Nat) → (Nat → Nat) → (Nat → Int) → Option ρ) (rec : Int → Nat → (Nat → Nat) → (Nat → Nat) → (Nat → Nat) → (Nat → Int) → Option ρ) (out0 : Nat → (Nat → Nat) → (Nat → Nat) → (Nat → Nat) → (Nat → Int) → Option ρ) (av0 : Nat) (rv7 : Int) (i23 : Int) (gv24 : Nat) (gv25 : Nat → Nat) (gv26 : Nat → Nat) (gv27 : Nat → Nat) (gv28 : Nat → Int) : Option ρ :=
  (if (decide (i23 < ((((IntKind.i64.wrap ((av0 : Int) + rv7))).toNat : Nat) : Int))) = true then (if (0 : Int) ≤ i23 ∧ i23 < ((((IntKind.i64.wrap ((av0 : Int) + rv7))).toNat : Nat) : Int) then (rec ((IntKind.i64.wrap (i23 + 1))) (gv24 + 1) (upd gv25 (0 + (i23.toNat * 1)) gv24) (upd gv26 (0 + (i23.toNat * 1)) 1) (upd gv27 (0 + (i23.toNat * 1)) 1) (joinN gv24 gv28 (upd (fun _ => 0) 0 (-7000000000000000101)))) else none) else (out0 gv24 gv25 gv26 gv27 gv28))

noncomputable def laws_toInt64SS_suh0.a1_0 {ρ : Type} (N : Nat) (K0 : Nat → Nat → Nat → Nat → (Nat → Nat) → (Nat → Nat) → (Nat → Nat) → (Nat → Int) → Option ρ) (av0 : Nat) (rv7 : Int) (ov29 : Nat) (ov30 : Nat → Nat) (ov31 : Nat → Nat) (ov32 : Nat → Nat) (ov33 : Nat → Int) : Option ρ :=
  (if (0 : Int) ≤ (0 : Int) ∧ (0 : Int) ≤ (av0 : Int) ∧ (av0 : Int) ≤ ((((IntKind.i64.wrap ((av0 : Int) + rv7))).toNat : Nat) : Int) then (K0 ((av0 : Int)).toNat ((IntKind.i64.wrap ((av0 : Int) + rv7))).toNat ((IntKind.i64.wrap ((av0 : Int) + rv7))).toNat ov29 ov30 ov31 ov32 ov33) else none)

noncomputable def laws_toInt64SS_suh0.b0 {ρ : Type} (N : Nat) (K0 : Nat → Nat → Nat → Nat → (Nat → Nat) → (Nat → Nat) → (Nat → Nat) → (Nat → Int) → Option ρ) (rec : Int → Nat → (Nat → Nat) → (Nat → Nat) → (Nat → Nat) → (Nat → Int) → Option ρ) (out0 : Nat → (Nat → Nat) → (Nat → Nat) → (Nat → Nat) → (Nat → Int) → Option ρ) (av0 : Nat) (gv3 : Nat → Nat) (gv4 : Nat → Nat) (gv6 : Nat → Int) (rv7 : Int) (i8 : Int) (gv9 : Nat) (gv10 : Nat → Nat) (gv11 : Nat → Nat) (gv12 : Nat → Nat) (gv13 : Nat → Int) : Option ρ :=
  (if (decide (i8 < (av0 : Int))) = true then (if (0 : Int) ≤ i8 ∧ i8 < (av0 : Int) then (laws_toInt64S_su0 N (fun rv14 rv15 rv16 rv17 => (if (0 : Int) ≤ i8 ∧ i8 < ((((IntKind.i64.wrap ((av0 : Int) + rv7))).toNat : Nat) : Int) then (rec ((IntKind.i64.wrap (i8 + 1))) (gv9 + rv15) (upd gv10 (0 + (i8.toNat * 1)) gv9) (upd gv11 (0 + (i8.toNat * 1)) rv14) (upd gv12 (0 + (i8.toNat * 1)) rv15) (joinN gv9 gv13 rv17)) else none)) (gv4 (0 + (i8.toNat * 1))) ((gv4 (0 + (i8.toNat * 1))) * 1) (fun z => (gv6 ((gv3 (0 + (i8.toNat * 1))) + z)))) else none) else (out0 gv9 gv10 gv11 gv12 gv13))

noncomputable def laws_toInt64SS_suh0.a0_0 {ρ : Type} (N : Nat) (K0 : Nat → Nat → Nat → Nat → (Nat → Nat) → (Nat → Nat) → (Nat → Nat) → (Nat → Int) → Option ρ) (lp1 : Int → Nat → (Nat → Nat) → (Nat → Nat) → (Nat → Nat) → (Nat → Int) → Option ρ) (av0 : Nat) (ov18 : Nat) (ov19 : Nat → Nat) (ov20 : Nat → Nat) (ov21 : Nat → Nat) (ov22 : Nat → Int) : Option ρ :=
  (lp1 ((av0 : Int)) ov18 ov19 ov20 ov21 ov22)

noncomputable def laws_toInt64SS_suh0.l1 {ρ : Type} (N : Nat) (K0 : Nat → Nat → Nat → Nat → (Nat → Nat) → (Nat → Nat) → (Nat → Nat) → (Nat → Int) → Option ρ) (av0 : Nat) (rv7 : Int) (out0 : Nat → (Nat → Nat) → (Nat → Nat) → (Nat → Nat) → (Nat → Int) → Option ρ) : Nat → Int → Nat → (Nat → Nat) → (Nat → Nat) → (Nat → Nat) → (Nat → Int) → Option ρ
  | 0, _, _, _, _, _, _ => none
  | m + 1, i23, gv24, gv25, gv26, gv27, gv28 => (laws_toInt64SS_suh0.b1 N K0 ((laws_toInt64SS_suh0.l1 N K0 av0 rv7 out0 m)) out0 av0 rv7 i23 gv24 gv25 gv26 gv27 gv28)

noncomputable def laws_toInt64SS_suh0.l0 {ρ : Type} (N : Nat) (K0 : Nat → Nat → Nat → Nat → (Nat → Nat) → (Nat → Nat) → (Nat → Nat) → (Nat → Int) → Option ρ) (av0 : Nat) (gv3 : Nat → Nat) (gv4 : Nat → Nat) (gv6 : Nat → Int) (rv7 : Int) (out0 : Nat → (Nat → Nat) → (Nat → Nat) → (Nat → Nat) → (Nat → Int) → Option ρ) : Nat → Int → Nat → (Nat → Nat) → (Nat → Nat) → (Nat → Nat) → (Nat → Int) → Option ρ
  | 0, _, _, _, _, _, _ => none
  | m + 1, i8, gv9, gv10, gv11, gv12, gv13 => (laws_toInt64SS_suh0.b0 N K0 ((laws_toInt64SS_suh0.l0 N K0 av0 gv3 gv4 gv6 rv7 out0 m)) out0 av0 gv3 gv4 gv6 rv7 i8 gv9 gv10 gv11 gv12 gv13)

noncomputable def laws_toInt64SS_suh0.s {ρ : Type} (N : Nat) (K0 : Nat → Nat → Nat → Nat → (Nat → Nat) → (Nat → Nat) → (Nat → Nat) → (Nat → Int) → Option ρ) (lp0 : Int → Int → Nat → (Nat → Nat) → (Nat → Nat) → (Nat → Nat) → (Nat → Int) → Option ρ) (av0 : Nat) : Option ρ :=
  (laws_roomBehind N (fun rv7 => (if (0 : Int) ≤ (IntKind.i64.wrap ((av0 : Int) + rv7)) ∧ (IntKind.i64.wrap ((av0 : Int) + rv7)) ≤ (IntKind.i64.wrap ((av0 : Int) + rv7)) ∧ (24 : Int) * (IntKind.i64.wrap ((av0 : Int) + rv7)) ≤ 1099511627776 ∧ (IntKind.i64.wrap ((av0 : Int) + rv7)) ≤ 1099511627776 then (lp0 rv7 0 0 (fun _ => 0) (fun _ => 0) (fun _ => 0) (fun _ => 0)) else none)) ((av0 : Int)))

noncomputable def laws_toInt64SS_suh0 {ρ : Type} (N : Nat) (K0 : Nat → Nat → Nat → Nat → (Nat → Nat) → (Nat → Nat) → (Nat → Nat) → (Nat → Int) → Option ρ) (av0 : Nat) (gv1 : Nat) (gv2 : Nat) (gv3 : Nat → Nat) (gv4 : Nat → Nat) (gv5 : Nat) (gv6 : Nat → Int) : Option ρ :=
  (laws_toInt64SS_suh0.s N K0 (fun rv7 i8 gv9 gv10 gv11 gv12 gv13 => (laws_toInt64SS_suh0.l0 N K0 av0 gv3 gv4 gv6 rv7 (fun ov18 ov19 ov20 ov21 ov22 => (laws_toInt64SS_suh0.a0_0 N K0 (fun i23 gv24 gv25 gv26 gv27 gv28 => (laws_toInt64SS_suh0.l1 N K0 av0 rv7 (fun ov29 ov30 ov31 ov32 ov33 => (laws_toInt64SS_suh0.a1_0 N K0 av0 rv7 ov29 ov30 ov31 ov32 ov33)) N i23 gv24 gv25 gv26 gv27 gv28)) av0 ov18 ov19 ov20 ov21 ov22)) N i8 gv9 gv10 gv11 gv12 gv13)) av0)

noncomputable def spec_l01In {ρ : Type} (N : Nat) (K0 : Bool → Option ρ) (nv0 : Int) (low1 : Int) (high2 : Int) : Option ρ :=
  (if (decide (nv0 ≥ low1)) = true then (K0 ((decide (nv0 ≤ high2)))) else (K0 false))

noncomputable def spec_l01Prime.b0 {ρ : Type} (N : Nat) (K0 : Bool → Option ρ) (rec : Int → Option ρ) (out0 : Option ρ) (p0 : Int) (k1 : Int) : Option ρ :=
  (if (decide (k1 < p0)) = true then (if (decide (k1 ≤ 31)) = true then (if k1 = 0 then none else (if ((Int.tmod p0 k1) == 0) = true then (K0 false) else (rec ((IntKind.i64.wrap (k1 + 1)))))) else out0) else out0)

noncomputable def spec_l01Prime.a0_0 {ρ : Type} (N : Nat) (K0 : Bool → Option ρ) (p0 : Int) : Option ρ :=
  (spec_l01In N (fun rv2 => (K0 (rv2))) p0 2 31)

noncomputable def spec_l01Prime.l0 {ρ : Type} (N : Nat) (K0 : Bool → Option ρ) (p0 : Int) (out0 : Option ρ) : Nat → Int → Option ρ
  | 0, _ => none
  | m + 1, k1 => (spec_l01Prime.b0 N K0 ((spec_l01Prime.l0 N K0 p0 out0 m)) out0 p0 k1)

noncomputable def spec_l01Prime.s {ρ : Type} (N : Nat) (K0 : Bool → Option ρ) (lp0 : Int → Option ρ) : Option ρ :=
  (lp0 2)

noncomputable def spec_l01Prime {ρ : Type} (N : Nat) (K0 : Bool → Option ρ) (p0 : Int) : Option ρ :=
  (spec_l01Prime.s N K0 (fun k1 => (spec_l01Prime.l0 N K0 p0 (spec_l01Prime.a0_0 N K0 p0) N k1)))

noncomputable def spec_l04Is_sh.b1 {ρ : Type} (N : Nat) (K0 : Bool → Option ρ) (rec : Int → Option ρ) (out0 : Option ρ) (table0 : Nat) (gv4 : Nat → Nat) (gv5 : Nat → Nat) (gv7 : Nat → Int) (i9 : Int) (j10 : Int) : Option ρ :=
  (if (decide (j10 < (table0 : Int))) = true then (if (0 : Int) ≤ i9 ∧ i9 < (table0 : Int) then (if (0 : Int) ≤ j10 ∧ j10 < (((gv5 (0 + (i9.toNat * 1))) : Nat) : Int) then (spec_l01In N (fun rv11 => (if (!rv11) = true then (K0 false) else (rec ((IntKind.i64.wrap (j10 + 1)))))) ((gv7 ((gv4 (0 + (i9.toNat * 1))) + (j10.toNat * 1)))) 0 ((IntKind.i64.wrap ((table0 : Int) - 1)))) else none) else none) else out0)

noncomputable def spec_l04Is_sh.a1_0 {ρ : Type} (N : Nat) (K0 : Bool → Option ρ) (rec : Int → Option ρ) (out0 : Option ρ) (i9 : Int) : Option ρ :=
  (rec ((IntKind.i64.wrap (i9 + 1))))

noncomputable def spec_l04Is_sh.b4 {ρ : Type} (N : Nat) (K0 : Bool → Option ρ) (rec : Int → Option ρ) (out0 : Option ρ) (table0 : Nat) (gv4 : Nat → Nat) (gv5 : Nat → Nat) (gv7 : Nat → Int) (i12 : Int) (j14 : Int) (k15 : Int) : Option ρ :=
  (if (decide (k15 < (table0 : Int))) = true then (if (0 : Int) ≤ i12 ∧ i12 < (table0 : Int) then (if (0 : Int) ≤ j14 ∧ j14 < (((gv5 (0 + (i12.toNat * 1))) : Nat) : Int) then (if (0 : Int) ≤ (gv7 ((gv4 (0 + (i12.toNat * 1))) + (j14.toNat * 1))) ∧ (gv7 ((gv4 (0 + (i12.toNat * 1))) + (j14.toNat * 1))) < (table0 : Int) then (if (0 : Int) ≤ k15 ∧ k15 < (((gv5 (0 + (((gv7 ((gv4 (0 + (i12.toNat * 1))) + (j14.toNat * 1)))).toNat * 1))) : Nat) : Int) then (if (0 : Int) ≤ i12 ∧ i12 < (table0 : Int) then (if (0 : Int) ≤ j14 ∧ j14 < (table0 : Int) then (if (0 : Int) ≤ k15 ∧ k15 < (((gv5 (0 + (j14.toNat * 1))) : Nat) : Int) then (if (0 : Int) ≤ (gv7 ((gv4 (0 + (j14.toNat * 1))) + (k15.toNat * 1))) ∧ (gv7 ((gv4 (0 + (j14.toNat * 1))) + (k15.toNat * 1))) < (((gv5 (0 + (i12.toNat * 1))) : Nat) : Int) then (if ((gv7 ((gv4 (0 + (((gv7 ((gv4 (0 + (i12.toNat * 1))) + (j14.toNat * 1)))).toNat * 1))) + (k15.toNat * 1))) != (gv7 ((gv4 (0 + (i12.toNat * 1))) + (((gv7 ((gv4 (0 + (j14.toNat * 1))) + (k15.toNat * 1)))).toNat * 1)))) = true then (K0 false) else (rec ((IntKind.i64.wrap (k15 + 1))))) else none) else none) else none) else none) else none) else none) else none) else none) else out0)

noncomputable def spec_l04Is_sh.a4_0 {ρ : Type} (N : Nat) (K0 : Bool → Option ρ) (rec : Bool → Int → Option ρ) (out0 : Bool → Option ρ) (j14 : Int) : Option ρ :=
  (rec true ((IntKind.i64.wrap (j14 + 1))))

noncomputable def spec_l04Is_sh.b5 {ρ : Type} (N : Nat) (K0 : Bool → Option ρ) (rec : Int → Option ρ) (out0 : Option ρ) (table0 : Nat) (gv4 : Nat → Nat) (gv5 : Nat → Nat) (gv7 : Nat → Int) (i12 : Int) (j14 : Int) (k16 : Int) : Option ρ :=
  (if (decide (k16 < (table0 : Int))) = true then (if (0 : Int) ≤ i12 ∧ i12 < (table0 : Int) then (if (0 : Int) ≤ j14 ∧ j14 < (((gv5 (0 + (i12.toNat * 1))) : Nat) : Int) then (if (0 : Int) ≤ (gv7 ((gv4 (0 + (i12.toNat * 1))) + (j14.toNat * 1))) ∧ (gv7 ((gv4 (0 + (i12.toNat * 1))) + (j14.toNat * 1))) < (table0 : Int) then (if (0 : Int) ≤ k16 ∧ k16 < (((gv5 (0 + (((gv7 ((gv4 (0 + (i12.toNat * 1))) + (j14.toNat * 1)))).toNat * 1))) : Nat) : Int) then (if (0 : Int) ≤ i12 ∧ i12 < (table0 : Int) then (if (0 : Int) ≤ j14 ∧ j14 < (table0 : Int) then (if (0 : Int) ≤ k16 ∧ k16 < (((gv5 (0 + (j14.toNat * 1))) : Nat) : Int) then (if (0 : Int) ≤ (gv7 ((gv4 (0 + (j14.toNat * 1))) + (k16.toNat * 1))) ∧ (gv7 ((gv4 (0 + (j14.toNat * 1))) + (k16.toNat * 1))) < (((gv5 (0 + (i12.toNat * 1))) : Nat) : Int) then (if ((gv7 ((gv4 (0 + (((gv7 ((gv4 (0 + (i12.toNat * 1))) + (j14.toNat * 1)))).toNat * 1))) + (k16.toNat * 1))) != (gv7 ((gv4 (0 + (i12.toNat * 1))) + (((gv7 ((gv4 (0 + (j14.toNat * 1))) + (k16.toNat * 1)))).toNat * 1)))) = true then (K0 false) else (rec ((IntKind.i64.wrap (k16 + 1))))) else none) else none) else none) else none) else none) else none) else none) else none) else out0)

noncomputable def spec_l04Is_sh.a5_0 {ρ : Type} (N : Nat) (K0 : Bool → Option ρ) (rec : Bool → Int → Option ρ) (out0 : Bool → Option ρ) (gv4 : Nat → Nat) (gv7 : Nat → Int) (i12 : Int) (j14 : Int) : Option ρ :=
  (rec (((gv7 ((gv4 (0 + (j14.toNat * 1))) + (i12.toNat * 1))) == 0)) ((IntKind.i64.wrap (j14 + 1))))

noncomputable def spec_l04Is_sh.b6 {ρ : Type} (N : Nat) (K0 : Bool → Option ρ) (rec : Int → Option ρ) (out0 : Option ρ) (table0 : Nat) (gv4 : Nat → Nat) (gv5 : Nat → Nat) (gv7 : Nat → Int) (i12 : Int) (j14 : Int) (k17 : Int) : Option ρ :=
  (if (decide (k17 < (table0 : Int))) = true then (if (0 : Int) ≤ i12 ∧ i12 < (table0 : Int) then (if (0 : Int) ≤ j14 ∧ j14 < (((gv5 (0 + (i12.toNat * 1))) : Nat) : Int) then (if (0 : Int) ≤ (gv7 ((gv4 (0 + (i12.toNat * 1))) + (j14.toNat * 1))) ∧ (gv7 ((gv4 (0 + (i12.toNat * 1))) + (j14.toNat * 1))) < (table0 : Int) then (if (0 : Int) ≤ k17 ∧ k17 < (((gv5 (0 + (((gv7 ((gv4 (0 + (i12.toNat * 1))) + (j14.toNat * 1)))).toNat * 1))) : Nat) : Int) then (if (0 : Int) ≤ i12 ∧ i12 < (table0 : Int) then (if (0 : Int) ≤ j14 ∧ j14 < (table0 : Int) then (if (0 : Int) ≤ k17 ∧ k17 < (((gv5 (0 + (j14.toNat * 1))) : Nat) : Int) then (if (0 : Int) ≤ (gv7 ((gv4 (0 + (j14.toNat * 1))) + (k17.toNat * 1))) ∧ (gv7 ((gv4 (0 + (j14.toNat * 1))) + (k17.toNat * 1))) < (((gv5 (0 + (i12.toNat * 1))) : Nat) : Int) then (if ((gv7 ((gv4 (0 + (((gv7 ((gv4 (0 + (i12.toNat * 1))) + (j14.toNat * 1)))).toNat * 1))) + (k17.toNat * 1))) != (gv7 ((gv4 (0 + (i12.toNat * 1))) + (((gv7 ((gv4 (0 + (j14.toNat * 1))) + (k17.toNat * 1)))).toNat * 1)))) = true then (K0 false) else (rec ((IntKind.i64.wrap (k17 + 1))))) else none) else none) else none) else none) else none) else none) else none) else none) else out0)

noncomputable def spec_l04Is_sh.a6_0 {ρ : Type} (N : Nat) (K0 : Bool → Option ρ) (rec : Bool → Int → Option ρ) (out0 : Bool → Option ρ) (j14 : Int) : Option ρ :=
  (rec false ((IntKind.i64.wrap (j14 + 1))))

noncomputable def spec_l04Is_sh.b3 {ρ : Type} (N : Nat) (K0 : Bool → Option ρ) (lp4 : Int → Option ρ) (lp5 : Int → Option ρ) (lp6 : Int → Option ρ) (rec : Bool → Int → Option ρ) (out0 : Bool → Option ρ) (table0 : Nat) (gv4 : Nat → Nat) (gv5 : Nat → Nat) (gv7 : Nat → Int) (i12 : Int) (inverse13 : Bool) (j14 : Int) : Option ρ :=
  (if (decide (j14 < (table0 : Int))) = true then (if inverse13 = true then (lp4 0) else (if (0 : Int) ≤ i12 ∧ i12 < (table0 : Int) then (if (0 : Int) ≤ j14 ∧ j14 < (((gv5 (0 + (i12.toNat * 1))) : Nat) : Int) then (if ((gv7 ((gv4 (0 + (i12.toNat * 1))) + (j14.toNat * 1))) == 0) = true then (if (0 : Int) ≤ j14 ∧ j14 < (table0 : Int) then (if (0 : Int) ≤ i12 ∧ i12 < (((gv5 (0 + (j14.toNat * 1))) : Nat) : Int) then (lp5 0) else none) else none) else (lp6 0)) else none) else none)) else (out0 (inverse13)))

noncomputable def spec_l04Is_sh.a3_0 {ρ : Type} (N : Nat) (K0 : Bool → Option ρ) (rec : Int → Option ρ) (out0 : Option ρ) (table0 : Nat) (gv4 : Nat → Nat) (gv5 : Nat → Nat) (gv7 : Nat → Int) (i12 : Int) (ov18 : Bool) : Option ρ :=
  (if (!ov18) = true then (K0 false) else (if (0 : Int) ≤ 0 ∧ 0 < (table0 : Int) then (if (0 : Int) ≤ i12 ∧ i12 < (((gv5 0) : Nat) : Int) then (if ((gv7 ((gv4 0) + (i12.toNat * 1))) != i12) = true then (K0 false) else (if (0 : Int) ≤ i12 ∧ i12 < (table0 : Int) then (if (0 : Int) ≤ 0 ∧ 0 < (((gv5 (0 + (i12.toNat * 1))) : Nat) : Int) then (if ((gv7 ((gv4 (0 + (i12.toNat * 1))) + 0)) != i12) = true then (K0 false) else (rec ((IntKind.i64.wrap (i12 + 1))))) else none) else none)) else none) else none))

noncomputable def spec_l04Is_sh.b2 {ρ : Type} (N : Nat) (K0 : Bool → Option ρ) (lp3 : Bool → Int → Option ρ) (rec : Int → Option ρ) (out0 : Option ρ) (table0 : Nat) (i12 : Int) : Option ρ :=
  (if (decide (i12 < (table0 : Int))) = true then (lp3 false 0) else out0)

noncomputable def spec_l04Is_sh.a2_0 {ρ : Type} (N : Nat) (K0 : Bool → Option ρ) : Option ρ :=
  (K0 true)

noncomputable def spec_l04Is_sh.b0 {ρ : Type} (N : Nat) (K0 : Bool → Option ρ) (lp1 : Int → Option ρ) (rec : Int → Option ρ) (out0 : Option ρ) (table0 : Nat) (gv5 : Nat → Nat) (i9 : Int) : Option ρ :=
  (if (decide (i9 < (table0 : Int))) = true then (if (0 : Int) ≤ i9 ∧ i9 < (table0 : Int) then (if ((((gv5 (0 + (i9.toNat * 1))) : Nat) : Int) != (table0 : Int)) = true then (K0 false) else (lp1 0)) else none) else out0)

noncomputable def spec_l04Is_sh.a0_0 {ρ : Type} (N : Nat) (K0 : Bool → Option ρ) (lp2 : Int → Option ρ) : Option ρ :=
  (lp2 0)

noncomputable def spec_l04Is_sh.l1 {ρ : Type} (N : Nat) (K0 : Bool → Option ρ) (table0 : Nat) (gv4 : Nat → Nat) (gv5 : Nat → Nat) (gv7 : Nat → Int) (i9 : Int) (out0 : Option ρ) : Nat → Int → Option ρ
  | 0, _ => none
  | m + 1, j10 => (spec_l04Is_sh.b1 N K0 ((spec_l04Is_sh.l1 N K0 table0 gv4 gv5 gv7 i9 out0 m)) out0 table0 gv4 gv5 gv7 i9 j10)

noncomputable def spec_l04Is_sh.l4 {ρ : Type} (N : Nat) (K0 : Bool → Option ρ) (table0 : Nat) (gv4 : Nat → Nat) (gv5 : Nat → Nat) (gv7 : Nat → Int) (i12 : Int) (j14 : Int) (out0 : Option ρ) : Nat → Int → Option ρ
  | 0, _ => none
  | m + 1, k15 => (spec_l04Is_sh.b4 N K0 ((spec_l04Is_sh.l4 N K0 table0 gv4 gv5 gv7 i12 j14 out0 m)) out0 table0 gv4 gv5 gv7 i12 j14 k15)

noncomputable def spec_l04Is_sh.l5 {ρ : Type} (N : Nat) (K0 : Bool → Option ρ) (table0 : Nat) (gv4 : Nat → Nat) (gv5 : Nat → Nat) (gv7 : Nat → Int) (i12 : Int) (j14 : Int) (out0 : Option ρ) : Nat → Int → Option ρ
  | 0, _ => none
  | m + 1, k16 => (spec_l04Is_sh.b5 N K0 ((spec_l04Is_sh.l5 N K0 table0 gv4 gv5 gv7 i12 j14 out0 m)) out0 table0 gv4 gv5 gv7 i12 j14 k16)

noncomputable def spec_l04Is_sh.l6 {ρ : Type} (N : Nat) (K0 : Bool → Option ρ) (table0 : Nat) (gv4 : Nat → Nat) (gv5 : Nat → Nat) (gv7 : Nat → Int) (i12 : Int) (j14 : Int) (out0 : Option ρ) : Nat → Int → Option ρ
  | 0, _ => none
  | m + 1, k17 => (spec_l04Is_sh.b6 N K0 ((spec_l04Is_sh.l6 N K0 table0 gv4 gv5 gv7 i12 j14 out0 m)) out0 table0 gv4 gv5 gv7 i12 j14 k17)

noncomputable def spec_l04Is_sh.l3 {ρ : Type} (N : Nat) (K0 : Bool → Option ρ) (table0 : Nat) (gv4 : Nat → Nat) (gv5 : Nat → Nat) (gv7 : Nat → Int) (i12 : Int) (out0 : Bool → Option ρ) : Nat → Bool → Int → Option ρ
  | 0, _, _ => none
  | m + 1, inverse13, j14 => (spec_l04Is_sh.b3 N K0 (fun k15 => (spec_l04Is_sh.l4 N K0 table0 gv4 gv5 gv7 i12 j14 (spec_l04Is_sh.a4_0 N K0 (spec_l04Is_sh.l3 N K0 table0 gv4 gv5 gv7 i12 out0 m) out0 j14) N k15)) (fun k16 => (spec_l04Is_sh.l5 N K0 table0 gv4 gv5 gv7 i12 j14 (spec_l04Is_sh.a5_0 N K0 (spec_l04Is_sh.l3 N K0 table0 gv4 gv5 gv7 i12 out0 m) out0 gv4 gv7 i12 j14) N k16)) (fun k17 => (spec_l04Is_sh.l6 N K0 table0 gv4 gv5 gv7 i12 j14 (spec_l04Is_sh.a6_0 N K0 (spec_l04Is_sh.l3 N K0 table0 gv4 gv5 gv7 i12 out0 m) out0 j14) N k17)) ((spec_l04Is_sh.l3 N K0 table0 gv4 gv5 gv7 i12 out0 m)) out0 table0 gv4 gv5 gv7 i12 inverse13 j14)

noncomputable def spec_l04Is_sh.l2 {ρ : Type} (N : Nat) (K0 : Bool → Option ρ) (table0 : Nat) (gv4 : Nat → Nat) (gv5 : Nat → Nat) (gv7 : Nat → Int) (out0 : Option ρ) : Nat → Int → Option ρ
  | 0, _ => none
  | m + 1, i12 => (spec_l04Is_sh.b2 N K0 (fun inverse13 j14 => (spec_l04Is_sh.l3 N K0 table0 gv4 gv5 gv7 i12 (fun ov18 => (spec_l04Is_sh.a3_0 N K0 (spec_l04Is_sh.l2 N K0 table0 gv4 gv5 gv7 out0 m) out0 table0 gv4 gv5 gv7 i12 ov18)) N inverse13 j14)) ((spec_l04Is_sh.l2 N K0 table0 gv4 gv5 gv7 out0 m)) out0 table0 i12)

noncomputable def spec_l04Is_sh.l0 {ρ : Type} (N : Nat) (K0 : Bool → Option ρ) (table0 : Nat) (gv4 : Nat → Nat) (gv5 : Nat → Nat) (gv7 : Nat → Int) (out0 : Option ρ) : Nat → Int → Option ρ
  | 0, _ => none
  | m + 1, i9 => (spec_l04Is_sh.b0 N K0 (fun j10 => (spec_l04Is_sh.l1 N K0 table0 gv4 gv5 gv7 i9 (spec_l04Is_sh.a1_0 N K0 (spec_l04Is_sh.l0 N K0 table0 gv4 gv5 gv7 out0 m) out0 i9) N j10)) ((spec_l04Is_sh.l0 N K0 table0 gv4 gv5 gv7 out0 m)) out0 table0 gv5 i9)

noncomputable def spec_l04Is_sh.s {ρ : Type} (N : Nat) (K0 : Bool → Option ρ) (lp0 : Int → Option ρ) (table0 : Nat) : Option ρ :=
  (spec_l01In N (fun rv8 => (if (!rv8) = true then (K0 false) else (lp0 0))) ((table0 : Int)) 1 8)

noncomputable def spec_l04Is_sh {ρ : Type} (N : Nat) (K0 : Bool → Option ρ) (table0 : Nat) (table1 : Nat) (gv2 : Nat) (gv3 : Nat) (gv4 : Nat → Nat) (gv5 : Nat → Nat) (gv6 : Nat → Nat) (gv7 : Nat → Int) : Option ρ :=
  (spec_l04Is_sh.s N K0 (fun i9 => (spec_l04Is_sh.l0 N K0 table0 gv4 gv5 gv7 (spec_l04Is_sh.a0_0 N K0 (fun i12 => (spec_l04Is_sh.l2 N K0 table0 gv4 gv5 gv7 (spec_l04Is_sh.a2_0 N K0) N i12))) N i9)) table0)

noncomputable def spec_l04Code_sh {ρ : Type} (N : Nat) (K0 : Int → Option ρ) (p0 : Int) (table1 : Nat) (table2 : Nat) (gv3 : Nat) (gv4 : Nat) (gv5 : Nat → Nat) (gv6 : Nat → Nat) (gv7 : Nat → Nat) (gv8 : Nat → Int) : Option ρ :=
  (spec_l01Prime N (fun rv9 => (if (!rv9) = true then (K0 2) else (spec_l04Is_sh N (fun rv10 => (if (!rv10) = true then (K0 1) else (K0 0))) table1 table2 (table2 * 1) gv4 (offN 0 gv5) (offN 0 gv6) (offN 0 gv7) gv8))) p0)

noncomputable def spec_l04Group_sh.b1 {ρ : Type} (N : Nat) (K0 : (Nat → Int) → (Nat → Int) → Option ρ) (rec : Int → (Nat → Int) → Option ρ) (out0 : (Nat → Int) → Option ρ) (table1 : Nat) (gv5 : Nat → Nat) (gv6 : Nat → Nat) (gv8 : Nat → Int) (i9 : Int) (j11 : Int) (gv12 : Nat → Int) : Option ρ :=
  (if (decide (j11 < (table1 : Int))) = true then (if (0 : Int) ≤ i9 ∧ i9 < (table1 : Int) then (if (0 : Int) ≤ j11 ∧ j11 < (((gv6 (0 + (i9.toNat * 1))) : Nat) : Int) then (if (0 : Int) ≤ i9 ∧ i9 < 8 then (if (0 : Int) ≤ j11 ∧ j11 < 8 then (if (0 : Int) ≤ (gv8 ((gv5 (0 + (i9.toNat * 1))) + (j11.toNat * 1))) ∧ (gv8 ((gv5 (0 + (i9.toNat * 1))) + (j11.toNat * 1))) < 8 then (if (0 : Int) ≤ i9 ∧ i9 < (table1 : Int) then (if (0 : Int) ≤ j11 ∧ j11 < (((gv6 (0 + (i9.toNat * 1))) : Nat) : Int) then (if ((gv8 ((gv5 (0 + (i9.toNat * 1))) + (j11.toNat * 1))) == 0) = true then (if (0 : Int) ≤ i9 ∧ i9 < 8 then (if (0 : Int) ≤ j11 ∧ j11 < 8 then (rec ((IntKind.i64.wrap (j11 + 1))) (upd (upd gv12 (((8 + (i9.toNat * 64)) + (j11.toNat * 8)) + (((gv8 ((gv5 (0 + (i9.toNat * 1))) + (j11.toNat * 1)))).toNat * 1)) 1) ((1040 + (i9.toNat * 8)) + (j11.toNat * 1)) 1)) else none) else none) else (rec ((IntKind.i64.wrap (j11 + 1))) (upd gv12 (((8 + (i9.toNat * 64)) + (j11.toNat * 8)) + (((gv8 ((gv5 (0 + (i9.toNat * 1))) + (j11.toNat * 1)))).toNat * 1)) 1))) else none) else none) else none) else none) else none) else none) else none) else (out0 gv12))

noncomputable def spec_l04Group_sh.a1_0 {ρ : Type} (N : Nat) (K0 : (Nat → Int) → (Nat → Int) → Option ρ) (rec : Int → (Nat → Int) → Option ρ) (out0 : (Nat → Int) → Option ρ) (i9 : Int) (ov13 : Nat → Int) : Option ρ :=
  (rec ((IntKind.i64.wrap (i9 + 1))) ov13)

noncomputable def spec_l04Group_sh.b0 {ρ : Type} (N : Nat) (K0 : (Nat → Int) → (Nat → Int) → Option ρ) (lp1 : Int → (Nat → Int) → Option ρ) (rec : Int → (Nat → Int) → Option ρ) (out0 : (Nat → Int) → Option ρ) (table1 : Nat) (i9 : Int) (gv10 : Nat → Int) : Option ρ :=
  (if (decide (i9 < (table1 : Int))) = true then (if (0 : Int) ≤ i9 ∧ i9 < 8 then (if (0 : Int) ≤ i9 ∧ i9 < 8 then (if (0 : Int) ≤ i9 ∧ i9 < 8 then (if (0 : Int) ≤ i9 ∧ i9 < 8 then (lp1 0 (upd (upd gv10 (520 + (i9.toNat * 1)) 1) (((528 + (i9.toNat * 64)) + (i9.toNat * 8)) + (i9.toNat * 1)) 1)) else none) else none) else none) else none) else (out0 gv10))

noncomputable def spec_l04Group_sh.a0_0 {ρ : Type} (N : Nat) (K0 : (Nat → Int) → (Nat → Int) → Option ρ) (p0 : Int) (table1 : Nat) (ov14 : Nat → Int) : Option ρ :=
  (K0 (upd (upd (fun _ => 0) 0 p0) 1 (table1 : Int)) ov14)

noncomputable def spec_l04Group_sh.l1 {ρ : Type} (N : Nat) (K0 : (Nat → Int) → (Nat → Int) → Option ρ) (table1 : Nat) (gv5 : Nat → Nat) (gv6 : Nat → Nat) (gv8 : Nat → Int) (i9 : Int) (out0 : (Nat → Int) → Option ρ) : Nat → Int → (Nat → Int) → Option ρ
  | 0, _, _ => none
  | m + 1, j11, gv12 => (spec_l04Group_sh.b1 N K0 ((spec_l04Group_sh.l1 N K0 table1 gv5 gv6 gv8 i9 out0 m)) out0 table1 gv5 gv6 gv8 i9 j11 gv12)

noncomputable def spec_l04Group_sh.l0 {ρ : Type} (N : Nat) (K0 : (Nat → Int) → (Nat → Int) → Option ρ) (table1 : Nat) (gv5 : Nat → Nat) (gv6 : Nat → Nat) (gv8 : Nat → Int) (out0 : (Nat → Int) → Option ρ) : Nat → Int → (Nat → Int) → Option ρ
  | 0, _, _ => none
  | m + 1, i9, gv10 => (spec_l04Group_sh.b0 N K0 (fun j11 gv12 => (spec_l04Group_sh.l1 N K0 table1 gv5 gv6 gv8 i9 (fun ov13 => (spec_l04Group_sh.a1_0 N K0 (spec_l04Group_sh.l0 N K0 table1 gv5 gv6 gv8 out0 m) out0 i9 ov13)) N j11 gv12)) ((spec_l04Group_sh.l0 N K0 table1 gv5 gv6 gv8 out0 m)) out0 table1 i9 gv10)

noncomputable def spec_l04Group_sh.s {ρ : Type} (N : Nat) (K0 : (Nat → Int) → (Nat → Int) → Option ρ) (lp0 : Int → (Nat → Int) → Option ρ) : Option ρ :=
  (lp0 0 (upd (fun _ => 0) 0 1))

noncomputable def spec_l04Group_sh {ρ : Type} (N : Nat) (K0 : (Nat → Int) → (Nat → Int) → Option ρ) (p0 : Int) (table1 : Nat) (table2 : Nat) (gv3 : Nat) (gv4 : Nat) (gv5 : Nat → Nat) (gv6 : Nat → Nat) (gv7 : Nat → Nat) (gv8 : Nat → Int) : Option ρ :=
  (spec_l04Group_sh.s N K0 (fun i9 gv10 => (spec_l04Group_sh.l0 N K0 table1 gv5 gv6 gv8 (fun ov14 => (spec_l04Group_sh.a0_0 N K0 p0 table1 ov14)) N i9 gv10)))

noncomputable def spec_l03Dual.b2 {ρ : Type} (N : Nat) (K0 : (Nat → Int) → (Nat → Int) → Option ρ) (rec : Int → (Nat → Int) → Option ρ) (out0 : (Nat → Int) → Option ρ) (h0 : Nat → Int) (h1 : Nat → Int) (i2 : Int) (j4 : Int) (k6 : Int) (gv7 : Nat → Int) : Option ρ :=
  (if (decide (k6 < (h0 1))) = true then (if (0 : Int) ≤ i2 ∧ i2 < 8 then (if (0 : Int) ≤ j4 ∧ j4 < 8 then (if (0 : Int) ≤ k6 ∧ k6 < 8 then (if (0 : Int) ≤ j4 ∧ j4 < 8 then (if (0 : Int) ≤ k6 ∧ k6 < 8 then (if (0 : Int) ≤ i2 ∧ i2 < 8 then (if (0 : Int) ≤ j4 ∧ j4 < 8 then (if (0 : Int) ≤ k6 ∧ k6 < 8 then (if (0 : Int) ≤ i2 ∧ i2 < 8 then (if (0 : Int) ≤ i2 ∧ i2 < 8 then (if (0 : Int) ≤ j4 ∧ j4 < 8 then (if (0 : Int) ≤ k6 ∧ k6 < 8 then (rec ((IntKind.i64.wrap (k6 + 1))) (upd (upd gv7 (((8 + (j4.toNat * 64)) + (k6.toNat * 8)) + (i2.toNat * 1)) (h1 (((528 + (i2.toNat * 64)) + (j4.toNat * 8)) + (k6.toNat * 1)))) (((528 + (i2.toNat * 64)) + (j4.toNat * 8)) + (k6.toNat * 1)) (h1 (((8 + (j4.toNat * 64)) + (k6.toNat * 8)) + (i2.toNat * 1))))) else none) else none) else none) else none) else none) else none) else none) else none) else none) else none) else none) else none) else (out0 gv7))

noncomputable def spec_l03Dual.a2_0 {ρ : Type} (N : Nat) (K0 : (Nat → Int) → (Nat → Int) → Option ρ) (rec : Int → (Nat → Int) → Option ρ) (out0 : (Nat → Int) → Option ρ) (j4 : Int) (ov8 : Nat → Int) : Option ρ :=
  (rec ((IntKind.i64.wrap (j4 + 1))) ov8)

noncomputable def spec_l03Dual.b1 {ρ : Type} (N : Nat) (K0 : (Nat → Int) → (Nat → Int) → Option ρ) (lp2 : Int → (Nat → Int) → Option ρ) (rec : Int → (Nat → Int) → Option ρ) (out0 : (Nat → Int) → Option ρ) (h0 : Nat → Int) (h1 : Nat → Int) (i2 : Int) (j4 : Int) (gv5 : Nat → Int) : Option ρ :=
  (if (decide (j4 < (h0 1))) = true then (if (0 : Int) ≤ j4 ∧ j4 < 8 then (if (0 : Int) ≤ i2 ∧ i2 < 8 then (if (0 : Int) ≤ i2 ∧ i2 < 8 then (if (0 : Int) ≤ j4 ∧ j4 < 8 then (lp2 0 (upd gv5 ((1040 + (i2.toNat * 8)) + (j4.toNat * 1)) (h1 ((1040 + (j4.toNat * 8)) + (i2.toNat * 1))))) else none) else none) else none) else none) else (out0 gv5))

noncomputable def spec_l03Dual.a1_0 {ρ : Type} (N : Nat) (K0 : (Nat → Int) → (Nat → Int) → Option ρ) (rec : Int → (Nat → Int) → Option ρ) (out0 : (Nat → Int) → Option ρ) (i2 : Int) (ov9 : Nat → Int) : Option ρ :=
  (rec ((IntKind.i64.wrap (i2 + 1))) ov9)

noncomputable def spec_l03Dual.b0 {ρ : Type} (N : Nat) (K0 : (Nat → Int) → (Nat → Int) → Option ρ) (lp1 : Int → (Nat → Int) → Option ρ) (rec : Int → (Nat → Int) → Option ρ) (out0 : (Nat → Int) → Option ρ) (h0 : Nat → Int) (i2 : Int) (gv3 : Nat → Int) : Option ρ :=
  (if (decide (i2 < (h0 1))) = true then (lp1 0 gv3) else (out0 gv3))

noncomputable def spec_l03Dual.a0_0 {ρ : Type} (N : Nat) (K0 : (Nat → Int) → (Nat → Int) → Option ρ) (h0 : Nat → Int) (ov10 : Nat → Int) : Option ρ :=
  (K0 (upd (upd (fun _ => 0) 0 (h0 0)) 1 (h0 1)) ov10)

noncomputable def spec_l03Dual.l2 {ρ : Type} (N : Nat) (K0 : (Nat → Int) → (Nat → Int) → Option ρ) (h0 : Nat → Int) (h1 : Nat → Int) (i2 : Int) (j4 : Int) (out0 : (Nat → Int) → Option ρ) : Nat → Int → (Nat → Int) → Option ρ
  | 0, _, _ => none
  | m + 1, k6, gv7 => (spec_l03Dual.b2 N K0 ((spec_l03Dual.l2 N K0 h0 h1 i2 j4 out0 m)) out0 h0 h1 i2 j4 k6 gv7)

noncomputable def spec_l03Dual.l1 {ρ : Type} (N : Nat) (K0 : (Nat → Int) → (Nat → Int) → Option ρ) (h0 : Nat → Int) (h1 : Nat → Int) (i2 : Int) (out0 : (Nat → Int) → Option ρ) : Nat → Int → (Nat → Int) → Option ρ
  | 0, _, _ => none
  | m + 1, j4, gv5 => (spec_l03Dual.b1 N K0 (fun k6 gv7 => (spec_l03Dual.l2 N K0 h0 h1 i2 j4 (fun ov8 => (spec_l03Dual.a2_0 N K0 (spec_l03Dual.l1 N K0 h0 h1 i2 out0 m) out0 j4 ov8)) N k6 gv7)) ((spec_l03Dual.l1 N K0 h0 h1 i2 out0 m)) out0 h0 h1 i2 j4 gv5)

noncomputable def spec_l03Dual.l0 {ρ : Type} (N : Nat) (K0 : (Nat → Int) → (Nat → Int) → Option ρ) (h0 : Nat → Int) (h1 : Nat → Int) (out0 : (Nat → Int) → Option ρ) : Nat → Int → (Nat → Int) → Option ρ
  | 0, _, _ => none
  | m + 1, i2, gv3 => (spec_l03Dual.b0 N K0 (fun j4 gv5 => (spec_l03Dual.l1 N K0 h0 h1 i2 (fun ov9 => (spec_l03Dual.a1_0 N K0 (spec_l03Dual.l0 N K0 h0 h1 out0 m) out0 i2 ov9)) N j4 gv5)) ((spec_l03Dual.l0 N K0 h0 h1 out0 m)) out0 h0 i2 gv3)

noncomputable def spec_l03Dual.s {ρ : Type} (N : Nat) (K0 : (Nat → Int) → (Nat → Int) → Option ρ) (lp0 : Int → (Nat → Int) → Option ρ) (h1 : Nat → Int) : Option ρ :=
  (lp0 0 (updN (updN (fun _ => 0) 0 8 (fun z => (h1 (520 + z)))) 520 8 (fun z => (h1 (0 + z)))))

noncomputable def spec_l03Dual {ρ : Type} (N : Nat) (K0 : (Nat → Int) → (Nat → Int) → Option ρ) (h0 : Nat → Int) (h1 : Nat → Int) : Option ρ :=
  (spec_l03Dual.s N K0 (fun i2 gv3 => (spec_l03Dual.l0 N K0 h0 h1 (fun ov10 => (spec_l03Dual.a0_0 N K0 h0 ov10)) N i2 gv3)) h1)

noncomputable def spec_FunctionsHopf_sh {ρ : Type} (N : Nat) (K0 : (Nat → Int) → (Nat → Int) → Int → Option ρ) (p0 : Int) (table1 : Nat) (table2 : Nat) (gv3 : Nat) (gv4 : Nat) (gv5 : Nat → Nat) (gv6 : Nat → Nat) (gv7 : Nat → Nat) (gv8 : Nat → Int) : Option ρ :=
  (spec_l04Code_sh N (fun rv9 => (if (rv9 != 0) = true then (K0 (fun _ => 0) (fun _ => 0) rv9) else (spec_l04Group_sh N (fun rv10 rv11 => (spec_l03Dual N (fun rv12 rv13 => (K0 rv12 rv13 0)) rv10 rv11)) p0 table1 table2 (table2 * 1) gv4 (offN 0 gv5) (offN 0 gv6) (offN 0 gv7) gv8))) p0 table1 table2 (table2 * 1) gv4 (offN 0 gv5) (offN 0 gv6) (offN 0 gv7) gv8)

noncomputable def impl_IsPrime.b0 {ρ : Type} (N : Nat) (K0 : Bool → Option ρ) (rec : Int → Option ρ) (out0 : Option ρ) (p0 : Int) (k1 : Int) : Option ρ :=
  (if (decide ((IntKind.i64.wrap (k1 * k1)) ≤ p0)) = true then (if k1 = 0 then none else (if ((Int.tmod p0 k1) == 0) = true then (K0 false) else (rec ((IntKind.i64.wrap (k1 + 1)))))) else out0)

noncomputable def impl_IsPrime.a0_0 {ρ : Type} (N : Nat) (K0 : Bool → Option ρ) : Option ρ :=
  (K0 true)

noncomputable def impl_IsPrime.l0 {ρ : Type} (N : Nat) (K0 : Bool → Option ρ) (p0 : Int) (out0 : Option ρ) : Nat → Int → Option ρ
  | 0, _ => none
  | m + 1, k1 => (impl_IsPrime.b0 N K0 ((impl_IsPrime.l0 N K0 p0 out0 m)) out0 p0 k1)

noncomputable def impl_IsPrime.s {ρ : Type} (N : Nat) (K0 : Bool → Option ρ) (lp0 : Int → Option ρ) (p0 : Int) : Option ρ :=
  (if (decide (p0 < 2)) = true then (K0 false) else (if (decide (p0 > 31)) = true then (K0 false) else (lp0 2)))

noncomputable def impl_IsPrime {ρ : Type} (N : Nat) (K0 : Bool → Option ρ) (p0 : Int) : Option ρ :=
  (impl_IsPrime.s N K0 (fun k1 => (impl_IsPrime.l0 N K0 p0 (impl_IsPrime.a0_0 N K0) N k1)) p0)

noncomputable def impl_unless {ρ : Type} (N : Nat) (K0 : Int → Option ρ) (so0 : Bool) (code1 : Int) : Option ρ :=
  (if so0 = true then (K0 0) else (K0 code1))

noncomputable def impl_in {ρ : Type} (N : Nat) (K0 : Bool → Option ρ) (x0 : Int) (least1 : Int) (most2 : Int) : Option ρ :=
  (if (decide (least1 ≤ x0)) = true then (K0 ((decide (x0 ≤ most2)))) else (K0 false))

noncomputable def impl_isRows_c1 {ρ : Type} (N : Nat) (K0 : Bool → Option ρ) (x0 : Int) (gv1 : Nat → Int) : Option ρ :=
  (impl_in N (fun rv2 => (K0 ((!rv2)))) x0 0 ((IntKind.i64.wrap ((gv1 0) - 1))))

noncomputable def slices_IndexFunc_sf.b0 {ρ : Type} (N : Nat) (K0 : Int → Option ρ) (rec : Int → Option ρ) (out0 : Option ρ) (s0 : Nat) (gv3 : Nat → Int) (gv4 : Nat → Int) (x5 : Int) : Option ρ :=
  (if (decide (x5 < (s0 : Int))) = true then (if (0 : Int) ≤ x5 ∧ x5 < (s0 : Int) then (impl_isRows_c1 N (fun rv6 => (if rv6 = true then (K0 x5) else (rec ((IntKind.i64.wrap (x5 + 1)))))) ((gv3 (0 + (x5.toNat * 1)))) gv4) else none) else out0)

noncomputable def slices_IndexFunc_sf.a0_0 {ρ : Type} (N : Nat) (K0 : Int → Option ρ) : Option ρ :=
  (K0 (-1))

noncomputable def slices_IndexFunc_sf.l0 {ρ : Type} (N : Nat) (K0 : Int → Option ρ) (s0 : Nat) (gv3 : Nat → Int) (gv4 : Nat → Int) (out0 : Option ρ) : Nat → Int → Option ρ
  | 0, _ => none
  | m + 1, x5 => (slices_IndexFunc_sf.b0 N K0 ((slices_IndexFunc_sf.l0 N K0 s0 gv3 gv4 out0 m)) out0 s0 gv3 gv4 x5)

noncomputable def slices_IndexFunc_sf.s {ρ : Type} (N : Nat) (K0 : Int → Option ρ) (lp0 : Int → Option ρ) : Option ρ :=
  (lp0 0)

noncomputable def slices_IndexFunc_sf {ρ : Type} (N : Nat) (K0 : Int → Option ρ) (s0 : Nat) (s1 : Nat) (gv2 : Nat) (gv3 : Nat → Int) (gv4 : Nat → Int) : Option ρ :=
  (slices_IndexFunc_sf.s N K0 (fun x5 => (slices_IndexFunc_sf.l0 N K0 s0 gv3 gv4 (slices_IndexFunc_sf.a0_0 N K0) N x5)))

noncomputable def slices_ContainsFunc_sf {ρ : Type} (N : Nat) (K0 : Bool → Option ρ) (s0 : Nat) (s1 : Nat) (gv2 : Nat) (gv3 : Nat → Int) (gv4 : Nat → Int) : Option ρ :=
  (slices_IndexFunc_sf N (fun rv5 => (K0 ((decide (rv5 ≥ 0))))) s0 s1 (s1 * 1) (fun z => (gv3 (0 + z))) gv4)

noncomputable def impl_isRows_sh.b0 {ρ : Type} (N : Nat) (K0 : Bool → Option ρ) (rec : Int → Option ρ) (out0 : Option ρ) (table0 : Nat) (gv4 : Nat → Nat) (gv5 : Nat → Nat) (gv6 : Nat → Nat) (gv7 : Nat → Int) (x9 : Int) : Option ρ :=
  (if (decide (x9 < (table0 : Int))) = true then (if (0 : Int) ≤ x9 ∧ x9 < (table0 : Int) then (if ((((gv5 (0 + (x9.toNat * 1))) : Nat) : Int) != (table0 : Int)) = true then (K0 false) else (slices_ContainsFunc_sf N (fun rv10 => (if rv10 = true then (K0 false) else (rec ((IntKind.i64.wrap (x9 + 1)))))) (gv5 (0 + (x9.toNat * 1))) (gv6 (0 + (x9.toNat * 1))) ((gv6 (0 + (x9.toNat * 1))) * 1) (fun z => (gv7 ((gv4 (0 + (x9.toNat * 1))) + z))) (fun _ => (table0 : Int)))) else none) else out0)

noncomputable def impl_isRows_sh.a0_0 {ρ : Type} (N : Nat) (K0 : Bool → Option ρ) : Option ρ :=
  (K0 true)

noncomputable def impl_isRows_sh.l0 {ρ : Type} (N : Nat) (K0 : Bool → Option ρ) (table0 : Nat) (gv4 : Nat → Nat) (gv5 : Nat → Nat) (gv6 : Nat → Nat) (gv7 : Nat → Int) (out0 : Option ρ) : Nat → Int → Option ρ
  | 0, _ => none
  | m + 1, x9 => (impl_isRows_sh.b0 N K0 ((impl_isRows_sh.l0 N K0 table0 gv4 gv5 gv6 gv7 out0 m)) out0 table0 gv4 gv5 gv6 gv7 x9)

noncomputable def impl_isRows_sh.s {ρ : Type} (N : Nat) (K0 : Bool → Option ρ) (lp0 : Int → Option ρ) (table0 : Nat) : Option ρ :=
  (impl_in N (fun rv8 => (if (!rv8) = true then (K0 false) else (lp0 0))) ((table0 : Int)) 1 8)

noncomputable def impl_isRows_sh {ρ : Type} (N : Nat) (K0 : Bool → Option ρ) (table0 : Nat) (table1 : Nat) (gv2 : Nat) (gv3 : Nat) (gv4 : Nat → Nat) (gv5 : Nat → Nat) (gv6 : Nat → Nat) (gv7 : Nat → Int) : Option ρ :=
  (impl_isRows_sh.s N K0 (fun x9 => (impl_isRows_sh.l0 N K0 table0 gv4 gv5 gv6 gv7 (impl_isRows_sh.a0_0 N K0) N x9)) table0)

noncomputable def impl_inverseIn_sh.b0 {ρ : Type} (N : Nat) (K0 : Int → Option ρ) (rec : Int → Option ρ) (out0 : Option ρ) (table0 : Nat) (i2 : Int) (gv5 : Nat → Nat) (gv6 : Nat → Nat) (gv8 : Nat → Int) (x9 : Int) : Option ρ :=
  (if (decide (x9 < (table0 : Int))) = true then (if (0 : Int) ≤ i2 ∧ i2 < (table0 : Int) then (if (0 : Int) ≤ x9 ∧ x9 < (((gv6 (0 + (i2.toNat * 1))) : Nat) : Int) then (if ((gv8 ((gv5 (0 + (i2.toNat * 1))) + (x9.toNat * 1))) == 0) = true then (if (0 : Int) ≤ x9 ∧ x9 < (table0 : Int) then (if (0 : Int) ≤ i2 ∧ i2 < (((gv6 (0 + (x9.toNat * 1))) : Nat) : Int) then (if ((gv8 ((gv5 (0 + (x9.toNat * 1))) + (i2.toNat * 1))) == 0) = true then (K0 x9) else (rec ((IntKind.i64.wrap (x9 + 1))))) else none) else none) else (rec ((IntKind.i64.wrap (x9 + 1))))) else none) else none) else out0)

noncomputable def impl_inverseIn_sh.a0_0 {ρ : Type} (N : Nat) (K0 : Int → Option ρ) : Option ρ :=
  (K0 (-1))

noncomputable def impl_inverseIn_sh.l0 {ρ : Type} (N : Nat) (K0 : Int → Option ρ) (table0 : Nat) (i2 : Int) (gv5 : Nat → Nat) (gv6 : Nat → Nat) (gv8 : Nat → Int) (out0 : Option ρ) : Nat → Int → Option ρ
  | 0, _ => none
  | m + 1, x9 => (impl_inverseIn_sh.b0 N K0 ((impl_inverseIn_sh.l0 N K0 table0 i2 gv5 gv6 gv8 out0 m)) out0 table0 i2 gv5 gv6 gv8 x9)

noncomputable def impl_inverseIn_sh.s {ρ : Type} (N : Nat) (K0 : Int → Option ρ) (lp0 : Int → Option ρ) : Option ρ :=
  (lp0 0)

noncomputable def impl_inverseIn_sh {ρ : Type} (N : Nat) (K0 : Int → Option ρ) (table0 : Nat) (table1 : Nat) (i2 : Int) (gv3 : Nat) (gv4 : Nat) (gv5 : Nat → Nat) (gv6 : Nat → Nat) (gv7 : Nat → Nat) (gv8 : Nat → Int) : Option ρ :=
  (impl_inverseIn_sh.s N K0 (fun x9 => (impl_inverseIn_sh.l0 N K0 table0 i2 gv5 gv6 gv8 (impl_inverseIn_sh.a0_0 N K0) N x9)))

noncomputable def impl_isGroupAt_sh.b1 {ρ : Type} (N : Nat) (K0 : Bool → Option ρ) (rec : Int → Option ρ) (out0 : Option ρ) (table0 : Nat) (i2 : Int) (gv5 : Nat → Nat) (gv6 : Nat → Nat) (gv8 : Nat → Int) (x9 : Int) (x10 : Int) : Option ρ :=
  (if (decide (x10 < (table0 : Int))) = true then (if (0 : Int) ≤ i2 ∧ i2 < (table0 : Int) then (if (0 : Int) ≤ x9 ∧ x9 < (((gv6 (0 + (i2.toNat * 1))) : Nat) : Int) then (if (0 : Int) ≤ (gv8 ((gv5 (0 + (i2.toNat * 1))) + (x9.toNat * 1))) ∧ (gv8 ((gv5 (0 + (i2.toNat * 1))) + (x9.toNat * 1))) < (table0 : Int) then (if (0 : Int) ≤ x10 ∧ x10 < (((gv6 (0 + (((gv8 ((gv5 (0 + (i2.toNat * 1))) + (x9.toNat * 1)))).toNat * 1))) : Nat) : Int) then (if (0 : Int) ≤ i2 ∧ i2 < (table0 : Int) then (if (0 : Int) ≤ x9 ∧ x9 < (table0 : Int) then (if (0 : Int) ≤ x10 ∧ x10 < (((gv6 (0 + (x9.toNat * 1))) : Nat) : Int) then (if (0 : Int) ≤ (gv8 ((gv5 (0 + (x9.toNat * 1))) + (x10.toNat * 1))) ∧ (gv8 ((gv5 (0 + (x9.toNat * 1))) + (x10.toNat * 1))) < (((gv6 (0 + (i2.toNat * 1))) : Nat) : Int) then (if ((gv8 ((gv5 (0 + (((gv8 ((gv5 (0 + (i2.toNat * 1))) + (x9.toNat * 1)))).toNat * 1))) + (x10.toNat * 1))) != (gv8 ((gv5 (0 + (i2.toNat * 1))) + (((gv8 ((gv5 (0 + (x9.toNat * 1))) + (x10.toNat * 1)))).toNat * 1)))) = true then (K0 false) else (rec ((IntKind.i64.wrap (x10 + 1))))) else none) else none) else none) else none) else none) else none) else none) else none) else out0)

noncomputable def impl_isGroupAt_sh.a1_0 {ρ : Type} (N : Nat) (K0 : Bool → Option ρ) (rec : Int → Option ρ) (out0 : Option ρ) (x9 : Int) : Option ρ :=
  (rec ((IntKind.i64.wrap (x9 + 1))))

noncomputable def impl_isGroupAt_sh.b0 {ρ : Type} (N : Nat) (K0 : Bool → Option ρ) (lp1 : Int → Option ρ) (rec : Int → Option ρ) (out0 : Option ρ) (table0 : Nat) (x9 : Int) : Option ρ :=
  (if (decide (x9 < (table0 : Int))) = true then (lp1 0) else out0)

noncomputable def impl_isGroupAt_sh.a0_0 {ρ : Type} (N : Nat) (K0 : Bool → Option ρ) (table0 : Nat) (table1 : Nat) (i2 : Int) (gv4 : Nat) (gv5 : Nat → Nat) (gv6 : Nat → Nat) (gv7 : Nat → Nat) (gv8 : Nat → Int) : Option ρ :=
  (impl_inverseIn_sh N (fun rv11 => (K0 ((decide (rv11 ≥ 0))))) table0 table1 i2 (table1 * 1) gv4 (offN 0 gv5) (offN 0 gv6) (offN 0 gv7) gv8)

noncomputable def impl_isGroupAt_sh.l1 {ρ : Type} (N : Nat) (K0 : Bool → Option ρ) (table0 : Nat) (i2 : Int) (gv5 : Nat → Nat) (gv6 : Nat → Nat) (gv8 : Nat → Int) (x9 : Int) (out0 : Option ρ) : Nat → Int → Option ρ
  | 0, _ => none
  | m + 1, x10 => (impl_isGroupAt_sh.b1 N K0 ((impl_isGroupAt_sh.l1 N K0 table0 i2 gv5 gv6 gv8 x9 out0 m)) out0 table0 i2 gv5 gv6 gv8 x9 x10)

noncomputable def impl_isGroupAt_sh.l0 {ρ : Type} (N : Nat) (K0 : Bool → Option ρ) (table0 : Nat) (i2 : Int) (gv5 : Nat → Nat) (gv6 : Nat → Nat) (gv8 : Nat → Int) (out0 : Option ρ) : Nat → Int → Option ρ
  | 0, _ => none
  | m + 1, x9 => (impl_isGroupAt_sh.b0 N K0 (fun x10 => (impl_isGroupAt_sh.l1 N K0 table0 i2 gv5 gv6 gv8 x9 (impl_isGroupAt_sh.a1_0 N K0 (impl_isGroupAt_sh.l0 N K0 table0 i2 gv5 gv6 gv8 out0 m) out0 x9) N x10)) ((impl_isGroupAt_sh.l0 N K0 table0 i2 gv5 gv6 gv8 out0 m)) out0 table0 x9)

noncomputable def impl_isGroupAt_sh.s {ρ : Type} (N : Nat) (K0 : Bool → Option ρ) (lp0 : Int → Option ρ) (table0 : Nat) (i2 : Int) (gv5 : Nat → Nat) (gv6 : Nat → Nat) (gv8 : Nat → Int) : Option ρ :=
  (if (0 : Int) ≤ 0 ∧ 0 < (table0 : Int) then (if (0 : Int) ≤ i2 ∧ i2 < (((gv6 0) : Nat) : Int) then (if ((gv8 ((gv5 0) + (i2.toNat * 1))) != i2) = true then (K0 false) else (if (0 : Int) ≤ i2 ∧ i2 < (table0 : Int) then (if (0 : Int) ≤ 0 ∧ 0 < (((gv6 (0 + (i2.toNat * 1))) : Nat) : Int) then (if ((gv8 ((gv5 (0 + (i2.toNat * 1))) + 0)) != i2) = true then (K0 false) else (lp0 0)) else none) else none)) else none) else none)

noncomputable def impl_isGroupAt_sh {ρ : Type} (N : Nat) (K0 : Bool → Option ρ) (table0 : Nat) (table1 : Nat) (i2 : Int) (gv3 : Nat) (gv4 : Nat) (gv5 : Nat → Nat) (gv6 : Nat → Nat) (gv7 : Nat → Nat) (gv8 : Nat → Int) : Option ρ :=
  (impl_isGroupAt_sh.s N K0 (fun x9 => (impl_isGroupAt_sh.l0 N K0 table0 i2 gv5 gv6 gv8 (impl_isGroupAt_sh.a0_0 N K0 table0 table1 i2 gv4 gv5 gv6 gv7 gv8) N x9)) table0 i2 gv5 gv6 gv8)

noncomputable def impl_IsGroupTable_sh.b0 {ρ : Type} (N : Nat) (K0 : Bool → Option ρ) (rec : Int → Option ρ) (out0 : Option ρ) (table0 : Nat) (table1 : Nat) (gv3 : Nat) (gv4 : Nat → Nat) (gv5 : Nat → Nat) (gv6 : Nat → Nat) (gv7 : Nat → Int) (x9 : Int) : Option ρ :=
  (if (decide (x9 < (table0 : Int))) = true then (impl_isGroupAt_sh N (fun rv10 => (if (!rv10) = true then (K0 false) else (rec ((IntKind.i64.wrap (x9 + 1)))))) table0 table1 x9 (table1 * 1) gv3 (offN 0 gv4) (offN 0 gv5) (offN 0 gv6) gv7) else out0)

noncomputable def impl_IsGroupTable_sh.a0_0 {ρ : Type} (N : Nat) (K0 : Bool → Option ρ) : Option ρ :=
  (K0 true)

noncomputable def impl_IsGroupTable_sh.l0 {ρ : Type} (N : Nat) (K0 : Bool → Option ρ) (table0 : Nat) (table1 : Nat) (gv3 : Nat) (gv4 : Nat → Nat) (gv5 : Nat → Nat) (gv6 : Nat → Nat) (gv7 : Nat → Int) (out0 : Option ρ) : Nat → Int → Option ρ
  | 0, _ => none
  | m + 1, x9 => (impl_IsGroupTable_sh.b0 N K0 ((impl_IsGroupTable_sh.l0 N K0 table0 table1 gv3 gv4 gv5 gv6 gv7 out0 m)) out0 table0 table1 gv3 gv4 gv5 gv6 gv7 x9)

noncomputable def impl_IsGroupTable_sh.s {ρ : Type} (N : Nat) (K0 : Bool → Option ρ) (lp0 : Int → Option ρ) (table0 : Nat) (table1 : Nat) (gv3 : Nat) (gv4 : Nat → Nat) (gv5 : Nat → Nat) (gv6 : Nat → Nat) (gv7 : Nat → Int) : Option ρ :=
  (impl_isRows_sh N (fun rv8 => (if (!rv8) = true then (K0 false) else (lp0 0))) table0 table1 (table1 * 1) gv3 (offN 0 gv4) (offN 0 gv5) (offN 0 gv6) gv7)

noncomputable def impl_IsGroupTable_sh {ρ : Type} (N : Nat) (K0 : Bool → Option ρ) (table0 : Nat) (table1 : Nat) (gv2 : Nat) (gv3 : Nat) (gv4 : Nat → Nat) (gv5 : Nat → Nat) (gv6 : Nat → Nat) (gv7 : Nat → Int) : Option ρ :=
  (impl_IsGroupTable_sh.s N K0 (fun x9 => (impl_IsGroupTable_sh.l0 N K0 table0 table1 gv3 gv4 gv5 gv6 gv7 (impl_IsGroupTable_sh.a0_0 N K0) N x9)) table0 table1 gv3 gv4 gv5 gv6 gv7)

noncomputable def impl_first_s.b0 {ρ : Type} (N : Nat) (K0 : Int → Option ρ) (rec : Int → Option ρ) (out0 : Option ρ) (codes0 : Nat) (gv3 : Nat → Int) (x4 : Int) : Option ρ :=
  (if (decide (x4 < (codes0 : Int))) = true then (if (0 : Int) ≤ x4 ∧ x4 < (codes0 : Int) then (if ((gv3 (0 + (x4.toNat * 1))) != 0) = true then (K0 ((gv3 (0 + (x4.toNat * 1))))) else (rec ((IntKind.i64.wrap (x4 + 1))))) else none) else out0)

noncomputable def impl_first_s.a0_0 {ρ : Type} (N : Nat) (K0 : Int → Option ρ) : Option ρ :=
  (K0 0)

noncomputable def impl_first_s.l0 {ρ : Type} (N : Nat) (K0 : Int → Option ρ) (codes0 : Nat) (gv3 : Nat → Int) (out0 : Option ρ) : Nat → Int → Option ρ
  | 0, _ => none
  | m + 1, x4 => (impl_first_s.b0 N K0 ((impl_first_s.l0 N K0 codes0 gv3 out0 m)) out0 codes0 gv3 x4)

noncomputable def impl_first_s.s {ρ : Type} (N : Nat) (K0 : Int → Option ρ) (lp0 : Int → Option ρ) : Option ρ :=
  (lp0 0)

noncomputable def impl_first_s {ρ : Type} (N : Nat) (K0 : Int → Option ρ) (codes0 : Nat) (codes1 : Nat) (gv2 : Nat) (gv3 : Nat → Int) : Option ρ :=
  (impl_first_s.s N K0 (fun x4 => (impl_first_s.l0 N K0 codes0 gv3 (impl_first_s.a0_0 N K0) N x4)))

noncomputable def impl_basis {ρ : Type} (N : Nat) (K0 : (Nat → Int) → Option ρ) (i0 : Int) : Option ρ :=
  (if (0 : Int) ≤ i0 ∧ i0 < 8 then (K0 (upd (fun _ => 0) (i0.toNat * 1) 1)) else none)

noncomputable def impl_groupHopf_sh.b1 {ρ : Type} (N : Nat) (K0 : (Nat → Int) → (Nat → Int) → Option ρ) (rec : Int → (Nat → Int) → Option ρ) (out0 : (Nat → Int) → Option ρ) (gv5 : Nat → Nat) (gv6 : Nat → Nat) (gv8 : Nat → Int) (x10 : Int) (x12 : Int) (gv13 : Nat → Int) : Option ρ :=
  (if (decide (x12 < (((gv6 (0 + (x10.toNat * 1))) : Nat) : Int))) = true then (if (0 : Int) ≤ x12 ∧ x12 < (((gv6 (0 + (x10.toNat * 1))) : Nat) : Int) then (impl_basis N (fun rv14 => (if (0 : Int) ≤ x10 ∧ x10 < 8 then (if (0 : Int) ≤ x12 ∧ x12 < 8 then (rec ((IntKind.i64.wrap (x12 + 1))) (updN gv13 ((8 + (x10.toNat * 64)) + (x12.toNat * 8)) 8 rv14)) else none) else none)) ((gv8 ((gv5 (0 + (x10.toNat * 1))) + (x12.toNat * 1))))) else none) else (out0 gv13))

noncomputable def impl_groupHopf_sh.a1_0 {ρ : Type} (N : Nat) (K0 : (Nat → Int) → (Nat → Int) → Option ρ) (rec : Int → (Nat → Int) → Option ρ) (out0 : (Nat → Int) → Option ρ) (table1 : Nat) (table2 : Nat) (gv4 : Nat) (gv5 : Nat → Nat) (gv6 : Nat → Nat) (gv7 : Nat → Nat) (gv8 : Nat → Int) (x10 : Int) (ov15 : Nat → Int) : Option ρ :=
  (impl_basis N (fun rv16 => (impl_inverseIn_sh N (fun rv17 => (impl_basis N (fun rv18 => (if (0 : Int) ≤ x10 ∧ x10 < 8 then (if (0 : Int) ≤ x10 ∧ x10 < 8 then (if (0 : Int) ≤ x10 ∧ x10 < 8 then (if (0 : Int) ≤ x10 ∧ x10 < 8 then (rec ((IntKind.i64.wrap (x10 + 1))) (updN (upd (updN ov15 ((528 + (x10.toNat * 64)) + (x10.toNat * 8)) 8 rv16) (520 + (x10.toNat * 1)) 1) (1040 + (x10.toNat * 8)) 8 rv18)) else none) else none) else none) else none)) rv17)) table1 table2 x10 (table2 * 1) gv4 (offN 0 gv5) (offN 0 gv6) (offN 0 gv7) gv8)) x10)

noncomputable def impl_groupHopf_sh.b0 {ρ : Type} (N : Nat) (K0 : (Nat → Int) → (Nat → Int) → Option ρ) (lp1 : Int → (Nat → Int) → Option ρ) (rec : Int → (Nat → Int) → Option ρ) (out0 : (Nat → Int) → Option ρ) (table1 : Nat) (x10 : Int) (gv11 : Nat → Int) : Option ρ :=
  (if (decide (x10 < (table1 : Int))) = true then (if (0 : Int) ≤ x10 ∧ x10 < (table1 : Int) then (lp1 0 gv11) else none) else (out0 gv11))

noncomputable def impl_groupHopf_sh.a0_0 {ρ : Type} (N : Nat) (K0 : (Nat → Int) → (Nat → Int) → Option ρ) (p0 : Int) (table1 : Nat) (ov19 : Nat → Int) : Option ρ :=
  (K0 (upd (upd (fun _ => 0) 0 p0) 1 (table1 : Int)) ov19)

noncomputable def impl_groupHopf_sh.l1 {ρ : Type} (N : Nat) (K0 : (Nat → Int) → (Nat → Int) → Option ρ) (gv5 : Nat → Nat) (gv6 : Nat → Nat) (gv8 : Nat → Int) (x10 : Int) (out0 : (Nat → Int) → Option ρ) : Nat → Int → (Nat → Int) → Option ρ
  | 0, _, _ => none
  | m + 1, x12, gv13 => (impl_groupHopf_sh.b1 N K0 ((impl_groupHopf_sh.l1 N K0 gv5 gv6 gv8 x10 out0 m)) out0 gv5 gv6 gv8 x10 x12 gv13)

noncomputable def impl_groupHopf_sh.l0 {ρ : Type} (N : Nat) (K0 : (Nat → Int) → (Nat → Int) → Option ρ) (table1 : Nat) (table2 : Nat) (gv4 : Nat) (gv5 : Nat → Nat) (gv6 : Nat → Nat) (gv7 : Nat → Nat) (gv8 : Nat → Int) (out0 : (Nat → Int) → Option ρ) : Nat → Int → (Nat → Int) → Option ρ
  | 0, _, _ => none
  | m + 1, x10, gv11 => (impl_groupHopf_sh.b0 N K0 (fun x12 gv13 => (impl_groupHopf_sh.l1 N K0 gv5 gv6 gv8 x10 (fun ov15 => (impl_groupHopf_sh.a1_0 N K0 (impl_groupHopf_sh.l0 N K0 table1 table2 gv4 gv5 gv6 gv7 gv8 out0 m) out0 table1 table2 gv4 gv5 gv6 gv7 gv8 x10 ov15)) N x12 gv13)) ((impl_groupHopf_sh.l0 N K0 table1 table2 gv4 gv5 gv6 gv7 gv8 out0 m)) out0 table1 x10 gv11)

noncomputable def impl_groupHopf_sh.s {ρ : Type} (N : Nat) (K0 : (Nat → Int) → (Nat → Int) → Option ρ) (lp0 : Int → (Nat → Int) → Option ρ) : Option ρ :=
  (impl_basis N (fun rv9 => (lp0 0 (updN (fun _ => 0) 0 8 rv9))) 0)

noncomputable def impl_groupHopf_sh {ρ : Type} (N : Nat) (K0 : (Nat → Int) → (Nat → Int) → Option ρ) (p0 : Int) (table1 : Nat) (table2 : Nat) (gv3 : Nat) (gv4 : Nat) (gv5 : Nat → Nat) (gv6 : Nat → Nat) (gv7 : Nat → Nat) (gv8 : Nat → Int) : Option ρ :=
  (impl_groupHopf_sh.s N K0 (fun x10 gv11 => (impl_groupHopf_sh.l0 N K0 table1 table2 gv4 gv5 gv6 gv7 gv8 (fun ov19 => (impl_groupHopf_sh.a0_0 N K0 p0 table1 ov19)) N x10 gv11)))

noncomputable def impl_GroupHopf_sh {ρ : Type} (N : Nat) (K0 : (Nat → Int) → (Nat → Int) → Int → Option ρ) (p0 : Int) (table1 : Nat) (table2 : Nat) (gv3 : Nat) (gv4 : Nat) (gv5 : Nat → Nat) (gv6 : Nat → Nat) (gv7 : Nat → Nat) (gv8 : Nat → Int) : Option ρ :=
  (impl_IsPrime N (fun rv9 => (impl_unless N (fun rv10 => (impl_IsGroupTable_sh N (fun rv11 => (impl_unless N (fun rv12 => (impl_first_s N (fun rv13 => (if (rv13 != 0) = true then (K0 (fun _ => 0) (fun _ => 0) rv13) else (impl_groupHopf_sh N (fun rv14 rv15 => (K0 rv14 rv15 0)) p0 table1 table2 (table2 * 1) gv4 (offN 0 gv5) (offN 0 gv6) (offN 0 gv7) gv8))) 2 2 2 (fun z => ((upd (upd (fun _ => 0) 0 rv10) 1 rv12) (0 + z))))) (rv11) 1)) table1 table2 (table2 * 1) gv4 (offN 0 gv5) (offN 0 gv6) (offN 0 gv7) gv8)) (rv9) 2)) p0)

noncomputable def impl_dualBack.b2 {ρ : Type} (N : Nat) (K0 : (Nat → Int) → Option ρ) (rec : Int → (Nat → Int) → Option ρ) (out0 : (Nat → Int) → Option ρ) (gv0 : Nat → Int) (x1 : Int) (x3 : Int) (x5 : Int) (gv6 : Nat → Int) : Option ρ :=
  (if (decide (x5 < 8)) = true then (if (0 : Int) ≤ x1 ∧ x1 < 8 then (if (0 : Int) ≤ x3 ∧ x3 < 8 then (if (0 : Int) ≤ x5 ∧ x5 < 8 then (if (0 : Int) ≤ x3 ∧ x3 < 8 then (if (0 : Int) ≤ x5 ∧ x5 < 8 then (if (0 : Int) ≤ x1 ∧ x1 < 8 then (rec ((IntKind.i64.wrap (x5 + 1))) (upd gv6 (((x3.toNat * 64) + (x5.toNat * 8)) + (x1.toNat * 1)) (gv0 (((x1.toNat * 64) + (x3.toNat * 8)) + (x5.toNat * 1))))) else none) else none) else none) else none) else none) else none) else (out0 gv6))

noncomputable def impl_dualBack.a2_0 {ρ : Type} (N : Nat) (K0 : (Nat → Int) → Option ρ) (rec : Int → (Nat → Int) → Option ρ) (out0 : (Nat → Int) → Option ρ) (x3 : Int) (ov7 : Nat → Int) : Option ρ :=
  (rec ((IntKind.i64.wrap (x3 + 1))) ov7)

noncomputable def impl_dualBack.b1 {ρ : Type} (N : Nat) (K0 : (Nat → Int) → Option ρ) (lp2 : Int → (Nat → Int) → Option ρ) (rec : Int → (Nat → Int) → Option ρ) (out0 : (Nat → Int) → Option ρ) (x3 : Int) (gv4 : Nat → Int) : Option ρ :=
  (if (decide (x3 < 8)) = true then (lp2 0 gv4) else (out0 gv4))

noncomputable def impl_dualBack.a1_0 {ρ : Type} (N : Nat) (K0 : (Nat → Int) → Option ρ) (rec : Int → (Nat → Int) → Option ρ) (out0 : (Nat → Int) → Option ρ) (x1 : Int) (ov8 : Nat → Int) : Option ρ :=
  (rec ((IntKind.i64.wrap (x1 + 1))) ov8)

noncomputable def impl_dualBack.b0 {ρ : Type} (N : Nat) (K0 : (Nat → Int) → Option ρ) (lp1 : Int → (Nat → Int) → Option ρ) (rec : Int → (Nat → Int) → Option ρ) (out0 : (Nat → Int) → Option ρ) (x1 : Int) (gv2 : Nat → Int) : Option ρ :=
  (if (decide (x1 < 8)) = true then (lp1 0 gv2) else (out0 gv2))

noncomputable def impl_dualBack.a0_0 {ρ : Type} (N : Nat) (K0 : (Nat → Int) → Option ρ) (ov9 : Nat → Int) : Option ρ :=
  (K0 ov9)

noncomputable def impl_dualBack.l2 {ρ : Type} (N : Nat) (K0 : (Nat → Int) → Option ρ) (gv0 : Nat → Int) (x1 : Int) (x3 : Int) (out0 : (Nat → Int) → Option ρ) : Nat → Int → (Nat → Int) → Option ρ
  | 0, _, _ => none
  | m + 1, x5, gv6 => (impl_dualBack.b2 N K0 ((impl_dualBack.l2 N K0 gv0 x1 x3 out0 m)) out0 gv0 x1 x3 x5 gv6)

noncomputable def impl_dualBack.l1 {ρ : Type} (N : Nat) (K0 : (Nat → Int) → Option ρ) (gv0 : Nat → Int) (x1 : Int) (out0 : (Nat → Int) → Option ρ) : Nat → Int → (Nat → Int) → Option ρ
  | 0, _, _ => none
  | m + 1, x3, gv4 => (impl_dualBack.b1 N K0 (fun x5 gv6 => (impl_dualBack.l2 N K0 gv0 x1 x3 (fun ov7 => (impl_dualBack.a2_0 N K0 (impl_dualBack.l1 N K0 gv0 x1 out0 m) out0 x3 ov7)) N x5 gv6)) ((impl_dualBack.l1 N K0 gv0 x1 out0 m)) out0 x3 gv4)

noncomputable def impl_dualBack.l0 {ρ : Type} (N : Nat) (K0 : (Nat → Int) → Option ρ) (gv0 : Nat → Int) (out0 : (Nat → Int) → Option ρ) : Nat → Int → (Nat → Int) → Option ρ
  | 0, _, _ => none
  | m + 1, x1, gv2 => (impl_dualBack.b0 N K0 (fun x3 gv4 => (impl_dualBack.l1 N K0 gv0 x1 (fun ov8 => (impl_dualBack.a1_0 N K0 (impl_dualBack.l0 N K0 gv0 out0 m) out0 x1 ov8)) N x3 gv4)) ((impl_dualBack.l0 N K0 gv0 out0 m)) out0 x1 gv2)

noncomputable def impl_dualBack.s {ρ : Type} (N : Nat) (K0 : (Nat → Int) → Option ρ) (lp0 : Int → (Nat → Int) → Option ρ) : Option ρ :=
  (lp0 0 (fun _ => 0))

noncomputable def impl_dualBack {ρ : Type} (N : Nat) (K0 : (Nat → Int) → Option ρ) (gv0 : Nat → Int) : Option ρ :=
  (impl_dualBack.s N K0 (fun x1 gv2 => (impl_dualBack.l0 N K0 gv0 (fun ov9 => (impl_dualBack.a0_0 N K0 ov9)) N x1 gv2)))

noncomputable def impl_dualTable.b2 {ρ : Type} (N : Nat) (K0 : (Nat → Int) → Option ρ) (rec : Int → (Nat → Int) → Option ρ) (out0 : (Nat → Int) → Option ρ) (gv0 : Nat → Int) (x1 : Int) (x3 : Int) (x5 : Int) (gv6 : Nat → Int) : Option ρ :=
  (if (decide (x5 < 8)) = true then (if (0 : Int) ≤ x3 ∧ x3 < 8 then (if (0 : Int) ≤ x5 ∧ x5 < 8 then (if (0 : Int) ≤ x1 ∧ x1 < 8 then (if (0 : Int) ≤ x1 ∧ x1 < 8 then (if (0 : Int) ≤ x3 ∧ x3 < 8 then (if (0 : Int) ≤ x5 ∧ x5 < 8 then (rec ((IntKind.i64.wrap (x5 + 1))) (upd gv6 (((x1.toNat * 64) + (x3.toNat * 8)) + (x5.toNat * 1)) (gv0 (((x3.toNat * 64) + (x5.toNat * 8)) + (x1.toNat * 1))))) else none) else none) else none) else none) else none) else none) else (out0 gv6))

noncomputable def impl_dualTable.a2_0 {ρ : Type} (N : Nat) (K0 : (Nat → Int) → Option ρ) (rec : Int → (Nat → Int) → Option ρ) (out0 : (Nat → Int) → Option ρ) (x3 : Int) (ov7 : Nat → Int) : Option ρ :=
  (rec ((IntKind.i64.wrap (x3 + 1))) ov7)

noncomputable def impl_dualTable.b1 {ρ : Type} (N : Nat) (K0 : (Nat → Int) → Option ρ) (lp2 : Int → (Nat → Int) → Option ρ) (rec : Int → (Nat → Int) → Option ρ) (out0 : (Nat → Int) → Option ρ) (x3 : Int) (gv4 : Nat → Int) : Option ρ :=
  (if (decide (x3 < 8)) = true then (lp2 0 gv4) else (out0 gv4))

noncomputable def impl_dualTable.a1_0 {ρ : Type} (N : Nat) (K0 : (Nat → Int) → Option ρ) (rec : Int → (Nat → Int) → Option ρ) (out0 : (Nat → Int) → Option ρ) (x1 : Int) (ov8 : Nat → Int) : Option ρ :=
  (rec ((IntKind.i64.wrap (x1 + 1))) ov8)

noncomputable def impl_dualTable.b0 {ρ : Type} (N : Nat) (K0 : (Nat → Int) → Option ρ) (lp1 : Int → (Nat → Int) → Option ρ) (rec : Int → (Nat → Int) → Option ρ) (out0 : (Nat → Int) → Option ρ) (x1 : Int) (gv2 : Nat → Int) : Option ρ :=
  (if (decide (x1 < 8)) = true then (lp1 0 gv2) else (out0 gv2))

noncomputable def impl_dualTable.a0_0 {ρ : Type} (N : Nat) (K0 : (Nat → Int) → Option ρ) (ov9 : Nat → Int) : Option ρ :=
  (K0 ov9)

noncomputable def impl_dualTable.l2 {ρ : Type} (N : Nat) (K0 : (Nat → Int) → Option ρ) (gv0 : Nat → Int) (x1 : Int) (x3 : Int) (out0 : (Nat → Int) → Option ρ) : Nat → Int → (Nat → Int) → Option ρ
  | 0, _, _ => none
  | m + 1, x5, gv6 => (impl_dualTable.b2 N K0 ((impl_dualTable.l2 N K0 gv0 x1 x3 out0 m)) out0 gv0 x1 x3 x5 gv6)

noncomputable def impl_dualTable.l1 {ρ : Type} (N : Nat) (K0 : (Nat → Int) → Option ρ) (gv0 : Nat → Int) (x1 : Int) (out0 : (Nat → Int) → Option ρ) : Nat → Int → (Nat → Int) → Option ρ
  | 0, _, _ => none
  | m + 1, x3, gv4 => (impl_dualTable.b1 N K0 (fun x5 gv6 => (impl_dualTable.l2 N K0 gv0 x1 x3 (fun ov7 => (impl_dualTable.a2_0 N K0 (impl_dualTable.l1 N K0 gv0 x1 out0 m) out0 x3 ov7)) N x5 gv6)) ((impl_dualTable.l1 N K0 gv0 x1 out0 m)) out0 x3 gv4)

noncomputable def impl_dualTable.l0 {ρ : Type} (N : Nat) (K0 : (Nat → Int) → Option ρ) (gv0 : Nat → Int) (out0 : (Nat → Int) → Option ρ) : Nat → Int → (Nat → Int) → Option ρ
  | 0, _, _ => none
  | m + 1, x1, gv2 => (impl_dualTable.b0 N K0 (fun x3 gv4 => (impl_dualTable.l1 N K0 gv0 x1 (fun ov8 => (impl_dualTable.a1_0 N K0 (impl_dualTable.l0 N K0 gv0 out0 m) out0 x1 ov8)) N x3 gv4)) ((impl_dualTable.l0 N K0 gv0 out0 m)) out0 x1 gv2)

noncomputable def impl_dualTable.s {ρ : Type} (N : Nat) (K0 : (Nat → Int) → Option ρ) (lp0 : Int → (Nat → Int) → Option ρ) : Option ρ :=
  (lp0 0 (fun _ => 0))

noncomputable def impl_dualTable {ρ : Type} (N : Nat) (K0 : (Nat → Int) → Option ρ) (gv0 : Nat → Int) : Option ρ :=
  (impl_dualTable.s N K0 (fun x1 gv2 => (impl_dualTable.l0 N K0 gv0 (fun ov9 => (impl_dualTable.a0_0 N K0 ov9)) N x1 gv2)))

noncomputable def impl_transposed.b1 {ρ : Type} (N : Nat) (K0 : (Nat → Int) → Option ρ) (rec : Int → (Nat → Int) → Option ρ) (out0 : (Nat → Int) → Option ρ) (gv0 : Nat → Int) (x1 : Int) (x3 : Int) (gv4 : Nat → Int) : Option ρ :=
  (if (decide (x3 < 8)) = true then (if (0 : Int) ≤ x3 ∧ x3 < 8 then (if (0 : Int) ≤ x1 ∧ x1 < 8 then (if (0 : Int) ≤ x1 ∧ x1 < 8 then (if (0 : Int) ≤ x3 ∧ x3 < 8 then (rec ((IntKind.i64.wrap (x3 + 1))) (upd gv4 ((x1.toNat * 8) + (x3.toNat * 1)) (gv0 ((x3.toNat * 8) + (x1.toNat * 1))))) else none) else none) else none) else none) else (out0 gv4))

noncomputable def impl_transposed.a1_0 {ρ : Type} (N : Nat) (K0 : (Nat → Int) → Option ρ) (rec : Int → (Nat → Int) → Option ρ) (out0 : (Nat → Int) → Option ρ) (x1 : Int) (ov5 : Nat → Int) : Option ρ :=
  (rec ((IntKind.i64.wrap (x1 + 1))) ov5)

noncomputable def impl_transposed.b0 {ρ : Type} (N : Nat) (K0 : (Nat → Int) → Option ρ) (lp1 : Int → (Nat → Int) → Option ρ) (rec : Int → (Nat → Int) → Option ρ) (out0 : (Nat → Int) → Option ρ) (x1 : Int) (gv2 : Nat → Int) : Option ρ :=
  (if (decide (x1 < 8)) = true then (lp1 0 gv2) else (out0 gv2))

noncomputable def impl_transposed.a0_0 {ρ : Type} (N : Nat) (K0 : (Nat → Int) → Option ρ) (ov6 : Nat → Int) : Option ρ :=
  (K0 ov6)

noncomputable def impl_transposed.l1 {ρ : Type} (N : Nat) (K0 : (Nat → Int) → Option ρ) (gv0 : Nat → Int) (x1 : Int) (out0 : (Nat → Int) → Option ρ) : Nat → Int → (Nat → Int) → Option ρ
  | 0, _, _ => none
  | m + 1, x3, gv4 => (impl_transposed.b1 N K0 ((impl_transposed.l1 N K0 gv0 x1 out0 m)) out0 gv0 x1 x3 gv4)

noncomputable def impl_transposed.l0 {ρ : Type} (N : Nat) (K0 : (Nat → Int) → Option ρ) (gv0 : Nat → Int) (out0 : (Nat → Int) → Option ρ) : Nat → Int → (Nat → Int) → Option ρ
  | 0, _, _ => none
  | m + 1, x1, gv2 => (impl_transposed.b0 N K0 (fun x3 gv4 => (impl_transposed.l1 N K0 gv0 x1 (fun ov5 => (impl_transposed.a1_0 N K0 (impl_transposed.l0 N K0 gv0 out0 m) out0 x1 ov5)) N x3 gv4)) ((impl_transposed.l0 N K0 gv0 out0 m)) out0 x1 gv2)

noncomputable def impl_transposed.s {ρ : Type} (N : Nat) (K0 : (Nat → Int) → Option ρ) (lp0 : Int → (Nat → Int) → Option ρ) : Option ρ :=
  (lp0 0 (fun _ => 0))

noncomputable def impl_transposed {ρ : Type} (N : Nat) (K0 : (Nat → Int) → Option ρ) (gv0 : Nat → Int) : Option ρ :=
  (impl_transposed.s N K0 (fun x1 gv2 => (impl_transposed.l0 N K0 gv0 (fun ov6 => (impl_transposed.a0_0 N K0 ov6)) N x1 gv2)))

noncomputable def impl_Hopf_dual {ρ : Type} (N : Nat) (K0 : (Nat → Int) → (Nat → Int) → Option ρ) (gv0 : Nat → Int) (gv1 : Nat → Int) : Option ρ :=
  (impl_dualBack N (fun rv2 => (impl_dualTable N (fun rv3 => (impl_transposed N (fun rv4 => (K0 (upd (upd (fun _ => 0) 0 (gv0 0)) 1 (gv0 1)) (updN (updN (updN (updN (updN (fun _ => 0) 0 8 (fun z => (gv1 (520 + z)))) 8 512 rv2) 520 8 (fun z => (gv1 (0 + z)))) 528 512 rv3) 1040 64 rv4))) (fun z => (gv1 (1040 + z))))) (fun z => (gv1 (8 + z))))) (fun z => (gv1 (528 + z))))

noncomputable def impl_FunctionsHopf_sh {ρ : Type} (N : Nat) (K0 : (Nat → Int) → (Nat → Int) → Int → Option ρ) (p0 : Int) (table1 : Nat) (table2 : Nat) (gv3 : Nat) (gv4 : Nat) (gv5 : Nat → Nat) (gv6 : Nat → Nat) (gv7 : Nat → Nat) (gv8 : Nat → Int) : Option ρ :=
  (impl_GroupHopf_sh N (fun rv9 rv10 rv11 => (if (rv11 != 0) = true then (K0 (fun _ => 0) (fun _ => 0) rv11) else (impl_Hopf_dual N (fun rv12 rv13 => (K0 rv12 rv13 0)) rv9 rv10))) p0 table1 table2 (table2 * 1) gv4 (offN 0 gv5) (offN 0 gv6) (offN 0 gv7) gv8)

noncomputable def laws_eqVector.b0 {ρ : Type} (N : Nat) (K0 : Bool → Option ρ) (rec : Int → Option ρ) (out0 : Option ρ) (av0 : Nat → Int) (bv1 : Nat → Int) (i2 : Int) : Option ρ :=
  (if (decide (i2 < 8)) = true then (if (0 : Int) ≤ i2 ∧ i2 < 8 then (if (0 : Int) ≤ i2 ∧ i2 < 8 then (if ((av0 (i2.toNat * 1)) != (bv1 (i2.toNat * 1))) = true then (K0 false) else (rec ((IntKind.i64.wrap (i2 + 1))))) else none) else none) else out0)

noncomputable def laws_eqVector.a0_0 {ρ : Type} (N : Nat) (K0 : Bool → Option ρ) : Option ρ :=
  (K0 true)

noncomputable def laws_eqVector.l0 {ρ : Type} (N : Nat) (K0 : Bool → Option ρ) (av0 : Nat → Int) (bv1 : Nat → Int) (out0 : Option ρ) : Nat → Int → Option ρ
  | 0, _ => none
  | m + 1, i2 => (laws_eqVector.b0 N K0 ((laws_eqVector.l0 N K0 av0 bv1 out0 m)) out0 av0 bv1 i2)

noncomputable def laws_eqVector.s {ρ : Type} (N : Nat) (K0 : Bool → Option ρ) (lp0 : Int → Option ρ) : Option ρ :=
  (lp0 0)

noncomputable def laws_eqVector {ρ : Type} (N : Nat) (K0 : Bool → Option ρ) (av0 : Nat → Int) (bv1 : Nat → Int) : Option ρ :=
  (laws_eqVector.s N K0 (fun i2 => (laws_eqVector.l0 N K0 av0 bv1 (laws_eqVector.a0_0 N K0) N i2)))

noncomputable def laws_eqLinear.b0 {ρ : Type} (N : Nat) (K0 : Bool → Option ρ) (rec : Int → Option ρ) (out0 : Option ρ) (av0 : Nat → Int) (bv1 : Nat → Int) (i2 : Int) : Option ρ :=
  (if (decide (i2 < 8)) = true then (if (0 : Int) ≤ i2 ∧ i2 < 8 then (if (0 : Int) ≤ i2 ∧ i2 < 8 then (laws_eqVector N (fun rv3 => (if (!rv3) = true then (K0 false) else (rec ((IntKind.i64.wrap (i2 + 1)))))) (fun z => (av0 ((i2.toNat * 8) + z))) (fun z => (bv1 ((i2.toNat * 8) + z)))) else none) else none) else out0)

noncomputable def laws_eqLinear.a0_0 {ρ : Type} (N : Nat) (K0 : Bool → Option ρ) : Option ρ :=
  (K0 true)

noncomputable def laws_eqLinear.l0 {ρ : Type} (N : Nat) (K0 : Bool → Option ρ) (av0 : Nat → Int) (bv1 : Nat → Int) (out0 : Option ρ) : Nat → Int → Option ρ
  | 0, _ => none
  | m + 1, i2 => (laws_eqLinear.b0 N K0 ((laws_eqLinear.l0 N K0 av0 bv1 out0 m)) out0 av0 bv1 i2)

noncomputable def laws_eqLinear.s {ρ : Type} (N : Nat) (K0 : Bool → Option ρ) (lp0 : Int → Option ρ) : Option ρ :=
  (lp0 0)

noncomputable def laws_eqLinear {ρ : Type} (N : Nat) (K0 : Bool → Option ρ) (av0 : Nat → Int) (bv1 : Nat → Int) : Option ρ :=
  (laws_eqLinear.s N K0 (fun i2 => (laws_eqLinear.l0 N K0 av0 bv1 (laws_eqLinear.a0_0 N K0) N i2)))

noncomputable def laws_eqTable.b0 {ρ : Type} (N : Nat) (K0 : Bool → Option ρ) (rec : Int → Option ρ) (out0 : Option ρ) (av0 : Nat → Int) (bv1 : Nat → Int) (i2 : Int) : Option ρ :=
  (if (decide (i2 < 8)) = true then (if (0 : Int) ≤ i2 ∧ i2 < 8 then (if (0 : Int) ≤ i2 ∧ i2 < 8 then (laws_eqLinear N (fun rv3 => (if (!rv3) = true then (K0 false) else (rec ((IntKind.i64.wrap (i2 + 1)))))) (fun z => (av0 ((i2.toNat * 64) + z))) (fun z => (bv1 ((i2.toNat * 64) + z)))) else none) else none) else out0)

noncomputable def laws_eqTable.a0_0 {ρ : Type} (N : Nat) (K0 : Bool → Option ρ) : Option ρ :=
  (K0 true)

noncomputable def laws_eqTable.l0 {ρ : Type} (N : Nat) (K0 : Bool → Option ρ) (av0 : Nat → Int) (bv1 : Nat → Int) (out0 : Option ρ) : Nat → Int → Option ρ
  | 0, _ => none
  | m + 1, i2 => (laws_eqTable.b0 N K0 ((laws_eqTable.l0 N K0 av0 bv1 out0 m)) out0 av0 bv1 i2)

noncomputable def laws_eqTable.s {ρ : Type} (N : Nat) (K0 : Bool → Option ρ) (lp0 : Int → Option ρ) : Option ρ :=
  (lp0 0)

noncomputable def laws_eqTable {ρ : Type} (N : Nat) (K0 : Bool → Option ρ) (av0 : Nat → Int) (bv1 : Nat → Int) : Option ρ :=
  (laws_eqTable.s N K0 (fun i2 => (laws_eqTable.l0 N K0 av0 bv1 (laws_eqTable.a0_0 N K0) N i2)))

noncomputable def laws_eqHopf {ρ : Type} (N : Nat) (K0 : Bool → Option ρ) (av0 : Nat → Int) (av1 : Nat → Int) (bv2 : Nat → Int) (bv3 : Nat → Int) : Option ρ :=
  (if ((av0 0) != (bv2 0)) = true then (K0 false) else (if ((av0 1) != (bv2 1)) = true then (K0 false) else (laws_eqVector N (fun rv4 => (if (!rv4) = true then (K0 false) else (laws_eqTable N (fun rv5 => (if (!rv5) = true then (K0 false) else (laws_eqVector N (fun rv6 => (if (!rv6) = true then (K0 false) else (laws_eqTable N (fun rv7 => (if (!rv7) = true then (K0 false) else (laws_eqLinear N (fun rv8 => (if (!rv8) = true then (K0 false) else (K0 true))) (fun z => (av1 (1040 + z))) (fun z => (bv3 (1040 + z)))))) (fun z => (av1 (528 + z))) (fun z => (bv3 (528 + z)))))) (fun z => (av1 (520 + z))) (fun z => (bv3 (520 + z)))))) (fun z => (av1 (8 + z))) (fun z => (bv3 (8 + z)))))) (fun z => (av1 (0 + z))) (fun z => (bv3 (0 + z))))))

noncomputable def laws_eqInt64S_ss.b0 {ρ : Type} (N : Nat) (K0 : Bool → Option ρ) (rec : Int → Option ρ) (out0 : Option ρ) (av0 : Nat) (bv2 : Nat) (gv5 : Nat → Int) (gv7 : Nat → Int) (i8 : Int) : Option ρ :=
  (if (decide (i8 < (av0 : Int))) = true then (if (0 : Int) ≤ i8 ∧ i8 < (av0 : Int) then (if (0 : Int) ≤ i8 ∧ i8 < (bv2 : Int) then (if ((gv5 (0 + (i8.toNat * 1))) != (gv7 (0 + (i8.toNat * 1)))) = true then (K0 false) else (rec ((IntKind.i64.wrap (i8 + 1))))) else none) else none) else out0)

noncomputable def laws_eqInt64S_ss.a0_0 {ρ : Type} (N : Nat) (K0 : Bool → Option ρ) : Option ρ :=
  (K0 true)

noncomputable def laws_eqInt64S_ss.l0 {ρ : Type} (N : Nat) (K0 : Bool → Option ρ) (av0 : Nat) (bv2 : Nat) (gv5 : Nat → Int) (gv7 : Nat → Int) (out0 : Option ρ) : Nat → Int → Option ρ
  | 0, _ => none
  | m + 1, i8 => (laws_eqInt64S_ss.b0 N K0 ((laws_eqInt64S_ss.l0 N K0 av0 bv2 gv5 gv7 out0 m)) out0 av0 bv2 gv5 gv7 i8)

noncomputable def laws_eqInt64S_ss.s {ρ : Type} (N : Nat) (K0 : Bool → Option ρ) (lp0 : Int → Option ρ) (av0 : Nat) (bv2 : Nat) : Option ρ :=
  (if ((av0 : Int) != (bv2 : Int)) = true then (K0 false) else (lp0 0))

noncomputable def laws_eqInt64S_ss {ρ : Type} (N : Nat) (K0 : Bool → Option ρ) (av0 : Nat) (av1 : Nat) (bv2 : Nat) (bv3 : Nat) (gv4 : Nat) (gv5 : Nat → Int) (gv6 : Nat) (gv7 : Nat → Int) : Option ρ :=
  (laws_eqInt64S_ss.s N K0 (fun i8 => (laws_eqInt64S_ss.l0 N K0 av0 bv2 gv5 gv7 (laws_eqInt64S_ss.a0_0 N K0) N i8)) av0 bv2)

noncomputable def laws_intactInt64S_ss {ρ : Type} (N : Nat) (K0 : Bool → Option ρ) (x0 : Nat) (x1 : Nat) (y2 : Nat) (y3 : Nat) (gv4 : Nat) (gv5 : Nat → Int) (gv6 : Nat) (gv7 : Nat → Int) : Option ρ :=
  (laws_roomBehind N (fun rv8 => (if ((x0 : Int) == (y2 : Int)) = true then (if (0 : Int) ≤ (0 : Int) ∧ (0 : Int) ≤ (IntKind.i64.wrap ((y2 : Int) + rv8)) ∧ (IntKind.i64.wrap ((y2 : Int) + rv8)) ≤ (x1 : Int) then (if (0 : Int) ≤ (0 : Int) ∧ (0 : Int) ≤ (IntKind.i64.wrap ((y2 : Int) + rv8)) ∧ (IntKind.i64.wrap ((y2 : Int) + rv8)) ≤ (y3 : Int) then (laws_eqInt64S_ss N (fun rv9 => (K0 (rv9))) ((IntKind.i64.wrap ((y2 : Int) + rv8))).toNat x1 ((IntKind.i64.wrap ((y2 : Int) + rv8))).toNat y3 (x1 * 1) (fun z => (gv5 (0 + z))) (y3 * 1) (fun z => (gv7 (0 + z)))) else none) else none) else (K0 false))) ((y2 : Int)))

noncomputable def laws_eqInt64SS_shsh.b0 {ρ : Type} (N : Nat) (K0 : Bool → Option ρ) (rec : Int → Option ρ) (out0 : Option ρ) (av0 : Nat) (bv2 : Nat) (gv6 : Nat → Nat) (gv7 : Nat → Nat) (gv8 : Nat → Nat) (gv11 : Nat → Nat) (gv12 : Nat → Nat) (gv13 : Nat → Nat) (gv14 : Nat → Int) (gv15 : Nat → Int) (i16 : Int) : Option ρ :=
  (if (decide (i16 < (av0 : Int))) = true then (if (0 : Int) ≤ i16 ∧ i16 < (av0 : Int) then (if (0 : Int) ≤ i16 ∧ i16 < (bv2 : Int) then (laws_eqInt64S_ss N (fun rv17 => (if (!rv17) = true then (K0 false) else (rec ((IntKind.i64.wrap (i16 + 1)))))) (gv7 (0 + (i16.toNat * 1))) (gv8 (0 + (i16.toNat * 1))) (gv12 (0 + (i16.toNat * 1))) (gv13 (0 + (i16.toNat * 1))) ((gv8 (0 + (i16.toNat * 1))) * 1) (fun z => (gv14 ((gv6 (0 + (i16.toNat * 1))) + z))) ((gv13 (0 + (i16.toNat * 1))) * 1) (fun z => (gv15 ((gv11 (0 + (i16.toNat * 1))) + z)))) else none) else none) else out0)

noncomputable def laws_eqInt64SS_shsh.a0_0 {ρ : Type} (N : Nat) (K0 : Bool → Option ρ) : Option ρ :=
  (K0 true)

noncomputable def laws_eqInt64SS_shsh.l0 {ρ : Type} (N : Nat) (K0 : Bool → Option ρ) (av0 : Nat) (bv2 : Nat) (gv6 : Nat → Nat) (gv7 : Nat → Nat) (gv8 : Nat → Nat) (gv11 : Nat → Nat) (gv12 : Nat → Nat) (gv13 : Nat → Nat) (gv14 : Nat → Int) (gv15 : Nat → Int) (out0 : Option ρ) : Nat → Int → Option ρ
  | 0, _ => none
  | m + 1, i16 => (laws_eqInt64SS_shsh.b0 N K0 ((laws_eqInt64SS_shsh.l0 N K0 av0 bv2 gv6 gv7 gv8 gv11 gv12 gv13 gv14 gv15 out0 m)) out0 av0 bv2 gv6 gv7 gv8 gv11 gv12 gv13 gv14 gv15 i16)

noncomputable def laws_eqInt64SS_shsh.s {ρ : Type} (N : Nat) (K0 : Bool → Option ρ) (lp0 : Int → Option ρ) (av0 : Nat) (bv2 : Nat) : Option ρ :=
  (if ((av0 : Int) != (bv2 : Int)) = true then (K0 false) else (lp0 0))

noncomputable def laws_eqInt64SS_shsh {ρ : Type} (N : Nat) (K0 : Bool → Option ρ) (av0 : Nat) (av1 : Nat) (bv2 : Nat) (bv3 : Nat) (gv4 : Nat) (gv5 : Nat) (gv6 : Nat → Nat) (gv7 : Nat → Nat) (gv8 : Nat → Nat) (gv9 : Nat) (gv10 : Nat) (gv11 : Nat → Nat) (gv12 : Nat → Nat) (gv13 : Nat → Nat) (gv14 : Nat → Int) (gv15 : Nat → Int) : Option ρ :=
  (laws_eqInt64SS_shsh.s N K0 (fun i16 => (laws_eqInt64SS_shsh.l0 N K0 av0 bv2 gv6 gv7 gv8 gv11 gv12 gv13 gv14 gv15 (laws_eqInt64SS_shsh.a0_0 N K0) N i16)) av0 bv2)

noncomputable def laws_intactInt64SS_shsh.b0 {ρ : Type} (N : Nat) (K0 : Bool → Option ρ) (rec : Int → Option ρ) (out0 : Option ρ) (x0 : Nat) (y2 : Nat) (gv6 : Nat → Nat) (gv7 : Nat → Nat) (gv8 : Nat → Nat) (gv11 : Nat → Nat) (gv12 : Nat → Nat) (gv13 : Nat → Nat) (gv14 : Nat → Int) (gv15 : Nat → Int) (i17 : Int) : Option ρ :=
  (if (decide (i17 < (y2 : Int))) = true then (if (0 : Int) ≤ i17 ∧ i17 < (x0 : Int) then (if (0 : Int) ≤ i17 ∧ i17 < (y2 : Int) then (laws_intactInt64S_ss N (fun rv18 => (if (!rv18) = true then (K0 false) else (rec ((IntKind.i64.wrap (i17 + 1)))))) (gv7 (0 + (i17.toNat * 1))) (gv8 (0 + (i17.toNat * 1))) (gv12 (0 + (i17.toNat * 1))) (gv13 (0 + (i17.toNat * 1))) ((gv8 (0 + (i17.toNat * 1))) * 1) (fun z => (gv14 ((gv6 (0 + (i17.toNat * 1))) + z))) ((gv13 (0 + (i17.toNat * 1))) * 1) (fun z => (gv15 ((gv11 (0 + (i17.toNat * 1))) + z)))) else none) else none) else out0)

noncomputable def laws_intactInt64SS_shsh.a0_0 {ρ : Type} (N : Nat) (K0 : Bool → Option ρ) (x1 : Nat) (y2 : Nat) (y3 : Nat) (gv5 : Nat) (gv6 : Nat → Nat) (gv7 : Nat → Nat) (gv8 : Nat → Nat) (gv10 : Nat) (gv11 : Nat → Nat) (gv12 : Nat → Nat) (gv13 : Nat → Nat) (gv14 : Nat → Int) (gv15 : Nat → Int) (rv16 : Int) : Option ρ :=
  (if (0 : Int) ≤ (y2 : Int) ∧ (y2 : Int) ≤ (IntKind.i64.wrap ((y2 : Int) + rv16)) ∧ (IntKind.i64.wrap ((y2 : Int) + rv16)) ≤ (x1 : Int) then (if (0 : Int) ≤ (y2 : Int) ∧ (y2 : Int) ≤ (IntKind.i64.wrap ((y2 : Int) + rv16)) ∧ (IntKind.i64.wrap ((y2 : Int) + rv16)) ≤ (y3 : Int) then (laws_eqInt64SS_shsh N (fun rv19 => (K0 (rv19))) (((IntKind.i64.wrap ((y2 : Int) + rv16))).toNat - ((y2 : Int)).toNat) (x1 - ((y2 : Int)).toNat) (((IntKind.i64.wrap ((y2 : Int) + rv16))).toNat - ((y2 : Int)).toNat) (y3 - ((y2 : Int)).toNat) ((x1 - ((y2 : Int)).toNat) * 1) gv5 (offN (0 + (((y2 : Int)).toNat * 1)) gv6) (offN (0 + (((y2 : Int)).toNat * 1)) gv7) (offN (0 + (((y2 : Int)).toNat * 1)) gv8) ((y3 - ((y2 : Int)).toNat) * 1) gv10 (offN (0 + (((y2 : Int)).toNat * 1)) gv11) (offN (0 + (((y2 : Int)).toNat * 1)) gv12) (offN (0 + (((y2 : Int)).toNat * 1)) gv13) gv14 gv15) else none) else none)

noncomputable def laws_intactInt64SS_shsh.l0 {ρ : Type} (N : Nat) (K0 : Bool → Option ρ) (x0 : Nat) (y2 : Nat) (gv6 : Nat → Nat) (gv7 : Nat → Nat) (gv8 : Nat → Nat) (gv11 : Nat → Nat) (gv12 : Nat → Nat) (gv13 : Nat → Nat) (gv14 : Nat → Int) (gv15 : Nat → Int) (out0 : Option ρ) : Nat → Int → Option ρ
  | 0, _ => none
  | m + 1, i17 => (laws_intactInt64SS_shsh.b0 N K0 ((laws_intactInt64SS_shsh.l0 N K0 x0 y2 gv6 gv7 gv8 gv11 gv12 gv13 gv14 gv15 out0 m)) out0 x0 y2 gv6 gv7 gv8 gv11 gv12 gv13 gv14 gv15 i17)

noncomputable def laws_intactInt64SS_shsh.s {ρ : Type} (N : Nat) (K0 : Bool → Option ρ) (lp0 : Int → Int → Option ρ) (x0 : Nat) (y2 : Nat) : Option ρ :=
  (laws_roomBehind N (fun rv16 => (if ((x0 : Int) != (y2 : Int)) = true then (K0 false) else (lp0 rv16 0))) ((y2 : Int)))

noncomputable def laws_intactInt64SS_shsh {ρ : Type} (N : Nat) (K0 : Bool → Option ρ) (x0 : Nat) (x1 : Nat) (y2 : Nat) (y3 : Nat) (gv4 : Nat) (gv5 : Nat) (gv6 : Nat → Nat) (gv7 : Nat → Nat) (gv8 : Nat → Nat) (gv9 : Nat) (gv10 : Nat) (gv11 : Nat → Nat) (gv12 : Nat → Nat) (gv13 : Nat → Nat) (gv14 : Nat → Int) (gv15 : Nat → Int) : Option ρ :=
  (laws_intactInt64SS_shsh.s N K0 (fun rv16 i17 => (laws_intactInt64SS_shsh.l0 N K0 x0 y2 gv6 gv7 gv8 gv11 gv12 gv13 gv14 gv15 (laws_intactInt64SS_shsh.a0_0 N K0 x1 y2 y3 gv5 gv6 gv7 gv8 gv10 gv11 gv12 gv13 gv14 gv15 rv16) N i17)) x0 y2)

noncomputable def laws_toInt64S_su1.b1 {ρ : Type} (N : Nat) (K0 : Option ρ) (K1 : Nat → Nat → Nat → (Nat → Int) → Option ρ) (rec : Int → (Nat → Int) → Option ρ) (out0 : (Nat → Int) → Option ρ) (av0 : Nat) (rv3 : Int) (i7 : Int) (gv8 : Nat → Int) : Option ρ :=
  (if (decide (i7 < ((((IntKind.i64.wrap ((av0 : Int) + rv3))).toNat : Nat) : Int))) = true then (if (0 : Int) ≤ i7 ∧ i7 < ((((IntKind.i64.wrap ((av0 : Int) + rv3))).toNat : Nat) : Int) then (rec ((IntKind.i64.wrap (i7 + 1))) (upd gv8 (0 + (i7.toNat * 1)) (-7000000000000000101))) else none) else (out0 gv8))

noncomputable def laws_toInt64S_su1.a1_0 {ρ : Type} (N : Nat) (K0 : Option ρ) (K1 : Nat → Nat → Nat → (Nat → Int) → Option ρ) (av0 : Nat) (rv3 : Int) (ov9 : Nat → Int) : Option ρ :=
  (if (0 : Int) ≤ (0 : Int) ∧ (0 : Int) ≤ (av0 : Int) ∧ (av0 : Int) ≤ ((((IntKind.i64.wrap ((av0 : Int) + rv3))).toNat : Nat) : Int) then (K1 ((av0 : Int)).toNat ((IntKind.i64.wrap ((av0 : Int) + rv3))).toNat (((IntKind.i64.wrap ((av0 : Int) + rv3))).toNat * 1) ov9) else none)

noncomputable def laws_toInt64S_su1.b0 {ρ : Type} (N : Nat) (K0 : Option ρ) (K1 : Nat → Nat → Nat → (Nat → Int) → Option ρ) (rec : Int → (Nat → Int) → Option ρ) (out0 : (Nat → Int) → Option ρ) (av0 : Nat) (gv2 : Nat → Int) (rv3 : Int) (i4 : Int) (gv5 : Nat → Int) : Option ρ :=
  (if (decide (i4 < (av0 : Int))) = true then (if (0 : Int) ≤ i4 ∧ i4 < (av0 : Int) then (if (0 : Int) ≤ i4 ∧ i4 < ((((IntKind.i64.wrap ((av0 : Int) + rv3))).toNat : Nat) : Int) then (rec ((IntKind.i64.wrap (i4 + 1))) (upd gv5 (0 + (i4.toNat * 1)) (gv2 (0 + (i4.toNat * 1))))) else none) else none) else (out0 gv5))

noncomputable def laws_toInt64S_su1.a0_0 {ρ : Type} (N : Nat) (K0 : Option ρ) (K1 : Nat → Nat → Nat → (Nat → Int) → Option ρ) (lp1 : Int → (Nat → Int) → Option ρ) (av0 : Nat) (ov6 : Nat → Int) : Option ρ :=
  (lp1 ((av0 : Int)) ov6)

noncomputable def laws_toInt64S_su1.l1 {ρ : Type} (N : Nat) (K0 : Option ρ) (K1 : Nat → Nat → Nat → (Nat → Int) → Option ρ) (av0 : Nat) (rv3 : Int) (out0 : (Nat → Int) → Option ρ) : Nat → Int → (Nat → Int) → Option ρ
  | 0, _, _ => none
  | m + 1, i7, gv8 => (laws_toInt64S_su1.b1 N K0 K1 ((laws_toInt64S_su1.l1 N K0 K1 av0 rv3 out0 m)) out0 av0 rv3 i7 gv8)

noncomputable def laws_toInt64S_su1.l0 {ρ : Type} (N : Nat) (K0 : Option ρ) (K1 : Nat → Nat → Nat → (Nat → Int) → Option ρ) (av0 : Nat) (gv2 : Nat → Int) (rv3 : Int) (out0 : (Nat → Int) → Option ρ) : Nat → Int → (Nat → Int) → Option ρ
  | 0, _, _ => none
  | m + 1, i4, gv5 => (laws_toInt64S_su1.b0 N K0 K1 ((laws_toInt64S_su1.l0 N K0 K1 av0 gv2 rv3 out0 m)) out0 av0 gv2 rv3 i4 gv5)

noncomputable def laws_toInt64S_su1.s {ρ : Type} (N : Nat) (K0 : Option ρ) (K1 : Nat → Nat → Nat → (Nat → Int) → Option ρ) (lp0 : Int → Int → (Nat → Int) → Option ρ) (av0 : Nat) : Option ρ :=
  (if ((av0 : Int) == 0) = true then K0 else (laws_roomBehind N (fun rv3 => (if (0 : Int) ≤ (IntKind.i64.wrap ((av0 : Int) + rv3)) ∧ (IntKind.i64.wrap ((av0 : Int) + rv3)) ≤ (IntKind.i64.wrap ((av0 : Int) + rv3)) ∧ (8 : Int) * (IntKind.i64.wrap ((av0 : Int) + rv3)) ≤ 1099511627776 ∧ (IntKind.i64.wrap ((av0 : Int) + rv3)) ≤ 1099511627776 then (lp0 rv3 0 (fun _ => 0)) else none)) ((av0 : Int))))

noncomputable def laws_toInt64S_su1 {ρ : Type} (N : Nat) (K0 : Option ρ) (K1 : Nat → Nat → Nat → (Nat → Int) → Option ρ) (av0 : Nat) (gv1 : Nat) (gv2 : Nat → Int) : Option ρ :=
  (laws_toInt64S_su1.s N K0 K1 (fun rv3 i4 gv5 => (laws_toInt64S_su1.l0 N K0 K1 av0 gv2 rv3 (fun ov6 => (laws_toInt64S_su1.a0_0 N K0 K1 (fun i7 gv8 => (laws_toInt64S_su1.l1 N K0 K1 av0 rv3 (fun ov9 => (laws_toInt64S_su1.a1_0 N K0 K1 av0 rv3 ov9)) N i7 gv8)) av0 ov6)) N i4 gv5)) av0)

noncomputable def laws_toInt64SS_suh1.b1 {ρ : Type} (N : Nat) (K0 : Option ρ) (K1 : Nat → Nat → Nat → Nat → (Nat → Nat) → (Nat → Nat) → (Nat → Nat) → (Nat → Int) → Option ρ) (rec : Int → Nat → (Nat → Nat) → (Nat → Nat) → (Nat → Nat) → (Nat → Int) → Option ρ) (out0 : Nat → (Nat → Nat) → (Nat → Nat) → (Nat → Nat) → (Nat → Int) → Option ρ) (av0 : Nat) (rv7 : Int) (i23 : Int) (gv24 : Nat) (gv25 : Nat → Nat) (gv26 : Nat → Nat) (gv27 : Nat → Nat) (gv28 : Nat → Int) : Option ρ :=
  (if (decide (i23 < ((((IntKind.i64.wrap ((av0 : Int) + rv7))).toNat : Nat) : Int))) = true then (if (0 : Int) ≤ i23 ∧ i23 < ((((IntKind.i64.wrap ((av0 : Int) + rv7))).toNat : Nat) : Int) then (rec ((IntKind.i64.wrap (i23 + 1))) (gv24 + 1) (upd gv25 (0 + (i23.toNat * 1)) gv24) (upd gv26 (0 + (i23.toNat * 1)) 1) (upd gv27 (0 + (i23.toNat * 1)) 1) (joinN gv24 gv28 (upd (fun _ => 0) 0 (-7000000000000000101)))) else none) else (out0 gv24 gv25 gv26 gv27 gv28))

noncomputable def laws_toInt64SS_suh1.a1_0 {ρ : Type} (N : Nat) (K0 : Option ρ) (K1 : Nat → Nat → Nat → Nat → (Nat → Nat) → (Nat → Nat) → (Nat → Nat) → (Nat → Int) → Option ρ) (av0 : Nat) (rv7 : Int) (ov29 : Nat) (ov30 : Nat → Nat) (ov31 : Nat → Nat) (ov32 : Nat → Nat) (ov33 : Nat → Int) : Option ρ :=
  (if (0 : Int) ≤ (0 : Int) ∧ (0 : Int) ≤ (av0 : Int) ∧ (av0 : Int) ≤ ((((IntKind.i64.wrap ((av0 : Int) + rv7))).toNat : Nat) : Int) then (K1 ((av0 : Int)).toNat ((IntKind.i64.wrap ((av0 : Int) + rv7))).toNat ((IntKind.i64.wrap ((av0 : Int) + rv7))).toNat ov29 ov30 ov31 ov32 ov33) else none)

noncomputable def laws_toInt64SS_suh1.b0 {ρ : Type} (N : Nat) (K0 : Option ρ) (K1 : Nat → Nat → Nat → Nat → (Nat → Nat) → (Nat → Nat) → (Nat → Nat) → (Nat → Int) → Option ρ) (rec : Int → Nat → (Nat → Nat) → (Nat → Nat) → (Nat → Nat) → (Nat → Int) → Option ρ) (out0 : Nat → (Nat → Nat) → (Nat → Nat) → (Nat → Nat) → (Nat → Int) → Option ρ) (av0 : Nat) (gv3 : Nat → Nat) (gv4 : Nat → Nat) (gv6 : Nat → Int) (rv7 : Int) (i8 : Int) (gv9 : Nat) (gv10 : Nat → Nat) (gv11 : Nat → Nat) (gv12 : Nat → Nat) (gv13 : Nat → Int) : Option ρ :=
  (if (decide (i8 < (av0 : Int))) = true then (if (0 : Int) ≤ i8 ∧ i8 < (av0 : Int) then (laws_toInt64S_su1 N (if (0 : Int) ≤ i8 ∧ i8 < ((((IntKind.i64.wrap ((av0 : Int) + rv7))).toNat : Nat) : Int) then (rec ((IntKind.i64.wrap (i8 + 1))) gv9 (upd gv10 (0 + (i8.toNat * 1)) 0) (upd gv11 (0 + (i8.toNat * 1)) 0) (upd gv12 (0 + (i8.toNat * 1)) 0) gv13) else none) (fun rv14 rv15 rv16 rv17 => (if (0 : Int) ≤ i8 ∧ i8 < ((((IntKind.i64.wrap ((av0 : Int) + rv7))).toNat : Nat) : Int) then (rec ((IntKind.i64.wrap (i8 + 1))) (gv9 + rv15) (upd gv10 (0 + (i8.toNat * 1)) gv9) (upd gv11 (0 + (i8.toNat * 1)) rv14) (upd gv12 (0 + (i8.toNat * 1)) rv15) (joinN gv9 gv13 rv17)) else none)) (gv4 (0 + (i8.toNat * 1))) ((gv4 (0 + (i8.toNat * 1))) * 1) (fun z => (gv6 ((gv3 (0 + (i8.toNat * 1))) + z)))) else none) else (out0 gv9 gv10 gv11 gv12 gv13))

noncomputable def laws_toInt64SS_suh1.a0_0 {ρ : Type} (N : Nat) (K0 : Option ρ) (K1 : Nat → Nat → Nat → Nat → (Nat → Nat) → (Nat → Nat) → (Nat → Nat) → (Nat → Int) → Option ρ) (lp1 : Int → Nat → (Nat → Nat) → (Nat → Nat) → (Nat → Nat) → (Nat → Int) → Option ρ) (av0 : Nat) (ov18 : Nat) (ov19 : Nat → Nat) (ov20 : Nat → Nat) (ov21 : Nat → Nat) (ov22 : Nat → Int) : Option ρ :=
  (lp1 ((av0 : Int)) ov18 ov19 ov20 ov21 ov22)

noncomputable def laws_toInt64SS_suh1.l1 {ρ : Type} (N : Nat) (K0 : Option ρ) (K1 : Nat → Nat → Nat → Nat → (Nat → Nat) → (Nat → Nat) → (Nat → Nat) → (Nat → Int) → Option ρ) (av0 : Nat) (rv7 : Int) (out0 : Nat → (Nat → Nat) → (Nat → Nat) → (Nat → Nat) → (Nat → Int) → Option ρ) : Nat → Int → Nat → (Nat → Nat) → (Nat → Nat) → (Nat → Nat) → (Nat → Int) → Option ρ
  | 0, _, _, _, _, _, _ => none
  | m + 1, i23, gv24, gv25, gv26, gv27, gv28 => (laws_toInt64SS_suh1.b1 N K0 K1 ((laws_toInt64SS_suh1.l1 N K0 K1 av0 rv7 out0 m)) out0 av0 rv7 i23 gv24 gv25 gv26 gv27 gv28)

noncomputable def laws_toInt64SS_suh1.l0 {ρ : Type} (N : Nat) (K0 : Option ρ) (K1 : Nat → Nat → Nat → Nat → (Nat → Nat) → (Nat → Nat) → (Nat → Nat) → (Nat → Int) → Option ρ) (av0 : Nat) (gv3 : Nat → Nat) (gv4 : Nat → Nat) (gv6 : Nat → Int) (rv7 : Int) (out0 : Nat → (Nat → Nat) → (Nat → Nat) → (Nat → Nat) → (Nat → Int) → Option ρ) : Nat → Int → Nat → (Nat → Nat) → (Nat → Nat) → (Nat → Nat) → (Nat → Int) → Option ρ
  | 0, _, _, _, _, _, _ => none
  | m + 1, i8, gv9, gv10, gv11, gv12, gv13 => (laws_toInt64SS_suh1.b0 N K0 K1 ((laws_toInt64SS_suh1.l0 N K0 K1 av0 gv3 gv4 gv6 rv7 out0 m)) out0 av0 gv3 gv4 gv6 rv7 i8 gv9 gv10 gv11 gv12 gv13)

noncomputable def laws_toInt64SS_suh1.s {ρ : Type} (N : Nat) (K0 : Option ρ) (K1 : Nat → Nat → Nat → Nat → (Nat → Nat) → (Nat → Nat) → (Nat → Nat) → (Nat → Int) → Option ρ) (lp0 : Int → Int → Nat → (Nat → Nat) → (Nat → Nat) → (Nat → Nat) → (Nat → Int) → Option ρ) (av0 : Nat) : Option ρ :=
  (if ((av0 : Int) == 0) = true then K0 else (laws_roomBehind N (fun rv7 => (if (0 : Int) ≤ (IntKind.i64.wrap ((av0 : Int) + rv7)) ∧ (IntKind.i64.wrap ((av0 : Int) + rv7)) ≤ (IntKind.i64.wrap ((av0 : Int) + rv7)) ∧ (24 : Int) * (IntKind.i64.wrap ((av0 : Int) + rv7)) ≤ 1099511627776 ∧ (IntKind.i64.wrap ((av0 : Int) + rv7)) ≤ 1099511627776 then (lp0 rv7 0 0 (fun _ => 0) (fun _ => 0) (fun _ => 0) (fun _ => 0)) else none)) ((av0 : Int))))

noncomputable def laws_toInt64SS_suh1 {ρ : Type} (N : Nat) (K0 : Option ρ) (K1 : Nat → Nat → Nat → Nat → (Nat → Nat) → (Nat → Nat) → (Nat → Nat) → (Nat → Int) → Option ρ) (av0 : Nat) (gv1 : Nat) (gv2 : Nat) (gv3 : Nat → Nat) (gv4 : Nat → Nat) (gv5 : Nat) (gv6 : Nat → Int) : Option ρ :=
  (laws_toInt64SS_suh1.s N K0 K1 (fun rv7 i8 gv9 gv10 gv11 gv12 gv13 => (laws_toInt64SS_suh1.l0 N K0 K1 av0 gv3 gv4 gv6 rv7 (fun ov18 ov19 ov20 ov21 ov22 => (laws_toInt64SS_suh1.a0_0 N K0 K1 (fun i23 gv24 gv25 gv26 gv27 gv28 => (laws_toInt64SS_suh1.l1 N K0 K1 av0 rv7 (fun ov29 ov30 ov31 ov32 ov33 => (laws_toInt64SS_suh1.a1_0 N K0 K1 av0 rv7 ov29 ov30 ov31 ov32 ov33)) N i23 gv24 gv25 gv26 gv27 gv28)) av0 ov18 ov19 ov20 ov21 ov22)) N i8 gv9 gv10 gv11 gv12 gv13)) av0)

noncomputable def impl_isRows_n.b0 {ρ : Type} (N : Nat) (K0 : Bool → Option ρ) (rec : Option ρ) (out0 : Option ρ) : Option ρ :=
  out0

noncomputable def impl_isRows_n.a0_0 {ρ : Type} (N : Nat) (K0 : Bool → Option ρ) : Option ρ :=
  (K0 true)

noncomputable def impl_isRows_n.l0 {ρ : Type} (N : Nat) (K0 : Bool → Option ρ) (out0 : Option ρ) : Nat → Option ρ
  | 0 => none
  | m + 1 => (impl_isRows_n.b0 N K0 ((impl_isRows_n.l0 N K0 out0 m)) out0)

noncomputable def impl_isRows_n.s {ρ : Type} (N : Nat) (K0 : Bool → Option ρ) (lp0 : Option ρ) : Option ρ :=
  (impl_in N (fun rv0 => (if (!rv0) = true then (K0 false) else lp0)) 0 1 8)

noncomputable def impl_isRows_n {ρ : Type} (N : Nat) (K0 : Bool → Option ρ) : Option ρ :=
  (impl_isRows_n.s N K0 ((impl_isRows_n.l0 N K0 (impl_isRows_n.a0_0 N K0) N)))

noncomputable def impl_IsGroupTable_n.b0 {ρ : Type} (N : Nat) (K0 : Bool → Option ρ) (rec : Option ρ) (out0 : Option ρ) : Option ρ :=
  out0

noncomputable def impl_IsGroupTable_n.a0_0 {ρ : Type} (N : Nat) (K0 : Bool → Option ρ) : Option ρ :=
  (K0 true)

noncomputable def impl_IsGroupTable_n.l0 {ρ : Type} (N : Nat) (K0 : Bool → Option ρ) (out0 : Option ρ) : Nat → Option ρ
  | 0 => none
  | m + 1 => (impl_IsGroupTable_n.b0 N K0 ((impl_IsGroupTable_n.l0 N K0 out0 m)) out0)

noncomputable def impl_IsGroupTable_n.s {ρ : Type} (N : Nat) (K0 : Bool → Option ρ) (lp0 : Option ρ) : Option ρ :=
  (impl_isRows_n N (fun rv0 => (if (!rv0) = true then (K0 false) else lp0)))

noncomputable def impl_IsGroupTable_n {ρ : Type} (N : Nat) (K0 : Bool → Option ρ) : Option ρ :=
  (impl_IsGroupTable_n.s N K0 ((impl_IsGroupTable_n.l0 N K0 (impl_IsGroupTable_n.a0_0 N K0) N)))

noncomputable def impl_groupHopf_n.b0 {ρ : Type} (N : Nat) (K0 : (Nat → Int) → (Nat → Int) → Option ρ) (rec : Option ρ) (out0 : Option ρ) : Option ρ :=
  out0

noncomputable def impl_groupHopf_n.a0_0 {ρ : Type} (N : Nat) (K0 : (Nat → Int) → (Nat → Int) → Option ρ) (p0 : Int) (rv1 : Nat → Int) : Option ρ :=
  (K0 (upd (upd (fun _ => 0) 0 p0) 1 0) (updN (fun _ => 0) 0 8 rv1))

noncomputable def impl_groupHopf_n.l0 {ρ : Type} (N : Nat) (K0 : (Nat → Int) → (Nat → Int) → Option ρ) (out0 : Option ρ) : Nat → Option ρ
  | 0 => none
  | m + 1 => (impl_groupHopf_n.b0 N K0 ((impl_groupHopf_n.l0 N K0 out0 m)) out0)

noncomputable def impl_groupHopf_n.s {ρ : Type} (N : Nat) (K0 : (Nat → Int) → (Nat → Int) → Option ρ) (lp0 : (Nat → Int) → Option ρ) : Option ρ :=
  (impl_basis N (fun rv1 => (lp0 rv1)) 0)

noncomputable def impl_groupHopf_n {ρ : Type} (N : Nat) (K0 : (Nat → Int) → (Nat → Int) → Option ρ) (p0 : Int) : Option ρ :=
  (impl_groupHopf_n.s N K0 (fun rv1 => (impl_groupHopf_n.l0 N K0 (impl_groupHopf_n.a0_0 N K0 p0 rv1) N)))

noncomputable def impl_GroupHopf_n {ρ : Type} (N : Nat) (K0 : (Nat → Int) → (Nat → Int) → Int → Option ρ) (p0 : Int) : Option ρ :=
  (impl_IsPrime N (fun rv1 => (impl_unless N (fun rv2 => (impl_IsGroupTable_n N (fun rv3 => (impl_unless N (fun rv4 => (impl_first_s N (fun rv5 => (if (rv5 != 0) = true then (K0 (fun _ => 0) (fun _ => 0) rv5) else (impl_groupHopf_n N (fun rv6 rv7 => (K0 rv6 rv7 0)) p0))) 2 2 2 (fun z => ((upd (upd (fun _ => 0) 0 rv2) 1 rv4) (0 + z))))) (rv3) 1)))) (rv1) 2)) p0)

noncomputable def impl_FunctionsHopf_n {ρ : Type} (N : Nat) (K0 : (Nat → Int) → (Nat → Int) → Int → Option ρ) (p0 : Int) : Option ρ :=
  (impl_GroupHopf_n N (fun rv1 rv2 rv3 => (if (rv3 != 0) = true then (K0 (fun _ => 0) (fun _ => 0) rv3) else (impl_Hopf_dual N (fun rv4 rv5 => (K0 rv4 rv5 0)) rv1 rv2))) p0)

noncomputable def laws_FnExactFunctionsHopf_suh {ρ : Type} (N : Nat) (K0 : Bool → Option ρ) (aP0 : Int) (aTable1 : Nat) (gv2 : Nat) (gv3 : Nat) (gv4 : Nat → Nat) (gv5 : Nat → Nat) (gv6 : Nat) (gv7 : Nat → Int) : Option ρ :=
  (laws_szInt64SS_suh N (fun rv8 => (if (decide (rv8 < 0)) = true then (K0 true) else (laws_toInt64SS_suh0 N (fun rv9 rv10 rv11 rv12 rv13 rv14 rv15 rv16 => (spec_FunctionsHopf_sh N (fun rv17 rv18 rv19 => (laws_toInt64SS_suh0 N (fun rv20 rv21 rv22 rv23 rv24 rv25 rv26 rv27 => (impl_FunctionsHopf_sh N (fun rv28 rv29 rv30 => (laws_eqHopf N (fun rv31 => (if (!rv31) = true then (K0 false) else (if (rv30 != rv19) = true then (K0 false) else (laws_toInt64SS_suh0 N (fun rv32 rv33 rv34 rv35 rv36 rv37 rv38 rv39 => (laws_intactInt64SS_shsh N (fun rv40 => (if (!rv40) = true then (K0 false) else (laws_toInt64SS_suh1 N (impl_FunctionsHopf_n N (fun rv41 rv42 rv43 => (laws_eqHopf N (fun rv44 => (if (!rv44) = true then (K0 false) else (if (rv43 != rv19) = true then (K0 false) else (K0 true)))) rv41 rv42 rv17 rv18)) aP0) (fun rv45 rv46 rv47 rv48 rv49 rv50 rv51 rv52 => (impl_FunctionsHopf_sh N (fun rv53 rv54 rv55 => (laws_eqHopf N (fun rv56 => (if (!rv56) = true then (K0 false) else (if (rv55 != rv19) = true then (K0 false) else (K0 true)))) rv53 rv54 rv17 rv18)) aP0 rv45 rv46 (rv46 * 1) rv48 (offN 0 rv49) (offN 0 rv50) (offN 0 rv51) rv52)) aTable1 (aTable1 * 1) gv3 (offN 0 gv4) (offN 0 gv5) gv6 gv7))) rv20 rv21 rv32 rv33 (rv21 * 1) rv23 (offN 0 rv24) (offN 0 rv25) (offN 0 rv26) (rv33 * 1) rv35 (offN 0 rv36) (offN 0 rv37) (offN 0 rv38) rv27 rv39)) aTable1 (aTable1 * 1) gv3 (offN 0 gv4) (offN 0 gv5) gv6 gv7)))) rv28 rv29 rv17 rv18)) aP0 rv20 rv21 (rv21 * 1) rv23 (offN 0 rv24) (offN 0 rv25) (offN 0 rv26) rv27)) aTable1 (aTable1 * 1) gv3 (offN 0 gv4) (offN 0 gv5) gv6 gv7)) aP0 rv9 rv10 (rv10 * 1) rv12 (offN 0 rv13) (offN 0 rv14) (offN 0 rv15) rv16)) aTable1 (aTable1 * 1) gv3 (offN 0 gv4) (offN 0 gv5) gv6 gv7))) aTable1 1000000 (aTable1 * 1) gv3 (offN 0 gv4) (offN 0 gv5) gv6 gv7)
end Go.Proofs.Ytgfmgfgjpobndaa.H
