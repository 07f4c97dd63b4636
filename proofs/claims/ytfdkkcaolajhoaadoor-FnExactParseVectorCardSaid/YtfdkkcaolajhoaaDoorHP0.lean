import Derived.Test.YtfdkkcaolajhoaaDoorHgUse
import Derived.Test.YtfdkkcaolajhoaaDoorHgCon
namespace Go.Proofs.YtfdkkcaolajhoaaDoor.H
noncomputable section
set_option linter.unusedVariables false
set_option linter.unusedSimpArgs false
set_option linter.unusedSectionVars false
open Go Go.RowKit Go.Proofs.YtfdkkcaolajhoaaDoor.Hg
set_option maxRecDepth 100000
def spec_l01In {ρ : Type} (N : Nat) (K0 : Bool → Option ρ) (nv0 : Int) (low1 : Int) (high2 : Int) : Option ρ :=
  (if (decide (nv0 ≥ low1)) = true then (K0 ((decide (nv0 ≤ high2)))) else (K0 false))
def spec_l01Prime.b0 {ρ : Type} (N : Nat) (K0 : Bool → Option ρ) (rec : Int → Option ρ) (out0 : Option ρ) (p0 : Int) (k1 : Int) : Option ρ :=
  (if (decide (k1 < p0)) = true then (if (decide (k1 ≤ 31)) = true then (if k1 = 0 then none else (if ((Int.tmod p0 k1) == 0) = true then (K0 false) else (rec ((IntKind.i64.wrap (k1 + 1)))))) else out0) else out0)
def spec_l01Prime.a0_0 {ρ : Type} (N : Nat) (K0 : Bool → Option ρ) (p0 : Int) : Option ρ :=
  (spec_l01In N (fun rv2 => (K0 (rv2))) p0 2 31)
def spec_l01Prime.l0 {ρ : Type} (N : Nat) (K0 : Bool → Option ρ) (p0 : Int) (out0 : Option ρ) : Nat → Int → Option ρ
  | 0, _ => none
  | m + 1, k1 => (spec_l01Prime.b0 N K0 ((spec_l01Prime.l0 N K0 p0 out0 m)) out0 p0 k1)
def spec_l01Prime.s {ρ : Type} (N : Nat) (K0 : Bool → Option ρ) (lp0 : Int → Option ρ) : Option ρ :=
  (lp0 2)
def spec_l01Prime {ρ : Type} (N : Nat) (K0 : Bool → Option ρ) (p0 : Int) : Option ρ :=
  (spec_l01Prime.s N K0 (fun k1 => (spec_l01Prime.l0 N K0 p0 (spec_l01Prime.a0_0 N K0 p0) N k1)))
def spec_l01Sizes {ρ : Type} (N : Nat) (K0 : Bool → Option ρ) (p0 : Int) (nv1 : Int) : Option ρ :=
  (spec_l01Prime N (fun rv2 => (if rv2 = true then (spec_l01In N (fun rv3 => (K0 (rv3))) nv1 1 8) else (K0 false))) p0)
def spec_l01Split.b0 {ρ : Type} (N : Nat) (K0 : Nat → (Nat → ByteArray) → Option ρ) (rec : Nat → Int → Int → (Nat → ByteArray) → Option ρ) (out0 : Nat → Int → (Nat → ByteArray) → Option ρ) (s0 : ByteArray) (by1 : Int) (outv2 : Nat) (at3 : Int) (i4 : Int) (gv5 : Nat → ByteArray) : Option ρ :=
  (if (decide (i4 < (s0.size : Int))) = true then (if (0 : Int) ≤ i4 ∧ i4 < (s0.size : Int) then (if ((bt s0 i4.toNat) == by1) = true then (if (0 : Int) ≤ at3 ∧ at3 ≤ i4 ∧ i4 ≤ (s0.size : Int) then (if (outv2 + 1) * 16 ≤ 140737488355328 then (rec (outv2 + 1) ((IntKind.i64.wrap (i4 + 1))) ((IntKind.i64.wrap (i4 + 1))) (joinN (outv2 * 1) gv5 (fun z => [(s0.extract at3.toNat i4.toNat)].getD z ByteArray.empty))) else none) else none) else (rec outv2 at3 ((IntKind.i64.wrap (i4 + 1))) gv5)) else none) else (out0 outv2 at3 gv5))
def spec_l01Split.a0_0 {ρ : Type} (N : Nat) (K0 : Nat → (Nat → ByteArray) → Option ρ) (s0 : ByteArray) (ov6 : Nat) (ov7 : Int) (ov8 : Nat → ByteArray) : Option ρ :=
  (if (0 : Int) ≤ ov7 ∧ ov7 ≤ (s0.size : Int) ∧ (s0.size : Int) ≤ (s0.size : Int) then (if (ov6 + 1) * 16 ≤ 140737488355328 then (K0 (ov6 + 1) (joinN (ov6 * 1) ov8 (fun z => [(s0.extract ov7.toNat ((s0.size : Int)).toNat)].getD z ByteArray.empty))) else none) else none)
def spec_l01Split.l0 {ρ : Type} (N : Nat) (K0 : Nat → (Nat → ByteArray) → Option ρ) (s0 : ByteArray) (by1 : Int) (out0 : Nat → Int → (Nat → ByteArray) → Option ρ) : Nat → Nat → Int → Int → (Nat → ByteArray) → Option ρ
  | 0, _, _, _, _ => none
  | m + 1, outv2, at3, i4, gv5 => (spec_l01Split.b0 N K0 ((spec_l01Split.l0 N K0 s0 by1 out0 m)) out0 s0 by1 outv2 at3 i4 gv5)
def spec_l01Split.s {ρ : Type} (N : Nat) (K0 : Nat → (Nat → ByteArray) → Option ρ) (lp0 : Nat → Int → Int → (Nat → ByteArray) → Option ρ) : Option ρ :=
  (lp0 0 0 0 (fun _ => ByteArray.empty))
def spec_l01Split {ρ : Type} (N : Nat) (K0 : Nat → (Nat → ByteArray) → Option ρ) (s0 : ByteArray) (by1 : Int) : Option ρ :=
  (spec_l01Split.s N K0 (fun outv2 at3 i4 gv5 => (spec_l01Split.l0 N K0 s0 by1 (fun ov6 ov7 ov8 => (spec_l01Split.a0_0 N K0 s0 ov6 ov7 ov8)) N outv2 at3 i4 gv5)))
def spec_l01Number.b0 {ρ : Type} (N : Nat) (K0 : Int → Option ρ) (rec : Int → Int → Option ρ) (out0 : Int → Option ρ) (s0 : ByteArray) (nv1 : Int) (i2 : Int) : Option ρ :=
  (if (decide (i2 < (s0.size : Int))) = true then (if (0 : Int) ≤ i2 ∧ i2 < (s0.size : Int) then (if (decide ((bt s0 i2.toNat) < 48)) = true then (K0 (-1)) else (if (0 : Int) ≤ i2 ∧ i2 < (s0.size : Int) then (if (decide ((bt s0 i2.toNat) > 57)) = true then (K0 (-1)) else (if (0 : Int) ≤ i2 ∧ i2 < (s0.size : Int) then (rec ((IntKind.i64.wrap ((IntKind.i64.wrap (nv1 * 10)) + (IntKind.i64.wrap (IntKind.u8.wrap ((bt s0 i2.toNat) - 48)))))) ((IntKind.i64.wrap (i2 + 1)))) else none)) else none)) else none) else (out0 nv1))
def spec_l01Number.a0_0 {ρ : Type} (N : Nat) (K0 : Int → Option ρ) (ov3 : Int) : Option ρ :=
  (K0 ov3)
def spec_l01Number.b1 {ρ : Type} (N : Nat) (K0 : Int → Option ρ) (rec : Int → Int → Option ρ) (out0 : Int → Option ρ) (s0 : ByteArray) (nv4 : Int) (i5 : Int) : Option ρ :=
  (if (decide (i5 < (s0.size : Int))) = true then (if (0 : Int) ≤ i5 ∧ i5 < (s0.size : Int) then (if (decide ((bt s0 i5.toNat) < 48)) = true then (K0 (-1)) else (if (0 : Int) ≤ i5 ∧ i5 < (s0.size : Int) then (if (decide ((bt s0 i5.toNat) > 57)) = true then (K0 (-1)) else (if (0 : Int) ≤ i5 ∧ i5 < (s0.size : Int) then (rec ((IntKind.i64.wrap ((IntKind.i64.wrap (nv4 * 10)) + (IntKind.i64.wrap (IntKind.u8.wrap ((bt s0 i5.toNat) - 48)))))) ((IntKind.i64.wrap (i5 + 1)))) else none)) else none)) else none) else (out0 nv4))
def spec_l01Number.a1_0 {ρ : Type} (N : Nat) (K0 : Int → Option ρ) (ov6 : Int) : Option ρ :=
  (K0 ov6)
def spec_l01Number.l0 {ρ : Type} (N : Nat) (K0 : Int → Option ρ) (s0 : ByteArray) (out0 : Int → Option ρ) : Nat → Int → Int → Option ρ
  | 0, _, _ => none
  | m + 1, nv1, i2 => (spec_l01Number.b0 N K0 ((spec_l01Number.l0 N K0 s0 out0 m)) out0 s0 nv1 i2)
def spec_l01Number.l1 {ρ : Type} (N : Nat) (K0 : Int → Option ρ) (s0 : ByteArray) (out0 : Int → Option ρ) : Nat → Int → Int → Option ρ
  | 0, _, _ => none
  | m + 1, nv4, i5 => (spec_l01Number.b1 N K0 ((spec_l01Number.l1 N K0 s0 out0 m)) out0 s0 nv4 i5)
def spec_l01Number.s {ρ : Type} (N : Nat) (K0 : Int → Option ρ) (lp0 : Int → Int → Option ρ) (lp1 : Int → Int → Option ρ) (s0 : ByteArray) : Option ρ :=
  (if ((s0.size : Int) == 0) = true then (K0 (-1)) else (if (decide ((s0.size : Int) > 9)) = true then (K0 (-1)) else (if (decide ((s0.size : Int) > 1)) = true then (if (0 : Int) ≤ 0 ∧ 0 < (s0.size : Int) then (if ((bt s0 0) == 48) = true then (K0 (-1)) else (lp0 0 0)) else none) else (lp1 0 0))))
def spec_l01Number {ρ : Type} (N : Nat) (K0 : Int → Option ρ) (s0 : ByteArray) : Option ρ :=
  (spec_l01Number.s N K0 (fun nv1 i2 => (spec_l01Number.l0 N K0 s0 (fun ov3 => (spec_l01Number.a0_0 N K0 ov3)) N nv1 i2)) (fun nv4 i5 => (spec_l01Number.l1 N K0 s0 (fun ov6 => (spec_l01Number.a1_0 N K0 ov6)) N nv4 i5)) s0)
def spec_l01Read.b0 {ρ : Type} (N : Nat) (K0 : (Nat → Int) → Bool → Option ρ) (rec : Int → (Nat → Int) → Option ρ) (out0 : (Nat → Int) → Option ρ) (p0 : Int) (rv3 : Nat) (rv4 : Nat → ByteArray) (i5 : Int) (gv6 : Nat → Int) : Option ρ :=
  (if (decide (i5 < (rv3 : Int))) = true then (if (0 : Int) ≤ i5 ∧ i5 < (rv3 : Int) then (spec_l01Number N (fun rv7 => (spec_l01In N (fun rv8 => (if (!rv8) = true then (K0 (fun _ => 0) false) else (if (0 : Int) ≤ i5 ∧ i5 < 8 then (rec ((IntKind.i64.wrap (i5 + 1))) (upd gv6 (i5.toNat * 1) (IntKind.u8.wrap rv7))) else none))) rv7 0 ((IntKind.i64.wrap (p0 - 1))))) (rv4 (0 + (i5.toNat * 1)))) else none) else (out0 gv6))
def spec_l01Read.a0_0 {ρ : Type} (N : Nat) (K0 : (Nat → Int) → Bool → Option ρ) (ov9 : Nat → Int) : Option ρ :=
  (K0 ov9 true)
def spec_l01Read.l0 {ρ : Type} (N : Nat) (K0 : (Nat → Int) → Bool → Option ρ) (p0 : Int) (rv3 : Nat) (rv4 : Nat → ByteArray) (out0 : (Nat → Int) → Option ρ) : Nat → Int → (Nat → Int) → Option ρ
  | 0, _, _ => none
  | m + 1, i5, gv6 => (spec_l01Read.b0 N K0 ((spec_l01Read.l0 N K0 p0 rv3 rv4 out0 m)) out0 p0 rv3 rv4 i5 gv6)
def spec_l01Read.s {ρ : Type} (N : Nat) (K0 : (Nat → Int) → Bool → Option ρ) (lp0 : Nat → (Nat → ByteArray) → Int → (Nat → Int) → Option ρ) (nv1 : Int) (text2 : ByteArray) : Option ρ :=
  (spec_l01Split N (fun rv3 rv4 => (if ((rv3 : Int) != nv1) = true then (K0 (fun _ => 0) false) else (lp0 rv3 rv4 0 (fun _ => 0)))) text2 44)
def spec_l01Read {ρ : Type} (N : Nat) (K0 : (Nat → Int) → Bool → Option ρ) (p0 : Int) (nv1 : Int) (text2 : ByteArray) : Option ρ :=
  (spec_l01Read.s N K0 (fun rv3 rv4 i5 gv6 => (spec_l01Read.l0 N K0 p0 rv3 rv4 (fun ov9 => (spec_l01Read.a0_0 N K0 ov9)) N i5 gv6)) nv1 text2)
def spec_ParseVector {ρ : Type} (N : Nat) (K0 : (Nat → Int) → Int → Option ρ) (p0 : Int) (nv1 : Int) (text2 : ByteArray) : Option ρ :=
  (spec_l01Sizes N (fun rv3 => (if (!rv3) = true then (K0 (fun _ => 0) 1) else (spec_l01Read N (fun rv4 rv5 => (if (!rv5) = true then (K0 (fun _ => 0) 6) else (K0 rv4 0))) p0 nv1 text2))) p0 nv1)
def impl_IsPrime.b0 {ρ : Type} (N : Nat) (K0 : Bool → Option ρ) (rec : Int → Option ρ) (out0 : Option ρ) (p0 : Int) (k1 : Int) : Option ρ :=
  (if (decide ((IntKind.i64.wrap (k1 * k1)) ≤ p0)) = true then (if k1 = 0 then none else (if ((Int.tmod p0 k1) == 0) = true then (K0 false) else (rec ((IntKind.i64.wrap (k1 + 1)))))) else out0)
def impl_IsPrime.a0_0 {ρ : Type} (N : Nat) (K0 : Bool → Option ρ) : Option ρ :=
  (K0 true)
def impl_IsPrime.l0 {ρ : Type} (N : Nat) (K0 : Bool → Option ρ) (p0 : Int) (out0 : Option ρ) : Nat → Int → Option ρ
  | 0, _ => none
  | m + 1, k1 => (impl_IsPrime.b0 N K0 ((impl_IsPrime.l0 N K0 p0 out0 m)) out0 p0 k1)
def impl_IsPrime.s {ρ : Type} (N : Nat) (K0 : Bool → Option ρ) (lp0 : Int → Option ρ) (p0 : Int) : Option ρ :=
  (if (decide (p0 < 2)) = true then (K0 false) else (if (decide (p0 > 31)) = true then (K0 false) else (lp0 2)))
def impl_IsPrime {ρ : Type} (N : Nat) (K0 : Bool → Option ρ) (p0 : Int) : Option ρ :=
  (impl_IsPrime.s N K0 (fun k1 => (impl_IsPrime.l0 N K0 p0 (impl_IsPrime.a0_0 N K0) N k1)) p0)
def impl_in {ρ : Type} (N : Nat) (K0 : Bool → Option ρ) (x0 : Int) (least1 : Int) (most2 : Int) : Option ρ :=
  (if (decide (least1 ≤ x0)) = true then (K0 ((decide (x0 ≤ most2)))) else (K0 false))
def impl_IsVector.b0 {ρ : Type} (N : Nat) (K0 : Bool → Option ρ) (rec : Int → Option ρ) (out0 : Option ρ) (p0 : Int) (nv1 : Int) (v2 : Nat → Int) (x5 : Int) : Option ρ :=
  (if (decide (x5 < 8)) = true then (if (0 : Int) ≤ x5 ∧ x5 < 8 then (if (decide ((IntKind.i64.wrap (v2 x5.toNat)) ≥ p0)) = true then (K0 false) else (if (decide (x5 ≥ nv1)) = true then (if ((v2 x5.toNat) != 0) = true then (K0 false) else (rec ((IntKind.i64.wrap (x5 + 1))))) else (rec ((IntKind.i64.wrap (x5 + 1)))))) else none) else out0)
def impl_IsVector.a0_0 {ρ : Type} (N : Nat) (K0 : Bool → Option ρ) : Option ρ :=
  (K0 true)
def impl_IsVector.l0 {ρ : Type} (N : Nat) (K0 : Bool → Option ρ) (p0 : Int) (nv1 : Int) (v2 : Nat → Int) (out0 : Option ρ) : Nat → Int → Option ρ
  | 0, _ => none
  | m + 1, x5 => (impl_IsVector.b0 N K0 ((impl_IsVector.l0 N K0 p0 nv1 v2 out0 m)) out0 p0 nv1 v2 x5)
def impl_IsVector.s {ρ : Type} (N : Nat) (K0 : Bool → Option ρ) (lp0 : Int → Option ρ) (p0 : Int) (nv1 : Int) : Option ρ :=
  (impl_IsPrime N (fun rv3 => (if (!rv3) = true then (K0 false) else (impl_in N (fun rv4 => (if (!rv4) = true then (K0 false) else (lp0 0))) nv1 1 8))) p0)
def impl_IsVector {ρ : Type} (N : Nat) (K0 : Bool → Option ρ) (p0 : Int) (nv1 : Int) (v2 : Nat → Int) : Option ρ :=
  (impl_IsVector.s N K0 (fun x5 => (impl_IsVector.l0 N K0 p0 nv1 v2 (impl_IsVector.a0_0 N K0) N x5)) p0 nv1)
def strings_Split {ρ : Type} (N : Nat) (K0 : Nat → Nat → Nat → (Nat → ByteArray) → Option ρ) (s0 : ByteArray) (sep1 : ByteArray) : Option ρ :=
  (if s0.size < 4294967281 ∧ 1 ≤ sep1.size then (K0 (splitN s0 sep1) (splitN s0 sep1) (splitN s0 sep1) (splitW s0 sep1)) else none)
def strconv_ParseUint {ρ : Type} (N : Nat) (K0 : Int → Bool → Option ρ) (s0 : ByteArray) (base1 : Int) (bitSize2 : Int) : Option ρ :=
  (if base1 = 10 ∧ bitSize2 = 8 ∧ s0.size ≤ 281474976710656 then (K0 ((puV s0)) ((puE s0))) else none)
def strconv_Itoa {ρ : Type} (N : Nat) (K0 : ByteArray → Option ρ) (i0 : Int) : Option ρ :=
  (if (0 : Int) ≤ i0 ∧ i0 < 100 then (K0 (itoaS i0)) else none)
def strings_Join_su {ρ : Type} (N : Nat) (K0 : ByteArray → Option ρ) (elems0 : Nat) (sep1 : ByteArray) (gv2 : Nat) (gv3 : Nat → ByteArray) : Option ρ :=
  (if elems0 ≤ 140737488355328 ∧ (joinS elems0 gv3 sep1).size ≤ 140737488355328 then (K0 (joinS elems0 gv3 sep1)) else none)
def impl_vectorText.b0 {ρ : Type} (N : Nat) (K0 : ByteArray → Option ρ) (rec : Nat → Int → (Nat → ByteArray) → Option ρ) (out0 : Nat → (Nat → ByteArray) → Option ρ) (nv0 : Int) (v1 : Nat → Int) (outv2 : Nat) (x3 : Int) (gv4 : Nat → ByteArray) : Option ρ :=
  (if (decide (x3 < (nv0.toNat : Int))) = true then (if (0 : Int) ≤ x3 ∧ x3 < (nv0.toNat : Int) then (strconv_Itoa N (fun rv5 => (if (outv2 + 1) * 16 ≤ 140737488355328 then (rec (outv2 + 1) ((IntKind.i64.wrap (x3 + 1))) (joinN (outv2 * 1) gv4 (fun z => [rv5].getD z ByteArray.empty))) else none)) ((IntKind.i64.wrap (v1 (0 + (x3.toNat * 1)))))) else none) else (out0 outv2 gv4))
def impl_vectorText.a0_0 {ρ : Type} (N : Nat) (K0 : ByteArray → Option ρ) (ov6 : Nat) (ov7 : Nat → ByteArray) : Option ρ :=
  (strings_Join_su N (fun rv8 => (K0 rv8)) ov6 (ByteArray.mk #[44]) (ov6 * 1) (fun z => (ov7 (0 + z))))
def impl_vectorText.l0 {ρ : Type} (N : Nat) (K0 : ByteArray → Option ρ) (nv0 : Int) (v1 : Nat → Int) (out0 : Nat → (Nat → ByteArray) → Option ρ) : Nat → Nat → Int → (Nat → ByteArray) → Option ρ
  | 0, _, _, _ => none
  | m + 1, outv2, x3, gv4 => (impl_vectorText.b0 N K0 ((impl_vectorText.l0 N K0 nv0 v1 out0 m)) out0 nv0 v1 outv2 x3 gv4)
def impl_vectorText.s {ρ : Type} (N : Nat) (K0 : ByteArray → Option ρ) (lp0 : Nat → Int → (Nat → ByteArray) → Option ρ) (nv0 : Int) : Option ρ :=
  (if (0 : Int) ≤ (0 : Int) ∧ (0 : Int) ≤ nv0 ∧ nv0 ≤ 8 then (lp0 0 0 (fun _ => ByteArray.empty)) else none)
def impl_vectorText {ρ : Type} (N : Nat) (K0 : ByteArray → Option ρ) (nv0 : Int) (v1 : Nat → Int) : Option ρ :=
  (impl_vectorText.s N K0 (fun outv2 x3 gv4 => (impl_vectorText.l0 N K0 nv0 v1 (fun ov6 ov7 => (impl_vectorText.a0_0 N K0 ov6 ov7)) N outv2 x3 gv4)) nv0)
def impl_ParseVector.b0 {ρ : Type} (N : Nat) (K0 : (Nat → Int) → Int → Option ρ) (rec : Int → (Nat → Int) → Option ρ) (out0 : (Nat → Int) → Option ρ) (rv4 : Nat) (rv7 : Nat → ByteArray) (x8 : Int) (gv9 : Nat → Int) : Option ρ :=
  (if (decide (x8 < (rv4 : Int))) = true then (if (0 : Int) ≤ x8 ∧ x8 < (rv4 : Int) then (strconv_ParseUint N (fun rv10 rv11 => (if (!rv11) = true then (K0 (fun _ => 0) 6) else (if (decide (x8 ≥ 8)) = true then (K0 (fun _ => 0) 6) else (if (0 : Int) ≤ x8 ∧ x8 < 8 then (rec ((IntKind.i64.wrap (x8 + 1))) (upd gv9 (x8.toNat * 1) (IntKind.u8.wrap rv10))) else none)))) (rv7 (0 + (x8.toNat * 1))) 10 8) else none) else (out0 gv9))
def impl_ParseVector.a0_0 {ρ : Type} (N : Nat) (K0 : (Nat → Int) → Int → Option ρ) (p0 : Int) (nv1 : Int) (text2 : ByteArray) (ov12 : Nat → Int) : Option ρ :=
  (impl_IsVector N (fun rv13 => (if (!rv13) = true then (K0 (fun _ => 0) 6) else (impl_vectorText N (fun rv14 => (if (!strEq rv14 text2) = true then (K0 (fun _ => 0) 6) else (K0 ov12 0))) nv1 ov12))) p0 nv1 ov12)
def impl_ParseVector.l0 {ρ : Type} (N : Nat) (K0 : (Nat → Int) → Int → Option ρ) (rv4 : Nat) (rv7 : Nat → ByteArray) (out0 : (Nat → Int) → Option ρ) : Nat → Int → (Nat → Int) → Option ρ
  | 0, _, _ => none
  | m + 1, x8, gv9 => (impl_ParseVector.b0 N K0 ((impl_ParseVector.l0 N K0 rv4 rv7 out0 m)) out0 rv4 rv7 x8 gv9)
def impl_ParseVector.s {ρ : Type} (N : Nat) (K0 : (Nat → Int) → Int → Option ρ) (lp0 : Nat → Nat → Nat → (Nat → ByteArray) → Int → (Nat → Int) → Option ρ) (p0 : Int) (nv1 : Int) (text2 : ByteArray) : Option ρ :=
  (impl_IsVector N (fun rv3 => (if (!rv3) = true then (K0 (fun _ => 0) 1) else (strings_Split N (fun rv4 rv5 rv6 rv7 => (lp0 rv4 rv5 rv6 rv7 0 (fun _ => 0))) text2 (ByteArray.mk #[44])))) p0 nv1 (fun _ => 0))
def impl_ParseVector {ρ : Type} (N : Nat) (K0 : (Nat → Int) → Int → Option ρ) (p0 : Int) (nv1 : Int) (text2 : ByteArray) : Option ρ :=
  (impl_ParseVector.s N K0 (fun rv4 rv5 rv6 rv7 x8 gv9 => (impl_ParseVector.l0 N K0 rv4 rv7 (fun ov12 => (impl_ParseVector.a0_0 N K0 p0 nv1 text2 ov12)) N x8 gv9)) p0 nv1 text2)
def laws_eqVector.b0 {ρ : Type} (N : Nat) (K0 : Bool → Option ρ) (rec : Int → Option ρ) (out0 : Option ρ) (av0 : Nat → Int) (bv1 : Nat → Int) (i2 : Int) : Option ρ :=
  (if (decide (i2 < 8)) = true then (if (0 : Int) ≤ i2 ∧ i2 < 8 then (if (0 : Int) ≤ i2 ∧ i2 < 8 then (if ((av0 (i2.toNat * 1)) != (bv1 (i2.toNat * 1))) = true then (K0 false) else (rec ((IntKind.i64.wrap (i2 + 1))))) else none) else none) else out0)
def laws_eqVector.a0_0 {ρ : Type} (N : Nat) (K0 : Bool → Option ρ) : Option ρ :=
  (K0 true)
def laws_eqVector.l0 {ρ : Type} (N : Nat) (K0 : Bool → Option ρ) (av0 : Nat → Int) (bv1 : Nat → Int) (out0 : Option ρ) : Nat → Int → Option ρ
  | 0, _ => none
  | m + 1, i2 => (laws_eqVector.b0 N K0 ((laws_eqVector.l0 N K0 av0 bv1 out0 m)) out0 av0 bv1 i2)
def laws_eqVector.s {ρ : Type} (N : Nat) (K0 : Bool → Option ρ) (lp0 : Int → Option ρ) : Option ρ :=
  (lp0 0)
def laws_eqVector {ρ : Type} (N : Nat) (K0 : Bool → Option ρ) (av0 : Nat → Int) (bv1 : Nat → Int) : Option ρ :=
  (laws_eqVector.s N K0 (fun i2 => (laws_eqVector.l0 N K0 av0 bv1 (laws_eqVector.a0_0 N K0) N i2)))
def laws_FnExactParseVector {ρ : Type} (N : Nat) (K0 : Bool → Option ρ) (aP0 : Int) (aN1 : Int) (aText2 : ByteArray) : Option ρ :=
  (if (decide ((aText2.size : Int) > 1000000)) = true then (K0 true) else (spec_ParseVector N (fun rv3 rv4 => (impl_ParseVector N (fun rv5 rv6 => (laws_eqVector N (fun rv7 => (if (!rv7) = true then (K0 false) else (if (rv6 != rv4) = true then (K0 false) else (K0 true)))) rv5 rv3)) aP0 aN1 aText2)) aP0 aN1 aText2))
end
end Go.Proofs.YtfdkkcaolajhoaaDoor.H
