import Derived.Test.YtfdkkcaolajhoaaDoorHyUse
import Derived.Test.YtfdkkcaolajhoaaDoorHyCon
namespace Go.Proofs.YtfdkkcaolajhoaaDoor.H
noncomputable section
set_option linter.unusedVariables false
set_option linter.unusedSimpArgs false
open Go Go.RowKit Go.Proofs.YtfdkkcaolajhoaaDoor.Hy
set_option maxRecDepth 100000
def laws_toVector.b0 {ρ : Type} (N : Nat) (K0 : (Nat → Int) → Option ρ) (rec : Int → (Nat → Int) → Option ρ) (out0 : (Nat → Int) → Option ρ) (av0 : Nat → Int) (i1 : Int) (gv2 : Nat → Int) : Option ρ :=
  (if (decide (i1 < 8)) = true then (if (0 : Int) ≤ i1 ∧ i1 < 8 then (if (0 : Int) ≤ i1 ∧ i1 < 8 then (rec ((IntKind.i64.wrap (i1 + 1))) (upd gv2 (i1.toNat * 1) (av0 (i1.toNat * 1)))) else none) else none) else (out0 gv2))
def laws_toVector.a0_0 {ρ : Type} (N : Nat) (K0 : (Nat → Int) → Option ρ) (ov3 : Nat → Int) : Option ρ :=
  (K0 ov3)
def laws_toVector.l0 {ρ : Type} (N : Nat) (K0 : (Nat → Int) → Option ρ) (av0 : Nat → Int) (out0 : (Nat → Int) → Option ρ) : Nat → Int → (Nat → Int) → Option ρ
  | 0, _, _ => none
  | m + 1, i1, gv2 => (laws_toVector.b0 N K0 ((laws_toVector.l0 N K0 av0 out0 m)) out0 av0 i1 gv2)
def laws_toVector.s {ρ : Type} (N : Nat) (K0 : (Nat → Int) → Option ρ) (lp0 : Int → (Nat → Int) → Option ρ) : Option ρ :=
  (lp0 0 (fun _ => 0))
def laws_toVector {ρ : Type} (N : Nat) (K0 : (Nat → Int) → Option ρ) (av0 : Nat → Int) : Option ρ :=
  (laws_toVector.s N K0 (fun i1 gv2 => (laws_toVector.l0 N K0 av0 (fun ov3 => (laws_toVector.a0_0 N K0 ov3)) N i1 gv2)))
def spec_l01In {ρ : Type} (N : Nat) (K0 : Bool → Option ρ) (nv0 : Int) (low1 : Int) (high2 : Int) : Option ρ :=
  (if (decide (nv0 ≥ low1)) = true then (K0 ((decide (nv0 ≤ high2)))) else (K0 false))
def spec_l01Prime.b0 {ρ : Type} (N : Nat) (K0 : Bool → Option ρ) (rec : Int → Option ρ) (out0 : Option ρ) (p0 : Int) (k1 : Int) : Option ρ :=
  (if (decide (k1 < p0)) = true then (if (decide (k1 ≤ 31)) = true then (if k1 = 0 then none else (if ((Int.tmod p0 k1) == 0) = true then (K0 false) else (rec ((IntKind.i64.wrap (k1 + 1)))))) else out0) else out0)
def spec_l01Prime.a0_0 {ρ : Type} (N : Nat) (K0 : Bool → Option ρ) (p0 : Int) : Option ρ :=
  (spec_l01In N (fun rv2 => (K0 (rv2))) p0 2 31)
def spec_l01Prime.l0 {ρ : Type} (N : Nat) (K0 : Bool → Option ρ) (p0 : Int) (out0 : Option ρ) : Nat → Int → Option ρ
  | 0, _ => none
  | m + 1, k1 => (spec_l01Prime.b0 N K0 ((spec_l01Prime.l0 N K0 p0 out0 m)) out0 p0 k1)
def spec_l01Prime.s {ρ : Type} (N : Nat) (K0 : Bool → Option ρ) (lp0 : Int → Option ρ) : Option ρ :=
  (lp0 2)
def spec_l01Prime {ρ : Type} (N : Nat) (K0 : Bool → Option ρ) (p0 : Int) : Option ρ :=
  (spec_l01Prime.s N K0 (fun k1 => (spec_l01Prime.l0 N K0 p0 (spec_l01Prime.a0_0 N K0 p0) N k1)))
def spec_l01Sizes {ρ : Type} (N : Nat) (K0 : Bool → Option ρ) (p0 : Int) (nv1 : Int) : Option ρ :=
  (spec_l01Prime N (fun rv2 => (if rv2 = true then (spec_l01In N (fun rv3 => (K0 (rv3))) nv1 1 8) else (K0 false))) p0)
def spec_l01Vector.b0 {ρ : Type} (N : Nat) (K0 : Bool → Option ρ) (rec : Int → Option ρ) (out0 : Option ρ) (p0 : Int) (nv1 : Int) (v2 : Nat → Int) (i3 : Int) : Option ρ :=
  (if (decide (i3 < 8)) = true then (if (0 : Int) ≤ i3 ∧ i3 < 8 then (if (decide ((IntKind.i64.wrap (v2 (i3.toNat * 1))) ≥ p0)) = true then (K0 false) else (if (decide (i3 ≥ nv1)) = true then (if (0 : Int) ≤ i3 ∧ i3 < 8 then (if ((v2 (i3.toNat * 1)) != 0) = true then (K0 false) else (rec ((IntKind.i64.wrap (i3 + 1))))) else none) else (rec ((IntKind.i64.wrap (i3 + 1)))))) else none) else out0)
def spec_l01Vector.a0_0 {ρ : Type} (N : Nat) (K0 : Bool → Option ρ) : Option ρ :=
  (K0 true)
def spec_l01Vector.l0 {ρ : Type} (N : Nat) (K0 : Bool → Option ρ) (p0 : Int) (nv1 : Int) (v2 : Nat → Int) (out0 : Option ρ) : Nat → Int → Option ρ
  | 0, _ => none
  | m + 1, i3 => (spec_l01Vector.b0 N K0 ((spec_l01Vector.l0 N K0 p0 nv1 v2 out0 m)) out0 p0 nv1 v2 i3)
def spec_l01Vector.s {ρ : Type} (N : Nat) (K0 : Bool → Option ρ) (lp0 : Int → Option ρ) : Option ρ :=
  (lp0 0)
def spec_l01Vector {ρ : Type} (N : Nat) (K0 : Bool → Option ρ) (p0 : Int) (nv1 : Int) (v2 : Nat → Int) : Option ρ :=
  (spec_l01Vector.s N K0 (fun i3 => (spec_l01Vector.l0 N K0 p0 nv1 v2 (spec_l01Vector.a0_0 N K0) N i3)))
def spec_IsVector {ρ : Type} (N : Nat) (K0 : Bool → Option ρ) (p0 : Int) (nv1 : Int) (v2 : Nat → Int) : Option ρ :=
  (spec_l01Sizes N (fun rv3 => (if rv3 = true then (spec_l01Vector N (fun rv4 => (K0 (rv4))) p0 nv1 v2) else (K0 false))) p0 nv1)
def spec_l01Dec_v3 {ρ : Type} (N : Nat) (K0 : ByteArray → Option ρ) (nv0 : Int) : Option ρ :=
  (if (decide (nv0 < 10)) = true then (K0 (bytesOf (upd (fun _ => 0) 0 (IntKind.u8.wrap (IntKind.i64.wrap (48 + nv0)))) 0 1)) else none)
def spec_l01Dec_v2 {ρ : Type} (N : Nat) (K0 : ByteArray → Option ρ) (nv0 : Int) : Option ρ :=
  (if (decide (nv0 < 10)) = true then (K0 (bytesOf (upd (fun _ => 0) 0 (IntKind.u8.wrap (IntKind.i64.wrap (48 + nv0)))) 0 1)) else (spec_l01Dec_v3 N (fun rv1 => (if rv1.size + (bytesOf (upd (fun _ => 0) 0 (IntKind.u8.wrap (IntKind.i64.wrap (48 + (Int.tmod nv0 10))))) 0 1).size ≤ 4611686018427387904 then (K0 (rv1 ++ (bytesOf (upd (fun _ => 0) 0 (IntKind.u8.wrap (IntKind.i64.wrap (48 + (Int.tmod nv0 10))))) 0 1))) else none)) ((IntKind.i64.wrap (Int.tdiv nv0 10)))))
def spec_l01Dec {ρ : Type} (N : Nat) (K0 : ByteArray → Option ρ) (nv0 : Int) : Option ρ :=
  (if (decide (nv0 < 10)) = true then (K0 (bytesOf (upd (fun _ => 0) 0 (IntKind.u8.wrap (IntKind.i64.wrap (48 + nv0)))) 0 1)) else (spec_l01Dec_v2 N (fun rv1 => (if rv1.size + (bytesOf (upd (fun _ => 0) 0 (IntKind.u8.wrap (IntKind.i64.wrap (48 + (Int.tmod nv0 10))))) 0 1).size ≤ 4611686018427387904 then (K0 (rv1 ++ (bytesOf (upd (fun _ => 0) 0 (IntKind.u8.wrap (IntKind.i64.wrap (48 + (Int.tmod nv0 10))))) 0 1))) else none)) ((IntKind.i64.wrap (Int.tdiv nv0 10)))))
def spec_l01Text.b0 {ρ : Type} (N : Nat) (K0 : ByteArray → Option ρ) (rec : ByteArray → Int → Option ρ) (out0 : ByteArray → Option ρ) (nv0 : Int) (v1 : Nat → Int) (text2 : ByteArray) (i3 : Int) : Option ρ :=
  (if (decide (i3 < nv0)) = true then (if (decide (i3 > 0)) = true then (if text2.size + (ByteArray.mk #[44]).size ≤ 4611686018427387904 then (if (0 : Int) ≤ i3 ∧ i3 < 8 then (spec_l01Dec N (fun rv4 => (if (text2 ++ (ByteArray.mk #[44])).size + rv4.size ≤ 4611686018427387904 then (rec ((text2 ++ (ByteArray.mk #[44])) ++ rv4) ((IntKind.i64.wrap (i3 + 1)))) else none)) ((IntKind.i64.wrap (v1 (i3.toNat * 1))))) else none) else none) else (if (0 : Int) ≤ i3 ∧ i3 < 8 then (spec_l01Dec N (fun rv5 => (if text2.size + rv5.size ≤ 4611686018427387904 then (rec (text2 ++ rv5) ((IntKind.i64.wrap (i3 + 1)))) else none)) ((IntKind.i64.wrap (v1 (i3.toNat * 1))))) else none)) else (out0 text2))
def spec_l01Text.a0_0 {ρ : Type} (N : Nat) (K0 : ByteArray → Option ρ) (ov6 : ByteArray) : Option ρ :=
  (K0 ov6)
def spec_l01Text.l0 {ρ : Type} (N : Nat) (K0 : ByteArray → Option ρ) (nv0 : Int) (v1 : Nat → Int) (out0 : ByteArray → Option ρ) : Nat → ByteArray → Int → Option ρ
  | 0, _, _ => none
  | m + 1, text2, i3 => (spec_l01Text.b0 N K0 ((spec_l01Text.l0 N K0 nv0 v1 out0 m)) out0 nv0 v1 text2 i3)
def spec_l01Text.s {ρ : Type} (N : Nat) (K0 : ByteArray → Option ρ) (lp0 : ByteArray → Int → Option ρ) : Option ρ :=
  (lp0 ByteArray.empty 0)
def spec_l01Text {ρ : Type} (N : Nat) (K0 : ByteArray → Option ρ) (nv0 : Int) (v1 : Nat → Int) : Option ρ :=
  (spec_l01Text.s N K0 (fun text2 i3 => (spec_l01Text.l0 N K0 nv0 v1 (fun ov6 => (spec_l01Text.a0_0 N K0 ov6)) N text2 i3)))
def spec_VectorText {ρ : Type} (N : Nat) (K0 : ByteArray → Int → Option ρ) (p0 : Int) (nv1 : Int) (v2 : Nat → Int) : Option ρ :=
  (spec_IsVector N (fun rv3 => (if (!rv3) = true then (K0 ByteArray.empty 1) else (spec_l01Text N (fun rv4 => (K0 rv4 0)) nv1 v2))) p0 nv1 v2)
def impl_IsPrime.b0 {ρ : Type} (N : Nat) (K0 : Bool → Option ρ) (rec : Int → Option ρ) (out0 : Option ρ) (p0 : Int) (k1 : Int) : Option ρ :=
  (if (decide ((IntKind.i64.wrap (k1 * k1)) ≤ p0)) = true then (if k1 = 0 then none else (if ((Int.tmod p0 k1) == 0) = true then (K0 false) else (rec ((IntKind.i64.wrap (k1 + 1)))))) else out0)
def impl_IsPrime.a0_0 {ρ : Type} (N : Nat) (K0 : Bool → Option ρ) : Option ρ :=
  (K0 true)
def impl_IsPrime.l0 {ρ : Type} (N : Nat) (K0 : Bool → Option ρ) (p0 : Int) (out0 : Option ρ) : Nat → Int → Option ρ
  | 0, _ => none
  | m + 1, k1 => (impl_IsPrime.b0 N K0 ((impl_IsPrime.l0 N K0 p0 out0 m)) out0 p0 k1)
def impl_IsPrime.s {ρ : Type} (N : Nat) (K0 : Bool → Option ρ) (lp0 : Int → Option ρ) (p0 : Int) : Option ρ :=
  (if (decide (p0 < 2)) = true then (K0 false) else (if (decide (p0 > 31)) = true then (K0 false) else (lp0 2)))
def impl_IsPrime {ρ : Type} (N : Nat) (K0 : Bool → Option ρ) (p0 : Int) : Option ρ :=
  (impl_IsPrime.s N K0 (fun k1 => (impl_IsPrime.l0 N K0 p0 (impl_IsPrime.a0_0 N K0) N k1)) p0)
def impl_in {ρ : Type} (N : Nat) (K0 : Bool → Option ρ) (x0 : Int) (least1 : Int) (most2 : Int) : Option ρ :=
  (if (decide (least1 ≤ x0)) = true then (K0 ((decide (x0 ≤ most2)))) else (K0 false))
def impl_IsVector.b0 {ρ : Type} (N : Nat) (K0 : Bool → Option ρ) (rec : Int → Option ρ) (out0 : Option ρ) (p0 : Int) (nv1 : Int) (v2 : Nat → Int) (x5 : Int) : Option ρ :=
  (if (decide (x5 < 8)) = true then (if (0 : Int) ≤ x5 ∧ x5 < 8 then (if (decide ((IntKind.i64.wrap (v2 x5.toNat)) ≥ p0)) = true then (K0 false) else (if (decide (x5 ≥ nv1)) = true then (if ((v2 x5.toNat) != 0) = true then (K0 false) else (rec ((IntKind.i64.wrap (x5 + 1))))) else (rec ((IntKind.i64.wrap (x5 + 1)))))) else none) else out0)
def impl_IsVector.a0_0 {ρ : Type} (N : Nat) (K0 : Bool → Option ρ) : Option ρ :=
  (K0 true)
def impl_IsVector.l0 {ρ : Type} (N : Nat) (K0 : Bool → Option ρ) (p0 : Int) (nv1 : Int) (v2 : Nat → Int) (out0 : Option ρ) : Nat → Int → Option ρ
  | 0, _ => none
  | m + 1, x5 => (impl_IsVector.b0 N K0 ((impl_IsVector.l0 N K0 p0 nv1 v2 out0 m)) out0 p0 nv1 v2 x5)
def impl_IsVector.s {ρ : Type} (N : Nat) (K0 : Bool → Option ρ) (lp0 : Int → Option ρ) (p0 : Int) (nv1 : Int) : Option ρ :=
  (impl_IsPrime N (fun rv3 => (if (!rv3) = true then (K0 false) else (impl_in N (fun rv4 => (if (!rv4) = true then (K0 false) else (lp0 0))) nv1 1 8))) p0)
def impl_IsVector {ρ : Type} (N : Nat) (K0 : Bool → Option ρ) (p0 : Int) (nv1 : Int) (v2 : Nat → Int) : Option ρ :=
  (impl_IsVector.s N K0 (fun x5 => (impl_IsVector.l0 N K0 p0 nv1 v2 (impl_IsVector.a0_0 N K0) N x5)) p0 nv1)
def strconv_Itoa {ρ : Type} (N : Nat) (K0 : ByteArray → Option ρ) (i0 : Int) : Option ρ :=
  (if (0 : Int) ≤ i0 ∧ i0 < 100 then (K0 (itoaS i0)) else none)
def strings_Join_su {ρ : Type} (N : Nat) (K0 : ByteArray → Option ρ) (elems0 : Nat) (sep1 : ByteArray) (gv2 : Nat) (gv3 : Nat → ByteArray) : Option ρ :=
  (if elems0 ≤ 140737488355328 ∧ (joinS elems0 gv3 sep1).size ≤ 140737488355328 then (K0 (joinS elems0 gv3 sep1)) else none)
def impl_vectorText.b0 {ρ : Type} (N : Nat) (K0 : ByteArray → Option ρ) (rec : Nat → Int → (Nat → ByteArray) → Option ρ) (out0 : Nat → (Nat → ByteArray) → Option ρ) (nv0 : Int) (v1 : Nat → Int) (outv2 : Nat) (x3 : Int) (gv4 : Nat → ByteArray) : Option ρ :=
  (if (decide (x3 < (nv0.toNat : Int))) = true then (if (0 : Int) ≤ x3 ∧ x3 < (nv0.toNat : Int) then (strconv_Itoa N (fun rv5 => (if (outv2 + 1) * 16 ≤ 140737488355328 then (rec (outv2 + 1) ((IntKind.i64.wrap (x3 + 1))) (joinN (outv2 * 1) gv4 (fun z => [rv5].getD z ByteArray.empty))) else none)) ((IntKind.i64.wrap (v1 (0 + (x3.toNat * 1)))))) else none) else (out0 outv2 gv4))
def impl_vectorText.a0_0 {ρ : Type} (N : Nat) (K0 : ByteArray → Option ρ) (ov6 : Nat) (ov7 : Nat → ByteArray) : Option ρ :=
  (strings_Join_su N (fun rv8 => (K0 rv8)) ov6 (ByteArray.mk #[44]) (ov6 * 1) (fun z => (ov7 (0 + z))))
def impl_vectorText.l0 {ρ : Type} (N : Nat) (K0 : ByteArray → Option ρ) (nv0 : Int) (v1 : Nat → Int) (out0 : Nat → (Nat → ByteArray) → Option ρ) : Nat → Nat → Int → (Nat → ByteArray) → Option ρ
  | 0, _, _, _ => none
  | m + 1, outv2, x3, gv4 => (impl_vectorText.b0 N K0 ((impl_vectorText.l0 N K0 nv0 v1 out0 m)) out0 nv0 v1 outv2 x3 gv4)
def impl_vectorText.s {ρ : Type} (N : Nat) (K0 : ByteArray → Option ρ) (lp0 : Nat → Int → (Nat → ByteArray) → Option ρ) (nv0 : Int) : Option ρ :=
  (if (0 : Int) ≤ (0 : Int) ∧ (0 : Int) ≤ nv0 ∧ nv0 ≤ 8 then (lp0 0 0 (fun _ => ByteArray.empty)) else none)
def impl_vectorText {ρ : Type} (N : Nat) (K0 : ByteArray → Option ρ) (nv0 : Int) (v1 : Nat → Int) : Option ρ :=
  (impl_vectorText.s N K0 (fun outv2 x3 gv4 => (impl_vectorText.l0 N K0 nv0 v1 (fun ov6 ov7 => (impl_vectorText.a0_0 N K0 ov6 ov7)) N outv2 x3 gv4)) nv0)
def impl_VectorText {ρ : Type} (N : Nat) (K0 : ByteArray → Int → Option ρ) (p0 : Int) (nv1 : Int) (v2 : Nat → Int) : Option ρ :=
  (impl_IsVector N (fun rv3 => (if (!rv3) = true then (K0 ByteArray.empty 1) else (impl_vectorText N (fun rv4 => (K0 rv4 0)) nv1 v2))) p0 nv1 v2)
def laws_FnExactVectorText {ρ : Type} (N : Nat) (K0 : Bool → Option ρ) (aP0 : Int) (aN1 : Int) (aV2 : Nat → Int) : Option ρ :=
  (laws_toVector N (fun rv3 => (spec_VectorText N (fun rv4 rv5 => (laws_toVector N (fun rv6 => (impl_VectorText N (fun rv7 rv8 => (if (!strEq rv7 rv4) = true then (K0 false) else (if (rv8 != rv5) = true then (K0 false) else (K0 true)))) aP0 aN1 rv6)) aV2)) aP0 aN1 rv3)) aV2)
end
end Go.Proofs.YtfdkkcaolajhoaaDoor.H
