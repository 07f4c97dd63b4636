import Derived.Test.YtcdogefmbenplaaDoorHgUse
import Derived.Test.YtcdogefmbenplaaDoorHgCon
import Derived.Test.YtcdogefmbenplaaDoorWords
namespace Go.Proofs.YtcdogefmbenplaaDoor.H
noncomputable section
set_option linter.unusedVariables false
set_option linter.unusedSimpArgs false
set_option linter.unusedSectionVars false
open Go Go.RowKit Go.Proofs.YtcdogefmbenplaaDoor.Hg
set_option maxRecDepth 100000
def spec_KnownNames.b0 {ρ : Type} (N : Nat) (K0 : Nat → (Nat → ByteArray) → Option ρ) (rec : Nat → Int → (Nat → ByteArray) → Option ρ) (out0 : Nat → (Nat → ByteArray) → Option ρ) (outv0 : Nat) (i1 : Int) (gv2 : Nat → ByteArray) : Option ρ :=
  (if (decide (i1 < 10)) = true then (if (0 : Int) ≤ i1 ∧ i1 < 10 then (if (ByteArray.mk #[111, 110, 45]).size + ((fun z => [(ByteArray.mk #[99, 121, 99, 108, 105, 99, 49]), (ByteArray.mk #[99, 121, 99, 108, 105, 99, 50]), (ByteArray.mk #[99, 121, 99, 108, 105, 99, 51]), (ByteArray.mk #[99, 121, 99, 108, 105, 99, 52]), (ByteArray.mk #[99, 121, 99, 108, 105, 99, 53]), (ByteArray.mk #[99, 121, 99, 108, 105, 99, 54]), (ByteArray.mk #[99, 121, 99, 108, 105, 99, 55]), (ByteArray.mk #[99, 121, 99, 108, 105, 99, 56]), (ByteArray.mk #[100, 105, 104, 101, 100, 114, 97, 108, 51]), (ByteArray.mk #[100, 105, 104, 101, 100, 114, 97, 108, 52])].getD z ByteArray.empty) (0 + (i1.toNat * 1))).size ≤ 4611686018427387904 then (if (outv0 + 1) * 16 ≤ 140737488355328 then (rec (outv0 + 1) ((IntKind.i64.wrap (i1 + 1))) (joinN (outv0 * 1) gv2 (fun z => [((ByteArray.mk #[111, 110, 45]) ++ ((fun z => [(ByteArray.mk #[99, 121, 99, 108, 105, 99, 49]), (ByteArray.mk #[99, 121, 99, 108, 105, 99, 50]), (ByteArray.mk #[99, 121, 99, 108, 105, 99, 51]), (ByteArray.mk #[99, 121, 99, 108, 105, 99, 52]), (ByteArray.mk #[99, 121, 99, 108, 105, 99, 53]), (ByteArray.mk #[99, 121, 99, 108, 105, 99, 54]), (ByteArray.mk #[99, 121, 99, 108, 105, 99, 55]), (ByteArray.mk #[99, 121, 99, 108, 105, 99, 56]), (ByteArray.mk #[100, 105, 104, 101, 100, 114, 97, 108, 51]), (ByteArray.mk #[100, 105, 104, 101, 100, 114, 97, 108, 52])].getD z ByteArray.empty) (0 + (i1.toNat * 1))))].getD z ByteArray.empty))) else none) else none) else none) else (out0 outv0 gv2))
def spec_KnownNames.a0_0 {ρ : Type} (N : Nat) (K0 : Nat → (Nat → ByteArray) → Option ρ) (ov3 : Nat) (ov4 : Nat → ByteArray) : Option ρ :=
  (if (ov3 + 5) * 16 ≤ 140737488355328 then (K0 (ov3 + 5) (joinN (ov3 * 1) ov4 (fun z => [(ByteArray.mk #[111, 110, 45, 107, 108, 101, 105, 110]), (ByteArray.mk #[111, 110, 45, 113, 117, 97, 116, 101, 114, 110, 105, 111, 110]), (ByteArray.mk #[113, 117, 97, 116, 101, 114, 110, 105, 111, 110]), (ByteArray.mk #[115, 112, 108, 105, 116]), (ByteArray.mk #[115, 119, 101, 101, 100, 108, 101, 114])].getD z ByteArray.empty))) else none)
def spec_KnownNames.l0 {ρ : Type} (N : Nat) (K0 : Nat → (Nat → ByteArray) → Option ρ) (out0 : Nat → (Nat → ByteArray) → Option ρ) : Nat → Nat → Int → (Nat → ByteArray) → Option ρ
  | 0, _, _, _ => none
  | m + 1, outv0, i1, gv2 => (spec_KnownNames.b0 N K0 ((spec_KnownNames.l0 N K0 out0 m)) out0 outv0 i1 gv2)
def spec_KnownNames.s {ρ : Type} (N : Nat) (K0 : Nat → (Nat → ByteArray) → Option ρ) (lp0 : Nat → Int → (Nat → ByteArray) → Option ρ) : Option ρ :=
  (lp0 13 0 (joinN 10 (joinN 0 (fun _ => ByteArray.empty) (fun z => [(ByteArray.mk #[99, 121, 99, 108, 105, 99, 49]), (ByteArray.mk #[99, 121, 99, 108, 105, 99, 50]), (ByteArray.mk #[99, 121, 99, 108, 105, 99, 51]), (ByteArray.mk #[99, 121, 99, 108, 105, 99, 52]), (ByteArray.mk #[99, 121, 99, 108, 105, 99, 53]), (ByteArray.mk #[99, 121, 99, 108, 105, 99, 54]), (ByteArray.mk #[99, 121, 99, 108, 105, 99, 55]), (ByteArray.mk #[99, 121, 99, 108, 105, 99, 56]), (ByteArray.mk #[100, 105, 104, 101, 100, 114, 97, 108, 51]), (ByteArray.mk #[100, 105, 104, 101, 100, 114, 97, 108, 52])].getD z ByteArray.empty)) (fun z => [(ByteArray.mk #[100, 111, 117, 98, 108, 101]), (ByteArray.mk #[107, 108, 101, 105, 110]), (ByteArray.mk #[108, 105, 110, 101])].getD z ByteArray.empty)))
def spec_KnownNames {ρ : Type} (N : Nat) (K0 : Nat → (Nat → ByteArray) → Option ρ) : Option ρ :=
  (spec_KnownNames.s N K0 (fun outv0 i1 gv2 => (spec_KnownNames.l0 N K0 (fun ov3 ov4 => (spec_KnownNames.a0_0 N K0 ov3 ov4)) N outv0 i1 gv2)))
def strings_Fields {ρ : Type} (N : Nat) (K0 : Nat → Nat → (Nat → ByteArray) → Option ρ) (s0 : ByteArray) : Option ρ :=
  (if strEq s0 knText = true then (K0 12 12 knWords) else none)
def slices_Sort_sw {ρ : Type} (N : Nat) (K0 : (Nat → ByteArray) → Option ρ) (x0 : Nat) (gv1 : Nat → ByteArray) : Option ρ :=
  (if x0 = 28 ∧ isKn gv1 = true then (K0 knSorted) else none)
def impl_KnownNames.b0 {ρ : Type} (N : Nat) (K0 : Nat → (Nat → ByteArray) → Option ρ) (rec : Nat → Int → (Nat → ByteArray) → Option ρ) (out0 : Nat → (Nat → ByteArray) → Option ρ) (rv0 : Nat) (rv2 : Nat → ByteArray) (outv3 : Nat) (x4 : Int) (gv5 : Nat → ByteArray) : Option ρ :=
  (if (decide (x4 < (rv0 : Int))) = true then (if (0 : Int) ≤ x4 ∧ x4 < (rv0 : Int) then (if (ByteArray.mk #[111, 110, 45]).size + (rv2 (0 + (x4.toNat * 1))).size ≤ 4611686018427387904 then (if (outv3 + 2) * 16 ≤ 140737488355328 then (rec (outv3 + 2) ((IntKind.i64.wrap (x4 + 1))) (joinN (outv3 * 1) gv5 (fun z => [(rv2 (0 + (x4.toNat * 1))), ((ByteArray.mk #[111, 110, 45]) ++ (rv2 (0 + (x4.toNat * 1))))].getD z ByteArray.empty))) else none) else none) else none) else (out0 outv3 gv5))
def impl_KnownNames.a0_0 {ρ : Type} (N : Nat) (K0 : Nat → (Nat → ByteArray) → Option ρ) (ov6 : Nat) (ov7 : Nat → ByteArray) : Option ρ :=
  (slices_Sort_sw N (fun rv8 => (K0 ov6 rv8)) ov6 ov7)
def impl_KnownNames.l0 {ρ : Type} (N : Nat) (K0 : Nat → (Nat → ByteArray) → Option ρ) (rv0 : Nat) (rv2 : Nat → ByteArray) (out0 : Nat → (Nat → ByteArray) → Option ρ) : Nat → Nat → Int → (Nat → ByteArray) → Option ρ
  | 0, _, _, _ => none
  | m + 1, outv3, x4, gv5 => (impl_KnownNames.b0 N K0 ((impl_KnownNames.l0 N K0 rv0 rv2 out0 m)) out0 rv0 rv2 outv3 x4 gv5)
def impl_KnownNames.s {ρ : Type} (N : Nat) (K0 : Nat → (Nat → ByteArray) → Option ρ) (lp0 : Nat → Nat → (Nat → ByteArray) → Nat → Int → (Nat → ByteArray) → Option ρ) : Option ρ :=
  (strings_Fields N (fun rv0 rv1 rv2 => (lp0 rv0 rv1 rv2 4 0 (fun z => [(ByteArray.mk #[108, 105, 110, 101]), (ByteArray.mk #[115, 112, 108, 105, 116]), (ByteArray.mk #[115, 119, 101, 101, 100, 108, 101, 114]), (ByteArray.mk #[100, 111, 117, 98, 108, 101])].getD z ByteArray.empty))) (ByteArray.mk #[99, 121, 99, 108, 105, 99, 49, 32, 99, 121, 99, 108, 105, 99, 50, 32, 99, 121, 99, 108, 105, 99, 51, 32, 99, 121, 99, 108, 105, 99, 52, 32, 99, 121, 99, 108, 105, 99, 53, 32, 99, 121, 99, 108, 105, 99, 54, 32, 99, 121, 99, 108, 105, 99, 55, 32, 99, 121, 99, 108, 105, 99, 56, 32, 107, 108, 101, 105, 110, 32, 100, 105, 104, 101, 100, 114, 97, 108, 51, 32, 100, 105, 104, 101, 100, 114, 97, 108, 52, 32, 113, 117, 97, 116, 101, 114, 110, 105, 111, 110]))
def impl_KnownNames {ρ : Type} (N : Nat) (K0 : Nat → (Nat → ByteArray) → Option ρ) : Option ρ :=
  (impl_KnownNames.s N K0 (fun rv0 rv1 rv2 outv3 x4 gv5 => (impl_KnownNames.l0 N K0 rv0 rv2 (fun ov6 ov7 => (impl_KnownNames.a0_0 N K0 ov6 ov7)) N outv3 x4 gv5)))
def laws_eqStringS_susu.b0 {ρ : Type} (N : Nat) (K0 : Bool → Option ρ) (rec : Int → Option ρ) (out0 : Option ρ) (av0 : Nat) (bv1 : Nat) (gv3 : Nat → ByteArray) (gv5 : Nat → ByteArray) (i6 : Int) : Option ρ :=
  (if (decide (i6 < (av0 : Int))) = true then (if (0 : Int) ≤ i6 ∧ i6 < (av0 : Int) then (if (0 : Int) ≤ i6 ∧ i6 < (bv1 : Int) then (if (!strEq (gv3 (0 + (i6.toNat * 1))) (gv5 (0 + (i6.toNat * 1)))) = true then (K0 false) else (rec ((IntKind.i64.wrap (i6 + 1))))) else none) else none) else out0)
def laws_eqStringS_susu.a0_0 {ρ : Type} (N : Nat) (K0 : Bool → Option ρ) : Option ρ :=
  (K0 true)
def laws_eqStringS_susu.l0 {ρ : Type} (N : Nat) (K0 : Bool → Option ρ) (av0 : Nat) (bv1 : Nat) (gv3 : Nat → ByteArray) (gv5 : Nat → ByteArray) (out0 : Option ρ) : Nat → Int → Option ρ
  | 0, _ => none
  | m + 1, i6 => (laws_eqStringS_susu.b0 N K0 ((laws_eqStringS_susu.l0 N K0 av0 bv1 gv3 gv5 out0 m)) out0 av0 bv1 gv3 gv5 i6)
def laws_eqStringS_susu.s {ρ : Type} (N : Nat) (K0 : Bool → Option ρ) (lp0 : Int → Option ρ) (av0 : Nat) (bv1 : Nat) : Option ρ :=
  (if ((av0 : Int) != (bv1 : Int)) = true then (K0 false) else (lp0 0))
def laws_eqStringS_susu {ρ : Type} (N : Nat) (K0 : Bool → Option ρ) (av0 : Nat) (bv1 : Nat) (gv2 : Nat) (gv3 : Nat → ByteArray) (gv4 : Nat) (gv5 : Nat → ByteArray) : Option ρ :=
  (laws_eqStringS_susu.s N K0 (fun i6 => (laws_eqStringS_susu.l0 N K0 av0 bv1 gv3 gv5 (laws_eqStringS_susu.a0_0 N K0) N i6)) av0 bv1)
def laws_markText.b0 {ρ : Type} (N : Nat) (K0 : ByteArray → Option ρ) (rec : Int → ByteArray → Option ρ) (out0 : ByteArray → Option ρ) (k1 : Int) (outv2 : ByteArray) : Option ρ :=
  (if (decide (k1 > 0)) = true then (if (bytesOf (upd (fun _ => 0) 0 (IntKind.u8.wrap (IntKind.i64.wrap (48 + (Int.tmod k1 10))))) 0 1).size + outv2.size ≤ 4611686018427387904 then (rec ((IntKind.i64.wrap (Int.tdiv k1 10))) ((bytesOf (upd (fun _ => 0) 0 (IntKind.u8.wrap (IntKind.i64.wrap (48 + (Int.tmod k1 10))))) 0 1) ++ outv2)) else none) else (out0 outv2))
def laws_markText.a0_0 {ρ : Type} (N : Nat) (K0 : ByteArray → Option ρ) (ov3 : ByteArray) : Option ρ :=
  (if (ByteArray.mk #[109]).size + ov3.size ≤ 4611686018427387904 then (K0 ((ByteArray.mk #[109]) ++ ov3)) else none)
def laws_markText.l0 {ρ : Type} (N : Nat) (K0 : ByteArray → Option ρ) (out0 : ByteArray → Option ρ) : Nat → Int → ByteArray → Option ρ
  | 0, _, _ => none
  | m + 1, k1, outv2 => (laws_markText.b0 N K0 ((laws_markText.l0 N K0 out0 m)) out0 k1 outv2)
def laws_markText.s {ρ : Type} (N : Nat) (K0 : ByteArray → Option ρ) (lp0 : Int → ByteArray → Option ρ) (k0 : Int) : Option ρ :=
  (if (decide (k0 ≤ 0)) = true then (K0 (ByteArray.mk #[109, 48])) else (lp0 k0 ByteArray.empty))
def laws_markText {ρ : Type} (N : Nat) (K0 : ByteArray → Option ρ) (k0 : Int) : Option ρ :=
  (laws_markText.s N K0 (fun k1 outv2 => (laws_markText.l0 N K0 (fun ov3 => (laws_markText.a0_0 N K0 ov3)) N k1 outv2)) k0)
def laws_markStringS_sw.b0 {ρ : Type} (N : Nat) (K0 : Int → (Nat → ByteArray) → Option ρ) (rec : Int → Int → (Nat → ByteArray) → Option ρ) (out0 : Int → (Nat → ByteArray) → Option ρ) (av0 : Nat) (k3 : Int) (i4 : Int) (gv5 : Nat → ByteArray) : Option ρ :=
  (if (decide (i4 < (av0 : Int))) = true then (laws_markText N (fun rv6 => (if (0 : Int) ≤ i4 ∧ i4 < (av0 : Int) then (rec ((IntKind.i64.wrap (k3 + 1))) ((IntKind.i64.wrap (i4 + 1))) (upd gv5 (0 + (i4.toNat * 1)) rv6)) else none)) k3) else (out0 k3 gv5))
def laws_markStringS_sw.a0_0 {ρ : Type} (N : Nat) (K0 : Int → (Nat → ByteArray) → Option ρ) (ov7 : Int) (ov8 : Nat → ByteArray) : Option ρ :=
  (K0 ov7 ov8)
def laws_markStringS_sw.l0 {ρ : Type} (N : Nat) (K0 : Int → (Nat → ByteArray) → Option ρ) (av0 : Nat) (out0 : Int → (Nat → ByteArray) → Option ρ) : Nat → Int → Int → (Nat → ByteArray) → Option ρ
  | 0, _, _, _ => none
  | m + 1, k3, i4, gv5 => (laws_markStringS_sw.b0 N K0 ((laws_markStringS_sw.l0 N K0 av0 out0 m)) out0 av0 k3 i4 gv5)
def laws_markStringS_sw.s {ρ : Type} (N : Nat) (K0 : Int → (Nat → ByteArray) → Option ρ) (lp0 : Int → Int → (Nat → ByteArray) → Option ρ) (k1 : Int) (gv2 : Nat → ByteArray) : Option ρ :=
  (lp0 k1 0 gv2)
def laws_markStringS_sw {ρ : Type} (N : Nat) (K0 : Int → (Nat → ByteArray) → Option ρ) (av0 : Nat) (k1 : Int) (gv2 : Nat → ByteArray) : Option ρ :=
  (laws_markStringS_sw.s N K0 (fun k3 i4 gv5 => (laws_markStringS_sw.l0 N K0 av0 (fun ov7 ov8 => (laws_markStringS_sw.a0_0 N K0 ov7 ov8)) N k3 i4 gv5)) k1 gv2)
def laws_heldStringS_su.b0 {ρ : Type} (N : Nat) (K0 : Int → Option ρ) (rec : Int → Int → Option ρ) (out0 : Int → Option ρ) (av0 : Nat) (gv3 : Nat → ByteArray) (k4 : Int) (i5 : Int) : Option ρ :=
  (if (decide (i5 < (av0 : Int))) = true then (if (0 : Int) ≤ i5 ∧ i5 < (av0 : Int) then (laws_markText N (fun rv6 => (if (!strEq (gv3 (0 + (i5.toNat * 1))) rv6) = true then (K0 (-1)) else (rec ((IntKind.i64.wrap (k4 + 1))) ((IntKind.i64.wrap (i5 + 1)))))) k4) else none) else (out0 k4))
def laws_heldStringS_su.a0_0 {ρ : Type} (N : Nat) (K0 : Int → Option ρ) (ov7 : Int) : Option ρ :=
  (K0 ov7)
def laws_heldStringS_su.l0 {ρ : Type} (N : Nat) (K0 : Int → Option ρ) (av0 : Nat) (gv3 : Nat → ByteArray) (out0 : Int → Option ρ) : Nat → Int → Int → Option ρ
  | 0, _, _ => none
  | m + 1, k4, i5 => (laws_heldStringS_su.b0 N K0 ((laws_heldStringS_su.l0 N K0 av0 gv3 out0 m)) out0 av0 gv3 k4 i5)
def laws_heldStringS_su.s {ρ : Type} (N : Nat) (K0 : Int → Option ρ) (lp0 : Int → Int → Option ρ) (k1 : Int) : Option ρ :=
  (lp0 k1 0)
def laws_heldStringS_su {ρ : Type} (N : Nat) (K0 : Int → Option ρ) (av0 : Nat) (k1 : Int) (gv2 : Nat) (gv3 : Nat → ByteArray) : Option ρ :=
  (laws_heldStringS_su.s N K0 (fun k4 i5 => (laws_heldStringS_su.l0 N K0 av0 gv3 (fun ov7 => (laws_heldStringS_su.a0_0 N K0 ov7)) N k4 i5)) k1)
def laws_FnExactKnownNames {ρ : Type} (N : Nat) (K0 : Bool → Option ρ) : Option ρ :=
  (spec_KnownNames N (fun rv0 rv1 => (impl_KnownNames N (fun rv2 rv3 => (laws_eqStringS_susu N (fun rv4 => (if (!rv4) = true then (K0 false) else (laws_markStringS_sw N (fun rv5 rv6 => (laws_heldStringS_su N (fun rv7 => (if (decide (rv7 < 0)) = true then (K0 false) else (if (rv7 != rv5) = true then (K0 false) else (impl_KnownNames N (fun rv8 rv9 => (laws_eqStringS_susu N (fun rv10 => (if (!rv10) = true then (K0 false) else (laws_heldStringS_su N (fun rv11 => (if (decide (rv11 < 0)) = true then (K0 false) else (if (rv11 != rv5) = true then (K0 false) else (K0 true)))) rv2 101 (rv2 * 1) (fun z => (rv6 (0 + z)))))) rv8 rv0 (rv8 * 1) (fun z => (rv9 (0 + z))) (rv0 * 1) (fun z => (rv1 (0 + z))))))))) rv2 101 (rv2 * 1) (fun z => (rv6 (0 + z))))) rv2 101 rv3))) rv2 rv0 (rv2 * 1) (fun z => (rv3 (0 + z))) (rv0 * 1) (fun z => (rv1 (0 + z))))))))
end
end Go.Proofs.YtcdogefmbenplaaDoor.H
