/- The functions that the program computes, in plain Lean. -/
import Derived.Test.YtdlhegdigcdffaaHyUse
namespace Go.Proofs.Ytdlhegdigcdffaa.H
set_option linter.unusedVariables false
set_option linter.unusedSimpArgs false
open Go Go.RowKit Go.Proofs.Ytdlhegdigcdffaa.Hy
set_option linter.unusedVariables false
set_option maxRecDepth 100000
noncomputable def spec_l01In {ρ : Type} (N : Nat) (K0 : Bool → Option ρ) (nv0 : Int) (low1 : Int) (high2 : Int) : Option ρ :=
  (if (decide (nv0 ≥ low1)) = true then (K0 ((decide (nv0 ≤ high2)))) else (K0 false))

noncomputable def spec_l04Cyclic.b1 {ρ : Type} (N : Nat) (K0 : Nat → Nat → (Nat → Nat) → (Nat → Nat) → (Nat → Int) → Option ρ) (rec : Nat → Int → (Nat → Int) → Option ρ) (out0 : Nat → (Nat → Int) → Option ρ) (nv0 : Int) (i2 : Int) (row7 : Nat) (j8 : Int) (gv9 : Nat → Int) : Option ρ :=
  (if (decide (j8 < nv0)) = true then (if nv0 = 0 then none else (if (row7 + 1) * 8 ≤ 140737488355328 then (rec (row7 + 1) ((IntKind.i64.wrap (j8 + 1))) (joinN (row7 * 1) gv9 (upd (fun _ => 0) 0 (Int.tmod (IntKind.i64.wrap (i2 + j8)) nv0)))) else none)) else (out0 row7 gv9))

noncomputable def spec_l04Cyclic.a1_0 {ρ : Type} (N : Nat) (K0 : Nat → Nat → (Nat → Nat) → (Nat → Nat) → (Nat → Int) → Option ρ) (rec : Nat → Int → Nat → (Nat → Nat) → (Nat → Nat) → (Nat → Int) → Option ρ) (out0 : Nat → Nat → (Nat → Nat) → (Nat → Nat) → (Nat → Int) → Option ρ) (outv1 : Nat) (i2 : Int) (gv3 : Nat) (gv4 : Nat → Nat) (gv5 : Nat → Nat) (gv6 : Nat → Int) (ov10 : Nat) (ov11 : Nat → Int) : Option ρ :=
  (if (outv1 + 1) * 24 ≤ 140737488355328 then (rec (outv1 + 1) ((IntKind.i64.wrap (i2 + 1))) (gv3 + ov10) (upd gv4 outv1 gv3) (upd gv5 outv1 ov10) (joinN gv3 gv6 ov11)) else none)

noncomputable def spec_l04Cyclic.b0 {ρ : Type} (N : Nat) (K0 : Nat → Nat → (Nat → Nat) → (Nat → Nat) → (Nat → Int) → Option ρ) (lp1 : Nat → Int → (Nat → Int) → Option ρ) (rec : Nat → Int → Nat → (Nat → Nat) → (Nat → Nat) → (Nat → Int) → Option ρ) (out0 : Nat → Nat → (Nat → Nat) → (Nat → Nat) → (Nat → Int) → Option ρ) (nv0 : Int) (outv1 : Nat) (i2 : Int) (gv3 : Nat) (gv4 : Nat → Nat) (gv5 : Nat → Nat) (gv6 : Nat → Int) : Option ρ :=
  (if (decide (i2 < nv0)) = true then (lp1 0 0 (fun _ => 0)) else (out0 outv1 gv3 gv4 gv5 gv6))

noncomputable def spec_l04Cyclic.a0_0 {ρ : Type} (N : Nat) (K0 : Nat → Nat → (Nat → Nat) → (Nat → Nat) → (Nat → Int) → Option ρ) (ov12 : Nat) (ov13 : Nat) (ov14 : Nat → Nat) (ov15 : Nat → Nat) (ov16 : Nat → Int) : Option ρ :=
  (K0 ov12 ov13 ov14 ov15 ov16)

noncomputable def spec_l04Cyclic.l1 {ρ : Type} (N : Nat) (K0 : Nat → Nat → (Nat → Nat) → (Nat → Nat) → (Nat → Int) → Option ρ) (nv0 : Int) (i2 : Int) (out0 : Nat → (Nat → Int) → Option ρ) : Nat → Nat → Int → (Nat → Int) → Option ρ
  | 0, _, _, _ => none
  | m + 1, row7, j8, gv9 => (spec_l04Cyclic.b1 N K0 ((spec_l04Cyclic.l1 N K0 nv0 i2 out0 m)) out0 nv0 i2 row7 j8 gv9)

noncomputable def spec_l04Cyclic.l0 {ρ : Type} (N : Nat) (K0 : Nat → Nat → (Nat → Nat) → (Nat → Nat) → (Nat → Int) → Option ρ) (nv0 : Int) (out0 : Nat → Nat → (Nat → Nat) → (Nat → Nat) → (Nat → Int) → Option ρ) : Nat → Nat → Int → Nat → (Nat → Nat) → (Nat → Nat) → (Nat → Int) → Option ρ
  | 0, _, _, _, _, _, _ => none
  | m + 1, outv1, i2, gv3, gv4, gv5, gv6 => (spec_l04Cyclic.b0 N K0 (fun row7 j8 gv9 => (spec_l04Cyclic.l1 N K0 nv0 i2 (fun ov10 ov11 => (spec_l04Cyclic.a1_0 N K0 (spec_l04Cyclic.l0 N K0 nv0 out0 m) out0 outv1 i2 gv3 gv4 gv5 gv6 ov10 ov11)) N row7 j8 gv9)) ((spec_l04Cyclic.l0 N K0 nv0 out0 m)) out0 nv0 outv1 i2 gv3 gv4 gv5 gv6)

noncomputable def spec_l04Cyclic.s {ρ : Type} (N : Nat) (K0 : Nat → Nat → (Nat → Nat) → (Nat → Nat) → (Nat → Int) → Option ρ) (lp0 : Nat → Int → Nat → (Nat → Nat) → (Nat → Nat) → (Nat → Int) → Option ρ) : Option ρ :=
  (lp0 0 0 0 (fun _ => 0) (fun _ => 0) (fun _ => 0))

noncomputable def spec_l04Cyclic {ρ : Type} (N : Nat) (K0 : Nat → Nat → (Nat → Nat) → (Nat → Nat) → (Nat → Int) → Option ρ) (nv0 : Int) : Option ρ :=
  (spec_l04Cyclic.s N K0 (fun outv1 i2 gv3 gv4 gv5 gv6 => (spec_l04Cyclic.l0 N K0 nv0 (fun ov12 ov13 ov14 ov15 ov16 => (spec_l04Cyclic.a0_0 N K0 ov12 ov13 ov14 ov15 ov16)) N outv1 i2 gv3 gv4 gv5 gv6)))

noncomputable def spec_CyclicTable {ρ : Type} (N : Nat) (K0 : Nat → Int → Nat → (Nat → Nat) → (Nat → Nat) → (Nat → Int) → Option ρ) (nv0 : Int) : Option ρ :=
  (spec_l01In N (fun rv1 => (if (!rv1) = true then (K0 0 2 0 (fun _ => 0) (fun _ => 0) (fun _ => 0)) else (spec_l04Cyclic N (fun rv2 rv3 rv4 rv5 rv6 => (K0 rv2 0 rv3 rv4 rv5 rv6)) nv0))) nv0 1 8)

noncomputable def impl_in {ρ : Type} (N : Nat) (K0 : Bool → Option ρ) (x0 : Int) (least1 : Int) (most2 : Int) : Option ρ :=
  (if (decide (least1 ≤ x0)) = true then (K0 ((decide (x0 ≤ most2)))) else (K0 false))

noncomputable def impl_cyclic_c1 {ρ : Type} (N : Nat) (K0 : Int → Option ρ) (i0 : Int) (j1 : Int) (gv2 : Nat → Int) : Option ρ :=
  (if (gv2 0) = 0 then none else (K0 ((Int.tmod (IntKind.i64.wrap (i0 + j1)) (gv2 0)))))

noncomputable def impl_tableOf.b1 {ρ : Type} (N : Nat) (K0 : Nat → Nat → (Nat → Nat) → (Nat → Nat) → (Nat → Int) → Option ρ) (rec : Nat → Int → (Nat → Int) → Option ρ) (out0 : Nat → (Nat → Int) → Option ρ) (nv0 : Int) (gv1 : Nat → Int) (x3 : Int) (row8 : Nat) (x9 : Int) (gv10 : Nat → Int) : Option ρ :=
  (if (decide (x9 < nv0)) = true then (impl_cyclic_c1 N (fun rv11 => (if (row8 + 1) * 8 ≤ 140737488355328 then (rec (row8 + 1) ((IntKind.i64.wrap (x9 + 1))) (joinN (row8 * 1) gv10 (upd (fun _ => 0) 0 rv11))) else none)) x3 x9 gv1) else (out0 row8 gv10))

noncomputable def impl_tableOf.a1_0 {ρ : Type} (N : Nat) (K0 : Nat → Nat → (Nat → Nat) → (Nat → Nat) → (Nat → Int) → Option ρ) (rec : Nat → Int → Nat → (Nat → Nat) → (Nat → Nat) → (Nat → Int) → Option ρ) (out0 : Nat → Nat → (Nat → Nat) → (Nat → Nat) → (Nat → Int) → Option ρ) (outv2 : Nat) (x3 : Int) (gv4 : Nat) (gv5 : Nat → Nat) (gv6 : Nat → Nat) (gv7 : Nat → Int) (ov12 : Nat) (ov13 : Nat → Int) : Option ρ :=
  (if (outv2 + 1) * 24 ≤ 140737488355328 then (rec (outv2 + 1) ((IntKind.i64.wrap (x3 + 1))) (gv4 + ov12) (upd gv5 outv2 gv4) (upd gv6 outv2 ov12) (joinN gv4 gv7 ov13)) else none)

noncomputable def impl_tableOf.b0 {ρ : Type} (N : Nat) (K0 : Nat → Nat → (Nat → Nat) → (Nat → Nat) → (Nat → Int) → Option ρ) (lp1 : Nat → Int → (Nat → Int) → Option ρ) (rec : Nat → Int → Nat → (Nat → Nat) → (Nat → Nat) → (Nat → Int) → Option ρ) (out0 : Nat → Nat → (Nat → Nat) → (Nat → Nat) → (Nat → Int) → Option ρ) (nv0 : Int) (outv2 : Nat) (x3 : Int) (gv4 : Nat) (gv5 : Nat → Nat) (gv6 : Nat → Nat) (gv7 : Nat → Int) : Option ρ :=
  (if (decide (x3 < nv0)) = true then (lp1 0 0 (fun _ => 0)) else (out0 outv2 gv4 gv5 gv6 gv7))

noncomputable def impl_tableOf.a0_0 {ρ : Type} (N : Nat) (K0 : Nat → Nat → (Nat → Nat) → (Nat → Nat) → (Nat → Int) → Option ρ) (ov14 : Nat) (ov15 : Nat) (ov16 : Nat → Nat) (ov17 : Nat → Nat) (ov18 : Nat → Int) : Option ρ :=
  (K0 ov14 ov15 ov16 ov17 ov18)

noncomputable def impl_tableOf.l1 {ρ : Type} (N : Nat) (K0 : Nat → Nat → (Nat → Nat) → (Nat → Nat) → (Nat → Int) → Option ρ) (nv0 : Int) (gv1 : Nat → Int) (x3 : Int) (out0 : Nat → (Nat → Int) → Option ρ) : Nat → Nat → Int → (Nat → Int) → Option ρ
  | 0, _, _, _ => none
  | m + 1, row8, x9, gv10 => (impl_tableOf.b1 N K0 ((impl_tableOf.l1 N K0 nv0 gv1 x3 out0 m)) out0 nv0 gv1 x3 row8 x9 gv10)

noncomputable def impl_tableOf.l0 {ρ : Type} (N : Nat) (K0 : Nat → Nat → (Nat → Nat) → (Nat → Nat) → (Nat → Int) → Option ρ) (nv0 : Int) (gv1 : Nat → Int) (out0 : Nat → Nat → (Nat → Nat) → (Nat → Nat) → (Nat → Int) → Option ρ) : Nat → Nat → Int → Nat → (Nat → Nat) → (Nat → Nat) → (Nat → Int) → Option ρ
  | 0, _, _, _, _, _, _ => none
  | m + 1, outv2, x3, gv4, gv5, gv6, gv7 => (impl_tableOf.b0 N K0 (fun row8 x9 gv10 => (impl_tableOf.l1 N K0 nv0 gv1 x3 (fun ov12 ov13 => (impl_tableOf.a1_0 N K0 (impl_tableOf.l0 N K0 nv0 gv1 out0 m) out0 outv2 x3 gv4 gv5 gv6 gv7 ov12 ov13)) N row8 x9 gv10)) ((impl_tableOf.l0 N K0 nv0 gv1 out0 m)) out0 nv0 outv2 x3 gv4 gv5 gv6 gv7)

noncomputable def impl_tableOf.s {ρ : Type} (N : Nat) (K0 : Nat → Nat → (Nat → Nat) → (Nat → Nat) → (Nat → Int) → Option ρ) (lp0 : Nat → Int → Nat → (Nat → Nat) → (Nat → Nat) → (Nat → Int) → Option ρ) : Option ρ :=
  (lp0 0 0 0 (fun _ => 0) (fun _ => 0) (fun _ => 0))

noncomputable def impl_tableOf {ρ : Type} (N : Nat) (K0 : Nat → Nat → (Nat → Nat) → (Nat → Nat) → (Nat → Int) → Option ρ) (nv0 : Int) (gv1 : Nat → Int) : Option ρ :=
  (impl_tableOf.s N K0 (fun outv2 x3 gv4 gv5 gv6 gv7 => (impl_tableOf.l0 N K0 nv0 gv1 (fun ov14 ov15 ov16 ov17 ov18 => (impl_tableOf.a0_0 N K0 ov14 ov15 ov16 ov17 ov18)) N outv2 x3 gv4 gv5 gv6 gv7)))

noncomputable def impl_cyclic {ρ : Type} (N : Nat) (K0 : Nat → Nat → (Nat → Nat) → (Nat → Nat) → (Nat → Int) → Option ρ) (nv0 : Int) : Option ρ :=
  (impl_tableOf N (fun rv1 rv2 rv3 rv4 rv5 => (K0 rv1 rv2 rv3 rv4 rv5)) nv0 (fun _ => nv0))

noncomputable def impl_CyclicTable {ρ : Type} (N : Nat) (K0 : Nat → Int → Nat → (Nat → Nat) → (Nat → Nat) → (Nat → Int) → Option ρ) (nv0 : Int) : Option ρ :=
  (impl_in N (fun rv1 => (if (!rv1) = true then (K0 0 2 0 (fun _ => 0) (fun _ => 0) (fun _ => 0)) else (impl_cyclic N (fun rv2 rv3 rv4 rv5 rv6 => (K0 rv2 0 rv3 rv4 rv5 rv6)) nv0))) nv0 1 8)

noncomputable def laws_eqInt64S.b0 {ρ : Type} (N : Nat) (K0 : Bool → Option ρ) (rec : Int → Option ρ) (out0 : Option ρ) (av0 : Nat) (bv1 : Nat) (gv3 : Nat → Int) (gv5 : Nat → Int) (i6 : Int) : Option ρ :=
  (if (decide (i6 < (av0 : Int))) = true then (if (0 : Int) ≤ i6 ∧ i6 < (av0 : Int) then (if (0 : Int) ≤ i6 ∧ i6 < (bv1 : Int) then (if ((gv3 (0 + (i6.toNat * 1))) != (gv5 (0 + (i6.toNat * 1)))) = true then (K0 false) else (rec ((IntKind.i64.wrap (i6 + 1))))) else none) else none) else out0)

noncomputable def laws_eqInt64S.a0_0 {ρ : Type} (N : Nat) (K0 : Bool → Option ρ) : Option ρ :=
  (K0 true)

noncomputable def laws_eqInt64S.l0 {ρ : Type} (N : Nat) (K0 : Bool → Option ρ) (av0 : Nat) (bv1 : Nat) (gv3 : Nat → Int) (gv5 : Nat → Int) (out0 : Option ρ) : Nat → Int → Option ρ
  | 0, _ => none
  | m + 1, i6 => (laws_eqInt64S.b0 N K0 ((laws_eqInt64S.l0 N K0 av0 bv1 gv3 gv5 out0 m)) out0 av0 bv1 gv3 gv5 i6)

noncomputable def laws_eqInt64S.s {ρ : Type} (N : Nat) (K0 : Bool → Option ρ) (lp0 : Int → Option ρ) (av0 : Nat) (bv1 : Nat) : Option ρ :=
  (if ((av0 : Int) != (bv1 : Int)) = true then (K0 false) else (lp0 0))

noncomputable def laws_eqInt64S {ρ : Type} (N : Nat) (K0 : Bool → Option ρ) (av0 : Nat) (bv1 : Nat) (gv2 : Nat) (gv3 : Nat → Int) (gv4 : Nat) (gv5 : Nat → Int) : Option ρ :=
  (laws_eqInt64S.s N K0 (fun i6 => (laws_eqInt64S.l0 N K0 av0 bv1 gv3 gv5 (laws_eqInt64S.a0_0 N K0) N i6)) av0 bv1)

noncomputable def laws_eqInt64SS.b0 {ρ : Type} (N : Nat) (K0 : Bool → Option ρ) (rec : Int → Option ρ) (out0 : Option ρ) (av0 : Nat) (bv1 : Nat) (gv4 : Nat → Nat) (gv5 : Nat → Nat) (gv8 : Nat → Nat) (gv9 : Nat → Nat) (gv10 : Nat → Int) (gv11 : Nat → Int) (i12 : Int) : Option ρ :=
  (if (decide (i12 < (av0 : Int))) = true then (if (0 : Int) ≤ i12 ∧ i12 < (av0 : Int) then (if (0 : Int) ≤ i12 ∧ i12 < (bv1 : Int) then (laws_eqInt64S N (fun rv13 => (if (!rv13) = true then (K0 false) else (rec ((IntKind.i64.wrap (i12 + 1)))))) (gv5 (0 + (i12.toNat * 1))) (gv9 (0 + (i12.toNat * 1))) ((gv5 (0 + (i12.toNat * 1))) * 1) (fun z => (gv10 ((gv4 (0 + (i12.toNat * 1))) + z))) ((gv9 (0 + (i12.toNat * 1))) * 1) (fun z => (gv11 ((gv8 (0 + (i12.toNat * 1))) + z)))) else none) else none) else out0)

noncomputable def laws_eqInt64SS.a0_0 {ρ : Type} (N : Nat) (K0 : Bool → Option ρ) : Option ρ :=
  (K0 true)

noncomputable def laws_eqInt64SS.l0 {ρ : Type} (N : Nat) (K0 : Bool → Option ρ) (av0 : Nat) (bv1 : Nat) (gv4 : Nat → Nat) (gv5 : Nat → Nat) (gv8 : Nat → Nat) (gv9 : Nat → Nat) (gv10 : Nat → Int) (gv11 : Nat → Int) (out0 : Option ρ) : Nat → Int → Option ρ
  | 0, _ => none
  | m + 1, i12 => (laws_eqInt64SS.b0 N K0 ((laws_eqInt64SS.l0 N K0 av0 bv1 gv4 gv5 gv8 gv9 gv10 gv11 out0 m)) out0 av0 bv1 gv4 gv5 gv8 gv9 gv10 gv11 i12)

noncomputable def laws_eqInt64SS.s {ρ : Type} (N : Nat) (K0 : Bool → Option ρ) (lp0 : Int → Option ρ) (av0 : Nat) (bv1 : Nat) : Option ρ :=
  (if ((av0 : Int) != (bv1 : Int)) = true then (K0 false) else (lp0 0))

noncomputable def laws_eqInt64SS {ρ : Type} (N : Nat) (K0 : Bool → Option ρ) (av0 : Nat) (bv1 : Nat) (gv2 : Nat) (gv3 : Nat) (gv4 : Nat → Nat) (gv5 : Nat → Nat) (gv6 : Nat) (gv7 : Nat) (gv8 : Nat → Nat) (gv9 : Nat → Nat) (gv10 : Nat → Int) (gv11 : Nat → Int) : Option ρ :=
  (laws_eqInt64SS.s N K0 (fun i12 => (laws_eqInt64SS.l0 N K0 av0 bv1 gv4 gv5 gv8 gv9 gv10 gv11 (laws_eqInt64SS.a0_0 N K0) N i12)) av0 bv1)

noncomputable def laws_markInt64S.b0 {ρ : Type} (N : Nat) (K0 : Int → (Nat → Int) → Option ρ) (rec : Int → Int → (Nat → Int) → Option ρ) (out0 : Int → (Nat → Int) → Option ρ) (av0 : Nat) (k4 : Int) (i5 : Int) (gv6 : Nat → Int) : Option ρ :=
  (if (decide (i5 < (av0 : Int))) = true then (if (0 : Int) ≤ i5 ∧ i5 < (av0 : Int) then (rec ((IntKind.i64.wrap (k4 + 1))) ((IntKind.i64.wrap (i5 + 1))) (upd gv6 (0 + (i5.toNat * 1)) k4)) else none) else (out0 k4 gv6))

noncomputable def laws_markInt64S.a0_0 {ρ : Type} (N : Nat) (K0 : Int → (Nat → Int) → Option ρ) (ov7 : Int) (ov8 : Nat → Int) : Option ρ :=
  (K0 ov7 ov8)

noncomputable def laws_markInt64S.l0 {ρ : Type} (N : Nat) (K0 : Int → (Nat → Int) → Option ρ) (av0 : Nat) (out0 : Int → (Nat → Int) → Option ρ) : Nat → Int → Int → (Nat → Int) → Option ρ
  | 0, _, _, _ => none
  | m + 1, k4, i5, gv6 => (laws_markInt64S.b0 N K0 ((laws_markInt64S.l0 N K0 av0 out0 m)) out0 av0 k4 i5 gv6)

noncomputable def laws_markInt64S.s {ρ : Type} (N : Nat) (K0 : Int → (Nat → Int) → Option ρ) (lp0 : Int → Int → (Nat → Int) → Option ρ) (k1 : Int) (gv3 : Nat → Int) : Option ρ :=
  (lp0 k1 0 gv3)

noncomputable def laws_markInt64S {ρ : Type} (N : Nat) (K0 : Int → (Nat → Int) → Option ρ) (av0 : Nat) (k1 : Int) (gv2 : Nat) (gv3 : Nat → Int) : Option ρ :=
  (laws_markInt64S.s N K0 (fun k4 i5 gv6 => (laws_markInt64S.l0 N K0 av0 (fun ov7 ov8 => (laws_markInt64S.a0_0 N K0 ov7 ov8)) N k4 i5 gv6)) k1 gv3)

noncomputable def laws_markInt64SS.b0 {ρ : Type} (N : Nat) (K0 : Int → (Nat → Int) → Option ρ) (rec : Int → Int → (Nat → Int) → Option ρ) (out0 : Int → (Nat → Int) → Option ρ) (av0 : Nat) (gv4 : Nat → Nat) (gv5 : Nat → Nat) (k7 : Int) (i8 : Int) (gv9 : Nat → Int) : Option ρ :=
  (if (decide (i8 < (av0 : Int))) = true then (if (0 : Int) ≤ i8 ∧ i8 < (av0 : Int) then (laws_markInt64S N (fun rv10 rv11 => (rec rv10 ((IntKind.i64.wrap (i8 + 1))) (updN gv9 (gv4 (0 + (i8.toNat * 1))) ((gv5 (0 + (i8.toNat * 1))) * 1) rv11))) (gv5 (0 + (i8.toNat * 1))) k7 ((gv5 (0 + (i8.toNat * 1))) * 1) (fun z => (gv9 ((gv4 (0 + (i8.toNat * 1))) + z)))) else none) else (out0 k7 gv9))

noncomputable def laws_markInt64SS.a0_0 {ρ : Type} (N : Nat) (K0 : Int → (Nat → Int) → Option ρ) (ov12 : Int) (ov13 : Nat → Int) : Option ρ :=
  (K0 ov12 ov13)

noncomputable def laws_markInt64SS.l0 {ρ : Type} (N : Nat) (K0 : Int → (Nat → Int) → Option ρ) (av0 : Nat) (gv4 : Nat → Nat) (gv5 : Nat → Nat) (out0 : Int → (Nat → Int) → Option ρ) : Nat → Int → Int → (Nat → Int) → Option ρ
  | 0, _, _, _ => none
  | m + 1, k7, i8, gv9 => (laws_markInt64SS.b0 N K0 ((laws_markInt64SS.l0 N K0 av0 gv4 gv5 out0 m)) out0 av0 gv4 gv5 k7 i8 gv9)

noncomputable def laws_markInt64SS.s {ρ : Type} (N : Nat) (K0 : Int → (Nat → Int) → Option ρ) (lp0 : Int → Int → (Nat → Int) → Option ρ) (k1 : Int) (gv6 : Nat → Int) : Option ρ :=
  (lp0 k1 0 gv6)

noncomputable def laws_markInt64SS {ρ : Type} (N : Nat) (K0 : Int → (Nat → Int) → Option ρ) (av0 : Nat) (k1 : Int) (gv2 : Nat) (gv3 : Nat) (gv4 : Nat → Nat) (gv5 : Nat → Nat) (gv6 : Nat → Int) : Option ρ :=
  (laws_markInt64SS.s N K0 (fun k7 i8 gv9 => (laws_markInt64SS.l0 N K0 av0 gv4 gv5 (fun ov12 ov13 => (laws_markInt64SS.a0_0 N K0 ov12 ov13)) N k7 i8 gv9)) k1 gv6)

noncomputable def laws_heldInt64S.b0 {ρ : Type} (N : Nat) (K0 : Int → Option ρ) (rec : Int → Int → Option ρ) (out0 : Int → Option ρ) (av0 : Nat) (gv3 : Nat → Int) (k4 : Int) (i5 : Int) : Option ρ :=
  (if (decide (i5 < (av0 : Int))) = true then (if (0 : Int) ≤ i5 ∧ i5 < (av0 : Int) then (if ((gv3 (0 + (i5.toNat * 1))) != k4) = true then (K0 (-1)) else (rec ((IntKind.i64.wrap (k4 + 1))) ((IntKind.i64.wrap (i5 + 1))))) else none) else (out0 k4))

noncomputable def laws_heldInt64S.a0_0 {ρ : Type} (N : Nat) (K0 : Int → Option ρ) (ov6 : Int) : Option ρ :=
  (K0 ov6)

noncomputable def laws_heldInt64S.l0 {ρ : Type} (N : Nat) (K0 : Int → Option ρ) (av0 : Nat) (gv3 : Nat → Int) (out0 : Int → Option ρ) : Nat → Int → Int → Option ρ
  | 0, _, _ => none
  | m + 1, k4, i5 => (laws_heldInt64S.b0 N K0 ((laws_heldInt64S.l0 N K0 av0 gv3 out0 m)) out0 av0 gv3 k4 i5)

noncomputable def laws_heldInt64S.s {ρ : Type} (N : Nat) (K0 : Int → Option ρ) (lp0 : Int → Int → Option ρ) (k1 : Int) : Option ρ :=
  (lp0 k1 0)

noncomputable def laws_heldInt64S {ρ : Type} (N : Nat) (K0 : Int → Option ρ) (av0 : Nat) (k1 : Int) (gv2 : Nat) (gv3 : Nat → Int) : Option ρ :=
  (laws_heldInt64S.s N K0 (fun k4 i5 => (laws_heldInt64S.l0 N K0 av0 gv3 (fun ov6 => (laws_heldInt64S.a0_0 N K0 ov6)) N k4 i5)) k1)

noncomputable def laws_heldInt64SS.b0 {ρ : Type} (N : Nat) (K0 : Int → Option ρ) (rec : Int → Int → Option ρ) (out0 : Int → Option ρ) (av0 : Nat) (gv4 : Nat → Nat) (gv5 : Nat → Nat) (gv6 : Nat → Int) (k7 : Int) (i8 : Int) : Option ρ :=
  (if (decide (i8 < (av0 : Int))) = true then (if (0 : Int) ≤ i8 ∧ i8 < (av0 : Int) then (laws_heldInt64S N (fun rv9 => (if (decide (rv9 < 0)) = true then (K0 (-1)) else (rec rv9 ((IntKind.i64.wrap (i8 + 1)))))) (gv5 (0 + (i8.toNat * 1))) k7 ((gv5 (0 + (i8.toNat * 1))) * 1) (fun z => (gv6 ((gv4 (0 + (i8.toNat * 1))) + z)))) else none) else (out0 k7))

noncomputable def laws_heldInt64SS.a0_0 {ρ : Type} (N : Nat) (K0 : Int → Option ρ) (ov10 : Int) : Option ρ :=
  (K0 ov10)

noncomputable def laws_heldInt64SS.l0 {ρ : Type} (N : Nat) (K0 : Int → Option ρ) (av0 : Nat) (gv4 : Nat → Nat) (gv5 : Nat → Nat) (gv6 : Nat → Int) (out0 : Int → Option ρ) : Nat → Int → Int → Option ρ
  | 0, _, _ => none
  | m + 1, k7, i8 => (laws_heldInt64SS.b0 N K0 ((laws_heldInt64SS.l0 N K0 av0 gv4 gv5 gv6 out0 m)) out0 av0 gv4 gv5 gv6 k7 i8)

noncomputable def laws_heldInt64SS.s {ρ : Type} (N : Nat) (K0 : Int → Option ρ) (lp0 : Int → Int → Option ρ) (k1 : Int) : Option ρ :=
  (lp0 k1 0)

noncomputable def laws_heldInt64SS {ρ : Type} (N : Nat) (K0 : Int → Option ρ) (av0 : Nat) (k1 : Int) (gv2 : Nat) (gv3 : Nat) (gv4 : Nat → Nat) (gv5 : Nat → Nat) (gv6 : Nat → Int) : Option ρ :=
  (laws_heldInt64SS.s N K0 (fun k7 i8 => (laws_heldInt64SS.l0 N K0 av0 gv4 gv5 gv6 (fun ov10 => (laws_heldInt64SS.a0_0 N K0 ov10)) N k7 i8)) k1)

noncomputable def laws_FnExactCyclicTable {ρ : Type} (N : Nat) (K0 : Bool → Option ρ) (aN0 : Int) : Option ρ :=
  (spec_CyclicTable N (fun rv1 rv2 rv3 rv4 rv5 rv6 => (impl_CyclicTable N (fun rv7 rv8 rv9 rv10 rv11 rv12 => (laws_eqInt64SS N (fun rv13 => (if (!rv13) = true then (K0 false) else (if (rv8 != rv2) = true then (K0 false) else (laws_markInt64SS N (fun rv14 rv15 => (laws_heldInt64SS N (fun rv16 => (if (decide (rv16 < 0)) = true then (K0 false) else (if (rv16 != rv14) = true then (K0 false) else (impl_CyclicTable N (fun rv17 rv18 rv19 rv20 rv21 rv22 => (laws_eqInt64SS N (fun rv23 => (if (!rv23) = true then (K0 false) else (if (rv18 != rv2) = true then (K0 false) else (laws_heldInt64SS N (fun rv24 => (if (decide (rv24 < 0)) = true then (K0 false) else (if (rv24 != rv14) = true then (K0 false) else (K0 true)))) rv7 101 (rv7 * 1) rv9 (offN 0 rv10) (offN 0 rv11) rv15)))) rv17 rv1 (rv17 * 1) rv19 (offN 0 rv20) (offN 0 rv21) (rv1 * 1) rv3 (offN 0 rv4) (offN 0 rv5) rv22 rv6)) aN0)))) rv7 101 (rv7 * 1) rv9 (offN 0 rv10) (offN 0 rv11) rv15)) rv7 101 (rv7 * 1) rv9 (offN 0 rv10) (offN 0 rv11) rv12)))) rv7 rv1 (rv7 * 1) rv9 (offN 0 rv10) (offN 0 rv11) (rv1 * 1) rv3 (offN 0 rv4) (offN 0 rv5) rv12 rv6)) aN0)) aN0)

noncomputable def spec_l04Dihedral.b1 {ρ : Type} (N : Nat) (K0 : Nat → Nat → (Nat → Nat) → (Nat → Nat) → (Nat → Int) → Option ρ) (rec : Nat → Int → (Nat → Int) → Option ρ) (out0 : Nat → (Nat → Int) → Option ρ) (nv0 : Int) (i2 : Int) (row7 : Nat) (j8 : Int) (gv9 : Nat → Int) : Option ρ :=
  (if (decide (j8 < (IntKind.i64.wrap (2 * nv0)))) = true then (if nv0 = 0 then none else (if (decide (i2 ≥ nv0)) = true then (if nv0 = 0 then none else (if nv0 = 0 then none else (if nv0 = 0 then none else (if (row7 + 1) * 8 ≤ 140737488355328 then (rec (row7 + 1) ((IntKind.i64.wrap (j8 + 1))) (joinN (row7 * 1) gv9 (upd (fun _ => 0) 0 (IntKind.i64.wrap ((Int.tmod (IntKind.i64.wrap (i2 + (IntKind.i64.wrap (nv0 - (Int.tmod j8 nv0))))) nv0) + (IntKind.i64.wrap (nv0 * (Int.tmod (IntKind.i64.wrap ((IntKind.i64.wrap (Int.tdiv i2 nv0)) + (IntKind.i64.wrap (Int.tdiv j8 nv0)))) 2)))))))) else none)))) else (if nv0 = 0 then none else (if nv0 = 0 then none else (if nv0 = 0 then none else (if (row7 + 1) * 8 ≤ 140737488355328 then (rec (row7 + 1) ((IntKind.i64.wrap (j8 + 1))) (joinN (row7 * 1) gv9 (upd (fun _ => 0) 0 (IntKind.i64.wrap ((Int.tmod (IntKind.i64.wrap (i2 + (Int.tmod j8 nv0))) nv0) + (IntKind.i64.wrap (nv0 * (Int.tmod (IntKind.i64.wrap ((IntKind.i64.wrap (Int.tdiv i2 nv0)) + (IntKind.i64.wrap (Int.tdiv j8 nv0)))) 2)))))))) else none)))))) else (out0 row7 gv9))

noncomputable def spec_l04Dihedral.a1_0 {ρ : Type} (N : Nat) (K0 : Nat → Nat → (Nat → Nat) → (Nat → Nat) → (Nat → Int) → Option ρ) (rec : Nat → Int → Nat → (Nat → Nat) → (Nat → Nat) → (Nat → Int) → Option ρ) (out0 : Nat → Nat → (Nat → Nat) → (Nat → Nat) → (Nat → Int) → Option ρ) (outv1 : Nat) (i2 : Int) (gv3 : Nat) (gv4 : Nat → Nat) (gv5 : Nat → Nat) (gv6 : Nat → Int) (ov10 : Nat) (ov11 : Nat → Int) : Option ρ :=
  (if (outv1 + 1) * 24 ≤ 140737488355328 then (rec (outv1 + 1) ((IntKind.i64.wrap (i2 + 1))) (gv3 + ov10) (upd gv4 outv1 gv3) (upd gv5 outv1 ov10) (joinN gv3 gv6 ov11)) else none)

noncomputable def spec_l04Dihedral.b0 {ρ : Type} (N : Nat) (K0 : Nat → Nat → (Nat → Nat) → (Nat → Nat) → (Nat → Int) → Option ρ) (lp1 : Nat → Int → (Nat → Int) → Option ρ) (rec : Nat → Int → Nat → (Nat → Nat) → (Nat → Nat) → (Nat → Int) → Option ρ) (out0 : Nat → Nat → (Nat → Nat) → (Nat → Nat) → (Nat → Int) → Option ρ) (nv0 : Int) (outv1 : Nat) (i2 : Int) (gv3 : Nat) (gv4 : Nat → Nat) (gv5 : Nat → Nat) (gv6 : Nat → Int) : Option ρ :=
  (if (decide (i2 < (IntKind.i64.wrap (2 * nv0)))) = true then (lp1 0 0 (fun _ => 0)) else (out0 outv1 gv3 gv4 gv5 gv6))

noncomputable def spec_l04Dihedral.a0_0 {ρ : Type} (N : Nat) (K0 : Nat → Nat → (Nat → Nat) → (Nat → Nat) → (Nat → Int) → Option ρ) (ov12 : Nat) (ov13 : Nat) (ov14 : Nat → Nat) (ov15 : Nat → Nat) (ov16 : Nat → Int) : Option ρ :=
  (K0 ov12 ov13 ov14 ov15 ov16)

noncomputable def spec_l04Dihedral.l1 {ρ : Type} (N : Nat) (K0 : Nat → Nat → (Nat → Nat) → (Nat → Nat) → (Nat → Int) → Option ρ) (nv0 : Int) (i2 : Int) (out0 : Nat → (Nat → Int) → Option ρ) : Nat → Nat → Int → (Nat → Int) → Option ρ
  | 0, _, _, _ => none
  | m + 1, row7, j8, gv9 => (spec_l04Dihedral.b1 N K0 ((spec_l04Dihedral.l1 N K0 nv0 i2 out0 m)) out0 nv0 i2 row7 j8 gv9)

noncomputable def spec_l04Dihedral.l0 {ρ : Type} (N : Nat) (K0 : Nat → Nat → (Nat → Nat) → (Nat → Nat) → (Nat → Int) → Option ρ) (nv0 : Int) (out0 : Nat → Nat → (Nat → Nat) → (Nat → Nat) → (Nat → Int) → Option ρ) : Nat → Nat → Int → Nat → (Nat → Nat) → (Nat → Nat) → (Nat → Int) → Option ρ
  | 0, _, _, _, _, _, _ => none
  | m + 1, outv1, i2, gv3, gv4, gv5, gv6 => (spec_l04Dihedral.b0 N K0 (fun row7 j8 gv9 => (spec_l04Dihedral.l1 N K0 nv0 i2 (fun ov10 ov11 => (spec_l04Dihedral.a1_0 N K0 (spec_l04Dihedral.l0 N K0 nv0 out0 m) out0 outv1 i2 gv3 gv4 gv5 gv6 ov10 ov11)) N row7 j8 gv9)) ((spec_l04Dihedral.l0 N K0 nv0 out0 m)) out0 nv0 outv1 i2 gv3 gv4 gv5 gv6)

noncomputable def spec_l04Dihedral.s {ρ : Type} (N : Nat) (K0 : Nat → Nat → (Nat → Nat) → (Nat → Nat) → (Nat → Int) → Option ρ) (lp0 : Nat → Int → Nat → (Nat → Nat) → (Nat → Nat) → (Nat → Int) → Option ρ) : Option ρ :=
  (lp0 0 0 0 (fun _ => 0) (fun _ => 0) (fun _ => 0))

noncomputable def spec_l04Dihedral {ρ : Type} (N : Nat) (K0 : Nat → Nat → (Nat → Nat) → (Nat → Nat) → (Nat → Int) → Option ρ) (nv0 : Int) : Option ρ :=
  (spec_l04Dihedral.s N K0 (fun outv1 i2 gv3 gv4 gv5 gv6 => (spec_l04Dihedral.l0 N K0 nv0 (fun ov12 ov13 ov14 ov15 ov16 => (spec_l04Dihedral.a0_0 N K0 ov12 ov13 ov14 ov15 ov16)) N outv1 i2 gv3 gv4 gv5 gv6)))

noncomputable def spec_DihedralTable {ρ : Type} (N : Nat) (K0 : Nat → Int → Nat → (Nat → Nat) → (Nat → Nat) → (Nat → Int) → Option ρ) (nv0 : Int) : Option ρ :=
  (if (nv0 != 3) = true then (if (nv0 != 4) = true then (K0 0 2 0 (fun _ => 0) (fun _ => 0) (fun _ => 0)) else (spec_l04Dihedral N (fun rv1 rv2 rv3 rv4 rv5 => (K0 rv1 0 rv2 rv3 rv4 rv5)) nv0)) else (spec_l04Dihedral N (fun rv6 rv7 rv8 rv9 rv10 => (K0 rv6 0 rv7 rv8 rv9 rv10)) nv0))

noncomputable def impl_dihedral_c1 {ρ : Type} (N : Nat) (K0 : Int → Option ρ) (i0 : Int) (j1 : Int) (gv2 : Nat → Int) : Option ρ :=
  (if (gv2 0) = 0 then none else (if (gv2 0) = 0 then none else (if (gv2 0) = 0 then none else (if (gv2 0) = 0 then none else (if ((IntKind.i64.wrap (Int.tdiv i0 (gv2 0))) == 1) = true then (if (gv2 0) = 0 then none else (K0 ((IntKind.i64.wrap ((Int.tmod (IntKind.i64.wrap ((Int.tmod i0 (gv2 0)) + (IntKind.i64.wrap ((gv2 0) - (Int.tmod j1 (gv2 0)))))) (gv2 0)) + (IntKind.i64.wrap ((gv2 0) * (Int.tmod (IntKind.i64.wrap ((IntKind.i64.wrap (Int.tdiv i0 (gv2 0))) + (IntKind.i64.wrap (Int.tdiv j1 (gv2 0))))) 2)))))))) else (if (gv2 0) = 0 then none else (K0 ((IntKind.i64.wrap ((Int.tmod (IntKind.i64.wrap ((Int.tmod i0 (gv2 0)) + (Int.tmod j1 (gv2 0)))) (gv2 0)) + (IntKind.i64.wrap ((gv2 0) * (Int.tmod (IntKind.i64.wrap ((IntKind.i64.wrap (Int.tdiv i0 (gv2 0))) + (IntKind.i64.wrap (Int.tdiv j1 (gv2 0))))) 2)))))))))))))

noncomputable def impl_tableOf_v2.b1 {ρ : Type} (N : Nat) (K0 : Nat → Nat → (Nat → Nat) → (Nat → Nat) → (Nat → Int) → Option ρ) (rec : Nat → Int → (Nat → Int) → Option ρ) (out0 : Nat → (Nat → Int) → Option ρ) (nv0 : Int) (gv1 : Nat → Int) (x3 : Int) (row8 : Nat) (x9 : Int) (gv10 : Nat → Int) : Option ρ :=
  (if (decide (x9 < nv0)) = true then (impl_dihedral_c1 N (fun rv11 => (if (row8 + 1) * 8 ≤ 140737488355328 then (rec (row8 + 1) ((IntKind.i64.wrap (x9 + 1))) (joinN (row8 * 1) gv10 (upd (fun _ => 0) 0 rv11))) else none)) x3 x9 gv1) else (out0 row8 gv10))

noncomputable def impl_tableOf_v2.a1_0 {ρ : Type} (N : Nat) (K0 : Nat → Nat → (Nat → Nat) → (Nat → Nat) → (Nat → Int) → Option ρ) (rec : Nat → Int → Nat → (Nat → Nat) → (Nat → Nat) → (Nat → Int) → Option ρ) (out0 : Nat → Nat → (Nat → Nat) → (Nat → Nat) → (Nat → Int) → Option ρ) (outv2 : Nat) (x3 : Int) (gv4 : Nat) (gv5 : Nat → Nat) (gv6 : Nat → Nat) (gv7 : Nat → Int) (ov12 : Nat) (ov13 : Nat → Int) : Option ρ :=
  (if (outv2 + 1) * 24 ≤ 140737488355328 then (rec (outv2 + 1) ((IntKind.i64.wrap (x3 + 1))) (gv4 + ov12) (upd gv5 outv2 gv4) (upd gv6 outv2 ov12) (joinN gv4 gv7 ov13)) else none)

noncomputable def impl_tableOf_v2.b0 {ρ : Type} (N : Nat) (K0 : Nat → Nat → (Nat → Nat) → (Nat → Nat) → (Nat → Int) → Option ρ) (lp1 : Nat → Int → (Nat → Int) → Option ρ) (rec : Nat → Int → Nat → (Nat → Nat) → (Nat → Nat) → (Nat → Int) → Option ρ) (out0 : Nat → Nat → (Nat → Nat) → (Nat → Nat) → (Nat → Int) → Option ρ) (nv0 : Int) (outv2 : Nat) (x3 : Int) (gv4 : Nat) (gv5 : Nat → Nat) (gv6 : Nat → Nat) (gv7 : Nat → Int) : Option ρ :=
  (if (decide (x3 < nv0)) = true then (lp1 0 0 (fun _ => 0)) else (out0 outv2 gv4 gv5 gv6 gv7))

noncomputable def impl_tableOf_v2.a0_0 {ρ : Type} (N : Nat) (K0 : Nat → Nat → (Nat → Nat) → (Nat → Nat) → (Nat → Int) → Option ρ) (ov14 : Nat) (ov15 : Nat) (ov16 : Nat → Nat) (ov17 : Nat → Nat) (ov18 : Nat → Int) : Option ρ :=
  (K0 ov14 ov15 ov16 ov17 ov18)

noncomputable def impl_tableOf_v2.l1 {ρ : Type} (N : Nat) (K0 : Nat → Nat → (Nat → Nat) → (Nat → Nat) → (Nat → Int) → Option ρ) (nv0 : Int) (gv1 : Nat → Int) (x3 : Int) (out0 : Nat → (Nat → Int) → Option ρ) : Nat → Nat → Int → (Nat → Int) → Option ρ
  | 0, _, _, _ => none
  | m + 1, row8, x9, gv10 => (impl_tableOf_v2.b1 N K0 ((impl_tableOf_v2.l1 N K0 nv0 gv1 x3 out0 m)) out0 nv0 gv1 x3 row8 x9 gv10)

noncomputable def impl_tableOf_v2.l0 {ρ : Type} (N : Nat) (K0 : Nat → Nat → (Nat → Nat) → (Nat → Nat) → (Nat → Int) → Option ρ) (nv0 : Int) (gv1 : Nat → Int) (out0 : Nat → Nat → (Nat → Nat) → (Nat → Nat) → (Nat → Int) → Option ρ) : Nat → Nat → Int → Nat → (Nat → Nat) → (Nat → Nat) → (Nat → Int) → Option ρ
  | 0, _, _, _, _, _, _ => none
  | m + 1, outv2, x3, gv4, gv5, gv6, gv7 => (impl_tableOf_v2.b0 N K0 (fun row8 x9 gv10 => (impl_tableOf_v2.l1 N K0 nv0 gv1 x3 (fun ov12 ov13 => (impl_tableOf_v2.a1_0 N K0 (impl_tableOf_v2.l0 N K0 nv0 gv1 out0 m) out0 outv2 x3 gv4 gv5 gv6 gv7 ov12 ov13)) N row8 x9 gv10)) ((impl_tableOf_v2.l0 N K0 nv0 gv1 out0 m)) out0 nv0 outv2 x3 gv4 gv5 gv6 gv7)

noncomputable def impl_tableOf_v2.s {ρ : Type} (N : Nat) (K0 : Nat → Nat → (Nat → Nat) → (Nat → Nat) → (Nat → Int) → Option ρ) (lp0 : Nat → Int → Nat → (Nat → Nat) → (Nat → Nat) → (Nat → Int) → Option ρ) : Option ρ :=
  (lp0 0 0 0 (fun _ => 0) (fun _ => 0) (fun _ => 0))

noncomputable def impl_tableOf_v2 {ρ : Type} (N : Nat) (K0 : Nat → Nat → (Nat → Nat) → (Nat → Nat) → (Nat → Int) → Option ρ) (nv0 : Int) (gv1 : Nat → Int) : Option ρ :=
  (impl_tableOf_v2.s N K0 (fun outv2 x3 gv4 gv5 gv6 gv7 => (impl_tableOf_v2.l0 N K0 nv0 gv1 (fun ov14 ov15 ov16 ov17 ov18 => (impl_tableOf_v2.a0_0 N K0 ov14 ov15 ov16 ov17 ov18)) N outv2 x3 gv4 gv5 gv6 gv7)))

noncomputable def impl_dihedral {ρ : Type} (N : Nat) (K0 : Nat → Nat → (Nat → Nat) → (Nat → Nat) → (Nat → Int) → Option ρ) (nv0 : Int) : Option ρ :=
  (impl_tableOf_v2 N (fun rv1 rv2 rv3 rv4 rv5 => (K0 rv1 rv2 rv3 rv4 rv5)) ((IntKind.i64.wrap (2 * nv0))) (fun _ => nv0))

noncomputable def impl_DihedralTable {ρ : Type} (N : Nat) (K0 : Nat → Int → Nat → (Nat → Nat) → (Nat → Nat) → (Nat → Int) → Option ρ) (nv0 : Int) : Option ρ :=
  (if (nv0 != 3) = true then (if (nv0 != 4) = true then (K0 0 2 0 (fun _ => 0) (fun _ => 0) (fun _ => 0)) else (impl_dihedral N (fun rv1 rv2 rv3 rv4 rv5 => (K0 rv1 0 rv2 rv3 rv4 rv5)) nv0)) else (impl_dihedral N (fun rv6 rv7 rv8 rv9 rv10 => (K0 rv6 0 rv7 rv8 rv9 rv10)) nv0))

noncomputable def laws_FnExactDihedralTable {ρ : Type} (N : Nat) (K0 : Bool → Option ρ) (aN0 : Int) : Option ρ :=
  (spec_DihedralTable N (fun rv1 rv2 rv3 rv4 rv5 rv6 => (impl_DihedralTable N (fun rv7 rv8 rv9 rv10 rv11 rv12 => (laws_eqInt64SS N (fun rv13 => (if (!rv13) = true then (K0 false) else (if (rv8 != rv2) = true then (K0 false) else (laws_markInt64SS N (fun rv14 rv15 => (laws_heldInt64SS N (fun rv16 => (if (decide (rv16 < 0)) = true then (K0 false) else (if (rv16 != rv14) = true then (K0 false) else (impl_DihedralTable N (fun rv17 rv18 rv19 rv20 rv21 rv22 => (laws_eqInt64SS N (fun rv23 => (if (!rv23) = true then (K0 false) else (if (rv18 != rv2) = true then (K0 false) else (laws_heldInt64SS N (fun rv24 => (if (decide (rv24 < 0)) = true then (K0 false) else (if (rv24 != rv14) = true then (K0 false) else (K0 true)))) rv7 101 (rv7 * 1) rv9 (offN 0 rv10) (offN 0 rv11) rv15)))) rv17 rv1 (rv17 * 1) rv19 (offN 0 rv20) (offN 0 rv21) (rv1 * 1) rv3 (offN 0 rv4) (offN 0 rv5) rv22 rv6)) aN0)))) rv7 101 (rv7 * 1) rv9 (offN 0 rv10) (offN 0 rv11) rv15)) rv7 101 (rv7 * 1) rv9 (offN 0 rv10) (offN 0 rv11) rv12)))) rv7 rv1 (rv7 * 1) rv9 (offN 0 rv10) (offN 0 rv11) (rv1 * 1) rv3 (offN 0 rv4) (offN 0 rv5) rv12 rv6)) aN0)) aN0)

noncomputable def spec_l04Quaternion.b1 {ρ : Type} (N : Nat) (K0 : Nat → Nat → (Nat → Nat) → (Nat → Nat) → (Nat → Int) → Option ρ) (rec : Nat → Int → (Nat → Int) → Option ρ) (out0 : Nat → (Nat → Int) → Option ρ) (i1 : Int) (row6 : Nat) (j7 : Int) (gv8 : Nat → Int) : Option ρ :=
  (if (decide (j7 < 8)) = true then (if (decide ((Int.tmod i1 4) > 0)) = true then (if ((Int.tmod i1 4) == (Int.tmod j7 4)) = true then (if (row6 + 1) * 8 ≤ 140737488355328 then (rec (row6 + 1) ((IntKind.i64.wrap (j7 + 1))) (joinN (row6 * 1) gv8 (upd (fun _ => 0) 0 (IntKind.i64.wrap ((IntKind.i64.wrap (((BitVec.ofInt (IntKind.i64).bits (Int.tmod i1 4) ^^^ BitVec.ofInt (IntKind.i64).bits (Int.tmod j7 4))).toNat : Int)) + (IntKind.i64.wrap (4 * (Int.tmod (IntKind.i64.wrap ((IntKind.i64.wrap ((IntKind.i64.wrap (Int.tdiv i1 4)) + (IntKind.i64.wrap (Int.tdiv j7 4)))) + 1)) 2)))))))) else none) else (if (decide ((Int.tmod i1 4) > 0)) = true then (if (decide ((Int.tmod j7 4) > 0)) = true then (if ((Int.tmod (IntKind.i64.wrap ((IntKind.i64.wrap ((Int.tmod j7 4) - (Int.tmod i1 4))) + 3)) 3) == 2) = true then (if (row6 + 1) * 8 ≤ 140737488355328 then (rec (row6 + 1) ((IntKind.i64.wrap (j7 + 1))) (joinN (row6 * 1) gv8 (upd (fun _ => 0) 0 (IntKind.i64.wrap ((IntKind.i64.wrap (((BitVec.ofInt (IntKind.i64).bits (Int.tmod i1 4) ^^^ BitVec.ofInt (IntKind.i64).bits (Int.tmod j7 4))).toNat : Int)) + (IntKind.i64.wrap (4 * (Int.tmod (IntKind.i64.wrap ((IntKind.i64.wrap ((IntKind.i64.wrap (Int.tdiv i1 4)) + (IntKind.i64.wrap (Int.tdiv j7 4)))) + 1)) 2)))))))) else none) else (if (row6 + 1) * 8 ≤ 140737488355328 then (rec (row6 + 1) ((IntKind.i64.wrap (j7 + 1))) (joinN (row6 * 1) gv8 (upd (fun _ => 0) 0 (IntKind.i64.wrap ((IntKind.i64.wrap (((BitVec.ofInt (IntKind.i64).bits (Int.tmod i1 4) ^^^ BitVec.ofInt (IntKind.i64).bits (Int.tmod j7 4))).toNat : Int)) + (IntKind.i64.wrap (4 * (Int.tmod (IntKind.i64.wrap ((IntKind.i64.wrap (Int.tdiv i1 4)) + (IntKind.i64.wrap (Int.tdiv j7 4)))) 2)))))))) else none)) else (if (row6 + 1) * 8 ≤ 140737488355328 then (rec (row6 + 1) ((IntKind.i64.wrap (j7 + 1))) (joinN (row6 * 1) gv8 (upd (fun _ => 0) 0 (IntKind.i64.wrap ((IntKind.i64.wrap (((BitVec.ofInt (IntKind.i64).bits (Int.tmod i1 4) ^^^ BitVec.ofInt (IntKind.i64).bits (Int.tmod j7 4))).toNat : Int)) + (IntKind.i64.wrap (4 * (Int.tmod (IntKind.i64.wrap ((IntKind.i64.wrap (Int.tdiv i1 4)) + (IntKind.i64.wrap (Int.tdiv j7 4)))) 2)))))))) else none)) else (if (row6 + 1) * 8 ≤ 140737488355328 then (rec (row6 + 1) ((IntKind.i64.wrap (j7 + 1))) (joinN (row6 * 1) gv8 (upd (fun _ => 0) 0 (IntKind.i64.wrap ((IntKind.i64.wrap (((BitVec.ofInt (IntKind.i64).bits (Int.tmod i1 4) ^^^ BitVec.ofInt (IntKind.i64).bits (Int.tmod j7 4))).toNat : Int)) + (IntKind.i64.wrap (4 * (Int.tmod (IntKind.i64.wrap ((IntKind.i64.wrap (Int.tdiv i1 4)) + (IntKind.i64.wrap (Int.tdiv j7 4)))) 2)))))))) else none))) else (if (decide ((Int.tmod i1 4) > 0)) = true then (if (decide ((Int.tmod j7 4) > 0)) = true then (if ((Int.tmod (IntKind.i64.wrap ((IntKind.i64.wrap ((Int.tmod j7 4) - (Int.tmod i1 4))) + 3)) 3) == 2) = true then (if (row6 + 1) * 8 ≤ 140737488355328 then (rec (row6 + 1) ((IntKind.i64.wrap (j7 + 1))) (joinN (row6 * 1) gv8 (upd (fun _ => 0) 0 (IntKind.i64.wrap ((IntKind.i64.wrap (((BitVec.ofInt (IntKind.i64).bits (Int.tmod i1 4) ^^^ BitVec.ofInt (IntKind.i64).bits (Int.tmod j7 4))).toNat : Int)) + (IntKind.i64.wrap (4 * (Int.tmod (IntKind.i64.wrap ((IntKind.i64.wrap ((IntKind.i64.wrap (Int.tdiv i1 4)) + (IntKind.i64.wrap (Int.tdiv j7 4)))) + 1)) 2)))))))) else none) else (if (row6 + 1) * 8 ≤ 140737488355328 then (rec (row6 + 1) ((IntKind.i64.wrap (j7 + 1))) (joinN (row6 * 1) gv8 (upd (fun _ => 0) 0 (IntKind.i64.wrap ((IntKind.i64.wrap (((BitVec.ofInt (IntKind.i64).bits (Int.tmod i1 4) ^^^ BitVec.ofInt (IntKind.i64).bits (Int.tmod j7 4))).toNat : Int)) + (IntKind.i64.wrap (4 * (Int.tmod (IntKind.i64.wrap ((IntKind.i64.wrap (Int.tdiv i1 4)) + (IntKind.i64.wrap (Int.tdiv j7 4)))) 2)))))))) else none)) else (if (row6 + 1) * 8 ≤ 140737488355328 then (rec (row6 + 1) ((IntKind.i64.wrap (j7 + 1))) (joinN (row6 * 1) gv8 (upd (fun _ => 0) 0 (IntKind.i64.wrap ((IntKind.i64.wrap (((BitVec.ofInt (IntKind.i64).bits (Int.tmod i1 4) ^^^ BitVec.ofInt (IntKind.i64).bits (Int.tmod j7 4))).toNat : Int)) + (IntKind.i64.wrap (4 * (Int.tmod (IntKind.i64.wrap ((IntKind.i64.wrap (Int.tdiv i1 4)) + (IntKind.i64.wrap (Int.tdiv j7 4)))) 2)))))))) else none)) else (if (row6 + 1) * 8 ≤ 140737488355328 then (rec (row6 + 1) ((IntKind.i64.wrap (j7 + 1))) (joinN (row6 * 1) gv8 (upd (fun _ => 0) 0 (IntKind.i64.wrap ((IntKind.i64.wrap (((BitVec.ofInt (IntKind.i64).bits (Int.tmod i1 4) ^^^ BitVec.ofInt (IntKind.i64).bits (Int.tmod j7 4))).toNat : Int)) + (IntKind.i64.wrap (4 * (Int.tmod (IntKind.i64.wrap ((IntKind.i64.wrap (Int.tdiv i1 4)) + (IntKind.i64.wrap (Int.tdiv j7 4)))) 2)))))))) else none))) else (out0 row6 gv8))

noncomputable def spec_l04Quaternion.a1_0 {ρ : Type} (N : Nat) (K0 : Nat → Nat → (Nat → Nat) → (Nat → Nat) → (Nat → Int) → Option ρ) (rec : Nat → Int → Nat → (Nat → Nat) → (Nat → Nat) → (Nat → Int) → Option ρ) (out0 : Nat → Nat → (Nat → Nat) → (Nat → Nat) → (Nat → Int) → Option ρ) (outv0 : Nat) (i1 : Int) (gv2 : Nat) (gv3 : Nat → Nat) (gv4 : Nat → Nat) (gv5 : Nat → Int) (ov9 : Nat) (ov10 : Nat → Int) : Option ρ :=
  (if (outv0 + 1) * 24 ≤ 140737488355328 then (rec (outv0 + 1) ((IntKind.i64.wrap (i1 + 1))) (gv2 + ov9) (upd gv3 outv0 gv2) (upd gv4 outv0 ov9) (joinN gv2 gv5 ov10)) else none)

noncomputable def spec_l04Quaternion.b0 {ρ : Type} (N : Nat) (K0 : Nat → Nat → (Nat → Nat) → (Nat → Nat) → (Nat → Int) → Option ρ) (lp1 : Nat → Int → (Nat → Int) → Option ρ) (rec : Nat → Int → Nat → (Nat → Nat) → (Nat → Nat) → (Nat → Int) → Option ρ) (out0 : Nat → Nat → (Nat → Nat) → (Nat → Nat) → (Nat → Int) → Option ρ) (outv0 : Nat) (i1 : Int) (gv2 : Nat) (gv3 : Nat → Nat) (gv4 : Nat → Nat) (gv5 : Nat → Int) : Option ρ :=
  (if (decide (i1 < 8)) = true then (lp1 0 0 (fun _ => 0)) else (out0 outv0 gv2 gv3 gv4 gv5))

noncomputable def spec_l04Quaternion.a0_0 {ρ : Type} (N : Nat) (K0 : Nat → Nat → (Nat → Nat) → (Nat → Nat) → (Nat → Int) → Option ρ) (ov11 : Nat) (ov12 : Nat) (ov13 : Nat → Nat) (ov14 : Nat → Nat) (ov15 : Nat → Int) : Option ρ :=
  (K0 ov11 ov12 ov13 ov14 ov15)

noncomputable def spec_l04Quaternion.l1 {ρ : Type} (N : Nat) (K0 : Nat → Nat → (Nat → Nat) → (Nat → Nat) → (Nat → Int) → Option ρ) (i1 : Int) (out0 : Nat → (Nat → Int) → Option ρ) : Nat → Nat → Int → (Nat → Int) → Option ρ
  | 0, _, _, _ => none
  | m + 1, row6, j7, gv8 => (spec_l04Quaternion.b1 N K0 ((spec_l04Quaternion.l1 N K0 i1 out0 m)) out0 i1 row6 j7 gv8)

noncomputable def spec_l04Quaternion.l0 {ρ : Type} (N : Nat) (K0 : Nat → Nat → (Nat → Nat) → (Nat → Nat) → (Nat → Int) → Option ρ) (out0 : Nat → Nat → (Nat → Nat) → (Nat → Nat) → (Nat → Int) → Option ρ) : Nat → Nat → Int → Nat → (Nat → Nat) → (Nat → Nat) → (Nat → Int) → Option ρ
  | 0, _, _, _, _, _, _ => none
  | m + 1, outv0, i1, gv2, gv3, gv4, gv5 => (spec_l04Quaternion.b0 N K0 (fun row6 j7 gv8 => (spec_l04Quaternion.l1 N K0 i1 (fun ov9 ov10 => (spec_l04Quaternion.a1_0 N K0 (spec_l04Quaternion.l0 N K0 out0 m) out0 outv0 i1 gv2 gv3 gv4 gv5 ov9 ov10)) N row6 j7 gv8)) ((spec_l04Quaternion.l0 N K0 out0 m)) out0 outv0 i1 gv2 gv3 gv4 gv5)

noncomputable def spec_l04Quaternion.s {ρ : Type} (N : Nat) (K0 : Nat → Nat → (Nat → Nat) → (Nat → Nat) → (Nat → Int) → Option ρ) (lp0 : Nat → Int → Nat → (Nat → Nat) → (Nat → Nat) → (Nat → Int) → Option ρ) : Option ρ :=
  (lp0 0 0 0 (fun _ => 0) (fun _ => 0) (fun _ => 0))

noncomputable def spec_l04Quaternion {ρ : Type} (N : Nat) (K0 : Nat → Nat → (Nat → Nat) → (Nat → Nat) → (Nat → Int) → Option ρ) : Option ρ :=
  (spec_l04Quaternion.s N K0 (fun outv0 i1 gv2 gv3 gv4 gv5 => (spec_l04Quaternion.l0 N K0 (fun ov11 ov12 ov13 ov14 ov15 => (spec_l04Quaternion.a0_0 N K0 ov11 ov12 ov13 ov14 ov15)) N outv0 i1 gv2 gv3 gv4 gv5)))

noncomputable def spec_QuaternionTable {ρ : Type} (N : Nat) (K0 : Nat → Nat → (Nat → Nat) → (Nat → Nat) → (Nat → Int) → Option ρ) : Option ρ :=
  (spec_l04Quaternion N (fun rv0 rv1 rv2 rv3 rv4 => (K0 rv0 rv1 rv2 rv3 rv4)))

noncomputable def impl_units {ρ : Type} (N : Nat) (K0 : Int → Option ρ) (av0 : Int) (bv1 : Int) : Option ρ :=
  (if (av0 == 0) = true then (K0 ((IntKind.i64.wrap (av0 + bv1)))) else (if (bv1 == 0) = true then (K0 ((IntKind.i64.wrap (av0 + bv1)))) else (if (av0 == bv1) = true then (K0 4) else (if ((IntKind.i64.wrap ((Int.tmod av0 3) + 1)) == bv1) = true then (K0 ((IntKind.i64.wrap ((IntKind.i64.wrap (6 - av0)) - bv1)))) else (K0 ((IntKind.i64.wrap ((IntKind.i64.wrap ((IntKind.i64.wrap (6 - av0)) - bv1)) + 4))))))))

noncomputable def impl_QuaternionTable_c1 {ρ : Type} (N : Nat) (K0 : Int → Option ρ) (i0 : Int) (j1 : Int) : Option ρ :=
  (impl_units N (fun rv2 => (K0 ((IntKind.i64.wrap ((Int.tmod rv2 4) + (IntKind.i64.wrap (4 * (Int.tmod (IntKind.i64.wrap ((IntKind.i64.wrap ((IntKind.i64.wrap (Int.tdiv rv2 4)) + (IntKind.i64.wrap (Int.tdiv i0 4)))) + (IntKind.i64.wrap (Int.tdiv j1 4)))) 2)))))))) ((Int.tmod i0 4)) ((Int.tmod j1 4)))

noncomputable def impl_tableOf_v3.b1 {ρ : Type} (N : Nat) (K0 : Nat → Nat → (Nat → Nat) → (Nat → Nat) → (Nat → Int) → Option ρ) (rec : Nat → Int → (Nat → Int) → Option ρ) (out0 : Nat → (Nat → Int) → Option ρ) (nv0 : Int) (x2 : Int) (row7 : Nat) (x8 : Int) (gv9 : Nat → Int) : Option ρ :=
  (if (decide (x8 < nv0)) = true then (impl_QuaternionTable_c1 N (fun rv10 => (if (row7 + 1) * 8 ≤ 140737488355328 then (rec (row7 + 1) ((IntKind.i64.wrap (x8 + 1))) (joinN (row7 * 1) gv9 (upd (fun _ => 0) 0 rv10))) else none)) x2 x8) else (out0 row7 gv9))

noncomputable def impl_tableOf_v3.a1_0 {ρ : Type} (N : Nat) (K0 : Nat → Nat → (Nat → Nat) → (Nat → Nat) → (Nat → Int) → Option ρ) (rec : Nat → Int → Nat → (Nat → Nat) → (Nat → Nat) → (Nat → Int) → Option ρ) (out0 : Nat → Nat → (Nat → Nat) → (Nat → Nat) → (Nat → Int) → Option ρ) (outv1 : Nat) (x2 : Int) (gv3 : Nat) (gv4 : Nat → Nat) (gv5 : Nat → Nat) (gv6 : Nat → Int) (ov11 : Nat) (ov12 : Nat → Int) : Option ρ :=
  (if (outv1 + 1) * 24 ≤ 140737488355328 then (rec (outv1 + 1) ((IntKind.i64.wrap (x2 + 1))) (gv3 + ov11) (upd gv4 outv1 gv3) (upd gv5 outv1 ov11) (joinN gv3 gv6 ov12)) else none)

noncomputable def impl_tableOf_v3.b0 {ρ : Type} (N : Nat) (K0 : Nat → Nat → (Nat → Nat) → (Nat → Nat) → (Nat → Int) → Option ρ) (lp1 : Nat → Int → (Nat → Int) → Option ρ) (rec : Nat → Int → Nat → (Nat → Nat) → (Nat → Nat) → (Nat → Int) → Option ρ) (out0 : Nat → Nat → (Nat → Nat) → (Nat → Nat) → (Nat → Int) → Option ρ) (nv0 : Int) (outv1 : Nat) (x2 : Int) (gv3 : Nat) (gv4 : Nat → Nat) (gv5 : Nat → Nat) (gv6 : Nat → Int) : Option ρ :=
  (if (decide (x2 < nv0)) = true then (lp1 0 0 (fun _ => 0)) else (out0 outv1 gv3 gv4 gv5 gv6))

noncomputable def impl_tableOf_v3.a0_0 {ρ : Type} (N : Nat) (K0 : Nat → Nat → (Nat → Nat) → (Nat → Nat) → (Nat → Int) → Option ρ) (ov13 : Nat) (ov14 : Nat) (ov15 : Nat → Nat) (ov16 : Nat → Nat) (ov17 : Nat → Int) : Option ρ :=
  (K0 ov13 ov14 ov15 ov16 ov17)

noncomputable def impl_tableOf_v3.l1 {ρ : Type} (N : Nat) (K0 : Nat → Nat → (Nat → Nat) → (Nat → Nat) → (Nat → Int) → Option ρ) (nv0 : Int) (x2 : Int) (out0 : Nat → (Nat → Int) → Option ρ) : Nat → Nat → Int → (Nat → Int) → Option ρ
  | 0, _, _, _ => none
  | m + 1, row7, x8, gv9 => (impl_tableOf_v3.b1 N K0 ((impl_tableOf_v3.l1 N K0 nv0 x2 out0 m)) out0 nv0 x2 row7 x8 gv9)

noncomputable def impl_tableOf_v3.l0 {ρ : Type} (N : Nat) (K0 : Nat → Nat → (Nat → Nat) → (Nat → Nat) → (Nat → Int) → Option ρ) (nv0 : Int) (out0 : Nat → Nat → (Nat → Nat) → (Nat → Nat) → (Nat → Int) → Option ρ) : Nat → Nat → Int → Nat → (Nat → Nat) → (Nat → Nat) → (Nat → Int) → Option ρ
  | 0, _, _, _, _, _, _ => none
  | m + 1, outv1, x2, gv3, gv4, gv5, gv6 => (impl_tableOf_v3.b0 N K0 (fun row7 x8 gv9 => (impl_tableOf_v3.l1 N K0 nv0 x2 (fun ov11 ov12 => (impl_tableOf_v3.a1_0 N K0 (impl_tableOf_v3.l0 N K0 nv0 out0 m) out0 outv1 x2 gv3 gv4 gv5 gv6 ov11 ov12)) N row7 x8 gv9)) ((impl_tableOf_v3.l0 N K0 nv0 out0 m)) out0 nv0 outv1 x2 gv3 gv4 gv5 gv6)

noncomputable def impl_tableOf_v3.s {ρ : Type} (N : Nat) (K0 : Nat → Nat → (Nat → Nat) → (Nat → Nat) → (Nat → Int) → Option ρ) (lp0 : Nat → Int → Nat → (Nat → Nat) → (Nat → Nat) → (Nat → Int) → Option ρ) : Option ρ :=
  (lp0 0 0 0 (fun _ => 0) (fun _ => 0) (fun _ => 0))

noncomputable def impl_tableOf_v3 {ρ : Type} (N : Nat) (K0 : Nat → Nat → (Nat → Nat) → (Nat → Nat) → (Nat → Int) → Option ρ) (nv0 : Int) : Option ρ :=
  (impl_tableOf_v3.s N K0 (fun outv1 x2 gv3 gv4 gv5 gv6 => (impl_tableOf_v3.l0 N K0 nv0 (fun ov13 ov14 ov15 ov16 ov17 => (impl_tableOf_v3.a0_0 N K0 ov13 ov14 ov15 ov16 ov17)) N outv1 x2 gv3 gv4 gv5 gv6)))

noncomputable def impl_QuaternionTable {ρ : Type} (N : Nat) (K0 : Nat → Nat → (Nat → Nat) → (Nat → Nat) → (Nat → Int) → Option ρ) : Option ρ :=
  (impl_tableOf_v3 N (fun rv0 rv1 rv2 rv3 rv4 => (K0 rv0 rv1 rv2 rv3 rv4)) 8)

noncomputable def laws_eqInt64SS_v2.b0 {ρ : Type} (N : Nat) (K0 : Bool → Option ρ) (rec : Int → Option ρ) (out0 : Option ρ) (av0 : Nat) (bv1 : Nat) (gv4 : Nat → Nat) (gv5 : Nat → Nat) (gv8 : Nat → Nat) (gv9 : Nat → Nat) (gv10 : Nat → Int) (gv11 : Nat → Int) (i12 : Int) : Option ρ :=
  (if (decide (i12 < (av0 : Int))) = true then (if (0 : Int) ≤ i12 ∧ i12 < (av0 : Int) then (if (0 : Int) ≤ i12 ∧ i12 < (bv1 : Int) then (laws_eqInt64S N (fun rv13 => (if (!rv13) = true then (K0 false) else (rec ((IntKind.i64.wrap (i12 + 1)))))) (gv5 (0 + (i12.toNat * 1))) (gv9 (0 + (i12.toNat * 1))) ((gv5 (0 + (i12.toNat * 1))) * 1) (fun z => (gv10 ((gv4 (0 + (i12.toNat * 1))) + z))) ((gv9 (0 + (i12.toNat * 1))) * 1) (fun z => (gv11 ((gv8 (0 + (i12.toNat * 1))) + z)))) else none) else none) else out0)

noncomputable def laws_eqInt64SS_v2.a0_0 {ρ : Type} (N : Nat) (K0 : Bool → Option ρ) : Option ρ :=
  (K0 true)

noncomputable def laws_eqInt64SS_v2.l0 {ρ : Type} (N : Nat) (K0 : Bool → Option ρ) (av0 : Nat) (bv1 : Nat) (gv4 : Nat → Nat) (gv5 : Nat → Nat) (gv8 : Nat → Nat) (gv9 : Nat → Nat) (gv10 : Nat → Int) (gv11 : Nat → Int) (out0 : Option ρ) : Nat → Int → Option ρ
  | 0, _ => none
  | m + 1, i12 => (laws_eqInt64SS_v2.b0 N K0 ((laws_eqInt64SS_v2.l0 N K0 av0 bv1 gv4 gv5 gv8 gv9 gv10 gv11 out0 m)) out0 av0 bv1 gv4 gv5 gv8 gv9 gv10 gv11 i12)

noncomputable def laws_eqInt64SS_v2.s {ρ : Type} (N : Nat) (K0 : Bool → Option ρ) (lp0 : Int → Option ρ) (av0 : Nat) (bv1 : Nat) : Option ρ :=
  (if ((av0 : Int) != (bv1 : Int)) = true then (K0 false) else (lp0 0))

noncomputable def laws_eqInt64SS_v2 {ρ : Type} (N : Nat) (K0 : Bool → Option ρ) (av0 : Nat) (bv1 : Nat) (gv2 : Nat) (gv3 : Nat) (gv4 : Nat → Nat) (gv5 : Nat → Nat) (gv6 : Nat) (gv7 : Nat) (gv8 : Nat → Nat) (gv9 : Nat → Nat) (gv10 : Nat → Int) (gv11 : Nat → Int) : Option ρ :=
  (laws_eqInt64SS_v2.s N K0 (fun i12 => (laws_eqInt64SS_v2.l0 N K0 av0 bv1 gv4 gv5 gv8 gv9 gv10 gv11 (laws_eqInt64SS_v2.a0_0 N K0) N i12)) av0 bv1)

noncomputable def laws_markInt64SS_v2.b0 {ρ : Type} (N : Nat) (K0 : Int → (Nat → Int) → Option ρ) (rec : Int → Int → (Nat → Int) → Option ρ) (out0 : Int → (Nat → Int) → Option ρ) (av0 : Nat) (gv4 : Nat → Nat) (gv5 : Nat → Nat) (k7 : Int) (i8 : Int) (gv9 : Nat → Int) : Option ρ :=
  (if (decide (i8 < (av0 : Int))) = true then (if (0 : Int) ≤ i8 ∧ i8 < (av0 : Int) then (laws_markInt64S N (fun rv10 rv11 => (rec rv10 ((IntKind.i64.wrap (i8 + 1))) (updN gv9 (gv4 (0 + (i8.toNat * 1))) ((gv5 (0 + (i8.toNat * 1))) * 1) rv11))) (gv5 (0 + (i8.toNat * 1))) k7 ((gv5 (0 + (i8.toNat * 1))) * 1) (fun z => (gv9 ((gv4 (0 + (i8.toNat * 1))) + z)))) else none) else (out0 k7 gv9))

noncomputable def laws_markInt64SS_v2.a0_0 {ρ : Type} (N : Nat) (K0 : Int → (Nat → Int) → Option ρ) (ov12 : Int) (ov13 : Nat → Int) : Option ρ :=
  (K0 ov12 ov13)

noncomputable def laws_markInt64SS_v2.l0 {ρ : Type} (N : Nat) (K0 : Int → (Nat → Int) → Option ρ) (av0 : Nat) (gv4 : Nat → Nat) (gv5 : Nat → Nat) (out0 : Int → (Nat → Int) → Option ρ) : Nat → Int → Int → (Nat → Int) → Option ρ
  | 0, _, _, _ => none
  | m + 1, k7, i8, gv9 => (laws_markInt64SS_v2.b0 N K0 ((laws_markInt64SS_v2.l0 N K0 av0 gv4 gv5 out0 m)) out0 av0 gv4 gv5 k7 i8 gv9)

noncomputable def laws_markInt64SS_v2.s {ρ : Type} (N : Nat) (K0 : Int → (Nat → Int) → Option ρ) (lp0 : Int → Int → (Nat → Int) → Option ρ) (k1 : Int) (gv6 : Nat → Int) : Option ρ :=
  (lp0 k1 0 gv6)

noncomputable def laws_markInt64SS_v2 {ρ : Type} (N : Nat) (K0 : Int → (Nat → Int) → Option ρ) (av0 : Nat) (k1 : Int) (gv2 : Nat) (gv3 : Nat) (gv4 : Nat → Nat) (gv5 : Nat → Nat) (gv6 : Nat → Int) : Option ρ :=
  (laws_markInt64SS_v2.s N K0 (fun k7 i8 gv9 => (laws_markInt64SS_v2.l0 N K0 av0 gv4 gv5 (fun ov12 ov13 => (laws_markInt64SS_v2.a0_0 N K0 ov12 ov13)) N k7 i8 gv9)) k1 gv6)

noncomputable def laws_heldInt64SS_v2.b0 {ρ : Type} (N : Nat) (K0 : Int → Option ρ) (rec : Int → Int → Option ρ) (out0 : Int → Option ρ) (av0 : Nat) (gv4 : Nat → Nat) (gv5 : Nat → Nat) (gv6 : Nat → Int) (k7 : Int) (i8 : Int) : Option ρ :=
  (if (decide (i8 < (av0 : Int))) = true then (if (0 : Int) ≤ i8 ∧ i8 < (av0 : Int) then (laws_heldInt64S N (fun rv9 => (if (decide (rv9 < 0)) = true then (K0 (-1)) else (rec rv9 ((IntKind.i64.wrap (i8 + 1)))))) (gv5 (0 + (i8.toNat * 1))) k7 ((gv5 (0 + (i8.toNat * 1))) * 1) (fun z => (gv6 ((gv4 (0 + (i8.toNat * 1))) + z)))) else none) else (out0 k7))

noncomputable def laws_heldInt64SS_v2.a0_0 {ρ : Type} (N : Nat) (K0 : Int → Option ρ) (ov10 : Int) : Option ρ :=
  (K0 ov10)

noncomputable def laws_heldInt64SS_v2.l0 {ρ : Type} (N : Nat) (K0 : Int → Option ρ) (av0 : Nat) (gv4 : Nat → Nat) (gv5 : Nat → Nat) (gv6 : Nat → Int) (out0 : Int → Option ρ) : Nat → Int → Int → Option ρ
  | 0, _, _ => none
  | m + 1, k7, i8 => (laws_heldInt64SS_v2.b0 N K0 ((laws_heldInt64SS_v2.l0 N K0 av0 gv4 gv5 gv6 out0 m)) out0 av0 gv4 gv5 gv6 k7 i8)

noncomputable def laws_heldInt64SS_v2.s {ρ : Type} (N : Nat) (K0 : Int → Option ρ) (lp0 : Int → Int → Option ρ) (k1 : Int) : Option ρ :=
  (lp0 k1 0)

noncomputable def laws_heldInt64SS_v2 {ρ : Type} (N : Nat) (K0 : Int → Option ρ) (av0 : Nat) (k1 : Int) (gv2 : Nat) (gv3 : Nat) (gv4 : Nat → Nat) (gv5 : Nat → Nat) (gv6 : Nat → Int) : Option ρ :=
  (laws_heldInt64SS_v2.s N K0 (fun k7 i8 => (laws_heldInt64SS_v2.l0 N K0 av0 gv4 gv5 gv6 (fun ov10 => (laws_heldInt64SS_v2.a0_0 N K0 ov10)) N k7 i8)) k1)

noncomputable def laws_FnExactQuaternionTable {ρ : Type} (N : Nat) (K0 : Bool → Option ρ) : Option ρ :=
  (spec_QuaternionTable N (fun rv0 rv1 rv2 rv3 rv4 => (impl_QuaternionTable N (fun rv5 rv6 rv7 rv8 rv9 => (laws_eqInt64SS_v2 N (fun rv10 => (if (!rv10) = true then (K0 false) else (laws_markInt64SS_v2 N (fun rv11 rv12 => (laws_heldInt64SS_v2 N (fun rv13 => (if (decide (rv13 < 0)) = true then (K0 false) else (if (rv13 != rv11) = true then (K0 false) else (impl_QuaternionTable N (fun rv14 rv15 rv16 rv17 rv18 => (laws_eqInt64SS_v2 N (fun rv19 => (if (!rv19) = true then (K0 false) else (laws_heldInt64SS_v2 N (fun rv20 => (if (decide (rv20 < 0)) = true then (K0 false) else (if (rv20 != rv11) = true then (K0 false) else (K0 true)))) rv5 101 (rv5 * 1) rv6 (offN 0 rv7) (offN 0 rv8) rv12))) rv14 rv0 (rv14 * 1) rv15 (offN 0 rv16) (offN 0 rv17) (rv0 * 1) rv1 (offN 0 rv2) (offN 0 rv3) rv18 rv4)))))) rv5 101 (rv5 * 1) rv6 (offN 0 rv7) (offN 0 rv8) rv12)) rv5 101 (rv5 * 1) rv6 (offN 0 rv7) (offN 0 rv8) rv9))) rv5 rv0 (rv5 * 1) rv6 (offN 0 rv7) (offN 0 rv8) (rv0 * 1) rv1 (offN 0 rv2) (offN 0 rv3) rv9 rv4)))))
end Go.Proofs.Ytdlhegdigcdffaa.H
