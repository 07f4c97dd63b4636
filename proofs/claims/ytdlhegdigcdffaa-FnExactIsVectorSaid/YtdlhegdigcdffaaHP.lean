/- The functions that the program computes, in plain Lean. -/
import Derived.Test.YtdlhegdigcdffaaHxUse
namespace Go.Proofs.Ytdlhegdigcdffaa.H
set_option linter.unusedVariables false
set_option linter.unusedSimpArgs false
open Go Go.RowKit Go.Proofs.Ytdlhegdigcdffaa.Hx
set_option linter.unusedVariables false
set_option maxRecDepth 100000
noncomputable def laws_toVector.b0 {ρ : Type} (N : Nat) (K0 : (Nat → Int) → Option ρ) (rec : Int → (Nat → Int) → Option ρ) (out0 : (Nat → Int) → Option ρ) (a0 : Nat → Int) (i1 : Int) (g2 : Nat → Int) : Option ρ :=
  (if (decide (i1 < 8)) = true then (if 0 ≤ i1 ∧ i1 < 8 then (if 0 ≤ i1 ∧ i1 < 8 then (rec ((IntKind.i64.wrap (i1 + 1))) (upd g2 (i1.toNat * 1) (a0 (i1.toNat * 1)))) else none) else none) else (out0 g2))

noncomputable def laws_toVector.a0_0 {ρ : Type} (N : Nat) (K0 : (Nat → Int) → Option ρ) (o3 : Nat → Int) : Option ρ :=
  (K0 o3)

noncomputable def laws_toVector.l0 {ρ : Type} (N : Nat) (K0 : (Nat → Int) → Option ρ) (a0 : Nat → Int) (out0 : (Nat → Int) → Option ρ) : Nat → Int → (Nat → Int) → Option ρ
  | 0, _, _ => none
  | m + 1, i1, g2 => (laws_toVector.b0 N K0 ((laws_toVector.l0 N K0 a0 out0 m)) out0 a0 i1 g2)

noncomputable def laws_toVector.s {ρ : Type} (N : Nat) (K0 : (Nat → Int) → Option ρ) (lp0 : Int → (Nat → Int) → Option ρ) : Option ρ :=
  (lp0 0 (fun _ => 0))

noncomputable def laws_toVector {ρ : Type} (N : Nat) (K0 : (Nat → Int) → Option ρ) (a0 : Nat → Int) : Option ρ :=
  (laws_toVector.s N K0 (fun i1 g2 => (laws_toVector.l0 N K0 a0 (fun o3 => (laws_toVector.a0_0 N K0 o3)) N i1 g2)))

noncomputable def spec_l01In {ρ : Type} (N : Nat) (K0 : Bool → Option ρ) (n0 : Int) (low1 : Int) (high2 : Int) : Option ρ :=
  (if (decide (n0 ≥ low1)) = true then (K0 ((decide (n0 ≤ high2)))) else (K0 false))

noncomputable def spec_l01Prime.b0 {ρ : Type} (N : Nat) (K0 : Bool → Option ρ) (rec : Int → Option ρ) (out0 : Option ρ) (p0 : Int) (k1 : Int) : Option ρ :=
  (if (decide (k1 < p0)) = true then (if (decide (k1 ≤ 31)) = true then (if k1 = 0 then none else (if ((Int.tmod p0 k1) == 0) = true then (K0 false) else (rec ((IntKind.i64.wrap (k1 + 1)))))) else out0) else out0)

noncomputable def spec_l01Prime.a0_0 {ρ : Type} (N : Nat) (K0 : Bool → Option ρ) (p0 : Int) : Option ρ :=
  (spec_l01In N (fun r2 => (K0 (r2))) p0 2 31)

noncomputable def spec_l01Prime.l0 {ρ : Type} (N : Nat) (K0 : Bool → Option ρ) (p0 : Int) (out0 : Option ρ) : Nat → Int → Option ρ
  | 0, _ => none
  | m + 1, k1 => (spec_l01Prime.b0 N K0 ((spec_l01Prime.l0 N K0 p0 out0 m)) out0 p0 k1)

noncomputable def spec_l01Prime.s {ρ : Type} (N : Nat) (K0 : Bool → Option ρ) (lp0 : Int → Option ρ) : Option ρ :=
  (lp0 2)

noncomputable def spec_l01Prime {ρ : Type} (N : Nat) (K0 : Bool → Option ρ) (p0 : Int) : Option ρ :=
  (spec_l01Prime.s N K0 (fun k1 => (spec_l01Prime.l0 N K0 p0 (spec_l01Prime.a0_0 N K0 p0) N k1)))

noncomputable def spec_l01Sizes {ρ : Type} (N : Nat) (K0 : Bool → Option ρ) (p0 : Int) (n1 : Int) : Option ρ :=
  (spec_l01Prime N (fun r2 => (if r2 = true then (spec_l01In N (fun r3 => (K0 (r3))) n1 1 8) else (K0 false))) p0)

noncomputable def spec_l01Vector.b0 {ρ : Type} (N : Nat) (K0 : Bool → Option ρ) (rec : Int → Option ρ) (out0 : Option ρ) (p0 : Int) (n1 : Int) (v2 : Nat → Int) (i3 : Int) : Option ρ :=
  (if (decide (i3 < 8)) = true then (if 0 ≤ i3 ∧ i3 < 8 then (if (decide ((IntKind.i64.wrap (v2 (i3.toNat * 1))) ≥ p0)) = true then (K0 false) else (if (decide (i3 ≥ n1)) = true then (if 0 ≤ i3 ∧ i3 < 8 then (if ((v2 (i3.toNat * 1)) != 0) = true then (K0 false) else (rec ((IntKind.i64.wrap (i3 + 1))))) else none) else (rec ((IntKind.i64.wrap (i3 + 1)))))) else none) else out0)

noncomputable def spec_l01Vector.a0_0 {ρ : Type} (N : Nat) (K0 : Bool → Option ρ) : Option ρ :=
  (K0 true)

noncomputable def spec_l01Vector.l0 {ρ : Type} (N : Nat) (K0 : Bool → Option ρ) (p0 : Int) (n1 : Int) (v2 : Nat → Int) (out0 : Option ρ) : Nat → Int → Option ρ
  | 0, _ => none
  | m + 1, i3 => (spec_l01Vector.b0 N K0 ((spec_l01Vector.l0 N K0 p0 n1 v2 out0 m)) out0 p0 n1 v2 i3)

noncomputable def spec_l01Vector.s {ρ : Type} (N : Nat) (K0 : Bool → Option ρ) (lp0 : Int → Option ρ) : Option ρ :=
  (lp0 0)

noncomputable def spec_l01Vector {ρ : Type} (N : Nat) (K0 : Bool → Option ρ) (p0 : Int) (n1 : Int) (v2 : Nat → Int) : Option ρ :=
  (spec_l01Vector.s N K0 (fun i3 => (spec_l01Vector.l0 N K0 p0 n1 v2 (spec_l01Vector.a0_0 N K0) N i3)))

noncomputable def spec_IsVector {ρ : Type} (N : Nat) (K0 : Bool → Option ρ) (p0 : Int) (n1 : Int) (v2 : Nat → Int) : Option ρ :=
  (spec_l01Sizes N (fun r3 => (if r3 = true then (spec_l01Vector N (fun r4 => (K0 (r4))) p0 n1 v2) else (K0 false))) p0 n1)

noncomputable def impl_IsPrime.b0 {ρ : Type} (N : Nat) (K0 : Bool → Option ρ) (rec : Int → Option ρ) (out0 : Option ρ) (p0 : Int) (k1 : Int) : Option ρ :=
  (if (decide ((IntKind.i64.wrap (k1 * k1)) ≤ p0)) = true then (if k1 = 0 then none else (if ((Int.tmod p0 k1) == 0) = true then (K0 false) else (rec ((IntKind.i64.wrap (k1 + 1)))))) else out0)

noncomputable def impl_IsPrime.a0_0 {ρ : Type} (N : Nat) (K0 : Bool → Option ρ) : Option ρ :=
  (K0 true)

noncomputable def impl_IsPrime.l0 {ρ : Type} (N : Nat) (K0 : Bool → Option ρ) (p0 : Int) (out0 : Option ρ) : Nat → Int → Option ρ
  | 0, _ => none
  | m + 1, k1 => (impl_IsPrime.b0 N K0 ((impl_IsPrime.l0 N K0 p0 out0 m)) out0 p0 k1)

noncomputable def impl_IsPrime.s {ρ : Type} (N : Nat) (K0 : Bool → Option ρ) (lp0 : Int → Option ρ) (p0 : Int) : Option ρ :=
  (if (decide (p0 < 2)) = true then (K0 false) else (if (decide (p0 > 31)) = true then (K0 false) else (lp0 2)))

noncomputable def impl_IsPrime {ρ : Type} (N : Nat) (K0 : Bool → Option ρ) (p0 : Int) : Option ρ :=
  (impl_IsPrime.s N K0 (fun k1 => (impl_IsPrime.l0 N K0 p0 (impl_IsPrime.a0_0 N K0) N k1)) p0)

noncomputable def impl_in {ρ : Type} (N : Nat) (K0 : Bool → Option ρ) (x0 : Int) (least1 : Int) (most2 : Int) : Option ρ :=
  (if (decide (least1 ≤ x0)) = true then (K0 ((decide (x0 ≤ most2)))) else (K0 false))

noncomputable def impl_IsVector.b0 {ρ : Type} (N : Nat) (K0 : Bool → Option ρ) (rec : Int → Option ρ) (out0 : Option ρ) (p0 : Int) (n1 : Int) (v2 : Nat → Int) (x5 : Int) : Option ρ :=
  (if (decide (x5 < 8)) = true then (if 0 ≤ x5 ∧ x5 < 8 then (if (decide ((IntKind.i64.wrap (v2 x5.toNat)) ≥ p0)) = true then (K0 false) else (if (decide (x5 ≥ n1)) = true then (if ((v2 x5.toNat) != 0) = true then (K0 false) else (rec ((IntKind.i64.wrap (x5 + 1))))) else (rec ((IntKind.i64.wrap (x5 + 1)))))) else none) else out0)

noncomputable def impl_IsVector.a0_0 {ρ : Type} (N : Nat) (K0 : Bool → Option ρ) : Option ρ :=
  (K0 true)

noncomputable def impl_IsVector.l0 {ρ : Type} (N : Nat) (K0 : Bool → Option ρ) (p0 : Int) (n1 : Int) (v2 : Nat → Int) (out0 : Option ρ) : Nat → Int → Option ρ
  | 0, _ => none
  | m + 1, x5 => (impl_IsVector.b0 N K0 ((impl_IsVector.l0 N K0 p0 n1 v2 out0 m)) out0 p0 n1 v2 x5)

noncomputable def impl_IsVector.s {ρ : Type} (N : Nat) (K0 : Bool → Option ρ) (lp0 : Int → Option ρ) (p0 : Int) (n1 : Int) : Option ρ :=
  (impl_IsPrime N (fun r3 => (if (!r3) = true then (K0 false) else (impl_in N (fun r4 => (if (!r4) = true then (K0 false) else (lp0 0))) n1 1 8))) p0)

noncomputable def impl_IsVector {ρ : Type} (N : Nat) (K0 : Bool → Option ρ) (p0 : Int) (n1 : Int) (v2 : Nat → Int) : Option ρ :=
  (impl_IsVector.s N K0 (fun x5 => (impl_IsVector.l0 N K0 p0 n1 v2 (impl_IsVector.a0_0 N K0) N x5)) p0 n1)

noncomputable def laws_FnExactIsVector {ρ : Type} (N : Nat) (K0 : Bool → Option ρ) (aP0 : Int) (aN1 : Int) (aV2 : Nat → Int) : Option ρ :=
  (laws_toVector N (fun r3 => (spec_IsVector N (fun r4 => (laws_toVector N (fun r5 => (impl_IsVector N (fun r6 => (if (!(r6 == r4)) = true then (K0 false) else (K0 true))) aP0 aN1 r5)) aV2)) aP0 aN1 r3)) aV2)
end Go.Proofs.Ytdlhegdigcdffaa.H
