/- The functions that the program computes, in plain Lean. -/
import Derived.Test.YtacdnmdfoimjcaaHxUse
namespace Go.Proofs.Ytacdnmdfoimjcaa.H
set_option linter.unusedVariables false
set_option linter.unusedSimpArgs false
open Go Go.RowKit Go.Proofs.Ytacdnmdfoimjcaa.Hx
set_option linter.unusedVariables false
set_option maxRecDepth 100000
noncomputable def laws_toVector.b0 {ρ : Type} (N : Nat) (K0 : (Nat → Int) → Option ρ) (rec : Int → (Nat → Int) → Option ρ) (out0 : (Nat → Int) → Option ρ) (a0 : Nat → Int) (i1 : Int) (g2 : Nat → Int) : Option ρ :=
  (if (decide (i1 < 8)) = true then (if (0 : Int) ≤ i1 ∧ i1 < 8 then (if (0 : Int) ≤ i1 ∧ i1 < 8 then (rec ((IntKind.i64.wrap (i1 + 1))) (upd g2 (i1.toNat * 1) (a0 (i1.toNat * 1)))) else none) else none) else (out0 g2))

noncomputable def laws_toVector.a0_0 {ρ : Type} (N : Nat) (K0 : (Nat → Int) → Option ρ) (o3 : Nat → Int) : Option ρ :=
  (K0 o3)

noncomputable def laws_toVector.l0 {ρ : Type} (N : Nat) (K0 : (Nat → Int) → Option ρ) (a0 : Nat → Int) (out0 : (Nat → Int) → Option ρ) : Nat → Int → (Nat → Int) → Option ρ
  | 0, _, _ => none
  | m + 1, i1, g2 => (laws_toVector.b0 N K0 ((laws_toVector.l0 N K0 a0 out0 m)) out0 a0 i1 g2)

noncomputable def laws_toVector.s {ρ : Type} (N : Nat) (K0 : (Nat → Int) → Option ρ) (lp0 : Int → (Nat → Int) → Option ρ) : Option ρ :=
  (lp0 0 (fun _ => 0))

noncomputable def laws_toVector {ρ : Type} (N : Nat) (K0 : (Nat → Int) → Option ρ) (a0 : Nat → Int) : Option ρ :=
  (laws_toVector.s N K0 (fun i1 g2 => (laws_toVector.l0 N K0 a0 (fun o3 => (laws_toVector.a0_0 N K0 o3)) N i1 g2)))

noncomputable def laws_toLinear.b0 {ρ : Type} (N : Nat) (K0 : (Nat → Int) → Option ρ) (rec : Int → (Nat → Int) → Option ρ) (out0 : (Nat → Int) → Option ρ) (a0 : Nat → Int) (i1 : Int) (g2 : Nat → Int) : Option ρ :=
  (if (decide (i1 < 8)) = true then (if (0 : Int) ≤ i1 ∧ i1 < 8 then (laws_toVector N (fun r3 => (if (0 : Int) ≤ i1 ∧ i1 < 8 then (rec ((IntKind.i64.wrap (i1 + 1))) (updN g2 (i1.toNat * 8) 8 r3)) else none)) (fun z => (a0 ((i1.toNat * 8) + z)))) else none) else (out0 g2))

noncomputable def laws_toLinear.a0_0 {ρ : Type} (N : Nat) (K0 : (Nat → Int) → Option ρ) (o4 : Nat → Int) : Option ρ :=
  (K0 o4)

noncomputable def laws_toLinear.l0 {ρ : Type} (N : Nat) (K0 : (Nat → Int) → Option ρ) (a0 : Nat → Int) (out0 : (Nat → Int) → Option ρ) : Nat → Int → (Nat → Int) → Option ρ
  | 0, _, _ => none
  | m + 1, i1, g2 => (laws_toLinear.b0 N K0 ((laws_toLinear.l0 N K0 a0 out0 m)) out0 a0 i1 g2)

noncomputable def laws_toLinear.s {ρ : Type} (N : Nat) (K0 : (Nat → Int) → Option ρ) (lp0 : Int → (Nat → Int) → Option ρ) : Option ρ :=
  (lp0 0 (fun _ => 0))

noncomputable def laws_toLinear {ρ : Type} (N : Nat) (K0 : (Nat → Int) → Option ρ) (a0 : Nat → Int) : Option ρ :=
  (laws_toLinear.s N K0 (fun i1 g2 => (laws_toLinear.l0 N K0 a0 (fun o4 => (laws_toLinear.a0_0 N K0 o4)) N i1 g2)))

noncomputable def laws_toTable.b0 {ρ : Type} (N : Nat) (K0 : (Nat → Int) → Option ρ) (rec : Int → (Nat → Int) → Option ρ) (out0 : (Nat → Int) → Option ρ) (a0 : Nat → Int) (i1 : Int) (g2 : Nat → Int) : Option ρ :=
  (if (decide (i1 < 8)) = true then (if (0 : Int) ≤ i1 ∧ i1 < 8 then (laws_toLinear N (fun r3 => (if (0 : Int) ≤ i1 ∧ i1 < 8 then (rec ((IntKind.i64.wrap (i1 + 1))) (updN g2 (i1.toNat * 64) 64 r3)) else none)) (fun z => (a0 ((i1.toNat * 64) + z)))) else none) else (out0 g2))

noncomputable def laws_toTable.a0_0 {ρ : Type} (N : Nat) (K0 : (Nat → Int) → Option ρ) (o4 : Nat → Int) : Option ρ :=
  (K0 o4)

noncomputable def laws_toTable.l0 {ρ : Type} (N : Nat) (K0 : (Nat → Int) → Option ρ) (a0 : Nat → Int) (out0 : (Nat → Int) → Option ρ) : Nat → Int → (Nat → Int) → Option ρ
  | 0, _, _ => none
  | m + 1, i1, g2 => (laws_toTable.b0 N K0 ((laws_toTable.l0 N K0 a0 out0 m)) out0 a0 i1 g2)

noncomputable def laws_toTable.s {ρ : Type} (N : Nat) (K0 : (Nat → Int) → Option ρ) (lp0 : Int → (Nat → Int) → Option ρ) : Option ρ :=
  (lp0 0 (fun _ => 0))

noncomputable def laws_toTable {ρ : Type} (N : Nat) (K0 : (Nat → Int) → Option ρ) (a0 : Nat → Int) : Option ρ :=
  (laws_toTable.s N K0 (fun i1 g2 => (laws_toTable.l0 N K0 a0 (fun o4 => (laws_toTable.a0_0 N K0 o4)) N i1 g2)))

noncomputable def laws_toHopf {ρ : Type} (N : Nat) (K0 : (Nat → Int) → (Nat → Int) → Option ρ) (a0 : Nat → Int) (a1 : Nat → Int) : Option ρ :=
  (laws_toVector N (fun r2 => (laws_toTable N (fun r3 => (laws_toVector N (fun r4 => (laws_toTable N (fun r5 => (laws_toLinear N (fun r6 => (K0 (upd (upd (fun _ => 0) 0 (a0 0)) 1 (a0 1)) (updN (updN (updN (updN (updN (fun _ => 0) 0 8 r2) 8 512 r3) 520 8 r4) 528 512 r5) 1040 64 r6))) (fun z => (a1 (1040 + z))))) (fun z => (a1 (528 + z))))) (fun z => (a1 (520 + z))))) (fun z => (a1 (8 + z))))) (fun z => (a1 (0 + z))))

noncomputable def spec_l03Algebra {ρ : Type} (N : Nat) (K0 : (Nat → Int) → (Nat → Int) → Option ρ) (h0 : Nat → Int) (h1 : Nat → Int) : Option ρ :=
  (K0 (upd (upd (fun _ => 0) 0 (h0 0)) 1 (h0 1)) (updN (updN (fun _ => 0) 0 8 (fun z => (h1 (0 + z)))) 8 512 (fun z => (h1 (8 + z)))))

noncomputable def spec_l01In {ρ : Type} (N : Nat) (K0 : Bool → Option ρ) (n0 : Int) (low1 : Int) (high2 : Int) : Option ρ :=
  (if (decide (n0 ≥ low1)) = true then (K0 ((decide (n0 ≤ high2)))) else (K0 false))

noncomputable def spec_l01Prime.b0 {ρ : Type} (N : Nat) (K0 : Bool → Option ρ) (rec : Int → Option ρ) (out0 : Option ρ) (p0 : Int) (k1 : Int) : Option ρ :=
  (if (decide (k1 < p0)) = true then (if (decide (k1 ≤ 31)) = true then (if k1 = 0 then none else (if ((Int.tmod p0 k1) == 0) = true then (K0 false) else (rec ((IntKind.i64.wrap (k1 + 1)))))) else out0) else out0)

noncomputable def spec_l01Prime.a0_0 {ρ : Type} (N : Nat) (K0 : Bool → Option ρ) (p0 : Int) : Option ρ :=
  (spec_l01In N (fun r2 => (K0 (r2))) p0 2 31)

noncomputable def spec_l01Prime.l0 {ρ : Type} (N : Nat) (K0 : Bool → Option ρ) (p0 : Int) (out0 : Option ρ) : Nat → Int → Option ρ
  | 0, _ => none
  | m + 1, k1 => (spec_l01Prime.b0 N K0 ((spec_l01Prime.l0 N K0 p0 out0 m)) out0 p0 k1)

noncomputable def spec_l01Prime.s {ρ : Type} (N : Nat) (K0 : Bool → Option ρ) (lp0 : Int → Option ρ) : Option ρ :=
  (lp0 2)

noncomputable def spec_l01Prime {ρ : Type} (N : Nat) (K0 : Bool → Option ρ) (p0 : Int) : Option ρ :=
  (spec_l01Prime.s N K0 (fun k1 => (spec_l01Prime.l0 N K0 p0 (spec_l01Prime.a0_0 N K0 p0) N k1)))

noncomputable def spec_l01Sizes {ρ : Type} (N : Nat) (K0 : Bool → Option ρ) (p0 : Int) (n1 : Int) : Option ρ :=
  (spec_l01Prime N (fun r2 => (if r2 = true then (spec_l01In N (fun r3 => (K0 (r3))) n1 1 8) else (K0 false))) p0)

noncomputable def spec_l01Vector.b0 {ρ : Type} (N : Nat) (K0 : Bool → Option ρ) (rec : Int → Option ρ) (out0 : Option ρ) (p0 : Int) (n1 : Int) (v2 : Nat → Int) (i3 : Int) : Option ρ :=
  (if (decide (i3 < 8)) = true then (if (0 : Int) ≤ i3 ∧ i3 < 8 then (if (decide ((IntKind.i64.wrap (v2 (i3.toNat * 1))) ≥ p0)) = true then (K0 false) else (if (decide (i3 ≥ n1)) = true then (if (0 : Int) ≤ i3 ∧ i3 < 8 then (if ((v2 (i3.toNat * 1)) != 0) = true then (K0 false) else (rec ((IntKind.i64.wrap (i3 + 1))))) else none) else (rec ((IntKind.i64.wrap (i3 + 1)))))) else none) else out0)

noncomputable def spec_l01Vector.a0_0 {ρ : Type} (N : Nat) (K0 : Bool → Option ρ) : Option ρ :=
  (K0 true)

noncomputable def spec_l01Vector.l0 {ρ : Type} (N : Nat) (K0 : Bool → Option ρ) (p0 : Int) (n1 : Int) (v2 : Nat → Int) (out0 : Option ρ) : Nat → Int → Option ρ
  | 0, _ => none
  | m + 1, i3 => (spec_l01Vector.b0 N K0 ((spec_l01Vector.l0 N K0 p0 n1 v2 out0 m)) out0 p0 n1 v2 i3)

noncomputable def spec_l01Vector.s {ρ : Type} (N : Nat) (K0 : Bool → Option ρ) (lp0 : Int → Option ρ) : Option ρ :=
  (lp0 0)

noncomputable def spec_l01Vector {ρ : Type} (N : Nat) (K0 : Bool → Option ρ) (p0 : Int) (n1 : Int) (v2 : Nat → Int) : Option ρ :=
  (spec_l01Vector.s N K0 (fun i3 => (spec_l01Vector.l0 N K0 p0 n1 v2 (spec_l01Vector.a0_0 N K0) N i3)))

noncomputable def spec_l01Linear.b0 {ρ : Type} (N : Nat) (K0 : Bool → Option ρ) (rec : Int → Option ρ) (out0 : Option ρ) (p0 : Int) (n1 : Int) (f2 : Nat → Int) (i3 : Int) : Option ρ :=
  (if (decide (i3 < 8)) = true then (if (0 : Int) ≤ i3 ∧ i3 < 8 then (spec_l01Vector N (fun r4 => (if (!r4) = true then (K0 false) else (if (decide (i3 ≥ n1)) = true then (if (0 : Int) ≤ i3 ∧ i3 < 8 then (if (!eqN 8 (fun z => (f2 ((i3.toNat * 8) + z))) (fun _ => 0)) = true then (K0 false) else (rec ((IntKind.i64.wrap (i3 + 1))))) else none) else (rec ((IntKind.i64.wrap (i3 + 1))))))) p0 n1 (fun z => (f2 ((i3.toNat * 8) + z)))) else none) else out0)

noncomputable def spec_l01Linear.a0_0 {ρ : Type} (N : Nat) (K0 : Bool → Option ρ) : Option ρ :=
  (K0 true)

noncomputable def spec_l01Linear.l0 {ρ : Type} (N : Nat) (K0 : Bool → Option ρ) (p0 : Int) (n1 : Int) (f2 : Nat → Int) (out0 : Option ρ) : Nat → Int → Option ρ
  | 0, _ => none
  | m + 1, i3 => (spec_l01Linear.b0 N K0 ((spec_l01Linear.l0 N K0 p0 n1 f2 out0 m)) out0 p0 n1 f2 i3)

noncomputable def spec_l01Linear.s {ρ : Type} (N : Nat) (K0 : Bool → Option ρ) (lp0 : Int → Option ρ) : Option ρ :=
  (lp0 0)

noncomputable def spec_l01Linear {ρ : Type} (N : Nat) (K0 : Bool → Option ρ) (p0 : Int) (n1 : Int) (f2 : Nat → Int) : Option ρ :=
  (spec_l01Linear.s N K0 (fun i3 => (spec_l01Linear.l0 N K0 p0 n1 f2 (spec_l01Linear.a0_0 N K0) N i3)))

noncomputable def spec_l01Table.b0 {ρ : Type} (N : Nat) (K0 : Bool → Option ρ) (rec : Int → Option ρ) (out0 : Option ρ) (p0 : Int) (n1 : Int) (t2 : Nat → Int) (i3 : Int) : Option ρ :=
  (if (decide (i3 < 8)) = true then (if (0 : Int) ≤ i3 ∧ i3 < 8 then (spec_l01Linear N (fun r4 => (if (!r4) = true then (K0 false) else (if (decide (i3 ≥ n1)) = true then (if (0 : Int) ≤ i3 ∧ i3 < 8 then (if (!eqN 64 (fun z => (t2 ((i3.toNat * 64) + z))) (fun _ => 0)) = true then (K0 false) else (rec ((IntKind.i64.wrap (i3 + 1))))) else none) else (rec ((IntKind.i64.wrap (i3 + 1))))))) p0 n1 (fun z => (t2 ((i3.toNat * 64) + z)))) else none) else out0)

noncomputable def spec_l01Table.a0_0 {ρ : Type} (N : Nat) (K0 : Bool → Option ρ) : Option ρ :=
  (K0 true)

noncomputable def spec_l01Table.l0 {ρ : Type} (N : Nat) (K0 : Bool → Option ρ) (p0 : Int) (n1 : Int) (t2 : Nat → Int) (out0 : Option ρ) : Nat → Int → Option ρ
  | 0, _ => none
  | m + 1, i3 => (spec_l01Table.b0 N K0 ((spec_l01Table.l0 N K0 p0 n1 t2 out0 m)) out0 p0 n1 t2 i3)

noncomputable def spec_l01Table.s {ρ : Type} (N : Nat) (K0 : Bool → Option ρ) (lp0 : Int → Option ρ) : Option ρ :=
  (lp0 0)

noncomputable def spec_l01Table {ρ : Type} (N : Nat) (K0 : Bool → Option ρ) (p0 : Int) (n1 : Int) (t2 : Nat → Int) : Option ρ :=
  (spec_l01Table.s N K0 (fun i3 => (spec_l01Table.l0 N K0 p0 n1 t2 (spec_l01Table.a0_0 N K0) N i3)))

noncomputable def spec_l01Shape {ρ : Type} (N : Nat) (K0 : Bool → Option ρ) (a0 : Nat → Int) (a1 : Nat → Int) : Option ρ :=
  (spec_l01Sizes N (fun r2 => (if r2 = true then (spec_l01Vector N (fun r3 => (if r3 = true then (spec_l01Table N (fun r4 => (K0 (r4))) ((a0 0)) ((a0 1)) (fun z => (a1 (8 + z)))) else (K0 false))) ((a0 0)) ((a0 1)) (fun z => (a1 (0 + z)))) else (K0 false))) ((a0 0)) ((a0 1)))

noncomputable def spec_l03Shape {ρ : Type} (N : Nat) (K0 : Bool → Option ρ) (h0 : Nat → Int) (h1 : Nat → Int) : Option ρ :=
  (spec_l03Algebra N (fun r2 r3 => (spec_l01Shape N (fun r4 => (if r4 = true then (spec_l01Vector N (fun r5 => (if r5 = true then (spec_l01Table N (fun r6 => (if r6 = true then (spec_l01Linear N (fun r7 => (K0 (r7))) ((h0 0)) ((h0 1)) (fun z => (h1 (1040 + z)))) else (K0 false))) ((h0 0)) ((h0 1)) (fun z => (h1 (528 + z)))) else (K0 false))) ((h0 0)) ((h0 1)) (fun z => (h1 (520 + z)))) else (K0 false))) r2 r3)) h0 h1)

noncomputable def spec_l01Basis {ρ : Type} (N : Nat) (K0 : (Nat → Int) → Option ρ) (i0 : Int) : Option ρ :=
  (if (0 : Int) ≤ i0 ∧ i0 < 8 then (K0 (upd (fun _ => 0) (i0.toNat * 1) 1)) else none)

noncomputable def spec_l01Mod {ρ : Type} (N : Nat) (K0 : Int → Option ρ) (p0 : Int) (x1 : Int) : Option ρ :=
  (if p0 = 0 then none else (if p0 = 0 then none else (K0 ((IntKind.u8.wrap (Int.tmod (IntKind.i64.wrap ((Int.tmod x1 p0) + p0)) p0))))))

noncomputable def spec_l01Add.b0 {ρ : Type} (N : Nat) (K0 : (Nat → Int) → Option ρ) (rec : Int → (Nat → Int) → Option ρ) (out0 : (Nat → Int) → Option ρ) (p0 : Int) (w2 : Nat → Int) (k3 : Int) (i4 : Int) (g5 : Nat → Int) : Option ρ :=
  (if (decide (i4 < 8)) = true then (if (0 : Int) ≤ i4 ∧ i4 < 8 then (if (0 : Int) ≤ i4 ∧ i4 < 8 then (spec_l01Mod N (fun r6 => (if (0 : Int) ≤ i4 ∧ i4 < 8 then (rec ((IntKind.i64.wrap (i4 + 1))) (upd g5 (i4.toNat * 1) r6)) else none)) p0 ((IntKind.i64.wrap ((IntKind.i64.wrap (g5 (i4.toNat * 1))) + (IntKind.i64.wrap (k3 * (IntKind.i64.wrap (w2 (i4.toNat * 1))))))))) else none) else none) else (out0 g5))

noncomputable def spec_l01Add.a0_0 {ρ : Type} (N : Nat) (K0 : (Nat → Int) → Option ρ) (o7 : Nat → Int) : Option ρ :=
  (K0 o7)

noncomputable def spec_l01Add.l0 {ρ : Type} (N : Nat) (K0 : (Nat → Int) → Option ρ) (p0 : Int) (w2 : Nat → Int) (k3 : Int) (out0 : (Nat → Int) → Option ρ) : Nat → Int → (Nat → Int) → Option ρ
  | 0, _, _ => none
  | m + 1, i4, g5 => (spec_l01Add.b0 N K0 ((spec_l01Add.l0 N K0 p0 w2 k3 out0 m)) out0 p0 w2 k3 i4 g5)

noncomputable def spec_l01Add.s {ρ : Type} (N : Nat) (K0 : (Nat → Int) → Option ρ) (lp0 : Int → (Nat → Int) → Option ρ) (v1 : Nat → Int) : Option ρ :=
  (lp0 0 v1)

noncomputable def spec_l01Add {ρ : Type} (N : Nat) (K0 : (Nat → Int) → Option ρ) (p0 : Int) (v1 : Nat → Int) (w2 : Nat → Int) (k3 : Int) : Option ρ :=
  (spec_l01Add.s N K0 (fun i4 g5 => (spec_l01Add.l0 N K0 p0 w2 k3 (fun o7 => (spec_l01Add.a0_0 N K0 o7)) N i4 g5)) v1)

noncomputable def spec_l01Apply.b0 {ρ : Type} (N : Nat) (K0 : (Nat → Int) → Option ρ) (rec : Int → (Nat → Int) → Option ρ) (out0 : (Nat → Int) → Option ρ) (p0 : Int) (n1 : Int) (f2 : Nat → Int) (v3 : Nat → Int) (i4 : Int) (g5 : Nat → Int) : Option ρ :=
  (if (decide (i4 < n1)) = true then (if (0 : Int) ≤ i4 ∧ i4 < 8 then (if ((v3 (i4.toNat * 1)) != 0) = true then (if (0 : Int) ≤ i4 ∧ i4 < 8 then (if (0 : Int) ≤ i4 ∧ i4 < 8 then (spec_l01Add N (fun r6 => (rec ((IntKind.i64.wrap (i4 + 1))) r6)) p0 g5 (fun z => (f2 ((i4.toNat * 8) + z))) ((IntKind.i64.wrap (v3 (i4.toNat * 1))))) else none) else none) else (rec ((IntKind.i64.wrap (i4 + 1))) g5)) else none) else (out0 g5))

noncomputable def spec_l01Apply.a0_0 {ρ : Type} (N : Nat) (K0 : (Nat → Int) → Option ρ) (o7 : Nat → Int) : Option ρ :=
  (K0 o7)

noncomputable def spec_l01Apply.l0 {ρ : Type} (N : Nat) (K0 : (Nat → Int) → Option ρ) (p0 : Int) (n1 : Int) (f2 : Nat → Int) (v3 : Nat → Int) (out0 : (Nat → Int) → Option ρ) : Nat → Int → (Nat → Int) → Option ρ
  | 0, _, _ => none
  | m + 1, i4, g5 => (spec_l01Apply.b0 N K0 ((spec_l01Apply.l0 N K0 p0 n1 f2 v3 out0 m)) out0 p0 n1 f2 v3 i4 g5)

noncomputable def spec_l01Apply.s {ρ : Type} (N : Nat) (K0 : (Nat → Int) → Option ρ) (lp0 : Int → (Nat → Int) → Option ρ) : Option ρ :=
  (lp0 0 (fun _ => 0))

noncomputable def spec_l01Apply {ρ : Type} (N : Nat) (K0 : (Nat → Int) → Option ρ) (p0 : Int) (n1 : Int) (f2 : Nat → Int) (v3 : Nat → Int) : Option ρ :=
  (spec_l01Apply.s N K0 (fun i4 g5 => (spec_l01Apply.l0 N K0 p0 n1 f2 v3 (fun o7 => (spec_l01Apply.a0_0 N K0 o7)) N i4 g5)))

noncomputable def spec_l01Times.b0 {ρ : Type} (N : Nat) (K0 : (Nat → Int) → Option ρ) (rec : Int → (Nat → Int) → Option ρ) (out0 : (Nat → Int) → Option ρ) (a0 : Nat → Int) (a1 : Nat → Int) (v2 : Nat → Int) (w3 : Nat → Int) (i4 : Int) (g5 : Nat → Int) : Option ρ :=
  (if (decide (i4 < (a0 1))) = true then (if (0 : Int) ≤ i4 ∧ i4 < 8 then (if ((v2 (i4.toNat * 1)) != 0) = true then (if (0 : Int) ≤ i4 ∧ i4 < 8 then (spec_l01Apply N (fun r6 => (if (0 : Int) ≤ i4 ∧ i4 < 8 then (spec_l01Add N (fun r7 => (rec ((IntKind.i64.wrap (i4 + 1))) r7)) ((a0 0)) g5 r6 ((IntKind.i64.wrap (v2 (i4.toNat * 1))))) else none)) ((a0 0)) ((a0 1)) (fun z => (a1 ((8 + (i4.toNat * 64)) + z))) w3) else none) else (rec ((IntKind.i64.wrap (i4 + 1))) g5)) else none) else (out0 g5))

noncomputable def spec_l01Times.a0_0 {ρ : Type} (N : Nat) (K0 : (Nat → Int) → Option ρ) (o8 : Nat → Int) : Option ρ :=
  (K0 o8)

noncomputable def spec_l01Times.l0 {ρ : Type} (N : Nat) (K0 : (Nat → Int) → Option ρ) (a0 : Nat → Int) (a1 : Nat → Int) (v2 : Nat → Int) (w3 : Nat → Int) (out0 : (Nat → Int) → Option ρ) : Nat → Int → (Nat → Int) → Option ρ
  | 0, _, _ => none
  | m + 1, i4, g5 => (spec_l01Times.b0 N K0 ((spec_l01Times.l0 N K0 a0 a1 v2 w3 out0 m)) out0 a0 a1 v2 w3 i4 g5)

noncomputable def spec_l01Times.s {ρ : Type} (N : Nat) (K0 : (Nat → Int) → Option ρ) (lp0 : Int → (Nat → Int) → Option ρ) : Option ρ :=
  (lp0 0 (fun _ => 0))

noncomputable def spec_l01Times {ρ : Type} (N : Nat) (K0 : (Nat → Int) → Option ρ) (a0 : Nat → Int) (a1 : Nat → Int) (v2 : Nat → Int) (w3 : Nat → Int) : Option ρ :=
  (spec_l01Times.s N K0 (fun i4 g5 => (spec_l01Times.l0 N K0 a0 a1 v2 w3 (fun o8 => (spec_l01Times.a0_0 N K0 o8)) N i4 g5)))

noncomputable def spec_l01Fault.b2 {ρ : Type} (N : Nat) (K0 : Nat → Nat → Bool → (Nat → Int) → Option ρ) (K1 : Bool → Option ρ) (rec : Int → Option ρ) (out0 : Option ρ) (a0 : Nat → Int) (a1 : Nat → Int) (i2 : Int) (j3 : Int) (k4 : Int) : Option ρ :=
  (if (decide (k4 < (a0 1))) = true then (if (0 : Int) ≤ i2 ∧ i2 < 8 then (if (0 : Int) ≤ j3 ∧ j3 < 8 then (spec_l01Basis N (fun r5 => (spec_l01Times N (fun r6 => (spec_l01Basis N (fun r7 => (if (0 : Int) ≤ j3 ∧ j3 < 8 then (if (0 : Int) ≤ k4 ∧ k4 < 8 then (spec_l01Times N (fun r8 => (if (!eqN 8 r6 r8) = true then (K0 3 3 true (upd (upd (upd (fun _ => 0) 0 i2) 1 j3) 2 k4)) else (rec ((IntKind.i64.wrap (k4 + 1)))))) a0 a1 r7 (fun z => (a1 (((8 + (j3.toNat * 64)) + (k4.toNat * 8)) + z)))) else none) else none)) i2)) a0 a1 (fun z => (a1 (((8 + (i2.toNat * 64)) + (j3.toNat * 8)) + z))) r5)) k4) else none) else none) else out0)

noncomputable def spec_l01Fault.a2_0 {ρ : Type} (N : Nat) (K0 : Nat → Nat → Bool → (Nat → Int) → Option ρ) (K1 : Bool → Option ρ) (rec : Int → Option ρ) (out0 : Option ρ) (j3 : Int) : Option ρ :=
  (rec ((IntKind.i64.wrap (j3 + 1))))

noncomputable def spec_l01Fault.b1 {ρ : Type} (N : Nat) (K0 : Nat → Nat → Bool → (Nat → Int) → Option ρ) (K1 : Bool → Option ρ) (lp2 : Int → Option ρ) (rec : Int → Option ρ) (out0 : Option ρ) (a0 : Nat → Int) (j3 : Int) : Option ρ :=
  (if (decide (j3 < (a0 1))) = true then (lp2 0) else out0)

noncomputable def spec_l01Fault.a1_0 {ρ : Type} (N : Nat) (K0 : Nat → Nat → Bool → (Nat → Int) → Option ρ) (K1 : Bool → Option ρ) (rec : Int → Option ρ) (out0 : Option ρ) (i2 : Int) : Option ρ :=
  (rec ((IntKind.i64.wrap (i2 + 1))))

noncomputable def spec_l01Fault.b0 {ρ : Type} (N : Nat) (K0 : Nat → Nat → Bool → (Nat → Int) → Option ρ) (K1 : Bool → Option ρ) (lp1 : Int → Option ρ) (rec : Int → Option ρ) (out0 : Option ρ) (a0 : Nat → Int) (i2 : Int) : Option ρ :=
  (if (decide (i2 < (a0 1))) = true then (lp1 0) else out0)

noncomputable def spec_l01Fault.a0_0 {ρ : Type} (N : Nat) (K0 : Nat → Nat → Bool → (Nat → Int) → Option ρ) (K1 : Bool → Option ρ) : Option ρ :=
  (K1 false)

noncomputable def spec_l01Fault.l2 {ρ : Type} (N : Nat) (K0 : Nat → Nat → Bool → (Nat → Int) → Option ρ) (K1 : Bool → Option ρ) (a0 : Nat → Int) (a1 : Nat → Int) (i2 : Int) (j3 : Int) (out0 : Option ρ) : Nat → Int → Option ρ
  | 0, _ => none
  | m + 1, k4 => (spec_l01Fault.b2 N K0 K1 ((spec_l01Fault.l2 N K0 K1 a0 a1 i2 j3 out0 m)) out0 a0 a1 i2 j3 k4)

noncomputable def spec_l01Fault.l1 {ρ : Type} (N : Nat) (K0 : Nat → Nat → Bool → (Nat → Int) → Option ρ) (K1 : Bool → Option ρ) (a0 : Nat → Int) (a1 : Nat → Int) (i2 : Int) (out0 : Option ρ) : Nat → Int → Option ρ
  | 0, _ => none
  | m + 1, j3 => (spec_l01Fault.b1 N K0 K1 (fun k4 => (spec_l01Fault.l2 N K0 K1 a0 a1 i2 j3 (spec_l01Fault.a2_0 N K0 K1 (spec_l01Fault.l1 N K0 K1 a0 a1 i2 out0 m) out0 j3) N k4)) ((spec_l01Fault.l1 N K0 K1 a0 a1 i2 out0 m)) out0 a0 j3)

noncomputable def spec_l01Fault.l0 {ρ : Type} (N : Nat) (K0 : Nat → Nat → Bool → (Nat → Int) → Option ρ) (K1 : Bool → Option ρ) (a0 : Nat → Int) (a1 : Nat → Int) (out0 : Option ρ) : Nat → Int → Option ρ
  | 0, _ => none
  | m + 1, i2 => (spec_l01Fault.b0 N K0 K1 (fun j3 => (spec_l01Fault.l1 N K0 K1 a0 a1 i2 (spec_l01Fault.a1_0 N K0 K1 (spec_l01Fault.l0 N K0 K1 a0 a1 out0 m) out0 i2) N j3)) ((spec_l01Fault.l0 N K0 K1 a0 a1 out0 m)) out0 a0 i2)

noncomputable def spec_l01Fault.s {ρ : Type} (N : Nat) (K0 : Nat → Nat → Bool → (Nat → Int) → Option ρ) (K1 : Bool → Option ρ) (lp0 : Int → Option ρ) : Option ρ :=
  (lp0 0)

noncomputable def spec_l01Fault {ρ : Type} (N : Nat) (K0 : Nat → Nat → Bool → (Nat → Int) → Option ρ) (K1 : Bool → Option ρ) (a0 : Nat → Int) (a1 : Nat → Int) : Option ρ :=
  (spec_l01Fault.s N K0 K1 (fun i2 => (spec_l01Fault.l0 N K0 K1 a0 a1 (spec_l01Fault.a0_0 N K0 K1) N i2)))

noncomputable def spec_l01Is.b0 {ρ : Type} (N : Nat) (K0 : Bool → Option ρ) (rec : Int → Option ρ) (out0 : Option ρ) (a0 : Nat → Int) (a1 : Nat → Int) (i3 : Int) : Option ρ :=
  (if (decide (i3 < (a0 1))) = true then (spec_l01Basis N (fun r4 => (spec_l01Times N (fun r5 => (spec_l01Basis N (fun r6 => (if (!eqN 8 r5 r6) = true then (K0 false) else (spec_l01Basis N (fun r7 => (spec_l01Times N (fun r8 => (spec_l01Basis N (fun r9 => (if (!eqN 8 r8 r9) = true then (K0 false) else (rec ((IntKind.i64.wrap (i3 + 1)))))) i3)) a0 a1 r7 (fun z => (a1 (0 + z))))) i3))) i3)) a0 a1 (fun z => (a1 (0 + z))) r4)) i3) else out0)

noncomputable def spec_l01Is.a0_0 {ρ : Type} (N : Nat) (K0 : Bool → Option ρ) (a0 : Nat → Int) (a1 : Nat → Int) : Option ρ :=
  (spec_l01Fault N (fun r10 r11 r12 r13 => (K0 ((!r12)))) (fun r14 => (K0 ((!r14)))) a0 a1)

noncomputable def spec_l01Is.l0 {ρ : Type} (N : Nat) (K0 : Bool → Option ρ) (a0 : Nat → Int) (a1 : Nat → Int) (out0 : Option ρ) : Nat → Int → Option ρ
  | 0, _ => none
  | m + 1, i3 => (spec_l01Is.b0 N K0 ((spec_l01Is.l0 N K0 a0 a1 out0 m)) out0 a0 a1 i3)

noncomputable def spec_l01Is.s {ρ : Type} (N : Nat) (K0 : Bool → Option ρ) (lp0 : Int → Option ρ) (a0 : Nat → Int) (a1 : Nat → Int) : Option ρ :=
  (spec_l01Shape N (fun r2 => (if (!r2) = true then (K0 false) else (lp0 0))) a0 a1)

noncomputable def spec_l01Is {ρ : Type} (N : Nat) (K0 : Bool → Option ρ) (a0 : Nat → Int) (a1 : Nat → Int) : Option ρ :=
  (spec_l01Is.s N K0 (fun i3 => (spec_l01Is.l0 N K0 a0 a1 (spec_l01Is.a0_0 N K0 a0 a1) N i3)) a0 a1)

noncomputable def spec_l03Coalgebra {ρ : Type} (N : Nat) (K0 : (Nat → Int) → (Nat → Int) → Option ρ) (h0 : Nat → Int) (h1 : Nat → Int) : Option ρ :=
  (K0 (upd (upd (fun _ => 0) 0 (h0 0)) 1 (h0 1)) (updN (updN (fun _ => 0) 0 8 (fun z => (h1 (520 + z)))) 8 512 (fun z => (h1 (528 + z)))))

noncomputable def spec_l02Shape {ρ : Type} (N : Nat) (K0 : Bool → Option ρ) (c0 : Nat → Int) (c1 : Nat → Int) : Option ρ :=
  (spec_l01Sizes N (fun r2 => (if r2 = true then (spec_l01Vector N (fun r3 => (if r3 = true then (spec_l01Table N (fun r4 => (K0 (r4))) ((c0 0)) ((c0 1)) (fun z => (c1 (8 + z)))) else (K0 false))) ((c0 0)) ((c0 1)) (fun z => (c1 (0 + z)))) else (K0 false))) ((c0 0)) ((c0 1)))

noncomputable def spec_l02Sums.b0 {ρ : Type} (N : Nat) (K0 : Int → Int → Option ρ) (rec : Int → Int → Int → Option ρ) (out0 : Int → Int → Option ρ) (c0 : Nat → Int) (c1 : Nat → Int) (i2 : Int) (j3 : Int) (k4 : Int) (l5 : Int) (left6 : Int) (right7 : Int) (a8 : Int) : Option ρ :=
  (if (decide (a8 < (c0 1))) = true then (if (0 : Int) ≤ i2 ∧ i2 < 8 then (if (0 : Int) ≤ a8 ∧ a8 < 8 then (if (0 : Int) ≤ l5 ∧ l5 < 8 then (if (0 : Int) ≤ a8 ∧ a8 < 8 then (if (0 : Int) ≤ j3 ∧ j3 < 8 then (if (0 : Int) ≤ k4 ∧ k4 < 8 then (if (0 : Int) ≤ i2 ∧ i2 < 8 then (if (0 : Int) ≤ j3 ∧ j3 < 8 then (if (0 : Int) ≤ a8 ∧ a8 < 8 then (if (0 : Int) ≤ a8 ∧ a8 < 8 then (if (0 : Int) ≤ k4 ∧ k4 < 8 then (if (0 : Int) ≤ l5 ∧ l5 < 8 then (rec ((IntKind.i64.wrap (left6 + (IntKind.i64.wrap ((IntKind.i64.wrap (c1 (((8 + (i2.toNat * 64)) + (a8.toNat * 8)) + (l5.toNat * 1)))) * (IntKind.i64.wrap (c1 (((8 + (a8.toNat * 64)) + (j3.toNat * 8)) + (k4.toNat * 1))))))))) ((IntKind.i64.wrap (right7 + (IntKind.i64.wrap ((IntKind.i64.wrap (c1 (((8 + (i2.toNat * 64)) + (j3.toNat * 8)) + (a8.toNat * 1)))) * (IntKind.i64.wrap (c1 (((8 + (a8.toNat * 64)) + (k4.toNat * 8)) + (l5.toNat * 1))))))))) ((IntKind.i64.wrap (a8 + 1)))) else none) else none) else none) else none) else none) else none) else none) else none) else none) else none) else none) else none) else (out0 left6 right7))

noncomputable def spec_l02Sums.a0_0 {ρ : Type} (N : Nat) (K0 : Int → Int → Option ρ) (c0 : Nat → Int) (o9 : Int) (o10 : Int) : Option ρ :=
  (spec_l01Mod N (fun r11 => (spec_l01Mod N (fun r12 => (K0 r11 r12)) ((c0 0)) o10)) ((c0 0)) o9)

noncomputable def spec_l02Sums.l0 {ρ : Type} (N : Nat) (K0 : Int → Int → Option ρ) (c0 : Nat → Int) (c1 : Nat → Int) (i2 : Int) (j3 : Int) (k4 : Int) (l5 : Int) (out0 : Int → Int → Option ρ) : Nat → Int → Int → Int → Option ρ
  | 0, _, _, _ => none
  | m + 1, left6, right7, a8 => (spec_l02Sums.b0 N K0 ((spec_l02Sums.l0 N K0 c0 c1 i2 j3 k4 l5 out0 m)) out0 c0 c1 i2 j3 k4 l5 left6 right7 a8)

noncomputable def spec_l02Sums.s {ρ : Type} (N : Nat) (K0 : Int → Int → Option ρ) (lp0 : Int → Int → Int → Option ρ) : Option ρ :=
  (lp0 0 0 0)

noncomputable def spec_l02Sums {ρ : Type} (N : Nat) (K0 : Int → Int → Option ρ) (c0 : Nat → Int) (c1 : Nat → Int) (i2 : Int) (j3 : Int) (k4 : Int) (l5 : Int) : Option ρ :=
  (spec_l02Sums.s N K0 (fun left6 right7 a8 => (spec_l02Sums.l0 N K0 c0 c1 i2 j3 k4 l5 (fun o9 o10 => (spec_l02Sums.a0_0 N K0 c0 o9 o10)) N left6 right7 a8)))

noncomputable def spec_l02Fault.b0 {ρ : Type} (N : Nat) (K0 : Nat → Nat → Bool → (Nat → Int) → Option ρ) (K1 : Bool → Option ρ) (rec : Int → Option ρ) (out0 : Option ρ) (c0 : Nat → Int) (c1 : Nat → Int) (m2 : Int) : Option ρ :=
  (if (decide (m2 < (IntKind.i64.wrap ((IntKind.i64.wrap ((IntKind.i64.wrap ((c0 1) * (c0 1))) * (c0 1))) * (c0 1))))) = true then (if (IntKind.i64.wrap ((IntKind.i64.wrap ((c0 1) * (c0 1))) * (c0 1))) = 0 then none else (if (IntKind.i64.wrap ((c0 1) * (c0 1))) = 0 then none else (if (c0 1) = 0 then none else (if (c0 1) = 0 then none else (if (c0 1) = 0 then none else (if (c0 1) = 0 then none else (spec_l02Sums N (fun r3 r4 => (if (r3 != r4) = true then (K0 4 4 true (upd (upd (upd (upd (fun _ => 0) 0 (IntKind.i64.wrap (Int.tdiv m2 (IntKind.i64.wrap ((IntKind.i64.wrap ((c0 1) * (c0 1))) * (c0 1)))))) 1 (Int.tmod (IntKind.i64.wrap (Int.tdiv m2 (IntKind.i64.wrap ((c0 1) * (c0 1))))) (c0 1))) 2 (Int.tmod (IntKind.i64.wrap (Int.tdiv m2 (c0 1))) (c0 1))) 3 (Int.tmod m2 (c0 1)))) else (rec ((IntKind.i64.wrap (m2 + 1)))))) c0 c1 ((IntKind.i64.wrap (Int.tdiv m2 (IntKind.i64.wrap ((IntKind.i64.wrap ((c0 1) * (c0 1))) * (c0 1)))))) ((Int.tmod (IntKind.i64.wrap (Int.tdiv m2 (IntKind.i64.wrap ((c0 1) * (c0 1))))) (c0 1))) ((Int.tmod (IntKind.i64.wrap (Int.tdiv m2 (c0 1))) (c0 1))) ((Int.tmod m2 (c0 1)))))))))) else out0)

noncomputable def spec_l02Fault.a0_0 {ρ : Type} (N : Nat) (K0 : Nat → Nat → Bool → (Nat → Int) → Option ρ) (K1 : Bool → Option ρ) : Option ρ :=
  (K1 false)

noncomputable def spec_l02Fault.l0 {ρ : Type} (N : Nat) (K0 : Nat → Nat → Bool → (Nat → Int) → Option ρ) (K1 : Bool → Option ρ) (c0 : Nat → Int) (c1 : Nat → Int) (out0 : Option ρ) : Nat → Int → Option ρ
  | 0, _ => none
  | m + 1, m2 => (spec_l02Fault.b0 N K0 K1 ((spec_l02Fault.l0 N K0 K1 c0 c1 out0 m)) out0 c0 c1 m2)

noncomputable def spec_l02Fault.s {ρ : Type} (N : Nat) (K0 : Nat → Nat → Bool → (Nat → Int) → Option ρ) (K1 : Bool → Option ρ) (lp0 : Int → Option ρ) : Option ρ :=
  (lp0 0)

noncomputable def spec_l02Fault {ρ : Type} (N : Nat) (K0 : Nat → Nat → Bool → (Nat → Int) → Option ρ) (K1 : Bool → Option ρ) (c0 : Nat → Int) (c1 : Nat → Int) : Option ρ :=
  (spec_l02Fault.s N K0 K1 (fun m2 => (spec_l02Fault.l0 N K0 K1 c0 c1 (spec_l02Fault.a0_0 N K0 K1) N m2)))

noncomputable def spec_l02Counits.b2 {ρ : Type} (N : Nat) (K0 : Bool → Option ρ) (rec : Int → Int → Option ρ) (out0 : Int → Option ρ) (c0 : Nat → Int) (c1 : Nat → Int) (i2 : Int) (j3 : Int) (sum7 : Int) (k8 : Int) : Option ρ :=
  (if (decide (k8 < (c0 1))) = true then (if (0 : Int) ≤ k8 ∧ k8 < 8 then (if (0 : Int) ≤ i2 ∧ i2 < 8 then (if (0 : Int) ≤ j3 ∧ j3 < 8 then (if (0 : Int) ≤ k8 ∧ k8 < 8 then (rec ((IntKind.i64.wrap (sum7 + (IntKind.i64.wrap ((IntKind.i64.wrap (c1 (0 + (k8.toNat * 1)))) * (IntKind.i64.wrap (c1 (((8 + (i2.toNat * 64)) + (j3.toNat * 8)) + (k8.toNat * 1))))))))) ((IntKind.i64.wrap (k8 + 1)))) else none) else none) else none) else none) else (out0 sum7))

noncomputable def spec_l02Counits.a2_0 {ρ : Type} (N : Nat) (K0 : Bool → Option ρ) (rec : Int → (Nat → Int) → (Nat → Int) → Option ρ) (out0 : (Nat → Int) → (Nat → Int) → Option ρ) (c0 : Nat → Int) (j3 : Int) (g5 : Nat → Int) (r6 : Nat → Int) (o9 : Int) : Option ρ :=
  (spec_l01Mod N (fun r10 => (if (0 : Int) ≤ j3 ∧ j3 < 8 then (rec ((IntKind.i64.wrap (j3 + 1))) r6 (upd g5 (j3.toNat * 1) r10)) else none)) ((c0 0)) o9)

noncomputable def spec_l02Counits.b1 {ρ : Type} (N : Nat) (K0 : Bool → Option ρ) (lp2 : (Nat → Int) → Int → Int → Option ρ) (rec : Int → (Nat → Int) → (Nat → Int) → Option ρ) (out0 : (Nat → Int) → (Nat → Int) → Option ρ) (c0 : Nat → Int) (c1 : Nat → Int) (i2 : Int) (j3 : Int) (g4 : Nat → Int) (g5 : Nat → Int) : Option ρ :=
  (if (decide (j3 < (c0 1))) = true then (if (0 : Int) ≤ i2 ∧ i2 < 8 then (if (0 : Int) ≤ j3 ∧ j3 < 8 then (if (0 : Int) ≤ j3 ∧ j3 < 8 then (spec_l01Add N (fun r6 => (lp2 r6 0 0)) ((c0 0)) g4 (fun z => (c1 (((8 + (i2.toNat * 64)) + (j3.toNat * 8)) + z))) ((IntKind.i64.wrap (c1 (0 + (j3.toNat * 1)))))) else none) else none) else none) else (out0 g4 g5))

noncomputable def spec_l02Counits.a1_0 {ρ : Type} (N : Nat) (K0 : Bool → Option ρ) (rec : Int → Option ρ) (out0 : Option ρ) (i2 : Int) (o11 : Nat → Int) (o12 : Nat → Int) : Option ρ :=
  (spec_l01Basis N (fun r13 => (if (!eqN 8 o11 r13) = true then (K0 false) else (spec_l01Basis N (fun r14 => (if (!eqN 8 o12 r14) = true then (K0 false) else (rec ((IntKind.i64.wrap (i2 + 1)))))) i2))) i2)

noncomputable def spec_l02Counits.b0 {ρ : Type} (N : Nat) (K0 : Bool → Option ρ) (lp1 : Int → (Nat → Int) → (Nat → Int) → Option ρ) (rec : Int → Option ρ) (out0 : Option ρ) (c0 : Nat → Int) (i2 : Int) : Option ρ :=
  (if (decide (i2 < (c0 1))) = true then (lp1 0 (fun _ => 0) (fun _ => 0)) else out0)

noncomputable def spec_l02Counits.a0_0 {ρ : Type} (N : Nat) (K0 : Bool → Option ρ) : Option ρ :=
  (K0 true)

noncomputable def spec_l02Counits.l2 {ρ : Type} (N : Nat) (K0 : Bool → Option ρ) (c0 : Nat → Int) (c1 : Nat → Int) (i2 : Int) (j3 : Int) (out0 : Int → Option ρ) : Nat → Int → Int → Option ρ
  | 0, _, _ => none
  | m + 1, sum7, k8 => (spec_l02Counits.b2 N K0 ((spec_l02Counits.l2 N K0 c0 c1 i2 j3 out0 m)) out0 c0 c1 i2 j3 sum7 k8)

noncomputable def spec_l02Counits.l1 {ρ : Type} (N : Nat) (K0 : Bool → Option ρ) (c0 : Nat → Int) (c1 : Nat → Int) (i2 : Int) (out0 : (Nat → Int) → (Nat → Int) → Option ρ) : Nat → Int → (Nat → Int) → (Nat → Int) → Option ρ
  | 0, _, _, _ => none
  | m + 1, j3, g4, g5 => (spec_l02Counits.b1 N K0 (fun r6 sum7 k8 => (spec_l02Counits.l2 N K0 c0 c1 i2 j3 (fun o9 => (spec_l02Counits.a2_0 N K0 (spec_l02Counits.l1 N K0 c0 c1 i2 out0 m) out0 c0 j3 g5 r6 o9)) N sum7 k8)) ((spec_l02Counits.l1 N K0 c0 c1 i2 out0 m)) out0 c0 c1 i2 j3 g4 g5)

noncomputable def spec_l02Counits.l0 {ρ : Type} (N : Nat) (K0 : Bool → Option ρ) (c0 : Nat → Int) (c1 : Nat → Int) (out0 : Option ρ) : Nat → Int → Option ρ
  | 0, _ => none
  | m + 1, i2 => (spec_l02Counits.b0 N K0 (fun j3 g4 g5 => (spec_l02Counits.l1 N K0 c0 c1 i2 (fun o11 o12 => (spec_l02Counits.a1_0 N K0 (spec_l02Counits.l0 N K0 c0 c1 out0 m) out0 i2 o11 o12)) N j3 g4 g5)) ((spec_l02Counits.l0 N K0 c0 c1 out0 m)) out0 c0 i2)

noncomputable def spec_l02Counits.s {ρ : Type} (N : Nat) (K0 : Bool → Option ρ) (lp0 : Int → Option ρ) : Option ρ :=
  (lp0 0)

noncomputable def spec_l02Counits {ρ : Type} (N : Nat) (K0 : Bool → Option ρ) (c0 : Nat → Int) (c1 : Nat → Int) : Option ρ :=
  (spec_l02Counits.s N K0 (fun i2 => (spec_l02Counits.l0 N K0 c0 c1 (spec_l02Counits.a0_0 N K0) N i2)))

noncomputable def spec_l02Is {ρ : Type} (N : Nat) (K0 : Bool → Option ρ) (c0 : Nat → Int) (c1 : Nat → Int) : Option ρ :=
  (spec_l02Shape N (fun r2 => (if (!r2) = true then (K0 false) else (spec_l02Fault N (fun r3 r4 r5 r6 => (if (!r5) = true then (spec_l02Counits N (fun r7 => (K0 (r7))) c0 c1) else (K0 false))) (fun r8 => (if (!r8) = true then (spec_l02Counits N (fun r9 => (K0 (r9))) c0 c1) else (K0 false))) c0 c1))) c0 c1)

noncomputable def spec_l03Coproduct.b1 {ρ : Type} (N : Nat) (K0 : (Nat → Int) → Option ρ) (rec : Int → (Nat → Int) → Option ρ) (out0 : (Nat → Int) → Option ρ) (h0 : Nat → Int) (h1 : Nat → Int) (v2 : Nat → Int) (i3 : Int) (j5 : Int) (g6 : Nat → Int) : Option ρ :=
  (if (decide (j5 < (h0 1))) = true then (if (0 : Int) ≤ i3 ∧ i3 < 8 then (if ((v2 (i3.toNat * 1)) != 0) = true then (if (0 : Int) ≤ j5 ∧ j5 < 8 then (if (0 : Int) ≤ i3 ∧ i3 < 8 then (if (0 : Int) ≤ j5 ∧ j5 < 8 then (if (0 : Int) ≤ i3 ∧ i3 < 8 then (spec_l01Add N (fun r7 => (if (0 : Int) ≤ j5 ∧ j5 < 8 then (rec ((IntKind.i64.wrap (j5 + 1))) (updN g6 (j5.toNat * 8) 8 r7)) else none)) ((h0 0)) (fun z => (g6 ((j5.toNat * 8) + z))) (fun z => (h1 (((528 + (i3.toNat * 64)) + (j5.toNat * 8)) + z))) ((IntKind.i64.wrap (v2 (i3.toNat * 1))))) else none) else none) else none) else none) else (out0 g6)) else none) else (out0 g6))

noncomputable def spec_l03Coproduct.a1_0 {ρ : Type} (N : Nat) (K0 : (Nat → Int) → Option ρ) (rec : Int → (Nat → Int) → Option ρ) (out0 : (Nat → Int) → Option ρ) (i3 : Int) (o8 : Nat → Int) : Option ρ :=
  (rec ((IntKind.i64.wrap (i3 + 1))) o8)

noncomputable def spec_l03Coproduct.b0 {ρ : Type} (N : Nat) (K0 : (Nat → Int) → Option ρ) (lp1 : Int → (Nat → Int) → Option ρ) (rec : Int → (Nat → Int) → Option ρ) (out0 : (Nat → Int) → Option ρ) (h0 : Nat → Int) (i3 : Int) (g4 : Nat → Int) : Option ρ :=
  (if (decide (i3 < (h0 1))) = true then (lp1 0 g4) else (out0 g4))

noncomputable def spec_l03Coproduct.a0_0 {ρ : Type} (N : Nat) (K0 : (Nat → Int) → Option ρ) (o9 : Nat → Int) : Option ρ :=
  (K0 o9)

noncomputable def spec_l03Coproduct.l1 {ρ : Type} (N : Nat) (K0 : (Nat → Int) → Option ρ) (h0 : Nat → Int) (h1 : Nat → Int) (v2 : Nat → Int) (i3 : Int) (out0 : (Nat → Int) → Option ρ) : Nat → Int → (Nat → Int) → Option ρ
  | 0, _, _ => none
  | m + 1, j5, g6 => (spec_l03Coproduct.b1 N K0 ((spec_l03Coproduct.l1 N K0 h0 h1 v2 i3 out0 m)) out0 h0 h1 v2 i3 j5 g6)

noncomputable def spec_l03Coproduct.l0 {ρ : Type} (N : Nat) (K0 : (Nat → Int) → Option ρ) (h0 : Nat → Int) (h1 : Nat → Int) (v2 : Nat → Int) (out0 : (Nat → Int) → Option ρ) : Nat → Int → (Nat → Int) → Option ρ
  | 0, _, _ => none
  | m + 1, i3, g4 => (spec_l03Coproduct.b0 N K0 (fun j5 g6 => (spec_l03Coproduct.l1 N K0 h0 h1 v2 i3 (fun o8 => (spec_l03Coproduct.a1_0 N K0 (spec_l03Coproduct.l0 N K0 h0 h1 v2 out0 m) out0 i3 o8)) N j5 g6)) ((spec_l03Coproduct.l0 N K0 h0 h1 v2 out0 m)) out0 h0 i3 g4)

noncomputable def spec_l03Coproduct.s {ρ : Type} (N : Nat) (K0 : (Nat → Int) → Option ρ) (lp0 : Int → (Nat → Int) → Option ρ) : Option ρ :=
  (lp0 0 (fun _ => 0))

noncomputable def spec_l03Coproduct {ρ : Type} (N : Nat) (K0 : (Nat → Int) → Option ρ) (h0 : Nat → Int) (h1 : Nat → Int) (v2 : Nat → Int) : Option ρ :=
  (spec_l03Coproduct.s N K0 (fun i3 g4 => (spec_l03Coproduct.l0 N K0 h0 h1 v2 (fun o9 => (spec_l03Coproduct.a0_0 N K0 o9)) N i3 g4)))

noncomputable def spec_l01Zero {ρ : Type} (N : Nat) (K0 : Bool → Option ρ) (v0 : Nat → Int) : Option ρ :=
  (K0 ((eqN 8 v0 (fun _ => 0))))

noncomputable def spec_l03Pairs.b2 {ρ : Type} (N : Nat) (K0 : (Nat → Int) → Option ρ) (rec : Int → (Nat → Int) → Option ρ) (out0 : (Nat → Int) → Option ρ) (h0 : Nat → Int) (h1 : Nat → Int) (j4 : Int) (l6 : Int) (r10 : Nat → Int) (x12 : Int) (g13 : Nat → Int) : Option ρ :=
  (if (decide (x12 < (h0 1))) = true then (if (0 : Int) ≤ j4 ∧ j4 < 8 then (if (0 : Int) ≤ l6 ∧ l6 < 8 then (if (0 : Int) ≤ x12 ∧ x12 < 8 then (if ((h1 (((8 + (j4.toNat * 64)) + (l6.toNat * 8)) + (x12.toNat * 1))) != 0) = true then (if (0 : Int) ≤ x12 ∧ x12 < 8 then (spec_l01Add N (fun r14 => (if (0 : Int) ≤ x12 ∧ x12 < 8 then (rec ((IntKind.i64.wrap (x12 + 1))) (updN g13 (x12.toNat * 8) 8 r14)) else none)) ((h0 0)) (fun z => (g13 ((x12.toNat * 8) + z))) r10 ((IntKind.i64.wrap (h1 (((8 + (j4.toNat * 64)) + (l6.toNat * 8)) + (x12.toNat * 1)))))) else none) else (rec ((IntKind.i64.wrap (x12 + 1))) g13)) else none) else none) else none) else (out0 g13))

noncomputable def spec_l03Pairs.a2_0 {ρ : Type} (N : Nat) (K0 : (Nat → Int) → Option ρ) (rec : Int → (Nat → Int) → Option ρ) (out0 : (Nat → Int) → Option ρ) (l6 : Int) (o15 : Nat → Int) : Option ρ :=
  (rec ((IntKind.i64.wrap (l6 + 1))) o15)

noncomputable def spec_l03Pairs.b1 {ρ : Type} (N : Nat) (K0 : (Nat → Int) → Option ρ) (lp2 : (Nat → Int) → Int → (Nat → Int) → Option ρ) (rec : Int → (Nat → Int) → Option ρ) (out0 : (Nat → Int) → Option ρ) (h0 : Nat → Int) (h1 : Nat → Int) (f2 : Nat → Int) (g3 : Nat → Int) (j4 : Int) (l6 : Int) (g7 : Nat → Int) : Option ρ :=
  (if (decide (l6 < (h0 1))) = true then (spec_l03Algebra N (fun r8 r9 => (if (0 : Int) ≤ j4 ∧ j4 < 8 then (if (0 : Int) ≤ l6 ∧ l6 < 8 then (spec_l01Times N (fun r10 => (spec_l01Zero N (fun r11 => (if r11 = true then (rec ((IntKind.i64.wrap (l6 + 1))) g7) else (lp2 r10 0 g7))) r10)) r8 r9 (fun z => (f2 ((j4.toNat * 8) + z))) (fun z => (g3 ((l6.toNat * 8) + z)))) else none) else none)) h0 h1) else (out0 g7))

noncomputable def spec_l03Pairs.a1_0 {ρ : Type} (N : Nat) (K0 : (Nat → Int) → Option ρ) (rec : Int → (Nat → Int) → Option ρ) (out0 : (Nat → Int) → Option ρ) (j4 : Int) (o16 : Nat → Int) : Option ρ :=
  (rec ((IntKind.i64.wrap (j4 + 1))) o16)

noncomputable def spec_l03Pairs.b0 {ρ : Type} (N : Nat) (K0 : (Nat → Int) → Option ρ) (lp1 : Int → (Nat → Int) → Option ρ) (rec : Int → (Nat → Int) → Option ρ) (out0 : (Nat → Int) → Option ρ) (h0 : Nat → Int) (j4 : Int) (g5 : Nat → Int) : Option ρ :=
  (if (decide (j4 < (h0 1))) = true then (lp1 0 g5) else (out0 g5))

noncomputable def spec_l03Pairs.a0_0 {ρ : Type} (N : Nat) (K0 : (Nat → Int) → Option ρ) (o17 : Nat → Int) : Option ρ :=
  (K0 o17)

noncomputable def spec_l03Pairs.l2 {ρ : Type} (N : Nat) (K0 : (Nat → Int) → Option ρ) (h0 : Nat → Int) (h1 : Nat → Int) (j4 : Int) (l6 : Int) (r10 : Nat → Int) (out0 : (Nat → Int) → Option ρ) : Nat → Int → (Nat → Int) → Option ρ
  | 0, _, _ => none
  | m + 1, x12, g13 => (spec_l03Pairs.b2 N K0 ((spec_l03Pairs.l2 N K0 h0 h1 j4 l6 r10 out0 m)) out0 h0 h1 j4 l6 r10 x12 g13)

noncomputable def spec_l03Pairs.l1 {ρ : Type} (N : Nat) (K0 : (Nat → Int) → Option ρ) (h0 : Nat → Int) (h1 : Nat → Int) (f2 : Nat → Int) (g3 : Nat → Int) (j4 : Int) (out0 : (Nat → Int) → Option ρ) : Nat → Int → (Nat → Int) → Option ρ
  | 0, _, _ => none
  | m + 1, l6, g7 => (spec_l03Pairs.b1 N K0 (fun r10 x12 g13 => (spec_l03Pairs.l2 N K0 h0 h1 j4 l6 r10 (fun o15 => (spec_l03Pairs.a2_0 N K0 (spec_l03Pairs.l1 N K0 h0 h1 f2 g3 j4 out0 m) out0 l6 o15)) N x12 g13)) ((spec_l03Pairs.l1 N K0 h0 h1 f2 g3 j4 out0 m)) out0 h0 h1 f2 g3 j4 l6 g7)

noncomputable def spec_l03Pairs.l0 {ρ : Type} (N : Nat) (K0 : (Nat → Int) → Option ρ) (h0 : Nat → Int) (h1 : Nat → Int) (f2 : Nat → Int) (g3 : Nat → Int) (out0 : (Nat → Int) → Option ρ) : Nat → Int → (Nat → Int) → Option ρ
  | 0, _, _ => none
  | m + 1, j4, g5 => (spec_l03Pairs.b0 N K0 (fun l6 g7 => (spec_l03Pairs.l1 N K0 h0 h1 f2 g3 j4 (fun o16 => (spec_l03Pairs.a1_0 N K0 (spec_l03Pairs.l0 N K0 h0 h1 f2 g3 out0 m) out0 j4 o16)) N l6 g7)) ((spec_l03Pairs.l0 N K0 h0 h1 f2 g3 out0 m)) out0 h0 j4 g5)

noncomputable def spec_l03Pairs.s {ρ : Type} (N : Nat) (K0 : (Nat → Int) → Option ρ) (lp0 : Int → (Nat → Int) → Option ρ) : Option ρ :=
  (lp0 0 (fun _ => 0))

noncomputable def spec_l03Pairs {ρ : Type} (N : Nat) (K0 : (Nat → Int) → Option ρ) (h0 : Nat → Int) (h1 : Nat → Int) (f2 : Nat → Int) (g3 : Nat → Int) : Option ρ :=
  (spec_l03Pairs.s N K0 (fun j4 g5 => (spec_l03Pairs.l0 N K0 h0 h1 f2 g3 (fun o17 => (spec_l03Pairs.a0_0 N K0 o17)) N j4 g5)))

noncomputable def spec_l03Counit.b0 {ρ : Type} (N : Nat) (K0 : Int → Option ρ) (rec : Int → Int → Option ρ) (out0 : Int → Option ρ) (h0 : Nat → Int) (h1 : Nat → Int) (v2 : Nat → Int) (out3 : Int) (i4 : Int) : Option ρ :=
  (if (decide (i4 < (h0 1))) = true then (if (0 : Int) ≤ i4 ∧ i4 < 8 then (if (0 : Int) ≤ i4 ∧ i4 < 8 then (rec ((IntKind.i64.wrap (out3 + (IntKind.i64.wrap ((IntKind.i64.wrap (v2 (i4.toNat * 1))) * (IntKind.i64.wrap (h1 (520 + (i4.toNat * 1))))))))) ((IntKind.i64.wrap (i4 + 1)))) else none) else none) else (out0 out3))

noncomputable def spec_l03Counit.a0_0 {ρ : Type} (N : Nat) (K0 : Int → Option ρ) (h0 : Nat → Int) (o5 : Int) : Option ρ :=
  (if (h0 0) = 0 then none else (K0 ((Int.tmod o5 (h0 0)))))

noncomputable def spec_l03Counit.l0 {ρ : Type} (N : Nat) (K0 : Int → Option ρ) (h0 : Nat → Int) (h1 : Nat → Int) (v2 : Nat → Int) (out0 : Int → Option ρ) : Nat → Int → Int → Option ρ
  | 0, _, _ => none
  | m + 1, out3, i4 => (spec_l03Counit.b0 N K0 ((spec_l03Counit.l0 N K0 h0 h1 v2 out0 m)) out0 h0 h1 v2 out3 i4)

noncomputable def spec_l03Counit.s {ρ : Type} (N : Nat) (K0 : Int → Option ρ) (lp0 : Int → Int → Option ρ) : Option ρ :=
  (lp0 0 0)

noncomputable def spec_l03Counit {ρ : Type} (N : Nat) (K0 : Int → Option ρ) (h0 : Nat → Int) (h1 : Nat → Int) (v2 : Nat → Int) : Option ρ :=
  (spec_l03Counit.s N K0 (fun out3 i4 => (spec_l03Counit.l0 N K0 h0 h1 v2 (fun o5 => (spec_l03Counit.a0_0 N K0 h0 o5)) N out3 i4)))

noncomputable def spec_l03Bialgebra.b1 {ρ : Type} (N : Nat) (K0 : Int → Option ρ) (rec : Int → Option ρ) (out0 : Option ρ) (h0 : Nat → Int) (h1 : Nat → Int) (i8 : Int) (j9 : Int) : Option ρ :=
  (if (decide (j9 < (h0 1))) = true then (if (0 : Int) ≤ i8 ∧ i8 < 8 then (if (0 : Int) ≤ j9 ∧ j9 < 8 then (spec_l03Coproduct N (fun r10 => (if (0 : Int) ≤ i8 ∧ i8 < 8 then (if (0 : Int) ≤ j9 ∧ j9 < 8 then (spec_l03Pairs N (fun r11 => (if (!eqN 64 r10 r11) = true then (K0 3) else (rec ((IntKind.i64.wrap (j9 + 1)))))) h0 h1 (fun z => (h1 ((528 + (i8.toNat * 64)) + z))) (fun z => (h1 ((528 + (j9.toNat * 64)) + z)))) else none) else none)) h0 h1 (fun z => (h1 (((8 + (i8.toNat * 64)) + (j9.toNat * 8)) + z)))) else none) else none) else out0)

noncomputable def spec_l03Bialgebra.a1_0 {ρ : Type} (N : Nat) (K0 : Int → Option ρ) (rec : Int → Option ρ) (out0 : Option ρ) (i8 : Int) : Option ρ :=
  (rec ((IntKind.i64.wrap (i8 + 1))))

noncomputable def spec_l03Bialgebra.b4 {ρ : Type} (N : Nat) (K0 : Int → Option ρ) (rec : Int → Option ρ) (out0 : Option ρ) (h0 : Nat → Int) (h1 : Nat → Int) (i15 : Int) (j16 : Int) : Option ρ :=
  (if (decide (j16 < (h0 1))) = true then (if (0 : Int) ≤ i15 ∧ i15 < 8 then (if (0 : Int) ≤ j16 ∧ j16 < 8 then (spec_l03Counit N (fun r17 => (if (0 : Int) ≤ i15 ∧ i15 < 8 then (if (0 : Int) ≤ j16 ∧ j16 < 8 then (if (h0 0) = 0 then none else (if (r17 != (Int.tmod (IntKind.i64.wrap ((IntKind.i64.wrap (h1 (520 + (i15.toNat * 1)))) * (IntKind.i64.wrap (h1 (520 + (j16.toNat * 1)))))) (h0 0))) = true then (K0 5) else (rec ((IntKind.i64.wrap (j16 + 1)))))) else none) else none)) h0 h1 (fun z => (h1 (((8 + (i15.toNat * 64)) + (j16.toNat * 8)) + z)))) else none) else none) else out0)

noncomputable def spec_l03Bialgebra.a4_0 {ρ : Type} (N : Nat) (K0 : Int → Option ρ) (rec : Int → Option ρ) (out0 : Option ρ) (i15 : Int) : Option ρ :=
  (rec ((IntKind.i64.wrap (i15 + 1))))

noncomputable def spec_l03Bialgebra.b3 {ρ : Type} (N : Nat) (K0 : Int → Option ρ) (lp4 : Int → Option ρ) (rec : Int → Option ρ) (out0 : Option ρ) (h0 : Nat → Int) (i15 : Int) : Option ρ :=
  (if (decide (i15 < (h0 1))) = true then (lp4 0) else out0)

noncomputable def spec_l03Bialgebra.a3_0 {ρ : Type} (N : Nat) (K0 : Int → Option ρ) (h0 : Nat → Int) (h1 : Nat → Int) : Option ρ :=
  (spec_l03Counit N (fun r18 => (if (r18 != 1) = true then (K0 5) else (K0 0))) h0 h1 (fun z => (h1 (0 + z))))

noncomputable def spec_l03Bialgebra.b2 {ρ : Type} (N : Nat) (K0 : Int → Option ρ) (rec : Int → Option ρ) (out0 : Option ρ) (h0 : Nat → Int) (h1 : Nat → Int) (r12 : Nat → Int) (j13 : Int) : Option ρ :=
  (if (decide (j13 < (h0 1))) = true then (if (0 : Int) ≤ j13 ∧ j13 < 8 then (if (0 : Int) ≤ j13 ∧ j13 < 8 then (spec_l01Add N (fun r14 => (if (!eqN 8 (fun z => (r12 ((j13.toNat * 8) + z))) r14) = true then (K0 4) else (rec ((IntKind.i64.wrap (j13 + 1)))))) ((h0 0)) (fun _ => 0) (fun z => (h1 (0 + z))) ((IntKind.i64.wrap (h1 (0 + (j13.toNat * 1)))))) else none) else none) else out0)

noncomputable def spec_l03Bialgebra.a2_0 {ρ : Type} (N : Nat) (K0 : Int → Option ρ) (lp3 : Int → Option ρ) : Option ρ :=
  (lp3 0)

noncomputable def spec_l03Bialgebra.b0 {ρ : Type} (N : Nat) (K0 : Int → Option ρ) (lp1 : Int → Option ρ) (rec : Int → Option ρ) (out0 : Option ρ) (h0 : Nat → Int) (i8 : Int) : Option ρ :=
  (if (decide (i8 < (h0 1))) = true then (lp1 0) else out0)

noncomputable def spec_l03Bialgebra.a0_0 {ρ : Type} (N : Nat) (K0 : Int → Option ρ) (lp2 : (Nat → Int) → Int → Option ρ) (h0 : Nat → Int) (h1 : Nat → Int) : Option ρ :=
  (spec_l03Coproduct N (fun r12 => (lp2 r12 0)) h0 h1 (fun z => (h1 (0 + z))))

noncomputable def spec_l03Bialgebra.l1 {ρ : Type} (N : Nat) (K0 : Int → Option ρ) (h0 : Nat → Int) (h1 : Nat → Int) (i8 : Int) (out0 : Option ρ) : Nat → Int → Option ρ
  | 0, _ => none
  | m + 1, j9 => (spec_l03Bialgebra.b1 N K0 ((spec_l03Bialgebra.l1 N K0 h0 h1 i8 out0 m)) out0 h0 h1 i8 j9)

noncomputable def spec_l03Bialgebra.l4 {ρ : Type} (N : Nat) (K0 : Int → Option ρ) (h0 : Nat → Int) (h1 : Nat → Int) (i15 : Int) (out0 : Option ρ) : Nat → Int → Option ρ
  | 0, _ => none
  | m + 1, j16 => (spec_l03Bialgebra.b4 N K0 ((spec_l03Bialgebra.l4 N K0 h0 h1 i15 out0 m)) out0 h0 h1 i15 j16)

noncomputable def spec_l03Bialgebra.l3 {ρ : Type} (N : Nat) (K0 : Int → Option ρ) (h0 : Nat → Int) (h1 : Nat → Int) (out0 : Option ρ) : Nat → Int → Option ρ
  | 0, _ => none
  | m + 1, i15 => (spec_l03Bialgebra.b3 N K0 (fun j16 => (spec_l03Bialgebra.l4 N K0 h0 h1 i15 (spec_l03Bialgebra.a4_0 N K0 (spec_l03Bialgebra.l3 N K0 h0 h1 out0 m) out0 i15) N j16)) ((spec_l03Bialgebra.l3 N K0 h0 h1 out0 m)) out0 h0 i15)

noncomputable def spec_l03Bialgebra.l2 {ρ : Type} (N : Nat) (K0 : Int → Option ρ) (h0 : Nat → Int) (h1 : Nat → Int) (r12 : Nat → Int) (out0 : Option ρ) : Nat → Int → Option ρ
  | 0, _ => none
  | m + 1, j13 => (spec_l03Bialgebra.b2 N K0 ((spec_l03Bialgebra.l2 N K0 h0 h1 r12 out0 m)) out0 h0 h1 r12 j13)

noncomputable def spec_l03Bialgebra.l0 {ρ : Type} (N : Nat) (K0 : Int → Option ρ) (h0 : Nat → Int) (h1 : Nat → Int) (out0 : Option ρ) : Nat → Int → Option ρ
  | 0, _ => none
  | m + 1, i8 => (spec_l03Bialgebra.b0 N K0 (fun j9 => (spec_l03Bialgebra.l1 N K0 h0 h1 i8 (spec_l03Bialgebra.a1_0 N K0 (spec_l03Bialgebra.l0 N K0 h0 h1 out0 m) out0 i8) N j9)) ((spec_l03Bialgebra.l0 N K0 h0 h1 out0 m)) out0 h0 i8)

noncomputable def spec_l03Bialgebra.s {ρ : Type} (N : Nat) (K0 : Int → Option ρ) (lp0 : (Nat → Int) → (Nat → Int) → Int → Option ρ) (h0 : Nat → Int) (h1 : Nat → Int) : Option ρ :=
  (spec_l03Algebra N (fun r2 r3 => (spec_l01Is N (fun r4 => (if (!r4) = true then (K0 1) else (spec_l03Coalgebra N (fun r5 r6 => (spec_l02Is N (fun r7 => (if (!r7) = true then (K0 2) else (lp0 r2 r3 0))) r5 r6)) h0 h1))) r2 r3)) h0 h1)

noncomputable def spec_l03Bialgebra {ρ : Type} (N : Nat) (K0 : Int → Option ρ) (h0 : Nat → Int) (h1 : Nat → Int) : Option ρ :=
  (spec_l03Bialgebra.s N K0 (fun r2 r3 i8 => (spec_l03Bialgebra.l0 N K0 h0 h1 (spec_l03Bialgebra.a0_0 N K0 (fun r12 j13 => (spec_l03Bialgebra.l2 N K0 h0 h1 r12 (spec_l03Bialgebra.a2_0 N K0 (fun i15 => (spec_l03Bialgebra.l3 N K0 h0 h1 (spec_l03Bialgebra.a3_0 N K0 h0 h1) N i15))) N j13)) h0 h1) N i8)) h0 h1)

noncomputable def spec_l03Folded.b1 {ρ : Type} (N : Nat) (K0 : (Nat → Int) → Option ρ) (rec : Int → (Nat → Int) → Option ρ) (out0 : (Nat → Int) → Option ρ) (h0 : Nat → Int) (h1 : Nat → Int) (i2 : Int) (s3 : Nat → Int) (behind4 : Bool) (r5 : Nat → Int) (r6 : Nat → Int) (j7 : Int) (k9 : Int) (g10 : Nat → Int) : Option ρ :=
  (if (decide (k9 < (h0 1))) = true then (if (0 : Int) ≤ i2 ∧ i2 < 8 then (if (0 : Int) ≤ j7 ∧ j7 < 8 then (if (0 : Int) ≤ k9 ∧ k9 < 8 then (if ((IntKind.i64.wrap (h1 (((528 + (i2.toNat * 64)) + (j7.toNat * 8)) + (k9.toNat * 1)))) != 0) = true then (if (0 : Int) ≤ j7 ∧ j7 < 8 then (spec_l01Basis N (fun r11 => (spec_l01Times N (fun r12 => (if behind4 = true then (spec_l01Basis N (fun r13 => (if (0 : Int) ≤ k9 ∧ k9 < 8 then (spec_l01Times N (fun r14 => (spec_l01Add N (fun r15 => (rec ((IntKind.i64.wrap (k9 + 1))) r15)) ((h0 0)) g10 r14 ((IntKind.i64.wrap (h1 (((528 + (i2.toNat * 64)) + (j7.toNat * 8)) + (k9.toNat * 1))))))) r5 r6 r13 (fun z => (s3 ((k9.toNat * 8) + z)))) else none)) j7) else (spec_l01Add N (fun r16 => (rec ((IntKind.i64.wrap (k9 + 1))) r16)) ((h0 0)) g10 r12 ((IntKind.i64.wrap (h1 (((528 + (i2.toNat * 64)) + (j7.toNat * 8)) + (k9.toNat * 1)))))))) r5 r6 (fun z => (s3 ((j7.toNat * 8) + z))) r11)) k9) else none) else (rec ((IntKind.i64.wrap (k9 + 1))) g10)) else none) else none) else none) else (out0 g10))

noncomputable def spec_l03Folded.a1_0 {ρ : Type} (N : Nat) (K0 : (Nat → Int) → Option ρ) (rec : Int → (Nat → Int) → Option ρ) (out0 : (Nat → Int) → Option ρ) (j7 : Int) (o17 : Nat → Int) : Option ρ :=
  (rec ((IntKind.i64.wrap (j7 + 1))) o17)

noncomputable def spec_l03Folded.b0 {ρ : Type} (N : Nat) (K0 : (Nat → Int) → Option ρ) (lp1 : Int → (Nat → Int) → Option ρ) (rec : Int → (Nat → Int) → Option ρ) (out0 : (Nat → Int) → Option ρ) (h0 : Nat → Int) (j7 : Int) (g8 : Nat → Int) : Option ρ :=
  (if (decide (j7 < (h0 1))) = true then (lp1 0 g8) else (out0 g8))

noncomputable def spec_l03Folded.a0_0 {ρ : Type} (N : Nat) (K0 : (Nat → Int) → Option ρ) (o18 : Nat → Int) : Option ρ :=
  (K0 o18)

noncomputable def spec_l03Folded.l1 {ρ : Type} (N : Nat) (K0 : (Nat → Int) → Option ρ) (h0 : Nat → Int) (h1 : Nat → Int) (i2 : Int) (s3 : Nat → Int) (behind4 : Bool) (r5 : Nat → Int) (r6 : Nat → Int) (j7 : Int) (out0 : (Nat → Int) → Option ρ) : Nat → Int → (Nat → Int) → Option ρ
  | 0, _, _ => none
  | m + 1, k9, g10 => (spec_l03Folded.b1 N K0 ((spec_l03Folded.l1 N K0 h0 h1 i2 s3 behind4 r5 r6 j7 out0 m)) out0 h0 h1 i2 s3 behind4 r5 r6 j7 k9 g10)

noncomputable def spec_l03Folded.l0 {ρ : Type} (N : Nat) (K0 : (Nat → Int) → Option ρ) (h0 : Nat → Int) (h1 : Nat → Int) (i2 : Int) (s3 : Nat → Int) (behind4 : Bool) (r5 : Nat → Int) (r6 : Nat → Int) (out0 : (Nat → Int) → Option ρ) : Nat → Int → (Nat → Int) → Option ρ
  | 0, _, _ => none
  | m + 1, j7, g8 => (spec_l03Folded.b0 N K0 (fun k9 g10 => (spec_l03Folded.l1 N K0 h0 h1 i2 s3 behind4 r5 r6 j7 (fun o17 => (spec_l03Folded.a1_0 N K0 (spec_l03Folded.l0 N K0 h0 h1 i2 s3 behind4 r5 r6 out0 m) out0 j7 o17)) N k9 g10)) ((spec_l03Folded.l0 N K0 h0 h1 i2 s3 behind4 r5 r6 out0 m)) out0 h0 j7 g8)

noncomputable def spec_l03Folded.s {ρ : Type} (N : Nat) (K0 : (Nat → Int) → Option ρ) (lp0 : (Nat → Int) → (Nat → Int) → Int → (Nat → Int) → Option ρ) (h0 : Nat → Int) (h1 : Nat → Int) : Option ρ :=
  (spec_l03Algebra N (fun r5 r6 => (lp0 r5 r6 0 (fun _ => 0))) h0 h1)

noncomputable def spec_l03Folded {ρ : Type} (N : Nat) (K0 : (Nat → Int) → Option ρ) (h0 : Nat → Int) (h1 : Nat → Int) (i2 : Int) (s3 : Nat → Int) (behind4 : Bool) : Option ρ :=
  (spec_l03Folded.s N K0 (fun r5 r6 j7 g8 => (spec_l03Folded.l0 N K0 h0 h1 i2 s3 behind4 r5 r6 (fun o18 => (spec_l03Folded.a0_0 N K0 o18)) N j7 g8)) h0 h1)

noncomputable def spec_l03Antipode.b0 {ρ : Type} (N : Nat) (K0 : Bool → Option ρ) (rec : Int → Option ρ) (out0 : Option ρ) (h0 : Nat → Int) (h1 : Nat → Int) (s2 : Nat → Int) (behind3 : Bool) (i4 : Int) : Option ρ :=
  (if (decide (i4 < (h0 1))) = true then (spec_l03Folded N (fun r5 => (if (0 : Int) ≤ i4 ∧ i4 < 8 then (spec_l01Add N (fun r6 => (if (!eqN 8 r5 r6) = true then (K0 false) else (rec ((IntKind.i64.wrap (i4 + 1)))))) ((h0 0)) (fun _ => 0) (fun z => (h1 (0 + z))) ((IntKind.i64.wrap (h1 (520 + (i4.toNat * 1)))))) else none)) h0 h1 i4 s2 (behind3)) else out0)

noncomputable def spec_l03Antipode.a0_0 {ρ : Type} (N : Nat) (K0 : Bool → Option ρ) : Option ρ :=
  (K0 true)

noncomputable def spec_l03Antipode.l0 {ρ : Type} (N : Nat) (K0 : Bool → Option ρ) (h0 : Nat → Int) (h1 : Nat → Int) (s2 : Nat → Int) (behind3 : Bool) (out0 : Option ρ) : Nat → Int → Option ρ
  | 0, _ => none
  | m + 1, i4 => (spec_l03Antipode.b0 N K0 ((spec_l03Antipode.l0 N K0 h0 h1 s2 behind3 out0 m)) out0 h0 h1 s2 behind3 i4)

noncomputable def spec_l03Antipode.s {ρ : Type} (N : Nat) (K0 : Bool → Option ρ) (lp0 : Int → Option ρ) : Option ρ :=
  (lp0 0)

noncomputable def spec_l03Antipode {ρ : Type} (N : Nat) (K0 : Bool → Option ρ) (h0 : Nat → Int) (h1 : Nat → Int) (s2 : Nat → Int) (behind3 : Bool) : Option ρ :=
  (spec_l03Antipode.s N K0 (fun i4 => (spec_l03Antipode.l0 N K0 h0 h1 s2 behind3 (spec_l03Antipode.a0_0 N K0) N i4)))

noncomputable def spec_l03Fails {ρ : Type} (N : Nat) (K0 : Int → Option ρ) (h0 : Nat → Int) (h1 : Nat → Int) : Option ρ :=
  (spec_l03Bialgebra N (fun r2 => (if (r2 != 0) = true then (K0 r2) else (spec_l03Antipode N (fun r3 => (if (!r3) = true then (K0 6) else (spec_l03Antipode N (fun r4 => (if (!r4) = true then (K0 7) else (K0 0))) h0 h1 (fun z => (h1 (1040 + z))) true))) h0 h1 (fun z => (h1 (1040 + z))) false))) h0 h1)

noncomputable def spec_l03Is {ρ : Type} (N : Nat) (K0 : Bool → Option ρ) (h0 : Nat → Int) (h1 : Nat → Int) : Option ρ :=
  (spec_l03Shape N (fun r2 => (if r2 = true then (spec_l03Fails N (fun r3 => (K0 ((r3 == 0)))) h0 h1) else (K0 false))) h0 h1)

noncomputable def spec_IsHopf {ρ : Type} (N : Nat) (K0 : Bool → Option ρ) (h0 : Nat → Int) (h1 : Nat → Int) : Option ρ :=
  (spec_l03Is N (fun r2 => (K0 (r2))) h0 h1)

noncomputable def impl_Hopf_algebra {ρ : Type} (N : Nat) (K0 : (Nat → Int) → (Nat → Int) → Option ρ) (g0 : Nat → Int) (g1 : Nat → Int) : Option ρ :=
  (K0 (upd (upd (fun _ => 0) 0 (g0 0)) 1 (g0 1)) (updN (updN (fun _ => 0) 0 8 (fun z => (g1 (0 + z)))) 8 512 (fun z => (g1 (8 + z)))))

noncomputable def impl_IsPrime.b0 {ρ : Type} (N : Nat) (K0 : Bool → Option ρ) (rec : Int → Option ρ) (out0 : Option ρ) (p0 : Int) (k1 : Int) : Option ρ :=
  (if (decide ((IntKind.i64.wrap (k1 * k1)) ≤ p0)) = true then (if k1 = 0 then none else (if ((Int.tmod p0 k1) == 0) = true then (K0 false) else (rec ((IntKind.i64.wrap (k1 + 1)))))) else out0)

noncomputable def impl_IsPrime.a0_0 {ρ : Type} (N : Nat) (K0 : Bool → Option ρ) : Option ρ :=
  (K0 true)

noncomputable def impl_IsPrime.l0 {ρ : Type} (N : Nat) (K0 : Bool → Option ρ) (p0 : Int) (out0 : Option ρ) : Nat → Int → Option ρ
  | 0, _ => none
  | m + 1, k1 => (impl_IsPrime.b0 N K0 ((impl_IsPrime.l0 N K0 p0 out0 m)) out0 p0 k1)

noncomputable def impl_IsPrime.s {ρ : Type} (N : Nat) (K0 : Bool → Option ρ) (lp0 : Int → Option ρ) (p0 : Int) : Option ρ :=
  (if (decide (p0 < 2)) = true then (K0 false) else (if (decide (p0 > 31)) = true then (K0 false) else (lp0 2)))

noncomputable def impl_IsPrime {ρ : Type} (N : Nat) (K0 : Bool → Option ρ) (p0 : Int) : Option ρ :=
  (impl_IsPrime.s N K0 (fun k1 => (impl_IsPrime.l0 N K0 p0 (impl_IsPrime.a0_0 N K0) N k1)) p0)

noncomputable def impl_in {ρ : Type} (N : Nat) (K0 : Bool → Option ρ) (x0 : Int) (least1 : Int) (most2 : Int) : Option ρ :=
  (if (decide (least1 ≤ x0)) = true then (K0 ((decide (x0 ≤ most2)))) else (K0 false))

noncomputable def impl_IsVector.b0 {ρ : Type} (N : Nat) (K0 : Bool → Option ρ) (rec : Int → Option ρ) (out0 : Option ρ) (p0 : Int) (n1 : Int) (v2 : Nat → Int) (x5 : Int) : Option ρ :=
  (if (decide (x5 < 8)) = true then (if (0 : Int) ≤ x5 ∧ x5 < 8 then (if (decide ((IntKind.i64.wrap (v2 x5.toNat)) ≥ p0)) = true then (K0 false) else (if (decide (x5 ≥ n1)) = true then (if ((v2 x5.toNat) != 0) = true then (K0 false) else (rec ((IntKind.i64.wrap (x5 + 1))))) else (rec ((IntKind.i64.wrap (x5 + 1)))))) else none) else out0)

noncomputable def impl_IsVector.a0_0 {ρ : Type} (N : Nat) (K0 : Bool → Option ρ) : Option ρ :=
  (K0 true)

noncomputable def impl_IsVector.l0 {ρ : Type} (N : Nat) (K0 : Bool → Option ρ) (p0 : Int) (n1 : Int) (v2 : Nat → Int) (out0 : Option ρ) : Nat → Int → Option ρ
  | 0, _ => none
  | m + 1, x5 => (impl_IsVector.b0 N K0 ((impl_IsVector.l0 N K0 p0 n1 v2 out0 m)) out0 p0 n1 v2 x5)

noncomputable def impl_IsVector.s {ρ : Type} (N : Nat) (K0 : Bool → Option ρ) (lp0 : Int → Option ρ) (p0 : Int) (n1 : Int) : Option ρ :=
  (impl_IsPrime N (fun r3 => (if (!r3) = true then (K0 false) else (impl_in N (fun r4 => (if (!r4) = true then (K0 false) else (lp0 0))) n1 1 8))) p0)

noncomputable def impl_IsVector {ρ : Type} (N : Nat) (K0 : Bool → Option ρ) (p0 : Int) (n1 : Int) (v2 : Nat → Int) : Option ρ :=
  (impl_IsVector.s N K0 (fun x5 => (impl_IsVector.l0 N K0 p0 n1 v2 (impl_IsVector.a0_0 N K0) N x5)) p0 n1)

noncomputable def impl_isLinear.b0 {ρ : Type} (N : Nat) (K0 : Bool → Option ρ) (rec : Int → Option ρ) (out0 : Option ρ) (p0 : Int) (n1 : Int) (size2 : Int) (g3 : Nat → Int) (x4 : Int) : Option ρ :=
  (if (decide (x4 < 8)) = true then (if (0 : Int) ≤ x4 ∧ x4 < 8 then (impl_IsVector N (fun r5 => (if (!r5) = true then (K0 false) else (if (decide (x4 ≥ n1)) = true then (if (!eqN 8 (fun z => (g3 ((x4.toNat * 8) + z))) (fun _ => 0)) = true then (K0 false) else (rec ((IntKind.i64.wrap (x4 + 1))))) else (rec ((IntKind.i64.wrap (x4 + 1))))))) p0 size2 (fun z => (g3 ((x4.toNat * 8) + z)))) else none) else out0)

noncomputable def impl_isLinear.a0_0 {ρ : Type} (N : Nat) (K0 : Bool → Option ρ) : Option ρ :=
  (K0 true)

noncomputable def impl_isLinear.l0 {ρ : Type} (N : Nat) (K0 : Bool → Option ρ) (p0 : Int) (n1 : Int) (size2 : Int) (g3 : Nat → Int) (out0 : Option ρ) : Nat → Int → Option ρ
  | 0, _ => none
  | m + 1, x4 => (impl_isLinear.b0 N K0 ((impl_isLinear.l0 N K0 p0 n1 size2 g3 out0 m)) out0 p0 n1 size2 g3 x4)

noncomputable def impl_isLinear.s {ρ : Type} (N : Nat) (K0 : Bool → Option ρ) (lp0 : Int → Option ρ) : Option ρ :=
  (lp0 0)

noncomputable def impl_isLinear {ρ : Type} (N : Nat) (K0 : Bool → Option ρ) (p0 : Int) (n1 : Int) (size2 : Int) (g3 : Nat → Int) : Option ρ :=
  (impl_isLinear.s N K0 (fun x4 => (impl_isLinear.l0 N K0 p0 n1 size2 g3 (impl_isLinear.a0_0 N K0) N x4)))

noncomputable def impl_isTable.b0 {ρ : Type} (N : Nat) (K0 : Bool → Option ρ) (rec : Int → Option ρ) (out0 : Option ρ) (p0 : Int) (n1 : Int) (g2 : Nat → Int) (x3 : Int) : Option ρ :=
  (if (decide (x3 < 8)) = true then (if (0 : Int) ≤ x3 ∧ x3 < 8 then (impl_isLinear N (fun r4 => (if (!r4) = true then (K0 false) else (if (decide (x3 ≥ n1)) = true then (if (0 : Int) ≤ x3 ∧ x3 < 8 then (if (!eqN 64 (fun z => (g2 ((x3.toNat * 64) + z))) (fun _ => 0)) = true then (K0 false) else (rec ((IntKind.i64.wrap (x3 + 1))))) else none) else (rec ((IntKind.i64.wrap (x3 + 1))))))) p0 n1 n1 (fun z => (g2 ((x3.toNat * 64) + z)))) else none) else out0)

noncomputable def impl_isTable.a0_0 {ρ : Type} (N : Nat) (K0 : Bool → Option ρ) : Option ρ :=
  (K0 true)

noncomputable def impl_isTable.l0 {ρ : Type} (N : Nat) (K0 : Bool → Option ρ) (p0 : Int) (n1 : Int) (g2 : Nat → Int) (out0 : Option ρ) : Nat → Int → Option ρ
  | 0, _ => none
  | m + 1, x3 => (impl_isTable.b0 N K0 ((impl_isTable.l0 N K0 p0 n1 g2 out0 m)) out0 p0 n1 g2 x3)

noncomputable def impl_isTable.s {ρ : Type} (N : Nat) (K0 : Bool → Option ρ) (lp0 : Int → Option ρ) : Option ρ :=
  (lp0 0)

noncomputable def impl_isTable {ρ : Type} (N : Nat) (K0 : Bool → Option ρ) (p0 : Int) (n1 : Int) (g2 : Nat → Int) : Option ρ :=
  (impl_isTable.s N K0 (fun x3 => (impl_isTable.l0 N K0 p0 n1 g2 (impl_isTable.a0_0 N K0) N x3)))

noncomputable def impl_Algebra_isShaped {ρ : Type} (N : Nat) (K0 : Bool → Option ρ) (g0 : Nat → Int) (g1 : Nat → Int) : Option ρ :=
  (impl_IsVector N (fun r2 => (if r2 = true then (impl_isTable N (fun r3 => (K0 (r3))) ((g0 0)) ((g0 1)) (fun z => (g1 (8 + z)))) else (K0 false))) ((g0 0)) ((g0 1)) (fun z => (g1 (0 + z))))

noncomputable def impl_Hopf_coalgebra {ρ : Type} (N : Nat) (K0 : (Nat → Int) → (Nat → Int) → Option ρ) (g0 : Nat → Int) (g1 : Nat → Int) : Option ρ :=
  (K0 (upd (upd (fun _ => 0) 0 (g0 0)) 1 (g0 1)) (updN (updN (fun _ => 0) 0 8 (fun z => (g1 (520 + z)))) 8 512 (fun z => (g1 (528 + z)))))

noncomputable def impl_Coalgebra_isShaped {ρ : Type} (N : Nat) (K0 : Bool → Option ρ) (g0 : Nat → Int) (g1 : Nat → Int) : Option ρ :=
  (impl_IsVector N (fun r2 => (if r2 = true then (impl_isTable N (fun r3 => (K0 (r3))) ((g0 0)) ((g0 1)) (fun z => (g1 (8 + z)))) else (K0 false))) ((g0 0)) ((g0 1)) (fun z => (g1 (0 + z))))

noncomputable def impl_Hopf_isShaped {ρ : Type} (N : Nat) (K0 : Bool → Option ρ) (g0 : Nat → Int) (g1 : Nat → Int) : Option ρ :=
  (impl_Hopf_algebra N (fun r2 r3 => (impl_Algebra_isShaped N (fun r4 => (if r4 = true then (impl_Hopf_coalgebra N (fun r5 r6 => (impl_Coalgebra_isShaped N (fun r7 => (if r7 = true then (impl_isLinear N (fun r8 => (K0 (r8))) ((g0 0)) ((g0 1)) ((g0 1)) (fun z => (g1 (1040 + z)))) else (K0 false))) r5 r6)) g0 g1) else (K0 false))) r2 r3)) g0 g1)

noncomputable def impl_basis {ρ : Type} (N : Nat) (K0 : (Nat → Int) → Option ρ) (i0 : Int) : Option ρ :=
  (if (0 : Int) ≤ i0 ∧ i0 < 8 then (K0 (upd (fun _ => 0) (i0.toNat * 1) 1)) else none)

noncomputable def impl_Algebra_field {ρ : Type} (N : Nat) (K0 : (Nat → Int) → Option ρ) (g0 : Nat → Int) (g1 : Nat → Int) : Option ρ :=
  (K0 (upd (upd (fun _ => 0) 0 (g0 0)) 1 (g0 1)))

noncomputable def impl_field_mod {ρ : Type} (N : Nat) (K0 : Int → Option ρ) (f0 : Nat → Int) (x1 : Int) : Option ρ :=
  (if (f0 0) = 0 then none else (if (decide ((Int.tmod x1 (f0 0)) < 0)) = true then (K0 ((IntKind.u8.wrap (IntKind.i64.wrap ((Int.tmod x1 (f0 0)) + (f0 0)))))) else (K0 ((IntKind.u8.wrap (Int.tmod x1 (f0 0)))))))

noncomputable def impl_field_plus.b0 {ρ : Type} (N : Nat) (K0 : (Nat → Int) → Option ρ) (rec : Int → (Nat → Int) → Option ρ) (out0 : (Nat → Int) → Option ρ) (f0 : Nat → Int) (k1 : Int) (w2 : Nat → Int) (x4 : Int) (g5 : Nat → Int) : Option ρ :=
  (if (decide (x4 < 8)) = true then (if (0 : Int) ≤ x4 ∧ x4 < 8 then (if (0 : Int) ≤ x4 ∧ x4 < 8 then (impl_field_mod N (fun r6 => (if (0 : Int) ≤ x4 ∧ x4 < 8 then (rec ((IntKind.i64.wrap (x4 + 1))) (upd g5 (x4.toNat * 1) r6)) else none)) f0 ((IntKind.i64.wrap ((IntKind.i64.wrap (g5 (x4.toNat * 1))) + (IntKind.i64.wrap (k1 * (IntKind.i64.wrap (w2 x4.toNat)))))))) else none) else none) else (out0 g5))

noncomputable def impl_field_plus.a0_0 {ρ : Type} (N : Nat) (K0 : (Nat → Int) → Option ρ) (o7 : Nat → Int) : Option ρ :=
  (K0 o7)

noncomputable def impl_field_plus.l0 {ρ : Type} (N : Nat) (K0 : (Nat → Int) → Option ρ) (f0 : Nat → Int) (k1 : Int) (w2 : Nat → Int) (out0 : (Nat → Int) → Option ρ) : Nat → Int → (Nat → Int) → Option ρ
  | 0, _, _ => none
  | m + 1, x4, g5 => (impl_field_plus.b0 N K0 ((impl_field_plus.l0 N K0 f0 k1 w2 out0 m)) out0 f0 k1 w2 x4 g5)

noncomputable def impl_field_plus.s {ρ : Type} (N : Nat) (K0 : (Nat → Int) → Option ρ) (lp0 : Int → (Nat → Int) → Option ρ) (k1 : Int) (g3 : Nat → Int) : Option ρ :=
  (if (k1 == 0) = true then (K0 g3) else (lp0 0 g3))

noncomputable def impl_field_plus {ρ : Type} (N : Nat) (K0 : (Nat → Int) → Option ρ) (f0 : Nat → Int) (k1 : Int) (w2 : Nat → Int) (g3 : Nat → Int) : Option ρ :=
  (impl_field_plus.s N K0 (fun x4 g5 => (impl_field_plus.l0 N K0 f0 k1 w2 (fun o7 => (impl_field_plus.a0_0 N K0 o7)) N x4 g5)) k1 g3)

noncomputable def impl_Algebra_product.b1 {ρ : Type} (N : Nat) (K0 : (Nat → Int) → Option ρ) (rec : Int → (Nat → Int) → Option ρ) (out0 : (Nat → Int) → Option ρ) (v0 : Nat → Int) (w1 : Nat → Int) (g3 : Nat → Int) (r4 : Nat → Int) (x5 : Int) (x7 : Int) (g8 : Nat → Int) : Option ρ :=
  (if (decide (x7 < (r4 1))) = true then (if (0 : Int) ≤ x5 ∧ x5 < 8 then (if (0 : Int) ≤ x7 ∧ x7 < 8 then (if (0 : Int) ≤ x5 ∧ x5 < 8 then (if (0 : Int) ≤ x7 ∧ x7 < 8 then (impl_field_plus N (fun r9 => (rec ((IntKind.i64.wrap (x7 + 1))) r9)) r4 ((IntKind.i64.wrap ((IntKind.i64.wrap (v0 (x5.toNat * 1))) * (IntKind.i64.wrap (w1 (x7.toNat * 1)))))) (fun z => (g3 (((8 + (x5.toNat * 64)) + (x7.toNat * 8)) + z))) g8) else none) else none) else none) else none) else (out0 g8))

noncomputable def impl_Algebra_product.a1_0 {ρ : Type} (N : Nat) (K0 : (Nat → Int) → Option ρ) (rec : Int → (Nat → Int) → Option ρ) (out0 : (Nat → Int) → Option ρ) (x5 : Int) (o10 : Nat → Int) : Option ρ :=
  (rec ((IntKind.i64.wrap (x5 + 1))) o10)

noncomputable def impl_Algebra_product.b0 {ρ : Type} (N : Nat) (K0 : (Nat → Int) → Option ρ) (lp1 : Int → (Nat → Int) → Option ρ) (rec : Int → (Nat → Int) → Option ρ) (out0 : (Nat → Int) → Option ρ) (v0 : Nat → Int) (r4 : Nat → Int) (x5 : Int) (g6 : Nat → Int) : Option ρ :=
  (if (decide (x5 < (r4 1))) = true then (if (0 : Int) ≤ x5 ∧ x5 < 8 then (if ((v0 (x5.toNat * 1)) == 0) = true then (rec ((IntKind.i64.wrap (x5 + 1))) g6) else (lp1 0 g6)) else none) else (out0 g6))

noncomputable def impl_Algebra_product.a0_0 {ρ : Type} (N : Nat) (K0 : (Nat → Int) → Option ρ) (o11 : Nat → Int) : Option ρ :=
  (K0 o11)

noncomputable def impl_Algebra_product.l1 {ρ : Type} (N : Nat) (K0 : (Nat → Int) → Option ρ) (v0 : Nat → Int) (w1 : Nat → Int) (g3 : Nat → Int) (r4 : Nat → Int) (x5 : Int) (out0 : (Nat → Int) → Option ρ) : Nat → Int → (Nat → Int) → Option ρ
  | 0, _, _ => none
  | m + 1, x7, g8 => (impl_Algebra_product.b1 N K0 ((impl_Algebra_product.l1 N K0 v0 w1 g3 r4 x5 out0 m)) out0 v0 w1 g3 r4 x5 x7 g8)

noncomputable def impl_Algebra_product.l0 {ρ : Type} (N : Nat) (K0 : (Nat → Int) → Option ρ) (v0 : Nat → Int) (w1 : Nat → Int) (g3 : Nat → Int) (r4 : Nat → Int) (out0 : (Nat → Int) → Option ρ) : Nat → Int → (Nat → Int) → Option ρ
  | 0, _, _ => none
  | m + 1, x5, g6 => (impl_Algebra_product.b0 N K0 (fun x7 g8 => (impl_Algebra_product.l1 N K0 v0 w1 g3 r4 x5 (fun o10 => (impl_Algebra_product.a1_0 N K0 (impl_Algebra_product.l0 N K0 v0 w1 g3 r4 out0 m) out0 x5 o10)) N x7 g8)) ((impl_Algebra_product.l0 N K0 v0 w1 g3 r4 out0 m)) out0 v0 r4 x5 g6)

noncomputable def impl_Algebra_product.s {ρ : Type} (N : Nat) (K0 : (Nat → Int) → Option ρ) (lp0 : (Nat → Int) → Int → (Nat → Int) → Option ρ) (g2 : Nat → Int) (g3 : Nat → Int) : Option ρ :=
  (impl_Algebra_field N (fun r4 => (lp0 r4 0 (fun _ => 0))) g2 g3)

noncomputable def impl_Algebra_product {ρ : Type} (N : Nat) (K0 : (Nat → Int) → Option ρ) (v0 : Nat → Int) (w1 : Nat → Int) (g2 : Nat → Int) (g3 : Nat → Int) : Option ρ :=
  (impl_Algebra_product.s N K0 (fun r4 x5 g6 => (impl_Algebra_product.l0 N K0 v0 w1 g3 r4 (fun o11 => (impl_Algebra_product.a0_0 N K0 o11)) N x5 g6)) g2 g3)

noncomputable def impl_Algebra_fault.b2 {ρ : Type} (N : Nat) (K0 : Nat → Nat → (Nat → Int) → Option ρ) (K1 : Option ρ) (rec : Int → Option ρ) (out0 : Option ρ) (g0 : Nat → Int) (g1 : Nat → Int) (x2 : Int) (x3 : Int) (x4 : Int) : Option ρ :=
  (if (decide (x4 < (g0 1))) = true then (if (0 : Int) ≤ x2 ∧ x2 < 8 then (if (0 : Int) ≤ x3 ∧ x3 < 8 then (impl_basis N (fun r5 => (impl_Algebra_product N (fun r6 => (impl_basis N (fun r7 => (if (0 : Int) ≤ x3 ∧ x3 < 8 then (if (0 : Int) ≤ x4 ∧ x4 < 8 then (impl_Algebra_product N (fun r8 => (if (!eqN 8 r6 r8) = true then (K0 3 3 (upd (upd (upd (fun _ => 0) 0 x2) 1 x3) 2 x4)) else (rec ((IntKind.i64.wrap (x4 + 1)))))) r7 (fun z => (g1 (((8 + (x3.toNat * 64)) + (x4.toNat * 8)) + z))) g0 g1) else none) else none)) x2)) (fun z => (g1 (((8 + (x2.toNat * 64)) + (x3.toNat * 8)) + z))) r5 g0 g1)) x4) else none) else none) else out0)

noncomputable def impl_Algebra_fault.a2_0 {ρ : Type} (N : Nat) (K0 : Nat → Nat → (Nat → Int) → Option ρ) (K1 : Option ρ) (rec : Int → Option ρ) (out0 : Option ρ) (x3 : Int) : Option ρ :=
  (rec ((IntKind.i64.wrap (x3 + 1))))

noncomputable def impl_Algebra_fault.b1 {ρ : Type} (N : Nat) (K0 : Nat → Nat → (Nat → Int) → Option ρ) (K1 : Option ρ) (lp2 : Int → Option ρ) (rec : Int → Option ρ) (out0 : Option ρ) (g0 : Nat → Int) (x3 : Int) : Option ρ :=
  (if (decide (x3 < (g0 1))) = true then (lp2 0) else out0)

noncomputable def impl_Algebra_fault.a1_0 {ρ : Type} (N : Nat) (K0 : Nat → Nat → (Nat → Int) → Option ρ) (K1 : Option ρ) (rec : Int → Option ρ) (out0 : Option ρ) (x2 : Int) : Option ρ :=
  (rec ((IntKind.i64.wrap (x2 + 1))))

noncomputable def impl_Algebra_fault.b0 {ρ : Type} (N : Nat) (K0 : Nat → Nat → (Nat → Int) → Option ρ) (K1 : Option ρ) (lp1 : Int → Option ρ) (rec : Int → Option ρ) (out0 : Option ρ) (g0 : Nat → Int) (x2 : Int) : Option ρ :=
  (if (decide (x2 < (g0 1))) = true then (lp1 0) else out0)

noncomputable def impl_Algebra_fault.a0_0 {ρ : Type} (N : Nat) (K0 : Nat → Nat → (Nat → Int) → Option ρ) (K1 : Option ρ) : Option ρ :=
  K1

noncomputable def impl_Algebra_fault.l2 {ρ : Type} (N : Nat) (K0 : Nat → Nat → (Nat → Int) → Option ρ) (K1 : Option ρ) (g0 : Nat → Int) (g1 : Nat → Int) (x2 : Int) (x3 : Int) (out0 : Option ρ) : Nat → Int → Option ρ
  | 0, _ => none
  | m + 1, x4 => (impl_Algebra_fault.b2 N K0 K1 ((impl_Algebra_fault.l2 N K0 K1 g0 g1 x2 x3 out0 m)) out0 g0 g1 x2 x3 x4)

noncomputable def impl_Algebra_fault.l1 {ρ : Type} (N : Nat) (K0 : Nat → Nat → (Nat → Int) → Option ρ) (K1 : Option ρ) (g0 : Nat → Int) (g1 : Nat → Int) (x2 : Int) (out0 : Option ρ) : Nat → Int → Option ρ
  | 0, _ => none
  | m + 1, x3 => (impl_Algebra_fault.b1 N K0 K1 (fun x4 => (impl_Algebra_fault.l2 N K0 K1 g0 g1 x2 x3 (impl_Algebra_fault.a2_0 N K0 K1 (impl_Algebra_fault.l1 N K0 K1 g0 g1 x2 out0 m) out0 x3) N x4)) ((impl_Algebra_fault.l1 N K0 K1 g0 g1 x2 out0 m)) out0 g0 x3)

noncomputable def impl_Algebra_fault.l0 {ρ : Type} (N : Nat) (K0 : Nat → Nat → (Nat → Int) → Option ρ) (K1 : Option ρ) (g0 : Nat → Int) (g1 : Nat → Int) (out0 : Option ρ) : Nat → Int → Option ρ
  | 0, _ => none
  | m + 1, x2 => (impl_Algebra_fault.b0 N K0 K1 (fun x3 => (impl_Algebra_fault.l1 N K0 K1 g0 g1 x2 (impl_Algebra_fault.a1_0 N K0 K1 (impl_Algebra_fault.l0 N K0 K1 g0 g1 out0 m) out0 x2) N x3)) ((impl_Algebra_fault.l0 N K0 K1 g0 g1 out0 m)) out0 g0 x2)

noncomputable def impl_Algebra_fault.s {ρ : Type} (N : Nat) (K0 : Nat → Nat → (Nat → Int) → Option ρ) (K1 : Option ρ) (lp0 : Int → Option ρ) : Option ρ :=
  (lp0 0)

noncomputable def impl_Algebra_fault {ρ : Type} (N : Nat) (K0 : Nat → Nat → (Nat → Int) → Option ρ) (K1 : Option ρ) (g0 : Nat → Int) (g1 : Nat → Int) : Option ρ :=
  (impl_Algebra_fault.s N K0 K1 (fun x2 => (impl_Algebra_fault.l0 N K0 K1 g0 g1 (impl_Algebra_fault.a0_0 N K0 K1) N x2)))

noncomputable def impl_IsAlgebra.b0 {ρ : Type} (N : Nat) (K0 : Bool → Option ρ) (rec : Int → Option ρ) (out0 : Option ρ) (a0 : Nat → Int) (a1 : Nat → Int) (x3 : Int) : Option ρ :=
  (if (decide (x3 < (a0 1))) = true then (impl_basis N (fun r4 => (impl_Algebra_product N (fun r5 => (if (!eqN 8 r5 r4) = true then (K0 false) else (impl_Algebra_product N (fun r6 => (if (!eqN 8 r6 r4) = true then (K0 false) else (rec ((IntKind.i64.wrap (x3 + 1)))))) r4 (fun z => (a1 (0 + z))) a0 a1))) (fun z => (a1 (0 + z))) r4 a0 a1)) x3) else out0)

noncomputable def impl_IsAlgebra.a0_0 {ρ : Type} (N : Nat) (K0 : Bool → Option ρ) (a0 : Nat → Int) (a1 : Nat → Int) : Option ρ :=
  (impl_Algebra_fault N (fun r7 r8 r9 => (K0 false)) (K0 true) a0 a1)

noncomputable def impl_IsAlgebra.l0 {ρ : Type} (N : Nat) (K0 : Bool → Option ρ) (a0 : Nat → Int) (a1 : Nat → Int) (out0 : Option ρ) : Nat → Int → Option ρ
  | 0, _ => none
  | m + 1, x3 => (impl_IsAlgebra.b0 N K0 ((impl_IsAlgebra.l0 N K0 a0 a1 out0 m)) out0 a0 a1 x3)

noncomputable def impl_IsAlgebra.s {ρ : Type} (N : Nat) (K0 : Bool → Option ρ) (lp0 : Int → Option ρ) (a0 : Nat → Int) (a1 : Nat → Int) : Option ρ :=
  (impl_Algebra_isShaped N (fun r2 => (if (!r2) = true then (K0 false) else (lp0 0))) a0 a1)

noncomputable def impl_IsAlgebra {ρ : Type} (N : Nat) (K0 : Bool → Option ρ) (a0 : Nat → Int) (a1 : Nat → Int) : Option ρ :=
  (impl_IsAlgebra.s N K0 (fun x3 => (impl_IsAlgebra.l0 N K0 a0 a1 (impl_IsAlgebra.a0_0 N K0 a0 a1) N x3)) a0 a1)

noncomputable def impl_Hopf_fails_c1 {ρ : Type} (N : Nat) (K0 : Bool → Option ρ) (g0 : Nat → Int) (g1 : Nat → Int) : Option ρ :=
  (impl_Hopf_algebra N (fun r2 r3 => (impl_IsAlgebra N (fun r4 => (K0 (r4))) r2 r3)) g0 g1)

noncomputable def impl_Coalgebra_field {ρ : Type} (N : Nat) (K0 : (Nat → Int) → Option ρ) (g0 : Nat → Int) (g1 : Nat → Int) : Option ρ :=
  (K0 (upd (upd (fun _ => 0) 0 (g0 0)) 1 (g0 1)))

noncomputable def impl_field_dot.b0 {ρ : Type} (N : Nat) (K0 : Int → Option ρ) (rec : Int → Int → Option ρ) (out0 : Int → Option ρ) (v1 : Nat → Int) (w2 : Nat → Int) (out3 : Int) (x4 : Int) : Option ρ :=
  (if (decide (x4 < 8)) = true then (if (0 : Int) ≤ x4 ∧ x4 < 8 then (if (0 : Int) ≤ x4 ∧ x4 < 8 then (rec ((IntKind.i64.wrap (out3 + (IntKind.i64.wrap ((IntKind.i64.wrap (v1 x4.toNat)) * (IntKind.i64.wrap (w2 (x4.toNat * 1)))))))) ((IntKind.i64.wrap (x4 + 1)))) else none) else none) else (out0 out3))

noncomputable def impl_field_dot.a0_0 {ρ : Type} (N : Nat) (K0 : Int → Option ρ) (f0 : Nat → Int) (o5 : Int) : Option ρ :=
  (if (f0 0) = 0 then none else (K0 ((Int.tmod o5 (f0 0)))))

noncomputable def impl_field_dot.l0 {ρ : Type} (N : Nat) (K0 : Int → Option ρ) (v1 : Nat → Int) (w2 : Nat → Int) (out0 : Int → Option ρ) : Nat → Int → Int → Option ρ
  | 0, _, _ => none
  | m + 1, out3, x4 => (impl_field_dot.b0 N K0 ((impl_field_dot.l0 N K0 v1 w2 out0 m)) out0 v1 w2 out3 x4)

noncomputable def impl_field_dot.s {ρ : Type} (N : Nat) (K0 : Int → Option ρ) (lp0 : Int → Int → Option ρ) : Option ρ :=
  (lp0 0 0)

noncomputable def impl_field_dot {ρ : Type} (N : Nat) (K0 : Int → Option ρ) (f0 : Nat → Int) (v1 : Nat → Int) (w2 : Nat → Int) : Option ρ :=
  (impl_field_dot.s N K0 (fun out3 x4 => (impl_field_dot.l0 N K0 v1 w2 (fun o5 => (impl_field_dot.a0_0 N K0 f0 o5)) N out3 x4)))

noncomputable def impl_Coalgebra_isCounit.b1 {ρ : Type} (N : Nat) (K0 : Bool → Option ρ) (rec : Int → (Nat → Int) → (Nat → Int) → Option ρ) (out0 : (Nat → Int) → (Nat → Int) → Option ρ) (g1 : Nat → Int) (r2 : Nat → Int) (x3 : Int) (x4 : Int) (g5 : Nat → Int) (g6 : Nat → Int) : Option ρ :=
  (if (decide (x4 < (r2 1))) = true then (if (0 : Int) ≤ x4 ∧ x4 < 8 then (if (0 : Int) ≤ x3 ∧ x3 < 8 then (if (0 : Int) ≤ x4 ∧ x4 < 8 then (impl_field_plus N (fun r7 => (if (0 : Int) ≤ x3 ∧ x3 < 8 then (if (0 : Int) ≤ x4 ∧ x4 < 8 then (impl_field_dot N (fun r8 => (if (0 : Int) ≤ x4 ∧ x4 < 8 then (rec ((IntKind.i64.wrap (x4 + 1))) r7 (upd g6 (x4.toNat * 1) (IntKind.u8.wrap r8))) else none)) r2 (fun z => (g1 (0 + z))) (fun z => (g1 (((8 + (x3.toNat * 64)) + (x4.toNat * 8)) + z)))) else none) else none)) r2 ((IntKind.i64.wrap (g1 (0 + (x4.toNat * 1))))) (fun z => (g1 (((8 + (x3.toNat * 64)) + (x4.toNat * 8)) + z))) g5) else none) else none) else none) else (out0 g5 g6))

noncomputable def impl_Coalgebra_isCounit.a1_0 {ρ : Type} (N : Nat) (K0 : Bool → Option ρ) (rec : Int → Option ρ) (out0 : Option ρ) (x3 : Int) (o9 : Nat → Int) (o10 : Nat → Int) : Option ρ :=
  (impl_basis N (fun r11 => (if (!eqN 8 o9 r11) = true then (K0 false) else (impl_basis N (fun r12 => (if (!eqN 8 o10 r12) = true then (K0 false) else (rec ((IntKind.i64.wrap (x3 + 1)))))) x3))) x3)

noncomputable def impl_Coalgebra_isCounit.b0 {ρ : Type} (N : Nat) (K0 : Bool → Option ρ) (lp1 : Int → (Nat → Int) → (Nat → Int) → Option ρ) (rec : Int → Option ρ) (out0 : Option ρ) (r2 : Nat → Int) (x3 : Int) : Option ρ :=
  (if (decide (x3 < (r2 1))) = true then (lp1 0 (fun _ => 0) (fun _ => 0)) else out0)

noncomputable def impl_Coalgebra_isCounit.a0_0 {ρ : Type} (N : Nat) (K0 : Bool → Option ρ) : Option ρ :=
  (K0 true)

noncomputable def impl_Coalgebra_isCounit.l1 {ρ : Type} (N : Nat) (K0 : Bool → Option ρ) (g1 : Nat → Int) (r2 : Nat → Int) (x3 : Int) (out0 : (Nat → Int) → (Nat → Int) → Option ρ) : Nat → Int → (Nat → Int) → (Nat → Int) → Option ρ
  | 0, _, _, _ => none
  | m + 1, x4, g5, g6 => (impl_Coalgebra_isCounit.b1 N K0 ((impl_Coalgebra_isCounit.l1 N K0 g1 r2 x3 out0 m)) out0 g1 r2 x3 x4 g5 g6)

noncomputable def impl_Coalgebra_isCounit.l0 {ρ : Type} (N : Nat) (K0 : Bool → Option ρ) (g1 : Nat → Int) (r2 : Nat → Int) (out0 : Option ρ) : Nat → Int → Option ρ
  | 0, _ => none
  | m + 1, x3 => (impl_Coalgebra_isCounit.b0 N K0 (fun x4 g5 g6 => (impl_Coalgebra_isCounit.l1 N K0 g1 r2 x3 (fun o9 o10 => (impl_Coalgebra_isCounit.a1_0 N K0 (impl_Coalgebra_isCounit.l0 N K0 g1 r2 out0 m) out0 x3 o9 o10)) N x4 g5 g6)) ((impl_Coalgebra_isCounit.l0 N K0 g1 r2 out0 m)) out0 r2 x3)

noncomputable def impl_Coalgebra_isCounit.s {ρ : Type} (N : Nat) (K0 : Bool → Option ρ) (lp0 : (Nat → Int) → Int → Option ρ) (g0 : Nat → Int) (g1 : Nat → Int) : Option ρ :=
  (impl_Coalgebra_field N (fun r2 => (lp0 r2 0)) g0 g1)

noncomputable def impl_Coalgebra_isCounit {ρ : Type} (N : Nat) (K0 : Bool → Option ρ) (g0 : Nat → Int) (g1 : Nat → Int) : Option ρ :=
  (impl_Coalgebra_isCounit.s N K0 (fun r2 x3 => (impl_Coalgebra_isCounit.l0 N K0 g1 r2 (impl_Coalgebra_isCounit.a0_0 N K0) N x3)) g0 g1)

noncomputable def impl_Coalgebra_isFault.b0 {ρ : Type} (N : Nat) (K0 : Bool → Option ρ) (rec : Int → Int → Int → Option ρ) (out0 : Int → Int → Option ρ) (i0 : Int) (j1 : Int) (k2 : Int) (l3 : Int) (g5 : Nat → Int) (r6 : Nat → Int) (one7 : Int) (two8 : Int) (x9 : Int) : Option ρ :=
  (if (decide (x9 < (r6 1))) = true then (if (0 : Int) ≤ i0 ∧ i0 < 8 then (if (0 : Int) ≤ x9 ∧ x9 < 8 then (if (0 : Int) ≤ l3 ∧ l3 < 8 then (if (0 : Int) ≤ x9 ∧ x9 < 8 then (if (0 : Int) ≤ j1 ∧ j1 < 8 then (if (0 : Int) ≤ k2 ∧ k2 < 8 then (if (0 : Int) ≤ i0 ∧ i0 < 8 then (if (0 : Int) ≤ j1 ∧ j1 < 8 then (if (0 : Int) ≤ x9 ∧ x9 < 8 then (if (0 : Int) ≤ x9 ∧ x9 < 8 then (if (0 : Int) ≤ k2 ∧ k2 < 8 then (if (0 : Int) ≤ l3 ∧ l3 < 8 then (rec ((IntKind.i64.wrap (one7 + (IntKind.i64.wrap ((IntKind.i64.wrap (g5 (((8 + (i0.toNat * 64)) + (x9.toNat * 8)) + (l3.toNat * 1)))) * (IntKind.i64.wrap (g5 (((8 + (x9.toNat * 64)) + (j1.toNat * 8)) + (k2.toNat * 1))))))))) ((IntKind.i64.wrap (two8 + (IntKind.i64.wrap ((IntKind.i64.wrap (g5 (((8 + (i0.toNat * 64)) + (j1.toNat * 8)) + (x9.toNat * 1)))) * (IntKind.i64.wrap (g5 (((8 + (x9.toNat * 64)) + (k2.toNat * 8)) + (l3.toNat * 1))))))))) ((IntKind.i64.wrap (x9 + 1)))) else none) else none) else none) else none) else none) else none) else none) else none) else none) else none) else none) else none) else (out0 one7 two8))

noncomputable def impl_Coalgebra_isFault.a0_0 {ρ : Type} (N : Nat) (K0 : Bool → Option ρ) (r6 : Nat → Int) (o10 : Int) (o11 : Int) : Option ρ :=
  (if (r6 0) = 0 then none else (if (r6 0) = 0 then none else (K0 (((Int.tmod o10 (r6 0)) != (Int.tmod o11 (r6 0)))))))

noncomputable def impl_Coalgebra_isFault.l0 {ρ : Type} (N : Nat) (K0 : Bool → Option ρ) (i0 : Int) (j1 : Int) (k2 : Int) (l3 : Int) (g5 : Nat → Int) (r6 : Nat → Int) (out0 : Int → Int → Option ρ) : Nat → Int → Int → Int → Option ρ
  | 0, _, _, _ => none
  | m + 1, one7, two8, x9 => (impl_Coalgebra_isFault.b0 N K0 ((impl_Coalgebra_isFault.l0 N K0 i0 j1 k2 l3 g5 r6 out0 m)) out0 i0 j1 k2 l3 g5 r6 one7 two8 x9)

noncomputable def impl_Coalgebra_isFault.s {ρ : Type} (N : Nat) (K0 : Bool → Option ρ) (lp0 : (Nat → Int) → Int → Int → Int → Option ρ) (g4 : Nat → Int) (g5 : Nat → Int) : Option ρ :=
  (impl_Coalgebra_field N (fun r6 => (lp0 r6 0 0 0)) g4 g5)

noncomputable def impl_Coalgebra_isFault {ρ : Type} (N : Nat) (K0 : Bool → Option ρ) (i0 : Int) (j1 : Int) (k2 : Int) (l3 : Int) (g4 : Nat → Int) (g5 : Nat → Int) : Option ρ :=
  (impl_Coalgebra_isFault.s N K0 (fun r6 one7 two8 x9 => (impl_Coalgebra_isFault.l0 N K0 i0 j1 k2 l3 g5 r6 (fun o10 o11 => (impl_Coalgebra_isFault.a0_0 N K0 r6 o10 o11)) N one7 two8 x9)) g4 g5)

noncomputable def impl_Coalgebra_fault.b0 {ρ : Type} (N : Nat) (K0 : Nat → Nat → (Nat → Int) → Option ρ) (K1 : Option ρ) (rec : Int → Option ρ) (out0 : Option ρ) (g0 : Nat → Int) (g1 : Nat → Int) (x2 : Int) : Option ρ :=
  (if (decide (x2 < (IntKind.i64.wrap ((IntKind.i64.wrap ((IntKind.i64.wrap ((g0 1) * (g0 1))) * (g0 1))) * (g0 1))))) = true then (if (IntKind.i64.wrap ((IntKind.i64.wrap ((g0 1) * (g0 1))) * (g0 1))) = 0 then none else (if (IntKind.i64.wrap ((g0 1) * (g0 1))) = 0 then none else (if (g0 1) = 0 then none else (if (g0 1) = 0 then none else (if (g0 1) = 0 then none else (if (g0 1) = 0 then none else (impl_Coalgebra_isFault N (fun r3 => (if r3 = true then (K0 4 4 (upd (upd (upd (upd (fun _ => 0) 0 (IntKind.i64.wrap (Int.tdiv x2 (IntKind.i64.wrap ((IntKind.i64.wrap ((g0 1) * (g0 1))) * (g0 1)))))) 1 (Int.tmod (IntKind.i64.wrap (Int.tdiv x2 (IntKind.i64.wrap ((g0 1) * (g0 1))))) (g0 1))) 2 (Int.tmod (IntKind.i64.wrap (Int.tdiv x2 (g0 1))) (g0 1))) 3 (Int.tmod x2 (g0 1)))) else (rec ((IntKind.i64.wrap (x2 + 1)))))) ((IntKind.i64.wrap (Int.tdiv x2 (IntKind.i64.wrap ((IntKind.i64.wrap ((g0 1) * (g0 1))) * (g0 1)))))) ((Int.tmod (IntKind.i64.wrap (Int.tdiv x2 (IntKind.i64.wrap ((g0 1) * (g0 1))))) (g0 1))) ((Int.tmod (IntKind.i64.wrap (Int.tdiv x2 (g0 1))) (g0 1))) ((Int.tmod x2 (g0 1))) g0 g1))))))) else out0)

noncomputable def impl_Coalgebra_fault.a0_0 {ρ : Type} (N : Nat) (K0 : Nat → Nat → (Nat → Int) → Option ρ) (K1 : Option ρ) : Option ρ :=
  K1

noncomputable def impl_Coalgebra_fault.l0 {ρ : Type} (N : Nat) (K0 : Nat → Nat → (Nat → Int) → Option ρ) (K1 : Option ρ) (g0 : Nat → Int) (g1 : Nat → Int) (out0 : Option ρ) : Nat → Int → Option ρ
  | 0, _ => none
  | m + 1, x2 => (impl_Coalgebra_fault.b0 N K0 K1 ((impl_Coalgebra_fault.l0 N K0 K1 g0 g1 out0 m)) out0 g0 g1 x2)

noncomputable def impl_Coalgebra_fault.s {ρ : Type} (N : Nat) (K0 : Nat → Nat → (Nat → Int) → Option ρ) (K1 : Option ρ) (lp0 : Int → Option ρ) : Option ρ :=
  (lp0 0)

noncomputable def impl_Coalgebra_fault {ρ : Type} (N : Nat) (K0 : Nat → Nat → (Nat → Int) → Option ρ) (K1 : Option ρ) (g0 : Nat → Int) (g1 : Nat → Int) : Option ρ :=
  (impl_Coalgebra_fault.s N K0 K1 (fun x2 => (impl_Coalgebra_fault.l0 N K0 K1 g0 g1 (impl_Coalgebra_fault.a0_0 N K0 K1) N x2)))

noncomputable def impl_IsCoalgebra {ρ : Type} (N : Nat) (K0 : Bool → Option ρ) (c0 : Nat → Int) (c1 : Nat → Int) : Option ρ :=
  (impl_Coalgebra_isShaped N (fun r2 => (if r2 = true then (impl_Coalgebra_isCounit N (fun r3 => (if r3 = true then (impl_Coalgebra_fault N (fun r4 r5 r6 => (K0 false)) (K0 true) c0 c1) else (K0 false))) c0 c1) else (K0 false))) c0 c1)

noncomputable def impl_Hopf_fails_c2 {ρ : Type} (N : Nat) (K0 : Bool → Option ρ) (g0 : Nat → Int) (g1 : Nat → Int) : Option ρ :=
  (impl_Hopf_coalgebra N (fun r2 r3 => (impl_IsCoalgebra N (fun r4 => (K0 (r4))) r2 r3)) g0 g1)

noncomputable def impl_Hopf_field {ρ : Type} (N : Nat) (K0 : (Nat → Int) → Option ρ) (g0 : Nat → Int) (g1 : Nat → Int) : Option ρ :=
  (K0 (upd (upd (fun _ => 0) 0 (g0 0)) 1 (g0 1)))

noncomputable def impl_Hopf_coproduct.b1 {ρ : Type} (N : Nat) (K0 : (Nat → Int) → Option ρ) (rec : Int → (Nat → Int) → Option ρ) (out0 : (Nat → Int) → Option ρ) (v0 : Nat → Int) (g2 : Nat → Int) (r3 : Nat → Int) (x4 : Int) (j6 : Int) (g7 : Nat → Int) : Option ρ :=
  (if ((v0 x4.toNat) != 0) = true then (if (decide (j6 < (r3 1))) = true then (if (0 : Int) ≤ j6 ∧ j6 < 8 then (if (0 : Int) ≤ x4 ∧ x4 < 8 then (if (0 : Int) ≤ j6 ∧ j6 < 8 then (impl_field_plus N (fun r8 => (rec ((IntKind.i64.wrap (j6 + 1))) (updN g7 (j6.toNat * 8) 8 r8))) r3 ((IntKind.i64.wrap (v0 x4.toNat))) (fun z => (g2 (((528 + (x4.toNat * 64)) + (j6.toNat * 8)) + z))) (fun z => (g7 ((j6.toNat * 8) + z)))) else none) else none) else none) else (out0 g7)) else (out0 g7))

noncomputable def impl_Hopf_coproduct.a1_0 {ρ : Type} (N : Nat) (K0 : (Nat → Int) → Option ρ) (rec : Int → (Nat → Int) → Option ρ) (out0 : (Nat → Int) → Option ρ) (x4 : Int) (o9 : Nat → Int) : Option ρ :=
  (rec ((IntKind.i64.wrap (x4 + 1))) o9)

noncomputable def impl_Hopf_coproduct.b0 {ρ : Type} (N : Nat) (K0 : (Nat → Int) → Option ρ) (lp1 : Int → (Nat → Int) → Option ρ) (rec : Int → (Nat → Int) → Option ρ) (out0 : (Nat → Int) → Option ρ) (x4 : Int) (g5 : Nat → Int) : Option ρ :=
  (if (decide (x4 < 8)) = true then (if (0 : Int) ≤ x4 ∧ x4 < 8 then (lp1 0 g5) else none) else (out0 g5))

noncomputable def impl_Hopf_coproduct.a0_0 {ρ : Type} (N : Nat) (K0 : (Nat → Int) → Option ρ) (o10 : Nat → Int) : Option ρ :=
  (K0 o10)

noncomputable def impl_Hopf_coproduct.l1 {ρ : Type} (N : Nat) (K0 : (Nat → Int) → Option ρ) (v0 : Nat → Int) (g2 : Nat → Int) (r3 : Nat → Int) (x4 : Int) (out0 : (Nat → Int) → Option ρ) : Nat → Int → (Nat → Int) → Option ρ
  | 0, _, _ => none
  | m + 1, j6, g7 => (impl_Hopf_coproduct.b1 N K0 ((impl_Hopf_coproduct.l1 N K0 v0 g2 r3 x4 out0 m)) out0 v0 g2 r3 x4 j6 g7)

noncomputable def impl_Hopf_coproduct.l0 {ρ : Type} (N : Nat) (K0 : (Nat → Int) → Option ρ) (v0 : Nat → Int) (g2 : Nat → Int) (r3 : Nat → Int) (out0 : (Nat → Int) → Option ρ) : Nat → Int → (Nat → Int) → Option ρ
  | 0, _, _ => none
  | m + 1, x4, g5 => (impl_Hopf_coproduct.b0 N K0 (fun j6 g7 => (impl_Hopf_coproduct.l1 N K0 v0 g2 r3 x4 (fun o9 => (impl_Hopf_coproduct.a1_0 N K0 (impl_Hopf_coproduct.l0 N K0 v0 g2 r3 out0 m) out0 x4 o9)) N j6 g7)) ((impl_Hopf_coproduct.l0 N K0 v0 g2 r3 out0 m)) out0 x4 g5)

noncomputable def impl_Hopf_coproduct.s {ρ : Type} (N : Nat) (K0 : (Nat → Int) → Option ρ) (lp0 : (Nat → Int) → Int → (Nat → Int) → Option ρ) (g1 : Nat → Int) (g2 : Nat → Int) : Option ρ :=
  (impl_Hopf_field N (fun r3 => (lp0 r3 0 (fun _ => 0))) g1 g2)

noncomputable def impl_Hopf_coproduct {ρ : Type} (N : Nat) (K0 : (Nat → Int) → Option ρ) (v0 : Nat → Int) (g1 : Nat → Int) (g2 : Nat → Int) : Option ρ :=
  (impl_Hopf_coproduct.s N K0 (fun r3 x4 g5 => (impl_Hopf_coproduct.l0 N K0 v0 g2 r3 (fun o10 => (impl_Hopf_coproduct.a0_0 N K0 o10)) N x4 g5)) g1 g2)

noncomputable def impl_Hopf_tensor_c1_c1.b0 {ρ : Type} (N : Nat) (K0 : (Nat → Int) → Option ρ) (rec : Int → (Nat → Int) → Option ρ) (out0 : (Nat → Int) → Option ρ) (l0 : Int) (m1 : Int) (y2 : Int) (g3 : Nat → Int) (g4 : Nat → Int) (g6 : Nat → Int) (g7 : Nat → Int) (g9 : Nat → Int) (x10 : Int) (g11 : Nat → Int) : Option ρ :=
  (if (decide (x10 < 8)) = true then (if (0 : Int) ≤ x10 ∧ x10 < 8 then (if (0 : Int) ≤ x10 ∧ x10 < 8 then (if (g4 0) = 0 then none else (if (0 : Int) ≤ (g7 0) ∧ (g7 0) < 8 then (if (0 : Int) ≤ m1 ∧ m1 < 8 then (impl_field_plus N (fun r12 => (rec ((IntKind.i64.wrap (x10 + 1))) (updN g11 (x10.toNat * 8) 8 r12))) g4 ((IntKind.i64.wrap ((Int.tmod (IntKind.i64.wrap ((g6 0) * y2)) (g4 0)) * (IntKind.i64.wrap (g9 (((8 + (((g3 0)).toNat * 64)) + (l0.toNat * 8)) + x10.toNat)))))) (fun z => (g9 (((8 + (((g7 0)).toNat * 64)) + (m1.toNat * 8)) + z))) (fun z => (g11 ((x10.toNat * 8) + z)))) else none) else none)) else none) else none) else (out0 g11))

noncomputable def impl_Hopf_tensor_c1_c1.a0_0 {ρ : Type} (N : Nat) (K0 : (Nat → Int) → Option ρ) (o13 : Nat → Int) : Option ρ :=
  (K0 o13)

noncomputable def impl_Hopf_tensor_c1_c1.l0 {ρ : Type} (N : Nat) (K0 : (Nat → Int) → Option ρ) (l0 : Int) (m1 : Int) (y2 : Int) (g3 : Nat → Int) (g4 : Nat → Int) (g6 : Nat → Int) (g7 : Nat → Int) (g9 : Nat → Int) (out0 : (Nat → Int) → Option ρ) : Nat → Int → (Nat → Int) → Option ρ
  | 0, _, _ => none
  | m + 1, x10, g11 => (impl_Hopf_tensor_c1_c1.b0 N K0 ((impl_Hopf_tensor_c1_c1.l0 N K0 l0 m1 y2 g3 g4 g6 g7 g9 out0 m)) out0 l0 m1 y2 g3 g4 g6 g7 g9 x10 g11)

noncomputable def impl_Hopf_tensor_c1_c1.s {ρ : Type} (N : Nat) (K0 : (Nat → Int) → Option ρ) (lp0 : Int → (Nat → Int) → Option ρ) (l0 : Int) (g3 : Nat → Int) (g5 : Nat → Int) : Option ρ :=
  (if (0 : Int) ≤ (g3 0) ∧ (g3 0) < 8 then (if (0 : Int) ≤ l0 ∧ l0 < 8 then (lp0 0 g5) else none) else none)

noncomputable def impl_Hopf_tensor_c1_c1 {ρ : Type} (N : Nat) (K0 : (Nat → Int) → Option ρ) (l0 : Int) (m1 : Int) (y2 : Int) (g3 : Nat → Int) (g4 : Nat → Int) (g5 : Nat → Int) (g6 : Nat → Int) (g7 : Nat → Int) (g8 : Nat → Int) (g9 : Nat → Int) : Option ρ :=
  (impl_Hopf_tensor_c1_c1.s N K0 (fun x10 g11 => (impl_Hopf_tensor_c1_c1.l0 N K0 l0 m1 y2 g3 g4 g6 g7 g9 (fun o13 => (impl_Hopf_tensor_c1_c1.a0_0 N K0 o13)) N x10 g11)) l0 g3 g5)

noncomputable def impl_pairs_f_v2.b1 {ρ : Type} (N : Nat) (K0 : (Nat → Int) → (Nat → Int) → (Nat → Int) → (Nat → Int) → (Nat → Int) → Option ρ) (rec : Int → (Nat → Int) → Option ρ) (out0 : (Nat → Int) → Option ρ) (g0 : Nat → Int) (g1 : Nat → Int) (g2 : Nat → Int) (g4 : Nat → Int) (g5 : Nat → Int) (g6 : Nat → Int) (g7 : Nat → Int) (x8 : Int) (x10 : Int) (g11 : Nat → Int) : Option ρ :=
  (if (decide (x10 < 8)) = true then (if (0 : Int) ≤ x10 ∧ x10 < 8 then (if ((g0 ((x8.toNat * 8) + x10.toNat)) != 0) = true then (impl_Hopf_tensor_c1_c1 N (fun r12 => (rec ((IntKind.i64.wrap (x10 + 1))) r12)) x8 x10 ((IntKind.i64.wrap (g0 ((x8.toNat * 8) + x10.toNat)))) g1 g2 g11 g4 g5 g6 g7) else (rec ((IntKind.i64.wrap (x10 + 1))) g11)) else none) else (out0 g11))

noncomputable def impl_pairs_f_v2.a1_0 {ρ : Type} (N : Nat) (K0 : (Nat → Int) → (Nat → Int) → (Nat → Int) → (Nat → Int) → (Nat → Int) → Option ρ) (rec : Int → (Nat → Int) → Option ρ) (out0 : (Nat → Int) → Option ρ) (x8 : Int) (o13 : Nat → Int) : Option ρ :=
  (rec ((IntKind.i64.wrap (x8 + 1))) o13)

noncomputable def impl_pairs_f_v2.b0 {ρ : Type} (N : Nat) (K0 : (Nat → Int) → (Nat → Int) → (Nat → Int) → (Nat → Int) → (Nat → Int) → Option ρ) (lp1 : Int → (Nat → Int) → Option ρ) (rec : Int → (Nat → Int) → Option ρ) (out0 : (Nat → Int) → Option ρ) (x8 : Int) (g9 : Nat → Int) : Option ρ :=
  (if (decide (x8 < 8)) = true then (if (0 : Int) ≤ x8 ∧ x8 < 8 then (lp1 0 g9) else none) else (out0 g9))

noncomputable def impl_pairs_f_v2.a0_0 {ρ : Type} (N : Nat) (K0 : (Nat → Int) → (Nat → Int) → (Nat → Int) → (Nat → Int) → (Nat → Int) → Option ρ) (g1 : Nat → Int) (g2 : Nat → Int) (g4 : Nat → Int) (g5 : Nat → Int) (o14 : Nat → Int) : Option ρ :=
  (K0 g1 g2 o14 g4 g5)

noncomputable def impl_pairs_f_v2.l1 {ρ : Type} (N : Nat) (K0 : (Nat → Int) → (Nat → Int) → (Nat → Int) → (Nat → Int) → (Nat → Int) → Option ρ) (g0 : Nat → Int) (g1 : Nat → Int) (g2 : Nat → Int) (g4 : Nat → Int) (g5 : Nat → Int) (g6 : Nat → Int) (g7 : Nat → Int) (x8 : Int) (out0 : (Nat → Int) → Option ρ) : Nat → Int → (Nat → Int) → Option ρ
  | 0, _, _ => none
  | m + 1, x10, g11 => (impl_pairs_f_v2.b1 N K0 ((impl_pairs_f_v2.l1 N K0 g0 g1 g2 g4 g5 g6 g7 x8 out0 m)) out0 g0 g1 g2 g4 g5 g6 g7 x8 x10 g11)

noncomputable def impl_pairs_f_v2.l0 {ρ : Type} (N : Nat) (K0 : (Nat → Int) → (Nat → Int) → (Nat → Int) → (Nat → Int) → (Nat → Int) → Option ρ) (g0 : Nat → Int) (g1 : Nat → Int) (g2 : Nat → Int) (g4 : Nat → Int) (g5 : Nat → Int) (g6 : Nat → Int) (g7 : Nat → Int) (out0 : (Nat → Int) → Option ρ) : Nat → Int → (Nat → Int) → Option ρ
  | 0, _, _ => none
  | m + 1, x8, g9 => (impl_pairs_f_v2.b0 N K0 (fun x10 g11 => (impl_pairs_f_v2.l1 N K0 g0 g1 g2 g4 g5 g6 g7 x8 (fun o13 => (impl_pairs_f_v2.a1_0 N K0 (impl_pairs_f_v2.l0 N K0 g0 g1 g2 g4 g5 g6 g7 out0 m) out0 x8 o13)) N x10 g11)) ((impl_pairs_f_v2.l0 N K0 g0 g1 g2 g4 g5 g6 g7 out0 m)) out0 x8 g9)

noncomputable def impl_pairs_f_v2.s {ρ : Type} (N : Nat) (K0 : (Nat → Int) → (Nat → Int) → (Nat → Int) → (Nat → Int) → (Nat → Int) → Option ρ) (lp0 : Int → (Nat → Int) → Option ρ) (g3 : Nat → Int) : Option ρ :=
  (lp0 0 g3)

noncomputable def impl_pairs_f_v2 {ρ : Type} (N : Nat) (K0 : (Nat → Int) → (Nat → Int) → (Nat → Int) → (Nat → Int) → (Nat → Int) → Option ρ) (g0 : Nat → Int) (g1 : Nat → Int) (g2 : Nat → Int) (g3 : Nat → Int) (g4 : Nat → Int) (g5 : Nat → Int) (g6 : Nat → Int) (g7 : Nat → Int) : Option ρ :=
  (impl_pairs_f_v2.s N K0 (fun x8 g9 => (impl_pairs_f_v2.l0 N K0 g0 g1 g2 g4 g5 g6 g7 (fun o14 => (impl_pairs_f_v2.a0_0 N K0 g1 g2 g4 g5 o14)) N x8 g9)) g3)

noncomputable def impl_Hopf_tensor_c1 {ρ : Type} (N : Nat) (K0 : (Nat → Int) → (Nat → Int) → Option ρ) (j0 : Int) (k1 : Int) (x2 : Int) (g3 : Nat → Int) (g4 : Nat → Int) (g5 : Nat → Int) (g6 : Nat → Int) (g7 : Nat → Int) : Option ρ :=
  (impl_pairs_f_v2 N (fun r8 r9 r10 r11 r12 => (K0 r9 r10)) g5 (fun _ => j0) g3 g4 (fun _ => x2) (fun _ => k1) g6 g7)

noncomputable def impl_pairs_f.b1 {ρ : Type} (N : Nat) (K0 : (Nat → Int) → (Nat → Int) → Option ρ) (rec : Int → (Nat → Int) → (Nat → Int) → Option ρ) (out0 : (Nat → Int) → (Nat → Int) → Option ρ) (g0 : Nat → Int) (g3 : Nat → Int) (g4 : Nat → Int) (g5 : Nat → Int) (x6 : Int) (x9 : Int) (g10 : Nat → Int) (g11 : Nat → Int) : Option ρ :=
  (if (decide (x9 < 8)) = true then (if (0 : Int) ≤ x9 ∧ x9 < 8 then (if ((g0 ((x6.toNat * 8) + x9.toNat)) != 0) = true then (impl_Hopf_tensor_c1 N (fun r12 r13 => (rec ((IntKind.i64.wrap (x9 + 1))) r12 r13)) x6 x9 ((IntKind.i64.wrap (g0 ((x6.toNat * 8) + x9.toNat)))) g10 g11 g3 g4 g5) else (rec ((IntKind.i64.wrap (x9 + 1))) g10 g11)) else none) else (out0 g10 g11))

noncomputable def impl_pairs_f.a1_0 {ρ : Type} (N : Nat) (K0 : (Nat → Int) → (Nat → Int) → Option ρ) (rec : Int → (Nat → Int) → (Nat → Int) → Option ρ) (out0 : (Nat → Int) → (Nat → Int) → Option ρ) (x6 : Int) (o14 : Nat → Int) (o15 : Nat → Int) : Option ρ :=
  (rec ((IntKind.i64.wrap (x6 + 1))) o14 o15)

noncomputable def impl_pairs_f.b0 {ρ : Type} (N : Nat) (K0 : (Nat → Int) → (Nat → Int) → Option ρ) (lp1 : Int → (Nat → Int) → (Nat → Int) → Option ρ) (rec : Int → (Nat → Int) → (Nat → Int) → Option ρ) (out0 : (Nat → Int) → (Nat → Int) → Option ρ) (x6 : Int) (g7 : Nat → Int) (g8 : Nat → Int) : Option ρ :=
  (if (decide (x6 < 8)) = true then (if (0 : Int) ≤ x6 ∧ x6 < 8 then (lp1 0 g7 g8) else none) else (out0 g7 g8))

noncomputable def impl_pairs_f.a0_0 {ρ : Type} (N : Nat) (K0 : (Nat → Int) → (Nat → Int) → Option ρ) (o16 : Nat → Int) (o17 : Nat → Int) : Option ρ :=
  (K0 o16 o17)

noncomputable def impl_pairs_f.l1 {ρ : Type} (N : Nat) (K0 : (Nat → Int) → (Nat → Int) → Option ρ) (g0 : Nat → Int) (g3 : Nat → Int) (g4 : Nat → Int) (g5 : Nat → Int) (x6 : Int) (out0 : (Nat → Int) → (Nat → Int) → Option ρ) : Nat → Int → (Nat → Int) → (Nat → Int) → Option ρ
  | 0, _, _, _ => none
  | m + 1, x9, g10, g11 => (impl_pairs_f.b1 N K0 ((impl_pairs_f.l1 N K0 g0 g3 g4 g5 x6 out0 m)) out0 g0 g3 g4 g5 x6 x9 g10 g11)

noncomputable def impl_pairs_f.l0 {ρ : Type} (N : Nat) (K0 : (Nat → Int) → (Nat → Int) → Option ρ) (g0 : Nat → Int) (g3 : Nat → Int) (g4 : Nat → Int) (g5 : Nat → Int) (out0 : (Nat → Int) → (Nat → Int) → Option ρ) : Nat → Int → (Nat → Int) → (Nat → Int) → Option ρ
  | 0, _, _, _ => none
  | m + 1, x6, g7, g8 => (impl_pairs_f.b0 N K0 (fun x9 g10 g11 => (impl_pairs_f.l1 N K0 g0 g3 g4 g5 x6 (fun o14 o15 => (impl_pairs_f.a1_0 N K0 (impl_pairs_f.l0 N K0 g0 g3 g4 g5 out0 m) out0 x6 o14 o15)) N x9 g10 g11)) ((impl_pairs_f.l0 N K0 g0 g3 g4 g5 out0 m)) out0 x6 g7 g8)

noncomputable def impl_pairs_f.s {ρ : Type} (N : Nat) (K0 : (Nat → Int) → (Nat → Int) → Option ρ) (lp0 : Int → (Nat → Int) → (Nat → Int) → Option ρ) (g1 : Nat → Int) (g2 : Nat → Int) : Option ρ :=
  (lp0 0 g1 g2)

noncomputable def impl_pairs_f {ρ : Type} (N : Nat) (K0 : (Nat → Int) → (Nat → Int) → Option ρ) (g0 : Nat → Int) (g1 : Nat → Int) (g2 : Nat → Int) (g3 : Nat → Int) (g4 : Nat → Int) (g5 : Nat → Int) : Option ρ :=
  (impl_pairs_f.s N K0 (fun x6 g7 g8 => (impl_pairs_f.l0 N K0 g0 g3 g4 g5 (fun o16 o17 => (impl_pairs_f.a0_0 N K0 o16 o17)) N x6 g7 g8)) g1 g2)

noncomputable def impl_Hopf_tensor {ρ : Type} (N : Nat) (K0 : (Nat → Int) → Option ρ) (g0 : Nat → Int) (g1 : Nat → Int) (g2 : Nat → Int) (g3 : Nat → Int) : Option ρ :=
  (impl_Hopf_field N (fun r4 => (impl_pairs_f N (fun r5 r6 => (K0 r6)) g2 r4 (fun _ => 0) g3 g0 g1)) g0 g1)

noncomputable def impl_Hopf_axiom3.b1 {ρ : Type} (N : Nat) (K0 : Bool → Option ρ) (rec : Int → Option ρ) (out0 : Option ρ) (g0 : Nat → Int) (g1 : Nat → Int) (x2 : Int) (x3 : Int) : Option ρ :=
  (if (decide (x3 < (g0 1))) = true then (if (0 : Int) ≤ x2 ∧ x2 < 8 then (if (0 : Int) ≤ x3 ∧ x3 < 8 then (impl_Hopf_coproduct N (fun r4 => (if (0 : Int) ≤ x2 ∧ x2 < 8 then (if (0 : Int) ≤ x3 ∧ x3 < 8 then (impl_Hopf_tensor N (fun r5 => (if (!eqN 64 r4 r5) = true then (K0 false) else (rec ((IntKind.i64.wrap (x3 + 1)))))) g0 g1 (fun z => (g1 ((528 + (x2.toNat * 64)) + z))) (fun z => (g1 ((528 + (x3.toNat * 64)) + z)))) else none) else none)) (fun z => (g1 (((8 + (x2.toNat * 64)) + (x3.toNat * 8)) + z))) g0 g1) else none) else none) else out0)

noncomputable def impl_Hopf_axiom3.a1_0 {ρ : Type} (N : Nat) (K0 : Bool → Option ρ) (rec : Int → Option ρ) (out0 : Option ρ) (x2 : Int) : Option ρ :=
  (rec ((IntKind.i64.wrap (x2 + 1))))

noncomputable def impl_Hopf_axiom3.b0 {ρ : Type} (N : Nat) (K0 : Bool → Option ρ) (lp1 : Int → Option ρ) (rec : Int → Option ρ) (out0 : Option ρ) (g0 : Nat → Int) (x2 : Int) : Option ρ :=
  (if (decide (x2 < (g0 1))) = true then (lp1 0) else out0)

noncomputable def impl_Hopf_axiom3.a0_0 {ρ : Type} (N : Nat) (K0 : Bool → Option ρ) : Option ρ :=
  (K0 true)

noncomputable def impl_Hopf_axiom3.l1 {ρ : Type} (N : Nat) (K0 : Bool → Option ρ) (g0 : Nat → Int) (g1 : Nat → Int) (x2 : Int) (out0 : Option ρ) : Nat → Int → Option ρ
  | 0, _ => none
  | m + 1, x3 => (impl_Hopf_axiom3.b1 N K0 ((impl_Hopf_axiom3.l1 N K0 g0 g1 x2 out0 m)) out0 g0 g1 x2 x3)

noncomputable def impl_Hopf_axiom3.l0 {ρ : Type} (N : Nat) (K0 : Bool → Option ρ) (g0 : Nat → Int) (g1 : Nat → Int) (out0 : Option ρ) : Nat → Int → Option ρ
  | 0, _ => none
  | m + 1, x2 => (impl_Hopf_axiom3.b0 N K0 (fun x3 => (impl_Hopf_axiom3.l1 N K0 g0 g1 x2 (impl_Hopf_axiom3.a1_0 N K0 (impl_Hopf_axiom3.l0 N K0 g0 g1 out0 m) out0 x2) N x3)) ((impl_Hopf_axiom3.l0 N K0 g0 g1 out0 m)) out0 g0 x2)

noncomputable def impl_Hopf_axiom3.s {ρ : Type} (N : Nat) (K0 : Bool → Option ρ) (lp0 : Int → Option ρ) : Option ρ :=
  (lp0 0)

noncomputable def impl_Hopf_axiom3 {ρ : Type} (N : Nat) (K0 : Bool → Option ρ) (g0 : Nat → Int) (g1 : Nat → Int) : Option ρ :=
  (impl_Hopf_axiom3.s N K0 (fun x2 => (impl_Hopf_axiom3.l0 N K0 g0 g1 (impl_Hopf_axiom3.a0_0 N K0) N x2)))

noncomputable def impl_field_times {ρ : Type} (N : Nat) (K0 : (Nat → Int) → Option ρ) (f0 : Nat → Int) (k1 : Int) (w2 : Nat → Int) : Option ρ :=
  (impl_field_plus N (fun r3 => (K0 r3)) f0 k1 w2 (fun _ => 0))

noncomputable def impl_field_pair.b0 {ρ : Type} (N : Nat) (K0 : (Nat → Int) → Option ρ) (rec : Int → (Nat → Int) → Option ρ) (out0 : (Nat → Int) → Option ρ) (f0 : Nat → Int) (v1 : Nat → Int) (w2 : Nat → Int) (x3 : Int) (g4 : Nat → Int) : Option ρ :=
  (if (decide (x3 < 8)) = true then (if (0 : Int) ≤ x3 ∧ x3 < 8 then (impl_field_times N (fun r5 => (if (0 : Int) ≤ x3 ∧ x3 < 8 then (rec ((IntKind.i64.wrap (x3 + 1))) (updN g4 (x3.toNat * 8) 8 r5)) else none)) f0 ((IntKind.i64.wrap (v1 x3.toNat))) w2) else none) else (out0 g4))

noncomputable def impl_field_pair.a0_0 {ρ : Type} (N : Nat) (K0 : (Nat → Int) → Option ρ) (o6 : Nat → Int) : Option ρ :=
  (K0 o6)

noncomputable def impl_field_pair.l0 {ρ : Type} (N : Nat) (K0 : (Nat → Int) → Option ρ) (f0 : Nat → Int) (v1 : Nat → Int) (w2 : Nat → Int) (out0 : (Nat → Int) → Option ρ) : Nat → Int → (Nat → Int) → Option ρ
  | 0, _, _ => none
  | m + 1, x3, g4 => (impl_field_pair.b0 N K0 ((impl_field_pair.l0 N K0 f0 v1 w2 out0 m)) out0 f0 v1 w2 x3 g4)

noncomputable def impl_field_pair.s {ρ : Type} (N : Nat) (K0 : (Nat → Int) → Option ρ) (lp0 : Int → (Nat → Int) → Option ρ) : Option ρ :=
  (lp0 0 (fun _ => 0))

noncomputable def impl_field_pair {ρ : Type} (N : Nat) (K0 : (Nat → Int) → Option ρ) (f0 : Nat → Int) (v1 : Nat → Int) (w2 : Nat → Int) : Option ρ :=
  (impl_field_pair.s N K0 (fun x3 g4 => (impl_field_pair.l0 N K0 f0 v1 w2 (fun o6 => (impl_field_pair.a0_0 N K0 o6)) N x3 g4)))

noncomputable def impl_Hopf_axiom4 {ρ : Type} (N : Nat) (K0 : Bool → Option ρ) (g0 : Nat → Int) (g1 : Nat → Int) : Option ρ :=
  (impl_Hopf_coproduct N (fun r2 => (impl_Hopf_field N (fun r3 => (impl_field_pair N (fun r4 => (K0 ((eqN 64 r2 r4)))) r3 (fun z => (g1 (0 + z))) (fun z => (g1 (0 + z))))) g0 g1)) (fun z => (g1 (0 + z))) g0 g1)

noncomputable def impl_Hopf_counit {ρ : Type} (N : Nat) (K0 : Int → Option ρ) (v0 : Nat → Int) (g1 : Nat → Int) (g2 : Nat → Int) : Option ρ :=
  (impl_Hopf_field N (fun r3 => (impl_field_dot N (fun r4 => (K0 r4)) r3 (fun z => (g2 (520 + z))) v0)) g1 g2)

noncomputable def impl_Hopf_axiom5.b1 {ρ : Type} (N : Nat) (K0 : Bool → Option ρ) (rec : Int → Option ρ) (out0 : Option ρ) (g0 : Nat → Int) (g1 : Nat → Int) (r2 : Nat → Int) (x3 : Int) (x4 : Int) : Option ρ :=
  (if (decide (x4 < (r2 1))) = true then (if (0 : Int) ≤ x3 ∧ x3 < 8 then (if (0 : Int) ≤ x4 ∧ x4 < 8 then (impl_Hopf_counit N (fun r5 => (if (0 : Int) ≤ x3 ∧ x3 < 8 then (if (0 : Int) ≤ x4 ∧ x4 < 8 then (if (r2 0) = 0 then none else (if (r5 != (Int.tmod (IntKind.i64.wrap ((IntKind.i64.wrap (g1 (520 + (x3.toNat * 1)))) * (IntKind.i64.wrap (g1 (520 + (x4.toNat * 1)))))) (r2 0))) = true then (K0 false) else (rec ((IntKind.i64.wrap (x4 + 1)))))) else none) else none)) (fun z => (g1 (((8 + (x3.toNat * 64)) + (x4.toNat * 8)) + z))) g0 g1) else none) else none) else out0)

noncomputable def impl_Hopf_axiom5.a1_0 {ρ : Type} (N : Nat) (K0 : Bool → Option ρ) (rec : Int → Option ρ) (out0 : Option ρ) (x3 : Int) : Option ρ :=
  (rec ((IntKind.i64.wrap (x3 + 1))))

noncomputable def impl_Hopf_axiom5.b0 {ρ : Type} (N : Nat) (K0 : Bool → Option ρ) (lp1 : Int → Option ρ) (rec : Int → Option ρ) (out0 : Option ρ) (r2 : Nat → Int) (x3 : Int) : Option ρ :=
  (if (decide (x3 < (r2 1))) = true then (lp1 0) else out0)

noncomputable def impl_Hopf_axiom5.a0_0 {ρ : Type} (N : Nat) (K0 : Bool → Option ρ) (g0 : Nat → Int) (g1 : Nat → Int) : Option ρ :=
  (impl_Hopf_counit N (fun r6 => (K0 ((r6 == 1)))) (fun z => (g1 (0 + z))) g0 g1)

noncomputable def impl_Hopf_axiom5.l1 {ρ : Type} (N : Nat) (K0 : Bool → Option ρ) (g0 : Nat → Int) (g1 : Nat → Int) (r2 : Nat → Int) (x3 : Int) (out0 : Option ρ) : Nat → Int → Option ρ
  | 0, _ => none
  | m + 1, x4 => (impl_Hopf_axiom5.b1 N K0 ((impl_Hopf_axiom5.l1 N K0 g0 g1 r2 x3 out0 m)) out0 g0 g1 r2 x3 x4)

noncomputable def impl_Hopf_axiom5.l0 {ρ : Type} (N : Nat) (K0 : Bool → Option ρ) (g0 : Nat → Int) (g1 : Nat → Int) (r2 : Nat → Int) (out0 : Option ρ) : Nat → Int → Option ρ
  | 0, _ => none
  | m + 1, x3 => (impl_Hopf_axiom5.b0 N K0 (fun x4 => (impl_Hopf_axiom5.l1 N K0 g0 g1 r2 x3 (impl_Hopf_axiom5.a1_0 N K0 (impl_Hopf_axiom5.l0 N K0 g0 g1 r2 out0 m) out0 x3) N x4)) ((impl_Hopf_axiom5.l0 N K0 g0 g1 r2 out0 m)) out0 r2 x3)

noncomputable def impl_Hopf_axiom5.s {ρ : Type} (N : Nat) (K0 : Bool → Option ρ) (lp0 : (Nat → Int) → Int → Option ρ) (g0 : Nat → Int) (g1 : Nat → Int) : Option ρ :=
  (impl_Hopf_field N (fun r2 => (lp0 r2 0)) g0 g1)

noncomputable def impl_Hopf_axiom5 {ρ : Type} (N : Nat) (K0 : Bool → Option ρ) (g0 : Nat → Int) (g1 : Nat → Int) : Option ρ :=
  (impl_Hopf_axiom5.s N K0 (fun r2 x3 => (impl_Hopf_axiom5.l0 N K0 g0 g1 r2 (impl_Hopf_axiom5.a0_0 N K0 g0 g1) N x3)) g0 g1)

noncomputable def impl_Hopf_product.b1 {ρ : Type} (N : Nat) (K0 : (Nat → Int) → Option ρ) (rec : Int → (Nat → Int) → Option ρ) (out0 : (Nat → Int) → Option ρ) (v0 : Nat → Int) (w1 : Nat → Int) (g3 : Nat → Int) (r4 : Nat → Int) (x5 : Int) (x7 : Int) (g8 : Nat → Int) : Option ρ :=
  (if (decide (x7 < (r4 1))) = true then (if (0 : Int) ≤ x5 ∧ x5 < 8 then (if (0 : Int) ≤ x7 ∧ x7 < 8 then (if (0 : Int) ≤ x5 ∧ x5 < 8 then (if (0 : Int) ≤ x7 ∧ x7 < 8 then (impl_field_plus N (fun r9 => (rec ((IntKind.i64.wrap (x7 + 1))) r9)) r4 ((IntKind.i64.wrap ((IntKind.i64.wrap (v0 (x5.toNat * 1))) * (IntKind.i64.wrap (w1 (x7.toNat * 1)))))) (fun z => (g3 (((8 + (x5.toNat * 64)) + (x7.toNat * 8)) + z))) g8) else none) else none) else none) else none) else (out0 g8))

noncomputable def impl_Hopf_product.a1_0 {ρ : Type} (N : Nat) (K0 : (Nat → Int) → Option ρ) (rec : Int → (Nat → Int) → Option ρ) (out0 : (Nat → Int) → Option ρ) (x5 : Int) (o10 : Nat → Int) : Option ρ :=
  (rec ((IntKind.i64.wrap (x5 + 1))) o10)

noncomputable def impl_Hopf_product.b0 {ρ : Type} (N : Nat) (K0 : (Nat → Int) → Option ρ) (lp1 : Int → (Nat → Int) → Option ρ) (rec : Int → (Nat → Int) → Option ρ) (out0 : (Nat → Int) → Option ρ) (v0 : Nat → Int) (r4 : Nat → Int) (x5 : Int) (g6 : Nat → Int) : Option ρ :=
  (if (decide (x5 < (r4 1))) = true then (if (0 : Int) ≤ x5 ∧ x5 < 8 then (if ((v0 (x5.toNat * 1)) == 0) = true then (rec ((IntKind.i64.wrap (x5 + 1))) g6) else (lp1 0 g6)) else none) else (out0 g6))

noncomputable def impl_Hopf_product.a0_0 {ρ : Type} (N : Nat) (K0 : (Nat → Int) → Option ρ) (o11 : Nat → Int) : Option ρ :=
  (K0 o11)

noncomputable def impl_Hopf_product.l1 {ρ : Type} (N : Nat) (K0 : (Nat → Int) → Option ρ) (v0 : Nat → Int) (w1 : Nat → Int) (g3 : Nat → Int) (r4 : Nat → Int) (x5 : Int) (out0 : (Nat → Int) → Option ρ) : Nat → Int → (Nat → Int) → Option ρ
  | 0, _, _ => none
  | m + 1, x7, g8 => (impl_Hopf_product.b1 N K0 ((impl_Hopf_product.l1 N K0 v0 w1 g3 r4 x5 out0 m)) out0 v0 w1 g3 r4 x5 x7 g8)

noncomputable def impl_Hopf_product.l0 {ρ : Type} (N : Nat) (K0 : (Nat → Int) → Option ρ) (v0 : Nat → Int) (w1 : Nat → Int) (g3 : Nat → Int) (r4 : Nat → Int) (out0 : (Nat → Int) → Option ρ) : Nat → Int → (Nat → Int) → Option ρ
  | 0, _, _ => none
  | m + 1, x5, g6 => (impl_Hopf_product.b0 N K0 (fun x7 g8 => (impl_Hopf_product.l1 N K0 v0 w1 g3 r4 x5 (fun o10 => (impl_Hopf_product.a1_0 N K0 (impl_Hopf_product.l0 N K0 v0 w1 g3 r4 out0 m) out0 x5 o10)) N x7 g8)) ((impl_Hopf_product.l0 N K0 v0 w1 g3 r4 out0 m)) out0 v0 r4 x5 g6)

noncomputable def impl_Hopf_product.s {ρ : Type} (N : Nat) (K0 : (Nat → Int) → Option ρ) (lp0 : (Nat → Int) → Int → (Nat → Int) → Option ρ) (g2 : Nat → Int) (g3 : Nat → Int) : Option ρ :=
  (impl_Hopf_field N (fun r4 => (lp0 r4 0 (fun _ => 0))) g2 g3)

noncomputable def impl_Hopf_product {ρ : Type} (N : Nat) (K0 : (Nat → Int) → Option ρ) (v0 : Nat → Int) (w1 : Nat → Int) (g2 : Nat → Int) (g3 : Nat → Int) : Option ρ :=
  (impl_Hopf_product.s N K0 (fun r4 x5 g6 => (impl_Hopf_product.l0 N K0 v0 w1 g3 r4 (fun o11 => (impl_Hopf_product.a0_0 N K0 o11)) N x5 g6)) g2 g3)

noncomputable def impl_Hopf_folded_c1 {ρ : Type} (N : Nat) (K0 : (Nat → Int) → Option ρ) (j0 : Int) (k1 : Int) (x2 : Int) (g3 : Bool) (g4 : Nat → Int) (g5 : Nat → Int) (g6 : Nat → Int) (g7 : Nat → Int) : Option ρ :=
  (if g3 = true then (if (0 : Int) ≤ j0 ∧ j0 < 8 then (impl_basis N (fun r8 => (impl_Hopf_product N (fun r9 => (impl_field_plus N (fun r10 => (K0 r10)) g4 x2 r9 g5)) (fun z => (g7 ((1040 + (j0.toNat * 8)) + z))) r8 g6 g7)) k1) else none) else (impl_basis N (fun r11 => (if (0 : Int) ≤ k1 ∧ k1 < 8 then (impl_Hopf_product N (fun r12 => (impl_field_plus N (fun r13 => (K0 r13)) g4 x2 r12 g5)) r11 (fun z => (g7 ((1040 + (k1.toNat * 8)) + z))) g6 g7) else none)) j0))

noncomputable def impl_pairs_f_v3.b1 {ρ : Type} (N : Nat) (K0 : Bool → (Nat → Int) → (Nat → Int) → Option ρ) (rec : Int → (Nat → Int) → Option ρ) (out0 : (Nat → Int) → Option ρ) (g0 : Nat → Int) (g1 : Bool) (g2 : Nat → Int) (g4 : Nat → Int) (g5 : Nat → Int) (x6 : Int) (x8 : Int) (g9 : Nat → Int) : Option ρ :=
  (if (decide (x8 < 8)) = true then (if (0 : Int) ≤ x8 ∧ x8 < 8 then (if ((g0 ((x6.toNat * 8) + x8.toNat)) != 0) = true then (impl_Hopf_folded_c1 N (fun r10 => (rec ((IntKind.i64.wrap (x8 + 1))) r10)) x6 x8 ((IntKind.i64.wrap (g0 ((x6.toNat * 8) + x8.toNat)))) (g1) g2 g9 g4 g5) else (rec ((IntKind.i64.wrap (x8 + 1))) g9)) else none) else (out0 g9))

noncomputable def impl_pairs_f_v3.a1_0 {ρ : Type} (N : Nat) (K0 : Bool → (Nat → Int) → (Nat → Int) → Option ρ) (rec : Int → (Nat → Int) → Option ρ) (out0 : (Nat → Int) → Option ρ) (x6 : Int) (o11 : Nat → Int) : Option ρ :=
  (rec ((IntKind.i64.wrap (x6 + 1))) o11)

noncomputable def impl_pairs_f_v3.b0 {ρ : Type} (N : Nat) (K0 : Bool → (Nat → Int) → (Nat → Int) → Option ρ) (lp1 : Int → (Nat → Int) → Option ρ) (rec : Int → (Nat → Int) → Option ρ) (out0 : (Nat → Int) → Option ρ) (x6 : Int) (g7 : Nat → Int) : Option ρ :=
  (if (decide (x6 < 8)) = true then (if (0 : Int) ≤ x6 ∧ x6 < 8 then (lp1 0 g7) else none) else (out0 g7))

noncomputable def impl_pairs_f_v3.a0_0 {ρ : Type} (N : Nat) (K0 : Bool → (Nat → Int) → (Nat → Int) → Option ρ) (g1 : Bool) (g2 : Nat → Int) (o12 : Nat → Int) : Option ρ :=
  (K0 (g1) g2 o12)

noncomputable def impl_pairs_f_v3.l1 {ρ : Type} (N : Nat) (K0 : Bool → (Nat → Int) → (Nat → Int) → Option ρ) (g0 : Nat → Int) (g1 : Bool) (g2 : Nat → Int) (g4 : Nat → Int) (g5 : Nat → Int) (x6 : Int) (out0 : (Nat → Int) → Option ρ) : Nat → Int → (Nat → Int) → Option ρ
  | 0, _, _ => none
  | m + 1, x8, g9 => (impl_pairs_f_v3.b1 N K0 ((impl_pairs_f_v3.l1 N K0 g0 g1 g2 g4 g5 x6 out0 m)) out0 g0 g1 g2 g4 g5 x6 x8 g9)

noncomputable def impl_pairs_f_v3.l0 {ρ : Type} (N : Nat) (K0 : Bool → (Nat → Int) → (Nat → Int) → Option ρ) (g0 : Nat → Int) (g1 : Bool) (g2 : Nat → Int) (g4 : Nat → Int) (g5 : Nat → Int) (out0 : (Nat → Int) → Option ρ) : Nat → Int → (Nat → Int) → Option ρ
  | 0, _, _ => none
  | m + 1, x6, g7 => (impl_pairs_f_v3.b0 N K0 (fun x8 g9 => (impl_pairs_f_v3.l1 N K0 g0 g1 g2 g4 g5 x6 (fun o11 => (impl_pairs_f_v3.a1_0 N K0 (impl_pairs_f_v3.l0 N K0 g0 g1 g2 g4 g5 out0 m) out0 x6 o11)) N x8 g9)) ((impl_pairs_f_v3.l0 N K0 g0 g1 g2 g4 g5 out0 m)) out0 x6 g7)

noncomputable def impl_pairs_f_v3.s {ρ : Type} (N : Nat) (K0 : Bool → (Nat → Int) → (Nat → Int) → Option ρ) (lp0 : Int → (Nat → Int) → Option ρ) (g3 : Nat → Int) : Option ρ :=
  (lp0 0 g3)

noncomputable def impl_pairs_f_v3 {ρ : Type} (N : Nat) (K0 : Bool → (Nat → Int) → (Nat → Int) → Option ρ) (g0 : Nat → Int) (g1 : Bool) (g2 : Nat → Int) (g3 : Nat → Int) (g4 : Nat → Int) (g5 : Nat → Int) : Option ρ :=
  (impl_pairs_f_v3.s N K0 (fun x6 g7 => (impl_pairs_f_v3.l0 N K0 g0 g1 g2 g4 g5 (fun o12 => (impl_pairs_f_v3.a0_0 N K0 g1 g2 o12)) N x6 g7)) g3)

noncomputable def impl_Hopf_folded {ρ : Type} (N : Nat) (K0 : (Nat → Int) → Option ρ) (i0 : Int) (firstPart1 : Bool) (g2 : Nat → Int) (g3 : Nat → Int) : Option ρ :=
  (impl_Hopf_field N (fun r4 => (if (0 : Int) ≤ i0 ∧ i0 < 8 then (impl_pairs_f_v3 N (fun r5 r6 r7 => (K0 r7)) (fun z => (g3 ((528 + (i0.toNat * 64)) + z))) (firstPart1) r4 (fun _ => 0) g2 g3) else none)) g2 g3)

noncomputable def impl_Hopf_axiomS.b0 {ρ : Type} (N : Nat) (K0 : Bool → Option ρ) (rec : Int → Option ρ) (out0 : Option ρ) (firstPart0 : Bool) (g1 : Nat → Int) (g2 : Nat → Int) (r3 : Nat → Int) (x4 : Int) : Option ρ :=
  (if (decide (x4 < (r3 1))) = true then (impl_Hopf_folded N (fun r5 => (if (0 : Int) ≤ x4 ∧ x4 < 8 then (impl_field_times N (fun r6 => (if (!eqN 8 r5 r6) = true then (K0 false) else (rec ((IntKind.i64.wrap (x4 + 1)))))) r3 ((IntKind.i64.wrap (g2 (520 + (x4.toNat * 1))))) (fun z => (g2 (0 + z)))) else none)) x4 (firstPart0) g1 g2) else out0)

noncomputable def impl_Hopf_axiomS.a0_0 {ρ : Type} (N : Nat) (K0 : Bool → Option ρ) : Option ρ :=
  (K0 true)

noncomputable def impl_Hopf_axiomS.l0 {ρ : Type} (N : Nat) (K0 : Bool → Option ρ) (firstPart0 : Bool) (g1 : Nat → Int) (g2 : Nat → Int) (r3 : Nat → Int) (out0 : Option ρ) : Nat → Int → Option ρ
  | 0, _ => none
  | m + 1, x4 => (impl_Hopf_axiomS.b0 N K0 ((impl_Hopf_axiomS.l0 N K0 firstPart0 g1 g2 r3 out0 m)) out0 firstPart0 g1 g2 r3 x4)

noncomputable def impl_Hopf_axiomS.s {ρ : Type} (N : Nat) (K0 : Bool → Option ρ) (lp0 : (Nat → Int) → Int → Option ρ) (g1 : Nat → Int) (g2 : Nat → Int) : Option ρ :=
  (impl_Hopf_field N (fun r3 => (lp0 r3 0)) g1 g2)

noncomputable def impl_Hopf_axiomS {ρ : Type} (N : Nat) (K0 : Bool → Option ρ) (firstPart0 : Bool) (g1 : Nat → Int) (g2 : Nat → Int) : Option ρ :=
  (impl_Hopf_axiomS.s N K0 (fun r3 x4 => (impl_Hopf_axiomS.l0 N K0 firstPart0 g1 g2 r3 (impl_Hopf_axiomS.a0_0 N K0) N x4)) g1 g2)

noncomputable def impl_Hopf_fails_c3 {ρ : Type} (N : Nat) (K0 : Bool → Option ρ) (g0 : Nat → Int) (g1 : Nat → Int) : Option ρ :=
  (impl_Hopf_axiomS N (fun r2 => (K0 (r2))) true g0 g1)

noncomputable def impl_Hopf_fails_c4 {ρ : Type} (N : Nat) (K0 : Bool → Option ρ) (g0 : Nat → Int) (g1 : Nat → Int) : Option ρ :=
  (impl_Hopf_axiomS N (fun r2 => (K0 (r2))) false g0 g1)

noncomputable def impl_Hopf_fails {ρ : Type} (N : Nat) (K0 : Int → Option ρ) (up0 : Int) (g1 : Nat → Int) (g2 : Nat → Int) : Option ρ :=
  (if (0 : Int) ≤ 0 ∧ 0 ≤ up0 ∧ up0 ≤ 7 then (if (decide (0 < (up0.toNat : Int))) = true then (if (0 : Int) ≤ 0 ∧ 0 < (up0.toNat : Int) then (impl_Hopf_fails_c1 N (fun r3 => (if (!r3) = true then (K0 1) else (if (decide (1 < (up0.toNat : Int))) = true then (if (0 : Int) ≤ 1 ∧ 1 < (up0.toNat : Int) then (impl_Hopf_fails_c2 N (fun r4 => (if (!r4) = true then (K0 2) else (if (decide (2 < (up0.toNat : Int))) = true then (if (0 : Int) ≤ 2 ∧ 2 < (up0.toNat : Int) then (impl_Hopf_axiom3 N (fun r5 => (if (!r5) = true then (K0 3) else (if (decide (3 < (up0.toNat : Int))) = true then (if (0 : Int) ≤ 3 ∧ 3 < (up0.toNat : Int) then (impl_Hopf_axiom4 N (fun r6 => (if (!r6) = true then (K0 4) else (if (decide (4 < (up0.toNat : Int))) = true then (if (0 : Int) ≤ 4 ∧ 4 < (up0.toNat : Int) then (impl_Hopf_axiom5 N (fun r7 => (if (!r7) = true then (K0 5) else (if (decide (5 < (up0.toNat : Int))) = true then (if (0 : Int) ≤ 5 ∧ 5 < (up0.toNat : Int) then (impl_Hopf_fails_c3 N (fun r8 => (if (!r8) = true then (K0 6) else (if (decide (6 < (up0.toNat : Int))) = true then (if (0 : Int) ≤ 6 ∧ 6 < (up0.toNat : Int) then (impl_Hopf_fails_c4 N (fun r9 => (if (!r9) = true then (K0 7) else (if (decide (7 < (up0.toNat : Int))) = true then (if (0 : Int) ≤ 7 ∧ 7 < (up0.toNat : Int) then none else none) else (K0 0)))) g1 g2) else none) else (K0 0)))) g1 g2) else none) else (K0 0)))) g1 g2) else none) else (K0 0)))) g1 g2) else none) else (K0 0)))) g1 g2) else none) else (K0 0)))) g1 g2) else none) else (K0 0)))) g1 g2) else none) else (K0 0)) else none)

noncomputable def impl_IsHopf {ρ : Type} (N : Nat) (K0 : Bool → Option ρ) (h0 : Nat → Int) (h1 : Nat → Int) : Option ρ :=
  (impl_Hopf_isShaped N (fun r2 => (if r2 = true then (if N = 5000 then (impl_Hopf_fails N (fun r3 => (K0 ((r3 == 0)))) 7 h0 h1) else none) else (K0 false))) h0 h1)

noncomputable def laws_FnExactIsHopf {ρ : Type} (N : Nat) (K0 : Bool → Option ρ) (aH0 : Nat → Int) (aH1 : Nat → Int) : Option ρ :=
  (laws_toHopf N (fun r2 r3 => (spec_IsHopf N (fun r4 => (laws_toHopf N (fun r5 r6 => (impl_IsHopf N (fun r7 => (if (!(r7 == r4)) = true then (K0 false) else (K0 true))) r5 r6)) aH0 aH1)) r2 r3)) aH0 aH1)

noncomputable def spec_AxiomThatFails {ρ : Type} (N : Nat) (K0 : Int → Int → Option ρ) (h0 : Nat → Int) (h1 : Nat → Int) : Option ρ :=
  (spec_l03Shape N (fun r2 => (if (!r2) = true then (K0 0 1) else (spec_l03Fails N (fun r3 => (K0 r3 0)) h0 h1))) h0 h1)

noncomputable def impl_AxiomThatFails {ρ : Type} (N : Nat) (K0 : Int → Int → Option ρ) (h0 : Nat → Int) (h1 : Nat → Int) : Option ρ :=
  (impl_Hopf_isShaped N (fun r2 => (if (!r2) = true then (K0 0 1) else (if N = 5000 then (impl_Hopf_fails N (fun r3 => (K0 r3 0)) 7 h0 h1) else none))) h0 h1)

noncomputable def laws_FnExactAxiomThatFails {ρ : Type} (N : Nat) (K0 : Bool → Option ρ) (aH0 : Nat → Int) (aH1 : Nat → Int) : Option ρ :=
  (laws_toHopf N (fun r2 r3 => (spec_AxiomThatFails N (fun r4 r5 => (laws_toHopf N (fun r6 r7 => (impl_AxiomThatFails N (fun r8 r9 => (if (r8 != r4) = true then (K0 false) else (if (r9 != r5) = true then (K0 false) else (K0 true)))) r6 r7)) aH0 aH1)) r2 r3)) aH0 aH1)

noncomputable def spec_l03Code_s8.b0 {ρ : Type} (N : Nat) (K0 : Int → Option ρ) (rec : Int → Option ρ) (out0 : Option ρ) (h0 : Nat → Int) (list2 : Nat) (g4 : Nat → Int) (i6 : Int) : Option ρ :=
  (if (decide (i6 < (list2 : Int))) = true then (if (0 : Int) ≤ i6 ∧ i6 < (list2 : Int) then (spec_l01Vector N (fun r7 => (if (!r7) = true then (K0 1) else (rec ((IntKind.i64.wrap (i6 + 1)))))) ((h0 0)) ((h0 1)) (fun z => (g4 ((0 + (i6.toNat * 8)) + z)))) else none) else out0)

noncomputable def spec_l03Code_s8.a0_0 {ρ : Type} (N : Nat) (K0 : Int → Option ρ) : Option ρ :=
  (K0 0)

noncomputable def spec_l03Code_s8.l0 {ρ : Type} (N : Nat) (K0 : Int → Option ρ) (h0 : Nat → Int) (list2 : Nat) (g4 : Nat → Int) (out0 : Option ρ) : Nat → Int → Option ρ
  | 0, _ => none
  | m + 1, i6 => (spec_l03Code_s8.b0 N K0 ((spec_l03Code_s8.l0 N K0 h0 list2 g4 out0 m)) out0 h0 list2 g4 i6)

noncomputable def spec_l03Code_s8.s {ρ : Type} (N : Nat) (K0 : Int → Option ρ) (lp0 : Int → Option ρ) (h0 : Nat → Int) (h1 : Nat → Int) : Option ρ :=
  (spec_l03Is N (fun r5 => (if (!r5) = true then (K0 1) else (lp0 0))) h0 h1)

noncomputable def spec_l03Code_s8 {ρ : Type} (N : Nat) (K0 : Int → Option ρ) (h0 : Nat → Int) (h1 : Nat → Int) (list2 : Nat) (list3 : Nat) (g4 : Nat → Int) : Option ρ :=
  (spec_l03Code_s8.s N K0 (fun i6 => (spec_l03Code_s8.l0 N K0 h0 list2 g4 (spec_l03Code_s8.a0_0 N K0) N i6)) h0 h1)

noncomputable def spec_CounitOf {ρ : Type} (N : Nat) (K0 : Int → Int → Option ρ) (h0 : Nat → Int) (h1 : Nat → Int) (v2 : Nat → Int) : Option ρ :=
  (spec_l03Code_s8 N (fun r3 => (if (r3 != 0) = true then (K0 0 r3) else (spec_l03Counit N (fun r4 => (K0 r4 0)) h0 h1 v2))) h0 h1 1 1 (fun z => (v2 (0 + z))))

noncomputable def impl_Hopf_has_c1 {ρ : Type} (N : Nat) (K0 : Bool → Option ρ) (v0 : Nat → Int) (g1 : Nat → Int) (g2 : Nat → Int) : Option ρ :=
  (impl_IsVector N (fun r3 => (K0 ((!r3)))) ((g1 0)) ((g1 1)) v0)

noncomputable def slices_IndexFunc_sf.b0 {ρ : Type} (N : Nat) (K0 : Int → Option ρ) (rec : Int → Option ρ) (out0 : Option ρ) (s0 : Nat) (g3 : Nat → Int) (g4 : Nat → Int) (g5 : Nat → Int) (x6 : Int) : Option ρ :=
  (if (decide (x6 < (s0 : Int))) = true then (if (0 : Int) ≤ x6 ∧ x6 < (s0 : Int) then (impl_Hopf_has_c1 N (fun r7 => (if r7 = true then (K0 x6) else (rec ((IntKind.i64.wrap (x6 + 1)))))) (fun z => (g3 ((0 + (x6.toNat * 8)) + z))) g4 g5) else none) else out0)

noncomputable def slices_IndexFunc_sf.a0_0 {ρ : Type} (N : Nat) (K0 : Int → Option ρ) : Option ρ :=
  (K0 (-1))

noncomputable def slices_IndexFunc_sf.l0 {ρ : Type} (N : Nat) (K0 : Int → Option ρ) (s0 : Nat) (g3 : Nat → Int) (g4 : Nat → Int) (g5 : Nat → Int) (out0 : Option ρ) : Nat → Int → Option ρ
  | 0, _ => none
  | m + 1, x6 => (slices_IndexFunc_sf.b0 N K0 ((slices_IndexFunc_sf.l0 N K0 s0 g3 g4 g5 out0 m)) out0 s0 g3 g4 g5 x6)

noncomputable def slices_IndexFunc_sf.s {ρ : Type} (N : Nat) (K0 : Int → Option ρ) (lp0 : Int → Option ρ) : Option ρ :=
  (lp0 0)

noncomputable def slices_IndexFunc_sf {ρ : Type} (N : Nat) (K0 : Int → Option ρ) (s0 : Nat) (s1 : Nat) (g2 : Nat) (g3 : Nat → Int) (g4 : Nat → Int) (g5 : Nat → Int) : Option ρ :=
  (slices_IndexFunc_sf.s N K0 (fun x6 => (slices_IndexFunc_sf.l0 N K0 s0 g3 g4 g5 (slices_IndexFunc_sf.a0_0 N K0) N x6)))

noncomputable def slices_ContainsFunc_sf {ρ : Type} (N : Nat) (K0 : Bool → Option ρ) (s0 : Nat) (s1 : Nat) (g2 : Nat) (g3 : Nat → Int) (g4 : Nat → Int) (g5 : Nat → Int) : Option ρ :=
  (slices_IndexFunc_sf N (fun r6 => (K0 ((decide (r6 ≥ 0))))) s0 s1 (s1 * 8) (fun z => (g3 (0 + z))) g4 g5)

noncomputable def impl_Hopf_has_s {ρ : Type} (N : Nat) (K0 : Bool → Option ρ) (list0 : Nat) (list1 : Nat) (g2 : Nat → Int) (g3 : Nat → Int) (g4 : Nat) (g5 : Nat → Int) : Option ρ :=
  (slices_ContainsFunc_sf N (fun r6 => (K0 ((!r6)))) list0 list1 (list1 * 8) (fun z => (g5 (0 + z))) g2 g3)

noncomputable def impl_unless {ρ : Type} (N : Nat) (K0 : Int → Option ρ) (so0 : Bool) (code1 : Int) : Option ρ :=
  (if so0 = true then (K0 0) else (K0 code1))

noncomputable def impl_Hopf_code_s8 {ρ : Type} (N : Nat) (K0 : Int → Option ρ) (list0 : Nat) (list1 : Nat) (g2 : Nat → Int) (g3 : Nat → Int) (g4 : Nat → Int) : Option ρ :=
  (impl_IsHopf N (fun r5 => (if r5 = true then (impl_Hopf_has_s N (fun r6 => (impl_unless N (fun r7 => (K0 r7)) (r6) 1)) list0 list1 g2 g3 (list1 * 8) (fun z => (g4 (0 + z)))) else (impl_unless N (fun r8 => (K0 r8)) false 1))) g2 g3)

noncomputable def impl_CounitOf {ρ : Type} (N : Nat) (K0 : Int → Int → Option ρ) (h0 : Nat → Int) (h1 : Nat → Int) (v2 : Nat → Int) : Option ρ :=
  (impl_Hopf_code_s8 N (fun r3 => (if (r3 != 0) = true then (K0 0 r3) else (impl_Hopf_counit N (fun r4 => (K0 r4 0)) v2 h0 h1))) 1 1 h0 h1 (fun z => (v2 (0 + z))))

noncomputable def laws_FnExactCounitOf {ρ : Type} (N : Nat) (K0 : Bool → Option ρ) (aH0 : Nat → Int) (aH1 : Nat → Int) (aV2 : Nat → Int) : Option ρ :=
  (laws_toHopf N (fun r3 r4 => (laws_toVector N (fun r5 => (spec_CounitOf N (fun r6 r7 => (laws_toHopf N (fun r8 r9 => (laws_toVector N (fun r10 => (impl_CounitOf N (fun r11 r12 => (if (r11 != r6) = true then (K0 false) else (if (r12 != r7) = true then (K0 false) else (K0 true)))) r8 r9 r10)) aV2)) aH0 aH1)) r3 r4 r5)) aV2)) aH0 aH1)

noncomputable def spec_IsLeftIntegral.b0 {ρ : Type} (N : Nat) (K0 : Bool → Int → Option ρ) (rec : Int → Option ρ) (out0 : Option ρ) (h0 : Nat → Int) (h1 : Nat → Int) (t2 : Nat → Int) (i4 : Int) : Option ρ :=
  (if (decide (i4 < (h0 1))) = true then (spec_l03Algebra N (fun r5 r6 => (spec_l01Basis N (fun r7 => (spec_l01Times N (fun r8 => (if (0 : Int) ≤ i4 ∧ i4 < 8 then (spec_l01Add N (fun r9 => (if (!eqN 8 r8 r9) = true then (K0 false 0) else (rec ((IntKind.i64.wrap (i4 + 1)))))) ((h0 0)) (fun _ => 0) t2 ((IntKind.i64.wrap (h1 (520 + (i4.toNat * 1)))))) else none)) r5 r6 r7 t2)) i4)) h0 h1) else out0)

noncomputable def spec_IsLeftIntegral.a0_0 {ρ : Type} (N : Nat) (K0 : Bool → Int → Option ρ) : Option ρ :=
  (K0 true 0)

noncomputable def spec_IsLeftIntegral.l0 {ρ : Type} (N : Nat) (K0 : Bool → Int → Option ρ) (h0 : Nat → Int) (h1 : Nat → Int) (t2 : Nat → Int) (out0 : Option ρ) : Nat → Int → Option ρ
  | 0, _ => none
  | m + 1, i4 => (spec_IsLeftIntegral.b0 N K0 ((spec_IsLeftIntegral.l0 N K0 h0 h1 t2 out0 m)) out0 h0 h1 t2 i4)

noncomputable def spec_IsLeftIntegral.s {ρ : Type} (N : Nat) (K0 : Bool → Int → Option ρ) (lp0 : Int → Option ρ) (h0 : Nat → Int) (h1 : Nat → Int) (t2 : Nat → Int) : Option ρ :=
  (spec_l03Code_s8 N (fun r3 => (if (r3 != 0) = true then (K0 false r3) else (lp0 0))) h0 h1 1 1 (fun z => (t2 (0 + z))))

noncomputable def spec_IsLeftIntegral {ρ : Type} (N : Nat) (K0 : Bool → Int → Option ρ) (h0 : Nat → Int) (h1 : Nat → Int) (t2 : Nat → Int) : Option ρ :=
  (spec_IsLeftIntegral.s N K0 (fun i4 => (spec_IsLeftIntegral.l0 N K0 h0 h1 t2 (spec_IsLeftIntegral.a0_0 N K0) N i4)) h0 h1 t2)

noncomputable def impl_IsLeftIntegral.b0 {ρ : Type} (N : Nat) (K0 : Bool → Int → Option ρ) (rec : Int → Option ρ) (out0 : Option ρ) (h0 : Nat → Int) (h1 : Nat → Int) (t2 : Nat → Int) (r4 : Nat → Int) (x5 : Int) : Option ρ :=
  (if (decide (x5 < (r4 1))) = true then (impl_basis N (fun r6 => (impl_Hopf_product N (fun r7 => (if (0 : Int) ≤ x5 ∧ x5 < 8 then (impl_field_times N (fun r8 => (if (!eqN 8 r7 r8) = true then (K0 false 0) else (rec ((IntKind.i64.wrap (x5 + 1)))))) r4 ((IntKind.i64.wrap (h1 (520 + (x5.toNat * 1))))) t2) else none)) r6 t2 h0 h1)) x5) else out0)

noncomputable def impl_IsLeftIntegral.a0_0 {ρ : Type} (N : Nat) (K0 : Bool → Int → Option ρ) : Option ρ :=
  (K0 true 0)

noncomputable def impl_IsLeftIntegral.l0 {ρ : Type} (N : Nat) (K0 : Bool → Int → Option ρ) (h0 : Nat → Int) (h1 : Nat → Int) (t2 : Nat → Int) (r4 : Nat → Int) (out0 : Option ρ) : Nat → Int → Option ρ
  | 0, _ => none
  | m + 1, x5 => (impl_IsLeftIntegral.b0 N K0 ((impl_IsLeftIntegral.l0 N K0 h0 h1 t2 r4 out0 m)) out0 h0 h1 t2 r4 x5)

noncomputable def impl_IsLeftIntegral.s {ρ : Type} (N : Nat) (K0 : Bool → Int → Option ρ) (lp0 : (Nat → Int) → Int → Option ρ) (h0 : Nat → Int) (h1 : Nat → Int) (t2 : Nat → Int) : Option ρ :=
  (impl_Hopf_code_s8 N (fun r3 => (if (r3 != 0) = true then (K0 false r3) else (impl_Hopf_field N (fun r4 => (lp0 r4 0)) h0 h1))) 1 1 h0 h1 (fun z => (t2 (0 + z))))

noncomputable def impl_IsLeftIntegral {ρ : Type} (N : Nat) (K0 : Bool → Int → Option ρ) (h0 : Nat → Int) (h1 : Nat → Int) (t2 : Nat → Int) : Option ρ :=
  (impl_IsLeftIntegral.s N K0 (fun r4 x5 => (impl_IsLeftIntegral.l0 N K0 h0 h1 t2 r4 (impl_IsLeftIntegral.a0_0 N K0) N x5)) h0 h1 t2)

noncomputable def laws_FnExactIsLeftIntegral {ρ : Type} (N : Nat) (K0 : Bool → Option ρ) (aH0 : Nat → Int) (aH1 : Nat → Int) (aT2 : Nat → Int) : Option ρ :=
  (laws_toHopf N (fun r3 r4 => (laws_toVector N (fun r5 => (spec_IsLeftIntegral N (fun r6 r7 => (laws_toHopf N (fun r8 r9 => (laws_toVector N (fun r10 => (impl_IsLeftIntegral N (fun r11 r12 => (if (!(r11 == r6)) = true then (K0 false) else (if (r12 != r7) = true then (K0 false) else (K0 true)))) r8 r9 r10)) aT2)) aH0 aH1)) r3 r4 r5)) aT2)) aH0 aH1)

noncomputable def spec_CoproductOf {ρ : Type} (N : Nat) (K0 : (Nat → Int) → Int → Option ρ) (h0 : Nat → Int) (h1 : Nat → Int) (v2 : Nat → Int) : Option ρ :=
  (spec_l03Code_s8 N (fun r3 => (if (r3 != 0) = true then (K0 (fun _ => 0) r3) else (spec_l03Coproduct N (fun r4 => (K0 r4 0)) h0 h1 v2))) h0 h1 1 1 (fun z => (v2 (0 + z))))

noncomputable def impl_CoproductOf {ρ : Type} (N : Nat) (K0 : (Nat → Int) → Int → Option ρ) (h0 : Nat → Int) (h1 : Nat → Int) (v2 : Nat → Int) : Option ρ :=
  (impl_Hopf_code_s8 N (fun r3 => (if (r3 != 0) = true then (K0 (fun _ => 0) r3) else (impl_Hopf_coproduct N (fun r4 => (K0 r4 0)) v2 h0 h1))) 1 1 h0 h1 (fun z => (v2 (0 + z))))

noncomputable def laws_eqVector.b0 {ρ : Type} (N : Nat) (K0 : Bool → Option ρ) (rec : Int → Option ρ) (out0 : Option ρ) (a0 : Nat → Int) (b1 : Nat → Int) (i2 : Int) : Option ρ :=
  (if (decide (i2 < 8)) = true then (if (0 : Int) ≤ i2 ∧ i2 < 8 then (if (0 : Int) ≤ i2 ∧ i2 < 8 then (if ((a0 (i2.toNat * 1)) != (b1 (i2.toNat * 1))) = true then (K0 false) else (rec ((IntKind.i64.wrap (i2 + 1))))) else none) else none) else out0)

noncomputable def laws_eqVector.a0_0 {ρ : Type} (N : Nat) (K0 : Bool → Option ρ) : Option ρ :=
  (K0 true)

noncomputable def laws_eqVector.l0 {ρ : Type} (N : Nat) (K0 : Bool → Option ρ) (a0 : Nat → Int) (b1 : Nat → Int) (out0 : Option ρ) : Nat → Int → Option ρ
  | 0, _ => none
  | m + 1, i2 => (laws_eqVector.b0 N K0 ((laws_eqVector.l0 N K0 a0 b1 out0 m)) out0 a0 b1 i2)

noncomputable def laws_eqVector.s {ρ : Type} (N : Nat) (K0 : Bool → Option ρ) (lp0 : Int → Option ρ) : Option ρ :=
  (lp0 0)

noncomputable def laws_eqVector {ρ : Type} (N : Nat) (K0 : Bool → Option ρ) (a0 : Nat → Int) (b1 : Nat → Int) : Option ρ :=
  (laws_eqVector.s N K0 (fun i2 => (laws_eqVector.l0 N K0 a0 b1 (laws_eqVector.a0_0 N K0) N i2)))

noncomputable def laws_eqLinear.b0 {ρ : Type} (N : Nat) (K0 : Bool → Option ρ) (rec : Int → Option ρ) (out0 : Option ρ) (a0 : Nat → Int) (b1 : Nat → Int) (i2 : Int) : Option ρ :=
  (if (decide (i2 < 8)) = true then (if (0 : Int) ≤ i2 ∧ i2 < 8 then (if (0 : Int) ≤ i2 ∧ i2 < 8 then (laws_eqVector N (fun r3 => (if (!r3) = true then (K0 false) else (rec ((IntKind.i64.wrap (i2 + 1)))))) (fun z => (a0 ((i2.toNat * 8) + z))) (fun z => (b1 ((i2.toNat * 8) + z)))) else none) else none) else out0)

noncomputable def laws_eqLinear.a0_0 {ρ : Type} (N : Nat) (K0 : Bool → Option ρ) : Option ρ :=
  (K0 true)

noncomputable def laws_eqLinear.l0 {ρ : Type} (N : Nat) (K0 : Bool → Option ρ) (a0 : Nat → Int) (b1 : Nat → Int) (out0 : Option ρ) : Nat → Int → Option ρ
  | 0, _ => none
  | m + 1, i2 => (laws_eqLinear.b0 N K0 ((laws_eqLinear.l0 N K0 a0 b1 out0 m)) out0 a0 b1 i2)

noncomputable def laws_eqLinear.s {ρ : Type} (N : Nat) (K0 : Bool → Option ρ) (lp0 : Int → Option ρ) : Option ρ :=
  (lp0 0)

noncomputable def laws_eqLinear {ρ : Type} (N : Nat) (K0 : Bool → Option ρ) (a0 : Nat → Int) (b1 : Nat → Int) : Option ρ :=
  (laws_eqLinear.s N K0 (fun i2 => (laws_eqLinear.l0 N K0 a0 b1 (laws_eqLinear.a0_0 N K0) N i2)))

noncomputable def laws_FnExactCoproductOf {ρ : Type} (N : Nat) (K0 : Bool → Option ρ) (aH0 : Nat → Int) (aH1 : Nat → Int) (aV2 : Nat → Int) : Option ρ :=
  (laws_toHopf N (fun r3 r4 => (laws_toVector N (fun r5 => (spec_CoproductOf N (fun r6 r7 => (laws_toHopf N (fun r8 r9 => (laws_toVector N (fun r10 => (impl_CoproductOf N (fun r11 r12 => (laws_eqLinear N (fun r13 => (if (!r13) = true then (K0 false) else (if (r12 != r7) = true then (K0 false) else (K0 true)))) r11 r6)) r8 r9 r10)) aV2)) aH0 aH1)) r3 r4 r5)) aV2)) aH0 aH1)

noncomputable def spec_AntipodeOf {ρ : Type} (N : Nat) (K0 : (Nat → Int) → Int → Option ρ) (h0 : Nat → Int) (h1 : Nat → Int) (v2 : Nat → Int) : Option ρ :=
  (spec_l03Code_s8 N (fun r3 => (if (r3 != 0) = true then (K0 (fun _ => 0) r3) else (spec_l01Apply N (fun r4 => (K0 r4 0)) ((h0 0)) ((h0 1)) (fun z => (h1 (1040 + z))) v2))) h0 h1 1 1 (fun z => (v2 (0 + z))))

noncomputable def impl_field_apply.b0 {ρ : Type} (N : Nat) (K0 : (Nat → Int) → Option ρ) (rec : Int → (Nat → Int) → Option ρ) (out0 : (Nat → Int) → Option ρ) (f0 : Nat → Int) (v1 : Nat → Int) (g2 : Nat → Int) (x3 : Int) (g4 : Nat → Int) : Option ρ :=
  (if (decide (x3 < 8)) = true then (if (0 : Int) ≤ x3 ∧ x3 < 8 then (if (0 : Int) ≤ x3 ∧ x3 < 8 then (impl_field_plus N (fun r5 => (rec ((IntKind.i64.wrap (x3 + 1))) r5)) f0 ((IntKind.i64.wrap (v1 x3.toNat))) (fun z => (g2 ((x3.toNat * 8) + z))) g4) else none) else none) else (out0 g4))

noncomputable def impl_field_apply.a0_0 {ρ : Type} (N : Nat) (K0 : (Nat → Int) → Option ρ) (o6 : Nat → Int) : Option ρ :=
  (K0 o6)

noncomputable def impl_field_apply.l0 {ρ : Type} (N : Nat) (K0 : (Nat → Int) → Option ρ) (f0 : Nat → Int) (v1 : Nat → Int) (g2 : Nat → Int) (out0 : (Nat → Int) → Option ρ) : Nat → Int → (Nat → Int) → Option ρ
  | 0, _, _ => none
  | m + 1, x3, g4 => (impl_field_apply.b0 N K0 ((impl_field_apply.l0 N K0 f0 v1 g2 out0 m)) out0 f0 v1 g2 x3 g4)

noncomputable def impl_field_apply.s {ρ : Type} (N : Nat) (K0 : (Nat → Int) → Option ρ) (lp0 : Int → (Nat → Int) → Option ρ) : Option ρ :=
  (lp0 0 (fun _ => 0))

noncomputable def impl_field_apply {ρ : Type} (N : Nat) (K0 : (Nat → Int) → Option ρ) (f0 : Nat → Int) (v1 : Nat → Int) (g2 : Nat → Int) : Option ρ :=
  (impl_field_apply.s N K0 (fun x3 g4 => (impl_field_apply.l0 N K0 f0 v1 g2 (fun o6 => (impl_field_apply.a0_0 N K0 o6)) N x3 g4)))

noncomputable def impl_Hopf_antipode {ρ : Type} (N : Nat) (K0 : (Nat → Int) → Option ρ) (v0 : Nat → Int) (g1 : Nat → Int) (g2 : Nat → Int) : Option ρ :=
  (impl_Hopf_field N (fun r3 => (impl_field_apply N (fun r4 => (K0 r4)) r3 v0 (fun z => (g2 (1040 + z))))) g1 g2)

noncomputable def impl_AntipodeOf {ρ : Type} (N : Nat) (K0 : (Nat → Int) → Int → Option ρ) (h0 : Nat → Int) (h1 : Nat → Int) (v2 : Nat → Int) : Option ρ :=
  (impl_Hopf_code_s8 N (fun r3 => (if (r3 != 0) = true then (K0 (fun _ => 0) r3) else (impl_Hopf_antipode N (fun r4 => (K0 r4 0)) v2 h0 h1))) 1 1 h0 h1 (fun z => (v2 (0 + z))))

noncomputable def laws_FnExactAntipodeOf {ρ : Type} (N : Nat) (K0 : Bool → Option ρ) (aH0 : Nat → Int) (aH1 : Nat → Int) (aV2 : Nat → Int) : Option ρ :=
  (laws_toHopf N (fun r3 r4 => (laws_toVector N (fun r5 => (spec_AntipodeOf N (fun r6 r7 => (laws_toHopf N (fun r8 r9 => (laws_toVector N (fun r10 => (impl_AntipodeOf N (fun r11 r12 => (laws_eqVector N (fun r13 => (if (!r13) = true then (K0 false) else (if (r12 != r7) = true then (K0 false) else (K0 true)))) r11 r6)) r8 r9 r10)) aV2)) aH0 aH1)) r3 r4 r5)) aV2)) aH0 aH1)

noncomputable def spec_RegularComodule {ρ : Type} (N : Nat) (K0 : (Nat → Int) → (Nat → Int) → Int → Option ρ) (h0 : Nat → Int) (h1 : Nat → Int) : Option ρ :=
  (spec_l03Is N (fun r2 => (if (!r2) = true then (K0 (fun _ => 0) (fun _ => 0) 1) else (K0 (upd (fun _ => 0) 0 (h0 1)) (fun z => (h1 (528 + z))) 0))) h0 h1)

noncomputable def slices_IndexFunc_nf.b0 {ρ : Type} (N : Nat) (K0 : Int → Option ρ) (rec : Option ρ) (out0 : Option ρ) : Option ρ :=
  out0

noncomputable def slices_IndexFunc_nf.a0_0 {ρ : Type} (N : Nat) (K0 : Int → Option ρ) : Option ρ :=
  (K0 (-1))

noncomputable def slices_IndexFunc_nf.l0 {ρ : Type} (N : Nat) (K0 : Int → Option ρ) (out0 : Option ρ) : Nat → Option ρ
  | 0 => none
  | m + 1 => (slices_IndexFunc_nf.b0 N K0 ((slices_IndexFunc_nf.l0 N K0 out0 m)) out0)

noncomputable def slices_IndexFunc_nf.s {ρ : Type} (N : Nat) (K0 : Int → Option ρ) (lp0 : Option ρ) : Option ρ :=
  lp0

noncomputable def slices_IndexFunc_nf {ρ : Type} (N : Nat) (K0 : Int → Option ρ) (g0 : Nat → Int) (g1 : Nat → Int) : Option ρ :=
  (slices_IndexFunc_nf.s N K0 ((slices_IndexFunc_nf.l0 N K0 (slices_IndexFunc_nf.a0_0 N K0) N)))

noncomputable def slices_ContainsFunc_nf {ρ : Type} (N : Nat) (K0 : Bool → Option ρ) (g0 : Nat → Int) (g1 : Nat → Int) : Option ρ :=
  (slices_IndexFunc_nf N (fun r2 => (K0 ((decide (r2 ≥ 0))))) g0 g1)

noncomputable def impl_Hopf_has_n {ρ : Type} (N : Nat) (K0 : Bool → Option ρ) (g0 : Nat → Int) (g1 : Nat → Int) : Option ρ :=
  (slices_ContainsFunc_nf N (fun r2 => (K0 ((!r2)))) g0 g1)

noncomputable def impl_Hopf_code_n {ρ : Type} (N : Nat) (K0 : Int → Option ρ) (g0 : Nat → Int) (g1 : Nat → Int) : Option ρ :=
  (impl_IsHopf N (fun r2 => (if r2 = true then (impl_Hopf_has_n N (fun r3 => (impl_unless N (fun r4 => (K0 r4)) (r3) 1)) g0 g1) else (impl_unless N (fun r5 => (K0 r5)) false 1))) g0 g1)

noncomputable def impl_RegularComodule {ρ : Type} (N : Nat) (K0 : (Nat → Int) → (Nat → Int) → Int → Option ρ) (h0 : Nat → Int) (h1 : Nat → Int) : Option ρ :=
  (impl_Hopf_code_n N (fun r2 => (if (r2 != 0) = true then (K0 (fun _ => 0) (fun _ => 0) r2) else (K0 (upd (fun _ => 0) 0 (h0 1)) (fun z => (h1 (528 + z))) 0))) h0 h1)

noncomputable def laws_eqTable.b0 {ρ : Type} (N : Nat) (K0 : Bool → Option ρ) (rec : Int → Option ρ) (out0 : Option ρ) (a0 : Nat → Int) (b1 : Nat → Int) (i2 : Int) : Option ρ :=
  (if (decide (i2 < 8)) = true then (if (0 : Int) ≤ i2 ∧ i2 < 8 then (if (0 : Int) ≤ i2 ∧ i2 < 8 then (laws_eqLinear N (fun r3 => (if (!r3) = true then (K0 false) else (rec ((IntKind.i64.wrap (i2 + 1)))))) (fun z => (a0 ((i2.toNat * 64) + z))) (fun z => (b1 ((i2.toNat * 64) + z)))) else none) else none) else out0)

noncomputable def laws_eqTable.a0_0 {ρ : Type} (N : Nat) (K0 : Bool → Option ρ) : Option ρ :=
  (K0 true)

noncomputable def laws_eqTable.l0 {ρ : Type} (N : Nat) (K0 : Bool → Option ρ) (a0 : Nat → Int) (b1 : Nat → Int) (out0 : Option ρ) : Nat → Int → Option ρ
  | 0, _ => none
  | m + 1, i2 => (laws_eqTable.b0 N K0 ((laws_eqTable.l0 N K0 a0 b1 out0 m)) out0 a0 b1 i2)

noncomputable def laws_eqTable.s {ρ : Type} (N : Nat) (K0 : Bool → Option ρ) (lp0 : Int → Option ρ) : Option ρ :=
  (lp0 0)

noncomputable def laws_eqTable {ρ : Type} (N : Nat) (K0 : Bool → Option ρ) (a0 : Nat → Int) (b1 : Nat → Int) : Option ρ :=
  (laws_eqTable.s N K0 (fun i2 => (laws_eqTable.l0 N K0 a0 b1 (laws_eqTable.a0_0 N K0) N i2)))

noncomputable def laws_eqComodule {ρ : Type} (N : Nat) (K0 : Bool → Option ρ) (a0 : Nat → Int) (a1 : Nat → Int) (b2 : Nat → Int) (b3 : Nat → Int) : Option ρ :=
  (if ((a0 0) != (b2 0)) = true then (K0 false) else (laws_eqTable N (fun r4 => (if (!r4) = true then (K0 false) else (K0 true))) a1 b3))

noncomputable def laws_FnExactRegularComodule {ρ : Type} (N : Nat) (K0 : Bool → Option ρ) (aH0 : Nat → Int) (aH1 : Nat → Int) : Option ρ :=
  (laws_toHopf N (fun r2 r3 => (spec_RegularComodule N (fun r4 r5 r6 => (laws_toHopf N (fun r7 r8 => (impl_RegularComodule N (fun r9 r10 r11 => (laws_eqComodule N (fun r12 => (if (!r12) = true then (K0 false) else (if (r11 != r6) = true then (K0 false) else (K0 true)))) r9 r10 r4 r5)) r7 r8)) aH0 aH1)) r2 r3)) aH0 aH1)
end Go.Proofs.Ytacdnmdfoimjcaa.H
