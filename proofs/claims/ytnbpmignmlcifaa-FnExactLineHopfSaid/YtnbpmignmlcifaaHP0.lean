/- The functions that the program computes, in plain Lean. -/
import Derived.Test.YtnbpmignmlcifaaHxUse
namespace Go.Proofs.Ytnbpmignmlcifaa.H
set_option linter.unusedVariables false
set_option linter.unusedSimpArgs false
open Go Go.RowKit Go.Proofs.Ytnbpmignmlcifaa.Hx
set_option linter.unusedVariables false
set_option maxRecDepth 100000
noncomputable def spec_l01In {ρ : Type} (N : Nat) (K0 : Bool → Option ρ) (n0 : Int) (low1 : Int) (high2 : Int) : Option ρ :=
  (if (decide (n0 ≥ low1)) = true then (K0 ((decide (n0 ≤ high2)))) else (K0 false))

noncomputable def spec_l01Prime.b0 {ρ : Type} (N : Nat) (K0 : Bool → Option ρ) (rec : Int → Option ρ) (out0 : Option ρ) (p0 : Int) (k1 : Int) : Option ρ :=
  (if (decide (k1 < p0)) = true then (if (decide (k1 ≤ 31)) = true then (if k1 = 0 then none else (if ((Int.tmod p0 k1) == 0) = true then (K0 false) else (rec ((IntKind.i64.wrap (k1 + 1)))))) else out0) else out0)

noncomputable def spec_l01Prime.a0_0 {ρ : Type} (N : Nat) (K0 : Bool → Option ρ) (p0 : Int) : Option ρ :=
  (spec_l01In N (fun r2 => (K0 (r2))) p0 2 31)

noncomputable def spec_l01Prime.l0 {ρ : Type} (N : Nat) (K0 : Bool → Option ρ) (p0 : Int) (out0 : Option ρ) : Nat → Int → Option ρ
  | 0, _ => none
  | m + 1, k1 => (spec_l01Prime.b0 N K0 ((spec_l01Prime.l0 N K0 p0 out0 m)) out0 p0 k1)

noncomputable def spec_l01Prime.s {ρ : Type} (N : Nat) (K0 : Bool → Option ρ) (lp0 : Int → Option ρ) : Option ρ :=
  (lp0 2)

noncomputable def spec_l01Prime {ρ : Type} (N : Nat) (K0 : Bool → Option ρ) (p0 : Int) : Option ρ :=
  (spec_l01Prime.s N K0 (fun k1 => (spec_l01Prime.l0 N K0 p0 (spec_l01Prime.a0_0 N K0 p0) N k1)))

noncomputable def spec_l01Mod {ρ : Type} (N : Nat) (K0 : Int → Option ρ) (p0 : Int) (x1 : Int) : Option ρ :=
  (if p0 = 0 then none else (if p0 = 0 then none else (K0 ((IntKind.u8.wrap (Int.tmod (IntKind.i64.wrap ((Int.tmod x1 p0) + p0)) p0))))))

noncomputable def spec_l04Line.b1 {ρ : Type} (N : Nat) (K0 : (Nat → Int) → (Nat → Int) → Option ρ) (rec : Int → Int → (Nat → Int) → Option ρ) (out0 : (Nat → Int) → Option ρ) (p0 : Int) (k1 : Int) (i2 : Int) (factor4 : Int) (j5 : Int) (g6 : Nat → Int) : Option ρ :=
  (if (decide (j5 < p0)) = true then (if (decide ((IntKind.i64.wrap (i2 + j5)) < p0)) = true then (if (0 : Int) ≤ i2 ∧ i2 < 8 then (if (0 : Int) ≤ j5 ∧ j5 < 8 then (if (0 : Int) ≤ (IntKind.i64.wrap (i2 + j5)) ∧ (IntKind.i64.wrap (i2 + j5)) < 8 then (if (decide (j5 ≤ i2)) = true then (spec_l01Mod N (fun r7 => (if (0 : Int) ≤ i2 ∧ i2 < 8 then (if (0 : Int) ≤ j5 ∧ j5 < 8 then (if (0 : Int) ≤ (IntKind.i64.wrap (i2 - j5)) ∧ (IntKind.i64.wrap (i2 - j5)) < 8 then (if (IntKind.i64.wrap (j5 + 1)) = 0 then none else (rec ((IntKind.i64.wrap (Int.tdiv (IntKind.i64.wrap (factor4 * (IntKind.i64.wrap (i2 - j5)))) (IntKind.i64.wrap (j5 + 1))))) ((IntKind.i64.wrap (j5 + 1))) (upd (upd g6 (((8 + (i2.toNat * 64)) + (j5.toNat * 8)) + (((IntKind.i64.wrap (i2 + j5))).toNat * 1)) 1) (((528 + (i2.toNat * 64)) + (j5.toNat * 8)) + (((IntKind.i64.wrap (i2 - j5))).toNat * 1)) r7))) else none) else none) else none)) p0 factor4) else (rec factor4 ((IntKind.i64.wrap (j5 + 1))) (upd g6 (((8 + (i2.toNat * 64)) + (j5.toNat * 8)) + (((IntKind.i64.wrap (i2 + j5))).toNat * 1)) 1))) else none) else none) else none) else (if (0 : Int) ≤ i2 ∧ i2 < 8 then (if (0 : Int) ≤ j5 ∧ j5 < 8 then (if (0 : Int) ≤ (IntKind.i64.wrap ((IntKind.i64.wrap ((IntKind.i64.wrap (i2 + j5)) - p0)) + 1)) ∧ (IntKind.i64.wrap ((IntKind.i64.wrap ((IntKind.i64.wrap (i2 + j5)) - p0)) + 1)) < 8 then (if (decide (j5 ≤ i2)) = true then (spec_l01Mod N (fun r8 => (if (0 : Int) ≤ i2 ∧ i2 < 8 then (if (0 : Int) ≤ j5 ∧ j5 < 8 then (if (0 : Int) ≤ (IntKind.i64.wrap (i2 - j5)) ∧ (IntKind.i64.wrap (i2 - j5)) < 8 then (if (IntKind.i64.wrap (j5 + 1)) = 0 then none else (rec ((IntKind.i64.wrap (Int.tdiv (IntKind.i64.wrap (factor4 * (IntKind.i64.wrap (i2 - j5)))) (IntKind.i64.wrap (j5 + 1))))) ((IntKind.i64.wrap (j5 + 1))) (upd (upd g6 (((8 + (i2.toNat * 64)) + (j5.toNat * 8)) + (((IntKind.i64.wrap ((IntKind.i64.wrap ((IntKind.i64.wrap (i2 + j5)) - p0)) + 1))).toNat * 1)) (IntKind.u8.wrap k1)) (((528 + (i2.toNat * 64)) + (j5.toNat * 8)) + (((IntKind.i64.wrap (i2 - j5))).toNat * 1)) r8))) else none) else none) else none)) p0 factor4) else (rec factor4 ((IntKind.i64.wrap (j5 + 1))) (upd g6 (((8 + (i2.toNat * 64)) + (j5.toNat * 8)) + (((IntKind.i64.wrap ((IntKind.i64.wrap ((IntKind.i64.wrap (i2 + j5)) - p0)) + 1))).toNat * 1)) (IntKind.u8.wrap k1)))) else none) else none) else none)) else (out0 g6))

noncomputable def spec_l04Line.a1_0 {ρ : Type} (N : Nat) (K0 : (Nat → Int) → (Nat → Int) → Option ρ) (rec : Int → (Nat → Int) → Option ρ) (out0 : (Nat → Int) → Option ρ) (p0 : Int) (i2 : Int) (o9 : Nat → Int) : Option ρ :=
  (spec_l01Mod N (fun r10 => (if (0 : Int) ≤ i2 ∧ i2 < 8 then (if (0 : Int) ≤ i2 ∧ i2 < 8 then (rec ((IntKind.i64.wrap (i2 + 1))) (upd o9 ((1040 + (i2.toNat * 8)) + (i2.toNat * 1)) r10)) else none) else none)) p0 ((IntKind.i64.wrap (1 - (IntKind.i64.wrap (2 * (Int.tmod i2 2)))))))

noncomputable def spec_l04Line.b0 {ρ : Type} (N : Nat) (K0 : (Nat → Int) → (Nat → Int) → Option ρ) (lp1 : Int → Int → (Nat → Int) → Option ρ) (rec : Int → (Nat → Int) → Option ρ) (out0 : (Nat → Int) → Option ρ) (p0 : Int) (i2 : Int) (g3 : Nat → Int) : Option ρ :=
  (if (decide (i2 < p0)) = true then (lp1 1 0 g3) else (out0 g3))

noncomputable def spec_l04Line.a0_0 {ρ : Type} (N : Nat) (K0 : (Nat → Int) → (Nat → Int) → Option ρ) (p0 : Int) (o11 : Nat → Int) : Option ρ :=
  (K0 (upd (upd (fun _ => 0) 0 p0) 1 p0) o11)

noncomputable def spec_l04Line.l1 {ρ : Type} (N : Nat) (K0 : (Nat → Int) → (Nat → Int) → Option ρ) (p0 : Int) (k1 : Int) (i2 : Int) (out0 : (Nat → Int) → Option ρ) : Nat → Int → Int → (Nat → Int) → Option ρ
  | 0, _, _, _ => none
  | m + 1, factor4, j5, g6 => (spec_l04Line.b1 N K0 ((spec_l04Line.l1 N K0 p0 k1 i2 out0 m)) out0 p0 k1 i2 factor4 j5 g6)

noncomputable def spec_l04Line.l0 {ρ : Type} (N : Nat) (K0 : (Nat → Int) → (Nat → Int) → Option ρ) (p0 : Int) (k1 : Int) (out0 : (Nat → Int) → Option ρ) : Nat → Int → (Nat → Int) → Option ρ
  | 0, _, _ => none
  | m + 1, i2, g3 => (spec_l04Line.b0 N K0 (fun factor4 j5 g6 => (spec_l04Line.l1 N K0 p0 k1 i2 (fun o9 => (spec_l04Line.a1_0 N K0 (spec_l04Line.l0 N K0 p0 k1 out0 m) out0 p0 i2 o9)) N factor4 j5 g6)) ((spec_l04Line.l0 N K0 p0 k1 out0 m)) out0 p0 i2 g3)

noncomputable def spec_l04Line.s {ρ : Type} (N : Nat) (K0 : (Nat → Int) → (Nat → Int) → Option ρ) (lp0 : Int → (Nat → Int) → Option ρ) : Option ρ :=
  (lp0 0 (upd (upd (fun _ => 0) 0 1) 520 1))

noncomputable def spec_l04Line {ρ : Type} (N : Nat) (K0 : (Nat → Int) → (Nat → Int) → Option ρ) (p0 : Int) (k1 : Int) : Option ρ :=
  (spec_l04Line.s N K0 (fun i2 g3 => (spec_l04Line.l0 N K0 p0 k1 (fun o11 => (spec_l04Line.a0_0 N K0 p0 o11)) N i2 g3)))

noncomputable def spec_LineHopf {ρ : Type} (N : Nat) (K0 : (Nat → Int) → (Nat → Int) → Int → Option ρ) (p0 : Int) (k1 : Int) : Option ρ :=
  (spec_l01Prime N (fun r2 => (if (!r2) = true then (K0 (fun _ => 0) (fun _ => 0) 2) else (if (decide (p0 > 7)) = true then (K0 (fun _ => 0) (fun _ => 0) 2) else (spec_l01In N (fun r3 => (if (!r3) = true then (K0 (fun _ => 0) (fun _ => 0) 2) else (spec_l04Line N (fun r4 r5 => (K0 r4 r5 0)) p0 k1))) k1 0 ((IntKind.i64.wrap (p0 - 1))))))) p0)

noncomputable def impl_IsPrime.b0 {ρ : Type} (N : Nat) (K0 : Bool → Option ρ) (rec : Int → Option ρ) (out0 : Option ρ) (p0 : Int) (k1 : Int) : Option ρ :=
  (if (decide ((IntKind.i64.wrap (k1 * k1)) ≤ p0)) = true then (if k1 = 0 then none else (if ((Int.tmod p0 k1) == 0) = true then (K0 false) else (rec ((IntKind.i64.wrap (k1 + 1)))))) else out0)

noncomputable def impl_IsPrime.a0_0 {ρ : Type} (N : Nat) (K0 : Bool → Option ρ) : Option ρ :=
  (K0 true)

noncomputable def impl_IsPrime.l0 {ρ : Type} (N : Nat) (K0 : Bool → Option ρ) (p0 : Int) (out0 : Option ρ) : Nat → Int → Option ρ
  | 0, _ => none
  | m + 1, k1 => (impl_IsPrime.b0 N K0 ((impl_IsPrime.l0 N K0 p0 out0 m)) out0 p0 k1)

noncomputable def impl_IsPrime.s {ρ : Type} (N : Nat) (K0 : Bool → Option ρ) (lp0 : Int → Option ρ) (p0 : Int) : Option ρ :=
  (if (decide (p0 < 2)) = true then (K0 false) else (if (decide (p0 > 31)) = true then (K0 false) else (lp0 2)))

noncomputable def impl_IsPrime {ρ : Type} (N : Nat) (K0 : Bool → Option ρ) (p0 : Int) : Option ρ :=
  (impl_IsPrime.s N K0 (fun k1 => (impl_IsPrime.l0 N K0 p0 (impl_IsPrime.a0_0 N K0) N k1)) p0)

noncomputable def impl_in {ρ : Type} (N : Nat) (K0 : Bool → Option ρ) (x0 : Int) (least1 : Int) (most2 : Int) : Option ρ :=
  (if (decide (least1 ≤ x0)) = true then (K0 ((decide (x0 ≤ most2)))) else (K0 false))

noncomputable def impl_basis {ρ : Type} (N : Nat) (K0 : (Nat → Int) → Option ρ) (i0 : Int) : Option ρ :=
  (if (0 : Int) ≤ i0 ∧ i0 < 8 then (K0 (upd (fun _ => 0) (i0.toNat * 1) 1)) else none)

noncomputable def impl_Hopf_field {ρ : Type} (N : Nat) (K0 : (Nat → Int) → Option ρ) (g0 : Nat → Int) (g1 : Nat → Int) : Option ρ :=
  (K0 (upd (upd (fun _ => 0) 0 (g0 0)) 1 (g0 1)))

noncomputable def impl_field_mod {ρ : Type} (N : Nat) (K0 : Int → Option ρ) (f0 : Nat → Int) (x1 : Int) : Option ρ :=
  (if (f0 0) = 0 then none else (if (decide ((Int.tmod x1 (f0 0)) < 0)) = true then (K0 ((IntKind.u8.wrap (IntKind.i64.wrap ((Int.tmod x1 (f0 0)) + (f0 0)))))) else (K0 ((IntKind.u8.wrap (Int.tmod x1 (f0 0)))))))

noncomputable def impl_field_plus.b0 {ρ : Type} (N : Nat) (K0 : (Nat → Int) → Option ρ) (rec : Int → (Nat → Int) → Option ρ) (out0 : (Nat → Int) → Option ρ) (f0 : Nat → Int) (k1 : Int) (w2 : Nat → Int) (x4 : Int) (g5 : Nat → Int) : Option ρ :=
  (if (decide (x4 < 8)) = true then (if (0 : Int) ≤ x4 ∧ x4 < 8 then (if (0 : Int) ≤ x4 ∧ x4 < 8 then (impl_field_mod N (fun r6 => (if (0 : Int) ≤ x4 ∧ x4 < 8 then (rec ((IntKind.i64.wrap (x4 + 1))) (upd g5 (x4.toNat * 1) r6)) else none)) f0 ((IntKind.i64.wrap ((IntKind.i64.wrap (g5 (x4.toNat * 1))) + (IntKind.i64.wrap (k1 * (IntKind.i64.wrap (w2 x4.toNat)))))))) else none) else none) else (out0 g5))

noncomputable def impl_field_plus.a0_0 {ρ : Type} (N : Nat) (K0 : (Nat → Int) → Option ρ) (o7 : Nat → Int) : Option ρ :=
  (K0 o7)

noncomputable def impl_field_plus.l0 {ρ : Type} (N : Nat) (K0 : (Nat → Int) → Option ρ) (f0 : Nat → Int) (k1 : Int) (w2 : Nat → Int) (out0 : (Nat → Int) → Option ρ) : Nat → Int → (Nat → Int) → Option ρ
  | 0, _, _ => none
  | m + 1, x4, g5 => (impl_field_plus.b0 N K0 ((impl_field_plus.l0 N K0 f0 k1 w2 out0 m)) out0 f0 k1 w2 x4 g5)

noncomputable def impl_field_plus.s {ρ : Type} (N : Nat) (K0 : (Nat → Int) → Option ρ) (lp0 : Int → (Nat → Int) → Option ρ) (k1 : Int) (g3 : Nat → Int) : Option ρ :=
  (if (k1 == 0) = true then (K0 g3) else (lp0 0 g3))

noncomputable def impl_field_plus {ρ : Type} (N : Nat) (K0 : (Nat → Int) → Option ρ) (f0 : Nat → Int) (k1 : Int) (w2 : Nat → Int) (g3 : Nat → Int) : Option ρ :=
  (impl_field_plus.s N K0 (fun x4 g5 => (impl_field_plus.l0 N K0 f0 k1 w2 (fun o7 => (impl_field_plus.a0_0 N K0 o7)) N x4 g5)) k1 g3)

noncomputable def impl_field_times {ρ : Type} (N : Nat) (K0 : (Nat → Int) → Option ρ) (f0 : Nat → Int) (k1 : Int) (w2 : Nat → Int) : Option ρ :=
  (impl_field_plus N (fun r3 => (K0 r3)) f0 k1 w2 (fun _ => 0))

noncomputable def impl_lineHopf.b2 {ρ : Type} (N : Nat) (K0 : (Nat → Int) → (Nat → Int) → Option ρ) (rec : Int → Int → (Nat → Int) → Option ρ) (out0 : (Nat → Int) → Option ρ) (r4 : Nat → Int) (x5 : Int) (binomial13 : Int) (j14 : Int) (g15 : Nat → Int) : Option ρ :=
  (if (decide (j14 ≤ x5)) = true then (impl_field_mod N (fun r16 => (if (0 : Int) ≤ x5 ∧ x5 < 8 then (if (0 : Int) ≤ j14 ∧ j14 < 8 then (if (0 : Int) ≤ (IntKind.i64.wrap (x5 - j14)) ∧ (IntKind.i64.wrap (x5 - j14)) < 8 then (if (IntKind.i64.wrap (j14 + 1)) = 0 then none else (rec ((IntKind.i64.wrap (Int.tdiv (IntKind.i64.wrap (binomial13 * (IntKind.i64.wrap (x5 - j14)))) (IntKind.i64.wrap (j14 + 1))))) ((IntKind.i64.wrap (j14 + 1))) (upd g15 (((528 + (x5.toNat * 64)) + (j14.toNat * 8)) + (((IntKind.i64.wrap (x5 - j14))).toNat * 1)) r16))) else none) else none) else none)) r4 binomial13) else (out0 g15))

noncomputable def impl_lineHopf.a2_0 {ρ : Type} (N : Nat) (K0 : (Nat → Int) → (Nat → Int) → Option ρ) (rec : Int → (Nat → Int) → Option ρ) (out0 : (Nat → Int) → Option ρ) (r4 : Nat → Int) (x5 : Int) (o17 : Nat → Int) : Option ρ :=
  (impl_basis N (fun r18 => (impl_field_times N (fun r19 => (if (0 : Int) ≤ x5 ∧ x5 < 8 then (rec ((IntKind.i64.wrap (x5 + 1))) (updN o17 (1040 + (x5.toNat * 8)) 8 r19)) else none)) r4 ((IntKind.i64.wrap (1 - (IntKind.i64.wrap (2 * (Int.tmod x5 2)))))) r18)) x5)

noncomputable def impl_lineHopf.b1 {ρ : Type} (N : Nat) (K0 : (Nat → Int) → (Nat → Int) → Option ρ) (rec : Int → (Nat → Int) → Option ρ) (out0 : (Nat → Int) → Option ρ) (p0 : Int) (k1 : Int) (r4 : Nat → Int) (x5 : Int) (x7 : Int) (g8 : Nat → Int) : Option ρ :=
  (if (decide (x7 < p0)) = true then (if (decide ((IntKind.i64.wrap (x5 + x7)) < p0)) = true then (impl_basis N (fun r9 => (if (0 : Int) ≤ x5 ∧ x5 < 8 then (if (0 : Int) ≤ x7 ∧ x7 < 8 then (rec ((IntKind.i64.wrap (x7 + 1))) (updN g8 ((8 + (x5.toNat * 64)) + (x7.toNat * 8)) 8 r9)) else none) else none)) ((IntKind.i64.wrap (x5 + x7)))) else (impl_basis N (fun r10 => (impl_field_times N (fun r11 => (if (0 : Int) ≤ x5 ∧ x5 < 8 then (if (0 : Int) ≤ x7 ∧ x7 < 8 then (rec ((IntKind.i64.wrap (x7 + 1))) (updN g8 ((8 + (x5.toNat * 64)) + (x7.toNat * 8)) 8 r11)) else none) else none)) r4 k1 r10)) ((IntKind.i64.wrap ((IntKind.i64.wrap ((IntKind.i64.wrap (x5 + x7)) - p0)) + 1))))) else (out0 g8))

noncomputable def impl_lineHopf.a1_0 {ρ : Type} (N : Nat) (K0 : (Nat → Int) → (Nat → Int) → Option ρ) (lp2 : Int → Int → (Nat → Int) → Option ρ) (rec : Int → (Nat → Int) → Option ρ) (out0 : (Nat → Int) → Option ρ) (o12 : Nat → Int) : Option ρ :=
  (lp2 1 0 o12)

noncomputable def impl_lineHopf.b0 {ρ : Type} (N : Nat) (K0 : (Nat → Int) → (Nat → Int) → Option ρ) (lp1 : Int → (Nat → Int) → Option ρ) (rec : Int → (Nat → Int) → Option ρ) (out0 : (Nat → Int) → Option ρ) (p0 : Int) (x5 : Int) (g6 : Nat → Int) : Option ρ :=
  (if (decide (x5 < p0)) = true then (lp1 0 g6) else (out0 g6))

noncomputable def impl_lineHopf.a0_0 {ρ : Type} (N : Nat) (K0 : (Nat → Int) → (Nat → Int) → Option ρ) (p0 : Int) (o20 : Nat → Int) : Option ρ :=
  (K0 (upd (upd (fun _ => 0) 0 p0) 1 p0) o20)

noncomputable def impl_lineHopf.l2 {ρ : Type} (N : Nat) (K0 : (Nat → Int) → (Nat → Int) → Option ρ) (r4 : Nat → Int) (x5 : Int) (out0 : (Nat → Int) → Option ρ) : Nat → Int → Int → (Nat → Int) → Option ρ
  | 0, _, _, _ => none
  | m + 1, binomial13, j14, g15 => (impl_lineHopf.b2 N K0 ((impl_lineHopf.l2 N K0 r4 x5 out0 m)) out0 r4 x5 binomial13 j14 g15)

noncomputable def impl_lineHopf.l1 {ρ : Type} (N : Nat) (K0 : (Nat → Int) → (Nat → Int) → Option ρ) (p0 : Int) (k1 : Int) (r4 : Nat → Int) (x5 : Int) (out0 : (Nat → Int) → Option ρ) : Nat → Int → (Nat → Int) → Option ρ
  | 0, _, _ => none
  | m + 1, x7, g8 => (impl_lineHopf.b1 N K0 ((impl_lineHopf.l1 N K0 p0 k1 r4 x5 out0 m)) out0 p0 k1 r4 x5 x7 g8)

noncomputable def impl_lineHopf.l0 {ρ : Type} (N : Nat) (K0 : (Nat → Int) → (Nat → Int) → Option ρ) (p0 : Int) (k1 : Int) (r4 : Nat → Int) (out0 : (Nat → Int) → Option ρ) : Nat → Int → (Nat → Int) → Option ρ
  | 0, _, _ => none
  | m + 1, x5, g6 => (impl_lineHopf.b0 N K0 (fun x7 g8 => (impl_lineHopf.l1 N K0 p0 k1 r4 x5 (fun o12 => (impl_lineHopf.a1_0 N K0 (fun binomial13 j14 g15 => (impl_lineHopf.l2 N K0 r4 x5 (fun o17 => (impl_lineHopf.a2_0 N K0 (impl_lineHopf.l0 N K0 p0 k1 r4 out0 m) out0 r4 x5 o17)) N binomial13 j14 g15)) (impl_lineHopf.l0 N K0 p0 k1 r4 out0 m) out0 o12)) N x7 g8)) ((impl_lineHopf.l0 N K0 p0 k1 r4 out0 m)) out0 p0 x5 g6)

noncomputable def impl_lineHopf.s {ρ : Type} (N : Nat) (K0 : (Nat → Int) → (Nat → Int) → Option ρ) (lp0 : (Nat → Int) → Int → (Nat → Int) → Option ρ) (p0 : Int) : Option ρ :=
  (impl_basis N (fun r2 => (impl_basis N (fun r3 => (impl_Hopf_field N (fun r4 => (lp0 r4 0 (updN (updN (fun _ => 0) 0 8 r2) 520 8 r3))) (upd (upd (fun _ => 0) 0 p0) 1 p0) (updN (updN (fun _ => 0) 0 8 r2) 520 8 r3))) 0)) 0)

noncomputable def impl_lineHopf {ρ : Type} (N : Nat) (K0 : (Nat → Int) → (Nat → Int) → Option ρ) (p0 : Int) (k1 : Int) : Option ρ :=
  (impl_lineHopf.s N K0 (fun r4 x5 g6 => (impl_lineHopf.l0 N K0 p0 k1 r4 (fun o20 => (impl_lineHopf.a0_0 N K0 p0 o20)) N x5 g6)) p0)

noncomputable def impl_LineHopf {ρ : Type} (N : Nat) (K0 : (Nat → Int) → (Nat → Int) → Int → Option ρ) (p0 : Int) (k1 : Int) : Option ρ :=
  (impl_IsPrime N (fun r2 => (if (!r2) = true then (K0 (fun _ => 0) (fun _ => 0) 2) else (if (decide (p0 > 7)) = true then (K0 (fun _ => 0) (fun _ => 0) 2) else (impl_in N (fun r3 => (if (!r3) = true then (K0 (fun _ => 0) (fun _ => 0) 2) else (impl_lineHopf N (fun r4 r5 => (K0 r4 r5 0)) p0 k1))) k1 0 ((IntKind.i64.wrap (p0 - 1))))))) p0)

noncomputable def laws_eqVector.b0 {ρ : Type} (N : Nat) (K0 : Bool → Option ρ) (rec : Int → Option ρ) (out0 : Option ρ) (a0 : Nat → Int) (b1 : Nat → Int) (i2 : Int) : Option ρ :=
  (if (decide (i2 < 8)) = true then (if (0 : Int) ≤ i2 ∧ i2 < 8 then (if (0 : Int) ≤ i2 ∧ i2 < 8 then (if ((a0 (i2.toNat * 1)) != (b1 (i2.toNat * 1))) = true then (K0 false) else (rec ((IntKind.i64.wrap (i2 + 1))))) else none) else none) else out0)

noncomputable def laws_eqVector.a0_0 {ρ : Type} (N : Nat) (K0 : Bool → Option ρ) : Option ρ :=
  (K0 true)

noncomputable def laws_eqVector.l0 {ρ : Type} (N : Nat) (K0 : Bool → Option ρ) (a0 : Nat → Int) (b1 : Nat → Int) (out0 : Option ρ) : Nat → Int → Option ρ
  | 0, _ => none
  | m + 1, i2 => (laws_eqVector.b0 N K0 ((laws_eqVector.l0 N K0 a0 b1 out0 m)) out0 a0 b1 i2)

noncomputable def laws_eqVector.s {ρ : Type} (N : Nat) (K0 : Bool → Option ρ) (lp0 : Int → Option ρ) : Option ρ :=
  (lp0 0)

noncomputable def laws_eqVector {ρ : Type} (N : Nat) (K0 : Bool → Option ρ) (a0 : Nat → Int) (b1 : Nat → Int) : Option ρ :=
  (laws_eqVector.s N K0 (fun i2 => (laws_eqVector.l0 N K0 a0 b1 (laws_eqVector.a0_0 N K0) N i2)))

noncomputable def laws_eqLinear.b0 {ρ : Type} (N : Nat) (K0 : Bool → Option ρ) (rec : Int → Option ρ) (out0 : Option ρ) (a0 : Nat → Int) (b1 : Nat → Int) (i2 : Int) : Option ρ :=
  (if (decide (i2 < 8)) = true then (if (0 : Int) ≤ i2 ∧ i2 < 8 then (if (0 : Int) ≤ i2 ∧ i2 < 8 then (laws_eqVector N (fun r3 => (if (!r3) = true then (K0 false) else (rec ((IntKind.i64.wrap (i2 + 1)))))) (fun z => (a0 ((i2.toNat * 8) + z))) (fun z => (b1 ((i2.toNat * 8) + z)))) else none) else none) else out0)

noncomputable def laws_eqLinear.a0_0 {ρ : Type} (N : Nat) (K0 : Bool → Option ρ) : Option ρ :=
  (K0 true)

noncomputable def laws_eqLinear.l0 {ρ : Type} (N : Nat) (K0 : Bool → Option ρ) (a0 : Nat → Int) (b1 : Nat → Int) (out0 : Option ρ) : Nat → Int → Option ρ
  | 0, _ => none
  | m + 1, i2 => (laws_eqLinear.b0 N K0 ((laws_eqLinear.l0 N K0 a0 b1 out0 m)) out0 a0 b1 i2)

noncomputable def laws_eqLinear.s {ρ : Type} (N : Nat) (K0 : Bool → Option ρ) (lp0 : Int → Option ρ) : Option ρ :=
  (lp0 0)

noncomputable def laws_eqLinear {ρ : Type} (N : Nat) (K0 : Bool → Option ρ) (a0 : Nat → Int) (b1 : Nat → Int) : Option ρ :=
  (laws_eqLinear.s N K0 (fun i2 => (laws_eqLinear.l0 N K0 a0 b1 (laws_eqLinear.a0_0 N K0) N i2)))

noncomputable def laws_eqTable.b0 {ρ : Type} (N : Nat) (K0 : Bool → Option ρ) (rec : Int → Option ρ) (out0 : Option ρ) (a0 : Nat → Int) (b1 : Nat → Int) (i2 : Int) : Option ρ :=
  (if (decide (i2 < 8)) = true then (if (0 : Int) ≤ i2 ∧ i2 < 8 then (if (0 : Int) ≤ i2 ∧ i2 < 8 then (laws_eqLinear N (fun r3 => (if (!r3) = true then (K0 false) else (rec ((IntKind.i64.wrap (i2 + 1)))))) (fun z => (a0 ((i2.toNat * 64) + z))) (fun z => (b1 ((i2.toNat * 64) + z)))) else none) else none) else out0)

noncomputable def laws_eqTable.a0_0 {ρ : Type} (N : Nat) (K0 : Bool → Option ρ) : Option ρ :=
  (K0 true)

noncomputable def laws_eqTable.l0 {ρ : Type} (N : Nat) (K0 : Bool → Option ρ) (a0 : Nat → Int) (b1 : Nat → Int) (out0 : Option ρ) : Nat → Int → Option ρ
  | 0, _ => none
  | m + 1, i2 => (laws_eqTable.b0 N K0 ((laws_eqTable.l0 N K0 a0 b1 out0 m)) out0 a0 b1 i2)

noncomputable def laws_eqTable.s {ρ : Type} (N : Nat) (K0 : Bool → Option ρ) (lp0 : Int → Option ρ) : Option ρ :=
  (lp0 0)

noncomputable def laws_eqTable {ρ : Type} (N : Nat) (K0 : Bool → Option ρ) (a0 : Nat → Int) (b1 : Nat → Int) : Option ρ :=
  (laws_eqTable.s N K0 (fun i2 => (laws_eqTable.l0 N K0 a0 b1 (laws_eqTable.a0_0 N K0) N i2)))

noncomputable def laws_eqHopf {ρ : Type} (N : Nat) (K0 : Bool → Option ρ) (a0 : Nat → Int) (a1 : Nat → Int) (b2 : Nat → Int) (b3 : Nat → Int) : Option ρ :=
  (if ((a0 0) != (b2 0)) = true then (K0 false) else (if ((a0 1) != (b2 1)) = true then (K0 false) else (laws_eqVector N (fun r4 => (if (!r4) = true then (K0 false) else (laws_eqTable N (fun r5 => (if (!r5) = true then (K0 false) else (laws_eqVector N (fun r6 => (if (!r6) = true then (K0 false) else (laws_eqTable N (fun r7 => (if (!r7) = true then (K0 false) else (laws_eqLinear N (fun r8 => (if (!r8) = true then (K0 false) else (K0 true))) (fun z => (a1 (1040 + z))) (fun z => (b3 (1040 + z)))))) (fun z => (a1 (528 + z))) (fun z => (b3 (528 + z)))))) (fun z => (a1 (520 + z))) (fun z => (b3 (520 + z)))))) (fun z => (a1 (8 + z))) (fun z => (b3 (8 + z)))))) (fun z => (a1 (0 + z))) (fun z => (b3 (0 + z))))))

noncomputable def laws_FnExactLineHopf {ρ : Type} (N : Nat) (K0 : Bool → Option ρ) (aP0 : Int) (aK1 : Int) : Option ρ :=
  (spec_LineHopf N (fun r2 r3 r4 => (impl_LineHopf N (fun r5 r6 r7 => (laws_eqHopf N (fun r8 => (if (!r8) = true then (K0 false) else (if (r7 != r4) = true then (K0 false) else (K0 true)))) r5 r6 r2 r3)) aP0 aK1)) aP0 aK1)
end Go.Proofs.Ytnbpmignmlcifaa.H
