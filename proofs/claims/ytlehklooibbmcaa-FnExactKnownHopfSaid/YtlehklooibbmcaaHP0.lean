import Derived.Test.YtlehklooibbmcaaHyUse
namespace Go.Proofs.Ytlehklooibbmcaa.H
noncomputable section
set_option linter.unusedVariables false
set_option linter.unusedSimpArgs false
open Go Go.RowKit Go.Proofs.Ytlehklooibbmcaa.Hy
set_option maxRecDepth 100000
def Q0 {ρ : Type} (N : Nat) (K0 : Bool → Option ρ) (nv0 : Int) (low1 : Int) (high2 : Int) : Option ρ :=
  (if (decide (nv0 ≥ low1)) = true then (K0 ((decide (nv0 ≤ high2)))) else (K0 false))
def Q1.b0 {ρ : Type} (N : Nat) (K0 : Bool → Option ρ) (rec : Int → Option ρ) (out0 : Option ρ) (p0 : Int) (k1 : Int) : Option ρ :=
  (if (decide (k1 < p0)) = true then (if (decide (k1 ≤ 31)) = true then (if k1 = 0 then none else (if ((Int.tmod p0 k1) == 0) = true then (K0 false) else (rec ((IntKind.i64.wrap (k1 + 1)))))) else out0) else out0)
def Q1.a0_0 {ρ : Type} (N : Nat) (K0 : Bool → Option ρ) (p0 : Int) : Option ρ :=
  (Q0 N (fun rv2 => (K0 (rv2))) p0 2 31)
def Q1.l0 {ρ : Type} (N : Nat) (K0 : Bool → Option ρ) (p0 : Int) (out0 : Option ρ) : Nat → Int → Option ρ
  | 0, _ => none
  | m + 1, k1 => (Q1.b0 N K0 ((Q1.l0 N K0 p0 out0 m)) out0 p0 k1)
def Q1.s {ρ : Type} (N : Nat) (K0 : Bool → Option ρ) (lp0 : Int → Option ρ) : Option ρ :=
  (lp0 2)
def Q1 {ρ : Type} (N : Nat) (K0 : Bool → Option ρ) (p0 : Int) : Option ρ :=
  (Q1.s N K0 (fun k1 => (Q1.l0 N K0 p0 (Q1.a0_0 N K0 p0) N k1)))
def Q2 {ρ : Type} (N : Nat) (K0 : Int → Option ρ) (p0 : Int) (x1 : Int) : Option ρ :=
  (if p0 = 0 then none else (if p0 = 0 then none else (K0 ((IntKind.u8.wrap (Int.tmod (IntKind.i64.wrap ((Int.tmod x1 p0) + p0)) p0))))))
def Q3.b1 {ρ : Type} (N : Nat) (K0 : (Nat → Int) → (Nat → Int) → Option ρ) (rec : Int → Int → (Nat → Int) → Option ρ) (out0 : (Nat → Int) → Option ρ) (p0 : Int) (k1 : Int) (i2 : Int) (factor4 : Int) (j5 : Int) (gv6 : Nat → Int) : Option ρ :=
  (if (decide (j5 < p0)) = true then (if (decide ((IntKind.i64.wrap (i2 + j5)) < p0)) = true then (if (0 : Int) ≤ i2 ∧ i2 < 8 then (if (0 : Int) ≤ j5 ∧ j5 < 8 then (if (0 : Int) ≤ (IntKind.i64.wrap (i2 + j5)) ∧ (IntKind.i64.wrap (i2 + j5)) < 8 then (if (decide (j5 ≤ i2)) = true then (Q2 N (fun rv7 => (if (0 : Int) ≤ i2 ∧ i2 < 8 then (if (0 : Int) ≤ j5 ∧ j5 < 8 then (if (0 : Int) ≤ (IntKind.i64.wrap (i2 - j5)) ∧ (IntKind.i64.wrap (i2 - j5)) < 8 then (if (IntKind.i64.wrap (j5 + 1)) = 0 then none else (rec ((IntKind.i64.wrap (Int.tdiv (IntKind.i64.wrap (factor4 * (IntKind.i64.wrap (i2 - j5)))) (IntKind.i64.wrap (j5 + 1))))) ((IntKind.i64.wrap (j5 + 1))) (upd (upd gv6 (((8 + (i2.toNat * 64)) + (j5.toNat * 8)) + (((IntKind.i64.wrap (i2 + j5))).toNat * 1)) 1) (((528 + (i2.toNat * 64)) + (j5.toNat * 8)) + (((IntKind.i64.wrap (i2 - j5))).toNat * 1)) rv7))) else none) else none) else none)) p0 factor4) else (rec factor4 ((IntKind.i64.wrap (j5 + 1))) (upd gv6 (((8 + (i2.toNat * 64)) + (j5.toNat * 8)) + (((IntKind.i64.wrap (i2 + j5))).toNat * 1)) 1))) else none) else none) else none) else (if (0 : Int) ≤ i2 ∧ i2 < 8 then (if (0 : Int) ≤ j5 ∧ j5 < 8 then (if (0 : Int) ≤ (IntKind.i64.wrap ((IntKind.i64.wrap ((IntKind.i64.wrap (i2 + j5)) - p0)) + 1)) ∧ (IntKind.i64.wrap ((IntKind.i64.wrap ((IntKind.i64.wrap (i2 + j5)) - p0)) + 1)) < 8 then (if (decide (j5 ≤ i2)) = true then (Q2 N (fun rv8 => (if (0 : Int) ≤ i2 ∧ i2 < 8 then (if (0 : Int) ≤ j5 ∧ j5 < 8 then (if (0 : Int) ≤ (IntKind.i64.wrap (i2 - j5)) ∧ (IntKind.i64.wrap (i2 - j5)) < 8 then (if (IntKind.i64.wrap (j5 + 1)) = 0 then none else (rec ((IntKind.i64.wrap (Int.tdiv (IntKind.i64.wrap (factor4 * (IntKind.i64.wrap (i2 - j5)))) (IntKind.i64.wrap (j5 + 1))))) ((IntKind.i64.wrap (j5 + 1))) (upd (upd gv6 (((8 + (i2.toNat * 64)) + (j5.toNat * 8)) + (((IntKind.i64.wrap ((IntKind.i64.wrap ((IntKind.i64.wrap (i2 + j5)) - p0)) + 1))).toNat * 1)) (IntKind.u8.wrap k1)) (((528 + (i2.toNat * 64)) + (j5.toNat * 8)) + (((IntKind.i64.wrap (i2 - j5))).toNat * 1)) rv8))) else none) else none) else none)) p0 factor4) else (rec factor4 ((IntKind.i64.wrap (j5 + 1))) (upd gv6 (((8 + (i2.toNat * 64)) + (j5.toNat * 8)) + (((IntKind.i64.wrap ((IntKind.i64.wrap ((IntKind.i64.wrap (i2 + j5)) - p0)) + 1))).toNat * 1)) (IntKind.u8.wrap k1)))) else none) else none) else none)) else (out0 gv6))
def Q3.a1_0 {ρ : Type} (N : Nat) (K0 : (Nat → Int) → (Nat → Int) → Option ρ) (rec : Int → (Nat → Int) → Option ρ) (out0 : (Nat → Int) → Option ρ) (p0 : Int) (i2 : Int) (ov9 : Nat → Int) : Option ρ :=
  (Q2 N (fun rv10 => (if (0 : Int) ≤ i2 ∧ i2 < 8 then (if (0 : Int) ≤ i2 ∧ i2 < 8 then (rec ((IntKind.i64.wrap (i2 + 1))) (upd ov9 ((1040 + (i2.toNat * 8)) + (i2.toNat * 1)) rv10)) else none) else none)) p0 ((IntKind.i64.wrap (1 - (IntKind.i64.wrap (2 * (Int.tmod i2 2)))))))
def Q3.b0 {ρ : Type} (N : Nat) (K0 : (Nat → Int) → (Nat → Int) → Option ρ) (lp1 : Int → Int → (Nat → Int) → Option ρ) (rec : Int → (Nat → Int) → Option ρ) (out0 : (Nat → Int) → Option ρ) (p0 : Int) (i2 : Int) (gv3 : Nat → Int) : Option ρ :=
  (if (decide (i2 < p0)) = true then (lp1 1 0 gv3) else (out0 gv3))
def Q3.a0_0 {ρ : Type} (N : Nat) (K0 : (Nat → Int) → (Nat → Int) → Option ρ) (p0 : Int) (ov11 : Nat → Int) : Option ρ :=
  (K0 (upd (upd (fun _ => 0) 0 p0) 1 p0) ov11)
def Q3.l1 {ρ : Type} (N : Nat) (K0 : (Nat → Int) → (Nat → Int) → Option ρ) (p0 : Int) (k1 : Int) (i2 : Int) (out0 : (Nat → Int) → Option ρ) : Nat → Int → Int → (Nat → Int) → Option ρ
  | 0, _, _, _ => none
  | m + 1, factor4, j5, gv6 => (Q3.b1 N K0 ((Q3.l1 N K0 p0 k1 i2 out0 m)) out0 p0 k1 i2 factor4 j5 gv6)
def Q3.l0 {ρ : Type} (N : Nat) (K0 : (Nat → Int) → (Nat → Int) → Option ρ) (p0 : Int) (k1 : Int) (out0 : (Nat → Int) → Option ρ) : Nat → Int → (Nat → Int) → Option ρ
  | 0, _, _ => none
  | m + 1, i2, gv3 => (Q3.b0 N K0 (fun factor4 j5 gv6 => (Q3.l1 N K0 p0 k1 i2 (fun ov9 => (Q3.a1_0 N K0 (Q3.l0 N K0 p0 k1 out0 m) out0 p0 i2 ov9)) N factor4 j5 gv6)) ((Q3.l0 N K0 p0 k1 out0 m)) out0 p0 i2 gv3)
def Q3.s {ρ : Type} (N : Nat) (K0 : (Nat → Int) → (Nat → Int) → Option ρ) (lp0 : Int → (Nat → Int) → Option ρ) : Option ρ :=
  (lp0 0 (upd (upd (fun _ => 0) 0 1) 520 1))
def Q3 {ρ : Type} (N : Nat) (K0 : (Nat → Int) → (Nat → Int) → Option ρ) (p0 : Int) (k1 : Int) : Option ρ :=
  (Q3.s N K0 (fun i2 gv3 => (Q3.l0 N K0 p0 k1 (fun ov11 => (Q3.a0_0 N K0 p0 ov11)) N i2 gv3)))
def Q4 {ρ : Type} (N : Nat) (K0 : (Nat → Int) → (Nat → Int) → Int → Option ρ) (p0 : Int) (k1 : Int) : Option ρ :=
  (Q1 N (fun rv2 => (if (!rv2) = true then (K0 (fun _ => 0) (fun _ => 0) 2) else (if (decide (p0 > 7)) = true then (K0 (fun _ => 0) (fun _ => 0) 2) else (Q0 N (fun rv3 => (if (!rv3) = true then (K0 (fun _ => 0) (fun _ => 0) 2) else (Q3 N (fun rv4 rv5 => (K0 rv4 rv5 0)) p0 k1))) k1 0 ((IntKind.i64.wrap (p0 - 1))))))) p0)
def Q5 {ρ : Type} (N : Nat) (K0 : (Nat → Int) → Option ρ) (i0 : Int) : Option ρ :=
  (if (0 : Int) ≤ i0 ∧ i0 < 8 then (K0 (upd (fun _ => 0) (i0.toNat * 1) 1)) else none)
def Q6.b0 {ρ : Type} (N : Nat) (K0 : (Nat → Int) → Option ρ) (rec : Int → (Nat → Int) → Option ρ) (out0 : (Nat → Int) → Option ρ) (nv0 : Int) (i1 : Int) (gv2 : Nat → Int) : Option ρ :=
  (if (decide (i1 < nv0)) = true then (Q5 N (fun rv3 => (if (0 : Int) ≤ i1 ∧ i1 < 8 then (rec ((IntKind.i64.wrap (i1 + 1))) (updN gv2 (i1.toNat * 8) 8 rv3)) else none)) i1) else (out0 gv2))
def Q6.a0_0 {ρ : Type} (N : Nat) (K0 : (Nat → Int) → Option ρ) (ov4 : Nat → Int) : Option ρ :=
  (K0 ov4)
def Q6.l0 {ρ : Type} (N : Nat) (K0 : (Nat → Int) → Option ρ) (nv0 : Int) (out0 : (Nat → Int) → Option ρ) : Nat → Int → (Nat → Int) → Option ρ
  | 0, _, _ => none
  | m + 1, i1, gv2 => (Q6.b0 N K0 ((Q6.l0 N K0 nv0 out0 m)) out0 nv0 i1 gv2)
def Q6.s {ρ : Type} (N : Nat) (K0 : (Nat → Int) → Option ρ) (lp0 : Int → (Nat → Int) → Option ρ) : Option ρ :=
  (lp0 0 (fun _ => 0))
def Q6 {ρ : Type} (N : Nat) (K0 : (Nat → Int) → Option ρ) (nv0 : Int) : Option ρ :=
  (Q6.s N K0 (fun i1 gv2 => (Q6.l0 N K0 nv0 (fun ov4 => (Q6.a0_0 N K0 ov4)) N i1 gv2)))
def Q7 {ρ : Type} (N : Nat) (K0 : (Nat → Int) → (Nat → Int) → Option ρ) (p0 : Int) : Option ρ :=
  (Q6 N (fun rv1 => (K0 (upd (upd (fun _ => 0) 0 p0) 1 4) (updN (updN (updN (updN (updN (updN (updN (updN (updN (updN (updN (fun _ => 0) 0 8 (upd (fun _ => 0) 0 1)) 520 8 (upd (upd (fun _ => 0) 0 1) 1 1)) 8 64 rv1) 72 64 (updN (updN (updN (updN (fun _ => 0) 0 8 (upd (upd (fun _ => 0) 0 0) 1 1)) 8 8 (upd (fun _ => 0) 0 1)) 16 8 (upd (upd (upd (upd (fun _ => 0) 0 0) 1 0) 2 0) 3 1)) 24 8 (upd (upd (upd (fun _ => 0) 0 0) 1 0) 2 1))) 136 64 (updN (updN (fun _ => 0) 0 8 (upd (upd (upd (fun _ => 0) 0 0) 1 0) 2 1)) 8 8 (upd (upd (upd (upd (fun _ => 0) 0 0) 1 0) 2 0) 3 (IntKind.u8.wrap (IntKind.i64.wrap (p0 - 1)))))) 200 64 (updN (updN (fun _ => 0) 0 8 (upd (upd (upd (upd (fun _ => 0) 0 0) 1 0) 2 0) 3 1)) 8 8 (upd (upd (upd (fun _ => 0) 0 0) 1 0) 2 (IntKind.u8.wrap (IntKind.i64.wrap (p0 - 1)))))) 528 64 (updN (fun _ => 0) 0 8 (upd (fun _ => 0) 0 1))) 592 64 (updN (updN (fun _ => 0) 0 8 (fun _ => 0)) 8 8 (upd (upd (fun _ => 0) 0 0) 1 1))) 656 64 (updN (updN (updN (fun _ => 0) 0 8 (fun _ => 0)) 8 8 (upd (upd (upd (fun _ => 0) 0 0) 1 0) 2 1)) 16 8 (upd (fun _ => 0) 0 1))) 720 64 (updN (updN (updN (updN (fun _ => 0) 0 8 (upd (upd (upd (upd (fun _ => 0) 0 0) 1 0) 2 0) 3 1)) 8 8 (fun _ => 0)) 16 8 (fun _ => 0)) 24 8 (upd (upd (fun _ => 0) 0 0) 1 1))) 1040 64 (updN (updN (updN (updN (fun _ => 0) 0 8 (upd (fun _ => 0) 0 1)) 8 8 (upd (upd (fun _ => 0) 0 0) 1 1)) 16 8 (upd (upd (upd (upd (fun _ => 0) 0 0) 1 0) 2 0) 3 (IntKind.u8.wrap (IntKind.i64.wrap (p0 - 1))))) 24 8 (upd (upd (upd (fun _ => 0) 0 0) 1 0) 2 1))))) 4)
def Q8 {ρ : Type} (N : Nat) (K0 : (Nat → Int) → (Nat → Int) → Int → Option ρ) (p0 : Int) : Option ρ :=
  (Q1 N (fun rv1 => (if (!rv1) = true then (K0 (fun _ => 0) (fun _ => 0) 2) else (if (p0 == 2) = true then (K0 (fun _ => 0) (fun _ => 0) 2) else (Q7 N (fun rv2 rv3 => (K0 rv2 rv3 0)) p0)))) p0)
def Q9.b0 {ρ : Type} (N : Nat) (K0 : (Nat → Int) → Option ρ) (rec : Int → (Nat → Int) → Option ρ) (out0 : (Nat → Int) → Option ρ) (p0 : Int) (w2 : Nat → Int) (k3 : Int) (i4 : Int) (gv5 : Nat → Int) : Option ρ :=
  (if (decide (i4 < 8)) = true then (if (0 : Int) ≤ i4 ∧ i4 < 8 then (if (0 : Int) ≤ i4 ∧ i4 < 8 then (Q2 N (fun rv6 => (if (0 : Int) ≤ i4 ∧ i4 < 8 then (rec ((IntKind.i64.wrap (i4 + 1))) (upd gv5 (i4.toNat * 1) rv6)) else none)) p0 ((IntKind.i64.wrap ((IntKind.i64.wrap (gv5 (i4.toNat * 1))) + (IntKind.i64.wrap (k3 * (IntKind.i64.wrap (w2 (i4.toNat * 1))))))))) else none) else none) else (out0 gv5))
def Q9.a0_0 {ρ : Type} (N : Nat) (K0 : (Nat → Int) → Option ρ) (ov7 : Nat → Int) : Option ρ :=
  (K0 ov7)
def Q9.l0 {ρ : Type} (N : Nat) (K0 : (Nat → Int) → Option ρ) (p0 : Int) (w2 : Nat → Int) (k3 : Int) (out0 : (Nat → Int) → Option ρ) : Nat → Int → (Nat → Int) → Option ρ
  | 0, _, _ => none
  | m + 1, i4, gv5 => (Q9.b0 N K0 ((Q9.l0 N K0 p0 w2 k3 out0 m)) out0 p0 w2 k3 i4 gv5)
def Q9.s {ρ : Type} (N : Nat) (K0 : (Nat → Int) → Option ρ) (lp0 : Int → (Nat → Int) → Option ρ) (v1 : Nat → Int) : Option ρ :=
  (lp0 0 v1)
def Q9 {ρ : Type} (N : Nat) (K0 : (Nat → Int) → Option ρ) (p0 : Int) (v1 : Nat → Int) (w2 : Nat → Int) (k3 : Int) : Option ρ :=
  (Q9.s N K0 (fun i4 gv5 => (Q9.l0 N K0 p0 w2 k3 (fun ov7 => (Q9.a0_0 N K0 ov7)) N i4 gv5)) v1)
def Q10.b0 {ρ : Type} (N : Nat) (K0 : (Nat → Int) → Option ρ) (rec : Int → (Nat → Int) → Option ρ) (out0 : (Nat → Int) → Option ρ) (p0 : Int) (v1 : Nat → Int) (w2 : Nat → Int) (j3 : Int) (gv4 : Nat → Int) : Option ρ :=
  (if (decide (j3 < 8)) = true then (if (0 : Int) ≤ j3 ∧ j3 < 8 then (Q9 N (fun rv5 => (if (0 : Int) ≤ j3 ∧ j3 < 8 then (rec ((IntKind.i64.wrap (j3 + 1))) (updN gv4 (j3.toNat * 8) 8 rv5)) else none)) p0 (fun _ => 0) w2 ((IntKind.i64.wrap (v1 (j3.toNat * 1))))) else none) else (out0 gv4))
def Q10.a0_0 {ρ : Type} (N : Nat) (K0 : (Nat → Int) → Option ρ) (ov6 : Nat → Int) : Option ρ :=
  (K0 ov6)
def Q10.l0 {ρ : Type} (N : Nat) (K0 : (Nat → Int) → Option ρ) (p0 : Int) (v1 : Nat → Int) (w2 : Nat → Int) (out0 : (Nat → Int) → Option ρ) : Nat → Int → (Nat → Int) → Option ρ
  | 0, _, _ => none
  | m + 1, j3, gv4 => (Q10.b0 N K0 ((Q10.l0 N K0 p0 v1 w2 out0 m)) out0 p0 v1 w2 j3 gv4)
def Q10.s {ρ : Type} (N : Nat) (K0 : (Nat → Int) → Option ρ) (lp0 : Int → (Nat → Int) → Option ρ) : Option ρ :=
  (lp0 0 (fun _ => 0))
def Q10 {ρ : Type} (N : Nat) (K0 : (Nat → Int) → Option ρ) (p0 : Int) (v1 : Nat → Int) (w2 : Nat → Int) : Option ρ :=
  (Q10.s N K0 (fun j3 gv4 => (Q10.l0 N K0 p0 v1 w2 (fun ov6 => (Q10.a0_0 N K0 ov6)) N j3 gv4)))
def Q11.b4 {ρ : Type} (N : Nat) (K0 : (Nat → Int) → Option ρ) (rec : Int → (Nat → Int) → Option ρ) (out0 : (Nat → Int) → Option ρ) (av0 : Nat → Int) (f2 : Nat → Int) (gv3 : Nat → Int) (j4 : Int) (k6 : Int) (lv8 : Int) (mv10 : Int) (rv12 : Nat → Int) (i13 : Int) (gv14 : Nat → Int) : Option ρ :=
  (if (decide (i13 < (av0 1))) = true then (if (0 : Int) ≤ i13 ∧ i13 < 8 then (if (0 : Int) ≤ i13 ∧ i13 < 8 then (Q9 N (fun rv15 => (if (0 : Int) ≤ i13 ∧ i13 < 8 then (rec ((IntKind.i64.wrap (i13 + 1))) (updN gv14 (i13.toNat * 8) 8 rv15)) else none)) ((av0 0)) (fun z => (gv14 ((i13.toNat * 8) + z))) (fun z => (rv12 ((i13.toNat * 8) + z))) ((IntKind.i64.wrap ((IntKind.i64.wrap (f2 ((j4.toNat * 8) + (k6.toNat * 1)))) * (IntKind.i64.wrap (gv3 ((lv8.toNat * 8) + (mv10.toNat * 1)))))))) else none) else none) else (out0 gv14))
def Q11.a4_0 {ρ : Type} (N : Nat) (K0 : (Nat → Int) → Option ρ) (rec : Int → (Nat → Int) → Option ρ) (out0 : (Nat → Int) → Option ρ) (mv10 : Int) (ov16 : Nat → Int) : Option ρ :=
  (rec ((IntKind.i64.wrap (mv10 + 1))) ov16)
def Q11.b3 {ρ : Type} (N : Nat) (K0 : (Nat → Int) → Option ρ) (lp4 : (Nat → Int) → Int → (Nat → Int) → Option ρ) (rec : Int → (Nat → Int) → Option ρ) (out0 : (Nat → Int) → Option ρ) (av0 : Nat → Int) (av1 : Nat → Int) (gv3 : Nat → Int) (j4 : Int) (k6 : Int) (lv8 : Int) (mv10 : Int) (gv11 : Nat → Int) : Option ρ :=
  (if (decide (mv10 < (av0 1))) = true then (if (0 : Int) ≤ lv8 ∧ lv8 < 8 then (if (0 : Int) ≤ mv10 ∧ mv10 < 8 then (if ((gv3 ((lv8.toNat * 8) + (mv10.toNat * 1))) == 0) = true then (rec ((IntKind.i64.wrap (mv10 + 1))) gv11) else (if (0 : Int) ≤ j4 ∧ j4 < 8 then (if (0 : Int) ≤ lv8 ∧ lv8 < 8 then (if (0 : Int) ≤ k6 ∧ k6 < 8 then (if (0 : Int) ≤ mv10 ∧ mv10 < 8 then (Q10 N (fun rv12 => (if (0 : Int) ≤ j4 ∧ j4 < 8 then (if (0 : Int) ≤ k6 ∧ k6 < 8 then (if (0 : Int) ≤ lv8 ∧ lv8 < 8 then (if (0 : Int) ≤ mv10 ∧ mv10 < 8 then (lp4 rv12 0 gv11) else none) else none) else none) else none)) ((av0 0)) (fun z => (av1 (((8 + (j4.toNat * 64)) + (lv8.toNat * 8)) + z))) (fun z => (av1 (((8 + (k6.toNat * 64)) + (mv10.toNat * 8)) + z)))) else none) else none) else none) else none)) else none) else none) else (out0 gv11))
def Q11.a3_0 {ρ : Type} (N : Nat) (K0 : (Nat → Int) → Option ρ) (rec : Int → (Nat → Int) → Option ρ) (out0 : (Nat → Int) → Option ρ) (lv8 : Int) (ov17 : Nat → Int) : Option ρ :=
  (rec ((IntKind.i64.wrap (lv8 + 1))) ov17)
def Q11.b2 {ρ : Type} (N : Nat) (K0 : (Nat → Int) → Option ρ) (lp3 : Int → (Nat → Int) → Option ρ) (rec : Int → (Nat → Int) → Option ρ) (out0 : (Nat → Int) → Option ρ) (av0 : Nat → Int) (f2 : Nat → Int) (j4 : Int) (k6 : Int) (lv8 : Int) (gv9 : Nat → Int) : Option ρ :=
  (if (decide (lv8 < (av0 1))) = true then (if (0 : Int) ≤ j4 ∧ j4 < 8 then (if (0 : Int) ≤ k6 ∧ k6 < 8 then (if ((f2 ((j4.toNat * 8) + (k6.toNat * 1))) != 0) = true then (lp3 0 gv9) else (out0 gv9)) else none) else none) else (out0 gv9))
def Q11.a2_0 {ρ : Type} (N : Nat) (K0 : (Nat → Int) → Option ρ) (rec : Int → (Nat → Int) → Option ρ) (out0 : (Nat → Int) → Option ρ) (k6 : Int) (ov18 : Nat → Int) : Option ρ :=
  (rec ((IntKind.i64.wrap (k6 + 1))) ov18)
def Q11.b1 {ρ : Type} (N : Nat) (K0 : (Nat → Int) → Option ρ) (lp2 : Int → (Nat → Int) → Option ρ) (rec : Int → (Nat → Int) → Option ρ) (out0 : (Nat → Int) → Option ρ) (av0 : Nat → Int) (k6 : Int) (gv7 : Nat → Int) : Option ρ :=
  (if (decide (k6 < (av0 1))) = true then (lp2 0 gv7) else (out0 gv7))
def Q11.a1_0 {ρ : Type} (N : Nat) (K0 : (Nat → Int) → Option ρ) (rec : Int → (Nat → Int) → Option ρ) (out0 : (Nat → Int) → Option ρ) (j4 : Int) (ov19 : Nat → Int) : Option ρ :=
  (rec ((IntKind.i64.wrap (j4 + 1))) ov19)
def Q11.b0 {ρ : Type} (N : Nat) (K0 : (Nat → Int) → Option ρ) (lp1 : Int → (Nat → Int) → Option ρ) (rec : Int → (Nat → Int) → Option ρ) (out0 : (Nat → Int) → Option ρ) (av0 : Nat → Int) (j4 : Int) (gv5 : Nat → Int) : Option ρ :=
  (if (decide (j4 < (av0 1))) = true then (lp1 0 gv5) else (out0 gv5))
def Q11.a0_0 {ρ : Type} (N : Nat) (K0 : (Nat → Int) → Option ρ) (ov20 : Nat → Int) : Option ρ :=
  (K0 ov20)
def Q11.l4 {ρ : Type} (N : Nat) (K0 : (Nat → Int) → Option ρ) (av0 : Nat → Int) (f2 : Nat → Int) (gv3 : Nat → Int) (j4 : Int) (k6 : Int) (lv8 : Int) (mv10 : Int) (rv12 : Nat → Int) (out0 : (Nat → Int) → Option ρ) : Nat → Int → (Nat → Int) → Option ρ
  | 0, _, _ => none
  | m + 1, i13, gv14 => (Q11.b4 N K0 ((Q11.l4 N K0 av0 f2 gv3 j4 k6 lv8 mv10 rv12 out0 m)) out0 av0 f2 gv3 j4 k6 lv8 mv10 rv12 i13 gv14)
def Q11.l3 {ρ : Type} (N : Nat) (K0 : (Nat → Int) → Option ρ) (av0 : Nat → Int) (av1 : Nat → Int) (f2 : Nat → Int) (gv3 : Nat → Int) (j4 : Int) (k6 : Int) (lv8 : Int) (out0 : (Nat → Int) → Option ρ) : Nat → Int → (Nat → Int) → Option ρ
  | 0, _, _ => none
  | m + 1, mv10, gv11 => (Q11.b3 N K0 (fun rv12 i13 gv14 => (Q11.l4 N K0 av0 f2 gv3 j4 k6 lv8 mv10 rv12 (fun ov16 => (Q11.a4_0 N K0 (Q11.l3 N K0 av0 av1 f2 gv3 j4 k6 lv8 out0 m) out0 mv10 ov16)) N i13 gv14)) ((Q11.l3 N K0 av0 av1 f2 gv3 j4 k6 lv8 out0 m)) out0 av0 av1 gv3 j4 k6 lv8 mv10 gv11)
def Q11.l2 {ρ : Type} (N : Nat) (K0 : (Nat → Int) → Option ρ) (av0 : Nat → Int) (av1 : Nat → Int) (f2 : Nat → Int) (gv3 : Nat → Int) (j4 : Int) (k6 : Int) (out0 : (Nat → Int) → Option ρ) : Nat → Int → (Nat → Int) → Option ρ
  | 0, _, _ => none
  | m + 1, lv8, gv9 => (Q11.b2 N K0 (fun mv10 gv11 => (Q11.l3 N K0 av0 av1 f2 gv3 j4 k6 lv8 (fun ov17 => (Q11.a3_0 N K0 (Q11.l2 N K0 av0 av1 f2 gv3 j4 k6 out0 m) out0 lv8 ov17)) N mv10 gv11)) ((Q11.l2 N K0 av0 av1 f2 gv3 j4 k6 out0 m)) out0 av0 f2 j4 k6 lv8 gv9)
def Q11.l1 {ρ : Type} (N : Nat) (K0 : (Nat → Int) → Option ρ) (av0 : Nat → Int) (av1 : Nat → Int) (f2 : Nat → Int) (gv3 : Nat → Int) (j4 : Int) (out0 : (Nat → Int) → Option ρ) : Nat → Int → (Nat → Int) → Option ρ
  | 0, _, _ => none
  | m + 1, k6, gv7 => (Q11.b1 N K0 (fun lv8 gv9 => (Q11.l2 N K0 av0 av1 f2 gv3 j4 k6 (fun ov18 => (Q11.a2_0 N K0 (Q11.l1 N K0 av0 av1 f2 gv3 j4 out0 m) out0 k6 ov18)) N lv8 gv9)) ((Q11.l1 N K0 av0 av1 f2 gv3 j4 out0 m)) out0 av0 k6 gv7)
def Q11.l0 {ρ : Type} (N : Nat) (K0 : (Nat → Int) → Option ρ) (av0 : Nat → Int) (av1 : Nat → Int) (f2 : Nat → Int) (gv3 : Nat → Int) (out0 : (Nat → Int) → Option ρ) : Nat → Int → (Nat → Int) → Option ρ
  | 0, _, _ => none
  | m + 1, j4, gv5 => (Q11.b0 N K0 (fun k6 gv7 => (Q11.l1 N K0 av0 av1 f2 gv3 j4 (fun ov19 => (Q11.a1_0 N K0 (Q11.l0 N K0 av0 av1 f2 gv3 out0 m) out0 j4 ov19)) N k6 gv7)) ((Q11.l0 N K0 av0 av1 f2 gv3 out0 m)) out0 av0 j4 gv5)
def Q11.s {ρ : Type} (N : Nat) (K0 : (Nat → Int) → Option ρ) (lp0 : Int → (Nat → Int) → Option ρ) : Option ρ :=
  (lp0 0 (fun _ => 0))
def Q11 {ρ : Type} (N : Nat) (K0 : (Nat → Int) → Option ρ) (av0 : Nat → Int) (av1 : Nat → Int) (f2 : Nat → Int) (gv3 : Nat → Int) : Option ρ :=
  (Q11.s N K0 (fun j4 gv5 => (Q11.l0 N K0 av0 av1 f2 gv3 (fun ov20 => (Q11.a0_0 N K0 ov20)) N j4 gv5)))
def Q12.b0 {ρ : Type} (N : Nat) (K0 : (Nat → Int) → Option ρ) (rec : Int → (Nat → Int) → Option ρ) (out0 : (Nat → Int) → Option ρ) (p0 : Int) (nv1 : Int) (f2 : Nat → Int) (v3 : Nat → Int) (i4 : Int) (gv5 : Nat → Int) : Option ρ :=
  (if (decide (i4 < nv1)) = true then (if (0 : Int) ≤ i4 ∧ i4 < 8 then (if ((v3 (i4.toNat * 1)) != 0) = true then (if (0 : Int) ≤ i4 ∧ i4 < 8 then (if (0 : Int) ≤ i4 ∧ i4 < 8 then (Q9 N (fun rv6 => (rec ((IntKind.i64.wrap (i4 + 1))) rv6)) p0 gv5 (fun z => (f2 ((i4.toNat * 8) + z))) ((IntKind.i64.wrap (v3 (i4.toNat * 1))))) else none) else none) else (rec ((IntKind.i64.wrap (i4 + 1))) gv5)) else none) else (out0 gv5))
def Q12.a0_0 {ρ : Type} (N : Nat) (K0 : (Nat → Int) → Option ρ) (ov7 : Nat → Int) : Option ρ :=
  (K0 ov7)
def Q12.l0 {ρ : Type} (N : Nat) (K0 : (Nat → Int) → Option ρ) (p0 : Int) (nv1 : Int) (f2 : Nat → Int) (v3 : Nat → Int) (out0 : (Nat → Int) → Option ρ) : Nat → Int → (Nat → Int) → Option ρ
  | 0, _, _ => none
  | m + 1, i4, gv5 => (Q12.b0 N K0 ((Q12.l0 N K0 p0 nv1 f2 v3 out0 m)) out0 p0 nv1 f2 v3 i4 gv5)
def Q12.s {ρ : Type} (N : Nat) (K0 : (Nat → Int) → Option ρ) (lp0 : Int → (Nat → Int) → Option ρ) : Option ρ :=
  (lp0 0 (fun _ => 0))
def Q12 {ρ : Type} (N : Nat) (K0 : (Nat → Int) → Option ρ) (p0 : Int) (nv1 : Int) (f2 : Nat → Int) (v3 : Nat → Int) : Option ρ :=
  (Q12.s N K0 (fun i4 gv5 => (Q12.l0 N K0 p0 nv1 f2 v3 (fun ov7 => (Q12.a0_0 N K0 ov7)) N i4 gv5)))
def Q13.b0 {ρ : Type} (N : Nat) (K0 : (Nat → Int) → Option ρ) (rec : Int → (Nat → Int) → Option ρ) (out0 : (Nat → Int) → Option ρ) (av0 : Nat → Int) (av1 : Nat → Int) (v2 : Nat → Int) (w3 : Nat → Int) (i4 : Int) (gv5 : Nat → Int) : Option ρ :=
  (if (decide (i4 < (av0 1))) = true then (if (0 : Int) ≤ i4 ∧ i4 < 8 then (if ((v2 (i4.toNat * 1)) != 0) = true then (if (0 : Int) ≤ i4 ∧ i4 < 8 then (Q12 N (fun rv6 => (if (0 : Int) ≤ i4 ∧ i4 < 8 then (Q9 N (fun rv7 => (rec ((IntKind.i64.wrap (i4 + 1))) rv7)) ((av0 0)) gv5 rv6 ((IntKind.i64.wrap (v2 (i4.toNat * 1))))) else none)) ((av0 0)) ((av0 1)) (fun z => (av1 ((8 + (i4.toNat * 64)) + z))) w3) else none) else (rec ((IntKind.i64.wrap (i4 + 1))) gv5)) else none) else (out0 gv5))
def Q13.a0_0 {ρ : Type} (N : Nat) (K0 : (Nat → Int) → Option ρ) (ov8 : Nat → Int) : Option ρ :=
  (K0 ov8)
def Q13.l0 {ρ : Type} (N : Nat) (K0 : (Nat → Int) → Option ρ) (av0 : Nat → Int) (av1 : Nat → Int) (v2 : Nat → Int) (w3 : Nat → Int) (out0 : (Nat → Int) → Option ρ) : Nat → Int → (Nat → Int) → Option ρ
  | 0, _, _ => none
  | m + 1, i4, gv5 => (Q13.b0 N K0 ((Q13.l0 N K0 av0 av1 v2 w3 out0 m)) out0 av0 av1 v2 w3 i4 gv5)
def Q13.s {ρ : Type} (N : Nat) (K0 : (Nat → Int) → Option ρ) (lp0 : Int → (Nat → Int) → Option ρ) : Option ρ :=
  (lp0 0 (fun _ => 0))
def Q13 {ρ : Type} (N : Nat) (K0 : (Nat → Int) → Option ρ) (av0 : Nat → Int) (av1 : Nat → Int) (v2 : Nat → Int) (w3 : Nat → Int) : Option ρ :=
  (Q13.s N K0 (fun i4 gv5 => (Q13.l0 N K0 av0 av1 v2 w3 (fun ov8 => (Q13.a0_0 N K0 ov8)) N i4 gv5)))
def Q14.b1 {ρ : Type} (N : Nat) (K0 : (Nat → Int) → (Nat → Int) → Option ρ) (rec : Int → (Nat → Int) → Option ρ) (out0 : (Nat → Int) → Option ρ) (p0 : Int) (i1 : Int) (j3 : Int) (gv4 : Nat → Int) : Option ρ :=
  (if (decide (j3 < 8)) = true then (if (decide ((IntKind.i64.wrap ((Int.tmod (IntKind.i64.wrap (Int.tdiv i1 2)) 2) + (Int.tmod (IntKind.i64.wrap (Int.tdiv j3 2)) 2))) > 1)) = true then (rec ((IntKind.i64.wrap (j3 + 1))) gv4) else (if (decide ((IntKind.i64.wrap ((IntKind.i64.wrap (Int.tdiv i1 4)) + (IntKind.i64.wrap (Int.tdiv j3 4)))) > 1)) = true then (rec ((IntKind.i64.wrap (j3 + 1))) gv4) else (if ((Int.tmod (IntKind.i64.wrap ((IntKind.i64.wrap ((Int.tmod j3 2) * (IntKind.i64.wrap ((Int.tmod (IntKind.i64.wrap (Int.tdiv i1 2)) 2) + (IntKind.i64.wrap (Int.tdiv i1 4)))))) + (IntKind.i64.wrap ((IntKind.i64.wrap (Int.tdiv i1 4)) * (Int.tmod (IntKind.i64.wrap (Int.tdiv j3 2)) 2))))) 2) == 1) = true then (if (0 : Int) ≤ i1 ∧ i1 < 8 then (if (0 : Int) ≤ j3 ∧ j3 < 8 then (if (0 : Int) ≤ (IntKind.i64.wrap ((IntKind.i64.wrap ((Int.tmod (IntKind.i64.wrap ((Int.tmod i1 2) + (Int.tmod j3 2))) 2) + (IntKind.i64.wrap (2 * (IntKind.i64.wrap ((Int.tmod (IntKind.i64.wrap (Int.tdiv i1 2)) 2) + (Int.tmod (IntKind.i64.wrap (Int.tdiv j3 2)) 2))))))) + (IntKind.i64.wrap (4 * (IntKind.i64.wrap ((IntKind.i64.wrap (Int.tdiv i1 4)) + (IntKind.i64.wrap (Int.tdiv j3 4)))))))) ∧ (IntKind.i64.wrap ((IntKind.i64.wrap ((Int.tmod (IntKind.i64.wrap ((Int.tmod i1 2) + (Int.tmod j3 2))) 2) + (IntKind.i64.wrap (2 * (IntKind.i64.wrap ((Int.tmod (IntKind.i64.wrap (Int.tdiv i1 2)) 2) + (Int.tmod (IntKind.i64.wrap (Int.tdiv j3 2)) 2))))))) + (IntKind.i64.wrap (4 * (IntKind.i64.wrap ((IntKind.i64.wrap (Int.tdiv i1 4)) + (IntKind.i64.wrap (Int.tdiv j3 4)))))))) < 8 then (rec ((IntKind.i64.wrap (j3 + 1))) (upd gv4 (((8 + (i1.toNat * 64)) + (j3.toNat * 8)) + (((IntKind.i64.wrap ((IntKind.i64.wrap ((Int.tmod (IntKind.i64.wrap ((Int.tmod i1 2) + (Int.tmod j3 2))) 2) + (IntKind.i64.wrap (2 * (IntKind.i64.wrap ((Int.tmod (IntKind.i64.wrap (Int.tdiv i1 2)) 2) + (Int.tmod (IntKind.i64.wrap (Int.tdiv j3 2)) 2))))))) + (IntKind.i64.wrap (4 * (IntKind.i64.wrap ((IntKind.i64.wrap (Int.tdiv i1 4)) + (IntKind.i64.wrap (Int.tdiv j3 4))))))))).toNat * 1)) (IntKind.u8.wrap (IntKind.i64.wrap (p0 - 1))))) else none) else none) else none) else (if (0 : Int) ≤ i1 ∧ i1 < 8 then (if (0 : Int) ≤ j3 ∧ j3 < 8 then (if (0 : Int) ≤ (IntKind.i64.wrap ((IntKind.i64.wrap ((Int.tmod (IntKind.i64.wrap ((Int.tmod i1 2) + (Int.tmod j3 2))) 2) + (IntKind.i64.wrap (2 * (IntKind.i64.wrap ((Int.tmod (IntKind.i64.wrap (Int.tdiv i1 2)) 2) + (Int.tmod (IntKind.i64.wrap (Int.tdiv j3 2)) 2))))))) + (IntKind.i64.wrap (4 * (IntKind.i64.wrap ((IntKind.i64.wrap (Int.tdiv i1 4)) + (IntKind.i64.wrap (Int.tdiv j3 4)))))))) ∧ (IntKind.i64.wrap ((IntKind.i64.wrap ((Int.tmod (IntKind.i64.wrap ((Int.tmod i1 2) + (Int.tmod j3 2))) 2) + (IntKind.i64.wrap (2 * (IntKind.i64.wrap ((Int.tmod (IntKind.i64.wrap (Int.tdiv i1 2)) 2) + (Int.tmod (IntKind.i64.wrap (Int.tdiv j3 2)) 2))))))) + (IntKind.i64.wrap (4 * (IntKind.i64.wrap ((IntKind.i64.wrap (Int.tdiv i1 4)) + (IntKind.i64.wrap (Int.tdiv j3 4)))))))) < 8 then (rec ((IntKind.i64.wrap (j3 + 1))) (upd gv4 (((8 + (i1.toNat * 64)) + (j3.toNat * 8)) + (((IntKind.i64.wrap ((IntKind.i64.wrap ((Int.tmod (IntKind.i64.wrap ((Int.tmod i1 2) + (Int.tmod j3 2))) 2) + (IntKind.i64.wrap (2 * (IntKind.i64.wrap ((Int.tmod (IntKind.i64.wrap (Int.tdiv i1 2)) 2) + (Int.tmod (IntKind.i64.wrap (Int.tdiv j3 2)) 2))))))) + (IntKind.i64.wrap (4 * (IntKind.i64.wrap ((IntKind.i64.wrap (Int.tdiv i1 4)) + (IntKind.i64.wrap (Int.tdiv j3 4))))))))).toNat * 1)) 1)) else none) else none) else none)))) else (out0 gv4))
def Q14.a1_0 {ρ : Type} (N : Nat) (K0 : (Nat → Int) → (Nat → Int) → Option ρ) (rec : Int → (Nat → Int) → Option ρ) (out0 : (Nat → Int) → Option ρ) (i1 : Int) (ov5 : Nat → Int) : Option ρ :=
  (rec ((IntKind.i64.wrap (i1 + 1))) ov5)
def Q14.b2 {ρ : Type} (N : Nat) (K0 : (Nat → Int) → (Nat → Int) → Option ρ) (rec : Int → (Nat → Int) → Option ρ) (out0 : (Nat → Int) → Option ρ) (p0 : Int) (ov6 : Nat → Int) (i7 : Int) (gv8 : Nat → Int) : Option ρ :=
  (if (decide (i7 < 8)) = true then (Q5 N (fun rv9 => (if ((Int.tmod i7 2) == 1) = true then (Q11 N (fun rv10 => (Q13 N (fun rv11 => (if ((Int.tmod (IntKind.i64.wrap (Int.tdiv i7 2)) 2) == 1) = true then (Q11 N (fun rv12 => (Q13 N (fun rv13 => (if ((IntKind.i64.wrap (Int.tdiv i7 4)) == 1) = true then (Q11 N (fun rv14 => (Q13 N (fun rv15 => (if (0 : Int) ≤ i7 ∧ i7 < 8 then (if (0 : Int) ≤ i7 ∧ i7 < 8 then (rec ((IntKind.i64.wrap (i7 + 1))) (updN (updN gv8 (528 + (i7.toNat * 64)) 64 rv14) (1040 + (i7.toNat * 8)) 8 rv15)) else none) else none)) (upd (upd (fun _ => 0) 0 p0) 1 8) (updN (updN (fun _ => 0) 0 8 (fun z => (ov6 (0 + z)))) 8 512 (fun z => (ov6 (8 + z)))) (fun z => ((updN (updN (updN (fun _ => 0) 0 8 (upd (upd (fun _ => 0) 0 0) 1 1)) 8 8 (upd (upd (upd (upd (fun _ => 0) 0 0) 1 0) 2 0) 3 (IntKind.u8.wrap (IntKind.i64.wrap (p0 - 1))))) 16 8 (upd (upd (upd (upd (upd (upd (fun _ => 0) 0 0) 1 0) 2 0) 3 0) 4 0) 5 (IntKind.u8.wrap (IntKind.i64.wrap (p0 - 1))))) (16 + z))) rv13)) (upd (upd (fun _ => 0) 0 p0) 1 8) (updN (updN (fun _ => 0) 0 8 (fun z => (ov6 (0 + z)))) 8 512 (fun z => (ov6 (8 + z)))) rv12 (updN (updN (updN (updN (updN (fun _ => 0) 0 8 (fun _ => 0)) 8 8 (upd (upd (upd (upd (upd (fun _ => 0) 0 0) 1 0) 2 0) 3 0) 4 1)) 16 8 (fun _ => 0)) 24 8 (fun _ => 0)) 32 8 (upd (fun _ => 0) 0 1))) else (if (0 : Int) ≤ i7 ∧ i7 < 8 then (if (0 : Int) ≤ i7 ∧ i7 < 8 then (rec ((IntKind.i64.wrap (i7 + 1))) (updN (updN gv8 (528 + (i7.toNat * 64)) 64 rv12) (1040 + (i7.toNat * 8)) 8 rv13)) else none) else none))) (upd (upd (fun _ => 0) 0 p0) 1 8) (updN (updN (fun _ => 0) 0 8 (fun z => (ov6 (0 + z)))) 8 512 (fun z => (ov6 (8 + z)))) (fun z => ((updN (updN (updN (fun _ => 0) 0 8 (upd (upd (fun _ => 0) 0 0) 1 1)) 8 8 (upd (upd (upd (upd (fun _ => 0) 0 0) 1 0) 2 0) 3 (IntKind.u8.wrap (IntKind.i64.wrap (p0 - 1))))) 16 8 (upd (upd (upd (upd (upd (upd (fun _ => 0) 0 0) 1 0) 2 0) 3 0) 4 0) 5 (IntKind.u8.wrap (IntKind.i64.wrap (p0 - 1))))) (8 + z))) rv11)) (upd (upd (fun _ => 0) 0 p0) 1 8) (updN (updN (fun _ => 0) 0 8 (fun z => (ov6 (0 + z)))) 8 512 (fun z => (ov6 (8 + z)))) rv10 (updN (updN (updN (fun _ => 0) 0 8 (fun _ => 0)) 8 8 (upd (upd (upd (fun _ => 0) 0 0) 1 0) 2 1)) 16 8 (upd (fun _ => 0) 0 1))) else (if ((IntKind.i64.wrap (Int.tdiv i7 4)) == 1) = true then (Q11 N (fun rv16 => (Q13 N (fun rv17 => (if (0 : Int) ≤ i7 ∧ i7 < 8 then (if (0 : Int) ≤ i7 ∧ i7 < 8 then (rec ((IntKind.i64.wrap (i7 + 1))) (updN (updN gv8 (528 + (i7.toNat * 64)) 64 rv16) (1040 + (i7.toNat * 8)) 8 rv17)) else none) else none)) (upd (upd (fun _ => 0) 0 p0) 1 8) (updN (updN (fun _ => 0) 0 8 (fun z => (ov6 (0 + z)))) 8 512 (fun z => (ov6 (8 + z)))) (fun z => ((updN (updN (updN (fun _ => 0) 0 8 (upd (upd (fun _ => 0) 0 0) 1 1)) 8 8 (upd (upd (upd (upd (fun _ => 0) 0 0) 1 0) 2 0) 3 (IntKind.u8.wrap (IntKind.i64.wrap (p0 - 1))))) 16 8 (upd (upd (upd (upd (upd (upd (fun _ => 0) 0 0) 1 0) 2 0) 3 0) 4 0) 5 (IntKind.u8.wrap (IntKind.i64.wrap (p0 - 1))))) (16 + z))) rv11)) (upd (upd (fun _ => 0) 0 p0) 1 8) (updN (updN (fun _ => 0) 0 8 (fun z => (ov6 (0 + z)))) 8 512 (fun z => (ov6 (8 + z)))) rv10 (updN (updN (updN (updN (updN (fun _ => 0) 0 8 (fun _ => 0)) 8 8 (upd (upd (upd (upd (upd (fun _ => 0) 0 0) 1 0) 2 0) 3 0) 4 1)) 16 8 (fun _ => 0)) 24 8 (fun _ => 0)) 32 8 (upd (fun _ => 0) 0 1))) else (if (0 : Int) ≤ i7 ∧ i7 < 8 then (if (0 : Int) ≤ i7 ∧ i7 < 8 then (rec ((IntKind.i64.wrap (i7 + 1))) (updN (updN gv8 (528 + (i7.toNat * 64)) 64 rv10) (1040 + (i7.toNat * 8)) 8 rv11)) else none) else none)))) (upd (upd (fun _ => 0) 0 p0) 1 8) (updN (updN (fun _ => 0) 0 8 (fun z => (ov6 (0 + z)))) 8 512 (fun z => (ov6 (8 + z)))) (fun z => ((updN (updN (updN (fun _ => 0) 0 8 (upd (upd (fun _ => 0) 0 0) 1 1)) 8 8 (upd (upd (upd (upd (fun _ => 0) 0 0) 1 0) 2 0) 3 (IntKind.u8.wrap (IntKind.i64.wrap (p0 - 1))))) 16 8 (upd (upd (upd (upd (upd (upd (fun _ => 0) 0 0) 1 0) 2 0) 3 0) 4 0) 5 (IntKind.u8.wrap (IntKind.i64.wrap (p0 - 1))))) (0 + z))) rv9)) (upd (upd (fun _ => 0) 0 p0) 1 8) (updN (updN (fun _ => 0) 0 8 (fun z => (ov6 (0 + z)))) 8 512 (fun z => (ov6 (8 + z)))) (updN (fun _ => 0) 0 8 (upd (fun _ => 0) 0 1)) (updN (updN (fun _ => 0) 0 8 (fun _ => 0)) 8 8 (upd (upd (fun _ => 0) 0 0) 1 1))) else (if ((Int.tmod (IntKind.i64.wrap (Int.tdiv i7 2)) 2) == 1) = true then (Q11 N (fun rv18 => (Q13 N (fun rv19 => (if ((IntKind.i64.wrap (Int.tdiv i7 4)) == 1) = true then (Q11 N (fun rv20 => (Q13 N (fun rv21 => (if (0 : Int) ≤ i7 ∧ i7 < 8 then (if (0 : Int) ≤ i7 ∧ i7 < 8 then (rec ((IntKind.i64.wrap (i7 + 1))) (updN (updN gv8 (528 + (i7.toNat * 64)) 64 rv20) (1040 + (i7.toNat * 8)) 8 rv21)) else none) else none)) (upd (upd (fun _ => 0) 0 p0) 1 8) (updN (updN (fun _ => 0) 0 8 (fun z => (ov6 (0 + z)))) 8 512 (fun z => (ov6 (8 + z)))) (fun z => ((updN (updN (updN (fun _ => 0) 0 8 (upd (upd (fun _ => 0) 0 0) 1 1)) 8 8 (upd (upd (upd (upd (fun _ => 0) 0 0) 1 0) 2 0) 3 (IntKind.u8.wrap (IntKind.i64.wrap (p0 - 1))))) 16 8 (upd (upd (upd (upd (upd (upd (fun _ => 0) 0 0) 1 0) 2 0) 3 0) 4 0) 5 (IntKind.u8.wrap (IntKind.i64.wrap (p0 - 1))))) (16 + z))) rv19)) (upd (upd (fun _ => 0) 0 p0) 1 8) (updN (updN (fun _ => 0) 0 8 (fun z => (ov6 (0 + z)))) 8 512 (fun z => (ov6 (8 + z)))) rv18 (updN (updN (updN (updN (updN (fun _ => 0) 0 8 (fun _ => 0)) 8 8 (upd (upd (upd (upd (upd (fun _ => 0) 0 0) 1 0) 2 0) 3 0) 4 1)) 16 8 (fun _ => 0)) 24 8 (fun _ => 0)) 32 8 (upd (fun _ => 0) 0 1))) else (if (0 : Int) ≤ i7 ∧ i7 < 8 then (if (0 : Int) ≤ i7 ∧ i7 < 8 then (rec ((IntKind.i64.wrap (i7 + 1))) (updN (updN gv8 (528 + (i7.toNat * 64)) 64 rv18) (1040 + (i7.toNat * 8)) 8 rv19)) else none) else none))) (upd (upd (fun _ => 0) 0 p0) 1 8) (updN (updN (fun _ => 0) 0 8 (fun z => (ov6 (0 + z)))) 8 512 (fun z => (ov6 (8 + z)))) (fun z => ((updN (updN (updN (fun _ => 0) 0 8 (upd (upd (fun _ => 0) 0 0) 1 1)) 8 8 (upd (upd (upd (upd (fun _ => 0) 0 0) 1 0) 2 0) 3 (IntKind.u8.wrap (IntKind.i64.wrap (p0 - 1))))) 16 8 (upd (upd (upd (upd (upd (upd (fun _ => 0) 0 0) 1 0) 2 0) 3 0) 4 0) 5 (IntKind.u8.wrap (IntKind.i64.wrap (p0 - 1))))) (8 + z))) rv9)) (upd (upd (fun _ => 0) 0 p0) 1 8) (updN (updN (fun _ => 0) 0 8 (fun z => (ov6 (0 + z)))) 8 512 (fun z => (ov6 (8 + z)))) (updN (fun _ => 0) 0 8 (upd (fun _ => 0) 0 1)) (updN (updN (updN (fun _ => 0) 0 8 (fun _ => 0)) 8 8 (upd (upd (upd (fun _ => 0) 0 0) 1 0) 2 1)) 16 8 (upd (fun _ => 0) 0 1))) else (if ((IntKind.i64.wrap (Int.tdiv i7 4)) == 1) = true then (Q11 N (fun rv22 => (Q13 N (fun rv23 => (if (0 : Int) ≤ i7 ∧ i7 < 8 then (if (0 : Int) ≤ i7 ∧ i7 < 8 then (rec ((IntKind.i64.wrap (i7 + 1))) (updN (updN gv8 (528 + (i7.toNat * 64)) 64 rv22) (1040 + (i7.toNat * 8)) 8 rv23)) else none) else none)) (upd (upd (fun _ => 0) 0 p0) 1 8) (updN (updN (fun _ => 0) 0 8 (fun z => (ov6 (0 + z)))) 8 512 (fun z => (ov6 (8 + z)))) (fun z => ((updN (updN (updN (fun _ => 0) 0 8 (upd (upd (fun _ => 0) 0 0) 1 1)) 8 8 (upd (upd (upd (upd (fun _ => 0) 0 0) 1 0) 2 0) 3 (IntKind.u8.wrap (IntKind.i64.wrap (p0 - 1))))) 16 8 (upd (upd (upd (upd (upd (upd (fun _ => 0) 0 0) 1 0) 2 0) 3 0) 4 0) 5 (IntKind.u8.wrap (IntKind.i64.wrap (p0 - 1))))) (16 + z))) rv9)) (upd (upd (fun _ => 0) 0 p0) 1 8) (updN (updN (fun _ => 0) 0 8 (fun z => (ov6 (0 + z)))) 8 512 (fun z => (ov6 (8 + z)))) (updN (fun _ => 0) 0 8 (upd (fun _ => 0) 0 1)) (updN (updN (updN (updN (updN (fun _ => 0) 0 8 (fun _ => 0)) 8 8 (upd (upd (upd (upd (upd (fun _ => 0) 0 0) 1 0) 2 0) 3 0) 4 1)) 16 8 (fun _ => 0)) 24 8 (fun _ => 0)) 32 8 (upd (fun _ => 0) 0 1))) else (if (0 : Int) ≤ i7 ∧ i7 < 8 then (if (0 : Int) ≤ i7 ∧ i7 < 8 then (rec ((IntKind.i64.wrap (i7 + 1))) (updN (updN gv8 (528 + (i7.toNat * 64)) 64 (updN (fun _ => 0) 0 8 (upd (fun _ => 0) 0 1))) (1040 + (i7.toNat * 8)) 8 rv9)) else none) else none))))) 0) else (out0 gv8))
def Q14.a2_0 {ρ : Type} (N : Nat) (K0 : (Nat → Int) → (Nat → Int) → Option ρ) (p0 : Int) (ov24 : Nat → Int) : Option ρ :=
  (K0 (upd (upd (fun _ => 0) 0 p0) 1 8) ov24)
def Q14.b0 {ρ : Type} (N : Nat) (K0 : (Nat → Int) → (Nat → Int) → Option ρ) (lp1 : Int → (Nat → Int) → Option ρ) (rec : Int → (Nat → Int) → Option ρ) (out0 : (Nat → Int) → Option ρ) (i1 : Int) (gv2 : Nat → Int) : Option ρ :=
  (if (decide (i1 < 8)) = true then (lp1 0 gv2) else (out0 gv2))
def Q14.a0_0 {ρ : Type} (N : Nat) (K0 : (Nat → Int) → (Nat → Int) → Option ρ) (lp2 : Int → (Nat → Int) → Option ρ) (ov6 : Nat → Int) : Option ρ :=
  (lp2 0 ov6)
def Q14.l1 {ρ : Type} (N : Nat) (K0 : (Nat → Int) → (Nat → Int) → Option ρ) (p0 : Int) (i1 : Int) (out0 : (Nat → Int) → Option ρ) : Nat → Int → (Nat → Int) → Option ρ
  | 0, _, _ => none
  | m + 1, j3, gv4 => (Q14.b1 N K0 ((Q14.l1 N K0 p0 i1 out0 m)) out0 p0 i1 j3 gv4)
def Q14.l2 {ρ : Type} (N : Nat) (K0 : (Nat → Int) → (Nat → Int) → Option ρ) (p0 : Int) (ov6 : Nat → Int) (out0 : (Nat → Int) → Option ρ) : Nat → Int → (Nat → Int) → Option ρ
  | 0, _, _ => none
  | m + 1, i7, gv8 => (Q14.b2 N K0 ((Q14.l2 N K0 p0 ov6 out0 m)) out0 p0 ov6 i7 gv8)
def Q14.l0 {ρ : Type} (N : Nat) (K0 : (Nat → Int) → (Nat → Int) → Option ρ) (p0 : Int) (out0 : (Nat → Int) → Option ρ) : Nat → Int → (Nat → Int) → Option ρ
  | 0, _, _ => none
  | m + 1, i1, gv2 => (Q14.b0 N K0 (fun j3 gv4 => (Q14.l1 N K0 p0 i1 (fun ov5 => (Q14.a1_0 N K0 (Q14.l0 N K0 p0 out0 m) out0 i1 ov5)) N j3 gv4)) ((Q14.l0 N K0 p0 out0 m)) out0 i1 gv2)
def Q14.s {ρ : Type} (N : Nat) (K0 : (Nat → Int) → (Nat → Int) → Option ρ) (lp0 : Int → (Nat → Int) → Option ρ) : Option ρ :=
  (lp0 0 (upd (upd (upd (fun _ => 0) 0 1) 520 1) 521 1))
def Q14 {ρ : Type} (N : Nat) (K0 : (Nat → Int) → (Nat → Int) → Option ρ) (p0 : Int) : Option ρ :=
  (Q14.s N K0 (fun i1 gv2 => (Q14.l0 N K0 p0 (fun ov6 => (Q14.a0_0 N K0 (fun i7 gv8 => (Q14.l2 N K0 p0 ov6 (fun ov24 => (Q14.a2_0 N K0 p0 ov24)) N i7 gv8)) ov6)) N i1 gv2)))
def Q15 {ρ : Type} (N : Nat) (K0 : (Nat → Int) → (Nat → Int) → Int → Option ρ) (p0 : Int) : Option ρ :=
  (Q1 N (fun rv1 => (if (!rv1) = true then (K0 (fun _ => 0) (fun _ => 0) 2) else (if (p0 == 2) = true then (K0 (fun _ => 0) (fun _ => 0) 2) else (Q14 N (fun rv2 rv3 => (K0 rv2 rv3 0)) p0)))) p0)
def Q16.b1 {ρ : Type} (N : Nat) (K0 : Nat → Nat → (Nat → Nat) → (Nat → Nat) → (Nat → Int) → Option ρ) (rec : Nat → Int → (Nat → Int) → Option ρ) (out0 : Nat → (Nat → Int) → Option ρ) (nv0 : Int) (i2 : Int) (row7 : Nat) (j8 : Int) (gv9 : Nat → Int) : Option ρ :=
  (if (decide (j8 < nv0)) = true then (if nv0 = 0 then none else (if (row7 + 1) * 8 ≤ 140737488355328 then (rec (row7 + 1) ((IntKind.i64.wrap (j8 + 1))) (joinN (row7 * 1) gv9 (upd (fun _ => 0) 0 (Int.tmod (IntKind.i64.wrap (i2 + j8)) nv0)))) else none)) else (out0 row7 gv9))
def Q16.a1_0 {ρ : Type} (N : Nat) (K0 : Nat → Nat → (Nat → Nat) → (Nat → Nat) → (Nat → Int) → Option ρ) (rec : Nat → Int → Nat → (Nat → Nat) → (Nat → Nat) → (Nat → Int) → Option ρ) (out0 : Nat → Nat → (Nat → Nat) → (Nat → Nat) → (Nat → Int) → Option ρ) (outv1 : Nat) (i2 : Int) (gv3 : Nat) (gv4 : Nat → Nat) (gv5 : Nat → Nat) (gv6 : Nat → Int) (ov10 : Nat) (ov11 : Nat → Int) : Option ρ :=
  (if (outv1 + 1) * 24 ≤ 140737488355328 then (rec (outv1 + 1) ((IntKind.i64.wrap (i2 + 1))) (gv3 + ov10) (upd gv4 outv1 gv3) (upd gv5 outv1 ov10) (joinN gv3 gv6 ov11)) else none)
def Q16.b0 {ρ : Type} (N : Nat) (K0 : Nat → Nat → (Nat → Nat) → (Nat → Nat) → (Nat → Int) → Option ρ) (lp1 : Nat → Int → (Nat → Int) → Option ρ) (rec : Nat → Int → Nat → (Nat → Nat) → (Nat → Nat) → (Nat → Int) → Option ρ) (out0 : Nat → Nat → (Nat → Nat) → (Nat → Nat) → (Nat → Int) → Option ρ) (nv0 : Int) (outv1 : Nat) (i2 : Int) (gv3 : Nat) (gv4 : Nat → Nat) (gv5 : Nat → Nat) (gv6 : Nat → Int) : Option ρ :=
  (if (decide (i2 < nv0)) = true then (lp1 0 0 (fun _ => 0)) else (out0 outv1 gv3 gv4 gv5 gv6))
def Q16.a0_0 {ρ : Type} (N : Nat) (K0 : Nat → Nat → (Nat → Nat) → (Nat → Nat) → (Nat → Int) → Option ρ) (ov12 : Nat) (ov13 : Nat) (ov14 : Nat → Nat) (ov15 : Nat → Nat) (ov16 : Nat → Int) : Option ρ :=
  (K0 ov12 ov13 ov14 ov15 ov16)
def Q16.l1 {ρ : Type} (N : Nat) (K0 : Nat → Nat → (Nat → Nat) → (Nat → Nat) → (Nat → Int) → Option ρ) (nv0 : Int) (i2 : Int) (out0 : Nat → (Nat → Int) → Option ρ) : Nat → Nat → Int → (Nat → Int) → Option ρ
  | 0, _, _, _ => none
  | m + 1, row7, j8, gv9 => (Q16.b1 N K0 ((Q16.l1 N K0 nv0 i2 out0 m)) out0 nv0 i2 row7 j8 gv9)
def Q16.l0 {ρ : Type} (N : Nat) (K0 : Nat → Nat → (Nat → Nat) → (Nat → Nat) → (Nat → Int) → Option ρ) (nv0 : Int) (out0 : Nat → Nat → (Nat → Nat) → (Nat → Nat) → (Nat → Int) → Option ρ) : Nat → Nat → Int → Nat → (Nat → Nat) → (Nat → Nat) → (Nat → Int) → Option ρ
  | 0, _, _, _, _, _, _ => none
  | m + 1, outv1, i2, gv3, gv4, gv5, gv6 => (Q16.b0 N K0 (fun row7 j8 gv9 => (Q16.l1 N K0 nv0 i2 (fun ov10 ov11 => (Q16.a1_0 N K0 (Q16.l0 N K0 nv0 out0 m) out0 outv1 i2 gv3 gv4 gv5 gv6 ov10 ov11)) N row7 j8 gv9)) ((Q16.l0 N K0 nv0 out0 m)) out0 nv0 outv1 i2 gv3 gv4 gv5 gv6)
def Q16.s {ρ : Type} (N : Nat) (K0 : Nat → Nat → (Nat → Nat) → (Nat → Nat) → (Nat → Int) → Option ρ) (lp0 : Nat → Int → Nat → (Nat → Nat) → (Nat → Nat) → (Nat → Int) → Option ρ) : Option ρ :=
  (lp0 0 0 0 (fun _ => 0) (fun _ => 0) (fun _ => 0))
def Q16 {ρ : Type} (N : Nat) (K0 : Nat → Nat → (Nat → Nat) → (Nat → Nat) → (Nat → Int) → Option ρ) (nv0 : Int) : Option ρ :=
  (Q16.s N K0 (fun outv1 i2 gv3 gv4 gv5 gv6 => (Q16.l0 N K0 nv0 (fun ov12 ov13 ov14 ov15 ov16 => (Q16.a0_0 N K0 ov12 ov13 ov14 ov15 ov16)) N outv1 i2 gv3 gv4 gv5 gv6)))
def Q17.b1 {ρ : Type} (N : Nat) (K0 : Nat → Nat → (Nat → Nat) → (Nat → Nat) → (Nat → Int) → Option ρ) (rec : Nat → Int → (Nat → Int) → Option ρ) (out0 : Nat → (Nat → Int) → Option ρ) (table0 : Nat) (other1 : Nat) (gv4 : Nat → Nat) (gv5 : Nat → Nat) (gv8 : Nat → Nat) (gv9 : Nat → Nat) (gv10 : Nat → Int) (gv11 : Nat → Int) (i13 : Int) (row18 : Nat) (j19 : Int) (gv20 : Nat → Int) : Option ρ :=
  (if (decide (j19 < (IntKind.i64.wrap ((table0 : Int) * (other1 : Int))))) = true then (if (other1 : Int) = 0 then none else (if (0 : Int) ≤ (IntKind.i64.wrap (Int.tdiv i13 (other1 : Int))) ∧ (IntKind.i64.wrap (Int.tdiv i13 (other1 : Int))) < (table0 : Int) then (if (other1 : Int) = 0 then none else (if (0 : Int) ≤ (IntKind.i64.wrap (Int.tdiv j19 (other1 : Int))) ∧ (IntKind.i64.wrap (Int.tdiv j19 (other1 : Int))) < (((gv5 (0 + (((IntKind.i64.wrap (Int.tdiv i13 (other1 : Int)))).toNat * 1))) : Nat) : Int) then (if (other1 : Int) = 0 then none else (if (0 : Int) ≤ (Int.tmod i13 (other1 : Int)) ∧ (Int.tmod i13 (other1 : Int)) < (other1 : Int) then (if (other1 : Int) = 0 then none else (if (0 : Int) ≤ (Int.tmod j19 (other1 : Int)) ∧ (Int.tmod j19 (other1 : Int)) < (((gv9 (0 + (((Int.tmod i13 (other1 : Int))).toNat * 1))) : Nat) : Int) then (if (row18 + 1) * 8 ≤ 140737488355328 then (rec (row18 + 1) ((IntKind.i64.wrap (j19 + 1))) (joinN (row18 * 1) gv20 (upd (fun _ => 0) 0 (IntKind.i64.wrap ((IntKind.i64.wrap ((other1 : Int) * (gv10 ((gv4 (0 + (((IntKind.i64.wrap (Int.tdiv i13 (other1 : Int)))).toNat * 1))) + (((IntKind.i64.wrap (Int.tdiv j19 (other1 : Int)))).toNat * 1))))) + (gv11 ((gv8 (0 + (((Int.tmod i13 (other1 : Int))).toNat * 1))) + (((Int.tmod j19 (other1 : Int))).toNat * 1)))))))) else none) else none)) else none)) else none)) else none)) else (out0 row18 gv20))
def Q17.a1_0 {ρ : Type} (N : Nat) (K0 : Nat → Nat → (Nat → Nat) → (Nat → Nat) → (Nat → Int) → Option ρ) (rec : Nat → Int → Nat → (Nat → Nat) → (Nat → Nat) → (Nat → Int) → Option ρ) (out0 : Nat → Nat → (Nat → Nat) → (Nat → Nat) → (Nat → Int) → Option ρ) (outv12 : Nat) (i13 : Int) (gv14 : Nat) (gv15 : Nat → Nat) (gv16 : Nat → Nat) (gv17 : Nat → Int) (ov21 : Nat) (ov22 : Nat → Int) : Option ρ :=
  (if (outv12 + 1) * 24 ≤ 140737488355328 then (rec (outv12 + 1) ((IntKind.i64.wrap (i13 + 1))) (gv14 + ov21) (upd gv15 outv12 gv14) (upd gv16 outv12 ov21) (joinN gv14 gv17 ov22)) else none)
def Q17.b0 {ρ : Type} (N : Nat) (K0 : Nat → Nat → (Nat → Nat) → (Nat → Nat) → (Nat → Int) → Option ρ) (lp1 : Nat → Int → (Nat → Int) → Option ρ) (rec : Nat → Int → Nat → (Nat → Nat) → (Nat → Nat) → (Nat → Int) → Option ρ) (out0 : Nat → Nat → (Nat → Nat) → (Nat → Nat) → (Nat → Int) → Option ρ) (table0 : Nat) (other1 : Nat) (outv12 : Nat) (i13 : Int) (gv14 : Nat) (gv15 : Nat → Nat) (gv16 : Nat → Nat) (gv17 : Nat → Int) : Option ρ :=
  (if (decide (i13 < (IntKind.i64.wrap ((table0 : Int) * (other1 : Int))))) = true then (lp1 0 0 (fun _ => 0)) else (out0 outv12 gv14 gv15 gv16 gv17))
def Q17.a0_0 {ρ : Type} (N : Nat) (K0 : Nat → Nat → (Nat → Nat) → (Nat → Nat) → (Nat → Int) → Option ρ) (ov23 : Nat) (ov24 : Nat) (ov25 : Nat → Nat) (ov26 : Nat → Nat) (ov27 : Nat → Int) : Option ρ :=
  (K0 ov23 ov24 ov25 ov26 ov27)
def Q17.l1 {ρ : Type} (N : Nat) (K0 : Nat → Nat → (Nat → Nat) → (Nat → Nat) → (Nat → Int) → Option ρ) (table0 : Nat) (other1 : Nat) (gv4 : Nat → Nat) (gv5 : Nat → Nat) (gv8 : Nat → Nat) (gv9 : Nat → Nat) (gv10 : Nat → Int) (gv11 : Nat → Int) (i13 : Int) (out0 : Nat → (Nat → Int) → Option ρ) : Nat → Nat → Int → (Nat → Int) → Option ρ
  | 0, _, _, _ => none
  | m + 1, row18, j19, gv20 => (Q17.b1 N K0 ((Q17.l1 N K0 table0 other1 gv4 gv5 gv8 gv9 gv10 gv11 i13 out0 m)) out0 table0 other1 gv4 gv5 gv8 gv9 gv10 gv11 i13 row18 j19 gv20)
def Q17.l0 {ρ : Type} (N : Nat) (K0 : Nat → Nat → (Nat → Nat) → (Nat → Nat) → (Nat → Int) → Option ρ) (table0 : Nat) (other1 : Nat) (gv4 : Nat → Nat) (gv5 : Nat → Nat) (gv8 : Nat → Nat) (gv9 : Nat → Nat) (gv10 : Nat → Int) (gv11 : Nat → Int) (out0 : Nat → Nat → (Nat → Nat) → (Nat → Nat) → (Nat → Int) → Option ρ) : Nat → Nat → Int → Nat → (Nat → Nat) → (Nat → Nat) → (Nat → Int) → Option ρ
  | 0, _, _, _, _, _, _ => none
  | m + 1, outv12, i13, gv14, gv15, gv16, gv17 => (Q17.b0 N K0 (fun row18 j19 gv20 => (Q17.l1 N K0 table0 other1 gv4 gv5 gv8 gv9 gv10 gv11 i13 (fun ov21 ov22 => (Q17.a1_0 N K0 (Q17.l0 N K0 table0 other1 gv4 gv5 gv8 gv9 gv10 gv11 out0 m) out0 outv12 i13 gv14 gv15 gv16 gv17 ov21 ov22)) N row18 j19 gv20)) ((Q17.l0 N K0 table0 other1 gv4 gv5 gv8 gv9 gv10 gv11 out0 m)) out0 table0 other1 outv12 i13 gv14 gv15 gv16 gv17)
def Q17.s {ρ : Type} (N : Nat) (K0 : Nat → Nat → (Nat → Nat) → (Nat → Nat) → (Nat → Int) → Option ρ) (lp0 : Nat → Int → Nat → (Nat → Nat) → (Nat → Nat) → (Nat → Int) → Option ρ) : Option ρ :=
  (lp0 0 0 0 (fun _ => 0) (fun _ => 0) (fun _ => 0))
def Q17 {ρ : Type} (N : Nat) (K0 : Nat → Nat → (Nat → Nat) → (Nat → Nat) → (Nat → Int) → Option ρ) (table0 : Nat) (other1 : Nat) (gv2 : Nat) (gv3 : Nat) (gv4 : Nat → Nat) (gv5 : Nat → Nat) (gv6 : Nat) (gv7 : Nat) (gv8 : Nat → Nat) (gv9 : Nat → Nat) (gv10 : Nat → Int) (gv11 : Nat → Int) : Option ρ :=
  (Q17.s N K0 (fun outv12 i13 gv14 gv15 gv16 gv17 => (Q17.l0 N K0 table0 other1 gv4 gv5 gv8 gv9 gv10 gv11 (fun ov23 ov24 ov25 ov26 ov27 => (Q17.a0_0 N K0 ov23 ov24 ov25 ov26 ov27)) N outv12 i13 gv14 gv15 gv16 gv17)))
def Q18.b1 {ρ : Type} (N : Nat) (K0 : Nat → Nat → (Nat → Nat) → (Nat → Nat) → (Nat → Int) → Option ρ) (rec : Nat → Int → (Nat → Int) → Option ρ) (out0 : Nat → (Nat → Int) → Option ρ) (nv0 : Int) (i2 : Int) (row7 : Nat) (j8 : Int) (gv9 : Nat → Int) : Option ρ :=
  (if (decide (j8 < (IntKind.i64.wrap (2 * nv0)))) = true then (if nv0 = 0 then none else (if (decide (i2 ≥ nv0)) = true then (if nv0 = 0 then none else (if nv0 = 0 then none else (if nv0 = 0 then none else (if (row7 + 1) * 8 ≤ 140737488355328 then (rec (row7 + 1) ((IntKind.i64.wrap (j8 + 1))) (joinN (row7 * 1) gv9 (upd (fun _ => 0) 0 (IntKind.i64.wrap ((Int.tmod (IntKind.i64.wrap (i2 + (IntKind.i64.wrap (nv0 - (Int.tmod j8 nv0))))) nv0) + (IntKind.i64.wrap (nv0 * (Int.tmod (IntKind.i64.wrap ((IntKind.i64.wrap (Int.tdiv i2 nv0)) + (IntKind.i64.wrap (Int.tdiv j8 nv0)))) 2)))))))) else none)))) else (if nv0 = 0 then none else (if nv0 = 0 then none else (if nv0 = 0 then none else (if (row7 + 1) * 8 ≤ 140737488355328 then (rec (row7 + 1) ((IntKind.i64.wrap (j8 + 1))) (joinN (row7 * 1) gv9 (upd (fun _ => 0) 0 (IntKind.i64.wrap ((Int.tmod (IntKind.i64.wrap (i2 + (Int.tmod j8 nv0))) nv0) + (IntKind.i64.wrap (nv0 * (Int.tmod (IntKind.i64.wrap ((IntKind.i64.wrap (Int.tdiv i2 nv0)) + (IntKind.i64.wrap (Int.tdiv j8 nv0)))) 2)))))))) else none)))))) else (out0 row7 gv9))
def Q18.a1_0 {ρ : Type} (N : Nat) (K0 : Nat → Nat → (Nat → Nat) → (Nat → Nat) → (Nat → Int) → Option ρ) (rec : Nat → Int → Nat → (Nat → Nat) → (Nat → Nat) → (Nat → Int) → Option ρ) (out0 : Nat → Nat → (Nat → Nat) → (Nat → Nat) → (Nat → Int) → Option ρ) (outv1 : Nat) (i2 : Int) (gv3 : Nat) (gv4 : Nat → Nat) (gv5 : Nat → Nat) (gv6 : Nat → Int) (ov10 : Nat) (ov11 : Nat → Int) : Option ρ :=
  (if (outv1 + 1) * 24 ≤ 140737488355328 then (rec (outv1 + 1) ((IntKind.i64.wrap (i2 + 1))) (gv3 + ov10) (upd gv4 outv1 gv3) (upd gv5 outv1 ov10) (joinN gv3 gv6 ov11)) else none)
def Q18.b0 {ρ : Type} (N : Nat) (K0 : Nat → Nat → (Nat → Nat) → (Nat → Nat) → (Nat → Int) → Option ρ) (lp1 : Nat → Int → (Nat → Int) → Option ρ) (rec : Nat → Int → Nat → (Nat → Nat) → (Nat → Nat) → (Nat → Int) → Option ρ) (out0 : Nat → Nat → (Nat → Nat) → (Nat → Nat) → (Nat → Int) → Option ρ) (nv0 : Int) (outv1 : Nat) (i2 : Int) (gv3 : Nat) (gv4 : Nat → Nat) (gv5 : Nat → Nat) (gv6 : Nat → Int) : Option ρ :=
  (if (decide (i2 < (IntKind.i64.wrap (2 * nv0)))) = true then (lp1 0 0 (fun _ => 0)) else (out0 outv1 gv3 gv4 gv5 gv6))
def Q18.a0_0 {ρ : Type} (N : Nat) (K0 : Nat → Nat → (Nat → Nat) → (Nat → Nat) → (Nat → Int) → Option ρ) (ov12 : Nat) (ov13 : Nat) (ov14 : Nat → Nat) (ov15 : Nat → Nat) (ov16 : Nat → Int) : Option ρ :=
  (K0 ov12 ov13 ov14 ov15 ov16)
def Q18.l1 {ρ : Type} (N : Nat) (K0 : Nat → Nat → (Nat → Nat) → (Nat → Nat) → (Nat → Int) → Option ρ) (nv0 : Int) (i2 : Int) (out0 : Nat → (Nat → Int) → Option ρ) : Nat → Nat → Int → (Nat → Int) → Option ρ
  | 0, _, _, _ => none
  | m + 1, row7, j8, gv9 => (Q18.b1 N K0 ((Q18.l1 N K0 nv0 i2 out0 m)) out0 nv0 i2 row7 j8 gv9)
def Q18.l0 {ρ : Type} (N : Nat) (K0 : Nat → Nat → (Nat → Nat) → (Nat → Nat) → (Nat → Int) → Option ρ) (nv0 : Int) (out0 : Nat → Nat → (Nat → Nat) → (Nat → Nat) → (Nat → Int) → Option ρ) : Nat → Nat → Int → Nat → (Nat → Nat) → (Nat → Nat) → (Nat → Int) → Option ρ
  | 0, _, _, _, _, _, _ => none
  | m + 1, outv1, i2, gv3, gv4, gv5, gv6 => (Q18.b0 N K0 (fun row7 j8 gv9 => (Q18.l1 N K0 nv0 i2 (fun ov10 ov11 => (Q18.a1_0 N K0 (Q18.l0 N K0 nv0 out0 m) out0 outv1 i2 gv3 gv4 gv5 gv6 ov10 ov11)) N row7 j8 gv9)) ((Q18.l0 N K0 nv0 out0 m)) out0 nv0 outv1 i2 gv3 gv4 gv5 gv6)
def Q18.s {ρ : Type} (N : Nat) (K0 : Nat → Nat → (Nat → Nat) → (Nat → Nat) → (Nat → Int) → Option ρ) (lp0 : Nat → Int → Nat → (Nat → Nat) → (Nat → Nat) → (Nat → Int) → Option ρ) : Option ρ :=
  (lp0 0 0 0 (fun _ => 0) (fun _ => 0) (fun _ => 0))
def Q18 {ρ : Type} (N : Nat) (K0 : Nat → Nat → (Nat → Nat) → (Nat → Nat) → (Nat → Int) → Option ρ) (nv0 : Int) : Option ρ :=
  (Q18.s N K0 (fun outv1 i2 gv3 gv4 gv5 gv6 => (Q18.l0 N K0 nv0 (fun ov12 ov13 ov14 ov15 ov16 => (Q18.a0_0 N K0 ov12 ov13 ov14 ov15 ov16)) N outv1 i2 gv3 gv4 gv5 gv6)))
def Q19.b1 {ρ : Type} (N : Nat) (K0 : Nat → Nat → (Nat → Nat) → (Nat → Nat) → (Nat → Int) → Option ρ) (rec : Nat → Int → (Nat → Int) → Option ρ) (out0 : Nat → (Nat → Int) → Option ρ) (i1 : Int) (row6 : Nat) (j7 : Int) (gv8 : Nat → Int) : Option ρ :=
  (if (decide (j7 < 8)) = true then (if (decide ((Int.tmod i1 4) > 0)) = true then (if ((Int.tmod i1 4) == (Int.tmod j7 4)) = true then (if (row6 + 1) * 8 ≤ 140737488355328 then (rec (row6 + 1) ((IntKind.i64.wrap (j7 + 1))) (joinN (row6 * 1) gv8 (upd (fun _ => 0) 0 (IntKind.i64.wrap ((IntKind.i64.wrap (((BitVec.ofInt (IntKind.i64).bits (Int.tmod i1 4) ^^^ BitVec.ofInt (IntKind.i64).bits (Int.tmod j7 4))).toNat : Int)) + (IntKind.i64.wrap (4 * (Int.tmod (IntKind.i64.wrap ((IntKind.i64.wrap ((IntKind.i64.wrap (Int.tdiv i1 4)) + (IntKind.i64.wrap (Int.tdiv j7 4)))) + 1)) 2)))))))) else none) else (if (decide ((Int.tmod i1 4) > 0)) = true then (if (decide ((Int.tmod j7 4) > 0)) = true then (if ((Int.tmod (IntKind.i64.wrap ((IntKind.i64.wrap ((Int.tmod j7 4) - (Int.tmod i1 4))) + 3)) 3) == 2) = true then (if (row6 + 1) * 8 ≤ 140737488355328 then (rec (row6 + 1) ((IntKind.i64.wrap (j7 + 1))) (joinN (row6 * 1) gv8 (upd (fun _ => 0) 0 (IntKind.i64.wrap ((IntKind.i64.wrap (((BitVec.ofInt (IntKind.i64).bits (Int.tmod i1 4) ^^^ BitVec.ofInt (IntKind.i64).bits (Int.tmod j7 4))).toNat : Int)) + (IntKind.i64.wrap (4 * (Int.tmod (IntKind.i64.wrap ((IntKind.i64.wrap ((IntKind.i64.wrap (Int.tdiv i1 4)) + (IntKind.i64.wrap (Int.tdiv j7 4)))) + 1)) 2)))))))) else none) else (if (row6 + 1) * 8 ≤ 140737488355328 then (rec (row6 + 1) ((IntKind.i64.wrap (j7 + 1))) (joinN (row6 * 1) gv8 (upd (fun _ => 0) 0 (IntKind.i64.wrap ((IntKind.i64.wrap (((BitVec.ofInt (IntKind.i64).bits (Int.tmod i1 4) ^^^ BitVec.ofInt (IntKind.i64).bits (Int.tmod j7 4))).toNat : Int)) + (IntKind.i64.wrap (4 * (Int.tmod (IntKind.i64.wrap ((IntKind.i64.wrap (Int.tdiv i1 4)) + (IntKind.i64.wrap (Int.tdiv j7 4)))) 2)))))))) else none)) else (if (row6 + 1) * 8 ≤ 140737488355328 then (rec (row6 + 1) ((IntKind.i64.wrap (j7 + 1))) (joinN (row6 * 1) gv8 (upd (fun _ => 0) 0 (IntKind.i64.wrap ((IntKind.i64.wrap (((BitVec.ofInt (IntKind.i64).bits (Int.tmod i1 4) ^^^ BitVec.ofInt (IntKind.i64).bits (Int.tmod j7 4))).toNat : Int)) + (IntKind.i64.wrap (4 * (Int.tmod (IntKind.i64.wrap ((IntKind.i64.wrap (Int.tdiv i1 4)) + (IntKind.i64.wrap (Int.tdiv j7 4)))) 2)))))))) else none)) else (if (row6 + 1) * 8 ≤ 140737488355328 then (rec (row6 + 1) ((IntKind.i64.wrap (j7 + 1))) (joinN (row6 * 1) gv8 (upd (fun _ => 0) 0 (IntKind.i64.wrap ((IntKind.i64.wrap (((BitVec.ofInt (IntKind.i64).bits (Int.tmod i1 4) ^^^ BitVec.ofInt (IntKind.i64).bits (Int.tmod j7 4))).toNat : Int)) + (IntKind.i64.wrap (4 * (Int.tmod (IntKind.i64.wrap ((IntKind.i64.wrap (Int.tdiv i1 4)) + (IntKind.i64.wrap (Int.tdiv j7 4)))) 2)))))))) else none))) else (if (decide ((Int.tmod i1 4) > 0)) = true then (if (decide ((Int.tmod j7 4) > 0)) = true then (if ((Int.tmod (IntKind.i64.wrap ((IntKind.i64.wrap ((Int.tmod j7 4) - (Int.tmod i1 4))) + 3)) 3) == 2) = true then (if (row6 + 1) * 8 ≤ 140737488355328 then (rec (row6 + 1) ((IntKind.i64.wrap (j7 + 1))) (joinN (row6 * 1) gv8 (upd (fun _ => 0) 0 (IntKind.i64.wrap ((IntKind.i64.wrap (((BitVec.ofInt (IntKind.i64).bits (Int.tmod i1 4) ^^^ BitVec.ofInt (IntKind.i64).bits (Int.tmod j7 4))).toNat : Int)) + (IntKind.i64.wrap (4 * (Int.tmod (IntKind.i64.wrap ((IntKind.i64.wrap ((IntKind.i64.wrap (Int.tdiv i1 4)) + (IntKind.i64.wrap (Int.tdiv j7 4)))) + 1)) 2)))))))) else none) else (if (row6 + 1) * 8 ≤ 140737488355328 then (rec (row6 + 1) ((IntKind.i64.wrap (j7 + 1))) (joinN (row6 * 1) gv8 (upd (fun _ => 0) 0 (IntKind.i64.wrap ((IntKind.i64.wrap (((BitVec.ofInt (IntKind.i64).bits (Int.tmod i1 4) ^^^ BitVec.ofInt (IntKind.i64).bits (Int.tmod j7 4))).toNat : Int)) + (IntKind.i64.wrap (4 * (Int.tmod (IntKind.i64.wrap ((IntKind.i64.wrap (Int.tdiv i1 4)) + (IntKind.i64.wrap (Int.tdiv j7 4)))) 2)))))))) else none)) else (if (row6 + 1) * 8 ≤ 140737488355328 then (rec (row6 + 1) ((IntKind.i64.wrap (j7 + 1))) (joinN (row6 * 1) gv8 (upd (fun _ => 0) 0 (IntKind.i64.wrap ((IntKind.i64.wrap (((BitVec.ofInt (IntKind.i64).bits (Int.tmod i1 4) ^^^ BitVec.ofInt (IntKind.i64).bits (Int.tmod j7 4))).toNat : Int)) + (IntKind.i64.wrap (4 * (Int.tmod (IntKind.i64.wrap ((IntKind.i64.wrap (Int.tdiv i1 4)) + (IntKind.i64.wrap (Int.tdiv j7 4)))) 2)))))))) else none)) else (if (row6 + 1) * 8 ≤ 140737488355328 then (rec (row6 + 1) ((IntKind.i64.wrap (j7 + 1))) (joinN (row6 * 1) gv8 (upd (fun _ => 0) 0 (IntKind.i64.wrap ((IntKind.i64.wrap (((BitVec.ofInt (IntKind.i64).bits (Int.tmod i1 4) ^^^ BitVec.ofInt (IntKind.i64).bits (Int.tmod j7 4))).toNat : Int)) + (IntKind.i64.wrap (4 * (Int.tmod (IntKind.i64.wrap ((IntKind.i64.wrap (Int.tdiv i1 4)) + (IntKind.i64.wrap (Int.tdiv j7 4)))) 2)))))))) else none))) else (out0 row6 gv8))
def Q19.a1_0 {ρ : Type} (N : Nat) (K0 : Nat → Nat → (Nat → Nat) → (Nat → Nat) → (Nat → Int) → Option ρ) (rec : Nat → Int → Nat → (Nat → Nat) → (Nat → Nat) → (Nat → Int) → Option ρ) (out0 : Nat → Nat → (Nat → Nat) → (Nat → Nat) → (Nat → Int) → Option ρ) (outv0 : Nat) (i1 : Int) (gv2 : Nat) (gv3 : Nat → Nat) (gv4 : Nat → Nat) (gv5 : Nat → Int) (ov9 : Nat) (ov10 : Nat → Int) : Option ρ :=
  (if (outv0 + 1) * 24 ≤ 140737488355328 then (rec (outv0 + 1) ((IntKind.i64.wrap (i1 + 1))) (gv2 + ov9) (upd gv3 outv0 gv2) (upd gv4 outv0 ov9) (joinN gv2 gv5 ov10)) else none)
def Q19.b0 {ρ : Type} (N : Nat) (K0 : Nat → Nat → (Nat → Nat) → (Nat → Nat) → (Nat → Int) → Option ρ) (lp1 : Nat → Int → (Nat → Int) → Option ρ) (rec : Nat → Int → Nat → (Nat → Nat) → (Nat → Nat) → (Nat → Int) → Option ρ) (out0 : Nat → Nat → (Nat → Nat) → (Nat → Nat) → (Nat → Int) → Option ρ) (outv0 : Nat) (i1 : Int) (gv2 : Nat) (gv3 : Nat → Nat) (gv4 : Nat → Nat) (gv5 : Nat → Int) : Option ρ :=
  (if (decide (i1 < 8)) = true then (lp1 0 0 (fun _ => 0)) else (out0 outv0 gv2 gv3 gv4 gv5))
def Q19.a0_0 {ρ : Type} (N : Nat) (K0 : Nat → Nat → (Nat → Nat) → (Nat → Nat) → (Nat → Int) → Option ρ) (ov11 : Nat) (ov12 : Nat) (ov13 : Nat → Nat) (ov14 : Nat → Nat) (ov15 : Nat → Int) : Option ρ :=
  (K0 ov11 ov12 ov13 ov14 ov15)
def Q19.l1 {ρ : Type} (N : Nat) (K0 : Nat → Nat → (Nat → Nat) → (Nat → Nat) → (Nat → Int) → Option ρ) (i1 : Int) (out0 : Nat → (Nat → Int) → Option ρ) : Nat → Nat → Int → (Nat → Int) → Option ρ
  | 0, _, _, _ => none
  | m + 1, row6, j7, gv8 => (Q19.b1 N K0 ((Q19.l1 N K0 i1 out0 m)) out0 i1 row6 j7 gv8)
def Q19.l0 {ρ : Type} (N : Nat) (K0 : Nat → Nat → (Nat → Nat) → (Nat → Nat) → (Nat → Int) → Option ρ) (out0 : Nat → Nat → (Nat → Nat) → (Nat → Nat) → (Nat → Int) → Option ρ) : Nat → Nat → Int → Nat → (Nat → Nat) → (Nat → Nat) → (Nat → Int) → Option ρ
  | 0, _, _, _, _, _, _ => none
  | m + 1, outv0, i1, gv2, gv3, gv4, gv5 => (Q19.b0 N K0 (fun row6 j7 gv8 => (Q19.l1 N K0 i1 (fun ov9 ov10 => (Q19.a1_0 N K0 (Q19.l0 N K0 out0 m) out0 outv0 i1 gv2 gv3 gv4 gv5 ov9 ov10)) N row6 j7 gv8)) ((Q19.l0 N K0 out0 m)) out0 outv0 i1 gv2 gv3 gv4 gv5)
def Q19.s {ρ : Type} (N : Nat) (K0 : Nat → Nat → (Nat → Nat) → (Nat → Nat) → (Nat → Int) → Option ρ) (lp0 : Nat → Int → Nat → (Nat → Nat) → (Nat → Nat) → (Nat → Int) → Option ρ) : Option ρ :=
  (lp0 0 0 0 (fun _ => 0) (fun _ => 0) (fun _ => 0))
def Q19 {ρ : Type} (N : Nat) (K0 : Nat → Nat → (Nat → Nat) → (Nat → Nat) → (Nat → Int) → Option ρ) : Option ρ :=
  (Q19.s N K0 (fun outv0 i1 gv2 gv3 gv4 gv5 => (Q19.l0 N K0 (fun ov11 ov12 ov13 ov14 ov15 => (Q19.a0_0 N K0 ov11 ov12 ov13 ov14 ov15)) N outv0 i1 gv2 gv3 gv4 gv5)))
def Q20 {ρ : Type} (N : Nat) (K0 : Nat → Bool → Nat → (Nat → Nat) → (Nat → Nat) → (Nat → Int) → Option ρ) (name0 : ByteArray) : Option ρ :=
  (if (strEq name0 (ByteArray.mk #[107, 108, 101, 105, 110])) = true then (Q16 N (fun rv1 rv2 rv3 rv4 rv5 => (Q16 N (fun rv6 rv7 rv8 rv9 rv10 => (Q17 N (fun rv11 rv12 rv13 rv14 rv15 => (K0 rv11 true rv12 rv13 rv14 rv15)) rv1 rv6 (rv1 * 1) rv2 (offN 0 rv3) (offN 0 rv4) (rv6 * 1) rv7 (offN 0 rv8) (offN 0 rv9) rv5 rv10)) 2)) 2) else (if (strEq name0 (ByteArray.mk #[100, 105, 104, 101, 100, 114, 97, 108, 51])) = true then (Q18 N (fun rv16 rv17 rv18 rv19 rv20 => (K0 rv16 true rv17 rv18 rv19 rv20)) 3) else (if (strEq name0 (ByteArray.mk #[100, 105, 104, 101, 100, 114, 97, 108, 52])) = true then (Q18 N (fun rv21 rv22 rv23 rv24 rv25 => (K0 rv21 true rv22 rv23 rv24 rv25)) 4) else (if (strEq name0 (ByteArray.mk #[113, 117, 97, 116, 101, 114, 110, 105, 111, 110])) = true then (Q19 N (fun rv26 rv27 rv28 rv29 rv30 => (K0 rv26 true rv27 rv28 rv29 rv30))) else (if ((name0.size : Int) == 7) = true then (if (0 : Int) ≤ (0 : Int) ∧ (0 : Int) ≤ (6 : Int) ∧ (6 : Int) ≤ (name0.size : Int) then (if (strEq (name0.extract 0 6) (ByteArray.mk #[99, 121, 99, 108, 105, 99])) = true then (if (0 : Int) ≤ 6 ∧ 6 < (name0.size : Int) then (if (decide ((bt name0 6) ≥ 49)) = true then (if (0 : Int) ≤ 6 ∧ 6 < (name0.size : Int) then (if (decide ((bt name0 6) ≤ 56)) = true then (if (0 : Int) ≤ 6 ∧ 6 < (name0.size : Int) then (Q16 N (fun rv31 rv32 rv33 rv34 rv35 => (K0 rv31 true rv32 rv33 rv34 rv35)) ((IntKind.i64.wrap (IntKind.u8.wrap ((bt name0 6) - 48))))) else none) else (K0 0 false 0 (fun _ => 0) (fun _ => 0) (fun _ => 0))) else none) else (K0 0 false 0 (fun _ => 0) (fun _ => 0) (fun _ => 0))) else none) else (K0 0 false 0 (fun _ => 0) (fun _ => 0) (fun _ => 0))) else none) else (K0 0 false 0 (fun _ => 0) (fun _ => 0) (fun _ => 0)))))))
def Q21.b1 {ρ : Type} (N : Nat) (K0 : Bool → Option ρ) (rec : Int → Option ρ) (out0 : Option ρ) (table0 : Nat) (gv3 : Nat → Nat) (gv4 : Nat → Nat) (gv5 : Nat → Int) (i7 : Int) (j8 : Int) : Option ρ :=
  (if (decide (j8 < (table0 : Int))) = true then (if (0 : Int) ≤ i7 ∧ i7 < (table0 : Int) then (if (0 : Int) ≤ j8 ∧ j8 < (((gv4 (0 + (i7.toNat * 1))) : Nat) : Int) then (Q0 N (fun rv9 => (if (!rv9) = true then (K0 false) else (rec ((IntKind.i64.wrap (j8 + 1)))))) ((gv5 ((gv3 (0 + (i7.toNat * 1))) + (j8.toNat * 1)))) 0 ((IntKind.i64.wrap ((table0 : Int) - 1)))) else none) else none) else out0)
def Q21.a1_0 {ρ : Type} (N : Nat) (K0 : Bool → Option ρ) (rec : Int → Option ρ) (out0 : Option ρ) (i7 : Int) : Option ρ :=
  (rec ((IntKind.i64.wrap (i7 + 1))))
def Q21.b4 {ρ : Type} (N : Nat) (K0 : Bool → Option ρ) (rec : Int → Option ρ) (out0 : Option ρ) (table0 : Nat) (gv3 : Nat → Nat) (gv4 : Nat → Nat) (gv5 : Nat → Int) (i10 : Int) (j12 : Int) (k13 : Int) : Option ρ :=
  (if (decide (k13 < (table0 : Int))) = true then (if (0 : Int) ≤ i10 ∧ i10 < (table0 : Int) then (if (0 : Int) ≤ j12 ∧ j12 < (((gv4 (0 + (i10.toNat * 1))) : Nat) : Int) then (if (0 : Int) ≤ (gv5 ((gv3 (0 + (i10.toNat * 1))) + (j12.toNat * 1))) ∧ (gv5 ((gv3 (0 + (i10.toNat * 1))) + (j12.toNat * 1))) < (table0 : Int) then (if (0 : Int) ≤ k13 ∧ k13 < (((gv4 (0 + (((gv5 ((gv3 (0 + (i10.toNat * 1))) + (j12.toNat * 1)))).toNat * 1))) : Nat) : Int) then (if (0 : Int) ≤ i10 ∧ i10 < (table0 : Int) then (if (0 : Int) ≤ j12 ∧ j12 < (table0 : Int) then (if (0 : Int) ≤ k13 ∧ k13 < (((gv4 (0 + (j12.toNat * 1))) : Nat) : Int) then (if (0 : Int) ≤ (gv5 ((gv3 (0 + (j12.toNat * 1))) + (k13.toNat * 1))) ∧ (gv5 ((gv3 (0 + (j12.toNat * 1))) + (k13.toNat * 1))) < (((gv4 (0 + (i10.toNat * 1))) : Nat) : Int) then (if ((gv5 ((gv3 (0 + (((gv5 ((gv3 (0 + (i10.toNat * 1))) + (j12.toNat * 1)))).toNat * 1))) + (k13.toNat * 1))) != (gv5 ((gv3 (0 + (i10.toNat * 1))) + (((gv5 ((gv3 (0 + (j12.toNat * 1))) + (k13.toNat * 1)))).toNat * 1)))) = true then (K0 false) else (rec ((IntKind.i64.wrap (k13 + 1))))) else none) else none) else none) else none) else none) else none) else none) else none) else out0)
def Q21.a4_0 {ρ : Type} (N : Nat) (K0 : Bool → Option ρ) (rec : Bool → Int → Option ρ) (out0 : Bool → Option ρ) (j12 : Int) : Option ρ :=
  (rec true ((IntKind.i64.wrap (j12 + 1))))
def Q21.b5 {ρ : Type} (N : Nat) (K0 : Bool → Option ρ) (rec : Int → Option ρ) (out0 : Option ρ) (table0 : Nat) (gv3 : Nat → Nat) (gv4 : Nat → Nat) (gv5 : Nat → Int) (i10 : Int) (j12 : Int) (k14 : Int) : Option ρ :=
  (if (decide (k14 < (table0 : Int))) = true then (if (0 : Int) ≤ i10 ∧ i10 < (table0 : Int) then (if (0 : Int) ≤ j12 ∧ j12 < (((gv4 (0 + (i10.toNat * 1))) : Nat) : Int) then (if (0 : Int) ≤ (gv5 ((gv3 (0 + (i10.toNat * 1))) + (j12.toNat * 1))) ∧ (gv5 ((gv3 (0 + (i10.toNat * 1))) + (j12.toNat * 1))) < (table0 : Int) then (if (0 : Int) ≤ k14 ∧ k14 < (((gv4 (0 + (((gv5 ((gv3 (0 + (i10.toNat * 1))) + (j12.toNat * 1)))).toNat * 1))) : Nat) : Int) then (if (0 : Int) ≤ i10 ∧ i10 < (table0 : Int) then (if (0 : Int) ≤ j12 ∧ j12 < (table0 : Int) then (if (0 : Int) ≤ k14 ∧ k14 < (((gv4 (0 + (j12.toNat * 1))) : Nat) : Int) then (if (0 : Int) ≤ (gv5 ((gv3 (0 + (j12.toNat * 1))) + (k14.toNat * 1))) ∧ (gv5 ((gv3 (0 + (j12.toNat * 1))) + (k14.toNat * 1))) < (((gv4 (0 + (i10.toNat * 1))) : Nat) : Int) then (if ((gv5 ((gv3 (0 + (((gv5 ((gv3 (0 + (i10.toNat * 1))) + (j12.toNat * 1)))).toNat * 1))) + (k14.toNat * 1))) != (gv5 ((gv3 (0 + (i10.toNat * 1))) + (((gv5 ((gv3 (0 + (j12.toNat * 1))) + (k14.toNat * 1)))).toNat * 1)))) = true then (K0 false) else (rec ((IntKind.i64.wrap (k14 + 1))))) else none) else none) else none) else none) else none) else none) else none) else none) else out0)
def Q21.a5_0 {ρ : Type} (N : Nat) (K0 : Bool → Option ρ) (rec : Bool → Int → Option ρ) (out0 : Bool → Option ρ) (gv3 : Nat → Nat) (gv5 : Nat → Int) (i10 : Int) (j12 : Int) : Option ρ :=
  (rec (((gv5 ((gv3 (0 + (j12.toNat * 1))) + (i10.toNat * 1))) == 0)) ((IntKind.i64.wrap (j12 + 1))))
def Q21.b6 {ρ : Type} (N : Nat) (K0 : Bool → Option ρ) (rec : Int → Option ρ) (out0 : Option ρ) (table0 : Nat) (gv3 : Nat → Nat) (gv4 : Nat → Nat) (gv5 : Nat → Int) (i10 : Int) (j12 : Int) (k15 : Int) : Option ρ :=
  (if (decide (k15 < (table0 : Int))) = true then (if (0 : Int) ≤ i10 ∧ i10 < (table0 : Int) then (if (0 : Int) ≤ j12 ∧ j12 < (((gv4 (0 + (i10.toNat * 1))) : Nat) : Int) then (if (0 : Int) ≤ (gv5 ((gv3 (0 + (i10.toNat * 1))) + (j12.toNat * 1))) ∧ (gv5 ((gv3 (0 + (i10.toNat * 1))) + (j12.toNat * 1))) < (table0 : Int) then (if (0 : Int) ≤ k15 ∧ k15 < (((gv4 (0 + (((gv5 ((gv3 (0 + (i10.toNat * 1))) + (j12.toNat * 1)))).toNat * 1))) : Nat) : Int) then (if (0 : Int) ≤ i10 ∧ i10 < (table0 : Int) then (if (0 : Int) ≤ j12 ∧ j12 < (table0 : Int) then (if (0 : Int) ≤ k15 ∧ k15 < (((gv4 (0 + (j12.toNat * 1))) : Nat) : Int) then (if (0 : Int) ≤ (gv5 ((gv3 (0 + (j12.toNat * 1))) + (k15.toNat * 1))) ∧ (gv5 ((gv3 (0 + (j12.toNat * 1))) + (k15.toNat * 1))) < (((gv4 (0 + (i10.toNat * 1))) : Nat) : Int) then (if ((gv5 ((gv3 (0 + (((gv5 ((gv3 (0 + (i10.toNat * 1))) + (j12.toNat * 1)))).toNat * 1))) + (k15.toNat * 1))) != (gv5 ((gv3 (0 + (i10.toNat * 1))) + (((gv5 ((gv3 (0 + (j12.toNat * 1))) + (k15.toNat * 1)))).toNat * 1)))) = true then (K0 false) else (rec ((IntKind.i64.wrap (k15 + 1))))) else none) else none) else none) else none) else none) else none) else none) else none) else out0)
def Q21.a6_0 {ρ : Type} (N : Nat) (K0 : Bool → Option ρ) (rec : Bool → Int → Option ρ) (out0 : Bool → Option ρ) (j12 : Int) : Option ρ :=
  (rec false ((IntKind.i64.wrap (j12 + 1))))
def Q21.b3 {ρ : Type} (N : Nat) (K0 : Bool → Option ρ) (lp4 : Int → Option ρ) (lp5 : Int → Option ρ) (lp6 : Int → Option ρ) (rec : Bool → Int → Option ρ) (out0 : Bool → Option ρ) (table0 : Nat) (gv3 : Nat → Nat) (gv4 : Nat → Nat) (gv5 : Nat → Int) (i10 : Int) (inverse11 : Bool) (j12 : Int) : Option ρ :=
  (if (decide (j12 < (table0 : Int))) = true then (if inverse11 = true then (lp4 0) else (if (0 : Int) ≤ i10 ∧ i10 < (table0 : Int) then (if (0 : Int) ≤ j12 ∧ j12 < (((gv4 (0 + (i10.toNat * 1))) : Nat) : Int) then (if ((gv5 ((gv3 (0 + (i10.toNat * 1))) + (j12.toNat * 1))) == 0) = true then (if (0 : Int) ≤ j12 ∧ j12 < (table0 : Int) then (if (0 : Int) ≤ i10 ∧ i10 < (((gv4 (0 + (j12.toNat * 1))) : Nat) : Int) then (lp5 0) else none) else none) else (lp6 0)) else none) else none)) else (out0 (inverse11)))
def Q21.a3_0 {ρ : Type} (N : Nat) (K0 : Bool → Option ρ) (rec : Int → Option ρ) (out0 : Option ρ) (table0 : Nat) (gv3 : Nat → Nat) (gv4 : Nat → Nat) (gv5 : Nat → Int) (i10 : Int) (ov16 : Bool) : Option ρ :=
  (if (!ov16) = true then (K0 false) else (if (0 : Int) ≤ 0 ∧ 0 < (table0 : Int) then (if (0 : Int) ≤ i10 ∧ i10 < (((gv4 0) : Nat) : Int) then (if ((gv5 ((gv3 0) + (i10.toNat * 1))) != i10) = true then (K0 false) else (if (0 : Int) ≤ i10 ∧ i10 < (table0 : Int) then (if (0 : Int) ≤ 0 ∧ 0 < (((gv4 (0 + (i10.toNat * 1))) : Nat) : Int) then (if ((gv5 ((gv3 (0 + (i10.toNat * 1))) + 0)) != i10) = true then (K0 false) else (rec ((IntKind.i64.wrap (i10 + 1))))) else none) else none)) else none) else none))
def Q21.b2 {ρ : Type} (N : Nat) (K0 : Bool → Option ρ) (lp3 : Bool → Int → Option ρ) (rec : Int → Option ρ) (out0 : Option ρ) (table0 : Nat) (i10 : Int) : Option ρ :=
  (if (decide (i10 < (table0 : Int))) = true then (lp3 false 0) else out0)
def Q21.a2_0 {ρ : Type} (N : Nat) (K0 : Bool → Option ρ) : Option ρ :=
  (K0 true)
def Q21.b0 {ρ : Type} (N : Nat) (K0 : Bool → Option ρ) (lp1 : Int → Option ρ) (rec : Int → Option ρ) (out0 : Option ρ) (table0 : Nat) (gv4 : Nat → Nat) (i7 : Int) : Option ρ :=
  (if (decide (i7 < (table0 : Int))) = true then (if (0 : Int) ≤ i7 ∧ i7 < (table0 : Int) then (if ((((gv4 (0 + (i7.toNat * 1))) : Nat) : Int) != (table0 : Int)) = true then (K0 false) else (lp1 0)) else none) else out0)
def Q21.a0_0 {ρ : Type} (N : Nat) (K0 : Bool → Option ρ) (lp2 : Int → Option ρ) : Option ρ :=
  (lp2 0)
def Q21.l1 {ρ : Type} (N : Nat) (K0 : Bool → Option ρ) (table0 : Nat) (gv3 : Nat → Nat) (gv4 : Nat → Nat) (gv5 : Nat → Int) (i7 : Int) (out0 : Option ρ) : Nat → Int → Option ρ
  | 0, _ => none
  | m + 1, j8 => (Q21.b1 N K0 ((Q21.l1 N K0 table0 gv3 gv4 gv5 i7 out0 m)) out0 table0 gv3 gv4 gv5 i7 j8)
def Q21.l4 {ρ : Type} (N : Nat) (K0 : Bool → Option ρ) (table0 : Nat) (gv3 : Nat → Nat) (gv4 : Nat → Nat) (gv5 : Nat → Int) (i10 : Int) (j12 : Int) (out0 : Option ρ) : Nat → Int → Option ρ
  | 0, _ => none
  | m + 1, k13 => (Q21.b4 N K0 ((Q21.l4 N K0 table0 gv3 gv4 gv5 i10 j12 out0 m)) out0 table0 gv3 gv4 gv5 i10 j12 k13)
def Q21.l5 {ρ : Type} (N : Nat) (K0 : Bool → Option ρ) (table0 : Nat) (gv3 : Nat → Nat) (gv4 : Nat → Nat) (gv5 : Nat → Int) (i10 : Int) (j12 : Int) (out0 : Option ρ) : Nat → Int → Option ρ
  | 0, _ => none
  | m + 1, k14 => (Q21.b5 N K0 ((Q21.l5 N K0 table0 gv3 gv4 gv5 i10 j12 out0 m)) out0 table0 gv3 gv4 gv5 i10 j12 k14)
def Q21.l6 {ρ : Type} (N : Nat) (K0 : Bool → Option ρ) (table0 : Nat) (gv3 : Nat → Nat) (gv4 : Nat → Nat) (gv5 : Nat → Int) (i10 : Int) (j12 : Int) (out0 : Option ρ) : Nat → Int → Option ρ
  | 0, _ => none
  | m + 1, k15 => (Q21.b6 N K0 ((Q21.l6 N K0 table0 gv3 gv4 gv5 i10 j12 out0 m)) out0 table0 gv3 gv4 gv5 i10 j12 k15)
def Q21.l3 {ρ : Type} (N : Nat) (K0 : Bool → Option ρ) (table0 : Nat) (gv3 : Nat → Nat) (gv4 : Nat → Nat) (gv5 : Nat → Int) (i10 : Int) (out0 : Bool → Option ρ) : Nat → Bool → Int → Option ρ
  | 0, _, _ => none
  | m + 1, inverse11, j12 => (Q21.b3 N K0 (fun k13 => (Q21.l4 N K0 table0 gv3 gv4 gv5 i10 j12 (Q21.a4_0 N K0 (Q21.l3 N K0 table0 gv3 gv4 gv5 i10 out0 m) out0 j12) N k13)) (fun k14 => (Q21.l5 N K0 table0 gv3 gv4 gv5 i10 j12 (Q21.a5_0 N K0 (Q21.l3 N K0 table0 gv3 gv4 gv5 i10 out0 m) out0 gv3 gv5 i10 j12) N k14)) (fun k15 => (Q21.l6 N K0 table0 gv3 gv4 gv5 i10 j12 (Q21.a6_0 N K0 (Q21.l3 N K0 table0 gv3 gv4 gv5 i10 out0 m) out0 j12) N k15)) ((Q21.l3 N K0 table0 gv3 gv4 gv5 i10 out0 m)) out0 table0 gv3 gv4 gv5 i10 inverse11 j12)
def Q21.l2 {ρ : Type} (N : Nat) (K0 : Bool → Option ρ) (table0 : Nat) (gv3 : Nat → Nat) (gv4 : Nat → Nat) (gv5 : Nat → Int) (out0 : Option ρ) : Nat → Int → Option ρ
  | 0, _ => none
  | m + 1, i10 => (Q21.b2 N K0 (fun inverse11 j12 => (Q21.l3 N K0 table0 gv3 gv4 gv5 i10 (fun ov16 => (Q21.a3_0 N K0 (Q21.l2 N K0 table0 gv3 gv4 gv5 out0 m) out0 table0 gv3 gv4 gv5 i10 ov16)) N inverse11 j12)) ((Q21.l2 N K0 table0 gv3 gv4 gv5 out0 m)) out0 table0 i10)
def Q21.l0 {ρ : Type} (N : Nat) (K0 : Bool → Option ρ) (table0 : Nat) (gv3 : Nat → Nat) (gv4 : Nat → Nat) (gv5 : Nat → Int) (out0 : Option ρ) : Nat → Int → Option ρ
  | 0, _ => none
  | m + 1, i7 => (Q21.b0 N K0 (fun j8 => (Q21.l1 N K0 table0 gv3 gv4 gv5 i7 (Q21.a1_0 N K0 (Q21.l0 N K0 table0 gv3 gv4 gv5 out0 m) out0 i7) N j8)) ((Q21.l0 N K0 table0 gv3 gv4 gv5 out0 m)) out0 table0 gv4 i7)
def Q21.s {ρ : Type} (N : Nat) (K0 : Bool → Option ρ) (lp0 : Int → Option ρ) (table0 : Nat) : Option ρ :=
  (Q0 N (fun rv6 => (if (!rv6) = true then (K0 false) else (lp0 0))) ((table0 : Int)) 1 8)
def Q21 {ρ : Type} (N : Nat) (K0 : Bool → Option ρ) (table0 : Nat) (gv1 : Nat) (gv2 : Nat) (gv3 : Nat → Nat) (gv4 : Nat → Nat) (gv5 : Nat → Int) : Option ρ :=
  (Q21.s N K0 (fun i7 => (Q21.l0 N K0 table0 gv3 gv4 gv5 (Q21.a0_0 N K0 (fun i10 => (Q21.l2 N K0 table0 gv3 gv4 gv5 (Q21.a2_0 N K0) N i10))) N i7)) table0)
def Q22 {ρ : Type} (N : Nat) (K0 : Int → Option ρ) (p0 : Int) (table1 : Nat) (gv2 : Nat) (gv3 : Nat) (gv4 : Nat → Nat) (gv5 : Nat → Nat) (gv6 : Nat → Int) : Option ρ :=
  (Q1 N (fun rv7 => (if (!rv7) = true then (K0 2) else (Q21 N (fun rv8 => (if (!rv8) = true then (K0 1) else (K0 0))) table1 (table1 * 1) gv3 (offN 0 gv4) (offN 0 gv5) gv6))) p0)
def Q23.b1 {ρ : Type} (N : Nat) (K0 : (Nat → Int) → (Nat → Int) → Option ρ) (rec : Int → (Nat → Int) → Option ρ) (out0 : (Nat → Int) → Option ρ) (table1 : Nat) (gv4 : Nat → Nat) (gv5 : Nat → Nat) (gv6 : Nat → Int) (i7 : Int) (j9 : Int) (gv10 : Nat → Int) : Option ρ :=
  (if (decide (j9 < (table1 : Int))) = true then (if (0 : Int) ≤ i7 ∧ i7 < (table1 : Int) then (if (0 : Int) ≤ j9 ∧ j9 < (((gv5 (0 + (i7.toNat * 1))) : Nat) : Int) then (if (0 : Int) ≤ i7 ∧ i7 < 8 then (if (0 : Int) ≤ j9 ∧ j9 < 8 then (if (0 : Int) ≤ (gv6 ((gv4 (0 + (i7.toNat * 1))) + (j9.toNat * 1))) ∧ (gv6 ((gv4 (0 + (i7.toNat * 1))) + (j9.toNat * 1))) < 8 then (if (0 : Int) ≤ i7 ∧ i7 < (table1 : Int) then (if (0 : Int) ≤ j9 ∧ j9 < (((gv5 (0 + (i7.toNat * 1))) : Nat) : Int) then (if ((gv6 ((gv4 (0 + (i7.toNat * 1))) + (j9.toNat * 1))) == 0) = true then (if (0 : Int) ≤ i7 ∧ i7 < 8 then (if (0 : Int) ≤ j9 ∧ j9 < 8 then (rec ((IntKind.i64.wrap (j9 + 1))) (upd (upd gv10 (((8 + (i7.toNat * 64)) + (j9.toNat * 8)) + (((gv6 ((gv4 (0 + (i7.toNat * 1))) + (j9.toNat * 1)))).toNat * 1)) 1) ((1040 + (i7.toNat * 8)) + (j9.toNat * 1)) 1)) else none) else none) else (rec ((IntKind.i64.wrap (j9 + 1))) (upd gv10 (((8 + (i7.toNat * 64)) + (j9.toNat * 8)) + (((gv6 ((gv4 (0 + (i7.toNat * 1))) + (j9.toNat * 1)))).toNat * 1)) 1))) else none) else none) else none) else none) else none) else none) else none) else (out0 gv10))
def Q23.a1_0 {ρ : Type} (N : Nat) (K0 : (Nat → Int) → (Nat → Int) → Option ρ) (rec : Int → (Nat → Int) → Option ρ) (out0 : (Nat → Int) → Option ρ) (i7 : Int) (ov11 : Nat → Int) : Option ρ :=
  (rec ((IntKind.i64.wrap (i7 + 1))) ov11)
def Q23.b0 {ρ : Type} (N : Nat) (K0 : (Nat → Int) → (Nat → Int) → Option ρ) (lp1 : Int → (Nat → Int) → Option ρ) (rec : Int → (Nat → Int) → Option ρ) (out0 : (Nat → Int) → Option ρ) (table1 : Nat) (i7 : Int) (gv8 : Nat → Int) : Option ρ :=
  (if (decide (i7 < (table1 : Int))) = true then (if (0 : Int) ≤ i7 ∧ i7 < 8 then (if (0 : Int) ≤ i7 ∧ i7 < 8 then (if (0 : Int) ≤ i7 ∧ i7 < 8 then (if (0 : Int) ≤ i7 ∧ i7 < 8 then (lp1 0 (upd (upd gv8 (520 + (i7.toNat * 1)) 1) (((528 + (i7.toNat * 64)) + (i7.toNat * 8)) + (i7.toNat * 1)) 1)) else none) else none) else none) else none) else (out0 gv8))
def Q23.a0_0 {ρ : Type} (N : Nat) (K0 : (Nat → Int) → (Nat → Int) → Option ρ) (p0 : Int) (table1 : Nat) (ov12 : Nat → Int) : Option ρ :=
  (K0 (upd (upd (fun _ => 0) 0 p0) 1 (table1 : Int)) ov12)
def Q23.l1 {ρ : Type} (N : Nat) (K0 : (Nat → Int) → (Nat → Int) → Option ρ) (table1 : Nat) (gv4 : Nat → Nat) (gv5 : Nat → Nat) (gv6 : Nat → Int) (i7 : Int) (out0 : (Nat → Int) → Option ρ) : Nat → Int → (Nat → Int) → Option ρ
  | 0, _, _ => none
  | m + 1, j9, gv10 => (Q23.b1 N K0 ((Q23.l1 N K0 table1 gv4 gv5 gv6 i7 out0 m)) out0 table1 gv4 gv5 gv6 i7 j9 gv10)
def Q23.l0 {ρ : Type} (N : Nat) (K0 : (Nat → Int) → (Nat → Int) → Option ρ) (table1 : Nat) (gv4 : Nat → Nat) (gv5 : Nat → Nat) (gv6 : Nat → Int) (out0 : (Nat → Int) → Option ρ) : Nat → Int → (Nat → Int) → Option ρ
  | 0, _, _ => none
  | m + 1, i7, gv8 => (Q23.b0 N K0 (fun j9 gv10 => (Q23.l1 N K0 table1 gv4 gv5 gv6 i7 (fun ov11 => (Q23.a1_0 N K0 (Q23.l0 N K0 table1 gv4 gv5 gv6 out0 m) out0 i7 ov11)) N j9 gv10)) ((Q23.l0 N K0 table1 gv4 gv5 gv6 out0 m)) out0 table1 i7 gv8)
def Q23.s {ρ : Type} (N : Nat) (K0 : (Nat → Int) → (Nat → Int) → Option ρ) (lp0 : Int → (Nat → Int) → Option ρ) : Option ρ :=
  (lp0 0 (upd (fun _ => 0) 0 1))
def Q23 {ρ : Type} (N : Nat) (K0 : (Nat → Int) → (Nat → Int) → Option ρ) (p0 : Int) (table1 : Nat) (gv2 : Nat) (gv3 : Nat) (gv4 : Nat → Nat) (gv5 : Nat → Nat) (gv6 : Nat → Int) : Option ρ :=
  (Q23.s N K0 (fun i7 gv8 => (Q23.l0 N K0 table1 gv4 gv5 gv6 (fun ov12 => (Q23.a0_0 N K0 p0 table1 ov12)) N i7 gv8)))
def Q24 {ρ : Type} (N : Nat) (K0 : (Nat → Int) → (Nat → Int) → Int → Option ρ) (p0 : Int) (table1 : Nat) (gv2 : Nat) (gv3 : Nat) (gv4 : Nat → Nat) (gv5 : Nat → Nat) (gv6 : Nat → Int) : Option ρ :=
  (Q22 N (fun rv7 => (if (rv7 != 0) = true then (K0 (fun _ => 0) (fun _ => 0) rv7) else (Q23 N (fun rv8 rv9 => (K0 rv8 rv9 0)) p0 table1 (table1 * 1) gv3 (offN 0 gv4) (offN 0 gv5) gv6))) p0 table1 (table1 * 1) gv3 (offN 0 gv4) (offN 0 gv5) gv6)
def Q25.b2 {ρ : Type} (N : Nat) (K0 : (Nat → Int) → (Nat → Int) → Option ρ) (rec : Int → (Nat → Int) → Option ρ) (out0 : (Nat → Int) → Option ρ) (h0 : Nat → Int) (h1 : Nat → Int) (i2 : Int) (j4 : Int) (k6 : Int) (gv7 : Nat → Int) : Option ρ :=
  (if (decide (k6 < (h0 1))) = true then (if (0 : Int) ≤ i2 ∧ i2 < 8 then (if (0 : Int) ≤ j4 ∧ j4 < 8 then (if (0 : Int) ≤ k6 ∧ k6 < 8 then (if (0 : Int) ≤ j4 ∧ j4 < 8 then (if (0 : Int) ≤ k6 ∧ k6 < 8 then (if (0 : Int) ≤ i2 ∧ i2 < 8 then (if (0 : Int) ≤ j4 ∧ j4 < 8 then (if (0 : Int) ≤ k6 ∧ k6 < 8 then (if (0 : Int) ≤ i2 ∧ i2 < 8 then (if (0 : Int) ≤ i2 ∧ i2 < 8 then (if (0 : Int) ≤ j4 ∧ j4 < 8 then (if (0 : Int) ≤ k6 ∧ k6 < 8 then (rec ((IntKind.i64.wrap (k6 + 1))) (upd (upd gv7 (((8 + (j4.toNat * 64)) + (k6.toNat * 8)) + (i2.toNat * 1)) (h1 (((528 + (i2.toNat * 64)) + (j4.toNat * 8)) + (k6.toNat * 1)))) (((528 + (i2.toNat * 64)) + (j4.toNat * 8)) + (k6.toNat * 1)) (h1 (((8 + (j4.toNat * 64)) + (k6.toNat * 8)) + (i2.toNat * 1))))) else none) else none) else none) else none) else none) else none) else none) else none) else none) else none) else none) else none) else (out0 gv7))
def Q25.a2_0 {ρ : Type} (N : Nat) (K0 : (Nat → Int) → (Nat → Int) → Option ρ) (rec : Int → (Nat → Int) → Option ρ) (out0 : (Nat → Int) → Option ρ) (j4 : Int) (ov8 : Nat → Int) : Option ρ :=
  (rec ((IntKind.i64.wrap (j4 + 1))) ov8)
def Q25.b1 {ρ : Type} (N : Nat) (K0 : (Nat → Int) → (Nat → Int) → Option ρ) (lp2 : Int → (Nat → Int) → Option ρ) (rec : Int → (Nat → Int) → Option ρ) (out0 : (Nat → Int) → Option ρ) (h0 : Nat → Int) (h1 : Nat → Int) (i2 : Int) (j4 : Int) (gv5 : Nat → Int) : Option ρ :=
  (if (decide (j4 < (h0 1))) = true then (if (0 : Int) ≤ j4 ∧ j4 < 8 then (if (0 : Int) ≤ i2 ∧ i2 < 8 then (if (0 : Int) ≤ i2 ∧ i2 < 8 then (if (0 : Int) ≤ j4 ∧ j4 < 8 then (lp2 0 (upd gv5 ((1040 + (i2.toNat * 8)) + (j4.toNat * 1)) (h1 ((1040 + (j4.toNat * 8)) + (i2.toNat * 1))))) else none) else none) else none) else none) else (out0 gv5))
def Q25.a1_0 {ρ : Type} (N : Nat) (K0 : (Nat → Int) → (Nat → Int) → Option ρ) (rec : Int → (Nat → Int) → Option ρ) (out0 : (Nat → Int) → Option ρ) (i2 : Int) (ov9 : Nat → Int) : Option ρ :=
  (rec ((IntKind.i64.wrap (i2 + 1))) ov9)
def Q25.b0 {ρ : Type} (N : Nat) (K0 : (Nat → Int) → (Nat → Int) → Option ρ) (lp1 : Int → (Nat → Int) → Option ρ) (rec : Int → (Nat → Int) → Option ρ) (out0 : (Nat → Int) → Option ρ) (h0 : Nat → Int) (i2 : Int) (gv3 : Nat → Int) : Option ρ :=
  (if (decide (i2 < (h0 1))) = true then (lp1 0 gv3) else (out0 gv3))
def Q25.a0_0 {ρ : Type} (N : Nat) (K0 : (Nat → Int) → (Nat → Int) → Option ρ) (h0 : Nat → Int) (ov10 : Nat → Int) : Option ρ :=
  (K0 (upd (upd (fun _ => 0) 0 (h0 0)) 1 (h0 1)) ov10)
def Q25.l2 {ρ : Type} (N : Nat) (K0 : (Nat → Int) → (Nat → Int) → Option ρ) (h0 : Nat → Int) (h1 : Nat → Int) (i2 : Int) (j4 : Int) (out0 : (Nat → Int) → Option ρ) : Nat → Int → (Nat → Int) → Option ρ
  | 0, _, _ => none
  | m + 1, k6, gv7 => (Q25.b2 N K0 ((Q25.l2 N K0 h0 h1 i2 j4 out0 m)) out0 h0 h1 i2 j4 k6 gv7)
def Q25.l1 {ρ : Type} (N : Nat) (K0 : (Nat → Int) → (Nat → Int) → Option ρ) (h0 : Nat → Int) (h1 : Nat → Int) (i2 : Int) (out0 : (Nat → Int) → Option ρ) : Nat → Int → (Nat → Int) → Option ρ
  | 0, _, _ => none
  | m + 1, j4, gv5 => (Q25.b1 N K0 (fun k6 gv7 => (Q25.l2 N K0 h0 h1 i2 j4 (fun ov8 => (Q25.a2_0 N K0 (Q25.l1 N K0 h0 h1 i2 out0 m) out0 j4 ov8)) N k6 gv7)) ((Q25.l1 N K0 h0 h1 i2 out0 m)) out0 h0 h1 i2 j4 gv5)
def Q25.l0 {ρ : Type} (N : Nat) (K0 : (Nat → Int) → (Nat → Int) → Option ρ) (h0 : Nat → Int) (h1 : Nat → Int) (out0 : (Nat → Int) → Option ρ) : Nat → Int → (Nat → Int) → Option ρ
  | 0, _, _ => none
  | m + 1, i2, gv3 => (Q25.b0 N K0 (fun j4 gv5 => (Q25.l1 N K0 h0 h1 i2 (fun ov9 => (Q25.a1_0 N K0 (Q25.l0 N K0 h0 h1 out0 m) out0 i2 ov9)) N j4 gv5)) ((Q25.l0 N K0 h0 h1 out0 m)) out0 h0 i2 gv3)
def Q25.s {ρ : Type} (N : Nat) (K0 : (Nat → Int) → (Nat → Int) → Option ρ) (lp0 : Int → (Nat → Int) → Option ρ) (h1 : Nat → Int) : Option ρ :=
  (lp0 0 (updN (updN (fun _ => 0) 0 8 (fun z => (h1 (520 + z)))) 520 8 (fun z => (h1 (0 + z)))))
def Q25 {ρ : Type} (N : Nat) (K0 : (Nat → Int) → (Nat → Int) → Option ρ) (h0 : Nat → Int) (h1 : Nat → Int) : Option ρ :=
  (Q25.s N K0 (fun i2 gv3 => (Q25.l0 N K0 h0 h1 (fun ov10 => (Q25.a0_0 N K0 h0 ov10)) N i2 gv3)) h1)
def Q26 {ρ : Type} (N : Nat) (K0 : (Nat → Int) → (Nat → Int) → Int → Option ρ) (p0 : Int) (table1 : Nat) (gv2 : Nat) (gv3 : Nat) (gv4 : Nat → Nat) (gv5 : Nat → Nat) (gv6 : Nat → Int) : Option ρ :=
  (Q22 N (fun rv7 => (if (rv7 != 0) = true then (K0 (fun _ => 0) (fun _ => 0) rv7) else (Q23 N (fun rv8 rv9 => (Q25 N (fun rv10 rv11 => (K0 rv10 rv11 0)) rv8 rv9)) p0 table1 (table1 * 1) gv3 (offN 0 gv4) (offN 0 gv5) gv6))) p0 table1 (table1 * 1) gv3 (offN 0 gv4) (offN 0 gv5) gv6)
def Q27 {ρ : Type} (N : Nat) (K0 : (Nat → Int) → (Nat → Int) → Int → Option ρ) (name0 : ByteArray) (p1 : Int) : Option ρ :=
  (if (strEq name0 (ByteArray.mk #[108, 105, 110, 101])) = true then (Q4 N (fun rv2 rv3 rv4 => (K0 rv2 rv3 rv4)) p1 0) else (if (strEq name0 (ByteArray.mk #[115, 112, 108, 105, 116])) = true then (Q4 N (fun rv5 rv6 rv7 => (K0 rv5 rv6 rv7)) p1 1) else (if (strEq name0 (ByteArray.mk #[115, 119, 101, 101, 100, 108, 101, 114])) = true then (Q8 N (fun rv8 rv9 rv10 => (K0 rv8 rv9 rv10)) p1) else (if (strEq name0 (ByteArray.mk #[100, 111, 117, 98, 108, 101])) = true then (Q15 N (fun rv11 rv12 rv13 => (K0 rv11 rv12 rv13)) p1) else (Q20 N (fun rv14 rv15 rv16 rv17 rv18 rv19 => (if rv15 = true then (Q24 N (fun rv20 rv21 rv22 => (K0 rv20 rv21 rv22)) p1 rv14 (rv14 * 1) rv16 (offN 0 rv17) (offN 0 rv18) rv19) else (if (decide ((name0.size : Int) > 3)) = true then (if (0 : Int) ≤ (0 : Int) ∧ (0 : Int) ≤ (3 : Int) ∧ (3 : Int) ≤ (name0.size : Int) then (if (strEq (name0.extract 0 3) (ByteArray.mk #[111, 110, 45])) = true then (if (0 : Int) ≤ (3 : Int) ∧ (3 : Int) ≤ (name0.size : Int) ∧ (name0.size : Int) ≤ (name0.size : Int) then (Q20 N (fun rv23 rv24 rv25 rv26 rv27 rv28 => (if rv24 = true then (Q26 N (fun rv29 rv30 rv31 => (K0 rv29 rv30 rv31)) p1 rv23 (rv23 * 1) rv25 (offN 0 rv26) (offN 0 rv27) rv28) else (K0 (fun _ => 0) (fun _ => 0) 4))) (name0.extract 3 ((name0.size : Int)).toNat)) else none) else (K0 (fun _ => 0) (fun _ => 0) 4)) else none) else (K0 (fun _ => 0) (fun _ => 0) 4)))) name0)))))
def Q28.b0 {ρ : Type} (N : Nat) (K0 : Bool → Option ρ) (rec : Int → Option ρ) (out0 : Option ρ) (p0 : Int) (k1 : Int) : Option ρ :=
  (if (decide ((IntKind.i64.wrap (k1 * k1)) ≤ p0)) = true then (if k1 = 0 then none else (if ((Int.tmod p0 k1) == 0) = true then (K0 false) else (rec ((IntKind.i64.wrap (k1 + 1)))))) else out0)
def Q28.a0_0 {ρ : Type} (N : Nat) (K0 : Bool → Option ρ) : Option ρ :=
  (K0 true)
def Q28.l0 {ρ : Type} (N : Nat) (K0 : Bool → Option ρ) (p0 : Int) (out0 : Option ρ) : Nat → Int → Option ρ
  | 0, _ => none
  | m + 1, k1 => (Q28.b0 N K0 ((Q28.l0 N K0 p0 out0 m)) out0 p0 k1)
def Q28.s {ρ : Type} (N : Nat) (K0 : Bool → Option ρ) (lp0 : Int → Option ρ) (p0 : Int) : Option ρ :=
  (if (decide (p0 < 2)) = true then (K0 false) else (if (decide (p0 > 31)) = true then (K0 false) else (lp0 2)))
def Q28 {ρ : Type} (N : Nat) (K0 : Bool → Option ρ) (p0 : Int) : Option ρ :=
  (Q28.s N K0 (fun k1 => (Q28.l0 N K0 p0 (Q28.a0_0 N K0) N k1)) p0)
def Q29 {ρ : Type} (N : Nat) (K0 : Bool → Option ρ) (x0 : Int) (least1 : Int) (most2 : Int) : Option ρ :=
  (if (decide (least1 ≤ x0)) = true then (K0 ((decide (x0 ≤ most2)))) else (K0 false))
def Q30 {ρ : Type} (N : Nat) (K0 : (Nat → Int) → Option ρ) (i0 : Int) : Option ρ :=
  (if (0 : Int) ≤ i0 ∧ i0 < 8 then (K0 (upd (fun _ => 0) (i0.toNat * 1) 1)) else none)
def Q31 {ρ : Type} (N : Nat) (K0 : (Nat → Int) → Option ρ) (gv0 : Nat → Int) (gv1 : Nat → Int) : Option ρ :=
  (K0 (upd (upd (fun _ => 0) 0 (gv0 0)) 1 (gv0 1)))
def Q32 {ρ : Type} (N : Nat) (K0 : Int → Option ρ) (f0 : Nat → Int) (x1 : Int) : Option ρ :=
  (if (f0 0) = 0 then none else (if (decide ((Int.tmod x1 (f0 0)) < 0)) = true then (K0 ((IntKind.u8.wrap (IntKind.i64.wrap ((Int.tmod x1 (f0 0)) + (f0 0)))))) else (K0 ((IntKind.u8.wrap (Int.tmod x1 (f0 0)))))))
def Q33.b0 {ρ : Type} (N : Nat) (K0 : (Nat → Int) → Option ρ) (rec : Int → (Nat → Int) → Option ρ) (out0 : (Nat → Int) → Option ρ) (f0 : Nat → Int) (k1 : Int) (w2 : Nat → Int) (x4 : Int) (gv5 : Nat → Int) : Option ρ :=
  (if (decide (x4 < 8)) = true then (if (0 : Int) ≤ x4 ∧ x4 < 8 then (if (0 : Int) ≤ x4 ∧ x4 < 8 then (Q32 N (fun rv6 => (if (0 : Int) ≤ x4 ∧ x4 < 8 then (rec ((IntKind.i64.wrap (x4 + 1))) (upd gv5 (x4.toNat * 1) rv6)) else none)) f0 ((IntKind.i64.wrap ((IntKind.i64.wrap (gv5 (x4.toNat * 1))) + (IntKind.i64.wrap (k1 * (IntKind.i64.wrap (w2 x4.toNat)))))))) else none) else none) else (out0 gv5))
def Q33.a0_0 {ρ : Type} (N : Nat) (K0 : (Nat → Int) → Option ρ) (ov7 : Nat → Int) : Option ρ :=
  (K0 ov7)
def Q33.l0 {ρ : Type} (N : Nat) (K0 : (Nat → Int) → Option ρ) (f0 : Nat → Int) (k1 : Int) (w2 : Nat → Int) (out0 : (Nat → Int) → Option ρ) : Nat → Int → (Nat → Int) → Option ρ
  | 0, _, _ => none
  | m + 1, x4, gv5 => (Q33.b0 N K0 ((Q33.l0 N K0 f0 k1 w2 out0 m)) out0 f0 k1 w2 x4 gv5)
def Q33.s {ρ : Type} (N : Nat) (K0 : (Nat → Int) → Option ρ) (lp0 : Int → (Nat → Int) → Option ρ) (k1 : Int) (gv3 : Nat → Int) : Option ρ :=
  (if (k1 == 0) = true then (K0 gv3) else (lp0 0 gv3))
def Q33 {ρ : Type} (N : Nat) (K0 : (Nat → Int) → Option ρ) (f0 : Nat → Int) (k1 : Int) (w2 : Nat → Int) (gv3 : Nat → Int) : Option ρ :=
  (Q33.s N K0 (fun x4 gv5 => (Q33.l0 N K0 f0 k1 w2 (fun ov7 => (Q33.a0_0 N K0 ov7)) N x4 gv5)) k1 gv3)
def Q34 {ρ : Type} (N : Nat) (K0 : (Nat → Int) → Option ρ) (f0 : Nat → Int) (k1 : Int) (w2 : Nat → Int) : Option ρ :=
  (Q33 N (fun rv3 => (K0 rv3)) f0 k1 w2 (fun _ => 0))
def Q35.b2 {ρ : Type} (N : Nat) (K0 : (Nat → Int) → (Nat → Int) → Option ρ) (rec : Int → Int → (Nat → Int) → Option ρ) (out0 : (Nat → Int) → Option ρ) (rv4 : Nat → Int) (x5 : Int) (binomial13 : Int) (j14 : Int) (gv15 : Nat → Int) : Option ρ :=
  (if (decide (j14 ≤ x5)) = true then (Q32 N (fun rv16 => (if (0 : Int) ≤ x5 ∧ x5 < 8 then (if (0 : Int) ≤ j14 ∧ j14 < 8 then (if (0 : Int) ≤ (IntKind.i64.wrap (x5 - j14)) ∧ (IntKind.i64.wrap (x5 - j14)) < 8 then (if (IntKind.i64.wrap (j14 + 1)) = 0 then none else (rec ((IntKind.i64.wrap (Int.tdiv (IntKind.i64.wrap (binomial13 * (IntKind.i64.wrap (x5 - j14)))) (IntKind.i64.wrap (j14 + 1))))) ((IntKind.i64.wrap (j14 + 1))) (upd gv15 (((528 + (x5.toNat * 64)) + (j14.toNat * 8)) + (((IntKind.i64.wrap (x5 - j14))).toNat * 1)) rv16))) else none) else none) else none)) rv4 binomial13) else (out0 gv15))
def Q35.a2_0 {ρ : Type} (N : Nat) (K0 : (Nat → Int) → (Nat → Int) → Option ρ) (rec : Int → (Nat → Int) → Option ρ) (out0 : (Nat → Int) → Option ρ) (rv4 : Nat → Int) (x5 : Int) (ov17 : Nat → Int) : Option ρ :=
  (Q30 N (fun rv18 => (Q34 N (fun rv19 => (if (0 : Int) ≤ x5 ∧ x5 < 8 then (rec ((IntKind.i64.wrap (x5 + 1))) (updN ov17 (1040 + (x5.toNat * 8)) 8 rv19)) else none)) rv4 ((IntKind.i64.wrap (1 - (IntKind.i64.wrap (2 * (Int.tmod x5 2)))))) rv18)) x5)
def Q35.b1 {ρ : Type} (N : Nat) (K0 : (Nat → Int) → (Nat → Int) → Option ρ) (rec : Int → (Nat → Int) → Option ρ) (out0 : (Nat → Int) → Option ρ) (p0 : Int) (k1 : Int) (rv4 : Nat → Int) (x5 : Int) (x7 : Int) (gv8 : Nat → Int) : Option ρ :=
  (if (decide (x7 < p0)) = true then (if (decide ((IntKind.i64.wrap (x5 + x7)) < p0)) = true then (Q30 N (fun rv9 => (if (0 : Int) ≤ x5 ∧ x5 < 8 then (if (0 : Int) ≤ x7 ∧ x7 < 8 then (rec ((IntKind.i64.wrap (x7 + 1))) (updN gv8 ((8 + (x5.toNat * 64)) + (x7.toNat * 8)) 8 rv9)) else none) else none)) ((IntKind.i64.wrap (x5 + x7)))) else (Q30 N (fun rv10 => (Q34 N (fun rv11 => (if (0 : Int) ≤ x5 ∧ x5 < 8 then (if (0 : Int) ≤ x7 ∧ x7 < 8 then (rec ((IntKind.i64.wrap (x7 + 1))) (updN gv8 ((8 + (x5.toNat * 64)) + (x7.toNat * 8)) 8 rv11)) else none) else none)) rv4 k1 rv10)) ((IntKind.i64.wrap ((IntKind.i64.wrap ((IntKind.i64.wrap (x5 + x7)) - p0)) + 1))))) else (out0 gv8))
def Q35.a1_0 {ρ : Type} (N : Nat) (K0 : (Nat → Int) → (Nat → Int) → Option ρ) (lp2 : Int → Int → (Nat → Int) → Option ρ) (rec : Int → (Nat → Int) → Option ρ) (out0 : (Nat → Int) → Option ρ) (ov12 : Nat → Int) : Option ρ :=
  (lp2 1 0 ov12)
def Q35.b0 {ρ : Type} (N : Nat) (K0 : (Nat → Int) → (Nat → Int) → Option ρ) (lp1 : Int → (Nat → Int) → Option ρ) (rec : Int → (Nat → Int) → Option ρ) (out0 : (Nat → Int) → Option ρ) (p0 : Int) (x5 : Int) (gv6 : Nat → Int) : Option ρ :=
  (if (decide (x5 < p0)) = true then (lp1 0 gv6) else (out0 gv6))
def Q35.a0_0 {ρ : Type} (N : Nat) (K0 : (Nat → Int) → (Nat → Int) → Option ρ) (p0 : Int) (ov20 : Nat → Int) : Option ρ :=
  (K0 (upd (upd (fun _ => 0) 0 p0) 1 p0) ov20)
def Q35.l2 {ρ : Type} (N : Nat) (K0 : (Nat → Int) → (Nat → Int) → Option ρ) (rv4 : Nat → Int) (x5 : Int) (out0 : (Nat → Int) → Option ρ) : Nat → Int → Int → (Nat → Int) → Option ρ
  | 0, _, _, _ => none
  | m + 1, binomial13, j14, gv15 => (Q35.b2 N K0 ((Q35.l2 N K0 rv4 x5 out0 m)) out0 rv4 x5 binomial13 j14 gv15)
def Q35.l1 {ρ : Type} (N : Nat) (K0 : (Nat → Int) → (Nat → Int) → Option ρ) (p0 : Int) (k1 : Int) (rv4 : Nat → Int) (x5 : Int) (out0 : (Nat → Int) → Option ρ) : Nat → Int → (Nat → Int) → Option ρ
  | 0, _, _ => none
  | m + 1, x7, gv8 => (Q35.b1 N K0 ((Q35.l1 N K0 p0 k1 rv4 x5 out0 m)) out0 p0 k1 rv4 x5 x7 gv8)
def Q35.l0 {ρ : Type} (N : Nat) (K0 : (Nat → Int) → (Nat → Int) → Option ρ) (p0 : Int) (k1 : Int) (rv4 : Nat → Int) (out0 : (Nat → Int) → Option ρ) : Nat → Int → (Nat → Int) → Option ρ
  | 0, _, _ => none
  | m + 1, x5, gv6 => (Q35.b0 N K0 (fun x7 gv8 => (Q35.l1 N K0 p0 k1 rv4 x5 (fun ov12 => (Q35.a1_0 N K0 (fun binomial13 j14 gv15 => (Q35.l2 N K0 rv4 x5 (fun ov17 => (Q35.a2_0 N K0 (Q35.l0 N K0 p0 k1 rv4 out0 m) out0 rv4 x5 ov17)) N binomial13 j14 gv15)) (Q35.l0 N K0 p0 k1 rv4 out0 m) out0 ov12)) N x7 gv8)) ((Q35.l0 N K0 p0 k1 rv4 out0 m)) out0 p0 x5 gv6)
def Q35.s {ρ : Type} (N : Nat) (K0 : (Nat → Int) → (Nat → Int) → Option ρ) (lp0 : (Nat → Int) → Int → (Nat → Int) → Option ρ) (p0 : Int) : Option ρ :=
  (Q30 N (fun rv2 => (Q30 N (fun rv3 => (Q31 N (fun rv4 => (lp0 rv4 0 (updN (updN (fun _ => 0) 0 8 rv2) 520 8 rv3))) (upd (upd (fun _ => 0) 0 p0) 1 p0) (updN (updN (fun _ => 0) 0 8 rv2) 520 8 rv3))) 0)) 0)
def Q35 {ρ : Type} (N : Nat) (K0 : (Nat → Int) → (Nat → Int) → Option ρ) (p0 : Int) (k1 : Int) : Option ρ :=
  (Q35.s N K0 (fun rv4 x5 gv6 => (Q35.l0 N K0 p0 k1 rv4 (fun ov20 => (Q35.a0_0 N K0 p0 ov20)) N x5 gv6)) p0)
def Q36 {ρ : Type} (N : Nat) (K0 : (Nat → Int) → (Nat → Int) → Int → Option ρ) (p0 : Int) (k1 : Int) : Option ρ :=
  (Q28 N (fun rv2 => (if (!rv2) = true then (K0 (fun _ => 0) (fun _ => 0) 2) else (if (decide (p0 > 7)) = true then (K0 (fun _ => 0) (fun _ => 0) 2) else (Q29 N (fun rv3 => (if (!rv3) = true then (K0 (fun _ => 0) (fun _ => 0) 2) else (Q35 N (fun rv4 rv5 => (K0 rv4 rv5 0)) p0 k1))) k1 0 ((IntKind.i64.wrap (p0 - 1))))))) p0)
def Q37 {ρ : Type} (N : Nat) (K0 : Bool → Option ρ) (p0 : Int) : Option ρ :=
  (Q28 N (fun rv1 => (if rv1 = true then (K0 ((decide (p0 > 2)))) else (K0 false))) p0)
def Q38 {ρ : Type} (N : Nat) (K0 : Int → Int → Option ρ) (mv0 : Int) (nv1 : Int) : Option ρ :=
  (if (decide ((IntKind.i64.wrap ((Int.tmod (IntKind.i64.wrap (Int.tdiv mv0 2)) 2) + (Int.tmod (IntKind.i64.wrap (Int.tdiv nv1 2)) 2))) > 1)) = true then (K0 0 0) else (if (decide ((IntKind.i64.wrap ((IntKind.i64.wrap (Int.tdiv mv0 4)) + (IntKind.i64.wrap (Int.tdiv nv1 4)))) > 1)) = true then (K0 0 0) else (if ((Int.tmod (IntKind.i64.wrap ((IntKind.i64.wrap ((Int.tmod nv1 2) * (IntKind.i64.wrap ((Int.tmod (IntKind.i64.wrap (Int.tdiv mv0 2)) 2) + (IntKind.i64.wrap (Int.tdiv mv0 4)))))) + (IntKind.i64.wrap ((IntKind.i64.wrap (Int.tdiv mv0 4)) * (Int.tmod (IntKind.i64.wrap (Int.tdiv nv1 2)) 2))))) 2) == 1) = true then (K0 (-1) ((IntKind.i64.wrap (((BitVec.ofInt (IntKind.i64).bits mv0 ^^^ BitVec.ofInt (IntKind.i64).bits nv1)).toNat : Int)))) else (K0 1 ((IntKind.i64.wrap (((BitVec.ofInt (IntKind.i64).bits mv0 ^^^ BitVec.ofInt (IntKind.i64).bits nv1)).toNat : Int)))))))
def Q39.b0 {ρ : Type} (N : Nat) (K0 : (Nat → Int) → Option ρ) (rec : Int → (Nat → Int) → Option ρ) (out0 : (Nat → Int) → Option ρ) (f0 : Nat → Int) (v1 : Nat → Int) (w2 : Nat → Int) (x3 : Int) (gv4 : Nat → Int) : Option ρ :=
  (if (decide (x3 < 8)) = true then (if (0 : Int) ≤ x3 ∧ x3 < 8 then (Q34 N (fun rv5 => (if (0 : Int) ≤ x3 ∧ x3 < 8 then (rec ((IntKind.i64.wrap (x3 + 1))) (updN gv4 (x3.toNat * 8) 8 rv5)) else none)) f0 ((IntKind.i64.wrap (v1 x3.toNat))) w2) else none) else (out0 gv4))
def Q39.a0_0 {ρ : Type} (N : Nat) (K0 : (Nat → Int) → Option ρ) (ov6 : Nat → Int) : Option ρ :=
  (K0 ov6)
def Q39.l0 {ρ : Type} (N : Nat) (K0 : (Nat → Int) → Option ρ) (f0 : Nat → Int) (v1 : Nat → Int) (w2 : Nat → Int) (out0 : (Nat → Int) → Option ρ) : Nat → Int → (Nat → Int) → Option ρ
  | 0, _, _ => none
  | m + 1, x3, gv4 => (Q39.b0 N K0 ((Q39.l0 N K0 f0 v1 w2 out0 m)) out0 f0 v1 w2 x3 gv4)
def Q39.s {ρ : Type} (N : Nat) (K0 : (Nat → Int) → Option ρ) (lp0 : Int → (Nat → Int) → Option ρ) : Option ρ :=
  (lp0 0 (fun _ => 0))
def Q39 {ρ : Type} (N : Nat) (K0 : (Nat → Int) → Option ρ) (f0 : Nat → Int) (v1 : Nat → Int) (w2 : Nat → Int) : Option ρ :=
  (Q39.s N K0 (fun x3 gv4 => (Q39.l0 N K0 f0 v1 w2 (fun ov6 => (Q39.a0_0 N K0 ov6)) N x3 gv4)))
def Q40.b0 {ρ : Type} (N : Nat) (K0 : (Nat → Int) → Option ρ) (rec : Int → (Nat → Int) → Option ρ) (out0 : (Nat → Int) → Option ρ) (lv0 : Int) (mv1 : Int) (y2 : Int) (gv3 : Nat → Int) (gv4 : Nat → Int) (gv6 : Nat → Int) (gv7 : Nat → Int) (gv9 : Nat → Int) (x10 : Int) (gv11 : Nat → Int) : Option ρ :=
  (if (decide (x10 < 8)) = true then (if (0 : Int) ≤ x10 ∧ x10 < 8 then (if (0 : Int) ≤ x10 ∧ x10 < 8 then (if (gv4 0) = 0 then none else (if (0 : Int) ≤ (gv7 0) ∧ (gv7 0) < 8 then (if (0 : Int) ≤ mv1 ∧ mv1 < 8 then (Q33 N (fun rv12 => (rec ((IntKind.i64.wrap (x10 + 1))) (updN gv11 (x10.toNat * 8) 8 rv12))) gv4 ((IntKind.i64.wrap ((Int.tmod (IntKind.i64.wrap ((gv6 0) * y2)) (gv4 0)) * (IntKind.i64.wrap (gv9 (((8 + (((gv3 0)).toNat * 64)) + (lv0.toNat * 8)) + x10.toNat)))))) (fun z => (gv9 (((8 + (((gv7 0)).toNat * 64)) + (mv1.toNat * 8)) + z))) (fun z => (gv11 ((x10.toNat * 8) + z)))) else none) else none)) else none) else none) else (out0 gv11))
def Q40.a0_0 {ρ : Type} (N : Nat) (K0 : (Nat → Int) → Option ρ) (ov13 : Nat → Int) : Option ρ :=
  (K0 ov13)
def Q40.l0 {ρ : Type} (N : Nat) (K0 : (Nat → Int) → Option ρ) (lv0 : Int) (mv1 : Int) (y2 : Int) (gv3 : Nat → Int) (gv4 : Nat → Int) (gv6 : Nat → Int) (gv7 : Nat → Int) (gv9 : Nat → Int) (out0 : (Nat → Int) → Option ρ) : Nat → Int → (Nat → Int) → Option ρ
  | 0, _, _ => none
  | m + 1, x10, gv11 => (Q40.b0 N K0 ((Q40.l0 N K0 lv0 mv1 y2 gv3 gv4 gv6 gv7 gv9 out0 m)) out0 lv0 mv1 y2 gv3 gv4 gv6 gv7 gv9 x10 gv11)
def Q40.s {ρ : Type} (N : Nat) (K0 : (Nat → Int) → Option ρ) (lp0 : Int → (Nat → Int) → Option ρ) (lv0 : Int) (gv3 : Nat → Int) (gv5 : Nat → Int) : Option ρ :=
  (if (0 : Int) ≤ (gv3 0) ∧ (gv3 0) < 8 then (if (0 : Int) ≤ lv0 ∧ lv0 < 8 then (lp0 0 gv5) else none) else none)
def Q40 {ρ : Type} (N : Nat) (K0 : (Nat → Int) → Option ρ) (lv0 : Int) (mv1 : Int) (y2 : Int) (gv3 : Nat → Int) (gv4 : Nat → Int) (gv5 : Nat → Int) (gv6 : Nat → Int) (gv7 : Nat → Int) (gv8 : Nat → Int) (gv9 : Nat → Int) : Option ρ :=
  (Q40.s N K0 (fun x10 gv11 => (Q40.l0 N K0 lv0 mv1 y2 gv3 gv4 gv6 gv7 gv9 (fun ov13 => (Q40.a0_0 N K0 ov13)) N x10 gv11)) lv0 gv3 gv5)
def Q41.b1 {ρ : Type} (N : Nat) (K0 : (Nat → Int) → Option ρ) (rec : Int → (Nat → Int) → Option ρ) (out0 : (Nat → Int) → Option ρ) (gv0 : Nat → Int) (gv1 : Nat → Int) (gv2 : Nat → Int) (gv4 : Nat → Int) (gv5 : Nat → Int) (gv6 : Nat → Int) (gv7 : Nat → Int) (x8 : Int) (x10 : Int) (gv11 : Nat → Int) : Option ρ :=
  (if (decide (x10 < 8)) = true then (if (0 : Int) ≤ x10 ∧ x10 < 8 then (if ((gv0 ((x8.toNat * 8) + x10.toNat)) != 0) = true then (Q40 N (fun rv12 => (rec ((IntKind.i64.wrap (x10 + 1))) rv12)) x8 x10 ((IntKind.i64.wrap (gv0 ((x8.toNat * 8) + x10.toNat)))) gv1 gv2 gv11 gv4 gv5 gv6 gv7) else (rec ((IntKind.i64.wrap (x10 + 1))) gv11)) else none) else (out0 gv11))
def Q41.a1_0 {ρ : Type} (N : Nat) (K0 : (Nat → Int) → Option ρ) (rec : Int → (Nat → Int) → Option ρ) (out0 : (Nat → Int) → Option ρ) (x8 : Int) (ov13 : Nat → Int) : Option ρ :=
  (rec ((IntKind.i64.wrap (x8 + 1))) ov13)
def Q41.b0 {ρ : Type} (N : Nat) (K0 : (Nat → Int) → Option ρ) (lp1 : Int → (Nat → Int) → Option ρ) (rec : Int → (Nat → Int) → Option ρ) (out0 : (Nat → Int) → Option ρ) (x8 : Int) (gv9 : Nat → Int) : Option ρ :=
  (if (decide (x8 < 8)) = true then (if (0 : Int) ≤ x8 ∧ x8 < 8 then (lp1 0 gv9) else none) else (out0 gv9))
def Q41.a0_0 {ρ : Type} (N : Nat) (K0 : (Nat → Int) → Option ρ) (ov14 : Nat → Int) : Option ρ :=
  (K0 ov14)
def Q41.l1 {ρ : Type} (N : Nat) (K0 : (Nat → Int) → Option ρ) (gv0 : Nat → Int) (gv1 : Nat → Int) (gv2 : Nat → Int) (gv4 : Nat → Int) (gv5 : Nat → Int) (gv6 : Nat → Int) (gv7 : Nat → Int) (x8 : Int) (out0 : (Nat → Int) → Option ρ) : Nat → Int → (Nat → Int) → Option ρ
  | 0, _, _ => none
  | m + 1, x10, gv11 => (Q41.b1 N K0 ((Q41.l1 N K0 gv0 gv1 gv2 gv4 gv5 gv6 gv7 x8 out0 m)) out0 gv0 gv1 gv2 gv4 gv5 gv6 gv7 x8 x10 gv11)
def Q41.l0 {ρ : Type} (N : Nat) (K0 : (Nat → Int) → Option ρ) (gv0 : Nat → Int) (gv1 : Nat → Int) (gv2 : Nat → Int) (gv4 : Nat → Int) (gv5 : Nat → Int) (gv6 : Nat → Int) (gv7 : Nat → Int) (out0 : (Nat → Int) → Option ρ) : Nat → Int → (Nat → Int) → Option ρ
  | 0, _, _ => none
  | m + 1, x8, gv9 => (Q41.b0 N K0 (fun x10 gv11 => (Q41.l1 N K0 gv0 gv1 gv2 gv4 gv5 gv6 gv7 x8 (fun ov13 => (Q41.a1_0 N K0 (Q41.l0 N K0 gv0 gv1 gv2 gv4 gv5 gv6 gv7 out0 m) out0 x8 ov13)) N x10 gv11)) ((Q41.l0 N K0 gv0 gv1 gv2 gv4 gv5 gv6 gv7 out0 m)) out0 x8 gv9)
def Q41.s {ρ : Type} (N : Nat) (K0 : (Nat → Int) → Option ρ) (lp0 : Int → (Nat → Int) → Option ρ) (gv3 : Nat → Int) : Option ρ :=
  (lp0 0 gv3)
def Q41 {ρ : Type} (N : Nat) (K0 : (Nat → Int) → Option ρ) (gv0 : Nat → Int) (gv1 : Nat → Int) (gv2 : Nat → Int) (gv3 : Nat → Int) (gv4 : Nat → Int) (gv5 : Nat → Int) (gv6 : Nat → Int) (gv7 : Nat → Int) : Option ρ :=
  (Q41.s N K0 (fun x8 gv9 => (Q41.l0 N K0 gv0 gv1 gv2 gv4 gv5 gv6 gv7 (fun ov14 => (Q41.a0_0 N K0 ov14)) N x8 gv9)) gv3)
def Q42 {ρ : Type} (N : Nat) (K0 : (Nat → Int) → Option ρ) (j0 : Int) (k1 : Int) (x2 : Int) (gv3 : Nat → Int) (gv4 : Nat → Int) (gv5 : Nat → Int) (gv6 : Nat → Int) (gv7 : Nat → Int) : Option ρ :=
  (Q41 N (fun rv8 => (K0 rv8)) gv5 (fun _ => j0) gv3 gv4 (fun _ => x2) (fun _ => k1) gv6 gv7)
def Q43.b1 {ρ : Type} (N : Nat) (K0 : (Nat → Int) → Option ρ) (rec : Int → (Nat → Int) → Option ρ) (out0 : (Nat → Int) → Option ρ) (gv0 : Nat → Int) (gv1 : Nat → Int) (gv3 : Nat → Int) (gv4 : Nat → Int) (gv5 : Nat → Int) (x6 : Int) (x8 : Int) (gv9 : Nat → Int) : Option ρ :=
  (if (decide (x8 < 8)) = true then (if (0 : Int) ≤ x8 ∧ x8 < 8 then (if ((gv0 ((x6.toNat * 8) + x8.toNat)) != 0) = true then (Q42 N (fun rv10 => (rec ((IntKind.i64.wrap (x8 + 1))) rv10)) x6 x8 ((IntKind.i64.wrap (gv0 ((x6.toNat * 8) + x8.toNat)))) gv1 gv9 gv3 gv4 gv5) else (rec ((IntKind.i64.wrap (x8 + 1))) gv9)) else none) else (out0 gv9))
def Q43.a1_0 {ρ : Type} (N : Nat) (K0 : (Nat → Int) → Option ρ) (rec : Int → (Nat → Int) → Option ρ) (out0 : (Nat → Int) → Option ρ) (x6 : Int) (ov11 : Nat → Int) : Option ρ :=
  (rec ((IntKind.i64.wrap (x6 + 1))) ov11)
def Q43.b0 {ρ : Type} (N : Nat) (K0 : (Nat → Int) → Option ρ) (lp1 : Int → (Nat → Int) → Option ρ) (rec : Int → (Nat → Int) → Option ρ) (out0 : (Nat → Int) → Option ρ) (x6 : Int) (gv7 : Nat → Int) : Option ρ :=
  (if (decide (x6 < 8)) = true then (if (0 : Int) ≤ x6 ∧ x6 < 8 then (lp1 0 gv7) else none) else (out0 gv7))
def Q43.a0_0 {ρ : Type} (N : Nat) (K0 : (Nat → Int) → Option ρ) (ov12 : Nat → Int) : Option ρ :=
  (K0 ov12)
def Q43.l1 {ρ : Type} (N : Nat) (K0 : (Nat → Int) → Option ρ) (gv0 : Nat → Int) (gv1 : Nat → Int) (gv3 : Nat → Int) (gv4 : Nat → Int) (gv5 : Nat → Int) (x6 : Int) (out0 : (Nat → Int) → Option ρ) : Nat → Int → (Nat → Int) → Option ρ
  | 0, _, _ => none
  | m + 1, x8, gv9 => (Q43.b1 N K0 ((Q43.l1 N K0 gv0 gv1 gv3 gv4 gv5 x6 out0 m)) out0 gv0 gv1 gv3 gv4 gv5 x6 x8 gv9)
def Q43.l0 {ρ : Type} (N : Nat) (K0 : (Nat → Int) → Option ρ) (gv0 : Nat → Int) (gv1 : Nat → Int) (gv3 : Nat → Int) (gv4 : Nat → Int) (gv5 : Nat → Int) (out0 : (Nat → Int) → Option ρ) : Nat → Int → (Nat → Int) → Option ρ
  | 0, _, _ => none
  | m + 1, x6, gv7 => (Q43.b0 N K0 (fun x8 gv9 => (Q43.l1 N K0 gv0 gv1 gv3 gv4 gv5 x6 (fun ov11 => (Q43.a1_0 N K0 (Q43.l0 N K0 gv0 gv1 gv3 gv4 gv5 out0 m) out0 x6 ov11)) N x8 gv9)) ((Q43.l0 N K0 gv0 gv1 gv3 gv4 gv5 out0 m)) out0 x6 gv7)
def Q43.s {ρ : Type} (N : Nat) (K0 : (Nat → Int) → Option ρ) (lp0 : Int → (Nat → Int) → Option ρ) (gv2 : Nat → Int) : Option ρ :=
  (lp0 0 gv2)
def Q43 {ρ : Type} (N : Nat) (K0 : (Nat → Int) → Option ρ) (gv0 : Nat → Int) (gv1 : Nat → Int) (gv2 : Nat → Int) (gv3 : Nat → Int) (gv4 : Nat → Int) (gv5 : Nat → Int) : Option ρ :=
  (Q43.s N K0 (fun x6 gv7 => (Q43.l0 N K0 gv0 gv1 gv3 gv4 gv5 (fun ov12 => (Q43.a0_0 N K0 ov12)) N x6 gv7)) gv2)
def Q44 {ρ : Type} (N : Nat) (K0 : (Nat → Int) → Option ρ) (gv0 : Nat → Int) (gv1 : Nat → Int) (gv2 : Nat → Int) (gv3 : Nat → Int) : Option ρ :=
  (Q31 N (fun rv4 => (Q43 N (fun rv5 => (K0 rv5)) gv2 rv4 (fun _ => 0) gv3 gv0 gv1)) gv0 gv1)
def Q45.b1 {ρ : Type} (N : Nat) (K0 : (Nat → Int) → Option ρ) (rec : Int → (Nat → Int) → Option ρ) (out0 : (Nat → Int) → Option ρ) (v0 : Nat → Int) (w1 : Nat → Int) (gv3 : Nat → Int) (rv4 : Nat → Int) (x5 : Int) (x7 : Int) (gv8 : Nat → Int) : Option ρ :=
  (if (decide (x7 < (rv4 1))) = true then (if (0 : Int) ≤ x5 ∧ x5 < 8 then (if (0 : Int) ≤ x7 ∧ x7 < 8 then (if (0 : Int) ≤ x5 ∧ x5 < 8 then (if (0 : Int) ≤ x7 ∧ x7 < 8 then (Q33 N (fun rv9 => (rec ((IntKind.i64.wrap (x7 + 1))) rv9)) rv4 ((IntKind.i64.wrap ((IntKind.i64.wrap (v0 (x5.toNat * 1))) * (IntKind.i64.wrap (w1 (x7.toNat * 1)))))) (fun z => (gv3 (((8 + (x5.toNat * 64)) + (x7.toNat * 8)) + z))) gv8) else none) else none) else none) else none) else (out0 gv8))
def Q45.a1_0 {ρ : Type} (N : Nat) (K0 : (Nat → Int) → Option ρ) (rec : Int → (Nat → Int) → Option ρ) (out0 : (Nat → Int) → Option ρ) (x5 : Int) (ov10 : Nat → Int) : Option ρ :=
  (rec ((IntKind.i64.wrap (x5 + 1))) ov10)
def Q45.b0 {ρ : Type} (N : Nat) (K0 : (Nat → Int) → Option ρ) (lp1 : Int → (Nat → Int) → Option ρ) (rec : Int → (Nat → Int) → Option ρ) (out0 : (Nat → Int) → Option ρ) (v0 : Nat → Int) (rv4 : Nat → Int) (x5 : Int) (gv6 : Nat → Int) : Option ρ :=
  (if (decide (x5 < (rv4 1))) = true then (if (0 : Int) ≤ x5 ∧ x5 < 8 then (if ((v0 (x5.toNat * 1)) == 0) = true then (rec ((IntKind.i64.wrap (x5 + 1))) gv6) else (lp1 0 gv6)) else none) else (out0 gv6))
def Q45.a0_0 {ρ : Type} (N : Nat) (K0 : (Nat → Int) → Option ρ) (ov11 : Nat → Int) : Option ρ :=
  (K0 ov11)
def Q45.l1 {ρ : Type} (N : Nat) (K0 : (Nat → Int) → Option ρ) (v0 : Nat → Int) (w1 : Nat → Int) (gv3 : Nat → Int) (rv4 : Nat → Int) (x5 : Int) (out0 : (Nat → Int) → Option ρ) : Nat → Int → (Nat → Int) → Option ρ
  | 0, _, _ => none
  | m + 1, x7, gv8 => (Q45.b1 N K0 ((Q45.l1 N K0 v0 w1 gv3 rv4 x5 out0 m)) out0 v0 w1 gv3 rv4 x5 x7 gv8)
def Q45.l0 {ρ : Type} (N : Nat) (K0 : (Nat → Int) → Option ρ) (v0 : Nat → Int) (w1 : Nat → Int) (gv3 : Nat → Int) (rv4 : Nat → Int) (out0 : (Nat → Int) → Option ρ) : Nat → Int → (Nat → Int) → Option ρ
  | 0, _, _ => none
  | m + 1, x5, gv6 => (Q45.b0 N K0 (fun x7 gv8 => (Q45.l1 N K0 v0 w1 gv3 rv4 x5 (fun ov10 => (Q45.a1_0 N K0 (Q45.l0 N K0 v0 w1 gv3 rv4 out0 m) out0 x5 ov10)) N x7 gv8)) ((Q45.l0 N K0 v0 w1 gv3 rv4 out0 m)) out0 v0 rv4 x5 gv6)
def Q45.s {ρ : Type} (N : Nat) (K0 : (Nat → Int) → Option ρ) (lp0 : (Nat → Int) → Int → (Nat → Int) → Option ρ) (gv2 : Nat → Int) (gv3 : Nat → Int) : Option ρ :=
  (Q31 N (fun rv4 => (lp0 rv4 0 (fun _ => 0))) gv2 gv3)
def Q45 {ρ : Type} (N : Nat) (K0 : (Nat → Int) → Option ρ) (v0 : Nat → Int) (w1 : Nat → Int) (gv2 : Nat → Int) (gv3 : Nat → Int) : Option ρ :=
  (Q45.s N K0 (fun rv4 x5 gv6 => (Q45.l0 N K0 v0 w1 gv3 rv4 (fun ov11 => (Q45.a0_0 N K0 ov11)) N x5 gv6)) gv2 gv3)
def Q46.b1 {ρ : Type} (N : Nat) (K0 : (Nat → Int) → (Nat → Int) → Option ρ) (rec : Int → (Nat → Int) → Option ρ) (out0 : (Nat → Int) → Option ρ) (rv4 : Nat → Int) (x5 : Int) (x7 : Int) (gv8 : Nat → Int) : Option ρ :=
  (if (decide (x7 < (rv4 1))) = true then (Q38 N (fun rv9 rv10 => (if (rv9 != 0) = true then (Q30 N (fun rv11 => (Q34 N (fun rv12 => (if (0 : Int) ≤ x5 ∧ x5 < 8 then (if (0 : Int) ≤ x7 ∧ x7 < 8 then (rec ((IntKind.i64.wrap (x7 + 1))) (updN gv8 ((8 + (x5.toNat * 64)) + (x7.toNat * 8)) 8 rv12)) else none) else none)) rv4 rv9 rv11)) rv10) else (rec ((IntKind.i64.wrap (x7 + 1))) gv8))) x5 x7) else (out0 gv8))
def Q46.a1_0 {ρ : Type} (N : Nat) (K0 : (Nat → Int) → (Nat → Int) → Option ρ) (rec : Int → (Nat → Int) → Option ρ) (out0 : (Nat → Int) → Option ρ) (x5 : Int) (ov13 : Nat → Int) : Option ρ :=
  (rec ((IntKind.i64.wrap (x5 + 1))) ov13)
def Q46.b3 {ρ : Type} (N : Nat) (K0 : (Nat → Int) → (Nat → Int) → Option ρ) (rec : Int → (Nat → Int) → (Nat → Int) → Option ρ) (out0 : (Nat → Int) → (Nat → Int) → Option ρ) (p0 : Int) (size1 : Int) (rv4 : Nat → Int) (x18 : Int) (gv19 : Nat → Int) (x23 : Int) (gv24 : Nat → Int) (gv25 : Nat → Int) : Option ρ :=
  (if (decide (x23 < 2)) = true then (if (0 : Int) ≤ x23 ∧ x23 < 2 then (if ((IntKind.i64.wrap (((BitVec.ofInt (IntKind.i64).bits x18 &&& BitVec.ofInt (IntKind.i64).bits ((upd (upd (fun _ => (0 : Int)) 0 2) 1 4) (0 + (x23.toNat * 1))))).toNat : Int)) == 0) = true then (rec ((IntKind.i64.wrap (x23 + 1))) gv24 gv25) else (if (0 : Int) ≤ ((upd (upd (fun _ => (0 : Int)) 0 2) 1 4) (0 + (x23.toNat * 1))) ∧ ((upd (upd (fun _ => (0 : Int)) 0 2) 1 4) (0 + (x23.toNat * 1))) < 8 then (if (0 : Int) ≤ ((upd (upd (fun _ => (0 : Int)) 0 2) 1 4) (0 + (x23.toNat * 1))) ∧ ((upd (upd (fun _ => (0 : Int)) 0 2) 1 4) (0 + (x23.toNat * 1))) < 8 then (Q44 N (fun rv26 => (Q30 N (fun rv27 => (Q34 N (fun rv28 => (Q45 N (fun rv29 => (rec ((IntKind.i64.wrap (x23 + 1))) rv26 rv29)) rv28 gv25 (upd (upd (fun _ => 0) 0 p0) 1 size1) gv19)) rv4 (-1) rv27)) ((IntKind.i64.wrap (1 + ((upd (upd (fun _ => (0 : Int)) 0 2) 1 4) (0 + (x23.toNat * 1)))))))) (upd (upd (fun _ => 0) 0 p0) 1 size1) gv19 gv24 (upd (upd (fun _ => 0) (8 + ((((upd (upd (fun _ => (0 : Int)) 0 2) 1 4) (0 + (x23.toNat * 1)))).toNat * 1)) 1) (((((upd (upd (fun _ => (0 : Int)) 0 2) 1 4) (0 + (x23.toNat * 1)))).toNat * 8) + 0) 1)) else none) else none)) else none) else (out0 gv24 gv25))
def Q46.a3_0 {ρ : Type} (N : Nat) (K0 : (Nat → Int) → (Nat → Int) → Option ρ) (rec : Int → (Nat → Int) → Option ρ) (out0 : (Nat → Int) → Option ρ) (x18 : Int) (gv19 : Nat → Int) (ov30 : Nat → Int) (ov31 : Nat → Int) : Option ρ :=
  (if (0 : Int) ≤ x18 ∧ x18 < 8 then (if (0 : Int) ≤ x18 ∧ x18 < 8 then (rec ((IntKind.i64.wrap (x18 + 1))) (updN (updN gv19 (528 + (x18.toNat * 64)) 64 ov30) (1040 + (x18.toNat * 8)) 8 ov31)) else none) else none)
def Q46.b4 {ρ : Type} (N : Nat) (K0 : (Nat → Int) → (Nat → Int) → Option ρ) (rec : Int → (Nat → Int) → (Nat → Int) → Option ρ) (out0 : (Nat → Int) → (Nat → Int) → Option ρ) (p0 : Int) (size1 : Int) (rv4 : Nat → Int) (x18 : Int) (gv19 : Nat → Int) (x32 : Int) (gv33 : Nat → Int) (gv34 : Nat → Int) : Option ρ :=
  (if (decide (x32 < 2)) = true then (if (0 : Int) ≤ x32 ∧ x32 < 2 then (if ((IntKind.i64.wrap (((BitVec.ofInt (IntKind.i64).bits x18 &&& BitVec.ofInt (IntKind.i64).bits ((upd (upd (fun _ => (0 : Int)) 0 2) 1 4) (0 + (x32.toNat * 1))))).toNat : Int)) == 0) = true then (rec ((IntKind.i64.wrap (x32 + 1))) gv33 gv34) else (if (0 : Int) ≤ ((upd (upd (fun _ => (0 : Int)) 0 2) 1 4) (0 + (x32.toNat * 1))) ∧ ((upd (upd (fun _ => (0 : Int)) 0 2) 1 4) (0 + (x32.toNat * 1))) < 8 then (if (0 : Int) ≤ ((upd (upd (fun _ => (0 : Int)) 0 2) 1 4) (0 + (x32.toNat * 1))) ∧ ((upd (upd (fun _ => (0 : Int)) 0 2) 1 4) (0 + (x32.toNat * 1))) < 8 then (Q44 N (fun rv35 => (Q30 N (fun rv36 => (Q34 N (fun rv37 => (Q45 N (fun rv38 => (rec ((IntKind.i64.wrap (x32 + 1))) rv35 rv38)) rv37 gv34 (upd (upd (fun _ => 0) 0 p0) 1 size1) gv19)) rv4 (-1) rv36)) ((IntKind.i64.wrap (1 + ((upd (upd (fun _ => (0 : Int)) 0 2) 1 4) (0 + (x32.toNat * 1)))))))) (upd (upd (fun _ => 0) 0 p0) 1 size1) gv19 gv33 (upd (upd (fun _ => 0) (8 + ((((upd (upd (fun _ => (0 : Int)) 0 2) 1 4) (0 + (x32.toNat * 1)))).toNat * 1)) 1) (((((upd (upd (fun _ => (0 : Int)) 0 2) 1 4) (0 + (x32.toNat * 1)))).toNat * 8) + 0) 1)) else none) else none)) else none) else (out0 gv33 gv34))
def Q46.a4_0 {ρ : Type} (N : Nat) (K0 : (Nat → Int) → (Nat → Int) → Option ρ) (rec : Int → (Nat → Int) → Option ρ) (out0 : (Nat → Int) → Option ρ) (x18 : Int) (gv19 : Nat → Int) (ov39 : Nat → Int) (ov40 : Nat → Int) : Option ρ :=
  (if (0 : Int) ≤ x18 ∧ x18 < 8 then (if (0 : Int) ≤ x18 ∧ x18 < 8 then (rec ((IntKind.i64.wrap (x18 + 1))) (updN (updN gv19 (528 + (x18.toNat * 64)) 64 ov39) (1040 + (x18.toNat * 8)) 8 ov40)) else none) else none)
def Q46.b2 {ρ : Type} (N : Nat) (K0 : (Nat → Int) → (Nat → Int) → Option ρ) (lp3 : Int → (Nat → Int) → (Nat → Int) → Option ρ) (lp4 : Int → (Nat → Int) → (Nat → Int) → Option ρ) (rec : Int → (Nat → Int) → Option ρ) (out0 : (Nat → Int) → Option ρ) (p0 : Int) (size1 : Int) (rv4 : Nat → Int) (rv17 : Nat → Int) (x18 : Int) (gv19 : Nat → Int) : Option ρ :=
  (if (decide (x18 < (rv4 1))) = true then (Q39 N (fun rv20 => (if ((Int.tmod x18 2) == 1) = true then (Q44 N (fun rv21 => (Q30 N (fun rv22 => (lp3 0 rv21 rv22)) 1)) (upd (upd (fun _ => 0) 0 p0) 1 size1) gv19 rv20 rv17) else (lp4 0 rv20 (fun z => (gv19 (0 + z)))))) rv4 (fun z => (gv19 (0 + z))) (fun z => (gv19 (0 + z)))) else (out0 gv19))
def Q46.a2_0 {ρ : Type} (N : Nat) (K0 : (Nat → Int) → (Nat → Int) → Option ρ) (p0 : Int) (size1 : Int) (ov41 : Nat → Int) : Option ρ :=
  (K0 (upd (upd (fun _ => 0) 0 p0) 1 size1) ov41)
def Q46.b0 {ρ : Type} (N : Nat) (K0 : (Nat → Int) → (Nat → Int) → Option ρ) (lp1 : Int → (Nat → Int) → Option ρ) (rec : Int → (Nat → Int) → Option ρ) (out0 : (Nat → Int) → Option ρ) (rv4 : Nat → Int) (x5 : Int) (gv6 : Nat → Int) : Option ρ :=
  (if (decide (x5 < (rv4 1))) = true then (lp1 0 gv6) else (out0 gv6))
def Q46.a0_0 {ρ : Type} (N : Nat) (K0 : (Nat → Int) → (Nat → Int) → Option ρ) (lp2 : (Nat → Int) → Int → (Nat → Int) → Option ρ) (rv4 : Nat → Int) (ov14 : Nat → Int) : Option ρ :=
  (Q30 N (fun rv15 => (Q30 N (fun rv16 => (Q39 N (fun rv17 => (lp2 rv17 0 (upd ov14 521 1))) rv4 rv15 rv16)) 1)) 1)
def Q46.l1 {ρ : Type} (N : Nat) (K0 : (Nat → Int) → (Nat → Int) → Option ρ) (rv4 : Nat → Int) (x5 : Int) (out0 : (Nat → Int) → Option ρ) : Nat → Int → (Nat → Int) → Option ρ
  | 0, _, _ => none
  | m + 1, x7, gv8 => (Q46.b1 N K0 ((Q46.l1 N K0 rv4 x5 out0 m)) out0 rv4 x5 x7 gv8)
def Q46.l3 {ρ : Type} (N : Nat) (K0 : (Nat → Int) → (Nat → Int) → Option ρ) (p0 : Int) (size1 : Int) (rv4 : Nat → Int) (x18 : Int) (gv19 : Nat → Int) (out0 : (Nat → Int) → (Nat → Int) → Option ρ) : Nat → Int → (Nat → Int) → (Nat → Int) → Option ρ
  | 0, _, _, _ => none
  | m + 1, x23, gv24, gv25 => (Q46.b3 N K0 ((Q46.l3 N K0 p0 size1 rv4 x18 gv19 out0 m)) out0 p0 size1 rv4 x18 gv19 x23 gv24 gv25)
def Q46.l4 {ρ : Type} (N : Nat) (K0 : (Nat → Int) → (Nat → Int) → Option ρ) (p0 : Int) (size1 : Int) (rv4 : Nat → Int) (x18 : Int) (gv19 : Nat → Int) (out0 : (Nat → Int) → (Nat → Int) → Option ρ) : Nat → Int → (Nat → Int) → (Nat → Int) → Option ρ
  | 0, _, _, _ => none
  | m + 1, x32, gv33, gv34 => (Q46.b4 N K0 ((Q46.l4 N K0 p0 size1 rv4 x18 gv19 out0 m)) out0 p0 size1 rv4 x18 gv19 x32 gv33 gv34)
def Q46.l2 {ρ : Type} (N : Nat) (K0 : (Nat → Int) → (Nat → Int) → Option ρ) (p0 : Int) (size1 : Int) (rv4 : Nat → Int) (rv17 : Nat → Int) (out0 : (Nat → Int) → Option ρ) : Nat → Int → (Nat → Int) → Option ρ
  | 0, _, _ => none
  | m + 1, x18, gv19 => (Q46.b2 N K0 (fun x23 gv24 gv25 => (Q46.l3 N K0 p0 size1 rv4 x18 gv19 (fun ov30 ov31 => (Q46.a3_0 N K0 (Q46.l2 N K0 p0 size1 rv4 rv17 out0 m) out0 x18 gv19 ov30 ov31)) N x23 gv24 gv25)) (fun x32 gv33 gv34 => (Q46.l4 N K0 p0 size1 rv4 x18 gv19 (fun ov39 ov40 => (Q46.a4_0 N K0 (Q46.l2 N K0 p0 size1 rv4 rv17 out0 m) out0 x18 gv19 ov39 ov40)) N x32 gv33 gv34)) ((Q46.l2 N K0 p0 size1 rv4 rv17 out0 m)) out0 p0 size1 rv4 rv17 x18 gv19)
def Q46.l0 {ρ : Type} (N : Nat) (K0 : (Nat → Int) → (Nat → Int) → Option ρ) (rv4 : Nat → Int) (out0 : (Nat → Int) → Option ρ) : Nat → Int → (Nat → Int) → Option ρ
  | 0, _, _ => none
  | m + 1, x5, gv6 => (Q46.b0 N K0 (fun x7 gv8 => (Q46.l1 N K0 rv4 x5 (fun ov13 => (Q46.a1_0 N K0 (Q46.l0 N K0 rv4 out0 m) out0 x5 ov13)) N x7 gv8)) ((Q46.l0 N K0 rv4 out0 m)) out0 rv4 x5 gv6)
def Q46.s {ρ : Type} (N : Nat) (K0 : (Nat → Int) → (Nat → Int) → Option ρ) (lp0 : (Nat → Int) → Int → (Nat → Int) → Option ρ) (p0 : Int) (size1 : Int) : Option ρ :=
  (Q30 N (fun rv2 => (Q30 N (fun rv3 => (Q31 N (fun rv4 => (lp0 rv4 0 (updN (updN (fun _ => 0) 0 8 rv2) 520 8 rv3))) (upd (upd (fun _ => 0) 0 p0) 1 size1) (updN (updN (fun _ => 0) 0 8 rv2) 520 8 rv3))) 0)) 0)
def Q46 {ρ : Type} (N : Nat) (K0 : (Nat → Int) → (Nat → Int) → Option ρ) (p0 : Int) (size1 : Int) : Option ρ :=
  (Q46.s N K0 (fun rv4 x5 gv6 => (Q46.l0 N K0 rv4 (fun ov14 => (Q46.a0_0 N K0 (fun rv17 x18 gv19 => (Q46.l2 N K0 p0 size1 rv4 rv17 (fun ov41 => (Q46.a2_0 N K0 p0 size1 ov41)) N x18 gv19)) rv4 ov14)) N x5 gv6)) p0 size1)
def Q47 {ρ : Type} (N : Nat) (K0 : (Nat → Int) → (Nat → Int) → Int → Option ρ) (p0 : Int) : Option ρ :=
  (Q37 N (fun rv1 => (if (!rv1) = true then (K0 (fun _ => 0) (fun _ => 0) 2) else (Q46 N (fun rv2 rv3 => (K0 rv2 rv3 0)) p0 4))) p0)
def Q48 {ρ : Type} (N : Nat) (K0 : (Nat → Int) → (Nat → Int) → Int → Option ρ) (p0 : Int) : Option ρ :=
  (Q37 N (fun rv1 => (if (!rv1) = true then (K0 (fun _ => 0) (fun _ => 0) 2) else (Q46 N (fun rv2 rv3 => (K0 rv2 rv3 0)) p0 8))) p0)
def Q49 {ρ : Type} (N : Nat) (K0 : Bool → Option ρ) (s0 : ByteArray) (prefix1 : ByteArray) : Option ρ :=
  (if (decide ((s0.size : Int) ≥ (prefix1.size : Int))) = true then (if (0 : Int) ≤ (0 : Int) ∧ (0 : Int) ≤ (prefix1.size : Int) ∧ (prefix1.size : Int) ≤ (s0.size : Int) then (K0 ((strEq (s0.extract 0 ((prefix1.size : Int)).toNat) prefix1))) else none) else (K0 false))
def Q50 {ρ : Type} (N : Nat) (K0 : ByteArray → Bool → Option ρ) (s0 : ByteArray) (prefix1 : ByteArray) : Option ρ :=
  (Q49 N (fun rv2 => (if (!rv2) = true then (K0 s0 false) else (if (0 : Int) ≤ (prefix1.size : Int) ∧ (prefix1.size : Int) ≤ (s0.size : Int) ∧ (s0.size : Int) ≤ (s0.size : Int) then (K0 (s0.extract ((prefix1.size : Int)).toNat ((s0.size : Int)).toNat) true) else none))) s0 prefix1)
def Q51 {ρ : Type} (N : Nat) (K0 : ByteArray → Bool → Option ρ) (s0 : ByteArray) (prefix1 : ByteArray) : Option ρ :=
  (Q50 N (fun rv2 rv3 => (K0 rv2 (rv3))) s0 prefix1)
def Q52 {ρ : Type} (N : Nat) (K0 : Int → Option ρ) (i0 : Int) (j1 : Int) (gv2 : Nat → Int) : Option ρ :=
  (if (gv2 0) = 0 then none else (K0 ((Int.tmod (IntKind.i64.wrap (i0 + j1)) (gv2 0)))))
def Q53.b1 {ρ : Type} (N : Nat) (K0 : Nat → Nat → (Nat → Nat) → (Nat → Nat) → (Nat → Int) → Option ρ) (rec : Nat → Int → (Nat → Int) → Option ρ) (out0 : Nat → (Nat → Int) → Option ρ) (nv0 : Int) (gv1 : Nat → Int) (x3 : Int) (row8 : Nat) (x9 : Int) (gv10 : Nat → Int) : Option ρ :=
  (if (decide (x9 < nv0)) = true then (Q52 N (fun rv11 => (if (row8 + 1) * 8 ≤ 140737488355328 then (rec (row8 + 1) ((IntKind.i64.wrap (x9 + 1))) (joinN (row8 * 1) gv10 (upd (fun _ => 0) 0 rv11))) else none)) x3 x9 gv1) else (out0 row8 gv10))
def Q53.a1_0 {ρ : Type} (N : Nat) (K0 : Nat → Nat → (Nat → Nat) → (Nat → Nat) → (Nat → Int) → Option ρ) (rec : Nat → Int → Nat → (Nat → Nat) → (Nat → Nat) → (Nat → Int) → Option ρ) (out0 : Nat → Nat → (Nat → Nat) → (Nat → Nat) → (Nat → Int) → Option ρ) (outv2 : Nat) (x3 : Int) (gv4 : Nat) (gv5 : Nat → Nat) (gv6 : Nat → Nat) (gv7 : Nat → Int) (ov12 : Nat) (ov13 : Nat → Int) : Option ρ :=
  (if (outv2 + 1) * 24 ≤ 140737488355328 then (rec (outv2 + 1) ((IntKind.i64.wrap (x3 + 1))) (gv4 + ov12) (upd gv5 outv2 gv4) (upd gv6 outv2 ov12) (joinN gv4 gv7 ov13)) else none)
def Q53.b0 {ρ : Type} (N : Nat) (K0 : Nat → Nat → (Nat → Nat) → (Nat → Nat) → (Nat → Int) → Option ρ) (lp1 : Nat → Int → (Nat → Int) → Option ρ) (rec : Nat → Int → Nat → (Nat → Nat) → (Nat → Nat) → (Nat → Int) → Option ρ) (out0 : Nat → Nat → (Nat → Nat) → (Nat → Nat) → (Nat → Int) → Option ρ) (nv0 : Int) (outv2 : Nat) (x3 : Int) (gv4 : Nat) (gv5 : Nat → Nat) (gv6 : Nat → Nat) (gv7 : Nat → Int) : Option ρ :=
  (if (decide (x3 < nv0)) = true then (lp1 0 0 (fun _ => 0)) else (out0 outv2 gv4 gv5 gv6 gv7))
def Q53.a0_0 {ρ : Type} (N : Nat) (K0 : Nat → Nat → (Nat → Nat) → (Nat → Nat) → (Nat → Int) → Option ρ) (ov14 : Nat) (ov15 : Nat) (ov16 : Nat → Nat) (ov17 : Nat → Nat) (ov18 : Nat → Int) : Option ρ :=
  (K0 ov14 ov15 ov16 ov17 ov18)
def Q53.l1 {ρ : Type} (N : Nat) (K0 : Nat → Nat → (Nat → Nat) → (Nat → Nat) → (Nat → Int) → Option ρ) (nv0 : Int) (gv1 : Nat → Int) (x3 : Int) (out0 : Nat → (Nat → Int) → Option ρ) : Nat → Nat → Int → (Nat → Int) → Option ρ
  | 0, _, _, _ => none
  | m + 1, row8, x9, gv10 => (Q53.b1 N K0 ((Q53.l1 N K0 nv0 gv1 x3 out0 m)) out0 nv0 gv1 x3 row8 x9 gv10)
def Q53.l0 {ρ : Type} (N : Nat) (K0 : Nat → Nat → (Nat → Nat) → (Nat → Nat) → (Nat → Int) → Option ρ) (nv0 : Int) (gv1 : Nat → Int) (out0 : Nat → Nat → (Nat → Nat) → (Nat → Nat) → (Nat → Int) → Option ρ) : Nat → Nat → Int → Nat → (Nat → Nat) → (Nat → Nat) → (Nat → Int) → Option ρ
  | 0, _, _, _, _, _, _ => none
  | m + 1, outv2, x3, gv4, gv5, gv6, gv7 => (Q53.b0 N K0 (fun row8 x9 gv10 => (Q53.l1 N K0 nv0 gv1 x3 (fun ov12 ov13 => (Q53.a1_0 N K0 (Q53.l0 N K0 nv0 gv1 out0 m) out0 outv2 x3 gv4 gv5 gv6 gv7 ov12 ov13)) N row8 x9 gv10)) ((Q53.l0 N K0 nv0 gv1 out0 m)) out0 nv0 outv2 x3 gv4 gv5 gv6 gv7)
def Q53.s {ρ : Type} (N : Nat) (K0 : Nat → Nat → (Nat → Nat) → (Nat → Nat) → (Nat → Int) → Option ρ) (lp0 : Nat → Int → Nat → (Nat → Nat) → (Nat → Nat) → (Nat → Int) → Option ρ) : Option ρ :=
  (lp0 0 0 0 (fun _ => 0) (fun _ => 0) (fun _ => 0))
def Q53 {ρ : Type} (N : Nat) (K0 : Nat → Nat → (Nat → Nat) → (Nat → Nat) → (Nat → Int) → Option ρ) (nv0 : Int) (gv1 : Nat → Int) : Option ρ :=
  (Q53.s N K0 (fun outv2 x3 gv4 gv5 gv6 gv7 => (Q53.l0 N K0 nv0 gv1 (fun ov14 ov15 ov16 ov17 ov18 => (Q53.a0_0 N K0 ov14 ov15 ov16 ov17 ov18)) N outv2 x3 gv4 gv5 gv6 gv7)))
def Q54 {ρ : Type} (N : Nat) (K0 : Nat → Nat → (Nat → Nat) → (Nat → Nat) → (Nat → Int) → Option ρ) (nv0 : Int) : Option ρ :=
  (Q53 N (fun rv1 rv2 rv3 rv4 rv5 => (K0 rv1 rv2 rv3 rv4 rv5)) nv0 (fun _ => nv0))
def Q55 {ρ : Type} (N : Nat) (K0 : Int → Option ρ) (x0 : Int) (y1 : Int) (gv2 : Nat → Int) (gv3 : Nat) (gv4 : Nat) (gv5 : Nat) (gv6 : Nat) (gv7 : Nat → Nat) (gv8 : Nat → Nat) (gv9 : Nat) (gv10 : Nat) (gv11 : Nat → Nat) (gv12 : Nat → Nat) (gv13 : Nat → Int) (gv14 : Nat → Int) : Option ρ :=
  (if (gv2 0) = 0 then none else (if (0 : Int) ≤ (IntKind.i64.wrap (Int.tdiv x0 (gv2 0))) ∧ (IntKind.i64.wrap (Int.tdiv x0 (gv2 0))) < (gv3 : Int) then (if (gv2 0) = 0 then none else (if (0 : Int) ≤ (IntKind.i64.wrap (Int.tdiv y1 (gv2 0))) ∧ (IntKind.i64.wrap (Int.tdiv y1 (gv2 0))) < (((gv8 (0 + (((IntKind.i64.wrap (Int.tdiv x0 (gv2 0)))).toNat * 1))) : Nat) : Int) then (if (gv2 0) = 0 then none else (if (0 : Int) ≤ (Int.tmod x0 (gv2 0)) ∧ (Int.tmod x0 (gv2 0)) < (gv4 : Int) then (if (gv2 0) = 0 then none else (if (0 : Int) ≤ (Int.tmod y1 (gv2 0)) ∧ (Int.tmod y1 (gv2 0)) < (((gv12 (0 + (((Int.tmod x0 (gv2 0))).toNat * 1))) : Nat) : Int) then (K0 ((IntKind.i64.wrap ((IntKind.i64.wrap ((gv2 0) * (gv13 ((gv7 (0 + (((IntKind.i64.wrap (Int.tdiv x0 (gv2 0)))).toNat * 1))) + (((IntKind.i64.wrap (Int.tdiv y1 (gv2 0)))).toNat * 1))))) + (gv14 ((gv11 (0 + (((Int.tmod x0 (gv2 0))).toNat * 1))) + (((Int.tmod y1 (gv2 0))).toNat * 1))))))) else none)) else none)) else none)) else none))
def Q56.b1 {ρ : Type} (N : Nat) (K0 : Nat → Nat → (Nat → Nat) → (Nat → Nat) → (Nat → Int) → Option ρ) (rec : Nat → Int → (Nat → Int) → Option ρ) (out0 : Nat → (Nat → Int) → Option ρ) (nv0 : Int) (gv1 : Nat → Int) (gv2 : Nat) (gv3 : Nat) (gv5 : Nat) (gv6 : Nat → Nat) (gv7 : Nat → Nat) (gv9 : Nat) (gv10 : Nat → Nat) (gv11 : Nat → Nat) (gv12 : Nat → Int) (gv13 : Nat → Int) (x15 : Int) (row20 : Nat) (x21 : Int) (gv22 : Nat → Int) : Option ρ :=
  (if (decide (x21 < nv0)) = true then (Q55 N (fun rv23 => (if (row20 + 1) * 8 ≤ 140737488355328 then (rec (row20 + 1) ((IntKind.i64.wrap (x21 + 1))) (joinN (row20 * 1) gv22 (upd (fun _ => 0) 0 rv23))) else none)) x15 x21 gv1 gv2 gv3 (gv2 * 1) gv5 (offN 0 gv6) (offN 0 gv7) (gv3 * 1) gv9 (offN 0 gv10) (offN 0 gv11) gv12 gv13) else (out0 row20 gv22))
def Q56.a1_0 {ρ : Type} (N : Nat) (K0 : Nat → Nat → (Nat → Nat) → (Nat → Nat) → (Nat → Int) → Option ρ) (rec : Nat → Int → Nat → (Nat → Nat) → (Nat → Nat) → (Nat → Int) → Option ρ) (out0 : Nat → Nat → (Nat → Nat) → (Nat → Nat) → (Nat → Int) → Option ρ) (outv14 : Nat) (x15 : Int) (gv16 : Nat) (gv17 : Nat → Nat) (gv18 : Nat → Nat) (gv19 : Nat → Int) (ov24 : Nat) (ov25 : Nat → Int) : Option ρ :=
  (if (outv14 + 1) * 24 ≤ 140737488355328 then (rec (outv14 + 1) ((IntKind.i64.wrap (x15 + 1))) (gv16 + ov24) (upd gv17 outv14 gv16) (upd gv18 outv14 ov24) (joinN gv16 gv19 ov25)) else none)
def Q56.b0 {ρ : Type} (N : Nat) (K0 : Nat → Nat → (Nat → Nat) → (Nat → Nat) → (Nat → Int) → Option ρ) (lp1 : Nat → Int → (Nat → Int) → Option ρ) (rec : Nat → Int → Nat → (Nat → Nat) → (Nat → Nat) → (Nat → Int) → Option ρ) (out0 : Nat → Nat → (Nat → Nat) → (Nat → Nat) → (Nat → Int) → Option ρ) (nv0 : Int) (outv14 : Nat) (x15 : Int) (gv16 : Nat) (gv17 : Nat → Nat) (gv18 : Nat → Nat) (gv19 : Nat → Int) : Option ρ :=
  (if (decide (x15 < nv0)) = true then (lp1 0 0 (fun _ => 0)) else (out0 outv14 gv16 gv17 gv18 gv19))
def Q56.a0_0 {ρ : Type} (N : Nat) (K0 : Nat → Nat → (Nat → Nat) → (Nat → Nat) → (Nat → Int) → Option ρ) (ov26 : Nat) (ov27 : Nat) (ov28 : Nat → Nat) (ov29 : Nat → Nat) (ov30 : Nat → Int) : Option ρ :=
  (K0 ov26 ov27 ov28 ov29 ov30)
def Q56.l1 {ρ : Type} (N : Nat) (K0 : Nat → Nat → (Nat → Nat) → (Nat → Nat) → (Nat → Int) → Option ρ) (nv0 : Int) (gv1 : Nat → Int) (gv2 : Nat) (gv3 : Nat) (gv5 : Nat) (gv6 : Nat → Nat) (gv7 : Nat → Nat) (gv9 : Nat) (gv10 : Nat → Nat) (gv11 : Nat → Nat) (gv12 : Nat → Int) (gv13 : Nat → Int) (x15 : Int) (out0 : Nat → (Nat → Int) → Option ρ) : Nat → Nat → Int → (Nat → Int) → Option ρ
  | 0, _, _, _ => none
  | m + 1, row20, x21, gv22 => (Q56.b1 N K0 ((Q56.l1 N K0 nv0 gv1 gv2 gv3 gv5 gv6 gv7 gv9 gv10 gv11 gv12 gv13 x15 out0 m)) out0 nv0 gv1 gv2 gv3 gv5 gv6 gv7 gv9 gv10 gv11 gv12 gv13 x15 row20 x21 gv22)
def Q56.l0 {ρ : Type} (N : Nat) (K0 : Nat → Nat → (Nat → Nat) → (Nat → Nat) → (Nat → Int) → Option ρ) (nv0 : Int) (gv1 : Nat → Int) (gv2 : Nat) (gv3 : Nat) (gv5 : Nat) (gv6 : Nat → Nat) (gv7 : Nat → Nat) (gv9 : Nat) (gv10 : Nat → Nat) (gv11 : Nat → Nat) (gv12 : Nat → Int) (gv13 : Nat → Int) (out0 : Nat → Nat → (Nat → Nat) → (Nat → Nat) → (Nat → Int) → Option ρ) : Nat → Nat → Int → Nat → (Nat → Nat) → (Nat → Nat) → (Nat → Int) → Option ρ
  | 0, _, _, _, _, _, _ => none
  | m + 1, outv14, x15, gv16, gv17, gv18, gv19 => (Q56.b0 N K0 (fun row20 x21 gv22 => (Q56.l1 N K0 nv0 gv1 gv2 gv3 gv5 gv6 gv7 gv9 gv10 gv11 gv12 gv13 x15 (fun ov24 ov25 => (Q56.a1_0 N K0 (Q56.l0 N K0 nv0 gv1 gv2 gv3 gv5 gv6 gv7 gv9 gv10 gv11 gv12 gv13 out0 m) out0 outv14 x15 gv16 gv17 gv18 gv19 ov24 ov25)) N row20 x21 gv22)) ((Q56.l0 N K0 nv0 gv1 gv2 gv3 gv5 gv6 gv7 gv9 gv10 gv11 gv12 gv13 out0 m)) out0 nv0 outv14 x15 gv16 gv17 gv18 gv19)
def Q56.s {ρ : Type} (N : Nat) (K0 : Nat → Nat → (Nat → Nat) → (Nat → Nat) → (Nat → Int) → Option ρ) (lp0 : Nat → Int → Nat → (Nat → Nat) → (Nat → Nat) → (Nat → Int) → Option ρ) : Option ρ :=
  (lp0 0 0 0 (fun _ => 0) (fun _ => 0) (fun _ => 0))
def Q56 {ρ : Type} (N : Nat) (K0 : Nat → Nat → (Nat → Nat) → (Nat → Nat) → (Nat → Int) → Option ρ) (nv0 : Int) (gv1 : Nat → Int) (gv2 : Nat) (gv3 : Nat) (gv4 : Nat) (gv5 : Nat) (gv6 : Nat → Nat) (gv7 : Nat → Nat) (gv8 : Nat) (gv9 : Nat) (gv10 : Nat → Nat) (gv11 : Nat → Nat) (gv12 : Nat → Int) (gv13 : Nat → Int) : Option ρ :=
  (Q56.s N K0 (fun outv14 x15 gv16 gv17 gv18 gv19 => (Q56.l0 N K0 nv0 gv1 gv2 gv3 gv5 gv6 gv7 gv9 gv10 gv11 gv12 gv13 (fun ov26 ov27 ov28 ov29 ov30 => (Q56.a0_0 N K0 ov26 ov27 ov28 ov29 ov30)) N outv14 x15 gv16 gv17 gv18 gv19)))
def Q57 {ρ : Type} (N : Nat) (K0 : Nat → Nat → (Nat → Nat) → (Nat → Nat) → (Nat → Int) → Option ρ) (av0 : Nat) (bv1 : Nat) (gv2 : Nat) (gv3 : Nat) (gv4 : Nat → Nat) (gv5 : Nat → Nat) (gv6 : Nat) (gv7 : Nat) (gv8 : Nat → Nat) (gv9 : Nat → Nat) (gv10 : Nat → Int) (gv11 : Nat → Int) : Option ρ :=
  (Q56 N (fun rv12 rv13 rv14 rv15 rv16 => (K0 rv12 rv13 rv14 rv15 rv16)) ((IntKind.i64.wrap ((av0 : Int) * (bv1 : Int)))) (fun _ => (bv1 : Int)) av0 bv1 (av0 * 1) gv3 (offN 0 gv4) (offN 0 gv5) (bv1 * 1) gv7 (offN 0 gv8) (offN 0 gv9) gv10 gv11)
def Q58 {ρ : Type} (N : Nat) (K0 : Int → Option ρ) (i0 : Int) (j1 : Int) (gv2 : Nat → Int) : Option ρ :=
  (if (gv2 0) = 0 then none else (if (gv2 0) = 0 then none else (if (gv2 0) = 0 then none else (if (gv2 0) = 0 then none else (if ((IntKind.i64.wrap (Int.tdiv i0 (gv2 0))) == 1) = true then (if (gv2 0) = 0 then none else (K0 ((IntKind.i64.wrap ((Int.tmod (IntKind.i64.wrap ((Int.tmod i0 (gv2 0)) + (IntKind.i64.wrap ((gv2 0) - (Int.tmod j1 (gv2 0)))))) (gv2 0)) + (IntKind.i64.wrap ((gv2 0) * (Int.tmod (IntKind.i64.wrap ((IntKind.i64.wrap (Int.tdiv i0 (gv2 0))) + (IntKind.i64.wrap (Int.tdiv j1 (gv2 0))))) 2)))))))) else (if (gv2 0) = 0 then none else (K0 ((IntKind.i64.wrap ((Int.tmod (IntKind.i64.wrap ((Int.tmod i0 (gv2 0)) + (Int.tmod j1 (gv2 0)))) (gv2 0)) + (IntKind.i64.wrap ((gv2 0) * (Int.tmod (IntKind.i64.wrap ((IntKind.i64.wrap (Int.tdiv i0 (gv2 0))) + (IntKind.i64.wrap (Int.tdiv j1 (gv2 0))))) 2)))))))))))))
def Q59.b1 {ρ : Type} (N : Nat) (K0 : Nat → Nat → (Nat → Nat) → (Nat → Nat) → (Nat → Int) → Option ρ) (rec : Nat → Int → (Nat → Int) → Option ρ) (out0 : Nat → (Nat → Int) → Option ρ) (nv0 : Int) (gv1 : Nat → Int) (x3 : Int) (row8 : Nat) (x9 : Int) (gv10 : Nat → Int) : Option ρ :=
  (if (decide (x9 < nv0)) = true then (Q58 N (fun rv11 => (if (row8 + 1) * 8 ≤ 140737488355328 then (rec (row8 + 1) ((IntKind.i64.wrap (x9 + 1))) (joinN (row8 * 1) gv10 (upd (fun _ => 0) 0 rv11))) else none)) x3 x9 gv1) else (out0 row8 gv10))
def Q59.a1_0 {ρ : Type} (N : Nat) (K0 : Nat → Nat → (Nat → Nat) → (Nat → Nat) → (Nat → Int) → Option ρ) (rec : Nat → Int → Nat → (Nat → Nat) → (Nat → Nat) → (Nat → Int) → Option ρ) (out0 : Nat → Nat → (Nat → Nat) → (Nat → Nat) → (Nat → Int) → Option ρ) (outv2 : Nat) (x3 : Int) (gv4 : Nat) (gv5 : Nat → Nat) (gv6 : Nat → Nat) (gv7 : Nat → Int) (ov12 : Nat) (ov13 : Nat → Int) : Option ρ :=
  (if (outv2 + 1) * 24 ≤ 140737488355328 then (rec (outv2 + 1) ((IntKind.i64.wrap (x3 + 1))) (gv4 + ov12) (upd gv5 outv2 gv4) (upd gv6 outv2 ov12) (joinN gv4 gv7 ov13)) else none)
def Q59.b0 {ρ : Type} (N : Nat) (K0 : Nat → Nat → (Nat → Nat) → (Nat → Nat) → (Nat → Int) → Option ρ) (lp1 : Nat → Int → (Nat → Int) → Option ρ) (rec : Nat → Int → Nat → (Nat → Nat) → (Nat → Nat) → (Nat → Int) → Option ρ) (out0 : Nat → Nat → (Nat → Nat) → (Nat → Nat) → (Nat → Int) → Option ρ) (nv0 : Int) (outv2 : Nat) (x3 : Int) (gv4 : Nat) (gv5 : Nat → Nat) (gv6 : Nat → Nat) (gv7 : Nat → Int) : Option ρ :=
  (if (decide (x3 < nv0)) = true then (lp1 0 0 (fun _ => 0)) else (out0 outv2 gv4 gv5 gv6 gv7))
def Q59.a0_0 {ρ : Type} (N : Nat) (K0 : Nat → Nat → (Nat → Nat) → (Nat → Nat) → (Nat → Int) → Option ρ) (ov14 : Nat) (ov15 : Nat) (ov16 : Nat → Nat) (ov17 : Nat → Nat) (ov18 : Nat → Int) : Option ρ :=
  (K0 ov14 ov15 ov16 ov17 ov18)
def Q59.l1 {ρ : Type} (N : Nat) (K0 : Nat → Nat → (Nat → Nat) → (Nat → Nat) → (Nat → Int) → Option ρ) (nv0 : Int) (gv1 : Nat → Int) (x3 : Int) (out0 : Nat → (Nat → Int) → Option ρ) : Nat → Nat → Int → (Nat → Int) → Option ρ
  | 0, _, _, _ => none
  | m + 1, row8, x9, gv10 => (Q59.b1 N K0 ((Q59.l1 N K0 nv0 gv1 x3 out0 m)) out0 nv0 gv1 x3 row8 x9 gv10)
def Q59.l0 {ρ : Type} (N : Nat) (K0 : Nat → Nat → (Nat → Nat) → (Nat → Nat) → (Nat → Int) → Option ρ) (nv0 : Int) (gv1 : Nat → Int) (out0 : Nat → Nat → (Nat → Nat) → (Nat → Nat) → (Nat → Int) → Option ρ) : Nat → Nat → Int → Nat → (Nat → Nat) → (Nat → Nat) → (Nat → Int) → Option ρ
  | 0, _, _, _, _, _, _ => none
  | m + 1, outv2, x3, gv4, gv5, gv6, gv7 => (Q59.b0 N K0 (fun row8 x9 gv10 => (Q59.l1 N K0 nv0 gv1 x3 (fun ov12 ov13 => (Q59.a1_0 N K0 (Q59.l0 N K0 nv0 gv1 out0 m) out0 outv2 x3 gv4 gv5 gv6 gv7 ov12 ov13)) N row8 x9 gv10)) ((Q59.l0 N K0 nv0 gv1 out0 m)) out0 nv0 outv2 x3 gv4 gv5 gv6 gv7)
def Q59.s {ρ : Type} (N : Nat) (K0 : Nat → Nat → (Nat → Nat) → (Nat → Nat) → (Nat → Int) → Option ρ) (lp0 : Nat → Int → Nat → (Nat → Nat) → (Nat → Nat) → (Nat → Int) → Option ρ) : Option ρ :=
  (lp0 0 0 0 (fun _ => 0) (fun _ => 0) (fun _ => 0))
def Q59 {ρ : Type} (N : Nat) (K0 : Nat → Nat → (Nat → Nat) → (Nat → Nat) → (Nat → Int) → Option ρ) (nv0 : Int) (gv1 : Nat → Int) : Option ρ :=
  (Q59.s N K0 (fun outv2 x3 gv4 gv5 gv6 gv7 => (Q59.l0 N K0 nv0 gv1 (fun ov14 ov15 ov16 ov17 ov18 => (Q59.a0_0 N K0 ov14 ov15 ov16 ov17 ov18)) N outv2 x3 gv4 gv5 gv6 gv7)))
def Q60 {ρ : Type} (N : Nat) (K0 : Nat → Nat → (Nat → Nat) → (Nat → Nat) → (Nat → Int) → Option ρ) (nv0 : Int) : Option ρ :=
  (Q59 N (fun rv1 rv2 rv3 rv4 rv5 => (K0 rv1 rv2 rv3 rv4 rv5)) ((IntKind.i64.wrap (2 * nv0))) (fun _ => nv0))
def Q61 {ρ : Type} (N : Nat) (K0 : Int → Option ρ) (av0 : Int) (bv1 : Int) : Option ρ :=
  (if (av0 == 0) = true then (K0 ((IntKind.i64.wrap (av0 + bv1)))) else (if (bv1 == 0) = true then (K0 ((IntKind.i64.wrap (av0 + bv1)))) else (if (av0 == bv1) = true then (K0 4) else (if ((IntKind.i64.wrap ((Int.tmod av0 3) + 1)) == bv1) = true then (K0 ((IntKind.i64.wrap ((IntKind.i64.wrap (6 - av0)) - bv1)))) else (K0 ((IntKind.i64.wrap ((IntKind.i64.wrap ((IntKind.i64.wrap (6 - av0)) - bv1)) + 4))))))))
def Q62 {ρ : Type} (N : Nat) (K0 : Int → Option ρ) (i0 : Int) (j1 : Int) : Option ρ :=
  (Q61 N (fun rv2 => (K0 ((IntKind.i64.wrap ((Int.tmod rv2 4) + (IntKind.i64.wrap (4 * (Int.tmod (IntKind.i64.wrap ((IntKind.i64.wrap ((IntKind.i64.wrap (Int.tdiv rv2 4)) + (IntKind.i64.wrap (Int.tdiv i0 4)))) + (IntKind.i64.wrap (Int.tdiv j1 4)))) 2)))))))) ((Int.tmod i0 4)) ((Int.tmod j1 4)))
def Q63.b1 {ρ : Type} (N : Nat) (K0 : Nat → Nat → (Nat → Nat) → (Nat → Nat) → (Nat → Int) → Option ρ) (rec : Nat → Int → (Nat → Int) → Option ρ) (out0 : Nat → (Nat → Int) → Option ρ) (nv0 : Int) (x2 : Int) (row7 : Nat) (x8 : Int) (gv9 : Nat → Int) : Option ρ :=
  (if (decide (x8 < nv0)) = true then (Q62 N (fun rv10 => (if (row7 + 1) * 8 ≤ 140737488355328 then (rec (row7 + 1) ((IntKind.i64.wrap (x8 + 1))) (joinN (row7 * 1) gv9 (upd (fun _ => 0) 0 rv10))) else none)) x2 x8) else (out0 row7 gv9))
def Q63.a1_0 {ρ : Type} (N : Nat) (K0 : Nat → Nat → (Nat → Nat) → (Nat → Nat) → (Nat → Int) → Option ρ) (rec : Nat → Int → Nat → (Nat → Nat) → (Nat → Nat) → (Nat → Int) → Option ρ) (out0 : Nat → Nat → (Nat → Nat) → (Nat → Nat) → (Nat → Int) → Option ρ) (outv1 : Nat) (x2 : Int) (gv3 : Nat) (gv4 : Nat → Nat) (gv5 : Nat → Nat) (gv6 : Nat → Int) (ov11 : Nat) (ov12 : Nat → Int) : Option ρ :=
  (if (outv1 + 1) * 24 ≤ 140737488355328 then (rec (outv1 + 1) ((IntKind.i64.wrap (x2 + 1))) (gv3 + ov11) (upd gv4 outv1 gv3) (upd gv5 outv1 ov11) (joinN gv3 gv6 ov12)) else none)
def Q63.b0 {ρ : Type} (N : Nat) (K0 : Nat → Nat → (Nat → Nat) → (Nat → Nat) → (Nat → Int) → Option ρ) (lp1 : Nat → Int → (Nat → Int) → Option ρ) (rec : Nat → Int → Nat → (Nat → Nat) → (Nat → Nat) → (Nat → Int) → Option ρ) (out0 : Nat → Nat → (Nat → Nat) → (Nat → Nat) → (Nat → Int) → Option ρ) (nv0 : Int) (outv1 : Nat) (x2 : Int) (gv3 : Nat) (gv4 : Nat → Nat) (gv5 : Nat → Nat) (gv6 : Nat → Int) : Option ρ :=
  (if (decide (x2 < nv0)) = true then (lp1 0 0 (fun _ => 0)) else (out0 outv1 gv3 gv4 gv5 gv6))
def Q63.a0_0 {ρ : Type} (N : Nat) (K0 : Nat → Nat → (Nat → Nat) → (Nat → Nat) → (Nat → Int) → Option ρ) (ov13 : Nat) (ov14 : Nat) (ov15 : Nat → Nat) (ov16 : Nat → Nat) (ov17 : Nat → Int) : Option ρ :=
  (K0 ov13 ov14 ov15 ov16 ov17)
def Q63.l1 {ρ : Type} (N : Nat) (K0 : Nat → Nat → (Nat → Nat) → (Nat → Nat) → (Nat → Int) → Option ρ) (nv0 : Int) (x2 : Int) (out0 : Nat → (Nat → Int) → Option ρ) : Nat → Nat → Int → (Nat → Int) → Option ρ
  | 0, _, _, _ => none
  | m + 1, row7, x8, gv9 => (Q63.b1 N K0 ((Q63.l1 N K0 nv0 x2 out0 m)) out0 nv0 x2 row7 x8 gv9)
def Q63.l0 {ρ : Type} (N : Nat) (K0 : Nat → Nat → (Nat → Nat) → (Nat → Nat) → (Nat → Int) → Option ρ) (nv0 : Int) (out0 : Nat → Nat → (Nat → Nat) → (Nat → Nat) → (Nat → Int) → Option ρ) : Nat → Nat → Int → Nat → (Nat → Nat) → (Nat → Nat) → (Nat → Int) → Option ρ
  | 0, _, _, _, _, _, _ => none
  | m + 1, outv1, x2, gv3, gv4, gv5, gv6 => (Q63.b0 N K0 (fun row7 x8 gv9 => (Q63.l1 N K0 nv0 x2 (fun ov11 ov12 => (Q63.a1_0 N K0 (Q63.l0 N K0 nv0 out0 m) out0 outv1 x2 gv3 gv4 gv5 gv6 ov11 ov12)) N row7 x8 gv9)) ((Q63.l0 N K0 nv0 out0 m)) out0 nv0 outv1 x2 gv3 gv4 gv5 gv6)
def Q63.s {ρ : Type} (N : Nat) (K0 : Nat → Nat → (Nat → Nat) → (Nat → Nat) → (Nat → Int) → Option ρ) (lp0 : Nat → Int → Nat → (Nat → Nat) → (Nat → Nat) → (Nat → Int) → Option ρ) : Option ρ :=
  (lp0 0 0 0 (fun _ => 0) (fun _ => 0) (fun _ => 0))
def Q63 {ρ : Type} (N : Nat) (K0 : Nat → Nat → (Nat → Nat) → (Nat → Nat) → (Nat → Int) → Option ρ) (nv0 : Int) : Option ρ :=
  (Q63.s N K0 (fun outv1 x2 gv3 gv4 gv5 gv6 => (Q63.l0 N K0 nv0 (fun ov13 ov14 ov15 ov16 ov17 => (Q63.a0_0 N K0 ov13 ov14 ov15 ov16 ov17)) N outv1 x2 gv3 gv4 gv5 gv6)))
def Q64 {ρ : Type} (N : Nat) (K0 : Nat → Nat → (Nat → Nat) → (Nat → Nat) → (Nat → Int) → Option ρ) : Option ρ :=
  (Q63 N (fun rv0 rv1 rv2 rv3 rv4 => (K0 rv0 rv1 rv2 rv3 rv4)) 8)
def Q65 {ρ : Type} (N : Nat) (K0 : Nat → Nat → (Nat → Nat) → (Nat → Nat) → (Nat → Int) → Option ρ) (K1 : Option ρ) (name0 : ByteArray) : Option ρ :=
  (Q51 N (fun rv1 rv2 => (if rv2 = true then (if ((rv1.size : Int) == 1) = true then (if (0 : Int) ≤ 0 ∧ 0 < (rv1.size : Int) then (if (decide ((bt rv1 0) ≥ 49)) = true then (if (0 : Int) ≤ 0 ∧ 0 < (rv1.size : Int) then (if (decide ((bt rv1 0) ≤ 56)) = true then (if (0 : Int) ≤ 0 ∧ 0 < (rv1.size : Int) then (Q54 N (fun rv3 rv4 rv5 rv6 rv7 => (K0 rv3 rv4 rv5 rv6 rv7)) ((IntKind.i64.wrap (IntKind.u8.wrap ((bt rv1 0) - 48))))) else none) else (if (strEq name0 (ByteArray.mk #[107, 108, 101, 105, 110])) = true then (Q54 N (fun rv8 rv9 rv10 rv11 rv12 => (Q54 N (fun rv13 rv14 rv15 rv16 rv17 => (Q57 N (fun rv18 rv19 rv20 rv21 rv22 => (K0 rv18 rv19 rv20 rv21 rv22)) rv8 rv13 (rv8 * 1) rv9 (offN 0 rv10) (offN 0 rv11) (rv13 * 1) rv14 (offN 0 rv15) (offN 0 rv16) rv12 rv17)) 2)) 2) else (if (strEq name0 (ByteArray.mk #[100, 105, 104, 101, 100, 114, 97, 108, 51])) = true then (Q60 N (fun rv23 rv24 rv25 rv26 rv27 => (K0 rv23 rv24 rv25 rv26 rv27)) 3) else (if (strEq name0 (ByteArray.mk #[100, 105, 104, 101, 100, 114, 97, 108, 52])) = true then (Q60 N (fun rv28 rv29 rv30 rv31 rv32 => (K0 rv28 rv29 rv30 rv31 rv32)) 4) else (if (strEq name0 (ByteArray.mk #[113, 117, 97, 116, 101, 114, 110, 105, 111, 110])) = true then (Q64 N (fun rv33 rv34 rv35 rv36 rv37 => (K0 rv33 rv34 rv35 rv36 rv37))) else K1))))) else none) else (if (strEq name0 (ByteArray.mk #[107, 108, 101, 105, 110])) = true then (Q54 N (fun rv38 rv39 rv40 rv41 rv42 => (Q54 N (fun rv43 rv44 rv45 rv46 rv47 => (Q57 N (fun rv48 rv49 rv50 rv51 rv52 => (K0 rv48 rv49 rv50 rv51 rv52)) rv38 rv43 (rv38 * 1) rv39 (offN 0 rv40) (offN 0 rv41) (rv43 * 1) rv44 (offN 0 rv45) (offN 0 rv46) rv42 rv47)) 2)) 2) else (if (strEq name0 (ByteArray.mk #[100, 105, 104, 101, 100, 114, 97, 108, 51])) = true then (Q60 N (fun rv53 rv54 rv55 rv56 rv57 => (K0 rv53 rv54 rv55 rv56 rv57)) 3) else (if (strEq name0 (ByteArray.mk #[100, 105, 104, 101, 100, 114, 97, 108, 52])) = true then (Q60 N (fun rv58 rv59 rv60 rv61 rv62 => (K0 rv58 rv59 rv60 rv61 rv62)) 4) else (if (strEq name0 (ByteArray.mk #[113, 117, 97, 116, 101, 114, 110, 105, 111, 110])) = true then (Q64 N (fun rv63 rv64 rv65 rv66 rv67 => (K0 rv63 rv64 rv65 rv66 rv67))) else K1))))) else none) else (if (strEq name0 (ByteArray.mk #[107, 108, 101, 105, 110])) = true then (Q54 N (fun rv68 rv69 rv70 rv71 rv72 => (Q54 N (fun rv73 rv74 rv75 rv76 rv77 => (Q57 N (fun rv78 rv79 rv80 rv81 rv82 => (K0 rv78 rv79 rv80 rv81 rv82)) rv68 rv73 (rv68 * 1) rv69 (offN 0 rv70) (offN 0 rv71) (rv73 * 1) rv74 (offN 0 rv75) (offN 0 rv76) rv72 rv77)) 2)) 2) else (if (strEq name0 (ByteArray.mk #[100, 105, 104, 101, 100, 114, 97, 108, 51])) = true then (Q60 N (fun rv83 rv84 rv85 rv86 rv87 => (K0 rv83 rv84 rv85 rv86 rv87)) 3) else (if (strEq name0 (ByteArray.mk #[100, 105, 104, 101, 100, 114, 97, 108, 52])) = true then (Q60 N (fun rv88 rv89 rv90 rv91 rv92 => (K0 rv88 rv89 rv90 rv91 rv92)) 4) else (if (strEq name0 (ByteArray.mk #[113, 117, 97, 116, 101, 114, 110, 105, 111, 110])) = true then (Q64 N (fun rv93 rv94 rv95 rv96 rv97 => (K0 rv93 rv94 rv95 rv96 rv97))) else K1))))) else (if (strEq name0 (ByteArray.mk #[107, 108, 101, 105, 110])) = true then (Q54 N (fun rv98 rv99 rv100 rv101 rv102 => (Q54 N (fun rv103 rv104 rv105 rv106 rv107 => (Q57 N (fun rv108 rv109 rv110 rv111 rv112 => (K0 rv108 rv109 rv110 rv111 rv112)) rv98 rv103 (rv98 * 1) rv99 (offN 0 rv100) (offN 0 rv101) (rv103 * 1) rv104 (offN 0 rv105) (offN 0 rv106) rv102 rv107)) 2)) 2) else (if (strEq name0 (ByteArray.mk #[100, 105, 104, 101, 100, 114, 97, 108, 51])) = true then (Q60 N (fun rv113 rv114 rv115 rv116 rv117 => (K0 rv113 rv114 rv115 rv116 rv117)) 3) else (if (strEq name0 (ByteArray.mk #[100, 105, 104, 101, 100, 114, 97, 108, 52])) = true then (Q60 N (fun rv118 rv119 rv120 rv121 rv122 => (K0 rv118 rv119 rv120 rv121 rv122)) 4) else (if (strEq name0 (ByteArray.mk #[113, 117, 97, 116, 101, 114, 110, 105, 111, 110])) = true then (Q64 N (fun rv123 rv124 rv125 rv126 rv127 => (K0 rv123 rv124 rv125 rv126 rv127))) else K1)))))) name0 (ByteArray.mk #[99, 121, 99, 108, 105, 99]))
def Q66 {ρ : Type} (N : Nat) (K0 : Int → Option ρ) (so0 : Bool) (code1 : Int) : Option ρ :=
  (if so0 = true then (K0 0) else (K0 code1))
def Q67 {ρ : Type} (N : Nat) (K0 : Bool → Option ρ) (x0 : Int) (gv1 : Nat → Int) : Option ρ :=
  (Q29 N (fun rv2 => (K0 ((!rv2)))) x0 0 ((IntKind.i64.wrap ((gv1 0) - 1))))
def Q68.b0 {ρ : Type} (N : Nat) (K0 : Int → Option ρ) (rec : Int → Option ρ) (out0 : Option ρ) (s0 : Nat) (gv2 : Nat → Int) (gv3 : Nat → Int) (x4 : Int) : Option ρ :=
  (if (decide (x4 < (s0 : Int))) = true then (if (0 : Int) ≤ x4 ∧ x4 < (s0 : Int) then (Q67 N (fun rv5 => (if rv5 = true then (K0 x4) else (rec ((IntKind.i64.wrap (x4 + 1)))))) ((gv2 (0 + (x4.toNat * 1)))) gv3) else none) else out0)
def Q68.a0_0 {ρ : Type} (N : Nat) (K0 : Int → Option ρ) : Option ρ :=
  (K0 (-1))
def Q68.l0 {ρ : Type} (N : Nat) (K0 : Int → Option ρ) (s0 : Nat) (gv2 : Nat → Int) (gv3 : Nat → Int) (out0 : Option ρ) : Nat → Int → Option ρ
  | 0, _ => none
  | m + 1, x4 => (Q68.b0 N K0 ((Q68.l0 N K0 s0 gv2 gv3 out0 m)) out0 s0 gv2 gv3 x4)
def Q68.s {ρ : Type} (N : Nat) (K0 : Int → Option ρ) (lp0 : Int → Option ρ) : Option ρ :=
  (lp0 0)
def Q68 {ρ : Type} (N : Nat) (K0 : Int → Option ρ) (s0 : Nat) (gv1 : Nat) (gv2 : Nat → Int) (gv3 : Nat → Int) : Option ρ :=
  (Q68.s N K0 (fun x4 => (Q68.l0 N K0 s0 gv2 gv3 (Q68.a0_0 N K0) N x4)))
def Q69 {ρ : Type} (N : Nat) (K0 : Bool → Option ρ) (s0 : Nat) (gv1 : Nat) (gv2 : Nat → Int) (gv3 : Nat → Int) : Option ρ :=
  (Q68 N (fun rv4 => (K0 ((decide (rv4 ≥ 0))))) s0 (s0 * 1) (fun z => (gv2 (0 + z))) gv3)
def Q70.b0 {ρ : Type} (N : Nat) (K0 : Bool → Option ρ) (rec : Int → Option ρ) (out0 : Option ρ) (table0 : Nat) (gv3 : Nat → Nat) (gv4 : Nat → Nat) (gv5 : Nat → Int) (x7 : Int) : Option ρ :=
  (if (decide (x7 < (table0 : Int))) = true then (if (0 : Int) ≤ x7 ∧ x7 < (table0 : Int) then (if ((((gv4 (0 + (x7.toNat * 1))) : Nat) : Int) != (table0 : Int)) = true then (K0 false) else (Q69 N (fun rv8 => (if rv8 = true then (K0 false) else (rec ((IntKind.i64.wrap (x7 + 1)))))) (gv4 (0 + (x7.toNat * 1))) ((gv4 (0 + (x7.toNat * 1))) * 1) (fun z => (gv5 ((gv3 (0 + (x7.toNat * 1))) + z))) (fun _ => (table0 : Int)))) else none) else out0)
def Q70.a0_0 {ρ : Type} (N : Nat) (K0 : Bool → Option ρ) : Option ρ :=
  (K0 true)
def Q70.l0 {ρ : Type} (N : Nat) (K0 : Bool → Option ρ) (table0 : Nat) (gv3 : Nat → Nat) (gv4 : Nat → Nat) (gv5 : Nat → Int) (out0 : Option ρ) : Nat → Int → Option ρ
  | 0, _ => none
  | m + 1, x7 => (Q70.b0 N K0 ((Q70.l0 N K0 table0 gv3 gv4 gv5 out0 m)) out0 table0 gv3 gv4 gv5 x7)
def Q70.s {ρ : Type} (N : Nat) (K0 : Bool → Option ρ) (lp0 : Int → Option ρ) (table0 : Nat) : Option ρ :=
  (Q29 N (fun rv6 => (if (!rv6) = true then (K0 false) else (lp0 0))) ((table0 : Int)) 1 8)
def Q70 {ρ : Type} (N : Nat) (K0 : Bool → Option ρ) (table0 : Nat) (gv1 : Nat) (gv2 : Nat) (gv3 : Nat → Nat) (gv4 : Nat → Nat) (gv5 : Nat → Int) : Option ρ :=
  (Q70.s N K0 (fun x7 => (Q70.l0 N K0 table0 gv3 gv4 gv5 (Q70.a0_0 N K0) N x7)) table0)
def Q71.b0 {ρ : Type} (N : Nat) (K0 : Int → Option ρ) (rec : Int → Option ρ) (out0 : Option ρ) (table0 : Nat) (i1 : Int) (gv4 : Nat → Nat) (gv5 : Nat → Nat) (gv6 : Nat → Int) (x7 : Int) : Option ρ :=
  (if (decide (x7 < (table0 : Int))) = true then (if (0 : Int) ≤ i1 ∧ i1 < (table0 : Int) then (if (0 : Int) ≤ x7 ∧ x7 < (((gv5 (0 + (i1.toNat * 1))) : Nat) : Int) then (if ((gv6 ((gv4 (0 + (i1.toNat * 1))) + (x7.toNat * 1))) == 0) = true then (if (0 : Int) ≤ x7 ∧ x7 < (table0 : Int) then (if (0 : Int) ≤ i1 ∧ i1 < (((gv5 (0 + (x7.toNat * 1))) : Nat) : Int) then (if ((gv6 ((gv4 (0 + (x7.toNat * 1))) + (i1.toNat * 1))) == 0) = true then (K0 x7) else (rec ((IntKind.i64.wrap (x7 + 1))))) else none) else none) else (rec ((IntKind.i64.wrap (x7 + 1))))) else none) else none) else out0)
def Q71.a0_0 {ρ : Type} (N : Nat) (K0 : Int → Option ρ) : Option ρ :=
  (K0 (-1))
def Q71.l0 {ρ : Type} (N : Nat) (K0 : Int → Option ρ) (table0 : Nat) (i1 : Int) (gv4 : Nat → Nat) (gv5 : Nat → Nat) (gv6 : Nat → Int) (out0 : Option ρ) : Nat → Int → Option ρ
  | 0, _ => none
  | m + 1, x7 => (Q71.b0 N K0 ((Q71.l0 N K0 table0 i1 gv4 gv5 gv6 out0 m)) out0 table0 i1 gv4 gv5 gv6 x7)
def Q71.s {ρ : Type} (N : Nat) (K0 : Int → Option ρ) (lp0 : Int → Option ρ) : Option ρ :=
  (lp0 0)
def Q71 {ρ : Type} (N : Nat) (K0 : Int → Option ρ) (table0 : Nat) (i1 : Int) (gv2 : Nat) (gv3 : Nat) (gv4 : Nat → Nat) (gv5 : Nat → Nat) (gv6 : Nat → Int) : Option ρ :=
  (Q71.s N K0 (fun x7 => (Q71.l0 N K0 table0 i1 gv4 gv5 gv6 (Q71.a0_0 N K0) N x7)))
def Q72.b1 {ρ : Type} (N : Nat) (K0 : Bool → Option ρ) (rec : Int → Option ρ) (out0 : Option ρ) (table0 : Nat) (i1 : Int) (gv4 : Nat → Nat) (gv5 : Nat → Nat) (gv6 : Nat → Int) (x7 : Int) (x8 : Int) : Option ρ :=
  (if (decide (x8 < (table0 : Int))) = true then (if (0 : Int) ≤ i1 ∧ i1 < (table0 : Int) then (if (0 : Int) ≤ x7 ∧ x7 < (((gv5 (0 + (i1.toNat * 1))) : Nat) : Int) then (if (0 : Int) ≤ (gv6 ((gv4 (0 + (i1.toNat * 1))) + (x7.toNat * 1))) ∧ (gv6 ((gv4 (0 + (i1.toNat * 1))) + (x7.toNat * 1))) < (table0 : Int) then (if (0 : Int) ≤ x8 ∧ x8 < (((gv5 (0 + (((gv6 ((gv4 (0 + (i1.toNat * 1))) + (x7.toNat * 1)))).toNat * 1))) : Nat) : Int) then (if (0 : Int) ≤ i1 ∧ i1 < (table0 : Int) then (if (0 : Int) ≤ x7 ∧ x7 < (table0 : Int) then (if (0 : Int) ≤ x8 ∧ x8 < (((gv5 (0 + (x7.toNat * 1))) : Nat) : Int) then (if (0 : Int) ≤ (gv6 ((gv4 (0 + (x7.toNat * 1))) + (x8.toNat * 1))) ∧ (gv6 ((gv4 (0 + (x7.toNat * 1))) + (x8.toNat * 1))) < (((gv5 (0 + (i1.toNat * 1))) : Nat) : Int) then (if ((gv6 ((gv4 (0 + (((gv6 ((gv4 (0 + (i1.toNat * 1))) + (x7.toNat * 1)))).toNat * 1))) + (x8.toNat * 1))) != (gv6 ((gv4 (0 + (i1.toNat * 1))) + (((gv6 ((gv4 (0 + (x7.toNat * 1))) + (x8.toNat * 1)))).toNat * 1)))) = true then (K0 false) else (rec ((IntKind.i64.wrap (x8 + 1))))) else none) else none) else none) else none) else none) else none) else none) else none) else out0)
def Q72.a1_0 {ρ : Type} (N : Nat) (K0 : Bool → Option ρ) (rec : Int → Option ρ) (out0 : Option ρ) (x7 : Int) : Option ρ :=
  (rec ((IntKind.i64.wrap (x7 + 1))))
def Q72.b0 {ρ : Type} (N : Nat) (K0 : Bool → Option ρ) (lp1 : Int → Option ρ) (rec : Int → Option ρ) (out0 : Option ρ) (table0 : Nat) (x7 : Int) : Option ρ :=
  (if (decide (x7 < (table0 : Int))) = true then (lp1 0) else out0)
def Q72.a0_0 {ρ : Type} (N : Nat) (K0 : Bool → Option ρ) (table0 : Nat) (i1 : Int) (gv3 : Nat) (gv4 : Nat → Nat) (gv5 : Nat → Nat) (gv6 : Nat → Int) : Option ρ :=
  (Q71 N (fun rv9 => (K0 ((decide (rv9 ≥ 0))))) table0 i1 (table0 * 1) gv3 (offN 0 gv4) (offN 0 gv5) gv6)
def Q72.l1 {ρ : Type} (N : Nat) (K0 : Bool → Option ρ) (table0 : Nat) (i1 : Int) (gv4 : Nat → Nat) (gv5 : Nat → Nat) (gv6 : Nat → Int) (x7 : Int) (out0 : Option ρ) : Nat → Int → Option ρ
  | 0, _ => none
  | m + 1, x8 => (Q72.b1 N K0 ((Q72.l1 N K0 table0 i1 gv4 gv5 gv6 x7 out0 m)) out0 table0 i1 gv4 gv5 gv6 x7 x8)
def Q72.l0 {ρ : Type} (N : Nat) (K0 : Bool → Option ρ) (table0 : Nat) (i1 : Int) (gv4 : Nat → Nat) (gv5 : Nat → Nat) (gv6 : Nat → Int) (out0 : Option ρ) : Nat → Int → Option ρ
  | 0, _ => none
  | m + 1, x7 => (Q72.b0 N K0 (fun x8 => (Q72.l1 N K0 table0 i1 gv4 gv5 gv6 x7 (Q72.a1_0 N K0 (Q72.l0 N K0 table0 i1 gv4 gv5 gv6 out0 m) out0 x7) N x8)) ((Q72.l0 N K0 table0 i1 gv4 gv5 gv6 out0 m)) out0 table0 x7)
def Q72.s {ρ : Type} (N : Nat) (K0 : Bool → Option ρ) (lp0 : Int → Option ρ) (table0 : Nat) (i1 : Int) (gv4 : Nat → Nat) (gv5 : Nat → Nat) (gv6 : Nat → Int) : Option ρ :=
  (if (0 : Int) ≤ 0 ∧ 0 < (table0 : Int) then (if (0 : Int) ≤ i1 ∧ i1 < (((gv5 0) : Nat) : Int) then (if ((gv6 ((gv4 0) + (i1.toNat * 1))) != i1) = true then (K0 false) else (if (0 : Int) ≤ i1 ∧ i1 < (table0 : Int) then (if (0 : Int) ≤ 0 ∧ 0 < (((gv5 (0 + (i1.toNat * 1))) : Nat) : Int) then (if ((gv6 ((gv4 (0 + (i1.toNat * 1))) + 0)) != i1) = true then (K0 false) else (lp0 0)) else none) else none)) else none) else none)
def Q72 {ρ : Type} (N : Nat) (K0 : Bool → Option ρ) (table0 : Nat) (i1 : Int) (gv2 : Nat) (gv3 : Nat) (gv4 : Nat → Nat) (gv5 : Nat → Nat) (gv6 : Nat → Int) : Option ρ :=
  (Q72.s N K0 (fun x7 => (Q72.l0 N K0 table0 i1 gv4 gv5 gv6 (Q72.a0_0 N K0 table0 i1 gv3 gv4 gv5 gv6) N x7)) table0 i1 gv4 gv5 gv6)
def Q73.b0 {ρ : Type} (N : Nat) (K0 : Bool → Option ρ) (rec : Int → Option ρ) (out0 : Option ρ) (table0 : Nat) (gv2 : Nat) (gv3 : Nat → Nat) (gv4 : Nat → Nat) (gv5 : Nat → Int) (x7 : Int) : Option ρ :=
  (if (decide (x7 < (table0 : Int))) = true then (Q72 N (fun rv8 => (if (!rv8) = true then (K0 false) else (rec ((IntKind.i64.wrap (x7 + 1)))))) table0 x7 (table0 * 1) gv2 (offN 0 gv3) (offN 0 gv4) gv5) else out0)
def Q73.a0_0 {ρ : Type} (N : Nat) (K0 : Bool → Option ρ) : Option ρ :=
  (K0 true)
def Q73.l0 {ρ : Type} (N : Nat) (K0 : Bool → Option ρ) (table0 : Nat) (gv2 : Nat) (gv3 : Nat → Nat) (gv4 : Nat → Nat) (gv5 : Nat → Int) (out0 : Option ρ) : Nat → Int → Option ρ
  | 0, _ => none
  | m + 1, x7 => (Q73.b0 N K0 ((Q73.l0 N K0 table0 gv2 gv3 gv4 gv5 out0 m)) out0 table0 gv2 gv3 gv4 gv5 x7)
def Q73.s {ρ : Type} (N : Nat) (K0 : Bool → Option ρ) (lp0 : Int → Option ρ) (table0 : Nat) (gv2 : Nat) (gv3 : Nat → Nat) (gv4 : Nat → Nat) (gv5 : Nat → Int) : Option ρ :=
  (Q70 N (fun rv6 => (if (!rv6) = true then (K0 false) else (lp0 0))) table0 (table0 * 1) gv2 (offN 0 gv3) (offN 0 gv4) gv5)
def Q73 {ρ : Type} (N : Nat) (K0 : Bool → Option ρ) (table0 : Nat) (gv1 : Nat) (gv2 : Nat) (gv3 : Nat → Nat) (gv4 : Nat → Nat) (gv5 : Nat → Int) : Option ρ :=
  (Q73.s N K0 (fun x7 => (Q73.l0 N K0 table0 gv2 gv3 gv4 gv5 (Q73.a0_0 N K0) N x7)) table0 gv2 gv3 gv4 gv5)
def Q74.b0 {ρ : Type} (N : Nat) (K0 : Int → Option ρ) (rec : Int → Option ρ) (out0 : Option ρ) (codes0 : Nat) (gv3 : Nat → Int) (x4 : Int) : Option ρ :=
  (if (decide (x4 < (codes0 : Int))) = true then (if (0 : Int) ≤ x4 ∧ x4 < (codes0 : Int) then (if ((gv3 (0 + (x4.toNat * 1))) != 0) = true then (K0 ((gv3 (0 + (x4.toNat * 1))))) else (rec ((IntKind.i64.wrap (x4 + 1))))) else none) else out0)
def Q74.a0_0 {ρ : Type} (N : Nat) (K0 : Int → Option ρ) : Option ρ :=
  (K0 0)
def Q74.l0 {ρ : Type} (N : Nat) (K0 : Int → Option ρ) (codes0 : Nat) (gv3 : Nat → Int) (out0 : Option ρ) : Nat → Int → Option ρ
  | 0, _ => none
  | m + 1, x4 => (Q74.b0 N K0 ((Q74.l0 N K0 codes0 gv3 out0 m)) out0 codes0 gv3 x4)
def Q74.s {ρ : Type} (N : Nat) (K0 : Int → Option ρ) (lp0 : Int → Option ρ) : Option ρ :=
  (lp0 0)
def Q74 {ρ : Type} (N : Nat) (K0 : Int → Option ρ) (codes0 : Nat) (codes1 : Nat) (gv2 : Nat) (gv3 : Nat → Int) : Option ρ :=
  (Q74.s N K0 (fun x4 => (Q74.l0 N K0 codes0 gv3 (Q74.a0_0 N K0) N x4)))
def Q75.b1 {ρ : Type} (N : Nat) (K0 : (Nat → Int) → (Nat → Int) → Option ρ) (rec : Int → (Nat → Int) → Option ρ) (out0 : (Nat → Int) → Option ρ) (gv4 : Nat → Nat) (gv5 : Nat → Nat) (gv6 : Nat → Int) (x8 : Int) (x10 : Int) (gv11 : Nat → Int) : Option ρ :=
  (if (decide (x10 < (((gv5 (0 + (x8.toNat * 1))) : Nat) : Int))) = true then (if (0 : Int) ≤ x10 ∧ x10 < (((gv5 (0 + (x8.toNat * 1))) : Nat) : Int) then (Q30 N (fun rv12 => (if (0 : Int) ≤ x8 ∧ x8 < 8 then (if (0 : Int) ≤ x10 ∧ x10 < 8 then (rec ((IntKind.i64.wrap (x10 + 1))) (updN gv11 ((8 + (x8.toNat * 64)) + (x10.toNat * 8)) 8 rv12)) else none) else none)) ((gv6 ((gv4 (0 + (x8.toNat * 1))) + (x10.toNat * 1))))) else none) else (out0 gv11))
def Q75.a1_0 {ρ : Type} (N : Nat) (K0 : (Nat → Int) → (Nat → Int) → Option ρ) (rec : Int → (Nat → Int) → Option ρ) (out0 : (Nat → Int) → Option ρ) (table1 : Nat) (gv3 : Nat) (gv4 : Nat → Nat) (gv5 : Nat → Nat) (gv6 : Nat → Int) (x8 : Int) (ov13 : Nat → Int) : Option ρ :=
  (Q30 N (fun rv14 => (Q71 N (fun rv15 => (Q30 N (fun rv16 => (if (0 : Int) ≤ x8 ∧ x8 < 8 then (if (0 : Int) ≤ x8 ∧ x8 < 8 then (if (0 : Int) ≤ x8 ∧ x8 < 8 then (if (0 : Int) ≤ x8 ∧ x8 < 8 then (rec ((IntKind.i64.wrap (x8 + 1))) (updN (upd (updN ov13 ((528 + (x8.toNat * 64)) + (x8.toNat * 8)) 8 rv14) (520 + (x8.toNat * 1)) 1) (1040 + (x8.toNat * 8)) 8 rv16)) else none) else none) else none) else none)) rv15)) table1 x8 (table1 * 1) gv3 (offN 0 gv4) (offN 0 gv5) gv6)) x8)
def Q75.b0 {ρ : Type} (N : Nat) (K0 : (Nat → Int) → (Nat → Int) → Option ρ) (lp1 : Int → (Nat → Int) → Option ρ) (rec : Int → (Nat → Int) → Option ρ) (out0 : (Nat → Int) → Option ρ) (table1 : Nat) (x8 : Int) (gv9 : Nat → Int) : Option ρ :=
  (if (decide (x8 < (table1 : Int))) = true then (if (0 : Int) ≤ x8 ∧ x8 < (table1 : Int) then (lp1 0 gv9) else none) else (out0 gv9))
def Q75.a0_0 {ρ : Type} (N : Nat) (K0 : (Nat → Int) → (Nat → Int) → Option ρ) (p0 : Int) (table1 : Nat) (ov17 : Nat → Int) : Option ρ :=
  (K0 (upd (upd (fun _ => 0) 0 p0) 1 (table1 : Int)) ov17)
def Q75.l1 {ρ : Type} (N : Nat) (K0 : (Nat → Int) → (Nat → Int) → Option ρ) (gv4 : Nat → Nat) (gv5 : Nat → Nat) (gv6 : Nat → Int) (x8 : Int) (out0 : (Nat → Int) → Option ρ) : Nat → Int → (Nat → Int) → Option ρ
  | 0, _, _ => none
  | m + 1, x10, gv11 => (Q75.b1 N K0 ((Q75.l1 N K0 gv4 gv5 gv6 x8 out0 m)) out0 gv4 gv5 gv6 x8 x10 gv11)
def Q75.l0 {ρ : Type} (N : Nat) (K0 : (Nat → Int) → (Nat → Int) → Option ρ) (table1 : Nat) (gv3 : Nat) (gv4 : Nat → Nat) (gv5 : Nat → Nat) (gv6 : Nat → Int) (out0 : (Nat → Int) → Option ρ) : Nat → Int → (Nat → Int) → Option ρ
  | 0, _, _ => none
  | m + 1, x8, gv9 => (Q75.b0 N K0 (fun x10 gv11 => (Q75.l1 N K0 gv4 gv5 gv6 x8 (fun ov13 => (Q75.a1_0 N K0 (Q75.l0 N K0 table1 gv3 gv4 gv5 gv6 out0 m) out0 table1 gv3 gv4 gv5 gv6 x8 ov13)) N x10 gv11)) ((Q75.l0 N K0 table1 gv3 gv4 gv5 gv6 out0 m)) out0 table1 x8 gv9)
def Q75.s {ρ : Type} (N : Nat) (K0 : (Nat → Int) → (Nat → Int) → Option ρ) (lp0 : Int → (Nat → Int) → Option ρ) : Option ρ :=
  (Q30 N (fun rv7 => (lp0 0 (updN (fun _ => 0) 0 8 rv7))) 0)
def Q75 {ρ : Type} (N : Nat) (K0 : (Nat → Int) → (Nat → Int) → Option ρ) (p0 : Int) (table1 : Nat) (gv2 : Nat) (gv3 : Nat) (gv4 : Nat → Nat) (gv5 : Nat → Nat) (gv6 : Nat → Int) : Option ρ :=
  (Q75.s N K0 (fun x8 gv9 => (Q75.l0 N K0 table1 gv3 gv4 gv5 gv6 (fun ov17 => (Q75.a0_0 N K0 p0 table1 ov17)) N x8 gv9)))
def Q76 {ρ : Type} (N : Nat) (K0 : (Nat → Int) → (Nat → Int) → Int → Option ρ) (p0 : Int) (table1 : Nat) (gv2 : Nat) (gv3 : Nat) (gv4 : Nat → Nat) (gv5 : Nat → Nat) (gv6 : Nat → Int) : Option ρ :=
  (Q28 N (fun rv7 => (Q66 N (fun rv8 => (Q73 N (fun rv9 => (Q66 N (fun rv10 => (Q74 N (fun rv11 => (if (rv11 != 0) = true then (K0 (fun _ => 0) (fun _ => 0) rv11) else (Q75 N (fun rv12 rv13 => (K0 rv12 rv13 0)) p0 table1 (table1 * 1) gv3 (offN 0 gv4) (offN 0 gv5) gv6))) 2 2 2 (fun z => ((upd (upd (fun _ => 0) 0 rv8) 1 rv10) (0 + z))))) (rv9) 1)) table1 (table1 * 1) gv3 (offN 0 gv4) (offN 0 gv5) gv6)) (rv7) 2)) p0)
def Q77.b2 {ρ : Type} (N : Nat) (K0 : (Nat → Int) → Option ρ) (rec : Int → (Nat → Int) → Option ρ) (out0 : (Nat → Int) → Option ρ) (gv0 : Nat → Int) (x1 : Int) (x3 : Int) (x5 : Int) (gv6 : Nat → Int) : Option ρ :=
  (if (decide (x5 < 8)) = true then (if (0 : Int) ≤ x1 ∧ x1 < 8 then (if (0 : Int) ≤ x3 ∧ x3 < 8 then (if (0 : Int) ≤ x5 ∧ x5 < 8 then (if (0 : Int) ≤ x3 ∧ x3 < 8 then (if (0 : Int) ≤ x5 ∧ x5 < 8 then (if (0 : Int) ≤ x1 ∧ x1 < 8 then (rec ((IntKind.i64.wrap (x5 + 1))) (upd gv6 (((x3.toNat * 64) + (x5.toNat * 8)) + (x1.toNat * 1)) (gv0 (((x1.toNat * 64) + (x3.toNat * 8)) + (x5.toNat * 1))))) else none) else none) else none) else none) else none) else none) else (out0 gv6))
def Q77.a2_0 {ρ : Type} (N : Nat) (K0 : (Nat → Int) → Option ρ) (rec : Int → (Nat → Int) → Option ρ) (out0 : (Nat → Int) → Option ρ) (x3 : Int) (ov7 : Nat → Int) : Option ρ :=
  (rec ((IntKind.i64.wrap (x3 + 1))) ov7)
def Q77.b1 {ρ : Type} (N : Nat) (K0 : (Nat → Int) → Option ρ) (lp2 : Int → (Nat → Int) → Option ρ) (rec : Int → (Nat → Int) → Option ρ) (out0 : (Nat → Int) → Option ρ) (x3 : Int) (gv4 : Nat → Int) : Option ρ :=
  (if (decide (x3 < 8)) = true then (lp2 0 gv4) else (out0 gv4))
def Q77.a1_0 {ρ : Type} (N : Nat) (K0 : (Nat → Int) → Option ρ) (rec : Int → (Nat → Int) → Option ρ) (out0 : (Nat → Int) → Option ρ) (x1 : Int) (ov8 : Nat → Int) : Option ρ :=
  (rec ((IntKind.i64.wrap (x1 + 1))) ov8)
def Q77.b0 {ρ : Type} (N : Nat) (K0 : (Nat → Int) → Option ρ) (lp1 : Int → (Nat → Int) → Option ρ) (rec : Int → (Nat → Int) → Option ρ) (out0 : (Nat → Int) → Option ρ) (x1 : Int) (gv2 : Nat → Int) : Option ρ :=
  (if (decide (x1 < 8)) = true then (lp1 0 gv2) else (out0 gv2))
def Q77.a0_0 {ρ : Type} (N : Nat) (K0 : (Nat → Int) → Option ρ) (ov9 : Nat → Int) : Option ρ :=
  (K0 ov9)
def Q77.l2 {ρ : Type} (N : Nat) (K0 : (Nat → Int) → Option ρ) (gv0 : Nat → Int) (x1 : Int) (x3 : Int) (out0 : (Nat → Int) → Option ρ) : Nat → Int → (Nat → Int) → Option ρ
  | 0, _, _ => none
  | m + 1, x5, gv6 => (Q77.b2 N K0 ((Q77.l2 N K0 gv0 x1 x3 out0 m)) out0 gv0 x1 x3 x5 gv6)
def Q77.l1 {ρ : Type} (N : Nat) (K0 : (Nat → Int) → Option ρ) (gv0 : Nat → Int) (x1 : Int) (out0 : (Nat → Int) → Option ρ) : Nat → Int → (Nat → Int) → Option ρ
  | 0, _, _ => none
  | m + 1, x3, gv4 => (Q77.b1 N K0 (fun x5 gv6 => (Q77.l2 N K0 gv0 x1 x3 (fun ov7 => (Q77.a2_0 N K0 (Q77.l1 N K0 gv0 x1 out0 m) out0 x3 ov7)) N x5 gv6)) ((Q77.l1 N K0 gv0 x1 out0 m)) out0 x3 gv4)
def Q77.l0 {ρ : Type} (N : Nat) (K0 : (Nat → Int) → Option ρ) (gv0 : Nat → Int) (out0 : (Nat → Int) → Option ρ) : Nat → Int → (Nat → Int) → Option ρ
  | 0, _, _ => none
  | m + 1, x1, gv2 => (Q77.b0 N K0 (fun x3 gv4 => (Q77.l1 N K0 gv0 x1 (fun ov8 => (Q77.a1_0 N K0 (Q77.l0 N K0 gv0 out0 m) out0 x1 ov8)) N x3 gv4)) ((Q77.l0 N K0 gv0 out0 m)) out0 x1 gv2)
def Q77.s {ρ : Type} (N : Nat) (K0 : (Nat → Int) → Option ρ) (lp0 : Int → (Nat → Int) → Option ρ) : Option ρ :=
  (lp0 0 (fun _ => 0))
def Q77 {ρ : Type} (N : Nat) (K0 : (Nat → Int) → Option ρ) (gv0 : Nat → Int) : Option ρ :=
  (Q77.s N K0 (fun x1 gv2 => (Q77.l0 N K0 gv0 (fun ov9 => (Q77.a0_0 N K0 ov9)) N x1 gv2)))
def Q78.b2 {ρ : Type} (N : Nat) (K0 : (Nat → Int) → Option ρ) (rec : Int → (Nat → Int) → Option ρ) (out0 : (Nat → Int) → Option ρ) (gv0 : Nat → Int) (x1 : Int) (x3 : Int) (x5 : Int) (gv6 : Nat → Int) : Option ρ :=
  (if (decide (x5 < 8)) = true then (if (0 : Int) ≤ x3 ∧ x3 < 8 then (if (0 : Int) ≤ x5 ∧ x5 < 8 then (if (0 : Int) ≤ x1 ∧ x1 < 8 then (if (0 : Int) ≤ x1 ∧ x1 < 8 then (if (0 : Int) ≤ x3 ∧ x3 < 8 then (if (0 : Int) ≤ x5 ∧ x5 < 8 then (rec ((IntKind.i64.wrap (x5 + 1))) (upd gv6 (((x1.toNat * 64) + (x3.toNat * 8)) + (x5.toNat * 1)) (gv0 (((x3.toNat * 64) + (x5.toNat * 8)) + (x1.toNat * 1))))) else none) else none) else none) else none) else none) else none) else (out0 gv6))
def Q78.a2_0 {ρ : Type} (N : Nat) (K0 : (Nat → Int) → Option ρ) (rec : Int → (Nat → Int) → Option ρ) (out0 : (Nat → Int) → Option ρ) (x3 : Int) (ov7 : Nat → Int) : Option ρ :=
  (rec ((IntKind.i64.wrap (x3 + 1))) ov7)
def Q78.b1 {ρ : Type} (N : Nat) (K0 : (Nat → Int) → Option ρ) (lp2 : Int → (Nat → Int) → Option ρ) (rec : Int → (Nat → Int) → Option ρ) (out0 : (Nat → Int) → Option ρ) (x3 : Int) (gv4 : Nat → Int) : Option ρ :=
  (if (decide (x3 < 8)) = true then (lp2 0 gv4) else (out0 gv4))
def Q78.a1_0 {ρ : Type} (N : Nat) (K0 : (Nat → Int) → Option ρ) (rec : Int → (Nat → Int) → Option ρ) (out0 : (Nat → Int) → Option ρ) (x1 : Int) (ov8 : Nat → Int) : Option ρ :=
  (rec ((IntKind.i64.wrap (x1 + 1))) ov8)
def Q78.b0 {ρ : Type} (N : Nat) (K0 : (Nat → Int) → Option ρ) (lp1 : Int → (Nat → Int) → Option ρ) (rec : Int → (Nat → Int) → Option ρ) (out0 : (Nat → Int) → Option ρ) (x1 : Int) (gv2 : Nat → Int) : Option ρ :=
  (if (decide (x1 < 8)) = true then (lp1 0 gv2) else (out0 gv2))
def Q78.a0_0 {ρ : Type} (N : Nat) (K0 : (Nat → Int) → Option ρ) (ov9 : Nat → Int) : Option ρ :=
  (K0 ov9)
def Q78.l2 {ρ : Type} (N : Nat) (K0 : (Nat → Int) → Option ρ) (gv0 : Nat → Int) (x1 : Int) (x3 : Int) (out0 : (Nat → Int) → Option ρ) : Nat → Int → (Nat → Int) → Option ρ
  | 0, _, _ => none
  | m + 1, x5, gv6 => (Q78.b2 N K0 ((Q78.l2 N K0 gv0 x1 x3 out0 m)) out0 gv0 x1 x3 x5 gv6)
def Q78.l1 {ρ : Type} (N : Nat) (K0 : (Nat → Int) → Option ρ) (gv0 : Nat → Int) (x1 : Int) (out0 : (Nat → Int) → Option ρ) : Nat → Int → (Nat → Int) → Option ρ
  | 0, _, _ => none
  | m + 1, x3, gv4 => (Q78.b1 N K0 (fun x5 gv6 => (Q78.l2 N K0 gv0 x1 x3 (fun ov7 => (Q78.a2_0 N K0 (Q78.l1 N K0 gv0 x1 out0 m) out0 x3 ov7)) N x5 gv6)) ((Q78.l1 N K0 gv0 x1 out0 m)) out0 x3 gv4)
def Q78.l0 {ρ : Type} (N : Nat) (K0 : (Nat → Int) → Option ρ) (gv0 : Nat → Int) (out0 : (Nat → Int) → Option ρ) : Nat → Int → (Nat → Int) → Option ρ
  | 0, _, _ => none
  | m + 1, x1, gv2 => (Q78.b0 N K0 (fun x3 gv4 => (Q78.l1 N K0 gv0 x1 (fun ov8 => (Q78.a1_0 N K0 (Q78.l0 N K0 gv0 out0 m) out0 x1 ov8)) N x3 gv4)) ((Q78.l0 N K0 gv0 out0 m)) out0 x1 gv2)
def Q78.s {ρ : Type} (N : Nat) (K0 : (Nat → Int) → Option ρ) (lp0 : Int → (Nat → Int) → Option ρ) : Option ρ :=
  (lp0 0 (fun _ => 0))
def Q78 {ρ : Type} (N : Nat) (K0 : (Nat → Int) → Option ρ) (gv0 : Nat → Int) : Option ρ :=
  (Q78.s N K0 (fun x1 gv2 => (Q78.l0 N K0 gv0 (fun ov9 => (Q78.a0_0 N K0 ov9)) N x1 gv2)))
def Q79.b1 {ρ : Type} (N : Nat) (K0 : (Nat → Int) → Option ρ) (rec : Int → (Nat → Int) → Option ρ) (out0 : (Nat → Int) → Option ρ) (gv0 : Nat → Int) (x1 : Int) (x3 : Int) (gv4 : Nat → Int) : Option ρ :=
  (if (decide (x3 < 8)) = true then (if (0 : Int) ≤ x3 ∧ x3 < 8 then (if (0 : Int) ≤ x1 ∧ x1 < 8 then (if (0 : Int) ≤ x1 ∧ x1 < 8 then (if (0 : Int) ≤ x3 ∧ x3 < 8 then (rec ((IntKind.i64.wrap (x3 + 1))) (upd gv4 ((x1.toNat * 8) + (x3.toNat * 1)) (gv0 ((x3.toNat * 8) + (x1.toNat * 1))))) else none) else none) else none) else none) else (out0 gv4))
def Q79.a1_0 {ρ : Type} (N : Nat) (K0 : (Nat → Int) → Option ρ) (rec : Int → (Nat → Int) → Option ρ) (out0 : (Nat → Int) → Option ρ) (x1 : Int) (ov5 : Nat → Int) : Option ρ :=
  (rec ((IntKind.i64.wrap (x1 + 1))) ov5)
def Q79.b0 {ρ : Type} (N : Nat) (K0 : (Nat → Int) → Option ρ) (lp1 : Int → (Nat → Int) → Option ρ) (rec : Int → (Nat → Int) → Option ρ) (out0 : (Nat → Int) → Option ρ) (x1 : Int) (gv2 : Nat → Int) : Option ρ :=
  (if (decide (x1 < 8)) = true then (lp1 0 gv2) else (out0 gv2))
def Q79.a0_0 {ρ : Type} (N : Nat) (K0 : (Nat → Int) → Option ρ) (ov6 : Nat → Int) : Option ρ :=
  (K0 ov6)
def Q79.l1 {ρ : Type} (N : Nat) (K0 : (Nat → Int) → Option ρ) (gv0 : Nat → Int) (x1 : Int) (out0 : (Nat → Int) → Option ρ) : Nat → Int → (Nat → Int) → Option ρ
  | 0, _, _ => none
  | m + 1, x3, gv4 => (Q79.b1 N K0 ((Q79.l1 N K0 gv0 x1 out0 m)) out0 gv0 x1 x3 gv4)
def Q79.l0 {ρ : Type} (N : Nat) (K0 : (Nat → Int) → Option ρ) (gv0 : Nat → Int) (out0 : (Nat → Int) → Option ρ) : Nat → Int → (Nat → Int) → Option ρ
  | 0, _, _ => none
  | m + 1, x1, gv2 => (Q79.b0 N K0 (fun x3 gv4 => (Q79.l1 N K0 gv0 x1 (fun ov5 => (Q79.a1_0 N K0 (Q79.l0 N K0 gv0 out0 m) out0 x1 ov5)) N x3 gv4)) ((Q79.l0 N K0 gv0 out0 m)) out0 x1 gv2)
def Q79.s {ρ : Type} (N : Nat) (K0 : (Nat → Int) → Option ρ) (lp0 : Int → (Nat → Int) → Option ρ) : Option ρ :=
  (lp0 0 (fun _ => 0))
def Q79 {ρ : Type} (N : Nat) (K0 : (Nat → Int) → Option ρ) (gv0 : Nat → Int) : Option ρ :=
  (Q79.s N K0 (fun x1 gv2 => (Q79.l0 N K0 gv0 (fun ov6 => (Q79.a0_0 N K0 ov6)) N x1 gv2)))
def Q80 {ρ : Type} (N : Nat) (K0 : (Nat → Int) → (Nat → Int) → Option ρ) (gv0 : Nat → Int) (gv1 : Nat → Int) : Option ρ :=
  (Q77 N (fun rv2 => (Q78 N (fun rv3 => (Q79 N (fun rv4 => (K0 (upd (upd (fun _ => 0) 0 (gv0 0)) 1 (gv0 1)) (updN (updN (updN (updN (updN (fun _ => 0) 0 8 (fun z => (gv1 (520 + z)))) 8 512 rv2) 520 8 (fun z => (gv1 (0 + z)))) 528 512 rv3) 1040 64 rv4))) (fun z => (gv1 (1040 + z))))) (fun z => (gv1 (8 + z))))) (fun z => (gv1 (528 + z))))
def Q81 {ρ : Type} (N : Nat) (K0 : (Nat → Int) → (Nat → Int) → Int → Option ρ) (p0 : Int) (table1 : Nat) (gv2 : Nat) (gv3 : Nat) (gv4 : Nat → Nat) (gv5 : Nat → Nat) (gv6 : Nat → Int) : Option ρ :=
  (Q76 N (fun rv7 rv8 rv9 => (if (rv9 != 0) = true then (K0 (fun _ => 0) (fun _ => 0) rv9) else (Q80 N (fun rv10 rv11 => (K0 rv10 rv11 0)) rv7 rv8))) p0 table1 (table1 * 1) gv3 (offN 0 gv4) (offN 0 gv5) gv6)
def Q82 {ρ : Type} (N : Nat) (K0 : (Nat → Int) → (Nat → Int) → Int → Option ρ) (name0 : ByteArray) (p1 : Int) : Option ρ :=
  (if (strEq name0 (ByteArray.mk #[108, 105, 110, 101])) = true then (Q36 N (fun rv2 rv3 rv4 => (K0 rv2 rv3 rv4)) p1 0) else (if (strEq name0 (ByteArray.mk #[115, 112, 108, 105, 116])) = true then (Q36 N (fun rv5 rv6 rv7 => (K0 rv5 rv6 rv7)) p1 1) else (if (strEq name0 (ByteArray.mk #[115, 119, 101, 101, 100, 108, 101, 114])) = true then (Q47 N (fun rv8 rv9 rv10 => (K0 rv8 rv9 rv10)) p1) else (if (strEq name0 (ByteArray.mk #[100, 111, 117, 98, 108, 101])) = true then (Q48 N (fun rv11 rv12 rv13 => (K0 rv11 rv12 rv13)) p1) else (Q51 N (fun rv14 rv15 => (Q65 N (fun rv16 rv17 rv18 rv19 rv20 => (if rv15 = true then (Q81 N (fun rv21 rv22 rv23 => (K0 rv21 rv22 rv23)) p1 rv16 (rv16 * 1) rv17 (offN 0 rv18) (offN 0 rv19) rv20) else (Q76 N (fun rv24 rv25 rv26 => (K0 rv24 rv25 rv26)) p1 rv16 (rv16 * 1) rv17 (offN 0 rv18) (offN 0 rv19) rv20))) (K0 (fun _ => 0) (fun _ => 0) 4) rv14)) name0 (ByteArray.mk #[111, 110, 45]))))))
def Q83.b0 {ρ : Type} (N : Nat) (K0 : Bool → Option ρ) (rec : Int → Option ρ) (out0 : Option ρ) (av0 : Nat → Int) (bv1 : Nat → Int) (i2 : Int) : Option ρ :=
  (if (decide (i2 < 8)) = true then (if (0 : Int) ≤ i2 ∧ i2 < 8 then (if (0 : Int) ≤ i2 ∧ i2 < 8 then (if ((av0 (i2.toNat * 1)) != (bv1 (i2.toNat * 1))) = true then (K0 false) else (rec ((IntKind.i64.wrap (i2 + 1))))) else none) else none) else out0)
def Q83.a0_0 {ρ : Type} (N : Nat) (K0 : Bool → Option ρ) : Option ρ :=
  (K0 true)
def Q83.l0 {ρ : Type} (N : Nat) (K0 : Bool → Option ρ) (av0 : Nat → Int) (bv1 : Nat → Int) (out0 : Option ρ) : Nat → Int → Option ρ
  | 0, _ => none
  | m + 1, i2 => (Q83.b0 N K0 ((Q83.l0 N K0 av0 bv1 out0 m)) out0 av0 bv1 i2)
def Q83.s {ρ : Type} (N : Nat) (K0 : Bool → Option ρ) (lp0 : Int → Option ρ) : Option ρ :=
  (lp0 0)
def Q83 {ρ : Type} (N : Nat) (K0 : Bool → Option ρ) (av0 : Nat → Int) (bv1 : Nat → Int) : Option ρ :=
  (Q83.s N K0 (fun i2 => (Q83.l0 N K0 av0 bv1 (Q83.a0_0 N K0) N i2)))
def Q84.b0 {ρ : Type} (N : Nat) (K0 : Bool → Option ρ) (rec : Int → Option ρ) (out0 : Option ρ) (av0 : Nat → Int) (bv1 : Nat → Int) (i2 : Int) : Option ρ :=
  (if (decide (i2 < 8)) = true then (if (0 : Int) ≤ i2 ∧ i2 < 8 then (if (0 : Int) ≤ i2 ∧ i2 < 8 then (Q83 N (fun rv3 => (if (!rv3) = true then (K0 false) else (rec ((IntKind.i64.wrap (i2 + 1)))))) (fun z => (av0 ((i2.toNat * 8) + z))) (fun z => (bv1 ((i2.toNat * 8) + z)))) else none) else none) else out0)
def Q84.a0_0 {ρ : Type} (N : Nat) (K0 : Bool → Option ρ) : Option ρ :=
  (K0 true)
def Q84.l0 {ρ : Type} (N : Nat) (K0 : Bool → Option ρ) (av0 : Nat → Int) (bv1 : Nat → Int) (out0 : Option ρ) : Nat → Int → Option ρ
  | 0, _ => none
  | m + 1, i2 => (Q84.b0 N K0 ((Q84.l0 N K0 av0 bv1 out0 m)) out0 av0 bv1 i2)
def Q84.s {ρ : Type} (N : Nat) (K0 : Bool → Option ρ) (lp0 : Int → Option ρ) : Option ρ :=
  (lp0 0)
def Q84 {ρ : Type} (N : Nat) (K0 : Bool → Option ρ) (av0 : Nat → Int) (bv1 : Nat → Int) : Option ρ :=
  (Q84.s N K0 (fun i2 => (Q84.l0 N K0 av0 bv1 (Q84.a0_0 N K0) N i2)))
def Q85.b0 {ρ : Type} (N : Nat) (K0 : Bool → Option ρ) (rec : Int → Option ρ) (out0 : Option ρ) (av0 : Nat → Int) (bv1 : Nat → Int) (i2 : Int) : Option ρ :=
  (if (decide (i2 < 8)) = true then (if (0 : Int) ≤ i2 ∧ i2 < 8 then (if (0 : Int) ≤ i2 ∧ i2 < 8 then (Q84 N (fun rv3 => (if (!rv3) = true then (K0 false) else (rec ((IntKind.i64.wrap (i2 + 1)))))) (fun z => (av0 ((i2.toNat * 64) + z))) (fun z => (bv1 ((i2.toNat * 64) + z)))) else none) else none) else out0)
def Q85.a0_0 {ρ : Type} (N : Nat) (K0 : Bool → Option ρ) : Option ρ :=
  (K0 true)
def Q85.l0 {ρ : Type} (N : Nat) (K0 : Bool → Option ρ) (av0 : Nat → Int) (bv1 : Nat → Int) (out0 : Option ρ) : Nat → Int → Option ρ
  | 0, _ => none
  | m + 1, i2 => (Q85.b0 N K0 ((Q85.l0 N K0 av0 bv1 out0 m)) out0 av0 bv1 i2)
def Q85.s {ρ : Type} (N : Nat) (K0 : Bool → Option ρ) (lp0 : Int → Option ρ) : Option ρ :=
  (lp0 0)
def Q85 {ρ : Type} (N : Nat) (K0 : Bool → Option ρ) (av0 : Nat → Int) (bv1 : Nat → Int) : Option ρ :=
  (Q85.s N K0 (fun i2 => (Q85.l0 N K0 av0 bv1 (Q85.a0_0 N K0) N i2)))
def Q86 {ρ : Type} (N : Nat) (K0 : Bool → Option ρ) (av0 : Nat → Int) (av1 : Nat → Int) (bv2 : Nat → Int) (bv3 : Nat → Int) : Option ρ :=
  (if ((av0 0) != (bv2 0)) = true then (K0 false) else (if ((av0 1) != (bv2 1)) = true then (K0 false) else (Q83 N (fun rv4 => (if (!rv4) = true then (K0 false) else (Q85 N (fun rv5 => (if (!rv5) = true then (K0 false) else (Q83 N (fun rv6 => (if (!rv6) = true then (K0 false) else (Q85 N (fun rv7 => (if (!rv7) = true then (K0 false) else (Q84 N (fun rv8 => (if (!rv8) = true then (K0 false) else (K0 true))) (fun z => (av1 (1040 + z))) (fun z => (bv3 (1040 + z)))))) (fun z => (av1 (528 + z))) (fun z => (bv3 (528 + z)))))) (fun z => (av1 (520 + z))) (fun z => (bv3 (520 + z)))))) (fun z => (av1 (8 + z))) (fun z => (bv3 (8 + z)))))) (fun z => (av1 (0 + z))) (fun z => (bv3 (0 + z))))))
def Q87 {ρ : Type} (N : Nat) (K0 : Bool → Option ρ) (aName0 : ByteArray) (aP1 : Int) : Option ρ :=
  (if (decide ((aName0.size : Int) > 1000000)) = true then (K0 true) else (Q27 N (fun rv2 rv3 rv4 => (Q82 N (fun rv5 rv6 rv7 => (Q86 N (fun rv8 => (if (!rv8) = true then (K0 false) else (if (rv7 != rv4) = true then (K0 false) else (K0 true)))) rv5 rv6 rv2 rv3)) aName0 aP1)) aName0 aP1))
end
end Go.Proofs.Ytlehklooibbmcaa.H
