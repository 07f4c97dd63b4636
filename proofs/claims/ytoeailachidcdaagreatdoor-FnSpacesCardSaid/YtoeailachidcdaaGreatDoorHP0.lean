import Derived.Test.YtoeailachidcdaaGreatDoorHgUse
import Derived.Test.YtoeailachidcdaaGreatDoorHgCon
namespace Go.Proofs.YtoeailachidcdaaGreatDoor.H
noncomputable section
set_option linter.unusedVariables false
set_option linter.unusedSimpArgs false
set_option linter.unusedSectionVars false
open Go Go.RowKit Go.Proofs.YtoeailachidcdaaGreatDoor.Hg
set_option maxRecDepth 100000
def laws_big_su.bdy {ρ : Type} (N : Nat) (K0 : Bool → Option ρ) (code0 : Nat) (gv1 : Nat) (gv2 : Nat → Int) : Option ρ :=
  (K0 ((decide ((code0 : Int) > 4096))))
theorem laws_big_su.ex : ∃ f : (ρ : Type) → (Nat) → (Bool → Option ρ) → (Nat) → (Nat) → (Nat → Int) → Option ρ, f = fun ρ N K0 code0 gv1 gv2 => laws_big_su.bdy (ρ := ρ) N K0 code0 gv1 gv2 := ⟨_, rfl⟩
def laws_big_su {ρ : Type} (N : Nat) (K0 : Bool → Option ρ) (code0 : Nat) (gv1 : Nat) (gv2 : Nat → Int) : Option ρ :=
  Classical.choose laws_big_su.ex ρ N K0 code0 gv1 gv2
theorem laws_big_su.opq {ρ : Type} (N : Nat) (K0 : Bool → Option ρ) (code0 : Nat) (gv1 : Nat) (gv2 : Nat → Int) : laws_big_su N K0 code0 gv1 gv2 = laws_big_su.bdy N K0 code0 gv1 gv2 := by
  unfold laws_big_su
  rw [Classical.choose_spec laws_big_su.ex]
def spec_l01From_su.b0 {ρ : Type} (N : Nat) (K0 : Nat → (Nat → Int) → (Nat → Int) → Option ρ) (rec : Int → (Nat → Int) → Option ρ) (out0 : (Nat → Int) → Option ρ) (code0 : Nat) (gv2 : Nat → Int) (i3 : Int) (gv4 : Nat → Int) : Option ρ :=
  (if (decide (i3 < (code0 : Int))) = true then (if (decide (i3 < 4096)) = true then (if (0 : Int) ≤ i3 ∧ i3 < (code0 : Int) then (rec ((IntKind.i64.wrap (i3 + 1))) (fun _ => (IntKind.u64.wrap ((IntKind.u64.wrap ((IntKind.u64.wrap ((gv4 0) * 1099511628211)) + (IntKind.u64.wrap (gv2 (0 + (i3.toNat * 1)))))) + 47)))) else none) else (out0 gv4)) else (out0 gv4))
def spec_l01From_su.a0_0 {ρ : Type} (N : Nat) (K0 : Nat → (Nat → Int) → (Nat → Int) → Option ρ) (code0 : Nat) (ov5 : Nat → Int) : Option ρ :=
  (K0 code0 (fun _ => 0) ov5)
def spec_l01From_su.l0 {ρ : Type} (N : Nat) (K0 : Nat → (Nat → Int) → (Nat → Int) → Option ρ) (code0 : Nat) (gv2 : Nat → Int) (out0 : (Nat → Int) → Option ρ) : Nat → Int → (Nat → Int) → Option ρ
  | 0, _, _ => none
  | m + 1, i3, gv4 => (spec_l01From_su.b0 N K0 ((spec_l01From_su.l0 N K0 code0 gv2 out0 m)) out0 code0 gv2 i3 gv4)
def spec_l01From_su.s {ρ : Type} (N : Nat) (K0 : Nat → (Nat → Int) → (Nat → Int) → Option ρ) (lp0 : Int → (Nat → Int) → Option ρ) (code0 : Nat) : Option ρ :=
  (lp0 0 (fun _ => (IntKind.u64.wrap (11071 + (IntKind.u64.wrap (code0 : Int))))))
def spec_l01From_su {ρ : Type} (N : Nat) (K0 : Nat → (Nat → Int) → (Nat → Int) → Option ρ) (code0 : Nat) (gv1 : Nat) (gv2 : Nat → Int) : Option ρ :=
  (spec_l01From_su.s N K0 (fun i3 gv4 => (spec_l01From_su.l0 N K0 code0 gv2 (fun ov5 => (spec_l01From_su.a0_0 N K0 code0 ov5)) N i3 gv4)) code0)
def spec_l01Next.bdy {ρ : Type} (N : Nat) (K0 : Int → (Nat → Int) → (Nat → Int) → Option ρ) (nv0 : Int) (gv1 : Nat) (gv2 : Nat → Int) (gv3 : Nat → Int) (gv4 : Nat) (gv5 : Nat → Int) : Option ρ :=
  (if (decide (nv0 < 1)) = true then (K0 0 gv2 gv3) else (if (decide ((gv2 0) < (gv1 : Int))) = true then (if (0 : Int) ≤ (gv2 0) ∧ (gv2 0) < (gv1 : Int) then (if nv0 = 0 then none else (K0 ((Int.tmod (IntKind.i64.wrap ((IntKind.i64.wrap (IntKind.u64.wrap (((BitVec.ofInt (IntKind.u64).bits (Int.fdiv (IntKind.u64.wrap ((IntKind.u64.wrap ((gv3 0) * 6364136223846793005)) + 1442695040888963407)) 8589934592) &&& BitVec.ofInt (IntKind.u64).bits 16777215)).toNat : Int))) + (IntKind.i64.wrap (gv5 (0 + (((gv2 0)).toNat * 1)))))) nv0)) (fun _ => (IntKind.i64.wrap ((gv2 0) + 1))) (fun _ => (IntKind.u64.wrap ((IntKind.u64.wrap ((gv3 0) * 6364136223846793005)) + 1442695040888963407))))) else none) else (if nv0 = 0 then none else (K0 ((Int.tmod (IntKind.i64.wrap (IntKind.u64.wrap (((BitVec.ofInt (IntKind.u64).bits (Int.fdiv (IntKind.u64.wrap ((IntKind.u64.wrap ((gv3 0) * 6364136223846793005)) + 1442695040888963407)) 8589934592) &&& BitVec.ofInt (IntKind.u64).bits 16777215)).toNat : Int))) nv0)) gv2 (fun _ => (IntKind.u64.wrap ((IntKind.u64.wrap ((gv3 0) * 6364136223846793005)) + 1442695040888963407)))))))
theorem spec_l01Next.ex : ∃ f : (ρ : Type) → (Nat) → (Int → (Nat → Int) → (Nat → Int) → Option ρ) → (Int) → (Nat) → (Nat → Int) → (Nat → Int) → (Nat) → (Nat → Int) → Option ρ, f = fun ρ N K0 nv0 gv1 gv2 gv3 gv4 gv5 => spec_l01Next.bdy (ρ := ρ) N K0 nv0 gv1 gv2 gv3 gv4 gv5 := ⟨_, rfl⟩
def spec_l01Next {ρ : Type} (N : Nat) (K0 : Int → (Nat → Int) → (Nat → Int) → Option ρ) (nv0 : Int) (gv1 : Nat) (gv2 : Nat → Int) (gv3 : Nat → Int) (gv4 : Nat) (gv5 : Nat → Int) : Option ρ :=
  Classical.choose spec_l01Next.ex ρ N K0 nv0 gv1 gv2 gv3 gv4 gv5
theorem spec_l01Next.opq {ρ : Type} (N : Nat) (K0 : Int → (Nat → Int) → (Nat → Int) → Option ρ) (nv0 : Int) (gv1 : Nat) (gv2 : Nat → Int) (gv3 : Nat → Int) (gv4 : Nat) (gv5 : Nat → Int) : spec_l01Next N K0 nv0 gv1 gv2 gv3 gv4 gv5 = spec_l01Next.bdy N K0 nv0 gv1 gv2 gv3 gv4 gv5 := by
  unfold spec_l01Next
  rw [Classical.choose_spec spec_l01Next.ex]
def spec_l01Pick_s {ρ : Type} (N : Nat) (K0 : Int → (Nat → Int) → (Nat → Int) → Option ρ) (list0 : Nat) (list1 : Nat) (gv2 : Nat) (gv3 : Nat → Int) (gv4 : Nat → Int) (gv5 : Nat) (gv6 : Nat → Int) (gv7 : Nat) (gv8 : Nat → Int) : Option ρ :=
  (spec_l01Next N (fun rv9 rv10 rv11 => (if (0 : Int) ≤ rv9 ∧ rv9 < (list0 : Int) then (K0 ((gv6 (0 + (rv9.toNat * 1)))) rv10 rv11) else none)) ((list0 : Int)) gv2 gv3 gv4 (gv2 * 1) (fun z => (gv8 (0 + z))))
def spec_l01DrawPrime {ρ : Type} (N : Nat) (K0 : Int → (Nat → Int) → (Nat → Int) → Option ρ) (gv0 : Nat) (gv1 : Nat → Int) (gv2 : Nat → Int) (gv3 : Nat) (gv4 : Nat → Int) : Option ρ :=
  (spec_l01Pick_s N (fun rv5 rv6 rv7 => (K0 rv5 rv6 rv7)) 9 9 gv0 gv1 gv2 9 (fun z => ((upd (upd (upd (upd (upd (upd (upd (upd (upd (fun _ => 0) 0 2) 1 2) 2 3) 3 3) 4 5) 5 5) 6 7) 7 11) 8 31) (0 + z))) (gv0 * 1) (fun z => (gv4 (0 + z))))
def spec_l01DrawVector.b0 {ρ : Type} (N : Nat) (K0 : (Nat → Int) → (Nat → Int) → (Nat → Int) → Option ρ) (rec : Int → (Nat → Int) → (Nat → Int) → (Nat → Int) → Option ρ) (out0 : (Nat → Int) → (Nat → Int) → (Nat → Int) → Option ρ) (p0 : Int) (nv1 : Int) (gv2 : Nat) (gv6 : Nat → Int) (i7 : Int) (gv8 : Nat → Int) (gv9 : Nat → Int) (gv10 : Nat → Int) : Option ρ :=
  (if (decide (i7 < nv1)) = true then (if (decide (i7 < 8)) = true then (spec_l01Next N (fun rv11 rv12 rv13 => (if (rv11 == 0) = true then (spec_l01Next N (fun rv14 rv15 rv16 => (if (0 : Int) ≤ i7 ∧ i7 < 8 then (rec ((IntKind.i64.wrap (i7 + 1))) rv15 rv16 (upd gv10 (i7.toNat * 1) (IntKind.u8.wrap rv14))) else none)) ((if 255 < (if 1 > p0 then 1 else p0) then 255 else (if 1 > p0 then 1 else p0))) gv2 rv12 rv13 (gv2 * 1) (fun z => (gv6 (0 + z)))) else (rec ((IntKind.i64.wrap (i7 + 1))) rv12 rv13 gv10))) 2 gv2 gv8 gv9 (gv2 * 1) (fun z => (gv6 (0 + z)))) else (out0 gv8 gv9 gv10)) else (out0 gv8 gv9 gv10))
def spec_l01DrawVector.a0_0 {ρ : Type} (N : Nat) (K0 : (Nat → Int) → (Nat → Int) → (Nat → Int) → Option ρ) (ov17 : Nat → Int) (ov18 : Nat → Int) (ov19 : Nat → Int) : Option ρ :=
  (K0 ov19 ov17 ov18)
def spec_l01DrawVector.l0 {ρ : Type} (N : Nat) (K0 : (Nat → Int) → (Nat → Int) → (Nat → Int) → Option ρ) (p0 : Int) (nv1 : Int) (gv2 : Nat) (gv6 : Nat → Int) (out0 : (Nat → Int) → (Nat → Int) → (Nat → Int) → Option ρ) : Nat → Int → (Nat → Int) → (Nat → Int) → (Nat → Int) → Option ρ
  | 0, _, _, _, _ => none
  | m + 1, i7, gv8, gv9, gv10 => (spec_l01DrawVector.b0 N K0 ((spec_l01DrawVector.l0 N K0 p0 nv1 gv2 gv6 out0 m)) out0 p0 nv1 gv2 gv6 i7 gv8 gv9 gv10)
def spec_l01DrawVector.s {ρ : Type} (N : Nat) (K0 : (Nat → Int) → (Nat → Int) → (Nat → Int) → Option ρ) (lp0 : Int → (Nat → Int) → (Nat → Int) → (Nat → Int) → Option ρ) (gv3 : Nat → Int) (gv4 : Nat → Int) : Option ρ :=
  (lp0 0 gv3 gv4 (fun _ => 0))
def spec_l01DrawVector {ρ : Type} (N : Nat) (K0 : (Nat → Int) → (Nat → Int) → (Nat → Int) → Option ρ) (p0 : Int) (nv1 : Int) (gv2 : Nat) (gv3 : Nat → Int) (gv4 : Nat → Int) (gv5 : Nat) (gv6 : Nat → Int) : Option ρ :=
  (spec_l01DrawVector.s N K0 (fun i7 gv8 gv9 gv10 => (spec_l01DrawVector.l0 N K0 p0 nv1 gv2 gv6 (fun ov17 ov18 ov19 => (spec_l01DrawVector.a0_0 N K0 ov17 ov18 ov19)) N i7 gv8 gv9 gv10)) gv3 gv4)
def spec_l01Any {ρ : Type} (N : Nat) (K0 : (Nat → Int) → (Nat → Int) → (Nat → Int) → Option ρ) (av0 : Nat → Int) (av1 : Nat → Int) (gv2 : Nat) (gv3 : Nat → Int) (gv4 : Nat → Int) (gv5 : Nat) (gv6 : Nat → Int) : Option ρ :=
  (spec_l01DrawVector N (fun rv7 rv8 rv9 => (spec_l01Next N (fun rv10 rv11 rv12 => (if (rv10 == 0) = true then (spec_l01Next N (fun rv13 rv14 rv15 => (spec_l01Pick_s N (fun rv16 rv17 rv18 => (if (0 : Int) ≤ rv13 ∧ rv13 < 8 then (K0 (upd rv7 (rv13.toNat * 1) (IntKind.u8.wrap rv16)) rv17 rv18) else none)) 3 3 gv2 rv14 rv15 3 (fun z => ((upd (upd (upd (fun _ => 0) 0 1) 1 31) 2 255) (0 + z))) (gv2 * 1) (fun z => (gv6 (0 + z))))) 8 gv2 rv11 rv12 (gv2 * 1) (fun z => (gv6 (0 + z)))) else (K0 rv7 rv11 rv12))) 30 gv2 rv8 rv9 (gv2 * 1) (fun z => (gv6 (0 + z))))) ((av0 0)) ((av0 1)) gv2 gv3 gv4 (gv2 * 1) (fun z => (gv6 (0 + z))))
def spec_DrawReduceVectors_su.b0 {ρ : Type} (N : Nat) (K0 : Int → Int → Nat → (Nat → Int) → Option ρ) (rec : Nat → Int → (Nat → Int) → (Nat → Int) → (Nat → Int) → Option ρ) (out0 : Nat → (Nat → Int) → (Nat → Int) → (Nat → Int) → Option ρ) (gv2 : Nat → Int) (rv3 : Nat) (rv6 : Int) (rv9 : Int) (outv15 : Nat) (k16 : Int) (gv17 : Nat → Int) (gv18 : Nat → Int) (gv19 : Nat → Int) : Option ρ :=
  (if (decide (k16 > 0)) = true then (spec_l01Any N (fun rv20 rv21 rv22 => (if (outv15 + 1) * 8 ≤ 140737488355328 then (rec (outv15 + 1) ((IntKind.i64.wrap (k16 - 1))) rv21 rv22 (joinN (outv15 * 8) gv19 rv20)) else none)) (upd (upd (fun _ => 0) 0 rv6) 1 (IntKind.i64.wrap (1 + rv9))) (fun _ => 0) rv3 gv17 gv18 (rv3 * 1) (fun z => (gv2 (0 + z)))) else (out0 outv15 gv17 gv18 gv19))
def spec_DrawReduceVectors_su.a0_0 {ρ : Type} (N : Nat) (K0 : Int → Int → Nat → (Nat → Int) → Option ρ) (gv2 : Nat → Int) (rv3 : Nat) (rv6 : Int) (rv9 : Int) (ov23 : Nat) (ov24 : Nat → Int) (ov25 : Nat → Int) (ov26 : Nat → Int) : Option ρ :=
  (spec_l01Next N (fun rv27 rv28 rv29 => (if (rv27 == 0) = true then (spec_l01Pick_s N (fun rv30 rv31 rv32 => (K0 rv6 rv30 ov23 ov26)) 3 3 rv3 rv28 rv29 3 (fun z => ((upd (upd (upd (fun _ => 0) 0 0) 1 9) 2 (IntKind.i64.wrap ((IntKind.i64.wrap (1 + rv9)) - 1))) (0 + z))) (rv3 * 1) (fun z => (gv2 (0 + z)))) else (K0 rv6 ((IntKind.i64.wrap (1 + rv9))) ov23 ov26))) 30 rv3 ov24 ov25 (rv3 * 1) (fun z => (gv2 (0 + z))))
def spec_DrawReduceVectors_su.l0 {ρ : Type} (N : Nat) (K0 : Int → Int → Nat → (Nat → Int) → Option ρ) (gv2 : Nat → Int) (rv3 : Nat) (rv6 : Int) (rv9 : Int) (out0 : Nat → (Nat → Int) → (Nat → Int) → (Nat → Int) → Option ρ) : Nat → Nat → Int → (Nat → Int) → (Nat → Int) → (Nat → Int) → Option ρ
  | 0, _, _, _, _, _ => none
  | m + 1, outv15, k16, gv17, gv18, gv19 => (spec_DrawReduceVectors_su.b0 N K0 ((spec_DrawReduceVectors_su.l0 N K0 gv2 rv3 rv6 rv9 out0 m)) out0 gv2 rv3 rv6 rv9 outv15 k16 gv17 gv18 gv19)
def spec_DrawReduceVectors_su.s {ρ : Type} (N : Nat) (K0 : Int → Int → Nat → (Nat → Int) → Option ρ) (lp0 : Nat → Int → Int → Nat → Int → (Nat → Int) → (Nat → Int) → (Nat → Int) → Option ρ) (code0 : Nat) (gv2 : Nat → Int) : Option ρ :=
  (spec_l01From_su N (fun rv3 rv4 rv5 => (spec_l01DrawPrime N (fun rv6 rv7 rv8 => (spec_l01Next N (fun rv9 rv10 rv11 => (spec_l01Next N (fun rv12 rv13 rv14 => (lp0 rv3 rv6 rv9 0 rv12 rv13 rv14 (fun _ => 0))) 6 rv3 rv10 rv11 (rv3 * 1) (fun z => (gv2 (0 + z))))) 8 rv3 rv7 rv8 (rv3 * 1) (fun z => (gv2 (0 + z))))) rv3 rv4 rv5 (rv3 * 1) (fun z => (gv2 (0 + z))))) code0 (code0 * 1) (fun z => (gv2 (0 + z))))
def spec_DrawReduceVectors_su.bdy {ρ : Type} (N : Nat) (K0 : Int → Int → Nat → (Nat → Int) → Option ρ) (code0 : Nat) (gv1 : Nat) (gv2 : Nat → Int) : Option ρ :=
  (spec_DrawReduceVectors_su.s N K0 (fun rv3 rv6 rv9 outv15 k16 gv17 gv18 gv19 => (spec_DrawReduceVectors_su.l0 N K0 gv2 rv3 rv6 rv9 (fun ov23 ov24 ov25 ov26 => (spec_DrawReduceVectors_su.a0_0 N K0 gv2 rv3 rv6 rv9 ov23 ov24 ov25 ov26)) N outv15 k16 gv17 gv18 gv19)) code0 gv2)
theorem spec_DrawReduceVectors_su.ex : ∃ f : (ρ : Type) → (Nat) → (Int → Int → Nat → (Nat → Int) → Option ρ) → (Nat) → (Nat) → (Nat → Int) → Option ρ, f = fun ρ N K0 code0 gv1 gv2 => spec_DrawReduceVectors_su.bdy (ρ := ρ) N K0 code0 gv1 gv2 := ⟨_, rfl⟩
def spec_DrawReduceVectors_su {ρ : Type} (N : Nat) (K0 : Int → Int → Nat → (Nat → Int) → Option ρ) (code0 : Nat) (gv1 : Nat) (gv2 : Nat → Int) : Option ρ :=
  Classical.choose spec_DrawReduceVectors_su.ex ρ N K0 code0 gv1 gv2
theorem spec_DrawReduceVectors_su.opq {ρ : Type} (N : Nat) (K0 : Int → Int → Nat → (Nat → Int) → Option ρ) (code0 : Nat) (gv1 : Nat) (gv2 : Nat → Int) : spec_DrawReduceVectors_su N K0 code0 gv1 gv2 = spec_DrawReduceVectors_su.bdy N K0 code0 gv1 gv2 := by
  unfold spec_DrawReduceVectors_su
  rw [Classical.choose_spec spec_DrawReduceVectors_su.ex]
def spec_l01In {ρ : Type} (N : Nat) (K0 : Bool → Option ρ) (nv0 : Int) (low1 : Int) (high2 : Int) : Option ρ :=
  (if (decide (nv0 ≥ low1)) = true then (K0 ((decide (nv0 ≤ high2)))) else (K0 false))
def spec_l01Prime.b0 {ρ : Type} (N : Nat) (K0 : Bool → Option ρ) (rec : Int → Option ρ) (out0 : Option ρ) (p0 : Int) (k1 : Int) : Option ρ :=
  (if (decide (k1 < p0)) = true then (if (decide (k1 ≤ 31)) = true then (if k1 = 0 then none else (if ((Int.tmod p0 k1) == 0) = true then (K0 false) else (rec ((IntKind.i64.wrap (k1 + 1)))))) else out0) else out0)
def spec_l01Prime.a0_0 {ρ : Type} (N : Nat) (K0 : Bool → Option ρ) (p0 : Int) : Option ρ :=
  (spec_l01In N (fun rv2 => (K0 (rv2))) p0 2 31)
def spec_l01Prime.l0 {ρ : Type} (N : Nat) (K0 : Bool → Option ρ) (p0 : Int) (out0 : Option ρ) : Nat → Int → Option ρ
  | 0, _ => none
  | m + 1, k1 => (spec_l01Prime.b0 N K0 ((spec_l01Prime.l0 N K0 p0 out0 m)) out0 p0 k1)
def spec_l01Prime.s {ρ : Type} (N : Nat) (K0 : Bool → Option ρ) (lp0 : Int → Option ρ) : Option ρ :=
  (lp0 2)
def spec_l01Prime {ρ : Type} (N : Nat) (K0 : Bool → Option ρ) (p0 : Int) : Option ρ :=
  (spec_l01Prime.s N K0 (fun k1 => (spec_l01Prime.l0 N K0 p0 (spec_l01Prime.a0_0 N K0 p0) N k1)))
def spec_l01Sizes {ρ : Type} (N : Nat) (K0 : Bool → Option ρ) (p0 : Int) (nv1 : Int) : Option ρ :=
  (spec_l01Prime N (fun rv2 => (if rv2 = true then (spec_l01In N (fun rv3 => (K0 (rv3))) nv1 1 8) else (K0 false))) p0)
def spec_l01Vector.b0 {ρ : Type} (N : Nat) (K0 : Bool → Option ρ) (rec : Int → Option ρ) (out0 : Option ρ) (p0 : Int) (nv1 : Int) (v2 : Nat → Int) (i3 : Int) : Option ρ :=
  (if (decide (i3 < 8)) = true then (if (0 : Int) ≤ i3 ∧ i3 < 8 then (if (decide ((IntKind.i64.wrap (v2 (i3.toNat * 1))) ≥ p0)) = true then (K0 false) else (if (decide (i3 ≥ nv1)) = true then (if (0 : Int) ≤ i3 ∧ i3 < 8 then (if ((v2 (i3.toNat * 1)) != 0) = true then (K0 false) else (rec ((IntKind.i64.wrap (i3 + 1))))) else none) else (rec ((IntKind.i64.wrap (i3 + 1)))))) else none) else out0)
def spec_l01Vector.a0_0 {ρ : Type} (N : Nat) (K0 : Bool → Option ρ) : Option ρ :=
  (K0 true)
def spec_l01Vector.l0 {ρ : Type} (N : Nat) (K0 : Bool → Option ρ) (p0 : Int) (nv1 : Int) (v2 : Nat → Int) (out0 : Option ρ) : Nat → Int → Option ρ
  | 0, _ => none
  | m + 1, i3 => (spec_l01Vector.b0 N K0 ((spec_l01Vector.l0 N K0 p0 nv1 v2 out0 m)) out0 p0 nv1 v2 i3)
def spec_l01Vector.s {ρ : Type} (N : Nat) (K0 : Bool → Option ρ) (lp0 : Int → Option ρ) : Option ρ :=
  (lp0 0)
def spec_l01Vector {ρ : Type} (N : Nat) (K0 : Bool → Option ρ) (p0 : Int) (nv1 : Int) (v2 : Nat → Int) : Option ρ :=
  (spec_l01Vector.s N K0 (fun i3 => (spec_l01Vector.l0 N K0 p0 nv1 v2 (spec_l01Vector.a0_0 N K0) N i3)))
def spec_l01Many_su.b0 {ρ : Type} (N : Nat) (K0 : Int → Option ρ) (rec : Int → Option ρ) (out0 : Option ρ) (p0 : Int) (nv1 : Int) (list2 : Nat) (gv4 : Nat → Int) (i6 : Int) : Option ρ :=
  (if (decide (i6 < (list2 : Int))) = true then (if (0 : Int) ≤ i6 ∧ i6 < (list2 : Int) then (spec_l01Vector N (fun rv7 => (if (!rv7) = true then (K0 1) else (rec ((IntKind.i64.wrap (i6 + 1)))))) p0 nv1 (fun z => (gv4 ((0 + (i6.toNat * 8)) + z)))) else none) else out0)
def spec_l01Many_su.a0_0 {ρ : Type} (N : Nat) (K0 : Int → Option ρ) : Option ρ :=
  (K0 0)
def spec_l01Many_su.l0 {ρ : Type} (N : Nat) (K0 : Int → Option ρ) (p0 : Int) (nv1 : Int) (list2 : Nat) (gv4 : Nat → Int) (out0 : Option ρ) : Nat → Int → Option ρ
  | 0, _ => none
  | m + 1, i6 => (spec_l01Many_su.b0 N K0 ((spec_l01Many_su.l0 N K0 p0 nv1 list2 gv4 out0 m)) out0 p0 nv1 list2 gv4 i6)
def spec_l01Many_su.s {ρ : Type} (N : Nat) (K0 : Int → Option ρ) (lp0 : Int → Option ρ) (p0 : Int) (nv1 : Int) : Option ρ :=
  (spec_l01Sizes N (fun rv5 => (if (!rv5) = true then (K0 1) else (lp0 0))) p0 nv1)
def spec_l01Many_su {ρ : Type} (N : Nat) (K0 : Int → Option ρ) (p0 : Int) (nv1 : Int) (list2 : Nat) (gv3 : Nat) (gv4 : Nat → Int) : Option ρ :=
  (spec_l01Many_su.s N K0 (fun i6 => (spec_l01Many_su.l0 N K0 p0 nv1 list2 gv4 (spec_l01Many_su.a0_0 N K0) N i6)) p0 nv1)
def spec_l01First.b0 {ρ : Type} (N : Nat) (K0 : Int → Option ρ) (rec : Int → Option ρ) (out0 : Int → Option ρ) (v0 : Nat → Int) (at1 : Int) : Option ρ :=
  (if (decide (at1 < 8)) = true then (if (0 : Int) ≤ at1 ∧ at1 < 8 then (if ((v0 (at1.toNat * 1)) == 0) = true then (rec ((IntKind.i64.wrap (at1 + 1)))) else (out0 at1)) else none) else (out0 at1))
def spec_l01First.a0_0 {ρ : Type} (N : Nat) (K0 : Int → Option ρ) (ov2 : Int) : Option ρ :=
  (K0 ov2)
def spec_l01First.l0 {ρ : Type} (N : Nat) (K0 : Int → Option ρ) (v0 : Nat → Int) (out0 : Int → Option ρ) : Nat → Int → Option ρ
  | 0, _ => none
  | m + 1, at1 => (spec_l01First.b0 N K0 ((spec_l01First.l0 N K0 v0 out0 m)) out0 v0 at1)
def spec_l01First.s {ρ : Type} (N : Nat) (K0 : Int → Option ρ) (lp0 : Int → Option ρ) : Option ρ :=
  (lp0 0)
def spec_l01First {ρ : Type} (N : Nat) (K0 : Int → Option ρ) (v0 : Nat → Int) : Option ρ :=
  (spec_l01First.s N K0 (fun at1 => (spec_l01First.l0 N K0 v0 (fun ov2 => (spec_l01First.a0_0 N K0 ov2)) N at1)))
def spec_l01Mod {ρ : Type} (N : Nat) (K0 : Int → Option ρ) (p0 : Int) (x1 : Int) : Option ρ :=
  (if p0 = 0 then none else (if p0 = 0 then none else (K0 ((IntKind.u8.wrap (Int.tmod (IntKind.i64.wrap ((Int.tmod x1 p0) + p0)) p0))))))
def spec_l01Add.b0 {ρ : Type} (N : Nat) (K0 : (Nat → Int) → Option ρ) (rec : Int → (Nat → Int) → Option ρ) (out0 : (Nat → Int) → Option ρ) (p0 : Int) (w2 : Nat → Int) (k3 : Int) (i4 : Int) (gv5 : Nat → Int) : Option ρ :=
  (if (decide (i4 < 8)) = true then (if (0 : Int) ≤ i4 ∧ i4 < 8 then (if (0 : Int) ≤ i4 ∧ i4 < 8 then (spec_l01Mod N (fun rv6 => (if (0 : Int) ≤ i4 ∧ i4 < 8 then (rec ((IntKind.i64.wrap (i4 + 1))) (upd gv5 (i4.toNat * 1) rv6)) else none)) p0 ((IntKind.i64.wrap ((IntKind.i64.wrap (gv5 (i4.toNat * 1))) + (IntKind.i64.wrap (k3 * (IntKind.i64.wrap (w2 (i4.toNat * 1))))))))) else none) else none) else (out0 gv5))
def spec_l01Add.a0_0 {ρ : Type} (N : Nat) (K0 : (Nat → Int) → Option ρ) (ov7 : Nat → Int) : Option ρ :=
  (K0 ov7)
def spec_l01Add.l0 {ρ : Type} (N : Nat) (K0 : (Nat → Int) → Option ρ) (p0 : Int) (w2 : Nat → Int) (k3 : Int) (out0 : (Nat → Int) → Option ρ) : Nat → Int → (Nat → Int) → Option ρ
  | 0, _, _ => none
  | m + 1, i4, gv5 => (spec_l01Add.b0 N K0 ((spec_l01Add.l0 N K0 p0 w2 k3 out0 m)) out0 p0 w2 k3 i4 gv5)
def spec_l01Add.s {ρ : Type} (N : Nat) (K0 : (Nat → Int) → Option ρ) (lp0 : Int → (Nat → Int) → Option ρ) (v1 : Nat → Int) : Option ρ :=
  (lp0 0 v1)
def spec_l01Add {ρ : Type} (N : Nat) (K0 : (Nat → Int) → Option ρ) (p0 : Int) (v1 : Nat → Int) (w2 : Nat → Int) (k3 : Int) : Option ρ :=
  (spec_l01Add.s N K0 (fun i4 gv5 => (spec_l01Add.l0 N K0 p0 w2 k3 (fun ov7 => (spec_l01Add.a0_0 N K0 ov7)) N i4 gv5)) v1)
def spec_l01Zero {ρ : Type} (N : Nat) (K0 : Bool → Option ρ) (v0 : Nat → Int) : Option ρ :=
  (K0 ((eqN 8 v0 (fun _ => 0))))
def spec_l01Inverse.b0 {ρ : Type} (N : Nat) (K0 : Int → Option ρ) (rec : Int → Option ρ) (out0 : Option ρ) (p0 : Int) (x1 : Int) (k2 : Int) : Option ρ :=
  (if (decide (k2 < p0)) = true then (if p0 = 0 then none else (if ((Int.tmod (IntKind.i64.wrap (k2 * (IntKind.i64.wrap x1))) p0) == 1) = true then (K0 ((IntKind.u8.wrap k2))) else (rec ((IntKind.i64.wrap (k2 + 1)))))) else out0)
def spec_l01Inverse.a0_0 {ρ : Type} (N : Nat) (K0 : Int → Option ρ) : Option ρ :=
  (K0 0)
def spec_l01Inverse.l0 {ρ : Type} (N : Nat) (K0 : Int → Option ρ) (p0 : Int) (x1 : Int) (out0 : Option ρ) : Nat → Int → Option ρ
  | 0, _ => none
  | m + 1, k2 => (spec_l01Inverse.b0 N K0 ((spec_l01Inverse.l0 N K0 p0 x1 out0 m)) out0 p0 x1 k2)
def spec_l01Inverse.s {ρ : Type} (N : Nat) (K0 : Int → Option ρ) (lp0 : Int → Option ρ) : Option ρ :=
  (lp0 1)
def spec_l01Inverse {ρ : Type} (N : Nat) (K0 : Int → Option ρ) (p0 : Int) (x1 : Int) : Option ρ :=
  (spec_l01Inverse.s N K0 (fun k2 => (spec_l01Inverse.l0 N K0 p0 x1 (spec_l01Inverse.a0_0 N K0) N k2)))
def spec_l01By_su_v2.b0 {ρ : Type} (N : Nat) (K0 : (Nat → Int) → Option ρ) (rec : Int → (Nat → Int) → Option ρ) (out0 : (Nat → Int) → Option ρ) (p0 : Int) (rows2 : Nat) (gv4 : Nat → Int) (i5 : Int) (gv6 : Nat → Int) : Option ρ :=
  (if (decide (i5 < (rows2 : Int))) = true then (if (0 : Int) ≤ i5 ∧ i5 < (rows2 : Int) then (spec_l01First N (fun rv7 => (if (0 : Int) ≤ rv7 ∧ rv7 < 8 then (if ((gv6 (rv7.toNat * 1)) != 0) = true then (if (0 : Int) ≤ i5 ∧ i5 < (rows2 : Int) then (if (0 : Int) ≤ rv7 ∧ rv7 < 8 then (spec_l01Add N (fun rv8 => (rec ((IntKind.i64.wrap (i5 + 1))) rv8)) p0 gv6 (fun z => (gv4 ((0 + (i5.toNat * 8)) + z))) ((IntKind.i64.wrap (0 - (IntKind.i64.wrap (gv6 (rv7.toNat * 1))))))) else none) else none) else (rec ((IntKind.i64.wrap (i5 + 1))) gv6)) else none)) (fun z => (gv4 ((0 + (i5.toNat * 8)) + z)))) else none) else (out0 gv6))
def spec_l01By_su_v2.a0_0 {ρ : Type} (N : Nat) (K0 : (Nat → Int) → Option ρ) (ov9 : Nat → Int) : Option ρ :=
  (K0 ov9)
def spec_l01By_su_v2.l0 {ρ : Type} (N : Nat) (K0 : (Nat → Int) → Option ρ) (p0 : Int) (rows2 : Nat) (gv4 : Nat → Int) (out0 : (Nat → Int) → Option ρ) : Nat → Int → (Nat → Int) → Option ρ
  | 0, _, _ => none
  | m + 1, i5, gv6 => (spec_l01By_su_v2.b0 N K0 ((spec_l01By_su_v2.l0 N K0 p0 rows2 gv4 out0 m)) out0 p0 rows2 gv4 i5 gv6)
def spec_l01By_su_v2.s {ρ : Type} (N : Nat) (K0 : (Nat → Int) → Option ρ) (lp0 : Int → (Nat → Int) → Option ρ) (v1 : Nat → Int) : Option ρ :=
  (lp0 0 v1)
def spec_l01By_su_v2 {ρ : Type} (N : Nat) (K0 : (Nat → Int) → Option ρ) (p0 : Int) (v1 : Nat → Int) (rows2 : Nat) (gv3 : Nat) (gv4 : Nat → Int) : Option ρ :=
  (spec_l01By_su_v2.s N K0 (fun i5 gv6 => (spec_l01By_su_v2.l0 N K0 p0 rows2 gv4 (fun ov9 => (spec_l01By_su_v2.a0_0 N K0 ov9)) N i5 gv6)) v1)
def spec_l01Put_su_v2.b0 {ρ : Type} (N : Nat) (K0 : Nat → Option ρ) (K1 : Nat → (Nat → Int) → Option ρ) (rec : Nat → Bool → Int → (Nat → Int) → Option ρ) (out0 : Nat → Bool → (Nat → Int) → Option ρ) (p0 : Int) (rows1 : Nat) (gv4 : Nat → Int) (rv7 : Int) (rv9 : Nat → Int) (outv10 : Nat) (placed11 : Bool) (i12 : Int) (gv13 : Nat → Int) : Option ρ :=
  (if (decide (i12 < (rows1 : Int))) = true then (if (!placed11) = true then (if (0 : Int) ≤ i12 ∧ i12 < (rows1 : Int) then (spec_l01First N (fun rv14 => (if (decide (rv14 > rv7)) = true then (if (outv10 + 1) * 8 ≤ 140737488355328 then (if (0 : Int) ≤ i12 ∧ i12 < (rows1 : Int) then (if (0 : Int) ≤ i12 ∧ i12 < (rows1 : Int) then (if (0 : Int) ≤ rv7 ∧ rv7 < 8 then (spec_l01Add N (fun rv15 => (if ((outv10 + 1) + 1) * 8 ≤ 140737488355328 then (rec ((outv10 + 1) + 1) true ((IntKind.i64.wrap (i12 + 1))) (joinN ((outv10 + 1) * 8) (joinN (outv10 * 8) gv13 rv9) rv15)) else none)) p0 (fun z => (gv4 ((0 + (i12.toNat * 8)) + z))) rv9 ((IntKind.i64.wrap (0 - (IntKind.i64.wrap (gv4 ((0 + (i12.toNat * 8)) + (rv7.toNat * 1)))))))) else none) else none) else none) else none) else (if (0 : Int) ≤ i12 ∧ i12 < (rows1 : Int) then (if (0 : Int) ≤ i12 ∧ i12 < (rows1 : Int) then (if (0 : Int) ≤ rv7 ∧ rv7 < 8 then (spec_l01Add N (fun rv16 => (if (outv10 + 1) * 8 ≤ 140737488355328 then (rec (outv10 + 1) (placed11) ((IntKind.i64.wrap (i12 + 1))) (joinN (outv10 * 8) gv13 rv16)) else none)) p0 (fun z => (gv4 ((0 + (i12.toNat * 8)) + z))) rv9 ((IntKind.i64.wrap (0 - (IntKind.i64.wrap (gv4 ((0 + (i12.toNat * 8)) + (rv7.toNat * 1)))))))) else none) else none) else none))) (fun z => (gv4 ((0 + (i12.toNat * 8)) + z)))) else none) else (if (0 : Int) ≤ i12 ∧ i12 < (rows1 : Int) then (if (0 : Int) ≤ i12 ∧ i12 < (rows1 : Int) then (if (0 : Int) ≤ rv7 ∧ rv7 < 8 then (spec_l01Add N (fun rv17 => (if (outv10 + 1) * 8 ≤ 140737488355328 then (rec (outv10 + 1) (placed11) ((IntKind.i64.wrap (i12 + 1))) (joinN (outv10 * 8) gv13 rv17)) else none)) p0 (fun z => (gv4 ((0 + (i12.toNat * 8)) + z))) rv9 ((IntKind.i64.wrap (0 - (IntKind.i64.wrap (gv4 ((0 + (i12.toNat * 8)) + (rv7.toNat * 1)))))))) else none) else none) else none)) else (out0 outv10 (placed11) gv13))
def spec_l01Put_su_v2.a0_0 {ρ : Type} (N : Nat) (K0 : Nat → Option ρ) (K1 : Nat → (Nat → Int) → Option ρ) (rv9 : Nat → Int) (ov18 : Nat) (ov19 : Bool) (ov20 : Nat → Int) : Option ρ :=
  (if (!ov19) = true then (if (ov18 + 1) * 8 ≤ 140737488355328 then (K1 (ov18 + 1) (joinN (ov18 * 8) ov20 rv9)) else none) else (K1 ov18 ov20))
def spec_l01Put_su_v2.l0 {ρ : Type} (N : Nat) (K0 : Nat → Option ρ) (K1 : Nat → (Nat → Int) → Option ρ) (p0 : Int) (rows1 : Nat) (gv4 : Nat → Int) (rv7 : Int) (rv9 : Nat → Int) (out0 : Nat → Bool → (Nat → Int) → Option ρ) : Nat → Nat → Bool → Int → (Nat → Int) → Option ρ
  | 0, _, _, _, _ => none
  | m + 1, outv10, placed11, i12, gv13 => (spec_l01Put_su_v2.b0 N K0 K1 ((spec_l01Put_su_v2.l0 N K0 K1 p0 rows1 gv4 rv7 rv9 out0 m)) out0 p0 rows1 gv4 rv7 rv9 outv10 placed11 i12 gv13)
def spec_l01Put_su_v2.s {ρ : Type} (N : Nat) (K0 : Nat → Option ρ) (K1 : Nat → (Nat → Int) → Option ρ) (lp0 : Int → (Nat → Int) → Nat → Bool → Int → (Nat → Int) → Option ρ) (p0 : Int) (rows1 : Nat) (v2 : Nat → Int) (gv4 : Nat → Int) : Option ρ :=
  (spec_l01By_su_v2 N (fun rv5 => (spec_l01Zero N (fun rv6 => (if rv6 = true then (K0 rows1) else (spec_l01First N (fun rv7 => (if (0 : Int) ≤ rv7 ∧ rv7 < 8 then (spec_l01Inverse N (fun rv8 => (spec_l01Add N (fun rv9 => (lp0 rv7 rv9 0 false 0 (fun _ => 0))) p0 (fun _ => 0) rv5 ((IntKind.i64.wrap rv8)))) p0 ((rv5 (rv7.toNat * 1)))) else none)) rv5))) rv5)) p0 v2 rows1 (rows1 * 8) (fun z => (gv4 (0 + z))))
def spec_l01Put_su_v2 {ρ : Type} (N : Nat) (K0 : Nat → Option ρ) (K1 : Nat → (Nat → Int) → Option ρ) (p0 : Int) (rows1 : Nat) (v2 : Nat → Int) (gv3 : Nat) (gv4 : Nat → Int) : Option ρ :=
  (spec_l01Put_su_v2.s N K0 K1 (fun rv7 rv9 outv10 placed11 i12 gv13 => (spec_l01Put_su_v2.l0 N K0 K1 p0 rows1 gv4 rv7 rv9 (fun ov18 ov19 ov20 => (spec_l01Put_su_v2.a0_0 N K0 K1 rv9 ov18 ov19 ov20)) N outv10 placed11 i12 gv13)) p0 rows1 v2 gv4)
def spec_l01Reduce_su.b0 {ρ : Type} (N : Nat) (K0 : Nat → (Nat → Int) → Option ρ) (rec : Nat → Int → (Nat → Int) → Option ρ) (out0 : Nat → (Nat → Int) → Option ρ) (p0 : Int) (list1 : Nat) (gv3 : Nat → Int) (outv4 : Nat) (i5 : Int) (gv6 : Nat → Int) : Option ρ :=
  (if (decide (i5 < (list1 : Int))) = true then (if (0 : Int) ≤ i5 ∧ i5 < (list1 : Int) then (spec_l01Put_su_v2 N (fun rv7 => (rec rv7 ((IntKind.i64.wrap (i5 + 1))) gv6)) (fun rv8 rv9 => (rec rv8 ((IntKind.i64.wrap (i5 + 1))) rv9)) p0 outv4 (fun z => (gv3 ((0 + (i5.toNat * 8)) + z))) (outv4 * 8) (fun z => (gv6 (0 + z)))) else none) else (out0 outv4 gv6))
def spec_l01Reduce_su.a0_0 {ρ : Type} (N : Nat) (K0 : Nat → (Nat → Int) → Option ρ) (ov10 : Nat) (ov11 : Nat → Int) : Option ρ :=
  (K0 ov10 ov11)
def spec_l01Reduce_su.l0 {ρ : Type} (N : Nat) (K0 : Nat → (Nat → Int) → Option ρ) (p0 : Int) (list1 : Nat) (gv3 : Nat → Int) (out0 : Nat → (Nat → Int) → Option ρ) : Nat → Nat → Int → (Nat → Int) → Option ρ
  | 0, _, _, _ => none
  | m + 1, outv4, i5, gv6 => (spec_l01Reduce_su.b0 N K0 ((spec_l01Reduce_su.l0 N K0 p0 list1 gv3 out0 m)) out0 p0 list1 gv3 outv4 i5 gv6)
def spec_l01Reduce_su.s {ρ : Type} (N : Nat) (K0 : Nat → (Nat → Int) → Option ρ) (lp0 : Nat → Int → (Nat → Int) → Option ρ) : Option ρ :=
  (lp0 0 0 (fun _ => 0))
def spec_l01Reduce_su {ρ : Type} (N : Nat) (K0 : Nat → (Nat → Int) → Option ρ) (p0 : Int) (list1 : Nat) (gv2 : Nat) (gv3 : Nat → Int) : Option ρ :=
  (spec_l01Reduce_su.s N K0 (fun outv4 i5 gv6 => (spec_l01Reduce_su.l0 N K0 p0 list1 gv3 (fun ov10 ov11 => (spec_l01Reduce_su.a0_0 N K0 ov10 ov11)) N outv4 i5 gv6)))
def spec_ReduceVectors_su.bdy {ρ : Type} (N : Nat) (K0 : Nat → Int → (Nat → Int) → Option ρ) (p0 : Int) (nv1 : Int) (list2 : Nat) (gv3 : Nat) (gv4 : Nat → Int) : Option ρ :=
  (spec_l01Many_su N (fun rv5 => (if (rv5 != 0) = true then (K0 0 rv5 (fun _ => 0)) else (spec_l01Reduce_su N (fun rv6 rv7 => (K0 rv6 0 rv7)) p0 list2 (list2 * 8) (fun z => (gv4 (0 + z)))))) p0 nv1 list2 (list2 * 8) (fun z => (gv4 (0 + z))))
theorem spec_ReduceVectors_su.ex : ∃ f : (ρ : Type) → (Nat) → (Nat → Int → (Nat → Int) → Option ρ) → (Int) → (Int) → (Nat) → (Nat) → (Nat → Int) → Option ρ, f = fun ρ N K0 p0 nv1 list2 gv3 gv4 => spec_ReduceVectors_su.bdy (ρ := ρ) N K0 p0 nv1 list2 gv3 gv4 := ⟨_, rfl⟩
def spec_ReduceVectors_su {ρ : Type} (N : Nat) (K0 : Nat → Int → (Nat → Int) → Option ρ) (p0 : Int) (nv1 : Int) (list2 : Nat) (gv3 : Nat) (gv4 : Nat → Int) : Option ρ :=
  Classical.choose spec_ReduceVectors_su.ex ρ N K0 p0 nv1 list2 gv3 gv4
theorem spec_ReduceVectors_su.opq {ρ : Type} (N : Nat) (K0 : Nat → Int → (Nat → Int) → Option ρ) (p0 : Int) (nv1 : Int) (list2 : Nat) (gv3 : Nat) (gv4 : Nat → Int) : spec_ReduceVectors_su N K0 p0 nv1 list2 gv3 gv4 = spec_ReduceVectors_su.bdy N K0 p0 nv1 list2 gv3 gv4 := by
  unfold spec_ReduceVectors_su
  rw [Classical.choose_spec spec_ReduceVectors_su.ex]
def impl_IsPrime.b0 {ρ : Type} (N : Nat) (K0 : Bool → Option ρ) (rec : Int → Option ρ) (out0 : Option ρ) (p0 : Int) (k1 : Int) : Option ρ :=
  (if (decide ((IntKind.i64.wrap (k1 * k1)) ≤ p0)) = true then (if k1 = 0 then none else (if ((Int.tmod p0 k1) == 0) = true then (K0 false) else (rec ((IntKind.i64.wrap (k1 + 1)))))) else out0)
def impl_IsPrime.a0_0 {ρ : Type} (N : Nat) (K0 : Bool → Option ρ) : Option ρ :=
  (K0 true)
def impl_IsPrime.l0 {ρ : Type} (N : Nat) (K0 : Bool → Option ρ) (p0 : Int) (out0 : Option ρ) : Nat → Int → Option ρ
  | 0, _ => none
  | m + 1, k1 => (impl_IsPrime.b0 N K0 ((impl_IsPrime.l0 N K0 p0 out0 m)) out0 p0 k1)
def impl_IsPrime.s {ρ : Type} (N : Nat) (K0 : Bool → Option ρ) (lp0 : Int → Option ρ) (p0 : Int) : Option ρ :=
  (if (decide (p0 < 2)) = true then (K0 false) else (if (decide (p0 > 31)) = true then (K0 false) else (lp0 2)))
def impl_IsPrime {ρ : Type} (N : Nat) (K0 : Bool → Option ρ) (p0 : Int) : Option ρ :=
  (impl_IsPrime.s N K0 (fun k1 => (impl_IsPrime.l0 N K0 p0 (impl_IsPrime.a0_0 N K0) N k1)) p0)
def impl_in {ρ : Type} (N : Nat) (K0 : Bool → Option ρ) (x0 : Int) (least1 : Int) (most2 : Int) : Option ρ :=
  (if (decide (least1 ≤ x0)) = true then (K0 ((decide (x0 ≤ most2)))) else (K0 false))
def impl_IsVector.b0 {ρ : Type} (N : Nat) (K0 : Bool → Option ρ) (rec : Int → Option ρ) (out0 : Option ρ) (p0 : Int) (nv1 : Int) (v2 : Nat → Int) (x5 : Int) : Option ρ :=
  (if (decide (x5 < 8)) = true then (if (0 : Int) ≤ x5 ∧ x5 < 8 then (if (decide ((IntKind.i64.wrap (v2 x5.toNat)) ≥ p0)) = true then (K0 false) else (if (decide (x5 ≥ nv1)) = true then (if ((v2 x5.toNat) != 0) = true then (K0 false) else (rec ((IntKind.i64.wrap (x5 + 1))))) else (rec ((IntKind.i64.wrap (x5 + 1)))))) else none) else out0)
def impl_IsVector.a0_0 {ρ : Type} (N : Nat) (K0 : Bool → Option ρ) : Option ρ :=
  (K0 true)
def impl_IsVector.l0 {ρ : Type} (N : Nat) (K0 : Bool → Option ρ) (p0 : Int) (nv1 : Int) (v2 : Nat → Int) (out0 : Option ρ) : Nat → Int → Option ρ
  | 0, _ => none
  | m + 1, x5 => (impl_IsVector.b0 N K0 ((impl_IsVector.l0 N K0 p0 nv1 v2 out0 m)) out0 p0 nv1 v2 x5)
def impl_IsVector.s {ρ : Type} (N : Nat) (K0 : Bool → Option ρ) (lp0 : Int → Option ρ) (p0 : Int) (nv1 : Int) : Option ρ :=
  (impl_IsPrime N (fun rv3 => (if (!rv3) = true then (K0 false) else (impl_in N (fun rv4 => (if (!rv4) = true then (K0 false) else (lp0 0))) nv1 1 8))) p0)
def impl_IsVector.bdy {ρ : Type} (N : Nat) (K0 : Bool → Option ρ) (p0 : Int) (nv1 : Int) (v2 : Nat → Int) : Option ρ :=
  (impl_IsVector.s N K0 (fun x5 => (impl_IsVector.l0 N K0 p0 nv1 v2 (impl_IsVector.a0_0 N K0) N x5)) p0 nv1)
theorem impl_IsVector.ex : ∃ f : (ρ : Type) → (Nat) → (Bool → Option ρ) → (Int) → (Int) → (Nat → Int) → Option ρ, f = fun ρ N K0 p0 nv1 v2 => impl_IsVector.bdy (ρ := ρ) N K0 p0 nv1 v2 := ⟨_, rfl⟩
def impl_IsVector {ρ : Type} (N : Nat) (K0 : Bool → Option ρ) (p0 : Int) (nv1 : Int) (v2 : Nat → Int) : Option ρ :=
  Classical.choose impl_IsVector.ex ρ N K0 p0 nv1 v2
theorem impl_IsVector.opq {ρ : Type} (N : Nat) (K0 : Bool → Option ρ) (p0 : Int) (nv1 : Int) (v2 : Nat → Int) : impl_IsVector N K0 p0 nv1 v2 = impl_IsVector.bdy N K0 p0 nv1 v2 := by
  unfold impl_IsVector
  rw [Classical.choose_spec impl_IsVector.ex]
def impl_ReduceVectors_c1 {ρ : Type} (N : Nat) (K0 : Bool → Option ρ) (v0 : Nat → Int) (gv1 : Nat → Int) (gv2 : Nat → Int) : Option ρ :=
  (impl_IsVector N (fun rv3 => (K0 ((!rv3)))) ((gv1 0)) ((gv2 0)) v0)
def slices_IndexFunc_suf.b0 {ρ : Type} (N : Nat) (K0 : Int → Option ρ) (rec : Int → Option ρ) (out0 : Option ρ) (s0 : Nat) (gv2 : Nat → Int) (gv3 : Nat → Int) (gv4 : Nat → Int) (x5 : Int) : Option ρ :=
  (if (decide (x5 < (s0 : Int))) = true then (if (0 : Int) ≤ x5 ∧ x5 < (s0 : Int) then (impl_ReduceVectors_c1 N (fun rv6 => (if rv6 = true then (K0 x5) else (rec ((IntKind.i64.wrap (x5 + 1)))))) (fun z => (gv2 ((0 + (x5.toNat * 8)) + z))) gv3 gv4) else none) else out0)
def slices_IndexFunc_suf.a0_0 {ρ : Type} (N : Nat) (K0 : Int → Option ρ) : Option ρ :=
  (K0 (-1))
def slices_IndexFunc_suf.l0 {ρ : Type} (N : Nat) (K0 : Int → Option ρ) (s0 : Nat) (gv2 : Nat → Int) (gv3 : Nat → Int) (gv4 : Nat → Int) (out0 : Option ρ) : Nat → Int → Option ρ
  | 0, _ => none
  | m + 1, x5 => (slices_IndexFunc_suf.b0 N K0 ((slices_IndexFunc_suf.l0 N K0 s0 gv2 gv3 gv4 out0 m)) out0 s0 gv2 gv3 gv4 x5)
def slices_IndexFunc_suf.s {ρ : Type} (N : Nat) (K0 : Int → Option ρ) (lp0 : Int → Option ρ) : Option ρ :=
  (lp0 0)
def slices_IndexFunc_suf {ρ : Type} (N : Nat) (K0 : Int → Option ρ) (s0 : Nat) (gv1 : Nat) (gv2 : Nat → Int) (gv3 : Nat → Int) (gv4 : Nat → Int) : Option ρ :=
  (slices_IndexFunc_suf.s N K0 (fun x5 => (slices_IndexFunc_suf.l0 N K0 s0 gv2 gv3 gv4 (slices_IndexFunc_suf.a0_0 N K0) N x5)))
def slices_ContainsFunc_suf {ρ : Type} (N : Nat) (K0 : Bool → Option ρ) (s0 : Nat) (gv1 : Nat) (gv2 : Nat → Int) (gv3 : Nat → Int) (gv4 : Nat → Int) : Option ρ :=
  (slices_IndexFunc_suf N (fun rv5 => (K0 ((decide (rv5 ≥ 0))))) s0 (s0 * 8) (fun z => (gv2 (0 + z))) gv3 gv4)
def impl_newSystem {ρ : Type} (N : Nat) (K0 : (Nat → Int) → (Nat → Int) → Option ρ) (p0 : Int) (many1 : Int) : Option ρ :=
  (K0 (upd (upd (fun _ => 0) 0 p0) 1 0) (fun _ => many1))
def slices_Clone_s {ρ : Type} (N : Nat) (K0 : Nat → (Nat → Int) → Option ρ) (s0 : Nat) (s1 : Nat) (gv2 : Nat) (gv3 : Nat → Int) : Option ρ :=
  (if (0 + s0) * 1 ≤ 140737488355328 then (K0 (0 + s0) (joinN 0 (fun _ => 0) gv3)) else none)
def impl_system_solve_c1_su {ρ : Type} (N : Nat) (K0 : Bool → Option ρ) (rv0 : Nat) (gv1 : Nat) (gv2 : Nat → Int) (gv3 : Nat → Int) : Option ρ :=
  (if (0 : Int) ≤ (gv3 0) ∧ (gv3 0) < (rv0 : Int) then (K0 (((gv2 (0 + (((gv3 0)).toNat * 1))) != 0))) else none)
def slices_IndexFunc_suhf.b0 {ρ : Type} (N : Nat) (K0 : Int → Option ρ) (rec : Int → Option ρ) (out0 : Option ρ) (s0 : Nat) (gv3 : Nat → Nat) (gv4 : Nat → Nat) (gv5 : Nat → Int) (gv6 : Nat → Int) (x7 : Int) : Option ρ :=
  (if (decide (x7 < (s0 : Int))) = true then (if (0 : Int) ≤ x7 ∧ x7 < (s0 : Int) then (impl_system_solve_c1_su N (fun rv8 => (if rv8 = true then (K0 x7) else (rec ((IntKind.i64.wrap (x7 + 1)))))) (gv4 (0 + (x7.toNat * 1))) ((gv4 (0 + (x7.toNat * 1))) * 1) (fun z => (gv6 ((gv3 (0 + (x7.toNat * 1))) + z))) gv5) else none) else out0)
def slices_IndexFunc_suhf.a0_0 {ρ : Type} (N : Nat) (K0 : Int → Option ρ) : Option ρ :=
  (K0 (-1))
def slices_IndexFunc_suhf.l0 {ρ : Type} (N : Nat) (K0 : Int → Option ρ) (s0 : Nat) (gv3 : Nat → Nat) (gv4 : Nat → Nat) (gv5 : Nat → Int) (gv6 : Nat → Int) (out0 : Option ρ) : Nat → Int → Option ρ
  | 0, _ => none
  | m + 1, x7 => (slices_IndexFunc_suhf.b0 N K0 ((slices_IndexFunc_suhf.l0 N K0 s0 gv3 gv4 gv5 gv6 out0 m)) out0 s0 gv3 gv4 gv5 gv6 x7)
def slices_IndexFunc_suhf.s {ρ : Type} (N : Nat) (K0 : Int → Option ρ) (lp0 : Int → Option ρ) : Option ρ :=
  (lp0 0)
def slices_IndexFunc_suhf {ρ : Type} (N : Nat) (K0 : Int → Option ρ) (s0 : Nat) (gv1 : Nat) (gv2 : Nat) (gv3 : Nat → Nat) (gv4 : Nat → Nat) (gv5 : Nat → Int) (gv6 : Nat → Int) : Option ρ :=
  (slices_IndexFunc_suhf.s N K0 (fun x7 => (slices_IndexFunc_suhf.l0 N K0 s0 gv3 gv4 gv5 gv6 (slices_IndexFunc_suhf.a0_0 N K0) N x7)))
def impl_field_inverse.b0 {ρ : Type} (N : Nat) (K0 : Int → Option ρ) (rec : Int → Option ρ) (out0 : Option ρ) (f0 : Nat → Int) (x1 : Int) (k2 : Int) : Option ρ :=
  (if (decide (k2 < (f0 0))) = true then (if (f0 0) = 0 then none else (if ((Int.tmod (IntKind.i64.wrap (k2 * (IntKind.i64.wrap x1))) (f0 0)) == 1) = true then (K0 k2) else (rec ((IntKind.i64.wrap (k2 + 1)))))) else out0)
def impl_field_inverse.a0_0 {ρ : Type} (N : Nat) (K0 : Int → Option ρ) (f0 : Nat → Int) : Option ρ :=
  (if (f0 0) = 0 then none else (K0 ((Int.tmod 1 (f0 0)))))
def impl_field_inverse.l0 {ρ : Type} (N : Nat) (K0 : Int → Option ρ) (f0 : Nat → Int) (x1 : Int) (out0 : Option ρ) : Nat → Int → Option ρ
  | 0, _ => none
  | m + 1, k2 => (impl_field_inverse.b0 N K0 ((impl_field_inverse.l0 N K0 f0 x1 out0 m)) out0 f0 x1 k2)
def impl_field_inverse.s {ρ : Type} (N : Nat) (K0 : Int → Option ρ) (lp0 : Int → Option ρ) : Option ρ :=
  (lp0 1)
def impl_field_inverse {ρ : Type} (N : Nat) (K0 : Int → Option ρ) (f0 : Nat → Int) (x1 : Int) : Option ρ :=
  (impl_field_inverse.s N K0 (fun k2 => (impl_field_inverse.l0 N K0 f0 x1 (impl_field_inverse.a0_0 N K0 f0) N k2)))
def impl_field_mod {ρ : Type} (N : Nat) (K0 : Int → Option ρ) (f0 : Nat → Int) (x1 : Int) : Option ρ :=
  (if (f0 0) = 0 then none else (if (decide ((Int.tmod x1 (f0 0)) < 0)) = true then (K0 ((IntKind.u8.wrap (IntKind.i64.wrap ((Int.tmod x1 (f0 0)) + (f0 0)))))) else (K0 ((IntKind.u8.wrap (Int.tmod x1 (f0 0)))))))
def impl_system_clear_v2.b2 {ρ : Type} (N : Nat) (K0 : (Nat → Int) → (Nat → Int) → Option ρ) (rec : Int → (Nat → Int) → Option ρ) (out0 : (Nat → Int) → Option ρ) (at0 : Int) (c1 : Int) (gv2 : Nat → Int) (gv8 : Nat → Nat) (gv9 : Nat → Nat) (x17 : Int) (gv18 : Nat → Int) (x19 : Int) (gv20 : Nat → Int) : Option ρ :=
  (if (decide (x19 < (((gv9 (0 + (at0.toNat * 1))) : Nat) : Int))) = true then (if (0 : Int) ≤ x19 ∧ x19 < (((gv9 (0 + (at0.toNat * 1))) : Nat) : Int) then (if (0 : Int) ≤ x19 ∧ x19 < (((gv9 (0 + (x17.toNat * 1))) : Nat) : Int) then (impl_field_mod N (fun rv21 => (if (0 : Int) ≤ x19 ∧ x19 < (((gv9 (0 + (x17.toNat * 1))) : Nat) : Int) then (rec ((IntKind.i64.wrap (x19 + 1))) (upd gv20 ((gv8 (0 + (x17.toNat * 1))) + (x19.toNat * 1)) rv21)) else none)) gv2 ((IntKind.i64.wrap ((IntKind.i64.wrap (gv20 ((gv8 (0 + (x17.toNat * 1))) + (x19.toNat * 1)))) - (IntKind.i64.wrap ((IntKind.i64.wrap (gv18 ((gv8 (0 + (x17.toNat * 1))) + (c1.toNat * 1)))) * (IntKind.i64.wrap (gv20 ((gv8 (0 + (at0.toNat * 1))) + (x19.toNat * 1)))))))))) else none) else none) else (out0 gv20))
def impl_system_clear_v2.a2_0 {ρ : Type} (N : Nat) (K0 : (Nat → Int) → (Nat → Int) → Option ρ) (rec : Int → (Nat → Int) → Option ρ) (out0 : (Nat → Int) → Option ρ) (x17 : Int) (ov22 : Nat → Int) : Option ρ :=
  (rec ((IntKind.i64.wrap (x17 + 1))) ov22)
def impl_system_clear_v2.b1 {ρ : Type} (N : Nat) (K0 : (Nat → Int) → (Nat → Int) → Option ρ) (lp2 : Int → (Nat → Int) → Option ρ) (rec : Int → (Nat → Int) → Option ρ) (out0 : (Nat → Int) → Option ρ) (at0 : Int) (c1 : Int) (gv4 : Nat) (gv8 : Nat → Nat) (gv9 : Nat → Nat) (x17 : Int) (gv18 : Nat → Int) : Option ρ :=
  (if (decide (x17 < (gv4 : Int))) = true then (if (0 : Int) ≤ x17 ∧ x17 < (gv4 : Int) then (if (x17 == at0) = true then (rec ((IntKind.i64.wrap (x17 + 1))) gv18) else (if (0 : Int) ≤ c1 ∧ c1 < (((gv9 (0 + (x17.toNat * 1))) : Nat) : Int) then (if ((gv18 ((gv8 (0 + (x17.toNat * 1))) + (c1.toNat * 1))) == 0) = true then (rec ((IntKind.i64.wrap (x17 + 1))) gv18) else (if (0 : Int) ≤ c1 ∧ c1 < (((gv9 (0 + (x17.toNat * 1))) : Nat) : Int) then (lp2 0 gv18) else none)) else none)) else none) else (out0 gv18))
def impl_system_clear_v2.a1_0 {ρ : Type} (N : Nat) (K0 : (Nat → Int) → (Nat → Int) → Option ρ) (gv10 : Nat → Int) (ov23 : Nat → Int) : Option ρ :=
  (K0 gv10 ov23)
def impl_system_clear_v2.b0 {ρ : Type} (N : Nat) (K0 : (Nat → Int) → (Nat → Int) → Option ρ) (rec : Int → (Nat → Int) → Option ρ) (out0 : (Nat → Int) → Option ρ) (at0 : Int) (gv2 : Nat → Int) (gv8 : Nat → Nat) (gv9 : Nat → Nat) (rv12 : Int) (x13 : Int) (gv14 : Nat → Int) : Option ρ :=
  (if (decide (x13 < (((gv9 (0 + (at0.toNat * 1))) : Nat) : Int))) = true then (if (0 : Int) ≤ x13 ∧ x13 < (((gv9 (0 + (at0.toNat * 1))) : Nat) : Int) then (impl_field_mod N (fun rv15 => (if (0 : Int) ≤ x13 ∧ x13 < (((gv9 (0 + (at0.toNat * 1))) : Nat) : Int) then (rec ((IntKind.i64.wrap (x13 + 1))) (upd gv14 ((gv8 (0 + (at0.toNat * 1))) + (x13.toNat * 1)) rv15)) else none)) gv2 ((IntKind.i64.wrap (rv12 * (IntKind.i64.wrap (gv14 ((gv8 (0 + (at0.toNat * 1))) + (x13.toNat * 1)))))))) else none) else (out0 gv14))
def impl_system_clear_v2.a0_0 {ρ : Type} (N : Nat) (K0 : (Nat → Int) → (Nat → Int) → Option ρ) (lp1 : Int → (Nat → Int) → Option ρ) (ov16 : Nat → Int) : Option ρ :=
  (lp1 0 ov16)
def impl_system_clear_v2.l2 {ρ : Type} (N : Nat) (K0 : (Nat → Int) → (Nat → Int) → Option ρ) (at0 : Int) (c1 : Int) (gv2 : Nat → Int) (gv8 : Nat → Nat) (gv9 : Nat → Nat) (x17 : Int) (gv18 : Nat → Int) (out0 : (Nat → Int) → Option ρ) : Nat → Int → (Nat → Int) → Option ρ
  | 0, _, _ => none
  | m + 1, x19, gv20 => (impl_system_clear_v2.b2 N K0 ((impl_system_clear_v2.l2 N K0 at0 c1 gv2 gv8 gv9 x17 gv18 out0 m)) out0 at0 c1 gv2 gv8 gv9 x17 gv18 x19 gv20)
def impl_system_clear_v2.l1 {ρ : Type} (N : Nat) (K0 : (Nat → Int) → (Nat → Int) → Option ρ) (at0 : Int) (c1 : Int) (gv2 : Nat → Int) (gv4 : Nat) (gv8 : Nat → Nat) (gv9 : Nat → Nat) (out0 : (Nat → Int) → Option ρ) : Nat → Int → (Nat → Int) → Option ρ
  | 0, _, _ => none
  | m + 1, x17, gv18 => (impl_system_clear_v2.b1 N K0 (fun x19 gv20 => (impl_system_clear_v2.l2 N K0 at0 c1 gv2 gv8 gv9 x17 gv18 (fun ov22 => (impl_system_clear_v2.a2_0 N K0 (impl_system_clear_v2.l1 N K0 at0 c1 gv2 gv4 gv8 gv9 out0 m) out0 x17 ov22)) N x19 gv20)) ((impl_system_clear_v2.l1 N K0 at0 c1 gv2 gv4 gv8 gv9 out0 m)) out0 at0 c1 gv4 gv8 gv9 x17 gv18)
def impl_system_clear_v2.l0 {ρ : Type} (N : Nat) (K0 : (Nat → Int) → (Nat → Int) → Option ρ) (at0 : Int) (gv2 : Nat → Int) (gv8 : Nat → Nat) (gv9 : Nat → Nat) (rv12 : Int) (out0 : (Nat → Int) → Option ρ) : Nat → Int → (Nat → Int) → Option ρ
  | 0, _, _ => none
  | m + 1, x13, gv14 => (impl_system_clear_v2.b0 N K0 ((impl_system_clear_v2.l0 N K0 at0 gv2 gv8 gv9 rv12 out0 m)) out0 at0 gv2 gv8 gv9 rv12 x13 gv14)
def impl_system_clear_v2.s {ρ : Type} (N : Nat) (K0 : (Nat → Int) → (Nat → Int) → Option ρ) (lp0 : Int → Int → (Nat → Int) → Option ρ) (at0 : Int) (c1 : Int) (gv2 : Nat → Int) (gv4 : Nat) (gv8 : Nat → Nat) (gv9 : Nat → Nat) (gv11 : Nat → Int) : Option ρ :=
  (if (0 : Int) ≤ at0 ∧ at0 < (gv4 : Int) then (if (0 : Int) ≤ c1 ∧ c1 < (((gv9 (0 + (at0.toNat * 1))) : Nat) : Int) then (impl_field_inverse N (fun rv12 => (lp0 rv12 0 gv11)) gv2 ((gv11 ((gv8 (0 + (at0.toNat * 1))) + (c1.toNat * 1))))) else none) else none)
def impl_system_clear_v2 {ρ : Type} (N : Nat) (K0 : (Nat → Int) → (Nat → Int) → Option ρ) (at0 : Int) (c1 : Int) (gv2 : Nat → Int) (gv3 : Nat → Int) (gv4 : Nat) (gv5 : Nat) (gv6 : Nat) (gv7 : Nat) (gv8 : Nat → Nat) (gv9 : Nat → Nat) (gv10 : Nat → Int) (gv11 : Nat → Int) : Option ρ :=
  (impl_system_clear_v2.s N K0 (fun rv12 x13 gv14 => (impl_system_clear_v2.l0 N K0 at0 gv2 gv8 gv9 rv12 (fun ov16 => (impl_system_clear_v2.a0_0 N K0 (fun x17 gv18 => (impl_system_clear_v2.l1 N K0 at0 c1 gv2 gv4 gv8 gv9 (fun ov23 => (impl_system_clear_v2.a1_0 N K0 gv10 ov23)) N x17 gv18)) ov16)) N x13 gv14)) at0 c1 gv2 gv4 gv8 gv9 gv11)
def impl_system_solve_c2_su {ρ : Type} (N : Nat) (K0 : Bool → Option ρ) (rv0 : Nat) (gv1 : Nat) (gv2 : Nat → Int) (gv3 : Nat → Int) (gv4 : Nat → Int) (gv5 : Nat) (gv6 : Nat) (gv7 : Nat) (gv8 : Nat) (gv9 : Nat → Nat) (gv10 : Nat → Nat) (gv11 : Nat) (gv12 : Nat → Int) (gv13 : Nat → Int) : Option ρ :=
  (if (0 : Int) ≤ (gv4 0) ∧ (gv4 0) < (rv0 : Int) then (K0 (((gv2 (0 + (((gv4 0)).toNat * 1))) != 0))) else none)
def slices_IndexFunc_suhf_v2.b0 {ρ : Type} (N : Nat) (K0 : Int → Option ρ) (rec : Int → Option ρ) (out0 : Option ρ) (s0 : Nat) (gv3 : Nat → Nat) (gv4 : Nat → Nat) (gv5 : Nat → Int) (gv6 : Nat → Int) (gv7 : Nat → Int) (gv8 : Nat) (gv9 : Nat) (gv11 : Nat) (gv12 : Nat → Nat) (gv13 : Nat → Nat) (gv15 : Nat → Int) (x16 : Int) : Option ρ :=
  (if (decide (x16 < (s0 : Int))) = true then (if (0 : Int) ≤ x16 ∧ x16 < (s0 : Int) then (impl_system_solve_c2_su N (fun rv17 => (if rv17 = true then (K0 x16) else (rec ((IntKind.i64.wrap (x16 + 1)))))) (gv4 (0 + (x16.toNat * 1))) ((gv4 (0 + (x16.toNat * 1))) * 1) (fun z => (gv5 ((gv3 (0 + (x16.toNat * 1))) + z))) gv6 gv7 gv8 gv9 (gv8 * 1) gv11 (offN 0 gv12) (offN 0 gv13) (gv9 * 1) (fun z => (gv15 (0 + z))) gv5) else none) else out0)
def slices_IndexFunc_suhf_v2.a0_0 {ρ : Type} (N : Nat) (K0 : Int → Option ρ) : Option ρ :=
  (K0 (-1))
def slices_IndexFunc_suhf_v2.l0 {ρ : Type} (N : Nat) (K0 : Int → Option ρ) (s0 : Nat) (gv3 : Nat → Nat) (gv4 : Nat → Nat) (gv5 : Nat → Int) (gv6 : Nat → Int) (gv7 : Nat → Int) (gv8 : Nat) (gv9 : Nat) (gv11 : Nat) (gv12 : Nat → Nat) (gv13 : Nat → Nat) (gv15 : Nat → Int) (out0 : Option ρ) : Nat → Int → Option ρ
  | 0, _ => none
  | m + 1, x16 => (slices_IndexFunc_suhf_v2.b0 N K0 ((slices_IndexFunc_suhf_v2.l0 N K0 s0 gv3 gv4 gv5 gv6 gv7 gv8 gv9 gv11 gv12 gv13 gv15 out0 m)) out0 s0 gv3 gv4 gv5 gv6 gv7 gv8 gv9 gv11 gv12 gv13 gv15 x16)
def slices_IndexFunc_suhf_v2.s {ρ : Type} (N : Nat) (K0 : Int → Option ρ) (lp0 : Int → Option ρ) : Option ρ :=
  (lp0 0)
def slices_IndexFunc_suhf_v2 {ρ : Type} (N : Nat) (K0 : Int → Option ρ) (s0 : Nat) (gv1 : Nat) (gv2 : Nat) (gv3 : Nat → Nat) (gv4 : Nat → Nat) (gv5 : Nat → Int) (gv6 : Nat → Int) (gv7 : Nat → Int) (gv8 : Nat) (gv9 : Nat) (gv10 : Nat) (gv11 : Nat) (gv12 : Nat → Nat) (gv13 : Nat → Nat) (gv14 : Nat) (gv15 : Nat → Int) : Option ρ :=
  (slices_IndexFunc_suhf_v2.s N K0 (fun x16 => (slices_IndexFunc_suhf_v2.l0 N K0 s0 gv3 gv4 gv5 gv6 gv7 gv8 gv9 gv11 gv12 gv13 gv15 (slices_IndexFunc_suhf_v2.a0_0 N K0) N x16)))
def slices_ContainsFunc_suhf {ρ : Type} (N : Nat) (K0 : Bool → Option ρ) (s0 : Nat) (gv1 : Nat) (gv2 : Nat) (gv3 : Nat → Nat) (gv4 : Nat → Nat) (gv5 : Nat → Int) (gv6 : Nat → Int) (gv7 : Nat → Int) (gv8 : Nat) (gv9 : Nat) (gv10 : Nat) (gv11 : Nat) (gv12 : Nat → Nat) (gv13 : Nat → Nat) (gv14 : Nat) (gv15 : Nat → Int) : Option ρ :=
  (slices_IndexFunc_suhf_v2 N (fun rv16 => (K0 ((decide (rv16 ≥ 0))))) s0 (s0 * 1) gv2 (offN 0 gv3) (offN 0 gv4) gv5 gv6 gv7 gv8 gv9 (gv8 * 1) gv11 (offN 0 gv12) (offN 0 gv13) (gv9 * 1) (fun z => (gv15 (0 + z))))
def impl_system_solve.b0 {ρ : Type} (N : Nat) (K0 : Bool → Nat → Nat → Nat → (Nat → Nat) → (Nat → Nat) → (Nat → Int) → (Nat → Int) → Option ρ) (rec : Int → Nat → (Nat → Nat) → (Nat → Nat) → (Nat → Int) → (Nat → Int) → (Nat → Int) → Option ρ) (out0 : Int → Nat → (Nat → Nat) → (Nat → Nat) → (Nat → Int) → (Nat → Int) → Option ρ) (gv0 : Nat → Int) (gv1 : Nat → Int) (gv2 : Nat) (gv3 : Nat) (done7 : Int) (gv8 : Nat) (gv9 : Nat → Nat) (gv10 : Nat → Nat) (gv11 : Nat → Int) (gv12 : Nat → Int) (gv13 : Nat → Int) : Option ρ :=
  (if (decide ((gv12 0) < (gv1 0))) = true then (if (decide (done7 < (gv2 : Int))) = true then (if (0 : Int) ≤ done7 ∧ done7 ≤ (gv2 : Int) ∧ (gv2 : Int) ≤ (gv2 : Int) then (slices_IndexFunc_suhf N (fun rv14 => (if (decide (rv14 < 0)) = true then (rec done7 gv8 gv9 gv10 gv11 (fun _ => (IntKind.i64.wrap ((gv12 0) + 1))) gv13) else (if (0 : Int) ≤ (IntKind.i64.wrap (done7 + rv14)) ∧ (IntKind.i64.wrap (done7 + rv14)) < (gv2 : Int) then (if (0 : Int) ≤ done7 ∧ done7 < (gv2 : Int) then (if (0 : Int) ≤ done7 ∧ done7 < (gv2 : Int) then (if (0 : Int) ≤ (IntKind.i64.wrap (done7 + rv14)) ∧ (IntKind.i64.wrap (done7 + rv14)) < (gv2 : Int) then (impl_system_clear_v2 N (fun rv15 rv16 => (if (gv8 + 1) * 8 ≤ 140737488355328 then (rec ((IntKind.i64.wrap (done7 + 1))) (gv8 + 1) (upd (upd gv9 (0 + (done7.toNat * 1)) (gv9 (0 + (((IntKind.i64.wrap (done7 + rv14))).toNat * 1)))) (0 + (((IntKind.i64.wrap (done7 + rv14))).toNat * 1)) (gv9 (0 + (done7.toNat * 1)))) (upd (upd gv10 (0 + (done7.toNat * 1)) (gv10 (0 + (((IntKind.i64.wrap (done7 + rv14))).toNat * 1)))) (0 + (((IntKind.i64.wrap (done7 + rv14))).toNat * 1)) (gv10 (0 + (done7.toNat * 1)))) rv16 (fun _ => (IntKind.i64.wrap ((gv12 0) + 1))) (joinN (gv8 * 1) rv15 (upd (fun _ => 0) 0 (gv12 0)))) else none)) done7 ((gv12 0)) gv0 gv1 gv2 gv8 (gv2 * 1) gv3 (offN 0 (upd (upd gv9 (0 + (done7.toNat * 1)) (gv9 (0 + (((IntKind.i64.wrap (done7 + rv14))).toNat * 1)))) (0 + (((IntKind.i64.wrap (done7 + rv14))).toNat * 1)) (gv9 (0 + (done7.toNat * 1))))) (offN 0 (upd (upd gv10 (0 + (done7.toNat * 1)) (gv10 (0 + (((IntKind.i64.wrap (done7 + rv14))).toNat * 1)))) (0 + (((IntKind.i64.wrap (done7 + rv14))).toNat * 1)) (gv10 (0 + (done7.toNat * 1))))) gv13 gv11) else none) else none) else none) else none))) (((gv2 : Int)).toNat - done7.toNat) ((((gv2 : Int)).toNat - done7.toNat) * 1) gv3 (offN (0 + (done7.toNat * 1)) gv9) (offN (0 + (done7.toNat * 1)) gv10) gv12 gv11) else none) else (out0 done7 gv8 gv9 gv10 gv11 gv13)) else (out0 done7 gv8 gv9 gv10 gv11 gv13))
def impl_system_solve.a0_0 {ρ : Type} (N : Nat) (K0 : Bool → Nat → Nat → Nat → (Nat → Nat) → (Nat → Nat) → (Nat → Int) → (Nat → Int) → Option ρ) (gv0 : Nat → Int) (gv1 : Nat → Int) (gv2 : Nat) (gv3 : Nat) (ov17 : Int) (ov18 : Nat) (ov19 : Nat → Nat) (ov20 : Nat → Nat) (ov21 : Nat → Int) (ov22 : Nat → Int) : Option ρ :=
  (if (0 : Int) ≤ ov17 ∧ ov17 ≤ (gv2 : Int) ∧ (gv2 : Int) ≤ (gv2 : Int) then (if (0 : Int) ≤ (0 : Int) ∧ (0 : Int) ≤ ov17 ∧ ov17 ≤ (gv2 : Int) then (slices_ContainsFunc_suhf N (fun rv23 => (K0 ((!rv23)) ov17.toNat ov18 gv3 ov19 ov20 ov21 ov22)) (((gv2 : Int)).toNat - ov17.toNat) ((((gv2 : Int)).toNat - ov17.toNat) * 1) gv3 (offN (0 + (ov17.toNat * 1)) ov19) (offN (0 + (ov17.toNat * 1)) ov20) ov21 gv0 gv1 ov17.toNat ov18 (ov17.toNat * 1) gv3 (offN 0 ov19) (offN 0 ov20) (ov18 * 1) (fun z => (ov22 (0 + z)))) else none) else none)
def impl_system_solve.l0 {ρ : Type} (N : Nat) (K0 : Bool → Nat → Nat → Nat → (Nat → Nat) → (Nat → Nat) → (Nat → Int) → (Nat → Int) → Option ρ) (gv0 : Nat → Int) (gv1 : Nat → Int) (gv2 : Nat) (gv3 : Nat) (out0 : Int → Nat → (Nat → Nat) → (Nat → Nat) → (Nat → Int) → (Nat → Int) → Option ρ) : Nat → Int → Nat → (Nat → Nat) → (Nat → Nat) → (Nat → Int) → (Nat → Int) → (Nat → Int) → Option ρ
  | 0, _, _, _, _, _, _, _ => none
  | m + 1, done7, gv8, gv9, gv10, gv11, gv12, gv13 => (impl_system_solve.b0 N K0 ((impl_system_solve.l0 N K0 gv0 gv1 gv2 gv3 out0 m)) out0 gv0 gv1 gv2 gv3 done7 gv8 gv9 gv10 gv11 gv12 gv13)
def impl_system_solve.s {ρ : Type} (N : Nat) (K0 : Bool → Nat → Nat → Nat → (Nat → Nat) → (Nat → Nat) → (Nat → Int) → (Nat → Int) → Option ρ) (lp0 : Int → Nat → (Nat → Nat) → (Nat → Nat) → (Nat → Int) → (Nat → Int) → (Nat → Int) → Option ρ) (gv4 : Nat → Nat) (gv5 : Nat → Nat) (gv6 : Nat → Int) : Option ρ :=
  (lp0 0 0 gv4 gv5 gv6 (fun _ => 0) (fun _ => 0))
def impl_system_solve {ρ : Type} (N : Nat) (K0 : Bool → Nat → Nat → Nat → (Nat → Nat) → (Nat → Nat) → (Nat → Int) → (Nat → Int) → Option ρ) (gv0 : Nat → Int) (gv1 : Nat → Int) (gv2 : Nat) (gv3 : Nat) (gv4 : Nat → Nat) (gv5 : Nat → Nat) (gv6 : Nat → Int) : Option ρ :=
  (impl_system_solve.s N K0 (fun done7 gv8 gv9 gv10 gv11 gv12 gv13 => (impl_system_solve.l0 N K0 gv0 gv1 gv2 gv3 (fun ov17 ov18 ov19 ov20 ov21 ov22 => (impl_system_solve.a0_0 N K0 gv0 gv1 gv2 gv3 ov17 ov18 ov19 ov20 ov21 ov22)) N done7 gv8 gv9 gv10 gv11 gv12 gv13)) gv4 gv5 gv6)
def impl_reduced_su.b1 {ρ : Type} (N : Nat) (K0 : Nat → (Nat → Int) → Option ρ) (rec : Nat → Int → (Nat → Int) → Option ρ) (out0 : Nat → (Nat → Int) → Option ρ) (rv20 : Nat) (rv23 : Nat → Nat) (rv24 : Nat → Nat) (rv25 : Nat → Int) (outv27 : Nat) (x28 : Int) (gv29 : Nat → Int) : Option ρ :=
  (if (decide (x28 < (rv20 : Int))) = true then (if (0 : Int) ≤ x28 ∧ x28 < (rv20 : Int) then (if (0 : Int) ≤ (0 : Int) ∧ (0 : Int) ≤ (8 : Int) ∧ (8 : Int) ≤ (((rv24 (0 + (x28.toNat * 1))) : Nat) : Int) then (if (outv27 + 1) * 8 ≤ 140737488355328 then (rec (outv27 + 1) ((IntKind.i64.wrap (x28 + 1))) (joinN (outv27 * 8) gv29 (fun z => (rv25 (((rv23 (0 + (x28.toNat * 1))) + 0) + z))))) else none) else none) else none) else (out0 outv27 gv29))
def impl_reduced_su.a1_0 {ρ : Type} (N : Nat) (K0 : Nat → (Nat → Int) → Option ρ) (ov30 : Nat) (ov31 : Nat → Int) : Option ρ :=
  (K0 ov30 ov31)
def impl_reduced_su.b0 {ρ : Type} (N : Nat) (K0 : Nat → (Nat → Int) → Option ρ) (rec : Int → Nat → Nat → (Nat → Nat) → (Nat → Nat) → (Nat → Int) → Option ρ) (out0 : Nat → Nat → (Nat → Nat) → (Nat → Nat) → (Nat → Int) → Option ρ) (list1 : Nat) (gv3 : Nat → Int) (x6 : Int) (gv7 : Nat) (gv8 : Nat) (gv9 : Nat → Nat) (gv10 : Nat → Nat) (gv11 : Nat → Int) : Option ρ :=
  (if (decide (x6 < (list1 : Int))) = true then (if (0 : Int) ≤ x6 ∧ x6 < (list1 : Int) then (slices_Clone_s N (fun rv12 rv13 => (if (rv12 + 1) * 1 ≤ 140737488355328 then (if (gv7 + 1) * 24 ≤ 140737488355328 then (rec ((IntKind.i64.wrap (x6 + 1))) (gv7 + 1) (gv8 + (rv12 + 1)) (upd gv9 gv7 gv8) (upd gv10 gv7 (rv12 + 1)) (joinN gv8 gv11 (joinN (rv12 * 1) rv13 (upd (fun _ => 0) 0 0)))) else none) else none)) 8 8 8 (fun z => (gv3 ((0 + (x6.toNat * 8)) + (0 + z))))) else none) else (out0 gv7 gv8 gv9 gv10 gv11))
def impl_reduced_su.a0_0 {ρ : Type} (N : Nat) (K0 : Nat → (Nat → Int) → Option ρ) (lp1 : Nat → Nat → (Nat → Nat) → (Nat → Nat) → (Nat → Int) → Nat → Int → (Nat → Int) → Option ρ) (rv4 : Nat → Int) (rv5 : Nat → Int) (ov14 : Nat) (ov15 : Nat) (ov16 : Nat → Nat) (ov17 : Nat → Nat) (ov18 : Nat → Int) : Option ρ :=
  (impl_system_solve N (fun rv19 rv20 rv21 rv22 rv23 rv24 rv25 rv26 => (lp1 rv20 rv22 rv23 rv24 rv25 0 0 (fun _ => 0))) rv4 rv5 ov14 ov15 ov16 ov17 ov18)
def impl_reduced_su.l1 {ρ : Type} (N : Nat) (K0 : Nat → (Nat → Int) → Option ρ) (rv20 : Nat) (rv23 : Nat → Nat) (rv24 : Nat → Nat) (rv25 : Nat → Int) (out0 : Nat → (Nat → Int) → Option ρ) : Nat → Nat → Int → (Nat → Int) → Option ρ
  | 0, _, _, _ => none
  | m + 1, outv27, x28, gv29 => (impl_reduced_su.b1 N K0 ((impl_reduced_su.l1 N K0 rv20 rv23 rv24 rv25 out0 m)) out0 rv20 rv23 rv24 rv25 outv27 x28 gv29)
def impl_reduced_su.l0 {ρ : Type} (N : Nat) (K0 : Nat → (Nat → Int) → Option ρ) (list1 : Nat) (gv3 : Nat → Int) (out0 : Nat → Nat → (Nat → Nat) → (Nat → Nat) → (Nat → Int) → Option ρ) : Nat → Int → Nat → Nat → (Nat → Nat) → (Nat → Nat) → (Nat → Int) → Option ρ
  | 0, _, _, _, _, _, _ => none
  | m + 1, x6, gv7, gv8, gv9, gv10, gv11 => (impl_reduced_su.b0 N K0 ((impl_reduced_su.l0 N K0 list1 gv3 out0 m)) out0 list1 gv3 x6 gv7 gv8 gv9 gv10 gv11)
def impl_reduced_su.s {ρ : Type} (N : Nat) (K0 : Nat → (Nat → Int) → Option ρ) (lp0 : (Nat → Int) → (Nat → Int) → Int → Nat → Nat → (Nat → Nat) → (Nat → Nat) → (Nat → Int) → Option ρ) (p0 : Int) : Option ρ :=
  (impl_newSystem N (fun rv4 rv5 => (lp0 rv4 rv5 0 0 0 (fun _ => 0) (fun _ => 0) (fun _ => 0))) p0 8)
def impl_reduced_su {ρ : Type} (N : Nat) (K0 : Nat → (Nat → Int) → Option ρ) (p0 : Int) (list1 : Nat) (gv2 : Nat) (gv3 : Nat → Int) : Option ρ :=
  (impl_reduced_su.s N K0 (fun rv4 rv5 x6 gv7 gv8 gv9 gv10 gv11 => (impl_reduced_su.l0 N K0 list1 gv3 (fun ov14 ov15 ov16 ov17 ov18 => (impl_reduced_su.a0_0 N K0 (fun rv20 rv22 rv23 rv24 rv25 outv27 x28 gv29 => (impl_reduced_su.l1 N K0 rv20 rv23 rv24 rv25 (fun ov30 ov31 => (impl_reduced_su.a1_0 N K0 ov30 ov31)) N outv27 x28 gv29)) rv4 rv5 ov14 ov15 ov16 ov17 ov18)) N x6 gv7 gv8 gv9 gv10 gv11)) p0)
def impl_ReduceVectors_su.bdy {ρ : Type} (N : Nat) (K0 : Nat → Int → (Nat → Int) → Option ρ) (p0 : Int) (nv1 : Int) (list2 : Nat) (gv3 : Nat) (gv4 : Nat → Int) : Option ρ :=
  (slices_ContainsFunc_suf N (fun rv5 => (impl_IsVector N (fun rv6 => (if (!rv6) = true then (K0 0 1 (fun _ => 0)) else (if rv5 = true then (K0 0 1 (fun _ => 0)) else (impl_reduced_su N (fun rv7 rv8 => (K0 rv7 0 rv8)) p0 list2 (list2 * 8) (fun z => (gv4 (0 + z))))))) p0 nv1 (fun _ => 0))) list2 (list2 * 8) (fun z => (gv4 (0 + z))) (fun _ => p0) (fun _ => nv1))
theorem impl_ReduceVectors_su.ex : ∃ f : (ρ : Type) → (Nat) → (Nat → Int → (Nat → Int) → Option ρ) → (Int) → (Int) → (Nat) → (Nat) → (Nat → Int) → Option ρ, f = fun ρ N K0 p0 nv1 list2 gv3 gv4 => impl_ReduceVectors_su.bdy (ρ := ρ) N K0 p0 nv1 list2 gv3 gv4 := ⟨_, rfl⟩
def impl_ReduceVectors_su {ρ : Type} (N : Nat) (K0 : Nat → Int → (Nat → Int) → Option ρ) (p0 : Int) (nv1 : Int) (list2 : Nat) (gv3 : Nat) (gv4 : Nat → Int) : Option ρ :=
  Classical.choose impl_ReduceVectors_su.ex ρ N K0 p0 nv1 list2 gv3 gv4
theorem impl_ReduceVectors_su.opq {ρ : Type} (N : Nat) (K0 : Nat → Int → (Nat → Int) → Option ρ) (p0 : Int) (nv1 : Int) (list2 : Nat) (gv3 : Nat) (gv4 : Nat → Int) : impl_ReduceVectors_su N K0 p0 nv1 list2 gv3 gv4 = impl_ReduceVectors_su.bdy N K0 p0 nv1 list2 gv3 gv4 := by
  unfold impl_ReduceVectors_su
  rw [Classical.choose_spec impl_ReduceVectors_su.ex]
def laws_vectors5_susu.b0 {ρ : Type} (N : Nat) (K0 : Bool → Option ρ) (rec : Int → Option ρ) (out0 : Option ρ) (av0 : Nat) (bv1 : Nat) (gv3 : Nat → Int) (gv5 : Nat → Int) (i6 : Int) : Option ρ :=
  (if (decide (i6 < (av0 : Int))) = true then (if (0 : Int) ≤ i6 ∧ i6 < (av0 : Int) then (if (0 : Int) ≤ i6 ∧ i6 < (bv1 : Int) then (if (!eqN 8 (fun z => (gv3 ((0 + (i6.toNat * 8)) + z))) (fun z => (gv5 ((0 + (i6.toNat * 8)) + z)))) = true then (K0 false) else (rec ((IntKind.i64.wrap (i6 + 1))))) else none) else none) else out0)
def laws_vectors5_susu.a0_0 {ρ : Type} (N : Nat) (K0 : Bool → Option ρ) : Option ρ :=
  (K0 true)
def laws_vectors5_susu.l0 {ρ : Type} (N : Nat) (K0 : Bool → Option ρ) (av0 : Nat) (bv1 : Nat) (gv3 : Nat → Int) (gv5 : Nat → Int) (out0 : Option ρ) : Nat → Int → Option ρ
  | 0, _ => none
  | m + 1, i6 => (laws_vectors5_susu.b0 N K0 ((laws_vectors5_susu.l0 N K0 av0 bv1 gv3 gv5 out0 m)) out0 av0 bv1 gv3 gv5 i6)
def laws_vectors5_susu.s {ρ : Type} (N : Nat) (K0 : Bool → Option ρ) (lp0 : Int → Option ρ) (av0 : Nat) (bv1 : Nat) : Option ρ :=
  (if ((av0 : Int) != (bv1 : Int)) = true then (K0 false) else (lp0 0))
def laws_vectors5_susu.bdy {ρ : Type} (N : Nat) (K0 : Bool → Option ρ) (av0 : Nat) (bv1 : Nat) (gv2 : Nat) (gv3 : Nat → Int) (gv4 : Nat) (gv5 : Nat → Int) : Option ρ :=
  (laws_vectors5_susu.s N K0 (fun i6 => (laws_vectors5_susu.l0 N K0 av0 bv1 gv3 gv5 (laws_vectors5_susu.a0_0 N K0) N i6)) av0 bv1)
theorem laws_vectors5_susu.ex : ∃ f : (ρ : Type) → (Nat) → (Bool → Option ρ) → (Nat) → (Nat) → (Nat) → (Nat → Int) → (Nat) → (Nat → Int) → Option ρ, f = fun ρ N K0 av0 bv1 gv2 gv3 gv4 gv5 => laws_vectors5_susu.bdy (ρ := ρ) N K0 av0 bv1 gv2 gv3 gv4 gv5 := ⟨_, rfl⟩
def laws_vectors5_susu {ρ : Type} (N : Nat) (K0 : Bool → Option ρ) (av0 : Nat) (bv1 : Nat) (gv2 : Nat) (gv3 : Nat → Int) (gv4 : Nat) (gv5 : Nat → Int) : Option ρ :=
  Classical.choose laws_vectors5_susu.ex ρ N K0 av0 bv1 gv2 gv3 gv4 gv5
theorem laws_vectors5_susu.opq {ρ : Type} (N : Nat) (K0 : Bool → Option ρ) (av0 : Nat) (bv1 : Nat) (gv2 : Nat) (gv3 : Nat → Int) (gv4 : Nat) (gv5 : Nat → Int) : laws_vectors5_susu N K0 av0 bv1 gv2 gv3 gv4 gv5 = laws_vectors5_susu.bdy N K0 av0 bv1 gv2 gv3 gv4 gv5 := by
  unfold laws_vectors5_susu
  rw [Classical.choose_spec laws_vectors5_susu.ex]
def slices_IndexFunc_suf_v2.b0 {ρ : Type} (N : Nat) (K0 : Int → Option ρ) (rec : Int → Option ρ) (out0 : Option ρ) (s0 : Nat) (gv2 : Nat → Int) (gv3 : Nat → Int) (gv4 : Nat → Int) (x5 : Int) : Option ρ :=
  (if (decide (x5 < (s0 : Int))) = true then (if (0 : Int) ≤ x5 ∧ x5 < (s0 : Int) then (impl_ReduceVectors_c1 N (fun rv6 => (if rv6 = true then (K0 x5) else (rec ((IntKind.i64.wrap (x5 + 1)))))) (fun z => (gv2 ((0 + (x5.toNat * 8)) + z))) gv3 gv4) else none) else out0)
def slices_IndexFunc_suf_v2.a0_0 {ρ : Type} (N : Nat) (K0 : Int → Option ρ) : Option ρ :=
  (K0 (-1))
def slices_IndexFunc_suf_v2.l0 {ρ : Type} (N : Nat) (K0 : Int → Option ρ) (s0 : Nat) (gv2 : Nat → Int) (gv3 : Nat → Int) (gv4 : Nat → Int) (out0 : Option ρ) : Nat → Int → Option ρ
  | 0, _ => none
  | m + 1, x5 => (slices_IndexFunc_suf_v2.b0 N K0 ((slices_IndexFunc_suf_v2.l0 N K0 s0 gv2 gv3 gv4 out0 m)) out0 s0 gv2 gv3 gv4 x5)
def slices_IndexFunc_suf_v2.s {ρ : Type} (N : Nat) (K0 : Int → Option ρ) (lp0 : Int → Option ρ) : Option ρ :=
  (lp0 0)
def slices_IndexFunc_suf_v2 {ρ : Type} (N : Nat) (K0 : Int → Option ρ) (s0 : Nat) (gv1 : Nat) (gv2 : Nat → Int) (gv3 : Nat → Int) (gv4 : Nat → Int) : Option ρ :=
  (slices_IndexFunc_suf_v2.s N K0 (fun x5 => (slices_IndexFunc_suf_v2.l0 N K0 s0 gv2 gv3 gv4 (slices_IndexFunc_suf_v2.a0_0 N K0) N x5)))
def slices_ContainsFunc_suf_v2 {ρ : Type} (N : Nat) (K0 : Bool → Option ρ) (s0 : Nat) (gv1 : Nat) (gv2 : Nat → Int) (gv3 : Nat → Int) (gv4 : Nat → Int) : Option ρ :=
  (slices_IndexFunc_suf_v2 N (fun rv5 => (K0 ((decide (rv5 ≥ 0))))) s0 (s0 * 8) (fun z => (gv2 (0 + z))) gv3 gv4)
def impl_reduced_su_v2.b1 {ρ : Type} (N : Nat) (K0 : Nat → (Nat → Int) → Option ρ) (rec : Nat → Int → (Nat → Int) → Option ρ) (out0 : Nat → (Nat → Int) → Option ρ) (rv20 : Nat) (rv23 : Nat → Nat) (rv24 : Nat → Nat) (rv25 : Nat → Int) (outv27 : Nat) (x28 : Int) (gv29 : Nat → Int) : Option ρ :=
  (if (decide (x28 < (rv20 : Int))) = true then (if (0 : Int) ≤ x28 ∧ x28 < (rv20 : Int) then (if (0 : Int) ≤ (0 : Int) ∧ (0 : Int) ≤ (8 : Int) ∧ (8 : Int) ≤ (((rv24 (0 + (x28.toNat * 1))) : Nat) : Int) then (if (outv27 + 1) * 8 ≤ 140737488355328 then (rec (outv27 + 1) ((IntKind.i64.wrap (x28 + 1))) (joinN (outv27 * 8) gv29 (fun z => (rv25 (((rv23 (0 + (x28.toNat * 1))) + 0) + z))))) else none) else none) else none) else (out0 outv27 gv29))
def impl_reduced_su_v2.a1_0 {ρ : Type} (N : Nat) (K0 : Nat → (Nat → Int) → Option ρ) (ov30 : Nat) (ov31 : Nat → Int) : Option ρ :=
  (K0 ov30 ov31)
def impl_reduced_su_v2.b0 {ρ : Type} (N : Nat) (K0 : Nat → (Nat → Int) → Option ρ) (rec : Int → Nat → Nat → (Nat → Nat) → (Nat → Nat) → (Nat → Int) → Option ρ) (out0 : Nat → Nat → (Nat → Nat) → (Nat → Nat) → (Nat → Int) → Option ρ) (list1 : Nat) (gv3 : Nat → Int) (x6 : Int) (gv7 : Nat) (gv8 : Nat) (gv9 : Nat → Nat) (gv10 : Nat → Nat) (gv11 : Nat → Int) : Option ρ :=
  (if (decide (x6 < (list1 : Int))) = true then (if (0 : Int) ≤ x6 ∧ x6 < (list1 : Int) then (slices_Clone_s N (fun rv12 rv13 => (if (rv12 + 1) * 1 ≤ 140737488355328 then (if (gv7 + 1) * 24 ≤ 140737488355328 then (rec ((IntKind.i64.wrap (x6 + 1))) (gv7 + 1) (gv8 + (rv12 + 1)) (upd gv9 gv7 gv8) (upd gv10 gv7 (rv12 + 1)) (joinN gv8 gv11 (joinN (rv12 * 1) rv13 (upd (fun _ => 0) 0 0)))) else none) else none)) 8 8 8 (fun z => (gv3 ((0 + (x6.toNat * 8)) + (0 + z))))) else none) else (out0 gv7 gv8 gv9 gv10 gv11))
def impl_reduced_su_v2.a0_0 {ρ : Type} (N : Nat) (K0 : Nat → (Nat → Int) → Option ρ) (lp1 : Nat → Nat → (Nat → Nat) → (Nat → Nat) → (Nat → Int) → Nat → Int → (Nat → Int) → Option ρ) (rv4 : Nat → Int) (rv5 : Nat → Int) (ov14 : Nat) (ov15 : Nat) (ov16 : Nat → Nat) (ov17 : Nat → Nat) (ov18 : Nat → Int) : Option ρ :=
  (impl_system_solve N (fun rv19 rv20 rv21 rv22 rv23 rv24 rv25 rv26 => (lp1 rv20 rv22 rv23 rv24 rv25 0 0 (fun _ => 0))) rv4 rv5 ov14 ov15 ov16 ov17 ov18)
def impl_reduced_su_v2.l1 {ρ : Type} (N : Nat) (K0 : Nat → (Nat → Int) → Option ρ) (rv20 : Nat) (rv23 : Nat → Nat) (rv24 : Nat → Nat) (rv25 : Nat → Int) (out0 : Nat → (Nat → Int) → Option ρ) : Nat → Nat → Int → (Nat → Int) → Option ρ
  | 0, _, _, _ => none
  | m + 1, outv27, x28, gv29 => (impl_reduced_su_v2.b1 N K0 ((impl_reduced_su_v2.l1 N K0 rv20 rv23 rv24 rv25 out0 m)) out0 rv20 rv23 rv24 rv25 outv27 x28 gv29)
def impl_reduced_su_v2.l0 {ρ : Type} (N : Nat) (K0 : Nat → (Nat → Int) → Option ρ) (list1 : Nat) (gv3 : Nat → Int) (out0 : Nat → Nat → (Nat → Nat) → (Nat → Nat) → (Nat → Int) → Option ρ) : Nat → Int → Nat → Nat → (Nat → Nat) → (Nat → Nat) → (Nat → Int) → Option ρ
  | 0, _, _, _, _, _, _ => none
  | m + 1, x6, gv7, gv8, gv9, gv10, gv11 => (impl_reduced_su_v2.b0 N K0 ((impl_reduced_su_v2.l0 N K0 list1 gv3 out0 m)) out0 list1 gv3 x6 gv7 gv8 gv9 gv10 gv11)
def impl_reduced_su_v2.s {ρ : Type} (N : Nat) (K0 : Nat → (Nat → Int) → Option ρ) (lp0 : (Nat → Int) → (Nat → Int) → Int → Nat → Nat → (Nat → Nat) → (Nat → Nat) → (Nat → Int) → Option ρ) (p0 : Int) : Option ρ :=
  (impl_newSystem N (fun rv4 rv5 => (lp0 rv4 rv5 0 0 0 (fun _ => 0) (fun _ => 0) (fun _ => 0))) p0 8)
def impl_reduced_su_v2 {ρ : Type} (N : Nat) (K0 : Nat → (Nat → Int) → Option ρ) (p0 : Int) (list1 : Nat) (gv2 : Nat) (gv3 : Nat → Int) : Option ρ :=
  (impl_reduced_su_v2.s N K0 (fun rv4 rv5 x6 gv7 gv8 gv9 gv10 gv11 => (impl_reduced_su_v2.l0 N K0 list1 gv3 (fun ov14 ov15 ov16 ov17 ov18 => (impl_reduced_su_v2.a0_0 N K0 (fun rv20 rv22 rv23 rv24 rv25 outv27 x28 gv29 => (impl_reduced_su_v2.l1 N K0 rv20 rv23 rv24 rv25 (fun ov30 ov31 => (impl_reduced_su_v2.a1_0 N K0 ov30 ov31)) N outv27 x28 gv29)) rv4 rv5 ov14 ov15 ov16 ov17 ov18)) N x6 gv7 gv8 gv9 gv10 gv11)) p0)
def impl_ReduceVectors_su_v2.bdy {ρ : Type} (N : Nat) (K0 : Nat → Int → (Nat → Int) → Option ρ) (p0 : Int) (nv1 : Int) (list2 : Nat) (gv3 : Nat) (gv4 : Nat → Int) : Option ρ :=
  (slices_ContainsFunc_suf_v2 N (fun rv5 => (impl_IsVector N (fun rv6 => (if (!rv6) = true then (K0 0 1 (fun _ => 0)) else (if rv5 = true then (K0 0 1 (fun _ => 0)) else (impl_reduced_su_v2 N (fun rv7 rv8 => (K0 rv7 0 rv8)) p0 list2 (list2 * 8) (fun z => (gv4 (0 + z))))))) p0 nv1 (fun _ => 0))) list2 (list2 * 8) (fun z => (gv4 (0 + z))) (fun _ => p0) (fun _ => nv1))
theorem impl_ReduceVectors_su_v2.ex : ∃ f : (ρ : Type) → (Nat) → (Nat → Int → (Nat → Int) → Option ρ) → (Int) → (Int) → (Nat) → (Nat) → (Nat → Int) → Option ρ, f = fun ρ N K0 p0 nv1 list2 gv3 gv4 => impl_ReduceVectors_su_v2.bdy (ρ := ρ) N K0 p0 nv1 list2 gv3 gv4 := ⟨_, rfl⟩
def impl_ReduceVectors_su_v2 {ρ : Type} (N : Nat) (K0 : Nat → Int → (Nat → Int) → Option ρ) (p0 : Int) (nv1 : Int) (list2 : Nat) (gv3 : Nat) (gv4 : Nat → Int) : Option ρ :=
  Classical.choose impl_ReduceVectors_su_v2.ex ρ N K0 p0 nv1 list2 gv3 gv4
theorem impl_ReduceVectors_su_v2.opq {ρ : Type} (N : Nat) (K0 : Nat → Int → (Nat → Int) → Option ρ) (p0 : Int) (nv1 : Int) (list2 : Nat) (gv3 : Nat) (gv4 : Nat → Int) : impl_ReduceVectors_su_v2 N K0 p0 nv1 list2 gv3 gv4 = impl_ReduceVectors_su_v2.bdy N K0 p0 nv1 list2 gv3 gv4 := by
  unfold impl_ReduceVectors_su_v2
  rw [Classical.choose_spec impl_ReduceVectors_su_v2.ex]
def spec_l01Near {ρ : Type} (N : Nat) (K0 : Int → (Nat → Int) → (Nat → Int) → Option ρ) (most0 : Int) (gv1 : Nat) (gv2 : Nat → Int) (gv3 : Nat → Int) (gv4 : Nat) (gv5 : Nat → Int) : Option ρ :=
  (spec_l01Next N (fun rv6 rv7 rv8 => (if (rv6 == 0) = true then (spec_l01Pick_s N (fun rv9 rv10 rv11 => (K0 rv9 rv10 rv11)) 4 4 gv1 rv7 rv8 4 (fun z => ((upd (upd (upd (upd (fun _ => 0) 0 (-1)) 1 (IntKind.i64.wrap (most0 + 1))) 2 1099511627776) 3 (-4611686018427387904)) (0 + z))) (gv1 * 1) (fun z => (gv5 (0 + z)))) else (spec_l01Next N (fun rv12 rv13 rv14 => (K0 rv12 rv13 rv14)) ((IntKind.i64.wrap (most0 + 1))) gv1 rv7 rv8 (gv1 * 1) (fun z => (gv5 (0 + z)))))) 14 gv1 gv2 gv3 (gv1 * 1) (fun z => (gv5 (0 + z))))
def spec_DrawIsVector_su {ρ : Type} (N : Nat) (K0 : Int → Int → (Nat → Int) → Option ρ) (code0 : Nat) (gv1 : Nat) (gv2 : Nat → Int) : Option ρ :=
  (spec_l01From_su N (fun rv3 rv4 rv5 => (spec_l01DrawPrime N (fun rv6 rv7 rv8 => (spec_l01Near N (fun rv9 rv10 rv11 => (spec_l01Any N (fun rv12 rv13 rv14 => (K0 rv6 ((IntKind.i64.wrap (1 + rv9))) rv12)) (upd (upd (fun _ => 0) 0 rv6) 1 (IntKind.i64.wrap (1 + rv9))) (fun _ => 0) rv3 rv10 rv11 (rv3 * 1) (fun z => (gv2 (0 + z))))) 7 rv3 rv7 rv8 (rv3 * 1) (fun z => (gv2 (0 + z))))) rv3 rv4 rv5 (rv3 * 1) (fun z => (gv2 (0 + z))))) code0 (code0 * 1) (fun z => (gv2 (0 + z))))
def spec_DrawVectorText_su.bdy {ρ : Type} (N : Nat) (K0 : Int → Int → (Nat → Int) → Option ρ) (code0 : Nat) (gv1 : Nat) (gv2 : Nat → Int) : Option ρ :=
  (spec_DrawIsVector_su N (fun rv3 rv4 rv5 => (K0 rv3 rv4 rv5)) code0 (code0 * 1) (fun z => (gv2 (0 + z))))
theorem spec_DrawVectorText_su.ex : ∃ f : (ρ : Type) → (Nat) → (Int → Int → (Nat → Int) → Option ρ) → (Nat) → (Nat) → (Nat → Int) → Option ρ, f = fun ρ N K0 code0 gv1 gv2 => spec_DrawVectorText_su.bdy (ρ := ρ) N K0 code0 gv1 gv2 := ⟨_, rfl⟩
def spec_DrawVectorText_su {ρ : Type} (N : Nat) (K0 : Int → Int → (Nat → Int) → Option ρ) (code0 : Nat) (gv1 : Nat) (gv2 : Nat → Int) : Option ρ :=
  Classical.choose spec_DrawVectorText_su.ex ρ N K0 code0 gv1 gv2
theorem spec_DrawVectorText_su.opq {ρ : Type} (N : Nat) (K0 : Int → Int → (Nat → Int) → Option ρ) (code0 : Nat) (gv1 : Nat) (gv2 : Nat → Int) : spec_DrawVectorText_su N K0 code0 gv1 gv2 = spec_DrawVectorText_su.bdy N K0 code0 gv1 gv2 := by
  unfold spec_DrawVectorText_su
  rw [Classical.choose_spec spec_DrawVectorText_su.ex]
def spec_IsVector.bdy {ρ : Type} (N : Nat) (K0 : Bool → Option ρ) (p0 : Int) (nv1 : Int) (v2 : Nat → Int) : Option ρ :=
  (spec_l01Sizes N (fun rv3 => (if rv3 = true then (spec_l01Vector N (fun rv4 => (K0 (rv4))) p0 nv1 v2) else (K0 false))) p0 nv1)
theorem spec_IsVector.ex : ∃ f : (ρ : Type) → (Nat) → (Bool → Option ρ) → (Int) → (Int) → (Nat → Int) → Option ρ, f = fun ρ N K0 p0 nv1 v2 => spec_IsVector.bdy (ρ := ρ) N K0 p0 nv1 v2 := ⟨_, rfl⟩
def spec_IsVector {ρ : Type} (N : Nat) (K0 : Bool → Option ρ) (p0 : Int) (nv1 : Int) (v2 : Nat → Int) : Option ρ :=
  Classical.choose spec_IsVector.ex ρ N K0 p0 nv1 v2
theorem spec_IsVector.opq {ρ : Type} (N : Nat) (K0 : Bool → Option ρ) (p0 : Int) (nv1 : Int) (v2 : Nat → Int) : spec_IsVector N K0 p0 nv1 v2 = spec_IsVector.bdy N K0 p0 nv1 v2 := by
  unfold spec_IsVector
  rw [Classical.choose_spec spec_IsVector.ex]
def spec_l01Dec_v3 {ρ : Type} (N : Nat) (K0 : ByteArray → Option ρ) (nv0 : Int) : Option ρ :=
  (if (decide (nv0 < 10)) = true then (K0 (bytesOf (upd (fun _ => 0) 0 (IntKind.u8.wrap (IntKind.i64.wrap (48 + nv0)))) 0 1)) else none)
def spec_l01Dec_v2 {ρ : Type} (N : Nat) (K0 : ByteArray → Option ρ) (nv0 : Int) : Option ρ :=
  (if (decide (nv0 < 10)) = true then (K0 (bytesOf (upd (fun _ => 0) 0 (IntKind.u8.wrap (IntKind.i64.wrap (48 + nv0)))) 0 1)) else (spec_l01Dec_v3 N (fun rv1 => (if rv1.size + (bytesOf (upd (fun _ => 0) 0 (IntKind.u8.wrap (IntKind.i64.wrap (48 + (Int.tmod nv0 10))))) 0 1).size ≤ 4611686018427387904 then (K0 (rv1 ++ (bytesOf (upd (fun _ => 0) 0 (IntKind.u8.wrap (IntKind.i64.wrap (48 + (Int.tmod nv0 10))))) 0 1))) else none)) ((IntKind.i64.wrap (Int.tdiv nv0 10)))))
def spec_l01Dec {ρ : Type} (N : Nat) (K0 : ByteArray → Option ρ) (nv0 : Int) : Option ρ :=
  (if (decide (nv0 < 10)) = true then (K0 (bytesOf (upd (fun _ => 0) 0 (IntKind.u8.wrap (IntKind.i64.wrap (48 + nv0)))) 0 1)) else (spec_l01Dec_v2 N (fun rv1 => (if rv1.size + (bytesOf (upd (fun _ => 0) 0 (IntKind.u8.wrap (IntKind.i64.wrap (48 + (Int.tmod nv0 10))))) 0 1).size ≤ 4611686018427387904 then (K0 (rv1 ++ (bytesOf (upd (fun _ => 0) 0 (IntKind.u8.wrap (IntKind.i64.wrap (48 + (Int.tmod nv0 10))))) 0 1))) else none)) ((IntKind.i64.wrap (Int.tdiv nv0 10)))))
def spec_l01Text.b0 {ρ : Type} (N : Nat) (K0 : ByteArray → Option ρ) (rec : ByteArray → Int → Option ρ) (out0 : ByteArray → Option ρ) (nv0 : Int) (v1 : Nat → Int) (text2 : ByteArray) (i3 : Int) : Option ρ :=
  (if (decide (i3 < nv0)) = true then (if (decide (i3 > 0)) = true then (if text2.size + (ByteArray.mk #[44]).size ≤ 4611686018427387904 then (if (0 : Int) ≤ i3 ∧ i3 < 8 then (spec_l01Dec N (fun rv4 => (if (text2 ++ (ByteArray.mk #[44])).size + rv4.size ≤ 4611686018427387904 then (rec ((text2 ++ (ByteArray.mk #[44])) ++ rv4) ((IntKind.i64.wrap (i3 + 1)))) else none)) ((IntKind.i64.wrap (v1 (i3.toNat * 1))))) else none) else none) else (if (0 : Int) ≤ i3 ∧ i3 < 8 then (spec_l01Dec N (fun rv5 => (if text2.size + rv5.size ≤ 4611686018427387904 then (rec (text2 ++ rv5) ((IntKind.i64.wrap (i3 + 1)))) else none)) ((IntKind.i64.wrap (v1 (i3.toNat * 1))))) else none)) else (out0 text2))
def spec_l01Text.a0_0 {ρ : Type} (N : Nat) (K0 : ByteArray → Option ρ) (ov6 : ByteArray) : Option ρ :=
  (K0 ov6)
def spec_l01Text.l0 {ρ : Type} (N : Nat) (K0 : ByteArray → Option ρ) (nv0 : Int) (v1 : Nat → Int) (out0 : ByteArray → Option ρ) : Nat → ByteArray → Int → Option ρ
  | 0, _, _ => none
  | m + 1, text2, i3 => (spec_l01Text.b0 N K0 ((spec_l01Text.l0 N K0 nv0 v1 out0 m)) out0 nv0 v1 text2 i3)
def spec_l01Text.s {ρ : Type} (N : Nat) (K0 : ByteArray → Option ρ) (lp0 : ByteArray → Int → Option ρ) : Option ρ :=
  (lp0 ByteArray.empty 0)
def spec_l01Text {ρ : Type} (N : Nat) (K0 : ByteArray → Option ρ) (nv0 : Int) (v1 : Nat → Int) : Option ρ :=
  (spec_l01Text.s N K0 (fun text2 i3 => (spec_l01Text.l0 N K0 nv0 v1 (fun ov6 => (spec_l01Text.a0_0 N K0 ov6)) N text2 i3)))
def spec_VectorText.bdy {ρ : Type} (N : Nat) (K0 : ByteArray → Int → Option ρ) (p0 : Int) (nv1 : Int) (v2 : Nat → Int) : Option ρ :=
  (spec_IsVector N (fun rv3 => (if (!rv3) = true then (K0 ByteArray.empty 1) else (spec_l01Text N (fun rv4 => (K0 rv4 0)) nv1 v2))) p0 nv1 v2)
theorem spec_VectorText.ex : ∃ f : (ρ : Type) → (Nat) → (ByteArray → Int → Option ρ) → (Int) → (Int) → (Nat → Int) → Option ρ, f = fun ρ N K0 p0 nv1 v2 => spec_VectorText.bdy (ρ := ρ) N K0 p0 nv1 v2 := ⟨_, rfl⟩
def spec_VectorText {ρ : Type} (N : Nat) (K0 : ByteArray → Int → Option ρ) (p0 : Int) (nv1 : Int) (v2 : Nat → Int) : Option ρ :=
  Classical.choose spec_VectorText.ex ρ N K0 p0 nv1 v2
theorem spec_VectorText.opq {ρ : Type} (N : Nat) (K0 : ByteArray → Int → Option ρ) (p0 : Int) (nv1 : Int) (v2 : Nat → Int) : spec_VectorText N K0 p0 nv1 v2 = spec_VectorText.bdy N K0 p0 nv1 v2 := by
  unfold spec_VectorText
  rw [Classical.choose_spec spec_VectorText.ex]
def strconv_Itoa {ρ : Type} (N : Nat) (K0 : ByteArray → Option ρ) (i0 : Int) : Option ρ :=
  (if (0 : Int) ≤ i0 ∧ i0 < 100 then (K0 (itoaS i0)) else none)
def strings_Join_su {ρ : Type} (N : Nat) (K0 : ByteArray → Option ρ) (elems0 : Nat) (sep1 : ByteArray) (gv2 : Nat) (gv3 : Nat → ByteArray) : Option ρ :=
  (if elems0 ≤ 140737488355328 ∧ (joinS elems0 gv3 sep1).size ≤ 140737488355328 then (K0 (joinS elems0 gv3 sep1)) else none)
def impl_vectorText.b0 {ρ : Type} (N : Nat) (K0 : ByteArray → Option ρ) (rec : Nat → Int → (Nat → ByteArray) → Option ρ) (out0 : Nat → (Nat → ByteArray) → Option ρ) (nv0 : Int) (v1 : Nat → Int) (outv2 : Nat) (x3 : Int) (gv4 : Nat → ByteArray) : Option ρ :=
  (if (decide (x3 < (nv0.toNat : Int))) = true then (if (0 : Int) ≤ x3 ∧ x3 < (nv0.toNat : Int) then (strconv_Itoa N (fun rv5 => (if (outv2 + 1) * 16 ≤ 140737488355328 then (rec (outv2 + 1) ((IntKind.i64.wrap (x3 + 1))) (joinN (outv2 * 1) gv4 (fun z => [rv5].getD z ByteArray.empty))) else none)) ((IntKind.i64.wrap (v1 (0 + (x3.toNat * 1)))))) else none) else (out0 outv2 gv4))
def impl_vectorText.a0_0 {ρ : Type} (N : Nat) (K0 : ByteArray → Option ρ) (ov6 : Nat) (ov7 : Nat → ByteArray) : Option ρ :=
  (strings_Join_su N (fun rv8 => (K0 rv8)) ov6 (ByteArray.mk #[44]) (ov6 * 1) (fun z => (ov7 (0 + z))))
def impl_vectorText.l0 {ρ : Type} (N : Nat) (K0 : ByteArray → Option ρ) (nv0 : Int) (v1 : Nat → Int) (out0 : Nat → (Nat → ByteArray) → Option ρ) : Nat → Nat → Int → (Nat → ByteArray) → Option ρ
  | 0, _, _, _ => none
  | m + 1, outv2, x3, gv4 => (impl_vectorText.b0 N K0 ((impl_vectorText.l0 N K0 nv0 v1 out0 m)) out0 nv0 v1 outv2 x3 gv4)
def impl_vectorText.s {ρ : Type} (N : Nat) (K0 : ByteArray → Option ρ) (lp0 : Nat → Int → (Nat → ByteArray) → Option ρ) (nv0 : Int) : Option ρ :=
  (if (0 : Int) ≤ (0 : Int) ∧ (0 : Int) ≤ nv0 ∧ nv0 ≤ 8 then (lp0 0 0 (fun _ => ByteArray.empty)) else none)
def impl_vectorText {ρ : Type} (N : Nat) (K0 : ByteArray → Option ρ) (nv0 : Int) (v1 : Nat → Int) : Option ρ :=
  (impl_vectorText.s N K0 (fun outv2 x3 gv4 => (impl_vectorText.l0 N K0 nv0 v1 (fun ov6 ov7 => (impl_vectorText.a0_0 N K0 ov6 ov7)) N outv2 x3 gv4)) nv0)
def impl_VectorText.bdy {ρ : Type} (N : Nat) (K0 : ByteArray → Int → Option ρ) (p0 : Int) (nv1 : Int) (v2 : Nat → Int) : Option ρ :=
  (impl_IsVector N (fun rv3 => (if (!rv3) = true then (K0 ByteArray.empty 1) else (impl_vectorText N (fun rv4 => (K0 rv4 0)) nv1 v2))) p0 nv1 v2)
theorem impl_VectorText.ex : ∃ f : (ρ : Type) → (Nat) → (ByteArray → Int → Option ρ) → (Int) → (Int) → (Nat → Int) → Option ρ, f = fun ρ N K0 p0 nv1 v2 => impl_VectorText.bdy (ρ := ρ) N K0 p0 nv1 v2 := ⟨_, rfl⟩
def impl_VectorText {ρ : Type} (N : Nat) (K0 : ByteArray → Int → Option ρ) (p0 : Int) (nv1 : Int) (v2 : Nat → Int) : Option ρ :=
  Classical.choose impl_VectorText.ex ρ N K0 p0 nv1 v2
theorem impl_VectorText.opq {ρ : Type} (N : Nat) (K0 : ByteArray → Int → Option ρ) (p0 : Int) (nv1 : Int) (v2 : Nat → Int) : impl_VectorText N K0 p0 nv1 v2 = impl_VectorText.bdy N K0 p0 nv1 v2 := by
  unfold impl_VectorText
  rw [Classical.choose_spec impl_VectorText.ex]
def spec_l01Damage {ρ : Type} (N : Nat) (K0 : ByteArray → (Nat → Int) → (Nat → Int) → Option ρ) (t0 : ByteArray) (gv1 : Nat) (gv2 : Nat → Int) (gv3 : Nat → Int) (gv4 : Nat) (gv5 : Nat → Int) : Option ρ :=
  (spec_l01Next N (fun rv6 rv7 rv8 => (if (0 : Int) ≤ rv6 ∧ rv6 < 11 then (if ((t0.size : Int) == 0) = true then (K0 ((fun z => [(ByteArray.mk #[48]), (ByteArray.mk #[49]), (ByteArray.mk #[50]), (ByteArray.mk #[55]), (ByteArray.mk #[51, 49]), (ByteArray.mk #[44]), (ByteArray.mk #[59]), (ByteArray.mk #[45]), (ByteArray.mk #[32]), (ByteArray.mk #[120]), (ByteArray.mk #[10])].getD z ByteArray.empty) (0 + (rv6.toNat * 1))) rv7 rv8) else (spec_l01Next N (fun rv9 rv10 rv11 => (spec_l01Next N (fun rv12 rv13 rv14 => (if (rv12 == 0) = true then (if (0 : Int) ≤ (0 : Int) ∧ (0 : Int) ≤ rv9 ∧ rv9 ≤ (t0.size : Int) then (if (t0.extract 0 rv9.toNat).size + ((fun z => [(ByteArray.mk #[48]), (ByteArray.mk #[49]), (ByteArray.mk #[50]), (ByteArray.mk #[55]), (ByteArray.mk #[51, 49]), (ByteArray.mk #[44]), (ByteArray.mk #[59]), (ByteArray.mk #[45]), (ByteArray.mk #[32]), (ByteArray.mk #[120]), (ByteArray.mk #[10])].getD z ByteArray.empty) (0 + (rv6.toNat * 1))).size ≤ 4611686018427387904 then (if (0 : Int) ≤ (IntKind.i64.wrap (rv9 + 1)) ∧ (IntKind.i64.wrap (rv9 + 1)) ≤ (t0.size : Int) ∧ (t0.size : Int) ≤ (t0.size : Int) then (if ((t0.extract 0 rv9.toNat) ++ ((fun z => [(ByteArray.mk #[48]), (ByteArray.mk #[49]), (ByteArray.mk #[50]), (ByteArray.mk #[55]), (ByteArray.mk #[51, 49]), (ByteArray.mk #[44]), (ByteArray.mk #[59]), (ByteArray.mk #[45]), (ByteArray.mk #[32]), (ByteArray.mk #[120]), (ByteArray.mk #[10])].getD z ByteArray.empty) (0 + (rv6.toNat * 1)))).size + (t0.extract ((IntKind.i64.wrap (rv9 + 1))).toNat ((t0.size : Int)).toNat).size ≤ 4611686018427387904 then (K0 (((t0.extract 0 rv9.toNat) ++ ((fun z => [(ByteArray.mk #[48]), (ByteArray.mk #[49]), (ByteArray.mk #[50]), (ByteArray.mk #[55]), (ByteArray.mk #[51, 49]), (ByteArray.mk #[44]), (ByteArray.mk #[59]), (ByteArray.mk #[45]), (ByteArray.mk #[32]), (ByteArray.mk #[120]), (ByteArray.mk #[10])].getD z ByteArray.empty) (0 + (rv6.toNat * 1)))) ++ (t0.extract ((IntKind.i64.wrap (rv9 + 1))).toNat ((t0.size : Int)).toNat)) rv13 rv14) else none) else none) else none) else none) else (if (rv12 == 1) = true then (if (0 : Int) ≤ (0 : Int) ∧ (0 : Int) ≤ rv9 ∧ rv9 ≤ (t0.size : Int) then (if (0 : Int) ≤ (IntKind.i64.wrap (rv9 + 1)) ∧ (IntKind.i64.wrap (rv9 + 1)) ≤ (t0.size : Int) ∧ (t0.size : Int) ≤ (t0.size : Int) then (if (t0.extract 0 rv9.toNat).size + (t0.extract ((IntKind.i64.wrap (rv9 + 1))).toNat ((t0.size : Int)).toNat).size ≤ 4611686018427387904 then (K0 ((t0.extract 0 rv9.toNat) ++ (t0.extract ((IntKind.i64.wrap (rv9 + 1))).toNat ((t0.size : Int)).toNat)) rv13 rv14) else none) else none) else none) else (if (0 : Int) ≤ (0 : Int) ∧ (0 : Int) ≤ rv9 ∧ rv9 ≤ (t0.size : Int) then (if (t0.extract 0 rv9.toNat).size + ((fun z => [(ByteArray.mk #[48]), (ByteArray.mk #[49]), (ByteArray.mk #[50]), (ByteArray.mk #[55]), (ByteArray.mk #[51, 49]), (ByteArray.mk #[44]), (ByteArray.mk #[59]), (ByteArray.mk #[45]), (ByteArray.mk #[32]), (ByteArray.mk #[120]), (ByteArray.mk #[10])].getD z ByteArray.empty) (0 + (rv6.toNat * 1))).size ≤ 4611686018427387904 then (if (0 : Int) ≤ rv9 ∧ rv9 ≤ (t0.size : Int) ∧ (t0.size : Int) ≤ (t0.size : Int) then (if ((t0.extract 0 rv9.toNat) ++ ((fun z => [(ByteArray.mk #[48]), (ByteArray.mk #[49]), (ByteArray.mk #[50]), (ByteArray.mk #[55]), (ByteArray.mk #[51, 49]), (ByteArray.mk #[44]), (ByteArray.mk #[59]), (ByteArray.mk #[45]), (ByteArray.mk #[32]), (ByteArray.mk #[120]), (ByteArray.mk #[10])].getD z ByteArray.empty) (0 + (rv6.toNat * 1)))).size + (t0.extract rv9.toNat ((t0.size : Int)).toNat).size ≤ 4611686018427387904 then (K0 (((t0.extract 0 rv9.toNat) ++ ((fun z => [(ByteArray.mk #[48]), (ByteArray.mk #[49]), (ByteArray.mk #[50]), (ByteArray.mk #[55]), (ByteArray.mk #[51, 49]), (ByteArray.mk #[44]), (ByteArray.mk #[59]), (ByteArray.mk #[45]), (ByteArray.mk #[32]), (ByteArray.mk #[120]), (ByteArray.mk #[10])].getD z ByteArray.empty) (0 + (rv6.toNat * 1)))) ++ (t0.extract rv9.toNat ((t0.size : Int)).toNat)) rv13 rv14) else none) else none) else none) else none)))) 3 gv1 rv10 rv11 (gv1 * 1) (fun z => (gv5 (0 + z))))) ((t0.size : Int)) gv1 rv7 rv8 (gv1 * 1) (fun z => (gv5 (0 + z))))) else none)) 11 gv1 gv2 gv3 (gv1 * 1) (fun z => (gv5 (0 + z))))
def spec_DrawParseVector_su.b0 {ρ : Type} (N : Nat) (K0 : Int → Int → ByteArray → Option ρ) (rec : ByteArray → Int → (Nat → Int) → (Nat → Int) → Option ρ) (out0 : ByteArray → (Nat → Int) → (Nat → Int) → Option ρ) (gv2 : Nat → Int) (rv3 : Nat) (text16 : ByteArray) (k17 : Int) (gv18 : Nat → Int) (gv19 : Nat → Int) : Option ρ :=
  (if (decide (k17 < 6)) = true then (spec_l01Next N (fun rv20 rv21 rv22 => (if (rv20 == 0) = true then (spec_l01Damage N (fun rv23 rv24 rv25 => (rec rv23 ((IntKind.i64.wrap (k17 + 1))) rv24 rv25)) text16 rv3 rv21 rv22 (rv3 * 1) (fun z => (gv2 (0 + z)))) else (out0 text16 rv21 rv22))) 3 rv3 gv18 gv19 (rv3 * 1) (fun z => (gv2 (0 + z)))) else (out0 text16 gv18 gv19))
def spec_DrawParseVector_su.a0_0 {ρ : Type} (N : Nat) (K0 : Int → Int → ByteArray → Option ρ) (gv2 : Nat → Int) (rv3 : Nat) (rv6 : Int) (rv9 : Int) (ov26 : ByteArray) (ov27 : Nat → Int) (ov28 : Nat → Int) : Option ρ :=
  (spec_l01Next N (fun rv29 rv30 rv31 => (if (rv29 == 0) = true then (spec_l01Pick_s N (fun rv32 rv33 rv34 => (K0 rv32 ((IntKind.i64.wrap (1 + rv9))) ov26)) 3 3 rv3 rv30 rv31 3 (fun z => ((upd (upd (upd (fun _ => 0) 0 4) 1 0) 2 37) (0 + z))) (rv3 * 1) (fun z => (gv2 (0 + z)))) else (K0 rv6 ((IntKind.i64.wrap (1 + rv9))) ov26))) 30 rv3 ov27 ov28 (rv3 * 1) (fun z => (gv2 (0 + z))))
def spec_DrawParseVector_su.l0 {ρ : Type} (N : Nat) (K0 : Int → Int → ByteArray → Option ρ) (gv2 : Nat → Int) (rv3 : Nat) (out0 : ByteArray → (Nat → Int) → (Nat → Int) → Option ρ) : Nat → ByteArray → Int → (Nat → Int) → (Nat → Int) → Option ρ
  | 0, _, _, _, _ => none
  | m + 1, text16, k17, gv18, gv19 => (spec_DrawParseVector_su.b0 N K0 ((spec_DrawParseVector_su.l0 N K0 gv2 rv3 out0 m)) out0 gv2 rv3 text16 k17 gv18 gv19)
def spec_DrawParseVector_su.s {ρ : Type} (N : Nat) (K0 : Int → Int → ByteArray → Option ρ) (lp0 : Nat → Int → Int → ByteArray → Int → (Nat → Int) → (Nat → Int) → Option ρ) (code0 : Nat) (gv2 : Nat → Int) : Option ρ :=
  (spec_l01From_su N (fun rv3 rv4 rv5 => (spec_l01DrawPrime N (fun rv6 rv7 rv8 => (spec_l01Next N (fun rv9 rv10 rv11 => (spec_l01DrawVector N (fun rv12 rv13 rv14 => (spec_l01Text N (fun rv15 => (lp0 rv3 rv6 rv9 rv15 0 rv13 rv14)) ((IntKind.i64.wrap (1 + rv9))) rv12)) rv6 ((IntKind.i64.wrap (1 + rv9))) rv3 rv10 rv11 (rv3 * 1) (fun z => (gv2 (0 + z))))) 8 rv3 rv7 rv8 (rv3 * 1) (fun z => (gv2 (0 + z))))) rv3 rv4 rv5 (rv3 * 1) (fun z => (gv2 (0 + z))))) code0 (code0 * 1) (fun z => (gv2 (0 + z))))
def spec_DrawParseVector_su.bdy {ρ : Type} (N : Nat) (K0 : Int → Int → ByteArray → Option ρ) (code0 : Nat) (gv1 : Nat) (gv2 : Nat → Int) : Option ρ :=
  (spec_DrawParseVector_su.s N K0 (fun rv3 rv6 rv9 text16 k17 gv18 gv19 => (spec_DrawParseVector_su.l0 N K0 gv2 rv3 (fun ov26 ov27 ov28 => (spec_DrawParseVector_su.a0_0 N K0 gv2 rv3 rv6 rv9 ov26 ov27 ov28)) N text16 k17 gv18 gv19)) code0 gv2)
theorem spec_DrawParseVector_su.ex : ∃ f : (ρ : Type) → (Nat) → (Int → Int → ByteArray → Option ρ) → (Nat) → (Nat) → (Nat → Int) → Option ρ, f = fun ρ N K0 code0 gv1 gv2 => spec_DrawParseVector_su.bdy (ρ := ρ) N K0 code0 gv1 gv2 := ⟨_, rfl⟩
def spec_DrawParseVector_su {ρ : Type} (N : Nat) (K0 : Int → Int → ByteArray → Option ρ) (code0 : Nat) (gv1 : Nat) (gv2 : Nat → Int) : Option ρ :=
  Classical.choose spec_DrawParseVector_su.ex ρ N K0 code0 gv1 gv2
theorem spec_DrawParseVector_su.opq {ρ : Type} (N : Nat) (K0 : Int → Int → ByteArray → Option ρ) (code0 : Nat) (gv1 : Nat) (gv2 : Nat → Int) : spec_DrawParseVector_su N K0 code0 gv1 gv2 = spec_DrawParseVector_su.bdy N K0 code0 gv1 gv2 := by
  unfold spec_DrawParseVector_su
  rw [Classical.choose_spec spec_DrawParseVector_su.ex]
def spec_l01Split.b0 {ρ : Type} (N : Nat) (K0 : Nat → (Nat → ByteArray) → Option ρ) (rec : Nat → Int → Int → (Nat → ByteArray) → Option ρ) (out0 : Nat → Int → (Nat → ByteArray) → Option ρ) (s0 : ByteArray) (by1 : Int) (outv2 : Nat) (at3 : Int) (i4 : Int) (gv5 : Nat → ByteArray) : Option ρ :=
  (if (decide (i4 < (s0.size : Int))) = true then (if (0 : Int) ≤ i4 ∧ i4 < (s0.size : Int) then (if ((bt s0 i4.toNat) == by1) = true then (if (0 : Int) ≤ at3 ∧ at3 ≤ i4 ∧ i4 ≤ (s0.size : Int) then (if (outv2 + 1) * 16 ≤ 140737488355328 then (rec (outv2 + 1) ((IntKind.i64.wrap (i4 + 1))) ((IntKind.i64.wrap (i4 + 1))) (joinN (outv2 * 1) gv5 (fun z => [(s0.extract at3.toNat i4.toNat)].getD z ByteArray.empty))) else none) else none) else (rec outv2 at3 ((IntKind.i64.wrap (i4 + 1))) gv5)) else none) else (out0 outv2 at3 gv5))
def spec_l01Split.a0_0 {ρ : Type} (N : Nat) (K0 : Nat → (Nat → ByteArray) → Option ρ) (s0 : ByteArray) (ov6 : Nat) (ov7 : Int) (ov8 : Nat → ByteArray) : Option ρ :=
  (if (0 : Int) ≤ ov7 ∧ ov7 ≤ (s0.size : Int) ∧ (s0.size : Int) ≤ (s0.size : Int) then (if (ov6 + 1) * 16 ≤ 140737488355328 then (K0 (ov6 + 1) (joinN (ov6 * 1) ov8 (fun z => [(s0.extract ov7.toNat ((s0.size : Int)).toNat)].getD z ByteArray.empty))) else none) else none)
def spec_l01Split.l0 {ρ : Type} (N : Nat) (K0 : Nat → (Nat → ByteArray) → Option ρ) (s0 : ByteArray) (by1 : Int) (out0 : Nat → Int → (Nat → ByteArray) → Option ρ) : Nat → Nat → Int → Int → (Nat → ByteArray) → Option ρ
  | 0, _, _, _, _ => none
  | m + 1, outv2, at3, i4, gv5 => (spec_l01Split.b0 N K0 ((spec_l01Split.l0 N K0 s0 by1 out0 m)) out0 s0 by1 outv2 at3 i4 gv5)
def spec_l01Split.s {ρ : Type} (N : Nat) (K0 : Nat → (Nat → ByteArray) → Option ρ) (lp0 : Nat → Int → Int → (Nat → ByteArray) → Option ρ) : Option ρ :=
  (lp0 0 0 0 (fun _ => ByteArray.empty))
def spec_l01Split {ρ : Type} (N : Nat) (K0 : Nat → (Nat → ByteArray) → Option ρ) (s0 : ByteArray) (by1 : Int) : Option ρ :=
  (spec_l01Split.s N K0 (fun outv2 at3 i4 gv5 => (spec_l01Split.l0 N K0 s0 by1 (fun ov6 ov7 ov8 => (spec_l01Split.a0_0 N K0 s0 ov6 ov7 ov8)) N outv2 at3 i4 gv5)))
def spec_l01Number.b0 {ρ : Type} (N : Nat) (K0 : Int → Option ρ) (rec : Int → Int → Option ρ) (out0 : Int → Option ρ) (s0 : ByteArray) (nv1 : Int) (i2 : Int) : Option ρ :=
  (if (decide (i2 < (s0.size : Int))) = true then (if (0 : Int) ≤ i2 ∧ i2 < (s0.size : Int) then (if (decide ((bt s0 i2.toNat) < 48)) = true then (K0 (-1)) else (if (0 : Int) ≤ i2 ∧ i2 < (s0.size : Int) then (if (decide ((bt s0 i2.toNat) > 57)) = true then (K0 (-1)) else (if (0 : Int) ≤ i2 ∧ i2 < (s0.size : Int) then (rec ((IntKind.i64.wrap ((IntKind.i64.wrap (nv1 * 10)) + (IntKind.i64.wrap (IntKind.u8.wrap ((bt s0 i2.toNat) - 48)))))) ((IntKind.i64.wrap (i2 + 1)))) else none)) else none)) else none) else (out0 nv1))
def spec_l01Number.a0_0 {ρ : Type} (N : Nat) (K0 : Int → Option ρ) (ov3 : Int) : Option ρ :=
  (K0 ov3)
def spec_l01Number.b1 {ρ : Type} (N : Nat) (K0 : Int → Option ρ) (rec : Int → Int → Option ρ) (out0 : Int → Option ρ) (s0 : ByteArray) (nv4 : Int) (i5 : Int) : Option ρ :=
  (if (decide (i5 < (s0.size : Int))) = true then (if (0 : Int) ≤ i5 ∧ i5 < (s0.size : Int) then (if (decide ((bt s0 i5.toNat) < 48)) = true then (K0 (-1)) else (if (0 : Int) ≤ i5 ∧ i5 < (s0.size : Int) then (if (decide ((bt s0 i5.toNat) > 57)) = true then (K0 (-1)) else (if (0 : Int) ≤ i5 ∧ i5 < (s0.size : Int) then (rec ((IntKind.i64.wrap ((IntKind.i64.wrap (nv4 * 10)) + (IntKind.i64.wrap (IntKind.u8.wrap ((bt s0 i5.toNat) - 48)))))) ((IntKind.i64.wrap (i5 + 1)))) else none)) else none)) else none) else (out0 nv4))
def spec_l01Number.a1_0 {ρ : Type} (N : Nat) (K0 : Int → Option ρ) (ov6 : Int) : Option ρ :=
  (K0 ov6)
def spec_l01Number.l0 {ρ : Type} (N : Nat) (K0 : Int → Option ρ) (s0 : ByteArray) (out0 : Int → Option ρ) : Nat → Int → Int → Option ρ
  | 0, _, _ => none
  | m + 1, nv1, i2 => (spec_l01Number.b0 N K0 ((spec_l01Number.l0 N K0 s0 out0 m)) out0 s0 nv1 i2)
def spec_l01Number.l1 {ρ : Type} (N : Nat) (K0 : Int → Option ρ) (s0 : ByteArray) (out0 : Int → Option ρ) : Nat → Int → Int → Option ρ
  | 0, _, _ => none
  | m + 1, nv4, i5 => (spec_l01Number.b1 N K0 ((spec_l01Number.l1 N K0 s0 out0 m)) out0 s0 nv4 i5)
def spec_l01Number.s {ρ : Type} (N : Nat) (K0 : Int → Option ρ) (lp0 : Int → Int → Option ρ) (lp1 : Int → Int → Option ρ) (s0 : ByteArray) : Option ρ :=
  (if ((s0.size : Int) == 0) = true then (K0 (-1)) else (if (decide ((s0.size : Int) > 9)) = true then (K0 (-1)) else (if (decide ((s0.size : Int) > 1)) = true then (if (0 : Int) ≤ 0 ∧ 0 < (s0.size : Int) then (if ((bt s0 0) == 48) = true then (K0 (-1)) else (lp0 0 0)) else none) else (lp1 0 0))))
def spec_l01Number {ρ : Type} (N : Nat) (K0 : Int → Option ρ) (s0 : ByteArray) : Option ρ :=
  (spec_l01Number.s N K0 (fun nv1 i2 => (spec_l01Number.l0 N K0 s0 (fun ov3 => (spec_l01Number.a0_0 N K0 ov3)) N nv1 i2)) (fun nv4 i5 => (spec_l01Number.l1 N K0 s0 (fun ov6 => (spec_l01Number.a1_0 N K0 ov6)) N nv4 i5)) s0)
def spec_l01Read.b0 {ρ : Type} (N : Nat) (K0 : (Nat → Int) → Bool → Option ρ) (rec : Int → (Nat → Int) → Option ρ) (out0 : (Nat → Int) → Option ρ) (p0 : Int) (rv3 : Nat) (rv4 : Nat → ByteArray) (i5 : Int) (gv6 : Nat → Int) : Option ρ :=
  (if (decide (i5 < (rv3 : Int))) = true then (if (0 : Int) ≤ i5 ∧ i5 < (rv3 : Int) then (spec_l01Number N (fun rv7 => (spec_l01In N (fun rv8 => (if (!rv8) = true then (K0 (fun _ => 0) false) else (if (0 : Int) ≤ i5 ∧ i5 < 8 then (rec ((IntKind.i64.wrap (i5 + 1))) (upd gv6 (i5.toNat * 1) (IntKind.u8.wrap rv7))) else none))) rv7 0 ((IntKind.i64.wrap (p0 - 1))))) (rv4 (0 + (i5.toNat * 1)))) else none) else (out0 gv6))
def spec_l01Read.a0_0 {ρ : Type} (N : Nat) (K0 : (Nat → Int) → Bool → Option ρ) (ov9 : Nat → Int) : Option ρ :=
  (K0 ov9 true)
def spec_l01Read.l0 {ρ : Type} (N : Nat) (K0 : (Nat → Int) → Bool → Option ρ) (p0 : Int) (rv3 : Nat) (rv4 : Nat → ByteArray) (out0 : (Nat → Int) → Option ρ) : Nat → Int → (Nat → Int) → Option ρ
  | 0, _, _ => none
  | m + 1, i5, gv6 => (spec_l01Read.b0 N K0 ((spec_l01Read.l0 N K0 p0 rv3 rv4 out0 m)) out0 p0 rv3 rv4 i5 gv6)
def spec_l01Read.s {ρ : Type} (N : Nat) (K0 : (Nat → Int) → Bool → Option ρ) (lp0 : Nat → (Nat → ByteArray) → Int → (Nat → Int) → Option ρ) (nv1 : Int) (text2 : ByteArray) : Option ρ :=
  (spec_l01Split N (fun rv3 rv4 => (if ((rv3 : Int) != nv1) = true then (K0 (fun _ => 0) false) else (lp0 rv3 rv4 0 (fun _ => 0)))) text2 44)
def spec_l01Read {ρ : Type} (N : Nat) (K0 : (Nat → Int) → Bool → Option ρ) (p0 : Int) (nv1 : Int) (text2 : ByteArray) : Option ρ :=
  (spec_l01Read.s N K0 (fun rv3 rv4 i5 gv6 => (spec_l01Read.l0 N K0 p0 rv3 rv4 (fun ov9 => (spec_l01Read.a0_0 N K0 ov9)) N i5 gv6)) nv1 text2)
def spec_ParseVector.bdy {ρ : Type} (N : Nat) (K0 : (Nat → Int) → Int → Option ρ) (p0 : Int) (nv1 : Int) (text2 : ByteArray) : Option ρ :=
  (spec_l01Sizes N (fun rv3 => (if (!rv3) = true then (K0 (fun _ => 0) 1) else (spec_l01Read N (fun rv4 rv5 => (if (!rv5) = true then (K0 (fun _ => 0) 6) else (K0 rv4 0))) p0 nv1 text2))) p0 nv1)
theorem spec_ParseVector.ex : ∃ f : (ρ : Type) → (Nat) → ((Nat → Int) → Int → Option ρ) → (Int) → (Int) → (ByteArray) → Option ρ, f = fun ρ N K0 p0 nv1 text2 => spec_ParseVector.bdy (ρ := ρ) N K0 p0 nv1 text2 := ⟨_, rfl⟩
def spec_ParseVector {ρ : Type} (N : Nat) (K0 : (Nat → Int) → Int → Option ρ) (p0 : Int) (nv1 : Int) (text2 : ByteArray) : Option ρ :=
  Classical.choose spec_ParseVector.ex ρ N K0 p0 nv1 text2
theorem spec_ParseVector.opq {ρ : Type} (N : Nat) (K0 : (Nat → Int) → Int → Option ρ) (p0 : Int) (nv1 : Int) (text2 : ByteArray) : spec_ParseVector N K0 p0 nv1 text2 = spec_ParseVector.bdy N K0 p0 nv1 text2 := by
  unfold spec_ParseVector
  rw [Classical.choose_spec spec_ParseVector.ex]
def strings_Split {ρ : Type} (N : Nat) (K0 : Nat → Nat → Nat → (Nat → ByteArray) → Option ρ) (s0 : ByteArray) (sep1 : ByteArray) : Option ρ :=
  (if s0.size < 4294967281 ∧ 1 ≤ sep1.size then (K0 (splitN s0 sep1) (splitN s0 sep1) (splitN s0 sep1) (splitW s0 sep1)) else none)
def strconv_ParseUint {ρ : Type} (N : Nat) (K0 : Int → Bool → Option ρ) (s0 : ByteArray) (base1 : Int) (bitSize2 : Int) : Option ρ :=
  (if base1 = 10 ∧ bitSize2 = 8 ∧ s0.size ≤ 281474976710656 then (K0 ((puV s0)) ((puE s0))) else none)
def impl_ParseVector.b0 {ρ : Type} (N : Nat) (K0 : (Nat → Int) → Int → Option ρ) (rec : Int → (Nat → Int) → Option ρ) (out0 : (Nat → Int) → Option ρ) (rv4 : Nat) (rv7 : Nat → ByteArray) (x8 : Int) (gv9 : Nat → Int) : Option ρ :=
  (if (decide (x8 < (rv4 : Int))) = true then (if (0 : Int) ≤ x8 ∧ x8 < (rv4 : Int) then (strconv_ParseUint N (fun rv10 rv11 => (if (!rv11) = true then (K0 (fun _ => 0) 6) else (if (decide (x8 ≥ 8)) = true then (K0 (fun _ => 0) 6) else (if (0 : Int) ≤ x8 ∧ x8 < 8 then (rec ((IntKind.i64.wrap (x8 + 1))) (upd gv9 (x8.toNat * 1) (IntKind.u8.wrap rv10))) else none)))) (rv7 (0 + (x8.toNat * 1))) 10 8) else none) else (out0 gv9))
def impl_ParseVector.a0_0 {ρ : Type} (N : Nat) (K0 : (Nat → Int) → Int → Option ρ) (p0 : Int) (nv1 : Int) (text2 : ByteArray) (ov12 : Nat → Int) : Option ρ :=
  (impl_IsVector N (fun rv13 => (if (!rv13) = true then (K0 (fun _ => 0) 6) else (impl_vectorText N (fun rv14 => (if (!strEq rv14 text2) = true then (K0 (fun _ => 0) 6) else (K0 ov12 0))) nv1 ov12))) p0 nv1 ov12)
def impl_ParseVector.l0 {ρ : Type} (N : Nat) (K0 : (Nat → Int) → Int → Option ρ) (rv4 : Nat) (rv7 : Nat → ByteArray) (out0 : (Nat → Int) → Option ρ) : Nat → Int → (Nat → Int) → Option ρ
  | 0, _, _ => none
  | m + 1, x8, gv9 => (impl_ParseVector.b0 N K0 ((impl_ParseVector.l0 N K0 rv4 rv7 out0 m)) out0 rv4 rv7 x8 gv9)
def impl_ParseVector.s {ρ : Type} (N : Nat) (K0 : (Nat → Int) → Int → Option ρ) (lp0 : Nat → Nat → Nat → (Nat → ByteArray) → Int → (Nat → Int) → Option ρ) (p0 : Int) (nv1 : Int) (text2 : ByteArray) : Option ρ :=
  (impl_IsVector N (fun rv3 => (if (!rv3) = true then (K0 (fun _ => 0) 1) else (strings_Split N (fun rv4 rv5 rv6 rv7 => (lp0 rv4 rv5 rv6 rv7 0 (fun _ => 0))) text2 (ByteArray.mk #[44])))) p0 nv1 (fun _ => 0))
def impl_ParseVector.bdy {ρ : Type} (N : Nat) (K0 : (Nat → Int) → Int → Option ρ) (p0 : Int) (nv1 : Int) (text2 : ByteArray) : Option ρ :=
  (impl_ParseVector.s N K0 (fun rv4 rv5 rv6 rv7 x8 gv9 => (impl_ParseVector.l0 N K0 rv4 rv7 (fun ov12 => (impl_ParseVector.a0_0 N K0 p0 nv1 text2 ov12)) N x8 gv9)) p0 nv1 text2)
theorem impl_ParseVector.ex : ∃ f : (ρ : Type) → (Nat) → ((Nat → Int) → Int → Option ρ) → (Int) → (Int) → (ByteArray) → Option ρ, f = fun ρ N K0 p0 nv1 text2 => impl_ParseVector.bdy (ρ := ρ) N K0 p0 nv1 text2 := ⟨_, rfl⟩
def impl_ParseVector {ρ : Type} (N : Nat) (K0 : (Nat → Int) → Int → Option ρ) (p0 : Int) (nv1 : Int) (text2 : ByteArray) : Option ρ :=
  Classical.choose impl_ParseVector.ex ρ N K0 p0 nv1 text2
theorem impl_ParseVector.opq {ρ : Type} (N : Nat) (K0 : (Nat → Int) → Int → Option ρ) (p0 : Int) (nv1 : Int) (text2 : ByteArray) : impl_ParseVector N K0 p0 nv1 text2 = impl_ParseVector.bdy N K0 p0 nv1 text2 := by
  unfold impl_ParseVector
  rw [Classical.choose_spec impl_ParseVector.ex]
def laws_FnSpaces_su {ρ : Type} (N : Nat) (K0 : Bool → Option ρ) (code0 : Nat) (gv1 : Nat) (gv2 : Nat → Int) : Option ρ :=
  (laws_big_su N (fun rv3 => (if rv3 = true then (K0 true) else (spec_DrawReduceVectors_su N (fun rv4 rv5 rv6 rv7 => (spec_ReduceVectors_su N (fun rv8 rv9 rv10 => (impl_ReduceVectors_su N (fun rv11 rv12 rv13 => (if (rv12 != rv9) = true then (K0 false) else (laws_vectors5_susu N (fun rv14 => (if (!rv14) = true then (K0 false) else (if (rv12 == 0) = true then (impl_ReduceVectors_su_v2 N (fun rv15 rv16 rv17 => (if (0 + rv11) * 8 ≤ 140737488355328 then (if ((0 + rv11) + rv6) * 8 ≤ 140737488355328 then (impl_ReduceVectors_su N (fun rv18 rv19 rv20 => (if (rv16 != 0) = true then (K0 false) else (if (rv19 != 0) = true then (K0 false) else (laws_vectors5_susu N (fun rv21 => (if (!rv21) = true then (K0 false) else (laws_vectors5_susu N (fun rv22 => (if (!rv22) = true then (K0 false) else (spec_DrawVectorText_su N (fun rv23 rv24 rv25 => (spec_VectorText N (fun rv26 rv27 => (impl_VectorText N (fun rv28 rv29 => (spec_DrawParseVector_su N (fun rv30 rv31 rv32 => (spec_ParseVector N (fun rv33 rv34 => (impl_ParseVector N (fun rv35 rv36 => (if (rv29 == rv27) = true then (if (strEq rv28 rv26) = true then (if (rv36 == rv34) = true then (if (eqN 8 rv35 rv33) = true then (impl_IsVector N (fun rv37 => (spec_IsVector N (fun rv38 => (K0 ((rv37 == rv38)))) rv23 rv24 rv25)) rv23 rv24 rv25) else (K0 false)) else (K0 false)) else (K0 false)) else (K0 false))) rv30 rv31 rv32)) rv30 rv31 rv32)) code0 (code0 * 1) (fun z => (gv2 (0 + z))))) rv23 rv24 rv25)) rv23 rv24 rv25)) code0 (code0 * 1) (fun z => (gv2 (0 + z)))))) rv18 rv11 (rv18 * 8) (fun z => (rv20 (0 + z))) (rv11 * 8) (fun z => (rv13 (0 + z)))))) rv15 rv11 (rv15 * 8) (fun z => (rv17 (0 + z))) (rv11 * 8) (fun z => (rv13 (0 + z))))))) rv4 rv5 ((0 + rv11) + rv6) (((0 + rv11) + rv6) * 8) (fun z => ((joinN ((0 + rv11) * 8) (joinN 0 (fun _ => 0) rv13) rv7) (0 + z)))) else none) else none)) rv4 rv5 rv11 (rv11 * 8) (fun z => (rv13 (0 + z)))) else (spec_DrawVectorText_su N (fun rv39 rv40 rv41 => (spec_VectorText N (fun rv42 rv43 => (impl_VectorText N (fun rv44 rv45 => (spec_DrawParseVector_su N (fun rv46 rv47 rv48 => (spec_ParseVector N (fun rv49 rv50 => (impl_ParseVector N (fun rv51 rv52 => (if (rv45 == rv43) = true then (if (strEq rv44 rv42) = true then (if (rv52 == rv50) = true then (if (eqN 8 rv51 rv49) = true then (impl_IsVector N (fun rv53 => (spec_IsVector N (fun rv54 => (K0 ((rv53 == rv54)))) rv39 rv40 rv41)) rv39 rv40 rv41) else (K0 false)) else (K0 false)) else (K0 false)) else (K0 false))) rv46 rv47 rv48)) rv46 rv47 rv48)) code0 (code0 * 1) (fun z => (gv2 (0 + z))))) rv39 rv40 rv41)) rv39 rv40 rv41)) code0 (code0 * 1) (fun z => (gv2 (0 + z))))))) rv11 rv8 (rv11 * 8) (fun z => (rv13 (0 + z))) (rv8 * 8) (fun z => (rv10 (0 + z)))))) rv4 rv5 rv6 (rv6 * 8) (fun z => (rv7 (0 + z))))) rv4 rv5 rv6 (rv6 * 8) (fun z => (rv7 (0 + z))))) code0 (code0 * 1) (fun z => (gv2 (0 + z)))))) code0 (code0 * 1) (fun z => (gv2 (0 + z))))
end
end Go.Proofs.YtoeailachidcdaaGreatDoor.H
