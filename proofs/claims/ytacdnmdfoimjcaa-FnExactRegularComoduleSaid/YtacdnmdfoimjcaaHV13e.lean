/- The laws of the Hopf algebras: each law's own value is true, for all whole numbers and bytes. -/
import Derived.Test.YtacdnmdfoimjcaaHV12e
namespace Go.Proofs.Ytacdnmdfoimjcaa.H
set_option linter.unusedVariables false
set_option linter.unusedSimpArgs false
open Go Go.RowKit Go.Proofs.Ytacdnmdfoimjcaa.Hx
set_option linter.unusedVariables false
set_option linter.unusedSimpArgs false
set_option maxRecDepth 100000

variable {ρ : Type}

theorem fnExactIsHopf_law (K : Bool → Option ρ) (a0 a1 : Nat → Int) (g0 : ∀ i, IntKind.i64.has (a0 i)) (g1 : ∀ i, IntKind.u8.has (a1 i)) : laws_FnExactIsHopf 5000 K a0 a1 = K true := by
  rw [laws_FnExactIsHopf]
  simp only [toHopf_eq, spec_IsHopf, spec_isHopf (keepN_byte g1), impl_isHopf (keepN_byte g1)]
  simp

theorem fnExactAxiomThatFails_law (K : Bool → Option ρ) (a0 a1 : Nat → Int) (g0 : ∀ i, IntKind.i64.has (a0 i)) (g1 : ∀ i, IntKind.u8.has (a1 i)) : laws_FnExactAxiomThatFails 5000 K a0 a1 = K true := by
  rw [laws_FnExactAxiomThatFails]
  simp only [toHopf_eq, spec_AxiomThatFails, impl_AxiomThatFails, spec_shapeH, impl_shapeH]
  by_cases hs : shH (keepN 2 a0) (keepN 1104 a1) = true
  · obtain ⟨n, h⟩ := hs_of hs (keepN_byte g1)
    simp only [hs, Bool.not_true, Bool.false_eq_true, if_false, if_true, spec_fails h (keepN_byte g1), impl_fails h (keepN_byte g1)]
    simp
  · rw [Bool.not_eq_true] at hs
    simp [hs]

section
variable {h0 h1 : Nat → Int} {n : Nat}

theorem hopB_siz (h : hopB h0 h1 = true) : sizB (h0 0) (h0 1) = true := by
  simp only [hopB, shH, shB, Bool.and_eq_true] at h
  exact h.1.1.1

theorem hopB_hs (h : hopB h0 h1 = true) (hb : ∀ i, i < 1104 → 0 ≤ h1 i ∧ h1 i ≤ 255) : ∃ n, HS h0 h1 n := by
  simp only [hopB, Bool.and_eq_true] at h
  exact hs_of h.1 hb

theorem spec_hcode8 (hb : ∀ i, i < 1104 → 0 ≤ h1 i ∧ h1 i ≤ 255) (K : Int → Option ρ) (g : Nat → Int) {m c : Nat} (hm : m < 900) : spec_l03Code_s8 5000 K h0 h1 m c g = K (if (hopB h0 h1 && listB (h0 0) (h0 1) g m) = true then 0 else 1) := by
  simp only [spec_l03Code_s8, spec_l03Code_s8.s, spec_isHopf hb]
  cases hopB h0 h1
  · simp
  · simp only [Bool.not_true, Bool.false_eq_true, if_false, Bool.true_and]
    refine (all_at (n := m) (fun i => vecB (h0 0) (h0 1) (fun z => g (i * 8 + z))) (no := K 1) (out := K 0) (fun k i hi => ?_) (fun k => ?_) (by omega)).trans ?_
    · simp only [spec_l03Code_s8.l0, spec_l03Code_s8.b0, spec_vector]
      have h1 : (i : Int) < m := by omega
      have h2 : (0 : Int) ≤ i ∧ (i : Int) < m := by omega
      simp only [h1, h2, decide_true, if_true, and_self, Int.toNat_natCast, Nat.zero_add, nx (show i < 100000 by omega)]
      cases vecB (h0 0) (h0 1) (fun z => g (i * 8 + z)) <;> simp
    · simp only [spec_l03Code_s8.l0, spec_l03Code_s8.b0, Int.lt_irrefl, decide_false, Bool.false_eq_true, if_false, spec_l03Code_s8.a0_0]
    · unfold listB
      split <;> rfl

theorem impl_hindex (K : Int → Option ρ) (g g4 g5 : Nat → Int) (hs : sizB (g4 0) (g4 1) = true) {m c d : Nat} (hm : m < 900) :
    slices_IndexFunc_sf 5000 K m c d g g4 g5 = optK (firstN (fun i => if vecB (g4 0) (g4 1) (fun z => g (i * 8 + z)) = true then none else some i) 0 m) (fun i => K (i : Int)) (K (-1)) := by
  rw [slices_IndexFunc_sf, slices_IndexFunc_sf.s]
  refine find_at (n := m) (fun i => if vecB (g4 0) (g4 1) (fun z => g (i * 8 + z)) = true then none else some i) (fun i => K (i : Int)) (fun k i hi => ?_) (fun k => ?_) (by omega)
  · simp only [slices_IndexFunc_sf.l0, slices_IndexFunc_sf.b0, impl_Hopf_has_c1, impl_isVector, hs, Bool.true_and]
    have h1 : (i : Int) < m := by omega
    have h2 : (0 : Int) ≤ i ∧ (i : Int) < m := by omega
    simp only [h1, h2, decide_true, if_true, and_self, Int.toNat_natCast, Nat.zero_add, nx (show i < 100000 by omega)]
    cases vecB (g4 0) (g4 1) (fun z => g (i * 8 + z)) <;> simp [optK]
  · simp only [slices_IndexFunc_sf.l0, slices_IndexFunc_sf.b0, Int.lt_irrefl, decide_false, Bool.false_eq_true, if_false, slices_IndexFunc_sf.a0_0]

theorem impl_hhas (K : Bool → Option ρ) (g a0 a1 : Nat → Int) (hs : sizB (a0 0) (a0 1) = true) {m c d : Nat} (hm : m < 900) : impl_Hopf_has_s 5000 K m c a0 a1 d g = K (listB (a0 0) (a0 1) g m) := by
  simp only [impl_Hopf_has_s, slices_ContainsFunc_sf]
  rw [impl_hindex _ _ _ _ hs hm]
  simp only [Nat.zero_add]
  unfold listB
  rw [← firstN_none (f := fun i => i)]
  cases firstN (fun i => if vecB (a0 0) (a0 1) (fun z => g (i * 8 + z)) = true then none else some i) 0 m with
  | none => simp [optK]
  | some i => simp [optK]

theorem impl_hcode8 (hb : ∀ i, i < 1104 → 0 ≤ h1 i ∧ h1 i ≤ 255) (K : Int → Option ρ) (g : Nat → Int) {m c : Nat} (hm : m < 900) : impl_Hopf_code_s8 5000 K m c h0 h1 g = K (if (hopB h0 h1 && listB (h0 0) (h0 1) g m) = true then 0 else 1) := by
  simp only [impl_Hopf_code_s8, impl_isHopf hb]
  by_cases h : hopB h0 h1 = true
  · simp only [h, if_true, Bool.true_and]
    rw [impl_hhas _ _ _ _ (hopB_siz h) hm, impl_unless_eq]
    simp only [Nat.zero_add]
  · have h' : hopB h0 h1 = false := by simpa using h
    simp [h', impl_unless_eq]

theorem impl_hcode0 (hb : ∀ i, i < 1104 → 0 ≤ h1 i ∧ h1 i ≤ 255) (K : Int → Option ρ) : impl_Hopf_code_n 5000 K h0 h1 = K (if hopB h0 h1 = true then 0 else 1) := by
  simp only [impl_Hopf_code_n, impl_isHopf hb]
  by_cases h : hopB h0 h1 = true
  · simp only [h, if_true]
    rfl
  · have h' : hopB h0 h1 = false := by simpa using h
    simp [h', impl_unless_eq]

theorem spec_applyH (h : HS h0 h1 n) (K : (Nat → Int) → Option ρ) {v : Nat → Int} (hv : inP (h0 0) v) : spec_l01Apply 5000 K (h0 0) (h0 1) (fun z => h1 (1040 + z)) v = K (applyV (h0 0) n (fun z => h1 (1040 + z)) v) := by
  rw [h.al.size]
  exact spec_apply K h.al.p0 h.al.p255 h.al.le hv fun i hi => h.an i (by have := h.al.le; omega)

theorem impl_applyH (h : HS h0 h1 n) (K : (Nat → Int) → Option ρ) {f v : Nat → Int} (hf : f 0 = h0 0) (hv : inP (h0 0) v) : impl_field_apply 5000 K f v (fun z => h1 (1040 + z)) = K (applyV (h0 0) n (fun z => h1 (1040 + z)) v) := by
  have hn := h.al.le
  have p0 := h.al.p0
  have p255 := h.al.p255
  have e8 : accV (h0 0) 8 v (fun i z => h1 (1040 + (i * 8 + z))) = applyV (h0 0) n (fun z => h1 (1040 + z)) v := by
    unfold applyV accV
    funext k
    split
    · rename_i hk
      rw [sumN_out (n := n) hn fun i hi hi8 => by show v i * h1 (1040 + (i * 8 + k)) = 0; rw [h.an0 i k hi8 hk hi, Int.mul_zero]]
    · rfl
  rw [← e8, impl_field_apply, impl_field_apply.s]
  refine loop_at (n := 8) (fun i => accV (h0 0) i v (fun i z => h1 (1040 + (i * 8 + z)))) accV_zero.symm (fun m i hi => ?_) (fun m => ?_) (by omega)
  · simp only [impl_field_apply.l0, impl_field_apply.b0]
    have e1 : (i : Int) < 8 := by omega
    have hi2 : (0 : Int) ≤ i ∧ (i : Int) < 8 := by omega
    have u := hv i hi
    simp only [e1, hi2, decide_true, if_true, and_self, Int.toNat_natCast]
    rw [wrap64_id (x := v i) (by omega) (by omega), impl_plus _ (by rw [hf]; exact p0) (by rw [hf]; exact p255) (by rw [hf]; exact inP_acc p0) (inP_byte p255 (h.an i hi)) (by omega) (by omega), hf, ← accV_succ]
    simp only [nx (show i < 100000 by omega)]
  · simp only [impl_field_apply.l0, impl_field_apply.b0, not8, decide_false, Bool.false_eq_true, if_false, impl_field_apply.a0_0]

/-! integrals -/

def liB (h0 h1 : Nat → Int) (n : Nat) (t : Nat → Int) : Bool := allN (fun i => eqN 8 (tm h0 h1 n (eb i) t) (addV (h0 0) (fun _ => 0) t (h1 (520 + i)))) 0 n

theorem spec_liLoop (h : HS h0 h1 n) (K : Bool → Int → Option ρ) {t : Nat → Int} (ht : inP (h0 0) t) : spec_IsLeftIntegral.l0 5000 K h0 h1 t (spec_IsLeftIntegral.a0_0 5000 K) 5000 0 = K (liB h0 h1 n t) 0 := by
  have hn := h.al.le
  refine (all_at (n := n) (no := K false 0) (out := K true 0) (fun i => eqN 8 (tm h0 h1 n (eb i) t) (addV (h0 0) (fun _ => 0) t (h1 (520 + i)))) (fun m i hi => ?_) (fun m => ?_) (by omega)).trans ?_
  · simp only [spec_IsLeftIntegral.l0, spec_IsLeftIntegral.b0, spec_alg]
    have e1 : (i : Int) < n := by omega
    have hi2 : (0 : Int) ≤ i ∧ (i : Int) < 8 := by omega
    have u := h.cou (i := i) (by omega)
    simp only [h.al.size, e1, hi2, decide_true, if_true, and_self, Int.toNat_natCast, Nat.mul_one, spec_basis_eq _ (show i < 8 by omega)]
    rw [h.times _ (inP_basis h.al.p2 _) ht, wrap64_id (x := h1 (520 + i)) (by omega) (by omega), spec_add _ h.al.p0 h.al.p255 (fun _ _ => by omega) (inP_byte h.al.p255 ht) (by omega) (by omega)]
    unfold eb
    cases eqN 8 (tm h0 h1 n (upd (fun _ => 0) i 1) t) (addV (h0 0) (fun _ => 0) t (h1 (520 + i))) <;> simp [nx (show i < 100000 by omega)]
  · simp only [spec_IsLeftIntegral.l0, spec_IsLeftIntegral.b0, h.al.size, Int.lt_irrefl, decide_false, Bool.false_eq_true, if_false, spec_IsLeftIntegral.a0_0]
  · unfold liB
    split
    · rename_i hu; rw [hu]
    · rename_i hu; rw [Bool.eq_false_iff.2 hu]

theorem impl_liLoop (h : HS h0 h1 n) (K : Bool → Int → Option ρ) {t r : Nat → Int} (f0 : r 0 = h0 0) (f1 : r 1 = n) (ht : inP (h0 0) t) : impl_IsLeftIntegral.l0 5000 K h0 h1 t r (impl_IsLeftIntegral.a0_0 5000 K) 5000 0 = K (liB h0 h1 n t) 0 := by
  have hn := h.al.le
  refine (all_at (n := n) (no := K false 0) (out := K true 0) (fun i => eqN 8 (tm h0 h1 n (eb i) t) (addV (h0 0) (fun _ => 0) t (h1 (520 + i)))) (fun m i hi => ?_) (fun m => ?_) (by omega)).trans ?_
  · simp only [impl_IsLeftIntegral.l0, impl_IsLeftIntegral.b0, impl_field_times]
    have e1 : (i : Int) < n := by omega
    have hi2 : (0 : Int) ≤ i ∧ (i : Int) < 8 := by omega
    have u := h.cou (i := i) (by omega)
    simp only [f1, e1, hi2, decide_true, if_true, and_self, Int.toNat_natCast, Nat.mul_one, impl_basis_eq _ (show i < 8 by omega)]
    rw [h.product _ (inP_basis h.al.p2 _) ht, wrap64_id (x := h1 (520 + i)) (by omega) (by omega), impl_plus _ (by rw [f0]; exact h.al.p0) (by rw [f0]; exact h.al.p255) (by rw [f0]; have := h.al.p0; intro z hz; show (0 : Int) ≤ 0 ∧ (0 : Int) < h0 0; omega) (inP_byte h.al.p255 ht) (by omega) (by omega), f0]
    unfold eb
    cases eqN 8 (tm h0 h1 n (upd (fun _ => 0) i 1) t) (addV (h0 0) (fun _ => 0) t (h1 (520 + i))) <;> simp [nx (show i < 100000 by omega)]
  · simp only [impl_IsLeftIntegral.l0, impl_IsLeftIntegral.b0, f1, Int.lt_irrefl, decide_false, Bool.false_eq_true, if_false, impl_IsLeftIntegral.a0_0]
  · unfold liB
    split
    · rename_i hu; rw [hu]
    · rename_i hu; rw [Bool.eq_false_iff.2 hu]
end

theorem fnExactCounitOf_law (K : Bool → Option ρ) (a0 a1 v : Nat → Int) (g0 : ∀ i, IntKind.i64.has (a0 i)) (g1 : ∀ i, IntKind.u8.has (a1 i)) (g2 : ∀ i, IntKind.u8.has (v i)) : laws_FnExactCounitOf 5000 K a0 a1 v = K true := by
  rw [laws_FnExactCounitOf]
  simp only [toHopf_eq, toVector_eq]
  simp only [spec_CounitOf, impl_CounitOf, spec_hcode8 (keepN_byte g1) _ _ (show 1 < 900 by omega), impl_hcode8 (keepN_byte g1) _ _ (show 1 < 900 by omega)]
  by_cases hc : (hopB (keepN 2 a0) (keepN 1104 a1) && listB (keepN 2 a0 0) (keepN 2 a0 1) (fun z => keepN 8 v (0 + z)) 1) = true
  · simp only [hc, if_true, bne_self_eq_false, Bool.false_eq_true, if_false]
    rw [Bool.and_eq_true] at hc
    obtain ⟨n, h⟩ := hopB_hs hc.1 (keepN_byte g1)
    simp only [hsp_counit h _ (fun i _ => keepN_byte' g2 i), him_counit h _ (fun i _ => keepN_byte' g2 i)]
    simp
  · rw [Bool.not_eq_true] at hc
    simp only [hc, Bool.false_eq_true, if_false]
    simp

theorem fnExactCoproductOf_law (K : Bool → Option ρ) (a0 a1 v : Nat → Int) (g0 : ∀ i, IntKind.i64.has (a0 i)) (g1 : ∀ i, IntKind.u8.has (a1 i)) (g2 : ∀ i, IntKind.u8.has (v i)) : laws_FnExactCoproductOf 5000 K a0 a1 v = K true := by
  rw [laws_FnExactCoproductOf]
  simp only [toHopf_eq, toVector_eq]
  simp only [spec_CoproductOf, impl_CoproductOf, spec_hcode8 (keepN_byte g1) _ _ (show 1 < 900 by omega), impl_hcode8 (keepN_byte g1) _ _ (show 1 < 900 by omega)]
  by_cases hc : (hopB (keepN 2 a0) (keepN 1104 a1) && listB (keepN 2 a0 0) (keepN 2 a0 1) (fun z => keepN 8 v (0 + z)) 1) = true
  · simp only [hc, if_true, bne_self_eq_false, Bool.false_eq_true, if_false]
    rw [Bool.and_eq_true] at hc
    obtain ⟨n, h⟩ := hopB_hs hc.1 (keepN_byte g1)
    have hv := one_fst (listB_in hc.2 (fun i hi => one_vec (keepN_byte' g2)) (show 0 < 1 by omega))
    simp only [hsp_coproduct h _ hv, him_coproduct h _ hv, eqLinear_self]
    simp
  · rw [Bool.not_eq_true] at hc
    simp only [hc, Bool.false_eq_true, if_false]
    simp [eqLinear_self]

theorem fnExactAntipodeOf_law (K : Bool → Option ρ) (a0 a1 v : Nat → Int) (g0 : ∀ i, IntKind.i64.has (a0 i)) (g1 : ∀ i, IntKind.u8.has (a1 i)) (g2 : ∀ i, IntKind.u8.has (v i)) : laws_FnExactAntipodeOf 5000 K a0 a1 v = K true := by
  rw [laws_FnExactAntipodeOf]
  simp only [toHopf_eq, toVector_eq]
  simp only [spec_AntipodeOf, impl_AntipodeOf, spec_hcode8 (keepN_byte g1) _ _ (show 1 < 900 by omega), impl_hcode8 (keepN_byte g1) _ _ (show 1 < 900 by omega)]
  by_cases hc : (hopB (keepN 2 a0) (keepN 1104 a1) && listB (keepN 2 a0 0) (keepN 2 a0 1) (fun z => keepN 8 v (0 + z)) 1) = true
  · simp only [hc, if_true, bne_self_eq_false, Bool.false_eq_true, if_false]
    rw [Bool.and_eq_true] at hc
    obtain ⟨n, h⟩ := hopB_hs hc.1 (keepN_byte g1)
    have hv := one_fst (listB_in hc.2 (fun i hi => one_vec (keepN_byte' g2)) (show 0 < 1 by omega))
    simp only [spec_applyH h _ hv, impl_Hopf_antipode, impl_Hopf_field]
    rw [impl_applyH h _ fld0 hv, eqVector_self]
    simp
  · rw [Bool.not_eq_true] at hc
    simp only [hc, Bool.false_eq_true, if_false]
    simp [eqVector_self]

theorem fnExactIsLeftIntegral_law (K : Bool → Option ρ) (a0 a1 v : Nat → Int) (g0 : ∀ i, IntKind.i64.has (a0 i)) (g1 : ∀ i, IntKind.u8.has (a1 i)) (g2 : ∀ i, IntKind.u8.has (v i)) : laws_FnExactIsLeftIntegral 5000 K a0 a1 v = K true := by
  rw [laws_FnExactIsLeftIntegral]
  simp only [toHopf_eq, toVector_eq]
  rw [spec_IsLeftIntegral, spec_IsLeftIntegral.s, spec_hcode8 (keepN_byte g1) _ _ (show 1 < 900 by omega)]
  simp only [impl_IsLeftIntegral, impl_IsLeftIntegral.s, impl_hcode8 (keepN_byte g1) _ _ (show 1 < 900 by omega)]
  by_cases hc : (hopB (keepN 2 a0) (keepN 1104 a1) && listB (keepN 2 a0 0) (keepN 2 a0 1) (fun z => keepN 8 v (0 + z)) 1) = true
  · simp only [hc, if_true, bne_self_eq_false, Bool.false_eq_true, if_false]
    rw [Bool.and_eq_true] at hc
    obtain ⟨n, h⟩ := hopB_hs hc.1 (keepN_byte g1)
    have hv := one_fst (listB_in hc.2 (fun i hi => one_vec (keepN_byte' g2)) (show 0 < 1 by omega))
    rw [spec_liLoop h _ hv]
    simp only [impl_Hopf_field]
    rw [impl_liLoop h _ fld0 (fld1.trans h.al.size) hv]
    simp
  · rw [Bool.not_eq_true] at hc
    simp only [hc, Bool.false_eq_true, if_false]
    simp

theorem fnExactRegularComodule_law (K : Bool → Option ρ) (a0 a1 : Nat → Int) (g0 : ∀ i, IntKind.i64.has (a0 i)) (g1 : ∀ i, IntKind.u8.has (a1 i)) : laws_FnExactRegularComodule 5000 K a0 a1 = K true := by
  rw [laws_FnExactRegularComodule]
  have self : ∀ (K : Bool → Option ρ) (a b : Nat → Int), laws_eqComodule 5000 K a b a b = K true := by
    intro K a b
    simp only [laws_eqComodule, bne_self_eq_false, Bool.false_eq_true, if_false]
    rw [eqTable_of _ fun _ _ => rfl]
    simp
  simp only [toHopf_eq]
  simp only [spec_RegularComodule, impl_RegularComodule, spec_isHopf (keepN_byte g1), impl_hcode0 (keepN_byte g1)]
  by_cases hc : hopB (keepN 2 a0) (keepN 1104 a1) = true
  · simp only [hc, Bool.not_true, Bool.false_eq_true, if_false, if_true, bne_self_eq_false, self]
  · rw [Bool.not_eq_true] at hc
    simp only [hc, Bool.not_false, if_true, Bool.false_eq_true, if_false]
    simp [self]

end Go.Proofs.Ytacdnmdfoimjcaa.H
