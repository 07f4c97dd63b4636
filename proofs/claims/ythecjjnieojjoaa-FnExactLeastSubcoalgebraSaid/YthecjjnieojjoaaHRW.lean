/- The program's reduced list is the law's. -/
import Derived.Test.YthecjjnieojjoaaHRV
namespace Go.Proofs.Ythecjjnieojjoaa.H
set_option linter.unusedVariables false
set_option linter.unusedSimpArgs false
open Go Go.RowKit Go.Proofs.Ythecjjnieojjoaa.Hy
set_option linter.unusedVariables false
set_option linter.unusedSimpArgs false
set_option maxRecDepth 100000

section
variable {ρ : Type} {p : Int} {N W : Nat} {of ln : Nat → Nat} {pool : Nat → Int}

theorem contains_no (K : Bool → Option ρ) {s d1 d2 mn e1 e2 e3 e4 e5 : Nat} {o1 o2 : Nat → Nat} {f h : Nat → Int} (hs : s ≤ 1000) (hl : ∀ x, x < s → ln x = mn + 1) (hz : ∀ x, x < s → pool (of x + mn) = 0) :
    slices_ContainsFunc_suhf 6000 K s d1 d2 of ln pool f (fun _ => (mn : Int)) e1 e2 e3 e4 o1 o2 e5 h = K false := by
  unfold slices_ContainsFunc_suhf slices_IndexFunc_suhf_v2 slices_IndexFunc_suhf_v2.s
  simp only [offN_zero']
  refine go_at (n := s) (fun q i hi => ?_) (fun q => ?_) (by omega)
  · simp only [slices_IndexFunc_suhf_v2.l0, slices_IndexFunc_suhf_v2.b0, impl_system_solve_c2_su]
    have h1 : (i : Int) < (s : Int) := by omega
    have h2 : (0 : Int) ≤ i ∧ (i : Int) < (s : Int) := by omega
    have h3 : (0 : Int) ≤ mn ∧ (mn : Int) < ((mn + 1 : Nat) : Int) := by omega
    simp only [h1, h2, h3, hl i hi, hz i hi, decide_true, if_true, and_self, Int.toNat_natCast, Nat.zero_add, Nat.mul_one, nx' (show i < 100000000 by omega), bne_self_eq_false, Bool.false_eq_true, if_false]
  · simp only [slices_IndexFunc_suhf_v2.l0, slices_IndexFunc_suhf_v2.b0, Int.lt_irrefl, decide_false, Bool.false_eq_true, if_false, slices_IndexFunc_suhf_v2.a0_0]
    rfl

theorem impl_solve (hp : isP p = true) {f : Nat → Int} (hf : f 0 = p) {mn q : Nat} (hmn : mn ≤ 8) (hN : N ≤ 1000) (t : Tbl p N (mn + 1) of ln pool) (hz : ∀ k, k < N → p ∣ pool (of k + mn)) :
    ∃ (d' : Nat) (of' ln' : Nat → Nat) (pool' pls' : Nat → Int) (plf' : Nat → Nat), d' ≤ N ∧
      (∀ K0 : Bool → Nat → Nat → Nat → (Nat → Nat) → (Nat → Nat) → (Nat → Int) → (Nat → Int) → Option ρ, impl_system_solve 6000 K0 f (fun _ => (mn : Int)) N q of ln pool = K0 true d' d' q of' ln' pool' pls') ∧
      Tbl p N (mn + 1) of' ln' pool' ∧ Red p mn d' (rowO of' pool') plf' ∧ Sub p mn (Rw d' (rowO of' pool')) (Rw N (rowO of pool)) ∧ Sub p mn (Rw N (rowO of pool)) (Rw d' (rowO of' pool')) ∧ (∀ k, k < d' → pls' k = (plf' k : Int)) := by
  obtain ⟨d', of', ln', pool', pls', plf', r1, r2, r3, r4, r5, r6, r7, r8⟩ := solve_loop (ρ := ρ) (N := N) hp hf (mn := mn) (q := q) hmn hN (G := Rw N (rowO of pool)) mn 6000 0 0 of ln pool (fun _ => 0) (fun _ => 0) (by omega) (by omega) t Elim.init hz Sub.refl Sub.refl (fun k hk => by omega)
  refine ⟨d', of', ln', pool', pls', plf', r1, fun K0 => ?_, r3, r4, r6, r7, r8⟩
  unfold impl_system_solve impl_system_solve.s
  refine Eq.trans (r2 _ _) ?_
  have h1 : (0 : Int) ≤ d' ∧ (d' : Int) ≤ (N : Int) ∧ (N : Int) ≤ (N : Int) := ⟨by omega, by omega, by omega⟩
  have h2 : (0 : Int) ≤ (0 : Int) ∧ (0 : Int) ≤ (d' : Int) ∧ (d' : Int) ≤ (N : Int) := ⟨by omega, by omega, by omega⟩
  simp only [impl_system_solve.a0_0, h1, h2, and_self, if_true, Int.toNat_natCast]
  refine Eq.trans (contains_no (mn := mn) _ (by omega) (fun x hx => ?_) (fun x hx => ?_)) rfl
  · unfold offN; exact r3.len _ (by omega)
  · have hx' : 0 + d' * 1 + x < N := by omega
    have := r3.ent (0 + d' * 1 + x) mn hx' (by omega)
    exact zero_of (r5 _ hx') this.1 this.2

/-! reduced -/

def rdO : Nat → Nat → Nat
  | 0 => fun _ => 0
  | i + 1 => upd (rdO i) i (9 * i)
def rdL : Nat → Nat → Nat
  | 0 => fun _ => 0
  | i + 1 => upd (rdL i) i 9
def rdP (L : Nat → Int) : Nat → Nat → Int
  | 0 => fun _ => 0
  | i + 1 => joinN (9 * i) (rdP L i) (joinN 8 (joinN 0 (fun _ => 0) fun z => L (i * 8 + z)) (upd (fun _ => 0) 0 0))

theorem rd_ok {L : Nat → Int} : ∀ i k, k < i → rdO i k = 9 * k ∧ rdL i k = 9 ∧ (∀ z, z < 8 → rdP L i (9 * k + z) = L (k * 8 + z)) ∧ rdP L i (9 * k + 8) = 0
  | 0, k, h => by omega
  | i + 1, k, h => by
    by_cases e : k = i
    · subst e
      refine ⟨by simp [rdO, upd], by simp [rdL, upd], fun z hz => ?_, ?_⟩
      · simp only [rdP, joinN]
        rw [if_neg (by omega), if_pos (by omega), if_neg (by omega)]
        congr 1; omega
      · simp only [rdP, joinN, upd]
        rw [if_neg (by omega), if_neg (by omega), if_pos (by omega)]
    · obtain ⟨h1, h2, h3, h4⟩ := rd_ok (L := L) i k (by omega)
      refine ⟨by simp only [rdO, upd]; rw [if_neg e]; exact h1, by simp only [rdL, upd]; rw [if_neg e]; exact h2, fun z hz => ?_, ?_⟩
      · simp only [rdP, joinN]; rw [if_pos (by omega)]; exact h3 z hz
      · simp only [rdP, joinN]; rw [if_pos (by omega)]; exact h4

def fnS (of : Nat → Nat) (pool : Nat → Int) : Nat → Nat → Int
  | 0 => fun _ => 0
  | j + 1 => joinN (j * 8) (fnS of pool j) (fun z => pool (of j + z))

theorem fnS_row : ∀ {j k z : Nat}, k < j → z < 8 → rw8 (fnS of pool j) k z = pool (of k + z)
  | 0, k, z, h, _ => by omega
  | j + 1, k, z, h, hz => by
    simp only [fnS]
    by_cases e : k = j
    · subst e; rw [rw8_eq]
    · rw [rw8_lt (by omega) hz]; exact fnS_row (by omega) hz

theorem reduced_ok (hp : isP p = true) {L : Nat → Int} {a b : Nat} (hN : N ≤ 1000) (hL : ∀ i, i < N → inP p (rw8 L i)) :
    ∃ (d : Nat) (g' : Nat → Int) (l : Nat → Nat), (∀ K : Nat → (Nat → Int) → Option ρ, impl_reduced_su 6000 K p N a L = K d g') ∧ RedG p d g' l ∧ Sub p 8 (Rw d (rw8 g')) (Rw N (rw8 L)) ∧ Sub p 8 (Rw N (rw8 L)) (Rw d (rw8 g')) := by
  have hr := isP_range hp
  have T : Tbl p N (8 + 1) (rdO N) (rdL N) (rdP L N) := by
    refine ⟨fun k hk => (rd_ok (L := L) N k hk).2.1, fun j k hj hk hne y z hy hz => ?_, fun k z hk hz => ?_⟩
    · rw [(rd_ok (L := L) N j hj).1, (rd_ok (L := L) N k hk).1]; omega
    · obtain ⟨h1, h2, h3, h4⟩ := rd_ok (L := L) N k hk
      rw [h1]
      by_cases e : z = 8
      · subst e; rw [h4]; omega
      · rw [h3 z (by omega)]; exact hL k hk z (by omega)
  have hz : ∀ k, k < N → p ∣ rdP L N (rdO N k + 8) := fun k hk => by
    obtain ⟨h1, h2, h3, h4⟩ := rd_ok (L := L) N k hk
    rw [h1, h4]; exact Int.dvd_zero _
  obtain ⟨d, of', ln', pool', pls', plf', r1, r2, r3, r4, r5, r6, r7⟩ := impl_solve (ρ := ρ) (N := N) (q := 9 * N) hp (f := upd (upd (fun _ => 0) 0 p) 1 0) (by simp [upd]) (mn := 8) (by omega) hN T hz
  have rw1 : ∀ k, k < d → Cg p 8 (rw8 (fnS of' pool' d) k) (rowO of' pool' k) := fun k hk => Cg.of_eq fun i hi => fnS_row hk hi
  have rw2 : ∀ k, k < N → Cg p 8 (rw8 L k) (rowO (rdO N) (rdP L N) k) := fun k hk => Cg.of_eq fun i hi => by
    obtain ⟨h1, h2, h3, h4⟩ := rd_ok (L := L) N k hk
    unfold rowO
    rw [h1, h3 i hi]; rfl
  refine ⟨d, fnS of' pool' d, plf', fun K => ?_, ⟨r4.cg rw1, fun k hk i hi => ?_⟩, Sub.trans (fun r hh => ?_) (r5.trans fun r hh => ?_), Sub.trans (fun r hh => ?_) (r6.trans fun r hh => ?_)⟩
  · unfold impl_reduced_su impl_reduced_su.s impl_newSystem
    have main := loop_st (l := fun F (i : Nat) (s : Nat × Nat × (Nat → Nat) × (Nat → Nat) × (Nat → Int)) => impl_reduced_su.l0 6000 K N L (fun ov15 ov16 ov17 ov18 ov19 => impl_reduced_su.a0_0 6000 K (fun rv21 rv23 rv24 rv25 rv26 outv28 x29 gv30 => impl_reduced_su.l1 6000 K rv21 rv24 rv25 rv26 (fun ov31 ov32 => impl_reduced_su.a1_0 6000 K ov31 ov32) 6000 outv28 x29 gv30) (upd (upd (fun _ => 0) 0 p) 1 0) (fun _ => 8) ov15 ov16 ov17 ov18 ov19) F (i : Int) s.1 s.2.1 s.2.2.1 s.2.2.2.1 s.2.2.2.2) (n := N)
      (out := K d (fnS of' pool' d)) (fun i => (i, 9 * i, rdO i, rdL i, rdP L i)) (fun q i hi => ?_) (fun q => ?_) N 0 6000 (by omega) (by omega)
    · simpa [rdO, rdL, rdP] using main
    · simp only [impl_reduced_su.l0, impl_reduced_su.b0, slices_Clone_s]
      have h1 : (i : Int) < (N : Int) := by omega
      have h2 : (0 : Int) ≤ i ∧ (i : Int) < (N : Int) := by omega
      have b1 : (i + 1) * 24 ≤ 140737488355328 := by omega
      simp only [h1, h2, b1, decide_true, if_true, and_self, Int.toNat_natCast, Nat.zero_add, Nat.mul_one, nx' (show i < 100000000 by omega), rdO, rdL, rdP]
      have e9 : 9 * i + (8 + 1) = 9 * (i + 1) := by omega
      simp only [e9]
      rfl
    · simp only [impl_reduced_su.l0, impl_reduced_su.b0, Int.lt_irrefl, decide_false, Bool.false_eq_true, if_false, impl_reduced_su.a0_0]
      refine Eq.trans (r2 _) ?_
      have m2 := loop_st (l := fun F (i : Nat) (s : Nat × Int × (Nat → Int)) => impl_reduced_su.l1 6000 K d of' ln' pool' (fun ov31 ov32 => impl_reduced_su.a1_0 6000 K ov31 ov32) F s.1 s.2.1 s.2.2) (n := d) (out := K d (fnS of' pool' d)) (fun i => (i, (i : Int), fnS of' pool' i)) (fun q i hi => ?_) (fun q => ?_) d 0 6000 (by omega) (by omega)
      · simpa [fnS] using m2
      · simp only [impl_reduced_su.l1, impl_reduced_su.b1]
        have h1 : (i : Int) < (d : Int) := by omega
        have h2 : (0 : Int) ≤ i ∧ (i : Int) < (d : Int) := by omega
        have h3 : (0 : Int) ≤ (0 : Int) ∧ (0 : Int) ≤ (8 : Int) ∧ (8 : Int) ≤ ((8 + 1 : Nat) : Int) := ⟨by omega, by omega, by omega⟩
        have b1 : (i + 1) * 8 ≤ 140737488355328 := by omega
        simp only [h1, h2, h3, b1, r3.len i (by omega), decide_true, if_true, and_self, Int.toNat_natCast, Nat.zero_add, Nat.mul_one, Nat.add_zero, nx' (show i < 100000000 by omega), fnS]
      · simp only [impl_reduced_su.l1, impl_reduced_su.b1, Int.lt_irrefl, decide_false, Bool.false_eq_true, if_false, impl_reduced_su.a1_0]
  · rw [fnS_row hk hi]; exact r3.ent k i (by omega) (by omega)
  · obtain ⟨k, hk, rfl⟩ := hh
    exact (Sp.of ⟨k, hk, rfl⟩).cg (rw1 k hk)
  · obtain ⟨k, hk, rfl⟩ := hh
    exact (Sp.of ⟨k, hk, rfl⟩).cg (rw2 k hk).symm
  · obtain ⟨k, hk, rfl⟩ := hh
    exact (Sp.of ⟨k, hk, rfl⟩).cg (rw2 k hk)
  · obtain ⟨k, hk, rfl⟩ := hh
    exact (Sp.of ⟨k, hk, rfl⟩).cg (rw1 k hk).symm

/-- reduced lists of the same span are alike in all their entries -/
theorem RedG.same (hp : 1 < p) {m m' : Nat} {g g' : Nat → Int} {l l' : Nat → Nat} (h : RedG p m g l) (h' : RedG p m' g' l') (a : Sub p 8 (Rw m (rw8 g)) (Rw m' (rw8 g'))) (b : Sub p 8 (Rw m' (rw8 g')) (Rw m (rw8 g))) :
    m = m' ∧ ∀ z, z < m * 8 → g z = g' z := by
  obtain ⟨e, s⟩ := h.red.same hp h'.red (fun k hk => a _ ⟨k, hk, rfl⟩) (fun k hk => b _ ⟨k, hk, rfl⟩)
  subst e
  refine ⟨rfl, fun z hz => ?_⟩
  have hk : z / 8 < m := by omega
  have := (s (z / 8) hk).2.eq_of (h.ent _ hk) (h'.ent _ hk) (z % 8) (by omega)
  unfold rw8 at this
  rwa [show z / 8 * 8 + z % 8 = z by omega] at this

/-- the same for any vectors that the list's rows are -/
theorem reduced_sameV (hp : isP p = true) {V : Nat → Nat → Int} {L' : Nat → Int} {a b : Nat} (hN : N ≤ 1000) (hV : ∀ i, i < N → inP p (V i)) (hLL : ∀ k z, k < N → z < 8 → rw8 L' k z = V k z) :
    ∃ g' : Nat → Int, (∀ K : Nat → (Nat → Int) → Option ρ, impl_reduced_su 6000 K p N a L' = K (redV p V N).1 g') ∧ ∀ z, z < (redV p V N).1 * 8 → g' z = (redV p V N).2 z := by
  have hr := isP_range hp
  obtain ⟨d, g', l, h1, h2, h3, h4⟩ := reduced_ok (ρ := ρ) (a := a) (b := b) hp hN (L := L') (fun i hi z hz => by rw [hLL i z hi hz]; exact hV i hi z hz)
  obtain ⟨l', q1, q2, q3⟩ := redV_ok hp hV N (Nat.le_refl N)
  have sL : Sub p 8 (Rw N (rw8 L')) (Rw N V) := by
    rintro r ⟨k, hk, rfl⟩; exact (Sp.of ⟨k, hk, rfl⟩).cg (Cg.of_eq fun z hz => hLL k z hk hz)
  have sL' : Sub p 8 (Rw N V) (Rw N (rw8 L')) := by
    rintro r ⟨k, hk, rfl⟩; exact (Sp.of ⟨k, hk, rfl⟩).cg (Cg.of_eq fun z hz => hLL k z hk hz).symm
  obtain ⟨e, s⟩ := h2.same (by omega) q1 (h3.trans (sL.trans q3)) (q2.trans (sL'.trans h4))
  refine ⟨g', fun K => by rw [h1 K, e], fun z hz => s z (by omega)⟩

end
end Go.Proofs.Ythecjjnieojjoaa.H
