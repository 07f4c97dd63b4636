/- OrdersIn: in a group table the powers of each come to 0. -/
import Derived.Test.YtiifnnokpjbapaaRRHTA
import Derived.Test.YtiifnnokpjbapaaRRHTM
namespace Go.Proofs.YtiifnnokpjbapaaRR.H
set_option linter.unusedVariables false
set_option linter.unusedSimpArgs false
open Go Go.RowKit Go.Proofs.YtiifnnokpjbapaaRR.Hy
set_option linter.unusedVariables false
set_option linter.unusedSimpArgs false
set_option maxRecDepth 100000
section
variable {ρ : Type} {m : Nat} {of ln : Nat → Nat} {g : Nat → Int}

/-- of more numbers than there are places two are alike -/
theorem two_alike : ∀ (m : Nat) (f : Nat → Nat), (∀ k, k ≤ m → f k < m) → ∃ a b, a < b ∧ b ≤ m ∧ f a = f b
  | 0, f, h => by have := h 0 (by omega); omega
  | m + 1, f, h => by
    by_cases hc : ∃ a, a ≤ m ∧ f a = f (m + 1)
    · obtain ⟨a, h1, h2⟩ := hc
      exact ⟨a, m + 1, by omega, by omega, h2⟩
    · have hc' : ∀ a, a ≤ m → f a ≠ f (m + 1) := fun a h1 h2 => hc ⟨a, h1, h2⟩
      have hlast := h (m + 1) (by omega)
      obtain ⟨a, b, h1, h2, h3⟩ := two_alike m (fun k => if f k > f (m + 1) then f k - 1 else f k) (fun k hk => by
        have h1 := h k (by omega)
        have h2 := hc' k hk
        split <;> omega)
      refine ⟨a, b, h1, by omega, ?_⟩
      have ha := hc' a (by omega)
      have hb := hc' b (by omega)
      split at h3 <;> split at h3 <;> omega

/-- what T makes of x and i, over and over -/
def itT (T : Nat → Nat → Int) (i : Nat) : Nat → Int → Int
  | 0, x => x
  | j + 1, x => itT T i j (T x.toNat i)
/-- how often till it is 0 -/
def cntT (T : Nat → Nat → Int) (i : Nat) : Nat → Int → Nat
  | 0, _ => 0
  | n + 1, x => if x = 0 then 0 else 1 + cntT T i n (T x.toNat i)

theorem itT_out {T : Nat → Nat → Int} {i : Nat} : ∀ {j : Nat} {x : Int}, itT T i (j + 1) x = T (itT T i j x).toNat i
  | 0, _ => rfl
  | j + 1, x => by
    show itT T i (j + 1) (T x.toNat i) = _
    rw [itT_out]; rfl

/-- a group's laws -/
structure Grp (m : Nat) (T : Nat → Nat → Int) : Prop where
  ent : ∀ i j, i < m → j < m → 0 ≤ T i j ∧ T i j < m
  one : ∀ i, i < m → T 0 i = i
  one' : ∀ i, i < m → T i 0 = i
  asc : ∀ i j k, i < m → j < m → k < m → T (T i j).toNat k = T i (T j k).toNat
  inv : ∀ i, i < m → ∃ j, j < m ∧ T i j = 0 ∧ T j i = 0

theorem grp_of {L : Nat → Nat} {T : Nat → Nat → Int} (h : gtB m L T = true) : Grp m T := by
  have R := gt_rows h
  unfold gtB grpB assocB at h
  simp only [Bool.and_eq_true, allN_true, decide_eq_true_eq, anyR_true] at h
  have h2 := h.2
  refine ⟨R.ent, fun i hi => (h2 i (by omega) (by omega)).1.1, fun i hi => (h2 i (by omega) (by omega)).1.2, fun i j k hi hj hk => (h2 i (by omega) (by omega)).2.1 j (by omega) (by omega) k (by omega) (by omega), fun i hi => ?_⟩
  obtain ⟨j, hj, hb⟩ := (h2 i (by omega) (by omega)).2.2
  unfold invB at hb
  simp only [Bool.and_eq_true, decide_eq_true_eq] at hb
  exact ⟨j, hj, hb.1, hb.2⟩

theorem Grp.cancel {T : Nat → Nat → Int} (G : Grp m T) {x y i : Nat} (hx : x < m) (hy : y < m) (hi : i < m) (h : T x i = T y i) : x = y := by
  obtain ⟨j, hj, h1, _⟩ := G.inv i hi
  have a := G.asc x i j hx hi hj
  have b := G.asc y i j hy hi hj
  rw [h1] at a b
  rw [h] at a
  have h0 : (0 : Int).toNat = 0 := rfl
  rw [h0, G.one' x hx] at a
  rw [h0, G.one' y hy] at b
  omega

theorem Grp.it_in {T : Nat → Nat → Int} (G : Grp m T) {i : Nat} (hi : i < m) : ∀ {j : Nat} {x : Int}, 0 ≤ x → x < m → 0 ≤ itT T i j x ∧ itT T i j x < m
  | 0, x, h1, h2 => ⟨h1, h2⟩
  | j + 1, x, h1, h2 => by
    have := G.ent x.toNat i (by omega) hi
    exact G.it_in hi (j := j) this.1 this.2

theorem Grp.back {T : Nat → Nat → Int} (G : Grp m T) {i : Nat} (hi : i < m) : ∀ {a b : Nat}, a ≤ b → itT T i a 0 = itT T i b 0 → itT T i (b - a) 0 = 0
  | 0, b, _, h => by rw [Nat.sub_zero, ← h]; rfl
  | a + 1, b, hab, h => by
    obtain ⟨b, rfl⟩ : ∃ k, b = k + 1 := ⟨b - 1, by omega⟩
    rw [itT_out, itT_out] at h
    have h1 := G.it_in hi (j := a) (x := 0) (by omega) (by omega)
    have h2 := G.it_in hi (j := b) (x := 0) (by omega) (by omega)
    have h3 := G.cancel (by omega) (by omega) hi h
    have e : b + 1 - (a + 1) = b - a := by omega
    rw [e]
    exact G.back hi (by omega) (by omega)

/-- the powers of i come to 0 -/
theorem Grp.ends {T : Nat → Nat → Int} (G : Grp m T) {i : Nat} (hi : i < m) : ∃ j, j < m ∧ itT T i j (i : Int) = 0 := by
  obtain ⟨a, b, h1, h2, h3⟩ := two_alike m (fun k => (itT T i k 0).toNat) (fun k hk => by
    have := G.it_in hi (j := k) (x := 0) (by omega) (by omega)
    omega)
  have ha := G.it_in hi (j := a) (x := 0) (by omega) (by omega)
  have hb := G.it_in hi (j := b) (x := 0) (by omega) (by omega)
  have h4 := G.back hi (a := a) (b := b) (by omega) (by omega)
  refine ⟨b - a - 1, by omega, ?_⟩
  have e : b - a = (b - a - 1) + 1 := by omega
  rw [e] at h4
  have h5 : itT T i (b - a - 1 + 1) 0 = itT T i (b - a - 1) (T (0 : Int).toNat i) := rfl
  rw [h5, show (0 : Int).toNat = 0 from rfl, G.one i hi] at h4
  exact h4

/-- a loop that goes on till it is 0 -/
theorem whileT {T : Nat → Nat → Int} (G : Grp m T) {l : Nat → Int → Int → Option ρ} {out : Int → Option ρ} {i : Nat} (hi : i < m) (hm : m ≤ 8)
    (hs : ∀ (q k : Nat) (x : Int), 0 ≤ x → x < m → k ≤ 100 → l (q + 1) (k : Int) x = if x = 0 then out (k : Int) else l q ((k + 1 : Nat) : Int) (T x.toNat i)) :
    ∀ (n q k : Nat) (x : Int), n < q → k + n ≤ 100 → 0 ≤ x → x < m → (∃ j, j ≤ n ∧ itT T i j x = 0) → l q (k : Int) x = out ((k + cntT T i (n + 1) x : Nat) : Int)
  | n, q, k, x, hq, hk, h0, h1, ⟨j, hj, hz⟩ => by
    obtain ⟨q, rfl⟩ : ∃ k, q = k + 1 := ⟨q - 1, by omega⟩
    rw [hs q k x h0 h1 (by omega)]
    unfold cntT
    by_cases hx : x = 0
    · rw [if_pos hx, if_pos hx]; rfl
    · rw [if_neg hx, if_neg hx]
      cases n with
      | zero =>
        have : j = 0 := by omega
        subst this
        exact absurd hz hx
      | succ n =>
        have hT := G.ent x.toNat i (by omega) hi
        cases j with
        | zero => exact absurd hz hx
        | succ j =>
          rw [whileT G hi hm hs n q (k + 1) (T x.toNat i) (by omega) (by omega) hT.1 hT.2 ⟨j, by omega, hz⟩]
          rw [Nat.add_assoc]

/-- the order of i -/
def ordT (m : Nat) (T : Nat → Nat → Int) (i : Nat) : Int := ((1 + cntT T i (m + 1) (i : Int) : Nat) : Int)
def ordG (m : Nat) (T : Nat → Nat → Int) : Nat → Nat → Int
  | 0 => fun _ => 0
  | i + 1 => joinN i (ordG m T i) (upd (fun _ => 0) 0 (ordT m T i))

theorem spec_ord (K : Nat → Int → (Nat → Int) → Option ρ) {a b c : Nat} {cp : Nat → Nat} (hm : m ≤ 1000000) (hl : ∀ i, i < m → ln i ≤ 1000000) : spec_OrdersIn_sh 3000000 K m a b c of ln cp g = if gtB m ln (fun i j => g (of i + j)) = true then K m 0 (ordG m (fun i j => g (of i + j)) m) else K 0 1 (fun _ => 0) := by
  unfold spec_OrdersIn_sh spec_OrdersIn_sh.s
  simp only [offN_zero, spec_group _ hm hl, swB]
  by_cases h : gtB m ln (fun i j => g (of i + j)) = true
  · have R := gt_rows h
    have G := grp_of h
    have h8 := R.le
    simp only [h, if_true]
    have main := loop_st (l := fun N (i : Nat) (s : Nat × Int × (Nat → Int)) => spec_OrdersIn_sh.l0 3000000 K m of ln g (fun ov15 ov16 => spec_OrdersIn_sh.a0_0 3000000 K ov15 ov16) N s.1 s.2.1 s.2.2) (n := m) (out := K m 0 (ordG m (fun i j => g (of i + j)) m)) (fun i => (i, (i : Int), ordG m (fun i j => g (of i + j)) i)) (fun q i hi => ?_) (fun q => ?_) m 0 3000000 (by omega) (by omega)
    · simpa [ordG] using main
    · simp only [spec_OrdersIn_sh.l0, spec_OrdersIn_sh.b0]
      have h1 : (i : Int) < (m : Int) := by omega
      simp only [h1, decide_true, if_true]
      obtain ⟨j, hj, hz⟩ := G.ends hi
      have W := whileT G (l := fun N k x => spec_OrdersIn_sh.l1 3000000 K m of ln g (i : Int) (fun ov14 => spec_OrdersIn_sh.a1_0 3000000 K (spec_OrdersIn_sh.l0 3000000 K m of ln g (fun ov15 ov16 => spec_OrdersIn_sh.a0_0 3000000 K ov15 ov16) q) (fun ov15 ov16 => spec_OrdersIn_sh.a0_0 3000000 K ov15 ov16) i (i : Int) (ordG m (fun i j => g (of i + j)) i) ov14) N k x)
        (out := fun ov14 => spec_OrdersIn_sh.a1_0 3000000 K (spec_OrdersIn_sh.l0 3000000 K m of ln g (fun ov15 ov16 => spec_OrdersIn_sh.a0_0 3000000 K ov15 ov16) q) (fun ov15 ov16 => spec_OrdersIn_sh.a0_0 3000000 K ov15 ov16) i (i : Int) (ordG m (fun i j => g (of i + j)) i) ov14) hi h8 (fun q' k x hx0 hx1 hk => ?_) m 3000000 1 (i : Int) (by omega) (by omega) (by omega) (by omega) ⟨j, by omega, hz⟩
      · refine Eq.trans W ?_
        have hb : (i + 1) * 8 ≤ 140737488355328 := by omega
        simp only [spec_OrdersIn_sh.a1_0, hb, if_true, Nat.mul_one, nxB (show i < 1000000000000 by omega)]
        rfl
      · simp only [spec_OrdersIn_sh.l1, spec_OrdersIn_sh.b1]
        have k2 : (0 : Int) ≤ x ∧ x < (m : Int) := ⟨hx0, hx1⟩
        have k3 : (0 : Int) ≤ i ∧ (i : Int) < (m : Int) := by omega
        by_cases hx : x = 0
        · simp [hx]
        · have hx' : (x != 0) = true := by simpa using hx
          simp only [hx', hx, k2, k3, if_true, if_false, and_self, Int.toNat_natCast, Nat.zero_add, Nat.mul_one, R.len _ (show x.toNat < m by omega), nxB (show k < 1000000000000 by omega)]
    · simp only [spec_OrdersIn_sh.l0, spec_OrdersIn_sh.b0, Int.lt_irrefl, decide_false, Bool.false_eq_true, if_false, spec_OrdersIn_sh.a0_0]
  · have h' : gtB m ln (fun i j => g (of i + j)) = false := by simpa using h
    simp only [h', Bool.false_eq_true, if_false]

theorem impl_ord (K : Nat → Int → (Nat → Int) → Option ρ) {a b c : Nat} {cp : Nat → Nat} (hm : m ≤ 1000000) (hl : ∀ i, i < m → ln i ≤ 1000000) : impl_OrdersIn_sh 3000000 K m a b c of ln cp g = if gtB m ln (fun i j => g (of i + j)) = true then K m 0 (ordG m (fun i j => g (of i + j)) m) else K 0 1 (fun _ => 0) := by
  unfold impl_OrdersIn_sh impl_OrdersIn_sh.s
  simp only [offN_zero, impl_group _ hm hl, swB]
  by_cases h : gtB m ln (fun i j => g (of i + j)) = true
  · have R := gt_rows h
    have G := grp_of h
    have h8 := R.le
    simp only [h, if_true]
    have main := loop_st (l := fun N (i : Nat) (s : Nat × Int × (Nat → Int)) => impl_OrdersIn_sh.l0 3000000 K m of ln g (fun ov15 ov16 => impl_OrdersIn_sh.a0_0 3000000 K ov15 ov16) N s.1 s.2.1 s.2.2) (n := m) (out := K m 0 (ordG m (fun i j => g (of i + j)) m)) (fun i => (i, (i : Int), ordG m (fun i j => g (of i + j)) i)) (fun q i hi => ?_) (fun q => ?_) m 0 3000000 (by omega) (by omega)
    · simpa [ordG] using main
    · simp only [impl_OrdersIn_sh.l0, impl_OrdersIn_sh.b0]
      have h1 : (i : Int) < (m : Int) := by omega
      simp only [h1, decide_true, if_true]
      obtain ⟨j, hj, hz⟩ := G.ends hi
      have W := whileT G (l := fun N k x => impl_OrdersIn_sh.l1 3000000 K m of ln g (i : Int) (fun ov14 => impl_OrdersIn_sh.a1_0 3000000 K (impl_OrdersIn_sh.l0 3000000 K m of ln g (fun ov15 ov16 => impl_OrdersIn_sh.a0_0 3000000 K ov15 ov16) q) (fun ov15 ov16 => impl_OrdersIn_sh.a0_0 3000000 K ov15 ov16) i (i : Int) (ordG m (fun i j => g (of i + j)) i) ov14) N k x)
        (out := fun ov14 => impl_OrdersIn_sh.a1_0 3000000 K (impl_OrdersIn_sh.l0 3000000 K m of ln g (fun ov15 ov16 => impl_OrdersIn_sh.a0_0 3000000 K ov15 ov16) q) (fun ov15 ov16 => impl_OrdersIn_sh.a0_0 3000000 K ov15 ov16) i (i : Int) (ordG m (fun i j => g (of i + j)) i) ov14) hi h8 (fun q' k x hx0 hx1 hk => ?_) m 3000000 1 (i : Int) (by omega) (by omega) (by omega) (by omega) ⟨j, by omega, hz⟩
      · refine Eq.trans W ?_
        have hb : (i + 1) * 8 ≤ 140737488355328 := by omega
        simp only [impl_OrdersIn_sh.a1_0, hb, if_true, Nat.mul_one, nxB (show i < 1000000000000 by omega)]
        rfl
      · simp only [impl_OrdersIn_sh.l1, impl_OrdersIn_sh.b1]
        have k2 : (0 : Int) ≤ x ∧ x < (m : Int) := ⟨hx0, hx1⟩
        have k3 : (0 : Int) ≤ i ∧ (i : Int) < (m : Int) := by omega
        by_cases hx : x = 0
        · simp [hx]
        · have hx' : (x != 0) = true := by simpa using hx
          simp only [hx', hx, k2, k3, if_true, if_false, and_self, Int.toNat_natCast, Nat.zero_add, Nat.mul_one, R.len _ (show x.toNat < m by omega), nxB (show k < 1000000000000 by omega)]
    · simp only [impl_OrdersIn_sh.l0, impl_OrdersIn_sh.b0, Int.lt_irrefl, decide_false, Bool.false_eq_true, if_false, impl_OrdersIn_sh.a0_0]
  · have h' : gtB m ln (fun i j => g (of i + j)) = false := by simpa using h
    simp only [h', Bool.false_eq_true, if_false]

theorem cnt_congr {T T' : Nat → Nat → Int} (G : Grp m T') (e : ∀ i j, i < m → j < m → T i j = T' i j) {i : Nat} (hi : i < m) : ∀ {n : Nat} {x : Int}, 0 ≤ x → x < m → cntT T i n x = cntT T' i n x
  | 0, _, _, _ => rfl
  | n + 1, x, h0, h1 => by
    have hT := G.ent x.toNat i (by omega) hi
    simp only [cntT]
    rw [e _ _ (show x.toNat < m by omega) hi, cnt_congr G e hi (n := n) hT.1 hT.2]

theorem ordG_congr {T T' : Nat → Nat → Int} (G : Grp m T') (e : ∀ i j, i < m → j < m → T i j = T' i j) : ∀ {n : Nat}, n ≤ m → ordG m T n = ordG m T' n
  | 0, _ => rfl
  | n + 1, h => by
    simp only [ordG]
    rw [ordG_congr G e (n := n) (by omega)]
    unfold ordT
    rw [cnt_congr G e (by omega) (by omega) (by omega)]

theorem ord_copy {bare : Bool} (h : gtB m ln (fun i j => g (of i + j)) = true) : ordG m (fun i j => (ts bare m of ln g).g ((ts bare m of ln g).o i + j)) m = ordG m (fun i j => g (of i + j)) m :=
  ordG_congr (grp_of h) (fun i j hi hj => ts_g hi (by rw [(gt_rows h).len i hi]; exact hj)) (Nat.le_refl m)

end
end Go.Proofs.YtiifnnokpjbapaaRR.H
