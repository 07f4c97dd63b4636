import Derived.Test.YtoeailachidcdaaGreatDoorHgUse
namespace Go.Proofs.YtoeailachidcdaaGreatDoor.Hg
set_option linter.unusedVariables false
set_option linter.unusedSimpArgs false
set_option linter.unusedSectionVars false
open Go Go.RowKit
section
variable {ρ σ τ β : Type}
theorem loop_st {l : Nat → Nat → σ → Option ρ} {n : Nat} (st : Nat → σ) {out : Option ρ} (hs : ∀ m i, i < n → l (m + 1) i (st i) = l m (i + 1) (st (i + 1))) (ho : ∀ m, l (m + 1) n (st n) = out) :
    ∀ (k i m : Nat), i + k = n → k < m → l m i (st i) = out
  | 0, i, m, h, hm => by
    obtain ⟨m, rfl⟩ : ∃ k, m = k + 1 := ⟨m - 1, by omega⟩
    have : i = n := by omega
    subst this
    exact ho m
  | k + 1, i, m, h, hm => by
    obtain ⟨m, rfl⟩ : ∃ k, m = k + 1 := ⟨m - 1, by omega⟩
    rw [hs m i (by omega)]
    exact loop_st st hs ho k (i + 1) m (by omega) (by omega)
def firstN (f : Nat → Option β) : Nat → Nat → Option β
  | _, 0 => none
  | i, k + 1 => match f i with
    | some x => some x
    | none => firstN f (i + 1) k
def optK (o : Option β) (X : β → Option ρ) (out : Option ρ) : Option ρ := match o with | some x => X x | none => out
theorem optK_some {x : β} {X : β → Option ρ} {out : Option ρ} : optK (some x) X out = X x := rfl
theorem optK_none {X : β → Option ρ} {out : Option ρ} : optK none X out = out := rfl
theorem loop_find {l : Nat → Nat → Option ρ} {n : Nat} (bad : Nat → Option β) (X : β → Option ρ) {out : Option ρ} (hs : ∀ m i, i < n → l (m + 1) i = optK (bad i) X (l m (i + 1))) (ho : ∀ m, l (m + 1) n = out) :
    ∀ (k i m : Nat), i + k = n → k < m → l m i = optK (firstN bad i k) X out
  | 0, i, m, h, hm => by
    obtain ⟨m, rfl⟩ : ∃ k, m = k + 1 := ⟨m - 1, by omega⟩
    have : i = n := by omega
    subst this
    exact ho m
  | k + 1, i, m, h, hm => by
    obtain ⟨m, rfl⟩ : ∃ k, m = k + 1 := ⟨m - 1, by omega⟩
    rw [hs m i (by omega)]
    simp only [firstN]
    cases hb : bad i with
    | some x => rfl
    | none => exact loop_find bad X hs ho k (i + 1) m (by omega) (by omega)
def allN (f : Nat → Bool) : Nat → Nat → Bool
  | _, 0 => true
  | i, k + 1 => f i && allN f (i + 1) k
theorem allN_true {f : Nat → Bool} : ∀ {k i : Nat}, allN f i k = true ↔ ∀ j, i ≤ j → j < i + k → f j = true
  | 0, i => by simp [allN]; intro j h1 h2; omega
  | k + 1, i => by
    simp only [allN, Bool.and_eq_true, allN_true (k := k) (i := i + 1)]
    constructor
    · rintro ⟨h1, h2⟩ j h3 h4
      by_cases hj : j = i
      · subst hj; exact h1
      · exact h2 j (by omega) (by omega)
    · intro h
      exact ⟨h i (by omega) (by omega), fun j h1 h2 => h j (by omega) (by omega)⟩
theorem allN_congr {f g : Nat → Bool} : ∀ {k i : Nat}, (∀ j, i ≤ j → j < i + k → f j = g j) → allN f i k = allN g i k
  | 0, _, _ => rfl
  | k + 1, i, h => by
    simp only [allN]
    rw [h i (by omega) (by omega), allN_congr (k := k) (i := i + 1) fun j h1 h2 => h j (by omega) (by omega)]
theorem firstN_congr {f g : Nat → Option β} : ∀ {k i : Nat}, (∀ j, i ≤ j → j < i + k → f j = g j) → firstN f i k = firstN g i k
  | 0, _, _ => rfl
  | k + 1, i, h => by
    simp only [firstN]
    rw [h i (by omega) (by omega), firstN_congr (k := k) (i := i + 1) fun j h1 h2 => h j (by omega) (by omega)]
theorem loop_all {l : Nat → Nat → Option ρ} {n : Nat} (good : Nat → Bool) {no out : Option ρ} (hs : ∀ m i, i < n → l (m + 1) i = if good i = true then l m (i + 1) else no) (ho : ∀ m, l (m + 1) n = out) :
    ∀ (k i m : Nat), i + k = n → k < m → l m i = if allN good i k = true then out else no
  | 0, i, m, h, hm => by
    obtain ⟨m, rfl⟩ : ∃ k, m = k + 1 := ⟨m - 1, by omega⟩
    have : i = n := by omega
    subst this
    rw [ho m]; rfl
  | k + 1, i, m, h, hm => by
    obtain ⟨m, rfl⟩ : ∃ k, m = k + 1 := ⟨m - 1, by omega⟩
    rw [hs m i (by omega)]
    by_cases hb : good i = true
    · have e : allN good i (k + 1) = allN good (i + 1) k := by simp [allN, hb]
      rw [if_pos hb, loop_all good hs ho k (i + 1) m (by omega) (by omega), e]
    · have hb' : good i = false := by simpa using hb
      have e : allN good i (k + 1) = false := by simp [allN, hb']
      rw [if_neg hb, e]; rfl
def sumN (f : Nat → Int) : Nat → Int
  | 0 => 0
  | n + 1 => sumN f n + f n
theorem sumN_congr {f g : Nat → Int} : ∀ {n : Nat}, (∀ j, j < n → f j = g j) → sumN f n = sumN g n
  | 0, _ => rfl
  | n + 1, h => by
    simp only [sumN]
    rw [h n (by omega), sumN_congr fun j hj => h j (by omega)]
theorem sumN_emod {p : Int} {f g : Nat → Int} : ∀ {n : Nat}, (∀ j, j < n → f j % p = g j % p) → sumN f n % p = sumN g n % p
  | 0, _ => rfl
  | n + 1, h => by
    simp only [sumN]
    rw [Int.add_emod, h n (by omega), sumN_emod (n := n) fun j hj => h j (by omega), ← Int.add_emod]
theorem sumN_mul {c : Int} {f : Nat → Int} : ∀ {n : Nat}, c * sumN f n = sumN (fun i => c * f i) n
  | 0 => by simp [sumN]
  | n + 1 => by simp only [sumN]; rw [Int.mul_add, sumN_mul]
theorem sumN_add {f g : Nat → Int} : ∀ {n : Nat}, sumN f n + sumN g n = sumN (fun i => f i + g i) n
  | 0 => by simp [sumN]
  | n + 1 => by simp only [sumN]; rw [← sumN_add (n := n)]; omega
theorem sumN_zero : ∀ {n : Nat}, sumN (fun _ => 0) n = 0
  | 0 => rfl
  | n + 1 => by simp only [sumN]; rw [sumN_zero]; rfl
theorem sumN_swap {f : Nat → Nat → Int} {m : Nat} : ∀ {n : Nat}, sumN (fun i => sumN (f i) m) n = sumN (fun j => sumN (fun i => f i j) n) m
  | 0 => by simp only [sumN]; exact sumN_zero.symm
  | n + 1 => by
    simp only [sumN]
    rw [sumN_swap (n := n), sumN_add]
theorem sumN_one {f : Nat → Int} {i : Nat} : ∀ {n : Nat}, i < n → (∀ j, j < n → j ≠ i → f j = 0) → sumN f n = f i
  | 0, h, _ => by omega
  | n + 1, h, hz => by
    simp only [sumN]
    by_cases hi : i = n
    · subst hi
      rw [sumN_congr (g := fun _ => 0) (fun j hj => hz j (by omega) (by omega)), sumN_zero]; omega
    · rw [hz n (by omega) (by omega), sumN_one (n := n) (by omega) fun j hj hne => hz j (by omega) hne]; omega
theorem sumN_bound {f : Nat → Int} {b : Int} : ∀ {n : Nat}, (∀ j, j < n → 0 ≤ f j ∧ f j ≤ b) → 0 ≤ sumN f n ∧ sumN f n ≤ n * b
  | 0, _ => by simp [sumN]
  | n + 1, h => by
    have h1 := sumN_bound (n := n) fun j hj => h j (by omega)
    have h2 := h n (by omega)
    simp only [sumN]
    have e : ((n + 1 : Nat) : Int) * b = n * b + b := by rw [Int.natCast_succ, Int.add_mul, Int.one_mul]
    omega
def addV (p : Int) (v w : Nat → Int) (k : Int) : Nat → Int := fun i => if i < 8 then (v i + k * w i) % p else v i
def accV (p : Int) (n : Nat) (c : Nat → Int) (W : Nat → Nat → Int) : Nat → Int := fun k => if k < 8 then sumN (fun i => c i * W i k) n % p else 0
theorem accV_zero {p : Int} {c : Nat → Int} {W : Nat → Nat → Int} : accV p 0 c W = fun _ => 0 := by
  funext k; unfold accV; simp [sumN]
theorem accV_succ {p : Int} {n : Nat} {c : Nat → Int} {W : Nat → Nat → Int} : accV p (n + 1) c W = addV p (accV p n c W) (W n) (c n) := by
  funext k
  unfold addV accV
  split
  · simp only [sumN]; rw [Int.emod_add_emod]
  · rfl
theorem accV_range {p : Int} (hp : 0 < p) {n : Nat} {c : Nat → Int} {W : Nat → Nat → Int} (k : Nat) : 0 ≤ accV p n c W k ∧ accV p n c W k < p := by
  unfold accV
  split
  · exact ⟨Int.emod_nonneg _ (by omega), Int.emod_lt_of_pos _ hp⟩
  · omega
theorem addV_zero {p : Int} {v w : Nat → Int} (hv : ∀ i, i < 8 → 0 ≤ v i ∧ v i < p) : addV p v w 0 = v := by
  funext i
  unfold addV
  split
  · rename_i hi
    rw [Int.zero_mul, Int.add_zero, Int.emod_eq_of_lt (hv i hi).1 (hv i hi).2]
  · rfl
def keepN (n : Nat) (a : Nat → Int) : Nat → Int := fun i => if i < n then a i else 0
theorem keepN_zero {a : Nat → Int} : keepN 0 a = fun _ => 0 := by funext i; simp [keepN]
theorem keepN_at {n : Nat} {a : Nat → Int} {i : Nat} (h : i < n) : keepN n a i = a i := by simp [keepN, h]
theorem keepN_next {n : Nat} {a : Nat → Int} : upd (keepN n a) n (a n) = keepN (n + 1) a := by
  funext i
  unfold upd keepN
  by_cases h : i = n
  · subst h; simp
  · by_cases h2 : i < n
    · simp [h, h2, show i < n + 1 by omega]
    · simp [h, h2, show ¬ i < n + 1 by omega]
theorem keepN_updN {n m : Nat} {a r : Nat → Int} (hr : ∀ z, z < m → r z = a (n + z)) : updN (keepN n a) n m r = keepN (n + m) a := by
  funext i
  unfold updN keepN
  by_cases h : n ≤ i ∧ i < n + m
  · rw [if_pos h, if_pos h.2, hr _ (by omega)]; congr 1; omega
  · rw [if_neg h]
    by_cases h2 : i < n
    · rw [if_pos h2, if_pos (by omega)]
    · rw [if_neg h2, if_neg (by omega)]
theorem keepN_two {a : Nat → Int} : upd (upd (fun _ => 0) 0 (a 0)) 1 (a 1) = keepN 2 a := by
  rw [show (fun _ => 0 : Nat → Int) = keepN 0 a from keepN_zero.symm, keepN_next, keepN_next]
theorem keepN_520 {a : Nat → Int} : updN (updN (fun _ => 0) 0 8 (keepN 8 fun z => a (0 + z))) 8 512 (keepN 512 fun z => a (8 + z)) = keepN 520 a := by
  rw [show (fun _ => 0 : Nat → Int) = keepN 0 a from keepN_zero.symm, keepN_updN (fun z hz => by simp [keepN, hz]), keepN_updN (fun z hz => by simp [keepN, hz])]
theorem loop_go {l : Nat → Nat → Option ρ} {n : Nat} {out : Option ρ} (hs : ∀ m i, i < n → l (m + 1) i = l m (i + 1)) (ho : ∀ m, l (m + 1) n = out) (k i m : Nat) (h : i + k = n) (hm : k < m) : l m i = out :=
  loop_st (l := fun m i (_ : Unit) => l m i) (fun _ => ()) hs ho k i m h hm
theorem firstN_none {good : Nat → Bool} {f : Nat → β} : ∀ {k i : Nat}, (firstN (fun j => if good j = true then (none : Option β) else some (f j)) i k).isNone = allN good i k
  | 0, _ => rfl
  | k + 1, i => by
    simp only [firstN, allN]
    cases good i
    · simp
    · simp [firstN_none (k := k) (i := i + 1)]
theorem firstN_at {g : Nat → Option β} {x : β} : ∀ {k i : Nat}, firstN g i k = some x → ∃ j, i ≤ j ∧ j < i + k ∧ g j = some x
  | 0, _, h => by simp [firstN] at h
  | k + 1, i, h => by
    simp only [firstN] at h
    cases hg : g i with
    | some y => rw [hg] at h; simp only [Option.some.injEq] at h; subst h; exact ⟨i, by omega, by omega, hg⟩
    | none =>
      rw [hg] at h
      obtain ⟨j, h1, h2, h3⟩ := firstN_at (k := k) (i := i + 1) h
      exact ⟨j, by omega, by omega, h3⟩
theorem loop_at {l : Nat → Int → σ → Option ρ} {n N : Nat} {out : Option ρ} {s0 : σ} (st : Nat → σ) (h0 : s0 = st 0) (hs : ∀ m i : Nat, i < n → l (m + 1) (i : Int) (st i) = l m ((i + 1 : Nat) : Int) (st (i + 1)))
    (ho : ∀ m, l (m + 1) (n : Int) (st n) = out) (hn : n < N) : l N 0 s0 = out := by
  rw [h0]
  exact loop_st (l := fun m i s => l m (i : Int) s) st hs ho n 0 N (by omega) hn
theorem loop_ta {l : Nat → σ → Int → Option ρ} {n N : Nat} {out : Option ρ} {s0 : σ} (st : Nat → σ) (h0 : s0 = st 0) (hs : ∀ m i : Nat, i < n → l (m + 1) (st i) (i : Int) = l m (st (i + 1)) ((i + 1 : Nat) : Int))
    (ho : ∀ m, l (m + 1) (st n) (n : Int) = out) (hn : n < N) : l N s0 0 = out := by
  rw [h0]
  exact loop_st (l := fun m i s => l m s (i : Int)) st hs ho n 0 N (by omega) hn
theorem loop_tta {l : Nat → σ → τ → Int → Option ρ} {n N : Nat} {out : Option ρ} {s0 : σ} {t0 : τ} (st : Nat → σ) (tt : Nat → τ) (h0 : s0 = st 0) (k0 : t0 = tt 0) (hs : ∀ m i : Nat, i < n → l (m + 1) (st i) (tt i) (i : Int) = l m (st (i + 1)) (tt (i + 1)) ((i + 1 : Nat) : Int))
    (ho : ∀ m, l (m + 1) (st n) (tt n) (n : Int) = out) (hn : n < N) : l N s0 t0 0 = out := by
  rw [h0, k0]
  exact loop_st (l := fun m i (s : σ × τ) => l m s.1 s.2 (i : Int)) (fun i => (st i, tt i)) hs ho n 0 N (by omega) hn
theorem loop_att {l : Nat → Int → σ → τ → Option ρ} {n N : Nat} {out : Option ρ} {s0 : σ} {t0 : τ} (st : Nat → σ) (tt : Nat → τ) (h0 : s0 = st 0) (k0 : t0 = tt 0) (hs : ∀ m i : Nat, i < n → l (m + 1) (i : Int) (st i) (tt i) = l m ((i + 1 : Nat) : Int) (st (i + 1)) (tt (i + 1)))
    (ho : ∀ m, l (m + 1) (n : Int) (st n) (tt n) = out) (hn : n < N) : l N 0 s0 t0 = out := by
  rw [h0, k0]
  exact loop_st (l := fun m i (s : σ × τ) => l m (i : Int) s.1 s.2) (fun i => (st i, tt i)) hs ho n 0 N (by omega) hn
theorem loop_tat {l : Nat → σ → Int → τ → Option ρ} {n N : Nat} {out : Option ρ} {s0 : σ} {t0 : τ} (st : Nat → σ) (tt : Nat → τ) (h0 : s0 = st 0) (k0 : t0 = tt 0) (hs : ∀ m i : Nat, i < n → l (m + 1) (st i) (i : Int) (tt i) = l m (st (i + 1)) ((i + 1 : Nat) : Int) (tt (i + 1)))
    (ho : ∀ m, l (m + 1) (st n) (n : Int) (tt n) = out) (hn : n < N) : l N s0 0 t0 = out := by
  rw [h0, k0]
  exact loop_st (l := fun m i (s : σ × τ) => l m s.1 (i : Int) s.2) (fun i => (st i, tt i)) hs ho n 0 N (by omega) hn
theorem all_at {l : Nat → Int → Option ρ} {n N : Nat} {no out : Option ρ} (good : Nat → Bool) (hs : ∀ m i : Nat, i < n → l (m + 1) (i : Int) = if good i = true then l m ((i + 1 : Nat) : Int) else no) (ho : ∀ m, l (m + 1) (n : Int) = out) (hn : n < N) :
    l N 0 = if allN good 0 n = true then out else no :=
  loop_all (l := fun m i => l m (i : Int)) good hs ho n 0 N (by omega) hn
theorem find_at {l : Nat → Int → Option ρ} {n N : Nat} {out : Option ρ} (bad : Nat → Option β) (X : β → Option ρ) (hs : ∀ m i : Nat, i < n → l (m + 1) (i : Int) = optK (bad i) X (l m ((i + 1 : Nat) : Int))) (ho : ∀ m, l (m + 1) (n : Int) = out) (hn : n < N) :
    l N 0 = optK (firstN bad 0 n) X out :=
  loop_find (l := fun m i => l m (i : Int)) bad X hs ho n 0 N (by omega) hn
theorem go_at {l : Nat → Int → Option ρ} {n N : Nat} {out : Option ρ} (hs : ∀ m i : Nat, i < n → l (m + 1) (i : Int) = l m ((i + 1 : Nat) : Int)) (ho : ∀ m, l (m + 1) (n : Int) = out) (hn : n < N) : l N 0 = out :=
  loop_go (l := fun m i => l m (i : Int)) hs ho n 0 N (by omega) hn
theorem split3 {x : Nat} (h : x < 512) : ∃ a b c, a < 8 ∧ b < 8 ∧ c < 8 ∧ x = a * 64 + b * 8 + c := ⟨x / 64, x / 8 % 8, x % 8, by omega, by omega, by omega, by omega⟩
theorem pl_mod8 {a b c : Nat} (hc : c < 8) : (a * 64 + b * 8 + c) % 8 = c := by omega
theorem pl_div8 {a b c : Nat} (hc : c < 8) : (a * 64 + b * 8 + c) / 8 = a * 8 + b := by omega
theorem pl_mod64 {a b c : Nat} (hb : b < 8) (hc : c < 8) : (a * 64 + b * 8 + c) % 64 = b * 8 + c := by omega
theorem pl_div64 {a b c : Nat} (hb : b < 8) (hc : c < 8) : (a * 64 + b * 8 + c) / 64 = a := by omega
theorem wrap64_id {x : Int} (h : -9223372036854775808 ≤ x) (h' : x ≤ 9223372036854775807) : IntKind.i64.wrap x = x := by
  simp only [IntKind.wrap, IntKind.bits, IntKind.signed]
  first | omega | (simp; omega)
theorem wrap8_id {x : Int} (h : 0 ≤ x) (h' : x ≤ 255) : IntKind.u8.wrap x = x := by
  simp only [IntKind.wrap, IntKind.bits, IntKind.signed]
  first | omega | (simp; omega)
theorem tmod_emod {x p : Int} : Int.tmod x p % p = x % p := by
  rw [Int.tmod_def]
  rw [Int.sub_emod, Int.mul_emod_right, Int.sub_zero, Int.emod_emod]
theorem tmod_lt {x p : Int} (hp : 0 < p) : Int.tmod x p < p := Int.tmod_lt_of_pos x hp
theorem tmod_gt {x p : Int} (hp : 0 < p) : -p < Int.tmod x p := by
  have h1 := Int.tmod_lt_of_pos (-x) hp
  rw [Int.neg_tmod] at h1
  omega
end
end Go.Proofs.YtoeailachidcdaaGreatDoor.Hg
