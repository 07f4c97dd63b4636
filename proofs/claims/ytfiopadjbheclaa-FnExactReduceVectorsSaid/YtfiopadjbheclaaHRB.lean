/- The room behind a copy; loops that begin anywhere. -/
import Derived.Test.YtfiopadjbheclaaHP0
import Derived.Test.YtfiopadjbheclaaHyMath
import Derived.KernelRfl
namespace Go.Proofs.Ytfiopadjbheclaa.H
set_option linter.unusedVariables false
set_option linter.unusedSimpArgs false
open Go Go.RowKit Go.Proofs.Ytfiopadjbheclaa.Hy
set_option linter.unusedVariables false
set_option linter.unusedSimpArgs false
set_option maxRecDepth 100000

section
variable {ρ σ : Type}

theorem nxB {i : Nat} (h : i < 1000000000000) : IntKind.i64.wrap ((i : Int) + 1) = ((i + 1 : Nat) : Int) := by
  rw [wrap64_id (by omega) (by omega)]; omega
theorem addB {i j : Nat} (h : i < 1000000000000) (h' : j < 1000000000000) : IntKind.i64.wrap ((i : Int) + (j : Int)) = ((i + j : Nat) : Int) := by
  rw [wrap64_id (by omega) (by omega)]; omega
/-- a loop that begins at a -/
theorem loop_from {l : Nat → Int → σ → Option ρ} {a n N : Nat} {out : Option ρ} {s0 : σ} (st : Nat → σ) (h0 : s0 = st a) (hs : ∀ m i : Nat, a ≤ i → i < n → l (m + 1) (i : Int) (st i) = l m ((i + 1 : Nat) : Int) (st (i + 1)))
    (ho : ∀ m, l (m + 1) (n : Int) (st n) = out) (ha : a ≤ n) (hn : n < N) : l N (a : Int) s0 = out := by
  rw [h0]
  have := loop_st (l := fun m i s => l m ((a + i : Nat) : Int) s) (n := n - a) (fun i => st (a + i)) (out := out) (fun m i hi => hs m (a + i) (by omega) (by omega)) (fun m => by
    have e : a + (n - a) = n := by omega
    simp only [e]; exact ho m) (n - a) 0 N (by omega) (by omega)
  simpa using this

/-- the room behind a list of n -/
def rb (n : Nat) : Nat := if n % 6 = 5 then 0 else if n % 3 = 0 then 1 else n
def cpR (n : Nat) : Nat := n + rb n

theorem rb_le {n : Nat} : rb n ≤ n + 1 := by unfold rb; split <;> (try split) <;> omega
theorem cpR_le {n : Nat} : cpR n ≤ 2 * n + 1 := by have := rb_le (n := n); unfold cpR; omega
theorem le_cpR {n : Nat} : n ≤ cpR n := by unfold cpR; omega

theorem room_eq (K : Int → Option ρ) (n : Nat) : laws_roomBehind 3000000 K (n : Int) = K ((rb n : Nat) : Int) := by
  have e1 : Int.tmod (n : Int) 6 = ((n % 6 : Nat) : Int) := rfl
  have e2 : Int.tmod (n : Int) 3 = ((n % 3 : Nat) : Int) := rfl
  unfold laws_roomBehind rb
  rw [e1, e2]
  by_cases h : n % 6 = 5
  · simp [h]
  · have h' : ¬ ((n % 6 : Nat) : Int) = 5 := by omega
    by_cases g : n % 3 = 0
    · simp only [h, g, if_false, beq_iff_eq, h', if_true, Int.ofNat_zero, Int.natCast_zero, Int.natCast_one, BEq.rfl]
    · have g' : ¬ ((n % 3 : Nat) : Int) = 0 := by omega
      simp only [h, g, if_false, beq_iff_eq, h', g']

end
end Go.Proofs.Ytfiopadjbheclaa.H
