import Derived.Test.YtfdkkcaolajhoaaDoorHP0
import Derived.Test.YtfdkkcaolajhoaaDoorShelf
namespace Go.Proofs.YtfdkkcaolajhoaaDoor.H
set_option linter.unusedVariables false
set_option linter.unusedSimpArgs false
open Go Go.RowKit Go.Proofs.YtfdkkcaolajhoaaDoor.Hy
theorem strconv_Itoa.con {ρ : Type} (N : Nat) (K : AV → Heap → Option ρ) (i0 : Int) {r : ρ} (h : strconv_Itoa N (fun d0 => K (.str d0) []) i0 = some r) : ∃ v sh', K v sh' = some r ∧ FnOk Tryd.prog 23 [.int .i64 i0] [] v sh' := by
  unfold strconv_Itoa at h
  split at h
  · rename_i hi
    refine ⟨_, _, h, con_ok fun β w ys hr ha => ?_⟩
    match ys, ha with
    | [y], ⟨hy, _⟩ =>
      obtain rfl : y = .int .i64 i0 := hy
      have e : i0 = ((i0.toNat : Nat) : Int) := by omega
      have c := Tryd.strconv_Itoa_small i0.toNat (by omega) w
      rw [← e] at c
      exact c.mono fun e w' ⟨he, hw⟩ => ⟨_, he, fun γ => rfl, hw ▸ Below.refl _ _⟩
  · cases h
theorem strings_Join_su.con {ρ : Type} (N : Nat) (K : AV → Heap → Option ρ) (n : Nat) (sep : ByteArray) (q : Nat) (g : Nat → ByteArray) {r : ρ} (h : strings_Join_su N (fun d0 => K (.str d0) [⟨false, .flat q (.strs g)⟩]) n sep q g = some r) :
    ∃ v sh', K v sh' = some r ∧ FnOk Tryd.prog 24 [.slice true 0 0 n .unk 1, .str sep] [⟨false, .flat q (.strs g)⟩] v sh' := by
  unfold strings_Join_su at h
  split at h
  · rename_i hs
    obtain ⟨hn, hs⟩ := hs
    refine ⟨_, _, h, con_ok fun β w ys hr ha => ?_⟩
    match ys, ha with
    | [y, z], ⟨hy, hz, _⟩ =>
      obtain rfl : z = .string sep := hz
      obtain ⟨L, ao, c, B, X, hL, rfl, hc, _, hao, hsp⟩ := hy
      obtain ⟨L', hL', hb⟩ := hr.blk 0 _ rfl (by simp)
      rw [hL] at hL'
      cases hL'
      have hsp : L.span 0 (n * 1) B X := hsp
      by_cases h0 : n = 0
      · subst h0
        exact (Tryd.strings_Join_none ao c sep w).mono fun e w' ⟨he, hw⟩ => ⟨_, he, fun γ => rfl, hw ▸ Below.refl _ _⟩
      · obtain rfl : ao = some ⟨B, X, none⟩ := hao.resolve_left (by omega)
        have en : ((List.range n).map g).length = n := by simp
        have at' : ∀ j, j < n → w.cell? ⟨B, X + j, none⟩ = some (.string (g j)) := fun j hj => hb.cont j B (X + j) (by have := hsp j (by omega); rwa [Nat.zero_add] at this)
        have cells : ∀ (j : Nat) x, ((List.range n).map g)[j]? = some x → w.cell? ⟨B, X + j, none⟩ = some (.string x) := fun j x hx => by
          obtain ⟨hj, e⟩ := List.getElem?_eq_some_iff.1 hx
          rw [en] at hj
          rw [at' j hj, ← e]
          simp
        have hbk : B < w.heap.size := World.block_lt_of_cell? w ⟨B, X, none⟩ (at' 0 (by omega))
        have cc := Tryd.strings_Join B X c ((List.range n).map g) sep w cells hbk (by rw [en]; exact hn) (by rw [en]; exact hc) hs
        rw [en] at cc
        exact cc.mono fun e w' ⟨he, hw⟩ => ⟨_, he, fun γ => rfl, hw⟩
  · cases h
end Go.Proofs.YtfdkkcaolajhoaaDoor.H
