import Derived.Test.YtcdogefmbenplaaDoorHP0
import Derived.Test.YtcdogefmbenplaaDoorShelf
import Derived.KernelRfl
namespace Go.Proofs.YtcdogefmbenplaaDoor.H
set_option linter.unusedVariables false
set_option linter.unusedSimpArgs false
set_option linter.unusedSectionVars false
open Go Go.RowKit Go.Proofs.YtcdogefmbenplaaDoor.Hg
set_option maxRecDepth 100000
theorem gnum : Tryd.prog.globalNamed "strings.asciiSpace" = some 0 := by kernel_rfl
def tabV : Array Value := (Lib.asciiSpaceTab.map fun z => Value.int .u8 z).toArray
theorem tab0 : tabV[0]? = some (.int .u8 0) := by kernel_rfl
theorem tab_cells {w w' : World} (hc : ∀ a : Addr, a.block < 1 → w'.cell? a = w.cell? a) (h : Lib.TabIs Tryd.prog w "strings.asciiSpace" .u8 Lib.asciiSpaceTab) : Lib.TabIs Tryd.prog w' "strings.asciiSpace" .u8 Lib.asciiSpaceTab := by
  have h' : w.var? Tryd.prog "strings.asciiSpace" = some tabV := h
  have e : ∀ i, w'.cell? ⟨0, i, none⟩ = tabV[i]? := fun i => (hc ⟨0, i, none⟩ (by show 0 < 1; omega)).trans (World.var?_cell gnum h' i)
  show w'.var? Tryd.prog "strings.asciiSpace" = some tabV
  unfold World.var?
  rw [gnum, Option.bind_some]
  have e0 := e 0
  rw [tab0] at e0
  unfold World.cell? at e e0
  cases hh : w'.heap[0]? with
  | none => simp only [hh] at e0; cases e0
  | some o =>
    cases o with
    | cells cs t f =>
      show some cs = some tabV
      refine congrArg some (Array.ext_getElem? fun i => ?_)
      have := e i
      simp only [hh] at this
      simpa using this
    | _ => simp only [hh] at e0; cases e0
instance gInst : Glob where
  ok := fun w => Lib.TabIs Tryd.prog w "strings.asciiSpace" .u8 Lib.asciiSpaceTab
  ng := 1
  cells := fun _ _ hc h => tab_cells hc h
  size := fun w h => World.block_lt_of_cell? w ⟨0, 0, none⟩ ((World.var?_cell gnum (show w.var? Tryd.prog "strings.asciiSpace" = some tabV from h) 0).trans tab0)
theorem knF : (Lib.fields knText.data.toList).map (fun l => Value.string ⟨l.toArray⟩) = (List.range 12).map fun i => Value.string (knWords i) := by kernel_rfl
theorem knF12 : (Lib.fields knText.data.toList).length = 12 := by kernel_rfl
theorem knAscii : (knText.data.toList.all fun b => decide (b.toNat < 128)) = true := by kernel_rfl
theorem strings_Fields.con {ρ : Type} (N : Nat) (K : AV → Heap → Option ρ) (s0 : ByteArray) {r : ρ} (h : strings_Fields N (fun d0 d1 d2 => K (.slice true 0 0 d0 (.exact d1) 1) [⟨true, .flat 12 (.strs d2)⟩]) s0 = some r) :
    ∃ v sh', K v sh' = some r ∧ FnOk Tryd.prog 9 [.str s0] [] v sh' := by
  unfold strings_Fields at h
  split at h
  · rename_i hs
    obtain rfl : s0 = knText := strEq_eq hs
    refine ⟨_, _, h, con_new fun β w ys hr ha => ?_⟩
    match ys, ha with
    | [y], ⟨hy, _⟩ =>
      obtain rfl : y = .string knText := hy
      have c := Tryd.strings_Fields_laid knText w (by show 100 < 4294967281; omega) (fun j b hb => by
        have := List.all_eq_true.1 knAscii b (List.mem_of_getElem? hb)
        simpa using this) hr.glob
      rw [knF, knF12] at c
      refine c.mono fun e w' ⟨he, hw⟩ => ?_
      subst hw
      refine ⟨w.heap.size, 0, _, he, Below.alloc (Below.refl _ _) (Nat.le_refl _) _, Nat.le_refl _, fun j hj => ⟨?_, World.frozen?_alloc_at _ _ _ _ rfl⟩, fun γ hγ => ?_⟩
      · rw [Nat.zero_add, World.cell?_alloc_at _ _ _ _ rfl]
        simp only [List.getElem?_toArray, List.getElem?_map]
        rw [List.getElem?_range hj]
        rfl
      · exact ⟨_, some ⟨w.heap.size, 0, none⟩, 12, w.heap.size, 0, hγ, rfl, Nat.le_refl _, fun _ => by simp, .inr rfl, rfl, fun j hj => by rw [Nat.zero_add]; exact Loc.lin_pl.2 ⟨by omega, by simp⟩⟩
  · cases h
def knL : List (List UInt8) := knIn.map (·.data.toList)
def knS : List (List UInt8) := knOut.map (·.data.toList)
theorem knPerm : knL.isPerm knS = true := by kernel_rfl
def ordB : List (List UInt8) → Bool
  | [] => true
  | x :: r => (r.all fun y => decide (x ≤ y)) && ordB r
theorem ordB_ok : ∀ {l : List (List UInt8)}, ordB l = true → l.Pairwise fun a b => decide (a ≤ b) = true
  | [], _ => .nil
  | x :: r, h => by
    simp only [ordB, Bool.and_eq_true, List.all_eq_true] at h
    exact .cons h.1 (ordB_ok h.2)
theorem knOrd : ordB knS = true := by kernel_rfl
theorem knSort : knL.mergeSort (fun x y => decide (x ≤ y)) = knS := by
  refine List.Perm.eq_of_pairwise (le := fun a b => decide (a ≤ b) = true) (fun a b _ _ h1 h2 => ?_) (List.pairwise_mergeSort ?_ ?_ knL) (ordB_ok knOrd) ((List.mergeSort_perm knL _).trans (List.isPerm_iff.1 knPerm))
  · simp only [decide_eq_true_eq] at h1 h2
    exact List.le_antisymm h1 h2
  · intro a b c h1 h2
    simp only [decide_eq_true_eq] at *
    exact List.le_trans h1 h2
  · intro a b
    simp only [Bool.or_eq_true, decide_eq_true_eq]
    exact List.le_total a b
theorem knEnc : (List.range 28).map (fun j => encStr knL.toArray[j]!) = (List.range 28).map fun j => Value.string (knIn.getD j ByteArray.empty) := by kernel_rfl
theorem knEncS : (List.range 28).map (fun j => encStr knS.toArray[j]!) = (List.range 28).map fun j => Value.string (knSorted j) := by kernel_rfl
theorem at28 {α : Type} {f g : Nat → α} (h : (List.range 28).map f = (List.range 28).map g) {j : Nat} (hj : j < 28) : f j = g j := by
  have := congrArg (fun l => l[j]?) h
  simp only [List.getElem?_map] at this
  rw [List.getElem?_range hj] at this
  simpa using this
theorem slices_Sort_sw.con {ρ : Type} (N : Nat) (K : AV → Heap → Option ρ) (n : Nat) (g : Nat → ByteArray) {r : ρ} (h : slices_Sort_sw N (fun d0 => K (.tup []) [⟨true, .flat 0 (.strs d0)⟩]) n g = some r) :
    ∃ v sh', K v sh' = some r ∧ FnOk Tryd.prog 10 [.slice true 0 0 n .whole 1] [⟨true, .flat 0 (.strs g)⟩] v sh' := by
  unfold slices_Sort_sw at h
  split at h
  · rename_i hk
    obtain ⟨rfl, hk⟩ := hk
    have gi : ∀ i, i < 28 → g i = knIn.getD i ByteArray.empty := fun i hi => strEq_eq (List.all_eq_true.1 hk i (List.mem_range.2 hi))
    refine ⟨_, _, h, ⟨Nat.le_refl _, fun i x hx hr => ?_, fun i x hx hr => ?_, fun β w ys hr ha => ?_⟩⟩
    · match i, hx with
      | 0, hx => cases hx; cases hr
      | i + 1, hx => simp at hx
    · match i, hx with
      | 0, hx => exact ⟨_, rfl, rfl⟩
      | i + 1, hx => simp at hx
    match ys, ha with
    | [y], ⟨hy, _⟩ =>
      obtain ⟨L, ao, c, B, X, hL, rfl, hc, hnn, hao, _, rfl⟩ := hy
      obtain rfl : ao = some ⟨B, X, none⟩ := hao.resolve_left (by omega)
      obtain ⟨L', hL', hb⟩ := hr.blk 0 _ rfl (by simp)
      rw [hL] at hL'
      cases hL'
      have pl : ∀ j, j < 28 → (Loc.grow B X (28 * 1) (c * 1)).pl j = some (B, X + j) := fun j hj => Loc.grow_pl.2 ⟨by omega, rfl⟩
      have own : ∀ j, j < 28 → (Loc.grow B X (28 * 1) (c * 1)).own B (X + j) := fun j hj => .inl ⟨j, pl j hj⟩
      have hH : Sort.Holds encStr w B X knL.toArray := fun j hj => by
        have hj : j < 28 := hj
        refine ⟨?_, (hb.cells (by simp) B (X + j) (own j hj)).2 rfl⟩
        rw [hb.cont j B (X + j) (pl j hj), at28 knEnc hj]
        show some (Value.string (g j)) = _
        rw [gi j hj]
      have hblk : B < w.heap.size := hr.blk_lt (b := 0) rfl hL (by simp) (own 0 (by omega))
      have cc := Tryd.slices_Sort_string B X c knL w hH hblk (by show 28 < _; omega)
      rw [knSort] at cc
      refine cc.mono fun e w' ⟨he, nn, os, hw⟩ => ?_
      have hsz : knS.toArray.size = knL.toArray.size := rfl
      have w1c : ∀ a : Addr, ¬ (Loc.grow B X (28 * 1) (c * 1)).own a.block a.off → (Sort.putRow encStr (Sort.ahead w nn) B X knS.toArray).cell? a = w.cell? a := fun a hn => by
        rw [Sort.cell?_putRow_other]
        · rfl
        · have s28 : knS.toArray.size = 28 := rfl
          rw [s28]
          by_cases hB : a.block = B
          · right
            by_cases h1 : a.off < X
            · exact .inl h1
            · refine .inr ?_
              by_cases h2 : X + 28 ≤ a.off
              · exact h2
              · exfalso
                refine hn ?_
                have := own (a.off - X) (by omega)
                rw [show X + (a.off - X) = a.off by omega] at this
                rw [hB]; exact this
          · exact .inl hB
      have w1f : ∀ a : Addr, (Sort.putRow encStr (Sort.ahead w nn) B X knS.toArray).frozen? a = w.frozen? a := fun a => by
        rw [Sort.frozen?_putRow]; rfl
      have P1 := hr.put (b := 0) (x' := ⟨true, .flat 0 (.strs knSorted)⟩) (w' := Sort.putRow encStr (Sort.ahead w nn) B X knS.toArray) rfl rfl hL (by simp) ⟨fun _ B' X' ho => by
          refine ⟨?_, fun _ => by rw [w1f]; exact (hb.cells (by simp) B' X' ho).2 rfl⟩
          obtain ⟨rfl, h1, h2⟩ := (Loc.grow_own (by omega)).1 ho
          by_cases h3 : X' < X + 28
          · have := Sort.cell?_putRow encStr (Sort.ahead w nn) B' X knL.toArray knS.toArray hH hsz (X' - X) (by show _ < 28; omega)
            rw [show X + (X' - X) = X' by omega] at this
            rw [this]; rfl
          · rw [Sort.cell?_putRow_other _ _ _ _ _ _ (.inr (.inr (by show X + 28 ≤ X'; omega)))]
            exact (hb.cells (by simp) B' X' ho).1, fun i B' X' hp => by
          obtain ⟨h1, h2⟩ := Loc.grow_pl.1 hp
          cases h2
          rw [Sort.cell?_putRow encStr (Sort.ahead w nn) B X knL.toArray knS.toArray hH hsz i (by show _ < 28; omega), at28 knEncS (by omega)]
          rfl⟩ w1c w1f
      have hB1 : Below (Sort.putRow encStr (Sort.ahead w nn) B X knS.toArray).heap.size (Sort.putRow encStr (Sort.ahead w nn) B X knS.toArray) w' := by
        subst hw
        exact ⟨rfl, rfl, rfl, by simp, fun k hk => Sort.heap_grow_old _ _ hk⟩
      have mine : ∀ a : Addr, (Loc.grow B X (28 * 1) (c * 1)).own a.block a.off → Mine β [⟨true, .flat 0 (.strs g)⟩] a := fun a ho => ⟨0, _, _, rfl, rfl, by simp, hL, ho⟩
      have size1 : (Sort.putRow encStr (Sort.ahead w nn) B X knS.toArray).heap.size = w.heap.size := by rw [Sort.size_putRow]; rfl
      refine ⟨β, _, he, fun _ _ => rfl, ⟨[], rfl, trivial⟩, P1.below hB1, ⟨?_, ?_, ?_, ?_, fun B' hB' hn => ?_, fun a ha hn => ?_, fun a ha => ?_⟩, fun b x L B' X' hb' hx _ _ _ => ?_⟩
      · rw [hB1.os]; rfl
      · rw [hB1.tape]; rfl
      · rw [hB1.output]; rfl
      · have := hB1.size; omega
      · rw [hB1.block B' (by omega)]
        have hne : B ≠ B' := fun e => hn ⟨B', X + 0, none⟩ rfl (mine _ (by subst e; exact own 0 (by omega)))
        show ((Sort.ahead w nn).heap.modify B _)[B']? = _
        rw [Array.getElem?_modify, if_neg hne]
        rfl
      · rw [hB1.cell (by omega)]
        exact w1c a fun ho => hn (mine a ho)
      · rw [hB1.frozen (by omega)]
        exact w1f a
      · match b, hb', hx with
        | b + 1, _, hx => simp at hx
  · cases h
end Go.Proofs.YtcdogefmbenplaaDoor.H
namespace Go.Proofs.YtcdogefmbenplaaDoor.H
open Go Go.RowKit Go.Proofs.YtcdogefmbenplaaDoor.Hg
theorem gType : (Tryd.prog.globals[0]?).map (·.type) = some 30 := by kernel_rfl
theorem gArr : Tryd.prog.underlying 30 = some (.array 256 5) := by kernel_rfl
theorem gEl : Tryd.prog.underlying 5 = some (.int .u8) := by kernel_rfl
theorem gC1 : Tryd.prog.cellsOf 5 = 1 := by kernel_rfl
theorem gC2 : Tryd.prog.cellsOf 30 = 256 := by kernel_rfl
end Go.Proofs.YtcdogefmbenplaaDoor.H
