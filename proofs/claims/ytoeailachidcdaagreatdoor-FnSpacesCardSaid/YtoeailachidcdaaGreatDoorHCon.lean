import Derived.Test.YtoeailachidcdaaGreatDoorHP0
import Derived.Test.YtoeailachidcdaaGreatDoorShelf
import Derived.KernelRfl
import Derived.Lib.AtoiErrMem
namespace Go.Proofs.YtoeailachidcdaaGreatDoor.H
set_option linter.unusedVariables false
set_option linter.unusedSimpArgs false
set_option linter.unusedSectionVars false
open Go Go.RowKit Go.Proofs.YtoeailachidcdaaGreatDoor.Hg
theorem g0num : Tryz.prog.globalNamed "strconv.ErrSyntax" = some 0 := by kernel_rfl
theorem g1num : Tryz.prog.globalNamed "strconv.ErrRange" = some 1 := by kernel_rfl
theorem var_cells {w w' : World} {n : String} {g : Nat} {x : Value} (hg : Tryz.prog.globalNamed n = some g) (hc : ∀ i, w'.cell? ⟨g, i, none⟩ = w.cell? ⟨g, i, none⟩) (h : w.var? Tryz.prog n = some #[x]) : w'.var? Tryz.prog n = some #[x] := by
  have e : ∀ i, w'.cell? ⟨g, i, none⟩ = (#[x] : Array Value)[i]? := fun i => (hc i).trans (World.var?_cell hg h i)
  unfold World.var?
  rw [hg, Option.bind_some]
  have e0 : w'.cell? ⟨g, 0, none⟩ = some x := e 0
  unfold World.cell? at e e0
  cases hh : w'.heap[g]? with
  | none => simp only [hh] at e0; cases e0
  | some o =>
    cases o with
    | cells cs t f =>
      show some cs = some #[x]
      refine congrArg some (Array.ext_getElem? fun i => ?_)
      have := e i
      simp only [hh] at this
      simpa using this
    | _ => simp only [hh] at e0; cases e0
instance gInst : Glob where
  ok := fun w => (∃ m, w.cell? ⟨2, 0, none⟩ = some (.int .i64 m)) ∧ (∃ tp p, w.var? Tryz.prog "strconv.ErrSyntax" = some #[.iface tp p]) ∧ ∃ tp p, w.var? Tryz.prog "strconv.ErrRange" = some #[.iface tp p]
  ng := 3
  cells := fun w w' hc ⟨⟨m, h0⟩, ⟨t1, p1, h1⟩, ⟨t2, p2, h2⟩⟩ =>
    ⟨⟨m, (hc ⟨2, 0, none⟩ (by show 2 < 3; omega)).trans h0⟩, ⟨t1, p1, var_cells g0num (fun i => hc ⟨0, i, none⟩ (by show 0 < 3; omega)) h1⟩, ⟨t2, p2, var_cells g1num (fun i => hc ⟨1, i, none⟩ (by show 1 < 3; omega)) h2⟩⟩
  size := fun w ⟨⟨m, h0⟩, _⟩ => World.block_lt_of_cell? w ⟨2, 0, none⟩ h0
theorem strconv_Itoa.con {ρ : Type} (N : Nat) (K : AV → Heap → Option ρ) (i0 : Int) {r : ρ} (h : strconv_Itoa N (fun d0 => K (.str d0) []) i0 = some r) : ∃ v sh', K v sh' = some r ∧ FnOk Tryz.prog 46 [.int .i64 i0] [] v sh' := by
  unfold strconv_Itoa at h
  split at h
  · rename_i hi
    refine ⟨_, _, h, con_ok fun β w ys hr ha => ?_⟩
    match ys, ha with
    | [y], ⟨hy, _⟩ =>
      obtain rfl : y = .int .i64 i0 := hy
      have e : i0 = ((i0.toNat : Nat) : Int) := by omega
      have c := Tryz.strconv_Itoa_small i0.toNat (by omega) w
      rw [← e] at c
      exact c.mono fun e w' ⟨he, hw⟩ => ⟨_, he, fun γ => rfl, hw ▸ Below.refl _ _⟩
  · cases h
theorem strings_Join_su.con {ρ : Type} (N : Nat) (K : AV → Heap → Option ρ) (n : Nat) (sep : ByteArray) (q : Nat) (g : Nat → ByteArray) {r : ρ} (h : strings_Join_su N (fun d0 => K (.str d0) [⟨false, .flat q (.strs g)⟩]) n sep q g = some r) :
    ∃ v sh', K v sh' = some r ∧ FnOk Tryz.prog 47 [.slice true 0 0 n .unk 1, .str sep] [⟨false, .flat q (.strs g)⟩] v sh' := by
  unfold strings_Join_su at h
  split at h
  · rename_i hs
    obtain ⟨hn, hs⟩ := hs
    refine ⟨_, _, h, con_ok fun β w ys hr ha => ?_⟩
    match ys, ha with
    | [y, z], ⟨hy, hz, _⟩ =>
      obtain rfl : z = .string sep := hz
      obtain ⟨L, ao, c, B, X, hL, rfl, hc, _, hao, hsp⟩ := hy
      obtain ⟨L', hL', hb⟩ := hr.blk 0 _ rfl (by simp)
      rw [hL] at hL'
      cases hL'
      have hsp : L.span 0 (n * 1) B X := hsp
      by_cases h0 : n = 0
      · subst h0
        exact (Tryz.strings_Join_none ao c sep w).mono fun e w' ⟨he, hw⟩ => ⟨_, he, fun γ => rfl, hw ▸ Below.refl _ _⟩
      · obtain rfl : ao = some ⟨B, X, none⟩ := hao.resolve_left (by omega)
        have en : ((List.range n).map g).length = n := by simp
        have at' : ∀ j, j < n → w.cell? ⟨B, X + j, none⟩ = some (.string (g j)) := fun j hj => hb.cont j B (X + j) (by have := hsp j (by omega); rwa [Nat.zero_add] at this)
        have cells : ∀ (j : Nat) x, ((List.range n).map g)[j]? = some x → w.cell? ⟨B, X + j, none⟩ = some (.string x) := fun j x hx => by
          obtain ⟨hj, e⟩ := List.getElem?_eq_some_iff.1 hx
          rw [en] at hj
          rw [at' j hj, ← e]
          simp
        have hbk : B < w.heap.size := World.block_lt_of_cell? w ⟨B, X, none⟩ (at' 0 (by omega))
        have cc := Tryz.strings_Join B X c ((List.range n).map g) sep w cells hbk (by rw [en]; exact hn) (by rw [en]; exact hc) hs
        rw [en] at cc
        exact cc.mono fun e w' ⟨he, hw⟩ => ⟨_, he, fun γ => rfl, hw⟩
  · cases h
theorem strings_Split.con {ρ : Type} (N : Nat) (K : AV → Heap → Option ρ) (s sep : ByteArray) {r : ρ} (h : strings_Split N (fun d0 d1 d2 d3 => K (.slice true 0 0 d0 (.exact d1) 1) [⟨true, .flat d2 (.strs d3)⟩]) s sep = some r) :
    ∃ v sh', K v sh' = some r ∧ FnOk Tryz.prog 34 [.str s, .str sep] [] v sh' := by
  unfold strings_Split at h
  split at h
  · rename_i hs
    obtain ⟨hs, h1⟩ := hs
    refine ⟨_, _, h, con_new fun β w ys hr ha => ?_⟩
    match ys, ha with
    | [y, z], ⟨hy, hz, _⟩ =>
      obtain rfl : y = .string s := hy
      obtain rfl : z = .string sep := hz
      obtain ⟨⟨m, hm⟩, _⟩ := hr.glob
      refine (Tryz.strings_Split s sep m w hs hm h1).mono fun e w' ⟨he, hw⟩ => ?_
      subst hw
      have hl := Lib.splitB_all sep h1 0 _ s rfl
      refine ⟨w.heap.size, 0, _, he, Below.alloc (Below.refl _ _) (Nat.le_refl _) _, Nat.le_refl _, fun j hj => ⟨?_, World.frozen?_alloc_at _ _ _ _ rfl⟩, fun γ hγ => ?_⟩
      · rw [Nat.zero_add, World.cell?_alloc_at _ _ _ _ rfl]
        have hj : j < Lib.countB s sep + 1 := hj
        simp only [List.getElem?_toArray, List.getElem?_map]
        rw [List.getElem?_eq_getElem (by omega)]
        show _ = some (Value.string (splitW s sep j))
        unfold splitW
        rw [List.getD_eq_getElem?_getD, List.getElem?_eq_getElem (by omega)]
        rfl
      · exact ⟨_, some ⟨w.heap.size, 0, none⟩, Lib.countB s sep + 1, w.heap.size, 0, hγ, rfl, Nat.le_refl _, fun _ => by simp, .inr rfl, rfl, fun j hj => by rw [Nat.zero_add]; exact Loc.lin_pl.2 ⟨by omega, by simp⟩⟩
  · cases h
theorem strconv_ParseUint.con {ρ : Type} (N : Nat) (K : AV → Heap → Option ρ) (s : ByteArray) (i1 i2 : Int) {r : ρ} (h : strconv_ParseUint N (fun d0 d1 => K (.tup [.int .u64 d0, .ifc d1]) []) s i1 i2 = some r) :
    ∃ v sh', K v sh' = some r ∧ FnOk Tryz.prog 35 [.str s, .int .i64 i1, .int .i64 i2] [] v sh' := by
  unfold strconv_ParseUint at h
  split at h
  · rename_i hs
    obtain ⟨rfl, rfl, hs⟩ := hs
    refine ⟨_, _, h, con_ok fun β w ys hr ha => ?_⟩
    match ys, ha with
    | [y, z, t], ⟨hy, hz, ht, _⟩ =>
      obtain rfl : y = .string s := hy
      obtain rfl : z = .int .i64 10 := hz
      obtain rfl : t = .int .i64 8 := ht
      obtain ⟨_, ⟨t1, p1, hv1⟩, t2, p2, hv2⟩ := hr.glob
      cases hp : Lib.parseUintB 8 s.data.toList with
      | ok u =>
        refine (Tryz.strconv_ParseUint_10_at8_ok s (by omega) u hp w).mono fun e w' ⟨he, hw⟩ => ⟨_, he, fun γ => ?_, ?_⟩
        · unfold puV puE
          rw [hp]
          exact ⟨_, rfl, rfl, .inl ⟨rfl, rfl⟩, trivial⟩
        · rcases hw with rfl | rfl
          · exact Below.refl _ _
          · exact Lib.bytesWorld_below w 5 s
      | range =>
        refine (Tryz.strconv_ParseUint_10_at8_range_var s hs hp t2 p2 w hv2).mono fun e w' ⟨M, he, _, _, hw⟩ => ⟨_, he, fun γ => ?_, hw⟩
        unfold puV puE
        rw [hp]
        exact ⟨_, rfl, rfl, .inr ⟨rfl, _, _, rfl⟩, trivial⟩
      | _ =>
        refine (Tryz.strconv_ParseUint_10_at8_bad_var s hs (fun u => by rw [hp]; exact fun e => by cases e) (by rw [hp]; exact fun e => by cases e) t1 p1 w hv1).mono fun e w' ⟨M, he, _, _, hw⟩ => ⟨_, he, fun γ => ?_, hw⟩
        unfold puV puE
        rw [hp]
        exact ⟨_, rfl, rfl, .inr ⟨rfl, _, _, rfl⟩, trivial⟩
  · cases h
end Go.Proofs.YtoeailachidcdaaGreatDoor.H
