import Derived.Test.YtoeailachidcdaaGreatDoorHgUse
import Derived.Below
import Derived.Lib.Join
import Derived.Lib.ItoaNum
import Derived.Lib.ParseIntB
import Derived.Lib.SplitLaws
namespace Go.Proofs.YtoeailachidcdaaGreatDoor.Hg
set_option linter.unusedVariables false
set_option linter.unusedSimpArgs false
set_option linter.unusedSectionVars false
open Go Go.RowKit
variable [Gl : Glob]
def itoaS (n : Int) : ByteArray := ⟨(Lib.decDigits n.toNat).toArray⟩
def joinS (n : Nat) (g : Nat → ByteArray) (sep : ByteArray) : ByteArray := ⟨(Lib.join (((List.range n).map g).map (·.data.toList)) sep.data.toList).toArray⟩
def splitN (s sep : ByteArray) : Nat := Lib.countB s sep + 1
def splitW (s sep : ByteArray) (i : Nat) : ByteArray := (Lib.splitB sep 0 (Lib.countB s sep) s).getD i ByteArray.empty
def puV (s : ByteArray) : Int := match Lib.parseUintB 8 s.data.toList with | .ok u => (u : Int) | .range => 255 | _ => 0
def puE (s : ByteArray) : Bool := match Lib.parseUintB 8 s.data.toList with | .ok _ => true | _ => false
theorem ext_of_below {M : Addr → Prop} {w w' : World} (h : Below w.heap.size w w') : Ext M w w' :=
  ⟨h.os, h.tape, h.output, h.size, fun B hB _ => h.block B hB, fun a ha _ => h.cell ha, fun a ha => h.frozen ha⟩
theorem con_ok {P : Program} {f : FuncId} {args : List AV} {sh : Heap} {v : AV}
    (h : ∀ (β : Names) (w : World) (ys : List Value), HRel β sh w → all2 (AV.rel β) args ys → Calls P f ys.toArray w fun e w' => ∃ y, e = .returned y ∧ (∀ γ, v.rel γ y) ∧ Below w.heap.size w w') : FnOk P f args sh v sh where
  len := Nat.le_refl _
  ro := fun _ _ h _ => h
  rw := fun _ x h hr => ⟨x, h, hr⟩
  run := fun β w ys hr ha => (h β w ys hr ha).mono fun e w' ⟨y, he, hv, hb⟩ =>
    ⟨β, y, he, fun _ _ => rfl, hv β, hr.grow (nb := []) (NewOk.nil w' hr.fresh |> fun _ => ⟨fun _ _ => rfl, fun b hb => hr.fresh b (by simpa using hb), by simp, by simp⟩) hb |> fun q => by simpa using q, ext_of_below hb,
      fun b x L B X hb hx _ _ _ => by rw [List.getElem?_eq_none (by omega)] at hx; cases hx⟩
theorem strEq_eq {a b : ByteArray} (h : strEq a b = true) : a = b := by
  unfold strEq at h
  rw [ByteArray.toList_eq, ByteArray.toList_eq] at h
  have h := eq_of_beq h
  cases a; cases b
  simp only at h
  rw [Array.toList_inj] at h
  rw [h]
theorem con_new {P : Program} {f : FuncId} {args : List AV} {v : AV} {n : Nat} {fk : FK}
    (h : ∀ (β : Names) (w : World) (ys : List Value), HRel β [] w → all2 (AV.rel β) args ys → Calls P f ys.toArray w fun e w' => ∃ B X y, e = .returned y ∧ Below w.heap.size w w' ∧ w.heap.size ≤ B ∧
      (∀ j, j < n → w'.cell? ⟨B, X + j, none⟩ = some (fk.at j) ∧ w'.frozen? ⟨B, X + j, none⟩ = false) ∧ ∀ γ : Names, γ 0 = some (Loc.lin B X n) → v.rel γ y) : FnOk P f args [] v [⟨true, .flat n fk⟩] where
  len := by simp
  ro := fun _ _ hx _ => by simp at hx
  rw := fun _ _ hx _ => by simp at hx
  run := fun β w ys hr ha => (h β w ys hr ha).mono fun e w' ⟨B, X, y, he, hb, hB, hc, hv⟩ => by
    have at' : ∀ i B' X', (Loc.lin B X n).pl i = some (B', X') → i < n ∧ B' = B ∧ X' = X + i := fun i B' X' hp => by
      obtain ⟨h1, h2⟩ := Loc.lin_pl.1 hp
      simp only [Prod.mk.injEq] at h2
      exact ⟨h1, h2.1, h2.2⟩
    have A := push_world (ds := []) (x := ⟨true, .flat n fk⟩) (L := Loc.lin B X n) hr (by simp) ⟨fun _ B' X' ho => by
        obtain ⟨rfl, h1, h2⟩ := Loc.lin_own.1 ho
        have := hc (X' - X) (by omega)
        rw [show X + (X' - X) = X' by omega] at this
        exact ⟨by rw [this.1]; rfl, fun _ => this.2⟩, fun i B' X' hp => by
        obtain ⟨h1, rfl, rfl⟩ := at' i B' X' hp
        exact (hc i h1).1⟩ Loc.grow_inj (fun B' X' ho => .inl (by obtain ⟨rfl, _⟩ := Loc.lin_own.1 ho; exact hB)) (ext_of_below hb) (fun a ha _ => hb.cell ha)
    refine ⟨_, y, he, fun b hb' => by simp at hb', hv _ (if_pos rfl), A.rel, A.ext, fun b x L B' X' _ hx hd hL ho => ?_⟩
    have hrw : x.rw = true := by
      match b, hx with
      | 0, hx => cases hx; rfl
      | b + 1, hx => simp at hx
    rcases A.mine ⟨B', X', none⟩ ⟨b, x, L, hx, hrw, hd, hL, ho⟩ with q | q
    · exact .inr q
    · exact .inl q
end Go.Proofs.YtoeailachidcdaaGreatDoor.Hg
