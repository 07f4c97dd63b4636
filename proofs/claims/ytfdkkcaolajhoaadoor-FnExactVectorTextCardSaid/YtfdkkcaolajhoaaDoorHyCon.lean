import Derived.Test.YtfdkkcaolajhoaaDoorHyUse
import Derived.Below
import Derived.Lib.Join
import Derived.Lib.ItoaNum
namespace Go.Proofs.YtfdkkcaolajhoaaDoor.Hy
set_option linter.unusedVariables false
set_option linter.unusedSimpArgs false
open Go Go.RowKit
def itoaS (n : Int) : ByteArray := ⟨(Lib.decDigits n.toNat).toArray⟩
def joinS (n : Nat) (g : Nat → ByteArray) (sep : ByteArray) : ByteArray := ⟨(Lib.join (((List.range n).map g).map (·.data.toList)) sep.data.toList).toArray⟩
theorem ext_of_below {M : Addr → Prop} {w w' : World} (h : Below w.heap.size w w') : Ext M w w' :=
  ⟨h.os, h.tape, h.output, h.size, fun B hB _ => h.block B hB, fun a ha _ => h.cell ha, fun a ha => h.frozen ha⟩
theorem con_ok {P : Program} {f : FuncId} {args : List AV} {sh : Heap} {v : AV}
    (h : ∀ (β : Names) (w : World) (ys : List Value), HRel β sh w → all2 (AV.rel β) args ys → Calls P f ys.toArray w fun e w' => ∃ y, e = .returned y ∧ (∀ γ, v.rel γ y) ∧ Below w.heap.size w w') : FnOk P f args sh v sh where
  len := Nat.le_refl _
  ro := fun _ _ h _ => h
  rw := fun _ x h hr => ⟨x, h, hr⟩
  run := fun β w ys hr ha => (h β w ys hr ha).mono fun e w' ⟨y, he, hv, hb⟩ =>
    ⟨β, y, he, fun _ _ => rfl, hv β, hr.grow (nb := []) (NewOk.nil w' hr.fresh |> fun _ => ⟨fun _ _ => rfl, fun b hb => hr.fresh b (by simpa using hb), by simp, by simp⟩) hb |> fun q => by simpa using q, ext_of_below hb,
      fun b x L B X hb hx _ _ _ => by rw [List.getElem?_eq_none (by omega)] at hx; cases hx⟩
end Go.Proofs.YtfdkkcaolajhoaaDoor.Hy
