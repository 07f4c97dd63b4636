import Derived.Test.YtoeailachidcdaaGreatDoorHgFn
namespace Go.Proofs.YtoeailachidcdaaGreatDoor.Hg
set_option linter.unusedVariables false
set_option linter.unusedSimpArgs false
set_option linter.unusedSectionVars false
open Go Go.RowKit
variable [Gl : Glob]
def slGet (i : Nat) : List (Nat × AV) → AV
  | [] => .any
  | (j, v) :: r => if i = j then v else slGet i r
def slFrom : Nat → Nat → List (Nat × AV) → List AV
  | 0, _, _ => []
  | n + 1, i, [] => .any :: slFrom n (i + 1) []
  | n + 1, i, (j, v) :: r => if i = j then v :: slFrom n (i + 1) r else .any :: slFrom n (i + 1) ((j, v) :: r)
def sl (n : Nat) (items : List (Nat × AV)) : List AV := slFrom n 0 items
def bodyOf (fn : Func) : Code := match fn.body with | some c => c | none => .skip
def cA : Code → Code | .seq a _ => a | c => c
def cB : Code → Code | .seq _ b => b | c => c
def cT : Code → Code | .cond _ a _ => a | c => c
def cE : Code → Code | .cond _ _ b => b | c => c
def cK : Code → Code | .block _ a => a | c => c
def cL : Code → Code | .loop a => a | c => c
def mixK {ρ : Type} (r : St → Option ρ) (k : XE → St → Option ρ) : XE → St → Option ρ
  | .ret, s => r s
  | .normal, s => k .normal s
  | .exit j, s => k (.exit j) s
def env0 (P : Program) (lays : List Lay) (wrs : List (FuncId × List Bool)) : Env where
  P := P
  lays := lays
  fn := fun _ _ _ _ _ => none
  wr := fun f => (wrs.lookup f).getD []
def Env.add (E : Env) (f : FuncId) (e : (ρ : Type) → List AV → Heap → (AV → Heap → Option ρ) → Option ρ) : Env :=
  { E with fn := fun g ρ args sh K => bif g == f then e ρ args sh K else E.fn g ρ args sh K }
theorem env0_ok {P : Program} {lays : List Lay} {wrs : List (FuncId × List Bool)} {ents : List FuncId} (h1 : laysOk P lays = true) (h2 : ents.all (entersB P) = true) (h3 : P.follows .mixedOrders = true) : EnvOk (env0 P lays wrs) ents :=
  ⟨h1, h2, fun _ _ _ _ _ _ h => by simp [env0] at h, h3⟩
theorem Env.add_ok {E : Env} {ents : List FuncId} (hE : EnvOk E ents) {f : FuncId} {e : (ρ : Type) → List AV → Heap → (AV → Heap → Option ρ) → Option ρ}
    (h : ∀ (ρ : Type) (args : List AV) (sh : Heap) (K : AV → Heap → Option ρ) (r : ρ), e ρ args sh K = some r → ∃ v sh', K v sh' = some r ∧ FnOk E.P f args sh v sh') : EnvOk (E.add f e) ents where
  lays := hE.lays
  ents := hE.ents
  mixed := hE.mixed
  spec := by
    intro g ρ args sh K r hg
    simp only [Env.add, cond_eq_ite, beq_iff_eq] at hg
    split at hg
    · rename_i e; subst e; exact h ρ args sh K r hg
    · exact hE.spec g ρ args sh K r hg
end Go.Proofs.YtoeailachidcdaaGreatDoor.Hg
