import Derived.Test.YtoeailachidcdaaGreatDoorHgRun
namespace Go.Proofs.YtoeailachidcdaaGreatDoor.Hg
set_option linter.unusedVariables false
set_option linter.unusedSimpArgs false
set_option linter.unusedSectionVars false
open Go Go.RowKit
variable [Gl : Glob]
def ptrsBelow (n : Nat) : List (Nat × Nat) → Bool
  | [] => true
  | (b, _) :: r => decide (b < n) && ptrsBelow n r
def capsBelow (n : Nat) : List (List (Nat × Nat)) → Bool
  | [] => true
  | c :: r => ptrsBelow n c && capsBelow n r
def below1 (n : Nat) : AV → Bool
  | .ptr b _ _ => decide (b < n)
  | .sptr bs => ptrsBelow n bs
  | .slice _ b _ _ _ _ => decide (b < n)
  | .fn _ _ caps => capsBelow n caps
  | _ => true
def listBelow (n : Nat) : List AV → Bool
  | [] => true
  | v :: r => below1 n v && listBelow n r
def belowAV (n : Nat) : AV → Bool
  | .tup vs => listBelow n vs
  | .mixv vs => listBelow n vs
  | v => below1 n v
def cutN (β : Names) (n : Nat) : Names := fun b => if b < n then β b else none
theorem ptrsBelow_ok {β : Names} {n : Nat} : ∀ {bs : List (Nat × Nat)} {blk base : Nat}, ptrsBelow n bs = true → chained β blk base bs → chained (cutN β n) blk base bs
  | [], _, _, _, _ => trivial
  | (b, k) :: r, blk, base, h, ⟨h1, h2⟩ => by
    simp only [ptrsBelow, Bool.and_eq_true, decide_eq_true_eq] at h
    exact ⟨by unfold cutN; rw [if_pos h.1]; exact h1, ptrsBelow_ok h.2 h2⟩
theorem ptrRel_cut {β : Names} {n : Nat} {bs : List (Nat × Nat)} {y : Value} (h : ptrsBelow n bs = true) (r : ptrRel β bs y) : ptrRel (cutN β n) bs y := by
  obtain ⟨h1, blk, base, h2, h3⟩ := r
  exact ⟨h1, blk, base, h2, ptrsBelow_ok h h3⟩
theorem capsBelow_ok {β : Names} {n : Nat} : ∀ {cs : List (List (Nat × Nat))} {ys : List Value}, capsBelow n cs = true → all2 (ptrRel β) cs ys → all2 (ptrRel (cutN β n)) cs ys
  | [], [], _, _ => trivial
  | _ :: _, _ :: _, h, ⟨h1, h2⟩ => by
    simp only [capsBelow, Bool.and_eq_true] at h
    exact ⟨ptrRel_cut h.1 h1, capsBelow_ok h.2 h2⟩
  | [], _ :: _, _, h => h.elim
  | _ :: _, [], _, h => h.elim
theorem below1_ok {β : Names} {n : Nat} {v : AV} {y : Value} (h : below1 n v = true) (r : v.rel1 β y) : v.rel1 (cutN β n) y := by
  cases v <;> simp only [below1, decide_eq_true_eq] at h <;> try exact r
  case ptr => obtain ⟨L, B, X, h1, h2⟩ := r; exact ⟨L, B, X, by unfold cutN; rw [if_pos h]; exact h1, h2⟩
  case sptr => exact ptrRel_cut h r
  case slice => obtain ⟨L, a, c, B, X, h1, h2⟩ := r; exact ⟨L, a, c, B, X, by unfold cutN; rw [if_pos h]; exact h1, h2⟩
  case fn => obtain ⟨vs, h1, h2⟩ := r; exact ⟨vs, h1, capsBelow_ok h h2⟩
theorem listBelow_ok {β : Names} {n : Nat} : ∀ {vs : List AV} {ys : List Value}, listBelow n vs = true → all2 (AV.rel1 β) vs ys → all2 (AV.rel1 (cutN β n)) vs ys
  | [], [], _, _ => trivial
  | _ :: _, _ :: _, h, ⟨h1, h2⟩ => by
    simp only [listBelow, Bool.and_eq_true] at h
    exact ⟨below1_ok h.1 h1, listBelow_ok h.2 h2⟩
  | [], _ :: _, _, h => h.elim
  | _ :: _, [], _, h => h.elim
theorem belowAV_ok {β : Names} {n : Nat} {v : AV} {y : Value} (h : belowAV n v = true) (r : v.rel β y) : v.rel (cutN β n) y := by
  cases v
  case tup vs => obtain ⟨ys, h1, h2⟩ := r; exact ⟨ys, h1, listBelow_ok h h2⟩
  case mixv vs => obtain ⟨ys, h1, h2⟩ := r; exact ⟨ys, h1, listBelow_ok h h2⟩
  all_goals
    simp only [AV.rel] at r ⊢
    exact below1_ok h r
def blkBelow (m : Nat) (x : Blk) : Bool := match x.c with | .avs vs => listBelow m vs | .hdr p .. => decide (p < m) | _ => true
theorem listBelow_get {n : Nat} : ∀ {vs : List AV} {i : Nat} {v : AV}, listBelow n vs = true → vs[i]? = some v → below1 n v = true
  | [], _, _, _, h => by simp at h
  | u :: r, 0, v, h, e => by
    simp only [listBelow, Bool.and_eq_true] at h
    simp at e; subst e; exact h.1
  | u :: r, i + 1, v, h, e => by
    simp only [listBelow, Bool.and_eq_true] at h
    exact listBelow_get h.2 (by simpa using e)
theorem blkBelow_ok {β : Names} {n : Nat} {L : Loc} {x : Blk} {w : World} (h : blkBelow n x = true) (r : x.rel β L w) : x.rel (cutN β n) L w := by
  obtain ⟨rw, c⟩ := x
  refine ⟨r.cells, ?_⟩
  have r := r.cont
  cases c with
  | flat m f => exact r
  | dead => trivial
  | avs vs =>
    simp only [blkBelow] at h
    refine ⟨r.1, fun i B X hp => ?_⟩
    obtain ⟨v, u, h1, h2, h3⟩ := r.2 i B X hp
    exact ⟨v, u, h1, h2, below1_ok (listBelow_get h h1) h3⟩
  | hdr p m q of ln cp =>
    simp only [blkBelow, decide_eq_true_eq] at h
    obtain ⟨⟨M, hM, hq⟩, hc⟩ := r
    have hM' : cutN β n p = some M := by unfold cutN; rw [if_pos h]; exact hM
    refine ⟨⟨M, hM', hq⟩, fun i B X hp => ?_⟩
    obtain ⟨u, h1, h2⟩ := hc i B X hp
    exact ⟨u, h1, hdr_moved hM hM' h2⟩
end Go.Proofs.YtoeailachidcdaaGreatDoor.Hg
