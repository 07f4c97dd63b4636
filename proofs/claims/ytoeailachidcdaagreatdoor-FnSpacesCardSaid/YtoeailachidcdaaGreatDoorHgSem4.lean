import Derived.Test.YtoeailachidcdaaGreatDoorHgSem3
namespace Go.Proofs.YtoeailachidcdaaGreatDoor.Hg
set_option linter.unusedVariables false
set_option linter.unusedSimpArgs false
set_option linter.unusedSectionVars false
open Go Go.RowKit
variable [Gl : Glob]
section
variable {ρ : Type}
def xbits (op : BinOp) (kd : IntKind) (a b : Int) (k : AV → Option ρ) : Option ρ :=
  match op with
  | .and => k (.int kd (kd.wrap ((BitVec.ofInt kd.bits a &&& BitVec.ofInt kd.bits b).toNat : Int)))
  | .or => k (.int kd (kd.wrap ((BitVec.ofInt kd.bits a ||| BitVec.ofInt kd.bits b).toNat : Int)))
  | .xor => k (.int kd (kd.wrap ((BitVec.ofInt kd.bits a ^^^ BitVec.ofInt kd.bits b).toNat : Int)))
  | .andNot => k (.int kd (kd.wrap ((BitVec.ofInt kd.bits a &&& ~~~ BitVec.ofInt kd.bits b).toNat : Int)))
  | _ => none
def xints (op : BinOp) (kd : IntKind) (a b : Int) (k : AV → Option ρ) : Option ρ :=
  match op with
  | .add => k (.int kd (kd.wrap (a + b)))
  | .sub => k (.int kd (kd.wrap (a - b)))
  | .mul => k (.int kd (kd.wrap (a * b)))
  | .quo => if b = 0 then none else k (.int kd (kd.wrap (a.tdiv b)))
  | .rem => if b = 0 then none else k (.int kd (a.tmod b))
  | .and | .or | .xor | .andNot => xbits op kd a b k
  | .eql => k (.bool (a == b))
  | .neq => k (.bool (a != b))
  | .lss => k (.bool (decide (a < b)))
  | .leq => k (.bool (decide (a ≤ b)))
  | .gtr => k (.bool (decide (a > b)))
  | .geq => k (.bool (decide (a ≥ b)))
  | _ => none
def xshift (op : BinOp) (kd : IntKind) (a b : Int) (k : AV → Option ρ) : Option ρ :=
  match op with
  | .shr => if 0 ≤ b then k (.int kd (a.fdiv (2 ^ (min b.toNat kd.bits)))) else none
  | .shl => if 0 ≤ b then k (.int kd (kd.wrap (a * 2 ^ (min b.toNat kd.bits)))) else none
  | _ => none
def isShift : BinOp → Bool
  | .shr | .shl => true
  | _ => false
def strEq (a b : ByteArray) : Bool := a.toList == b.toList
def xbin (E : Env) (op : BinOp) (t : TypeId) (x y : AV) (k : AV → Option ρ) : Option ρ :=
  match x, y with
  | .int kx a, .int ky b => if isShift op = true then xshift op kx a b k else if kx = ky then xints op kx a b k else none
  | .str a, .str b => (match op with
    | .eql => k (.bool (strEq a b))
    | .neq => k (.bool (!strEq a b))
    | .add => if a.size + b.size ≤ 4611686018427387904 then k (.str (a ++ b)) else none
    | .lss => k (.bool (Op.bytesLess a.toList b.toList))
    | .gtr => k (.bool (!(Op.bytesLess a.toList b.toList || strEq a b)))
    | .leq => k (.bool (Op.bytesLess a.toList b.toList || strEq a b))
    | .geq => k (.bool (!Op.bytesLess a.toList b.toList))
    | _ => none)
  | .agg [p], .agg [q] => (match E.lay t with
    | some (.arr len _ esz kd) => if p.kind = kd ∧ q.kind = kd ∧ p.size = len * esz ∧ q.size = len * esz then (match op with
        | .eql => k (.bool (eqN (len * esz) p.get q.get))
        | .neq => k (.bool (!eqN (len * esz) p.get q.get))
        | _ => none) else none
    | _ => none)
  | .bool a, .bool b => (match E.lay t with
    | some .bool => (match op with
        | .eql => k (.bool (a == b))
        | .neq => k (.bool (!(a == b)))
        | _ => none)
    | _ => none)
  | .nils, .nils => (match E.lay t with
    | some (.slice ..) => (match op with | .eql => k (.bool true) | .neq => k (.bool false) | _ => none)
    | _ => none)
  | .slice true _ _ _ _ _, .nils => (match E.lay t with
    | some (.slice ..) => (match op with | .eql => k (.bool false) | .neq => k (.bool true) | _ => none)
    | _ => none)
  | _, _ => none
def xbinI (E : Env) (op : BinOp) (t : TypeId) (oy : Operand) (x y : AV) (k : AV → Option ρ) : Option ρ :=
  match x, y, oy with
  | .ifc a, .ifc true, .const _ => (match E.P.underlying t with
    | some (.interface _) => (match op with
      | .eql => k (.bool a)
      | .neq => k (.bool (!a))
      | _ => none)
    | _ => none)
  | x, y, _ => xbin E op t x y k
theorem guard_plain {P : Program} {w : World} {op : BinOp} {t : TypeId} {ox oy : Operand} {x y : Value} (hx : ∀ cs, x ≠ .agg cs) (hn : x ≠ .nilIface) : (eqGuard op t ox oy x y).run P w = .ok () w := by
  unfold eqGuard
  cases op <;> cases x <;> first
    | rfl
    | (exact absurd rfl hn)
    | (exact absurd rfl (hx _))
theorem guard_ints {P : Program} {w : World} {op : BinOp} {t : TypeId} {ox oy : Operand} {xs ys : Array Value} (h : P.eqGuardType P.depth t = false) : (eqGuard op t ox oy (.agg xs) (.agg ys)).run P w = .ok () w := by
  unfold eqGuard
  cases op <;> simp [h]
theorem eq_bools {P : Program} {w : World} {t : TypeId} (hu : P.underlying t = some .bool) (a b : Bool) : (Op.equal t (.bool a) (.bool b)).run P w = .ok (a == b) w := by
  have key : ∀ d, (Op.equalIn (d + 1) t (.bool a) (.bool b)).run P w = .ok (a == b) w := by
    intro d
    have e1 := run_underlying hu w
    simp [Op.equalIn, e1]
  exact key 9999
theorem eq_nils {P : Program} {w : World} {t e : TypeId} (hu : P.underlying t = some (.slice e)) : (Op.equal t (.slice none 0 0) (.slice none 0 0)).run P w = .ok true w := by
  have key : ∀ d, (Op.equalIn (d + 1) t (.slice none 0 0) (.slice none 0 0)).run P w = .ok true w := by
    intro d
    have e1 := run_underlying hu w
    simp [Op.equalIn, e1]
  exact key 9999
theorem eq_slice_nil {P : Program} {w : World} {t e : TypeId} (hu : P.underlying t = some (.slice e)) (a : Addr) (l c : Nat) : (Op.equal t (.slice (some a) l c) (.slice none 0 0)).run P w = .ok false w := by
  have key : ∀ d, (Op.equalIn (d + 1) t (.slice (some a) l c) (.slice none 0 0)).run P w = .ok false w := by
    intro d
    have e1 := run_underlying hu w
    simp [Op.equalIn, e1]
  exact key 9999
theorem depth_big (P : Program) : 10 ≤ P.depth := by
  unfold Program.depth Made.depth
  omega
theorem xints_ok {P : Program} {op : BinOp} {kd : IntKind} {a b : Int} {t : TypeId} {k : AV → Option ρ} {r : ρ} (h : xints op kd a b k = some r) :
    ∃ v, k v = some r ∧ ∀ (β : Names) (w : World), ∃ u, (binOp op t (.int kd a) (.int kd b)).run P w = .ok u w ∧ v.rel β u := by
  cases op <;> simp only [xints, xbits] at h <;> try contradiction
  case quo =>
    split at h
    · cases h
    · rename_i hb
      exact ⟨_, h, fun β w => ⟨_, by simp [binOp, Op.intDiv, hb], rfl⟩⟩
  case rem =>
    split at h
    · cases h
    · rename_i hb
      exact ⟨_, h, fun β w => ⟨_, by simp [binOp, Op.intDiv, hb], rfl⟩⟩
  all_goals
    refine ⟨_, h, fun β w => ⟨_, ?_, rfl⟩⟩
    simp [binOp, Op.intArith, Op.intCmp, Op.intBits]
theorem xbin_ok {E : Env} (hE : laysOk E.P E.lays = true) {op : BinOp} {t : TypeId} {ox oy : Operand} {x y : AV} {k : AV → Option ρ} {r : ρ} (h : xbin E op t x y k = some r) :
    ∃ v, k v = some r ∧ ∀ (β : Names) (w : World) (a b : Value), x.rel β a → y.rel β b → ∃ u, (do eqGuard op t ox oy a b; binOp op t a b : Sem Value).run E.P w = .ok u w ∧ v.rel β u := by
  unfold xbin at h
  split at h
  · rename_i kx a ky b
    split at h
    · rename_i hsh
      have nn : ∀ b : Int, 0 ≤ b → ¬ b < 0 := fun b h => by omega
      cases op <;> simp only [isShift, xshift] at h hsh <;> try contradiction
      all_goals
        split at h
        · rename_i hb
          exact ⟨_, h, fun β w x y hx hy => by
            cases hx; cases hy
            refine ⟨_, ?_, rfl⟩
            rw [Sem.run_bind, guard_plain (by simp) (by simp), Result.andThen_ok]
            simp [binOp, Op.shift, nn b hb]⟩
        · cases h
    split at h
    · rename_i hk
      subst hk
      obtain ⟨v, h1, h2⟩ := xints_ok (P := E.P) (t := t) h
      refine ⟨v, h1, fun β w x y hx hy => ?_⟩
      cases hx; cases hy
      obtain ⟨u, h3, h4⟩ := h2 β w
      exact ⟨u, by rw [Sem.run_bind, guard_plain (by simp) (by simp), Result.andThen_ok, h3], h4⟩
    · cases h
  · rename_i a b
    split at h
    · exact ⟨_, h, fun β w x y hx hy => by
        cases hx; cases hy
        exact ⟨_, by rw [Sem.run_bind, guard_plain (by simp) (by simp), Result.andThen_ok]; simp [binOp, Op.stringOp]; first | done | rfl, rfl⟩⟩
    · exact ⟨_, h, fun β w x y hx hy => by
        cases hx; cases hy
        exact ⟨_, by rw [Sem.run_bind, guard_plain (by simp) (by simp), Result.andThen_ok]; simp [binOp, Op.stringOp]; first | done | rfl, rfl⟩⟩
    · split at h
      · rename_i hs
        exact ⟨_, h, fun β w x y hx hy => by
          cases hx; cases hy
          refine ⟨_, ?_, rfl⟩
          rw [Sem.run_bind, guard_plain (by simp) (by simp), Result.andThen_ok]
          have : ¬ ((a.size + b.size : Nat) : Int) > IntKind.i64.max := by
            simp only [IntKind.max, IntKind.signed, IntKind.bits]; omega
          simp only [binOp, Op.stringOp, if_neg this]
          rfl⟩
      · cases h
    · exact ⟨_, h, fun β w x y hx hy => by
        cases hx; cases hy
        exact ⟨_, by rw [Sem.run_bind, guard_plain (by simp) (by simp), Result.andThen_ok]; simp [binOp, Op.stringOp]; first | done | rfl, rfl⟩⟩
    · exact ⟨_, h, fun β w x y hx hy => by
        cases hx; cases hy
        exact ⟨_, by rw [Sem.run_bind, guard_plain (by simp) (by simp), Result.andThen_ok]; simp [binOp, Op.stringOp]; first | done | rfl, rfl⟩⟩
    · exact ⟨_, h, fun β w x y hx hy => by
        cases hx; cases hy
        exact ⟨_, by rw [Sem.run_bind, guard_plain (by simp) (by simp), Result.andThen_ok]; simp [binOp, Op.stringOp]; first | done | rfl, rfl⟩⟩
    · exact ⟨_, h, fun β w x y hx hy => by
        cases hx; cases hy
        exact ⟨_, by rw [Sem.run_bind, guard_plain (by simp) (by simp), Result.andThen_ok]; simp [binOp, Op.stringOp]; first | done | rfl, rfl⟩⟩
    · cases h
  · rename_i p q
    split at h
    · rename_i len e esz kd hl
      obtain ⟨hu, _, _, hia, _⟩ := lay_arr (laysOk_at hE hl)
      split at h
      · rename_i hc
        obtain ⟨h1, h2, h3, h4⟩ := hc
        have hag : aggT E.P t = true := by simp [aggT, hu]
        have key : ∀ w : World, (Op.equal t (.agg (cellsOf [p]).toArray) (.agg (cellsOf [q]).toArray)).run E.P w = .ok (eqN (len * esz) p.get q.get) w := by
          intro w
          have e1 : Value.agg (cellsOf [p]).toArray = intVal E.P t kd (len * esz) p.get := by
            obtain ⟨pk, ps, pg⟩ := p
            simp only at h1 h3
            subst h1; subst h3
            simp [intVal, hag, cellsOf]
          have e2 : Value.agg (cellsOf [q]).toArray = intVal E.P t kd (len * esz) q.get := by
            obtain ⟨pk, ps, pg⟩ := q
            simp only at h2 h4
            subst h2; subst h4
            simp [intVal, hag, cellsOf]
          rw [e1, e2]
          exact run_equalIn_ints hia (by unfold Op.maxDepth; omega) _ _
        have hg := intArr_guard hia (depth_big E.P)
        split at h
        · exact ⟨_, h, fun β w x y hx hy => by
            cases hx; cases hy
            refine ⟨_, ?_, rfl⟩
            rw [Sem.run_bind, guard_ints hg, Result.andThen_ok]
            simp [binOp, key]⟩
        · exact ⟨_, h, fun β w x y hx hy => by
            cases hx; cases hy
            refine ⟨_, ?_, rfl⟩
            rw [Sem.run_bind, guard_ints hg, Result.andThen_ok]
            simp [binOp, key]⟩
        · cases h
      · cases h
    · cases h
  · rename_i a b
    split at h
    · rename_i hl
      obtain ⟨hu, _⟩ := lay_bool (laysOk_at hE hl)
      have key : ∀ w : World, (Op.equal t (.bool a) (.bool b)).run E.P w = .ok (a == b) w := fun w => eq_bools hu a b
      split at h
      · exact ⟨_, h, fun β w x y hx hy => by
          cases hx; cases hy
          refine ⟨_, ?_, rfl⟩
          rw [Sem.run_bind, guard_plain (by simp) (by simp), Result.andThen_ok]
          simp [binOp, key]⟩
      · exact ⟨_, h, fun β w x y hx hy => by
          cases hx; cases hy
          refine ⟨_, ?_, rfl⟩
          rw [Sem.run_bind, guard_plain (by simp) (by simp), Result.andThen_ok]
          simp [binOp, key]⟩
      · cases h
    · cases h
  · split at h
    · rename_i e n m hl
      obtain ⟨hu, _⟩ := lay_slice (laysOk_at hE hl)
      have key : ∀ w : World, (Op.equal t (.slice none 0 0) (.slice none 0 0)).run E.P w = .ok true w := fun w => eq_nils hu
      split at h
      · exact ⟨_, h, fun β w x y hx hy => by
          cases hx; cases hy
          refine ⟨_, ?_, rfl⟩
          rw [Sem.run_bind, guard_plain (by simp) (by simp), Result.andThen_ok]
          simp [binOp, key]⟩
      · exact ⟨_, h, fun β w x y hx hy => by
          cases hx; cases hy
          refine ⟨_, ?_, rfl⟩
          rw [Sem.run_bind, guard_plain (by simp) (by simp), Result.andThen_ok]
          simp [binOp, key]⟩
      · cases h
    · cases h
  · rename_i b o len cap esz
    split at h
    · rename_i e n m hl
      obtain ⟨hu, _⟩ := lay_slice (laysOk_at hE hl)
      have key : ∀ (a : Addr) (l c : Nat) (w : World), (Op.equal t (.slice (some a) l c) (.slice none 0 0)).run E.P w = .ok false w := fun a l c w => eq_slice_nil hu a l c
      split at h
      · exact ⟨_, h, fun β w x y hx hy => by
          obtain ⟨L, ao, c, B, X, _, rfl, _, hnn, _⟩ := hx
          cases hy
          cases ao with
          | none => exact absurd rfl (hnn rfl)
          | some a =>
          refine ⟨_, ?_, rfl⟩
          rw [Sem.run_bind, guard_plain (by simp) (by simp), Result.andThen_ok]
          simp [binOp, key]⟩
      · exact ⟨_, h, fun β w x y hx hy => by
          obtain ⟨L, ao, c, B, X, _, rfl, _, hnn, _⟩ := hx
          cases hy
          cases ao with
          | none => exact absurd rfl (hnn rfl)
          | some a =>
          refine ⟨_, ?_, rfl⟩
          rw [Sem.run_bind, guard_plain (by simp) (by simp), Result.andThen_ok]
          simp [binOp, key]⟩
      · cases h
    · cases h
  · cases h
theorem eq_ifcs {P : Program} {w : World} {t : TypeId} {ms : Array (String × TypeId)} (hu : P.underlying t = some (.interface ms)) : (Op.equal t .nilIface .nilIface).run P w = .ok true w := by
  have key : ∀ d, (Op.equalIn (d + 1) t .nilIface .nilIface).run P w = .ok true w := by
    intro d
    have e1 := run_underlying hu w
    simp [Op.equalIn, e1]
  exact key 9999
theorem eq_ifc_nil {P : Program} {w : World} {t : TypeId} {ms : Array (String × TypeId)} (hu : P.underlying t = some (.interface ms)) (a : TypeId) (v : Value) : (Op.equal t (.iface a v) .nilIface).run P w = .ok false w := by
  have key : ∀ d, (Op.equalIn (d + 1) t (.iface a v) .nilIface).run P w = .ok false w := by
    intro d
    have e1 := run_underlying hu w
    simp [Op.equalIn, e1]
  exact key 9999
theorem guard_const {P : Program} {w : World} {op : BinOp} {t : TypeId} {ox : Operand} {c : Value} : (eqGuard op t ox (.const c) .nilIface .nilIface).run P w = .ok () w := by
  unfold eqGuard
  cases op <;> simp
theorem xbinI_ok {E : Env} (hE : laysOk E.P E.lays = true) {op : BinOp} {t : TypeId} {ox oy : Operand} {x y : AV} {k : AV → Option ρ} {r : ρ} (h : xbinI E op t oy x y k = some r) :
    ∃ v, k v = some r ∧ ∀ (β : Names) (w : World) (a b : Value), x.rel β a → y.rel β b → ∃ u, (do eqGuard op t ox oy a b; binOp op t a b : Sem Value).run E.P w = .ok u w ∧ v.rel β u := by
  unfold xbinI at h
  split at h
  · rename_i a c
    split at h
    · rename_i ms hu
      split at h
      · exact ⟨_, h, fun β w x y hx hy => by
          obtain ⟨_, rfl⟩ | ⟨hf, _⟩ := hy
          · obtain ⟨rfl, rfl⟩ | ⟨rfl, tx, vx, rfl⟩ := hx
            · refine ⟨.bool true, ?_, rfl⟩
              rw [Sem.run_bind, guard_const, Result.andThen_ok]
              simp [binOp, eq_ifcs hu]
            · refine ⟨.bool false, ?_, rfl⟩
              rw [Sem.run_bind, guard_plain (by simp) (by simp), Result.andThen_ok]
              simp [binOp, eq_ifc_nil hu]
          · cases hf⟩
      · exact ⟨_, h, fun β w x y hx hy => by
          obtain ⟨_, rfl⟩ | ⟨hf, _⟩ := hy
          · obtain ⟨rfl, rfl⟩ | ⟨rfl, tx, vx, rfl⟩ := hx
            · refine ⟨.bool false, ?_, rfl⟩
              rw [Sem.run_bind, guard_const, Result.andThen_ok]
              simp [binOp, eq_ifcs hu]
            · refine ⟨.bool true, ?_, rfl⟩
              rw [Sem.run_bind, guard_plain (by simp) (by simp), Result.andThen_ok]
              simp [binOp, eq_ifc_nil hu]
          · cases hf⟩
      · cases h
    · cases h
  · exact xbin_ok hE h
def xun (op : UnOp) (x : AV) (k : AV → Option ρ) : Option ρ :=
  match op, x with
  | .neg, .int kd n => k (.int kd (kd.wrap (0 - n)))
  | .not, .bool b => k (.bool (!b))
  | _, _ => none
theorem xun_ok {P : Program} {op : UnOp} {x : AV} {k : AV → Option ρ} {r : ρ} (h : xun op x k = some r) :
    ∃ v, k v = some r ∧ ∀ (β : Names) (w : World) (a : Value), x.rel β a → ∃ u, (Op.unary op a).run P w = .ok u w ∧ v.rel β u := by
  unfold xun at h
  split at h
  · exact ⟨_, h, fun β w a ha => by cases ha; exact ⟨_, by simp [Op.unary, Op.intArith], rfl⟩⟩
  · exact ⟨_, h, fun β w a ha => by cases ha; exact ⟨_, by simp [Op.unary], rfl⟩⟩
  · cases h
def xconv (E : Env) (src dst : TypeId) (x : AV) (k : AV → Option ρ) : Option ρ :=
  match E.lay src, E.lay dst, x with
  | some (.int _), some (.int kd), .int _ n => k (.int kd (kd.wrap n))
  | some .str, some .str, .str s => k (.str s)
  | _, _, _ => none
theorem xconv_ok {E : Env} (hE : laysOk E.P E.lays = true) {src dst : TypeId} {x : AV} {k : AV → Option ρ} {r : ρ} (h : xconv E src dst x k = some r) :
    ∃ v, k v = some r ∧ ∀ (β : Names) (w : World) (a : Value), x.rel β a → ∃ u, (convert src dst a).run E.P w = .ok u w ∧ v.rel β u := by
  unfold xconv at h
  split at h
  · rename_i ks kd kx n h1 h2
    obtain ⟨hs, _⟩ := lay_int (laysOk_at hE h1)
    obtain ⟨hd, _⟩ := lay_int (laysOk_at hE h2)
    exact ⟨_, h, fun β w a ha => by
      cases ha
      have e1 := run_underlying hs w
      have e2 := run_underlying hd w
      exact ⟨_, by simp [convert, e1, e2, Conv.intToInt], rfl⟩⟩
  · rename_i s h1 h2
    obtain ⟨hs, _⟩ := lay_str (laysOk_at hE h1)
    obtain ⟨hd, _⟩ := lay_str (laysOk_at hE h2)
    exact ⟨_, h, fun β w a ha => by
      cases ha
      have e1 := run_underlying hs w
      have e2 := run_underlying hd w
      exact ⟨_, by simp [convert, e1, e2], rfl⟩⟩
  · cases h
end
end Go.Proofs.YtoeailachidcdaaGreatDoor.Hg
