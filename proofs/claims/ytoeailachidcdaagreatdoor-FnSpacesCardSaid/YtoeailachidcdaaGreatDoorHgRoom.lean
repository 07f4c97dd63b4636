import Derived.Test.YtoeailachidcdaaGreatDoorHgStep
import Derived.Deep.AppendSrc
namespace Go.Proofs.YtoeailachidcdaaGreatDoor.Hg
set_option linter.unusedVariables false
set_option linter.unusedSimpArgs false
set_option linter.unusedSectionVars false
open Go Go.RowKit
variable [Gl : Glob]
section
variable {ρ : Type}
def FK.offZ (o : Nat) (f : FK) : FK := if o = 0 then f else f.off o
theorem FK.at_offZ (f : FK) (o j : Nat) : (f.offZ o).at j = f.at (o + j) := by
  unfold FK.offZ
  split
  · rename_i h; subst h; rw [Nat.zero_add]
  · exact FK.at_off f o j
def roomOf (len : Nat) : Cap → Nat | .exact c => c | _ => len
def foldRow (h : Heap) (b : Nat) (v : AV) : Option (Heap × Nat × Nat × Cap) :=
  match h[b]? with
  | some ⟨rw, .hdr p n q of ln cp⟩ => (match v with
    | .nils => some (h, 0, 0, .exact 0)
    | .slice _ b' o' len' cap' 1 => if b' = p then some (h, o', len', viewCap cap') else
      (match h[p]?, h[b']? with
      | some ⟨true, .flat _ f1⟩, some ⟨true, .flat _ f2⟩ => if b' ≠ b ∧ p ≠ b then (match FK.join q f1 (f2.offZ o') with
          | some f3 => some ((kills [p, b'] h).set b ⟨rw, .hdr h.length n (q + roomOf len' cap') of ln cp⟩ ++ [⟨true, .flat 0 f3⟩], q, len', viewCap cap')
          | none => none) else none
      | _, _ => none)
    | _ => none)
  | _ => none
def poolLoc (M N : Loc) (q o n : Nat) : Loc := ⟨fun i => if i < q then M.pl i else if i - q < n then N.pl (o + (i - q)) else none, fun _ _ => False⟩
theorem poolLoc_pl {M N : Loc} {q o n i : Nat} {p : Nat × Nat} (h : (poolLoc M N q o n).pl i = some p) : (i < q ∧ M.pl i = some p) ∨ (q ≤ i ∧ i - q < n ∧ N.pl (o + (i - q)) = some p) := by
  simp only [poolLoc] at h
  split at h
  · rename_i h1; exact .inl ⟨h1, h⟩
  · rename_i h1
    split at h
    · rename_i h2; exact .inr ⟨by omega, h2, h⟩
    · cases h
theorem slice_viewCap {β : Names} {nn : Bool} {b o len : Nat} {cap : Cap} {esz : Nat} {u : Value} (h : (AV.slice nn b o len cap esz).rel1 β u) : (AV.slice false b o len (viewCap cap) esz).rel1 β u := by
  obtain ⟨L, a, c, B, X, hL, he, hle, hnn, ha, hcap⟩ := h
  refine ⟨L, a, c, B, X, hL, he, hle, by simp, ha, ?_⟩
  cases cap with
  | exact c0 => exact hcap
  | unk => exact hcap
  | whole => exact capRel_span hle hcap
theorem foldRow_ok {β : Names} {h h1 : Heap} {w : World} {b : Nat} {v : AV} {u : Value} {off len : Nat} {cap : Cap} (hr : HRel β h w) (hf : foldRow h b v = some (h1, off, len, cap)) (hv : v.rel1 β u) :
    ∃ γ rw p0 q0 p n q of ln cp, After β γ h h1 w w ∧ h[b]? = some ⟨rw, .hdr p0 n q0 of ln cp⟩ ∧ h1[b]? = some ⟨rw, .hdr p n q of ln cp⟩ ∧ (AV.slice false p off len cap 1).rel1 γ u := by
  unfold foldRow at hf
  split at hf
  · rename_i rw p n q of ln cp hb
    obtain ⟨L, hL, hrel⟩ := hr.blk b _ hb (by simp)
    obtain ⟨⟨M, hM, hq⟩, hcont⟩ := hrel.cont
    split at hf
    · cases hf
      cases hv
      exact ⟨β, rw, p, q, p, n, q, of, ln, cp, After.refl hr, hb, hb, M, none, 0, 0, 0, hM, rfl, Nat.le_refl _, by simp, .inl rfl, rfl, fun j hj => absurd hj (by simp)⟩
    · rename_i nn b' o' len' cap'
      split at hf
      · rename_i hbp
        subst hbp
        cases hf
        exact ⟨β, rw, b', q, b', n, q, of, ln, cp, After.refl hr, hb, hb, slice_viewCap hv⟩
      · rename_i hbp
        split at hf
        · rename_i m1 f1 m2 f2 hp hb'
          split at hf
          · rename_i hne
            obtain ⟨hne1, hne2⟩ := hne
            split at hf
            · rename_i f3 hj
              simp only [Option.some.injEq, Prod.mk.injEq] at hf
              obtain ⟨rfl, rfl, rfl, rfl⟩ := hf
              obtain ⟨N, a, c, B, X, hN, rfl, hle, hnn, ha, hcap⟩ := hv
              obtain ⟨M', hM', hpr⟩ := hr.blk p _ hp (by simp)
              rw [hM] at hM'; cases hM'
              obtain ⟨N', hN', hbr⟩ := hr.blk b' _ hb' (by simp)
              rw [hN] at hN'; cases hN'
              have hMi := hr.inj p _ M hp hM rfl (by simp)
              have hNi := hr.inj b' _ N hb' hN rfl (by simp)
              have hdis : ∀ B X, M.own B X → N.own B X → False := fun B X => hr.disj p b' _ _ M N B X (fun e => hbp e.symm) hp hb' hM hN rfl (by simp) (by simp)
              have hown : ∀ B X, (poolLoc M N q o' (roomOf len' cap')).own B X → M.own B X ∨ N.own B X := by
                rintro B X (⟨i, hi⟩ | hi)
                · rcases poolLoc_pl hi with ⟨_, h1⟩ | ⟨_, _, h1⟩
                  · exact .inl (.inl ⟨_, h1⟩)
                  · exact .inr (.inl ⟨_, h1⟩)
                · exact hi.elim
              have hinj : (poolLoc M N q o' (roomOf len' cap')).inj := by
                refine ⟨fun i j pp hi hj => ?_, fun i B X _ hs => hs.elim⟩
                rcases poolLoc_pl hi with ⟨h1, h2⟩ | ⟨h1, _, h2⟩ <;> rcases poolLoc_pl hj with ⟨g1, g2⟩ | ⟨g1, _, g2⟩
                · exact hMi.1 _ _ _ h2 g2
                · exact (hdis pp.1 pp.2 (.inl ⟨_, h2⟩) (.inl ⟨_, g2⟩)).elim
                · exact (hdis pp.1 pp.2 (.inl ⟨_, g2⟩) (.inl ⟨_, h2⟩)).elim
                · have := hNi.1 _ _ _ h2 g2; omega
              have hx : Blk.rel (extN β h.length (poolLoc M N q o' (roomOf len' cap'))) (poolLoc M N q o' (roomOf len' cap')) ⟨true, .flat 0 f3⟩ w := by
                refine ⟨fun _ B X ho => ?_, fun i B X hi => ?_⟩
                · rcases hown B X ho with h1 | h1
                  · obtain ⟨c1, c2⟩ := hpr.cells (by simp) B X h1; exact ⟨c1, fun _ => c2 rfl⟩
                  · obtain ⟨c1, c2⟩ := hbr.cells (by simp) B X h1; exact ⟨c1, fun _ => c2 rfl⟩
                · rw [FK.join_at hj]
                  rcases poolLoc_pl hi with ⟨h1, h2⟩ | ⟨h1, _, h2⟩
                  · rw [if_pos h1]; exact hpr.cont i B X h2
                  · rw [if_neg (by omega), FK.at_offZ]; exact hbr.cont _ B X h2
              have a1 := push_world (ds := [p, b']) (w' := w) hr (by
                intro d hd
                simp only [List.mem_cons, List.not_mem_nil, or_false] at hd
                rcases hd with rfl | rfl
                · exact ⟨_, M, hp, rfl, by simp, hM⟩
                · exact ⟨_, N, hb', rfl, by simp, hN⟩) hx hinj (fun B X ho => by
                rcases hown B X ho with h1 | h1
                · exact .inr ⟨p, by simp, M, hM, h1⟩
                · exact .inr ⟨b', by simp, N, hN, h1⟩) (Ext.refl _ _) (fun _ _ _ => rfl)
              have hself : extN β h.length (poolLoc M N q o' (roomOf len' cap')) h.length = some (poolLoc M N q o' (roomOf len' cap')) := by unfold extN; rw [if_pos rfl]
              have hblt : b < h.length := (List.getElem?_eq_some_iff.1 hb).1
              have hbat : (kills [p, b'] h ++ [⟨true, .flat 0 f3⟩])[b]? = some ⟨rw, .hdr p n q of ln cp⟩ := by
                rw [List.getElem?_append_left (by rw [kills_length]; exact hblt), kills_get (by simp; exact ⟨fun e => hne2 e.symm, fun e => hne1 e.symm⟩)]
                exact hb
              have hLb : extN β h.length (poolLoc M N q o' (roomOf len' cap')) b = some L := by unfold extN; rw [if_neg (by omega)]; exact hL
              have hred : Blk.rel (extN β h.length (poolLoc M N q o' (roomOf len' cap'))) L ⟨rw, .hdr h.length n (q + roomOf len' cap') of ln cp⟩ w := by
                refine ⟨fun _ => hrel.cells (by simp), ⟨_, hself, fun i hi => ?_⟩, fun i B X hi => ?_⟩
                · simp only [poolLoc]
                  rw [if_neg (by omega), if_neg (by omega)]
                · obtain ⟨y, e1, L3, a3, c3, B3, X3, hL3, e2, e3, e4, e5, e6⟩ := hcont i B X hi
                  rw [hM] at hL3; cases hL3
                  have hsp : ∀ {o m : Nat} {B X : Nat}, M.span o m B X → (poolLoc M N q o' (roomOf len' cap')).span o m B X := by
                    intro o m B X hs j hj
                    have := hs j hj
                    simp only [poolLoc]
                    rw [if_pos (by
                      rcases Nat.lt_or_ge (o + j) q with h1 | h1
                      · exact h1
                      · rw [hq _ h1] at this; cases this)]
                    exact this
                  refine ⟨y, e1, _, a3, c3, B3, X3, hself, e2, e3, e4, e5, ?_⟩
                  cases cp with
                  | none => exact hsp e6
                  | some g => exact ⟨e6.1, hsp e6.2⟩
              have a2 := HRel.redo (x' := ⟨rw, .hdr h.length n (q + roomOf len' cap') of ln cp⟩) a1.rel hbat hLb (by simp) (fun e => e) hred
              have hset : (kills [p, b'] h).set b ⟨rw, .hdr h.length n (q + roomOf len' cap') of ln cp⟩ ++ [(⟨true, .flat 0 f3⟩ : Blk)] = (kills [p, b'] h ++ [(⟨true, .flat 0 f3⟩ : Blk)]).set b ⟨rw, .hdr h.length n (q + roomOf len' cap') of ln cp⟩ := by
                rw [List.set_append_left _ _ (by rw [kills_length]; exact hblt)]
              rw [hset]
              refine ⟨_, rw, p, q, h.length, n, q + roomOf len' cap', of, ln, cp, a1.trans a2, hb, List.getElem?_set_self (by simp [kills_length]; omega), ?_⟩
              have hspN : ∀ {m : Nat}, m ≤ roomOf len' cap' → N.span o' m B X → (poolLoc M N q o' (roomOf len' cap')).span q m B X := by
                intro m hm hs j hj
                simp only [poolLoc]
                rw [if_neg (by omega), if_pos (by omega), show q + j - q = j by omega]
                exact hs j hj
              refine ⟨_, a, c, B, X, hself, rfl, hle, by simp, ha, ?_⟩
              cases cap' with
              | exact c0 =>
                obtain ⟨rfl, hs⟩ := hcap
                exact ⟨rfl, hspN (by simp [roomOf]) hs⟩
              | unk => exact hspN (by simp [roomOf]) (capRel_span (cap := .unk) hle hcap)
              | whole => exact hspN (by simp [roomOf]) (capRel_span (cap := .whole) hle hcap)
            · cases hf
          · cases hf
        · cases hf
    · cases hf
  · cases hf
def scatter (h : Heap) : List (Nat × Nat) → List Run → Option Heap
  | [], [] => some h
  | (b, n) :: bs, r :: rs => (match h[b]? with
    | some ⟨true, .flat m (.ints k _)⟩ => if r.kind = k ∧ r.size = n ∧ 0 < n then scatter (h.set b ⟨true, .flat m (.ints k r.get)⟩) bs rs else none
    | _ => none)
  | _, _ => none
def isFalse : AV → Bool
  | .bool b => !b
  | _ => false
theorem falses {β : Names} : ∀ {vs : List AV} {xs : List Value}, vs.all isFalse = true → all2 (AV.rel1 β) vs xs → xs.flatMap (fun x => x.cells.toList) = List.replicate vs.length (.bool false)
  | [], [], _, _ => rfl
  | v :: vs, x :: xs, h, ⟨h1, h2⟩ => by
    simp only [List.all_cons, Bool.and_eq_true] at h
    have hv : v = .bool false := by
      cases v <;> simp [isFalse] at h
      rw [h.1]
    subst hv
    cases h1
    rw [List.flatMap_cons, falses h.2 h2]
    simp [Value.cells, List.replicate_succ]
def xstore (E : Env) (h : Heap) (t : TypeId) (x v : AV) : Option Heap :=
  match E.lay t with
  | some (.int kd) => (match v with
    | .int kv n => if kv = kd then (match x with
      | .ptr b o m => (match h[b]? with
        | some ⟨true, .flat sz (.ints k g)⟩ => if k = kd ∧ 1 ≤ m then some (h.set b ⟨true, .flat sz (.ints k (upd g o n))⟩) else none
        | _ => none)
      | .sptr [(b, m)] => (match h[b]? with
        | some ⟨true, .flat sz (.ints k _)⟩ => if k = kd ∧ m = 1 then some (h.set b ⟨true, .flat sz (.ints k (fun _ => n))⟩) else none
        | _ => none)
      | _ => none) else none
    | _ => none)
  | some (.arr len _ esz kd) => (match v with
    | .agg [r] => if r.kind = kd ∧ r.size = len * esz then (match x with
      | .ptr b o m => (match h[b]? with
        | some ⟨true, .flat sz (.ints k g)⟩ => if k = kd ∧ m = len * esz then some (h.set b ⟨true, .flat sz (.ints k (updN g o m r.get))⟩) else none
        | _ => none)
      | .sptr bs => if sizes bs = len * esz then scatter h bs [r] else none
      | _ => none) else none
    | _ => none)
  | some (.struct _ rs0) => (match v with
    | .agg rs => (match x with
      | .sptr bs => if sizes bs = total rs0 then scatter h bs rs else none
      | _ => none)
    | _ => none)
  | some (.mix ..) => none
  | some (.barr len _) => (match v with
    | .mixv vs => (match x with
      | .sptr [(b, m)] => (match h[b]? with
        | some ⟨true, .flat sz (.bools g)⟩ => if m = len ∧ vs.length = len ∧ vs.all isFalse = true then some (h.set b ⟨true, .flat sz (.bools (updN g 0 len fun _ => false))⟩) else none
        | _ => none)
      | _ => none)
    | _ => none)
  | some .other | none => none
  | some _ => if oneAV v = true then (match x with
    | .sptr [(b, m)] => (match h[b]? with
      | some ⟨true, .avs vs⟩ => if m = 1 then some (h.set b ⟨true, .avs (vs.set 0 v)⟩) else none
      | _ => none)
    | .ptr b o m => (match h[b]? with
      | some ⟨true, .avs vs⟩ => if 1 ≤ m then some (h.set b ⟨true, .avs (vs.set o v)⟩) else none
      | some ⟨true, .flat sz f⟩ => if 1 ≤ m then (match f.put o v with | some r => some (h.set b ⟨true, .flat sz r⟩) | none => none) else none
      | some ⟨true, .hdr ..⟩ => if 1 ≤ m then (match foldRow h b v with
        | some (h1, off, len, cap) => (match h1[b]? with
          | some ⟨true, .hdr p n q of ln cp⟩ => some (h1.set b ⟨true, .hdr p n q (upd of o off) (upd ln o len) (hdrPut cp o cap)⟩)
          | _ => none)
        | none => none) else none
      | _ => none)
    | _ => none) else none
theorem ext_after {β : Names} {h h' : Heap} {w w1 w2 : World} (e1 : Ext (Mine β h) w w1) (m1 : ∀ a, Mine β h' a → Mine β h a) (e2 : Ext (Mine β h') w1 w2) : Ext (Mine β h) w w2 :=
  e1.trans e2 fun a ha => .inl (m1 a ha)
theorem storeCells_append (B o : Nat) : ∀ (xs ys : List Value) (i : Nat), storeCells ⟨B, o, none⟩ (xs ++ ys) i = (do storeCells ⟨B, o, none⟩ xs i; storeCells ⟨B, o, none⟩ ys (i + xs.length))
  | [], ys, i => by simp [storeCells]
  | x :: xs, ys, i => by
    simp only [List.cons_append, storeCells, storeCells_append B o xs ys (i + 1), bind_assoc, List.length_cons]
    rw [show i + 1 + xs.length = i + (xs.length + 1) by omega]
theorem storeCells_shift (B : Nat) : ∀ (xs : List Value) (o i : Nat), storeCells ⟨B, o, none⟩ xs i = storeCells ⟨B, o + i, none⟩ xs 0
  | [], _, _ => rfl
  | x :: xs, o, i => by
    simp only [storeCells, add_mk, Nat.add_zero, Nat.zero_add]
    rw [storeCells_shift B xs o (i + 1), storeCells_shift B xs (o + i) 1]
    rw [show o + (i + 1) = o + i + 1 by omega]
theorem ints_all {P : Program} {β : Names} {h : Heap} {w : World} {b m B X n : Nat} {k : IntKind} {g q : Nat → Int} (hr : HRel β h w) (hb : h[b]? = some ⟨true, .flat m (.ints k g)⟩) (hL : β b = some (Loc.lin B X n)) :
    ∃ w', (storeCells ⟨B, X, none⟩ (Run.cells ⟨k, n, q⟩)).run P w = .ok () w' ∧ Wrote β h (h.set b ⟨true, .flat m (.ints k q)⟩) w w' := by
  obtain ⟨w', h1, h2⟩ := flat_write (P := P) (vs := Run.cells ⟨k, n, q⟩) (o := 0) hr hb hL (by rw [Run.cells_length]; simpa using Loc.lin_span (blk := B) (base := X) (o := 0) (k := n) (n := n) (by omega)) (run_one _ _ _)
  refine ⟨w', h1, h2 m _ (fun j hj => ?_) (fun i p hp hn => ?_)⟩
  · rw [Run.cells_length] at hj
    rw [Run.cells_get _ hj]; simp [FK.at]
  · rw [Run.cells_length] at hn
    have h3 : i < n := (Loc.lin_pl.1 hp).1
    exact absurd ⟨by omega, by simpa using h3⟩ hn
theorem scatter_ok {P : Program} {β : Names} : ∀ {bs : List (Nat × Nat)} {rs : List Run} {h h' : Heap} {w : World} {blk base : Nat}, scatter h bs rs = some h' → HRel β h w → chained β blk base bs →
    (cellsOf rs).length = sizes bs ∧ ∀ (o0 i0 : Nat), o0 + i0 = base → ∃ w', (storeCells ⟨blk, o0, none⟩ (cellsOf rs) i0).run P w = .ok () w' ∧ Wrote β h h' w w'
  | [], [], h, h', w, blk, base, hs, hr, _ => by
    simp [scatter] at hs; subst hs
    exact ⟨by simp [cellsOf, sizes], fun o0 i0 _ => ⟨w, by simp [cellsOf, storeCells], hr, Ext.refl _ _, fun _ h => h, rfl⟩⟩
  | [], _ :: _, _, _, _, _, _, hs, _, _ => by simp [scatter] at hs
  | _ :: _, [], _, _, _, _, _, hs, _, _ => by simp [scatter] at hs
  | (b, n) :: bs, r :: rs, h, h', w, blk, base, hs, hr, ⟨h1, h2⟩ => by
    simp only [scatter] at hs
    split at hs
    · rename_i m k g hb
      split at hs
      · rename_i hc
        obtain ⟨hc1, hc2, hc3⟩ := hc
        obtain ⟨w1, s1, hr1, s3, hm1, _⟩ := ints_all (P := P) (q := r.get) hr hb h1
        obtain ⟨i1, i2⟩ := scatter_ok (P := P) hs hr1 h2
        have hcr : r.cells = Run.cells ⟨k, n, r.get⟩ := by subst hc1; subst hc2; rfl
        have hcc : cellsOf (r :: rs) = Run.cells ⟨k, n, r.get⟩ ++ cellsOf rs := by simp [cellsOf, hcr]
        refine ⟨by rw [hcc]; simp [sizes, Run.cells_length, i1], fun o0 i0 hoi => ?_⟩
        obtain ⟨w2, t1, t2, t3, t4, t5⟩ := i2 o0 (i0 + n) (by omega)
        refine ⟨w2, ?_, t2, ext_after s3 hm1 t3, fun a ha => hm1 a (t4 a ha), by rw [t5]; simp⟩
        rw [hcc, storeCells_append, Run.cells_length, Sem.run_bind]
        have s1' : (storeCells ⟨blk, o0, none⟩ (Run.cells ⟨k, n, r.get⟩) i0).run P w = .ok () w1 := by
          rw [storeCells_shift]
          rw [← s1, hoi]
        rw [s1', Result.andThen_ok, t1]
      · cases hs
    · cases hs
theorem xstore_ok {E : Env} (hE : laysOk E.P E.lays = true) {h h' : Heap} {t : TypeId} {x v : AV} (hx : xstore E h t x v = some h') {β : Names} {w : World} (hr : HRel β h w) {y z : Value} (hy : x.rel β y) (hz : v.rel β z) :
    ∃ w' γ, (Instr.storeAt t y z).run E.P w = .ok () w' ∧ After β γ h h' w w' := by
  have fin_ints : ∀ {b o m n B X : Nat} {f r : FK} {v : FK} {L : Loc}, h[b]? = some ⟨true, .flat m f⟩ → β b = some L → L.span o n B X → f.updN o n v = some r → (E.P.info? t).map (·.size) = some n → z.cells.toList = v.cells n → h' = h.set b ⟨true, .flat m r⟩ →
      ∃ w' γ, (Instr.storeAt t (.pointer (some ⟨B, X, none⟩)) z).run E.P w = .ok () w' ∧ After β γ h h' w w' := by
    intro b o m n B X f r v L hb hL hin hu hsz hz he
    obtain ⟨w', s1, s2⟩ := flat_updN (P := E.P) hr hb hL hin hu
    refine ⟨w', β, run_storeAt ?_ (by rw [hz]; exact s1), ?_⟩
    · rw [hsz, ← Array.length_toList, hz, FK.cells_length]
    · subst he; exact after_wrote s2
  have fin_one : oneAV v = true → (E.P.info? t).map (·.size) = some 1 → ∀ {B X : Nat} {h2 : Heap} {γ : Names}, y = .pointer (some ⟨B, X, none⟩) → After β γ h h2 w w → (∃ w', (storeCells ⟨B, X, none⟩ [z]).run E.P w = .ok () w' ∧ Wrote γ h2 h' w w') →
      ∃ w' γ, (Instr.storeAt t y z).run E.P w = .ok () w' ∧ After β γ h h' w w' := by
    rintro ho hsz B X h2 γ rfl ha ⟨w', s1, s2⟩
    have hz1 : v.rel1 β z := by cases v <;> first | exact hz | cases ho
    obtain ⟨_, hc⟩ := one_of_rel1 hz1 ho
    exact ⟨w', γ, run_storeAt (by rw [hsz, hc]; rfl) (by rw [hc]; exact s1), ha.trans (after_wrote s2)⟩
  have fin_scatter : ∀ {bs : List (Nat × Nat)} {rs : List Run}, v = .agg rs → scatter h bs rs = some h' → ptrRel β bs y → (E.P.info? t).map (·.size) = some (sizes bs) →
      ∃ w' γ, (Instr.storeAt t y z).run E.P w = .ok () w' ∧ After β γ h h' w w' := by
    intro bs rs hv hs hp hsz
    subst hv
    cases hz
    obtain ⟨_, blk, base, rfl, hch⟩ := hp
    obtain ⟨s1, s2⟩ := scatter_ok (P := E.P) hs hr hch
    obtain ⟨w', t1, t2⟩ := s2 base 0 (by omega)
    exact ⟨w', β, run_storeAt (by rw [hsz]; simp [Value.cells, s1]) (by simpa [Value.cells] using t1), after_wrote t2⟩
  unfold xstore at hx
  split at hx
  · rename_i kd hl
    obtain ⟨_, i, hi, hsz, _⟩ := lay_int (laysOk_at hE hl)
    have hsz1 : (E.P.info? t).map (·.size) = some 1 := by simp [hi, hsz]
    split at hx
    · rename_i kv n
      split at hx
      · rename_i hkv
        subst hkv
        cases hz
        split at hx
        · rename_i b o m
          obtain ⟨L, B, X, hL, rfl, hin⟩ := hy
          split at hx
          · rename_i sz k g hb
            split at hx
            · rename_i hk
              cases hx
              refine fin_ints (n := 1) (v := .ints k fun _ => n) hb hL (fun j hj => hin j (by omega)) (by first | (simp [FK.updN]; done) | (simp [FK.updN]; rfl)) hsz1 ?_ (by rw [upd_eq])
              rw [hk.1]; simp [Value.cells, FK.cells, FK.at]
            · cases hx
          · cases hx
        · rename_i b m
          obtain ⟨B, X, hL, rfl⟩ := sptr_one hy
          split at hx
          · rename_i sz k g hb
            split at hx
            · rename_i hk
              cases hx
              obtain ⟨rfl, rfl⟩ := hk
              obtain ⟨w', s1, s2⟩ := ints_all (P := E.P) (q := fun _ => n) hr hb hL
              exact ⟨w', β, run_storeAt (by rw [hsz1]; rfl) (by simpa [Value.cells, Run.cells] using s1), after_wrote s2⟩
            · cases hx
          · cases hx
        · cases hx
      · cases hx
    · cases hx
  · rename_i len e esz kd hl
    obtain ⟨_, ⟨i, hi, hsz, _⟩, _, _, _, _, hpos⟩ := lay_arr (laysOk_at hE hl)
    have hsz1 : (E.P.info? t).map (·.size) = some (len * esz) := by simp [hi, hsz]
    split at hx
    · rename_i r
      split at hx
      · rename_i hrk
        split at hx
        · rename_i b o m
          cases hz
          obtain ⟨L, B, X, hL, rfl, hin⟩ := hy
          split at hx
          · rename_i sz k g hb
            split at hx
            · rename_i hk
              cases hx
              obtain ⟨rk, rsz, rg⟩ := r
              simp only at hrk
              obtain ⟨rfl, rfl⟩ := hrk
              obtain ⟨rfl, rfl⟩ := hk
              exact fin_ints (n := len * esz) (v := .ints k rg) hb hL hin (by first | (simp [FK.updN]; done) | (simp [FK.updN]; rfl)) hsz1 (by first | (simp [Value.cells, cellsOf]; done) | (simp [Value.cells, cellsOf]; rfl)) rfl
            · cases hx
          · cases hx
        · rename_i bs
          split at hx
          · rename_i hs
            exact fin_scatter rfl hx hy (by rw [hsz1, hs])
          · cases hx
        · cases hx
      · cases hx
    · cases hx
  · rename_i fs rs0 hl
    obtain ⟨_, i, hi, hsz, _⟩ := lay_struct (laysOk_at hE hl)
    split at hx
    · rename_i rs
      split at hx
      · rename_i bs
        split at hx
        · rename_i hs
          exact fin_scatter rfl hx hy (by simp [hi, hsz, hs])
        · cases hx
      · cases hx
    · cases hx
  · cases hx
  · rename_i len e hl
    obtain ⟨_, ⟨i, hi, hsz, _⟩, _⟩ := lay_barr (laysOk_at hE hl)
    have hsz1 : (E.P.info? t).map (·.size) = some len := by simp [hi, hsz]
    split at hx
    · rename_i vs
      split at hx
      · rename_i b m
        split at hx
        · rename_i sz g hb
          split at hx
          · rename_i hk
            cases hx
            obtain ⟨rfl, hvl, hvf⟩ := hk
            obtain ⟨xs, rfl, hxs⟩ := hz
            obtain ⟨_, blk, base, rfl, hL, _⟩ := hy
            refine fin_ints (o := 0) (n := m) (v := .bools fun _ => false) hb hL (Loc.lin_span (o := 0) (by omega)) (by first | (simp [FK.updN]; done) | (simp [FK.updN]; rfl)) hsz1 ?_ rfl
            rw [show (Value.agg (xs.flatMap fun x => x.cells.toList).toArray).cells.toList = xs.flatMap fun x => x.cells.toList by simp [Value.cells], falses hvf hxs, hvl]
            apply List.ext_getElem <;> simp [FK.cells, FK.at]
          · cases hx
        · cases hx
      · cases hx
    · cases hx
  · cases hx
  · cases hx
  · rename_i l h1 h2 h3 h5 h6 h4 hl
    have hc := laysOk_at hE hl
    have ho : l.one = true := by
      cases l <;> first | rfl | (exfalso; first | exact h1 _ rfl | exact h2 _ _ _ _ rfl | exact h3 _ _ rfl | exact h4 rfl | exact h5 _ _ rfl | exact h6 _ _ rfl)
    obtain ⟨_, _, i, hi, hsz⟩ := lay_one hc ho
    have hsz1 : (E.P.info? t).map (·.size) = some 1 := by simp [hi, hsz]
    split at hx
    · rename_i hone
      have hz1 : v.rel1 β z := by cases v <;> first | exact hz | cases hone
      split at hx
      · rename_i b m
        obtain ⟨B, X, hL, rfl⟩ := sptr_one hy
        split at hx
        · rename_i vs hb
          split at hx
          · rename_i hm
            cases hx
            subst hm
            exact fin_one hone hsz1 rfl (After.refl hr) (avs_write (P := E.P) hr hb hL (by simpa using Loc.lin_span (blk := B) (base := X) (o := 0) (k := 1) (n := 1) (by omega)) hz1 hone)
          · cases hx
        · cases hx
      · rename_i b o m
        obtain ⟨L, B, X, hL, rfl, hin⟩ := hy
        split at hx
        · rename_i vs hb
          split at hx
          · rename_i hm
            cases hx
            exact fin_one hone hsz1 rfl (After.refl hr) (avs_write (P := E.P) hr hb hL (fun j hj => hin j (by omega)) hz1 hone)
          · cases hx
        · rename_i sz f hb
          split at hx
          · rename_i hm
            split at hx
            · rename_i r hp
              cases hx
              exact fin_one hone hsz1 rfl (After.refl hr) (flat_put (P := E.P) hr hb hL (fun j hj => hin j (by omega)) hp hz1 hone)
            · cases hx
          · cases hx
        · split at hx
          · rename_i hm
            split at hx
            · rename_i h1 off len cap hf
              obtain ⟨γ, rw, p0, q0, p, n, q, of, ln, cp, a1, e1, e2, e3⟩ := foldRow_ok hr hf hz1
              rw [e2] at hx
              split at hx
              · rename_i heq
                cases heq
                cases hx
                exact fin_one hone hsz1 rfl a1 (hdr_write (P := E.P) a1.rel e2 (a1.le _ _ hL) (fun j hj => hin j (by omega)) e3)
              · cases hx
            · cases hx
          · cases hx
        · cases hx
      · cases hx
    · cases hx
end
end Go.Proofs.YtoeailachidcdaaGreatDoor.Hg
