/- Regions by virtual time, first part: what is read stays as new objects come; blocks that are set aside; operations that make something new. For any program. -/
import Derived.Test.YtapfboldkkodkaaGreatDoorVok
namespace Go.Proofs.YtapfboldkkodkaaGreatDoor
open Go.RowKit

section
variable {P : Program} {G : Globs}
/-! ### What is read stays, as new objects come -/
theorem objs_at {T0 T : VT} (h : T.objs.take T0.objs.length = T0.objs) {id : Nat} {o : VO} (k : T0.objs[id]? = some o) : T.objs[id]? = some o := by
  have hlt := (List.getElem?_eq_some_iff.1 k).1
  rw [← h, List.getElem?_take, if_pos hlt] at k
  exact k
theorem cellsAt_mono {T0 T : VT} (h : T.objs.take T0.objs.length = T0.objs) {x : TV} {n : Nat} {cs : List TV} (k : cellsAt T0 x n = some cs) : cellsAt T x n = some cs := by
  cases x
  case ptr id off =>
    simp only [cellsAt] at k ⊢
    split at k
    · rename_i cs' hid; rw [objs_at h hid]; exact k
    · rename_i cs' hid; rw [objs_at h hid]; exact k
    · cases k
  all_goals first
    | exact k
    | (simp only [cellsAt] at k; done)
theorem vload_mono {T0 T : VT} (h : T.objs.take T0.objs.length = T0.objs) {t : TypeId} {x y : TV} (k : vload P T0 t x = some y) : vload P T t x = some y := by
  unfold vload at k ⊢
  cases hu : P.underlying t with
  | none => rw [hu] at k; cases k
  | some d =>
    cases hi : P.info? t with
    | none => rw [hu, hi] at k; cases k
    | some i =>
      rw [hu, hi] at k
      simp only at k ⊢
      cases hb : isAggD d with
      | true =>
        rw [hb] at k
        simp only [if_true, Option.map_eq_some_iff] at k ⊢
        obtain ⟨cs, h1, h2⟩ := k
        exact ⟨cs, cellsAt_mono h h1, h2⟩
      | false =>
        rw [hb] at k
        simp only [Bool.false_eq_true, if_false] at k ⊢
        split at k
        · rename_i z hz; rw [cellsAt_mono h hz]; exact k
        · cases k
theorem vlen_mono {T0 T : VT} (h : T.objs.take T0.objs.length = T0.objs) {t : TypeId} {x y : TV} (k : vlen P T0 t x = some y) : vlen P T t x = some y := by
  unfold vlen at k ⊢
  cases hu : P.underlying t with
  | none => rw [hu] at k; cases k
  | some d =>
    rw [hu] at k
    cases d <;> try (exact k)
    cases x
    case val v =>
      cases v <;> try (exact k)
      rename_i m
      cases m <;> exact k
    case map id =>
      have k' : (match T0.objs[id]? with
        | some (VO.map _ _ es _) => some (TV.val (.int .i64 es.length))
        | _ => none) = some y := k
      show (match T.objs[id]? with
        | some (VO.map _ _ es _) => some (TV.val (.int .i64 es.length))
        | _ => none) = some y
      split at k'
      · rename_i hid; rw [objs_at h hid]; exact k'
      · cases k'
    all_goals exact k
theorem rowsR_mono {T0 T : VT} (h : T.objs.take T0.objs.length = T0.objs) {n : Nat} {x : TV} {y : List (List TV)} (k : rowsR T0 n x = some y) : rowsR T n x = some y := by
  cases x
  case row sz id off m =>
    simp only [rowsR] at k ⊢
    split at k
    · rename_i hid; rw [objs_at h hid]; exact k
    · cases k
  case sl id off m c =>
    simp only [rowsR] at k ⊢
    split at k
    · rename_i hid; rw [objs_at h hid]; exact k
    · rename_i hid; rw [objs_at h hid]; exact k
    · cases k
  case val v =>
    cases v <;> try (exact k)
    rename_i q m c
    cases q <;> try (exact k)
    cases m <;> exact k
  all_goals exact k
theorem vconvS_mono {T0 T : VT} (h : T.objs.take T0.objs.length = T0.objs) {s d : TypeId} {x y : TV} (k : vconvS P T0 s d x = some y) : vconvS P T s d x = some y := by
  unfold vconvS at k ⊢
  split at k
  · split at k
    · cases x
      case val v => exact k
      all_goals
        simp only at k ⊢
        split at k
        · rename_i es hes; rw [rowsR_mono h hes]; exact k
        · cases k
    · cases k
  · cases k
theorem vlookup_mono {T0 T : VT} (h : T.objs.take T0.objs.length = T0.objs) {t : TypeId} {m k y : TV} {ok : Bool} (q : vlookup P T0 t m k ok = some y) : vlookup P T t m k ok = some y := by
  unfold vlookup at q ⊢
  split at q
  · rename_i kt et kv hu hk
    split at q
    · rename_i sh i hs hi
      split at q
      · cases hb : sh.fits kv with
        | false => rw [hb] at q; cases q
        | true =>
          rw [hb] at q
          simp only [cond_true] at q ⊢
          cases m
          case val v =>
            cases v <;> try (exact q)
            rename_i m
            cases m <;> exact q
          case map id =>
            have q' : (match T0.objs[id]? with
              | some (VO.map sh' look _ _) => bif ksEq sh sh' then some (lookRes ok (look kv) _) else none
              | _ => none) = some y := q
            show (match T.objs[id]? with
              | some (VO.map sh' look _ _) => bif ksEq sh sh' then some (lookRes ok (look kv) _) else none
              | _ => none) = some y
            split at q'
            · rename_i hid; rw [objs_at h hid]; exact q'
            · cases q'
          all_goals exact q
      · cases q
    · cases q
  · cases q
theorem vread_mono {T0 T : VT} (h : T.objs.take T0.objs.length = T0.objs) {op : Op} {ev : Operand → TV} {y : TV} (k : vread P T0 op ev = some y) : vread P T op ev = some y := by
  cases op <;> simp only [vread] at k ⊢ <;> try (exact k)
  case load t a => exact vload_mono h k
  case call c =>
    obtain ⟨cal, args, ats⟩ := c
    unfold vcalls at k ⊢
    split at k
    · rename_i hc
      split at k
      · exact vlen_mono h k
      · cases k
    · exact k
    · exact k
    · cases k
theorem vread2_mono {T0 T : VT} (h : T.objs.take T0.objs.length = T0.objs) {op : Op} {ev : Operand → TV} {y : TV} (k : vread2 P T0 op ev = some y) : vread2 P T op ev = some y := by
  cases op <;> simp only [vread2] at k ⊢ <;> try (exact vread_mono h k)
  case convert s d x =>
    split at k
    · rename_i r hr
      rw [vconvS_mono h hr]; exact k
    · rename_i hn
      have e : vconvS P T s d (ev x) = none ∨ ∃ r, vconvS P T s d (ev x) = some r := by cases vconvS P T s d (ev x) <;> simp
      rcases e with e | ⟨r, e⟩
      · rw [e]; exact k
      · exfalso
        simp only [vread, Option.bind_eq_some_iff] at k
        obtain ⟨v, hv, k⟩ := k
        -- a value that is known whole is no row
        unfold vconvS at e
        split at e
        · rename_i el hs hd
          split at e
          · cases hx : ev x <;> rw [hx] at e hv <;> simp only at e <;> try (cases e)
            all_goals try (simp [toVal] at hv; done)
            all_goals
              rename_i cs
              simp only [rowsR] at e
              cases e
          · cases e
        · cases e
  case lookup t m q ok => exact vlookup_mono h k
/-! ### An operation that is carried out whenever it comes up -/
def OwnSem (P : Program) (G : Globs) (Tp : VT) (o : Oper) (s : List TV) (y : TV) : Prop := ∀ g w (ρ : Operand → Value) T, T.objs.take Tp.objs.length = Tp.objs → RW g T w → (∀ x, VR g w (vev G s x) (ρ x)) →
  ∃ m v g' w', (execOp ρ o).run P w = .ok m w' ∧ nextVal m = some v ∧ VR g' w' y v ∧ Evo g w g' w' ∧ RW g' T w' ∧ Same g T w w'
theorem take_nil (T : VT) : T.objs.take (⟨[], []⟩ : VT).objs.length = (⟨[], []⟩ : VT).objs := by simp
theorem take_trans {T0 T1 T2 : VT} (h : T1.objs.take T0.objs.length = T0.objs) (k : T2.objs.take T1.objs.length = T1.objs) : T2.objs.take T0.objs.length = T0.objs := by
  have hl : T0.objs.length ≤ T1.objs.length := by
    have := congrArg List.length h
    rw [List.length_take] at this; omega
  refine Eq.trans ?_ h
  rw [← k, List.take_take, Nat.min_eq_left hl]
theorem OwnSem.mono {T0 T1 : VT} (h : T1.objs.take T0.objs.length = T0.objs) {o : Oper} {s : List TV} {y : TV} (k : OwnSem P G T0 o s y) : OwnSem P G T1 o s y :=
  fun g w ρ T hT r hρ => k g w ρ T (take_trans h hT) r hρ
theorem pure_sem {o : Oper} {s : List TV} {y : TV} {ev : (Operand → TV)} (hev : ∀ g w (ρ : Operand → Value), (∀ x, VR g w (vev G s x) (ρ x)) → ∀ x, VR g w (ev x) (ρ x)) (h : vpure2 P o.op ev = some y) (Tp : VT) : OwnSem P G Tp o s y := by
  intro g w ρ T _ r hρ
  obtain ⟨v, h1, h2⟩ := vpure2_ok (P := P) h (hev g w ρ hρ)
  exact ⟨_, v, g, w, h2 w, rfl, h1, Evo.refl _ _, r, Same.refl _ _ _⟩
theorem read_sem {T0 : VT} {o : Oper} {s : List TV} {y : TV} (h : vread2 P T0 o.op (vev G s) = some y) : OwnSem P G T0 o s y := by
  intro g w ρ T hT r hρ
  obtain ⟨v, h1, h2⟩ := vread2_ok (P := P) r (vread2_mono hT h) hρ
  exact ⟨_, v, g, w, h2 w (Same.refl _ _ _), rfl, h1, Evo.refl _ _, r, Same.refl _ _ _⟩
theorem vownE_sem {T0 : VT} {o : Oper} {s : List TV} {y : TV} (h : vownE P T0 o.op (vev G s) = some y) : OwnSem P G ⟨[], []⟩ o s y ∨ (isRead P o.op = true ∧ vpure2 P o.op (vev G s) = none ∧ vread2 P T0 o.op (vev G s) = some y) := by
  unfold vownE at h
  split at h
  · rename_i x hx
    injection h with h; subst h
    exact .inl (pure_sem (fun _ _ _ h => h) hx _)
  · split at h
    · rename_i x hx
      injection h with h; subst h
      cases hr : isRead P o.op with
      | false => rw [hr] at hx; cases hx
      | true =>
        rw [hr] at hx
        simp only [cond_true] at hx
        exact .inr ⟨rfl, by assumption, hx⟩
    · split at h
      · rename_i t n ps hop
        left
        intro g w ρ T hT r hρ
        have hm : vmake P T o.op (vev G s) = some (y, T) := by
          rw [hop]
          simp only [vmake, Option.map_eq_some_iff] at h ⊢
          obtain ⟨z, ⟨y', h1, h2⟩, h3⟩ := h
          subst h2 h3
          exact ⟨_, h1, rfl⟩
        obtain ⟨v, g', w', h1, h2, h3, h4, h5⟩ := vmake_ok (P := P) r hm hρ
        exact ⟨_, v, g', w', h1, rfl, h2, h3, h4, h5⟩
      · cases h

/-! ### A store beside what is read -/
def AgreeOut (id off n : Nat) (T1 T2 : VT) : Prop := (∀ j, j ≠ id → T1.objs[j]? = T2.objs[j]?) ∧ (T1.objs[id]? = T2.objs[id]? ∨
  (∃ c1 c2, T1.objs[id]? = some (.cells c1) ∧ T2.objs[id]? = some (.cells c2) ∧ c1.length = c2.length ∧ ∀ k, (k < off ∨ off + n ≤ k) → c1[k]? = c2[k]?) ∨
  (∃ c1 c2, T1.objs[id]? = some (.row c1) ∧ T2.objs[id]? = some (.row c2) ∧ c1.length = c2.length ∧ ∀ k, (k < off ∨ off + n ≤ k) → c1[k]? = c2[k]?))
theorem setCs_out {cs new : List TV} {off : Nat} (h : off + new.length ≤ cs.length) : (setCs cs off new).length = cs.length ∧ ∀ k, (k < off ∨ off + new.length ≤ k) → cs[k]? = (setCs cs off new)[k]? := by
  unfold setCs
  refine ⟨by simp; omega, fun k hk => ?_⟩
  have hl : (cs.take off).length = off := by simp; omega
  rcases hk with hk | hk
  · rw [List.append_assoc, List.getElem?_append_left (by omega), List.getElem?_take, if_pos hk]
  · rw [List.getElem?_append_right (by simp; omega), List.getElem?_drop]
    congr 1
    simp; omega
theorem put_agree {ro : Nat} {T T' : VT} {t : TypeId} {id off : Nat} {x : TV} {new : List TV} (hn : cellsOf x = some new) (h : vput3 P ro T t (.ptr id off) x = some T') : AgreeOut id off new.length T T' ∧ T'.objs.length = T.objs.length := by
  unfold vput3 at h
  split at h
  · rename_i y T1 h1
    injection h with h; subst h
    unfold vstoreR at h1
    simp only [hn] at h1
    split at h1
    · rename_i cs new' i hid hnew hi
      injection hnew with hnew; subst hnew
      cases hb : (Nat.beq i.size new.length && Nat.ble (off + new.length) cs.length && new.all isCell && Nat.ble ro id) with
      | false => rw [hb] at h1; cases h1
      | true =>
        rw [hb] at h1
        simp only [Bool.and_eq_true] at hb
        have hle := Nat.le_of_ble_eq_true hb.1.1.2
        injection h1 with h1; injection h1 with _ h1; subst h1
        have hlt := (List.getElem?_eq_some_iff.1 hid).1
        obtain ⟨k1, k2⟩ := setCs_out hle
        exact ⟨⟨fun j hj => by simp only [List.getElem?_set]; rw [if_neg (fun e => hj e.symm)], .inr (.inr ⟨cs, _, hid, by simp [hlt], k1.symm, k2⟩)⟩, by simp⟩
    · cases h1
  · cases hr : Nat.ble ro id with
    | false => simp only [hr] at h; cases h
    | true =>
      simp only [hr, cond_true, Option.map_eq_some_iff] at h
      obtain ⟨⟨y, T1⟩, h1, h2⟩ := h
      simp only at h2; subst h2
      unfold vstore at h1
      simp only [hn] at h1
      split at h1
      · rename_i cs new' i hid hnew hi
        injection hnew with hnew; subst hnew
        split at h1
        · rename_i hh
          injection h1 with h1; injection h1 with _ h1; subst h1
          have hlt := (List.getElem?_eq_some_iff.1 hid).1
          obtain ⟨k1, k2⟩ := setCs_out hh.2.1
          exact ⟨⟨fun j hj => by simp only [List.getElem?_set]; rw [if_neg (fun e => hj e.symm)], .inr (.inl ⟨cs, _, hid, by simp [hlt], k1.symm, k2⟩)⟩, by simp⟩
        · cases h1
      · cases h1
theorem AgreeOut.take {id off n m : Nat} {T1 T2 : VT} (h : AgreeOut id off n T1 T2) : AgreeOut id off n (T1.takeO m) (T2.takeO m) := by
  have e : ∀ (T : VT) (j : Nat), (T.takeO m).objs[j]? = if j < m then T.objs[j]? else none := fun T j => by simp [VT.takeO, List.getElem?_take]
  refine ⟨fun j hj => by rw [e, e, h.1 j hj], ?_⟩
  rw [e, e]
  by_cases hm : id < m
  · rw [if_pos hm, if_pos hm]; exact h.2
  · rw [if_neg hm, if_neg hm]; exact .inl rfl
theorem cells_apart {c1 c2 : List TV} {off n off' m : Nat} (hl : c1.length = c2.length) (h : ∀ k, (k < off ∨ off + n ≤ k) → c1[k]? = c2[k]?) (ha : off' + m ≤ off ∨ off + n ≤ off') : (c1.drop off').take m = (c2.drop off').take m := by
  apply List.ext_getElem?
  intro k
  rw [List.getElem?_take, List.getElem?_take, List.getElem?_drop, List.getElem?_drop]
  split
  · exact h _ (by omega)
  · rfl
theorem apart_read {id off n : Nat} {T1 T2 : VT} (h : AgreeOut id off n T1 T2) {op : Op} {ev : Operand → TV} (ha : apartRead P id off n op ev = true) : vread2 P T1 op ev = vread2 P T2 op ev := by
  have hne : ∀ id', (!(Nat.beq id' id)) = true → T1.objs[id']? = T2.objs[id']? := fun id' hb => h.1 id' (by
    rintro rfl
    rw [Nat.beq_refl] at hb; cases hb)
  unfold apartRead at ha
  split at ha
  · rename_i t a
    simp only [vread2, vread]
    split at ha
    · rename_i id' off' hev
      rw [hev]
      have key : ∀ m, (P.info? t).map (fun i => decide (m ≤ max i.size 1)) = some true → cellsAt T1 (.ptr id' off') m = cellsAt T2 (.ptr id' off') m := by
        intro m hm
        simp only [cellsAt]
        by_cases hid : id' = id
        · subst hid
          rw [Nat.beq_refl] at ha
          simp only [Bool.not_true, Bool.false_or] at ha
          split at ha
          · rename_i i hi
            rw [hi] at hm
            simp only [Option.map_some, Option.some.injEq, decide_eq_true_eq] at hm
            have hap : off' + m ≤ off ∨ off + n ≤ off' := by
              simp only [Bool.or_eq_true] at ha
              rcases ha with ha | ha
              · have := Nat.le_of_ble_eq_true ha
                exact .inl (by omega)
              · exact .inr (Nat.le_of_ble_eq_true ha)
            rcases h.2 with h2 | ⟨c1, c2, h2, h3, h4, h5⟩ | ⟨c1, c2, h2, h3, h4, h5⟩
            · rw [h2]
            · rw [h2, h3]
              simp only
              rw [h4, cells_apart h4 h5 hap]
            · rw [h2, h3]
              simp only
              rw [h4, cells_apart h4 h5 hap]
          · cases ha
        · rw [h.1 id' hid]
      unfold vload
      cases hu : P.underlying t with
      | none => rfl
      | some d =>
        cases hi : P.info? t with
        | none => rfl
        | some i =>
          simp only
          rw [key i.size (by rw [hi]; simp; omega), key 1 (by rw [hi]; simp; omega)]
    · rename_i cs hev
      rw [hev]; rfl
    · cases ha
  · rename_i t m k ok
    simp only [vread2]
    split at ha
    · rename_i id' hev
      rw [hev]
      unfold vlookup
      simp only [hne id' ha]
    · cases ha
  · rename_i c
    simp only [vread2, vread]
    unfold vcalls
    split at ha
    · rename_i x hc hx
      simp only [hc, hx]
      split at ha
      · rename_i id' hev
        split
        · rename_i t x' h1 h2
          injection h2 with h2; subst h2
          rw [hev]
          unfold vlen
          simp only [hne id' ha]
        · rfl
      · cases ha
    · cases ha
  · cases ha
/-! ### Blocks that are set aside -/
def gP (g : Gh) (B : Nat → Prop) : Gh := { g with fr := fun b => g.fr b ∨ B b }
theorem TokOk.gh {g g' : Gh} (ht : g'.tail = g.tail) {tok : Tok} {size n b o c : Nat} (h : TokOk g tok size n b o c) : TokOk g' tok size n b o c := by
  cases tok <;> simp only [TokOk] at h ⊢ <;> try (exact h)
  rw [ht]; exact h
theorem NilTok.gh {g g' : Gh} (ht : g'.tail = g.tail) {tok : Tok} {size : Nat} (h : NilTok g tok size) : NilTok g' tok size := by
  cases tok <;> simp only [NilTok] at h ⊢ <;> try (exact h)
  rw [ht]; exact h
theorem VR.gh {g g' : Gh} {w : World} (ho : g'.obj = g.obj) (hs : g'.st = g.st) (ht : g'.tail = g.tail) {x : TV} {u : Value} (k : VR g w x u) : VR g' w x u := by
  induction k with
  | val v => exact .val v
  | dead v => exact .dead v
  | ptr hb => exact .ptr (by rw [ho]; exact hb)
  | sl hb => exact .sl (by rw [ho]; exact hb)
  | map hb => exact .map (by rw [ho]; exact hb)
  | yld hb => exact .yld (by rw [ho]; exact hb)
  | row hb hl hn hm hc => exact .row (by rw [ho]; exact hb) hl hn hm hc
  | nil hk => exact .nil (hk.gh ht)
  | vec hn hc hz hk hl h1 hs' hw _ ih => exact .vec hn hc hz (hk.gh ht) hl h1 (fun j hj => by rw [hs]; exact hs' j hj) hw ih
  | elt hl h1 hs' hw _ ih => exact .elt hl h1 (fun j hj => by rw [hs]; exact hs' j hj) hw ih
  | agg hl _ ih => exact .agg hl ih
  | tup hl _ ih => exact .tup hl ih
  | fn hl _ hl2 _ ih ih2 => exact .fn hl ih hl2 ih2
  | ifc _ ih => exact .ifc ih
theorem VR.toP {g : Gh} {w : World} {B : Nat → Prop} {x : TV} {u : Value} (k : VR g w x u) : VR (gP g B) w x u := VR.gh (g := g) (g' := gP g B) rfl rfl rfl k
theorem VR.ofP {g : Gh} {w : World} {B : Nat → Prop} {x : TV} {u : Value} (k : VR (gP g B) w x u) : VR g w x u := VR.gh (g := gP g B) (g' := g) rfl rfl rfl k
theorem VRs.gh {g g' : Gh} {w : World} (ho : g'.obj = g.obj) (hs : g'.st = g.st) (ht : g'.tail = g.tail) {xs : List TV} {us : List Value} (k : VRs g w xs us) : VRs g' w xs us := ⟨k.1, fun j x u hx hu => (k.2 j x u hx hu).gh ho hs ht⟩
theorem OR.gh {g g' : Gh} {w : World} (ho : g'.obj = g.obj) (hs : g'.st = g.st) (ht : g'.tail = g.tail) {b : Nat} {o : VO} (h : OR g w b o) : OR g' w b o := by
  cases o with
  | cells cs => obtain ⟨us, t, h1, h2, h3⟩ := h; exact ⟨us, t, h1, h2.gh ho hs ht, h3⟩
  | row cs => obtain ⟨us, t, h1, h2, h3, h4⟩ := h; exact ⟨us, t, h1, h2, h3.gh ho hs ht, h4⟩
  | map sh look es ck => obtain ⟨ms, h1, h2, h3, h4⟩ := h; exact ⟨ms, h1, h2, h3.gh ho hs ht, h4⟩
  | iter m since seen stepped => obtain ⟨mb, h1, h2⟩ := h; exact ⟨mb, h1, h2.gh ho hs ht⟩
  | siter s pos => exact h
  | loop st pend σ ps asg body => obtain ⟨us, fn, db, h1, h2⟩ := h; exact ⟨us, fn, db, h1, h2.gh ho hs ht⟩
  | defd => exact h
  | gone => trivial
/-- what is set aside may be another lot of blocks, none of which belongs to what is known -/
theorem RW.frs {g g' : Gh} {T : VT} {w : World} (r : RW g T w) (ho : g'.obj = g.obj) (hs : g'.st = g.st) (ht : g'.tail = g.tail)
    (hf : ∀ b, g'.fr b → b < w.heap.size ∧ (g.fr b ∨ ((∀ (id : Nat) o, T.objs[id]? = some o → o.live = true → g.obj id ≠ some b) ∧ ∀ (k : Nat) x, g.tail k = some x → ¬ x.has b))) : RW g' T w := by
  refine ⟨?_, ?_, ?_, ?_, fun b h => (hf b h).1, ?_, ?_, ?_, ?_, ?_, ?_, ?_⟩
  · intro id o h hl
    obtain ⟨b, h1, h2, h3, h4⟩ := r.obj id o h hl
    refine ⟨b, by rw [ho]; exact h1, h2.gh ho hs ht, fun hb => ?_, fun o => by rw [hs]; exact h4 o⟩
    rcases (hf b hb).2 with h5 | h5
    · exact h3 h5
    · exact h5.1 id o h hl h1
  · intro i j oi oj b h1 l1 h2 l2 b1 b2
    rw [ho] at b1 b2
    exact r.inj i j oi oj b h1 l1 h2 l2 b1 b2
  · intro id hid; rw [ho]; exact r.out id hid
  · intro b o h; rw [hs] at h; exact r.st b o h
  · intro k p h
    obtain ⟨x, h1, h2, h3, h4⟩ := r.tl k p h
    refine ⟨x, by rw [ht]; exact h1, h2, h3, fun b o hi => ?_⟩
    obtain ⟨h5, h6, h7, h8⟩ := h4 b o hi
    refine ⟨h5, h6, by rw [hs]; exact h7, fun hb => ?_⟩
    rcases (hf b hb).2 with h9 | h9
    · exact h8 h9
    · exact h9.2 k x h1 (.inl ⟨o, hi⟩)
  · intro k hk; rw [ht]; exact r.tout k hk
  · intro i j x y b h1 h2; rw [ht] at h1 h2; exact r.tinj i j x y b h1 h2
  · intro i oi b k x h1 l1 b1 hx; rw [ho] at b1; rw [ht] at hx; exact r.tobj i oi b k x h1 l1 b1 hx
  · intro k x hx
    rw [ht] at hx
    intro h1 h2
    obtain ⟨h3, h4, h5, h6, h7⟩ := r.own k x hx h1 h2
    refine ⟨h3, h4, h5, h6, fun hb => ?_⟩
    rcases (hf x.b hb).2 with h8 | h8
    · exact h7 h8
    · exact h8.2 k x hx (.inr ⟨h1, h2, rfl⟩)
  · intro k x hx; rw [ht] at hx; exact r.own0 k x hx
  · intro k x hx; rw [ht] at hx; exact r.tlo k x hx
theorem RW.lessFr {g g' : Gh} {T : VT} {w : World} (r : RW g T w) (ho : g'.obj = g.obj) (hs : g'.st = g.st) (ht : g'.tail = g.tail) (hf : ∀ b, g'.fr b → g.fr b) : RW g' T w :=
  r.frs ho hs ht fun b h => ⟨r.fr b (hf b h), .inl (hf b h)⟩
/-- what came of it, seen by who set nothing aside -/
theorem Evo.base {g g1 : Gh} {w w1 : World} {B : Nat → Prop} (e : Evo (gP g B) w g1 w1) : ∃ g', g1 = gP g' B ∧ g'.fr = g.fr ∧ Evo g w g' w1 ∧ (∀ b, B b → w1.heap[b]? = w.heap[b]?) ∧ ∀ b o, B b → g'.st b o → g.st b o := by
  have hfr := e.fr
  refine ⟨{ g1 with fr := g.fr }, ?_, rfl, ⟨e.os, e.tape, e.output, e.size, e.obj, e.st, rfl, fun b hb => e.frb b (.inl hb), fun b o hb h => e.frs b o (.inl hb) h, e.tail, e.tnew, e.csz⟩, fun b hb => e.frb b (.inr hb), fun b o hb h => e.frs b o (.inr hb) h⟩
  cases g1
  simp only [gP] at hfr ⊢
  rw [hfr]
/-- a block that nobody knows is turned -/
theorem RW.off {g : Gh} {T : VT} {w w' : World} {b : Nat} (r : RW g T w) (hfr : g.fr b) (hst : ∀ o, ¬ g.st b o) (hos : w'.os = w.os ∧ w'.tape = w.tape ∧ w'.output = w.output) (hsz : w'.heap.size = w.heap.size) (hoth : ∀ c, c ≠ b → w'.heap[c]? = w.heap[c]?) (hcs : csize w' b = csize w b) :
    RW g T w' ∧ ∀ g0 : Gh, g0.st = g.st → ¬ g0.fr b → Evo g0 w g0 w' := by
  have cellne : ∀ c p, c ≠ b → w'.cell? ⟨c, p, none⟩ = w.cell? ⟨c, p, none⟩ := fun c p hc => by unfold World.cell?; simp only [hoth c hc]
  have frzne : ∀ c p, c ≠ b → w'.frozen? ⟨c, p, none⟩ = w.frozen? ⟨c, p, none⟩ := fun c p hc => by unfold World.frozen?; simp only [hoth c hc]
  have csz : ∀ c, csize w' c = csize w c := fun c => by
    by_cases hc : c = b
    · subst hc; exact hcs
    · unfold csize; rw [hoth c hc]
  have ev : ∀ g0 : Gh, g0.st = g.st → ¬ g0.fr b → Evo g0 w g0 w' := fun g0 h1 h2 =>
    ⟨hos.1, hos.2.1, hos.2.2, by omega, fun _ _ h => h, fun c p hs => ⟨hs, cellne c p (by rintro rfl; rw [h1] at hs; exact hst p hs)⟩, rfl, fun c hc => hoth c (by rintro rfl; exact h2 hc), fun _ _ _ h => h, fun _ x h => ⟨x, h, .inl rfl, rfl, rfl⟩, (fun _ _ h h' => nomatch (h.symm.trans h')), fun c _ => csz c⟩
  refine ⟨?_, ev⟩
  have e0 : Evo { g with fr := fun c => g.fr c ∧ c ≠ b } w { g with fr := fun c => g.fr c ∧ c ≠ b } w' := ev _ rfl (fun h => h.2 rfl)
  refine ⟨?_, r.inj, r.out, ?_, fun c h => by rw [hsz]; exact r.fr c h, ?_, r.tout, r.tinj, r.tobj, ?_, r.own0, fun k x hx => by rw [hsz]; exact r.tlo k x hx⟩
  · intro id o h hl
    obtain ⟨c, h1, h2, h3, h4⟩ := r.obj id o h hl
    have hcb : c ≠ b := by rintro rfl; exact h3 hfr
    refine ⟨c, h1, ?_, h3, h4⟩
    have h5 : OR { g with fr := fun c => g.fr c ∧ c ≠ b } w c o := OR.gh (g := g) (g' := { g with fr := fun c => g.fr c ∧ c ≠ b }) rfl rfl rfl h2
    exact OR.gh (g := { g with fr := fun c => g.fr c ∧ c ≠ b }) (g' := g) rfl rfl rfl (OR.mono e0 (hoth c hcb) h5)
  · intro c o h
    have hcb : c ≠ b := by rintro rfl; exact hst o h
    rw [cellne c o hcb]; exact r.st c o h
  · intro k p h
    obtain ⟨x, h1, h2, h3, h4⟩ := r.tl k p h
    refine ⟨x, h1, h2, h3, fun c o hi => ?_⟩
    obtain ⟨h5, h6, h7, h8⟩ := h4 c o hi
    have hcb : c ≠ b := by rintro rfl; exact h8 hfr
    exact ⟨by rw [cellne c o hcb]; exact h5, by rw [frzne c o hcb]; exact h6, h7, h8⟩
  · intro k x hx h1 h2
    obtain ⟨⟨cur, h3, h3'⟩, h4, h5, h6, h7⟩ := r.own k x hx h1 h2
    have hcb : x.b ≠ b := fun e => h7 (e ▸ hfr)
    exact ⟨⟨cur, by rw [hoth _ hcb]; exact h3, h3'⟩, h4, h5, h6, h7⟩

/-! ### Operations that make something new out of nothing -/
structure FlSpec (P : Program) (o : Oper) (blk : Obj) (f : Nat → Value) (vo : VO) (mk : Nat → TV) : Prop where
  run : ∀ (ρ : Operand → Value) w, (∀ v, ρ (.const v) = v) → (execOp ρ o).run P w = .ok (.value (f w.heap.size)) (w.alloc blk)
  live : vo.live = true
  or : ∀ g w b, w.heap[b]? = some blk → OR g w b vo
  vr : ∀ g w id b, g.obj id = some b → b < w.heap.size → w.heap[b]? = some blk → VR g w (mk id) (f b)
theorem late_spec {o : Oper} {T0 : VT} (h : (vlateMk P T0 o.op).isSome = true) : ∃ blk f vo mk, FlSpec P o blk f vo mk ∧ ∀ T, vlateMk P T o.op = some (mk T.objs.length, { T with objs := T.objs ++ [vo] }) := by
  obtain ⟨dst, op, ty, pos, af, gd⟩ := o
  simp only at h
  cases op <;> simp only [vlateMk] at h <;> try (cases h)
  case alloc t =>
    unfold valloc at h
    cases hi : P.info? t with
    | none => rw [hi] at h; cases h
    | some i =>
      cases hz : i.zero with
      | none => rw [hi] at h; simp only [hz] at h; cases h
      | some z =>
        rw [hi] at h
        simp only [hz, vnew] at h
        by_cases hc : (z.cells.toList.map TV.val).all isCell = true
        · refine ⟨.cells z.cells t, fun b => .pointer (some ⟨b, 0, none⟩), .cells (z.cells.toList.map .val), fun id => .ptr id 0, ⟨fun ρ w _ => ?_, rfl, fun g w b hb => ?_, fun g w id b hb _ _ => .ptr hb⟩, fun T => ?_⟩
          · simp [execOp, Instr.alloc, zeroValue, typeInfo, hi, hz, newVar, newRow]
          · exact ⟨z.cells.toList, t, by simpa using hb, VRs.vals g w _, cells_one hc (VRs.vals g w _)⟩
          · simp only [vlateMk, valloc, hi, hz, vnew, hc, if_true]
        · rw [if_neg hc] at h; cases h
  case makeMap t r =>
    cases r with
    | some r => cases h
    | none =>
      simp only [vmakeMap] at h
      cases hu : P.underlying t with
      | none => rw [hu] at h; cases h
      | some d =>
        rw [hu] at h
        cases d <;> simp only at h <;> try (cases h)
        rename_i kt et
        cases hs : shapeOf P kt with
        | none => rw [hs] at h; cases h
        | some sh =>
          refine ⟨.map #[] 0, fun b => .map (some b), .map sh (fun _ => none) [] 0, fun id => .map id, ⟨fun ρ w _ => ?_, rfl, fun g w b hb => ?_, fun g w id b hb _ _ => .map hb⟩, fun T => ?_⟩
          · simp [execOp, Instr.makeMap, newObj, Sem.run]
          · exact ⟨#[], hb, by simp, by simpa using VRs.nil g _, by simp, by simp, by simp, fun k _ => rfl⟩
          · simp only [vlateMk, vmakeMap, hu, hs]
  case makeSlice t l c =>
    cases l <;> try (cases h)
    rename_i l
    cases c <;> try (cases h)
    rename_i c
    replace h : (vmakeR P T0 t (.val l) (.val c)).isSome = true := h
    unfold vmakeR at h
    split at h
    · rename_i kl l' kc c' e h1 h2 hu
      injection h1 with h1; injection h2 with h2; subst h1 h2
      split at h
      · rename_i i hi
        split at h
        · rename_i z hz
          cases hb : (decide (0 ≤ l') && decide (l' ≤ c') && decide ((i.bytes : Int) * c' ≤ 281474976710656) && decide (c' ≤ 140737488355328) && z.cells.toList.all Value.oneCell' && decide (0 < z.cells.size)) with
          | false => rw [hb] at h; cases h
          | true =>
            have hb' := hb
            simp only [Bool.and_eq_true, decide_eq_true_eq] at hb
            obtain ⟨⟨⟨⟨⟨h0, h1⟩, h2⟩, h3⟩, h4⟩, h5⟩ := hb
            have hlc : l'.toNat * i.size ≤ c'.toNat * i.size := Nat.mul_le_mul_right _ (by omega)
            have hlen : ((zeros z.cells (l'.toNat * i.size)).map TV.val).length = l'.toNat * i.size := by simp [zeros]
            refine ⟨.cells (madeCells z.cells (c'.toNat * i.size)) e, fun b => .slice (some ⟨b, 0, none⟩) l'.toNat c'.toNat, .row ((zeros z.cells (l'.toNat * i.size)).map .val), fun id => .row i.size id 0 l'.toNat, ⟨fun ρ w hρ => ?_, rfl, fun g w b hb => ?_, fun g w id b hb hlt hblk => ?_⟩, fun T => ?_⟩
            · have hrun := run_make (P := P) w t e i z hu hi hz kl kc l' c' h0 h1 h2 (by omega)
              simp [execOp, hρ, hrun]
            · refine ⟨(madeCells z.cells (c'.toNat * i.size)).toList, e, by simpa using hb, ?_, ?_, ?_⟩
              · rw [hlen]; simp [size_madeCells]; exact hlc
              · rw [hlen, makeSlice_cells hlc]; exact VRs.vals g _ _
              · intro u hu
                rw [Array.mem_toList_iff] at hu
                obtain ⟨j, hj, rfl⟩ := Array.getElem_of_mem hu
                have : (madeCells z.cells (c'.toNat * i.size))[j] = z.cells[j % z.cells.size]'(Nat.mod_lt _ h5) := by
                  simp only [madeCells, Array.getElem_map, Array.getElem_range]
                  exact getElem!_pos z.cells (j % z.cells.size) (Nat.mod_lt _ h5)
                rw [this]
                exact List.all_eq_true.1 h4 _ (Array.mem_toList_iff.2 (Array.getElem_mem _))
            · have hcz : csize w b = c'.toNat * i.size := by rw [csize_cells hblk, size_madeCells]
              have := VR.row (g := g) (w := w) (size := i.size) (id := id) (off := 0) (n := l'.toNat) (b := b) (c := c'.toNat) hb hlt (by omega) (by unfold maxLen; omega) (by rw [hcz, Nat.zero_add])
              rw [Nat.zero_mul] at this
              exact this
            · simp only [vlateMk, vmakeR, hu, hi, hz, hb', cond_true, VT.newRow]
        · cases h
      · cases h
    · cases h
end
end Go.Proofs.YtapfboldkkodkaaGreatDoor
