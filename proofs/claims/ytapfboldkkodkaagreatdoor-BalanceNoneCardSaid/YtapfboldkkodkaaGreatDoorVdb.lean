/- Regions by virtual time, second part: what is carried out and what is reckoned may part; the invariant, and each step. For any program. -/
import Derived.Test.YtapfboldkkodkaaGreatDoorVda
namespace Go.Proofs.YtapfboldkkodkaaGreatDoor
open Go.RowKit

section
variable {P : Program} {G : Globs} {F : Ora} {ops : Array Oper} {r : Option Nat}
abbrev On (V : Array Bool) (k : Nat) : Prop := V.getD k false = true
theorem on_set {V : Array Bool} {i k : Nat} (h : On V k) : On (V.setIfInBounds i true) k := getD_set_true h
theorem on_self {V : Array Bool} {i : Nat} (h : i < V.size) : On (V.setIfInBounds i true) i := by simp [On, h]
theorem on_set_ne {V : Array Bool} {i k : Nat} (h : i ≠ k) (hk : On (V.setIfInBounds i true) k) : On V k := by unfold On at *; rwa [getD_set_ne false h] at hk
theorem not_on {V : Array Bool} {k : Nat} (h : V.getD k true = false) : ¬ On V k := by
  intro h'
  unfold On at h'
  rcases Nat.lt_or_ge k V.size with hk | hk
  · simp [hk] at h h'; rw [h] at h'; cases h'
  · simp [Array.getElem?_eq_none hk] at h'
theorem off_of {V : Array Bool} {k : Nat} (hk : k < V.size) (h : ¬ On V k) : V.getD k true = false := by
  unfold On at h
  simp [hk] at h ⊢; exact h
theorem inList_iff : ∀ {l : List Nat} {i : Nat}, inList l i = true ↔ i ∈ l
  | [], i => by simp [inList]
  | a :: l, i => by
    simp only [inList, Bool.or_eq_true, List.mem_cons, inList_iff (l := l)]
    constructor
    · rintro (h | h)
      · exact .inl (Nat.eq_of_beq_eq_true h).symm
      · exact .inr h
    · rintro (h | h)
      · subst h; exact .inl (Nat.beq_refl i)
      · exact .inr h
theorem onlyL_get (L : List Nat) : ∀ (n : Nat) (σ : List TV) (s : Nat), (onlyL L n σ)[s]? = (σ[s]?).map fun x => bif inList L (n + s) then x else .dead
  | _, [], s => by simp [onlyL]
  | n, x :: σ, 0 => by simp [onlyL]
  | n, x :: σ, s + 1 => by
    simp only [onlyL, List.getElem?_cons_succ]
    rw [onlyL_get L (n + 1) σ s, show n + 1 + s = n + (s + 1) by omega]
theorem only_get (o : Oper) (σ : List TV) (s : Nat) : (only ops o σ)[s]? = (σ[s]?).map fun x => bif inList (o.looksAt ops) s then x else .dead := by
  have := onlyL_get (o.looksAt ops) 0 σ s
  rw [Nat.zero_add] at this; exact this
theorem only_len (o : Oper) (σ : List TV) : (only ops o σ).length = σ.length := by
  have key : ∀ (L : List Nat) (n : Nat) (σ : List TV), (onlyL L n σ).length = σ.length := by
    intro L n σ
    induction σ generalizing n with
    | nil => rfl
    | cons x σ ih => simp [onlyL, ih]
  exact key _ _ _
theorem vput_get (σ : List TV) (d : Option Tmp) (y : TV) (s : Nat) : (vput σ d y)[s]? = if d = some s ∧ s < σ.length then some y else σ[s]? := by
  cases d with
  | none => simp [vput]
  | some d =>
    simp only [vput, List.getElem?_set]
    by_cases h : d = s
    · subst h
      by_cases hl : d < σ.length
      · simp [hl]
      · simp [hl, List.getElem?_eq_none (Nat.le_of_not_lt hl)]
    · simp [h]
theorem vput_len (σ : List TV) (d : Option Tmp) (y : TV) : (vput σ d y).length = σ.length := by cases d <;> simp [vput]
theorem put_get (a : Act) (d : Option Tmp) (v : Value) (s : Nat) : (a.put d v).tmps.toList[s]? = if d = some s ∧ s < a.tmps.toList.length then some v else a.tmps.toList[s]? := by
  cases d with
  | none => simp [Act.put]
  | some d =>
    simp only [Act.put, Array.toList_setIfInBounds, List.getElem?_set]
    by_cases h : d = s
    · subst h
      by_cases hl : d < a.tmps.size
      · simp [hl]
      · simp [hl, Array.getElem?_eq_none (Nat.le_of_not_lt hl)]
    · simp [h]
theorem put_len (a : Act) (d : Option Tmp) (v : Value) : (a.put d v).tmps.toList.length = a.tmps.toList.length := by cases d <;> simp [Act.put]
theorem only_put {o : Oper} {σ : List TV} {d : Option Tmp} {y : TV} (h : ∀ s, d = some s → inList (o.looksAt ops) s = false) : only ops o (vput σ d y) = only ops o σ := by
  apply List.ext_getElem?
  intro s
  rw [only_get, only_get, vput_get]
  by_cases hs : d = some s ∧ s < σ.length
  · rw [if_pos hs, h s hs.1, List.getElem?_eq_getElem hs.2]; rfl
  · rw [if_neg hs]
/-! ### Static facts -/
theorem once_spec (h : onceOk ops = true) {i : Nat} {o : Oper} {d : Tmp} (hi : ops[i]? = some o) (hd : o.dst = some d) :
    inList (o.looksAt ops) d = false ∧ ∀ (j : Nat) oj, ops[j]? = some oj → j ≠ i → oj.dst ≠ some d ∧ (inList (oj.looksAt ops) d = true → ∃ e ∈ oj.after, Region.binds .any e = true ∧ e.on = i) := by
  have hlt := (Array.getElem?_eq_some_iff.1 hi).1
  have h1 := List.all_eq_true.1 h i (List.mem_range.2 hlt)
  simp only [hi, hd, Bool.and_eq_true, Bool.not_eq_true'] at h1
  refine ⟨h1.1, fun j oj hj hne => ?_⟩
  have h2 := List.all_eq_true.1 h1.2 j (List.mem_range.2 (Array.getElem?_eq_some_iff.1 hj).1)
  simp only [hj, Bool.or_eq_true, Bool.and_eq_true, Bool.not_eq_true'] at h2
  rcases h2 with h2 | ⟨h2, h3⟩
  · exact absurd (Nat.eq_of_beq_eq_true h2) hne
  · refine ⟨fun e => ?_, fun hl => ?_⟩
    · rw [e] at h2; simp at h2
    · rcases h3 with h3 | h3
      · rw [hl] at h3; cases h3
      · obtain ⟨e, he, h4⟩ := List.any_eq_true.1 h3
        simp only [Bool.and_eq_true] at h4
        exact ⟨e, Array.mem_toList_iff.1 he, h4.1, Nat.eq_of_beq_eq_true h4.2⟩
theorem looks_on (h : onceOk ops = true) {X : Array Bool} {j : Nat} {oj : Oper} (hj : ops[j]? = some oj) (hdeps : ∀ e ∈ oj.after, Region.binds .any e = true → On X e.on) {s : Nat} (hs : inList (oj.looksAt ops) s = true) {k : Nat} {ok : Oper} (hk : ops[k]? = some ok) (hd : ok.dst = some s) : k ≠ j ∧ On X k := by
  obtain ⟨h1, h2⟩ := once_spec h hk hd
  by_cases hkj : j = k
  · subst hkj
    rw [hj] at hk; injection hk with hk; subst hk
    rw [hs] at h1; cases h1
  · obtain ⟨e, he, hb, hon⟩ := (h2 j oj hj hkj).2 hs
    exact ⟨fun h => hkj h.symm, hon ▸ hdeps e he hb⟩
/-! ### The invariant -/
def RelV (ops : Array Oper) (V R : Array Bool) (g : Gh) (w : World) (σ : List TV) (tm : List Value) : Prop :=
  tm.length = σ.length ∧ ∀ (s : Nat) x u, σ[s]? = some x → tm[s]? = some u → (∀ (k : Nat) o, ops[k]? = some o → o.dst = some s → On V k ∧ On R k) → VR g w x u
theorem RelV.only {V R : Array Bool} {g : Gh} {w : World} {σ : List TV} {tm : List Value} (h : RelV ops V R g w σ tm) {o : Oper} (hl : ∀ s, inList (o.looksAt ops) s = true → ∀ (k : Nat) ok, ops[k]? = some ok → ok.dst = some s → On V k ∧ On R k) : VRs g w (only ops o σ) tm := by
  refine ⟨by rw [only_len]; exact h.1, fun s x u hx hu => ?_⟩
  rw [only_get] at hx
  cases hs : σ[s]? with
  | none => rw [hs] at hx; cases hx
  | some z =>
    rw [hs] at hx
    simp only [Option.map_some, Option.some.injEq] at hx
    cases hb : inList (o.looksAt ops) s with
    | true => rw [hb] at hx; simp only [cond_true] at hx; subst hx; exact h.2 s z u hs hu (hl s hb)
    | false => rw [hb] at hx; simp only [cond_false] at hx; subst hx; exact .dead u
def Owed (P : Program) (G : Globs) (ops : Array Oper) (T0 : VT) (pend : List Nat) (k : Nat) (o : Oper) (σ : List TV) : Prop := notDefer o.op = true ∧
  ((vwant ops (only ops o σ) o = some false ∧ ∀ d x, o.dst = some d → σ[d]? = some x → x = .val undef) ∨
   (vwant ops (only ops o σ) o = some true ∧ ∃ y, (∀ d x, o.dst = some d → σ[d]? = some x → x = y) ∧ (OwnSem P G ⟨[], []⟩ o (only ops o σ) y ∨ (k ∈ pend ∧ vpure2 P o.op (vev G (only ops o σ)) = none ∧ vread2 P T0 o.op (vev G (only ops o σ)) = some y))))
def PB (prot : Nat → Option Nat) (b : Nat) : Prop := ∃ k, prot k = some b
def FlSt (P : Program) (G : Globs) (ops : Array Oper) (σ : List TV) (R : Array Bool) (g : Gh) (w : World) (tm : List Value) (prot : Nat → Option Nat) (i : Nat) (jo : Option Nat) : Prop :=
  ∃ o d b, ops[i]? = some o ∧ o.dst = some d ∧ prot i = some b ∧ (match jo with
    | none => ∃ blk f vo mk, FlSpec P o blk f vo mk ∧ (∀ T, vlateMk P T o.op = some (mk T.objs.length, { T with objs := T.objs ++ [vo] })) ∧ w.heap[b]? = some blk ∧ ∀ u, tm[d]? = some u → u = f b
    | some j => ∃ oj t us inf, ops[j]? = some oj ∧ w.heap[b]? = some (.cells us.toArray t (0, 0)) ∧ (∀ u, tm[d]? = some u → u = .pointer (some ⟨b, 0, none⟩)) ∧ o.op = .alloc t ∧ P.info? t = some inf ∧ us.length = inf.size ∧
      (On R j → ∃ new, vboxVal P o.op oj.op (vev G (only ops oj σ)) = some new ∧ VRs g w new us ∧ ∀ u ∈ us, u.oneCell' = true))
structure VInv (P : Program) (G : Globs) (ops : Array Oper) (flo : List (Nat × Option Nat)) (σ : List TV) (T T0 : VT) (V R : Array Bool) (pend : List Nat) (g : Gh) (w : World) (tm : List Value) (prot : Nat → Option Nat) : Prop where
  vs : V.size = ops.size
  rs : R.size = ops.size
  cv : Closed ops V
  cr : Closed ops R
  rv : ∀ k, On R k → ¬ On V k → k ∈ floatL flo
  vf : ∀ k ∈ floatL flo, On V k → On R k
  vb : ∀ i j, (i, some j) ∈ flo → (On V i ↔ On V j)
  rel : RelV ops V R g w σ tm
  own : ∀ (k : Nat) o, ops[k]? = some o → On V k → ¬ On R k → Owed P G ops T0 pend k o σ
  flt : ∀ i jo, (i, jo) ∈ flo → On R i → ¬ On V i → FlSt P G ops σ R g w tm prot i jo
  pr : ∀ k b, prot k = some b → (∃ jo, (k, jo) ∈ flo) ∧ On R k ∧ ¬ On V k ∧ ¬ g.fr b ∧ (∀ o, ¬ g.st b o) ∧ b < w.heap.size
  pinj : ∀ i j b, prot i = some b → prot j = some b → i = j
  rw : RW (gP g (PB prot)) T w
  t0 : T.objs.take T0.objs.length = T0.objs
/-- what is checked of a region, once -/
structure VStat (P : Program) (ops : Array Oper) (flo : List (Nat × Option Nat)) : Prop where
  flow : flowOk ops = true
  once : onceOk ops = true
  dup : noDup (floatL flo) = true
  flo : floChk P ops flo (floatL flo) = true
theorem noDup_ok : ∀ {l : List Nat}, noDup l = true → l.Nodup
  | [], _ => List.nodup_nil
  | a :: l, h => by
    simp only [noDup, Bool.and_eq_true, Bool.not_eq_true'] at h
    exact List.nodup_cons.2 ⟨inList_mem h.1, noDup_ok h.2⟩
theorem floatL_mem : ∀ {flo : List (Nat × Option Nat)} {k : Nat}, k ∈ floatL flo ↔ ∃ i jo, (i, jo) ∈ flo ∧ (k = i ∨ jo = some k)
  | [], k => by simp [floatL]
  | (i, none) :: l, k => by
    simp only [floatL, List.mem_cons, floatL_mem (flo := l)]
    constructor
    · rintro (rfl | ⟨i', jo, h1, h2⟩)
      · exact ⟨k, none, .inl rfl, .inl rfl⟩
      · exact ⟨i', jo, .inr h1, h2⟩
    · rintro ⟨i', jo, h1 | h1, h2⟩
      · injection h1 with h1 h3; subst h1 h3
        rcases h2 with h2 | h2
        · exact .inl h2
        · cases h2
      · exact .inr ⟨i', jo, h1, h2⟩
  | (i, some j) :: l, k => by
    simp only [floatL, List.mem_cons, floatL_mem (flo := l)]
    constructor
    · rintro (rfl | rfl | ⟨i', jo, h1, h2⟩)
      · exact ⟨k, some j, .inl rfl, .inl rfl⟩
      · exact ⟨i, some k, .inl rfl, .inr rfl⟩
      · exact ⟨i', jo, .inr h1, h2⟩
    · rintro ⟨i', jo, h1 | h1, h2⟩
      · injection h1 with h1 h3; subst h1 h3
        rcases h2 with h2 | h2
        · exact .inl h2
        · injection h2 with h2; exact .inr (.inl h2.symm)
      · exact .inr (.inr ⟨i', jo, h1, h2⟩)
/-- two floats that share an operation are one -/
theorem flo_uniq : ∀ {flo : List (Nat × Option Nat)}, (floatL flo).Nodup → ∀ {i jo i' jo' k}, (i, jo) ∈ flo → (i', jo') ∈ flo → (k = i ∨ jo = some k) → (k = i' ∨ jo' = some k) → i = i' ∧ jo = jo'
  | [], _, _, _, _, _, _, h, _, _, _ => by cases h
  | (a, b) :: l, hn, i, jo, i', jo', k, h1, h2, k1, k2 => by
    have hl : (floatL l).Nodup ∧ ∀ k, (k = a ∨ b = some k) → k ∉ floatL l := by
      cases b with
      | none =>
        have := List.nodup_cons.1 hn
        refine ⟨this.2, fun k hk => ?_⟩
        rcases hk with rfl | hk
        · exact this.1
        · cases hk
      | some j =>
        have h3 := List.nodup_cons.1 hn
        have h4 := List.nodup_cons.1 h3.2
        refine ⟨h4.2, fun k hk => ?_⟩
        rcases hk with rfl | hk
        · exact fun h => h3.1 (List.mem_cons_of_mem _ h)
        · injection hk with hk; subst hk; exact h4.1
    rcases List.mem_cons.1 h1 with e1 | m1 <;> rcases List.mem_cons.1 h2 with e2 | m2
    · injection e1 with e1 e1'; injection e2 with e2 e2'; subst e1 e1' e2 e2'; exact ⟨rfl, rfl⟩
    · injection e1 with e1 e1'; subst e1 e1'
      exact absurd ((floatL_mem (flo := l)).2 ⟨i', jo', m2, k2⟩) (hl.2 k k1)
    · injection e2 with e2 e2'; subst e2 e2'
      exact absurd ((floatL_mem (flo := l)).2 ⟨i, jo, m1, k1⟩) (hl.2 k k2)
    · exact flo_uniq hl.1 m1 m2 k1 k2
theorem VStat.at {flo : List (Nat × Option Nat)} (st : VStat P ops flo) {i : Nat} {jo : Option Nat} (h : (i, jo) ∈ flo) : ∃ o, ops[i]? = some o ∧ lateAt P o = true ∧ ∀ j, jo = some j → ∃ oj, ops[j]? = some oj ∧ isBoxOf P o oj = true ∧ (∃ e ∈ oj.after, Region.binds .any e = true ∧ e.on = i) ∧ ∀ e ∈ oj.after, Region.binds .any e = true → e.on = i ∨ e.on ∉ floatL flo := by
  have h1 := List.all_eq_true.1 st.flo (i, jo) h
  simp only at h1
  split at h1
  · rename_i o ho
    simp only [Bool.and_eq_true] at h1
    refine ⟨o, ho, h1.1, fun j hj => ?_⟩
    subst hj
    have h2 := h1.2
    simp only at h2
    split at h2
    · rename_i oj hoj
      simp only [Bool.and_eq_true] at h2
      obtain ⟨⟨h3, h4⟩, h5⟩ := h2
      obtain ⟨e, he, h6⟩ := List.any_eq_true.1 h4
      simp only [Bool.and_eq_true] at h6
      refine ⟨oj, hoj, h3, ⟨e, Array.mem_toList_iff.1 he, h6.1, Nat.eq_of_beq_eq_true h6.2⟩, fun e he hb => ?_⟩
      have h7 := List.all_eq_true.1 h5 e (Array.mem_toList_iff.2 he)
      simp only [hb, Bool.not_true, Bool.false_or, Bool.or_eq_true, Bool.not_eq_true'] at h7
      rcases h7 with h7 | h7
      · exact .inl (Nat.eq_of_beq_eq_true h7)
      · exact .inr (inList_mem h7)
    · cases h2
  · cases h1
/-- a slot's relation behind a step that writes it -/
theorem RelV.step {V R : Array Bool} {g g' : Gh} {w w' : World} {σ : List TV} {a : Act} (h : RelV ops V R g w σ a.tmps.toList) (e : Evo g w g' w') {j : Nat} {o : Oper} (ho : ops[j]? = some o) {v : Value}
    (hx : ∀ d x, o.dst = some d → σ[d]? = some x → On V j → VR g' w' x v) : RelV ops V (R.setIfInBounds j true) g' w' σ (a.put o.dst v).tmps.toList := by
  refine ⟨by rw [put_len]; exact h.1, fun s x u hs hu hw => ?_⟩
  rw [put_get] at hu
  by_cases hd : o.dst = some s ∧ s < a.tmps.toList.length
  · rw [if_pos hd] at hu
    injection hu with hu; subst hu
    exact hx s x hd.1 hs (hw j o ho hd.1).1
  · rw [if_neg hd] at hu
    refine (h.2 s x u hs hu fun k ok hk hdk => ?_).mono e
    obtain ⟨h1, h2⟩ := hw k ok hk hdk
    refine ⟨h1, on_set_ne (fun hjk => ?_) h2⟩
    subst hjk
    rw [ho] at hk; injection hk with hk; subst hk
    exact hd ⟨hdk, (List.getElem?_eq_some_iff.1 hu).1⟩
/-- a float's state behind a step that does not touch it -/
theorem FlSt.step {σ : List TV} {R R' : Array Bool} {g g' : Gh} {w w' : World} {a : Act} {prot prot' : Nat → Option Nat} {i : Nat} {jo : Option Nat} (h : FlSt P G ops σ R g w a.tmps.toList prot i jo) (e : Evo g w g' w') (hh : ∀ b, prot i = some b → w'.heap[b]? = w.heap[b]?) (hp : prot' i = prot i)
    {d' : Option Tmp} {v : Value} (hd : ∀ o d, ops[i]? = some o → o.dst = some d → d' ≠ some d) (hr : ∀ j, jo = some j → On R' j → On R j) : FlSt P G ops σ R' g' w' (a.put d' v).tmps.toList prot' i jo := by
  obtain ⟨o, d, b, h1, h2, h3, h4⟩ := h
  have ht : ∀ u, (a.put d' v).tmps.toList[d]? = some u → a.tmps.toList[d]? = some u := fun u hu => by
    rw [put_get, if_neg fun k => hd o d h1 h2 k.1] at hu; exact hu
  refine ⟨o, d, b, h1, h2, hp.trans h3, ?_⟩
  cases jo with
  | none =>
    obtain ⟨blk, f, vo, mk, k1, k2, k3, k4⟩ := h4
    exact ⟨blk, f, vo, mk, k1, k2, (hh b h3).trans k3, fun u hu => k4 u (ht u hu)⟩
  | some j =>
    obtain ⟨oj, t, us, inf, k1, k2, k3, k4, k5, k6, k7⟩ := h4
    refine ⟨oj, t, us, inf, k1, (hh b h3).trans k2, fun u hu => k3 u (ht u hu), k4, k5, k6, fun hj => ?_⟩
    obtain ⟨new, q1, q2, q3⟩ := k7 (hr j rfl hj)
    exact ⟨new, q1, q2.mono e, q3⟩
end
end Go.Proofs.YtapfboldkkodkaaGreatDoor
