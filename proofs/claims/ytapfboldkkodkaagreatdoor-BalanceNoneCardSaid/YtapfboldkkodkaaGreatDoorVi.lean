/- A range over a map, over a string: what a walk knows of it. For any program. -/
import Derived.Test.YtapfboldkkodkaaGreatDoorVz
namespace Go.Proofs.YtapfboldkkodkaaGreatDoor
open Go.RowKit

section
variable {P : Program} {g : Gh} {T : VT} {w : World}
def vrange (P : Program) (T : VT) (t : TypeId) (x : TV) : Option (TV × VT) := match P.underlying t, x with
  | some (.map _ _), .val (.map none) => some (.ptr T.objs.length 0, { T with objs := T.objs ++ [.iter (.val (.map none)) 0 [] 0] })
  | some (.map _ _), .map id => match T.objs[id]? with
    | some (.map _ _ _ ck) => some (.ptr T.objs.length 0, { T with objs := T.objs ++ [.iter (.map id) ck [] ck] })
    | _ => none
  | some .string, .val (.string s) => some (.ptr T.objs.length 0, { T with objs := T.objs ++ [.siter s 0] })
  | _, _ => none
theorem vrange_ok (r : RW g T w) {t : TypeId} {x y : TV} {u : Value} {T' : VT} (h : vrange P T t x = some (y, T')) (hx : VR g w x u) : Does P g T w (Instr.range t u) y T' ∧ T'.objs.take T.objs.length = T.objs := by
  have go : ∀ (ob : Obj) (o : VO), o.live = true → (∀ g, RW g T w → OR g w w.heap.size o → OR g w w.heap.size o) → (Instr.range t u).run P w = .ok (.pointer (some ⟨w.heap.size, 0, none⟩)) (w.alloc ob) → (OR g (w.alloc ob) w.heap.size o) →
      Does P g T w (Instr.range t u) (.ptr T.objs.length 0) { T with objs := T.objs ++ [o] } := by
    intro ob o hl _ hrun hor
    obtain ⟨g', r', e', hg, _⟩ := r.new ob hl hor
    exact ⟨_, g', _, hrun, .ptr hg, e', r', Same.of_gr r ((Gr.refl w).alloc _)⟩
  unfold vrange at h
  split at h
  · rename_i hu
    injection h with h; injection h with e1 e2; subst e1 e2
    rw [hx.val_inv]
    rw [hx.val_inv] at go
    exact ⟨go (.mapIter none 0 #[] 0) _ rfl (fun _ _ h => h) (by simp [Instr.range, run_underlying hu, newObj, Sem.run]) ⟨none, heap_alloc_new w _, .val _⟩, by simp⟩
  · rename_i id hu
    split at h
    · rename_i sh look es ck hid
      injection h with h; injection h with e1 e2; subst e1 e2
      obtain ⟨b, hb, rfl⟩ := hx.map_inv
      obtain ⟨b', h1, ⟨ms, h2, _⟩, _⟩ := r.obj id _ hid rfl
      rw [hb] at h1; injection h1 with h1; subst h1
      exact ⟨go (.mapIter (some b) ck #[] ck) _ rfl (fun _ _ h => h) (by simp [Instr.range, run_underlying hu, getObj, newObj, Sem.run, h2]) ⟨some b, heap_alloc_new w _, .map hb⟩, by simp⟩
    · cases h
  · rename_i s hu
    injection h with h; injection h with e1 e2; subst e1 e2
    rw [hx.val_inv]
    rw [hx.val_inv] at go
    exact ⟨go (.stringIter s 0) _ rfl (fun _ _ h => h) (by simp [Instr.range, run_underlying hu, newObj, Sem.run]) (heap_alloc_new w _), by simp⟩
  · cases h
/-! ### The next entry: whichever it is -/
structure ERel (g : Gh) (w : World) (es : List (Value × TV × Nat)) (ms : List MapEntry) : Prop where
  len : ms.length = es.length
  at_ : ∀ (j : Nat) e m, es[j]? = some e → ms[j]? = some m → m.key = e.1 ∧ VR g w e.2.1 m.val ∧ m.born = e.2.2
theorem ERel.of {es : List (Value × TV × Nat)} {ms : List MapEntry} (h1 : ms.map (·.key) = es.map (·.1)) (h2 : VRs g w (es.map (·.2.1)) (ms.map (·.val))) (h3 : ms.map (·.born) = es.map (·.2.2)) : ERel g w es ms where
  len := by simpa using congrArg List.length h1
  at_ j e m he hm := by
    refine ⟨?_, ?_, ?_⟩
    · have := congrArg (·[j]?) h1; simpa [he, hm] using this
    · exact h2.2 j _ _ (by simp [he]) (by simp [hm])
    · have := congrArg (·[j]?) h3; simpa [he, hm] using this
theorem ERel.nil : ERel g w [] [] := ⟨rfl, fun j e m h => by simp at h⟩
theorem ERel.cons {e : Value × TV × Nat} {m : MapEntry} {es : List (Value × TV × Nat)} {ms : List MapEntry} (h : m.key = e.1 ∧ VR g w e.2.1 m.val ∧ m.born = e.2.2) (k : ERel g w es ms) : ERel g w (e :: es) (m :: ms) :=
  ⟨by simp [k.len], fun j e' m' he hm => by
    cases j with
    | zero => simp at he hm; subst he hm; exact h
    | succ j => exact k.at_ j e' m' (by simpa using he) (by simpa using hm)⟩
theorem ERel.tail {e : Value × TV × Nat} {m : MapEntry} {es : List (Value × TV × Nat)} {ms : List MapEntry} (k : ERel g w (e :: es) (m :: ms)) : ERel g w es ms :=
  ⟨by simpa using k.len, fun j e' m' he hm => k.at_ (j + 1) e' m' (by simpa using he) (by simpa using hm)⟩
theorem ERel.filter (p : Nat → Bool) : ∀ {es : List (Value × TV × Nat)} {ms : List MapEntry}, ERel g w es ms → ERel g w (es.filter fun e => p e.2.2) (ms.filter fun m => p m.born)
  | [], [], _ => by simpa using ERel.nil
  | [], _ :: _, k => by have := k.len; simp at this
  | _ :: _, [], k => by have := k.len; simp at this
  | e :: es, m :: ms, k => by
    have h0 := k.at_ 0 e m rfl rfl
    have ih := ERel.filter p k.tail
    simp only [List.filter_cons, h0.2.2]
    cases p e.2.2 with
    | true => exact .cons h0 ih
    | false => exact ih
theorem ERel.app {es es' : List (Value × TV × Nat)} {ms ms' : List MapEntry} (h : ERel g w es ms) (k : ERel g w es' ms') : ERel g w (es ++ es') (ms ++ ms') :=
  ⟨by simp [h.len, k.len], fun j e m he hm => by
    rcases Nat.lt_or_ge j es.length with hj | hj
    · rw [List.getElem?_append_left hj] at he
      rw [List.getElem?_append_left (by rw [h.len]; exact hj)] at hm
      exact h.at_ j e m he hm
    · rw [List.getElem?_append_right hj] at he
      rw [List.getElem?_append_right (by rw [h.len]; exact hj), h.len] at hm
      exact k.at_ _ e m he hm⟩
def vall {α : Type} (k : α → Prop) : List α → Prop
  | [] => True
  | [a] => k a
  | a :: b :: l => k a ∧ vall k (b :: l)
theorem vall_at {α : Type} {k : α → Prop} : ∀ {l : List α}, vall k l → ∀ a ∈ l, k a
  | [], _, a, h => by cases h
  | [x], h, a, ha => by simp at ha; subst ha; exact h
  | x :: y :: l, h, a, ha => by
    simp only [vall] at h
    rcases List.mem_cons.1 ha with rfl | ha
    · exact h.1
    · exact vall_at h.2 a ha
/-- the entries that may come next: those that were there as the range began; those that came since -/
def nextOld (since : Nat) (seen : List Nat) (es : List (Value × TV × Nat)) : List (Value × TV × Nat) := es.filter fun e => !(seen.contains e.2.2) && decide (e.2.2 < since)
def nextNew (since : Nat) (seen : List Nat) (es : List (Value × TV × Nat)) : List (Value × TV × Nat) := es.filter fun e => !(seen.contains e.2.2) && !(decide (e.2.2 < since))
def nextLost (seen : List Nat) (stepped : Nat) (es : List (Value × TV × Nat)) : Bool := !seen.isEmpty && !es.isEmpty && es.all fun e => decide (stepped ≤ e.2.2)
def VT.setIter (T : VT) (i : Nat) (m : TV) (since : Nat) (seen : List Nat) (stepped : Nat) : VT := { T with objs := T.objs.set i (.iter m since seen stepped) }
/-- what may come: the row of (what next yields, what is known behind it) -/
def vnexts (T : VT) (x : TV) : Option (Nat × List (TV × VT)) := match x with
  | .ptr i 0 => match T.objs[i]? with
    | some (.iter (.val (.map none)) _ _ _) => some (i, [(.tup [.val (.bool false)], T)])
    | some (.iter (.map m) since seen stepped) => match T.objs[m]? with
      | some (.map _ _ es ck) => bif nextLost seen stepped es then none else
          some (i, (bif (nextOld since seen es).isEmpty then [(.tup [.val (.bool false)], T)] else []) ++
            ((nextOld since seen es) ++ (nextNew since seen es)).map fun e => (.tup [.val (.bool true), .val e.1, e.2.1], T.setIter i (.map m) since (seen ++ [e.2.2]) ck))
      | _ => none
    | _ => none
  | _ => none
theorem isEmpty_len {α β : Type} {l : List α} {l' : List β} (h : l.length = l'.length) : l.isEmpty = l'.isEmpty := by cases l <;> cases l' <;> simp at h ⊢
theorem arr_isEmpty {α : Type} (A : Array α) : A.isEmpty = A.toList.isEmpty := by
  obtain ⟨l⟩ := A
  cases l <;> rfl
theorem choose_run (n : Nat) (hn : 0 < n) (w : World) : ∃ t w', (choose (.mapNext n)).run P w = .ok t w' ∧ t < n ∧ Gr w w' ∧ w'.heap = w.heap := by
  unfold choose
  by_cases h1 : n ≤ 1
  · refine ⟨0, w, ?_, by omega, Gr.refl w, rfl⟩
    simp [Sem.run, Question.forced, h1]
  · refine ⟨w.tape w.drawn (.mapNext n) % n, w.drew, ?_, Nat.mod_lt _ hn, (Gr.refl w).drew, rfl⟩
    simp [Sem.run, Question.forced, Question.cut, h1]
theorem vnexts_ok (r : RW g T w) {ro i : Nat} {ty : TypeId} {x : TV} {u : Value} {l : List (TV × VT)} (h : vnexts T x = some (i, l)) (hx : VR g w x u) (hr : ro ≤ i) :
    ∃ p ∈ l, ∃ v g' w', (Instr.next u false ty).run P w = .ok v w' ∧ VR g' w' p.1 v ∧ Evo g w g' w' ∧ RW g' p.2 w' ∧ Fix ro g T w p.2 w' := by
  unfold vnexts at h
  split at h
  · rename_i i'
    obtain ⟨bi, hbi, rfl⟩ := hx.ptr_inv
    split at h
    · rename_i since seen stepped hid
      injection h with h; injection h with e1 e2; subst e1 e2
      obtain ⟨b', h1, ⟨mb, h2, h3⟩, _⟩ := r.obj _ _ hid rfl
      rw [hbi] at h1; injection h1 with h1; subst h1
      have hmb : mb = none := by have := h3.val_inv; injection this
      subst hmb
      exact ⟨_, List.mem_singleton.2 rfl, .tuple #[.bool false], g, w, by simp [Instr.next, getObj, Sem.run, h2], .mk_tup (us := [.bool false]) (.cons (.val _) (.nil g w)), Evo.refl _ _, r, Fix.refl _ _ _ _⟩
    · rename_i m since seen stepped hid
      split at h
      · rename_i sh look es ck hmid
        cases hq : nextLost seen stepped es with
        | true => rw [hq] at h; cases h
        | false =>
          rw [hq] at h
          simp only [cond_false] at h
          injection h with h; injection h with e1 e2
          subst e1
          obtain ⟨b', h1, ⟨mb, h2, h3⟩, _⟩ := r.obj _ _ hid rfl
          rw [hbi] at h1; injection h1 with h1; subst h1
          obtain ⟨bm, hbm, hmb⟩ := h3.map_inv
          injection hmb with hmb; subst hmb
          obtain ⟨b2, k1, ⟨ms, k2, k3, k4, k5, k6⟩, _⟩ := r.obj m _ hmid rfl
          rw [hbm] at k1; injection k1 with k1; subst k1
          have rel := ERel.of k3 k4 k5
          have relO := rel.filter fun b => !(seen.contains b) && decide (b < since)
          have relN := rel.filter fun b => !(seen.contains b) && !(decide (b < since))
          have relC := relO.app relN
          -- the model's candidates
          have hlost : (!seen.toArray.isEmpty && !ms.isEmpty && ms.all fun e => decide (e.born ≥ stepped)) = false := by
            rw [← hq]
            unfold nextLost
            have e1 : ms.all (fun e => decide (e.born ≥ stepped)) = es.all fun e => decide (stepped ≤ e.2.2) := by
              rw [← Array.all_toList]
              have := congrArg (fun l => l.all fun b => decide (stepped ≤ b)) k5
              simpa [List.all_map, Function.comp_def] using this
            have e2 : ms.isEmpty = es.isEmpty := by
              rw [arr_isEmpty]; exact isEmpty_len rel.len
            rw [e1, e2]
            simp
          have hleft : ∀ p : Nat → Bool, ((ms.filter fun e => !seen.toArray.contains e.born).filter fun e => p e.born).toList = ms.toList.filter fun e => !(seen.contains e.born) && p e.born := by
            intro p
            simp only [Array.toList_filter, List.filter_filter, List.contains_toArray]
            congr 1
            funext e
            exact Bool.and_comm _ _
          -- what is chosen
          obtain ⟨C, hC⟩ : ∃ C : Array (Option MapEntry), C = (if ((ms.filter fun e => !seen.toArray.contains e.born).filter fun e => decide (e.born < since)).isEmpty then #[none] else #[]) ++ ((((ms.filter fun e => !seen.toArray.contains e.born).filter fun e => decide (e.born < since))) ++ ((ms.filter fun e => !seen.toArray.contains e.born).filter fun e => decide (e.born ≥ since))).map some := ⟨_, rfl⟩
          have hge : (fun b : Nat => decide (b ≥ since)) = fun b => !(decide (b < since)) := by
            funext b
            by_cases hb : b < since
            · simp [hb]
            · simp [hb]; omega
          have hOe : ((ms.filter fun e => !seen.toArray.contains e.born).filter fun e => decide (e.born < since)).isEmpty = (nextOld since seen es).isEmpty := by
            rw [arr_isEmpty, hleft fun b => decide (b < since)]
            exact isEmpty_len relO.len
          have hCl : C.toList = (bif (nextOld since seen es).isEmpty then [none] else []) ++ ((ms.toList.filter fun e => !(seen.contains e.born) && decide (e.born < since)) ++ (ms.toList.filter fun e => !(seen.contains e.born) && !(decide (e.born < since)))).map some := by
            rw [hC, Array.toList_append, Array.toList_map, Array.toList_append, hleft fun b => decide (b < since)]
            have h7 := hleft fun b => decide (b ≥ since)
            simp only [congrFun hge] at h7
            rw [show (fun e : MapEntry => decide (e.born ≥ since)) = fun e => !(decide (e.born < since)) from funext fun e => congrFun hge e.born, h7, hOe]
            cases (nextOld since seen es).isEmpty <;> simp
          have hpos : 0 < C.size := by
            rw [← Array.length_toList, hCl]
            have h8 := relO.len
            cases hoe : (nextOld since seen es).isEmpty with
            | true => simp
            | false =>
              have : (nextOld since seen es).length ≠ 0 := by intro h0; simp [List.eq_nil_of_length_eq_zero h0] at hoe
              unfold nextOld at this
              rw [cond_false, List.nil_append, List.length_map, List.length_append, relO.len]
              omega
          obtain ⟨t, w1, c1, c2, c3, c4⟩ := choose_run (P := P) C.size hpos w
          have hrun0 : ∀ R, ((match C[t]? with
              | some (some e) => (do setObj bi (.mapIter (some bm) since (seen.toArray.push e.born) ck); pure (.tuple #[.bool true, e.key, e.val]) : Sem Value)
              | some none => pure (.tuple #[.bool false])
              | none => stuck "Next: no such candidate").run P w1 = R) → (Instr.next (.pointer (some ⟨bi, 0, none⟩)) false ty).run P w = R := by
            intro R hR
            rw [← hR]
            have g1 : (getObj bi).run P w = .ok (.mapIter (some bm) since seen.toArray stepped) w := by simp [getObj, Sem.run, h2]
            have g2 : (getObj bm).run P w = .ok (.map ms ck) w := by simp [getObj, Sem.run, k2]
            simp only [Instr.next, Sem.run_bind, g1, Result.andThen_ok, g2, hlost, Bool.false_eq_true, if_false]
            rw [← hC]
            simp only [c1, Result.andThen_ok]
            generalize C[t]? = oc
            cases oc with
            | none => rfl
            | some oc => cases oc <;> rfl
          have hlt : t < C.toList.length := by simpa using c2
          have hct : C[t]? = C.toList[t]? := by simp
          rw [hCl] at hct hlt
          have rw1 := r.gr c3
          have ev1 := Evo.of_gr r c3
          have hDone : C[t]? = some none → (nextOld since seen es).isEmpty = true → ∃ p ∈ l, ∃ v g' w', (Instr.next (.pointer (some ⟨bi, 0, none⟩)) false ty).run P w = .ok v w' ∧ VR g' w' p.1 v ∧ Evo g w g' w' ∧ RW g' p.2 w' ∧ Fix ro g T w p.2 w' := by
            intro h1 h2'
            rw [← e2, h2']
            exact ⟨_, List.mem_append_left _ (List.mem_singleton.2 rfl), .tuple #[.bool false], g, w1, hrun0 _ (by rw [h1]; rfl), .mk_tup (us := [.bool false]) (.cons (.val _) (.nil g w1)), ev1, rw1, Fix.of_same (Same.of_gr r c3) List.take_length⟩
          have hMore : ∀ (j : Nat) (e : Value × TV × Nat) (me : MapEntry), (nextOld since seen es ++ nextNew since seen es)[j]? = some e → ((ms.toList.filter fun e => !(seen.contains e.born) && decide (e.born < since)) ++ (ms.toList.filter fun e => !(seen.contains e.born) && !(decide (e.born < since))))[j]? = some me → C[t]? = some (some me) →
              ∃ p ∈ l, ∃ v g' w', (Instr.next (.pointer (some ⟨bi, 0, none⟩)) false ty).run P w = .ok v w' ∧ VR g' w' p.1 v ∧ Evo g w g' w' ∧ RW g' p.2 w' ∧ Fix ro g T w p.2 w' := by
            intro j e me h1 h2' h3'
            obtain ⟨q1, q2, q3⟩ := relC.at_ j e me h1 h2'
            have h2w : w1.heap[bi]? = some (.mapIter (some bm) since seen.toArray stepped) := by rw [c4]; exact h2
            have hset := MapKept.heap_set (w := w1) (o' := .mapIter (some bm) since (seen.toArray.push me.born) ck) h2w
            have hcs : csize { w1 with heap := w1.heap.setIfInBounds bi (.mapIter (some bm) since (seen.toArray.push me.born) ck) } bi = csize w1 bi := by
              unfold csize; simp only [hset.1, h2w]
            have hbi1 : g.obj i' = some bi := hbi
            obtain ⟨_, e0⟩ := rw1.setObj hid rfl hbi1 (o' := .gone) (w' := { w1 with heap := w1.heap.setIfInBounds bi (.mapIter (some bm) since (seen.toArray.push me.born) ck) }) ⟨rfl, rfl, rfl⟩ (by simp) (fun c hc => hset.2 c hc) hcs (fun h => by cases h)
            obtain ⟨r2, e2'⟩ := rw1.setObj hid rfl hbi1 (o' := .iter (.map m) since (seen ++ [e.2.2]) ck) (w' := { w1 with heap := w1.heap.setIfInBounds bi (.mapIter (some bm) since (seen.toArray.push me.born) ck) }) ⟨rfl, rfl, rfl⟩ (by simp) (fun c hc => hset.2 c hc) hcs
              (fun _ => ⟨some bm, by rw [hset.1, ← q3]; simp, (h3.mono ev1).mono e0⟩)
            refine ⟨(.tup [.val (.bool true), .val e.1, e.2.1], T.setIter i' (.map m) since (seen ++ [e.2.2]) ck), ?_, .tuple #[.bool true, me.key, me.val], g, _, hrun0 (.ok (.tuple #[.bool true, me.key, me.val]) { w1 with heap := w1.heap.setIfInBounds bi (.mapIter (some bm) since (seen.toArray.push me.born) ck) }) ?_, ?_, ev1.trans e2', r2, ?_⟩
            · rw [← e2]
              exact List.mem_append_right _ (List.mem_map.2 ⟨e, List.mem_of_getElem? h1, rfl⟩)
            · rw [h3']
              simp [setObj, Sem.run, h2w]
            · exact .mk_tup (us := [.bool true, me.key, me.val]) (.cons (.val _) (.cons (by rw [q1]; exact .val _) (.cons ((q2.mono ev1).mono e2') (.nil _ _))))
            · exact (Fix.of_same (Same.of_gr r c3) (T' := T) List.take_length).trans ev1 (setObj_fix rw1 hid rfl hbi1 hr fun c hc => hset.2 c hc)
          have at_of : ∀ (j : Nat), j < ((ms.toList.filter fun e => !(seen.contains e.born) && decide (e.born < since)) ++ (ms.toList.filter fun e => !(seen.contains e.born) && !(decide (e.born < since)))).length →
              ∃ (e : Value × TV × Nat) (me : MapEntry), (nextOld since seen es ++ nextNew since seen es)[j]? = some e ∧ ((ms.toList.filter fun e => !(seen.contains e.born) && decide (e.born < since)) ++ (ms.toList.filter fun e => !(seen.contains e.born) && !(decide (e.born < since))))[j]? = some me := by
            intro j hj
            have hj2 : j < (nextOld since seen es ++ nextNew since seen es).length := by
              have := relC.len
              unfold nextOld nextNew
              omega
            exact ⟨_, _, List.getElem?_eq_getElem hj2, List.getElem?_eq_getElem hj⟩
          cases hoe : (nextOld since seen es).isEmpty with
          | true =>
            rw [hoe] at hct hlt
            simp only [cond_true] at hct hlt
            cases t with
            | zero => exact hDone (by rw [hct]; rfl) hoe
            | succ j =>
              simp only [List.singleton_append, List.getElem?_cons_succ, List.length_cons, List.length_map] at hct hlt
              obtain ⟨e, me, h1, h2'⟩ := at_of j (by omega)
              exact hMore j e me h1 h2' (by rw [hct, List.getElem?_map, h2']; rfl)
          | false =>
            rw [hoe] at hct hlt
            simp only [cond_false, List.nil_append, List.length_map] at hct hlt
            obtain ⟨e, me, h1, h2'⟩ := at_of t hlt
            exact hMore t e me h1 h2' (by rw [hct, List.getElem?_map, h2']; rfl)
      · cases h
    · cases h
  · cases h
/-- the entry at which a range stands -/
def ventry (T : VT) (x : TV) : Option TV := match x with
  | .ptr i 0 => match T.objs[i]? with
    | some (.iter (.map m) _ seen stepped) => match T.objs[m]?, seen.getLast? with
      | some (.map _ _ es ck), some st => bif Nat.beq ck stepped then (match es.find? fun e => Nat.beq e.2.2 st with
        | some e => some (.tup [.val e.1, e.2.1])
        | none => none) else none
      | _, _ => none
    | _ => none
  | _ => none
theorem find_rel {es : List (Value × TV × Nat)} {ms : List MapEntry} (h : ERel g w es ms) {st : Nat} {e : Value × TV × Nat} (hf : es.find? (fun e => Nat.beq e.2.2 st) = some e) : ∃ me, ms.find? (fun m => m.born == st) = some me ∧ me.key = e.1 ∧ VR g w e.2.1 me.val := by
  induction es generalizing ms with
  | nil => simp at hf
  | cons e0 es ih =>
    match ms, h with
    | [], h => have := h.len; simp at this
    | m0 :: ms, h =>
      have h0 := h.at_ 0 e0 m0 rfl rfl
      simp only [List.find?_cons] at hf ⊢
      have hb : (m0.born == st) = Nat.beq e0.2.2 st := by
        rw [h0.2.2]
        cases hq : Nat.beq e0.2.2 st with
        | true => simpa using Nat.eq_of_beq_eq_true hq
        | false => simpa using Nat.ne_of_beq_eq_false hq
      rw [hb]
      cases hq : Nat.beq e0.2.2 st with
      | true => rw [hq] at hf; injection hf with hf; subst hf; exact ⟨m0, rfl, h0.1, h0.2.1⟩
      | false => rw [hq] at hf; exact ih h.tail hf
theorem ventry_ok (r : RW g T w) {x y : TV} {u : Value} (h : ventry T x = some y) (hx : VR g w x u) : ∃ v, VR g w y v ∧ (Instr.entry u).run P w = .ok v w := by
  unfold ventry at h
  split at h
  · rename_i i
    obtain ⟨bi, hbi, rfl⟩ := hx.ptr_inv
    split at h
    · rename_i m since seen stepped hid
      split at h
      · rename_i sh look es ck st hmid hst
        cases hq : Nat.beq ck stepped with
        | false => rw [hq] at h; cases h
        | true =>
          rw [hq] at h
          have hck := Nat.eq_of_beq_eq_true hq
          subst hck
          simp only [cond_true] at h
          split at h
          · rename_i e he
            injection h with h; subst h
            obtain ⟨b', h1, ⟨mb, h2, h3⟩, _⟩ := r.obj _ _ hid rfl
            rw [hbi] at h1; injection h1 with h1; subst h1
            obtain ⟨bm, hbm, hmb⟩ := h3.map_inv
            injection hmb with hmb; subst hmb
            obtain ⟨b2, k1, ⟨ms, k2, k3, k4, k5, k6⟩, _⟩ := r.obj m _ hmid rfl
            rw [hbm] at k1; injection k1 with k1; subst k1
            obtain ⟨me, f1, f2, f3⟩ := find_rel (ERel.of k3 k4 k5) he
            refine ⟨.tuple #[me.key, me.val], .mk_tup (us := [me.key, me.val]) (.cons (by rw [f2]; exact .val _) (.cons f3 (.nil g w))), ?_⟩
            have g1 : (getObj bi).run P w = .ok (.mapIter (some bm) since seen.toArray ck) w := by simp [getObj, Sem.run, h2]
            have g2 : (getObj bm).run P w = .ok (.map ms ck) w := by simp [getObj, Sem.run, k2]
            have g3 : seen.toArray.back? = some st := by rw [← hst]; simp
            have g4 : ms.find? (fun x => x.born == st) = some me := by rw [← f1]; simp
            simp [Instr.entry, g1, g2, g3, g4]
          · cases h
      · cases h
    · cases h
  · cases h
end
end Go.Proofs.YtapfboldkkodkaaGreatDoor
