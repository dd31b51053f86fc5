/- What the evaluator reckons is so. For any program. -/
import Derived.Test.YtapfboldkkodkaaGreatDoorVdg
import Derived.Sort.LoopGhostIn
import Derived.RangeFuncNested
namespace Go.Proofs.YtapfboldkkodkaaGreatDoor
open Go.RowKit

section
variable {P : Program} {G : Globs} {F : Ora}
theorem Fix.of_min {ro : Nat} {g : Gh} {T T' : VT} {w w' : World} (h : Fix (min ro T.objs.length) g T w T' w') : Fix ro g T w T' w' :=
  ⟨h.len, fun i hi hl => h.same i (by omega) hl, fun i o b hi ho => h.heap i o b (by have := (List.getElem?_eq_some_iff.1 ho).1; omega) ho⟩
theorem vdraw_ok {call : Callee0} {rnd : Round0} (hc : CalleeOk P G call) (hrr : RoundOk P G rnd) (hm : P.follows .mixedOrders = true) {rd : Option Nat} {ro id : Nat} {ops : Array Oper} {σ : List TV} {T : VT} {D : List Nat} {Q : KX}
    (h : vdraw P G F call rnd ro ops σ T fun σ T => Q .normal σ T D) : VWx P G rd ro (.region id ops true) σ T D Q := by
  intro r g w a rw0 hG hσ hd hD hrd
  unfold vdraw at h
  cases hb : noDefers ops with
  | false => rw [hb] at h; exact h.elim
  | true =>
    rw [hb] at h
    simp only [cond_true] at h
    have hnd : ∀ (j : Nat) o, ops[j]? = some o → notDefer o.op = true := fun j o ho => by
      obtain ⟨hlt, he⟩ := Array.getElem?_eq_some_iff.1 ho
      exact List.all_eq_true.1 hb o (by rw [← he]; exact Array.mem_toList_iff.2 (Array.getElem_mem hlt))
    split at h
    · rename_i p hp
      unfold planAll at hp
      split at hp
      · rename_i pl hpl
        cases hk : (Region.noSelect ops && Nat.beq pl.length ops.size && planChk ops pl (Array.replicate ops.size false)) with
        | false => rw [hk] at hp; cases hp
        | true =>
          rw [hk] at hp
          simp only [Bool.and_eq_true] at hk
          obtain ⟨⟨hns, hlen⟩, hchk⟩ := hk
          have hlen := Nat.eq_of_beq_eq_true hlen
          injection hp with hp; subst hp
          have e0 := Evo.of_gr rw0 (Gr.refl w).drew
          have f0 : Fix (min ro T.objs.length) g T w T w.drew := Fix.of_same (Same.of_gr rw0 (Gr.refl w).drew) List.take_length
          have r1 : RW g T w.drew := rw0.drew
          have key := vplan_ok (r := r) hc hrr hnd (Region.noSelect_spec hns) (Nat.min_le_left ro T.objs.length) (K := fun σ T => Q .normal σ T D) (gs := g) (Ts := T) (ws := w) (ds := a.defers)
            (QQ := fun a' w' => ∃ g' σ' T' D', Q .normal σ' T' D' ∧ Evo g w g' w' ∧ RW g' T' w' ∧ VRs g' w' σ' a'.tmps.toList ∧ a'.defers = D'.map (mk g') ∧ (∀ id ∈ D', (g'.obj id).isSome = true) ∧ Fix ro g T w T' w')
            (fun σ' T' g' w' a' hk e r' hσ' hd' hx => ⟨g', σ', T', D, hk, e, r', hσ', by rw [hd', hd, mk_evo e hD], isSome_evo e hD, hx.of_min⟩)
            pl (Array.replicate ops.size false) T false σ T hchk h g w.drew g w.drew a r1 (hG.mono e0) r1 (hσ.mono e0) rfl (Evo.refl _ _) (Same.refl _ _ _) List.take_length (fun _ => ⟨rfl, rfl, rfl⟩) e0 f0 (Nat.min_le_right _ _)
            (fun k o _ hk => absurd hk (by
              rw [Array.getD_eq_getD_getElem?, Array.getElem?_replicate]
              split <;> simp)) (by simp)
          rw [hlen] at key
          refine wpIn_mono (wpIn_region_any hm (anyIn_of_S _ _ _ _ key)) ?_
          intro e a' w' hq
          cases e <;> first | exact hq | exact hq.elim
      · cases hp
    · split at h
      · rename_i p hp
        obtain ⟨hns, st, hchk⟩ := plan2All_ok hp
        have e0 := Evo.of_gr rw0 (Gr.refl w).drew
        have f0 : Fix (min ro T.objs.length) g T w T w.drew := Fix.of_same (Same.of_gr rw0 (Gr.refl w).drew) List.take_length
        have r1 : RW g T w.drew := rw0.drew
        have key := vplan2_ok (r := r) hc hrr st (K := fun σ T => Q .normal σ T D) (gs := g) (Ts := T) (ws := w) (ds := a.defers)
          (QQ := fun a' w' => ∃ g' σ' T' D', Q .normal σ' T' D' ∧ Evo g w g' w' ∧ RW g' T' w' ∧ VRs g' w' σ' a'.tmps.toList ∧ a'.defers = D'.map (mk g') ∧ (∀ id ∈ D', (g'.obj id).isSome = true) ∧ Fix ro g T w T' w')
          (fun σ' T' g' w' a' hk e r' hσ' hd' hx => ⟨g', σ', T', D, hk, e, r', hσ', by rw [hd', hd, mk_evo e hD], isSome_evo e hD, hx.of_min⟩)
          ops.size p (Array.replicate ops.size false) T [] σ T (Array.replicate ops.size false) g w.drew a (fun _ => none) hchk h (VInv.start (hσ.mono e0) r1) (hG.mono e0) rfl e0 f0 (Nat.min_le_right _ _) (by
            unfold offN
            rw [Array.toList_replicate]
            exact Nat.le_trans List.count_le_length (by simp))
        refine wpIn_mono (wpIn_region_any hm key) ?_
        intro e a' w' hq
        cases e <;> first | exact hq | exact hq.elim
      · exact h.elim
/-! ### Code -/
theorem VWx.here {rd : Option Nat} {ro : Nat} {c : Code} {σ : List TV} {T : VT} {D : List Nat} {Q : KX} {e : Exit} (h : Q e σ T D) (k : ∀ (F : Fence) (a : Act) w, ∀ R : Exit → Act → World → Prop, R e a w → c.wpIn F 0 P R a w) : VWx P G rd ro c σ T D Q :=
  fun r g w a rw0 hG hσ hd hD _ => k _ a w _ ⟨g, σ, T, D, h, Evo.refl g w, rw0, hσ, hd, hD, Fix.refl _ _ _ _⟩
theorem VWx.seq {rd : Option Nat} {ro : Nat} {x y : Code} {σ : List TV} {T : VT} {D : List Nat} {Q : KX} (h : VWx P G rd ro x σ T D (vthen (fun σ T D => VWx P G rd ro y σ T D Q) Q)) : VWx P G rd ro (.seq x y) σ T D Q := by
  intro r g w a rw0 hG hσ hd hD hrd
  refine wpIn_seq (wpIn_mono (h r g w a rw0 hG hσ hd hD hrd) ?_)
  rintro e a' w' ⟨g', σ', T', D', hq, e1, r', hσ', hd', hD', hx⟩
  cases e <;> first
    | exact ⟨g', σ', T', D', hq, e1, r', hσ', hd', hD', hx⟩
    | exact wpIn_mono (hq r g' w' a' r' (hG.mono e1) hσ' hd' hD' (rd_evo e1 hrd)) fun e a'' w'' ⟨g'', σ'', T'', D'', hq', e2, r2, s2, d2, dd2, x2⟩ => ⟨g'', σ'', T'', D'', hq', e1.trans e2, r2, s2, d2, dd2, hx.trans e1 x2⟩
theorem VWx.block {rd : Option Nat} {ro id : Nat} {c : Code} {σ : List TV} {T : VT} {D : List Nat} {Q : KX} (h : VWx P G rd ro c σ T D (vblock id Q)) : VWx P G rd ro (.block id c) σ T D Q := by
  intro r g w a rw0 hG hσ hd hD hrd
  refine wpIn_block (wpIn_mono (h r g w a rw0 hG hσ hd hD hrd) ?_)
  rintro e a' w' ⟨g', σ', T', D', hq, h⟩
  cases e with
  | exit id' =>
    simp only [Exit.inBlock]
    simp only [vblock] at hq
    cases hb : Nat.beq id' id with
    | true =>
      rw [hb] at hq
      rw [if_pos (Nat.eq_of_beq_eq_true hb)]; exact ⟨g', σ', T', D', hq, h⟩
    | false =>
      rw [hb] at hq
      rw [if_neg (Nat.ne_of_beq_eq_false hb)]; exact ⟨g', σ', T', D', hq, h⟩
  | normal => exact ⟨g', σ', T', D', hq, h⟩
  | goto l => exact ⟨g', σ', T', D', hq, h⟩
  | ret => exact ⟨g', σ', T', D', hq, h⟩
  | panic ch => exact ⟨g', σ', T', D', hq, h⟩
  | outgrown => exact ⟨g', σ', T', D', hq, h⟩
theorem VWx.cond {rd : Option Nat} {ro : Nat} {c : Operand} {x y : Code} {σ : List TV} {T : VT} {D : List Nat} {Q : KX} {b : Bool} (hc : vev G σ c = .val (.bool b)) (ht : b = true → VWx P G rd ro x σ T D Q) (hf : b = false → VWx P G rd ro y σ T D Q) : VWx P G rd ro (.cond c x y) σ T D Q := by
  intro r g w a rw0 hG hσ hd hD hrd
  have h1 := vev_ok hG hσ c
  rw [hc] at h1
  exact wpIn_cond_split h1.val_inv (fun h => ht h r g w a rw0 hG hσ hd hD hrd) (fun h => hf h r g w a rw0 hG hσ hd hD hrd)
section
variable {b : Frame} {a : Act} {k : List Item} {cs : List Frame} {w : World}
theorem stepR_scope {c : Code} : step P (lone (b.atR a (.code (.scope c) :: k)) cs w) = .next (lone (b.atR a (.code c :: .inScope c :: k)) cs w) :=
  step_lone_go (by simp [stepG, stepG.exec, Frame.atR])
theorem stepR_inScope {c : Code} : step P (lone (b.atR a (.inScope c :: k)) cs w) = .next (lone (b.atR a k) cs w) :=
  step_lone_go (by simp [stepG, stepG.exec, Frame.atR])
end
def noJump (Q : Exit → Act → World → Prop) : Exit → Act → World → Prop
  | .goto _, _, _ => False
  | e, a, w => Q e a w
theorem wpIn_scope_straight {F : Fence} {n : Nat} {Q : Exit → Act → World → Prop} {a : Act} {w : World} {c : Code} (h : c.wpIn F n P (noJump Q) a w) : (Code.scope c).wpIn F n P Q a w := by
  intro b k cs hro hb hr
  have h0 : (lone (b.atR a (.code (.scope c) :: k)) cs w).fenced P F := fenced_calm hb hr rfl
  obtain ⟨e, a₁, w₁, hq, harr⟩ := h b (.inScope c :: k) cs hro hb hr
  cases e with
  | normal => exact ⟨.normal, a₁, w₁, hq, .head h0 stepR_scope (StepsIn.trans harr (.one (fenced_calm hb hr rfl) stepR_inScope))⟩
  | exit id =>
    have hx : exitTo id (.inScope c :: k) = exitTo id k := by simp [exitTo]
    exact ⟨.exit id, a₁, w₁, hq, fun k' hk => .head h0 stepR_scope (harr.1 k' (by rw [hx]; exact hk)),
      fun hr' hk => let ⟨k₁, h1, h2⟩ := harr.2 hr' (by rw [hx]; exact hk); ⟨k₁, h1, .head h0 stepR_scope h2⟩⟩
  | goto l => exact hq.elim
  | ret => exact ⟨_, a₁, w₁, hq, .of_steps (.one h0 stepR_scope) harr⟩
  | panic ch => exact ⟨_, a₁, w₁, hq, .of_steps (.one h0 stepR_scope) harr⟩
  | outgrown => exact ⟨_, a₁, w₁, hq, .of_steps (.one h0 stepR_scope) harr⟩
theorem VWx.scope {rd : Option Nat} {ro : Nat} {c : Code} {σ : List TV} {T : VT} {D : List Nat} {Q : KX} (h : VWx P G rd ro c σ T D (vscope Q)) : VWx P G rd ro (.scope c) σ T D Q := by
  intro r g w a rw0 hG hσ hd hD hrd
  refine wpIn_scope_straight (wpIn_mono (h r g w a rw0 hG hσ hd hD hrd) ?_)
  rintro e a' w' ⟨g', σ', T', D', hq, h⟩
  cases e <;> first
    | exact ⟨g', σ', T', D', hq, h⟩
    | exact hq.elim
theorem VWx.loop {rd : Option Nat} {ro : Nat} {c : Code} {σ : List TV} {T : VT} {D : List Nat} {Q : KX} (I : Nat → List TV → VT → List Nat → Prop) (n : Nat) (h0 : I n σ T D)
    (round : ∀ n σ T D, I n σ T D → VWx P G rd ro c σ T D (vthen (fun σ' T' D' => ∃ n', n' < n ∧ I n' σ' T' D') Q)) : VWx P G rd ro (.loop c) σ T D Q := by
  intro r g w a rw0 hG hσ hd hD hrd
  refine wpIn_loop_ghost (fun n a' w' => ∃ g' σ' T' D', I n σ' T' D' ∧ Evo g w g' w' ∧ RW g' T' w' ∧ VRs g' w' σ' a'.tmps.toList ∧ a'.defers = D'.map (mk g') ∧ (∀ id ∈ D', (g'.obj id).isSome = true) ∧ Fix ro g T w T' w') n ⟨g, σ, T, D, h0, Evo.refl _ _, rw0, hσ, hd, hD, Fix.refl _ _ _ _⟩ ?_
  rintro m a' w' ⟨g', σ', T', D', hI, e1, r', hσ', hd', hD', hx⟩
  refine wpIn_mono (round m σ' T' D' hI r g' w' a' r' (hG.mono e1) hσ' hd' hD' (rd_evo e1 hrd)) ?_
  rintro e a'' w'' ⟨g'', σ'', T'', D'', hq, e2, r2, s2, d2, dd2, x2⟩
  cases e <;> first
    | exact ⟨g'', σ'', T'', D'', hq, e1.trans e2, r2, s2, d2, dd2, hx.trans e1 x2⟩
    | (obtain ⟨n', hn, hI'⟩ := hq; exact ⟨n', hn, g'', σ'', T'', D'', hI', e1.trans e2, r2, s2, d2, dd2, hx.trans e1 x2⟩)
/-! ### Records of loops -/
theorem setLoop_ok {g : Gh} {T : VT} {w : World} (r : RW g T w) {id b : Nat} {st : LoopState} {pend : Option Code} {σ : List TV} {ps : Array Tmp} {asg body : Code} (ho : T.objs[id]? = some (.loop st pend σ ps asg body)) (hb : g.obj id = some b) :
    ∃ rec : Loop, w.heap[b]? = some (.loop rec) ∧ rec.state = st ∧ rec.pending = pend ∧ rec.params = ps ∧ rec.assign = asg ∧ rec.body = body ∧ VRs g w σ rec.tmps.toList ∧
      ∀ st' pend', RW g (T.setLoop id st' pend' σ ps asg body) (w.putObj b (.loop { rec with state := st', pending := pend' })) ∧ Evo g w g (w.putObj b (.loop { rec with state := st', pending := pend' })) ∧
        ∀ ro, ro ≤ id → Fix ro g T w (T.setLoop id st' pend' σ ps asg body) (w.putObj b (.loop { rec with state := st', pending := pend' })) := by
  obtain ⟨b', h1, h2, h3, h4⟩ := r.obj id _ ho rfl
  rw [hb] at h1; injection h1 with h1; subst h1
  obtain ⟨us, fn, db, h5, h6⟩ := h2
  have hlt := (Array.getElem?_eq_some_iff.1 h5).1
  refine ⟨_, h5, rfl, rfl, rfl, rfl, rfl, h6, fun st' pend' => ?_⟩
  have hnew := World.putObj_heap_same (w := w) (o := .loop { state := st', pending := pend', fn := fn, tmps := us.toArray, params := ps, assign := asg, body := body, defers := db }) hlt
  have hoth : ∀ c, c ≠ b → (w.putObj b (.loop { state := st', pending := pend', fn := fn, tmps := us.toArray, params := ps, assign := asg, body := body, defers := db })).heap[c]? = w.heap[c]? := fun c hc => World.putObj_heap_other hc
  have key : ∀ (hE : ∀ w', w' = w.putObj b (.loop { state := st', pending := pend', fn := fn, tmps := us.toArray, params := ps, assign := asg, body := body, defers := db }) → Evo g w g w'), RW g (T.setLoop id st' pend' σ ps asg body) (w.putObj b (.loop { state := st', pending := pend', fn := fn, tmps := us.toArray, params := ps, assign := asg, body := body, defers := db })) ∧ Evo g w g (w.putObj b (.loop { state := st', pending := pend', fn := fn, tmps := us.toArray, params := ps, assign := asg, body := body, defers := db })) := fun hE =>
    r.setObj (o' := .loop st' pend' σ ps asg body) ho rfl hb ⟨rfl, rfl, rfl⟩ World.putObj_size hoth (by unfold csize; rw [hnew, h5]) fun _ => ⟨us, fn, db, hnew, h6.mono (hE _ rfl)⟩
  have hE := (r.setObj (o' := .gone) ho rfl hb (w' := w.putObj b (.loop { state := st', pending := pend', fn := fn, tmps := us.toArray, params := ps, assign := asg, body := body, defers := db })) ⟨rfl, rfl, rfl⟩ World.putObj_size hoth (by unfold csize; rw [hnew, h5]) fun h => by cases h).2
  obtain ⟨k1, k2⟩ := key fun w' hw => by rw [hw]; exact hE
  exact ⟨k1, k2, fun ro hr => setObj_fix r ho rfl hb hr hoth⟩
/-! ### Functions, with marks -/
theorem leaves_ok {fn : Func} {ro : Nat} {σ : List TV} {K : TV → VT → Prop} {tmps : Array Value} {g0 : Gh} {T0 : VT} {w0 : World} : ∀ (D : List Nat) (T T' : VT) (g : Gh) (w : World) (x : TV), vmarks ro D T = some T' → vresults P T' σ fn.results = some x → K x T' →
    RW g T w → VRs g w σ tmps.toList → Evo g0 w0 g w → Fix ro g0 T0 w0 T w →
    LeavesInM (fenR none) 0 P fn tmps (fun e w' => ∃ v x g' T', e = .returned v ∧ K x T' ∧ Evo g0 w0 g' w' ∧ RW g' T' w' ∧ VR g' w' x v ∧ Fix ro g0 T0 w0 T' w') (D.map (mk g)) .returning w
  | [], T, T', g, w, x, h, hr, hk, r, hσ, e, hx => by
    simp only [vmarks] at h
    injection h with h; subst h
    obtain ⟨v, h1, h2⟩ := vresults_ok (a := { tmps := tmps, defers := [] }) r hσ hr
    exact ⟨v, h2, v, x, g, T, rfl, hk, e, r, h1, hx⟩
  | id :: D, T, T', g, w, x, h, hr, hk, r, hσ, e, hx => by
    simp only [vmarks] at h
    split at h
    · rename_i ho
      cases hb : Nat.ble ro id with
      | false => rw [hb] at h; cases h
      | true =>
        rw [hb] at h
        simp only [cond_true] at h
        obtain ⟨b, h1, h2, h3, h4⟩ := r.obj id _ ho rfl
        have hlt := (Array.getElem?_eq_some_iff.1 h2).1
        have hnew := World.putObj_heap_same (w := w) (o := .deferred none) hlt
        have hoth : ∀ c, c ≠ b → (w.putObj b (.deferred none)).heap[c]? = w.heap[c]? := fun c hc => World.putObj_heap_other hc
        obtain ⟨k1, k2⟩ := r.setObj (o' := .gone) ho rfl h1 (w' := w.putObj b (.deferred none)) ⟨rfl, rfl, rfl⟩ World.putObj_size hoth (by unfold csize; rw [hnew, show w.heap[b]? = _ from h2]) fun h => by cases h
        have k3 : Fix ro g T w (T.kill id) (w.putObj b (.deferred none)) := setObj_fix r ho rfl h1 (Nat.le_of_ble_eq_true hb) hoth
        refine ⟨fun h => (by cases h), .inl ⟨b, w.putObj b (.deferred none), by simp [mk, h1], run_takeDeferred h2, ?_⟩⟩
        exact leaves_ok D (T.kill id) T' g _ x h hr hk k1 (hσ.mono k2) (e.trans k2) (hx.trans e k3)
    · cases h
theorem vleave_ok {fn : Func} {ro : Nat} {K : TV → VT → Prop} {σ : List TV} {T : VT} {D : List Nat} (h : vleave P fn ro σ T D K) : ∃ T' x, vmarks ro D T = some T' ∧ vresults P T' σ fn.results = some x ∧ K x T' := by
  unfold vleave at h
  split at h
  · rename_i T' hT
    split at h
    · rename_i x hx; exact ⟨T', x, hT, hx, h⟩
    · exact h.elim
  · exact h.elim
theorem VCx.enter {ro : Nat} {f : FuncId} {fn : Func} {c : Code} {xs : List TV} {T : VT} {K : TV → VT → Prop} (hf : P.funcs[f]? = some fn) (hb : fn.body = some c)
    (h : VWx P G none ro c (vstart fn xs) T [] (vback P fn ro K)) : VCx P G ro f xs T K := by
  intro g w us rw0 hG hx
  refine calls_of_fen (r := none) (n := 0) (callsIn_of_wp_marks hf hb trivial (wpIn_mono (h none g w _ rw0 hG ?_ rfl (fun _ h => nomatch h) rfl) ?_))
  · have e1 : (us.toArray ++ Array.replicate (fn.ntmps - us.toArray.size) undef).toList = us ++ (List.replicate (fn.ntmps - xs.length) undef) := by simp [hx.1]
    rw [e1]
    refine hx.app ?_
    have := VRs.vals g w (List.replicate (fn.ntmps - xs.length) undef)
    simpa using this
  · rintro e a' w' ⟨g', σ', T', D', hq, e1, r', hσ', hd', hD', hx'⟩
    cases e with
    | normal =>
      obtain ⟨T'', x, h1, h2, h3⟩ := vleave_ok (P := P) hq
      simp only [bodyPostM, hd']
      exact leaves_ok D' T' T'' g' w' x h1 h2 h3 r' hσ' e1 hx'
    | ret =>
      obtain ⟨T'', x, h1, h2, h3⟩ := vleave_ok (P := P) hq
      simp only [bodyPostM, hd']
      exact leaves_ok D' T' T'' g' w' x h1 h2 h3 r' hσ' e1 hx'
    | exit id => exact hq.elim
    | goto l => exact hq.elim
    | panic ch => exact hq.elim
    | outgrown => exact hq.elim
/-! ### Rounds -/
def RunOk (P : Program) (G : Globs) (run : Run0) : Prop := ∀ rd ro c σ T D K, run rd ro c σ T D K → VWx P G rd ro c σ T D K
theorem vparams_ok {g : Gh} {w : World} : ∀ (ps : List Tmp) (xs σ : List TV) (us tmps : List Value), VRs g w xs us → VRs g w σ tmps → VRs g w (vparams ps xs σ) ((ps.zip us).foldl (fun t p => t.set p.1 p.2) tmps)
  | [], xs, σ, us, tmps, hx, hσ => by simpa [vparams] using hσ
  | p :: ps, [], σ, us, tmps, hx, hσ => by
    have : us = [] := List.eq_nil_of_length_eq_zero hx.1
    subst this
    simpa [vparams] using hσ
  | p :: ps, x :: xs, σ, [], tmps, hx, hσ => by have := hx.1; simp at this
  | p :: ps, x :: xs, σ, u :: us, tmps, hx, hσ => by
    simp only [vparams, List.zip_cons_cons, List.foldl_cons]
    exact vparams_ok ps xs _ us _ ⟨by simpa using hx.1, fun j y v hy hv => hx.2 (j + 1) y v (by simpa using hy) (by simpa using hv)⟩ (hσ.set p (hx.2 0 x u rfl rfl))
theorem params_fold (ps : Array Tmp) (us : List Value) (tmps : Array Value) : ((ps.zip us.toArray).foldl (fun tmps (t, a) => tmps.setIfInBounds t a) tmps).toList = (ps.toList.zip us).foldl (fun t p => t.set p.1 p.2) tmps.toList := by
  rw [← Array.foldl_toList]
  simp only [Array.toList_zip]
  generalize ps.toList.zip us = l
  induction l generalizing tmps with
  | nil => rfl
  | cons p l ih => simp only [List.foldl_cons]; rw [ih]; simp
theorem vroundEnd_ok {ro id : Nat} {st : LoopState} {pend : Option Code} {T : VT} {K : VT → Prop} (h : vroundEnd ro id st pend T K) : ∃ st0 pend0 σ ps asg body, T.objs[id]? = some (.loop st0 pend0 σ ps asg body) ∧ ro ≤ id ∧ K (T.setLoop id st pend σ ps asg body) := by
  unfold vroundEnd at h
  split at h
  · rename_i st0 pend0 σ ps asg body ho
    cases hb : Nat.ble ro id with
    | false => rw [hb] at h; exact h.elim
    | true => rw [hb] at h; exact ⟨_, _, _, _, _, _, ho, Nat.le_of_ble_eq_true hb, h⟩
  · exact h.elim
theorem vround_ok {run : Run0} (hrun : RunOk P G run) : RoundOk P G (vround run) := by
  intro ro id xs T K h g w us rw0 hG hxs
  unfold vround at h
  split at h
  · rename_i σ ps asg body ho
    cases hb : (Nat.ble ro id && Nat.beq ps.size xs.length) with
    | false => rw [hb] at h; exact h.elim
    | true =>
      rw [hb] at h
      simp only [Bool.and_eq_true] at hb
      obtain ⟨hro, hsz⟩ := hb
      have hro := Nat.le_of_ble_eq_true hro
      have hsz := Nat.eq_of_beq_eq_true hsz
      simp only [cond_true] at h
      obtain ⟨b, hgb, _⟩ := rw0.obj id _ ho rfl
      obtain ⟨rec, h1, h2, h3, h4, h5, h6, h7, _⟩ := setLoop_ok rw0 ho hgb
      refine ⟨b, _, _, _, _, hgb, run_yield h1 (by rw [h4]; simpa [hxs.1] using hsz.symm), ?_⟩
      rw [h4, h5, h6]
      refine roundIn_of_wpIn (F := Fence.wide) trivial ?_
      refine wpIn_mono (hrun _ _ _ _ _ _ _ h (some b) g w { tmps := _, defers := [] } rw0 hG ?_ rfl (fun _ h => nomatch h) ⟨rfl, hgb⟩) ?_
      · simp only
        rw [params_fold]
        exact vparams_ok _ _ _ _ _ hxs h7
      · rintro e a' w' ⟨g', σ', T', D', hq, e1, r', hσ', hd', hD', hx'⟩
        cases e with
        | normal =>
          simp only at hq
          split at hq
          · rename_i σ2 ps2 asg2 body2 ho2
            have hgb' := e1.obj id b hgb
            obtain ⟨rec2, k1, k2, k3, k4, k5, k6, k7, k8⟩ := setLoop_ok r' ho2 hgb'
            obtain ⟨m1, m2, m3⟩ := k8 .busy none
            have hrec : ({ rec2 with state := .busy } : Loop) = { rec2 with state := .busy, pending := none } := by
              rw [← k3]
            refine ⟨_, run_beginRound k1 k2, ?_⟩
            rw [hrec]
            refine wpIn_mono (hrun _ _ _ _ _ _ _ hq (some b) g' _ a' m1 ((hG.mono e1).mono m2) (hσ'.mono m2) hd' hD' ⟨rfl, hgb'⟩) ?_
            have fx := hx'.trans e1 (m3 ro hro)
            rintro e a2 w2 ⟨g2, σ2', T2, D2, hq2, e2, r2, hσ2, hd2, hD2, hx2⟩
            have hgb2 := e2.obj id b hgb'
            have ee := (e1.trans m2).trans e2
            have ff := fx.trans (e1.trans m2) hx2
            have fin : ∀ (st : LoopState) (pend : Option Code) (y : TV) (v : Value) (vd : VR g2 w2 y v), vroundEnd ro id st pend T2 (fun T => K y T) → st = (if pend.isNone then .ready else .done) → v = .bool pend.isNone →
                ∃ v' w', (Instr.endRound b pend).run P w2 = .ok v' w' ∧ ∃ v x g' T', (Ending.returned v' = .returned v) ∧ K x T' ∧ Evo g w g' w' ∧ RW g' T' w' ∧ VR g' w' x v ∧ Fix ro g T w T' w' := by
              intro st pend y v vd hv hst hvv
              obtain ⟨st0, pend0, σ3, ps3, asg3, body3, n1, n2, n3⟩ := vroundEnd_ok hv
              obtain ⟨rec3, p1, p2, p3, p4, p5, p6, p7, p8⟩ := setLoop_ok r2 n1 hgb2
              obtain ⟨q1, q2, q3⟩ := p8 st pend
              refine ⟨_, _, run_endRound pend p1, v, y, g2, _, by rw [hvv], n3, ?_⟩
              rw [← hst]
              exact ⟨ee.trans q2, q1, vd.mono q2, ff.trans ee (q3 ro hro)⟩
            cases e with
            | normal => exact fin .ready none _ _ (.val (.bool true)) hq2 rfl rfl
            | ret => exact fin .done (some .ret) _ _ (.val (.bool false)) hq2 rfl rfl
            | exit i => exact fin .done (some (.exit i)) _ _ (.val (.bool false)) hq2 rfl rfl
            | goto l => exact hq2.elim
            | panic ch => exact hq2.elim
            | outgrown => exact hq2.elim
          · exact hq.elim
        | ret => exact hq.elim
        | exit i => exact hq.elim
        | goto l => exact hq.elim
        | panic ch => exact hq.elim
        | outgrown => exact hq.elim
  · exact h.elim
/-! ### A range over a function -/
theorem vrangeEnd_ok {ro id : Nat} {σ : List TV} {D : List Nat} {K : KX} {T : VT} (h : vrangeEnd ro id σ D K T) : ∃ st pend σ' ps asg body e, T.objs[id]? = some (.loop st pend σ' ps asg body) ∧ ro ≤ id ∧ K e σ (T.setLoop id .exhausted pend σ' ps asg body) D ∧ st ≠ .busy ∧
    ((pend = none ∧ e = .normal) ∨ (pend = some .ret ∧ e = .ret) ∨ ∃ x, pend = some (.exit x) ∧ e = .exit x) := by
  unfold vrangeEnd at h
  split at h
  · rename_i ho
    cases hb : Nat.ble ro id with
    | false => rw [hb] at h; exact h.elim
    | true => rw [hb] at h; exact ⟨_, _, _, _, _, _, _, ho, Nat.le_of_ble_eq_true hb, h, (fun h => by cases h), .inl ⟨rfl, rfl⟩⟩
  · rename_i ho
    cases hb : Nat.ble ro id with
    | false => rw [hb] at h; exact h.elim
    | true => rw [hb] at h; exact ⟨_, _, _, _, _, _, _, ho, Nat.le_of_ble_eq_true hb, h, (fun h => by cases h), .inr (.inl ⟨rfl, rfl⟩)⟩
  · rename_i ho
    cases hb : Nat.ble ro id with
    | false => rw [hb] at h; exact h.elim
    | true => rw [hb] at h; exact ⟨_, _, _, _, _, _, _, ho, Nat.le_of_ble_eq_true hb, h, (fun h => by cases h), .inr (.inr ⟨_, rfl, rfl⟩)⟩
  · exact h.elim
theorem rangePost_ok {r : Option Nat} {ro id b : Nat} {σ : List TV} {D : List Nat} {K : KX} {T' : VT} (h : vrangeEnd ro id σ D K T') {g0 : Gh} {T0 : VT} {w0 : World} {g' : Gh} {w' : World} {a' : Act} (r' : RW g' T' w') (hb : g'.obj id = some b) (e1 : Evo g0 w0 g' w') (hx : Fix ro g0 T0 w0 T' w')
    (hσ : VRs g' w' σ a'.tmps.toList) (hd : a'.defers = D.map (mk g')) (hD : ∀ id ∈ D, (g'.obj id).isSome = true) (v : Value) :
    rangePost (fenR r) 0 P b (fun e a' w' => ∃ g' σ' T' D', K e σ' T' D' ∧ Evo g0 w0 g' w' ∧ RW g' T' w' ∧ VRs g' w' σ' a'.tmps.toList ∧ a'.defers = D'.map (mk g') ∧ (∀ id ∈ D', (g'.obj id).isSome = true) ∧ Fix ro g0 T0 w0 T' w') a' (.returned v) w' := by
  obtain ⟨st, pend, σ', ps, asg, body, e, n1, n2, n3, n4, n5⟩ := vrangeEnd_ok h
  obtain ⟨rec3, p1, p2, p3, p4, p5, p6, p7, p8⟩ := setLoop_ok r' n1 hb
  obtain ⟨q1, q2, q3⟩ := p8 .exhausted pend
  have hrec : ({ rec3 with state := .exhausted } : Loop) = { rec3 with state := .exhausted, pending := pend } := by rw [← p3]
  refine ⟨_, _, run_endLoop p1 (by rw [p2]; exact n4), ?_⟩
  rw [hrec, p3]
  have fin : ∃ g'' σ'' T'' D'', K e σ'' T'' D'' ∧ Evo g0 w0 g'' (w'.putObj b (.loop { rec3 with state := .exhausted, pending := pend })) ∧ RW g'' T'' (w'.putObj b (.loop { rec3 with state := .exhausted, pending := pend })) ∧ VRs g'' (w'.putObj b (.loop { rec3 with state := .exhausted, pending := pend })) σ'' a'.tmps.toList ∧ a'.defers = D''.map (mk g'') ∧ (∀ id ∈ D'', (g''.obj id).isSome = true) ∧ Fix ro g0 T0 w0 T'' (w'.putObj b (.loop { rec3 with state := .exhausted, pending := pend })) :=
    ⟨g', σ, _, D, n3, e1.trans q2, q1, hσ.mono q2, hd, hD, hx.trans e1 (q3 ro n2)⟩
  rcases n5 with ⟨rfl, rfl⟩ | ⟨rfl, rfl⟩ | ⟨x, rfl, rfl⟩
  · exact fin
  · exact wpIn_ret fin
  · exact wpIn_exit fin
theorem take_app {α : Type} (l m : List α) : (l ++ m).take l.length = l := by simp
theorem args_eq (us vs : List Value) (y : Value) : (us.toArray ++ #[y]) ++ vs.toArray = (us ++ [y] ++ vs).toArray := by simp
theorem run_resolve {a : Act} {f : Operand} {l : Nat} {fi : FuncId} {us vs : List Value} (h : a.eval f = .func (.func fi) us.toArray vs.toArray) (w : World) :
    (resolve a.eval (rangeCall f l) 0).run P w = .ok { target := .fn (.func fi) vs.toArray, args := us.toArray ++ #[.func (.yield l) #[] #[]] } w := by
  have hc : a.eval (.const (.func (.yield l) #[] #[])) = .func (.yield l) #[] #[] := rfl
  simp [resolve, h, hc, Deferred.ofValue]
theorem run_invoke {fi : FuncId} {fn : Func} {args vs : Array Value} (hfn : P.funcs[fi]? = some fn) (hb : fn.body.isSome = true) (hnm : (fn.name == "runtime.NumGoroutine") = false) (w : World) :
    (invoke (.fn (.func fi) vs) args).run P w = .ok (.enter fi (args ++ vs)) w := by
  have hb' : fn.body ≠ none := by intro h; rw [h] at hb; cases hb
  have hnm' : fn.name ≠ "runtime.NumGoroutine" := by simpa using hnm
  simp [invoke, callFunc, hfn, hnm', hb']
theorem VWx.range0 {ro : Nat} {f : Operand} {ps : Array Tmp} {asg body : Code} {σ : List TV} {T : VT} {D : List Nat} {K : KX} {fi : FuncId} {fn : Func} {first ca : List TV} (hf : vev G σ f = .fn (.func fi) first ca)
    (hfn : P.funcs[fi]? = some fn) (hb : fn.body.isSome = true) (hnm : (fn.name == "runtime.NumGoroutine") = false)
    (hc : VCx P G ro fi (first ++ [.yld (T.objs.length + 1)] ++ ca) { T with objs := T.objs ++ [.defd] ++ [.loop .ready none σ ps asg body] } fun _ T' => vrangeEnd ro (T.objs.length + 1) σ (T.objs.length :: D) K T') :
    VWx P G none ro (.rangeFunc f ps asg body) σ T D K := by
  intro r g w a rw0 hG hσ hd hD hrd
  have hrd : r = none := hrd
  subst hrd
  have hv := vev_ok hG hσ f
  rw [hf] at hv
  obtain ⟨us, vs, h2, h3, h4⟩ := hv.fn_inv
  refine wpIn_rangeFunc fun fd _ => ?_
  obtain ⟨g1, r1, e1, ho1, _⟩ := rw0.new (.deferred (some [])) (o := .defd) rfl (World.alloc_heap_new _ _)
  have hE := Evo.of_gr r1 ((Gr.refl (w.alloc (.deferred (some [])))).alloc (.loop { state := .ready, pending := none, fn := fd, tmps := a.tmps, params := ps, assign := asg, body := body, defers := w.heap.size }))
  obtain ⟨g2, r2, e2, ho2, _⟩ := r1.new (.loop { state := .ready, pending := none, fn := fd, tmps := a.tmps, params := ps, assign := asg, body := body, defers := w.heap.size }) (o := .loop .ready none σ ps asg body) rfl
    ⟨a.tmps.toList, fd, w.heap.size, World.alloc_heap_new _ _, hσ.mono (e1.trans hE)⟩
  have ee := e1.trans e2
  have hl : (w.alloc (.deferred (some []))).heap.size = w.heap.size + 1 := World.size_alloc ..
  have hl2 : ({ T with objs := T.objs ++ [.defd] } : VT).objs.length = T.objs.length + 1 := by simp
  rw [hl, hl2] at ho2
  have ho1' := e2.obj _ _ ho1
  have f1 : Fix ro g T w { T with objs := T.objs ++ [.defd] ++ [.loop .ready none σ ps asg body] } ((w.alloc (.deferred (some []))).alloc (.loop { state := .ready, pending := none, fn := fd, tmps := a.tmps, params := ps, assign := asg, body := body, defers := w.heap.size })) :=
    Fix.of_same (Same.of_gr rw0 (((Gr.refl w).alloc _).alloc _)) (by simp only [List.append_assoc]; exact take_app _ _)
  refine ⟨w.heap.size + 1, [{ target := .collected w.heap.size, args := #[] }], _, _, _, fi, _, _, run_enterLoop_outer fd a.tmps ps asg body, run_resolve h2 _, fun _ _ => trivial, run_invoke hfn hb hnm _, fun h => (by cases h), ?_⟩
  have hargs : VRs g2 _ (first ++ [.yld (T.objs.length + 1)] ++ ca) (us ++ [.func (.yield (w.heap.size + 1)) #[] #[]] ++ vs) := ((h3.mono ee).app (VRs.cons (.yld ho2) (VRs.nil _ _))).app (h4.mono ee)
  have hcall := hc g2 _ _ r2 (hG.mono ee) hargs
  have ha : (us.toArray ++ #[Value.func (.yield (w.heap.size + 1)) #[] #[]]) ++ vs.toArray = (us ++ [Value.func (.yield (w.heap.size + 1)) #[] #[]] ++ vs).toArray := args_eq us vs _
  rw [ha]
  refine callsIn_fen (Calls.mono hcall ?_)
  rintro e w' ⟨v, x, g', T', rfl, hq, e3, r', hv, hx⟩
  have eE := ee.trans e3
  refine rangePost_ok (a' := { tmps := a.tmps, defers := [{ target := .collected w.heap.size, args := #[] }] ++ a.defers }) hq r' (e3.obj _ _ ho2) eE (f1.trans ee hx) (hσ.mono eE) ?_ ?_ v
  · show [_] ++ a.defers = _
    rw [hd, List.map_cons, mk_evo eE hD]
    simp [mk, e3.obj _ _ ho1']
  · intro id hid
    rcases List.mem_cons.1 hid with rfl | hid
    · rw [e3.obj _ _ ho1']; rfl
    · exact isSome_evo eE hD id hid
theorem VWx.range1 {i0 ro : Nat} {f : Operand} {ps : Array Tmp} {asg body : Code} {σ : List TV} {T : VT} {D : List Nat} {K : KX} {fi : FuncId} {fn : Func} {first ca : List TV} {st0 : LoopState} {pend0 : Option Code} {σ0 : List TV} {ps0 : Array Tmp} {asg0 body0 : Code}
    (hf : vev G σ f = .fn (.func fi) first ca) (hlp : T.objs[i0]? = some (.loop st0 pend0 σ0 ps0 asg0 body0))
    (hfn : P.funcs[fi]? = some fn) (hb : fn.body.isSome = true) (hnm : (fn.name == "runtime.NumGoroutine") = false)
    (hc : VCx P G ro fi (first ++ [.yld T.objs.length] ++ ca) { T with objs := T.objs ++ [.loop .ready none σ ps asg body] } fun _ T' => vrangeEnd ro T.objs.length σ D K T') :
    VWx P G (some i0) ro (.rangeFunc f ps asg body) σ T D K := by
  intro r g w a rw0 hG hσ hd hD hrd
  obtain ⟨hr1, hr2⟩ := hrd
  obtain ⟨b0, rfl⟩ := Option.isSome_iff_exists.1 hr1
  obtain ⟨rec0, k1, _⟩ := setLoop_ok rw0 hlp hr2
  have hv := vev_ok hG hσ f
  rw [hf] at hv
  obtain ⟨us, vs, h2, h3, h4⟩ := hv.fn_inv
  refine wpIn_rangeFunc fun fd _ => ?_
  have hE := Evo.of_gr rw0 ((Gr.refl w).alloc (.loop { state := .ready, pending := none, fn := fd, tmps := a.tmps, params := ps, assign := asg, body := body, defers := rec0.defers }))
  obtain ⟨g2, r2, ee, ho2, _⟩ := rw0.new (.loop { state := .ready, pending := none, fn := fd, tmps := a.tmps, params := ps, assign := asg, body := body, defers := rec0.defers }) (o := .loop .ready none σ ps asg body) rfl
    ⟨a.tmps.toList, fd, rec0.defers, World.alloc_heap_new _ _, hσ.mono hE⟩
  have f1 : Fix ro g T w { T with objs := T.objs ++ [.loop .ready none σ ps asg body] } (w.alloc (.loop { state := .ready, pending := none, fn := fd, tmps := a.tmps, params := ps, assign := asg, body := body, defers := rec0.defers })) :=
    Fix.of_same (Same.of_gr rw0 ((Gr.refl w).alloc _)) (take_app _ _)
  refine ⟨w.heap.size, [], _, _, _, fi, _, _, run_enterLoop_inner k1 fd a.tmps ps asg body, run_resolve h2 _, fun _ _ => trivial, run_invoke hfn hb hnm _, fun h => (by cases h), ?_⟩
  have hargs : VRs g2 _ (first ++ [.yld T.objs.length] ++ ca) (us ++ [.func (.yield w.heap.size) #[] #[]] ++ vs) := ((h3.mono ee).app (VRs.cons (.yld ho2) (VRs.nil _ _))).app (h4.mono ee)
  have hcall := hc g2 _ _ r2 (hG.mono ee) hargs
  have ha : (us.toArray ++ #[Value.func (.yield w.heap.size) #[] #[]]) ++ vs.toArray = (us ++ [Value.func (.yield w.heap.size) #[] #[]] ++ vs).toArray := args_eq us vs _
  rw [ha]
  refine callsIn_fen (Calls.mono hcall ?_)
  rintro e w' ⟨v, x, g', T', rfl, hq, e3, r', hv, hx⟩
  have eE := ee.trans e3
  refine rangePost_ok (a' := { tmps := a.tmps, defers := [] ++ a.defers }) hq r' (e3.obj _ _ ho2) eE (f1.trans ee hx) (hσ.mono eE) ?_ (isSome_evo eE hD) v
  show [] ++ a.defers = _
  rw [hd, mk_evo eE hD]; rfl
/-! ### All of it -/
/-- what is known of functions -/
def SpecsOk (P : Program) (G : Globs) (C : FuncId → Option Spec) : Prop := ∀ f W, C f = some W → ∀ ro xs T K, W ro xs T K → VCx P G ro f xs T K
/-- no function with a body is the scheduler's count -/
def bodiesOk (P : Program) : Bool := P.funcs.toList.all fun fn => !fn.body.isSome || !(fn.name == "runtime.NumGoroutine")
theorem callee_ok {C : FuncId → Option Spec} (hB : bodiesOk P = true) (hC : SpecsOk P G C) {run : Run0} (hrun : RunOk P G run) : CalleeOk P G (vcallee P C run) := by
  intro ro f xs T K h
  unfold vcallee at h
  split at h
  · rename_i fn hf
    split at h
    · rename_i c hc
      have hnm : (fn.name == "runtime.NumGoroutine") = false := by
        have hmem : fn ∈ P.funcs.toList := by
          obtain ⟨hlt, he⟩ := Array.getElem?_eq_some_iff.1 hf
          rw [← he]; exact Array.mem_toList_iff.2 (Array.getElem_mem hlt)
        have := List.all_eq_true.1 hB fn hmem
        simpa [hc] using this
      refine ⟨fn, hf, by rw [hc]; rfl, hnm, ?_⟩
      split at h
      · rename_i W hW
        exact hC f W hW ro xs T K h
      · exact VCx.enter hf hc (hrun _ _ _ _ _ _ _ h)
    · exact h.elim
  · exact h.elim
/-- what is known of blocks is so -/
def LsOk (P : Program) (G : Globs) (L : Nat → Option (LSpec × Code)) : Prop := ∀ id W c, L id = some (W, c) → ∀ rd ro σ T D K, W rd ro σ T D K → VWx P G rd ro c σ T D K
theorem lsOk_none : LsOk P G fun _ => none := fun _ _ _ h => by cases h
theorem vx_ok {C : FuncId → Option Spec} (hm : P.follows .mixedOrders = true) (hB : bodiesOk P = true) (hC : SpecsOk P G C) :
    ∀ n m, m ≤ n → ∀ F L, LsOk P G L → RunOk P G (vx P G C F m L)
  | _, 0, _, _, _, _, _, _, _, _, _, _, _, h => by simp only [vx] at h; exact h.elim
  | 0, m + 1, hle, _, _, _, _, _, _, _, _, _, _, _ => by omega
  | n + 1, m + 1, hle, F, L, hL, rd, ro, c, σ, T, D, K, h => by
    have ih := fun m hm0 => vx_ok hm hB hC n m hm0 F L hL
    have ih0 := fun m hm0 => vx_ok hm hB hC n m hm0 noOra (fun _ => none) lsOk_none
    have hcal : CalleeOk P G (vcallee P C (vx P G C noOra m fun _ => none)) := callee_ok hB hC (ih0 m (by omega))
    have hrnd : RoundOk P G (vround (vx P G C noOra m fun _ => none)) := vround_ok (ih0 m (by omega))
    unfold vx at h
    cases c with
    | skip => exact VWx.here (e := .normal) h fun F a w R hr => wpIn_skip hr
    | exit id => exact VWx.here (e := .exit id) h fun F a w R hr => wpIn_exit hr
    | ret => exact VWx.here (e := .ret) h fun F a w R hr => wpIn_ret hr
    | seq a b =>
      refine VWx.seq ((ih m (by omega) _ _ _ _ _ _ _ h).mono fun e σ T D hq => ?_)
      cases e <;> first
        | exact ih m (by omega) _ _ _ _ _ _ _ hq
        | exact hq
    | cond c x y =>
      simp only at h
      split at h
      · rename_i b hb
        refine VWx.cond hb (fun hbt => ?_) (fun hbf => ?_)
        · subst hbt; exact ih m (by omega) _ _ _ _ _ _ _ h
        · subst hbf; exact ih m (by omega) _ _ _ _ _ _ _ h
      · exact h.elim
    | block id c =>
      simp only at h
      split at h
      · rename_i W c' hW
        obtain ⟨rfl, h⟩ := h
        exact hL _ _ _ hW rd ro σ T D K h
      · exact VWx.block (ih m (by omega) _ _ _ _ _ _ _ h)
    | scope c => exact VWx.scope (ih m (by omega) _ _ _ _ _ _ _ h)
    | loop c =>
      refine VWx.loop (fun k σ T D => k ≤ m + 1 ∧ vx P G C F k L rd ro (.loop c) σ T D K) (m + 1) ⟨Nat.le_refl _, by unfold vx; exact h⟩ ?_
      rintro k σ T D ⟨hk, h⟩
      cases k with
      | zero => simp only [vx] at h; exact h.elim
      | succ j =>
        unfold vx at h
        refine (ih j (by omega) _ _ _ _ _ _ _ h).mono fun e σ T D hq => ?_
        cases e <;> first
          | exact ⟨j, by omega, by omega, hq⟩
          | exact hq
    | region id ops d =>
      cases d with
      | false => exact vregion_ok (Q := K) hcal hrnd h
      | true => exact vdraw_ok (Q := K) hcal hrnd hm h
    | rangeFunc f ps a b =>
      simp only at h
      split at h
      · rename_i fi first ca hf
        cases rd with
        | none =>
          obtain ⟨fn, h1, h2, h3, h4⟩ := hcal _ _ _ _ _ h
          exact VWx.range0 hf h1 h2 h3 h4
        | some i0 =>
          simp only at h
          split at h
          · rename_i hlp
            obtain ⟨fn, h1, h2, h3, h4⟩ := hcal _ _ _ _ _ h
            exact VWx.range1 hf hlp h1 h2 h3 h4
          · exact h.elim
      · exact h.elim
    | label l => exact VWx.here (e := .normal) h fun F a w R hr => wpIn_label hr
    | goto l => exact h.elim
    | refuse why => exact h.elim
/-- a call, reckoned, is so -/
theorem vcallF_ok {C : FuncId → Option Spec} (hm : P.follows .mixedOrders = true) (hB : bodiesOk P = true) (hC : SpecsOk P G C) {F : Ora} {n : Nat} {L : Nat → Option (LSpec × Code)} (hL : LsOk P G L) {ro : Nat} {f : FuncId} {xs : List TV} {T : VT} {K : TV → VT → Prop}
    (h : vcallF P G C F n L ro f xs T K) : VCx P G ro f xs T K := by
  unfold vcallF at h
  split at h
  · rename_i fn hf
    split at h
    · rename_i c hc
      exact VCx.enter hf hc (vx_ok hm hB hC n n (Nat.le_refl _) _ _ hL _ _ _ _ _ _ _ h)
    · exact h.elim
  · exact h.elim
theorem vcall_ok {C : FuncId → Option Spec} (hm : P.follows .mixedOrders = true) (hB : bodiesOk P = true) (hC : SpecsOk P G C) {n : Nat} {L : Nat → Option (LSpec × Code)} (hL : LsOk P G L) {ro : Nat} {f : FuncId} {xs : List TV} {T : VT} {K : TV → VT → Prop}
    (h : vcall P G C n L ro f xs T K) : VCx P G ro f xs T K := vcallF_ok hm hB hC hL (F := noOra) h
/-- nothing is known of functions -/
theorem specsOk_none : SpecsOk P G fun _ => none := fun _ _ h => by cases h
end
end Go.Proofs.YtapfboldkkodkaaGreatDoor
