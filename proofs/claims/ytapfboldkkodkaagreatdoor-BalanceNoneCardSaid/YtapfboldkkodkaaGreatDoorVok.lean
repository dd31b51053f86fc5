/- What the evaluator reckons of operations and regions is so. For any program. -/
import Derived.Test.YtapfboldkkodkaaGreatDoorVev
namespace Go.Proofs.YtapfboldkkodkaaGreatDoor
open Go.RowKit

section
variable {P : Program} {G : Globs} {F : Ora}
def CalleeOk (P : Program) (G : Globs) (call : Callee0) : Prop := ∀ ro f xs T K, call ro f xs T K → ∃ fn, P.funcs[f]? = some fn ∧ fn.body.isSome = true ∧ (fn.name == "runtime.NumGoroutine") = false ∧ VCx P G ro f xs T K
def RoundOk (P : Program) (G : Globs) (rnd : Round0) : Prop := ∀ ro id xs T K, rnd ro id xs T K → VRx P G ro id xs T K
theorem VPi.of {ro : Nat} {o : Oper} {σ : List TV} {T : VT} {K : List TV → VT → Prop} (hd : notDefer o.op = true)
    (h : ∀ g w ρ, RW g T w → (∀ x, VR g w (vev G σ x) (ρ x)) → ∃ m v g' w' y T', (execOp ρ o).run P w = .ok m w' ∧ nextVal m = some v ∧ K (vput σ o.dst y) T' ∧ VR g' w' y v ∧ Evo g w g' w' ∧ RW g' T' w' ∧ Fix ro g T w T' w') : VPi P G ro o σ T K := by
  refine VPx.toI ?_ hd
  intro g w a next Q r hG hσ hn
  obtain ⟨m, v, g', w', y, T', h1, h2, hk, h3, h4, h5, h6⟩ := h g w a.eval r (vev_ok hG hσ)
  unfold Oper.wp
  rw [h1]
  have e : ∀ v', VR g' w' y v' → next (a.put o.dst v') w' := fun v' hv => hn _ _ g' w' _ ⟨v', rfl⟩ hk h4 h5 (vput_ok (hσ.mono h4) o.dst hv) (put_defers _ _ _) h6
  cases m <;> simp only [nextVal] at h2 <;> try (cases h2)
  · exact e v h3
  · exact e undef h3
theorem evFind_ok {g : Gh} {w : World} {σ : List TV} {ρ : Operand → Value} (hρ : ∀ x, VR g w (vev G σ x) (ρ x)) : ∀ (l : List Operand) (t : Nat), VR g w (evFind (opTmps σ l) t) (ρ (.tmp t))
  | [], t => .dead _
  | .tmp s :: l, t => by
    simp only [opTmps, evFind]
    cases hb : Nat.beq s t with
    | true =>
      have := Nat.eq_of_beq_eq_true hb
      subst this
      exact hρ (.tmp s)
    | false => exact evFind_ok hρ l t
  | .const v :: l, t => evFind_ok hρ l t
  | .global n :: l, t => evFind_ok hρ l t
  | .func f :: l, t => evFind_ok hρ l t
theorem evOf_ok {g : Gh} {w : World} {σ : List TV} {ρ : Operand → Value} (hρ : ∀ x, VR g w (vev G σ x) (ρ x)) (l : List Operand) (x : Operand) : VR g w (evOf G (opTmps σ l) x) (ρ x) := by
  cases x with
  | tmp t => exact evFind_ok hρ l t
  | const v => exact hρ (.const v)
  | global n => exact hρ (.global n)
  | func f => exact hρ (.func f)
theorem vopQ_ok {ro : Nat} {o : Oper} {σ : List TV} {T : VT} {K : List TV → VT → Prop} (h : vopQ P G ro o σ T K) : VPi P G ro o σ T K := by
  obtain ⟨dst, op, ty, pos, af, gd⟩ := o
  have gen : (match vopA P ro T op (vev G σ) with
      | some (y, T') => K (vput σ dst y) T'
      | none => vbad 2 op (op.operands.toList.map (vev G σ))) → notDefer op = true → VPi P G ro ⟨dst, op, ty, pos, af, gd⟩ σ T K := by
    intro h hd
    split at h
    · rename_i y T' hy
      refine VPi.of hd fun g w ρ r hρ => ?_
      obtain ⟨m, v, g', w', h1, h2, h3, h4, h5, h6⟩ := vopA_ok (o := ⟨dst, op, ty, pos, af, gd⟩) r hy hρ
      exact ⟨m, v, g', w', y, T', h1, h2, h, h3, h4, h5, h6⟩
    · exact h.elim
  unfold vopQ at h
  simp only at h
  cases op
  case next it isS =>
    cases isS with
    | true => exact gen h rfl
    | false =>
      simp only at h
      split at h
      · rename_i i l hl
        cases hr : Nat.ble ro i with
        | false => rw [hr] at h; exact h.elim
        | true =>
          rw [hr] at h
          simp only [cond_true] at h
          refine VPi.of rfl fun g w ρ r hρ => ?_
          obtain ⟨p, hp, v, g', w', h1, h2, h3, h4, h5⟩ := vnexts_ok (P := P) (ty := ty) r hl (hρ it) (Nat.le_of_ble_eq_true hr)
          exact ⟨.value v, v, g', w', p.1, p.2, by simp [execOp, h1], rfl, vall_at h p hp, h2, h3, h4, h5⟩
      · exact h.elim
  case entry it =>
    simp only at h
    split at h
    · rename_i y hy
      refine VPi.of rfl fun g w ρ r hρ => ?_
      obtain ⟨v, h1, h2⟩ := ventry_ok (P := P) r hy (hρ it)
      exact ⟨.value v, v, g, w, y, T, by simp [execOp, h2], rfl, h, h1, Evo.refl _ _, r, Fix.refl _ _ _ _⟩
    · exact h.elim
  case binOp op t x y' ty' =>
    simp only at h
    cases hb : vNilE P op t (vev G σ x) (vev G σ y') with
    | false =>
      rw [hb] at h
      simp only [cond_false] at h
      refine gen ?_ rfl
      split at h
      · rename_i y T' hy; rw [hy]; exact h
      · exact h.elim
    | true =>
      rw [hb] at h
      refine VPi.of rfl fun g w ρ r hρ => ?_
      obtain ⟨b, hrun⟩ := vNilE_ok (P := P) (xo := x) (yo := y') hb (hρ x) (hρ y')
      have hl : Looks0 P g w (do eqGuard op t x y' (ρ x) (ρ y'); binOp op t (ρ x) (ρ y')) (.val (.bool b)) := .of_ok (.val _) hrun
      obtain ⟨v, h1, h2⟩ := hl.next (n := execOp ρ ⟨dst, .binOp op t x y' ty', ty, pos, af, gd⟩) rfl
      refine ⟨.value v, v, g, w, .val (.bool b), T, h2 w, rfl, ?_, h1, Evo.refl _ _, r, Fix.refl _ _ _ _⟩
      cases b
      · exact h.2
      · exact h.1
  case range t x =>
    simp only at h
    split at h
    · rename_i y T' hy
      refine VPi.of rfl fun g w ρ r hρ => ?_
      obtain ⟨h1, h2⟩ := vrange_ok (P := P) r hy (hρ x)
      obtain ⟨v, g', w', k1, k2, k3, k4, k5⟩ := h1
      exact ⟨.value v, v, g', w', y, T', by simp [execOp, k1], rfl, h, k2, k3, k4, Fix.of_same k5 h2⟩
    · exact h.elim
  case defer c =>
    simp only at h
    exfalso
    have : vopA P ro T (.defer c) (vev G σ) = none := by
      simp [vopA, vpure2, vpure, vread2, vread, vmore, vop, vwrite, vfree]
    rw [this] at h
    exact h
  all_goals exact gen h rfl
theorem notDefer_of {op : Op} {ro : Nat} {T T' : VT} {ev : Operand → TV} {y : TV} (h : vopA P ro T op ev = some (y, T')) : notDefer op = true := by
  cases op <;> first
    | rfl
    | (exfalso; simp [vopA, vpure2, vpure, vread2, vread, vmore, vop, vwrite, vfree] at h)
theorem vopA_pure {op : Op} {ro : Nat} {T : VT} {ev : Operand → TV} {y : TV} (h : vpure2 P op ev = some y) : vopA P ro T op ev = some (y, T) := by
  unfold vopA; rw [h]
theorem vopP_ok {ro : Nat} {o : Oper} {σ : List TV} {T : VT} {K : List TV → VT → Prop} (h : vopP P G F ro o σ T K) : VPi P G ro o σ T K := by
  unfold vopP at h
  have go : ∀ {y T'}, vopA P ro T o.op (evOf G (opTmps σ o.op.operands.toList)) = some (y, T') → K (vput σ o.dst y) T' → VPi P G ro o σ T K := by
    intro y T' hy hk
    refine VPi.of (notDefer_of hy) fun g w ρ r hρ => ?_
    obtain ⟨m, v, g', w', h1, h2, h3, h4, h5, h6⟩ := vopA_ok (o := o) r hy (evOf_ok hρ _)
    exact ⟨m, v, g', w', y, T', h1, h2, hk, h3, h4, h5, h6⟩
  split at h
  · obtain ⟨⟨hy⟩, hk⟩ := h
    exact go (vopA_pure hy) hk
  · obtain ⟨⟨hy⟩, hk⟩ := h
    exact go hy hk
  · exact vopQ_ok h
theorem VPx.ext {ro : Nat} {o : Oper} {fo : Operand} {args : Array Operand} {ats : Array TypeId} {σ : List TV} {T T' : VT} {K : List TV → VT → Prop} {f : FuncId} {fi ca : List TV} {y : TV}
    (ho : o.op = .call ⟨.value fo, args, ats⟩) (hf : vev G σ fo = .fn (.func f) fi ca) (hx : vextF P ro T f (fi ++ args.toList.map (vev G σ) ++ ca) = some (y, T')) (k : K (vput σ o.dst y) T') : VPx P G ro o σ T K := by
  intro g w a next Q r hG hσ hn
  have h1 := vev_ok hG hσ fo
  rw [hf] at h1
  obtain ⟨us, vs, h2, h3, h4⟩ := h1.fn_inv
  have hargs := (h3.app (map_rel (vev_ok hG hσ) args.toList)).app h4
  unfold vextF at hx
  split at hx
  · rename_i fn hfn
    cases hb : fn.body.isNone with
    | false => rw [hb] at hx; cases hx
    | true =>
      rw [hb] at hx
      obtain ⟨v, g', w', k1, k2, k3, k4, k5⟩ := vext_ok r hfn hx hargs
      have hrun : (execOp a.eval o).run P w = .ok (.value v) w' := by
        obtain ⟨dst, op, ty, pos, af, gd⟩ := o
        simp only at ho; subst ho
        have e : (us.toArray ++ args.map a.eval) ++ vs.toArray = (us ++ args.toList.map a.eval ++ vs).toArray := by
          apply Array.ext'; simp
        simp only [execOp, resolve, h2, Deferred.ofValue, invoke, Sem.run_bind, Sem.run_pure, Result.andThen_ok, e]
        exact k1
      unfold Oper.wp
      rw [hrun]
      exact hn _ _ g' w' _ ⟨_, rfl⟩ k k3 k4 (vput_ok (hσ.mono k3) o.dst k2) (put_defers _ _ _) k5
  · cases hx
theorem vopI_ok {call : Callee0} {rnd : Round0} (hc : CalleeOk P G call) (hr : RoundOk P G rnd) {ro : Nat} {o : Oper} {σ : List TV} {T : VT} {K : List TV → VT → Prop} (h : vopI P G F call rnd ro o σ T K) : VPi P G ro o σ T K := by
  unfold vopI at h
  split at h
  · rename_i fo args ats ho
    split at h
    · rename_i f fi ca hf
      split at h
      · rename_i y T' hx
        exact (VPx.ext ho hf hx h).toI (by rw [ho]; rfl)
      · obtain ⟨fn, h1, h2, h3, h4⟩ := hc _ _ _ _ _ h
        exact (VPx.call ho hf h1 h2 h3 h4).toI (by rw [ho]; rfl)
    · rename_i id hf
      exact VPi.yld ho hf (hr _ _ _ _ _ h)
    · exact h.elim
  · exact vopP_ok h
theorem wanted_of {ops : Array Oper} {σ : List TV} {o : Oper} {b : Bool} (h : vwant ops σ o = some b) {g : Gh} {w : World} {a : Act} (hσ : VRs g w σ a.tmps.toList) : Region.wanted o (yielded ops a.tmps) = b := vwanted_ok (vwant_ok h) hσ
theorem vops_ok {call : Callee0} {rnd : Round0} (hc : CalleeOk P G call) (hr : RoundOk P G rnd) {ro : Nat} {ops : Array Oper} {K : List TV → VT → Prop} {r : Option Nat} {QQ : Exit → Act → World → Prop} : ∀ (js : List Nat) (l : List Oper), js.map (ops[·]?) = l.map some → ∀ (σ : List TV) (T : VT), vops P G F call rnd ro ops l σ T K → ∀ g w (a : Act), RW g T w → GOk G g w → VRs g w σ a.tmps.toList →
    (∀ σ' T' g' w' (a' : Act), K σ' T' → Evo g w g' w' → RW g' T' w' → VRs g' w' σ' a'.tmps.toList → a'.defers = a.defers → Fix ro g T w T' w' → QQ .normal a' w') → wpOpsIn (fenR r) 0 P ops QQ js a w
  | [], [], _, σ, T, h, g, w, a, rw0, hG, hσ, hq => hq σ T g w a h (Evo.refl _ _) rw0 hσ rfl (Fix.refl _ _ _ _)
  | [], _ :: _, hl, _, _, _, _, _, _, _, _, _, _ => by simp at hl
  | _ :: _, [], hl, _, _, _, _, _, _, _, _, _, _ => by simp at hl
  | j :: js, o :: l, hl, σ, T, h, g, w, a, rw0, hG, hσ, hq => by
    simp only [List.map_cons, List.cons.injEq] at hl
    obtain ⟨ho, hl⟩ := hl
    simp only [wpOpsIn, ho]
    simp only [vops] at h
    split at h
    · rename_i b hb
      have hw := wanted_of hb hσ
      cases b with
      | true =>
        rw [if_pos hw]
        simp only [cond_true] at h
        exact vopI_ok hc hr h r g w a _ QQ rw0 hG hσ fun σ' T' g' w' a' _ hk e r' hσ' hd' hx => vops_ok hc hr js l hl σ' T' hk g' w' a' r' (hG.mono e) hσ' fun σ'' T'' g'' w'' a'' hk' e' r'' hσ'' hd'' hx' => hq σ'' T'' g'' w'' a'' hk' (e.trans e') r'' hσ'' (hd''.trans hd') (hx.trans e hx')
      | false =>
        rw [if_neg (by rw [hw]; exact Bool.false_ne_true)]
        refine ⟨fun _ _ => trivial, ?_⟩
        exact vops_ok hc hr js l hl _ T h g w _ rw0 hG (vput_ok hσ o.dst (.val undef)) fun σ'' T'' g'' w'' a'' hk' e' r'' hσ'' hd'' hx' => hq σ'' T'' g'' w'' a'' hk' e' r'' hσ'' (hd''.trans (put_defers _ _ _)) hx'
    · exact h.elim
theorem range_ops (l : List Oper) : (List.range l.length).map (l.toArray[·]?) = l.map some := by
  apply List.ext_getElem?
  intro j
  simp only [List.getElem?_map, List.getElem?_toArray]
  rcases Nat.lt_or_ge j l.length with h | h
  · simp [h]
  · simp [List.getElem?_eq_none h, List.getElem?_eq_none (l := List.range l.length) (by simpa using h)]
theorem vregion_ok {call : Callee0} {rnd : Round0} (hc : CalleeOk P G call) (hr : RoundOk P G rnd) {rd : Option Nat} {ro id : Nat} {ops : Array Oper} {σ : List TV} {T : VT} {D : List Nat} {Q : KX} (h : vops P G F call rnd ro ops ops.toList σ T fun σ T => Q .normal σ T D) : VWx P G rd ro (.region id ops false) σ T D Q := by
  intro r g w a rw0 hG hσ hd hD hrd
  have e := range_ops ops.toList
  rw [Array.toArray_toList] at e
  have h2 : ops.toList.length = ops.size := by simp
  rw [h2] at e
  exact wpIn_region (vops_ok hc hr (List.range ops.size) ops.toList e σ T h g w a rw0 hG hσ fun σ' T' g' w' a' hk e r' hσ' hd' hx => ⟨g', σ', T', D, hk, e, r', hσ', by rw [hd', hd, mk_evo e hD], isSome_evo e hD, hx⟩)
/-! ### Regions that draw -/
theorem set_size {listed : Array Bool} {i n : Nat} (h : listed.size = n) : (listed.setIfInBounds i true).size = n := by simpa using h
theorem vplan_ok {call : Callee0} {rnd : Round0} (hc : CalleeOk P G call) (hrr : RoundOk P G rnd) {ops : Array Oper} (hnd : ∀ (j : Nat) o, ops[j]? = some o → notDefer o.op = true) (hsel : ∀ (j : Nat) (o : Oper) cs b, ops[j]? = some o → o.op ≠ .select cs b) {ro ro' : Nat} (hle : ro' ≤ ro) {K : List TV → VT → Prop} {r : Option Nat} {gs : Gh} {Ts : VT} {ws : World} {ds : List Deferred} {QQ : Act → World → Prop}
    (hq : ∀ σ' T' g' w' (a' : Act), K σ' T' → Evo gs ws g' w' → RW g' T' w' → VRs g' w' σ' a'.tmps.toList → a'.defers = ds → Fix ro' gs Ts ws T' w' → QQ a' w') :
    ∀ (l : List (Nat × PK)) (listed : Array Bool) (T0 : VT) (ph : Bool) (σ : List TV) (T : VT), planChk ops l listed = true → vplan P G F call rnd ro ops T0 ph (planSet ops l) σ T K → ∀ g0 w0 g w (a : Act), RW g0 T0 w0 → GOk G g w → RW g T w → VRs g w σ a.tmps.toList → a.defers = ds →
      Evo g0 w0 g w → Same g0 T0 w0 w → T.objs.take T0.objs.length = T0.objs → (ph = false → g = g0 ∧ w = w0 ∧ T = T0) → Evo gs ws g w → Fix ro' gs Ts ws T w → ro' ≤ T0.objs.length → Closed ops listed → listed.size = ops.size →
      wpAnyS P r ops (calm QQ) (SS g0 T0 w0 (barsOf l)) l.length listed a w
  | [], listed, T0, ph, σ, T, hp, h, g0, w0, g, w, a, r0, hG, r1, hσ, hds, he, hs, ht, hph, hes, hfx, hro, hcl, hsz => by
    simp only [planChk] at hp
    exact ⟨by simpa using hp, hq σ T g w a h hes r1 hσ hds hfx⟩
  | (i, k) :: l, listed, T0, ph, σ, T, hp, h, g0, w0, g, w, a, r0, hG, r1, hσ, hds, he, hs, ht, hph, hes, hfx, hro, hcl, hsz => by
    simp only [planChk, Bool.and_eq_true, Bool.not_eq_true'] at hp
    obtain ⟨⟨hk, hib⟩, hp⟩ := hp
    have hib := inList_mem hib
    have hQ : ∀ e a w, e ≠ .normal → ¬ calm QQ e a w := fun e a w he => by cases e <;> first | exact (he rfl).elim | exact fun h => h
    have hin : ∀ i, i ∈ Region.ready .any ops listed → ∃ o, ops[i]? = some o := fun i hi => by obtain ⟨_, o, ho, _⟩ := mem_ready.1 hi; exact ⟨o, ho⟩
    have toSS : Same g0 T0 w0 w → ∀ bars L, SS g0 T0 w0 bars L w := fun hs bars L _ => hs
    have take : ∀ (o : Oper) (x : TV), ops[i]? = some o → i ∈ Region.ready .any ops listed → Region.free .any ops listed i = true →
        ∀ (Sr : World → Prop), Sr w → (∀ (L : Array Bool) w, Closed ops L → L.getD i false = false → SS g0 T0 w0 (barsOf l) (L.setIfInBounds i true) w → Sr w) →
        (∀ b, vwant ops σ o = some b → cond b (∃ v, VR g w x v ∧ (∀ w', Sr w' → (execOp a.eval o).run P w' = .ok (.value v) w') ∧ ∀ v, VR g w x v → wpAnyS P r ops (calm QQ) (SS g0 T0 w0 (barsOf l)) l.length (listed.setIfInBounds i true) (a.put o.dst v) w)
          (wpAnyS P r ops (calm QQ) (SS g0 T0 w0 (barsOf l)) l.length (listed.setIfInBounds i true) (a.put o.dst undef) w)) →
        (∃ b, vwant ops σ o = some b) → wpAnyS P r ops (calm QQ) (SS g0 T0 w0 (barsOf l)) (l.length + 1) listed a w := by
      intro o x ho hri hfree Sr hSr hSS hgo ⟨b, hb⟩
      have hw := wanted_of hb hσ
      have h1 := hgo b hb
      cases b with
      | true =>
        obtain ⟨v, h2, h3, h4⟩ := h1
        exact wpAnyS_first ho hnd hsel hQ hSS (fun L w h => SS_first hib L w h) _ listed a w hcl (Region.free_spec ho hfree) hri (.inl ⟨hw, h3⟩) hSr (toSS hs _ _) (h4 v h2)
      | false =>
        exact wpAnyS_first ho hnd hsel hQ hSS (fun L w h => SS_first hib L w h) _ listed a w hcl (Region.free_spec ho hfree) hri (.inr ⟨hw, rfl⟩) hSr (toSS hs _ _) h1
    have hTl : T0.objs.length ≤ T.objs.length := by
      have := congrArg List.length ht
      rw [List.length_take] at this; omega
    rw [List.length_cons]
    cases k with
    | pk0 =>
      have hbars : barsOf ((i, PK.pk0) :: l) = barsOf l := rfl
      rw [hbars]
      simp only [Bool.and_eq_true, List.contains_iff_mem] at hk
      obtain ⟨hfree, hri⟩ := hk
      obtain ⟨o, ho⟩ := hin i hri
      simp only [planSet, ho] at h
      simp only [vplan] at h
      have hcl' := hcl.set hri
      have hx0 : ∃ x, vwant ops σ o = some true → (∃ v, VR g w x v ∧ ∀ w', (execOp a.eval o).run P w' = .ok (.value v) w') ∧ vplan P G F call rnd ro ops T0 ph (planSet ops l) (vput σ o.dst x) T K := by
        by_cases hb : vwant ops σ o = some true
        · rw [hb] at h
          simp only [cond_true] at h
          split at h
          · rename_i x hx
            exact ⟨x, fun _ => ⟨by obtain ⟨hx⟩ := h.1; exact vpure2_ok (P := P) hx (evOf_ok (vev_ok hG hσ) _), h.2⟩⟩
          · exact h.elim
          · split at h
            · rename_i x hx
              exact ⟨x, fun _ => ⟨vpure2_ok (P := P) hx (vev_ok hG hσ), h⟩⟩
            · exact h.elim
        · exact ⟨.dead, fun h => absurd h hb⟩
      obtain ⟨x, hx0⟩ := hx0
      refine take o x ho hri hfree (fun _ => True) trivial (fun _ _ _ _ _ => trivial) ?_ ?_
      · intro b hb
        cases b with
        | true =>
          obtain ⟨⟨v, h1, h2⟩, h⟩ := hx0 hb
          exact ⟨v, h1, fun w' _ => h2 w', fun v hv => vplan_ok hc hrr hnd hsel hle hq l _ T0 ph _ T hp h g0 w0 g w _ r0 hG r1 (vput_ok hσ o.dst hv) ((put_defers _ _ _).trans hds) he hs ht hph hes hfx hro hcl' (set_size hsz)⟩
        | false =>
          rw [hb] at h
          simp only [cond_false] at h ⊢
          exact vplan_ok hc hrr hnd hsel hle hq l _ T0 ph _ T hp h g0 w0 g w _ r0 hG r1 (vput_ok hσ o.dst (.val undef)) ((put_defers _ _ _).trans hds) he hs ht hph hes hfx hro hcl' (set_size hsz)
      · split at h
        · exact ⟨_, by assumption⟩
        · exact h.elim
    | pk1 =>
      have hbars : barsOf ((i, PK.pk1) :: l) = barsOf l := rfl
      rw [hbars]
      simp only [Bool.and_eq_true, List.contains_iff_mem] at hk
      obtain ⟨⟨hfree, hri⟩, hanc⟩ := hk
      obtain ⟨o, ho⟩ := hin i hri
      simp only [planSet, ho] at h
      simp only [vplan] at h
      have hcl' := hcl.set hri
      have late : ∀ {ev : Operand → TV} {x : TV}, (∀ x, VR g w (ev x) (a.eval x)) → vtakes P T0 ph o.op ev = some x → ∃ v, VR g w x v ∧ ∀ w', Same g0 T0 w0 w' → (execOp a.eval o).run P w' = .ok (.value v) w' := by
        intro ev x hev hx
        unfold vtakes at hx
        split at hx
        · rename_i y hy
          injection hx with hx; subst hx
          obtain ⟨v, h1, h2⟩ := vpure2_ok (P := P) hy hev
          exact ⟨v, h1, fun w' _ => h2 w'⟩
        · cases ph with
          | true =>
            simp only [cond_true] at hx
            exact vlate2_ok (P := P) r0 he hx hev
          | false =>
            obtain ⟨rfl, rfl, rfl⟩ := hph rfl
            simp only [cond_false] at hx
            exact vread2_ok (P := P) r1 hx hev
      have hx0 : ∃ x, vwant ops σ o = some true → (∃ v, VR g w x v ∧ ∀ w', Same g0 T0 w0 w' → (execOp a.eval o).run P w' = .ok (.value v) w') ∧ vplan P G F call rnd ro ops T0 ph (planSet ops l) (vput σ o.dst x) T K := by
        by_cases hb : vwant ops σ o = some true
        · rw [hb] at h
          simp only [cond_true] at h
          split at h
          · rename_i x hx
            exact ⟨x, fun _ => ⟨by obtain ⟨hx⟩ := h.1; exact late (evOf_ok (vev_ok hG hσ) _) hx, h.2⟩⟩
          · exact h.elim
          · split at h
            · rename_i x hx
              exact ⟨x, fun _ => ⟨late (vev_ok hG hσ) hx, h⟩⟩
            · exact h.elim
        · exact ⟨.dead, fun h => absurd h hb⟩
      obtain ⟨x, hx0⟩ := hx0
      refine take o x ho hri hfree (Same g0 T0 w0) hs (fun L w h1 h2 h3 => SS_read hib (fun b hb => List.all_eq_true.1 hanc b hb) L w h1 h2 h3) ?_ ?_
      · intro b hb
        cases b with
        | true =>
          obtain ⟨⟨v, h1, h2⟩, h⟩ := hx0 hb
          exact ⟨v, h1, h2, fun v hv => vplan_ok hc hrr hnd hsel hle hq l _ T0 ph _ T hp h g0 w0 g w _ r0 hG r1 (vput_ok hσ o.dst hv) ((put_defers _ _ _).trans hds) he hs ht hph hes hfx hro hcl' (set_size hsz)⟩
        | false =>
          rw [hb] at h
          simp only [cond_false] at h ⊢
          exact vplan_ok hc hrr hnd hsel hle hq l _ T0 ph _ T hp h g0 w0 g w _ r0 hG r1 (vput_ok hσ o.dst (.val undef)) ((put_defers _ _ _).trans hds) he hs ht hph hes hfx hro hcl' (set_size hsz)
      · split at h
        · exact ⟨_, by assumption⟩
        · exact h.elim
    | pk2 =>
      have hbars : barsOf ((i, PK.pk2) :: l) = barsOf l := rfl
      rw [hbars]
      have hk : Region.ready .any ops listed = [i] := by simpa using hk
      have hri : i ∈ Region.ready .any ops listed := by rw [hk]; simp
      obtain ⟨o, ho⟩ := hin i hri
      simp only [planSet, ho] at h
      simp only [vplan] at h
      have hcl' := hcl.set hri
      refine wpAnyS_only hk ?_
      split at h
      · rename_i b hb
        have hw := wanted_of hb hσ
        unfold wpOpIn
        simp only [ho]
        cases b with
        | true =>
          rw [if_pos hw]
          simp only [cond_true] at h
          refine vopI_ok hc hrr h r g w a _ _ r1 hG hσ fun σ' T' g' w' a' _ hk' e' r' hσ' hd' hx' => ?_
          have he' := he.trans e'
          have hs2 : Same g0 T0 w0 w' := by
            refine ⟨fun b o hb => (he'.st b o hb).2, fun id o b hid hl hb => ?_⟩
            have hlt := (List.getElem?_eq_some_iff.1 hid).1
            have h1 : T.objs[id]? = some o := by
              have hid' := hid
              rw [← ht, List.getElem?_take, if_pos hlt] at hid'
              exact hid'
            rw [hx'.heap id o b hlt h1 hl (he.obj id b hb), hs.obj id o b hid hl hb]
          have ht2 : T'.objs.take T0.objs.length = T0.objs := by
            refine Eq.trans ?_ ht
            apply List.ext_getElem?
            intro j
            rw [List.getElem?_take, List.getElem?_take]
            split
            · rename_i hj
              exact hx'.same j hj (by omega)
            · rfl
          refine ⟨fun _ => hs2, ?_⟩
          exact vplan_ok hc hrr hnd hsel hle hq l _ T0 true σ' T' hp hk' g0 w0 g' w' a' r0 (hG.mono e') r' hσ' (hd'.trans hds) he' hs2 ht2 (fun h => by cases h) (hes.trans e') (hfx.trans hes (hx'.mono hro)) hro hcl' (set_size hsz)
        | false =>
          rw [if_neg (by rw [hw]; exact Bool.false_ne_true)]
          simp only [cond_false] at h
          refine ⟨fun _ _ => trivial, fun _ => hs, ?_⟩
          exact vplan_ok hc hrr hnd hsel hle hq l _ T0 true _ T hp h g0 w0 g w _ r0 hG r1 (vput_ok hσ o.dst (.val undef)) ((put_defers _ _ _).trans hds) he hs ht (fun h => by cases h) hes hfx hro hcl' (set_size hsz)
      · exact h.elim
    | pk3 =>
      have hbars : barsOf ((i, PK.pk3) :: l) = i :: barsOf l := rfl
      rw [hbars]
      have hk : Region.ready .any ops listed = [i] := by simpa using hk
      have hri : i ∈ Region.ready .any ops listed := by rw [hk]; simp
      obtain ⟨o, ho⟩ := hin i hri
      simp only [planSet, ho] at h
      simp only [vplan] at h
      have hcl' := hcl.set hri
      have hil : i < listed.size := by rw [hsz]; exact (Array.getElem?_eq_some_iff.1 ho).1
      have hset : (listed.setIfInBounds i true).getD i false = true := by simp [hil]
      have hSi : ∀ (L : Array Bool) w, L.getD i false = true → SS g0 T0 w0 (i :: barsOf l) L w := fun L w hL hb => by
        have := hb i (by simp)
        rw [hL] at this; cases this
      refine wpAnyS_only hk ?_
      split at h
      · rename_i b hb
        have hw := wanted_of hb hσ
        unfold wpOpIn
        simp only [ho]
        cases b with
        | true =>
          rw [if_pos hw]
          simp only [cond_true] at h
          refine vopI_ok hc hrr h r g w a _ _ r1 hG hσ fun σ' T' g' w' a' _ hk' e' r' hσ' hd' hx' => ?_
          refine ⟨hSi _ _ hset, wpAnyS_switch (S' := SS g' T' w' (barsOf l)) hSi _ _ _ _ hset ?_⟩
          exact vplan_ok hc hrr hnd hsel hle hq l _ T' false σ' T' hp hk' g' w' g' w' a' r' (hG.mono e') r' hσ' (hd'.trans hds) (Evo.refl _ _) (Same.refl _ _ _) List.take_length (fun _ => ⟨rfl, rfl, rfl⟩) (hes.trans e') (hfx.trans hes (hx'.mono hle)) (Nat.le_trans (Nat.le_trans hro hTl) hx'.len) hcl' (set_size hsz)
        | false =>
          rw [if_neg (by rw [hw]; exact Bool.false_ne_true)]
          simp only [cond_false] at h
          refine ⟨fun _ _ => trivial, hSi _ _ hset, wpAnyS_switch (S' := SS g T w (barsOf l)) hSi _ _ _ _ hset ?_⟩
          exact vplan_ok hc hrr hnd hsel hle hq l _ T false _ T hp h g w g w _ r1 hG r1 (vput_ok hσ o.dst (.val undef)) ((put_defers _ _ _).trans hds) (Evo.refl _ _) (Same.refl _ _ _) List.take_length (fun _ => ⟨rfl, rfl, rfl⟩) hes hfx (Nat.le_trans hro hTl) hcl' (set_size hsz)
      · exact h.elim
end
end Go.Proofs.YtapfboldkkodkaaGreatDoor
