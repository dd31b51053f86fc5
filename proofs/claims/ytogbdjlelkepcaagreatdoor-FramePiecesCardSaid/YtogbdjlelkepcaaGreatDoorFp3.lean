/- Part 3 of the proof of framePiecesCard_holds: Vok, Vda, Vdb ... No condition. -/
import Derived.Sort.LoopGhostIn
import Derived.RangeFuncNested
import Derived.Laws.CopyOwn
import Derived.Laws.OwnMore
import Derived.Laws.MakeOwn
import Derived.Deep.AppendLies
import Derived.ProofKit
import Derived.OpenShut
import Derived.Lib.SmallJoins
import Derived.Test.YtogbdjlelkepcaaGreatDoorFp1
import Derived.Test.YtogbdjlelkepcaaGreatDoorFp2
set_option maxRecDepth 100000
namespace Go.Proofs.YtogbdjlelkepcaaGreatDoor
open Go.RowKit

section
variable {P : Program} {G : Globs} {F : Ora}
def CalleeOk (P : Program) (G : Globs) (call : Callee0) : Prop := ∀ ro f xs T K, call ro f xs T K → ∃ fn, P.funcs[f]? = some fn ∧ fn.body.isSome = true ∧ (fn.name == "runtime.NumGoroutine") = false ∧ VCx P G ro f xs T K
def RoundOk (P : Program) (G : Globs) (rnd : Round0) : Prop := ∀ ro id xs T K, rnd ro id xs T K → VRx P G ro id xs T K
theorem VPi.of {ro : Nat} {o : Oper} {σ : List TV} {T : VT} {K : List TV → VT → Prop} (hd : notDefer o.op = true)
  (h : ∀ g w ρ, RW g T w → (∀ x, VR g w (vev G σ x) (ρ x)) → ∃ m v g' w' y T', (execOp ρ o).run P w = .ok m w' ∧ nextVal m = some v ∧ K (vput σ o.dst y) T' ∧ VR g' w' y v ∧ Evo g w g' w' ∧ RW g' T' w' ∧ Fix ro g T w T' w') : VPi P G ro o σ T K := by
 refine VPx.toI ?_ hd
 intro g w a next Q r hG hσ hn
 obtain ⟨m, v, g', w', y, T', h1, h2, hk, h3, h4, h5, h6⟩ := h g w a.eval r (vev_ok hG hσ)
 unfold Oper.wp
 rw [h1]
 have e : ∀ v', VR g' w' y v' → next (a.put o.dst v') w' := fun v' hv => hn _ _ g' w' _ ⟨v', rfl⟩ hk h4 h5 (vput_ok (hσ.mono h4) o.dst hv) (put_defers _ _ _) h6
 cases m <;> simp only [nextVal] at h2 <;> try (cases h2)
 ·exact e v h3
 ·exact e undef h3
theorem evFind_ok {g : Gh} {w : World} {σ : List TV} {ρ : Operand → Value} (hρ : ∀ x, VR g w (vev G σ x) (ρ x)) : ∀ (l : List Operand) (t : Nat), VR g w (evFind (opTmps σ l) t) (ρ (.tmp t))
 | [], t => .dead _
 | .tmp s :: l, t => by
  simp only [opTmps, evFind]
  cases hb : Nat.beq s t with
  | true =>
   have := Nat.eq_of_beq_eq_true hb
   subst this
   exact hρ (.tmp s)
  | false => exact evFind_ok hρ l t
 | .const v :: l, t => evFind_ok hρ l t
 | .global n :: l, t => evFind_ok hρ l t
 | .func f :: l, t => evFind_ok hρ l t
theorem evOf_ok {g : Gh} {w : World} {σ : List TV} {ρ : Operand → Value} (hρ : ∀ x, VR g w (vev G σ x) (ρ x)) (l : List Operand) (x : Operand) : VR g w (evOf G (opTmps σ l) x) (ρ x) := by
 cases x with
 | tmp t => exact evFind_ok hρ l t
 | const v => exact hρ (.const v)
 | global n => exact hρ (.global n)
 | func f => exact hρ (.func f)
theorem vopQ_ok {ro : Nat} {o : Oper} {σ : List TV} {T : VT} {K : List TV → VT → Prop} (h : vopQ P G ro o σ T K) : VPi P G ro o σ T K := by
 obtain ⟨dst, op, ty, pos, af, gd⟩ := o
 have gen : (match vopA P ro T op (vev G σ) with
   | some (y, T') => K (vput σ dst y) T'
   | none => vbad 2 op (op.operands.toList.map (vev G σ))) → notDefer op = true → VPi P G ro ⟨dst, op, ty, pos, af, gd⟩ σ T K := by
  intro h hd
  split at h
  ·rename_i y T' hy
   refine VPi.of hd fun g w ρ r hρ => ?_
   obtain ⟨m, v, g', w', h1, h2, h3, h4, h5, h6⟩ := vopA_ok (o := ⟨dst, op, ty, pos, af, gd⟩) r hy hρ
   exact ⟨m, v, g', w', y, T', h1, h2, h, h3, h4, h5, h6⟩
  ·exact h.elim
 unfold vopQ at h
 simp only at h
 cases op
 case next it isS =>
  cases isS with
  | true => exact gen h rfl
  | false =>
   simp only at h
   split at h
   ·rename_i i l hl
    cases hr : Nat.ble ro i with
    | false => rw [hr] at h; exact h.elim
    | true =>
     rw [hr] at h
     simp only [cond_true] at h
     refine VPi.of rfl fun g w ρ r hρ => ?_
     obtain ⟨p, hp, v, g', w', h1, h2, h3, h4, h5⟩ := vnexts_ok (P := P) (ty := ty) r hl (hρ it) (Nat.le_of_ble_eq_true hr)
     exact ⟨.value v, v, g', w', p.1, p.2, by simp [execOp, h1], rfl, vall_at h p hp, h2, h3, h4, h5⟩
   ·exact h.elim
 case entry it =>
  simp only at h
  split at h
  ·rename_i y hy
   refine VPi.of rfl fun g w ρ r hρ => ?_
   obtain ⟨v, h1, h2⟩ := ventry_ok (P := P) r hy (hρ it)
   exact ⟨.value v, v, g, w, y, T, by simp [execOp, h2], rfl, h, h1, Evo.refl _ _, r, Fix.refl _ _ _ _⟩
  ·exact h.elim
 case binOp op t x y' ty' =>
  simp only at h
  cases hb : vNilE P op t (vev G σ x) (vev G σ y') with
  | false =>
   rw [hb] at h
   simp only [cond_false] at h
   refine gen ?_ rfl
   split at h
   ·rename_i y T' hy; first | exact h | (rw [hy]; exact h)
   ·exact h.elim
  | true =>
   rw [hb] at h
   refine VPi.of rfl fun g w ρ r hρ => ?_
   obtain ⟨b, hrun⟩ := vNilE_ok (P := P) (xo := x) (yo := y') hb (hρ x) (hρ y')
   have hl : Looks0 P g w (do eqGuard op t x y' (ρ x) (ρ y'); binOp op t (ρ x) (ρ y')) (.val (.bool b)) := .of_ok (.val _) hrun
   obtain ⟨v, h1, h2⟩ := hl.next (n := execOp ρ ⟨dst, .binOp op t x y' ty', ty, pos, af, gd⟩) rfl
   refine ⟨.value v, v, g, w, .val (.bool b), T, h2 w, rfl, ?_, h1, Evo.refl _ _, r, Fix.refl _ _ _ _⟩
   cases b
   ·exact h.2
   ·exact h.1
 case range t x =>
  simp only at h
  split at h
  ·rename_i y T' hy
   refine VPi.of rfl fun g w ρ r hρ => ?_
   obtain ⟨h1, h2⟩ := vrange_ok (P := P) r hy (hρ x)
   obtain ⟨v, g', w', k1, k2, k3, k4, k5⟩ := h1
   exact ⟨.value v, v, g', w', y, T', by simp [execOp, k1], rfl, h, k2, k3, k4, Fix.of_same k5 h2⟩
  ·exact h.elim
 case defer c =>
  simp only at h
  exfalso
  have : vopA P ro T (.defer c) (vev G σ) = none := by
   simp [vopA, vpure2, vpure, vread2, vread, vmore, vop, vwrite, vfree]
  rw [this] at h
  exact h
 all_goals exact gen h rfl
theorem notDefer_of {op : Op} {ro : Nat} {T T' : VT} {ev : Operand → TV} {y : TV} (h : vopA P ro T op ev = some (y, T')) : notDefer op = true := by
 cases op <;> first
  | rfl
  | (exfalso; simp [vopA, vpure2, vpure, vread2, vread, vmore, vop, vwrite, vfree] at h)
theorem notDefer_vop {op : Op} {T T' : VT} {ev : Operand → TV} {y : TV} (h : vop P T op ev = some (y, T')) : notDefer op = true := by
 cases op <;> first
  | rfl
  | (exfalso; simp [vop, vread, vwrite] at h)
theorem vopA_pure {op : Op} {ro : Nat} {T : VT} {ev : Operand → TV} {y : TV} (h : vpure2 P op ev = some y) : vopA P ro T op ev = some (y, T) := by
 unfold vopA; rw [h]
theorem vopP_ok {ro : Nat} {o : Oper} {σ : List TV} {T : VT} {K : List TV → VT → Prop} (h : vopP P G F ro o σ T K) : VPi P G ro o σ T K := by
 unfold vopP at h
 have go : ∀ {y T'}, vopA P ro T o.op (evOf G (opTmps σ o.op.operands.toList)) = some (y, T') → K (vput σ o.dst y) T' → VPi P G ro o σ T K := by
  intro y T' hy hk
  refine VPi.of (notDefer_of hy) fun g w ρ r hρ => ?_
  obtain ⟨m, v, g', w', h1, h2, h3, h4, h5, h6⟩ := vopA_ok (o := o) r hy (evOf_ok hρ _)
  exact ⟨m, v, g', w', y, T', h1, h2, hk, h3, h4, h5, h6⟩
 split at h
 ·obtain ⟨⟨hy⟩, hk⟩ := h
  exact go (vopA_pure hy) hk
 ·obtain ⟨hy, hk⟩ := h
  cases hy with
  | mk hy => exact go hy hk
  | old hf hy =>
   refine VPi.of (notDefer_vop hy) fun g w ρ r hρ => ?_
   obtain ⟨m, v, g', w', h1, h2, h3, h4, h5, h6⟩ := vop_fix (o := o) r hf hy (evOf_ok hρ _)
   exact ⟨m, v, g', w', _, _, h1, h2, hk, h3, h4, h5, h6⟩
 ·exact vopQ_ok h
theorem VPx.ext {ro : Nat} {o : Oper} {fo : Operand} {args : Array Operand} {ats : Array TypeId} {σ : List TV} {T T' : VT} {K : List TV → VT → Prop} {f : FuncId} {fi ca : List TV} {y : TV}
  (ho : o.op = .call ⟨.value fo, args, ats⟩) (hf : vev G σ fo = .fn (.func f) fi ca) (hx : vextF P ro T f (fi ++ args.toList.map (vev G σ) ++ ca) = some (y, T')) (k : K (vput σ o.dst y) T') : VPx P G ro o σ T K := by
 intro g w a next Q r hG hσ hn
 have h1 := vev_ok hG hσ fo
 rw [hf] at h1
 obtain ⟨us, vs, h2, h3, h4⟩ := h1.fn_inv
 have hargs := (h3.app (map_rel (vev_ok hG hσ) args.toList)).app h4
 unfold vextF at hx
 split at hx
 ·rename_i fn hfn
  cases hb : fn.body.isNone with
  | false => rw [hb] at hx; cases hx
  | true =>
   rw [hb] at hx
   obtain ⟨v, g', w', k1, k2, k3, k4, k5⟩ := vext_ok r hfn hx hargs
   have hrun : (execOp a.eval o).run P w = .ok (.value v) w' := by
    obtain ⟨dst, op, ty, pos, af, gd⟩ := o
    simp only at ho; subst ho
    have e : (us.toArray ++ args.map a.eval) ++ vs.toArray = (us ++ args.toList.map a.eval ++ vs).toArray := by
     apply Array.ext'; simp
    simp only [execOp, resolve, h2, Deferred.ofValue, invoke, Sem.run_bind, Sem.run_pure, Result.andThen_ok, e]
    exact k1
   unfold Oper.wp
   rw [hrun]
   exact hn _ _ g' w' _ ⟨_, rfl⟩ k k3 k4 (vput_ok (hσ.mono k3) o.dst k2) (put_defers _ _ _) k5
 ·cases hx
theorem vopI_ok {call : Callee0} {rnd : Round0} (hc : CalleeOk P G call) (hr : RoundOk P G rnd) {ro : Nat} {o : Oper} {σ : List TV} {T : VT} {K : List TV → VT → Prop} (h : vopI P G F call rnd ro o σ T K) : VPi P G ro o σ T K := by
 unfold vopI at h
 split at h
 ·rename_i fo args ats ho
  split at h
  ·rename_i f fi ca hf
   split at h
   ·rename_i y T' hx
    exact (VPx.ext ho hf hx h).toI (by rw [ho]; rfl)
   ·obtain ⟨fn, h1, h2, h3, h4⟩ := hc _ _ _ _ _ h
    exact (VPx.call ho hf h1 h2 h3 h4).toI (by rw [ho]; rfl)
  ·rename_i id hf
   exact VPi.yld ho hf (hr _ _ _ _ _ h)
  ·exact h.elim
 ·exact vopP_ok h
theorem wanted_of {ops : Array Oper} {σ : List TV} {o : Oper} {b : Bool} (h : vwant ops σ o = some b) {g : Gh} {w : World} {a : Act} (hσ : VRs g w σ a.tmps.toList) : Region.wanted o (yielded ops a.tmps) = b := vwanted_ok (vwant_ok h) hσ
theorem vops_ok {call : Callee0} {rnd : Round0} (hc : CalleeOk P G call) (hr : RoundOk P G rnd) {ro : Nat} {ops : Array Oper} {K : List TV → VT → Prop} {r : Option Nat} {QQ : Exit → Act → World → Prop} : ∀ (js : List Nat) (l : List Oper), js.map (ops[·]?) = l.map some → ∀ (σ : List TV) (T : VT), vops P G F call rnd ro ops l σ T K → ∀ g w (a : Act), RW g T w → GOk G g w → VRs g w σ a.tmps.toList →
  (∀ σ' T' g' w' (a' : Act), K σ' T' → Evo g w g' w' → RW g' T' w' → VRs g' w' σ' a'.tmps.toList → a'.defers = a.defers → Fix ro g T w T' w' → QQ .normal a' w') → wpOpsIn (fenR r) 0 P ops QQ js a w
 | [], [], _, σ, T, h, g, w, a, rw0, hG, hσ, hq => hq σ T g w a h (Evo.refl _ _) rw0 hσ rfl (Fix.refl _ _ _ _)
 | [], _ :: _, hl, _, _, _, _, _, _, _, _, _, _ => by simp at hl
 | _ :: _, [], hl, _, _, _, _, _, _, _, _, _, _ => by simp at hl
 | j :: js, o :: l, hl, σ, T, h, g, w, a, rw0, hG, hσ, hq => by
  simp only [List.map_cons, List.cons.injEq] at hl
  obtain ⟨ho, hl⟩ := hl
  simp only [wpOpsIn, ho]
  simp only [vops] at h
  replace h := vsplit_ok h
  split at h
  ·rename_i b hb
   have hw := wanted_of hb hσ
   cases b with
   | true =>
    rw [if_pos hw]
    simp only [cond_true] at h
    exact vopI_ok hc hr h r g w a _ QQ rw0 hG hσ fun σ' T' g' w' a' _ hk e r' hσ' hd' hx => vops_ok hc hr js l hl σ' T' hk g' w' a' r' (hG.mono e) hσ' fun σ'' T'' g'' w'' a'' hk' e' r'' hσ'' hd'' hx' => hq σ'' T'' g'' w'' a'' hk' (e.trans e') r'' hσ'' (hd''.trans hd') (hx.trans e hx')
   | false =>
    rw [if_neg (by rw [hw]; exact Bool.false_ne_true)]
    refine ⟨fun _ _ => trivial, ?_⟩
    exact vops_ok hc hr js l hl _ T h g w _ rw0 hG (vput_ok hσ o.dst (.val undef)) fun σ'' T'' g'' w'' a'' hk' e' r'' hσ'' hd'' hx' => hq σ'' T'' g'' w'' a'' hk' e' r'' hσ'' (hd''.trans (put_defers _ _ _)) hx'
  ·exact h.elim
theorem range_ops (l : List Oper) : (List.range l.length).map (l.toArray[·]?) = l.map some := by
 apply List.ext_getElem?
 intro j
 simp only [List.getElem?_map, List.getElem?_toArray]
 rcases Nat.lt_or_ge j l.length with h | h
 ·simp [h]
 ·simp [List.getElem?_eq_none h, List.getElem?_eq_none (l := List.range l.length) (by simpa using h)]
theorem vregion_ok {call : Callee0} {rnd : Round0} (hc : CalleeOk P G call) (hr : RoundOk P G rnd) {rd : Option Nat} {ro id : Nat} {ops : Array Oper} {σ : List TV} {T : VT} {D : List Nat} {Q : KX} (h : vops P G F call rnd ro ops ops.toList σ T fun σ T => Q .normal σ T D) : VWx P G rd ro (.region id ops false) σ T D Q := by
 intro r g w a rw0 hG hσ hd hD hrd
 have e := range_ops ops.toList
 rw [Array.toArray_toList] at e
 have h2 : ops.toList.length = ops.size := by simp
 rw [h2] at e
 exact wpIn_region (vops_ok hc hr (List.range ops.size) ops.toList e σ T h g w a rw0 hG hσ fun σ' T' g' w' a' hk e r' hσ' hd' hx => ⟨g', σ', T', D, hk, e, r', hσ', by rw [hd', hd, mk_evo e hD], isSome_evo e hD, hx⟩)
theorem set_size {listed : Array Bool} {i n : Nat} (h : listed.size = n) : (listed.setIfInBounds i true).size = n := by simpa using h
theorem vplan_ok {call : Callee0} {rnd : Round0} (hc : CalleeOk P G call) (hrr : RoundOk P G rnd) {ops : Array Oper} (hnd : ∀ (j : Nat) o, ops[j]? = some o → notDefer o.op = true) (hsel : ∀ (j : Nat) (o : Oper) cs b, ops[j]? = some o → o.op ≠ .select cs b) {ro ro' : Nat} (hle : ro' ≤ ro) {K : List TV → VT → Prop} {r : Option Nat} {gs : Gh} {Ts : VT} {ws : World} {ds : List Deferred} {QQ : Act → World → Prop}
  (hq : ∀ σ' T' g' w' (a' : Act), K σ' T' → Evo gs ws g' w' → RW g' T' w' → VRs g' w' σ' a'.tmps.toList → a'.defers = ds → Fix ro' gs Ts ws T' w' → QQ a' w') :
  ∀ (l : List (Nat × PK)) (listed : Array Bool) (T0 : VT) (ph : Bool) (σ : List TV) (T : VT), planChk ops l listed = true → vplan P G F call rnd ro ops T0 ph (planSet ops l) σ T K → ∀ g0 w0 g w (a : Act), RW g0 T0 w0 → GOk G g w → RW g T w → VRs g w σ a.tmps.toList → a.defers = ds →
   Evo g0 w0 g w → Same g0 T0 w0 w → T.objs.take T0.objs.length = T0.objs → (ph = false → g = g0 ∧ w = w0 ∧ T = T0) → Evo gs ws g w → Fix ro' gs Ts ws T w → ro' ≤ T0.objs.length → Closed ops listed → listed.size = ops.size →
   wpAnyS P r ops (calm QQ) (SS g0 T0 w0 (barsOf l)) l.length listed a w
 | [], listed, T0, ph, σ, T, hp, h, g0, w0, g, w, a, r0, hG, r1, hσ, hds, he, hs, ht, hph, hes, hfx, hro, hcl, hsz => by
  simp only [planChk] at hp
  exact ⟨by simpa using hp, hq σ T g w a h hes r1 hσ hds hfx⟩
 | (i, k) :: l, listed, T0, ph, σ, T, hp, h, g0, w0, g, w, a, r0, hG, r1, hσ, hds, he, hs, ht, hph, hes, hfx, hro, hcl, hsz => by
  simp only [planChk, Bool.and_eq_true, Bool.not_eq_true'] at hp
  obtain ⟨⟨hk, hib⟩, hp⟩ := hp
  have hib := inList_mem hib
  have hQ : ∀ e a w, e ≠ .normal → ¬ calm QQ e a w := fun e a w he => by cases e <;> first | exact (he rfl).elim | exact fun h => h
  have hin : ∀ i, i ∈ Region.ready .any ops listed → ∃ o, ops[i]? = some o := fun i hi => by obtain ⟨_, o, ho, _⟩ := mem_ready.1 hi; exact ⟨o, ho⟩
  have toSS : Same g0 T0 w0 w → ∀ bars L, SS g0 T0 w0 bars L w := fun hs bars L _ => hs
  have take : ∀ (o : Oper) (x : TV), ops[i]? = some o → i ∈ Region.ready .any ops listed → Region.free .any ops listed i = true →
    ∀ (Sr : World → Prop), Sr w → (∀ (L : Array Bool) w, Closed ops L → L.getD i false = false → SS g0 T0 w0 (barsOf l) (L.setIfInBounds i true) w → Sr w) →
    (∀ b, vwant ops σ o = some b → cond b (∃ v, VR g w x v ∧ (∀ w', Sr w' → (execOp a.eval o).run P w' = .ok (.value v) w') ∧ ∀ v, VR g w x v → wpAnyS P r ops (calm QQ) (SS g0 T0 w0 (barsOf l)) l.length (listed.setIfInBounds i true) (a.put o.dst v) w)
     (wpAnyS P r ops (calm QQ) (SS g0 T0 w0 (barsOf l)) l.length (listed.setIfInBounds i true) (a.put o.dst undef) w)) →
    (∃ b, vwant ops σ o = some b) → wpAnyS P r ops (calm QQ) (SS g0 T0 w0 (barsOf l)) (l.length + 1) listed a w := by
   intro o x ho hri hfree Sr hSr hSS hgo ⟨b, hb⟩
   have hw := wanted_of hb hσ
   have h1 := hgo b hb
   cases b with
   | true =>
    obtain ⟨v, h2, h3, h4⟩ := h1
    exact wpAnyS_first ho hnd hsel hQ hSS (fun L w h => SS_first hib L w h) _ listed a w hcl (Region.free_spec ho hfree) hri (.inl ⟨hw, h3⟩) hSr (toSS hs _ _) (h4 v h2)
   | false =>
    exact wpAnyS_first ho hnd hsel hQ hSS (fun L w h => SS_first hib L w h) _ listed a w hcl (Region.free_spec ho hfree) hri (.inr ⟨hw, rfl⟩) hSr (toSS hs _ _) h1
  have hTl : T0.objs.length ≤ T.objs.length := by
   have := congrArg List.length ht
   rw [List.length_take] at this; omega
  rw [List.length_cons]
  cases k with
  | pk0 =>
   have hbars : barsOf ((i, PK.pk0) :: l) = barsOf l := rfl
   rw [hbars]
   simp only [Bool.and_eq_true, List.contains_iff_mem] at hk
   obtain ⟨hfree, hri⟩ := hk
   obtain ⟨o, ho⟩ := hin i hri
   simp only [planSet, ho] at h
   simp only [vplan] at h
   replace h := vsplit_ok h
   have hcl' := hcl.set hri
   have hx0 : ∃ x, vwant ops σ o = some true → (∃ v, VR g w x v ∧ ∀ w', (execOp a.eval o).run P w' = .ok (.value v) w') ∧ vplan P G F call rnd ro ops T0 ph (planSet ops l) (vput σ o.dst x) T K := by
    by_cases hb : vwant ops σ o = some true
    ·rw [hb] at h
     simp only [cond_true] at h
     split at h
     ·rename_i x hx
      exact ⟨x, fun _ => ⟨by obtain ⟨hx⟩ := h.1; exact vpure2_ok (P := P) hx (evOf_ok (vev_ok hG hσ) _), h.2⟩⟩
     ·exact h.elim
     ·split at h
      ·rename_i x hx
       exact ⟨x, fun _ => ⟨vpure2_ok (P := P) hx (vev_ok hG hσ), h⟩⟩
      ·exact h.elim
    ·exact ⟨.dead, fun h => absurd h hb⟩
   obtain ⟨x, hx0⟩ := hx0
   refine take o x ho hri hfree (fun _ => True) trivial (fun _ _ _ _ _ => trivial) ?_ ?_
   ·intro b hb
    cases b with
    | true =>
     obtain ⟨⟨v, h1, h2⟩, h⟩ := hx0 hb
     exact ⟨v, h1, fun w' _ => h2 w', fun v hv => vplan_ok hc hrr hnd hsel hle hq l _ T0 ph _ T hp h g0 w0 g w _ r0 hG r1 (vput_ok hσ o.dst hv) ((put_defers _ _ _).trans hds) he hs ht hph hes hfx hro hcl' (set_size hsz)⟩
    | false =>
     rw [hb] at h
     simp only [cond_false] at h ⊢
     exact vplan_ok hc hrr hnd hsel hle hq l _ T0 ph _ T hp h g0 w0 g w _ r0 hG r1 (vput_ok hσ o.dst (.val undef)) ((put_defers _ _ _).trans hds) he hs ht hph hes hfx hro hcl' (set_size hsz)
   ·split at h
    ·exact ⟨_, by assumption⟩
    ·exact h.elim
  | pk1 =>
   have hbars : barsOf ((i, PK.pk1) :: l) = barsOf l := rfl
   rw [hbars]
   simp only [Bool.and_eq_true, List.contains_iff_mem] at hk
   obtain ⟨⟨hfree, hri⟩, hanc⟩ := hk
   obtain ⟨o, ho⟩ := hin i hri
   simp only [planSet, ho] at h
   simp only [vplan] at h
   replace h := vsplit_ok h
   have hcl' := hcl.set hri
   have late : ∀ {ev : Operand → TV} {x : TV}, (∀ x, VR g w (ev x) (a.eval x)) → vtakes P T0 ph o.op ev = some x → ∃ v, VR g w x v ∧ ∀ w', Same g0 T0 w0 w' → (execOp a.eval o).run P w' = .ok (.value v) w' := by
    intro ev x hev hx
    unfold vtakes at hx
    split at hx
    ·rename_i y hy
     injection hx with hx; subst hx
     obtain ⟨v, h1, h2⟩ := vpure2_ok (P := P) hy hev
     exact ⟨v, h1, fun w' _ => h2 w'⟩
    ·cases ph with
     | true =>
      simp only [cond_true] at hx
      exact vlate2_ok (P := P) r0 he hx hev
     | false =>
      obtain ⟨rfl, rfl, rfl⟩ := hph rfl
      simp only [cond_false] at hx
      exact vread2_ok (P := P) r1 hx hev
   have hx0 : ∃ x, vwant ops σ o = some true → (∃ v, VR g w x v ∧ ∀ w', Same g0 T0 w0 w' → (execOp a.eval o).run P w' = .ok (.value v) w') ∧ vplan P G F call rnd ro ops T0 ph (planSet ops l) (vput σ o.dst x) T K := by
    by_cases hb : vwant ops σ o = some true
    ·rw [hb] at h
     simp only [cond_true] at h
     split at h
     ·rename_i x hx
      exact ⟨x, fun _ => ⟨by obtain ⟨hx⟩ := h.1; exact late (evOf_ok (vev_ok hG hσ) _) hx, h.2⟩⟩
     ·exact h.elim
     ·split at h
      ·rename_i x hx
       exact ⟨x, fun _ => ⟨late (vev_ok hG hσ) hx, h⟩⟩
      ·exact h.elim
    ·exact ⟨.dead, fun h => absurd h hb⟩
   obtain ⟨x, hx0⟩ := hx0
   refine take o x ho hri hfree (Same g0 T0 w0) hs (fun L w h1 h2 h3 => SS_read hib (fun b hb => List.all_eq_true.1 hanc b hb) L w h1 h2 h3) ?_ ?_
   ·intro b hb
    cases b with
    | true =>
     obtain ⟨⟨v, h1, h2⟩, h⟩ := hx0 hb
     exact ⟨v, h1, h2, fun v hv => vplan_ok hc hrr hnd hsel hle hq l _ T0 ph _ T hp h g0 w0 g w _ r0 hG r1 (vput_ok hσ o.dst hv) ((put_defers _ _ _).trans hds) he hs ht hph hes hfx hro hcl' (set_size hsz)⟩
    | false =>
     rw [hb] at h
     simp only [cond_false] at h ⊢
     exact vplan_ok hc hrr hnd hsel hle hq l _ T0 ph _ T hp h g0 w0 g w _ r0 hG r1 (vput_ok hσ o.dst (.val undef)) ((put_defers _ _ _).trans hds) he hs ht hph hes hfx hro hcl' (set_size hsz)
   ·split at h
    ·exact ⟨_, by assumption⟩
    ·exact h.elim
  | pk2 =>
   have hbars : barsOf ((i, PK.pk2) :: l) = barsOf l := rfl
   rw [hbars]
   have hk : Region.ready .any ops listed = [i] := by simpa using hk
   have hri : i ∈ Region.ready .any ops listed := by rw [hk]; simp
   obtain ⟨o, ho⟩ := hin i hri
   simp only [planSet, ho] at h
   simp only [vplan] at h
   replace h := vsplit_ok h
   have hcl' := hcl.set hri
   refine wpAnyS_only hk ?_
   split at h
   ·rename_i b hb
    have hw := wanted_of hb hσ
    unfold wpOpIn
    simp only [ho]
    cases b with
    | true =>
     rw [if_pos hw]
     simp only [cond_true] at h
     refine vopI_ok hc hrr h r g w a _ _ r1 hG hσ fun σ' T' g' w' a' _ hk' e' r' hσ' hd' hx' => ?_
     have he' := he.trans e'
     have hs2 : Same g0 T0 w0 w' := by
      refine ⟨fun b o hb => (he'.st b o hb).2, fun id o b hid hl hb => ?_⟩
      have hlt := (List.getElem?_eq_some_iff.1 hid).1
      have h1 : T.objs[id]? = some o := by
       have hid' := hid
       rw [← ht, List.getElem?_take, if_pos hlt] at hid'
       exact hid'
      rw [hx'.heap id o b hlt h1 hl (he.obj id b hb), hs.obj id o b hid hl hb]
     have ht2 : T'.objs.take T0.objs.length = T0.objs := by
      refine Eq.trans ?_ ht
      apply List.ext_getElem?
      intro j
      rw [List.getElem?_take, List.getElem?_take]
      split
      ·rename_i hj
       exact hx'.same j hj (by omega)
      ·rfl
     refine ⟨fun _ => hs2, ?_⟩
     exact vplan_ok hc hrr hnd hsel hle hq l _ T0 true σ' T' hp hk' g0 w0 g' w' a' r0 (hG.mono e') r' hσ' (hd'.trans hds) he' hs2 ht2 (fun h => by cases h) (hes.trans e') (hfx.trans hes (hx'.mono hro)) hro hcl' (set_size hsz)
    | false =>
     rw [if_neg (by rw [hw]; exact Bool.false_ne_true)]
     simp only [cond_false] at h
     refine ⟨fun _ _ => trivial, fun _ => hs, ?_⟩
     exact vplan_ok hc hrr hnd hsel hle hq l _ T0 true _ T hp h g0 w0 g w _ r0 hG r1 (vput_ok hσ o.dst (.val undef)) ((put_defers _ _ _).trans hds) he hs ht (fun h => by cases h) hes hfx hro hcl' (set_size hsz)
   ·exact h.elim
  | pk3 =>
   have hbars : barsOf ((i, PK.pk3) :: l) = i :: barsOf l := rfl
   rw [hbars]
   have hk : Region.ready .any ops listed = [i] := by simpa using hk
   have hri : i ∈ Region.ready .any ops listed := by rw [hk]; simp
   obtain ⟨o, ho⟩ := hin i hri
   simp only [planSet, ho] at h
   simp only [vplan] at h
   replace h := vsplit_ok h
   have hcl' := hcl.set hri
   have hil : i < listed.size := by rw [hsz]; exact (Array.getElem?_eq_some_iff.1 ho).1
   have hset : (listed.setIfInBounds i true).getD i false = true := by simp [hil]
   have hSi : ∀ (L : Array Bool) w, L.getD i false = true → SS g0 T0 w0 (i :: barsOf l) L w := fun L w hL hb => by
    have := hb i (by simp)
    rw [hL] at this; cases this
   refine wpAnyS_only hk ?_
   split at h
   ·rename_i b hb
    have hw := wanted_of hb hσ
    unfold wpOpIn
    simp only [ho]
    cases b with
    | true =>
     rw [if_pos hw]
     simp only [cond_true] at h
     refine vopI_ok hc hrr h r g w a _ _ r1 hG hσ fun σ' T' g' w' a' _ hk' e' r' hσ' hd' hx' => ?_
     refine ⟨hSi _ _ hset, wpAnyS_switch (S' := SS g' T' w' (barsOf l)) hSi _ _ _ _ hset ?_⟩
     exact vplan_ok hc hrr hnd hsel hle hq l _ T' false σ' T' hp hk' g' w' g' w' a' r' (hG.mono e') r' hσ' (hd'.trans hds) (Evo.refl _ _) (Same.refl _ _ _) List.take_length (fun _ => ⟨rfl, rfl, rfl⟩) (hes.trans e') (hfx.trans hes (hx'.mono hle)) (Nat.le_trans (Nat.le_trans hro hTl) hx'.len) hcl' (set_size hsz)
    | false =>
     rw [if_neg (by rw [hw]; exact Bool.false_ne_true)]
     simp only [cond_false] at h
     refine ⟨fun _ _ => trivial, hSi _ _ hset, wpAnyS_switch (S' := SS g T w (barsOf l)) hSi _ _ _ _ hset ?_⟩
     exact vplan_ok hc hrr hnd hsel hle hq l _ T false _ T hp h g w g w _ r1 hG r1 (vput_ok hσ o.dst (.val undef)) ((put_defers _ _ _).trans hds) (Evo.refl _ _) (Same.refl _ _ _) List.take_length (fun _ => ⟨rfl, rfl, rfl⟩) hes hfx (Nat.le_trans hro hTl) hcl' (set_size hsz)
   ·exact h.elim
end
end Go.Proofs.YtogbdjlelkepcaaGreatDoor
namespace Go.Proofs.YtogbdjlelkepcaaGreatDoor
open Go.RowKit

section
variable {P : Program} {G : Globs}
theorem objs_at {T0 T : VT} (h : T.objs.take T0.objs.length = T0.objs) {id : Nat} {o : VO} (k : T0.objs[id]? = some o) : T.objs[id]? = some o := by
 have hlt := (List.getElem?_eq_some_iff.1 k).1
 rw [← h, List.getElem?_take, if_pos hlt] at k
 exact k
theorem cellsAt_mono {T0 T : VT} (h : T.objs.take T0.objs.length = T0.objs) {x : TV} {n : Nat} {cs : List TV} (k : cellsAt T0 x n = some cs) : cellsAt T x n = some cs := by
 cases x
 case ptr id off =>
  simp only [cellsAt] at k ⊢
  split at k
  ·rename_i cs' hid; rw [objs_at h hid]; exact k
  ·rename_i cs' hid; rw [objs_at h hid]; exact k
  ·cases k
 all_goals first
  | exact k
  | (simp only [cellsAt] at k; done)
theorem vload_mono {T0 T : VT} (h : T.objs.take T0.objs.length = T0.objs) {t : TypeId} {x y : TV} (k : vload P T0 t x = some y) : vload P T t x = some y := by
 unfold vload at k ⊢
 cases hu : P.underlying t with
 | none => rw [hu] at k; cases k
 | some d =>
  cases hi : P.info? t with
  | none => rw [hu, hi] at k; cases k
  | some i =>
   rw [hu, hi] at k
   simp only at k ⊢
   cases hb : isAggD d with
   | true =>
    rw [hb] at k
    simp only [if_true, Option.map_eq_some_iff] at k ⊢
    obtain ⟨cs, h1, h2⟩ := k
    exact ⟨cs, cellsAt_mono h h1, h2⟩
   | false =>
    rw [hb] at k
    simp only [Bool.false_eq_true, if_false] at k ⊢
    split at k
    ·rename_i z hz; rw [cellsAt_mono h hz]; exact k
    ·cases k
theorem vlen_mono {T0 T : VT} (h : T.objs.take T0.objs.length = T0.objs) {t : TypeId} {x y : TV} (k : vlen P T0 t x = some y) : vlen P T t x = some y := by
 unfold vlen at k ⊢
 cases hu : P.underlying t with
 | none => rw [hu] at k; cases k
 | some d =>
  rw [hu] at k
  cases d <;> try (exact k)
  cases x
  case val v =>
   cases v <;> try (exact k)
   rename_i m
   cases m <;> exact k
  case map id =>
   have k' : (match T0.objs[id]? with
    | some (VO.map _ _ es _) => some (TV.val (.int .i64 es.length))
    | _ => none) = some y := k
   show (match T.objs[id]? with
    | some (VO.map _ _ es _) => some (TV.val (.int .i64 es.length))
    | _ => none) = some y
   split at k'
   ·rename_i hid; rw [objs_at h hid]; exact k'
   ·cases k'
  all_goals exact k
theorem rowsR_mono {T0 T : VT} (h : T.objs.take T0.objs.length = T0.objs) {n : Nat} {x : TV} {y : List (List TV)} (k : rowsR T0 n x = some y) : rowsR T n x = some y := by
 cases x
 case row sz id off m =>
  simp only [rowsR] at k ⊢
  split at k
  ·rename_i hid; rw [objs_at h hid]; exact k
  ·cases k
 case sl id off m c =>
  simp only [rowsR] at k ⊢
  split at k
  ·rename_i hid; rw [objs_at h hid]; exact k
  ·rename_i hid; rw [objs_at h hid]; exact k
  ·cases k
 case val v =>
  cases v <;> try (exact k)
  rename_i q m c
  cases q <;> try (exact k)
  cases m <;> exact k
 all_goals exact k
theorem vconvS_mono {T0 T : VT} (h : T.objs.take T0.objs.length = T0.objs) {s d : TypeId} {x y : TV} (k : vconvS P T0 s d x = some y) : vconvS P T s d x = some y := by
 unfold vconvS at k ⊢
 split at k
 ·split at k
  ·cases x
   case val v => exact k
   all_goals
    simp only at k ⊢
    split at k
    ·rename_i es hes; rw [rowsR_mono h hes]; exact k
    ·cases k
  ·cases k
 ·cases k
theorem vlookup_mono {T0 T : VT} (h : T.objs.take T0.objs.length = T0.objs) {t : TypeId} {m k y : TV} {ok : Bool} (q : vlookup P T0 t m k ok = some y) : vlookup P T t m k ok = some y := by
 unfold vlookup at q ⊢
 split at q
 ·rename_i kt et kv hu hk
  split at q
  ·rename_i sh i hs hi
   split at q
   ·cases hb : sh.fits kv with
    | false => rw [hb] at q; cases q
    | true =>
     rw [hb] at q
     simp only [cond_true] at q ⊢
     cases m
     case val v =>
      cases v <;> try (exact q)
      rename_i m
      cases m <;> exact q
     case map id =>
      have q' : (match T0.objs[id]? with
       | some (VO.map sh' look _ _) => bif ksEq sh sh' then some (lookRes ok (look kv) _) else none
       | _ => none) = some y := q
      show (match T.objs[id]? with
       | some (VO.map sh' look _ _) => bif ksEq sh sh' then some (lookRes ok (look kv) _) else none
       | _ => none) = some y
      split at q'
      ·rename_i hid; rw [objs_at h hid]; exact q'
      ·cases q'
     all_goals exact q
   ·cases q
  ·cases q
 ·cases q
theorem vread_mono {T0 T : VT} (h : T.objs.take T0.objs.length = T0.objs) {op : Op} {ev : Operand → TV} {y : TV} (k : vread P T0 op ev = some y) : vread P T op ev = some y := by
 cases op <;> simp only [vread] at k ⊢ <;> try (exact k)
 case load t a => exact vload_mono h k
 case call c =>
  obtain ⟨cal, args, ats⟩ := c
  unfold vcalls at k ⊢
  split at k
  ·rename_i hc
   split at k
   ·exact vlen_mono h k
   ·cases k
  ·exact k
  ·exact k
  ·cases k
theorem vread2_mono {T0 T : VT} (h : T.objs.take T0.objs.length = T0.objs) {op : Op} {ev : Operand → TV} {y : TV} (k : vread2 P T0 op ev = some y) : vread2 P T op ev = some y := by
 cases op <;> simp only [vread2] at k ⊢ <;> try (exact vread_mono h k)
 case convert s d x =>
  split at k
  ·rename_i r hr
   rw [vconvS_mono h hr]; exact k
  ·rename_i hn
   have e : vconvS P T s d (ev x) = none ∨ ∃ r, vconvS P T s d (ev x) = some r := by cases vconvS P T s d (ev x) <;> simp
   rcases e with e | ⟨r, e⟩
   ·rw [e]; exact k
   ·exfalso
    simp only [vread, Option.bind_eq_some_iff] at k
    obtain ⟨v, hv, k⟩ := k
    -- a value that is known whole is no row
    unfold vconvS at e
    split at e
    ·rename_i el hs hd
     split at e
     ·cases hx : ev x <;> rw [hx] at e hv <;> simp only at e <;> try (cases e)
      all_goals try (simp [toVal] at hv; done)
      all_goals
       rename_i cs
       simp only [rowsR] at e
       cases e
     ·cases e
    ·cases e
 case lookup t m q ok => exact vlookup_mono h k
def OwnSem (P : Program) (G : Globs) (Tp : VT) (o : Oper) (s : List TV) (y : TV) : Prop := ∀ g w (ρ : Operand → Value) T, T.objs.take Tp.objs.length = Tp.objs → RW g T w → (∀ x, VR g w (vev G s x) (ρ x)) →
 ∃ m v g' w', (execOp ρ o).run P w = .ok m w' ∧ nextVal m = some v ∧ VR g' w' y v ∧ Evo g w g' w' ∧ RW g' T w' ∧ Same g T w w'
theorem take_nil (T : VT) : T.objs.take (⟨[], []⟩ : VT).objs.length = (⟨[], []⟩ : VT).objs := by simp
theorem pure_sem {o : Oper} {s : List TV} {y : TV} {ev : (Operand → TV)} (hev : ∀ g w (ρ : Operand → Value), (∀ x, VR g w (vev G s x) (ρ x)) → ∀ x, VR g w (ev x) (ρ x)) (h : vpure2 P o.op ev = some y) (Tp : VT) : OwnSem P G Tp o s y := by
 intro g w ρ T _ r hρ
 obtain ⟨v, h1, h2⟩ := vpure2_ok (P := P) h (hev g w ρ hρ)
 exact ⟨_, v, g, w, h2 w, rfl, h1, Evo.refl _ _, r, Same.refl _ _ _⟩
theorem read_sem {T0 : VT} {o : Oper} {s : List TV} {y : TV} (h : vread2 P T0 o.op (vev G s) = some y) : OwnSem P G T0 o s y := by
 intro g w ρ T hT r hρ
 obtain ⟨v, h1, h2⟩ := vread2_ok (P := P) r (vread2_mono hT h) hρ
 exact ⟨_, v, g, w, h2 w (Same.refl _ _ _), rfl, h1, Evo.refl _ _, r, Same.refl _ _ _⟩
theorem vownT_sem {T0 : VT} {o : Oper} {s : List TV} {y : TV} (h : vownT P G T0 o s y) : OwnSem P G ⟨[], []⟩ o s y ∨ (isRead P o.op = true ∧ vpure2 P o.op (vev G s) = none ∧ vread2 P T0 o.op (vev G s) = some y) := by
 unfold vownT at h
 split at h
 ·rename_i t d x hop
  cases hr : isRead P (.convert t d x) with
  | false =>
   rw [hr] at h
   obtain ⟨hpu⟩ := h
   exact .inl (pure_sem (fun g w ρ hρ => evOf_ok hρ _) hpu _)
  | true =>
   rw [hr] at h
   obtain ⟨h0, h1⟩ := h
   rw [hop]
   exact .inr ⟨hr, by simp [vpure2, vpure, h0], by simp only [vread2, h1]⟩
 ·rename_i t m k ok hop
  obtain ⟨h1⟩ := h
  rw [hop]
  exact .inr ⟨rfl, by simp [vpure2, vpure], by simp only [vread2, h1]⟩
 ·obtain ⟨hpu⟩ := h
  exact .inl (pure_sem (fun g w ρ hρ => evOf_ok hρ _) hpu _)
theorem vownE_sem {T0 : VT} {o : Oper} {s : List TV} {y : TV} (h : vownE P T0 o.op (vev G s) = some y) : OwnSem P G ⟨[], []⟩ o s y ∨ (isRead P o.op = true ∧ vpure2 P o.op (vev G s) = none ∧ vread2 P T0 o.op (vev G s) = some y) := by
 unfold vownE at h
 split at h
 ·rename_i x hx
  injection h with h; subst h
  exact .inl (pure_sem (fun _ _ _ h => h) hx _)
 ·split at h
  ·rename_i x hx
   injection h with h; subst h
   cases hr : isRead P o.op with
   | false => rw [hr] at hx; cases hx
   | true =>
    rw [hr] at hx
    simp only [cond_true] at hx
    exact .inr ⟨rfl, by assumption, hx⟩
  ·split at h
   ·rename_i t n ps hop
    left
    intro g w ρ T hT r hρ
    have hm : vmake P T o.op (vev G s) = some (y, T) := by
     rw [hop]
     simp only [vmake, Option.map_eq_some_iff] at h ⊢
     obtain ⟨z, ⟨y', h1, h2⟩, h3⟩ := h
     subst h2 h3
     exact ⟨_, h1, rfl⟩
    obtain ⟨v, g', w', h1, h2, h3, h4, h5⟩ := vmake_ok (P := P) r hm hρ
    exact ⟨_, v, g', w', h1, rfl, h2, h3, h4, h5⟩
   ·cases h

def AgreeOut (id off n : Nat) (T1 T2 : VT) : Prop := (∀ j, j ≠ id → T1.objs[j]? = T2.objs[j]?) ∧ (T1.objs[id]? = T2.objs[id]? ∨
 (∃ c1 c2, T1.objs[id]? = some (.cells c1) ∧ T2.objs[id]? = some (.cells c2) ∧ c1.length = c2.length ∧ ∀ k, (k < off ∨ off + n ≤ k) → c1[k]? = c2[k]?) ∨
 (∃ c1 c2, T1.objs[id]? = some (.row c1) ∧ T2.objs[id]? = some (.row c2) ∧ c1.length = c2.length ∧ ∀ k, (k < off ∨ off + n ≤ k) → c1[k]? = c2[k]?))
theorem setCs_out {cs new : List TV} {off : Nat} (h : off + new.length ≤ cs.length) : (setCs cs off new).length = cs.length ∧ ∀ k, (k < off ∨ off + new.length ≤ k) → cs[k]? = (setCs cs off new)[k]? := by
  unfold setCs
  refine ⟨by simp; omega, fun k hk => ?_⟩
  have hl : (cs.take off).length = off := by simp; omega
  rcases hk with hk | hk
  · rw [List.append_assoc, List.getElem?_append_left (by omega), List.getElem?_take, if_pos hk]
  · rw [List.getElem?_append_right (by simp; omega), List.getElem?_drop]
    congr 1
    simp; omega
theorem put_agree {ro : Nat} {T T' : VT} {t : TypeId} {id off : Nat} {x : TV} {new : List TV} (hn : cellsOf x = some new) (h : vput3 P ro T t (.ptr id off) x = some T') : AgreeOut id off new.length T T' ∧ T'.objs.length = T.objs.length := by
 unfold vput3 at h
 split at h
 ·rename_i y T1 h1
  injection h with h; subst h
  unfold vstoreR at h1
  simp only [hn] at h1
  split at h1
  ·rename_i cs new' i hid hnew hi
   injection hnew with hnew; subst hnew
   cases hb : (Nat.beq i.size new.length && Nat.ble (off + new.length) cs.length && new.all isCell && Nat.ble ro id) with
   | false => rw [hb] at h1; cases h1
   | true =>
    rw [hb] at h1
    simp only [Bool.and_eq_true] at hb
    have hle := Nat.le_of_ble_eq_true hb.1.1.2
    injection h1 with h1; injection h1 with _ h1; subst h1
    have hlt := (List.getElem?_eq_some_iff.1 hid).1
    obtain ⟨k1, k2⟩ := setCs_out hle
    exact ⟨⟨fun j hj => by simp only [List.getElem?_set]; rw [if_neg (fun e => hj e.symm)], .inr (.inr ⟨cs, _, hid, by simp [hlt], k1.symm, k2⟩)⟩, by simp⟩
  ·cases h1
 ·cases hr : Nat.ble ro id with
  | false => simp only [hr] at h; cases h
  | true =>
   simp only [hr, cond_true, Option.map_eq_some_iff] at h
   obtain ⟨⟨y, T1⟩, h1, h2⟩ := h
   simp only at h2; subst h2
   unfold vstore at h1
   simp only [hn] at h1
   split at h1
   ·rename_i cs new' i hid hnew hi
    injection hnew with hnew; subst hnew
    split at h1
    ·rename_i hh
     injection h1 with h1; injection h1 with _ h1; subst h1
     have hlt := (List.getElem?_eq_some_iff.1 hid).1
     obtain ⟨k1, k2⟩ := setCs_out hh.2.1
     exact ⟨⟨fun j hj => by simp only [List.getElem?_set]; rw [if_neg (fun e => hj e.symm)], .inr (.inl ⟨cs, _, hid, by simp [hlt], k1.symm, k2⟩)⟩, by simp⟩
    ·cases h1
   ·cases h1
theorem AgreeOut.take {id off n m : Nat} {T1 T2 : VT} (h : AgreeOut id off n T1 T2) : AgreeOut id off n (T1.takeO m) (T2.takeO m) := by
 have e : ∀ (T : VT) (j : Nat), (T.takeO m).objs[j]? = if j < m then T.objs[j]? else none := fun T j => by simp [VT.takeO, List.getElem?_take]
 refine ⟨fun j hj => by rw [e, e, h.1 j hj], ?_⟩
 rw [e, e]
 by_cases hm : id < m
 ·rw [if_pos hm, if_pos hm]; exact h.2
 ·rw [if_neg hm, if_neg hm]; exact .inl rfl
theorem cells_apart {c1 c2 : List TV} {off n off' m : Nat} (hl : c1.length = c2.length) (h : ∀ k, (k < off ∨ off + n ≤ k) → c1[k]? = c2[k]?) (ha : off' + m ≤ off ∨ off + n ≤ off') : (c1.drop off').take m = (c2.drop off').take m := by
 apply List.ext_getElem?
 intro k
 rw [List.getElem?_take, List.getElem?_take, List.getElem?_drop, List.getElem?_drop]
 split
 ·exact h _ (by omega)
 ·rfl
theorem apart_read {id off n : Nat} {T1 T2 : VT} (h : AgreeOut id off n T1 T2) {op : Op} {ev : Operand → TV} (ha : apartRead P id off n op ev = true) : vread2 P T1 op ev = vread2 P T2 op ev := by
 have hne : ∀ id', (!(Nat.beq id' id)) = true → T1.objs[id']? = T2.objs[id']? := fun id' hb => h.1 id' (by
  rintro rfl
  rw [Nat.beq_refl] at hb; cases hb)
 unfold apartRead at ha
 split at ha
 ·rename_i t a
  simp only [vread2, vread]
  split at ha
  ·rename_i id' off' hev
   rw [hev]
   have key : ∀ m, (P.info? t).map (fun i => decide (m ≤ max i.size 1)) = some true → cellsAt T1 (.ptr id' off') m = cellsAt T2 (.ptr id' off') m := by
    intro m hm
    simp only [cellsAt]
    by_cases hid : id' = id
    ·subst hid
     rw [Nat.beq_refl] at ha
     simp only [Bool.not_true, Bool.false_or] at ha
     split at ha
     ·rename_i i hi
      rw [hi] at hm
      simp only [Option.map_some, Option.some.injEq, decide_eq_true_eq] at hm
      have hap : off' + m ≤ off ∨ off + n ≤ off' := by
       simp only [Bool.or_eq_true] at ha
       rcases ha with ha | ha
       ·have := Nat.le_of_ble_eq_true ha
        exact .inl (by omega)
       ·exact .inr (Nat.le_of_ble_eq_true ha)
      rcases h.2 with h2 | ⟨c1, c2, h2, h3, h4, h5⟩ | ⟨c1, c2, h2, h3, h4, h5⟩
      ·rw [h2]
      ·rw [h2, h3]
       simp only
       rw [h4, cells_apart h4 h5 hap]
      ·rw [h2, h3]
       simp only
       rw [h4, cells_apart h4 h5 hap]
     ·cases ha
    ·rw [h.1 id' hid]
   unfold vload
   cases hu : P.underlying t with
   | none => rfl
   | some d =>
    cases hi : P.info? t with
    | none => rfl
    | some i =>
     simp only
     rw [key i.size (by rw [hi]; simp; omega), key 1 (by rw [hi]; simp; omega)]
  ·rename_i cs hev
   rw [hev]; rfl
  ·cases ha
 ·rename_i t m k ok
  simp only [vread2]
  split at ha
  ·rename_i id' hev
   rw [hev]
   unfold vlookup
   simp only [hne id' ha]
  ·cases ha
 ·rename_i c
  simp only [vread2, vread]
  unfold vcalls
  split at ha
  ·rename_i x hc hx
   simp only [hc, hx]
   split at ha
   ·rename_i id' hev
    split
    ·rename_i t x' h1 h2
     injection h2 with h2; subst h2
     rw [hev]
     unfold vlen
     simp only [hne id' ha]
    ·rfl
   ·cases ha
  ·cases ha
 ·cases ha
def gP (g : Gh) (B : Nat → Prop) : Gh := { g with fr := fun b => g.fr b ∨ B b }
theorem TokOk.gh {g g' : Gh} {w : World} (ho : g'.obj = g.obj) (ht : g'.tail = g.tail) {tok : Tok} {size n b o c : Nat} (h : TokOk g w tok size n b o c) : TokOk g' w tok size n b o c := by
 cases tok <;> simp only [TokOk] at h ⊢ <;> try (exact h)
 ·rw [ht]; exact h
 ·rw [ho]; exact h
theorem NilTok.gh {g g' : Gh} (ht : g'.tail = g.tail) {tok : Tok} {size : Nat} (h : NilTok g tok size) : NilTok g' tok size := by
 cases tok <;> simp only [NilTok] at h ⊢ <;> try (exact h)
 rw [ht]; exact h
theorem VR.gh {g g' : Gh} {w : World} (ho : g'.obj = g.obj) (hs : g'.st = g.st) (ht : g'.tail = g.tail) {x : TV} {u : Value} (k : VR g w x u) : VR g' w x u := by
 induction k with
 | val v => exact .val v
 | dead v => exact .dead v
 | ptr hb => exact .ptr (by rw [ho]; exact hb)
 | sl hb => exact .sl (by rw [ho]; exact hb)
 | map hb => exact .map (by rw [ho]; exact hb)
 | yld hb => exact .yld (by rw [ho]; exact hb)
 | row hb hl hn hm hc => exact .row (by rw [ho]; exact hb) hl hn hm hc
 | nil hk => exact .nil (hk.gh ht)
 | odd a hk => exact .odd a (hk.gh ho ht)
 | vec hn hc hz hk hl h1 hs' hw _ ih => exact .vec hn hc hz (hk.gh ho ht) hl h1 (fun j hj => by rw [hs]; exact hs' j hj) hw ih
 | elt hl h1 hs' hw _ ih => exact .elt hl h1 (fun j hj => by rw [hs]; exact hs' j hj) hw ih
 | agg hl _ ih => exact .agg hl ih
 | tup hl _ ih => exact .tup hl ih
 | fn hl _ hl2 _ ih ih2 => exact .fn hl ih hl2 ih2
 | ifc _ ih => exact .ifc ih
theorem VR.toP {g : Gh} {w : World} {B : Nat → Prop} {x : TV} {u : Value} (k : VR g w x u) : VR (gP g B) w x u := VR.gh (g := g) (g' := gP g B) rfl rfl rfl k
theorem VR.ofP {g : Gh} {w : World} {B : Nat → Prop} {x : TV} {u : Value} (k : VR (gP g B) w x u) : VR g w x u := VR.gh (g := gP g B) (g' := g) rfl rfl rfl k
theorem VRs.gh {g g' : Gh} {w : World} (ho : g'.obj = g.obj) (hs : g'.st = g.st) (ht : g'.tail = g.tail) {xs : List TV} {us : List Value} (k : VRs g w xs us) : VRs g' w xs us := ⟨k.1, fun j x u hx hu => (k.2 j x u hx hu).gh ho hs ht⟩
theorem OR.gh {g g' : Gh} {w : World} (ho : g'.obj = g.obj) (hs : g'.st = g.st) (ht : g'.tail = g.tail) {b : Nat} {o : VO} (h : OR g w b o) : OR g' w b o := by
 cases o with
 | cells cs => obtain ⟨us, t, h1, h2, h3⟩ := h; exact ⟨us, t, h1, h2.gh ho hs ht, h3⟩
 | row cs => obtain ⟨us, t, h1, h2, h3, h4⟩ := h; exact ⟨us, t, h1, h2, h3.gh ho hs ht, h4⟩
 | map sh look es ck => obtain ⟨ms, h1, h2, h3, h4⟩ := h; exact ⟨ms, h1, h2, h3.gh ho hs ht, h4⟩
 | iter m since seen stepped => obtain ⟨mb, h1, h2⟩ := h; exact ⟨mb, h1, h2.gh ho hs ht⟩
 | siter s pos => exact h
 | loop st pend σ ps asg body => obtain ⟨us, fn, db, h1, h2⟩ := h; exact ⟨us, fn, db, h1, h2.gh ho hs ht⟩
 | defd => exact h
 | gone => trivial
theorem RW.frs {g g' : Gh} {T : VT} {w : World} (r : RW g T w) (ho : g'.obj = g.obj) (hs : g'.st = g.st) (ht : g'.tail = g.tail)
  (hf : ∀ b, g'.fr b → b < w.heap.size ∧ (g.fr b ∨ ((∀ (id : Nat) o, T.objs[id]? = some o → o.live = true → g.obj id ≠ some b) ∧ ∀ (k : Nat) x, g.tail k = some x → ¬ x.has b))) : RW g' T w := by
 refine ⟨?_, ?_, ?_, ?_, fun b h => (hf b h).1, ?_, ?_, ?_, ?_, ?_, ?_, ?_⟩
 ·intro id o h hl
  obtain ⟨b, h1, h2, h3, h4⟩ := r.obj id o h hl
  refine ⟨b, by rw [ho]; exact h1, h2.gh ho hs ht, fun hb => ?_, fun o => by rw [hs]; exact h4 o⟩
  rcases (hf b hb).2 with h5 | h5
  ·exact h3 h5
  ·exact h5.1 id o h hl h1
 ·intro i j oi oj b h1 l1 h2 l2 b1 b2
  rw [ho] at b1 b2
  exact r.inj i j oi oj b h1 l1 h2 l2 b1 b2
 ·intro id hid; rw [ho]; exact r.out id hid
 ·intro b o h; rw [hs] at h; exact r.st b o h
 ·intro k p h
  obtain ⟨x, h1, h2, h3, h4⟩ := r.tl k p h
  refine ⟨x, by rw [ht]; exact h1, h2, h3, fun b o hi => ?_⟩
  obtain ⟨h5, h6, h7, h8⟩ := h4 b o hi
  refine ⟨h5, h6, by rw [hs]; exact h7, fun hb => ?_⟩
  rcases (hf b hb).2 with h9 | h9
  ·exact h8 h9
  ·exact h9.2 k x h1 (.inl ⟨o, hi⟩)
 ·intro k hk; rw [ht]; exact r.tout k hk
 ·intro i j x y b h1 h2; rw [ht] at h1 h2; exact r.tinj i j x y b h1 h2
 ·intro i oi b k x h1 l1 b1 hx; rw [ho] at b1; rw [ht] at hx; exact r.tobj i oi b k x h1 l1 b1 hx
 ·intro k x hx
  rw [ht] at hx
  intro h1 h2
  obtain ⟨h3, h4, h5, h6, h7⟩ := r.own k x hx h1 h2
  refine ⟨h3, h4, h5, h6, fun hb => ?_⟩
  rcases (hf x.b hb).2 with h8 | h8
  ·exact h7 h8
  ·exact h8.2 k x hx (.inr ⟨h1, h2, rfl⟩)
 ·intro k x hx; rw [ht] at hx; exact r.own0 k x hx
 ·intro k x hx; rw [ht] at hx; exact r.tlo k x hx
theorem RW.lessFr {g g' : Gh} {T : VT} {w : World} (r : RW g T w) (ho : g'.obj = g.obj) (hs : g'.st = g.st) (ht : g'.tail = g.tail) (hf : ∀ b, g'.fr b → g.fr b) : RW g' T w :=
 r.frs ho hs ht fun b h => ⟨r.fr b (hf b h), .inl (hf b h)⟩
theorem Evo.base {g g1 : Gh} {w w1 : World} {B : Nat → Prop} (e : Evo (gP g B) w g1 w1) : ∃ g', g1 = gP g' B ∧ g'.fr = g.fr ∧ Evo g w g' w1 ∧ (∀ b, B b → w1.heap[b]? = w.heap[b]?) ∧ ∀ b o, B b → g'.st b o → g.st b o := by
 have hfr := e.fr
 refine ⟨{ g1 with fr := g.fr }, ?_, rfl, ⟨e.os, e.tape, e.output, e.size, e.obj, e.st, rfl, fun b hb => e.frb b (.inl hb), fun b o hb h => e.frs b o (.inl hb) h, e.tail, e.tnew, e.csz⟩, fun b hb => e.frb b (.inr hb), fun b o hb h => e.frs b o (.inr hb) h⟩
 cases g1
 simp only [gP] at hfr ⊢
 rw [hfr]
theorem RW.off {g : Gh} {T : VT} {w w' : World} {b : Nat} (r : RW g T w) (hfr : g.fr b) (hst : ∀ o, ¬ g.st b o) (hos : w'.os = w.os ∧ w'.tape = w.tape ∧ w'.output = w.output) (hsz : w'.heap.size = w.heap.size) (hoth : ∀ c, c ≠ b → w'.heap[c]? = w.heap[c]?) (hcs : csize w' b = csize w b) :
  RW g T w' ∧ ∀ g0 : Gh, g0.st = g.st → ¬ g0.fr b → Evo g0 w g0 w' := by
 have cellne : ∀ c p, c ≠ b → w'.cell? ⟨c, p, none⟩ = w.cell? ⟨c, p, none⟩ := fun c p hc => by unfold World.cell?; simp only [hoth c hc]
 have frzne : ∀ c p, c ≠ b → w'.frozen? ⟨c, p, none⟩ = w.frozen? ⟨c, p, none⟩ := fun c p hc => by unfold World.frozen?; simp only [hoth c hc]
 have csz : ∀ c, csize w' c = csize w c := fun c => by
  by_cases hc : c = b
  ·subst hc; exact hcs
  ·unfold csize; rw [hoth c hc]
 have ev : ∀ g0 : Gh, g0.st = g.st → ¬ g0.fr b → Evo g0 w g0 w' := fun g0 h1 h2 =>
  ⟨hos.1, hos.2.1, hos.2.2, by omega, fun _ _ h => h, fun c p hs => ⟨hs, cellne c p (by rintro rfl; rw [h1] at hs; exact hst p hs)⟩, rfl, fun c hc => hoth c (by rintro rfl; exact h2 hc), fun _ _ _ h => h, fun _ x h => ⟨x, h, .inl rfl, rfl, rfl⟩, (fun _ _ h h' => nomatch (h.symm.trans h')), fun c _ => csz c⟩
 refine ⟨?_, ev⟩
 have e0 : Evo { g with fr := fun c => g.fr c ∧ c ≠ b } w { g with fr := fun c => g.fr c ∧ c ≠ b } w' := ev _ rfl (fun h => h.2 rfl)
 refine ⟨?_, r.inj, r.out, ?_, fun c h => by rw [hsz]; exact r.fr c h, ?_, r.tout, r.tinj, r.tobj, ?_, r.own0, fun k x hx => by rw [hsz]; exact r.tlo k x hx⟩
 ·intro id o h hl
  obtain ⟨c, h1, h2, h3, h4⟩ := r.obj id o h hl
  have hcb : c ≠ b := by rintro rfl; exact h3 hfr
  refine ⟨c, h1, ?_, h3, h4⟩
  have h5 : OR { g with fr := fun c => g.fr c ∧ c ≠ b } w c o := OR.gh (g := g) (g' := { g with fr := fun c => g.fr c ∧ c ≠ b }) rfl rfl rfl h2
  exact OR.gh (g := { g with fr := fun c => g.fr c ∧ c ≠ b }) (g' := g) rfl rfl rfl (OR.mono e0 (hoth c hcb) h5)
 ·intro c o h
  have hcb : c ≠ b := by rintro rfl; exact hst o h
  rw [cellne c o hcb]; exact r.st c o h
 ·intro k p h
  obtain ⟨x, h1, h2, h3, h4⟩ := r.tl k p h
  refine ⟨x, h1, h2, h3, fun c o hi => ?_⟩
  obtain ⟨h5, h6, h7, h8⟩ := h4 c o hi
  have hcb : c ≠ b := by rintro rfl; exact h8 hfr
  exact ⟨by rw [cellne c o hcb]; exact h5, by rw [frzne c o hcb]; exact h6, h7, h8⟩
 ·intro k x hx h1 h2
  obtain ⟨⟨cur, h3, h3'⟩, h4, h5, h6, h7⟩ := r.own k x hx h1 h2
  have hcb : x.b ≠ b := fun e => h7 (e ▸ hfr)
  exact ⟨⟨cur, by rw [hoth _ hcb]; exact h3, h3'⟩, h4, h5, h6, h7⟩

structure FlSpec (P : Program) (o : Oper) (blk : Obj) (f : Nat → Value) (vo : VO) (mk : Nat → TV) : Prop where
 run : ∀ (ρ : Operand → Value) w, (∀ v, ρ (.const v) = v) → (execOp ρ o).run P w = .ok (.value (f w.heap.size)) (w.alloc blk)
 live : vo.live = true
 or : ∀ g w b, w.heap[b]? = some blk → OR g w b vo
 vr : ∀ g w id b, g.obj id = some b → b < w.heap.size → w.heap[b]? = some blk → VR g w (mk id) (f b)
theorem late_spec {o : Oper} {T0 : VT} (h : (vlateMk P T0 o.op).isSome = true) : ∃ blk f vo mk, FlSpec P o blk f vo mk ∧ ∀ T, vlateMk P T o.op = some (mk T.objs.length, { T with objs := T.objs ++ [vo] }) := by
  obtain ⟨dst, op, ty, pos, af, gd⟩ := o
  simp only at h
  cases op <;> simp only [vlateMk] at h <;> try (cases h)
  case alloc t =>
    unfold valloc at h
    cases hi : P.info? t with
    | none => rw [hi] at h; cases h
    | some i =>
      cases hz : i.zero with
      | none => rw [hi] at h; simp only [hz] at h; cases h
      | some z =>
        rw [hi] at h
        simp only [hz, vnew] at h
        by_cases hc : (z.cells.toList.map TV.val).all isCell = true
        · refine ⟨.cells z.cells t, fun b => .pointer (some ⟨b, 0, none⟩), .cells (z.cells.toList.map .val), fun id => .ptr id 0, ⟨fun ρ w _ => ?_, rfl, fun g w b hb => ?_, fun g w id b hb _ _ => .ptr hb⟩, fun T => ?_⟩
          · simp [execOp, Instr.alloc, zeroValue, typeInfo, hi, hz, newVar, newRow]
          · exact ⟨z.cells.toList, t, by simpa using hb, VRs.vals g w _, cells_one hc (VRs.vals g w _)⟩
          · simp only [vlateMk, valloc, hi, hz, vnew, hc, if_true]
        · rw [if_neg hc] at h; cases h
  case makeMap t r =>
    cases r with
    | some r => cases h
    | none =>
      simp only [vmakeMap] at h
      cases hu : P.underlying t with
      | none => rw [hu] at h; cases h
      | some d =>
        rw [hu] at h
        cases d <;> simp only at h <;> try (cases h)
        rename_i kt et
        cases hs : shapeOf P kt with
        | none => rw [hs] at h; cases h
        | some sh =>
          refine ⟨.map #[] 0, fun b => .map (some b), .map sh (fun _ => none) [] 0, fun id => .map id, ⟨fun ρ w _ => ?_, rfl, fun g w b hb => ?_, fun g w id b hb _ _ => .map hb⟩, fun T => ?_⟩
          · simp [execOp, Instr.makeMap, newObj, Sem.run]
          · exact ⟨#[], hb, by simp, by simpa using VRs.nil g _, by simp, by simp, by simp, fun k _ => rfl⟩
          · simp only [vlateMk, vmakeMap, hu, hs]
  case makeSlice t l c =>
    cases l <;> try (cases h)
    rename_i l
    cases c <;> try (cases h)
    rename_i c
    replace h : (vmakeR P T0 t (.val l) (.val c)).isSome = true := h
    unfold vmakeR at h
    split at h
    · rename_i kl l' kc c' e h1 h2 hu
      injection h1 with h1; injection h2 with h2; subst h1 h2
      split at h
      · rename_i i hi
        split at h
        · rename_i z hz
          cases hb : (decide (0 ≤ l') && decide (l' ≤ c') && decide ((i.bytes : Int) * c' ≤ 281474976710656) && decide (c' ≤ 140737488355328) && z.cells.toList.all Value.oneCell' && decide (0 < z.cells.size)) with
          | false => rw [hb] at h; cases h
          | true =>
            have hb' := hb
            simp only [Bool.and_eq_true, decide_eq_true_eq] at hb
            obtain ⟨⟨⟨⟨⟨h0, h1⟩, h2⟩, h3⟩, h4⟩, h5⟩ := hb
            have hlc : l'.toNat * i.size ≤ c'.toNat * i.size := Nat.mul_le_mul_right _ (by omega)
            have hlen : ((zeros z.cells (l'.toNat * i.size)).map TV.val).length = l'.toNat * i.size := by simp [zeros]
            refine ⟨.cells (madeCells z.cells (c'.toNat * i.size)) e, fun b => .slice (some ⟨b, 0, none⟩) l'.toNat c'.toNat, .row ((zeros z.cells (l'.toNat * i.size)).map .val), fun id => .row i.size id 0 l'.toNat, ⟨fun ρ w hρ => ?_, rfl, fun g w b hb => ?_, fun g w id b hb hlt hblk => ?_⟩, fun T => ?_⟩
            · have hrun := run_make (P := P) w t e i z hu hi hz kl kc l' c' h0 h1 h2 (by omega)
              simp [execOp, hρ, hrun]
            · refine ⟨(madeCells z.cells (c'.toNat * i.size)).toList, e, by simpa using hb, ?_, ?_, ?_⟩
              · rw [hlen]; simp [size_madeCells]; exact hlc
              · rw [hlen, makeSlice_cells hlc]; exact VRs.vals g _ _
              · intro u hu
                have hu := List.mem_of_mem_take hu; rw [Array.mem_toList_iff] at hu
                obtain ⟨j, hj, rfl⟩ := Array.getElem_of_mem hu
                have : (madeCells z.cells (c'.toNat * i.size))[j] = z.cells[j % z.cells.size]'(Nat.mod_lt _ h5) := by
                  simp only [madeCells, Array.getElem_map, Array.getElem_range]
                  exact getElem!_pos z.cells (j % z.cells.size) (Nat.mod_lt _ h5)
                rw [this]
                exact List.all_eq_true.1 h4 _ (Array.mem_toList_iff.2 (Array.getElem_mem _))
            · have hcz : csize w b = c'.toNat * i.size := by rw [csize_cells hblk, size_madeCells]
              have := VR.row (g := g) (w := w) (size := i.size) (id := id) (off := 0) (n := l'.toNat) (b := b) (c := c'.toNat) hb hlt (by omega) (by unfold maxLen; omega) (by rw [hcz, Nat.zero_add])
              rw [Nat.zero_mul] at this
              exact this
            · simp only [vlateMk, vmakeR, hu, hi, hz, hb', cond_true, VT.newRow]
        · cases h
      · cases h
    · cases h
end
end Go.Proofs.YtogbdjlelkepcaaGreatDoor
namespace Go.Proofs.YtogbdjlelkepcaaGreatDoor
open Go.RowKit

section
variable {P : Program} {G : Globs} {F : Ora} {ops : Array Oper} {r : Option Nat}
abbrev On (V : Array Bool) (k : Nat) : Prop := V.getD k false = true
theorem on_set {V : Array Bool} {i k : Nat} (h : On V k) : On (V.setIfInBounds i true) k := getD_set_true h
theorem on_self {V : Array Bool} {i : Nat} (h : i < V.size) : On (V.setIfInBounds i true) i := by simp [On, h]
theorem on_set_ne {V : Array Bool} {i k : Nat} (h : i ≠ k) (hk : On (V.setIfInBounds i true) k) : On V k := by unfold On at *; rwa [getD_set_ne false h] at hk
theorem not_on {V : Array Bool} {k : Nat} (h : V.getD k true = false) : ¬ On V k := by
 intro h'
 unfold On at h'
 rcases Nat.lt_or_ge k V.size with hk | hk
 ·simp [hk] at h h'; rw [h] at h'; cases h'
 ·simp [Array.getElem?_eq_none hk] at h'
theorem off_of {V : Array Bool} {k : Nat} (hk : k < V.size) (h : ¬ On V k) : V.getD k true = false := by
 unfold On at h
 simp [hk] at h ⊢; exact h
theorem inList_iff : ∀ {l : List Nat} {i : Nat}, inList l i = true ↔ i ∈ l
 | [], i => by simp [inList]
 | a :: l, i => by
  simp only [inList, Bool.or_eq_true, List.mem_cons, inList_iff (l := l)]
  constructor
  ·rintro (h | h)
   ·exact .inl (Nat.eq_of_beq_eq_true h).symm
   ·exact .inr h
  ·rintro (h | h)
   ·subst h; exact .inl (Nat.beq_refl i)
   ·exact .inr h
theorem onlyL_get (L : List Nat) : ∀ (n : Nat) (σ : List TV) (s : Nat), (onlyL L n σ)[s]? = (σ[s]?).map fun x => bif inList L (n + s) then x else .dead
 | _, [], s => by simp [onlyL]
 | n, x :: σ, 0 => by simp [onlyL]
 | n, x :: σ, s + 1 => by
  simp only [onlyL, List.getElem?_cons_succ]
  rw [onlyL_get L (n + 1) σ s, show n + 1 + s = n + (s + 1) by omega]
theorem only_get (o : Oper) (σ : List TV) (s : Nat) : (only ops o σ)[s]? = (σ[s]?).map fun x => bif inList (o.looksAt ops) s then x else .dead := by
 have := onlyL_get (o.looksAt ops) 0 σ s
 rw [Nat.zero_add] at this; exact this
theorem only_len (o : Oper) (σ : List TV) : (only ops o σ).length = σ.length := by
 have key : ∀ (L : List Nat) (n : Nat) (σ : List TV), (onlyL L n σ).length = σ.length := by
  intro L n σ
  induction σ generalizing n with
  | nil => rfl
  | cons x σ ih => simp [onlyL, ih]
 exact key _ _ _
theorem vput_get (σ : List TV) (d : Option Tmp) (y : TV) (s : Nat) : (vput σ d y)[s]? = if d = some s ∧ s < σ.length then some y else σ[s]? := by
 cases d with
 | none => simp [vput]
 | some d =>
  simp only [vput, List.getElem?_set]
  by_cases h : d = s
  ·subst h
   by_cases hl : d < σ.length
   ·simp [hl]
   ·simp [hl, List.getElem?_eq_none (Nat.le_of_not_lt hl)]
  ·simp [h]
theorem vput_len (σ : List TV) (d : Option Tmp) (y : TV) : (vput σ d y).length = σ.length := by cases d <;> simp [vput]
theorem put_get (a : Act) (d : Option Tmp) (v : Value) (s : Nat) : (a.put d v).tmps.toList[s]? = if d = some s ∧ s < a.tmps.toList.length then some v else a.tmps.toList[s]? := by
 cases d with
 | none => simp [Act.put]
 | some d =>
  simp only [Act.put, Array.toList_setIfInBounds, List.getElem?_set]
  by_cases h : d = s
  ·subst h
   by_cases hl : d < a.tmps.size
   ·simp [hl]
   ·simp [hl, Array.getElem?_eq_none (Nat.le_of_not_lt hl)]
  ·simp [h]
theorem put_len (a : Act) (d : Option Tmp) (v : Value) : (a.put d v).tmps.toList.length = a.tmps.toList.length := by cases d <;> simp [Act.put]
theorem only_put {o : Oper} {σ : List TV} {d : Option Tmp} {y : TV} (h : ∀ s, d = some s → inList (o.looksAt ops) s = false) : only ops o (vput σ d y) = only ops o σ := by
 apply List.ext_getElem?
 intro s
 rw [only_get, only_get, vput_get]
 by_cases hs : d = some s ∧ s < σ.length
 ·rw [if_pos hs, h s hs.1, List.getElem?_eq_getElem hs.2]; rfl
 ·rw [if_neg hs]
theorem once_spec (h : onceOk ops = true) {i : Nat} {o : Oper} {d : Tmp} (hi : ops[i]? = some o) (hd : o.dst = some d) :
    inList (o.looksAt ops) d = false ∧ ∀ (j : Nat) oj, ops[j]? = some oj → j ≠ i → oj.dst ≠ some d ∧ (inList (oj.looksAt ops) d = true → ∃ e ∈ oj.after, Region.binds .any e = true ∧ e.on = i) := by
  have hlt := (Array.getElem?_eq_some_iff.1 hi).1
  have h1 := List.all_eq_true.1 h i (List.mem_range.2 hlt)
  simp only [hi, hd, Bool.and_eq_true, Bool.not_eq_true'] at h1
  refine ⟨h1.1, fun j oj hj hne => ?_⟩
  have h2 := List.all_eq_true.1 h1.2 j (List.mem_range.2 (Array.getElem?_eq_some_iff.1 hj).1)
  simp only [hj, Bool.or_eq_true, Bool.and_eq_true, Bool.not_eq_true'] at h2
  rcases h2 with h2 | ⟨h2, h3⟩
  · exact absurd (Nat.eq_of_beq_eq_true h2) hne
  · refine ⟨fun e => ?_, fun hl => ?_⟩
    · rw [e] at h2; simp at h2
    · rcases h3 with h3 | h3
      · rw [hl] at h3; cases h3
      · obtain ⟨e, he, h4⟩ := List.any_eq_true.1 h3
        simp only [Bool.and_eq_true] at h4
        exact ⟨e, Array.mem_toList_iff.1 he, h4.1, Nat.eq_of_beq_eq_true h4.2⟩
theorem looks_on (h : onceOk ops = true) {X : Array Bool} {j : Nat} {oj : Oper} (hj : ops[j]? = some oj) (hdeps : ∀ e ∈ oj.after, Region.binds .any e = true → On X e.on) {s : Nat} (hs : inList (oj.looksAt ops) s = true) {k : Nat} {ok : Oper} (hk : ops[k]? = some ok) (hd : ok.dst = some s) : k ≠ j ∧ On X k := by
 obtain ⟨h1, h2⟩ := once_spec h hk hd
 by_cases hkj : j = k
 ·subst hkj
  rw [hj] at hk; injection hk with hk; subst hk
  rw [hs] at h1; cases h1
 ·obtain ⟨e, he, hb, hon⟩ := (h2 j oj hj hkj).2 hs
  exact ⟨fun h => hkj h.symm, hon ▸ hdeps e he hb⟩
def RelV (ops : Array Oper) (V R : Array Bool) (g : Gh) (w : World) (σ : List TV) (tm : List Value) : Prop :=
 tm.length = σ.length ∧ ∀ (s : Nat) x u, σ[s]? = some x → tm[s]? = some u → (∀ (k : Nat) o, ops[k]? = some o → o.dst = some s → On V k ∧ On R k) → VR g w x u
theorem RelV.only {V R : Array Bool} {g : Gh} {w : World} {σ : List TV} {tm : List Value} (h : RelV ops V R g w σ tm) {o : Oper} (hl : ∀ s, inList (o.looksAt ops) s = true → ∀ (k : Nat) ok, ops[k]? = some ok → ok.dst = some s → On V k ∧ On R k) : VRs g w (only ops o σ) tm := by
 refine ⟨by rw [only_len]; exact h.1, fun s x u hx hu => ?_⟩
 rw [only_get] at hx
 cases hs : σ[s]? with
 | none => rw [hs] at hx; cases hx
 | some z =>
  rw [hs] at hx
  simp only [Option.map_some, Option.some.injEq] at hx
  cases hb : inList (o.looksAt ops) s with
  | true => rw [hb] at hx; simp only [cond_true] at hx; subst hx; exact h.2 s z u hs hu (hl s hb)
  | false => rw [hb] at hx; simp only [cond_false] at hx; subst hx; exact .dead u
def Owed (P : Program) (G : Globs) (ops : Array Oper) (T0 : VT) (pend : List Nat) (k : Nat) (o : Oper) (σ : List TV) : Prop := notDefer o.op = true ∧
 ((vwant ops (only ops o σ) o = some false ∧ ∀ d x, o.dst = some d → σ[d]? = some x → x = .val undef) ∨
 (vwant ops (only ops o σ) o = some true ∧ ∃ y, (∀ d x, o.dst = some d → σ[d]? = some x → x = y) ∧ (OwnSem P G ⟨[], []⟩ o (only ops o σ) y ∨ (k ∈ pend ∧ vpure2 P o.op (vev G (only ops o σ)) = none ∧ vread2 P T0 o.op (vev G (only ops o σ)) = some y))))
def PB (prot : Nat → Option Nat) (b : Nat) : Prop := ∃ k, prot k = some b
def FlSt (P : Program) (G : Globs) (ops : Array Oper) (σ : List TV) (R : Array Bool) (g : Gh) (w : World) (tm : List Value) (prot : Nat → Option Nat) (i : Nat) (jo : Option Nat) : Prop :=
 ∃ o d b, ops[i]? = some o ∧ o.dst = some d ∧ prot i = some b ∧ (match jo with
  | none => ∃ blk f vo mk, FlSpec P o blk f vo mk ∧ (∀ T, vlateMk P T o.op = some (mk T.objs.length, { T with objs := T.objs ++ [vo] })) ∧ w.heap[b]? = some blk ∧ ∀ u, tm[d]? = some u → u = f b
  | some j => ∃ oj t us inf, ops[j]? = some oj ∧ w.heap[b]? = some (.cells us.toArray t (0, 0)) ∧ (∀ u, tm[d]? = some u → u = .pointer (some ⟨b, 0, none⟩)) ∧ o.op = .alloc t ∧ P.info? t = some inf ∧ us.length = inf.size ∧
   (On R j → ∃ new, vboxVal P o.op oj.op (vev G (only ops oj σ)) = some new ∧ VRs g w new us ∧ ∀ u ∈ us, u.oneCell' = true))
structure VInv (P : Program) (G : Globs) (ops : Array Oper) (flo : List (Nat × Option Nat)) (σ : List TV) (T T0 : VT) (V R : Array Bool) (pend : List Nat) (g : Gh) (w : World) (tm : List Value) (prot : Nat → Option Nat) : Prop where
 vs : V.size = ops.size
 rs : R.size = ops.size
 cv : Closed ops V
 cr : Closed ops R
 rv : ∀ k, On R k → ¬ On V k → k ∈ floatL flo
 vf : ∀ k ∈ floatL flo, On V k → On R k
 vb : ∀ i j, (i, some j) ∈ flo → (On V i ↔ On V j)
 rel : RelV ops V R g w σ tm
 own : ∀ (k : Nat) o, ops[k]? = some o → On V k → ¬ On R k → Owed P G ops T0 pend k o σ
 flt : ∀ i jo, (i, jo) ∈ flo → On R i → ¬ On V i → FlSt P G ops σ R g w tm prot i jo
 pr : ∀ k b, prot k = some b → (∃ jo, (k, jo) ∈ flo) ∧ On R k ∧ ¬ On V k ∧ ¬ g.fr b ∧ (∀ o, ¬ g.st b o) ∧ b < w.heap.size
 pinj : ∀ i j b, prot i = some b → prot j = some b → i = j
 rw : RW (gP g (PB prot)) T w
 t0 : T.objs.take T0.objs.length = T0.objs
structure VStat (P : Program) (ops : Array Oper) (flo : List (Nat × Option Nat)) : Prop where
 flow : flowOk ops = true
 once : onceOk ops = true
 dup : noDup (floatL flo) = true
 flo : floChk P ops flo (floatL flo) = true
theorem noDup_ok : ∀ {l : List Nat}, noDup l = true → l.Nodup
 | [], _ => List.nodup_nil
 | a :: l, h => by
  simp only [noDup, Bool.and_eq_true, Bool.not_eq_true'] at h
  exact List.nodup_cons.2 ⟨inList_mem h.1, noDup_ok h.2⟩
theorem floatL_mem : ∀ {flo : List (Nat × Option Nat)} {k : Nat}, k ∈ floatL flo ↔ ∃ i jo, (i, jo) ∈ flo ∧ (k = i ∨ jo = some k)
  | [], k => by simp [floatL]
  | (i, none) :: l, k => by
    simp only [floatL, List.mem_cons, floatL_mem (flo := l)]
    constructor
    · rintro (rfl | ⟨i', jo, h1, h2⟩)
      · exact ⟨k, none, .inl rfl, .inl rfl⟩
      · exact ⟨i', jo, .inr h1, h2⟩
    · rintro ⟨i', jo, h1 | h1, h2⟩
      · injection h1 with h1 h3; subst h1 h3
        rcases h2 with h2 | h2
        · exact .inl h2
        · cases h2
      · exact .inr ⟨i', jo, h1, h2⟩
  | (i, some j) :: l, k => by
    simp only [floatL, List.mem_cons, floatL_mem (flo := l)]
    constructor
    · rintro (rfl | rfl | ⟨i', jo, h1, h2⟩)
      · exact ⟨k, some j, .inl rfl, .inl rfl⟩
      · exact ⟨i, some k, .inl rfl, .inr rfl⟩
      · exact ⟨i', jo, .inr h1, h2⟩
    · rintro ⟨i', jo, h1 | h1, h2⟩
      · injection h1 with h1 h3; subst h1 h3
        rcases h2 with h2 | h2
        · exact .inl h2
        · injection h2 with h2; exact .inr (.inl h2.symm)
      · exact .inr (.inr ⟨i', jo, h1, h2⟩)
theorem flo_uniq : ∀ {flo : List (Nat × Option Nat)}, (floatL flo).Nodup → ∀ {i jo i' jo' k}, (i, jo) ∈ flo → (i', jo') ∈ flo → (k = i ∨ jo = some k) → (k = i' ∨ jo' = some k) → i = i' ∧ jo = jo'
  | [], _, _, _, _, _, _, h, _, _, _ => by cases h
  | (a, b) :: l, hn, i, jo, i', jo', k, h1, h2, k1, k2 => by
    have hl : (floatL l).Nodup ∧ ∀ k, (k = a ∨ b = some k) → k ∉ floatL l := by
      cases b with
      | none =>
        have := List.nodup_cons.1 hn
        refine ⟨this.2, fun k hk => ?_⟩
        rcases hk with rfl | hk
        · exact this.1
        · cases hk
      | some j =>
        have h3 := List.nodup_cons.1 hn
        have h4 := List.nodup_cons.1 h3.2
        refine ⟨h4.2, fun k hk => ?_⟩
        rcases hk with rfl | hk
        · exact fun h => h3.1 (List.mem_cons_of_mem _ h)
        · injection hk with hk; subst hk; exact h4.1
    rcases List.mem_cons.1 h1 with e1 | m1 <;> rcases List.mem_cons.1 h2 with e2 | m2
    · injection e1 with e1 e1'; injection e2 with e2 e2'; subst e1 e1' e2 e2'; exact ⟨rfl, rfl⟩
    · injection e1 with e1 e1'; subst e1 e1'
      exact absurd ((floatL_mem (flo := l)).2 ⟨i', jo', m2, k2⟩) (hl.2 k k1)
    · injection e2 with e2 e2'; subst e2 e2'
      exact absurd ((floatL_mem (flo := l)).2 ⟨i, jo, m1, k1⟩) (hl.2 k k2)
    · exact flo_uniq hl.1 m1 m2 k1 k2
theorem VStat.at {flo : List (Nat × Option Nat)} (st : VStat P ops flo) {i : Nat} {jo : Option Nat} (h : (i, jo) ∈ flo) : ∃ o, ops[i]? = some o ∧ lateAt P o = true ∧ ∀ j, jo = some j → ∃ oj, ops[j]? = some oj ∧ isBoxOf P o oj = true ∧ (∃ e ∈ oj.after, Region.binds .any e = true ∧ e.on = i) ∧ ∀ e ∈ oj.after, Region.binds .any e = true → e.on = i ∨ e.on ∉ floatL flo ∨ boxStore flo e.on = true := by
 have h1 := List.all_eq_true.1 st.flo (i, jo) h
 simp only at h1
 split at h1
 ·rename_i o ho
  simp only [Bool.and_eq_true] at h1
  refine ⟨o, ho, h1.1, fun j hj => ?_⟩
  subst hj
  have h2 := h1.2
  simp only at h2
  split at h2
  ·rename_i oj hoj
   simp only [Bool.and_eq_true] at h2
   obtain ⟨⟨h3, h4⟩, h5⟩ := h2
   obtain ⟨e, he, h6⟩ := List.any_eq_true.1 h4
   simp only [Bool.and_eq_true] at h6
   refine ⟨oj, hoj, h3, ⟨e, Array.mem_toList_iff.1 he, h6.1, Nat.eq_of_beq_eq_true h6.2⟩, fun e he hb => ?_⟩
   have h7 := List.all_eq_true.1 h5 e (Array.mem_toList_iff.2 he)
   simp only [hb, Bool.not_true, Bool.false_or, Bool.or_eq_true, Bool.not_eq_true'] at h7
   rcases h7 with (h7 | h7) | h7
   ·exact .inl (Nat.eq_of_beq_eq_true h7)
   ·exact .inr (.inl (inList_mem h7))
   ·exact .inr (.inr h7)
  ·cases h2
 ·cases h1
theorem boxStore_mem {flo : List (Nat × Option Nat)} {k : Nat} (h : boxStore flo k = true) : ∃ i, (i, some k) ∈ flo := by
 obtain ⟨p, hp, h1⟩ := List.any_eq_true.1 h
 obtain ⟨i, jo⟩ := p
 cases jo with
 | none => cases h1
 | some j =>
  have := Nat.eq_of_beq_eq_true h1
  subst this
  exact ⟨i, hp⟩
theorem RelV.step {V R : Array Bool} {g g' : Gh} {w w' : World} {σ : List TV} {a : Act} (h : RelV ops V R g w σ a.tmps.toList) (e : Evo g w g' w') {j : Nat} {o : Oper} (ho : ops[j]? = some o) {v : Value}
  (hx : ∀ d x, o.dst = some d → σ[d]? = some x → On V j → VR g' w' x v) : RelV ops V (R.setIfInBounds j true) g' w' σ (a.put o.dst v).tmps.toList := by
 refine ⟨by rw [put_len]; exact h.1, fun s x u hs hu hw => ?_⟩
 rw [put_get] at hu
 by_cases hd : o.dst = some s ∧ s < a.tmps.toList.length
 ·rw [if_pos hd] at hu
  injection hu with hu; subst hu
  exact hx s x hd.1 hs (hw j o ho hd.1).1
 ·rw [if_neg hd] at hu
  refine (h.2 s x u hs hu fun k ok hk hdk => ?_).mono e
  obtain ⟨h1, h2⟩ := hw k ok hk hdk
  refine ⟨h1, on_set_ne (fun hjk => ?_) h2⟩
  subst hjk
  rw [ho] at hk; injection hk with hk; subst hk
  exact hd ⟨hdk, (List.getElem?_eq_some_iff.1 hu).1⟩
theorem FlSt.step {σ : List TV} {R R' : Array Bool} {g g' : Gh} {w w' : World} {a : Act} {prot prot' : Nat → Option Nat} {i : Nat} {jo : Option Nat} (h : FlSt P G ops σ R g w a.tmps.toList prot i jo) (e : Evo g w g' w') (hh : ∀ b, prot i = some b → w'.heap[b]? = w.heap[b]?) (hp : prot' i = prot i)
  {d' : Option Tmp} {v : Value} (hd : ∀ o d, ops[i]? = some o → o.dst = some d → d' ≠ some d) (hr : ∀ j, jo = some j → On R' j → On R j) : FlSt P G ops σ R' g' w' (a.put d' v).tmps.toList prot' i jo := by
 obtain ⟨o, d, b, h1, h2, h3, h4⟩ := h
 have ht : ∀ u, (a.put d' v).tmps.toList[d]? = some u → a.tmps.toList[d]? = some u := fun u hu => by
  rw [put_get, if_neg fun k => hd o d h1 h2 k.1] at hu; exact hu
 refine ⟨o, d, b, h1, h2, hp.trans h3, ?_⟩
 cases jo with
 | none =>
  obtain ⟨blk, f, vo, mk, k1, k2, k3, k4⟩ := h4
  exact ⟨blk, f, vo, mk, k1, k2, (hh b h3).trans k3, fun u hu => k4 u (ht u hu)⟩
 | some j =>
  obtain ⟨oj, t, us, inf, k1, k2, k3, k4, k5, k6, k7⟩ := h4
  refine ⟨oj, t, us, inf, k1, (hh b h3).trans k2, fun u hu => k3 u (ht u hu), k4, k5, k6, fun hj => ?_⟩
  obtain ⟨new, q1, q2, q3⟩ := k7 (hr j rfl hj)
  exact ⟨new, q1, q2.mono e, q3⟩
end
end Go.Proofs.YtogbdjlelkepcaaGreatDoor
namespace Go.Proofs.YtogbdjlelkepcaaGreatDoor
open Go.RowKit

section
variable {P : Program} {G : Globs} {F : Ora} {ops : Array Oper} {r : Option Nat} {flo : List (Nat × Option Nat)} {σ : List TV} {T T0 : VT} {V R : Array Bool} {pend : List Nat} {g : Gh} {w : World} {a : Act} {prot : Nat → Option Nat}
theorem wpOpIn_skip {QQ : Exit → Act → World → Prop} {j : Nat} {o : Oper} (ho : ops[j]? = some o) (hw : Region.wanted o (yielded ops a.tmps) = false) {K : Act → World → Prop} (h : K (a.put o.dst undef) w) : wpOpIn (fenR r) 0 P ops QQ j K a w := by
 unfold wpOpIn
 simp only [ho]
 rw [if_neg (by rw [hw]; exact Bool.false_ne_true)]
 exact ⟨fun _ _ => trivial, h⟩
theorem wpOpIn_val {QQ : Exit → Act → World → Prop} {j : Nat} {o : Oper} (hd : notDefer o.op = true) (ho : ops[j]? = some o) (hw : Region.wanted o (yielded ops a.tmps) = true) {m : Next} {v : Value} {w' : World} (hrun : (execOp a.eval o).run P w = .ok m w') (hv : nextVal m = some v)
  {K : Act → World → Prop} (h : ∀ v, nextVal m = some v → K (a.put o.dst v) w') : wpOpIn (fenR r) 0 P ops QQ j K a w := by
 have hne : ∀ c, o.op ≠ .defer c := fun c hc => by rw [hc] at hd; cases hd
 unfold wpOpIn
 simp only [ho]
 rw [if_pos hw]
 refine ⟨fun _ _ => trivial, ?_⟩
 rw [Oper.semAt_eq _ _ _ hne, hrun]
 cases m <;> simp only [nextVal] at hv <;> try (cases hv)
 ·exact h _ rfl
 ·exact h _ rfl
theorem GOk.toP {B : Nat → Prop} (h : GOk G g w) : GOk G (gP g B) w := fun n cs hn => (h n cs hn).toP
theorem wanted_none {o : Oper} (h : o.guard.isNone = true) : Region.wanted o (yielded ops a.tmps) = true := by
 unfold Region.wanted
 cases hg : o.guard with
 | none => rfl
 | some x => rw [hg] at h; cases h
theorem fix_same {n : Nat} {w' : World} {g0 : Gh} {B : Nat → Prop} (h : Same (gP g0 B) T w w') : Fix n g0 T w T w' :=
 ⟨Nat.le_refl _, fun _ _ _ => rfl, fun i o b _ ho hl hb => h.obj i o b ho hl hb⟩
theorem VInv.base (inv : VInv P G ops flo σ T T0 V R pend g w a.tmps.toList prot) : RW g T w := inv.rw.lessFr rfl rfl rfl fun _ h => .inl h
theorem owed_step (st : VStat P ops flo) (inv : VInv P G ops flo σ T T0 V R pend g w a.tmps.toList prot) (hG : GOk G g w) {QQ : Exit → Act → World → Prop} {K : Act → World → Prop} {j : Nat} (hj : j ∈ Region.ready .any ops R) (hV : On V j)
  (next : ∀ g' w' (a' : Act), VInv P G ops flo σ T T0 V (R.setIfInBounds j true) pend g' w' a'.tmps.toList prot → Evo g w g' w' → (∀ n, Fix n g T w T w') → a'.defers = a.defers → K a' w') : wpOpIn (fenR r) 0 P ops QQ j K a w := by
 obtain ⟨hun, o, ho, hdep⟩ := mem_ready.1 hj
 have hnR := not_on hun
 have hjs : j < R.size := by rw [inv.rs]; exact (Array.getElem?_eq_some_iff.1 ho).1
 have hdepV : ∀ e ∈ o.after, Region.binds .any e = true → On V e.on := fun e he hb => inv.cv j o ho hV e he hb
 have hl : ∀ s, inList (o.looksAt ops) s = true → ∀ (k : Nat) ok, ops[k]? = some ok → ok.dst = some s → On V k ∧ On R k := fun s hs k ok hk hd =>
  ⟨(looks_on st.once ho hdepV hs hk hd).2, (looks_on st.once ho hdep hs hk hd).2⟩
 have hσ := inv.rel.only hl
 obtain ⟨hnd, how⟩ := inv.own j o ho hV hnR
 have hjF : j ∉ floatL flo := fun hm => hnR (inv.vf j hm hV)
 have key : ∀ (g' : Gh) (w' : World) (v : Value), Evo g w g' w' → g'.fr = g.fr → RW (gP g' (PB prot)) T w' → (∀ b, PB prot b → w'.heap[b]? = w.heap[b]?) → (∀ b o, PB prot b → g'.st b o → g.st b o) → (∀ d x, o.dst = some d → σ[d]? = some x → VR g' w' x v) → (∀ n, Fix n g T w T w') → K (a.put o.dst v) w' := by
  intro g' w' v e hfr hrw hB hst hx hfix
  refine next g' w' _ ?_ e hfix (put_defers _ _ _)
  refine ⟨inv.vs, by simpa using inv.rs, inv.cv, inv.cr.set hj, ?_, fun k hk hv => on_set (inv.vf k hk hv), inv.vb, inv.rel.step e ho fun d x hd hs _ => hx d x hd hs, ?_, ?_, ?_, inv.pinj, hrw, inv.t0⟩
  ·intro k hk hnv
   by_cases hjk : j = k
   ·subst hjk; exact absurd hV hnv
   ·exact inv.rv k (on_set_ne hjk hk) hnv
  ·intro k ok hk hv hnr
   exact inv.own k ok hk hv fun h => hnr (on_set h)
  ·intro i jo hi hri hnvi
   have hne : j ≠ i := fun h => hnvi (h ▸ hV)
   refine (inv.flt i jo hi (on_set_ne hne hri) hnvi).step e (fun b hb => hB b ⟨i, hb⟩) rfl (fun o' d' h1 h2 h3 => ?_) (fun jj hjj hr => ?_)
   ·exact ((once_spec st.once h1 h2).2 j o ho hne).1 h3
   ·subst hjj
    refine on_set_ne (fun h => ?_) hr
    subst h
    exact hjF (floatL_mem.2 ⟨i, some j, hi, .inr rfl⟩)
  ·intro k b hk
   obtain ⟨h1, h2, h3, h4, h5, h6⟩ := inv.pr k b hk
   exact ⟨h1, on_set h2, h3, by rw [hfr]; exact h4, fun o hs => h5 o (hst b o ⟨k, hk⟩ hs), Nat.lt_of_lt_of_le h6 e.size⟩
 rcases how with ⟨hw, hu⟩ | ⟨hw, y, hy, hsem⟩
 ·refine wpOpIn_skip ho (wanted_of hw hσ) ?_
  exact key g w undef (Evo.refl _ _) rfl inv.rw (fun _ _ => rfl) (fun _ _ _ h => h) (fun d x hd hs => by rw [hu d x hd hs]; exact .val _) (fun n => Fix.refl _ _ _ _)
 ·have hρ : ∀ x, VR (gP g (PB prot)) w (vev G (only ops o σ) x) (a.eval x) := vev_ok hG.toP (VRs.gh (g := g) (g' := gP g (PB prot)) rfl rfl rfl hσ)
  have hs : ∃ Tp : VT, T.objs.take Tp.objs.length = Tp.objs ∧ OwnSem P G Tp o (only ops o σ) y := by
   rcases hsem with h | ⟨_, _, h⟩
   ·exact ⟨⟨[], []⟩, take_nil T, h⟩
   ·exact ⟨T0, inv.t0, read_sem h⟩
  obtain ⟨Tp, hTp, hsem⟩ := hs
  obtain ⟨m, v, g1, w1, h1, h2, h3, h4, h5, h6⟩ := hsem (gP g (PB prot)) w a.eval T hTp inv.rw hρ
  obtain ⟨g', rfl, hfr, e, hB, hst⟩ := h4.base
  refine wpOpIn_val hnd ho (wanted_of hw hσ) h1 h2 fun v' hv' => ?_
  rw [h2] at hv'; injection hv' with hv'; subst hv'
  exact key g' w1 v e hfr h5 hB hst (fun d x hd hs => by rw [hy d x hd hs]; exact h3.ofP) (fun n => fix_same h6)
theorem box_alloc {o oj : Oper} (hb : isBoxOf P o oj = true) (hl : lateAt P o = true) : ∃ (d : Tmp) (t : TypeId) (inf : TypeInfo) (us : List Value) (x : Operand), o.dst = some d ∧ o.op = .alloc t ∧ oj.op = .store t (.tmp d) x ∧ oj.guard.isNone = true ∧ oj.dst = none ∧ x ≠ .tmp d ∧ P.info? t = some inf ∧ us.length = inf.size ∧
  ∀ (ρ : Operand → Value) w, (execOp ρ o).run P w = .ok (.value (.pointer (some ⟨w.heap.size, 0, none⟩))) (w.alloc (.cells us.toArray t)) := by
 unfold isBoxOf at hb
 split at hb
 ·rename_i d t t' d' x hd ho hoj
  simp only [Bool.and_eq_true] at hb
  obtain ⟨⟨⟨⟨⟨h1, h2⟩, h3⟩, h4⟩, h5⟩, h6⟩ := hb
  have h1 := Nat.eq_of_beq_eq_true h1
  have h2 := Nat.eq_of_beq_eq_true h2
  subst h1 h2
  split at h6
  ·rename_i inf hi
   split at h6
   ·rename_i z hz
    refine ⟨d, t, inf, z.cells.toList, x, hd, ho, hoj, h3, (by cases hq : oj.dst with | none => rfl | some _ => rw [hq] at h4; cases h4), ?_, hi, by simpa using Nat.eq_of_beq_eq_true h6, fun ρ w => ?_⟩
    ·rintro rfl
     simp at h5
    ·obtain ⟨dst, op, ty, pos, af, gd⟩ := o
     simp only at ho; subst ho
     simp [execOp, Instr.alloc, zeroValue, typeInfo, hi, hz, newVar, newRow]
   ·cases h6
  ·cases h6
 ·cases hb
theorem lateAt_spec {o : Oper} (h : lateAt P o = true) : (vlateMk P ⟨[], []⟩ o.op).isSome = true ∧ o.guard.isNone = true ∧ (∃ d, o.dst = some d) ∧ notDefer o.op = true := by
 simp only [lateAt, Bool.and_eq_true] at h
 exact ⟨h.1.1.1, h.1.1.2, Option.isSome_iff_exists.1 h.1.2, h.2⟩
theorem float_step (st : VStat P ops flo) (inv : VInv P G ops flo σ T T0 V R pend g w a.tmps.toList prot) {QQ : Exit → Act → World → Prop} {K : Act → World → Prop} {i : Nat} {jo : Option Nat} (hf : (i, jo) ∈ flo) (hi : i ∈ Region.ready .any ops R) (hV : ¬ On V i)
    (next : ∀ g' w' (a' : Act) prot', VInv P G ops flo σ T T0 V (R.setIfInBounds i true) pend g' w' a'.tmps.toList prot' → Evo g w g' w' → (∀ n, Fix n g T w T w') → a'.defers = a.defers → K a' w') : wpOpIn (fenR r) 0 P ops QQ i K a w := by
  obtain ⟨hun, o, ho, hdep⟩ := mem_ready.1 hi
  have hnR := not_on hun
  have hsz : i < R.size := by rw [inv.rs]; exact (Array.getElem?_eq_some_iff.1 ho).1
  obtain ⟨o', ho', hlate, hbox⟩ := st.at hf
  rw [ho] at ho'; injection ho' with ho'; subst ho'
  obtain ⟨hmk, hgd, ⟨d, hd⟩, hnd⟩ := lateAt_spec hlate
  have hnd' := noDup_ok st.dup
  -- what it lays
  have lay : ∃ blk v0, (execOp a.eval o).run P w = .ok (.value v0) (w.alloc blk) ∧ ∀ tm' : List Value, (∀ u, tm'[d]? = some u → u = v0) → ∀ (g' : Gh) (R' : Array Bool) (prot' : Nat → Option Nat), prot' i = some w.heap.size → (∀ j, jo = some j → ¬ On R' j) → FlSt P G ops σ R' g' (w.alloc blk) tm' prot' i jo := by
    cases jo with
    | none =>
      obtain ⟨blk, f, vo, mk, h1, h2⟩ := late_spec hmk
      refine ⟨blk, f w.heap.size, h1.run a.eval w fun v => rfl, fun tm' htm g' R' prot' hp _ => ⟨o, d, w.heap.size, ho, hd, hp, blk, f, vo, mk, h1, h2, heap_alloc_new w blk, htm⟩⟩
    | some j =>
      obtain ⟨oj, hoj, hb, _, _⟩ := hbox j rfl
      obtain ⟨d', t, inf, us, x, h1, h2, h3, h4, h5, h6, h7, h8, h9⟩ := box_alloc hb hlate
      rw [hd] at h1; injection h1 with h1; subst h1
      exact ⟨_, _, h9 a.eval w, fun tm' htm g' R' prot' hp hj => ⟨o, d, w.heap.size, ho, hd, hp, oj, t, us, inf, hoj, heap_alloc_new w _, htm, h2, h7, h8, fun h => absurd h (hj j rfl)⟩⟩
  obtain ⟨blk, v0, hrun, hlay⟩ := lay
  refine wpOpIn_val hnd ho (wanted_none hgd) hrun rfl fun v' hv' => ?_
  injection hv' with hv'; subst hv'
  have hgr : Gr w (w.alloc blk) := (Gr.refl w).alloc _
  have e := Evo.of_gr inv.base hgr
  have hsame := Same.of_gr inv.rw hgr
  have hlt : w.heap.size < (w.alloc blk).heap.size := (Array.getElem?_eq_some_iff.1 (heap_alloc_new w blk)).1
  have hnone : ∀ b, prot i ≠ some b := fun b hb => hnR (inv.pr i b hb).2.1
  refine next g (w.alloc blk) _ (fun k => if k = i then some w.heap.size else prot k) ?_ e (fun n => fix_same hsame) (put_defers _ _ _)
  have hpne : ∀ k, k ≠ i → (if k = i then some w.heap.size else prot k) = prot k := fun k hk => if_neg hk
  refine ⟨inv.vs, by simpa using inv.rs, inv.cv, inv.cr.set hi, ?_, fun k hk hv => on_set (inv.vf k hk hv), inv.vb, inv.rel.step e ho fun _ _ _ _ h => absurd h hV, ?_, ?_, ?_, ?_, ?_, inv.t0⟩
  · intro k hk hnv
    by_cases hik : i = k
    · subst hik; exact floatL_mem.2 ⟨i, jo, hf, .inl rfl⟩
    · exact inv.rv k (on_set_ne hik hk) hnv
  · intro k ok hk hv hnr
    exact inv.own k ok hk hv fun h => hnr (on_set h)
  · intro i' jo' hf' hri hnv
    by_cases hii : i' = i
    · subst hii
      obtain ⟨_, rfl⟩ := flo_uniq hnd' hf hf' (k := i') (.inl rfl) (.inl rfl)
      refine hlay _ (fun u hu => ?_) g _ _ (if_pos rfl) fun j hj hon => ?_
      · rw [put_get] at hu
        by_cases hc : o.dst = some d ∧ d < a.tmps.toList.length
        · rw [if_pos hc] at hu; injection hu with hu; exact hu.symm
        · rw [if_neg hc] at hu
          exact absurd ⟨hd, (List.getElem?_eq_some_iff.1 hu).1⟩ hc
      · obtain ⟨oj, hoj, _, ⟨e1, he1, hb1, hon1⟩, _⟩ := hbox j hj
        have hne : i' ≠ j := by
          rintro rfl
          rw [ho] at hoj; injection hoj with hoj; subst hoj
          have := (flowOk_spec st.flow ho).1 e1 he1 hb1
          omega
        have := inv.cr j oj hoj (on_set_ne hne hon) e1 he1 hb1
        rw [hon1] at this
        exact hnR this
    · refine (inv.flt i' jo' hf' (on_set_ne (fun h => hii h.symm) hri) hnv).step e (fun b hb => hgr.heap (inv.pr i' b hb).2.2.2.2.2) (hpne i' hii) (fun o' d' h1 h2 h3 => ?_) fun jj hjj hr => ?_
      · exact ((once_spec st.once h1 h2).2 i o ho (fun h => hii h.symm)).1 h3
      · subst hjj
        refine on_set_ne (fun h => ?_) hr
        subst h
        exact hii (flo_uniq hnd' hf' hf (k := i) (.inr rfl) (.inl rfl)).1
  · intro k b hk
    by_cases hki : k = i
    · subst hki
      rw [if_pos rfl] at hk; injection hk with hk; subst hk
      have hfresh := inv.rw.fresh (Nat.le_refl w.heap.size)
      exact ⟨⟨jo, hf⟩, on_self hsz, hV, fun h => hfresh.fr (.inl h), hfresh.st, hlt⟩
    · rw [if_neg hki] at hk
      obtain ⟨h1, h2, h3, h4, h5, h6⟩ := inv.pr k b hk
      exact ⟨h1, on_set h2, h3, h4, h5, Nat.lt_trans h6 hlt⟩
  · intro k k' b hk hk'
    by_cases hki : k = i <;> by_cases hki' : k' = i
    · omega
    · subst hki
      rw [if_pos rfl] at hk; rw [if_neg hki'] at hk'
      injection hk with hk; subst hk
      have := (inv.pr k' _ hk').2.2.2.2.2
      omega
    · subst hki'
      rw [if_pos rfl] at hk'; rw [if_neg hki] at hk
      injection hk' with hk'; subst hk'
      have := (inv.pr k _ hk).2.2.2.2.2
      omega
    · rw [if_neg hki] at hk; rw [if_neg hki'] at hk'
      exact inv.pinj k k' b hk hk'
  · have hfresh := inv.rw.fresh (Nat.le_refl w.heap.size)
    refine RW.frs (inv.rw.gr hgr) rfl rfl rfl fun b hb => ?_
    rcases hb with hb | ⟨k, hk⟩
    · exact ⟨Nat.lt_of_lt_of_le (inv.rw.fr b (.inl hb)) hgr.size, .inl (.inl hb)⟩
    · replace hk : (if k = i then some w.heap.size else prot k) = some b := hk
      by_cases hki : k = i
      · rw [if_pos hki] at hk; injection hk with hk; subst hk
        exact ⟨hlt, .inr ⟨hfresh.obj, hfresh.tl⟩⟩
      · rw [if_neg hki] at hk
        exact ⟨Nat.lt_trans (inv.pr k b hk).2.2.2.2.2 hlt, .inl (.inr ⟨k, hk⟩)⟩
end
end Go.Proofs.YtogbdjlelkepcaaGreatDoor
namespace Go.Proofs.YtogbdjlelkepcaaGreatDoor
open Go.RowKit

section
variable {P : Program} {G : Globs} {F : Ora} {ops : Array Oper} {r : Option Nat} {flo : List (Nat × Option Nat)} {σ : List TV} {T T0 : VT} {V R : Array Bool} {pend : List Nat} {g : Gh} {w : World} {a : Act} {prot : Nat → Option Nat}
theorem boxesOk_at {flo0 : List (Nat × Option Nat)} : ∀ {flo : List (Nat × Option Nat)}, boxesOk P G ops flo0 V σ flo = true → ∀ {i j}, (i, some j) ∈ flo → ¬ On V i → depsInB ops flo0 (V.setIfInBounds i true) j = true →
    ∃ o oj new d, ops[i]? = some o ∧ ops[j]? = some oj ∧ vboxVal P o.op oj.op (vev G (only ops oj σ)) = some new ∧ o.dst = some d ∧ d < σ.length
  | [], _, _, _, h, _, _ => by cases h
  | (i', none) :: l, hb, i, j, h, hn, hd => by
    simp only [boxesOk] at hb
    rcases List.mem_cons.1 h with h | h
    · cases h
    · exact boxesOk_at hb h hn hd
  | (i', some j') :: l, hb, i, j, h, hn, hd => by
    simp only [boxesOk, Bool.and_eq_true] at hb
    rcases List.mem_cons.1 h with h | h
    · injection h with h1 h2; injection h2 with h2; subst h1 h2
      have h3 := hb.1
      have hn' : V.getD i false = false := by unfold On at hn; cases hq : V.getD i false <;> first | rfl | exact absurd hq hn
      rw [hn', hd] at h3
      simp only [Bool.not_true, Bool.or_self, Bool.false_or] at h3
      split at h3
      · rename_i o oj ho hoj
        simp only [Bool.and_eq_true] at h3
        obtain ⟨new, hnew⟩ := Option.isSome_iff_exists.1 h3.1
        have h4 := h3.2
        split at h4
        · rename_i d hdd
          exact ⟨o, oj, new, d, ho, hoj, hnew, hdd, Nat.le_of_ble_eq_true h4⟩
        · cases h4
      · cases h3
    · exact boxesOk_at hb.2 h hn hd
theorem vboxVal_spec {o oj : Oper} {t t' : TypeId} {ad x : Operand} {inf : TypeInfo} {ev : Operand → TV} {new : List TV} (h : vboxVal P o.op oj.op ev = some new) (ho : o.op = .alloc t) (hoj : oj.op = .store t' ad x) (hi : P.info? t = some inf) : cellsOf (ev x) = some new ∧ inf.size = new.length ∧ new.all isCell = true := by
 unfold vboxVal at h
 rw [ho, hoj] at h
 simp only [hi] at h
 split at h
 ·rename_i i new' h1 h2
  injection h1 with h1; subst h1
  cases hb : (Nat.beq inf.size new'.length && new'.all isCell) with
  | false => rw [hb] at h; cases h
  | true =>
   rw [hb] at h
   simp only [Bool.and_eq_true] at hb
   injection h with h; subst h
   exact ⟨h2, Nat.eq_of_beq_eq_true hb.1, hb.2⟩
 ·cases h
theorem boxStore_dst (st : VStat P ops flo) {k : Nat} {o : Oper} (h : boxStore flo k = true) (ho : ops[k]? = some o) : o.dst = none := by
 obtain ⟨i, hi⟩ := boxStore_mem h
 obtain ⟨o2, ho2, hlate, hbox⟩ := st.at hi
 obtain ⟨oj, hoj, hib, _⟩ := hbox k rfl
 obtain ⟨_, _, _, _, _, _, _, _, _, h5, _⟩ := box_alloc hib hlate
 rw [ho] at hoj; injection hoj with hoj; subst hoj
 exact h5
theorem store_step (st : VStat P ops flo) (inv : VInv P G ops flo σ T T0 V R pend g w a.tmps.toList prot) (hG : GOk G g w) (hbx : boxesOk P G ops flo V σ flo = true) {QQ : Exit → Act → World → Prop} {K : Act → World → Prop} {i j : Nat} (hf : (i, some j) ∈ flo) (hj : j ∈ Region.ready .any ops R) (hV : ¬ On V j)
  (next : ∀ g' w' (a' : Act), VInv P G ops flo σ T T0 V (R.setIfInBounds j true) pend g' w' a'.tmps.toList prot → Evo g w g' w' → (∀ n, Fix n g T w T w') → a'.defers = a.defers → K a' w') : wpOpIn (fenR r) 0 P ops QQ j K a w := by
 obtain ⟨hun, oj, hoj, hdep⟩ := mem_ready.1 hj
 have hnR := not_on hun
 have hsz : j < R.size := by rw [inv.rs]; exact (Array.getElem?_eq_some_iff.1 hoj).1
 have hnd' := noDup_ok st.dup
 obtain ⟨o, ho, hlate, hbox⟩ := st.at hf
 obtain ⟨oj', hoj', hib, ⟨e1, he1, hb1, hon1⟩, hdeps⟩ := hbox j rfl
 rw [hoj] at hoj'; injection hoj' with hoj'; subst hoj'
 obtain ⟨d, t, inf, us0, x, h1, h2, h3, h4, h5, h6, h7, _, _⟩ := box_alloc hib hlate
 have hRi : On R i := hon1 ▸ hdep e1 he1 hb1
 have hVi : ¬ On V i := fun h => hV ((inv.vb i j hf).1 h)
 have hdepV : ∀ e ∈ oj.after, Region.binds .any e = true → e.on = i ∨ On V e.on ∨ boxStore flo e.on = true := fun e he hb => by
  rcases hdeps e he hb with h | h | h
  ·exact .inl h
  ·refine .inr (.inl ?_)
   cases hq : V.getD e.on false with
   | true => exact hq
   | false => exact absurd (inv.rv e.on (hdep e he hb) (by unfold On; rw [hq]; simp)) h
  ·exact .inr (.inr h)
 have hdi : depsInB ops flo (V.setIfInBounds i true) j = true := by
  unfold depsInB
  rw [hoj]
  refine List.all_eq_true.2 fun e he => ?_
  cases hb : Region.binds .any e with
  | false => simp
  | true =>
   simp only [Bool.not_true, Bool.false_or]
   rw [Bool.or_eq_true]
   rcases hdepV e (Array.mem_toList_iff.1 he) hb with h | h | h
   ·left; rw [h]; exact on_self (by rw [inv.vs]; exact (Array.getElem?_eq_some_iff.1 ho).1)
   ·left; exact on_set h
   ·right; exact h
 obtain ⟨o', oj', new, d', k1, k2, hnew, k3, hdlt⟩ := boxesOk_at hbx hf hVi hdi
 rw [ho] at k1; injection k1 with k1; subst k1
 rw [hoj] at k2; injection k2 with k2; subst k2
 rw [h1] at k3; injection k3 with k3; subst k3
 obtain ⟨hcells, hlen, hone⟩ := vboxVal_spec hnew h2 h3 h7
 obtain ⟨o', d', b, q1, q2, hp, oj', t', us, inf', q3, hheap, hptr, q4, q5, hus, _⟩ := inv.flt i (some j) hf hRi hVi
 rw [ho] at q1; injection q1 with q1; subst q1
 rw [h1] at q2; injection q2 with q2; subst q2
 rw [hoj] at q3; injection q3 with q3; subst q3
 rw [h2] at q4; injection q4 with q4; subst q4
 rw [h7] at q5; injection q5 with q5; subst q5
 -- the value
 have hlook : ∀ e, x = .tmp e → inList (oj.looksAt ops) e = true := fun e he => by
  rw [inList_iff]
  unfold Oper.looksAt
  rw [h3]
  simp [Op.operands, he]
 have hx : VR g w (vev G (only ops oj σ) x) (a.eval x) := by
  cases x with
  | tmp e =>
   have hl := hlook e rfl
   show VR g w ((only ops oj σ).getD e .dead) (a.eval (.tmp e))
   cases hs : σ[e]? with
   | none =>
    have : (only ops oj σ)[e]? = none := by rw [only_get, hs]; rfl
    rw [List.getD_eq_getElem?_getD, this]
    exact .dead _
   | some z =>
    have hz : (only ops oj σ)[e]? = some z := by rw [only_get, hs, hl]; rfl
    rw [List.getD_eq_getElem?_getD, hz]
    have hel : e < a.tmps.toList.length := by rw [inv.rel.1]; exact (List.getElem?_eq_some_iff.1 hs).1
    have hu : a.tmps.toList[e]? = some (a.eval (.tmp e)) := by
     rw [List.getElem?_eq_getElem hel]
     have : e < a.tmps.size := by simpa using hel
     simp [Act.eval, this]
    refine inv.rel.2 e z _ hs hu fun k ok hk hd => ?_
    obtain ⟨hkj, hRk⟩ := looks_on st.once hoj hdep hl hk hd
    refine ⟨?_, hRk⟩
    obtain ⟨h8, h9⟩ := once_spec st.once hk hd
    obtain ⟨e2, he2, hb2, hon2⟩ := (h9 j oj hoj (fun h => hkj h.symm)).2 hl
    rcases hdepV e2 he2 hb2 with h | h | h
    rotate_left 2
    ·exfalso
     rw [hon2] at h
     rw [boxStore_dst st h hk] at hd; cases hd
    ·exfalso
     rw [hon2] at h; subst h
     rw [ho] at hk; injection hk with hk; subst hk
     rw [h1] at hd; injection hd with hd; subst hd
     exact h6 rfl
    ·rw [hon2] at h; exact h
  | const v => exact .val _
  | global n =>
   have := vev_ok (a := a) (σ := []) (G := G) (g := g) (w := w)
   show VR g w (vev G [] (.global n)) (a.eval (.global n))
   simp only [vev]
   split
   ·rename_i cs hn; exact hG n cs hn
   ·exact .val _
  | func f => exact .fn (us := []) (vs := []) rfl (fun j x u h => by simp at h) rfl (fun j x u h => by simp at h)
 have ha : a.eval (.tmp d) = .pointer (some ⟨b, 0, none⟩) := by
  have hel : d < a.tmps.toList.length := by rw [inv.rel.1]; exact hdlt
  have hu : a.tmps.toList[d]? = some (a.eval (.tmp d)) := by
   rw [List.getElem?_eq_getElem hel]
   have : d < a.tmps.size := by simpa using hel
   simp [Act.eval, this]
  exact hptr _ hu
 generalize hux : a.eval x = u at hx
 have k := cellsOf_ok hcells hx
 have hoc := cells_one hone k
 have hl : u.cells.toList.length = new.length := k.1
 have hrun0 := run_storeCells_at (P := P) b 0 t u.cells.toList 0 us.toArray w hheap (by simp at hl ⊢; omega) hoc
 simp only [Nat.add_zero, hl] at hrun0
 have hnd : notDefer oj.op = true := by rw [h3]; rfl
 have hcsz : csize (w.setRow b (us.take 0 ++ u.cells.toList ++ us.drop (0 + new.length)).toArray) b = csize w b := by
  rw [csize_cells (setRow_heap w b us.toArray _ t (0, 0) hheap), csize_cells hheap]
  simp at hl ⊢; omega
 have hrow : (us.take 0 ++ u.cells.toList ++ us.drop (0 + new.length)) = u.cells.toList := by
  rw [List.take_zero, List.nil_append, Nat.zero_add, List.drop_eq_nil_of_le (by omega), List.append_nil]
 have hrun : (execOp a.eval oj).run P w = .ok .skip (w.setRow b (us.take 0 ++ u.cells.toList ++ us.drop (0 + new.length)).toArray) := by
  have hs : u.cells.size = inf.size := by rw [hlen, ← hl]; simp
  have : (Instr.storeAt t (a.eval (.tmp d)) u).run P w = .ok () (w.setRow b (us.take 0 ++ u.cells.toList ++ us.drop (0 + new.length)).toArray) := by
   rw [ha]
   simp only [Instr.storeAt, Instr.sureAddr, storeVar, Sem.run_bind, Sem.run_pure, Result.andThen_ok, run_size h7, hs]
   simpa using hrun0
  obtain ⟨dst, op, ty, pos, af, gd⟩ := oj
  simp only at h3; subst h3
  simp [execOp, hux, this]
 refine wpOpIn_val (v := undef) hnd hoj (wanted_none h4) hrun rfl fun v' hv' => ?_
 injection hv' with hv'; subst hv'
 rw [hrow] at hcsz ⊢
 obtain ⟨p1, p2, p3, p4, p5, p6⟩ := inv.pr i b hp
 have hoth : ∀ c, c ≠ b → (w.setRow b u.cells.toList.toArray).heap[c]? = w.heap[c]? := fun c hc => setRow_other w b c _ hc
 obtain ⟨hrw', hev⟩ := inv.rw.off (b := b) (w' := w.setRow b u.cells.toList.toArray) (.inr ⟨i, hp⟩) p5 ⟨rfl, rfl, rfl⟩ (by simp) hoth hcsz
 have e := hev g rfl p4
 have hfix : ∀ n, Fix n g T w T (w.setRow b u.cells.toList.toArray) := fun n => ⟨Nat.le_refl _, fun _ _ _ => rfl, fun id o' b' _ ho' hl' hb' => hoth b' fun h => by
  subst h
  obtain ⟨b2, y1, _, y3, _⟩ := inv.rw.obj id o' ho' hl'
  have y1' : g.obj id = some b2 := y1
  rw [hb'] at y1'; injection y1' with y1'; subst y1'
  exact y3 (.inr ⟨i, hp⟩)⟩
 have hdst : oj.dst = none := h5
 refine next g _ (a.put oj.dst undef) ?_ e hfix (put_defers _ _ _)
 refine ⟨inv.vs, by simpa using inv.rs, inv.cv, inv.cr.set hj, ?_, fun k hk hv => on_set (inv.vf k hk hv), inv.vb, inv.rel.step e hoj fun d x hd _ _ => (by rw [hdst] at hd; cases hd), ?_, ?_, ?_, inv.pinj, hrw', inv.t0⟩
 ·intro k' hk hnv
  by_cases hjk : j = k'
  ·subst hjk; exact floatL_mem.2 ⟨i, some j, hf, .inr rfl⟩
  ·exact inv.rv k' (on_set_ne hjk hk) hnv
 ·intro k' ok hk hv hnr
  exact inv.own k' ok hk hv fun h => hnr (on_set h)
 ·intro i' jo' hf' hri hnv
  by_cases hii : i' = i
  ·subst hii
   obtain ⟨_, rfl⟩ := flo_uniq hnd' hf hf' (k := i') (.inl rfl) (.inl rfl)
   refine ⟨o, d, b, ho, h1, hp, oj, t, u.cells.toList, inf, hoj, setRow_heap w b us.toArray _ t (0, 0) hheap, fun u' hu' => ?_, h2, h7, by omega, fun _ => ⟨new, hnew, k.mono e, hoc⟩⟩
   rw [put_get, if_neg (by rw [hdst]; rintro ⟨h, _⟩; cases h)] at hu'
   exact hptr u' hu'
  ·have hri' : On R i' := on_set_ne (fun h => by
    subst h
    exact hii (flo_uniq hnd' hf' hf (k := j) (.inl rfl) (.inr rfl)).1) hri
   refine (inv.flt i' jo' hf' hri' hnv).step e (fun b' hb' => hoth b' fun h => by subst h; exact hii (inv.pinj i' i b' hb' hp)) rfl (fun o' d' _ _ h3' => by rw [hdst] at h3'; cases h3') fun jj hjj hr => ?_
   subst hjj
   refine on_set_ne (fun h => ?_) hr
   subst h
   exact hii (flo_uniq hnd' hf' hf (k := j) (.inr rfl) (.inr rfl)).1
 ·intro k' b' hk
  obtain ⟨y1, y2, y3, y4, y5, y6⟩ := inv.pr k' b' hk
  exact ⟨y1, on_set y2, y3, y4, y5, Nat.lt_of_lt_of_le y6 e.size⟩
end
end Go.Proofs.YtogbdjlelkepcaaGreatDoor
namespace Go.Proofs.YtogbdjlelkepcaaGreatDoor
open Go.RowKit

section
variable {P : Program} {G : Globs} {F : Ora} {ops : Array Oper} {r : Option Nat} {flo : List (Nat × Option Nat)} {σ : List TV} {T T0 : VT} {V R : Array Bool} {pend : List Nat} {g : Gh} {w : World} {a : Act} {prot : Nat → Option Nat}
theorem Owed.put (st : VStat P ops flo) (hcv : Closed ops V) {i k : Nat} {o ok : Oper} (ho : ops[i]? = some o) (hVi : ¬ On V i) (hk : ops[k]? = some ok) (hVk : On V k) {y : TV} {pend' : List Nat} (hp : ∀ k ∈ pend, k ∈ pend') (h : Owed P G ops T0 pend k ok σ) : Owed P G ops T0 pend' k ok (vput σ o.dst y) := by
 have hki : k ≠ i := fun e => hVi (e ▸ hVk)
 have hon : only ops ok (vput σ o.dst y) = only ops ok σ := only_put fun s hs => by
  cases hl : inList (ok.looksAt ops) s with
  | false => rfl
  | true =>
   obtain ⟨e, he, hb, hon⟩ := ((once_spec st.once ho hs).2 k ok hk hki).2 hl
   exact absurd (hon ▸ hcv k ok hk hVk e he hb) hVi
 have hat : ∀ d x, ok.dst = some d → (vput σ o.dst y)[d]? = some x → σ[d]? = some x := fun d x hd hx => by
  rw [vput_get, if_neg] at hx
  ·exact hx
  ·rintro ⟨h1, _⟩
   exact ((once_spec st.once ho h1).2 k ok hk hki).1 hd
 obtain ⟨h0, h1⟩ := h
 refine ⟨h0, ?_⟩
 rw [hon]
 rcases h1 with ⟨h1, h2⟩ | ⟨h1, z, h2, h3⟩
 ·exact .inl ⟨h1, fun d x hd hx => h2 d x hd (hat d x hd hx)⟩
 ·refine .inr ⟨h1, z, fun d x hd hx => h2 d x hd (hat d x hd hx), ?_⟩
  rcases h3 with h3 | ⟨h3, h4⟩
  ·exact .inl h3
  ·exact .inr ⟨hp k h3, h4⟩
theorem FlSt.sig {R : Array Bool} {tm : List Value} {i : Nat} {jo : Option Nat} {σ' : List TV} (h : FlSt P G ops σ R g w tm prot i jo) (hs : ∀ (j : Nat) oj, jo = some j → ops[j]? = some oj → On R j → only ops oj σ' = only ops oj σ) : FlSt P G ops σ' R g w tm prot i jo := by
 obtain ⟨o, d, b, h1, h2, h3, h4⟩ := h
 refine ⟨o, d, b, h1, h2, h3, ?_⟩
 cases jo with
 | none => exact h4
 | some j =>
  obtain ⟨oj, t, us, inf, k1, k2, k3, k4, k5, k6, k7⟩ := h4
  refine ⟨oj, t, us, inf, k1, k2, k3, k4, k5, k6, fun hj => ?_⟩
  rw [hs j oj rfl k1 hj]; exact k7 hj
theorem own_virt (st : VStat P ops flo) (inv : VInv P G ops flo σ T T0 V R pend g w a.tmps.toList prot) {i : Nat} {o : Oper} (ho : ops[i]? = some o) (hi : i ∈ Region.ready .any ops V) (hF : i ∉ floatL flo) (hnd : notDefer o.op = true) {y : TV} {pend' : List Nat} (hp : ∀ k ∈ pend, k ∈ pend')
    (how : (vwant ops (only ops o σ) o = some false ∧ y = .val undef) ∨ (vwant ops (only ops o σ) o = some true ∧ (OwnSem P G ⟨[], []⟩ o (only ops o σ) y ∨ (i ∈ pend' ∧ vpure2 P o.op (vev G (only ops o σ)) = none ∧ vread2 P T0 o.op (vev G (only ops o σ)) = some y)))) :
    VInv P G ops flo (vput σ o.dst y) T T0 (V.setIfInBounds i true) R pend' g w a.tmps.toList prot := by
  obtain ⟨hun, o', ho', hdep⟩ := mem_ready.1 hi
  rw [ho] at ho'; injection ho' with ho'; subst ho'
  have hVi := not_on hun
  have hRi : ¬ On R i := fun h => hF (inv.rv i h hVi)
  have hlt := (Array.getElem?_eq_some_iff.1 ho).1
  refine ⟨by simpa using inv.vs, inv.rs, inv.cv.set hi, inv.cr, fun k hk hnv => inv.rv k hk fun h => hnv (on_set h), fun k hk hv => ?_, fun i' j' h => ?_, ?_, fun k ok hk hv hnr => ?_, fun i' jo hf hri hnv => ?_, fun k b hk => ?_, inv.pinj, inv.rw, inv.t0⟩
  · exact inv.vf k hk (on_set_ne (fun h => hF (by rw [h]; exact hk)) hv)
  · have h1 : i ≠ i' := fun e => hF (floatL_mem.2 ⟨i', some j', h, .inl e⟩)
    have h2 : i ≠ j' := fun e => hF (floatL_mem.2 ⟨i', some j', h, .inr (by rw [e])⟩)
    exact ⟨fun h3 => on_set ((inv.vb i' j' h).1 (on_set_ne h1 h3)), fun h3 => on_set ((inv.vb i' j' h).2 (on_set_ne h2 h3))⟩
  · refine ⟨by rw [vput_len]; exact inv.rel.1, fun s x u hs hu hw => ?_⟩
    have hne : o.dst ≠ some s := fun hd => hRi (hw i o ho hd).2
    rw [vput_get, if_neg fun h => hne h.1] at hs
    refine inv.rel.2 s x u hs hu fun k ok hk hd => ?_
    obtain ⟨h1, h2⟩ := hw k ok hk hd
    refine ⟨on_set_ne (fun h => ?_) h1, h2⟩
    subst h
    rw [ho] at hk; injection hk with hk; subst hk
    exact hne hd
  · by_cases hki : i = k
    · subst hki
      rw [ho] at hk; injection hk with hk; subst hk
      have hself : ∀ s, o.dst = some s → inList (o.looksAt ops) s = false := fun s hs => (once_spec st.once ho hs).1
      have hat : ∀ d x, o.dst = some d → (vput σ o.dst y)[d]? = some x → x = y := fun d x hd hx => by
        rw [vput_get] at hx
        by_cases hc : o.dst = some d ∧ d < σ.length
        · rw [if_pos hc] at hx; injection hx with hx; exact hx.symm
        · rw [if_neg hc] at hx
          exact absurd ⟨hd, (List.getElem?_eq_some_iff.1 hx).1⟩ hc
      refine ⟨hnd, ?_⟩
      rw [only_put hself]
      rcases how with ⟨h1, h2⟩ | ⟨h1, h2⟩
      · exact .inl ⟨h1, fun d x hd hx => (hat d x hd hx).trans h2⟩
      · exact .inr ⟨h1, y, hat, h2⟩
    · have hv' := on_set_ne hki hv
      exact (inv.own k ok hk hv' hnr).put st inv.cv ho hVi hk hv' hp
  · refine (inv.flt i' jo hf hri fun h => hnv (on_set h)).sig fun j oj hj hoj hrj => only_put fun s hs => ?_
    subst hj
    cases hl : inList (oj.looksAt ops) s with
    | false => rfl
    | true =>
      have hji : j ≠ i := fun e => hRi (e ▸ hrj)
      obtain ⟨e, he, hb, hon⟩ := ((once_spec st.once ho hs).2 j oj hoj hji).2 hl
      exact absurd (hon ▸ inv.cr j oj hoj hrj e he hb) hRi
  · obtain ⟨h1, h2, h3, h4⟩ := inv.pr k b hk
    refine ⟨h1, h2, fun h => ?_, h4⟩
    by_cases hik : i = k
    · subst hik; exact hRi h2
    · exact h3 (on_set_ne hik h)
theorem fix_app {n : Nat} {o : VO} : Fix n g T w { T with objs := T.objs ++ [o] } w :=
 ⟨by simp, fun i _ hl => by rw [List.getElem?_append_left hl], fun _ _ _ _ _ _ _ => rfl⟩
theorem float_virt (st : VStat P ops flo) (inv : VInv P G ops flo σ T T0 V R pend g w a.tmps.toList prot) {i : Nat} {jo : Option Nat} {o : Oper} (ho : ops[i]? = some o) (hf : (i, jo) ∈ flo) (hi : i ∈ Region.ready .any ops V) (hRi : On R i) (hRj : ∀ j, jo = some j → On R j) {V' : Array Bool}
    (hV' : ∀ k, On V' k ↔ (k = i ∨ jo = some k) ∨ On V k) (hvs : V'.size = ops.size) (hcv : Closed ops V') {b : Nat} (hb : prot i = some b) {vo : VO} {y : TV} (hl : vo.live = true) (hor : OR g w b vo) (hy : ∀ d u, o.dst = some d → a.tmps.toList[d]? = some u → ∀ g' : Gh, g'.obj T.objs.length = some b → VR g' w y u) :
    ∃ g' prot', VInv P G ops flo (vput σ o.dst y) { T with objs := T.objs ++ [vo] } T0 V' R pend g' w a.tmps.toList prot' ∧ Evo g w g' w := by
  obtain ⟨hun, o', ho', hdep⟩ := mem_ready.1 hi
  rw [ho] at ho'; injection ho' with ho'; subst ho'
  have hVi := not_on hun
  have hnd' := noDup_ok st.dup
  have hiF : i ∈ floatL flo := floatL_mem.2 ⟨i, jo, hf, .inl rfl⟩
  obtain ⟨p1, p2, p3, p4, p5, p6⟩ := inv.pr i b hb
  have hout : g.obj T.objs.length = none := inv.rw.out _ (Nat.le_refl _)
  have e : Evo g w (g.addObj T.objs.length b) w := Evo.addObj hout
  have hpne : ∀ k, k ≠ i → (if k = i then none else prot k) = prot k := fun k hk => if_neg hk
  have hPB : ∀ c, PB (fun k => if k = i then none else prot k) c → PB prot c ∧ c ≠ b := by
    rintro c ⟨k, hk⟩
    replace hk : (if k = i then none else prot k) = some c := hk
    by_cases hki : k = i
    · rw [if_pos hki] at hk; cases hk
    · rw [if_neg hki] at hk
      exact ⟨⟨k, hk⟩, fun h => hki (inv.pinj k i b (h ▸ hk) hb)⟩
  have r1 : RW (gP g (PB fun k => if k = i then none else prot k)) T w := inv.rw.lessFr rfl rfl rfl fun c hc => by
    rcases hc with hc | hc
    · exact .inl hc
    · exact .inr (hPB c hc).1
  have hfresh : Fresh (gP g (PB fun k => if k = i then none else prot k)) T b := by
    refine ⟨fun hc => ?_, p5, fun id o hid hlo hob => ?_, fun k x hx hh => ?_⟩
    · rcases hc with hc | hc
      · exact p4 hc
      · exact (hPB b hc).2 rfl
    · obtain ⟨c, h1, _, h3, _⟩ := inv.rw.obj id o hid hlo
      have h1' : g.obj id = some c := h1
      have hob' : g.obj id = some b := hob
      rw [h1'] at hob'; injection hob' with hob'; subst hob'
      exact h3 (.inr ⟨i, hb⟩)
    · rcases hh with ⟨o2, hin⟩ | ⟨h1, h2, h3⟩
      · rcases Nat.lt_or_ge k T.tails.length with hk | hk
        · obtain ⟨x', y1, _, _, y4⟩ := inv.rw.tl k T.tails[k] (List.getElem?_eq_getElem hk)
          have y1' : g.tail k = some x' := y1
          have hx' : g.tail k = some x := hx
          rw [hx'] at y1'; injection y1' with y1'; subst y1'
          exact (y4 b o2 hin).2.2.2 (.inr ⟨i, hb⟩)
        · have := r1.tout k hk
          rw [hx] at this; cases this
      · have := (inv.rw.own k x hx h1 h2).2.2.2.2
        rw [h3] at this
        exact this (.inr ⟨i, hb⟩)
  have r2 := r1.addObj hfresh hl (OR.gh (g := g) (g' := gP g (PB fun k => if k = i then none else prot k)) rfl rfl rfl hor)
  have hV'j : ∀ k, On V' k → ¬ On V k → k = i ∨ jo = some k := fun k h1 h2 => by
    rcases (hV' k).1 h1 with h | h
    · exact h
    · exact absurd h h2
  refine ⟨g.addObj T.objs.length b, fun k => if k = i then none else prot k, ?_, e⟩
  refine ⟨hvs, inv.rs, hcv, inv.cr, fun k hk hnv => inv.rv k hk fun h => hnv ((hV' k).2 (.inr h)), fun k hk hv => ?_, fun i' j' h => ?_, ?_, fun k ok hk hv hnr => ?_, fun i' jo' hf' hri hnv => ?_, fun k c hk => ?_, fun k k' c hk hk' => ?_, r2, ?_⟩
  · rcases (hV' k).1 hv with (h | h) | h
    · subst h; exact hRi
    · exact hRj k h
    · exact inv.vf k hk h
  · constructor
    · intro h1
      rcases (hV' i').1 h1 with h2 | h2
      · obtain ⟨rfl, rfl⟩ := flo_uniq hnd' hf h h2 (.inl rfl)
        exact (hV' j').2 (.inl (.inr rfl))
      · exact (hV' j').2 (.inr ((inv.vb i' j' h).1 h2))
    · intro h1
      rcases (hV' j').1 h1 with h2 | h2
      · obtain ⟨rfl, rfl⟩ := flo_uniq hnd' hf h h2 (.inr rfl)
        exact (hV' i).2 (.inl (.inl rfl))
      · exact (hV' i').2 (.inr ((inv.vb i' j' h).2 h2))
  · refine ⟨by rw [vput_len]; exact inv.rel.1, fun s x u hs hu hw => ?_⟩
    rw [vput_get] at hs
    by_cases hc : o.dst = some s ∧ s < σ.length
    · rw [if_pos hc] at hs; injection hs with hs; subst hs
      exact hy s u hc.1 hu _ (by simp [Gh.addObj])
    · rw [if_neg hc] at hs
      have hne : o.dst ≠ some s := fun hd => hc ⟨hd, (List.getElem?_eq_some_iff.1 hs).1⟩
      refine (inv.rel.2 s x u hs hu fun k ok hk hd => ?_).mono e
      obtain ⟨h1, h2⟩ := hw k ok hk hd
      refine ⟨?_, h2⟩
      rcases (hV' k).1 h1 with (h | h) | h
      · subst h
        rw [ho] at hk; injection hk with hk; subst hk
        exact absurd hd hne
      · exfalso
        -- a box's store writes no slot
        obtain ⟨o2, ho2, hlate, hbox⟩ := st.at hf
        obtain ⟨oj, hoj, hib, _⟩ := hbox k h
        obtain ⟨_, _, _, _, _, _, _, _, _, h5, _⟩ := box_alloc hib hlate
        rw [hk] at hoj; injection hoj with hoj; subst hoj
        rw [h5] at hd; cases hd
      · exact h
  · rcases (hV' k).1 hv with (h | h) | h
    · subst h; exact absurd hRi hnr
    · exact absurd (hRj k h) hnr
    · exact (inv.own k ok hk h hnr).put st inv.cv ho hVi hk h fun _ h => h
  · have hnv0 : ¬ On V i' := fun h => hnv ((hV' i').2 (.inr h))
    have hii : i' ≠ i := fun h => hnv ((hV' i').2 (.inl (.inl h)))
    have h0 := (inv.flt i' jo' hf' hri hnv0).sig (σ' := vput σ o.dst y) fun j oj hj hoj hrj => only_put fun s hs => by
      subst hj
      cases hlk : inList (oj.looksAt ops) s with
      | false => rfl
      | true =>
        exfalso
        have hji : j ≠ i := fun e => hii (flo_uniq hnd' hf' hf (k := i) (.inr (by rw [e])) (.inl rfl)).1
        obtain ⟨e1, he, hb1, hon⟩ := ((once_spec st.once ho hs).2 j oj hoj hji).2 hlk
        obtain ⟨o2, ho2, _, hbox⟩ := st.at hf'
        obtain ⟨oj', hoj', _, _, hdeps⟩ := hbox j rfl
        rw [hoj] at hoj'; injection hoj' with hoj'; subst hoj'
        rcases hdeps e1 he hb1 with h | h | h
        · exact hii (h.symm.trans hon)
        · exact h (hon ▸ hiF)
        · rw [hon] at h
          rw [boxStore_dst st h ho] at hs; cases hs
    have h1 := h0.step (g' := g.addObj T.objs.length b) (w' := w) (a := a) (R' := R) (prot' := fun k => if k = i then none else prot k) e (fun _ _ => rfl) (hpne i' hii) (d' := none) (v := undef) (fun _ _ _ _ h => by cases h) (fun _ _ h => h)
    simpa [Act.put] using h1
  · replace hk : (if k = i then none else prot k) = some c := hk
    by_cases hki : k = i
    · rw [if_pos hki] at hk; cases hk
    · rw [if_neg hki] at hk
      obtain ⟨h1, h2, h3, h4, h5, h6⟩ := inv.pr k c hk
      refine ⟨h1, h2, fun h => ?_, h4, h5, h6⟩
      rcases (hV' k).1 h with (h | h) | h
      · exact hki h
      · obtain ⟨jo', hjo'⟩ := h1
        exact hki (flo_uniq hnd' hjo' hf (k := k) (.inl rfl) (.inr h)).1
      · exact h3 h
  · replace hk : (if k = i then none else prot k) = some c := hk
    replace hk' : (if k' = i then none else prot k') = some c := hk'
    by_cases hki : k = i
    · rw [if_pos hki] at hk; cases hk
    · by_cases hki' : k' = i
      · rw [if_pos hki'] at hk'; cases hk'
      · rw [if_neg hki] at hk; rw [if_neg hki'] at hk'
        exact inv.pinj k k' c hk hk'
  · have hle : T0.objs.length ≤ T.objs.length := by
      have := congrArg List.length inv.t0
      rw [List.length_take] at this; omega
    show (T.objs ++ [vo]).take T0.objs.length = T0.objs
    rw [List.take_append_of_le_length hle]; exact inv.t0
end
end Go.Proofs.YtogbdjlelkepcaaGreatDoor
namespace Go.Proofs.YtogbdjlelkepcaaGreatDoor
open Go.RowKit

section
variable {P : Program} {G : Globs} {F : Ora} {ops : Array Oper} {r : Option Nat} {flo : List (Nat × Option Nat)} {σ : List TV} {T T0 : VT} {V R : Array Bool} {pend : List Nat} {g : Gh} {w : World} {a : Act} {prot : Nat → Option Nat}
theorem VInv.turned (st : VStat P ops flo) (inv : VInv P G ops flo σ T T0 V R pend g w a.tmps.toList prot) {i : Nat} {o : Oper} (ho : ops[i]? = some o) (hiR : i ∈ Region.ready .any ops R) (hiV : i ∈ Region.ready .any ops V) (hF : i ∉ floatL flo)
    {g' : Gh} {w' : World} {v : Value} {y : TV} {T' T0' : VT} {pend' : List Nat} (e : Evo g w g' w') (hfr : g'.fr = g.fr) (hB : ∀ b, PB prot b → w'.heap[b]? = w.heap[b]?) (hst : ∀ b o, PB prot b → g'.st b o → g.st b o) (hrw : RW (gP g' (PB prot)) T' w') (hy : ∀ d u, o.dst = some d → (a.put o.dst v).tmps.toList[d]? = some u → VR g' w' y u)
    (ht0 : T'.objs.take T0'.objs.length = T0'.objs) (hpend : ∀ k ok y, k ∈ pend → ops[k]? = some ok → ¬ On R k → vwant ops (only ops ok σ) ok = some true → vpure2 P ok.op (vev G (only ops ok σ)) = none → vread2 P T0 ok.op (vev G (only ops ok σ)) = some y → k ∈ pend' ∧ vread2 P T0' ok.op (vev G (only ops ok σ)) = some y) :
    VInv P G ops flo (vput σ o.dst y) T' T0' (V.setIfInBounds i true) (R.setIfInBounds i true) pend' g' w' (a.put o.dst v).tmps.toList prot := by
  obtain ⟨hun, o', ho', hdep⟩ := mem_ready.1 hiR
  rw [ho] at ho'; injection ho' with ho'; subst ho'
  have hnR := not_on hun
  have hVi := not_on (mem_ready.1 hiV).1
  have hlt := (Array.getElem?_eq_some_iff.1 ho).1
  refine ⟨by simpa using inv.vs, by simpa using inv.rs, inv.cv.set hiV, inv.cr.set hiR, fun k hk hnv => ?_, fun k hk hv => on_set (inv.vf k hk (on_set_ne (fun h => hF (by rw [h]; exact hk)) hv)), fun i' j' h => ?_, ?_, fun k ok hk hv hnr => ?_, fun i' jo hf hri hnv => ?_, fun k b hk => ?_, inv.pinj, hrw, ht0⟩
  · by_cases hik : i = k
    · subst hik; exact absurd (on_self (by rw [inv.vs]; exact hlt)) hnv
    · exact inv.rv k (on_set_ne hik hk) fun h => hnv (on_set h)
  · have h1 : i ≠ i' := fun e => hF (floatL_mem.2 ⟨i', some j', h, .inl e⟩)
    have h2 : i ≠ j' := fun e => hF (floatL_mem.2 ⟨i', some j', h, .inr (by rw [e])⟩)
    exact ⟨fun h3 => on_set ((inv.vb i' j' h).1 (on_set_ne h1 h3)), fun h3 => on_set ((inv.vb i' j' h).2 (on_set_ne h2 h3))⟩
  · refine ⟨by rw [vput_len, put_len]; exact inv.rel.1, fun s x u hs hu hw => ?_⟩
    rw [vput_get] at hs
    by_cases hc : o.dst = some s ∧ s < σ.length
    · rw [if_pos hc] at hs; injection hs with hs; subst hs
      exact hy s u hc.1 hu
    · rw [if_neg hc] at hs
      have hne : o.dst ≠ some s := fun hd => hc ⟨hd, (List.getElem?_eq_some_iff.1 hs).1⟩
      rw [put_get, if_neg fun h => hne h.1] at hu
      refine (inv.rel.2 s x u hs hu fun k ok hk hd => ?_).mono e
      obtain ⟨h1, h2⟩ := hw k ok hk hd
      have hik : i ≠ k := fun h => by
        subst h
        rw [ho] at hk; injection hk with hk; subst hk
        exact hne hd
      exact ⟨on_set_ne hik h1, on_set_ne hik h2⟩
  · have hki : i ≠ k := fun h => hnr (h ▸ on_self (by rw [inv.rs]; exact hlt))
    have hv' := on_set_ne hki hv
    have hnr' : ¬ On R k := fun h => hnr (on_set h)
    have h1 : Owed P G ops T0' pend' k ok σ := by
      obtain ⟨h2, h3⟩ := inv.own k ok hk hv' hnr'
      refine ⟨h2, ?_⟩
      rcases h3 with h3 | ⟨h3, z, h4, h5⟩
      · exact .inl h3
      · refine .inr ⟨h3, z, h4, ?_⟩
        rcases h5 with h5 | ⟨h5, h6, h7⟩
        · exact .inl h5
        · obtain ⟨h8, h9⟩ := hpend k ok z h5 hk hnr' h3 h6 h7
          exact .inr ⟨h8, h6, h9⟩
    exact h1.put (y := y) (pend' := pend') st inv.cv ho hVi hk hv' fun _ h => h
  · have hii : i ≠ i' := fun h => hF (floatL_mem.2 ⟨i', jo, hf, .inl h⟩)
    have hri' := on_set_ne hii hri
    have hnv' : ¬ On V i' := fun h => hnv (on_set h)
    have h0 := (inv.flt i' jo hf hri' hnv').sig (σ' := vput σ o.dst y) fun j oj hj hoj hrj => only_put fun s hs => by
      subst hj
      cases hlk : inList (oj.looksAt ops) s with
      | false => rfl
      | true =>
        exfalso
        have hji : j ≠ i := fun e => hF (floatL_mem.2 ⟨i', some j, hf, .inr (by rw [e])⟩)
        obtain ⟨e1, he, hb1, hon⟩ := ((once_spec st.once ho hs).2 j oj hoj hji).2 hlk
        exact hnR (hon ▸ inv.cr j oj hoj hrj e1 he hb1)
    refine h0.step e (fun b hb => hB b ⟨i', hb⟩) rfl (fun o' d' h1 h2 h3 => ((once_spec st.once h1 h2).2 i o ho hii).1 h3) fun j hj hr => ?_
    subst hj
    exact on_set_ne (fun h => hF (floatL_mem.2 ⟨i', some j, hf, .inr (by rw [h])⟩)) hr
  · obtain ⟨h1, h2, h3, h4, h5, h6⟩ := inv.pr k b hk
    refine ⟨h1, on_set h2, fun h => ?_, by rw [hfr]; exact h4, fun o2 hs => h5 o2 (hst b o2 ⟨k, hk⟩ hs), Nat.lt_of_lt_of_le h6 e.size⟩
    by_cases hik : i = k
    · subst hik; exact hnR h2
    · exact h3 (on_set_ne hik h)
theorem turn_step (st : VStat P ops flo) (inv : VInv P G ops flo σ T T0 V R pend g w a.tmps.toList prot) (hG : GOk G g w) {QQ : Exit → Act → World → Prop} {K : Act → World → Prop} {i : Nat} {o : Oper} (ho : ops[i]? = some o)
  (hiR : i ∈ Region.ready .any ops R) (hiV : i ∈ Region.ready .any ops V) (hF : i ∉ floatL flo) {ro : Nat} {b : Bool} (hw : vwant ops (only ops o σ) o = some b) {X : List TV → VT → Prop}
  (h : b = true → VPi P G ro o (only ops o σ) T fun s T' => X (vput σ o.dst (pickD o s)) T') (hY : b = false → X (vput σ o.dst (.val undef)) T) {pend' : List Nat} (T0' : VT → VT) (ht0 : ∀ σ' T' w' g', X σ' T' → Fix ro g T w T' w' → Evo g w g' w' → T'.objs.take (T0' T').objs.length = (T0' T').objs)
  (hpend : ∀ σ' T' k ok y, X σ' T' → k ∈ pend → ops[k]? = some ok → ¬ On R k → vwant ops (only ops ok σ) ok = some true → vpure2 P ok.op (vev G (only ops ok σ)) = none → vread2 P T0 ok.op (vev G (only ops ok σ)) = some y → k ∈ pend' ∧ vread2 P (T0' T') ok.op (vev G (only ops ok σ)) = some y)
  (next : ∀ σ' T' g' w' (a' : Act), X σ' T' → VInv P G ops flo σ' T' (T0' T') (V.setIfInBounds i true) (R.setIfInBounds i true) pend' g' w' a'.tmps.toList prot → Evo g w g' w' → Fix ro g T w T' w' → a'.defers = a.defers → K a' w') : wpOpIn (fenR r) 0 P ops QQ i K a w := by
 obtain ⟨_, o', ho', hdepR⟩ := mem_ready.1 hiR
 rw [ho] at ho'; injection ho' with ho'; subst ho'
 obtain ⟨_, o', ho', hdepV⟩ := mem_ready.1 hiV
 rw [ho] at ho'; injection ho' with ho'; subst ho'
 have hl : ∀ s, inList (o.looksAt ops) s = true → ∀ (k : Nat) ok, ops[k]? = some ok → ok.dst = some s → On V k ∧ On R k := fun s hs k ok hk hd =>
  ⟨(looks_on st.once ho hdepV hs hk hd).2, (looks_on st.once ho hdepR hs hk hd).2⟩
 have hσ := inv.rel.only hl
 have hwant := wanted_of hw hσ
 cases b with
 | false =>
  refine wpOpIn_skip ho hwant ?_
  refine next _ T g w _ (hY rfl) ?_ (Evo.refl _ _) (Fix.refl _ _ _ _) (put_defers _ _ _)
  exact inv.turned st ho hiR hiV hF (Evo.refl _ _) rfl (fun _ _ => rfl) (fun _ _ _ h => h) inv.rw (fun d u hd hu => by
   rw [put_get] at hu
   by_cases hc : o.dst = some d ∧ d < a.tmps.toList.length
   ·rw [if_pos hc] at hu; injection hu with hu; subst hu; exact .val _
   ·rw [if_neg hc] at hu; exact absurd ⟨hd, (List.getElem?_eq_some_iff.1 hu).1⟩ hc) (ht0 _ _ w g (hY rfl) (Fix.refl _ _ _ _) (Evo.refl _ _)) (fun k ok y => hpend _ T k ok y (hY rfl))
 | true =>
  unfold wpOpIn
  simp only [ho]
  rw [if_pos hwant]
  refine h rfl r (gP g (PB prot)) w a _ _ inv.rw hG.toP (VRs.gh (g := g) (g' := gP g (PB prot)) rfl rfl rfl hσ) fun s T' g1 w1 a' hput hX e1 r1 hs hd' hfix => ?_
  obtain ⟨v, rfl⟩ := hput
  obtain ⟨g', rfl, hfr, e, hB, hst⟩ := e1.base
  have hfix' : Fix ro g T w T' w1 := ⟨hfix.len, hfix.same, hfix.heap⟩
  refine next _ T' g' w1 _ hX ?_ e hfix' hd'
  refine inv.turned st ho hiR hiV hF e hfr hB hst r1 (fun d u hd hu => ?_) (ht0 _ _ w1 g' hX hfix' e) (fun k ok y => hpend _ T' k ok y hX)
  unfold pickD
  rw [hd]
  simp only
  rw [List.getD_eq_getElem?_getD]
  have hlen : s.length = (a.put o.dst v).tmps.toList.length := hs.1.symm
  have hdl := (List.getElem?_eq_some_iff.1 hu).1
  rw [← hlen] at hdl
  rw [List.getElem?_eq_getElem hdl]
  exact (hs.2 d _ u (List.getElem?_eq_getElem hdl) hu).ofP
theorem setAll_on : ∀ {l : List Nat} {V : Array Bool} {k : Nat}, On (setAll l V) k → k ∈ l ∨ On V k
 | [], _, _, h => .inr h
 | i :: l, V, k, h => by
  rcases setAll_on (l := l) h with h | h
  ·exact .inl (List.mem_cons_of_mem _ h)
  ·by_cases hik : i = k
   ·exact .inl (by rw [hik]; exact List.mem_cons_self)
   ·exact .inr (on_set_ne hik h)
theorem on_setAll : ∀ {l : List Nat} {V : Array Bool} {k : Nat}, (On V k ∨ (k ∈ l ∧ k < V.size)) → On (setAll l V) k
  | [], _, _, h => by
    rcases h with h | h
    · exact h
    · cases h.1
  | i :: l, V, k, h => by
    refine on_setAll (l := l) ?_
    rcases h with h | ⟨h, hk⟩
    · exact .inl (on_set h)
    · rcases List.mem_cons.1 h with h | h
      · subst h; exact .inl (on_self hk)
      · exact .inr ⟨h, by simpa using hk⟩
theorem ready_of (inv : VInv P G ops flo σ T T0 V R pend g w a.tmps.toList prot) {j : Nat} (hj : j ∈ Region.ready .any ops R) (hV : ¬ On V j) (hF : j ∉ floatL flo) : j ∈ Region.ready .any ops (setAll (floatL flo) V) := by
  obtain ⟨hun, o, ho, hdep⟩ := mem_ready.1 hj
  have hsz : ∀ (l : List Nat) (V : Array Bool), (setAll l V).size = V.size := by
    intro l
    induction l with
    | nil => intro V; rfl
    | cons i l ih => intro V; rw [setAll, ih]; simp
  have hlt := (Array.getElem?_eq_some_iff.1 ho).1
  refine mem_ready.2 ⟨off_of (by rw [hsz, inv.vs]; exact hlt) fun h => ?_, o, ho, fun e he hb => ?_⟩
  · rcases setAll_on h with h | h
    · exact hF h
    · exact hV h
  · have h1 := hdep e he hb
    by_cases hv : On V e.on
    · exact on_setAll (.inl hv)
    · refine on_setAll (.inr ⟨inv.rv e.on h1 hv, ?_⟩)
      have h2 := inv.rs
      have h3 := inv.vs
      rcases Nat.lt_or_ge e.on R.size with h | h
      · omega
      · simp [Array.getElem?_eq_none h] at h1
theorem remL_mem {i : Nat} : ∀ {l : List Nat} {k : Nat}, k ∈ l → k ≠ i → k ∈ remL i l
 | a :: l, k, h, hn => by
  simp only [remL]
  cases hb : Nat.beq a i with
  | true =>
   have := Nat.eq_of_beq_eq_true hb
   simp only [cond_true]
   rcases List.mem_cons.1 h with h | h
   ·exact absurd (h.trans this) hn
   ·exact remL_mem h hn
  | false =>
   simp only [cond_false]
   rcases List.mem_cons.1 h with h | h
   ·rw [h]; exact List.mem_cons_self
   ·exact List.mem_cons_of_mem _ (remL_mem h hn)
theorem remL_sub {i : Nat} : ∀ {l : List Nat} {k : Nat}, k ∈ remL i l → k ∈ l
 | a :: l, k, h => by
  simp only [remL] at h
  cases hb : Nat.beq a i with
  | true => rw [hb] at h; exact List.mem_cons_of_mem _ (remL_sub h)
  | false =>
   rw [hb] at h
   rcases List.mem_cons.1 h with h | h
   ·rw [h]; exact List.mem_cons_self
   ·exact List.mem_cons_of_mem _ (remL_sub h)
theorem ready_rem (inv : VInv P G ops flo σ T T0 V R pend g w a.tmps.toList prot) {j i0 : Nat} (hn : ¬ On R i0) (hj : j ∈ Region.ready .any ops R) (hV : ¬ On V j) (hF : j ∉ floatL flo) : j ∈ Region.ready .any ops (setAll (remL i0 (floatL flo)) V) := by
  obtain ⟨hun, o, ho, hdep⟩ := mem_ready.1 hj
  have hsz : ∀ (l : List Nat) (V : Array Bool), (setAll l V).size = V.size := by
    intro l
    induction l with
    | nil => intro V; rfl
    | cons i l ih => intro V; rw [setAll, ih]; simp
  have hlt := (Array.getElem?_eq_some_iff.1 ho).1
  refine mem_ready.2 ⟨off_of (by rw [hsz, inv.vs]; exact hlt) fun h => ?_, o, ho, fun e he hb => ?_⟩
  · rcases setAll_on h with h | h
    · exact hF (remL_sub h)
    · exact hV h
  · have h1 := hdep e he hb
    by_cases hv : On V e.on
    · exact on_setAll (.inl hv)
    · refine on_setAll (.inr ⟨remL_mem (inv.rv e.on h1 hv) (fun h => hn (h ▸ h1)), ?_⟩)
      have h2 := inv.rs
      have h3 := inv.vs
      rcases Nat.lt_or_ge e.on R.size with h | h
      · omega
      · simp [Array.getElem?_eq_none h] at h1
def offN (R : Array Bool) : Nat := R.toList.count false
theorem offN_set {R : Array Bool} {i : Nat} (hi : i < R.size) (h : ¬ On R i) : offN (R.setIfInBounds i true) + 1 ≤ offN R := by
 unfold offN
 rw [Array.toList_setIfInBounds]
 have hl : i < R.toList.length := by simpa using hi
 have h0 : R.toList[i] = false := by
  unfold On at h
  simp [hi] at h ⊢; exact h
 have hm : false ∈ R.toList := by rw [← h0]; exact List.getElem_mem hl
 have hpos : 0 < R.toList.count false := List.count_pos_iff.2 hm
 rw [List.count_set hl, h0]
 simp only [beq_self_eq_true, if_true, Nat.add_zero, show ((true : Bool) == false) = false from rfl, Bool.false_eq_true, if_false]
 omega
theorem offN_zero {R : Array Bool} (h : offN R = 0) : ∀ i, i < R.size → On R i := fun i hi => by
 unfold offN at h
 have h1 : false ∉ R.toList := List.count_eq_zero.1 h
 unfold On
 simp [hi]
 cases hq : R[i] with
 | true => rfl
 | false =>
  exfalso
  apply h1
  rw [← hq]
  exact Array.mem_toList_iff.2 (Array.getElem_mem hi)
theorem ready_nil_on (hf : flowOk ops = true) {R : Array Bool} (hs : R.size = ops.size) (h : Region.ready .any ops R = []) : ∀ i, i < ops.size → On R i := all_listed hf hs h
theorem ready_nil_of {R : Array Bool} (h : ∀ i, i < ops.size → On R i) : Region.ready .any ops R = [] := by
 apply List.eq_nil_iff_forall_not_mem.2
 intro i hi
 obtain ⟨hun, o, ho, _⟩ := mem_ready.1 hi
 exact not_on hun (h i (Array.getElem?_eq_some_iff.1 ho).1)
end
end Go.Proofs.YtogbdjlelkepcaaGreatDoor
namespace Go.Proofs.YtogbdjlelkepcaaGreatDoor
open Go.RowKit

section
variable {P : Program} {ops : Array Oper} {flo : List (Nat × Option Nat)} {F : List Nat}
theorem ltAllN_ok {n : Nat} : ∀ {l : List Nat}, ltAllN n l = true → ∀ i ∈ l, i < n
 | [], _, i, h => by cases h
 | a :: l, h, i, hi => by
  simp only [ltAllN, Bool.and_eq_true] at h
  rcases List.mem_cons.1 hi with rfl | hi
  ·exact Nat.le_of_ble_eq_true h.1
  ·exact ltAllN_ok h.2 i hi
theorem MaskOk.all {n : Nat} : ∀ (F : List Nat) (m : Nat) (V : Array Bool), MaskOk n m V → (∀ i ∈ F, i < n) → MaskOk n (Nat.lor m (maskL F)) (setAll F V)
 | [], m, V, h, _ => by
  have : Nat.lor m (maskL []) = m := Nat.or_zero m
  rw [this]; exact h
 | i :: l, m, V, h, k => by
  have h1 := MaskOk.all l _ _ (h.set (k i List.mem_cons_self)) fun j hj => k j (List.mem_cons_of_mem _ hj)
  have e : Nat.lor m (maskL (i :: l)) = Nat.lor (Nat.lor m (bitN i)) (maskL l) := (Nat.or_assoc m (bitN i) (maskL l)).symm
  rw [e]; exact h1
theorem remL_memN {i k : Nat} : ∀ {l : List Nat}, k ∈ remL i l → k ∈ l
 | [], h => by cases h
 | a :: l, h => by
  simp only [remL] at h
  cases hb : Nat.beq a i with
  | true => rw [hb] at h; exact List.mem_cons_of_mem _ (remL_memN h)
  | false =>
   rw [hb] at h
   rcases List.mem_cons.1 h with rfl | h
   ·exact List.mem_cons_self
   ·exact List.mem_cons_of_mem _ (remL_memN h)
theorem depMs_at : ∀ (L : List Oper) (j : Nat), (depMs L)[j]? = (L[j]?).map fun o => edgesM o.after.toList
 | [], j => by simp [depMs]
 | o :: L, 0 => by simp [depMs]
 | o :: L, j + 1 => by simpa [depMs] using depMs_at L j
theorem depsInM_eq {m : Nat} {V : Array Bool} (h : MaskOk ops.size m V) (j : Nat) : depsInM (depMs ops.toList) m j = depsIn ops V j := by
 unfold depsInM depsIn
 rw [depMs_at, Array.getElem?_toList]
 cases ops[j]? with
 | none => rfl
 | some o => exact deps_eq h o
theorem depsIn_lt {V : Array Bool} {j : Nat} (h : depsIn ops V j = true) : j < ops.size := by
 unfold depsIn at h
 split at h
 ·rename_i o ho; exact (Array.getElem?_eq_some_iff.1 ho).1
 ·cases h
theorem ancAllM_ok (hf : flowOk ops = true) {i : Nat} (hi : i < ops.size) : ∀ {l : List Nat}, ancAllM ops.size (ancGo ops.toList 0 []) i l = true → (l.all fun k => anc ops ops.size i k) = true
 | [], _ => rfl
 | k :: l, h => by
  simp only [ancAllM, Bool.and_eq_true] at h
  rw [List.all_cons, ancM_ok hf hi h.1, ancAllM_ok hf hi h.2]; rfl
theorem plan2ChkF_ok (hf : flowOk ops = true) (hF : ∀ i ∈ F, i < ops.size) : ∀ (l : List (Nat × FK)) (m : Nat) (V : Array Bool) (pend : List Nat), MaskOk ops.size m V →
  plan2ChkF P ops (depMs ops.toList) (ancGo ops.toList 0 []) flo F l m pend = true → plan2Chk P ops flo F l V pend = true
 | [], m, V, pend, hm, h => by
  simp only [plan2ChkF] at h
  simp only [plan2Chk, ready_eq hm]; exact h
 | (i, .own) :: l, m, V, pend, hm, h => by
  simp only [plan2ChkF, Bool.and_eq_true] at h
  obtain ⟨⟨⟨h1, h2⟩, h3⟩, h4⟩ := h
  rw [← ready_eq hm] at h1
  have hlt : i < ops.size := by
   obtain ⟨_, o, ho, _⟩ := mem_ready.1 (inList_iff.1 h1)
   exact (Array.getElem?_eq_some_iff.1 ho).1
  simp only [plan2Chk, Bool.and_eq_true]
  exact ⟨⟨⟨h1, h2⟩, h3⟩, plan2ChkF_ok hf hF l _ _ _ (hm.set hlt) h4⟩
 | (i, .turn pe) :: l, m, V, pend, hm, h => by
  simp only [plan2ChkF, Bool.and_eq_true] at h
  obtain ⟨⟨⟨⟨h0, h1⟩, h2⟩, h3⟩, h4⟩ := h
  rw [← ready_eq hm] at h1
  rw [← ready_eq (hm.all F _ _ hF)] at h3
  have hlt : i < ops.size := by
   obtain ⟨_, o, ho, _⟩ := mem_ready.1 (inList_iff.1 h1)
   exact (Array.getElem?_eq_some_iff.1 ho).1
  simp only [plan2Chk, Bool.and_eq_true]
  exact ⟨⟨⟨⟨h0, h1⟩, h2⟩, h3⟩, plan2ChkF_ok hf hF l _ _ _ (hm.set hlt) h4⟩
 | (i, .put pe) :: l, m, V, pend, hm, h => by
  simp only [plan2ChkF, Bool.and_eq_true] at h
  obtain ⟨⟨⟨⟨h0, h1⟩, h2⟩, h3⟩, h4⟩ := h
  rw [← ready_eq hm] at h1
  rw [← ready_eq (hm.all F _ _ hF)] at h3
  have hlt : i < ops.size := by
   obtain ⟨_, o, ho, _⟩ := mem_ready.1 (inList_iff.1 h1)
   exact (Array.getElem?_eq_some_iff.1 ho).1
  simp only [plan2Chk, Bool.and_eq_true]
  exact ⟨⟨⟨⟨h0, h1⟩, h2⟩, h3⟩, plan2ChkF_ok hf hF l _ _ _ (hm.set hlt) h4⟩
 | (i, .bar) :: l, m, V, pend, hm, h => by
  simp only [plan2ChkF, Bool.and_eq_true] at h
  obtain ⟨⟨⟨⟨h1, h2⟩, h3⟩, h5⟩, h4⟩ := h
  rw [← ready_eq hm] at h1
  rw [← ready_eq (hm.all F _ _ hF)] at h3
  have hlt : i < ops.size := by
   obtain ⟨_, o, ho, _⟩ := mem_ready.1 (inList_iff.1 h1)
   exact (Array.getElem?_eq_some_iff.1 ho).1
  simp only [plan2Chk, Bool.and_eq_true]
  exact ⟨⟨⟨⟨h1, h2⟩, h3⟩, ancAllM_ok hf hlt h5⟩, plan2ChkF_ok hf hF l _ _ _ (hm.set hlt) h4⟩
 | (i, .late) :: l, m, V, pend, hm, h => by
  simp only [plan2ChkF, Bool.and_eq_true] at h
  obtain ⟨⟨⟨h0, h1⟩, h3⟩, h4⟩ := h
  rw [← ready_eq hm] at h1
  rw [← ready_eq (hm.all (remL i F) _ _ fun k hk => hF k (remL_memN hk))] at h3
  have hlt : i < ops.size := by
   obtain ⟨_, o, ho, _⟩ := mem_ready.1 (inList_iff.1 h1)
   exact (Array.getElem?_eq_some_iff.1 ho).1
  simp only [plan2Chk, Bool.and_eq_true]
  exact ⟨⟨⟨by simpa only [Bool.and_eq_true] using h0, h1⟩, h3⟩, plan2ChkF_ok hf hF l _ _ _ (hm.set hlt) h4⟩
 | (i, .box j) :: l, m, V, pend, hm, h => by
  simp only [plan2ChkF, Bool.and_eq_true] at h
  obtain ⟨⟨⟨⟨h0, h1⟩, h2⟩, h3⟩, h4⟩ := h
  rw [← ready_eq hm] at h1
  rw [← ready_eq (hm.all (remL j F) _ _ fun k hk => hF k (remL_memN hk))] at h3
  have hlt : i < ops.size := by
   obtain ⟨_, o, ho, _⟩ := mem_ready.1 (inList_iff.1 h1)
   exact (Array.getElem?_eq_some_iff.1 ho).1
  rw [depsInM_eq (hm.set hlt)] at h2
  have hltj := depsIn_lt h2
  simp only [plan2Chk, Bool.and_eq_true]
  exact ⟨⟨⟨⟨by simpa only [Bool.and_eq_true] using h0, h1⟩, h2⟩, h3⟩, plan2ChkF_ok hf hF l _ _ _ ((hm.set hlt).set hltj) h4⟩
theorem writesOf_mem : ∀ (L : List Oper) (k d i : Nat), (d, i) ∈ writesOf k L ↔ ∃ j o, L[j]? = some o ∧ i = k + j ∧ o.dst = some d
  | [], k, d, i => by simp [writesOf]
  | o :: L, k, d, i => by
    have ih := writesOf_mem L (k + 1) d i
    have step : (∃ j o', L[j]? = some o' ∧ i = k + 1 + j ∧ o'.dst = some d) ↔ ∃ j o', (o :: L)[j + 1]? = some o' ∧ i = k + (j + 1) ∧ o'.dst = some d := by
      constructor
      · rintro ⟨j, o', h1, h2, h3⟩; exact ⟨j, o', by simpa using h1, by omega, h3⟩
      · rintro ⟨j, o', h1, h2, h3⟩; exact ⟨j, o', by simpa using h1, by omega, h3⟩
    simp only [writesOf]
    split
    · rename_i d' hd'
      rw [List.mem_cons, ih, step]
      constructor
      · rintro (h | ⟨j, o', h⟩)
        · injection h with h1 h2
          exact ⟨0, o, rfl, by omega, by rw [hd', h1]⟩
        · exact ⟨j + 1, o', h⟩
      · rintro ⟨j, o', h1, h2, h3⟩
        cases j with
        | zero =>
          simp at h1; subst h1
          rw [hd'] at h3; injection h3 with h3
          left; rw [h3, h2]; rfl
        | succ j => exact .inr ⟨j, o', h1, h2, h3⟩
    · rename_i hd'
      rw [ih, step]
      constructor
      · rintro ⟨j, o', h⟩; exact ⟨j + 1, o', h⟩
      · rintro ⟨j, o', h1, h2, h3⟩
        cases j with
        | zero =>
          simp at h1; subst h1
          rw [hd'] at h3; cases h3
        | succ j => exact ⟨j, o', h1, h2, h3⟩
theorem dstsOnce_ok : ∀ {W : List (Nat × Nat)} {m : Nat}, dstsOnce W m = true → (∀ p ∈ W, m.testBit p.1 = false) ∧ W.Pairwise fun p q => p.1 ≠ q.1
  | [], _, _ => ⟨by simp, List.Pairwise.nil⟩
  | p :: l, m, h => by
    simp only [dstsOnce] at h
    cases hb : hasBit m p.1 with
    | true => rw [hb] at h; cases h
    | false =>
      rw [hb, cond_false] at h
      obtain ⟨h1, h2⟩ := dstsOnce_ok h
      rw [hasBit_eq] at hb
      refine ⟨fun q hq => ?_, List.pairwise_cons.2 ⟨fun q hq he => ?_, h2⟩⟩
      · rcases List.mem_cons.1 hq with rfl | hq
        · exact hb
        · have := h1 q hq
          rw [lor_test, Bool.or_eq_false_iff] at this
          exact this.1
      · have := h1 q hq
        rw [lor_test, Bool.or_eq_false_iff, bitN_test, decide_eq_false_iff_not] at this
        exact this.2 he
theorem findWr_ok : ∀ {W : List (Nat × Nat)}, (W.Pairwise fun p q => p.1 ≠ q.1) → ∀ {d i : Nat}, (d, i) ∈ W → findWr W d = some i
 | [], _, _, _, h => by cases h
 | p :: l, hp, d, i, h => by
  simp only [findWr]
  rcases List.mem_cons.1 h with rfl | h
  ·simp [Nat.beq_refl]
  ·have hne := (List.pairwise_cons.1 hp).1 _ h
   cases hb : Nat.beq p.1 d with
   | true => exact absurd (Nat.eq_of_beq_eq_true hb) hne
   | false => rw [cond_false]; exact findWr_ok (List.pairwise_cons.1 hp).2 h
theorem looksOk_at {W : List (Nat × Nat)} {d : Nat} : ∀ {l : List Nat}, looksOk W d l = true → ∀ s ∈ l, ∀ i, findWr W s = some i → hasBit d i = true
 | [], _, s, h => by cases h
 | a :: l, h, s, hs => by
  simp only [looksOk, Bool.and_eq_true] at h
  intro i hi
  rcases List.mem_cons.1 hs with rfl | hs
  ·have h1 := h.1
   rw [hi] at h1; exact h1
  ·exact looksOk_at h.2 s hs i hi
theorem onceGo_at {W : List (Nat × Nat)} : ∀ {L : List Oper}, onceGo ops W L = true → ∀ o ∈ L, looksOk W (edgesM o.after.toList) (o.looksAt ops) = true
 | [], _, o, h => by cases h
 | a :: l, h, o, ho => by
  simp only [onceGo, Bool.and_eq_true] at h
  rcases List.mem_cons.1 ho with rfl | ho
  ·exact h.1
  ·exact onceGo_at h.2 o ho
theorem onceF_ok (hf : flowOk ops = true) (h : onceF ops = true) : onceOk ops = true := by
 unfold onceF at h
 rw [Bool.and_eq_true] at h
 obtain ⟨h1, h2⟩ := h
 obtain ⟨_, hp⟩ := dstsOnce_ok h1
 have look : ∀ (i j d : Nat) (o oj : Oper), ops[i]? = some o → o.dst = some d → ops[j]? = some oj → inList (oj.looksAt ops) d = true → ∃ e ∈ oj.after.toList, Region.binds .any e = true ∧ e.on = i := fun i j d o oj ho hd hoj hl => by
  have hm : (d, i) ∈ writesOf 0 ops.toList := (writesOf_mem _ _ _ _).2 ⟨i, o, by rw [Array.getElem?_toList]; exact ho, by omega, hd⟩
  have hfw := findWr_ok hp hm
  have hmem : oj ∈ ops.toList := by
   obtain ⟨hlt, he⟩ := Array.getElem?_eq_some_iff.1 hoj
   rw [← he]; exact Array.mem_toList_iff.2 (Array.getElem_mem hlt)
  have := looksOk_at (onceGo_at h2 oj hmem) d (inList_iff.1 hl) i hfw
  rw [hasBit_eq] at this
  obtain ⟨e, he, hb, hon⟩ := (edgesM_test _ _).1 this
  exact ⟨e, he, hb, hon⟩
 unfold onceOk
 refine List.all_eq_true.2 fun i hi => ?_
 cases ho : ops[i]? with
 | none => rfl
 | some o =>
  simp only
  cases hd : o.dst with
  | none => rfl
  | some d =>
   simp only [Bool.and_eq_true, Bool.not_eq_true']
   refine ⟨?_, List.all_eq_true.2 fun j hj => ?_⟩
   ·cases hl : inList (o.looksAt ops) d with
    | false => rfl
    | true =>
     obtain ⟨e, he, hb, hon⟩ := look i i d o o ho hd ho hl
     have := (flowOk_spec hf ho).1 e (Array.mem_toList_iff.1 he) hb
     omega
   ·by_cases hji : j = i
    ·subst hji; simp [Nat.beq_refl]
    ·cases hoj : ops[j]? with
     | none => simp
     | some oj =>
      simp only [Bool.or_eq_true, Bool.and_eq_true]
      right
      refine ⟨?_, ?_⟩
      ·cases hdj : oj.dst with
       | none => rfl
       | some d' =>
        simp only [Bool.not_eq_true']
        cases hb : Nat.beq d' d with
        | false => rfl
        | true =>
         have := Nat.eq_of_beq_eq_true hb
         subst this
         have m1 : (d', i) ∈ writesOf 0 ops.toList := (writesOf_mem _ _ _ _).2 ⟨i, o, by rw [Array.getElem?_toList]; exact ho, by omega, hd⟩
         have m2 : (d', j) ∈ writesOf 0 ops.toList := (writesOf_mem _ _ _ _).2 ⟨j, oj, by rw [Array.getElem?_toList]; exact hoj, by omega, hdj⟩
         have e1 := findWr_ok hp m1
         rw [findWr_ok hp m2] at e1
         injection e1 with e1
         exact absurd e1 hji
      ·cases hl : inList (oj.looksAt ops) d with
       | false => exact .inl rfl
       | true =>
        right
        obtain ⟨e, he, hb, hon⟩ := look i j d o oj ho hd hoj hl
        exact List.any_eq_true.2 ⟨e, he, by rw [hb, hon, Nat.beq_refl]; rfl⟩
end
end Go.Proofs.YtogbdjlelkepcaaGreatDoor
namespace Go.Proofs.YtogbdjlelkepcaaGreatDoor
open Go.RowKit

section
variable {P : Program} {G : Globs} {F : Ora} {ops : Array Oper} {r : Option Nat} {flo : List (Nat × Option Nat)} {σ : List TV} {T T0 : VT} {V R : Array Bool} {pend : List Nat} {g : Gh} {w : World} {a : Act} {prot : Nat → Option Nat}
theorem other_step (st : VStat P ops flo) (inv : VInv P G ops flo σ T T0 V R pend g w a.tmps.toList prot) (hG : GOk G g w) (hbx : boxesOk P G ops flo V σ flo = true) {QQ : Exit → Act → World → Prop} {K : Act → World → Prop} {j : Nat} (hj : j ∈ Region.ready .any ops R) (hVF : On V j ∨ (¬ On V j ∧ j ∈ floatL flo))
  (next : ∀ g' w' (a' : Act) prot', VInv P G ops flo σ T T0 V (R.setIfInBounds j true) pend g' w' a'.tmps.toList prot' → Evo g w g' w' → (∀ n, Fix n g T w T w') → a'.defers = a.defers → K a' w') : wpOpIn (fenR r) 0 P ops QQ j K a w := by
 rcases hVF with hV | ⟨hV, hF⟩
 ·exact owed_step st inv hG hj hV fun g' w' a' => next g' w' a' prot
 ·obtain ⟨i, jo, h1, h2⟩ := floatL_mem.1 hF
  rcases h2 with rfl | rfl
  ·exact float_step st inv h1 hj hV next
  ·exact store_step st inv hG hbx h1 hj hV fun g' w' a' => next g' w' a' prot
theorem anyIn_done {QQ : Exit → Act → World → Prop} (h : Region.ready .any ops R = []) (hq : QQ .normal a w) : ∀ fuel, wpAnyIn (fenR r) 0 P .any ops QQ fuel R a w
 | 0 => ⟨h, hq⟩
 | _ + 1 => ⟨fun _ => hq, fun j hj => by rw [h] at hj; cases hj⟩
theorem anyIn_wait {QQ : Exit → Act → World → Prop} (hf : flowOk ops = true) (hs : R.size = ops.size) {i : Nat} (hi : i < ops.size) (hn : ¬ On R i) {fuel : Nat} (hfu : offN R ≤ fuel)
  (step : ∀ n, n < fuel → ∀ j ∈ Region.ready .any ops R, offN (R.setIfInBounds j true) ≤ n → wpOpIn (fenR r) 0 P ops QQ j (wpAnyIn (fenR r) 0 P .any ops QQ n (R.setIfInBounds j true)) a w) : wpAnyIn (fenR r) 0 P .any ops QQ fuel R a w := by
 cases fuel with
 | zero => exact absurd (offN_zero (by omega) i (by rw [hs]; exact hi)) hn
 | succ n =>
  refine ⟨fun h => absurd (ready_nil_on hf hs h i hi) hn, fun j hj => step n (Nat.lt_succ_self n) j hj ?_⟩
  obtain ⟨hun, o, ho, _⟩ := mem_ready.1 hj
  have := offN_set (R := R) (i := j) (by rw [hs]; exact (Array.getElem?_eq_some_iff.1 ho).1) (not_on hun)
  omega
theorem listed_all {l : List Nat} {q : Nat → Bool} (h : l.all q = true) {k : Nat} (hk : k ∈ l) : q k = true := List.all_eq_true.1 h k hk
theorem eqL_ok : ∀ {l m : List Nat}, eqL l m = true → l = m
 | [], [], _ => rfl
 | a :: l, b :: m, h => by
  simp only [eqL, Bool.and_eq_true] at h
  rw [Nat.eq_of_beq_eq_true h.1, eqL_ok h.2]
 | [], _ :: _, h => by cases h
 | _ :: _, [], h => by cases h
theorem cond_false_elim {b : Bool} {X : Prop} {n : Nat} {op : Op} {l : List TV} (h : cond b X (vbad n op l)) : b = true ∧ X := by
 cases b with
 | false => exact h.elim
 | true => exact ⟨rfl, h⟩
theorem pendApart_at {id off n : Nat} {l : List Nat} (h : pendApart P G ops id off n σ l = true) {k : Nat} {o : Oper} (hk : k ∈ l) (ho : ops[k]? = some o) (hw : vwant ops (only ops o σ) o = some true) (hp : vpure2 P o.op (vev G (only ops o σ)) = none) : apartRead P id off n o.op (vev G (only ops o σ)) = true := by
 induction l with
 | nil => cases hk
 | cons a l ih =>
  unfold pendApart at h
  rw [Bool.and_eq_true] at h
  rcases List.mem_cons.1 hk with e | hk
  ·subst e
   have h1 := h.1
   rw [ho] at h1
   simp only [hw, hp, Option.isSome_none, Bool.false_or] at h1
   exact h1
  ·exact ih h.2 hk
theorem pendSame_at {T0 T1 : VT} {l : List Nat} (h : pendSame P G ops T0 T1 σ l = true) {k : Nat} {o : Oper} {y : TV} (hk : k ∈ l) (ho : ops[k]? = some o) (hw : vwant ops (only ops o σ) o = some true) (hp : vpure2 P o.op (vev G (only ops o σ)) = none) (hr : vread2 P T0 o.op (vev G (only ops o σ)) = some y) : vread2 P T1 o.op (vev G (only ops o σ)) = some y := by
 induction l with
 | nil => cases hk
 | cons a l ih =>
  unfold pendSame at h
  rw [Bool.and_eq_true] at h
  rcases List.mem_cons.1 hk with e | hk
  ·subst e
   have h1 := h.1
   rw [ho] at h1
   simp only [hw, hp, Option.isSome_none, Bool.false_or, hr] at h1
   split at h1
   ·rename_i x y' hx hy
    injection hx with hx; subst hx
    rw [hy, tvEq_ok _ _ h1]
   ·rename_i hx; cases hx
   ·cases h1
  ·exact ih h.2 hk
theorem pendProp_at {T0 T1 : VT} {l : List Nat} (h : pendProp P G ops T0 T1 σ l) {k : Nat} {o : Oper} {y : TV} (hk : k ∈ l) (ho : ops[k]? = some o) (hw : vwant ops (only ops o σ) o = some true) (hp : vpure2 P o.op (vev G (only ops o σ)) = none) (hr : vread2 P T0 o.op (vev G (only ops o σ)) = some y) : vread2 P T1 o.op (vev G (only ops o σ)) = some y := by
 induction l with
 | nil => cases hk
 | cons a l ih =>
  unfold pendProp at h
  rcases List.mem_cons.1 hk with e | hk
  ·subst e
   have h1 := h.1
   rw [ho] at h1
   simp only [hw, hp, Option.isSome_none, cond_false] at h1
   rw [← h1]; exact hr
  ·exact ih h.2 hk
theorem turnK {b c : Bool} {A X : Prop} {n : Nat} {op : Op} {l : List TV} (h : cond b (A ∧ X) (cond c X (vbad n op l))) : (A ∨ c = true) ∧ X := by
 cases b with
 | true => exact ⟨.inl h.1, h.2⟩
 | false =>
  cases c with
  | true => exact ⟨.inr rfl, h⟩
  | false => exact h.elim
theorem VPi.mono {ro : Nat} {o : Oper} {s : List TV} {T : VT} {K K' : List TV → VT → Prop} (h : VPi P G ro o s T K) (k : ∀ s T, K s T → K' s T) : VPi P G ro o s T K' :=
 fun r g w a next Q rw0 hG hσ hn => h r g w a next Q rw0 hG hσ fun σ' T' g' w' a' hp hk => hn σ' T' g' w' a' hp (k _ _ hk)
theorem vput3_ok {g : Gh} {w : World} (r : RW g T w) {ro : Nat} {t : TypeId} {id off : Nat} {x : TV} {ua u : Value} {T' : VT} (h : vput3 P ro T t (.ptr id off) x = some T') (ha : VR g w (.ptr id off) ua) (hx : VR g w x u) :
  ∃ g' w', (Instr.storeAt t ua u).run P w = .ok () w' ∧ VR g' w' (.val undef) undef ∧ Evo g w g' w' ∧ RW g' T' w' ∧ Fix ro g T w T' w' := by
 unfold vput3 at h
 split at h
 ·rename_i y T1 h1
  injection h with h; subst h
  obtain ⟨g', w', k1, _, k3, k4, k5⟩ := vstoreR_ok (P := P) r h1 ha hx
  exact ⟨g', w', k1, .val _, k3, k4, k5⟩
 ·cases hr : Nat.ble ro id with
  | false => simp only [hr] at h; cases h
  | true =>
   simp only [hr, cond_true, Option.map_eq_some_iff] at h
   obtain ⟨⟨y, T1⟩, h1, h2⟩ := h
   simp only at h2; subst h2
   obtain ⟨g', w', k1, _, k3, k4, k5⟩ := vstore_fix (P := P) (ro := ro) r h1 ha hx (Nat.le_of_ble_eq_true hr)
   exact ⟨g', w', k1, .val _, k3, k4, k5⟩
theorem vplan2_ok {call : Callee0} {rnd : Round0} (hc : CalleeOk P G call) (hrr : RoundOk P G rnd) (st : VStat P ops flo) {ro : Nat} {K : List TV → VT → Prop} {gs : Gh} {Ts : VT} {ws : World} {ds : List Deferred} {QQ : Act → World → Prop}
  (hq : ∀ σ' T' g' w' (a' : Act), K σ' T' → Evo gs ws g' w' → RW g' T' w' → VRs g' w' σ' a'.tmps.toList → a'.defers = ds → Fix ro gs Ts ws T' w' → QQ a' w') :
  ∀ (fuel : Nat) (l : List (Nat × FK)) (V : Array Bool) (T0 : VT) (pend : List Nat) (σ : List TV) (T : VT) (R : Array Bool) (g : Gh) (w : World) (a : Act) (prot : Nat → Option Nat),
   plan2Chk P ops flo (floatL flo) l V pend = true → vplan2 P G F call rnd ro ops flo V T0 l σ T K → VInv P G ops flo σ T T0 V R pend g w a.tmps.toList prot → GOk G g w → a.defers = ds → Evo gs ws g w → Fix ro gs Ts ws T w → ro ≤ T0.objs.length → offN R ≤ fuel →
   wpAnyIn (fenR r) 0 P .any ops (calm QQ) fuel R a w := by
 intro fuel
 induction fuel using Nat.strongRecOn with
 | _ fuel ihf =>
 intro l
 induction l with
 | nil =>
  intro V T0 pend σ T R g w a prot hp h inv hG hds hes hfx hro hfu
  have hallV : ∀ i, i < ops.size → On V i := ready_nil_on st.flow inv.vs (by simpa [plan2Chk] using hp)
  by_cases hall : ∀ i, i < ops.size → On R i
  ·refine anyIn_done (ready_nil_of hall) (hq σ T g w a h hes inv.base ⟨inv.rel.1, fun s x u hs hu => inv.rel.2 s x u hs hu fun k o hk _ => ?_⟩ hds hfx) _
   have hlt := (Array.getElem?_eq_some_iff.1 hk).1
   exact ⟨hallV k hlt, hall k hlt⟩
  ·obtain ⟨i, hi⟩ := Classical.not_forall.1 hall
   obtain ⟨hi, hn⟩ := Classical.not_imp.1 hi
   refine anyIn_wait st.flow inv.rs hi hn hfu fun n hlt j hj hoff => ?_
   obtain ⟨_, o, ho, _⟩ := mem_ready.1 hj
   exact owed_step st inv hG hj (hallV j (Array.getElem?_eq_some_iff.1 ho).1) fun g' w' a' inv' e fx hd => ihf n hlt [] V T0 pend σ T _ g' w' a' prot hp h inv' (hG.mono e) (hd.trans hds) (hes.trans e) (hfx.trans hes (fx ro)) hro hoff
 | cons p l ih =>
  intro V T0 pend σ T R g w a prot hp h inv hG hds hes hfx hro hfu
  obtain ⟨i, k⟩ := p
  -- while it waits
  have wait : ∀ (hbx : boxesOk P G ops flo V σ flo = true) {i0 : Nat} (hi0 : i0 < ops.size) (hn0 : ¬ On R i0)
    (hready : ∀ j ∈ Region.ready .any ops R, ¬ On V j → j ∉ floatL flo → ∀ n, n < fuel → offN (R.setIfInBounds j true) ≤ n → wpOpIn (fenR r) 0 P ops (calm QQ) j (wpAnyIn (fenR r) 0 P .any ops (calm QQ) n (R.setIfInBounds j true)) a w),
    wpAnyIn (fenR r) 0 P .any ops (calm QQ) fuel R a w := fun hbx i0 hi0 hn0 hready => by
   refine anyIn_wait st.flow inv.rs hi0 hn0 hfu fun n hlt j hj hoff => ?_
   by_cases hVF : On V j ∨ (¬ On V j ∧ j ∈ floatL flo)
   ·exact other_step st inv hG hbx hj hVF fun g' w' a' prot' inv' e fx hd => ihf n hlt ((i, k) :: l) V T0 pend σ T _ g' w' a' prot' hp h inv' (hG.mono e) (hd.trans hds) (hes.trans e) (hfx.trans hes (fx ro)) hro hoff
   ·have h1 : ¬ On V j := fun h => hVF (.inl h)
    exact hready j hj h1 (fun h => hVF (.inr ⟨h1, h⟩)) n hlt hoff
  cases k with
  | own =>
   simp only [plan2Chk, Bool.and_eq_true, Bool.not_eq_true'] at hp
   obtain ⟨⟨⟨hri, hnF⟩, hnd⟩, hp⟩ := hp
   have hri := inList_iff.1 hri
   have hF := inList_mem hnF
   obtain ⟨_, o, ho, _⟩ := mem_ready.1 hri
   simp only [ho] at hnd hp
   simp only [vplan2, ho] at h
   replace h := vsplit_ok h
   have hsub : ∀ k ∈ pend, k ∈ (bif isRead P o.op then i :: pend else pend) := fun k hk => by
    cases isRead P o.op
    ·exact hk
    ·exact List.mem_cons_of_mem _ hk
   have go : ∀ {y}, ((vwant ops (only ops o σ) o = some false ∧ y = .val undef) ∨ (vwant ops (only ops o σ) o = some true ∧ (OwnSem P G ⟨[], []⟩ o (only ops o σ) y ∨ (i ∈ (bif isRead P o.op then i :: pend else pend) ∧ vpure2 P o.op (vev G (only ops o σ)) = none ∧ vread2 P T0 o.op (vev G (only ops o σ)) = some y)))) →
     vplan2 P G F call rnd ro ops flo (V.setIfInBounds i true) T0 l (vput σ o.dst y) T K → wpAnyIn (fenR r) 0 P .any ops (calm QQ) fuel R a w := fun how h =>
    ih _ T0 _ _ T R g w a prot hp h (own_virt st inv ho hri hF hnd hsub how) hG hds hes hfx hro hfu
   split at h
   ·rename_i b hb
    cases b with
    | true =>
     simp only [cond_true] at h
     split at h
     ·rename_i y hy
      obtain ⟨hpu, h⟩ := h
      rcases vownT_sem hpu with h1 | ⟨h1, h2, h3⟩
      ·exact go (.inr ⟨hb, .inl h1⟩) h
      ·exact go (.inr ⟨hb, .inr ⟨by rw [h1]; exact List.mem_cons_self, h2, h3⟩⟩) h
     ·exact h.elim
     ·split at h
      ·rename_i y hy
       rcases vownE_sem hy with h1 | ⟨h1, h2, h3⟩
       ·exact go (.inr ⟨hb, .inl h1⟩) h
       ·exact go (.inr ⟨hb, .inr ⟨by rw [h1]; exact List.mem_cons_self, h2, h3⟩⟩) h
      ·exact h.elim
    | false =>
     simp only [cond_false] at h
     exact go (.inl ⟨hb, rfl⟩) h
   ·exact h.elim
  | turn pe =>
   simp only [plan2Chk, Bool.and_eq_true, Bool.not_eq_true'] at hp
   obtain ⟨⟨⟨⟨hpe, hri⟩, hnF⟩, hrd⟩, hp⟩ := hp
   have hpe := eqL_ok hpe
   subst hpe
   have hri := inList_iff.1 hri
   have hF := inList_mem hnF
   obtain ⟨hun, o, ho, _⟩ := mem_ready.1 hri
   simp only [vplan2, ho] at h
   replace h := vsplit_ok h
   split at h
   ·rename_i b hb
    cases hbx : boxesOk P G ops flo V σ flo with
    | false => rw [hbx] at h; exact h.elim
    | true =>
     rw [hbx] at h
     simp only [cond_true] at h
     have hnV := not_on hun
     have hle : T0.objs.length ≤ T.objs.length := by
      have := congrArg List.length inv.t0
      rw [List.length_take] at this; omega
     refine wait hbx (Array.getElem?_eq_some_iff.1 ho).1 (fun hR => hF (inv.rv i hR hnV)) fun j hj hVj hFj n hlt hoff => ?_
     have h1 := listed_all hrd (ready_of inv hj hVj hFj)
     simp only [Bool.or_eq_true] at h1
     rcases h1 with h1 | h1
     ·have h1 := Nat.eq_of_beq_eq_true h1
      subst h1
      have ht0T : T.takeO T0.objs.length = ⟨T0.objs, T.tails⟩ := by unfold VT.takeO; rw [inv.t0]
      refine turn_step st inv hG ho hj hri hF hb (ro := ro) (X := fun σ' T' => (∀ k ok y, k ∈ pe → ops[k]? = some ok → vwant ops (only ops ok σ) ok = some true → vpure2 P ok.op (vev G (only ops ok σ)) = none → vread2 P T0 ok.op (vev G (only ops ok σ)) = some y → vread2 P (T'.takeO T0.objs.length) ok.op (vev G (only ops ok σ)) = some y) ∧ vplan2 P G F call rnd ro ops flo (V.setIfInBounds j true) (T'.takeO T0.objs.length) l σ' T' K)
       (fun hbt => ?_) (fun hbf => ?_) (pend' := pe) (fun T' => T'.takeO T0.objs.length) (fun σ' T' w' g' hX fx e => ?_) (fun σ' T' k ok y hX h1 h2 _ h3 h4 h5 => ⟨h1, hX.1 k ok y h1 h2 h3 h4 h5⟩) fun σ' T' g' w' a' hX inv' e fx hd => ihf n hlt l _ _ pe σ' T' _ g' w' a' prot hp hX.2 inv' (hG.mono e) (hd.trans hds) (hes.trans e) (hfx.trans hes fx) (by
        have := fx.len
        simp only [VT.takeO, List.length_take]; omega) hoff
      ·rw [hbt] at h
       simp only [cond_true] at h
       refine VPi.mono (vopI_ok hc hrr h) fun s T' hk => ?_
       obtain ⟨hsame, hk⟩ := turnK hk
       refine ⟨fun k ok y hk hok hwk hpu hrd => ?_, hk⟩
       rcases hsame with hsame | hsame
       ·exact pendProp_at hsame hk hok hwk hpu hrd
       ·exact pendSame_at hsame hk hok hwk hpu hrd
      ·rw [hbf] at h
       simp only [cond_false] at h
       exact ⟨fun k ok y _ _ _ _ hrd => vread2_mono (T0 := T0) (T := T.takeO T0.objs.length) (by rw [ht0T]; simp) hrd, h⟩
      ·simp only [VT.takeO, List.length_take]
       rw [List.take_eq_take_iff]
       omega
     ·exact absurd (inList_iff.1 h1) hFj
   ·exact h.elim
  | bar =>
   simp only [plan2Chk, Bool.and_eq_true, Bool.not_eq_true'] at hp
   obtain ⟨⟨⟨⟨hri, hnF⟩, hrd⟩, hanc⟩, hp⟩ := hp
   have hri := inList_iff.1 hri
   have hF := inList_mem hnF
   obtain ⟨hun, o, ho, _⟩ := mem_ready.1 hri
   simp only [vplan2, ho] at h
   replace h := vsplit_ok h
   split at h
   ·rename_i b hb
    cases hbx : boxesOk P G ops flo V σ flo with
    | false => rw [hbx] at h; exact h.elim
    | true =>
     rw [hbx] at h
     simp only [cond_true] at h
     have hnV := not_on hun
     have hle : T0.objs.length ≤ T.objs.length := by
      have := congrArg List.length inv.t0
      rw [List.length_take] at this; omega
     refine wait hbx (Array.getElem?_eq_some_iff.1 ho).1 (fun hR => hF (inv.rv i hR hnV)) fun j hj hVj hFj n hlt hoff => ?_
     have h1 := listed_all hrd (ready_of inv hj hVj hFj)
     simp only [Bool.or_eq_true] at h1
     rcases h1 with h1 | h1
     ·have h1 := Nat.eq_of_beq_eq_true h1
      subst h1
      obtain ⟨_, oj, hoj, hdep⟩ := mem_ready.1 hj
      have hpe : ∀ k ∈ pend, On R k := fun k hk => anc_listed inv.cr ops.size j k (List.all_eq_true.1 hanc k hk) fun o' ho' e he hbb => by
       rw [hoj] at ho'; injection ho' with ho'; subst ho'; exact hdep e he hbb
      refine turn_step st inv hG ho hj hri hF hb (X := fun σ' T' => vplan2 P G F call rnd ro ops flo (V.setIfInBounds j true) T' l σ' T' K) (fun hbt => vopI_ok hc hrr (by rw [hbt] at h; exact h)) (fun hbf => by rw [hbf] at h; exact h) (pend' := []) (fun T' => T') (fun σ' T' w' g' _ fx e => by simp) (fun _ _ k ok y _ h1 _ h2 _ _ _ => absurd (hpe k h1) h2) fun σ' T' g' w' a' hX inv' e fx hd => ihf n hlt l _ T' [] σ' T' _ g' w' a' prot hp hX inv' (hG.mono e) (hd.trans hds) (hes.trans e) (hfx.trans hes fx) (Nat.le_trans (Nat.le_trans hro hle) fx.len) hoff
     ·exact absurd (inList_iff.1 h1) hFj
   ·exact h.elim
  | put pe =>
   simp only [plan2Chk, Bool.and_eq_true, Bool.not_eq_true'] at hp
   obtain ⟨⟨⟨⟨hpe, hri⟩, hnF⟩, hrd⟩, hp⟩ := hp
   have hpe := eqL_ok hpe
   subst hpe
   have hri := inList_iff.1 hri
   have hF := inList_mem hnF
   obtain ⟨hun, o, ho, _⟩ := mem_ready.1 hri
   simp only [vplan2, ho] at h
   replace h := vsplit_ok h
   split at h
   ·rename_i b hb
    cases hbx : boxesOk P G ops flo V σ flo with
    | false => rw [hbx] at h; exact h.elim
    | true =>
     rw [hbx] at h
     simp only [cond_true] at h
     have hnV := not_on hun
     have hle : T0.objs.length ≤ T.objs.length := by
      have := congrArg List.length inv.t0
      rw [List.length_take] at this; omega
     refine wait hbx (Array.getElem?_eq_some_iff.1 ho).1 (fun hR => hF (inv.rv i hR hnV)) fun j hj hVj hFj n hlt hoff => ?_
     have h1 := listed_all hrd (ready_of inv hj hVj hFj)
     simp only [Bool.or_eq_true] at h1
     rcases h1 with h1 | h1
     ·have h1 := Nat.eq_of_beq_eq_true h1
      subst h1
      have ht0T : T.takeO T0.objs.length = ⟨T0.objs, T.tails⟩ := by unfold VT.takeO; rw [inv.t0]
      refine turn_step st inv hG ho hj hri hF hb (ro := ro) (X := fun σ' T' => (T'.objs.length = T.objs.length ∧ ∀ k ok y, k ∈ pe → ops[k]? = some ok → vwant ops (only ops ok σ) ok = some true → vpure2 P ok.op (vev G (only ops ok σ)) = none → vread2 P T0 ok.op (vev G (only ops ok σ)) = some y → vread2 P (T'.takeO T0.objs.length) ok.op (vev G (only ops ok σ)) = some y) ∧ vplan2 P G F call rnd ro ops flo (V.setIfInBounds j true) (T'.takeO T0.objs.length) l σ' T' K)
       (fun hbt => ?_) (fun hbf => ?_) (pend' := pe) (fun T' => T'.takeO T0.objs.length) (fun σ' T' w' g' hX fx e => ?_) (fun σ' T' k ok y hX h1 h2 _ h3 h4 h5 => ⟨h1, hX.1.2 k ok y h1 h2 h3 h4 h5⟩) fun σ' T' g' w' a' hX inv' e fx hd => ihf n hlt l _ _ pe σ' T' _ g' w' a' prot hp hX.2 inv' (hG.mono e) (hd.trans hds) (hes.trans e) (hfx.trans hes fx) (by
        have := hX.1.1
        simp only [VT.takeO, List.length_take]; omega) hoff
      ·rw [hbt] at h
       simp only [cond_true] at h
       split at h
       ·rename_i t ad x hop
        split at h
        ·rename_i id off new had hnew
         split at h
         ·rename_i T1 hT1
          obtain ⟨hpa, h⟩ := cond_false_elim h
          obtain ⟨hag, hlen⟩ := put_agree hnew hT1
          refine VPi.of (by rw [hop]; rfl) fun g w ρ r hρ => ?_
          have hax := hρ ad
          rw [had] at hax
          obtain ⟨g', w', k1, k2, k3, k4, k5⟩ := vput3_ok (P := P) r hT1 hax (hρ x)
          refine ⟨.skip, undef, g', w', .val undef, T1, ?_, rfl, ⟨⟨hlen, fun k ok y hk hok hwk hpu hrd => ?_⟩, h⟩, k2, k3, k4, k5⟩
          ·obtain ⟨dst, op, ty, pos, af, gd⟩ := o
           simp only at hop; subst hop
           simp [execOp, k1]
          ·have hap := pendApart_at hpa hk hok hwk hpu
           have h6 : vread2 P (T.takeO T0.objs.length) ok.op (vev G (only ops ok σ)) = some y := vread2_mono (T0 := T0) (T := T.takeO T0.objs.length) (by rw [ht0T]; simp) hrd
           rw [← apart_read (AgreeOut.take hag) hap]; exact h6
         ·exact h.elim
        ·exact h.elim
       ·exact h.elim
      ·rw [hbf] at h
       simp only [cond_false] at h
       refine ⟨⟨rfl, fun k ok y _ _ _ _ hrd => vread2_mono (T0 := T0) (T := T.takeO T0.objs.length) (by rw [ht0T]; simp) hrd⟩, h⟩
      ·simp only [VT.takeO, List.length_take, List.take_take, Nat.min_self]
       congr 1
       omega
     ·exact absurd (inList_iff.1 h1) hFj
   ·exact h.elim
  | late =>
   simp only [plan2Chk, Bool.and_eq_true] at hp
   obtain ⟨⟨⟨hfl, hri⟩, hrd⟩, hp⟩ := hp
   have hri := inList_iff.1 hri
   obtain ⟨hun, o, ho, _⟩ := mem_ready.1 hri
   have hf : (i, none) ∈ flo := by
    obtain ⟨q, hq, h1⟩ := List.any_eq_true.1 hfl
    simp only [Bool.and_eq_true] at h1
    obtain ⟨q1, q2⟩ := q
    have h2 := Nat.eq_of_beq_eq_true h1.1
    simp only at h2
    subst h2
    cases q2 with
    | none => exact hq
    | some _ => cases h1.2
   simp only [vplan2, ho] at h
   split at h
   ·rename_i y T' hy
    cases hbx : boxesOk P G ops flo V σ flo with
    | false => rw [hbx] at h; exact h.elim
    | true =>
     rw [hbx] at h
     simp only [cond_true] at h
     have hnV := not_on hun
     by_cases hR : On R i
     ·obtain ⟨o', d, b, h1, h2, h3, blk, f, vo, mk, h4, h5, h6, h7⟩ := inv.flt i none hf hR hnV
      rw [ho] at h1; injection h1 with h1; subst h1
      have h8 := h5 T
      rw [hy] at h8; injection h8 with h8; injection h8 with h8 h9; subst h8 h9
      have hlt := (Array.getElem?_eq_some_iff.1 ho).1
      obtain ⟨g', prot', inv', e⟩ := float_virt (V' := V.setIfInBounds i true) (y := mk T.objs.length) st inv ho hf hri hR (fun j hj => by cases hj) (fun k => ⟨fun h => by
        by_cases hik : i = k
        ·exact .inl (.inl hik.symm)
        ·exact .inr (on_set_ne hik h), fun h => by
        rcases h with (h | h) | h
        ·subst h; exact on_self (by rw [inv.vs]; exact hlt)
        ·cases h
        ·exact on_set h⟩) (by simpa using inv.vs) (inv.cv.set hri) h3 h4.live (h4.or g w b h6) (fun d' u hd' hu g' hg' => by
        rw [h2] at hd'; injection hd' with hd'; subst hd'
        rw [h7 u hu]
        exact h4.vr g' w _ b hg' (inv.pr i b h3).2.2.2.2.2 h6)
      exact ih _ T0 pend _ _ R g' w a prot' hp h inv' (hG.mono e) hds (hes.trans e) (hfx.trans hes fix_app) hro hfu
     ·refine wait hbx (Array.getElem?_eq_some_iff.1 ho).1 hR fun j hj hVj hFj n hlt hoff => ?_
      exact absurd (inList_iff.1 (listed_all hrd (ready_rem inv hR hj hVj hFj))) hFj
   ·exact h.elim
  | box j =>
   simp only [plan2Chk, Bool.and_eq_true] at hp
   obtain ⟨⟨⟨⟨hfl, hri⟩, hdj⟩, hrd⟩, hp⟩ := hp
   have hri := inList_iff.1 hri
   obtain ⟨hun, o, ho, _⟩ := mem_ready.1 hri
   have hf : (i, some j) ∈ flo := by
    obtain ⟨q, hq, h1⟩ := List.any_eq_true.1 hfl
    simp only [Bool.and_eq_true] at h1
    obtain ⟨q1, q2⟩ := q
    have h2 := Nat.eq_of_beq_eq_true h1.1
    simp only at h2
    subst h2
    cases q2 with
    | none => cases h1.2
    | some j' =>
     have := Nat.eq_of_beq_eq_true h1.2
     subst this; exact hq
   obtain ⟨o', ho', hlate, hbox⟩ := st.at hf
   rw [ho] at ho'; injection ho' with ho'; subst ho'
   obtain ⟨oj, hoj, hib, ⟨e1, he1, hb1, hon1⟩, _⟩ := hbox j rfl
   simp only [vplan2, ho, hoj] at h
   split at h
   ·rename_i y T' hy
    cases hbx : boxesOk P G ops flo V σ flo with
    | false => rw [hbx] at h; exact h.elim
    | true =>
     rw [hbx] at h
     simp only [cond_true] at h
     have hnV := not_on hun
     have hlt := (Array.getElem?_eq_some_iff.1 ho).1
     have hltj := (Array.getElem?_eq_some_iff.1 hoj).1
     by_cases hR : On R i ∧ On R j
     ·obtain ⟨hR, hRj⟩ := hR
      obtain ⟨o', d, b, h1, h2, h3, oj', t, us, inf, h4, h5, h6, h7, h8, h9, h10⟩ := inv.flt i (some j) hf hR hnV
      rw [ho] at h1; injection h1 with h1; subst h1
      rw [hoj] at h4; injection h4 with h4; subst h4
      obtain ⟨new, k1, k2, k3⟩ := h10 hRj
      unfold vboxMk at hy
      rw [k1] at hy
      injection hy with hy; injection hy with hy1 hy2; subst hy1 hy2
      have hji : i < j := by
       have := (flowOk_spec st.flow hoj).1 e1 he1 hb1
       omega
      obtain ⟨g', prot', inv', e⟩ := float_virt (V' := (V.setIfInBounds i true).setIfInBounds j true) (y := .ptr T.objs.length 0) (vo := .cells new) st inv ho hf hri hR (fun j' hj' => by injection hj' with hj'; subst hj'; exact hRj) (fun k => ⟨fun h => by
        by_cases hjk : j = k
        ·exact .inl (.inr (by rw [hjk]))
        ·have h := on_set_ne hjk h
         by_cases hik : i = k
         ·exact .inl (.inl hik.symm)
         ·exact .inr (on_set_ne hik h), fun h => by
        rcases h with (h | h) | h
        ·subst h; exact on_set (on_self (by rw [inv.vs]; exact hlt))
        ·injection h with h; subst h; exact on_self (by simp [inv.vs]; exact hltj)
        ·exact on_set (on_set h)⟩) (by simpa using inv.vs) (by
        have hc1 := inv.cv.set hri
        intro k ok hk hon e he hb
        by_cases hjk : j = k
        ·subst hjk
         rw [hoj] at hk; injection hk with hk; subst hk
         refine on_set ?_
         unfold depsIn at hdj
         rw [hoj] at hdj
         have := List.all_eq_true.1 hdj e (Array.mem_toList_iff.2 he)
         rw [hb] at this
         simpa only [Bool.not_true, Bool.false_or] using this
        ·exact on_set (hc1 k ok hk (on_set_ne hjk hon) e he hb)) h3 rfl ⟨us, t, h5, k2, k3⟩ (fun d' u hd' hu g' hg' => by
        rw [h2] at hd'; injection hd' with hd'; subst hd'
        rw [h6 u hu]
        exact .ptr hg')
      exact ih _ T0 pend _ _ R g' w a prot' hp h inv' (hG.mono e) hds (hes.trans e) (hfx.trans hes fix_app) hro hfu
     ·have hn : ∃ i0, i0 < ops.size ∧ ¬ On R i0 := by
       by_cases h1 : On R i
       ·exact ⟨j, hltj, fun h2 => hR ⟨h1, h2⟩⟩
       ·exact ⟨i, hlt, h1⟩
      obtain ⟨i0, hi0, hn0⟩ := hn
      have hnj : ¬ On R j := fun h => by
       have hRi := inv.cr j oj hoj h e1 he1 hb1
       rw [hon1] at hRi
       exact hR ⟨hRi, h⟩
      refine wait hbx hi0 hn0 fun j' hj hVj hFj n hlt hoff => ?_
      exact absurd (inList_iff.1 (listed_all hrd (ready_rem inv hnj hj hVj hFj))) hFj
   ·exact h.elim
theorem cond_some {α : Type} {b : Bool} {x y : α} (h : cond b (some x) none = some y) : b = true ∧ x = y := by
 cases b with
 | false => cases h
 | true => injection h with h; exact ⟨rfl, h⟩
theorem VInv.start (hσ : VRs g w σ a.tmps.toList) (hr : RW g T w) : VInv P G ops flo σ T T (Array.replicate ops.size false) (Array.replicate ops.size false) [] g w a.tmps.toList fun _ => none := by
 have hoff : ∀ k, ¬ On (Array.replicate ops.size false) k := fun k h => by
  unfold On at h
  rw [Array.getD_eq_getD_getElem?, Array.getElem?_replicate] at h
  split at h <;> simp at h
 refine ⟨by simp, by simp, fun k o _ hk => absurd hk (hoff k), fun k o _ hk => absurd hk (hoff k), fun k hk => absurd hk (hoff k), fun k _ hk => absurd hk (hoff k), fun i j _ => ⟨fun h => absurd h (hoff i), fun h => absurd h (hoff j)⟩, ⟨hσ.1, fun s x u hs hu _ => hσ.2 s x u hs hu⟩, fun k o _ hk => absurd hk (hoff k), fun i jo _ hk => absurd hk (hoff i), fun k b hk => (by cases hk), fun i j b h => (by cases h), ?_, List.take_length⟩
 refine hr.lessFr rfl rfl rfl fun b hb => ?_
 rcases hb with hb | ⟨k, hk⟩
 ·exact hb
 ·cases hk
theorem plan2All_ok {p : List (Nat × FK)} (h : plan2All P ops = some p) : Region.noSelect ops = true ∧ VStat P ops (flos P ops) ∧ plan2Chk P ops (flos P ops) (floatL (flos P ops)) p (Array.replicate ops.size false) [] = true := by
 unfold plan2All plan2With plan2By at h
 obtain ⟨hb, h⟩ := cond_some h
 simp only [Bool.and_eq_true] at hb
 subst h
 obtain ⟨⟨⟨⟨⟨⟨h1, h2⟩, h3⟩, h4⟩, h5⟩, h6⟩, h7⟩ := hb
 exact ⟨h1, ⟨h2, onceF_ok h2 h3, h4, h6⟩, plan2ChkF_ok h2 (ltAllN_ok h5) _ _ _ _ (MaskOk.zero _) h7⟩
end
end Go.Proofs.YtogbdjlelkepcaaGreatDoor
namespace Go.Proofs.YtogbdjlelkepcaaGreatDoor
open Go.RowKit

section
variable {P : Program} {F : Fence} {n : Nat} {ops : Array Oper}
def lastOk (ops : Array Oper) (t : Oper) : Prop := ∀ j, (edgesM t.after.toList).testBit j = decide (j < ops.size)
theorem lastOk_of {t : Oper} (h : Nat.beq (edgesM t.after.toList) (2 ^ ops.size - 1) = true) : lastOk ops t := by
 intro j
 rw [Nat.eq_of_beq_eq_true h, Nat.testBit_two_pow_sub_one]
theorem ready_pushL {t : Oper} (hf : flowOk ops = true) (ht : lastOk ops t) {listed : Array Bool} (hsz : listed.size = ops.size) {i : Nat} (hi : i ∈ Region.ready .any (ops.push t) (listed.push false)) :
  (i < ops.size ∧ i ∈ Region.ready .any ops listed) ∨ (i = ops.size ∧ ∀ j, j < ops.size → listed.getD j false = true) := by
 obtain ⟨hun, o, ho, hed⟩ := mem_ready.1 hi
 have hi' : i < (ops.push t).size := (Array.getElem?_eq_some_iff.1 ho).1
 rw [Array.size_push] at hi'
 rw [Array.getElem?_push] at ho
 by_cases h : i = ops.size
 ·right
  refine ⟨h, fun j hj => ?_⟩
  rw [if_pos h] at ho
  obtain rfl : t = o := Option.some.inj ho
  obtain ⟨e, he, hb, hon⟩ := (edgesM_test _ _).1 ((ht j).trans (decide_eq_true hj))
  have h2 := hed e (Array.mem_toList_iff.1 he) hb
  rw [hon, getD_push_lt _ _ (by omega)] at h2
  exact h2
 ·left
  rw [if_neg h] at ho
  have hlt' : i < ops.size := by omega
  refine ⟨hlt', mem_ready.2 ⟨by rw [getD_push_lt _ _ (by omega)] at hun; exact hun, o, ho, fun e he hb => ?_⟩⟩
  have h1 := (flowOk_spec hf ho).1 e he hb
  have h2 := hed e he hb
  rwa [getD_push_lt _ _ (by omega)] at h2
theorem wpIn_calm {o : Oper} {a : Act} {w : World} {K : Act → World → Prop} {Q1 Q2 : Act → World → Prop} (hh : o.wpIn F n P a w K (calm Q1)) : o.wpIn F n P a w K (calm Q2) := by
 unfold Oper.wpIn at *
 refine ⟨hh.1, ?_⟩
 have hh := hh.2
 generalize (o.semAt F.round a.eval).run P w = r at *
 have hl : ∀ {Q : Act → World → Prop}, LetsOut (calm Q) → False := fun h => by
  obtain ⟨a₀, w₀, h₀⟩ := h; exact h₀
 cases r with
 | ok x w' =>
  cases x <;> simp only [Oper.uponIn] at hh ⊢ <;>
   first
    | exact hh
    | exact ⟨hh.1, CallsIn.mono hh.2 (fun e w'' he => by cases e <;> first | exact he | exact (hl he).elim)⟩
    | exact ⟨hh.1, RoundIn.mono hh.2 (fun e w'' he => by cases e <;> first | exact he | exact (hl he).elim)⟩
 | halt x w' => cases x <;> simp only [Oper.uponIn] at hh ⊢ <;> exact hh.elim
theorem anyIn_tail {t : Oper} (hf : flowOk ops = true) (ht : lastOk ops t) {Q : Act → World → Prop} :
    ∀ (fuel : Nat) (listed : Array Bool) (a : Act) (w : World), listed.size = ops.size →
      wpAnyIn F n P .any ops (calm fun a w => wpOpIn F n P (ops.push t) (calm Q) ops.size Q a w) fuel listed a w →
      wpAnyIn F n P .any (ops.push t) (calm Q) (fuel + 1) (listed.push false) a w := by
  have hdone : ∀ (listed : Array Bool), listed.size = ops.size → (∀ j, j < ops.size → listed.getD j false = true) →
      Region.ready .any (ops.push t) ((listed.push false).setIfInBounds ops.size true) = [] := by
    intro listed hsz hall
    apply List.eq_nil_iff_forall_not_mem.2
    intro i hi
    obtain ⟨hun, o, ho, _⟩ := mem_ready.1 hi
    have hi' : i < (ops.push t).size := (Array.getElem?_eq_some_iff.1 ho).1
    rw [Array.size_push] at hi'
    have : ((listed.push false).setIfInBounds ops.size true).getD i true = true := by
      by_cases h : i = ops.size
      · subst h
        simp
      · rw [getD_set_ne true (Ne.symm h), getD_push_lt _ _ (by omega)]
        have h3 := hall i (by omega)
        have hb : i < listed.size := by omega
        simp [hb] at h3 ⊢; exact h3
    rw [this] at hun
    cases hun
  have hlast : ∀ (fuel : Nat) (listed : Array Bool) (a : Act) (w : World), listed.size = ops.size → (∀ j, j < ops.size → listed.getD j false = true) →
      wpOpIn F n P (ops.push t) (calm Q) ops.size Q a w → wpOpIn F n P (ops.push t) (calm Q) ops.size (wpAnyIn F n P .any (ops.push t) (calm Q) fuel ((listed.push false).setIfInBounds ops.size true)) a w := by
    intro fuel listed a w hsz hall h
    refine wpOpIn_mono (fun a' w' hq => ?_) h
    cases fuel with
    | zero => exact ⟨hdone listed hsz hall, hq⟩
    | succ k => exact ⟨fun _ => hq, fun i hi => by rw [hdone listed hsz hall] at hi; cases hi⟩
  have hnot : ∀ (listed : Array Bool), listed.size = ops.size → (∀ j, j < ops.size → listed.getD j false = true) → ops.size ∈ Region.ready .any (ops.push t) (listed.push false) := by
    intro listed hsz hall
    refine mem_ready.2 ⟨?_, t, by simp, fun e he hb => ?_⟩
    · simp [← hsz]
    · have h1 := (edgesM_test t.after.toList e.on).2 ⟨e, Array.mem_toList_iff.2 he, hb, rfl⟩
      rw [ht] at h1
      have h1 := of_decide_eq_true h1
      rw [getD_push_lt _ _ (by omega)]
      exact hall e.on h1
  intro fuel
  induction fuel with
  | zero =>
    intro listed a w hsz h
    have hall := all_listed hf hsz h.1
    refine ⟨fun h0 => ?_, fun i hi => ?_⟩
    · have := hnot listed hsz hall
      rw [h0] at this; cases this
    · rcases ready_pushL hf ht hsz hi with ⟨h1, h2⟩ | ⟨rfl, h2⟩
      · rw [h.1] at h2; cases h2
      · exact hlast 0 listed a w hsz hall h.2
  | succ fuel ih =>
    intro listed a w hsz h
    refine ⟨fun h0 => ?_, fun i hi => ?_⟩
    · have hr : Region.ready .any ops listed = [] := by
        apply List.eq_nil_iff_forall_not_mem.2
        intro i hi
        have hi2 : i ∈ Region.ready .any (ops.push t) (listed.push false) := by
          obtain ⟨hun, o, ho, hed⟩ := mem_ready.1 hi
          have hlt : i < ops.size := (Array.getElem?_eq_some_iff.1 ho).1
          refine mem_ready.2 ⟨by rw [getD_push_lt _ _ (by omega)]; exact hun, o, by rw [Array.getElem?_push, if_neg (by omega)]; exact ho, fun e he hb => ?_⟩
          have := (flowOk_spec hf ho).1 e he hb
          rw [getD_push_lt _ _ (by omega)]
          exact hed e he hb
        rw [h0] at hi2; cases hi2
      have := hnot listed hsz (all_listed hf hsz hr)
      rw [h0] at this; cases this
    · rcases ready_pushL hf ht hsz hi with ⟨h1, h2⟩ | ⟨rfl, h2⟩
      · have h3 := h.2 i h2
        obtain ⟨_, o, ho, _⟩ := mem_ready.1 h2
        rw [set_push (by omega)]
        unfold wpOpIn at h3 ⊢
        rw [Array.getElem?_push, if_neg (by omega)]
        simp only [ho] at h3 ⊢
        rw [wanted_push hf t ho]
        split at h3
        · rename_i hw
          rw [if_pos hw]
          exact wpIn_calm (Oper.wpIn_mono (fun a' w' hq => ih (listed.setIfInBounds i true) a' w' (by simpa using hsz) hq) h3)
        · rename_i hw
          rw [if_neg hw]
          exact ⟨h3.1, ih (listed.setIfInBounds i true) _ w (by simpa using hsz) h3.2⟩
      · have hr : Region.ready .any ops listed = [] := by
          apply List.eq_nil_iff_forall_not_mem.2
          intro j hj
          obtain ⟨hun, o, ho, _⟩ := mem_ready.1 hj
          have hlt : j < ops.size := (Array.getElem?_eq_some_iff.1 ho).1
          have h3 := h2 j hlt
          have hb : j < listed.size := by omega
          simp [hb] at h3 hun
          rw [h3] at hun; cases hun
        exact hlast _ listed a w hsz h2 (h.1 hr)
theorem replicate_push (n : Nat) : Array.replicate (n + 1) false = (Array.replicate n false).push false := Array.replicate_succ
end
end Go.Proofs.YtogbdjlelkepcaaGreatDoor
namespace Go.Proofs.YtogbdjlelkepcaaGreatDoor
open Go.RowKit

section
variable {P : Program} {G : Globs} {F : Ora}
theorem Fix.of_min {ro : Nat} {g : Gh} {T T' : VT} {w w' : World} (h : Fix (min ro T.objs.length) g T w T' w') : Fix ro g T w T' w' :=
 ⟨h.len, fun i hi hl => h.same i (by omega) hl, fun i o b hi ho => h.heap i o b (by have := (List.getElem?_eq_some_iff.1 ho).1; omega) ho⟩
theorem planOld_some {ops : Array Oper} {p : List (Oper × PK)} (h : planOld P ops = some p) : planAll P ops = some p := by
 unfold planOld at h
 split at h
 ·rename_i q hq
  cases hb : (hasK2 q && (plan2All P ops).isSome) with
  | true => rw [hb] at h; cases h
  | false => rw [hb] at h; rw [hq]; exact h
 ·cases h
theorem planSel_some {ops : Array Oper} {p : List (Oper × PK)} (h : planSel P F ops = some p) : planAll P ops = some p := by
 unfold planSel at h
 cases hb : (F ⟨some 999999, .move (.tmp 0), 0, "", #[], none⟩ [] ⟨[], []⟩).isSome with
 | true => rw [hb] at h; exact h
 | false =>
  rw [hb, cond_false] at h
  cases hs : Nat.ble ops.size 12 with
  | true => rw [hs] at h; exact planOld_some h
  | false => rw [hs] at h; cases h
theorem vdraw_ok {call : Callee0} {rnd : Round0} (hc : CalleeOk P G call) (hrr : RoundOk P G rnd) (hm : P.follows .mixedOrders = true) {rd : Option Nat} {ro id : Nat} {ops : Array Oper} {σ : List TV} {T : VT} {D : List Nat} {Q : KX}
  (h : vdraw P G F call rnd ro ops σ T fun σ T => Q .normal σ T D) : VWx P G rd ro (.region id ops true) σ T D Q := by
 intro r g w a rw0 hG hσ hd hD hrd
 unfold vdraw at h
 cases hb : noDefers ops with
 | false => rw [hb] at h; exact h.elim
 | true =>
  rw [hb] at h
  simp only [cond_true] at h
  have hnd : ∀ (j : Nat) o, ops[j]? = some o → notDefer o.op = true := fun j o ho => by
   obtain ⟨hlt, he⟩ := Array.getElem?_eq_some_iff.1 ho
   exact List.all_eq_true.1 hb o (by rw [← he]; exact Array.mem_toList_iff.2 (Array.getElem_mem hlt))
  have old : ∀ p, planAll P ops = some p → vplan P G F call rnd ro ops T false p σ T (fun σ T => Q .normal σ T D) → (Code.region id ops true).wpIn (fenR r) 0 P (fun e a' w' => ∃ g' σ' T' D', Q e σ' T' D' ∧ Evo g w g' w' ∧ RW g' T' w' ∧ VRs g' w' σ' a'.tmps.toList ∧ a'.defers = D'.map (mk g') ∧ (∀ id ∈ D', (g'.obj id).isSome = true) ∧ Fix ro g T w T' w') a w := fun p hp h => by
   unfold planAll at hp
   split at hp
   ·rename_i pl hpl
    cases hk : (Region.noSelect ops && Nat.beq pl.length ops.size && planChk ops pl (Array.replicate ops.size false)) with
    | false => rw [hk] at hp; cases hp
    | true =>
     rw [hk] at hp
     simp only [Bool.and_eq_true] at hk
     obtain ⟨⟨hns, hlen⟩, hchk⟩ := hk
     have hlen := Nat.eq_of_beq_eq_true hlen
     injection hp with hp; subst hp
     have e0 := Evo.of_gr rw0 (Gr.refl w).drew
     have f0 : Fix (min ro T.objs.length) g T w T w.drew := Fix.of_same (Same.of_gr rw0 (Gr.refl w).drew) List.take_length
     have r1 : RW g T w.drew := rw0.drew
     have key := vplan_ok (r := r) hc hrr hnd (Region.noSelect_spec hns) (Nat.min_le_left ro T.objs.length) (K := fun σ T => Q .normal σ T D) (gs := g) (Ts := T) (ws := w) (ds := a.defers)
      (QQ := fun a' w' => ∃ g' σ' T' D', Q .normal σ' T' D' ∧ Evo g w g' w' ∧ RW g' T' w' ∧ VRs g' w' σ' a'.tmps.toList ∧ a'.defers = D'.map (mk g') ∧ (∀ id ∈ D', (g'.obj id).isSome = true) ∧ Fix ro g T w T' w')
      (fun σ' T' g' w' a' hk e r' hσ' hd' hx => ⟨g', σ', T', D, hk, e, r', hσ', by rw [hd', hd, mk_evo e hD], isSome_evo e hD, hx.of_min⟩)
      pl (Array.replicate ops.size false) T false σ T hchk h g w.drew g w.drew a r1 (hG.mono e0) r1 (hσ.mono e0) rfl (Evo.refl _ _) (Same.refl _ _ _) List.take_length (fun _ => ⟨rfl, rfl, rfl⟩) e0 f0 (Nat.min_le_right _ _)
      (fun k o _ hk => absurd hk (by
       rw [Array.getD_eq_getD_getElem?, Array.getElem?_replicate]
       split <;> simp)) (by simp)
     rw [hlen] at key
     refine wpIn_mono (wpIn_region_any hm (anyIn_of_S _ _ _ _ key)) ?_
     intro e a' w' hq
     cases e <;> first | exact hq | exact hq.elim
   ·cases hp
  split at h
  ·rename_i p hp
   exact old p (planSel_some hp) h
  ·split at h
   ·rename_i p hp
    obtain ⟨hns, st, hchk⟩ := plan2All_ok hp
    have e0 := Evo.of_gr rw0 (Gr.refl w).drew
    have f0 : Fix (min ro T.objs.length) g T w T w.drew := Fix.of_same (Same.of_gr rw0 (Gr.refl w).drew) List.take_length
    have r1 : RW g T w.drew := rw0.drew
    have key := vplan2_ok (r := r) hc hrr st (K := fun σ T => Q .normal σ T D) (gs := g) (Ts := T) (ws := w) (ds := a.defers)
     (QQ := fun a' w' => ∃ g' σ' T' D', Q .normal σ' T' D' ∧ Evo g w g' w' ∧ RW g' T' w' ∧ VRs g' w' σ' a'.tmps.toList ∧ a'.defers = D'.map (mk g') ∧ (∀ id ∈ D', (g'.obj id).isSome = true) ∧ Fix ro g T w T' w')
     (fun σ' T' g' w' a' hk e r' hσ' hd' hx => ⟨g', σ', T', D, hk, e, r', hσ', by rw [hd', hd, mk_evo e hD], isSome_evo e hD, hx.of_min⟩)
     ops.size p (Array.replicate ops.size false) T [] σ T (Array.replicate ops.size false) g w.drew a (fun _ => none) hchk h (VInv.start (hσ.mono e0) r1) (hG.mono e0) rfl e0 f0 (Nat.min_le_right _ _) (by
      unfold offN
      rw [Array.toList_replicate]
      exact Nat.le_trans List.count_le_length (by simp))
    refine wpIn_mono (wpIn_region_any hm key) ?_
    intro e a' w' hq
    cases e <;> first | exact hq | exact hq.elim
   ·split at h
    ·rename_i p hp
     exact old p hp h
    ·split at h
     ·rename_i t p hl hp
      obtain ⟨ys, hys⟩ := List.getLast?_eq_some_iff.1 hl
      obtain rfl : ops = ys.toArray.push t := by
       have := congrArg List.toArray hys
       simpa using this
      have hcut : (ys.toArray.push t).toList.dropLast.toArray = ys.toArray := by simp
      rw [hcut] at hp h
      cases hb2 : (t.guard.isNone && Nat.beq (edgesM t.after.toList) (2 ^ ys.toArray.size - 1)) with
      | false => rw [hb2] at h; exact h.elim
      | true =>
       rw [hb2] at h
       simp only [cond_true] at h
       simp only [Bool.and_eq_true] at hb2
       obtain ⟨hgd, hlast⟩ := hb2
       obtain ⟨hns, st, hchk⟩ := plan2All_ok hp
       have e0 := Evo.of_gr rw0 (Gr.refl w).drew
       have f0 : Fix (min ro T.objs.length) g T w T w.drew := Fix.of_same (Same.of_gr rw0 (Gr.refl w).drew) List.take_length
       have r1 : RW g T w.drew := rw0.drew
       have key := vplan2_ok (r := r) hc hrr st (K := fun σ' T' => vopI P G F call rnd (min ro T.objs.length) t σ' T' fun σ T => Q .normal σ T D) (gs := g) (Ts := T) (ws := w) (ds := a.defers)
        (QQ := fun a' w' => wpOpIn (fenR r) 0 P (ys.toArray.push t) (calm fun a' w' => ∃ g' σ' T' D', Q .normal σ' T' D' ∧ Evo g w g' w' ∧ RW g' T' w' ∧ VRs g' w' σ' a'.tmps.toList ∧ a'.defers = D'.map (mk g') ∧ (∀ id ∈ D', (g'.obj id).isSome = true) ∧ Fix ro g T w T' w') ys.toArray.size
         (fun a' w' => ∃ g' σ' T' D', Q .normal σ' T' D' ∧ Evo g w g' w' ∧ RW g' T' w' ∧ VRs g' w' σ' a'.tmps.toList ∧ a'.defers = D'.map (mk g') ∧ (∀ id ∈ D', (g'.obj id).isSome = true) ∧ Fix ro g T w T' w') a' w')
        (fun σ' T' g' w' a' hk e r' hσ' hd' hx => by
         unfold wpOpIn
         have hw : Region.wanted t (yielded (ys.toArray.push t) a'.tmps) = true := by
          unfold Region.wanted
          rw [Option.isNone_iff_eq_none.1 hgd]
         simp only [Array.getElem?_push, if_true, hw]
         exact vopI_ok hc hrr hk r g' w' a' _ _ r' (hG.mono e) hσ' fun σ'' T'' g'' w'' a'' _ hk' e' r'' hσ'' hd'' hx' => ⟨g'', σ'', T'', D, hk', e.trans e', r'', hσ'', by rw [hd'', hd', hd, mk_evo (e.trans e') hD], isSome_evo (e.trans e') hD, (hx.trans e hx').of_min⟩)
        ys.toArray.size p (Array.replicate ys.toArray.size false) T [] σ T (Array.replicate ys.toArray.size false) g w.drew a (fun _ => none) hchk h (VInv.start (hσ.mono e0) r1) (hG.mono e0) rfl e0 f0 (Nat.min_le_right _ _) (by
         unfold offN
         rw [Array.toList_replicate]
         exact Nat.le_trans List.count_le_length (by simp))
       have key2 := anyIn_tail st.flow (lastOk_of hlast) _ _ _ _ (by simp) key
       refine wpIn_mono (wpIn_region_any hm (by rw [Array.size_push, replicate_push]; exact key2)) ?_
       intro e a' w' hq
       cases e <;> first | exact hq | exact hq.elim
     ·exact h.elim
theorem VWx.here {rd : Option Nat} {ro : Nat} {c : Code} {σ : List TV} {T : VT} {D : List Nat} {Q : KX} {e : Exit} (h : Q e σ T D) (k : ∀ (F : Fence) (a : Act) w, ∀ R : Exit → Act → World → Prop, R e a w → c.wpIn F 0 P R a w) : VWx P G rd ro c σ T D Q :=
 fun r g w a rw0 hG hσ hd hD _ => k _ a w _ ⟨g, σ, T, D, h, Evo.refl g w, rw0, hσ, hd, hD, Fix.refl _ _ _ _⟩
theorem VWx.seq {rd : Option Nat} {ro : Nat} {x y : Code} {σ : List TV} {T : VT} {D : List Nat} {Q : KX} (h : VWx P G rd ro x σ T D (vthen (fun σ T D => VWx P G rd ro y σ T D Q) Q)) : VWx P G rd ro (.seq x y) σ T D Q := by
 intro r g w a rw0 hG hσ hd hD hrd
 refine wpIn_seq (wpIn_mono (h r g w a rw0 hG hσ hd hD hrd) ?_)
 rintro e a' w' ⟨g', σ', T', D', hq, e1, r', hσ', hd', hD', hx⟩
 cases e <;> first
  | exact ⟨g', σ', T', D', hq, e1, r', hσ', hd', hD', hx⟩
  | exact wpIn_mono (hq r g' w' a' r' (hG.mono e1) hσ' hd' hD' (rd_evo e1 hrd)) fun e a'' w'' ⟨g'', σ'', T'', D'', hq', e2, r2, s2, d2, dd2, x2⟩ => ⟨g'', σ'', T'', D'', hq', e1.trans e2, r2, s2, d2, dd2, hx.trans e1 x2⟩
theorem VWx.block {rd : Option Nat} {ro id : Nat} {c : Code} {σ : List TV} {T : VT} {D : List Nat} {Q : KX} (h : VWx P G rd ro c σ T D (vblock id Q)) : VWx P G rd ro (.block id c) σ T D Q := by
 intro r g w a rw0 hG hσ hd hD hrd
 refine wpIn_block (wpIn_mono (h r g w a rw0 hG hσ hd hD hrd) ?_)
 rintro e a' w' ⟨g', σ', T', D', hq, h⟩
 cases e with
 | exit id' =>
  simp only [Exit.inBlock]
  simp only [vblock] at hq
  cases hb : Nat.beq id' id with
  | true =>
   rw [hb] at hq
   rw [if_pos (Nat.eq_of_beq_eq_true hb)]; exact ⟨g', σ', T', D', hq, h⟩
  | false =>
   rw [hb] at hq
   rw [if_neg (Nat.ne_of_beq_eq_false hb)]; exact ⟨g', σ', T', D', hq, h⟩
 | normal => exact ⟨g', σ', T', D', hq, h⟩
 | goto l => exact ⟨g', σ', T', D', hq, h⟩
 | ret => exact ⟨g', σ', T', D', hq, h⟩
 | panic ch => exact ⟨g', σ', T', D', hq, h⟩
 | outgrown => exact ⟨g', σ', T', D', hq, h⟩
theorem VWx.cond {rd : Option Nat} {ro : Nat} {c : Operand} {x y : Code} {σ : List TV} {T : VT} {D : List Nat} {Q : KX} {b : Bool} (hc : vev G σ c = .val (.bool b)) (ht : b = true → VWx P G rd ro x σ T D Q) (hf : b = false → VWx P G rd ro y σ T D Q) : VWx P G rd ro (.cond c x y) σ T D Q := by
 intro r g w a rw0 hG hσ hd hD hrd
 have h1 := vev_ok hG hσ c
 rw [hc] at h1
 exact wpIn_cond_split h1.val_inv (fun h => ht h r g w a rw0 hG hσ hd hD hrd) (fun h => hf h r g w a rw0 hG hσ hd hD hrd)
section
variable {b : Frame} {a : Act} {k : List Item} {cs : List Frame} {w : World}
theorem stepR_scope {c : Code} : step P (lone (b.atR a (.code (.scope c) :: k)) cs w) = .next (lone (b.atR a (.code c :: .inScope c :: k)) cs w) :=
 step_lone_go (by simp [stepG, stepG.exec, Frame.atR])
theorem stepR_inScope {c : Code} : step P (lone (b.atR a (.inScope c :: k)) cs w) = .next (lone (b.atR a k) cs w) :=
 step_lone_go (by simp [stepG, stepG.exec, Frame.atR])
end
def noJump (Q : Exit → Act → World → Prop) : Exit → Act → World → Prop
 | .goto _, _, _ => False
 | e, a, w => Q e a w
theorem wpIn_scope_straight {F : Fence} {n : Nat} {Q : Exit → Act → World → Prop} {a : Act} {w : World} {c : Code} (h : c.wpIn F n P (noJump Q) a w) : (Code.scope c).wpIn F n P Q a w := by
 intro b k cs hro hb hr
 have h0 : (lone (b.atR a (.code (.scope c) :: k)) cs w).fenced P F := fenced_calm hb hr rfl
 obtain ⟨e, a₁, w₁, hq, harr⟩ := h b (.inScope c :: k) cs hro hb hr
 cases e with
 | normal => exact ⟨.normal, a₁, w₁, hq, .head h0 stepR_scope (StepsIn.trans harr (.one (fenced_calm hb hr rfl) stepR_inScope))⟩
 | exit id =>
  have hx : exitTo id (.inScope c :: k) = exitTo id k := by simp [exitTo]
  exact ⟨.exit id, a₁, w₁, hq, fun k' hk => .head h0 stepR_scope (harr.1 k' (by rw [hx]; exact hk)),
   fun hr' hk => let ⟨k₁, h1, h2⟩ := harr.2 hr' (by rw [hx]; exact hk); ⟨k₁, h1, .head h0 stepR_scope h2⟩⟩
 | goto l => exact hq.elim
 | ret => exact ⟨_, a₁, w₁, hq, .of_steps (.one h0 stepR_scope) harr⟩
 | panic ch => exact ⟨_, a₁, w₁, hq, .of_steps (.one h0 stepR_scope) harr⟩
 | outgrown => exact ⟨_, a₁, w₁, hq, .of_steps (.one h0 stepR_scope) harr⟩
theorem VWx.scope {rd : Option Nat} {ro : Nat} {c : Code} {σ : List TV} {T : VT} {D : List Nat} {Q : KX} (h : VWx P G rd ro c σ T D (vscope Q)) : VWx P G rd ro (.scope c) σ T D Q := by
 intro r g w a rw0 hG hσ hd hD hrd
 refine wpIn_scope_straight (wpIn_mono (h r g w a rw0 hG hσ hd hD hrd) ?_)
 rintro e a' w' ⟨g', σ', T', D', hq, h⟩
 cases e <;> first
  | exact ⟨g', σ', T', D', hq, h⟩
  | exact hq.elim
theorem VWx.loop {rd : Option Nat} {ro : Nat} {c : Code} {σ : List TV} {T : VT} {D : List Nat} {Q : KX} (I : Nat → List TV → VT → List Nat → Prop) (n : Nat) (h0 : I n σ T D)
  (round : ∀ n σ T D, I n σ T D → VWx P G rd ro c σ T D (vthen (fun σ' T' D' => ∃ n', n' < n ∧ I n' σ' T' D') Q)) : VWx P G rd ro (.loop c) σ T D Q := by
 intro r g w a rw0 hG hσ hd hD hrd
 refine wpIn_loop_ghost (fun n a' w' => ∃ g' σ' T' D', I n σ' T' D' ∧ Evo g w g' w' ∧ RW g' T' w' ∧ VRs g' w' σ' a'.tmps.toList ∧ a'.defers = D'.map (mk g') ∧ (∀ id ∈ D', (g'.obj id).isSome = true) ∧ Fix ro g T w T' w') n ⟨g, σ, T, D, h0, Evo.refl _ _, rw0, hσ, hd, hD, Fix.refl _ _ _ _⟩ ?_
 rintro m a' w' ⟨g', σ', T', D', hI, e1, r', hσ', hd', hD', hx⟩
 refine wpIn_mono (round m σ' T' D' hI r g' w' a' r' (hG.mono e1) hσ' hd' hD' (rd_evo e1 hrd)) ?_
 rintro e a'' w'' ⟨g'', σ'', T'', D'', hq, e2, r2, s2, d2, dd2, x2⟩
 cases e <;> first
  | exact ⟨g'', σ'', T'', D'', hq, e1.trans e2, r2, s2, d2, dd2, hx.trans e1 x2⟩
  | (obtain ⟨n', hn, hI'⟩ := hq; exact ⟨n', hn, g'', σ'', T'', D'', hI', e1.trans e2, r2, s2, d2, dd2, hx.trans e1 x2⟩)
theorem setLoop_ok {g : Gh} {T : VT} {w : World} (r : RW g T w) {id b : Nat} {st : LoopState} {pend : Option Code} {σ : List TV} {ps : Array Tmp} {asg body : Code} (ho : T.objs[id]? = some (.loop st pend σ ps asg body)) (hb : g.obj id = some b) :
  ∃ rec : Loop, w.heap[b]? = some (.loop rec) ∧ rec.state = st ∧ rec.pending = pend ∧ rec.params = ps ∧ rec.assign = asg ∧ rec.body = body ∧ VRs g w σ rec.tmps.toList ∧
   ∀ st' pend', RW g (T.setLoop id st' pend' σ ps asg body) (w.putObj b (.loop { rec with state := st', pending := pend' })) ∧ Evo g w g (w.putObj b (.loop { rec with state := st', pending := pend' })) ∧
    ∀ ro, ro ≤ id → Fix ro g T w (T.setLoop id st' pend' σ ps asg body) (w.putObj b (.loop { rec with state := st', pending := pend' })) := by
 obtain ⟨b', h1, h2, h3, h4⟩ := r.obj id _ ho rfl
 rw [hb] at h1; injection h1 with h1; subst h1
 obtain ⟨us, fn, db, h5, h6⟩ := h2
 have hlt := (Array.getElem?_eq_some_iff.1 h5).1
 refine ⟨_, h5, rfl, rfl, rfl, rfl, rfl, h6, fun st' pend' => ?_⟩
 have hnew := World.putObj_heap_same (w := w) (o := .loop { state := st', pending := pend', fn := fn, tmps := us.toArray, params := ps, assign := asg, body := body, defers := db }) hlt
 have hoth : ∀ c, c ≠ b → (w.putObj b (.loop { state := st', pending := pend', fn := fn, tmps := us.toArray, params := ps, assign := asg, body := body, defers := db })).heap[c]? = w.heap[c]? := fun c hc => World.putObj_heap_other hc
 have key : ∀ (hE : ∀ w', w' = w.putObj b (.loop { state := st', pending := pend', fn := fn, tmps := us.toArray, params := ps, assign := asg, body := body, defers := db }) → Evo g w g w'), RW g (T.setLoop id st' pend' σ ps asg body) (w.putObj b (.loop { state := st', pending := pend', fn := fn, tmps := us.toArray, params := ps, assign := asg, body := body, defers := db })) ∧ Evo g w g (w.putObj b (.loop { state := st', pending := pend', fn := fn, tmps := us.toArray, params := ps, assign := asg, body := body, defers := db })) := fun hE =>
  r.setObj (o' := .loop st' pend' σ ps asg body) ho rfl hb ⟨rfl, rfl, rfl⟩ World.putObj_size hoth (by unfold csize; rw [hnew, h5]) fun _ => ⟨us, fn, db, hnew, h6.mono (hE _ rfl)⟩
 have hE := (r.setObj (o' := .gone) ho rfl hb (w' := w.putObj b (.loop { state := st', pending := pend', fn := fn, tmps := us.toArray, params := ps, assign := asg, body := body, defers := db })) ⟨rfl, rfl, rfl⟩ World.putObj_size hoth (by unfold csize; rw [hnew, h5]) fun h => by cases h).2
 obtain ⟨k1, k2⟩ := key fun w' hw => by rw [hw]; exact hE
 exact ⟨k1, k2, fun ro hr => setObj_fix r ho rfl hb hr hoth⟩
theorem leaves_ok {fn : Func} {ro : Nat} {σ : List TV} {K : TV → VT → Prop} {tmps : Array Value} {g0 : Gh} {T0 : VT} {w0 : World} : ∀ (D : List Nat) (T T' : VT) (g : Gh) (w : World) (x : TV), vmarks ro D T = some T' → vresults P T' σ fn.results = some x → K x T' →
  RW g T w → VRs g w σ tmps.toList → Evo g0 w0 g w → Fix ro g0 T0 w0 T w →
  LeavesInM (fenR none) 0 P fn tmps (fun e w' => ∃ v x g' T', e = .returned v ∧ K x T' ∧ Evo g0 w0 g' w' ∧ RW g' T' w' ∧ VR g' w' x v ∧ Fix ro g0 T0 w0 T' w') (D.map (mk g)) .returning w
 | [], T, T', g, w, x, h, hr, hk, r, hσ, e, hx => by
  simp only [vmarks] at h
  injection h with h; subst h
  obtain ⟨v, h1, h2⟩ := vresults_ok (a := { tmps := tmps, defers := [] }) r hσ hr
  exact ⟨v, h2, v, x, g, T, rfl, hk, e, r, h1, hx⟩
 | id :: D, T, T', g, w, x, h, hr, hk, r, hσ, e, hx => by
  simp only [vmarks] at h
  split at h
  ·rename_i ho
   cases hb : Nat.ble ro id with
   | false => rw [hb] at h; cases h
   | true =>
    rw [hb] at h
    simp only [cond_true] at h
    obtain ⟨b, h1, h2, h3, h4⟩ := r.obj id _ ho rfl
    have hlt := (Array.getElem?_eq_some_iff.1 h2).1
    have hnew := World.putObj_heap_same (w := w) (o := .deferred none) hlt
    have hoth : ∀ c, c ≠ b → (w.putObj b (.deferred none)).heap[c]? = w.heap[c]? := fun c hc => World.putObj_heap_other hc
    obtain ⟨k1, k2⟩ := r.setObj (o' := .gone) ho rfl h1 (w' := w.putObj b (.deferred none)) ⟨rfl, rfl, rfl⟩ World.putObj_size hoth (by unfold csize; rw [hnew, show w.heap[b]? = _ from h2]) fun h => by cases h
    have k3 : Fix ro g T w (T.kill id) (w.putObj b (.deferred none)) := setObj_fix r ho rfl h1 (Nat.le_of_ble_eq_true hb) hoth
    refine ⟨fun h => (by cases h), .inl ⟨b, w.putObj b (.deferred none), by simp [mk, h1], run_takeDeferred h2, ?_⟩⟩
    exact leaves_ok D (T.kill id) T' g _ x h hr hk k1 (hσ.mono k2) (e.trans k2) (hx.trans e k3)
  ·cases h
theorem vleave_ok {fn : Func} {ro : Nat} {K : TV → VT → Prop} {σ : List TV} {T : VT} {D : List Nat} (h : vleave P fn ro σ T D K) : ∃ T' x, vmarks ro D T = some T' ∧ vresults P T' σ fn.results = some x ∧ K x T' := by
 unfold vleave at h
 split at h
 ·rename_i T' hT
  split at h
  ·rename_i x hx; exact ⟨T', x, hT, hx, h⟩
  ·exact h.elim
 ·exact h.elim
theorem VCx.enter {ro : Nat} {f : FuncId} {fn : Func} {c : Code} {xs : List TV} {T : VT} {K : TV → VT → Prop} (hf : P.funcs[f]? = some fn) (hb : fn.body = some c)
    (h : VWx P G none ro c (vstart fn xs) T [] (vback P fn ro K)) : VCx P G ro f xs T K := by
  intro g w us rw0 hG hx
  refine calls_of_fen (r := none) (n := 0) (callsIn_of_wp_marks hf hb trivial (wpIn_mono (h none g w _ rw0 hG ?_ rfl (fun _ h => nomatch h) rfl) ?_))
  · have e1 : (us.toArray ++ Array.replicate (fn.ntmps - us.toArray.size) undef).toList = us ++ (List.replicate (fn.ntmps - xs.length) undef) := by simp [hx.1]
    rw [e1]
    refine hx.app ?_
    have := VRs.vals g w (List.replicate (fn.ntmps - xs.length) undef)
    simpa using this
  · rintro e a' w' ⟨g', σ', T', D', hq, e1, r', hσ', hd', hD', hx'⟩
    cases e with
    | normal =>
      obtain ⟨T'', x, h1, h2, h3⟩ := vleave_ok (P := P) hq
      simp only [bodyPostM, hd']
      exact leaves_ok D' T' T'' g' w' x h1 h2 h3 r' hσ' e1 hx'
    | ret =>
      obtain ⟨T'', x, h1, h2, h3⟩ := vleave_ok (P := P) hq
      simp only [bodyPostM, hd']
      exact leaves_ok D' T' T'' g' w' x h1 h2 h3 r' hσ' e1 hx'
    | exit id => exact hq.elim
    | goto l => exact hq.elim
    | panic ch => exact hq.elim
    | outgrown => exact hq.elim
def RunOk (P : Program) (G : Globs) (run : Run0) : Prop := ∀ rd ro c σ T D K, run rd ro c σ T D K → VWx P G rd ro c σ T D K
theorem vparams_ok {g : Gh} {w : World} : ∀ (ps : List Tmp) (xs σ : List TV) (us tmps : List Value), VRs g w xs us → VRs g w σ tmps → VRs g w (vparams ps xs σ) ((ps.zip us).foldl (fun t p => t.set p.1 p.2) tmps)
 | [], xs, σ, us, tmps, hx, hσ => by simpa [vparams] using hσ
 | p :: ps, [], σ, us, tmps, hx, hσ => by
  have : us = [] := List.eq_nil_of_length_eq_zero hx.1
  subst this
  simpa [vparams] using hσ
 | p :: ps, x :: xs, σ, [], tmps, hx, hσ => by have := hx.1; simp at this
 | p :: ps, x :: xs, σ, u :: us, tmps, hx, hσ => by
  simp only [vparams, List.zip_cons_cons, List.foldl_cons]
  exact vparams_ok ps xs _ us _ ⟨by simpa using hx.1, fun j y v hy hv => hx.2 (j + 1) y v (by simpa using hy) (by simpa using hv)⟩ (hσ.set p (hx.2 0 x u rfl rfl))
theorem params_fold (ps : Array Tmp) (us : List Value) (tmps : Array Value) : ((ps.zip us.toArray).foldl (fun tmps (t, a) => tmps.setIfInBounds t a) tmps).toList = (ps.toList.zip us).foldl (fun t p => t.set p.1 p.2) tmps.toList := by
 rw [← Array.foldl_toList]
 simp only [Array.toList_zip]
 generalize ps.toList.zip us = l
 induction l generalizing tmps with
 | nil => rfl
 | cons p l ih => simp only [List.foldl_cons]; rw [ih]; simp
theorem vroundEnd_ok {ro id : Nat} {st : LoopState} {pend : Option Code} {T : VT} {K : VT → Prop} (h : vroundEnd ro id st pend T K) : ∃ st0 pend0 σ ps asg body, T.objs[id]? = some (.loop st0 pend0 σ ps asg body) ∧ ro ≤ id ∧ K (T.setLoop id st pend σ ps asg body) := by
 unfold vroundEnd at h
 split at h
 ·rename_i st0 pend0 σ ps asg body ho
  cases hb : Nat.ble ro id with
  | false => rw [hb] at h; exact h.elim
  | true => rw [hb] at h; exact ⟨_, _, _, _, _, _, ho, Nat.le_of_ble_eq_true hb, h⟩
 ·exact h.elim
theorem vround_ok {run : Run0} (hrun : RunOk P G run) : RoundOk P G (vround run) := by
 intro ro id xs T K h g w us rw0 hG hxs
 unfold vround at h
 split at h
 ·rename_i σ ps asg body ho
  cases hb : (Nat.ble ro id && Nat.beq ps.size xs.length) with
  | false => rw [hb] at h; exact h.elim
  | true =>
   rw [hb] at h
   simp only [Bool.and_eq_true] at hb
   obtain ⟨hro, hsz⟩ := hb
   have hro := Nat.le_of_ble_eq_true hro
   have hsz := Nat.eq_of_beq_eq_true hsz
   simp only [cond_true] at h
   obtain ⟨b, hgb, _⟩ := rw0.obj id _ ho rfl
   obtain ⟨rec, h1, h2, h3, h4, h5, h6, h7, _⟩ := setLoop_ok rw0 ho hgb
   refine ⟨b, _, _, _, _, hgb, run_yield h1 (by rw [h4]; simpa [hxs.1] using hsz.symm), ?_⟩
   rw [h4, h5, h6]
   refine roundIn_of_wpIn (F := Fence.wide) trivial ?_
   refine wpIn_mono (hrun _ _ _ _ _ _ _ h (some b) g w { tmps := _, defers := [] } rw0 hG ?_ rfl (fun _ h => nomatch h) ⟨rfl, hgb⟩) ?_
   ·simp only
    rw [params_fold]
    exact vparams_ok _ _ _ _ _ hxs h7
   ·rintro e a' w' ⟨g', σ', T', D', hq, e1, r', hσ', hd', hD', hx'⟩
    cases e with
    | normal =>
     simp only at hq
     split at hq
     ·rename_i σ2 ps2 asg2 body2 ho2
      have hgb' := e1.obj id b hgb
      obtain ⟨rec2, k1, k2, k3, k4, k5, k6, k7, k8⟩ := setLoop_ok r' ho2 hgb'
      obtain ⟨m1, m2, m3⟩ := k8 .busy none
      have hrec : ({ rec2 with state := .busy } : Loop) = { rec2 with state := .busy, pending := none } := by
       rw [← k3]
      refine ⟨_, run_beginRound k1 k2, ?_⟩
      rw [hrec]
      refine wpIn_mono (hrun _ _ _ _ _ _ _ hq (some b) g' _ a' m1 ((hG.mono e1).mono m2) (hσ'.mono m2) hd' hD' ⟨rfl, hgb'⟩) ?_
      have fx := hx'.trans e1 (m3 ro hro)
      rintro e a2 w2 ⟨g2, σ2', T2, D2, hq2, e2, r2, hσ2, hd2, hD2, hx2⟩
      have hgb2 := e2.obj id b hgb'
      have ee := (e1.trans m2).trans e2
      have ff := fx.trans (e1.trans m2) hx2
      have fin : ∀ (st : LoopState) (pend : Option Code) (y : TV) (v : Value) (vd : VR g2 w2 y v), vroundEnd ro id st pend T2 (fun T => K y T) → st = (if pend.isNone then .ready else .done) → v = .bool pend.isNone →
        ∃ v' w', (Instr.endRound b pend).run P w2 = .ok v' w' ∧ ∃ v x g' T', (Ending.returned v' = .returned v) ∧ K x T' ∧ Evo g w g' w' ∧ RW g' T' w' ∧ VR g' w' x v ∧ Fix ro g T w T' w' := by
       intro st pend y v vd hv hst hvv
       obtain ⟨st0, pend0, σ3, ps3, asg3, body3, n1, n2, n3⟩ := vroundEnd_ok hv
       obtain ⟨rec3, p1, p2, p3, p4, p5, p6, p7, p8⟩ := setLoop_ok r2 n1 hgb2
       obtain ⟨q1, q2, q3⟩ := p8 st pend
       refine ⟨_, _, run_endRound pend p1, v, y, g2, _, by rw [hvv], n3, ?_⟩
       rw [← hst]
       exact ⟨ee.trans q2, q1, vd.mono q2, ff.trans ee (q3 ro hro)⟩
      cases e with
      | normal => exact fin .ready none _ _ (.val (.bool true)) hq2 rfl rfl
      | ret => exact fin .done (some .ret) _ _ (.val (.bool false)) hq2 rfl rfl
      | exit i => exact fin .done (some (.exit i)) _ _ (.val (.bool false)) hq2 rfl rfl
      | goto l => exact hq2.elim
      | panic ch => exact hq2.elim
      | outgrown => exact hq2.elim
     ·exact hq.elim
    | ret => exact hq.elim
    | exit i => exact hq.elim
    | goto l => exact hq.elim
    | panic ch => exact hq.elim
    | outgrown => exact hq.elim
 ·exact h.elim
theorem vrangeEnd_ok {ro id : Nat} {σ : List TV} {D : List Nat} {K : KX} {T : VT} (h : vrangeEnd ro id σ D K T) : ∃ st pend σ' ps asg body e, T.objs[id]? = some (.loop st pend σ' ps asg body) ∧ ro ≤ id ∧ K e σ (T.setLoop id .exhausted pend σ' ps asg body) D ∧ st ≠ .busy ∧
  ((pend = none ∧ e = .normal) ∨ (pend = some .ret ∧ e = .ret) ∨ ∃ x, pend = some (.exit x) ∧ e = .exit x) := by
 unfold vrangeEnd at h
 split at h
 ·rename_i ho
  cases hb : Nat.ble ro id with
  | false => rw [hb] at h; exact h.elim
  | true => rw [hb] at h; exact ⟨_, _, _, _, _, _, _, ho, Nat.le_of_ble_eq_true hb, h, (fun h => by cases h), .inl ⟨rfl, rfl⟩⟩
 ·rename_i ho
  cases hb : Nat.ble ro id with
  | false => rw [hb] at h; exact h.elim
  | true => rw [hb] at h; exact ⟨_, _, _, _, _, _, _, ho, Nat.le_of_ble_eq_true hb, h, (fun h => by cases h), .inr (.inl ⟨rfl, rfl⟩)⟩
 ·rename_i ho
  cases hb : Nat.ble ro id with
  | false => rw [hb] at h; exact h.elim
  | true => rw [hb] at h; exact ⟨_, _, _, _, _, _, _, ho, Nat.le_of_ble_eq_true hb, h, (fun h => by cases h), .inr (.inr ⟨_, rfl, rfl⟩)⟩
 ·exact h.elim
theorem rangePost_ok {r : Option Nat} {ro id b : Nat} {σ : List TV} {D : List Nat} {K : KX} {T' : VT} (h : vrangeEnd ro id σ D K T') {g0 : Gh} {T0 : VT} {w0 : World} {g' : Gh} {w' : World} {a' : Act} (r' : RW g' T' w') (hb : g'.obj id = some b) (e1 : Evo g0 w0 g' w') (hx : Fix ro g0 T0 w0 T' w')
  (hσ : VRs g' w' σ a'.tmps.toList) (hd : a'.defers = D.map (mk g')) (hD : ∀ id ∈ D, (g'.obj id).isSome = true) (v : Value) :
  rangePost (fenR r) 0 P b (fun e a' w' => ∃ g' σ' T' D', K e σ' T' D' ∧ Evo g0 w0 g' w' ∧ RW g' T' w' ∧ VRs g' w' σ' a'.tmps.toList ∧ a'.defers = D'.map (mk g') ∧ (∀ id ∈ D', (g'.obj id).isSome = true) ∧ Fix ro g0 T0 w0 T' w') a' (.returned v) w' := by
 obtain ⟨st, pend, σ', ps, asg, body, e, n1, n2, n3, n4, n5⟩ := vrangeEnd_ok h
 obtain ⟨rec3, p1, p2, p3, p4, p5, p6, p7, p8⟩ := setLoop_ok r' n1 hb
 obtain ⟨q1, q2, q3⟩ := p8 .exhausted pend
 have hrec : ({ rec3 with state := .exhausted } : Loop) = { rec3 with state := .exhausted, pending := pend } := by rw [← p3]
 refine ⟨_, _, run_endLoop p1 (by rw [p2]; exact n4), ?_⟩
 rw [hrec, p3]
 have fin : ∃ g'' σ'' T'' D'', K e σ'' T'' D'' ∧ Evo g0 w0 g'' (w'.putObj b (.loop { rec3 with state := .exhausted, pending := pend })) ∧ RW g'' T'' (w'.putObj b (.loop { rec3 with state := .exhausted, pending := pend })) ∧ VRs g'' (w'.putObj b (.loop { rec3 with state := .exhausted, pending := pend })) σ'' a'.tmps.toList ∧ a'.defers = D''.map (mk g'') ∧ (∀ id ∈ D'', (g''.obj id).isSome = true) ∧ Fix ro g0 T0 w0 T'' (w'.putObj b (.loop { rec3 with state := .exhausted, pending := pend })) :=
  ⟨g', σ, _, D, n3, e1.trans q2, q1, hσ.mono q2, hd, hD, hx.trans e1 (q3 ro n2)⟩
 rcases n5 with ⟨rfl, rfl⟩ | ⟨rfl, rfl⟩ | ⟨x, rfl, rfl⟩
 ·exact fin
 ·exact wpIn_ret fin
 ·exact wpIn_exit fin
theorem take_app {α : Type} (l m : List α) : (l ++ m).take l.length = l := by simp
theorem args_eq (us vs : List Value) (y : Value) : (us.toArray ++ #[y]) ++ vs.toArray = (us ++ [y] ++ vs).toArray := by simp
theorem run_resolve {a : Act} {f : Operand} {l : Nat} {fi : FuncId} {us vs : List Value} (h : a.eval f = .func (.func fi) us.toArray vs.toArray) (w : World) :
  (resolve a.eval (rangeCall f l) 0).run P w = .ok { target := .fn (.func fi) vs.toArray, args := us.toArray ++ #[.func (.yield l) #[] #[]] } w := by
 have hc : a.eval (.const (.func (.yield l) #[] #[])) = .func (.yield l) #[] #[] := rfl
 simp [resolve, h, hc, Deferred.ofValue]
theorem run_invoke {fi : FuncId} {fn : Func} {args vs : Array Value} (hfn : P.funcs[fi]? = some fn) (hb : fn.body.isSome = true) (hnm : (fn.name == "runtime.NumGoroutine") = false) (w : World) :
  (invoke (.fn (.func fi) vs) args).run P w = .ok (.enter fi (args ++ vs)) w := by
 have hb' : fn.body ≠ none := by intro h; rw [h] at hb; cases hb
 have hnm' : fn.name ≠ "runtime.NumGoroutine" := by simpa using hnm
 simp [invoke, callFunc, hfn, hnm', hb']
theorem VWx.range0 {ro : Nat} {f : Operand} {ps : Array Tmp} {asg body : Code} {σ : List TV} {T : VT} {D : List Nat} {K : KX} {fi : FuncId} {fn : Func} {first ca : List TV} (hf : vev G σ f = .fn (.func fi) first ca)
  (hfn : P.funcs[fi]? = some fn) (hb : fn.body.isSome = true) (hnm : (fn.name == "runtime.NumGoroutine") = false)
  (hc : VCx P G ro fi (first ++ [.yld (T.objs.length + 1)] ++ ca) { T with objs := T.objs ++ [.defd] ++ [.loop .ready none σ ps asg body] } fun _ T' => vrangeEnd ro (T.objs.length + 1) σ (T.objs.length :: D) K T') :
  VWx P G none ro (.rangeFunc f ps asg body) σ T D K := by
 intro r g w a rw0 hG hσ hd hD hrd
 have hrd : r = none := hrd
 subst hrd
 have hv := vev_ok hG hσ f
 rw [hf] at hv
 obtain ⟨us, vs, h2, h3, h4⟩ := hv.fn_inv
 refine wpIn_rangeFunc fun fd _ => ?_
 obtain ⟨g1, r1, e1, ho1, _⟩ := rw0.new (.deferred (some [])) (o := .defd) rfl (World.alloc_heap_new _ _)
 have hE := Evo.of_gr r1 ((Gr.refl (w.alloc (.deferred (some [])))).alloc (.loop { state := .ready, pending := none, fn := fd, tmps := a.tmps, params := ps, assign := asg, body := body, defers := w.heap.size }))
 obtain ⟨g2, r2, e2, ho2, _⟩ := r1.new (.loop { state := .ready, pending := none, fn := fd, tmps := a.tmps, params := ps, assign := asg, body := body, defers := w.heap.size }) (o := .loop .ready none σ ps asg body) rfl
  ⟨a.tmps.toList, fd, w.heap.size, World.alloc_heap_new _ _, hσ.mono (e1.trans hE)⟩
 have ee := e1.trans e2
 have hl : (w.alloc (.deferred (some []))).heap.size = w.heap.size + 1 := World.size_alloc ..
 have hl2 : ({ T with objs := T.objs ++ [.defd] } : VT).objs.length = T.objs.length + 1 := by simp
 rw [hl, hl2] at ho2
 have ho1' := e2.obj _ _ ho1
 have f1 : Fix ro g T w { T with objs := T.objs ++ [.defd] ++ [.loop .ready none σ ps asg body] } ((w.alloc (.deferred (some []))).alloc (.loop { state := .ready, pending := none, fn := fd, tmps := a.tmps, params := ps, assign := asg, body := body, defers := w.heap.size })) :=
  Fix.of_same (Same.of_gr rw0 (((Gr.refl w).alloc _).alloc _)) (by simp only [List.append_assoc]; exact take_app _ _)
 refine ⟨w.heap.size + 1, [{ target := .collected w.heap.size, args := #[] }], _, _, _, fi, _, _, run_enterLoop_outer fd a.tmps ps asg body, run_resolve h2 _, fun _ _ => trivial, run_invoke hfn hb hnm _, fun h => (by cases h), ?_⟩
 have hargs : VRs g2 _ (first ++ [.yld (T.objs.length + 1)] ++ ca) (us ++ [.func (.yield (w.heap.size + 1)) #[] #[]] ++ vs) := ((h3.mono ee).app (VRs.cons (.yld ho2) (VRs.nil _ _))).app (h4.mono ee)
 have hcall := hc g2 _ _ r2 (hG.mono ee) hargs
 have ha : (us.toArray ++ #[Value.func (.yield (w.heap.size + 1)) #[] #[]]) ++ vs.toArray = (us ++ [Value.func (.yield (w.heap.size + 1)) #[] #[]] ++ vs).toArray := args_eq us vs _
 rw [ha]
 refine callsIn_fen (Calls.mono hcall ?_)
 rintro e w' ⟨v, x, g', T', rfl, hq, e3, r', hv, hx⟩
 have eE := ee.trans e3
 refine rangePost_ok (a' := { tmps := a.tmps, defers := [{ target := .collected w.heap.size, args := #[] }] ++ a.defers }) hq r' (e3.obj _ _ ho2) eE (f1.trans ee hx) (hσ.mono eE) ?_ ?_ v
 ·show [_] ++ a.defers = _
  rw [hd, List.map_cons, mk_evo eE hD]
  simp [mk, e3.obj _ _ ho1']
 ·intro id hid
  rcases List.mem_cons.1 hid with rfl | hid
  ·rw [e3.obj _ _ ho1']; rfl
  ·exact isSome_evo eE hD id hid
theorem VWx.range1 {i0 ro : Nat} {f : Operand} {ps : Array Tmp} {asg body : Code} {σ : List TV} {T : VT} {D : List Nat} {K : KX} {fi : FuncId} {fn : Func} {first ca : List TV} {st0 : LoopState} {pend0 : Option Code} {σ0 : List TV} {ps0 : Array Tmp} {asg0 body0 : Code}
  (hf : vev G σ f = .fn (.func fi) first ca) (hlp : T.objs[i0]? = some (.loop st0 pend0 σ0 ps0 asg0 body0))
  (hfn : P.funcs[fi]? = some fn) (hb : fn.body.isSome = true) (hnm : (fn.name == "runtime.NumGoroutine") = false)
  (hc : VCx P G ro fi (first ++ [.yld T.objs.length] ++ ca) { T with objs := T.objs ++ [.loop .ready none σ ps asg body] } fun _ T' => vrangeEnd ro T.objs.length σ D K T') :
  VWx P G (some i0) ro (.rangeFunc f ps asg body) σ T D K := by
 intro r g w a rw0 hG hσ hd hD hrd
 obtain ⟨hr1, hr2⟩ := hrd
 obtain ⟨b0, rfl⟩ := Option.isSome_iff_exists.1 hr1
 obtain ⟨rec0, k1, _⟩ := setLoop_ok rw0 hlp hr2
 have hv := vev_ok hG hσ f
 rw [hf] at hv
 obtain ⟨us, vs, h2, h3, h4⟩ := hv.fn_inv
 refine wpIn_rangeFunc fun fd _ => ?_
 have hE := Evo.of_gr rw0 ((Gr.refl w).alloc (.loop { state := .ready, pending := none, fn := fd, tmps := a.tmps, params := ps, assign := asg, body := body, defers := rec0.defers }))
 obtain ⟨g2, r2, ee, ho2, _⟩ := rw0.new (.loop { state := .ready, pending := none, fn := fd, tmps := a.tmps, params := ps, assign := asg, body := body, defers := rec0.defers }) (o := .loop .ready none σ ps asg body) rfl
  ⟨a.tmps.toList, fd, rec0.defers, World.alloc_heap_new _ _, hσ.mono hE⟩
 have f1 : Fix ro g T w { T with objs := T.objs ++ [.loop .ready none σ ps asg body] } (w.alloc (.loop { state := .ready, pending := none, fn := fd, tmps := a.tmps, params := ps, assign := asg, body := body, defers := rec0.defers })) :=
  Fix.of_same (Same.of_gr rw0 ((Gr.refl w).alloc _)) (take_app _ _)
 refine ⟨w.heap.size, [], _, _, _, fi, _, _, run_enterLoop_inner k1 fd a.tmps ps asg body, run_resolve h2 _, fun _ _ => trivial, run_invoke hfn hb hnm _, fun h => (by cases h), ?_⟩
 have hargs : VRs g2 _ (first ++ [.yld T.objs.length] ++ ca) (us ++ [.func (.yield w.heap.size) #[] #[]] ++ vs) := ((h3.mono ee).app (VRs.cons (.yld ho2) (VRs.nil _ _))).app (h4.mono ee)
 have hcall := hc g2 _ _ r2 (hG.mono ee) hargs
 have ha : (us.toArray ++ #[Value.func (.yield w.heap.size) #[] #[]]) ++ vs.toArray = (us ++ [Value.func (.yield w.heap.size) #[] #[]] ++ vs).toArray := args_eq us vs _
 rw [ha]
 refine callsIn_fen (Calls.mono hcall ?_)
 rintro e w' ⟨v, x, g', T', rfl, hq, e3, r', hv, hx⟩
 have eE := ee.trans e3
 refine rangePost_ok (a' := { tmps := a.tmps, defers := [] ++ a.defers }) hq r' (e3.obj _ _ ho2) eE (f1.trans ee hx) (hσ.mono eE) ?_ (isSome_evo eE hD) v
 show [] ++ a.defers = _
 rw [hd, mk_evo eE hD]; rfl
def SpecsOk (P : Program) (G : Globs) (C : FuncId → Option Spec) : Prop := ∀ f W, C f = some W → ∀ ro xs T K, W ro xs T K → VCx P G ro f xs T K
def bodiesOk (P : Program) : Bool := P.funcs.toList.all fun fn => !fn.body.isSome || !(fn.name == "runtime.NumGoroutine")
theorem callee_ok {C : FuncId → Option Spec} (hB : bodiesOk P = true) (hC : SpecsOk P G C) {run : Run0} (hrun : RunOk P G run) : CalleeOk P G (vcallee P C run) := by
 intro ro f xs T K h
 unfold vcallee at h
 split at h
 ·rename_i fn hf
  split at h
  ·rename_i c hc
   have hnm : (fn.name == "runtime.NumGoroutine") = false := by
    have hmem : fn ∈ P.funcs.toList := by
     obtain ⟨hlt, he⟩ := Array.getElem?_eq_some_iff.1 hf
     rw [← he]; exact Array.mem_toList_iff.2 (Array.getElem_mem hlt)
    have := List.all_eq_true.1 hB fn hmem
    simpa [hc] using this
   refine ⟨fn, hf, by rw [hc]; rfl, hnm, ?_⟩
   split at h
   ·rename_i W hW
    exact hC f W hW ro xs T K h
   ·exact VCx.enter hf hc (hrun _ _ _ _ _ _ _ h)
  ·exact h.elim
 ·exact h.elim
def LsOk (P : Program) (G : Globs) (L : Nat → Option (LSpec × Code)) : Prop := ∀ id W c, L id = some (W, c) → ∀ rd ro σ T D K, W rd ro σ T D K → VWx P G rd ro c σ T D K
theorem lsOk_none : LsOk P G fun _ => none := fun _ _ _ h => by cases h
theorem vx_ok {C : FuncId → Option Spec} (hm : P.follows .mixedOrders = true) (hB : bodiesOk P = true) (hC : SpecsOk P G C) :
  ∀ n m, m ≤ n → ∀ F L, LsOk P G L → RunOk P G (vx P G C F m L)
 | _, 0, _, _, _, _, _, _, _, _, _, _, _, h => by simp only [vx] at h; exact h.elim
 | 0, m + 1, hle, _, _, _, _, _, _, _, _, _, _, _ => by omega
 | n + 1, m + 1, hle, F, L, hL, rd, ro, c, σ, T, D, K, h => by
  have ih := fun m hm0 => vx_ok hm hB hC n m hm0 F L hL
  have ih0 := fun m hm0 => vx_ok hm hB hC n m hm0 noOra (fun _ => none) lsOk_none
  have hcal : CalleeOk P G (vcallee P C (vx P G C noOra m fun _ => none)) := callee_ok hB hC (ih0 m (by omega))
  have hrnd : RoundOk P G (vround (vx P G C noOra m fun _ => none)) := vround_ok (ih0 m (by omega))
  unfold vx at h
  cases c with
  | skip => exact VWx.here (e := .normal) h fun F a w R hr => wpIn_skip hr
  | exit id => exact VWx.here (e := .exit id) h fun F a w R hr => wpIn_exit hr
  | ret => exact VWx.here (e := .ret) h fun F a w R hr => wpIn_ret hr
  | seq a b =>
   refine VWx.seq ((ih m (by omega) _ _ _ _ _ _ _ h).mono fun e σ T D hq => ?_)
   cases e <;> first
    | exact ih m (by omega) _ _ _ _ _ _ _ hq
    | exact hq
  | cond c x y =>
   simp only at h
   split at h
   ·rename_i b hb
    refine VWx.cond hb (fun hbt => ?_) (fun hbf => ?_)
    ·subst hbt; exact ih m (by omega) _ _ _ _ _ _ _ h
    ·subst hbf; exact ih m (by omega) _ _ _ _ _ _ _ h
   ·exact h.elim
  | block id c =>
   simp only at h
   split at h
   ·rename_i W c' hW
    obtain ⟨rfl, h⟩ := h
    exact hL _ _ _ hW rd ro σ T D K h
   ·exact VWx.block (ih m (by omega) _ _ _ _ _ _ _ h)
  | scope c => exact VWx.scope (ih m (by omega) _ _ _ _ _ _ _ h)
  | loop c =>
   refine VWx.loop (fun k σ T D => k ≤ m + 1 ∧ vx P G C F k L rd ro (.loop c) σ T D K) (m + 1) ⟨Nat.le_refl _, by unfold vx; exact h⟩ ?_
   rintro k σ T D ⟨hk, h⟩
   cases k with
   | zero => simp only [vx] at h; exact h.elim
   | succ j =>
    unfold vx at h
    refine (ih j (by omega) _ _ _ _ _ _ _ h).mono fun e σ T D hq => ?_
    cases e <;> first
     | exact ⟨j, by omega, by omega, hq⟩
     | exact hq
  | region id ops d =>
   simp only at h
   split at h
   ·rename_i W c' hW
    obtain ⟨rfl, h⟩ := h
    exact hL _ _ _ hW rd ro σ T D K h
   ·cases d with
    | false => exact vregion_ok (Q := K) hcal hrnd h
    | true => exact vdraw_ok (Q := K) hcal hrnd hm h
  | rangeFunc f ps a b =>
   simp only at h
   split at h
   ·rename_i fi first ca hf
    cases rd with
    | none =>
     obtain ⟨fn, h1, h2, h3, h4⟩ := hcal _ _ _ _ _ h
     exact VWx.range0 hf h1 h2 h3 h4
    | some i0 =>
     simp only at h
     split at h
     ·rename_i hlp
      obtain ⟨fn, h1, h2, h3, h4⟩ := hcal _ _ _ _ _ h
      exact VWx.range1 hf hlp h1 h2 h3 h4
     ·exact h.elim
   ·exact h.elim
  | label l => exact VWx.here (e := .normal) h fun F a w R hr => wpIn_label hr
  | goto l => exact h.elim
  | refuse why => exact h.elim
theorem vcallF_ok {C : FuncId → Option Spec} (hm : P.follows .mixedOrders = true) (hB : bodiesOk P = true) (hC : SpecsOk P G C) {F : Ora} {n : Nat} {L : Nat → Option (LSpec × Code)} (hL : LsOk P G L) {ro : Nat} {f : FuncId} {xs : List TV} {T : VT} {K : TV → VT → Prop}
  (h : vcallF P G C F n L ro f xs T K) : VCx P G ro f xs T K := by
 unfold vcallF at h
 split at h
 ·rename_i fn hf
  split at h
  ·rename_i c hc
   exact VCx.enter hf hc (vx_ok hm hB hC n n (Nat.le_refl _) _ _ hL _ _ _ _ _ _ _ h)
  ·exact h.elim
 ·exact h.elim
theorem vcall_ok {C : FuncId → Option Spec} (hm : P.follows .mixedOrders = true) (hB : bodiesOk P = true) (hC : SpecsOk P G C) {n : Nat} {L : Nat → Option (LSpec × Code)} (hL : LsOk P G L) {ro : Nat} {f : FuncId} {xs : List TV} {T : VT} {K : TV → VT → Prop}
  (h : vcall P G C n L ro f xs T K) : VCx P G ro f xs T K := vcallF_ok hm hB hC hL (F := noOra) h
theorem specsOk_none : SpecsOk P G fun _ => none := fun _ _ h => by cases h
end
end Go.Proofs.YtogbdjlelkepcaaGreatDoor
namespace Go.Proofs.YtogbdjlelkepcaaGreatDoor
open Go.RowKit

section
variable {P : Program} {G : Globs}
def findBlock (id : Nat) : Code → Option Code
 | .block i c => bif Nat.beq i id then some (.block i c) else findBlock id c
 | .seq a b => match findBlock id a with
  | some c => some c
  | none => findBlock id b
 | .cond _ a b => match findBlock id a with
  | some c => some c
  | none => findBlock id b
 | .loop c => findBlock id c
 | .scope c => findBlock id c
 | .rangeFunc _ _ a b => match findBlock id a with
  | some c => some c
  | none => findBlock id b
 | _ => none
def bodyAt (P : Program) (f : FuncId) : Code := match P.funcs[f]? with
 | some fn => fn.body.getD .skip
 | none => .skip
def codeAt (P : Program) (f : FuncId) (id : Nat) : Code := (findBlock id (bodyAt P f)).getD .skip
def insideLoop : Code → Code
 | .block _ (.loop c) => c
 | _ => .skip
def loopAt (P : Program) (f : FuncId) (id : Nat) : Code := insideLoop (codeAt P f id)
def isLoopBlock (id : Nat) : Code → Bool
 | .block i (.loop _) => Nat.beq i id
 | _ => false
theorem isLoopBlock_ok {id : Nat} {c : Code} (h : isLoopBlock id c = true) : c = .block id (.loop (insideLoop c)) := by
 unfold isLoopBlock at h
 split at h
 ·rw [Nat.eq_of_beq_eq_true h]; rfl
 ·cases h

def LEs : List TV → List (Option TV) → Prop
 | [], [] => True
 | _ :: l, none :: m => LEs l m
 | x :: l, some y :: m => x = y ∧ LEs l m
 | _, _ => False
def slots (m : List (Option TV)) : List TV := m.map fun o => o.getD .dead
theorem LEs.ok {g : Gh} {w : World} : ∀ {σ : List TV} {m : List (Option TV)} {us : List Value}, LEs σ m → VRs g w σ us → VRs g w (slots m) us
 | [], [], us, _, h => h
 | x :: l, none :: m, us, k, h => by
  match us, h with
  | [], h => have := h.1; simp at this
  | u :: us, h =>
   have h1 : VRs g w l us := ⟨by have := h.1; simpa using this, fun j y v hy hv => h.2 (j + 1) y v (by simpa using hy) (by simpa using hv)⟩
   exact VRs.cons (.dead u) (LEs.ok (show LEs l m from k) h1)
 | x :: l, some y :: m, us, k, h => by
  obtain ⟨rfl, k⟩ := k
  match us, h with
  | [], h => have := h.1; simp at this
  | u :: us, h =>
   have h1 : VRs g w l us := ⟨by have := h.1; simpa using this, fun j y v hy hv => h.2 (j + 1) y v (by simpa using hy) (by simpa using hv)⟩
   exact VRs.cons (h.2 0 x u rfl rfl) (LEs.ok k h1)
 | [], _ :: _, _, k, _ => k.elim
 | x :: l, [], _, k, _ => k.elim
theorem VWx.sub {rd : Option Nat} {ro : Nat} {c : Code} {σ σ' : List TV} {T : VT} {D : List Nat} {Q : KX} (h : VWx P G rd ro c σ' T D Q) (hs : ∀ g w us, VRs g w σ us → VRs g w σ' us) : VWx P G rd ro c σ T D Q :=
 fun r g w a rw0 hG hσ => h r g w a rw0 hG (hs _ _ _ hσ)

def vnextS {ι : Type} (μ : ι → Nat) (sl : ι → List (Option TV)) (tt : ι → VT) (Inv : ι → Prop) (N M : Nat) (s : ι) (σ : List TV) (T : VT) : Prop :=
 ∃ s', Inv s' ∧ μ s' < μ s ∧ ((T = tt s' ∧ LEs σ (sl s')) ∨ (T.keep N M = tt s' ∧ LEs (renL (Go.Proofs.YtogbdjlelkepcaaGreatDoor.keep N) (Go.Proofs.YtogbdjlelkepcaaGreatDoor.keep M) σ) (sl s')))
theorem VWx.loopS {ι : Type} {rd : Option Nat} {c : Code} {D : List Nat} {Q : KX} (μ : ι → Nat) (sl : ι → List (Option TV)) (tt : ι → VT) (Inv : ι → Prop) (N M : Nat) (hN : ∀ s, Inv s → (tt s).objs.length ≤ N ∧ (tt s).tails.length ≤ M) (hD : ∀ id ∈ D, id < N)
    (hbody : ∀ s, Inv s → VWx P G rd 0 c (slots (sl s)) (tt s) D (vthen (fun σ T D' => D' = D ∧ vnextS μ sl tt Inv N M s σ T) Q)) :
    ∀ s, Inv s → VWx P G rd 0 (.loop c) (slots (sl s)) (tt s) D Q := by
  intro s0 hs0
  refine VWx.loop (fun n σ T D' => ∃ s, Inv s ∧ μ s = n ∧ σ = slots (sl s) ∧ T = tt s ∧ D' = D) (μ s0) ⟨s0, hs0, rfl, rfl, rfl, rfl⟩ ?_
  rintro n σ T D' ⟨s, hs, rfl, rfl, rfl, rfl⟩
  intro r g w a rw0 hG hσ hd hDs hrd
  refine wpIn_mono (hbody s hs r g w a rw0 hG hσ hd hDs hrd) ?_
  rintro e a' w' ⟨g', σ', T', D'', hq, e', r', hσ', hd', hDs', hx⟩
  cases e <;> first
    | exact ⟨g', σ', T', D'', hq, e', r', hσ', hd', hDs', hx⟩
    | (obtain ⟨rfl, s', hs', hlt, ⟨rfl, hle⟩ | ⟨hT, hle⟩⟩ := hq
       · exact ⟨g', _, _, _, ⟨_, hlt, s', hs', rfl, rfl, rfl, rfl⟩, e', r', hle.ok hσ', hd', hDs', hx⟩
       · have hdk : ∀ id ∈ D'', (g'.keep N M).obj id = g'.obj id := fun id hid => by simp [Gh.keep, hD id hid]
         refine ⟨g'.keep N M, _, tt s', D'', ⟨_, hlt, s', hs', rfl, rfl, rfl, rfl⟩, e'.keep rw0 (hN s hs).1 (hN s hs).2, hT ▸ r'.keep N M, hle.ok (hσ'.ren (keep_ren g' N M)), ?_, ?_, ?_⟩
         · rw [hd']
           apply List.map_congr_left
           intro id hid
           simp only [mk, hdk id hid]
         · intro id hid
           rw [hdk id hid]; exact hDs' id hid
         · refine ⟨?_, fun i hi => absurd hi (Nat.not_lt_zero i), fun i o b hi => absurd hi (Nat.not_lt_zero i)⟩
           rw [← hT]
           simp only [VT.keep, List.length_map, List.length_take]
           have h1 := hx.len
           have h2 := (hN s hs).1
           omega)
theorem VWx.blockS {ι : Type} {rd : Option Nat} {f : FuncId} {id : Nat} {D : List Nat} {Q : KX} (hc : isLoopBlock id (codeAt P f id) = true) (μ : ι → Nat) (sl : ι → List (Option TV)) (tt : ι → VT) (Inv : ι → Prop) (N M : Nat) (hN : ∀ s, Inv s → (tt s).objs.length ≤ N ∧ (tt s).tails.length ≤ M) (hD : ∀ id ∈ D, id < N)
  (hbody : ∀ s, Inv s → VWx P G rd 0 (loopAt P f id) (slots (sl s)) (tt s) D (vthen (fun σ T D' => D' = D ∧ vnextS μ sl tt Inv N M s σ T) (vblock id Q))) :
  ∀ s, Inv s → VWx P G rd 0 (codeAt P f id) (slots (sl s)) (tt s) D Q := by
 intro s hs
 rw [isLoopBlock_ok hc]
 exact VWx.block (VWx.loopS μ sl tt Inv N M hN hD hbody s hs)
def GVals (G : Globs) : Prop := ∀ n cs, G n = some cs → ∃ vs : List Value, cs = vs.map .val
theorem GOk.sub {g g' : Gh} {w : World} {f h : Nat → Option Nat} (hv : GVals G) (k : GOk G g w) (r : Ren g g' f h) : GOk G g' w := fun n cs hn => by
 obtain ⟨vs, rfl⟩ := hv n cs hn
 have h1 := (k n _ hn).ren r
 simp only [TV.ren, renL_vals] at h1
 exact h1
theorem VCx.lift {ro : Nat} {f : FuncId} {xs ys : List TV} {T : VT} {Q : TV → VT → Prop} (is ks : List Nat) (hv : GVals G) (hi : is.Nodup) (hk : ks.Nodup) (hil : ∀ i ∈ is, ∃ o, T.objs[i]? = some o ∧ o.live = true) (hkl : ∀ k ∈ ks, k < T.tails.length) (hro : ∀ i ∈ is, ro ≤ i)
  (hx : renL (nameIn is) (nameIn ks) ys = xs) (h : VCx P G 0 f xs (T.give is ks) Q) (hlen : ∀ x T', Q x T' → is.length ≤ T'.objs.length ∧ ks.length ≤ T'.tails.length) :
  VCx P G ro f ys T fun y T'' => ∃ x T', Q x T' ∧ y = x.ren (nameOut T.objs.length is) (nameOut T.tails.length ks) ∧ T'' = T.back is ks T' := by
 intro g w us rw0 hG hxs
 have hargs := hxs.ren (sub_ren g T is ks)
 rw [hx] at hargs
 have hil' : ∀ i ∈ is, i < T.objs.length := fun i h => by obtain ⟨o, h1, _⟩ := hil i h; exact (List.getElem?_eq_some_iff.1 h1).1
 have r1 := rw0.give hi hk hil' hkl
 refine Calls.mono (h _ w _ r1 (hG.sub hv (sub_ren g T is ks)) hargs) ?_
 rintro e w' ⟨v, x, gc, T', rfl, hq, e', r', hv', _⟩
 obtain ⟨l1, l2⟩ := hlen x T' hq
 obtain ⟨g', ev, rb, rn⟩ := join_back rw0 hi hk hil hkl e' r' l1 l2
 obtain ⟨b1, b2, b3, b4⟩ := giveBack_at is T.objs (T'.objs.map (VO.ren (nameOut T.objs.length is) (nameOut T.tails.length ks))) hi hil' (by simpa using l1)
 refine ⟨v, _, g', _, rfl, ⟨x, T', hq, rfl, rfl⟩, ev, rb, hv'.ren rn, ?_, ?_, ?_⟩
 ·show T.objs.length ≤ (giveBack T.objs is _).length
  rw [b1]; omega
 ·intro i hir hil2
  exact b2 i hil2 fun hm => absurd (hro i hm) (by omega)
 ·intro i o b hir ho hl hb
  have hnm : i ∉ is := fun hm => absurd (hro i hm) (by omega)
  exact e'.frb b (.inr (.inl ⟨i, o, ho, hl, hnm, hb⟩))
theorem VCx.liftPure {ro : Nat} {f : FuncId} {xs ys : List TV} {T : VT} {y : TV} {K : TV → VT → Prop} (hv : GVals G) (h : VCx P G 0 f xs ⟨[], []⟩ fun x T' => x = y ∧ T' = ⟨[], []⟩) (hx : renL (nameIn []) (nameIn []) ys = xs) (hy : ∀ f h, y.ren f h = y) (k : K y T) : VCx P G ro f ys T K := by
 refine (VCx.lift (T := T) [] [] hv List.nodup_nil List.nodup_nil (by simp) (by simp) (by simp) hx (by rw [VT.give_nil]; exact h) (fun _ _ _ => ⟨Nat.zero_le _, Nat.zero_le _⟩)).mono ?_
 rintro z T' ⟨x, T'', ⟨rfl, rfl⟩, rfl, rfl⟩
 have hb : T.back [] [] ⟨[], []⟩ = T := by rw [VT.back_nil]; cases T; simp
 rw [hy, hb]; exact k
def specs : List (FuncId × Spec) → FuncId → Option Spec
 | [], _ => none
 | (f, W) :: l, g => bif Nat.beq f g then some W else specs l g
theorem specs_ok : ∀ {l : List (FuncId × Spec)}, (∀ p ∈ l, ∀ ro xs T K, p.2 ro xs T K → VCx P G ro p.1 xs T K) → SpecsOk P G (specs l)
 | [], _ => fun _ _ h => by cases h
 | (f, W) :: l, h => fun g W' hW => by
  simp only [specs] at hW
  cases hb : Nat.beq f g with
  | true =>
   rw [hb] at hW
   injection hW with hW; subst hW
   have := Nat.eq_of_beq_eq_true hb
   subst this
   exact h _ List.mem_cons_self
  | false =>
   rw [hb] at hW
   exact specs_ok (fun p hp => h p (List.mem_cons_of_mem _ hp)) g W' hW
theorem cond_of {b : Bool} {X Y : Prop} (ht : b = true → X) (hf : b = false → Y) : cond b X Y := by
 cases b
 ·exact hf rfl
 ·exact ht rfl
theorem VCx.keepQ {f : FuncId} {xs : List TV} {T : VT} {Q : TV → VT → Prop} (n m : Nat) (hn : T.objs.length ≤ n) (hm : T.tails.length ≤ m) (h : VCx P G 0 f xs T fun x T' => Q (x.ren (Go.Proofs.YtogbdjlelkepcaaGreatDoor.keep n) (Go.Proofs.YtogbdjlelkepcaaGreatDoor.keep m)) (T'.keep n m)) : VCx P G 0 f xs T Q := by
 intro g w us rw0 hG hx
 refine Calls.mono (h g w us rw0 hG hx) ?_
 rintro e w' ⟨v, x, g', T', he, hq, e', r', hv, hfx⟩
 refine ⟨v, _, g'.keep n m, T'.keep n m, he, hq, e'.keep rw0 hn hm, r'.keep n m, hv.ren (keep_ren g' n m), ?_, fun i hi => absurd hi (Nat.not_lt_zero i), fun i o b hi => absurd hi (Nat.not_lt_zero i)⟩
 simp only [VT.keep, List.length_map, List.length_take]
 have h1 := hfx.len
 omega
end
end Go.Proofs.YtogbdjlelkepcaaGreatDoor
namespace Go.Proofs.YtogbdjlelkepcaaGreatDoor
open Go.RowKit

section
variable {P : Program} {w : World}

end

section
variable {P : Program} {w : World} {ops : Array Oper} {a : Act} {dst : Option Tmp} {ty : TypeId} {pos : String} {after : Array Edge}

end
end Go.Proofs.YtogbdjlelkepcaaGreatDoor
namespace Go.Proofs.YtogbdjlelkepcaaGreatDoor
open Go.RowKit

end Go.Proofs.YtogbdjlelkepcaaGreatDoor
namespace Go.Proofs.YtogbdjlelkepcaaGreatDoor
open Go.RowKit

section
variable {P : Program}

def isLoose : TV → Bool
 | .val _ | .ptr .. | .sl .. | .map _ | .dead => true
 | _ => false
def loose (x : TV) : TV := if isLoose x then x else .dead
def turned (size k e : Nat) (n : Nat) (es' : List (List TV)) (σ : List TV) : List TV := σ.map fun x => match x with
 | .vec s es (.tail k' e') => if s = size ∧ k' = k ∧ e' = e ∧ es.length = n then .vec size es' .none else .dead
 | x => loose x
end
end Go.Proofs.YtogbdjlelkepcaaGreatDoor
namespace Go.Proofs.YtogbdjlelkepcaaGreatDoor
open Go.ChangeShapes Go.WideShapes Go.ChangeAt Go.RowKit Go.Joins Go.Deep

def topG (w : World) : Gh := ⟨fun _ => none, fun b o => (w.cell? ⟨b, o, none⟩).isSome = true, fun b => b < w.heap.size, fun _ => none⟩
theorem top_rw (w : World) : RW (topG w) ⟨[], []⟩ w := by
 refine ⟨(fun id o h => by simp at h), (fun i j oi oj b h => by simp at h), (fun _ _ => rfl), (fun _ _ h => h), (fun _ h => h), (fun k p h => by simp at h), (fun _ _ => rfl), (fun i j x y b h => nomatch h), (fun i oi b k x h => by simp at h), (fun k x h => nomatch h), (fun k x h => nomatch h), (fun k x h => nomatch h)⟩
section
variable {H : Type} {enc : TypeId × Value → H} {P : Program} {w : World} {base : Nat} {spare : Nat → Bool} {held : Bool}
end
end Go.Proofs.YtogbdjlelkepcaaGreatDoor
namespace Go.Proofs.YtogbdjlelkepcaaGreatDoor
open Go.ChangeShapes Go.WideShapes Go.ChangeAt Go.RowKit Go.Joins Go.Deep

def isTrueV (x : TV) (_ : VT) : Prop := match x with
 | .val (.bool b) => cond b True False
 | _ => False
theorem VCx.topK {P : Program} {G : Globs} {ro : Nat} {f : FuncId} {xs : List TV} {us : List Value} (h : VCx P G ro f xs ⟨[], []⟩ isTrueV) (w : World) (hG : GOk G (topG w) w) (hx : VRs (topG w) w xs us) :
  Calls P f us.toArray w fun e w' => e = .returned (.bool true) ∧ Gr w w' := by
 refine (h (topG w) w us (top_rw w) hG hx).mono ?_
 rintro e w' ⟨u, x, g', T', rfl, hq, ev, _, hv, _⟩
 unfold isTrueV at hq
 split at hq
 ·rename_i b
  cases b with
  | false => exact hq.elim
  | true =>
   rw [hv.val_inv]
   exact ⟨rfl, ev.os, ev.tape, ev.output, ev.size, fun b hb => ev.frb b hb⟩
 ·exact hq.elim
theorem VCx.trueOnly {P : Program} {G : Globs} {f : FuncId} {xs : List TV} (h : VCx P G 0 f xs ⟨[], []⟩ isTrueV) : VCx P G 0 f xs ⟨[], []⟩ fun x T' => x = .val (.bool true) ∧ T' = ⟨[], []⟩ := by
 refine VCx.keepQ 0 0 (Nat.le_refl _) (Nat.le_refl _) (h.mono fun x T' hx => ?_)
 unfold isTrueV at hx
 split at hx
 ·rename_i b
  cases b with
  | false => exact hx.elim
  | true => exact ⟨rfl, by simp [VT.keep]⟩
 ·exact hx.elim
def trueW : Spec := fun _ ys T K => match ys with
 | [] => K (.val (.bool true)) T
 | _ :: _ => False
theorem trueW_ok {P : Program} {G : Globs} (hv : GVals G) {f : FuncId} (h : VCx P G 0 f [] ⟨[], []⟩ isTrueV) : ∀ ro ys T K, trueW ro ys T K → VCx P G ro f ys T K := by
 intro ro ys T K hk
 unfold trueW at hk
 split at hk
 ·exact VCx.liftPure hv h.trueOnly rfl (fun _ _ => rfl) hk
 ·exact hk.elim
def vtrueC (P : Program) (G : Globs) (C : FuncId → Option Spec) (f : FuncId) (xs : List TV) : Prop := vcall P G C 3000 (fun _ => none) 0 f xs ⟨[], []⟩ isTrueV
theorem vtrueC_vcx {P : Program} {G : Globs} {C : FuncId → Option Spec} (hm : P.follows .mixedOrders = true) (hB : bodiesOk P = true) (hC : SpecsOk P G C) {f : FuncId} {xs : List TV} {X : Prop} (h : vtrueC P G C f xs = X) (hx : X) : VCx P G 0 f xs ⟨[], []⟩ isTrueV := by
 have h1 : vtrueC P G C f xs := by rw [h]; exact hx
 unfold vtrueC at h1
 exact vcall_ok hm hB hC lsOk_none h1
attribute [irreducible] vtrueC

section
variable {H : Type} {enc : TypeId × Value → H} {P : Program} {w : World} {base : Nat} {spare : Nat → Bool} {held : Bool}
theorem leaf_int {m ty : Nat} {u : Value} {y : DataW H × List MemPlace} {k : IntKind} (hk : P.underlying ty = some (.int k)) (h : DataW.trod enc P w base spare held m ty [u] = some y) : ∃ n, u = .int k n ∧ (Lit.int k n).wf = true := by
 obtain ⟨n, e0, _, wn⟩ := DataW.trod_int hk h
 injection e0 with e0
 exact ⟨n, e0, wn⟩
end
end Go.Proofs.YtogbdjlelkepcaaGreatDoor
namespace Go.Proofs.YtogbdjlelkepcaaGreatDoor
open Go.RowKit

section
variable {P : Program} {G : Globs}
def lookO : List Nat → List TV → Nat → Option TV
 | k :: ks, v :: vs, i => bif Nat.beq k i then some v else lookO ks vs i
 | _, _, _ => none
def slotsO (n : Nat) (keys : List Nat) (vs : List TV) : List (Option TV) := (List.range n).map (lookO keys vs)
def slotsN (n : Nat) (keys : List Nat) (vs : List TV) : List TV := slots (slotsO n keys vs)
def pick (keys : List Nat) (σ : List TV) : List TV := keys.map fun t => σ.getD t .dead
theorem lookO_pick (σ : List TV) : ∀ (keys : List Nat) (i : Nat) (x : TV), lookO keys (pick keys σ) i = some x → x = σ.getD i .dead
 | [], _, _, h => by simp [lookO, pick] at h
 | k :: ks, i, x, h => by
  simp only [pick, List.map_cons, lookO] at h
  cases hb : Nat.beq k i with
  | true =>
   rw [hb] at h
   have := Nat.eq_of_beq_eq_true hb
   subst this
   injection h with h; exact h.symm
  | false => rw [hb] at h; exact lookO_pick σ ks i x h
theorem les_of : ∀ (σ : List TV) (m : List (Option TV)), m.length = σ.length → (∀ (i : Nat) x, m[i]? = some (some x) → x = σ.getD i .dead) → LEs σ m
 | [], [], _, _ => trivial
 | [], _ :: _, h, _ => by simp at h
 | _ :: _, [], h, _ => by simp at h
 | x :: l, none :: m, h, k => les_of l m (by simpa using h) fun i y hy => by simpa using k (i + 1) y (by simpa using hy)
 | x :: l, some y :: m, h, k => ⟨by simpa using (k 0 y rfl).symm, les_of l m (by simpa using h) fun i y hy => by simpa using k (i + 1) y (by simpa using hy)⟩
theorem les_pick (σ : List TV) (keys : List Nat) : LEs σ (slotsO σ.length keys (pick keys σ)) := by
 refine les_of _ _ (by simp [slotsO]) fun i x hx => ?_
 simp only [slotsO, List.getElem?_map, Option.map_eq_some_iff] at hx
 obtain ⟨j, hj, hx⟩ := hx
 have e : j = i := by
  have := (List.getElem?_eq_some_iff.1 hj).2
  simpa using this.symm
 subst e
 exact lookO_pick σ keys j x hx
theorem pick_ren (f h : Nat → Option Nat) (keys : List Nat) (σ : List TV) : pick keys (renL f h σ) = renL f h (pick keys σ) := by
 simp only [pick, renL_map, List.map_map]
 refine List.map_congr_left fun t _ => ?_
 simp only [Function.comp_apply, List.getD_eq_getElem?_getD, List.getElem?_map]
 cases σ[t]? <;> simp [TV.ren]
def pickS (keys : List Nat) (Q : Exit → List TV → VT → List Nat → Nat → Prop) : KX := fun e σ T D => Q e (pick keys σ) T D σ.length
theorem VWx.forget {rd : Option Nat} {ro : Nat} {c : Code} {σ : List TV} {T : VT} {n : Nat} {keys : List Nat} {K : KX} {Q : Exit → List TV → VT → Prop} (h : VWx P G rd ro c σ T [] (pickS keys fun e vs T D m => D = [] ∧ m = n ∧ Q e vs T))
  (k : ∀ e vs T, Q e vs T → K e (slotsN n keys vs) T []) : VWx P G rd ro c σ T [] K := by
 intro r g w a rw0 hG hσ hd hD hr
 refine wpIn_mono (h r g w a rw0 hG hσ hd hD hr) ?_
 rintro e a' w' ⟨g', σ', T', D', ⟨rfl, rfl, hq⟩, e', r', hσ', h⟩
 exact ⟨g', _, T', [], k _ _ _ hq, e', r', (les_pick σ' keys).ok hσ', h⟩

def loopQ {ι : Type} (n id : Nat) (μ : ι → Nat) (sl : ι → List TV) (tt : ι → VT) (Inv : ι → Prop) (N M : Nat) (s : ι) (Post : Exit → List TV → VT → Prop) : Exit → List TV → VT → List Nat → Nat → Prop := fun e vs T D m => D = [] ∧ m = n ∧ match e with
 | .normal => ∃ s', Inv s' ∧ μ s' < μ s ∧ ((T = tt s' ∧ vs = sl s') ∨ (T.keep N M = tt s' ∧ renL (Go.Proofs.YtogbdjlelkepcaaGreatDoor.keep N) (Go.Proofs.YtogbdjlelkepcaaGreatDoor.keep M) vs = sl s'))
 | .exit i => cond (Nat.beq i id) (Post .normal vs T) (Post (.exit i) vs T)
 | e => Post e vs T
theorem loopK {ι : Type} {f : FuncId} {id : Nat} (hc : isLoopBlock id (codeAt P f id) = true) (n : Nat) (keys : List Nat) (μ : ι → Nat) (sl : ι → List TV) (tt : ι → VT) (Inv : ι → Prop) (N M : Nat) (hN : ∀ s, Inv s → (tt s).objs.length ≤ N ∧ (tt s).tails.length ≤ M) (Post : Exit → List TV → VT → Prop)
  (hbody : ∀ s, Inv s → VWx P G none 0 (loopAt P f id) (slotsN n keys (sl s)) (tt s) [] (pickS keys (loopQ n id μ sl tt Inv N M s Post))) :
  ∀ s, Inv s → ∀ K : KX, (∀ e vs T, Post e vs T → K e (slotsN n keys vs) T []) → VWx P G none 0 (codeAt P f id) (slotsN n keys (sl s)) (tt s) [] K := by
 intro s hs K hK
 refine VWx.forget (n := n) (keys := keys) (Q := Post) ?_ hK
 refine VWx.blockS hc μ (fun s => slotsO n keys (sl s)) tt Inv N M hN (by simp) (fun s hs => (hbody s hs).mono fun e σ T D hq => ?_) s hs
 obtain ⟨rfl, hm, hq⟩ := hq
 cases e
 case normal =>
  refine ⟨rfl, ?_⟩
  obtain ⟨s', h1, h2, h3⟩ := hq
  refine ⟨s', h1, h2, ?_⟩
  rcases h3 with ⟨h3, h4⟩ | ⟨h3, h4⟩
  ·left; refine ⟨h3, ?_⟩
   show LEs σ (slotsO n keys (sl s'))
   rw [← h4, ← hm]; exact les_pick σ keys
  ·right; refine ⟨h3, ?_⟩
   show LEs _ (slotsO n keys (sl s'))
   rw [← h4, ← pick_ren, ← hm]
   have := les_pick (renL (Go.Proofs.YtogbdjlelkepcaaGreatDoor.keep N) (Go.Proofs.YtogbdjlelkepcaaGreatDoor.keep M) σ) keys
   rwa [show (renL (Go.Proofs.YtogbdjlelkepcaaGreatDoor.keep N) (Go.Proofs.YtogbdjlelkepcaaGreatDoor.keep M) σ).length = σ.length by rw [renL_map]; simp] at this
 case exit i =>
  simp only [vthen, vblock]
  simp only at hq
  cases hb : Nat.beq i id <;> rw [hb] at hq
  ·exact ⟨rfl, hm, hq⟩
  ·exact ⟨rfl, hm, hq⟩
 all_goals exact ⟨rfl, hm, hq⟩
theorem VWx.adopt {rd : Option Nat} {ro : Nat} {c : Code} {σ : List TV} {T : VT} {D : List Nat} {Q : KX} (d size : Nat) (hd : σ[d]? = some (.val (.slice none 0 0)))
  (h : VWx P G rd ro c (σ.set d (.vec size [] (.tail T.tails.length 0))) { T with tails := T.tails ++ [(0, size, true)] } D Q) : VWx P G rd ro c σ T D Q := by
 intro r g w a rw0 hG hσ hdf hDs hrd
 obtain ⟨g1, e1, r1, ht⟩ := rw0.newTail size true
 obtain ⟨u, hu, hv⟩ := hσ.at hd
 have hv' := hv.val_inv
 subst hv'
 have h2 := (hσ.mono e1).set d (x := .vec size [] (.tail T.tails.length 0)) (u := .slice none 0 0) (.nil ⟨_, ht, Nat.le_refl _, rfl⟩)
 have h3 : a.tmps.toList.set d (.slice none 0 0) = a.tmps.toList := by
  apply List.ext_getElem?
  intro j
  rw [List.getElem?_set]
  split
  ·rename_i hj; subst hj; rw [hu, if_pos (List.getElem?_eq_some_iff.1 hu).1]
  ·rfl
 rw [h3] at h2
 refine wpIn_mono (h r g1 w a r1 (hG.mono e1) h2 (hdf.trans (mk_evo e1 hDs).symm) (isSome_evo e1 hDs) (rd_evo e1 hrd)) ?_
 rintro e a' w' ⟨g', σ', T', D', hq, e2, r', hσ', hd', hD', hx⟩
 exact ⟨g', σ', T', D', hq, e1.trans e2, r', hσ', hd', hD', ⟨hx.len, fun i hi hl => hx.same i hi hl, fun i o b hi ho hl hb => hx.heap i o b hi ho hl (e1.obj i b hb)⟩⟩
def adoptAll : List (Nat × Nat) → List TV → VT → List TV × VT
 | [], σ, T => (σ, T)
 | p :: l, σ, T => adoptAll l (σ.set p.1 (.vec p.2 [] (.tail T.tails.length 0))) { T with tails := T.tails ++ [(0, p.2, true)] }
def adoptOk : List (Nat × Nat) → List TV → Prop
 | [], _ => True
 | p :: l, σ => σ[p.1]? = some (.val (.slice none 0 0)) ∧ adoptOk l (σ.set p.1 .dead)
def loopL (n : Nat) (keys : List Nat) (ad : List (Nat × Nat)) (vs0 : List TV) (T0 : VT) (R : KX → Prop) : LSpec := fun rd ro σ T D K => (rd = none ∧ ro = 0 ∧ D = [] ∧ adoptOk ad σ ∧ (adoptAll ad σ T).2 = T0 ∧ Nat.beq σ.length n = true ∧ pick keys (adoptAll ad σ T).1 = vs0) ∧ R K
theorem adopt_all {rd : Option Nat} {ro : Nat} {c : Code} {D : List Nat} {Q : KX} : ∀ (ad : List (Nat × Nat)) (σ σ' : List TV) (T : VT), adoptOk ad σ' → (∀ (i : Nat), σ'[i]? = some (.val (.slice none 0 0)) → σ[i]? = some (.val (.slice none 0 0))) → σ.length = σ'.length →
  VWx P G rd ro c (adoptAll ad σ T).1 (adoptAll ad σ T).2 D Q → VWx P G rd ro c σ T D Q
 | [], _, _, _, _, _, _, h => h
 | p :: l, σ, σ', T, ho, hs, hl, h => by
  obtain ⟨h1, h2⟩ := ho
  refine VWx.adopt p.1 p.2 (hs _ h1) (adopt_all l _ (σ'.set p.1 .dead) _ h2 (fun i hi => ?_) (by simpa using hl) h)
  rw [List.getElem?_set] at hi ⊢
  split
  ·rename_i e; subst e; rw [if_pos rfl] at hi; split at hi <;> simp at hi
  ·rename_i e; rw [if_neg e] at hi; exact hs i hi
theorem adoptAll_len : ∀ (ad : List (Nat × Nat)) (σ : List TV) (T : VT), (adoptAll ad σ T).1.length = σ.length
 | [], _, _ => rfl
 | p :: l, σ, T => by rw [adoptAll, adoptAll_len l]; simp
theorem loopL_ok {c : Code} {n : Nat} {keys : List Nat} {ad : List (Nat × Nat)} {vs0 : List TV} {T0 : VT} {R : KX → Prop} (h : ∀ K, R K → VWx P G none 0 c (slotsN n keys vs0) T0 [] K) :
  ∀ rd ro σ T D K, loopL n keys ad vs0 T0 R rd ro σ T D K → VWx P G rd ro c σ T D K := by
 rintro rd ro σ T D K ⟨⟨rfl, rfl, rfl, ha, rfl, hn, rfl⟩, hR⟩
 obtain rfl := Nat.eq_of_beq_eq_true hn
 refine adopt_all ad σ σ T ha (fun _ h => h) rfl ((h K hR).sub fun g w us hu => ?_)
 have := (les_pick (adoptAll ad σ T).1 keys).ok hu
 rwa [adoptAll_len] at this
def specsL : List (Nat × LSpec × Code) → Nat → Option (LSpec × Code)
 | [], _ => none
 | (i, W, c) :: l, j => bif Nat.beq i j then some (W, c) else specsL l j
theorem specsL_ok : ∀ {l : List (Nat × LSpec × Code)}, (∀ p ∈ l, ∀ rd ro σ T D K, p.2.1 rd ro σ T D K → VWx P G rd ro p.2.2 σ T D K) → LsOk P G (specsL l)
 | [], _ => fun _ _ _ h => by cases h
 | (i, W, c) :: l, h => fun j W' c' hW => by
  simp only [specsL] at hW
  cases hb : Nat.beq i j with
  | true =>
   rw [hb] at hW
   injection hW with hW; injection hW with h1 h2; subst h1 h2
   exact h _ List.mem_cons_self
  | false =>
   rw [hb] at hW
   exact specsL_ok (fun p hp => h p (List.mem_cons_of_mem _ hp)) j W' c' hW

def pureAt (xs : List TV) (y : TV) : Spec := fun _ ys T K => ys = xs ∧ K y T
theorem pureAt_ok {f : FuncId} {xs : List TV} {y : TV} (hv : GVals G) (hx : renL (nameIn []) (nameIn []) xs = xs) (hy : ∀ f h, y.ren f h = y) (h : VCx P G 0 f xs ⟨[], []⟩ fun x T' => x = y ∧ T' = ⟨[], []⟩) :
  ∀ ro ys T K, pureAt xs y ro ys T K → VCx P G ro f ys T K := by
 rintro ro ys T K ⟨rfl, hk⟩
 exact VCx.liftPure hv h hx hy hk
theorem vx_is {C : FuncId → Option Spec} (hm : P.follows .mixedOrders = true) (hB : bodiesOk P = true) (hC : SpecsOk P G C) {F : Ora} {n : Nat} {L : Nat → Option (LSpec × Code)} (hL : LsOk P G L) {rd : Option Nat} {ro : Nat} {c : Code} {σ : List TV} {T : VT} {D : List Nat} {K : KX} {X : Prop}
  (h : vx P G C F n L rd ro c σ T D K = X) (hx : X) : VWx P G rd ro c σ T D K := vx_ok hm hB hC n n (Nat.le_refl _) F L hL _ _ _ _ _ _ _ (by rw [h]; exact hx)
theorem vcallF_is {C : FuncId → Option Spec} (hm : P.follows .mixedOrders = true) (hB : bodiesOk P = true) (hC : SpecsOk P G C) {F : Ora} {n : Nat} {L : Nat → Option (LSpec × Code)} (hL : LsOk P G L) {ro : Nat} {f : FuncId} {xs : List TV} {T : VT} {K : TV → VT → Prop} {X : Prop}
  (h : vcallF P G C F n L ro f xs T K = X) (hx : X) : VCx P G ro f xs T K := vcallF_ok hm hB hC hL (by rw [h]; exact hx)

theorem vindex_vec {t e : TypeId} {inf : TypeInfo} {es : List (List TV)} {tok : Tok} {k : IntKind} {z : Int} {cs : List TV} (ht : P.underlying t = some (.slice e)) (hi : P.info? e = some inf) (h0 : 0 ≤ z) (he : es[z.toNat]? = some cs) :
  vindexAddr P t (.vec inf.size es tok) (.val (.int k z)) = some (.elt cs) := by
 simp [vindexAddr, ht, hi, h0, he]
theorem opure_index {t e : TypeId} {x i : Operand} {l : List (Nat × TV)} {inf : TypeInfo} {es : List (List TV)} {tok : Tok} {k : IntKind} {z : Int} {cs : List TV} (ht : P.underlying t = some (.slice e)) (hi : P.info? e = some inf)
  (hx : evOf G l x = .vec inf.size es tok) (hz : evOf G l i = .val (.int k z)) (h0 : 0 ≤ z) (he : es[z.toNat]? = some cs) : OPure P G (.indexAddr t x i) l (.elt cs) := by
 refine ⟨?_⟩
 simp only [vpure2, hx, hz, vindexR, vindex_vec ht hi h0 he]
end
end Go.Proofs.YtogbdjlelkepcaaGreatDoor
namespace Go.Proofs.YtogbdjlelkepcaaGreatDoor
open Go.RowKit

section
variable {P : Program} {G : Globs}
def looseTV : TV → TV
 | .vec s es _ => .vec s es .none
 | x => x
theorem looseTV_ok {g : Gh} {w : World} {x : TV} {u : Value} (h : VR g w x u) : VR g w (looseTV x) u := by
 cases x with
 | vec s es t =>
  rcases h.vec_inv with ⟨rfl, rfl, h1⟩ | ⟨b, o, c, us, rfl, f1, f2, f3, f4, f5, f6, f7, f8⟩ | ⟨a, rfl, rfl, _⟩
  rotate_left 2
  ·exact .odd a trivial
  ·exact .nil trivial
  ·exact .mk_vec rfl f1 f2 f3 trivial f5 f6 f7 f8
 | _ => exact h
theorem opure_hi {t e : TypeId} {x i : Operand} {l : List (Nat × TV)} {inf : TypeInfo} {es : List (List TV)} {tok : Tok} {k : IntKind} {z : Int} (ht : P.underlying t = some (.slice e)) (hi : P.info? e = some inf)
  (hx : evOf G l x = .vec inf.size es tok) (hz : evOf G l i = .val (.int k z)) (h0 : 0 ≤ z) (he : z.toNat ≤ es.length) : OPure P G (.slice t x none (some i) none) l (.vec inf.size (es.take z.toNat) .none) := by
 refine ⟨?_⟩
 simp [vpure2, hx, hz, vslice3, vsliceR, vsliceN, vslice, ht, hi, lowOf, natOf, h0, he]
theorem opure_lo {t e : TypeId} {x i : Operand} {l : List (Nat × TV)} {inf : TypeInfo} {es : List (List TV)} {tok : Tok} {k : IntKind} {z : Int} (ht : P.underlying t = some (.slice e)) (hi : P.info? e = some inf)
  (hx : evOf G l x = .vec inf.size es tok) (hz : evOf G l i = .val (.int k z)) (h0 : 0 ≤ z) (he : z.toNat ≤ es.length) : OPure P G (.slice t x (some i) none none) l (.vec inf.size (es.drop z.toNat) tok) := by
 refine ⟨?_⟩
 simp [vpure2, hx, hz, vslice3, vsliceR, vsliceN, vslice, ht, hi, lowOf, natOf, h0, he]
theorem oturn_app {ro : Nat} {T T1 : VT} {t e tx : TypeId} {s x : Operand} {l : List (Nat × TV)} {inf : TypeInfo} {z : Value} {es es2 : List (List TV)} {k n : Nat} {bn : Bool} (ht : P.underlying t = some (.slice e)) (hi : P.info? e = some inf) (hz : inf.zero = some z) (hzs : z.cells.size = inf.size) (hp : 0 < inf.size)
  (hsl : isSl (P.underlying tx) = true) (hs : vadopt T inf.size (evOf G l s) = some (es, k, n, bn, T1)) (hx : srcOf inf.size (evOf G l x) = some es2) (hb : (es.length + es2.length) * (inf.bytes + 1) ≤ 140737488355328) :
  OTurn P G ro T (.call ⟨.builtin .append, #[s, x], #[t, tx]⟩) l (.vec inf.size (es ++ es2) (.tail k (n + es2.length))) { T1 with tails := T1.tails.set k (n + es2.length, inf.size, bn) } := by
 refine .old rfl ?_
 have h1 : vappend P T t tx (evOf G l s) (evOf G l x) = some (.vec inf.size (es ++ es2) (.tail k (n + es2.length)), { T1 with tails := T1.tails.set k (n + es2.length, inf.size, bn) }) := by
  simp [vappend, ht, hi, hz, hs, hx, hzs, hp, hsl, hb]
 simp [vop, vread, vcalls, vwrite, h1]
end
end Go.Proofs.YtogbdjlelkepcaaGreatDoor
namespace Go.Proofs.YtogbdjlelkepcaaGreatDoor
open Go.RowKit

section
variable {P : Program} {G : Globs}
theorem VRs.loose {g : Gh} {w : World} {xs : List TV} {us : List Value} (h : VRs g w xs us) : VRs g w (xs.map looseTV) us := by
 refine ⟨by simpa using h.1, fun j x u hx hu => ?_⟩
 simp only [List.getElem?_map, Option.map_eq_some_iff] at hx
 obtain ⟨y, hy, rfl⟩ := hx
 exact looseTV_ok (h.2 j y u hy hu)
theorem VCx.loose {ro : Nat} {f : FuncId} {xs : List TV} {T : VT} {Q : TV → VT → Prop} (h : VCx P G ro f (xs.map looseTV) T Q) : VCx P G ro f xs T Q := fun g w us r hG hx => h g w us r hG hx.loose
theorem VCx.loosePure {ro : Nat} {f : FuncId} {xs ys : List TV} {T : VT} {y : TV} {K : TV → VT → Prop} (hv : GVals G) (h : VCx P G 0 f xs ⟨[], []⟩ fun x T' => x = y ∧ T' = ⟨[], []⟩) (hy : ys.map looseTV = xs) (hx : renL (nameIn []) (nameIn []) xs = xs) (hr : ∀ f h, y.ren f h = y) (k : K y T) : VCx P G ro f ys T K :=
 VCx.loose (VCx.liftPure hv h (by rw [hy]; exact hx) hr k)
theorem condF {b : Bool} {X Y : Prop} (h : b = false) (k : Y) : cond b X Y := by subst h; exact k
theorem condT {b : Bool} {X Y : Prop} (h : b = true) (k : X) : cond b X Y := by subst h; exact k
end
end Go.Proofs.YtogbdjlelkepcaaGreatDoor
