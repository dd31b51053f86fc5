/- Code, on what a walk knows. For any program. -/
import Derived.Test.YtapfboldkkodkaaGreatDoorValC
namespace Go.Proofs.YtapfboldkkodkaaGreatDoor
open Go.RowKit

section
variable {P : Program}

/-! ### Operations -/
def veval (σ : List TV) : Operand → TV
  | .tmp t => σ.getD t .dead
  | .const v => .val v
  | .global g => .val (.pointer (some ⟨g, 0, none⟩))
  | .func f => .fn (.func f) [] []
theorem veval_ok {g : Gh} {w : World} {σ : List TV} {a : Act} (h : VRs g w σ a.tmps.toList) (x : Operand) : VR g w (veval σ x) (a.eval x) := by
  cases x with
  | tmp t =>
    simp only [veval, Act.eval, List.getD_eq_getElem?_getD]
    cases hx : σ[t]? with
    | none => exact .dead _
    | some y =>
      obtain ⟨u, h1, h2⟩ := h.at hx
      have : a.tmps.getD t undef = u := by
        rw [Array.getD_eq_getD_getElem?]
        simp only [Array.getElem?_toList] at h1
        rw [h1]; rfl
      rw [this]; exact h2
  | const v => exact .val v
  | global k => exact .val _
  | func f => exact .fn (us := []) (vs := []) rfl (fun j x u h => by simp at h) rfl (fun j x u h => by simp at h)
def vput (σ : List TV) (d : Option Tmp) (x : TV) : List TV := match d with
  | some d => σ.set d x
  | none => σ
theorem vput_ok {g : Gh} {w : World} {σ : List TV} {a : Act} (h : VRs g w σ a.tmps.toList) (d : Option Tmp) {x : TV} {v : Value} (k : VR g w x v) : VRs g w (vput σ d x) (a.put d v).tmps.toList := by
  cases d with
  | none => exact h
  | some d => simpa [vput, Act.put] using h.set d k
theorem put_defers (a : Act) (d : Option Tmp) (v : Value) : (a.put d v).defers = a.defers := by cases d <;> rfl

def vwrite (P : Program) (T : VT) (op : Op) (ev : Operand → TV) : Option (TV × VT) := match op with
  | .alloc e => valloc P T e
  | .box _ x => vbox T (ev x)
  | .store t a x => vstore P T t (ev a) (ev x)
  | .build t ps => (vbuild P t (ps.toList.map fun p => (p.1, ev p.2))).map fun y => (y, T)
  | .buildSlice t n ps => (vbuildSlice P t n (ps.toList.map fun p => (p.1, ev p.2))).map fun y => (y, T)
  | .call c => match c.callee, c.argTypes.toList, c.args.toList with
    | .builtin .append, [t, tx], [s, x] => vappend P T t tx (ev s) (ev x)
    | _, _, _ => none
  | _ => none
def vop (P : Program) (T : VT) (op : Op) (ev : Operand → TV) : Option (TV × VT) := match vread P T op ev with
  | some x => some (x, T)
  | none => vwrite P T op ev
def nextVal : Next → Option Value
  | .value v => some v
  | .skip => some undef
  | _ => none
theorem Does.next {g : Gh} {T T' : VT} {w : World} {s : Sem Value} {y : TV} {n : Sem Next} (h : Does P g T w s y T') (e : n = (do pure (.value (← s)))) :
    ∃ m v g' w', n.run P w = .ok m w' ∧ nextVal m = some v ∧ VR g' w' y v ∧ Evo g w g' w' ∧ RW g' T' w' := by
  obtain ⟨v, g', w', h1, h2, h3, h4, _⟩ := h
  exact ⟨.value v, v, g', w', by subst e; simp [h1], rfl, h2, h3, h4⟩
theorem parts_rel {g : Gh} {w : World} {ev : Operand → TV} {ρ : Operand → Value} (hev : ∀ x, VR g w (ev x) (ρ x)) (ps : Array (Nat × Operand)) :
    (ps.map fun (i, x) => (i, ρ x)).toList.length = (ps.toList.map fun p => (p.1, ev p.2)).length ∧
    ∀ (j : Nat) p q, (ps.toList.map fun p => (p.1, ev p.2))[j]? = some p → (ps.map fun (i, x) => (i, ρ x)).toList[j]? = some q → q.1 = p.1 ∧ VR g w p.2 q.2 := by
  refine ⟨by simp, fun j p q hp hq => ?_⟩
  simp only [Array.toList_map, List.getElem?_map, Option.map_eq_some_iff] at hp hq
  obtain ⟨a, h1, rfl⟩ := hp
  obtain ⟨b, h2, rfl⟩ := hq
  rw [h1] at h2; injection h2 with h2; subst h2
  exact ⟨rfl, hev _⟩
theorem vop_ok {g : Gh} {T T' : VT} {w : World} (r : RW g T w) {o : Oper} {ev : Operand → TV} {ρ : Operand → Value} {y : TV} (h : vop P T o.op ev = some (y, T')) (hev : ∀ x, VR g w (ev x) (ρ x)) :
    ∃ m v g' w', (execOp ρ o).run P w = .ok m w' ∧ nextVal m = some v ∧ VR g' w' y v ∧ Evo g w g' w' ∧ RW g' T' w' := by
  unfold vop at h
  split at h
  · rename_i x hx
    injection h with h; injection h with h1 h2; subst h1 h2
    obtain ⟨v, h1, h2⟩ := vread_ok r hx hev
    exact ⟨_, v, g, w, h2 w (Same.refl _ _ _), rfl, h1, Evo.refl _ _, r⟩
  · rename_i hnone; clear hnone
    obtain ⟨dst, op, ty, pos, af, gd⟩ := o
    simp only at h
    cases op <;> simp only [vwrite] at h <;> try (cases h)
    case alloc e => exact (valloc_ok (P := P) r h).next rfl
    case box e x => exact (vbox_ok (P := P) (t := e) r h (hev x)).next rfl
    case store t a x =>
      obtain ⟨g', w', h1, h2⟩ := vstore_ok r h (hev a) (hev x)
      exact ⟨.skip, undef, g', w', by simp [execOp, h1], rfl, h2⟩
    case build t ps =>
      simp only [Option.map_eq_some_iff] at h
      obtain ⟨y', h, e⟩ := h
      injection e with e1 e2; subst e1 e2
      obtain ⟨h1, h2⟩ := parts_rel hev ps
      obtain ⟨v, h3, h4⟩ := vbuild_ok h h1 h2
      exact ⟨.value v, v, g, w, by simp only [execOp, Sem.run_bind, h4, Result.andThen_ok, Sem.run_pure], rfl, h3, Evo.refl _ _, r⟩
    case buildSlice t n ps =>
      simp only [Option.map_eq_some_iff] at h
      obtain ⟨y', h, e⟩ := h
      injection e with e1 e2; subst e1 e2
      obtain ⟨h1, h2⟩ := parts_rel hev ps
      exact (vbuildSlice_ok r h h1 h2).next rfl
    case call c =>
      obtain ⟨cal, args, ats⟩ := c
      split at h
      · rename_i t tx s x hc h1 h2
        simp only at hc h1 h2
        subst hc
        have e1 : ats = #[t, tx] := by rw [← Array.toArray_toList (xs := ats), h1]
        have e2 : args = #[s, x] := by rw [← Array.toArray_toList (xs := args), h2]
        subst e1 e2
        exact (vappend_ok (ty := ty) r h (hev s) (hev x)).next (by simp [execOp, resolve, invoke, builtin])
      · cases h

/-- an operation, and what goes on behind it -/
def VP (P : Program) (o : Oper) (σ : List TV) (T : VT) (K : List TV → VT → Prop) : Prop :=
  ∀ g w (a : Act) (next : Act → World → Prop) (Q : Exit → Act → World → Prop), RW g T w → VRs g w σ a.tmps.toList → a.defers = [] →
    (∀ σ' T' g' w' (a' : Act), K σ' T' → Evo g w g' w' → RW g' T' w' → VRs g' w' σ' a'.tmps.toList → a'.defers = [] → next a' w') → o.wp P a w next Q
theorem VP.op {o : Oper} {σ : List TV} {T T' : VT} {K : List TV → VT → Prop} {y : TV} (h : vop P T o.op (veval σ) = some (y, T')) (k : K (vput σ o.dst y) T') : VP P o σ T K := by
  intro g w a next Q r hσ hd hn
  obtain ⟨m, v, g', w', h1, h2, h3, h4, h5⟩ := vop_ok r h (veval_ok hσ)
  unfold Oper.wp
  rw [h1]
  have e : ∀ v', VR g' w' y v' → next (a.put o.dst v') w' := fun v' hv => hn _ _ g' w' _ k h4 h5 (vput_ok (hσ.mono h4) o.dst hv) (by rw [put_defers]; exact hd)
  cases m <;> simp only [nextVal] at h2 <;> try (cases h2)
  · exact e v h3
  · exact e undef h3
theorem run_call {o : Oper} {fo : Operand} {args : Array Operand} {ats : Array TypeId} (ho : o.op = .call ⟨.value fo, args, ats⟩) {ρ : Operand → Value} {f : FuncId} {fi ca : List Value} (hf : ρ fo = .func (.func f) fi.toArray ca.toArray)
    {fn : Func} (hfn : P.funcs[f]? = some fn) (hb : fn.body.isSome = true) (hnm : (fn.name == "runtime.NumGoroutine") = false) (w : World) :
    (execOp ρ o).run P w = .ok (.enter f (fi ++ args.toList.map ρ ++ ca).toArray) w := by
  obtain ⟨dst, op, ty, pos, af, gd⟩ := o
  simp only at ho; subst ho
  have hb' : fn.body ≠ none := by intro h; rw [h] at hb; cases hb
  have hnm' : fn.name ≠ "runtime.NumGoroutine" := by simpa using hnm
  simp [execOp, resolve, hf, Deferred.ofValue, invoke, callFunc, hfn, hnm', hb', amap]
/-- a call, within the caller's greater world: is, ks: the objects and tails that it gets -/
theorem VP.call {o : Oper} {fo : Operand} {args : Array Operand} {ats : Array TypeId} {σ : List TV} {T : VT} {K : List TV → VT → Prop} {f : FuncId} {fn : Func} {fi ca xs : List TV} {Q : TV → VT → Prop} (is ks : List Nat)
    (ho : o.op = .call ⟨.value fo, args, ats⟩) (hf : veval σ fo = .fn (.func f) fi ca) (hfn : P.funcs[f]? = some fn) (hb : fn.body.isSome = true) (hnm : (fn.name == "runtime.NumGoroutine") = false)
    (hi : is.Nodup) (hk : ks.Nodup) (hil : ∀ i ∈ is, ∃ o, T.objs[i]? = some o ∧ o.live = true) (hkl : ∀ k ∈ ks, k < T.tails.length)
    (hx : renL (nameIn is) (nameIn ks) (fi ++ args.toList.map (veval σ) ++ ca) = xs) (hc : VCalls P f xs (T.give is ks) Q)
    (k : ∀ x T', Q x T' → is.length ≤ T'.objs.length ∧ ks.length ≤ T'.tails.length ∧ K (vput σ o.dst (x.ren (nameOut T.objs.length is) (nameOut T.tails.length ks))) (T.back is ks T')) : VP P o σ T K := by
  intro g w a next Q' r hσ hd hn
  have h1 := veval_ok hσ fo
  rw [hf] at h1
  obtain ⟨us, vs, h2, h3, h4⟩ := h1.fn_inv
  have hrun := run_call ho h2 hfn hb hnm w
  have hargs := (h3.app (map_rel (veval_ok hσ) args.toList)).app h4
  have hil' : ∀ i ∈ is, i < T.objs.length := fun i h => by obtain ⟨o, h1, _⟩ := hil i h; exact (List.getElem?_eq_some_iff.1 h1).1
  have hargs2 := hargs.ren (sub_ren g T is ks)
  rw [hx] at hargs2
  have hcall := hc _ w _ (r.give hi hk hil' hkl) hargs2
  unfold Oper.wp
  rw [hrun]
  refine Calls.mono hcall ?_
  rintro e w' ⟨v, x, gc, T', rfl, hq, e', r', hv⟩
  obtain ⟨l1, l2, hK⟩ := k x T' hq
  obtain ⟨g', ev, rb, rn⟩ := join_back r hi hk hil hkl e' r' l1 l2
  exact hn _ _ g' w' _ hK ev rb (vput_ok (hσ.mono ev) o.dst (hv.ren rn)) (by rw [put_defers]; exact hd)

/-! ### Regions that do not draw -/
def vyield (ops : Array Oper) (σ : List TV) (j : Nat) : Option (Option Bool) := match (ops[j]?).bind (·.dst) with
  | none => some none
  | some d => match σ[d]? with
    | some (.val (.bool b)) => some (some b)
    | some (.val (.tuple _)) => some none
    | none => some none
    | _ => none
def vwanted (ops : Array Oper) (σ : List TV) (o : Oper) : Option Bool := match o.guard with
  | none => some true
  | some (j, want) => (vyield ops σ j).map fun y => y == some want
theorem vwanted_ok {g : Gh} {w : World} {ops : Array Oper} {σ : List TV} {a : Act} {o : Oper} {b : Bool} (h : vwanted ops σ o = some b) (hσ : VRs g w σ a.tmps.toList) : Region.wanted o (yielded ops a.tmps) = b := by
  unfold vwanted at h
  unfold Region.wanted
  split at h
  · rename_i hg; rw [hg]; injection h
  · rename_i j want hg
    rw [hg]
    simp only [Option.map_eq_some_iff] at h
    obtain ⟨y, h1, rfl⟩ := h
    suffices yielded ops a.tmps j = y by simp only [this]
    unfold vyield at h1
    unfold yielded
    cases hd : (ops[j]?).bind (·.dst) with
    | none => rw [hd] at h1; injection h1 with h1
    | some d =>
      rw [hd] at h1
      simp only [Option.bind_some] at h1 ⊢
      cases hs : σ[d]? with
      | none =>
        rw [hs] at h1; injection h1 with h1; subst h1
        have : a.tmps[d]? = none := by
          rw [List.getElem?_eq_none_iff] at hs
          rw [Array.getElem?_eq_none]
          have := hσ.1
          simp at this; omega
        rw [this]
      | some x =>
        rw [hs] at h1
        obtain ⟨u, hu, hv⟩ := hσ.at hs
        simp only [Array.getElem?_toList] at hu
        rw [hu]
        split at h1
        · rename_i b hx; injection hx with hx; subst hx; injection h1 with h1; subst h1; rw [hv.val_inv]
        · rename_i l hx; injection hx with hx; subst hx; injection h1 with h1; subst h1; rw [hv.val_inv]
        · rename_i hx; cases hx
        · cases h1
/-- the operations of a region, in order -/
def VL (P : Program) (ops : Array Oper) (K : List TV → VT → Prop) : List Oper → List TV → VT → Prop
  | [], σ, T => K σ T
  | o :: l, σ, T => (vwanted ops σ o = some true ∧ VP P o σ T (VL P ops K l)) ∨ (vwanted ops σ o = some false ∧ VL P ops K l (vput σ o.dst (.val undef)) T)
/-- code, and what goes on behind it -/
def VW (P : Program) (c : Code) (σ : List TV) (T : VT) (Q : Exit → List TV → VT → Prop) : Prop :=
  ∀ g w (a : Act), RW g T w → VRs g w σ a.tmps.toList → a.defers = [] →
    c.wp P (fun e a' w' => ∃ g' σ' T', Q e σ' T' ∧ Evo g w g' w' ∧ RW g' T' w' ∧ VRs g' w' σ' a'.tmps.toList ∧ a'.defers = []) a w
theorem VL.ok {ops : Array Oper} {K : List TV → VT → Prop} {QQ : Exit → Act → World → Prop} : ∀ (js : List Nat) (l : List Oper), js.map (ops[·]?) = l.map some → ∀ (σ : List TV) (T : VT), VL P ops K l σ T → ∀ g w (a : Act), RW g T w → VRs g w σ a.tmps.toList → a.defers = [] →
    (∀ σ' T' g' w' (a' : Act), K σ' T' → Evo g w g' w' → RW g' T' w' → VRs g' w' σ' a'.tmps.toList → a'.defers = [] → QQ .normal a' w') → wpOps P ops QQ js a w
  | [], [], _, σ, T, h, g, w, a, r, hσ, hd, hq => hq σ T g w a h (Evo.refl _ _) r hσ hd
  | [], _ :: _, hl, _, _, _, _, _, _, _, _, _, _ => by simp at hl
  | _ :: _, [], hl, _, _, _, _, _, _, _, _, _, _ => by simp at hl
  | j :: js, o :: l, hl, σ, T, h, g, w, a, r, hσ, hd, hq => by
    simp only [List.map_cons, List.cons.injEq] at hl
    obtain ⟨ho, hl⟩ := hl
    simp only [wpOps, ho]
    rcases h with ⟨hw, h⟩ | ⟨hw, h⟩
    · rw [if_pos (vwanted_ok hw hσ)]
      exact .inl (h g w a _ QQ r hσ hd fun σ' T' g' w' a' hk e r' hσ' hd' => VL.ok js l hl σ' T' hk g' w' a' r' hσ' hd' fun σ'' T'' g'' w'' a'' hk' e' => hq σ'' T'' g'' w'' a'' hk' (e.trans e'))
    · rw [if_neg (by rw [vwanted_ok hw hσ]; exact Bool.false_ne_true)]
      exact VL.ok js l hl _ T h g w _ r (vput_ok hσ o.dst (.val undef)) (by rw [put_defers]; exact hd) hq
theorem VW.region {id : Nat} {l : List Oper} {σ : List TV} {T : VT} {Q : Exit → List TV → VT → Prop} (h : VL P l.toArray (Q .normal) l σ T) : VW P (.region id l.toArray false) σ T Q := by
  intro g w a r hσ hd
  refine wp_region (VL.ok (List.range l.length) l ?_ σ T h g w a r hσ hd fun σ' T' g' w' a' hk e r' hσ' hd' => ⟨g', σ', T', hk, e, r', hσ', hd'⟩)
  apply List.ext_getElem?
  intro j
  simp only [List.getElem?_map, List.getElem?_toArray]
  rcases Nat.lt_or_ge j l.length with h | h
  · simp [h]
  · simp [List.getElem?_eq_none h, List.getElem?_eq_none (l := List.range l.length) (by simpa using h)]
theorem VL.nil {ops : Array Oper} {K : List TV → VT → Prop} {σ : List TV} {T : VT} (h : K σ T) : VL P ops K [] σ T := h
theorem VL.op {ops : Array Oper} {K : List TV → VT → Prop} {o : Oper} {l : List Oper} {σ : List TV} {T T' : VT} {y : TV} (hg : vwanted ops σ o = some true) (h : vop P T o.op (veval σ) = some (y, T')) (k : VL P ops K l (vput σ o.dst y) T') : VL P ops K (o :: l) σ T :=
  .inl ⟨hg, .op h k⟩
theorem VL.skip {ops : Array Oper} {K : List TV → VT → Prop} {o : Oper} {l : List Oper} {σ : List TV} {T : VT} (hg : vwanted ops σ o = some false) (k : VL P ops K l (vput σ o.dst (.val undef)) T) : VL P ops K (o :: l) σ T := .inr ⟨hg, k⟩

/-! ### Code -/
theorem VW.mono {c : Code} {σ : List TV} {T : VT} {Q Q' : Exit → List TV → VT → Prop} (h : VW P c σ T Q) (k : ∀ e σ T, Q e σ T → Q' e σ T) : VW P c σ T Q' :=
  fun g w a r hσ hd => wp_mono (h g w a r hσ hd) fun e a' w' ⟨g', σ', T', hq, h⟩ => ⟨g', σ', T', k _ _ _ hq, h⟩
theorem VW.skip {σ : List TV} {T : VT} {Q : Exit → List TV → VT → Prop} (h : Q .normal σ T) : VW P .skip σ T Q := fun g w _ r hσ hd => wp_skip ⟨g, σ, T, h, Evo.refl g w, r, hσ, hd⟩
theorem VW.exit {id : Nat} {σ : List TV} {T : VT} {Q : Exit → List TV → VT → Prop} (h : Q (.exit id) σ T) : VW P (.exit id) σ T Q := fun g w _ r hσ hd => wp_exit ⟨g, σ, T, h, Evo.refl g w, r, hσ, hd⟩
theorem VW.ret {σ : List TV} {T : VT} {Q : Exit → List TV → VT → Prop} (h : Q .ret σ T) : VW P .ret σ T Q := fun g w _ r hσ hd => wp_ret ⟨g, σ, T, h, Evo.refl g w, r, hσ, hd⟩
def Vthen (K : List TV → VT → Prop) (Q : Exit → List TV → VT → Prop) : Exit → List TV → VT → Prop
  | .normal, σ, T => K σ T
  | e, σ, T => Q e σ T
theorem VW.seq {x y : Code} {σ : List TV} {T : VT} {Q : Exit → List TV → VT → Prop} (h : VW P x σ T (Vthen (fun σ T => VW P y σ T Q) Q)) : VW P (.seq x y) σ T Q := by
  intro g w a r hσ hd
  refine wp_seq (wp_mono (h g w a r hσ hd) ?_)
  rintro e a' w' ⟨g', σ', T', hq, e1, r', hσ', hd'⟩
  cases e <;> first
    | exact ⟨g', σ', T', hq, e1, r', hσ', hd'⟩
    | exact wp_mono (hq g' w' a' r' hσ' hd') fun e a'' w'' ⟨g'', σ'', T'', hq', e2, h⟩ => ⟨g'', σ'', T'', hq', e1.trans e2, h⟩
theorem VW.cond {c : Operand} {x y : Code} {σ : List TV} {T : VT} {Q : Exit → List TV → VT → Prop} {b : Bool} (hc : veval σ c = .val (.bool b)) (ht : b = true → VW P x σ T Q) (hf : b = false → VW P y σ T Q) : VW P (.cond c x y) σ T Q := by
  intro g w a r hσ hd
  have h1 := veval_ok hσ c
  rw [hc] at h1
  exact wp_cond_split h1.val_inv (fun h => ht h g w a r hσ hd) (fun h => hf h g w a r hσ hd)
def Vblock (id : Nat) (Q : Exit → List TV → VT → Prop) : Exit → List TV → VT → Prop
  | .exit id', σ, T => if id' = id then Q .normal σ T else Q (.exit id') σ T
  | e, σ, T => Q e σ T
theorem VW.block {id : Nat} {c : Code} {σ : List TV} {T : VT} {Q : Exit → List TV → VT → Prop} (h : VW P c σ T (Vblock id Q)) : VW P (.block id c) σ T Q := by
  intro g w a r hσ hd
  refine wp_block (wp_mono (h g w a r hσ hd) ?_)
  rintro e a' w' ⟨g', σ', T', hq, h⟩
  cases e <;> first
    | exact ⟨g', σ', T', hq, h⟩
    | (simp only [Exit.inBlock]; simp only [Vblock] at hq; split at hq <;> rename_i hid <;> simp only [hid, if_true, if_false] <;> exact ⟨g', σ', T', hq, h⟩)
theorem VW.scope {c : Code} {σ : List TV} {T : VT} {Q : Exit → List TV → VT → Prop} (h : VW P c σ T fun e σ T => (∀ l, e ≠ .goto l) ∧ Q e σ T) : VW P (.scope c) σ T Q := by
  intro g w a r hσ hd
  refine wp_scope_straight (wp_mono (h g w a r hσ hd) ?_)
  rintro e a' w' ⟨g', σ', T', ⟨hng, hq⟩, h⟩
  cases e <;> first
    | exact ⟨g', σ', T', hq, h⟩
    | exact absurd rfl (hng _)
/-- a loop: an invariant and a measure -/
theorem VW.loop {c : Code} {σ : List TV} {T : VT} {Q : Exit → List TV → VT → Prop} (I : Nat → List TV → VT → Prop) (n : Nat) (h0 : I n σ T)
    (round : ∀ n σ T, I n σ T → VW P c σ T (Vthen (fun σ' T' => ∃ n', n' < n ∧ I n' σ' T') Q)) : VW P (.loop c) σ T Q := by
  intro g w a r hσ hd
  refine wp_loop_ghost (fun n a' w' => ∃ g' σ' T', I n σ' T' ∧ Evo g w g' w' ∧ RW g' T' w' ∧ VRs g' w' σ' a'.tmps.toList ∧ a'.defers = []) n ⟨g, σ, T, h0, Evo.refl _ _, r, hσ, hd⟩ ?_
  rintro m a' w' ⟨g', σ', T', hI, e1, r', hσ', hd'⟩
  refine wp_mono (round m σ' T' hI g' w' a' r' hσ' hd') ?_
  rintro e a'' w'' ⟨g'', σ'', T'', hq, e2, h⟩
  cases e <;> first
    | exact ⟨g'', σ'', T'', hq, e1.trans e2, h⟩
    | (obtain ⟨n', hn, hI'⟩ := hq; exact ⟨n', hn, g'', σ'', T'', hI', e1.trans e2, h⟩)

/-! ### A function -/
def vresult (P : Program) (T : VT) (σ : List TV) : ResultVar → Option TV
  | .tmp t => some (σ.getD t (.val undef))
  | .cell a t => match σ.getD a .dead with
    | .ptr i o => vload P T t (.ptr i o)
    | _ => none
def vresultsL (P : Program) (T : VT) (σ : List TV) : List ResultVar → Option (List TV)
  | [] => some []
  | r :: l => match vresult P T σ r, vresultsL P T σ l with
    | some x, some xs => some (x :: xs)
    | _, _ => none
def vresults (P : Program) (T : VT) (σ : List TV) (rs : Array ResultVar) : Option TV := match vresultsL P T σ rs.toList with
  | some [x] => some x
  | some xs => some (.tup xs)
  | none => none
def vres1 (a : Act) : ResultVar → Sem Value
  | .tmp t => pure (a.tmps.getD t undef)
  | .cell p t => do loadVar t (← asAddr (a.tmps.getD p undef))
theorem vresult_ok {g : Gh} {T : VT} {w : World} {σ : List TV} {a : Act} (r : RW g T w) (hσ : VRs g w σ a.tmps.toList) {rv : ResultVar} {x : TV} (h : vresult P T σ rv = some x) :
    ∃ v, VR g w x v ∧ (vres1 a rv).run P w = .ok v w := by
  have key : ∀ t, ∃ u, a.tmps.getD t undef = u ∧ VR g w (σ.getD t (.val undef)) u ∧ VR g w (σ.getD t .dead) u := by
    intro t
    rw [Array.getD_eq_getD_getElem?]
    simp only [List.getD_eq_getElem?_getD]
    cases hx : σ[t]? with
    | none =>
      have : a.tmps[t]? = none := by
        rw [List.getElem?_eq_none_iff] at hx
        rw [Array.getElem?_eq_none]
        have := hσ.1
        simp at this; omega
      rw [this]; exact ⟨_, rfl, .val _, .dead _⟩
    | some y =>
      obtain ⟨u, hu, hv⟩ := hσ.at hx
      simp only [Array.getElem?_toList] at hu
      rw [hu]; exact ⟨u, rfl, hv, hv⟩
  cases rv with
  | tmp t =>
    simp only [vresult] at h
    injection h with h; subst h
    obtain ⟨u, h1, h2, _⟩ := key t
    exact ⟨u, h2, by simp [vres1, h1]⟩
  | cell p t =>
    simp only [vresult] at h
    obtain ⟨u, h1, _, h2⟩ := key p
    split at h
    · rename_i i o hp
      rw [hp] at h2
      obtain ⟨v, h3, h4⟩ := (vload_ok r h h2).run
      obtain ⟨b, hb, rfl⟩ := h2.ptr_inv
      refine ⟨v, h3, ?_⟩
      simp only [vres1, h1]
      simpa [asAddr, Instr.loadAt, Instr.sureAddr] using h4
    · cases h
theorem vresultsL_ok {g : Gh} {T : VT} {w : World} {σ : List TV} {a : Act} (r : RW g T w) (hσ : VRs g w σ a.tmps.toList) : ∀ {rs : List ResultVar} {xs : List TV}, vresultsL P T σ rs = some xs →
    ∃ vs : List Value, VRs g w xs vs ∧ (rs.mapM (vres1 a)).run P w = .ok vs w
  | [], xs, h => by simp [vresultsL] at h; subst h; exact ⟨[], VRs.nil _ _, by simp⟩
  | rv :: rs, xs, h => by
    simp only [vresultsL] at h
    split at h
    · rename_i x xs' h1 h2
      injection h with h; subst h
      obtain ⟨v, h3, h4⟩ := vresult_ok r hσ h1
      obtain ⟨vs, h5, h6⟩ := vresultsL_ok r hσ h2
      refine ⟨v :: vs, .cons h3 h5, ?_⟩
      rw [List.mapM_cons]
      simp only [Sem.run_bind, h4, Result.andThen_ok, h6, Sem.run_pure]
    · cases h
theorem vresults_ok {g : Gh} {T : VT} {w : World} {σ : List TV} {a : Act} (r : RW g T w) (hσ : VRs g w σ a.tmps.toList) {fn : Func} {x : TV} (h : vresults P T σ fn.results = some x) : ∃ v, VR g w x v ∧ (results fn a.tmps).run P w = .ok v w := by
  unfold vresults at h
  have key : ∀ xs, vresultsL P T σ fn.results.toList = some xs → ∃ vs : List Value, VRs g w xs vs ∧ (results fn a.tmps).run P w = .ok (if h : vs.toArray.size = 1 then vs.toArray[0] else .tuple vs.toArray) w := by
    intro xs hx
    obtain ⟨vs, h1, h2⟩ := vresultsL_ok r hσ hx
    refine ⟨vs, h1, ?_⟩
    unfold results
    rw [Array.mapM_eq_mapM_toList]
    simp only [Sem.run_bind, Sem.run_map]
    have e : (fun x => (match x with | .tmp t => pure (a.tmps.getD t undef) | .cell p t => do loadVar t (← asAddr (a.tmps.getD p undef)) : Sem Value)) = vres1 a := by funext x; cases x <;> rfl
    first | (rw [e, h2]; rfl) | (show ((Sem.run P (List.mapM (vres1 a) _) w).andThen _).andThen _ = _; rw [h2]; rfl)
  split at h
  · rename_i y hy
    injection h with h; subst h
    obtain ⟨vs, h1, h2⟩ := key _ hy
    obtain ⟨v, hv, hvr⟩ := h1.at (j := 0) rfl
    have hl := h1.1
    match vs, hl, hv, h2 with
    | [v'], _, hv, h2 => simp at hv; subst hv; exact ⟨v', hvr, by simpa using h2⟩
  · rename_i ys hne hy
    injection h with h; subst h
    obtain ⟨vs, h1, h2⟩ := key _ hy
    refine ⟨_, .mk_tup h1, ?_⟩
    have : vs.length ≠ 1 := by
      rw [h1.1]
      intro hl
      match ys, hl, hne with
      | [z], _, hne => exact hne z rfl
    simpa [this] using h2
  · cases h
/-- a function's body; what it lets go of is forgotten: n objects and m tails are kept -/
theorem VCalls.enter {f : FuncId} {fn : Func} {c : Code} {xs : List TV} {T : VT} {Q : TV → VT → Prop} (hf : P.funcs[f]? = some fn) (hb : fn.body = some c)
    (h : VW P c (xs ++ List.replicate (fn.ntmps - xs.length) (.val undef)) T fun e σ T' => (e = .normal ∨ e = .ret) ∧ ∃ x, vresults P T' σ fn.results = some x ∧ Q x T') : VCalls P f xs T Q := by
  intro g w us r hx
  refine calls_of_wp hf hb (wp_mono (h g w _ r ?_ rfl) ?_)
  · have e1 : (us.toArray ++ Array.replicate (fn.ntmps - us.toArray.size) undef).toList = us ++ (List.replicate (fn.ntmps - xs.length) undef) := by simp [hx.1]
    rw [e1]
    refine hx.app ?_
    have := VRs.vals g w (List.replicate (fn.ntmps - xs.length) undef)
    simpa using this
  · rintro e a' w' ⟨g', σ', T', ⟨he, x, hr, hq⟩, e1, r', hσ', hd'⟩
    obtain ⟨v, h1, h2⟩ := vresults_ok r' hσ' hr
    rcases he with rfl | rfl
    · exact ⟨hd', v, h2, v, x, g', T', rfl, hq, e1, r', h1⟩
    · exact ⟨hd', v, h2, v, x, g', T', rfl, hq, e1, r', h1⟩
end
end Go.Proofs.YtapfboldkkodkaaGreatDoor
