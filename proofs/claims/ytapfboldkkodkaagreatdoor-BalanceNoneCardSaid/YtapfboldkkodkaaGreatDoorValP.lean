/- Regions that draw their order, by plan, on what a walk knows. For any program. -/
import Derived.Test.YtapfboldkkodkaaGreatDoorValE
namespace Go.Proofs.YtapfboldkkodkaaGreatDoor
open Go.RowKit

section
variable {P : Program}

/-- operations that look at no memory -/
def vpure (P : Program) (op : Op) (ev : Operand → TV) : Option TV := match op with
  | .move x | .assign x => some (ev x)
  | .pick c a b => match ev c with
    | .val (.bool t) => some (bif t then ev a else ev b)
    | _ => none
  | .binOp op t x y _ => vbin P op t x y (ev x) (ev y)
  | .unOp op _ x => (toVal (ev x)).bind fun v => (pureRun P (Op.unary op v)).map .val
  | .convert s d x => (toVal (ev x)).bind fun v => (pureRun P (Go.convert s d v)).map .val
  | .field t x f => vfield P t (ev x) f
  | .fieldAddr s x f => vfieldAddr P s (ev x) f
  | .indexAddr t x i => vindexAddr P t (ev x) (ev i)
  | .index t x i => (toVal (ev x)).bind fun a => (toVal (ev i)).bind fun b => (pureRun P (Instr.index t a b)).map .val
  | .slice t x lo hi mx => vslice P t (ev x) (lo.map ev) (hi.map ev) (mx.map ev)
  | .extract x i => match ev x with
    | .tup cs => cs[i]?
    | .val (.tuple vs) => (vs[i]?).map .val
    | _ => none
  | .build t ps => vbuild P t (ps.toList.map fun p => (p.1, ev p.2))
  | .makeFunc f fi ca => some (.fn f (fi.toList.map ev) (ca.toList.map ev))
  | .makeInterface t x => match P.underlying t with
    | some (.interface _) => none
    | some _ => some (.ifc t (ev x))
    | none => none
  | .call c => match c.callee, c.argTypes.toList, c.args.toList with
    | .builtin .len, [t], [x] => (match ev x with
      | .map _ => none
      | _ => vlen P ⟨[], []⟩ t (ev x))
    | _, _, _ => none
  | _ => none
theorem Looks0.next {g : Gh} {w : World} {s : Sem Value} {y : TV} {n : Sem Next} (h : Looks0 P g w s y) (e : n = (do pure (.value (← s)))) : ∃ v, VR g w y v ∧ ∀ w', n.run P w' = .ok (.value v) w' := by
  obtain ⟨v, h1, h2⟩ := h
  exact ⟨v, h1, fun w' => by subst e; simp [h2 w']⟩
theorem vlen0 {g : Gh} {w : World} {t ty : TypeId} {x y : TV} {u : Value} (hm : ∀ i, x ≠ .map i) (h : vlen P ⟨[], []⟩ t x = some y) (hx : VR g w x u) : Looks0 P g w (Builtin.len_ #[t] ty #[u]) y := by
  unfold vlen at h
  split at h
  · rename_i e hu
    split at h
    · injection h with h; subst h
      rcases hx.vec_inv with ⟨rfl, rfl, _⟩ | ⟨b, o, c, us, rfl, _⟩
      · exact .of_ok (.val _) fun w' => by simp [Builtin.len_, run_underlying hu, goInt]
      · exact .of_ok (.val _) fun w' => by simp [Builtin.len_, run_underlying hu, goInt]
    · injection h with h; subst h
      obtain ⟨b, _, rfl⟩ := hx.sl_inv
      exact .of_ok (.val _) fun w' => by simp [Builtin.len_, run_underlying hu, goInt]
    · injection h with h; subst h
      rw [hx.val_inv]
      exact .of_ok (.val _) fun w' => by simp [Builtin.len_, run_underlying hu, goInt]
    · cases h
  · rename_i hu
    split at h
    · injection h with h; subst h
      rw [hx.val_inv]
      exact .of_ok (.val _) fun w' => by simp [Builtin.len_, run_underlying hu, goInt]
    · cases h
  · rename_i n e hu
    injection h with h; subst h
    exact .of_ok (.val _) fun w' => by simp [Builtin.len_, run_underlying hu, goInt]
  · rename_i k e hu
    split at h
    · injection h with h; subst h
      rw [hx.val_inv]
      exact .of_ok (.val _) fun w' => by simp [Builtin.len_, run_underlying hu, goInt]
    · exact absurd rfl (hm _)
    · cases h
  · cases h
set_option maxHeartbeats 1000000 in
theorem vpure_ok {g : Gh} {w : World} {o : Oper} {ev : Operand → TV} {ρ : Operand → Value} {y : TV} (h : vpure P o.op ev = some y) (hev : ∀ x, VR g w (ev x) (ρ x)) :
    ∃ v, VR g w y v ∧ ∀ w', (execOp ρ o).run P w' = .ok (.value v) w' := by
  obtain ⟨dst, op, ty, pos, af, gd⟩ := o
  simp only at h
  cases op <;> simp only [vpure] at h <;> try (cases h)
  case move x => exact ⟨_, hev x, fun w' => rfl⟩
  case assign x => exact ⟨_, hev x, fun w' => rfl⟩
  case pick c a b =>
    split at h
    · rename_i t hc
      injection h with h; subst h
      have h1 := hev c
      rw [hc] at h1
      refine ⟨bif t then ρ a else ρ b, by cases t <;> simp [hev], fun w' => ?_⟩
      simp only [execOp, h1.val_inv]
      cases t <;> rfl
    · cases h
  case binOp op t x y yt => exact (vbin_ok h (hev x) (hev y)).next (by rfl)
  case unOp op t x =>
    simp only [Option.bind_eq_some_iff, Option.map_eq_some_iff] at h
    obtain ⟨v, h1, c, h2, rfl⟩ := h
    exact (Looks0.of_pure h2).next (by simp only [execOp, toVal_ok h1 (hev x)])
  case convert s d x =>
    simp only [Option.bind_eq_some_iff, Option.map_eq_some_iff] at h
    obtain ⟨v, h1, c, h2, rfl⟩ := h
    exact (Looks0.of_pure h2).next (by simp only [execOp, toVal_ok h1 (hev x)])
  case field t x f => exact (vfield_ok h (hev x)).next (by rfl)
  case fieldAddr s x f => exact (vfieldAddr_ok h (hev x)).next (by rfl)
  case indexAddr t x i => exact (vindexAddr_ok h (hev x) (hev i)).next (by rfl)
  case index t x i =>
    simp only [Option.bind_eq_some_iff, Option.map_eq_some_iff] at h
    obtain ⟨v, h1, v2, h2, c, h3, rfl⟩ := h
    exact (Looks0.of_pure h3).next (by simp only [execOp, toVal_ok h1 (hev x), toVal_ok h2 (hev i)])
  case slice t x lo hi mx => exact (vslice_ok h (hev x) (BR.map hev lo) (BR.map hev hi) (BR.map hev mx)).next (by rfl)
  case extract x i =>
    split at h
    · rename_i cs hc
      have h1 := hev x
      rw [hc] at h1
      obtain ⟨us, h2, h3⟩ := h1.tup_inv
      obtain ⟨v, h4, h5⟩ := h3.at h
      exact ⟨v, h5, fun w' => by simp [execOp, h2, Instr.extract, h4]⟩
    · rename_i vs hc
      have h1 := hev x
      rw [hc] at h1
      simp only [Option.map_eq_some_iff] at h
      obtain ⟨v, h2, rfl⟩ := h
      exact ⟨v, .val v, fun w' => by simp [execOp, h1.val_inv, Instr.extract, h2]⟩
    · cases h
  case build t ps =>
    obtain ⟨h1, h2⟩ := parts_rel hev ps
    obtain ⟨v, h3, h4⟩ := vbuild_ok h h1 h2
    exact ⟨v, h3, fun w' => by simp only [execOp, Sem.run_bind, h4, Result.andThen_ok, Sem.run_pure]⟩
  case makeFunc f fi ca =>
    have h1 := map_rel hev fi.toList
    have h2 := map_rel hev ca.toList
    exact ⟨_, .fn h1.1 h1.2 h2.1 h2.2, fun w' => by simp [execOp, Instr.makeFunc, amap]⟩
  case makeInterface t x =>
    split at h
    · cases h
    · rename_i d hnd hd
      injection h with h; subst h
      refine ⟨_, .ifc (hev x), fun w' => ?_⟩
      simp only [execOp, Instr.makeInterface, Sem.run_bind, run_underlying hd, Result.andThen_ok]
      cases d <;> first | rfl | exact absurd rfl (hnd _)
    · cases h
  case call c =>
    obtain ⟨cal, args, ats⟩ := c
    split at h
    · rename_i t x hc h1 h2
      simp only at hc h1 h2; subst hc
      have e1 : ats = #[t] := by rw [← Array.toArray_toList (xs := ats), h1]
      have e2 : args = #[x] := by rw [← Array.toArray_toList (xs := args), h2]
      subst e1 e2
      split at h
      · cases h
      · rename_i hm
        exact (vlen0 (ty := ty) (fun i hi => hm i hi) h (hev x)).next (by simp [execOp, resolve, invoke, builtin])
    · cases h

theorem wrapN (j : Nat) (h : j < 9223372036854775807) : IntKind.i64.wrap ((j : Int) + 1) = ((j + 1 : Nat) : Int) := by
  simp only [IntKind.wrap, IntKind.bits, IntKind.signed]; simp; omega
/-! the goal's form, seen at a glance -/
theorem isVL {ops : Array Oper} {K : List TV → VT → Prop} {o : Oper} {l : List Oper} {σ : List TV} {T : VT} (h : VL P ops K (o :: l) σ T) : VL P ops K (o :: l) σ T := h
theorem isVLn {ops : Array Oper} {K : List TV → VT → Prop} {σ : List TV} {T : VT} (h : VL P ops K [] σ T) : VL P ops K [] σ T := h
theorem isVW {c : Code} {σ : List TV} {T : VT} {Q : Exit → List TV → VT → Prop} (h : VW P c σ T Q) : VW P c σ T Q := h
/-- an operation that leaves all objects as they were -/
def VPS (P : Program) (o : Oper) (σ : List TV) (T : VT) (K : List TV → VT → Prop) : Prop :=
  ∀ g w (a : Act) (next : Act → World → Prop) (Q : Exit → Act → World → Prop), RW g T w → VRs g w σ a.tmps.toList → a.defers = [] →
    (∀ σ' T' g' w' (a' : Act), K σ' T' → Evo g w g' w' → RW g' T' w' → VRs g' w' σ' a'.tmps.toList → a'.defers = [] → Same g T w w' → next a' w') → o.wp P a w next Q
/-- operations that make memory, and turn no object -/
def vmake (P : Program) (T : VT) (op : Op) (ev : Operand → TV) : Option (TV × VT) := match op with
  | .alloc e => valloc P T e
  | .box _ x => vbox T (ev x)
  | .buildSlice t n ps => (vbuildSlice P t n (ps.toList.map fun p => (p.1, ev p.2))).map fun y => (y, T)
  | .call c => match c.callee, c.argTypes.toList, c.args.toList with
    | .builtin .append, [t, tx], [s, x] => vappend P T t tx (ev s) (ev x)
    | _, _, _ => none
  | _ => none
theorem Does.nextS {g : Gh} {T T' : VT} {w : World} {s : Sem Value} {y : TV} {n : Sem Next} (h : Does P g T w s y T') (e : n = (do pure (.value (← s)))) :
    ∃ v g' w', n.run P w = .ok (.value v) w' ∧ VR g' w' y v ∧ Evo g w g' w' ∧ RW g' T' w' ∧ Same g T w w' := by
  obtain ⟨v, g', w', h1, h2⟩ := h
  exact ⟨v, g', w', by subst e; simp [h1], h2⟩
theorem vmake_ok {g : Gh} {T T' : VT} {w : World} (r : RW g T w) {o : Oper} {ev : Operand → TV} {ρ : Operand → Value} {y : TV} (h : vmake P T o.op ev = some (y, T')) (hev : ∀ x, VR g w (ev x) (ρ x)) :
    ∃ v g' w', (execOp ρ o).run P w = .ok (.value v) w' ∧ VR g' w' y v ∧ Evo g w g' w' ∧ RW g' T' w' ∧ Same g T w w' := by
  obtain ⟨dst, op, ty, pos, af, gd⟩ := o
  simp only at h
  cases op <;> simp only [vmake] at h <;> try (cases h)
  case alloc e => exact (valloc_ok (P := P) r h).nextS rfl
  case box e x => exact (vbox_ok (P := P) (t := e) r h (hev x)).nextS rfl
  case buildSlice t n ps =>
    simp only [Option.map_eq_some_iff] at h
    obtain ⟨y', h, e⟩ := h
    injection e with e1 e2; subst e1 e2
    obtain ⟨h1, h2⟩ := parts_rel hev ps
    exact (vbuildSlice_ok r h h1 h2).nextS rfl
  case call c =>
    obtain ⟨cal, args, ats⟩ := c
    split at h
    · rename_i t tx s x hc h1 h2
      simp only at hc h1 h2
      subst hc
      have e1 : ats = #[t, tx] := by rw [← Array.toArray_toList (xs := ats), h1]
      have e2 : args = #[s, x] := by rw [← Array.toArray_toList (xs := args), h2]
      subst e1 e2
      exact (vappend_ok (ty := ty) r h (hev s) (hev x)).nextS (by simp [execOp, resolve, invoke, builtin])
    · cases h
theorem VPS.op {o : Oper} {σ : List TV} {T T' : VT} {K : List TV → VT → Prop} {y : TV} (h : vmake P T o.op (veval σ) = some (y, T')) (k : K (vput σ o.dst y) T') : VPS P o σ T K := by
  intro g w a next Q r hσ hd hn
  obtain ⟨v, g', w', h1, h3, h4, h5, h6⟩ := vmake_ok r h (veval_ok hσ)
  unfold Oper.wp
  rw [h1]
  exact hn _ _ g' w' _ k h4 h5 (vput_ok (hσ.mono h4) o.dst h3) (by rw [put_defers]; exact hd) h6
/-- a call that gets no object -/
theorem VPS.call {o : Oper} {fo : Operand} {args : Array Operand} {ats : Array TypeId} {σ : List TV} {T : VT} {K : List TV → VT → Prop} {f : FuncId} {fn : Func} {fi ca xs : List TV} {Q : TV → VT → Prop} (ks : List Nat)
    (ho : o.op = .call ⟨.value fo, args, ats⟩) (hf : veval σ fo = .fn (.func f) fi ca) (hfn : P.funcs[f]? = some fn) (hb : fn.body.isSome = true) (hnm : (fn.name == "runtime.NumGoroutine") = false)
    (hk : ks.Nodup) (hkl : ∀ k ∈ ks, k < T.tails.length)
    (hc : VCalls P f xs (T.give [] ks) Q) (hx : renL (nameIn []) (nameIn ks) (fi ++ args.toList.map (veval σ) ++ ca) = xs)
    (k : ∀ x T', Q x T' → ks.length ≤ T'.tails.length ∧ K (vput σ o.dst (x.ren (nameOut T.objs.length []) (nameOut T.tails.length ks))) (T.back [] ks T')) : VPS P o σ T K := by
  intro g w a next Q' r hσ hd hn
  have h1 := veval_ok hσ fo
  rw [hf] at h1
  obtain ⟨us, vs, h2, h3, h4⟩ := h1.fn_inv
  have hrun := run_call ho h2 hfn hb hnm w
  have hargs := (h3.app (map_rel (veval_ok hσ) args.toList)).app h4
  have hargs2 := hargs.ren (sub_ren g T [] ks)
  rw [hx] at hargs2
  have hcall := hc _ w _ (r.give List.nodup_nil hk (by simp) hkl) hargs2
  unfold Oper.wp
  rw [hrun]
  refine Calls.mono hcall ?_
  rintro e w' ⟨v, x, gc, T', rfl, hq, e', r', hv⟩
  obtain ⟨l2, hK⟩ := k x T' hq
  obtain ⟨g', ev, rb, rn⟩ := join_back r List.nodup_nil hk (by simp) hkl e' r' (Nat.zero_le _) l2
  refine hn _ _ g' w' _ hK ev rb (vput_ok (hσ.mono ev) o.dst (hv.ren rn)) (by rw [put_defers]; exact hd) ⟨fun b o h => (ev.st b o h).2, fun id o b h hl hb => ?_⟩
  exact e'.frb b (.inr (.inl ⟨id, o, h, hl, by simp, hb⟩))

/-- a load out of an object that was there as the region began -/
def vlate (P : Program) (T0 : VT) (op : Op) (ev : Operand → TV) : Option TV := match op with
  | .load t a => match ev a with
    | .ptr id off => vload P T0 t (.ptr id off)
    | _ => none
  | _ => none
theorem cellsAt_live {T0 : VT} {id off n : Nat} {cs : List TV} (h : cellsAt T0 (.ptr id off) n = some cs) : ∃ oo, T0.objs[id]? = some oo ∧ oo.live = true := by
  simp only [cellsAt] at h
  split at h
  · exact ⟨_, by assumption, rfl⟩
  · exact ⟨_, by assumption, rfl⟩
  · cases h
theorem vlate_ok {g0 g : Gh} {T0 : VT} {w0 w : World} (r0 : RW g0 T0 w0) (e : Evo g0 w0 g w) {o : Oper} {ev : Operand → TV} {ρ : Operand → Value} {y : TV} (h : vlate P T0 o.op ev = some y) (hev : ∀ x, VR g w (ev x) (ρ x)) :
    ∃ v, VR g w y v ∧ ∀ w', Same g0 T0 w0 w' → (execOp ρ o).run P w' = .ok (.value v) w' := by
  obtain ⟨dst, op, ty, pos, af, gd⟩ := o
  simp only at h
  cases op <;> simp only [vlate] at h <;> try (cases h)
  case load t a =>
    split at h
    · rename_i id off ha
      have h1 := hev a
      rw [ha] at h1
      obtain ⟨b, hb, hu⟩ := h1.ptr_inv
      have hl : ∃ oo, T0.objs[id]? = some oo ∧ oo.live = true := by
        unfold vload at h
        split at h
        · split at h
          · simp only [Option.map_eq_some_iff] at h
            obtain ⟨cs, h, _⟩ := h
            exact cellsAt_live h
          · split at h
            · rename_i h2
              exact cellsAt_live h2
            · cases h
        · cases h
      obtain ⟨oo, hcs, hol⟩ := hl
      obtain ⟨b0, hb0, _⟩ := r0.obj id _ hcs hol
      have := e.obj id b0 hb0
      rw [hb] at this; injection this with this; subst this
      have h2 : VR g0 w0 (.ptr id off) (ρ a) := by rw [hu]; exact .ptr hb0
      obtain ⟨v, h3, h4⟩ := vload_ok r0 h h2
      exact ⟨v, h3.mono e, fun w' hs => by simp [execOp, h4 w' hs]⟩
    · cases h
/-- a region's operations by plan; ph: has something been made? -/
def VPl (P : Program) (ops : Array Oper) (T0 : VT) (K : List TV → VT → Prop) : Bool → List (Oper × Bool) → List TV → VT → Prop
  | _, [], σ, T => K σ T
  | ph, (o, true) :: l, σ, T => (vwanted ops σ o = some true ∧ ∃ x, (match vpure P o.op (veval σ) with | some x => some x | none => bif ph then vlate P T0 o.op (veval σ) else vread P T0 o.op (veval σ)) = some x ∧ VPl P ops T0 K ph l (vput σ o.dst x) T) ∨ (vwanted ops σ o = some false ∧ VPl P ops T0 K ph l (vput σ o.dst (.val undef)) T)
  | ph, (o, false) :: l, σ, T => (vwanted ops σ o = some true ∧ VPS P o σ T (fun σ' T' => T'.objs.take T0.objs.length = T0.objs ∧ VPl P ops T0 K true l σ' T')) ∨ (vwanted ops σ o = some false ∧ VPl P ops T0 K ph l (vput σ o.dst (.val undef)) T)
theorem isVPl {ops : Array Oper} {T0 T : VT} {K : List TV → VT → Prop} {ph : Bool} {l : List (Oper × Bool)} {σ : List TV} (h : VPl P ops T0 K ph l σ T) : VPl P ops T0 K ph l σ T := h
/-- where the walk of a region may stand -/
def Stand (g : Gh) (T0 : VT) (w : World) (w' : World) : Prop := ∃ g' T', Evo g w g' w' ∧ RW g' T' w' ∧ Same g T0 w w'
theorem VPl.ok {ops : Array Oper} {T0 : VT} {K : List TV → VT → Prop} {g0 : Gh} {w0 : World} {QQ : Act → World → Prop} (r0 : RW g0 T0 w0) : ∀ (l : List (Oper × Bool)) (ph : Bool) (σ : List TV) (T : VT), VPl P ops T0 K ph l σ T → ∀ g w (a : Act), RW g T w → VRs g w σ a.tmps.toList → a.defers = [] →
    Evo g0 w0 g w → Same g0 T0 w0 w → (T.objs.take T0.objs.length = T0.objs) → (ph = false → g = g0 ∧ w = w0 ∧ T = T0) →
    (∀ σ' T' g' w' (a' : Act), K σ' T' → Evo g0 w0 g' w' → RW g' T' w' → VRs g' w' σ' a'.tmps.toList → a'.defers = [] → QQ a' w') → wpPlan P ops (Stand g0 T0 w0) QQ l a w
  | [], _, σ, T, h, g, w, a, r, hσ, hd, he, _, _, _, hq => wpPlan_nil (hq σ T g w a h he r hσ hd)
  | (o, true) :: l, ph, σ, T, h, g, w, a, r, hσ, hd, he, hs, ht, hp, hq => by
    rcases h with ⟨hw, x, hx, h⟩ | ⟨hw, h⟩
    · refine wpPlan_take (vwanted_ok hw hσ) ?_
      have go : ∀ v, VR g w x v → wpPlan P ops (Stand g0 T0 w0) QQ l (a.put o.dst v) w := fun v hv =>
        VPl.ok r0 l ph _ T h g w _ r (vput_ok hσ o.dst hv) (by rw [put_defers]; exact hd) he hs ht hp hq
      split at hx
      · rename_i y hy
        injection hx with hx; subst hx
        obtain ⟨v, h1, h2⟩ := vpure_ok (P := P) hy (veval_ok hσ)
        exact ⟨v, fun w' _ => h2 w', go v h1⟩
      · cases ph with
        | true =>
          simp only [cond_true] at hx
          obtain ⟨v, h1, h2⟩ := vlate_ok (P := P) r0 he hx (veval_ok hσ)
          exact ⟨v, fun w' ⟨_, _, _, _, h⟩ => h2 w' h, go v h1⟩
        | false =>
          obtain ⟨rfl, rfl, rfl⟩ := hp rfl
          simp only [cond_false] at hx
          obtain ⟨v, h1, h2⟩ := vread_ok (P := P) r hx (veval_ok hσ)
          exact ⟨v, fun w' ⟨_, _, _, _, h⟩ => h2 w' h, go v h1⟩
    · refine wpPlan_skip (vwanted_ok hw hσ) ?_
      exact VPl.ok r0 l ph _ T h g w _ r (vput_ok hσ o.dst (.val undef)) (by rw [put_defers]; exact hd) he hs ht hp hq
  | (o, false) :: l, ph, σ, T, h, g, w, a, r, hσ, hd, he, hs, ht, hp, hq => by
    rcases h with ⟨hw, h⟩ | ⟨hw, h⟩
    · refine wpPlan_do (vwanted_ok hw hσ) fun KK hK => ?_
      refine h g w a KK _ r hσ hd ?_
      rintro σ' T' g' w' a' ⟨ht', h'⟩ e' r' hσ' hd' hs'
      have he' := he.trans e'
      have hs2 : Same g0 T0 w0 w' := by
        refine ⟨fun b o hb => (he'.st b o hb).2, fun id o b hid hl hb => ?_⟩
        have h1 : T.objs[id]? = some o := by
          have hlt := (List.getElem?_eq_some_iff.1 hid).1
          rw [← ht, List.getElem?_take, if_pos hlt] at hid
          exact hid
        rw [hs'.obj id o b h1 hl (he.obj id b hb), hs.obj id o b hid hl hb]
      refine hK a' w' ⟨g', T', he', r', hs2⟩ fun _ => ?_
      exact VPl.ok r0 l true σ' T' h' g' w' a' r' hσ' hd' he' hs2 ht' (fun h => by cases h) hq
    · refine wpPlan_skip (vwanted_ok hw hσ) ?_
      exact VPl.ok r0 l ph _ T h g w _ r (vput_ok hσ o.dst (.val undef)) (by rw [put_defers]; exact hd) he hs ht hp hq
theorem RW.drew {g : Gh} {T : VT} {w : World} (r : RW g T w) : RW g T w.drew := r.gr (Gr.refl w).drew
/-- a region that draws -/
theorem VW.plan {id : Nat} {l : List Oper} {σ : List TV} {T : VT} {Q : Exit → List TV → VT → Prop} (plan : List (Nat × Bool)) (hm : P.follows .mixedOrders = true) (hp : planOk l.toArray plan = true)
    (h : VPl P l.toArray T (Q .normal) false (planOps l.toArray plan) σ T) : VW P (.region id l.toArray true) σ T Q := by
  intro g w a r hσ hd
  have e0 := Evo.of_gr r (Gr.refl w).drew
  refine wp_region_plan plan (Stand g T w.drew) hm hp ⟨g, T, Evo.refl _ _, r.drew, Same.refl _ _ _⟩ ?_
  exact VPl.ok r.drew _ false σ T h g w.drew a r.drew (hσ.mono e0) hd (Evo.refl _ _) (Same.refl _ _ _) (List.take_length) (fun _ => ⟨rfl, rfl, rfl⟩) fun σ' T' g' w' a' hk e r' hσ' hd' => ⟨g', σ', T', hk, e0.trans e, r', hσ', hd'⟩
/-- its last operation, which waits for all others, may turn objects -/
def VLast (P : Program) (ops : Array Oper) (o : Oper) (σ : List TV) (T : VT) (K : List TV → VT → Prop) : Prop := vwanted ops σ o = some true ∧ VP P o σ T K
theorem VW.planT {id : Nat} {l : List Oper} {o : Oper} {σ : List TV} {T : VT} {Q : Exit → List TV → VT → Prop} (plan : List (Nat × Bool)) (hm : P.follows .mixedOrders = true)
    (ht : tailOk l.dropLast.toArray (l.getLastD default) = true) (hne : l.isEmpty = false) (hp : planOk l.dropLast.toArray plan = true) (ho : l.toArray[l.dropLast.length]? = some o)
    (h : VPl P l.dropLast.toArray T (fun σ T => VLast P l.toArray o σ T (Q .normal)) false (planOps l.dropLast.toArray plan) σ T) : VW P (.region id l.toArray true) σ T Q := by
  intro g w a r hσ hd
  have e0 := Evo.of_gr r (Gr.refl w).drew
  refine wp_region_planT plan (Stand g T w.drew) hm ht hne hp ⟨g, T, Evo.refl _ _, r.drew, Same.refl _ _ _⟩ ?_
  refine VPl.ok r.drew _ false σ T h g w.drew a r.drew (hσ.mono e0) hd (Evo.refl _ _) (Same.refl _ _ _) (List.take_length) (fun _ => ⟨rfl, rfl, rfl⟩) fun σ' T' g' w' a' hk e r' hσ' hd' => ?_
  obtain ⟨hw, hk⟩ := hk
  refine wpLast ho (vwanted_ok hw hσ') fun K hK => ?_
  refine hk g' w' a' K _ r' hσ' hd' fun σ'' T'' g'' w'' a'' hq e2 r2 hσ2 hd2 => hK _ _ ⟨g'', σ'', T'', hq, (e0.trans e).trans e2, r2, hσ2, hd2⟩

theorem VW.condT {c : Operand} {x y : Code} {σ : List TV} {T : VT} {Q : Exit → List TV → VT → Prop} {b : Bool} (hc : veval σ c = .val (.bool b)) (hb : b = true) (h : VW P x σ T Q) : VW P (.cond c x y) σ T Q :=
  VW.cond hc (fun _ => h) (fun h' => by rw [hb] at h'; cases h')
theorem VW.condF {c : Operand} {x y : Code} {σ : List TV} {T : VT} {Q : Exit → List TV → VT → Prop} {b : Bool} (hc : veval σ c = .val (.bool b)) (hb : b = false) (h : VW P y σ T Q) : VW P (.cond c x y) σ T Q :=
  VW.cond hc (fun h' => by rw [hb] at h'; cases h') (fun _ => h)
theorem VW.planK {id : Nat} {l : List Oper} {σ : List TV} {T : VT} {Q : Exit → List TV → VT → Prop} (plan : List (Nat × Bool)) (hm : P.follows .mixedOrders = true) (hp : planOk l.toArray plan = true)
    (h : ∀ k : List (Oper × Bool) → Prop, (∀ pl, VPl P l.toArray T (Q .normal) false pl σ T → k pl) → k (planOps l.toArray plan)) : VW P (.region id l.toArray true) σ T Q := VW.plan plan hm hp (h _ fun _ h => h)
theorem VW.planTK {id : Nat} {l : List Oper} {o : Oper} {σ : List TV} {T : VT} {Q : Exit → List TV → VT → Prop} (plan : List (Nat × Bool)) (hm : P.follows .mixedOrders = true)
    (ht : tailOk l.dropLast.toArray (l.getLastD default) = true) (hne : l.isEmpty = false) (hp : planOk l.dropLast.toArray plan = true) (ho : l.toArray[l.dropLast.length]? = some o)
    (h : ∀ k : List (Oper × Bool) → Prop, (∀ pl, VPl P l.dropLast.toArray T (fun σ T => VLast P l.toArray o σ T (Q .normal)) false pl σ T → k pl) → k (planOps l.dropLast.toArray plan)) : VW P (.region id l.toArray true) σ T Q := VW.planT plan hm ht hne hp ho (h _ fun _ h => h)
/-! ### Loops: the slots that a round writes -/
def vsetAll : List TV → List Nat → List TV → List TV
  | σ, a :: A, g :: gs => vsetAll (σ.set a g) A gs
  | σ, _, _ => σ
/-- behind a round: what it made is let go of -/
def VRound (A : List Nat) (J : Nat → List TV → VT → Prop) (σ : List TV) (n : Nat) (σ' : List TV) (T' : VT) : Prop := ∃ n', n' < n ∧ ∃ gs, gs.length = A.length ∧ J n' gs T' ∧ σ' = vsetAll σ A gs
theorem VW.loopA {c : Code} {σ : List TV} {T : VT} {Q : Exit → List TV → VT → Prop} (A : List Nat) (N M : Nat) (J : Nat → List TV → VT → Prop) (n : Nat) (hJ : ∀ n gs T, J n gs T → T.objs.length = N ∧ T.tails.length = M)
    (h0 : ∃ gs, gs.length = A.length ∧ J n gs T ∧ σ = vsetAll σ A gs)
    (round : ∀ n gs T, gs.length = A.length → J n gs T → VW P c (vsetAll σ A gs) T (Vthen (fun σ' T' => VRound A J σ n (renL (Go.Proofs.YtapfboldkkodkaaGreatDoor.keep N) (Go.Proofs.YtapfboldkkodkaaGreatDoor.keep M) σ') (T'.keep N M)) Q)) : VW P (.loop c) σ T Q := by
  intro g w a r hσ hd
  obtain ⟨gs0, hl0, hJ0, he0⟩ := h0
  refine wp_loop_ghost (fun n a' w' => ∃ g' gs T', gs.length = A.length ∧ J n gs T' ∧ Evo g w g' w' ∧ RW g' T' w' ∧ VRs g' w' (vsetAll σ A gs) a'.tmps.toList ∧ a'.defers = []) n ⟨g, gs0, T, hl0, hJ0, Evo.refl _ _, r, by rw [← he0]; exact hσ, hd⟩ ?_
  rintro m a' w' ⟨g', gs, T', hl, hJ1, e1, r', hσ', hd'⟩
  obtain ⟨hN, hM⟩ := hJ m gs T' hJ1
  refine wp_mono (round m gs T' hl hJ1 g' w' a' r' hσ' hd') ?_
  rintro e a'' w'' ⟨g'', σ'', T'', hq, e2, r'', hσ'', hd''⟩
  cases e <;> first
    | exact ⟨g'', σ'', T'', hq, e1.trans e2, r'', hσ'', hd''⟩
    | (obtain ⟨n', hn, gs', hl', hJ', he⟩ := hq
       refine ⟨n', hn, g''.keep N M, gs', T''.keep N M, hl', hJ', e1.trans (Evo.keep r' e2 (by omega) (by omega)), r''.keep N M, ?_, hd''⟩
       rw [← he]
       exact hσ''.ren (keep_ren g'' N M))
theorem vsetAll_self : ∀ (A : List Nat) (σ : List TV), vsetAll σ A (A.map fun a => σ.getD a .dead) = σ
  | [], σ => rfl
  | a :: A, σ => by
    have e : σ.set a (σ.getD a .dead) = σ := by
      apply List.ext_getElem?
      intro j
      rw [List.getElem?_set]
      split
      · rename_i h; subst h
        split
        · rename_i h; rw [List.getD_eq_getElem?_getD, List.getElem?_eq_getElem h]; rfl
        · rename_i h; rw [List.getElem?_eq_none (by omega)]
      · rfl
    simp only [List.map_cons, vsetAll]
    rw [e]; exact vsetAll_self A σ
theorem VW.loopS {c : Code} {σ : List TV} {T : VT} {Q : Exit → List TV → VT → Prop} (A : List Nat) (N M : Nat) (J : Nat → List TV → VT → Prop) (n : Nat) (hJ : ∀ n gs T, J n gs T → T.objs.length = N ∧ T.tails.length = M)
    (h0 : ∀ k : List TV → Prop, (∀ gs, J n gs T → k gs) → k (A.map fun a => σ.getD a .dead))
    (round : ∀ n gs T, gs.length = A.length → J n gs T → VW P c (vsetAll σ A gs) T (Vthen (fun σ' T' => VRound A J σ n (renL (Go.Proofs.YtapfboldkkodkaaGreatDoor.keep N) (Go.Proofs.YtapfboldkkodkaaGreatDoor.keep M) σ') (T'.keep N M)) Q)) : VW P (.loop c) σ T Q :=
  VW.loopA A N M J n hJ ⟨_, by simp, h0 _ fun _ h => h, (vsetAll_self A σ).symm⟩ round
/-- a round's end: the slots as they are there, and as they would be, each written out -/
theorem VRound.done {A : List Nat} {J : Nat → List TV → VT → Prop} {σ σ' : List TV} {n N M : Nat} {T' : VT} {Q : Exit → List TV → VT → Prop}
    (h : ∀ k : List TV → VT → List TV → List TV → Prop, (∀ gs T' σ1 σ2, (∃ n', n' < n ∧ J n' gs T') → σ1 = σ2 → k gs T' σ1 σ2) →
      k (A.map fun a => (renL (Go.Proofs.YtapfboldkkodkaaGreatDoor.keep N) (Go.Proofs.YtapfboldkkodkaaGreatDoor.keep M) σ').getD a .dead) (T'.keep N M) (renL (Go.Proofs.YtapfboldkkodkaaGreatDoor.keep N) (Go.Proofs.YtapfboldkkodkaaGreatDoor.keep M) σ') (vsetAll σ A (A.map fun a => (renL (Go.Proofs.YtapfboldkkodkaaGreatDoor.keep N) (Go.Proofs.YtapfboldkkodkaaGreatDoor.keep M) σ').getD a .dead))) :
    Vthen (fun σ' T' => VRound A J σ n (renL (Go.Proofs.YtapfboldkkodkaaGreatDoor.keep N) (Go.Proofs.YtapfboldkkodkaaGreatDoor.keep M) σ') (T'.keep N M)) Q .normal σ' T' := by
  refine h (fun gs T' σ1 σ2 => gs.length = A.length → VRound A J σ n (renL (Go.Proofs.YtapfboldkkodkaaGreatDoor.keep N) (Go.Proofs.YtapfboldkkodkaaGreatDoor.keep M) σ') T' ∨ True) (fun _ _ _ _ _ _ _ => .inr trivial) |> fun _ => ?_
  have h2 := h (fun gs T'' σ1 σ2 => (∃ n', n' < n ∧ J n' gs T'') ∧ σ1 = σ2) fun _ _ _ _ h1 h2 => ⟨h1, h2⟩
  obtain ⟨⟨n', h3, h4⟩, h5⟩ := h2
  exact ⟨n', h3, _, by simp, h4, h5⟩
theorem VRound.tidy {A : List Nat} {J : Nat → List TV → VT → Prop} {σ σ' : List TV} {n : Nat} {T' : VT} (h : ∀ k : List TV → VT → Prop, (∀ σ' T', VRound A J σ n σ' T' → k σ' T') → k σ' T') : VRound A J σ n σ' T' := h _ fun _ _ h => h
theorem VRound.fin {A : List Nat} {J : Nat → List TV → VT → Prop} {σ σ' : List TV} {n N M : Nat} {T' : VT} {Q : Exit → List TV → VT → Prop} (h : ∀ k : List TV → VT → Prop, (∀ σ' T', VRound A J σ n σ' T' → k σ' T') → k (renL (Go.Proofs.YtapfboldkkodkaaGreatDoor.keep N) (Go.Proofs.YtapfboldkkodkaaGreatDoor.keep M) σ') (T'.keep N M)) :
    Vthen (fun σ' T' => VRound A J σ n (renL (Go.Proofs.YtapfboldkkodkaaGreatDoor.keep N) (Go.Proofs.YtapfboldkkodkaaGreatDoor.keep M) σ') (T'.keep N M)) Q .normal σ' T' := h _ fun _ _ h => h
/-- an empty slice gets a tail -/
theorem VW.adopt {c : Code} {σ : List TV} {T : VT} {Q : Exit → List TV → VT → Prop} (d size : Nat) (hd : σ[d]? = some (.val (.slice none 0 0)))
    (h : ∀ k : List TV → VT → Prop, (∀ σ' T', VW P c σ' T' Q → k σ' T') → k (σ.set d (.vec size [] (.tail T.tails.length 0))) { T with tails := T.tails ++ [(0, size, true)] }) : VW P c σ T Q := by
  have h1 := h _ fun _ _ h => h
  intro g w a r hσ hdf
  obtain ⟨g1, e1, r1, ht⟩ := r.newTail size true
  obtain ⟨u, hu, hv⟩ := hσ.at hd
  have hv' := hv.val_inv
  subst hv'
  refine wp_mono (h1 g1 w a r1 ?_ hdf) fun e a' w' ⟨g', σ', T', hq, e2, h⟩ => ⟨g', σ', T', hq, e1.trans e2, h⟩
  have h2 := (hσ.mono e1).set d (x := .vec size [] (.tail T.tails.length 0)) (u := .slice none 0 0) (.nil ⟨_, ht, Nat.le_refl _, rfl⟩)
  have h3 : a.tmps.toList.set d (.slice none 0 0) = a.tmps.toList := by
    apply List.ext_getElem?
    intro j
    rw [List.getElem?_set]
    split
    · rename_i hj; subst hj; rw [if_pos (List.getElem?_eq_some_iff.1 hu).1, hu]
    · rfl
  rw [h3] at h2
  exact h2
/-! ### Steps -/
def vtake (o : Option TV) (k : TV → Prop) : Prop := match o with
  | some y => k y
  | none => False
theorem vtake_some (y : TV) (k : TV → Prop) : vtake (some y) k = k y := rfl
theorem VPl.nil {ops : Array Oper} {T0 T : VT} {K : List TV → VT → Prop} {ph : Bool} {σ : List TV} (h : K σ T) : VPl P ops T0 K ph [] σ T := h
theorem VPl.take {ops : Array Oper} {T0 T : VT} {K : List TV → VT → Prop} {ph : Bool} {o : Oper} {l : List (Oper × Bool)} {σ : List TV} (hg : vwanted ops σ o = some true)
    (h : ∀ k : List TV → VT → Prop, (∀ σ' T', VPl P ops T0 K ph l σ' T' → k σ' T') → vtake (vpure P o.op (veval σ)) fun y => k (vput σ o.dst y) T) : VPl P ops T0 K ph ((o, true) :: l) σ T := by
  have h1 := h _ (fun _ _ h => h)
  cases hv : vpure P o.op (veval σ) with
  | none => rw [hv] at h1; exact h1.elim
  | some p =>
    rw [hv] at h1
    refine .inl ⟨hg, p, ?_, h1⟩
    simp [hv]
theorem VPl.look {ops : Array Oper} {T0 T : VT} {K : List TV → VT → Prop} {o : Oper} {l : List (Oper × Bool)} {σ : List TV} (hg : vwanted ops σ o = some true) (hn : vpure P o.op (veval σ) = none)
    (h : ∀ k : List TV → VT → Prop, (∀ σ' T', VPl P ops T0 K false l σ' T' → k σ' T') → vtake (vread P T0 o.op (veval σ)) fun y => k (vput σ o.dst y) T) : VPl P ops T0 K false ((o, true) :: l) σ T := by
  have h1 := h _ (fun _ _ h => h)
  cases hv : vread P T0 o.op (veval σ) with
  | none => rw [hv] at h1; exact h1.elim
  | some p =>
    rw [hv] at h1
    exact .inl ⟨hg, p, by simp [hn, hv], h1⟩
theorem VPl.late {ops : Array Oper} {T0 T : VT} {K : List TV → VT → Prop} {o : Oper} {l : List (Oper × Bool)} {σ : List TV} (hg : vwanted ops σ o = some true) (hn : vpure P o.op (veval σ) = none)
    (h : ∀ k : List TV → VT → Prop, (∀ σ' T', VPl P ops T0 K true l σ' T' → k σ' T') → vtake (vlate P T0 o.op (veval σ)) fun y => k (vput σ o.dst y) T) : VPl P ops T0 K true ((o, true) :: l) σ T := by
  have h1 := h _ (fun _ _ h => h)
  cases hv : vlate P T0 o.op (veval σ) with
  | none => rw [hv] at h1; exact h1.elim
  | some p =>
    rw [hv] at h1
    exact .inl ⟨hg, p, by simp [hn, hv], h1⟩
theorem VPl.make {ops : Array Oper} {T0 T : VT} {K : List TV → VT → Prop} {ph : Bool} {o : Oper} {l : List (Oper × Bool)} {σ : List TV} (hg : vwanted ops σ o = some true)
    (h : ∀ k : List TV → VT → Prop, (∀ σ' T', VPl P ops T0 K true l σ' T' → k σ' T') → vcont (vmake P T o.op (veval σ)) fun y T' => T'.objs.take T0.objs.length = T0.objs ∧ k (vput σ o.dst y) T') : VPl P ops T0 K ph ((o, false) :: l) σ T := by
  have h1 := h _ (fun _ _ h => h)
  cases hv : vmake P T o.op (veval σ) with
  | none => rw [hv] at h1; exact h1.elim
  | some p => rw [hv] at h1; exact .inl ⟨hg, .op hv h1⟩
theorem VPl.nostep {ops : Array Oper} {T0 T : VT} {K : List TV → VT → Prop} {ph b : Bool} {o : Oper} {l : List (Oper × Bool)} {σ : List TV} (hg : vwanted ops σ o = some false)
    (h : ∀ k : List TV → VT → Prop, (∀ σ' T', VPl P ops T0 K ph l σ' T' → k σ' T') → k (vput σ o.dst (.val undef)) T) : VPl P ops T0 K ph ((o, b) :: l) σ T := by
  have h1 := h _ (fun _ _ h => h)
  cases b <;> exact .inr ⟨hg, h1⟩
theorem VPl.pure {ops : Array Oper} {T0 T : VT} {K : List TV → VT → Prop} {ph : Bool} {o : Oper} {l : List (Oper × Bool)} {fo : Operand} {args : Array Operand} {ats : Array TypeId} {σ : List TV} {f : FuncId} {fn : Func} {fi ca xs : List TV} {r : TV}
    (hg : vwanted ops σ o = some true) (ho : o.op = .call ⟨.value fo, args, ats⟩) (hf : veval σ fo = .fn (.func f) fi ca) (hfn : P.funcs[f]? = some fn) (hb : fn.body.isSome = true) (hnm : (fn.name == "runtime.NumGoroutine") = false)
    (hc : VCalls P f xs ⟨[], []⟩ fun x T' => x = r ∧ T' = ⟨[], []⟩) (hx : renL (nameIn []) (nameIn []) (fi ++ args.toList.map (veval σ) ++ ca) = xs) (ht : T.objs.take T0.objs.length = T0.objs)
    (h : ∀ k : List TV → VT → Prop, (∀ σ' T', VPl P ops T0 K true l σ' T' → k σ' T') → k (vput σ o.dst (r.ren (nameOut T.objs.length []) (nameOut T.tails.length []))) T) : VPl P ops T0 K ph ((o, false) :: l) σ T := by
  refine .inl ⟨hg, VPS.call [] ho hf hfn hb hnm List.nodup_nil (by simp) (by rw [VT.give_nil]; exact hc) hx ?_⟩
  rintro x T' ⟨rfl, rfl⟩
  have h1 := h _ fun _ _ h => h
  have e : T.back [] [] ⟨[], []⟩ = T := by simp [VT.back_nil]
  exact ⟨Nat.le_refl _, by rw [e]; exact ⟨ht, h1⟩⟩
theorem VLast.op {ops : Array Oper} {o : Oper} {σ : List TV} {T : VT} {K : List TV → VT → Prop} (hg : vwanted ops σ o = some true)
    (h : ∀ k : List TV → VT → Prop, (∀ σ' T', K σ' T' → k σ' T') → vcont (vop P T o.op (veval σ)) fun y T' => k (vput σ o.dst y) T') : VLast P ops o σ T K := by
  have h1 := h _ (fun _ _ h => h)
  refine ⟨hg, ?_⟩
  cases hv : vop P T o.op (veval σ) with
  | none => rw [hv] at h1; exact h1.elim
  | some p => rw [hv] at h1; exact VP.op hv h1
end
end Go.Proofs.YtapfboldkkodkaaGreatDoor
