/- Rounds, fences and marks: from rules on plain code to rules on code in a round of a range over a function. For any program. -/
import Derived.Test.YtapfboldkkodkaaGreatDoorVy
namespace Go.Proofs.YtapfboldkkodkaaGreatDoor
open Go.RowKit

section
variable {P : Program}
/-- the fence that lets all in, for a frame that is a round of the loop r (or none) -/
def fenR (r : Option Nat) : Fence := { Fence.wide with round := r }
theorem callsIn_fen {r : Option Nat} {n : Nat} {f : FuncId} {args : Array Value} {w : World} {R : Ending → World → Prop} (h : Calls P f args w R) : CallsIn (fenR r) n P f args w R :=
  (callsIn_wide (n := n)).2 h
theorem calls_of_fen {r : Option Nat} {n : Nat} {f : FuncId} {args : Array Value} {w : World} {R : Ending → World → Prop} (h : CallsIn (fenR r) n P f args w R) : Calls P f args w R :=
  (callsIn_wide (n := n)).1 h
def notDefer : Op → Bool
  | .defer _ => false
  | _ => true
theorem opIn_of {r : Option Nat} {o : Oper} {a : Act} {w : World} {next : Act → World → Prop} {Q Q' : Exit → Act → World → Prop} (hQ : ∀ e a w, (∀ c, e = .panic c → ¬ Q e a w) ∧ (e = .outgrown → ¬ Q e a w)) (hd : notDefer o.op = true)
    (h : o.wp P a w next Q) : o.wpIn (fenR r) 0 P a w next Q' := by
  refine ⟨fun _ _ => trivial, ?_⟩
  have hne : ∀ c, o.op ≠ .defer c := fun c hc => by rw [hc] at hd; cases hd
  rw [Oper.semAt_eq _ _ _ hne]
  unfold Oper.wp at h
  generalize (execOp a.eval o).run P w = res at h ⊢
  unfold Oper.upon at h
  split at h
  · exact h
  · exact h
  · exact h
  · refine ⟨fun h => (by cases h), callsIn_fen (h.mono ?_)⟩
    intro e w' he
    cases e with
    | returned v => exact he
    | panicked ch => exact ((hQ _ _ _).1 ch rfl he).elim
    | outgrown => obtain ⟨a0, w0, he⟩ := he; exact ((hQ _ _ _).2 rfl he).elim
  · refine ⟨fun h => (by cases h), fun c cs _ => ?_⟩
    obtain ⟨v, w', h1, h2⟩ := h c cs
    exact ⟨v, w', h1, stepsIn_wide.2 h2⟩
  · exact ((hQ _ _ _).1 _ rfl h).elim
  · exact h.elim
theorem opsIn_of {r : Option Nat} {ops : Array Oper} {QQ : Act → World → Prop} {Q : Exit → Act → World → Prop} (hq : ∀ a w, QQ a w → Q .normal a w) (hd : ∀ (i : Nat) o, ops[i]? = some o → notDefer o.op = true) : ∀ (l : List Nat) (a : Act) (w : World), wpOps P ops (calm QQ) l a w → wpOpsIn (fenR r) 0 P ops Q l a w
  | [], a, w, h => hq a w h
  | i :: l, a, w, h => by
    simp only [wpOps] at h
    simp only [wpOpsIn]
    have hc : ∀ e a w, (∀ c, e = Exit.panic c → ¬ calm QQ e a w) ∧ (e = .outgrown → ¬ calm QQ e a w) := fun e a w => ⟨fun c he h => by subst he; exact h, fun he h => by subst he; exact h⟩
    split
    · rename_i ho; rw [ho] at h; exact opsIn_of hq hd l a w h
    · rename_i o ho
      rw [ho] at h
      simp only at h
      split
      · rename_i hw
        rw [if_pos hw] at h
        rcases h with h | ⟨_, a0, w0, h⟩
        · exact opIn_of hc (hd i o ho) (Oper.wp_mono (fun a w h => opsIn_of hq hd l a w h) h)
        · exact h.elim
      · rename_i hw
        rw [if_neg hw] at h
        exact ⟨fun _ _ => trivial, opsIn_of hq hd l _ w h⟩
theorem region_plan_in {r : Option Nat} {ops : Array Oper} {S : World → Prop} {id : Nat} {QQ : Act → World → Prop} {Q : Exit → Act → World → Prop} {a : Act} {w : World} (hq : ∀ a w, QQ a w → Q .normal a w) (hd : ∀ (i : Nat) o, ops[i]? = some o → notDefer o.op = true)
    (plan : List (Nat × Bool)) (hm : P.follows .mixedOrders = true)
    (hp : planOk ops plan = true) (hS : S w.drew) (h : wpPlan P ops S QQ (planOps ops plan) a w.drew) : (Code.region id ops true).wpIn (fenR r) 0 P Q a w := by
  simp only [planOk, Bool.and_eq_true, beq_iff_eq] at hp
  obtain ⟨⟨hs, hl⟩, hp⟩ := hp
  have h1 := wpAnyH_of_plan (P := P) hs plan _ a _ hS hp h (planGo_in hp)
  rw [hl] at h1
  have h2 := wpAny_of_held _ _ _ _ h1
  refine wpIn_region_draw fun t => ?_
  simp only [Region.schedule, hm, Bool.true_or, if_true]
  exact opsIn_of hq hd _ _ _ (wpAny_sound ops.size t _ a _ h2)
/-! #### Last operations, each of which waits for all ahead of it -/
def TailsOk : Array Oper → List Oper → Prop
  | _, [] => True
  | ops, t :: ts => tailOk ops t = true ∧ TailsOk (ops.push t) ts
def tailK (P : Program) : Array Oper → List Oper → (Act → World → Prop) → Act → World → Prop
  | _, [], QQ => QQ
  | ops, t :: ts, QQ => fun a w => wpOp P (ops.push t) (calm (tailK P (ops.push t) ts QQ)) ops.size (tailK P (ops.push t) ts QQ) a w
def tailsOf : Nat → List Oper → List Oper → List Oper × List Oper
  | 0, l, ts => (l, ts)
  | n + 1, l, ts => cond (!l.isEmpty && tailOk l.dropLast.toArray (l.getLastD default)) (tailsOf n l.dropLast (l.getLastD default :: ts)) (l, ts)
theorem last_push {l : List Oper} (hne : l.isEmpty = false) : l.toArray = l.dropLast.toArray.push (l.getLastD default) := by
  have : l ≠ [] := by cases l <;> simp at hne ⊢
  rw [List.push_toArray]
  congr 1
  have h1 := List.dropLast_concat_getLast this
  rw [List.getLastD_eq_getLast?, List.getLast?_eq_some_getLast this]
  exact h1.symm
theorem tailsOf_ok : ∀ (n : Nat) (l ts : List Oper), TailsOk l.toArray ts → TailsOk (tailsOf n l ts).1.toArray (tailsOf n l ts).2 ∧ (tailsOf n l ts).1 ++ (tailsOf n l ts).2 = l ++ ts
  | 0, l, ts, h => ⟨h, rfl⟩
  | n + 1, l, ts, h => by
    simp only [tailsOf]
    cases hb : (!l.isEmpty && tailOk l.dropLast.toArray (l.getLastD default)) with
    | false => exact ⟨h, rfl⟩
    | true =>
      simp only [Bool.and_eq_true, Bool.not_eq_true'] at hb
      simp only [cond_true]
      have hp := last_push hb.1
      obtain ⟨h1, h2⟩ := tailsOf_ok n l.dropLast (l.getLastD default :: ts) ⟨hb.2, by rw [← hp]; exact h⟩
      refine ⟨h1, h2.trans ?_⟩
      have h3 := congrArg Array.toList hp
      simp only [List.push_toArray] at h3
      rw [show l.dropLast ++ l.getLastD default :: ts = (l.dropLast ++ [l.getLastD default]) ++ ts by simp, ← h3]
theorem wpAny_tails {QQ : Act → World → Prop} : ∀ (ts : List Oper) (ops : Array Oper) (fuel : Nat) (listed : Array Bool) (a : Act) (w : World), TailsOk ops ts → listed.size = ops.size →
    wpAny P .any ops (calm (tailK P ops ts QQ)) fuel listed a w → wpAny P .any (ops.toList ++ ts).toArray (calm QQ) (fuel + ts.length) (listed.toList ++ List.replicate ts.length false).toArray a w
  | [], ops, fuel, listed, a, w, _, _, h => by simpa [tailK] using h
  | t :: ts, ops, fuel, listed, a, w, ht, hs, h => by
    have h1 := wpAny_tail (P := P) ht.1 (Q := tailK P (ops.push t) ts QQ) fuel listed a w hs h
    have h2 := wpAny_tails ts (ops.push t) (fuel + 1) (listed.push false) a w ht.2 (by simp [hs]) h1
    have e1 : ((ops.push t).toList ++ ts) = ops.toList ++ t :: ts := by simp
    have e2 : ((listed.push false).toList ++ List.replicate ts.length false) = listed.toList ++ List.replicate (t :: ts).length false := by simp [List.replicate_succ]
    rw [e1, e2] at h2
    rw [show fuel + (t :: ts).length = fuel + 1 + ts.length by simp; omega]
    exact h2
theorem region_tails_in {r : Option Nat} {S : World → Prop} {id : Nat} {QQ : Act → World → Prop} {Q : Exit → Act → World → Prop} {a : Act} {w : World} {l base ts : List Oper} (hq : ∀ a w, QQ a w → Q .normal a w) (hd : ∀ (i : Nat) o, l.toArray[i]? = some o → notDefer o.op = true)
    (hl : base ++ ts = l) (ht : TailsOk base.toArray ts) (plan : List (Nat × Bool)) (hm : P.follows .mixedOrders = true) (hp : planOk base.toArray plan = true) (hS : S w.drew)
    (h : wpPlan P base.toArray S (tailK P base.toArray ts QQ) (planOps base.toArray plan) a w.drew) :
    (Code.region id l.toArray true).wpIn (fenR r) 0 P Q a w := by
  simp only [planOk, Bool.and_eq_true, beq_iff_eq] at hp
  obtain ⟨⟨hs, hln⟩, hp⟩ := hp
  have h1 := wpAnyH_of_plan (P := P) hs plan _ a _ hS hp h (planGo_in hp)
  rw [hln] at h1
  have h2 := wpAny_of_held _ _ _ _ h1
  have h3 := wpAny_tails (P := P) ts base.toArray _ _ a w.drew ht (by simp) h2
  have e1 : (base.toArray.toList ++ ts).toArray = l.toArray := by rw [← hl]
  have e2 : base.toArray.size + ts.length = l.toArray.size := by rw [← hl]; simp
  have e3 : ((Array.replicate base.toArray.size false).toList ++ List.replicate ts.length false).toArray = Array.replicate l.toArray.size false := by
    rw [← e2]
    apply Array.ext'
    simp
  rw [e1, e2, e3] at h3
  refine wpIn_region_draw fun t => ?_
  simp only [Region.schedule, hm, Bool.true_or, if_true]
  exact opsIn_of hq hd _ _ _ (wpAny_sound _ t _ a _ h3)

/-! ### Operations, code, functions -/
def VPx (P : Program) (G : Globs) (ro : Nat) (o : Oper) (σ : List TV) (T : VT) (K : List TV → VT → Prop) : Prop :=
  ∀ g w (a : Act) (next : Act → World → Prop) (Q : Exit → Act → World → Prop), RW g T w → GOk G g w → VRs g w σ a.tmps.toList →
    (∀ σ' T' g' w' (a' : Act), (∃ v, a' = a.put o.dst v) → K σ' T' → Evo g w g' w' → RW g' T' w' → VRs g' w' σ' a'.tmps.toList → a'.defers = a.defers → Fix ro g T w T' w' → next a' w') → o.wp P a w next Q
def VPi (P : Program) (G : Globs) (ro : Nat) (o : Oper) (σ : List TV) (T : VT) (K : List TV → VT → Prop) : Prop :=
  ∀ r g w (a : Act) (next : Act → World → Prop) (Q : Exit → Act → World → Prop), RW g T w → GOk G g w → VRs g w σ a.tmps.toList →
    (∀ σ' T' g' w' (a' : Act), (∃ v, a' = a.put o.dst v) → K σ' T' → Evo g w g' w' → RW g' T' w' → VRs g' w' σ' a'.tmps.toList → a'.defers = a.defers → Fix ro g T w T' w' → next a' w') → o.wpIn (fenR r) 0 P a w next Q
theorem VPx.toI {G : Globs} {ro : Nat} {o : Oper} {σ : List TV} {T : VT} {K : List TV → VT → Prop} (h : VPx P G ro o σ T K) (hd : notDefer o.op = true) : VPi P G ro o σ T K :=
  fun r g w a next Q rw0 hG hσ hn => opIn_of (Q := fun _ _ _ => False) (fun _ _ _ => ⟨fun _ _ h => h, fun _ h => h⟩) hd (h g w a next _ rw0 hG hσ hn)
def mk (g : Gh) (id : Nat) : Deferred := { target := .collected ((g.obj id).getD 0), args := #[] }
/-- what is behind code: where it stands, the slots, what is known, the marks -/
abbrev KX := Exit → List TV → VT → List Nat → Prop
/-- the frame is a round of the loop rd -/
def RdOk (g : Gh) (rd r : Option Nat) : Prop := match rd with
  | some id => r.isSome = true ∧ g.obj id = r
  | none => r = none
def VWx (P : Program) (G : Globs) (rd : Option Nat) (ro : Nat) (c : Code) (σ : List TV) (T : VT) (D : List Nat) (Q : KX) : Prop :=
  ∀ r g w (a : Act), RW g T w → GOk G g w → VRs g w σ a.tmps.toList → a.defers = D.map (mk g) → (∀ id ∈ D, (g.obj id).isSome = true) → RdOk g rd r →
    c.wpIn (fenR r) 0 P (fun e a' w' => ∃ g' σ' T' D', Q e σ' T' D' ∧ Evo g w g' w' ∧ RW g' T' w' ∧ VRs g' w' σ' a'.tmps.toList ∧ a'.defers = D'.map (mk g') ∧ (∀ id ∈ D', (g'.obj id).isSome = true) ∧ Fix ro g T w T' w') a w
def VCx (P : Program) (G : Globs) (ro : Nat) (f : FuncId) (xs : List TV) (T : VT) (Q : TV → VT → Prop) : Prop :=
  ∀ g w us, RW g T w → GOk G g w → VRs g w xs us → Calls P f us.toArray w fun e w' => ∃ v x g' T', e = .returned v ∧ Q x T' ∧ Evo g w g' w' ∧ RW g' T' w' ∧ VR g' w' x v ∧ Fix ro g T w T' w'
/-- a round of the loop id -/
def VRx (P : Program) (G : Globs) (ro id : Nat) (xs : List TV) (T : VT) (Q : TV → VT → Prop) : Prop :=
  ∀ g w us, RW g T w → GOk G g w → VRs g w xs us → ∃ b fn tmps asg body, g.obj id = some b ∧ (Instr.yield b us.toArray).run P w = .ok (.round b fn tmps asg body) w ∧
    RoundIn Fence.wide 0 P b fn tmps asg body w fun e w' => ∃ v x g' T', e = .returned v ∧ Q x T' ∧ Evo g w g' w' ∧ RW g' T' w' ∧ VR g' w' x v ∧ Fix ro g T w T' w'
theorem mk_evo {g g' : Gh} {w w' : World} (e : Evo g w g' w') {D : List Nat} (h : ∀ id ∈ D, (g.obj id).isSome = true) : D.map (mk g') = D.map (mk g) := by
  apply List.map_congr_left
  intro id hid
  obtain ⟨b, hb⟩ := Option.isSome_iff_exists.1 (h id hid)
  simp [mk, hb, e.obj id b hb]
theorem isSome_evo {g g' : Gh} {w w' : World} (e : Evo g w g' w') {D : List Nat} (h : ∀ id ∈ D, (g.obj id).isSome = true) : ∀ id ∈ D, (g'.obj id).isSome = true := by
  intro id hid
  obtain ⟨b, hb⟩ := Option.isSome_iff_exists.1 (h id hid)
  rw [e.obj id b hb]; rfl
theorem rd_evo {g g' : Gh} {w w' : World} (e : Evo g w g' w') {rd r : Option Nat} (h : RdOk g rd r) : RdOk g' rd r := by
  cases rd with
  | none => exact h
  | some id =>
    obtain ⟨h1, h2⟩ := h
    obtain ⟨b, hb⟩ := Option.isSome_iff_exists.1 h1
    subst hb
    exact ⟨h1, e.obj id b h2⟩
theorem VCx.mono {G : Globs} {ro : Nat} {f : FuncId} {xs : List TV} {T : VT} {Q Q' : TV → VT → Prop} (h : VCx P G ro f xs T Q) (k : ∀ x T', Q x T' → Q' x T') : VCx P G ro f xs T Q' :=
  fun g w us r hG hx => Calls.mono (h g w us r hG hx) fun e w' ⟨v, x, g', T', h1, h2, h3⟩ => ⟨v, x, g', T', h1, k _ _ h2, h3⟩
theorem VCx.calls {ro : Nat} {f : FuncId} {xs : List TV} {T : VT} {Q : TV → VT → Prop} (h : VCx P (fun _ => none) ro f xs T Q) : VCalls P f xs T Q :=
  fun g w us r hx => Calls.mono (h g w us r (fun _ _ h => by cases h) hx) fun e w' ⟨v, x, g', T', h1, h2, h3, h4, h5, _⟩ => ⟨v, x, g', T', h1, h2, h3, h4, h5⟩
theorem VWx.mono {G : Globs} {rd : Option Nat} {ro : Nat} {c : Code} {σ : List TV} {T : VT} {D : List Nat} {Q Q' : KX} (h : VWx P G rd ro c σ T D Q) (k : ∀ e σ T D, Q e σ T D → Q' e σ T D) : VWx P G rd ro c σ T D Q' :=
  fun r g w a rw0 hG hσ hd hD hr => wpIn_mono (h r g w a rw0 hG hσ hd hD hr) fun e a' w' ⟨g', σ', T', D', hq, h⟩ => ⟨g', σ', T', D', k _ _ _ _ hq, h⟩
/-- a function that turns nothing and leaves nothing -/
theorem VCx.of_pure {G : Globs} {ro : Nat} {f : FuncId} {xs ys : List TV} {T : VT} {r : TV} (h : VCalls P f xs ⟨[], []⟩ fun x T' => x = r ∧ T' = ⟨[], []⟩) (hx : renL (nameIn []) (nameIn []) ys = xs) :
    VCx P G ro f ys T fun x T' => x = r.ren (nameOut T.objs.length []) (nameOut T.tails.length []) ∧ T' = T := by
  intro g w us rw0 _ hxs
  have hargs := hxs.ren (sub_ren g T [] [])
  rw [hx] at hargs
  have hg : T.give [] [] = ⟨[], []⟩ := VT.give_nil T
  have r1 := rw0.give (is := []) (ks := []) List.nodup_nil List.nodup_nil (by simp) (by simp)
  rw [hg] at r1
  refine Calls.mono (h _ w _ r1 hargs) ?_
  rintro e w' ⟨v, x, gc, T', rfl, ⟨rfl, rfl⟩, e', r', hv⟩
  obtain ⟨g', ev, rb, rn⟩ := join_back rw0 (is := []) (ks := []) List.nodup_nil List.nodup_nil (by simp) (by simp) e' r' (Nat.zero_le _) (Nat.zero_le _)
  have hb : T.back [] [] ⟨[], []⟩ = T := by rw [VT.back_nil]; cases T; simp
  rw [hb] at rb
  refine ⟨v, _, g', T, rfl, ⟨rfl, rfl⟩, ev, rb, hv.ren rn, Nat.le_refl _, fun _ _ _ => rfl, fun i o b _ ho hl hb => ?_⟩
  exact e'.frb b (.inr (.inl ⟨i, o, ho, hl, by simp, hb⟩))
theorem VPx.op {G : Globs} {ro : Nat} {o : Oper} {σ : List TV} {T T' : VT} {K : List TV → VT → Prop} {y : TV} (h : vopA P ro T o.op (vev G σ) = some (y, T')) (k : K (vput σ o.dst y) T') : VPx P G ro o σ T K := by
  intro g w a next Q r hG hσ hn
  obtain ⟨m, v, g', w', h1, h2, h3, h4, h5, h6⟩ := vopA_ok r h (vev_ok hG hσ)
  unfold Oper.wp
  rw [h1]
  have e : ∀ v', VR g' w' y v' → next (a.put o.dst v') w' := fun v' hv => hn _ _ g' w' _ ⟨v', rfl⟩ k h4 h5 (vput_ok (hσ.mono h4) o.dst hv) (put_defers _ _ _) h6
  cases m <;> simp only [nextVal] at h2 <;> try (cases h2)
  · exact e v h3
  · exact e undef h3
/-- a call: the callee sees all -/
theorem VPx.call {G : Globs} {ro : Nat} {o : Oper} {fo : Operand} {args : Array Operand} {ats : Array TypeId} {σ : List TV} {T : VT} {K : List TV → VT → Prop} {f : FuncId} {fn : Func} {fi ca : List TV}
    (ho : o.op = .call ⟨.value fo, args, ats⟩) (hf : vev G σ fo = .fn (.func f) fi ca) (hfn : P.funcs[f]? = some fn) (hb : fn.body.isSome = true) (hnm : (fn.name == "runtime.NumGoroutine") = false)
    (hc : VCx P G ro f (fi ++ args.toList.map (vev G σ) ++ ca) T fun x T' => K (vput σ o.dst x) T') : VPx P G ro o σ T K := by
  intro g w a next Q' r hG hσ hn
  have h1 := vev_ok hG hσ fo
  rw [hf] at h1
  obtain ⟨us, vs, h2, h3, h4⟩ := h1.fn_inv
  have hrun := run_call ho h2 hfn hb hnm w
  have hargs := (h3.app (map_rel (vev_ok hG hσ) args.toList)).app h4
  unfold Oper.wp
  rw [hrun]
  refine Calls.mono (hc g w _ r hG hargs) ?_
  rintro e w' ⟨v, x, g', T', rfl, hq, e', r', hv, hx⟩
  exact hn _ _ g' w' _ ⟨_, rfl⟩ hq e' r' (vput_ok (hσ.mono e') o.dst hv) (put_defers _ _ _) hx
theorem run_yld {o : Oper} {fo : Operand} {args : Array Operand} {ats : Array TypeId} (ho : o.op = .call ⟨.value fo, args, ats⟩) {ρ : Operand → Value} {b : Nat} (hf : ρ fo = .func (.yield b) #[] #[]) (w : World) :
    (execOp ρ o).run P w = (Instr.yield b (args.toList.map ρ).toArray).run P w := by
  obtain ⟨dst, op, ty, pos, af, gd⟩ := o
  simp only at ho; subst ho
  simp [execOp, resolve, hf, Deferred.ofValue, invoke, amap]
/-- a round -/
theorem VPi.yld {G : Globs} {ro : Nat} {o : Oper} {fo : Operand} {args : Array Operand} {ats : Array TypeId} {σ : List TV} {T : VT} {K : List TV → VT → Prop} {id : Nat}
    (ho : o.op = .call ⟨.value fo, args, ats⟩) (hf : vev G σ fo = .yld id) (hc : VRx P G ro id (args.toList.map (vev G σ)) T fun x T' => K (vput σ o.dst x) T') : VPi P G ro o σ T K := by
  intro r g w a next Q' rw0 hG hσ hn
  have h1 := vev_ok hG hσ fo
  rw [hf] at h1
  obtain ⟨b, hb, hu⟩ := h1.yld_inv
  obtain ⟨b', fn, tmps, asg, body, hb', hrun, hround⟩ := hc g w _ rw0 hG (map_rel (vev_ok hG hσ) args.toList)
  rw [hb] at hb'; injection hb' with hb'; subst hb'
  refine ⟨fun _ _ => trivial, ?_⟩
  rw [Oper.semAt_eq _ _ _ (by rw [ho]; intro c hc; cases hc), run_yld ho hu, hrun]
  refine ⟨fun h => (by cases h), ?_⟩
  refine RoundIn.mono (F := fenR r) (show RoundIn (fenR r) 0 P b fn tmps asg body w _ from hround) ?_
  rintro e w' ⟨v, x, g', T', rfl, hq, e', r', hv, hx⟩
  exact hn _ _ g' w' _ ⟨_, rfl⟩ hq e' r' (vput_ok (hσ.mono e') o.dst hv) (put_defers _ _ _) hx
end
end Go.Proofs.YtapfboldkkodkaaGreatDoor
