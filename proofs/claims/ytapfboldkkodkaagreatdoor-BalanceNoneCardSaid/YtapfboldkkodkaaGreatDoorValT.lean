/- For the walks on what is known: steps whose outcome is reckoned, calls, a function's end. For any program. -/
import Derived.Test.YtapfboldkkodkaaGreatDoorValD
namespace Go.Proofs.YtapfboldkkodkaaGreatDoor
open Go.RowKit

section
variable {P : Program}

/-! ### What is let go of -/
def keep (n i : Nat) : Option Nat := if i < n then some i else none
def VT.keep (T : VT) (n m : Nat) : VT := ⟨(T.objs.take n).map (VO.ren (Go.Proofs.YtapfboldkkodkaaGreatDoor.keep n) (Go.Proofs.YtapfboldkkodkaaGreatDoor.keep m)), T.tails.take m⟩
def Gh.keep (g : Gh) (n m : Nat) : Gh := { g with obj := fun i => if i < n then g.obj i else none, tail := fun i => if i < m then g.tail i else none }
theorem keep_ren (g : Gh) (n m : Nat) : Ren g (g.keep n m) (Go.Proofs.YtapfboldkkodkaaGreatDoor.keep n) (Go.Proofs.YtapfboldkkodkaaGreatDoor.keep m) := by
  refine ⟨fun i i' b h1 h2 => ?_, fun k k' x h1 h2 => ?_, fun _ _ h => h⟩
  · simp only [Go.Proofs.YtapfboldkkodkaaGreatDoor.keep] at h1
    split at h1
    · rename_i hi; injection h1 with h1; subst h1; simp [Gh.keep, hi, h2]
    · cases h1
  · simp only [Go.Proofs.YtapfboldkkodkaaGreatDoor.keep] at h1
    split at h1
    · rename_i hi; injection h1 with h1; subst h1; simp [Gh.keep, hi, h2]
    · cases h1
theorem RW.keep {g : Gh} {T : VT} {w : World} (r : RW g T w) (n m : Nat) : RW (g.keep n m) (T.keep n m) w := by
  have hob : ∀ (id : Nat) o, (T.keep n m).objs[id]? = some o → id < n ∧ ∃ o0, T.objs[id]? = some o0 ∧ o = o0.ren (Go.Proofs.YtapfboldkkodkaaGreatDoor.keep n) (Go.Proofs.YtapfboldkkodkaaGreatDoor.keep m) := by
    intro id o h
    simp only [VT.keep, List.getElem?_map, List.getElem?_take, Option.map_eq_some_iff] at h
    obtain ⟨o0, h1, rfl⟩ := h
    split at h1
    · exact ⟨by assumption, o0, h1, rfl⟩
    · cases h1
  have hgo : ∀ id, id < n → (g.keep n m).obj id = g.obj id := fun id h => by simp [Gh.keep, h]
  have hgt : ∀ k x, (g.keep n m).tail k = some x → k < m ∧ g.tail k = some x := fun k x h => by
    simp only [Gh.keep] at h
    split at h
    · exact ⟨by assumption, h⟩
    · cases h
  refine ⟨?_, ?_, ?_, r.st, r.fr, ?_, ?_, ?_, ?_, fun k x hx => r.own k x (hgt k x hx).2, fun k x hx => r.own0 k x (hgt k x hx).2, fun k x hx => r.tlo k x (hgt k x hx).2⟩
  · intro id o h hl
    obtain ⟨hid, o0, h1, rfl⟩ := hob id o h
    rw [VO.ren_live] at hl
    obtain ⟨b, h2, h3, h4⟩ := r.obj id o0 h1 hl
    exact ⟨b, by rw [hgo id hid]; exact h2, h3.ren (keep_ren g n m), h4⟩
  · intro i j oi oj b hi li hj lj b1 b2
    obtain ⟨hin, o1, h1, rfl⟩ := hob i oi hi
    obtain ⟨hjn, o2, h2, rfl⟩ := hob j oj hj
    rw [VO.ren_live] at li lj
    rw [hgo i hin] at b1; rw [hgo j hjn] at b2
    exact r.inj i j o1 o2 b h1 li h2 lj b1 b2
  · intro id hid
    simp only [VT.keep, List.length_map, List.length_take] at hid
    simp only [Gh.keep]
    split
    · exact r.out id (by omega)
    · rfl
  · intro k p h
    simp only [VT.keep, List.getElem?_take] at h
    split at h
    · rename_i hk
      obtain ⟨x, h1, h2⟩ := r.tl k p h
      exact ⟨x, by simp [Gh.keep, hk, h1], h2⟩
    · cases h
  · intro k hk
    simp only [VT.keep, List.length_take] at hk
    simp only [Gh.keep]
    split
    · exact r.tout k (by omega)
    · rfl
  · intro i j x y b hx hy i1 i2
    exact r.tinj i j x y b (hgt i x hx).2 (hgt j y hy).2 i1 i2
  · intro i oi b k x hi li b1 hx hin
    obtain ⟨hin', o1, h1, rfl⟩ := hob i oi hi
    rw [VO.ren_live] at li
    rw [hgo i hin'] at b1
    exact r.tobj i o1 b k x h1 li b1 (hgt k x hx).2 hin
theorem Evo.keep {g0 g : Gh} {T0 : VT} {w0 w : World} (r0 : RW g0 T0 w0) (e : Evo g0 w0 g w) {n m : Nat} (hn : T0.objs.length ≤ n) (hm : T0.tails.length ≤ m) : Evo g0 w0 (g.keep n m) w := by
  refine ⟨e.os, e.tape, e.output, e.size, fun id b hb => ?_, e.st, e.fr, e.frb, e.frs, fun k x hx => ?_, fun k x h1 h2 => ?_, e.csz⟩
  rotate_left 2
  · simp only [Gh.keep] at h2
    split at h2
    · exact e.tnew k x h1 h2
    · cases h2
  · have := obj_lt r0 hb
    simp only [Gh.keep]
    rw [if_pos (by omega)]; exact e.obj id b hb
  · have := tail_lt r0 hx
    simp only [Gh.keep]
    rw [if_pos (by omega)]; exact e.tail k x hx
theorem VCalls.forget {f : FuncId} {xs : List TV} {T : VT} {Q Q' : TV → VT → Prop} (n m : Nat) (hn : T.objs.length ≤ n) (hm : T.tails.length ≤ m) (h : VCalls P f xs T Q)
    (k : ∀ x T', Q x T' → Q' (x.ren (Go.Proofs.YtapfboldkkodkaaGreatDoor.keep n) (Go.Proofs.YtapfboldkkodkaaGreatDoor.keep m)) (T'.keep n m)) : VCalls P f xs T Q' := by
  intro g w us r hx
  refine (h g w us r hx).mono ?_
  rintro e w' ⟨v, x, g', T', rfl, hq, e', r', hv⟩
  exact ⟨v, _, _, _, rfl, k x T' hq, Evo.keep r e' hn hm, r'.keep n m, hv.ren (keep_ren g' n m)⟩

/-! ### Steps -/
def vcont (o : Option (TV × VT)) (k : TV → VT → Prop) : Prop := match o with
  | some (y, T) => k y T
  | none => False
theorem vcont_some (y : TV) (T : VT) (k : TV → VT → Prop) : vcont (some (y, T)) k = k y T := rfl
theorem VL.run {ops : Array Oper} {K : List TV → VT → Prop} {o : Oper} {l : List Oper} {σ : List TV} {T : VT} (hg : vwanted ops σ o = some true)
    (h : ∀ k : List TV → VT → Prop, (∀ σ' T', VL P ops K l σ' T' → k σ' T') → vcont (vop P T o.op (veval σ)) fun y T' => k (vput σ o.dst y) T') : VL P ops K (o :: l) σ T := by
  have h1 := h _ (fun _ _ h => h)
  cases hv : vop P T o.op (veval σ) with
  | none => rw [hv] at h1; exact h1.elim
  | some p => rw [hv] at h1; exact VL.op hg hv h1
theorem VL.nostep {ops : Array Oper} {K : List TV → VT → Prop} {o : Oper} {l : List Oper} {σ : List TV} {T : VT} (hg : vwanted ops σ o = some false)
    (h : ∀ k : List TV → VT → Prop, (∀ σ' T', VL P ops K l σ' T' → k σ' T') → k (vput σ o.dst (.val undef)) T) : VL P ops K (o :: l) σ T := VL.skip hg (h _ fun _ _ h => h)
theorem VL.call {ops : Array Oper} {K : List TV → VT → Prop} {o : Oper} {l : List Oper} {fo : Operand} {args : Array Operand} {ats : Array TypeId} {σ : List TV} {T : VT} {f : FuncId} {fn : Func} {fi ca xs : List TV} {Q : TV → VT → Prop} (is ks : List Nat)
    (hg : vwanted ops σ o = some true) (ho : o.op = .call ⟨.value fo, args, ats⟩) (hf : veval σ fo = .fn (.func f) fi ca) (hfn : P.funcs[f]? = some fn) (hb : fn.body.isSome = true) (hnm : (fn.name == "runtime.NumGoroutine") = false)
    (hi : is.Nodup) (hk : ks.Nodup) (hil : ∀ i ∈ is, ∃ o, T.objs[i]? = some o ∧ o.live = true) (hkl : ∀ k ∈ ks, k < T.tails.length)
    (hc : VCalls P f xs (T.give is ks) Q) (hx : renL (nameIn is) (nameIn ks) (fi ++ args.toList.map (veval σ) ++ ca) = xs)
    (k : ∀ x T', Q x T' → is.length ≤ T'.objs.length ∧ ks.length ≤ T'.tails.length ∧ VL P ops K l (vput σ o.dst (x.ren (nameOut T.objs.length is) (nameOut T.tails.length ks))) (T.back is ks T')) : VL P ops K (o :: l) σ T :=
  .inl ⟨hg, .call is ks ho hf hfn hb hnm hi hk hil hkl hx hc k⟩
theorem VT.give_nil (T : VT) : T.give [] [] = ⟨[], []⟩ := rfl
theorem VT.back_nil (T : VT) (T' : VT) : T.back [] [] T' = ⟨T.objs ++ T'.objs.map (VO.ren (nameOut T.objs.length []) (nameOut T.tails.length [])), T.tails ++ T'.tails⟩ := by simp [VT.back, giveBack]
/-- a call of a function that yields a value, and leaves nothing -/
theorem VL.pure {ops : Array Oper} {K : List TV → VT → Prop} {o : Oper} {l : List Oper} {fo : Operand} {args : Array Operand} {ats : Array TypeId} {σ : List TV} {T : VT} {f : FuncId} {fn : Func} {fi ca xs : List TV} {r : TV}
    (hg : vwanted ops σ o = some true) (ho : o.op = .call ⟨.value fo, args, ats⟩) (hf : veval σ fo = .fn (.func f) fi ca) (hfn : P.funcs[f]? = some fn) (hb : fn.body.isSome = true) (hnm : (fn.name == "runtime.NumGoroutine") = false)
    (hc : VCalls P f xs ⟨[], []⟩ fun x T' => x = r ∧ T' = ⟨[], []⟩) (hx : renL (nameIn []) (nameIn []) (fi ++ args.toList.map (veval σ) ++ ca) = xs)
    (h : ∀ k : List TV → VT → Prop, (∀ σ' T', VL P ops K l σ' T' → k σ' T') → k (vput σ o.dst (r.ren (nameOut T.objs.length []) (nameOut T.tails.length []))) T) : VL P ops K (o :: l) σ T := by
  refine VL.call [] [] hg ho hf hfn hb hnm List.nodup_nil List.nodup_nil (by simp) (by simp) (by rw [VT.give_nil]; exact hc) hx ?_
  rintro x T' ⟨rfl, rfl⟩
  refine ⟨Nat.le_refl _, Nat.le_refl _, ?_⟩
  have := h _ fun _ _ h => h
  simpa [VT.back_nil] using this
/-- σ, written out -/
theorem VW.tidy {c : Code} {σ : List TV} {T : VT} {Q : Exit → List TV → VT → Prop} (h : ∀ k : List TV → VT → Prop, (∀ σ' T', VW P c σ' T' Q → k σ' T') → k σ T) : VW P c σ T Q := h _ fun _ _ h => h
theorem VCalls.go {f : FuncId} {fn : Func} {c : Code} {xs : List TV} {T : VT} {Q : TV → VT → Prop} (hf : P.funcs[f]? = some fn) (hb : fn.body = some c)
    (h : ∀ k : List TV → Prop, (∀ σ, VW P c σ T (fun e σ T' => (e = .normal ∨ e = .ret) ∧ ∃ x, vresults P T' σ fn.results = some x ∧ Q (x.ren (Go.Proofs.YtapfboldkkodkaaGreatDoor.keep T.objs.length) (Go.Proofs.YtapfboldkkodkaaGreatDoor.keep T.tails.length)) (T'.keep T.objs.length T.tails.length)) → k σ) →
      k (xs ++ List.replicate (fn.ntmps - xs.length) (.val undef))) : VCalls P f xs T Q :=
  VCalls.forget T.objs.length T.tails.length (Nat.le_refl _) (Nat.le_refl _) (VCalls.enter hf hb (h _ fun _ h => h)) fun _ _ h => h
/-- as VCalls.go; n objects, m tails are kept -/
theorem VCalls.goK {f : FuncId} {fn : Func} {c : Code} {xs : List TV} {T : VT} {Q : TV → VT → Prop} (n m : Nat) (hn : T.objs.length ≤ n) (hm : T.tails.length ≤ m) (hf : P.funcs[f]? = some fn) (hb : fn.body = some c)
    (h : ∀ k : List TV → Prop, (∀ σ, VW P c σ T (fun e σ T' => (e = .normal ∨ e = .ret) ∧ ∃ x, vresults P T' σ fn.results = some x ∧ Q (x.ren (Go.Proofs.YtapfboldkkodkaaGreatDoor.keep n) (Go.Proofs.YtapfboldkkodkaaGreatDoor.keep m)) (T'.keep n m)) → k σ) →
      k (xs ++ List.replicate (fn.ntmps - xs.length) (.val undef))) : VCalls P f xs T Q :=
  VCalls.forget n m hn hm (VCalls.enter hf hb (h _ fun _ h => h)) fun _ _ h => h
/-- the end -/
theorem vend {e : Exit} {rs : Array ResultVar} {T : VT} {σ : List TV} {R : TV → Prop} {x : TV} (he : e = .normal ∨ e = .ret) (hr : vresults P T σ rs = some x) (h : R x) : (e = .normal ∨ e = .ret) ∧ ∃ x, vresults P T σ rs = some x ∧ R x := ⟨he, x, hr, h⟩

/-- what was shown of a function that leaves all as it was -/
theorem VCalls.of_gr {f : FuncId} {us : List Value} {v : Value} (h : ∀ w, Calls P f us.toArray w fun e w' => e = .returned v ∧ Gr w w') (T : VT) : VCalls P f (us.map .val) T fun x T' => x = .val v ∧ T' = T := by
  intro g w us' r hx
  have e : us' = us := by
    have h1 := hx
    have h2 := VRs.vals g w us
    apply List.ext_getElem?
    intro j
    rcases Nat.lt_or_ge j us.length with hj | hj
    · have hj' : j < us'.length := by have := hx.1; simp at this; omega
      have := hx.2 j (.val us[j]) us'[j] (by simp [hj]) (List.getElem?_eq_getElem hj')
      rw [List.getElem?_eq_getElem hj, List.getElem?_eq_getElem hj', this.val_inv]
    · have hj' : us'.length ≤ j := by have := hx.1; simp at this; omega
      rw [List.getElem?_eq_none hj, List.getElem?_eq_none hj']
  subst e
  refine (h w).mono ?_
  rintro e w' ⟨rfl, hg⟩
  exact ⟨v, .val v, g, T, rfl, ⟨rfl, rfl⟩, Evo.of_gr r hg, r.gr hg, .val v⟩
theorem VCalls.of_eq {f : FuncId} {us : List Value} {v : Value} (h : ∀ w, Calls P f us.toArray w fun e w' => e = .returned v ∧ w = w') (T : VT) : VCalls P f (us.map .val) T fun x T' => x = .val v ∧ T' = T :=
  VCalls.of_gr (fun w => (h w).mono fun e w' ⟨h1, h2⟩ => ⟨h1, h2 ▸ Gr.refl w⟩) T

/-! ### Operators, reckoned -/
variable (t : TypeId) (xo yo : Operand) (k k' : IntKind) (a b : Int)
theorem vbin_add : vbin P .add t xo yo (.val (.int k a)) (.val (.int k b)) = some (.val (.int k (k.wrap (a + b)))) := by cases k <;> rfl
theorem vbin_sub : vbin P .sub t xo yo (.val (.int k a)) (.val (.int k b)) = some (.val (.int k (k.wrap (a - b)))) := by cases k <;> rfl
theorem vbin_mul : vbin P .mul t xo yo (.val (.int k a)) (.val (.int k b)) = some (.val (.int k (k.wrap (a * b)))) := by cases k <;> rfl
theorem vbin_lss : vbin P .lss t xo yo (.val (.int k a)) (.val (.int k b)) = some (.val (.bool (decide (a < b)))) := by cases k <;> rfl
theorem vbin_leq : vbin P .leq t xo yo (.val (.int k a)) (.val (.int k b)) = some (.val (.bool (decide (a ≤ b)))) := by cases k <;> rfl
theorem vbin_gtr : vbin P .gtr t xo yo (.val (.int k a)) (.val (.int k b)) = some (.val (.bool (decide (b < a)))) := by cases k <;> rfl
theorem vbin_geq : vbin P .geq t xo yo (.val (.int k a)) (.val (.int k b)) = some (.val (.bool (decide (b ≤ a)))) := by cases k <;> rfl
theorem vbin_eql : vbin P .eql t xo yo (.val (.int k a)) (.val (.int k b)) = some (.val (.bool (a == b))) := by cases k <;> rfl
theorem vbin_neq : vbin P .neq t xo yo (.val (.int k a)) (.val (.int k b)) = some (.val (.bool (a != b))) := by cases k <;> rfl
end
end Go.Proofs.YtapfboldkkodkaaGreatDoor
