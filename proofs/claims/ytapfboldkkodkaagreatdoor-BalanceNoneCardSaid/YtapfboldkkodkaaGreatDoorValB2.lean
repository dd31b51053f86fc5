/- A slice of the function's own that a call turns in place. For any program. -/
import Derived.Test.YtapfboldkkodkaaGreatDoorValP
import Derived.Test.YtapfboldkkodkaaGreatDoorBlock
import Derived.Test.YtapfboldkkodkaaGreatDoorMem
namespace Go.Proofs.YtapfboldkkodkaaGreatDoor
open Go.RowKit

section
variable {P : Program}

/-- code in a function that began at g0, w0 -/
def VWB (P : Program) (g0 : Gh) (w0 : World) (c : Code) (σ : List TV) (T : VT) (Q : Exit → List TV → VT → Prop) : Prop :=
  ∀ g w (a : Act), Evo g0 w0 g w → RW g T w → VRs g w σ a.tmps.toList → a.defers = [] →
    c.wp P (fun e a' w' => ∃ g' σ' T', Q e σ' T' ∧ Evo g0 w0 g' w' ∧ RW g' T' w' ∧ VRs g' w' σ' a'.tmps.toList ∧ a'.defers = []) a w
theorem VWB.of {g0 : Gh} {w0 : World} {c : Code} {σ : List TV} {T : VT} {Q : Exit → List TV → VT → Prop} (h : VW P c σ T Q) : VWB P g0 w0 c σ T Q :=
  fun g w a e r hσ hd => wp_mono (h g w a r hσ hd) fun _ _ _ ⟨g', σ', T', hq, e', h⟩ => ⟨g', σ', T', hq, e.trans e', h⟩
theorem VWB.seq {g0 : Gh} {w0 : World} {x y : Code} {σ : List TV} {T : VT} {Q : Exit → List TV → VT → Prop} (h : VWB P g0 w0 x σ T (Vthen (fun σ T => VWB P g0 w0 y σ T Q) Q)) : VWB P g0 w0 (.seq x y) σ T Q := by
  intro g w a e0 r hσ hd
  refine wp_seq (wp_mono (h g w a e0 r hσ hd) ?_)
  rintro e a' w' ⟨g', σ', T', hq, e1, r', hσ', hd'⟩
  cases e <;> first
    | exact ⟨g', σ', T', hq, e1, r', hσ', hd'⟩
    | exact hq g' w' a' e1 r' hσ' hd'
theorem VCalls.enterB {f : FuncId} {fn : Func} {c : Code} {xs : List TV} {T : VT} {Q : TV → VT → Prop} (hf : P.funcs[f]? = some fn) (hb : fn.body = some c)
    (h : ∀ g0 w0, RW g0 T w0 → ∀ k : List TV → Prop, (∀ σ, VWB P g0 w0 c σ T (fun e σ T' => (e = .normal ∨ e = .ret) ∧ ∃ x, vresults P T' σ fn.results = some x ∧ Q (x.ren (Go.Proofs.YtapfboldkkodkaaGreatDoor.keep T.objs.length) (Go.Proofs.YtapfboldkkodkaaGreatDoor.keep T.tails.length)) (T'.keep T.objs.length T.tails.length)) → k σ) →
      k (xs ++ List.replicate (fn.ntmps - xs.length) (.val undef))) : VCalls P f xs T Q := by
  refine VCalls.forget (Q := fun x T' => Q (x.ren (Go.Proofs.YtapfboldkkodkaaGreatDoor.keep T.objs.length) (Go.Proofs.YtapfboldkkodkaaGreatDoor.keep T.tails.length)) (T'.keep T.objs.length T.tails.length)) T.objs.length T.tails.length (Nat.le_refl _) (Nat.le_refl _) ?_ fun _ _ h => h
  intro g w us r hx
  have h1 := h g w r _ fun _ h => h
  refine calls_of_wp hf hb (wp_mono (h1 g w _ (Evo.refl _ _) r ?_ rfl) ?_)
  · have e1 : (us.toArray ++ Array.replicate (fn.ntmps - us.toArray.size) undef).toList = us ++ (List.replicate (fn.ntmps - xs.length) undef) := by simp [hx.1]
    rw [e1]
    refine hx.app ?_
    have := VRs.vals g w (List.replicate (fn.ntmps - xs.length) undef)
    simpa using this
  · rintro e a' w' ⟨g', σ', T', ⟨he, x, hr, hq⟩, e1, r', hσ', hd'⟩
    obtain ⟨v, h1, h2⟩ := vresults_ok r' hσ' hr
    rcases he with rfl | rfl
    · exact ⟨hd', v, h2, v, x, g', T', rfl, hq, e1, r', h1⟩
    · exact ⟨hd', v, h2, v, x, g', T', rfl, hq, e1, r', h1⟩

/-- what does not hang on memory that stays -/
def isLoose : TV → Bool
  | .val _ | .ptr .. | .sl .. | .map _ | .dead => true
  | _ => false
def loose (x : TV) : TV := if isLoose x then x else .dead
theorem loose_ok {g g' : Gh} {w w' : World} {x : TV} {u : Value} (ho : ∀ id b, g.obj id = some b → g'.obj id = some b) (h : VR g w x u) : VR g' w' (loose x) u := by
  unfold loose
  split
  · rename_i hl
    cases h <;> first
      | exact .val _
      | exact .dead _
      | (rename_i hb; exact .ptr (ho _ _ hb))
      | (rename_i hb; exact .sl (ho _ _ hb))
      | (rename_i hb; exact .map (ho _ _ hb))
      | cases hl
  · exact .dead _
def looseO : VO → VO
  | .cells cs => .cells (cs.map loose)
  | .row cs => .row (cs.map loose)
  | .map sh look es ck => .map sh (fun k => (look k).map loose) (es.map fun e => (e.1, loose e.2.1, e.2.2)) ck
  | .iter m since seen stepped => .iter (loose m) since seen stepped
  | .siter s pos => .siter s pos
  | .loop st pend σ ps asg body => .loop st pend (σ.map loose) ps asg body
  | .defd => .defd
  | .gone => .gone
theorem looseO_live (o : VO) : (looseO o).live = o.live := by cases o <;> rfl
theorem map_loose {g g' : Gh} {w w' : World} (ho : ∀ id b, g.obj id = some b → g'.obj id = some b) {cs : List TV} {us : List Value} (h : VRs g w cs us) : VRs g' w' (cs.map loose) us :=
  ⟨by rw [List.length_map]; exact h.1, fun j x u hx hu => by
    rw [List.getElem?_map] at hx
    cases hc : cs[j]? with
    | none => rw [hc] at hx; cases hx
    | some y => rw [hc] at hx; simp at hx; subst hx; exact loose_ok ho (h.2 j y u hc hu)⟩
/-- the slots behind a call that turned the slice es of tail k: it reads as es' there -/
def turned (size k e : Nat) (n : Nat) (es' : List (List TV)) (σ : List TV) : List TV := σ.map fun x => match x with
  | .vec s es (.tail k' e') => if s = size ∧ k' = k ∧ e' = e ∧ es.length = n then .vec size es' .none else .dead
  | x => loose x
/-- one operation, in a function that began at g0, w0 -/
def VPB (P : Program) (g0 : Gh) (w0 : World) (o : Oper) (σ : List TV) (T : VT) (K : List TV → VT → Prop) : Prop :=
  ∀ g w (a : Act) (next : Act → World → Prop) (Q : Exit → Act → World → Prop), Evo g0 w0 g w → RW g T w → VRs g w σ a.tmps.toList → a.defers = [] →
    (∀ σ' T' g' w' (a' : Act), K σ' T' → Evo g0 w0 g' w' → RW g' T' w' → VRs g' w' σ' a'.tmps.toList → a'.defers = [] → next a' w') → o.wp P a w next Q

/-- a call that turns a slice of the function's own in place (a sort) -/
theorem VPB.turn {g0 : Gh} {w0 : World} {T0 : VT} (r0 : RW g0 T0 w0) {o : Oper} {fo x1 : Operand} {args : List Operand} {ats : Array TypeId} {σ : List TV} {T : VT} {K : List TV → VT → Prop} {f : FuncId} {fn : Func} {size k e : Nat} {es es' : List (List TV)} {us' : List Value} {rest : List Value} {rv : Value}
    (ho : o.op = .call ⟨.value fo, (x1 :: args).toArray, ats⟩) (hf : veval σ fo = .fn (.func f) [] []) (hfn : P.funcs[f]? = some fn) (hb : fn.body.isSome = true) (hnm : (fn.name == "runtime.NumGoroutine") = false)
    (hx : veval σ x1 = .vec size es (.tail k e)) (hk : T0.tails.length ≤ k) (hT : T.tails[k]? = some (e, size, true)) (hn : es.length = e) (hpos : 0 < e) (hs0 : 0 < size)
    (hr : ∀ g w (a : Act), VRs g w σ a.tmps.toList → args.map a.eval = rest)
    (hz' : ∀ e ∈ es', e.length = size) (hl' : es'.length = es.length) (hv' : es'.flatten = us'.map .val) (ho' : ∀ u ∈ us', u.oneCell' = true)
    (hc : ∀ (w : World) (b cap : Nat) (ty : TypeId) (us : List Value), w.heap[b]? = some (.cells us.toArray ty (0, 0)) → us.length = cap * size → es.length ≤ cap → cap ≤ maxLen → (∃ g, VRs g w es.flatten (us.take (es.length * size))) →
      Calls P f (.slice (some ⟨b, 0, none⟩) es.length cap :: rest).toArray w fun r w' => r = .returned rv ∧ Gb b w w' ∧ Rd w' size (.slice (some ⟨b, 0, none⟩) es.length cap) es.length us')
    (hK : K (vput (turned size k e es.length es' σ) o.dst (.val rv)) ⟨T.objs.map looseO, T.tails.set k (e + 1, size, false)⟩) : VPB P g0 w0 o σ T K := by
  intro g w a next Q e0 r hσ hd hnext
  have h1 := veval_ok hσ fo
  rw [hf] at h1
  obtain ⟨fs, cs, h2, h3, h4⟩ := h1.fn_inv
  have hfs : fs = [] := List.eq_nil_of_length_eq_zero h3.1
  have hcs : cs = [] := List.eq_nil_of_length_eq_zero h4.1
  subst hfs hcs
  have hrun := run_call ho h2 hfn hb hnm w
  simp only [List.nil_append, List.append_nil, List.map_cons] at hrun
  rw [hr g w a hσ] at hrun
  have hs := veval_ok hσ x1
  rw [hx] at hs
  obtain ⟨x, hxt, hxe, hxz, hxx⟩ := r.tl k _ hT
  simp only at hxe hxz
  obtain ⟨hxz, hxb⟩ := hxz
  have hxo : x.own = true := by
    rcases hs.vec_inv with ⟨_, he, _⟩ | ⟨b, o', c, us, hu2, a1, a2, a3, a4, _⟩
    · rw [he] at hn; simp at hn; omega
    · obtain ⟨y, q1, q2, q3, _, q5⟩ := a4
      rw [hxt] at q1; injection q1 with q1; subst q1
      exact ((q5 hxe hxb).2 (by omega) (by omega)).1
  obtain ⟨⟨cur, hblk, hcur⟩, hff, hfl, hlo, hnfr⟩ := r.own k x hxt hxo (by omega)
  -- what any value that reads so is
  have uniq : ∀ (es2 : List (List TV)) u, es2.length = es.length → VR g w (.vec size es2 (.tail k e)) u → ∃ c, u = .slice (some ⟨x.b, 0, none⟩) es.length c ∧ x.lim = c * size ∧ es.length ≤ c ∧ c ≤ maxLen := by
    intro es2 u hl2 hu
    rcases hu.vec_inv with ⟨_, he, _⟩ | ⟨b, o', c, us, rfl, a1, a2, a3, a4, a5, a6, a7, a8⟩
    · rw [he] at hl2; simp at hl2; omega
    · obtain ⟨y, q1, q2, q3, _, q5⟩ := a4
      rw [hxt] at q1; injection q1 with q1; subst q1
      obtain ⟨_, q6⟩ := q5 hxe hxb
      obtain ⟨_, p1, p2, p3⟩ := q6 (by omega) (by omega)
      subst p1 p2
      exact ⟨c, by rw [hl2], p3, by omega, a2⟩
  have hes : 0 < es.length := by omega
  obtain ⟨c, hu1, hlim, hle, hmx⟩ := uniq es _ rfl hs
  rcases hs.vec_inv with ⟨_, he, _⟩ | ⟨b, o', c', us, hu2, a1, a2, a3, a4, a5, a6, a7, a8⟩
  · rw [he] at hes; simp at hes
  rw [hu1] at hu2
  injection hu2 with p1 p2 p3
  injection p1 with p1; injection p1 with p1 p4
  subst p1 p4 p3
  have hcl := hc w x.b c x.ty cur.toList (by simpa using hblk) (by simp; omega) hle hmx ⟨g, by
    have hfl2 := flatten_len a3
    have hul : us.length = es.length * size := by rw [a5.1, hfl2]
    have : cur.toList.take (es.length * size) = us := by
      apply List.ext_getElem?
      intro j
      rw [List.getElem?_take]
      split
      · rename_i hj
        have h9 : us[j]? = some us[j] := List.getElem?_eq_getElem (by omega)
        have h10 := a7 j us[j] h9
        rw [h9]
        simpa [World.cell?, hblk] using h10
      · rename_i hj; rw [List.getElem?_eq_none (by omega)]
    rw [this]; exact a5⟩
  unfold Oper.wp
  rw [hrun, hu1]
  refine Calls.mono hcl ?_
  rintro rr w' ⟨rfl, hgb, hrd⟩
  -- the ghost behind it
  have hw0 : w0.heap.size ≤ x.b := Nat.le_trans (e0.tnew k x (r0.tout k hk) hxt) hlo
  have hheap : ∀ b, b < w.heap.size → b ≠ x.b → w'.heap[b]? = w.heap[b]? := fun b h1 h2 => hgb.block b h1 (fun e => h2 (by injection e))
  obtain ⟨g2, hg2⟩ : ∃ g2 : Gh, g2 = { g with tail := fun i => if i = k then some { x with lim := x.f, own := false, born := false, e := e + 1 } else g.tail i, st := fun b o => g.st b o ∧ (b = x.b → o < es.length * size) } := ⟨_, rfl⟩
  have gobj : g2.obj = g.obj := by rw [hg2]
  have gfr : g2.fr = g.fr := by rw [hg2]
  have gst : ∀ b o, g2.st b o → g.st b o ∧ (b = x.b → o < es.length * size) := fun b o h => by rw [hg2] at h; exact h
  have gtk : g2.tail k = some { x with lim := x.f, own := false, born := false, e := e + 1 } := by rw [hg2]; simp
  have gtn : ∀ j, j ≠ k → g2.tail j = g.tail j := fun j hj => by rw [hg2]; simp [hj]
  have hrl : us'.length = es.length * size := hrd.len
  have hcell : ∀ j u, us'[j]? = some u → w'.cell? ⟨x.b, j, none⟩ = some u := fun j u hu => by
    obtain ⟨b', o', c', hv, _, _, hcc⟩ := hrd.pos hes
    injection hv with p1 _ _
    injection p1 with p1; injection p1 with p1 p2
    subst p1 p2
    simpa using hcc j u hu
  have hst0 : ∀ b o, g0.st b o → b ≠ x.b := fun b o h hb => by
    obtain ⟨u, hu⟩ := Option.isSome_iff_exists.1 (r0.st b o h)
    have := lt_of_cell hu
    simp at this; omega
  have ev : Evo g0 w0 g2 w' := by
    refine ⟨hgb.os.trans e0.os, hgb.tape.trans e0.tape, hgb.output.trans e0.output, Nat.le_trans e0.size hgb.size, fun id b hb => by rw [gobj]; exact e0.obj id b hb, fun b o h => ⟨?_, ?_⟩, by rw [gfr]; exact e0.fr, fun b hb => ?_, fun b o hb h => e0.frs b o hb (gst b o h).1, fun j y hy => ?_, fun j y h1 h2 => ?_, fun b hb => ?_⟩
    rotate_right
    · rw [← e0.csz b hb]; unfold csize; rw [hheap b (Nat.lt_of_lt_of_le hb e0.size) (by omega)]
    · rw [hg2]; exact ⟨(e0.st b o h).1, fun hb => absurd hb (hst0 b o h)⟩
    · have hlt : b < w.heap.size := by
        obtain ⟨u, hu⟩ := Option.isSome_iff_exists.1 (r0.st b o h)
        have := lt_of_cell hu
        have := e0.size
        simp at *; omega
      rw [← (e0.st b o h).2, World.cell?, World.cell?, hheap b hlt (hst0 b o h)]
    · have := r0.fr b hb
      rw [hheap b (by have := e0.size; omega) (by omega)]; exact e0.frb b hb
    · have hj : j ≠ k := by rintro rfl; rw [r0.tout j hk] at hy; cases hy
      rw [gtn j hj]; exact e0.tail j y hy
    · by_cases hj : j = k
      · subst hj; rw [gtk] at h2; injection h2 with h2; subst h2; exact e0.tnew j x h1 hxt
      · rw [gtn j hj] at h2; exact e0.tnew j y h1 h2
  have hobjne : ∀ (id : Nat) oo b, T.objs[id]? = some oo → oo.live = true → g.obj id = some b → b ≠ x.b := fun id oo b h1 h2 h3 hb => r.tobj id oo b k x h1 h2 h3 hxt (.inr ⟨hxo, by omega, hb.symm⟩)
  have hob : ∀ (id : Nat) oo, (T.objs.map looseO)[id]? = some oo → oo.live = true → ∃ o0, T.objs[id]? = some o0 ∧ o0.live = true ∧ oo = looseO o0 := fun id oo h hl => by
    rw [List.getElem?_map] at h
    simp only [Option.map_eq_some_iff] at h
    obtain ⟨o0, h1, rfl⟩ := h
    exact ⟨o0, h1, by rw [← looseO_live]; exact hl, rfl⟩
  have hasle : ∀ b, ({ x with lim := x.f, own := false, born := false, e := e + 1 } : Tl).has b → False := fun b h => by
    rcases h with ⟨o, _, h1, h2⟩ | ⟨h, _⟩
    · simp only at h1 h2; omega
    · cases h
  have oeq : ∀ id b, g.obj id = some b → g2.obj id = some b := fun id b h => by rw [gobj]; exact h
  have rw2 : RW g2 ⟨T.objs.map looseO, T.tails.set k (e + 1, size, false)⟩ w' := by
    refine ⟨?_, ?_, ?_, ?_, ?_, ?_, ?_, ?_, ?_, ?_, ?_, ?_⟩
    · intro id oo h hl
      obtain ⟨o0, h1, h2, rfl⟩ := hob id oo h hl
      obtain ⟨b, h3, h4, h5, h6⟩ := r.obj id o0 h1 h2
      have hne := hobjne id o0 b h1 h2 h3
      have hhp := hheap b (h4.lt h2) hne
      refine ⟨b, by rw [gobj]; exact h3, ?_, by rw [gfr]; exact h5, fun o hs => h6 o (gst b o hs).1⟩
      cases o0 with
      | cells cs =>
        obtain ⟨vs, t, q1, q2, q3⟩ := h4
        exact ⟨vs, t, hhp.trans q1, map_loose oeq q2, q3⟩
      | row cs =>
        obtain ⟨vs, t, q1, q2, q3, q4⟩ := h4
        exact ⟨vs, t, hhp.trans q1, by rw [List.length_map]; exact q2, by rw [List.length_map]; exact map_loose oeq q3, q4⟩
      | map sh look es ck =>
        obtain ⟨vs, q1, q2, q3, q4, q5, q6, q7⟩ := h4
        refine ⟨vs, hhp.trans q1, by simpa [Function.comp_def] using q2, ?_, by simpa [Function.comp_def] using q4, ?_, by simpa [Function.comp_def] using q6, ?_⟩
        · have := map_loose (w' := w') oeq q3
          simpa [Function.comp_def] using this
        · intro e he
          obtain ⟨e', h8, rfl⟩ := List.mem_map.1 he
          exact q5 e' h8
        · intro key hk
          simp only [q7 key hk, mget_map]
      | iter m since seen stepped => obtain ⟨mb, q1, q2⟩ := h4; exact ⟨mb, hhp.trans q1, loose_ok oeq q2⟩
      | siter s pos => exact hhp.trans h4
      | loop st pend σ2 ps asg body => obtain ⟨us, fn, db, q1, q2⟩ := h4; exact ⟨us, fn, db, hhp.trans q1, map_loose oeq q2⟩
      | defd => exact hhp.trans h4
      | gone => trivial
    · intro i j oi oj b hi li hj lj b1 b2
      obtain ⟨o1, h1, h2, rfl⟩ := hob i oi hi li
      obtain ⟨o2, h3, h4, rfl⟩ := hob j oj hj lj
      rw [gobj] at b1 b2
      exact r.inj i j o1 o2 b h1 h2 h3 h4 b1 b2
    · intro id hid
      rw [gobj]; exact r.out id (by simpa using hid)
    · intro b o h
      obtain ⟨h1, h2⟩ := gst b o h
      by_cases hb : b = x.b
      · have hlt : o < us'.length := by rw [hrl]; exact h2 hb
        rw [hb, hcell o us'[o] (List.getElem?_eq_getElem hlt)]; rfl
      · have h3 := r.st b o h1
        obtain ⟨u, hu⟩ := Option.isSome_iff_exists.1 h3
        have hlt := lt_of_cell hu
        rw [World.cell?, hheap b hlt hb]; exact h3
    · intro b hb
      rw [gfr] at hb
      exact Nat.lt_of_lt_of_le (r.fr b hb) hgb.size
    · intro j p h
      simp only [List.getElem?_set] at h
      split at h
      · rename_i hj; subst hj
        split at h
        · injection h with h; subst h
          exact ⟨_, gtk, rfl, ⟨hxz, rfl⟩, fun b o hin => absurd (.inl ⟨o, hin⟩) (hasle b)⟩
        · cases h
      · rename_i hj
        obtain ⟨y, q1, q2, q3, q4⟩ := r.tl j p h
        have hj' : j ≠ k := fun h => hj h.symm
        refine ⟨y, by rw [gtn j hj']; exact q1, q2, q3, fun b o hin => ?_⟩
        obtain ⟨s1, s2, s3, s4⟩ := q4 b o hin
        have hbne : b ≠ x.b := fun hb => hj' (r.tinj j k y x b q1 hxt (.inl ⟨o, hin⟩) (.inr ⟨hxo, by omega, hb.symm⟩))
        obtain ⟨u, hu⟩ := Option.isSome_iff_exists.1 s1
        have hhp := hheap b (lt_of_cell hu) hbne
        exact ⟨by rw [World.cell?, hhp]; exact s1, by rw [World.frozen?, hhp]; exact s2, fun hs => s3 (gst b o hs).1, by rw [gfr]; exact s4⟩
    · intro j hj
      simp only [List.length_set] at hj
      have hlt := tail_lt r hxt
      rw [gtn j (by omega)]; exact r.tout j hj
    · intro i j y z b h1 h2 i1 i2
      by_cases hi : i = k
      · subst hi; rw [gtk] at h1; injection h1 with h1; subst h1; exact (hasle b i1).elim
      · by_cases hj : j = k
        · subst hj; rw [gtk] at h2; injection h2 with h2; subst h2; exact (hasle b i2).elim
        · rw [gtn i hi] at h1; rw [gtn j hj] at h2; exact r.tinj i j y z b h1 h2 i1 i2
    · intro i oi b j y hi li b1 hy hin
      obtain ⟨o1, h1, h2, rfl⟩ := hob i oi hi li
      rw [gobj] at b1
      by_cases hj : j = k
      · subst hj; rw [gtk] at hy; injection hy with hy; subst hy; exact (hasle b hin).elim
      · rw [gtn j hj] at hy; exact r.tobj i o1 b j y h1 h2 b1 hy hin
    · intro j y hy d1 d2
      by_cases hj : j = k
      · subst hj; rw [gtk] at hy; injection hy with hy; subst hy; cases d1
      · rw [gtn j hj] at hy
        obtain ⟨⟨cur2, s1, s2⟩, s3, s4, s5, s6⟩ := r.own j y hy d1 d2
        have hbne : y.b ≠ x.b := fun hb => hj (r.tinj j k y x y.b hy hxt (.inr ⟨d1, d2, rfl⟩) (.inr ⟨hxo, by omega, hb.symm⟩))
        exact ⟨⟨cur2, by rw [hheap y.b (Array.getElem?_eq_some_iff.1 s1).1 hbne]; exact s1, s2⟩, s3, s4, s5, by rw [gfr]; exact s6⟩
    · intro j y hy d1
      by_cases hj : j = k
      · subst hj; rw [gtk] at hy; injection hy with hy; subst hy; rcases d1 with d1 | d1 <;> cases d1
      · rw [gtn j hj] at hy; exact r.own0 j y hy d1
    · intro j y hy
      by_cases hj : j = k
      · subst hj; rw [gtk] at hy; injection hy with hy; subst hy; exact Nat.le_trans (r.tlo j x hxt) hgb.size
      · rw [gtn j hj] at hy; exact Nat.le_trans (r.tlo j y hy) hgb.size
  have hfl3 := flatten_len hz'
  have vnew : VR g2 w' (.vec size es' .none) (.slice (some ⟨x.b, 0, none⟩) es.length c) := by
    refine .mk_vec (us := us') hl'.symm hle hmx hz' trivial (by rw [hv']; exact VRs.vals _ _ _) (fun j hj => ?_) (fun j u hu => ?_) ho'
    · rw [Nat.zero_add, hg2]
      have hj2 : j < es.length * size := by rw [hv', List.length_map, hrl] at hj; exact hj
      exact ⟨by have := a6 j (by rw [flatten_len a3]; exact hj2); rwa [Nat.zero_add] at this, fun _ => hj2⟩
    · rw [Nat.zero_add]; exact hcell j u hu
  refine hnext _ _ g2 w' _ hK ev rw2 (vput_ok ?_ o.dst (.val rv)) (by rw [put_defers]; exact hd)
  refine ⟨by simp only [turned, List.length_map]; exact hσ.1, fun j y u hy hu => ?_⟩
  simp only [turned, List.getElem?_map, Option.map_eq_some_iff] at hy
  obtain ⟨y0, h5, rfl⟩ := hy
  have h6 := hσ.2 j y0 u h5 hu
  have other : VR g2 w' (loose y0) u := loose_ok oeq h6
  cases y0 with
  | vec s es2 tok =>
    cases tok with
    | tail k' e' =>
      simp only
      split
      · rename_i hh
        obtain ⟨rfl, rfl, rfl, hlen⟩ := hh
        obtain ⟨c2, hu2, hlim2, _⟩ := uniq es2 u hlen h6
        have : c2 = c := Nat.eq_of_mul_eq_mul_right hs0 (hlim2.symm.trans hlim)
        rw [hu2, this]; exact vnew
      · exact .dead _
    | none => exact other
    | full => exact other
  | _ => exact other

/-- the operations of a region, in order, in a function that began at g0, w0 -/
def VLB (P : Program) (g0 : Gh) (w0 : World) (ops : Array Oper) (K : List TV → VT → Prop) : List Oper → List TV → VT → Prop
  | [], σ, T => K σ T
  | o :: l, σ, T => vwanted ops σ o = some true ∧ VPB P g0 w0 o σ T (VLB P g0 w0 ops K l)
theorem VLB.ok {g0 : Gh} {w0 : World} {ops : Array Oper} {K : List TV → VT → Prop} {QQ : Exit → Act → World → Prop} : ∀ (js : List Nat) (l : List Oper), js.map (ops[·]?) = l.map some → ∀ (σ : List TV) (T : VT), VLB P g0 w0 ops K l σ T → ∀ g w (a : Act), Evo g0 w0 g w → RW g T w → VRs g w σ a.tmps.toList → a.defers = [] →
    (∀ σ' T' g' w' (a' : Act), K σ' T' → Evo g0 w0 g' w' → RW g' T' w' → VRs g' w' σ' a'.tmps.toList → a'.defers = [] → QQ .normal a' w') → wpOps P ops QQ js a w
  | [], [], _, σ, T, h, g, w, a, e, r, hσ, hd, hq => hq σ T g w a h e r hσ hd
  | [], _ :: _, hl, _, _, _, _, _, _, _, _, _, _, _ => by simp at hl
  | _ :: _, [], hl, _, _, _, _, _, _, _, _, _, _, _ => by simp at hl
  | j :: js, o :: l, hl, σ, T, h, g, w, a, e, r, hσ, hd, hq => by
    simp only [List.map_cons, List.cons.injEq] at hl
    obtain ⟨ho, hl⟩ := hl
    simp only [wpOps, ho]
    obtain ⟨hw, h⟩ := h
    rw [if_pos (vwanted_ok hw hσ)]
    exact .inl (h g w a _ QQ e r hσ hd fun σ' T' g' w' a' hk e' r' hσ' hd' => VLB.ok js l hl σ' T' hk g' w' a' e' r' hσ' hd' hq)
theorem VWB.region {g0 : Gh} {w0 : World} {id : Nat} {l : List Oper} {σ : List TV} {T : VT} {Q : Exit → List TV → VT → Prop} (h : VLB P g0 w0 l.toArray (Q .normal) l σ T) : VWB P g0 w0 (.region id l.toArray false) σ T Q := by
  intro g w a e r hσ hd
  refine wp_region (VLB.ok (List.range l.length) l ?_ σ T h g w a e r hσ hd fun σ' T' g' w' a' hk e r' hσ' hd' => ⟨g', σ', T', hk, e, r', hσ', hd'⟩)
  apply List.ext_getElem?
  intro j
  simp only [List.getElem?_map, List.getElem?_toArray]
  rcases Nat.lt_or_ge j l.length with h | h
  · simp [h]
  · simp [List.getElem?_eq_none h, List.getElem?_eq_none (l := List.range l.length) (by simpa using h)]
theorem VLB.nil {g0 : Gh} {w0 : World} {ops : Array Oper} {K : List TV → VT → Prop} {σ : List TV} {T : VT} (h : K σ T) : VLB P g0 w0 ops K [] σ T := h
theorem VLB.run {g0 : Gh} {w0 : World} {ops : Array Oper} {K : List TV → VT → Prop} {o : Oper} {l : List Oper} {σ : List TV} {T : VT} (hg : vwanted ops σ o = some true)
    (h : ∀ k : List TV → VT → Prop, (∀ σ' T', VLB P g0 w0 ops K l σ' T' → k σ' T') → vcont (vop P T o.op (veval σ)) fun y T' => k (vput σ o.dst y) T') : VLB P g0 w0 ops K (o :: l) σ T := by
  have h1 := h _ (fun _ _ h => h)
  cases hv : vop P T o.op (veval σ) with
  | none => rw [hv] at h1; exact h1.elim
  | some p =>
    rw [hv] at h1
    exact ⟨hg, fun g w a next Q e r hσ hd hn => VP.op (K := VLB P g0 w0 ops K l) hv h1 g w a next Q r hσ hd fun σ' T' g' w' a' hk e' => hn σ' T' g' w' a' hk (e.trans e')⟩
theorem VLB.turn {g0 : Gh} {w0 : World} {T0 : VT} (r0 : RW g0 T0 w0) {ops : Array Oper} {o : Oper} {l : List Oper} {fo x1 : Operand} {args : List Operand} {ats : Array TypeId} {σ : List TV} {T : VT} {K : List TV → VT → Prop} {f : FuncId} {fn : Func} {size k e : Nat} {es es' : List (List TV)} {us' : List Value} {rest : List Value} {rv : Value}
    (hg : vwanted ops σ o = some true) (ho : o.op = .call ⟨.value fo, (x1 :: args).toArray, ats⟩) (hf : veval σ fo = .fn (.func f) [] []) (hfn : P.funcs[f]? = some fn) (hb : fn.body.isSome = true) (hnm : (fn.name == "runtime.NumGoroutine") = false)
    (hx : veval σ x1 = .vec size es (.tail k e)) (hk : T0.tails.length ≤ k) (hT : T.tails[k]? = some (e, size, true)) (hn : es.length = e) (hpos : 0 < e) (hs0 : 0 < size)
    (hr : ∀ g w (a : Act), VRs g w σ a.tmps.toList → args.map a.eval = rest)
    (hz' : ∀ e ∈ es', e.length = size) (hl' : es'.length = es.length) (hv' : es'.flatten = us'.map .val) (ho' : ∀ u ∈ us', u.oneCell' = true)
    (hc : ∀ (w : World) (b cap : Nat) (ty : TypeId) (us : List Value), w.heap[b]? = some (.cells us.toArray ty (0, 0)) → us.length = cap * size → es.length ≤ cap → cap ≤ maxLen → (∃ g, VRs g w es.flatten (us.take (es.length * size))) →
      Calls P f (.slice (some ⟨b, 0, none⟩) es.length cap :: rest).toArray w fun r w' => r = .returned rv ∧ Gb b w w' ∧ Rd w' size (.slice (some ⟨b, 0, none⟩) es.length cap) es.length us')
    (hK : ∀ q : List TV → VT → Prop, (∀ σ' T', VLB P g0 w0 ops K l σ' T' → q σ' T') → q (vput (turned size k e es.length es' σ) o.dst (.val rv)) ⟨T.objs.map looseO, T.tails.set k (e + 1, size, false)⟩) : VLB P g0 w0 ops K (o :: l) σ T :=
  ⟨hg, VPB.turn r0 ho hf hfn hb hnm hx hk hT hn hpos hs0 hr hz' hl' hv' ho' hc (hK _ fun _ _ h => h)⟩

/-! ### What was shown of memory, on values -/
theorem toVals_ok {g : Gh} {w : World} : ∀ {xs : List TV} {us us' : List Value}, xs.map toVal = us.map some → VRs g w xs us' → us' = us
  | [], [], us', _, k => List.eq_nil_of_length_eq_zero k.1
  | [], _ :: _, _, h, _ => by simp at h
  | _ :: _, [], _, h, _ => by simp at h
  | x :: xs, u :: us, us', h, k => by
    simp only [List.map_cons, List.cons.injEq] at h
    cases us' with
    | nil => have := k.1; simp at this
    | cons u' us' =>
      have h1 := toVal_ok h.1 (k.2 0 x u' rfl rfl)
      have h2 := toVals_ok (us' := us') h.2 ⟨by have := k.1; simpa using this, fun j x u hx hu => k.2 (j + 1) x u (by simpa using hx) (by simpa using hu)⟩
      rw [h1, h2]
theorem VCalls.of_grT {f : FuncId} {xs : List TV} {us : List Value} {v : Value} (hx : xs.map toVal = us.map some) (h : ∀ w, Calls P f us.toArray w fun e w' => e = .returned v ∧ Gr w w') (T : VT) : VCalls P f xs T fun x T' => x = .val v ∧ T' = T := by
  intro g w us' r hxs
  have := toVals_ok hx hxs
  subst this
  refine (h w).mono ?_
  rintro e w' ⟨rfl, hg⟩
  exact ⟨v, .val v, g, T, rfl, ⟨rfl, rfl⟩, Evo.of_gr r hg, r.gr hg, .val v⟩
end
end Go.Proofs.YtapfboldkkodkaaGreatDoor
