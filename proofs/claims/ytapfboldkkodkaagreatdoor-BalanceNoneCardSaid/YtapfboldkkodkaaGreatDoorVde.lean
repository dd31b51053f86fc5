/- Regions by virtual time, fifth part: what is reckoned. For any program. -/
import Derived.Test.YtapfboldkkodkaaGreatDoorVdd
namespace Go.Proofs.YtapfboldkkodkaaGreatDoor
open Go.RowKit

section
variable {P : Program} {G : Globs} {F : Ora} {ops : Array Oper} {r : Option Nat} {flo : List (Nat × Option Nat)} {σ : List TV} {T T0 : VT} {V R : Array Bool} {pend : List Nat} {g : Gh} {w : World} {a : Act} {prot : Nat → Option Nat}
/-- who is reckoned looks at nothing that is reckoned later -/
theorem Owed.put (st : VStat P ops flo) (hcv : Closed ops V) {i k : Nat} {o ok : Oper} (ho : ops[i]? = some o) (hVi : ¬ On V i) (hk : ops[k]? = some ok) (hVk : On V k) {y : TV} {pend' : List Nat} (hp : ∀ k ∈ pend, k ∈ pend') (h : Owed P G ops T0 pend k ok σ) : Owed P G ops T0 pend' k ok (vput σ o.dst y) := by
  have hki : k ≠ i := fun e => hVi (e ▸ hVk)
  have hon : only ops ok (vput σ o.dst y) = only ops ok σ := only_put fun s hs => by
    cases hl : inList (ok.looksAt ops) s with
    | false => rfl
    | true =>
      obtain ⟨e, he, hb, hon⟩ := ((once_spec st.once ho hs).2 k ok hk hki).2 hl
      exact absurd (hon ▸ hcv k ok hk hVk e he hb) hVi
  have hat : ∀ d x, ok.dst = some d → (vput σ o.dst y)[d]? = some x → σ[d]? = some x := fun d x hd hx => by
    rw [vput_get, if_neg] at hx
    · exact hx
    · rintro ⟨h1, _⟩
      exact ((once_spec st.once ho h1).2 k ok hk hki).1 hd
  obtain ⟨h0, h1⟩ := h
  refine ⟨h0, ?_⟩
  rw [hon]
  rcases h1 with ⟨h1, h2⟩ | ⟨h1, z, h2, h3⟩
  · exact .inl ⟨h1, fun d x hd hx => h2 d x hd (hat d x hd hx)⟩
  · refine .inr ⟨h1, z, fun d x hd hx => h2 d x hd (hat d x hd hx), ?_⟩
    rcases h3 with h3 | ⟨h3, h4⟩
    · exact .inl h3
    · exact .inr ⟨hp k h3, h4⟩
theorem FlSt.sig {R : Array Bool} {tm : List Value} {i : Nat} {jo : Option Nat} {σ' : List TV} (h : FlSt P G ops σ R g w tm prot i jo) (hs : ∀ (j : Nat) oj, jo = some j → ops[j]? = some oj → On R j → only ops oj σ' = only ops oj σ) : FlSt P G ops σ' R g w tm prot i jo := by
  obtain ⟨o, d, b, h1, h2, h3, h4⟩ := h
  refine ⟨o, d, b, h1, h2, h3, ?_⟩
  cases jo with
  | none => exact h4
  | some j =>
    obtain ⟨oj, t, us, inf, k1, k2, k3, k4, k5, k6, k7⟩ := h4
    refine ⟨oj, t, us, inf, k1, k2, k3, k4, k5, k6, fun hj => ?_⟩
    rw [hs j oj rfl k1 hj]; exact k7 hj
/-- an operation is reckoned, to be carried out later -/
theorem own_virt (st : VStat P ops flo) (inv : VInv P G ops flo σ T T0 V R pend g w a.tmps.toList prot) {i : Nat} {o : Oper} (ho : ops[i]? = some o) (hi : i ∈ Region.ready .any ops V) (hF : i ∉ floatL flo) (hnd : notDefer o.op = true) {y : TV} {pend' : List Nat} (hp : ∀ k ∈ pend, k ∈ pend')
    (how : (vwant ops (only ops o σ) o = some false ∧ y = .val undef) ∨ (vwant ops (only ops o σ) o = some true ∧ (OwnSem P G ⟨[], []⟩ o (only ops o σ) y ∨ (i ∈ pend' ∧ vpure2 P o.op (vev G (only ops o σ)) = none ∧ vread2 P T0 o.op (vev G (only ops o σ)) = some y)))) :
    VInv P G ops flo (vput σ o.dst y) T T0 (V.setIfInBounds i true) R pend' g w a.tmps.toList prot := by
  obtain ⟨hun, o', ho', hdep⟩ := mem_ready.1 hi
  rw [ho] at ho'; injection ho' with ho'; subst ho'
  have hVi := not_on hun
  have hRi : ¬ On R i := fun h => hF (inv.rv i h hVi)
  have hlt := (Array.getElem?_eq_some_iff.1 ho).1
  refine ⟨by simpa using inv.vs, inv.rs, inv.cv.set hi, inv.cr, fun k hk hnv => inv.rv k hk fun h => hnv (on_set h), fun k hk hv => ?_, fun i' j' h => ?_, ?_, fun k ok hk hv hnr => ?_, fun i' jo hf hri hnv => ?_, fun k b hk => ?_, inv.pinj, inv.rw, inv.t0⟩
  · exact inv.vf k hk (on_set_ne (fun h => hF (by rw [h]; exact hk)) hv)
  · have h1 : i ≠ i' := fun e => hF (floatL_mem.2 ⟨i', some j', h, .inl e⟩)
    have h2 : i ≠ j' := fun e => hF (floatL_mem.2 ⟨i', some j', h, .inr (by rw [e])⟩)
    exact ⟨fun h3 => on_set ((inv.vb i' j' h).1 (on_set_ne h1 h3)), fun h3 => on_set ((inv.vb i' j' h).2 (on_set_ne h2 h3))⟩
  · refine ⟨by rw [vput_len]; exact inv.rel.1, fun s x u hs hu hw => ?_⟩
    have hne : o.dst ≠ some s := fun hd => hRi (hw i o ho hd).2
    rw [vput_get, if_neg fun h => hne h.1] at hs
    refine inv.rel.2 s x u hs hu fun k ok hk hd => ?_
    obtain ⟨h1, h2⟩ := hw k ok hk hd
    refine ⟨on_set_ne (fun h => ?_) h1, h2⟩
    subst h
    rw [ho] at hk; injection hk with hk; subst hk
    exact hne hd
  · by_cases hki : i = k
    · subst hki
      rw [ho] at hk; injection hk with hk; subst hk
      have hself : ∀ s, o.dst = some s → inList (o.looksAt ops) s = false := fun s hs => (once_spec st.once ho hs).1
      have hat : ∀ d x, o.dst = some d → (vput σ o.dst y)[d]? = some x → x = y := fun d x hd hx => by
        rw [vput_get] at hx
        by_cases hc : o.dst = some d ∧ d < σ.length
        · rw [if_pos hc] at hx; injection hx with hx; exact hx.symm
        · rw [if_neg hc] at hx
          exact absurd ⟨hd, (List.getElem?_eq_some_iff.1 hx).1⟩ hc
      refine ⟨hnd, ?_⟩
      rw [only_put hself]
      rcases how with ⟨h1, h2⟩ | ⟨h1, h2⟩
      · exact .inl ⟨h1, fun d x hd hx => (hat d x hd hx).trans h2⟩
      · exact .inr ⟨h1, y, hat, h2⟩
    · have hv' := on_set_ne hki hv
      exact (inv.own k ok hk hv' hnr).put st inv.cv ho hVi hk hv' hp
  · refine (inv.flt i' jo hf hri fun h => hnv (on_set h)).sig fun j oj hj hoj hrj => only_put fun s hs => ?_
    subst hj
    cases hl : inList (oj.looksAt ops) s with
    | false => rfl
    | true =>
      have hji : j ≠ i := fun e => hRi (e ▸ hrj)
      obtain ⟨e, he, hb, hon⟩ := ((once_spec st.once ho hs).2 j oj hoj hji).2 hl
      exact absurd (hon ▸ inv.cr j oj hoj hrj e he hb) hRi
  · obtain ⟨h1, h2, h3, h4⟩ := inv.pr k b hk
    refine ⟨h1, h2, fun h => ?_, h4⟩
    by_cases hik : i = k
    · subst hik; exact hRi h2
    · exact h3 (on_set_ne hik h)
/-- what a new object turns of all -/
theorem fix_app {n : Nat} {o : VO} : Fix n g T w { T with objs := T.objs ++ [o] } w :=
  ⟨by simp, fun i _ hl => by rw [List.getElem?_append_left hl], fun _ _ _ _ _ _ _ => rfl⟩
/-- a float is reckoned: its block becomes an object -/
theorem float_virt (st : VStat P ops flo) (inv : VInv P G ops flo σ T T0 V R pend g w a.tmps.toList prot) {i : Nat} {jo : Option Nat} {o : Oper} (ho : ops[i]? = some o) (hf : (i, jo) ∈ flo) (hi : i ∈ Region.ready .any ops V) (hRi : On R i) (hRj : ∀ j, jo = some j → On R j) {V' : Array Bool}
    (hV' : ∀ k, On V' k ↔ (k = i ∨ jo = some k) ∨ On V k) (hvs : V'.size = ops.size) (hcv : Closed ops V') {b : Nat} (hb : prot i = some b) {vo : VO} {y : TV} (hl : vo.live = true) (hor : OR g w b vo) (hy : ∀ d u, o.dst = some d → a.tmps.toList[d]? = some u → ∀ g' : Gh, g'.obj T.objs.length = some b → VR g' w y u) :
    ∃ g' prot', VInv P G ops flo (vput σ o.dst y) { T with objs := T.objs ++ [vo] } T0 V' R pend g' w a.tmps.toList prot' ∧ Evo g w g' w := by
  obtain ⟨hun, o', ho', hdep⟩ := mem_ready.1 hi
  rw [ho] at ho'; injection ho' with ho'; subst ho'
  have hVi := not_on hun
  have hnd' := noDup_ok st.dup
  have hiF : i ∈ floatL flo := floatL_mem.2 ⟨i, jo, hf, .inl rfl⟩
  obtain ⟨p1, p2, p3, p4, p5, p6⟩ := inv.pr i b hb
  have hout : g.obj T.objs.length = none := inv.rw.out _ (Nat.le_refl _)
  have e : Evo g w (g.addObj T.objs.length b) w := Evo.addObj hout
  have hpne : ∀ k, k ≠ i → (if k = i then none else prot k) = prot k := fun k hk => if_neg hk
  have hPB : ∀ c, PB (fun k => if k = i then none else prot k) c → PB prot c ∧ c ≠ b := by
    rintro c ⟨k, hk⟩
    replace hk : (if k = i then none else prot k) = some c := hk
    by_cases hki : k = i
    · rw [if_pos hki] at hk; cases hk
    · rw [if_neg hki] at hk
      exact ⟨⟨k, hk⟩, fun h => hki (inv.pinj k i b (h ▸ hk) hb)⟩
  have r1 : RW (gP g (PB fun k => if k = i then none else prot k)) T w := inv.rw.lessFr rfl rfl rfl fun c hc => by
    rcases hc with hc | hc
    · exact .inl hc
    · exact .inr (hPB c hc).1
  have hfresh : Fresh (gP g (PB fun k => if k = i then none else prot k)) T b := by
    refine ⟨fun hc => ?_, p5, fun id o hid hlo hob => ?_, fun k x hx hh => ?_⟩
    · rcases hc with hc | hc
      · exact p4 hc
      · exact (hPB b hc).2 rfl
    · obtain ⟨c, h1, _, h3, _⟩ := inv.rw.obj id o hid hlo
      have h1' : g.obj id = some c := h1
      have hob' : g.obj id = some b := hob
      rw [h1'] at hob'; injection hob' with hob'; subst hob'
      exact h3 (.inr ⟨i, hb⟩)
    · rcases hh with ⟨o2, hin⟩ | ⟨h1, h2, h3⟩
      · rcases Nat.lt_or_ge k T.tails.length with hk | hk
        · obtain ⟨x', y1, _, _, y4⟩ := inv.rw.tl k T.tails[k] (List.getElem?_eq_getElem hk)
          have y1' : g.tail k = some x' := y1
          have hx' : g.tail k = some x := hx
          rw [hx'] at y1'; injection y1' with y1'; subst y1'
          exact (y4 b o2 hin).2.2.2 (.inr ⟨i, hb⟩)
        · have := r1.tout k hk
          rw [hx] at this; cases this
      · have := (inv.rw.own k x hx h1 h2).2.2.2.2
        rw [h3] at this
        exact this (.inr ⟨i, hb⟩)
  have r2 := r1.addObj hfresh hl (OR.gh (g := g) (g' := gP g (PB fun k => if k = i then none else prot k)) rfl rfl rfl hor)
  have hV'j : ∀ k, On V' k → ¬ On V k → k = i ∨ jo = some k := fun k h1 h2 => by
    rcases (hV' k).1 h1 with h | h
    · exact h
    · exact absurd h h2
  refine ⟨g.addObj T.objs.length b, fun k => if k = i then none else prot k, ?_, e⟩
  refine ⟨hvs, inv.rs, hcv, inv.cr, fun k hk hnv => inv.rv k hk fun h => hnv ((hV' k).2 (.inr h)), fun k hk hv => ?_, fun i' j' h => ?_, ?_, fun k ok hk hv hnr => ?_, fun i' jo' hf' hri hnv => ?_, fun k c hk => ?_, fun k k' c hk hk' => ?_, r2, ?_⟩
  · rcases (hV' k).1 hv with (h | h) | h
    · subst h; exact hRi
    · exact hRj k h
    · exact inv.vf k hk h
  · constructor
    · intro h1
      rcases (hV' i').1 h1 with h2 | h2
      · obtain ⟨rfl, rfl⟩ := flo_uniq hnd' hf h h2 (.inl rfl)
        exact (hV' j').2 (.inl (.inr rfl))
      · exact (hV' j').2 (.inr ((inv.vb i' j' h).1 h2))
    · intro h1
      rcases (hV' j').1 h1 with h2 | h2
      · obtain ⟨rfl, rfl⟩ := flo_uniq hnd' hf h h2 (.inr rfl)
        exact (hV' i).2 (.inl (.inl rfl))
      · exact (hV' i').2 (.inr ((inv.vb i' j' h).2 h2))
  · refine ⟨by rw [vput_len]; exact inv.rel.1, fun s x u hs hu hw => ?_⟩
    rw [vput_get] at hs
    by_cases hc : o.dst = some s ∧ s < σ.length
    · rw [if_pos hc] at hs; injection hs with hs; subst hs
      exact hy s u hc.1 hu _ (by simp [Gh.addObj])
    · rw [if_neg hc] at hs
      have hne : o.dst ≠ some s := fun hd => hc ⟨hd, (List.getElem?_eq_some_iff.1 hs).1⟩
      refine (inv.rel.2 s x u hs hu fun k ok hk hd => ?_).mono e
      obtain ⟨h1, h2⟩ := hw k ok hk hd
      refine ⟨?_, h2⟩
      rcases (hV' k).1 h1 with (h | h) | h
      · subst h
        rw [ho] at hk; injection hk with hk; subst hk
        exact absurd hd hne
      · exfalso
        -- a box's store writes no slot
        obtain ⟨o2, ho2, hlate, hbox⟩ := st.at hf
        obtain ⟨oj, hoj, hib, _⟩ := hbox k h
        obtain ⟨_, _, _, _, _, _, _, _, _, h5, _⟩ := box_alloc hib hlate
        rw [hk] at hoj; injection hoj with hoj; subst hoj
        rw [h5] at hd; cases hd
      · exact h
  · rcases (hV' k).1 hv with (h | h) | h
    · subst h; exact absurd hRi hnr
    · exact absurd (hRj k h) hnr
    · exact (inv.own k ok hk h hnr).put st inv.cv ho hVi hk h fun _ h => h
  · have hnv0 : ¬ On V i' := fun h => hnv ((hV' i').2 (.inr h))
    have hii : i' ≠ i := fun h => hnv ((hV' i').2 (.inl (.inl h)))
    have h0 := (inv.flt i' jo' hf' hri hnv0).sig (σ' := vput σ o.dst y) fun j oj hj hoj hrj => only_put fun s hs => by
      subst hj
      cases hlk : inList (oj.looksAt ops) s with
      | false => rfl
      | true =>
        exfalso
        have hji : j ≠ i := fun e => hii (flo_uniq hnd' hf' hf (k := i) (.inr (by rw [e])) (.inl rfl)).1
        obtain ⟨e1, he, hb1, hon⟩ := ((once_spec st.once ho hs).2 j oj hoj hji).2 hlk
        obtain ⟨o2, ho2, _, hbox⟩ := st.at hf'
        obtain ⟨oj', hoj', _, _, hdeps⟩ := hbox j rfl
        rw [hoj] at hoj'; injection hoj' with hoj'; subst hoj'
        rcases hdeps e1 he hb1 with h | h
        · exact hii (h.symm.trans hon)
        · exact h (hon ▸ hiF)
    have h1 := h0.step (g' := g.addObj T.objs.length b) (w' := w) (a := a) (R' := R) (prot' := fun k => if k = i then none else prot k) e (fun _ _ => rfl) (hpne i' hii) (d' := none) (v := undef) (fun _ _ _ _ h => by cases h) (fun _ _ h => h)
    simpa [Act.put] using h1
  · replace hk : (if k = i then none else prot k) = some c := hk
    by_cases hki : k = i
    · rw [if_pos hki] at hk; cases hk
    · rw [if_neg hki] at hk
      obtain ⟨h1, h2, h3, h4, h5, h6⟩ := inv.pr k c hk
      refine ⟨h1, h2, fun h => ?_, h4, h5, h6⟩
      rcases (hV' k).1 h with (h | h) | h
      · exact hki h
      · obtain ⟨jo', hjo'⟩ := h1
        exact hki (flo_uniq hnd' hjo' hf (k := k) (.inl rfl) (.inr h)).1
      · exact h3 h
  · replace hk : (if k = i then none else prot k) = some c := hk
    replace hk' : (if k' = i then none else prot k') = some c := hk'
    by_cases hki : k = i
    · rw [if_pos hki] at hk; cases hk
    · by_cases hki' : k' = i
      · rw [if_pos hki'] at hk'; cases hk'
      · rw [if_neg hki] at hk; rw [if_neg hki'] at hk'
        exact inv.pinj k k' c hk hk'
  · have hle : T0.objs.length ≤ T.objs.length := by
      have := congrArg List.length inv.t0
      rw [List.length_take] at this; omega
    show (T.objs ++ [vo]).take T0.objs.length = T0.objs
    rw [List.take_append_of_le_length hle]; exact inv.t0
end
end Go.Proofs.YtapfboldkkodkaaGreatDoor
