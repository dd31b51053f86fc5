/- Texts of this proof, part 4. -/
import Derived.Test.YtgconkbnokbinaaMb1
import Derived.Test.YtgconkbnokbinaaMb2
import Derived.Test.YtgconkbnokbinaaMb3
import Derived.Sort.LoopGhostIn
import Derived.RangeFuncNested
import Derived.Test.YtgconkbnokbinaaBlock
import Derived.Test.YtgconkbnokbinaaMem
import Derived.ProofKit
import Derived.OpenShut
import Derived.Lib.SmallJoins
import Derived.Deep.Slices
import Derived.Shelf.GgSortFunc.InsertionK
/- Regions by virtual time, fifth part: what is reckoned. For any program. -/
namespace Go.Proofs.Ytgconkbnokbinaa
open Go.RowKit

section
variable {P : Program} {G : Globs} {F : Ora} {ops : Array Oper} {r : Option Nat} {flo : List (Nat × Option Nat)} {σ : List TV} {T T0 : VT} {V R : Array Bool} {pend : List Nat} {g : Gh} {w : World} {a : Act} {prot : Nat → Option Nat}
/-- who is reckoned looks at nothing that is reckoned later -/
theorem Owed.put (st : VStat P ops flo) (hcv : Closed ops V) {i k : Nat} {o ok : Oper} (ho : ops[i]? = some o) (hVi : ¬ On V i) (hk : ops[k]? = some ok) (hVk : On V k) {y : TV} {pend' : List Nat} (hp : ∀ k ∈ pend, k ∈ pend') (h : Owed P G ops T0 pend k ok σ) : Owed P G ops T0 pend' k ok (vput σ o.dst y) := by
  have hki : k ≠ i := fun e => hVi (e ▸ hVk)
  have hon : only ops ok (vput σ o.dst y) = only ops ok σ := only_put fun s hs => by
    cases hl : inList (ok.looksAt ops) s with
    | false => rfl
    | true =>
      obtain ⟨e, he, hb, hon⟩ := ((once_spec st.once ho hs).2 k ok hk hki).2 hl
      exact absurd (hon ▸ hcv k ok hk hVk e he hb) hVi
  have hat : ∀ d x, ok.dst = some d → (vput σ o.dst y)[d]? = some x → σ[d]? = some x := fun d x hd hx => by
    rw [vput_get, if_neg] at hx
    · exact hx
    · rintro ⟨h1, _⟩
      exact ((once_spec st.once ho h1).2 k ok hk hki).1 hd
  obtain ⟨h0, h1⟩ := h
  refine ⟨h0, ?_⟩
  rw [hon]
  rcases h1 with ⟨h1, h2⟩ | ⟨h1, z, h2, h3⟩
  · exact .inl ⟨h1, fun d x hd hx => h2 d x hd (hat d x hd hx)⟩
  · refine .inr ⟨h1, z, fun d x hd hx => h2 d x hd (hat d x hd hx), ?_⟩
    rcases h3 with h3 | ⟨h3, h4⟩
    · exact .inl h3
    · exact .inr ⟨hp k h3, h4⟩
theorem FlSt.sig {R : Array Bool} {tm : List Value} {i : Nat} {jo : Option Nat} {σ' : List TV} (h : FlSt P G ops σ R g w tm prot i jo) (hs : ∀ (j : Nat) oj, jo = some j → ops[j]? = some oj → On R j → only ops oj σ' = only ops oj σ) : FlSt P G ops σ' R g w tm prot i jo := by
  obtain ⟨o, d, b, h1, h2, h3, h4⟩ := h
  refine ⟨o, d, b, h1, h2, h3, ?_⟩
  cases jo with
  | none => exact h4
  | some j =>
    obtain ⟨oj, t, us, inf, k1, k2, k3, k4, k5, k6, k7⟩ := h4
    refine ⟨oj, t, us, inf, k1, k2, k3, k4, k5, k6, fun hj => ?_⟩
    rw [hs j oj rfl k1 hj]; exact k7 hj
/-- an operation is reckoned, to be carried out later -/
theorem own_virt (st : VStat P ops flo) (inv : VInv P G ops flo σ T T0 V R pend g w a.tmps.toList prot) {i : Nat} {o : Oper} (ho : ops[i]? = some o) (hi : i ∈ Region.ready .any ops V) (hF : i ∉ floatL flo) (hnd : notDefer o.op = true) {y : TV} {pend' : List Nat} (hp : ∀ k ∈ pend, k ∈ pend')
    (how : (vwant ops (only ops o σ) o = some false ∧ y = .val undef) ∨ (vwant ops (only ops o σ) o = some true ∧ (OwnSem P G ⟨[], []⟩ o (only ops o σ) y ∨ (i ∈ pend' ∧ vpure2 P o.op (vev G (only ops o σ)) = none ∧ vread2 P T0 o.op (vev G (only ops o σ)) = some y)))) :
    VInv P G ops flo (vput σ o.dst y) T T0 (V.setIfInBounds i true) R pend' g w a.tmps.toList prot := by
  obtain ⟨hun, o', ho', hdep⟩ := mem_ready.1 hi
  rw [ho] at ho'; injection ho' with ho'; subst ho'
  have hVi := not_on hun
  have hRi : ¬ On R i := fun h => hF (inv.rv i h hVi)
  have hlt := (Array.getElem?_eq_some_iff.1 ho).1
  refine ⟨by simpa using inv.vs, inv.rs, inv.cv.set hi, inv.cr, fun k hk hnv => inv.rv k hk fun h => hnv (on_set h), fun k hk hv => ?_, fun i' j' h => ?_, ?_, fun k ok hk hv hnr => ?_, fun i' jo hf hri hnv => ?_, fun k b hk => ?_, inv.pinj, inv.rw, inv.t0⟩
  · exact inv.vf k hk (on_set_ne (fun h => hF (by rw [h]; exact hk)) hv)
  · have h1 : i ≠ i' := fun e => hF (floatL_mem.2 ⟨i', some j', h, .inl e⟩)
    have h2 : i ≠ j' := fun e => hF (floatL_mem.2 ⟨i', some j', h, .inr (by rw [e])⟩)
    exact ⟨fun h3 => on_set ((inv.vb i' j' h).1 (on_set_ne h1 h3)), fun h3 => on_set ((inv.vb i' j' h).2 (on_set_ne h2 h3))⟩
  · refine ⟨by rw [vput_len]; exact inv.rel.1, fun s x u hs hu hw => ?_⟩
    have hne : o.dst ≠ some s := fun hd => hRi (hw i o ho hd).2
    rw [vput_get, if_neg fun h => hne h.1] at hs
    refine inv.rel.2 s x u hs hu fun k ok hk hd => ?_
    obtain ⟨h1, h2⟩ := hw k ok hk hd
    refine ⟨on_set_ne (fun h => ?_) h1, h2⟩
    subst h
    rw [ho] at hk; injection hk with hk; subst hk
    exact hne hd
  · by_cases hki : i = k
    · subst hki
      rw [ho] at hk; injection hk with hk; subst hk
      have hself : ∀ s, o.dst = some s → inList (o.looksAt ops) s = false := fun s hs => (once_spec st.once ho hs).1
      have hat : ∀ d x, o.dst = some d → (vput σ o.dst y)[d]? = some x → x = y := fun d x hd hx => by
        rw [vput_get] at hx
        by_cases hc : o.dst = some d ∧ d < σ.length
        · rw [if_pos hc] at hx; injection hx with hx; exact hx.symm
        · rw [if_neg hc] at hx
          exact absurd ⟨hd, (List.getElem?_eq_some_iff.1 hx).1⟩ hc
      refine ⟨hnd, ?_⟩
      rw [only_put hself]
      rcases how with ⟨h1, h2⟩ | ⟨h1, h2⟩
      · exact .inl ⟨h1, fun d x hd hx => (hat d x hd hx).trans h2⟩
      · exact .inr ⟨h1, y, hat, h2⟩
    · have hv' := on_set_ne hki hv
      exact (inv.own k ok hk hv' hnr).put st inv.cv ho hVi hk hv' hp
  · refine (inv.flt i' jo hf hri fun h => hnv (on_set h)).sig fun j oj hj hoj hrj => only_put fun s hs => ?_
    subst hj
    cases hl : inList (oj.looksAt ops) s with
    | false => rfl
    | true =>
      have hji : j ≠ i := fun e => hRi (e ▸ hrj)
      obtain ⟨e, he, hb, hon⟩ := ((once_spec st.once ho hs).2 j oj hoj hji).2 hl
      exact absurd (hon ▸ inv.cr j oj hoj hrj e he hb) hRi
  · obtain ⟨h1, h2, h3, h4⟩ := inv.pr k b hk
    refine ⟨h1, h2, fun h => ?_, h4⟩
    by_cases hik : i = k
    · subst hik; exact hRi h2
    · exact h3 (on_set_ne hik h)
/-- what a new object turns of all -/
theorem fix_app {n : Nat} {o : VO} : Fix n g T w { T with objs := T.objs ++ [o] } w :=
  ⟨by simp, fun i _ hl => by rw [List.getElem?_append_left hl], fun _ _ _ _ _ _ _ => rfl⟩
/-- a float is reckoned: its block becomes an object -/
theorem float_virt (st : VStat P ops flo) (inv : VInv P G ops flo σ T T0 V R pend g w a.tmps.toList prot) {i : Nat} {jo : Option Nat} {o : Oper} (ho : ops[i]? = some o) (hf : (i, jo) ∈ flo) (hi : i ∈ Region.ready .any ops V) (hRi : On R i) (hRj : ∀ j, jo = some j → On R j) {V' : Array Bool}
    (hV' : ∀ k, On V' k ↔ (k = i ∨ jo = some k) ∨ On V k) (hvs : V'.size = ops.size) (hcv : Closed ops V') {b : Nat} (hb : prot i = some b) {vo : VO} {y : TV} (hl : vo.live = true) (hor : OR g w b vo) (hy : ∀ d u, o.dst = some d → a.tmps.toList[d]? = some u → ∀ g' : Gh, g'.obj T.objs.length = some b → VR g' w y u) :
    ∃ g' prot', VInv P G ops flo (vput σ o.dst y) { T with objs := T.objs ++ [vo] } T0 V' R pend g' w a.tmps.toList prot' ∧ Evo g w g' w := by
  obtain ⟨hun, o', ho', hdep⟩ := mem_ready.1 hi
  rw [ho] at ho'; injection ho' with ho'; subst ho'
  have hVi := not_on hun
  have hnd' := noDup_ok st.dup
  have hiF : i ∈ floatL flo := floatL_mem.2 ⟨i, jo, hf, .inl rfl⟩
  obtain ⟨p1, p2, p3, p4, p5, p6⟩ := inv.pr i b hb
  have hout : g.obj T.objs.length = none := inv.rw.out _ (Nat.le_refl _)
  have e : Evo g w (g.addObj T.objs.length b) w := Evo.addObj hout
  have hpne : ∀ k, k ≠ i → (if k = i then none else prot k) = prot k := fun k hk => if_neg hk
  have hPB : ∀ c, PB (fun k => if k = i then none else prot k) c → PB prot c ∧ c ≠ b := by
    rintro c ⟨k, hk⟩
    replace hk : (if k = i then none else prot k) = some c := hk
    by_cases hki : k = i
    · rw [if_pos hki] at hk; cases hk
    · rw [if_neg hki] at hk
      exact ⟨⟨k, hk⟩, fun h => hki (inv.pinj k i b (h ▸ hk) hb)⟩
  have r1 : RW (gP g (PB fun k => if k = i then none else prot k)) T w := inv.rw.lessFr rfl rfl rfl fun c hc => by
    rcases hc with hc | hc
    · exact .inl hc
    · exact .inr (hPB c hc).1
  have hfresh : Fresh (gP g (PB fun k => if k = i then none else prot k)) T b := by
    refine ⟨fun hc => ?_, p5, fun id o hid hlo hob => ?_, fun k x hx hh => ?_⟩
    · rcases hc with hc | hc
      · exact p4 hc
      · exact (hPB b hc).2 rfl
    · obtain ⟨c, h1, _, h3, _⟩ := inv.rw.obj id o hid hlo
      have h1' : g.obj id = some c := h1
      have hob' : g.obj id = some b := hob
      rw [h1'] at hob'; injection hob' with hob'; subst hob'
      exact h3 (.inr ⟨i, hb⟩)
    · rcases hh with ⟨o2, hin⟩ | ⟨h1, h2, h3⟩
      · rcases Nat.lt_or_ge k T.tails.length with hk | hk
        · obtain ⟨x', y1, _, _, y4⟩ := inv.rw.tl k T.tails[k] (List.getElem?_eq_getElem hk)
          have y1' : g.tail k = some x' := y1
          have hx' : g.tail k = some x := hx
          rw [hx'] at y1'; injection y1' with y1'; subst y1'
          exact (y4 b o2 hin).2.2.2 (.inr ⟨i, hb⟩)
        · have := r1.tout k hk
          rw [hx] at this; cases this
      · have := (inv.rw.own k x hx h1 h2).2.2.2.2
        rw [h3] at this
        exact this (.inr ⟨i, hb⟩)
  have r2 := r1.addObj hfresh hl (OR.gh (g := g) (g' := gP g (PB fun k => if k = i then none else prot k)) rfl rfl rfl hor)
  have hV'j : ∀ k, On V' k → ¬ On V k → k = i ∨ jo = some k := fun k h1 h2 => by
    rcases (hV' k).1 h1 with h | h
    · exact h
    · exact absurd h h2
  refine ⟨g.addObj T.objs.length b, fun k => if k = i then none else prot k, ?_, e⟩
  refine ⟨hvs, inv.rs, hcv, inv.cr, fun k hk hnv => inv.rv k hk fun h => hnv ((hV' k).2 (.inr h)), fun k hk hv => ?_, fun i' j' h => ?_, ?_, fun k ok hk hv hnr => ?_, fun i' jo' hf' hri hnv => ?_, fun k c hk => ?_, fun k k' c hk hk' => ?_, r2, ?_⟩
  · rcases (hV' k).1 hv with (h | h) | h
    · subst h; exact hRi
    · exact hRj k h
    · exact inv.vf k hk h
  · constructor
    · intro h1
      rcases (hV' i').1 h1 with h2 | h2
      · obtain ⟨rfl, rfl⟩ := flo_uniq hnd' hf h h2 (.inl rfl)
        exact (hV' j').2 (.inl (.inr rfl))
      · exact (hV' j').2 (.inr ((inv.vb i' j' h).1 h2))
    · intro h1
      rcases (hV' j').1 h1 with h2 | h2
      · obtain ⟨rfl, rfl⟩ := flo_uniq hnd' hf h h2 (.inr rfl)
        exact (hV' i).2 (.inl (.inl rfl))
      · exact (hV' i').2 (.inr ((inv.vb i' j' h).2 h2))
  · refine ⟨by rw [vput_len]; exact inv.rel.1, fun s x u hs hu hw => ?_⟩
    rw [vput_get] at hs
    by_cases hc : o.dst = some s ∧ s < σ.length
    · rw [if_pos hc] at hs; injection hs with hs; subst hs
      exact hy s u hc.1 hu _ (by simp [Gh.addObj])
    · rw [if_neg hc] at hs
      have hne : o.dst ≠ some s := fun hd => hc ⟨hd, (List.getElem?_eq_some_iff.1 hs).1⟩
      refine (inv.rel.2 s x u hs hu fun k ok hk hd => ?_).mono e
      obtain ⟨h1, h2⟩ := hw k ok hk hd
      refine ⟨?_, h2⟩
      rcases (hV' k).1 h1 with (h | h) | h
      · subst h
        rw [ho] at hk; injection hk with hk; subst hk
        exact absurd hd hne
      · exfalso
        -- a box's store writes no slot
        obtain ⟨o2, ho2, hlate, hbox⟩ := st.at hf
        obtain ⟨oj, hoj, hib, _⟩ := hbox k h
        obtain ⟨_, _, _, _, _, _, _, _, _, h5, _⟩ := box_alloc hib hlate
        rw [hk] at hoj; injection hoj with hoj; subst hoj
        rw [h5] at hd; cases hd
      · exact h
  · rcases (hV' k).1 hv with (h | h) | h
    · subst h; exact absurd hRi hnr
    · exact absurd (hRj k h) hnr
    · exact (inv.own k ok hk h hnr).put st inv.cv ho hVi hk h fun _ h => h
  · have hnv0 : ¬ On V i' := fun h => hnv ((hV' i').2 (.inr h))
    have hii : i' ≠ i := fun h => hnv ((hV' i').2 (.inl (.inl h)))
    have h0 := (inv.flt i' jo' hf' hri hnv0).sig (σ' := vput σ o.dst y) fun j oj hj hoj hrj => only_put fun s hs => by
      subst hj
      cases hlk : inList (oj.looksAt ops) s with
      | false => rfl
      | true =>
        exfalso
        have hji : j ≠ i := fun e => hii (flo_uniq hnd' hf' hf (k := i) (.inr (by rw [e])) (.inl rfl)).1
        obtain ⟨e1, he, hb1, hon⟩ := ((once_spec st.once ho hs).2 j oj hoj hji).2 hlk
        obtain ⟨o2, ho2, _, hbox⟩ := st.at hf'
        obtain ⟨oj', hoj', _, _, hdeps⟩ := hbox j rfl
        rw [hoj] at hoj'; injection hoj' with hoj'; subst hoj'
        rcases hdeps e1 he hb1 with h | h | h
        · exact hii (h.symm.trans hon)
        · exact h (hon ▸ hiF)
        · rw [hon] at h
          rw [boxStore_dst st h ho] at hs; cases hs
    have h1 := h0.step (g' := g.addObj T.objs.length b) (w' := w) (a := a) (R' := R) (prot' := fun k => if k = i then none else prot k) e (fun _ _ => rfl) (hpne i' hii) (d' := none) (v := undef) (fun _ _ _ _ h => by cases h) (fun _ _ h => h)
    simpa [Act.put] using h1
  · replace hk : (if k = i then none else prot k) = some c := hk
    by_cases hki : k = i
    · rw [if_pos hki] at hk; cases hk
    · rw [if_neg hki] at hk
      obtain ⟨h1, h2, h3, h4, h5, h6⟩ := inv.pr k c hk
      refine ⟨h1, h2, fun h => ?_, h4, h5, h6⟩
      rcases (hV' k).1 h with (h | h) | h
      · exact hki h
      · obtain ⟨jo', hjo'⟩ := h1
        exact hki (flo_uniq hnd' hjo' hf (k := k) (.inl rfl) (.inr h)).1
      · exact h3 h
  · replace hk : (if k = i then none else prot k) = some c := hk
    replace hk' : (if k' = i then none else prot k') = some c := hk'
    by_cases hki : k = i
    · rw [if_pos hki] at hk; cases hk
    · by_cases hki' : k' = i
      · rw [if_pos hki'] at hk'; cases hk'
      · rw [if_neg hki] at hk; rw [if_neg hki'] at hk'
        exact inv.pinj k k' c hk hk'
  · have hle : T0.objs.length ≤ T.objs.length := by
      have := congrArg List.length inv.t0
      rw [List.length_take] at this; omega
    show (T.objs ++ [vo]).take T0.objs.length = T0.objs
    rw [List.take_append_of_le_length hle]; exact inv.t0
end
end Go.Proofs.Ytgconkbnokbinaa

/- Regions by virtual time, last part: an operation carried out as it is reckoned; all orders. For any program. -/
namespace Go.Proofs.Ytgconkbnokbinaa
open Go.RowKit

section
variable {P : Program} {G : Globs} {F : Ora} {ops : Array Oper} {r : Option Nat} {flo : List (Nat × Option Nat)} {σ : List TV} {T T0 : VT} {V R : Array Bool} {pend : List Nat} {g : Gh} {w : World} {a : Act} {prot : Nat → Option Nat}
/-- behind an operation that was carried out as it was reckoned -/
theorem VInv.turned (st : VStat P ops flo) (inv : VInv P G ops flo σ T T0 V R pend g w a.tmps.toList prot) {i : Nat} {o : Oper} (ho : ops[i]? = some o) (hiR : i ∈ Region.ready .any ops R) (hiV : i ∈ Region.ready .any ops V) (hF : i ∉ floatL flo)
    {g' : Gh} {w' : World} {v : Value} {y : TV} {T' T0' : VT} {pend' : List Nat} (e : Evo g w g' w') (hfr : g'.fr = g.fr) (hB : ∀ b, PB prot b → w'.heap[b]? = w.heap[b]?) (hst : ∀ b o, PB prot b → g'.st b o → g.st b o) (hrw : RW (gP g' (PB prot)) T' w') (hy : ∀ d u, o.dst = some d → (a.put o.dst v).tmps.toList[d]? = some u → VR g' w' y u)
    (ht0 : T'.objs.take T0'.objs.length = T0'.objs) (hpend : ∀ k ok y, k ∈ pend → ops[k]? = some ok → ¬ On R k → vwant ops (only ops ok σ) ok = some true → vpure2 P ok.op (vev G (only ops ok σ)) = none → vread2 P T0 ok.op (vev G (only ops ok σ)) = some y → k ∈ pend' ∧ vread2 P T0' ok.op (vev G (only ops ok σ)) = some y) :
    VInv P G ops flo (vput σ o.dst y) T' T0' (V.setIfInBounds i true) (R.setIfInBounds i true) pend' g' w' (a.put o.dst v).tmps.toList prot := by
  obtain ⟨hun, o', ho', hdep⟩ := mem_ready.1 hiR
  rw [ho] at ho'; injection ho' with ho'; subst ho'
  have hnR := not_on hun
  have hVi := not_on (mem_ready.1 hiV).1
  have hlt := (Array.getElem?_eq_some_iff.1 ho).1
  refine ⟨by simpa using inv.vs, by simpa using inv.rs, inv.cv.set hiV, inv.cr.set hiR, fun k hk hnv => ?_, fun k hk hv => on_set (inv.vf k hk (on_set_ne (fun h => hF (by rw [h]; exact hk)) hv)), fun i' j' h => ?_, ?_, fun k ok hk hv hnr => ?_, fun i' jo hf hri hnv => ?_, fun k b hk => ?_, inv.pinj, hrw, ht0⟩
  · by_cases hik : i = k
    · subst hik; exact absurd (on_self (by rw [inv.vs]; exact hlt)) hnv
    · exact inv.rv k (on_set_ne hik hk) fun h => hnv (on_set h)
  · have h1 : i ≠ i' := fun e => hF (floatL_mem.2 ⟨i', some j', h, .inl e⟩)
    have h2 : i ≠ j' := fun e => hF (floatL_mem.2 ⟨i', some j', h, .inr (by rw [e])⟩)
    exact ⟨fun h3 => on_set ((inv.vb i' j' h).1 (on_set_ne h1 h3)), fun h3 => on_set ((inv.vb i' j' h).2 (on_set_ne h2 h3))⟩
  · refine ⟨by rw [vput_len, put_len]; exact inv.rel.1, fun s x u hs hu hw => ?_⟩
    rw [vput_get] at hs
    by_cases hc : o.dst = some s ∧ s < σ.length
    · rw [if_pos hc] at hs; injection hs with hs; subst hs
      exact hy s u hc.1 hu
    · rw [if_neg hc] at hs
      have hne : o.dst ≠ some s := fun hd => hc ⟨hd, (List.getElem?_eq_some_iff.1 hs).1⟩
      rw [put_get, if_neg fun h => hne h.1] at hu
      refine (inv.rel.2 s x u hs hu fun k ok hk hd => ?_).mono e
      obtain ⟨h1, h2⟩ := hw k ok hk hd
      have hik : i ≠ k := fun h => by
        subst h
        rw [ho] at hk; injection hk with hk; subst hk
        exact hne hd
      exact ⟨on_set_ne hik h1, on_set_ne hik h2⟩
  · have hki : i ≠ k := fun h => hnr (h ▸ on_self (by rw [inv.rs]; exact hlt))
    have hv' := on_set_ne hki hv
    have hnr' : ¬ On R k := fun h => hnr (on_set h)
    have h1 : Owed P G ops T0' pend' k ok σ := by
      obtain ⟨h2, h3⟩ := inv.own k ok hk hv' hnr'
      refine ⟨h2, ?_⟩
      rcases h3 with h3 | ⟨h3, z, h4, h5⟩
      · exact .inl h3
      · refine .inr ⟨h3, z, h4, ?_⟩
        rcases h5 with h5 | ⟨h5, h6, h7⟩
        · exact .inl h5
        · obtain ⟨h8, h9⟩ := hpend k ok z h5 hk hnr' h3 h6 h7
          exact .inr ⟨h8, h6, h9⟩
    exact h1.put (y := y) (pend' := pend') st inv.cv ho hVi hk hv' fun _ h => h
  · have hii : i ≠ i' := fun h => hF (floatL_mem.2 ⟨i', jo, hf, .inl h⟩)
    have hri' := on_set_ne hii hri
    have hnv' : ¬ On V i' := fun h => hnv (on_set h)
    have h0 := (inv.flt i' jo hf hri' hnv').sig (σ' := vput σ o.dst y) fun j oj hj hoj hrj => only_put fun s hs => by
      subst hj
      cases hlk : inList (oj.looksAt ops) s with
      | false => rfl
      | true =>
        exfalso
        have hji : j ≠ i := fun e => hF (floatL_mem.2 ⟨i', some j, hf, .inr (by rw [e])⟩)
        obtain ⟨e1, he, hb1, hon⟩ := ((once_spec st.once ho hs).2 j oj hoj hji).2 hlk
        exact hnR (hon ▸ inv.cr j oj hoj hrj e1 he hb1)
    refine h0.step e (fun b hb => hB b ⟨i', hb⟩) rfl (fun o' d' h1 h2 h3 => ((once_spec st.once h1 h2).2 i o ho hii).1 h3) fun j hj hr => ?_
    subst hj
    exact on_set_ne (fun h => hF (floatL_mem.2 ⟨i', some j, hf, .inr (by rw [h])⟩)) hr
  · obtain ⟨h1, h2, h3, h4, h5, h6⟩ := inv.pr k b hk
    refine ⟨h1, on_set h2, fun h => ?_, by rw [hfr]; exact h4, fun o2 hs => h5 o2 (hst b o2 ⟨k, hk⟩ hs), Nat.lt_of_lt_of_le h6 e.size⟩
    by_cases hik : i = k
    · subst hik; exact hnR h2
    · exact h3 (on_set_ne hik h)
/-- an operation that is carried out as it is reckoned -/
theorem turn_step (st : VStat P ops flo) (inv : VInv P G ops flo σ T T0 V R pend g w a.tmps.toList prot) (hG : GOk G g w) {QQ : Exit → Act → World → Prop} {K : Act → World → Prop} {i : Nat} {o : Oper} (ho : ops[i]? = some o)
    (hiR : i ∈ Region.ready .any ops R) (hiV : i ∈ Region.ready .any ops V) (hF : i ∉ floatL flo) {ro : Nat} {b : Bool} (hw : vwant ops (only ops o σ) o = some b) {X : List TV → VT → Prop}
    (h : b = true → VPi P G ro o (only ops o σ) T fun s T' => X (vput σ o.dst (pickD o s)) T') (hY : b = false → X (vput σ o.dst (.val undef)) T) {pend' : List Nat} (T0' : VT → VT) (ht0 : ∀ σ' T' w' g', X σ' T' → Fix ro g T w T' w' → Evo g w g' w' → T'.objs.take (T0' T').objs.length = (T0' T').objs)
    (hpend : ∀ σ' T' k ok y, X σ' T' → k ∈ pend → ops[k]? = some ok → ¬ On R k → vwant ops (only ops ok σ) ok = some true → vpure2 P ok.op (vev G (only ops ok σ)) = none → vread2 P T0 ok.op (vev G (only ops ok σ)) = some y → k ∈ pend' ∧ vread2 P (T0' T') ok.op (vev G (only ops ok σ)) = some y)
    (next : ∀ σ' T' g' w' (a' : Act), X σ' T' → VInv P G ops flo σ' T' (T0' T') (V.setIfInBounds i true) (R.setIfInBounds i true) pend' g' w' a'.tmps.toList prot → Evo g w g' w' → Fix ro g T w T' w' → a'.defers = a.defers → K a' w') : wpOpIn (fenR r) 0 P ops QQ i K a w := by
  obtain ⟨_, o', ho', hdepR⟩ := mem_ready.1 hiR
  rw [ho] at ho'; injection ho' with ho'; subst ho'
  obtain ⟨_, o', ho', hdepV⟩ := mem_ready.1 hiV
  rw [ho] at ho'; injection ho' with ho'; subst ho'
  have hl : ∀ s, inList (o.looksAt ops) s = true → ∀ (k : Nat) ok, ops[k]? = some ok → ok.dst = some s → On V k ∧ On R k := fun s hs k ok hk hd =>
    ⟨(looks_on st.once ho hdepV hs hk hd).2, (looks_on st.once ho hdepR hs hk hd).2⟩
  have hσ := inv.rel.only hl
  have hwant := wanted_of hw hσ
  cases b with
  | false =>
    refine wpOpIn_skip ho hwant ?_
    refine next _ T g w _ (hY rfl) ?_ (Evo.refl _ _) (Fix.refl _ _ _ _) (put_defers _ _ _)
    exact inv.turned st ho hiR hiV hF (Evo.refl _ _) rfl (fun _ _ => rfl) (fun _ _ _ h => h) inv.rw (fun d u hd hu => by
      rw [put_get] at hu
      by_cases hc : o.dst = some d ∧ d < a.tmps.toList.length
      · rw [if_pos hc] at hu; injection hu with hu; subst hu; exact .val _
      · rw [if_neg hc] at hu; exact absurd ⟨hd, (List.getElem?_eq_some_iff.1 hu).1⟩ hc) (ht0 _ _ w g (hY rfl) (Fix.refl _ _ _ _) (Evo.refl _ _)) (fun k ok y => hpend _ T k ok y (hY rfl))
  | true =>
    unfold wpOpIn
    simp only [ho]
    rw [if_pos hwant]
    refine h rfl r (gP g (PB prot)) w a _ _ inv.rw hG.toP (VRs.gh (g := g) (g' := gP g (PB prot)) rfl rfl rfl hσ) fun s T' g1 w1 a' hput hX e1 r1 hs hd' hfix => ?_
    obtain ⟨v, rfl⟩ := hput
    obtain ⟨g', rfl, hfr, e, hB, hst⟩ := e1.base
    have hfix' : Fix ro g T w T' w1 := ⟨hfix.len, hfix.same, hfix.heap⟩
    refine next _ T' g' w1 _ hX ?_ e hfix' hd'
    refine inv.turned st ho hiR hiV hF e hfr hB hst r1 (fun d u hd hu => ?_) (ht0 _ _ w1 g' hX hfix' e) (fun k ok y => hpend _ T' k ok y hX)
    unfold pickD
    rw [hd]
    simp only
    rw [List.getD_eq_getElem?_getD]
    have hlen : s.length = (a.put o.dst v).tmps.toList.length := hs.1.symm
    have hdl := (List.getElem?_eq_some_iff.1 hu).1
    rw [← hlen] at hdl
    rw [List.getElem?_eq_getElem hdl]
    exact (hs.2 d _ u (List.getElem?_eq_getElem hdl) hu).ofP
/-! ### All orders -/
theorem setAll_on : ∀ {l : List Nat} {V : Array Bool} {k : Nat}, On (setAll l V) k → k ∈ l ∨ On V k
  | [], _, _, h => .inr h
  | i :: l, V, k, h => by
    rcases setAll_on (l := l) h with h | h
    · exact .inl (List.mem_cons_of_mem _ h)
    · by_cases hik : i = k
      · exact .inl (by rw [hik]; exact List.mem_cons_self)
      · exact .inr (on_set_ne hik h)
theorem on_setAll : ∀ {l : List Nat} {V : Array Bool} {k : Nat}, (On V k ∨ (k ∈ l ∧ k < V.size)) → On (setAll l V) k
  | [], _, _, h => by
    rcases h with h | h
    · exact h
    · cases h.1
  | i :: l, V, k, h => by
    refine on_setAll (l := l) ?_
    rcases h with h | ⟨h, hk⟩
    · exact .inl (on_set h)
    · rcases List.mem_cons.1 h with h | h
      · subst h; exact .inl (on_self hk)
      · exact .inr ⟨h, by simpa using hk⟩
/-- who comes up, and was not reckoned -/
theorem ready_of (inv : VInv P G ops flo σ T T0 V R pend g w a.tmps.toList prot) {j : Nat} (hj : j ∈ Region.ready .any ops R) (hV : ¬ On V j) (hF : j ∉ floatL flo) : j ∈ Region.ready .any ops (setAll (floatL flo) V) := by
  obtain ⟨hun, o, ho, hdep⟩ := mem_ready.1 hj
  have hsz : ∀ (l : List Nat) (V : Array Bool), (setAll l V).size = V.size := by
    intro l
    induction l with
    | nil => intro V; rfl
    | cons i l ih => intro V; rw [setAll, ih]; simp
  have hlt := (Array.getElem?_eq_some_iff.1 ho).1
  refine mem_ready.2 ⟨off_of (by rw [hsz, inv.vs]; exact hlt) fun h => ?_, o, ho, fun e he hb => ?_⟩
  · rcases setAll_on h with h | h
    · exact hF h
    · exact hV h
  · have h1 := hdep e he hb
    by_cases hv : On V e.on
    · exact on_setAll (.inl hv)
    · refine on_setAll (.inr ⟨inv.rv e.on h1 hv, ?_⟩)
      have h2 := inv.rs
      have h3 := inv.vs
      rcases Nat.lt_or_ge e.on R.size with h | h
      · omega
      · simp [Array.getElem?_eq_none h] at h1
theorem remL_mem {i : Nat} : ∀ {l : List Nat} {k : Nat}, k ∈ l → k ≠ i → k ∈ remL i l
  | a :: l, k, h, hn => by
    simp only [remL]
    cases hb : Nat.beq a i with
    | true =>
      have := Nat.eq_of_beq_eq_true hb
      simp only [cond_true]
      rcases List.mem_cons.1 h with h | h
      · exact absurd (h.trans this) hn
      · exact remL_mem h hn
    | false =>
      simp only [cond_false]
      rcases List.mem_cons.1 h with h | h
      · rw [h]; exact List.mem_cons_self
      · exact List.mem_cons_of_mem _ (remL_mem h hn)
theorem remL_sub {i : Nat} : ∀ {l : List Nat} {k : Nat}, k ∈ remL i l → k ∈ l
  | a :: l, k, h => by
    simp only [remL] at h
    cases hb : Nat.beq a i with
    | true => rw [hb] at h; exact List.mem_cons_of_mem _ (remL_sub h)
    | false =>
      rw [hb] at h
      rcases List.mem_cons.1 h with h | h
      · rw [h]; exact List.mem_cons_self
      · exact List.mem_cons_of_mem _ (remL_sub h)
/-- likewise, while a float is not carried out -/
theorem ready_rem (inv : VInv P G ops flo σ T T0 V R pend g w a.tmps.toList prot) {j i0 : Nat} (hn : ¬ On R i0) (hj : j ∈ Region.ready .any ops R) (hV : ¬ On V j) (hF : j ∉ floatL flo) : j ∈ Region.ready .any ops (setAll (remL i0 (floatL flo)) V) := by
  obtain ⟨hun, o, ho, hdep⟩ := mem_ready.1 hj
  have hsz : ∀ (l : List Nat) (V : Array Bool), (setAll l V).size = V.size := by
    intro l
    induction l with
    | nil => intro V; rfl
    | cons i l ih => intro V; rw [setAll, ih]; simp
  have hlt := (Array.getElem?_eq_some_iff.1 ho).1
  refine mem_ready.2 ⟨off_of (by rw [hsz, inv.vs]; exact hlt) fun h => ?_, o, ho, fun e he hb => ?_⟩
  · rcases setAll_on h with h | h
    · exact hF (remL_sub h)
    · exact hV h
  · have h1 := hdep e he hb
    by_cases hv : On V e.on
    · exact on_setAll (.inl hv)
    · refine on_setAll (.inr ⟨remL_mem (inv.rv e.on h1 hv) (fun h => hn (h ▸ h1)), ?_⟩)
      have h2 := inv.rs
      have h3 := inv.vs
      rcases Nat.lt_or_ge e.on R.size with h | h
      · omega
      · simp [Array.getElem?_eq_none h] at h1
def offN (R : Array Bool) : Nat := R.toList.count false
theorem offN_set {R : Array Bool} {i : Nat} (hi : i < R.size) (h : ¬ On R i) : offN (R.setIfInBounds i true) + 1 ≤ offN R := by
  unfold offN
  rw [Array.toList_setIfInBounds]
  have hl : i < R.toList.length := by simpa using hi
  have h0 : R.toList[i] = false := by
    unfold On at h
    simp [hi] at h ⊢; exact h
  have hm : false ∈ R.toList := by rw [← h0]; exact List.getElem_mem hl
  have hpos : 0 < R.toList.count false := List.count_pos_iff.2 hm
  rw [List.count_set hl, h0]
  simp only [beq_self_eq_true, if_true, Nat.add_zero, show ((true : Bool) == false) = false from rfl, Bool.false_eq_true, if_false]
  omega
theorem offN_zero {R : Array Bool} (h : offN R = 0) : ∀ i, i < R.size → On R i := fun i hi => by
  unfold offN at h
  have h1 : false ∉ R.toList := List.count_eq_zero.1 h
  unfold On
  simp [hi]
  cases hq : R[i] with
  | true => rfl
  | false =>
    exfalso
    apply h1
    rw [← hq]
    exact Array.mem_toList_iff.2 (Array.getElem_mem hi)
theorem ready_nil_on (hf : flowOk ops = true) {R : Array Bool} (hs : R.size = ops.size) (h : Region.ready .any ops R = []) : ∀ i, i < ops.size → On R i := all_listed hf hs h
theorem ready_nil_of {R : Array Bool} (h : ∀ i, i < ops.size → On R i) : Region.ready .any ops R = [] := by
  apply List.eq_nil_iff_forall_not_mem.2
  intro i hi
  obtain ⟨hun, o, ho, _⟩ := mem_ready.1 hi
  exact not_on hun (h i (Array.getElem?_eq_some_iff.1 ho).1)
end
end Go.Proofs.Ytgconkbnokbinaa

/- Regions' plans by masks: what is checked by masks is so. For any program. -/
namespace Go.Proofs.Ytgconkbnokbinaa
open Go.RowKit

section
variable {P : Program} {ops : Array Oper} {flo : List (Nat × Option Nat)} {F : List Nat}
theorem ltAllN_ok {n : Nat} : ∀ {l : List Nat}, ltAllN n l = true → ∀ i ∈ l, i < n
  | [], _, i, h => by cases h
  | a :: l, h, i, hi => by
    simp only [ltAllN, Bool.and_eq_true] at h
    rcases List.mem_cons.1 hi with rfl | hi
    · exact Nat.le_of_ble_eq_true h.1
    · exact ltAllN_ok h.2 i hi
theorem MaskOk.all {n : Nat} : ∀ (F : List Nat) (m : Nat) (V : Array Bool), MaskOk n m V → (∀ i ∈ F, i < n) → MaskOk n (Nat.lor m (maskL F)) (setAll F V)
  | [], m, V, h, _ => by
    have : Nat.lor m (maskL []) = m := Nat.or_zero m
    rw [this]; exact h
  | i :: l, m, V, h, k => by
    have h1 := MaskOk.all l _ _ (h.set (k i List.mem_cons_self)) fun j hj => k j (List.mem_cons_of_mem _ hj)
    have e : Nat.lor m (maskL (i :: l)) = Nat.lor (Nat.lor m (bitN i)) (maskL l) := (Nat.or_assoc m (bitN i) (maskL l)).symm
    rw [e]; exact h1
theorem remL_memN {i k : Nat} : ∀ {l : List Nat}, k ∈ remL i l → k ∈ l
  | [], h => by cases h
  | a :: l, h => by
    simp only [remL] at h
    cases hb : Nat.beq a i with
    | true => rw [hb] at h; exact List.mem_cons_of_mem _ (remL_memN h)
    | false =>
      rw [hb] at h
      rcases List.mem_cons.1 h with rfl | h
      · exact List.mem_cons_self
      · exact List.mem_cons_of_mem _ (remL_memN h)
theorem depMs_at : ∀ (L : List Oper) (j : Nat), (depMs L)[j]? = (L[j]?).map fun o => edgesM o.after.toList
  | [], j => by simp [depMs]
  | o :: L, 0 => by simp [depMs]
  | o :: L, j + 1 => by simpa [depMs] using depMs_at L j
theorem depsInM_eq {m : Nat} {V : Array Bool} (h : MaskOk ops.size m V) (j : Nat) : depsInM (depMs ops.toList) m j = depsIn ops V j := by
  unfold depsInM depsIn
  rw [depMs_at, Array.getElem?_toList]
  cases ops[j]? with
  | none => rfl
  | some o => exact deps_eq h o
theorem depsIn_lt {V : Array Bool} {j : Nat} (h : depsIn ops V j = true) : j < ops.size := by
  unfold depsIn at h
  split at h
  · rename_i o ho; exact (Array.getElem?_eq_some_iff.1 ho).1
  · cases h
theorem ancAllM_ok (hf : flowOk ops = true) {i : Nat} (hi : i < ops.size) : ∀ {l : List Nat}, ancAllM ops.size (ancGo ops.toList 0 []) i l = true → (l.all fun k => anc ops ops.size i k) = true
  | [], _ => rfl
  | k :: l, h => by
    simp only [ancAllM, Bool.and_eq_true] at h
    rw [List.all_cons, ancM_ok hf hi h.1, ancAllM_ok hf hi h.2]; rfl
theorem plan2ChkF_ok (hf : flowOk ops = true) (hF : ∀ i ∈ F, i < ops.size) : ∀ (l : List (Nat × FK)) (m : Nat) (V : Array Bool) (pend : List Nat), MaskOk ops.size m V →
    plan2ChkF P ops (depMs ops.toList) (ancGo ops.toList 0 []) flo F l m pend = true → plan2Chk P ops flo F l V pend = true
  | [], m, V, pend, hm, h => by
    simp only [plan2ChkF] at h
    simp only [plan2Chk, ready_eq hm]; exact h
  | (i, .own) :: l, m, V, pend, hm, h => by
    simp only [plan2ChkF, Bool.and_eq_true] at h
    obtain ⟨⟨⟨h1, h2⟩, h3⟩, h4⟩ := h
    rw [← ready_eq hm] at h1
    have hlt : i < ops.size := by
      obtain ⟨_, o, ho, _⟩ := mem_ready.1 (inList_iff.1 h1)
      exact (Array.getElem?_eq_some_iff.1 ho).1
    simp only [plan2Chk, Bool.and_eq_true]
    exact ⟨⟨⟨h1, h2⟩, h3⟩, plan2ChkF_ok hf hF l _ _ _ (hm.set hlt) h4⟩
  | (i, .turn pe) :: l, m, V, pend, hm, h => by
    simp only [plan2ChkF, Bool.and_eq_true] at h
    obtain ⟨⟨⟨⟨h0, h1⟩, h2⟩, h3⟩, h4⟩ := h
    rw [← ready_eq hm] at h1
    rw [← ready_eq (hm.all F _ _ hF)] at h3
    have hlt : i < ops.size := by
      obtain ⟨_, o, ho, _⟩ := mem_ready.1 (inList_iff.1 h1)
      exact (Array.getElem?_eq_some_iff.1 ho).1
    simp only [plan2Chk, Bool.and_eq_true]
    exact ⟨⟨⟨⟨h0, h1⟩, h2⟩, h3⟩, plan2ChkF_ok hf hF l _ _ _ (hm.set hlt) h4⟩
  | (i, .put pe) :: l, m, V, pend, hm, h => by
    simp only [plan2ChkF, Bool.and_eq_true] at h
    obtain ⟨⟨⟨⟨h0, h1⟩, h2⟩, h3⟩, h4⟩ := h
    rw [← ready_eq hm] at h1
    rw [← ready_eq (hm.all F _ _ hF)] at h3
    have hlt : i < ops.size := by
      obtain ⟨_, o, ho, _⟩ := mem_ready.1 (inList_iff.1 h1)
      exact (Array.getElem?_eq_some_iff.1 ho).1
    simp only [plan2Chk, Bool.and_eq_true]
    exact ⟨⟨⟨⟨h0, h1⟩, h2⟩, h3⟩, plan2ChkF_ok hf hF l _ _ _ (hm.set hlt) h4⟩
  | (i, .bar) :: l, m, V, pend, hm, h => by
    simp only [plan2ChkF, Bool.and_eq_true] at h
    obtain ⟨⟨⟨⟨h1, h2⟩, h3⟩, h5⟩, h4⟩ := h
    rw [← ready_eq hm] at h1
    rw [← ready_eq (hm.all F _ _ hF)] at h3
    have hlt : i < ops.size := by
      obtain ⟨_, o, ho, _⟩ := mem_ready.1 (inList_iff.1 h1)
      exact (Array.getElem?_eq_some_iff.1 ho).1
    simp only [plan2Chk, Bool.and_eq_true]
    exact ⟨⟨⟨⟨h1, h2⟩, h3⟩, ancAllM_ok hf hlt h5⟩, plan2ChkF_ok hf hF l _ _ _ (hm.set hlt) h4⟩
  | (i, .late) :: l, m, V, pend, hm, h => by
    simp only [plan2ChkF, Bool.and_eq_true] at h
    obtain ⟨⟨⟨h0, h1⟩, h3⟩, h4⟩ := h
    rw [← ready_eq hm] at h1
    rw [← ready_eq (hm.all (remL i F) _ _ fun k hk => hF k (remL_memN hk))] at h3
    have hlt : i < ops.size := by
      obtain ⟨_, o, ho, _⟩ := mem_ready.1 (inList_iff.1 h1)
      exact (Array.getElem?_eq_some_iff.1 ho).1
    simp only [plan2Chk, Bool.and_eq_true]
    exact ⟨⟨⟨by simpa only [Bool.and_eq_true] using h0, h1⟩, h3⟩, plan2ChkF_ok hf hF l _ _ _ (hm.set hlt) h4⟩
  | (i, .box j) :: l, m, V, pend, hm, h => by
    simp only [plan2ChkF, Bool.and_eq_true] at h
    obtain ⟨⟨⟨⟨h0, h1⟩, h2⟩, h3⟩, h4⟩ := h
    rw [← ready_eq hm] at h1
    rw [← ready_eq (hm.all (remL j F) _ _ fun k hk => hF k (remL_memN hk))] at h3
    have hlt : i < ops.size := by
      obtain ⟨_, o, ho, _⟩ := mem_ready.1 (inList_iff.1 h1)
      exact (Array.getElem?_eq_some_iff.1 ho).1
    rw [depsInM_eq (hm.set hlt)] at h2
    have hltj := depsIn_lt h2
    simp only [plan2Chk, Bool.and_eq_true]
    exact ⟨⟨⟨⟨by simpa only [Bool.and_eq_true] using h0, h1⟩, h2⟩, h3⟩, plan2ChkF_ok hf hF l _ _ _ ((hm.set hlt).set hltj) h4⟩
/-! ### Each slot is written once -/
theorem writesOf_mem : ∀ (L : List Oper) (k d i : Nat), (d, i) ∈ writesOf k L ↔ ∃ j o, L[j]? = some o ∧ i = k + j ∧ o.dst = some d
  | [], k, d, i => by simp [writesOf]
  | o :: L, k, d, i => by
    have ih := writesOf_mem L (k + 1) d i
    have step : (∃ j o', L[j]? = some o' ∧ i = k + 1 + j ∧ o'.dst = some d) ↔ ∃ j o', (o :: L)[j + 1]? = some o' ∧ i = k + (j + 1) ∧ o'.dst = some d := by
      constructor
      · rintro ⟨j, o', h1, h2, h3⟩; exact ⟨j, o', by simpa using h1, by omega, h3⟩
      · rintro ⟨j, o', h1, h2, h3⟩; exact ⟨j, o', by simpa using h1, by omega, h3⟩
    simp only [writesOf]
    split
    · rename_i d' hd'
      rw [List.mem_cons, ih, step]
      constructor
      · rintro (h | ⟨j, o', h⟩)
        · injection h with h1 h2
          exact ⟨0, o, rfl, by omega, by rw [hd', h1]⟩
        · exact ⟨j + 1, o', h⟩
      · rintro ⟨j, o', h1, h2, h3⟩
        cases j with
        | zero =>
          simp at h1; subst h1
          rw [hd'] at h3; injection h3 with h3
          left; rw [h3, h2]; rfl
        | succ j => exact .inr ⟨j, o', h1, h2, h3⟩
    · rename_i hd'
      rw [ih, step]
      constructor
      · rintro ⟨j, o', h⟩; exact ⟨j + 1, o', h⟩
      · rintro ⟨j, o', h1, h2, h3⟩
        cases j with
        | zero =>
          simp at h1; subst h1
          rw [hd'] at h3; cases h3
        | succ j => exact ⟨j, o', h1, h2, h3⟩
theorem dstsOnce_ok : ∀ {W : List (Nat × Nat)} {m : Nat}, dstsOnce W m = true → (∀ p ∈ W, m.testBit p.1 = false) ∧ W.Pairwise fun p q => p.1 ≠ q.1
  | [], _, _ => ⟨by simp, List.Pairwise.nil⟩
  | p :: l, m, h => by
    simp only [dstsOnce] at h
    cases hb : hasBit m p.1 with
    | true => rw [hb] at h; cases h
    | false =>
      rw [hb, cond_false] at h
      obtain ⟨h1, h2⟩ := dstsOnce_ok h
      rw [hasBit_eq] at hb
      refine ⟨fun q hq => ?_, List.pairwise_cons.2 ⟨fun q hq he => ?_, h2⟩⟩
      · rcases List.mem_cons.1 hq with rfl | hq
        · exact hb
        · have := h1 q hq
          rw [lor_test, Bool.or_eq_false_iff] at this
          exact this.1
      · have := h1 q hq
        rw [lor_test, Bool.or_eq_false_iff, bitN_test, decide_eq_false_iff_not] at this
        exact this.2 he
theorem findWr_ok : ∀ {W : List (Nat × Nat)}, (W.Pairwise fun p q => p.1 ≠ q.1) → ∀ {d i : Nat}, (d, i) ∈ W → findWr W d = some i
  | [], _, _, _, h => by cases h
  | p :: l, hp, d, i, h => by
    simp only [findWr]
    rcases List.mem_cons.1 h with rfl | h
    · simp [Nat.beq_refl]
    · have hne := (List.pairwise_cons.1 hp).1 _ h
      cases hb : Nat.beq p.1 d with
      | true => exact absurd (Nat.eq_of_beq_eq_true hb) hne
      | false => rw [cond_false]; exact findWr_ok (List.pairwise_cons.1 hp).2 h
theorem looksOk_at {W : List (Nat × Nat)} {d : Nat} : ∀ {l : List Nat}, looksOk W d l = true → ∀ s ∈ l, ∀ i, findWr W s = some i → hasBit d i = true
  | [], _, s, h => by cases h
  | a :: l, h, s, hs => by
    simp only [looksOk, Bool.and_eq_true] at h
    intro i hi
    rcases List.mem_cons.1 hs with rfl | hs
    · have h1 := h.1
      rw [hi] at h1; exact h1
    · exact looksOk_at h.2 s hs i hi
theorem onceGo_at {W : List (Nat × Nat)} : ∀ {L : List Oper}, onceGo ops W L = true → ∀ o ∈ L, looksOk W (edgesM o.after.toList) (o.looksAt ops) = true
  | [], _, o, h => by cases h
  | a :: l, h, o, ho => by
    simp only [onceGo, Bool.and_eq_true] at h
    rcases List.mem_cons.1 ho with rfl | ho
    · exact h.1
    · exact onceGo_at h.2 o ho
theorem onceF_ok (hf : flowOk ops = true) (h : onceF ops = true) : onceOk ops = true := by
  unfold onceF at h
  rw [Bool.and_eq_true] at h
  obtain ⟨h1, h2⟩ := h
  obtain ⟨_, hp⟩ := dstsOnce_ok h1
  have look : ∀ (i j d : Nat) (o oj : Oper), ops[i]? = some o → o.dst = some d → ops[j]? = some oj → inList (oj.looksAt ops) d = true → ∃ e ∈ oj.after.toList, Region.binds .any e = true ∧ e.on = i := fun i j d o oj ho hd hoj hl => by
    have hm : (d, i) ∈ writesOf 0 ops.toList := (writesOf_mem _ _ _ _).2 ⟨i, o, by rw [Array.getElem?_toList]; exact ho, by omega, hd⟩
    have hfw := findWr_ok hp hm
    have hmem : oj ∈ ops.toList := by
      obtain ⟨hlt, he⟩ := Array.getElem?_eq_some_iff.1 hoj
      rw [← he]; exact Array.mem_toList_iff.2 (Array.getElem_mem hlt)
    have := looksOk_at (onceGo_at h2 oj hmem) d (inList_iff.1 hl) i hfw
    rw [hasBit_eq] at this
    obtain ⟨e, he, hb, hon⟩ := (edgesM_test _ _).1 this
    exact ⟨e, he, hb, hon⟩
  unfold onceOk
  refine List.all_eq_true.2 fun i hi => ?_
  cases ho : ops[i]? with
  | none => rfl
  | some o =>
    simp only
    cases hd : o.dst with
    | none => rfl
    | some d =>
      simp only [Bool.and_eq_true, Bool.not_eq_true']
      refine ⟨?_, List.all_eq_true.2 fun j hj => ?_⟩
      · cases hl : inList (o.looksAt ops) d with
        | false => rfl
        | true =>
          obtain ⟨e, he, hb, hon⟩ := look i i d o o ho hd ho hl
          have := (flowOk_spec hf ho).1 e (Array.mem_toList_iff.1 he) hb
          omega
      · by_cases hji : j = i
        · subst hji; simp [Nat.beq_refl]
        · cases hoj : ops[j]? with
          | none => simp
          | some oj =>
            simp only [Bool.or_eq_true, Bool.and_eq_true]
            right
            refine ⟨?_, ?_⟩
            · cases hdj : oj.dst with
              | none => rfl
              | some d' =>
                simp only [Bool.not_eq_true']
                cases hb : Nat.beq d' d with
                | false => rfl
                | true =>
                  have := Nat.eq_of_beq_eq_true hb
                  subst this
                  have m1 : (d', i) ∈ writesOf 0 ops.toList := (writesOf_mem _ _ _ _).2 ⟨i, o, by rw [Array.getElem?_toList]; exact ho, by omega, hd⟩
                  have m2 : (d', j) ∈ writesOf 0 ops.toList := (writesOf_mem _ _ _ _).2 ⟨j, oj, by rw [Array.getElem?_toList]; exact hoj, by omega, hdj⟩
                  have e1 := findWr_ok hp m1
                  rw [findWr_ok hp m2] at e1
                  injection e1 with e1
                  exact absurd e1 hji
            · cases hl : inList (oj.looksAt ops) d with
              | false => exact .inl rfl
              | true =>
                right
                obtain ⟨e, he, hb, hon⟩ := look i j d o oj ho hd hoj hl
                exact List.any_eq_true.2 ⟨e, he, by rw [hb, hon, Nat.beq_refl]; rfl⟩
end
end Go.Proofs.Ytgconkbnokbinaa

/- Regions by virtual time: the whole. For any program. -/
namespace Go.Proofs.Ytgconkbnokbinaa
open Go.RowKit

section
variable {P : Program} {G : Globs} {F : Ora} {ops : Array Oper} {r : Option Nat} {flo : List (Nat × Option Nat)} {σ : List TV} {T T0 : VT} {V R : Array Bool} {pend : List Nat} {g : Gh} {w : World} {a : Act} {prot : Nat → Option Nat}
theorem other_step (st : VStat P ops flo) (inv : VInv P G ops flo σ T T0 V R pend g w a.tmps.toList prot) (hG : GOk G g w) (hbx : boxesOk P G ops flo V σ flo = true) {QQ : Exit → Act → World → Prop} {K : Act → World → Prop} {j : Nat} (hj : j ∈ Region.ready .any ops R) (hVF : On V j ∨ (¬ On V j ∧ j ∈ floatL flo))
    (next : ∀ g' w' (a' : Act) prot', VInv P G ops flo σ T T0 V (R.setIfInBounds j true) pend g' w' a'.tmps.toList prot' → Evo g w g' w' → (∀ n, Fix n g T w T w') → a'.defers = a.defers → K a' w') : wpOpIn (fenR r) 0 P ops QQ j K a w := by
  rcases hVF with hV | ⟨hV, hF⟩
  · exact owed_step st inv hG hj hV fun g' w' a' => next g' w' a' prot
  · obtain ⟨i, jo, h1, h2⟩ := floatL_mem.1 hF
    rcases h2 with rfl | rfl
    · exact float_step st inv h1 hj hV next
    · exact store_step st inv hG hbx h1 hj hV fun g' w' a' => next g' w' a' prot
theorem anyIn_done {QQ : Exit → Act → World → Prop} (h : Region.ready .any ops R = []) (hq : QQ .normal a w) : ∀ fuel, wpAnyIn (fenR r) 0 P .any ops QQ fuel R a w
  | 0 => ⟨h, hq⟩
  | _ + 1 => ⟨fun _ => hq, fun j hj => by rw [h] at hj; cases hj⟩
theorem anyIn_wait {QQ : Exit → Act → World → Prop} (hf : flowOk ops = true) (hs : R.size = ops.size) {i : Nat} (hi : i < ops.size) (hn : ¬ On R i) {fuel : Nat} (hfu : offN R ≤ fuel)
    (step : ∀ n, n < fuel → ∀ j ∈ Region.ready .any ops R, offN (R.setIfInBounds j true) ≤ n → wpOpIn (fenR r) 0 P ops QQ j (wpAnyIn (fenR r) 0 P .any ops QQ n (R.setIfInBounds j true)) a w) : wpAnyIn (fenR r) 0 P .any ops QQ fuel R a w := by
  cases fuel with
  | zero => exact absurd (offN_zero (by omega) i (by rw [hs]; exact hi)) hn
  | succ n =>
    refine ⟨fun h => absurd (ready_nil_on hf hs h i hi) hn, fun j hj => step n (Nat.lt_succ_self n) j hj ?_⟩
    obtain ⟨hun, o, ho, _⟩ := mem_ready.1 hj
    have := offN_set (R := R) (i := j) (by rw [hs]; exact (Array.getElem?_eq_some_iff.1 ho).1) (not_on hun)
    omega
theorem listed_all {l : List Nat} {q : Nat → Bool} (h : l.all q = true) {k : Nat} (hk : k ∈ l) : q k = true := List.all_eq_true.1 h k hk
theorem Fix.le {n m : Nat} (h : n ≤ m) {g : Gh} {T T' : VT} {w w' : World} (k : Fix m g T w T' w') : Fix n g T w T' w' := ⟨k.len, fun i hi => k.same i (Nat.lt_of_lt_of_le hi h), fun i o b hi => k.heap i o b (Nat.lt_of_lt_of_le hi h)⟩
theorem eqL_ok : ∀ {l m : List Nat}, eqL l m = true → l = m
  | [], [], _ => rfl
  | a :: l, b :: m, h => by
    simp only [eqL, Bool.and_eq_true] at h
    rw [Nat.eq_of_beq_eq_true h.1, eqL_ok h.2]
  | [], _ :: _, h => by cases h
  | _ :: _, [], h => by cases h
theorem cond_false_elim {b : Bool} {X : Prop} {n : Nat} {op : Op} {l : List TV} (h : cond b X (vbad n op l)) : b = true ∧ X := by
  cases b with
  | false => exact h.elim
  | true => exact ⟨rfl, h⟩
theorem pendApart_at {id off n : Nat} {l : List Nat} (h : pendApart P G ops id off n σ l = true) {k : Nat} {o : Oper} (hk : k ∈ l) (ho : ops[k]? = some o) (hw : vwant ops (only ops o σ) o = some true) (hp : vpure2 P o.op (vev G (only ops o σ)) = none) : apartRead P id off n o.op (vev G (only ops o σ)) = true := by
  induction l with
  | nil => cases hk
  | cons a l ih =>
    unfold pendApart at h
    rw [Bool.and_eq_true] at h
    rcases List.mem_cons.1 hk with e | hk
    · subst e
      have h1 := h.1
      rw [ho] at h1
      simp only [hw, hp, Option.isSome_none, Bool.false_or] at h1
      exact h1
    · exact ih h.2 hk
theorem pendSame_at {T0 T1 : VT} {l : List Nat} (h : pendSame P G ops T0 T1 σ l = true) {k : Nat} {o : Oper} {y : TV} (hk : k ∈ l) (ho : ops[k]? = some o) (hw : vwant ops (only ops o σ) o = some true) (hp : vpure2 P o.op (vev G (only ops o σ)) = none) (hr : vread2 P T0 o.op (vev G (only ops o σ)) = some y) : vread2 P T1 o.op (vev G (only ops o σ)) = some y := by
  induction l with
  | nil => cases hk
  | cons a l ih =>
    unfold pendSame at h
    rw [Bool.and_eq_true] at h
    rcases List.mem_cons.1 hk with e | hk
    · subst e
      have h1 := h.1
      rw [ho] at h1
      simp only [hw, hp, Option.isSome_none, Bool.false_or, hr] at h1
      split at h1
      · rename_i x y' hx hy
        injection hx with hx; subst hx
        rw [hy, tvEq_ok _ _ h1]
      · rename_i hx; cases hx
      · cases h1
    · exact ih h.2 hk
theorem pendProp_at {T0 T1 : VT} {l : List Nat} (h : pendProp P G ops T0 T1 σ l) {k : Nat} {o : Oper} {y : TV} (hk : k ∈ l) (ho : ops[k]? = some o) (hw : vwant ops (only ops o σ) o = some true) (hp : vpure2 P o.op (vev G (only ops o σ)) = none) (hr : vread2 P T0 o.op (vev G (only ops o σ)) = some y) : vread2 P T1 o.op (vev G (only ops o σ)) = some y := by
  induction l with
  | nil => cases hk
  | cons a l ih =>
    unfold pendProp at h
    rcases List.mem_cons.1 hk with e | hk
    · subst e
      have h1 := h.1
      rw [ho] at h1
      simp only [hw, hp, Option.isSome_none, cond_false] at h1
      rw [← h1]; exact hr
    · exact ih h.2 hk
theorem turnK {b c : Bool} {A X : Prop} {n : Nat} {op : Op} {l : List TV} (h : cond b (A ∧ X) (cond c X (vbad n op l))) : (A ∨ c = true) ∧ X := by
  cases b with
  | true => exact ⟨.inl h.1, h.2⟩
  | false =>
    cases c with
    | true => exact ⟨.inr rfl, h⟩
    | false => exact h.elim
theorem VPi.mono {ro : Nat} {o : Oper} {s : List TV} {T : VT} {K K' : List TV → VT → Prop} (h : VPi P G ro o s T K) (k : ∀ s T, K s T → K' s T) : VPi P G ro o s T K' :=
  fun r g w a next Q rw0 hG hσ hn => h r g w a next Q rw0 hG hσ fun σ' T' g' w' a' hp hk => hn σ' T' g' w' a' hp (k _ _ hk)
theorem vput3_ok {g : Gh} {w : World} (r : RW g T w) {ro : Nat} {t : TypeId} {id off : Nat} {x : TV} {ua u : Value} {T' : VT} (h : vput3 P ro T t (.ptr id off) x = some T') (ha : VR g w (.ptr id off) ua) (hx : VR g w x u) :
    ∃ g' w', (Instr.storeAt t ua u).run P w = .ok () w' ∧ VR g' w' (.val undef) undef ∧ Evo g w g' w' ∧ RW g' T' w' ∧ Fix ro g T w T' w' := by
  unfold vput3 at h
  split at h
  · rename_i y T1 h1
    injection h with h; subst h
    obtain ⟨g', w', k1, _, k3, k4, k5⟩ := vstoreR_ok (P := P) r h1 ha hx
    exact ⟨g', w', k1, .val _, k3, k4, k5⟩
  · cases hr : Nat.ble ro id with
    | false => simp only [hr] at h; cases h
    | true =>
      simp only [hr, cond_true, Option.map_eq_some_iff] at h
      obtain ⟨⟨y, T1⟩, h1, h2⟩ := h
      simp only at h2; subst h2
      obtain ⟨g', w', k1, _, k3, k4, k5⟩ := vstore_fix (P := P) (ro := ro) r h1 ha hx (Nat.le_of_ble_eq_true hr)
      exact ⟨g', w', k1, .val _, k3, k4, k5⟩
theorem vplan2_ok {call : Callee0} {rnd : Round0} (hc : CalleeOk P G call) (hrr : RoundOk P G rnd) (st : VStat P ops flo) {ro : Nat} {K : List TV → VT → Prop} {gs : Gh} {Ts : VT} {ws : World} {ds : List Deferred} {QQ : Act → World → Prop}
    (hq : ∀ σ' T' g' w' (a' : Act), K σ' T' → Evo gs ws g' w' → RW g' T' w' → VRs g' w' σ' a'.tmps.toList → a'.defers = ds → Fix ro gs Ts ws T' w' → QQ a' w') :
    ∀ (fuel : Nat) (l : List (Nat × FK)) (V : Array Bool) (T0 : VT) (pend : List Nat) (σ : List TV) (T : VT) (R : Array Bool) (g : Gh) (w : World) (a : Act) (prot : Nat → Option Nat),
      plan2Chk P ops flo (floatL flo) l V pend = true → vplan2 P G F call rnd ro ops flo V T0 l σ T K → VInv P G ops flo σ T T0 V R pend g w a.tmps.toList prot → GOk G g w → a.defers = ds → Evo gs ws g w → Fix ro gs Ts ws T w → ro ≤ T0.objs.length → offN R ≤ fuel →
      wpAnyIn (fenR r) 0 P .any ops (calm QQ) fuel R a w := by
  intro fuel
  induction fuel using Nat.strongRecOn with
  | _ fuel ihf =>
  intro l
  induction l with
  | nil =>
    intro V T0 pend σ T R g w a prot hp h inv hG hds hes hfx hro hfu
    have hallV : ∀ i, i < ops.size → On V i := ready_nil_on st.flow inv.vs (by simpa [plan2Chk] using hp)
    by_cases hall : ∀ i, i < ops.size → On R i
    · refine anyIn_done (ready_nil_of hall) (hq σ T g w a h hes inv.base ⟨inv.rel.1, fun s x u hs hu => inv.rel.2 s x u hs hu fun k o hk _ => ?_⟩ hds hfx) _
      have hlt := (Array.getElem?_eq_some_iff.1 hk).1
      exact ⟨hallV k hlt, hall k hlt⟩
    · obtain ⟨i, hi⟩ := Classical.not_forall.1 hall
      obtain ⟨hi, hn⟩ := Classical.not_imp.1 hi
      refine anyIn_wait st.flow inv.rs hi hn hfu fun n hlt j hj hoff => ?_
      obtain ⟨_, o, ho, _⟩ := mem_ready.1 hj
      exact owed_step st inv hG hj (hallV j (Array.getElem?_eq_some_iff.1 ho).1) fun g' w' a' inv' e fx hd => ihf n hlt [] V T0 pend σ T _ g' w' a' prot hp h inv' (hG.mono e) (hd.trans hds) (hes.trans e) (hfx.trans hes (fx ro)) hro hoff
  | cons p l ih =>
    intro V T0 pend σ T R g w a prot hp h inv hG hds hes hfx hro hfu
    obtain ⟨i, k⟩ := p
    -- while it waits
    have wait : ∀ (hbx : boxesOk P G ops flo V σ flo = true) {i0 : Nat} (hi0 : i0 < ops.size) (hn0 : ¬ On R i0)
        (hready : ∀ j ∈ Region.ready .any ops R, ¬ On V j → j ∉ floatL flo → ∀ n, n < fuel → offN (R.setIfInBounds j true) ≤ n → wpOpIn (fenR r) 0 P ops (calm QQ) j (wpAnyIn (fenR r) 0 P .any ops (calm QQ) n (R.setIfInBounds j true)) a w),
        wpAnyIn (fenR r) 0 P .any ops (calm QQ) fuel R a w := fun hbx i0 hi0 hn0 hready => by
      refine anyIn_wait st.flow inv.rs hi0 hn0 hfu fun n hlt j hj hoff => ?_
      by_cases hVF : On V j ∨ (¬ On V j ∧ j ∈ floatL flo)
      · exact other_step st inv hG hbx hj hVF fun g' w' a' prot' inv' e fx hd => ihf n hlt ((i, k) :: l) V T0 pend σ T _ g' w' a' prot' hp h inv' (hG.mono e) (hd.trans hds) (hes.trans e) (hfx.trans hes (fx ro)) hro hoff
      · have h1 : ¬ On V j := fun h => hVF (.inl h)
        exact hready j hj h1 (fun h => hVF (.inr ⟨h1, h⟩)) n hlt hoff
    cases k with
    | own =>
      simp only [plan2Chk, Bool.and_eq_true, Bool.not_eq_true'] at hp
      obtain ⟨⟨⟨hri, hnF⟩, hnd⟩, hp⟩ := hp
      have hri := inList_iff.1 hri
      have hF := inList_mem hnF
      obtain ⟨_, o, ho, _⟩ := mem_ready.1 hri
      simp only [ho] at hnd hp
      simp only [vplan2, ho] at h
      replace h := vsplit_ok h
      have hsub : ∀ k ∈ pend, k ∈ (bif isRead P o.op then i :: pend else pend) := fun k hk => by
        cases isRead P o.op
        · exact hk
        · exact List.mem_cons_of_mem _ hk
      have go : ∀ {y}, ((vwant ops (only ops o σ) o = some false ∧ y = .val undef) ∨ (vwant ops (only ops o σ) o = some true ∧ (OwnSem P G ⟨[], []⟩ o (only ops o σ) y ∨ (i ∈ (bif isRead P o.op then i :: pend else pend) ∧ vpure2 P o.op (vev G (only ops o σ)) = none ∧ vread2 P T0 o.op (vev G (only ops o σ)) = some y)))) →
          vplan2 P G F call rnd ro ops flo (V.setIfInBounds i true) T0 l (vput σ o.dst y) T K → wpAnyIn (fenR r) 0 P .any ops (calm QQ) fuel R a w := fun how h =>
        ih _ T0 _ _ T R g w a prot hp h (own_virt st inv ho hri hF hnd hsub how) hG hds hes hfx hro hfu
      split at h
      · rename_i b hb
        cases b with
        | true =>
          simp only [cond_true] at h
          split at h
          · rename_i y hy
            obtain ⟨hpu, h⟩ := h
            rcases vownT_sem hpu with h1 | ⟨h1, h2, h3⟩
            · exact go (.inr ⟨hb, .inl h1⟩) h
            · exact go (.inr ⟨hb, .inr ⟨by rw [h1]; exact List.mem_cons_self, h2, h3⟩⟩) h
          · exact h.elim
          · split at h
            · rename_i y hy
              rcases vownE_sem hy with h1 | ⟨h1, h2, h3⟩
              · exact go (.inr ⟨hb, .inl h1⟩) h
              · exact go (.inr ⟨hb, .inr ⟨by rw [h1]; exact List.mem_cons_self, h2, h3⟩⟩) h
            · exact h.elim
        | false =>
          simp only [cond_false] at h
          exact go (.inl ⟨hb, rfl⟩) h
      · exact h.elim
    | turn pe =>
      simp only [plan2Chk, Bool.and_eq_true, Bool.not_eq_true'] at hp
      obtain ⟨⟨⟨⟨hpe, hri⟩, hnF⟩, hrd⟩, hp⟩ := hp
      have hpe := eqL_ok hpe
      subst hpe
      have hri := inList_iff.1 hri
      have hF := inList_mem hnF
      obtain ⟨hun, o, ho, _⟩ := mem_ready.1 hri
      simp only [vplan2, ho] at h
      replace h := vsplit_ok h
      split at h
      · rename_i b hb
        cases hbx : boxesOk P G ops flo V σ flo with
        | false => rw [hbx] at h; exact h.elim
        | true =>
          rw [hbx] at h
          simp only [cond_true] at h
          have hnV := not_on hun
          have hle : T0.objs.length ≤ T.objs.length := by
            have := congrArg List.length inv.t0
            rw [List.length_take] at this; omega
          refine wait hbx (Array.getElem?_eq_some_iff.1 ho).1 (fun hR => hF (inv.rv i hR hnV)) fun j hj hVj hFj n hlt hoff => ?_
          have h1 := listed_all hrd (ready_of inv hj hVj hFj)
          simp only [Bool.or_eq_true] at h1
          rcases h1 with h1 | h1
          · have h1 := Nat.eq_of_beq_eq_true h1
            subst h1
            have ht0T : T.takeO T0.objs.length = ⟨T0.objs, T.tails⟩ := by unfold VT.takeO; rw [inv.t0]
            refine turn_step st inv hG ho hj hri hF hb (ro := ro) (X := fun σ' T' => (∀ k ok y, k ∈ pe → ops[k]? = some ok → vwant ops (only ops ok σ) ok = some true → vpure2 P ok.op (vev G (only ops ok σ)) = none → vread2 P T0 ok.op (vev G (only ops ok σ)) = some y → vread2 P (T'.takeO T0.objs.length) ok.op (vev G (only ops ok σ)) = some y) ∧ vplan2 P G F call rnd ro ops flo (V.setIfInBounds j true) (T'.takeO T0.objs.length) l σ' T' K)
              (fun hbt => ?_) (fun hbf => ?_) (pend' := pe) (fun T' => T'.takeO T0.objs.length) (fun σ' T' w' g' hX fx e => ?_) (fun σ' T' k ok y hX h1 h2 _ h3 h4 h5 => ⟨h1, hX.1 k ok y h1 h2 h3 h4 h5⟩) fun σ' T' g' w' a' hX inv' e fx hd => ihf n hlt l _ _ pe σ' T' _ g' w' a' prot hp hX.2 inv' (hG.mono e) (hd.trans hds) (hes.trans e) (hfx.trans hes fx) (by
                have := fx.len
                simp only [VT.takeO, List.length_take]; omega) hoff
            · rw [hbt] at h
              simp only [cond_true] at h
              refine VPi.mono (vopI_ok hc hrr h) fun s T' hk => ?_
              obtain ⟨hsame, hk⟩ := turnK hk
              refine ⟨fun k ok y hk hok hwk hpu hrd => ?_, hk⟩
              rcases hsame with hsame | hsame
              · exact pendProp_at hsame hk hok hwk hpu hrd
              · exact pendSame_at hsame hk hok hwk hpu hrd
            · rw [hbf] at h
              simp only [cond_false] at h
              exact ⟨fun k ok y _ _ _ _ hrd => vread2_mono (T0 := T0) (T := T.takeO T0.objs.length) (by rw [ht0T]; simp) hrd, h⟩
            · simp only [VT.takeO, List.length_take]
              rw [List.take_eq_take_iff]
              omega
          · exact absurd (inList_iff.1 h1) hFj
      · exact h.elim
    | bar =>
      simp only [plan2Chk, Bool.and_eq_true, Bool.not_eq_true'] at hp
      obtain ⟨⟨⟨⟨hri, hnF⟩, hrd⟩, hanc⟩, hp⟩ := hp
      have hri := inList_iff.1 hri
      have hF := inList_mem hnF
      obtain ⟨hun, o, ho, _⟩ := mem_ready.1 hri
      simp only [vplan2, ho] at h
      replace h := vsplit_ok h
      split at h
      · rename_i b hb
        cases hbx : boxesOk P G ops flo V σ flo with
        | false => rw [hbx] at h; exact h.elim
        | true =>
          rw [hbx] at h
          simp only [cond_true] at h
          have hnV := not_on hun
          have hle : T0.objs.length ≤ T.objs.length := by
            have := congrArg List.length inv.t0
            rw [List.length_take] at this; omega
          refine wait hbx (Array.getElem?_eq_some_iff.1 ho).1 (fun hR => hF (inv.rv i hR hnV)) fun j hj hVj hFj n hlt hoff => ?_
          have h1 := listed_all hrd (ready_of inv hj hVj hFj)
          simp only [Bool.or_eq_true] at h1
          rcases h1 with h1 | h1
          · have h1 := Nat.eq_of_beq_eq_true h1
            subst h1
            obtain ⟨_, oj, hoj, hdep⟩ := mem_ready.1 hj
            have hpe : ∀ k ∈ pend, On R k := fun k hk => anc_listed inv.cr ops.size j k (List.all_eq_true.1 hanc k hk) fun o' ho' e he hbb => by
              rw [hoj] at ho'; injection ho' with ho'; subst ho'; exact hdep e he hbb
            refine turn_step st inv hG ho hj hri hF hb (X := fun σ' T' => vplan2 P G F call rnd ro ops flo (V.setIfInBounds j true) T' l σ' T' K) (fun hbt => vopI_ok hc hrr (by rw [hbt] at h; exact h)) (fun hbf => by rw [hbf] at h; exact h) (pend' := []) (fun T' => T') (fun σ' T' w' g' _ fx e => by simp) (fun _ _ k ok y _ h1 _ h2 _ _ _ => absurd (hpe k h1) h2) fun σ' T' g' w' a' hX inv' e fx hd => ihf n hlt l _ T' [] σ' T' _ g' w' a' prot hp hX inv' (hG.mono e) (hd.trans hds) (hes.trans e) (hfx.trans hes fx) (Nat.le_trans (Nat.le_trans hro hle) fx.len) hoff
          · exact absurd (inList_iff.1 h1) hFj
      · exact h.elim
    | put pe =>
      simp only [plan2Chk, Bool.and_eq_true, Bool.not_eq_true'] at hp
      obtain ⟨⟨⟨⟨hpe, hri⟩, hnF⟩, hrd⟩, hp⟩ := hp
      have hpe := eqL_ok hpe
      subst hpe
      have hri := inList_iff.1 hri
      have hF := inList_mem hnF
      obtain ⟨hun, o, ho, _⟩ := mem_ready.1 hri
      simp only [vplan2, ho] at h
      replace h := vsplit_ok h
      split at h
      · rename_i b hb
        cases hbx : boxesOk P G ops flo V σ flo with
        | false => rw [hbx] at h; exact h.elim
        | true =>
          rw [hbx] at h
          simp only [cond_true] at h
          have hnV := not_on hun
          have hle : T0.objs.length ≤ T.objs.length := by
            have := congrArg List.length inv.t0
            rw [List.length_take] at this; omega
          refine wait hbx (Array.getElem?_eq_some_iff.1 ho).1 (fun hR => hF (inv.rv i hR hnV)) fun j hj hVj hFj n hlt hoff => ?_
          have h1 := listed_all hrd (ready_of inv hj hVj hFj)
          simp only [Bool.or_eq_true] at h1
          rcases h1 with h1 | h1
          · have h1 := Nat.eq_of_beq_eq_true h1
            subst h1
            have ht0T : T.takeO T0.objs.length = ⟨T0.objs, T.tails⟩ := by unfold VT.takeO; rw [inv.t0]
            refine turn_step st inv hG ho hj hri hF hb (ro := ro) (X := fun σ' T' => (T'.objs.length = T.objs.length ∧ ∀ k ok y, k ∈ pe → ops[k]? = some ok → vwant ops (only ops ok σ) ok = some true → vpure2 P ok.op (vev G (only ops ok σ)) = none → vread2 P T0 ok.op (vev G (only ops ok σ)) = some y → vread2 P (T'.takeO T0.objs.length) ok.op (vev G (only ops ok σ)) = some y) ∧ vplan2 P G F call rnd ro ops flo (V.setIfInBounds j true) (T'.takeO T0.objs.length) l σ' T' K)
              (fun hbt => ?_) (fun hbf => ?_) (pend' := pe) (fun T' => T'.takeO T0.objs.length) (fun σ' T' w' g' hX fx e => ?_) (fun σ' T' k ok y hX h1 h2 _ h3 h4 h5 => ⟨h1, hX.1.2 k ok y h1 h2 h3 h4 h5⟩) fun σ' T' g' w' a' hX inv' e fx hd => ihf n hlt l _ _ pe σ' T' _ g' w' a' prot hp hX.2 inv' (hG.mono e) (hd.trans hds) (hes.trans e) (hfx.trans hes fx) (by
                have := hX.1.1
                simp only [VT.takeO, List.length_take]; omega) hoff
            · rw [hbt] at h
              simp only [cond_true] at h
              split at h
              · rename_i t ad x hop
                split at h
                · rename_i id off new had hnew
                  split at h
                  · rename_i T1 hT1
                    obtain ⟨hpa, h⟩ := cond_false_elim h
                    obtain ⟨hag, hlen⟩ := put_agree hnew hT1
                    refine VPi.of (by rw [hop]; rfl) fun g w ρ r hρ => ?_
                    have hax := hρ ad
                    rw [had] at hax
                    obtain ⟨g', w', k1, k2, k3, k4, k5⟩ := vput3_ok (P := P) r hT1 hax (hρ x)
                    refine ⟨.skip, undef, g', w', .val undef, T1, ?_, rfl, ⟨⟨hlen, fun k ok y hk hok hwk hpu hrd => ?_⟩, h⟩, k2, k3, k4, k5⟩
                    · obtain ⟨dst, op, ty, pos, af, gd⟩ := o
                      simp only at hop; subst hop
                      simp [execOp, k1]
                    · have hap := pendApart_at hpa hk hok hwk hpu
                      have h6 : vread2 P (T.takeO T0.objs.length) ok.op (vev G (only ops ok σ)) = some y := vread2_mono (T0 := T0) (T := T.takeO T0.objs.length) (by rw [ht0T]; simp) hrd
                      rw [← apart_read (AgreeOut.take hag) hap]; exact h6
                  · exact h.elim
                · exact h.elim
              · exact h.elim
            · rw [hbf] at h
              simp only [cond_false] at h
              refine ⟨⟨rfl, fun k ok y _ _ _ _ hrd => vread2_mono (T0 := T0) (T := T.takeO T0.objs.length) (by rw [ht0T]; simp) hrd⟩, h⟩
            · simp only [VT.takeO, List.length_take, List.take_take, Nat.min_self]
              congr 1
              omega
          · exact absurd (inList_iff.1 h1) hFj
      · exact h.elim
    | late =>
      simp only [plan2Chk, Bool.and_eq_true] at hp
      obtain ⟨⟨⟨hfl, hri⟩, hrd⟩, hp⟩ := hp
      have hri := inList_iff.1 hri
      obtain ⟨hun, o, ho, _⟩ := mem_ready.1 hri
      have hf : (i, none) ∈ flo := by
        obtain ⟨q, hq, h1⟩ := List.any_eq_true.1 hfl
        simp only [Bool.and_eq_true] at h1
        obtain ⟨q1, q2⟩ := q
        have h2 := Nat.eq_of_beq_eq_true h1.1
        simp only at h2
        subst h2
        cases q2 with
        | none => exact hq
        | some _ => cases h1.2
      simp only [vplan2, ho] at h
      split at h
      · rename_i y T' hy
        cases hbx : boxesOk P G ops flo V σ flo with
        | false => rw [hbx] at h; exact h.elim
        | true =>
          rw [hbx] at h
          simp only [cond_true] at h
          have hnV := not_on hun
          by_cases hR : On R i
          · obtain ⟨o', d, b, h1, h2, h3, blk, f, vo, mk, h4, h5, h6, h7⟩ := inv.flt i none hf hR hnV
            rw [ho] at h1; injection h1 with h1; subst h1
            have h8 := h5 T
            rw [hy] at h8; injection h8 with h8; injection h8 with h8 h9; subst h8 h9
            have hlt := (Array.getElem?_eq_some_iff.1 ho).1
            obtain ⟨g', prot', inv', e⟩ := float_virt (V' := V.setIfInBounds i true) (y := mk T.objs.length) st inv ho hf hri hR (fun j hj => by cases hj) (fun k => ⟨fun h => by
                by_cases hik : i = k
                · exact .inl (.inl hik.symm)
                · exact .inr (on_set_ne hik h), fun h => by
                rcases h with (h | h) | h
                · subst h; exact on_self (by rw [inv.vs]; exact hlt)
                · cases h
                · exact on_set h⟩) (by simpa using inv.vs) (inv.cv.set hri) h3 h4.live (h4.or g w b h6) (fun d' u hd' hu g' hg' => by
                rw [h2] at hd'; injection hd' with hd'; subst hd'
                rw [h7 u hu]
                exact h4.vr g' w _ b hg' (inv.pr i b h3).2.2.2.2.2 h6)
            exact ih _ T0 pend _ _ R g' w a prot' hp h inv' (hG.mono e) hds (hes.trans e) (hfx.trans hes fix_app) hro hfu
          · refine wait hbx (Array.getElem?_eq_some_iff.1 ho).1 hR fun j hj hVj hFj n hlt hoff => ?_
            exact absurd (inList_iff.1 (listed_all hrd (ready_rem inv hR hj hVj hFj))) hFj
      · exact h.elim
    | box j =>
      simp only [plan2Chk, Bool.and_eq_true] at hp
      obtain ⟨⟨⟨⟨hfl, hri⟩, hdj⟩, hrd⟩, hp⟩ := hp
      have hri := inList_iff.1 hri
      obtain ⟨hun, o, ho, _⟩ := mem_ready.1 hri
      have hf : (i, some j) ∈ flo := by
        obtain ⟨q, hq, h1⟩ := List.any_eq_true.1 hfl
        simp only [Bool.and_eq_true] at h1
        obtain ⟨q1, q2⟩ := q
        have h2 := Nat.eq_of_beq_eq_true h1.1
        simp only at h2
        subst h2
        cases q2 with
        | none => cases h1.2
        | some j' =>
          have := Nat.eq_of_beq_eq_true h1.2
          subst this; exact hq
      obtain ⟨o', ho', hlate, hbox⟩ := st.at hf
      rw [ho] at ho'; injection ho' with ho'; subst ho'
      obtain ⟨oj, hoj, hib, ⟨e1, he1, hb1, hon1⟩, _⟩ := hbox j rfl
      simp only [vplan2, ho, hoj] at h
      split at h
      · rename_i y T' hy
        cases hbx : boxesOk P G ops flo V σ flo with
        | false => rw [hbx] at h; exact h.elim
        | true =>
          rw [hbx] at h
          simp only [cond_true] at h
          have hnV := not_on hun
          have hlt := (Array.getElem?_eq_some_iff.1 ho).1
          have hltj := (Array.getElem?_eq_some_iff.1 hoj).1
          by_cases hR : On R i ∧ On R j
          · obtain ⟨hR, hRj⟩ := hR
            obtain ⟨o', d, b, h1, h2, h3, oj', t, us, inf, h4, h5, h6, h7, h8, h9, h10⟩ := inv.flt i (some j) hf hR hnV
            rw [ho] at h1; injection h1 with h1; subst h1
            rw [hoj] at h4; injection h4 with h4; subst h4
            obtain ⟨new, k1, k2, k3⟩ := h10 hRj
            unfold vboxMk at hy
            rw [k1] at hy
            injection hy with hy; injection hy with hy1 hy2; subst hy1 hy2
            have hji : i < j := by
              have := (flowOk_spec st.flow hoj).1 e1 he1 hb1
              omega
            obtain ⟨g', prot', inv', e⟩ := float_virt (V' := (V.setIfInBounds i true).setIfInBounds j true) (y := .ptr T.objs.length 0) (vo := .cells new) st inv ho hf hri hR (fun j' hj' => by injection hj' with hj'; subst hj'; exact hRj) (fun k => ⟨fun h => by
                by_cases hjk : j = k
                · exact .inl (.inr (by rw [hjk]))
                · have h := on_set_ne hjk h
                  by_cases hik : i = k
                  · exact .inl (.inl hik.symm)
                  · exact .inr (on_set_ne hik h), fun h => by
                rcases h with (h | h) | h
                · subst h; exact on_set (on_self (by rw [inv.vs]; exact hlt))
                · injection h with h; subst h; exact on_self (by simp [inv.vs]; exact hltj)
                · exact on_set (on_set h)⟩) (by simpa using inv.vs) (by
                have hc1 := inv.cv.set hri
                intro k ok hk hon e he hb
                by_cases hjk : j = k
                · subst hjk
                  rw [hoj] at hk; injection hk with hk; subst hk
                  refine on_set ?_
                  unfold depsIn at hdj
                  rw [hoj] at hdj
                  have := List.all_eq_true.1 hdj e (Array.mem_toList_iff.2 he)
                  rw [hb] at this
                  simpa only [Bool.not_true, Bool.false_or] using this
                · exact on_set (hc1 k ok hk (on_set_ne hjk hon) e he hb)) h3 rfl ⟨us, t, h5, k2, k3⟩ (fun d' u hd' hu g' hg' => by
                rw [h2] at hd'; injection hd' with hd'; subst hd'
                rw [h6 u hu]
                exact .ptr hg')
            exact ih _ T0 pend _ _ R g' w a prot' hp h inv' (hG.mono e) hds (hes.trans e) (hfx.trans hes fix_app) hro hfu
          · have hn : ∃ i0, i0 < ops.size ∧ ¬ On R i0 := by
              by_cases h1 : On R i
              · exact ⟨j, hltj, fun h2 => hR ⟨h1, h2⟩⟩
              · exact ⟨i, hlt, h1⟩
            obtain ⟨i0, hi0, hn0⟩ := hn
            have hnj : ¬ On R j := fun h => by
              have hRi := inv.cr j oj hoj h e1 he1 hb1
              rw [hon1] at hRi
              exact hR ⟨hRi, h⟩
            refine wait hbx hi0 hn0 fun j' hj hVj hFj n hlt hoff => ?_
            exact absurd (inList_iff.1 (listed_all hrd (ready_rem inv hnj hj hVj hFj))) hFj
      · exact h.elim
theorem cond_some {α : Type} {b : Bool} {x y : α} (h : cond b (some x) none = some y) : b = true ∧ x = y := by
  cases b with
  | false => cases h
  | true => injection h with h; exact ⟨rfl, h⟩
theorem VInv.start (hσ : VRs g w σ a.tmps.toList) (hr : RW g T w) : VInv P G ops flo σ T T (Array.replicate ops.size false) (Array.replicate ops.size false) [] g w a.tmps.toList fun _ => none := by
  have hoff : ∀ k, ¬ On (Array.replicate ops.size false) k := fun k h => by
    unfold On at h
    rw [Array.getD_eq_getD_getElem?, Array.getElem?_replicate] at h
    split at h <;> simp at h
  refine ⟨by simp, by simp, fun k o _ hk => absurd hk (hoff k), fun k o _ hk => absurd hk (hoff k), fun k hk => absurd hk (hoff k), fun k _ hk => absurd hk (hoff k), fun i j _ => ⟨fun h => absurd h (hoff i), fun h => absurd h (hoff j)⟩, ⟨hσ.1, fun s x u hs hu _ => hσ.2 s x u hs hu⟩, fun k o _ hk => absurd hk (hoff k), fun i jo _ hk => absurd hk (hoff i), fun k b hk => (by cases hk), fun i j b h => (by cases h), ?_, List.take_length⟩
  refine hr.lessFr rfl rfl rfl fun b hb => ?_
  rcases hb with hb | ⟨k, hk⟩
  · exact hb
  · cases hk
theorem plan2All_ok {p : List (Nat × FK)} (h : plan2All P ops = some p) : Region.noSelect ops = true ∧ VStat P ops (flos P ops) ∧ plan2Chk P ops (flos P ops) (floatL (flos P ops)) p (Array.replicate ops.size false) [] = true := by
  unfold plan2All plan2With plan2By at h
  obtain ⟨hb, h⟩ := cond_some h
  simp only [Bool.and_eq_true] at hb
  subst h
  obtain ⟨⟨⟨⟨⟨⟨h1, h2⟩, h3⟩, h4⟩, h5⟩, h6⟩, h7⟩ := hb
  exact ⟨h1, ⟨h2, onceF_ok h2 h3, h4, h6⟩, plan2ChkF_ok h2 (ltAllN_ok h5) _ _ _ _ (MaskOk.zero _) h7⟩
end
end Go.Proofs.Ytgconkbnokbinaa

/- A region's last operation, that waits for all others. For any program. -/
namespace Go.Proofs.Ytgconkbnokbinaa
open Go.RowKit

section
variable {P : Program} {F : Fence} {n : Nat} {ops : Array Oper}
/-- t waits for all others -/
def lastOk (ops : Array Oper) (t : Oper) : Prop := ∀ j, (edgesM t.after.toList).testBit j = decide (j < ops.size)
theorem lastOk_of {t : Oper} (h : Nat.beq (edgesM t.after.toList) (2 ^ ops.size - 1) = true) : lastOk ops t := by
  intro j
  rw [Nat.eq_of_beq_eq_true h, Nat.testBit_two_pow_sub_one]
theorem ready_pushL {t : Oper} (hf : flowOk ops = true) (ht : lastOk ops t) {listed : Array Bool} (hsz : listed.size = ops.size) {i : Nat} (hi : i ∈ Region.ready .any (ops.push t) (listed.push false)) :
    (i < ops.size ∧ i ∈ Region.ready .any ops listed) ∨ (i = ops.size ∧ ∀ j, j < ops.size → listed.getD j false = true) := by
  obtain ⟨hun, o, ho, hed⟩ := mem_ready.1 hi
  have hi' : i < (ops.push t).size := (Array.getElem?_eq_some_iff.1 ho).1
  rw [Array.size_push] at hi'
  rw [Array.getElem?_push] at ho
  by_cases h : i = ops.size
  · right
    refine ⟨h, fun j hj => ?_⟩
    rw [if_pos h] at ho
    obtain rfl : t = o := Option.some.inj ho
    obtain ⟨e, he, hb, hon⟩ := (edgesM_test _ _).1 ((ht j).trans (decide_eq_true hj))
    have h2 := hed e (Array.mem_toList_iff.1 he) hb
    rw [hon, getD_push_lt _ _ (by omega)] at h2
    exact h2
  · left
    rw [if_neg h] at ho
    have hlt' : i < ops.size := by omega
    refine ⟨hlt', mem_ready.2 ⟨by rw [getD_push_lt _ _ (by omega)] at hun; exact hun, o, ho, fun e he hb => ?_⟩⟩
    have h1 := (flowOk_spec hf ho).1 e he hb
    have h2 := hed e he hb
    rwa [getD_push_lt _ _ (by omega)] at h2
theorem wpIn_calm {o : Oper} {a : Act} {w : World} {K : Act → World → Prop} {Q1 Q2 : Act → World → Prop} (hh : o.wpIn F n P a w K (calm Q1)) : o.wpIn F n P a w K (calm Q2) := by
  unfold Oper.wpIn at *
  refine ⟨hh.1, ?_⟩
  have hh := hh.2
  generalize (o.semAt F.round a.eval).run P w = r at *
  have hl : ∀ {Q : Act → World → Prop}, LetsOut (calm Q) → False := fun h => by
    obtain ⟨a₀, w₀, h₀⟩ := h; exact h₀
  cases r with
  | ok x w' =>
    cases x <;> simp only [Oper.uponIn] at hh ⊢ <;>
      first
        | exact hh
        | exact ⟨hh.1, CallsIn.mono hh.2 (fun e w'' he => by cases e <;> first | exact he | exact (hl he).elim)⟩
        | exact ⟨hh.1, RoundIn.mono hh.2 (fun e w'' he => by cases e <;> first | exact he | exact (hl he).elim)⟩
  | halt x w' => cases x <;> simp only [Oper.uponIn] at hh ⊢ <;> exact hh.elim
theorem anyIn_tail {t : Oper} (hf : flowOk ops = true) (ht : lastOk ops t) {Q : Act → World → Prop} :
    ∀ (fuel : Nat) (listed : Array Bool) (a : Act) (w : World), listed.size = ops.size →
      wpAnyIn F n P .any ops (calm fun a w => wpOpIn F n P (ops.push t) (calm Q) ops.size Q a w) fuel listed a w →
      wpAnyIn F n P .any (ops.push t) (calm Q) (fuel + 1) (listed.push false) a w := by
  have hdone : ∀ (listed : Array Bool), listed.size = ops.size → (∀ j, j < ops.size → listed.getD j false = true) →
      Region.ready .any (ops.push t) ((listed.push false).setIfInBounds ops.size true) = [] := by
    intro listed hsz hall
    apply List.eq_nil_iff_forall_not_mem.2
    intro i hi
    obtain ⟨hun, o, ho, _⟩ := mem_ready.1 hi
    have hi' : i < (ops.push t).size := (Array.getElem?_eq_some_iff.1 ho).1
    rw [Array.size_push] at hi'
    have : ((listed.push false).setIfInBounds ops.size true).getD i true = true := by
      by_cases h : i = ops.size
      · subst h
        simp
      · rw [getD_set_ne true (Ne.symm h), getD_push_lt _ _ (by omega)]
        have h3 := hall i (by omega)
        have hb : i < listed.size := by omega
        simp [hb] at h3 ⊢; exact h3
    rw [this] at hun
    cases hun
  have hlast : ∀ (fuel : Nat) (listed : Array Bool) (a : Act) (w : World), listed.size = ops.size → (∀ j, j < ops.size → listed.getD j false = true) →
      wpOpIn F n P (ops.push t) (calm Q) ops.size Q a w → wpOpIn F n P (ops.push t) (calm Q) ops.size (wpAnyIn F n P .any (ops.push t) (calm Q) fuel ((listed.push false).setIfInBounds ops.size true)) a w := by
    intro fuel listed a w hsz hall h
    refine wpOpIn_mono (fun a' w' hq => ?_) h
    cases fuel with
    | zero => exact ⟨hdone listed hsz hall, hq⟩
    | succ k => exact ⟨fun _ => hq, fun i hi => by rw [hdone listed hsz hall] at hi; cases hi⟩
  have hnot : ∀ (listed : Array Bool), listed.size = ops.size → (∀ j, j < ops.size → listed.getD j false = true) → ops.size ∈ Region.ready .any (ops.push t) (listed.push false) := by
    intro listed hsz hall
    refine mem_ready.2 ⟨?_, t, by simp, fun e he hb => ?_⟩
    · simp [← hsz]
    · have h1 := (edgesM_test t.after.toList e.on).2 ⟨e, Array.mem_toList_iff.2 he, hb, rfl⟩
      rw [ht] at h1
      have h1 := of_decide_eq_true h1
      rw [getD_push_lt _ _ (by omega)]
      exact hall e.on h1
  intro fuel
  induction fuel with
  | zero =>
    intro listed a w hsz h
    have hall := all_listed hf hsz h.1
    refine ⟨fun h0 => ?_, fun i hi => ?_⟩
    · have := hnot listed hsz hall
      rw [h0] at this; cases this
    · rcases ready_pushL hf ht hsz hi with ⟨h1, h2⟩ | ⟨rfl, h2⟩
      · rw [h.1] at h2; cases h2
      · exact hlast 0 listed a w hsz hall h.2
  | succ fuel ih =>
    intro listed a w hsz h
    refine ⟨fun h0 => ?_, fun i hi => ?_⟩
    · have hr : Region.ready .any ops listed = [] := by
        apply List.eq_nil_iff_forall_not_mem.2
        intro i hi
        have hi2 : i ∈ Region.ready .any (ops.push t) (listed.push false) := by
          obtain ⟨hun, o, ho, hed⟩ := mem_ready.1 hi
          have hlt : i < ops.size := (Array.getElem?_eq_some_iff.1 ho).1
          refine mem_ready.2 ⟨by rw [getD_push_lt _ _ (by omega)]; exact hun, o, by rw [Array.getElem?_push, if_neg (by omega)]; exact ho, fun e he hb => ?_⟩
          have := (flowOk_spec hf ho).1 e he hb
          rw [getD_push_lt _ _ (by omega)]
          exact hed e he hb
        rw [h0] at hi2; cases hi2
      have := hnot listed hsz (all_listed hf hsz hr)
      rw [h0] at this; cases this
    · rcases ready_pushL hf ht hsz hi with ⟨h1, h2⟩ | ⟨rfl, h2⟩
      · have h3 := h.2 i h2
        obtain ⟨_, o, ho, _⟩ := mem_ready.1 h2
        rw [set_push (by omega)]
        unfold wpOpIn at h3 ⊢
        rw [Array.getElem?_push, if_neg (by omega)]
        simp only [ho] at h3 ⊢
        rw [wanted_push hf t ho]
        split at h3
        · rename_i hw
          rw [if_pos hw]
          exact wpIn_calm (Oper.wpIn_mono (fun a' w' hq => ih (listed.setIfInBounds i true) a' w' (by simpa using hsz) hq) h3)
        · rename_i hw
          rw [if_neg hw]
          exact ⟨h3.1, ih (listed.setIfInBounds i true) _ w (by simpa using hsz) h3.2⟩
      · have hr : Region.ready .any ops listed = [] := by
          apply List.eq_nil_iff_forall_not_mem.2
          intro j hj
          obtain ⟨hun, o, ho, _⟩ := mem_ready.1 hj
          have hlt : j < ops.size := (Array.getElem?_eq_some_iff.1 ho).1
          have h3 := h2 j hlt
          have hb : j < listed.size := by omega
          simp [hb] at h3 hun
          rw [h3] at hun; cases hun
        exact hlast _ listed a w hsz h2 (h.1 hr)
theorem replicate_push (n : Nat) : Array.replicate (n + 1) false = (Array.replicate n false).push false := Array.replicate_succ
end
end Go.Proofs.Ytgconkbnokbinaa

/- What the evaluator reckons is so. For any program. -/
namespace Go.Proofs.Ytgconkbnokbinaa
open Go.RowKit

section
variable {P : Program} {G : Globs} {F : Ora}
theorem Fix.of_min {ro : Nat} {g : Gh} {T T' : VT} {w w' : World} (h : Fix (min ro T.objs.length) g T w T' w') : Fix ro g T w T' w' :=
  ⟨h.len, fun i hi hl => h.same i (by omega) hl, fun i o b hi ho => h.heap i o b (by have := (List.getElem?_eq_some_iff.1 ho).1; omega) ho⟩
theorem planOld_some {ops : Array Oper} {p : List (Oper × PK)} (h : planOld P ops = some p) : planAll P ops = some p := by
  unfold planOld at h
  split at h
  · rename_i q hq
    cases hb : (hasK2 q && (plan2All P ops).isSome) with
    | true => rw [hb] at h; cases h
    | false => rw [hb] at h; rw [hq]; exact h
  · cases h
theorem planSel_some {ops : Array Oper} {p : List (Oper × PK)} (h : planSel P F ops = some p) : planAll P ops = some p := by
  unfold planSel at h
  cases hb : (F ⟨some 999999, .move (.tmp 0), 0, "", #[], none⟩ [] ⟨[], []⟩).isSome with
  | true => rw [hb] at h; exact h
  | false =>
    rw [hb, cond_false] at h
    cases hs : Nat.ble ops.size 12 with
    | true => rw [hs] at h; exact planOld_some h
    | false => rw [hs] at h; cases h
theorem vdraw_ok {call : Callee0} {rnd : Round0} (hc : CalleeOk P G call) (hrr : RoundOk P G rnd) (hm : P.follows .mixedOrders = true) {rd : Option Nat} {ro id : Nat} {ops : Array Oper} {σ : List TV} {T : VT} {D : List Nat} {Q : KX}
    (h : vdraw P G F call rnd ro ops σ T fun σ T => Q .normal σ T D) : VWx P G rd ro (.region id ops true) σ T D Q := by
  intro r g w a rw0 hG hσ hd hD hrd
  unfold vdraw at h
  cases hb : noDefers ops with
  | false => rw [hb] at h; exact h.elim
  | true =>
    rw [hb] at h
    simp only [cond_true] at h
    have hnd : ∀ (j : Nat) o, ops[j]? = some o → notDefer o.op = true := fun j o ho => by
      obtain ⟨hlt, he⟩ := Array.getElem?_eq_some_iff.1 ho
      exact List.all_eq_true.1 hb o (by rw [← he]; exact Array.mem_toList_iff.2 (Array.getElem_mem hlt))
    have old : ∀ p, planAll P ops = some p → vplan P G F call rnd ro ops T false p σ T (fun σ T => Q .normal σ T D) → (Code.region id ops true).wpIn (fenR r) 0 P (fun e a' w' => ∃ g' σ' T' D', Q e σ' T' D' ∧ Evo g w g' w' ∧ RW g' T' w' ∧ VRs g' w' σ' a'.tmps.toList ∧ a'.defers = D'.map (mk g') ∧ (∀ id ∈ D', (g'.obj id).isSome = true) ∧ Fix ro g T w T' w') a w := fun p hp h => by
      unfold planAll at hp
      split at hp
      · rename_i pl hpl
        cases hk : (Region.noSelect ops && Nat.beq pl.length ops.size && planChk ops pl (Array.replicate ops.size false)) with
        | false => rw [hk] at hp; cases hp
        | true =>
          rw [hk] at hp
          simp only [Bool.and_eq_true] at hk
          obtain ⟨⟨hns, hlen⟩, hchk⟩ := hk
          have hlen := Nat.eq_of_beq_eq_true hlen
          injection hp with hp; subst hp
          have e0 := Evo.of_gr rw0 (Gr.refl w).drew
          have f0 : Fix (min ro T.objs.length) g T w T w.drew := Fix.of_same (Same.of_gr rw0 (Gr.refl w).drew) List.take_length
          have r1 : RW g T w.drew := rw0.drew
          have key := vplan_ok (r := r) hc hrr hnd (Region.noSelect_spec hns) (Nat.min_le_left ro T.objs.length) (K := fun σ T => Q .normal σ T D) (gs := g) (Ts := T) (ws := w) (ds := a.defers)
            (QQ := fun a' w' => ∃ g' σ' T' D', Q .normal σ' T' D' ∧ Evo g w g' w' ∧ RW g' T' w' ∧ VRs g' w' σ' a'.tmps.toList ∧ a'.defers = D'.map (mk g') ∧ (∀ id ∈ D', (g'.obj id).isSome = true) ∧ Fix ro g T w T' w')
            (fun σ' T' g' w' a' hk e r' hσ' hd' hx => ⟨g', σ', T', D, hk, e, r', hσ', by rw [hd', hd, mk_evo e hD], isSome_evo e hD, hx.of_min⟩)
            pl (Array.replicate ops.size false) T false σ T hchk h g w.drew g w.drew a r1 (hG.mono e0) r1 (hσ.mono e0) rfl (Evo.refl _ _) (Same.refl _ _ _) List.take_length (fun _ => ⟨rfl, rfl, rfl⟩) e0 f0 (Nat.min_le_right _ _)
            (fun k o _ hk => absurd hk (by
              rw [Array.getD_eq_getD_getElem?, Array.getElem?_replicate]
              split <;> simp)) (by simp)
          rw [hlen] at key
          refine wpIn_mono (wpIn_region_any hm (anyIn_of_S _ _ _ _ key)) ?_
          intro e a' w' hq
          cases e <;> first | exact hq | exact hq.elim
      · cases hp
    split at h
    · rename_i p hp
      exact old p (planSel_some hp) h
    · split at h
      · rename_i p hp
        obtain ⟨hns, st, hchk⟩ := plan2All_ok hp
        have e0 := Evo.of_gr rw0 (Gr.refl w).drew
        have f0 : Fix (min ro T.objs.length) g T w T w.drew := Fix.of_same (Same.of_gr rw0 (Gr.refl w).drew) List.take_length
        have r1 : RW g T w.drew := rw0.drew
        have key := vplan2_ok (r := r) hc hrr st (K := fun σ T => Q .normal σ T D) (gs := g) (Ts := T) (ws := w) (ds := a.defers)
          (QQ := fun a' w' => ∃ g' σ' T' D', Q .normal σ' T' D' ∧ Evo g w g' w' ∧ RW g' T' w' ∧ VRs g' w' σ' a'.tmps.toList ∧ a'.defers = D'.map (mk g') ∧ (∀ id ∈ D', (g'.obj id).isSome = true) ∧ Fix ro g T w T' w')
          (fun σ' T' g' w' a' hk e r' hσ' hd' hx => ⟨g', σ', T', D, hk, e, r', hσ', by rw [hd', hd, mk_evo e hD], isSome_evo e hD, hx.of_min⟩)
          ops.size p (Array.replicate ops.size false) T [] σ T (Array.replicate ops.size false) g w.drew a (fun _ => none) hchk h (VInv.start (hσ.mono e0) r1) (hG.mono e0) rfl e0 f0 (Nat.min_le_right _ _) (by
            unfold offN
            rw [Array.toList_replicate]
            exact Nat.le_trans List.count_le_length (by simp))
        refine wpIn_mono (wpIn_region_any hm key) ?_
        intro e a' w' hq
        cases e <;> first | exact hq | exact hq.elim
      · split at h
        · rename_i p hp
          exact old p hp h
        · split at h
          · rename_i t p hl hp
            obtain ⟨ys, hys⟩ := List.getLast?_eq_some_iff.1 hl
            obtain rfl : ops = ys.toArray.push t := by
              have := congrArg List.toArray hys
              simpa using this
            have hcut : (ys.toArray.push t).toList.dropLast.toArray = ys.toArray := by simp
            rw [hcut] at hp h
            cases hb2 : (t.guard.isNone && Nat.beq (edgesM t.after.toList) (2 ^ ys.toArray.size - 1)) with
            | false => rw [hb2] at h; exact h.elim
            | true =>
              rw [hb2] at h
              simp only [cond_true] at h
              simp only [Bool.and_eq_true] at hb2
              obtain ⟨hgd, hlast⟩ := hb2
              obtain ⟨hns, st, hchk⟩ := plan2All_ok hp
              have e0 := Evo.of_gr rw0 (Gr.refl w).drew
              have f0 : Fix (min ro T.objs.length) g T w T w.drew := Fix.of_same (Same.of_gr rw0 (Gr.refl w).drew) List.take_length
              have r1 : RW g T w.drew := rw0.drew
              have key := vplan2_ok (r := r) hc hrr st (K := fun σ' T' => vopI P G F call rnd (min ro T.objs.length) t σ' T' fun σ T => Q .normal σ T D) (gs := g) (Ts := T) (ws := w) (ds := a.defers)
                (QQ := fun a' w' => wpOpIn (fenR r) 0 P (ys.toArray.push t) (calm fun a' w' => ∃ g' σ' T' D', Q .normal σ' T' D' ∧ Evo g w g' w' ∧ RW g' T' w' ∧ VRs g' w' σ' a'.tmps.toList ∧ a'.defers = D'.map (mk g') ∧ (∀ id ∈ D', (g'.obj id).isSome = true) ∧ Fix ro g T w T' w') ys.toArray.size
                  (fun a' w' => ∃ g' σ' T' D', Q .normal σ' T' D' ∧ Evo g w g' w' ∧ RW g' T' w' ∧ VRs g' w' σ' a'.tmps.toList ∧ a'.defers = D'.map (mk g') ∧ (∀ id ∈ D', (g'.obj id).isSome = true) ∧ Fix ro g T w T' w') a' w')
                (fun σ' T' g' w' a' hk e r' hσ' hd' hx => by
                  unfold wpOpIn
                  have hw : Region.wanted t (yielded (ys.toArray.push t) a'.tmps) = true := by
                    unfold Region.wanted
                    rw [Option.isNone_iff_eq_none.1 hgd]
                  simp only [Array.getElem?_push, if_true, hw]
                  exact vopI_ok hc hrr hk r g' w' a' _ _ r' (hG.mono e) hσ' fun σ'' T'' g'' w'' a'' _ hk' e' r'' hσ'' hd'' hx' => ⟨g'', σ'', T'', D, hk', e.trans e', r'', hσ'', by rw [hd'', hd', hd, mk_evo (e.trans e') hD], isSome_evo (e.trans e') hD, (hx.trans e hx').of_min⟩)
                ys.toArray.size p (Array.replicate ys.toArray.size false) T [] σ T (Array.replicate ys.toArray.size false) g w.drew a (fun _ => none) hchk h (VInv.start (hσ.mono e0) r1) (hG.mono e0) rfl e0 f0 (Nat.min_le_right _ _) (by
                  unfold offN
                  rw [Array.toList_replicate]
                  exact Nat.le_trans List.count_le_length (by simp))
              have key2 := anyIn_tail st.flow (lastOk_of hlast) _ _ _ _ (by simp) key
              refine wpIn_mono (wpIn_region_any hm (by rw [Array.size_push, replicate_push]; exact key2)) ?_
              intro e a' w' hq
              cases e <;> first | exact hq | exact hq.elim
          · exact h.elim
/-! ### Code -/
theorem VWx.here {rd : Option Nat} {ro : Nat} {c : Code} {σ : List TV} {T : VT} {D : List Nat} {Q : KX} {e : Exit} (h : Q e σ T D) (k : ∀ (F : Fence) (a : Act) w, ∀ R : Exit → Act → World → Prop, R e a w → c.wpIn F 0 P R a w) : VWx P G rd ro c σ T D Q :=
  fun r g w a rw0 hG hσ hd hD _ => k _ a w _ ⟨g, σ, T, D, h, Evo.refl g w, rw0, hσ, hd, hD, Fix.refl _ _ _ _⟩
theorem VWx.seq {rd : Option Nat} {ro : Nat} {x y : Code} {σ : List TV} {T : VT} {D : List Nat} {Q : KX} (h : VWx P G rd ro x σ T D (vthen (fun σ T D => VWx P G rd ro y σ T D Q) Q)) : VWx P G rd ro (.seq x y) σ T D Q := by
  intro r g w a rw0 hG hσ hd hD hrd
  refine wpIn_seq (wpIn_mono (h r g w a rw0 hG hσ hd hD hrd) ?_)
  rintro e a' w' ⟨g', σ', T', D', hq, e1, r', hσ', hd', hD', hx⟩
  cases e <;> first
    | exact ⟨g', σ', T', D', hq, e1, r', hσ', hd', hD', hx⟩
    | exact wpIn_mono (hq r g' w' a' r' (hG.mono e1) hσ' hd' hD' (rd_evo e1 hrd)) fun e a'' w'' ⟨g'', σ'', T'', D'', hq', e2, r2, s2, d2, dd2, x2⟩ => ⟨g'', σ'', T'', D'', hq', e1.trans e2, r2, s2, d2, dd2, hx.trans e1 x2⟩
theorem VWx.block {rd : Option Nat} {ro id : Nat} {c : Code} {σ : List TV} {T : VT} {D : List Nat} {Q : KX} (h : VWx P G rd ro c σ T D (vblock id Q)) : VWx P G rd ro (.block id c) σ T D Q := by
  intro r g w a rw0 hG hσ hd hD hrd
  refine wpIn_block (wpIn_mono (h r g w a rw0 hG hσ hd hD hrd) ?_)
  rintro e a' w' ⟨g', σ', T', D', hq, h⟩
  cases e with
  | exit id' =>
    simp only [Exit.inBlock]
    simp only [vblock] at hq
    cases hb : Nat.beq id' id with
    | true =>
      rw [hb] at hq
      rw [if_pos (Nat.eq_of_beq_eq_true hb)]; exact ⟨g', σ', T', D', hq, h⟩
    | false =>
      rw [hb] at hq
      rw [if_neg (Nat.ne_of_beq_eq_false hb)]; exact ⟨g', σ', T', D', hq, h⟩
  | normal => exact ⟨g', σ', T', D', hq, h⟩
  | goto l => exact ⟨g', σ', T', D', hq, h⟩
  | ret => exact ⟨g', σ', T', D', hq, h⟩
  | panic ch => exact ⟨g', σ', T', D', hq, h⟩
  | outgrown => exact ⟨g', σ', T', D', hq, h⟩
theorem VWx.cond {rd : Option Nat} {ro : Nat} {c : Operand} {x y : Code} {σ : List TV} {T : VT} {D : List Nat} {Q : KX} {b : Bool} (hc : vev G σ c = .val (.bool b)) (ht : b = true → VWx P G rd ro x σ T D Q) (hf : b = false → VWx P G rd ro y σ T D Q) : VWx P G rd ro (.cond c x y) σ T D Q := by
  intro r g w a rw0 hG hσ hd hD hrd
  have h1 := vev_ok hG hσ c
  rw [hc] at h1
  exact wpIn_cond_split h1.val_inv (fun h => ht h r g w a rw0 hG hσ hd hD hrd) (fun h => hf h r g w a rw0 hG hσ hd hD hrd)
section
variable {b : Frame} {a : Act} {k : List Item} {cs : List Frame} {w : World}
theorem stepR_scope {c : Code} : step P (lone (b.atR a (.code (.scope c) :: k)) cs w) = .next (lone (b.atR a (.code c :: .inScope c :: k)) cs w) :=
  step_lone_go (by simp [stepG, stepG.exec, Frame.atR])
theorem stepR_inScope {c : Code} : step P (lone (b.atR a (.inScope c :: k)) cs w) = .next (lone (b.atR a k) cs w) :=
  step_lone_go (by simp [stepG, stepG.exec, Frame.atR])
end
def noJump (Q : Exit → Act → World → Prop) : Exit → Act → World → Prop
  | .goto _, _, _ => False
  | e, a, w => Q e a w
theorem wpIn_scope_straight {F : Fence} {n : Nat} {Q : Exit → Act → World → Prop} {a : Act} {w : World} {c : Code} (h : c.wpIn F n P (noJump Q) a w) : (Code.scope c).wpIn F n P Q a w := by
  intro b k cs hro hb hr
  have h0 : (lone (b.atR a (.code (.scope c) :: k)) cs w).fenced P F := fenced_calm hb hr rfl
  obtain ⟨e, a₁, w₁, hq, harr⟩ := h b (.inScope c :: k) cs hro hb hr
  cases e with
  | normal => exact ⟨.normal, a₁, w₁, hq, .head h0 stepR_scope (StepsIn.trans harr (.one (fenced_calm hb hr rfl) stepR_inScope))⟩
  | exit id =>
    have hx : exitTo id (.inScope c :: k) = exitTo id k := by simp [exitTo]
    exact ⟨.exit id, a₁, w₁, hq, fun k' hk => .head h0 stepR_scope (harr.1 k' (by rw [hx]; exact hk)),
      fun hr' hk => let ⟨k₁, h1, h2⟩ := harr.2 hr' (by rw [hx]; exact hk); ⟨k₁, h1, .head h0 stepR_scope h2⟩⟩
  | goto l => exact hq.elim
  | ret => exact ⟨_, a₁, w₁, hq, .of_steps (.one h0 stepR_scope) harr⟩
  | panic ch => exact ⟨_, a₁, w₁, hq, .of_steps (.one h0 stepR_scope) harr⟩
  | outgrown => exact ⟨_, a₁, w₁, hq, .of_steps (.one h0 stepR_scope) harr⟩
theorem VWx.scope {rd : Option Nat} {ro : Nat} {c : Code} {σ : List TV} {T : VT} {D : List Nat} {Q : KX} (h : VWx P G rd ro c σ T D (vscope Q)) : VWx P G rd ro (.scope c) σ T D Q := by
  intro r g w a rw0 hG hσ hd hD hrd
  refine wpIn_scope_straight (wpIn_mono (h r g w a rw0 hG hσ hd hD hrd) ?_)
  rintro e a' w' ⟨g', σ', T', D', hq, h⟩
  cases e <;> first
    | exact ⟨g', σ', T', D', hq, h⟩
    | exact hq.elim
theorem VWx.loop {rd : Option Nat} {ro : Nat} {c : Code} {σ : List TV} {T : VT} {D : List Nat} {Q : KX} (I : Nat → List TV → VT → List Nat → Prop) (n : Nat) (h0 : I n σ T D)
    (round : ∀ n σ T D, I n σ T D → VWx P G rd ro c σ T D (vthen (fun σ' T' D' => ∃ n', n' < n ∧ I n' σ' T' D') Q)) : VWx P G rd ro (.loop c) σ T D Q := by
  intro r g w a rw0 hG hσ hd hD hrd
  refine wpIn_loop_ghost (fun n a' w' => ∃ g' σ' T' D', I n σ' T' D' ∧ Evo g w g' w' ∧ RW g' T' w' ∧ VRs g' w' σ' a'.tmps.toList ∧ a'.defers = D'.map (mk g') ∧ (∀ id ∈ D', (g'.obj id).isSome = true) ∧ Fix ro g T w T' w') n ⟨g, σ, T, D, h0, Evo.refl _ _, rw0, hσ, hd, hD, Fix.refl _ _ _ _⟩ ?_
  rintro m a' w' ⟨g', σ', T', D', hI, e1, r', hσ', hd', hD', hx⟩
  refine wpIn_mono (round m σ' T' D' hI r g' w' a' r' (hG.mono e1) hσ' hd' hD' (rd_evo e1 hrd)) ?_
  rintro e a'' w'' ⟨g'', σ'', T'', D'', hq, e2, r2, s2, d2, dd2, x2⟩
  cases e <;> first
    | exact ⟨g'', σ'', T'', D'', hq, e1.trans e2, r2, s2, d2, dd2, hx.trans e1 x2⟩
    | (obtain ⟨n', hn, hI'⟩ := hq; exact ⟨n', hn, g'', σ'', T'', D'', hI', e1.trans e2, r2, s2, d2, dd2, hx.trans e1 x2⟩)
/-! ### Records of loops -/
theorem setLoop_ok {g : Gh} {T : VT} {w : World} (r : RW g T w) {id b : Nat} {st : LoopState} {pend : Option Code} {σ : List TV} {ps : Array Tmp} {asg body : Code} (ho : T.objs[id]? = some (.loop st pend σ ps asg body)) (hb : g.obj id = some b) :
    ∃ rec : Loop, w.heap[b]? = some (.loop rec) ∧ rec.state = st ∧ rec.pending = pend ∧ rec.params = ps ∧ rec.assign = asg ∧ rec.body = body ∧ VRs g w σ rec.tmps.toList ∧
      ∀ st' pend', RW g (T.setLoop id st' pend' σ ps asg body) (w.putObj b (.loop { rec with state := st', pending := pend' })) ∧ Evo g w g (w.putObj b (.loop { rec with state := st', pending := pend' })) ∧
        ∀ ro, ro ≤ id → Fix ro g T w (T.setLoop id st' pend' σ ps asg body) (w.putObj b (.loop { rec with state := st', pending := pend' })) := by
  obtain ⟨b', h1, h2, h3, h4⟩ := r.obj id _ ho rfl
  rw [hb] at h1; injection h1 with h1; subst h1
  obtain ⟨us, fn, db, h5, h6⟩ := h2
  have hlt := (Array.getElem?_eq_some_iff.1 h5).1
  refine ⟨_, h5, rfl, rfl, rfl, rfl, rfl, h6, fun st' pend' => ?_⟩
  have hnew := World.putObj_heap_same (w := w) (o := .loop { state := st', pending := pend', fn := fn, tmps := us.toArray, params := ps, assign := asg, body := body, defers := db }) hlt
  have hoth : ∀ c, c ≠ b → (w.putObj b (.loop { state := st', pending := pend', fn := fn, tmps := us.toArray, params := ps, assign := asg, body := body, defers := db })).heap[c]? = w.heap[c]? := fun c hc => World.putObj_heap_other hc
  have key : ∀ (hE : ∀ w', w' = w.putObj b (.loop { state := st', pending := pend', fn := fn, tmps := us.toArray, params := ps, assign := asg, body := body, defers := db }) → Evo g w g w'), RW g (T.setLoop id st' pend' σ ps asg body) (w.putObj b (.loop { state := st', pending := pend', fn := fn, tmps := us.toArray, params := ps, assign := asg, body := body, defers := db })) ∧ Evo g w g (w.putObj b (.loop { state := st', pending := pend', fn := fn, tmps := us.toArray, params := ps, assign := asg, body := body, defers := db })) := fun hE =>
    r.setObj (o' := .loop st' pend' σ ps asg body) ho rfl hb ⟨rfl, rfl, rfl⟩ World.putObj_size hoth (by unfold csize; rw [hnew, h5]) fun _ => ⟨us, fn, db, hnew, h6.mono (hE _ rfl)⟩
  have hE := (r.setObj (o' := .gone) ho rfl hb (w' := w.putObj b (.loop { state := st', pending := pend', fn := fn, tmps := us.toArray, params := ps, assign := asg, body := body, defers := db })) ⟨rfl, rfl, rfl⟩ World.putObj_size hoth (by unfold csize; rw [hnew, h5]) fun h => by cases h).2
  obtain ⟨k1, k2⟩ := key fun w' hw => by rw [hw]; exact hE
  exact ⟨k1, k2, fun ro hr => setObj_fix r ho rfl hb hr hoth⟩
/-! ### Functions, with marks -/
theorem leaves_ok {fn : Func} {ro : Nat} {σ : List TV} {K : TV → VT → Prop} {tmps : Array Value} {g0 : Gh} {T0 : VT} {w0 : World} : ∀ (D : List Nat) (T T' : VT) (g : Gh) (w : World) (x : TV), vmarks ro D T = some T' → vresults P T' σ fn.results = some x → K x T' →
    RW g T w → VRs g w σ tmps.toList → Evo g0 w0 g w → Fix ro g0 T0 w0 T w →
    LeavesInM (fenR none) 0 P fn tmps (fun e w' => ∃ v x g' T', e = .returned v ∧ K x T' ∧ Evo g0 w0 g' w' ∧ RW g' T' w' ∧ VR g' w' x v ∧ Fix ro g0 T0 w0 T' w') (D.map (mk g)) .returning w
  | [], T, T', g, w, x, h, hr, hk, r, hσ, e, hx => by
    simp only [vmarks] at h
    injection h with h; subst h
    obtain ⟨v, h1, h2⟩ := vresults_ok (a := { tmps := tmps, defers := [] }) r hσ hr
    exact ⟨v, h2, v, x, g, T, rfl, hk, e, r, h1, hx⟩
  | id :: D, T, T', g, w, x, h, hr, hk, r, hσ, e, hx => by
    simp only [vmarks] at h
    split at h
    · rename_i ho
      cases hb : Nat.ble ro id with
      | false => rw [hb] at h; cases h
      | true =>
        rw [hb] at h
        simp only [cond_true] at h
        obtain ⟨b, h1, h2, h3, h4⟩ := r.obj id _ ho rfl
        have hlt := (Array.getElem?_eq_some_iff.1 h2).1
        have hnew := World.putObj_heap_same (w := w) (o := .deferred none) hlt
        have hoth : ∀ c, c ≠ b → (w.putObj b (.deferred none)).heap[c]? = w.heap[c]? := fun c hc => World.putObj_heap_other hc
        obtain ⟨k1, k2⟩ := r.setObj (o' := .gone) ho rfl h1 (w' := w.putObj b (.deferred none)) ⟨rfl, rfl, rfl⟩ World.putObj_size hoth (by unfold csize; rw [hnew, show w.heap[b]? = _ from h2]) fun h => by cases h
        have k3 : Fix ro g T w (T.kill id) (w.putObj b (.deferred none)) := setObj_fix r ho rfl h1 (Nat.le_of_ble_eq_true hb) hoth
        refine ⟨fun h => (by cases h), .inl ⟨b, w.putObj b (.deferred none), by simp [mk, h1], run_takeDeferred h2, ?_⟩⟩
        exact leaves_ok D (T.kill id) T' g _ x h hr hk k1 (hσ.mono k2) (e.trans k2) (hx.trans e k3)
    · cases h
theorem vleave_ok {fn : Func} {ro : Nat} {K : TV → VT → Prop} {σ : List TV} {T : VT} {D : List Nat} (h : vleave P fn ro σ T D K) : ∃ T' x, vmarks ro D T = some T' ∧ vresults P T' σ fn.results = some x ∧ K x T' := by
  unfold vleave at h
  split at h
  · rename_i T' hT
    split at h
    · rename_i x hx; exact ⟨T', x, hT, hx, h⟩
    · exact h.elim
  · exact h.elim
theorem VCx.enter {ro : Nat} {f : FuncId} {fn : Func} {c : Code} {xs : List TV} {T : VT} {K : TV → VT → Prop} (hf : P.funcs[f]? = some fn) (hb : fn.body = some c)
    (h : VWx P G none ro c (vstart fn xs) T [] (vback P fn ro K)) : VCx P G ro f xs T K := by
  intro g w us rw0 hG hx
  refine calls_of_fen (r := none) (n := 0) (callsIn_of_wp_marks hf hb trivial (wpIn_mono (h none g w _ rw0 hG ?_ rfl (fun _ h => nomatch h) rfl) ?_))
  · have e1 : (us.toArray ++ Array.replicate (fn.ntmps - us.toArray.size) undef).toList = us ++ (List.replicate (fn.ntmps - xs.length) undef) := by simp [hx.1]
    rw [e1]
    refine hx.app ?_
    have := VRs.vals g w (List.replicate (fn.ntmps - xs.length) undef)
    simpa using this
  · rintro e a' w' ⟨g', σ', T', D', hq, e1, r', hσ', hd', hD', hx'⟩
    cases e with
    | normal =>
      obtain ⟨T'', x, h1, h2, h3⟩ := vleave_ok (P := P) hq
      simp only [bodyPostM, hd']
      exact leaves_ok D' T' T'' g' w' x h1 h2 h3 r' hσ' e1 hx'
    | ret =>
      obtain ⟨T'', x, h1, h2, h3⟩ := vleave_ok (P := P) hq
      simp only [bodyPostM, hd']
      exact leaves_ok D' T' T'' g' w' x h1 h2 h3 r' hσ' e1 hx'
    | exit id => exact hq.elim
    | goto l => exact hq.elim
    | panic ch => exact hq.elim
    | outgrown => exact hq.elim
/-! ### Rounds -/
def RunOk (P : Program) (G : Globs) (run : Run0) : Prop := ∀ rd ro c σ T D K, run rd ro c σ T D K → VWx P G rd ro c σ T D K
theorem vparams_ok {g : Gh} {w : World} : ∀ (ps : List Tmp) (xs σ : List TV) (us tmps : List Value), VRs g w xs us → VRs g w σ tmps → VRs g w (vparams ps xs σ) ((ps.zip us).foldl (fun t p => t.set p.1 p.2) tmps)
  | [], xs, σ, us, tmps, hx, hσ => by simpa [vparams] using hσ
  | p :: ps, [], σ, us, tmps, hx, hσ => by
    have : us = [] := List.eq_nil_of_length_eq_zero hx.1
    subst this
    simpa [vparams] using hσ
  | p :: ps, x :: xs, σ, [], tmps, hx, hσ => by have := hx.1; simp at this
  | p :: ps, x :: xs, σ, u :: us, tmps, hx, hσ => by
    simp only [vparams, List.zip_cons_cons, List.foldl_cons]
    exact vparams_ok ps xs _ us _ ⟨by simpa using hx.1, fun j y v hy hv => hx.2 (j + 1) y v (by simpa using hy) (by simpa using hv)⟩ (hσ.set p (hx.2 0 x u rfl rfl))
theorem params_fold (ps : Array Tmp) (us : List Value) (tmps : Array Value) : ((ps.zip us.toArray).foldl (fun tmps (t, a) => tmps.setIfInBounds t a) tmps).toList = (ps.toList.zip us).foldl (fun t p => t.set p.1 p.2) tmps.toList := by
  rw [← Array.foldl_toList]
  simp only [Array.toList_zip]
  generalize ps.toList.zip us = l
  induction l generalizing tmps with
  | nil => rfl
  | cons p l ih => simp only [List.foldl_cons]; rw [ih]; simp
theorem vroundEnd_ok {ro id : Nat} {st : LoopState} {pend : Option Code} {T : VT} {K : VT → Prop} (h : vroundEnd ro id st pend T K) : ∃ st0 pend0 σ ps asg body, T.objs[id]? = some (.loop st0 pend0 σ ps asg body) ∧ ro ≤ id ∧ K (T.setLoop id st pend σ ps asg body) := by
  unfold vroundEnd at h
  split at h
  · rename_i st0 pend0 σ ps asg body ho
    cases hb : Nat.ble ro id with
    | false => rw [hb] at h; exact h.elim
    | true => rw [hb] at h; exact ⟨_, _, _, _, _, _, ho, Nat.le_of_ble_eq_true hb, h⟩
  · exact h.elim
theorem vround_ok {run : Run0} (hrun : RunOk P G run) : RoundOk P G (vround run) := by
  intro ro id xs T K h g w us rw0 hG hxs
  unfold vround at h
  split at h
  · rename_i σ ps asg body ho
    cases hb : (Nat.ble ro id && Nat.beq ps.size xs.length) with
    | false => rw [hb] at h; exact h.elim
    | true =>
      rw [hb] at h
      simp only [Bool.and_eq_true] at hb
      obtain ⟨hro, hsz⟩ := hb
      have hro := Nat.le_of_ble_eq_true hro
      have hsz := Nat.eq_of_beq_eq_true hsz
      simp only [cond_true] at h
      obtain ⟨b, hgb, _⟩ := rw0.obj id _ ho rfl
      obtain ⟨rec, h1, h2, h3, h4, h5, h6, h7, _⟩ := setLoop_ok rw0 ho hgb
      refine ⟨b, _, _, _, _, hgb, run_yield h1 (by rw [h4]; simpa [hxs.1] using hsz.symm), ?_⟩
      rw [h4, h5, h6]
      refine roundIn_of_wpIn (F := Fence.wide) trivial ?_
      refine wpIn_mono (hrun _ _ _ _ _ _ _ h (some b) g w { tmps := _, defers := [] } rw0 hG ?_ rfl (fun _ h => nomatch h) ⟨rfl, hgb⟩) ?_
      · simp only
        rw [params_fold]
        exact vparams_ok _ _ _ _ _ hxs h7
      · rintro e a' w' ⟨g', σ', T', D', hq, e1, r', hσ', hd', hD', hx'⟩
        cases e with
        | normal =>
          simp only at hq
          split at hq
          · rename_i σ2 ps2 asg2 body2 ho2
            have hgb' := e1.obj id b hgb
            obtain ⟨rec2, k1, k2, k3, k4, k5, k6, k7, k8⟩ := setLoop_ok r' ho2 hgb'
            obtain ⟨m1, m2, m3⟩ := k8 .busy none
            have hrec : ({ rec2 with state := .busy } : Loop) = { rec2 with state := .busy, pending := none } := by
              rw [← k3]
            refine ⟨_, run_beginRound k1 k2, ?_⟩
            rw [hrec]
            refine wpIn_mono (hrun _ _ _ _ _ _ _ hq (some b) g' _ a' m1 ((hG.mono e1).mono m2) (hσ'.mono m2) hd' hD' ⟨rfl, hgb'⟩) ?_
            have fx := hx'.trans e1 (m3 ro hro)
            rintro e a2 w2 ⟨g2, σ2', T2, D2, hq2, e2, r2, hσ2, hd2, hD2, hx2⟩
            have hgb2 := e2.obj id b hgb'
            have ee := (e1.trans m2).trans e2
            have ff := fx.trans (e1.trans m2) hx2
            have fin : ∀ (st : LoopState) (pend : Option Code) (y : TV) (v : Value) (vd : VR g2 w2 y v), vroundEnd ro id st pend T2 (fun T => K y T) → st = (if pend.isNone then .ready else .done) → v = .bool pend.isNone →
                ∃ v' w', (Instr.endRound b pend).run P w2 = .ok v' w' ∧ ∃ v x g' T', (Ending.returned v' = .returned v) ∧ K x T' ∧ Evo g w g' w' ∧ RW g' T' w' ∧ VR g' w' x v ∧ Fix ro g T w T' w' := by
              intro st pend y v vd hv hst hvv
              obtain ⟨st0, pend0, σ3, ps3, asg3, body3, n1, n2, n3⟩ := vroundEnd_ok hv
              obtain ⟨rec3, p1, p2, p3, p4, p5, p6, p7, p8⟩ := setLoop_ok r2 n1 hgb2
              obtain ⟨q1, q2, q3⟩ := p8 st pend
              refine ⟨_, _, run_endRound pend p1, v, y, g2, _, by rw [hvv], n3, ?_⟩
              rw [← hst]
              exact ⟨ee.trans q2, q1, vd.mono q2, ff.trans ee (q3 ro hro)⟩
            cases e with
            | normal => exact fin .ready none _ _ (.val (.bool true)) hq2 rfl rfl
            | ret => exact fin .done (some .ret) _ _ (.val (.bool false)) hq2 rfl rfl
            | exit i => exact fin .done (some (.exit i)) _ _ (.val (.bool false)) hq2 rfl rfl
            | goto l => exact hq2.elim
            | panic ch => exact hq2.elim
            | outgrown => exact hq2.elim
          · exact hq.elim
        | ret => exact hq.elim
        | exit i => exact hq.elim
        | goto l => exact hq.elim
        | panic ch => exact hq.elim
        | outgrown => exact hq.elim
  · exact h.elim
/-! ### A range over a function -/
theorem vrangeEnd_ok {ro id : Nat} {σ : List TV} {D : List Nat} {K : KX} {T : VT} (h : vrangeEnd ro id σ D K T) : ∃ st pend σ' ps asg body e, T.objs[id]? = some (.loop st pend σ' ps asg body) ∧ ro ≤ id ∧ K e σ (T.setLoop id .exhausted pend σ' ps asg body) D ∧ st ≠ .busy ∧
    ((pend = none ∧ e = .normal) ∨ (pend = some .ret ∧ e = .ret) ∨ ∃ x, pend = some (.exit x) ∧ e = .exit x) := by
  unfold vrangeEnd at h
  split at h
  · rename_i ho
    cases hb : Nat.ble ro id with
    | false => rw [hb] at h; exact h.elim
    | true => rw [hb] at h; exact ⟨_, _, _, _, _, _, _, ho, Nat.le_of_ble_eq_true hb, h, (fun h => by cases h), .inl ⟨rfl, rfl⟩⟩
  · rename_i ho
    cases hb : Nat.ble ro id with
    | false => rw [hb] at h; exact h.elim
    | true => rw [hb] at h; exact ⟨_, _, _, _, _, _, _, ho, Nat.le_of_ble_eq_true hb, h, (fun h => by cases h), .inr (.inl ⟨rfl, rfl⟩)⟩
  · rename_i ho
    cases hb : Nat.ble ro id with
    | false => rw [hb] at h; exact h.elim
    | true => rw [hb] at h; exact ⟨_, _, _, _, _, _, _, ho, Nat.le_of_ble_eq_true hb, h, (fun h => by cases h), .inr (.inr ⟨_, rfl, rfl⟩)⟩
  · exact h.elim
theorem rangePost_ok {r : Option Nat} {ro id b : Nat} {σ : List TV} {D : List Nat} {K : KX} {T' : VT} (h : vrangeEnd ro id σ D K T') {g0 : Gh} {T0 : VT} {w0 : World} {g' : Gh} {w' : World} {a' : Act} (r' : RW g' T' w') (hb : g'.obj id = some b) (e1 : Evo g0 w0 g' w') (hx : Fix ro g0 T0 w0 T' w')
    (hσ : VRs g' w' σ a'.tmps.toList) (hd : a'.defers = D.map (mk g')) (hD : ∀ id ∈ D, (g'.obj id).isSome = true) (v : Value) :
    rangePost (fenR r) 0 P b (fun e a' w' => ∃ g' σ' T' D', K e σ' T' D' ∧ Evo g0 w0 g' w' ∧ RW g' T' w' ∧ VRs g' w' σ' a'.tmps.toList ∧ a'.defers = D'.map (mk g') ∧ (∀ id ∈ D', (g'.obj id).isSome = true) ∧ Fix ro g0 T0 w0 T' w') a' (.returned v) w' := by
  obtain ⟨st, pend, σ', ps, asg, body, e, n1, n2, n3, n4, n5⟩ := vrangeEnd_ok h
  obtain ⟨rec3, p1, p2, p3, p4, p5, p6, p7, p8⟩ := setLoop_ok r' n1 hb
  obtain ⟨q1, q2, q3⟩ := p8 .exhausted pend
  have hrec : ({ rec3 with state := .exhausted } : Loop) = { rec3 with state := .exhausted, pending := pend } := by rw [← p3]
  refine ⟨_, _, run_endLoop p1 (by rw [p2]; exact n4), ?_⟩
  rw [hrec, p3]
  have fin : ∃ g'' σ'' T'' D'', K e σ'' T'' D'' ∧ Evo g0 w0 g'' (w'.putObj b (.loop { rec3 with state := .exhausted, pending := pend })) ∧ RW g'' T'' (w'.putObj b (.loop { rec3 with state := .exhausted, pending := pend })) ∧ VRs g'' (w'.putObj b (.loop { rec3 with state := .exhausted, pending := pend })) σ'' a'.tmps.toList ∧ a'.defers = D''.map (mk g'') ∧ (∀ id ∈ D'', (g''.obj id).isSome = true) ∧ Fix ro g0 T0 w0 T'' (w'.putObj b (.loop { rec3 with state := .exhausted, pending := pend })) :=
    ⟨g', σ, _, D, n3, e1.trans q2, q1, hσ.mono q2, hd, hD, hx.trans e1 (q3 ro n2)⟩
  rcases n5 with ⟨rfl, rfl⟩ | ⟨rfl, rfl⟩ | ⟨x, rfl, rfl⟩
  · exact fin
  · exact wpIn_ret fin
  · exact wpIn_exit fin
theorem take_app {α : Type} (l m : List α) : (l ++ m).take l.length = l := by simp
theorem args_eq (us vs : List Value) (y : Value) : (us.toArray ++ #[y]) ++ vs.toArray = (us ++ [y] ++ vs).toArray := by simp
theorem run_resolve {a : Act} {f : Operand} {l : Nat} {fi : FuncId} {us vs : List Value} (h : a.eval f = .func (.func fi) us.toArray vs.toArray) (w : World) :
    (resolve a.eval (rangeCall f l) 0).run P w = .ok { target := .fn (.func fi) vs.toArray, args := us.toArray ++ #[.func (.yield l) #[] #[]] } w := by
  have hc : a.eval (.const (.func (.yield l) #[] #[])) = .func (.yield l) #[] #[] := rfl
  simp [resolve, h, hc, Deferred.ofValue]
theorem run_invoke {fi : FuncId} {fn : Func} {args vs : Array Value} (hfn : P.funcs[fi]? = some fn) (hb : fn.body.isSome = true) (hnm : (fn.name == "runtime.NumGoroutine") = false) (w : World) :
    (invoke (.fn (.func fi) vs) args).run P w = .ok (.enter fi (args ++ vs)) w := by
  have hb' : fn.body ≠ none := by intro h; rw [h] at hb; cases hb
  have hnm' : fn.name ≠ "runtime.NumGoroutine" := by simpa using hnm
  simp [invoke, callFunc, hfn, hnm', hb']
theorem VWx.range0 {ro : Nat} {f : Operand} {ps : Array Tmp} {asg body : Code} {σ : List TV} {T : VT} {D : List Nat} {K : KX} {fi : FuncId} {fn : Func} {first ca : List TV} (hf : vev G σ f = .fn (.func fi) first ca)
    (hfn : P.funcs[fi]? = some fn) (hb : fn.body.isSome = true) (hnm : (fn.name == "runtime.NumGoroutine") = false)
    (hc : VCx P G ro fi (first ++ [.yld (T.objs.length + 1)] ++ ca) { T with objs := T.objs ++ [.defd] ++ [.loop .ready none σ ps asg body] } fun _ T' => vrangeEnd ro (T.objs.length + 1) σ (T.objs.length :: D) K T') :
    VWx P G none ro (.rangeFunc f ps asg body) σ T D K := by
  intro r g w a rw0 hG hσ hd hD hrd
  have hrd : r = none := hrd
  subst hrd
  have hv := vev_ok hG hσ f
  rw [hf] at hv
  obtain ⟨us, vs, h2, h3, h4⟩ := hv.fn_inv
  refine wpIn_rangeFunc fun fd _ => ?_
  obtain ⟨g1, r1, e1, ho1, _⟩ := rw0.new (.deferred (some [])) (o := .defd) rfl (World.alloc_heap_new _ _)
  have hE := Evo.of_gr r1 ((Gr.refl (w.alloc (.deferred (some [])))).alloc (.loop { state := .ready, pending := none, fn := fd, tmps := a.tmps, params := ps, assign := asg, body := body, defers := w.heap.size }))
  obtain ⟨g2, r2, e2, ho2, _⟩ := r1.new (.loop { state := .ready, pending := none, fn := fd, tmps := a.tmps, params := ps, assign := asg, body := body, defers := w.heap.size }) (o := .loop .ready none σ ps asg body) rfl
    ⟨a.tmps.toList, fd, w.heap.size, World.alloc_heap_new _ _, hσ.mono (e1.trans hE)⟩
  have ee := e1.trans e2
  have hl : (w.alloc (.deferred (some []))).heap.size = w.heap.size + 1 := World.size_alloc ..
  have hl2 : ({ T with objs := T.objs ++ [.defd] } : VT).objs.length = T.objs.length + 1 := by simp
  rw [hl, hl2] at ho2
  have ho1' := e2.obj _ _ ho1
  have f1 : Fix ro g T w { T with objs := T.objs ++ [.defd] ++ [.loop .ready none σ ps asg body] } ((w.alloc (.deferred (some []))).alloc (.loop { state := .ready, pending := none, fn := fd, tmps := a.tmps, params := ps, assign := asg, body := body, defers := w.heap.size })) :=
    Fix.of_same (Same.of_gr rw0 (((Gr.refl w).alloc _).alloc _)) (by simp only [List.append_assoc]; exact take_app _ _)
  refine ⟨w.heap.size + 1, [{ target := .collected w.heap.size, args := #[] }], _, _, _, fi, _, _, run_enterLoop_outer fd a.tmps ps asg body, run_resolve h2 _, fun _ _ => trivial, run_invoke hfn hb hnm _, fun h => (by cases h), ?_⟩
  have hargs : VRs g2 _ (first ++ [.yld (T.objs.length + 1)] ++ ca) (us ++ [.func (.yield (w.heap.size + 1)) #[] #[]] ++ vs) := ((h3.mono ee).app (VRs.cons (.yld ho2) (VRs.nil _ _))).app (h4.mono ee)
  have hcall := hc g2 _ _ r2 (hG.mono ee) hargs
  have ha : (us.toArray ++ #[Value.func (.yield (w.heap.size + 1)) #[] #[]]) ++ vs.toArray = (us ++ [Value.func (.yield (w.heap.size + 1)) #[] #[]] ++ vs).toArray := args_eq us vs _
  rw [ha]
  refine callsIn_fen (Calls.mono hcall ?_)
  rintro e w' ⟨v, x, g', T', rfl, hq, e3, r', hv, hx⟩
  have eE := ee.trans e3
  refine rangePost_ok (a' := { tmps := a.tmps, defers := [{ target := .collected w.heap.size, args := #[] }] ++ a.defers }) hq r' (e3.obj _ _ ho2) eE (f1.trans ee hx) (hσ.mono eE) ?_ ?_ v
  · show [_] ++ a.defers = _
    rw [hd, List.map_cons, mk_evo eE hD]
    simp [mk, e3.obj _ _ ho1']
  · intro id hid
    rcases List.mem_cons.1 hid with rfl | hid
    · rw [e3.obj _ _ ho1']; rfl
    · exact isSome_evo eE hD id hid
theorem VWx.range1 {i0 ro : Nat} {f : Operand} {ps : Array Tmp} {asg body : Code} {σ : List TV} {T : VT} {D : List Nat} {K : KX} {fi : FuncId} {fn : Func} {first ca : List TV} {st0 : LoopState} {pend0 : Option Code} {σ0 : List TV} {ps0 : Array Tmp} {asg0 body0 : Code}
    (hf : vev G σ f = .fn (.func fi) first ca) (hlp : T.objs[i0]? = some (.loop st0 pend0 σ0 ps0 asg0 body0))
    (hfn : P.funcs[fi]? = some fn) (hb : fn.body.isSome = true) (hnm : (fn.name == "runtime.NumGoroutine") = false)
    (hc : VCx P G ro fi (first ++ [.yld T.objs.length] ++ ca) { T with objs := T.objs ++ [.loop .ready none σ ps asg body] } fun _ T' => vrangeEnd ro T.objs.length σ D K T') :
    VWx P G (some i0) ro (.rangeFunc f ps asg body) σ T D K := by
  intro r g w a rw0 hG hσ hd hD hrd
  obtain ⟨hr1, hr2⟩ := hrd
  obtain ⟨b0, rfl⟩ := Option.isSome_iff_exists.1 hr1
  obtain ⟨rec0, k1, _⟩ := setLoop_ok rw0 hlp hr2
  have hv := vev_ok hG hσ f
  rw [hf] at hv
  obtain ⟨us, vs, h2, h3, h4⟩ := hv.fn_inv
  refine wpIn_rangeFunc fun fd _ => ?_
  have hE := Evo.of_gr rw0 ((Gr.refl w).alloc (.loop { state := .ready, pending := none, fn := fd, tmps := a.tmps, params := ps, assign := asg, body := body, defers := rec0.defers }))
  obtain ⟨g2, r2, ee, ho2, _⟩ := rw0.new (.loop { state := .ready, pending := none, fn := fd, tmps := a.tmps, params := ps, assign := asg, body := body, defers := rec0.defers }) (o := .loop .ready none σ ps asg body) rfl
    ⟨a.tmps.toList, fd, rec0.defers, World.alloc_heap_new _ _, hσ.mono hE⟩
  have f1 : Fix ro g T w { T with objs := T.objs ++ [.loop .ready none σ ps asg body] } (w.alloc (.loop { state := .ready, pending := none, fn := fd, tmps := a.tmps, params := ps, assign := asg, body := body, defers := rec0.defers })) :=
    Fix.of_same (Same.of_gr rw0 ((Gr.refl w).alloc _)) (take_app _ _)
  refine ⟨w.heap.size, [], _, _, _, fi, _, _, run_enterLoop_inner k1 fd a.tmps ps asg body, run_resolve h2 _, fun _ _ => trivial, run_invoke hfn hb hnm _, fun h => (by cases h), ?_⟩
  have hargs : VRs g2 _ (first ++ [.yld T.objs.length] ++ ca) (us ++ [.func (.yield w.heap.size) #[] #[]] ++ vs) := ((h3.mono ee).app (VRs.cons (.yld ho2) (VRs.nil _ _))).app (h4.mono ee)
  have hcall := hc g2 _ _ r2 (hG.mono ee) hargs
  have ha : (us.toArray ++ #[Value.func (.yield w.heap.size) #[] #[]]) ++ vs.toArray = (us ++ [Value.func (.yield w.heap.size) #[] #[]] ++ vs).toArray := args_eq us vs _
  rw [ha]
  refine callsIn_fen (Calls.mono hcall ?_)
  rintro e w' ⟨v, x, g', T', rfl, hq, e3, r', hv, hx⟩
  have eE := ee.trans e3
  refine rangePost_ok (a' := { tmps := a.tmps, defers := [] ++ a.defers }) hq r' (e3.obj _ _ ho2) eE (f1.trans ee hx) (hσ.mono eE) ?_ (isSome_evo eE hD) v
  show [] ++ a.defers = _
  rw [hd, mk_evo eE hD]; rfl
/-! ### All of it -/
/-- what is known of functions -/
def SpecsOk (P : Program) (G : Globs) (C : FuncId → Option Spec) : Prop := ∀ f W, C f = some W → ∀ ro xs T K, W ro xs T K → VCx P G ro f xs T K
/-- no function with a body is the scheduler's count -/
def bodiesOk (P : Program) : Bool := P.funcs.toList.all fun fn => !fn.body.isSome || !(fn.name == "runtime.NumGoroutine")
theorem callee_ok {C : FuncId → Option Spec} (hB : bodiesOk P = true) (hC : SpecsOk P G C) {run : Run0} (hrun : RunOk P G run) : CalleeOk P G (vcallee P C run) := by
  intro ro f xs T K h
  unfold vcallee at h
  split at h
  · rename_i fn hf
    split at h
    · rename_i c hc
      have hnm : (fn.name == "runtime.NumGoroutine") = false := by
        have hmem : fn ∈ P.funcs.toList := by
          obtain ⟨hlt, he⟩ := Array.getElem?_eq_some_iff.1 hf
          rw [← he]; exact Array.mem_toList_iff.2 (Array.getElem_mem hlt)
        have := List.all_eq_true.1 hB fn hmem
        simpa [hc] using this
      refine ⟨fn, hf, by rw [hc]; rfl, hnm, ?_⟩
      split at h
      · rename_i W hW
        exact hC f W hW ro xs T K h
      · exact VCx.enter hf hc (hrun _ _ _ _ _ _ _ h)
    · exact h.elim
  · exact h.elim
/-- what is known of blocks is so -/
def LsOk (P : Program) (G : Globs) (L : Nat → Option (LSpec × Code)) : Prop := ∀ id W c, L id = some (W, c) → ∀ rd ro σ T D K, W rd ro σ T D K → VWx P G rd ro c σ T D K
theorem lsOk_none : LsOk P G fun _ => none := fun _ _ _ h => by cases h
theorem vx_ok {C : FuncId → Option Spec} (hm : P.follows .mixedOrders = true) (hB : bodiesOk P = true) (hC : SpecsOk P G C) :
    ∀ n m, m ≤ n → ∀ F L, LsOk P G L → RunOk P G (vx P G C F m L)
  | _, 0, _, _, _, _, _, _, _, _, _, _, _, h => by simp only [vx] at h; exact h.elim
  | 0, m + 1, hle, _, _, _, _, _, _, _, _, _, _, _ => by omega
  | n + 1, m + 1, hle, F, L, hL, rd, ro, c, σ, T, D, K, h => by
    have ih := fun m hm0 => vx_ok hm hB hC n m hm0 F L hL
    have ih0 := fun m hm0 => vx_ok hm hB hC n m hm0 noOra (fun _ => none) lsOk_none
    have hcal : CalleeOk P G (vcallee P C (vx P G C noOra m fun _ => none)) := callee_ok hB hC (ih0 m (by omega))
    have hrnd : RoundOk P G (vround (vx P G C noOra m fun _ => none)) := vround_ok (ih0 m (by omega))
    unfold vx at h
    cases c with
    | skip => exact VWx.here (e := .normal) h fun F a w R hr => wpIn_skip hr
    | exit id => exact VWx.here (e := .exit id) h fun F a w R hr => wpIn_exit hr
    | ret => exact VWx.here (e := .ret) h fun F a w R hr => wpIn_ret hr
    | seq a b =>
      refine VWx.seq ((ih m (by omega) _ _ _ _ _ _ _ h).mono fun e σ T D hq => ?_)
      cases e <;> first
        | exact ih m (by omega) _ _ _ _ _ _ _ hq
        | exact hq
    | cond c x y =>
      simp only at h
      split at h
      · rename_i b hb
        refine VWx.cond hb (fun hbt => ?_) (fun hbf => ?_)
        · subst hbt; exact ih m (by omega) _ _ _ _ _ _ _ h
        · subst hbf; exact ih m (by omega) _ _ _ _ _ _ _ h
      · exact h.elim
    | block id c =>
      simp only at h
      split at h
      · rename_i W c' hW
        obtain ⟨rfl, h⟩ := h
        exact hL _ _ _ hW rd ro σ T D K h
      · exact VWx.block (ih m (by omega) _ _ _ _ _ _ _ h)
    | scope c => exact VWx.scope (ih m (by omega) _ _ _ _ _ _ _ h)
    | loop c =>
      refine VWx.loop (fun k σ T D => k ≤ m + 1 ∧ vx P G C F k L rd ro (.loop c) σ T D K) (m + 1) ⟨Nat.le_refl _, by unfold vx; exact h⟩ ?_
      rintro k σ T D ⟨hk, h⟩
      cases k with
      | zero => simp only [vx] at h; exact h.elim
      | succ j =>
        unfold vx at h
        refine (ih j (by omega) _ _ _ _ _ _ _ h).mono fun e σ T D hq => ?_
        cases e <;> first
          | exact ⟨j, by omega, by omega, hq⟩
          | exact hq
    | region id ops d =>
      simp only at h
      split at h
      · rename_i W c' hW
        obtain ⟨rfl, h⟩ := h
        exact hL _ _ _ hW rd ro σ T D K h
      · cases d with
        | false => exact vregion_ok (Q := K) hcal hrnd h
        | true => exact vdraw_ok (Q := K) hcal hrnd hm h
    | rangeFunc f ps a b =>
      simp only at h
      split at h
      · rename_i fi first ca hf
        cases rd with
        | none =>
          obtain ⟨fn, h1, h2, h3, h4⟩ := hcal _ _ _ _ _ h
          exact VWx.range0 hf h1 h2 h3 h4
        | some i0 =>
          simp only at h
          split at h
          · rename_i hlp
            obtain ⟨fn, h1, h2, h3, h4⟩ := hcal _ _ _ _ _ h
            exact VWx.range1 hf hlp h1 h2 h3 h4
          · exact h.elim
      · exact h.elim
    | label l => exact VWx.here (e := .normal) h fun F a w R hr => wpIn_label hr
    | goto l => exact h.elim
    | refuse why => exact h.elim
/-- a call, reckoned, is so -/
theorem vcallF_ok {C : FuncId → Option Spec} (hm : P.follows .mixedOrders = true) (hB : bodiesOk P = true) (hC : SpecsOk P G C) {F : Ora} {n : Nat} {L : Nat → Option (LSpec × Code)} (hL : LsOk P G L) {ro : Nat} {f : FuncId} {xs : List TV} {T : VT} {K : TV → VT → Prop}
    (h : vcallF P G C F n L ro f xs T K) : VCx P G ro f xs T K := by
  unfold vcallF at h
  split at h
  · rename_i fn hf
    split at h
    · rename_i c hc
      exact VCx.enter hf hc (vx_ok hm hB hC n n (Nat.le_refl _) _ _ hL _ _ _ _ _ _ _ h)
    · exact h.elim
  · exact h.elim
theorem vcall_ok {C : FuncId → Option Spec} (hm : P.follows .mixedOrders = true) (hB : bodiesOk P = true) (hC : SpecsOk P G C) {n : Nat} {L : Nat → Option (LSpec × Code)} (hL : LsOk P G L) {ro : Nat} {f : FuncId} {xs : List TV} {T : VT} {K : TV → VT → Prop}
    (h : vcall P G C n L ro f xs T K) : VCx P G ro f xs T K := vcallF_ok hm hB hC hL (F := noOra) h
/-- nothing is known of functions -/
theorem specsOk_none : SpecsOk P G fun _ => none := fun _ _ h => by cases h
end
end Go.Proofs.Ytgconkbnokbinaa

/- Loops and contracts for the evaluator: a block by its number, what is behind a round, a contract within a greater T. For any program. -/
namespace Go.Proofs.Ytgconkbnokbinaa
open Go.RowKit

section
variable {P : Program} {G : Globs}
/-! ### Blocks by number -/
def findBlock (id : Nat) : Code → Option Code
  | .block i c => bif Nat.beq i id then some (.block i c) else findBlock id c
  | .seq a b => match findBlock id a with
    | some c => some c
    | none => findBlock id b
  | .cond _ a b => match findBlock id a with
    | some c => some c
    | none => findBlock id b
  | .loop c => findBlock id c
  | .scope c => findBlock id c
  | .rangeFunc _ _ a b => match findBlock id a with
    | some c => some c
    | none => findBlock id b
  | _ => none
def bodyAt (P : Program) (f : FuncId) : Code := match P.funcs[f]? with
  | some fn => fn.body.getD .skip
  | none => .skip
def codeAt (P : Program) (f : FuncId) (id : Nat) : Code := (findBlock id (bodyAt P f)).getD .skip
def insideLoop : Code → Code
  | .block _ (.loop c) => c
  | _ => .skip
def loopAt (P : Program) (f : FuncId) (id : Nat) : Code := insideLoop (codeAt P f id)
def isLoopBlock (id : Nat) : Code → Bool
  | .block i (.loop _) => Nat.beq i id
  | _ => false
theorem isLoopBlock_ok {id : Nat} {c : Code} (h : isLoopBlock id c = true) : c = .block id (.loop (insideLoop c)) := by
  unfold isLoopBlock at h
  split at h
  · rw [Nat.eq_of_beq_eq_true h]; rfl
  · cases h

/-! ### What is known of slots, weakened -/
def LEs : List TV → List (Option TV) → Prop
  | [], [] => True
  | _ :: l, none :: m => LEs l m
  | x :: l, some y :: m => x = y ∧ LEs l m
  | _, _ => False
def slots (m : List (Option TV)) : List TV := m.map fun o => o.getD .dead
theorem LEs.ok {g : Gh} {w : World} : ∀ {σ : List TV} {m : List (Option TV)} {us : List Value}, LEs σ m → VRs g w σ us → VRs g w (slots m) us
  | [], [], us, _, h => h
  | x :: l, none :: m, us, k, h => by
    match us, h with
    | [], h => have := h.1; simp at this
    | u :: us, h =>
      have h1 : VRs g w l us := ⟨by have := h.1; simpa using this, fun j y v hy hv => h.2 (j + 1) y v (by simpa using hy) (by simpa using hv)⟩
      exact VRs.cons (.dead u) (LEs.ok (show LEs l m from k) h1)
  | x :: l, some y :: m, us, k, h => by
    obtain ⟨rfl, k⟩ := k
    match us, h with
    | [], h => have := h.1; simp at this
    | u :: us, h =>
      have h1 : VRs g w l us := ⟨by have := h.1; simpa using this, fun j y v hy hv => h.2 (j + 1) y v (by simpa using hy) (by simpa using hv)⟩
      exact VRs.cons (h.2 0 x u rfl rfl) (LEs.ok k h1)
  | [], _ :: _, _, k, _ => k.elim
  | x :: l, [], _, k, _ => k.elim
theorem VWx.sub {rd : Option Nat} {ro : Nat} {c : Code} {σ σ' : List TV} {T : VT} {D : List Nat} {Q : KX} (h : VWx P G rd ro c σ' T D Q) (hs : ∀ g w us, VRs g w σ us → VRs g w σ' us) : VWx P G rd ro c σ T D Q :=
  fun r g w a rw0 hG hσ => h r g w a rw0 hG (hs _ _ _ hσ)

/-! ### Loops -/
/-- behind a round: the state of another one, that is nearer to the end; (or) what the round has made is forgotten -/
def vnextS {ι : Type} (μ : ι → Nat) (sl : ι → List (Option TV)) (tt : ι → VT) (Inv : ι → Prop) (N M : Nat) (s : ι) (σ : List TV) (T : VT) : Prop :=
  ∃ s', Inv s' ∧ μ s' < μ s ∧ ((T = tt s' ∧ LEs σ (sl s')) ∨ (T.keep N M = tt s' ∧ LEs (renL (Go.Proofs.Ytgconkbnokbinaa.keep N) (Go.Proofs.Ytgconkbnokbinaa.keep M) σ) (sl s')))
theorem VWx.loopS {ι : Type} {rd : Option Nat} {c : Code} {D : List Nat} {Q : KX} (μ : ι → Nat) (sl : ι → List (Option TV)) (tt : ι → VT) (Inv : ι → Prop) (N M : Nat) (hN : ∀ s, Inv s → (tt s).objs.length ≤ N ∧ (tt s).tails.length ≤ M) (hD : ∀ id ∈ D, id < N)
    (hbody : ∀ s, Inv s → VWx P G rd 0 c (slots (sl s)) (tt s) D (vthen (fun σ T D' => D' = D ∧ vnextS μ sl tt Inv N M s σ T) Q)) :
    ∀ s, Inv s → VWx P G rd 0 (.loop c) (slots (sl s)) (tt s) D Q := by
  intro s0 hs0
  refine VWx.loop (fun n σ T D' => ∃ s, Inv s ∧ μ s = n ∧ σ = slots (sl s) ∧ T = tt s ∧ D' = D) (μ s0) ⟨s0, hs0, rfl, rfl, rfl, rfl⟩ ?_
  rintro n σ T D' ⟨s, hs, rfl, rfl, rfl, rfl⟩
  intro r g w a rw0 hG hσ hd hDs hrd
  refine wpIn_mono (hbody s hs r g w a rw0 hG hσ hd hDs hrd) ?_
  rintro e a' w' ⟨g', σ', T', D'', hq, e', r', hσ', hd', hDs', hx⟩
  cases e <;> first
    | exact ⟨g', σ', T', D'', hq, e', r', hσ', hd', hDs', hx⟩
    | (obtain ⟨rfl, s', hs', hlt, ⟨rfl, hle⟩ | ⟨hT, hle⟩⟩ := hq
       · exact ⟨g', _, _, _, ⟨_, hlt, s', hs', rfl, rfl, rfl, rfl⟩, e', r', hle.ok hσ', hd', hDs', hx⟩
       · have hdk : ∀ id ∈ D'', (g'.keep N M).obj id = g'.obj id := fun id hid => by simp [Gh.keep, hD id hid]
         refine ⟨g'.keep N M, _, tt s', D'', ⟨_, hlt, s', hs', rfl, rfl, rfl, rfl⟩, e'.keep rw0 (hN s hs).1 (hN s hs).2, hT ▸ r'.keep N M, hle.ok (hσ'.ren (keep_ren g' N M)), ?_, ?_, ?_⟩
         · rw [hd']
           apply List.map_congr_left
           intro id hid
           simp only [mk, hdk id hid]
         · intro id hid
           rw [hdk id hid]; exact hDs' id hid
         · refine ⟨?_, fun i hi => absurd hi (Nat.not_lt_zero i), fun i o b hi => absurd hi (Nat.not_lt_zero i)⟩
           rw [← hT]
           simp only [VT.keep, List.length_map, List.length_take]
           have h1 := hx.len
           have h2 := (hN s hs).1
           omega)
/-- a block that is a loop -/
theorem VWx.blockS {ι : Type} {rd : Option Nat} {f : FuncId} {id : Nat} {D : List Nat} {Q : KX} (hc : isLoopBlock id (codeAt P f id) = true) (μ : ι → Nat) (sl : ι → List (Option TV)) (tt : ι → VT) (Inv : ι → Prop) (N M : Nat) (hN : ∀ s, Inv s → (tt s).objs.length ≤ N ∧ (tt s).tails.length ≤ M) (hD : ∀ id ∈ D, id < N)
    (hbody : ∀ s, Inv s → VWx P G rd 0 (loopAt P f id) (slots (sl s)) (tt s) D (vthen (fun σ T D' => D' = D ∧ vnextS μ sl tt Inv N M s σ T) (vblock id Q))) :
    ∀ s, Inv s → VWx P G rd 0 (codeAt P f id) (slots (sl s)) (tt s) D Q := by
  intro s hs
  rw [isLoopBlock_ok hc]
  exact VWx.block (VWx.loopS μ sl tt Inv N M hN hD hbody s hs)
/-- what a function's evaluation says of a loop: it stands at the state s0; R: what the loop leaves -/
def loopW {ι : Type} (sl : ι → List (Option TV)) (tt : ι → VT) (s0 : ι) (R : KX → Prop) : LSpec := fun rd ro σ T D K => (rd = none ∧ ro = 0 ∧ D = [] ∧ T = tt s0 ∧ LEs σ (sl s0)) ∧ R K
theorem lsOk_one {L : Nat → Option (LSpec × Code)} (h : ∀ id W c, L id = some (W, c) → ∀ rd ro σ T D K, W rd ro σ T D K → VWx P G rd ro c σ T D K) : LsOk P G L := h
theorem loopW_ok {ι : Type} {c : Code} {sl : ι → List (Option TV)} {tt : ι → VT} {s0 : ι} {R : KX → Prop} (h : ∀ K, R K → VWx P G none 0 c (slots (sl s0)) (tt s0) [] K) : ∀ rd ro σ T D K, loopW sl tt s0 R rd ro σ T D K → VWx P G rd ro c σ T D K := by
  rintro rd ro σ T D K ⟨⟨rfl, rfl, rfl, rfl, hle⟩, hR⟩
  exact (h K hR).sub fun g w us hu => hle.ok hu

/-! ### Contracts within a greater T -/
def GVals (G : Globs) : Prop := ∀ n cs, G n = some cs → ∃ vs : List Value, cs = vs.map .val
theorem gvals_none : GVals fun _ => none := fun _ _ h => by cases h
theorem GOk.sub {g g' : Gh} {w : World} {f h : Nat → Option Nat} (hv : GVals G) (k : GOk G g w) (r : Ren g g' f h) : GOk G g' w := fun n cs hn => by
  obtain ⟨vs, rfl⟩ := hv n cs hn
  have h1 := (k n _ hn).ren r
  simp only [TV.ren, renL_vals] at h1
  exact h1
theorem VCx.lift {ro : Nat} {f : FuncId} {xs ys : List TV} {T : VT} {Q : TV → VT → Prop} (is ks : List Nat) (hv : GVals G) (hi : is.Nodup) (hk : ks.Nodup) (hil : ∀ i ∈ is, ∃ o, T.objs[i]? = some o ∧ o.live = true) (hkl : ∀ k ∈ ks, k < T.tails.length) (hro : ∀ i ∈ is, ro ≤ i)
    (hx : renL (nameIn is) (nameIn ks) ys = xs) (h : VCx P G 0 f xs (T.give is ks) Q) (hlen : ∀ x T', Q x T' → is.length ≤ T'.objs.length ∧ ks.length ≤ T'.tails.length) :
    VCx P G ro f ys T fun y T'' => ∃ x T', Q x T' ∧ y = x.ren (nameOut T.objs.length is) (nameOut T.tails.length ks) ∧ T'' = T.back is ks T' := by
  intro g w us rw0 hG hxs
  have hargs := hxs.ren (sub_ren g T is ks)
  rw [hx] at hargs
  have hil' : ∀ i ∈ is, i < T.objs.length := fun i h => by obtain ⟨o, h1, _⟩ := hil i h; exact (List.getElem?_eq_some_iff.1 h1).1
  have r1 := rw0.give hi hk hil' hkl
  refine Calls.mono (h _ w _ r1 (hG.sub hv (sub_ren g T is ks)) hargs) ?_
  rintro e w' ⟨v, x, gc, T', rfl, hq, e', r', hv', _⟩
  obtain ⟨l1, l2⟩ := hlen x T' hq
  obtain ⟨g', ev, rb, rn⟩ := join_back rw0 hi hk hil hkl e' r' l1 l2
  obtain ⟨b1, b2, b3, b4⟩ := giveBack_at is T.objs (T'.objs.map (VO.ren (nameOut T.objs.length is) (nameOut T.tails.length ks))) hi hil' (by simpa using l1)
  refine ⟨v, _, g', _, rfl, ⟨x, T', hq, rfl, rfl⟩, ev, rb, hv'.ren rn, ?_, ?_, ?_⟩
  · show T.objs.length ≤ (giveBack T.objs is _).length
    rw [b1]; omega
  · intro i hir hil2
    exact b2 i hil2 fun hm => absurd (hro i hm) (by omega)
  · intro i o b hir ho hl hb
    have hnm : i ∉ is := fun hm => absurd (hro i hm) (by omega)
    exact e'.frb b (.inr (.inl ⟨i, o, ho, hl, hnm, hb⟩))
/-- a function that turns nothing and leaves nothing known -/
theorem VCx.liftPure {ro : Nat} {f : FuncId} {xs ys : List TV} {T : VT} {y : TV} {K : TV → VT → Prop} (hv : GVals G) (h : VCx P G 0 f xs ⟨[], []⟩ fun x T' => x = y ∧ T' = ⟨[], []⟩) (hx : renL (nameIn []) (nameIn []) ys = xs) (hy : ∀ f h, y.ren f h = y) (k : K y T) : VCx P G ro f ys T K := by
  refine (VCx.lift (T := T) [] [] hv List.nodup_nil List.nodup_nil (by simp) (by simp) (by simp) hx (by rw [VT.give_nil]; exact h) (fun _ _ _ => ⟨Nat.zero_le _, Nat.zero_le _⟩)).mono ?_
  rintro z T' ⟨x, T'', ⟨rfl, rfl⟩, rfl, rfl⟩
  have hb : T.back [] [] ⟨[], []⟩ = T := by rw [VT.back_nil]; cases T; simp
  rw [hy, hb]; exact k
/-- a contract, told by values: at the arguments of a it gives the value of a -/
def pureW {α : Type} (A : α → List TV) (Y : α → TV) (R : α → Prop) : Spec := fun _ ys T K => ∃ a, ys = A a ∧ R a ∧ K (Y a) T
theorem pureW_ok {α : Type} {f : FuncId} {A : α → List TV} {Y : α → TV} {R : α → Prop} (hv : GVals G) (hA : ∀ a, renL (nameIn []) (nameIn []) (A a) = A a) (hY : ∀ a f h, (Y a).ren f h = Y a) (h : ∀ a, R a → VCx P G 0 f (A a) ⟨[], []⟩ fun x T' => x = Y a ∧ T' = ⟨[], []⟩) :
    ∀ ro ys T K, pureW A Y R ro ys T K → VCx P G ro f ys T K := by
  rintro ro ys T K ⟨a, rfl, hR, hk⟩
  exact VCx.liftPure hv (h a hR) (hA a) (hY a) hk
def specs : List (FuncId × Spec) → FuncId → Option Spec
  | [], _ => none
  | (f, W) :: l, g => bif Nat.beq f g then some W else specs l g
theorem specs_ok : ∀ {l : List (FuncId × Spec)}, (∀ p ∈ l, ∀ ro xs T K, p.2 ro xs T K → VCx P G ro p.1 xs T K) → SpecsOk P G (specs l)
  | [], _ => fun _ _ h => by cases h
  | (f, W) :: l, h => fun g W' hW => by
    simp only [specs] at hW
    cases hb : Nat.beq f g with
    | true =>
      rw [hb] at hW
      injection hW with hW; subst hW
      have := Nat.eq_of_beq_eq_true hb
      subst this
      exact h _ List.mem_cons_self
    | false =>
      rw [hb] at hW
      exact specs_ok (fun p hp => h p (List.mem_cons_of_mem _ hp)) g W' hW
theorem cond_of {b : Bool} {X Y : Prop} (ht : b = true → X) (hf : b = false → Y) : cond b X Y := by
  cases b
  · exact hf rfl
  · exact ht rfl
/-- a function's contract with nothing around it -/
theorem VCx.keepQ {f : FuncId} {xs : List TV} {T : VT} {Q : TV → VT → Prop} (n m : Nat) (hn : T.objs.length ≤ n) (hm : T.tails.length ≤ m) (h : VCx P G 0 f xs T fun x T' => Q (x.ren (Go.Proofs.Ytgconkbnokbinaa.keep n) (Go.Proofs.Ytgconkbnokbinaa.keep m)) (T'.keep n m)) : VCx P G 0 f xs T Q := by
  intro g w us rw0 hG hx
  refine Calls.mono (h g w us rw0 hG hx) ?_
  rintro e w' ⟨v, x, g', T', he, hq, e', r', hv, hfx⟩
  refine ⟨v, _, g'.keep n m, T'.keep n m, he, hq, e'.keep rw0 hn hm, r'.keep n m, hv.ren (keep_ren g' n m), ?_, fun i hi => absurd hi (Nat.not_lt_zero i), fun i o b hi => absurd hi (Nat.not_lt_zero i)⟩
  simp only [VT.keep, List.length_map, List.length_take]
  have h1 := hfx.len
  omega
end
end Go.Proofs.Ytgconkbnokbinaa

/- A slice of the function's own that a call turns in place. For any program. -/
namespace Go.Proofs.Ytgconkbnokbinaa
open Go.RowKit

section
variable {P : Program}

/-- code in a function that began at g0, w0 -/
def VWB (P : Program) (g0 : Gh) (w0 : World) (c : Code) (σ : List TV) (T : VT) (Q : Exit → List TV → VT → Prop) : Prop :=
  ∀ g w (a : Act), Evo g0 w0 g w → RW g T w → VRs g w σ a.tmps.toList → a.defers = [] →
    c.wp P (fun e a' w' => ∃ g' σ' T', Q e σ' T' ∧ Evo g0 w0 g' w' ∧ RW g' T' w' ∧ VRs g' w' σ' a'.tmps.toList ∧ a'.defers = []) a w
theorem VWB.of {g0 : Gh} {w0 : World} {c : Code} {σ : List TV} {T : VT} {Q : Exit → List TV → VT → Prop} (h : VW P c σ T Q) : VWB P g0 w0 c σ T Q :=
  fun g w a e r hσ hd => wp_mono (h g w a r hσ hd) fun _ _ _ ⟨g', σ', T', hq, e', h⟩ => ⟨g', σ', T', hq, e.trans e', h⟩
theorem VWB.seq {g0 : Gh} {w0 : World} {x y : Code} {σ : List TV} {T : VT} {Q : Exit → List TV → VT → Prop} (h : VWB P g0 w0 x σ T (Vthen (fun σ T => VWB P g0 w0 y σ T Q) Q)) : VWB P g0 w0 (.seq x y) σ T Q := by
  intro g w a e0 r hσ hd
  refine wp_seq (wp_mono (h g w a e0 r hσ hd) ?_)
  rintro e a' w' ⟨g', σ', T', hq, e1, r', hσ', hd'⟩
  cases e <;> first
    | exact ⟨g', σ', T', hq, e1, r', hσ', hd'⟩
    | exact hq g' w' a' e1 r' hσ' hd'
theorem VCalls.enterB {f : FuncId} {fn : Func} {c : Code} {xs : List TV} {T : VT} {Q : TV → VT → Prop} (hf : P.funcs[f]? = some fn) (hb : fn.body = some c)
    (h : ∀ g0 w0, RW g0 T w0 → ∀ k : List TV → Prop, (∀ σ, VWB P g0 w0 c σ T (fun e σ T' => (e = .normal ∨ e = .ret) ∧ ∃ x, vresults P T' σ fn.results = some x ∧ Q (x.ren (Go.Proofs.Ytgconkbnokbinaa.keep T.objs.length) (Go.Proofs.Ytgconkbnokbinaa.keep T.tails.length)) (T'.keep T.objs.length T.tails.length)) → k σ) →
      k (xs ++ List.replicate (fn.ntmps - xs.length) (.val undef))) : VCalls P f xs T Q := by
  refine VCalls.forget (Q := fun x T' => Q (x.ren (Go.Proofs.Ytgconkbnokbinaa.keep T.objs.length) (Go.Proofs.Ytgconkbnokbinaa.keep T.tails.length)) (T'.keep T.objs.length T.tails.length)) T.objs.length T.tails.length (Nat.le_refl _) (Nat.le_refl _) ?_ fun _ _ h => h
  intro g w us r hx
  have h1 := h g w r _ fun _ h => h
  refine calls_of_wp hf hb (wp_mono (h1 g w _ (Evo.refl _ _) r ?_ rfl) ?_)
  · have e1 : (us.toArray ++ Array.replicate (fn.ntmps - us.toArray.size) undef).toList = us ++ (List.replicate (fn.ntmps - xs.length) undef) := by simp [hx.1]
    rw [e1]
    refine hx.app ?_
    have := VRs.vals g w (List.replicate (fn.ntmps - xs.length) undef)
    simpa using this
  · rintro e a' w' ⟨g', σ', T', ⟨he, x, hr, hq⟩, e1, r', hσ', hd'⟩
    obtain ⟨v, h1, h2⟩ := vresults_ok r' hσ' hr
    rcases he with rfl | rfl
    · exact ⟨hd', v, h2, v, x, g', T', rfl, hq, e1, r', h1⟩
    · exact ⟨hd', v, h2, v, x, g', T', rfl, hq, e1, r', h1⟩

/-- what does not hang on memory that stays -/
def isLoose : TV → Bool
  | .val _ | .ptr .. | .sl .. | .map _ | .dead => true
  | _ => false
def loose (x : TV) : TV := if isLoose x then x else .dead
theorem loose_ok {g g' : Gh} {w w' : World} {x : TV} {u : Value} (ho : ∀ id b, g.obj id = some b → g'.obj id = some b) (h : VR g w x u) : VR g' w' (loose x) u := by
  unfold loose
  split
  · rename_i hl
    cases h <;> first
      | exact .val _
      | exact .dead _
      | (rename_i hb; exact .ptr (ho _ _ hb))
      | (rename_i hb; exact .sl (ho _ _ hb))
      | (rename_i hb; exact .map (ho _ _ hb))
      | cases hl
  · exact .dead _
def looseO : VO → VO
  | .cells cs => .cells (cs.map loose)
  | .row cs => .row (cs.map loose)
  | .map sh look es ck => .map sh (fun k => (look k).map loose) (es.map fun e => (e.1, loose e.2.1, e.2.2)) ck
  | .iter m since seen stepped => .iter (loose m) since seen stepped
  | .siter s pos => .siter s pos
  | .loop st pend σ ps asg body => .loop st pend (σ.map loose) ps asg body
  | .defd => .defd
  | .gone => .gone
theorem looseO_live (o : VO) : (looseO o).live = o.live := by cases o <;> rfl
theorem map_loose {g g' : Gh} {w w' : World} (ho : ∀ id b, g.obj id = some b → g'.obj id = some b) {cs : List TV} {us : List Value} (h : VRs g w cs us) : VRs g' w' (cs.map loose) us :=
  ⟨by rw [List.length_map]; exact h.1, fun j x u hx hu => by
    rw [List.getElem?_map] at hx
    cases hc : cs[j]? with
    | none => rw [hc] at hx; cases hx
    | some y => rw [hc] at hx; simp at hx; subst hx; exact loose_ok ho (h.2 j y u hc hu)⟩
/-- the slots behind a call that turned the slice es of tail k: it reads as es' there -/
def turned (size k e : Nat) (n : Nat) (es' : List (List TV)) (σ : List TV) : List TV := σ.map fun x => match x with
  | .vec s es (.tail k' e') => if s = size ∧ k' = k ∧ e' = e ∧ es.length = n then .vec size es' .none else .dead
  | x => loose x
/-- one operation, in a function that began at g0, w0 -/
def VPB (P : Program) (g0 : Gh) (w0 : World) (o : Oper) (σ : List TV) (T : VT) (K : List TV → VT → Prop) : Prop :=
  ∀ g w (a : Act) (next : Act → World → Prop) (Q : Exit → Act → World → Prop), Evo g0 w0 g w → RW g T w → VRs g w σ a.tmps.toList → a.defers = [] →
    (∀ σ' T' g' w' (a' : Act), K σ' T' → Evo g0 w0 g' w' → RW g' T' w' → VRs g' w' σ' a'.tmps.toList → a'.defers = [] → next a' w') → o.wp P a w next Q

/-- a call that turns a slice of the function's own in place (a sort) -/
theorem VPB.turn {g0 : Gh} {w0 : World} {T0 : VT} (r0 : RW g0 T0 w0) {o : Oper} {fo x1 : Operand} {args : List Operand} {ats : Array TypeId} {σ : List TV} {T : VT} {K : List TV → VT → Prop} {f : FuncId} {fn : Func} {size k e : Nat} {es es' : List (List TV)} {us' : List Value} {rest : List Value} {rv : Value}
    (ho : o.op = .call ⟨.value fo, (x1 :: args).toArray, ats⟩) (hf : veval σ fo = .fn (.func f) [] []) (hfn : P.funcs[f]? = some fn) (hb : fn.body.isSome = true) (hnm : (fn.name == "runtime.NumGoroutine") = false)
    (hx : veval σ x1 = .vec size es (.tail k e)) (hk : T0.tails.length ≤ k) (hT : T.tails[k]? = some (e, size, true)) (hn : es.length = e) (hpos : 0 < e) (hs0 : 0 < size)
    (hr : ∀ g w (a : Act), VRs g w σ a.tmps.toList → args.map a.eval = rest)
    (hz' : ∀ e ∈ es', e.length = size) (hl' : es'.length = es.length) (hv' : es'.flatten = us'.map .val) (ho' : ∀ u ∈ us', u.oneCell' = true)
    (hc : ∀ (w : World) (b cap : Nat) (ty : TypeId) (us : List Value), w.heap[b]? = some (.cells us.toArray ty (0, 0)) → us.length = cap * size → es.length ≤ cap → cap ≤ maxLen → (∃ g, VRs g w es.flatten (us.take (es.length * size))) →
      Calls P f (.slice (some ⟨b, 0, none⟩) es.length cap :: rest).toArray w fun r w' => r = .returned rv ∧ Gb b w w' ∧ Rd w' size (.slice (some ⟨b, 0, none⟩) es.length cap) es.length us')
    (hK : K (vput (turned size k e es.length es' σ) o.dst (.val rv)) ⟨T.objs.map looseO, T.tails.set k (e + 1, size, false)⟩) : VPB P g0 w0 o σ T K := by
  intro g w a next Q e0 r hσ hd hnext
  have h1 := veval_ok hσ fo
  rw [hf] at h1
  obtain ⟨fs, cs, h2, h3, h4⟩ := h1.fn_inv
  have hfs : fs = [] := List.eq_nil_of_length_eq_zero h3.1
  have hcs : cs = [] := List.eq_nil_of_length_eq_zero h4.1
  subst hfs hcs
  have hrun := run_call ho h2 hfn hb hnm w
  simp only [List.nil_append, List.append_nil, List.map_cons] at hrun
  rw [hr g w a hσ] at hrun
  have hs := veval_ok hσ x1
  rw [hx] at hs
  obtain ⟨x, hxt, hxe, hxz, hxx⟩ := r.tl k _ hT
  simp only at hxe hxz
  obtain ⟨hxz, hxb⟩ := hxz
  have hxo : x.own = true := by
    rcases hs.vec_inv with ⟨_, he, _⟩ | ⟨b, o', c, us, hu2, a1, a2, a3, a4, _⟩ | ⟨_, _, he, _⟩
    rotate_left 2
    · rw [he] at hn; simp at hn; omega
    · rw [he] at hn; simp at hn; omega
    · obtain ⟨y, q1, q2, q3, _, q5⟩ := a4
      rw [hxt] at q1; injection q1 with q1; subst q1
      exact ((q5 hxe hxb).2 (by omega) (by omega)).1
  obtain ⟨⟨cur, hblk, hcur⟩, hff, hfl, hlo, hnfr⟩ := r.own k x hxt hxo (by omega)
  -- what any value that reads so is
  have uniq : ∀ (es2 : List (List TV)) u, es2.length = es.length → VR g w (.vec size es2 (.tail k e)) u → ∃ c, u = .slice (some ⟨x.b, 0, none⟩) es.length c ∧ x.lim = c * size ∧ es.length ≤ c ∧ c ≤ maxLen := by
    intro es2 u hl2 hu
    rcases hu.vec_inv with ⟨_, he, _⟩ | ⟨b, o', c, us, rfl, a1, a2, a3, a4, a5, a6, a7, a8⟩ | ⟨_, _, he, _⟩
    rotate_left 2
    · rw [he] at hl2; simp at hl2; omega
    · rw [he] at hl2; simp at hl2; omega
    · obtain ⟨y, q1, q2, q3, _, q5⟩ := a4
      rw [hxt] at q1; injection q1 with q1; subst q1
      obtain ⟨_, q6⟩ := q5 hxe hxb
      obtain ⟨_, p1, p2, p3⟩ := q6 (by omega) (by omega)
      subst p1 p2
      exact ⟨c, by rw [hl2], p3, by omega, a2⟩
  have hes : 0 < es.length := by omega
  obtain ⟨c, hu1, hlim, hle, hmx⟩ := uniq es _ rfl hs
  rcases hs.vec_inv with ⟨_, he, _⟩ | ⟨b, o', c', us, hu2, a1, a2, a3, a4, a5, a6, a7, a8⟩ | ⟨_, _, he, _⟩
  rotate_left 2
  · rw [he] at hes; simp at hes
  · rw [he] at hes; simp at hes
  rw [hu1] at hu2
  injection hu2 with p1 p2 p3
  injection p1 with p1; injection p1 with p1 p4
  subst p1 p4 p3
  have hcl := hc w x.b c x.ty cur.toList (by simpa using hblk) (by simp; omega) hle hmx ⟨g, by
    have hfl2 := flatten_len a3
    have hul : us.length = es.length * size := by rw [a5.1, hfl2]
    have : cur.toList.take (es.length * size) = us := by
      apply List.ext_getElem?
      intro j
      rw [List.getElem?_take]
      split
      · rename_i hj
        have h9 : us[j]? = some us[j] := List.getElem?_eq_getElem (by omega)
        have h10 := a7 j us[j] h9
        rw [h9]
        simpa [World.cell?, hblk] using h10
      · rename_i hj; rw [List.getElem?_eq_none (by omega)]
    rw [this]; exact a5⟩
  unfold Oper.wp
  rw [hrun, hu1]
  refine Calls.mono hcl ?_
  rintro rr w' ⟨rfl, hgb, hrd⟩
  -- the ghost behind it
  have hw0 : w0.heap.size ≤ x.b := Nat.le_trans (e0.tnew k x (r0.tout k hk) hxt) hlo
  have hheap : ∀ b, b < w.heap.size → b ≠ x.b → w'.heap[b]? = w.heap[b]? := fun b h1 h2 => hgb.block b h1 (fun e => h2 (by injection e))
  obtain ⟨g2, hg2⟩ : ∃ g2 : Gh, g2 = { g with tail := fun i => if i = k then some { x with lim := x.f, own := false, born := false, e := e + 1 } else g.tail i, st := fun b o => g.st b o ∧ (b = x.b → o < es.length * size) } := ⟨_, rfl⟩
  have gobj : g2.obj = g.obj := by rw [hg2]
  have gfr : g2.fr = g.fr := by rw [hg2]
  have gst : ∀ b o, g2.st b o → g.st b o ∧ (b = x.b → o < es.length * size) := fun b o h => by rw [hg2] at h; exact h
  have gtk : g2.tail k = some { x with lim := x.f, own := false, born := false, e := e + 1 } := by rw [hg2]; simp
  have gtn : ∀ j, j ≠ k → g2.tail j = g.tail j := fun j hj => by rw [hg2]; simp [hj]
  have hrl : us'.length = es.length * size := hrd.len
  have hcell : ∀ j u, us'[j]? = some u → w'.cell? ⟨x.b, j, none⟩ = some u := fun j u hu => by
    obtain ⟨b', o', c', hv, _, _, hcc⟩ := hrd.pos hes
    injection hv with p1 _ _
    injection p1 with p1; injection p1 with p1 p2
    subst p1 p2
    simpa using hcc j u hu
  have hst0 : ∀ b o, g0.st b o → b ≠ x.b := fun b o h hb => by
    obtain ⟨u, hu⟩ := Option.isSome_iff_exists.1 (r0.st b o h)
    have := lt_of_cell hu
    simp at this; omega
  have ev : Evo g0 w0 g2 w' := by
    refine ⟨hgb.os.trans e0.os, hgb.tape.trans e0.tape, hgb.output.trans e0.output, Nat.le_trans e0.size hgb.size, fun id b hb => by rw [gobj]; exact e0.obj id b hb, fun b o h => ⟨?_, ?_⟩, by rw [gfr]; exact e0.fr, fun b hb => ?_, fun b o hb h => e0.frs b o hb (gst b o h).1, fun j y hy => ?_, fun j y h1 h2 => ?_, fun b hb => ?_⟩
    rotate_right
    · rw [← e0.csz b hb]; unfold csize; rw [hheap b (Nat.lt_of_lt_of_le hb e0.size) (by omega)]
    · rw [hg2]; exact ⟨(e0.st b o h).1, fun hb => absurd hb (hst0 b o h)⟩
    · have hlt : b < w.heap.size := by
        obtain ⟨u, hu⟩ := Option.isSome_iff_exists.1 (r0.st b o h)
        have := lt_of_cell hu
        have := e0.size
        simp at *; omega
      rw [← (e0.st b o h).2, World.cell?, World.cell?, hheap b hlt (hst0 b o h)]
    · have := r0.fr b hb
      rw [hheap b (by have := e0.size; omega) (by omega)]; exact e0.frb b hb
    · have hj : j ≠ k := by rintro rfl; rw [r0.tout j hk] at hy; cases hy
      rw [gtn j hj]; exact e0.tail j y hy
    · by_cases hj : j = k
      · subst hj; rw [gtk] at h2; injection h2 with h2; subst h2; exact e0.tnew j x h1 hxt
      · rw [gtn j hj] at h2; exact e0.tnew j y h1 h2
  have hobjne : ∀ (id : Nat) oo b, T.objs[id]? = some oo → oo.live = true → g.obj id = some b → b ≠ x.b := fun id oo b h1 h2 h3 hb => r.tobj id oo b k x h1 h2 h3 hxt (.inr ⟨hxo, by omega, hb.symm⟩)
  have hob : ∀ (id : Nat) oo, (T.objs.map looseO)[id]? = some oo → oo.live = true → ∃ o0, T.objs[id]? = some o0 ∧ o0.live = true ∧ oo = looseO o0 := fun id oo h hl => by
    rw [List.getElem?_map] at h
    simp only [Option.map_eq_some_iff] at h
    obtain ⟨o0, h1, rfl⟩ := h
    exact ⟨o0, h1, by rw [← looseO_live]; exact hl, rfl⟩
  have hasle : ∀ b, ({ x with lim := x.f, own := false, born := false, e := e + 1 } : Tl).has b → False := fun b h => by
    rcases h with ⟨o, _, h1, h2⟩ | ⟨h, _⟩
    · simp only at h1 h2; omega
    · cases h
  have oeq : ∀ id b, g.obj id = some b → g2.obj id = some b := fun id b h => by rw [gobj]; exact h
  have rw2 : RW g2 ⟨T.objs.map looseO, T.tails.set k (e + 1, size, false)⟩ w' := by
    refine ⟨?_, ?_, ?_, ?_, ?_, ?_, ?_, ?_, ?_, ?_, ?_, ?_⟩
    · intro id oo h hl
      obtain ⟨o0, h1, h2, rfl⟩ := hob id oo h hl
      obtain ⟨b, h3, h4, h5, h6⟩ := r.obj id o0 h1 h2
      have hne := hobjne id o0 b h1 h2 h3
      have hhp := hheap b (h4.lt h2) hne
      refine ⟨b, by rw [gobj]; exact h3, ?_, by rw [gfr]; exact h5, fun o hs => h6 o (gst b o hs).1⟩
      cases o0 with
      | cells cs =>
        obtain ⟨vs, t, q1, q2, q3⟩ := h4
        exact ⟨vs, t, hhp.trans q1, map_loose oeq q2, q3⟩
      | row cs =>
        obtain ⟨vs, t, q1, q2, q3, q4⟩ := h4
        exact ⟨vs, t, hhp.trans q1, by rw [List.length_map]; exact q2, by rw [List.length_map]; exact map_loose oeq q3, by rw [List.length_map]; exact q4⟩
      | map sh look es ck =>
        obtain ⟨vs, q1, q2, q3, q4, q5, q6, q7⟩ := h4
        refine ⟨vs, hhp.trans q1, by simpa [Function.comp_def] using q2, ?_, by simpa [Function.comp_def] using q4, ?_, by simpa [Function.comp_def] using q6, ?_⟩
        · have := map_loose (w' := w') oeq q3
          simpa [Function.comp_def] using this
        · intro e he
          obtain ⟨e', h8, rfl⟩ := List.mem_map.1 he
          exact q5 e' h8
        · intro key hk
          simp only [q7 key hk, mget_map]
      | iter m since seen stepped => obtain ⟨mb, q1, q2⟩ := h4; exact ⟨mb, hhp.trans q1, loose_ok oeq q2⟩
      | siter s pos => exact hhp.trans h4
      | loop st pend σ2 ps asg body => obtain ⟨us, fn, db, q1, q2⟩ := h4; exact ⟨us, fn, db, hhp.trans q1, map_loose oeq q2⟩
      | defd => exact hhp.trans h4
      | gone => trivial
    · intro i j oi oj b hi li hj lj b1 b2
      obtain ⟨o1, h1, h2, rfl⟩ := hob i oi hi li
      obtain ⟨o2, h3, h4, rfl⟩ := hob j oj hj lj
      rw [gobj] at b1 b2
      exact r.inj i j o1 o2 b h1 h2 h3 h4 b1 b2
    · intro id hid
      rw [gobj]; exact r.out id (by simpa using hid)
    · intro b o h
      obtain ⟨h1, h2⟩ := gst b o h
      by_cases hb : b = x.b
      · have hlt : o < us'.length := by rw [hrl]; exact h2 hb
        rw [hb, hcell o us'[o] (List.getElem?_eq_getElem hlt)]; rfl
      · have h3 := r.st b o h1
        obtain ⟨u, hu⟩ := Option.isSome_iff_exists.1 h3
        have hlt := lt_of_cell hu
        rw [World.cell?, hheap b hlt hb]; exact h3
    · intro b hb
      rw [gfr] at hb
      exact Nat.lt_of_lt_of_le (r.fr b hb) hgb.size
    · intro j p h
      simp only [List.getElem?_set] at h
      split at h
      · rename_i hj; subst hj
        split at h
        · injection h with h; subst h
          exact ⟨_, gtk, rfl, ⟨hxz, rfl⟩, fun b o hin => absurd (.inl ⟨o, hin⟩) (hasle b)⟩
        · cases h
      · rename_i hj
        obtain ⟨y, q1, q2, q3, q4⟩ := r.tl j p h
        have hj' : j ≠ k := fun h => hj h.symm
        refine ⟨y, by rw [gtn j hj']; exact q1, q2, q3, fun b o hin => ?_⟩
        obtain ⟨s1, s2, s3, s4⟩ := q4 b o hin
        have hbne : b ≠ x.b := fun hb => hj' (r.tinj j k y x b q1 hxt (.inl ⟨o, hin⟩) (.inr ⟨hxo, by omega, hb.symm⟩))
        obtain ⟨u, hu⟩ := Option.isSome_iff_exists.1 s1
        have hhp := hheap b (lt_of_cell hu) hbne
        exact ⟨by rw [World.cell?, hhp]; exact s1, by rw [World.frozen?, hhp]; exact s2, fun hs => s3 (gst b o hs).1, by rw [gfr]; exact s4⟩
    · intro j hj
      simp only [List.length_set] at hj
      have hlt := tail_lt r hxt
      rw [gtn j (by omega)]; exact r.tout j hj
    · intro i j y z b h1 h2 i1 i2
      by_cases hi : i = k
      · subst hi; rw [gtk] at h1; injection h1 with h1; subst h1; exact (hasle b i1).elim
      · by_cases hj : j = k
        · subst hj; rw [gtk] at h2; injection h2 with h2; subst h2; exact (hasle b i2).elim
        · rw [gtn i hi] at h1; rw [gtn j hj] at h2; exact r.tinj i j y z b h1 h2 i1 i2
    · intro i oi b j y hi li b1 hy hin
      obtain ⟨o1, h1, h2, rfl⟩ := hob i oi hi li
      rw [gobj] at b1
      by_cases hj : j = k
      · subst hj; rw [gtk] at hy; injection hy with hy; subst hy; exact (hasle b hin).elim
      · rw [gtn j hj] at hy; exact r.tobj i o1 b j y h1 h2 b1 hy hin
    · intro j y hy d1 d2
      by_cases hj : j = k
      · subst hj; rw [gtk] at hy; injection hy with hy; subst hy; cases d1
      · rw [gtn j hj] at hy
        obtain ⟨⟨cur2, s1, s2⟩, s3, s4, s5, s6⟩ := r.own j y hy d1 d2
        have hbne : y.b ≠ x.b := fun hb => hj (r.tinj j k y x y.b hy hxt (.inr ⟨d1, d2, rfl⟩) (.inr ⟨hxo, by omega, hb.symm⟩))
        exact ⟨⟨cur2, by rw [hheap y.b (Array.getElem?_eq_some_iff.1 s1).1 hbne]; exact s1, s2⟩, s3, s4, s5, by rw [gfr]; exact s6⟩
    · intro j y hy d1
      by_cases hj : j = k
      · subst hj; rw [gtk] at hy; injection hy with hy; subst hy; rcases d1 with d1 | d1 <;> cases d1
      · rw [gtn j hj] at hy; exact r.own0 j y hy d1
    · intro j y hy
      by_cases hj : j = k
      · subst hj; rw [gtk] at hy; injection hy with hy; subst hy; exact Nat.le_trans (r.tlo j x hxt) hgb.size
      · rw [gtn j hj] at hy; exact Nat.le_trans (r.tlo j y hy) hgb.size
  have hfl3 := flatten_len hz'
  have vnew : VR g2 w' (.vec size es' .none) (.slice (some ⟨x.b, 0, none⟩) es.length c) := by
    refine .mk_vec (us := us') hl'.symm hle hmx hz' trivial (by rw [hv']; exact VRs.vals _ _ _) (fun j hj => ?_) (fun j u hu => ?_) ho'
    · rw [Nat.zero_add, hg2]
      have hj2 : j < es.length * size := by rw [hv', List.length_map, hrl] at hj; exact hj
      exact ⟨by have := a6 j (by rw [flatten_len a3]; exact hj2); rwa [Nat.zero_add] at this, fun _ => hj2⟩
    · rw [Nat.zero_add]; exact hcell j u hu
  refine hnext _ _ g2 w' _ hK ev rw2 (vput_ok ?_ o.dst (.val rv)) (by rw [put_defers]; exact hd)
  refine ⟨by simp only [turned, List.length_map]; exact hσ.1, fun j y u hy hu => ?_⟩
  simp only [turned, List.getElem?_map, Option.map_eq_some_iff] at hy
  obtain ⟨y0, h5, rfl⟩ := hy
  have h6 := hσ.2 j y0 u h5 hu
  have other : VR g2 w' (loose y0) u := loose_ok oeq h6
  cases y0 with
  | vec s es2 tok =>
    cases tok with
    | tail k' e' =>
      simp only
      split
      · rename_i hh
        obtain ⟨rfl, rfl, rfl, hlen⟩ := hh
        obtain ⟨c2, hu2, hlim2, _⟩ := uniq es2 u hlen h6
        have : c2 = c := Nat.eq_of_mul_eq_mul_right hs0 (hlim2.symm.trans hlim)
        rw [hu2, this]; exact vnew
      · exact .dead _
    | none => exact other
    | live => exact other
    | full => exact other
    | past _ _ => exact other
  | _ => exact other

/-- the operations of a region, in order, in a function that began at g0, w0 -/
def VLB (P : Program) (g0 : Gh) (w0 : World) (ops : Array Oper) (K : List TV → VT → Prop) : List Oper → List TV → VT → Prop
  | [], σ, T => K σ T
  | o :: l, σ, T => vwanted ops σ o = some true ∧ VPB P g0 w0 o σ T (VLB P g0 w0 ops K l)
theorem VLB.ok {g0 : Gh} {w0 : World} {ops : Array Oper} {K : List TV → VT → Prop} {QQ : Exit → Act → World → Prop} : ∀ (js : List Nat) (l : List Oper), js.map (ops[·]?) = l.map some → ∀ (σ : List TV) (T : VT), VLB P g0 w0 ops K l σ T → ∀ g w (a : Act), Evo g0 w0 g w → RW g T w → VRs g w σ a.tmps.toList → a.defers = [] →
    (∀ σ' T' g' w' (a' : Act), K σ' T' → Evo g0 w0 g' w' → RW g' T' w' → VRs g' w' σ' a'.tmps.toList → a'.defers = [] → QQ .normal a' w') → wpOps P ops QQ js a w
  | [], [], _, σ, T, h, g, w, a, e, r, hσ, hd, hq => hq σ T g w a h e r hσ hd
  | [], _ :: _, hl, _, _, _, _, _, _, _, _, _, _, _ => by simp at hl
  | _ :: _, [], hl, _, _, _, _, _, _, _, _, _, _, _ => by simp at hl
  | j :: js, o :: l, hl, σ, T, h, g, w, a, e, r, hσ, hd, hq => by
    simp only [List.map_cons, List.cons.injEq] at hl
    obtain ⟨ho, hl⟩ := hl
    simp only [wpOps, ho]
    obtain ⟨hw, h⟩ := h
    rw [if_pos (vwanted_ok hw hσ)]
    exact .inl (h g w a _ QQ e r hσ hd fun σ' T' g' w' a' hk e' r' hσ' hd' => VLB.ok js l hl σ' T' hk g' w' a' e' r' hσ' hd' hq)
theorem VWB.region {g0 : Gh} {w0 : World} {id : Nat} {l : List Oper} {σ : List TV} {T : VT} {Q : Exit → List TV → VT → Prop} (h : VLB P g0 w0 l.toArray (Q .normal) l σ T) : VWB P g0 w0 (.region id l.toArray false) σ T Q := by
  intro g w a e r hσ hd
  refine wp_region (VLB.ok (List.range l.length) l ?_ σ T h g w a e r hσ hd fun σ' T' g' w' a' hk e r' hσ' hd' => ⟨g', σ', T', hk, e, r', hσ', hd'⟩)
  apply List.ext_getElem?
  intro j
  simp only [List.getElem?_map, List.getElem?_toArray]
  rcases Nat.lt_or_ge j l.length with h | h
  · simp [h]
  · simp [List.getElem?_eq_none h, List.getElem?_eq_none (l := List.range l.length) (by simpa using h)]
theorem VLB.nil {g0 : Gh} {w0 : World} {ops : Array Oper} {K : List TV → VT → Prop} {σ : List TV} {T : VT} (h : K σ T) : VLB P g0 w0 ops K [] σ T := h
theorem VLB.run {g0 : Gh} {w0 : World} {ops : Array Oper} {K : List TV → VT → Prop} {o : Oper} {l : List Oper} {σ : List TV} {T : VT} (hg : vwanted ops σ o = some true)
    (h : ∀ k : List TV → VT → Prop, (∀ σ' T', VLB P g0 w0 ops K l σ' T' → k σ' T') → vcont (vop P T o.op (veval σ)) fun y T' => k (vput σ o.dst y) T') : VLB P g0 w0 ops K (o :: l) σ T := by
  have h1 := h _ (fun _ _ h => h)
  cases hv : vop P T o.op (veval σ) with
  | none => rw [hv] at h1; exact h1.elim
  | some p =>
    rw [hv] at h1
    exact ⟨hg, fun g w a next Q e r hσ hd hn => VP.op (K := VLB P g0 w0 ops K l) hv h1 g w a next Q r hσ hd fun σ' T' g' w' a' hk e' => hn σ' T' g' w' a' hk (e.trans e')⟩
theorem VLB.turn {g0 : Gh} {w0 : World} {T0 : VT} (r0 : RW g0 T0 w0) {ops : Array Oper} {o : Oper} {l : List Oper} {fo x1 : Operand} {args : List Operand} {ats : Array TypeId} {σ : List TV} {T : VT} {K : List TV → VT → Prop} {f : FuncId} {fn : Func} {size k e : Nat} {es es' : List (List TV)} {us' : List Value} {rest : List Value} {rv : Value}
    (hg : vwanted ops σ o = some true) (ho : o.op = .call ⟨.value fo, (x1 :: args).toArray, ats⟩) (hf : veval σ fo = .fn (.func f) [] []) (hfn : P.funcs[f]? = some fn) (hb : fn.body.isSome = true) (hnm : (fn.name == "runtime.NumGoroutine") = false)
    (hx : veval σ x1 = .vec size es (.tail k e)) (hk : T0.tails.length ≤ k) (hT : T.tails[k]? = some (e, size, true)) (hn : es.length = e) (hpos : 0 < e) (hs0 : 0 < size)
    (hr : ∀ g w (a : Act), VRs g w σ a.tmps.toList → args.map a.eval = rest)
    (hz' : ∀ e ∈ es', e.length = size) (hl' : es'.length = es.length) (hv' : es'.flatten = us'.map .val) (ho' : ∀ u ∈ us', u.oneCell' = true)
    (hc : ∀ (w : World) (b cap : Nat) (ty : TypeId) (us : List Value), w.heap[b]? = some (.cells us.toArray ty (0, 0)) → us.length = cap * size → es.length ≤ cap → cap ≤ maxLen → (∃ g, VRs g w es.flatten (us.take (es.length * size))) →
      Calls P f (.slice (some ⟨b, 0, none⟩) es.length cap :: rest).toArray w fun r w' => r = .returned rv ∧ Gb b w w' ∧ Rd w' size (.slice (some ⟨b, 0, none⟩) es.length cap) es.length us')
    (hK : ∀ q : List TV → VT → Prop, (∀ σ' T', VLB P g0 w0 ops K l σ' T' → q σ' T') → q (vput (turned size k e es.length es' σ) o.dst (.val rv)) ⟨T.objs.map looseO, T.tails.set k (e + 1, size, false)⟩) : VLB P g0 w0 ops K (o :: l) σ T :=
  ⟨hg, VPB.turn r0 ho hf hfn hb hnm hx hk hT hn hpos hs0 hr hz' hl' hv' ho' hc (hK _ fun _ _ h => h)⟩

/-! ### What was shown of memory, on values -/
theorem toVals_ok {g : Gh} {w : World} : ∀ {xs : List TV} {us us' : List Value}, xs.map toVal = us.map some → VRs g w xs us' → us' = us
  | [], [], us', _, k => List.eq_nil_of_length_eq_zero k.1
  | [], _ :: _, _, h, _ => by simp at h
  | _ :: _, [], _, h, _ => by simp at h
  | x :: xs, u :: us, us', h, k => by
    simp only [List.map_cons, List.cons.injEq] at h
    cases us' with
    | nil => have := k.1; simp at this
    | cons u' us' =>
      have h1 := toVal_ok h.1 (k.2 0 x u' rfl rfl)
      have h2 := toVals_ok (us' := us') h.2 ⟨by have := k.1; simpa using this, fun j x u hx hu => k.2 (j + 1) x u (by simpa using hx) (by simpa using hu)⟩
      rw [h1, h2]
theorem VCalls.of_grT {f : FuncId} {xs : List TV} {us : List Value} {v : Value} (hx : xs.map toVal = us.map some) (h : ∀ w, Calls P f us.toArray w fun e w' => e = .returned v ∧ Gr w w') (T : VT) : VCalls P f xs T fun x T' => x = .val v ∧ T' = T := by
  intro g w us' r hxs
  have := toVals_ok hx hxs
  subst this
  refine (h w).mono ?_
  rintro e w' ⟨rfl, hg⟩
  exact ⟨v, .val v, g, T, rfl, ⟨rfl, rfl⟩, Evo.of_gr r hg, r.gr hg, .val v⟩
end
end Go.Proofs.Ytgconkbnokbinaa

/- A law on values, seen from its row; arguments whose fields are all numbers. -/
namespace Go.Proofs.Ytgconkbnokbinaa
open Go.ChangeShapes Go.WideShapes Go.ChangeAt Go.RowKit Go.Joins Go.Deep

/-- all that is there stays -/
def topG (w : World) : Gh := ⟨fun _ => none, fun b o => (w.cell? ⟨b, o, none⟩).isSome = true, fun b => b < w.heap.size, fun _ => none⟩
theorem top_rw (w : World) : RW (topG w) ⟨[], []⟩ w := by
  refine ⟨(fun id o h => by simp at h), (fun i j oi oj b h => by simp at h), (fun _ _ => rfl), (fun _ _ h => h), (fun _ h => h), (fun k p h => by simp at h), (fun _ _ => rfl), (fun i j x y b h => nomatch h), (fun i oi b k x h => by simp at h), (fun k x h => nomatch h), (fun k x h => nomatch h), (fun k x h => nomatch h)⟩
theorem VCalls.top {P : Program} {f : FuncId} {xs : List TV} {us : List Value} {v : Value} (h : VCalls P f xs ⟨[], []⟩ fun x T' => x = .val v ∧ T' = ⟨[], []⟩) (w : World) (hx : VRs (topG w) w xs us) :
    Calls P f us.toArray w fun e w' => e = .returned v ∧ Gr w w' := by
  refine (h (topG w) w us (top_rw w) hx).mono ?_
  rintro e w' ⟨u, x, g', T', rfl, ⟨rfl, rfl⟩, ev, _, hv⟩
  rw [hv.val_inv]
  exact ⟨rfl, ev.os, ev.tape, ev.output, ev.size, fun b hb => ev.frb b hb⟩
theorem valsOf_inv : ∀ {cs : List TV} {vs : List Value}, valsOf cs = some vs → cs = vs.map .val
  | [], vs, h => by simp [valsOf] at h; subst h; rfl
  | c :: r, vs, h => by
    cases c <;> simp [valsOf] at h
    obtain ⟨vs', h1, rfl⟩ := h
    rw [valsOf_inv h1]; rfl
theorem vr_of_toVal {g : Gh} {w : World} {x : TV} {v : Value} (h : toVal x = some v) : VR g w x v := by
  cases x <;> simp [toVal] at h
  · subst h; exact .val _
  · obtain ⟨vs, h1, rfl⟩ := h
    rw [valsOf_inv h1]
    exact .mk_agg (VRs.vals g w vs)
theorem vrs_of_toVal {g : Gh} {w : World} : ∀ {xs : List TV} {us : List Value}, xs.map toVal = us.map some → VRs g w xs us
  | [], [], _ => VRs.nil g w
  | [], _ :: _, h => by simp at h
  | _ :: _, [], h => by simp at h
  | x :: xs, u :: us, h => by
    simp only [List.map_cons, List.cons.injEq] at h
    exact .cons (vr_of_toVal h.1) (vrs_of_toVal h.2)

section
variable {H : Type} {enc : TypeId × Value → H} {P : Program} {w : World} {base : Nat} {spare : Nat → Bool} {held : Bool}
theorem part_int {m j ty : Nat} {cs : List Value} {y : DataW H × List MemPlace} {k : IntKind} (hk : P.underlying ty = some (.int k)) (h : DataW.trod enc P w base spare held m ty ((cs.drop j).take 1) = some y) :
    ∃ n, cs[j]? = some (.int k n) ∧ (Lit.int k n).wf = true := by
  obtain ⟨n, e0, _, wn⟩ := DataW.trod_int hk h
  refine ⟨n, ?_, wn⟩
  have := congrArg (fun l : List Value => l[0]?) e0
  simpa using this
/-- a struct of numbers, field by field -/
theorem fields_int {m t : Nat} {fs : Array Field} {cs : List Value} {x : DataW H × List MemPlace} (hs : P.underlying t = some (.struct fs)) (hone : oneCellFields P fs = true) (h : DataW.trod enc P w base spare held m t cs = some x) {j : Nat} {f : Field} {k : IntKind} (hj : fs[j]? = some f) (hk : P.underlying f.type = some (.int k)) :
    ∃ n, cs[j]? = some (.int k n) ∧ (Lit.int k n).wf = true := by
  obtain ⟨xs, n, _, _, _, hlen, hg⟩ := DataW.trod_struct hs h
  obtain ⟨o, c⟩ := hone_of hone j f hj
  have h1 := hg j f hj
  rw [o, c] at h1
  have hjl : j < xs.length := by have := (Array.getElem?_eq_some_iff.1 hj).1; omega
  rw [List.getElem?_eq_getElem hjl] at h1
  exact part_int hk h1
theorem elems_int {m t n e : Nat} {cs : List Value} {x : DataW H × List MemPlace} (hs : P.underlying t = some (.array n e)) (hc : P.cellsOf e = 1) (h : DataW.trod enc P w base spare held m t cs = some x) {j : Nat} {k : IntKind} (hj : j < n) (hk : P.underlying e = some (.int k)) :
    ∃ z, cs[j]? = some (.int k z) ∧ (Lit.int k z).wf = true := by
  obtain ⟨xs, m', _, _, _, hlen, hg⟩ := DataW.trod_array hs h
  have h1 := hg j hj
  rw [hc, Nat.mul_one] at h1
  rw [List.getElem?_eq_getElem (by omega)] at h1
  exact part_int hk h1
end
end Go.Proofs.Ytgconkbnokbinaa

/- What the evaluator reckons, seen from a law's row; arguments of structs, cell by cell. For any program. -/
namespace Go.Proofs.Ytgconkbnokbinaa
open Go.ChangeShapes Go.WideShapes Go.ChangeAt Go.RowKit Go.Joins Go.Deep

/-- what the evaluator left is so: the law returns true -/
def isTrueV (x : TV) (_ : VT) : Prop := match x with
  | .val (.bool b) => cond b True False
  | _ => False
theorem VCx.top {P : Program} {ro : Nat} {f : FuncId} {xs : List TV} {us : List Value} (h : VCx P (fun _ => none) ro f xs ⟨[], []⟩ isTrueV) (w : World) (hx : VRs (topG w) w xs us) :
    Calls P f us.toArray w fun e w' => e = .returned (.bool true) ∧ Gr w w' := by
  refine (h (topG w) w us (top_rw w) (fun _ _ h => nomatch h) hx).mono ?_
  rintro e w' ⟨u, x, g', T', rfl, hq, ev, _, hv, _⟩
  unfold isTrueV at hq
  split at hq
  · rename_i b
    cases b with
    | false => exact hq.elim
    | true =>
      rw [hv.val_inv]
      exact ⟨rfl, ev.os, ev.tape, ev.output, ev.size, fun b hb => ev.frb b hb⟩
  · exact hq.elim

theorem VCx.topK {P : Program} {G : Globs} {ro : Nat} {f : FuncId} {xs : List TV} {us : List Value} (h : VCx P G ro f xs ⟨[], []⟩ isTrueV) (w : World) (hG : GOk G (topG w) w) (hx : VRs (topG w) w xs us) :
    Calls P f us.toArray w fun e w' => e = .returned (.bool true) ∧ Gr w w' := by
  refine (h (topG w) w us (top_rw w) hG hx).mono ?_
  rintro e w' ⟨u, x, g', T', rfl, hq, ev, _, hv, _⟩
  unfold isTrueV at hq
  split at hq
  · rename_i b
    cases b with
    | false => exact hq.elim
    | true =>
      rw [hv.val_inv]
      exact ⟨rfl, ev.os, ev.tape, ev.output, ev.size, fun b hb => ev.frb b hb⟩
  · exact hq.elim
/-- likewise, where package variables are known -/
def vtrueG (P : Program) (G : Globs) (f : FuncId) (xs : List TV) : Prop := vcall P G (fun _ => none) 3000 (fun _ => none) 0 f xs ⟨[], []⟩ isTrueV
theorem vtrueG_vcx {P : Program} {G : Globs} (hm : P.follows .mixedOrders = true) (hB : bodiesOk P = true) {f : FuncId} {xs : List TV} {X : Prop} (h : vtrueG P G f xs = X) (hx : X) : VCx P G 0 f xs ⟨[], []⟩ isTrueV := by
  have h1 : vtrueG P G f xs := by rw [h]; exact hx
  unfold vtrueG at h1
  exact vcall_ok hm hB specsOk_none lsOk_none h1
attribute [irreducible] vtrueG
/-- the law f returns true at xs, as far as the evaluator can tell -/
def vtrue (P : Program) (f : FuncId) (xs : List TV) : Prop := vcall P (fun _ => none) (fun _ => none) 2000 (fun _ => none) 0 f xs ⟨[], []⟩ isTrueV
theorem vtrue_vcx {P : Program} (hm : P.follows .mixedOrders = true) (hB : bodiesOk P = true) {f : FuncId} {xs : List TV} {X : Prop} (h : vtrue P f xs = X) (hx : X) : VCx P (fun _ => none) 0 f xs ⟨[], []⟩ isTrueV := by
  have h1 : vtrue P f xs := by rw [h]; exact hx
  unfold vtrue at h1
  exact vcall_ok hm hB specsOk_none lsOk_none h1
attribute [irreducible] vtrue
/-! ### Laws over a function that is known to return true (lives) -/
theorem VCx.trueOnly {P : Program} {G : Globs} {f : FuncId} {xs : List TV} (h : VCx P G 0 f xs ⟨[], []⟩ isTrueV) : VCx P G 0 f xs ⟨[], []⟩ fun x T' => x = .val (.bool true) ∧ T' = ⟨[], []⟩ := by
  refine VCx.keepQ 0 0 (Nat.le_refl _) (Nat.le_refl _) (h.mono fun x T' hx => ?_)
  unfold isTrueV at hx
  split at hx
  · rename_i b
    cases b with
    | false => exact hx.elim
    | true => exact ⟨rfl, by simp [VT.keep]⟩
  · exact hx.elim
/-- it has no arguments, and returns true -/
def trueW : Spec := fun _ ys T K => match ys with
  | [] => K (.val (.bool true)) T
  | _ :: _ => False
theorem trueW_ok {P : Program} {G : Globs} (hv : GVals G) {f : FuncId} (h : VCx P G 0 f [] ⟨[], []⟩ isTrueV) : ∀ ro ys T K, trueW ro ys T K → VCx P G ro f ys T K := by
  intro ro ys T K hk
  unfold trueW at hk
  split at hk
  · exact VCx.liftPure hv h.trueOnly rfl (fun _ _ => rfl) hk
  · exact hk.elim
def vtrueC (P : Program) (G : Globs) (C : FuncId → Option Spec) (f : FuncId) (xs : List TV) : Prop := vcall P G C 3000 (fun _ => none) 0 f xs ⟨[], []⟩ isTrueV
theorem vtrueC_vcx {P : Program} {G : Globs} {C : FuncId → Option Spec} (hm : P.follows .mixedOrders = true) (hB : bodiesOk P = true) (hC : SpecsOk P G C) {f : FuncId} {xs : List TV} {X : Prop} (h : vtrueC P G C f xs = X) (hx : X) : VCx P G 0 f xs ⟨[], []⟩ isTrueV := by
  have h1 : vtrueC P G C f xs := by rw [h]; exact hx
  unfold vtrueC at h1
  exact vcall_ok hm hB hC lsOk_none h1
attribute [irreducible] vtrueC
section
variable {H : Type} {enc : TypeId × Value → H} {P : Program} {w : World} {base : Nat} {spare : Nat → Bool} {held : Bool}
def cellTsF (P : Program) (f : TypeId → Option (List TypeId)) : Nat → List Field → Option (List TypeId)
  | _, [] => some []
  | off, fd :: r => match f fd.type with
    | some ls => bif Nat.beq fd.offset off && Nat.beq (P.cellsOf fd.type) ls.length then (cellTsF P f (off + ls.length) r).map (ls ++ ·) else none
    | none => none
/-- the types of a value's cells -/
def cellTs (P : Program) : Nat → TypeId → Option (List TypeId)
  | 0, _ => none
  | n + 1, t => match P.underlying t with
    | some (.struct fs) => cellTsF P (cellTs P n) 0 fs.toList
    | some (.array ..) => none
    | _ => some [t]
theorem cellTsF_ok {f : TypeId → Option (List TypeId)} {m : Nat} {cs : List Value}
    (hf : ∀ t ts sub x, f t = some ts → sub.length = ts.length → DataW.trod enc P w base spare held m t sub = some x → ∀ (j : Nat) t', ts[j]? = some t' → ∃ u m' y, sub[j]? = some u ∧ DataW.trod enc P w base spare held m' t' [u] = some y) :
    ∀ (l : List Field) (off : Nat) (ts : List TypeId), cellTsF P f off l = some ts → cs.length = off + ts.length → (∀ fd ∈ l, ∃ y, DataW.trod enc P w base spare held m fd.type ((cs.drop fd.offset).take (P.cellsOf fd.type)) = some y) →
      ∀ (j : Nat) t', ts[j]? = some t' → ∃ u m' y, cs[off + j]? = some u ∧ DataW.trod enc P w base spare held m' t' [u] = some y
  | [], off, ts, h, hl, hy, j, t', hj => by
    simp only [cellTsF] at h
    injection h with h; subst h
    simp at hj
  | fd :: l, off, ts, h, hl, hy, j, t', hj => by
    simp only [cellTsF] at h
    split at h
    · rename_i ls hls
      cases hb : (Nat.beq fd.offset off && Nat.beq (P.cellsOf fd.type) ls.length) with
      | false => rw [hb] at h; cases h
      | true =>
        rw [hb] at h
        simp only [Bool.and_eq_true] at hb
        have h1 := Nat.eq_of_beq_eq_true hb.1
        have h2 := Nat.eq_of_beq_eq_true hb.2
        simp only [cond_true, Option.map_eq_some_iff] at h
        obtain ⟨ts', h3, rfl⟩ := h
        rw [List.length_append] at hl
        rcases Nat.lt_or_ge j ls.length with hj' | hj'
        · rw [List.getElem?_append_left hj'] at hj
          obtain ⟨y, hy⟩ := hy fd (by simp)
          rw [h1, h2] at hy
          obtain ⟨u, m', y', k1, k2⟩ := hf _ _ _ _ hls (by rw [List.length_take, List.length_drop]; omega) hy j t' hj
          refine ⟨u, m', y', ?_, k2⟩
          rw [List.getElem?_take, if_pos hj', List.getElem?_drop] at k1
          exact k1
        · rw [List.getElem?_append_right hj'] at hj
          obtain ⟨u, m', y', k1, k2⟩ := cellTsF_ok hf l (off + ls.length) ts' h3 (by omega) (fun fd' h => hy fd' (by simp [h])) (j - ls.length) t' hj
          refine ⟨u, m', y', ?_, k2⟩
          rw [← k1]
          congr 1
          omega
    · cases h
theorem cellTs_ok : ∀ (n : Nat) (m : Nat) (t : TypeId) (ts : List TypeId) (cs : List Value) (x : DataW H × List MemPlace), cellTs P n t = some ts → cs.length = ts.length → DataW.trod enc P w base spare held m t cs = some x →
    ∀ (j : Nat) t', ts[j]? = some t' → ∃ u m' y, cs[j]? = some u ∧ DataW.trod enc P w base spare held m' t' [u] = some y
  | 0, _, _, _, _, _, h, _, _ => by simp only [cellTs] at h; cases h
  | n + 1, m, t, ts, cs, x, h, hl, ht => by
    simp only [cellTs] at h
    split at h
    · rename_i fs hs
      obtain ⟨xs, m', _, _, _, hlen, hg⟩ := DataW.trod_struct hs ht
      intro j t' hj
      have := cellTsF_ok (P := P) (enc := enc) (w := w) (base := base) (spare := spare) (held := held) (m := m') (cs := cs) (fun t ts sub x h1 h2 h3 => cellTs_ok n m' t ts sub x h1 h2 h3) fs.toList 0 ts h (by omega) ?_ j t' hj
      · simpa using this
      · intro fd hfd
        obtain ⟨i, hi, rfl⟩ := List.mem_iff_getElem.1 hfd
        have hi' : i < fs.size := by simpa using hi
        have h1 := hg i fs[i] (Array.getElem?_eq_getElem hi')
        have hx : i < xs.length := by omega
        exact ⟨xs[i], by simpa [List.getElem?_eq_getElem hx] using h1⟩
    · cases h
    · injection h with h; subst h
      intro j t' hj
      match cs, hl with
      | [u], _ =>
        have : j = 0 := by
          rcases j with _ | j
          · rfl
          · simp at hj
        subst this
        simp at hj; subst hj
        exact ⟨u, m, x, rfl, ht⟩
theorem leaf_int {m ty : Nat} {u : Value} {y : DataW H × List MemPlace} {k : IntKind} (hk : P.underlying ty = some (.int k)) (h : DataW.trod enc P w base spare held m ty [u] = some y) : ∃ n, u = .int k n ∧ (Lit.int k n).wf = true := by
  obtain ⟨n, e0, _, wn⟩ := DataW.trod_int hk h
  injection e0 with e0
  exact ⟨n, e0, wn⟩
end
end Go.Proofs.Ytgconkbnokbinaa

/- Cells of structs and slices of numbers, as arguments are. For any program. -/
namespace Go.Proofs.Ytgconkbnokbinaa
open Go.ChangeShapes Go.WideShapes Go.ChangeAt Go.RowKit Go.Joins Go.Deep

section
variable {H : Type} {enc : TypeId × Value → H} {P : Program} {w : World} {base : Nat} {spare : Nat → Bool} {held : Bool}
theorem cell_spot {r : Reach} {b0 : Nat} {t e : TypeId} {a : Addr} {n c : Nat} (ht : P.underlying t = some (.slice e)) (hv : Cell.okWide P w r b0 t (.slice (some a) n c)) : a.spot = none := by
  simp only [ht, Cell.okWide, Cell.ok] at hv
  exact hv.2.2.2.1
theorem row_cell {r : Reach} {b0 : Nat} {t : TypeId} {fs : Array Field} {cs : Array Value} (ht : P.underlying t = some (.struct fs)) (hv : Value.okWide P w r b0 t (.agg cs)) {ts : List TypeId} (hts : P.cellTypes P.depth t = some ts) (hl : cs.size = ts.length) {i : Nat} {u : TypeId} (hi : ts[i]? = some u) {v : Value} (hc : cs[i]? = some v) : Cell.okWide P w r b0 u v := by
  simp only [Value.okWide, ht] at hv
  obtain ⟨cs', h1, _, ts', h2, _, h3⟩ := hv
  injection h1 with h1; subst h1
  rw [hts] at h2; injection h2 with h2; subst h2
  obtain ⟨u', h4, h5⟩ := h3 i v hc
  have hlt := (List.getElem?_eq_some_iff.1 hi).1
  rw [Nat.mod_eq_of_lt hlt, hi] at h4
  injection h4 with h4; subst h4
  exact h5
theorem flat1 {α : Type} (f : α → TV) : ∀ l : List α, (l.map fun i => [f i]).flatten = l.map f
  | [] => rfl
  | a :: l => by simp [flat1 f l]
theorem vr_ints {r : Reach} {b0 m : Nat} {t e : TypeId} {k : IntKind} {u : Value} {y : DataW H × List MemPlace} (ht : P.underlying t = some (.slice e)) (he : P.underlying e = some (.int k)) (hc : P.cellsOf e = 1) (hok : Cell.okWide P w r b0 t u)
    (h : DataW.trod enc P w base spare held m t [u] = some y) : ∃ l : List (List TV), VR (topG w) w (.vec 1 l .none) u ∧ ∀ x ∈ l, ∃ z, x = [.val (.int k z)] ∧ (Lit.int k z).wf = true := by
  rcases open_slice1 ht hc h with ⟨hcs, _⟩ | ⟨a, len, cap, m', n', V, D, Pl, hcs, hb, hl, hm, hmm, hx, hall⟩
  · injection hcs with hcs; subst hcs
    exact ⟨[], .nil trivial, fun x h => by cases h⟩
  · injection hcs with hcs; subst hcs
    have hs := cell_spot ht hok
    obtain ⟨b, o, sp⟩ := a
    simp only at hs
    subst hs
    have hlm : len ≤ m' := by rw [hmm]; split <;> omega
    have each : ∀ i, i < len → ∃ z, V i = .int k z ∧ (Lit.int k z).wf = true := fun i hi => by
      obtain ⟨_, h2⟩ := hall i (by omega)
      obtain ⟨z, e0, wz⟩ := leaf_int he h2
      exact ⟨z, e0, wz⟩
    have cellj : ∀ j, j < len → w.cell? ⟨b, o + j, none⟩ = some (V j) := fun j hj => by
      have h1 := (hall j (by omega)).1
      have h2 : (⟨b, o, none⟩ : Addr).add j = ⟨b, o + j, none⟩ := by
        cases j <;> simp [Addr.add]
      rw [h2] at h1
      exact h1
    refine ⟨(List.range len).map fun i => [.val (V i)], ?_, ?_⟩
    · have hlen : ((List.range len).map fun i => [TV.val (V i)]).length = len := by simp
      have hfl := flat1 (fun i => TV.val (V i)) (List.range len)
      have key : VR (topG w) w (.vec 1 ((List.range len).map fun i => [TV.val (V i)]) .none) (.slice (some ⟨b, o, none⟩) ((List.range len).map fun i => [TV.val (V i)]).length cap) := by
        refine .vec (us := (List.range len).map V) (by rw [hlen]; exact hl) hm ?_ trivial (by rw [hfl]; simp) ?_ ?_ ?_ ?_
        · intro x hx
          obtain ⟨i, _, rfl⟩ := List.mem_map.1 hx
          rfl
        · intro u hu
          obtain ⟨i, hi, rfl⟩ := List.mem_map.1 hu
          obtain ⟨z, hz, _⟩ := each i (List.mem_range.1 hi)
          rw [hz]; rfl
        · intro j hj
          rw [hfl] at hj
          simp at hj
          show (w.cell? ⟨b, o + j, none⟩).isSome = true
          rw [cellj j hj]; rfl
        · intro j u hu
          rw [List.getElem?_map] at hu
          rcases Nat.lt_or_ge j len with hj | hj
          · rw [List.getElem?_range hj] at hu
            injection hu with hu; subst hu
            exact cellj j hj
          · rw [List.getElem?_eq_none (by simpa using hj)] at hu; cases hu
        · intro j x u hx hu
          rw [hfl, List.getElem?_map] at hx
          rw [List.getElem?_map] at hu
          rcases Nat.lt_or_ge j len with hj | hj
          · rw [List.getElem?_range hj] at hx hu
            injection hx with hx; subst hx
            injection hu with hu; subst hu
            exact .val _
          · rw [List.getElem?_eq_none (by simpa using hj)] at hu; cases hu
      rw [hlen] at key
      exact key
    · intro x hx
      obtain ⟨i, hi, rfl⟩ := List.mem_map.1 hx
      obtain ⟨z, hz, wz⟩ := each i (List.mem_range.1 hi)
      exact ⟨z, by rw [hz], wz⟩
end
theorem cond_tt (b : Bool) : cond b True True := by cases b <;> trivial
end Go.Proofs.Ytgconkbnokbinaa

/- A slice of structs among the arguments, read as rows. For any program. -/
namespace Go.Proofs.Ytgconkbnokbinaa
open Go.ChangeShapes Go.WideShapes Go.ChangeAt Go.RowKit Go.Joins Go.Deep

theorem flat_get {α : Type} {k : Nat} : ∀ (l : List (List α)), (∀ x ∈ l, x.length = k) → ∀ (j : Nat) u, l.flatten[j]? = some u → ∃ i c x, c < k ∧ j = i * k + c ∧ l[i]? = some x ∧ x[c]? = some u
  | [], _, j, u, h => by simp at h
  | a :: r, hz, j, u, h => by
    have ha := hz a (by simp)
    rw [List.flatten_cons] at h
    rcases Nat.lt_or_ge j a.length with hj | hj
    · rw [List.getElem?_append_left hj] at h
      exact ⟨0, j, a, by omega, by omega, rfl, h⟩
    · rw [List.getElem?_append_right hj] at h
      obtain ⟨i, c, x, h1, h2, h3, h4⟩ := flat_get r (fun x hx => hz x (by simp [hx])) _ u h
      refine ⟨i + 1, c, x, h1, ?_, by simpa using h3, h4⟩
      rw [Nat.add_mul]; omega
section
variable {P : Program} {H : Type} {enc : TypeId × Value → H} {w : World} {base : Nat} {spare : Nat → Bool} {held : Bool}
theorem vr_rows {r : Reach} {b0 m k : Nat} {t e : TypeId} {u : Value} {y : DataW H × List MemPlace} (ht : P.underlying t = some (.slice e)) (hk : P.cellsOf e = k) (hok : Cell.okWide P w r b0 t u)
    (h : DataW.trod enc P w base spare held m t [u] = some y) (hone : ∀ m cs y, DataW.trod enc P w base spare held m e cs = some y → cs.length = k → ∀ v ∈ cs, v.oneCell' = true) :
    ∃ l : List (List Value), VR (topG w) w (.vec k (l.map (·.map .val)) .none) u ∧ ∀ x ∈ l, x.length = k ∧ ∃ m y, DataW.trod enc P w base spare held m e x = some y := by
  rcases open_slice ht h with ⟨hcs, _⟩ | ⟨a, len, cap, m', n', D, Pl, hcs, hb, hl, hm, hmm, hx, hall⟩
  · injection hcs with hcs; subst hcs
    exact ⟨[], .nil trivial, fun x h => by cases h⟩
  · injection hcs with hcs; subst hcs
    have hs := cell_spot ht hok
    obtain ⟨b, o, sp⟩ := a
    simp only at hs
    subst hs
    rw [hk] at hall
    have hlm : len ≤ m' := by rw [hmm]; split <;> omega
    obtain ⟨V, hV⟩ := choose_lt (α := List Value) (p := fun i cs' => w.cells? base ((⟨b, o, none⟩ : Addr).add (i * k)) k = some cs' ∧ DataW.trod enc P w base spare held n' e cs' = some (D i, Pl i)) (fun i hi => hall i hi)
    have each : ∀ i, i < len → (V i).length = k ∧ (∀ c, c < k → w.cell? ⟨b, o + (i * k + c), none⟩ = (V i)[c]?) ∧ ∃ y, DataW.trod enc P w base spare held n' e (V i) = some y := fun i hi => by
      obtain ⟨h1, h2⟩ := hV i (by omega)
      obtain ⟨_, h3, h4⟩ := World.cells?_some h1
      refine ⟨h3, fun c hc => ?_, _, h2⟩
      rw [← h4 c hc]
      congr 1
      simp [Addr.add_none, Nat.add_assoc]
    have hz : ∀ x ∈ (List.range len).map V, x.length = k := fun x hx => by
      obtain ⟨i, hi, rfl⟩ := List.mem_map.1 hx
      exact (each i (List.mem_range.1 hi)).1
    have at1 : ∀ (i : Nat) x, ((List.range len).map V)[i]? = some x → i < len ∧ x = V i := fun i x hx => by
      rw [List.getElem?_map] at hx
      rcases Nat.lt_or_ge i len with hi | hi
      · rw [List.getElem?_range hi] at hx
        injection hx with hx
        exact ⟨hi, hx.symm⟩
      · rw [List.getElem?_eq_none (by simpa using hi)] at hx; cases hx
    have hfl : (((List.range len).map V).map (·.map TV.val)).flatten = ((List.range len).map V).flatten.map TV.val := by rw [List.map_flatten]
    have hlen : (((List.range len).map V).map (·.map TV.val)).length = len := by simp
    refine ⟨(List.range len).map V, ?_, ?_⟩
    · have key : VR (topG w) w (.vec k (((List.range len).map V).map (·.map TV.val)) .none) (.slice (some ⟨b, o, none⟩) (((List.range len).map V).map (·.map TV.val)).length cap) := by
        refine .vec (us := ((List.range len).map V).flatten) (by rw [hlen]; exact hl) hm ?_ trivial (by rw [hfl, List.length_map]) ?_ ?_ ?_ ?_
        · intro x hx
          obtain ⟨x', hx', rfl⟩ := List.mem_map.1 hx
          rw [List.length_map]; exact hz x' hx'
        · intro u hu
          obtain ⟨x, hx, hu⟩ := List.mem_flatten.1 hu
          obtain ⟨i, hi, rfl⟩ := List.mem_map.1 hx
          obtain ⟨e1, _, y, e3⟩ := each i (List.mem_range.1 hi)
          exact hone _ _ _ e3 e1 u hu
        · intro j hj
          rw [hfl, List.length_map] at hj
          obtain ⟨i, c, x, h1, h2, h3, h4⟩ := flat_get _ hz j _ (List.getElem?_eq_getElem hj)
          obtain ⟨hi, rfl⟩ := at1 i x h3
          show (w.cell? ⟨b, o + j, none⟩).isSome = true
          rw [h2, (each i hi).2.1 c h1, h4]; rfl
        · intro j u hu
          obtain ⟨i, c, x, h1, h2, h3, h4⟩ := flat_get _ hz j u hu
          obtain ⟨hi, rfl⟩ := at1 i x h3
          rw [h2, (each i hi).2.1 c h1, h4]
        · intro j x u hx hu
          rw [hfl, List.getElem?_map, hu] at hx
          injection hx with hx; subst hx
          exact .val _
      rw [hlen] at key
      exact key
    · intro x hx
      obtain ⟨i, hi, rfl⟩ := List.mem_map.1 hx
      obtain ⟨e1, _, y, e3⟩ := each i (List.mem_range.1 hi)
      exact ⟨e1, _, y, e3⟩
theorem rows_of {α : Type} (f : α → List TV) : ∀ (rows : List (List Value)), (∀ x ∈ rows, ∃ b, x.map TV.val = f b) → ∃ l : List α, rows.map (·.map TV.val) = l.map f
  | [], _ => ⟨[], rfl⟩
  | x :: r, h => by
    obtain ⟨b, hb⟩ := h x (by simp)
    obtain ⟨l, hl⟩ := rows_of f r fun x hx => h x (by simp [hx])
    exact ⟨b :: l, by simp [hb, hl]⟩
end
end Go.Proofs.Ytgconkbnokbinaa

/- Evaluation with what is told: loops by contracts on some slots, contracts of functions at given arguments, told looks. For any program. -/
namespace Go.Proofs.Ytgconkbnokbinaa
open Go.RowKit

section
variable {P : Program} {G : Globs}
/-! ### Some slots -/
def lookO : List Nat → List TV → Nat → Option TV
  | k :: ks, v :: vs, i => bif Nat.beq k i then some v else lookO ks vs i
  | _, _, _ => none
def slotsO (n : Nat) (keys : List Nat) (vs : List TV) : List (Option TV) := (List.range n).map (lookO keys vs)
def slotsN (n : Nat) (keys : List Nat) (vs : List TV) : List TV := slots (slotsO n keys vs)
def pick (keys : List Nat) (σ : List TV) : List TV := keys.map fun t => σ.getD t .dead
theorem lookO_pick (σ : List TV) : ∀ (keys : List Nat) (i : Nat) (x : TV), lookO keys (pick keys σ) i = some x → x = σ.getD i .dead
  | [], _, _, h => by simp [lookO, pick] at h
  | k :: ks, i, x, h => by
    simp only [pick, List.map_cons, lookO] at h
    cases hb : Nat.beq k i with
    | true =>
      rw [hb] at h
      have := Nat.eq_of_beq_eq_true hb
      subst this
      injection h with h; exact h.symm
    | false => rw [hb] at h; exact lookO_pick σ ks i x h
theorem les_of : ∀ (σ : List TV) (m : List (Option TV)), m.length = σ.length → (∀ (i : Nat) x, m[i]? = some (some x) → x = σ.getD i .dead) → LEs σ m
  | [], [], _, _ => trivial
  | [], _ :: _, h, _ => by simp at h
  | _ :: _, [], h, _ => by simp at h
  | x :: l, none :: m, h, k => les_of l m (by simpa using h) fun i y hy => by simpa using k (i + 1) y (by simpa using hy)
  | x :: l, some y :: m, h, k => ⟨by simpa using (k 0 y rfl).symm, les_of l m (by simpa using h) fun i y hy => by simpa using k (i + 1) y (by simpa using hy)⟩
theorem les_pick (σ : List TV) (keys : List Nat) : LEs σ (slotsO σ.length keys (pick keys σ)) := by
  refine les_of _ _ (by simp [slotsO]) fun i x hx => ?_
  simp only [slotsO, List.getElem?_map, Option.map_eq_some_iff] at hx
  obtain ⟨j, hj, hx⟩ := hx
  have e : j = i := by
    have := (List.getElem?_eq_some_iff.1 hj).2
    simpa using this.symm
  subst e
  exact lookO_pick σ keys j x hx
theorem pick_ren (f h : Nat → Option Nat) (keys : List Nat) (σ : List TV) : pick keys (renL f h σ) = renL f h (pick keys σ) := by
  simp only [pick, renL_map, List.map_map]
  refine List.map_congr_left fun t _ => ?_
  simp only [Function.comp_apply, List.getD_eq_getElem?_getD, List.getElem?_map]
  cases σ[t]? <;> simp [TV.ren]
/-- what is behind code, told of some slots alone -/
def pickS (keys : List Nat) (Q : Exit → List TV → VT → List Nat → Nat → Prop) : KX := fun e σ T D => Q e (pick keys σ) T D σ.length
/-- of the other slots nothing is known any more -/
theorem VWx.forget {rd : Option Nat} {ro : Nat} {c : Code} {σ : List TV} {T : VT} {n : Nat} {keys : List Nat} {K : KX} {Q : Exit → List TV → VT → Prop} (h : VWx P G rd ro c σ T [] (pickS keys fun e vs T D m => D = [] ∧ m = n ∧ Q e vs T))
    (k : ∀ e vs T, Q e vs T → K e (slotsN n keys vs) T []) : VWx P G rd ro c σ T [] K := by
  intro r g w a rw0 hG hσ hd hD hr
  refine wpIn_mono (h r g w a rw0 hG hσ hd hD hr) ?_
  rintro e a' w' ⟨g', σ', T', D', ⟨rfl, rfl, hq⟩, e', r', hσ', h⟩
  exact ⟨g', _, T', [], k _ _ _ hq, e', r', (les_pick σ' keys).ok hσ', h⟩

/-! ### Loops -/
/-- behind a round: at the next state; or out of the loop -/
def loopQ {ι : Type} (n id : Nat) (μ : ι → Nat) (sl : ι → List TV) (tt : ι → VT) (Inv : ι → Prop) (N M : Nat) (s : ι) (Post : Exit → List TV → VT → Prop) : Exit → List TV → VT → List Nat → Nat → Prop := fun e vs T D m => D = [] ∧ m = n ∧ match e with
  | .normal => ∃ s', Inv s' ∧ μ s' < μ s ∧ ((T = tt s' ∧ vs = sl s') ∨ (T.keep N M = tt s' ∧ renL (Go.Proofs.Ytgconkbnokbinaa.keep N) (Go.Proofs.Ytgconkbnokbinaa.keep M) vs = sl s'))
  | .exit i => cond (Nat.beq i id) (Post .normal vs T) (Post (.exit i) vs T)
  | e => Post e vs T
theorem loopK {ι : Type} {f : FuncId} {id : Nat} (hc : isLoopBlock id (codeAt P f id) = true) (n : Nat) (keys : List Nat) (μ : ι → Nat) (sl : ι → List TV) (tt : ι → VT) (Inv : ι → Prop) (N M : Nat) (hN : ∀ s, Inv s → (tt s).objs.length ≤ N ∧ (tt s).tails.length ≤ M) (Post : Exit → List TV → VT → Prop)
    (hbody : ∀ s, Inv s → VWx P G none 0 (loopAt P f id) (slotsN n keys (sl s)) (tt s) [] (pickS keys (loopQ n id μ sl tt Inv N M s Post))) :
    ∀ s, Inv s → ∀ K : KX, (∀ e vs T, Post e vs T → K e (slotsN n keys vs) T []) → VWx P G none 0 (codeAt P f id) (slotsN n keys (sl s)) (tt s) [] K := by
  intro s hs K hK
  refine VWx.forget (n := n) (keys := keys) (Q := Post) ?_ hK
  refine VWx.blockS hc μ (fun s => slotsO n keys (sl s)) tt Inv N M hN (by simp) (fun s hs => (hbody s hs).mono fun e σ T D hq => ?_) s hs
  obtain ⟨rfl, hm, hq⟩ := hq
  cases e
  case normal =>
    refine ⟨rfl, ?_⟩
    obtain ⟨s', h1, h2, h3⟩ := hq
    refine ⟨s', h1, h2, ?_⟩
    rcases h3 with ⟨h3, h4⟩ | ⟨h3, h4⟩
    · left; refine ⟨h3, ?_⟩
      show LEs σ (slotsO n keys (sl s'))
      rw [← h4, ← hm]; exact les_pick σ keys
    · right; refine ⟨h3, ?_⟩
      show LEs _ (slotsO n keys (sl s'))
      rw [← h4, ← pick_ren, ← hm]
      have := les_pick (renL (Go.Proofs.Ytgconkbnokbinaa.keep N) (Go.Proofs.Ytgconkbnokbinaa.keep M) σ) keys
      rwa [show (renL (Go.Proofs.Ytgconkbnokbinaa.keep N) (Go.Proofs.Ytgconkbnokbinaa.keep M) σ).length = σ.length by rw [renL_map]; simp] at this
  case exit i =>
    simp only [vthen, vblock]
    simp only at hq
    cases hb : Nat.beq i id <;> rw [hb] at hq
    · exact ⟨rfl, hm, hq⟩
    · exact ⟨rfl, hm, hq⟩
  all_goals exact ⟨rfl, hm, hq⟩
/-- an empty slice gets a tail -/
theorem VWx.adopt {rd : Option Nat} {ro : Nat} {c : Code} {σ : List TV} {T : VT} {D : List Nat} {Q : KX} (d size : Nat) (hd : σ[d]? = some (.val (.slice none 0 0)))
    (h : VWx P G rd ro c (σ.set d (.vec size [] (.tail T.tails.length 0))) { T with tails := T.tails ++ [(0, size, true)] } D Q) : VWx P G rd ro c σ T D Q := by
  intro r g w a rw0 hG hσ hdf hDs hrd
  obtain ⟨g1, e1, r1, ht⟩ := rw0.newTail size true
  obtain ⟨u, hu, hv⟩ := hσ.at hd
  have hv' := hv.val_inv
  subst hv'
  have h2 := (hσ.mono e1).set d (x := .vec size [] (.tail T.tails.length 0)) (u := .slice none 0 0) (.nil ⟨_, ht, Nat.le_refl _, rfl⟩)
  have h3 : a.tmps.toList.set d (.slice none 0 0) = a.tmps.toList := by
    apply List.ext_getElem?
    intro j
    rw [List.getElem?_set]
    split
    · rename_i hj; subst hj; rw [hu, if_pos (List.getElem?_eq_some_iff.1 hu).1]
    · rfl
  rw [h3] at h2
  refine wpIn_mono (h r g1 w a r1 (hG.mono e1) h2 (hdf.trans (mk_evo e1 hDs).symm) (isSome_evo e1 hDs) (rd_evo e1 hrd)) ?_
  rintro e a' w' ⟨g', σ', T', D', hq, e2, r', hσ', hd', hD', hx⟩
  exact ⟨g', σ', T', D', hq, e1.trans e2, r', hσ', hd', hD', ⟨hx.len, fun i hi hl => hx.same i hi hl, fun i o b hi ho hl hb => hx.heap i o b hi ho hl (e1.obj i b hb)⟩⟩
/-- at a loop: which slots it looks at, and what is in them; which empty slices get a tail ahead of it; what it leaves -/
def adoptAll : List (Nat × Nat) → List TV → VT → List TV × VT
  | [], σ, T => (σ, T)
  | p :: l, σ, T => adoptAll l (σ.set p.1 (.vec p.2 [] (.tail T.tails.length 0))) { T with tails := T.tails ++ [(0, p.2, true)] }
def adoptOk : List (Nat × Nat) → List TV → Prop
  | [], _ => True
  | p :: l, σ => σ[p.1]? = some (.val (.slice none 0 0)) ∧ adoptOk l (σ.set p.1 .dead)
def loopL (n : Nat) (keys : List Nat) (ad : List (Nat × Nat)) (vs0 : List TV) (T0 : VT) (R : KX → Prop) : LSpec := fun rd ro σ T D K => (rd = none ∧ ro = 0 ∧ D = [] ∧ adoptOk ad σ ∧ (adoptAll ad σ T).2 = T0 ∧ Nat.beq σ.length n = true ∧ pick keys (adoptAll ad σ T).1 = vs0) ∧ R K
theorem adopt_all {rd : Option Nat} {ro : Nat} {c : Code} {D : List Nat} {Q : KX} : ∀ (ad : List (Nat × Nat)) (σ σ' : List TV) (T : VT), adoptOk ad σ' → (∀ (i : Nat), σ'[i]? = some (.val (.slice none 0 0)) → σ[i]? = some (.val (.slice none 0 0))) → σ.length = σ'.length →
    VWx P G rd ro c (adoptAll ad σ T).1 (adoptAll ad σ T).2 D Q → VWx P G rd ro c σ T D Q
  | [], _, _, _, _, _, _, h => h
  | p :: l, σ, σ', T, ho, hs, hl, h => by
    obtain ⟨h1, h2⟩ := ho
    refine VWx.adopt p.1 p.2 (hs _ h1) (adopt_all l _ (σ'.set p.1 .dead) _ h2 (fun i hi => ?_) (by simpa using hl) h)
    rw [List.getElem?_set] at hi ⊢
    split
    · rename_i e; subst e; rw [if_pos rfl] at hi; split at hi <;> simp at hi
    · rename_i e; rw [if_neg e] at hi; exact hs i hi
theorem adoptAll_len : ∀ (ad : List (Nat × Nat)) (σ : List TV) (T : VT), (adoptAll ad σ T).1.length = σ.length
  | [], _, _ => rfl
  | p :: l, σ, T => by rw [adoptAll, adoptAll_len l]; simp
theorem loopL_ok {c : Code} {n : Nat} {keys : List Nat} {ad : List (Nat × Nat)} {vs0 : List TV} {T0 : VT} {R : KX → Prop} (h : ∀ K, R K → VWx P G none 0 c (slotsN n keys vs0) T0 [] K) :
    ∀ rd ro σ T D K, loopL n keys ad vs0 T0 R rd ro σ T D K → VWx P G rd ro c σ T D K := by
  rintro rd ro σ T D K ⟨⟨rfl, rfl, rfl, ha, rfl, hn, rfl⟩, hR⟩
  obtain rfl := Nat.eq_of_beq_eq_true hn
  refine adopt_all ad σ σ T ha (fun _ h => h) rfl ((h K hR).sub fun g w us hu => ?_)
  have := (les_pick (adoptAll ad σ T).1 keys).ok hu
  rwa [adoptAll_len] at this
def specsL : List (Nat × LSpec × Code) → Nat → Option (LSpec × Code)
  | [], _ => none
  | (i, W, c) :: l, j => bif Nat.beq i j then some (W, c) else specsL l j
theorem specsL_ok : ∀ {l : List (Nat × LSpec × Code)}, (∀ p ∈ l, ∀ rd ro σ T D K, p.2.1 rd ro σ T D K → VWx P G rd ro p.2.2 σ T D K) → LsOk P G (specsL l)
  | [], _ => fun _ _ _ h => by cases h
  | (i, W, c) :: l, h => fun j W' c' hW => by
    simp only [specsL] at hW
    cases hb : Nat.beq i j with
    | true =>
      rw [hb] at hW
      injection hW with hW; injection hW with h1 h2; subst h1 h2
      exact h _ List.mem_cons_self
    | false =>
      rw [hb] at hW
      exact specsL_ok (fun p hp => h p (List.mem_cons_of_mem _ hp)) j W' c' hW

/-! ### Contracts at given arguments -/
def pureAt (xs : List TV) (y : TV) : Spec := fun _ ys T K => ys = xs ∧ K y T
theorem pureAt_ok {f : FuncId} {xs : List TV} {y : TV} (hv : GVals G) (hx : renL (nameIn []) (nameIn []) xs = xs) (hy : ∀ f h, y.ren f h = y) (h : VCx P G 0 f xs ⟨[], []⟩ fun x T' => x = y ∧ T' = ⟨[], []⟩) :
    ∀ ro ys T K, pureAt xs y ro ys T K → VCx P G ro f ys T K := by
  rintro ro ys T K ⟨rfl, hk⟩
  exact VCx.liftPure hv h hx hy hk
/-- likewise, if R -/
def pureIf (R : Prop) (xs : List TV) (y : TV) : Spec := fun _ ys T K => R ∧ ys = xs ∧ K y T
theorem pureIf_ok {f : FuncId} {R : Prop} {xs : List TV} {y : TV} (hv : GVals G) (hx : renL (nameIn []) (nameIn []) xs = xs) (hy : ∀ f h, y.ren f h = y) (h : R → VCx P G 0 f xs ⟨[], []⟩ fun x T' => x = y ∧ T' = ⟨[], []⟩) :
    ∀ ro ys T K, pureIf R xs y ro ys T K → VCx P G ro f ys T K := by
  rintro ro ys T K ⟨hR, rfl, hk⟩
  exact VCx.liftPure hv (h hR) hx hy hk
/-- likewise, of VCalls -/
theorem VCx.ofCalls {f : FuncId} {xs : List TV} {y : TV} (hx : renL (nameIn []) (nameIn []) xs = xs) (h : VCalls P f xs ⟨[], []⟩ fun x T' => x = y ∧ T' = ⟨[], []⟩) (hy : ∀ f h, y.ren f h = y) : VCx P G 0 f xs ⟨[], []⟩ fun x T' => x = y ∧ T' = ⟨[], []⟩ :=
  (VCx.of_pure (T := ⟨[], []⟩) h hx).mono fun x T' hq => by
    obtain ⟨h1, h2⟩ := hq
    exact ⟨by rw [h1, hy], h2⟩

/-- a function of numbers: what it gives, out of its arguments -/
def fnW (D : List TV → Option TV) : Spec := fun _ ys T K => match D ys with
  | some y => K y T
  | none => False
theorem fnW_ok {f : FuncId} {D : List TV → Option TV} (hv : GVals G) (h : ∀ ys y, D ys = some y → renL (nameIn []) (nameIn []) ys = ys ∧ (∀ f h, y.ren f h = y) ∧ VCx P G 0 f ys ⟨[], []⟩ fun x T' => x = y ∧ T' = ⟨[], []⟩) :
    ∀ ro ys T K, fnW D ro ys T K → VCx P G ro f ys T K := by
  intro ro ys T K hk
  unfold fnW at hk
  split at hk
  · rename_i y hy
    obtain ⟨h1, h2, h3⟩ := h ys y hy
    exact VCx.liftPure hv h3 h1 h2 hk
  · exact hk.elim

/-- what is reckoned is so -/
theorem vx_is {C : FuncId → Option Spec} (hm : P.follows .mixedOrders = true) (hB : bodiesOk P = true) (hC : SpecsOk P G C) {F : Ora} {n : Nat} {L : Nat → Option (LSpec × Code)} (hL : LsOk P G L) {rd : Option Nat} {ro : Nat} {c : Code} {σ : List TV} {T : VT} {D : List Nat} {K : KX} {X : Prop}
    (h : vx P G C F n L rd ro c σ T D K = X) (hx : X) : VWx P G rd ro c σ T D K := vx_ok hm hB hC n n (Nat.le_refl _) F L hL _ _ _ _ _ _ _ (by rw [h]; exact hx)
theorem vcallF_is {C : FuncId → Option Spec} (hm : P.follows .mixedOrders = true) (hB : bodiesOk P = true) (hC : SpecsOk P G C) {F : Ora} {n : Nat} {L : Nat → Option (LSpec × Code)} (hL : LsOk P G L) {ro : Nat} {f : FuncId} {xs : List TV} {T : VT} {K : TV → VT → Prop} {X : Prop}
    (h : vcallF P G C F n L ro f xs T K = X) (hx : X) : VCx P G ro f xs T K := vcallF_ok hm hB hC hL (by rw [h]; exact hx)

/-! ### Told looks -/
def tellF : List (Nat × TV) → Nat → Option (TV × Option VT)
  | [], _ => none
  | (t, x) :: l, s => bif Nat.beq t s then some (x, none) else tellF l s
/-- at the operations of these slots -/
def tell (l : List (Nat × TV)) : Ora := fun o _ _ => match o.dst with
  | some d => tellF l d
  | none => none
theorem vindex_vec {t e : TypeId} {inf : TypeInfo} {es : List (List TV)} {tok : Tok} {k : IntKind} {z : Int} {cs : List TV} (ht : P.underlying t = some (.slice e)) (hi : P.info? e = some inf) (h0 : 0 ≤ z) (he : es[z.toNat]? = some cs) :
    vindexAddr P t (.vec inf.size es tok) (.val (.int k z)) = some (.elt cs) := by
  simp [vindexAddr, ht, hi, h0, he]
theorem opure_index {t e : TypeId} {x i : Operand} {l : List (Nat × TV)} {inf : TypeInfo} {es : List (List TV)} {tok : Tok} {k : IntKind} {z : Int} {cs : List TV} (ht : P.underlying t = some (.slice e)) (hi : P.info? e = some inf)
    (hx : evOf G l x = .vec inf.size es tok) (hz : evOf G l i = .val (.int k z)) (h0 : 0 ≤ z) (he : es[z.toNat]? = some cs) : OPure P G (.indexAddr t x i) l (.elt cs) := by
  refine ⟨?_⟩
  simp only [vpure2, hx, hz, vindexR, vindex_vec ht hi h0 he]
end
end Go.Proofs.Ytgconkbnokbinaa

/- Told operations: parts of slices, appends; a loop's slots, loosened. For any program. -/
namespace Go.Proofs.Ytgconkbnokbinaa
open Go.RowKit

section
variable {P : Program} {G : Globs}
/-! ### A slice's tail is let go -/
def looseTV : TV → TV
  | .vec s es _ => .vec s es .none
  | x => x
theorem looseTV_ok {g : Gh} {w : World} {x : TV} {u : Value} (h : VR g w x u) : VR g w (looseTV x) u := by
  cases x with
  | vec s es t =>
    rcases h.vec_inv with ⟨rfl, rfl, h1⟩ | ⟨b, o, c, us, rfl, f1, f2, f3, f4, f5, f6, f7, f8⟩ | ⟨a, rfl, rfl, _⟩
    rotate_left 2
    · exact .odd a trivial
    · exact .nil trivial
    · exact .mk_vec rfl f1 f2 f3 trivial f5 f6 f7 f8
  | _ => exact h
def looseAll : List Nat → List TV → List TV
  | [], σ => σ
  | t :: l, σ => looseAll l (σ.set t (looseTV (σ.getD t .dead)))
theorem looseAll_ok {g : Gh} {w : World} : ∀ (l : List Nat) {σ : List TV} {us : List Value}, VRs g w σ us → VRs g w (looseAll l σ) us
  | [], _, _, h => h
  | t :: l, σ, us, h => by
    refine looseAll_ok l ⟨by simpa using h.1, fun j x u hx hu => ?_⟩
    rw [List.getElem?_set] at hx
    split at hx
    · rename_i e; subst e
      split at hx
      · rename_i hl
        injection hx with hx; subst hx
        refine looseTV_ok (h.2 t _ u ?_ hu)
        rw [List.getD_eq_getElem?_getD, List.getElem?_eq_getElem hl]; rfl
      · cases hx
    · exact h.2 j x u hx hu
theorem looseAll_len : ∀ (l : List Nat) (σ : List TV), (looseAll l σ).length = σ.length
  | [], _ => rfl
  | t :: l, σ => by rw [looseAll, looseAll_len l]; simp
/-- at a loop: as loopL; the slices in the slots lo lose their tails -/
def loopM (n : Nat) (keys : List Nat) (ad : List (Nat × Nat)) (lo : List Nat) (vs0 : List TV) (T0 : VT) (R : KX → Prop) : LSpec := fun rd ro σ T D K => (rd = none ∧ ro = 0 ∧ D = [] ∧ adoptOk ad σ ∧ (adoptAll ad σ T).2 = T0 ∧ Nat.beq σ.length n = true ∧ pick keys (looseAll lo (adoptAll ad σ T).1) = vs0) ∧ R K
theorem loopM_ok {c : Code} {n : Nat} {keys : List Nat} {ad : List (Nat × Nat)} {lo : List Nat} {vs0 : List TV} {T0 : VT} {R : KX → Prop} (h : ∀ K, R K → VWx P G none 0 c (slotsN n keys vs0) T0 [] K) :
    ∀ rd ro σ T D K, loopM n keys ad lo vs0 T0 R rd ro σ T D K → VWx P G rd ro c σ T D K := by
  rintro rd ro σ T D K ⟨⟨rfl, rfl, rfl, ha, rfl, hn, rfl⟩, hR⟩
  obtain rfl := Nat.eq_of_beq_eq_true hn
  refine adopt_all ad σ σ T ha (fun _ h => h) rfl ((h K hR).sub fun g w us hu => ?_)
  have := (les_pick (looseAll lo (adoptAll ad σ T).1) keys).ok (looseAll_ok lo hu)
  rwa [looseAll_len, adoptAll_len] at this

/-! ### What is told of operations that turn something -/
def tellFT : List (Nat × TV × Option VT) → Nat → Option (TV × Option VT)
  | [], _ => none
  | (t, x) :: l, s => bif Nat.beq t s then some x else tellFT l s
def tells (l : List (Nat × TV × Option VT)) : Ora := fun o _ _ => match o.dst with
  | some d => tellFT l d
  | none => none
/-! ### Parts of a slice -/
theorem opure_hi {t e : TypeId} {x i : Operand} {l : List (Nat × TV)} {inf : TypeInfo} {es : List (List TV)} {tok : Tok} {k : IntKind} {z : Int} (ht : P.underlying t = some (.slice e)) (hi : P.info? e = some inf)
    (hx : evOf G l x = .vec inf.size es tok) (hz : evOf G l i = .val (.int k z)) (h0 : 0 ≤ z) (he : z.toNat ≤ es.length) : OPure P G (.slice t x none (some i) none) l (.vec inf.size (es.take z.toNat) .none) := by
  refine ⟨?_⟩
  simp [vpure2, hx, hz, vslice3, vsliceR, vsliceN, vslice, ht, hi, lowOf, natOf, h0, he]
theorem opure_lo {t e : TypeId} {x i : Operand} {l : List (Nat × TV)} {inf : TypeInfo} {es : List (List TV)} {tok : Tok} {k : IntKind} {z : Int} (ht : P.underlying t = some (.slice e)) (hi : P.info? e = some inf)
    (hx : evOf G l x = .vec inf.size es tok) (hz : evOf G l i = .val (.int k z)) (h0 : 0 ≤ z) (he : z.toNat ≤ es.length) : OPure P G (.slice t x (some i) none none) l (.vec inf.size (es.drop z.toNat) tok) := by
  refine ⟨?_⟩
  simp [vpure2, hx, hz, vslice3, vsliceR, vsliceN, vslice, ht, hi, lowOf, natOf, h0, he]
/-! ### Appends -/
theorem oturn_app {ro : Nat} {T T1 : VT} {t e tx : TypeId} {s x : Operand} {l : List (Nat × TV)} {inf : TypeInfo} {z : Value} {es es2 : List (List TV)} {k n : Nat} {bn : Bool} (ht : P.underlying t = some (.slice e)) (hi : P.info? e = some inf) (hz : inf.zero = some z) (hzs : z.cells.size = inf.size) (hp : 0 < inf.size)
    (hsl : isSl (P.underlying tx) = true) (hs : vadopt T inf.size (evOf G l s) = some (es, k, n, bn, T1)) (hx : srcOf inf.size (evOf G l x) = some es2) (hb : (es.length + es2.length) * (inf.bytes + 1) ≤ 140737488355328) :
    OTurn P G ro T (.call ⟨.builtin .append, #[s, x], #[t, tx]⟩) l (.vec inf.size (es ++ es2) (.tail k (n + es2.length))) { T1 with tails := T1.tails.set k (n + es2.length, inf.size, bn) } := by
  refine .old rfl ?_
  have h1 : vappend P T t tx (evOf G l s) (evOf G l x) = some (.vec inf.size (es ++ es2) (.tail k (n + es2.length)), { T1 with tails := T1.tails.set k (n + es2.length, inf.size, bn) }) := by
    simp [vappend, ht, hi, hz, hs, hx, hzs, hp, hsl, hb]
  simp [vop, vread, vcalls, vwrite, h1]
end
end Go.Proofs.Ytgconkbnokbinaa

/- Contracts at arguments whose slices lose their tails. For any program. -/
namespace Go.Proofs.Ytgconkbnokbinaa
open Go.RowKit

section
variable {P : Program} {G : Globs}
theorem VRs.loose {g : Gh} {w : World} {xs : List TV} {us : List Value} (h : VRs g w xs us) : VRs g w (xs.map looseTV) us := by
  refine ⟨by simpa using h.1, fun j x u hx hu => ?_⟩
  simp only [List.getElem?_map, Option.map_eq_some_iff] at hx
  obtain ⟨y, hy, rfl⟩ := hx
  exact looseTV_ok (h.2 j y u hy hu)
theorem VCx.loose {ro : Nat} {f : FuncId} {xs : List TV} {T : VT} {Q : TV → VT → Prop} (h : VCx P G ro f (xs.map looseTV) T Q) : VCx P G ro f xs T Q := fun g w us r hG hx => h g w us r hG hx.loose
/-- as liftPure -/
theorem VCx.loosePure {ro : Nat} {f : FuncId} {xs ys : List TV} {T : VT} {y : TV} {K : TV → VT → Prop} (hv : GVals G) (h : VCx P G 0 f xs ⟨[], []⟩ fun x T' => x = y ∧ T' = ⟨[], []⟩) (hy : ys.map looseTV = xs) (hx : renL (nameIn []) (nameIn []) xs = xs) (hr : ∀ f h, y.ren f h = y) (k : K y T) : VCx P G ro f ys T K :=
  VCx.loose (VCx.liftPure hv h (by rw [hy]; exact hx) hr k)
/-- what it gives is not known, but for Y -/
theorem VCx.looseAny {ro : Nat} {f : FuncId} {xs ys : List TV} {T : VT} {Y : TV → Prop} {K : TV → VT → Prop} (hv : GVals G) (h : VCx P G 0 f xs ⟨[], []⟩ fun x T' => Y x ∧ T' = ⟨[], []⟩) (hy : ys.map looseTV = xs) (hx : renL (nameIn []) (nameIn []) xs = xs) (hr : ∀ y, Y y → ∀ f h, y.ren f h = y) (k : ∀ y, Y y → K y T) : VCx P G ro f ys T K := by
  refine VCx.loose ((VCx.lift (xs := xs) (T := T) [] [] hv List.nodup_nil List.nodup_nil (by simp) (by simp) (by simp) (by rw [hy]; exact hx) (by rw [VT.give_nil]; exact h) (fun _ _ _ => ⟨Nat.zero_le _, Nat.zero_le _⟩)).mono ?_)
  rintro z T' ⟨x, T'', ⟨hY, rfl⟩, rfl, rfl⟩
  have hb : T.back [] [] ⟨[], []⟩ = T := by rw [VT.back_nil]; cases T; simp
  rw [hr x hY, hb]; exact k x hY
theorem condF {b : Bool} {X Y : Prop} (h : b = false) (k : Y) : cond b X Y := by subst h; exact k
theorem condT {b : Bool} {X Y : Prop} (h : b = true) (k : X) : cond b X Y := by subst h; exact k
end
end Go.Proofs.Ytgconkbnokbinaa

/- Contracts of functions that give a new row of numbers, as the evaluator wants them. For any program. -/
namespace Go.Proofs.Ytgconkbnokbinaa
open Go.RowKit

section
variable {P : Program} {G : Globs}
theorem flatV1 (vs : List Value) : (vs.map fun v => [TV.val v]).flatten = vs.map .val := by
  induction vs with
  | nil => rfl
  | cons a l ih => simp [ih]
theorem VCx.ofRets {f : FuncId} {us : List Value} {ty : TypeId} {vs : List Value} (h1 : ∀ v ∈ vs, v.oneCell' = true) (hm : vs.length ≤ maxLen)
    (h : ∀ w, Calls P f us.toArray w (Rets w fun v w' => w'.ownsRow w.heap.size ty 1 v vs.length vs)) : VCx P G 0 f (us.map .val) ⟨[], []⟩ fun x T' => x = .vec 1 (vs.map fun v => [.val v]) .none ∧ T' = ⟨[], []⟩ := by
  intro g w us' r hG hx
  obtain rfl : us' = us := toVals_ok (by simp [toVal, Function.comp_def]) hx
  refine (h w).mono ?_
  rintro e w' ⟨v, rfl, gr, hl, hown⟩
  have r1 := r.gr gr
  have e1 := Evo.of_gr r gr
  rcases hown with ⟨rfl, h0⟩ | ⟨b, cap, cur, rfl, hb, hg, hnc, hcm, hcs, htk⟩
  · have : vs = [] := List.eq_nil_of_length_eq_zero (by omega)
    subst this
    exact ⟨_, _, g, _, rfl, ⟨rfl, rfl⟩, e1, r1, .nil trivial, ⟨by simp, fun i hi => absurd hi (Nat.not_lt_zero i), fun i o b hi => absurd hi (Nat.not_lt_zero i)⟩⟩
  · have hnf : ¬ g.fr b := fun hf => by have := r.fr b hf; omega
    have hcell : ∀ (j : Nat) u, vs[j]? = some u → w'.cell? ⟨b, 0 + j, none⟩ = some u := fun j u hu => by
      have hj := (List.getElem?_eq_some_iff.1 hu).1
      unfold World.cell?
      simp only [hg, Nat.zero_add]
      rw [← htk, List.getElem?_take, if_pos (by omega)] at hu
      simpa using hu
    refine ⟨_, _, g.addSt b (fun o => o < vs.length), _, rfl, ⟨rfl, rfl⟩, e1.trans (Evo.addSt hnf), r1.addSt hnf (fun id o h => by simp at h) (fun k x o hx => by rw [r1.tout k (Nat.zero_le _)] at hx; cases hx) (fun o ho => ?_), ?_, ⟨by simp, fun i hi => absurd hi (Nat.not_lt_zero i), fun i o b hi => absurd hi (Nat.not_lt_zero i)⟩⟩
    · have := hcell o _ (List.getElem?_eq_getElem ho)
      rw [Nat.zero_add] at this
      rw [this]; rfl
    · refine .mk_vec (us := vs) (by simp) (by simpa using hnc) hcm (fun e he => by obtain ⟨v, _, rfl⟩ := List.mem_map.1 he; rfl) trivial (by rw [flatV1]; exact VRs.vals _ _ _) (fun j hj => .inr ⟨rfl, ?_⟩) hcell h1
      rw [flatV1] at hj
      simpa using hj
theorem VCx.ofAgg {f : FuncId} {xs : List TV} {us vs : List Value} (hxs : xs.map toVal = us.map some) (h : ∀ w, Calls P f us.toArray w fun e w' => e = .returned (.agg vs.toArray) ∧ Gr w w') : VCx P G 0 f xs ⟨[], []⟩ fun x T' => x = .agg (vs.map .val) ∧ T' = ⟨[], []⟩ := by
  intro g w us' r hG hx
  obtain rfl : us' = us := toVals_ok hxs hx
  refine (h w).mono ?_
  rintro e w' ⟨rfl, gr⟩
  obtain ⟨h1, h2⟩ := VRs.vals g w' vs
  exact ⟨_, _, g, _, rfl, ⟨rfl, rfl⟩, Evo.of_gr r gr, r.gr gr, .agg h1 h2, ⟨by simp, fun i hi => absurd hi (Nat.not_lt_zero i), fun i o b hi => absurd hi (Nat.not_lt_zero i)⟩⟩
theorem VCx.ofRetsT {f : FuncId} {xs : List TV} {us : List Value} (hxs : xs.map toVal = us.map some) {ty : TypeId} {vs : List Value} (h1 : ∀ v ∈ vs, v.oneCell' = true) (hm : vs.length ≤ maxLen)
    (h : ∀ w, Calls P f us.toArray w (Rets w fun v w' => w'.ownsRow w.heap.size ty 1 v vs.length vs)) : VCx P G 0 f xs ⟨[], []⟩ fun x T' => x = .vec 1 (vs.map fun v => [.val v]) .none ∧ T' = ⟨[], []⟩ := by
  intro g w us' r hG hx
  obtain rfl : us' = us := toVals_ok hxs hx
  refine (h w).mono ?_
  rintro e w' ⟨v, rfl, gr, hl, hown⟩
  have r1 := r.gr gr
  have e1 := Evo.of_gr r gr
  rcases hown with ⟨rfl, h0⟩ | ⟨b, cap, cur, rfl, hb, hg, hnc, hcm, hcs, htk⟩
  · have : vs = [] := List.eq_nil_of_length_eq_zero (by omega)
    subst this
    exact ⟨_, _, g, _, rfl, ⟨rfl, rfl⟩, e1, r1, .nil trivial, ⟨by simp, fun i hi => absurd hi (Nat.not_lt_zero i), fun i o b hi => absurd hi (Nat.not_lt_zero i)⟩⟩
  · have hnf : ¬ g.fr b := fun hf => by have := r.fr b hf; omega
    have hcell : ∀ (j : Nat) u, vs[j]? = some u → w'.cell? ⟨b, 0 + j, none⟩ = some u := fun j u hu => by
      have hj := (List.getElem?_eq_some_iff.1 hu).1
      unfold World.cell?
      simp only [hg, Nat.zero_add]
      rw [← htk, List.getElem?_take, if_pos (by omega)] at hu
      simpa using hu
    refine ⟨_, _, g.addSt b (fun o => o < vs.length), _, rfl, ⟨rfl, rfl⟩, e1.trans (Evo.addSt hnf), r1.addSt hnf (fun id o h => by simp at h) (fun k x o hx => by rw [r1.tout k (Nat.zero_le _)] at hx; cases hx) (fun o ho => ?_), ?_, ⟨by simp, fun i hi => absurd hi (Nat.not_lt_zero i), fun i o b hi => absurd hi (Nat.not_lt_zero i)⟩⟩
    · have := hcell o _ (List.getElem?_eq_getElem ho)
      rw [Nat.zero_add] at this
      rw [this]; rfl
    · refine .mk_vec (us := vs) (by simp) (by simpa using hnc) hcm (fun e he => by obtain ⟨v, _, rfl⟩ := List.mem_map.1 he; rfl) trivial (by rw [flatV1]; exact VRs.vals _ _ _) (fun j hj => .inr ⟨rfl, ?_⟩) hcell h1
      rw [flatV1] at hj
      simpa using hj
end
end Go.Proofs.Ytgconkbnokbinaa

/- A row that turns no more: a slice with its contents. For any program. -/
namespace Go.Proofs.Ytgconkbnokbinaa
open Go.RowKit

section
variable {P : Program} {G : Globs} {g : Gh} {T : VT} {w : World}
theorem row_freeze (r : RW g T w) {id size off n : Nat} {es : List (List TV)} {u : Value} (h : rowsR T size (.row size id off n) = some es) (hx : VR g w (.row size id off n) u) :
    ∃ g', Evo g w g' w ∧ RW g' (T.kill id) w ∧ VR g' w (.vec size es .none) u := by
  simp only [rowsR] at h
  split at h
  · rename_i cs hid
    cases hb : (Nat.beq size size && Nat.ble ((off + n) * size) cs.length) with
    | false => rw [hb] at h; cases h
    | true =>
      rw [hb] at h; injection h with h; subst h
      simp only [Bool.and_eq_true] at hb
      have hle := Nat.le_of_ble_eq_true hb.2
      obtain ⟨b, c, h1, h2, h3, h4, h5, rfl⟩ := hx.row_inv
      obtain ⟨b', q1, ⟨us, t, q2, q3, q4, q5⟩, q6, q7⟩ := r.obj id _ hid rfl
      rw [h1] at q1; injection q1 with q1; subst q1
      rw [Nat.add_mul] at hle
      have hl : ((cs.drop (off * size)).take (n * size)).length = n * size := by simp; omega
      obtain ⟨k1, k2, k3⟩ := chunk_parts hl
      have hv := (q4.drop (off * size)).take (n * size)
      have hl2 : (((us.take cs.length).drop (off * size)).take (n * size)).length = n * size := by simp; omega
      have hcell : ∀ (j : Nat) v, (((us.take cs.length).drop (off * size)).take (n * size))[j]? = some v → w.cell? ⟨b, off * size + j, none⟩ = some v := fun j v hv => by
        rw [World.cell?, q2]
        simp only [List.getElem?_take, List.getElem?_drop] at hv
        split at hv
        · split at hv
          · simpa using hv
          · cases hv
        · cases hv
      have fr := kill_fresh r hid rfl h1
      have e := Evo.addSt (g := g) (w := w) (S := fun o => off * size ≤ o ∧ o < off * size + n * size) q6
      refine ⟨_, e, (r.kill hid rfl h1).addSt q6 fr.obj (fun k x o hx _ hin => fr.tl k x hx (.inl ⟨o, hin⟩)) (fun o ho => ?_), ?_⟩
      · have hj : o - off * size < (((us.take cs.length).drop (off * size)).take (n * size)).length := by rw [hl2]; omega
        have := hcell (o - off * size) _ (List.getElem?_eq_getElem hj)
        rw [show off * size + (o - off * size) = o by omega] at this
        rw [this]; rfl
      · refine .mk_vec (us := ((us.take cs.length).drop (off * size)).take (n * size)) k1.symm h3 h4 k2 trivial (by rw [k3]; exact hv.mono e) (fun j hj => .inr ⟨rfl, ?_⟩) hcell (fun u hu => q5 u (List.mem_of_mem_drop (List.mem_of_mem_take hu)))
        rw [k3, hl] at hj
        omega
  · cases h
/-- a row's contents -/
def rowOf (x : TV) (T : VT) : Option (Nat × List (List TV)) := match x with
  | .row size id off n => (rowsR T size (.row size id off n)).map fun es => (size, es)
  | _ => none
/-- a function that gives a row of values, and nothing else -/
theorem VCx.freezeRow {f : FuncId} {xs : List TV} {size : Nat} {es : List (List TV)} (hes : ∀ f h, renLL f h es = es) (h : VCx P G 0 f xs ⟨[], []⟩ fun x T' => rowOf x T' = some (size, es)) : VCx P G 0 f xs ⟨[], []⟩ fun x T' => x = .vec size es .none ∧ T' = ⟨[], []⟩ := by
  refine VCx.keepQ 0 0 (Nat.le_refl _) (Nat.le_refl _) ?_
  intro g w us rw0 hG hx
  refine Calls.mono (h g w us rw0 hG hx) ?_
  rintro e w' ⟨v, x, g', T', he, hq, e', r', hv, hfx⟩
  unfold rowOf at hq
  split at hq
  · rename_i sz id off n
    simp only [Option.map_eq_some_iff, Prod.mk.injEq] at hq
    obtain ⟨es', h1, rfl, rfl⟩ := hq
    obtain ⟨g2, e2, r2, v2⟩ := row_freeze r' h1 hv
    exact ⟨v, _, g2, _, he, ⟨by simp only [TV.ren, hes, Tok.ren], by simp [VT.keep]⟩, e'.trans e2, r2, v2, ⟨by simp, fun i hi => absurd hi (Nat.not_lt_zero i), fun i o b hi => absurd hi (Nat.not_lt_zero i)⟩⟩
  · cases hq
end
end Go.Proofs.Ytgconkbnokbinaa

/- Rows: frozen ahead of a region; what is told of looks, loads, stores and appends on them. For any program. -/
namespace Go.Proofs.Ytgconkbnokbinaa
open Go.RowKit

section
variable {P : Program} {G : Globs}
/-- the slice in a slot turns no more from here on -/
theorem VWx.freeze {rd : Option Nat} {ro : Nat} {c : Code} {σ : List TV} {T : VT} {D : List Nat} {Q : KX} {slot size id off n : Nat} {es : List (List TV)} (hs : σ[slot]? = some (.row size id off n)) (hr : rowsR T size (.row size id off n) = some es) (hro : ro ≤ id)
    (h : VWx P G rd ro c (σ.set slot (.vec size es .none)) (T.kill id) D Q) : VWx P G rd ro c σ T D Q := by
  intro r g w a rw0 hG hσ hdf hDs hrd
  obtain ⟨u, hu, hv⟩ := hσ.at hs
  obtain ⟨g1, e1, r1, v1⟩ := row_freeze rw0 hr hv
  have h2 := (hσ.mono e1).set slot v1
  have h3 : a.tmps.toList.set slot u = a.tmps.toList := by
    apply List.ext_getElem?
    intro j
    rw [List.getElem?_set]
    split
    · rename_i hj; subst hj; rw [hu, if_pos (List.getElem?_eq_some_iff.1 hu).1]
    · rfl
  rw [h3] at h2
  refine wpIn_mono (h r g1 w a r1 (hG.mono e1) h2 (hdf.trans (mk_evo e1 hDs).symm) (isSome_evo e1 hDs) (rd_evo e1 hrd)) ?_
  rintro e a' w' ⟨g', σ', T', D', hq, e2, r', hσ', hd', hD', hx⟩
  have hlen : (T.kill id).objs.length = T.objs.length := by simp [VT.kill]
  have hat : ∀ i, i < ro → (T.kill id).objs[i]? = T.objs[i]? := fun i hi => by
    simp only [VT.kill, List.getElem?_set]
    rw [if_neg (by omega)]
  exact ⟨g', σ', T', D', hq, e1.trans e2, r', hσ', hd', hD', ⟨by rw [← hlen]; exact hx.len, fun i hi hl => (hx.same i hi (by rw [hlen]; exact hl)).trans (hat i hi), fun i o b hi ho hl hb => hx.heap i o b hi ((hat i hi).trans ho) hl (e1.obj i b hb)⟩⟩
/-- ahead of a region the slice in a slot is frozen: at L's key 1000000 + the region's number -/
def freezeL (P : Program) (G : Globs) (C : FuncId → Option Spec) (F : Ora) (n : Nat) (c : Code) (slot size id off m : Nat) (es : List (List TV)) : LSpec := fun rd ro σ T D K => (σ[slot]? = some (.row size id off m) ∧ rowsR T size (.row size id off m) = some es ∧ Nat.ble ro id = true) ∧ vx P G C F n (fun _ => none) rd ro c (σ.set slot (.vec size es .none)) (T.kill id) D K
theorem freezeL_ok {C : FuncId → Option Spec} (hm : P.follows .mixedOrders = true) (hB : bodiesOk P = true) (hC : SpecsOk P G C) {F : Ora} {n : Nat} {c : Code} {slot size id off m : Nat} {es : List (List TV)} :
    ∀ rd ro σ T D K, freezeL P G C F n c slot size id off m es rd ro σ T D K → VWx P G rd ro c σ T D K := by
  rintro rd ro σ T D K ⟨⟨h1, h2, h3⟩, h4⟩
  exact VWx.freeze h1 h2 (Nat.le_of_ble_eq_true h3) (vx_ok hm hB hC n n (Nat.le_refl _) F _ lsOk_none _ _ _ _ _ _ _ h4)
/-- told by slot; stores by the slot of their address, 500000 + that; what is known behind it may depend on what is known -/
def tellGo (T : VT) : List (Nat × TV × Option (VT → VT)) → Nat → Option (TV × Option VT)
  | [], _ => none
  | (t, y, g) :: l, s => bif Nat.beq t s then some (y, match g with | some g => some (g T) | none => none) else tellGo T l s
def tellS (l : List (Nat × TV × Option (VT → VT))) : Ora := fun o _ T => match o.op with
  | .store _ (.tmp a) _ => tellGo T l (500000 + a)
  | _ => match o.dst with
    | some d => tellGo T l d
    | none => none
theorem opure_indexR {t e : TypeId} {x i : Operand} {l : List (Nat × TV)} {inf : TypeInfo} {id off n : Nat} {k : IntKind} {z : Int} (ht : P.underlying t = some (.slice e)) (hi : P.info? e = some inf)
    (hx : evOf G l x = .row inf.size id off n) (hz : evOf G l i = .val (.int k z)) (h0 : 0 ≤ z) (h1 : z < n) : OPure P G (.indexAddr t x i) l (.ptr id (off * inf.size + z.toNat * inf.size)) := by
  refine ⟨?_⟩
  simp [vpure2, hx, hz, vindexR, ht, hi, h0, h1, Nat.beq_refl]
theorem oturn_loadR {ro : Nat} {T : VT} {t : TypeId} {d : TypeDesc} {a : Operand} {l : List (Nat × TV)} {inf : TypeInfo} {id off : Nat} {cs : List TV} {y : TV} (ht : P.underlying t = some d) (hd : isAggD d = false) (hi : P.info? t = some inf)
    (ha : evOf G l a = .ptr id off) (ho : T.objs[id]? = some (.row cs)) (hy : cs[off]? = some y) : OTurn P G ro T (.load t a) l y T := by
  refine .mk ?_
  have hlt := (List.getElem?_eq_some_iff.1 hy).1
  have hc : cellsAt T (.ptr id off) 1 = some [y] := by
    simp only [cellsAt, ho]
    rw [if_pos (by omega)]
    congr 1
    rw [List.take_one, List.head?_drop, hy]; rfl
  have h1 : vpure2 P (.load t a) (evOf G l) = none := by simp [vpure2, vpure]
  have h2 : vread2 P T (.load t a) (evOf G l) = some y := by simp [vread2, vread, vload, ht, hi, hd, ha, hc]
  simp only [vopA, h1, h2]
theorem oturn_storeR {ro : Nat} {T : VT} {t : TypeId} {a x : Operand} {l : List (Nat × TV)} {inf : TypeInfo} {id off : Nat} {cs new : List TV} (hi : P.info? t = some inf)
    (ha : evOf G l a = .ptr id off) (hx : cellsOf (evOf G l x) = some new) (ho : T.objs[id]? = some (.row cs)) (hn : inf.size = new.length) (hle : off + new.length ≤ cs.length) (hc : new.all isCell = true) (hro : ro ≤ id) :
    OTurn P G ro T (.store t a x) l (.val undef) { T with objs := T.objs.set id (.row (setCs cs off new)) } := by
  refine .mk ?_
  have h1 : vpure2 P (.store t a x) (evOf G l) = none := by simp [vpure2, vpure]
  have h2 : vread2 P T (.store t a x) (evOf G l) = none := by simp [vread2, vread]
  have h3 : vmore P ro T (.store t a x) (evOf G l) = some (.val undef, { T with objs := T.objs.set id (.row (setCs cs off new)) }) := by
    simp only [vmore, vstoreR, ha, ho, hx, hi]
    rw [hn, Nat.beq_refl, Nat.ble_eq_true_of_le hle, hc, Nat.ble_eq_true_of_le hro]; rfl
  simp only [vopA, h1, h2, h3]
theorem oturn_appR {ro : Nat} {T : VT} {t e tx : TypeId} {s x : Operand} {l : List (Nat × TV)} {inf : TypeInfo} {z : Value} {q0 : List TV} {qs : List (List TV)} {tok : Tok} (ht : P.underlying t = some (.slice e)) (hi : P.info? e = some inf) (hz : inf.zero = some z) (hzs : z.cells.size = inf.size) (hz1 : z.cells.toList.all Value.oneCell' = true)
    (hsl : isSl (P.underlying tx) = true) (hs : evOf G l s = .vec inf.size [] .full) (hx : evOf G l x = .vec inf.size (q0 :: qs) tok) (hb : (q0 :: qs).length * (inf.bytes + 1) ≤ 140737488355328) :
    OTurn P G ro T (.call ⟨.builtin .append, #[s, x], #[t, tx]⟩) l (.row inf.size T.objs.length 0 (q0 :: qs).length) (T.newRow (q0 :: qs).flatten) := by
  refine .mk ?_
  have h1 : vpure2 P (.call ⟨.builtin .append, #[s, x], #[t, tx]⟩) (evOf G l) = none := by simp [vpure2, vpure]
  have h2 : vread2 P T (.call ⟨.builtin .append, #[s, x], #[t, tx]⟩) (evOf G l) = none := by simp [vread2, vread, vcalls]
  have hr : rowsR T inf.size (.vec inf.size (q0 :: qs) tok) = some (q0 :: qs) := by simp [rowsR, Nat.beq_refl]
  have h4 : vappS P T t tx (.vec inf.size [] .full) (.vec inf.size (q0 :: qs) tok) = none := by simp [vappS, ht]
  have h3 : vappR P ro T t tx (.vec inf.size [] .full) (.vec inf.size (q0 :: qs) tok) = some (.row inf.size T.objs.length 0 (q0 :: qs).length, T.newRow (q0 :: qs).flatten) := by
    unfold vappR
    simp only [ht, hi, hz, hr, hzs, decide_true, hz1, hsl, Bool.and_self, cond_true, Nat.beq_refl, List.length_nil, Nat.zero_add, List.flatten_nil, List.nil_append, Nat.ble_eq_true_of_le hb]
  have h5 : vappP P ro T t tx (.vec inf.size [] .full) (.vec inf.size (q0 :: qs) tok) = none := rfl
  simp only [vopA, h1, h2, vmore, hs, hx, hsl, h4, h5, h3, cond_true]
end
end Go.Proofs.Ytgconkbnokbinaa

/- A slice that grew from nothing becomes a row that may be turned. For any program. -/
namespace Go.Proofs.Ytgconkbnokbinaa
open Go.RowKit

/-- what hangs on no memory but objects -/
def FreeT (x : TV) : Prop := ∀ g w g' w' u, (∀ id b, g.obj id = some b → g'.obj id = some b) → VR g w x u → VR g' w' x u
theorem FreeT.val (v : Value) : FreeT (.val v) := fun _ _ _ _ _ _ h => by cases h; exact .val _
theorem FreeT.map (id : Nat) : FreeT (.map id) := fun _ _ _ _ _ ho h => by cases h with | map h => exact .map (ho _ _ h)
theorem FreeT.ptr (id off : Nat) : FreeT (.ptr id off) := fun _ _ _ _ _ ho h => by cases h with | ptr h => exact .ptr (ho _ _ h)
theorem FreeT.agg {cs : List TV} (hc : ∀ c ∈ cs, FreeT c) : FreeT (.agg cs) := fun g w g' w' u ho h => by
  cases h with
  | agg hl hv => exact .agg hl fun j x u hx hu => hc x (List.mem_of_getElem? hx) g w g' w' u ho (hv j x u hx hu)
theorem free_vrs {g g' : Gh} {w w' : World} {cs : List TV} {us : List Value} (hc : ∀ c ∈ cs, FreeT c) (ho : ∀ id b, g.obj id = some b → g'.obj id = some b) (h : VRs g w cs us) : VRs g' w' cs us :=
  ⟨h.1, fun j x u hx hu => hc x (List.mem_of_getElem? hx) g w g' w' u ho (h.2 j x u hx hu)⟩
def FreeO : VO → Prop
  | .cells cs => ∀ c ∈ cs, FreeT c
  | .row cs => ∀ c ∈ cs, FreeT c
  | .map _ _ es _ => ∀ e ∈ es, FreeT e.2.1
  | .defd => True
  | .gone => True
  | _ => False
theorem or_free {g g' : Gh} {w : World} {b : Nat} {o : VO} (ho : ∀ id b, g.obj id = some b → g'.obj id = some b) (hf : FreeO o) (h : OR g w b o) : OR g' w b o := by
  cases o with
  | cells cs => obtain ⟨us, t, q1, q2, q3⟩ := h; exact ⟨us, t, q1, free_vrs hf ho q2, q3⟩
  | row cs => obtain ⟨us, t, q1, q2, q3, q4⟩ := h; exact ⟨us, t, q1, q2, free_vrs hf ho q3, q4⟩
  | map sh look es ck =>
    obtain ⟨vs, q1, q2, q3, q4, q5, q6, q7⟩ := h
    refine ⟨vs, q1, q2, free_vrs (fun c hc => ?_) ho q3, q4, q5, q6, q7⟩
    obtain ⟨e, he, rfl⟩ := List.mem_map.1 hc
    exact hf e he
  | iter m since seen stepped => exact hf.elim
  | siter s pos => exact hf.elim
  | loop st pend σ2 ps asg body => exact hf.elim
  | defd => exact h
  | gone => trivial
theorem to_row {g0 g : Gh} {w0 w : World} {T0 T : VT} (e0 : Evo g0 w0 g w) (r0 : RW g0 T0 w0) (r : RW g T w) {k e size : Nat} {es : List (List TV)} {u : Value} (hk : T0.tails.length ≤ k) (hT : T.tails[k]? = some (e, size, true)) (hn : es.length = e) (hpos : 0 < e)
    (hs : VR g w (.vec size es (.tail k e)) u) (hes : ∀ c ∈ es.flatten, FreeT c) (hob : ∀ o ∈ T.objs, FreeO o) (hol : T0.objs.length ≤ T.objs.length) :
    ∃ g2, Evo g0 w0 g2 w ∧ RW g2 ⟨T.objs ++ [.row es.flatten], T.tails.set k (e + 1, size, false)⟩ w ∧ VR g2 w (.row size T.objs.length 0 es.length) u := by
  obtain ⟨x, hxt, hxe, hxz, hxx⟩ := r.tl k _ hT
  simp only at hxe hxz
  obtain ⟨hxz, hxb⟩ := hxz
  have hes0 : 0 < es.length := by omega
  obtain ⟨b, o, c, us, rfl, a1, a2, a3, a4, a5, a6, a7, a8⟩ : ∃ b o c us, u = .slice (some ⟨b, o, none⟩) es.length c ∧ es.length ≤ c ∧ c ≤ maxLen ∧ (∀ e ∈ es, e.length = size) ∧ TokOk g w (.tail k e) size es.length b o c ∧ VRs g w es.flatten us ∧ (∀ j, j < es.flatten.length → g.st b (o + j)) ∧ (∀ (j : Nat) v, us[j]? = some v → w.cell? ⟨b, o + j, none⟩ = some v) ∧ ∀ u ∈ us, u.oneCell' = true := by
    rcases hs.vec_inv with ⟨_, he, _⟩ | h | ⟨_, _, he, _⟩
    · rw [he] at hes0; simp at hes0
    · exact h
    · rw [he] at hes0; simp at hes0
  obtain ⟨y, q1, q2, q3, _, q5⟩ := a4
  rw [hxt] at q1; injection q1 with q1; subst q1
  obtain ⟨_, q6⟩ := q5 hxe hxb
  obtain ⟨hxo, p1, p2, p3⟩ := q6 (by omega) (by omega)
  subst p1 p2
  obtain ⟨⟨cur, hblk, hcur⟩, hff, hfl, hlo, hnfr⟩ := r.own k x hxt hxo (by omega)
  have hw0 : w0.heap.size ≤ x.b := Nat.le_trans (e0.tnew k x (r0.tout k hk) hxt) hlo
  obtain ⟨g2, hg2⟩ : ∃ g2 : Gh, g2 = { g with obj := fun i => if i = T.objs.length then some x.b else g.obj i, tail := fun i => if i = k then some { x with lim := x.f, own := false, born := false, e := e + 1 } else g.tail i, st := fun b o => g.st b o ∧ b ≠ x.b } := ⟨_, rfl⟩
  have gobj : ∀ id, id ≠ T.objs.length → g2.obj id = g.obj id := fun id h => by rw [hg2]; simp [h]
  have gnew : g2.obj T.objs.length = some x.b := by rw [hg2]; simp
  have oeq : ∀ id b, g.obj id = some b → g2.obj id = some b := fun id b h => by
    rw [gobj id]; · exact h
    · rintro rfl; rw [r.out _ (Nat.le_refl _)] at h; cases h
  have gfr : g2.fr = g.fr := by rw [hg2]
  have gst : ∀ b o, g2.st b o → g.st b o ∧ b ≠ x.b := fun b o h => by rw [hg2] at h; exact h
  have gtk : g2.tail k = some { x with lim := x.f, own := false, born := false, e := e + 1 } := by rw [hg2]; simp
  have gtn : ∀ j, j ≠ k → g2.tail j = g.tail j := fun j hj => by rw [hg2]; simp [hj]
  have hst0 : ∀ b o, g0.st b o → b ≠ x.b := fun b o h hb => by
    obtain ⟨u, hu⟩ := Option.isSome_iff_exists.1 (r0.st b o h)
    have := lt_of_cell hu
    simp at this; omega
  have ev : Evo g0 w0 g2 w := by
    refine ⟨e0.os, e0.tape, e0.output, e0.size, fun id b hb => oeq id b (e0.obj id b hb), fun b o h => ⟨?_, (e0.st b o h).2⟩, by rw [gfr]; exact e0.fr, e0.frb, fun b o hb h => e0.frs b o hb (gst b o h).1, fun j y hy => ?_, fun j y h1 h2 => ?_, e0.csz⟩
    · rw [hg2]; exact ⟨(e0.st b o h).1, hst0 b o h⟩
    · have hj : j ≠ k := by rintro rfl; rw [r0.tout j hk] at hy; cases hy
      rw [gtn j hj]; exact e0.tail j y hy
    · by_cases hj : j = k
      · subst hj; rw [gtk] at h2; injection h2 with h2; subst h2; exact e0.tnew j x h1 hxt
      · rw [gtn j hj] at h2; exact e0.tnew j y h1 h2
  have hobjne : ∀ (id : Nat) oo b, T.objs[id]? = some oo → oo.live = true → g.obj id = some b → b ≠ x.b := fun id oo b h1 h2 h3 hb => r.tobj id oo b k x h1 h2 h3 hxt (.inr ⟨hxo, by omega, hb.symm⟩)
  have hasle : ∀ b, ({ x with lim := x.f, own := false, born := false, e := e + 1 } : Tl).has b → False := fun b h => by
    rcases h with ⟨o, _, h1, h2⟩ | ⟨h, _⟩
    · simp only at h1 h2; omega
    · cases h
  have hob2 : ∀ (id : Nat) oo, (T.objs ++ [.row es.flatten])[id]? = some oo → (id < T.objs.length ∧ T.objs[id]? = some oo) ∨ (id = T.objs.length ∧ oo = .row es.flatten) := fun id oo h => by
    rcases Nat.lt_trichotomy id T.objs.length with h1 | h1 | h1
    · rw [List.getElem?_append_left h1] at h; exact .inl ⟨h1, h⟩
    · subst h1; simp at h; exact .inr ⟨rfl, h.symm⟩
    · rw [List.getElem?_eq_none (by simp; omega)] at h; cases h
  have hfl3 := flatten_len a3
  have hcl : cur.toList.length = c * size := by rw [Array.length_toList, hcur, p3]
  have hul : us.length = es.length * size := by rw [a5.1, hfl3]
  have hle2 : es.length * size ≤ c * size := Nat.mul_le_mul_right _ a1
  have htake : cur.toList.take es.flatten.length = us := by
    rw [hfl3]
    apply List.ext_getElem?
    intro j
    rw [List.getElem?_take]
    split
    · rename_i hj
      have h9 : us[j]? = some us[j] := List.getElem?_eq_getElem (by omega)
      have h10 := a7 j us[j] h9
      rw [h9]
      simpa [World.cell?, hblk] using h10
    · rename_i hj; rw [List.getElem?_eq_none (by omega)]
  have rw2 : RW g2 ⟨T.objs ++ [.row es.flatten], T.tails.set k (e + 1, size, false)⟩ w := by
    refine ⟨?_, ?_, ?_, ?_, ?_, ?_, ?_, ?_, ?_, ?_, ?_, ?_⟩
    · intro id oo h hl
      rcases hob2 id oo h with ⟨h0, h1⟩ | ⟨rfl, rfl⟩
      · obtain ⟨b, h3, h4, h5, h6⟩ := r.obj id oo h1 hl
        exact ⟨b, by rw [gobj id (by omega)]; exact h3, or_free oeq (hob oo (List.mem_of_getElem? h1)) h4, by rw [gfr]; exact h5, fun o hs => h6 o (gst b o hs).1⟩
      · refine ⟨x.b, gnew, ⟨cur.toList, x.ty, by simpa using hblk, by rw [hfl3, hcl]; exact hle2, ?_, fun u hu => ?_⟩, by rw [gfr]; exact hnfr, fun o hs => (gst _ o hs).2 rfl⟩
        · rw [htake]; exact free_vrs hes oeq a5
        · rw [htake] at hu; exact a8 u hu
    · intro i j oi oj b hi li hj lj b1 b2
      rcases hob2 i oi hi with ⟨h0, h1⟩ | ⟨rfl, rfl⟩
      · rw [gobj i (by omega)] at b1
        rcases hob2 j oj hj with ⟨h2, h3⟩ | ⟨rfl, rfl⟩
        · rw [gobj j (by omega)] at b2
          exact r.inj i j oi oj b h1 li h3 lj b1 b2
        · rw [gnew] at b2; injection b2 with b2; exact absurd b2.symm (hobjne i oi b h1 li b1)
      · rw [gnew] at b1; injection b1 with b1
        rcases hob2 j oj hj with ⟨h2, h3⟩ | ⟨rfl, rfl⟩
        · rw [gobj j (by omega)] at b2
          exact absurd b1.symm (hobjne j oj b h3 lj b2)
        · rfl
    · intro id hid
      simp only [List.length_append, List.length_cons, List.length_nil] at hid
      rw [gobj id (by omega)]; exact r.out id (by omega)
    · intro b o h; exact r.st b o (gst b o h).1
    · intro b hb; rw [gfr] at hb; exact r.fr b hb
    · intro j p h
      simp only [List.getElem?_set] at h
      split at h
      · rename_i hj; subst hj
        split at h
        · injection h with h; subst h
          exact ⟨_, gtk, rfl, ⟨hxz, rfl⟩, fun b o hin => absurd (.inl ⟨o, hin⟩) (hasle b)⟩
        · cases h
      · rename_i hj
        obtain ⟨y, q1, q2, q3, q4⟩ := r.tl j p h
        have hj' : j ≠ k := fun h => hj h.symm
        refine ⟨y, by rw [gtn j hj']; exact q1, q2, q3, fun b o hin => ?_⟩
        obtain ⟨s1, s2, s3, s4⟩ := q4 b o hin
        exact ⟨s1, s2, fun hs => s3 (gst b o hs).1, by rw [gfr]; exact s4⟩
    · intro j hj
      simp only [List.length_set] at hj
      have hlt := tail_lt r hxt
      rw [gtn j (by omega)]; exact r.tout j hj
    · intro i j y z b h1 h2 i1 i2
      by_cases hi : i = k
      · subst hi; rw [gtk] at h1; injection h1 with h1; subst h1; exact (hasle b i1).elim
      · by_cases hj : j = k
        · subst hj; rw [gtk] at h2; injection h2 with h2; subst h2; exact (hasle b i2).elim
        · rw [gtn i hi] at h1; rw [gtn j hj] at h2; exact r.tinj i j y z b h1 h2 i1 i2
    · intro i oi b j y hi li b1 hy hin
      by_cases hj : j = k
      · subst hj; rw [gtk] at hy; injection hy with hy; subst hy; exact (hasle b hin).elim
      · rw [gtn j hj] at hy
        rcases hob2 i oi hi with ⟨h0, h1⟩ | ⟨rfl, rfl⟩
        · rw [gobj i (by omega)] at b1; exact r.tobj i oi b j y h1 li b1 hy hin
        · rw [gnew] at b1; injection b1 with b1; subst b1
          exact hj (r.tinj j k y x x.b hy hxt hin (.inr ⟨hxo, by omega, rfl⟩))
    · intro j y hy d1 d2
      by_cases hj : j = k
      · subst hj; rw [gtk] at hy; injection hy with hy; subst hy; cases d1
      · rw [gtn j hj] at hy
        obtain ⟨s1, s3, s4, s5, s6⟩ := r.own j y hy d1 d2
        exact ⟨s1, s3, s4, s5, by rw [gfr]; exact s6⟩
    · intro j y hy d1
      by_cases hj : j = k
      · subst hj; rw [gtk] at hy; injection hy with hy; subst hy; rcases d1 with d1 | d1 <;> cases d1
      · rw [gtn j hj] at hy; exact r.own0 j y hy d1
    · intro j y hy
      by_cases hj : j = k
      · subst hj; rw [gtk] at hy; injection hy with hy; subst hy; exact r.tlo j x hxt
      · rw [gtn j hj] at hy; exact r.tlo j y hy
  refine ⟨g2, ev, rw2, ?_⟩
  have := VR.row (g := g2) (w := w) (size := size) (id := T.objs.length) (off := 0) (n := es.length) (c := c) gnew (by have := r.own k x hxt hxo (by omega); exact (Array.getElem?_eq_some_iff.1 hblk).1) a1 a2 (by rw [csize_cells hblk, hcur, p3]; simp)
  simpa using this
theorem slotsN_one {n slot : Nat} {x : TV} {g : Gh} {w : World} {us : List Value} {u : Value} (hl : us.length = n) (hu : us[slot]? = some u) (hx : VR g w x u) : VRs g w (slotsN n [slot] [x]) us := by
  refine ⟨by simp [slotsN, slots, slotsO, hl], fun j y v hy hv => ?_⟩
  simp only [slotsN, slots, slotsO, List.map_map, List.getElem?_map, Option.map_eq_some_iff] at hy
  obtain ⟨i, hi, rfl⟩ := hy
  have e : i = j := by
    have := (List.getElem?_eq_some_iff.1 hi).2
    simpa using this.symm
  subst e
  simp only [Function.comp_apply, lookO]
  cases hb : Nat.beq slot i with
  | true =>
    have := Nat.eq_of_beq_eq_true hb
    subst this
    rw [hu] at hv; injection hv with hv; subst hv
    exact hx
  | false => exact .dead _
section
variable {P : Program} {G : Globs}
/-- a loop that makes a slice by appends: behind it the slice is a row of its own, and of the other slots nothing is known -/
def loopRow (n : Nat) (keys : List Nat) (ad : List (Nat × Nat)) (vs0 : List TV) (T0 T1 : VT) (slot k size : Nat) (es : List (List TV)) : LSpec := fun rd ro σ T D K => (rd = none ∧ ro = 0 ∧ D = [] ∧ adoptOk ad σ ∧ (adoptAll ad σ T).2 = T0 ∧ Nat.beq σ.length n = true ∧ pick keys (adoptAll ad σ T).1 = vs0 ∧ Nat.ble T.tails.length k = true) ∧
  K .normal (slotsN n [slot] [.row size T1.objs.length 0 es.length]) ⟨T1.objs ++ [.row es.flatten], T1.tails.set k (es.length + 1, size, false)⟩ []
theorem loopRow_ok {c : Code} {n : Nat} {keys : List Nat} {ad : List (Nat × Nat)} {vs0 vs1 : List TV} {T0 T1 : VT} {slot k size : Nat} {es : List (List TV)} (hs : (slotsN n keys vs1)[slot]? = some (.vec size es (.tail k es.length))) (hT : T1.tails[k]? = some (es.length, size, true)) (hpos : 0 < es.length)
    (hes : ∀ c ∈ es.flatten, FreeT c) (hob : ∀ o ∈ T1.objs, FreeO o) (h : ∀ K, K .normal (slotsN n keys vs1) T1 [] → VWx P G none 0 c (slotsN n keys vs0) T0 [] K) :
    ∀ rd ro σ T D K, loopRow n keys ad vs0 T0 T1 slot k size es rd ro σ T D K → VWx P G rd ro c σ T D K := by
  rintro rd ro σ T D K ⟨⟨h1, h2, h3, h4, h5, h6, h7, hk⟩, hK⟩
  have hl := loopL_ok (n := n) (keys := keys) (ad := ad) (vs0 := vs0) (T0 := T0) (R := fun K => K .normal (slotsN n keys vs1) T1 []) h rd ro σ T D (fun e σ' T' D' => e = .normal ∧ σ' = slotsN n keys vs1 ∧ T' = T1 ∧ D' = []) ⟨⟨h1, h2, h3, h4, h5, h6, h7⟩, rfl, rfl, rfl, rfl⟩
  subst h1 h2 h3
  have hn := Nat.eq_of_beq_eq_true h6
  intro r g w a rw0 hG hσ hd hD hr
  refine wpIn_mono (hl r g w a rw0 hG hσ hd hD hr) ?_
  rintro e a' w' ⟨g', σ', T', D', ⟨rfl, rfl, rfl, rfl⟩, e', r', hσ', hd', _, fx⟩
  obtain ⟨u, hu, hv⟩ := hσ'.at hs
  obtain ⟨g2, ev, rw2, v2⟩ := to_row e' rw0 r' (Nat.le_of_ble_eq_true hk) hT rfl hpos hv hes hob fx.len
  refine ⟨g2, _, _, [], hK, ev, rw2, slotsN_one ?_ hu v2, hd', (fun id hid => by cases hid), ⟨?_, fun i hi => absurd hi (Nat.not_lt_zero i), fun i o b hi => absurd hi (Nat.not_lt_zero i)⟩⟩
  · rw [hσ'.1]; simp [slotsN, slots, slotsO]
  · have := fx.len
    simp only [List.length_append, List.length_cons, List.length_nil]; omega
theorem chunks_flatten (size : Nat) : ∀ {es : List (List TV)}, (∀ e ∈ es, e.length = size) → chunks size es.length es.flatten = es
  | [], _ => rfl
  | e :: es, h => by
    have h1 : e.length = size := h e List.mem_cons_self
    have h2 := chunks_flatten size (es := es) fun e he => h e (List.mem_cons_of_mem _ he)
    simp only [List.length_cons, chunks, List.flatten_cons]
    rw [List.take_left' h1, List.drop_left' h1, h2]
theorem rowsR_flat {T : VT} {size id : Nat} {es : List (List TV)} (ho : T.objs[id]? = some (.row es.flatten)) (hz : ∀ e ∈ es, e.length = size) : rowsR T size (.row size id 0 es.length) = some es := by
  have hl := flatten_len hz
  have e1 : ((es.flatten.drop (0 * size)).take (es.length * size)) = es.flatten := by
    rw [Nat.zero_mul, List.drop_zero, ← hl, List.take_length]
  simp only [rowsR, ho]
  rw [e1, chunks_flatten size hz, Nat.beq_refl, Nat.zero_add, hl, Nat.ble_eq_true_of_le (Nat.le_refl _)]
  rfl
/-- a function that gives a row: a slice that stays -/
theorem VCx.freeze {f : FuncId} {xs : List TV} {T : VT} {size : Nat} {es : List (List TV)} {Q : VT → Prop} (h : VCx P G 0 f xs T fun x T' => ∃ id off n, x = .row size id off n ∧ rowsR T' size (.row size id off n) = some es ∧ Q (T'.kill id)) :
    VCx P G 0 f xs T fun x T' => x = .vec size es .none ∧ Q T' := by
  intro g w us rw0 hG hx
  refine Calls.mono (h g w us rw0 hG hx) ?_
  rintro e w' ⟨v, x, g', T', he, ⟨id, off, n, rfl, h1, hq⟩, e', r', hv, hfx⟩
  obtain ⟨g2, e2, r2, v2⟩ := row_freeze r' h1 hv
  refine ⟨v, _, g2, _, he, ⟨rfl, hq⟩, e'.trans e2, r2, v2, ⟨?_, fun i hi => absurd hi (Nat.not_lt_zero i), fun i o b hi => absurd hi (Nat.not_lt_zero i)⟩⟩
  have := hfx.len
  simp only [VT.kill, List.length_set]; exact this
end
end Go.Proofs.Ytgconkbnokbinaa

/- A row of structs and the sort's form of it. -/
namespace Go.Proofs.Ytgconkbnokbinaa
open Go.RowKit Go.Sort
variable {α : Type} [Inhabited α]

theorem flat_at (enc : α → List Value) (k : Nat) (hk : ∀ x, (enc x).length = k) : ∀ (l : List α) (i c : Nat), i < l.length → c < k → (l.flatMap enc)[i * k + c]? = (enc l[i]!)[c]?
  | [], i, c, h, _ => by simp at h
  | x :: r, 0, c, _, hc => by
    rw [List.flatMap_cons, List.getElem?_append_left (by rw [hk]; omega)]
    simp
  | x :: r, i + 1, c, h, hc => by
    rw [List.flatMap_cons, List.getElem?_append_right (by rw [hk, Nat.add_mul]; omega), hk, show (i + 1) * k + c - k = i * k + c by rw [Nat.add_mul]; omega,
      flat_at enc k hk r i c (by simpa using h) hc]
    simp
omit [Inhabited α] in
theorem flat_len (enc : α → List Value) (k : Nat) (hk : ∀ x, (enc x).length = k) (l : List α) : (l.flatMap enc).length = l.length * k := by
  induction l with
  | nil => simp
  | cons x r ih => rw [List.flatMap_cons, List.length_append, hk, ih, List.length_cons, Nat.add_mul]; omega
theorem flatK_list (enc : α → List Value) (k : Nat) (hk : ∀ x, (enc x).length = k) (d : Array α) (t : Nat) (ht : t < d.size * k) : (d.toList.flatMap enc)[t]? = some (flatK enc k d)[t]! := by
  have k0 : 0 < k := by rcases Nat.eq_zero_or_pos k with h | h; · subst h; simp at ht
                        · exact h
  have hi : t / k < d.size := (Nat.div_lt_iff_lt_mul k0).2 ht
  have hc : t % k < k := Nat.mod_lt _ k0
  have e : t / k * k + t % k = t := by rw [Nat.mul_comm]; exact Nat.div_add_mod t k
  have h := flat_at enc k hk d.toList (t / k) (t % k) (by simpa using hi) hc
  rw [e] at h
  rw [h, get_flatK enc k d t ht]
  have e2 : d.toList[t / k]! = d[t / k]! := by simp [hi]
  rw [e2, getElem!_pos (enc d[t / k]!) (t % k) (by rw [hk]; exact hc), List.getElem?_eq_getElem]

theorem sortK_own (enc : α → List Value) (k : Nat) (hk : ∀ x, (enc x).length = k) {w : World} {base : Nat} {e : TypeId} {v : Value} (d : Array α) (h : w.ownsRow base e k v d.size (d.toList.flatMap enc)) (hn : 0 < d.size) :
    ∃ g cap, v = .slice (some ⟨g, 0, none⟩) d.size cap ∧ base ≤ g ∧ g < w.heap.size ∧ HoldsK enc k w g 0 d := by
  obtain ⟨hl, hx⟩ := h
  rcases hx with ⟨_, h0⟩ | ⟨g, cap, cur, rfl, hb, hg, hnc, hcm, hcs, htk⟩
  · omega
  · refine ⟨g, cap, rfl, hb, (Array.getElem?_eq_some_iff.1 hg).1, ?_⟩
    intro j hj
    rw [size_flatK] at hj
    have h1 := flatK_list enc k hk d j hj
    rw [← htk] at h1
    rw [List.getElem?_take, if_pos hj] at h1
    constructor
    · unfold World.cell?
      simp only [hg, Nat.zero_add]
      simpa using h1
    · unfold World.frozen?
      simp [hg]

theorem sortK_after (enc : α → List Value) (k : Nat) (hk : ∀ x, (enc x).length = k) {w : World} {g n cap : Nat} {d d' : Array α} {os : Array Obj} (hH : HoldsK enc k w g 0 d) (hs : d'.size = d.size) (hg : g < w.heap.size) (hcap : d.size ≤ cap) (hmax : cap ≤ maxLen) :
    Gb g w (sortWorldK enc k w g 0 n d' os) ∧ Rd (sortWorldK enc k w g 0 n d' os) k (.slice (some ⟨g, 0, none⟩) d.size cap) d.size (d'.toList.flatMap enc) := by
  have h1 : HoldsK enc k (sortWorldK enc k w g 0 n d' os) g 0 d' := by
    unfold sortWorldK
    exact holdsK_grow enc k _ os g 0 d' (by rw [putRowK, size_putRow]; exact hg) (holdsK_putRowK enc k (Sort.ahead w n) g 0 d d' (holdsK_ahead enc k w n g 0 d hH) hs)
  constructor
  · unfold sortWorldK putRowK putRow mapBlock Gb
    refine ⟨rfl, rfl, rfl, by simp [grow], fun i hi hne => ?_⟩
    have hne' : g ≠ i := fun e => hne (by rw [e])
    simp only [grow]
    rw [Array.getElem?_append_left (by simpa using hi), Array.getElem?_modify, if_neg hne']
    rfl
  · refine ⟨by rw [flat_len enc k hk]; simp [hs], _, cap, rfl, hcap, hmax, (fun h => by cases h), fun ad ha => ?_⟩
    injection ha with ha
    subst ha
    refine ⟨rfl, fun j u hu => ?_⟩
    have hj : j < d'.size * k := by
      have := (List.getElem?_eq_some_iff.1 hu).1
      rw [flat_len enc k hk] at this
      simpa using this
    have h2 := (h1 j (by rw [size_flatK]; exact hj)).1
    rw [flatK_list enc k hk d' j hj] at hu
    injection hu with hu
    rw [← hu]
    exact h2
end Go.Proofs.Ytgconkbnokbinaa

/- A sort in place, of a row of structs of numbers. For any program. -/
namespace Go.Proofs.Ytgconkbnokbinaa
open Go.RowKit Go.Sort

section
variable {α : Type} [Inhabited α]
theorem gr_grow (w : World) (os : Array Obj) : Gr w (Sort.grow w os) := ⟨rfl, rfl, rfl, by simp [Sort.grow], fun k hk => by simp [Sort.grow, Array.getElem?_append, hk]⟩
theorem sort_row (enc : α → List Value) (k : Nat) (hk : ∀ x, (enc x).length = k) (h1 : ∀ x, ∀ v ∈ enc x, v.oneCell' = true) {l l' : List α} (hlen : l'.length = l.length) {g : Gh} {T : VT} {w w' : World} {id b n : Nat} {os : Array Obj} (r : RW g T w)
    (hid : T.objs[id]? = some (.row ((l.flatMap enc).map .val))) (hb : g.obj id = some b) (hw : w' = sortWorldK enc k w b 0 n l'.toArray os) :
    Evo g w g w' ∧ RW g { T with objs := T.objs.set id (.row ((l'.flatMap enc).map .val)) } w' := by
  obtain ⟨b', q1, ⟨us, ty, q2, q3, q4, q5⟩, _⟩ := r.obj id _ hid rfl
  rw [hb] at q1; injection q1 with q1; subst q1
  have hfl : (l.flatMap enc).length = l.length * k := flat_len enc k hk l
  have hfl' : (l'.flatMap enc).length = l.length * k := by rw [flat_len enc k hk, hlen]
  have hF : (flatK enc k l'.toArray).size = l.length * k := by simp [hlen]
  have hle : l.length * k ≤ us.length := by simpa [hfl] using q3
  have hXs : (putCells _root_.id 0 (flatK enc k l'.toArray) us.toArray).size = us.length := by simp [putCells]
  have hX : ∀ j, j < us.length → (putCells _root_.id 0 (flatK enc k l'.toArray) us.toArray)[j]? = if j < l.length * k then (l'.flatMap enc)[j]? else us[j]? := fun j hj => by
    simp only [putCells, Array.getElem?_mapIdx, List.getElem?_toArray, Nat.zero_le, true_and, Nat.zero_add, Nat.sub_zero, hF]
    rw [List.getElem?_eq_getElem hj]
    by_cases h : j < l.length * k
    · simp only [if_pos h, Option.map_some, _root_.id]
      have := flatK_list enc k hk l'.toArray j (by simpa [hlen] using h)
      simpa using this.symm
    · simp only [if_neg h, Option.map_some]
  have hw1 : (putRowK enc k (Sort.ahead w n) b 0 l'.toArray).heap = w.heap.modify b (onCells (putCells _root_.id 0 (flatK enc k l'.toArray))) := rfl
  have hoth : ∀ c, c ≠ b → (putRowK enc k (Sort.ahead w n) b 0 l'.toArray).heap[c]? = w.heap[c]? := fun c hc => by rw [hw1, Array.getElem?_modify, if_neg (Ne.symm hc)]
  have hbk : (putRowK enc k (Sort.ahead w n) b 0 l'.toArray).heap[b]? = some (.cells (putCells _root_.id 0 (flatK enc k l'.toArray) us.toArray) ty (0, 0)) := by
    rw [hw1, Array.getElem?_modify, if_pos rfl, q2]; rfl
  have hg : Gr (putRowK enc k (Sort.ahead w n) b 0 l'.toArray) w' := by subst hw; exact gr_grow _ _
  have hos : (putRowK enc k (Sort.ahead w n) b 0 l'.toArray).os = w.os ∧ (putRowK enc k (Sort.ahead w n) b 0 l'.toArray).tape = w.tape ∧ (putRowK enc k (Sort.ahead w n) b 0 l'.toArray).output = w.output := ⟨rfl, rfl, rfl⟩
  have hsz : (putRowK enc k (Sort.ahead w n) b 0 l'.toArray).heap.size = w.heap.size := by rw [hw1]; simp
  generalize putRowK enc k (Sort.ahead w n) b 0 l'.toArray = w1 at *
  generalize putCells _root_.id 0 (flatK enc k l'.toArray) us.toArray = X at *
  have e0 : VRs g w ((l'.flatMap enc).map TV.val) (X.toList.take ((l'.flatMap enc).map TV.val).length) := by
    have e : X.toList.take ((l'.flatMap enc).map TV.val).length = l'.flatMap enc := by
      apply List.ext_getElem?
      intro j
      rw [List.length_map, hfl', List.getElem?_take]
      by_cases h : j < l.length * k
      · rw [if_pos h, Array.getElem?_toList, hX j (by omega), if_pos h]
      · rw [if_neg h, List.getElem?_eq_none (by omega)]
    rw [e]
    exact VRs.vals _ _ _
  have o1 : ∀ v ∈ X.toList.take ((l'.flatMap enc).map TV.val).length, v.oneCell' = true := by
    intro v hv
    have e : X.toList.take ((l'.flatMap enc).map TV.val).length = l'.flatMap enc := by
      apply List.ext_getElem?
      intro j
      rw [List.length_map, hfl', List.getElem?_take]
      by_cases h : j < l.length * k
      · rw [if_pos h, Array.getElem?_toList, hX j (by omega), if_pos h]
      · rw [if_neg h, List.getElem?_eq_none (by omega)]
    rw [e] at hv
    obtain ⟨x, _, hx⟩ := List.mem_flatMap.1 hv
    exact h1 x _ hx
  obtain ⟨_, e9⟩ := r.setObj hid rfl hb (o' := .gone) (w' := w1) hos hsz hoth (by rw [csize_cells hbk, csize_cells q2, hXs]; simp) (fun h => by cases h)
  obtain ⟨r1, e1⟩ := r.setObj hid rfl hb (o' := .row ((l'.flatMap enc).map .val)) (w' := w1) hos hsz hoth (by rw [csize_cells hbk, csize_cells q2, hXs]; simp)
    (fun _ => ⟨X.toList, ty, by simpa using hbk, by simp [hfl', hXs]; exact hle, e0.mono e9, o1⟩)
  exact ⟨e1.trans (Evo.of_gr r1 hg), r1.gr hg⟩
end
end Go.Proofs.Ytgconkbnokbinaa
