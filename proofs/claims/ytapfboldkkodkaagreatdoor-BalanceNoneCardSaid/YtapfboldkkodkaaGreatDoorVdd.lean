/- Regions by virtual time, fourth part: boxes' stores, operations carried out as they are reckoned, what is reckoned. For any program. -/
import Derived.Test.YtapfboldkkodkaaGreatDoorVdc
namespace Go.Proofs.YtapfboldkkodkaaGreatDoor
open Go.RowKit

section
variable {P : Program} {G : Globs} {F : Ora} {ops : Array Oper} {r : Option Nat} {flo : List (Nat × Option Nat)} {σ : List TV} {T T0 : VT} {V R : Array Bool} {pend : List Nat} {g : Gh} {w : World} {a : Act} {prot : Nat → Option Nat}
theorem boxesOk_at : ∀ {flo : List (Nat × Option Nat)}, boxesOk P G ops V σ flo = true → ∀ {i j}, (i, some j) ∈ flo → ¬ On V i → depsIn ops (V.setIfInBounds i true) j = true →
    ∃ o oj new d, ops[i]? = some o ∧ ops[j]? = some oj ∧ vboxVal P o.op oj.op (vev G (only ops oj σ)) = some new ∧ o.dst = some d ∧ d < σ.length
  | [], _, _, _, h, _, _ => by cases h
  | (i', none) :: l, hb, i, j, h, hn, hd => by
    simp only [boxesOk] at hb
    rcases List.mem_cons.1 h with h | h
    · cases h
    · exact boxesOk_at hb h hn hd
  | (i', some j') :: l, hb, i, j, h, hn, hd => by
    simp only [boxesOk, Bool.and_eq_true] at hb
    rcases List.mem_cons.1 h with h | h
    · injection h with h1 h2; injection h2 with h2; subst h1 h2
      have h3 := hb.1
      have hn' : V.getD i false = false := by unfold On at hn; cases hq : V.getD i false <;> first | rfl | exact absurd hq hn
      rw [hn', hd] at h3
      simp only [Bool.not_true, Bool.or_self, Bool.false_or] at h3
      split at h3
      · rename_i o oj ho hoj
        simp only [Bool.and_eq_true] at h3
        obtain ⟨new, hnew⟩ := Option.isSome_iff_exists.1 h3.1
        have h4 := h3.2
        split at h4
        · rename_i d hdd
          exact ⟨o, oj, new, d, ho, hoj, hnew, hdd, Nat.le_of_ble_eq_true h4⟩
        · cases h4
      · cases h3
    · exact boxesOk_at hb.2 h hn hd
theorem vboxVal_spec {o oj : Oper} {t t' : TypeId} {ad x : Operand} {inf : TypeInfo} {ev : Operand → TV} {new : List TV} (h : vboxVal P o.op oj.op ev = some new) (ho : o.op = .alloc t) (hoj : oj.op = .store t' ad x) (hi : P.info? t = some inf) : cellsOf (ev x) = some new ∧ inf.size = new.length ∧ new.all isCell = true := by
  unfold vboxVal at h
  rw [ho, hoj] at h
  simp only [hi] at h
  split at h
  · rename_i i new' h1 h2
    injection h1 with h1; subst h1
    cases hb : (Nat.beq inf.size new'.length && new'.all isCell) with
    | false => rw [hb] at h; cases h
    | true =>
      rw [hb] at h
      simp only [Bool.and_eq_true] at hb
      injection h with h; subst h
      exact ⟨h2, Nat.eq_of_beq_eq_true hb.1, hb.2⟩
  · cases h
/-- the first value is stored -/
theorem store_step (st : VStat P ops flo) (inv : VInv P G ops flo σ T T0 V R pend g w a.tmps.toList prot) (hG : GOk G g w) (hbx : boxesOk P G ops V σ flo = true) {QQ : Exit → Act → World → Prop} {K : Act → World → Prop} {i j : Nat} (hf : (i, some j) ∈ flo) (hj : j ∈ Region.ready .any ops R) (hV : ¬ On V j)
    (next : ∀ g' w' (a' : Act), VInv P G ops flo σ T T0 V (R.setIfInBounds j true) pend g' w' a'.tmps.toList prot → Evo g w g' w' → (∀ n, Fix n g T w T w') → a'.defers = a.defers → K a' w') : wpOpIn (fenR r) 0 P ops QQ j K a w := by
  obtain ⟨hun, oj, hoj, hdep⟩ := mem_ready.1 hj
  have hnR := not_on hun
  have hsz : j < R.size := by rw [inv.rs]; exact (Array.getElem?_eq_some_iff.1 hoj).1
  have hnd' := noDup_ok st.dup
  obtain ⟨o, ho, hlate, hbox⟩ := st.at hf
  obtain ⟨oj', hoj', hib, ⟨e1, he1, hb1, hon1⟩, hdeps⟩ := hbox j rfl
  rw [hoj] at hoj'; injection hoj' with hoj'; subst hoj'
  obtain ⟨d, t, inf, us0, x, h1, h2, h3, h4, h5, h6, h7, _, _⟩ := box_alloc hib hlate
  have hRi : On R i := hon1 ▸ hdep e1 he1 hb1
  have hVi : ¬ On V i := fun h => hV ((inv.vb i j hf).1 h)
  have hdepV : ∀ e ∈ oj.after, Region.binds .any e = true → e.on = i ∨ On V e.on := fun e he hb => by
    rcases hdeps e he hb with h | h
    · exact .inl h
    · refine .inr ?_
      cases hq : V.getD e.on false with
      | true => exact hq
      | false => exact absurd (inv.rv e.on (hdep e he hb) (by unfold On; rw [hq]; simp)) h
  have hdi : depsIn ops (V.setIfInBounds i true) j = true := by
    unfold depsIn
    rw [hoj]
    refine List.all_eq_true.2 fun e he => ?_
    cases hb : Region.binds .any e with
    | false => simp
    | true =>
      simp only [Bool.not_true, Bool.false_or]
      rcases hdepV e (Array.mem_toList_iff.1 he) hb with h | h
      · rw [h]; exact on_self (by rw [inv.vs]; exact (Array.getElem?_eq_some_iff.1 ho).1)
      · exact on_set h
  obtain ⟨o', oj', new, d', k1, k2, hnew, k3, hdlt⟩ := boxesOk_at hbx hf hVi hdi
  rw [ho] at k1; injection k1 with k1; subst k1
  rw [hoj] at k2; injection k2 with k2; subst k2
  rw [h1] at k3; injection k3 with k3; subst k3
  obtain ⟨hcells, hlen, hone⟩ := vboxVal_spec hnew h2 h3 h7
  obtain ⟨o', d', b, q1, q2, hp, oj', t', us, inf', q3, hheap, hptr, q4, q5, hus, _⟩ := inv.flt i (some j) hf hRi hVi
  rw [ho] at q1; injection q1 with q1; subst q1
  rw [h1] at q2; injection q2 with q2; subst q2
  rw [hoj] at q3; injection q3 with q3; subst q3
  rw [h2] at q4; injection q4 with q4; subst q4
  rw [h7] at q5; injection q5 with q5; subst q5
  -- the value
  have hlook : ∀ e, x = .tmp e → inList (oj.looksAt ops) e = true := fun e he => by
    rw [inList_iff]
    unfold Oper.looksAt
    rw [h3]
    simp [Op.operands, he]
  have hx : VR g w (vev G (only ops oj σ) x) (a.eval x) := by
    cases x with
    | tmp e =>
      have hl := hlook e rfl
      show VR g w ((only ops oj σ).getD e .dead) (a.eval (.tmp e))
      cases hs : σ[e]? with
      | none =>
        have : (only ops oj σ)[e]? = none := by rw [only_get, hs]; rfl
        rw [List.getD_eq_getElem?_getD, this]
        exact .dead _
      | some z =>
        have hz : (only ops oj σ)[e]? = some z := by rw [only_get, hs, hl]; rfl
        rw [List.getD_eq_getElem?_getD, hz]
        have hel : e < a.tmps.toList.length := by rw [inv.rel.1]; exact (List.getElem?_eq_some_iff.1 hs).1
        have hu : a.tmps.toList[e]? = some (a.eval (.tmp e)) := by
          rw [List.getElem?_eq_getElem hel]
          have : e < a.tmps.size := by simpa using hel
          simp [Act.eval, this]
        refine inv.rel.2 e z _ hs hu fun k ok hk hd => ?_
        obtain ⟨hkj, hRk⟩ := looks_on st.once hoj hdep hl hk hd
        refine ⟨?_, hRk⟩
        obtain ⟨h8, h9⟩ := once_spec st.once hk hd
        obtain ⟨e2, he2, hb2, hon2⟩ := (h9 j oj hoj (fun h => hkj h.symm)).2 hl
        rcases hdepV e2 he2 hb2 with h | h
        · exfalso
          rw [hon2] at h; subst h
          rw [ho] at hk; injection hk with hk; subst hk
          rw [h1] at hd; injection hd with hd; subst hd
          exact h6 rfl
        · rw [hon2] at h; exact h
    | const v => exact .val _
    | global n =>
      have := vev_ok (a := a) (σ := []) (G := G) (g := g) (w := w)
      show VR g w (vev G [] (.global n)) (a.eval (.global n))
      simp only [vev]
      split
      · rename_i cs hn; exact hG n cs hn
      · exact .val _
    | func f => exact .fn (us := []) (vs := []) rfl (fun j x u h => by simp at h) rfl (fun j x u h => by simp at h)
  have ha : a.eval (.tmp d) = .pointer (some ⟨b, 0, none⟩) := by
    have hel : d < a.tmps.toList.length := by rw [inv.rel.1]; exact hdlt
    have hu : a.tmps.toList[d]? = some (a.eval (.tmp d)) := by
      rw [List.getElem?_eq_getElem hel]
      have : d < a.tmps.size := by simpa using hel
      simp [Act.eval, this]
    exact hptr _ hu
  generalize hux : a.eval x = u at hx
  have k := cellsOf_ok hcells hx
  have hoc := cells_one hone k
  have hl : u.cells.toList.length = new.length := k.1
  have hrun0 := run_storeCells_at (P := P) b 0 t u.cells.toList 0 us.toArray w hheap (by simp at hl ⊢; omega) hoc
  simp only [Nat.add_zero, hl] at hrun0
  have hnd : notDefer oj.op = true := by rw [h3]; rfl
  have hcsz : csize (w.setRow b (us.take 0 ++ u.cells.toList ++ us.drop (0 + new.length)).toArray) b = csize w b := by
    rw [csize_cells (setRow_heap w b us.toArray _ t (0, 0) hheap), csize_cells hheap]
    simp at hl ⊢; omega
  have hrow : (us.take 0 ++ u.cells.toList ++ us.drop (0 + new.length)) = u.cells.toList := by
    rw [List.take_zero, List.nil_append, Nat.zero_add, List.drop_eq_nil_of_le (by omega), List.append_nil]
  have hrun : (execOp a.eval oj).run P w = .ok .skip (w.setRow b (us.take 0 ++ u.cells.toList ++ us.drop (0 + new.length)).toArray) := by
    have hs : u.cells.size = inf.size := by rw [hlen, ← hl]; simp
    have : (Instr.storeAt t (a.eval (.tmp d)) u).run P w = .ok () (w.setRow b (us.take 0 ++ u.cells.toList ++ us.drop (0 + new.length)).toArray) := by
      rw [ha]
      simp only [Instr.storeAt, Instr.sureAddr, storeVar, Sem.run_bind, Sem.run_pure, Result.andThen_ok, run_size h7, hs]
      simpa using hrun0
    obtain ⟨dst, op, ty, pos, af, gd⟩ := oj
    simp only at h3; subst h3
    simp [execOp, hux, this]
  refine wpOpIn_val (v := undef) hnd hoj (wanted_none h4) hrun rfl fun v' hv' => ?_
  injection hv' with hv'; subst hv'
  rw [hrow] at hcsz ⊢
  obtain ⟨p1, p2, p3, p4, p5, p6⟩ := inv.pr i b hp
  have hoth : ∀ c, c ≠ b → (w.setRow b u.cells.toList.toArray).heap[c]? = w.heap[c]? := fun c hc => setRow_other w b c _ hc
  obtain ⟨hrw', hev⟩ := inv.rw.off (b := b) (w' := w.setRow b u.cells.toList.toArray) (.inr ⟨i, hp⟩) p5 ⟨rfl, rfl, rfl⟩ (by simp) hoth hcsz
  have e := hev g rfl p4
  have hfix : ∀ n, Fix n g T w T (w.setRow b u.cells.toList.toArray) := fun n => ⟨Nat.le_refl _, fun _ _ _ => rfl, fun id o' b' _ ho' hl' hb' => hoth b' fun h => by
    subst h
    obtain ⟨b2, y1, _, y3, _⟩ := inv.rw.obj id o' ho' hl'
    have y1' : g.obj id = some b2 := y1
    rw [hb'] at y1'; injection y1' with y1'; subst y1'
    exact y3 (.inr ⟨i, hp⟩)⟩
  have hdst : oj.dst = none := h5
  refine next g _ (a.put oj.dst undef) ?_ e hfix (put_defers _ _ _)
  refine ⟨inv.vs, by simpa using inv.rs, inv.cv, inv.cr.set hj, ?_, fun k hk hv => on_set (inv.vf k hk hv), inv.vb, inv.rel.step e hoj fun d x hd _ _ => (by rw [hdst] at hd; cases hd), ?_, ?_, ?_, inv.pinj, hrw', inv.t0⟩
  · intro k' hk hnv
    by_cases hjk : j = k'
    · subst hjk; exact floatL_mem.2 ⟨i, some j, hf, .inr rfl⟩
    · exact inv.rv k' (on_set_ne hjk hk) hnv
  · intro k' ok hk hv hnr
    exact inv.own k' ok hk hv fun h => hnr (on_set h)
  · intro i' jo' hf' hri hnv
    by_cases hii : i' = i
    · subst hii
      obtain ⟨_, rfl⟩ := flo_uniq hnd' hf hf' (k := i') (.inl rfl) (.inl rfl)
      refine ⟨o, d, b, ho, h1, hp, oj, t, u.cells.toList, inf, hoj, setRow_heap w b us.toArray _ t (0, 0) hheap, fun u' hu' => ?_, h2, h7, by omega, fun _ => ⟨new, hnew, k.mono e, hoc⟩⟩
      rw [put_get, if_neg (by rw [hdst]; rintro ⟨h, _⟩; cases h)] at hu'
      exact hptr u' hu'
    · have hri' : On R i' := on_set_ne (fun h => by
        subst h
        exact hii (flo_uniq hnd' hf' hf (k := j) (.inl rfl) (.inr rfl)).1) hri
      refine (inv.flt i' jo' hf' hri' hnv).step e (fun b' hb' => hoth b' fun h => by subst h; exact hii (inv.pinj i' i b' hb' hp)) rfl (fun o' d' _ _ h3' => by rw [hdst] at h3'; cases h3') fun jj hjj hr => ?_
      subst hjj
      refine on_set_ne (fun h => ?_) hr
      subst h
      exact hii (flo_uniq hnd' hf' hf (k := j) (.inr rfl) (.inr rfl)).1
  · intro k' b' hk
    obtain ⟨y1, y2, y3, y4, y5, y6⟩ := inv.pr k' b' hk
    exact ⟨y1, on_set y2, y3, y4, y5, Nat.lt_of_lt_of_le y6 e.size⟩
end
end Go.Proofs.YtapfboldkkodkaaGreatDoor
