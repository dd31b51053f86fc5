/- Regions by virtual time, third part: what is carried out. For any program. -/
import Derived.Test.YtapfboldkkodkaaGreatDoorVdb
namespace Go.Proofs.YtapfboldkkodkaaGreatDoor
open Go.RowKit

section
variable {P : Program} {G : Globs} {F : Ora} {ops : Array Oper} {r : Option Nat} {flo : List (Nat × Option Nat)} {σ : List TV} {T T0 : VT} {V R : Array Bool} {pend : List Nat} {g : Gh} {w : World} {a : Act} {prot : Nat → Option Nat}
theorem wpOpIn_skip {QQ : Exit → Act → World → Prop} {j : Nat} {o : Oper} (ho : ops[j]? = some o) (hw : Region.wanted o (yielded ops a.tmps) = false) {K : Act → World → Prop} (h : K (a.put o.dst undef) w) : wpOpIn (fenR r) 0 P ops QQ j K a w := by
  unfold wpOpIn
  simp only [ho]
  rw [if_neg (by rw [hw]; exact Bool.false_ne_true)]
  exact ⟨fun _ _ => trivial, h⟩
theorem wpOpIn_val {QQ : Exit → Act → World → Prop} {j : Nat} {o : Oper} (hd : notDefer o.op = true) (ho : ops[j]? = some o) (hw : Region.wanted o (yielded ops a.tmps) = true) {m : Next} {v : Value} {w' : World} (hrun : (execOp a.eval o).run P w = .ok m w') (hv : nextVal m = some v)
    {K : Act → World → Prop} (h : ∀ v, nextVal m = some v → K (a.put o.dst v) w') : wpOpIn (fenR r) 0 P ops QQ j K a w := by
  have hne : ∀ c, o.op ≠ .defer c := fun c hc => by rw [hc] at hd; cases hd
  unfold wpOpIn
  simp only [ho]
  rw [if_pos hw]
  refine ⟨fun _ _ => trivial, ?_⟩
  rw [Oper.semAt_eq _ _ _ hne, hrun]
  cases m <;> simp only [nextVal] at hv <;> try (cases hv)
  · exact h _ rfl
  · exact h _ rfl
theorem GOk.toP {B : Nat → Prop} (h : GOk G g w) : GOk G (gP g B) w := fun n cs hn => (h n cs hn).toP
theorem wanted_none {o : Oper} (h : o.guard.isNone = true) : Region.wanted o (yielded ops a.tmps) = true := by
  unfold Region.wanted
  cases hg : o.guard with
  | none => rfl
  | some x => rw [hg] at h; cases h
theorem fix_same {n : Nat} {w' : World} {g0 : Gh} {B : Nat → Prop} (h : Same (gP g0 B) T w w') : Fix n g0 T w T w' :=
  ⟨Nat.le_refl _, fun _ _ _ => rfl, fun i o b _ ho hl hb => h.obj i o b ho hl hb⟩
theorem VInv.base (inv : VInv P G ops flo σ T T0 V R pend g w a.tmps.toList prot) : RW g T w := inv.rw.lessFr rfl rfl rfl fun _ h => .inl h
/-- what was reckoned is carried out -/
theorem owed_step (st : VStat P ops flo) (inv : VInv P G ops flo σ T T0 V R pend g w a.tmps.toList prot) (hG : GOk G g w) {QQ : Exit → Act → World → Prop} {K : Act → World → Prop} {j : Nat} (hj : j ∈ Region.ready .any ops R) (hV : On V j)
    (next : ∀ g' w' (a' : Act), VInv P G ops flo σ T T0 V (R.setIfInBounds j true) pend g' w' a'.tmps.toList prot → Evo g w g' w' → (∀ n, Fix n g T w T w') → a'.defers = a.defers → K a' w') : wpOpIn (fenR r) 0 P ops QQ j K a w := by
  obtain ⟨hun, o, ho, hdep⟩ := mem_ready.1 hj
  have hnR := not_on hun
  have hjs : j < R.size := by rw [inv.rs]; exact (Array.getElem?_eq_some_iff.1 ho).1
  have hdepV : ∀ e ∈ o.after, Region.binds .any e = true → On V e.on := fun e he hb => inv.cv j o ho hV e he hb
  have hl : ∀ s, inList (o.looksAt ops) s = true → ∀ (k : Nat) ok, ops[k]? = some ok → ok.dst = some s → On V k ∧ On R k := fun s hs k ok hk hd =>
    ⟨(looks_on st.once ho hdepV hs hk hd).2, (looks_on st.once ho hdep hs hk hd).2⟩
  have hσ := inv.rel.only hl
  obtain ⟨hnd, how⟩ := inv.own j o ho hV hnR
  have hjF : j ∉ floatL flo := fun hm => hnR (inv.vf j hm hV)
  have key : ∀ (g' : Gh) (w' : World) (v : Value), Evo g w g' w' → g'.fr = g.fr → RW (gP g' (PB prot)) T w' → (∀ b, PB prot b → w'.heap[b]? = w.heap[b]?) → (∀ b o, PB prot b → g'.st b o → g.st b o) → (∀ d x, o.dst = some d → σ[d]? = some x → VR g' w' x v) → (∀ n, Fix n g T w T w') → K (a.put o.dst v) w' := by
    intro g' w' v e hfr hrw hB hst hx hfix
    refine next g' w' _ ?_ e hfix (put_defers _ _ _)
    refine ⟨inv.vs, by simpa using inv.rs, inv.cv, inv.cr.set hj, ?_, fun k hk hv => on_set (inv.vf k hk hv), inv.vb, inv.rel.step e ho fun d x hd hs _ => hx d x hd hs, ?_, ?_, ?_, inv.pinj, hrw, inv.t0⟩
    · intro k hk hnv
      by_cases hjk : j = k
      · subst hjk; exact absurd hV hnv
      · exact inv.rv k (on_set_ne hjk hk) hnv
    · intro k ok hk hv hnr
      exact inv.own k ok hk hv fun h => hnr (on_set h)
    · intro i jo hi hri hnvi
      have hne : j ≠ i := fun h => hnvi (h ▸ hV)
      refine (inv.flt i jo hi (on_set_ne hne hri) hnvi).step e (fun b hb => hB b ⟨i, hb⟩) rfl (fun o' d' h1 h2 h3 => ?_) (fun jj hjj hr => ?_)
      · exact ((once_spec st.once h1 h2).2 j o ho hne).1 h3
      · subst hjj
        refine on_set_ne (fun h => ?_) hr
        subst h
        exact hjF (floatL_mem.2 ⟨i, some j, hi, .inr rfl⟩)
    · intro k b hk
      obtain ⟨h1, h2, h3, h4, h5, h6⟩ := inv.pr k b hk
      exact ⟨h1, on_set h2, h3, by rw [hfr]; exact h4, fun o hs => h5 o (hst b o ⟨k, hk⟩ hs), Nat.lt_of_lt_of_le h6 e.size⟩
  rcases how with ⟨hw, hu⟩ | ⟨hw, y, hy, hsem⟩
  · refine wpOpIn_skip ho (wanted_of hw hσ) ?_
    exact key g w undef (Evo.refl _ _) rfl inv.rw (fun _ _ => rfl) (fun _ _ _ h => h) (fun d x hd hs => by rw [hu d x hd hs]; exact .val _) (fun n => Fix.refl _ _ _ _)
  · have hρ : ∀ x, VR (gP g (PB prot)) w (vev G (only ops o σ) x) (a.eval x) := vev_ok hG.toP (VRs.gh (g := g) (g' := gP g (PB prot)) rfl rfl rfl hσ)
    have hs : ∃ Tp : VT, T.objs.take Tp.objs.length = Tp.objs ∧ OwnSem P G Tp o (only ops o σ) y := by
      rcases hsem with h | ⟨_, _, h⟩
      · exact ⟨⟨[], []⟩, take_nil T, h⟩
      · exact ⟨T0, inv.t0, read_sem h⟩
    obtain ⟨Tp, hTp, hsem⟩ := hs
    obtain ⟨m, v, g1, w1, h1, h2, h3, h4, h5, h6⟩ := hsem (gP g (PB prot)) w a.eval T hTp inv.rw hρ
    obtain ⟨g', rfl, hfr, e, hB, hst⟩ := h4.base
    refine wpOpIn_val hnd ho (wanted_of hw hσ) h1 h2 fun v' hv' => ?_
    rw [h2] at hv'; injection hv' with hv'; subst hv'
    exact key g' w1 v e hfr h5 hB hst (fun d x hd hs => by rw [hy d x hd hs]; exact h3.ofP) (fun n => fix_same h6)
theorem box_alloc {o oj : Oper} (hb : isBoxOf P o oj = true) (hl : lateAt P o = true) : ∃ (d : Tmp) (t : TypeId) (inf : TypeInfo) (us : List Value) (x : Operand), o.dst = some d ∧ o.op = .alloc t ∧ oj.op = .store t (.tmp d) x ∧ oj.guard.isNone = true ∧ oj.dst = none ∧ x ≠ .tmp d ∧ P.info? t = some inf ∧ us.length = inf.size ∧
    ∀ (ρ : Operand → Value) w, (execOp ρ o).run P w = .ok (.value (.pointer (some ⟨w.heap.size, 0, none⟩))) (w.alloc (.cells us.toArray t)) := by
  unfold isBoxOf at hb
  split at hb
  · rename_i d t t' d' x hd ho hoj
    simp only [Bool.and_eq_true] at hb
    obtain ⟨⟨⟨⟨⟨h1, h2⟩, h3⟩, h4⟩, h5⟩, h6⟩ := hb
    have h1 := Nat.eq_of_beq_eq_true h1
    have h2 := Nat.eq_of_beq_eq_true h2
    subst h1 h2
    split at h6
    · rename_i inf hi
      split at h6
      · rename_i z hz
        refine ⟨d, t, inf, z.cells.toList, x, hd, ho, hoj, h3, (by cases hq : oj.dst with | none => rfl | some _ => rw [hq] at h4; cases h4), ?_, hi, by simpa using Nat.eq_of_beq_eq_true h6, fun ρ w => ?_⟩
        · rintro rfl
          simp at h5
        · obtain ⟨dst, op, ty, pos, af, gd⟩ := o
          simp only at ho; subst ho
          simp [execOp, Instr.alloc, zeroValue, typeInfo, hi, hz, newVar, newRow]
      · cases h6
    · cases h6
  · cases hb
theorem lateAt_spec {o : Oper} (h : lateAt P o = true) : (vlateMk P ⟨[], []⟩ o.op).isSome = true ∧ o.guard.isNone = true ∧ (∃ d, o.dst = some d) ∧ notDefer o.op = true := by
  simp only [lateAt, Bool.and_eq_true] at h
  exact ⟨h.1.1.1, h.1.1.2, Option.isSome_iff_exists.1 h.1.2, h.2⟩
/-- a float is carried out -/
theorem float_step (st : VStat P ops flo) (inv : VInv P G ops flo σ T T0 V R pend g w a.tmps.toList prot) {QQ : Exit → Act → World → Prop} {K : Act → World → Prop} {i : Nat} {jo : Option Nat} (hf : (i, jo) ∈ flo) (hi : i ∈ Region.ready .any ops R) (hV : ¬ On V i)
    (next : ∀ g' w' (a' : Act) prot', VInv P G ops flo σ T T0 V (R.setIfInBounds i true) pend g' w' a'.tmps.toList prot' → Evo g w g' w' → (∀ n, Fix n g T w T w') → a'.defers = a.defers → K a' w') : wpOpIn (fenR r) 0 P ops QQ i K a w := by
  obtain ⟨hun, o, ho, hdep⟩ := mem_ready.1 hi
  have hnR := not_on hun
  have hsz : i < R.size := by rw [inv.rs]; exact (Array.getElem?_eq_some_iff.1 ho).1
  obtain ⟨o', ho', hlate, hbox⟩ := st.at hf
  rw [ho] at ho'; injection ho' with ho'; subst ho'
  obtain ⟨hmk, hgd, ⟨d, hd⟩, hnd⟩ := lateAt_spec hlate
  have hnd' := noDup_ok st.dup
  -- what it lays
  have lay : ∃ blk v0, (execOp a.eval o).run P w = .ok (.value v0) (w.alloc blk) ∧ ∀ tm' : List Value, (∀ u, tm'[d]? = some u → u = v0) → ∀ (g' : Gh) (R' : Array Bool) (prot' : Nat → Option Nat), prot' i = some w.heap.size → (∀ j, jo = some j → ¬ On R' j) → FlSt P G ops σ R' g' (w.alloc blk) tm' prot' i jo := by
    cases jo with
    | none =>
      obtain ⟨blk, f, vo, mk, h1, h2⟩ := late_spec hmk
      refine ⟨blk, f w.heap.size, h1.run a.eval w fun v => rfl, fun tm' htm g' R' prot' hp _ => ⟨o, d, w.heap.size, ho, hd, hp, blk, f, vo, mk, h1, h2, heap_alloc_new w blk, htm⟩⟩
    | some j =>
      obtain ⟨oj, hoj, hb, _, _⟩ := hbox j rfl
      obtain ⟨d', t, inf, us, x, h1, h2, h3, h4, h5, h6, h7, h8, h9⟩ := box_alloc hb hlate
      rw [hd] at h1; injection h1 with h1; subst h1
      exact ⟨_, _, h9 a.eval w, fun tm' htm g' R' prot' hp hj => ⟨o, d, w.heap.size, ho, hd, hp, oj, t, us, inf, hoj, heap_alloc_new w _, htm, h2, h7, h8, fun h => absurd h (hj j rfl)⟩⟩
  obtain ⟨blk, v0, hrun, hlay⟩ := lay
  refine wpOpIn_val hnd ho (wanted_none hgd) hrun rfl fun v' hv' => ?_
  injection hv' with hv'; subst hv'
  have hgr : Gr w (w.alloc blk) := (Gr.refl w).alloc _
  have e := Evo.of_gr inv.base hgr
  have hsame := Same.of_gr inv.rw hgr
  have hlt : w.heap.size < (w.alloc blk).heap.size := (Array.getElem?_eq_some_iff.1 (heap_alloc_new w blk)).1
  have hnone : ∀ b, prot i ≠ some b := fun b hb => hnR (inv.pr i b hb).2.1
  refine next g (w.alloc blk) _ (fun k => if k = i then some w.heap.size else prot k) ?_ e (fun n => fix_same hsame) (put_defers _ _ _)
  have hpne : ∀ k, k ≠ i → (if k = i then some w.heap.size else prot k) = prot k := fun k hk => if_neg hk
  refine ⟨inv.vs, by simpa using inv.rs, inv.cv, inv.cr.set hi, ?_, fun k hk hv => on_set (inv.vf k hk hv), inv.vb, inv.rel.step e ho fun _ _ _ _ h => absurd h hV, ?_, ?_, ?_, ?_, ?_, inv.t0⟩
  · intro k hk hnv
    by_cases hik : i = k
    · subst hik; exact floatL_mem.2 ⟨i, jo, hf, .inl rfl⟩
    · exact inv.rv k (on_set_ne hik hk) hnv
  · intro k ok hk hv hnr
    exact inv.own k ok hk hv fun h => hnr (on_set h)
  · intro i' jo' hf' hri hnv
    by_cases hii : i' = i
    · subst hii
      obtain ⟨_, rfl⟩ := flo_uniq hnd' hf hf' (k := i') (.inl rfl) (.inl rfl)
      refine hlay _ (fun u hu => ?_) g _ _ (if_pos rfl) fun j hj hon => ?_
      · rw [put_get] at hu
        by_cases hc : o.dst = some d ∧ d < a.tmps.toList.length
        · rw [if_pos hc] at hu; injection hu with hu; exact hu.symm
        · rw [if_neg hc] at hu
          exact absurd ⟨hd, (List.getElem?_eq_some_iff.1 hu).1⟩ hc
      · obtain ⟨oj, hoj, _, ⟨e1, he1, hb1, hon1⟩, _⟩ := hbox j hj
        have hne : i' ≠ j := by
          rintro rfl
          rw [ho] at hoj; injection hoj with hoj; subst hoj
          have := (flowOk_spec st.flow ho).1 e1 he1 hb1
          omega
        have := inv.cr j oj hoj (on_set_ne hne hon) e1 he1 hb1
        rw [hon1] at this
        exact hnR this
    · refine (inv.flt i' jo' hf' (on_set_ne (fun h => hii h.symm) hri) hnv).step e (fun b hb => hgr.heap (inv.pr i' b hb).2.2.2.2.2) (hpne i' hii) (fun o' d' h1 h2 h3 => ?_) fun jj hjj hr => ?_
      · exact ((once_spec st.once h1 h2).2 i o ho (fun h => hii h.symm)).1 h3
      · subst hjj
        refine on_set_ne (fun h => ?_) hr
        subst h
        exact hii (flo_uniq hnd' hf' hf (k := i) (.inr rfl) (.inl rfl)).1
  · intro k b hk
    by_cases hki : k = i
    · subst hki
      rw [if_pos rfl] at hk; injection hk with hk; subst hk
      have hfresh := inv.rw.fresh (Nat.le_refl w.heap.size)
      exact ⟨⟨jo, hf⟩, on_self hsz, hV, fun h => hfresh.fr (.inl h), hfresh.st, hlt⟩
    · rw [if_neg hki] at hk
      obtain ⟨h1, h2, h3, h4, h5, h6⟩ := inv.pr k b hk
      exact ⟨h1, on_set h2, h3, h4, h5, Nat.lt_trans h6 hlt⟩
  · intro k k' b hk hk'
    by_cases hki : k = i <;> by_cases hki' : k' = i
    · omega
    · subst hki
      rw [if_pos rfl] at hk; rw [if_neg hki'] at hk'
      injection hk with hk; subst hk
      have := (inv.pr k' _ hk').2.2.2.2.2
      omega
    · subst hki'
      rw [if_pos rfl] at hk'; rw [if_neg hki] at hk
      injection hk' with hk'; subst hk'
      have := (inv.pr k _ hk).2.2.2.2.2
      omega
    · rw [if_neg hki] at hk; rw [if_neg hki'] at hk'
      exact inv.pinj k k' b hk hk'
  · have hfresh := inv.rw.fresh (Nat.le_refl w.heap.size)
    refine RW.frs (inv.rw.gr hgr) rfl rfl rfl fun b hb => ?_
    rcases hb with hb | ⟨k, hk⟩
    · exact ⟨Nat.lt_of_lt_of_le (inv.rw.fr b (.inl hb)) hgr.size, .inl (.inl hb)⟩
    · replace hk : (if k = i then some w.heap.size else prot k) = some b := hk
      by_cases hki : k = i
      · rw [if_pos hki] at hk; injection hk with hk; subst hk
        exact ⟨hlt, .inr ⟨hfresh.obj, hfresh.tl⟩⟩
      · rw [if_neg hki] at hk
        exact ⟨Nat.lt_trans (inv.pr k b hk).2.2.2.2.2 hlt, .inl (.inr ⟨k, hk⟩)⟩
end
end Go.Proofs.YtapfboldkkodkaaGreatDoor
