/- Regions by virtual time, last part: an operation carried out as it is reckoned; all orders. For any program. -/
import Derived.Test.YtapfboldkkodkaaGreatDoorVde
namespace Go.Proofs.YtapfboldkkodkaaGreatDoor
open Go.RowKit

section
variable {P : Program} {G : Globs} {F : Ora} {ops : Array Oper} {r : Option Nat} {flo : List (Nat × Option Nat)} {σ : List TV} {T T0 : VT} {V R : Array Bool} {pend : List Nat} {g : Gh} {w : World} {a : Act} {prot : Nat → Option Nat}
/-- behind an operation that was carried out as it was reckoned -/
theorem VInv.turned (st : VStat P ops flo) (inv : VInv P G ops flo σ T T0 V R pend g w a.tmps.toList prot) {i : Nat} {o : Oper} (ho : ops[i]? = some o) (hiR : i ∈ Region.ready .any ops R) (hiV : i ∈ Region.ready .any ops V) (hF : i ∉ floatL flo)
    {g' : Gh} {w' : World} {v : Value} {y : TV} {T' T0' : VT} {pend' : List Nat} (e : Evo g w g' w') (hfr : g'.fr = g.fr) (hB : ∀ b, PB prot b → w'.heap[b]? = w.heap[b]?) (hst : ∀ b o, PB prot b → g'.st b o → g.st b o) (hrw : RW (gP g' (PB prot)) T' w') (hy : ∀ d u, o.dst = some d → (a.put o.dst v).tmps.toList[d]? = some u → VR g' w' y u)
    (ht0 : T'.objs.take T0'.objs.length = T0'.objs) (hpend : ∀ k ok y, k ∈ pend → ops[k]? = some ok → ¬ On R k → vwant ops (only ops ok σ) ok = some true → vpure2 P ok.op (vev G (only ops ok σ)) = none → vread2 P T0 ok.op (vev G (only ops ok σ)) = some y → k ∈ pend' ∧ vread2 P T0' ok.op (vev G (only ops ok σ)) = some y) :
    VInv P G ops flo (vput σ o.dst y) T' T0' (V.setIfInBounds i true) (R.setIfInBounds i true) pend' g' w' (a.put o.dst v).tmps.toList prot := by
  obtain ⟨hun, o', ho', hdep⟩ := mem_ready.1 hiR
  rw [ho] at ho'; injection ho' with ho'; subst ho'
  have hnR := not_on hun
  have hVi := not_on (mem_ready.1 hiV).1
  have hlt := (Array.getElem?_eq_some_iff.1 ho).1
  refine ⟨by simpa using inv.vs, by simpa using inv.rs, inv.cv.set hiV, inv.cr.set hiR, fun k hk hnv => ?_, fun k hk hv => on_set (inv.vf k hk (on_set_ne (fun h => hF (by rw [h]; exact hk)) hv)), fun i' j' h => ?_, ?_, fun k ok hk hv hnr => ?_, fun i' jo hf hri hnv => ?_, fun k b hk => ?_, inv.pinj, hrw, ht0⟩
  · by_cases hik : i = k
    · subst hik; exact absurd (on_self (by rw [inv.vs]; exact hlt)) hnv
    · exact inv.rv k (on_set_ne hik hk) fun h => hnv (on_set h)
  · have h1 : i ≠ i' := fun e => hF (floatL_mem.2 ⟨i', some j', h, .inl e⟩)
    have h2 : i ≠ j' := fun e => hF (floatL_mem.2 ⟨i', some j', h, .inr (by rw [e])⟩)
    exact ⟨fun h3 => on_set ((inv.vb i' j' h).1 (on_set_ne h1 h3)), fun h3 => on_set ((inv.vb i' j' h).2 (on_set_ne h2 h3))⟩
  · refine ⟨by rw [vput_len, put_len]; exact inv.rel.1, fun s x u hs hu hw => ?_⟩
    rw [vput_get] at hs
    by_cases hc : o.dst = some s ∧ s < σ.length
    · rw [if_pos hc] at hs; injection hs with hs; subst hs
      exact hy s u hc.1 hu
    · rw [if_neg hc] at hs
      have hne : o.dst ≠ some s := fun hd => hc ⟨hd, (List.getElem?_eq_some_iff.1 hs).1⟩
      rw [put_get, if_neg fun h => hne h.1] at hu
      refine (inv.rel.2 s x u hs hu fun k ok hk hd => ?_).mono e
      obtain ⟨h1, h2⟩ := hw k ok hk hd
      have hik : i ≠ k := fun h => by
        subst h
        rw [ho] at hk; injection hk with hk; subst hk
        exact hne hd
      exact ⟨on_set_ne hik h1, on_set_ne hik h2⟩
  · have hki : i ≠ k := fun h => hnr (h ▸ on_self (by rw [inv.rs]; exact hlt))
    have hv' := on_set_ne hki hv
    have hnr' : ¬ On R k := fun h => hnr (on_set h)
    have h1 : Owed P G ops T0' pend' k ok σ := by
      obtain ⟨h2, h3⟩ := inv.own k ok hk hv' hnr'
      refine ⟨h2, ?_⟩
      rcases h3 with h3 | ⟨h3, z, h4, h5⟩
      · exact .inl h3
      · refine .inr ⟨h3, z, h4, ?_⟩
        rcases h5 with h5 | ⟨h5, h6, h7⟩
        · exact .inl h5
        · obtain ⟨h8, h9⟩ := hpend k ok z h5 hk hnr' h3 h6 h7
          exact .inr ⟨h8, h6, h9⟩
    exact h1.put (y := y) (pend' := pend') st inv.cv ho hVi hk hv' fun _ h => h
  · have hii : i ≠ i' := fun h => hF (floatL_mem.2 ⟨i', jo, hf, .inl h⟩)
    have hri' := on_set_ne hii hri
    have hnv' : ¬ On V i' := fun h => hnv (on_set h)
    have h0 := (inv.flt i' jo hf hri' hnv').sig (σ' := vput σ o.dst y) fun j oj hj hoj hrj => only_put fun s hs => by
      subst hj
      cases hlk : inList (oj.looksAt ops) s with
      | false => rfl
      | true =>
        exfalso
        have hji : j ≠ i := fun e => hF (floatL_mem.2 ⟨i', some j, hf, .inr (by rw [e])⟩)
        obtain ⟨e1, he, hb1, hon⟩ := ((once_spec st.once ho hs).2 j oj hoj hji).2 hlk
        exact hnR (hon ▸ inv.cr j oj hoj hrj e1 he hb1)
    refine h0.step e (fun b hb => hB b ⟨i', hb⟩) rfl (fun o' d' h1 h2 h3 => ((once_spec st.once h1 h2).2 i o ho hii).1 h3) fun j hj hr => ?_
    subst hj
    exact on_set_ne (fun h => hF (floatL_mem.2 ⟨i', some j, hf, .inr (by rw [h])⟩)) hr
  · obtain ⟨h1, h2, h3, h4, h5, h6⟩ := inv.pr k b hk
    refine ⟨h1, on_set h2, fun h => ?_, by rw [hfr]; exact h4, fun o2 hs => h5 o2 (hst b o2 ⟨k, hk⟩ hs), Nat.lt_of_lt_of_le h6 e.size⟩
    by_cases hik : i = k
    · subst hik; exact hnR h2
    · exact h3 (on_set_ne hik h)
/-- an operation that is carried out as it is reckoned -/
theorem turn_step (st : VStat P ops flo) (inv : VInv P G ops flo σ T T0 V R pend g w a.tmps.toList prot) (hG : GOk G g w) {QQ : Exit → Act → World → Prop} {K : Act → World → Prop} {i : Nat} {o : Oper} (ho : ops[i]? = some o)
    (hiR : i ∈ Region.ready .any ops R) (hiV : i ∈ Region.ready .any ops V) (hF : i ∉ floatL flo) {ro : Nat} {b : Bool} (hw : vwant ops (only ops o σ) o = some b) {X : List TV → VT → Prop}
    (h : b = true → VPi P G ro o (only ops o σ) T fun s T' => X (vput σ o.dst (pickD o s)) T') (hY : b = false → X (vput σ o.dst (.val undef)) T) {pend' : List Nat} (T0' : VT → VT) (ht0 : ∀ σ' T' w' g', X σ' T' → Fix ro g T w T' w' → Evo g w g' w' → T'.objs.take (T0' T').objs.length = (T0' T').objs)
    (hpend : ∀ σ' T' k ok y, X σ' T' → k ∈ pend → ops[k]? = some ok → ¬ On R k → vwant ops (only ops ok σ) ok = some true → vpure2 P ok.op (vev G (only ops ok σ)) = none → vread2 P T0 ok.op (vev G (only ops ok σ)) = some y → k ∈ pend' ∧ vread2 P (T0' T') ok.op (vev G (only ops ok σ)) = some y)
    (next : ∀ σ' T' g' w' (a' : Act), X σ' T' → VInv P G ops flo σ' T' (T0' T') (V.setIfInBounds i true) (R.setIfInBounds i true) pend' g' w' a'.tmps.toList prot → Evo g w g' w' → Fix ro g T w T' w' → a'.defers = a.defers → K a' w') : wpOpIn (fenR r) 0 P ops QQ i K a w := by
  obtain ⟨_, o', ho', hdepR⟩ := mem_ready.1 hiR
  rw [ho] at ho'; injection ho' with ho'; subst ho'
  obtain ⟨_, o', ho', hdepV⟩ := mem_ready.1 hiV
  rw [ho] at ho'; injection ho' with ho'; subst ho'
  have hl : ∀ s, inList (o.looksAt ops) s = true → ∀ (k : Nat) ok, ops[k]? = some ok → ok.dst = some s → On V k ∧ On R k := fun s hs k ok hk hd =>
    ⟨(looks_on st.once ho hdepV hs hk hd).2, (looks_on st.once ho hdepR hs hk hd).2⟩
  have hσ := inv.rel.only hl
  have hwant := wanted_of hw hσ
  cases b with
  | false =>
    refine wpOpIn_skip ho hwant ?_
    refine next _ T g w _ (hY rfl) ?_ (Evo.refl _ _) (Fix.refl _ _ _ _) (put_defers _ _ _)
    exact inv.turned st ho hiR hiV hF (Evo.refl _ _) rfl (fun _ _ => rfl) (fun _ _ _ h => h) inv.rw (fun d u hd hu => by
      rw [put_get] at hu
      by_cases hc : o.dst = some d ∧ d < a.tmps.toList.length
      · rw [if_pos hc] at hu; injection hu with hu; subst hu; exact .val _
      · rw [if_neg hc] at hu; exact absurd ⟨hd, (List.getElem?_eq_some_iff.1 hu).1⟩ hc) (ht0 _ _ w g (hY rfl) (Fix.refl _ _ _ _) (Evo.refl _ _)) (fun k ok y => hpend _ T k ok y (hY rfl))
  | true =>
    unfold wpOpIn
    simp only [ho]
    rw [if_pos hwant]
    refine h rfl r (gP g (PB prot)) w a _ _ inv.rw hG.toP (VRs.gh (g := g) (g' := gP g (PB prot)) rfl rfl rfl hσ) fun s T' g1 w1 a' hput hX e1 r1 hs hd' hfix => ?_
    obtain ⟨v, rfl⟩ := hput
    obtain ⟨g', rfl, hfr, e, hB, hst⟩ := e1.base
    have hfix' : Fix ro g T w T' w1 := ⟨hfix.len, hfix.same, hfix.heap⟩
    refine next _ T' g' w1 _ hX ?_ e hfix' hd'
    refine inv.turned st ho hiR hiV hF e hfr hB hst r1 (fun d u hd hu => ?_) (ht0 _ _ w1 g' hX hfix' e) (fun k ok y => hpend _ T' k ok y hX)
    unfold pickD
    rw [hd]
    simp only
    rw [List.getD_eq_getElem?_getD]
    have hlen : s.length = (a.put o.dst v).tmps.toList.length := hs.1.symm
    have hdl := (List.getElem?_eq_some_iff.1 hu).1
    rw [← hlen] at hdl
    rw [List.getElem?_eq_getElem hdl]
    exact (hs.2 d _ u (List.getElem?_eq_getElem hdl) hu).ofP
/-! ### All orders -/
theorem setAll_on : ∀ {l : List Nat} {V : Array Bool} {k : Nat}, On (setAll l V) k → k ∈ l ∨ On V k
  | [], _, _, h => .inr h
  | i :: l, V, k, h => by
    rcases setAll_on (l := l) h with h | h
    · exact .inl (List.mem_cons_of_mem _ h)
    · by_cases hik : i = k
      · exact .inl (by rw [hik]; exact List.mem_cons_self)
      · exact .inr (on_set_ne hik h)
theorem on_setAll : ∀ {l : List Nat} {V : Array Bool} {k : Nat}, (On V k ∨ (k ∈ l ∧ k < V.size)) → On (setAll l V) k
  | [], _, _, h => by
    rcases h with h | h
    · exact h
    · cases h.1
  | i :: l, V, k, h => by
    refine on_setAll (l := l) ?_
    rcases h with h | ⟨h, hk⟩
    · exact .inl (on_set h)
    · rcases List.mem_cons.1 h with h | h
      · subst h; exact .inl (on_self hk)
      · exact .inr ⟨h, by simpa using hk⟩
/-- who comes up, and was not reckoned -/
theorem ready_of (inv : VInv P G ops flo σ T T0 V R pend g w a.tmps.toList prot) {j : Nat} (hj : j ∈ Region.ready .any ops R) (hV : ¬ On V j) (hF : j ∉ floatL flo) : j ∈ Region.ready .any ops (setAll (floatL flo) V) := by
  obtain ⟨hun, o, ho, hdep⟩ := mem_ready.1 hj
  have hsz : ∀ (l : List Nat) (V : Array Bool), (setAll l V).size = V.size := by
    intro l
    induction l with
    | nil => intro V; rfl
    | cons i l ih => intro V; rw [setAll, ih]; simp
  have hlt := (Array.getElem?_eq_some_iff.1 ho).1
  refine mem_ready.2 ⟨off_of (by rw [hsz, inv.vs]; exact hlt) fun h => ?_, o, ho, fun e he hb => ?_⟩
  · rcases setAll_on h with h | h
    · exact hF h
    · exact hV h
  · have h1 := hdep e he hb
    by_cases hv : On V e.on
    · exact on_setAll (.inl hv)
    · refine on_setAll (.inr ⟨inv.rv e.on h1 hv, ?_⟩)
      have h2 := inv.rs
      have h3 := inv.vs
      rcases Nat.lt_or_ge e.on R.size with h | h
      · omega
      · simp [Array.getElem?_eq_none h] at h1
theorem remL_mem {i : Nat} : ∀ {l : List Nat} {k : Nat}, k ∈ l → k ≠ i → k ∈ remL i l
  | a :: l, k, h, hn => by
    simp only [remL]
    cases hb : Nat.beq a i with
    | true =>
      have := Nat.eq_of_beq_eq_true hb
      simp only [cond_true]
      rcases List.mem_cons.1 h with h | h
      · exact absurd (h.trans this) hn
      · exact remL_mem h hn
    | false =>
      simp only [cond_false]
      rcases List.mem_cons.1 h with h | h
      · rw [h]; exact List.mem_cons_self
      · exact List.mem_cons_of_mem _ (remL_mem h hn)
theorem remL_sub {i : Nat} : ∀ {l : List Nat} {k : Nat}, k ∈ remL i l → k ∈ l
  | a :: l, k, h => by
    simp only [remL] at h
    cases hb : Nat.beq a i with
    | true => rw [hb] at h; exact List.mem_cons_of_mem _ (remL_sub h)
    | false =>
      rw [hb] at h
      rcases List.mem_cons.1 h with h | h
      · rw [h]; exact List.mem_cons_self
      · exact List.mem_cons_of_mem _ (remL_sub h)
/-- likewise, while a float is not carried out -/
theorem ready_rem (inv : VInv P G ops flo σ T T0 V R pend g w a.tmps.toList prot) {j i0 : Nat} (hn : ¬ On R i0) (hj : j ∈ Region.ready .any ops R) (hV : ¬ On V j) (hF : j ∉ floatL flo) : j ∈ Region.ready .any ops (setAll (remL i0 (floatL flo)) V) := by
  obtain ⟨hun, o, ho, hdep⟩ := mem_ready.1 hj
  have hsz : ∀ (l : List Nat) (V : Array Bool), (setAll l V).size = V.size := by
    intro l
    induction l with
    | nil => intro V; rfl
    | cons i l ih => intro V; rw [setAll, ih]; simp
  have hlt := (Array.getElem?_eq_some_iff.1 ho).1
  refine mem_ready.2 ⟨off_of (by rw [hsz, inv.vs]; exact hlt) fun h => ?_, o, ho, fun e he hb => ?_⟩
  · rcases setAll_on h with h | h
    · exact hF (remL_sub h)
    · exact hV h
  · have h1 := hdep e he hb
    by_cases hv : On V e.on
    · exact on_setAll (.inl hv)
    · refine on_setAll (.inr ⟨remL_mem (inv.rv e.on h1 hv) (fun h => hn (h ▸ h1)), ?_⟩)
      have h2 := inv.rs
      have h3 := inv.vs
      rcases Nat.lt_or_ge e.on R.size with h | h
      · omega
      · simp [Array.getElem?_eq_none h] at h1
def offN (R : Array Bool) : Nat := R.toList.count false
theorem offN_set {R : Array Bool} {i : Nat} (hi : i < R.size) (h : ¬ On R i) : offN (R.setIfInBounds i true) + 1 ≤ offN R := by
  unfold offN
  rw [Array.toList_setIfInBounds]
  have hl : i < R.toList.length := by simpa using hi
  have h0 : R.toList[i] = false := by
    unfold On at h
    simp [hi] at h ⊢; exact h
  have hm : false ∈ R.toList := by rw [← h0]; exact List.getElem_mem hl
  have hpos : 0 < R.toList.count false := List.count_pos_iff.2 hm
  rw [List.count_set hl, h0]
  simp only [beq_self_eq_true, if_true, Nat.add_zero, show ((true : Bool) == false) = false from rfl, Bool.false_eq_true, if_false]
  omega
theorem offN_zero {R : Array Bool} (h : offN R = 0) : ∀ i, i < R.size → On R i := fun i hi => by
  unfold offN at h
  have h1 : false ∉ R.toList := List.count_eq_zero.1 h
  unfold On
  simp [hi]
  cases hq : R[i] with
  | true => rfl
  | false =>
    exfalso
    apply h1
    rw [← hq]
    exact Array.mem_toList_iff.2 (Array.getElem_mem hi)
theorem ready_nil_on (hf : flowOk ops = true) {R : Array Bool} (hs : R.size = ops.size) (h : Region.ready .any ops R = []) : ∀ i, i < ops.size → On R i := all_listed hf hs h
theorem ready_nil_of {R : Array Bool} (h : ∀ i, i < ops.size → On R i) : Region.ready .any ops R = [] := by
  apply List.eq_nil_iff_forall_not_mem.2
  intro i hi
  obtain ⟨hun, o, ho, _⟩ := mem_ready.1 hi
  exact not_on hun (h i (Array.getElem?_eq_some_iff.1 ho).1)
end
end Go.Proofs.YtapfboldkkodkaaGreatDoor
