/- Regions by virtual time: the whole. For any program. -/
import Derived.Test.YtapfboldkkodkaaGreatDoorVdf
namespace Go.Proofs.YtapfboldkkodkaaGreatDoor
open Go.RowKit

section
variable {P : Program} {G : Globs} {F : Ora} {ops : Array Oper} {r : Option Nat} {flo : List (Nat × Option Nat)} {σ : List TV} {T T0 : VT} {V R : Array Bool} {pend : List Nat} {g : Gh} {w : World} {a : Act} {prot : Nat → Option Nat}
theorem other_step (st : VStat P ops flo) (inv : VInv P G ops flo σ T T0 V R pend g w a.tmps.toList prot) (hG : GOk G g w) (hbx : boxesOk P G ops V σ flo = true) {QQ : Exit → Act → World → Prop} {K : Act → World → Prop} {j : Nat} (hj : j ∈ Region.ready .any ops R) (hVF : On V j ∨ (¬ On V j ∧ j ∈ floatL flo))
    (next : ∀ g' w' (a' : Act) prot', VInv P G ops flo σ T T0 V (R.setIfInBounds j true) pend g' w' a'.tmps.toList prot' → Evo g w g' w' → (∀ n, Fix n g T w T w') → a'.defers = a.defers → K a' w') : wpOpIn (fenR r) 0 P ops QQ j K a w := by
  rcases hVF with hV | ⟨hV, hF⟩
  · exact owed_step st inv hG hj hV fun g' w' a' => next g' w' a' prot
  · obtain ⟨i, jo, h1, h2⟩ := floatL_mem.1 hF
    rcases h2 with rfl | rfl
    · exact float_step st inv h1 hj hV next
    · exact store_step st inv hG hbx h1 hj hV fun g' w' a' => next g' w' a' prot
theorem anyIn_done {QQ : Exit → Act → World → Prop} (h : Region.ready .any ops R = []) (hq : QQ .normal a w) : ∀ fuel, wpAnyIn (fenR r) 0 P .any ops QQ fuel R a w
  | 0 => ⟨h, hq⟩
  | _ + 1 => ⟨fun _ => hq, fun j hj => by rw [h] at hj; cases hj⟩
theorem anyIn_wait {QQ : Exit → Act → World → Prop} (hf : flowOk ops = true) (hs : R.size = ops.size) {i : Nat} (hi : i < ops.size) (hn : ¬ On R i) {fuel : Nat} (hfu : offN R ≤ fuel)
    (step : ∀ n, n < fuel → ∀ j ∈ Region.ready .any ops R, offN (R.setIfInBounds j true) ≤ n → wpOpIn (fenR r) 0 P ops QQ j (wpAnyIn (fenR r) 0 P .any ops QQ n (R.setIfInBounds j true)) a w) : wpAnyIn (fenR r) 0 P .any ops QQ fuel R a w := by
  cases fuel with
  | zero => exact absurd (offN_zero (by omega) i (by rw [hs]; exact hi)) hn
  | succ n =>
    refine ⟨fun h => absurd (ready_nil_on hf hs h i hi) hn, fun j hj => step n (Nat.lt_succ_self n) j hj ?_⟩
    obtain ⟨hun, o, ho, _⟩ := mem_ready.1 hj
    have := offN_set (R := R) (i := j) (by rw [hs]; exact (Array.getElem?_eq_some_iff.1 ho).1) (not_on hun)
    omega
theorem listed_all {l : List Nat} {q : Nat → Bool} (h : l.all q = true) {k : Nat} (hk : k ∈ l) : q k = true := List.all_eq_true.1 h k hk
theorem Fix.le {n m : Nat} (h : n ≤ m) {g : Gh} {T T' : VT} {w w' : World} (k : Fix m g T w T' w') : Fix n g T w T' w' := ⟨k.len, fun i hi => k.same i (Nat.lt_of_lt_of_le hi h), fun i o b hi => k.heap i o b (Nat.lt_of_lt_of_le hi h)⟩
theorem eqL_ok : ∀ {l m : List Nat}, eqL l m = true → l = m
  | [], [], _ => rfl
  | a :: l, b :: m, h => by
    simp only [eqL, Bool.and_eq_true] at h
    rw [Nat.eq_of_beq_eq_true h.1, eqL_ok h.2]
  | [], _ :: _, h => by cases h
  | _ :: _, [], h => by cases h
theorem cond_false_elim {b : Bool} {X : Prop} {n : Nat} {op : Op} {l : List TV} (h : cond b X (vbad n op l)) : b = true ∧ X := by
  cases b with
  | false => exact h.elim
  | true => exact ⟨rfl, h⟩
theorem pendApart_at {id off n : Nat} {l : List Nat} (h : pendApart P G ops id off n σ l = true) {k : Nat} {o : Oper} (hk : k ∈ l) (ho : ops[k]? = some o) (hw : vwant ops (only ops o σ) o = some true) (hp : vpure2 P o.op (vev G (only ops o σ)) = none) : apartRead P id off n o.op (vev G (only ops o σ)) = true := by
  induction l with
  | nil => cases hk
  | cons a l ih =>
    unfold pendApart at h
    rw [Bool.and_eq_true] at h
    rcases List.mem_cons.1 hk with e | hk
    · subst e
      have h1 := h.1
      rw [ho] at h1
      simp only [hw, hp, Option.isSome_none, Bool.false_or] at h1
      exact h1
    · exact ih h.2 hk
theorem vput3_ok {g : Gh} {w : World} (r : RW g T w) {ro : Nat} {t : TypeId} {id off : Nat} {x : TV} {ua u : Value} {T' : VT} (h : vput3 P ro T t (.ptr id off) x = some T') (ha : VR g w (.ptr id off) ua) (hx : VR g w x u) :
    ∃ g' w', (Instr.storeAt t ua u).run P w = .ok () w' ∧ VR g' w' (.val undef) undef ∧ Evo g w g' w' ∧ RW g' T' w' ∧ Fix ro g T w T' w' := by
  unfold vput3 at h
  split at h
  · rename_i y T1 h1
    injection h with h; subst h
    obtain ⟨g', w', k1, _, k3, k4, k5⟩ := vstoreR_ok (P := P) r h1 ha hx
    exact ⟨g', w', k1, .val _, k3, k4, k5⟩
  · cases hr : Nat.ble ro id with
    | false => simp only [hr] at h; cases h
    | true =>
      simp only [hr, cond_true, Option.map_eq_some_iff] at h
      obtain ⟨⟨y, T1⟩, h1, h2⟩ := h
      simp only at h2; subst h2
      obtain ⟨g', w', k1, _, k3, k4, k5⟩ := vstore_fix (P := P) (ro := ro) r h1 ha hx (Nat.le_of_ble_eq_true hr)
      exact ⟨g', w', k1, .val _, k3, k4, k5⟩
theorem vplan2_ok {call : Callee0} {rnd : Round0} (hc : CalleeOk P G call) (hrr : RoundOk P G rnd) (st : VStat P ops flo) {ro : Nat} {K : List TV → VT → Prop} {gs : Gh} {Ts : VT} {ws : World} {ds : List Deferred} {QQ : Act → World → Prop}
    (hq : ∀ σ' T' g' w' (a' : Act), K σ' T' → Evo gs ws g' w' → RW g' T' w' → VRs g' w' σ' a'.tmps.toList → a'.defers = ds → Fix ro gs Ts ws T' w' → QQ a' w') :
    ∀ (fuel : Nat) (l : List (Nat × FK)) (V : Array Bool) (T0 : VT) (pend : List Nat) (σ : List TV) (T : VT) (R : Array Bool) (g : Gh) (w : World) (a : Act) (prot : Nat → Option Nat),
      plan2Chk P ops flo (floatL flo) l V pend = true → vplan2 P G F call rnd ro ops flo V T0 l σ T K → VInv P G ops flo σ T T0 V R pend g w a.tmps.toList prot → GOk G g w → a.defers = ds → Evo gs ws g w → Fix ro gs Ts ws T w → ro ≤ T0.objs.length → offN R ≤ fuel →
      wpAnyIn (fenR r) 0 P .any ops (calm QQ) fuel R a w := by
  intro fuel
  induction fuel using Nat.strongRecOn with
  | _ fuel ihf =>
  intro l
  induction l with
  | nil =>
    intro V T0 pend σ T R g w a prot hp h inv hG hds hes hfx hro hfu
    have hallV : ∀ i, i < ops.size → On V i := ready_nil_on st.flow inv.vs (by simpa [plan2Chk] using hp)
    by_cases hall : ∀ i, i < ops.size → On R i
    · refine anyIn_done (ready_nil_of hall) (hq σ T g w a h hes inv.base ⟨inv.rel.1, fun s x u hs hu => inv.rel.2 s x u hs hu fun k o hk _ => ?_⟩ hds hfx) _
      have hlt := (Array.getElem?_eq_some_iff.1 hk).1
      exact ⟨hallV k hlt, hall k hlt⟩
    · obtain ⟨i, hi⟩ := Classical.not_forall.1 hall
      obtain ⟨hi, hn⟩ := Classical.not_imp.1 hi
      refine anyIn_wait st.flow inv.rs hi hn hfu fun n hlt j hj hoff => ?_
      obtain ⟨_, o, ho, _⟩ := mem_ready.1 hj
      exact owed_step st inv hG hj (hallV j (Array.getElem?_eq_some_iff.1 ho).1) fun g' w' a' inv' e fx hd => ihf n hlt [] V T0 pend σ T _ g' w' a' prot hp h inv' (hG.mono e) (hd.trans hds) (hes.trans e) (hfx.trans hes (fx ro)) hro hoff
  | cons p l ih =>
    intro V T0 pend σ T R g w a prot hp h inv hG hds hes hfx hro hfu
    obtain ⟨i, k⟩ := p
    -- while it waits
    have wait : ∀ (hbx : boxesOk P G ops V σ flo = true) {i0 : Nat} (hi0 : i0 < ops.size) (hn0 : ¬ On R i0)
        (hready : ∀ j ∈ Region.ready .any ops R, ¬ On V j → j ∉ floatL flo → ∀ n, n < fuel → offN (R.setIfInBounds j true) ≤ n → wpOpIn (fenR r) 0 P ops (calm QQ) j (wpAnyIn (fenR r) 0 P .any ops (calm QQ) n (R.setIfInBounds j true)) a w),
        wpAnyIn (fenR r) 0 P .any ops (calm QQ) fuel R a w := fun hbx i0 hi0 hn0 hready => by
      refine anyIn_wait st.flow inv.rs hi0 hn0 hfu fun n hlt j hj hoff => ?_
      by_cases hVF : On V j ∨ (¬ On V j ∧ j ∈ floatL flo)
      · exact other_step st inv hG hbx hj hVF fun g' w' a' prot' inv' e fx hd => ihf n hlt ((i, k) :: l) V T0 pend σ T _ g' w' a' prot' hp h inv' (hG.mono e) (hd.trans hds) (hes.trans e) (hfx.trans hes (fx ro)) hro hoff
      · have h1 : ¬ On V j := fun h => hVF (.inl h)
        exact hready j hj h1 (fun h => hVF (.inr ⟨h1, h⟩)) n hlt hoff
    cases k with
    | own =>
      simp only [plan2Chk, Bool.and_eq_true, Bool.not_eq_true'] at hp
      obtain ⟨⟨⟨hri, hnF⟩, hnd⟩, hp⟩ := hp
      have hri := inList_iff.1 hri
      have hF := inList_mem hnF
      obtain ⟨_, o, ho, _⟩ := mem_ready.1 hri
      simp only [ho] at hnd hp
      simp only [vplan2, ho] at h
      have hsub : ∀ k ∈ pend, k ∈ (bif isRead P o.op then i :: pend else pend) := fun k hk => by
        cases isRead P o.op
        · exact hk
        · exact List.mem_cons_of_mem _ hk
      have go : ∀ {y}, ((vwant ops (only ops o σ) o = some false ∧ y = .val undef) ∨ (vwant ops (only ops o σ) o = some true ∧ (OwnSem P G ⟨[], []⟩ o (only ops o σ) y ∨ (i ∈ (bif isRead P o.op then i :: pend else pend) ∧ vpure2 P o.op (vev G (only ops o σ)) = none ∧ vread2 P T0 o.op (vev G (only ops o σ)) = some y)))) →
          vplan2 P G F call rnd ro ops flo (V.setIfInBounds i true) T0 l (vput σ o.dst y) T K → wpAnyIn (fenR r) 0 P .any ops (calm QQ) fuel R a w := fun how h =>
        ih _ T0 _ _ T R g w a prot hp h (own_virt st inv ho hri hF hnd hsub how) hG hds hes hfx hro hfu
      split at h
      · rename_i b hb
        cases b with
        | true =>
          simp only [cond_true] at h
          split at h
          · rename_i y hy
            obtain ⟨⟨hpu⟩, h⟩ := h
            exact go (.inr ⟨hb, .inl (pure_sem (fun g w ρ hρ => evOf_ok hρ _) hpu _)⟩) h
          · exact h.elim
          · split at h
            · rename_i y hy
              rcases vownE_sem hy with h1 | ⟨h1, h2, h3⟩
              · exact go (.inr ⟨hb, .inl h1⟩) h
              · exact go (.inr ⟨hb, .inr ⟨by rw [h1]; exact List.mem_cons_self, h2, h3⟩⟩) h
            · exact h.elim
        | false =>
          simp only [cond_false] at h
          exact go (.inl ⟨hb, rfl⟩) h
      · exact h.elim
    | turn =>
      simp only [plan2Chk, Bool.and_eq_true, Bool.not_eq_true'] at hp
      obtain ⟨⟨⟨hri, hnF⟩, hrd⟩, hp⟩ := hp
      have hri := inList_iff.1 hri
      have hF := inList_mem hnF
      obtain ⟨hun, o, ho, _⟩ := mem_ready.1 hri
      simp only [vplan2, ho] at h
      split at h
      · rename_i b hb
        cases hbx : boxesOk P G ops V σ flo with
        | false => rw [hbx] at h; exact h.elim
        | true =>
          rw [hbx] at h
          simp only [cond_true] at h
          have hnV := not_on hun
          refine wait hbx (Array.getElem?_eq_some_iff.1 ho).1 (fun hR => hF (inv.rv i hR hnV)) fun j hj hVj hFj n hlt hoff => ?_
          have h1 := listed_all hrd (ready_of inv hj hVj hFj)
          simp only [Bool.or_eq_true] at h1
          rcases h1 with h1 | h1
          · have h1 := Nat.eq_of_beq_eq_true h1
            subst h1
            refine turn_step st inv hG ho hj hri hF hb (X := fun σ' T' => vplan2 P G F call rnd ro ops flo (V.setIfInBounds j true) T0 l σ' T' K) (fun hbt => vopI_ok hc hrr (by rw [hbt] at h; exact h)) (fun hbf => by rw [hbf] at h; exact h) (pend' := pend) (fun _ => T0) (fun σ' T' w' g' _ fx e => ?_) (fun _ _ k ok y _ h1 _ _ _ _ h2 => ⟨h1, h2⟩) fun σ' T' g' w' a' hX inv' e fx hd => ihf n hlt l _ T0 pend σ' T' _ g' w' a' prot hp hX inv' (hG.mono e) (hd.trans hds) (hes.trans e) (hfx.trans hes (fx.le hro)) hro hoff
            refine Eq.trans ?_ inv.t0
            have hle : T0.objs.length ≤ T.objs.length := by
              have := congrArg List.length inv.t0
              rw [List.length_take] at this; omega
            apply List.ext_getElem?
            intro j'
            rw [List.getElem?_take, List.getElem?_take]
            split
            · rename_i hj'
              exact fx.same j' hj' (by omega)
            · rfl
          · exact absurd (inList_iff.1 h1) hFj
      · exact h.elim
    | bar =>
      simp only [plan2Chk, Bool.and_eq_true, Bool.not_eq_true'] at hp
      obtain ⟨⟨⟨⟨hri, hnF⟩, hrd⟩, hanc⟩, hp⟩ := hp
      have hri := inList_iff.1 hri
      have hF := inList_mem hnF
      obtain ⟨hun, o, ho, _⟩ := mem_ready.1 hri
      simp only [vplan2, ho] at h
      split at h
      · rename_i b hb
        cases hbx : boxesOk P G ops V σ flo with
        | false => rw [hbx] at h; exact h.elim
        | true =>
          rw [hbx] at h
          simp only [cond_true] at h
          have hnV := not_on hun
          have hle : T0.objs.length ≤ T.objs.length := by
            have := congrArg List.length inv.t0
            rw [List.length_take] at this; omega
          refine wait hbx (Array.getElem?_eq_some_iff.1 ho).1 (fun hR => hF (inv.rv i hR hnV)) fun j hj hVj hFj n hlt hoff => ?_
          have h1 := listed_all hrd (ready_of inv hj hVj hFj)
          simp only [Bool.or_eq_true] at h1
          rcases h1 with h1 | h1
          · have h1 := Nat.eq_of_beq_eq_true h1
            subst h1
            obtain ⟨_, oj, hoj, hdep⟩ := mem_ready.1 hj
            have hpe : ∀ k ∈ pend, On R k := fun k hk => anc_listed inv.cr ops.size j k (List.all_eq_true.1 hanc k hk) fun o' ho' e he hbb => by
              rw [hoj] at ho'; injection ho' with ho'; subst ho'; exact hdep e he hbb
            refine turn_step st inv hG ho hj hri hF hb (X := fun σ' T' => vplan2 P G F call rnd ro ops flo (V.setIfInBounds j true) T' l σ' T' K) (fun hbt => vopI_ok hc hrr (by rw [hbt] at h; exact h)) (fun hbf => by rw [hbf] at h; exact h) (pend' := []) (fun T' => T') (fun σ' T' w' g' _ fx e => by simp) (fun _ _ k ok y _ h1 _ h2 _ _ _ => absurd (hpe k h1) h2) fun σ' T' g' w' a' hX inv' e fx hd => ihf n hlt l _ T' [] σ' T' _ g' w' a' prot hp hX inv' (hG.mono e) (hd.trans hds) (hes.trans e) (hfx.trans hes fx) (Nat.le_trans (Nat.le_trans hro hle) fx.len) hoff
          · exact absurd (inList_iff.1 h1) hFj
      · exact h.elim
    | put pe =>
      simp only [plan2Chk, Bool.and_eq_true, Bool.not_eq_true'] at hp
      obtain ⟨⟨⟨⟨hpe, hri⟩, hnF⟩, hrd⟩, hp⟩ := hp
      have hpe := eqL_ok hpe
      subst hpe
      have hri := inList_iff.1 hri
      have hF := inList_mem hnF
      obtain ⟨hun, o, ho, _⟩ := mem_ready.1 hri
      simp only [vplan2, ho] at h
      split at h
      · rename_i b hb
        cases hbx : boxesOk P G ops V σ flo with
        | false => rw [hbx] at h; exact h.elim
        | true =>
          rw [hbx] at h
          simp only [cond_true] at h
          have hnV := not_on hun
          have hle : T0.objs.length ≤ T.objs.length := by
            have := congrArg List.length inv.t0
            rw [List.length_take] at this; omega
          refine wait hbx (Array.getElem?_eq_some_iff.1 ho).1 (fun hR => hF (inv.rv i hR hnV)) fun j hj hVj hFj n hlt hoff => ?_
          have h1 := listed_all hrd (ready_of inv hj hVj hFj)
          simp only [Bool.or_eq_true] at h1
          rcases h1 with h1 | h1
          · have h1 := Nat.eq_of_beq_eq_true h1
            subst h1
            have ht0T : T.takeO T0.objs.length = ⟨T0.objs, T.tails⟩ := by unfold VT.takeO; rw [inv.t0]
            refine turn_step st inv hG ho hj hri hF hb (ro := ro) (X := fun σ' T' => (T'.objs.length = T.objs.length ∧ ∀ k ok y, k ∈ pe → ops[k]? = some ok → vwant ops (only ops ok σ) ok = some true → vpure2 P ok.op (vev G (only ops ok σ)) = none → vread2 P T0 ok.op (vev G (only ops ok σ)) = some y → vread2 P (T'.takeO T0.objs.length) ok.op (vev G (only ops ok σ)) = some y) ∧ vplan2 P G F call rnd ro ops flo (V.setIfInBounds j true) (T'.takeO T0.objs.length) l σ' T' K)
              (fun hbt => ?_) (fun hbf => ?_) (pend' := pe) (fun T' => T'.takeO T0.objs.length) (fun σ' T' w' g' hX fx e => ?_) (fun σ' T' k ok y hX h1 h2 _ h3 h4 h5 => ⟨h1, hX.1.2 k ok y h1 h2 h3 h4 h5⟩) fun σ' T' g' w' a' hX inv' e fx hd => ihf n hlt l _ _ pe σ' T' _ g' w' a' prot hp hX.2 inv' (hG.mono e) (hd.trans hds) (hes.trans e) (hfx.trans hes fx) (by
                have := hX.1.1
                simp only [VT.takeO, List.length_take]; omega) hoff
            · rw [hbt] at h
              simp only [cond_true] at h
              split at h
              · rename_i t ad x hop
                split at h
                · rename_i id off new had hnew
                  split at h
                  · rename_i T1 hT1
                    obtain ⟨hpa, h⟩ := cond_false_elim h
                    obtain ⟨hag, hlen⟩ := put_agree hnew hT1
                    refine VPi.of (by rw [hop]; rfl) fun g w ρ r hρ => ?_
                    have hax := hρ ad
                    rw [had] at hax
                    obtain ⟨g', w', k1, k2, k3, k4, k5⟩ := vput3_ok (P := P) r hT1 hax (hρ x)
                    refine ⟨.skip, undef, g', w', .val undef, T1, ?_, rfl, ⟨⟨hlen, fun k ok y hk hok hwk hpu hrd => ?_⟩, h⟩, k2, k3, k4, k5⟩
                    · obtain ⟨dst, op, ty, pos, af, gd⟩ := o
                      simp only at hop; subst hop
                      simp [execOp, k1]
                    · have hap := pendApart_at hpa hk hok hwk hpu
                      have h6 : vread2 P (T.takeO T0.objs.length) ok.op (vev G (only ops ok σ)) = some y := vread2_mono (T0 := T0) (T := T.takeO T0.objs.length) (by rw [ht0T]; simp) hrd
                      rw [← apart_read (AgreeOut.take hag) hap]; exact h6
                  · exact h.elim
                · exact h.elim
              · exact h.elim
            · rw [hbf] at h
              simp only [cond_false] at h
              refine ⟨⟨rfl, fun k ok y _ _ _ _ hrd => vread2_mono (T0 := T0) (T := T.takeO T0.objs.length) (by rw [ht0T]; simp) hrd⟩, h⟩
            · simp only [VT.takeO, List.length_take, List.take_take, Nat.min_self]
              congr 1
              omega
          · exact absurd (inList_iff.1 h1) hFj
      · exact h.elim
    | late =>
      simp only [plan2Chk, Bool.and_eq_true] at hp
      obtain ⟨⟨⟨hfl, hri⟩, hrd⟩, hp⟩ := hp
      have hri := inList_iff.1 hri
      obtain ⟨hun, o, ho, _⟩ := mem_ready.1 hri
      have hf : (i, none) ∈ flo := by
        obtain ⟨q, hq, h1⟩ := List.any_eq_true.1 hfl
        simp only [Bool.and_eq_true] at h1
        obtain ⟨q1, q2⟩ := q
        have h2 := Nat.eq_of_beq_eq_true h1.1
        simp only at h2
        subst h2
        cases q2 with
        | none => exact hq
        | some _ => cases h1.2
      simp only [vplan2, ho] at h
      split at h
      · rename_i y T' hy
        cases hbx : boxesOk P G ops V σ flo with
        | false => rw [hbx] at h; exact h.elim
        | true =>
          rw [hbx] at h
          simp only [cond_true] at h
          have hnV := not_on hun
          by_cases hR : On R i
          · obtain ⟨o', d, b, h1, h2, h3, blk, f, vo, mk, h4, h5, h6, h7⟩ := inv.flt i none hf hR hnV
            rw [ho] at h1; injection h1 with h1; subst h1
            have h8 := h5 T
            rw [hy] at h8; injection h8 with h8; injection h8 with h8 h9; subst h8 h9
            have hlt := (Array.getElem?_eq_some_iff.1 ho).1
            obtain ⟨g', prot', inv', e⟩ := float_virt (V' := V.setIfInBounds i true) (y := mk T.objs.length) st inv ho hf hri hR (fun j hj => by cases hj) (fun k => ⟨fun h => by
                by_cases hik : i = k
                · exact .inl (.inl hik.symm)
                · exact .inr (on_set_ne hik h), fun h => by
                rcases h with (h | h) | h
                · subst h; exact on_self (by rw [inv.vs]; exact hlt)
                · cases h
                · exact on_set h⟩) (by simpa using inv.vs) (inv.cv.set hri) h3 h4.live (h4.or g w b h6) (fun d' u hd' hu g' hg' => by
                rw [h2] at hd'; injection hd' with hd'; subst hd'
                rw [h7 u hu]
                exact h4.vr g' w _ b hg' (inv.pr i b h3).2.2.2.2.2 h6)
            exact ih _ T0 pend _ _ R g' w a prot' hp h inv' (hG.mono e) hds (hes.trans e) (hfx.trans hes fix_app) hro hfu
          · refine wait hbx (Array.getElem?_eq_some_iff.1 ho).1 hR fun j hj hVj hFj n hlt hoff => ?_
            exact absurd (inList_iff.1 (listed_all hrd (ready_rem inv hR hj hVj hFj))) hFj
      · exact h.elim
    | box j =>
      simp only [plan2Chk, Bool.and_eq_true] at hp
      obtain ⟨⟨⟨⟨hfl, hri⟩, hdj⟩, hrd⟩, hp⟩ := hp
      have hri := inList_iff.1 hri
      obtain ⟨hun, o, ho, _⟩ := mem_ready.1 hri
      have hf : (i, some j) ∈ flo := by
        obtain ⟨q, hq, h1⟩ := List.any_eq_true.1 hfl
        simp only [Bool.and_eq_true] at h1
        obtain ⟨q1, q2⟩ := q
        have h2 := Nat.eq_of_beq_eq_true h1.1
        simp only at h2
        subst h2
        cases q2 with
        | none => cases h1.2
        | some j' =>
          have := Nat.eq_of_beq_eq_true h1.2
          subst this; exact hq
      obtain ⟨o', ho', hlate, hbox⟩ := st.at hf
      rw [ho] at ho'; injection ho' with ho'; subst ho'
      obtain ⟨oj, hoj, hib, ⟨e1, he1, hb1, hon1⟩, _⟩ := hbox j rfl
      simp only [vplan2, ho, hoj] at h
      split at h
      · rename_i y T' hy
        cases hbx : boxesOk P G ops V σ flo with
        | false => rw [hbx] at h; exact h.elim
        | true =>
          rw [hbx] at h
          simp only [cond_true] at h
          have hnV := not_on hun
          have hlt := (Array.getElem?_eq_some_iff.1 ho).1
          have hltj := (Array.getElem?_eq_some_iff.1 hoj).1
          by_cases hR : On R i ∧ On R j
          · obtain ⟨hR, hRj⟩ := hR
            obtain ⟨o', d, b, h1, h2, h3, oj', t, us, inf, h4, h5, h6, h7, h8, h9, h10⟩ := inv.flt i (some j) hf hR hnV
            rw [ho] at h1; injection h1 with h1; subst h1
            rw [hoj] at h4; injection h4 with h4; subst h4
            obtain ⟨new, k1, k2, k3⟩ := h10 hRj
            unfold vboxMk at hy
            rw [k1] at hy
            injection hy with hy; injection hy with hy1 hy2; subst hy1 hy2
            have hji : i < j := by
              have := (flowOk_spec st.flow hoj).1 e1 he1 hb1
              omega
            obtain ⟨g', prot', inv', e⟩ := float_virt (V' := (V.setIfInBounds i true).setIfInBounds j true) (y := .ptr T.objs.length 0) (vo := .cells new) st inv ho hf hri hR (fun j' hj' => by injection hj' with hj'; subst hj'; exact hRj) (fun k => ⟨fun h => by
                by_cases hjk : j = k
                · exact .inl (.inr (by rw [hjk]))
                · have h := on_set_ne hjk h
                  by_cases hik : i = k
                  · exact .inl (.inl hik.symm)
                  · exact .inr (on_set_ne hik h), fun h => by
                rcases h with (h | h) | h
                · subst h; exact on_set (on_self (by rw [inv.vs]; exact hlt))
                · injection h with h; subst h; exact on_self (by simp [inv.vs]; exact hltj)
                · exact on_set (on_set h)⟩) (by simpa using inv.vs) (by
                have hc1 := inv.cv.set hri
                intro k ok hk hon e he hb
                by_cases hjk : j = k
                · subst hjk
                  rw [hoj] at hk; injection hk with hk; subst hk
                  refine on_set ?_
                  unfold depsIn at hdj
                  rw [hoj] at hdj
                  have := List.all_eq_true.1 hdj e (Array.mem_toList_iff.2 he)
                  rw [hb] at this
                  simpa only [Bool.not_true, Bool.false_or] using this
                · exact on_set (hc1 k ok hk (on_set_ne hjk hon) e he hb)) h3 rfl ⟨us, t, h5, k2, k3⟩ (fun d' u hd' hu g' hg' => by
                rw [h2] at hd'; injection hd' with hd'; subst hd'
                rw [h6 u hu]
                exact .ptr hg')
            exact ih _ T0 pend _ _ R g' w a prot' hp h inv' (hG.mono e) hds (hes.trans e) (hfx.trans hes fix_app) hro hfu
          · have hn : ∃ i0, i0 < ops.size ∧ ¬ On R i0 := by
              by_cases h1 : On R i
              · exact ⟨j, hltj, fun h2 => hR ⟨h1, h2⟩⟩
              · exact ⟨i, hlt, h1⟩
            obtain ⟨i0, hi0, hn0⟩ := hn
            have hnj : ¬ On R j := fun h => by
              have hRi := inv.cr j oj hoj h e1 he1 hb1
              rw [hon1] at hRi
              exact hR ⟨hRi, h⟩
            refine wait hbx hi0 hn0 fun j' hj hVj hFj n hlt hoff => ?_
            exact absurd (inList_iff.1 (listed_all hrd (ready_rem inv hnj hj hVj hFj))) hFj
      · exact h.elim
theorem cond_some {α : Type} {b : Bool} {x y : α} (h : cond b (some x) none = some y) : b = true ∧ x = y := by
  cases b with
  | false => cases h
  | true => injection h with h; exact ⟨rfl, h⟩
theorem VInv.start (hσ : VRs g w σ a.tmps.toList) (hr : RW g T w) : VInv P G ops flo σ T T (Array.replicate ops.size false) (Array.replicate ops.size false) [] g w a.tmps.toList fun _ => none := by
  have hoff : ∀ k, ¬ On (Array.replicate ops.size false) k := fun k h => by
    unfold On at h
    rw [Array.getD_eq_getD_getElem?, Array.getElem?_replicate] at h
    split at h <;> simp at h
  refine ⟨by simp, by simp, fun k o _ hk => absurd hk (hoff k), fun k o _ hk => absurd hk (hoff k), fun k hk => absurd hk (hoff k), fun k _ hk => absurd hk (hoff k), fun i j _ => ⟨fun h => absurd h (hoff i), fun h => absurd h (hoff j)⟩, ⟨hσ.1, fun s x u hs hu _ => hσ.2 s x u hs hu⟩, fun k o _ hk => absurd hk (hoff k), fun i jo _ hk => absurd hk (hoff i), fun k b hk => (by cases hk), fun i j b h => (by cases h), ?_, List.take_length⟩
  refine hr.lessFr rfl rfl rfl fun b hb => ?_
  rcases hb with hb | ⟨k, hk⟩
  · exact hb
  · cases hk
theorem plan2All_ok {p : List (Nat × FK)} (h : plan2All P ops = some p) : Region.noSelect ops = true ∧ VStat P ops (floats P ops (List.range ops.size)) ∧ plan2Chk P ops (floats P ops (List.range ops.size)) (floatL (floats P ops (List.range ops.size))) p (Array.replicate ops.size false) [] = true := by
  unfold plan2All at h
  obtain ⟨hb, h⟩ := cond_some h
  simp only [Bool.and_eq_true] at hb
  subst h
  obtain ⟨⟨⟨⟨⟨h1, h2⟩, h3⟩, h4⟩, h5⟩, h6⟩ := hb
  exact ⟨h1, ⟨h2, h3, h4, h5⟩, h6⟩
end
end Go.Proofs.YtapfboldkkodkaaGreatDoor
