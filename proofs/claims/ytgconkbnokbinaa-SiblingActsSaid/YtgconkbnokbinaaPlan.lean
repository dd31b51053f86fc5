/- A region that draws its order, walked by a plan: what only reads (in every world that meets S) is taken first, whatever else is carried out when nothing else may come up. -/
import Derived.OrdersHeld
import Derived.Tactics
import Derived.KernelRfl
namespace Go.Proofs.Ytgconkbnokbinaa

section
variable {P : Program} {ops : Array Oper} {S : World → Prop}

/-- the plan's check: (number, is it taken first?) -/
def planGo (ops : Array Oper) : List (Nat × Bool) → Array Bool → Bool
  | [], listed => (Region.ready .any ops listed).isEmpty
  | (i, true) :: l, listed => Region.free .any ops listed i && (Region.ready .any ops listed).contains i && planGo ops l (listed.setIfInBounds i true)
  | (i, false) :: l, listed => (Region.ready .any ops listed == [i]) && planGo ops l (listed.setIfInBounds i true)

def planOk (ops : Array Oper) (plan : List (Nat × Bool)) : Bool :=
  Region.noSelect ops && plan.length == ops.size && planGo ops plan (Array.replicate ops.size false)

/-- the plan's operations, written out -/
def planOps (ops : Array Oper) : List (Nat × Bool) → List (Oper × Bool)
  | [] => []
  | (i, b) :: l => match ops[i]? with
    | some o => (o, b) :: planOps ops l
    | none => planOps ops l

def Oper.takes (P : Program) (S : World → Prop) (o : Oper) (a : Act) (next : Act → Prop) : Prop :=
  ∃ v, (∀ w, S w → (execOp a.eval o).run P w = .ok (.value v) w) ∧ next (a.put o.dst v)
def Oper.does (P : Program) (o : Oper) (a : Act) (w : World) (next : Act → World → Prop) : Prop := o.wp P a w next (fun _ _ _ => False)

def wpPlan (P : Program) (ops : Array Oper) (S : World → Prop) (Q : Act → World → Prop) : List (Oper × Bool) → Act → World → Prop
  | [], a, w => Q a w
  | (o, t) :: l, a, w =>
    if Region.wanted o (yielded ops a.tmps) then
      match t with
      | true => Oper.takes P S o a (fun a' => wpPlan P ops S Q l a' w)
      | false => Oper.does P o a w (fun a' w' => S w' ∧ wpPlan P ops S Q l a' w')
    else wpPlan P ops S Q l (a.put o.dst undef) w

def calm (Q : Act → World → Prop) : Exit → Act → World → Prop
  | .normal, a, w => Q a w
  | _, _, _ => False

theorem wpAnyH_of_plan (hs : Region.noSelect ops = true) {Q : Act → World → Prop} : ∀ (plan : List (Nat × Bool)) (listed : Array Bool) (a : Act) (w : World), S w →
    planGo ops plan listed = true → wpPlan P ops S Q (planOps ops plan) a w → (∀ p ∈ plan, (ops[p.1]?).isSome = true) →
    wpAnyH P .any ops (calm Q) S plan.length listed a w := by
  intro plan
  induction plan with
  | nil =>
    intro listed a w _ hp h _
    refine ⟨?_, h⟩
    simpa [planGo] using hp
  | cons p l ih =>
    intro listed a w hS hp h hin
    obtain ⟨i, t⟩ := p
    obtain ⟨o, ho⟩ := Option.isSome_iff_exists.1 (hin (i, t) (by simp))
    have hin' : ∀ p ∈ l, (ops[p.1]?).isSome = true := fun p hp => hin p (by simp [hp])
    simp only at ho
    simp only [planOps, ho, wpPlan] at h
    cases t with
    | true =>
      simp only [planGo, Bool.and_eq_true] at hp
      obtain ⟨⟨hf, hr⟩, hp⟩ := hp
      by_cases hw : Region.wanted o (yielded ops a.tmps) = true
      · rw [if_pos hw] at h
        obtain ⟨v, hv, hn⟩ := h
        exact wpAnyH_take ho hs hf hr (fun _ _ _ h => h) (Or.inl ⟨hw, hv⟩) hS (ih _ _ _ hS hp hn hin')
      · rw [if_neg hw] at h
        exact wpAnyH_take (v := undef) ho hs hf hr (fun _ _ _ h => h) (Or.inr ⟨by simpa using hw, rfl⟩) hS (ih _ _ _ hS hp h hin')
    | false =>
      simp only [planGo, Bool.and_eq_true, beq_iff_eq] at hp
      obtain ⟨hr, hp⟩ := hp
      refine wpAnyH_all hr (by simp) (fun j hj => ?_)
      obtain rfl : j = i := by simpa using hj
      unfold wpOp
      simp only [ho]
      by_cases hw : Region.wanted o (yielded ops a.tmps) = true
      · rw [if_pos hw] at h ⊢
        left
        unfold Oper.does at h
        have hmono : ∀ (Q1 Q2 : Exit → Act → World → Prop) (K : Act → World → Prop), (∀ e a w, Q1 e a w → Q2 e a w) → o.wp P a w K Q1 → o.wp P a w K Q2 := by
          intro Q1 Q2 K hq hh
          unfold Oper.wp at *
          generalize (execOp a.eval o).run P w = r at *
          cases r with
          | ok n w' =>
            cases n <;> simp only [Oper.upon] at hh ⊢
            case enter f args =>
              exact Calls.mono hh (fun e w'' he => by
                cases e with
                | returned v => exact he
                | panicked c => exact hq _ _ _ he
                | outgrown => obtain ⟨a₀, w₀, h₀⟩ := he; exact ⟨a₀, w₀, hq _ _ _ h₀⟩)
            all_goals exact hh
          | halt x w' => cases x <;> simp only [Oper.upon] at hh ⊢ <;> exact hq _ _ _ hh
        exact hmono (fun _ _ _ => False) _ _ (fun _ _ _ h => h.elim) (Oper.wp_mono (fun a' w' h' => ⟨h'.1, ih _ _ _ h'.1 hp h'.2 hin'⟩) h)
      · rw [if_neg hw] at h ⊢
        exact ⟨hS, ih _ _ _ hS hp h hin'⟩

theorem planGo_in {plan : List (Nat × Bool)} : ∀ {listed : Array Bool}, planGo ops plan listed = true → ∀ p ∈ plan, (ops[p.1]?).isSome = true := by
  induction plan with
  | nil => intro _ _ p hp; cases hp
  | cons q l ih =>
    intro listed h p hp
    obtain ⟨i, t⟩ := q
    have hri : (Region.ready .any ops listed).contains i = true ∧ planGo ops l (listed.setIfInBounds i true) = true := by
      cases t with
      | true => simp only [planGo, Bool.and_eq_true] at h; exact ⟨h.1.2, h.2⟩
      | false => simp only [planGo, Bool.and_eq_true, beq_iff_eq] at h; exact ⟨by rw [h.1]; simp, h.2⟩
    rcases List.mem_cons.1 hp with rfl | hp
    · obtain ⟨_, o, ho, _⟩ := mem_ready.1 (List.contains_iff_mem.1 hri.1)
      simp [ho]
    · exact ih hri.2 p hp

/-- THE RULE -/
theorem wp_region_plan {id : Nat} {Q : Exit → Act → World → Prop} {a : Act} {w : World} (plan : List (Nat × Bool)) (S : World → Prop) (hm : P.follows .mixedOrders = true)
    (hp : planOk ops plan = true) (hS : S w.drew) (h : wpPlan P ops S (fun a w => Q .normal a w) (planOps ops plan) a w.drew) : (Code.region id ops true).wp P Q a w := by
  simp only [planOk, Bool.and_eq_true, beq_iff_eq] at hp
  obtain ⟨⟨hs, hl⟩, hp⟩ := hp
  have h1 := wpAnyH_of_plan (P := P) hs plan _ a _ hS hp h (planGo_in hp)
  rw [hl] at h1
  refine Code.wp_mono ?_ (wp_region_held hm h1)
  intro e a w hq
  cases e <;> first | exact hq | exact hq.elim

theorem wpPlan_nil {Q : Act → World → Prop} {a : Act} {w : World} (h : Q a w) : wpPlan P ops S Q [] a w := h
theorem wpPlan_skip {Q : Act → World → Prop} {a : Act} {w : World} {o : Oper} {t : Bool} {l : List (Oper × Bool)} (hw : Region.wanted o (yielded ops a.tmps) = false)
    (h : wpPlan P ops S Q l (a.put o.dst undef) w) : wpPlan P ops S Q ((o, t) :: l) a w := by
  unfold wpPlan; rw [if_neg (by rw [hw]; exact Bool.false_ne_true)]; exact h
theorem wpPlan_take {Q : Act → World → Prop} {a : Act} {w : World} {o : Oper} {l : List (Oper × Bool)} (hw : Region.wanted o (yielded ops a.tmps) = true)
    (h : ∃ v, (∀ w, S w → (execOp a.eval o).run P w = .ok (.value v) w) ∧ wpPlan P ops S Q l (a.put o.dst v) w) : wpPlan P ops S Q ((o, true) :: l) a w := by
  unfold wpPlan; rw [if_pos hw]; exact h
theorem wpPlan_do {Q : Act → World → Prop} {a : Act} {w : World} {o : Oper} {l : List (Oper × Bool)} (hw : Region.wanted o (yielded ops a.tmps) = true)
    (h : ∀ K : Act → World → Prop, (∀ a' w', S w' → (S w' → wpPlan P ops S Q l a' w') → K a' w') → o.wp P a w K (fun _ _ _ => False)) : wpPlan P ops S Q ((o, false) :: l) a w := by
  unfold wpPlan; rw [if_pos hw]; exact h _ (fun _ _ h1 h2 => ⟨h1, h2 h1⟩)

/-! ### A last operation that waits for all others may turn what S speaks of -/

/-- edges lead back; guards lie within -/
def flowOk (ops : Array Oper) : Bool :=
  (List.range ops.size).all fun i => match ops[i]? with
    | some o => (o.after.all fun e => !Region.binds .any e || decide (e.on < i)) && (match o.guard with | some (g, _) => decide (g < ops.size) | none => true)
    | none => true
def tailOk (ops : Array Oper) (t : Oper) : Bool :=
  flowOk ops && ((List.range ops.size).all fun i => t.after.any fun e => Region.binds .any e && e.on == i) && (t.after.all fun e => !Region.binds .any e || decide (e.on < ops.size))

theorem flowOk_spec (h : flowOk ops = true) {i : Nat} {o : Oper} (ho : ops[i]? = some o) :
    (∀ e ∈ o.after, Region.binds .any e = true → e.on < i) ∧ (∀ g b, o.guard = some (g, b) → g < ops.size) := by
  have hi : i < ops.size := (Array.getElem?_eq_some_iff.1 ho).1
  have h1 := List.all_eq_true.1 h i (List.mem_range.2 hi)
  simp only [ho, Bool.and_eq_true] at h1
  refine ⟨fun e he hb => ?_, fun g b hg => ?_⟩
  · have := Array.all_eq_true_iff_forall_mem.1 h1.1 e he
    simpa [hb] using this
  · have h2 := h1.2
    rw [hg] at h2
    simpa using h2

theorem all_listed (h : flowOk ops = true) {listed : Array Bool} (hsz : listed.size = ops.size) (hr : Region.ready .any ops listed = []) :
    ∀ i, i < ops.size → listed.getD i false = true := by
  intro i
  induction i using Nat.strongRecOn with
  | _ i ih =>
    intro hi
    cases hl : listed.getD i false with
    | true => rfl
    | false =>
      exfalso
      have ho : ops[i]? = some ops[i] := by simp [hi]
      have hs := flowOk_spec h ho
      have hmem : i ∈ Region.ready .any ops listed := mem_ready.2 ⟨by
          have hi' : i < listed.size := by omega
          simp [hi'] at hl ⊢; exact hl, _, ho, fun e he hb => ih e.on (hs.1 e he hb) (by have := hs.1 e he hb; omega)⟩
      rw [hr] at hmem
      cases hmem

theorem yielded_push (t : Oper) {g : Nat} (hg : g < ops.size) (tmps : Array Value) : yielded (ops.push t) tmps g = yielded ops tmps g := by
  unfold yielded
  rw [Array.getElem?_push, if_neg (by omega)]
theorem wanted_push (h : flowOk ops = true) (t : Oper) {i : Nat} {o : Oper} (ho : ops[i]? = some o) (tmps : Array Value) :
    Region.wanted o (yielded (ops.push t) tmps) = Region.wanted o (yielded ops tmps) := by
  unfold Region.wanted
  cases hg : o.guard with
  | none => rfl
  | some gb =>
    obtain ⟨g, b⟩ := gb
    simp only
    rw [yielded_push t ((flowOk_spec h ho).2 g b hg)]

theorem getD_push_lt {listed : Array Bool} {i : Nat} (b d : Bool) (h : i < listed.size) : (listed.push b).getD i d = listed.getD i d := by
  simp [Array.getD, h, Nat.lt_succ_of_lt h, Array.getElem_push_lt h]
theorem ready_push {t : Oper} (ht : tailOk ops t = true) {listed : Array Bool} (hsz : listed.size = ops.size) {i : Nat} (hi : i ∈ Region.ready .any (ops.push t) (listed.push false)) :
    (i < ops.size ∧ i ∈ Region.ready .any ops listed) ∨ (i = ops.size ∧ ∀ j, j < ops.size → listed.getD j false = true) := by
  simp only [tailOk, Bool.and_eq_true] at ht
  obtain ⟨⟨hf, hall⟩, hlt⟩ := ht
  obtain ⟨hun, o, ho, hed⟩ := mem_ready.1 hi
  have hi' : i < (ops.push t).size := (Array.getElem?_eq_some_iff.1 ho).1
  rw [Array.size_push] at hi'
  rw [Array.getElem?_push] at ho
  by_cases h : i = ops.size
  · right
    refine ⟨h, fun j hj => ?_⟩
    rw [if_pos h] at ho
    obtain rfl : t = o := Option.some.inj ho
    have h1 := List.all_eq_true.1 hall j (List.mem_range.2 hj)
    obtain ⟨e, he, hb⟩ := Array.any_eq_true'.1 h1
    simp only [Bool.and_eq_true, beq_iff_eq] at hb
    have h2 := hed e he hb.1
    rw [hb.2, getD_push_lt _ _ (by omega)] at h2
    exact h2
  · left
    rw [if_neg h] at ho
    have hlt' : i < ops.size := by omega
    refine ⟨hlt', mem_ready.2 ⟨by rw [getD_push_lt _ _ (by omega)] at hun; exact hun, o, ho, fun e he hb => ?_⟩⟩
    have h1 := (flowOk_spec hf ho).1 e he hb
    have h2 := hed e he hb
    rwa [getD_push_lt _ _ (by omega)] at h2

theorem set_push {listed : Array Bool} {i : Nat} (h : i < listed.size) : (listed.push false).setIfInBounds i true = (listed.setIfInBounds i true).push false := by
  obtain ⟨l⟩ := listed
  simp only [List.size_toArray] at h
  simp [h]

theorem wpAny_tail {t : Oper} (ht : tailOk ops t = true) {Q : Act → World → Prop} :
    ∀ (fuel : Nat) (listed : Array Bool) (a : Act) (w : World), listed.size = ops.size →
      wpAny P .any ops (calm fun a w => wpOp P (ops.push t) (calm Q) ops.size Q a w) fuel listed a w →
      wpAny P .any (ops.push t) (calm Q) (fuel + 1) (listed.push false) a w := by
  have hf : flowOk ops = true := by simp only [tailOk, Bool.and_eq_true] at ht; exact ht.1.1
  -- behind the last one nothing comes up
  have hdone : ∀ (listed : Array Bool), listed.size = ops.size → (∀ j, j < ops.size → listed.getD j false = true) →
      Region.ready .any (ops.push t) ((listed.push false).setIfInBounds ops.size true) = [] := by
    intro listed hsz hall
    apply List.eq_nil_iff_forall_not_mem.2
    intro i hi
    obtain ⟨hun, o, ho, _⟩ := mem_ready.1 hi
    have hi' : i < (ops.push t).size := (Array.getElem?_eq_some_iff.1 ho).1
    rw [Array.size_push] at hi'
    have : ((listed.push false).setIfInBounds ops.size true).getD i true = true := by
      by_cases h : i = ops.size
      · subst h
        simp
      · rw [getD_set_ne true (Ne.symm h), getD_push_lt _ _ (by omega)]
        have h3 := hall i (by omega)
        have hb : i < listed.size := by omega
        simp [hb] at h3 ⊢; exact h3
    rw [this] at hun
    cases hun
  have hlast : ∀ (fuel : Nat) (listed : Array Bool) (a : Act) (w : World), listed.size = ops.size → (∀ j, j < ops.size → listed.getD j false = true) →
      wpOp P (ops.push t) (calm Q) ops.size Q a w → wpOp P (ops.push t) (calm Q) ops.size (wpAny P .any (ops.push t) (calm Q) fuel ((listed.push false).setIfInBounds ops.size true)) a w := by
    intro fuel listed a w hsz hall h
    exact wpOp_mono (fun a' w' hq => wpAny_done (Q := calm Q) (hdone listed hsz hall) hq fuel) h
  have hnot : ∀ (listed : Array Bool), listed.size = ops.size → (∀ j, j < ops.size → listed.getD j false = true) → ops.size ∈ Region.ready .any (ops.push t) (listed.push false) := by
    intro listed hsz hall
    simp only [tailOk, Bool.and_eq_true] at ht
    refine mem_ready.2 ⟨?_, t, by simp, fun e he hb => ?_⟩
    · simp [← hsz]
    · have h1 := Array.all_eq_true_iff_forall_mem.1 ht.2 e he
      simp only [hb, Bool.not_true, Bool.false_or, decide_eq_true_eq] at h1
      rw [getD_push_lt _ _ (by omega)]
      exact hall e.on h1
  intro fuel
  induction fuel with
  | zero =>
    intro listed a w hsz h
    have hall := all_listed hf hsz h.1
    refine ⟨fun h0 => ?_, fun i hi => ?_⟩
    · have := hnot listed hsz hall
      rw [h0] at this; cases this
    · rcases ready_push ht hsz hi with ⟨h1, h2⟩ | ⟨rfl, h2⟩
      · rw [h.1] at h2; cases h2
      · exact hlast 0 listed a w hsz hall h.2
  | succ fuel ih =>
    intro listed a w hsz h
    refine ⟨fun h0 => ?_, fun i hi => ?_⟩
    · have hr : Region.ready .any ops listed = [] := by
        apply List.eq_nil_iff_forall_not_mem.2
        intro i hi
        have hi2 : i ∈ Region.ready .any (ops.push t) (listed.push false) := by
          obtain ⟨hun, o, ho, hed⟩ := mem_ready.1 hi
          have hlt : i < ops.size := (Array.getElem?_eq_some_iff.1 ho).1
          refine mem_ready.2 ⟨by rw [getD_push_lt _ _ (by omega)]; exact hun, o, by rw [Array.getElem?_push, if_neg (by omega)]; exact ho, fun e he hb => ?_⟩
          have := (flowOk_spec hf ho).1 e he hb
          rw [getD_push_lt _ _ (by omega)]
          exact hed e he hb
        rw [h0] at hi2; cases hi2
      have := hnot listed hsz (all_listed hf hsz hr)
      rw [h0] at this; cases this
    · rcases ready_push ht hsz hi with ⟨h1, h2⟩ | ⟨rfl, h2⟩
      · have h3 := h.2 i h2
        obtain ⟨_, o, ho, _⟩ := mem_ready.1 h2
        rw [set_push (by omega)]
        unfold wpOp at h3 ⊢
        rw [Array.getElem?_push, if_neg (by omega)]
        simp only [ho] at h3 ⊢
        rw [wanted_push hf t ho]
        split at h3
        · rename_i hw
          rw [if_pos hw]
          rcases h3 with h3 | ⟨_, a₀, w₀, h3⟩
          · left
            have hmono : ∀ (Q1 Q2 : Exit → Act → World → Prop) (K : Act → World → Prop), (∀ e a w, e ≠ .normal → ¬ Q1 e a w) → o.wp P a w K Q1 → o.wp P a w K Q2 := by
              intro Q1 Q2 K hq hh
              unfold Oper.wp at *
              generalize (execOp a.eval o).run P w = r at *
              cases r with
              | ok n w' =>
                cases n <;> simp only [Oper.upon] at hh ⊢
                case enter f args =>
                  exact Calls.mono hh (fun e w'' he => by
                    cases e with
                    | returned v => exact he
                    | panicked c => exact (hq _ _ _ (by simp) he).elim
                    | outgrown => obtain ⟨a₀, w₀, h₀⟩ := he; exact (hq _ _ _ (by simp) h₀).elim)
                all_goals exact hh
              | halt x w' => cases x <;> simp only [Oper.upon] at hh ⊢ <;> exact (hq _ _ _ (by simp) hh).elim
            refine hmono _ _ _ (fun e a w he hq => ?_) (Oper.wp_mono (fun a' w' hq => ih (listed.setIfInBounds i true) a' w' (by simpa using hsz) hq) h3)
            cases e <;> first | exact (he rfl).elim | exact hq
          · exact h3.elim
        · rename_i hw
          rw [if_neg hw]
          exact ih (listed.setIfInBounds i true) _ w (by simpa using hsz) h3
      · have hr : Region.ready .any ops listed = [] := by
          apply List.eq_nil_iff_forall_not_mem.2
          intro j hj
          obtain ⟨hun, o, ho, _⟩ := mem_ready.1 hj
          have hlt : j < ops.size := (Array.getElem?_eq_some_iff.1 ho).1
          have h3 := h2 j hlt
          have hb : j < listed.size := by omega
          simp [hb] at h3 hun
          rw [h3] at hun; cases hun
        exact hlast _ listed a w hsz h2 (h.1 hr)

/-- THE RULE with a last operation 't' that waits for all others: S need not hold behind it. -/
theorem wp_region_planT {id : Nat} {Q : Exit → Act → World → Prop} {a : Act} {w : World} {l : List Oper} (plan : List (Nat × Bool)) (S : World → Prop) (hm : P.follows .mixedOrders = true)
    (ht : tailOk l.dropLast.toArray (l.getLastD default) = true) (hne : l.isEmpty = false) (hp : planOk l.dropLast.toArray plan = true) (hS : S w.drew)
    (h : wpPlan P l.dropLast.toArray S (fun a w => wpOp P l.toArray (calm fun a w => Q .normal a w) l.dropLast.length (fun a w => Q .normal a w) a w) (planOps l.dropLast.toArray plan) a w.drew) :
    (Code.region id l.toArray true).wp P Q a w := by
  have hl : l.toArray = l.dropLast.toArray.push (l.getLastD default) := by
    have : l ≠ [] := by cases l <;> simp at hne ⊢
    rw [List.push_toArray]
    congr 1
    have h1 := List.dropLast_concat_getLast this
    rw [List.getLastD_eq_getLast?, List.getLast?_eq_some_getLast this]
    exact h1.symm
  simp only [planOk, Bool.and_eq_true, beq_iff_eq] at hp
  obtain ⟨⟨hs, hln⟩, hp⟩ := hp
  have h1 := wpAnyH_of_plan (P := P) hs plan _ a _ hS hp h (planGo_in hp)
  rw [hln] at h1
  have h2 := wpAny_of_held _ _ _ _ h1
  have h3 := wpAny_tail (P := P) ht (Q := fun a w => Q .normal a w) l.dropLast.toArray.size (Array.replicate l.dropLast.toArray.size false) a w.drew (by simp) (by
    rw [← hl]
    simpa using h2)
  rw [← hl] at h3
  refine Code.wp_mono ?_ (wp_region_any hm (Q := calm fun a w => Q .normal a w) ?_)
  · intro e a w hq
    cases e <;> first | exact hq | exact hq.elim
  · have e1 : l.toArray.size = l.dropLast.toArray.size + 1 := by rw [hl]; simp
    have e2 : (Array.replicate l.dropLast.toArray.size false).push false = Array.replicate l.toArray.size false := by rw [e1, Array.replicate_succ]
    rw [e2] at h3
    rw [e1]
    rw [e1] at h3
    exact h3

theorem wpLast {Q : Act → World → Prop} {a : Act} {w : World} {o : Oper} {i : Nat} (hi : ops[i]? = some o) (hw : Region.wanted o (yielded ops a.tmps) = true)
    (h : ∀ K : Act → World → Prop, (∀ a' w', Q a' w' → K a' w') → o.wp P a w K (fun _ _ _ => False)) : wpOp P ops (calm Q) i Q a w := by
  unfold wpOp
  simp only [hi]
  rw [if_pos hw]
  left
  have h1 := h Q (fun _ _ h => h)
  unfold Oper.wp at *
  generalize (execOp a.eval o).run P w = r at *
  cases r with
  | ok n w' =>
    cases n <;> simp only [Oper.upon] at h1 ⊢
    case enter f args =>
      exact Calls.mono h1 (fun e w'' he => by
        cases e with
        | returned v => exact he
        | panicked c => exact he.elim
        | outgrown => obtain ⟨a₀, w₀, h₀⟩ := he; exact h₀.elim)
    all_goals exact h1
  | halt x w' => cases x <;> simp only [Oper.upon] at h1
theorem wpLast_skip {Q : Act → World → Prop} {a : Act} {w : World} {o : Oper} {i : Nat} (hi : ops[i]? = some o) (hw : Region.wanted o (yielded ops a.tmps) = false)
    (h : Q (a.put o.dst undef) w) : wpOp P ops (calm Q) i Q a w := by
  unfold wpOp
  simp only [hi]
  rw [if_neg (by rw [hw]; exact Bool.false_ne_true)]
  exact h

/-! ### Two that may come up at once: a branch -/
def planTo (ops : Array Oper) : List (Nat × Bool) → Array Bool → Option (Array Bool)
  | [], listed => some listed
  | (i, true) :: l, listed => if Region.free .any ops listed i && (Region.ready .any ops listed).contains i then planTo ops l (listed.setIfInBounds i true) else none
  | (i, false) :: l, listed => if Region.ready .any ops listed == [i] then planTo ops l (listed.setIfInBounds i true) else none

/-- one operation that is carried out, however many may come up -/
theorem wpOp_do {S : World → Prop} {Q : Act → World → Prop} {K : Act → World → Prop} {i : Nat} {o : Oper} {a : Act} {w : World} (ho : ops[i]? = some o) (hS : S w)
    (h : if Region.wanted o (yielded ops a.tmps) then Oper.does P o a w (fun a' w' => S w' ∧ K a' w') else K (a.put o.dst undef) w) :
    wpOp P ops (calm Q) i (fun a' w' => S w' ∧ K a' w') a w := by
  unfold wpOp
  simp only [ho]
  by_cases hw : Region.wanted o (yielded ops a.tmps) = true
  · rw [if_pos hw] at h ⊢
    left
    unfold Oper.does at h
    unfold Oper.wp at *
    generalize (execOp a.eval o).run P w = r at *
    cases r with
    | ok n w' =>
      cases n <;> simp only [Oper.upon] at h ⊢
      case enter f args =>
        exact Calls.mono h (fun e w'' he => by
          cases e with
          | returned v => exact he
          | panicked c => exact he.elim
          | outgrown => obtain ⟨a₀, w₀, h₀⟩ := he; exact h₀.elim)
      all_goals exact h
    | halt x w' => cases x <;> simp only [Oper.upon] at h
  · rw [if_neg hw] at h ⊢
    exact ⟨hS, h⟩

theorem wpAnyH_of_planTo (hs : Region.noSelect ops = true) {Q : Act → World → Prop} {fuel : Nat} {listed' : Array Bool} : ∀ (plan : List (Nat × Bool)) (listed : Array Bool) (a : Act) (w : World), S w →
    planTo ops plan listed = some listed' → wpPlan P ops S (fun a w => S w → wpAnyH P .any ops (calm Q) S fuel listed' a w) (planOps ops plan) a w →
    wpAnyH P .any ops (calm Q) S (plan.length + fuel) listed a w := by
  intro plan
  induction plan with
  | nil =>
    intro listed a w hS hp h
    simp only [planTo, Option.some.injEq] at hp
    subst hp
    simpa using h hS
  | cons p l ih =>
    intro listed a w hS hp h
    obtain ⟨i, t⟩ := p
    rw [List.length_cons, show l.length + 1 + fuel = (l.length + fuel) + 1 by omega]
    cases t with
    | true =>
      simp only [planTo] at hp
      split at hp
      · rename_i hc
        simp only [Bool.and_eq_true] at hc
        obtain ⟨_, o, ho, _⟩ := mem_ready.1 (List.contains_iff_mem.1 hc.2)
        simp only [planOps, ho, wpPlan] at h
        by_cases hw : Region.wanted o (yielded ops a.tmps) = true
        · rw [if_pos hw] at h
          obtain ⟨v, hv, hn⟩ := h
          exact wpAnyH_take ho hs hc.1 hc.2 (fun _ _ _ h => h) (Or.inl ⟨hw, hv⟩) hS (ih _ _ _ hS hp hn)
        · rw [if_neg hw] at h
          exact wpAnyH_take (v := undef) ho hs hc.1 hc.2 (fun _ _ _ h => h) (Or.inr ⟨by simpa using hw, rfl⟩) hS (ih _ _ _ hS hp h)
      · cases hp
    | false =>
      simp only [planTo] at hp
      split at hp
      · rename_i hr
        have hr : Region.ready .any ops listed = [i] := by simpa using hr
        obtain ⟨_, o, ho, _⟩ := mem_ready.1 (show i ∈ Region.ready .any ops listed by rw [hr]; simp)
        simp only [planOps, ho, wpPlan] at h
        refine wpAnyH_all hr (by simp) (fun j hj => ?_)
        obtain rfl : j = i := by simpa using hj
        exact wpOp_mono (fun a' w' h' => ⟨h'.1, ih _ _ _ h'.1 hp h'.2⟩) (wpOp_do (K := fun a' w' => wpPlan P ops S _ (planOps ops l) a' w') ho hS h)
      · cases hp

/-! ### Part by part, with branches as they come -/
theorem regionH {id : Nat} {Q : Exit → Act → World → Prop} {a : Act} {w : World} {l : List Oper} (n : Nat) (listed : Array Bool) (S : World → Prop) (hm : P.follows .mixedOrders = true)
    (hn : l.length = n) (hl : Array.replicate n false = listed) (h : wpAnyH P .any l.toArray (calm fun a w => Q .normal a w) S n listed a w.drew) : (Code.region id l.toArray true).wp P Q a w := by
  subst hl hn
  have h1 := wp_region_held (id := id) (ops := l.toArray) hm (by rw [List.size_toArray]; exact h)
  refine Code.wp_mono ?_ h1
  intro e a w hq
  cases e <;> first | exact hq | exact hq.elim
theorem stepH {Q : Act → World → Prop} {n fuel : Nat} {listed listed' : Array Bool} {a : Act} {w : World} (plan : List (Nat × Bool)) (hs : Region.noSelect ops = true)
    (hf : plan.length + fuel = n) (hp : planTo ops plan listed = some listed') (hS : S w)
    (h : wpPlan P ops S (fun a w => S w → wpAnyH P .any ops (calm Q) S fuel listed' a w) (planOps ops plan) a w) : wpAnyH P .any ops (calm Q) S n listed a w := by
  subst hf
  exact wpAnyH_of_planTo hs plan listed a w hS hp h
def wpEach (P : Program) (ops : Array Oper) (S : World → Prop) (R : Array Bool → Act → World → Prop) (listed : Array Bool) : List Nat → Act → World → Prop
  | [], _, _ => True
  | i :: r, a, w => wpPlan P ops S (fun a w => S w → R (listed.setIfInBounds i true) a w) (planOps ops [(i, false)]) a w ∧ wpEach P ops S R listed r a w
theorem branchH {Q : Act → World → Prop} {n fuel : Nat} {listed : Array Bool} {a : Act} {w : World} (bs : List Nat) (hf : fuel + 1 = n) (hr : Region.ready .any ops listed = bs) (hne : bs.isEmpty = false) (hS : S w)
    (h : wpEach P ops S (fun l a w => wpAnyH P .any ops (calm Q) S fuel l a w) listed bs a w) : wpAnyH P .any ops (calm Q) S n listed a w := by
  subst hf
  refine wpAnyH_all hr (by cases bs <;> simp at hne ⊢) ?_
  have key : ∀ (l : List Nat), (∀ i ∈ l, i ∈ Region.ready .any ops listed) → wpEach P ops S (fun l a w => wpAnyH P .any ops (calm Q) S fuel l a w) listed l a w →
      ∀ i ∈ l, wpOp P ops (calm Q) i (fun a' w' => S w' ∧ wpAnyH P .any ops (calm Q) S fuel (listed.setIfInBounds i true) a' w') a w := by
    intro l
    induction l with
    | nil => intro _ _ i hi; cases hi
    | cons j r ih =>
      intro hin h i hi
      obtain ⟨h1, h2⟩ := h
      rcases List.mem_cons.1 hi with rfl | hi
      · obtain ⟨_, o, ho, _⟩ := mem_ready.1 (hin i (by simp))
        simp only [planOps, ho, wpPlan] at h1
        refine wpOp_mono (fun a' w' h' => ⟨h'.1, h'.2 h'.1⟩) (wpOp_do (K := fun a' w' => S w' → wpAnyH P .any ops (calm Q) S fuel (listed.setIfInBounds i true) a' w') ho hS h1)
      · exact ih (fun k hk => hin k (by simp [hk])) h2 i hi
  exact key bs (fun i hi => by rw [hr]; exact hi) h
theorem wpEach_cons {R : Array Bool → Act → World → Prop} {listed : Array Bool} {i : Nat} {r : List Nat} {a : Act} {w : World} (listed' : Array Bool) (hl : listed.setIfInBounds i true = listed')
    (h1 : wpPlan P ops S (fun a w => S w → R listed' a w) (planOps ops [(i, false)]) a w) (h2 : wpEach P ops S R listed r a w) : wpEach P ops S R listed (i :: r) a w := by
  subst hl
  exact ⟨h1, h2⟩
theorem wpEach_nil {R : Array Bool → Act → World → Prop} {listed : Array Bool} {a : Act} {w : World} : wpEach P ops S R listed [] a w := trivial
theorem doneH {Q : Act → World → Prop} {n : Nat} {listed : Array Bool} {a : Act} {w : World} (hr : Region.ready .any ops listed = []) (h : Q a w) : wpAnyH P .any ops (calm Q) S n listed a w :=
  wpAnyH_done (Q := calm Q) hr h n
end
attribute [irreducible] wpPlan wpEach
end Go.Proofs.Ytgconkbnokbinaa
