/- A region that draws its order, by a plan in parts: what only reads is taken ahead; an operation that waits for all that was read may turn all. For any program. -/
import Derived.Test.YtapfboldkkodkaaGreatDoorVz
import Derived.OrdersIn
namespace Go.Proofs.YtapfboldkkodkaaGreatDoor
open Go.RowKit

section
variable {P : Program} {ops : Array Oper} {r : Option Nat}
/-- S speaks of the world while not all that was read is carried out -/
abbrev HS := Array Bool → World → Prop
def YieldsS (P : Program) (ops : Array Oper) (S : World → Prop) (o : Oper) (v : Value) (a : Act) : Prop :=
  (Region.wanted o (yielded ops a.tmps) = true ∧ ∀ w, S w → (execOp a.eval o).run P w = .ok (.value v) w) ∨
  (Region.wanted o (yielded ops a.tmps) = false ∧ v = undef)
theorem YieldsS.wpOpIn {S : World → Prop} {Q : Exit → Act → World → Prop} {i : Nat} {o : Oper} {v : Value} {a : Act} (hd : notDefer o.op = true) (hi : ops[i]? = some o) (hy : YieldsS P ops S o v a)
    {K : Act → World → Prop} {w : World} (hS : S w) (h : K (a.put o.dst v) w) : wpOpIn (fenR r) 0 P ops Q i K a w := by
  have hne : ∀ c, o.op ≠ .defer c := fun c hc => by rw [hc] at hd; cases hd
  unfold Go.wpOpIn
  simp only [hi]
  rcases hy with ⟨hw, hv⟩ | ⟨hw, rfl⟩
  · rw [if_pos hw]
    refine ⟨fun _ _ => trivial, ?_⟩
    rw [Oper.semAt_eq _ _ _ hne, hv w hS]
    exact h
  · rw [if_neg (by rw [hw]; exact Bool.false_ne_true)]
    exact ⟨fun _ _ => trivial, h⟩
theorem YieldsS.of_same {S : World → Prop} {o : Oper} {v : Value} {a a' : Act} (hy : YieldsS P ops S o v a) (he : execOp a'.eval o = execOp a.eval o)
    (hw : Region.wanted o (yielded ops a'.tmps) = Region.wanted o (yielded ops a.tmps)) : YieldsS P ops S o v a' := by
  unfold YieldsS at *
  rw [he, hw]
  exact hy
theorem wpOpIn_putS {S : World → Prop} {Q : Exit → Act → World → Prop} {j : Nat} {oi oj : Oper} {v : Value} (hdj : notDefer oj.op = true) (hj : ops[j]? = some oj) (hap : oi.apart ops oj = true)
    (hsi : ∀ cs b, oi.op ≠ .select cs b) (hsj : ∀ cs b, oj.op ≠ .select cs b)
    (hQ : ∀ e a w, e ≠ .normal → ¬ Q e a w) {K : Act → World → Prop} {a : Act} {w : World}
    (hy : YieldsS P ops S oi v a) (h : wpOpIn (fenR r) 0 P ops Q j K (a.put oi.dst v) w) :
    wpOpIn (fenR r) 0 P ops Q j (fun a' w' => YieldsS P ops S oi v a' ∧ K (a'.put oi.dst v) w') a w := by
  have hne : ∀ c, oj.op ≠ .defer c := fun c hc => by rw [hc] at hdj; cases hdj
  obtain ⟨h1, h2, h3⟩ := Oper.apart_spec hap
  have keep : ∀ (a : Act), YieldsS P ops S oi v a → ∀ u, YieldsS P ops S oi v (a.put oj.dst u) := fun a hy u =>
    hy.of_same (execOp_put oi hsi a oj.dst u h3) (wanted_put oi a oj.dst u h3)
  have keepD : ∀ d, YieldsS P ops S oi v { a with defers := d :: a.defers } := fun d => hy.of_same rfl rfl
  unfold wpOpIn at *
  simp only [hj] at *
  rw [wanted_put oj a oi.dst v h1] at h
  split
  · rename_i hw
    simp only [hw, if_true] at h
    unfold Oper.wpIn at *
    refine ⟨fun _ _ => trivial, ?_⟩
    have h := h.2
    rw [Oper.semAt_eq _ _ _ hne] at h ⊢
    rw [execOp_put oj hsj a oi.dst v h1] at h
    generalize (execOp a.eval oj).run P w = r at *
    cases r with
    | ok n w' =>
      cases n <;> simp only [Oper.uponIn] at h ⊢
      case value u => exact ⟨keep a hy u, by rw [← Act.put_comm a v u h2]; exact h⟩
      case skip => exact ⟨keep a hy _, by rw [← Act.put_comm a v undef h2]; exact h⟩
      case defer d =>
        refine ⟨keep _ (keepD d) _, ?_⟩
        rw [← Act.put_comm _ v undef h2, ← Act.put_defers]
        exact h
      case enter f args =>
        refine ⟨h.1, CallsIn.mono h.2 fun e w'' he => ?_⟩
        cases e with
        | returned u => exact ⟨keep a hy u, by rw [← Act.put_comm a v u h2]; exact he⟩
        | panicked c => exact (hQ _ _ _ (by simp) he).elim
        | outgrown => exact he
      case row row args => exact ⟨h.1, RowsIn.mono h.2 fun u w'' he => ⟨keep a hy u, by rw [← Act.put_comm a v u h2]; exact he⟩⟩
      case round l f tmps asg body =>
        refine ⟨h.1, RoundIn.mono h.2 fun e w'' he => ?_⟩
        cases e with
        | returned u => exact ⟨keep a hy u, by rw [← Act.put_comm a v u h2]; exact he⟩
        | panicked c => exact (hQ _ _ _ (by simp) he).elim
        | outgrown => exact he
    | halt x w' =>
      cases x <;> simp only [Oper.uponIn] at h ⊢
      case panic u => exact (hQ _ _ _ (by simp) h).elim
  · rename_i hw
    simp only [hw] at h
    exact ⟨fun _ _ => trivial, keep a hy _, by rw [← Act.put_comm a v undef h2]; exact h.2⟩
/-- whatever order is picked, and S holds behind every operation -/
def wpAnyS (P : Program) (r : Option Nat) (ops : Array Oper) (Q : Exit → Act → World → Prop) (S : HS) : Nat → Array Bool → Act → World → Prop
  | 0, listed, a, w => Region.ready .any ops listed = [] ∧ Q .normal a w
  | fuel + 1, listed, a, w =>
    (Region.ready .any ops listed = [] → Q .normal a w) ∧
    ∀ i ∈ Region.ready .any ops listed, wpOpIn (fenR r) 0 P ops Q i (fun a' w' => S (listed.setIfInBounds i true) w' ∧ wpAnyS P r ops Q S fuel (listed.setIfInBounds i true) a' w') a w
theorem anyIn_of_S {Q : Exit → Act → World → Prop} {S : HS} : ∀ (fuel : Nat) (listed : Array Bool) (a : Act) (w : World), wpAnyS P r ops Q S fuel listed a w → wpAnyIn (fenR r) 0 P .any ops Q fuel listed a w
  | 0, _, _, _, h => h
  | fuel + 1, _, _, _, h => ⟨h.1, fun i hi => wpOpIn_mono (fun a' w' h' => anyIn_of_S fuel _ a' w' h'.2) (h.2 i hi)⟩
/-- what is carried out is closed: all that it waited for is carried out -/
def Closed (ops : Array Oper) (listed : Array Bool) : Prop := ∀ (k : Nat) o, ops[k]? = some o → listed.getD k false = true → ∀ e ∈ o.after, Region.binds .any e = true → listed.getD e.on false = true
theorem Closed.set {listed : Array Bool} (h : Closed ops listed) {j : Nat} (hj : j ∈ Region.ready .any ops listed) : Closed ops (listed.setIfInBounds j true) := by
  obtain ⟨_, oj, hoj, hall⟩ := mem_ready.1 hj
  intro k o ho hk e he hb
  by_cases hkj : j = k
  · subst hkj
    rw [hoj] at ho; injection ho with ho; subst ho
    exact getD_set_true (hall e he hb)
  · rw [getD_set_ne false hkj] at hk
    exact getD_set_true (h k o ho hk e he hb)
/-- does b wait for i? -/
def anc (ops : Array Oper) : Nat → Nat → Nat → Bool
  | 0, _, _ => false
  | n + 1, b, i => match ops[b]? with
    | some o => (o.after.toList.any fun e => Region.binds .any e && Nat.beq e.on i) || (o.after.toList.any fun e => Region.binds .any e && anc ops n e.on i)
    | none => false
theorem anc_listed {listed : Array Bool} (hc : Closed ops listed) : ∀ (n b i : Nat), anc ops n b i = true → (∀ o, ops[b]? = some o → ∀ e ∈ o.after, Region.binds .any e = true → listed.getD e.on false = true) → listed.getD i false = true
  | 0, _, _, h, _ => by simp [anc] at h
  | n + 1, b, i, h, hb => by
    simp only [anc] at h
    split at h
    · rename_i o ho
      simp only [Bool.or_eq_true, List.any_eq_true, Bool.and_eq_true] at h
      rcases h with ⟨e, he, h1, h2⟩ | ⟨e, he, h1, h2⟩
      · have := Nat.eq_of_beq_eq_true h2
        rw [← this]; exact hb o ho e (Array.mem_toList_iff.1 he) h1
      · have h3 := hb o ho e (Array.mem_toList_iff.1 he) h1
        exact anc_listed hc n e.on i h2 fun o' ho' e' he' hb' => hc e.on o' ho' h3 e' he' hb'
    · cases h
/-- an operation that may come up is taken first. Sr: what its value hangs on; it holds as long as it is not carried out -/
theorem wpAnyS_first {Q : Exit → Act → World → Prop} {S : HS} {Sr : World → Prop} {i : Nat} {oi : Oper} {v : Value} (hi : ops[i]? = some oi) (hd : ∀ (j : Nat) o, ops[j]? = some o → notDefer o.op = true) (hsel : ∀ (j : Nat) (o : Oper) cs b, ops[j]? = some o → o.op ≠ .select cs b)
    (hQ : ∀ e a w, e ≠ .normal → ¬ Q e a w) (hSS : ∀ (listed : Array Bool) w, Closed ops listed → listed.getD i false = false → S (listed.setIfInBounds i true) w → Sr w) (hS2 : ∀ (listed : Array Bool) w, S (listed.setIfInBounds i true) w → S listed w) :
    ∀ (fuel : Nat) (listed : Array Bool) (a : Act) (w : World), Closed ops listed →
      (∀ j oj, ops[j]? = some oj → j ≠ i → listed.getD j true = false → (∀ e ∈ oj.after, Region.binds .any e = true → e.on ≠ i) → oi.apart ops oj = true) →
      i ∈ Region.ready .any ops listed → YieldsS P ops Sr oi v a → Sr w → S (listed.setIfInBounds i true) w →
      wpAnyS P r ops Q S fuel (listed.setIfInBounds i true) (a.put oi.dst v) w → wpAnyS P r ops Q S (fuel + 1) listed a w := by
  intro fuel
  induction fuel with
  | zero =>
    intro listed a w _ _ hr hy hS hS0 H
    refine ⟨fun h => (by rw [h] at hr; cases hr), fun j hj => ?_⟩
    by_cases hji : j = i
    · subst hji; exact hy.wpOpIn (hd _ _ hi) hi hS ⟨hS0, H⟩
    · have := ready_mono hj hji
      rw [H.1] at this
      cases this
  | succ fuel ih =>
    intro listed a w hc hfree hr hy hS hS0 H
    refine ⟨fun h => (by rw [h] at hr; cases hr), fun j hj => ?_⟩
    by_cases hji : j = i
    · subst hji; exact hy.wpOpIn (hd _ _ hi) hi hS ⟨hS0, H⟩
    · have h1 := H.2 j (ready_mono hj hji)
      obtain ⟨hjun, oj, hoj, hall⟩ := mem_ready.1 hj
      have hiun := (mem_ready.1 hr).1
      have hnot : ∀ e ∈ oj.after, Region.binds .any e = true → e.on ≠ i := fun e he hb heq => by
        have h1 := hall e he hb
        rw [heq] at h1
        rcases Nat.lt_or_ge i listed.size with h' | h'
        · simp [h'] at hiun h1; rw [hiun] at h1; cases h1
        · simp [Array.getElem?_eq_none h'] at h1
      have h2 := wpOpIn_putS (hd _ _ hoj) hoj (hfree j oj hoj hji hjun hnot) (fun cs b => hsel i oi cs b hi) (fun cs b => hsel j oj cs b hoj) hQ hy h1
      have hfree' : ∀ k ok, ops[k]? = some ok → k ≠ i → (listed.setIfInBounds j true).getD k true = false →
          (∀ e ∈ ok.after, Region.binds .any e = true → e.on ≠ i) → oi.apart ops ok = true := fun k ok hk hki hun hno => by
        refine hfree k ok hk hki ?_ hno
        by_cases hjk : j = k
        · subst hjk; exact hjun
        · rw [getD_set_ne true hjk] at hun; exact hun
      have hc' := hc.set hj
      have hir := ready_mono hr (Ne.symm hji)
      have hiun' : (listed.setIfInBounds j true).getD i false = false := by
        have h0 := (mem_ready.1 hir).1
        rcases Nat.lt_or_ge i (listed.setIfInBounds j true).size with h' | h'
        · have h'' : i < listed.size := by simpa using h'
          rw [Array.getD_eq_getD_getElem?] at h0 ⊢
          rw [Array.getElem?_eq_getElem h'] at h0 ⊢
          exact h0
        · rw [Array.getD_eq_getD_getElem?, Array.getElem?_eq_none h']; rfl
      refine wpOpIn_mono (fun a' w' h3 => ?_) h2
      obtain ⟨h4, h5, h6⟩ := h3
      rw [Array.setIfInBounds_comm _ _ (Ne.symm hji)] at h6 h5
      exact ⟨hS2 _ _ h5, ih (listed.setIfInBounds j true) a' w' hc' hfree' hir h4 (hSS _ _ hc' hiun' h5) h5 h6⟩
theorem wpAnyS_switch {Q : Exit → Act → World → Prop} {S S' : HS} {i : Nat} (hS : ∀ (L : Array Bool) w, L.getD i false = true → S L w) : ∀ (fuel : Nat) (listed : Array Bool) (a : Act) (w : World), listed.getD i false = true →
    wpAnyS P r ops Q S' fuel listed a w → wpAnyS P r ops Q S fuel listed a w
  | 0, _, _, _, _, h => h
  | fuel + 1, listed, a, w, hl, h => ⟨h.1, fun j hj => wpOpIn_mono (fun a' w' h' => ⟨hS _ _ (getD_set_true hl), wpAnyS_switch hS fuel _ a' w' (getD_set_true hl) h'.2⟩) (h.2 j hj)⟩
theorem wpAnyS_only {Q : Exit → Act → World → Prop} {S : HS} {i fuel : Nat} {listed : Array Bool} {a : Act} {w : World} (hr : Region.ready .any ops listed = [i])
    (h : wpOpIn (fenR r) 0 P ops Q i (fun a' w' => S (listed.setIfInBounds i true) w' ∧ wpAnyS P r ops Q S fuel (listed.setIfInBounds i true) a' w') a w) : wpAnyS P r ops Q S (fuel + 1) listed a w := by
  refine ⟨fun h0 => ?_, fun j hj => ?_⟩
  · rw [hr] at h0; cases h0
  · rw [hr] at hj
    simp at hj; subst hj; exact h
/-! ### Plans -/
inductive PK where
  | pk0
  | pk1
  | pk2
  | pk3
def isBar : PK → Bool
  | .pk3 => true
  | _ => false
def barsOf (plan : List (Nat × PK)) : List Nat := (plan.filter fun p => isBar p.2).map (·.1)
def inList : List Nat → Nat → Bool
  | [], _ => false
  | a :: l, i => Nat.beq a i || inList l i
theorem inList_mem : ∀ {l : List Nat} {i : Nat}, inList l i = false → i ∉ l
  | [], _, _ => by simp
  | a :: l, i, h => by
    simp only [inList, Bool.or_eq_false_iff] at h
    have h1 := Nat.ne_of_beq_eq_false h.1
    have h2 := inList_mem h.2
    simp only [List.mem_cons, not_or]
    exact ⟨fun e => h1 e.symm, h2⟩
def planChk (ops : Array Oper) : List (Nat × PK) → Array Bool → Bool
  | [], listed => (Region.ready .any ops listed).isEmpty
  | (i, k) :: l, listed => (match k with
      | .pk0 => Region.free .any ops listed i && (Region.ready .any ops listed).contains i
      | .pk1 => Region.free .any ops listed i && (Region.ready .any ops listed).contains i && (barsOf l).all fun b => anc ops ops.size b i
      | _ => Region.ready .any ops listed == [i]) && !(inList (barsOf l) i) && planChk ops l (listed.setIfInBounds i true)
def SS (g : Gh) (T : VT) (w0 : World) (bars : List Nat) : HS := fun L w => (∀ b ∈ bars, L.getD b false = false) → Same g T w0 w
theorem SS_first {g : Gh} {T : VT} {w0 : World} {bars : List Nat} {i : Nat} (hi : i ∉ bars) (listed : Array Bool) (w : World) (h : SS g T w0 bars (listed.setIfInBounds i true) w) : SS g T w0 bars listed w :=
  fun hb => h fun b hbm => by
    have hne : i ≠ b := by rintro rfl; exact hi hbm
    rw [getD_set_ne false hne]; exact hb b hbm
theorem SS_read {g : Gh} {T : VT} {w0 : World} {bars : List Nat} {i : Nat} (hi : i ∉ bars) (ha : ∀ b ∈ bars, anc ops ops.size b i = true) (listed : Array Bool) (w : World) (hc : Closed ops listed) (hu : listed.getD i false = false)
    (h : SS g T w0 bars (listed.setIfInBounds i true) w) : Same g T w0 w :=
  h fun b hbm => by
    have hne : i ≠ b := by rintro rfl; exact hi hbm
    rw [getD_set_ne false hne]
    cases hq : listed.getD b false with
    | false => rfl
    | true =>
      have := anc_listed hc ops.size b i (ha b hbm) fun o ho e he hb => hc b o ho hq e he hb
      rw [hu] at this; cases this
end
end Go.Proofs.YtapfboldkkodkaaGreatDoor
