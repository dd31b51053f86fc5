/- Functions on what a walk knows: names of objects anew, a call within a greater world, code. For any program. -/
import Derived.Test.YtapfboldkkodkaaGreatDoorValB
import Derived.Deep.LoopGhost
import Derived.Scope
namespace Go.Proofs.YtapfboldkkodkaaGreatDoor
open Go.RowKit

/-! ### Objects under other names -/
def Tok.ren (h : Nat → Option Nat) : Tok → Tok
  | .none => .none
  | .full => .none
  | .tail k e => match h k with
    | Option.some k' => .tail k' e
    | Option.none => .none
mutual
def TV.ren (f h : Nat → Option Nat) : TV → TV
  | .val v => .val v
  | .ptr id off => match f id with
    | some i => .ptr i off
    | none => .dead
  | .vec s es t => .vec s (renLL f h es) (t.ren h)
  | .elt cs => .elt (renL f h cs)
  | .sl id off n c => match f id with
    | some i => .sl i off n c
    | none => .dead
  | .agg cs => .agg (renL f h cs)
  | .tup cs => .tup (renL f h cs)
  | .fn fn a b => .fn fn (renL f h a) (renL f h b)
  | .ifc t v => .ifc t (v.ren f h)
  | .row s id off n => match f id with
    | some i => .row s i off n
    | none => .dead
  | .map id => match f id with
    | some i => .map i
    | none => .dead
  | .yld id => match f id with
    | some i => .yld i
    | none => .dead
  | .dead => .dead
def renL (f h : Nat → Option Nat) : List TV → List TV
  | [] => []
  | x :: r => x.ren f h :: renL f h r
def renLL (f h : Nat → Option Nat) : List (List TV) → List (List TV)
  | [] => []
  | x :: r => renL f h x :: renLL f h r
end
theorem renL_map (f h : Nat → Option Nat) : ∀ l, renL f h l = l.map (TV.ren f h)
  | [] => rfl
  | x :: r => by rw [renL, renL_map f h r]; rfl
theorem renLL_map (f h : Nat → Option Nat) : ∀ l, renLL f h l = l.map (List.map (TV.ren f h))
  | [] => rfl
  | x :: r => by rw [renLL, renLL_map f h r, renL_map]; rfl
theorem renLL_self {f h : Nat → Option Nat} {α : Type} (enc : α → List TV) (he : ∀ a, renL f h (enc a) = enc a) (l : List α) : renLL f h (l.map enc) = l.map enc := by
  induction l with
  | nil => rfl
  | cons a l ih => rw [List.map_cons, renLL, ih, he]
theorem renL_vals (f h : Nat → Option Nat) (l : List Value) : renL f h (l.map .val) = l.map .val := by
  induction l with
  | nil => rfl
  | cons a l ih => rw [List.map_cons, renL, ih]; rfl
def VO.ren (f h : Nat → Option Nat) : VO → VO
  | .cells cs => .cells (renL f h cs)
  | .row cs => .row (renL f h cs)
  | .map sh look es ck => .map sh (fun k => (look k).map (TV.ren f h)) (es.map fun e => (e.1, e.2.1.ren f h, e.2.2)) ck
  | .iter m since seen stepped => .iter (m.ren f h) since seen stepped
  | .siter s pos => .siter s pos
  | .loop st pend σ ps asg body => .loop st pend (renL f h σ) ps asg body
  | .defd => .defd
  | .gone => .gone
structure Ren (g g' : Gh) (f h : Nat → Option Nat) : Prop where
  obj : ∀ i i' b, f i = some i' → g.obj i = some b → g'.obj i' = some b
  tail : ∀ k k' x, h k = some k' → g.tail k = some x → g'.tail k' = some x
  st : ∀ b o, g.st b o → g'.st b o
section
variable {g g' : Gh} {w : World} {f h : Nat → Option Nat}
theorem ren_at {cs : List TV} {us : List Value} (ih : ∀ (j : Nat) x u, cs[j]? = some x → us[j]? = some u → VR g' w (x.ren f h) u) (j : Nat) (x : TV) (u : Value) (hx : (renL f h cs)[j]? = some x) (hu : us[j]? = some u) : VR g' w x u := by
  rw [renL_map, List.getElem?_map] at hx
  cases hc : cs[j]? with
  | none => rw [hc] at hx; cases hx
  | some y => rw [hc] at hx; simp at hx; subst hx; exact ih j y u hc hu
theorem TokOk.ren (k : Ren g g' f h) {tok : Tok} {size n b o c : Nat} (ht : TokOk g tok size n b o c) : TokOk g' (tok.ren h) size n b o c := by
  cases tok with
  | none => trivial
  | full => trivial
  | tail j e =>
    obtain ⟨x, h1, h2⟩ := ht
    simp only [Tok.ren]
    cases hj : h j with
    | none => trivial
    | some j' => exact ⟨x, k.tail j j' x hj h1, h2⟩
theorem NilTok.ren (k : Ren g g' f h) {tok : Tok} {size : Nat} (ht : NilTok g tok size) : NilTok g' (tok.ren h) size := by
  cases tok with
  | none => trivial
  | full => trivial
  | tail j e =>
    obtain ⟨x, h1, h2⟩ := ht
    simp only [Tok.ren]
    cases hj : h j with
    | none => trivial
    | some j' => exact ⟨x, k.tail j j' x hj h1, h2⟩
theorem renLL_flatten (f h : Nat → Option Nat) : ∀ es : List (List TV), (renLL f h es).flatten = renL f h es.flatten
  | [] => rfl
  | e :: es => by rw [renLL, List.flatten_cons, List.flatten_cons, renLL_flatten f h es]; simp [renL_map]
theorem renLL_length (f h : Nat → Option Nat) (es : List (List TV)) : (renLL f h es).length = es.length := by rw [renLL_map]; simp
theorem renL_length (f h : Nat → Option Nat) (es : List TV) : (renL f h es).length = es.length := by rw [renL_map]; simp
theorem VR.ren (k : Ren g g' f h) {x : TV} {u : Value} (hx : VR g w x u) : VR g' w (x.ren f h) u := by
  induction hx with
  | val v => exact .val v
  | dead v => exact .dead v
  | @ptr id off b hb =>
    simp only [TV.ren]
    cases hj : f id with
    | none => exact .dead _
    | some j => exact .ptr (k.obj _ _ _ hj hb)
  | @sl id off n c b hb =>
    simp only [TV.ren]
    cases hj : f id with
    | none => exact .dead _
    | some j => exact .sl (k.obj _ _ _ hj hb)
  | @yld id b hb =>
    simp only [TV.ren]
    cases hj : f id with
    | none => exact .dead _
    | some j => exact .yld (k.obj _ _ _ hj hb)
  | @row size id off n b c hb h2 h3 h4 h5 =>
    simp only [TV.ren]
    cases hj : f id with
    | none => exact .dead _
    | some j => exact .row (k.obj _ _ _ hj hb) h2 h3 h4 h5
  | @map id b hb =>
    simp only [TV.ren]
    cases hj : f id with
    | none => exact .dead _
    | some j => exact .map (k.obj _ _ _ hj hb)
  | nil ht => exact .nil (ht.ren k)
  | @vec size es tok b o c us hn hc hz ht hl h1 hs hw _ ih =>
    simp only [TV.ren]
    have hfl := renLL_flatten f h es
    have hln := renLL_length f h es
    exact .mk_vec hln.symm hn hc (fun e he => by rw [renLL_map] at he; obtain ⟨e0, h2, rfl⟩ := List.mem_map.1 he; rw [List.length_map]; exact hz e0 h2) (ht.ren k) ⟨by rw [hfl, renL_length]; exact hl, by rw [hfl]; exact ren_at ih⟩
      (fun j hj => k.st _ _ (hs j (by rw [hfl, renL_length] at hj; exact hj))) hw h1
  | elt hl h1 hs hw _ ih => exact .mk_elt ⟨by rw [renL_length]; exact hl, ren_at ih⟩ (fun j hj => k.st _ _ (hs j (by rw [renL_length] at hj; exact hj))) hw h1
  | agg hl _ ih => exact .agg (by rw [renL_length]; exact hl) (ren_at ih)
  | tup hl _ ih => exact .tup (by rw [renL_length]; exact hl) (ren_at ih)
  | fn hl _ hl2 _ ih ih2 => exact .fn (by rw [renL_length]; exact hl) (ren_at ih) (by rw [renL_length]; exact hl2) (ren_at ih2)
  | ifc _ ih => exact .ifc ih
theorem VRs.ren (k : Ren g g' f h) {xs : List TV} {us : List Value} (hx : VRs g w xs us) : VRs g' w (renL f h xs) us :=
  ⟨by rw [renL_length]; exact hx.1, ren_at fun j x u h1 h2 => (hx.2 j x u h1 h2).ren k⟩
theorem OR.ren (k : Ren g g' f h) {b : Nat} {o : VO} (ho : OR g w b o) : OR g' w b (o.ren f h) := by
  cases o with
  | cells cs => obtain ⟨us, t, h1, h2, h3⟩ := ho; exact ⟨us, t, h1, h2.ren k, h3⟩
  | row cs => obtain ⟨us, t, h1, h2, h3, h4⟩ := ho; exact ⟨us, t, h1, by rw [renL_length]; exact h2, by rw [renL_length]; exact h3.ren k, h4⟩
  | map sh look es ck =>
    obtain ⟨ms, h1, h2, h3, h4, h5, h6, h7⟩ := ho
    refine ⟨ms, h1, by simpa [Function.comp_def] using h2, ?_, by simpa [Function.comp_def] using h4, ?_, by simpa [Function.comp_def] using h6, ?_⟩
    · have := h3.ren k
      rw [renL_map] at this
      simpa [Function.comp_def] using this
    · intro e he
      obtain ⟨e', h8, rfl⟩ := List.mem_map.1 he
      exact h5 e' h8
    · intro key hk
      simp only [h7 key hk, mget_map]
  | iter m since seen stepped => obtain ⟨mb, h1, h2⟩ := ho; exact ⟨mb, h1, h2.ren k⟩
  | siter s pos => exact ho
  | loop st pend σ ps asg body => obtain ⟨us, fn, db, h1, h2⟩ := ho; exact ⟨us, fn, db, h1, h2.ren k⟩
  | defd => exact ho
  | gone => trivial
theorem VO.ren_live (f h : Nat → Option Nat) (o : VO) : (o.ren f h).live = o.live := by cases o <;> rfl
end

/-! ### Functions -/
def VCalls (P : Program) (f : FuncId) (xs : List TV) (T : VT) (Q : TV → VT → Prop) : Prop :=
  ∀ g w us, RW g T w → VRs g w xs us → Calls P f us.toArray w fun e w' => ∃ v x g' T', e = .returned v ∧ Q x T' ∧ Evo g w g' w' ∧ RW g' T' w' ∧ VR g' w' x v
theorem VCalls.mono {P : Program} {f : FuncId} {xs : List TV} {T : VT} {Q Q' : TV → VT → Prop} (h : VCalls P f xs T Q) (k : ∀ x T', Q x T' → Q' x T') : VCalls P f xs T Q' :=
  fun g w us r hx => (h g w us r hx).mono fun e w' ⟨v, x, g', T', h1, h2, h3⟩ => ⟨v, x, g', T', h1, k _ _ h2, h3⟩

/-- a row of places is given back -/
def giveBack {α : Type} : List α → List Nat → List α → List α
  | l, [], r => l ++ r
  | l, i :: is, x :: r => giveBack (l.set i x) is r
  | l, _ :: _, [] => l
theorem giveBack_at {α : Type} : ∀ (is : List Nat) (l r : List α), is.Nodup → (∀ i ∈ is, i < l.length) → is.length ≤ r.length →
    (giveBack l is r).length = l.length + (r.length - is.length) ∧ (∀ id, id < l.length → id ∉ is → (giveBack l is r)[id]? = l[id]?) ∧ (∀ (j : Nat) i, is[j]? = some i → (giveBack l is r)[i]? = r[j]?) ∧
      (∀ d, (giveBack l is r)[l.length + d]? = r[is.length + d]?)
  | [], l, r, _, _, _ => ⟨by simp [giveBack], fun id hid _ => by simp [giveBack, List.getElem?_append_left hid], fun j i h => by simp at h, fun d => by simp only [giveBack]; rw [List.getElem?_append_right (by omega)]; simp⟩
  | i :: is, l, [], _, _, h => by simp at h
  | i :: is, l, x :: r, hn, hi, h => by
    have hn' := List.nodup_cons.1 hn
    obtain ⟨h1, h2, h3, h4⟩ := giveBack_at is (l.set i x) r hn'.2 (fun j hj => by simpa using hi j (List.mem_cons_of_mem _ hj)) (by simpa using h)
    have hil := hi i List.mem_cons_self
    simp only [List.length_set] at h1 h2 h4
    refine ⟨by simp [giveBack, h1], fun id hid hm => ?_, fun j i' hj => ?_, fun d => ?_⟩
    · simp only [giveBack]
      simp only [List.mem_cons, not_or] at hm
      rw [h2 id hid hm.2, List.getElem?_set, if_neg (fun e => hm.1 e.symm)]
    · simp only [giveBack]
      cases j with
      | zero =>
        simp at hj; subst hj
        rw [h2 i hil hn'.1, List.getElem?_set, if_pos rfl, if_pos hil]; rfl
      | succ j => simpa using h3 j i' (by simpa using hj)
    · simp only [giveBack, List.length_cons]
      rw [h4 d]
      rw [show is.length + 1 + d = (is.length + d) + 1 by omega, List.getElem?_cons_succ]

/-- the objects and tails that a call gets, and how it names them -/
def nameIn (is : List Nat) (i : Nat) : Option Nat := is.idxOf? i
def nameOut (n : Nat) (is : List Nat) (j : Nat) : Option Nat := if j < is.length then is[j]? else some (n + (j - is.length))
def VT.give (T : VT) (is ks : List Nat) : VT := ⟨is.map fun i => ((T.objs[i]?).getD .gone).ren (nameIn is) (nameIn ks), ks.map fun k => (T.tails[k]?).getD (0, 0, false)⟩
def VT.back (T : VT) (is ks : List Nat) (T' : VT) : VT :=
  ⟨giveBack T.objs is (T'.objs.map (VO.ren (nameOut T.objs.length is) (nameOut T.tails.length ks))), giveBack T.tails ks T'.tails⟩
theorem nameIn_some {is : List Nat} {i j : Nat} (h : nameIn is i = some j) : is[j]? = some i := by
  unfold nameIn at h
  rw [List.idxOf?_eq_some_iff] at h
  obtain ⟨h1, h2, _⟩ := h
  rw [List.getElem?_eq_getElem h1, h2]
theorem nameOut_lt {n : Nat} {is : List Nat} {j i : Nat} (h : is[j]? = some i) : nameOut n is j = some i := by
  unfold nameOut; rw [if_pos (List.getElem?_eq_some_iff.1 h).1, h]
theorem nodup_at {is : List Nat} (hn : is.Nodup) {j k i : Nat} (h1 : is[j]? = some i) (h2 : is[k]? = some i) : j = k := by
  obtain ⟨a, a2⟩ := List.getElem?_eq_some_iff.1 h1
  obtain ⟨c, c2⟩ := List.getElem?_eq_some_iff.1 h2
  have hn' := List.pairwise_iff_getElem.1 hn
  rcases Nat.lt_trichotomy j k with h | h | h
  · exact absurd (a2.trans c2.symm) (hn' j k a c h)
  · exact h
  · exact absurd (c2.trans a2.symm) (hn' k j c a h)

section
variable {P : Program}
/-- the callee's ghost -/
def Gh.sub (g : Gh) (T : VT) (is ks : List Nat) : Gh where
  obj j := (is[j]?).bind g.obj
  st := g.st
  fr b := g.fr b ∨ (∃ (id : Nat) (o : VO), T.objs[id]? = some o ∧ o.live = true ∧ id ∉ is ∧ g.obj id = some b) ∨ (∃ (k : Nat) (x : Tl), k ∉ ks ∧ g.tail k = some x ∧ x.has b)
  tail j := (ks[j]?).bind g.tail
theorem tail_lt {g : Gh} {T : VT} {w : World} (r : RW g T w) {k : Nat} {x : Tl} (h : g.tail k = some x) : k < T.tails.length := by
  rcases Nat.lt_or_ge k T.tails.length with h1 | h1
  · exact h1
  · rw [r.tout k h1] at h; cases h
theorem obj_lt {g : Gh} {T : VT} {w : World} (r : RW g T w) {k b : Nat} (h : g.obj k = some b) : k < T.objs.length := by
  rcases Nat.lt_or_ge k T.objs.length with h1 | h1
  · exact h1
  · rw [r.out k h1] at h; cases h
theorem sub_ren (g : Gh) (T : VT) (is ks : List Nat) : Ren g (g.sub T is ks) (nameIn is) (nameIn ks) where
  obj i i' b h1 h2 := by simp [Gh.sub, nameIn_some h1, h2]
  tail k k' x h1 h2 := by simp [Gh.sub, nameIn_some h1, h2]
  st _ _ h := h
theorem RW.give {g : Gh} {T : VT} {w : World} (r : RW g T w) {is ks : List Nat} (hi : is.Nodup) (hk : ks.Nodup) (hil : ∀ i ∈ is, i < T.objs.length) (hkl : ∀ k ∈ ks, k < T.tails.length) :
    RW (g.sub T is ks) (T.give is ks) w := by
  have k := sub_ren g T is ks
  have hobj : ∀ (j : Nat) o, (T.give is ks).objs[j]? = some o → o.live = true → ∃ i o0, is[j]? = some i ∧ T.objs[i]? = some o0 ∧ o0.live = true ∧ o = o0.ren (nameIn is) (nameIn ks) := by
    intro j o h hl
    simp only [VT.give, List.getElem?_map, Option.map_eq_some_iff] at h
    obtain ⟨i, h1, rfl⟩ := h
    rw [VO.ren_live] at hl
    cases h2 : T.objs[i]? with
    | none => rw [h2] at hl; cases hl
    | some o0 => rw [h2] at hl; exact ⟨i, o0, h1, h2, hl, by simp⟩
  have hsub : ∀ (j : Nat) x, (g.sub T is ks).tail j = some x → ∃ k0, ks[j]? = some k0 ∧ g.tail k0 = some x := fun j x h => by simpa [Gh.sub, Option.bind_eq_some_iff] using h
  have htfr : ∀ (j : Nat) k0 x b, ks[j]? = some k0 → g.tail k0 = some x → x.has b → ¬ g.fr b → ¬ (g.sub T is ks).fr b := fun j k0 x b h1 h2 h3 h4 hf => by
    rcases hf with hf | ⟨id, o', a1, a2, a3, a4⟩ | ⟨k', y, a1, a2, a3⟩
    · exact h4 hf
    · exact r.tobj id o' b k0 x a1 a2 a4 h2 h3
    · have := r.tinj k' k0 y x b a2 h2 a3 h3
      subst this
      exact a1 (List.mem_of_getElem? h1)
  refine ⟨?_, ?_, ?_, r.st, ?_, ?_, ?_, ?_, ?_, ?_, ?_, ?_⟩
  · intro j o h hl
    obtain ⟨i, o0, h1, h2, h3, rfl⟩ := hobj j o h hl
    obtain ⟨b, h4, h5, h6, h7⟩ := r.obj i o0 h2 h3
    refine ⟨b, by simp [Gh.sub, h1, h4], h5.ren k, ?_, h7⟩
    rintro (hf | ⟨id, o', a1, a2, a3, a4⟩ | ⟨k', x, a1, a2, a3⟩)
    · exact h6 hf
    · have := r.inj id i o' o0 b a1 a2 h2 h3 a4 h4
      subst this
      exact a3 (List.mem_of_getElem? h1)
    · exact r.tobj i o0 b k' x h2 h3 h4 a2 a3
  · intro i j oi oj b h1 l1 h2 l2 b1 b2
    obtain ⟨i0, o1, a1, a2, a3, rfl⟩ := hobj i oi h1 l1
    obtain ⟨j0, o2, c1, c2, c3, rfl⟩ := hobj j oj h2 l2
    simp only [Gh.sub, a1, c1, Option.bind_some] at b1 b2
    have := r.inj i0 j0 o1 o2 b a2 a3 c2 c3 b1 b2
    subst this
    exact nodup_at hi a1 c1
  · intro id hid
    simp only [VT.give, List.length_map] at hid
    simp [Gh.sub, List.getElem?_eq_none hid]
  · rintro b (hf | ⟨id, o', a1, a2, a3, a4⟩ | ⟨k', x, a1, a2, a3⟩)
    · exact r.fr b hf
    · obtain ⟨b', h1, h2, _⟩ := r.obj id o' a1 a2
      rw [a4] at h1; injection h1 with h1; subst h1
      exact h2.lt a2
    · rcases a3 with ⟨o', a3⟩ | ⟨b1, b2, rfl⟩
      · obtain ⟨x', h1, _, _, h2⟩ := r.tl k' _ (List.getElem?_eq_getElem (tail_lt r a2))
        rw [a2] at h1; injection h1 with h1; subst h1
        obtain ⟨u, hu⟩ := Option.isSome_iff_exists.1 (h2 b o' a3).1
        exact lt_of_cell hu
      · obtain ⟨⟨cur, h3, _⟩, _⟩ := r.own k' x a2 b1 b2
        exact (Array.getElem?_eq_some_iff.1 h3).1
  · intro j p h
    simp only [VT.give, List.getElem?_map, Option.map_eq_some_iff] at h
    obtain ⟨k0, h1, rfl⟩ := h
    have hlt := hkl k0 (List.mem_of_getElem? h1)
    obtain ⟨x, h2, h3, h4, h5⟩ := r.tl k0 _ (List.getElem?_eq_getElem hlt)
    refine ⟨x, by simp [Gh.sub, h1, h2], ?_, ?_, fun b o hin => ?_⟩
    · rw [List.getElem?_eq_getElem hlt]; exact h3
    · rw [List.getElem?_eq_getElem hlt]; exact h4
    · obtain ⟨c1, c2, c3, c4⟩ := h5 b o hin
      exact ⟨c1, c2, c3, htfr j k0 x b h1 h2 (.inl ⟨o, hin⟩) c4⟩
  · intro j hj
    simp only [VT.give, List.length_map] at hj
    simp [Gh.sub, List.getElem?_eq_none hj]
  · intro i j x y b h1 h2 i1 i2
    obtain ⟨i0, a1, a2⟩ := hsub i x h1
    obtain ⟨j0, c1, c2⟩ := hsub j y h2
    have := r.tinj i0 j0 x y b a2 c2 i1 i2
    subst this
    exact nodup_at hk a1 c1
  · intro i oi b j x h1 l1 b1 hx hin
    obtain ⟨i0, o1, a1, a2, a3, rfl⟩ := hobj i oi h1 l1
    obtain ⟨j0, c1, c2⟩ := hsub j x hx
    simp only [Gh.sub, a1, Option.bind_some] at b1
    exact r.tobj i0 o1 b j0 x a2 a3 b1 c2 hin
  · intro j x hx d1 d2
    obtain ⟨j0, c1, c2⟩ := hsub j x hx
    obtain ⟨e1, e2, e3, e4, e5⟩ := r.own j0 x c2 d1 d2
    exact ⟨e1, e2, e3, e4, htfr j j0 x x.b c1 c2 (.inr ⟨d1, d2, rfl⟩) e5⟩
  · intro j x hx
    obtain ⟨j0, c1, c2⟩ := hsub j x hx
    exact r.own0 j0 x c2
  · intro j x hx
    obtain ⟨j0, c1, c2⟩ := hsub j x hx
    exact r.tlo j0 x c2

/-- the caller's ghost behind a call -/
def Gh.join (g : Gh) (n m : Nat) (is ks : List Nat) (gc : Gh) : Gh where
  obj id := if id < n then g.obj id else gc.obj (is.length + (id - n))
  st := gc.st
  fr := g.fr
  tail k := match ks.idxOf? k with
    | some j => gc.tail j
    | none => if k < m then g.tail k else gc.tail (ks.length + (k - m))
theorem idxOf?_of {is : List Nat} (hn : is.Nodup) {j i : Nat} (h : is[j]? = some i) : is.idxOf? i = some j := by
  cases hx : is.idxOf? i with
  | none =>
    rw [List.idxOf?_eq_none_iff] at hx
    exact absurd (List.mem_of_getElem? h) hx
  | some k => rw [nodup_at hn (nameIn_some hx) h]
/-- behind a call -/
theorem join_back {g gc : Gh} {T T' : VT} {w w' : World} (r : RW g T w) {is ks : List Nat} (hi : is.Nodup) (hk : ks.Nodup) (hil : ∀ i ∈ is, ∃ o, T.objs[i]? = some o ∧ o.live = true) (hkl : ∀ k ∈ ks, k < T.tails.length)
    (e : Evo (g.sub T is ks) w gc w') (r' : RW gc T' w') (h1 : is.length ≤ T'.objs.length) (h2 : ks.length ≤ T'.tails.length) :
    ∃ g', Evo g w g' w' ∧ RW g' (T.back is ks T') w' ∧ Ren gc g' (nameOut T.objs.length is) (nameOut T.tails.length ks) := by
  have hil' : ∀ i ∈ is, i < T.objs.length := fun i h => by obtain ⟨o, h1, _⟩ := hil i h; exact (List.getElem?_eq_some_iff.1 h1).1
  have sObj : ∀ (j : Nat) i, is[j]? = some i → ∃ b, g.obj i = some b ∧ gc.obj j = some b := fun j i hj => by
    obtain ⟨o, h1, h2⟩ := hil i (List.mem_of_getElem? hj)
    obtain ⟨b, h3, _⟩ := r.obj i o h1 h2
    exact ⟨b, h3, e.obj j b (by simp [Gh.sub, hj, h3])⟩
  have hg' : ∃ g' : Gh, g' = g.join T.objs.length T.tails.length is ks gc := ⟨_, rfl⟩
  obtain ⟨g', hg'⟩ := hg'
  have gst : g'.st = gc.st := by rw [hg']; rfl
  have gfr : g'.fr = g.fr := by rw [hg']; rfl
  have oOld : ∀ id, id < T.objs.length → g'.obj id = g.obj id := fun id h => by simp [hg', Gh.join, h]
  have oNew : ∀ d, g'.obj (T.objs.length + d) = gc.obj (is.length + d) := fun d => by
    have e1 : g'.obj (T.objs.length + d) = (if T.objs.length + d < T.objs.length then g.obj (T.objs.length + d) else gc.obj (is.length + (T.objs.length + d - T.objs.length))) := by rw [hg']; rfl
    rw [e1, if_neg (by omega), Nat.add_sub_cancel_left]
  have tIn : ∀ (j : Nat) k, ks[j]? = some k → g'.tail k = gc.tail j := fun j k h => by simp only [hg', Gh.join, idxOf?_of hk h]
  have tOld : ∀ k, k ∉ ks → k < T.tails.length → g'.tail k = g.tail k := fun k h h' => by
    have : ks.idxOf? k = none := by rw [List.idxOf?_eq_none_iff]; exact h
    simp only [hg', Gh.join, this, h', if_true]
  have tNew : ∀ d, g'.tail (T.tails.length + d) = gc.tail (ks.length + d) := fun d => by
    have : ks.idxOf? (T.tails.length + d) = none := by rw [List.idxOf?_eq_none_iff]; exact fun h => by have := hkl _ h; omega
    have e1 : g'.tail (T.tails.length + d) = (match ks.idxOf? (T.tails.length + d) with | some j => gc.tail j | none => if T.tails.length + d < T.tails.length then g.tail (T.tails.length + d) else gc.tail (ks.length + (T.tails.length + d - T.tails.length))) := by rw [hg']; rfl
    rw [e1, this]
    simp only
    rw [if_neg (by omega), Nat.add_sub_cancel_left]
  clear hg'
  have ev : Evo g w g' w' := by
    refine ⟨e.os, e.tape, e.output, e.size, fun id b hb => by rw [oOld id (obj_lt r hb)]; exact hb, fun b o hs => by rw [gst]; exact e.st b o hs, gfr, fun b hb => e.frb b (.inl hb), fun b o hb hs => e.frs b o (.inl hb) (by rw [← gst]; exact hs), fun k x hx => ?_, fun k x hn hx => ?_, e.csz⟩
    rotate_left
    · rcases Nat.lt_or_ge k T.tails.length with hl | hl
      · by_cases hm : k ∈ ks
        · obtain ⟨j, hj⟩ := List.mem_iff_getElem?.1 hm
          rw [tIn j k hj] at hx
          exact e.tnew j x (by simp [Gh.sub, hj, hn]) hx
        · rw [tOld k hm hl, hn] at hx; cases hx
      · obtain ⟨d, rfl⟩ : ∃ d, k = T.tails.length + d := ⟨k - T.tails.length, by omega⟩
        rw [tNew] at hx
        exact e.tnew _ x (by simp [Gh.sub]) hx
    have hlt := tail_lt r hx
    by_cases hm : k ∈ ks
    · obtain ⟨j, hj⟩ := List.mem_iff_getElem?.1 hm
      rw [tIn j k hj]
      exact e.tail j x (by simp [Gh.sub, hj, hx])
    · exact ⟨x, by rw [tOld k hm hlt]; exact hx, .inl rfl, rfl, rfl⟩
  have nObj : ∀ j id, nameOut T.objs.length is j = some id → g'.obj id = gc.obj j := by
    intro j id hj
    unfold nameOut at hj
    split at hj
    · obtain ⟨b, h3, h4⟩ := sObj j id hj
      rw [oOld id (hil' id (List.mem_of_getElem? hj)), h3, h4]
    · injection hj with hj; subst hj
      rw [oNew]; rw [show is.length + (j - is.length) = j by omega]
  have nTail : ∀ j k, nameOut T.tails.length ks j = some k → g'.tail k = gc.tail j := by
    intro j k hj
    unfold nameOut at hj
    split at hj
    · exact tIn j k hj
    · injection hj with hj; subst hj
      rw [tNew]; rw [show ks.length + (j - ks.length) = j by omega]
  have rn : Ren gc g' (nameOut T.objs.length is) (nameOut T.tails.length ks) := ⟨fun j i b hj hb => by rw [nObj j i hj]; exact hb, fun j k x hj hx => by rw [nTail j k hj]; exact hx, fun b o h => by rw [gst]; exact h⟩
  -- what lies where
  obtain ⟨q1, q2, q3, q4⟩ := giveBack_at is T.objs (T'.objs.map (VO.ren (nameOut T.objs.length is) (nameOut T.tails.length ks))) hi hil' (by simpa using h1)
  obtain ⟨p1, p2, p3, p4⟩ := giveBack_at ks T.tails T'.tails hk hkl h2
  have clsO : ∀ (id : Nat) o, (T.back is ks T').objs[id]? = some o → (id < T.objs.length ∧ id ∉ is ∧ T.objs[id]? = some o) ∨ ∃ (j : Nat) (o0 : VO), nameOut T.objs.length is j = some id ∧ T'.objs[j]? = some o0 ∧ o = o0.ren (nameOut T.objs.length is) (nameOut T.tails.length ks) := by
    intro id o h
    simp only [VT.back] at h
    rcases Nat.lt_or_ge id T.objs.length with hl | hl
    · by_cases hm : id ∈ is
      · obtain ⟨j, hj⟩ := List.mem_iff_getElem?.1 hm
        rw [q3 j id hj] at h
        simp only [List.getElem?_map, Option.map_eq_some_iff] at h
        obtain ⟨o0, h3, rfl⟩ := h
        exact .inr ⟨j, o0, nameOut_lt hj, h3, rfl⟩
      · rw [q2 id hl hm] at h; exact .inl ⟨hl, hm, h⟩
    · obtain ⟨d, rfl⟩ : ∃ d, id = T.objs.length + d := ⟨id - T.objs.length, by omega⟩
      rw [q4 d] at h
      simp only [List.getElem?_map, Option.map_eq_some_iff] at h
      obtain ⟨o0, h3, rfl⟩ := h
      exact .inr ⟨is.length + d, o0, by unfold nameOut; rw [if_neg (by omega), Nat.add_sub_cancel_left], h3, rfl⟩
  have clsT : ∀ (k : Nat) x, g'.tail k = some x → (k < T.tails.length ∧ k ∉ ks ∧ g.tail k = some x) ∨ ∃ (j : Nat), nameOut T.tails.length ks j = some k ∧ gc.tail j = some x := by
    intro k x h
    rcases Nat.lt_or_ge k T.tails.length with hl | hl
    · by_cases hm : k ∈ ks
      · obtain ⟨j, hj⟩ := List.mem_iff_getElem?.1 hm
        exact .inr ⟨j, nameOut_lt hj, by rw [← tIn j k hj]; exact h⟩
      · exact .inl ⟨hl, hm, by rw [← tOld k hm hl]; exact h⟩
    · obtain ⟨d, rfl⟩ : ∃ d, k = T.tails.length + d := ⟨k - T.tails.length, by omega⟩
      exact .inr ⟨ks.length + d, by unfold nameOut; rw [if_neg (by omega), Nat.add_sub_cancel_left], by rw [← tNew]; exact h⟩
  -- blocks that the callee leaves
  have frO : ∀ (id : Nat) o b, T.objs[id]? = some o → o.live = true → id ∉ is → g.obj id = some b → (g.sub T is ks).fr b := fun id o b a1 a2 a3 a4 => .inr (.inl ⟨id, o, a1, a2, a3, a4⟩)
  have frT : ∀ (k : Nat) x b, k ∉ ks → g.tail k = some x → x.has b → (g.sub T is ks).fr b := fun k x b a1 a2 a3 => .inr (.inr ⟨k, x, a1, a2, a3⟩)
  have noO : ∀ (j : Nat) o0 b, T'.objs[j]? = some o0 → o0.live = true → gc.obj j = some b → ¬ (g.sub T is ks).fr b := fun j o0 b a1 a2 a3 hf => by
    obtain ⟨b', c1, _, c3, _⟩ := r'.obj j o0 a1 a2
    rw [a3] at c1; injection c1 with c1; subst c1
    exact c3 (by rw [e.fr]; exact hf)
  have noT : ∀ (j : Nat) x b, gc.tail j = some x → x.has b → ¬ (g.sub T is ks).fr b := fun j x b a1 a2 hf => by
    rcases a2 with ⟨o, a2⟩ | ⟨d1, d2, rfl⟩
    · obtain ⟨x', c1, _, _, c4⟩ := r'.tl j _ (List.getElem?_eq_getElem (tail_lt r' a1))
      rw [a1] at c1; injection c1 with c1; subst c1
      exact (c4 b o a2).2.2.2 (by rw [e.fr]; exact hf)
    · exact (r'.own j x a1 d1 d2).2.2.2.2 (by rw [e.fr]; exact hf)
  refine ⟨g', ev, ⟨?_, ?_, ?_, ?_, ?_, ?_, ?_, ?_, ?_, ?_, ?_, ?_⟩, rn⟩
  · intro id o h hl
    rcases clsO id o h with ⟨a1, a2, a3⟩ | ⟨j, o0, a1, a2, rfl⟩
    · obtain ⟨b, c1, c2, c3, c4⟩ := r.obj id o a3 hl
      have hf := frO id o b a3 hl a2 c1
      exact ⟨b, by rw [oOld id a1]; exact c1, c2.mono ev (e.frb b hf), by rw [gfr]; exact c3, fun o' hs => c4 o' (e.frs b o' hf (by rw [← gst]; exact hs))⟩
    · rw [VO.ren_live] at hl
      obtain ⟨b, c1, c2, c3, c4⟩ := r'.obj j o0 a2 hl
      exact ⟨b, by rw [nObj j id a1]; exact c1, c2.ren rn, fun hf => noO j o0 b a2 hl c1 (.inl (by rw [← gfr]; exact hf)), fun o' hs => c4 o' (by rw [← gst]; exact hs)⟩
  · intro i j oi oj b hi' li hj' lj b1 b2
    rcases clsO i oi hi' with ⟨a1, a2, a3⟩ | ⟨j1, o1, a1, a2, rfl⟩ <;> rcases clsO j oj hj' with ⟨c1, c2, c3⟩ | ⟨j2, o2, c1, c2, rfl⟩
    · rw [oOld i a1] at b1; rw [oOld j c1] at b2; exact r.inj i j oi oj b a3 li c3 lj b1 b2
    · rw [oOld i a1] at b1; rw [nObj j2 j c1] at b2; rw [VO.ren_live] at lj; exact absurd (frO i oi b a3 li a2 b1) (noO j2 o2 b c2 lj b2)
    · rw [oOld j c1] at b2; rw [nObj j1 i a1] at b1; rw [VO.ren_live] at li; exact absurd (frO j oj b c3 lj c2 b2) (noO j1 o1 b a2 li b1)
    · rw [nObj j1 i a1] at b1; rw [nObj j2 j c1] at b2; rw [VO.ren_live] at li lj
      have := r'.inj j1 j2 o1 o2 b a2 li c2 lj b1 b2
      subst this
      rw [a1] at c1; injection c1
  · intro id hid
    simp only [VT.back, q1, List.length_map] at hid
    obtain ⟨d, rfl⟩ : ∃ d, id = T.objs.length + d := ⟨id - T.objs.length, by omega⟩
    rw [oNew]; exact r'.out _ (by omega)
  · intro b o hs; exact r'.st b o (by rw [← gst]; exact hs)
  · intro b hb; exact Nat.lt_of_lt_of_le (r.fr b (by rw [← gfr]; exact hb)) e.size
  · intro k p h
    simp only [VT.back] at h
    have key : (k < T.tails.length ∧ k ∉ ks ∧ T.tails[k]? = some p) ∨ ∃ (j : Nat), nameOut T.tails.length ks j = some k ∧ T'.tails[j]? = some p := by
      rcases Nat.lt_or_ge k T.tails.length with hl | hl
      · by_cases hm : k ∈ ks
        · obtain ⟨j, hj⟩ := List.mem_iff_getElem?.1 hm
          rw [p3 j k hj] at h
          exact .inr ⟨j, nameOut_lt hj, h⟩
        · rw [p2 k hl hm] at h; exact .inl ⟨hl, hm, h⟩
      · obtain ⟨d, rfl⟩ : ∃ d, k = T.tails.length + d := ⟨k - T.tails.length, by omega⟩
        rw [p4 d] at h
        exact .inr ⟨ks.length + d, by unfold nameOut; rw [if_neg (by omega), Nat.add_sub_cancel_left], h⟩
    rcases key with ⟨a1, a2, a3⟩ | ⟨j, a1, a2⟩
    · obtain ⟨x, c1, c2, c3, c4⟩ := r.tl k p a3
      refine ⟨x, by rw [tOld k a2 a1]; exact c1, c2, c3, fun b o hin => ?_⟩
      have hf := frT k x b a2 c1 (.inl ⟨o, hin⟩)
      obtain ⟨d1, d2, d3, d4⟩ := c4 b o hin
      have hb := e.frb b hf
      refine ⟨by rw [World.cell?, hb]; exact d1, by rw [World.frozen?, hb]; exact d2, fun hs => d3 (e.frs b o hf (by rw [← gst]; exact hs)), by rw [gfr]; exact d4⟩
    · obtain ⟨x, c1, c2, c3, c4⟩ := r'.tl j p a2
      refine ⟨x, by rw [nTail j k a1]; exact c1, c2, c3, fun b o hin => ?_⟩
      obtain ⟨d1, d2, d3, d4⟩ := c4 b o hin
      exact ⟨d1, d2, fun hs => d3 (by rw [← gst]; exact hs), fun hf => noT j x b c1 (.inl ⟨o, hin⟩) (.inl (by rw [← gfr]; exact hf))⟩
  · intro k hk'
    simp only [VT.back, p1] at hk'
    obtain ⟨d, rfl⟩ : ∃ d, k = T.tails.length + d := ⟨k - T.tails.length, by omega⟩
    rw [tNew]; exact r'.tout _ (by omega)
  · intro i j x y b hx hy i1 i2
    rcases clsT i x hx with ⟨a1, a2, a3⟩ | ⟨j1, a1, a2⟩ <;> rcases clsT j y hy with ⟨c1, c2, c3⟩ | ⟨j2, c1, c2⟩
    · exact r.tinj i j x y b a3 c3 i1 i2
    · exact absurd (frT i x b a2 a3 i1) (noT j2 y b c2 i2)
    · exact absurd (frT j y b c2 c3 i2) (noT j1 x b a2 i1)
    · have := r'.tinj j1 j2 x y b a2 c2 i1 i2
      subst this
      rw [a1] at c1; injection c1
  · intro i oi b k x hi' li b1 hx hin
    rcases clsO i oi hi' with ⟨a1, a2, a3⟩ | ⟨j1, o1, a1, a2, rfl⟩ <;> rcases clsT k x hx with ⟨c1, c2, c3⟩ | ⟨j2, c1, c2⟩
    · rw [oOld i a1] at b1; exact r.tobj i oi b k x a3 li b1 c3 hin
    · rw [oOld i a1] at b1; exact noT j2 x b c2 hin (frO i oi b a3 li a2 b1)
    · rw [nObj j1 i a1] at b1; rw [VO.ren_live] at li; exact noO j1 o1 b a2 li b1 (frT k x b c2 c3 hin)
    · rw [nObj j1 i a1] at b1; rw [VO.ren_live] at li; exact r'.tobj j1 o1 b j2 x a2 li b1 c2 hin
  · intro k x hx d1 d2
    rcases clsT k x hx with ⟨c1, c2, c3⟩ | ⟨j2, c1, c2⟩
    · obtain ⟨⟨cur, f1, f1'⟩, f2, f3, f4, f5⟩ := r.own k x c3 d1 d2
      have hf := frT k x x.b c2 c3 (.inr ⟨d1, d2, rfl⟩)
      exact ⟨⟨cur, by rw [e.frb _ hf]; exact f1, f1'⟩, f2, f3, f4, by rw [gfr]; exact f5⟩
    · obtain ⟨f1, f2, f3, f4, f5⟩ := r'.own j2 x c2 d1 d2
      exact ⟨f1, f2, f3, f4, fun hf => noT j2 x x.b c2 (.inr ⟨d1, d2, rfl⟩) (.inl (by rw [← gfr]; exact hf))⟩
  · intro k x hx
    rcases clsT k x hx with ⟨c1, c2, c3⟩ | ⟨j2, c1, c2⟩
    · exact r.own0 k x c3
    · exact r'.own0 j2 x c2
  · intro k x hx
    rcases clsT k x hx with ⟨c1, c2, c3⟩ | ⟨j2, c1, c2⟩
    · exact Nat.le_trans (r.tlo k x c3) e.size
    · exact r'.tlo j2 x c2
end
end Go.Proofs.YtapfboldkkodkaaGreatDoor
