/- Steps of a world that a walk knows: new blocks, new objects, cells that stay, tails. For any program. -/
import Derived.Test.YtapfboldkkodkaaGreatDoorVal
namespace Go.Proofs.YtapfboldkkodkaaGreatDoor
open Go.RowKit

theorem frozen_lt_cell {w : World} {a : Addr} {u : Value} (h : w.cell? a = some u) : a.block < w.heap.size := lt_of_cell h
theorem Gr.heap {w w' : World} (h : Gr w w') {b : Nat} (hb : b < w.heap.size) : w'.heap[b]? = w.heap[b]? := Below.block h b hb

theorem OR.lt {g : Gh} {w : World} {b : Nat} {o : VO} (hl : o.live = true) (h : OR g w b o) : b < w.heap.size := by
  cases o with
  | cells cs => obtain ⟨us, t, h1, _⟩ := h; exact (Array.getElem?_eq_some_iff.1 h1).1
  | row cs => obtain ⟨us, t, h1, _⟩ := h; exact (Array.getElem?_eq_some_iff.1 h1).1
  | map sh look es ck => obtain ⟨ms, h1, _⟩ := h; exact (Array.getElem?_eq_some_iff.1 h1).1
  | iter m since seen stepped => obtain ⟨mb, h1, _⟩ := h; exact (Array.getElem?_eq_some_iff.1 h1).1
  | siter s pos => exact (Array.getElem?_eq_some_iff.1 h).1
  | loop st pend σ ps asg body => obtain ⟨us, fn, db, h1, _⟩ := h; exact (Array.getElem?_eq_some_iff.1 h1).1
  | defd => exact (Array.getElem?_eq_some_iff.1 h).1
  | gone => cases hl
theorem OR.mono {g g' : Gh} {w w' : World} (e : Evo g w g' w') {b : Nat} {o : VO} (hb : w'.heap[b]? = w.heap[b]?) (h : OR g w b o) : OR g' w' b o := by
  cases o with
  | cells cs => obtain ⟨us, t, h1, h2, h3⟩ := h; exact ⟨us, t, hb.trans h1, h2.mono e, h3⟩
  | row cs => obtain ⟨us, t, h1, h2, h3, h4⟩ := h; exact ⟨us, t, hb.trans h1, h2, h3.mono e, h4⟩
  | map sh look es ck => obtain ⟨ms, h1, h2, h3, h4⟩ := h; exact ⟨ms, hb.trans h1, h2, h3.mono e, h4⟩
  | iter m since seen stepped => obtain ⟨mb, h1, h2⟩ := h; exact ⟨mb, hb.trans h1, h2.mono e⟩
  | siter s pos => exact hb.trans h
  | loop st pend σ ps asg body => obtain ⟨us, fn, db, h1, h2⟩ := h; exact ⟨us, fn, db, hb.trans h1, h2.mono e⟩
  | defd => exact hb.trans h
  | gone => trivial

/-- nothing known lies in block b -/
structure Fresh (g : Gh) (T : VT) (b : Nat) : Prop where
  fr : ¬ g.fr b
  st : ∀ o, ¬ g.st b o
  obj : ∀ (id : Nat) o, T.objs[id]? = some o → o.live = true → g.obj id ≠ some b
  tl : ∀ (k : Nat) x, g.tail k = some x → ¬ x.has b
theorem RW.fresh {g : Gh} {T : VT} {w : World} (r : RW g T w) {b : Nat} (hb : w.heap.size ≤ b) : Fresh g T b where
  fr := fun h => by have := r.fr b h; omega
  st := fun o h => by
    have h1 := r.st b o h
    obtain ⟨u, hu⟩ := Option.isSome_iff_exists.1 h1
    have := lt_of_cell hu
    simp at this; omega
  obj := fun id o h hl h2 => by
    obtain ⟨b', h3, h4, _⟩ := r.obj id o h hl
    rw [h2] at h3; injection h3 with h3; subst h3
    have := OR.lt hl h4; omega
  tl := fun k x hx hi => by
    rcases hi with ⟨o, hi⟩ | ⟨h1, h2, hb'⟩
    · rcases Nat.lt_or_ge k T.tails.length with hk | hk
      · obtain ⟨x', h1, _, _, h2⟩ := r.tl k T.tails[k] (List.getElem?_eq_getElem hk)
        rw [hx] at h1; injection h1 with h1; subst h1
        obtain ⟨u, hu⟩ := Option.isSome_iff_exists.1 (h2 b o hi).1
        have := lt_of_cell hu
        simp at this; omega
      · rw [r.tout k hk] at hx; cases hx
    · obtain ⟨⟨cur, h3, _⟩, _⟩ := r.own k x hx h1 h2
      have := (Array.getElem?_eq_some_iff.1 h3).1
      omega

theorem Evo.of_gr {g : Gh} {T : VT} {w w' : World} (r : RW g T w) (k : Gr w w') : Evo g w g w' where
  csz := fun b hb => by unfold csize; rw [k.heap hb]
  os := k.os
  tape := k.tape
  output := k.output
  size := k.size
  obj := fun _ _ h => h
  st := fun b o h => ⟨h, by
    obtain ⟨u, hu⟩ := Option.isSome_iff_exists.1 (r.st b o h)
    rw [hu]; exact k.cell hu⟩
  fr := rfl
  frb := fun b h => k.heap (r.fr b h)
  frs := fun _ _ _ h => h
  tail := fun _ x h => ⟨x, h, .inl rfl, rfl, rfl⟩
  tnew := fun _ _ h h' => nomatch (h.symm.trans h')
theorem RW.gr {g : Gh} {T : VT} {w w' : World} (r : RW g T w) (k : Gr w w') : RW g T w' where
  obj := fun id o h hl => by
    obtain ⟨b, h1, h2, h3⟩ := r.obj id o h hl
    exact ⟨b, h1, h2.mono (Evo.of_gr r k) (k.heap (h2.lt hl)), h3⟩
  inj := r.inj
  out := r.out
  st := fun b o h => by
    obtain ⟨u, hu⟩ := Option.isSome_iff_exists.1 (r.st b o h)
    rw [k.cell hu]; rfl
  fr := fun b h => Nat.lt_of_lt_of_le (r.fr b h) k.size
  tl := fun i p h => by
    obtain ⟨x, h1, h2, h3, h4⟩ := r.tl i p h
    refine ⟨x, h1, h2, h3, fun b o hi => ?_⟩
    obtain ⟨h5, h6, h7⟩ := h4 b o hi
    obtain ⟨u, hu⟩ := Option.isSome_iff_exists.1 h5
    have hlt := lt_of_cell hu
    exact ⟨by rw [k.cell hu]; rfl, by rw [(Gr.cells k).2 b o hlt]; exact h6, h7⟩
  tout := r.tout
  tinj := r.tinj
  tobj := r.tobj
  own := fun i x hx h1 h2 => by
    obtain ⟨⟨cur, h3, h4⟩, h5⟩ := r.own i x hx h1 h2
    exact ⟨⟨cur, by rw [k.heap (Array.getElem?_eq_some_iff.1 h3).1]; exact h3, h4⟩, h5⟩
  own0 := r.own0
  tlo := fun i x hx => Nat.le_trans (r.tlo i x hx) k.size

def Gh.addObj (g : Gh) (id b : Nat) : Gh := { g with obj := fun i => if i = id then some b else g.obj i }
def Gh.addSt (g : Gh) (b : Nat) (S : Nat → Prop) : Gh := { g with st := fun b' o => g.st b' o ∨ (b' = b ∧ S o) }
def Gh.setTail (g : Gh) (k : Nat) (x : Tl) : Gh := { g with tail := fun i => if i = k then some x else g.tail i }

theorem Evo.addObj {g : Gh} {w : World} {id b : Nat} (h : g.obj id = none) : Evo g w (g.addObj id b) w where
  csz := fun _ _ => rfl
  os := rfl
  tape := rfl
  output := rfl
  size := Nat.le_refl _
  obj := fun i b' hb => by
    show (if i = id then some b else g.obj i) = _
    split
    · rename_i hi; subst hi; rw [h] at hb; cases hb
    · exact hb
  st := fun _ _ h => ⟨h, rfl⟩
  fr := rfl
  frb := fun _ _ => rfl
  frs := fun _ _ _ h => h
  tail := fun _ x h => ⟨x, h, .inl rfl, rfl, rfl⟩
  tnew := fun _ _ h h' => nomatch (h.symm.trans h')
theorem Evo.addSt {g : Gh} {w : World} {b : Nat} {S : Nat → Prop} (h : ¬ g.fr b) : Evo g w (g.addSt b S) w where
  csz := fun _ _ => rfl
  os := rfl
  tape := rfl
  output := rfl
  size := Nat.le_refl _
  obj := fun _ _ h => h
  st := fun _ _ h => ⟨.inl h, rfl⟩
  fr := rfl
  frb := fun _ _ => rfl
  frs := fun b' o hf hs => by
    rcases hs with hs | ⟨rfl, _⟩
    · exact hs
    · exact absurd hf h
  tail := fun _ x h => ⟨x, h, .inl rfl, rfl, rfl⟩
  tnew := fun _ _ h h' => nomatch (h.symm.trans h')
theorem Evo.setTail {g : Gh} {w : World} {k : Nat} {x : Tl} (h : ∀ y, g.tail k = some y → y.e < x.e ∧ x.size = y.size ∧ x.lo = y.lo) (hn : g.tail k = none → w.heap.size ≤ x.lo) : Evo g w (g.setTail k x) w where
  csz := fun _ _ => rfl
  os := rfl
  tape := rfl
  output := rfl
  size := Nat.le_refl _
  obj := fun _ _ h => h
  st := fun _ _ h => ⟨h, rfl⟩
  fr := rfl
  frb := fun _ _ => rfl
  frs := fun _ _ _ h => h
  tail := fun i y hy => by
    by_cases hi : i = k
    · subst hi; exact ⟨x, by simp [Gh.setTail], .inr (h y hy).1, (h y hy).2⟩
    · exact ⟨y, by simp [Gh.setTail, hi, hy], .inl rfl, rfl, rfl⟩
  tnew := fun i y h1 h2 => by
    by_cases hi : i = k
    · subst hi; simp [Gh.setTail] at h2; subst h2; exact hn h1
    · simp [Gh.setTail, hi] at h2; rw [h1] at h2; cases h2

theorem RW.addObj {g : Gh} {T : VT} {w : World} (r : RW g T w) {b : Nat} (f : Fresh g T b) {o : VO} (hl : o.live = true) (h : OR g w b o) :
    RW (g.addObj T.objs.length b) { T with objs := T.objs ++ [o] } w := by
  have hn : g.obj T.objs.length = none := r.out _ (Nat.le_refl _)
  have e := Evo.addObj (w := w) (b := b) hn
  have key : ∀ (id : Nat) o', (T.objs ++ [o])[id]? = some o' → (T.objs[id]? = some o' ∧ id < T.objs.length) ∨ (id = T.objs.length ∧ o' = o) := by
    intro id o' h'
    rcases Nat.lt_or_ge id T.objs.length with hi | hi
    · rw [List.getElem?_append_left hi] at h'; exact .inl ⟨h', hi⟩
    · rw [List.getElem?_append_right hi] at h'
      have : id - T.objs.length = 0 := by
        rcases Nat.eq_zero_or_pos (id - T.objs.length) with h0 | h0
        · exact h0
        · rw [List.getElem?_eq_none (by simp; omega)] at h'; cases h'
      rw [this] at h'; simp at h'
      exact .inr ⟨by omega, h'.symm⟩
  have old : ∀ id, id < T.objs.length → (g.addObj T.objs.length b).obj id = g.obj id := fun id hi => by simp [Gh.addObj, Nat.ne_of_lt hi]
  have new : (g.addObj T.objs.length b).obj T.objs.length = some b := by simp [Gh.addObj]
  refine ⟨?_, ?_, ?_, r.st, r.fr, r.tl, r.tout, r.tinj, ?_, r.own, r.own0, r.tlo⟩
  · intro id o' h' hl'
    rcases key id o' h' with ⟨h1, hi⟩ | ⟨rfl, rfl⟩
    · obtain ⟨b', h2, h3, h4⟩ := r.obj id o' h1 hl'
      exact ⟨b', by rw [old id hi]; exact h2, h3.mono e rfl, h4⟩
    · exact ⟨b, new, h.mono e rfl, f.fr, f.st⟩
  · intro i j oi oj b' h1 l1 h2 l2 b1 b2
    rcases key i oi h1 with ⟨h3, hi⟩ | ⟨rfl, rfl⟩ <;> rcases key j oj h2 with ⟨h4, hj⟩ | ⟨rfl, rfl⟩
    · rw [old i hi] at b1; rw [old j hj] at b2; exact r.inj i j oi oj b' h3 l1 h4 l2 b1 b2
    · rw [old i hi] at b1; rw [new] at b2; injection b2 with b2; subst b2; exact absurd b1 (f.obj i oi h3 l1)
    · rw [old j hj] at b2; rw [new] at b1; injection b1 with b1; subst b1; exact absurd b2 (f.obj j oj h4 l2)
    · rfl
  · intro id hid
    have : id ≠ T.objs.length := by simp at hid; omega
    simp [Gh.addObj, this]
    exact r.out id (by simp at hid; omega)
  · intro i oi b' k x h1 l1 b1 hx hin
    rcases key i oi h1 with ⟨h1, hi⟩ | ⟨rfl, rfl⟩
    · rw [old i hi] at b1; exact r.tobj i oi b' k x h1 l1 b1 hx hin
    · rw [new] at b1; injection b1 with b1; subst b1; exact f.tl k x hx hin

theorem RW.addSt {g : Gh} {T : VT} {w : World} (r : RW g T w) {b : Nat} {S : Nat → Prop} (hf : ¬ g.fr b) (ho : ∀ (id : Nat) o, T.objs[id]? = some o → o.live = true → g.obj id ≠ some b)
    (ht : ∀ (k : Nat) x o, g.tail k = some x → S o → ¬ x.in b o) (hS : ∀ o, S o → (w.cell? ⟨b, o, none⟩).isSome = true) : RW (g.addSt b S) T w := by
  have e := Evo.addSt (w := w) (S := S) hf
  refine ⟨?_, r.inj, r.out, ?_, r.fr, ?_, r.tout, r.tinj, r.tobj, r.own, r.own0, r.tlo⟩
  · intro id o h hl
    obtain ⟨b', h1, h2, h3, h4⟩ := r.obj id o h hl
    refine ⟨b', h1, h2.mono e rfl, h3, fun o' hs => ?_⟩
    rcases hs with hs | ⟨rfl, _⟩
    · exact h4 o' hs
    · exact ho id o h hl h1
  · intro b' o hs
    rcases hs with hs | ⟨rfl, hs⟩
    · exact r.st b' o hs
    · exact hS o hs
  · intro k p h
    obtain ⟨x, h1, h2, h3, h4⟩ := r.tl k p h
    refine ⟨x, h1, h2, h3, fun b' o hi => ?_⟩
    obtain ⟨h5, h6, h7, h8⟩ := h4 b' o hi
    refine ⟨h5, h6, fun hs => ?_, h8⟩
    rcases hs with hs | ⟨rfl, hs⟩
    · exact h7 hs
    · exact ht k x o h1 hs hi

/-- a tail that is new, or that has grown -/
theorem RW.setTail {g : Gh} {T T' : VT} {w : World} (r : RW g T w) {k : Nat} {x : Tl} (ho : T'.objs = T.objs) (htl : T'.tails = (T.tails ++ [(x.e, x.size, x.born)]) ∧ k = T.tails.length ∨ (T'.tails = T.tails.set k (x.e, x.size, x.born) ∧ k < T.tails.length))
    (hz : ∀ b o, x.in b o → (w.cell? ⟨b, o, none⟩).isSome = true ∧ w.frozen? ⟨b, o, none⟩ = false ∧ ¬ g.st b o ∧ ¬ g.fr b)
    (hobj : ∀ (i : Nat) oi b, T.objs[i]? = some oi → oi.live = true → g.obj i = some b → ¬ x.has b)
    (hoth : ∀ (j : Nat) y b, j ≠ k → g.tail j = some y → x.has b → ¬ y.has b) (hgrow : ∀ y, g.tail k = some y → y.e < x.e ∧ x.size = y.size ∧ x.lo = y.lo) (hnew : g.tail k = none → w.heap.size ≤ x.lo) (hown : OwnT g w x) (hown0 : (x.own = true ∨ x.born = true) → x.e = 0 → x.lim ≤ x.f ∧ (x.born = true → x.own = true)) (hlo : x.lo ≤ w.heap.size) : RW (g.setTail k x) T' w := by
  have e := Evo.setTail (w := w) hgrow hnew
  have hk : (g.setTail k x).tail k = some x := by simp [Gh.setTail]
  have hne : ∀ j, j ≠ k → (g.setTail k x).tail j = g.tail j := fun j hj => by simp [Gh.setTail, hj]
  have hlen : T.tails.length ≤ T'.tails.length ∧ (∀ j, j < T'.tails.length → j = k ∨ j < T.tails.length) ∧ T'.tails[k]? = some (x.e, x.size, x.born) ∧ (∀ j, j ≠ k → T'.tails[j]? = T.tails[j]?) := by
    rcases htl with ⟨h, rfl⟩ | ⟨h, hlt⟩
    · rw [h]
      refine ⟨by simp, fun j hj => by simp at hj; omega, by simp, fun j hj => ?_⟩
      rcases Nat.lt_or_ge j T.tails.length with h1 | h1
      · rw [List.getElem?_append_left h1]
      · rw [List.getElem?_eq_none (by simp; omega), List.getElem?_eq_none h1]
    · rw [h]
      refine ⟨by simp, fun j hj => by simp at hj; omega, by simp [hlt], fun j hj => ?_⟩
      rw [List.getElem?_set]
      rw [if_neg (fun h => hj h.symm)]
  refine ⟨?_, ?_, ?_, r.st, r.fr, ?_, ?_, ?_, ?_, ?_, fun j y hy => ?_, fun j y hy => by
    by_cases hj : j = k
    · subst hj; rw [hk] at hy; injection hy with hy; subst hy; exact hlo
    · rw [hne j hj] at hy; exact r.tlo j y hy⟩
  rotate_left 8
  · by_cases hj : j = k
    · subst hj; rw [hk] at hy; injection hy with hy; subst hy; exact hown0
    · rw [hne j hj] at hy; exact r.own0 j y hy
  · intro id o h hl
    rw [ho] at h
    obtain ⟨b', h1, h2, h3⟩ := r.obj id o h hl
    exact ⟨b', h1, h2.mono e rfl, h3⟩
  · rw [ho]; exact r.inj
  · rw [ho]; exact r.out
  · intro j p h
    by_cases hj : j = k
    · subst hj
      rw [hlen.2.2.1] at h; injection h with h; subst h
      exact ⟨x, hk, rfl, ⟨rfl, rfl⟩, hz⟩
    · rw [hlen.2.2.2 j hj] at h
      obtain ⟨y, h1, h2, h3, h4⟩ := r.tl j p h
      exact ⟨y, by rw [hne j hj]; exact h1, h2, h3, h4⟩
  · intro j hj
    have : j ≠ k := by rcases htl with ⟨h, rfl⟩ | ⟨h, hlt⟩ <;> (rw [h] at hj; simp at hj; omega)
    rw [hne j this]; exact r.tout j (by omega)
  · intro i j y z b h1 h2 i1 i2
    by_cases hik : i = k <;> by_cases hjk : j = k
    · omega
    · subst hik; rw [hk] at h1; injection h1 with h1; subst h1; rw [hne j hjk] at h2; exact absurd i2 (hoth j z b hjk h2 i1)
    · subst hjk; rw [hk] at h2; injection h2 with h2; subst h2; rw [hne i hik] at h1; exact absurd i1 (hoth i y b hik h1 i2)
    · rw [hne i hik] at h1; rw [hne j hjk] at h2
      exact r.tinj i j y z b h1 h2 i1 i2
  · intro i oi b j y h1 l1 b1 hy hin
    rw [ho] at h1
    by_cases hj : j = k
    · subst hj; rw [hk] at hy; injection hy with hy; subst hy; exact hobj i oi b h1 l1 b1 hin
    · rw [hne j hj] at hy; exact r.tobj i oi b j y h1 l1 b1 hy hin
  · intro j y hy
    by_cases hj : j = k
    · subst hj; rw [hk] at hy; injection hy with hy; subst hy; exact hown
    · rw [hne j hj] at hy; exact r.own j y hy

/-- an object's cells are turned -/
theorem RW.setObj {g : Gh} {T : VT} {w : World} (r : RW g T w) {id b : Nat} {o o' : VO} (hid : T.objs[id]? = some o) (hl : o.live = true) (hb : g.obj id = some b) {w' : World}
    (hos : w'.os = w.os ∧ w'.tape = w.tape ∧ w'.output = w.output) (hsz : w'.heap.size = w.heap.size) (hoth : ∀ c, c ≠ b → w'.heap[c]? = w.heap[c]?) (hcs : csize w' b = csize w b) (ho : o'.live = true → OR g w' b o') :
    RW g { T with objs := T.objs.set id o' } w' ∧ Evo g w g w' := by
  have hlt : id < T.objs.length := (List.getElem?_eq_some_iff.1 hid).1
  obtain ⟨b0, h1, h2, hnf, hns⟩ := r.obj id o hid hl
  rw [hb] at h1; injection h1 with h1; subst h1
  have cellne : ∀ c p, c ≠ b → w'.cell? ⟨c, p, none⟩ = w.cell? ⟨c, p, none⟩ := fun c p hc => by unfold World.cell?; simp only [hoth c hc]
  have frzne : ∀ c p, c ≠ b → w'.frozen? ⟨c, p, none⟩ = w.frozen? ⟨c, p, none⟩ := fun c p hc => by unfold World.frozen?; simp only [hoth c hc]
  have e : Evo g w g w' := ⟨hos.1, hos.2.1, hos.2.2, by omega, fun _ _ h => h, fun c p hs => ⟨hs, cellne c p (by rintro rfl; exact hns p hs)⟩, rfl,
    fun c hc => hoth c (by rintro rfl; exact hnf hc), fun _ _ _ h => h, fun _ x h => ⟨x, h, .inl rfl, rfl, rfl⟩, (fun _ _ h h' => nomatch (h.symm.trans h')), fun c hc => by
      by_cases h : c = b
      · subst h; exact hcs
      · unfold csize; rw [hoth c h]⟩
  refine ⟨⟨?_, ?_, ?_, ?_, ?_, ?_, r.tout, r.tinj, ?_, ?_, r.own0, fun j y hy => by rw [hsz]; exact r.tlo j y hy⟩, e⟩
  · intro i oi h hli
    rw [List.getElem?_set] at h
    split at h
    · rename_i hi; subst hi
      injection h with h; subst h
      exact ⟨b, hb, ho hli, hnf, hns⟩
    · rename_i hi
      obtain ⟨c, h3, h4, h5⟩ := r.obj i oi h hli
      refine ⟨c, h3, h4.mono e (hoth c ?_), h5⟩
      rintro rfl
      exact hi (r.inj id i o oi c hid hl h hli hb h3)
  · intro i j oi oj c hi li hj lj
    have key : ∀ (i : Nat) oi, (T.objs.set id o')[i]? = some oi → oi.live = true → ∃ oo, T.objs[i]? = some oo ∧ oo.live = true := by
      intro i oi hi li
      rw [List.getElem?_set] at hi
      split at hi
      · rename_i he; subst he; exact ⟨o, hid, hl⟩
      · exact ⟨oi, hi, li⟩
    obtain ⟨o1, a1, a2⟩ := key i oi hi li
    obtain ⟨o2, a3, a4⟩ := key j oj hj lj
    exact r.inj i j o1 o2 c a1 a2 a3 a4
  · intro i hi; exact r.out i (by simpa using hi)
  · intro c p hs
    rw [cellne c p (by rintro rfl; exact hns p hs)]; exact r.st c p hs
  · intro c hc; rw [hsz]; exact r.fr c hc
  · intro k p h
    obtain ⟨x, h1, h2, h3, h4⟩ := r.tl k p h
    refine ⟨x, h1, h2, h3, fun c q hin => ?_⟩
    have hc : c ≠ b := by
      rintro rfl
      exact r.tobj id o c k x hid hl hb h1 (.inl ⟨q, hin⟩)
    rw [cellne c q hc, frzne c q hc]
    exact h4 c q hin
  · intro i oi c k x hi li hc hx
    have key : ∃ oo, T.objs[i]? = some oo ∧ oo.live = true := by
      rw [List.getElem?_set] at hi
      split at hi
      · rename_i he; subst he; exact ⟨o, hid, hl⟩
      · exact ⟨oi, hi, li⟩
    obtain ⟨o1, a1, a2⟩ := key
    exact r.tobj i o1 c k x a1 a2 hc hx
  · intro k x hx h1 h2
    obtain ⟨⟨cur, h3, h3'⟩, h4⟩ := r.own k x hx h1 h2
    have hne : x.b ≠ b := fun he => r.tobj id o b k x hid hl hb hx (.inr ⟨h1, h2, he⟩)
    exact ⟨⟨cur, by rw [hoth x.b hne]; exact h3, h3'⟩, h4⟩

/-- a new object in a new block -/
theorem RW.new {g : Gh} {T : VT} {w : World} (r : RW g T w) (ob : Obj) {o : VO} (hl : o.live = true) (h : OR g (w.alloc ob) w.heap.size o) :
    ∃ g', RW g' { T with objs := T.objs ++ [o] } (w.alloc ob) ∧ Evo g w g' (w.alloc ob) ∧ g'.obj T.objs.length = some w.heap.size ∧ g'.st = g.st := by
  have k := (Gr.refl w).alloc ob
  exact ⟨_, (r.gr k).addObj (r.fresh (Nat.le_refl _)) hl h, (Evo.of_gr r k).trans (Evo.addObj (r.out _ (Nat.le_refl _))), by simp [Gh.addObj], rfl⟩
/-- a new block whose cells stay -/
theorem RW.newSt {g : Gh} {T : VT} {w : World} (r : RW g T w) (us : List Value) (t : TypeId) :
    ∃ g', RW g' T (w.alloc (.cells us.toArray t)) ∧ Evo g w g' (w.alloc (.cells us.toArray t)) ∧ (∀ j, j < us.length → g'.st w.heap.size j) ∧ g'.tail = g.tail := by
  have k := (Gr.refl w).alloc (.cells us.toArray t)
  have f := r.fresh (Nat.le_refl w.heap.size)
  refine ⟨g.addSt w.heap.size (· < us.length), (r.gr k).addSt f.fr f.obj (fun k x o hx _ h => f.tl k x hx (.inl ⟨o, h⟩)) (fun o ho => ?_), (Evo.of_gr r k).trans (Evo.addSt f.fr), fun j hj => .inr ⟨rfl, hj⟩, rfl⟩
  rw [cell_new w us t o us[o] (List.getElem?_eq_getElem ho)]; rfl
end Go.Proofs.YtapfboldkkodkaaGreatDoor
