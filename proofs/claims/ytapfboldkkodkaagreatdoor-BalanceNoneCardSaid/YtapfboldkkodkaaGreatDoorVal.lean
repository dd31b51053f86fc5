/- Values without memory: what a walk knows of a value, of the objects that may turn, and of a world; what is known stays known. For any program. -/
import Derived.Test.YtapfboldkkodkaaGreatDoorBase
import Derived.Test.YtapfboldkkodkaaGreatDoorKeyA
import Derived.Test.YtapfboldkkodkaaGreatDoorPlan
import Derived.Deep.AppendSrc
import Derived.Laws.CopyRow
namespace Go.Proofs.YtapfboldkkodkaaGreatDoor
open Go.RowKit

/-- may a slice be appended to? full: it has no room; tail k e: room behind it is tail k's, as long as that one stands at e -/
inductive Tok where
  | none
  | full
  | tail (k e : Nat)
/-- a value, as a walk knows it -/
inductive TV where
  | val (v : Value)
  | ptr (id off : Nat)
  | vec (size : Nat) (es : List (List TV)) (tok : Tok)
  | elt (cs : List TV)
  | sl (id off n cap : Nat)
  | row (size id off n : Nat)
  | agg (cs : List TV)
  | tup (cs : List TV)
  | fn (f : Fn) (first caps : List TV)
  | ifc (t : TypeId) (v : TV)
  | map (id : Nat)
  | yld (id : Nat)
  | dead
/-- a tail in memory: cells f to lim of block b are free; e: how many elements it grew by; own: the block is the tail's alone, and was laid behind lo blocks; born: it began as nil -/
structure Tl where
  b : Nat
  f : Nat
  lim : Nat
  size : Nat
  e : Nat
  ty : TypeId
  lo : Nat
  own : Bool
  born : Bool
/-- where things lie: objects' blocks; cells that stay; blocks that stay; tails -/
structure Gh where
  obj : Nat → Option Nat
  st : Nat → Nat → Prop
  fr : Nat → Prop
  tail : Nat → Option Tl

def TokOk (g : Gh) (tok : Tok) (size n b o c : Nat) : Prop := match tok with
  | .none => True
  | .full => c = n
  | .tail k e => ∃ x, g.tail k = some x ∧ e ≤ x.e ∧ x.size = size ∧ (x.e = e → n < c → x.b = b ∧ x.f = o + n * size ∧ x.lim = o + c * size) ∧ (x.e = e → x.born = true → n ≤ x.e ∧ (n = x.e → 0 < n → x.own = true ∧ x.b = b ∧ o = 0 ∧ x.lim = c * size))
def NilTok (g : Gh) (tok : Tok) (size : Nat) : Prop := match tok with
  | .none => True
  | .full => True
  | .tail k e => ∃ x, g.tail k = some x ∧ e ≤ x.e ∧ x.size = size

/-- how many cells a block has -/
def csize (w : World) (b : Nat) : Nat := match w.heap[b]? with
  | some (.cells us _ _) => us.size
  | _ => 0
inductive VR (g : Gh) (w : World) : TV → Value → Prop
  | val (v : Value) : VR g w (.val v) v
  | dead (v : Value) : VR g w .dead v
  | ptr {id off b : Nat} (h : g.obj id = some b) : VR g w (.ptr id off) (.pointer (some ⟨b, off, none⟩))
  | sl {id off n cap b : Nat} (h : g.obj id = some b) : VR g w (.sl id off n cap) (.slice (some ⟨b, off, none⟩) n cap)
  | row {size id off n b c : Nat} (h : g.obj id = some b) (hb : b < w.heap.size) (hn : n ≤ c) (hm : c ≤ maxLen) (hc : (off + c) * size = csize w b) : VR g w (.row size id off n) (.slice (some ⟨b, off * size, none⟩) n c)
  | map {id b : Nat} (h : g.obj id = some b) : VR g w (.map id) (.map (some b))
  | yld {id b : Nat} (h : g.obj id = some b) : VR g w (.yld id) (.func (.yield b) #[] #[])
  | nil {size : Nat} {tok : Tok} (h : NilTok g tok size) : VR g w (.vec size [] tok) (.slice none 0 0)
  | vec {size : Nat} {es : List (List TV)} {tok : Tok} {b o c : Nat} {us : List Value} (hn : es.length ≤ c) (hc : c ≤ maxLen) (hz : ∀ e ∈ es, e.length = size) (ht : TokOk g tok size es.length b o c) (hl : us.length = es.flatten.length) (h1 : ∀ u ∈ us, u.oneCell' = true)
      (hs : ∀ j, j < es.flatten.length → g.st b (o + j)) (hw : ∀ (j : Nat) u, us[j]? = some u → w.cell? ⟨b, o + j, none⟩ = some u)
      (hv : ∀ (j : Nat) x u, es.flatten[j]? = some x → us[j]? = some u → VR g w x u) : VR g w (.vec size es tok) (.slice (some ⟨b, o, none⟩) es.length c)
  | elt {cs : List TV} {b o : Nat} {us : List Value} (hl : us.length = cs.length) (h1 : ∀ u ∈ us, u.oneCell' = true)
      (hs : ∀ j, j < cs.length → g.st b (o + j)) (hw : ∀ (j : Nat) u, us[j]? = some u → w.cell? ⟨b, o + j, none⟩ = some u)
      (hv : ∀ (j : Nat) x u, cs[j]? = some x → us[j]? = some u → VR g w x u) : VR g w (.elt cs) (.pointer (some ⟨b, o, none⟩))
  | agg {cs : List TV} {us : List Value} (hl : us.length = cs.length) (hv : ∀ (j : Nat) x u, cs[j]? = some x → us[j]? = some u → VR g w x u) : VR g w (.agg cs) (.agg us.toArray)
  | tup {cs : List TV} {us : List Value} (hl : us.length = cs.length) (hv : ∀ (j : Nat) x u, cs[j]? = some x → us[j]? = some u → VR g w x u) : VR g w (.tup cs) (.tuple us.toArray)
  | fn {f : Fn} {cs ds : List TV} {us vs : List Value} (hl : us.length = cs.length) (hv : ∀ (j : Nat) x u, cs[j]? = some x → us[j]? = some u → VR g w x u)
      (hl2 : vs.length = ds.length) (hv2 : ∀ (j : Nat) x u, ds[j]? = some x → vs[j]? = some u → VR g w x u) : VR g w (.fn f cs ds) (.func f us.toArray vs.toArray)
  | ifc {t : TypeId} {x : TV} {u : Value} (h : VR g w x u) : VR g w (.ifc t x) (.iface t u)

def VRs (g : Gh) (w : World) (cs : List TV) (us : List Value) : Prop := us.length = cs.length ∧ ∀ (j : Nat) x u, cs[j]? = some x → us[j]? = some u → VR g w x u

/-- what became of memory -/
structure Evo (g : Gh) (w : World) (g' : Gh) (w' : World) : Prop where
  os : w'.os = w.os
  tape : w'.tape = w.tape
  output : w'.output = w.output
  size : w.heap.size ≤ w'.heap.size
  obj : ∀ id b, g.obj id = some b → g'.obj id = some b
  st : ∀ b o, g.st b o → g'.st b o ∧ w'.cell? ⟨b, o, none⟩ = w.cell? ⟨b, o, none⟩
  fr : g'.fr = g.fr
  frb : ∀ b, g.fr b → w'.heap[b]? = w.heap[b]?
  frs : ∀ b o, g.fr b → g'.st b o → g.st b o
  tail : ∀ k x, g.tail k = some x → ∃ x', g'.tail k = some x' ∧ (x' = x ∨ x.e < x'.e) ∧ x'.size = x.size ∧ x'.lo = x.lo
  tnew : ∀ k x, g.tail k = none → g'.tail k = some x → w.heap.size ≤ x.lo
  csz : ∀ b, b < w.heap.size → csize w' b = csize w b

theorem Evo.refl (g : Gh) (w : World) : Evo g w g w :=
  ⟨rfl, rfl, rfl, Nat.le_refl _, fun _ _ h => h, fun _ _ h => ⟨h, rfl⟩, rfl, fun _ _ => rfl, fun _ _ _ h => h, fun _ x h => ⟨x, h, .inl rfl, rfl, rfl⟩, (fun _ _ h h' => nomatch (h.symm.trans h')), fun _ _ => rfl⟩
theorem Evo.trans {g g' g'' : Gh} {w w' w'' : World} (h : Evo g w g' w') (k : Evo g' w' g'' w'') : Evo g w g'' w'' where
  csz := fun b hb => (k.csz b (Nat.lt_of_lt_of_le hb h.size)).trans (h.csz b hb)
  os := k.os.trans h.os
  tape := k.tape.trans h.tape
  output := k.output.trans h.output
  size := Nat.le_trans h.size k.size
  obj := fun id b hb => k.obj id b (h.obj id b hb)
  st := fun b o hs => ⟨(k.st b o (h.st b o hs).1).1, (k.st b o (h.st b o hs).1).2.trans (h.st b o hs).2⟩
  fr := k.fr.trans h.fr
  frb := fun b hb => (k.frb b (h.fr ▸ hb)).trans (h.frb b hb)
  frs := fun b o hb hs => h.frs b o hb (k.frs b o (h.fr ▸ hb) hs)
  tail := fun j x hx => by
    obtain ⟨x', h1, h2, hs1, hl1⟩ := h.tail j x hx
    obtain ⟨x'', h3, h4, hs2, hl2⟩ := k.tail j x' h1
    refine ⟨x'', h3, ?_, hs2.trans hs1, hl2.trans hl1⟩
    rcases h2 with rfl | h2
    · exact h4
    · rcases h4 with rfl | h4
      · exact .inr h2
      · exact .inr (by omega)
  tnew := fun j x hn hx => by
    cases hg : g'.tail j with
    | none => exact Nat.le_trans h.size (k.tnew j x hg hx)
    | some x' =>
      have h1 := h.tnew j x' hn hg
      obtain ⟨x'', h3, _, _, hl⟩ := k.tail j x' hg
      rw [hx] at h3; injection h3 with h3; subst h3
      rw [hl]; exact h1

theorem TokOk.mono {g g' : Gh} {w w' : World} (h : Evo g w g' w') {tok : Tok} {size n b o c : Nat} (k : TokOk g tok size n b o c) : TokOk g' tok size n b o c := by
  cases tok with
  | none => trivial
  | full => exact k
  | tail j e =>
    obtain ⟨x, hx, he, hz, hh, ho⟩ := k
    obtain ⟨x', hx', hc, hsz, _⟩ := h.tail j x hx
    refine ⟨x', hx', ?_, hsz.trans hz, ?_, ?_⟩
    · rcases hc with rfl | hc
      · exact he
      · omega
    · rcases hc with rfl | hc
      · exact hh
      · intro e1; omega
    · rcases hc with rfl | hc
      · exact ho
      · intro e1; omega
theorem NilTok.mono {g g' : Gh} {w w' : World} (h : Evo g w g' w') {tok : Tok} {size : Nat} (k : NilTok g tok size) : NilTok g' tok size := by
  cases tok with
  | none => trivial
  | full => trivial
  | tail j e =>
    obtain ⟨x, hx, he, hz⟩ := k
    obtain ⟨x', hx', hc, hsz, _⟩ := h.tail j x hx
    refine ⟨x', hx', ?_, hsz.trans hz⟩
    rcases hc with rfl | hc
    · exact he
    · omega

/-- what was known of a value is known -/
theorem VR.mono {g g' : Gh} {w w' : World} (h : Evo g w g' w') {x : TV} {u : Value} (k : VR g w x u) : VR g' w' x u := by
  induction k with
  | val v => exact .val v
  | dead v => exact .dead v
  | ptr hb => exact .ptr (h.obj _ _ hb)
  | sl hb => exact .sl (h.obj _ _ hb)
  | map hb => exact .map (h.obj _ _ hb)
  | yld hb => exact .yld (h.obj _ _ hb)
  | row hb hl hn hm hc => exact .row (h.obj _ _ hb) (Nat.lt_of_lt_of_le hl h.size) hn hm (hc.trans (h.csz _ hl).symm)
  | nil hk => exact .nil (hk.mono h)
  | vec hn hc hz ht hl h1 hs hw _ ih => exact .vec hn hc hz (ht.mono h) hl h1 (fun j hj => (h.st _ _ (hs j hj)).1) (fun j u hu => by
      rw [(h.st _ _ (hs j (by rw [← hl]; exact (List.getElem?_eq_some_iff.1 hu).1))).2]; exact hw j u hu) ih
  | elt hl h1 hs hw _ ih => exact .elt hl h1 (fun j hj => (h.st _ _ (hs j hj)).1) (fun j u hu => by
      rw [(h.st _ _ (hs j (by rw [← hl]; exact (List.getElem?_eq_some_iff.1 hu).1))).2]; exact hw j u hu) ih
  | agg hl _ ih => exact .agg hl ih
  | tup hl _ ih => exact .tup hl ih
  | fn hl _ hl2 _ ih ih2 => exact .fn hl ih hl2 ih2
  | ifc _ ih => exact .ifc ih

theorem VRs.mono {g g' : Gh} {w w' : World} (h : Evo g w g' w') {xs : List TV} {us : List Value} (k : VRs g w xs us) : VRs g' w' xs us := ⟨k.1, fun j x u hx hu => (k.2 j x u hx hu).mono h⟩
theorem VRs.nil (g : Gh) (w : World) : VRs g w [] [] := ⟨rfl, fun j x u h => by simp at h⟩
theorem VRs.cons {g : Gh} {w : World} {x : TV} {u : Value} {xs : List TV} {us : List Value} (h : VR g w x u) (k : VRs g w xs us) : VRs g w (x :: xs) (u :: us) :=
  ⟨by simp [k.1], fun j y v hy hv => by
    cases j with
    | zero => simp at hy hv; subst hy hv; exact h
    | succ j => simp at hy hv; exact k.2 j y v hy hv⟩
theorem VRs.app {g : Gh} {w : World} {xs ys : List TV} {us vs : List Value} (h : VRs g w xs us) (k : VRs g w ys vs) : VRs g w (xs ++ ys) (us ++ vs) := by
  refine ⟨by simp [h.1, k.1], fun j x u hx hu => ?_⟩
  rcases Nat.lt_or_ge j xs.length with hj | hj
  · rw [List.getElem?_append_left hj] at hx
    rw [List.getElem?_append_left (by rw [h.1]; exact hj)] at hu
    exact h.2 j x u hx hu
  · rw [List.getElem?_append_right hj] at hx
    rw [List.getElem?_append_right (by rw [h.1]; exact hj), h.1] at hu
    exact k.2 _ x u hx hu
theorem VRs.take {g : Gh} {w : World} {xs : List TV} {us : List Value} (h : VRs g w xs us) (n : Nat) : VRs g w (xs.take n) (us.take n) := by
  refine ⟨by simp [h.1], fun j x u hx hu => ?_⟩
  rw [List.getElem?_take] at hx hu
  split at hx
  · rename_i hj; rw [if_pos hj] at hu; exact h.2 j x u hx hu
  · cases hx
theorem VRs.drop {g : Gh} {w : World} {xs : List TV} {us : List Value} (h : VRs g w xs us) (n : Nat) : VRs g w (xs.drop n) (us.drop n) := by
  refine ⟨by simp [h.1], fun j x u hx hu => ?_⟩
  rw [List.getElem?_drop] at hx hu
  exact h.2 _ x u hx hu
theorem VRs.set {g : Gh} {w : World} {xs : List TV} {us : List Value} (h : VRs g w xs us) (i : Nat) {x : TV} {u : Value} (k : VR g w x u) : VRs g w (xs.set i x) (us.set i u) := by
  refine ⟨by simp [h.1], fun j y v hy hv => ?_⟩
  rw [List.getElem?_set] at hy hv
  split at hy
  · rename_i hj
    subst hj
    rw [if_pos rfl] at hv
    split at hy
    · split at hv
      · injection hy with hy; injection hv with hv; subst hy hv; exact k
      · cases hv
    · cases hy
  · rename_i hj; rw [if_neg hj] at hv; exact h.2 j y v hy hv
theorem VRs.vals (g : Gh) (w : World) (us : List Value) : VRs g w (us.map .val) us := ⟨by simp, fun j x u hx hu => by
  rw [List.getElem?_map, hu] at hx
  simp at hx; subst hx; exact .val u⟩
theorem VRs.at {g : Gh} {w : World} {xs : List TV} {us : List Value} (h : VRs g w xs us) {j : Nat} {x : TV} (hx : xs[j]? = some x) : ∃ u, us[j]? = some u ∧ VR g w x u := by
  have hj := (List.getElem?_eq_some_iff.1 hx).1
  have : us[j]? = some (us[j]'(by rw [h.1]; exact hj)) := List.getElem?_eq_getElem _
  exact ⟨_, this, h.2 j x _ hx this⟩

/-! ### Inversion -/
theorem VR.val_inv {g : Gh} {w : World} {v u : Value} (h : VR g w (.val v) u) : u = v := by cases h; rfl
theorem VR.ptr_inv {g : Gh} {w : World} {id off : Nat} {u : Value} (h : VR g w (.ptr id off) u) : ∃ b, g.obj id = some b ∧ u = .pointer (some ⟨b, off, none⟩) := by cases h with | ptr h => exact ⟨_, h, rfl⟩
theorem VR.agg_inv {g : Gh} {w : World} {cs : List TV} {u : Value} (h : VR g w (.agg cs) u) : ∃ us, u = .agg us.toArray ∧ VRs g w cs us := by cases h with | agg hl hv => exact ⟨_, rfl, hl, hv⟩
theorem VR.tup_inv {g : Gh} {w : World} {cs : List TV} {u : Value} (h : VR g w (.tup cs) u) : ∃ us, u = .tuple us.toArray ∧ VRs g w cs us := by cases h with | tup hl hv => exact ⟨_, rfl, hl, hv⟩
theorem VR.elt_inv {g : Gh} {w : World} {cs : List TV} {u : Value} (h : VR g w (.elt cs) u) : ∃ b o us, u = .pointer (some ⟨b, o, none⟩) ∧ VRs g w cs us ∧ (∀ j, j < cs.length → g.st b (o + j)) ∧ (∀ (j : Nat) v, us[j]? = some v → w.cell? ⟨b, o + j, none⟩ = some v) ∧ ∀ u ∈ us, u.oneCell' = true := by
  cases h with | elt hl h1 hs hw hv => exact ⟨_, _, _, rfl, ⟨hl, hv⟩, hs, hw, h1⟩
theorem VR.sl_inv {g : Gh} {w : World} {id off n cap : Nat} {u : Value} (h : VR g w (.sl id off n cap) u) : ∃ b, g.obj id = some b ∧ u = .slice (some ⟨b, off, none⟩) n cap := by cases h with | sl h => exact ⟨_, h, rfl⟩
theorem VR.row_inv {g : Gh} {w : World} {size id off n : Nat} {u : Value} (h : VR g w (.row size id off n) u) : ∃ b c, g.obj id = some b ∧ b < w.heap.size ∧ n ≤ c ∧ c ≤ maxLen ∧ (off + c) * size = csize w b ∧ u = .slice (some ⟨b, off * size, none⟩) n c := by cases h with | row h1 h2 h3 h4 h5 => exact ⟨_, _, h1, h2, h3, h4, h5, rfl⟩
theorem VR.yld_inv {g : Gh} {w : World} {id : Nat} {u : Value} (h : VR g w (.yld id) u) : ∃ b, g.obj id = some b ∧ u = .func (.yield b) #[] #[] := by cases h with | yld h => exact ⟨_, h, rfl⟩
theorem VR.map_inv {g : Gh} {w : World} {id : Nat} {u : Value} (h : VR g w (.map id) u) : ∃ b, g.obj id = some b ∧ u = .map (some b) := by cases h with | map h => exact ⟨_, h, rfl⟩
theorem VR.fn_inv {g : Gh} {w : World} {f : Fn} {cs ds : List TV} {u : Value} (h : VR g w (.fn f cs ds) u) : ∃ us vs, u = .func f us.toArray vs.toArray ∧ VRs g w cs us ∧ VRs g w ds vs := by
  cases h with | fn hl hv hl2 hv2 => exact ⟨_, _, rfl, ⟨hl, hv⟩, ⟨hl2, hv2⟩⟩
theorem VR.ifc_inv {g : Gh} {w : World} {t : TypeId} {x : TV} {u : Value} (h : VR g w (.ifc t x) u) : ∃ v, u = .iface t v ∧ VR g w x v := by cases h with | ifc h => exact ⟨_, rfl, h⟩
/-- a slice that stays: nil, or in memory -/
theorem VR.vec_inv {g : Gh} {w : World} {size : Nat} {es : List (List TV)} {tok : Tok} {u : Value} (h : VR g w (.vec size es tok) u) :
    (u = .slice none 0 0 ∧ es = [] ∧ NilTok g tok size) ∨ ∃ b o c us, u = .slice (some ⟨b, o, none⟩) es.length c ∧ es.length ≤ c ∧ c ≤ maxLen ∧ (∀ e ∈ es, e.length = size) ∧ TokOk g tok size es.length b o c ∧ VRs g w es.flatten us ∧ (∀ j, j < es.flatten.length → g.st b (o + j)) ∧ (∀ (j : Nat) v, us[j]? = some v → w.cell? ⟨b, o + j, none⟩ = some v) ∧ ∀ u ∈ us, u.oneCell' = true := by
  cases h with
  | nil h => exact .inl ⟨rfl, rfl, h⟩
  | vec hn hc hz ht hl h1 hs hw hv => exact .inr ⟨_, _, _, _, rfl, hn, hc, hz, ht, ⟨hl, hv⟩, hs, hw, h1⟩
theorem VR.mk_vec {g : Gh} {w : World} {size n : Nat} {es : List (List TV)} {tok : Tok} {b o c : Nat} {us : List Value} (hn : n = es.length) (hc : n ≤ c) (hm : c ≤ maxLen) (hz : ∀ e ∈ es, e.length = size) (ht : TokOk g tok size n b o c) (hv : VRs g w es.flatten us)
    (hs : ∀ j, j < es.flatten.length → g.st b (o + j)) (hw : ∀ (j : Nat) u, us[j]? = some u → w.cell? ⟨b, o + j, none⟩ = some u) (h1 : ∀ u ∈ us, u.oneCell' = true) : VR g w (.vec size es tok) (.slice (some ⟨b, o, none⟩) n c) := by
  subst hn; exact .vec hc hm hz ht hv.1 h1 hs hw hv.2
theorem flatten_len {size : Nat} : ∀ {es : List (List TV)}, (∀ e ∈ es, e.length = size) → es.flatten.length = es.length * size
  | [], _ => by simp
  | e :: es, h => by
    have h1 := flatten_len (es := es) (fun e he => h e (List.mem_cons_of_mem _ he))
    have h2 := h e List.mem_cons_self
    simp only [List.flatten_cons, List.length_append, h1, h2, List.length_cons, Nat.succ_mul]; omega
theorem flatten_drop {size : Nat} : ∀ {es : List (List TV)} (k : Nat), (∀ e ∈ es, e.length = size) → k ≤ es.length → es.flatten.drop (k * size) = (es.drop k).flatten
  | es, 0, _, _ => by simp
  | [], k + 1, _, h => by simp at h
  | e :: es, k + 1, hz, h => by
    have h2 := hz e List.mem_cons_self
    have e1 : (k + 1) * size = e.length + k * size := by rw [h2, Nat.succ_mul]; omega
    rw [List.flatten_cons, e1, ← List.drop_drop, List.drop_left, List.drop_succ_cons]
    exact flatten_drop k (fun e he => hz e (List.mem_cons_of_mem _ he)) (by simpa using h)
theorem flatten_take {size : Nat} : ∀ {es : List (List TV)} (k : Nat), (∀ e ∈ es, e.length = size) → k ≤ es.length → es.flatten.take (k * size) = (es.take k).flatten
  | es, 0, _, _ => by simp
  | [], k + 1, _, h => by simp at h
  | e :: es, k + 1, hz, h => by
    have h2 := hz e List.mem_cons_self
    have e1 : (k + 1) * size = e.length + k * size := by rw [h2, Nat.succ_mul]; omega
    rw [List.flatten_cons, e1, List.take_length_add_append, List.take_succ_cons, List.flatten_cons]
    congr 1
    exact flatten_take k (fun e he => hz e (List.mem_cons_of_mem _ he)) (by simpa using h)
theorem VR.mk_elt {g : Gh} {w : World} {cs : List TV} {b o : Nat} {us : List Value} (hv : VRs g w cs us)
    (hs : ∀ j, j < cs.length → g.st b (o + j)) (hw : ∀ (j : Nat) u, us[j]? = some u → w.cell? ⟨b, o + j, none⟩ = some u) (h1 : ∀ u ∈ us, u.oneCell' = true) : VR g w (.elt cs) (.pointer (some ⟨b, o, none⟩)) :=
  .elt hv.1 h1 hs hw hv.2
theorem VR.mk_agg {g : Gh} {w : World} {cs : List TV} {us : List Value} (h : VRs g w cs us) : VR g w (.agg cs) (.agg us.toArray) := .agg h.1 h.2
theorem VR.mk_tup {g : Gh} {w : World} {cs : List TV} {us : List Value} (h : VRs g w cs us) : VR g w (.tup cs) (.tuple us.toArray) := .tup h.1 h.2

/-! ### Objects and worlds -/
inductive VO where
  | cells (cs : List TV)
  | row (cs : List TV)
  | map (sh : KS) (look : Value → Option TV) (es : List (Value × TV × Nat)) (ck : Nat)
  | iter (m : TV) (since : Nat) (seen : List Nat) (stepped : Nat)
  | siter (s : ByteArray) (pos : Nat)
  | loop (st : LoopState) (pend : Option Code) (σ : List TV) (ps : Array Tmp) (asg body : Code)
  | defd
  | gone
structure VT where
  objs : List VO
  tails : List (Nat × Nat × Bool)
def VO.live : VO → Bool
  | .gone => false
  | _ => true
/-- an object in block b -/
def OR (g : Gh) (w : World) (b : Nat) : VO → Prop
  | .cells cs => ∃ us t, w.heap[b]? = some (.cells us.toArray t (0, 0)) ∧ VRs g w cs us ∧ ∀ u ∈ us, u.oneCell' = true
  | .row cs => ∃ (us : List Value) (t : TypeId), w.heap[b]? = some (.cells us.toArray t (0, 0)) ∧ cs.length ≤ us.length ∧ VRs g w cs (us.take cs.length) ∧ ∀ u ∈ us, u.oneCell' = true
  | .map sh look es ck => ∃ ms, w.heap[b]? = some (.map ms ck) ∧ ms.toList.map (·.key) = es.map (·.1) ∧ VRs g w (es.map (·.2.1)) (ms.toList.map (·.val)) ∧ ms.toList.map (·.born) = es.map (·.2.2) ∧ (∀ e ∈ es, sh.fits e.1 = true) ∧ (es.map (·.1)).Nodup ∧ ∀ k, sh.fits k = true → look k = mget k es
  | .iter m since seen stepped => ∃ mb, w.heap[b]? = some (.mapIter mb since seen.toArray stepped) ∧ VR g w m (.map mb)
  | .siter s pos => w.heap[b]? = some (.stringIter s pos)
  | .loop st pend σ ps asg body => ∃ (us : List Value) (fn db : Nat), w.heap[b]? = some (.loop { state := st, pending := pend, fn := fn, tmps := us.toArray, params := ps, assign := asg, body := body, defers := db }) ∧ VRs g w σ us
  | .defd => w.heap[b]? = some (.deferred (some []))
  | .gone => True
def Tl.in (x : Tl) (b o : Nat) : Prop := x.b = b ∧ x.f ≤ o ∧ o < x.lim
/-- block b belongs to a tail -/
def Tl.has (x : Tl) (b : Nat) : Prop := (∃ o, x.in b o) ∨ (x.own = true ∧ 0 < x.e ∧ x.b = b)
/-- a tail's own block -/
def OwnT (g : Gh) (w : World) (x : Tl) : Prop := x.own = true → 0 < x.e →
  (∃ cur, w.heap[x.b]? = some (.cells cur x.ty (0, 0)) ∧ cur.size = x.lim) ∧ x.f = x.e * x.size ∧ x.f ≤ x.lim ∧ x.lo ≤ x.b ∧ ¬ g.fr x.b
theorem csize_cells {w : World} {b : Nat} {us : Array Value} {t : TypeId} {fz : Nat × Nat} (h : w.heap[b]? = some (.cells us t fz)) : csize w b = us.size := by unfold csize; rw [h]
/-- the world is as the walk knows it -/
structure RW (g : Gh) (T : VT) (w : World) : Prop where
  obj : ∀ (id : Nat) o, T.objs[id]? = some o → o.live = true → ∃ b, g.obj id = some b ∧ OR g w b o ∧ ¬ g.fr b ∧ ∀ o, ¬ g.st b o
  inj : ∀ (i j : Nat) oi oj b, T.objs[i]? = some oi → oi.live = true → T.objs[j]? = some oj → oj.live = true → g.obj i = some b → g.obj j = some b → i = j
  out : ∀ id, T.objs.length ≤ id → g.obj id = none
  st : ∀ b o, g.st b o → (w.cell? ⟨b, o, none⟩).isSome = true
  fr : ∀ b, g.fr b → b < w.heap.size
  tl : ∀ (k : Nat) p, T.tails[k]? = some p → ∃ x, g.tail k = some x ∧ x.e = p.1 ∧ (x.size = p.2.1 ∧ x.born = p.2.2) ∧ ∀ b o, x.in b o → (w.cell? ⟨b, o, none⟩).isSome = true ∧ w.frozen? ⟨b, o, none⟩ = false ∧ ¬ g.st b o ∧ ¬ g.fr b
  tout : ∀ k, T.tails.length ≤ k → g.tail k = none
  tinj : ∀ (i j : Nat) x y b, g.tail i = some x → g.tail j = some y → x.has b → y.has b → i = j
  tobj : ∀ (i : Nat) oi b (k : Nat) x, T.objs[i]? = some oi → oi.live = true → g.obj i = some b → g.tail k = some x → ¬ x.has b
  own : ∀ (k : Nat) x, g.tail k = some x → OwnT g w x
  own0 : ∀ (k : Nat) x, g.tail k = some x → (x.own = true ∨ x.born = true) → x.e = 0 → x.lim ≤ x.f ∧ (x.born = true → x.own = true)
  tlo : ∀ (k : Nat) x, g.tail k = some x → x.lo ≤ w.heap.size
end Go.Proofs.YtapfboldkkodkaaGreatDoor
