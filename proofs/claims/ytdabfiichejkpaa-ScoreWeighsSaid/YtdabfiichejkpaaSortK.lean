/- A row of structs and the sort's form of it. -/
import Derived.Test.YtdabfiichejkpaaBlock
import Derived.Shelf.GgSortFunc.InsertionK
namespace Go.Proofs.Ytdabfiichejkpaa
open Go.RowKit Go.Sort
variable {α : Type} [Inhabited α]

theorem flat_at (enc : α → List Value) (k : Nat) (hk : ∀ x, (enc x).length = k) : ∀ (l : List α) (i c : Nat), i < l.length → c < k → (l.flatMap enc)[i * k + c]? = (enc l[i]!)[c]?
  | [], i, c, h, _ => by simp at h
  | x :: r, 0, c, _, hc => by
    rw [List.flatMap_cons, List.getElem?_append_left (by rw [hk]; omega)]
    simp
  | x :: r, i + 1, c, h, hc => by
    rw [List.flatMap_cons, List.getElem?_append_right (by rw [hk, Nat.add_mul]; omega), hk, show (i + 1) * k + c - k = i * k + c by rw [Nat.add_mul]; omega,
      flat_at enc k hk r i c (by simpa using h) hc]
    simp
omit [Inhabited α] in
theorem flat_len (enc : α → List Value) (k : Nat) (hk : ∀ x, (enc x).length = k) (l : List α) : (l.flatMap enc).length = l.length * k := by
  induction l with
  | nil => simp
  | cons x r ih => rw [List.flatMap_cons, List.length_append, hk, ih, List.length_cons, Nat.add_mul]; omega
theorem flatK_list (enc : α → List Value) (k : Nat) (hk : ∀ x, (enc x).length = k) (d : Array α) (t : Nat) (ht : t < d.size * k) : (d.toList.flatMap enc)[t]? = some (flatK enc k d)[t]! := by
  have k0 : 0 < k := by rcases Nat.eq_zero_or_pos k with h | h; · subst h; simp at ht
                        · exact h
  have hi : t / k < d.size := (Nat.div_lt_iff_lt_mul k0).2 ht
  have hc : t % k < k := Nat.mod_lt _ k0
  have e : t / k * k + t % k = t := by rw [Nat.mul_comm]; exact Nat.div_add_mod t k
  have h := flat_at enc k hk d.toList (t / k) (t % k) (by simpa using hi) hc
  rw [e] at h
  rw [h, get_flatK enc k d t ht]
  have e2 : d.toList[t / k]! = d[t / k]! := by simp [hi]
  rw [e2, getElem!_pos (enc d[t / k]!) (t % k) (by rw [hk]; exact hc), List.getElem?_eq_getElem]

theorem sortK_own (enc : α → List Value) (k : Nat) (hk : ∀ x, (enc x).length = k) {w : World} {base : Nat} {e : TypeId} {v : Value} (d : Array α) (h : w.ownsRow base e k v d.size (d.toList.flatMap enc)) (hn : 0 < d.size) :
    ∃ g cap, v = .slice (some ⟨g, 0, none⟩) d.size cap ∧ base ≤ g ∧ g < w.heap.size ∧ HoldsK enc k w g 0 d := by
  obtain ⟨hl, hx⟩ := h
  rcases hx with ⟨_, h0⟩ | ⟨g, cap, cur, rfl, hb, hg, hnc, hcm, hcs, htk⟩
  · omega
  · refine ⟨g, cap, rfl, hb, (Array.getElem?_eq_some_iff.1 hg).1, ?_⟩
    intro j hj
    rw [size_flatK] at hj
    have h1 := flatK_list enc k hk d j hj
    rw [← htk] at h1
    rw [List.getElem?_take, if_pos hj] at h1
    constructor
    · unfold World.cell?
      simp only [hg, Nat.zero_add]
      simpa using h1
    · unfold World.frozen?
      simp [hg]

theorem sortK_after (enc : α → List Value) (k : Nat) (hk : ∀ x, (enc x).length = k) {w : World} {g n cap : Nat} {d d' : Array α} {os : Array Obj} (hH : HoldsK enc k w g 0 d) (hs : d'.size = d.size) (hg : g < w.heap.size) (hcap : d.size ≤ cap) (hmax : cap ≤ maxLen) :
    Gb g w (sortWorldK enc k w g 0 n d' os) ∧ Rd (sortWorldK enc k w g 0 n d' os) k (.slice (some ⟨g, 0, none⟩) d.size cap) d.size (d'.toList.flatMap enc) := by
  have h1 : HoldsK enc k (sortWorldK enc k w g 0 n d' os) g 0 d' := by
    unfold sortWorldK
    exact holdsK_grow enc k _ os g 0 d' (by rw [putRowK, size_putRow]; exact hg) (holdsK_putRowK enc k (Sort.ahead w n) g 0 d d' (holdsK_ahead enc k w n g 0 d hH) hs)
  constructor
  · unfold sortWorldK putRowK putRow mapBlock Gb
    refine ⟨rfl, rfl, rfl, by simp [grow], fun i hi hne => ?_⟩
    have hne' : g ≠ i := fun e => hne (by rw [e])
    simp only [grow]
    rw [Array.getElem?_append_left (by simpa using hi), Array.getElem?_modify, if_neg hne']
    rfl
  · refine ⟨by rw [flat_len enc k hk]; simp [hs], _, cap, rfl, hcap, hmax, (fun h => by cases h), fun ad ha => ?_⟩
    injection ha with ha
    subst ha
    refine ⟨rfl, fun j u hu => ?_⟩
    have hj : j < d'.size * k := by
      have := (List.getElem?_eq_some_iff.1 hu).1
      rw [flat_len enc k hk] at this
      simpa using this
    have h2 := (h1 j (by rw [size_flatK]; exact hj)).1
    rw [flatK_list enc k hk d' j hj] at hu
    injection hu with hu
    rw [← hu]
    exact h2
end Go.Proofs.Ytdabfiichejkpaa
