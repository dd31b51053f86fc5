/- Cells of structs and slices of numbers, as arguments are. For any program. -/
import Derived.Test.YtapfboldkkodkaaGreatDoorLeaf
import Derived.Deep.Slices
namespace Go.Proofs.YtapfboldkkodkaaGreatDoor
open Go.ChangeShapes Go.WideShapes Go.ChangeAt Go.RowKit Go.Joins Go.Deep

section
variable {H : Type} {enc : TypeId × Value → H} {P : Program} {w : World} {base : Nat} {spare : Nat → Bool} {held : Bool}
theorem cell_spot {r : Reach} {b0 : Nat} {t e : TypeId} {a : Addr} {n c : Nat} (ht : P.underlying t = some (.slice e)) (hv : Cell.okWide P w r b0 t (.slice (some a) n c)) : a.spot = none := by
  simp only [ht, Cell.okWide, Cell.ok] at hv
  exact hv.2.2.2.1
theorem row_cell {r : Reach} {b0 : Nat} {t : TypeId} {fs : Array Field} {cs : Array Value} (ht : P.underlying t = some (.struct fs)) (hv : Value.okWide P w r b0 t (.agg cs)) {ts : List TypeId} (hts : P.cellTypes P.depth t = some ts) (hl : cs.size = ts.length) {i : Nat} {u : TypeId} (hi : ts[i]? = some u) {v : Value} (hc : cs[i]? = some v) : Cell.okWide P w r b0 u v := by
  simp only [Value.okWide, ht] at hv
  obtain ⟨cs', h1, _, ts', h2, _, h3⟩ := hv
  injection h1 with h1; subst h1
  rw [hts] at h2; injection h2 with h2; subst h2
  obtain ⟨u', h4, h5⟩ := h3 i v hc
  have hlt := (List.getElem?_eq_some_iff.1 hi).1
  rw [Nat.mod_eq_of_lt hlt, hi] at h4
  injection h4 with h4; subst h4
  exact h5
theorem flat1 {α : Type} (f : α → TV) : ∀ l : List α, (l.map fun i => [f i]).flatten = l.map f
  | [] => rfl
  | a :: l => by simp [flat1 f l]
theorem vr_ints {r : Reach} {b0 m : Nat} {t e : TypeId} {k : IntKind} {u : Value} {y : DataW H × List MemPlace} (ht : P.underlying t = some (.slice e)) (he : P.underlying e = some (.int k)) (hc : P.cellsOf e = 1) (hok : Cell.okWide P w r b0 t u)
    (h : DataW.trod enc P w base spare held m t [u] = some y) : ∃ l : List (List TV), VR (topG w) w (.vec 1 l .none) u ∧ ∀ x ∈ l, ∃ z, x = [.val (.int k z)] ∧ (Lit.int k z).wf = true := by
  rcases open_slice1 ht hc h with ⟨hcs, _⟩ | ⟨a, len, cap, m', n', V, D, Pl, hcs, hb, hl, hm, hmm, hx, hall⟩
  · injection hcs with hcs; subst hcs
    exact ⟨[], .nil trivial, fun x h => by cases h⟩
  · injection hcs with hcs; subst hcs
    have hs := cell_spot ht hok
    obtain ⟨b, o, sp⟩ := a
    simp only at hs
    subst hs
    have hlm : len ≤ m' := by rw [hmm]; split <;> omega
    have each : ∀ i, i < len → ∃ z, V i = .int k z ∧ (Lit.int k z).wf = true := fun i hi => by
      obtain ⟨_, h2⟩ := hall i (by omega)
      obtain ⟨z, e0, wz⟩ := leaf_int he h2
      exact ⟨z, e0, wz⟩
    have cellj : ∀ j, j < len → w.cell? ⟨b, o + j, none⟩ = some (V j) := fun j hj => by
      have h1 := (hall j (by omega)).1
      have h2 : (⟨b, o, none⟩ : Addr).add j = ⟨b, o + j, none⟩ := by
        cases j <;> simp [Addr.add]
      rw [h2] at h1
      exact h1
    refine ⟨(List.range len).map fun i => [.val (V i)], ?_, ?_⟩
    · have hlen : ((List.range len).map fun i => [TV.val (V i)]).length = len := by simp
      have hfl := flat1 (fun i => TV.val (V i)) (List.range len)
      have key : VR (topG w) w (.vec 1 ((List.range len).map fun i => [TV.val (V i)]) .none) (.slice (some ⟨b, o, none⟩) ((List.range len).map fun i => [TV.val (V i)]).length cap) := by
        refine .vec (us := (List.range len).map V) (by rw [hlen]; exact hl) hm ?_ trivial (by rw [hfl]; simp) ?_ ?_ ?_ ?_
        · intro x hx
          obtain ⟨i, _, rfl⟩ := List.mem_map.1 hx
          rfl
        · intro u hu
          obtain ⟨i, hi, rfl⟩ := List.mem_map.1 hu
          obtain ⟨z, hz, _⟩ := each i (List.mem_range.1 hi)
          rw [hz]; rfl
        · intro j hj
          rw [hfl] at hj
          simp at hj
          show (w.cell? ⟨b, o + j, none⟩).isSome = true
          rw [cellj j hj]; rfl
        · intro j u hu
          rw [List.getElem?_map] at hu
          rcases Nat.lt_or_ge j len with hj | hj
          · rw [List.getElem?_range hj] at hu
            injection hu with hu; subst hu
            exact cellj j hj
          · rw [List.getElem?_eq_none (by simpa using hj)] at hu; cases hu
        · intro j x u hx hu
          rw [hfl, List.getElem?_map] at hx
          rw [List.getElem?_map] at hu
          rcases Nat.lt_or_ge j len with hj | hj
          · rw [List.getElem?_range hj] at hx hu
            injection hx with hx; subst hx
            injection hu with hu; subst hu
            exact .val _
          · rw [List.getElem?_eq_none (by simpa using hj)] at hu; cases hu
      rw [hlen] at key
      exact key
    · intro x hx
      obtain ⟨i, hi, rfl⟩ := List.mem_map.1 hx
      obtain ⟨z, hz, wz⟩ := each i (List.mem_range.1 hi)
      exact ⟨z, by rw [hz], wz⟩
end
theorem cond_tt (b : Bool) : cond b True True := by cases b <;> trivial
end Go.Proofs.YtapfboldkkodkaaGreatDoor
