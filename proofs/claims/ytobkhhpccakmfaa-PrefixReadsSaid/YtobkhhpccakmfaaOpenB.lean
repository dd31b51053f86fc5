/- What the reading of a slice of bytes says of its value. -/
import Derived.Test.YtobkhhpccakmfaaOpen
import Derived.Deep.Slices
namespace Go.Proofs.Ytobkhhpccakmfaa
open Go.ChangeShapes Go.WideShapes Go.ChangeAt Go.RowKit Go.Joins Go.Deep

theorem slice_spot {P : Program} {w : World} {r : Reach} {b0 : Nat} {t e : TypeId} {a : Addr} {n c : Nat} (ht : P.underlying t = some (.slice e)) (hv : Value.okWide P w r b0 t (.slice (some a) n c)) : a.spot = none := by
  simp only [Value.okWide, ht, Cell.okWide, Cell.ok] at hv
  exact hv.2.2.2.1
theorem open_bytes {H : Type} {enc : TypeId × Value → H} {w : World} {r : Reach} {b0 base : Nat} {v : Value} {d : DataW H} {p : List MemPlace}
    (hv : Value.okWide Try.prog w r b0 34 v) (h : DataW.Trod enc Try.prog w base (fun _ => true) true 34 v d p) :
    ∃ L : List Nat, (∀ x ∈ L, x < 256) ∧ Rd w 1 v L.length (u8s L) := by
  obtain ⟨q, n, c, rfl⟩ := okWide_slice Try.underlying34 hv
  obtain ⟨fuel, h⟩ := h
  rcases open_slice1 Try.underlying34 (by kernel_rfl) h with ⟨hc, _⟩ | ⟨a, len, cap, m, k, V, D, Pl, hc, hb, hl, hm, hmm, hx, hall⟩
  · simp only [Value.cells, List.cons.injEq, Value.slice.injEq, and_true] at hc
    obtain ⟨rfl, rfl, rfl⟩ := hc
    exact ⟨[], by simp, Rd.nil _ _⟩
  · simp only [Value.cells, List.cons.injEq, Value.slice.injEq, and_true] at hc
    obtain ⟨rfl, rfl, rfl⟩ := hc
    simp only [if_true] at hmm
    subst hmm
    have hs := slice_spot Try.underlying34 hv
    obtain ⟨b, o, sp⟩ := a
    simp only at hs
    subst hs
    have each : ∀ i, i < n → ∃ x : Nat, x < 256 ∧ V i = .int .u8 (x : Int) := by
      intro i hi
      obtain ⟨_, h2⟩ := hall i (by omega)
      obtain ⟨z, e0, _, wz⟩ := DataW.trod_int Try.underlying5 h2
      simp at e0
      obtain ⟨x, rfl, hx⟩ := wf_u8 wz
      exact ⟨x, hx, e0⟩
    obtain ⟨X, hX⟩ := choose_lt each
    refine ⟨(List.range n).map X, ?_, ?_⟩
    · intro x hx
      obtain ⟨i, hi, rfl⟩ := List.mem_map.1 hx
      exact (hX i (List.mem_range.1 hi)).1
    · rw [List.length_map, List.length_range]
      refine ⟨by simp [u8s], some ⟨b, o, none⟩, _, rfl, hl, hm, (fun h => by cases h), fun ad ha => ?_⟩
      injection ha with ha
      subst ha
      refine ⟨rfl, fun j u hu => ?_⟩
      have hj : j < n := by
        have := (List.getElem?_eq_some_iff.1 hu).1
        simpa [u8s] using this
      have hu' : u = .int .u8 (X j : Int) := by
        simp [u8s, hj] at hu
        exact hu.symm
      have hcell := (hall j (by omega)).1
      rw [(hX j hj).2, ← hu'] at hcell
      have hadd : (⟨b, o, none⟩ : Addr).add j = ⟨b, o + j, none⟩ := by unfold Addr.add; split <;> simp_all
      rwa [hadd] at hcell
end Go.Proofs.Ytobkhhpccakmfaa
