/- append of zeros to nil (slices.Grow). For any program. -/
import Derived.Test.YtapfboldkkodkaaGreatDoorVr
import Derived.Lib.AppendZerosOnto
namespace Go.Proofs.YtapfboldkkodkaaGreatDoor
open Go.RowKit

section
variable {P : Program} {g : Gh} {T : VT} {w : World}
theorem zc_one {z : Value} (hz1 : ∀ u ∈ z.cells.toList, u.oneCell' = true) (n : Nat) : ∀ u ∈ (Builtin.zeroCells z.cells n).toList, u.oneCell' = true := by
  intro u hu
  rw [Array.mem_toList_iff] at hu
  obtain ⟨j, hj, rfl⟩ := Array.getElem_of_mem hu
  rw [size_zeroCells] at hj
  have hzp : 0 < z.cells.size := by
    rcases Nat.eq_zero_or_pos z.cells.size with h0 | h0
    · rw [h0, Nat.mul_zero] at hj; omega
    · exact h0
  have : (Builtin.zeroCells z.cells n)[j]'(by rw [size_zeroCells]; exact hj) = z.cells[j % z.cells.size]'(Nat.mod_lt _ hzp) := by
    simp only [Builtin.zeroCells, Array.getElem_map, Array.getElem_range]
    exact getElem!_pos z.cells (j % z.cells.size) (Nat.mod_lt _ hzp)
  rw [this]
  exact hz1 _ (Array.mem_toList_iff.2 (Array.getElem_mem _))
theorem rowZ_grow (r : RW g T w) {t tn ty e : TypeId} {i : TypeInfo} {z : Value} {kq kn : IntKind} (ht : P.underlying t = some (.slice e)) (htn : P.underlying tn = some (.int kn)) (hi : P.info? e = some i) (hz : i.zero = some z) (hzs : z.cells.size = i.size)
    (hz1 : ∀ u ∈ z.cells.toList, u.oneCell' = true) {k : Nat} (h0 : 0 < k) (hs : 0 < i.size) (hb : k * (i.bytes + 1) ≤ 140737488355328) :
    ∃ u g' w', (Builtin.append_ #[t, tn] ty #[.slice none 0 0, .int kq k]).run P w = .ok u w' ∧ VR g' w' (.row i.size T.objs.length 0 k) u ∧ Evo g w g' w' ∧ RW g' (T.newRow ((Builtin.zeroCells z.cells k).toList.map .val)) w' ∧ Gr w w' := by
  rw [Nat.mul_add, Nat.mul_one] at hb
  have hrun := Go.Lib.run_append_grow_zeros (P := P) w t tn ty e i z kq kn ht htn hi hz none 0 0 [] (run_firstCells_none w.drew i.size 0 0 0) k h0 hs (by omega) (by omega) (by omega) (growslice_fits (bytes := i.bytes) (by omega) (by rw [Nat.zero_add]; omega))
  simp only [Nat.zero_add] at hrun
  have hge := grownCap_ge w k 0 e
  have hle := grownCap_le_maxLen w k 0 e (by unfold maxLen; omega)
  generalize hcap : grownCap w k 0 e = cap at hrun hge hle
  have e0 : ((#[] : Array Value) ++ Builtin.zeroCells z.cells k ++ Builtin.zeroCells z.cells (cap - k)) = ((Builtin.zeroCells z.cells k).toList ++ (Builtin.zeroCells z.cells (cap - k)).toList).toArray := by
    apply Array.ext'
    simp
  have hxs : ((Builtin.zeroCells z.cells k).toList ++ (Builtin.zeroCells z.cells (cap - k)).toList).toArray.size = cap * i.size := by
    simp only [List.size_toArray, List.length_append, Array.length_toList, size_zeroCells, hzs, Nat.sub_mul]
    have : k * i.size ≤ cap * i.size := Nat.mul_le_mul_right _ hge
    omega
  rw [show ([] : List Value).toArray = #[] from rfl, e0] at hrun
  have hgr : Gr w (w.drew.alloc (.cells ((Builtin.zeroCells z.cells k).toList ++ (Builtin.zeroCells z.cells (cap - k)).toList).toArray e)) := (Gr.refl w).drew.alloc _
  have hnew : (w.drew.alloc (.cells ((Builtin.zeroCells z.cells k).toList ++ (Builtin.zeroCells z.cells (cap - k)).toList).toArray e)).heap[w.heap.size]? = some (.cells ((Builtin.zeroCells z.cells k).toList ++ (Builtin.zeroCells z.cells (cap - k)).toList).toArray e) := heap_alloc_new w.drew _
  generalize w.drew.alloc (.cells ((Builtin.zeroCells z.cells k).toList ++ (Builtin.zeroCells z.cells (cap - k)).toList).toArray e) = w' at *
  have e1 := Evo.of_gr r hgr
  have ro : OR g w' w.heap.size (.row ((Builtin.zeroCells z.cells k).toList.map .val)) := by
    refine ⟨_, e, hnew, ?_, ?_, ?_⟩
    · simp
    · rw [List.length_map, List.take_left']
      · exact VRs.vals g w' _
      · rfl
    · intro u hu
      rcases List.mem_append.1 hu with hu | hu
      · exact zc_one hz1 _ u hu
      · exact zc_one hz1 _ u hu
  have r1 := (r.gr hgr).addObj (r.fresh (Nat.le_refl _)) (o := .row ((Builtin.zeroCells z.cells k).toList.map .val)) rfl ro
  have e2 := e1.trans (Evo.addObj (w := w') (b := w.heap.size) (r.out T.objs.length (Nat.le_refl _)))
  have hlt : w.heap.size < w'.heap.size := (Array.getElem?_eq_some_iff.1 hnew).1
  have hcz : csize w' w.heap.size = cap * i.size := by rw [csize_cells hnew]; exact hxs
  refine ⟨_, _, _, hrun, ?_, e2, r1, hgr⟩
  have := VR.row (g := g.addObj T.objs.length w.heap.size) (w := w') (size := i.size) (id := T.objs.length) (off := 0) (n := k) (b := w.heap.size) (c := cap) (by simp [Gh.addObj]) hlt hge hle (by rw [hcz, Nat.zero_add])
  rw [Nat.zero_mul] at this
  exact this
/-- append(nil, make([]T, l)...) -/
def vappZ (P : Program) (T : VT) (t tx : TypeId) (s x : TV) : Option (TV × VT) := match P.underlying t, P.underlying tx, s, x with
  | some (.slice e), some (.int _), .val (.slice none 0 0), .val (.int _ l) => match P.info? e with
    | some i => match i.zero with
      | some z => bif decide (0 < l) && Nat.ble (l.toNat * (i.bytes + 1)) 140737488355328 && decide (z.cells.size = i.size) && decide (0 < i.size) && z.cells.toList.all Value.oneCell' then
          some (.row i.size T.objs.length 0 l.toNat, T.newRow ((Builtin.zeroCells z.cells l.toNat).toList.map .val)) else none
      | none => none
    | none => none
  | _, _, _, _ => none
theorem vappZ_ok (r : RW g T w) {ro : Nat} {t tx ty : TypeId} {s x y : TV} {us ux : Value} {T' : VT} (h : vappZ P T t tx s x = some (y, T')) (hs : VR g w s us) (hx : VR g w x ux) :
    ∃ u g' w', (Builtin.append_ #[t, tx] ty #[us, ux]).run P w = .ok u w' ∧ VR g' w' y u ∧ Evo g w g' w' ∧ RW g' T' w' ∧ Fix ro g T w T' w' := by
  unfold vappZ at h
  split at h
  · rename_i e kn kq l ht htn
    split at h
    · rename_i i hi
      split at h
      · rename_i z hz
        cases hb : (decide (0 < l) && Nat.ble (l.toNat * (i.bytes + 1)) 140737488355328 && decide (z.cells.size = i.size) && decide (0 < i.size) && z.cells.toList.all Value.oneCell') with
        | false => rw [hb] at h; cases h
        | true =>
          rw [hb] at h
          simp only [Bool.and_eq_true, decide_eq_true_eq] at hb
          obtain ⟨⟨⟨⟨b1, b2⟩, b3⟩, b4⟩, b5⟩ := hb
          injection h with h; injection h with h1 h2; subst h1 h2
          rw [hs.val_inv, hx.val_inv]
          have hl : l = ((l.toNat : Nat) : Int) := by omega
          obtain ⟨u, g', w', e1, e2, e3, e4, e5⟩ := rowZ_grow (ty := ty) (kq := kq) r ht htn hi hz b3 (List.all_eq_true.1 b5) (k := l.toNat) (by omega) b4 (Nat.le_of_ble_eq_true b2)
          rw [← hl] at e1
          exact ⟨u, g', w', e1, e2, e3, e4, Fix.of_same (Same.of_gr r e5) (newRow_take _ _)⟩
      · cases h
    · cases h
  · cases h
end
end Go.Proofs.YtapfboldkkodkaaGreatDoor
