/- copy into a row of the function's own. For any program. -/
import Derived.Test.YtapfboldkkodkaaGreatDoorVo
namespace Go.Proofs.YtapfboldkkodkaaGreatDoor
open Go.RowKit

section
variable {P : Program} {g : Gh} {T : VT} {w : World}
/-- cells of a row are turned -/
theorem rowPut (r : RW g T w) {ro id off b : Nat} {cs new : List TV} {vs : List Value} (hid : T.objs[id]? = some (.row cs)) (hb : g.obj id = some b) (k : VRs g w new vs) (ho : ∀ v ∈ vs, v.oneCell' = true) (h2 : off + new.length ≤ cs.length) (hr : ro ≤ id) :
    ∃ w', (storeCells ⟨b, off, none⟩ vs).run P w = .ok () w' ∧ Evo g w g w' ∧ RW g { T with objs := T.objs.set id (.row (setCs cs off new)) } w' ∧ Fix ro g T w { T with objs := T.objs.set id (.row (setCs cs off new)) } w' := by
  obtain ⟨b', h4, ⟨us, ty, h5, h6, h7, h8⟩, _⟩ := r.obj id _ hid rfl
  rw [hb] at h4; injection h4 with h4; subst h4
  have hl : vs.length = new.length := k.1
  have hrun := run_storeCells_at (P := P) b off ty vs 0 us.toArray w h5 (by simp at hl ⊢; omega) ho
  simp only [Nat.add_zero, hl] at hrun
  have hsr := setRow_heap w b _ (us.take off ++ vs ++ us.drop (off + new.length)).toArray ty (0, 0) h5
  have hll : (us.take off ++ vs ++ us.drop (off + new.length)).length = us.length := by simp at hl ⊢; omega
  have hcs : csize (w.setRow b (us.take off ++ vs ++ us.drop (off + new.length)).toArray) b = csize w b := by
    rw [csize_cells hsr, csize_cells h5, List.size_toArray, List.size_toArray, hll]
  have hoth : ∀ c, c ≠ b → (w.setRow b (us.take off ++ vs ++ us.drop (off + new.length)).toArray).heap[c]? = w.heap[c]? := fun c hc => setRow_other w b c _ hc
  obtain ⟨_, e0⟩ := r.setObj hid rfl hb (o' := .gone) (w' := w.setRow b (us.take off ++ vs ++ us.drop (off + new.length)).toArray) ⟨rfl, rfl, rfl⟩ (by simp) hoth hcs (fun h => by cases h)
  have k2 := ((((h7.take off).app k).app (h7.drop (off + new.length)))).mono e0
  have ht : (us.take off ++ vs ++ us.drop (off + new.length)).take (setCs cs off new).length = (us.take cs.length).take off ++ vs ++ (us.take cs.length).drop (off + new.length) := by
    have hsl : (setCs cs off new).length = cs.length := by simp [setCs]; omega
    rw [hsl]
    apply List.ext_getElem?
    intro j
    rw [List.getElem?_take]
    have hA : (us.take off).length = off := by simp; omega
    have hA2 : ((us.take cs.length).take off).length = off := by simp; omega
    rcases Nat.lt_or_ge j cs.length with hj | hj
    · rw [if_pos hj, List.append_assoc, List.append_assoc, List.getElem?_append (l₁ := us.take off), List.getElem?_append (l₁ := (us.take cs.length).take off), hA, hA2]
      split
      · rename_i hjo
        simp [hjo, hj]
      · rw [List.getElem?_append, List.getElem?_append]
        split
        · rfl
        · simp only [List.getElem?_drop, List.getElem?_take]
          rw [if_pos (by omega)]
    · rw [if_neg (by omega)]
      symm
      apply List.getElem?_eq_none
      simp at hl ⊢; omega
  have o2 : ∀ v ∈ us.take off ++ vs ++ us.drop (off + new.length), v.oneCell' = true := by
    intro v hv
    simp only [List.mem_append] at hv
    rcases hv with (hv | hv) | hv
    · exact h8 v (List.mem_of_mem_take hv)
    · exact ho v hv
    · exact h8 v (List.mem_of_mem_drop hv)
  obtain ⟨r', e'⟩ := r.setObj hid rfl hb (o' := .row (setCs cs off new)) (w' := w.setRow b (us.take off ++ vs ++ us.drop (off + new.length)).toArray) ⟨rfl, rfl, rfl⟩ (by simp) hoth hcs
    (fun _ => ⟨_, ty, hsr, by rw [hll]; simp [setCs]; omega, by rw [ht]; exact k2, o2⟩)
  have hl : vs.length = new.length := k.1
  exact ⟨_, by simpa using hrun, e', r', setObj_fix r hid rfl hb hr hoth⟩
def vcopyR (P : Program) (ro : Nat) (T : VT) (t tx : TypeId) (d x : TV) : Option (TV × VT) := match P.underlying t, d with
  | some (.slice e), .row sz id off m => match P.info? e, T.objs[id]? with
    | some i, some (.row cs) => match rowsR T i.size x with
      | some es => bif Nat.beq i.size sz && Nat.ble es.length m && Nat.ble (off * sz + es.flatten.length) cs.length && Nat.ble ro id && isSl (P.underlying tx) then
          some (.val (.int .i64 es.length), { T with objs := T.objs.set id (.row (setCs cs (off * sz) es.flatten)) }) else none
      | none => none
    | _, _ => none
  | _, _ => none
theorem vcopyR_ok (r : RW g T w) {ro : Nat} {t tx ty : TypeId} {d x y : TV} {ud ux : Value} {T' : VT} (h : vcopyR P ro T t tx d x = some (y, T')) (hd : VR g w d ud) (hx : VR g w x ux) :
    ∃ u g' w', (Builtin.copy_ #[t, tx] ty #[ud, ux]).run P w = .ok u w' ∧ VR g' w' y u ∧ Evo g w g' w' ∧ RW g' T' w' ∧ Fix ro g T w T' w' := by
  unfold vcopyR at h
  split at h
  · rename_i e sz id off m ht
    split at h
    · rename_i i cs hi hid
      split at h
      · rename_i es hes
        cases hb0 : (Nat.beq i.size sz && Nat.ble es.length m && Nat.ble (off * sz + es.flatten.length) cs.length && Nat.ble ro id && isSl (P.underlying tx)) with
        | false => rw [hb0] at h; cases h
        | true =>
          rw [hb0] at h
          simp only [Bool.and_eq_true] at hb0
          obtain ⟨⟨⟨⟨b1, b2⟩, b3⟩, b4⟩, b5⟩ := hb0
          have b1 := Nat.eq_of_beq_eq_true b1
          subst b1
          injection h with h; injection h with e1 e2; subst e1 e2
          obtain ⟨news, sr, k2, z2⟩ := rowsR_ok (P := P) r hes hx (isSl_ok b5)
          obtain ⟨b, c, f1, f2, f3, f4, f5, rfl⟩ := hd.row_inv
          obtain ⟨w', k1, k3, k4, k5⟩ := rowPut (P := P) r hid f1 k2 sr.one (Nat.le_of_ble_eq_true b3) (Nat.le_of_ble_eq_true b4)
          have hmin : Nat.min es.length m = es.length := Nat.min_eq_left (Nat.le_of_ble_eq_true b2)
          refine ⟨_, g, w', ?_, .val _, k3, k4, k5⟩
          simp [Builtin.copy_, run_underlying ht, sizeOf, typeInfo, hi, sr.len, hmin, sr.cells, k1, goInt]
      · cases h
    · cases h
  · cases h
end
end Go.Proofs.YtapfboldkkodkaaGreatDoor
