/- More operations on what a walk knows, continued: strings of bytes, maps. For any program. -/
import Derived.Test.YtapfboldkkodkaaGreatDoorVo
namespace Go.Proofs.YtapfboldkkodkaaGreatDoor
open Go.RowKit

section
variable {P : Program} {g : Gh} {T : VT} {w : World}
/-- a slice's cells, in every world that is as this one -/
theorem rowsR_cells (r : RW g T w) {size : Nat} {x : TV} {u : Value} {es : List (List TV)} (hnv : ∀ v, x ≠ .val v) (h : rowsR T size x = some es) (hx : VR g w x u) :
    (u = .slice none 0 0 ∧ es = []) ∨ ∃ b o c us, u = .slice (some ⟨b, o, none⟩) es.length c ∧ VRs g w es.flatten us ∧ us.length = es.length * size ∧ ∀ w', Same g T w w' → ∀ (j : Nat) v, us[j]? = some v → w'.cell? ⟨b, o + j, none⟩ = some v := by
  cases x <;> simp only [rowsR] at h <;> try (cases h)
  case val v => exact absurd rfl (hnv v)
  case vec sz es' tok =>
    cases hb : Nat.beq sz size with
    | false => rw [hb] at h; cases h
    | true =>
      rw [hb] at h; injection h with h; subst h
      have hsz := Nat.eq_of_beq_eq_true hb
      subst hsz
      rcases hx.vec_inv with ⟨h1, h2, _⟩ | ⟨b, o, c, us, h1, h2, h3, h4, h5, h6, h7, h8, h9⟩
      · exact .inl ⟨h1, h2⟩
      · refine .inr ⟨b, o, c, us, h1, h6, by rw [h6.1, flatten_len h4], fun w' hs j v hv => ?_⟩
        rw [hs.st _ _ (h7 j (by rw [← h6.1]; exact (List.getElem?_eq_some_iff.1 hv).1))]; exact h8 j v hv
  case row sz id off n =>
    split at h
    · rename_i cs hid
      cases hb : (Nat.beq sz size && Nat.ble ((off + n) * size) cs.length) with
      | false => rw [hb] at h; cases h
      | true =>
        rw [hb] at h; injection h with h; subst h
        simp only [Bool.and_eq_true] at hb
        have hsz := Nat.eq_of_beq_eq_true hb.1
        have hle := Nat.le_of_ble_eq_true hb.2
        subst hsz
        obtain ⟨b, c, h1, h2, h3, h4, h5, rfl⟩ := hx.row_inv
        obtain ⟨b', q1, ⟨us, t, q2, q3, q4, q5⟩, _⟩ := r.obj id _ hid rfl
        rw [h1] at q1; injection q1 with q1; subst q1
        rw [Nat.add_mul] at hle
        have hl : ((cs.drop (off * sz)).take (n * sz)).length = n * sz := by simp; omega
        obtain ⟨k1, k2, k3⟩ := chunk_parts hl
        have hv := (q4.drop (off * sz)).take (n * sz)
        rw [k1, k3]
        refine .inr ⟨b, off * sz, c, _, rfl, hv, by rw [hv.1, hl], fun w' hs j v hv => ?_⟩
        rw [World.cell?, hs.obj id _ b hid rfl h1, q2]
        simp only [List.getElem?_take, List.getElem?_drop] at hv
        split at hv
        · split at hv
          · simpa using hv
          · cases hv
        · cases hv
    · cases h
  case sl id off n cap =>
    split at h
    · rename_i cs hid
      cases hb : Nat.ble (off + n * size) cs.length with
      | false => rw [hb] at h; cases h
      | true =>
        rw [hb] at h; injection h with h; subst h
        have hle := Nat.le_of_ble_eq_true hb
        obtain ⟨b, h1, rfl⟩ := hx.sl_inv
        obtain ⟨b', q1, ⟨us, t, q2, q4, q5⟩, _⟩ := r.obj id _ hid rfl
        rw [h1] at q1; injection q1 with q1; subst q1
        have hl : ((cs.drop off).take (n * size)).length = n * size := by simp; omega
        obtain ⟨k1, k2, k3⟩ := chunk_parts hl
        have hv := (q4.drop off).take (n * size)
        rw [k1, k3]
        refine .inr ⟨b, off, cap, _, rfl, hv, by rw [hv.1, hl], fun w' hs j v hv => ?_⟩
        rw [World.cell?, hs.obj id _ b hid rfl h1, q2]
        simp only [List.getElem?_take, List.getElem?_drop] at hv
        split at hv
        · simpa using hv
        · cases hv
    · rename_i cs hid
      cases hb : Nat.ble (off + n * size) cs.length with
      | false => rw [hb] at h; cases h
      | true =>
        rw [hb] at h; injection h with h; subst h
        have hle := Nat.le_of_ble_eq_true hb
        obtain ⟨b, h1, rfl⟩ := hx.sl_inv
        obtain ⟨b', q1, ⟨us, t, q2, q3, q4, q5⟩, _⟩ := r.obj id _ hid rfl
        rw [h1] at q1; injection q1 with q1; subst q1
        have hl : ((cs.drop off).take (n * size)).length = n * size := by simp; omega
        obtain ⟨k1, k2, k3⟩ := chunk_parts hl
        have hv := (q4.drop off).take (n * size)
        rw [k1, k3]
        refine .inr ⟨b, off, cap, _, rfl, hv, by rw [hv.1, hl], fun w' hs j v hv => ?_⟩
        rw [World.cell?, hs.obj id _ b hid rfl h1, q2]
        simp only [List.getElem?_take, List.getElem?_drop] at hv
        split at hv
        · split at hv
          · simpa using hv
          · cases hv
        · cases hv
    · cases h
theorem vconvS_ok (r : RW g T w) {s d : TypeId} {x y : TV} {u : Value} (h : vconvS P T s d x = some y) (hx : VR g w x u) : Looks P g T w (convert s d u) y := by
  unfold vconvS at h
  split at h
  · rename_i e hs hd
    split at h
    · rename_i he
      split at h
      · cases h
      · rename_i hnv
        split at h
        · rename_i es hr
          simp only [Option.map_eq_some_iff] at h
          obtain ⟨l, hb, rfl⟩ := h
          rcases rowsR_cells r hnv hr hx with ⟨rfl, rfl⟩ | ⟨b, o, c, us, rfl, h1, h2, h3⟩
          · injection hb with hb; subst hb
            refine .of_ok (.val _) fun w' => ?_
            rw [run_convert_bytes_string w' s d e none 0 0 hs he hd]
            simp [Conv.bytesToString]; rfl
          · have hus := bytesOf_ok hb h1
            subst hus
            refine ⟨_, .val _, fun w' hsame => ?_⟩
            rw [run_convert_bytes_string w' s d e _ _ _ hs he hd]
            have hl := run_loadCells_list (P := P) w' ⟨b, o, none⟩ (l.map (Value.int .u8)) (fun j v hv => by rw [Addr.add_none]; exact h3 w' hsame j v hv)
            rw [h2, Nat.mul_one] at hl
            rw [run_bytesToString w' _ _ _ l hl, bstrZ_fold]
        · cases h
    · cases h
  · cases h

/-! ### Maps -/
theorem find_ok {kt : TypeId} {sh : KS} (hsh : shapeOf P kt = some sh) {k : Value} (hk : sh.fits k = true) (w : World) : ∀ (ms : List MapEntry) (i : Nat), (∀ e ∈ ms, sh.fits e.key = true) →
    (Instr.findAsking kt k ms i).run P w = .ok ((ms.zipIdx i).findSome? fun p => bif keyEq k p.1.key then some (p.2, p.1.val) else none) w
  | [], i, _ => by simp [Instr.findAsking]
  | e :: ms, i, h => by
    have he := shape_equal hsh hk (h e (by simp)) w
    simp only [Instr.findAsking, Sem.run_bind, he, Result.andThen_ok, List.zipIdx_cons, List.findSome?_cons]
    cases hq : keyEq k e.key with
    | true => simp
    | false =>
      simp only [Bool.false_eq_true, if_false, cond_false]
      exact find_ok hsh hk w ms (i + 1) fun e' he' => h e' (by simp [he'])
theorem findNow_ok {kd : TypeDesc} {sh : KS} {kt : TypeId} (hu : P.underlying kt = some kd) (hsh : shapeOf P kt = some sh) {k : Value} (hk : sh.fits k = true) : ∀ (ms : List MapEntry) (i : Nat), (∀ e ∈ ms, sh.fits e.key = true) →
    ∀ a, Instr.findNow kd k ms i = some a → a = (ms.zipIdx i).findSome? fun p => bif keyEq k p.1.key then some (p.2, p.1.val) else none
  | [], i, _, a, h => by simp [Instr.findNow] at h; simp [h]
  | e :: ms, i, hf, a, h => by
    simp only [List.zipIdx_cons, List.findSome?_cons]
    have hfe := hf e (by simp)
    have hsame : ∀ b, Instr.sameNow kd k e.key = some b → b = keyEq k e.key := by
      intro b hb
      unfold Instr.sameNow at hb
      split at hb
      · split at hb
        · rename_i h1; subst h1; injection hb with hb; subst hb; simp [*, keyEq, cellEq]
        · cases hb
      · injection hb with hb; subst hb; simp [*, keyEq, cellEq]
      · injection hb with hb; subst hb; simp [*, keyEq, cellEq]
      · cases hb
    unfold Instr.findNow at h
    split at h
    · rename_i hs
      have := hsame _ hs
      injection h with h; subst h
      rw [← this]; simp
    · rename_i hs
      have := hsame _ hs
      rw [← this]
      simp only [cond_false]
      exact findNow_ok hu hsh hk ms (i + 1) (fun e' he' => hf e' (by simp [he'])) a h
    · cases h
theorem findKey_ok {kt : TypeId} {sh : KS} (hsh : shapeOf P kt = some sh) {k : Value} (hk : sh.fits k = true) (w : World) (ms : List MapEntry) (h : ∀ e ∈ ms, sh.fits e.key = true) :
    (Instr.findKey kt k ms).run P w = .ok ((ms.zipIdx 0).findSome? fun p => bif keyEq k p.1.key then some (p.2, p.1.val) else none) w := by
  obtain ⟨kd, hu, _⟩ := (shapeAt_ok (P := P) 6 kt sh hsh).isA
  simp only [Instr.findKey, Sem.run_bind, run_underlying hu, Result.andThen_ok]
  split
  · rename_i a ha
    rw [Sem.run_pure, findNow_ok hu hsh hk ms 0 h a ha]
  · exact find_ok hsh hk w ms 0 h
/-- what is found, seen from the entries that the walk knows -/
theorem mget_at {k : Value} : ∀ {es : List (Value × TV × Nat)} {ms : List MapEntry} (i : Nat), ms.map (·.key) = es.map (·.1) → VRs g w (es.map (·.2.1)) (ms.map (·.val)) →
    (mget k es = none ∧ ((ms.zipIdx i).findSome? fun p => bif keyEq k p.1.key then some (p.2, p.1.val) else none) = none) ∨
    ∃ x j v, mget k es = some x ∧ ((ms.zipIdx i).findSome? fun p => bif keyEq k p.1.key then some (p.2, p.1.val) else none) = some (i + j, v) ∧ VR g w x v ∧ (∃ e m, es[j]? = some e ∧ ms[j]? = some m ∧ keyEq k e.1 = true ∧ m.key = e.1 ∧ m.val = v ∧ x = e.2.1) ∧ (∀ j', j' < j → ∀ e, es[j']? = some e → keyEq k e.1 = false)
  | [], [], i, _, _ => .inl ⟨rfl, rfl⟩
  | [], _ :: _, i, h, _ => by simp at h
  | _ :: _, [], i, h, _ => by simp at h
  | e :: es, m :: ms, i, h, hv => by
    simp only [List.map_cons, List.cons.injEq] at h
    obtain ⟨h1, h2⟩ := h
    simp only [List.map_cons] at hv
    have hv0 : VR g w e.2.1 m.val := hv.2 0 _ _ rfl rfl
    have hv1 : VRs g w (es.map (·.2.1)) (ms.map (·.val)) := ⟨by simpa using hv.1, fun j x u hx hu => hv.2 (j + 1) x u hx hu⟩
    simp only [mget, List.zipIdx_cons, List.findSome?_cons, h1]
    cases hq : keyEq k e.1 with
    | true =>
      simp only [cond_true]
      exact .inr ⟨_, 0, _, rfl, rfl, hv0, ⟨e, m, rfl, rfl, hq, h1, rfl, rfl⟩, fun j' hj => by omega⟩
    | false =>
      simp only [cond_false]
      rcases mget_at (i + 1) h2 hv1 with h3 | ⟨x, j, v, h3, h4, h5, ⟨e', m', h6, h7, h8⟩, h9⟩
      · exact .inl h3
      · refine .inr ⟨x, j + 1, v, h3, ?_, h5, ⟨e', m', h6, h7, h8⟩, fun j' hj e2 he2 => ?_⟩
        · rw [h4]; congr 2; omega
        · cases j' with
          | zero => simp at he2; subst he2; exact hq
          | succ j' => exact h9 j' (by omega) e2 he2
end
end Go.Proofs.YtapfboldkkodkaaGreatDoor
