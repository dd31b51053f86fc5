/- More operations on what a walk knows, continued: slices, made rows, stores, maps, strings. For any program. -/
import Derived.Test.YtapfboldkkodkaaGreatDoorVn
namespace Go.Proofs.YtapfboldkkodkaaGreatDoor
open Go.RowKit

section
variable {P : Program} {g : Gh} {T : VT} {w : World}
/-! ### Slices of rows; lengths -/
def hiOf (n : Nat) : Option TV → Option Nat
  | none => some n
  | some y => natOf y
def vsliceR (P : Program) (t : TypeId) (x : TV) (lo hi mx : Option TV) : Option TV := match x, mx with
  | .row size id off n, none => match P.underlying t with
    | some (.slice e) => match P.info? e with
      | some inf => match lowOf lo, hiOf n hi with
        | some l, some h => bif Nat.beq inf.size size && Nat.ble l h && Nat.ble h n then (match l with
          | 0 => some (.row size id off h)
          | _ + 1 => bif Nat.beq l h then some (.vec size [] .none) else some (.row size id (off + l) (h - l))) else none
        | _, _ => none
      | none => none
    | _ => none
  | _, _ => none
theorem vsliceR_ok {t : TypeId} {x y : TV} {lo hi mx : Option TV} {u : Value} {ul uh um : Option Value} (h : vsliceR P t x lo hi mx = some y) (hx : VR g w x u) (hl : BR g w lo ul) (hh : BR g w hi uh) (hm : BR g w mx um) :
    Looks0 P g w (Instr.sliceAt t u ul uh um) y := by
  unfold vsliceR at h
  split at h
  · rename_i size id off n
    split at h
    · rename_i e hu
      split at h
      · rename_i inf hinf
        split at h
        · rename_i l hv h1 h2
          cases hb : (Nat.beq inf.size size && Nat.ble l hv && Nat.ble hv n) with
          | false => rw [hb] at h; cases h
          | true =>
            rw [hb] at h
            simp only [Bool.and_eq_true] at hb
            obtain ⟨⟨b1, b2⟩, b3⟩ := hb
            have b1 := Nat.eq_of_beq_eq_true b1
            have b2 := Nat.le_of_ble_eq_true b2
            have b3 := Nat.le_of_ble_eq_true b3
            subst b1
            obtain ⟨b, c, k1, k2, k3, k4, k5, rfl⟩ := hx.row_inv
            have hum : um = none := by cases um <;> simp [BR] at hm; rfl
            subst hum
            have hrun : ∀ w' : World, (Instr.sliceAt t (.slice (some ⟨b, off * inf.size, none⟩) n c) ul uh none).run P w' = .ok (.slice (if c = l then some ⟨b, off * inf.size, none⟩ else some ⟨b, off * inf.size + l * inf.size, none⟩) (hv - l) (c - l)) w' := by
              intro w'
              have := bounds_run (P := P) (isS := true) (len := n) (cap := c) h1 (by cases hi <;> first | exact h2 | simp [hiOf]) hl hh b2 (by omega) w'
              simp only [Instr.sliceAt, Instr.slice, Sem.run_bind, run_underlying hu, Result.andThen_ok, this, run_size hinf, Sem.run_pure, Option.map_some, Addr.add_none]
            cases l with
            | zero =>
              simp only [cond_true] at h
              injection h with h; subst h
              refine .of_ok ?_ hrun
              have e1 : (if c = 0 then some (⟨b, off * inf.size, none⟩ : Addr) else some ⟨b, off * inf.size + 0 * inf.size, none⟩) = some ⟨b, off * inf.size, none⟩ := by simp
              rw [e1, Nat.sub_zero, Nat.sub_zero]
              exact .row k1 k2 (by omega) k4 k5
            | succ l' =>
              simp only [cond_true] at h
              cases hq : Nat.beq (l' + 1) hv with
              | true =>
                rw [hq] at h
                have hq := Nat.eq_of_beq_eq_true hq
                injection h with h; subst h
                refine .of_ok ?_ hrun
                rw [← hq, Nat.sub_self]
                split
                · exact .mk_vec (us := []) (by simp) (by omega) (by omega) (by simp) trivial (by simpa using VRs.nil g w) (by simp) (by simp) (by simp)
                · exact .mk_vec (us := []) (by simp) (by omega) (by omega) (by simp) trivial (by simpa using VRs.nil g w) (by simp) (by simp) (by simp)
              | false =>
                rw [hq] at h
                have hq := Nat.ne_of_beq_eq_false hq
                injection h with h; subst h
                refine .of_ok ?_ hrun
                rw [if_neg (by omega), ← Nat.add_mul]
                exact .row k1 k2 (by omega) (by omega) (by rw [← k5]; congr 1; omega)
        · cases h
      · cases h
    · cases h
  · cases h
/-- nil[0:0] -/
def vsliceN (P : Program) (t : TypeId) (x : TV) (lo hi mx : Option TV) : Option TV := match x, mx with
  | .val (.slice none 0 0), none => match P.underlying t with
    | some (.slice e) => match P.info? e, lowOf lo, hiOf 0 hi with
      | some _, some 0, some 0 => some (.val (.slice none 0 0))
      | _, _, _ => none
    | _ => none
  | _, _ => none
theorem vsliceN_ok {t : TypeId} {x y : TV} {lo hi mx : Option TV} {u : Value} {ul uh um : Option Value} (h : vsliceN P t x lo hi mx = some y) (hx : VR g w x u) (hl : BR g w lo ul) (hh : BR g w hi uh) (hm : BR g w mx um) :
    Looks0 P g w (Instr.sliceAt t u ul uh um) y := by
  unfold vsliceN at h
  split at h
  · split at h
    · rename_i e hu
      split at h
      · rename_i inf hinf h1 h2
        injection h with h; subst h
        rw [hx.val_inv]
        have hum : um = none := by cases um <;> simp [BR] at hm; rfl
        subst hum
        refine .of_ok (.val _) fun w' => ?_
        have := bounds_run (P := P) (isS := true) (len := 0) (cap := 0) h1 (by cases hi <;> first | exact h2 | simp [hiOf]) hl hh (Nat.le_refl _) (by omega) w'
        simp only [Instr.sliceAt, Instr.slice, Sem.run_bind, run_underlying hu, Result.andThen_ok, this, run_size hinf, Sem.run_pure, Option.map_none, if_true, Nat.sub_zero]
      · cases h
    · cases h
  · cases h
def vlenR (P : Program) (t : TypeId) (x : TV) : Option TV := match x, P.underlying t with
  | .row _ _ _ n, some (.slice _) => some (.val (.int .i64 n))
  | _, _ => none
theorem vlenR_ok {t ty : TypeId} {x y : TV} {u : Value} (h : vlenR P t x = some y) (hx : VR g w x u) : Looks0 P g w (Builtin.len_ #[t] ty #[u]) y := by
  unfold vlenR at h
  split at h
  · rename_i hu
    injection h with h; subst h
    obtain ⟨b, c, _, _, _, _, _, rfl⟩ := hx.row_inv
    exact .of_ok (.val _) fun w' => by simp [Builtin.len_, run_underlying hu, goInt]
  · cases h
def vcapN (P : Program) (t : TypeId) (x : TV) : Option TV := match x, P.underlying t with
  | .val (.slice _ _ c), some (.slice _) => some (.val (.int .i64 c))
  | _, _ => none
theorem vcapN_ok {t ty : TypeId} {x y : TV} {u : Value} (h : vcapN P t x = some y) (hx : VR g w x u) : Looks0 P g w (Builtin.cap_ #[t] ty #[u]) y := by
  unfold vcapN at h
  split at h
  · rename_i hu
    injection h with h; subst h
    rw [hx.val_inv]
    exact .of_ok (.val _) fun w' => by simp [Builtin.cap_, run_underlying hu, goInt]
  · cases h
/-! ### A made row -/
theorem makeSlice_cells {z : Array Value} {n m : Nat} (h : n ≤ m) : (madeCells z m).toList.take n = zeros z n := by
  unfold madeCells zeros
  apply List.ext_getElem?
  intro j
  simp only [List.getElem?_take, Array.toList_map, List.getElem?_map, Array.getElem?_toList]
  by_cases hj : j < n
  · rw [if_pos hj]
    simp [hj, Nat.lt_of_lt_of_le hj h]
  · rw [if_neg hj]
    simp [hj]
def vmakeR (P : Program) (T : VT) (t : TypeId) (x y : TV) : Option (TV × VT) := match x, y, P.underlying t with
  | .val (.int _ l), .val (.int _ c), some (.slice e) => match P.info? e with
    | some i => match i.zero with
      | some z => bif decide (0 ≤ l) && decide (l ≤ c) && decide ((i.bytes : Int) * c ≤ 281474976710656) && decide (c ≤ 140737488355328) && z.cells.toList.all Value.oneCell' && decide (0 < z.cells.size) then
          some (.row i.size T.objs.length 0 l.toNat, T.newRow ((zeros z.cells (l.toNat * i.size)).map .val)) else none
      | none => none
    | none => none
  | _, _, _ => none
theorem vmakeR_ok (r : RW g T w) {t : TypeId} {x y res : TV} {u v : Value} {T' : VT} (h : vmakeR P T t x y = some (res, T')) (hx : VR g w x u) (hy : VR g w y v) : Does P g T w (Instr.makeSlice t u v) res T' ∧ T'.objs.take T.objs.length = T.objs := by
  unfold vmakeR at h
  split at h
  · rename_i kl l kc c e hu
    split at h
    · rename_i i hi
      split at h
      · rename_i z hz
        cases hb : (decide (0 ≤ l) && decide (l ≤ c) && decide ((i.bytes : Int) * c ≤ 281474976710656) && decide (c ≤ 140737488355328) && z.cells.toList.all Value.oneCell' && decide (0 < z.cells.size)) with
        | false => rw [hb] at h; cases h
        | true =>
          rw [hb] at h
          simp only [Bool.and_eq_true, decide_eq_true_eq] at hb
          obtain ⟨⟨⟨⟨⟨h0, h1⟩, h2⟩, h3⟩, h4⟩, h5⟩ := hb
          injection h with h; injection h with e1 e2; subst e1 e2
          rw [hx.val_inv, hy.val_inv]
          refine ⟨?_, newRow_take _ _⟩
          have hrun := run_make (P := P) w t e i z hu hi hz kl kc l c h0 h1 h2 (by omega)
          have hgr : Gr w (w.alloc (.cells (madeCells z.cells (c.toNat * i.size)) e)) := (Gr.refl w).alloc _
          have hnew := heap_alloc_new w (.cells (madeCells z.cells (c.toNat * i.size)) e)
          have hlc : l.toNat * i.size ≤ c.toNat * i.size := Nat.mul_le_mul_right _ (by omega)
          have hlen : ((zeros z.cells (l.toNat * i.size)).map TV.val).length = l.toNat * i.size := by simp [zeros]
          have ro : OR g (w.alloc (.cells (madeCells z.cells (c.toNat * i.size)) e)) w.heap.size (.row ((zeros z.cells (l.toNat * i.size)).map .val)) := by
            refine ⟨(madeCells z.cells (c.toNat * i.size)).toList, e, by simpa using hnew, ?_, ?_, ?_⟩
            · rw [hlen]; simp [size_madeCells]; exact hlc
            · rw [hlen, makeSlice_cells hlc]; exact VRs.vals g _ _
            · intro u hu
              rw [Array.mem_toList_iff] at hu
              obtain ⟨j, hj, rfl⟩ := Array.getElem_of_mem hu
              have : (madeCells z.cells (c.toNat * i.size))[j] = z.cells[j % z.cells.size]'(Nat.mod_lt _ h5) := by
                simp only [madeCells, Array.getElem_map, Array.getElem_range]
                exact getElem!_pos z.cells (j % z.cells.size) (Nat.mod_lt _ h5)
              rw [this]
              exact List.all_eq_true.1 h4 _ (Array.mem_toList_iff.2 (Array.getElem_mem _))
          generalize w.alloc (.cells (madeCells z.cells (c.toNat * i.size)) e) = w' at *
          have r1 := (r.gr hgr).addObj (r.fresh (Nat.le_refl _)) (o := .row ((zeros z.cells (l.toNat * i.size)).map .val)) rfl ro
          have e2 := (Evo.of_gr r hgr).trans (Evo.addObj (w := w') (b := w.heap.size) (r.out T.objs.length (Nat.le_refl _)))
          have hlt : w.heap.size < w'.heap.size := (Array.getElem?_eq_some_iff.1 hnew).1
          have hcz : csize w' w.heap.size = c.toNat * i.size := by rw [csize_cells hnew, size_madeCells]
          refine ⟨_, _, _, hrun, ?_, e2, r1, Same.of_gr r hgr⟩
          have := VR.row (g := g.addObj T.objs.length w.heap.size) (w := w') (size := i.size) (id := T.objs.length) (off := 0) (n := l.toNat) (b := w.heap.size) (c := c.toNat) (by simp [Gh.addObj]) hlt (by omega) (by unfold maxLen; omega) (by rw [hcz, Nat.zero_add])
          rw [Nat.zero_mul] at this
          exact this
      · cases h
    · cases h
  · cases h
/-! ### A store into a row -/
def vstoreR (P : Program) (ro : Nat) (T : VT) (t : TypeId) (a x : TV) : Option (TV × VT) := match a with
  | .ptr id off => match T.objs[id]?, cellsOf x, P.info? t with
    | some (.row cs), some new, some i => bif Nat.beq i.size new.length && Nat.ble (off + new.length) cs.length && new.all isCell && Nat.ble ro id then some (.val undef, { T with objs := T.objs.set id (.row (setCs cs off new)) }) else none
    | _, _, _ => none
  | _ => none
theorem vstoreR_ok (r : RW g T w) {ro : Nat} {t : TypeId} {a x y : TV} {ua u : Value} {T' : VT} (h : vstoreR P ro T t a x = some (y, T')) (ha : VR g w a ua) (hx : VR g w x u) :
    ∃ g' w', (Instr.storeAt t ua u).run P w = .ok () w' ∧ VR g' w' y undef ∧ Evo g w g' w' ∧ RW g' T' w' ∧ Fix ro g T w T' w' := by
  unfold vstoreR at h
  split at h
  · rename_i id off
    split at h
    · rename_i cs new i hid hc hi
      cases hb : (Nat.beq i.size new.length && Nat.ble (off + new.length) cs.length && new.all isCell && Nat.ble ro id) with
      | false => rw [hb] at h; cases h
      | true =>
        rw [hb] at h
        simp only [Bool.and_eq_true] at hb
        obtain ⟨⟨⟨b1, b2⟩, h3⟩, b4⟩ := hb
        have h1 := Nat.eq_of_beq_eq_true b1
        have h2 := Nat.le_of_ble_eq_true b2
        have hr := Nat.le_of_ble_eq_true b4
        injection h with h; injection h with e1 e2; subst e1 e2
        obtain ⟨b, hb, rfl⟩ := ha.ptr_inv
        obtain ⟨b', h4, ⟨us, ty, h5, h6, h7, h8⟩, _⟩ := r.obj id _ hid rfl
        rw [hb] at h4; injection h4 with h4; subst h4
        have k := cellsOf_ok hc hx
        have ho := cells_one h3 k
        have hl : u.cells.toList.length = new.length := k.1
        have hrun := run_storeCells_at (P := P) b off ty u.cells.toList 0 us.toArray w h5 (by simp at hl ⊢; omega) ho
        simp only [Nat.add_zero, hl] at hrun
        have hsr := setRow_heap w b _ (us.take off ++ u.cells.toList ++ us.drop (off + new.length)).toArray ty (0, 0) h5
        have hll : (us.take off ++ u.cells.toList ++ us.drop (off + new.length)).length = us.length := by simp at hl ⊢; omega
        have hcs : csize (w.setRow b (us.take off ++ u.cells.toList ++ us.drop (off + new.length)).toArray) b = csize w b := by
          rw [csize_cells hsr, csize_cells h5, List.size_toArray, List.size_toArray, hll]
        have hoth : ∀ c, c ≠ b → (w.setRow b (us.take off ++ u.cells.toList ++ us.drop (off + new.length)).toArray).heap[c]? = w.heap[c]? := fun c hc => setRow_other w b c _ hc
        obtain ⟨_, e0⟩ := r.setObj hid rfl hb (o' := .gone) (w' := w.setRow b (us.take off ++ u.cells.toList ++ us.drop (off + new.length)).toArray) ⟨rfl, rfl, rfl⟩ (by simp) hoth hcs (fun h => by cases h)
        have k2 := ((((h7.take off).app k).app (h7.drop (off + new.length)))).mono e0
        have ht : (us.take off ++ u.cells.toList ++ us.drop (off + new.length)).take (setCs cs off new).length = (us.take cs.length).take off ++ u.cells.toList ++ (us.take cs.length).drop (off + new.length) := by
          have hsl : (setCs cs off new).length = cs.length := by simp [setCs]; omega
          rw [hsl]
          apply List.ext_getElem?
          intro j
          rw [List.getElem?_take]
          have hA : (us.take off).length = off := by simp; omega
          have hA2 : ((us.take cs.length).take off).length = off := by simp; omega
          rcases Nat.lt_or_ge j cs.length with hj | hj
          · rw [if_pos hj, List.append_assoc, List.append_assoc, List.getElem?_append (l₁ := us.take off), List.getElem?_append (l₁ := (us.take cs.length).take off), hA, hA2]
            split
            · rename_i hjo
              simp [hjo, hj]
            · rw [List.getElem?_append, List.getElem?_append]
              split
              · rfl
              · simp only [List.getElem?_drop, List.getElem?_take]
                rw [if_pos (by omega)]
          · rw [if_neg (by omega)]
            symm
            apply List.getElem?_eq_none
            simp at hl ⊢; omega
        have o2 : ∀ v ∈ us.take off ++ u.cells.toList ++ us.drop (off + new.length), v.oneCell' = true := by
          intro v hv
          simp only [List.mem_append] at hv
          rcases hv with (hv | hv) | hv
          · exact h8 v (List.mem_of_mem_take hv)
          · exact ho v hv
          · exact h8 v (List.mem_of_mem_drop hv)
        obtain ⟨r', e'⟩ := r.setObj hid rfl hb (o' := .row (setCs cs off new)) (w' := w.setRow b (us.take off ++ u.cells.toList ++ us.drop (off + new.length)).toArray) ⟨rfl, rfl, rfl⟩ (by simp) hoth hcs
          (fun _ => ⟨_, ty, hsr, by rw [hll]; simp [setCs]; omega, by rw [ht]; exact k2, o2⟩)
        refine ⟨g, _, ?_, .val _, e', r', setObj_fix r hid rfl hb hr hoth⟩
        have hs : u.cells.size = i.size := by rw [h1, ← hl]; simp
        simp only [Instr.storeAt, Instr.sureAddr, storeVar, Sem.run_bind, Sem.run_pure, Result.andThen_ok, run_size hi, hs]
        simpa using hrun
    · cases h
  · cases h
/-! ### Bytes and strings -/
def bytesOf : List (List TV) → Option (List Int)
  | [] => some []
  | [.val (.int .u8 z)] :: r => (bytesOf r).map (z :: ·)
  | _ :: _ => none
def bstrZ (l : List Int) : ByteArray := ⟨(l.map fun n => UInt8.ofNat n.toNat).toArray⟩
theorem bytesOf_ok : ∀ {es : List (List TV)} {l : List Int} {us : List Value}, bytesOf es = some l → VRs g w es.flatten us → us = l.map (Value.int .u8)
  | [], l, us, h, k => by
    injection h with h; subst h
    exact List.eq_nil_of_length_eq_zero (by simpa using k.1)
  | e :: es, l, us, h, k => by
    unfold bytesOf at h
    split at h
    · rename_i heq; cases heq
    · rename_i z r heq
      injection heq with h1 h2
      subst h1 h2
      simp only [Option.map_eq_some_iff] at h
      obtain ⟨l', h, rfl⟩ := h
      simp only [List.flatten_cons, List.cons_append, List.nil_append] at k
      match us, k with
      | [], k => have := k.1; simp at this
      | u :: us, k =>
        have h3 := (k.2 0 _ _ rfl rfl).val_inv
        subst h3
        have k' : VRs g w _ us := ⟨by simpa using k.1, fun j x u hx hu => k.2 (j + 1) x u hx hu⟩
        rw [bytesOf_ok h k']; rfl
    · cases h
theorem bstrZ_fold (l : List Int) : l.foldl (fun r n => r.push (UInt8.ofNat n.toNat)) ByteArray.empty = bstrZ l := by
  have key : ∀ (l : List Int) (s : ByteArray), l.foldl (fun r n => r.push (UInt8.ofNat n.toNat)) s = ⟨s.data ++ (l.map fun n => UInt8.ofNat n.toNat).toArray⟩ := by
    intro l
    induction l with
    | nil => intro s; simp
    | cons n l ih =>
      intro s
      rw [List.foldl_cons, ih]
      congr 1
      simp [ByteArray.push]
  rw [key]
  simp [bstrZ, ByteArray.empty, ByteArray.emptyWithCapacity]
  rfl
def vconvS (P : Program) (T : VT) (s d : TypeId) (x : TV) : Option TV := match P.underlying s, P.underlying d with
  | some (.slice e), some .string => match P.underlying e with
    | some (.int .u8) => match x with
      | .val _ => none
      | x => match rowsR T 1 x with
        | some es => (bytesOf es).map fun l => .val (.string (bstrZ l))
        | none => none
    | _ => none
  | _, _ => none
end
end Go.Proofs.YtapfboldkkodkaaGreatDoor
