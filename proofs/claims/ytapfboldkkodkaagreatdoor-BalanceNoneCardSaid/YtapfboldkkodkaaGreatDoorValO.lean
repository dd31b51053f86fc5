/- Operations that make or turn memory, on what a walk knows: variables, stores, literals, append. For any program. -/
import Derived.Test.YtapfboldkkodkaaGreatDoorValS
namespace Go.Proofs.YtapfboldkkodkaaGreatDoor
open Go.RowKit

section
variable {P : Program} {g : Gh} {T : VT} {w : World}

def isCell : TV → Bool
  | .val v => v.oneCell'
  | .agg _ | .tup _ | .dead => false
  | _ => true
theorem isCell_ok {x : TV} {u : Value} (h : isCell x = true) (k : VR g w x u) : u.oneCell' = true := by
  cases k <;> first | exact h | rfl | cases h
/-- a value's cells -/
def cellsOf : TV → Option (List TV)
  | .agg cs => some cs
  | .val (.agg us) => some (us.toList.map .val)
  | .dead => none
  | x => some [x]
theorem cellsOf_ok {x : TV} {cs : List TV} {u : Value} (h : cellsOf x = some cs) (k : VR g w x u) : VRs g w cs u.cells.toList := by
  cases k with
  | val =>
    cases u <;> simp [cellsOf] at h <;> subst h
    all_goals first
      | exact VRs.vals g w _
      | exact .cons (.val _) (.nil g w)
  | agg hl hv => simp [cellsOf] at h; subst h; exact ⟨by simpa [Value.cells] using hl, fun j x u hx hu => hv j x u hx (by simpa [Value.cells] using hu)⟩
  | dead v => cases h
  | nil hk => simp [cellsOf] at h; subst h; exact .cons (.nil hk) (.nil g w)
  | ptr hk => simp [cellsOf] at h; subst h; exact .cons (.ptr hk) (.nil g w)
  | sl hk => simp [cellsOf] at h; subst h; exact .cons (.sl hk) (.nil g w)
  | map hk => simp [cellsOf] at h; subst h; exact .cons (.map hk) (.nil g w)
  | yld hk => simp [cellsOf] at h; subst h; exact .cons (.yld hk) (.nil g w)
  | row a1 a2 a3 a4 a5 => simp [cellsOf] at h; subst h; exact .cons (.row a1 a2 a3 a4 a5) (.nil g w)
  | vec a1 a2 a3 a4 a5 a6 a7 a8 a9 => simp [cellsOf] at h; subst h; exact .cons (.vec a1 a2 a3 a4 a5 a6 a7 a8 a9) (.nil g w)
  | elt a1 a2 a3 a4 a5 => simp [cellsOf] at h; subst h; exact .cons (.elt a1 a2 a3 a4 a5) (.nil g w)
  | tup a1 a2 => simp [cellsOf] at h; subst h; exact .cons (.tup a1 a2) (.nil g w)
  | fn a1 a2 a3 a4 => simp [cellsOf] at h; subst h; exact .cons (.fn a1 a2 a3 a4) (.nil g w)
  | ifc a1 => simp [cellsOf] at h; subst h; exact .cons (.ifc a1) (.nil g w)
theorem cells_one {cs : List TV} {us : List Value} (h : cs.all isCell = true) (k : VRs g w cs us) : ∀ u ∈ us, u.oneCell' = true := by
  intro u hu
  obtain ⟨j, hj⟩ := List.mem_iff_getElem?.1 hu
  have hlt := (List.getElem?_eq_some_iff.1 hj).1
  have h2 : cs[j]? = some (cs[j]'(by rw [← k.1]; exact hlt)) := List.getElem?_eq_getElem _
  exact isCell_ok (List.all_eq_true.1 h _ (List.getElem_mem _)) (k.2 j _ u h2 hj)

/-- what an operation does -/
def Does (P : Program) (g : Gh) (T : VT) (w : World) (s : Sem Value) (y : TV) (T' : VT) : Prop := ∃ v g' w', s.run P w = .ok v w' ∧ VR g' w' y v ∧ Evo g w g' w' ∧ RW g' T' w' ∧ Same g T w w'
theorem Same.of_gr {g : Gh} {T : VT} {w w' : World} (r : RW g T w) (k : Gr w w') : Same g T w w' := ⟨fun b o h => ((Evo.of_gr r k).st b o h).2, fun id o b h hl hb => by
  obtain ⟨b', h1, h2, _⟩ := r.obj id o h hl
  rw [hb] at h1; injection h1 with h1; subst h1
  exact k.heap (h2.lt hl)⟩

/-- a new variable -/
def vnew (T : VT) (cs : List TV) : Option (TV × VT) := if cs.all isCell then some (.ptr T.objs.length 0, { T with objs := T.objs ++ [.cells cs] }) else none
theorem vnew_ok (r : RW g T w) {t : TypeId} {cs : List TV} {u : Value} {y : TV} {T' : VT} (h : vnew T cs = some (y, T')) (k : VRs g w cs u.cells.toList) : Does P g T w (do pure (.pointer (some (← newVar t u)))) y T' := by
  unfold vnew at h
  split at h
  · rename_i h1
    injection h with h; injection h with e1 e2; subst e1 e2
    have k' : OR g (w.alloc (.cells u.cells t)) w.heap.size (.cells cs) := ⟨u.cells.toList, t, by simpa using heap_alloc_new w _, k.mono (Evo.of_gr r ((Gr.refl w).alloc _)), cells_one h1 k⟩
    obtain ⟨g', r', e', hb, _⟩ := r.new (.cells u.cells t) rfl k'
    exact ⟨_, g', _, by simp [newVar, newRow], .ptr hb, e', r', Same.of_gr r ((Gr.refl w).alloc _)⟩
  · cases h
def valloc (P : Program) (T : VT) (t : TypeId) : Option (TV × VT) := match P.info? t with
  | some i => match i.zero with
    | some z => vnew T (z.cells.toList.map .val)
    | none => none
  | none => none
theorem valloc_ok (r : RW g T w) {t : TypeId} {y : TV} {T' : VT} (h : valloc P T t = some (y, T')) : Does P g T w (Instr.alloc t true (.tuple #[])) y T' := by
  unfold valloc at h
  split at h
  · rename_i i hi
    split at h
    · rename_i z hz
      obtain ⟨v, g', w', h1, h2⟩ := vnew_ok (P := P) (t := t) r h (VRs.vals g w _)
      exact ⟨v, g', w', by simpa [Instr.alloc, zeroValue, typeInfo, hi, hz] using h1, h2⟩
    · cases h
  · cases h
def vbox (T : VT) (x : TV) : Option (TV × VT) := (cellsOf x).bind (vnew T)
theorem vbox_ok (r : RW g T w) {t : TypeId} {x y : TV} {u : Value} {T' : VT} (h : vbox T x = some (y, T')) (hx : VR g w x u) : Does P g T w (Instr.box t u) y T' := by
  simp only [vbox, Option.bind_eq_some_iff] at h
  obtain ⟨cs, h1, h2⟩ := h
  exact vnew_ok r h2 (cellsOf_ok h1 hx)

/-- cells from off on are turned -/
def setCs (cs : List TV) (off : Nat) (new : List TV) : List TV := cs.take off ++ new ++ cs.drop (off + new.length)
def vstore (P : Program) (T : VT) (t : TypeId) (a x : TV) : Option (TV × VT) := match a with
  | .ptr id off => match T.objs[id]?, cellsOf x, P.info? t with
    | some (.cells cs), some new, some i => if i.size = new.length ∧ off + new.length ≤ cs.length ∧ new.all isCell then some (.val undef, { T with objs := T.objs.set id (.cells (setCs cs off new)) }) else none
    | _, _, _ => none
  | _ => none
theorem vstore_ok (r : RW g T w) {t : TypeId} {a x y : TV} {ua u : Value} {T' : VT} (h : vstore P T t a x = some (y, T')) (ha : VR g w a ua) (hx : VR g w x u) :
    ∃ g' w', (Instr.storeAt t ua u).run P w = .ok () w' ∧ VR g' w' y undef ∧ Evo g w g' w' ∧ RW g' T' w' := by
  unfold vstore at h
  split at h
  · rename_i id off
    split at h
    · rename_i cs new i hid hc hi
      split at h
      · rename_i hh
        obtain ⟨h1, h2, h3⟩ := hh
        injection h with h; injection h with e1 e2; subst e1 e2
        obtain ⟨b, hb, rfl⟩ := ha.ptr_inv
        obtain ⟨b', h4, ⟨us, ty, h5, h6, h7⟩, _⟩ := r.obj id _ hid rfl
        rw [hb] at h4; injection h4 with h4; subst h4
        have k := cellsOf_ok hc hx
        have ho := cells_one h3 k
        have hl : u.cells.toList.length = new.length := k.1
        have hus : us.length = cs.length := h6.1
        have hrun := run_storeCells_at (P := P) b off ty u.cells.toList 0 us.toArray w h5 (by simp at hl ⊢; omega) ho
        simp only [Nat.add_zero, hl] at hrun
        have hsr := setRow_heap w b _ (us.take off ++ u.cells.toList ++ us.drop (off + new.length)).toArray ty (0, 0) h5
        have hcs : csize (w.setRow b (us.take off ++ u.cells.toList ++ us.drop (off + new.length)).toArray) b = csize w b := by
          rw [csize_cells hsr, csize_cells h5]
          simp at hl ⊢; omega
        have e0 : Evo g w g (w.setRow b (us.take off ++ u.cells.toList ++ us.drop (off + new.length)).toArray) := by
          refine ⟨rfl, rfl, rfl, by simp, fun _ _ h => h, fun c p hs => ⟨hs, ?_⟩, rfl, fun c hc => ?_, fun _ _ _ h => h, fun _ x h => ⟨x, h, .inl rfl, rfl, rfl⟩, (fun _ _ h h' => nomatch (h.symm.trans h')), fun c _ => ?_⟩
          rotate_right
          · by_cases hc : c = b
            · subst hc; exact hcs
            · unfold csize; rw [setRow_other w b c _ hc]
          · obtain ⟨b2, q1, _, _, q4⟩ := r.obj id _ hid rfl
            rw [hb] at q1; injection q1 with q1; subst q1
            exact cell_setRow_other w b _ _ (by rintro rfl; exact q4 p hs)
          · obtain ⟨b2, q1, _, q3, _⟩ := r.obj id _ hid rfl
            rw [hb] at q1; injection q1 with q1; subst q1
            exact setRow_other w b c _ (by rintro rfl; exact q3 hc)
        have k2 := (((h6.take off).app k).app (h6.drop (off + new.length))).mono e0
        have o2 : ∀ v ∈ us.take off ++ u.cells.toList ++ us.drop (off + new.length), v.oneCell' = true := by
          intro v hv
          simp only [List.mem_append] at hv
          rcases hv with (hv | hv) | hv
          · exact h7 v (List.mem_of_mem_take hv)
          · exact ho v hv
          · exact h7 v (List.mem_of_mem_drop hv)
        obtain ⟨r', e'⟩ := r.setObj hid rfl hb (o' := .cells (setCs cs off new)) (w' := w.setRow b (us.take off ++ u.cells.toList ++ us.drop (off + new.length)).toArray) ⟨rfl, rfl, rfl⟩ (by simp) (fun c hc => setRow_other w b c _ hc) hcs
          (fun _ => ⟨_, ty, setRow_heap w b _ _ ty (0, 0) h5, k2, o2⟩)
        refine ⟨g, _, ?_, .val _, e', r'⟩
        have hs : u.cells.size = i.size := by rw [h1, ← hl]; simp
        simp only [Instr.storeAt, Instr.sureAddr, storeVar, Sem.run_bind, Sem.run_pure, Result.andThen_ok, run_size hi, hs]
        simpa using hrun
      · cases h
    · cases h
  · cases h

/-! #### Literals -/
def vfill (place : Nat → Option (Nat × Nat)) (cs : List TV) : List (Nat × TV) → Option (List TV)
  | [] => some cs
  | (i, x) :: r => match place i, cellsOf x with
    | some (off, size), some new => if new.length = size ∧ off + new.length ≤ cs.length then vfill place (setCs cs off new) r else none
    | _, _ => none
theorem fold_set : ∀ (vs : List Value) (off k : Nat) (cs : Array Value), off + k + vs.length ≤ cs.size →
    ((vs.zipIdx k).foldl (fun (cs : Array Value) (x : Value × Nat) => cs.setIfInBounds (off + x.2) x.1) cs).toList = cs.toList.take (off + k) ++ vs ++ cs.toList.drop (off + k + vs.length)
  | [], off, k, cs, _ => by simp
  | v :: vs, off, k, cs, h => by
    simp only [List.length_cons] at h
    have ih := fold_set vs off (k + 1) (cs.setIfInBounds (off + k) v) (by simp; omega)
    simp only [List.zipIdx_cons, List.foldl_cons]
    rw [ih]
    have hl : off + k < cs.toList.length := by simp; omega
    simp only [Array.toList_setIfInBounds]
    rw [show off + (k + 1) = off + k + 1 by omega, List.take_set, List.take_add_one, List.set_append]
    have h1 : (cs.toList.take (off + k)).length = off + k := by simp; omega
    rw [if_neg (by omega), h1, Nat.sub_self]
    have h2 : cs.toList[off + k]?.toList = [cs.toList[off + k]] := by rw [List.getElem?_eq_getElem hl]; rfl
    rw [h2, List.set_cons_zero, List.drop_set_of_lt (by omega)]
    simp only [List.length_cons]
    rw [show off + k + 1 + vs.length = off + k + (vs.length + 1) by omega]
    simp
theorem fill_one (v : Value) (off : Nat) (cells : Array Value) (h : off + v.cells.size ≤ cells.size) :
    (v.cells.zipIdx.foldl (fun cs (c, j) => cs.setIfInBounds (off + j) c) cells).toList = cells.toList.take off ++ v.cells.toList ++ cells.toList.drop (off + v.cells.size) := by
  have := fold_set v.cells.toList off 0 cells (by simpa using h)
  simp only [Nat.add_zero, Array.length_toList] at this
  rw [← this, ← Array.foldl_toList, Array.toList_zipIdx]
theorem vfill_ok {place : Nat → Option (Nat × Nat)} : ∀ {ps : List (Nat × TV)} {qs : List (Nat × Value)} {cs cs' : List TV} {us : Array Value}, vfill place cs ps = some cs' → VRs g w cs us.toList → qs.length = ps.length →
    (∀ (j : Nat) p q, ps[j]? = some p → qs[j]? = some q → q.1 = p.1 ∧ VR g w p.2 q.2) → ∃ us', Instr.fill place us qs = some us' ∧ VRs g w cs' us'.toList
  | [], [], cs, cs', us, h, k, _, _ => by simp [vfill] at h; subst h; exact ⟨us, rfl, k⟩
  | [], _ :: _, _, _, _, _, _, hl, _ => by simp at hl
  | _ :: _, [], _, _, _, _, _, hl, _ => by simp at hl
  | (i, x) :: ps, (i', v) :: qs, cs, cs', us, h, k, hl, hr => by
    obtain ⟨e1, hx⟩ := hr 0 (i, x) (i', v) rfl rfl
    simp only at e1 hx
    subst e1
    unfold vfill at h
    split at h
    · rename_i off size new hp hc
      split at h
      · rename_i hh
        have kc := cellsOf_ok hc hx
        have hvl : v.cells.size = new.length := by have := kc.1; simpa using this
        have hul : us.size = cs.length := by have := k.1; simpa using this
        have hf := fill_one v off us (by omega)
        have k2 : VRs g w (setCs cs off new) (v.cells.zipIdx.foldl (fun cs (c, j) => cs.setIfInBounds (off + j) c) us).toList := by
          rw [hf, hvl]
          exact ((k.take off).app kc).app (k.drop _)
        obtain ⟨us', h1, h2⟩ := vfill_ok (qs := qs) h k2 (by simpa using hl) (fun j p q hp hq => hr (j + 1) p q (by simpa using hp) (by simpa using hq))
        refine ⟨us', ?_, h2⟩
        have n1 : ¬ (v.cells.size ≠ size ∨ us.size < off + v.cells.size) := by omega
        rw [Instr.fill]
        simp only [hp]
        rw [if_neg (by simpa using n1)]
        exact h1
      · cases h
    · cases h
/-- the places of a struct's fields -/
def vplaces (P : Program) (fs : Array Field) : Nat → Option (Nat × Nat) := fun i => match fs[i]? with
  | some f => match P.info? f.type with
    | some inf => some (f.offset, inf.size)
    | none => none
  | none => none
def vbuild (P : Program) (t : TypeId) (ps : List (Nat × TV)) : Option TV := match P.underlying t, P.info? t with
  | some (.struct fs), some i => match i.zero with
    | some z => if fs.toList.all (fun f => (P.info? f.type).isSome) then (vfill (vplaces P fs) (z.cells.toList.map .val) ps).map .agg else none
    | none => none
  | some (.array _ e), some i => match i.zero, P.info? e with
    | some z, some ie => (vfill (fun j => some (j * ie.size, ie.size)) (z.cells.toList.map .val) ps).map .agg
    | _, _ => none
  | _, _ => none
theorem run_places (w : World) : ∀ (fs : List Field), (fs.all fun f => (P.info? f.type).isSome) = true →
    ∃ l, (fs.mapM fun f => (do pure (f.offset, ← sizeOf f.type) : Sem (Nat × Nat))).run P w = .ok l w ∧ l = fs.map fun f => (f.offset, ((P.info? f.type).map (·.size)).getD 0)
  | [], _ => ⟨[], by simp, rfl⟩
  | f :: fs, h => by
    simp only [List.all_cons, Bool.and_eq_true] at h
    obtain ⟨i, hi⟩ := Option.isSome_iff_exists.1 h.1
    obtain ⟨l, h1, h2⟩ := run_places w fs h.2
    refine ⟨_, ?_, rfl⟩
    simp only [List.mapM_cons, Sem.run_bind, run_size hi, Result.andThen_ok, Sem.run_pure, h1]
    simp [h2, hi]
theorem vbuild_ok {t : TypeId} {ps : List (Nat × TV)} {qs : Array (Nat × Value)} {y : TV} (h : vbuild P t ps = some y) (hl : qs.toList.length = ps.length)
    (hr : ∀ (j : Nat) p q, ps[j]? = some p → qs.toList[j]? = some q → q.1 = p.1 ∧ VR g w p.2 q.2) : ∃ v, VR g w y v ∧ ∀ w', (Instr.build t qs).run P w' = .ok v w' := by
  unfold vbuild at h
  split at h
  · rename_i fs i hu hi
    split at h
    · rename_i z hz
      split at h
      · rename_i hall
        simp only [Option.map_eq_some_iff] at h
        obtain ⟨cs, h, rfl⟩ := h
        obtain ⟨us', h1, h2⟩ := vfill_ok (us := z.cells) (qs := qs.toList) h (VRs.vals g w _) hl hr
        refine ⟨.agg us', by simpa using VR.mk_agg h2, fun w' => ?_⟩
        obtain ⟨l, h3, h4⟩ := run_places (P := P) w' fs.toList hall
        have h5 : (fs.mapM fun f => (do pure (f.offset, ← sizeOf f.type) : Sem (Nat × Nat))).run P w' = .ok l.toArray w' := by
          rw [Array.mapM_eq_mapM_toList]
          simp only [Sem.run_map, h3, Result.andThen_ok]
        have h6 : (fun x => l.toArray[x]?) = vplaces P fs := by
          funext j
          simp only [List.getElem?_toArray, h4, List.getElem?_map, vplaces, Array.getElem?_toList]
          cases hf : fs[j]? with
          | none => rfl
          | some f =>
            have hm : f ∈ fs.toList := by rw [List.mem_iff_getElem?]; exact ⟨j, by simpa using hf⟩
            obtain ⟨inf, hinf⟩ := Option.isSome_iff_exists.1 (List.all_eq_true.1 hall f hm)
            simp [hinf]
        simp only [Instr.build, Sem.run_bind, zeroValue, run_info hi, hz, Result.andThen_ok, Sem.run_pure, run_underlying hu, h5, h6, h1]
      · cases h
    · cases h
  · rename_i n e i hu hi
    split at h
    · rename_i z ie hz hie
      simp only [Option.map_eq_some_iff] at h
      obtain ⟨cs, h, rfl⟩ := h
      obtain ⟨us', h1, h2⟩ := vfill_ok (us := z.cells) (qs := qs.toList) h (VRs.vals g w _) hl hr
      refine ⟨.agg us', by simpa using VR.mk_agg h2, fun w' => ?_⟩
      simp only [Instr.build, Sem.run_bind, zeroValue, run_info hi, hz, Result.andThen_ok, Sem.run_pure, run_underlying hu, run_size hie, h1]
    · cases h
  · cases h
end
end Go.Proofs.YtapfboldkkodkaaGreatDoor
