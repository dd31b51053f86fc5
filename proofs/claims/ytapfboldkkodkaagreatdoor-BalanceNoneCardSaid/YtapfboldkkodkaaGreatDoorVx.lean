/- What may not turn; operations that leave it as it is. For any program. -/
import Derived.Test.YtapfboldkkodkaaGreatDoorValP
namespace Go.Proofs.YtapfboldkkodkaaGreatDoor
open Go.RowKit

section
variable {P : Program}
/-! ### What may not turn: the objects below ro -/
structure Fix (ro : Nat) (g : Gh) (T : VT) (w : World) (T' : VT) (w' : World) : Prop where
  len : T.objs.length ≤ T'.objs.length
  same : ∀ i, i < ro → i < T.objs.length → T'.objs[i]? = T.objs[i]?
  heap : ∀ (i : Nat) o b, i < ro → T.objs[i]? = some o → o.live = true → g.obj i = some b → w'.heap[b]? = w.heap[b]?
theorem Fix.refl (ro : Nat) (g : Gh) (T : VT) (w : World) : Fix ro g T w T w := ⟨Nat.le_refl _, fun _ _ _ => rfl, fun _ _ _ _ _ _ _ => rfl⟩
theorem Fix.trans {ro : Nat} {g g' : Gh} {T T' T'' : VT} {w w' w'' : World} (h : Fix ro g T w T' w') (e : Evo g w g' w') (k : Fix ro g' T' w' T'' w'') : Fix ro g T w T'' w'' where
  len := Nat.le_trans h.len k.len
  same i hi hl := (k.same i hi (Nat.lt_of_lt_of_le hl h.len)).trans (h.same i hi hl)
  heap i o b hi ho hl hb := by
    have hlt := (List.getElem?_eq_some_iff.1 ho).1
    exact (k.heap i o b hi ((h.same i hi hlt).trans ho) hl (e.obj i b hb)).trans (h.heap i o b hi ho hl hb)
theorem Fix.mono {ro ro' : Nat} (hr : ro ≤ ro') {g : Gh} {T T' : VT} {w w' : World} (h : Fix ro' g T w T' w') : Fix ro g T w T' w' :=
  ⟨h.len, fun i hi => h.same i (Nat.lt_of_lt_of_le hi hr), fun i o b hi => h.heap i o b (Nat.lt_of_lt_of_le hi hr)⟩
theorem Fix.of_same {ro : Nat} {g : Gh} {T T' : VT} {w w' : World} (h : Same g T w w') (k : T'.objs.take T.objs.length = T.objs) : Fix ro g T w T' w' where
  len := by
    have := congrArg List.length k
    rw [List.length_take] at this; omega
  same i _ hl := by
    have := congrArg (·[i]?) k
    simp only [List.getElem?_take, hl, if_true] at this
    exact this
  heap i o b _ ho hl hb := h.obj i o b ho hl hb
theorem Fix.toSame {g g' : Gh} {T T' : VT} {w w' : World} (h : Fix T.objs.length g T w T' w') (e : Evo g w g' w') : Same g T w w' :=
  ⟨fun b o hb => (e.st b o hb).2, fun id o b hid hl hb => h.heap id o b (List.getElem?_eq_some_iff.1 hid).1 hid hl hb⟩
theorem Fix.take {g : Gh} {T0 T T' : VT} {w w' : World} (h : Fix T.objs.length g T w T' w') (k : T.objs.take T0.objs.length = T0.objs) : T'.objs.take T0.objs.length = T0.objs := by
  have hl : T0.objs.length ≤ T.objs.length := by
    have := congrArg List.length k
    rw [List.length_take] at this; omega
  refine Eq.trans ?_ k
  apply List.ext_getElem?
  intro i
  rw [List.getElem?_take, List.getElem?_take]
  split
  · rename_i hi
    exact h.same i (by omega) (by omega)
  · rfl

/-! ### Single operations -/
/-- it turns no object below ro -/
def vfree (ro : Nat) (op : Op) (ev : Operand → TV) : Bool := match op with
  | .store _ a _ => match ev a with
    | .ptr id _ => Nat.ble ro id
    | _ => false
  | _ => true
theorem setObj_fix {ro : Nat} {g : Gh} {T : VT} {w w' : World} (r : RW g T w) {id b : Nat} {o o' : VO} (hid : T.objs[id]? = some o) (hl : o.live = true) (hb : g.obj id = some b) (hr : ro ≤ id)
    (hoth : ∀ c, c ≠ b → w'.heap[c]? = w.heap[c]?) : Fix ro g T w { T with objs := T.objs.set id o' } w' where
  len := by simp
  same i hi _ := by
    simp only [List.getElem?_set]
    rw [if_neg (by omega)]
  heap i oi bi hi ho hli hbi := hoth bi fun h => by
    have := r.inj i id oi o b ho hli hid hl (h ▸ hbi) hb
    omega
theorem vstore_fix {ro : Nat} {g : Gh} {T : VT} {w : World} (r : RW g T w) {t : TypeId} {id off : Nat} {x y : TV} {ua u : Value} {T' : VT} (h : vstore P T t (.ptr id off) x = some (y, T')) (ha : VR g w (.ptr id off) ua) (hx : VR g w x u) (hr : ro ≤ id) :
    ∃ g' w', (Instr.storeAt t ua u).run P w = .ok () w' ∧ VR g' w' y undef ∧ Evo g w g' w' ∧ RW g' T' w' ∧ Fix ro g T w T' w' := by
  unfold vstore at h
  simp only at h
  split at h
  · rename_i cs new i hid hc hi
    split at h
    · rename_i hh
      obtain ⟨h1, h2, h3⟩ := hh
      injection h with h; injection h with e1 e2; subst e1 e2
      obtain ⟨b, hb, rfl⟩ := ha.ptr_inv
      obtain ⟨b', h4, ⟨us, ty, h5, h6, h7⟩, _⟩ := r.obj id _ hid rfl
      rw [hb] at h4; injection h4 with h4; subst h4
      have k := cellsOf_ok hc hx
      have ho := cells_one h3 k
      have hl : u.cells.toList.length = new.length := k.1
      have hus : us.length = cs.length := h6.1
      have hrun := run_storeCells_at (P := P) b off ty u.cells.toList 0 us.toArray w h5 (by simp at hl ⊢; omega) ho
      simp only [Nat.add_zero, hl] at hrun
      have hsr := setRow_heap w b _ (us.take off ++ u.cells.toList ++ us.drop (off + new.length)).toArray ty (0, 0) h5
      have hcs : csize (w.setRow b (us.take off ++ u.cells.toList ++ us.drop (off + new.length)).toArray) b = csize w b := by
        rw [csize_cells hsr, csize_cells h5]
        simp at hl ⊢; omega
      have e0 : Evo g w g (w.setRow b (us.take off ++ u.cells.toList ++ us.drop (off + new.length)).toArray) := by
        refine ⟨rfl, rfl, rfl, by simp, fun _ _ h => h, fun c p hs => ⟨hs, ?_⟩, rfl, fun c hc => ?_, fun _ _ _ h => h, fun _ x h => ⟨x, h, .inl rfl, rfl, rfl⟩, (fun _ _ h h' => nomatch (h.symm.trans h')), fun c _ => ?_⟩
        rotate_right
        · by_cases hc : c = b
          · subst hc; exact hcs
          · unfold csize; rw [setRow_other w b c _ hc]
        · obtain ⟨b2, q1, _, _, q4⟩ := r.obj id _ hid rfl
          rw [hb] at q1; injection q1 with q1; subst q1
          exact cell_setRow_other w b _ _ (by rintro rfl; exact q4 p hs)
        · obtain ⟨b2, q1, _, q3, _⟩ := r.obj id _ hid rfl
          rw [hb] at q1; injection q1 with q1; subst q1
          exact setRow_other w b c _ (by rintro rfl; exact q3 hc)
      have k2 := (((h6.take off).app k).app (h6.drop (off + new.length))).mono e0
      have o2 : ∀ v ∈ us.take off ++ u.cells.toList ++ us.drop (off + new.length), v.oneCell' = true := by
        intro v hv
        simp only [List.mem_append] at hv
        rcases hv with (hv | hv) | hv
        · exact h7 v (List.mem_of_mem_take hv)
        · exact ho v hv
        · exact h7 v (List.mem_of_mem_drop hv)
      have hoth : ∀ c, c ≠ b → (w.setRow b (us.take off ++ u.cells.toList ++ us.drop (off + new.length)).toArray).heap[c]? = w.heap[c]? := fun c hc => setRow_other w b c _ hc
      obtain ⟨r', e'⟩ := r.setObj hid rfl hb (o' := .cells (setCs cs off new)) (w' := w.setRow b (us.take off ++ u.cells.toList ++ us.drop (off + new.length)).toArray) ⟨rfl, rfl, rfl⟩ (by simp) hoth hcs
        (fun _ => ⟨_, ty, setRow_heap w b _ _ ty (0, 0) h5, k2, o2⟩)
      refine ⟨g, _, ?_, .val _, e', r', setObj_fix r hid rfl hb hr hoth⟩
      have hs : u.cells.size = i.size := by rw [h1, ← hl]; simp
      simp only [Instr.storeAt, Instr.sureAddr, storeVar, Sem.run_bind, Sem.run_pure, Result.andThen_ok, run_size hi, hs]
      simpa using hrun
    · cases h
  · cases h
theorem vnew_take {T T' : VT} {cs : List TV} {y : TV} (h : vnew T cs = some (y, T')) : T'.objs.take T.objs.length = T.objs := by
  unfold vnew at h
  split at h
  · injection h with h; injection h with _ h; subst h; simp
  · cases h
theorem vadopt_objs {T T1 : VT} {size k e : Nat} {bn : Bool} {s : TV} {es : List (List TV)} (h : vadopt T size s = some (es, k, e, bn, T1)) : T1.objs = T.objs := by
  unfold vadopt at h
  split at h
  · injection h with h; simp only [Prod.mk.injEq] at h; obtain ⟨_, _, _, _, rfl⟩ := h; rfl
  · split at h
    · injection h with h; simp only [Prod.mk.injEq] at h; obtain ⟨_, _, _, _, rfl⟩ := h; rfl
    · cases h
  · split at h
    · split at h
      · injection h with h; simp only [Prod.mk.injEq] at h; obtain ⟨_, _, _, _, rfl⟩ := h; rfl
      · cases h
    · cases h
  · cases h
theorem vmake_take {T T' : VT} {op : Op} {ev : Operand → TV} {y : TV} (h : vmake P T op ev = some (y, T')) : T'.objs.take T.objs.length = T.objs := by
  cases op <;> simp only [vmake] at h <;> try (cases h)
  case alloc e =>
    unfold valloc at h
    split at h
    · split at h
      · exact vnew_take h
      · cases h
    · cases h
  case box e x =>
    unfold vbox at h
    simp only [Option.bind_eq_some_iff] at h
    obtain ⟨_, _, h⟩ := h
    exact vnew_take h
  case buildSlice t n ps =>
    simp only [Option.map_eq_some_iff] at h
    obtain ⟨y', h, e⟩ := h
    injection e with e1 e2; subst e2; simp
  case call c =>
    split at h
    · unfold vappend at h
      split at h
      · split at h
        · split at h
          · split at h
            · injection h with h; injection h with _ h; subst h
              rename_i h1 _ _ _
              simp [vadopt_objs h1]
            · cases h
          · cases h
        · cases h
      · cases h
    · cases h
/-- an operation that no call is -/
theorem vop_fix {ro : Nat} {g : Gh} {T T' : VT} {w : World} (r : RW g T w) {o : Oper} {ev : Operand → TV} {ρ : Operand → Value} {y : TV} (hf : vfree ro o.op ev = true) (h : vop P T o.op ev = some (y, T')) (hev : ∀ x, VR g w (ev x) (ρ x)) :
    ∃ m v g' w', (execOp ρ o).run P w = .ok m w' ∧ nextVal m = some v ∧ VR g' w' y v ∧ Evo g w g' w' ∧ RW g' T' w' ∧ Fix ro g T w T' w' := by
  unfold vop at h
  split at h
  · rename_i x hx
    injection h with h; injection h with e1 e2; subst e1 e2
    obtain ⟨v, h1, h2⟩ := vread_ok (P := P) r hx hev
    exact ⟨_, v, g, w, h2 w (Same.refl _ _ _), rfl, h1, Evo.refl _ _, r, Fix.refl _ _ _ _⟩
  · have mk : ∀ {y T'}, vmake P T o.op ev = some (y, T') → ∃ m v g' w', (execOp ρ o).run P w = .ok m w' ∧ nextVal m = some v ∧ VR g' w' y v ∧ Evo g w g' w' ∧ RW g' T' w' ∧ Fix ro g T w T' w' := by
      intro y T' h
      obtain ⟨v, g', w', h1, h2, h3, h4, h5⟩ := vmake_ok r h hev
      exact ⟨_, v, g', w', h1, rfl, h2, h3, h4, Fix.of_same h5 (vmake_take h)⟩
    rename_i hvr
    clear hvr
    obtain ⟨dst, op, ty, pos, af, gd⟩ := o
    simp only at h hf mk
    cases op <;> simp only [vwrite] at h <;> try (cases h)
    case alloc e => exact mk (by simpa only [vmake] using h)
    case box e x => exact mk (by simpa only [vmake] using h)
    case buildSlice t n ps => exact mk (by simpa only [vmake] using h)
    case call c => exact mk (show vmake P T (.call c) ev = some (y, T') from h)
    case build t ps =>
      simp only [Option.map_eq_some_iff] at h
      obtain ⟨y', h, e⟩ := h
      injection e with e1 e2; subst e1 e2
      obtain ⟨h1, h2⟩ := parts_rel hev ps
      obtain ⟨v, h3, h4⟩ := vbuild_ok (P := P) h h1 h2
      exact ⟨.value v, v, g, w, by simp [execOp, h4 w], rfl, h3, Evo.refl _ _, r, Fix.refl _ _ _ _⟩
    case store t a x =>
      simp only [vfree] at hf
      split at hf
      · rename_i id off ha
        rw [ha] at h
        have h1 := hev a
        rw [ha] at h1
        obtain ⟨g', w', h2, h3, h4, h5, h6⟩ := vstore_fix (ro := ro) r h h1 (hev x) (Nat.le_of_ble_eq_true hf)
        exact ⟨.skip, undef, g', w', by simp [execOp, h2], rfl, h3, h4, h5, h6⟩
      · cases hf
end
end Go.Proofs.YtapfboldkkodkaaGreatDoor
