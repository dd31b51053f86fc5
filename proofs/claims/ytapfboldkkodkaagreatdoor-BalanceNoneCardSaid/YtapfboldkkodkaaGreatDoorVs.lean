/- Maps, on what a walk knows, continued: they are turned, and made. All the new operations together. For any program. -/
import Derived.Test.YtapfboldkkodkaaGreatDoorVq
namespace Go.Proofs.YtapfboldkkodkaaGreatDoor
open Go.RowKit

section
variable {P : Program} {g : Gh} {T : VT} {w : World}
def vmapPut (P : Program) (ro : Nat) (T : VT) (t : TypeId) (m k v : TV) : Option (TV × VT) := match P.underlying t, toVal k, m with
  | some (.map kt _), some kv, .map id => match shapeOf P kt, T.objs[id]? with
    | some sh, some (.map sh' look es ck) => bif ksEq sh sh' && sh.fits kv && Nat.ble ro id then
        some (.val undef, { T with objs := T.objs.set id (.map sh (fun k' => bif keyEq kv k' then some v else look k') (mput kv v ck es) (match look kv with | some _ => ck | none => ck + 1)) }) else none
    | _, _ => none
  | _, _, _ => none
theorem map_world {w : World} {b : Nat} {ms ms' : Array MapEntry} {ck ck' : Nat} (h : w.heap[b]? = some (.map ms ck)) :
    let w' : World := { w with heap := w.heap.setIfInBounds b (.map ms' ck') }
    w'.heap[b]? = some (.map ms' ck') ∧ (∀ c, c ≠ b → w'.heap[c]? = w.heap[c]?) ∧ w'.heap.size = w.heap.size ∧ csize w' b = csize w b := by
  have h1 := Go.MapKept.heap_set (w := w) (o' := .map ms' ck') h
  refine ⟨h1.1, fun c hc => h1.2 c hc, by simp, ?_⟩
  unfold csize
  simp only [h1.1, h]
theorem mput_at {k : Value} (v : TV) (ck : Nat) : ∀ {es : List (Value × TV × Nat)} (j : Nat) e, es[j]? = some e → keyEq k e.1 = true → (∀ j', j' < j → ∀ e, es[j']? = some e → keyEq k e.1 = false) →
    mput k v ck es = es.set j (k, v, e.2.2)
  | [], _, _, h, _, _ => by simp at h
  | e0 :: es, 0, e, h, hq, _ => by
    simp at h; subst h
    simp [mput, hq]
  | e0 :: es, j + 1, e, h, hq, hb => by
    have h0 := hb 0 (by omega) e0 rfl
    simp only [mput, h0, cond_false, List.set_cons_succ]
    rw [mput_at v ck j e (by simpa using h) hq fun j' hj e' he' => hb (j' + 1) (by omega) e' (by simpa using he')]
theorem mput_new {k : Value} (v : TV) (ck : Nat) : ∀ {es : List (Value × TV × Nat)}, mget k es = none → mput k v ck es = es ++ [(k, v, ck)]
  | [], _ => rfl
  | e :: es, h => by
    simp only [mget] at h
    cases hq : keyEq k e.1 with
    | true => rw [hq] at h; cases h
    | false =>
      rw [hq] at h
      simp only [mput, hq, cond_false, List.cons_append]
      rw [mput_new v ck h]
theorem vmapPut_ok (r : RW g T w) {ro : Nat} {t : TypeId} {m k v y : TV} {um uk uv : Value} {T' : VT} (h : vmapPut P ro T t m k v = some (y, T')) (hm : VR g w m um) (hk : VR g w k uk) (hv : VR g w v uv) :
    ∃ g' w', (Instr.mapUpdate t um uk uv).run P w = .ok () w' ∧ VR g' w' y undef ∧ Evo g w g' w' ∧ RW g' T' w' ∧ Fix ro g T w T' w' := by
  unfold vmapPut at h
  split at h
  · rename_i kt et kv id hu hkv
    have hkv' := toVal_ok hkv hk
    subst hkv'
    split at h
    · rename_i sh sh' look es ck hsh hid
      cases hb : (ksEq sh sh' && sh.fits uk && Nat.ble ro id) with
      | false => rw [hb] at h; cases h
      | true =>
        rw [hb] at h
        simp only [Bool.and_eq_true] at hb
        obtain ⟨⟨hq, hf⟩, hr⟩ := hb
        have hr := Nat.le_of_ble_eq_true hr
        have := ksEq_ok hq
        subst this
        injection h with h; injection h with e1 e2; subst e1 e2
        obtain ⟨b, hb, rfl⟩ := hm.map_inv
        obtain ⟨b', h1, ⟨ms, h2, h3, h4, h5, h6, h7, h8⟩, _⟩ := r.obj id _ hid rfl
        rw [hb] at h1; injection h1 with h1; subst h1
        have hfit : ∀ e ∈ ms.toList, sh.fits e.key = true := fun e he => by
          have : e.key ∈ ms.toList.map (·.key) := List.mem_map_of_mem he
          rw [h3] at this
          obtain ⟨e', he', heq⟩ := List.mem_map.1 this
          rw [← heq]; exact h6 e' he'
        have hfk := findKey_ok hsh hf w ms.toList hfit
        have hgo : (getObj b).run P w = .ok (.map ms ck) w := by simp [getObj, Sem.run, h2]
        have fin : ∀ (ms' : Array MapEntry) (ck' : Nat), (Instr.mapUpdate t (.map (some b)) uk uv).run P w = .ok () { w with heap := w.heap.setIfInBounds b (.map ms' ck') } →
            ck' = (match look uk with | some _ => ck | none => ck + 1) →
            ms'.toList.map (·.key) = (mput uk v ck es).map (·.1) → VRs g w ((mput uk v ck es).map (·.2.1)) (ms'.toList.map (·.val)) → ms'.toList.map (·.born) = (mput uk v ck es).map (·.2.2) →
            ∃ g' w', (Instr.mapUpdate t (.map (some b)) uk uv).run P w = .ok () w' ∧ VR g' w' (.val undef) undef ∧ Evo g w g' w' ∧
              RW g' { T with objs := T.objs.set id (.map sh (fun k' => bif keyEq uk k' then some v else look k') (mput uk v ck es) (match look uk with | some _ => ck | none => ck + 1)) } w' ∧
              Fix ro g T w { T with objs := T.objs.set id (.map sh (fun k' => bif keyEq uk k' then some v else look k') (mput uk v ck es) (match look uk with | some _ => ck | none => ck + 1)) } w' := by
          intro ms' ck' hrun hck p1 p2 p3
          obtain ⟨w1, w2, w3, w4⟩ := map_world (w := w) (ms' := ms') (ck' := ck') h2
          obtain ⟨_, e0⟩ := r.setObj hid rfl hb (o' := .gone) (w' := { w with heap := w.heap.setIfInBounds b (.map ms' ck') }) ⟨rfl, rfl, rfl⟩ w3 w2 w4 (fun h => by cases h)
          obtain ⟨r', e'⟩ := r.setObj hid rfl hb (o' := .map sh (fun k' => bif keyEq uk k' then some v else look k') (mput uk v ck es) (match look uk with | some _ => ck | none => ck + 1)) (w' := { w with heap := w.heap.setIfInBounds b (.map ms' ck') }) ⟨rfl, rfl, rfl⟩ w3 w2 w4
            (fun _ => ⟨ms', by rw [← hck]; exact w1, p1, p2.mono e0, p3, mput_fits hf v ck h6, mput_nodup hf v ck h6 h7, fun k' hk' => by
              simp only [mget_mput hf hk' v ck h6, h8 k' hk']⟩)
          exact ⟨g, _, hrun, .val _, e', r', setObj_fix r hid rfl hb hr w2⟩
        rcases mget_at (k := uk) 0 h3 h4 with ⟨g1, g2⟩ | ⟨x, j, v0, g1, g2, g3, ⟨e, me, k1, k2, k3, k4, k5, k6⟩, k7⟩
        · rw [g2] at hfk
          refine fin (ms.push { key := uk, val := uv, born := ck }) (ck + 1) ?_ (by rw [h8 uk hf, g1]) ?_ ?_ ?_
          · simp [Instr.mapUpdate, run_underlying hu, hgo, shape_check hsh hf, hfk, Go.MapKept.run_setObj_map _ h2]
          · rw [mput_new v ck g1]; simp [h3]
          · rw [mput_new v ck g1]
            have := h4.app (.cons hv (.nil g w))
            simpa using this
          · rw [mput_new v ck g1]; simp [h5]
        · rw [g2] at hfk
          have hje : j < es.length := (List.getElem?_eq_some_iff.1 k1).1
          have hjm : j < ms.size := by have := (List.getElem?_eq_some_iff.1 k2).1; simpa using this
          have hkey : me.key = uk := by rw [k4]; exact ((keyEq_iff hf (h6 e (List.mem_of_getElem? k1))).1 k3).symm
          have hmj : ms[j]? = some me := by simpa using k2
          have hset := mput_at (k := uk) v ck j e k1 k3 k7
          have hml : (ms.modify j fun e => { e with key := uk, val := uv }).toList = ms.toList.set j { me with key := uk, val := uv } := by
            apply List.ext_getElem?
            intro i
            rw [Array.getElem?_toList, Array.getElem?_modify, List.getElem?_set]
            by_cases hij : j = i
            · subst hij
              rw [if_pos rfl, if_pos rfl, hmj]
              simp [hjm]
            · rw [if_neg hij, if_neg hij]; simp
          refine fin (ms.modify j fun e => { e with key := uk, val := uv }) ck ?_ (by rw [h8 uk hf, g1]) ?_ ?_ ?_
          · have hst : (Instr.keyThatStays (((ms[j]?).map (·.key)).getD uk) uk).run P w = .ok uk w := by
              rw [hmj]
              simp only [Option.map_some, Option.getD_some, hkey, Instr.keyThatStays, sameBits_self hf, if_true, Sem.run_pure]
            simp only [Nat.zero_add] at hfk
            simp [Instr.mapUpdate, run_underlying hu, hgo, shape_check hsh hf, hfk, hst, Go.MapKept.run_setObj_map _ h2]
          · rw [hml, hset, List.map_set, List.map_set, h3]
          · rw [hml, hset, List.map_set, List.map_set]
            exact h4.set j hv
          · rw [hml, hset, List.map_set, List.map_set, h5]
            have : e.2.2 = me.born := by
              have h9 := congrArg (·[j]?) h5
              simp only [List.getElem?_map, k1, k2, Option.map_some, Option.some.injEq] at h9
              exact h9.symm
            rw [this]
    · cases h
  · cases h
def vmakeMap (P : Program) (T : VT) (t : TypeId) (r : Option TV) : Option (TV × VT) := match P.underlying t with
  | some (.map kt _) => match shapeOf P kt with
    | some sh => (match r with
      | none => some (.map T.objs.length, { T with objs := T.objs ++ [.map sh (fun _ => none) [] 0] })
      | some (.val (.int _ _)) => some (.map T.objs.length, { T with objs := T.objs ++ [.map sh (fun _ => none) [] 0] })
      | _ => none)
    | none => none
  | _ => none
theorem vmakeMap_ok (r : RW g T w) {t : TypeId} {x : Option TV} {u : Option Value} {y : TV} {T' : VT} (h : vmakeMap P T t x = some (y, T')) (hx : BR g w x u) : Does P g T w (Instr.makeMap t u) y T' ∧ T'.objs.take T.objs.length = T.objs := by
  unfold vmakeMap at h
  split at h
  · rename_i kt et hu
    split at h
    · rename_i sh hsh
      have go : ∀ (hrun : (Instr.makeMap t u).run P w = .ok (.map (some w.heap.size)) (w.alloc (.map #[] 0))), Does P g T w (Instr.makeMap t u) (.map T.objs.length) { T with objs := T.objs ++ [.map sh (fun _ => none) [] 0] } := by
        intro hrun
        have hor : OR g (w.alloc (.map #[] 0)) w.heap.size (.map sh (fun _ => none) [] 0) :=
          ⟨#[], heap_alloc_new w _, by simp, by simpa using VRs.nil g _, by simp, by simp, by simp, fun k _ => rfl⟩
        obtain ⟨g', r', e', hg, _⟩ := r.new (.map #[] 0) (o := .map sh (fun _ => none) [] 0) rfl hor
        exact ⟨_, g', _, hrun, .map hg, e', r', Same.of_gr r ((Gr.refl w).alloc _)⟩
      split at h
      · injection h with h; injection h with e1 e2; subst e1 e2
        cases u with
        | some _ => cases hx
        | none => exact ⟨go (by simp [Instr.makeMap, newObj, Sem.run]), by simp⟩
      · injection h with h; injection h with e1 e2; subst e1 e2
        cases u with
        | none => cases hx
        | some u =>
          rw [VR.val_inv hx]
          exact ⟨(by rw [VR.val_inv hx] at go; exact go (by simp [Instr.makeMap, run_underlying hu, asInt, asIntOf, newObj, Sem.run])), by simp⟩
      · cases h
    · cases h
  · cases h
end
end Go.Proofs.YtapfboldkkodkaaGreatDoor
