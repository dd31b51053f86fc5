/- Operations that only read, on what a walk knows. For any program. -/
import Derived.Test.YtapfboldkkodkaaGreatDoorValW
namespace Go.Proofs.YtapfboldkkodkaaGreatDoor
open Go.RowKit

/-- what may be read is as it was -/
structure Same (g : Gh) (T : VT) (w w' : World) : Prop where
  st : ∀ b o, g.st b o → w'.cell? ⟨b, o, none⟩ = w.cell? ⟨b, o, none⟩
  obj : ∀ (id : Nat) o b, T.objs[id]? = some o → o.live = true → g.obj id = some b → w'.heap[b]? = w.heap[b]?
theorem Same.refl (g : Gh) (T : VT) (w : World) : Same g T w w := ⟨fun _ _ _ => rfl, fun _ _ _ _ _ _ => rfl⟩

/-- a computation that only reads, and what it yields -/
def Looks (P : Program) (g : Gh) (T : VT) (w : World) (s : Sem Value) (x : TV) : Prop := ∃ v, VR g w x v ∧ ∀ w', Same g T w w' → s.run P w' = .ok v w'

/-- a computation that looks at no memory -/
def pureRun (P : Program) {α : Type} : Sem α → Option α
  | .pure a => some a
  | .program k => pureRun P (k P)
  | .mark _ k => pureRun P k
  | _ => none
theorem pureRun_ok {P : Program} {α : Type} {a : α} : ∀ {s : Sem α}, pureRun P s = some a → ∀ w, s.run P w = .ok a w
  | .pure b, h, w => by simp [pureRun] at h; subst h; rfl
  | .program k, h, w => by simp only [pureRun] at h; simp only [Sem.run]; exact pureRun_ok h w
  | .mark _ k, h, w => by simp only [pureRun] at h; simp only [Sem.run]; exact pureRun_ok h w
  | .load .., h, _ => by simp [pureRun] at h
  | .store .., h, _ => by simp [pureRun] at h
  | .new .., h, _ => by simp [pureRun] at h
  | .shape .., h, _ => by simp [pureRun] at h
  | .freeze .., h, _ => by simp [pureRun] at h
  | .frozen .., h, _ => by simp [pureRun] at h
  | .getObj .., h, _ => by simp [pureRun] at h
  | .setObj .., h, _ => by simp [pureRun] at h
  | .choose .., h, _ => by simp [pureRun] at h
  | .sys .., h, _ => by simp [pureRun] at h
  | .halt _, h, _ => by simp [pureRun] at h

section
variable {P : Program} {g : Gh} {T : VT} {w : World}

def valsOf : List TV → Option (List Value)
  | [] => some []
  | .val v :: r => (valsOf r).map (v :: ·)
  | _ :: _ => none
theorem valsOf_ok : ∀ {cs : List TV} {vs us : List Value}, valsOf cs = some vs → VRs g w cs us → us = vs
  | [], vs, us, h, k => by simp [valsOf] at h; subst h; exact List.eq_nil_of_length_eq_zero k.1
  | c :: r, vs, us, h, k => by
    cases c <;> simp [valsOf] at h
    rename_i v
    obtain ⟨vs', h1, rfl⟩ := h
    cases us with
    | nil => have := k.1; simp at this
    | cons u us =>
      have h2 := (k.2 0 (.val v) u rfl rfl).val_inv
      have h3 := valsOf_ok h1 (us := us) ⟨by have := k.1; simpa using this, fun j x u hx hu => k.2 (j + 1) x u (by simpa using hx) (by simpa using hu)⟩
      rw [h2, h3]
/-- the value itself -/
def toVal : TV → Option Value
  | .val v => some v
  | .agg cs => (valsOf cs).map fun vs => .agg vs.toArray
  | _ => none
theorem toVal_ok {x : TV} {v u : Value} (h : toVal x = some v) (k : VR g w x u) : u = v := by
  cases x <;> simp [toVal] at h
  · subst h; exact k.val_inv
  · obtain ⟨vs, h1, rfl⟩ := h
    obtain ⟨us, rfl, h2⟩ := k.agg_inv
    rw [valsOf_ok h1 h2]
/-- a computation that looks at no memory, and what it yields -/
def Looks0 (P : Program) (g : Gh) (w : World) (s : Sem Value) (x : TV) : Prop := ∃ v, VR g w x v ∧ ∀ w', s.run P w' = .ok v w'
theorem Looks0.looks {s : Sem Value} {x : TV} (h : Looks0 P g w s x) : Looks P g T w s x := by obtain ⟨v, h1, h2⟩ := h; exact ⟨v, h1, fun w' _ => h2 w'⟩
theorem Looks0.of_pure {s : Sem Value} {v : Value} (h : pureRun P s = some v) : Looks0 P g w s (.val v) := ⟨v, .val v, fun w' => pureRun_ok h w'⟩
theorem Looks0.of_ok {s : Sem Value} {x : TV} {v : Value} (hv : VR g w x v) (h : ∀ w', s.run P w' = .ok v w') : Looks0 P g w s x := ⟨v, hv, h⟩
theorem Looks.of_pure {s : Sem Value} {v : Value} (h : pureRun P s = some v) : Looks P g T w s (.val v) := ⟨v, .val v, fun w' _ => pureRun_ok h w'⟩
theorem Looks.of_ok {s : Sem Value} {x : TV} {v : Value} (hv : VR g w x v) (h : ∀ w', s.run P w' = .ok v w') : Looks P g T w s x := ⟨v, hv, fun w' _ => h w'⟩

def isAggD : TypeDesc → Bool
  | .struct _ | .array _ _ => true
  | _ => false
theorem run_isAgg {t : TypeId} {d : TypeDesc} (h : P.underlying t = some d) (w : World) : (isAgg t).run P w = .ok (isAggD d) w := by
  unfold isAgg
  rw [Sem.run_bind, run_underlying h w]
  cases d <;> rfl
theorem run_info {t : TypeId} {i : TypeInfo} (h : P.info? t = some i) (w : World) : (typeInfo t).run P w = .ok i w := by simp [typeInfo, h]
theorem run_size {t : TypeId} {i : TypeInfo} (h : P.info? t = some i) (w : World) : (sizeOf t).run P w = .ok i.size w := by simp [sizeOf, typeInfo, h]

/-! #### An operator -/
def cmpBool (op : BinOp) (b : Bool) : Option TV := match op with
  | .eql => some (.val (.bool b))
  | .neq => some (.val (.bool !b))
  | _ => none
def isRef : TV → Bool
  | .ptr .. | .elt .. => true
  | _ => false
def nilEq (P : Program) (op : BinOp) (t : TypeId) (x y : TV) : Option TV := match P.underlying t, x, y with
  | some (.pointer _), x, .val (.pointer none) => if isRef x then cmpBool op false else none
  | some (.pointer _), .val (.pointer none), y => if isRef y then cmpBool op false else none
  | some (.map _ _), .map _, .val (.map none) => cmpBool op false
  | some (.map _ _), .val (.map none), .map _ => cmpBool op false
  | some (.func _ _ _), .fn _ _ _, .val .nilFunc => cmpBool op false
  | _, _, _ => none
def vbin (P : Program) (op : BinOp) (t : TypeId) (xo yo : Operand) (x y : TV) : Option TV := match toVal x, toVal y with
  | some a, some b => (pureRun P (do eqGuard op t xo yo a b; binOp op t a b)).map .val
  | _, _ => nilEq P op t x y
theorem isRef_inv {x : TV} {u : Value} (h : isRef x = true) (k : VR g w x u) : ∃ a, u = .pointer (some a) := by
  cases x <;> simp [isRef] at h
  · obtain ⟨b, _, rfl⟩ := k.ptr_inv; exact ⟨_, rfl⟩
  · obtain ⟨b, o, us, rfl, _⟩ := k.elt_inv; exact ⟨_, rfl⟩
theorem cmp_run {op : BinOp} {t : TypeId} {xo yo : Operand} {u v : Value} {b : Bool} {x : TV} (h : cmpBool op b = some x) (hg : ∀ op, eqGuard op t xo yo u v = pure ())
    (he : ∀ w, (Op.equal t u v).run P w = .ok b w) (h1 : binOp .eql t u v = (do pure (.bool (← Op.equal t u v)))) (h2 : binOp .neq t u v = (do pure (.bool (!(← Op.equal t u v))))) :
    Looks0 P g w (do eqGuard op t xo yo u v; binOp op t u v) x := by
  cases op <;> simp [cmpBool] at h
  all_goals
    subst h
    refine .of_ok (.val _) fun w' => ?_
    rw [hg]
    first | rw [h1] | rw [h2]
    simp [he]
theorem equal_run {t : TypeId} {u v : Value} {b : Bool} (h : ∀ d w, (Op.equalIn (d + 1) t u v).run P w = .ok b w) (w : World) : (Op.equal t u v).run P w = .ok b w := h 9999 w
theorem vbin_ok {op : BinOp} {t : TypeId} {xo yo : Operand} {x y r : TV} {u v : Value} (h : vbin P op t xo yo x y = some r) (hx : VR g w x u) (hy : VR g w y v) :
    Looks0 P g w (do eqGuard op t xo yo u v; binOp op t u v) r := by
  unfold vbin at h
  split at h
  · rename_i a b ha hb
    rw [toVal_ok ha hx, toVal_ok hb hy]
    simp only [Option.map_eq_some_iff] at h
    obtain ⟨c, h, rfl⟩ := h
    exact .of_pure h
  · unfold nilEq at h
    split at h
    · obtain ⟨e, hu⟩ : ∃ e, P.underlying t = some (.pointer e) := ⟨_, by assumption⟩
      split at h
      · rename_i hr
        obtain ⟨a, rfl⟩ := isRef_inv hr hx
        rw [hy.val_inv]
        exact cmp_run h (fun op => by cases op <;> rfl) (equal_run fun d w => by rw [Op.equalIn]; simp [run_underlying hu]) rfl rfl
      · cases h
    · obtain ⟨e, hu⟩ : ∃ e, P.underlying t = some (.pointer e) := ⟨_, by assumption⟩
      split at h
      · rename_i hr
        obtain ⟨a, rfl⟩ := isRef_inv hr hy
        rw [hx.val_inv]
        exact cmp_run h (fun op => by cases op <;> rfl) (equal_run fun d w => by rw [Op.equalIn]; simp [run_underlying hu]) rfl rfl
      · cases h
    · obtain ⟨k, e, hu⟩ : ∃ k e, P.underlying t = some (.map k e) := ⟨_, _, by assumption⟩
      obtain ⟨b, _, rfl⟩ := hx.map_inv
      rw [hy.val_inv]
      exact cmp_run h (fun op => by cases op <;> rfl) (equal_run fun d w => by rw [Op.equalIn]; simp [run_underlying hu]) rfl rfl
    · obtain ⟨k, e, hu⟩ : ∃ k e, P.underlying t = some (.map k e) := ⟨_, _, by assumption⟩
      obtain ⟨b, _, rfl⟩ := hy.map_inv
      rw [hx.val_inv]
      exact cmp_run h (fun op => by cases op <;> rfl) (equal_run fun d w => by rw [Op.equalIn]; simp [run_underlying hu]) rfl rfl
    · obtain ⟨a, b, c, hu⟩ : ∃ a b c, P.underlying t = some (.func a b c) := ⟨_, _, _, by assumption⟩
      obtain ⟨us, vs, rfl, _⟩ := hx.fn_inv
      rw [hy.val_inv]
      exact cmp_run h (fun op => by cases op <;> rfl) (equal_run fun d w => by rw [Op.equalIn]; simp [run_underlying hu]) rfl rfl
    · cases h

/-! #### Loads -/
def cellsAt (T : VT) : TV → Nat → Option (List TV)
  | .ptr id off, n => match T.objs[id]? with
    | some (.cells cs) => if off + n ≤ cs.length then some ((cs.drop off).take n) else none
    | some (.row cs) => if off + n ≤ cs.length then some ((cs.drop off).take n) else none
    | _ => none
  | .elt cs, n => if n ≤ cs.length then some (cs.take n) else none
  | _, _ => none
def vload (P : Program) (T : VT) (t : TypeId) (x : TV) : Option TV := match P.underlying t, P.info? t with
  | some d, some i => if isAggD d then (cellsAt T x i.size).map .agg else match cellsAt T x 1 with
    | some [y] => some y
    | _ => none
  | _, _ => none
theorem Addr.add_none (b o j : Nat) : (⟨b, o, none⟩ : Addr).add j = ⟨b, o + j, none⟩ := by unfold Addr.add; split <;> simp_all
theorem cellsAt_ok (r : RW g T w) {x : TV} {n : Nat} {cs : List TV} {u : Value} (h : cellsAt T x n = some cs) (hx : VR g w x u) :
    ∃ b o us, u = .pointer (some ⟨b, o, none⟩) ∧ VRs g w cs us ∧ cs.length = n ∧ ∀ w', Same g T w w' → ∀ (j : Nat) v, us[j]? = some v → w'.cell? ⟨b, o + j, none⟩ = some v := by
  cases x <;> simp only [cellsAt] at h <;> try cases h
  · rename_i id off
    split at h
    · rename_i cs' hid
      split at h
      · rename_i hle
        injection h with h; subst h
        obtain ⟨b, hb, rfl⟩ := hx.ptr_inv
        obtain ⟨b', h1, ⟨us, t, h2, h3, _⟩, _⟩ := r.obj id _ hid rfl
        rw [hb] at h1; injection h1 with h1; subst h1
        refine ⟨b, off, (us.drop off).take n, rfl, (h3.drop off).take n, by simp; omega, fun w' hs j v hv => ?_⟩
        rw [World.cell?, hs.obj id _ b hid rfl hb, h2]
        simp only [List.getElem?_take, List.getElem?_drop] at hv
        split at hv
        · simpa using hv
        · cases hv
      · cases h
    · rename_i cs' hid
      split at h
      · rename_i hle
        injection h with h; subst h
        obtain ⟨b, hb, rfl⟩ := hx.ptr_inv
        obtain ⟨b', h1, ⟨us, t, h2, h3, h4, _⟩, _⟩ := r.obj id _ hid rfl
        rw [hb] at h1; injection h1 with h1; subst h1
        refine ⟨b, off, ((us.take cs'.length).drop off).take n, rfl, (h4.drop off).take n, by simp; omega, fun w' hs j v hv => ?_⟩
        rw [World.cell?, hs.obj id _ b hid rfl hb, h2]
        simp only [List.getElem?_take, List.getElem?_drop] at hv
        split at hv
        · split at hv
          · simpa using hv
          · cases hv
        · cases hv
      · cases h
    · cases h
  · rename_i cs'
    split at h
    · rename_i hle
      injection h with h; subst h
      obtain ⟨b, o, us, rfl, h1, h2, h3, _⟩ := hx.elt_inv
      refine ⟨b, o, us.take n, rfl, h1.take n, by simp; omega, fun w' hs j v hv => ?_⟩
      simp only [List.getElem?_take] at hv
      split at hv
      · rw [hs.st _ _ (h2 j (by rw [← h1.1]; exact (List.getElem?_eq_some_iff.1 hv).1))]
        exact h3 j v hv
      · cases hv
    · cases h
theorem vload_ok (r : RW g T w) {t : TypeId} {x y : TV} {u : Value} (h : vload P T t x = some y) (hx : VR g w x u) : Looks P g T w (Instr.loadAt t u) y := by
  unfold vload at h
  split at h
  · rename_i d i hd hi
    split at h
    · rename_i hag
      simp only [Option.map_eq_some_iff] at h
      obtain ⟨cs, h, rfl⟩ := h
      obtain ⟨b, o, us, rfl, h1, h2, h3⟩ := cellsAt_ok r h hx
      refine ⟨.agg us.toArray, .mk_agg h1, fun w' hs => ?_⟩
      have hl : (loadCells ⟨b, o, none⟩ us.length).run P w' = .ok us.toArray w' := run_loadCells_list (P := P) w' ⟨b, o, none⟩ us (fun j v hv => by rw [Addr.add_none]; exact h3 w' hs j v hv)
      rw [h1.1, h2] at hl
      simp [Instr.loadAt, Instr.sureAddr, loadVar, run_isAgg hd, hag, run_size hi, hl]
    · rename_i hag
      split at h
      · rename_i y' hc
        injection h with h; subst h
        obtain ⟨b, o, us, rfl, h1, h2, h3⟩ := cellsAt_ok r hc hx
        obtain ⟨v, hv, hvr⟩ := h1.at (j := 0) rfl
        refine ⟨v, hvr, fun w' hs => ?_⟩
        have := h3 w' hs 0 v hv
        simp only [Nat.add_zero] at this
        simp [Instr.loadAt, Instr.sureAddr, loadVar, run_isAgg hd, hag, run_load, this]
      · cases h
  · cases h

/-! #### Addresses, parts -/
def vfieldAddr (P : Program) (s : TypeId) (x : TV) (f : Nat) : Option TV := match P.underlying s with
  | some (.struct fs) => match fs[f]? with
    | some fd => match P.info? fd.type with
      | some i => if i.size = 0 then none else match x with
        | .ptr id off => some (.ptr id (off + fd.offset))
        | .elt cs => if fd.offset ≤ cs.length then some (.elt (cs.drop fd.offset)) else none
        | _ => none
      | none => none
    | none => none
  | _ => none
theorem VR.elt_drop {cs : List TV} {b o k : Nat} (hk : k ≤ cs.length) (h : VR g w (.elt cs) (.pointer (some ⟨b, o, none⟩))) : VR g w (.elt (cs.drop k)) (.pointer (some ⟨b, o + k, none⟩)) := by
  obtain ⟨b', o', us, e, h1, h2, h3, h4⟩ := h.elt_inv
  injection e with e; injection e with e; injection e with e1 e2; subst e1 e2
  refine .mk_elt (h1.drop k) (fun j hj => ?_) (fun j u hu => ?_) (fun u hu => h4 u (List.mem_of_mem_drop hu))
  · rw [Nat.add_assoc]; exact h2 _ (by simp at hj; omega)
  · rw [Nat.add_assoc]; exact h3 _ u (by simpa using hu)
theorem vfieldAddr_ok {s : TypeId} {x y : TV} {f : Nat} {u : Value} (h : vfieldAddr P s x f = some y) (hx : VR g w x u) : Looks0 P g w (Instr.fieldAt s u f) y := by
  unfold vfieldAddr at h
  split at h
  · rename_i fs hs
    split at h
    · rename_i fd hf
      split at h
      · rename_i i hi
        split at h
        · cases h
        · rename_i hz
          split at h
          · injection h with h; subst h
            obtain ⟨b, hb, rfl⟩ := hx.ptr_inv
            exact .of_ok (.ptr hb) fun w' => by simp [Instr.fieldAt, run_underlying hs, hf, Instr.sureAddr, fieldPlace, run_size hi, hz, Addr.add_none]
          · split at h
            · rename_i cs hle
              injection h with h; subst h
              obtain ⟨b, o, us, rfl, h1, h2, h3, _⟩ := hx.elt_inv
              exact .of_ok (hx.elt_drop hle) fun w' => by simp [Instr.fieldAt, run_underlying hs, hf, Instr.sureAddr, fieldPlace, run_size hi, hz, Addr.add_none]
            · cases h
          · cases h
      · cases h
    · cases h
  · cases h
/-- a part of a row of cells -/
def vpart (P : Program) (t : TypeId) (cs : List TV) (off : Nat) : Option TV := match P.underlying t, P.info? t with
  | some d, some i => if isAggD d then (if off + i.size ≤ cs.length then some (.agg ((cs.drop off).take i.size)) else none) else cs[off]?
  | _, _ => none
theorem vpart_ok {t : TypeId} {cs : List TV} {us : List Value} {off : Nat} {y : TV} (h : vpart P t cs off = some y) (hx : VRs g w cs us) : Looks0 P g w (part t us.toArray off) y := by
  unfold vpart at h
  split at h
  · rename_i d i hd hi
    split at h
    · rename_i hag
      split at h
      · injection h with h; subst h
        refine .of_ok (.mk_agg ((hx.drop off).take i.size)) fun w' => ?_
        simp [part, run_isAgg hd, hag, run_size hi, List.extract_eq_take_drop]
      · cases h
    · rename_i hag
      obtain ⟨v, hv, hvr⟩ := hx.at h
      exact .of_ok hvr fun w' => by simp [part, run_isAgg hd, hag, hv]
  · cases h
def vfield (P : Program) (t : TypeId) (x : TV) (f : Nat) : Option TV := match P.underlying t, x with
  | some (.struct fs), .agg cs => match fs[f]? with
    | some fd => vpart P fd.type cs fd.offset
    | none => none
  | _, _ => none
theorem Looks.run {s : Sem Value} {y : TV} (h : Looks P g T w s y) : ∃ v, VR g w y v ∧ s.run P w = .ok v w := by obtain ⟨v, h1, h2⟩ := h; exact ⟨v, h1, h2 w (Same.refl _ _ _)⟩
theorem vfield_ok {t : TypeId} {x y : TV} {f : Nat} {u : Value} (h : vfield P t x f = some y) (hx : VR g w x u) : Looks0 P g w (Instr.field t u f) y := by
  unfold vfield at h
  split at h
  · rename_i fs cs hs
    split at h
    · rename_i fd hf
      obtain ⟨us, rfl, h1⟩ := hx.agg_inv
      obtain ⟨v, h2, h3⟩ := vpart_ok h h1
      exact ⟨v, h2, fun w' => by simp [Instr.field, run_underlying hs, hf, asAgg, h3 w']⟩
    · cases h
  · cases h
def vindexAddr (P : Program) (t : TypeId) (x i : TV) : Option TV := match i with
  | .val (.int _ z) => match P.underlying t with
    | some (.slice e) => match P.info? e with
      | some inf => match x with
        | .vec size es _ => if inf.size = size then (if 0 ≤ z then (es[z.toNat]?).map .elt else none) else none
        | .sl id off n _ => if 0 ≤ z ∧ z < n then some (.ptr id (off + z.toNat * inf.size)) else none
        | _ => none
      | none => none
    | some (.array n e) => match P.info? e with
      | some inf => if 0 ≤ z ∧ z < n then (match x with
        | .ptr id off => some (.ptr id (off + z.toNat * inf.size))
        | .elt cs => if z.toNat * inf.size ≤ cs.length then some (.elt (cs.drop (z.toNat * inf.size))) else none
        | _ => none) else none
      | none => none
    | _ => none
  | _ => none
theorem flatten_at {size : Nat} {es : List (List TV)} {k : Nat} {e : List TV} (hz : ∀ e ∈ es, e.length = size) (h : es[k]? = some e) : (es.flatten.drop (k * size)).take size = e := by
  have hk := (List.getElem?_eq_some_iff.1 h).1
  rw [flatten_drop k hz (Nat.le_of_lt hk), List.drop_eq_getElem_cons hk]
  have h2 : es[k] = e := (List.getElem?_eq_some_iff.1 h).2
  rw [h2, List.flatten_cons, List.take_append_of_le_length (by rw [hz e (h2 ▸ List.getElem_mem hk)]; exact Nat.le_refl _), List.take_of_length_le (by rw [hz e (h2 ▸ List.getElem_mem hk)]; exact Nat.le_refl _)]
theorem VR.vec_at {size : Nat} {es : List (List TV)} {tok : Tok} {u : Value} (h : VR g w (.vec size es tok) u) {k : Nat} {e : List TV} (he : es[k]? = some e) :
    ∃ b o c, u = .slice (some ⟨b, o, none⟩) es.length c ∧ VR g w (.elt e) (.pointer (some ⟨b, o + k * size, none⟩)) := by
  have hk := (List.getElem?_eq_some_iff.1 he).1
  rcases h.vec_inv with ⟨_, rfl, _⟩ | ⟨b, o, c, us, rfl, h1, h2, h3, h4, h5, h6, h7, h8⟩
  · simp at hk
  · refine ⟨b, o, c, rfl, ?_⟩
    have hf := flatten_len h3
    have hle : (k + 1) * size ≤ es.flatten.length := by rw [hf]; exact Nat.mul_le_mul_right _ hk
    rw [Nat.succ_mul] at hle
    have e1 := (h5.drop (k * size)).take size
    rw [flatten_at h3 he] at e1
    have hes : e.length = size := h3 e ((List.getElem?_eq_some_iff.1 he).2 ▸ List.getElem_mem hk)
    refine .mk_elt e1 (fun j hj => ?_) (fun j v hv => ?_) (fun u hu => h8 u (List.mem_of_mem_drop (List.mem_of_mem_take hu)))
    · rw [Nat.add_assoc]; exact h6 _ (by omega)
    · rw [Nat.add_assoc]
      simp only [List.getElem?_take, List.getElem?_drop] at hv
      split at hv
      · exact h7 _ v hv
      · cases hv
theorem vindexAddr_ok {t : TypeId} {x i y : TV} {u v : Value} (h : vindexAddr P t x i = some y) (hx : VR g w x u) (hi : VR g w i v) : Looks0 P g w (Instr.indexAt t u v) y := by
  unfold vindexAddr at h
  split at h
  · rename_i k z
    rw [hi.val_inv]
    split at h
    · rename_i e hu
      split at h
      · rename_i inf hinf
        split at h
        · rename_i size es tok
          split at h
          · rename_i hsz
            split at h
            · rename_i hz0
              simp only [Option.map_eq_some_iff] at h
              obtain ⟨e', he, rfl⟩ := h
              have hk := (List.getElem?_eq_some_iff.1 he).1
              obtain ⟨b, o, c, rfl, h1⟩ := hx.vec_at he
              have hlt : z < (es.length : Int) := by omega
              exact .of_ok h1 fun w' => by simp [Instr.indexAt, asIntOf, run_underlying hu, hz0, hlt, run_size hinf, Addr.add_none, hsz]
            · cases h
          · cases h
        · rename_i id off n cap
          split at h
          · rename_i hz
            injection h with h; subst h
            obtain ⟨b, hb, rfl⟩ := hx.sl_inv
            exact .of_ok (.ptr hb) fun w' => by simp [Instr.indexAt, asIntOf, run_underlying hu, hz.1, hz.2, run_size hinf, Addr.add_none]
          · cases h
        · cases h
      · cases h
    · rename_i n e hu
      split at h
      · rename_i inf hinf
        split at h
        · rename_i hz
          split at h
          · injection h with h; subst h
            obtain ⟨b, hb, rfl⟩ := hx.ptr_inv
            exact .of_ok (.ptr hb) fun w' => by simp [Instr.indexAt, asIntOf, run_underlying hu, Instr.sureAddr, hz.1, hz.2, run_size hinf, Addr.add_none]
          · split at h
            · rename_i cs hle
              injection h with h; subst h
              obtain ⟨b, o, us, rfl, _⟩ := hx.elt_inv
              exact .of_ok (hx.elt_drop hle) fun w' => by simp [Instr.indexAt, asIntOf, run_underlying hu, Instr.sureAddr, hz.1, hz.2, run_size hinf, Addr.add_none]
            · cases h
          · cases h
        · cases h
      · cases h
    · cases h
  · cases h
end
end Go.Proofs.YtapfboldkkodkaaGreatDoor
