/- Operations and regions for the evaluator: what it reckons of them is so. For any program. -/
import Derived.Test.YtapfboldkkodkaaGreatDoorVs
import Derived.Test.YtapfboldkkodkaaGreatDoorVrz
import Derived.Test.YtapfboldkkodkaaGreatDoorVext
import Derived.Test.YtapfboldkkodkaaGreatDoorVcp
import Derived.Test.YtapfboldkkodkaaGreatDoorVsl
import Derived.RangeFuncLeaves
import Derived.RangeFuncRecord
import Derived.RangeFuncCalls
namespace Go.Proofs.YtapfboldkkodkaaGreatDoor
open Go.RowKit

section
variable {P : Program}
/-! ### Package-level variables that are known -/
abbrev Globs := Nat → Option (List TV)
def GOk (G : Globs) (g : Gh) (w : World) : Prop := ∀ n cs, G n = some cs → VR g w (.elt cs) (.pointer (some ⟨n, 0, none⟩))
theorem GOk.mono {G : Globs} {g g' : Gh} {w w' : World} (h : GOk G g w) (e : Evo g w g' w') : GOk G g' w' := fun n cs hn => (h n cs hn).mono e
def vev (G : Globs) (σ : List TV) : Operand → TV
  | .tmp t => σ.getD t .dead
  | .const v => .val v
  | .global n => match G n with
    | some cs => .elt cs
    | none => .val (.pointer (some ⟨n, 0, none⟩))
  | .func f => .fn (.func f) [] []
theorem vev_ok {G : Globs} {g : Gh} {w : World} {σ : List TV} {a : Act} (hG : GOk G g w) (h : VRs g w σ a.tmps.toList) (x : Operand) : VR g w (vev G σ x) (a.eval x) := by
  cases x with
  | global n =>
    simp only [vev]
    split
    · rename_i cs hn; exact hG n cs hn
    · exact .val _
  | tmp t => exact veval_ok h (.tmp t)
  | const v => exact veval_ok h (.const v)
  | func f => exact veval_ok h (.func f)

/-! ### All operations -/
/-- a slice held against nil -/
def vNil (P : Program) (op : BinOp) (t : TypeId) (x y : TV) : Option TV := match P.underlying t, y with
  | some (.slice _), .val (.slice none _ _) => match x with
    | .row .. => cmpBool op false
    | .sl .. => cmpBool op false
    | .vec _ (_ :: _) _ => cmpBool op false
    | _ => none
  | _, _ => none
theorem vNil_ok {g : Gh} {w : World} {op : BinOp} {t : TypeId} {xo yo : Operand} {x y r : TV} {u v : Value} (h : vNil P op t x y = some r) (hx : VR g w x u) (hy : VR g w y v) :
    Looks0 P g w (do eqGuard op t xo yo u v; binOp op t u v) r := by
  unfold vNil at h
  split at h
  · rename_i e n c hu
    rw [hy.val_inv]
    have go : ∀ a m k, u = .slice (some a) m k → cmpBool op false = some r → Looks0 P g w (do eqGuard op t xo yo u (.slice none n c); binOp op t u (.slice none n c)) r := by
      intro a m k h1 h2
      subst h1
      refine cmp_run h2 (fun op => by cases op <;> rfl) (fun w' => equal_run (fun d w => ?_) w') rfl rfl
      simp [Op.equalIn, run_underlying hu]
    split at h
    · obtain ⟨b, c', _, _, _, _, _, h1⟩ := hx.row_inv
      exact go _ _ _ h1 h
    · obtain ⟨b, _, h1⟩ := hx.sl_inv
      exact go _ _ _ h1 h
    · rcases hx.vec_inv with ⟨_, h2, _⟩ | ⟨b, o, c', us, h1, _⟩
      · cases h2
      · exact go _ _ _ h1 h
    · cases h
  · cases h
/-- an empty slice, nil or not, held against nil: either answer -/
def vNilE (P : Program) (op : BinOp) (t : TypeId) (x y : TV) : Bool := match P.underlying t, op, x, y with
  | some (.slice _), .eql, .vec _ [] _, .val (.slice none _ _) => true
  | some (.slice _), .neq, .vec _ [] _, .val (.slice none _ _) => true
  | _, _, _, _ => false
theorem vNilE_ok {g : Gh} {w : World} {op : BinOp} {t : TypeId} {xo yo : Operand} {x y : TV} {u v : Value} (h : vNilE P op t x y = true) (hx : VR g w x u) (hy : VR g w y v) :
    ∃ b, ∀ w', (do eqGuard op t xo yo u v; binOp op t u v : Sem Value).run P w' = .ok (.bool b) w' := by
  have go : ∀ {e size tok n c}, P.underlying t = some (.slice e) → x = .vec size [] tok → y = .val (.slice none n c) → (op = .eql ∨ op = .neq) → ∃ b, ∀ w', (do eqGuard op t xo yo u v; binOp op t u v : Sem Value).run P w' = .ok (.bool b) w' := by
    intro e size tok n c hu hx1 hy1 hop
    subst hx1 hy1
    rw [hy.val_inv]
    have fin : ∀ {a : Option Addr} {m k : Nat} {b : Bool}, (∀ w', (Op.equal t (.slice a m k) (.slice none n c)).run P w' = .ok b w') → ∃ b, ∀ w', (do eqGuard op t xo yo (.slice a m k) (.slice none n c); binOp op t (.slice a m k) (.slice none n c) : Sem Value).run P w' = .ok (.bool b) w' := by
      intro a m k b hb
      rcases hop with rfl | rfl
      · obtain ⟨v', hv', hr⟩ := cmp_run (P := P) (g := g) (w := w) (op := .eql) (t := t) (xo := xo) (yo := yo) (x := .val (.bool b)) (b := b) rfl (fun op => by cases op <;> rfl) hb rfl rfl
        exact ⟨b, by rw [hv'.val_inv] at hr; exact hr⟩
      · obtain ⟨v', hv', hr⟩ := cmp_run (P := P) (g := g) (w := w) (op := .neq) (t := t) (xo := xo) (yo := yo) (x := .val (.bool (!b))) (b := b) rfl (fun op => by cases op <;> rfl) hb rfl rfl
        exact ⟨!b, by rw [hv'.val_inv] at hr; exact hr⟩
    rcases hx.vec_inv with ⟨h1, _⟩ | ⟨b, o, c', us, h1, _⟩
    · rw [h1]
      exact fin (b := true) fun w' => equal_run (fun d w => by simp [Op.equalIn, run_underlying hu]) w'
    · rw [h1]
      exact fin (b := false) fun w' => equal_run (fun d w => by simp [Op.equalIn, run_underlying hu]) w'
  unfold vNilE at h
  split at h
  · rename_i hu; exact go hu rfl rfl (.inl rfl)
  · rename_i hu; exact go hu rfl rfl (.inr rfl)
  · cases h
/-- that look at no memory -/
def vpure2 (P : Program) (op : Op) (ev : Operand → TV) : Option TV := match op with
  | .binOp op t x y _ => match vEq P op t (ev x) (ev y) with
    | some r => some r
    | none => match vNil P op t (ev x) (ev y) with
      | some r => some r
      | none => vbin P op t x y (ev x) (ev y)
  | .sliceToArrayPointer t x => varrAt P t (ev x)
  | .index t x i => match vindexG P t (ev x) (ev i) with
    | some r => some r
    | none => vpure P (.index t x i) ev
  | .indexAddr t x i => match vindexR P t (ev x) (ev i) with
    | some r => some r
    | none => vindexAddr P t (ev x) (ev i)
  | .typeAssert x _ t ok => vassert P (ev x) t ok
  | .slice t x lo hi mx => match vslice3 P t (ev x) (lo.map ev) (hi.map ev) (mx.map ev) with
   | some r => some r
   | none => match vsliceR P t (ev x) (lo.map ev) (hi.map ev) (mx.map ev) with
    | some r => some r
    | none => match vsliceN P t (ev x) (lo.map ev) (hi.map ev) (mx.map ev) with
      | some r => some r
      | none => vslice P t (ev x) (lo.map ev) (hi.map ev) (mx.map ev)
  | .call c => match c.callee, c.argTypes.toList, c.args.toList with
    | .builtin .len, [t], [x] => (match vlenR P t (ev x) with
      | some r => some r
      | none => vpure P (.call c) ev)
    | .builtin .cap, [t], [x] => vcapN P t (ev x)
    | _, _, _ => none
  | .nilCheck x => match ev x with
    | .ptr a b => some (.ptr a b)
    | .elt cs => some (.elt cs)
    | _ => none
  | op => vpure P op ev
theorem vpure2_ok {g : Gh} {w : World} {o : Oper} {ev : Operand → TV} {ρ : Operand → Value} {y : TV} (h : vpure2 P o.op ev = some y) (hev : ∀ x, VR g w (ev x) (ρ x)) :
    ∃ v, VR g w y v ∧ ∀ w', (execOp ρ o).run P w' = .ok (.value v) w' := by
  have old : vpure P o.op ev = some y → ∃ v, VR g w y v ∧ ∀ w', (execOp ρ o).run P w' = .ok (.value v) w' := fun h => vpure_ok (P := P) h hev
  obtain ⟨dst, op, ty, pos, af, gd⟩ := o
  simp only at h old
  cases op <;> simp only [vpure2] at h <;> try (exact old h)
  case binOp op t x y' ty' =>
    split at h
    · rename_i r hr
      injection h with h; subst h
      exact (vEq_ok (P := P) (xo := x) (yo := y') hr (hev x) (hev y')).next rfl
    · split at h
      · rename_i r hr
        injection h with h; subst h
        exact (vNil_ok (P := P) (xo := x) (yo := y') hr (hev x) (hev y')).next rfl
      · exact old (by simpa only [vpure] using h)
  case nilCheck x =>
    clear old
    split at h
    · rename_i a b hc
      injection h with h; subst h
      have h1 := hev x
      rw [hc] at h1
      obtain ⟨c, hb, h2⟩ := h1.ptr_inv
      exact ⟨_, .ptr hb, fun w' => by simp [execOp, h2]⟩
    · rename_i cs hc
      injection h with h; subst h
      have h1 := hev x
      rw [hc] at h1
      have h3 := h1
      obtain ⟨b, o, us, h2, _⟩ := h1.elt_inv
      rw [h2] at h3
      exact ⟨_, h3, fun w' => by simp [execOp, h2]⟩
    · cases h
  case sliceToArrayPointer t x => exact (varrAt_ok (P := P) h (hev x)).next rfl
  case index t x i =>
    split at h
    · rename_i r hr
      injection h with h; subst h
      exact (vindexG_ok (P := P) hr (hev x) (hev i)).next rfl
    · exact old h
  case indexAddr t x i =>
    split at h
    · rename_i r hr
      injection h with h; subst h
      exact (vindexR_ok (P := P) hr (hev x) (hev i)).next rfl
    · exact old (by simpa only [vpure] using h)
  case typeAssert x tx t ok => exact (vassert_ok (P := P) (tx := tx) h (hev x)).next rfl
  case slice t x lo hi mx =>
    split at h
    · rename_i r hr
      injection h with h; subst h
      exact (vslice3_ok (P := P) hr (hev x) (BR.map hev lo) (BR.map hev hi) (BR.map hev mx)).next rfl
    · split at h
      · rename_i r hr
        injection h with h; subst h
        exact (vsliceR_ok (P := P) hr (hev x) (BR.map hev lo) (BR.map hev hi) (BR.map hev mx)).next rfl
      · split at h
        · rename_i r hr
          injection h with h; subst h
          exact (vsliceN_ok (P := P) hr (hev x) (BR.map hev lo) (BR.map hev hi) (BR.map hev mx)).next rfl
        · exact old (by simpa only [vpure] using h)
  case call c =>
    obtain ⟨cal, args, ats⟩ := c
    split at h
    · rename_i t x hc h1 h2
      simp only at hc h1 h2
      subst hc
      have e1 : ats = #[t] := by rw [← Array.toArray_toList (xs := ats), h1]
      have e2 : args = #[x] := by rw [← Array.toArray_toList (xs := args), h2]
      subst e1 e2
      split at h
      · rename_i r hr
        injection h with h; subst h
        exact (vlenR_ok (P := P) (ty := ty) hr (hev x)).next (by simp [execOp, resolve, invoke, builtin])
      · exact old h
    · rename_i t x hc h1 h2
      simp only at hc h1 h2
      subst hc
      have e1 : ats = #[t] := by rw [← Array.toArray_toList (xs := ats), h1]
      have e2 : args = #[x] := by rw [← Array.toArray_toList (xs := args), h2]
      subst e1 e2
      exact (vcapN_ok (P := P) (ty := ty) h (hev x)).next (by simp [execOp, resolve, invoke, builtin])
    · cases h
/-- that only read -/
def vread2 (P : Program) (T : VT) (op : Op) (ev : Operand → TV) : Option TV := match op with
  | .lookup t m k ok => vlookup P T t (ev m) (ev k) ok
  | .convert s d x => match vconvS P T s d (ev x) with
    | some r => some r
    | none => vread P T (.convert s d x) ev
  | op => vread P T op ev
theorem vread2_ok {g : Gh} {T : VT} {w : World} (r : RW g T w) {o : Oper} {ev : Operand → TV} {ρ : Operand → Value} {y : TV} (h : vread2 P T o.op ev = some y) (hev : ∀ x, VR g w (ev x) (ρ x)) :
    ∃ v, VR g w y v ∧ ∀ w', Same g T w w' → (execOp ρ o).run P w' = .ok (.value v) w' := by
  have old : vread P T o.op ev = some y → ∃ v, VR g w y v ∧ ∀ w', Same g T w w' → (execOp ρ o).run P w' = .ok (.value v) w' := fun h => vread_ok (P := P) r h hev
  obtain ⟨dst, op, ty, pos, af, gd⟩ := o
  simp only at h old
  cases op <;> simp only [vread2] at h <;> try (exact old h)
  case lookup t m k ok => exact (vlookup_ok (P := P) r h (hev m) (hev k)).next rfl
  case convert s d x =>
    split at h
    · rename_i y' hr
      injection h with h; subst h
      exact (vconvS_ok (P := P) r hr (hev x)).next rfl
    · exact old h
/-- a look-up in a map that was there as the region began -/
def vlate2 (P : Program) (T0 : VT) (op : Op) (ev : Operand → TV) : Option TV := match op with
  | .lookup t m k ok => match ev m with
    | .map id => vlookup P T0 t (.map id) (ev k) ok
    | _ => none
  | op => vlate P T0 op ev
theorem vlookup_live {T : VT} {t : TypeId} {id : Nat} {k y : TV} {ok : Bool} (h : vlookup P T t (.map id) k ok = some y) : (∃ o, T.objs[id]? = some o ∧ o.live = true) ∧ ∃ kv, toVal k = some kv := by
  unfold vlookup at h
  split at h
  · rename_i hkv
    refine ⟨?_, _, hkv⟩
    split at h
    · split at h
      · rename_i sh _ _ _ _ _ _
        generalize KS.fits _ _ = b at h
        cases b with
        | false => cases h
        | true =>
          simp only [cond_true] at h
          split at h
          · exact ⟨_, by assumption, rfl⟩
          · cases h
      · cases h
    · cases h
  · cases h
theorem vr_val_of {g g' : Gh} {w w' : World} {x : TV} {v u : Value} (h : toVal x = some v) (hx : VR g w x u) : VR g' w' x u := by
  have e := toVal_ok h hx
  subst e
  unfold toVal at h
  split at h
  · injection h with h; subst h; exact .val _
  · simp only [Option.map_eq_some_iff] at h
    obtain ⟨vs, h, e⟩ := h
    subst e
    have key : ∀ {cs : List TV} {vs : List Value}, valsOf cs = some vs → cs = vs.map .val := by
      intro cs
      induction cs with
      | nil => intro vs h; injection h with h; subst h; rfl
      | cons c cs ih =>
        intro vs h
        cases c <;> simp [valsOf] at h
        obtain ⟨a, h, rfl⟩ := h
        rw [ih h]; rfl
    rw [key h]
    exact .mk_agg (VRs.vals g' w' vs)
  · cases h
theorem vlate2_ok {g0 g : Gh} {T0 : VT} {w0 w : World} (r0 : RW g0 T0 w0) (e : Evo g0 w0 g w) {o : Oper} {ev : Operand → TV} {ρ : Operand → Value} {y : TV} (h : vlate2 P T0 o.op ev = some y) (hev : ∀ x, VR g w (ev x) (ρ x)) :
    ∃ v, VR g w y v ∧ ∀ w', Same g0 T0 w0 w' → (execOp ρ o).run P w' = .ok (.value v) w' := by
  have old : vlate P T0 o.op ev = some y → ∃ v, VR g w y v ∧ ∀ w', Same g0 T0 w0 w' → (execOp ρ o).run P w' = .ok (.value v) w' := fun h => vlate_ok (P := P) r0 e h hev
  obtain ⟨dst, op, ty, pos, af, gd⟩ := o
  simp only at h old
  cases op <;> simp only [vlate2] at h <;> try (exact old h)
  case lookup t m k ok =>
    split at h
    · rename_i id hm
      have h1 := hev m
      rw [hm] at h1
      obtain ⟨b, hb, hu⟩ := h1.map_inv
      obtain ⟨⟨oo, ho, hol⟩, kv, hkv⟩ := vlookup_live h
      obtain ⟨b0, hb0, _⟩ := r0.obj id _ ho hol
      have := e.obj id b0 hb0
      rw [hb] at this; injection this with this; subst this
      have h2 : VR g0 w0 (.map id) (ρ m) := by rw [hu]; exact .map hb0
      obtain ⟨v, h3, h4⟩ := vlookup_ok (P := P) r0 h h2 (vr_val_of hkv (hev k))
      exact ⟨v, h3.mono e, fun w' hs => by simp [execOp, h4 w' hs]⟩
    · cases h
/-- that make or turn -/
def vmore (P : Program) (ro : Nat) (T : VT) (op : Op) (ev : Operand → TV) : Option (TV × VT) := match op with
  | .makeSlice t l c => vmakeR P T t (ev l) (ev c)
  | .store t a x => vstoreR P ro T t (ev a) (ev x)
  | .mapUpdate t m k v => vmapPut P ro T t (ev m) (ev k) (ev v)
  | .makeMap t r => vmakeMap P T t (r.map ev)
  | .call c => match c.callee, c.argTypes.toList, c.args.toList with
    | .builtin .append, [t, tx], [s, x] => bif isSl (P.underlying tx) then (match vappS P T t tx (ev s) (ev x) with
      | some r => some r
      | none => vappR P ro T t tx (ev s) (ev x)) else vappZ P T t tx (ev s) (ev x)
    | .builtin .copy, [t, tx], [s, x] => vcopyR P ro T t tx (ev s) (ev x)
    | _, _, _ => none
  | _ => none
theorem vmore_ok {ro : Nat} {g : Gh} {T T' : VT} {w : World} (r : RW g T w) {o : Oper} {ev : Operand → TV} {ρ : Operand → Value} {y : TV} (hp : vmore P ro T o.op ev = some (y, T')) (hev : ∀ x, VR g w (ev x) (ρ x)) :
    ∃ m v g' w', (execOp ρ o).run P w = .ok m w' ∧ nextVal m = some v ∧ VR g' w' y v ∧ Evo g w g' w' ∧ RW g' T' w' ∧ Fix ro g T w T' w' := by
  obtain ⟨dst, op, ty, pos, af, gd⟩ := o
  simp only at hp
  cases op <;> simp only [vmore] at hp <;> try (cases hp)
  case makeSlice t l c =>
    obtain ⟨h1, h2⟩ := vmakeR_ok (P := P) r hp (hev l) (hev c)
    obtain ⟨v, g', w', k1, k2, k3, k4, k5⟩ := h1
    exact ⟨.value v, v, g', w', by simp [execOp, k1], rfl, k2, k3, k4, Fix.of_same k5 h2⟩
  case store t a x =>
    obtain ⟨g', w', h2, h3, h4, h5, h6⟩ := vstoreR_ok (P := P) r hp (hev a) (hev x)
    exact ⟨.skip, undef, g', w', by simp [execOp, h2], rfl, h3, h4, h5, h6⟩
  case mapUpdate t m k v =>
    obtain ⟨g', w', h2, h3, h4, h5, h6⟩ := vmapPut_ok (P := P) r hp (hev m) (hev k) (hev v)
    exact ⟨.skip, undef, g', w', by simp [execOp, h2], rfl, h3, h4, h5, h6⟩
  case makeMap t rr =>
    obtain ⟨h1, h2⟩ := vmakeMap_ok (P := P) r hp (BR.map hev rr)
    obtain ⟨v, g', w', k1, k2, k3, k4, k5⟩ := h1
    exact ⟨.value v, v, g', w', by simp [execOp, k1], rfl, k2, k3, k4, Fix.of_same k5 h2⟩
  case call c =>
    obtain ⟨cal, args, ats⟩ := c
    split at hp
    · rename_i t tx s x hc h1 h2
      simp only at hc h1 h2
      subst hc
      have e1 : ats = #[t, tx] := by rw [← Array.toArray_toList (xs := ats), h1]
      have e2 : args = #[s, x] := by rw [← Array.toArray_toList (xs := args), h2]
      subst e1 e2
      cases hk : isSl (P.underlying tx) with
      | false =>
        rw [hk] at hp
        obtain ⟨u, g', w', k1, k2, k3, k4, k5⟩ := vappZ_ok (P := P) (ro := ro) (ty := ty) r hp (hev s) (hev x)
        exact ⟨.value u, u, g', w', by simp [execOp, resolve, invoke, builtin, k1], rfl, k2, k3, k4, k5⟩
      | true =>
        rw [hk] at hp
        simp only [cond_true] at hp
        split at hp
        · rename_i q hq
          injection hp with hp; subst hp
          obtain ⟨u, g', w', k1, k2, k3, k4, k5⟩ := vappS_ok (P := P) (ro := ro) (ty := ty) r hq (hev s) (hev x) hk
          exact ⟨.value u, u, g', w', by simp [execOp, resolve, invoke, builtin, k1], rfl, k2, k3, k4, k5⟩
        obtain ⟨u, g', w', k1, k2, k3, k4, k5⟩ := vappR_ok (P := P) (ty := ty) r hp (hev s) (hev x) hk
        exact ⟨.value u, u, g', w', by simp [execOp, resolve, invoke, builtin, k1], rfl, k2, k3, k4, k5⟩
    · rename_i t tx s x hc h1 h2
      simp only at hc h1 h2
      subst hc
      have e1 : ats = #[t, tx] := by rw [← Array.toArray_toList (xs := ats), h1]
      have e2 : args = #[s, x] := by rw [← Array.toArray_toList (xs := args), h2]
      subst e1 e2
      obtain ⟨u, g', w', k1, k2, k3, k4, k5⟩ := vcopyR_ok (P := P) (ty := ty) r hp (hev s) (hev x)
      exact ⟨.value u, u, g', w', by simp [execOp, resolve, invoke, builtin, k1], rfl, k2, k3, k4, k5⟩
    · cases hp
/-- an operation that is no call of a function -/
def vopA (P : Program) (ro : Nat) (T : VT) (op : Op) (ev : Operand → TV) : Option (TV × VT) := match vpure2 P op ev with
  | some x => some (x, T)
  | none => match vread2 P T op ev with
    | some x => some (x, T)
    | none => match vmore P ro T op ev with
      | some r => some r
      | none => bif vfree ro op ev then vop P T op ev else none
theorem vopA_ok {ro : Nat} {g : Gh} {T T' : VT} {w : World} (r : RW g T w) {o : Oper} {ev : Operand → TV} {ρ : Operand → Value} {y : TV} (h : vopA P ro T o.op ev = some (y, T')) (hev : ∀ x, VR g w (ev x) (ρ x)) :
    ∃ m v g' w', (execOp ρ o).run P w = .ok m w' ∧ nextVal m = some v ∧ VR g' w' y v ∧ Evo g w g' w' ∧ RW g' T' w' ∧ Fix ro g T w T' w' := by
  unfold vopA at h
  split at h
  · rename_i x hx
    injection h with h; injection h with e1 e2; subst e1 e2
    obtain ⟨v, h1, h2⟩ := vpure2_ok (P := P) hx hev
    exact ⟨_, v, g, w, h2 w, rfl, h1, Evo.refl _ _, r, Fix.refl _ _ _ _⟩
  · split at h
    · rename_i x hx
      injection h with h; injection h with e1 e2; subst e1 e2
      obtain ⟨v, h1, h2⟩ := vread2_ok (P := P) r hx hev
      exact ⟨_, v, g, w, h2 w (Same.refl _ _ _), rfl, h1, Evo.refl _ _, r, Fix.refl _ _ _ _⟩
    · split at h
      · rename_i p hp
        injection h with h; subst h
        exact vmore_ok r hp hev
      · cases hf : vfree ro o.op ev with
        | false => rw [hf] at h; cases h
        | true =>
          rw [hf] at h
          exact vop_fix (P := P) r hf h hev
end
end Go.Proofs.YtapfboldkkodkaaGreatDoor
