/- Texts of this proof, part 3. -/
import Derived.Test.YtgconkbnokbinaaMb1
import Derived.Test.YtgconkbnokbinaaMb2
import Derived.RangeFuncLeaves
import Derived.RangeFuncRecord
import Derived.RangeFuncCalls
import Derived.OrdersIn
/- Operations and regions for the evaluator: what it reckons of them is so. For any program. -/
namespace Go.Proofs.Ytgconkbnokbinaa
open Go.RowKit

section
variable {P : Program}
/-! ### Package-level variables that are known -/
abbrev Globs := Nat → Option (List TV)
def GOk (G : Globs) (g : Gh) (w : World) : Prop := ∀ n cs, G n = some cs → VR g w (.elt cs) (.pointer (some ⟨n, 0, none⟩))
theorem GOk.mono {G : Globs} {g g' : Gh} {w w' : World} (h : GOk G g w) (e : Evo g w g' w') : GOk G g' w' := fun n cs hn => (h n cs hn).mono e
def vev (G : Globs) (σ : List TV) : Operand → TV
  | .tmp t => σ.getD t .dead
  | .const v => .val v
  | .global n => match G n with
    | some cs => .elt cs
    | none => .val (.pointer (some ⟨n, 0, none⟩))
  | .func f => .fn (.func f) [] []
theorem vev_ok {G : Globs} {g : Gh} {w : World} {σ : List TV} {a : Act} (hG : GOk G g w) (h : VRs g w σ a.tmps.toList) (x : Operand) : VR g w (vev G σ x) (a.eval x) := by
  cases x with
  | global n =>
    simp only [vev]
    split
    · rename_i cs hn; exact hG n cs hn
    · exact .val _
  | tmp t => exact veval_ok h (.tmp t)
  | const v => exact veval_ok h (.const v)
  | func f => exact veval_ok h (.func f)

/-! ### All operations -/
/-- a slice held against nil -/
def vNil (P : Program) (op : BinOp) (t : TypeId) (x y : TV) : Option TV := match P.underlying t, y with
  | some (.slice _), .val (.slice none _ _) => match x with
    | .row .. => cmpBool op false
    | .sl .. => cmpBool op false
    | .vec _ (_ :: _) _ => cmpBool op false
    | .vec _ [] .full => cmpBool op false
    | .vec _ [] .live => cmpBool op false
    | .vec _ [] (.past _ _) => cmpBool op false
    | _ => none
  | some (.pointer e), .ptr j o2 => (match x with
    | .ptr i o1 => bif Nat.beq i j then (match P.info? e with
      | some inf => bif Nat.beq inf.size 0 then none else cmpBool op (Nat.beq o1 o2)
      | none => none) else none
    | _ => none)
  | _, _ => none
theorem vNil_ok {g : Gh} {w : World} {op : BinOp} {t : TypeId} {xo yo : Operand} {x y r : TV} {u v : Value} (h : vNil P op t x y = some r) (hx : VR g w x u) (hy : VR g w y v) :
    Looks0 P g w (do eqGuard op t xo yo u v; binOp op t u v) r := by
  unfold vNil at h
  split at h
  · rename_i e n c hu
    rw [hy.val_inv]
    have go : ∀ a m k, u = .slice (some a) m k → cmpBool op false = some r → Looks0 P g w (do eqGuard op t xo yo u (.slice none n c); binOp op t u (.slice none n c)) r := by
      intro a m k h1 h2
      subst h1
      refine cmp_run h2 (fun op => by cases op <;> rfl) (fun w' => equal_run (fun d w => ?_) w') rfl rfl
      simp [Op.equalIn, run_underlying hu]
    split at h
    · obtain ⟨b, c', _, _, _, _, _, h1⟩ := hx.row_inv
      exact go _ _ _ h1 h
    · obtain ⟨b, _, h1⟩ := hx.sl_inv
      exact go _ _ _ h1 h
    · rcases hx.vec_inv with ⟨_, h2, _⟩ | ⟨b, o, c', us, h1, _⟩ | ⟨_, _, h2, _⟩
      · cases h2
      · exact go _ _ _ h1 h
      · cases h2
    · rcases hx.vec_inv with ⟨_, _, h2⟩ | ⟨b, o, c', us, h1, _⟩ | ⟨a, h1, _⟩
      · exact h2.elim
      · exact go _ _ _ h1 h
      · exact go _ _ _ h1 h
    · rcases hx.vec_inv with ⟨_, _, h2⟩ | ⟨b, o, c', us, h1, _⟩ | ⟨a, h1, _⟩
      · exact h2.elim
      · exact go _ _ _ h1 h
      · exact go _ _ _ h1 h
    · rcases hx.vec_inv with ⟨_, _, h2⟩ | ⟨b, o, c', us, h1, _⟩ | ⟨a, h1, _⟩
      · exact h2.elim
      · exact go _ _ _ h1 h
      · exact go _ _ _ h1 h
    · cases h
  · rename_i e j o2 hu
    split at h
    · rename_i i o1
      cases hb : Nat.beq i j with
      | false => rw [hb] at h; cases h
      | true =>
        rw [hb] at h
        have hij := Nat.eq_of_beq_eq_true hb
        subst hij
        simp only [cond_true] at h
        split at h
        · rename_i inf hinf
          cases hz : Nat.beq inf.size 0 with
          | true => rw [hz] at h; cases h
          | false =>
            rw [hz] at h
            simp only [cond_false] at h
            obtain ⟨b, hb1, rfl⟩ := hx.ptr_inv
            obtain ⟨b', hb2, rfl⟩ := hy.ptr_inv
            rw [hb1] at hb2; injection hb2 with hb2; subst hb2
            have hs : inf.size ≠ 0 := fun e => by rw [e] at hz; cases hz
            have hq : ((⟨b, o1, none⟩ : Addr) == ⟨b, o2, none⟩) = Nat.beq o1 o2 := by
              cases ho : Nat.beq o1 o2 with
              | true => rw [Nat.eq_of_beq_eq_true ho]; simp
              | false =>
                have : o1 ≠ o2 := fun e => by rw [e, Nat.beq_refl] at ho; cases ho
                simp [this]
            refine cmp_run h (fun op => by cases op <;> rfl) (fun w' => equal_run (fun d w => ?_) w') rfl rfl
            simp [Op.equalIn, run_underlying hu, run_size hinf, hs, sameAddr, hq]
        · cases h
    · cases h
  · cases h
/-- an empty slice, nil or not, held against nil: either answer -/
def vNilE (P : Program) (op : BinOp) (t : TypeId) (x y : TV) : Bool := match P.underlying t, op, x, y with
  | some (.slice _), .eql, .vec _ [] .none, .val (.slice none _ _) => true
  | some (.slice _), .neq, .vec _ [] .none, .val (.slice none _ _) => true
  | some (.slice _), .eql, .vec _ [] (.tail ..), .val (.slice none _ _) => true
  | some (.slice _), .neq, .vec _ [] (.tail ..), .val (.slice none _ _) => true
  | _, _, _, _ => false
theorem vNilE_ok {g : Gh} {w : World} {op : BinOp} {t : TypeId} {xo yo : Operand} {x y : TV} {u v : Value} (h : vNilE P op t x y = true) (hx : VR g w x u) (hy : VR g w y v) :
    ∃ b, ∀ w', (do eqGuard op t xo yo u v; binOp op t u v : Sem Value).run P w' = .ok (.bool b) w' := by
  have go : ∀ {e size tok n c}, P.underlying t = some (.slice e) → x = .vec size [] tok → y = .val (.slice none n c) → (op = .eql ∨ op = .neq) → ∃ b, ∀ w', (do eqGuard op t xo yo u v; binOp op t u v : Sem Value).run P w' = .ok (.bool b) w' := by
    intro e size tok n c hu hx1 hy1 hop
    subst hx1 hy1
    rw [hy.val_inv]
    have fin : ∀ {a : Option Addr} {m k : Nat} {b : Bool}, (∀ w', (Op.equal t (.slice a m k) (.slice none n c)).run P w' = .ok b w') → ∃ b, ∀ w', (do eqGuard op t xo yo (.slice a m k) (.slice none n c); binOp op t (.slice a m k) (.slice none n c) : Sem Value).run P w' = .ok (.bool b) w' := by
      intro a m k b hb
      rcases hop with rfl | rfl
      · obtain ⟨v', hv', hr⟩ := cmp_run (P := P) (g := g) (w := w) (op := .eql) (t := t) (xo := xo) (yo := yo) (x := .val (.bool b)) (b := b) rfl (fun op => by cases op <;> rfl) hb rfl rfl
        exact ⟨b, by rw [hv'.val_inv] at hr; exact hr⟩
      · obtain ⟨v', hv', hr⟩ := cmp_run (P := P) (g := g) (w := w) (op := .neq) (t := t) (xo := xo) (yo := yo) (x := .val (.bool (!b))) (b := b) rfl (fun op => by cases op <;> rfl) hb rfl rfl
        exact ⟨!b, by rw [hv'.val_inv] at hr; exact hr⟩
    rcases hx.vec_inv with ⟨h1, _⟩ | ⟨b, o, c', us, h1, _⟩ | ⟨a, h1, _⟩
    · rw [h1]
      exact fin (b := true) fun w' => equal_run (fun d w => by simp [Op.equalIn, run_underlying hu]) w'
    · rw [h1]
      exact fin (b := false) fun w' => equal_run (fun d w => by simp [Op.equalIn, run_underlying hu]) w'
    · rw [h1]
      exact fin (b := false) fun w' => equal_run (fun d w => by simp [Op.equalIn, run_underlying hu]) w'
  unfold vNilE at h
  split at h
  · rename_i hu; exact go hu rfl rfl (.inl rfl)
  · rename_i hu; exact go hu rfl rfl (.inr rfl)
  · rename_i hu; exact go hu rfl rfl (.inl rfl)
  · rename_i hu; exact go hu rfl rfl (.inr rfl)
  · cases h
/-- that look at no memory -/
def vpure2 (P : Program) (op : Op) (ev : Operand → TV) : Option TV := match op with
  | .binOp op t x y _ => match vEq P op t (ev x) (ev y) with
    | some r => some r
    | none => match vNil P op t (ev x) (ev y) with
      | some r => some r
      | none => vbin P op t x y (ev x) (ev y)
  | .sliceToArrayPointer t x => varrAt P t (ev x)
  | .index t x i => match vindexG P t (ev x) (ev i) with
    | some r => some r
    | none => vpure P (.index t x i) ev
  | .indexAddr t x i => match vindexR P t (ev x) (ev i) with
    | some r => some r
    | none => vindexAddr P t (ev x) (ev i)
  | .typeAssert x _ t ok => vassert P (ev x) t ok
  | .slice t x lo hi mx => match vslice3 P t (ev x) (lo.map ev) (hi.map ev) (mx.map ev) with
   | some r => some r
   | none => match vsliceR P t (ev x) (lo.map ev) (hi.map ev) (mx.map ev) with
    | some r => some r
    | none => match vsliceN P t (ev x) (lo.map ev) (hi.map ev) (mx.map ev) with
      | some r => some r
      | none => vslice P t (ev x) (lo.map ev) (hi.map ev) (mx.map ev)
  | .call c => match c.callee, c.argTypes.toList, c.args.toList with
    | .builtin .len, [t], [x] => (match vlenR P t (ev x) with
      | some r => some r
      | none => vpure P (.call c) ev)
    | .builtin .cap, [t], [x] => vcapN P t (ev x)
    | _, _, _ => none
  | .nilCheck x => match ev x with
    | .ptr a b => some (.ptr a b)
    | .elt cs => some (.elt cs)
    | _ => none
  | op => vpure P op ev
theorem vpure2_ok {g : Gh} {w : World} {o : Oper} {ev : Operand → TV} {ρ : Operand → Value} {y : TV} (h : vpure2 P o.op ev = some y) (hev : ∀ x, VR g w (ev x) (ρ x)) :
    ∃ v, VR g w y v ∧ ∀ w', (execOp ρ o).run P w' = .ok (.value v) w' := by
  have old : vpure P o.op ev = some y → ∃ v, VR g w y v ∧ ∀ w', (execOp ρ o).run P w' = .ok (.value v) w' := fun h => vpure_ok (P := P) h hev
  obtain ⟨dst, op, ty, pos, af, gd⟩ := o
  simp only at h old
  cases op <;> simp only [vpure2] at h <;> try (exact old h)
  case binOp op t x y' ty' =>
    split at h
    · rename_i r hr
      injection h with h; subst h
      exact (vEq_ok (P := P) (xo := x) (yo := y') hr (hev x) (hev y')).next rfl
    · split at h
      · rename_i r hr
        injection h with h; subst h
        exact (vNil_ok (P := P) (xo := x) (yo := y') hr (hev x) (hev y')).next rfl
      · exact old (by simpa only [vpure] using h)
  case nilCheck x =>
    clear old
    split at h
    · rename_i a b hc
      injection h with h; subst h
      have h1 := hev x
      rw [hc] at h1
      obtain ⟨c, hb, h2⟩ := h1.ptr_inv
      exact ⟨_, .ptr hb, fun w' => by simp [execOp, h2]⟩
    · rename_i cs hc
      injection h with h; subst h
      have h1 := hev x
      rw [hc] at h1
      have h3 := h1
      obtain ⟨b, o, us, h2, _⟩ := h1.elt_inv
      rw [h2] at h3
      exact ⟨_, h3, fun w' => by simp [execOp, h2]⟩
    · cases h
  case sliceToArrayPointer t x => exact (varrAt_ok (P := P) h (hev x)).next rfl
  case index t x i =>
    split at h
    · rename_i r hr
      injection h with h; subst h
      exact (vindexG_ok (P := P) hr (hev x) (hev i)).next rfl
    · exact old h
  case indexAddr t x i =>
    split at h
    · rename_i r hr
      injection h with h; subst h
      exact (vindexR_ok (P := P) hr (hev x) (hev i)).next rfl
    · exact old (by simpa only [vpure] using h)
  case typeAssert x tx t ok => exact (vassert_ok (P := P) (tx := tx) h (hev x)).next rfl
  case slice t x lo hi mx =>
    split at h
    · rename_i r hr
      injection h with h; subst h
      exact (vslice3_ok (P := P) hr (hev x) (BR.map hev lo) (BR.map hev hi) (BR.map hev mx)).next rfl
    · split at h
      · rename_i r hr
        injection h with h; subst h
        exact (vsliceR_ok (P := P) hr (hev x) (BR.map hev lo) (BR.map hev hi) (BR.map hev mx)).next rfl
      · split at h
        · rename_i r hr
          injection h with h; subst h
          exact (vsliceN_ok (P := P) hr (hev x) (BR.map hev lo) (BR.map hev hi) (BR.map hev mx)).next rfl
        · exact old (by simpa only [vpure] using h)
  case call c =>
    obtain ⟨cal, args, ats⟩ := c
    split at h
    · rename_i t x hc h1 h2
      simp only at hc h1 h2
      subst hc
      have e1 : ats = #[t] := by rw [← Array.toArray_toList (xs := ats), h1]
      have e2 : args = #[x] := by rw [← Array.toArray_toList (xs := args), h2]
      subst e1 e2
      split at h
      · rename_i r hr
        injection h with h; subst h
        exact (vlenR_ok (P := P) (ty := ty) hr (hev x)).next (by simp [execOp, resolve, invoke, builtin])
      · exact old h
    · rename_i t x hc h1 h2
      simp only at hc h1 h2
      subst hc
      have e1 : ats = #[t] := by rw [← Array.toArray_toList (xs := ats), h1]
      have e2 : args = #[x] := by rw [← Array.toArray_toList (xs := args), h2]
      subst e1 e2
      exact (vcapN_ok (P := P) (ty := ty) h (hev x)).next (by simp [execOp, resolve, invoke, builtin])
    · cases h
/-- that only read -/
def vread2 (P : Program) (T : VT) (op : Op) (ev : Operand → TV) : Option TV := match op with
  | .lookup t m k ok => vlookup P T t (ev m) (ev k) ok
  | .convert s d x => match vconvS P T s d (ev x) with
    | some r => some r
    | none => vread P T (.convert s d x) ev
  | op => vread P T op ev
theorem vread2_ok {g : Gh} {T : VT} {w : World} (r : RW g T w) {o : Oper} {ev : Operand → TV} {ρ : Operand → Value} {y : TV} (h : vread2 P T o.op ev = some y) (hev : ∀ x, VR g w (ev x) (ρ x)) :
    ∃ v, VR g w y v ∧ ∀ w', Same g T w w' → (execOp ρ o).run P w' = .ok (.value v) w' := by
  have old : vread P T o.op ev = some y → ∃ v, VR g w y v ∧ ∀ w', Same g T w w' → (execOp ρ o).run P w' = .ok (.value v) w' := fun h => vread_ok (P := P) r h hev
  obtain ⟨dst, op, ty, pos, af, gd⟩ := o
  simp only at h old
  cases op <;> simp only [vread2] at h <;> try (exact old h)
  case lookup t m k ok => exact (vlookup_ok (P := P) r h (hev m) (hev k)).next rfl
  case convert s d x =>
    split at h
    · rename_i y' hr
      injection h with h; subst h
      exact (vconvS_ok (P := P) r hr (hev x)).next rfl
    · exact old h
/-- a look-up in a map that was there as the region began -/
def vlate2 (P : Program) (T0 : VT) (op : Op) (ev : Operand → TV) : Option TV := match op with
  | .lookup t m k ok => match ev m with
    | .map id => vlookup P T0 t (.map id) (ev k) ok
    | _ => none
  | op => vlate P T0 op ev
theorem vlookup_live {T : VT} {t : TypeId} {id : Nat} {k y : TV} {ok : Bool} (h : vlookup P T t (.map id) k ok = some y) : (∃ o, T.objs[id]? = some o ∧ o.live = true) ∧ ∃ kv, toVal k = some kv := by
  unfold vlookup at h
  split at h
  · rename_i hkv
    refine ⟨?_, _, hkv⟩
    split at h
    · split at h
      · rename_i sh _ _ _ _ _ _
        generalize KS.fits _ _ = b at h
        cases b with
        | false => cases h
        | true =>
          simp only [cond_true] at h
          split at h
          · exact ⟨_, by assumption, rfl⟩
          · cases h
      · cases h
    · cases h
  · cases h
theorem vr_val_of {g g' : Gh} {w w' : World} {x : TV} {v u : Value} (h : toVal x = some v) (hx : VR g w x u) : VR g' w' x u := by
  have e := toVal_ok h hx
  subst e
  unfold toVal at h
  split at h
  · injection h with h; subst h; exact .val _
  · simp only [Option.map_eq_some_iff] at h
    obtain ⟨vs, h, e⟩ := h
    subst e
    have key : ∀ {cs : List TV} {vs : List Value}, valsOf cs = some vs → cs = vs.map .val := by
      intro cs
      induction cs with
      | nil => intro vs h; injection h with h; subst h; rfl
      | cons c cs ih =>
        intro vs h
        cases c <;> simp [valsOf] at h
        obtain ⟨a, h, rfl⟩ := h
        rw [ih h]; rfl
    rw [key h]
    exact .mk_agg (VRs.vals g' w' vs)
  · cases h
theorem vlate2_ok {g0 g : Gh} {T0 : VT} {w0 w : World} (r0 : RW g0 T0 w0) (e : Evo g0 w0 g w) {o : Oper} {ev : Operand → TV} {ρ : Operand → Value} {y : TV} (h : vlate2 P T0 o.op ev = some y) (hev : ∀ x, VR g w (ev x) (ρ x)) :
    ∃ v, VR g w y v ∧ ∀ w', Same g0 T0 w0 w' → (execOp ρ o).run P w' = .ok (.value v) w' := by
  have old : vlate P T0 o.op ev = some y → ∃ v, VR g w y v ∧ ∀ w', Same g0 T0 w0 w' → (execOp ρ o).run P w' = .ok (.value v) w' := fun h => vlate_ok (P := P) r0 e h hev
  obtain ⟨dst, op, ty, pos, af, gd⟩ := o
  simp only at h old
  cases op <;> simp only [vlate2] at h <;> try (exact old h)
  case lookup t m k ok =>
    split at h
    · rename_i id hm
      have h1 := hev m
      rw [hm] at h1
      obtain ⟨b, hb, hu⟩ := h1.map_inv
      obtain ⟨⟨oo, ho, hol⟩, kv, hkv⟩ := vlookup_live h
      obtain ⟨b0, hb0, _⟩ := r0.obj id _ ho hol
      have := e.obj id b0 hb0
      rw [hb] at this; injection this with this; subst this
      have h2 : VR g0 w0 (.map id) (ρ m) := by rw [hu]; exact .map hb0
      obtain ⟨v, h3, h4⟩ := vlookup_ok (P := P) r0 h h2 (vr_val_of hkv (hev k))
      exact ⟨v, h3.mono e, fun w' hs => by simp [execOp, h4 w' hs]⟩
    · cases h
/-- an empty slice past a row's end, that is to grow: the row goes, what is left of its block is a tail -/
theorem past_tail {g : Gh} {T : VT} {w : World} (r : RW g T w) {size id off : Nat} {cs : List TV} {u : Value} (hid : T.objs[id]? = some (.row cs)) (hs : VR g w (.vec size [] (.past id off)) u) :
    ∃ g', Evo g w g' w ∧ RW g' { (T.kill id) with tails := T.tails ++ [(0, size, false)] } w ∧ VR g' w (.vec size [] (.tail T.tails.length 0)) u := by
  obtain ⟨b0, hb0, ⟨us0, t0, hh, _, _, _⟩, hfr, hst⟩ := r.obj id _ hid rfl
  have r1 := r.kill hid rfl hb0
  have fr1 := kill_fresh r hid rfl hb0
  have empty : ∀ g' : Gh, (∃ b lo, g'.tail T.tails.length = some ⟨b, 0, 0, size, 0, 0, lo, false, false⟩) → ∀ b o, TokOk g' w (.tail T.tails.length 0) size 0 b o 0 := fun g' ⟨b', lo, h⟩ b o =>
    ⟨_, h, Nat.le_refl _, rfl, fun _ hlt => absurd hlt (Nat.lt_irrefl 0), fun _ h => by cases h⟩
  rcases hs.vec_inv with ⟨_, _, h⟩ | ⟨b, o, c, us, rfl, a1, a2, a3, a4, a5, a6, a7, a8⟩ | ⟨a, rfl, _, _⟩
  · exact h.elim
  · by_cases hc : 0 < c
    · obtain ⟨d1, d2, d3, d4⟩ := a4 hc
      rw [hb0] at d1; injection d1 with d1; subst d1
      have hcs : csize w b0 = us0.length := by rw [csize_cells hh]; simp
      have hn : g.tail T.tails.length = none := r.tout _ (Nat.le_refl _)
      let x : Tl := ⟨b0, o, o + c * size, size, 0, t0, w.heap.size, false, false⟩
      have hhas : ∀ b, x.has b → b = b0 := fun b h => by
        rcases h with ⟨o', h⟩ | ⟨h, _⟩
        · exact h.1.symm
        · cases h
      have hgrow : ∀ y, g.tail T.tails.length = some y → y.e < x.e ∧ x.size = y.size ∧ x.lo = y.lo := fun y hy => by rw [hn] at hy; cases hy
      have rT := r1.setTail (T' := { (T.kill id) with tails := T.tails ++ [(0, size, false)] }) (k := T.tails.length) (x := x) rfl (.inl ⟨rfl, rfl⟩)
        (fun b' o' h => by
          obtain ⟨h1, h2, h3⟩ := h
          have h1 : b0 = b' := h1
          subst h1
          have h3 : o' < o + c * size := h3
          rw [d4, hcs] at h3
          refine ⟨?_, ?_, hst o', hfr⟩
          · simp [World.cell?, hh, h3]
          · simp [World.frozen?, hh])
        (fun i oi b' h1 h2 h3 h4 => by
          have := hhas b' h4
          subst this
          exact fr1.obj i oi h1 h2 h3)
        (fun j y b' _ hy h4 => by
          have := hhas b' h4
          subst this
          exact fr1.tl j y hy)
        hgrow (fun _ => Nat.le_refl _) (fun h => by cases h) (fun h => by rcases h with h | h <;> cases h) (Nat.le_refl _)
      refine ⟨_, Evo.setTail hgrow (fun _ => Nat.le_refl _), rT, ?_⟩
      have ev : Evo g w (g.setTail T.tails.length x) w := Evo.setTail hgrow (fun _ => Nat.le_refl _)
      exact .mk_vec (us := []) rfl (Nat.zero_le _) a2 (by simp) ⟨x, by simp [Gh.setTail], Nat.le_refl _, rfl, fun _ _ => ⟨rfl, by simp [x], rfl⟩, fun _ h => by cases h⟩ (by simpa using VRs.nil _ w) (by simp) (by simp) (by simp)
    · obtain rfl : c = 0 := by omega
      obtain ⟨g', e1, r2, h3⟩ := r1.newTail size false
      exact ⟨g', e1, r2, .mk_vec (us := []) rfl (Nat.le_refl _) a2 (by simp) (empty g' ⟨_, _, h3⟩ b o) (by simpa using VRs.nil _ w) (by simp) (by simp) (by simp)⟩
  · obtain ⟨g', e1, r2, h3⟩ := r1.newTail size false
    exact ⟨g', e1, r2, .odd a (empty g' ⟨_, _, h3⟩ 0 0)⟩
def vappP (P : Program) (ro : Nat) (T : VT) (t tx : TypeId) (s x : TV) : Option (TV × VT) := match s with
  | .vec size [] (.past id _) => match T.objs[id]? with
    | some (.row _) => bif Nat.ble ro id then vappend P { (T.kill id) with tails := T.tails ++ [(0, size, false)] } t tx (.vec size [] (.tail T.tails.length 0)) x else none
    | _ => none
  | _ => none
theorem vappend_take {T T' : VT} {t tx : TypeId} {s x y : TV} (h : vappend P T t tx s x = some (y, T')) : T'.objs.take T.objs.length = T.objs := by
  unfold vappend at h
  split at h
  · split at h
    · split at h
      · split at h
        · injection h with h; injection h with _ h; subst h
          rename_i h1 _ _ _
          simp [vadopt_objs h1]
        · cases h
      · cases h
    · cases h
  · cases h
theorem vappP_ok {g : Gh} {T : VT} {w : World} (r : RW g T w) {ro : Nat} {t tx ty : TypeId} {s x y : TV} {us ux : Value} {T' : VT} (h : vappP P ro T t tx s x = some (y, T')) (hs : VR g w s us) (hx : VR g w x ux) :
    ∃ u g' w', (Builtin.append_ #[t, tx] ty #[us, ux]).run P w = .ok u w' ∧ VR g' w' y u ∧ Evo g w g' w' ∧ RW g' T' w' ∧ Fix ro g T w T' w' := by
  unfold vappP at h
  split at h
  · rename_i size id off
    split at h
    · rename_i cs hid
      cases hb : Nat.ble ro id with
      | false => rw [hb] at h; cases h
      | true =>
        rw [hb] at h
        simp only [cond_true] at h
        have hb := Nat.le_of_ble_eq_true hb
        obtain ⟨g1, e1, r1, v1⟩ := past_tail r hid hs
        obtain ⟨v, g', w', k1, k2, k3, k4, k5⟩ := vappend_ok (P := P) (ty := ty) r1 h v1 (hx.mono e1)
        have f1 : Fix ro g T w { (T.kill id) with tails := T.tails ++ [(0, size, false)] } w := by
          refine ⟨by simp [VT.kill], fun i hi hl => ?_, fun _ _ _ _ _ _ _ => rfl⟩
          simp only [VT.kill]
          rw [List.getElem?_set_ne (by omega)]
        exact ⟨v, g', w', k1, k2, e1.trans k3, k4, f1.trans e1 (Fix.of_same k5 (vappend_take h))⟩
    · cases h
  · cases h
/-- that make or turn -/
def vmore (P : Program) (ro : Nat) (T : VT) (op : Op) (ev : Operand → TV) : Option (TV × VT) := match op with
  | .makeSlice t l c => vmakeR P T t (ev l) (ev c)
  | .store t a x => vstoreR P ro T t (ev a) (ev x)
  | .mapUpdate t m k v => vmapPut P ro T t (ev m) (ev k) (ev v)
  | .insert t m k v => vmapPut P ro T t (ev m) (ev k) (ev v)
  | .mapEntry t m k => vmapEnt P ro T t (ev m) (ev k)
  | .entryStore _ m s v => ventPut ro T (ev m) (ev s) (ev v)
  | .makeMap t r => vmakeMap P T t (r.map ev)
  | .call c => match c.callee, c.argTypes.toList, c.args.toList with
    | .builtin .append, [t, tx], [s, x] => bif isSl (P.underlying tx) then (match vappS P T t tx (ev s) (ev x) with
      | some r => some r
      | none => match vappP P ro T t tx (ev s) (ev x) with
        | some r => some r
        | none => vappR P ro T t tx (ev s) (ev x)) else vappZ P T t tx (ev s) (ev x)
    | .builtin .copy, [t, tx], [s, x] => (match vcopyS P ro T t tx (ev s) (ev x) with
      | some r => some r
      | none => vcopyR P ro T t tx (ev s) (ev x))
    | .builtin .delete, [t, _], [m, k] => vmapDel P ro T t (ev m) (ev k)
    | .builtin .clear, [t], [m] => vclear P ro T t (ev m)
    | _, _, _ => none
  | _ => none
theorem vmore_ok {ro : Nat} {g : Gh} {T T' : VT} {w : World} (r : RW g T w) {o : Oper} {ev : Operand → TV} {ρ : Operand → Value} {y : TV} (hp : vmore P ro T o.op ev = some (y, T')) (hev : ∀ x, VR g w (ev x) (ρ x)) :
    ∃ m v g' w', (execOp ρ o).run P w = .ok m w' ∧ nextVal m = some v ∧ VR g' w' y v ∧ Evo g w g' w' ∧ RW g' T' w' ∧ Fix ro g T w T' w' := by
  obtain ⟨dst, op, ty, pos, af, gd⟩ := o
  simp only at hp
  cases op <;> simp only [vmore] at hp <;> try (cases hp)
  case makeSlice t l c =>
    obtain ⟨h1, h2⟩ := vmakeR_ok (P := P) r hp (hev l) (hev c)
    obtain ⟨v, g', w', k1, k2, k3, k4, k5⟩ := h1
    exact ⟨.value v, v, g', w', by simp [execOp, k1], rfl, k2, k3, k4, Fix.of_same k5 h2⟩
  case store t a x =>
    obtain ⟨g', w', h2, h3, h4, h5, h6⟩ := vstoreR_ok (P := P) r hp (hev a) (hev x)
    exact ⟨.skip, undef, g', w', by simp [execOp, h2], rfl, h3, h4, h5, h6⟩
  case mapUpdate t m k v =>
    obtain ⟨g', w', h2, h3, h4, h5, h6⟩ := vmapPut_ok (P := P) r hp (hev m) (hev k) (hev v)
    exact ⟨.skip, undef, g', w', by simp [execOp, h2], rfl, h3, h4, h5, h6⟩
  case insert t m k v =>
    obtain ⟨g', w', h2, h3, h4, h5, h6⟩ := vmapPut_ok (P := P) r hp (hev m) (hev k) (hev v)
    exact ⟨.skip, undef, g', w', by simp [execOp, h2], rfl, h3, h4, h5, h6⟩
  case mapEntry t m k =>
    obtain ⟨u, g', w', h2, h3, h4, h5, h6⟩ := vmapEnt_ok (P := P) r hp (hev m) (hev k)
    exact ⟨.value u, u, g', w', by simp [execOp, h2], rfl, h3, h4, h5, h6⟩
  case entryStore t m s v =>
    obtain ⟨g', w', h2, h3, h4, h5, h6⟩ := ventPut_ok (P := P) (t := t) r hp (hev m) (hev s) (hev v)
    exact ⟨.skip, undef, g', w', by simp [execOp, h2], rfl, h3, h4, h5, h6⟩
  case makeMap t rr =>
    obtain ⟨h1, h2⟩ := vmakeMap_ok (P := P) r hp (BR.map hev rr)
    obtain ⟨v, g', w', k1, k2, k3, k4, k5⟩ := h1
    exact ⟨.value v, v, g', w', by simp [execOp, k1], rfl, k2, k3, k4, Fix.of_same k5 h2⟩
  case call c =>
    obtain ⟨cal, args, ats⟩ := c
    split at hp
    · rename_i t tx s x hc h1 h2
      simp only at hc h1 h2
      subst hc
      have e1 : ats = #[t, tx] := by rw [← Array.toArray_toList (xs := ats), h1]
      have e2 : args = #[s, x] := by rw [← Array.toArray_toList (xs := args), h2]
      subst e1 e2
      cases hk : isSl (P.underlying tx) with
      | false =>
        rw [hk] at hp
        obtain ⟨u, g', w', k1, k2, k3, k4, k5⟩ := vappZ_ok (P := P) (ro := ro) (ty := ty) r hp (hev s) (hev x)
        exact ⟨.value u, u, g', w', by simp [execOp, resolve, invoke, builtin, k1], rfl, k2, k3, k4, k5⟩
      | true =>
        rw [hk] at hp
        simp only [cond_true] at hp
        split at hp
        · rename_i q hq
          injection hp with hp; subst hp
          obtain ⟨u, g', w', k1, k2, k3, k4, k5⟩ := vappS_ok (P := P) (ro := ro) (ty := ty) r hq (hev s) (hev x) hk
          exact ⟨.value u, u, g', w', by simp [execOp, resolve, invoke, builtin, k1], rfl, k2, k3, k4, k5⟩
        split at hp
        · rename_i q hq
          injection hp with hp; subst hp
          obtain ⟨u, g', w', k1, k2, k3, k4, k5⟩ := vappP_ok (P := P) (ro := ro) (ty := ty) r hq (hev s) (hev x)
          exact ⟨.value u, u, g', w', by simp [execOp, resolve, invoke, builtin, k1], rfl, k2, k3, k4, k5⟩
        obtain ⟨u, g', w', k1, k2, k3, k4, k5⟩ := vappR_ok (P := P) (ty := ty) r hp (hev s) (hev x) hk
        exact ⟨.value u, u, g', w', by simp [execOp, resolve, invoke, builtin, k1], rfl, k2, k3, k4, k5⟩
    · rename_i t tx s x hc h1 h2
      simp only at hc h1 h2
      subst hc
      have e1 : ats = #[t, tx] := by rw [← Array.toArray_toList (xs := ats), h1]
      have e2 : args = #[s, x] := by rw [← Array.toArray_toList (xs := args), h2]
      subst e1 e2
      split at hp
      · rename_i q hq
        injection hp with hp; subst hp
        obtain ⟨u, g', w', k1, k2, k3, k4, k5⟩ := vcopyS_ok (P := P) (ty := ty) r hq (hev s) (hev x)
        exact ⟨.value u, u, g', w', by simp [execOp, resolve, invoke, builtin, k1], rfl, k2, k3, k4, k5⟩
      · obtain ⟨u, g', w', k1, k2, k3, k4, k5⟩ := vcopyR_ok (P := P) (ty := ty) r hp (hev s) (hev x)
        exact ⟨.value u, u, g', w', by simp [execOp, resolve, invoke, builtin, k1], rfl, k2, k3, k4, k5⟩
    · rename_i t tk m k hc h1 h2
      simp only at hc h1 h2
      subst hc
      have e1 : ats = #[t, tk] := by rw [← Array.toArray_toList (xs := ats), h1]
      have e2 : args = #[m, k] := by rw [← Array.toArray_toList (xs := args), h2]
      subst e1 e2
      obtain ⟨u, g', w', k1, k2, k3, k4, k5⟩ := vmapDel_ok (P := P) (ty := ty) (tk := tk) r hp (hev m) (hev k)
      exact ⟨.value u, u, g', w', by simp [execOp, resolve, invoke, builtin, k1], rfl, k2, k3, k4, k5⟩
    · rename_i t m hc h1 h2
      simp only at hc h1 h2
      subst hc
      have e1 : ats = #[t] := by rw [← Array.toArray_toList (xs := ats), h1]
      have e2 : args = #[m] := by rw [← Array.toArray_toList (xs := args), h2]
      subst e1 e2
      obtain ⟨u, g', w', k1, k2, k3, k4, k5⟩ := vclear_ok (P := P) (ty := ty) r hp (hev m)
      exact ⟨.value u, u, g', w', by simp [execOp, resolve, invoke, builtin, k1], rfl, k2, k3, k4, k5⟩
    · cases hp
/-- an operation that is no call of a function -/
def vopA (P : Program) (ro : Nat) (T : VT) (op : Op) (ev : Operand → TV) : Option (TV × VT) := match vpure2 P op ev with
  | some x => some (x, T)
  | none => match vread2 P T op ev with
    | some x => some (x, T)
    | none => match vmore P ro T op ev with
      | some r => some r
      | none => bif vfree ro op ev then vop P T op ev else none
theorem vopA_ok {ro : Nat} {g : Gh} {T T' : VT} {w : World} (r : RW g T w) {o : Oper} {ev : Operand → TV} {ρ : Operand → Value} {y : TV} (h : vopA P ro T o.op ev = some (y, T')) (hev : ∀ x, VR g w (ev x) (ρ x)) :
    ∃ m v g' w', (execOp ρ o).run P w = .ok m w' ∧ nextVal m = some v ∧ VR g' w' y v ∧ Evo g w g' w' ∧ RW g' T' w' ∧ Fix ro g T w T' w' := by
  unfold vopA at h
  split at h
  · rename_i x hx
    injection h with h; injection h with e1 e2; subst e1 e2
    obtain ⟨v, h1, h2⟩ := vpure2_ok (P := P) hx hev
    exact ⟨_, v, g, w, h2 w, rfl, h1, Evo.refl _ _, r, Fix.refl _ _ _ _⟩
  · split at h
    · rename_i x hx
      injection h with h; injection h with e1 e2; subst e1 e2
      obtain ⟨v, h1, h2⟩ := vread2_ok (P := P) r hx hev
      exact ⟨_, v, g, w, h2 w (Same.refl _ _ _), rfl, h1, Evo.refl _ _, r, Fix.refl _ _ _ _⟩
    · split at h
      · rename_i p hp
        injection h with h; subst h
        exact vmore_ok r hp hev
      · cases hf : vfree ro o.op ev with
        | false => rw [hf] at h; cases h
        | true =>
          rw [hf] at h
          exact vop_fix (P := P) r hf h hev
end
end Go.Proofs.Ytgconkbnokbinaa

/- Rounds, fences and marks: from rules on plain code to rules on code in a round of a range over a function. For any program. -/
namespace Go.Proofs.Ytgconkbnokbinaa
open Go.RowKit

section
variable {P : Program}
/-- the fence that lets all in, for a frame that is a round of the loop r (or none) -/
def fenR (r : Option Nat) : Fence := { Fence.wide with round := r }
theorem callsIn_fen {r : Option Nat} {n : Nat} {f : FuncId} {args : Array Value} {w : World} {R : Ending → World → Prop} (h : Calls P f args w R) : CallsIn (fenR r) n P f args w R :=
  (callsIn_wide (n := n)).2 h
theorem calls_of_fen {r : Option Nat} {n : Nat} {f : FuncId} {args : Array Value} {w : World} {R : Ending → World → Prop} (h : CallsIn (fenR r) n P f args w R) : Calls P f args w R :=
  (callsIn_wide (n := n)).1 h
def notDefer : Op → Bool
  | .defer _ => false
  | _ => true
theorem opIn_of {r : Option Nat} {o : Oper} {a : Act} {w : World} {next : Act → World → Prop} {Q Q' : Exit → Act → World → Prop} (hQ : ∀ e a w, (∀ c, e = .panic c → ¬ Q e a w) ∧ (e = .outgrown → ¬ Q e a w)) (hd : notDefer o.op = true)
    (h : o.wp P a w next Q) : o.wpIn (fenR r) 0 P a w next Q' := by
  refine ⟨fun _ _ => trivial, ?_⟩
  have hne : ∀ c, o.op ≠ .defer c := fun c hc => by rw [hc] at hd; cases hd
  rw [Oper.semAt_eq _ _ _ hne]
  unfold Oper.wp at h
  generalize (execOp a.eval o).run P w = res at h ⊢
  unfold Oper.upon at h
  split at h
  · exact h
  · exact h
  · exact h
  · refine ⟨fun h => (by cases h), callsIn_fen (h.mono ?_)⟩
    intro e w' he
    cases e with
    | returned v => exact he
    | panicked ch => exact ((hQ _ _ _).1 ch rfl he).elim
    | outgrown => obtain ⟨a0, w0, he⟩ := he; exact ((hQ _ _ _).2 rfl he).elim
  · refine ⟨fun h => (by cases h), fun c cs _ => ?_⟩
    obtain ⟨v, w', h1, h2⟩ := h c cs
    exact ⟨v, w', h1, stepsIn_wide.2 h2⟩
  · exact ((hQ _ _ _).1 _ rfl h).elim
  · exact h.elim
theorem opsIn_of {r : Option Nat} {ops : Array Oper} {QQ : Act → World → Prop} {Q : Exit → Act → World → Prop} (hq : ∀ a w, QQ a w → Q .normal a w) (hd : ∀ (i : Nat) o, ops[i]? = some o → notDefer o.op = true) : ∀ (l : List Nat) (a : Act) (w : World), wpOps P ops (calm QQ) l a w → wpOpsIn (fenR r) 0 P ops Q l a w
  | [], a, w, h => hq a w h
  | i :: l, a, w, h => by
    simp only [wpOps] at h
    simp only [wpOpsIn]
    have hc : ∀ e a w, (∀ c, e = Exit.panic c → ¬ calm QQ e a w) ∧ (e = .outgrown → ¬ calm QQ e a w) := fun e a w => ⟨fun c he h => by subst he; exact h, fun he h => by subst he; exact h⟩
    split
    · rename_i ho; rw [ho] at h; exact opsIn_of hq hd l a w h
    · rename_i o ho
      rw [ho] at h
      simp only at h
      split
      · rename_i hw
        rw [if_pos hw] at h
        rcases h with h | ⟨_, a0, w0, h⟩
        · exact opIn_of hc (hd i o ho) (Oper.wp_mono (fun a w h => opsIn_of hq hd l a w h) h)
        · exact h.elim
      · rename_i hw
        rw [if_neg hw] at h
        exact ⟨fun _ _ => trivial, opsIn_of hq hd l _ w h⟩
theorem region_plan_in {r : Option Nat} {ops : Array Oper} {S : World → Prop} {id : Nat} {QQ : Act → World → Prop} {Q : Exit → Act → World → Prop} {a : Act} {w : World} (hq : ∀ a w, QQ a w → Q .normal a w) (hd : ∀ (i : Nat) o, ops[i]? = some o → notDefer o.op = true)
    (plan : List (Nat × Bool)) (hm : P.follows .mixedOrders = true)
    (hp : planOk ops plan = true) (hS : S w.drew) (h : wpPlan P ops S QQ (planOps ops plan) a w.drew) : (Code.region id ops true).wpIn (fenR r) 0 P Q a w := by
  simp only [planOk, Bool.and_eq_true, beq_iff_eq] at hp
  obtain ⟨⟨hs, hl⟩, hp⟩ := hp
  have h1 := wpAnyH_of_plan (P := P) hs plan _ a _ hS hp h (planGo_in hp)
  rw [hl] at h1
  have h2 := wpAny_of_held _ _ _ _ h1
  refine wpIn_region_draw fun t => ?_
  simp only [Region.schedule, hm, Bool.true_or, if_true]
  exact opsIn_of hq hd _ _ _ (wpAny_sound ops.size t _ a _ h2)
/-! #### Last operations, each of which waits for all ahead of it -/
def TailsOk : Array Oper → List Oper → Prop
  | _, [] => True
  | ops, t :: ts => tailOk ops t = true ∧ TailsOk (ops.push t) ts
def tailK (P : Program) : Array Oper → List Oper → (Act → World → Prop) → Act → World → Prop
  | _, [], QQ => QQ
  | ops, t :: ts, QQ => fun a w => wpOp P (ops.push t) (calm (tailK P (ops.push t) ts QQ)) ops.size (tailK P (ops.push t) ts QQ) a w
def tailsOf : Nat → List Oper → List Oper → List Oper × List Oper
  | 0, l, ts => (l, ts)
  | n + 1, l, ts => cond (!l.isEmpty && tailOk l.dropLast.toArray (l.getLastD default)) (tailsOf n l.dropLast (l.getLastD default :: ts)) (l, ts)
theorem last_push {l : List Oper} (hne : l.isEmpty = false) : l.toArray = l.dropLast.toArray.push (l.getLastD default) := by
  have : l ≠ [] := by cases l <;> simp at hne ⊢
  rw [List.push_toArray]
  congr 1
  have h1 := List.dropLast_concat_getLast this
  rw [List.getLastD_eq_getLast?, List.getLast?_eq_some_getLast this]
  exact h1.symm
theorem tailsOf_ok : ∀ (n : Nat) (l ts : List Oper), TailsOk l.toArray ts → TailsOk (tailsOf n l ts).1.toArray (tailsOf n l ts).2 ∧ (tailsOf n l ts).1 ++ (tailsOf n l ts).2 = l ++ ts
  | 0, l, ts, h => ⟨h, rfl⟩
  | n + 1, l, ts, h => by
    simp only [tailsOf]
    cases hb : (!l.isEmpty && tailOk l.dropLast.toArray (l.getLastD default)) with
    | false => exact ⟨h, rfl⟩
    | true =>
      simp only [Bool.and_eq_true, Bool.not_eq_true'] at hb
      simp only [cond_true]
      have hp := last_push hb.1
      obtain ⟨h1, h2⟩ := tailsOf_ok n l.dropLast (l.getLastD default :: ts) ⟨hb.2, by rw [← hp]; exact h⟩
      refine ⟨h1, h2.trans ?_⟩
      have h3 := congrArg Array.toList hp
      simp only [List.push_toArray] at h3
      rw [show l.dropLast ++ l.getLastD default :: ts = (l.dropLast ++ [l.getLastD default]) ++ ts by simp, ← h3]
theorem wpAny_tails {QQ : Act → World → Prop} : ∀ (ts : List Oper) (ops : Array Oper) (fuel : Nat) (listed : Array Bool) (a : Act) (w : World), TailsOk ops ts → listed.size = ops.size →
    wpAny P .any ops (calm (tailK P ops ts QQ)) fuel listed a w → wpAny P .any (ops.toList ++ ts).toArray (calm QQ) (fuel + ts.length) (listed.toList ++ List.replicate ts.length false).toArray a w
  | [], ops, fuel, listed, a, w, _, _, h => by simpa [tailK] using h
  | t :: ts, ops, fuel, listed, a, w, ht, hs, h => by
    have h1 := wpAny_tail (P := P) ht.1 (Q := tailK P (ops.push t) ts QQ) fuel listed a w hs h
    have h2 := wpAny_tails ts (ops.push t) (fuel + 1) (listed.push false) a w ht.2 (by simp [hs]) h1
    have e1 : ((ops.push t).toList ++ ts) = ops.toList ++ t :: ts := by simp
    have e2 : ((listed.push false).toList ++ List.replicate ts.length false) = listed.toList ++ List.replicate (t :: ts).length false := by simp [List.replicate_succ]
    rw [e1, e2] at h2
    rw [show fuel + (t :: ts).length = fuel + 1 + ts.length by simp; omega]
    exact h2
theorem region_tails_in {r : Option Nat} {S : World → Prop} {id : Nat} {QQ : Act → World → Prop} {Q : Exit → Act → World → Prop} {a : Act} {w : World} {l base ts : List Oper} (hq : ∀ a w, QQ a w → Q .normal a w) (hd : ∀ (i : Nat) o, l.toArray[i]? = some o → notDefer o.op = true)
    (hl : base ++ ts = l) (ht : TailsOk base.toArray ts) (plan : List (Nat × Bool)) (hm : P.follows .mixedOrders = true) (hp : planOk base.toArray plan = true) (hS : S w.drew)
    (h : wpPlan P base.toArray S (tailK P base.toArray ts QQ) (planOps base.toArray plan) a w.drew) :
    (Code.region id l.toArray true).wpIn (fenR r) 0 P Q a w := by
  simp only [planOk, Bool.and_eq_true, beq_iff_eq] at hp
  obtain ⟨⟨hs, hln⟩, hp⟩ := hp
  have h1 := wpAnyH_of_plan (P := P) hs plan _ a _ hS hp h (planGo_in hp)
  rw [hln] at h1
  have h2 := wpAny_of_held _ _ _ _ h1
  have h3 := wpAny_tails (P := P) ts base.toArray _ _ a w.drew ht (by simp) h2
  have e1 : (base.toArray.toList ++ ts).toArray = l.toArray := by rw [← hl]
  have e2 : base.toArray.size + ts.length = l.toArray.size := by rw [← hl]; simp
  have e3 : ((Array.replicate base.toArray.size false).toList ++ List.replicate ts.length false).toArray = Array.replicate l.toArray.size false := by
    rw [← e2]
    apply Array.ext'
    simp
  rw [e1, e2, e3] at h3
  refine wpIn_region_draw fun t => ?_
  simp only [Region.schedule, hm, Bool.true_or, if_true]
  exact opsIn_of hq hd _ _ _ (wpAny_sound _ t _ a _ h3)

/-! ### Operations, code, functions -/
def VPx (P : Program) (G : Globs) (ro : Nat) (o : Oper) (σ : List TV) (T : VT) (K : List TV → VT → Prop) : Prop :=
  ∀ g w (a : Act) (next : Act → World → Prop) (Q : Exit → Act → World → Prop), RW g T w → GOk G g w → VRs g w σ a.tmps.toList →
    (∀ σ' T' g' w' (a' : Act), (∃ v, a' = a.put o.dst v) → K σ' T' → Evo g w g' w' → RW g' T' w' → VRs g' w' σ' a'.tmps.toList → a'.defers = a.defers → Fix ro g T w T' w' → next a' w') → o.wp P a w next Q
def VPi (P : Program) (G : Globs) (ro : Nat) (o : Oper) (σ : List TV) (T : VT) (K : List TV → VT → Prop) : Prop :=
  ∀ r g w (a : Act) (next : Act → World → Prop) (Q : Exit → Act → World → Prop), RW g T w → GOk G g w → VRs g w σ a.tmps.toList →
    (∀ σ' T' g' w' (a' : Act), (∃ v, a' = a.put o.dst v) → K σ' T' → Evo g w g' w' → RW g' T' w' → VRs g' w' σ' a'.tmps.toList → a'.defers = a.defers → Fix ro g T w T' w' → next a' w') → o.wpIn (fenR r) 0 P a w next Q
theorem VPx.toI {G : Globs} {ro : Nat} {o : Oper} {σ : List TV} {T : VT} {K : List TV → VT → Prop} (h : VPx P G ro o σ T K) (hd : notDefer o.op = true) : VPi P G ro o σ T K :=
  fun r g w a next Q rw0 hG hσ hn => opIn_of (Q := fun _ _ _ => False) (fun _ _ _ => ⟨fun _ _ h => h, fun _ h => h⟩) hd (h g w a next _ rw0 hG hσ hn)
def mk (g : Gh) (id : Nat) : Deferred := { target := .collected ((g.obj id).getD 0), args := #[] }
/-- what is behind code: where it stands, the slots, what is known, the marks -/
abbrev KX := Exit → List TV → VT → List Nat → Prop
/-- the frame is a round of the loop rd -/
def RdOk (g : Gh) (rd r : Option Nat) : Prop := match rd with
  | some id => r.isSome = true ∧ g.obj id = r
  | none => r = none
def VWx (P : Program) (G : Globs) (rd : Option Nat) (ro : Nat) (c : Code) (σ : List TV) (T : VT) (D : List Nat) (Q : KX) : Prop :=
  ∀ r g w (a : Act), RW g T w → GOk G g w → VRs g w σ a.tmps.toList → a.defers = D.map (mk g) → (∀ id ∈ D, (g.obj id).isSome = true) → RdOk g rd r →
    c.wpIn (fenR r) 0 P (fun e a' w' => ∃ g' σ' T' D', Q e σ' T' D' ∧ Evo g w g' w' ∧ RW g' T' w' ∧ VRs g' w' σ' a'.tmps.toList ∧ a'.defers = D'.map (mk g') ∧ (∀ id ∈ D', (g'.obj id).isSome = true) ∧ Fix ro g T w T' w') a w
def VCx (P : Program) (G : Globs) (ro : Nat) (f : FuncId) (xs : List TV) (T : VT) (Q : TV → VT → Prop) : Prop :=
  ∀ g w us, RW g T w → GOk G g w → VRs g w xs us → Calls P f us.toArray w fun e w' => ∃ v x g' T', e = .returned v ∧ Q x T' ∧ Evo g w g' w' ∧ RW g' T' w' ∧ VR g' w' x v ∧ Fix ro g T w T' w'
/-- a round of the loop id -/
def VRx (P : Program) (G : Globs) (ro id : Nat) (xs : List TV) (T : VT) (Q : TV → VT → Prop) : Prop :=
  ∀ g w us, RW g T w → GOk G g w → VRs g w xs us → ∃ b fn tmps asg body, g.obj id = some b ∧ (Instr.yield b us.toArray).run P w = .ok (.round b fn tmps asg body) w ∧
    RoundIn Fence.wide 0 P b fn tmps asg body w fun e w' => ∃ v x g' T', e = .returned v ∧ Q x T' ∧ Evo g w g' w' ∧ RW g' T' w' ∧ VR g' w' x v ∧ Fix ro g T w T' w'
theorem mk_evo {g g' : Gh} {w w' : World} (e : Evo g w g' w') {D : List Nat} (h : ∀ id ∈ D, (g.obj id).isSome = true) : D.map (mk g') = D.map (mk g) := by
  apply List.map_congr_left
  intro id hid
  obtain ⟨b, hb⟩ := Option.isSome_iff_exists.1 (h id hid)
  simp [mk, hb, e.obj id b hb]
theorem isSome_evo {g g' : Gh} {w w' : World} (e : Evo g w g' w') {D : List Nat} (h : ∀ id ∈ D, (g.obj id).isSome = true) : ∀ id ∈ D, (g'.obj id).isSome = true := by
  intro id hid
  obtain ⟨b, hb⟩ := Option.isSome_iff_exists.1 (h id hid)
  rw [e.obj id b hb]; rfl
theorem rd_evo {g g' : Gh} {w w' : World} (e : Evo g w g' w') {rd r : Option Nat} (h : RdOk g rd r) : RdOk g' rd r := by
  cases rd with
  | none => exact h
  | some id =>
    obtain ⟨h1, h2⟩ := h
    obtain ⟨b, hb⟩ := Option.isSome_iff_exists.1 h1
    subst hb
    exact ⟨h1, e.obj id b h2⟩
theorem VCx.mono {G : Globs} {ro : Nat} {f : FuncId} {xs : List TV} {T : VT} {Q Q' : TV → VT → Prop} (h : VCx P G ro f xs T Q) (k : ∀ x T', Q x T' → Q' x T') : VCx P G ro f xs T Q' :=
  fun g w us r hG hx => Calls.mono (h g w us r hG hx) fun e w' ⟨v, x, g', T', h1, h2, h3⟩ => ⟨v, x, g', T', h1, k _ _ h2, h3⟩
theorem VCx.calls {ro : Nat} {f : FuncId} {xs : List TV} {T : VT} {Q : TV → VT → Prop} (h : VCx P (fun _ => none) ro f xs T Q) : VCalls P f xs T Q :=
  fun g w us r hx => Calls.mono (h g w us r (fun _ _ h => by cases h) hx) fun e w' ⟨v, x, g', T', h1, h2, h3, h4, h5, _⟩ => ⟨v, x, g', T', h1, h2, h3, h4, h5⟩
theorem VWx.mono {G : Globs} {rd : Option Nat} {ro : Nat} {c : Code} {σ : List TV} {T : VT} {D : List Nat} {Q Q' : KX} (h : VWx P G rd ro c σ T D Q) (k : ∀ e σ T D, Q e σ T D → Q' e σ T D) : VWx P G rd ro c σ T D Q' :=
  fun r g w a rw0 hG hσ hd hD hr => wpIn_mono (h r g w a rw0 hG hσ hd hD hr) fun e a' w' ⟨g', σ', T', D', hq, h⟩ => ⟨g', σ', T', D', k _ _ _ _ hq, h⟩
/-- a function that turns nothing and leaves nothing -/
theorem VCx.of_pure {G : Globs} {ro : Nat} {f : FuncId} {xs ys : List TV} {T : VT} {r : TV} (h : VCalls P f xs ⟨[], []⟩ fun x T' => x = r ∧ T' = ⟨[], []⟩) (hx : renL (nameIn []) (nameIn []) ys = xs) :
    VCx P G ro f ys T fun x T' => x = r.ren (nameOut T.objs.length []) (nameOut T.tails.length []) ∧ T' = T := by
  intro g w us rw0 _ hxs
  have hargs := hxs.ren (sub_ren g T [] [])
  rw [hx] at hargs
  have hg : T.give [] [] = ⟨[], []⟩ := VT.give_nil T
  have r1 := rw0.give (is := []) (ks := []) List.nodup_nil List.nodup_nil (by simp) (by simp)
  rw [hg] at r1
  refine Calls.mono (h _ w _ r1 hargs) ?_
  rintro e w' ⟨v, x, gc, T', rfl, ⟨rfl, rfl⟩, e', r', hv⟩
  obtain ⟨g', ev, rb, rn⟩ := join_back rw0 (is := []) (ks := []) List.nodup_nil List.nodup_nil (by simp) (by simp) e' r' (Nat.zero_le _) (Nat.zero_le _)
  have hb : T.back [] [] ⟨[], []⟩ = T := by rw [VT.back_nil]; cases T; simp
  rw [hb] at rb
  refine ⟨v, _, g', T, rfl, ⟨rfl, rfl⟩, ev, rb, hv.ren rn, Nat.le_refl _, fun _ _ _ => rfl, fun i o b _ ho hl hb => ?_⟩
  exact e'.frb b (.inr (.inl ⟨i, o, ho, hl, by simp, hb⟩))
theorem VPx.op {G : Globs} {ro : Nat} {o : Oper} {σ : List TV} {T T' : VT} {K : List TV → VT → Prop} {y : TV} (h : vopA P ro T o.op (vev G σ) = some (y, T')) (k : K (vput σ o.dst y) T') : VPx P G ro o σ T K := by
  intro g w a next Q r hG hσ hn
  obtain ⟨m, v, g', w', h1, h2, h3, h4, h5, h6⟩ := vopA_ok r h (vev_ok hG hσ)
  unfold Oper.wp
  rw [h1]
  have e : ∀ v', VR g' w' y v' → next (a.put o.dst v') w' := fun v' hv => hn _ _ g' w' _ ⟨v', rfl⟩ k h4 h5 (vput_ok (hσ.mono h4) o.dst hv) (put_defers _ _ _) h6
  cases m <;> simp only [nextVal] at h2 <;> try (cases h2)
  · exact e v h3
  · exact e undef h3
/-- a call: the callee sees all -/
theorem VPx.call {G : Globs} {ro : Nat} {o : Oper} {fo : Operand} {args : Array Operand} {ats : Array TypeId} {σ : List TV} {T : VT} {K : List TV → VT → Prop} {f : FuncId} {fn : Func} {fi ca : List TV}
    (ho : o.op = .call ⟨.value fo, args, ats⟩) (hf : vev G σ fo = .fn (.func f) fi ca) (hfn : P.funcs[f]? = some fn) (hb : fn.body.isSome = true) (hnm : (fn.name == "runtime.NumGoroutine") = false)
    (hc : VCx P G ro f (fi ++ args.toList.map (vev G σ) ++ ca) T fun x T' => K (vput σ o.dst x) T') : VPx P G ro o σ T K := by
  intro g w a next Q' r hG hσ hn
  have h1 := vev_ok hG hσ fo
  rw [hf] at h1
  obtain ⟨us, vs, h2, h3, h4⟩ := h1.fn_inv
  have hrun := run_call ho h2 hfn hb hnm w
  have hargs := (h3.app (map_rel (vev_ok hG hσ) args.toList)).app h4
  unfold Oper.wp
  rw [hrun]
  refine Calls.mono (hc g w _ r hG hargs) ?_
  rintro e w' ⟨v, x, g', T', rfl, hq, e', r', hv, hx⟩
  exact hn _ _ g' w' _ ⟨_, rfl⟩ hq e' r' (vput_ok (hσ.mono e') o.dst hv) (put_defers _ _ _) hx
theorem run_yld {o : Oper} {fo : Operand} {args : Array Operand} {ats : Array TypeId} (ho : o.op = .call ⟨.value fo, args, ats⟩) {ρ : Operand → Value} {b : Nat} (hf : ρ fo = .func (.yield b) #[] #[]) (w : World) :
    (execOp ρ o).run P w = (Instr.yield b (args.toList.map ρ).toArray).run P w := by
  obtain ⟨dst, op, ty, pos, af, gd⟩ := o
  simp only at ho; subst ho
  simp [execOp, resolve, hf, Deferred.ofValue, invoke, amap]
/-- a round -/
theorem VPi.yld {G : Globs} {ro : Nat} {o : Oper} {fo : Operand} {args : Array Operand} {ats : Array TypeId} {σ : List TV} {T : VT} {K : List TV → VT → Prop} {id : Nat}
    (ho : o.op = .call ⟨.value fo, args, ats⟩) (hf : vev G σ fo = .yld id) (hc : VRx P G ro id (args.toList.map (vev G σ)) T fun x T' => K (vput σ o.dst x) T') : VPi P G ro o σ T K := by
  intro r g w a next Q' rw0 hG hσ hn
  have h1 := vev_ok hG hσ fo
  rw [hf] at h1
  obtain ⟨b, hb, hu⟩ := h1.yld_inv
  obtain ⟨b', fn, tmps, asg, body, hb', hrun, hround⟩ := hc g w _ rw0 hG (map_rel (vev_ok hG hσ) args.toList)
  rw [hb] at hb'; injection hb' with hb'; subst hb'
  refine ⟨fun _ _ => trivial, ?_⟩
  rw [Oper.semAt_eq _ _ _ (by rw [ho]; intro c hc; cases hc), run_yld ho hu, hrun]
  refine ⟨fun h => (by cases h), ?_⟩
  refine RoundIn.mono (F := fenR r) (show RoundIn (fenR r) 0 P b fn tmps asg body w _ from hround) ?_
  rintro e w' ⟨v, x, g', T', rfl, hq, e', r', hv, hx⟩
  exact hn _ _ g' w' _ ⟨_, rfl⟩ hq e' r' (vput_ok (hσ.mono e') o.dst hv) (put_defers _ _ _) hx
end
end Go.Proofs.Ytgconkbnokbinaa

/- A range over a map, over a string: what a walk knows of it. For any program. -/
namespace Go.Proofs.Ytgconkbnokbinaa
open Go.RowKit

section
variable {P : Program} {g : Gh} {T : VT} {w : World}
def vrange (P : Program) (T : VT) (t : TypeId) (x : TV) : Option (TV × VT) := match P.underlying t, x with
  | some (.map _ _), .val (.map none) => some (.ptr T.objs.length 0, { T with objs := T.objs ++ [.iter (.val (.map none)) 0 [] 0] })
  | some (.map _ _), .map id => match T.objs[id]? with
    | some (.map _ _ _ ck) => some (.ptr T.objs.length 0, { T with objs := T.objs ++ [.iter (.map id) ck [] ck] })
    | _ => none
  | some .string, .val (.string s) => some (.ptr T.objs.length 0, { T with objs := T.objs ++ [.siter s 0] })
  | _, _ => none
theorem vrange_ok (r : RW g T w) {t : TypeId} {x y : TV} {u : Value} {T' : VT} (h : vrange P T t x = some (y, T')) (hx : VR g w x u) : Does P g T w (Instr.range t u) y T' ∧ T'.objs.take T.objs.length = T.objs := by
  have go : ∀ (ob : Obj) (o : VO), o.live = true → (∀ g, RW g T w → OR g w w.heap.size o → OR g w w.heap.size o) → (Instr.range t u).run P w = .ok (.pointer (some ⟨w.heap.size, 0, none⟩)) (w.alloc ob) → (OR g (w.alloc ob) w.heap.size o) →
      Does P g T w (Instr.range t u) (.ptr T.objs.length 0) { T with objs := T.objs ++ [o] } := by
    intro ob o hl _ hrun hor
    obtain ⟨g', r', e', hg, _⟩ := r.new ob hl hor
    exact ⟨_, g', _, hrun, .ptr hg, e', r', Same.of_gr r ((Gr.refl w).alloc _)⟩
  unfold vrange at h
  split at h
  · rename_i hu
    injection h with h; injection h with e1 e2; subst e1 e2
    rw [hx.val_inv]
    rw [hx.val_inv] at go
    exact ⟨go (.mapIter none 0 #[] 0) _ rfl (fun _ _ h => h) (by simp [Instr.range, run_underlying hu, newObj, Sem.run]) ⟨none, heap_alloc_new w _, .val _⟩, by simp⟩
  · rename_i id hu
    split at h
    · rename_i sh look es ck hid
      injection h with h; injection h with e1 e2; subst e1 e2
      obtain ⟨b, hb, rfl⟩ := hx.map_inv
      obtain ⟨b', h1, ⟨ms, h2, _⟩, _⟩ := r.obj id _ hid rfl
      rw [hb] at h1; injection h1 with h1; subst h1
      exact ⟨go (.mapIter (some b) ck #[] ck) _ rfl (fun _ _ h => h) (by simp [Instr.range, run_underlying hu, getObj, newObj, Sem.run, h2]) ⟨some b, heap_alloc_new w _, .map hb⟩, by simp⟩
    · cases h
  · rename_i s hu
    injection h with h; injection h with e1 e2; subst e1 e2
    rw [hx.val_inv]
    rw [hx.val_inv] at go
    exact ⟨go (.stringIter s 0) _ rfl (fun _ _ h => h) (by simp [Instr.range, run_underlying hu, newObj, Sem.run]) (heap_alloc_new w _), by simp⟩
  · cases h
/-! ### The next entry: whichever it is -/
structure ERel (g : Gh) (w : World) (es : List (Value × TV × Nat)) (ms : List MapEntry) : Prop where
  len : ms.length = es.length
  at_ : ∀ (j : Nat) e m, es[j]? = some e → ms[j]? = some m → m.key = e.1 ∧ VR g w e.2.1 m.val ∧ m.born = e.2.2
theorem ERel.of {es : List (Value × TV × Nat)} {ms : List MapEntry} (h1 : ms.map (·.key) = es.map (·.1)) (h2 : VRs g w (es.map (·.2.1)) (ms.map (·.val))) (h3 : ms.map (·.born) = es.map (·.2.2)) : ERel g w es ms where
  len := by simpa using congrArg List.length h1
  at_ j e m he hm := by
    refine ⟨?_, ?_, ?_⟩
    · have := congrArg (·[j]?) h1; simpa [he, hm] using this
    · exact h2.2 j _ _ (by simp [he]) (by simp [hm])
    · have := congrArg (·[j]?) h3; simpa [he, hm] using this
theorem ERel.nil : ERel g w [] [] := ⟨rfl, fun j e m h => by simp at h⟩
theorem ERel.cons {e : Value × TV × Nat} {m : MapEntry} {es : List (Value × TV × Nat)} {ms : List MapEntry} (h : m.key = e.1 ∧ VR g w e.2.1 m.val ∧ m.born = e.2.2) (k : ERel g w es ms) : ERel g w (e :: es) (m :: ms) :=
  ⟨by simp [k.len], fun j e' m' he hm => by
    cases j with
    | zero => simp at he hm; subst he hm; exact h
    | succ j => exact k.at_ j e' m' (by simpa using he) (by simpa using hm)⟩
theorem ERel.tail {e : Value × TV × Nat} {m : MapEntry} {es : List (Value × TV × Nat)} {ms : List MapEntry} (k : ERel g w (e :: es) (m :: ms)) : ERel g w es ms :=
  ⟨by simpa using k.len, fun j e' m' he hm => k.at_ (j + 1) e' m' (by simpa using he) (by simpa using hm)⟩
theorem ERel.filter (p : Nat → Bool) : ∀ {es : List (Value × TV × Nat)} {ms : List MapEntry}, ERel g w es ms → ERel g w (es.filter fun e => p e.2.2) (ms.filter fun m => p m.born)
  | [], [], _ => by simpa using ERel.nil
  | [], _ :: _, k => by have := k.len; simp at this
  | _ :: _, [], k => by have := k.len; simp at this
  | e :: es, m :: ms, k => by
    have h0 := k.at_ 0 e m rfl rfl
    have ih := ERel.filter p k.tail
    simp only [List.filter_cons, h0.2.2]
    cases p e.2.2 with
    | true => exact .cons h0 ih
    | false => exact ih
theorem ERel.app {es es' : List (Value × TV × Nat)} {ms ms' : List MapEntry} (h : ERel g w es ms) (k : ERel g w es' ms') : ERel g w (es ++ es') (ms ++ ms') :=
  ⟨by simp [h.len, k.len], fun j e m he hm => by
    rcases Nat.lt_or_ge j es.length with hj | hj
    · rw [List.getElem?_append_left hj] at he
      rw [List.getElem?_append_left (by rw [h.len]; exact hj)] at hm
      exact h.at_ j e m he hm
    · rw [List.getElem?_append_right hj] at he
      rw [List.getElem?_append_right (by rw [h.len]; exact hj), h.len] at hm
      exact k.at_ _ e m he hm⟩
def vall {α : Type} (k : α → Prop) : List α → Prop
  | [] => True
  | [a] => k a
  | a :: b :: l => k a ∧ vall k (b :: l)
theorem vall_at {α : Type} {k : α → Prop} : ∀ {l : List α}, vall k l → ∀ a ∈ l, k a
  | [], _, a, h => by cases h
  | [x], h, a, ha => by simp at ha; subst ha; exact h
  | x :: y :: l, h, a, ha => by
    simp only [vall] at h
    rcases List.mem_cons.1 ha with rfl | ha
    · exact h.1
    · exact vall_at h.2 a ha
/-- the entries that may come next: those that were there as the range began; those that came since -/
def nextOld (since : Nat) (seen : List Nat) (es : List (Value × TV × Nat)) : List (Value × TV × Nat) := es.filter fun e => !(seen.contains e.2.2) && decide (e.2.2 < since)
def nextNew (since : Nat) (seen : List Nat) (es : List (Value × TV × Nat)) : List (Value × TV × Nat) := es.filter fun e => !(seen.contains e.2.2) && !(decide (e.2.2 < since))
def nextLost (seen : List Nat) (stepped : Nat) (es : List (Value × TV × Nat)) : Bool := !seen.isEmpty && !es.isEmpty && es.all fun e => decide (stepped ≤ e.2.2)
def VT.setIter (T : VT) (i : Nat) (m : TV) (since : Nat) (seen : List Nat) (stepped : Nat) : VT := { T with objs := T.objs.set i (.iter m since seen stepped) }
/-- what may come: the row of (what next yields, what is known behind it) -/
def vnexts (T : VT) (x : TV) : Option (Nat × List (TV × VT)) := match x with
  | .ptr i 0 => match T.objs[i]? with
    | some (.iter (.val (.map none)) _ _ _) => some (i, [(.tup [.val (.bool false)], T)])
    | some (.iter (.map m) since seen stepped) => match T.objs[m]? with
      | some (.map _ _ es ck) => bif nextLost seen stepped es then none else
          some (i, (bif (nextOld since seen es).isEmpty then [(.tup [.val (.bool false)], T)] else []) ++
            ((nextOld since seen es) ++ (nextNew since seen es)).map fun e => (.tup [.val (.bool true), .val e.1, e.2.1], T.setIter i (.map m) since (seen ++ [e.2.2]) ck))
      | _ => none
    | _ => none
  | _ => none
theorem isEmpty_len {α β : Type} {l : List α} {l' : List β} (h : l.length = l'.length) : l.isEmpty = l'.isEmpty := by cases l <;> cases l' <;> simp at h ⊢
theorem arr_isEmpty {α : Type} (A : Array α) : A.isEmpty = A.toList.isEmpty := by
  obtain ⟨l⟩ := A
  cases l <;> rfl
theorem choose_run (n : Nat) (hn : 0 < n) (w : World) : ∃ t w', (choose (.mapNext n)).run P w = .ok t w' ∧ t < n ∧ Gr w w' ∧ w'.heap = w.heap := by
  unfold choose
  by_cases h1 : n ≤ 1
  · refine ⟨0, w, ?_, by omega, Gr.refl w, rfl⟩
    simp [Sem.run, Question.forced, h1]
  · refine ⟨w.tape w.drawn (.mapNext n) % n, w.drew, ?_, Nat.mod_lt _ hn, (Gr.refl w).drew, rfl⟩
    simp [Sem.run, Question.forced, Question.cut, h1]
theorem vnexts_ok (r : RW g T w) {ro i : Nat} {ty : TypeId} {x : TV} {u : Value} {l : List (TV × VT)} (h : vnexts T x = some (i, l)) (hx : VR g w x u) (hr : ro ≤ i) :
    ∃ p ∈ l, ∃ v g' w', (Instr.next u false ty).run P w = .ok v w' ∧ VR g' w' p.1 v ∧ Evo g w g' w' ∧ RW g' p.2 w' ∧ Fix ro g T w p.2 w' := by
  unfold vnexts at h
  split at h
  · rename_i i'
    obtain ⟨bi, hbi, rfl⟩ := hx.ptr_inv
    split at h
    · rename_i since seen stepped hid
      injection h with h; injection h with e1 e2; subst e1 e2
      obtain ⟨b', h1, ⟨mb, h2, h3⟩, _⟩ := r.obj _ _ hid rfl
      rw [hbi] at h1; injection h1 with h1; subst h1
      have hmb : mb = none := by have := h3.val_inv; injection this
      subst hmb
      exact ⟨_, List.mem_singleton.2 rfl, .tuple #[.bool false], g, w, by simp [Instr.next, getObj, Sem.run, h2], .mk_tup (us := [.bool false]) (.cons (.val _) (.nil g w)), Evo.refl _ _, r, Fix.refl _ _ _ _⟩
    · rename_i m since seen stepped hid
      split at h
      · rename_i sh look es ck hmid
        cases hq : nextLost seen stepped es with
        | true => rw [hq] at h; cases h
        | false =>
          rw [hq] at h
          simp only [cond_false] at h
          injection h with h; injection h with e1 e2
          subst e1
          obtain ⟨b', h1, ⟨mb, h2, h3⟩, _⟩ := r.obj _ _ hid rfl
          rw [hbi] at h1; injection h1 with h1; subst h1
          obtain ⟨bm, hbm, hmb⟩ := h3.map_inv
          injection hmb with hmb; subst hmb
          obtain ⟨b2, k1, ⟨ms, k2, k3, k4, k5, k6⟩, _⟩ := r.obj m _ hmid rfl
          rw [hbm] at k1; injection k1 with k1; subst k1
          have rel := ERel.of k3 k4 k5
          have relO := rel.filter fun b => !(seen.contains b) && decide (b < since)
          have relN := rel.filter fun b => !(seen.contains b) && !(decide (b < since))
          have relC := relO.app relN
          -- the model's candidates
          have hlost : (!seen.toArray.isEmpty && !ms.isEmpty && ms.all fun e => decide (e.born ≥ stepped)) = false := by
            rw [← hq]
            unfold nextLost
            have e1 : ms.all (fun e => decide (e.born ≥ stepped)) = es.all fun e => decide (stepped ≤ e.2.2) := by
              rw [← Array.all_toList]
              have := congrArg (fun l => l.all fun b => decide (stepped ≤ b)) k5
              simpa [List.all_map, Function.comp_def] using this
            have e2 : ms.isEmpty = es.isEmpty := by
              rw [arr_isEmpty]; exact isEmpty_len rel.len
            rw [e1, e2]
            simp
          have hleft : ∀ p : Nat → Bool, ((ms.filter fun e => !seen.toArray.contains e.born).filter fun e => p e.born).toList = ms.toList.filter fun e => !(seen.contains e.born) && p e.born := by
            intro p
            simp only [Array.toList_filter, List.filter_filter, List.contains_toArray]
            congr 1
            funext e
            exact Bool.and_comm _ _
          -- what is chosen
          obtain ⟨C, hC⟩ : ∃ C : Array (Option MapEntry), C = (if ((ms.filter fun e => !seen.toArray.contains e.born).filter fun e => decide (e.born < since)).isEmpty then #[none] else #[]) ++ ((((ms.filter fun e => !seen.toArray.contains e.born).filter fun e => decide (e.born < since))) ++ ((ms.filter fun e => !seen.toArray.contains e.born).filter fun e => decide (e.born ≥ since))).map some := ⟨_, rfl⟩
          have hge : (fun b : Nat => decide (b ≥ since)) = fun b => !(decide (b < since)) := by
            funext b
            by_cases hb : b < since
            · simp [hb]
            · simp [hb]; omega
          have hOe : ((ms.filter fun e => !seen.toArray.contains e.born).filter fun e => decide (e.born < since)).isEmpty = (nextOld since seen es).isEmpty := by
            rw [arr_isEmpty, hleft fun b => decide (b < since)]
            exact isEmpty_len relO.len
          have hCl : C.toList = (bif (nextOld since seen es).isEmpty then [none] else []) ++ ((ms.toList.filter fun e => !(seen.contains e.born) && decide (e.born < since)) ++ (ms.toList.filter fun e => !(seen.contains e.born) && !(decide (e.born < since)))).map some := by
            rw [hC, Array.toList_append, Array.toList_map, Array.toList_append, hleft fun b => decide (b < since)]
            have h7 := hleft fun b => decide (b ≥ since)
            simp only [congrFun hge] at h7
            rw [show (fun e : MapEntry => decide (e.born ≥ since)) = fun e => !(decide (e.born < since)) from funext fun e => congrFun hge e.born, h7, hOe]
            cases (nextOld since seen es).isEmpty <;> simp
          have hpos : 0 < C.size := by
            rw [← Array.length_toList, hCl]
            have h8 := relO.len
            cases hoe : (nextOld since seen es).isEmpty with
            | true => simp
            | false =>
              have : (nextOld since seen es).length ≠ 0 := by intro h0; simp [List.eq_nil_of_length_eq_zero h0] at hoe
              unfold nextOld at this
              rw [cond_false, List.nil_append, List.length_map, List.length_append, relO.len]
              omega
          obtain ⟨t, w1, c1, c2, c3, c4⟩ := choose_run (P := P) C.size hpos w
          have hrun0 : ∀ R, ((match C[t]? with
              | some (some e) => (do setObj bi (.mapIter (some bm) since (seen.toArray.push e.born) ck); pure (.tuple #[.bool true, e.key, e.val]) : Sem Value)
              | some none => pure (.tuple #[.bool false])
              | none => stuck "Next: no such candidate").run P w1 = R) → (Instr.next (.pointer (some ⟨bi, 0, none⟩)) false ty).run P w = R := by
            intro R hR
            rw [← hR]
            have g1 : (getObj bi).run P w = .ok (.mapIter (some bm) since seen.toArray stepped) w := by simp [getObj, Sem.run, h2]
            have g2 : (getObj bm).run P w = .ok (.map ms ck) w := by simp [getObj, Sem.run, k2]
            simp only [Instr.next, Sem.run_bind, g1, Result.andThen_ok, g2, hlost, Bool.false_eq_true, if_false]
            rw [← hC]
            simp only [c1, Result.andThen_ok]
            generalize C[t]? = oc
            cases oc with
            | none => rfl
            | some oc => cases oc <;> rfl
          have hlt : t < C.toList.length := by simpa using c2
          have hct : C[t]? = C.toList[t]? := by simp
          rw [hCl] at hct hlt
          have rw1 := r.gr c3
          have ev1 := Evo.of_gr r c3
          have hDone : C[t]? = some none → (nextOld since seen es).isEmpty = true → ∃ p ∈ l, ∃ v g' w', (Instr.next (.pointer (some ⟨bi, 0, none⟩)) false ty).run P w = .ok v w' ∧ VR g' w' p.1 v ∧ Evo g w g' w' ∧ RW g' p.2 w' ∧ Fix ro g T w p.2 w' := by
            intro h1 h2'
            rw [← e2, h2']
            exact ⟨_, List.mem_append_left _ (List.mem_singleton.2 rfl), .tuple #[.bool false], g, w1, hrun0 _ (by rw [h1]; rfl), .mk_tup (us := [.bool false]) (.cons (.val _) (.nil g w1)), ev1, rw1, Fix.of_same (Same.of_gr r c3) List.take_length⟩
          have hMore : ∀ (j : Nat) (e : Value × TV × Nat) (me : MapEntry), (nextOld since seen es ++ nextNew since seen es)[j]? = some e → ((ms.toList.filter fun e => !(seen.contains e.born) && decide (e.born < since)) ++ (ms.toList.filter fun e => !(seen.contains e.born) && !(decide (e.born < since))))[j]? = some me → C[t]? = some (some me) →
              ∃ p ∈ l, ∃ v g' w', (Instr.next (.pointer (some ⟨bi, 0, none⟩)) false ty).run P w = .ok v w' ∧ VR g' w' p.1 v ∧ Evo g w g' w' ∧ RW g' p.2 w' ∧ Fix ro g T w p.2 w' := by
            intro j e me h1 h2' h3'
            obtain ⟨q1, q2, q3⟩ := relC.at_ j e me h1 h2'
            have h2w : w1.heap[bi]? = some (.mapIter (some bm) since seen.toArray stepped) := by rw [c4]; exact h2
            have hset := MapKept.heap_set (w := w1) (o' := .mapIter (some bm) since (seen.toArray.push me.born) ck) h2w
            have hcs : csize { w1 with heap := w1.heap.setIfInBounds bi (.mapIter (some bm) since (seen.toArray.push me.born) ck) } bi = csize w1 bi := by
              unfold csize; simp only [hset.1, h2w]
            have hbi1 : g.obj i' = some bi := hbi
            obtain ⟨_, e0⟩ := rw1.setObj hid rfl hbi1 (o' := .gone) (w' := { w1 with heap := w1.heap.setIfInBounds bi (.mapIter (some bm) since (seen.toArray.push me.born) ck) }) ⟨rfl, rfl, rfl⟩ (by simp) (fun c hc => hset.2 c hc) hcs (fun h => by cases h)
            obtain ⟨r2, e2'⟩ := rw1.setObj hid rfl hbi1 (o' := .iter (.map m) since (seen ++ [e.2.2]) ck) (w' := { w1 with heap := w1.heap.setIfInBounds bi (.mapIter (some bm) since (seen.toArray.push me.born) ck) }) ⟨rfl, rfl, rfl⟩ (by simp) (fun c hc => hset.2 c hc) hcs
              (fun _ => ⟨some bm, by rw [hset.1, ← q3]; simp, (h3.mono ev1).mono e0⟩)
            refine ⟨(.tup [.val (.bool true), .val e.1, e.2.1], T.setIter i' (.map m) since (seen ++ [e.2.2]) ck), ?_, .tuple #[.bool true, me.key, me.val], g, _, hrun0 (.ok (.tuple #[.bool true, me.key, me.val]) { w1 with heap := w1.heap.setIfInBounds bi (.mapIter (some bm) since (seen.toArray.push me.born) ck) }) ?_, ?_, ev1.trans e2', r2, ?_⟩
            · rw [← e2]
              exact List.mem_append_right _ (List.mem_map.2 ⟨e, List.mem_of_getElem? h1, rfl⟩)
            · rw [h3']
              simp [setObj, Sem.run, h2w]
            · exact .mk_tup (us := [.bool true, me.key, me.val]) (.cons (.val _) (.cons (by rw [q1]; exact .val _) (.cons ((q2.mono ev1).mono e2') (.nil _ _))))
            · exact (Fix.of_same (Same.of_gr r c3) (T' := T) List.take_length).trans ev1 (setObj_fix rw1 hid rfl hbi1 hr fun c hc => hset.2 c hc)
          have at_of : ∀ (j : Nat), j < ((ms.toList.filter fun e => !(seen.contains e.born) && decide (e.born < since)) ++ (ms.toList.filter fun e => !(seen.contains e.born) && !(decide (e.born < since)))).length →
              ∃ (e : Value × TV × Nat) (me : MapEntry), (nextOld since seen es ++ nextNew since seen es)[j]? = some e ∧ ((ms.toList.filter fun e => !(seen.contains e.born) && decide (e.born < since)) ++ (ms.toList.filter fun e => !(seen.contains e.born) && !(decide (e.born < since))))[j]? = some me := by
            intro j hj
            have hj2 : j < (nextOld since seen es ++ nextNew since seen es).length := by
              have := relC.len
              unfold nextOld nextNew
              omega
            exact ⟨_, _, List.getElem?_eq_getElem hj2, List.getElem?_eq_getElem hj⟩
          cases hoe : (nextOld since seen es).isEmpty with
          | true =>
            rw [hoe] at hct hlt
            simp only [cond_true] at hct hlt
            cases t with
            | zero => exact hDone (by rw [hct]; rfl) hoe
            | succ j =>
              simp only [List.singleton_append, List.getElem?_cons_succ, List.length_cons, List.length_map] at hct hlt
              obtain ⟨e, me, h1, h2'⟩ := at_of j (by omega)
              exact hMore j e me h1 h2' (by rw [hct, List.getElem?_map, h2']; rfl)
          | false =>
            rw [hoe] at hct hlt
            simp only [cond_false, List.nil_append, List.length_map] at hct hlt
            obtain ⟨e, me, h1, h2'⟩ := at_of t hlt
            exact hMore t e me h1 h2' (by rw [hct, List.getElem?_map, h2']; rfl)
      · cases h
    · cases h
  · cases h
/-- the entry at which a range stands -/
def ventry (T : VT) (x : TV) : Option TV := match x with
  | .ptr i 0 => match T.objs[i]? with
    | some (.iter (.map m) _ seen stepped) => match T.objs[m]?, seen.getLast? with
      | some (.map _ _ es ck), some st => bif Nat.beq ck stepped then (match es.find? fun e => Nat.beq e.2.2 st with
        | some e => some (.tup [.val e.1, e.2.1])
        | none => none) else none
      | _, _ => none
    | _ => none
  | _ => none
theorem find_rel {es : List (Value × TV × Nat)} {ms : List MapEntry} (h : ERel g w es ms) {st : Nat} {e : Value × TV × Nat} (hf : es.find? (fun e => Nat.beq e.2.2 st) = some e) : ∃ me, ms.find? (fun m => m.born == st) = some me ∧ me.key = e.1 ∧ VR g w e.2.1 me.val := by
  induction es generalizing ms with
  | nil => simp at hf
  | cons e0 es ih =>
    match ms, h with
    | [], h => have := h.len; simp at this
    | m0 :: ms, h =>
      have h0 := h.at_ 0 e0 m0 rfl rfl
      simp only [List.find?_cons] at hf ⊢
      have hb : (m0.born == st) = Nat.beq e0.2.2 st := by
        rw [h0.2.2]
        cases hq : Nat.beq e0.2.2 st with
        | true => simpa using Nat.eq_of_beq_eq_true hq
        | false => simpa using Nat.ne_of_beq_eq_false hq
      rw [hb]
      cases hq : Nat.beq e0.2.2 st with
      | true => rw [hq] at hf; injection hf with hf; subst hf; exact ⟨m0, rfl, h0.1, h0.2.1⟩
      | false => rw [hq] at hf; exact ih h.tail hf
theorem ventry_ok (r : RW g T w) {x y : TV} {u : Value} (h : ventry T x = some y) (hx : VR g w x u) : ∃ v, VR g w y v ∧ (Instr.entry u).run P w = .ok v w := by
  unfold ventry at h
  split at h
  · rename_i i
    obtain ⟨bi, hbi, rfl⟩ := hx.ptr_inv
    split at h
    · rename_i m since seen stepped hid
      split at h
      · rename_i sh look es ck st hmid hst
        cases hq : Nat.beq ck stepped with
        | false => rw [hq] at h; cases h
        | true =>
          rw [hq] at h
          have hck := Nat.eq_of_beq_eq_true hq
          subst hck
          simp only [cond_true] at h
          split at h
          · rename_i e he
            injection h with h; subst h
            obtain ⟨b', h1, ⟨mb, h2, h3⟩, _⟩ := r.obj _ _ hid rfl
            rw [hbi] at h1; injection h1 with h1; subst h1
            obtain ⟨bm, hbm, hmb⟩ := h3.map_inv
            injection hmb with hmb; subst hmb
            obtain ⟨b2, k1, ⟨ms, k2, k3, k4, k5, k6⟩, _⟩ := r.obj m _ hmid rfl
            rw [hbm] at k1; injection k1 with k1; subst k1
            obtain ⟨me, f1, f2, f3⟩ := find_rel (ERel.of k3 k4 k5) he
            refine ⟨.tuple #[me.key, me.val], .mk_tup (us := [me.key, me.val]) (.cons (by rw [f2]; exact .val _) (.cons f3 (.nil g w))), ?_⟩
            have g1 : (getObj bi).run P w = .ok (.mapIter (some bm) since seen.toArray ck) w := by simp [getObj, Sem.run, h2]
            have g2 : (getObj bm).run P w = .ok (.map ms ck) w := by simp [getObj, Sem.run, k2]
            have g3 : seen.toArray.back? = some st := by rw [← hst]; simp
            have g4 : ms.find? (fun x => x.born == st) = some me := by rw [← f1]; simp
            simp [Instr.entry, g1, g2, g3, g4]
          · cases h
      · cases h
    · cases h
  · cases h
end
end Go.Proofs.Ytgconkbnokbinaa

/- What is known, compared: alike for sure. For any program. -/
namespace Go.Proofs.Ytgconkbnokbinaa
open Go.RowKit

def valEq : Value → Value → Bool
  | .int k a, .int k' b => decide (k = k') && decide (a = b)
  | .bool a, .bool b => decide (a = b)
  | .string a, .string b => decide (a = b)
  | .pointer none, .pointer none => true
  | .slice none a b, .slice none c d => Nat.beq a c && Nat.beq b d
  | .map none, .map none => true
  | .nilFunc, .nilFunc => true
  | .nilIface, .nilIface => true
  | _, _ => false
theorem valEq_ok {a b : Value} (h : valEq a b = true) : a = b := by
  unfold valEq at h
  split at h <;> try simp only [Bool.and_eq_true, decide_eq_true_eq] at h
  · obtain ⟨rfl, rfl⟩ := h; rfl
  · subst h; rfl
  · subst h; rfl
  · rfl
  · rw [Nat.eq_of_beq_eq_true h.1, Nat.eq_of_beq_eq_true h.2]
  · rfl
  · rfl
  · rfl
  · cases h
def tokEq : Tok → Tok → Bool
  | .none, .none => true
  | .full, .full => true
  | .live, .live => true
  | .tail k e, .tail k' e' => Nat.beq k k' && Nat.beq e e'
  | .past k e, .past k' e' => Nat.beq k k' && Nat.beq e e'
  | _, _ => false
theorem tokEq_ok {a b : Tok} (h : tokEq a b = true) : a = b := by
  unfold tokEq at h
  split at h
  · rfl
  · rfl
  · rfl
  · rw [Bool.and_eq_true] at h; rw [Nat.eq_of_beq_eq_true h.1, Nat.eq_of_beq_eq_true h.2]
  · rw [Bool.and_eq_true] at h; rw [Nat.eq_of_beq_eq_true h.1, Nat.eq_of_beq_eq_true h.2]
  · cases h
def fnEq : Fn → Fn → Bool
  | .func a, .func b => Nat.beq a b
  | _, _ => false
theorem fnEq_ok {a b : Fn} (h : fnEq a b = true) : a = b := by
  unfold fnEq at h
  split at h
  · rw [Nat.eq_of_beq_eq_true h]
  · cases h
mutual
def tvEq : TV → TV → Bool
  | .val a, .val b => valEq a b
  | .ptr i o, .ptr j p => Nat.beq i j && Nat.beq o p
  | .vec s es t, .vec s' es' t' => Nat.beq s s' && tokEq t t' && tvEqLL es es'
  | .elt cs, .elt ds => tvEqL cs ds
  | .sl a b c d, .sl a' b' c' d' => Nat.beq a a' && Nat.beq b b' && Nat.beq c c' && Nat.beq d d'
  | .row a b c d, .row a' b' c' d' => Nat.beq a a' && Nat.beq b b' && Nat.beq c c' && Nat.beq d d'
  | .agg cs, .agg ds => tvEqL cs ds
  | .tup cs, .tup ds => tvEqL cs ds
  | .fn f a b, .fn g c d => fnEq f g && tvEqL a c && tvEqL b d
  | .ifc t x, .ifc u y => Nat.beq t u && tvEq x y
  | .map i, .map j => Nat.beq i j
  | .dead, .dead => true
  | _, _ => false
def tvEqL : List TV → List TV → Bool
  | [], [] => true
  | x :: l, y :: m => tvEq x y && tvEqL l m
  | _, _ => false
def tvEqLL : List (List TV) → List (List TV) → Bool
  | [], [] => true
  | x :: l, y :: m => tvEqL x y && tvEqLL l m
  | _, _ => false
end
mutual
theorem tvEq_ok : ∀ (x y : TV), tvEq x y = true → x = y
  | .val a, y, h => by cases y <;> simp only [tvEq] at h <;> first | rw [valEq_ok h] | (cases h; done)
  | .ptr i o, y, h => by
    cases y <;> simp only [tvEq, Bool.and_eq_true] at h <;> first | rw [Nat.eq_of_beq_eq_true h.1, Nat.eq_of_beq_eq_true h.2] | (cases h; done)
  | .vec s es t, y, h => by
    cases y <;> simp only [tvEq, Bool.and_eq_true] at h <;> first | rw [Nat.eq_of_beq_eq_true h.1.1, tokEq_ok h.1.2, tvEqLL_ok _ _ h.2] | (cases h; done)
  | .elt cs, y, h => by cases y <;> simp only [tvEq] at h <;> first | rw [tvEqL_ok _ _ h] | (cases h; done)
  | .sl a b c d, y, h => by
    cases y <;> simp only [tvEq, Bool.and_eq_true] at h <;> first | rw [Nat.eq_of_beq_eq_true h.1.1.1, Nat.eq_of_beq_eq_true h.1.1.2, Nat.eq_of_beq_eq_true h.1.2, Nat.eq_of_beq_eq_true h.2] | (cases h; done)
  | .row a b c d, y, h => by
    cases y <;> simp only [tvEq, Bool.and_eq_true] at h <;> first | rw [Nat.eq_of_beq_eq_true h.1.1.1, Nat.eq_of_beq_eq_true h.1.1.2, Nat.eq_of_beq_eq_true h.1.2, Nat.eq_of_beq_eq_true h.2] | (cases h; done)
  | .agg cs, y, h => by cases y <;> simp only [tvEq] at h <;> first | rw [tvEqL_ok _ _ h] | (cases h; done)
  | .tup cs, y, h => by cases y <;> simp only [tvEq] at h <;> first | rw [tvEqL_ok _ _ h] | (cases h; done)
  | .fn f a b, y, h => by
    cases y <;> simp only [tvEq, Bool.and_eq_true] at h <;> first | rw [fnEq_ok h.1.1, tvEqL_ok _ _ h.1.2, tvEqL_ok _ _ h.2] | (cases h; done)
  | .ifc t x, y, h => by
    cases y <;> simp only [tvEq, Bool.and_eq_true] at h <;> first | rw [Nat.eq_of_beq_eq_true h.1, tvEq_ok _ _ h.2] | (cases h; done)
  | .map i, y, h => by cases y <;> simp only [tvEq] at h <;> first | rw [Nat.eq_of_beq_eq_true h] | (cases h; done)
  | .yld i, y, h => by cases y <;> simp only [tvEq] at h <;> (cases h; done)
  | .dead, y, h => by cases y <;> simp only [tvEq] at h <;> first | rfl | (cases h; done)
theorem tvEqL_ok : ∀ (x y : List TV), tvEqL x y = true → x = y
  | [], y, h => by cases y <;> simp only [tvEqL] at h <;> first | rfl | (cases h; done)
  | x :: l, y, h => by
    cases y <;> simp only [tvEqL, Bool.and_eq_true] at h <;> first | rw [tvEq_ok _ _ h.1, tvEqL_ok _ _ h.2] | (cases h; done)
theorem tvEqLL_ok : ∀ (x y : List (List TV)), tvEqLL x y = true → x = y
  | [], y, h => by cases y <;> simp only [tvEqLL] at h <;> first | rfl | (cases h; done)
  | x :: l, y, h => by
    cases y <;> simp only [tvEqLL, Bool.and_eq_true] at h <;> first | rw [tvEqL_ok _ _ h.1, tvEqLL_ok _ _ h.2] | (cases h; done)
end
end Go.Proofs.Ytgconkbnokbinaa

/- A region that draws its order, by a plan in parts: what only reads is taken ahead; an operation that waits for all that was read may turn all. For any program. -/
namespace Go.Proofs.Ytgconkbnokbinaa
open Go.RowKit

section
variable {P : Program} {ops : Array Oper} {r : Option Nat}
/-- S speaks of the world while not all that was read is carried out -/
abbrev HS := Array Bool → World → Prop
def YieldsS (P : Program) (ops : Array Oper) (S : World → Prop) (o : Oper) (v : Value) (a : Act) : Prop :=
  (Region.wanted o (yielded ops a.tmps) = true ∧ ∀ w, S w → (execOp a.eval o).run P w = .ok (.value v) w) ∨
  (Region.wanted o (yielded ops a.tmps) = false ∧ v = undef)
theorem YieldsS.wpOpIn {S : World → Prop} {Q : Exit → Act → World → Prop} {i : Nat} {o : Oper} {v : Value} {a : Act} (hd : notDefer o.op = true) (hi : ops[i]? = some o) (hy : YieldsS P ops S o v a)
    {K : Act → World → Prop} {w : World} (hS : S w) (h : K (a.put o.dst v) w) : wpOpIn (fenR r) 0 P ops Q i K a w := by
  have hne : ∀ c, o.op ≠ .defer c := fun c hc => by rw [hc] at hd; cases hd
  unfold Go.wpOpIn
  simp only [hi]
  rcases hy with ⟨hw, hv⟩ | ⟨hw, rfl⟩
  · rw [if_pos hw]
    refine ⟨fun _ _ => trivial, ?_⟩
    rw [Oper.semAt_eq _ _ _ hne, hv w hS]
    exact h
  · rw [if_neg (by rw [hw]; exact Bool.false_ne_true)]
    exact ⟨fun _ _ => trivial, h⟩
theorem YieldsS.of_same {S : World → Prop} {o : Oper} {v : Value} {a a' : Act} (hy : YieldsS P ops S o v a) (he : execOp a'.eval o = execOp a.eval o)
    (hw : Region.wanted o (yielded ops a'.tmps) = Region.wanted o (yielded ops a.tmps)) : YieldsS P ops S o v a' := by
  unfold YieldsS at *
  rw [he, hw]
  exact hy
theorem wpOpIn_putS {S : World → Prop} {Q : Exit → Act → World → Prop} {j : Nat} {oi oj : Oper} {v : Value} (hdj : notDefer oj.op = true) (hj : ops[j]? = some oj) (hap : oi.apart ops oj = true)
    (hsi : ∀ cs b, oi.op ≠ .select cs b) (hsj : ∀ cs b, oj.op ≠ .select cs b)
    (hQ : ∀ e a w, e ≠ .normal → ¬ Q e a w) {K : Act → World → Prop} {a : Act} {w : World}
    (hy : YieldsS P ops S oi v a) (h : wpOpIn (fenR r) 0 P ops Q j K (a.put oi.dst v) w) :
    wpOpIn (fenR r) 0 P ops Q j (fun a' w' => YieldsS P ops S oi v a' ∧ K (a'.put oi.dst v) w') a w := by
  have hne : ∀ c, oj.op ≠ .defer c := fun c hc => by rw [hc] at hdj; cases hdj
  obtain ⟨h1, h2, h3⟩ := Oper.apart_spec hap
  have keep : ∀ (a : Act), YieldsS P ops S oi v a → ∀ u, YieldsS P ops S oi v (a.put oj.dst u) := fun a hy u =>
    hy.of_same (execOp_put oi hsi a oj.dst u h3) (wanted_put oi a oj.dst u h3)
  have keepD : ∀ d, YieldsS P ops S oi v { a with defers := d :: a.defers } := fun d => hy.of_same rfl rfl
  unfold wpOpIn at *
  simp only [hj] at *
  rw [wanted_put oj a oi.dst v h1] at h
  split
  · rename_i hw
    simp only [hw, if_true] at h
    unfold Oper.wpIn at *
    refine ⟨fun _ _ => trivial, ?_⟩
    have h := h.2
    rw [Oper.semAt_eq _ _ _ hne] at h ⊢
    rw [execOp_put oj hsj a oi.dst v h1] at h
    generalize (execOp a.eval oj).run P w = r at *
    cases r with
    | ok n w' =>
      cases n <;> simp only [Oper.uponIn] at h ⊢
      case value u => exact ⟨keep a hy u, by rw [← Act.put_comm a v u h2]; exact h⟩
      case skip => exact ⟨keep a hy _, by rw [← Act.put_comm a v undef h2]; exact h⟩
      case defer d =>
        refine ⟨keep _ (keepD d) _, ?_⟩
        rw [← Act.put_comm _ v undef h2, ← Act.put_defers]
        exact h
      case enter f args =>
        refine ⟨h.1, CallsIn.mono h.2 fun e w'' he => ?_⟩
        cases e with
        | returned u => exact ⟨keep a hy u, by rw [← Act.put_comm a v u h2]; exact he⟩
        | panicked c => exact (hQ _ _ _ (by simp) he).elim
        | outgrown => exact he
      case row row args => exact ⟨h.1, RowsIn.mono h.2 fun u w'' he => ⟨keep a hy u, by rw [← Act.put_comm a v u h2]; exact he⟩⟩
      case round l f tmps asg body =>
        refine ⟨h.1, RoundIn.mono h.2 fun e w'' he => ?_⟩
        cases e with
        | returned u => exact ⟨keep a hy u, by rw [← Act.put_comm a v u h2]; exact he⟩
        | panicked c => exact (hQ _ _ _ (by simp) he).elim
        | outgrown => exact he
    | halt x w' =>
      cases x <;> simp only [Oper.uponIn] at h ⊢
      case panic u => exact (hQ _ _ _ (by simp) h).elim
  · rename_i hw
    simp only [hw] at h
    exact ⟨fun _ _ => trivial, keep a hy _, by rw [← Act.put_comm a v undef h2]; exact h.2⟩
/-- whatever order is picked, and S holds behind every operation -/
def wpAnyS (P : Program) (r : Option Nat) (ops : Array Oper) (Q : Exit → Act → World → Prop) (S : HS) : Nat → Array Bool → Act → World → Prop
  | 0, listed, a, w => Region.ready .any ops listed = [] ∧ Q .normal a w
  | fuel + 1, listed, a, w =>
    (Region.ready .any ops listed = [] → Q .normal a w) ∧
    ∀ i ∈ Region.ready .any ops listed, wpOpIn (fenR r) 0 P ops Q i (fun a' w' => S (listed.setIfInBounds i true) w' ∧ wpAnyS P r ops Q S fuel (listed.setIfInBounds i true) a' w') a w
theorem anyIn_of_S {Q : Exit → Act → World → Prop} {S : HS} : ∀ (fuel : Nat) (listed : Array Bool) (a : Act) (w : World), wpAnyS P r ops Q S fuel listed a w → wpAnyIn (fenR r) 0 P .any ops Q fuel listed a w
  | 0, _, _, _, h => h
  | fuel + 1, _, _, _, h => ⟨h.1, fun i hi => wpOpIn_mono (fun a' w' h' => anyIn_of_S fuel _ a' w' h'.2) (h.2 i hi)⟩
/-- what is carried out is closed: all that it waited for is carried out -/
def Closed (ops : Array Oper) (listed : Array Bool) : Prop := ∀ (k : Nat) o, ops[k]? = some o → listed.getD k false = true → ∀ e ∈ o.after, Region.binds .any e = true → listed.getD e.on false = true
theorem Closed.set {listed : Array Bool} (h : Closed ops listed) {j : Nat} (hj : j ∈ Region.ready .any ops listed) : Closed ops (listed.setIfInBounds j true) := by
  obtain ⟨_, oj, hoj, hall⟩ := mem_ready.1 hj
  intro k o ho hk e he hb
  by_cases hkj : j = k
  · subst hkj
    rw [hoj] at ho; injection ho with ho; subst ho
    exact getD_set_true (hall e he hb)
  · rw [getD_set_ne false hkj] at hk
    exact getD_set_true (h k o ho hk e he hb)
/-- does b wait for i? -/
def anc (ops : Array Oper) : Nat → Nat → Nat → Bool
  | 0, _, _ => false
  | n + 1, b, i => match ops[b]? with
    | some o => (o.after.toList.any fun e => Region.binds .any e && Nat.beq e.on i) || (o.after.toList.any fun e => Region.binds .any e && anc ops n e.on i)
    | none => false
theorem anc_listed {listed : Array Bool} (hc : Closed ops listed) : ∀ (n b i : Nat), anc ops n b i = true → (∀ o, ops[b]? = some o → ∀ e ∈ o.after, Region.binds .any e = true → listed.getD e.on false = true) → listed.getD i false = true
  | 0, _, _, h, _ => by simp [anc] at h
  | n + 1, b, i, h, hb => by
    simp only [anc] at h
    split at h
    · rename_i o ho
      simp only [Bool.or_eq_true, List.any_eq_true, Bool.and_eq_true] at h
      rcases h with ⟨e, he, h1, h2⟩ | ⟨e, he, h1, h2⟩
      · have := Nat.eq_of_beq_eq_true h2
        rw [← this]; exact hb o ho e (Array.mem_toList_iff.1 he) h1
      · have h3 := hb o ho e (Array.mem_toList_iff.1 he) h1
        exact anc_listed hc n e.on i h2 fun o' ho' e' he' hb' => hc e.on o' ho' h3 e' he' hb'
    · cases h
/-- an operation that may come up is taken first. Sr: what its value hangs on; it holds as long as it is not carried out -/
theorem wpAnyS_first {Q : Exit → Act → World → Prop} {S : HS} {Sr : World → Prop} {i : Nat} {oi : Oper} {v : Value} (hi : ops[i]? = some oi) (hd : ∀ (j : Nat) o, ops[j]? = some o → notDefer o.op = true) (hsel : ∀ (j : Nat) (o : Oper) cs b, ops[j]? = some o → o.op ≠ .select cs b)
    (hQ : ∀ e a w, e ≠ .normal → ¬ Q e a w) (hSS : ∀ (listed : Array Bool) w, Closed ops listed → listed.getD i false = false → S (listed.setIfInBounds i true) w → Sr w) (hS2 : ∀ (listed : Array Bool) w, S (listed.setIfInBounds i true) w → S listed w) :
    ∀ (fuel : Nat) (listed : Array Bool) (a : Act) (w : World), Closed ops listed →
      (∀ j oj, ops[j]? = some oj → j ≠ i → listed.getD j true = false → (∀ e ∈ oj.after, Region.binds .any e = true → e.on ≠ i) → oi.apart ops oj = true) →
      i ∈ Region.ready .any ops listed → YieldsS P ops Sr oi v a → Sr w → S (listed.setIfInBounds i true) w →
      wpAnyS P r ops Q S fuel (listed.setIfInBounds i true) (a.put oi.dst v) w → wpAnyS P r ops Q S (fuel + 1) listed a w := by
  intro fuel
  induction fuel with
  | zero =>
    intro listed a w _ _ hr hy hS hS0 H
    refine ⟨fun h => (by rw [h] at hr; cases hr), fun j hj => ?_⟩
    by_cases hji : j = i
    · subst hji; exact hy.wpOpIn (hd _ _ hi) hi hS ⟨hS0, H⟩
    · have := ready_mono hj hji
      rw [H.1] at this
      cases this
  | succ fuel ih =>
    intro listed a w hc hfree hr hy hS hS0 H
    refine ⟨fun h => (by rw [h] at hr; cases hr), fun j hj => ?_⟩
    by_cases hji : j = i
    · subst hji; exact hy.wpOpIn (hd _ _ hi) hi hS ⟨hS0, H⟩
    · have h1 := H.2 j (ready_mono hj hji)
      obtain ⟨hjun, oj, hoj, hall⟩ := mem_ready.1 hj
      have hiun := (mem_ready.1 hr).1
      have hnot : ∀ e ∈ oj.after, Region.binds .any e = true → e.on ≠ i := fun e he hb heq => by
        have h1 := hall e he hb
        rw [heq] at h1
        rcases Nat.lt_or_ge i listed.size with h' | h'
        · simp [h'] at hiun h1; rw [hiun] at h1; cases h1
        · simp [Array.getElem?_eq_none h'] at h1
      have h2 := wpOpIn_putS (hd _ _ hoj) hoj (hfree j oj hoj hji hjun hnot) (fun cs b => hsel i oi cs b hi) (fun cs b => hsel j oj cs b hoj) hQ hy h1
      have hfree' : ∀ k ok, ops[k]? = some ok → k ≠ i → (listed.setIfInBounds j true).getD k true = false →
          (∀ e ∈ ok.after, Region.binds .any e = true → e.on ≠ i) → oi.apart ops ok = true := fun k ok hk hki hun hno => by
        refine hfree k ok hk hki ?_ hno
        by_cases hjk : j = k
        · subst hjk; exact hjun
        · rw [getD_set_ne true hjk] at hun; exact hun
      have hc' := hc.set hj
      have hir := ready_mono hr (Ne.symm hji)
      have hiun' : (listed.setIfInBounds j true).getD i false = false := by
        have h0 := (mem_ready.1 hir).1
        rcases Nat.lt_or_ge i (listed.setIfInBounds j true).size with h' | h'
        · have h'' : i < listed.size := by simpa using h'
          rw [Array.getD_eq_getD_getElem?] at h0 ⊢
          rw [Array.getElem?_eq_getElem h'] at h0 ⊢
          exact h0
        · rw [Array.getD_eq_getD_getElem?, Array.getElem?_eq_none h']; rfl
      refine wpOpIn_mono (fun a' w' h3 => ?_) h2
      obtain ⟨h4, h5, h6⟩ := h3
      rw [Array.setIfInBounds_comm _ _ (Ne.symm hji)] at h6 h5
      exact ⟨hS2 _ _ h5, ih (listed.setIfInBounds j true) a' w' hc' hfree' hir h4 (hSS _ _ hc' hiun' h5) h5 h6⟩
theorem wpAnyS_switch {Q : Exit → Act → World → Prop} {S S' : HS} {i : Nat} (hS : ∀ (L : Array Bool) w, L.getD i false = true → S L w) : ∀ (fuel : Nat) (listed : Array Bool) (a : Act) (w : World), listed.getD i false = true →
    wpAnyS P r ops Q S' fuel listed a w → wpAnyS P r ops Q S fuel listed a w
  | 0, _, _, _, _, h => h
  | fuel + 1, listed, a, w, hl, h => ⟨h.1, fun j hj => wpOpIn_mono (fun a' w' h' => ⟨hS _ _ (getD_set_true hl), wpAnyS_switch hS fuel _ a' w' (getD_set_true hl) h'.2⟩) (h.2 j hj)⟩
theorem wpAnyS_only {Q : Exit → Act → World → Prop} {S : HS} {i fuel : Nat} {listed : Array Bool} {a : Act} {w : World} (hr : Region.ready .any ops listed = [i])
    (h : wpOpIn (fenR r) 0 P ops Q i (fun a' w' => S (listed.setIfInBounds i true) w' ∧ wpAnyS P r ops Q S fuel (listed.setIfInBounds i true) a' w') a w) : wpAnyS P r ops Q S (fuel + 1) listed a w := by
  refine ⟨fun h0 => ?_, fun j hj => ?_⟩
  · rw [hr] at h0; cases h0
  · rw [hr] at hj
    simp at hj; subst hj; exact h
/-! ### Plans -/
inductive PK where
  | pk0
  | pk1
  | pk2
  | pk3
def isBar : PK → Bool
  | .pk3 => true
  | _ => false
def barsOf (plan : List (Nat × PK)) : List Nat := (plan.filter fun p => isBar p.2).map (·.1)
def inList : List Nat → Nat → Bool
  | [], _ => false
  | a :: l, i => Nat.beq a i || inList l i
theorem inList_mem : ∀ {l : List Nat} {i : Nat}, inList l i = false → i ∉ l
  | [], _, _ => by simp
  | a :: l, i, h => by
    simp only [inList, Bool.or_eq_false_iff] at h
    have h1 := Nat.ne_of_beq_eq_false h.1
    have h2 := inList_mem h.2
    simp only [List.mem_cons, not_or]
    exact ⟨fun e => h1 e.symm, h2⟩
def planChk (ops : Array Oper) : List (Nat × PK) → Array Bool → Bool
  | [], listed => (Region.ready .any ops listed).isEmpty
  | (i, k) :: l, listed => (match k with
      | .pk0 => Region.free .any ops listed i && (Region.ready .any ops listed).contains i
      | .pk1 => Region.free .any ops listed i && (Region.ready .any ops listed).contains i && (barsOf l).all fun b => anc ops ops.size b i
      | _ => Region.ready .any ops listed == [i]) && !(inList (barsOf l) i) && planChk ops l (listed.setIfInBounds i true)
def SS (g : Gh) (T : VT) (w0 : World) (bars : List Nat) : HS := fun L w => (∀ b ∈ bars, L.getD b false = false) → Same g T w0 w
theorem SS_first {g : Gh} {T : VT} {w0 : World} {bars : List Nat} {i : Nat} (hi : i ∉ bars) (listed : Array Bool) (w : World) (h : SS g T w0 bars (listed.setIfInBounds i true) w) : SS g T w0 bars listed w :=
  fun hb => h fun b hbm => by
    have hne : i ≠ b := by rintro rfl; exact hi hbm
    rw [getD_set_ne false hne]; exact hb b hbm
theorem SS_read {g : Gh} {T : VT} {w0 : World} {bars : List Nat} {i : Nat} (hi : i ∉ bars) (ha : ∀ b ∈ bars, anc ops ops.size b i = true) (listed : Array Bool) (w : World) (hc : Closed ops listed) (hu : listed.getD i false = false)
    (h : SS g T w0 bars (listed.setIfInBounds i true) w) : Same g T w0 w :=
  h fun b hbm => by
    have hne : i ≠ b := by rintro rfl; exact hi hbm
    rw [getD_set_ne false hne]
    cases hq : listed.getD b false with
    | false => rfl
    | true =>
      have := anc_listed hc ops.size b i (ha b hbm) fun o ho e he hb => hc b o ho hq e he hb
      rw [hu] at this; cases this
end
end Go.Proofs.Ytgconkbnokbinaa

/- Regions' plans by masks: what is listed is one number. For any program. -/
namespace Go.Proofs.Ytgconkbnokbinaa
open Go.RowKit

def bitN (i : Nat) : Nat := Nat.shiftLeft 1 i
def hasBit (m i : Nat) : Bool := bif Nat.beq (Nat.land 1 (Nat.shiftRight m i)) 0 then false else true
def edgesM : List Edge → Nat
  | [] => 0
  | e :: l => bif Region.binds .any e then Nat.lor (bitN e.on) (edgesM l) else edgesM l
def depMs : List Oper → List Nat
  | [] => []
  | o :: l => edgesM o.after.toList :: depMs l
def readyM : Nat → List Nat → Nat → List Nat
  | _, [], _ => []
  | i, d :: l, m => bif hasBit m i then readyM (i + 1) l m else bif Nat.beq (Nat.land d m) d then i :: readyM (i + 1) l m else readyM (i + 1) l m
def maskL : List Nat → Nat
  | [] => 0
  | i :: l => Nat.lor (bitN i) (maskL l)
def nthN : List Nat → Nat → Nat
  | [], _ => 0
  | a :: l, k => match k with
    | 0 => a
    | k + 1 => nthN l k
def ancRow (i : Nat) (A : List Nat) : List Edge → Nat
  | [] => 0
  | e :: l => bif Region.binds .any e then Nat.lor (Nat.lor (bitN e.on) (nthN A (i - 1 - e.on))) (ancRow i A l) else ancRow i A l
def ancGo : List Oper → Nat → List Nat → List Nat
  | [], _, A => A
  | o :: l, i, A => ancGo l (i + 1) (ancRow i A o.after.toList :: A)
def ancM (n : Nat) (A : List Nat) (i k : Nat) : Bool := hasBit (nthN A (n - 1 - i)) k
theorem hasBit_eq (m i : Nat) : hasBit m i = m.testBit i := by
  unfold hasBit Nat.testBit
  show (bif Nat.beq (1 &&& (m >>> i)) 0 then false else true) = _
  cases h : Nat.beq (1 &&& (m >>> i)) 0 with
  | true => rw [Nat.eq_of_beq_eq_true h]; rfl
  | false =>
    have := Nat.ne_of_beq_eq_false h
    exact (bne_iff_ne.2 this).symm
theorem bitN_test (i j : Nat) : (bitN i).testBit j = decide (i = j) := by
  show (1 <<< i).testBit j = _
  rw [Nat.one_shiftLeft, Nat.testBit_two_pow]
theorem lor_test (a b j : Nat) : (Nat.lor a b).testBit j = (a.testBit j || b.testBit j) := Nat.testBit_or a b j
theorem edgesM_test : ∀ (l : List Edge) (j : Nat), (edgesM l).testBit j = true ↔ ∃ e ∈ l, Region.binds .any e = true ∧ e.on = j
  | [], j => by simp [edgesM]
  | e :: l, j => by
    simp only [edgesM]
    cases hb : Region.binds .any e with
    | true =>
      rw [cond_true, lor_test, Bool.or_eq_true, bitN_test, decide_eq_true_eq, edgesM_test l j]
      constructor
      · rintro (h | ⟨e', h1, h2⟩)
        · exact ⟨e, List.mem_cons_self, hb, h⟩
        · exact ⟨e', List.mem_cons_of_mem _ h1, h2⟩
      · rintro ⟨e', h1, h2, h3⟩
        rcases List.mem_cons.1 h1 with rfl | h1
        · exact .inl h3
        · exact .inr ⟨e', h1, h2, h3⟩
    | false =>
      rw [cond_false, edgesM_test l j]
      constructor
      · rintro ⟨e', h1, h2⟩; exact ⟨e', List.mem_cons_of_mem _ h1, h2⟩
      · rintro ⟨e', h1, h2, h3⟩
        rcases List.mem_cons.1 h1 with rfl | h1
        · rw [hb] at h2; cases h2
        · exact ⟨e', h1, h2, h3⟩
theorem land_sub (d m : Nat) : Nat.beq (Nat.land d m) d = true ↔ ∀ j, d.testBit j = true → m.testBit j = true := by
  constructor
  · intro h j hj
    have h1 : (d &&& m) = d := Nat.eq_of_beq_eq_true h
    have := Nat.testBit_and d m j
    rw [h1, hj] at this
    simpa using this.symm
  · intro h
    have : (d &&& m) = d := Nat.eq_of_testBit_eq fun j => by
      rw [Nat.testBit_and]
      cases hd : d.testBit j with
      | true => simp [h j hd]
      | false => rfl
    show Nat.beq (d &&& m) d = true
    rw [this]; exact Nat.beq_refl d
/-- the mask says what is listed -/
def MaskOk (n : Nat) (m : Nat) (V : Array Bool) : Prop := V.size = n ∧ ∀ i, V.getD i false = m.testBit i
theorem MaskOk.zero (n : Nat) : MaskOk n 0 (Array.replicate n false) := by
  refine ⟨by simp, fun i => ?_⟩
  rw [Array.getD_eq_getD_getElem?, Array.getElem?_replicate]
  split <;> simp
theorem MaskOk.set {n m : Nat} {V : Array Bool} (h : MaskOk n m V) {i : Nat} (hi : i < n) : MaskOk n (Nat.lor m (bitN i)) (V.setIfInBounds i true) := by
  refine ⟨by simp [h.1], fun j => ?_⟩
  rw [lor_test, bitN_test, Array.getD_eq_getD_getElem?, Array.getElem?_setIfInBounds]
  by_cases hij : i = j
  · subst hij
    have : i < V.size := by rw [h.1]; exact hi
    simp [this]
  · simp only [hij, if_false, decide_false, Bool.or_false]
    rw [← h.2 j, Array.getD_eq_getD_getElem?]
section
variable {ops : Array Oper}
theorem deps_eq {n m : Nat} {V : Array Bool} (h : MaskOk n m V) (o : Oper) : Nat.beq (Nat.land (edgesM o.after.toList) m) (edgesM o.after.toList) = o.after.toList.all fun e => !Region.binds .any e || V.getD e.on false := by
  rw [Bool.eq_iff_iff, land_sub]
  simp only [List.all_eq_true, Bool.or_eq_true, Bool.not_eq_true']
  constructor
  · intro k e he
    cases hb : Region.binds .any e with
    | false => exact .inl rfl
    | true => right; rw [h.2]; exact k _ ((edgesM_test _ _).2 ⟨e, he, hb, rfl⟩)
  · intro k j hj
    obtain ⟨e, he, hb, rfl⟩ := (edgesM_test _ _).1 hj
    rcases k e he with h1 | h1
    · rw [hb] at h1; cases h1
    · rw [← h.2]; exact h1
theorem readyM_eq {m : Nat} : ∀ (L : List Oper) (k : Nat), readyM k (depMs L) m = (List.range' k L.length).filter fun i => !hasBit m i && ((L[i - k]?).map fun o => Nat.beq (Nat.land (edgesM o.after.toList) m) (edgesM o.after.toList)).getD false
  | [], k => by simp [readyM, depMs]
  | o :: L, k => by
    have ih := readyM_eq (m := m) L (k + 1)
    have e1 : ((List.range' (k + 1) L.length).filter fun i => !hasBit m i && (((o :: L)[i - k]?).map fun o => Nat.beq (Nat.land (edgesM o.after.toList) m) (edgesM o.after.toList)).getD false) = readyM (k + 1) (depMs L) m := by
      rw [ih]
      refine List.filter_congr fun i hi => ?_
      have hk : k + 1 ≤ i := by
        obtain ⟨j, hj, rfl⟩ := List.mem_range'.1 hi
        omega
      have e2 : i - k = (i - (k + 1)) + 1 := by omega
      rw [e2, List.getElem?_cons_succ]
    rw [List.length_cons, List.range'_succ, List.filter_cons, e1, Nat.sub_self, List.getElem?_cons_zero]
    simp only [readyM, depMs, Option.map_some, Option.getD_some]
    cases hasBit m k <;> simp
theorem ready_eq {m : Nat} {V : Array Bool} (h : MaskOk ops.size m V) : Region.ready .any ops V = readyM 0 (depMs ops.toList) m := by
  rw [readyM_eq, Region.ready, List.range_eq_range', Array.length_toList]
  refine List.filter_congr fun i hi => ?_
  have hlt : i < ops.size := by
    obtain ⟨j, hj, rfl⟩ := List.mem_range'.1 hi
    omega
  have h1 : V.getD i true = hasBit m i := by
    rw [hasBit_eq, ← h.2, Array.getD_eq_getD_getElem?, Array.getD_eq_getD_getElem?]
    have : i < V.size := by rw [h.1]; exact hlt
    simp [this]
  rw [h1, Nat.sub_zero]
  congr 1
  rw [Array.getElem?_toList]
  cases ops[i]? with
  | none => rfl
  | some o =>
    simp only [Option.map_some, Option.getD_some]
    rw [deps_eq h]
    simp
theorem ancRow_test (i : Nat) (A : List Nat) : ∀ (l : List Edge) (k : Nat), (ancRow i A l).testBit k = true → ∃ e ∈ l, Region.binds .any e = true ∧ (e.on = k ∨ (nthN A (i - 1 - e.on)).testBit k = true)
  | [], k, h => by simp [ancRow] at h
  | e :: l, k, h => by
    simp only [ancRow] at h
    cases hb : Region.binds .any e with
    | true =>
      rw [hb, cond_true, lor_test, lor_test, Bool.or_eq_true, Bool.or_eq_true, bitN_test, decide_eq_true_eq] at h
      rcases h with h | h
      · exact ⟨e, List.mem_cons_self, hb, h⟩
      · obtain ⟨e', h1, h2⟩ := ancRow_test i A l k h
        exact ⟨e', List.mem_cons_of_mem _ h1, h2⟩
    | false =>
      rw [hb, cond_false] at h
      obtain ⟨e', h1, h2⟩ := ancRow_test i A l k h
      exact ⟨e', List.mem_cons_of_mem _ h1, h2⟩
def AncOk (ops : Array Oper) (j k : Nat) : Prop := ∀ fuel, j < fuel → anc ops fuel j k = true
theorem ancGo_ok (hf : flowOk ops = true) : ∀ (L : List Oper) (i : Nat) (A : List Nat), (∀ j o, L[j]? = some o → ops[i + j]? = some o) → A.length = i → (∀ j, j < i → ∀ k, (nthN A (i - 1 - j)).testBit k = true → AncOk ops j k) →
    ∀ j, j < i + L.length → ∀ k, (nthN (ancGo L i A) (i + L.length - 1 - j)).testBit k = true → AncOk ops j k
  | [], i, A, _, _, h, j, hj, k, hk => h j hj k hk
  | o :: L, i, A, hL, hA, h, j, hj, k, hk => by
    have ho : ops[i]? = some o := by simpa using hL 0 o rfl
    simp only [ancGo] at hk
    have e1 : i + (o :: L).length = (i + 1) + L.length := by simp; omega
    rw [e1] at hk hj
    refine ancGo_ok hf L (i + 1) _ (fun j o' h' => ?_) (by simp [hA]) (fun j hj k hk => ?_) j hj k hk
    · have := hL (j + 1) o' (by simpa using h')
      rw [← this]; congr 1; omega
    · by_cases hji : j = i
      · subst hji
        rw [show j + 1 - 1 - j = 0 by omega] at hk
        simp only [nthN] at hk
        obtain ⟨e, he, hb, h2⟩ := ancRow_test j A _ k hk
        have hlt := (flowOk_spec hf ho).1 e (Array.mem_toList_iff.1 he) hb
        intro fuel hfu
        cases fuel with
        | zero => omega
        | succ f =>
          simp only [anc, ho, Bool.or_eq_true]
          rcases h2 with h2 | h2
          · left
            exact List.any_eq_true.2 ⟨e, he, by rw [hb, h2, Nat.beq_refl]; rfl⟩
          · right
            exact List.any_eq_true.2 ⟨e, he, by rw [hb, h e.on hlt k h2 f (by omega)]; rfl⟩
      · have hji' : j < i := by omega
        rw [show i + 1 - 1 - j = (i - 1 - j) + 1 by omega] at hk
        simp only [nthN] at hk
        exact h j hji' k hk
theorem ancM_ok (hf : flowOk ops = true) {i k : Nat} (hi : i < ops.size) (h : ancM ops.size (ancGo ops.toList 0 []) i k = true) : anc ops ops.size i k = true := by
  unfold ancM at h
  rw [hasBit_eq] at h
  have h2 := ancGo_ok hf ops.toList 0 [] (fun j o h => by rw [Nat.zero_add, ← Array.getElem?_toList]; exact h) rfl (fun j hj => absurd hj (Nat.not_lt_zero j)) i (by simpa using hi) k (by simpa using h)
  exact h2 _ hi
end
end Go.Proofs.Ytgconkbnokbinaa

/- The evaluator. For any program. -/
namespace Go.Proofs.Ytgconkbnokbinaa
open Go.RowKit

section
/-! ### Regions: a plan, reckoned -/
/-- it looks at no memory, and makes and turns nothing -/
def isPure (P : Program) : Op → Bool
  | .typeAssert .. | .move _ | .assign _ | .pick .. | .binOp .. | .unOp .. | .field .. | .fieldAddr .. | .indexAddr .. | .index .. | .slice .. | .extract .. | .build .. | .makeFunc .. | .makeInterface .. | .nilCheck _ | .sliceToArrayPointer .. => true
  | .convert s d _ => match P.underlying s, P.underlying d with
    | some (.slice _), _ => false
    | _, some (.slice _) => false
    | _, _ => true
  | _ => false
/-- it only reads -/
def isRead (P : Program) : Op → Bool
  | .load .. | .lookup .. => true
  | .convert s d _ => match P.underlying s, P.underlying d with
    | some (.slice _), some .string => true
    | _, _ => false
  | .call c => match c.callee with
    | .builtin .len | .builtin .cap | .builtin .min | .builtin .max => true
    | _ => false
  | _ => false
def planFind (q : Op → Bool) (ops : Array Oper) (listed : Array Bool) : List Nat → Option Nat
  | [] => none
  | i :: l => cond (match ops[i]? with | some o => q o.op && Region.free .any ops listed i | none => false) (some i) (planFind q ops listed l)
def planAuto (P : Program) (ops : Array Oper) : Nat → Array Bool → List Nat → Option (List (Nat × PK))
  | 0, _, _ => some []
  | n + 1, listed, pend => match Region.ready .any ops listed with
    | [] => some []
    | r => match planFind (isPure P) ops listed r with
      | some i => (planAuto P ops n (listed.setIfInBounds i true) pend).map ((i, .pk0) :: ·)
      | none => match planFind (isRead P) ops listed r with
        | some i => (planAuto P ops n (listed.setIfInBounds i true) (i :: pend)).map ((i, .pk1) :: ·)
        | none => match r with
          | [i] => cond (pend.all fun j => anc ops ops.size i j) ((planAuto P ops n (listed.setIfInBounds i true) []).map ((i, .pk3) :: ·)) (match ops[i]? with
            | some ⟨_, .store .., _, _, _, _⟩ => none
            | _ => (planAuto P ops n (listed.setIfInBounds i true) pend).map ((i, .pk2) :: ·))
          | _ => none
def planSet (ops : Array Oper) : List (Nat × PK) → List (Oper × PK)
  | [] => []
  | (i, k) :: l => match ops[i]? with
    | some o => (o, k) :: planSet ops l
    | none => planSet ops l
def planAll (P : Program) (ops : Array Oper) : Option (List (Oper × PK)) := match planAuto P ops ops.size (Array.replicate ops.size false) [] with
  | some p => cond (Region.noSelect ops && Nat.beq p.length ops.size && planChk ops p (Array.replicate ops.size false)) (some (planSet ops p)) none
  | none => none
def noDefers (ops : Array Oper) : Bool := ops.toList.all fun o => notDefer o.op

/-! ### Regions by virtual time: an operation is reckoned when that is easiest, and carried out whenever it comes up -/
inductive FK where
  | own
  | turn (pend : List Nat)
  | bar
  | late
  | box (j : Nat)
  | put (pend : List Nat)
def isStore : Op → Bool
  | .store .. => true
  | _ => false
def eqL : List Nat → List Nat → Bool
  | [], [] => true
  | a :: l, b :: m => Nat.beq a b && eqL l m
  | _, _ => false
def isMkA : Op → Bool
  | .buildSlice .. => true
  | _ => false
def isOwn (P : Program) (op : Op) : Bool := isPure P op || isRead P op || isMkA op
/-- a new object, out of nothing; what it gives, what is known then -/
def vlateMk (P : Program) (T : VT) : Op → Option (TV × VT)
  | .alloc t => valloc P T t
  | .makeMap t none => vmakeMap P T t none
  | .makeSlice t (.const a) (.const b) => vmakeR P T t (.val a) (.val b)
  | _ => none
def lateAt (P : Program) (o : Oper) : Bool := (vlateMk P ⟨[], []⟩ o.op).isSome && o.guard.isNone && o.dst.isSome && notDefer o.op
/-- an alloc and the store that lays its first value: the value's cells -/
def vboxVal (P : Program) (op opj : Op) (ev : Operand → TV) : Option (List TV) := match op, opj with
  | .alloc t, .store _ _ x => match P.info? t, cellsOf (ev x) with
    | some i, some new => bif Nat.beq i.size new.length && new.all isCell then some new else none
    | _, _ => none
  | _, _ => none
def vboxMk (P : Program) (T : VT) (op opj : Op) (ev : Operand → TV) : Option (TV × VT) := (vboxVal P op opj ev).map fun new => (.ptr T.objs.length 0, { T with objs := T.objs ++ [.cells new] })
def isBoxOf (P : Program) (o oj : Oper) : Bool := match o.dst, o.op, oj.op with
  | some d, .alloc t, .store t' (.tmp d') x => Nat.beq d d' && Nat.beq t t' && oj.guard.isNone && oj.dst.isNone && (match x with
      | .tmp e => !(Nat.beq e d)
      | _ => true) && (match P.info? t with
      | some i => match i.zero with
        | some z => Nat.beq z.cells.size i.size
        | none => false
      | none => false)
  | _, _, _ => false
def boxFind (P : Program) (ops : Array Oper) (o : Oper) : List Nat → Option Nat
  | [] => none
  | j :: l => cond (match ops[j]? with | some oj => isBoxOf P o oj | none => false) (some j) (boxFind P ops o l)
def floats (P : Program) (ops : Array Oper) : List Nat → List (Nat × Option Nat)
  | [] => []
  | i :: l => match ops[i]? with
    | some o => cond (lateAt P o) ((i, boxFind P ops o (List.range ops.size)) :: floats P ops l) (floats P ops l)
    | none => floats P ops l
def floatL : List (Nat × Option Nat) → List Nat
  | [] => []
  | (i, none) :: l => i :: floatL l
  | (i, some j) :: l => i :: j :: floatL l
def setAll : List Nat → Array Bool → Array Bool
  | [], V => V
  | i :: l, V => setAll l (V.setIfInBounds i true)
def depsIn (ops : Array Oper) (V : Array Bool) (j : Nat) : Bool := match ops[j]? with
  | some o => o.after.toList.all fun e => !Region.binds .any e || V.getD e.on false
  | none => false
/-- is it the store of a box? -/
def boxStore (flo : List (Nat × Option Nat)) (k : Nat) : Bool := flo.any fun p => match p.2 with
  | some j => Nat.beq j k
  | none => false
/-- the stores of other boxes aside -/
def depsInB (ops : Array Oper) (flo : List (Nat × Option Nat)) (V : Array Bool) (j : Nat) : Bool := match ops[j]? with
  | some o => o.after.toList.all fun e => !Region.binds .any e || V.getD e.on false || boxStore flo e.on
  | none => false
def ownFind (P : Program) (ops : Array Oper) : List Nat → Option Nat
  | [] => none
  | i :: l => cond (match ops[i]? with | some o => isOwn P o.op | none => false) (some i) (ownFind P ops l)
def lateFind (ops : Array Oper) (V : Array Bool) (r : List Nat) : List (Nat × Option Nat) → Option (Nat × Option Nat)
  | [] => none
  | (i, none) :: l => cond (inList r i) (some (i, none)) (lateFind ops V r l)
  | (i, some j) :: l => cond (inList r i && depsIn ops (V.setIfInBounds i true) j) (some (i, some j)) (lateFind ops V r l)
def plan2 (P : Program) (ops : Array Oper) (flo : List (Nat × Option Nat)) (F : List Nat) : Nat → Array Bool → List Nat → List (Nat × FK)
  | 0, _, _ => []
  | n + 1, V, pend => match Region.ready .any ops V with
    | [] => []
    | r => match ownFind P ops r with
      | some i => (i, .own) :: plan2 P ops flo F n (V.setIfInBounds i true) (match ops[i]? with | some o => bif isRead P o.op then i :: pend else pend | none => pend)
      | none => match r.filter fun i => !(inList F i) with
        | [i] => bif pend.all fun k => anc ops ops.size i k then (i, .bar) :: plan2 P ops flo F n (V.setIfInBounds i true) [] else (i, match ops[i]? with | some o => bif isStore o.op then .put pend else .turn pend | none => .turn pend) :: plan2 P ops flo F n (V.setIfInBounds i true) pend
        | [] => match lateFind ops V r flo with
          | some (i, none) => (i, .late) :: plan2 P ops flo F n (V.setIfInBounds i true) pend
          | some (i, some j) => (i, .box j) :: plan2 P ops flo F n ((V.setIfInBounds i true).setIfInBounds j true) pend
          | none => []
        | _ => []
/-- each slot is written once; who looks at it waits for that -/
def onceOk (ops : Array Oper) : Bool := (List.range ops.size).all fun i => match ops[i]? with
  | some o => match o.dst with
    | some d => !(inList (o.looksAt ops) d) && (List.range ops.size).all fun j => Nat.beq j i || match ops[j]? with
      | some oj => (match oj.dst with
          | some d' => !(Nat.beq d' d)
          | none => true) && (!(inList (oj.looksAt ops) d) || oj.after.toList.any fun e => Region.binds .any e && Nat.beq e.on i)
      | none => true
    | none => true
  | none => true
def remL (i : Nat) : List Nat → List Nat
  | [] => []
  | k :: l => bif Nat.beq k i then remL i l else k :: remL i l
/-- pend: what was read since the last bar -/
def plan2Chk (P : Program) (ops : Array Oper) (flo : List (Nat × Option Nat)) (F : List Nat) : List (Nat × FK) → Array Bool → List Nat → Bool
  | [], V, _ => (Region.ready .any ops V).isEmpty
  | (i, .own) :: l, V, pend => inList (Region.ready .any ops V) i && !(inList F i) && (match ops[i]? with | some o => notDefer o.op | none => false) && plan2Chk P ops flo F l (V.setIfInBounds i true) (match ops[i]? with | some o => bif isRead P o.op then i :: pend else pend | none => pend)
  | (i, .turn pe) :: l, V, pend => eqL pe pend && inList (Region.ready .any ops V) i && !(inList F i) && ((Region.ready .any ops (setAll F V)).all fun k => Nat.beq k i || inList F k) && plan2Chk P ops flo F l (V.setIfInBounds i true) pend
  | (i, .put pe) :: l, V, pend => eqL pe pend && inList (Region.ready .any ops V) i && !(inList F i) && ((Region.ready .any ops (setAll F V)).all fun k => Nat.beq k i || inList F k) && plan2Chk P ops flo F l (V.setIfInBounds i true) pend
  | (i, .bar) :: l, V, pend => inList (Region.ready .any ops V) i && !(inList F i) && ((Region.ready .any ops (setAll F V)).all fun k => Nat.beq k i || inList F k) && (pend.all fun k => anc ops ops.size i k) && plan2Chk P ops flo F l (V.setIfInBounds i true) []
  | (i, .late) :: l, V, pend => (flo.any fun p => Nat.beq p.1 i && p.2.isNone) && inList (Region.ready .any ops V) i && ((Region.ready .any ops (setAll (remL i F) V)).all fun k => inList F k) && plan2Chk P ops flo F l (V.setIfInBounds i true) pend
  | (i, .box j) :: l, V, pend => (flo.any fun p => Nat.beq p.1 i && match p.2 with | some j' => Nat.beq j' j | none => false) && inList (Region.ready .any ops V) i && depsIn ops (V.setIfInBounds i true) j && ((Region.ready .any ops (setAll (remL j F) V)).all fun k => inList F k) && plan2Chk P ops flo F l ((V.setIfInBounds i true).setIfInBounds j true) pend
/-- what the floats are: late operations; the stores of boxes wait for their alloc, and for no other float -/
def floChk (P : Program) (ops : Array Oper) (flo : List (Nat × Option Nat)) (F : List Nat) : Bool := flo.all fun p => match ops[p.1]? with
  | some o => lateAt P o && (match p.2 with
    | none => true
    | some j => match ops[j]? with
      | some oj => isBoxOf P o oj && (oj.after.toList.any fun e => Region.binds .any e && Nat.beq e.on p.1) && (oj.after.toList.all fun e => !Region.binds .any e || Nat.beq e.on p.1 || !(inList F e.on) || boxStore flo e.on)
      | none => false)
  | none => false
def noDup : List Nat → Bool
  | [] => true
  | i :: l => !(inList l i) && noDup l
/-! #### The same by masks -/
def depsInM (D : List Nat) (m j : Nat) : Bool := match D[j]? with
  | some d => Nat.beq (Nat.land d m) d
  | none => false
def lateFindM (D : List Nat) (m : Nat) (r : List Nat) : List (Nat × Option Nat) → Option (Nat × Option Nat)
  | [] => none
  | (i, none) :: l => cond (inList r i) (some (i, none)) (lateFindM D m r l)
  | (i, some j) :: l => cond (inList r i && depsInM D (Nat.lor m (bitN i)) j) (some (i, some j)) (lateFindM D m r l)
def dropM (FM : Nat) : List Nat → List Nat
  | [] => []
  | i :: l => bif hasBit FM i then dropM FM l else i :: dropM FM l
def ancAllM (n : Nat) (A : List Nat) (i : Nat) : List Nat → Bool
  | [] => true
  | k :: l => ancM n A i k && ancAllM n A i l
def pendOf (P : Program) (ops : Array Oper) (i : Nat) (pend : List Nat) : List Nat := match ops[i]? with
  | some o => bif isRead P o.op then i :: pend else pend
  | none => pend
def plan2F (P : Program) (ops : Array Oper) (D A : List Nat) (flo : List (Nat × Option Nat)) (FM : Nat) : Nat → Nat → List Nat → List (Nat × FK)
  | 0, _, _ => []
  | n + 1, m, pend => match readyM 0 D m with
    | [] => []
    | r => match ownFind P ops r with
      | some i => (i, .own) :: plan2F P ops D A flo FM n (Nat.lor m (bitN i)) (pendOf P ops i pend)
      | none => match dropM FM r with
        | [i] => bif ancAllM ops.size A i pend then (i, .bar) :: plan2F P ops D A flo FM n (Nat.lor m (bitN i)) [] else (i, match ops[i]? with | some o => bif isStore o.op then .put pend else .turn pend | none => .turn pend) :: plan2F P ops D A flo FM n (Nat.lor m (bitN i)) pend
        | [] => match lateFindM D m r flo with
          | some (i, none) => (i, .late) :: plan2F P ops D A flo FM n (Nat.lor m (bitN i)) pend
          | some (i, some j) => (i, .box j) :: plan2F P ops D A flo FM n (Nat.lor (Nat.lor m (bitN i)) (bitN j)) pend
          | none => []
        | _ => []
def plan2ChkF (P : Program) (ops : Array Oper) (D A : List Nat) (flo : List (Nat × Option Nat)) (F : List Nat) : List (Nat × FK) → Nat → List Nat → Bool
  | [], m, _ => (readyM 0 D m).isEmpty
  | (i, .own) :: l, m, pend => inList (readyM 0 D m) i && !(inList F i) && (match ops[i]? with | some o => notDefer o.op | none => false) && plan2ChkF P ops D A flo F l (Nat.lor m (bitN i)) (pendOf P ops i pend)
  | (i, .turn pe) :: l, m, pend => eqL pe pend && inList (readyM 0 D m) i && !(inList F i) && ((readyM 0 D (Nat.lor m (maskL F))).all fun k => Nat.beq k i || inList F k) && plan2ChkF P ops D A flo F l (Nat.lor m (bitN i)) pend
  | (i, .put pe) :: l, m, pend => eqL pe pend && inList (readyM 0 D m) i && !(inList F i) && ((readyM 0 D (Nat.lor m (maskL F))).all fun k => Nat.beq k i || inList F k) && plan2ChkF P ops D A flo F l (Nat.lor m (bitN i)) pend
  | (i, .bar) :: l, m, pend => inList (readyM 0 D m) i && !(inList F i) && ((readyM 0 D (Nat.lor m (maskL F))).all fun k => Nat.beq k i || inList F k) && ancAllM ops.size A i pend && plan2ChkF P ops D A flo F l (Nat.lor m (bitN i)) []
  | (i, .late) :: l, m, pend => (flo.any fun p => Nat.beq p.1 i && p.2.isNone) && inList (readyM 0 D m) i && ((readyM 0 D (Nat.lor m (maskL (remL i F)))).all fun k => inList F k) && plan2ChkF P ops D A flo F l (Nat.lor m (bitN i)) pend
  | (i, .box j) :: l, m, pend => (flo.any fun p => Nat.beq p.1 i && match p.2 with | some j' => Nat.beq j' j | none => false) && inList (readyM 0 D m) i && depsInM D (Nat.lor m (bitN i)) j && ((readyM 0 D (Nat.lor m (maskL (remL j F)))).all fun k => inList F k) && plan2ChkF P ops D A flo F l (Nat.lor (Nat.lor m (bitN i)) (bitN j)) pend
/-- who writes which slot -/
def writesOf : Nat → List Oper → List (Nat × Nat)
  | _, [] => []
  | i, o :: l => match o.dst with
    | some d => (d, i) :: writesOf (i + 1) l
    | none => writesOf (i + 1) l
def findWr : List (Nat × Nat) → Nat → Option Nat
  | [], _ => none
  | p :: l, s => bif Nat.beq p.1 s then some p.2 else findWr l s
def dstsOnce : List (Nat × Nat) → Nat → Bool
  | [], _ => true
  | p :: l, m => bif hasBit m p.1 then false else dstsOnce l (Nat.lor m (bitN p.1))
def looksOk (W : List (Nat × Nat)) (d : Nat) : List Nat → Bool
  | [] => true
  | s :: l => (match findWr W s with
    | some i => hasBit d i
    | none => true) && looksOk W d l
def onceGo (ops : Array Oper) (W : List (Nat × Nat)) : List Oper → Bool
  | [] => true
  | o :: l => looksOk W (edgesM o.after.toList) (o.looksAt ops) && onceGo ops W l
def onceF (ops : Array Oper) : Bool := dstsOnce (writesOf 0 ops.toList) 0 && onceGo ops (writesOf 0 ops.toList) ops.toList
def ltAllN (n : Nat) : List Nat → Bool
  | [] => true
  | i :: l => Nat.ble (i + 1) n && ltAllN n l
def plan2By (P : Program) (ops : Array Oper) (D A : List Nat) (flo : List (Nat × Option Nat)) (F : List Nat) : Option (List (Nat × FK)) :=
  cond (Region.noSelect ops && flowOk ops && onceF ops && noDup F && ltAllN ops.size F && floChk P ops flo F
    && plan2ChkF P ops D A flo F (plan2F P ops D A flo (maskL F) ops.size 0 []) 0 [])
    (some (plan2F P ops D A flo (maskL F) ops.size 0 [])) none
def plan2With (P : Program) (ops : Array Oper) (flo : List (Nat × Option Nat)) : Option (List (Nat × FK)) := plan2By P ops (depMs ops.toList) (ancGo ops.toList 0 []) flo (floatL flo)
def unbox : List (Nat × Option Nat) → List (Nat × Option Nat)
  | [] => []
  | p :: l => (p.1, none) :: unbox l
/-- boxes where that works; else each alloc by itself -/
def flos (P : Program) (ops : Array Oper) : List (Nat × Option Nat) := bif (plan2With P ops (floats P ops (List.range ops.size))).isSome then floats P ops (List.range ops.size) else unbox (floats P ops (List.range ops.size))
def plan2All (P : Program) (ops : Array Oper) : Option (List (Nat × FK)) := plan2With P ops (flos P ops)
/-- the slots that an operation looks at -/
def onlyL (L : List Nat) : Nat → List TV → List TV
  | _, [] => []
  | s, x :: l => (bif inList L s then x else .dead) :: onlyL L (s + 1) l
def only (ops : Array Oper) (o : Oper) (σ : List TV) : List TV := onlyL (o.looksAt ops) 0 σ
def pickD (o : Oper) (s : List TV) : TV := match o.dst with
  | some d => s.getD d .dead
  | none => .dead
/-! ### Operations -/
def vwant (ops : Array Oper) (σ : List TV) (o : Oper) : Option Bool := match o.guard with
  | none => some true
  | some (j, want) => match vyield ops σ j with
    | some (some b) => some (bif want then b else !b)
    | some none => some false
    | none => none
theorem vwant_ok {ops : Array Oper} {σ : List TV} {o : Oper} {b : Bool} (h : vwant ops σ o = some b) : vwanted ops σ o = some b := by
  unfold vwant at h
  unfold vwanted
  split at h
  · rename_i hg; rw [hg]; exact h
  · rename_i j want hg
    rw [hg]
    simp only
    split at h
    · rename_i c hc; rw [hc]; injection h with h; subst h; cases c <;> cases want <;> rfl
    · rename_i hc; rw [hc]; injection h with h; subst h; rfl
    · cases h
/-- an if that is not decided, on the guard's slot: in each branch the slot is known -/
def vsplit (ops : Array Oper) (o : Oper) (σ : List TV) (X : List TV → Prop) : Prop := match o.guard with
  | none => X σ
  | some (j, _) => match (ops[j]?).bind (·.dst) with
    | none => X σ
    | some d => match σ.getD d .dead with
      | .val (.bool b) => cond b (X (σ.set d (.val (.bool true)))) (X (σ.set d (.val (.bool false))))
      | _ => X σ
theorem vsplit_ok {ops : Array Oper} {o : Oper} {σ : List TV} {X : List TV → Prop} (h : vsplit ops o σ X) : X σ := by
  unfold vsplit at h
  split at h
  · exact h
  · split at h
    · exact h
    · rename_i d _
      split at h
      · rename_i b hb
        have key : σ.set d (.val (.bool b)) = σ := by
          apply List.ext_getElem?
          intro i
          rw [List.getElem?_set]
          split
          · rename_i e; subst e
            rw [List.getD_eq_getElem?_getD] at hb
            split
            · rename_i hl
              rw [List.getElem?_eq_getElem hl] at hb ⊢
              simpa using hb.symm
            · rename_i hl; rw [List.getElem?_eq_none (by omega)]
          · rfl
        cases b with
        | true => rw [key] at h; exact h
        | false => rw [key] at h; exact h
      · exact h
/-- where it cannot go on: why; at which operation; on what -/
def vbad (_ : Nat) (_ : Op) (_ : List TV) : Prop := False
def vextF (P : Program) (ro : Nat) (T : VT) (f : FuncId) (xs : List TV) : Option (TV × VT) := match P.funcs[f]? with
  | some fn => bif fn.body.isNone then vext P ro T fn xs else none
  | none => none
/-! #### What the kernel cannot reckon (a look at what is known by a name alone), told from outside: it is left to be shown -/
def opTmps (σ : List TV) : List Operand → List (Nat × TV)
  | [] => []
  | .tmp t :: l => (t, σ.getD t .dead) :: opTmps σ l
  | _ :: l => opTmps σ l
def evFind : List (Nat × TV) → Nat → TV
  | [], _ => .dead
  | (t, x) :: l, s => bif Nat.beq t s then x else evFind l s
def evOf (G : Globs) (l : List (Nat × TV)) : Operand → TV
  | .tmp t => evFind l t
  | x => vev G [] x
/-- at an operation: what it gives; none: it only looks; some T: what is known behind it -/
abbrev Ora := Oper → List TV → VT → Option (TV × Option VT)
def noOra : Ora := fun _ _ _ => none
def vtakes (P : Program) (T0 : VT) (ph : Bool) (op : Op) (ev : Operand → TV) : Option TV := match vpure2 P op ev with
  | some x => some x
  | none => bif ph then vlate2 P T0 op ev else vread2 P T0 op ev
inductive OPure (P : Program) (G : Globs) (op : Op) (l : List (Nat × TV)) (y : TV) : Prop
  | mk (h : vpure2 P op (evOf G l) = some y)
inductive OTake (P : Program) (G : Globs) (T0 : VT) (ph : Bool) (op : Op) (l : List (Nat × TV)) (y : TV) : Prop
  | mk (h : vtakes P T0 ph op (evOf G l) = some y)
inductive OTurn (P : Program) (G : Globs) (ro : Nat) (T : VT) (op : Op) (l : List (Nat × TV)) (y : TV) (T' : VT) : Prop
  | mk (h : vopA P ro T op (evOf G l) = some (y, T'))
  | old (hf : vfree ro op (evOf G l) = true) (h : vop P T op (evOf G l) = some (y, T'))
/-- a slice of bytes as a string, told -/
inductive OConv (P : Program) (T0 : VT) (s d : TypeId) (x y : TV) : Prop
  | mk (h0 : toVal x = none) (h : vconvS P T0 s d x = some y)
/-- a look into a map, told -/
inductive OLook (P : Program) (T0 : VT) (t : TypeId) (m k : TV) (ok : Bool) (y : TV) : Prop
  | mk (h : vlookup P T0 t m k ok = some y)
abbrev Callee0 := Nat → FuncId → List TV → VT → (TV → VT → Prop) → Prop
abbrev Round0 := Nat → Nat → List TV → VT → (TV → VT → Prop) → Prop
section
variable (P : Program) (G : Globs) (F : Ora) (call : Callee0) (rnd : Round0)
def vopQ (ro : Nat) (o : Oper) (σ : List TV) (T : VT) (K : List TV → VT → Prop) : Prop := match o.op with
  | .next it false => match vnexts T (vev G σ it) with
    | some (i, l) => cond (Nat.ble ro i) (vall (fun p => K (vput σ o.dst p.1) p.2) l) (vbad 3 o.op [])
    | none => vbad 2 o.op [vev G σ it]
  | .entry it => match ventry T (vev G σ it) with
    | some y => K (vput σ o.dst y) T
    | none => vbad 2 o.op [vev G σ it]
  | .range t x => match vrange P T t (vev G σ x) with
    | some (y, T') => K (vput σ o.dst y) T'
    | none => vbad 2 o.op [vev G σ x]
  | .binOp op t x y ty => cond (vNilE P op t (vev G σ x) (vev G σ y)) (K (vput σ o.dst (.val (.bool true))) T ∧ K (vput σ o.dst (.val (.bool false))) T) (match vopA P ro T (.binOp op t x y ty) (vev G σ) with
    | some (y, T') => K (vput σ o.dst y) T'
    | none => vbad 2 o.op [vev G σ x, vev G σ y])
  | op => match vopA P ro T op (vev G σ) with
    | some (y, T') => K (vput σ o.dst y) T'
    | none => vbad 2 op (op.operands.toList.map (vev G σ))
def vopP (ro : Nat) (o : Oper) (σ : List TV) (T : VT) (K : List TV → VT → Prop) : Prop := match F o (o.op.operands.toList.map (vev G σ)) T with
  | some (y, none) => OPure P G o.op (opTmps σ o.op.operands.toList) y ∧ K (vput σ o.dst y) T
  | some (y, some T') => OTurn P G ro T o.op (opTmps σ o.op.operands.toList) y T' ∧ K (vput σ o.dst y) T'
  | none => vopQ P G ro o σ T K
def vopI (ro : Nat) (o : Oper) (σ : List TV) (T : VT) (K : List TV → VT → Prop) : Prop := match o.op with
  | .call ⟨.value fo, args, _⟩ => match vev G σ fo with
    | .fn (.func f) fi ca => match vextF P ro T f (fi ++ args.toList.map (vev G σ) ++ ca) with
      | some (y, T') => K (vput σ o.dst y) T'
      | none => call ro f (fi ++ args.toList.map (vev G σ) ++ ca) T fun x T' => K (vput σ o.dst x) T'
    | .yld id => rnd ro id (args.toList.map (vev G σ)) T fun x T' => K (vput σ o.dst x) T'
    | x => vbad 1 o.op [x]
  | _ => vopP P G F ro o σ T K
def vops (ro : Nat) (ops : Array Oper) : List Oper → List TV → VT → (List TV → VT → Prop) → Prop
  | [], σ, T, K => K σ T
  | o :: l, σ, T, K => vsplit ops o σ fun σ => match vwant ops σ o with
    | some b => cond b (vopI P G F call rnd ro o σ T fun σ' T' => vops ro ops l σ' T' K) (vops ro ops l (vput σ o.dst (.val undef)) T K)
    | none => vbad 4 o.op []
/-- T0: what was there as the part of the region began; ph: has something been made since? -/
def vplan (ro : Nat) (ops : Array Oper) : VT → Bool → List (Oper × PK) → List TV → VT → (List TV → VT → Prop) → Prop
  | _, _, [], σ, T, K => K σ T
  | T0, ph, (o, .pk0) :: l, σ, T, K => vsplit ops o σ fun σ => match vwant ops σ o with
    | some b => cond b (match F o (o.op.operands.toList.map (vev G σ)) T with
      | some (y, none) => OPure P G o.op (opTmps σ o.op.operands.toList) y ∧ vplan ro ops T0 ph l (vput σ o.dst y) T K
      | some (_, some _) => vbad 27 o.op []
      | none => match vpure2 P o.op (vev G σ) with
        | some x => vplan ro ops T0 ph l (vput σ o.dst x) T K
        | none => vbad 5 o.op (o.op.operands.toList.map (vev G σ))) (vplan ro ops T0 ph l (vput σ o.dst (.val undef)) T K)
    | none => vbad 4 o.op []
  | T0, ph, (o, .pk1) :: l, σ, T, K => vsplit ops o σ fun σ => match vwant ops σ o with
    | some b => cond b (match F o (o.op.operands.toList.map (vev G σ)) T with
      | some (y, none) => OTake P G T0 ph o.op (opTmps σ o.op.operands.toList) y ∧ vplan ro ops T0 ph l (vput σ o.dst y) T K
      | some (_, some _) => vbad 27 o.op []
      | none => match vtakes P T0 ph o.op (vev G σ) with
        | some x => vplan ro ops T0 ph l (vput σ o.dst x) T K
        | none => vbad 5 o.op (o.op.operands.toList.map (vev G σ))) (vplan ro ops T0 ph l (vput σ o.dst (.val undef)) T K)
    | none => vbad 4 o.op []
  | T0, _, (o, .pk2) :: l, σ, T, K => vsplit ops o σ fun σ => match vwant ops σ o with
    | some b => cond b (vopI P G F call rnd T0.objs.length o σ T fun σ' T' => vplan ro ops T0 true l σ' T' K) (vplan ro ops T0 true l (vput σ o.dst (.val undef)) T K)
    | none => vbad 4 o.op []
  | _, _, (o, .pk3) :: l, σ, T, K => vsplit ops o σ fun σ => match vwant ops σ o with
    | some b => cond b (vopI P G F call rnd ro o σ T fun σ' T' => vplan ro ops T' false l σ' T' K) (vplan ro ops T false l (vput σ o.dst (.val undef)) T K)
    | none => vbad 4 o.op []
/-- a store into an object -/
def vput3 (P : Program) (ro : Nat) (T : VT) (t : TypeId) (a x : TV) : Option VT := match vstoreR P ro T t a x with
  | some (_, T') => some T'
  | none => match a with
    | .ptr id off => bif Nat.ble ro id then (vstore P T t (.ptr id off) x).map (·.2) else none
    | _ => none
/-- does it read nothing of these cells? -/
def apartRead (P : Program) (id off n : Nat) (op : Op) (ev : Operand → TV) : Bool := match op with
  | .load t a => match ev a with
    | .ptr id' off' => !(Nat.beq id' id) || (match P.info? t with
      | some i => Nat.ble (off' + max i.size 1) off || Nat.ble (off + n) off'
      | none => false)
    | .elt _ => true
    | _ => false
  | .lookup _ m _ _ => match ev m with
    | .map id' => !(Nat.beq id' id)
    | _ => false
  | .call c => match c.callee, c.args.toList with
    | .builtin .len, [x] => (match ev x with
      | .map id' => !(Nat.beq id' id)
      | _ => false)
    | _, _ => false
  | _ => false
def VT.takeO (T : VT) (n : Nat) : VT := { T with objs := T.objs.take n }
/-- what is looked at, or made with no number -/
def vownT (P : Program) (G : Globs) (T0 : VT) (o : Oper) (s : List TV) (y : TV) : Prop := match o.op with
  | .convert t d x => bif isRead P (.convert t d x) then OConv P T0 t d (vev G s x) y else OPure P G o.op (opTmps s o.op.operands.toList) y
  | .lookup t m k ok => OLook P T0 t (vev G s m) (vev G s k) ok y
  | _ => OPure P G o.op (opTmps s o.op.operands.toList) y
def vownE (P : Program) (T0 : VT) (op : Op) (ev : Operand → TV) : Option TV := match vpure2 P op ev with
  | some x => some x
  | none => match (bif isRead P op then vread2 P T0 op ev else none) with
    | some x => some x
    | none => match op with
      | .buildSlice t n ps => (vmake P ⟨[], []⟩ (.buildSlice t n ps) ev).map (·.1)
      | _ => none
/-- the boxes whose value is there have cells -/
def boxesOk (ops : Array Oper) (flo : List (Nat × Option Nat)) (V : Array Bool) (σ : List TV) : List (Nat × Option Nat) → Bool
  | [] => true
  | (_, none) :: l => boxesOk ops flo V σ l
  | (i, some j) :: l => (V.getD i false || !(depsInB ops flo (V.setIfInBounds i true) j) || (match ops[i]?, ops[j]? with
    | some o, some oj => (vboxVal P o.op oj.op (vev G (only ops oj σ))).isSome && (match o.dst with
      | some d => Nat.ble (d + 1) σ.length
      | none => false)
    | _, _ => false)) && boxesOk ops flo V σ l
/-- what was read, and may be read later still, is not turned -/
def pendApart (ops : Array Oper) (id off n : Nat) (σ : List TV) : List Nat → Bool
  | [] => true
  | k :: l => (match ops[k]? with
    | some o => (match vwant ops (only ops o σ) o with
      | some true => (vpure2 P o.op (vev G (only ops o σ))).isSome || apartRead P id off n o.op (vev G (only ops o σ))
      | some false => true
      | none => false)
    | none => false) && pendApart ops id off n σ l
/-- what was read reads the same behind a call -/
def pendSame (ops : Array Oper) (T0 T1 : VT) (σ : List TV) : List Nat → Bool
  | [] => true
  | k :: l => (match ops[k]? with
    | some o => (match vwant ops (only ops o σ) o with
      | some true => (vpure2 P o.op (vev G (only ops o σ))).isSome || (match vread2 P T0 o.op (vev G (only ops o σ)), vread2 P T1 o.op (vev G (only ops o σ)) with
        | some x, some y => tvEq x y
        | none, _ => true
        | _, none => false)
      | some false => true
      | none => false)
    | none => false) && pendSame ops T0 T1 σ l
/-- likewise, left to be shown -/
def pendProp (ops : Array Oper) (T0 T1 : VT) (σ : List TV) : List Nat → Prop
  | [] => True
  | k :: l => (match ops[k]? with
    | some o => (match vwant ops (only ops o σ) o with
      | some true => cond (vpure2 P o.op (vev G (only ops o σ))).isSome True (vread2 P T0 o.op (vev G (only ops o σ)) = vread2 P T1 o.op (vev G (only ops o σ)))
      | some false => True
      | none => False)
    | none => False) ∧ pendProp ops T0 T1 σ l
/-- told at slot 999998: what was read is compared by equations that are left to be shown -/
def symF : Bool := (F ⟨some 999998, .move (.tmp 0), 0, "", #[], none⟩ [] ⟨[], []⟩).isSome
def vplan2 (ro : Nat) (ops : Array Oper) (flo : List (Nat × Option Nat)) : Array Bool → VT → List (Nat × FK) → List TV → VT → (List TV → VT → Prop) → Prop
  | _, _, [], σ, T, K => K σ T
  | V, T0, (i, .own) :: l, σ, T, K => match ops[i]? with
    | some o => vsplit ops o σ fun σ => match vwant ops (only ops o σ) o with
      | some b => cond b (match F o (o.op.operands.toList.map (vev G σ)) T with
        | some (y, none) => vownT P G T0 o (only ops o σ) y ∧ vplan2 ro ops flo (V.setIfInBounds i true) T0 l (vput σ o.dst y) T K
        | some (_, some _) => vbad 27 o.op []
        | none => match vownE P T0 o.op (vev G (only ops o σ)) with
          | some y => vplan2 ro ops flo (V.setIfInBounds i true) T0 l (vput σ o.dst y) T K
          | none => vbad 5 o.op (o.op.operands.toList.map (vev G σ))) (vplan2 ro ops flo (V.setIfInBounds i true) T0 l (vput σ o.dst (.val undef)) T K)
      | none => vbad 4 o.op []
    | none => vbad 4 default []
  | V, T0, (i, .turn pe) :: l, σ, T, K => match ops[i]? with
    | some o => vsplit ops o σ fun σ => match vwant ops (only ops o σ) o with
      | some b => cond (boxesOk P G ops flo V σ flo) (cond b (vopI P G F call rnd ro o (only ops o σ) T fun s T' => cond (symF F) (pendProp P G ops T0 (T'.takeO T0.objs.length) σ pe ∧ vplan2 ro ops flo (V.setIfInBounds i true) (T'.takeO T0.objs.length) l (vput σ o.dst (pickD o s)) T' K) (cond (pendSame P G ops T0 (T'.takeO T0.objs.length) σ pe) (vplan2 ro ops flo (V.setIfInBounds i true) (T'.takeO T0.objs.length) l (vput σ o.dst (pickD o s)) T' K) (vbad 30 o.op []))) (vplan2 ro ops flo (V.setIfInBounds i true) (T.takeO T0.objs.length) l (vput σ o.dst (.val undef)) T K)) (vbad 28 o.op [])
      | none => vbad 4 o.op []
    | none => vbad 4 default []
  | V, T0, (i, .put pe) :: l, σ, T, K => match ops[i]? with
    | some o => vsplit ops o σ fun σ => match vwant ops (only ops o σ) o with
      | some b => cond (boxesOk P G ops flo V σ flo) (cond b (match o.op with
        | .store t a x => (match vev G (only ops o σ) a, cellsOf (vev G (only ops o σ) x) with
          | .ptr id off, some new => (match vput3 P ro T t (.ptr id off) (vev G (only ops o σ) x) with
            | some T' => cond (pendApart P G ops id off new.length σ pe) (vplan2 ro ops flo (V.setIfInBounds i true) (T'.takeO T0.objs.length) l (vput σ o.dst (pickD o (vput (only ops o σ) o.dst (.val undef)))) T' K) (vbad 29 o.op [vev G σ a])
            | none => vbad 2 o.op [vev G σ a, vev G σ x])
          | _, _ => vbad 2 o.op [vev G σ a, vev G σ x])
        | _ => vbad 4 o.op []) (vplan2 ro ops flo (V.setIfInBounds i true) (T.takeO T0.objs.length) l (vput σ o.dst (.val undef)) T K)) (vbad 28 o.op [])
      | none => vbad 4 o.op []
    | none => vbad 4 default []
  | V, _, (i, .bar) :: l, σ, T, K => match ops[i]? with
    | some o => vsplit ops o σ fun σ => match vwant ops (only ops o σ) o with
      | some b => cond (boxesOk P G ops flo V σ flo) (cond b (vopI P G F call rnd ro o (only ops o σ) T fun s T' => vplan2 ro ops flo (V.setIfInBounds i true) T' l (vput σ o.dst (pickD o s)) T' K) (vplan2 ro ops flo (V.setIfInBounds i true) T l (vput σ o.dst (.val undef)) T K)) (vbad 28 o.op [])
      | none => vbad 4 o.op []
    | none => vbad 4 default []
  | V, T0, (i, .late) :: l, σ, T, K => match ops[i]? with
    | some o => match vlateMk P T o.op with
      | some (y, T') => cond (boxesOk P G ops flo V σ flo) (vplan2 ro ops flo (V.setIfInBounds i true) T0 l (vput σ o.dst y) T' K) (vbad 28 o.op [])
      | none => vbad 2 o.op []
    | none => vbad 4 default []
  | V, T0, (i, .box j) :: l, σ, T, K => match ops[i]?, ops[j]? with
    | some o, some oj => match vboxMk P T o.op oj.op (vev G (only ops oj σ)) with
      | some (y, T') => cond (boxesOk P G ops flo V σ flo) (vplan2 ro ops flo ((V.setIfInBounds i true).setIfInBounds j true) T0 l (vput σ o.dst y) T' K) (vbad 28 o.op [])
      | none => vbad 2 o.op []
    | _, _ => vbad 4 default []
def hasK2 : List (Oper × PK) → Bool
  | [] => false
  | (_, .pk2) :: _ => true
  | _ :: l => hasK2 l
/-- the first plan, if it makes nothing while reads are pending; or if there is no other one -/
def planOld (ops : Array Oper) : Option (List (Oper × PK)) := match planAll P ops with
  | some p => cond (hasK2 p && (plan2All P ops).isSome) none (some p)
  | none => none
/-- told at slot 999999: the first plan, wherever there is one -/
def planSel (ops : Array Oper) : Option (List (Oper × PK)) := bif (F ⟨some 999999, .move (.tmp 0), 0, "", #[], none⟩ [] ⟨[], []⟩).isSome then planAll P ops else bif Nat.ble ops.size 12 then planOld P ops else none
def vdraw (ro : Nat) (ops : Array Oper) (σ : List TV) (T : VT) (K : List TV → VT → Prop) : Prop := cond (noDefers ops) (match planSel P F ops with
  | some p => vplan P G F call rnd ro ops T false p σ T K
  | none => match plan2All P ops with
    | some p => vplan2 P G F call rnd (min ro T.objs.length) ops (flos P ops) (Array.replicate ops.size false) T p σ T K
    | none => match planAll P ops with
      | some p => vplan P G F call rnd ro ops T false p σ T K
      | none => match ops.toList.getLast?, plan2All P ops.toList.dropLast.toArray with
        | some t, some p => cond (t.guard.isNone && Nat.beq (edgesM t.after.toList) (2 ^ ops.toList.dropLast.toArray.size - 1))
            (vplan2 P G F call rnd (min ro T.objs.length) ops.toList.dropLast.toArray (flos P ops.toList.dropLast.toArray) (Array.replicate ops.toList.dropLast.toArray.size false) T p σ T fun σ' T' => vopI P G F call rnd (min ro T.objs.length) t σ' T' K) (vbad 16 t.op [])
        | _, _ => vbad 6 (ops.toList.getLastD default).op []) (vbad 15 default σ)
end
/-! ### Code -/
abbrev Spec := Nat → List TV → VT → (TV → VT → Prop) → Prop
abbrev LSpec := Option Nat → Nat → List TV → VT → List Nat → KX → Prop
def vthen (k : List TV → VT → List Nat → Prop) (K : KX) : KX
  | .normal, σ, T, D => k σ T D
  | e, σ, T, D => K e σ T D
def vblock (id : Nat) (K : KX) : KX
  | .exit id', σ, T, D => cond (Nat.beq id' id) (K .normal σ T D) (K (.exit id') σ T D)
  | e, σ, T, D => K e σ T D
def vscope (K : KX) : KX
  | .goto _, σ, _, _ => vbad 8 default σ
  | e, σ, T, D => K e σ T D
/-- the marks are taken off -/
def vmarks (ro : Nat) : List Nat → VT → Option VT
  | [], T => some T
  | id :: D, T => match T.objs[id]? with
    | some .defd => bif Nat.ble ro id then vmarks ro D (T.kill id) else none
    | _ => none
def vleave (P : Program) (fn : Func) (ro : Nat) (σ : List TV) (T : VT) (D : List Nat) (K : TV → VT → Prop) : Prop := match vmarks ro D T with
  | some T' => match vresults P T' σ fn.results with
    | some x => K x T'
    | none => vbad 7 default σ
  | none => vbad 16 default σ
def vback (P : Program) (fn : Func) (ro : Nat) (K : TV → VT → Prop) : KX
  | .normal, σ, T, D => vleave P fn ro σ T D K
  | .ret, σ, T, D => vleave P fn ro σ T D K
  | _, σ, _, _ => vbad 9 default σ
/-- the slots of a call that begins -/
def vstart (fn : Func) (xs : List TV) : List TV := xs ++ List.replicate (fn.ntmps - xs.length) (.val undef)
abbrev Run0 := Option Nat → Nat → Code → List TV → VT → List Nat → KX → Prop
def vcallee (P : Program) (C : FuncId → Option Spec) (run : Run0) : Callee0 := fun ro f xs T K => match P.funcs[f]? with
  | some fn => match fn.body with
    | some c => match C f with
      | some W => W ro xs T K
      | none => run none ro c (vstart fn xs) T [] (vback P fn ro K)
    | none => vbad 10 default [.val (.int .i64 f)]
  | none => vbad 11 default [.val (.int .i64 f)]
def VT.setLoop (T : VT) (id : Nat) (st : LoopState) (pend : Option Code) (σ : List TV) (ps : Array Tmp) (asg body : Code) : VT := { T with objs := T.objs.set id (.loop st pend σ ps asg body) }
def vparams : List Tmp → List TV → List TV → List TV
  | p :: ps, x :: xs, σ => vparams ps xs (σ.set p x)
  | _, _, σ => σ
/-- a round's end: the record of the loop id is set -/
def vroundEnd (ro id : Nat) (st : LoopState) (pend : Option Code) (T : VT) (K : VT → Prop) : Prop := match T.objs[id]? with
  | some (.loop _ _ σ ps asg body) => cond (Nat.ble ro id) (K (T.setLoop id st pend σ ps asg body)) (vbad 17 default [])
  | _ => vbad 18 default []
def vroundOut (ro id : Nat) (K : TV → VT → Prop) : KX
  | .normal, _, T, _ => vroundEnd ro id .ready none T fun T => K (.val (.bool true)) T
  | .ret, _, T, _ => vroundEnd ro id .done (some .ret) T fun T => K (.val (.bool false)) T
  | .exit x, _, T, _ => vroundEnd ro id .done (some (.exit x)) T fun T => K (.val (.bool false)) T
  | _, σ, _, _ => vbad 19 default σ
def vround (run : Run0) : Round0 := fun ro id xs T K => match T.objs[id]? with
  | some (.loop .ready none σ ps asg body) => cond (Nat.ble ro id && Nat.beq ps.size xs.length) (run (some id) ro asg (vparams ps.toList xs σ) T [] fun e σ1 T1 D1 => match e with
    | .normal => match T1.objs[id]? with
      | some (.loop .ready none σ' ps' asg' body') => run (some id) ro body σ1 (T1.setLoop id .busy none σ' ps' asg' body') D1 (vroundOut ro id K)
      | _ => vbad 20 default σ1
    | _ => vbad 21 default σ1) (vbad 22 default xs)
  | _ => vbad 23 default xs
/-- behind a range over a function -/
def vrangeEnd (ro id : Nat) (σ : List TV) (D : List Nat) (K : KX) (T : VT) : Prop := match T.objs[id]? with
  | some (.loop .ready none σ' ps asg body) => cond (Nat.ble ro id) (K .normal σ (T.setLoop id .exhausted none σ' ps asg body) D) (vbad 17 default [])
  | some (.loop .done (some .ret) σ' ps asg body) => cond (Nat.ble ro id) (K .ret σ (T.setLoop id .exhausted (some .ret) σ' ps asg body) D) (vbad 17 default [])
  | some (.loop .done (some (.exit x)) σ' ps asg body) => cond (Nat.ble ro id) (K (.exit x) σ (T.setLoop id .exhausted (some (.exit x)) σ' ps asg body) D) (vbad 17 default [])
  | _ => vbad 24 default σ
/-- the evaluator; C: what is known of functions; L: what is known of blocks -/
def vx (P : Program) (G : Globs) (C : FuncId → Option Spec) (F : Ora) : Nat → (Nat → Option (LSpec × Code)) → Run0
  | 0, _, _, _, _, σ, _, _, _ => vbad 12 default σ
  | n + 1, L, rd, ro, c, σ, T, D, K => match c with
    | .skip => K .normal σ T D
    | .exit id => K (.exit id) σ T D
    | .ret => K .ret σ T D
    | .seq a b => vx P G C F n L rd ro a σ T D (vthen (fun σ T D => vx P G C F n L rd ro b σ T D K) K)
    | .cond c x y => match vev G σ c with
      | .val (.bool b) => cond b (vx P G C F n L rd ro x σ T D K) (vx P G C F n L rd ro y σ T D K)
      | x => vbad 13 default [x]
    | .block id c => match L id with
      | some (W, c') => c' = .block id c ∧ W rd ro σ T D K
      | none => vx P G C F n L rd ro c σ T D (vblock id K)
    | .scope c => vx P G C F n L rd ro c σ T D (vscope K)
    | .loop c => vx P G C F n L rd ro c σ T D (vthen (fun σ T D => vx P G C F n L rd ro (.loop c) σ T D K) K)
    | .region id ops d => match L (1000000 + id) with
      | some (W, c') => c' = .region id ops d ∧ W rd ro σ T D K
      | none => cond d (vdraw P G F (vcallee P C (vx P G C noOra n fun _ => none)) (vround (vx P G C noOra n fun _ => none)) ro ops σ T fun σ T => K .normal σ T D)
        (vops P G F (vcallee P C (vx P G C noOra n fun _ => none)) (vround (vx P G C noOra n fun _ => none)) ro ops ops.toList σ T fun σ T => K .normal σ T D)
    | .rangeFunc f ps asg body => match vev G σ f with
      | .fn (.func fi) first ca => match rd with
        | none => vcallee P C (vx P G C noOra n fun _ => none) ro fi (first ++ [.yld (T.objs.length + 1)] ++ ca) { T with objs := T.objs ++ [.defd] ++ [.loop .ready none σ ps asg body] } fun _ T' => vrangeEnd ro (T.objs.length + 1) σ (T.objs.length :: D) K T'
        | some i0 => match T.objs[i0]? with
          | some (.loop ..) => vcallee P C (vx P G C noOra n fun _ => none) ro fi (first ++ [.yld T.objs.length] ++ ca) { T with objs := T.objs ++ [.loop .ready none σ ps asg body] } fun _ T' => vrangeEnd ro T.objs.length σ D K T'
          | _ => vbad 26 default σ
      | x => vbad 25 default [x]
    | .label _ => K .normal σ T D
    | _ => vbad 14 default σ
/-- a call, reckoned -/
def vcall (P : Program) (G : Globs) (C : FuncId → Option Spec) (n : Nat) (L : Nat → Option (LSpec × Code)) (ro : Nat) (f : FuncId) (xs : List TV) (T : VT) (K : TV → VT → Prop) : Prop := match P.funcs[f]? with
  | some fn => match fn.body with
    | some c => vx P G C noOra n L none ro c (vstart fn xs) T [] (vback P fn ro K)
    | none => False
  | none => False
/-- likewise, where something is told -/
def vcallF (P : Program) (G : Globs) (C : FuncId → Option Spec) (F : Ora) (n : Nat) (L : Nat → Option (LSpec × Code)) (ro : Nat) (f : FuncId) (xs : List TV) (T : VT) (K : TV → VT → Prop) : Prop := match P.funcs[f]? with
  | some fn => match fn.body with
    | some c => vx P G C F n L none ro c (vstart fn xs) T [] (vback P fn ro K)
    | none => False
  | none => False
end
/-! ### What it reckons is so -/
end Go.Proofs.Ytgconkbnokbinaa

/- What the evaluator reckons of operations and regions is so. For any program. -/
namespace Go.Proofs.Ytgconkbnokbinaa
open Go.RowKit

section
variable {P : Program} {G : Globs} {F : Ora}
def CalleeOk (P : Program) (G : Globs) (call : Callee0) : Prop := ∀ ro f xs T K, call ro f xs T K → ∃ fn, P.funcs[f]? = some fn ∧ fn.body.isSome = true ∧ (fn.name == "runtime.NumGoroutine") = false ∧ VCx P G ro f xs T K
def RoundOk (P : Program) (G : Globs) (rnd : Round0) : Prop := ∀ ro id xs T K, rnd ro id xs T K → VRx P G ro id xs T K
theorem VPi.of {ro : Nat} {o : Oper} {σ : List TV} {T : VT} {K : List TV → VT → Prop} (hd : notDefer o.op = true)
    (h : ∀ g w ρ, RW g T w → (∀ x, VR g w (vev G σ x) (ρ x)) → ∃ m v g' w' y T', (execOp ρ o).run P w = .ok m w' ∧ nextVal m = some v ∧ K (vput σ o.dst y) T' ∧ VR g' w' y v ∧ Evo g w g' w' ∧ RW g' T' w' ∧ Fix ro g T w T' w') : VPi P G ro o σ T K := by
  refine VPx.toI ?_ hd
  intro g w a next Q r hG hσ hn
  obtain ⟨m, v, g', w', y, T', h1, h2, hk, h3, h4, h5, h6⟩ := h g w a.eval r (vev_ok hG hσ)
  unfold Oper.wp
  rw [h1]
  have e : ∀ v', VR g' w' y v' → next (a.put o.dst v') w' := fun v' hv => hn _ _ g' w' _ ⟨v', rfl⟩ hk h4 h5 (vput_ok (hσ.mono h4) o.dst hv) (put_defers _ _ _) h6
  cases m <;> simp only [nextVal] at h2 <;> try (cases h2)
  · exact e v h3
  · exact e undef h3
theorem evFind_ok {g : Gh} {w : World} {σ : List TV} {ρ : Operand → Value} (hρ : ∀ x, VR g w (vev G σ x) (ρ x)) : ∀ (l : List Operand) (t : Nat), VR g w (evFind (opTmps σ l) t) (ρ (.tmp t))
  | [], t => .dead _
  | .tmp s :: l, t => by
    simp only [opTmps, evFind]
    cases hb : Nat.beq s t with
    | true =>
      have := Nat.eq_of_beq_eq_true hb
      subst this
      exact hρ (.tmp s)
    | false => exact evFind_ok hρ l t
  | .const v :: l, t => evFind_ok hρ l t
  | .global n :: l, t => evFind_ok hρ l t
  | .func f :: l, t => evFind_ok hρ l t
theorem evOf_ok {g : Gh} {w : World} {σ : List TV} {ρ : Operand → Value} (hρ : ∀ x, VR g w (vev G σ x) (ρ x)) (l : List Operand) (x : Operand) : VR g w (evOf G (opTmps σ l) x) (ρ x) := by
  cases x with
  | tmp t => exact evFind_ok hρ l t
  | const v => exact hρ (.const v)
  | global n => exact hρ (.global n)
  | func f => exact hρ (.func f)
theorem vopQ_ok {ro : Nat} {o : Oper} {σ : List TV} {T : VT} {K : List TV → VT → Prop} (h : vopQ P G ro o σ T K) : VPi P G ro o σ T K := by
  obtain ⟨dst, op, ty, pos, af, gd⟩ := o
  have gen : (match vopA P ro T op (vev G σ) with
      | some (y, T') => K (vput σ dst y) T'
      | none => vbad 2 op (op.operands.toList.map (vev G σ))) → notDefer op = true → VPi P G ro ⟨dst, op, ty, pos, af, gd⟩ σ T K := by
    intro h hd
    split at h
    · rename_i y T' hy
      refine VPi.of hd fun g w ρ r hρ => ?_
      obtain ⟨m, v, g', w', h1, h2, h3, h4, h5, h6⟩ := vopA_ok (o := ⟨dst, op, ty, pos, af, gd⟩) r hy hρ
      exact ⟨m, v, g', w', y, T', h1, h2, h, h3, h4, h5, h6⟩
    · exact h.elim
  unfold vopQ at h
  simp only at h
  cases op
  case next it isS =>
    cases isS with
    | true => exact gen h rfl
    | false =>
      simp only at h
      split at h
      · rename_i i l hl
        cases hr : Nat.ble ro i with
        | false => rw [hr] at h; exact h.elim
        | true =>
          rw [hr] at h
          simp only [cond_true] at h
          refine VPi.of rfl fun g w ρ r hρ => ?_
          obtain ⟨p, hp, v, g', w', h1, h2, h3, h4, h5⟩ := vnexts_ok (P := P) (ty := ty) r hl (hρ it) (Nat.le_of_ble_eq_true hr)
          exact ⟨.value v, v, g', w', p.1, p.2, by simp [execOp, h1], rfl, vall_at h p hp, h2, h3, h4, h5⟩
      · exact h.elim
  case entry it =>
    simp only at h
    split at h
    · rename_i y hy
      refine VPi.of rfl fun g w ρ r hρ => ?_
      obtain ⟨v, h1, h2⟩ := ventry_ok (P := P) r hy (hρ it)
      exact ⟨.value v, v, g, w, y, T, by simp [execOp, h2], rfl, h, h1, Evo.refl _ _, r, Fix.refl _ _ _ _⟩
    · exact h.elim
  case binOp op t x y' ty' =>
    simp only at h
    cases hb : vNilE P op t (vev G σ x) (vev G σ y') with
    | false =>
      rw [hb] at h
      simp only [cond_false] at h
      refine gen ?_ rfl
      split at h
      · rename_i y T' hy; first | exact h | (rw [hy]; exact h)
      · exact h.elim
    | true =>
      rw [hb] at h
      refine VPi.of rfl fun g w ρ r hρ => ?_
      obtain ⟨b, hrun⟩ := vNilE_ok (P := P) (xo := x) (yo := y') hb (hρ x) (hρ y')
      have hl : Looks0 P g w (do eqGuard op t x y' (ρ x) (ρ y'); binOp op t (ρ x) (ρ y')) (.val (.bool b)) := .of_ok (.val _) hrun
      obtain ⟨v, h1, h2⟩ := hl.next (n := execOp ρ ⟨dst, .binOp op t x y' ty', ty, pos, af, gd⟩) rfl
      refine ⟨.value v, v, g, w, .val (.bool b), T, h2 w, rfl, ?_, h1, Evo.refl _ _, r, Fix.refl _ _ _ _⟩
      cases b
      · exact h.2
      · exact h.1
  case range t x =>
    simp only at h
    split at h
    · rename_i y T' hy
      refine VPi.of rfl fun g w ρ r hρ => ?_
      obtain ⟨h1, h2⟩ := vrange_ok (P := P) r hy (hρ x)
      obtain ⟨v, g', w', k1, k2, k3, k4, k5⟩ := h1
      exact ⟨.value v, v, g', w', y, T', by simp [execOp, k1], rfl, h, k2, k3, k4, Fix.of_same k5 h2⟩
    · exact h.elim
  case defer c =>
    simp only at h
    exfalso
    have : vopA P ro T (.defer c) (vev G σ) = none := by
      simp [vopA, vpure2, vpure, vread2, vread, vmore, vop, vwrite, vfree]
    rw [this] at h
    exact h
  all_goals exact gen h rfl
theorem notDefer_of {op : Op} {ro : Nat} {T T' : VT} {ev : Operand → TV} {y : TV} (h : vopA P ro T op ev = some (y, T')) : notDefer op = true := by
  cases op <;> first
    | rfl
    | (exfalso; simp [vopA, vpure2, vpure, vread2, vread, vmore, vop, vwrite, vfree] at h)
theorem notDefer_vop {op : Op} {T T' : VT} {ev : Operand → TV} {y : TV} (h : vop P T op ev = some (y, T')) : notDefer op = true := by
  cases op <;> first
    | rfl
    | (exfalso; simp [vop, vread, vwrite] at h)
theorem vopA_pure {op : Op} {ro : Nat} {T : VT} {ev : Operand → TV} {y : TV} (h : vpure2 P op ev = some y) : vopA P ro T op ev = some (y, T) := by
  unfold vopA; rw [h]
theorem vopP_ok {ro : Nat} {o : Oper} {σ : List TV} {T : VT} {K : List TV → VT → Prop} (h : vopP P G F ro o σ T K) : VPi P G ro o σ T K := by
  unfold vopP at h
  have go : ∀ {y T'}, vopA P ro T o.op (evOf G (opTmps σ o.op.operands.toList)) = some (y, T') → K (vput σ o.dst y) T' → VPi P G ro o σ T K := by
    intro y T' hy hk
    refine VPi.of (notDefer_of hy) fun g w ρ r hρ => ?_
    obtain ⟨m, v, g', w', h1, h2, h3, h4, h5, h6⟩ := vopA_ok (o := o) r hy (evOf_ok hρ _)
    exact ⟨m, v, g', w', y, T', h1, h2, hk, h3, h4, h5, h6⟩
  split at h
  · obtain ⟨⟨hy⟩, hk⟩ := h
    exact go (vopA_pure hy) hk
  · obtain ⟨hy, hk⟩ := h
    cases hy with
    | mk hy => exact go hy hk
    | old hf hy =>
      refine VPi.of (notDefer_vop hy) fun g w ρ r hρ => ?_
      obtain ⟨m, v, g', w', h1, h2, h3, h4, h5, h6⟩ := vop_fix (o := o) r hf hy (evOf_ok hρ _)
      exact ⟨m, v, g', w', _, _, h1, h2, hk, h3, h4, h5, h6⟩
  · exact vopQ_ok h
theorem VPx.ext {ro : Nat} {o : Oper} {fo : Operand} {args : Array Operand} {ats : Array TypeId} {σ : List TV} {T T' : VT} {K : List TV → VT → Prop} {f : FuncId} {fi ca : List TV} {y : TV}
    (ho : o.op = .call ⟨.value fo, args, ats⟩) (hf : vev G σ fo = .fn (.func f) fi ca) (hx : vextF P ro T f (fi ++ args.toList.map (vev G σ) ++ ca) = some (y, T')) (k : K (vput σ o.dst y) T') : VPx P G ro o σ T K := by
  intro g w a next Q r hG hσ hn
  have h1 := vev_ok hG hσ fo
  rw [hf] at h1
  obtain ⟨us, vs, h2, h3, h4⟩ := h1.fn_inv
  have hargs := (h3.app (map_rel (vev_ok hG hσ) args.toList)).app h4
  unfold vextF at hx
  split at hx
  · rename_i fn hfn
    cases hb : fn.body.isNone with
    | false => rw [hb] at hx; cases hx
    | true =>
      rw [hb] at hx
      obtain ⟨v, g', w', k1, k2, k3, k4, k5⟩ := vext_ok r hfn hx hargs
      have hrun : (execOp a.eval o).run P w = .ok (.value v) w' := by
        obtain ⟨dst, op, ty, pos, af, gd⟩ := o
        simp only at ho; subst ho
        have e : (us.toArray ++ args.map a.eval) ++ vs.toArray = (us ++ args.toList.map a.eval ++ vs).toArray := by
          apply Array.ext'; simp
        simp only [execOp, resolve, h2, Deferred.ofValue, invoke, Sem.run_bind, Sem.run_pure, Result.andThen_ok, e]
        exact k1
      unfold Oper.wp
      rw [hrun]
      exact hn _ _ g' w' _ ⟨_, rfl⟩ k k3 k4 (vput_ok (hσ.mono k3) o.dst k2) (put_defers _ _ _) k5
  · cases hx
theorem vopI_ok {call : Callee0} {rnd : Round0} (hc : CalleeOk P G call) (hr : RoundOk P G rnd) {ro : Nat} {o : Oper} {σ : List TV} {T : VT} {K : List TV → VT → Prop} (h : vopI P G F call rnd ro o σ T K) : VPi P G ro o σ T K := by
  unfold vopI at h
  split at h
  · rename_i fo args ats ho
    split at h
    · rename_i f fi ca hf
      split at h
      · rename_i y T' hx
        exact (VPx.ext ho hf hx h).toI (by rw [ho]; rfl)
      · obtain ⟨fn, h1, h2, h3, h4⟩ := hc _ _ _ _ _ h
        exact (VPx.call ho hf h1 h2 h3 h4).toI (by rw [ho]; rfl)
    · rename_i id hf
      exact VPi.yld ho hf (hr _ _ _ _ _ h)
    · exact h.elim
  · exact vopP_ok h
theorem wanted_of {ops : Array Oper} {σ : List TV} {o : Oper} {b : Bool} (h : vwant ops σ o = some b) {g : Gh} {w : World} {a : Act} (hσ : VRs g w σ a.tmps.toList) : Region.wanted o (yielded ops a.tmps) = b := vwanted_ok (vwant_ok h) hσ
theorem vops_ok {call : Callee0} {rnd : Round0} (hc : CalleeOk P G call) (hr : RoundOk P G rnd) {ro : Nat} {ops : Array Oper} {K : List TV → VT → Prop} {r : Option Nat} {QQ : Exit → Act → World → Prop} : ∀ (js : List Nat) (l : List Oper), js.map (ops[·]?) = l.map some → ∀ (σ : List TV) (T : VT), vops P G F call rnd ro ops l σ T K → ∀ g w (a : Act), RW g T w → GOk G g w → VRs g w σ a.tmps.toList →
    (∀ σ' T' g' w' (a' : Act), K σ' T' → Evo g w g' w' → RW g' T' w' → VRs g' w' σ' a'.tmps.toList → a'.defers = a.defers → Fix ro g T w T' w' → QQ .normal a' w') → wpOpsIn (fenR r) 0 P ops QQ js a w
  | [], [], _, σ, T, h, g, w, a, rw0, hG, hσ, hq => hq σ T g w a h (Evo.refl _ _) rw0 hσ rfl (Fix.refl _ _ _ _)
  | [], _ :: _, hl, _, _, _, _, _, _, _, _, _, _ => by simp at hl
  | _ :: _, [], hl, _, _, _, _, _, _, _, _, _, _ => by simp at hl
  | j :: js, o :: l, hl, σ, T, h, g, w, a, rw0, hG, hσ, hq => by
    simp only [List.map_cons, List.cons.injEq] at hl
    obtain ⟨ho, hl⟩ := hl
    simp only [wpOpsIn, ho]
    simp only [vops] at h
    replace h := vsplit_ok h
    split at h
    · rename_i b hb
      have hw := wanted_of hb hσ
      cases b with
      | true =>
        rw [if_pos hw]
        simp only [cond_true] at h
        exact vopI_ok hc hr h r g w a _ QQ rw0 hG hσ fun σ' T' g' w' a' _ hk e r' hσ' hd' hx => vops_ok hc hr js l hl σ' T' hk g' w' a' r' (hG.mono e) hσ' fun σ'' T'' g'' w'' a'' hk' e' r'' hσ'' hd'' hx' => hq σ'' T'' g'' w'' a'' hk' (e.trans e') r'' hσ'' (hd''.trans hd') (hx.trans e hx')
      | false =>
        rw [if_neg (by rw [hw]; exact Bool.false_ne_true)]
        refine ⟨fun _ _ => trivial, ?_⟩
        exact vops_ok hc hr js l hl _ T h g w _ rw0 hG (vput_ok hσ o.dst (.val undef)) fun σ'' T'' g'' w'' a'' hk' e' r'' hσ'' hd'' hx' => hq σ'' T'' g'' w'' a'' hk' e' r'' hσ'' (hd''.trans (put_defers _ _ _)) hx'
    · exact h.elim
theorem range_ops (l : List Oper) : (List.range l.length).map (l.toArray[·]?) = l.map some := by
  apply List.ext_getElem?
  intro j
  simp only [List.getElem?_map, List.getElem?_toArray]
  rcases Nat.lt_or_ge j l.length with h | h
  · simp [h]
  · simp [List.getElem?_eq_none h, List.getElem?_eq_none (l := List.range l.length) (by simpa using h)]
theorem vregion_ok {call : Callee0} {rnd : Round0} (hc : CalleeOk P G call) (hr : RoundOk P G rnd) {rd : Option Nat} {ro id : Nat} {ops : Array Oper} {σ : List TV} {T : VT} {D : List Nat} {Q : KX} (h : vops P G F call rnd ro ops ops.toList σ T fun σ T => Q .normal σ T D) : VWx P G rd ro (.region id ops false) σ T D Q := by
  intro r g w a rw0 hG hσ hd hD hrd
  have e := range_ops ops.toList
  rw [Array.toArray_toList] at e
  have h2 : ops.toList.length = ops.size := by simp
  rw [h2] at e
  exact wpIn_region (vops_ok hc hr (List.range ops.size) ops.toList e σ T h g w a rw0 hG hσ fun σ' T' g' w' a' hk e r' hσ' hd' hx => ⟨g', σ', T', D, hk, e, r', hσ', by rw [hd', hd, mk_evo e hD], isSome_evo e hD, hx⟩)
/-! ### Regions that draw -/
theorem set_size {listed : Array Bool} {i n : Nat} (h : listed.size = n) : (listed.setIfInBounds i true).size = n := by simpa using h
theorem vplan_ok {call : Callee0} {rnd : Round0} (hc : CalleeOk P G call) (hrr : RoundOk P G rnd) {ops : Array Oper} (hnd : ∀ (j : Nat) o, ops[j]? = some o → notDefer o.op = true) (hsel : ∀ (j : Nat) (o : Oper) cs b, ops[j]? = some o → o.op ≠ .select cs b) {ro ro' : Nat} (hle : ro' ≤ ro) {K : List TV → VT → Prop} {r : Option Nat} {gs : Gh} {Ts : VT} {ws : World} {ds : List Deferred} {QQ : Act → World → Prop}
    (hq : ∀ σ' T' g' w' (a' : Act), K σ' T' → Evo gs ws g' w' → RW g' T' w' → VRs g' w' σ' a'.tmps.toList → a'.defers = ds → Fix ro' gs Ts ws T' w' → QQ a' w') :
    ∀ (l : List (Nat × PK)) (listed : Array Bool) (T0 : VT) (ph : Bool) (σ : List TV) (T : VT), planChk ops l listed = true → vplan P G F call rnd ro ops T0 ph (planSet ops l) σ T K → ∀ g0 w0 g w (a : Act), RW g0 T0 w0 → GOk G g w → RW g T w → VRs g w σ a.tmps.toList → a.defers = ds →
      Evo g0 w0 g w → Same g0 T0 w0 w → T.objs.take T0.objs.length = T0.objs → (ph = false → g = g0 ∧ w = w0 ∧ T = T0) → Evo gs ws g w → Fix ro' gs Ts ws T w → ro' ≤ T0.objs.length → Closed ops listed → listed.size = ops.size →
      wpAnyS P r ops (calm QQ) (SS g0 T0 w0 (barsOf l)) l.length listed a w
  | [], listed, T0, ph, σ, T, hp, h, g0, w0, g, w, a, r0, hG, r1, hσ, hds, he, hs, ht, hph, hes, hfx, hro, hcl, hsz => by
    simp only [planChk] at hp
    exact ⟨by simpa using hp, hq σ T g w a h hes r1 hσ hds hfx⟩
  | (i, k) :: l, listed, T0, ph, σ, T, hp, h, g0, w0, g, w, a, r0, hG, r1, hσ, hds, he, hs, ht, hph, hes, hfx, hro, hcl, hsz => by
    simp only [planChk, Bool.and_eq_true, Bool.not_eq_true'] at hp
    obtain ⟨⟨hk, hib⟩, hp⟩ := hp
    have hib := inList_mem hib
    have hQ : ∀ e a w, e ≠ .normal → ¬ calm QQ e a w := fun e a w he => by cases e <;> first | exact (he rfl).elim | exact fun h => h
    have hin : ∀ i, i ∈ Region.ready .any ops listed → ∃ o, ops[i]? = some o := fun i hi => by obtain ⟨_, o, ho, _⟩ := mem_ready.1 hi; exact ⟨o, ho⟩
    have toSS : Same g0 T0 w0 w → ∀ bars L, SS g0 T0 w0 bars L w := fun hs bars L _ => hs
    have take : ∀ (o : Oper) (x : TV), ops[i]? = some o → i ∈ Region.ready .any ops listed → Region.free .any ops listed i = true →
        ∀ (Sr : World → Prop), Sr w → (∀ (L : Array Bool) w, Closed ops L → L.getD i false = false → SS g0 T0 w0 (barsOf l) (L.setIfInBounds i true) w → Sr w) →
        (∀ b, vwant ops σ o = some b → cond b (∃ v, VR g w x v ∧ (∀ w', Sr w' → (execOp a.eval o).run P w' = .ok (.value v) w') ∧ ∀ v, VR g w x v → wpAnyS P r ops (calm QQ) (SS g0 T0 w0 (barsOf l)) l.length (listed.setIfInBounds i true) (a.put o.dst v) w)
          (wpAnyS P r ops (calm QQ) (SS g0 T0 w0 (barsOf l)) l.length (listed.setIfInBounds i true) (a.put o.dst undef) w)) →
        (∃ b, vwant ops σ o = some b) → wpAnyS P r ops (calm QQ) (SS g0 T0 w0 (barsOf l)) (l.length + 1) listed a w := by
      intro o x ho hri hfree Sr hSr hSS hgo ⟨b, hb⟩
      have hw := wanted_of hb hσ
      have h1 := hgo b hb
      cases b with
      | true =>
        obtain ⟨v, h2, h3, h4⟩ := h1
        exact wpAnyS_first ho hnd hsel hQ hSS (fun L w h => SS_first hib L w h) _ listed a w hcl (Region.free_spec ho hfree) hri (.inl ⟨hw, h3⟩) hSr (toSS hs _ _) (h4 v h2)
      | false =>
        exact wpAnyS_first ho hnd hsel hQ hSS (fun L w h => SS_first hib L w h) _ listed a w hcl (Region.free_spec ho hfree) hri (.inr ⟨hw, rfl⟩) hSr (toSS hs _ _) h1
    have hTl : T0.objs.length ≤ T.objs.length := by
      have := congrArg List.length ht
      rw [List.length_take] at this; omega
    rw [List.length_cons]
    cases k with
    | pk0 =>
      have hbars : barsOf ((i, PK.pk0) :: l) = barsOf l := rfl
      rw [hbars]
      simp only [Bool.and_eq_true, List.contains_iff_mem] at hk
      obtain ⟨hfree, hri⟩ := hk
      obtain ⟨o, ho⟩ := hin i hri
      simp only [planSet, ho] at h
      simp only [vplan] at h
      replace h := vsplit_ok h
      have hcl' := hcl.set hri
      have hx0 : ∃ x, vwant ops σ o = some true → (∃ v, VR g w x v ∧ ∀ w', (execOp a.eval o).run P w' = .ok (.value v) w') ∧ vplan P G F call rnd ro ops T0 ph (planSet ops l) (vput σ o.dst x) T K := by
        by_cases hb : vwant ops σ o = some true
        · rw [hb] at h
          simp only [cond_true] at h
          split at h
          · rename_i x hx
            exact ⟨x, fun _ => ⟨by obtain ⟨hx⟩ := h.1; exact vpure2_ok (P := P) hx (evOf_ok (vev_ok hG hσ) _), h.2⟩⟩
          · exact h.elim
          · split at h
            · rename_i x hx
              exact ⟨x, fun _ => ⟨vpure2_ok (P := P) hx (vev_ok hG hσ), h⟩⟩
            · exact h.elim
        · exact ⟨.dead, fun h => absurd h hb⟩
      obtain ⟨x, hx0⟩ := hx0
      refine take o x ho hri hfree (fun _ => True) trivial (fun _ _ _ _ _ => trivial) ?_ ?_
      · intro b hb
        cases b with
        | true =>
          obtain ⟨⟨v, h1, h2⟩, h⟩ := hx0 hb
          exact ⟨v, h1, fun w' _ => h2 w', fun v hv => vplan_ok hc hrr hnd hsel hle hq l _ T0 ph _ T hp h g0 w0 g w _ r0 hG r1 (vput_ok hσ o.dst hv) ((put_defers _ _ _).trans hds) he hs ht hph hes hfx hro hcl' (set_size hsz)⟩
        | false =>
          rw [hb] at h
          simp only [cond_false] at h ⊢
          exact vplan_ok hc hrr hnd hsel hle hq l _ T0 ph _ T hp h g0 w0 g w _ r0 hG r1 (vput_ok hσ o.dst (.val undef)) ((put_defers _ _ _).trans hds) he hs ht hph hes hfx hro hcl' (set_size hsz)
      · split at h
        · exact ⟨_, by assumption⟩
        · exact h.elim
    | pk1 =>
      have hbars : barsOf ((i, PK.pk1) :: l) = barsOf l := rfl
      rw [hbars]
      simp only [Bool.and_eq_true, List.contains_iff_mem] at hk
      obtain ⟨⟨hfree, hri⟩, hanc⟩ := hk
      obtain ⟨o, ho⟩ := hin i hri
      simp only [planSet, ho] at h
      simp only [vplan] at h
      replace h := vsplit_ok h
      have hcl' := hcl.set hri
      have late : ∀ {ev : Operand → TV} {x : TV}, (∀ x, VR g w (ev x) (a.eval x)) → vtakes P T0 ph o.op ev = some x → ∃ v, VR g w x v ∧ ∀ w', Same g0 T0 w0 w' → (execOp a.eval o).run P w' = .ok (.value v) w' := by
        intro ev x hev hx
        unfold vtakes at hx
        split at hx
        · rename_i y hy
          injection hx with hx; subst hx
          obtain ⟨v, h1, h2⟩ := vpure2_ok (P := P) hy hev
          exact ⟨v, h1, fun w' _ => h2 w'⟩
        · cases ph with
          | true =>
            simp only [cond_true] at hx
            exact vlate2_ok (P := P) r0 he hx hev
          | false =>
            obtain ⟨rfl, rfl, rfl⟩ := hph rfl
            simp only [cond_false] at hx
            exact vread2_ok (P := P) r1 hx hev
      have hx0 : ∃ x, vwant ops σ o = some true → (∃ v, VR g w x v ∧ ∀ w', Same g0 T0 w0 w' → (execOp a.eval o).run P w' = .ok (.value v) w') ∧ vplan P G F call rnd ro ops T0 ph (planSet ops l) (vput σ o.dst x) T K := by
        by_cases hb : vwant ops σ o = some true
        · rw [hb] at h
          simp only [cond_true] at h
          split at h
          · rename_i x hx
            exact ⟨x, fun _ => ⟨by obtain ⟨hx⟩ := h.1; exact late (evOf_ok (vev_ok hG hσ) _) hx, h.2⟩⟩
          · exact h.elim
          · split at h
            · rename_i x hx
              exact ⟨x, fun _ => ⟨late (vev_ok hG hσ) hx, h⟩⟩
            · exact h.elim
        · exact ⟨.dead, fun h => absurd h hb⟩
      obtain ⟨x, hx0⟩ := hx0
      refine take o x ho hri hfree (Same g0 T0 w0) hs (fun L w h1 h2 h3 => SS_read hib (fun b hb => List.all_eq_true.1 hanc b hb) L w h1 h2 h3) ?_ ?_
      · intro b hb
        cases b with
        | true =>
          obtain ⟨⟨v, h1, h2⟩, h⟩ := hx0 hb
          exact ⟨v, h1, h2, fun v hv => vplan_ok hc hrr hnd hsel hle hq l _ T0 ph _ T hp h g0 w0 g w _ r0 hG r1 (vput_ok hσ o.dst hv) ((put_defers _ _ _).trans hds) he hs ht hph hes hfx hro hcl' (set_size hsz)⟩
        | false =>
          rw [hb] at h
          simp only [cond_false] at h ⊢
          exact vplan_ok hc hrr hnd hsel hle hq l _ T0 ph _ T hp h g0 w0 g w _ r0 hG r1 (vput_ok hσ o.dst (.val undef)) ((put_defers _ _ _).trans hds) he hs ht hph hes hfx hro hcl' (set_size hsz)
      · split at h
        · exact ⟨_, by assumption⟩
        · exact h.elim
    | pk2 =>
      have hbars : barsOf ((i, PK.pk2) :: l) = barsOf l := rfl
      rw [hbars]
      have hk : Region.ready .any ops listed = [i] := by simpa using hk
      have hri : i ∈ Region.ready .any ops listed := by rw [hk]; simp
      obtain ⟨o, ho⟩ := hin i hri
      simp only [planSet, ho] at h
      simp only [vplan] at h
      replace h := vsplit_ok h
      have hcl' := hcl.set hri
      refine wpAnyS_only hk ?_
      split at h
      · rename_i b hb
        have hw := wanted_of hb hσ
        unfold wpOpIn
        simp only [ho]
        cases b with
        | true =>
          rw [if_pos hw]
          simp only [cond_true] at h
          refine vopI_ok hc hrr h r g w a _ _ r1 hG hσ fun σ' T' g' w' a' _ hk' e' r' hσ' hd' hx' => ?_
          have he' := he.trans e'
          have hs2 : Same g0 T0 w0 w' := by
            refine ⟨fun b o hb => (he'.st b o hb).2, fun id o b hid hl hb => ?_⟩
            have hlt := (List.getElem?_eq_some_iff.1 hid).1
            have h1 : T.objs[id]? = some o := by
              have hid' := hid
              rw [← ht, List.getElem?_take, if_pos hlt] at hid'
              exact hid'
            rw [hx'.heap id o b hlt h1 hl (he.obj id b hb), hs.obj id o b hid hl hb]
          have ht2 : T'.objs.take T0.objs.length = T0.objs := by
            refine Eq.trans ?_ ht
            apply List.ext_getElem?
            intro j
            rw [List.getElem?_take, List.getElem?_take]
            split
            · rename_i hj
              exact hx'.same j hj (by omega)
            · rfl
          refine ⟨fun _ => hs2, ?_⟩
          exact vplan_ok hc hrr hnd hsel hle hq l _ T0 true σ' T' hp hk' g0 w0 g' w' a' r0 (hG.mono e') r' hσ' (hd'.trans hds) he' hs2 ht2 (fun h => by cases h) (hes.trans e') (hfx.trans hes (hx'.mono hro)) hro hcl' (set_size hsz)
        | false =>
          rw [if_neg (by rw [hw]; exact Bool.false_ne_true)]
          simp only [cond_false] at h
          refine ⟨fun _ _ => trivial, fun _ => hs, ?_⟩
          exact vplan_ok hc hrr hnd hsel hle hq l _ T0 true _ T hp h g0 w0 g w _ r0 hG r1 (vput_ok hσ o.dst (.val undef)) ((put_defers _ _ _).trans hds) he hs ht (fun h => by cases h) hes hfx hro hcl' (set_size hsz)
      · exact h.elim
    | pk3 =>
      have hbars : barsOf ((i, PK.pk3) :: l) = i :: barsOf l := rfl
      rw [hbars]
      have hk : Region.ready .any ops listed = [i] := by simpa using hk
      have hri : i ∈ Region.ready .any ops listed := by rw [hk]; simp
      obtain ⟨o, ho⟩ := hin i hri
      simp only [planSet, ho] at h
      simp only [vplan] at h
      replace h := vsplit_ok h
      have hcl' := hcl.set hri
      have hil : i < listed.size := by rw [hsz]; exact (Array.getElem?_eq_some_iff.1 ho).1
      have hset : (listed.setIfInBounds i true).getD i false = true := by simp [hil]
      have hSi : ∀ (L : Array Bool) w, L.getD i false = true → SS g0 T0 w0 (i :: barsOf l) L w := fun L w hL hb => by
        have := hb i (by simp)
        rw [hL] at this; cases this
      refine wpAnyS_only hk ?_
      split at h
      · rename_i b hb
        have hw := wanted_of hb hσ
        unfold wpOpIn
        simp only [ho]
        cases b with
        | true =>
          rw [if_pos hw]
          simp only [cond_true] at h
          refine vopI_ok hc hrr h r g w a _ _ r1 hG hσ fun σ' T' g' w' a' _ hk' e' r' hσ' hd' hx' => ?_
          refine ⟨hSi _ _ hset, wpAnyS_switch (S' := SS g' T' w' (barsOf l)) hSi _ _ _ _ hset ?_⟩
          exact vplan_ok hc hrr hnd hsel hle hq l _ T' false σ' T' hp hk' g' w' g' w' a' r' (hG.mono e') r' hσ' (hd'.trans hds) (Evo.refl _ _) (Same.refl _ _ _) List.take_length (fun _ => ⟨rfl, rfl, rfl⟩) (hes.trans e') (hfx.trans hes (hx'.mono hle)) (Nat.le_trans (Nat.le_trans hro hTl) hx'.len) hcl' (set_size hsz)
        | false =>
          rw [if_neg (by rw [hw]; exact Bool.false_ne_true)]
          simp only [cond_false] at h
          refine ⟨fun _ _ => trivial, hSi _ _ hset, wpAnyS_switch (S' := SS g T w (barsOf l)) hSi _ _ _ _ hset ?_⟩
          exact vplan_ok hc hrr hnd hsel hle hq l _ T false _ T hp h g w g w _ r1 hG r1 (vput_ok hσ o.dst (.val undef)) ((put_defers _ _ _).trans hds) (Evo.refl _ _) (Same.refl _ _ _) List.take_length (fun _ => ⟨rfl, rfl, rfl⟩) hes hfx (Nat.le_trans hro hTl) hcl' (set_size hsz)
      · exact h.elim
end
end Go.Proofs.Ytgconkbnokbinaa

/- Regions by virtual time, first part: what is read stays as new objects come; blocks that are set aside; operations that make something new. For any program. -/
namespace Go.Proofs.Ytgconkbnokbinaa
open Go.RowKit

section
variable {P : Program} {G : Globs}
/-! ### What is read stays, as new objects come -/
theorem objs_at {T0 T : VT} (h : T.objs.take T0.objs.length = T0.objs) {id : Nat} {o : VO} (k : T0.objs[id]? = some o) : T.objs[id]? = some o := by
  have hlt := (List.getElem?_eq_some_iff.1 k).1
  rw [← h, List.getElem?_take, if_pos hlt] at k
  exact k
theorem cellsAt_mono {T0 T : VT} (h : T.objs.take T0.objs.length = T0.objs) {x : TV} {n : Nat} {cs : List TV} (k : cellsAt T0 x n = some cs) : cellsAt T x n = some cs := by
  cases x
  case ptr id off =>
    simp only [cellsAt] at k ⊢
    split at k
    · rename_i cs' hid; rw [objs_at h hid]; exact k
    · rename_i cs' hid; rw [objs_at h hid]; exact k
    · cases k
  all_goals first
    | exact k
    | (simp only [cellsAt] at k; done)
theorem vload_mono {T0 T : VT} (h : T.objs.take T0.objs.length = T0.objs) {t : TypeId} {x y : TV} (k : vload P T0 t x = some y) : vload P T t x = some y := by
  unfold vload at k ⊢
  cases hu : P.underlying t with
  | none => rw [hu] at k; cases k
  | some d =>
    cases hi : P.info? t with
    | none => rw [hu, hi] at k; cases k
    | some i =>
      rw [hu, hi] at k
      simp only at k ⊢
      cases hb : isAggD d with
      | true =>
        rw [hb] at k
        simp only [if_true, Option.map_eq_some_iff] at k ⊢
        obtain ⟨cs, h1, h2⟩ := k
        exact ⟨cs, cellsAt_mono h h1, h2⟩
      | false =>
        rw [hb] at k
        simp only [Bool.false_eq_true, if_false] at k ⊢
        split at k
        · rename_i z hz; rw [cellsAt_mono h hz]; exact k
        · cases k
theorem vlen_mono {T0 T : VT} (h : T.objs.take T0.objs.length = T0.objs) {t : TypeId} {x y : TV} (k : vlen P T0 t x = some y) : vlen P T t x = some y := by
  unfold vlen at k ⊢
  cases hu : P.underlying t with
  | none => rw [hu] at k; cases k
  | some d =>
    rw [hu] at k
    cases d <;> try (exact k)
    cases x
    case val v =>
      cases v <;> try (exact k)
      rename_i m
      cases m <;> exact k
    case map id =>
      have k' : (match T0.objs[id]? with
        | some (VO.map _ _ es _) => some (TV.val (.int .i64 es.length))
        | _ => none) = some y := k
      show (match T.objs[id]? with
        | some (VO.map _ _ es _) => some (TV.val (.int .i64 es.length))
        | _ => none) = some y
      split at k'
      · rename_i hid; rw [objs_at h hid]; exact k'
      · cases k'
    all_goals exact k
theorem rowsR_mono {T0 T : VT} (h : T.objs.take T0.objs.length = T0.objs) {n : Nat} {x : TV} {y : List (List TV)} (k : rowsR T0 n x = some y) : rowsR T n x = some y := by
  cases x
  case row sz id off m =>
    simp only [rowsR] at k ⊢
    split at k
    · rename_i hid; rw [objs_at h hid]; exact k
    · cases k
  case sl id off m c =>
    simp only [rowsR] at k ⊢
    split at k
    · rename_i hid; rw [objs_at h hid]; exact k
    · rename_i hid; rw [objs_at h hid]; exact k
    · cases k
  case val v =>
    cases v <;> try (exact k)
    rename_i q m c
    cases q <;> try (exact k)
    cases m <;> exact k
  all_goals exact k
theorem vconvS_mono {T0 T : VT} (h : T.objs.take T0.objs.length = T0.objs) {s d : TypeId} {x y : TV} (k : vconvS P T0 s d x = some y) : vconvS P T s d x = some y := by
  unfold vconvS at k ⊢
  split at k
  · split at k
    · cases x
      case val v => exact k
      all_goals
        simp only at k ⊢
        split at k
        · rename_i es hes; rw [rowsR_mono h hes]; exact k
        · cases k
    · cases k
  · cases k
theorem vlookup_mono {T0 T : VT} (h : T.objs.take T0.objs.length = T0.objs) {t : TypeId} {m k y : TV} {ok : Bool} (q : vlookup P T0 t m k ok = some y) : vlookup P T t m k ok = some y := by
  unfold vlookup at q ⊢
  split at q
  · rename_i kt et kv hu hk
    split at q
    · rename_i sh i hs hi
      split at q
      · cases hb : sh.fits kv with
        | false => rw [hb] at q; cases q
        | true =>
          rw [hb] at q
          simp only [cond_true] at q ⊢
          cases m
          case val v =>
            cases v <;> try (exact q)
            rename_i m
            cases m <;> exact q
          case map id =>
            have q' : (match T0.objs[id]? with
              | some (VO.map sh' look _ _) => bif ksEq sh sh' then some (lookRes ok (look kv) _) else none
              | _ => none) = some y := q
            show (match T.objs[id]? with
              | some (VO.map sh' look _ _) => bif ksEq sh sh' then some (lookRes ok (look kv) _) else none
              | _ => none) = some y
            split at q'
            · rename_i hid; rw [objs_at h hid]; exact q'
            · cases q'
          all_goals exact q
      · cases q
    · cases q
  · cases q
theorem vread_mono {T0 T : VT} (h : T.objs.take T0.objs.length = T0.objs) {op : Op} {ev : Operand → TV} {y : TV} (k : vread P T0 op ev = some y) : vread P T op ev = some y := by
  cases op <;> simp only [vread] at k ⊢ <;> try (exact k)
  case load t a => exact vload_mono h k
  case call c =>
    obtain ⟨cal, args, ats⟩ := c
    unfold vcalls at k ⊢
    split at k
    · rename_i hc
      split at k
      · exact vlen_mono h k
      · cases k
    · exact k
    · exact k
    · cases k
theorem vread2_mono {T0 T : VT} (h : T.objs.take T0.objs.length = T0.objs) {op : Op} {ev : Operand → TV} {y : TV} (k : vread2 P T0 op ev = some y) : vread2 P T op ev = some y := by
  cases op <;> simp only [vread2] at k ⊢ <;> try (exact vread_mono h k)
  case convert s d x =>
    split at k
    · rename_i r hr
      rw [vconvS_mono h hr]; exact k
    · rename_i hn
      have e : vconvS P T s d (ev x) = none ∨ ∃ r, vconvS P T s d (ev x) = some r := by cases vconvS P T s d (ev x) <;> simp
      rcases e with e | ⟨r, e⟩
      · rw [e]; exact k
      · exfalso
        simp only [vread, Option.bind_eq_some_iff] at k
        obtain ⟨v, hv, k⟩ := k
        -- a value that is known whole is no row
        unfold vconvS at e
        split at e
        · rename_i el hs hd
          split at e
          · cases hx : ev x <;> rw [hx] at e hv <;> simp only at e <;> try (cases e)
            all_goals try (simp [toVal] at hv; done)
            all_goals
              rename_i cs
              simp only [rowsR] at e
              cases e
          · cases e
        · cases e
  case lookup t m q ok => exact vlookup_mono h k
/-! ### An operation that is carried out whenever it comes up -/
def OwnSem (P : Program) (G : Globs) (Tp : VT) (o : Oper) (s : List TV) (y : TV) : Prop := ∀ g w (ρ : Operand → Value) T, T.objs.take Tp.objs.length = Tp.objs → RW g T w → (∀ x, VR g w (vev G s x) (ρ x)) →
  ∃ m v g' w', (execOp ρ o).run P w = .ok m w' ∧ nextVal m = some v ∧ VR g' w' y v ∧ Evo g w g' w' ∧ RW g' T w' ∧ Same g T w w'
theorem take_nil (T : VT) : T.objs.take (⟨[], []⟩ : VT).objs.length = (⟨[], []⟩ : VT).objs := by simp
theorem take_trans {T0 T1 T2 : VT} (h : T1.objs.take T0.objs.length = T0.objs) (k : T2.objs.take T1.objs.length = T1.objs) : T2.objs.take T0.objs.length = T0.objs := by
  have hl : T0.objs.length ≤ T1.objs.length := by
    have := congrArg List.length h
    rw [List.length_take] at this; omega
  refine Eq.trans ?_ h
  rw [← k, List.take_take, Nat.min_eq_left hl]
theorem OwnSem.mono {T0 T1 : VT} (h : T1.objs.take T0.objs.length = T0.objs) {o : Oper} {s : List TV} {y : TV} (k : OwnSem P G T0 o s y) : OwnSem P G T1 o s y :=
  fun g w ρ T hT r hρ => k g w ρ T (take_trans h hT) r hρ
theorem pure_sem {o : Oper} {s : List TV} {y : TV} {ev : (Operand → TV)} (hev : ∀ g w (ρ : Operand → Value), (∀ x, VR g w (vev G s x) (ρ x)) → ∀ x, VR g w (ev x) (ρ x)) (h : vpure2 P o.op ev = some y) (Tp : VT) : OwnSem P G Tp o s y := by
  intro g w ρ T _ r hρ
  obtain ⟨v, h1, h2⟩ := vpure2_ok (P := P) h (hev g w ρ hρ)
  exact ⟨_, v, g, w, h2 w, rfl, h1, Evo.refl _ _, r, Same.refl _ _ _⟩
theorem read_sem {T0 : VT} {o : Oper} {s : List TV} {y : TV} (h : vread2 P T0 o.op (vev G s) = some y) : OwnSem P G T0 o s y := by
  intro g w ρ T hT r hρ
  obtain ⟨v, h1, h2⟩ := vread2_ok (P := P) r (vread2_mono hT h) hρ
  exact ⟨_, v, g, w, h2 w (Same.refl _ _ _), rfl, h1, Evo.refl _ _, r, Same.refl _ _ _⟩
theorem vownT_sem {T0 : VT} {o : Oper} {s : List TV} {y : TV} (h : vownT P G T0 o s y) : OwnSem P G ⟨[], []⟩ o s y ∨ (isRead P o.op = true ∧ vpure2 P o.op (vev G s) = none ∧ vread2 P T0 o.op (vev G s) = some y) := by
  unfold vownT at h
  split at h
  · rename_i t d x hop
    cases hr : isRead P (.convert t d x) with
    | false =>
      rw [hr] at h
      obtain ⟨hpu⟩ := h
      exact .inl (pure_sem (fun g w ρ hρ => evOf_ok hρ _) hpu _)
    | true =>
      rw [hr] at h
      obtain ⟨h0, h1⟩ := h
      rw [hop]
      exact .inr ⟨hr, by simp [vpure2, vpure, h0], by simp only [vread2, h1]⟩
  · rename_i t m k ok hop
    obtain ⟨h1⟩ := h
    rw [hop]
    exact .inr ⟨rfl, by simp [vpure2, vpure], by simp only [vread2, h1]⟩
  · obtain ⟨hpu⟩ := h
    exact .inl (pure_sem (fun g w ρ hρ => evOf_ok hρ _) hpu _)
theorem vownE_sem {T0 : VT} {o : Oper} {s : List TV} {y : TV} (h : vownE P T0 o.op (vev G s) = some y) : OwnSem P G ⟨[], []⟩ o s y ∨ (isRead P o.op = true ∧ vpure2 P o.op (vev G s) = none ∧ vread2 P T0 o.op (vev G s) = some y) := by
  unfold vownE at h
  split at h
  · rename_i x hx
    injection h with h; subst h
    exact .inl (pure_sem (fun _ _ _ h => h) hx _)
  · split at h
    · rename_i x hx
      injection h with h; subst h
      cases hr : isRead P o.op with
      | false => rw [hr] at hx; cases hx
      | true =>
        rw [hr] at hx
        simp only [cond_true] at hx
        exact .inr ⟨rfl, by assumption, hx⟩
    · split at h
      · rename_i t n ps hop
        left
        intro g w ρ T hT r hρ
        have hm : vmake P T o.op (vev G s) = some (y, T) := by
          rw [hop]
          simp only [vmake, Option.map_eq_some_iff] at h ⊢
          obtain ⟨z, ⟨y', h1, h2⟩, h3⟩ := h
          subst h2 h3
          exact ⟨_, h1, rfl⟩
        obtain ⟨v, g', w', h1, h2, h3, h4, h5⟩ := vmake_ok (P := P) r hm hρ
        exact ⟨_, v, g', w', h1, rfl, h2, h3, h4, h5⟩
      · cases h

/-! ### A store beside what is read -/
def AgreeOut (id off n : Nat) (T1 T2 : VT) : Prop := (∀ j, j ≠ id → T1.objs[j]? = T2.objs[j]?) ∧ (T1.objs[id]? = T2.objs[id]? ∨
  (∃ c1 c2, T1.objs[id]? = some (.cells c1) ∧ T2.objs[id]? = some (.cells c2) ∧ c1.length = c2.length ∧ ∀ k, (k < off ∨ off + n ≤ k) → c1[k]? = c2[k]?) ∨
  (∃ c1 c2, T1.objs[id]? = some (.row c1) ∧ T2.objs[id]? = some (.row c2) ∧ c1.length = c2.length ∧ ∀ k, (k < off ∨ off + n ≤ k) → c1[k]? = c2[k]?))
theorem setCs_out {cs new : List TV} {off : Nat} (h : off + new.length ≤ cs.length) : (setCs cs off new).length = cs.length ∧ ∀ k, (k < off ∨ off + new.length ≤ k) → cs[k]? = (setCs cs off new)[k]? := by
  unfold setCs
  refine ⟨by simp; omega, fun k hk => ?_⟩
  have hl : (cs.take off).length = off := by simp; omega
  rcases hk with hk | hk
  · rw [List.append_assoc, List.getElem?_append_left (by omega), List.getElem?_take, if_pos hk]
  · rw [List.getElem?_append_right (by simp; omega), List.getElem?_drop]
    congr 1
    simp; omega
theorem put_agree {ro : Nat} {T T' : VT} {t : TypeId} {id off : Nat} {x : TV} {new : List TV} (hn : cellsOf x = some new) (h : vput3 P ro T t (.ptr id off) x = some T') : AgreeOut id off new.length T T' ∧ T'.objs.length = T.objs.length := by
  unfold vput3 at h
  split at h
  · rename_i y T1 h1
    injection h with h; subst h
    unfold vstoreR at h1
    simp only [hn] at h1
    split at h1
    · rename_i cs new' i hid hnew hi
      injection hnew with hnew; subst hnew
      cases hb : (Nat.beq i.size new.length && Nat.ble (off + new.length) cs.length && new.all isCell && Nat.ble ro id) with
      | false => rw [hb] at h1; cases h1
      | true =>
        rw [hb] at h1
        simp only [Bool.and_eq_true] at hb
        have hle := Nat.le_of_ble_eq_true hb.1.1.2
        injection h1 with h1; injection h1 with _ h1; subst h1
        have hlt := (List.getElem?_eq_some_iff.1 hid).1
        obtain ⟨k1, k2⟩ := setCs_out hle
        exact ⟨⟨fun j hj => by simp only [List.getElem?_set]; rw [if_neg (fun e => hj e.symm)], .inr (.inr ⟨cs, _, hid, by simp [hlt], k1.symm, k2⟩)⟩, by simp⟩
    · cases h1
  · cases hr : Nat.ble ro id with
    | false => simp only [hr] at h; cases h
    | true =>
      simp only [hr, cond_true, Option.map_eq_some_iff] at h
      obtain ⟨⟨y, T1⟩, h1, h2⟩ := h
      simp only at h2; subst h2
      unfold vstore at h1
      simp only [hn] at h1
      split at h1
      · rename_i cs new' i hid hnew hi
        injection hnew with hnew; subst hnew
        split at h1
        · rename_i hh
          injection h1 with h1; injection h1 with _ h1; subst h1
          have hlt := (List.getElem?_eq_some_iff.1 hid).1
          obtain ⟨k1, k2⟩ := setCs_out hh.2.1
          exact ⟨⟨fun j hj => by simp only [List.getElem?_set]; rw [if_neg (fun e => hj e.symm)], .inr (.inl ⟨cs, _, hid, by simp [hlt], k1.symm, k2⟩)⟩, by simp⟩
        · cases h1
      · cases h1
theorem AgreeOut.take {id off n m : Nat} {T1 T2 : VT} (h : AgreeOut id off n T1 T2) : AgreeOut id off n (T1.takeO m) (T2.takeO m) := by
  have e : ∀ (T : VT) (j : Nat), (T.takeO m).objs[j]? = if j < m then T.objs[j]? else none := fun T j => by simp [VT.takeO, List.getElem?_take]
  refine ⟨fun j hj => by rw [e, e, h.1 j hj], ?_⟩
  rw [e, e]
  by_cases hm : id < m
  · rw [if_pos hm, if_pos hm]; exact h.2
  · rw [if_neg hm, if_neg hm]; exact .inl rfl
theorem cells_apart {c1 c2 : List TV} {off n off' m : Nat} (hl : c1.length = c2.length) (h : ∀ k, (k < off ∨ off + n ≤ k) → c1[k]? = c2[k]?) (ha : off' + m ≤ off ∨ off + n ≤ off') : (c1.drop off').take m = (c2.drop off').take m := by
  apply List.ext_getElem?
  intro k
  rw [List.getElem?_take, List.getElem?_take, List.getElem?_drop, List.getElem?_drop]
  split
  · exact h _ (by omega)
  · rfl
theorem apart_read {id off n : Nat} {T1 T2 : VT} (h : AgreeOut id off n T1 T2) {op : Op} {ev : Operand → TV} (ha : apartRead P id off n op ev = true) : vread2 P T1 op ev = vread2 P T2 op ev := by
  have hne : ∀ id', (!(Nat.beq id' id)) = true → T1.objs[id']? = T2.objs[id']? := fun id' hb => h.1 id' (by
    rintro rfl
    rw [Nat.beq_refl] at hb; cases hb)
  unfold apartRead at ha
  split at ha
  · rename_i t a
    simp only [vread2, vread]
    split at ha
    · rename_i id' off' hev
      rw [hev]
      have key : ∀ m, (P.info? t).map (fun i => decide (m ≤ max i.size 1)) = some true → cellsAt T1 (.ptr id' off') m = cellsAt T2 (.ptr id' off') m := by
        intro m hm
        simp only [cellsAt]
        by_cases hid : id' = id
        · subst hid
          rw [Nat.beq_refl] at ha
          simp only [Bool.not_true, Bool.false_or] at ha
          split at ha
          · rename_i i hi
            rw [hi] at hm
            simp only [Option.map_some, Option.some.injEq, decide_eq_true_eq] at hm
            have hap : off' + m ≤ off ∨ off + n ≤ off' := by
              simp only [Bool.or_eq_true] at ha
              rcases ha with ha | ha
              · have := Nat.le_of_ble_eq_true ha
                exact .inl (by omega)
              · exact .inr (Nat.le_of_ble_eq_true ha)
            rcases h.2 with h2 | ⟨c1, c2, h2, h3, h4, h5⟩ | ⟨c1, c2, h2, h3, h4, h5⟩
            · rw [h2]
            · rw [h2, h3]
              simp only
              rw [h4, cells_apart h4 h5 hap]
            · rw [h2, h3]
              simp only
              rw [h4, cells_apart h4 h5 hap]
          · cases ha
        · rw [h.1 id' hid]
      unfold vload
      cases hu : P.underlying t with
      | none => rfl
      | some d =>
        cases hi : P.info? t with
        | none => rfl
        | some i =>
          simp only
          rw [key i.size (by rw [hi]; simp; omega), key 1 (by rw [hi]; simp; omega)]
    · rename_i cs hev
      rw [hev]; rfl
    · cases ha
  · rename_i t m k ok
    simp only [vread2]
    split at ha
    · rename_i id' hev
      rw [hev]
      unfold vlookup
      simp only [hne id' ha]
    · cases ha
  · rename_i c
    simp only [vread2, vread]
    unfold vcalls
    split at ha
    · rename_i x hc hx
      simp only [hc, hx]
      split at ha
      · rename_i id' hev
        split
        · rename_i t x' h1 h2
          injection h2 with h2; subst h2
          rw [hev]
          unfold vlen
          simp only [hne id' ha]
        · rfl
      · cases ha
    · cases ha
  · cases ha
/-! ### Blocks that are set aside -/
def gP (g : Gh) (B : Nat → Prop) : Gh := { g with fr := fun b => g.fr b ∨ B b }
theorem TokOk.gh {g g' : Gh} {w : World} (ho : g'.obj = g.obj) (ht : g'.tail = g.tail) {tok : Tok} {size n b o c : Nat} (h : TokOk g w tok size n b o c) : TokOk g' w tok size n b o c := by
  cases tok <;> simp only [TokOk] at h ⊢ <;> try (exact h)
  · rw [ht]; exact h
  · rw [ho]; exact h
theorem NilTok.gh {g g' : Gh} (ht : g'.tail = g.tail) {tok : Tok} {size : Nat} (h : NilTok g tok size) : NilTok g' tok size := by
  cases tok <;> simp only [NilTok] at h ⊢ <;> try (exact h)
  rw [ht]; exact h
theorem VR.gh {g g' : Gh} {w : World} (ho : g'.obj = g.obj) (hs : g'.st = g.st) (ht : g'.tail = g.tail) {x : TV} {u : Value} (k : VR g w x u) : VR g' w x u := by
  induction k with
  | val v => exact .val v
  | dead v => exact .dead v
  | ptr hb => exact .ptr (by rw [ho]; exact hb)
  | sl hb => exact .sl (by rw [ho]; exact hb)
  | map hb => exact .map (by rw [ho]; exact hb)
  | yld hb => exact .yld (by rw [ho]; exact hb)
  | row hb hl hn hm hc => exact .row (by rw [ho]; exact hb) hl hn hm hc
  | nil hk => exact .nil (hk.gh ht)
  | odd a hk => exact .odd a (hk.gh ho ht)
  | vec hn hc hz hk hl h1 hs' hw _ ih => exact .vec hn hc hz (hk.gh ho ht) hl h1 (fun j hj => by rw [hs]; exact hs' j hj) hw ih
  | elt hl h1 hs' hw _ ih => exact .elt hl h1 (fun j hj => by rw [hs]; exact hs' j hj) hw ih
  | agg hl _ ih => exact .agg hl ih
  | tup hl _ ih => exact .tup hl ih
  | fn hl _ hl2 _ ih ih2 => exact .fn hl ih hl2 ih2
  | ifc _ ih => exact .ifc ih
theorem VR.toP {g : Gh} {w : World} {B : Nat → Prop} {x : TV} {u : Value} (k : VR g w x u) : VR (gP g B) w x u := VR.gh (g := g) (g' := gP g B) rfl rfl rfl k
theorem VR.ofP {g : Gh} {w : World} {B : Nat → Prop} {x : TV} {u : Value} (k : VR (gP g B) w x u) : VR g w x u := VR.gh (g := gP g B) (g' := g) rfl rfl rfl k
theorem VRs.gh {g g' : Gh} {w : World} (ho : g'.obj = g.obj) (hs : g'.st = g.st) (ht : g'.tail = g.tail) {xs : List TV} {us : List Value} (k : VRs g w xs us) : VRs g' w xs us := ⟨k.1, fun j x u hx hu => (k.2 j x u hx hu).gh ho hs ht⟩
theorem OR.gh {g g' : Gh} {w : World} (ho : g'.obj = g.obj) (hs : g'.st = g.st) (ht : g'.tail = g.tail) {b : Nat} {o : VO} (h : OR g w b o) : OR g' w b o := by
  cases o with
  | cells cs => obtain ⟨us, t, h1, h2, h3⟩ := h; exact ⟨us, t, h1, h2.gh ho hs ht, h3⟩
  | row cs => obtain ⟨us, t, h1, h2, h3, h4⟩ := h; exact ⟨us, t, h1, h2, h3.gh ho hs ht, h4⟩
  | map sh look es ck => obtain ⟨ms, h1, h2, h3, h4⟩ := h; exact ⟨ms, h1, h2, h3.gh ho hs ht, h4⟩
  | iter m since seen stepped => obtain ⟨mb, h1, h2⟩ := h; exact ⟨mb, h1, h2.gh ho hs ht⟩
  | siter s pos => exact h
  | loop st pend σ ps asg body => obtain ⟨us, fn, db, h1, h2⟩ := h; exact ⟨us, fn, db, h1, h2.gh ho hs ht⟩
  | defd => exact h
  | gone => trivial
/-- what is set aside may be another lot of blocks, none of which belongs to what is known -/
theorem RW.frs {g g' : Gh} {T : VT} {w : World} (r : RW g T w) (ho : g'.obj = g.obj) (hs : g'.st = g.st) (ht : g'.tail = g.tail)
    (hf : ∀ b, g'.fr b → b < w.heap.size ∧ (g.fr b ∨ ((∀ (id : Nat) o, T.objs[id]? = some o → o.live = true → g.obj id ≠ some b) ∧ ∀ (k : Nat) x, g.tail k = some x → ¬ x.has b))) : RW g' T w := by
  refine ⟨?_, ?_, ?_, ?_, fun b h => (hf b h).1, ?_, ?_, ?_, ?_, ?_, ?_, ?_⟩
  · intro id o h hl
    obtain ⟨b, h1, h2, h3, h4⟩ := r.obj id o h hl
    refine ⟨b, by rw [ho]; exact h1, h2.gh ho hs ht, fun hb => ?_, fun o => by rw [hs]; exact h4 o⟩
    rcases (hf b hb).2 with h5 | h5
    · exact h3 h5
    · exact h5.1 id o h hl h1
  · intro i j oi oj b h1 l1 h2 l2 b1 b2
    rw [ho] at b1 b2
    exact r.inj i j oi oj b h1 l1 h2 l2 b1 b2
  · intro id hid; rw [ho]; exact r.out id hid
  · intro b o h; rw [hs] at h; exact r.st b o h
  · intro k p h
    obtain ⟨x, h1, h2, h3, h4⟩ := r.tl k p h
    refine ⟨x, by rw [ht]; exact h1, h2, h3, fun b o hi => ?_⟩
    obtain ⟨h5, h6, h7, h8⟩ := h4 b o hi
    refine ⟨h5, h6, by rw [hs]; exact h7, fun hb => ?_⟩
    rcases (hf b hb).2 with h9 | h9
    · exact h8 h9
    · exact h9.2 k x h1 (.inl ⟨o, hi⟩)
  · intro k hk; rw [ht]; exact r.tout k hk
  · intro i j x y b h1 h2; rw [ht] at h1 h2; exact r.tinj i j x y b h1 h2
  · intro i oi b k x h1 l1 b1 hx; rw [ho] at b1; rw [ht] at hx; exact r.tobj i oi b k x h1 l1 b1 hx
  · intro k x hx
    rw [ht] at hx
    intro h1 h2
    obtain ⟨h3, h4, h5, h6, h7⟩ := r.own k x hx h1 h2
    refine ⟨h3, h4, h5, h6, fun hb => ?_⟩
    rcases (hf x.b hb).2 with h8 | h8
    · exact h7 h8
    · exact h8.2 k x hx (.inr ⟨h1, h2, rfl⟩)
  · intro k x hx; rw [ht] at hx; exact r.own0 k x hx
  · intro k x hx; rw [ht] at hx; exact r.tlo k x hx
theorem RW.lessFr {g g' : Gh} {T : VT} {w : World} (r : RW g T w) (ho : g'.obj = g.obj) (hs : g'.st = g.st) (ht : g'.tail = g.tail) (hf : ∀ b, g'.fr b → g.fr b) : RW g' T w :=
  r.frs ho hs ht fun b h => ⟨r.fr b (hf b h), .inl (hf b h)⟩
/-- what came of it, seen by who set nothing aside -/
theorem Evo.base {g g1 : Gh} {w w1 : World} {B : Nat → Prop} (e : Evo (gP g B) w g1 w1) : ∃ g', g1 = gP g' B ∧ g'.fr = g.fr ∧ Evo g w g' w1 ∧ (∀ b, B b → w1.heap[b]? = w.heap[b]?) ∧ ∀ b o, B b → g'.st b o → g.st b o := by
  have hfr := e.fr
  refine ⟨{ g1 with fr := g.fr }, ?_, rfl, ⟨e.os, e.tape, e.output, e.size, e.obj, e.st, rfl, fun b hb => e.frb b (.inl hb), fun b o hb h => e.frs b o (.inl hb) h, e.tail, e.tnew, e.csz⟩, fun b hb => e.frb b (.inr hb), fun b o hb h => e.frs b o (.inr hb) h⟩
  cases g1
  simp only [gP] at hfr ⊢
  rw [hfr]
/-- a block that nobody knows is turned -/
theorem RW.off {g : Gh} {T : VT} {w w' : World} {b : Nat} (r : RW g T w) (hfr : g.fr b) (hst : ∀ o, ¬ g.st b o) (hos : w'.os = w.os ∧ w'.tape = w.tape ∧ w'.output = w.output) (hsz : w'.heap.size = w.heap.size) (hoth : ∀ c, c ≠ b → w'.heap[c]? = w.heap[c]?) (hcs : csize w' b = csize w b) :
    RW g T w' ∧ ∀ g0 : Gh, g0.st = g.st → ¬ g0.fr b → Evo g0 w g0 w' := by
  have cellne : ∀ c p, c ≠ b → w'.cell? ⟨c, p, none⟩ = w.cell? ⟨c, p, none⟩ := fun c p hc => by unfold World.cell?; simp only [hoth c hc]
  have frzne : ∀ c p, c ≠ b → w'.frozen? ⟨c, p, none⟩ = w.frozen? ⟨c, p, none⟩ := fun c p hc => by unfold World.frozen?; simp only [hoth c hc]
  have csz : ∀ c, csize w' c = csize w c := fun c => by
    by_cases hc : c = b
    · subst hc; exact hcs
    · unfold csize; rw [hoth c hc]
  have ev : ∀ g0 : Gh, g0.st = g.st → ¬ g0.fr b → Evo g0 w g0 w' := fun g0 h1 h2 =>
    ⟨hos.1, hos.2.1, hos.2.2, by omega, fun _ _ h => h, fun c p hs => ⟨hs, cellne c p (by rintro rfl; rw [h1] at hs; exact hst p hs)⟩, rfl, fun c hc => hoth c (by rintro rfl; exact h2 hc), fun _ _ _ h => h, fun _ x h => ⟨x, h, .inl rfl, rfl, rfl⟩, (fun _ _ h h' => nomatch (h.symm.trans h')), fun c _ => csz c⟩
  refine ⟨?_, ev⟩
  have e0 : Evo { g with fr := fun c => g.fr c ∧ c ≠ b } w { g with fr := fun c => g.fr c ∧ c ≠ b } w' := ev _ rfl (fun h => h.2 rfl)
  refine ⟨?_, r.inj, r.out, ?_, fun c h => by rw [hsz]; exact r.fr c h, ?_, r.tout, r.tinj, r.tobj, ?_, r.own0, fun k x hx => by rw [hsz]; exact r.tlo k x hx⟩
  · intro id o h hl
    obtain ⟨c, h1, h2, h3, h4⟩ := r.obj id o h hl
    have hcb : c ≠ b := by rintro rfl; exact h3 hfr
    refine ⟨c, h1, ?_, h3, h4⟩
    have h5 : OR { g with fr := fun c => g.fr c ∧ c ≠ b } w c o := OR.gh (g := g) (g' := { g with fr := fun c => g.fr c ∧ c ≠ b }) rfl rfl rfl h2
    exact OR.gh (g := { g with fr := fun c => g.fr c ∧ c ≠ b }) (g' := g) rfl rfl rfl (OR.mono e0 (hoth c hcb) h5)
  · intro c o h
    have hcb : c ≠ b := by rintro rfl; exact hst o h
    rw [cellne c o hcb]; exact r.st c o h
  · intro k p h
    obtain ⟨x, h1, h2, h3, h4⟩ := r.tl k p h
    refine ⟨x, h1, h2, h3, fun c o hi => ?_⟩
    obtain ⟨h5, h6, h7, h8⟩ := h4 c o hi
    have hcb : c ≠ b := by rintro rfl; exact h8 hfr
    exact ⟨by rw [cellne c o hcb]; exact h5, by rw [frzne c o hcb]; exact h6, h7, h8⟩
  · intro k x hx h1 h2
    obtain ⟨⟨cur, h3, h3'⟩, h4, h5, h6, h7⟩ := r.own k x hx h1 h2
    have hcb : x.b ≠ b := fun e => h7 (e ▸ hfr)
    exact ⟨⟨cur, by rw [hoth _ hcb]; exact h3, h3'⟩, h4, h5, h6, h7⟩

/-! ### Operations that make something new out of nothing -/
structure FlSpec (P : Program) (o : Oper) (blk : Obj) (f : Nat → Value) (vo : VO) (mk : Nat → TV) : Prop where
  run : ∀ (ρ : Operand → Value) w, (∀ v, ρ (.const v) = v) → (execOp ρ o).run P w = .ok (.value (f w.heap.size)) (w.alloc blk)
  live : vo.live = true
  or : ∀ g w b, w.heap[b]? = some blk → OR g w b vo
  vr : ∀ g w id b, g.obj id = some b → b < w.heap.size → w.heap[b]? = some blk → VR g w (mk id) (f b)
theorem late_spec {o : Oper} {T0 : VT} (h : (vlateMk P T0 o.op).isSome = true) : ∃ blk f vo mk, FlSpec P o blk f vo mk ∧ ∀ T, vlateMk P T o.op = some (mk T.objs.length, { T with objs := T.objs ++ [vo] }) := by
  obtain ⟨dst, op, ty, pos, af, gd⟩ := o
  simp only at h
  cases op <;> simp only [vlateMk] at h <;> try (cases h)
  case alloc t =>
    unfold valloc at h
    cases hi : P.info? t with
    | none => rw [hi] at h; cases h
    | some i =>
      cases hz : i.zero with
      | none => rw [hi] at h; simp only [hz] at h; cases h
      | some z =>
        rw [hi] at h
        simp only [hz, vnew] at h
        by_cases hc : (z.cells.toList.map TV.val).all isCell = true
        · refine ⟨.cells z.cells t, fun b => .pointer (some ⟨b, 0, none⟩), .cells (z.cells.toList.map .val), fun id => .ptr id 0, ⟨fun ρ w _ => ?_, rfl, fun g w b hb => ?_, fun g w id b hb _ _ => .ptr hb⟩, fun T => ?_⟩
          · simp [execOp, Instr.alloc, zeroValue, typeInfo, hi, hz, newVar, newRow]
          · exact ⟨z.cells.toList, t, by simpa using hb, VRs.vals g w _, cells_one hc (VRs.vals g w _)⟩
          · simp only [vlateMk, valloc, hi, hz, vnew, hc, if_true]
        · rw [if_neg hc] at h; cases h
  case makeMap t r =>
    cases r with
    | some r => cases h
    | none =>
      simp only [vmakeMap] at h
      cases hu : P.underlying t with
      | none => rw [hu] at h; cases h
      | some d =>
        rw [hu] at h
        cases d <;> simp only at h <;> try (cases h)
        rename_i kt et
        cases hs : shapeOf P kt with
        | none => rw [hs] at h; cases h
        | some sh =>
          refine ⟨.map #[] 0, fun b => .map (some b), .map sh (fun _ => none) [] 0, fun id => .map id, ⟨fun ρ w _ => ?_, rfl, fun g w b hb => ?_, fun g w id b hb _ _ => .map hb⟩, fun T => ?_⟩
          · simp [execOp, Instr.makeMap, newObj, Sem.run]
          · exact ⟨#[], hb, by simp, by simpa using VRs.nil g _, by simp, by simp, by simp, fun k _ => rfl⟩
          · simp only [vlateMk, vmakeMap, hu, hs]
  case makeSlice t l c =>
    cases l <;> try (cases h)
    rename_i l
    cases c <;> try (cases h)
    rename_i c
    replace h : (vmakeR P T0 t (.val l) (.val c)).isSome = true := h
    unfold vmakeR at h
    split at h
    · rename_i kl l' kc c' e h1 h2 hu
      injection h1 with h1; injection h2 with h2; subst h1 h2
      split at h
      · rename_i i hi
        split at h
        · rename_i z hz
          cases hb : (decide (0 ≤ l') && decide (l' ≤ c') && decide ((i.bytes : Int) * c' ≤ 281474976710656) && decide (c' ≤ 140737488355328) && z.cells.toList.all Value.oneCell' && decide (0 < z.cells.size)) with
          | false => rw [hb] at h; cases h
          | true =>
            have hb' := hb
            simp only [Bool.and_eq_true, decide_eq_true_eq] at hb
            obtain ⟨⟨⟨⟨⟨h0, h1⟩, h2⟩, h3⟩, h4⟩, h5⟩ := hb
            have hlc : l'.toNat * i.size ≤ c'.toNat * i.size := Nat.mul_le_mul_right _ (by omega)
            have hlen : ((zeros z.cells (l'.toNat * i.size)).map TV.val).length = l'.toNat * i.size := by simp [zeros]
            refine ⟨.cells (madeCells z.cells (c'.toNat * i.size)) e, fun b => .slice (some ⟨b, 0, none⟩) l'.toNat c'.toNat, .row ((zeros z.cells (l'.toNat * i.size)).map .val), fun id => .row i.size id 0 l'.toNat, ⟨fun ρ w hρ => ?_, rfl, fun g w b hb => ?_, fun g w id b hb hlt hblk => ?_⟩, fun T => ?_⟩
            · have hrun := run_make (P := P) w t e i z hu hi hz kl kc l' c' h0 h1 h2 (by omega)
              simp [execOp, hρ, hrun]
            · refine ⟨(madeCells z.cells (c'.toNat * i.size)).toList, e, by simpa using hb, ?_, ?_, ?_⟩
              · rw [hlen]; simp [size_madeCells]; exact hlc
              · rw [hlen, makeSlice_cells hlc]; exact VRs.vals g _ _
              · intro u hu
                have hu := List.mem_of_mem_take hu; rw [Array.mem_toList_iff] at hu
                obtain ⟨j, hj, rfl⟩ := Array.getElem_of_mem hu
                have : (madeCells z.cells (c'.toNat * i.size))[j] = z.cells[j % z.cells.size]'(Nat.mod_lt _ h5) := by
                  simp only [madeCells, Array.getElem_map, Array.getElem_range]
                  exact getElem!_pos z.cells (j % z.cells.size) (Nat.mod_lt _ h5)
                rw [this]
                exact List.all_eq_true.1 h4 _ (Array.mem_toList_iff.2 (Array.getElem_mem _))
            · have hcz : csize w b = c'.toNat * i.size := by rw [csize_cells hblk, size_madeCells]
              have := VR.row (g := g) (w := w) (size := i.size) (id := id) (off := 0) (n := l'.toNat) (b := b) (c := c'.toNat) hb hlt (by omega) (by unfold maxLen; omega) (by rw [hcz, Nat.zero_add])
              rw [Nat.zero_mul] at this
              exact this
            · simp only [vlateMk, vmakeR, hu, hi, hz, hb', cond_true, VT.newRow]
        · cases h
      · cases h
    · cases h
end
end Go.Proofs.Ytgconkbnokbinaa

/- Regions by virtual time, second part: what is carried out and what is reckoned may part; the invariant, and each step. For any program. -/
namespace Go.Proofs.Ytgconkbnokbinaa
open Go.RowKit

section
variable {P : Program} {G : Globs} {F : Ora} {ops : Array Oper} {r : Option Nat}
abbrev On (V : Array Bool) (k : Nat) : Prop := V.getD k false = true
theorem on_set {V : Array Bool} {i k : Nat} (h : On V k) : On (V.setIfInBounds i true) k := getD_set_true h
theorem on_self {V : Array Bool} {i : Nat} (h : i < V.size) : On (V.setIfInBounds i true) i := by simp [On, h]
theorem on_set_ne {V : Array Bool} {i k : Nat} (h : i ≠ k) (hk : On (V.setIfInBounds i true) k) : On V k := by unfold On at *; rwa [getD_set_ne false h] at hk
theorem not_on {V : Array Bool} {k : Nat} (h : V.getD k true = false) : ¬ On V k := by
  intro h'
  unfold On at h'
  rcases Nat.lt_or_ge k V.size with hk | hk
  · simp [hk] at h h'; rw [h] at h'; cases h'
  · simp [Array.getElem?_eq_none hk] at h'
theorem off_of {V : Array Bool} {k : Nat} (hk : k < V.size) (h : ¬ On V k) : V.getD k true = false := by
  unfold On at h
  simp [hk] at h ⊢; exact h
theorem inList_iff : ∀ {l : List Nat} {i : Nat}, inList l i = true ↔ i ∈ l
  | [], i => by simp [inList]
  | a :: l, i => by
    simp only [inList, Bool.or_eq_true, List.mem_cons, inList_iff (l := l)]
    constructor
    · rintro (h | h)
      · exact .inl (Nat.eq_of_beq_eq_true h).symm
      · exact .inr h
    · rintro (h | h)
      · subst h; exact .inl (Nat.beq_refl i)
      · exact .inr h
theorem onlyL_get (L : List Nat) : ∀ (n : Nat) (σ : List TV) (s : Nat), (onlyL L n σ)[s]? = (σ[s]?).map fun x => bif inList L (n + s) then x else .dead
  | _, [], s => by simp [onlyL]
  | n, x :: σ, 0 => by simp [onlyL]
  | n, x :: σ, s + 1 => by
    simp only [onlyL, List.getElem?_cons_succ]
    rw [onlyL_get L (n + 1) σ s, show n + 1 + s = n + (s + 1) by omega]
theorem only_get (o : Oper) (σ : List TV) (s : Nat) : (only ops o σ)[s]? = (σ[s]?).map fun x => bif inList (o.looksAt ops) s then x else .dead := by
  have := onlyL_get (o.looksAt ops) 0 σ s
  rw [Nat.zero_add] at this; exact this
theorem only_len (o : Oper) (σ : List TV) : (only ops o σ).length = σ.length := by
  have key : ∀ (L : List Nat) (n : Nat) (σ : List TV), (onlyL L n σ).length = σ.length := by
    intro L n σ
    induction σ generalizing n with
    | nil => rfl
    | cons x σ ih => simp [onlyL, ih]
  exact key _ _ _
theorem vput_get (σ : List TV) (d : Option Tmp) (y : TV) (s : Nat) : (vput σ d y)[s]? = if d = some s ∧ s < σ.length then some y else σ[s]? := by
  cases d with
  | none => simp [vput]
  | some d =>
    simp only [vput, List.getElem?_set]
    by_cases h : d = s
    · subst h
      by_cases hl : d < σ.length
      · simp [hl]
      · simp [hl, List.getElem?_eq_none (Nat.le_of_not_lt hl)]
    · simp [h]
theorem vput_len (σ : List TV) (d : Option Tmp) (y : TV) : (vput σ d y).length = σ.length := by cases d <;> simp [vput]
theorem put_get (a : Act) (d : Option Tmp) (v : Value) (s : Nat) : (a.put d v).tmps.toList[s]? = if d = some s ∧ s < a.tmps.toList.length then some v else a.tmps.toList[s]? := by
  cases d with
  | none => simp [Act.put]
  | some d =>
    simp only [Act.put, Array.toList_setIfInBounds, List.getElem?_set]
    by_cases h : d = s
    · subst h
      by_cases hl : d < a.tmps.size
      · simp [hl]
      · simp [hl, Array.getElem?_eq_none (Nat.le_of_not_lt hl)]
    · simp [h]
theorem put_len (a : Act) (d : Option Tmp) (v : Value) : (a.put d v).tmps.toList.length = a.tmps.toList.length := by cases d <;> simp [Act.put]
theorem only_put {o : Oper} {σ : List TV} {d : Option Tmp} {y : TV} (h : ∀ s, d = some s → inList (o.looksAt ops) s = false) : only ops o (vput σ d y) = only ops o σ := by
  apply List.ext_getElem?
  intro s
  rw [only_get, only_get, vput_get]
  by_cases hs : d = some s ∧ s < σ.length
  · rw [if_pos hs, h s hs.1, List.getElem?_eq_getElem hs.2]; rfl
  · rw [if_neg hs]
/-! ### Static facts -/
theorem once_spec (h : onceOk ops = true) {i : Nat} {o : Oper} {d : Tmp} (hi : ops[i]? = some o) (hd : o.dst = some d) :
    inList (o.looksAt ops) d = false ∧ ∀ (j : Nat) oj, ops[j]? = some oj → j ≠ i → oj.dst ≠ some d ∧ (inList (oj.looksAt ops) d = true → ∃ e ∈ oj.after, Region.binds .any e = true ∧ e.on = i) := by
  have hlt := (Array.getElem?_eq_some_iff.1 hi).1
  have h1 := List.all_eq_true.1 h i (List.mem_range.2 hlt)
  simp only [hi, hd, Bool.and_eq_true, Bool.not_eq_true'] at h1
  refine ⟨h1.1, fun j oj hj hne => ?_⟩
  have h2 := List.all_eq_true.1 h1.2 j (List.mem_range.2 (Array.getElem?_eq_some_iff.1 hj).1)
  simp only [hj, Bool.or_eq_true, Bool.and_eq_true, Bool.not_eq_true'] at h2
  rcases h2 with h2 | ⟨h2, h3⟩
  · exact absurd (Nat.eq_of_beq_eq_true h2) hne
  · refine ⟨fun e => ?_, fun hl => ?_⟩
    · rw [e] at h2; simp at h2
    · rcases h3 with h3 | h3
      · rw [hl] at h3; cases h3
      · obtain ⟨e, he, h4⟩ := List.any_eq_true.1 h3
        simp only [Bool.and_eq_true] at h4
        exact ⟨e, Array.mem_toList_iff.1 he, h4.1, Nat.eq_of_beq_eq_true h4.2⟩
theorem looks_on (h : onceOk ops = true) {X : Array Bool} {j : Nat} {oj : Oper} (hj : ops[j]? = some oj) (hdeps : ∀ e ∈ oj.after, Region.binds .any e = true → On X e.on) {s : Nat} (hs : inList (oj.looksAt ops) s = true) {k : Nat} {ok : Oper} (hk : ops[k]? = some ok) (hd : ok.dst = some s) : k ≠ j ∧ On X k := by
  obtain ⟨h1, h2⟩ := once_spec h hk hd
  by_cases hkj : j = k
  · subst hkj
    rw [hj] at hk; injection hk with hk; subst hk
    rw [hs] at h1; cases h1
  · obtain ⟨e, he, hb, hon⟩ := (h2 j oj hj hkj).2 hs
    exact ⟨fun h => hkj h.symm, hon ▸ hdeps e he hb⟩
/-! ### The invariant -/
def RelV (ops : Array Oper) (V R : Array Bool) (g : Gh) (w : World) (σ : List TV) (tm : List Value) : Prop :=
  tm.length = σ.length ∧ ∀ (s : Nat) x u, σ[s]? = some x → tm[s]? = some u → (∀ (k : Nat) o, ops[k]? = some o → o.dst = some s → On V k ∧ On R k) → VR g w x u
theorem RelV.only {V R : Array Bool} {g : Gh} {w : World} {σ : List TV} {tm : List Value} (h : RelV ops V R g w σ tm) {o : Oper} (hl : ∀ s, inList (o.looksAt ops) s = true → ∀ (k : Nat) ok, ops[k]? = some ok → ok.dst = some s → On V k ∧ On R k) : VRs g w (only ops o σ) tm := by
  refine ⟨by rw [only_len]; exact h.1, fun s x u hx hu => ?_⟩
  rw [only_get] at hx
  cases hs : σ[s]? with
  | none => rw [hs] at hx; cases hx
  | some z =>
    rw [hs] at hx
    simp only [Option.map_some, Option.some.injEq] at hx
    cases hb : inList (o.looksAt ops) s with
    | true => rw [hb] at hx; simp only [cond_true] at hx; subst hx; exact h.2 s z u hs hu (hl s hb)
    | false => rw [hb] at hx; simp only [cond_false] at hx; subst hx; exact .dead u
def Owed (P : Program) (G : Globs) (ops : Array Oper) (T0 : VT) (pend : List Nat) (k : Nat) (o : Oper) (σ : List TV) : Prop := notDefer o.op = true ∧
  ((vwant ops (only ops o σ) o = some false ∧ ∀ d x, o.dst = some d → σ[d]? = some x → x = .val undef) ∨
   (vwant ops (only ops o σ) o = some true ∧ ∃ y, (∀ d x, o.dst = some d → σ[d]? = some x → x = y) ∧ (OwnSem P G ⟨[], []⟩ o (only ops o σ) y ∨ (k ∈ pend ∧ vpure2 P o.op (vev G (only ops o σ)) = none ∧ vread2 P T0 o.op (vev G (only ops o σ)) = some y))))
def PB (prot : Nat → Option Nat) (b : Nat) : Prop := ∃ k, prot k = some b
def FlSt (P : Program) (G : Globs) (ops : Array Oper) (σ : List TV) (R : Array Bool) (g : Gh) (w : World) (tm : List Value) (prot : Nat → Option Nat) (i : Nat) (jo : Option Nat) : Prop :=
  ∃ o d b, ops[i]? = some o ∧ o.dst = some d ∧ prot i = some b ∧ (match jo with
    | none => ∃ blk f vo mk, FlSpec P o blk f vo mk ∧ (∀ T, vlateMk P T o.op = some (mk T.objs.length, { T with objs := T.objs ++ [vo] })) ∧ w.heap[b]? = some blk ∧ ∀ u, tm[d]? = some u → u = f b
    | some j => ∃ oj t us inf, ops[j]? = some oj ∧ w.heap[b]? = some (.cells us.toArray t (0, 0)) ∧ (∀ u, tm[d]? = some u → u = .pointer (some ⟨b, 0, none⟩)) ∧ o.op = .alloc t ∧ P.info? t = some inf ∧ us.length = inf.size ∧
      (On R j → ∃ new, vboxVal P o.op oj.op (vev G (only ops oj σ)) = some new ∧ VRs g w new us ∧ ∀ u ∈ us, u.oneCell' = true))
structure VInv (P : Program) (G : Globs) (ops : Array Oper) (flo : List (Nat × Option Nat)) (σ : List TV) (T T0 : VT) (V R : Array Bool) (pend : List Nat) (g : Gh) (w : World) (tm : List Value) (prot : Nat → Option Nat) : Prop where
  vs : V.size = ops.size
  rs : R.size = ops.size
  cv : Closed ops V
  cr : Closed ops R
  rv : ∀ k, On R k → ¬ On V k → k ∈ floatL flo
  vf : ∀ k ∈ floatL flo, On V k → On R k
  vb : ∀ i j, (i, some j) ∈ flo → (On V i ↔ On V j)
  rel : RelV ops V R g w σ tm
  own : ∀ (k : Nat) o, ops[k]? = some o → On V k → ¬ On R k → Owed P G ops T0 pend k o σ
  flt : ∀ i jo, (i, jo) ∈ flo → On R i → ¬ On V i → FlSt P G ops σ R g w tm prot i jo
  pr : ∀ k b, prot k = some b → (∃ jo, (k, jo) ∈ flo) ∧ On R k ∧ ¬ On V k ∧ ¬ g.fr b ∧ (∀ o, ¬ g.st b o) ∧ b < w.heap.size
  pinj : ∀ i j b, prot i = some b → prot j = some b → i = j
  rw : RW (gP g (PB prot)) T w
  t0 : T.objs.take T0.objs.length = T0.objs
/-- what is checked of a region, once -/
structure VStat (P : Program) (ops : Array Oper) (flo : List (Nat × Option Nat)) : Prop where
  flow : flowOk ops = true
  once : onceOk ops = true
  dup : noDup (floatL flo) = true
  flo : floChk P ops flo (floatL flo) = true
theorem noDup_ok : ∀ {l : List Nat}, noDup l = true → l.Nodup
  | [], _ => List.nodup_nil
  | a :: l, h => by
    simp only [noDup, Bool.and_eq_true, Bool.not_eq_true'] at h
    exact List.nodup_cons.2 ⟨inList_mem h.1, noDup_ok h.2⟩
theorem floatL_mem : ∀ {flo : List (Nat × Option Nat)} {k : Nat}, k ∈ floatL flo ↔ ∃ i jo, (i, jo) ∈ flo ∧ (k = i ∨ jo = some k)
  | [], k => by simp [floatL]
  | (i, none) :: l, k => by
    simp only [floatL, List.mem_cons, floatL_mem (flo := l)]
    constructor
    · rintro (rfl | ⟨i', jo, h1, h2⟩)
      · exact ⟨k, none, .inl rfl, .inl rfl⟩
      · exact ⟨i', jo, .inr h1, h2⟩
    · rintro ⟨i', jo, h1 | h1, h2⟩
      · injection h1 with h1 h3; subst h1 h3
        rcases h2 with h2 | h2
        · exact .inl h2
        · cases h2
      · exact .inr ⟨i', jo, h1, h2⟩
  | (i, some j) :: l, k => by
    simp only [floatL, List.mem_cons, floatL_mem (flo := l)]
    constructor
    · rintro (rfl | rfl | ⟨i', jo, h1, h2⟩)
      · exact ⟨k, some j, .inl rfl, .inl rfl⟩
      · exact ⟨i, some k, .inl rfl, .inr rfl⟩
      · exact ⟨i', jo, .inr h1, h2⟩
    · rintro ⟨i', jo, h1 | h1, h2⟩
      · injection h1 with h1 h3; subst h1 h3
        rcases h2 with h2 | h2
        · exact .inl h2
        · injection h2 with h2; exact .inr (.inl h2.symm)
      · exact .inr (.inr ⟨i', jo, h1, h2⟩)
/-- two floats that share an operation are one -/
theorem flo_uniq : ∀ {flo : List (Nat × Option Nat)}, (floatL flo).Nodup → ∀ {i jo i' jo' k}, (i, jo) ∈ flo → (i', jo') ∈ flo → (k = i ∨ jo = some k) → (k = i' ∨ jo' = some k) → i = i' ∧ jo = jo'
  | [], _, _, _, _, _, _, h, _, _, _ => by cases h
  | (a, b) :: l, hn, i, jo, i', jo', k, h1, h2, k1, k2 => by
    have hl : (floatL l).Nodup ∧ ∀ k, (k = a ∨ b = some k) → k ∉ floatL l := by
      cases b with
      | none =>
        have := List.nodup_cons.1 hn
        refine ⟨this.2, fun k hk => ?_⟩
        rcases hk with rfl | hk
        · exact this.1
        · cases hk
      | some j =>
        have h3 := List.nodup_cons.1 hn
        have h4 := List.nodup_cons.1 h3.2
        refine ⟨h4.2, fun k hk => ?_⟩
        rcases hk with rfl | hk
        · exact fun h => h3.1 (List.mem_cons_of_mem _ h)
        · injection hk with hk; subst hk; exact h4.1
    rcases List.mem_cons.1 h1 with e1 | m1 <;> rcases List.mem_cons.1 h2 with e2 | m2
    · injection e1 with e1 e1'; injection e2 with e2 e2'; subst e1 e1' e2 e2'; exact ⟨rfl, rfl⟩
    · injection e1 with e1 e1'; subst e1 e1'
      exact absurd ((floatL_mem (flo := l)).2 ⟨i', jo', m2, k2⟩) (hl.2 k k1)
    · injection e2 with e2 e2'; subst e2 e2'
      exact absurd ((floatL_mem (flo := l)).2 ⟨i, jo, m1, k1⟩) (hl.2 k k2)
    · exact flo_uniq hl.1 m1 m2 k1 k2
theorem VStat.at {flo : List (Nat × Option Nat)} (st : VStat P ops flo) {i : Nat} {jo : Option Nat} (h : (i, jo) ∈ flo) : ∃ o, ops[i]? = some o ∧ lateAt P o = true ∧ ∀ j, jo = some j → ∃ oj, ops[j]? = some oj ∧ isBoxOf P o oj = true ∧ (∃ e ∈ oj.after, Region.binds .any e = true ∧ e.on = i) ∧ ∀ e ∈ oj.after, Region.binds .any e = true → e.on = i ∨ e.on ∉ floatL flo ∨ boxStore flo e.on = true := by
  have h1 := List.all_eq_true.1 st.flo (i, jo) h
  simp only at h1
  split at h1
  · rename_i o ho
    simp only [Bool.and_eq_true] at h1
    refine ⟨o, ho, h1.1, fun j hj => ?_⟩
    subst hj
    have h2 := h1.2
    simp only at h2
    split at h2
    · rename_i oj hoj
      simp only [Bool.and_eq_true] at h2
      obtain ⟨⟨h3, h4⟩, h5⟩ := h2
      obtain ⟨e, he, h6⟩ := List.any_eq_true.1 h4
      simp only [Bool.and_eq_true] at h6
      refine ⟨oj, hoj, h3, ⟨e, Array.mem_toList_iff.1 he, h6.1, Nat.eq_of_beq_eq_true h6.2⟩, fun e he hb => ?_⟩
      have h7 := List.all_eq_true.1 h5 e (Array.mem_toList_iff.2 he)
      simp only [hb, Bool.not_true, Bool.false_or, Bool.or_eq_true, Bool.not_eq_true'] at h7
      rcases h7 with (h7 | h7) | h7
      · exact .inl (Nat.eq_of_beq_eq_true h7)
      · exact .inr (.inl (inList_mem h7))
      · exact .inr (.inr h7)
    · cases h2
  · cases h1
theorem boxStore_mem {flo : List (Nat × Option Nat)} {k : Nat} (h : boxStore flo k = true) : ∃ i, (i, some k) ∈ flo := by
  obtain ⟨p, hp, h1⟩ := List.any_eq_true.1 h
  obtain ⟨i, jo⟩ := p
  cases jo with
  | none => cases h1
  | some j =>
    have := Nat.eq_of_beq_eq_true h1
    subst this
    exact ⟨i, hp⟩
/-- a slot's relation behind a step that writes it -/
theorem RelV.step {V R : Array Bool} {g g' : Gh} {w w' : World} {σ : List TV} {a : Act} (h : RelV ops V R g w σ a.tmps.toList) (e : Evo g w g' w') {j : Nat} {o : Oper} (ho : ops[j]? = some o) {v : Value}
    (hx : ∀ d x, o.dst = some d → σ[d]? = some x → On V j → VR g' w' x v) : RelV ops V (R.setIfInBounds j true) g' w' σ (a.put o.dst v).tmps.toList := by
  refine ⟨by rw [put_len]; exact h.1, fun s x u hs hu hw => ?_⟩
  rw [put_get] at hu
  by_cases hd : o.dst = some s ∧ s < a.tmps.toList.length
  · rw [if_pos hd] at hu
    injection hu with hu; subst hu
    exact hx s x hd.1 hs (hw j o ho hd.1).1
  · rw [if_neg hd] at hu
    refine (h.2 s x u hs hu fun k ok hk hdk => ?_).mono e
    obtain ⟨h1, h2⟩ := hw k ok hk hdk
    refine ⟨h1, on_set_ne (fun hjk => ?_) h2⟩
    subst hjk
    rw [ho] at hk; injection hk with hk; subst hk
    exact hd ⟨hdk, (List.getElem?_eq_some_iff.1 hu).1⟩
/-- a float's state behind a step that does not touch it -/
theorem FlSt.step {σ : List TV} {R R' : Array Bool} {g g' : Gh} {w w' : World} {a : Act} {prot prot' : Nat → Option Nat} {i : Nat} {jo : Option Nat} (h : FlSt P G ops σ R g w a.tmps.toList prot i jo) (e : Evo g w g' w') (hh : ∀ b, prot i = some b → w'.heap[b]? = w.heap[b]?) (hp : prot' i = prot i)
    {d' : Option Tmp} {v : Value} (hd : ∀ o d, ops[i]? = some o → o.dst = some d → d' ≠ some d) (hr : ∀ j, jo = some j → On R' j → On R j) : FlSt P G ops σ R' g' w' (a.put d' v).tmps.toList prot' i jo := by
  obtain ⟨o, d, b, h1, h2, h3, h4⟩ := h
  have ht : ∀ u, (a.put d' v).tmps.toList[d]? = some u → a.tmps.toList[d]? = some u := fun u hu => by
    rw [put_get, if_neg fun k => hd o d h1 h2 k.1] at hu; exact hu
  refine ⟨o, d, b, h1, h2, hp.trans h3, ?_⟩
  cases jo with
  | none =>
    obtain ⟨blk, f, vo, mk, k1, k2, k3, k4⟩ := h4
    exact ⟨blk, f, vo, mk, k1, k2, (hh b h3).trans k3, fun u hu => k4 u (ht u hu)⟩
  | some j =>
    obtain ⟨oj, t, us, inf, k1, k2, k3, k4, k5, k6, k7⟩ := h4
    refine ⟨oj, t, us, inf, k1, (hh b h3).trans k2, fun u hu => k3 u (ht u hu), k4, k5, k6, fun hj => ?_⟩
    obtain ⟨new, q1, q2, q3⟩ := k7 (hr j rfl hj)
    exact ⟨new, q1, q2.mono e, q3⟩
end
end Go.Proofs.Ytgconkbnokbinaa

/- Regions by virtual time, third part: what is carried out. For any program. -/
namespace Go.Proofs.Ytgconkbnokbinaa
open Go.RowKit

section
variable {P : Program} {G : Globs} {F : Ora} {ops : Array Oper} {r : Option Nat} {flo : List (Nat × Option Nat)} {σ : List TV} {T T0 : VT} {V R : Array Bool} {pend : List Nat} {g : Gh} {w : World} {a : Act} {prot : Nat → Option Nat}
theorem wpOpIn_skip {QQ : Exit → Act → World → Prop} {j : Nat} {o : Oper} (ho : ops[j]? = some o) (hw : Region.wanted o (yielded ops a.tmps) = false) {K : Act → World → Prop} (h : K (a.put o.dst undef) w) : wpOpIn (fenR r) 0 P ops QQ j K a w := by
  unfold wpOpIn
  simp only [ho]
  rw [if_neg (by rw [hw]; exact Bool.false_ne_true)]
  exact ⟨fun _ _ => trivial, h⟩
theorem wpOpIn_val {QQ : Exit → Act → World → Prop} {j : Nat} {o : Oper} (hd : notDefer o.op = true) (ho : ops[j]? = some o) (hw : Region.wanted o (yielded ops a.tmps) = true) {m : Next} {v : Value} {w' : World} (hrun : (execOp a.eval o).run P w = .ok m w') (hv : nextVal m = some v)
    {K : Act → World → Prop} (h : ∀ v, nextVal m = some v → K (a.put o.dst v) w') : wpOpIn (fenR r) 0 P ops QQ j K a w := by
  have hne : ∀ c, o.op ≠ .defer c := fun c hc => by rw [hc] at hd; cases hd
  unfold wpOpIn
  simp only [ho]
  rw [if_pos hw]
  refine ⟨fun _ _ => trivial, ?_⟩
  rw [Oper.semAt_eq _ _ _ hne, hrun]
  cases m <;> simp only [nextVal] at hv <;> try (cases hv)
  · exact h _ rfl
  · exact h _ rfl
theorem GOk.toP {B : Nat → Prop} (h : GOk G g w) : GOk G (gP g B) w := fun n cs hn => (h n cs hn).toP
theorem wanted_none {o : Oper} (h : o.guard.isNone = true) : Region.wanted o (yielded ops a.tmps) = true := by
  unfold Region.wanted
  cases hg : o.guard with
  | none => rfl
  | some x => rw [hg] at h; cases h
theorem fix_same {n : Nat} {w' : World} {g0 : Gh} {B : Nat → Prop} (h : Same (gP g0 B) T w w') : Fix n g0 T w T w' :=
  ⟨Nat.le_refl _, fun _ _ _ => rfl, fun i o b _ ho hl hb => h.obj i o b ho hl hb⟩
theorem VInv.base (inv : VInv P G ops flo σ T T0 V R pend g w a.tmps.toList prot) : RW g T w := inv.rw.lessFr rfl rfl rfl fun _ h => .inl h
/-- what was reckoned is carried out -/
theorem owed_step (st : VStat P ops flo) (inv : VInv P G ops flo σ T T0 V R pend g w a.tmps.toList prot) (hG : GOk G g w) {QQ : Exit → Act → World → Prop} {K : Act → World → Prop} {j : Nat} (hj : j ∈ Region.ready .any ops R) (hV : On V j)
    (next : ∀ g' w' (a' : Act), VInv P G ops flo σ T T0 V (R.setIfInBounds j true) pend g' w' a'.tmps.toList prot → Evo g w g' w' → (∀ n, Fix n g T w T w') → a'.defers = a.defers → K a' w') : wpOpIn (fenR r) 0 P ops QQ j K a w := by
  obtain ⟨hun, o, ho, hdep⟩ := mem_ready.1 hj
  have hnR := not_on hun
  have hjs : j < R.size := by rw [inv.rs]; exact (Array.getElem?_eq_some_iff.1 ho).1
  have hdepV : ∀ e ∈ o.after, Region.binds .any e = true → On V e.on := fun e he hb => inv.cv j o ho hV e he hb
  have hl : ∀ s, inList (o.looksAt ops) s = true → ∀ (k : Nat) ok, ops[k]? = some ok → ok.dst = some s → On V k ∧ On R k := fun s hs k ok hk hd =>
    ⟨(looks_on st.once ho hdepV hs hk hd).2, (looks_on st.once ho hdep hs hk hd).2⟩
  have hσ := inv.rel.only hl
  obtain ⟨hnd, how⟩ := inv.own j o ho hV hnR
  have hjF : j ∉ floatL flo := fun hm => hnR (inv.vf j hm hV)
  have key : ∀ (g' : Gh) (w' : World) (v : Value), Evo g w g' w' → g'.fr = g.fr → RW (gP g' (PB prot)) T w' → (∀ b, PB prot b → w'.heap[b]? = w.heap[b]?) → (∀ b o, PB prot b → g'.st b o → g.st b o) → (∀ d x, o.dst = some d → σ[d]? = some x → VR g' w' x v) → (∀ n, Fix n g T w T w') → K (a.put o.dst v) w' := by
    intro g' w' v e hfr hrw hB hst hx hfix
    refine next g' w' _ ?_ e hfix (put_defers _ _ _)
    refine ⟨inv.vs, by simpa using inv.rs, inv.cv, inv.cr.set hj, ?_, fun k hk hv => on_set (inv.vf k hk hv), inv.vb, inv.rel.step e ho fun d x hd hs _ => hx d x hd hs, ?_, ?_, ?_, inv.pinj, hrw, inv.t0⟩
    · intro k hk hnv
      by_cases hjk : j = k
      · subst hjk; exact absurd hV hnv
      · exact inv.rv k (on_set_ne hjk hk) hnv
    · intro k ok hk hv hnr
      exact inv.own k ok hk hv fun h => hnr (on_set h)
    · intro i jo hi hri hnvi
      have hne : j ≠ i := fun h => hnvi (h ▸ hV)
      refine (inv.flt i jo hi (on_set_ne hne hri) hnvi).step e (fun b hb => hB b ⟨i, hb⟩) rfl (fun o' d' h1 h2 h3 => ?_) (fun jj hjj hr => ?_)
      · exact ((once_spec st.once h1 h2).2 j o ho hne).1 h3
      · subst hjj
        refine on_set_ne (fun h => ?_) hr
        subst h
        exact hjF (floatL_mem.2 ⟨i, some j, hi, .inr rfl⟩)
    · intro k b hk
      obtain ⟨h1, h2, h3, h4, h5, h6⟩ := inv.pr k b hk
      exact ⟨h1, on_set h2, h3, by rw [hfr]; exact h4, fun o hs => h5 o (hst b o ⟨k, hk⟩ hs), Nat.lt_of_lt_of_le h6 e.size⟩
  rcases how with ⟨hw, hu⟩ | ⟨hw, y, hy, hsem⟩
  · refine wpOpIn_skip ho (wanted_of hw hσ) ?_
    exact key g w undef (Evo.refl _ _) rfl inv.rw (fun _ _ => rfl) (fun _ _ _ h => h) (fun d x hd hs => by rw [hu d x hd hs]; exact .val _) (fun n => Fix.refl _ _ _ _)
  · have hρ : ∀ x, VR (gP g (PB prot)) w (vev G (only ops o σ) x) (a.eval x) := vev_ok hG.toP (VRs.gh (g := g) (g' := gP g (PB prot)) rfl rfl rfl hσ)
    have hs : ∃ Tp : VT, T.objs.take Tp.objs.length = Tp.objs ∧ OwnSem P G Tp o (only ops o σ) y := by
      rcases hsem with h | ⟨_, _, h⟩
      · exact ⟨⟨[], []⟩, take_nil T, h⟩
      · exact ⟨T0, inv.t0, read_sem h⟩
    obtain ⟨Tp, hTp, hsem⟩ := hs
    obtain ⟨m, v, g1, w1, h1, h2, h3, h4, h5, h6⟩ := hsem (gP g (PB prot)) w a.eval T hTp inv.rw hρ
    obtain ⟨g', rfl, hfr, e, hB, hst⟩ := h4.base
    refine wpOpIn_val hnd ho (wanted_of hw hσ) h1 h2 fun v' hv' => ?_
    rw [h2] at hv'; injection hv' with hv'; subst hv'
    exact key g' w1 v e hfr h5 hB hst (fun d x hd hs => by rw [hy d x hd hs]; exact h3.ofP) (fun n => fix_same h6)
theorem box_alloc {o oj : Oper} (hb : isBoxOf P o oj = true) (hl : lateAt P o = true) : ∃ (d : Tmp) (t : TypeId) (inf : TypeInfo) (us : List Value) (x : Operand), o.dst = some d ∧ o.op = .alloc t ∧ oj.op = .store t (.tmp d) x ∧ oj.guard.isNone = true ∧ oj.dst = none ∧ x ≠ .tmp d ∧ P.info? t = some inf ∧ us.length = inf.size ∧
    ∀ (ρ : Operand → Value) w, (execOp ρ o).run P w = .ok (.value (.pointer (some ⟨w.heap.size, 0, none⟩))) (w.alloc (.cells us.toArray t)) := by
  unfold isBoxOf at hb
  split at hb
  · rename_i d t t' d' x hd ho hoj
    simp only [Bool.and_eq_true] at hb
    obtain ⟨⟨⟨⟨⟨h1, h2⟩, h3⟩, h4⟩, h5⟩, h6⟩ := hb
    have h1 := Nat.eq_of_beq_eq_true h1
    have h2 := Nat.eq_of_beq_eq_true h2
    subst h1 h2
    split at h6
    · rename_i inf hi
      split at h6
      · rename_i z hz
        refine ⟨d, t, inf, z.cells.toList, x, hd, ho, hoj, h3, (by cases hq : oj.dst with | none => rfl | some _ => rw [hq] at h4; cases h4), ?_, hi, by simpa using Nat.eq_of_beq_eq_true h6, fun ρ w => ?_⟩
        · rintro rfl
          simp at h5
        · obtain ⟨dst, op, ty, pos, af, gd⟩ := o
          simp only at ho; subst ho
          simp [execOp, Instr.alloc, zeroValue, typeInfo, hi, hz, newVar, newRow]
      · cases h6
    · cases h6
  · cases hb
theorem lateAt_spec {o : Oper} (h : lateAt P o = true) : (vlateMk P ⟨[], []⟩ o.op).isSome = true ∧ o.guard.isNone = true ∧ (∃ d, o.dst = some d) ∧ notDefer o.op = true := by
  simp only [lateAt, Bool.and_eq_true] at h
  exact ⟨h.1.1.1, h.1.1.2, Option.isSome_iff_exists.1 h.1.2, h.2⟩
/-- a float is carried out -/
theorem float_step (st : VStat P ops flo) (inv : VInv P G ops flo σ T T0 V R pend g w a.tmps.toList prot) {QQ : Exit → Act → World → Prop} {K : Act → World → Prop} {i : Nat} {jo : Option Nat} (hf : (i, jo) ∈ flo) (hi : i ∈ Region.ready .any ops R) (hV : ¬ On V i)
    (next : ∀ g' w' (a' : Act) prot', VInv P G ops flo σ T T0 V (R.setIfInBounds i true) pend g' w' a'.tmps.toList prot' → Evo g w g' w' → (∀ n, Fix n g T w T w') → a'.defers = a.defers → K a' w') : wpOpIn (fenR r) 0 P ops QQ i K a w := by
  obtain ⟨hun, o, ho, hdep⟩ := mem_ready.1 hi
  have hnR := not_on hun
  have hsz : i < R.size := by rw [inv.rs]; exact (Array.getElem?_eq_some_iff.1 ho).1
  obtain ⟨o', ho', hlate, hbox⟩ := st.at hf
  rw [ho] at ho'; injection ho' with ho'; subst ho'
  obtain ⟨hmk, hgd, ⟨d, hd⟩, hnd⟩ := lateAt_spec hlate
  have hnd' := noDup_ok st.dup
  -- what it lays
  have lay : ∃ blk v0, (execOp a.eval o).run P w = .ok (.value v0) (w.alloc blk) ∧ ∀ tm' : List Value, (∀ u, tm'[d]? = some u → u = v0) → ∀ (g' : Gh) (R' : Array Bool) (prot' : Nat → Option Nat), prot' i = some w.heap.size → (∀ j, jo = some j → ¬ On R' j) → FlSt P G ops σ R' g' (w.alloc blk) tm' prot' i jo := by
    cases jo with
    | none =>
      obtain ⟨blk, f, vo, mk, h1, h2⟩ := late_spec hmk
      refine ⟨blk, f w.heap.size, h1.run a.eval w fun v => rfl, fun tm' htm g' R' prot' hp _ => ⟨o, d, w.heap.size, ho, hd, hp, blk, f, vo, mk, h1, h2, heap_alloc_new w blk, htm⟩⟩
    | some j =>
      obtain ⟨oj, hoj, hb, _, _⟩ := hbox j rfl
      obtain ⟨d', t, inf, us, x, h1, h2, h3, h4, h5, h6, h7, h8, h9⟩ := box_alloc hb hlate
      rw [hd] at h1; injection h1 with h1; subst h1
      exact ⟨_, _, h9 a.eval w, fun tm' htm g' R' prot' hp hj => ⟨o, d, w.heap.size, ho, hd, hp, oj, t, us, inf, hoj, heap_alloc_new w _, htm, h2, h7, h8, fun h => absurd h (hj j rfl)⟩⟩
  obtain ⟨blk, v0, hrun, hlay⟩ := lay
  refine wpOpIn_val hnd ho (wanted_none hgd) hrun rfl fun v' hv' => ?_
  injection hv' with hv'; subst hv'
  have hgr : Gr w (w.alloc blk) := (Gr.refl w).alloc _
  have e := Evo.of_gr inv.base hgr
  have hsame := Same.of_gr inv.rw hgr
  have hlt : w.heap.size < (w.alloc blk).heap.size := (Array.getElem?_eq_some_iff.1 (heap_alloc_new w blk)).1
  have hnone : ∀ b, prot i ≠ some b := fun b hb => hnR (inv.pr i b hb).2.1
  refine next g (w.alloc blk) _ (fun k => if k = i then some w.heap.size else prot k) ?_ e (fun n => fix_same hsame) (put_defers _ _ _)
  have hpne : ∀ k, k ≠ i → (if k = i then some w.heap.size else prot k) = prot k := fun k hk => if_neg hk
  refine ⟨inv.vs, by simpa using inv.rs, inv.cv, inv.cr.set hi, ?_, fun k hk hv => on_set (inv.vf k hk hv), inv.vb, inv.rel.step e ho fun _ _ _ _ h => absurd h hV, ?_, ?_, ?_, ?_, ?_, inv.t0⟩
  · intro k hk hnv
    by_cases hik : i = k
    · subst hik; exact floatL_mem.2 ⟨i, jo, hf, .inl rfl⟩
    · exact inv.rv k (on_set_ne hik hk) hnv
  · intro k ok hk hv hnr
    exact inv.own k ok hk hv fun h => hnr (on_set h)
  · intro i' jo' hf' hri hnv
    by_cases hii : i' = i
    · subst hii
      obtain ⟨_, rfl⟩ := flo_uniq hnd' hf hf' (k := i') (.inl rfl) (.inl rfl)
      refine hlay _ (fun u hu => ?_) g _ _ (if_pos rfl) fun j hj hon => ?_
      · rw [put_get] at hu
        by_cases hc : o.dst = some d ∧ d < a.tmps.toList.length
        · rw [if_pos hc] at hu; injection hu with hu; exact hu.symm
        · rw [if_neg hc] at hu
          exact absurd ⟨hd, (List.getElem?_eq_some_iff.1 hu).1⟩ hc
      · obtain ⟨oj, hoj, _, ⟨e1, he1, hb1, hon1⟩, _⟩ := hbox j hj
        have hne : i' ≠ j := by
          rintro rfl
          rw [ho] at hoj; injection hoj with hoj; subst hoj
          have := (flowOk_spec st.flow ho).1 e1 he1 hb1
          omega
        have := inv.cr j oj hoj (on_set_ne hne hon) e1 he1 hb1
        rw [hon1] at this
        exact hnR this
    · refine (inv.flt i' jo' hf' (on_set_ne (fun h => hii h.symm) hri) hnv).step e (fun b hb => hgr.heap (inv.pr i' b hb).2.2.2.2.2) (hpne i' hii) (fun o' d' h1 h2 h3 => ?_) fun jj hjj hr => ?_
      · exact ((once_spec st.once h1 h2).2 i o ho (fun h => hii h.symm)).1 h3
      · subst hjj
        refine on_set_ne (fun h => ?_) hr
        subst h
        exact hii (flo_uniq hnd' hf' hf (k := i) (.inr rfl) (.inl rfl)).1
  · intro k b hk
    by_cases hki : k = i
    · subst hki
      rw [if_pos rfl] at hk; injection hk with hk; subst hk
      have hfresh := inv.rw.fresh (Nat.le_refl w.heap.size)
      exact ⟨⟨jo, hf⟩, on_self hsz, hV, fun h => hfresh.fr (.inl h), hfresh.st, hlt⟩
    · rw [if_neg hki] at hk
      obtain ⟨h1, h2, h3, h4, h5, h6⟩ := inv.pr k b hk
      exact ⟨h1, on_set h2, h3, h4, h5, Nat.lt_trans h6 hlt⟩
  · intro k k' b hk hk'
    by_cases hki : k = i <;> by_cases hki' : k' = i
    · omega
    · subst hki
      rw [if_pos rfl] at hk; rw [if_neg hki'] at hk'
      injection hk with hk; subst hk
      have := (inv.pr k' _ hk').2.2.2.2.2
      omega
    · subst hki'
      rw [if_pos rfl] at hk'; rw [if_neg hki] at hk
      injection hk' with hk'; subst hk'
      have := (inv.pr k _ hk).2.2.2.2.2
      omega
    · rw [if_neg hki] at hk; rw [if_neg hki'] at hk'
      exact inv.pinj k k' b hk hk'
  · have hfresh := inv.rw.fresh (Nat.le_refl w.heap.size)
    refine RW.frs (inv.rw.gr hgr) rfl rfl rfl fun b hb => ?_
    rcases hb with hb | ⟨k, hk⟩
    · exact ⟨Nat.lt_of_lt_of_le (inv.rw.fr b (.inl hb)) hgr.size, .inl (.inl hb)⟩
    · replace hk : (if k = i then some w.heap.size else prot k) = some b := hk
      by_cases hki : k = i
      · rw [if_pos hki] at hk; injection hk with hk; subst hk
        exact ⟨hlt, .inr ⟨hfresh.obj, hfresh.tl⟩⟩
      · rw [if_neg hki] at hk
        exact ⟨Nat.lt_trans (inv.pr k b hk).2.2.2.2.2 hlt, .inl (.inr ⟨k, hk⟩)⟩
end
end Go.Proofs.Ytgconkbnokbinaa

/- Regions by virtual time, fourth part: boxes' stores, operations carried out as they are reckoned, what is reckoned. For any program. -/
namespace Go.Proofs.Ytgconkbnokbinaa
open Go.RowKit

section
variable {P : Program} {G : Globs} {F : Ora} {ops : Array Oper} {r : Option Nat} {flo : List (Nat × Option Nat)} {σ : List TV} {T T0 : VT} {V R : Array Bool} {pend : List Nat} {g : Gh} {w : World} {a : Act} {prot : Nat → Option Nat}
theorem boxesOk_at {flo0 : List (Nat × Option Nat)} : ∀ {flo : List (Nat × Option Nat)}, boxesOk P G ops flo0 V σ flo = true → ∀ {i j}, (i, some j) ∈ flo → ¬ On V i → depsInB ops flo0 (V.setIfInBounds i true) j = true →
    ∃ o oj new d, ops[i]? = some o ∧ ops[j]? = some oj ∧ vboxVal P o.op oj.op (vev G (only ops oj σ)) = some new ∧ o.dst = some d ∧ d < σ.length
  | [], _, _, _, h, _, _ => by cases h
  | (i', none) :: l, hb, i, j, h, hn, hd => by
    simp only [boxesOk] at hb
    rcases List.mem_cons.1 h with h | h
    · cases h
    · exact boxesOk_at hb h hn hd
  | (i', some j') :: l, hb, i, j, h, hn, hd => by
    simp only [boxesOk, Bool.and_eq_true] at hb
    rcases List.mem_cons.1 h with h | h
    · injection h with h1 h2; injection h2 with h2; subst h1 h2
      have h3 := hb.1
      have hn' : V.getD i false = false := by unfold On at hn; cases hq : V.getD i false <;> first | rfl | exact absurd hq hn
      rw [hn', hd] at h3
      simp only [Bool.not_true, Bool.or_self, Bool.false_or] at h3
      split at h3
      · rename_i o oj ho hoj
        simp only [Bool.and_eq_true] at h3
        obtain ⟨new, hnew⟩ := Option.isSome_iff_exists.1 h3.1
        have h4 := h3.2
        split at h4
        · rename_i d hdd
          exact ⟨o, oj, new, d, ho, hoj, hnew, hdd, Nat.le_of_ble_eq_true h4⟩
        · cases h4
      · cases h3
    · exact boxesOk_at hb.2 h hn hd
theorem vboxVal_spec {o oj : Oper} {t t' : TypeId} {ad x : Operand} {inf : TypeInfo} {ev : Operand → TV} {new : List TV} (h : vboxVal P o.op oj.op ev = some new) (ho : o.op = .alloc t) (hoj : oj.op = .store t' ad x) (hi : P.info? t = some inf) : cellsOf (ev x) = some new ∧ inf.size = new.length ∧ new.all isCell = true := by
  unfold vboxVal at h
  rw [ho, hoj] at h
  simp only [hi] at h
  split at h
  · rename_i i new' h1 h2
    injection h1 with h1; subst h1
    cases hb : (Nat.beq inf.size new'.length && new'.all isCell) with
    | false => rw [hb] at h; cases h
    | true =>
      rw [hb] at h
      simp only [Bool.and_eq_true] at hb
      injection h with h; subst h
      exact ⟨h2, Nat.eq_of_beq_eq_true hb.1, hb.2⟩
  · cases h
/-- a box's store writes no slot -/
theorem boxStore_dst (st : VStat P ops flo) {k : Nat} {o : Oper} (h : boxStore flo k = true) (ho : ops[k]? = some o) : o.dst = none := by
  obtain ⟨i, hi⟩ := boxStore_mem h
  obtain ⟨o2, ho2, hlate, hbox⟩ := st.at hi
  obtain ⟨oj, hoj, hib, _⟩ := hbox k rfl
  obtain ⟨_, _, _, _, _, _, _, _, _, h5, _⟩ := box_alloc hib hlate
  rw [ho] at hoj; injection hoj with hoj; subst hoj
  exact h5
/-- the first value is stored -/
theorem store_step (st : VStat P ops flo) (inv : VInv P G ops flo σ T T0 V R pend g w a.tmps.toList prot) (hG : GOk G g w) (hbx : boxesOk P G ops flo V σ flo = true) {QQ : Exit → Act → World → Prop} {K : Act → World → Prop} {i j : Nat} (hf : (i, some j) ∈ flo) (hj : j ∈ Region.ready .any ops R) (hV : ¬ On V j)
    (next : ∀ g' w' (a' : Act), VInv P G ops flo σ T T0 V (R.setIfInBounds j true) pend g' w' a'.tmps.toList prot → Evo g w g' w' → (∀ n, Fix n g T w T w') → a'.defers = a.defers → K a' w') : wpOpIn (fenR r) 0 P ops QQ j K a w := by
  obtain ⟨hun, oj, hoj, hdep⟩ := mem_ready.1 hj
  have hnR := not_on hun
  have hsz : j < R.size := by rw [inv.rs]; exact (Array.getElem?_eq_some_iff.1 hoj).1
  have hnd' := noDup_ok st.dup
  obtain ⟨o, ho, hlate, hbox⟩ := st.at hf
  obtain ⟨oj', hoj', hib, ⟨e1, he1, hb1, hon1⟩, hdeps⟩ := hbox j rfl
  rw [hoj] at hoj'; injection hoj' with hoj'; subst hoj'
  obtain ⟨d, t, inf, us0, x, h1, h2, h3, h4, h5, h6, h7, _, _⟩ := box_alloc hib hlate
  have hRi : On R i := hon1 ▸ hdep e1 he1 hb1
  have hVi : ¬ On V i := fun h => hV ((inv.vb i j hf).1 h)
  have hdepV : ∀ e ∈ oj.after, Region.binds .any e = true → e.on = i ∨ On V e.on ∨ boxStore flo e.on = true := fun e he hb => by
    rcases hdeps e he hb with h | h | h
    · exact .inl h
    · refine .inr (.inl ?_)
      cases hq : V.getD e.on false with
      | true => exact hq
      | false => exact absurd (inv.rv e.on (hdep e he hb) (by unfold On; rw [hq]; simp)) h
    · exact .inr (.inr h)
  have hdi : depsInB ops flo (V.setIfInBounds i true) j = true := by
    unfold depsInB
    rw [hoj]
    refine List.all_eq_true.2 fun e he => ?_
    cases hb : Region.binds .any e with
    | false => simp
    | true =>
      simp only [Bool.not_true, Bool.false_or]
      rw [Bool.or_eq_true]
      rcases hdepV e (Array.mem_toList_iff.1 he) hb with h | h | h
      · left; rw [h]; exact on_self (by rw [inv.vs]; exact (Array.getElem?_eq_some_iff.1 ho).1)
      · left; exact on_set h
      · right; exact h
  obtain ⟨o', oj', new, d', k1, k2, hnew, k3, hdlt⟩ := boxesOk_at hbx hf hVi hdi
  rw [ho] at k1; injection k1 with k1; subst k1
  rw [hoj] at k2; injection k2 with k2; subst k2
  rw [h1] at k3; injection k3 with k3; subst k3
  obtain ⟨hcells, hlen, hone⟩ := vboxVal_spec hnew h2 h3 h7
  obtain ⟨o', d', b, q1, q2, hp, oj', t', us, inf', q3, hheap, hptr, q4, q5, hus, _⟩ := inv.flt i (some j) hf hRi hVi
  rw [ho] at q1; injection q1 with q1; subst q1
  rw [h1] at q2; injection q2 with q2; subst q2
  rw [hoj] at q3; injection q3 with q3; subst q3
  rw [h2] at q4; injection q4 with q4; subst q4
  rw [h7] at q5; injection q5 with q5; subst q5
  -- the value
  have hlook : ∀ e, x = .tmp e → inList (oj.looksAt ops) e = true := fun e he => by
    rw [inList_iff]
    unfold Oper.looksAt
    rw [h3]
    simp [Op.operands, he]
  have hx : VR g w (vev G (only ops oj σ) x) (a.eval x) := by
    cases x with
    | tmp e =>
      have hl := hlook e rfl
      show VR g w ((only ops oj σ).getD e .dead) (a.eval (.tmp e))
      cases hs : σ[e]? with
      | none =>
        have : (only ops oj σ)[e]? = none := by rw [only_get, hs]; rfl
        rw [List.getD_eq_getElem?_getD, this]
        exact .dead _
      | some z =>
        have hz : (only ops oj σ)[e]? = some z := by rw [only_get, hs, hl]; rfl
        rw [List.getD_eq_getElem?_getD, hz]
        have hel : e < a.tmps.toList.length := by rw [inv.rel.1]; exact (List.getElem?_eq_some_iff.1 hs).1
        have hu : a.tmps.toList[e]? = some (a.eval (.tmp e)) := by
          rw [List.getElem?_eq_getElem hel]
          have : e < a.tmps.size := by simpa using hel
          simp [Act.eval, this]
        refine inv.rel.2 e z _ hs hu fun k ok hk hd => ?_
        obtain ⟨hkj, hRk⟩ := looks_on st.once hoj hdep hl hk hd
        refine ⟨?_, hRk⟩
        obtain ⟨h8, h9⟩ := once_spec st.once hk hd
        obtain ⟨e2, he2, hb2, hon2⟩ := (h9 j oj hoj (fun h => hkj h.symm)).2 hl
        rcases hdepV e2 he2 hb2 with h | h | h
        rotate_left 2
        · exfalso
          rw [hon2] at h
          rw [boxStore_dst st h hk] at hd; cases hd
        · exfalso
          rw [hon2] at h; subst h
          rw [ho] at hk; injection hk with hk; subst hk
          rw [h1] at hd; injection hd with hd; subst hd
          exact h6 rfl
        · rw [hon2] at h; exact h
    | const v => exact .val _
    | global n =>
      have := vev_ok (a := a) (σ := []) (G := G) (g := g) (w := w)
      show VR g w (vev G [] (.global n)) (a.eval (.global n))
      simp only [vev]
      split
      · rename_i cs hn; exact hG n cs hn
      · exact .val _
    | func f => exact .fn (us := []) (vs := []) rfl (fun j x u h => by simp at h) rfl (fun j x u h => by simp at h)
  have ha : a.eval (.tmp d) = .pointer (some ⟨b, 0, none⟩) := by
    have hel : d < a.tmps.toList.length := by rw [inv.rel.1]; exact hdlt
    have hu : a.tmps.toList[d]? = some (a.eval (.tmp d)) := by
      rw [List.getElem?_eq_getElem hel]
      have : d < a.tmps.size := by simpa using hel
      simp [Act.eval, this]
    exact hptr _ hu
  generalize hux : a.eval x = u at hx
  have k := cellsOf_ok hcells hx
  have hoc := cells_one hone k
  have hl : u.cells.toList.length = new.length := k.1
  have hrun0 := run_storeCells_at (P := P) b 0 t u.cells.toList 0 us.toArray w hheap (by simp at hl ⊢; omega) hoc
  simp only [Nat.add_zero, hl] at hrun0
  have hnd : notDefer oj.op = true := by rw [h3]; rfl
  have hcsz : csize (w.setRow b (us.take 0 ++ u.cells.toList ++ us.drop (0 + new.length)).toArray) b = csize w b := by
    rw [csize_cells (setRow_heap w b us.toArray _ t (0, 0) hheap), csize_cells hheap]
    simp at hl ⊢; omega
  have hrow : (us.take 0 ++ u.cells.toList ++ us.drop (0 + new.length)) = u.cells.toList := by
    rw [List.take_zero, List.nil_append, Nat.zero_add, List.drop_eq_nil_of_le (by omega), List.append_nil]
  have hrun : (execOp a.eval oj).run P w = .ok .skip (w.setRow b (us.take 0 ++ u.cells.toList ++ us.drop (0 + new.length)).toArray) := by
    have hs : u.cells.size = inf.size := by rw [hlen, ← hl]; simp
    have : (Instr.storeAt t (a.eval (.tmp d)) u).run P w = .ok () (w.setRow b (us.take 0 ++ u.cells.toList ++ us.drop (0 + new.length)).toArray) := by
      rw [ha]
      simp only [Instr.storeAt, Instr.sureAddr, storeVar, Sem.run_bind, Sem.run_pure, Result.andThen_ok, run_size h7, hs]
      simpa using hrun0
    obtain ⟨dst, op, ty, pos, af, gd⟩ := oj
    simp only at h3; subst h3
    simp [execOp, hux, this]
  refine wpOpIn_val (v := undef) hnd hoj (wanted_none h4) hrun rfl fun v' hv' => ?_
  injection hv' with hv'; subst hv'
  rw [hrow] at hcsz ⊢
  obtain ⟨p1, p2, p3, p4, p5, p6⟩ := inv.pr i b hp
  have hoth : ∀ c, c ≠ b → (w.setRow b u.cells.toList.toArray).heap[c]? = w.heap[c]? := fun c hc => setRow_other w b c _ hc
  obtain ⟨hrw', hev⟩ := inv.rw.off (b := b) (w' := w.setRow b u.cells.toList.toArray) (.inr ⟨i, hp⟩) p5 ⟨rfl, rfl, rfl⟩ (by simp) hoth hcsz
  have e := hev g rfl p4
  have hfix : ∀ n, Fix n g T w T (w.setRow b u.cells.toList.toArray) := fun n => ⟨Nat.le_refl _, fun _ _ _ => rfl, fun id o' b' _ ho' hl' hb' => hoth b' fun h => by
    subst h
    obtain ⟨b2, y1, _, y3, _⟩ := inv.rw.obj id o' ho' hl'
    have y1' : g.obj id = some b2 := y1
    rw [hb'] at y1'; injection y1' with y1'; subst y1'
    exact y3 (.inr ⟨i, hp⟩)⟩
  have hdst : oj.dst = none := h5
  refine next g _ (a.put oj.dst undef) ?_ e hfix (put_defers _ _ _)
  refine ⟨inv.vs, by simpa using inv.rs, inv.cv, inv.cr.set hj, ?_, fun k hk hv => on_set (inv.vf k hk hv), inv.vb, inv.rel.step e hoj fun d x hd _ _ => (by rw [hdst] at hd; cases hd), ?_, ?_, ?_, inv.pinj, hrw', inv.t0⟩
  · intro k' hk hnv
    by_cases hjk : j = k'
    · subst hjk; exact floatL_mem.2 ⟨i, some j, hf, .inr rfl⟩
    · exact inv.rv k' (on_set_ne hjk hk) hnv
  · intro k' ok hk hv hnr
    exact inv.own k' ok hk hv fun h => hnr (on_set h)
  · intro i' jo' hf' hri hnv
    by_cases hii : i' = i
    · subst hii
      obtain ⟨_, rfl⟩ := flo_uniq hnd' hf hf' (k := i') (.inl rfl) (.inl rfl)
      refine ⟨o, d, b, ho, h1, hp, oj, t, u.cells.toList, inf, hoj, setRow_heap w b us.toArray _ t (0, 0) hheap, fun u' hu' => ?_, h2, h7, by omega, fun _ => ⟨new, hnew, k.mono e, hoc⟩⟩
      rw [put_get, if_neg (by rw [hdst]; rintro ⟨h, _⟩; cases h)] at hu'
      exact hptr u' hu'
    · have hri' : On R i' := on_set_ne (fun h => by
        subst h
        exact hii (flo_uniq hnd' hf' hf (k := j) (.inl rfl) (.inr rfl)).1) hri
      refine (inv.flt i' jo' hf' hri' hnv).step e (fun b' hb' => hoth b' fun h => by subst h; exact hii (inv.pinj i' i b' hb' hp)) rfl (fun o' d' _ _ h3' => by rw [hdst] at h3'; cases h3') fun jj hjj hr => ?_
      subst hjj
      refine on_set_ne (fun h => ?_) hr
      subst h
      exact hii (flo_uniq hnd' hf' hf (k := j) (.inr rfl) (.inr rfl)).1
  · intro k' b' hk
    obtain ⟨y1, y2, y3, y4, y5, y6⟩ := inv.pr k' b' hk
    exact ⟨y1, on_set y2, y3, y4, y5, Nat.lt_of_lt_of_le y6 e.size⟩
end
end Go.Proofs.Ytgconkbnokbinaa
