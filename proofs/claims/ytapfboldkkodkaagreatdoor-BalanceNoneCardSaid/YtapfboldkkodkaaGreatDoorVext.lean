/- Functions without a body: sync/atomic on int64. For any program. -/
import Derived.Test.YtapfboldkkodkaaGreatDoorVs
import Derived.Test.YtapfboldkkodkaaGreatDoorVx
namespace Go.Proofs.YtapfboldkkodkaaGreatDoor
open Go.RowKit

section
variable {P : Program} {g : Gh} {T : VT} {w : World}
theorem atomic_store {t : TypeId} {i : TypeInfo} (hi : P.info? t = some i) (h1 : i.size = 1) {a : Addr} {k : IntKind} {n : Int} {w' : World} {v0 : Value} (hc : w.cell? a = some v0) (h : (Instr.storeAt t (.pointer (some a)) (.int k n)).run P w = .ok () w') : (store a (.int k n) .atomic).run P w = .ok () w' := by
  simp [Instr.storeAt, Instr.sureAddr, storeVar, Sem.run_bind, run_size hi, h1, storeCells, Value.cells] at h
  have e : a.add 0 = a := by cases a; simp [Addr.add]
  simp only [store, Sem.run, e, hc] at h ⊢
  exact h
theorem find_add64 {fn : Func} (h : fn.name = "sync/atomic.AddInt64") : Extern.find fn = some (Extern.Atomic.update (Op.intArith .add) .i64 true) := by
  unfold Extern.find
  simp only [h]
  rw [show (Extern.allGenericRows.lookup "sync/atomic.AddInt64") = none by kernel_rfl, show (Extern.allTypedRows.lookup "sync/atomic.AddInt64") = none by kernel_rfl, show (Extern.allRows.lookup "sync/atomic.AddInt64") = some (Extern.Atomic.update (Op.intArith .add) .i64 true) by kernel_rfl]
  rfl
theorem find_store64 {fn : Func} (h : fn.name = "sync/atomic.StoreInt64") : Extern.find fn = some Extern.Atomic.storeT := by
  unfold Extern.find
  simp only [h]
  rw [show (Extern.allGenericRows.lookup "sync/atomic.StoreInt64") = none by kernel_rfl, show (Extern.allTypedRows.lookup "sync/atomic.StoreInt64") = none by kernel_rfl, show (Extern.allRows.lookup "sync/atomic.StoreInt64") = some Extern.Atomic.storeT by kernel_rfl]
  rfl
theorem find_load64 {fn : Func} (h : fn.name = "sync/atomic.LoadInt64") : Extern.find fn = some (Extern.Atomic.loadT (.int .i64)) := by
  unfold Extern.find
  simp only [h]
  rw [show (Extern.allGenericRows.lookup "sync/atomic.LoadInt64") = none by kernel_rfl, show (Extern.allTypedRows.lookup "sync/atomic.LoadInt64") = none by kernel_rfl, show (Extern.allRows.lookup "sync/atomic.LoadInt64") = some (Extern.Atomic.loadT (.int .i64)) by kernel_rfl]
  rfl
/-- a cell of an object, or one that stays -/
def vcell (T : VT) (p : TV) : Option TV := match p with
  | .ptr id off => match T.objs[id]? with
    | some (.cells cs) => cs[off]?
    | _ => none
  | .elt (c :: _) => some c
  | _ => none
theorem vcell_ok (r : RW g T w) {p y : TV} {u : Value} (h : vcell T p = some y) (hp : VR g w p u) : ∃ a v, u = .pointer (some a) ∧ w.cell? a = some v ∧ VR g w y v ∧ ∀ w', Same g T w w' → w'.cell? a = some v := by
  unfold vcell at h
  split at h
  · rename_i id off
    split at h
    · rename_i cs hid
      obtain ⟨b, hb, rfl⟩ := hp.ptr_inv
      obtain ⟨b', h4, ⟨us, ty, h5, h6, h7⟩, _⟩ := r.obj id _ hid rfl
      rw [hb] at h4; injection h4 with h4; subst h4
      obtain ⟨v, hv, hvr⟩ := h6.at h
      have hc : ∀ w' : World, w'.heap[b]? = w.heap[b]? → w'.cell? ⟨b, off, none⟩ = some v := fun w' hh => by
        unfold World.cell?
        simp only [hh, h5]
        simpa using hv
      exact ⟨_, v, rfl, hc w rfl, hvr, fun w' hs => hc w' (hs.obj id _ b hid rfl hb)⟩
    · cases h
  · rename_i c cs
    injection h with h; subst h
    obtain ⟨b, o, us, rfl, h1, h2, h3, h4⟩ := hp.elt_inv
    obtain ⟨v, hv, hvr⟩ := h1.at (j := 0) (x := c) rfl
    have h5 := h3 0 v hv
    exact ⟨_, v, rfl, h5, hvr, fun w' hs => (hs.st b o (h2 0 (by simp))).trans h5⟩
  · cases h
/-- what a function without a body hands back -/
def vext (P : Program) (ro : Nat) (T : VT) (fn : Func) (xs : List TV) : Option (TV × VT) :=
  bif (Extern.findNext fn).isNone && fn.body.isNone then
    bif fn.name == "sync/atomic.LoadInt64" then (match xs with
      | [p] => match vcell T p with
        | some (.val (.int .i64 x)) => some (.val (.int .i64 x), T)
        | _ => none
      | _ => none)
    else bif fn.name == "sync/atomic.StoreInt64" then (match xs, fn.params.toList with
      | [.ptr id off, .val (.int k y)], [_, t] => match vcell T (.ptr id off), P.info? t with
        | some _, some i => bif Nat.beq i.size 1 && Nat.ble ro id then (match vstore P T t (.ptr id off) (.val (.int k y)) with
          | some (_, T') => some (.val (.tuple #[]), T')
          | none => none) else none
        | _, _ => none
      | _, _ => none)
    else bif fn.name == "sync/atomic.AddInt64" then (match xs, fn.params.toList with
      | [.ptr id off, .val (.int _ y)], [_, t] => match vcell T (.ptr id off), P.info? t with
        | some (.val (.int .i64 x)), some i => bif Nat.beq i.size 1 && Nat.ble ro id then (match vstore P T t (.ptr id off) (.val (.int .i64 (IntKind.i64.wrap (x + y)))) with
          | some (_, T') => some (.val (.int .i64 (IntKind.i64.wrap (x + y))), T')
          | none => none) else none
        | _, _ => none
      | _, _ => none)
    else none
  else none
theorem loadT_eq (t : Extern.Atomic.T) (x : Value) : Extern.Atomic.loadT t [x].toArray = (do Extern.Atomic.read t (← asAddr x)) := rfl
theorem storeT_eq (x y : Value) : Extern.Atomic.storeT [x, y].toArray = (do store (← asAddr x) y .atomic; pure Extern.Atomic.none_) := rfl
theorem update_eq (op : IntKind → Int → Int → Sem Value) (k : IntKind) (b : Bool) (x y : Value) : Extern.Atomic.update op k b [x, y].toArray = (do
    let a ← asAddr x
    let old ← Extern.Atomic.read (.int k) a
    let new ← op k (← asInt old) (← asInt y)
    store a new .atomic
    pure (if b then new else old)) := rfl
theorem callFunc_ext {f : FuncId} {fn : Func} {e : Array Value → Sem Value} (hfn : P.funcs[f]? = some fn) (hnm : fn.name ≠ "runtime.NumGoroutine") (hb : fn.body = none) (hn : Extern.findNext fn = none) (he : Extern.find fn = some e) {args : Array Value} {v : Value} {w' : World} (h : (e args).run P w = .ok v w') :
    (callFunc f args).run P w = .ok (.value v) w' := by
  simp [callFunc, hfn, hnm, hb, hn, he, mark, Sem.run, Sem.run_bind, h, Result.andThen]
theorem vext_ok (r : RW g T w) {ro : Nat} {f : FuncId} {fn : Func} {xs : List TV} {us : List Value} {y : TV} {T' : VT} (hfn : P.funcs[f]? = some fn) (h : vext P ro T fn xs = some (y, T')) (hx : VRs g w xs us) :
    ∃ v g' w', (callFunc f us.toArray).run P w = .ok (.value v) w' ∧ VR g' w' y v ∧ Evo g w g' w' ∧ RW g' T' w' ∧ Fix ro g T w T' w' := by
  unfold vext at h
  cases hb : ((Extern.findNext fn).isNone && fn.body.isNone) with
  | false => rw [hb] at h; cases h
  | true =>
    rw [hb] at h
    simp only [Bool.and_eq_true, Option.isNone_iff_eq_none] at hb
    obtain ⟨hn, hbody⟩ := hb
    simp only [cond_true] at h
    cases h1 : (fn.name == "sync/atomic.LoadInt64") with
    | true =>
      rw [h1] at h
      have h1 : fn.name = "sync/atomic.LoadInt64" := by simpa using h1
      simp only [cond_true] at h
      split at h
      · rename_i p
        split at h
        · rename_i x hc
          injection h with h; injection h with e1 e2; subst e1 e2
          match us, hx with
          | [u], hx =>
            obtain ⟨a, v, hu, hw, hv, _⟩ := vcell_ok r hc (hx.2 0 p u rfl rfl)
            have hv := hv.val_inv
            subst hu hv
            refine ⟨_, g, w, callFunc_ext hfn (by rw [h1]; decide) hbody hn (find_load64 h1) (v := .int .i64 x) (w' := w) ?_, .val _, Evo.refl _ _, r, Fix.refl _ _ _ _⟩
            rw [loadT_eq]
            simp [Extern.Atomic.read, asAddr, load, Sem.run, Sem.run_bind, hw, Result.andThen]
          | [], hx => have := hx.1; simp at this
          | _ :: _ :: _, hx => have := hx.1; simp at this
        · cases h
      · cases h
    | false =>
      rw [h1] at h
      simp only [cond_false] at h
      cases h2 : (fn.name == "sync/atomic.StoreInt64") with
      | true =>
        rw [h2] at h
        have h2 : fn.name = "sync/atomic.StoreInt64" := by simpa using h2
        simp only [cond_true] at h
        split at h
        · rename_i id off k z t0 t hps
          split at h
          · rename_i c i hc hi
            cases hb2 : (Nat.beq i.size 1 && Nat.ble ro id) with
            | false => rw [hb2] at h; cases h
            | true =>
              rw [hb2] at h
              simp only [Bool.and_eq_true] at hb2
              simp only [cond_true] at h
              split at h
              · rename_i q T2 hst
                injection h with h; injection h with e1 e2; subst e1 e2
                match us, hx with
                | [u, v], hx =>
                  have hp := hx.2 0 _ u rfl rfl
                  have hz := (hx.2 1 _ v rfl rfl).val_inv
                  subst hz
                  obtain ⟨a, v0, hu, hw, _, _⟩ := vcell_ok r hc hp
                  subst hu
                  obtain ⟨g', w', k1, _, k3, k4, k5⟩ := vstore_fix (P := P) r hst hp (.val _) (Nat.le_of_ble_eq_true hb2.2)
                  have k6 := atomic_store hi (Nat.eq_of_beq_eq_true hb2.1) hw k1
                  refine ⟨_, g', w', callFunc_ext hfn (by rw [h2]; decide) hbody hn (find_store64 h2) (v := .tuple #[]) (w' := w') ?_, .val _, k3, k4, k5⟩
                  rw [storeT_eq]
                  simp [Extern.Atomic.none_, asAddr, k6, Result.andThen]
                | [], hx => have := hx.1; simp at this
                | [_], hx => have := hx.1; simp at this
                | _ :: _ :: _ :: _, hx => have := hx.1; simp at this
              · cases h
          · cases h
        · cases h
      | false =>
        rw [h2] at h
        simp only [cond_false] at h
        cases h3 : (fn.name == "sync/atomic.AddInt64") with
        | false => rw [h3] at h; cases h
        | true =>
          rw [h3] at h
          have h3 : fn.name = "sync/atomic.AddInt64" := by simpa using h3
          simp only [cond_true] at h
          split at h
          · rename_i id off k z t0 t hps
            split at h
            · rename_i x i hc hi
              cases hb2 : (Nat.beq i.size 1 && Nat.ble ro id) with
              | false => rw [hb2] at h; cases h
              | true =>
                rw [hb2] at h
                simp only [Bool.and_eq_true] at hb2
                simp only [cond_true] at h
                split at h
                · rename_i q T2 hst
                  injection h with h; injection h with e1 e2; subst e1 e2
                  match us, hx with
                  | [u, v], hx =>
                    have hp := hx.2 0 _ u rfl rfl
                    have hz := (hx.2 1 _ v rfl rfl).val_inv
                    subst hz
                    obtain ⟨a, v0, hu, hw, hv0, _⟩ := vcell_ok r hc hp
                    have hv0 := hv0.val_inv
                    subst hu hv0
                    obtain ⟨g', w', k1, _, k3, k4, k5⟩ := vstore_fix (P := P) r hst hp (.val _) (Nat.le_of_ble_eq_true hb2.2)
                    have k6 := atomic_store hi (Nat.eq_of_beq_eq_true hb2.1) hw k1
                    refine ⟨_, g', w', callFunc_ext hfn (by rw [h3]; decide) hbody hn (find_add64 h3) (v := .int .i64 (IntKind.i64.wrap (x + z))) (w' := w') ?_, .val _, k3, k4, k5⟩
                    have rd : (Extern.Atomic.read (.int .i64) a).run P w = .ok (.int .i64 x) w := by
                      simp [Extern.Atomic.read, load, Sem.run, Sem.run_bind, hw, Result.andThen]
                    rw [update_eq]
                    simp [asAddr, asInt, asIntOf, Op.intArith, Sem.run_bind, rd, k6, Result.andThen]
                  | [], hx => have := hx.1; simp at this
                  | [_], hx => have := hx.1; simp at this
                  | _ :: _ :: _ :: _, hx => have := hx.1; simp at this
                · cases h
            · cases h
          · cases h
end
end Go.Proofs.YtapfboldkkodkaaGreatDoor
