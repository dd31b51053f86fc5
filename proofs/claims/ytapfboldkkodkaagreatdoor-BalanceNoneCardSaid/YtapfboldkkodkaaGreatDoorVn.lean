/- More operations on what a walk knows: slices of the function's own, maps, equality, bytes and strings. For any program. -/
import Derived.Test.YtapfboldkkodkaaGreatDoorVr
import Derived.Laws.BytesString
import Derived.Laws.BytesArg
namespace Go.Proofs.YtapfboldkkodkaaGreatDoor
open Go.RowKit

section
variable {P : Program} {g : Gh} {T : VT} {w : World}
/-! ### That look at no memory -/
/-- [n]T(s)'s address -/
def varrAt (P : Program) (t : TypeId) (x : TV) : Option TV := match P.underlying t, x with
  | some (.array n _), .vec _ (e :: es) _ => bif Nat.ble n (es.length + 1) then some (.elt (e :: es).flatten) else none
  | some (.array n _), .row size id off m => bif Nat.ble n m then some (.ptr id (off * size)) else none
  | _, _ => none
theorem varrAt_ok {g : Gh} {w : World} {t : TypeId} {x y : TV} {u : Value} (h : varrAt P t x = some y) (hx : VR g w x u) : Looks0 P g w (Instr.arrayAt t u) y := by
  unfold varrAt at h
  split at h
  · rename_i n k sz e es tok hu
    cases hb : Nat.ble n (es.length + 1) with
    | false => rw [hb] at h; cases h
    | true =>
      rw [hb] at h
      have hb := Nat.le_of_ble_eq_true hb
      injection h with h; subst h
      rcases hx.vec_inv with ⟨_, h2, _⟩ | ⟨b, o, c, us, rfl, f1, f2, f3, f4, f5, f6, f7, f8⟩
      · cases h2
      · refine .of_ok (.mk_elt f5 f6 f7 f8) fun w' => ?_
        have : ¬ (es.length + 1 < n) := by omega
        simp [Instr.arrayAt, run_underlying hu, this]
  · rename_i n k sz id off m hu
    cases hb : Nat.ble n m with
    | false => rw [hb] at h; cases h
    | true =>
      rw [hb] at h
      have hb := Nat.le_of_ble_eq_true hb
      injection h with h; subst h
      obtain ⟨b, c, k1, k2, k3, k4, k5, rfl⟩ := hx.row_inv
      refine .of_ok (.ptr k1) fun w' => ?_
      have : ¬ (m < n) := by omega
      simp [Instr.arrayAt, run_underlying hu, this]
  · cases h
def vindexG (P : Program) (t : TypeId) (x i : TV) : Option TV := match P.underlying t, i, x with
  | some (.array n e), .val (.int _ z), .agg cs => match P.info? e with
    | some inf => bif decide (0 ≤ z) && decide (z < n) then vpart P e cs (z.toNat * inf.size) else none
    | none => none
  | _, _, _ => none
theorem vindexG_ok {g : Gh} {w : World} {t : TypeId} {x i y : TV} {u v : Value} (h : vindexG P t x i = some y) (hx : VR g w x u) (hi : VR g w i v) : Looks0 P g w (Instr.index t u v) y := by
  unfold vindexG at h
  split at h
  · rename_i n e k z cs hu
    split at h
    · rename_i inf hinf
      cases hb : (decide (0 ≤ z) && decide (z < n)) with
      | false => rw [hb] at h; cases h
      | true =>
        rw [hb] at h
        simp only [Bool.and_eq_true, decide_eq_true_eq] at hb
        rw [hi.val_inv]
        obtain ⟨us, rfl, h1⟩ := hx.agg_inv
        obtain ⟨v', h2, h3⟩ := vpart_ok (P := P) h h1
        exact ⟨v', h2, fun w' => by simp [Instr.index, asIntOf, run_underlying hu, hb.1, hb.2, run_size hinf, h3 w']⟩
    · cases h
  · cases h
def vindexR (P : Program) (t : TypeId) (x i : TV) : Option TV := match i, x with
  | .val (.int _ z), .row size id off n => match P.underlying t with
    | some (.slice e) => match P.info? e with
      | some inf => bif Nat.beq inf.size size && decide (0 ≤ z) && decide (z < n) then some (.ptr id (off * size + z.toNat * size)) else none
      | none => none
    | _ => none
  | _, _ => none
theorem vindexR_ok {t : TypeId} {x i y : TV} {u v : Value} (h : vindexR P t x i = some y) (hx : VR g w x u) (hi : VR g w i v) : Looks0 P g w (Instr.indexAt t u v) y := by
  unfold vindexR at h
  split at h
  · rename_i k z size id off n
    rw [hi.val_inv]
    split at h
    · rename_i e hu
      split at h
      · rename_i inf hinf
        cases hb : (Nat.beq inf.size size && decide (0 ≤ z) && decide (z < n)) with
        | false => rw [hb] at h; cases h
        | true =>
          rw [hb] at h
          simp only [Bool.and_eq_true, decide_eq_true_eq] at hb
          obtain ⟨⟨hs, h0⟩, h1⟩ := hb
          have hs := Nat.eq_of_beq_eq_true hs
          injection h with h; subst h
          obtain ⟨b, c, h2, h3, h4, h5, h6, rfl⟩ := hx.row_inv
          exact .of_ok (.ptr h2) fun w' => by simp [Instr.indexAt, asIntOf, run_underlying hu, h0, h1, run_size hinf, Addr.add_none, hs]
      · cases h
    · cases h
  · cases h
/-- equality, as one Bool -/
def eqRes (op : BinOp) (b : Bool) : Bool := match op with
  | .eql => b
  | _ => !b
def isEq : BinOp → Bool
  | .eql | .neq => true
  | _ => false
def vEq (P : Program) (op : BinOp) (t : TypeId) (x y : TV) : Option TV := bif isEq op then (match toVal x with
  | some a => match toVal y with
    | some b => match shapeOf P t with
      | some s => bif s.fits a && s.fits b then some (.val (.bool (eqRes op (keyEq a b)))) else none
      | none => none
    | none => none
  | none => none) else none
theorem shape_noguard {t : TypeId} {s : KS} (h : shapeOf P t = some s) {op : BinOp} {xo yo : Operand} {a b : Value} (ha : s.fits a = true) (hb : s.fits b = true) (w : World) : (eqGuard op t xo yo a b).run P w = .ok () w := by
  obtain ⟨xs, cx, fx⟩ := fits_cells ha
  obtain ⟨ys, cy, fy⟩ := fits_cells hb
  have ok := shapeAt_ok (P := P) 6 t s h
  cases hs : s.agg with
  | true =>
    rw [agg_of_cells hs cx, agg_of_cells hs cy]
    have hg := ok.guard hs
    cases op <;> simp [eqGuard, hg]
  | false =>
    have ha' : ∀ cs, a ≠ .agg cs := fun cs h => by subst h; simp [KS.cells, hs] at cx
    have hn : a ≠ .nilIface := fun h => by
      subst h
      obtain ⟨c, hc⟩ := ok.one hs
      simp [KS.cells, hs] at cx; subst cx
      rw [hc] at fx; cases c <;> simp [fitAll, CK.fit] at fx
    unfold eqGuard
    cases op <;> cases a <;> simp_all []
theorem vEq_ok {op : BinOp} {t : TypeId} {xo yo : Operand} {x y r : TV} {u v : Value} (h : vEq P op t x y = some r) (hx : VR g w x u) (hy : VR g w y v) :
    Looks0 P g w (do eqGuard op t xo yo u v; binOp op t u v) r := by
  have key : ∀ s, shapeOf P t = some s → s.fits u = true → s.fits v = true → (op = .eql ∨ op = .neq) →
      Looks0 P g w (do eqGuard op t xo yo u v; binOp op t u v) (.val (.bool (eqRes op (keyEq u v)))) := by
    clear h hx hy
    intro s h3 h4 h5 h6
    refine .of_ok (.val _) fun w' => ?_
    have hg := shape_noguard h3 (op := op) (xo := xo) (yo := yo) h4 h5 w'
    have he := shape_equal h3 h4 h5 w'
    have hb : (binOp op t u v).run P w' = .ok (.bool (eqRes op (keyEq u v))) w' := by
      obtain ⟨xs, cx, fx⟩ := fits_cells h4
      obtain ⟨ys, cy, fy⟩ := fits_cells h5
      have ok := shapeAt_ok (P := P) 6 t s h3
      cases hs : s.agg with
      | true =>
        rw [agg_of_cells hs cx, agg_of_cells hs cy] at he ⊢
        rcases h6 with rfl | rfl <;> simp [binOp, he, eqRes]
      | false =>
        obtain ⟨c, hc⟩ := ok.one hs
        have fx1 : ∃ x1, xs = [x1] ∧ c.fit x1 = true := by
          rw [hc] at fx
          match xs, fx with
          | [x1], fx => simp [fitAll] at fx; exact ⟨x1, rfl, fx⟩
          | [], fx => simp [fitAll] at fx
          | _ :: _ :: _, fx => simp [fitAll] at fx
        have fy1 : ∃ y1, ys = [y1] ∧ c.fit y1 = true := by
          rw [hc] at fy
          match ys, fy with
          | [y1], fy => simp [fitAll] at fy; exact ⟨y1, rfl, fy⟩
          | [], fy => simp [fitAll] at fy
          | _ :: _ :: _, fy => simp [fitAll] at fy
        obtain ⟨x1, rfl, gx⟩ := fx1
        obtain ⟨y1, rfl, gy⟩ := fy1
        have eu : u = x1 := by cases u <;> simp [KS.cells, hs] at cx <;> exact cx
        have ev : v = y1 := by cases v <;> simp [KS.cells, hs] at cy <;> exact cy
        subst eu ev
        cases c with
        | int k =>
          cases u <;> simp [CK.fit] at gx
          cases v <;> simp [CK.fit] at gy
          subst gx gy
          rcases h6 with rfl | rfl <;> simp [binOp, Op.intCmp, keyEq, cellEq, bne, eqRes]
        | bool =>
          cases u <;> simp [CK.fit] at gx
          cases v <;> simp [CK.fit] at gy
          rcases h6 with rfl | rfl <;> simp [binOp, he, eqRes]
        | str =>
          cases u <;> simp [CK.fit] at gx
          cases v <;> simp [CK.fit] at gy
          rcases h6 with rfl | rfl <;> simp [binOp, Op.stringOp, keyEq, cellEq, eqRes, beq_toListBytes]
    simp only [Sem.run_bind, hg, Result.andThen_ok, hb]
  unfold vEq at h
  cases ho : isEq op with
  | false => rw [ho] at h; cases h
  | true =>
    rw [ho] at h
    simp only [cond_true] at h
    have h6 : op = .eql ∨ op = .neq := by cases op <;> simp [isEq] at ho <;> simp
    cases h1 : toVal x with
    | none => rw [h1] at h; cases h
    | some a =>
      cases h2 : toVal y with
      | none => rw [h1, h2] at h; cases h
      | some b =>
        cases h3 : shapeOf P t with
        | none => rw [h1, h2, h3] at h; cases h
        | some s =>
          rw [h1, h2, h3] at h
          simp only at h
          have e1 := toVal_ok h1 hx
          have e2 := toVal_ok h2 hy
          subst e1 e2
          cases hb : (s.fits u && s.fits v) with
          | false => rw [hb] at h; cases h
          | true =>
            rw [hb] at h
            simp only [Bool.and_eq_true] at hb
            injection h with h; subst h
            exact key s h3 hb.1 hb.2 h6
end
end Go.Proofs.YtapfboldkkodkaaGreatDoor
