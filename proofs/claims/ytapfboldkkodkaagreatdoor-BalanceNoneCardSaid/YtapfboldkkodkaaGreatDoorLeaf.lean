/- What the evaluator reckons, seen from a law's row; arguments of structs, cell by cell. For any program. -/
import Derived.Test.YtapfboldkkodkaaGreatDoorVlp
import Derived.Test.YtapfboldkkodkaaGreatDoorTopG
namespace Go.Proofs.YtapfboldkkodkaaGreatDoor
open Go.ChangeShapes Go.WideShapes Go.ChangeAt Go.RowKit Go.Joins Go.Deep

/-- what the evaluator left is so: the law returns true -/
def isTrueV (x : TV) (_ : VT) : Prop := match x with
  | .val (.bool b) => cond b True False
  | _ => False
theorem VCx.top {P : Program} {ro : Nat} {f : FuncId} {xs : List TV} {us : List Value} (h : VCx P (fun _ => none) ro f xs ⟨[], []⟩ isTrueV) (w : World) (hx : VRs (topG w) w xs us) :
    Calls P f us.toArray w fun e w' => e = .returned (.bool true) ∧ Gr w w' := by
  refine (h (topG w) w us (top_rw w) (fun _ _ h => nomatch h) hx).mono ?_
  rintro e w' ⟨u, x, g', T', rfl, hq, ev, _, hv, _⟩
  unfold isTrueV at hq
  split at hq
  · rename_i b
    cases b with
    | false => exact hq.elim
    | true =>
      rw [hv.val_inv]
      exact ⟨rfl, ev.os, ev.tape, ev.output, ev.size, fun b hb => ev.frb b hb⟩
  · exact hq.elim

theorem VCx.topK {P : Program} {G : Globs} {ro : Nat} {f : FuncId} {xs : List TV} {us : List Value} (h : VCx P G ro f xs ⟨[], []⟩ isTrueV) (w : World) (hG : GOk G (topG w) w) (hx : VRs (topG w) w xs us) :
    Calls P f us.toArray w fun e w' => e = .returned (.bool true) ∧ Gr w w' := by
  refine (h (topG w) w us (top_rw w) hG hx).mono ?_
  rintro e w' ⟨u, x, g', T', rfl, hq, ev, _, hv, _⟩
  unfold isTrueV at hq
  split at hq
  · rename_i b
    cases b with
    | false => exact hq.elim
    | true =>
      rw [hv.val_inv]
      exact ⟨rfl, ev.os, ev.tape, ev.output, ev.size, fun b hb => ev.frb b hb⟩
  · exact hq.elim
/-- likewise, where package variables are known -/
def vtrueG (P : Program) (G : Globs) (f : FuncId) (xs : List TV) : Prop := vcall P G (fun _ => none) 3000 (fun _ => none) 0 f xs ⟨[], []⟩ isTrueV
theorem vtrueG_vcx {P : Program} {G : Globs} (hm : P.follows .mixedOrders = true) (hB : bodiesOk P = true) {f : FuncId} {xs : List TV} {X : Prop} (h : vtrueG P G f xs = X) (hx : X) : VCx P G 0 f xs ⟨[], []⟩ isTrueV := by
  have h1 : vtrueG P G f xs := by rw [h]; exact hx
  unfold vtrueG at h1
  exact vcall_ok hm hB specsOk_none lsOk_none h1
attribute [irreducible] vtrueG
/-- the law f returns true at xs, as far as the evaluator can tell -/
def vtrue (P : Program) (f : FuncId) (xs : List TV) : Prop := vcall P (fun _ => none) (fun _ => none) 2000 (fun _ => none) 0 f xs ⟨[], []⟩ isTrueV
theorem vtrue_vcx {P : Program} (hm : P.follows .mixedOrders = true) (hB : bodiesOk P = true) {f : FuncId} {xs : List TV} {X : Prop} (h : vtrue P f xs = X) (hx : X) : VCx P (fun _ => none) 0 f xs ⟨[], []⟩ isTrueV := by
  have h1 : vtrue P f xs := by rw [h]; exact hx
  unfold vtrue at h1
  exact vcall_ok hm hB specsOk_none lsOk_none h1
attribute [irreducible] vtrue
/-! ### Laws over a function that is known to return true (lives) -/
theorem VCx.trueOnly {P : Program} {G : Globs} {f : FuncId} {xs : List TV} (h : VCx P G 0 f xs ⟨[], []⟩ isTrueV) : VCx P G 0 f xs ⟨[], []⟩ fun x T' => x = .val (.bool true) ∧ T' = ⟨[], []⟩ := by
  refine VCx.keepQ 0 0 (Nat.le_refl _) (Nat.le_refl _) (h.mono fun x T' hx => ?_)
  unfold isTrueV at hx
  split at hx
  · rename_i b
    cases b with
    | false => exact hx.elim
    | true => exact ⟨rfl, by simp [VT.keep]⟩
  · exact hx.elim
/-- it has no arguments, and returns true -/
def trueW : Spec := fun _ ys T K => match ys with
  | [] => K (.val (.bool true)) T
  | _ :: _ => False
theorem trueW_ok {P : Program} {G : Globs} (hv : GVals G) {f : FuncId} (h : VCx P G 0 f [] ⟨[], []⟩ isTrueV) : ∀ ro ys T K, trueW ro ys T K → VCx P G ro f ys T K := by
  intro ro ys T K hk
  unfold trueW at hk
  split at hk
  · exact VCx.liftPure hv h.trueOnly rfl (fun _ _ => rfl) hk
  · exact hk.elim
def vtrueC (P : Program) (G : Globs) (C : FuncId → Option Spec) (f : FuncId) (xs : List TV) : Prop := vcall P G C 3000 (fun _ => none) 0 f xs ⟨[], []⟩ isTrueV
theorem vtrueC_vcx {P : Program} {G : Globs} {C : FuncId → Option Spec} (hm : P.follows .mixedOrders = true) (hB : bodiesOk P = true) (hC : SpecsOk P G C) {f : FuncId} {xs : List TV} {X : Prop} (h : vtrueC P G C f xs = X) (hx : X) : VCx P G 0 f xs ⟨[], []⟩ isTrueV := by
  have h1 : vtrueC P G C f xs := by rw [h]; exact hx
  unfold vtrueC at h1
  exact vcall_ok hm hB hC lsOk_none h1
attribute [irreducible] vtrueC
section
variable {H : Type} {enc : TypeId × Value → H} {P : Program} {w : World} {base : Nat} {spare : Nat → Bool} {held : Bool}
def cellTsF (P : Program) (f : TypeId → Option (List TypeId)) : Nat → List Field → Option (List TypeId)
  | _, [] => some []
  | off, fd :: r => match f fd.type with
    | some ls => bif Nat.beq fd.offset off && Nat.beq (P.cellsOf fd.type) ls.length then (cellTsF P f (off + ls.length) r).map (ls ++ ·) else none
    | none => none
/-- the types of a value's cells -/
def cellTs (P : Program) : Nat → TypeId → Option (List TypeId)
  | 0, _ => none
  | n + 1, t => match P.underlying t with
    | some (.struct fs) => cellTsF P (cellTs P n) 0 fs.toList
    | some (.array ..) => none
    | _ => some [t]
theorem cellTsF_ok {f : TypeId → Option (List TypeId)} {m : Nat} {cs : List Value}
    (hf : ∀ t ts sub x, f t = some ts → sub.length = ts.length → DataW.trod enc P w base spare held m t sub = some x → ∀ (j : Nat) t', ts[j]? = some t' → ∃ u m' y, sub[j]? = some u ∧ DataW.trod enc P w base spare held m' t' [u] = some y) :
    ∀ (l : List Field) (off : Nat) (ts : List TypeId), cellTsF P f off l = some ts → cs.length = off + ts.length → (∀ fd ∈ l, ∃ y, DataW.trod enc P w base spare held m fd.type ((cs.drop fd.offset).take (P.cellsOf fd.type)) = some y) →
      ∀ (j : Nat) t', ts[j]? = some t' → ∃ u m' y, cs[off + j]? = some u ∧ DataW.trod enc P w base spare held m' t' [u] = some y
  | [], off, ts, h, hl, hy, j, t', hj => by
    simp only [cellTsF] at h
    injection h with h; subst h
    simp at hj
  | fd :: l, off, ts, h, hl, hy, j, t', hj => by
    simp only [cellTsF] at h
    split at h
    · rename_i ls hls
      cases hb : (Nat.beq fd.offset off && Nat.beq (P.cellsOf fd.type) ls.length) with
      | false => rw [hb] at h; cases h
      | true =>
        rw [hb] at h
        simp only [Bool.and_eq_true] at hb
        have h1 := Nat.eq_of_beq_eq_true hb.1
        have h2 := Nat.eq_of_beq_eq_true hb.2
        simp only [cond_true, Option.map_eq_some_iff] at h
        obtain ⟨ts', h3, rfl⟩ := h
        rw [List.length_append] at hl
        rcases Nat.lt_or_ge j ls.length with hj' | hj'
        · rw [List.getElem?_append_left hj'] at hj
          obtain ⟨y, hy⟩ := hy fd (by simp)
          rw [h1, h2] at hy
          obtain ⟨u, m', y', k1, k2⟩ := hf _ _ _ _ hls (by rw [List.length_take, List.length_drop]; omega) hy j t' hj
          refine ⟨u, m', y', ?_, k2⟩
          rw [List.getElem?_take, if_pos hj', List.getElem?_drop] at k1
          exact k1
        · rw [List.getElem?_append_right hj'] at hj
          obtain ⟨u, m', y', k1, k2⟩ := cellTsF_ok hf l (off + ls.length) ts' h3 (by omega) (fun fd' h => hy fd' (by simp [h])) (j - ls.length) t' hj
          refine ⟨u, m', y', ?_, k2⟩
          rw [← k1]
          congr 1
          omega
    · cases h
theorem cellTs_ok : ∀ (n : Nat) (m : Nat) (t : TypeId) (ts : List TypeId) (cs : List Value) (x : DataW H × List MemPlace), cellTs P n t = some ts → cs.length = ts.length → DataW.trod enc P w base spare held m t cs = some x →
    ∀ (j : Nat) t', ts[j]? = some t' → ∃ u m' y, cs[j]? = some u ∧ DataW.trod enc P w base spare held m' t' [u] = some y
  | 0, _, _, _, _, _, h, _, _ => by simp only [cellTs] at h; cases h
  | n + 1, m, t, ts, cs, x, h, hl, ht => by
    simp only [cellTs] at h
    split at h
    · rename_i fs hs
      obtain ⟨xs, m', _, _, _, hlen, hg⟩ := DataW.trod_struct hs ht
      intro j t' hj
      have := cellTsF_ok (P := P) (enc := enc) (w := w) (base := base) (spare := spare) (held := held) (m := m') (cs := cs) (fun t ts sub x h1 h2 h3 => cellTs_ok n m' t ts sub x h1 h2 h3) fs.toList 0 ts h (by omega) ?_ j t' hj
      · simpa using this
      · intro fd hfd
        obtain ⟨i, hi, rfl⟩ := List.mem_iff_getElem.1 hfd
        have hi' : i < fs.size := by simpa using hi
        have h1 := hg i fs[i] (Array.getElem?_eq_getElem hi')
        have hx : i < xs.length := by omega
        exact ⟨xs[i], by simpa [List.getElem?_eq_getElem hx] using h1⟩
    · cases h
    · injection h with h; subst h
      intro j t' hj
      match cs, hl with
      | [u], _ =>
        have : j = 0 := by
          rcases j with _ | j
          · rfl
          · simp at hj
        subst this
        simp at hj; subst hj
        exact ⟨u, m, x, rfl, ht⟩
theorem leaf_int {m ty : Nat} {u : Value} {y : DataW H × List MemPlace} {k : IntKind} (hk : P.underlying ty = some (.int k)) (h : DataW.trod enc P w base spare held m ty [u] = some y) : ∃ n, u = .int k n ∧ (Lit.int k n).wf = true := by
  obtain ⟨n, e0, _, wn⟩ := DataW.trod_int hk h
  injection e0 with e0
  exact ⟨n, e0, wn⟩
end
end Go.Proofs.YtapfboldkkodkaaGreatDoor
