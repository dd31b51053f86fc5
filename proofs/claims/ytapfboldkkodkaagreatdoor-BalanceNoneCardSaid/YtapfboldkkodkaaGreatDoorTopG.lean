/- A law on values, seen from its row; arguments whose fields are all numbers. -/
import Derived.Test.YtapfboldkkodkaaGreatDoorValB2
import Derived.ProofKit
import Derived.OpenShut
import Derived.Lib.SmallJoins
namespace Go.Proofs.YtapfboldkkodkaaGreatDoor
open Go.ChangeShapes Go.WideShapes Go.ChangeAt Go.RowKit Go.Joins Go.Deep

/-- all that is there stays -/
def topG (w : World) : Gh := ⟨fun _ => none, fun b o => (w.cell? ⟨b, o, none⟩).isSome = true, fun b => b < w.heap.size, fun _ => none⟩
theorem top_rw (w : World) : RW (topG w) ⟨[], []⟩ w := by
  refine ⟨(fun id o h => by simp at h), (fun i j oi oj b h => by simp at h), (fun _ _ => rfl), (fun _ _ h => h), (fun _ h => h), (fun k p h => by simp at h), (fun _ _ => rfl), (fun i j x y b h => nomatch h), (fun i oi b k x h => by simp at h), (fun k x h => nomatch h), (fun k x h => nomatch h), (fun k x h => nomatch h)⟩
theorem VCalls.top {P : Program} {f : FuncId} {xs : List TV} {us : List Value} {v : Value} (h : VCalls P f xs ⟨[], []⟩ fun x T' => x = .val v ∧ T' = ⟨[], []⟩) (w : World) (hx : VRs (topG w) w xs us) :
    Calls P f us.toArray w fun e w' => e = .returned v ∧ Gr w w' := by
  refine (h (topG w) w us (top_rw w) hx).mono ?_
  rintro e w' ⟨u, x, g', T', rfl, ⟨rfl, rfl⟩, ev, _, hv⟩
  rw [hv.val_inv]
  exact ⟨rfl, ev.os, ev.tape, ev.output, ev.size, fun b hb => ev.frb b hb⟩
theorem valsOf_inv : ∀ {cs : List TV} {vs : List Value}, valsOf cs = some vs → cs = vs.map .val
  | [], vs, h => by simp [valsOf] at h; subst h; rfl
  | c :: r, vs, h => by
    cases c <;> simp [valsOf] at h
    obtain ⟨vs', h1, rfl⟩ := h
    rw [valsOf_inv h1]; rfl
theorem vr_of_toVal {g : Gh} {w : World} {x : TV} {v : Value} (h : toVal x = some v) : VR g w x v := by
  cases x <;> simp [toVal] at h
  · subst h; exact .val _
  · obtain ⟨vs, h1, rfl⟩ := h
    rw [valsOf_inv h1]
    exact .mk_agg (VRs.vals g w vs)
theorem vrs_of_toVal {g : Gh} {w : World} : ∀ {xs : List TV} {us : List Value}, xs.map toVal = us.map some → VRs g w xs us
  | [], [], _ => VRs.nil g w
  | [], _ :: _, h => by simp at h
  | _ :: _, [], h => by simp at h
  | x :: xs, u :: us, h => by
    simp only [List.map_cons, List.cons.injEq] at h
    exact .cons (vr_of_toVal h.1) (vrs_of_toVal h.2)

section
variable {H : Type} {enc : TypeId × Value → H} {P : Program} {w : World} {base : Nat} {spare : Nat → Bool} {held : Bool}
theorem part_int {m j ty : Nat} {cs : List Value} {y : DataW H × List MemPlace} {k : IntKind} (hk : P.underlying ty = some (.int k)) (h : DataW.trod enc P w base spare held m ty ((cs.drop j).take 1) = some y) :
    ∃ n, cs[j]? = some (.int k n) ∧ (Lit.int k n).wf = true := by
  obtain ⟨n, e0, _, wn⟩ := DataW.trod_int hk h
  refine ⟨n, ?_, wn⟩
  have := congrArg (fun l : List Value => l[0]?) e0
  simpa using this
/-- a struct of numbers, field by field -/
theorem fields_int {m t : Nat} {fs : Array Field} {cs : List Value} {x : DataW H × List MemPlace} (hs : P.underlying t = some (.struct fs)) (hone : oneCellFields P fs = true) (h : DataW.trod enc P w base spare held m t cs = some x) {j : Nat} {f : Field} {k : IntKind} (hj : fs[j]? = some f) (hk : P.underlying f.type = some (.int k)) :
    ∃ n, cs[j]? = some (.int k n) ∧ (Lit.int k n).wf = true := by
  obtain ⟨xs, n, _, _, _, hlen, hg⟩ := DataW.trod_struct hs h
  obtain ⟨o, c⟩ := hone_of hone j f hj
  have h1 := hg j f hj
  rw [o, c] at h1
  have hjl : j < xs.length := by have := (Array.getElem?_eq_some_iff.1 hj).1; omega
  rw [List.getElem?_eq_getElem hjl] at h1
  exact part_int hk h1
theorem elems_int {m t n e : Nat} {cs : List Value} {x : DataW H × List MemPlace} (hs : P.underlying t = some (.array n e)) (hc : P.cellsOf e = 1) (h : DataW.trod enc P w base spare held m t cs = some x) {j : Nat} {k : IntKind} (hj : j < n) (hk : P.underlying e = some (.int k)) :
    ∃ z, cs[j]? = some (.int k z) ∧ (Lit.int k z).wf = true := by
  obtain ⟨xs, m', _, _, _, hlen, hg⟩ := DataW.trod_array hs h
  have h1 := hg j hj
  rw [hc, Nat.mul_one] at h1
  rw [List.getElem?_eq_getElem (by omega)] at h1
  exact part_int hk h1
end
end Go.Proofs.YtapfboldkkodkaaGreatDoor
