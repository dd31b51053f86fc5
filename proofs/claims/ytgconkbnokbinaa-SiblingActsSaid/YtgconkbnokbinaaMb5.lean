/- Texts of this proof, part 5. -/
import Derived.Test.YtgconkbnokbinaaMb1
import Derived.Test.YtgconkbnokbinaaMb2
import Derived.Test.YtgconkbnokbinaaMb3
import Derived.Test.YtgconkbnokbinaaMb4
/- What is known of an object, put in other words; a slice that an object holds is frozen. For any program. -/
namespace Go.Proofs.Ytgconkbnokbinaa
open Go.RowKit

section
variable {P : Program} {G : Globs} {g : Gh} {T : VT} {w : World}
theorem RW.objLeAt (r : RW g T w) {i : Nat} {o o' : VO} (hi : T.objs[i]? = some o) (hl : o.live = true) (_hl' : o'.live = true) (ho : ∀ b, g.obj i = some b → OR g w b o → OR g w b o') : RW g { T with objs := T.objs.set i o' } w := by
  have hil : i < T.objs.length := (List.getElem?_eq_some_iff.1 hi).1
  have at' : ∀ (j : Nat) oj, (T.objs.set i o')[j]? = some oj → oj.live = true → ∃ o2, T.objs[j]? = some o2 ∧ o2.live = true ∧ ∀ b, g.obj j = some b → OR g w b o2 → OR g w b oj := fun j oj h hlj => by
    rw [List.getElem?_set] at h
    split at h
    · rename_i hij; subst hij
      injection h with h; subst h
      exact ⟨o, hi, hl, ho⟩
    · exact ⟨oj, h, hlj, fun _ _ h => h⟩
  exact {
    obj := fun id oj h hlj => by
      obtain ⟨o2, h1, h2, h3⟩ := at' id oj h hlj
      obtain ⟨b, h4, h5, h6⟩ := r.obj id o2 h1 h2
      exact ⟨b, h4, h3 b h4 h5, h6⟩
    inj := fun i j oi oj b hi li hj lj => by
      obtain ⟨o2, h1, h2, _⟩ := at' i oi hi li
      obtain ⟨o3, h3, h4, _⟩ := at' j oj hj lj
      exact r.inj i j o2 o3 b h1 h2 h3 h4
    out := fun id h => r.out id (by simpa using h)
    st := r.st
    fr := r.fr
    tl := r.tl
    tout := r.tout
    tinj := r.tinj
    tobj := fun i oi b k x hi li => by
      obtain ⟨o2, h1, h2, _⟩ := at' i oi hi li
      exact r.tobj i o2 b k x h1 h2
    own := r.own
    own0 := r.own0
    tlo := r.tlo }
theorem RW.objLe (r : RW g T w) {i : Nat} {o o' : VO} (hi : T.objs[i]? = some o) (hl : o.live = true) (hl' : o'.live = true) (ho : ∀ b, OR g w b o → OR g w b o') : RW g { T with objs := T.objs.set i o' } w := r.objLeAt hi hl hl' fun b _ h => ho b h
theorem vrs_le {cs cs' : List TV} {us : List Value} (hl : cs'.length = cs.length) (h : ∀ (j : Nat) x x' u, cs[j]? = some x → cs'[j]? = some x' → VR g w x u → VR g w x' u) (hv : VRs g w cs us) : VRs g w cs' us :=
  ⟨by rw [hl]; exact hv.1, fun j x' u hx hu => by
    have hj := (List.getElem?_eq_some_iff.1 hx).1
    exact h j _ x' u (List.getElem?_eq_getElem (by omega)) hx (hv.2 j _ u (List.getElem?_eq_getElem (by omega)) hu)⟩
/-- a nil slice, as one without elements -/
theorem vr_nil_vec {size : Nat} {u : Value} (h : VR g w (.val (.slice none 0 0)) u) : VR g w (.vec size [] .none) u := by
  rw [h.val_inv]; exact .nil trivial
/-- an object's cell that is nil, as a slice without elements -/
theorem VCx.nilCell {f : FuncId} {xs : List TV} {i size : Nat} {Q : TV → VT → Prop} (hi : T.objs[i]? = some (.cells [.val (.slice none 0 0)])) (h : VCx P G 0 f xs { T with objs := T.objs.set i (.cells [.vec size [] .none]) } Q) : VCx P G 0 f xs T Q := by
  intro g w us r hG hx
  have r' := r.objLe hi rfl (o' := .cells [.vec size [] .none]) rfl fun b ⟨us, t, h1, h2, h3⟩ => ⟨us, t, h1, vrs_le (cs := [.val (.slice none 0 0)]) (cs' := [.vec size [] .none]) rfl (fun j x x' u hx hx' hv => by
    cases j with
    | zero => simp at hx hx'; subst hx hx'; exact vr_nil_vec hv
    | succ j => simp at hx) h2, h3⟩
  refine Calls.mono (h g w us r' hG hx) ?_
  rintro e w' ⟨v, x, g', T', he, hq, e', r2, hv, hfx⟩
  refine ⟨v, x, g', T', he, hq, e', r2, hv, ⟨?_, fun i hi => absurd hi (Nat.not_lt_zero i), fun i o b hi => absurd hi (Nat.not_lt_zero i)⟩⟩
  have := hfx.len
  simpa using this
theorem VWx.nilCell {c : Code} {σ : List TV} {D : List Nat} {i size : Nat} {Q : KX} (hi : T.objs[i]? = some (.cells [.val (.slice none 0 0)])) (h : VWx P G none 0 c σ { T with objs := T.objs.set i (.cells [.vec size [] .none]) } D Q) : VWx P G none 0 c σ T D Q := by
  intro r g w a rw0 hG hσ hd hD hr
  have r' := rw0.objLe hi rfl (o' := .cells [.vec size [] .none]) rfl fun b ⟨us, t, h1, h2, h3⟩ => ⟨us, t, h1, vrs_le (cs := [.val (.slice none 0 0)]) (cs' := [.vec size [] .none]) rfl (fun j x x' u hx hx' hv => by
    cases j with
    | zero => simp at hx hx'; subst hx hx'; exact vr_nil_vec hv
    | succ j => simp at hx) h2, h3⟩
  refine wpIn_mono (h r g w a r' hG hσ hd hD hr) ?_
  rintro e a' w' ⟨g', σ', T', D', hq, e', r2, hσ', hd', hD', hfx⟩
  refine ⟨g', σ', T', D', hq, e', r2, hσ', hd', hD', ⟨?_, fun i hi => absurd hi (Nat.not_lt_zero i), fun i o b hi => absurd hi (Nat.not_lt_zero i)⟩⟩
  have := hfx.len
  simpa using this
/-- a function that leaves an object whose one cell is a row: the row is frozen -/
theorem VCx.freezeCell {f : FuncId} {xs : List TV} {T : VT} {Q : TV → VT → Prop} {i size : Nat} {es : List (List TV)} (h : VCx P G 0 f xs T fun x T' => ∃ id off n, T'.objs[i]? = some (.cells [.row size id off n]) ∧ rowsR T' size (.row size id off n) = some es ∧ Q x { (T'.kill id) with objs := (T'.kill id).objs.set i (.cells [.vec size es .none]) }) :
    VCx P G 0 f xs T Q := by
  intro g w us rw0 hG hx
  refine Calls.mono (h g w us rw0 hG hx) ?_
  rintro e w' ⟨v, x, g', T', he, ⟨id, off, n, h1, h2, hq⟩, e', r', hv, hfx⟩
  obtain ⟨b, h3, ⟨vs, t, h4, h5, h6⟩, h7⟩ := r'.obj i _ h1 rfl
  obtain ⟨u, hu, hvu⟩ := h5.at (j := 0) rfl
  obtain ⟨g2, e2, r2, v2⟩ := row_freeze r' h2 hvu
  have hne : id ≠ i := by
    rintro rfl
    simp only [rowsR, h1] at h2
    cases h2
  have hi2 : (T'.kill id).objs[i]? = some (.cells [.row size id off n]) := by
    simp only [VT.kill, List.getElem?_set]
    rw [if_neg hne]; exact h1
  have hus : vs = [u] := by
    match vs, h5.1, hu with
    | [a], _, hu => simp at hu; rw [hu]
  have hin : ∀ b', g2.obj i = some b' → b' = b := fun b' hb' => by
    have := e2.obj i b h3
    rw [this] at hb'; injection hb' with hb'; exact hb'.symm
  have r3 : RW g2 { (T'.kill id) with objs := (T'.kill id).objs.set i (.cells [.vec size es .none]) } w' := by
    -- the object's block is known: its cell is u
    have key : ∀ b', g2.obj i = some b' → OR g2 w' b' (.cells [.row size id off n]) → OR g2 w' b' (.cells [.vec size es .none]) := fun b' hb' ⟨us', t', k1, k2, k3⟩ => by
      rw [hin b' hb', h4] at k1
      injection k1 with k1; injection k1 with k1
      have : us' = vs := by have := congrArg Array.toList k1; simpa using this.symm
      subst this
      refine ⟨us', t', by rw [hin b' hb', h4, ← k1]; simp_all, ?_, k3⟩
      rw [hus]
      exact VRs.cons v2 (VRs.nil _ _)
    exact r2.objLeAt hi2 rfl rfl key
  refine ⟨v, x, g2, _, he, hq, e'.trans e2, r3, hv.mono e2, ⟨?_, fun i hi => absurd hi (Nat.not_lt_zero i), fun i o b hi => absurd hi (Nat.not_lt_zero i)⟩⟩
  have := hfx.len
  simp only [VT.kill, List.length_set]; exact this
end
end Go.Proofs.Ytgconkbnokbinaa
