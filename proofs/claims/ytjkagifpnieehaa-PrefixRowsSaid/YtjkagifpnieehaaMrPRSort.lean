/- slices.SortFunc at prefixes, in place. -/
import Derived.Test.YtjkagifpnieehaaMrPRLaw
import Derived.Test.YtjkagifpnieehaaPRLays
namespace Go.Proofs.Ytjkagifpnieehaa
open Go.RowKit Go.Sort Go.Shelf

abbrev psF := 13
theorem pxLays (blk off size : Nat) (w : World) : CmpLays Try.prog 14 #[] pxC 2 pxZ blk off size w :=
  fun _ _ _ _ x y => (psortCmp x y _).mono fun _ _ ⟨he, hg⟩ => ⟨he, hg.grow⟩
theorem psort_vcx {G : Globs} (l : List Px) (hl : l.length < 4611686018427387904) : VCx Try.prog G 0 psF [.row 2 0 0 l.length, .fn (.func 14) [] []] ⟨[.row (l.map pxE).flatten], []⟩ fun x T' => x = .val (.tuple #[]) ∧ T' = ⟨[.row ((sortP l).map pxE).flatten], []⟩ := by
  rw [pxE_flat, pxE_flat]
  intro g w us r hG hx
  match us, hx.1 with
  | [u, f], _ =>
    obtain ⟨b, c, f1, f2, f3, f4, f5, rfl⟩ := (hx.2 0 _ u rfl rfl).row_inv
    obtain ⟨us, vs, rfl, h3, h4⟩ := (hx.2 1 _ f rfl rfl).fn_inv
    have e3 : us = [] := List.eq_nil_of_length_eq_zero h3.1
    have e4 : vs = [] := List.eq_nil_of_length_eq_zero h4.1
    subst e3 e4
    obtain ⟨b', q1, ⟨us, ty, q2, q3, q4, q5⟩, _⟩ := r.obj 0 _ rfl rfl
    rw [f1] at q1; injection q1 with q1; subst q1
    have hfix : ∀ (T' : VT) (w' : World), T'.objs.length = 1 → Fix 0 g ⟨[.row ((l.flatMap pxC).map .val)], []⟩ w T' w' := fun T' w' h => ⟨by simp [h], fun i hi => absurd hi (Nat.not_lt_zero i), fun i o b hi => absurd hi (Nat.not_lt_zero i)⟩
    rcases Nat.eq_zero_or_pos l.length with h0 | hpos
    · have : l = [] := List.eq_nil_of_length_eq_zero h0
      subst this
      refine (AnyF.slices_SortFunc_none Try.sortPx (some ⟨b, 0 * 2, none⟩) c _ w).mono fun e w' ⟨he, hw⟩ => ?_
      subst hw
      exact ⟨.tuple #[], _, g, _, he, ⟨rfl, by simp [sortP]⟩, Evo.refl _ _, r, .val _, hfix _ _ rfl⟩
    · have hcs := csize_cells q2
      rw [List.size_toArray] at hcs
      have hul : us.length = c * 2 := by rw [← hcs, ← f5]; omega
      have htk : us.take (l.length * 2) = l.flatMap pxC := by
        have hlen : ((l.flatMap pxC).map TV.val).length = l.length * 2 := by rw [List.length_map, flat_len pxC 2 pxC_len]
        rw [hlen] at q4
        exact toVals_ok (by simp [toVal, Function.comp_def]) q4
      have hown : w.ownsRow 0 ty 2 (.slice (some ⟨b, 0, none⟩) l.toArray.size c) l.toArray.size (l.toArray.toList.flatMap pxC) := by
        refine ⟨by simp [flat_len pxC 2 pxC_len], .inr ⟨b, c, us.toArray, by simp, Nat.zero_le _, q2, by simpa using f3, f4, by simpa using hul, ?_⟩⟩
        simpa [flat_len pxC 2 pxC_len] using htk
      obtain ⟨g', cap', hv, hb', hg', hH⟩ := sortK_own pxC 2 pxC_len l.toArray hown (by simpa using hpos)
      injection hv with p1 _ p3
      injection p1 with p1; injection p1 with p1
      subst p1 p3
      have hs : l.toArray.size < 4611686018427387904 := by simpa using hl
      have eg : ∀ args w, (callFunc 14 args).run Try.prog w = .ok (.enter 14 args) w := enters_of Try.func14 (by kernel_rfl) rfl
      have hcon := AnyQ.slices_SortFunc_total Try.sortPx 2 Try.isAgg32 Try.sizeOf32 pxC pxC_len pxC_one pxZ px_swo 14 #[] b 0 c l.toArray w eg (pxLays b 0 _ w) hH hg' hs px_total
      refine Calls.mono hcon fun _ _ ⟨he, n, os, hw⟩ => ?_
      obtain ⟨e1, r1⟩ := sort_row pxC 2 pxC_len pxC_one (l := l) (l' := sortP l) (sortP_len l) r rfl f1 hw
      exact ⟨.tuple #[], _, g, _, he, ⟨rfl, rfl⟩, e1, r1, .val _, hfix _ _ rfl⟩
end Go.Proofs.Ytjkagifpnieehaa
