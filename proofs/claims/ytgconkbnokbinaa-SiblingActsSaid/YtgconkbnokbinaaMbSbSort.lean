/- slices.SortFunc at sites, in place. -/
import Derived.Test.YtgconkbnokbinaaSbCmp
import Derived.Test.YtgconkbnokbinaaMbSbAb2
import Derived.Test.YtgconkbnokbinaaSbSLay
import Derived.Test.YtgconkbnokbinaaMb4
namespace Go.Proofs.Ytgconkbnokbinaa
open Go.RowKit Go.Sort Go.Shelf

/-- a site of a number and a cost; A: the addresses -/
def sA (A : Int → Int) (p : Int × Int) : SiT := (p.1, A p.1, p.2)
def siCv (A : Int → Int) (p : Int × Int) : List Value := [.int .i64 p.1, .int .u32 (A p.1), .int .i64 p.2]
theorem siCv_len (A : Int → Int) (p : Int × Int) : (siCv A p).length = 3 := rfl
theorem siCv_one (A : Int → Int) (p : Int × Int) : ∀ v ∈ siCv A p, v.oneCell' = true := by
  intro v hv
  simp [siCv] at hv
  rcases hv with rfl | rfl | rfl <;> rfl
theorem siE_flat (A : Int → Int) (l : List (Int × Int)) : ((l.map (sA A)).map siE).flatten = (l.flatMap (siCv A)).map .val := by
  induction l with
  | nil => rfl
  | cons a l ih => rw [List.map_cons, List.map_cons, List.flatten_cons, ih, List.flatMap_cons, List.map_append]; rfl
/-- how two stand -/
def icZ (p q : Int × Int) : Int := orL [cmpZ p.2 q.2, cmpZ p.1 q.1]
theorem cmpZ_cases (a b : Int) : (cmpZ a b = -1 ∧ a < b) ∨ (cmpZ a b = 1 ∧ b < a) ∨ (cmpZ a b = 0 ∧ a = b) := by unfold cmpZ; split <;> (try split) <;> omega
theorem icZ_lt (p q : Int × Int) : ltOf icZ p q = true ↔ p.2 < q.2 ∨ (p.2 = q.2 ∧ p.1 < q.1) := by
  simp only [ltOf, icZ, orL]
  rcases cmpZ_cases p.2 q.2 with ⟨h1, h2⟩ | ⟨h1, h2⟩ | ⟨h1, h2⟩ <;> rcases cmpZ_cases p.1 q.1 with ⟨h3, h4⟩ | ⟨h3, h4⟩ | ⟨h3, h4⟩ <;> simp [h1, h3] <;> omega
theorem icZ_nlt (p q : Int × Int) : ltOf icZ p q = false ↔ ¬ (p.2 < q.2 ∨ (p.2 = q.2 ∧ p.1 < q.1)) := by rw [← icZ_lt]; simp
theorem ic_swo : SWO (ltOf icZ) := by
  refine ⟨fun x => ?_, fun x y z h1 h2 => ?_, fun x y z h1 h2 => ?_⟩
  · rw [icZ_nlt]; omega
  · rw [icZ_lt] at *; omega
  · rw [icZ_nlt] at *; omega
theorem ic_total (x y : Int × Int) (h1 : ltOf icZ x y = false) (h2 : ltOf icZ y x = false) : x = y := by
  rw [icZ_nlt] at h1 h2
  have : x.1 = y.1 ∧ x.2 = y.2 := by omega
  exact Prod.ext this.1 this.2
def sortI (l : List (Int × Int)) : List (Int × Int) := l.mergeSort fun x y => !(ltOf icZ) y x
theorem sortI_len (l : List (Int × Int)) : (sortI l).length = l.length := List.length_mergeSort l
theorem siLays (A : Int → Int) (blk off size : Nat) (w : World) : CmpLays Try.prog 35 #[] (siCv A) 3 icZ blk off size w :=
  fun _ _ _ _ x y => (siteCmp (sA A x) (sA A y) _).mono fun _ _ ⟨he, hg⟩ => ⟨he, hg.grow⟩
theorem ssort_vcx {G : Globs} (A : Int → Int) (l : List (Int × Int)) (hl : l.length < 4611686018427387904) : VCx Try.prog G 0 ssF [.row 3 0 0 l.length, .fn (.func 35) [] []] ⟨[.row ((l.map (sA A)).map siE).flatten], []⟩ fun x T' => x = .val (.tuple #[]) ∧ T' = ⟨[.row (((sortI l).map (sA A)).map siE).flatten], []⟩ := by
  rw [siE_flat, siE_flat]
  intro g w us r hG hx
  match us, hx.1 with
  | [u, f], _ =>
    obtain ⟨b, c, f1, f2, f3, f4, f5, rfl⟩ := (hx.2 0 _ u rfl rfl).row_inv
    obtain ⟨us, vs, rfl, h3, h4⟩ := (hx.2 1 _ f rfl rfl).fn_inv
    have e3 : us = [] := List.eq_nil_of_length_eq_zero h3.1
    have e4 : vs = [] := List.eq_nil_of_length_eq_zero h4.1
    subst e3 e4
    obtain ⟨b', q1, ⟨us, ty, q2, q3, q4, q5⟩, _⟩ := r.obj 0 _ rfl rfl
    rw [f1] at q1; injection q1 with q1; subst q1
    have hfix : ∀ (T' : VT) (w' : World), T'.objs.length = 1 → Fix 0 g ⟨[.row ((l.flatMap (siCv A)).map .val)], []⟩ w T' w' := fun T' w' h => ⟨by simp [h], fun i hi => absurd hi (Nat.not_lt_zero i), fun i o b hi => absurd hi (Nat.not_lt_zero i)⟩
    rcases Nat.eq_zero_or_pos l.length with h0 | hpos
    · have : l = [] := List.eq_nil_of_length_eq_zero h0
      subst this
      refine (AnyF.slices_SortFunc_none Try.sortSi (some ⟨b, 0 * 3, none⟩) c _ w).mono fun e w' ⟨he, hw⟩ => ?_
      subst hw
      exact ⟨.tuple #[], _, g, _, he, ⟨rfl, by simp [sortI]⟩, Evo.refl _ _, r, .val _, hfix _ _ rfl⟩
    · have hcs := csize_cells q2
      rw [List.size_toArray] at hcs
      have hul : us.length = c * 3 := by rw [← hcs, ← f5]; omega
      have htk : us.take (l.length * 3) = l.flatMap (siCv A) := by
        have hlen : ((l.flatMap (siCv A)).map TV.val).length = l.length * 3 := by rw [List.length_map, flat_len (siCv A) 3 (siCv_len A)]
        rw [hlen] at q4
        exact toVals_ok (by simp [toVal, Function.comp_def]) q4
      have hown : w.ownsRow 0 ty 3 (.slice (some ⟨b, 0, none⟩) l.toArray.size c) l.toArray.size (l.toArray.toList.flatMap (siCv A)) := by
        refine ⟨by simp [flat_len (siCv A) 3 (siCv_len A)], .inr ⟨b, c, us.toArray, by simp, Nat.zero_le _, q2, by simpa using f3, f4, by simpa using hul, ?_⟩⟩
        simpa [flat_len (siCv A) 3 (siCv_len A)] using htk
      obtain ⟨g', cap', hv, hb', hg', hH⟩ := sortK_own (siCv A) 3 (siCv_len A) l.toArray hown (by simpa using hpos)
      injection hv with p1 _ p3
      injection p1 with p1; injection p1 with p1
      subst p1 p3
      have hs : l.toArray.size < 4611686018427387904 := by simpa using hl
      have eg : ∀ args w, (callFunc 35 args).run Try.prog w = .ok (.enter 35 args) w := enters_of Try.func35 (by kernel_rfl) rfl
      have hcon := AnyQ.slices_SortFunc_total Try.sortSi 3 Try.isAgg28 Try.sizeOf28 (siCv A) (siCv_len A) (siCv_one A) icZ ic_swo 35 #[] b 0 c l.toArray w eg (siLays A b 0 _ w) hH hg' hs ic_total
      refine Calls.mono hcon fun _ _ ⟨he, n, os, hw⟩ => ?_
      obtain ⟨e1, r1⟩ := sort_row (siCv A) 3 (siCv_len A) (siCv_one A) (l := l) (l' := sortI l) (sortI_len l) r rfl f1 hw
      exact ⟨.tuple #[], _, g, _, he, ⟨rfl, rfl⟩, e1, r1, .val _, hfix _ _ rfl⟩
end Go.Proofs.Ytgconkbnokbinaa
