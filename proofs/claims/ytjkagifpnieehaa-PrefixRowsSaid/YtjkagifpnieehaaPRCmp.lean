/- How two prefixes stand, as the sort asks it. -/
import Derived.Test.YtjkagifpnieehaaPfx2
import Derived.Test.YtjkagifpnieehaaGd
namespace Go.Proofs.Ytjkagifpnieehaa
open Go.RowKit

set_option maxHeartbeats 400000 in
theorem pcmpD (a n b m : Int) (w : World) :
    Calls Try.prog 15 #[.agg #[.int .u32 a, .int .i64 n], .agg #[.int .u32 b, .int .i64 m]] w fun e w' => e = .returned (.int .i64 (pcmpZ a n b m)) ∧ Gd w w' := by
  have d0 := has_mono ((Gr.refl _).alloc (.cells #[.int .u32 b, .int .i64 m] 32)) (has_new w [.int .u32 a, .int .i64 n] 32 0 _ rfl)
  have d1 := has_mono ((Gr.refl _).alloc (.cells #[.int .u32 b, .int .i64 m] 32)) (has_new w [.int .u32 a, .int .i64 n] 32 1 _ rfl)
  have d2 := has_new (w.alloc (.cells #[.int .u32 a, .int .i64 n] 32)) [.int .u32 b, .int .i64 m] 32 0 _ rfl
  have d3 := has_new (w.alloc (.cells #[.int .u32 a, .int .i64 n] 32)) [.int .u32 b, .int .i64 m] 32 1 _ rfl
  have gw := ((Gr.refl w).alloc (.cells #[.int .u32 a, .int .i64 n] 32)).alloc (.cells #[.int .u32 b, .int .i64 m] 32)
  simp only [World.size_alloc] at d2 d3
  go_enter Try.func15, Try.ntmps15
  go_wp2_with fail
  have hd : ((w.alloc (.cells #[.int .u32 a, .int .i64 n] 32)).alloc (.cells #[.int .u32 b, .int .i64 m] 32)).drawn = w.drawn := rfl
  generalize (w.alloc (.cells #[.int .u32 a, .int .i64 n] 32)).alloc (.cells #[.int .u32 b, .int .i64 m] 32) = W at *
  replace gw : Gd w W := ⟨gw, by omega⟩
  replace d0 := fun w' (k : Gd W w') => d0 w' k.1
  replace d1 := fun w' (k : Gd W w') => d1 w' k.1
  replace d2 := fun w' (k : Gd W w') => d2 w' k.1
  replace d3 := fun w' (k : Gd W w') => d3 w' k.1
  have hS0 := (Gd.refl W).drew
  refine wp_region_plan [(0, true), (1, true), (2, true), (3, true), (5, true), (6, true), (7, true), (8, true), (4, false), (9, false), (10, false), (11, false), (12, true)] (Gd W) (by kernel_rfl) (by kernel_rfl) hS0 ?_
  simp only [planOps, List.getElem?_toArray, List.getElem?_cons_zero, List.getElem?_cons_succ]
  repeat (first
    | (refine wpPlan_skip (by rfl) ?_; (try simp only [Act.put, List.setIfInBounds_toArray, List.set_cons_zero, List.set_cons_succ]))
    | (refine wpPlan_take (by rfl) ?_; apply Exists.intro; refine ⟨fun w' hSw => ?_, ?_⟩; (focus ((try dsimp only at hSw); go_simp; first | done | with_reducible rfl)); (try simp only [Act.put, List.setIfInBounds_toArray, List.set_cons_zero, List.set_cons_succ]))
    | (refine wpPlan_do (by rfl) (fun K hK => ?_); go_simp; (first | (go_at_call 26; refine (ccmp32 _ _ _).mono ?_; rintro e w2 ⟨rfl, rfl⟩) | (go_at_call 27; refine (ccmpI _ _ _).mono ?_; rintro e w2 ⟨rfl, rfl⟩) | (go_at_call 25; refine (cor [cmpZ a b, cmpZ n m] _ _ 0 (by simp) ?_).mono ?_; (focus (intro j hj; simp at hj; obtain rfl | rfl : j = 0 ∨ j = 1 := (by omega)) <;> simp); rintro e w2 ⟨rfl, rfl⟩)); refine hK _ _ (by first | exact Gd.alloc (by assumption) _ | assumption) (fun hSn => ?_); clear hK K; (try simp only [Act.put, List.setIfInBounds_toArray, List.set_cons_zero, List.set_cons_succ]))
    | (refine wpPlan_do (by rfl) (fun K hK => ?_); go_simp; refine hK _ _ (by first | exact Gd.alloc (by assumption) _ | assumption) (fun hSn => ?_); clear hK K; (try simp only [Act.put, List.setIfInBounds_toArray, List.set_cons_zero, List.set_cons_succ])))
  refine wpPlan_nil ?_
  go_wp2
  go_ret
  exact ⟨rfl, gw.trans (by assumption)⟩
def pxZ (x y : Int × Int) : Int := orL [cmpZ x.1 y.1, cmpZ x.2 y.2]
set_option maxHeartbeats 400000 in
theorem psortCmp (x y : Int × Int) (w : World) :
    Calls Try.prog 14 #[.agg #[.int .u32 x.1, .int .i64 x.2], .agg #[.int .u32 y.1, .int .i64 y.2]] w fun e w' => e = .returned (.int .i64 (pxZ x y)) ∧ Gd w w' := by
  have HC := Lib.hid fun W => pcmpD x.1 x.2 y.1 y.2 W
  go_enter Try.func14, Try.ntmps14
  go_wp2_with fail
  refine (HC.out _).mono ?_; rintro e w1 ⟨rfl, hb⟩
  go_wp2
  go_ret
  exact ⟨rfl, (((Gd.refl w).alloc _).alloc _).trans hb⟩
end Go.Proofs.Ytjkagifpnieehaa
