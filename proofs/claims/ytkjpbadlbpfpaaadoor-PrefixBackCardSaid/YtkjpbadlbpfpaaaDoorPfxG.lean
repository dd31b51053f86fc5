/- Which prefixes are good. -/
import Derived.Test.YtkjpbadlbpfpaaaDoorPfx
namespace Go.Proofs.YtkjpbadlbpfpaaaDoor
open Go.RowKit

/-- may a prefix be -/
def goodB (a : Nat) (n : Int) : Bool := ((a : Int) == (hd a n : Int)) && (n == (cl n : Int))
set_option maxHeartbeats 400000 in
theorem pgood (a : Nat) (ha : a < 4294967296) (n : Int) (w : World) :
    Calls Tryd.prog 17 #[.agg #[.int .u32 a, .int .i64 n]] w fun e w' => e = .returned (.bool (goodB a n)) ∧ Gr w w' := by
  have HC := Lib.hid fun W => pcanon a ha n W
  clear ha
  have d0 := has_new w [.int .u32 a, .int .i64 n] 24 0 _ rfl
  have d1 := has_new w [.int .u32 a, .int .i64 n] 24 1 _ rfl
  have gw := (Gr.refl w).alloc (.cells #[.int .u32 a, .int .i64 n] 24)
  go_enter Tryd.func17, Tryd.ntmps17
  go_wp2_with fail
  generalize w.alloc (.cells #[.int .u32 a, .int .i64 n] 24) = W at *
  have hS0 := (Gr.refl W).drew
  refine wp_region_plan [(0, true), (1, true), (2, false), (3, true), (4, true)] (Gr W) (by kernel_rfl) (by kernel_rfl) hS0 ?_
  simp only [planOps, List.getElem?_toArray, List.getElem?_cons_zero, List.getElem?_cons_succ]
  repeat (first
    | (refine wpPlan_skip (by rfl) ?_; (try simp only [Act.put, List.setIfInBounds_toArray, List.set_cons_zero, List.set_cons_succ]))
    | (refine wpPlan_take (by rfl) ?_; apply Exists.intro; refine ⟨fun w' hSw => ?_, ?_⟩; (focus ((try dsimp only at hSw); go_simp; first | done | with_reducible rfl)); (try simp only [Act.put, List.setIfInBounds_toArray, List.set_cons_zero, List.set_cons_succ]))
    | (refine wpPlan_do (by rfl) (fun K hK => ?_); go_simp; (first | (go_at_call 16; refine (HC.out _).mono ?_; rintro e w2 ⟨rfl, hb2⟩)); refine hK _ _ (by first | exact Gr.trans (by assumption) hb2 | assumption | exact Gr.alloc (by assumption) _) (fun hSn => ?_); clear hK K; (try simp only [Act.put, List.setIfInBounds_toArray, List.set_cons_zero, List.set_cons_succ]))
    | (refine wpPlan_do (by rfl) (fun K hK => ?_); go_simp; refine hK _ _ (by first | exact Gr.trans (by assumption) hb2 | assumption | exact Gr.alloc (by assumption) _) (fun hSn => ?_); clear hK K; (try simp only [Act.put, List.setIfInBounds_toArray, List.set_cons_zero, List.set_cons_succ])))
  refine wpPlan_nil ?_
  go_wp2
  go_ret
  exact ⟨rfl, gw.trans (by assumption)⟩


end Go.Proofs.YtkjpbadlbpfpaaaDoor
