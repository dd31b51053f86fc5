/- The law PrefixAsks, walked: the two texts answer alike. -/
import Derived.Test.YtobkhhpccakmfaaLives3
import Derived.Test.YtobkhhpccakmfaaPfx4
namespace Go.Proofs.Ytobkhhpccakmfaa
open Go.RowKit

set_option maxHeartbeats 1600000 in
theorem law_asks (a b : Nat) (ha : a < 4294967296) (hb : b < 4294967296) (x : Nat) (hx : x < 4294967296) (n m : Int) (hn : -9223372036854775808 ≤ n ∧ n ≤ 9223372036854775807) (w : World) :
    Calls Try.prog 4 #[.agg #[.int .u32 a, .int .i64 n], .agg #[.int .u32 b, .int .i64 m], .int .u32 x] w fun e w' => e = .returned (.bool true) ∧ Gr w w' := by
  have K1 := Lib.hid fun W => pmask n W
  have K2 := Lib.hid fun W => rmask n hn W
  have K3 := Lib.hid fun W => pgood a ha n W
  have K4 := Lib.hid fun W => rgood a ha n hn W
  have K5 := Lib.hid fun W => pcanon a ha n W
  have K6 := Lib.hid fun W => rcanon a ha n W
  have K7 := Lib.hid fun W => pholds a ha n x hx W
  have K8 := Lib.hid fun W => rholds a ha n x hx W
  have K9 := Lib.hid fun W => pwithin a ha n b hb m W
  have K10 := Lib.hid fun W => rwithin a ha n b hb m W
  have K11 := Lib.hid fun W => pcmp a n b m W
  have K12 := Lib.hid fun W => rcmp a n b m W
  generalize withB a n b m = x1 at *
  generalize goodB a n = x2 at *
  generalize holdB a n x = x3 at *
  generalize pcmpZ a n b m = x4 at *
  clear ha hb hx hn
  have d0 := has_mono ((Gr.refl _).alloc (.cells #[.int .u32 b, .int .i64 m] 24)) (has_new w [.int .u32 a, .int .i64 n] 24 0 _ rfl)
  have d1 := has_mono ((Gr.refl _).alloc (.cells #[.int .u32 b, .int .i64 m] 24)) (has_new w [.int .u32 a, .int .i64 n] 24 1 _ rfl)
  have d2 := has_new (w.alloc (.cells #[.int .u32 a, .int .i64 n] 24)) [.int .u32 b, .int .i64 m] 24 0 _ rfl
  have d3 := has_new (w.alloc (.cells #[.int .u32 a, .int .i64 n] 24)) [.int .u32 b, .int .i64 m] 24 1 _ rfl
  have gw := ((Gr.refl w).alloc (.cells #[.int .u32 a, .int .i64 n] 24)).alloc (.cells #[.int .u32 b, .int .i64 m] 24)
  simp only [World.size_alloc] at d2 d3
  go_enter Try.func4, Try.ntmps4
  go_wp2_with fail
  generalize (w.alloc (.cells #[.int .u32 a, .int .i64 n] 24)).alloc (.cells #[.int .u32 b, .int .i64 m] 24) = W at *
  have hS0 := (Gr.refl (W)).drew
  refine wp_region_plan [(0, true), (1, true), (3, true), (4, true), (2, false), (5, false), (6, true), (7, true), (8, true), (10, true), (9, false), (11, false), (12, true), (13, true), (14, true), (15, true), (17, true), (16, false), (18, false), (19, true), (20, true), (21, true), (22, true), (23, true), (25, true), (26, true), (24, false), (27, false), (28, true), (29, true), (30, true), (31, true), (32, true), (34, true), (35, true), (33, false), (36, false), (37, true), (38, true), (39, true), (40, true), (41, true), (43, true), (44, true), (42, false), (45, false), (46, true), (47, true), (48, true), (49, false), (50, true), (51, true)] (Gr W) (by kernel_rfl) (by kernel_rfl) hS0 ?_
  simp only [planOps, List.getElem?_toArray, List.getElem?_cons_zero, List.getElem?_cons_succ]
  repeat (first
    | (refine wpPlan_skip (by rfl) ?_; (try simp only [Act.put, List.setIfInBounds_toArray, List.set_cons_zero, List.set_cons_succ]))
    | (refine wpPlan_take (by rfl) ?_; apply Exists.intro; refine ⟨fun w' hSw => ?_, ?_⟩; (focus ((try dsimp only at hSw); go_simp; first | done | with_reducible rfl)); (try simp only [Act.put, List.setIfInBounds_toArray, List.set_cons_zero, List.set_cons_succ]))
    | (refine wpPlan_do (by rfl) (fun K hK => ?_); go_simp; (first | (go_at_call 10; refine (K1.out _).mono ?_; rintro e w2 ⟨rfl, rfl⟩) | (go_at_call 12; refine (K2.out _).mono ?_; rintro e w2 ⟨rfl, rfl⟩) | (go_at_call 13; refine (K3.out _).mono ?_; rintro e w2 ⟨rfl, hb2⟩) | (go_at_call 14; refine (K4.out _).mono ?_; rintro e w2 ⟨rfl, hb2⟩) | (go_at_call 8; refine (K5.out _).mono ?_; rintro e w2 ⟨rfl, hb2⟩) | (go_at_call 15; refine (K6.out _).mono ?_; rintro e w2 ⟨rfl, hb2⟩) | (go_at_call 9; refine (K7.out _).mono ?_; rintro e w2 ⟨rfl, hb2⟩) | (go_at_call 16; refine (K8.out _).mono ?_; rintro e w2 ⟨rfl, hb2⟩) | (go_at_call 7; refine (K9.out _).mono ?_; rintro e w2 ⟨rfl, hb2⟩) | (go_at_call 17; refine (K10.out _).mono ?_; rintro e w2 ⟨rfl, hb2⟩) | (go_at_call 18; refine (K11.out _).mono ?_; rintro e w2 ⟨rfl, hb2⟩) | (go_at_call 19; refine (K12.out _).mono ?_; rintro e w2 ⟨rfl, hb2⟩) | (go_at_call 11; refine (lives3 _).mono ?_; rintro e w2 ⟨rfl, hb2⟩)); refine hK _ _ (by first | exact Gr.trans (by assumption) hb2 | assumption | exact Gr.alloc (by assumption) _) (fun hSn => ?_); clear hK K; (try simp only [Act.put, List.setIfInBounds_toArray, List.set_cons_zero, List.set_cons_succ]))
    | (refine wpPlan_do (by rfl) (fun K hK => ?_); go_simp; refine hK _ _ (by first | exact Gr.trans (by assumption) hb2 | assumption | exact Gr.alloc (by assumption) _) (fun hSn => ?_); clear hK K; (try simp only [Act.put, List.setIfInBounds_toArray, List.set_cons_zero, List.set_cons_succ])))
  refine wpPlan_nil ?_
  go_wp2
  go_ret
  exact ⟨rfl, gw.trans (by assumption)⟩
end Go.Proofs.Ytobkhhpccakmfaa
