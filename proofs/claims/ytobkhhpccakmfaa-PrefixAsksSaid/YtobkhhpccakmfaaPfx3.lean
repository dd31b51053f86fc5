/- The reference's numbers: good, holds, within, how two stand. -/
import Derived.Test.YtobkhhpccakmfaaPfx2
namespace Go.Proofs.Ytobkhhpccakmfaa
open Go.RowKit

theorem andNot_mk (a : Nat) (n : Int) (ha : a < 4294967296) : (bits .andNot .u32 (a : Int) (mk n : Int) == (0 : Int)) = ((a : Int) == (hd a n : Int)) := by
  rw [u32_andNot_nat a (mk n) ha (mk_lt n)]
  have hk : 2 ^ (32 - cl n) ≤ 2 ^ 32 := Nat.pow_le_pow_right (by decide) (by omega)
  have h0 : 0 < 2 ^ (32 - cl n) := Nat.two_pow_pos _
  have e : 4294967295 - mk n = 2 ^ (32 - cl n) - 1 := by unfold mk; omega
  rw [e, Nat.and_two_pow_sub_one_eq_mod]
  have h1 := Nat.div_add_mod a (2 ^ (32 - cl n))
  rw [Nat.mul_comm] at h1
  unfold hd
  rw [Bool.eq_iff_iff]
  simp only [beq_iff_eq]
  omega

set_option maxHeartbeats 400000 in
theorem rgood (a : Nat) (ha : a < 4294967296) (n : Int) (hn : -9223372036854775808 ≤ n ∧ n ≤ 9223372036854775807) (w : World) :
    Calls Try.prog 14 #[.agg #[.int .u32 a, .int .i64 n]] w fun e w' => e = .returned (.bool (goodB a n)) ∧ Gr w w' := by
  have HM := Lib.hid fun W => rmask n hn W
  have e1 := Lib.hid (andNot_mk a n ha)
  have d0 := has_new w [.int .u32 a, .int .i64 n] 24 0 _ rfl
  have d1 := has_new w [.int .u32 a, .int .i64 n] 24 1 _ rfl
  have gw := (Gr.refl w).alloc (.cells #[.int .u32 a, .int .i64 n] 24)
  clear ha hn
  by_cases h0 : 0 ≤ n
  · by_cases h1 : n ≤ 32
    · have e2 := Lib.hid (show goodB a n = ((a : Int) == (hd a n : Int)) by
        unfold goodB
        rcases cl_cases n with ⟨h, _⟩ | ⟨h, _⟩ | ⟨_, _, h⟩
        · omega
        · omega
        · rw [h]; simp)
      have h0' : decide ((0 : Int) ≤ n) = true := by simpa using h0
      have h1' : decide (n ≤ (32 : Int)) = true := by simpa using h1
      go_enter Try.func14, Try.ntmps14
      go_wp2_with fail
      generalize w.alloc (.cells #[.int .u32 a, .int .i64 n] 24) = W at *
      have hS0 := (Gr.refl (W)).drew
      refine wp_region_plan [(0, true), (1, true), (2, true), (3, true), (4, true), (5, true), (6, true), (7, true), (8, true), (9, true), (10, true), (11, true), (12, true), (13, false), (14, true), (15, true), (16, true), (17, true)] (Gr W) (by kernel_rfl) (by kernel_rfl) hS0 ?_
      simp only [planOps, List.getElem?_toArray, List.getElem?_cons_zero, List.getElem?_cons_succ]
      repeat (first
        | (refine wpPlan_skip (by rfl) ?_; (try simp only [Act.put, List.setIfInBounds_toArray, List.set_cons_zero, List.set_cons_succ]))
        | (refine wpPlan_take (by rfl) ?_; apply Exists.intro; refine ⟨fun w' hSw => ?_, ?_⟩; (focus ((try dsimp only at hSw); go_simp; first | done | with_reducible rfl)); (try simp only [Act.put, List.setIfInBounds_toArray, List.set_cons_zero, List.set_cons_succ]))
        | (refine wpPlan_do (by rfl) (fun K hK => ?_); go_simp; (first | (go_at_call 12; refine (HM.out _).mono ?_; rintro e w2 ⟨rfl, rfl⟩)); refine hK _ _ (by first | exact Gr.trans (by assumption) hb2 | assumption | exact Gr.alloc (by assumption) _) (fun hSn => ?_); clear hK K; (try simp only [Act.put, List.setIfInBounds_toArray, List.set_cons_zero, List.set_cons_succ]))
        | (refine wpPlan_do (by rfl) (fun K hK => ?_); go_simp; refine hK _ _ (by first | exact Gr.trans (by assumption) hb2 | assumption | exact Gr.alloc (by assumption) _) (fun hSn => ?_); clear hK K; (try simp only [Act.put, List.setIfInBounds_toArray, List.set_cons_zero, List.set_cons_succ])))
      refine wpPlan_nil ?_
      go_wp2
      go_ret
      exact ⟨by rw [e2.out, ← e1.out]; rfl, gw.drew⟩
    · have e2 := Lib.hid (show goodB a n = false by
        unfold goodB
        rcases cl_cases n with ⟨h, _⟩ | ⟨h, h2⟩ | ⟨_, _, h⟩
        · omega
        · rw [h2]; simp; omega
        · omega)
      have h0' : decide ((0 : Int) ≤ n) = true := by simpa using h0
      have h1' : decide (n ≤ (32 : Int)) = false := by simpa using h1
      go_enter Try.func14, Try.ntmps14
      go_wp2_with fail
      generalize w.alloc (.cells #[.int .u32 a, .int .i64 n] 24) = W at *
      have hS0 := (Gr.refl (W)).drew
      refine wp_region_plan [(0, true), (1, true), (2, true), (3, true), (4, true), (5, true), (6, true), (7, true), (8, true), (9, true), (10, true), (11, true), (12, true), (13, false), (14, true), (15, true), (16, true), (17, true)] (Gr W) (by kernel_rfl) (by kernel_rfl) hS0 ?_
      simp only [planOps, List.getElem?_toArray, List.getElem?_cons_zero, List.getElem?_cons_succ]
      repeat (first
        | (refine wpPlan_skip (by rfl) ?_; (try simp only [Act.put, List.setIfInBounds_toArray, List.set_cons_zero, List.set_cons_succ]))
        | (refine wpPlan_take (by rfl) ?_; apply Exists.intro; refine ⟨fun w' hSw => ?_, ?_⟩; (focus ((try dsimp only at hSw); go_simp; first | done | with_reducible rfl)); (try simp only [Act.put, List.setIfInBounds_toArray, List.set_cons_zero, List.set_cons_succ]))
        | (refine wpPlan_do (by rfl) (fun K hK => ?_); go_simp; refine hK _ _ (by first | exact Gr.trans (by assumption) hb2 | assumption | exact Gr.alloc (by assumption) _) (fun hSn => ?_); clear hK K; (try simp only [Act.put, List.setIfInBounds_toArray, List.set_cons_zero, List.set_cons_succ])))
      refine wpPlan_nil ?_
      go_wp2
      go_ret
      exact ⟨by rw [e2.out]; rfl, gw.drew⟩
  · have e2 := Lib.hid (show goodB a n = false by
      unfold goodB
      rcases cl_cases n with ⟨h, h2⟩ | ⟨h, h2⟩ | ⟨_, _, h⟩
      · rw [h2]; simp; omega
      · omega
      · omega)
    have h0' : decide ((0 : Int) ≤ n) = false := by simpa using h0
    go_enter Try.func14, Try.ntmps14
    go_wp2_with fail
    generalize w.alloc (.cells #[.int .u32 a, .int .i64 n] 24) = W at *
    have hS0 := (Gr.refl (W)).drew
    refine wp_region_plan [(0, true), (1, true), (2, true), (3, true), (4, true), (5, true), (6, true), (7, true), (8, true), (9, true), (10, true), (11, true), (12, true), (13, false), (14, true), (15, true), (16, true), (17, true)] (Gr W) (by kernel_rfl) (by kernel_rfl) hS0 ?_
    simp only [planOps, List.getElem?_toArray, List.getElem?_cons_zero, List.getElem?_cons_succ]
    repeat (first
      | (refine wpPlan_skip (by rfl) ?_; (try simp only [Act.put, List.setIfInBounds_toArray, List.set_cons_zero, List.set_cons_succ]))
      | (refine wpPlan_take (by rfl) ?_; apply Exists.intro; refine ⟨fun w' hSw => ?_, ?_⟩; (focus ((try dsimp only at hSw); go_simp; first | done | with_reducible rfl)); (try simp only [Act.put, List.setIfInBounds_toArray, List.set_cons_zero, List.set_cons_succ]))
      | (refine wpPlan_do (by rfl) (fun K hK => ?_); go_simp; refine hK _ _ (by first | exact Gr.trans (by assumption) hb2 | assumption | exact Gr.alloc (by assumption) _) (fun hSn => ?_); clear hK K; (try simp only [Act.put, List.setIfInBounds_toArray, List.set_cons_zero, List.set_cons_succ])))
    refine wpPlan_nil ?_
    go_wp2
    go_ret
    exact ⟨by rw [e2.out]; rfl, gw.drew⟩

set_option maxHeartbeats 400000 in
theorem rholds (a : Nat) (ha : a < 4294967296) (n : Int) (x : Nat) (hx : x < 4294967296) (w : World) :
    Calls Try.prog 16 #[.agg #[.int .u32 a, .int .i64 n], .int .u32 x] w fun e w' => e = .returned (.bool (holdB a n x)) ∧ Gr w w' := by
  have HC := Lib.hid fun W => rcanon a ha n W
  have HM := Lib.hid fun W => rmask (cl n) (by have := cl_le n; omega) W
  have e1 := Lib.hid (show (bits .and .u32 (x : Int) (mk n : Int) == (hd a n : Int)) = holdB a n x by
    rw [and_mk_bits x n hx]; unfold holdB; rw [Bool.eq_iff_iff]; simp only [beq_iff_eq]; omega)
  have e2 := congrArg (fun x : Nat => (x : Int)) (mk_cl n)
  clear ha hx
  go_enter Try.func16, Try.ntmps16
  go_wp2_with fail
  refine (HC.out _).mono ?_; rintro e w1 ⟨rfl, hb⟩
  have gw := ((Gr.refl w).alloc _).trans hb
  clear hb HC
  go_wp2_with fail
  have d0 := has_new w1 [.int .u32 (hd a n : Nat), .int .i64 (cl n : Nat)] 24 0 _ rfl
  have d1 := has_new w1 [.int .u32 (hd a n : Nat), .int .i64 (cl n : Nat)] 24 1 _ rfl
  replace gw := (gw).alloc (.cells #[.int .u32 (hd a n : Nat), .int .i64 (cl n : Nat)] 24)
  generalize w1.alloc (.cells #[.int .u32 (hd a n : Nat), .int .i64 (cl n : Nat)] 24) = W at *
  have hS0 := (Gr.refl (W)).drew
  refine wp_region_plan [(0, true), (1, true), (2, true), (5, true), (6, true), (3, false), (4, true), (7, true), (8, true)] (Gr W) (by kernel_rfl) (by kernel_rfl) hS0 ?_
  simp only [planOps, List.getElem?_toArray, List.getElem?_cons_zero, List.getElem?_cons_succ]
  repeat (first
    | (refine wpPlan_skip (by rfl) ?_; (try simp only [Act.put, List.setIfInBounds_toArray, List.set_cons_zero, List.set_cons_succ]))
    | (refine wpPlan_take (by rfl) ?_; apply Exists.intro; refine ⟨fun w' hSw => ?_, ?_⟩; (focus ((try dsimp only at hSw); go_simp; first | done | with_reducible rfl)); (try simp only [Act.put, List.setIfInBounds_toArray, List.set_cons_zero, List.set_cons_succ]))
    | (refine wpPlan_do (by rfl) (fun K hK => ?_); go_simp; (first | (go_at_call 12; refine (HM.out _).mono ?_; rintro e w2 ⟨rfl, rfl⟩)); refine hK _ _ (by first | exact Gr.trans (by assumption) hb2 | assumption | exact Gr.alloc (by assumption) _) (fun hSn => ?_); clear hK K; (try simp only [Act.put, List.setIfInBounds_toArray, List.set_cons_zero, List.set_cons_succ]))
    | (refine wpPlan_do (by rfl) (fun K hK => ?_); go_simp; refine hK _ _ (by first | exact Gr.trans (by assumption) hb2 | assumption | exact Gr.alloc (by assumption) _) (fun hSn => ?_); clear hK K; (try simp only [Act.put, List.setIfInBounds_toArray, List.set_cons_zero, List.set_cons_succ])))
  refine wpPlan_nil ?_
  go_wp2
  go_ret
  exact ⟨by rw [← e1.out]; rfl, gw.drew⟩

set_option maxHeartbeats 400000 in
theorem rwithin (a : Nat) (ha : a < 4294967296) (n : Int) (b : Nat) (hb : b < 4294967296) (m : Int) (w : World) :
    Calls Try.prog 17 #[.agg #[.int .u32 a, .int .i64 n], .agg #[.int .u32 b, .int .i64 m]] w fun e w' => e = .returned (.bool (withB a n b m)) ∧ Gr w w' := by
  have HC := Lib.hid fun W => rcanon a ha n W
  have HD := Lib.hid fun W => rcanon b hb m W
  have HH := Lib.hid fun W => rholds a ha n (hd b m) (by have := hd_le b m; omega) W
  clear ha hb
  have e0 : withB a n b m = if cl n ≤ cl m then holdB a n (hd b m) else false := by
    unfold withB; by_cases h : cl n ≤ cl m <;> simp [h]
  have d0 := has_mono ((Gr.refl _).alloc (.cells #[.int .u32 b, .int .i64 m] 24)) (has_new w [.int .u32 a, .int .i64 n] 24 0 _ rfl)
  have d1 := has_mono ((Gr.refl _).alloc (.cells #[.int .u32 b, .int .i64 m] 24)) (has_new w [.int .u32 a, .int .i64 n] 24 1 _ rfl)
  have d2 := has_new (w.alloc (.cells #[.int .u32 a, .int .i64 n] 24)) [.int .u32 b, .int .i64 m] 24 0 _ rfl
  have d3 := has_new (w.alloc (.cells #[.int .u32 a, .int .i64 n] 24)) [.int .u32 b, .int .i64 m] 24 1 _ rfl
  have gw := ((Gr.refl w).alloc (.cells #[.int .u32 a, .int .i64 n] 24)).alloc (.cells #[.int .u32 b, .int .i64 m] 24)
  simp only [World.size_alloc] at d2 d3
  go_enter Try.func17, Try.ntmps17
  go_wp2_with fail
  generalize (w.alloc (.cells #[.int .u32 a, .int .i64 n] 24)).alloc (.cells #[.int .u32 b, .int .i64 m] 24) = W at *
  by_cases hle : cl n ≤ cl m
  · rw [if_pos hle] at e0
    have e1 := Lib.hid e0
    clear e0
    have hd0 : decide ((cl n : Int) ≤ (cl m : Int)) = true := by simp; exact hle
    have hS0 := (Gr.refl (W)).drew
    refine wp_region_plan [(0, true), (3, true), (1, false), (2, true), (4, false), (5, true), (6, true), (7, true), (8, true), (9, true), (10, false), (11, true), (12, false), (13, true), (14, true)] (Gr W) (by kernel_rfl) (by kernel_rfl) hS0 ?_
    simp only [planOps, List.getElem?_toArray, List.getElem?_cons_zero, List.getElem?_cons_succ]
    repeat (first
      | (refine wpPlan_skip (by rfl) ?_; (try simp only [Act.put, List.setIfInBounds_toArray, List.set_cons_zero, List.set_cons_succ]))
      | (refine wpPlan_take (by rfl) ?_; apply Exists.intro; refine ⟨fun w' hSw => ?_, ?_⟩; (focus ((try dsimp only at hSw); go_simp; first | done | with_reducible rfl)); (try simp only [Act.put, List.setIfInBounds_toArray, List.set_cons_zero, List.set_cons_succ]))
      | (refine wpPlan_do (by rfl) (fun K hK => ?_); go_simp; (first | (go_at_call 15; first | (with_reducible refine (HD.out _).mono ?_; rintro e w2 ⟨rfl, hb2⟩) | (with_reducible refine (HC.out _).mono ?_; rintro e w2 ⟨rfl, hb2⟩)) | (go_at_call 16; refine (HH.out _).mono ?_; rintro e w2 ⟨rfl, hb2⟩)); refine hK _ _ (by first | exact Gr.trans (by assumption) hb2 | assumption | exact Gr.alloc (by assumption) _) (fun hSn => ?_); clear hK K; (try simp only [Act.put, List.setIfInBounds_toArray, List.set_cons_zero, List.set_cons_succ]))
      | (refine wpPlan_do (by rfl) (fun K hK => ?_); go_simp; refine hK _ _ (by first | exact Gr.trans (by assumption) hb2 | assumption | exact Gr.alloc (by assumption) _) (fun hSn => ?_); clear hK K; (try simp only [Act.put, List.setIfInBounds_toArray, List.set_cons_zero, List.set_cons_succ])))
    refine wpPlan_nil ?_
    go_wp2
    go_ret
    exact ⟨by rw [e1.out]; rfl, gw.trans (by assumption)⟩
  · rw [if_neg hle] at e0
    have e1 := Lib.hid e0
    clear e0
    have hd0 : decide ((cl n : Int) ≤ (cl m : Int)) = false := by simp; omega
    have hS0 := (Gr.refl (W)).drew
    refine wp_region_plan [(0, true), (3, true), (1, false), (2, true), (4, false), (5, true), (6, true), (7, true), (8, true), (9, true), (10, false), (11, true), (12, false), (13, true), (14, true)] (Gr W) (by kernel_rfl) (by kernel_rfl) hS0 ?_
    simp only [planOps, List.getElem?_toArray, List.getElem?_cons_zero, List.getElem?_cons_succ]
    repeat (first
      | (refine wpPlan_skip (by rfl) ?_; (try simp only [Act.put, List.setIfInBounds_toArray, List.set_cons_zero, List.set_cons_succ]))
      | (refine wpPlan_take (by rfl) ?_; apply Exists.intro; refine ⟨fun w' hSw => ?_, ?_⟩; (focus ((try dsimp only at hSw); go_simp; first | done | with_reducible rfl)); (try simp only [Act.put, List.setIfInBounds_toArray, List.set_cons_zero, List.set_cons_succ]))
      | (refine wpPlan_do (by rfl) (fun K hK => ?_); go_simp; (first | (go_at_call 15; first | (with_reducible refine (HD.out _).mono ?_; rintro e w2 ⟨rfl, hb2⟩) | (with_reducible refine (HC.out _).mono ?_; rintro e w2 ⟨rfl, hb2⟩))); refine hK _ _ (by first | exact Gr.trans (by assumption) hb2 | assumption | exact Gr.alloc (by assumption) _) (fun hSn => ?_); clear hK K; (try simp only [Act.put, List.setIfInBounds_toArray, List.set_cons_zero, List.set_cons_succ]))
      | (refine wpPlan_do (by rfl) (fun K hK => ?_); go_simp; refine hK _ _ (by first | exact Gr.trans (by assumption) hb2 | assumption | exact Gr.alloc (by assumption) _) (fun hSn => ?_); clear hK K; (try simp only [Act.put, List.setIfInBounds_toArray, List.set_cons_zero, List.set_cons_succ])))
    refine wpPlan_nil ?_
    go_wp2
    go_ret
    exact ⟨by rw [e1.out]; rfl, gw.trans (by assumption)⟩
end Go.Proofs.Ytobkhhpccakmfaa
