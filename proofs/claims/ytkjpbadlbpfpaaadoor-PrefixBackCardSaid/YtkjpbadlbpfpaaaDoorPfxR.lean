/- Prefixes by the reference: canonical, good. -/
import Derived.Test.YtkjpbadlbpfpaaaDoorPfxG
namespace Go.Proofs.YtkjpbadlbpfpaaaDoor
open Go.RowKit

theorem val_int {k : IntKind} {a b : Int} (h : a = b) : Value.int k a = .int k b := by rw [h]
theorem lead_num (k : Nat) (hk : k < 32) : bits .or .u32 ((4294967296 - 2 ^ (32 - k) : Nat) : Int) ((2 : Int) ^ (31 - k) % 4294967296) = ((2 ^ 32 - 2 ^ (32 - (k + 1)) : Nat) : Int) := by
  have h1 : 2 ^ (31 - k) ≤ 2 ^ 31 := Nat.pow_le_pow_right (by decide) (by omega)
  have h0 : 0 < 2 ^ (32 - k) := Nat.two_pow_pos _
  have e : ((2 : Int) ^ (31 - k) % 4294967296) = ((2 ^ (31 - k) : Nat) : Int) := by
    have : ((2 : Int) ^ (31 - k)) = ((2 ^ (31 - k) : Nat) : Int) := by simp
    rw [this]
    generalize 2 ^ (31 - k) = x at *
    omega
  rw [e, u32_or_nat _ _ (by omega) (by omega), ← lead_or k hk]
set_option maxHeartbeats 400000 in
theorem rmask (n : Int) (hn : -9223372036854775808 ≤ n ∧ n ≤ 9223372036854775807) (w : World) :
    Calls Tryd.prog 37 #[.int .i64 n] w fun e w' => e = .returned (.int .u32 (mkN n)) ∧ w = w' := by
  go_enter Tryd.func37, Tryd.ntmps37
  go_wp2
  go_loop [3, 4] (fun m i => ∃ k : Nat, k ≤ cl n ∧ i = .int .i64 k ∧ m = .int .u32 ((2 ^ 32 - 2 ^ (32 - k) : Nat) : Int)) (fun _ i => 32 - (intOf i).toNat)
  case atStart => exact ⟨0, Nat.zero_le _, rfl, rfl⟩
  case round =>
    obtain ⟨k, hk, rfl, rfl⟩ := hrel
    have hcl := cl_le n
    by_cases hlt : k < cl n
    · have h1 : (k : Int) < n := by rcases cl_cases n with ⟨_, h⟩ | ⟨_, h⟩ | ⟨_, _, h⟩ <;> omega
      have h2 : (k : Int) < 32 := by omega
      go_wp2
      go_round
      case rel => exact ⟨k + 1, by omega, by go_num, val_int (lead_num k (by omega))⟩
      case measure => simp [intOf]; omega
    · obtain rfl : k = cl n := by omega
      have e1 := Lib.hid (show (2 ^ 32 - 2 ^ (32 - cl n) : Nat) = mkN n from rfl)
      by_cases h1 : (cl n : Int) < n
      · have h2 : ¬ (cl n : Int) < 32 := by rcases cl_cases n with ⟨_, h⟩ | ⟨_, h⟩ | ⟨_, _, h⟩ <;> omega
        go_wp2
        go_ret
        exact ⟨rfl, rfl⟩
      · go_wp2
        go_ret
        exact ⟨rfl, rfl⟩

set_option maxHeartbeats 400000 in
theorem rcanon (a : Nat) (ha : a < 4294967296) (n : Int) (w : World) :
    Calls Tryd.prog 25 #[.agg #[.int .u32 a, .int .i64 n]] w fun e w' => e = .returned (.agg #[.int .u32 (hd a n : Nat), .int .i64 (cl n : Nat)]) ∧ Gr w w' := by
  have HM := Lib.hid (fun W => rmask (cl n) (by have := cl_le n; omega) W)
  have e1 := and_mk_bits a n ha
  have e2 := congrArg (fun x : Nat => (x : Int)) (mk_cl n)
  clear ha
  have d1 : ∀ w', Gr ((w.alloc (.cells #[.int .u32 a, .int .i64 (cl n : Nat)] 24)).alloc (.cells #[.int .u32 0, .int .i64 0] 24)) w' → w'.cell? ⟨w.heap.size, 1, none⟩ = some (.int .i64 (cl n : Nat)) :=
    has_mono ((Gr.refl _).alloc _) (has_new w [.int .u32 a, .int .i64 (cl n : Nat)] 24 1 _ rfl)
  have d0 : ∀ w', Gr ((w.alloc (.cells #[.int .u32 a, .int .i64 (cl n : Nat)] 24)).alloc (.cells #[.int .u32 0, .int .i64 0] 24)) w' → w'.cell? ⟨w.heap.size, 0, none⟩ = some (.int .u32 a) :=
    has_mono ((Gr.refl _).alloc _) (has_new w [.int .u32 a, .int .i64 (cl n : Nat)] 24 0 _ rfl)
  rcases cl_cases n with ⟨h0, hc⟩ | ⟨h0, hc⟩ | ⟨h0, h1, hc⟩
  · rw [hc] at e2 HM d0 d1 ⊢
    simp only [Int.cast_ofNat_Int] at e2 HM d0 d1 ⊢
    clear hc
    go_enter Tryd.func25, Tryd.ntmps25
    go_wp2
    have hS0 := (Gr.refl (((w.alloc (.cells #[.int .u32 a, .int .i64 0] 24)).alloc (.cells #[.int .u32 0, .int .i64 0] 24)))).drew
    refine wp_region_planT [(0, true), (1, true), (2, true), (3, true), (4, false), (5, true), (6, true)] (Gr ((w.alloc (.cells #[.int .u32 a, .int .i64 0] 24)).alloc (.cells #[.int .u32 0, .int .i64 0] 24))) (by kernel_rfl) (by kernel_rfl) (by kernel_rfl) (by kernel_rfl) hS0 ?_
    simp only [List.dropLast, planOps, List.getElem?_toArray, List.getElem?_cons_zero, List.getElem?_cons_succ]
    repeat (first
      | (refine wpPlan_skip (by rfl) ?_; (try simp only [Act.put, List.setIfInBounds_toArray, List.set_cons_zero, List.set_cons_succ]))
      | (refine wpPlan_take (by rfl) ?_; apply Exists.intro; refine ⟨fun w' hSw => ?_, ?_⟩; (focus ((try dsimp only at hSw); go_simp; first | done | with_reducible rfl)); (try simp only [Act.put, List.setIfInBounds_toArray, List.set_cons_zero, List.set_cons_succ]))
      | (refine wpPlan_do (by rfl) (fun K hK => ?_); go_simp; (first | (go_at_call 37; refine (HM.out _).mono ?_; rintro e w2 ⟨rfl, rfl⟩)); refine hK _ _ (by first | exact Gr.trans (by assumption) hb2 | assumption | exact Gr.alloc (by assumption) _) (fun hSn => ?_); clear hK K; (try simp only [Act.put, List.setIfInBounds_toArray, List.set_cons_zero, List.set_cons_succ]))
      | (refine wpPlan_do (by rfl) (fun K hK => ?_); go_simp; refine hK _ _ (by first | exact Gr.trans (by assumption) hb2 | assumption | exact Gr.alloc (by assumption) _) (fun hSn => ?_); clear hK K; (try simp only [Act.put, List.setIfInBounds_toArray, List.set_cons_zero, List.set_cons_succ])))
    refine wpPlan_nil ?_
    refine wpLast (i := 7) rfl (by rfl) (fun K hK => ?_); go_simp; refine hK _ _ ?_; clear hK K; (try simp only [Act.put, List.setIfInBounds_toArray, List.set_cons_zero, List.set_cons_succ])
    go_wp2
    refine bodyPost_ret (v := .agg #[.int .u32 (hd a n : Nat), .int .i64 0]) (by simp [results, Tryd.results25, go_sem]) rfl ⟨rfl, ?_⟩
    first | exact (((Gr.refl _).alloc _).alloc _).drew | trace_state
  · rw [hc] at e2 HM d0 d1 ⊢
    simp only [Int.cast_ofNat_Int] at e2 HM d0 d1 ⊢
    clear hc
    go_enter Tryd.func25, Tryd.ntmps25
    go_wp2
    have hS0 := (Gr.refl (((w.alloc (.cells #[.int .u32 a, .int .i64 32] 24)).alloc (.cells #[.int .u32 0, .int .i64 0] 24)))).drew
    refine wp_region_planT [(0, true), (1, true), (2, true), (3, true), (4, false), (5, true), (6, true)] (Gr ((w.alloc (.cells #[.int .u32 a, .int .i64 32] 24)).alloc (.cells #[.int .u32 0, .int .i64 0] 24))) (by kernel_rfl) (by kernel_rfl) (by kernel_rfl) (by kernel_rfl) hS0 ?_
    simp only [List.dropLast, planOps, List.getElem?_toArray, List.getElem?_cons_zero, List.getElem?_cons_succ]
    repeat (first
      | (refine wpPlan_skip (by rfl) ?_; (try simp only [Act.put, List.setIfInBounds_toArray, List.set_cons_zero, List.set_cons_succ]))
      | (refine wpPlan_take (by rfl) ?_; apply Exists.intro; refine ⟨fun w' hSw => ?_, ?_⟩; (focus ((try dsimp only at hSw); go_simp; first | done | with_reducible rfl)); (try simp only [Act.put, List.setIfInBounds_toArray, List.set_cons_zero, List.set_cons_succ]))
      | (refine wpPlan_do (by rfl) (fun K hK => ?_); go_simp; (first | (go_at_call 37; refine (HM.out _).mono ?_; rintro e w2 ⟨rfl, rfl⟩)); refine hK _ _ (by first | exact Gr.trans (by assumption) hb2 | assumption | exact Gr.alloc (by assumption) _) (fun hSn => ?_); clear hK K; (try simp only [Act.put, List.setIfInBounds_toArray, List.set_cons_zero, List.set_cons_succ]))
      | (refine wpPlan_do (by rfl) (fun K hK => ?_); go_simp; refine hK _ _ (by first | exact Gr.trans (by assumption) hb2 | assumption | exact Gr.alloc (by assumption) _) (fun hSn => ?_); clear hK K; (try simp only [Act.put, List.setIfInBounds_toArray, List.set_cons_zero, List.set_cons_succ])))
    refine wpPlan_nil ?_
    refine wpLast (i := 7) rfl (by rfl) (fun K hK => ?_); go_simp; refine hK _ _ ?_; clear hK K; (try simp only [Act.put, List.setIfInBounds_toArray, List.set_cons_zero, List.set_cons_succ])
    go_wp2
    refine bodyPost_ret (v := .agg #[.int .u32 (hd a n : Nat), .int .i64 32]) (by simp [results, Tryd.results25, go_sem]) rfl ⟨rfl, ?_⟩
    first | exact (((Gr.refl _).alloc _).alloc _).drew | trace_state
  · rw [hc] at HM d0 d1 ⊢
    clear e2
    clear hc
    go_enter Tryd.func25, Tryd.ntmps25
    go_wp2
    have hS0 := (Gr.refl (((w.alloc (.cells #[.int .u32 a, .int .i64 n] 24)).alloc (.cells #[.int .u32 0, .int .i64 0] 24)))).drew
    refine wp_region_planT [(0, true), (1, true), (2, true), (3, true), (4, false), (5, true), (6, true)] (Gr ((w.alloc (.cells #[.int .u32 a, .int .i64 n] 24)).alloc (.cells #[.int .u32 0, .int .i64 0] 24))) (by kernel_rfl) (by kernel_rfl) (by kernel_rfl) (by kernel_rfl) hS0 ?_
    simp only [List.dropLast, planOps, List.getElem?_toArray, List.getElem?_cons_zero, List.getElem?_cons_succ]
    repeat (first
      | (refine wpPlan_skip (by rfl) ?_; (try simp only [Act.put, List.setIfInBounds_toArray, List.set_cons_zero, List.set_cons_succ]))
      | (refine wpPlan_take (by rfl) ?_; apply Exists.intro; refine ⟨fun w' hSw => ?_, ?_⟩; (focus ((try dsimp only at hSw); go_simp; first | done | with_reducible rfl)); (try simp only [Act.put, List.setIfInBounds_toArray, List.set_cons_zero, List.set_cons_succ]))
      | (refine wpPlan_do (by rfl) (fun K hK => ?_); go_simp; (first | (go_at_call 37; refine (HM.out _).mono ?_; rintro e w2 ⟨rfl, rfl⟩)); refine hK _ _ (by first | exact Gr.trans (by assumption) hb2 | assumption | exact Gr.alloc (by assumption) _) (fun hSn => ?_); clear hK K; (try simp only [Act.put, List.setIfInBounds_toArray, List.set_cons_zero, List.set_cons_succ]))
      | (refine wpPlan_do (by rfl) (fun K hK => ?_); go_simp; refine hK _ _ (by first | exact Gr.trans (by assumption) hb2 | assumption | exact Gr.alloc (by assumption) _) (fun hSn => ?_); clear hK K; (try simp only [Act.put, List.setIfInBounds_toArray, List.set_cons_zero, List.set_cons_succ])))
    refine wpPlan_nil ?_
    refine wpLast (i := 7) rfl (by rfl) (fun K hK => ?_); go_simp; refine hK _ _ ?_; clear hK K; (try simp only [Act.put, List.setIfInBounds_toArray, List.set_cons_zero, List.set_cons_succ])
    go_wp2
    refine bodyPost_ret (v := .agg #[.int .u32 (hd a n : Nat), .int .i64 n]) (by simp [results, Tryd.results25, go_sem]) rfl ⟨rfl, ?_⟩
    first | exact (((Gr.refl _).alloc _).alloc _).drew | trace_state
theorem andNot_mk (a : Nat) (n : Int) (ha : a < 4294967296) : (bits .andNot .u32 (a : Int) (mkN n : Int) == (0 : Int)) = ((a : Int) == (hd a n : Int)) := by
  rw [u32_andNot_nat a (mkN n) ha (mk_lt n)]
  have hk : 2 ^ (32 - cl n) ≤ 2 ^ 32 := Nat.pow_le_pow_right (by decide) (by omega)
  have h0 : 0 < 2 ^ (32 - cl n) := Nat.two_pow_pos _
  have e : 4294967295 - mkN n = 2 ^ (32 - cl n) - 1 := by unfold mkN; omega
  rw [e, Nat.and_two_pow_sub_one_eq_mod]
  have h1 := Nat.div_add_mod a (2 ^ (32 - cl n))
  rw [Nat.mul_comm] at h1
  unfold hd
  rw [Bool.eq_iff_iff]
  simp only [beq_iff_eq]
  omega

set_option maxHeartbeats 400000 in
theorem rgood (a : Nat) (ha : a < 4294967296) (n : Int) (hn : -9223372036854775808 ≤ n ∧ n ≤ 9223372036854775807) (w : World) :
    Calls Tryd.prog 23 #[.agg #[.int .u32 a, .int .i64 n]] w fun e w' => e = .returned (.bool (goodB a n)) ∧ Gr w w' := by
  have HM := Lib.hid fun W => rmask n hn W
  have e1 := Lib.hid (andNot_mk a n ha)
  have d0 := has_new w [.int .u32 a, .int .i64 n] 24 0 _ rfl
  have d1 := has_new w [.int .u32 a, .int .i64 n] 24 1 _ rfl
  have gw := (Gr.refl w).alloc (.cells #[.int .u32 a, .int .i64 n] 24)
  clear ha hn
  by_cases h0 : 0 ≤ n
  · by_cases h1 : n ≤ 32
    · have e2 := Lib.hid (show goodB a n = ((a : Int) == (hd a n : Int)) by
        unfold goodB
        rcases cl_cases n with ⟨h, _⟩ | ⟨h, _⟩ | ⟨_, _, h⟩
        · omega
        · omega
        · rw [h]; simp)
      have h0' : decide ((0 : Int) ≤ n) = true := by simpa using h0
      have h1' : decide (n ≤ (32 : Int)) = true := by simpa using h1
      go_enter Tryd.func23, Tryd.ntmps23
      go_wp2_with fail
      generalize w.alloc (.cells #[.int .u32 a, .int .i64 n] 24) = W at *
      have hS0 := (Gr.refl (W)).drew
      refine wp_region_plan [(0, true), (1, true), (2, true), (3, true), (4, true), (5, true), (6, true), (7, true), (8, true), (9, true), (10, true), (11, true), (12, true), (13, false), (14, true), (15, true), (16, true), (17, true)] (Gr W) (by kernel_rfl) (by kernel_rfl) hS0 ?_
      simp only [planOps, List.getElem?_toArray, List.getElem?_cons_zero, List.getElem?_cons_succ]
      repeat (first
        | (refine wpPlan_skip (by rfl) ?_; (try simp only [Act.put, List.setIfInBounds_toArray, List.set_cons_zero, List.set_cons_succ]))
        | (refine wpPlan_take (by rfl) ?_; apply Exists.intro; refine ⟨fun w' hSw => ?_, ?_⟩; (focus ((try dsimp only at hSw); go_simp; first | done | with_reducible rfl)); (try simp only [Act.put, List.setIfInBounds_toArray, List.set_cons_zero, List.set_cons_succ]))
        | (refine wpPlan_do (by rfl) (fun K hK => ?_); go_simp; (first | (go_at_call 37; refine (HM.out _).mono ?_; rintro e w2 ⟨rfl, rfl⟩)); refine hK _ _ (by first | exact Gr.trans (by assumption) hb2 | assumption | exact Gr.alloc (by assumption) _) (fun hSn => ?_); clear hK K; (try simp only [Act.put, List.setIfInBounds_toArray, List.set_cons_zero, List.set_cons_succ]))
        | (refine wpPlan_do (by rfl) (fun K hK => ?_); go_simp; refine hK _ _ (by first | exact Gr.trans (by assumption) hb2 | assumption | exact Gr.alloc (by assumption) _) (fun hSn => ?_); clear hK K; (try simp only [Act.put, List.setIfInBounds_toArray, List.set_cons_zero, List.set_cons_succ])))
      refine wpPlan_nil ?_
      go_wp2
      go_ret
      exact ⟨by rw [e2.out, ← e1.out]; rfl, gw.drew⟩
    · have e2 := Lib.hid (show goodB a n = false by
        unfold goodB
        rcases cl_cases n with ⟨h, _⟩ | ⟨h, h2⟩ | ⟨_, _, h⟩
        · omega
        · rw [h2]; simp; omega
        · omega)
      have h0' : decide ((0 : Int) ≤ n) = true := by simpa using h0
      have h1' : decide (n ≤ (32 : Int)) = false := by simpa using h1
      go_enter Tryd.func23, Tryd.ntmps23
      go_wp2_with fail
      generalize w.alloc (.cells #[.int .u32 a, .int .i64 n] 24) = W at *
      have hS0 := (Gr.refl (W)).drew
      refine wp_region_plan [(0, true), (1, true), (2, true), (3, true), (4, true), (5, true), (6, true), (7, true), (8, true), (9, true), (10, true), (11, true), (12, true), (13, false), (14, true), (15, true), (16, true), (17, true)] (Gr W) (by kernel_rfl) (by kernel_rfl) hS0 ?_
      simp only [planOps, List.getElem?_toArray, List.getElem?_cons_zero, List.getElem?_cons_succ]
      repeat (first
        | (refine wpPlan_skip (by rfl) ?_; (try simp only [Act.put, List.setIfInBounds_toArray, List.set_cons_zero, List.set_cons_succ]))
        | (refine wpPlan_take (by rfl) ?_; apply Exists.intro; refine ⟨fun w' hSw => ?_, ?_⟩; (focus ((try dsimp only at hSw); go_simp; first | done | with_reducible rfl)); (try simp only [Act.put, List.setIfInBounds_toArray, List.set_cons_zero, List.set_cons_succ]))
        | (refine wpPlan_do (by rfl) (fun K hK => ?_); go_simp; refine hK _ _ (by first | exact Gr.trans (by assumption) hb2 | assumption | exact Gr.alloc (by assumption) _) (fun hSn => ?_); clear hK K; (try simp only [Act.put, List.setIfInBounds_toArray, List.set_cons_zero, List.set_cons_succ])))
      refine wpPlan_nil ?_
      go_wp2
      go_ret
      exact ⟨by rw [e2.out]; rfl, gw.drew⟩
  · have e2 := Lib.hid (show goodB a n = false by
      unfold goodB
      rcases cl_cases n with ⟨h, h2⟩ | ⟨h, h2⟩ | ⟨_, _, h⟩
      · rw [h2]; simp; omega
      · omega
      · omega)
    have h0' : decide ((0 : Int) ≤ n) = false := by simpa using h0
    go_enter Tryd.func23, Tryd.ntmps23
    go_wp2_with fail
    generalize w.alloc (.cells #[.int .u32 a, .int .i64 n] 24) = W at *
    have hS0 := (Gr.refl (W)).drew
    refine wp_region_plan [(0, true), (1, true), (2, true), (3, true), (4, true), (5, true), (6, true), (7, true), (8, true), (9, true), (10, true), (11, true), (12, true), (13, false), (14, true), (15, true), (16, true), (17, true)] (Gr W) (by kernel_rfl) (by kernel_rfl) hS0 ?_
    simp only [planOps, List.getElem?_toArray, List.getElem?_cons_zero, List.getElem?_cons_succ]
    repeat (first
      | (refine wpPlan_skip (by rfl) ?_; (try simp only [Act.put, List.setIfInBounds_toArray, List.set_cons_zero, List.set_cons_succ]))
      | (refine wpPlan_take (by rfl) ?_; apply Exists.intro; refine ⟨fun w' hSw => ?_, ?_⟩; (focus ((try dsimp only at hSw); go_simp; first | done | with_reducible rfl)); (try simp only [Act.put, List.setIfInBounds_toArray, List.set_cons_zero, List.set_cons_succ]))
      | (refine wpPlan_do (by rfl) (fun K hK => ?_); go_simp; refine hK _ _ (by first | exact Gr.trans (by assumption) hb2 | assumption | exact Gr.alloc (by assumption) _) (fun hSn => ?_); clear hK K; (try simp only [Act.put, List.setIfInBounds_toArray, List.set_cons_zero, List.set_cons_succ])))
    refine wpPlan_nil ?_
    go_wp2
    go_ret
    exact ⟨by rw [e2.out]; rfl, gw.drew⟩

end Go.Proofs.YtkjpbadlbpfpaaaDoor
