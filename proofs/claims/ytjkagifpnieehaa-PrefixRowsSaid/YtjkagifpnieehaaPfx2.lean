/- More walks of package prefix and of its reference. -/
import Derived.Test.YtjkagifpnieehaaPfx
namespace Go.Proofs.Ytjkagifpnieehaa
open Go.RowKit

/-- how two numbers stand -/
def cmpZ (a b : Int) : Int := if a < b then -1 else if b < a then 1 else 0
set_option maxHeartbeats 400000 in
theorem ccmp32 (a b : Int) (w : World) : Calls Try.prog 26 #[.int .u32 a, .int .u32 b] w fun e w' => e = .returned (.int .i64 (cmpZ a b)) ∧ w = w' := by
  go_enter Try.func26, Try.ntmps26
  go_wp2
  all_goals (go_ret; exact ⟨ret_int (by unfold cmpZ; first | rw [if_pos ‹_›] | rw [if_neg (by omega), if_pos (by omega)] | rw [if_neg (by omega), if_neg (by omega)]), rfl⟩)
set_option maxHeartbeats 400000 in
theorem ccmpI (a b : Int) (w : World) : Calls Try.prog 27 #[.int .i64 a, .int .i64 b] w fun e w' => e = .returned (.int .i64 (cmpZ a b)) ∧ w = w' := by
  go_enter Try.func27, Try.ntmps27
  go_wp2
  all_goals (go_ret; exact ⟨ret_int (by unfold cmpZ; first | rw [if_pos ‹_›] | rw [if_neg (by omega), if_pos (by omega)] | rw [if_neg (by omega), if_neg (by omega)]), rfl⟩)

/-- the first that is not 0 -/
def orL : List Int → Int
  | [] => 0
  | x :: r => if x = 0 then orL r else x
theorem orL_skip : ∀ (zs : List Int) (k : Nat), (∀ j, j < k → zs.getD j 0 = 0) → orL zs = orL (zs.drop k)
  | [], _, _ => by simp
  | x :: r, 0, _ => by simp
  | x :: r, k + 1, h => by
    have h0 := h 0 (by omega)
    simp at h0
    simp only [orL, h0, if_true, List.drop_succ_cons]
    exact orL_skip r k (fun j hj => by have := h (j + 1) (by omega); simpa using this)

set_option maxHeartbeats 400000 in
theorem cor (zs : List Int) (w : World) (pb po : Nat) (hn : zs.length ≤ 1000) (hc : ∀ j, j < zs.length → w.cell? ⟨pb, po + j, none⟩ = some (.int .i64 (zs.getD j 0))) :
    Calls Try.prog 25 #[.slice (some ⟨pb, po, none⟩) zs.length zs.length] w fun e w' => e = .returned (.int .i64 (orL zs)) ∧ w = w' := by
  have HC := Lib.hid hc
  clear hc
  go_enter Try.func25, Try.ntmps25
  go_wp2
  go_loop [5, 8] (fun _ i => ∃ k : Nat, k ≤ zs.length ∧ i = .int .i64 k ∧ ∀ j, j < k → zs.getD j 0 = 0) (fun _ i => zs.length - (intOf i).toNat)
  case atStart => exact ⟨0, Nat.zero_le _, rfl, fun j hj => absurd hj (by omega)⟩
  case round =>
    obtain ⟨k, hk, rfl, hz⟩ := hrel
    have HZ := Lib.hid hz
    clear hz
    by_cases hlt : k < zs.length
    · have c0 := HC.out k hlt
      generalize hx : zs.getD k 0 = x at c0
      have HX := Lib.hid hx
      clear hx
      by_cases h0 : x = 0
      · subst h0
        go_wp2
        go_round
        case rel => exact ⟨k + 1, by omega, by go_num, fun j hj => by
          rcases Nat.lt_or_ge j k with h | h
          · exact HZ.out j h
          · obtain rfl : j = k := by omega
            exact HX.out⟩
        case measure => simp [intOf]; omega
      · have e1 := Lib.hid (show orL zs = x by
          rw [orL_skip zs k HZ.out, List.drop_eq_getElem_cons hlt]
          have : zs[k] = x := by rw [← HX.out]; simp [hlt]
          simp only [orL, this, h0, if_false])
        have h0' : (x != 0) = true := by simpa using h0
        clear h0
        go_wp2
        go_ret
        exact ⟨by rw [e1.out]; rfl, rfl⟩
    · have e1 := Lib.hid (show orL zs = 0 by
        rw [orL_skip zs k HZ.out, List.drop_eq_nil_of_le (by omega)]; rfl)
      go_wp2
      go_ret
      exact ⟨by rw [e1.out]; rfl, rfl⟩

/-- how two prefixes stand -/
def pcmpZ (a : Int) (n : Int) (b : Int) (m : Int) : Int := orL [cmpZ a b, cmpZ n m]
set_option maxHeartbeats 400000 in
theorem pcmp (a n b m : Int) (w : World) :
    Calls Try.prog 15 #[.agg #[.int .u32 a, .int .i64 n], .agg #[.int .u32 b, .int .i64 m]] w fun e w' => e = .returned (.int .i64 (pcmpZ a n b m)) ∧ Gr w w' := by
  have d0 := has_mono ((Gr.refl _).alloc (.cells #[.int .u32 b, .int .i64 m] 32)) (has_new w [.int .u32 a, .int .i64 n] 32 0 _ rfl)
  have d1 := has_mono ((Gr.refl _).alloc (.cells #[.int .u32 b, .int .i64 m] 32)) (has_new w [.int .u32 a, .int .i64 n] 32 1 _ rfl)
  have d2 := has_new (w.alloc (.cells #[.int .u32 a, .int .i64 n] 32)) [.int .u32 b, .int .i64 m] 32 0 _ rfl
  have d3 := has_new (w.alloc (.cells #[.int .u32 a, .int .i64 n] 32)) [.int .u32 b, .int .i64 m] 32 1 _ rfl
  have gw := ((Gr.refl w).alloc (.cells #[.int .u32 a, .int .i64 n] 32)).alloc (.cells #[.int .u32 b, .int .i64 m] 32)
  simp only [World.size_alloc] at d2 d3
  go_enter Try.func15, Try.ntmps15
  go_wp2_with fail
  generalize (w.alloc (.cells #[.int .u32 a, .int .i64 n] 32)).alloc (.cells #[.int .u32 b, .int .i64 m] 32) = W at *
  have hS0 := (Gr.refl W).drew
  refine wp_region_plan [(0, true), (1, true), (2, true), (3, true), (5, true), (6, true), (7, true), (8, true), (4, false), (9, false), (10, false), (11, false), (12, true)] (Gr W) (by kernel_rfl) (by kernel_rfl) hS0 ?_
  simp only [planOps, List.getElem?_toArray, List.getElem?_cons_zero, List.getElem?_cons_succ]
  repeat (first
    | (refine wpPlan_skip (by rfl) ?_; (try simp only [Act.put, List.setIfInBounds_toArray, List.set_cons_zero, List.set_cons_succ]))
    | (refine wpPlan_take (by rfl) ?_; apply Exists.intro; refine ⟨fun w' hSw => ?_, ?_⟩; (focus ((try dsimp only at hSw); go_simp; first | done | with_reducible rfl)); (try simp only [Act.put, List.setIfInBounds_toArray, List.set_cons_zero, List.set_cons_succ]))
    | (refine wpPlan_do (by rfl) (fun K hK => ?_); go_simp; (first | (go_at_call 26; refine (ccmp32 _ _ _).mono ?_; rintro e w2 ⟨rfl, rfl⟩) | (go_at_call 27; refine (ccmpI _ _ _).mono ?_; rintro e w2 ⟨rfl, rfl⟩) | (go_at_call 25; refine (cor [cmpZ a b, cmpZ n m] _ _ 0 (by simp) ?_).mono ?_; (focus (intro j hj; simp at hj; obtain rfl | rfl : j = 0 ∨ j = 1 := (by omega)) <;> simp); rintro e w2 ⟨rfl, rfl⟩)); refine hK _ _ (by first | exact Gr.trans (by assumption) hb2 | assumption | exact Gr.alloc (by assumption) _) (fun hSn => ?_); clear hK K; (try simp only [Act.put, List.setIfInBounds_toArray, List.set_cons_zero, List.set_cons_succ]))
    | (refine wpPlan_do (by rfl) (fun K hK => ?_); go_simp; refine hK _ _ (by first | exact Gr.trans (by assumption) hb2 | assumption | exact Gr.alloc (by assumption) _) (fun hSn => ?_); clear hK K; (try simp only [Act.put, List.setIfInBounds_toArray, List.set_cons_zero, List.set_cons_succ])))
  refine wpPlan_nil ?_
  go_wp2
  go_ret
  exact ⟨rfl, gw.trans (by assumption)⟩

theorem val_int {k : IntKind} {a b : Int} (h : a = b) : Value.int k a = .int k b := by rw [h]
theorem lead_num (k : Nat) (hk : k < 32) : bits .or .u32 ((4294967296 - 2 ^ (32 - k) : Nat) : Int) ((2 : Int) ^ (31 - k) % 4294967296) = ((2 ^ 32 - 2 ^ (32 - (k + 1)) : Nat) : Int) := by
  have h1 : 2 ^ (31 - k) ≤ 2 ^ 31 := Nat.pow_le_pow_right (by decide) (by omega)
  have h0 : 0 < 2 ^ (32 - k) := Nat.two_pow_pos _
  have e : ((2 : Int) ^ (31 - k) % 4294967296) = ((2 ^ (31 - k) : Nat) : Int) := by
    have : ((2 : Int) ^ (31 - k)) = ((2 ^ (31 - k) : Nat) : Int) := by simp
    rw [this]
    generalize 2 ^ (31 - k) = x at *
    omega
  rw [e, u32_or_nat _ _ (by omega) (by omega), ← lead_or k hk]
set_option maxHeartbeats 400000 in
theorem rmask (n : Int) (hn : -9223372036854775808 ≤ n ∧ n ≤ 9223372036854775807) (w : World) :
    Calls Try.prog 43 #[.int .i64 n] w fun e w' => e = .returned (.int .u32 (mkN n)) ∧ w = w' := by
  go_enter Try.func43, Try.ntmps43
  go_wp2
  go_loop [3, 4] (fun m i => ∃ k : Nat, k ≤ cl n ∧ i = .int .i64 k ∧ m = .int .u32 ((2 ^ 32 - 2 ^ (32 - k) : Nat) : Int)) (fun _ i => 32 - (intOf i).toNat)
  case atStart => exact ⟨0, Nat.zero_le _, rfl, rfl⟩
  case round =>
    obtain ⟨k, hk, rfl, rfl⟩ := hrel
    have hcl := cl_le n
    by_cases hlt : k < cl n
    · have h1 : (k : Int) < n := by rcases cl_cases n with ⟨_, h⟩ | ⟨_, h⟩ | ⟨_, _, h⟩ <;> omega
      have h2 : (k : Int) < 32 := by omega
      go_wp2
      go_round
      case rel => exact ⟨k + 1, by omega, by go_num, val_int (lead_num k (by omega))⟩
      case measure => simp [intOf]; omega
    · obtain rfl : k = cl n := by omega
      have e1 := Lib.hid (show (2 ^ 32 - 2 ^ (32 - cl n) : Nat) = mkN n from rfl)
      by_cases h1 : (cl n : Int) < n
      · have h2 : ¬ (cl n : Int) < 32 := by rcases cl_cases n with ⟨_, h⟩ | ⟨_, h⟩ | ⟨_, _, h⟩ <;> omega
        go_wp2
        go_ret
        exact ⟨rfl, rfl⟩
      · go_wp2
        go_ret
        exact ⟨rfl, rfl⟩

set_option maxHeartbeats 400000 in
theorem rcanon (a : Nat) (ha : a < 4294967296) (n : Int) (w : World) :
    Calls Try.prog 28 #[.agg #[.int .u32 a, .int .i64 n]] w fun e w' => e = .returned (.agg #[.int .u32 (hd a n : Nat), .int .i64 (cl n : Nat)]) ∧ Gr w w' := by
  have HM := Lib.hid (fun W => rmask (cl n) (by have := cl_le n; omega) W)
  have e1 := and_mk_bits a n ha
  have e2 := congrArg (fun x : Nat => (x : Int)) (mk_cl n)
  clear ha
  have d1 : ∀ w', Gr ((w.alloc (.cells #[.int .u32 a, .int .i64 (cl n : Nat)] 32)).alloc (.cells #[.int .u32 0, .int .i64 0] 32)) w' → w'.cell? ⟨w.heap.size, 1, none⟩ = some (.int .i64 (cl n : Nat)) :=
    has_mono ((Gr.refl _).alloc _) (has_new w [.int .u32 a, .int .i64 (cl n : Nat)] 32 1 _ rfl)
  have d0 : ∀ w', Gr ((w.alloc (.cells #[.int .u32 a, .int .i64 (cl n : Nat)] 32)).alloc (.cells #[.int .u32 0, .int .i64 0] 32)) w' → w'.cell? ⟨w.heap.size, 0, none⟩ = some (.int .u32 a) :=
    has_mono ((Gr.refl _).alloc _) (has_new w [.int .u32 a, .int .i64 (cl n : Nat)] 32 0 _ rfl)
  rcases cl_cases n with ⟨h0, hc⟩ | ⟨h0, hc⟩ | ⟨h0, h1, hc⟩
  · rw [hc] at e2 HM d0 d1 ⊢
    simp only [Int.cast_ofNat_Int] at e2 HM d0 d1 ⊢
    clear hc
    go_enter Try.func28, Try.ntmps28
    go_wp2
    have hS0 := (Gr.refl (((w.alloc (.cells #[.int .u32 a, .int .i64 0] 32)).alloc (.cells #[.int .u32 0, .int .i64 0] 32)))).drew
    refine wp_region_planT [(0, true), (1, true), (2, true), (3, true), (4, false), (5, true), (6, true)] (Gr ((w.alloc (.cells #[.int .u32 a, .int .i64 0] 32)).alloc (.cells #[.int .u32 0, .int .i64 0] 32))) (by kernel_rfl) (by kernel_rfl) (by kernel_rfl) (by kernel_rfl) hS0 ?_
    simp only [List.dropLast, planOps, List.getElem?_toArray, List.getElem?_cons_zero, List.getElem?_cons_succ]
    repeat (first
      | (refine wpPlan_skip (by rfl) ?_; (try simp only [Act.put, List.setIfInBounds_toArray, List.set_cons_zero, List.set_cons_succ]))
      | (refine wpPlan_take (by rfl) ?_; apply Exists.intro; refine ⟨fun w' hSw => ?_, ?_⟩; (focus ((try dsimp only at hSw); go_simp; first | done | with_reducible rfl)); (try simp only [Act.put, List.setIfInBounds_toArray, List.set_cons_zero, List.set_cons_succ]))
      | (refine wpPlan_do (by rfl) (fun K hK => ?_); go_simp; (first | (go_at_call 43; refine (HM.out _).mono ?_; rintro e w2 ⟨rfl, rfl⟩)); refine hK _ _ (by first | exact Gr.trans (by assumption) hb2 | assumption | exact Gr.alloc (by assumption) _) (fun hSn => ?_); clear hK K; (try simp only [Act.put, List.setIfInBounds_toArray, List.set_cons_zero, List.set_cons_succ]))
      | (refine wpPlan_do (by rfl) (fun K hK => ?_); go_simp; refine hK _ _ (by first | exact Gr.trans (by assumption) hb2 | assumption | exact Gr.alloc (by assumption) _) (fun hSn => ?_); clear hK K; (try simp only [Act.put, List.setIfInBounds_toArray, List.set_cons_zero, List.set_cons_succ])))
    refine wpPlan_nil ?_
    refine wpLast (i := 7) rfl (by rfl) (fun K hK => ?_); go_simp; refine hK _ _ ?_; clear hK K; (try simp only [Act.put, List.setIfInBounds_toArray, List.set_cons_zero, List.set_cons_succ])
    go_wp2
    refine bodyPost_ret (v := .agg #[.int .u32 (hd a n : Nat), .int .i64 0]) (by simp [results, Try.results28, go_sem]) rfl ⟨rfl, ?_⟩
    first | exact (((Gr.refl _).alloc _).alloc _).drew | trace_state
  · rw [hc] at e2 HM d0 d1 ⊢
    simp only [Int.cast_ofNat_Int] at e2 HM d0 d1 ⊢
    clear hc
    go_enter Try.func28, Try.ntmps28
    go_wp2
    have hS0 := (Gr.refl (((w.alloc (.cells #[.int .u32 a, .int .i64 32] 32)).alloc (.cells #[.int .u32 0, .int .i64 0] 32)))).drew
    refine wp_region_planT [(0, true), (1, true), (2, true), (3, true), (4, false), (5, true), (6, true)] (Gr ((w.alloc (.cells #[.int .u32 a, .int .i64 32] 32)).alloc (.cells #[.int .u32 0, .int .i64 0] 32))) (by kernel_rfl) (by kernel_rfl) (by kernel_rfl) (by kernel_rfl) hS0 ?_
    simp only [List.dropLast, planOps, List.getElem?_toArray, List.getElem?_cons_zero, List.getElem?_cons_succ]
    repeat (first
      | (refine wpPlan_skip (by rfl) ?_; (try simp only [Act.put, List.setIfInBounds_toArray, List.set_cons_zero, List.set_cons_succ]))
      | (refine wpPlan_take (by rfl) ?_; apply Exists.intro; refine ⟨fun w' hSw => ?_, ?_⟩; (focus ((try dsimp only at hSw); go_simp; first | done | with_reducible rfl)); (try simp only [Act.put, List.setIfInBounds_toArray, List.set_cons_zero, List.set_cons_succ]))
      | (refine wpPlan_do (by rfl) (fun K hK => ?_); go_simp; (first | (go_at_call 43; refine (HM.out _).mono ?_; rintro e w2 ⟨rfl, rfl⟩)); refine hK _ _ (by first | exact Gr.trans (by assumption) hb2 | assumption | exact Gr.alloc (by assumption) _) (fun hSn => ?_); clear hK K; (try simp only [Act.put, List.setIfInBounds_toArray, List.set_cons_zero, List.set_cons_succ]))
      | (refine wpPlan_do (by rfl) (fun K hK => ?_); go_simp; refine hK _ _ (by first | exact Gr.trans (by assumption) hb2 | assumption | exact Gr.alloc (by assumption) _) (fun hSn => ?_); clear hK K; (try simp only [Act.put, List.setIfInBounds_toArray, List.set_cons_zero, List.set_cons_succ])))
    refine wpPlan_nil ?_
    refine wpLast (i := 7) rfl (by rfl) (fun K hK => ?_); go_simp; refine hK _ _ ?_; clear hK K; (try simp only [Act.put, List.setIfInBounds_toArray, List.set_cons_zero, List.set_cons_succ])
    go_wp2
    refine bodyPost_ret (v := .agg #[.int .u32 (hd a n : Nat), .int .i64 32]) (by simp [results, Try.results28, go_sem]) rfl ⟨rfl, ?_⟩
    first | exact (((Gr.refl _).alloc _).alloc _).drew | trace_state
  · rw [hc] at HM d0 d1 ⊢
    clear e2
    clear hc
    go_enter Try.func28, Try.ntmps28
    go_wp2
    have hS0 := (Gr.refl (((w.alloc (.cells #[.int .u32 a, .int .i64 n] 32)).alloc (.cells #[.int .u32 0, .int .i64 0] 32)))).drew
    refine wp_region_planT [(0, true), (1, true), (2, true), (3, true), (4, false), (5, true), (6, true)] (Gr ((w.alloc (.cells #[.int .u32 a, .int .i64 n] 32)).alloc (.cells #[.int .u32 0, .int .i64 0] 32))) (by kernel_rfl) (by kernel_rfl) (by kernel_rfl) (by kernel_rfl) hS0 ?_
    simp only [List.dropLast, planOps, List.getElem?_toArray, List.getElem?_cons_zero, List.getElem?_cons_succ]
    repeat (first
      | (refine wpPlan_skip (by rfl) ?_; (try simp only [Act.put, List.setIfInBounds_toArray, List.set_cons_zero, List.set_cons_succ]))
      | (refine wpPlan_take (by rfl) ?_; apply Exists.intro; refine ⟨fun w' hSw => ?_, ?_⟩; (focus ((try dsimp only at hSw); go_simp; first | done | with_reducible rfl)); (try simp only [Act.put, List.setIfInBounds_toArray, List.set_cons_zero, List.set_cons_succ]))
      | (refine wpPlan_do (by rfl) (fun K hK => ?_); go_simp; (first | (go_at_call 43; refine (HM.out _).mono ?_; rintro e w2 ⟨rfl, rfl⟩)); refine hK _ _ (by first | exact Gr.trans (by assumption) hb2 | assumption | exact Gr.alloc (by assumption) _) (fun hSn => ?_); clear hK K; (try simp only [Act.put, List.setIfInBounds_toArray, List.set_cons_zero, List.set_cons_succ]))
      | (refine wpPlan_do (by rfl) (fun K hK => ?_); go_simp; refine hK _ _ (by first | exact Gr.trans (by assumption) hb2 | assumption | exact Gr.alloc (by assumption) _) (fun hSn => ?_); clear hK K; (try simp only [Act.put, List.setIfInBounds_toArray, List.set_cons_zero, List.set_cons_succ])))
    refine wpPlan_nil ?_
    refine wpLast (i := 7) rfl (by rfl) (fun K hK => ?_); go_simp; refine hK _ _ ?_; clear hK K; (try simp only [Act.put, List.setIfInBounds_toArray, List.set_cons_zero, List.set_cons_succ])
    go_wp2
    refine bodyPost_ret (v := .agg #[.int .u32 (hd a n : Nat), .int .i64 n]) (by simp [results, Try.results28, go_sem]) rfl ⟨rfl, ?_⟩
    first | exact (((Gr.refl _).alloc _).alloc _).drew | trace_state
end Go.Proofs.Ytjkagifpnieehaa
