/- A prefix's bytes. -/
import Derived.Test.YtkjpbadlbpfpaaaDoorWire
import Derived.Test.YtkjpbadlbpfpaaaDoorPfx
namespace Go.Proofs.YtkjpbadlbpfpaaaDoor
open Go.RowKit

set_option maxHeartbeats 400000 in
theorem poct (n : Nat) (hn : n ≤ 1099511627776) (w : World) : Calls Tryd.prog 33 #[.int .i64 n] w fun e w' => e = .returned (.int .i64 ((n + 7) / 8 : Nat)) ∧ w = w' := by
  go_enter Tryd.func33, Tryd.ntmps33
  go_wp2
  go_ret
  exact ⟨ret_int (by simp; omega), rfl⟩

/-- a prefix's bytes -/
def pbytes (a : Nat) (n : Int) : List Nat := cl n :: (putB (hd a n) 4).take ((cl n + 7) / 8)

set_option maxHeartbeats 800000 in
theorem pbytes_any (a : Nat) (ha : a < 4294967296) (n : Int) (w : World) :
    Calls Tryd.prog 18 #[.agg #[.int .u32 a, .int .i64 n]] w (Rets w fun v w' => w'.ownsRow w.heap.size 5 1 v (pbytes a n).length (u8s (pbytes a n))) := by
  obtain ⟨i0, hi, hz0, hz1, hz2⟩ := info_parts info_u8
  have hi' := Lib.hid hi
  clear hi
  have HC := Lib.hid fun W => pcanon a ha n W
  have HP := Lib.hid fun W => wput32 (.slice none 0 0) 0 [] (by simp) (hd a n) (by have := hd_le a n; omega) (by decide) W (Rd.nil _ _)
  have hcl := cl_le n
  have HO := Lib.hid fun W => poct (cl n) (by omega) W
  have hk : (cl n + 7) / 8 ≤ 4 := by omega
  have hcw : IntKind.u8.wrap (cl n : Int) = (cl n : Int) := by simp only [IntKind.wrap, IntKind.bits, IntKind.signed]; simp; omega
  clear ha
  go_enter Tryd.func18, Tryd.ntmps18
  go_wp2_with fail
  refine (HC.out _).mono ?_; rintro e w1 ⟨rfl, hb⟩
  have gw := ((Gr.refl w).alloc _).trans hb
  clear hb HC
  go_wp2_with fail
  have d0 := has_new w1 [.int .u32 (hd a n : Nat), .int .i64 (cl n : Nat)] 24 0 _ rfl
  have d1 := has_new w1 [.int .u32 (hd a n : Nat), .int .i64 (cl n : Nat)] 24 1 _ rfl
  replace gw := (gw).alloc (.cells #[.int .u32 (hd a n : Nat), .int .i64 (cl n : Nat)] 24)
  generalize w1.alloc (.cells #[.int .u32 (hd a n : Nat), .int .i64 (cl n : Nat)] 24) = W at *
  have hsz := gw.size
  generalize hkk : (cl n + 7) / 8 = k at *
  have hkk' := Lib.hid hkk
  clear hkk
  have hlit := Lib.hid fun (V : World) (hV : W.heap.size ≤ V.heap.size) => own_lit V [.int .u8 (cl n : Int)] 5 1 1 W.heap.size hV rfl (by decide)
  have hS0 := (Gr.refl (W)).drew
  refine regionH 13 #[false, false, false, false, false, false, false, false, false, false, false, false, false] (Gr W) (by kernel_rfl) rfl rfl ?_
  refine stepH (listed' := #[true, true, true, false, true, true, false, true, true, false, false, false, false]) (fuel := 6) [(0, true), (1, true), (2, true), (4, true), (5, true), (7, true), (8, true)] (by kernel_rfl) rfl (by kernel_rfl) (by assumption) ?_
  simp only [planOps, List.getElem?_toArray, List.getElem?_cons_zero, List.getElem?_cons_succ]
  repeat (first
    | (refine wpPlan_skip (by rfl) ?_; (try simp only [Act.put, List.setIfInBounds_toArray, List.set_cons_zero, List.set_cons_succ]))
    | (refine wpPlan_take (by rfl) ?_; apply Exists.intro; refine ⟨fun w' hSw => ?_, ?_⟩; (focus ((try dsimp only at hSw); go_simp; first | done | with_reducible rfl)); (try simp only [Act.put, List.setIfInBounds_toArray, List.set_cons_zero, List.set_cons_succ]))
    | ((refine wpD_app W (by assumption) (fun _ h => h) (by rfl) 5 i0 (.int .u8 0) 1 1 Tryd.underlying36 hi'.out hz0 hz1 hz2 rfl (by decide) _ 1 _ (by rfl) (by first | exact own_gr hb2 (hlit.out _ (by simp)) | exact hlit.out _ (Gr.size (by assumption))) _ k _ (by rfl) (by first | exact rd2.out | exact Rd.gr ((Gr.refl _).alloc _) rd2.out) (fun u hu => u8s_one _ u (List.mem_of_mem_take hu)) (by unfold maxLen; omega) (by omega) (fun v9 w9 own9 g9 => ?_)); (try simp only [Act.put, List.setIfInBounds_toArray, List.set_cons_zero, List.set_cons_succ]))
    | (refine wpPlan_do (by rfl) (fun K hK => ?_); go_simp; (first | (go_at_call 32; refine (HP.out _).mono ?_; rintro e w2 ⟨v2, rfl, hb2, own2⟩; obtain ⟨g2, c2, hv2, hnc2, hcm2⟩ := own_form own2 (by decide); rw [hv2] at own2 ⊢; clear hv2; have hkc : k ≤ c2 := (by omega); have rd2 := Lib.hid ((Rd.of_own own2).head (k := k) (by omega)); clear own2) | (go_at_call 33; refine (HO.out _).mono ?_; rintro e w2' ⟨rfl, rfl⟩)); refine hK _ _ (by first | exact Gr.trans (by assumption) hb2 | assumption | exact Gr.alloc (by assumption) _) (fun hSn => ?_); clear hK K; (try simp only [Act.put, List.setIfInBounds_toArray, List.set_cons_zero, List.set_cons_succ]))
    | (refine wpPlan_do (by rfl) (fun K hK => ?_); go_simp; refine hK _ _ (by first | exact Gr.trans (by assumption) hb2 | assumption | exact Gr.alloc (by assumption) _) (fun hSn => ?_); clear hK K; (try simp only [Act.put, List.setIfInBounds_toArray, List.set_cons_zero, List.set_cons_succ])))
  refine wpPlan_nil ?_
  intro hSz
  refine branchH (fuel := 5) [3, 6] rfl (by kernel_rfl) rfl (by assumption) ?_
  refine wpEach_cons #[true, true, true, true, true, true, false, true, true, false, false, false, false] (by kernel_rfl) ?_ (wpEach_cons #[true, true, true, false, true, true, true, true, true, false, false, false, false] (by kernel_rfl) ?_ (wpEach_nil))
  simp only [planOps, List.getElem?_toArray, List.getElem?_cons_zero, List.getElem?_cons_succ]
  repeat (first
    | (refine wpPlan_skip (by rfl) ?_; (try simp only [Act.put, List.setIfInBounds_toArray, List.set_cons_zero, List.set_cons_succ]))
    | (refine wpPlan_take (by rfl) ?_; apply Exists.intro; refine ⟨fun w' hSw => ?_, ?_⟩; (focus ((try dsimp only at hSw); go_simp; first | done | with_reducible rfl)); (try simp only [Act.put, List.setIfInBounds_toArray, List.set_cons_zero, List.set_cons_succ]))
    | ((refine wpD_app W (by assumption) (fun _ h => h) (by rfl) 5 i0 (.int .u8 0) 1 1 Tryd.underlying36 hi'.out hz0 hz1 hz2 rfl (by decide) _ 1 _ (by rfl) (by first | exact own_gr hb2 (hlit.out _ (by simp)) | exact hlit.out _ (Gr.size (by assumption))) _ k _ (by rfl) (by first | exact rd2.out | exact Rd.gr ((Gr.refl _).alloc _) rd2.out) (fun u hu => u8s_one _ u (List.mem_of_mem_take hu)) (by unfold maxLen; omega) (by omega) (fun v9 w9 own9 g9 => ?_)); (try simp only [Act.put, List.setIfInBounds_toArray, List.set_cons_zero, List.set_cons_succ]))
    | (refine wpPlan_do (by rfl) (fun K hK => ?_); go_simp; (first | (go_at_call 32; refine (HP.out _).mono ?_; rintro e w2 ⟨v2, rfl, hb2, own2⟩; obtain ⟨g2, c2, hv2, hnc2, hcm2⟩ := own_form own2 (by decide); rw [hv2] at own2 ⊢; clear hv2; have hkc : k ≤ c2 := (by omega); have rd2 := Lib.hid ((Rd.of_own own2).head (k := k) (by omega)); clear own2) | (go_at_call 33; refine (HO.out _).mono ?_; rintro e w2' ⟨rfl, rfl⟩)); refine hK _ _ (by first | exact Gr.trans (by assumption) hb2 | assumption | exact Gr.alloc (by assumption) _) (fun hSn => ?_); clear hK K; (try simp only [Act.put, List.setIfInBounds_toArray, List.set_cons_zero, List.set_cons_succ]))
    | (refine wpPlan_do (by rfl) (fun K hK => ?_); go_simp; refine hK _ _ (by first | exact Gr.trans (by assumption) hb2 | assumption | exact Gr.alloc (by assumption) _) (fun hSn => ?_); clear hK K; (try simp only [Act.put, List.setIfInBounds_toArray, List.set_cons_zero, List.set_cons_succ])))
  refine wpPlan_nil ?_
  intro hSz
  refine stepH (listed' := #[true, true, true, true, true, true, true, true, true, true, true, true, true]) (fuel := 0) [(6, false), (9, false), (10, true), (11, false), (12, true)] (by kernel_rfl) rfl (by kernel_rfl) (by assumption) ?_
  simp only [planOps, List.getElem?_toArray, List.getElem?_cons_zero, List.getElem?_cons_succ]
  repeat (first
    | (refine wpPlan_skip (by rfl) ?_; (try simp only [Act.put, List.setIfInBounds_toArray, List.set_cons_zero, List.set_cons_succ]))
    | (refine wpPlan_take (by rfl) ?_; apply Exists.intro; refine ⟨fun w' hSw => ?_, ?_⟩; (focus ((try dsimp only at hSw); go_simp; first | done | with_reducible rfl)); (try simp only [Act.put, List.setIfInBounds_toArray, List.set_cons_zero, List.set_cons_succ]))
    | ((refine wpD_app W (by assumption) (fun _ h => h) (by rfl) 5 i0 (.int .u8 0) 1 1 Tryd.underlying36 hi'.out hz0 hz1 hz2 rfl (by decide) _ 1 _ (by rfl) (by first | exact own_gr hb2 (hlit.out _ (by simp)) | exact hlit.out _ (Gr.size (by assumption))) _ k _ (by rfl) (by first | exact rd2.out | exact Rd.gr ((Gr.refl _).alloc _) rd2.out) (fun u hu => u8s_one _ u (List.mem_of_mem_take hu)) (by unfold maxLen; omega) (by omega) (fun v9 w9 own9 g9 => ?_)); (try simp only [Act.put, List.setIfInBounds_toArray, List.set_cons_zero, List.set_cons_succ]))
    | (refine wpPlan_do (by rfl) (fun K hK => ?_); go_simp; (first | (go_at_call 32; refine (HP.out _).mono ?_; rintro e w2 ⟨v2, rfl, hb2, own2⟩; obtain ⟨g2, c2, hv2, hnc2, hcm2⟩ := own_form own2 (by decide); rw [hv2] at own2 ⊢; clear hv2; have hkc : k ≤ c2 := (by omega); have rd2 := Lib.hid ((Rd.of_own own2).head (k := k) (by omega)); clear own2) | (go_at_call 33; refine (HO.out _).mono ?_; rintro e w2' ⟨rfl, rfl⟩)); refine hK _ _ (by first | exact Gr.trans (by assumption) hb2 | assumption | exact Gr.alloc (by assumption) _) (fun hSn => ?_); clear hK K; (try simp only [Act.put, List.setIfInBounds_toArray, List.set_cons_zero, List.set_cons_succ]))
    | (refine wpPlan_do (by rfl) (fun K hK => ?_); go_simp; refine hK _ _ (by first | exact Gr.trans (by assumption) hb2 | assumption | exact Gr.alloc (by assumption) _) (fun hSn => ?_); clear hK K; (try simp only [Act.put, List.setIfInBounds_toArray, List.set_cons_zero, List.set_cons_succ])))
  refine wpPlan_nil ?_
  intro hSz
  refine doneH (by kernel_rfl) ?_
  rotate_left
  simp only [planOps, List.getElem?_toArray, List.getElem?_cons_zero, List.getElem?_cons_succ]
  repeat (first
    | (refine wpPlan_skip (by rfl) ?_; (try simp only [Act.put, List.setIfInBounds_toArray, List.set_cons_zero, List.set_cons_succ]))
    | (refine wpPlan_take (by rfl) ?_; apply Exists.intro; refine ⟨fun w' hSw => ?_, ?_⟩; (focus ((try dsimp only at hSw); go_simp; first | done | with_reducible rfl)); (try simp only [Act.put, List.setIfInBounds_toArray, List.set_cons_zero, List.set_cons_succ]))
    | ((refine wpD_app W (by assumption) (fun _ h => h) (by rfl) 5 i0 (.int .u8 0) 1 1 Tryd.underlying36 hi'.out hz0 hz1 hz2 rfl (by decide) _ 1 _ (by rfl) (by first | exact own_gr hb2 (hlit.out _ (by simp)) | exact hlit.out _ (Gr.size (by assumption))) _ k _ (by rfl) (by first | exact rd2.out | exact Rd.gr ((Gr.refl _).alloc _) rd2.out) (fun u hu => u8s_one _ u (List.mem_of_mem_take hu)) (by unfold maxLen; omega) (by omega) (fun v9 w9 own9 g9 => ?_)); (try simp only [Act.put, List.setIfInBounds_toArray, List.set_cons_zero, List.set_cons_succ]))
    | (refine wpPlan_do (by rfl) (fun K hK => ?_); go_simp; (first | (go_at_call 32; refine (HP.out _).mono ?_; rintro e w2 ⟨v2, rfl, hb2, own2⟩; obtain ⟨g2, c2, hv2, hnc2, hcm2⟩ := own_form own2 (by decide); rw [hv2] at own2 ⊢; clear hv2; have hkc : k ≤ c2 := (by omega); have rd2 := Lib.hid ((Rd.of_own own2).head (k := k) (by omega)); clear own2) | (go_at_call 33; refine (HO.out _).mono ?_; rintro e w2' ⟨rfl, rfl⟩)); refine hK _ _ (by first | exact Gr.trans (by assumption) hb2 | assumption | exact Gr.alloc (by assumption) _) (fun hSn => ?_); clear hK K; (try simp only [Act.put, List.setIfInBounds_toArray, List.set_cons_zero, List.set_cons_succ]))
    | (refine wpPlan_do (by rfl) (fun K hK => ?_); go_simp; refine hK _ _ (by first | exact Gr.trans (by assumption) hb2 | assumption | exact Gr.alloc (by assumption) _) (fun hSn => ?_); clear hK K; (try simp only [Act.put, List.setIfInBounds_toArray, List.set_cons_zero, List.set_cons_succ])))
  refine wpPlan_nil ?_
  intro hSz
  refine branchH (fuel := 4) [3, 9] rfl (by kernel_rfl) rfl (by assumption) ?_
  refine wpEach_cons #[true, true, true, true, true, true, true, true, true, false, false, false, false] (by kernel_rfl) ?_ (wpEach_cons #[true, true, true, false, true, true, true, true, true, true, false, false, false] (by kernel_rfl) ?_ (wpEach_nil))
  simp only [planOps, List.getElem?_toArray, List.getElem?_cons_zero, List.getElem?_cons_succ]
  repeat (first
    | (refine wpPlan_skip (by rfl) ?_; (try simp only [Act.put, List.setIfInBounds_toArray, List.set_cons_zero, List.set_cons_succ]))
    | (refine wpPlan_take (by rfl) ?_; apply Exists.intro; refine ⟨fun w' hSw => ?_, ?_⟩; (focus ((try dsimp only at hSw); go_simp; first | done | with_reducible rfl)); (try simp only [Act.put, List.setIfInBounds_toArray, List.set_cons_zero, List.set_cons_succ]))
    | ((refine wpD_app W (by assumption) (fun _ h => h) (by rfl) 5 i0 (.int .u8 0) 1 1 Tryd.underlying36 hi'.out hz0 hz1 hz2 rfl (by decide) _ 1 _ (by rfl) (by first | exact own_gr hb2 (hlit.out _ (by simp)) | exact hlit.out _ (Gr.size (by assumption))) _ k _ (by rfl) (by first | exact rd2.out | exact Rd.gr ((Gr.refl _).alloc _) rd2.out) (fun u hu => u8s_one _ u (List.mem_of_mem_take hu)) (by unfold maxLen; omega) (by omega) (fun v9 w9 own9 g9 => ?_)); (try simp only [Act.put, List.setIfInBounds_toArray, List.set_cons_zero, List.set_cons_succ]))
    | (refine wpPlan_do (by rfl) (fun K hK => ?_); go_simp; (first | (go_at_call 32; refine (HP.out _).mono ?_; rintro e w2 ⟨v2, rfl, hb2, own2⟩; obtain ⟨g2, c2, hv2, hnc2, hcm2⟩ := own_form own2 (by decide); rw [hv2] at own2 ⊢; clear hv2; have hkc : k ≤ c2 := (by omega); have rd2 := Lib.hid ((Rd.of_own own2).head (k := k) (by omega)); clear own2) | (go_at_call 33; refine (HO.out _).mono ?_; rintro e w2' ⟨rfl, rfl⟩)); refine hK _ _ (by first | exact Gr.trans (by assumption) hb2 | assumption | exact Gr.alloc (by assumption) _) (fun hSn => ?_); clear hK K; (try simp only [Act.put, List.setIfInBounds_toArray, List.set_cons_zero, List.set_cons_succ]))
    | (refine wpPlan_do (by rfl) (fun K hK => ?_); go_simp; refine hK _ _ (by first | exact Gr.trans (by assumption) hb2 | assumption | exact Gr.alloc (by assumption) _) (fun hSn => ?_); clear hK K; (try simp only [Act.put, List.setIfInBounds_toArray, List.set_cons_zero, List.set_cons_succ])))
  refine wpPlan_nil ?_
  intro hSz
  refine stepH (listed' := #[true, true, true, true, true, true, true, true, true, true, true, true, true]) (fuel := 0) [(9, false), (10, true), (11, false), (12, true)] (by kernel_rfl) rfl (by kernel_rfl) (by assumption) ?_
  simp only [planOps, List.getElem?_toArray, List.getElem?_cons_zero, List.getElem?_cons_succ]
  repeat (first
    | (refine wpPlan_skip (by rfl) ?_; (try simp only [Act.put, List.setIfInBounds_toArray, List.set_cons_zero, List.set_cons_succ]))
    | (refine wpPlan_take (by rfl) ?_; apply Exists.intro; refine ⟨fun w' hSw => ?_, ?_⟩; (focus ((try dsimp only at hSw); go_simp; first | done | with_reducible rfl)); (try simp only [Act.put, List.setIfInBounds_toArray, List.set_cons_zero, List.set_cons_succ]))
    | ((refine wpD_app W (by assumption) (fun _ h => h) (by rfl) 5 i0 (.int .u8 0) 1 1 Tryd.underlying36 hi'.out hz0 hz1 hz2 rfl (by decide) _ 1 _ (by rfl) (by first | exact own_gr hb2 (hlit.out _ (by simp)) | exact hlit.out _ (Gr.size (by assumption))) _ k _ (by rfl) (by first | exact rd2.out | exact Rd.gr ((Gr.refl _).alloc _) rd2.out) (fun u hu => u8s_one _ u (List.mem_of_mem_take hu)) (by unfold maxLen; omega) (by omega) (fun v9 w9 own9 g9 => ?_)); (try simp only [Act.put, List.setIfInBounds_toArray, List.set_cons_zero, List.set_cons_succ]))
    | (refine wpPlan_do (by rfl) (fun K hK => ?_); go_simp; (first | (go_at_call 32; refine (HP.out _).mono ?_; rintro e w2 ⟨v2, rfl, hb2, own2⟩; obtain ⟨g2, c2, hv2, hnc2, hcm2⟩ := own_form own2 (by decide); rw [hv2] at own2 ⊢; clear hv2; have hkc : k ≤ c2 := (by omega); have rd2 := Lib.hid ((Rd.of_own own2).head (k := k) (by omega)); clear own2) | (go_at_call 33; refine (HO.out _).mono ?_; rintro e w2' ⟨rfl, rfl⟩)); refine hK _ _ (by first | exact Gr.trans (by assumption) hb2 | assumption | exact Gr.alloc (by assumption) _) (fun hSn => ?_); clear hK K; (try simp only [Act.put, List.setIfInBounds_toArray, List.set_cons_zero, List.set_cons_succ]))
    | (refine wpPlan_do (by rfl) (fun K hK => ?_); go_simp; refine hK _ _ (by first | exact Gr.trans (by assumption) hb2 | assumption | exact Gr.alloc (by assumption) _) (fun hSn => ?_); clear hK K; (try simp only [Act.put, List.setIfInBounds_toArray, List.set_cons_zero, List.set_cons_succ])))
  refine wpPlan_nil ?_
  intro hSz
  refine doneH (by kernel_rfl) ?_
  rotate_left
  simp only [planOps, List.getElem?_toArray, List.getElem?_cons_zero, List.getElem?_cons_succ]
  repeat (first
    | (refine wpPlan_skip (by rfl) ?_; (try simp only [Act.put, List.setIfInBounds_toArray, List.set_cons_zero, List.set_cons_succ]))
    | (refine wpPlan_take (by rfl) ?_; apply Exists.intro; refine ⟨fun w' hSw => ?_, ?_⟩; (focus ((try dsimp only at hSw); go_simp; first | done | with_reducible rfl)); (try simp only [Act.put, List.setIfInBounds_toArray, List.set_cons_zero, List.set_cons_succ]))
    | ((refine wpD_app W (by assumption) (fun _ h => h) (by rfl) 5 i0 (.int .u8 0) 1 1 Tryd.underlying36 hi'.out hz0 hz1 hz2 rfl (by decide) _ 1 _ (by rfl) (by first | exact own_gr hb2 (hlit.out _ (by simp)) | exact hlit.out _ (Gr.size (by assumption))) _ k _ (by rfl) (by first | exact rd2.out | exact Rd.gr ((Gr.refl _).alloc _) rd2.out) (fun u hu => u8s_one _ u (List.mem_of_mem_take hu)) (by unfold maxLen; omega) (by omega) (fun v9 w9 own9 g9 => ?_)); (try simp only [Act.put, List.setIfInBounds_toArray, List.set_cons_zero, List.set_cons_succ]))
    | (refine wpPlan_do (by rfl) (fun K hK => ?_); go_simp; (first | (go_at_call 32; refine (HP.out _).mono ?_; rintro e w2 ⟨v2, rfl, hb2, own2⟩; obtain ⟨g2, c2, hv2, hnc2, hcm2⟩ := own_form own2 (by decide); rw [hv2] at own2 ⊢; clear hv2; have hkc : k ≤ c2 := (by omega); have rd2 := Lib.hid ((Rd.of_own own2).head (k := k) (by omega)); clear own2) | (go_at_call 33; refine (HO.out _).mono ?_; rintro e w2' ⟨rfl, rfl⟩)); refine hK _ _ (by first | exact Gr.trans (by assumption) hb2 | assumption | exact Gr.alloc (by assumption) _) (fun hSn => ?_); clear hK K; (try simp only [Act.put, List.setIfInBounds_toArray, List.set_cons_zero, List.set_cons_succ]))
    | (refine wpPlan_do (by rfl) (fun K hK => ?_); go_simp; refine hK _ _ (by first | exact Gr.trans (by assumption) hb2 | assumption | exact Gr.alloc (by assumption) _) (fun hSn => ?_); clear hK K; (try simp only [Act.put, List.setIfInBounds_toArray, List.set_cons_zero, List.set_cons_succ])))
  refine wpPlan_nil ?_
  intro hSz
  refine stepH (listed' := #[true, true, true, true, true, true, true, true, true, true, true, true, true]) (fuel := 0) [(10, true), (3, false), (11, false), (12, true)] (by kernel_rfl) rfl (by kernel_rfl) (by assumption) ?_
  simp only [planOps, List.getElem?_toArray, List.getElem?_cons_zero, List.getElem?_cons_succ]
  repeat (first
    | (refine wpPlan_skip (by rfl) ?_; (try simp only [Act.put, List.setIfInBounds_toArray, List.set_cons_zero, List.set_cons_succ]))
    | (refine wpPlan_take (by rfl) ?_; apply Exists.intro; refine ⟨fun w' hSw => ?_, ?_⟩; (focus ((try dsimp only at hSw); go_simp; first | done | with_reducible rfl)); (try simp only [Act.put, List.setIfInBounds_toArray, List.set_cons_zero, List.set_cons_succ]))
    | ((refine wpD_app W (by assumption) (fun _ h => h) (by rfl) 5 i0 (.int .u8 0) 1 1 Tryd.underlying36 hi'.out hz0 hz1 hz2 rfl (by decide) _ 1 _ (by rfl) (by first | exact own_gr hb2 (hlit.out _ (by simp)) | exact hlit.out _ (Gr.size (by assumption))) _ k _ (by rfl) (by first | exact rd2.out | exact Rd.gr ((Gr.refl _).alloc _) rd2.out) (fun u hu => u8s_one _ u (List.mem_of_mem_take hu)) (by unfold maxLen; omega) (by omega) (fun v9 w9 own9 g9 => ?_)); (try simp only [Act.put, List.setIfInBounds_toArray, List.set_cons_zero, List.set_cons_succ]))
    | (refine wpPlan_do (by rfl) (fun K hK => ?_); go_simp; (first | (go_at_call 32; refine (HP.out _).mono ?_; rintro e w2 ⟨v2, rfl, hb2, own2⟩; obtain ⟨g2, c2, hv2, hnc2, hcm2⟩ := own_form own2 (by decide); rw [hv2] at own2 ⊢; clear hv2; have hkc : k ≤ c2 := (by omega); have rd2 := Lib.hid ((Rd.of_own own2).head (k := k) (by omega)); clear own2) | (go_at_call 33; refine (HO.out _).mono ?_; rintro e w2' ⟨rfl, rfl⟩)); refine hK _ _ (by first | exact Gr.trans (by assumption) hb2 | assumption | exact Gr.alloc (by assumption) _) (fun hSn => ?_); clear hK K; (try simp only [Act.put, List.setIfInBounds_toArray, List.set_cons_zero, List.set_cons_succ]))
    | (refine wpPlan_do (by rfl) (fun K hK => ?_); go_simp; refine hK _ _ (by first | exact Gr.trans (by assumption) hb2 | assumption | exact Gr.alloc (by assumption) _) (fun hSn => ?_); clear hK K; (try simp only [Act.put, List.setIfInBounds_toArray, List.set_cons_zero, List.set_cons_succ])))
  refine wpPlan_nil ?_
  intro hSz
  refine doneH (by kernel_rfl) ?_
  rotate_left
  all_goals
    go_wp2
    go_ret
    refine Rets.mk (gw.trans g9) ?_
    have hle : w.heap.size ≤ W.heap.size := gw.size
    have e1 : (pbytes a n).length = 1 + k := by simp [pbytes, putB, hkk'.out]; omega
    have e2 : u8s (pbytes a n) = [.int .u8 (cl n : Int)] ++ (List.take (k * 1) ([] ++ u8s (putB (hd a n) 4))) := by simp [pbytes, u8s, hkk'.out]
    rw [e1, e2]
    exact own_mono hle own9
end Go.Proofs.YtkjpbadlbpfpaaaDoor
