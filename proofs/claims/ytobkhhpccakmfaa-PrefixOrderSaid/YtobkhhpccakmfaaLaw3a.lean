/- The law PrefixOrder, walked. -/
import Derived.Test.YtobkhhpccakmfaaLives3
import Derived.Deep.DeepCutAuto
namespace Go.Proofs.Ytobkhhpccakmfaa
open Go.RowKit

/-- the bits behind a mask -/
def notN (n : Int) : Nat := 4294967295 - mk n
theorem notN_lt (n : Int) : notN n < 4294967296 := by unfold notN; omega
theorem not_num (n : Int) : bits .xor .u32 (if IntKind.u32.signed = true then -1 else IntKind.u32.max) (mk n : Int) = (notN n : Int) := by
  have h1 := mk_lt n
  have e : (if IntKind.u32.signed = true then -1 else IntKind.u32.max) = ((4294967295 : Nat) : Int) := by decide
  rw [e, u32_xor_nat 4294967295 (mk n) (by decide) h1]
  have : 4294967295 ^^^ mk n = notN n := by
    apply Nat.eq_of_testBit_eq
    intro i
    have hk : 2 ^ (32 - cl n) ≤ 2 ^ 32 := Nat.pow_le_pow_right (by decide) (by omega)
    have h0 : 0 < 2 ^ (32 - cl n) := Nat.two_pow_pos _
    have e2 : notN n = 2 ^ (32 - cl n) - 1 := by unfold notN mk; omega
    have e3 : (4294967295 : Nat) = 2 ^ 32 - 1 := by decide
    have hc := cl_le n
    rw [e2, e3, Nat.testBit_xor, Nat.testBit_two_pow_sub_one, Nat.testBit_two_pow_sub_one]
    unfold mk
    rw [lead_testBit (cl n) i hc]
    rw [Bool.eq_iff_iff]
    by_cases h1 : i < 32 <;> by_cases h2 : 32 - cl n ≤ i <;> simp [h1, h2] <;> omega
  rw [this]
theorem tl_num (b : Nat) (m : Int) (hb : b < 4294967296) : bits .or .u32 (hd b m : Int) (notN m : Int) = (tl b m : Int) := by
  rw [u32_or_nat _ _ (by have := hd_le b m; omega) (notN_lt m)]
  rfl

set_option maxHeartbeats 1600000 in
theorem law_order (a b c : Nat) (ha : a < 4294967296) (hb : b < 4294967296) (hc : c < 4294967296) (n m k : Int) (w : World) :
    Calls Try.prog 3 #[.agg #[.int .u32 a, .int .i64 n], .agg #[.int .u32 b, .int .i64 m], .agg #[.int .u32 c, .int .i64 k]] w fun e w' => e = .returned (.bool true) ∧ Gr w w' := by
  have w11 := withB_self a n
  have h11 := holdB_hd a n
  have t1 := @withB_trans a b c n m k
  have t2 := @withB_both a b n m
  have t3 := @holdB_of_with a b n m
  have t4 := @holdB_tl a b n m
  have H12 := Lib.hid fun W => pwithin a ha n b hb m W
  have H23 := Lib.hid fun W => pwithin b hb m c hc k W
  have H13 := Lib.hid fun W => pwithin a ha n c hc k W
  have H21 := Lib.hid fun W => pwithin b hb m a ha n W
  have H11 := Lib.hid fun W => pwithin a ha n a ha n W
  have C1 := Lib.hid fun W => pcanon a ha n W
  have C2 := Lib.hid fun W => pcanon b hb m W
  have O11 := Lib.hid fun W => pholds a ha n (hd a n) (by have := hd_le a n; omega) W
  have O12 := Lib.hid fun W => pholds a ha n (hd b m) (by have := hd_le b m; omega) W
  have O1t := Lib.hid fun W => pholds a ha n (tl b m) (tl_lt b m hb) W
  rw [w11] at H11
  rw [h11] at O11
  generalize withB a n b m = x1 at *
  generalize withB b m c k = x2 at *
  generalize withB a n c k = x3 at *
  generalize withB b m a n = x4 at *
  have T1 := Lib.hid t1
  have T2 := Lib.hid t2
  have T3 := Lib.hid t3
  have T4 := Lib.hid t4
  clear t1 t2 t3 t4 w11 h11
  have d0 := has_mono (((Gr.refl _).alloc (.cells #[.int .u32 b, .int .i64 m] 24)).alloc (.cells #[.int .u32 c, .int .i64 k] 24)) (has_new w [.int .u32 a, .int .i64 n] 24 0 _ rfl)
  have d1 := has_mono (((Gr.refl _).alloc (.cells #[.int .u32 b, .int .i64 m] 24)).alloc (.cells #[.int .u32 c, .int .i64 k] 24)) (has_new w [.int .u32 a, .int .i64 n] 24 1 _ rfl)
  have d2 := has_mono ((Gr.refl _).alloc (.cells #[.int .u32 c, .int .i64 k] 24)) (has_new (w.alloc (.cells #[.int .u32 a, .int .i64 n] 24)) [.int .u32 b, .int .i64 m] 24 0 _ rfl)
  have d3 := has_mono ((Gr.refl _).alloc (.cells #[.int .u32 c, .int .i64 k] 24)) (has_new (w.alloc (.cells #[.int .u32 a, .int .i64 n] 24)) [.int .u32 b, .int .i64 m] 24 1 _ rfl)
  have d4 := has_new ((w.alloc (.cells #[.int .u32 a, .int .i64 n] 24)).alloc (.cells #[.int .u32 b, .int .i64 m] 24)) [.int .u32 c, .int .i64 k] 24 0 _ rfl
  have d5 := has_new ((w.alloc (.cells #[.int .u32 a, .int .i64 n] 24)).alloc (.cells #[.int .u32 b, .int .i64 m] 24)) [.int .u32 c, .int .i64 k] 24 1 _ rfl
  have gw := (((Gr.refl w).alloc (.cells #[.int .u32 a, .int .i64 n] 24)).alloc (.cells #[.int .u32 b, .int .i64 m] 24)).alloc (.cells #[.int .u32 c, .int .i64 k] 24)
  simp only [World.size_alloc] at d2 d3 d4 d5
  go_enter Try.func3, Try.ntmps3
  go_upto_region 1 with fail
  generalize ((w.alloc (.cells #[.int .u32 a, .int .i64 n] 24)).alloc (.cells #[.int .u32 b, .int .i64 m] 24)).alloc (.cells #[.int .u32 c, .int .i64 k] 24) = W at *
  have g0 := Gr.refl W
  go_cut [21] (fun s21 wx => s21 = .bool false ∧ Gr W wx)
  case first =>
    cases x1
    · go_wp2_with (go_at_call 7; refine (H12.out _).mono ?_; rintro e w1 ⟨rfl, g1⟩)
      go_meet
      exact ⟨rfl, g1⟩
    · cases x2
      · go_wp2_with fail
        refine (H12.out _).mono ?_; rintro e w1 ⟨rfl, g1⟩
        go_wp2_with fail
        refine (H23.out _).mono ?_; rintro e w2 ⟨rfl, g2⟩
        have g12 := g1.trans g2
        go_wp2_with fail
        go_meet
        exact ⟨rfl, g12⟩
      · obtain rfl : x3 = true := T1.out rfl rfl
        go_wp2_with fail
        refine (H12.out _).mono ?_; rintro e w1 ⟨rfl, g1⟩
        go_wp2_with fail
        refine (H23.out _).mono ?_; rintro e w2 ⟨rfl, g2⟩
        have g12 := g1.trans g2
        go_wp2_with fail
        refine (H13.out _).mono ?_; rintro e w3 ⟨rfl, g3⟩
        have g13 := g12.trans g3
        go_wp2_with fail
        go_meet
        exact ⟨rfl, g13⟩
  case rest =>
    obtain ⟨rfl, gx⟩ := hcut
    clear H23 H13 T1
    go_upto_region 3 with fail
    go_cut [36] (fun s36 wx => s36 = .bool false ∧ Gr W wx)
    case first =>
      cases x1
      · have hS0 := gx.drew
        refine wp_region_plan [(0, true), (1, true), (2, false), (3, true), (4, true), (5, true), (6, false), (7, true), (8, true), (9, true), (11, true), (10, false), (12, false), (13, true), (14, true)] (Gr W) (by kernel_rfl) (by kernel_rfl) hS0 ?_
        simp only [planOps, List.getElem?_toArray, List.getElem?_cons_zero, List.getElem?_cons_succ]
        repeat (first
          | (refine wpPlan_skip (by rfl) ?_; (try simp only [Act.put, List.setIfInBounds_toArray, List.set_cons_zero, List.set_cons_succ]))
          | (refine wpPlan_take (by rfl) ?_; apply Exists.intro; refine ⟨fun w' hSw => ?_, ?_⟩; (focus ((try dsimp only at hSw); go_simp; first | done | with_reducible rfl)); (try simp only [Act.put, List.setIfInBounds_toArray, List.set_cons_zero, List.set_cons_succ]))
          | (refine wpPlan_do (by rfl) (fun K hK => ?_); go_simp; (first | (go_at_call 7; first | (with_reducible refine (H12.out _).mono ?_; rintro e w2 ⟨rfl, hb2⟩))); refine hK _ _ (by first | exact Gr.trans (by assumption) hb2 | assumption | exact Gr.alloc (by assumption) _) (fun hSn => ?_); clear hK K; (try simp only [Act.put, List.setIfInBounds_toArray, List.set_cons_zero, List.set_cons_succ]))
          | (refine wpPlan_do (by rfl) (fun K hK => ?_); go_simp; refine hK _ _ (by first | exact Gr.trans (by assumption) hb2 | assumption | exact Gr.alloc (by assumption) _) (fun hSn => ?_); clear hK K; (try simp only [Act.put, List.setIfInBounds_toArray, List.set_cons_zero, List.set_cons_succ])))
        refine wpPlan_nil ?_
        go_wp2_with fail
        go_meet
        exact ⟨rfl, by assumption⟩
      · cases x4
        · have hS0 := gx.drew
          refine wp_region_plan [(0, true), (1, true), (2, false), (3, true), (4, true), (5, true), (6, false), (7, true), (8, true), (9, true), (11, true), (10, false), (12, false), (13, true), (14, true)] (Gr W) (by kernel_rfl) (by kernel_rfl) hS0 ?_
          simp only [planOps, List.getElem?_toArray, List.getElem?_cons_zero, List.getElem?_cons_succ]
          repeat (first
            | (refine wpPlan_skip (by rfl) ?_; (try simp only [Act.put, List.setIfInBounds_toArray, List.set_cons_zero, List.set_cons_succ]))
            | (refine wpPlan_take (by rfl) ?_; apply Exists.intro; refine ⟨fun w' hSw => ?_, ?_⟩; (focus ((try dsimp only at hSw); go_simp; first | done | with_reducible rfl)); (try simp only [Act.put, List.setIfInBounds_toArray, List.set_cons_zero, List.set_cons_succ]))
            | (refine wpPlan_do (by rfl) (fun K hK => ?_); go_simp; (first | (go_at_call 7; first | (with_reducible refine (H12.out _).mono ?_; rintro e w2 ⟨rfl, hb2⟩) | (with_reducible refine (H21.out _).mono ?_; rintro e w2 ⟨rfl, hb2⟩))); refine hK _ _ (by first | exact Gr.trans (by assumption) hb2 | assumption | exact Gr.alloc (by assumption) _) (fun hSn => ?_); clear hK K; (try simp only [Act.put, List.setIfInBounds_toArray, List.set_cons_zero, List.set_cons_succ]))
            | (refine wpPlan_do (by rfl) (fun K hK => ?_); go_simp; refine hK _ _ (by first | exact Gr.trans (by assumption) hb2 | assumption | exact Gr.alloc (by assumption) _) (fun hSn => ?_); clear hK K; (try simp only [Act.put, List.setIfInBounds_toArray, List.set_cons_zero, List.set_cons_succ])))
          refine wpPlan_nil ?_
          go_wp2_with fail
          go_meet
          exact ⟨rfl, by assumption⟩
        · have t2 := T2.out rfl rfl
          have e1 := Lib.hid (show ((hd a n : Nat) : Int) = (hd b m : Nat) by rw [t2.1])
          have e2 := Lib.hid (show ((cl n : Nat) : Int) = (cl m : Nat) by rw [t2.2])
          clear t2
          rw [e1.out, e2.out] at C1
          have hS0 := gx.drew
          refine wp_region_plan [(0, true), (1, true), (2, false), (3, true), (4, true), (5, true), (6, false), (7, true), (8, true), (9, true), (11, true), (10, false), (12, false), (13, true), (14, true)] (Gr W) (by kernel_rfl) (by kernel_rfl) hS0 ?_
          simp only [planOps, List.getElem?_toArray, List.getElem?_cons_zero, List.getElem?_cons_succ]
          repeat (first
            | (refine wpPlan_skip (by rfl) ?_; (try simp only [Act.put, List.setIfInBounds_toArray, List.set_cons_zero, List.set_cons_succ]))
            | (refine wpPlan_take (by rfl) ?_; apply Exists.intro; refine ⟨fun w' hSw => ?_, ?_⟩; (focus ((try dsimp only at hSw); go_simp; first | done | with_reducible rfl)); (try simp only [Act.put, List.setIfInBounds_toArray, List.set_cons_zero, List.set_cons_succ]))
            | (refine wpPlan_do (by rfl) (fun K hK => ?_); go_simp; (first | (go_at_call 7; first | (with_reducible refine (H12.out _).mono ?_; rintro e w2 ⟨rfl, hb2⟩) | (with_reducible refine (H21.out _).mono ?_; rintro e w2 ⟨rfl, hb2⟩)) | (go_at_call 8; first | (with_reducible refine (C1.out _).mono ?_; rintro e w2 ⟨rfl, hb2⟩) | (with_reducible refine (C2.out _).mono ?_; rintro e w2 ⟨rfl, hb2⟩))); refine hK _ _ (by first | exact Gr.trans (by assumption) hb2 | assumption | exact Gr.alloc (by assumption) _) (fun hSn => ?_); clear hK K; (try simp only [Act.put, List.setIfInBounds_toArray, List.set_cons_zero, List.set_cons_succ]))
            | (refine wpPlan_do (by rfl) (fun K hK => ?_); go_simp; refine hK _ _ (by first | exact Gr.trans (by assumption) hb2 | assumption | exact Gr.alloc (by assumption) _) (fun hSn => ?_); clear hK K; (try simp only [Act.put, List.setIfInBounds_toArray, List.set_cons_zero, List.set_cons_succ])))
          refine wpPlan_nil ?_
          go_wp2_with fail
          go_meet
          exact ⟨rfl, by assumption⟩
    case rest =>
      obtain ⟨rfl, gy⟩ := hcut
      clear H21 T2 gx
      go_upto_region 5 with fail
      go_cut [48] (fun s48 wx => s48 = .bool false ∧ Gr W wx)
      case first =>
        have hS0 := gy.drew
        refine wp_region_plan [(0, true), (1, true), (2, false), (3, true), (4, true), (5, true), (6, true), (7, false), (8, true), (9, false), (10, true), (11, true)] (Gr W) (by kernel_rfl) (by kernel_rfl) hS0 ?_
        simp only [planOps, List.getElem?_toArray, List.getElem?_cons_zero, List.getElem?_cons_succ]
        repeat (first
          | (refine wpPlan_skip (by rfl) ?_; (try simp only [Act.put, List.setIfInBounds_toArray, List.set_cons_zero, List.set_cons_succ]))
          | (refine wpPlan_take (by rfl) ?_; apply Exists.intro; refine ⟨fun w' hSw => ?_, ?_⟩; (focus ((try dsimp only at hSw); go_simp; first | done | with_reducible rfl)); (try simp only [Act.put, List.setIfInBounds_toArray, List.set_cons_zero, List.set_cons_succ]))
          | (refine wpPlan_do (by rfl) (fun K hK => ?_); go_simp; (first | (go_at_call 7; first | (with_reducible refine (H11.out _).mono ?_; rintro e w2 ⟨rfl, hb2⟩)) | (go_at_call 8; first | (with_reducible refine (C1.out _).mono ?_; rintro e w2 ⟨rfl, hb2⟩)) | (go_at_call 9; first | (with_reducible refine (O11.out _).mono ?_; rintro e w2 ⟨rfl, hb2⟩))); refine hK _ _ (by first | exact Gr.trans (by assumption) hb2 | assumption | exact Gr.alloc (by assumption) _) (fun hSn => ?_); clear hK K; (try simp only [Act.put, List.setIfInBounds_toArray, List.set_cons_zero, List.set_cons_succ]))
          | (refine wpPlan_do (by rfl) (fun K hK => ?_); go_simp; refine hK _ _ (by first | exact Gr.trans (by assumption) hb2 | assumption | exact Gr.alloc (by assumption) _) (fun hSn => ?_); clear hK K; (try simp only [Act.put, List.setIfInBounds_toArray, List.set_cons_zero, List.set_cons_succ])))
        refine wpPlan_nil ?_
        go_wp2_with fail
        go_meet
        exact ⟨rfl, by assumption⟩
      case rest =>
        obtain ⟨rfl, gz⟩ := hcut
        clear gy H11 O11 C1
        go_wp2_with fail
        refine (C2.out _).mono ?_; rintro e w1 ⟨rfl, hb1⟩
        have g1 := gz.trans hb1
        clear gz hb1 C2
        have e3 := not_num m
        have e4 := congrArg (fun x : Nat => (x : Int)) (mk_cl m)
        have e5 := tl_num b m hb
        go_wp2_with fail
        have gv := gw.trans g1
        have d6 := has_new w1 [.int .u32 (hd b m : Nat), .int .i64 (cl m : Nat)] 24 0 _ rfl
        have d7 := has_new w1 [.int .u32 (hd b m : Nat), .int .i64 (cl m : Nat)] 24 1 _ rfl
        replace d0 := has_mono ((g1).alloc (.cells #[.int .u32 (hd b m : Nat), .int .i64 (cl m : Nat)] 24)) d0
        replace d1 := has_mono ((g1).alloc (.cells #[.int .u32 (hd b m : Nat), .int .i64 (cl m : Nat)] 24)) d1
        replace d2 := has_mono ((g1).alloc (.cells #[.int .u32 (hd b m : Nat), .int .i64 (cl m : Nat)] 24)) d2
        replace d3 := has_mono ((g1).alloc (.cells #[.int .u32 (hd b m : Nat), .int .i64 (cl m : Nat)] 24)) d3
        replace gv := (gv).alloc (.cells #[.int .u32 (hd b m : Nat), .int .i64 (cl m : Nat)] 24)
        generalize w1.alloc (.cells #[.int .u32 (hd b m : Nat), .int .i64 (cl m : Nat)] 24) = V at *
        clear g1
        cases x1
        · have hS0 := (Gr.refl (V)).drew
          refine wp_region_plan [(0, true), (1, true), (2, false), (3, true), (4, true), (5, true), (6, true), (7, true), (8, false), (9, true), (10, true), (11, true), (12, true), (13, true), (14, true), (15, false), (16, true), (17, true), (18, false), (19, true), (20, true), (21, true), (22, false), (23, true), (24, true)] (Gr V) (by kernel_rfl) (by kernel_rfl) hS0 ?_
          simp only [planOps, List.getElem?_toArray, List.getElem?_cons_zero, List.getElem?_cons_succ]
          repeat (first
            | (refine wpPlan_skip (by rfl) ?_; (try simp only [Act.put, List.setIfInBounds_toArray, List.set_cons_zero, List.set_cons_succ]))
            | (refine wpPlan_take (by rfl) ?_; apply Exists.intro; refine ⟨fun w' hSw => ?_, ?_⟩; (focus ((try dsimp only at hSw); go_simp; first | done | with_reducible rfl)); (try simp only [Act.put, List.setIfInBounds_toArray, List.set_cons_zero, List.set_cons_succ]))
            | (refine wpPlan_do (by rfl) (fun K hK => ?_); go_simp; (first | (go_at_call 7; first | (with_reducible refine (H12.out _).mono ?_; rintro e w2 ⟨rfl, hb2⟩)) | (go_at_call 10; refine (pmask _ _).mono ?_; rintro e w2 ⟨rfl, rfl⟩) | (go_at_call 11; refine (lives3 _).mono ?_; rintro e w2 ⟨rfl, hb2⟩)); refine hK _ _ (by first | exact Gr.trans (by assumption) hb2 | assumption | exact Gr.alloc (by assumption) _) (fun hSn => ?_); clear hK K; (try simp only [Act.put, List.setIfInBounds_toArray, List.set_cons_zero, List.set_cons_succ]))
            | (refine wpPlan_do (by rfl) (fun K hK => ?_); go_simp; refine hK _ _ (by first | exact Gr.trans (by assumption) hb2 | assumption | exact Gr.alloc (by assumption) _) (fun hSn => ?_); clear hK K; (try simp only [Act.put, List.setIfInBounds_toArray, List.set_cons_zero, List.set_cons_succ])))
          refine wpPlan_nil ?_
          go_wp2
          go_ret
          exact ⟨rfl, gv.trans (by assumption)⟩
        · rw [T3.out rfl] at O12
          rw [T4.out rfl] at O1t
          have hS0 := (Gr.refl (V)).drew
          refine wp_region_plan [(0, true), (1, true), (2, false), (3, true), (4, true), (5, true), (6, true), (7, true), (8, false), (9, true), (10, true), (11, true), (12, true), (13, true), (14, true), (15, false), (16, true), (17, true), (18, false), (19, true), (20, true), (21, true), (22, false), (23, true), (24, true)] (Gr V) (by kernel_rfl) (by kernel_rfl) hS0 ?_
          simp only [planOps, List.getElem?_toArray, List.getElem?_cons_zero, List.getElem?_cons_succ]
          repeat (first
            | (refine wpPlan_skip (by rfl) ?_; (try simp only [Act.put, List.setIfInBounds_toArray, List.set_cons_zero, List.set_cons_succ]))
            | (refine wpPlan_take (by rfl) ?_; apply Exists.intro; refine ⟨fun w' hSw => ?_, ?_⟩; (focus ((try dsimp only at hSw); go_simp; first | done | with_reducible rfl)); (try simp only [Act.put, List.setIfInBounds_toArray, List.set_cons_zero, List.set_cons_succ]))
            | (refine wpPlan_do (by rfl) (fun K hK => ?_); go_simp; (first | (go_at_call 7; first | (with_reducible refine (H12.out _).mono ?_; rintro e w2 ⟨rfl, hb2⟩)) | (go_at_call 9; first | (with_reducible refine (O12.out _).mono ?_; rintro e w2 ⟨rfl, hb2⟩) | (with_reducible refine (O1t.out _).mono ?_; rintro e w2 ⟨rfl, hb2⟩)) | (go_at_call 10; refine (pmask _ _).mono ?_; rintro e w2 ⟨rfl, rfl⟩) | (go_at_call 11; refine (lives3 _).mono ?_; rintro e w2 ⟨rfl, hb2⟩)); refine hK _ _ (by first | exact Gr.trans (by assumption) hb2 | assumption | exact Gr.alloc (by assumption) _) (fun hSn => ?_); clear hK K; (try simp only [Act.put, List.setIfInBounds_toArray, List.set_cons_zero, List.set_cons_succ]))
            | (refine wpPlan_do (by rfl) (fun K hK => ?_); go_simp; refine hK _ _ (by first | exact Gr.trans (by assumption) hb2 | assumption | exact Gr.alloc (by assumption) _) (fun hSn => ?_); clear hK K; (try simp only [Act.put, List.setIfInBounds_toArray, List.set_cons_zero, List.set_cons_succ])))
          refine wpPlan_nil ?_
          go_wp2
          go_ret
          exact ⟨rfl, gv.trans (by assumption)⟩
end Go.Proofs.Ytobkhhpccakmfaa
