/- The walks of package prefix's numbers: masks, canonical forms, what holds what. -/
import Derived.Test.YtkjpbadlbpfpaaaDoorBase
import Derived.Test.YtkjpbadlbpfpaaaDoorMath
import Derived.Test.YtkjpbadlbpfpaaaDoorPlan
namespace Go.Proofs.YtkjpbadlbpfpaaaDoor
open Go.RowKit

@[go_sem] theorem fld_pfx0 (x y : Value) (w : World) : (Instr.field 24 (.agg #[x, y]) 0).run Tryd.prog w = .ok x w := by kernel_rfl
@[go_sem] theorem fld_pfx1 (x y : Value) (w : World) : (Instr.field 24 (.agg #[x, y]) 1).run Tryd.prog w = .ok y w := by kernel_rfl

theorem eqs_pfx (d : Nat) (a b n m : Int) (w : World) : (Op.equalIn (d + 2) 24 (.agg #[.int .u32 a, .int .i64 n]) (.agg #[.int .u32 b, .int .i64 m])).run Tryd.prog w = .ok (a == b && (n == m && true)) w := by
  have hp : Tryd.prog.stoodInHeld 24 = false := by kernel_rfl
  rw [run_equalIn_struct w (d + 1) _ _ _ (by kernel_rfl) hp]
  unfold Program.fieldsOf
  rw [Tryd.underlying24]
  exact eqf_cons (a := .int .u32 a) (b := .int .u32 b) (by kernel_rfl) (by kernel_rfl) (run_equalIn_int w d _ .u32 .u32 a b Tryd.underlying22)
    (eqf_cons (a := .int .i64 n) (b := .int .i64 m) (by kernel_rfl) (by kernel_rfl) (run_equalIn_int w d _ .i64 .i64 n m Tryd.underlying3) (eqf_nil _ _ _ _) (by decide)) (by decide)

@[go_sem high] theorem eql_pfx (a b n m : Int) (w : World) : (binOp .eql 24 (.agg #[.int .u32 a, .int .i64 n]) (.agg #[.int .u32 b, .int .i64 m])).run Tryd.prog w = .ok (.bool (a == b && n == m)) w := by
  rw [run_eql_struct, eqs_pfx 9998]; simp
@[go_sem high] theorem neq_pfx (a b n m : Int) (w : World) : (binOp .neq 24 (.agg #[.int .u32 a, .int .i64 n]) (.agg #[.int .u32 b, .int .i64 m])).run Tryd.prog w = .ok (.bool (!(a == b && n == m))) w := by
  rw [run_neq_struct, eqs_pfx 9998]; simp
@[go_sem] theorem grd_pfx : Tryd.prog.eqGuardType Tryd.prog.depth 24 = false := by kernel_rfl

theorem mask_num (c : Nat) (h : c ≤ 32) : IntKind.u64.wrap (4294967296 - IntKind.u64.wrap ((2 : Int) ^ (32 - c))) % 4294967296 = ((2 ^ 32 - 2 ^ (32 - c) : Nat) : Int) := by
  have h1 : 2 ^ (32 - c) ≤ 2 ^ 32 := Nat.pow_le_pow_right (by decide) (by omega)
  have h2 : 0 < 2 ^ (32 - c) := Nat.two_pow_pos _
  have e : ((2 : Int) ^ (32 - c)) = ((2 ^ (32 - c) : Nat) : Int) := by simp
  rw [e]
  generalize 2 ^ (32 - c) = x at *
  simp only [IntKind.wrap, IntKind.bits, IntKind.signed]
  simp
  omega

set_option maxHeartbeats 400000 in
theorem pmask (n : Int) (w : World) :
    Calls Tryd.prog 31 #[.int .i64 n] w fun e w' => e = .returned (.int .u32 (mkN n)) ∧ w = w' := by
  have hm := mask_num (cl n) (cl_le n)
  have key : ∀ x : Int, x = (cl n : Int) → IntKind.u64.wrap (4294967296 - IntKind.u64.wrap ((2 : Int) ^ (32 - x).toNat)) % 4294967296 = (mkN n : Int) := by
    intro x hx
    have : (32 - x).toNat = 32 - cl n := by have := cl_le n; omega
    rw [this]; exact hm
  clear hm
  by_cases h0 : n < 0
  · have k0 := Lib.hid (key 0 (by simp [cl, h0]))
    clear key
    go_enter Tryd.func31, Tryd.ntmps31
    go_wp2
    go_ret
    exact ⟨ret_int k0.out, rfl⟩
  · by_cases h1 : 32 < n
    · have k0 := Lib.hid (key 32 (by simp [cl, h0, h1]))
      clear key
      go_enter Tryd.func31, Tryd.ntmps31
      go_wp2
      go_ret
      exact ⟨ret_int k0.out, rfl⟩
    · have k0 := Lib.hid (key n (by simp [cl, h0, h1]; omega))
      clear key
      go_enter Tryd.func31, Tryd.ntmps31
      go_wp2
      go_ret
      exact ⟨ret_int k0.out, rfl⟩

theorem and_mk_bits (a : Nat) (n : Int) (ha : a < 4294967296) : bits .and .u32 (a : Int) (mkN n : Int) = (hd a n : Int) := by
  rw [u32_and_nat a (mkN n) ha (mk_lt n), and_mk a n ha]

/-- Go's max(n, 0), under a name that the walk does not part on -/
def m0 (n : Int) : Int := if n < 0 then 0 else n
theorem m0_form (n : Int) : (if n < 0 then 0 else n) = m0 n := rfl
theorem cl_form (n : Int) : (if (32 : Int) < m0 n then 32 else m0 n) = (cl n : Int) := by
  unfold m0
  rcases cl_cases n with ⟨h0, hc⟩ | ⟨h0, hc⟩ | ⟨h0, h1, hc⟩
  · rw [hc, if_pos h0, if_neg (by decide)]; rfl
  · have h : ¬ n < 0 := by omega
    rw [hc, if_neg h, if_pos h0]; rfl
  · have h : ¬ n < 0 := by omega
    have h' : ¬ 32 < n := by omega
    rw [hc, if_neg h, if_neg h']
theorem mk_cl (n : Int) : mkN (cl n) = mkN n := by unfold mkN; rw [cl_cl]

set_option maxHeartbeats 400000 in
theorem pcanon (a : Nat) (ha : a < 4294967296) (n : Int) (w : World) :
    Calls Tryd.prog 16 #[.agg #[.int .u32 a, .int .i64 n]] w fun e w' => e = .returned (.agg #[.int .u32 (hd a n : Nat), .int .i64 (cl n : Nat)]) ∧ Gr w w' := by
  have e1 := and_mk_bits a n ha
  have e0 := cl_form n
  have e00 := m0_form n
  have e2 := congrArg (fun x : Nat => (x : Int)) (mk_cl n)
  clear ha
  go_enter Tryd.func16, Tryd.ntmps16
  go_wp2
  go_region_held3 (fun w' => w'.cell? ⟨w.heap.size, 0, none⟩ = some (.int .u32 a)) (first | (go_simp; done) | assumption) (first | (go_at_call 31; refine (pmask _ _).mono ?_; rintro e w' ⟨rfl, rfl⟩))
  go_wp2
  refine bodyPost_ret (v := .agg #[.int .u32 (hd a n : Nat), .int .i64 (cl n : Nat)]) (by simp [results, Tryd.results16, go_sem]) rfl ⟨rfl, ?_⟩
  exact (((Gr.refl _).alloc _).alloc _).drew

theorem hold_num (a : Nat) (n : Int) (x : Nat) (ha : a < 4294967296) (hx : x < 4294967296) :
    (bits .and .u32 (bits .xor .u32 (x : Int) (hd a n : Int)) (mkN n : Int) == (0 : Int)) = holdB a n x := by
  have h1 := hd_le a n
  have h2 : x ^^^ hd a n < 2 ^ 32 := Nat.xor_lt_two_pow (by simpa using hx) (by simp; omega)
  rw [u32_xor_nat x (hd a n) hx (by omega), u32_and_nat _ (mkN n) (by simpa using h2) (mk_lt n)]
  unfold holdB
  rw [Bool.eq_iff_iff]
  simp only [beq_iff_eq]
  rw [show ((0 : Int) = ((0 : Nat) : Int)) from rfl, Int.ofNat_inj, xor_and_zero, and_mk x n hx, and_mk _ n (by omega), hd_hd]

set_option maxHeartbeats 400000 in
theorem pholds (a : Nat) (ha : a < 4294967296) (n : Int) (x : Nat) (hx : x < 4294967296) (w : World) :
    Calls Tryd.prog 34 #[.agg #[.int .u32 a, .int .i64 n], .int .u32 x] w fun e w' => e = .returned (.bool (holdB a n x)) ∧ Gr w w' := by
  have e1 := hold_num a n x ha hx
  have e2 := congrArg (fun x : Nat => (x : Int)) (mk_cl n)
  have hc := fun W => pcanon a ha n W
  clear ha hx
  have HC := Lib.hid hc; clear hc
  go_enter Tryd.func34, Tryd.ntmps34
  go_wp2_with fail
  refine (HC.out _).mono ?_; rintro e w1 ⟨rfl, hb⟩
  obtain ⟨hcl, hfr⟩ := hb.cells
  go_wp2_with fail
  go_region_held3 (fun w' => w'.cell? ⟨w1.heap.size, 0, none⟩ = some (.int .u32 (hd a n : Nat)) ∧ w'.cell? ⟨w1.heap.size, 1, none⟩ = some (.int .i64 (cl n : Nat))) (first | (go_simp; done) | assumption) (first | (go_at_call 31; refine (pmask _ _).mono ?_; rintro e w' ⟨rfl, rfl⟩))
  go_wp2
  go_ret
  exact ⟨rfl, ((((Gr.refl _).alloc _).trans hb).alloc _).drew⟩


set_option maxHeartbeats 400000 in
theorem pwithin (a : Nat) (ha : a < 4294967296) (n : Int) (b : Nat) (hb : b < 4294967296) (m : Int) (w : World) :
    Calls Tryd.prog 19 #[.agg #[.int .u32 a, .int .i64 n], .agg #[.int .u32 b, .int .i64 m]] w fun e w' => e = .returned (.bool (withB a n b m)) ∧ Gr w w' := by
  have HC := Lib.hid fun W => pcanon a ha n W
  have HD := Lib.hid fun W => pcanon b hb m W
  have HH := Lib.hid fun W => pholds a ha n (hd b m) (by have := hd_le b m; omega) W
  clear ha hb
  have d0 := has_new w [.int .u32 a, .int .i64 n] 24 0 _ rfl
  have d1 := has_new w [.int .u32 a, .int .i64 n] 24 1 _ rfl
  go_enter Tryd.func19, Tryd.ntmps19
  go_wp2_with fail
  refine (HD.out _).mono ?_; rintro e w1 ⟨rfl, hb⟩
  have e0 : withB a n b m = if cl n ≤ cl m then holdB a n (hd b m) else false := by
    unfold withB; by_cases h : cl n ≤ cl m <;> simp [h]
  have g1 := (((Gr.refl (w.alloc (.cells #[.int .u32 a, .int .i64 n] 24))).alloc _).trans hb)
  have gw := ((((Gr.refl w).alloc (.cells #[.int .u32 a, .int .i64 n] 24)).alloc _).trans hb)
  go_wp2_with fail
  have d2 := has_new w1 [.int .u32 (hd b m : Nat), .int .i64 (cl m : Nat)] 24 0 _ rfl
  have d3 := has_new w1 [.int .u32 (hd b m : Nat), .int .i64 (cl m : Nat)] 24 1 _ rfl
  replace d0 := has_mono ((g1).alloc (.cells #[.int .u32 (hd b m : Nat), .int .i64 (cl m : Nat)] 24)) d0
  replace d1 := has_mono ((g1).alloc (.cells #[.int .u32 (hd b m : Nat), .int .i64 (cl m : Nat)] 24)) d1
  replace gw := (gw).alloc (.cells #[.int .u32 (hd b m : Nat), .int .i64 (cl m : Nat)] 24)
  generalize w1.alloc (.cells #[.int .u32 (hd b m : Nat), .int .i64 (cl m : Nat)] 24) = W at *
  clear g1 hb HD
  by_cases hle : cl n ≤ cl m
  · rw [if_pos hle] at e0
    have e1 := Lib.hid e0
    clear e0
    have hd0 : decide ((cl n : Int) ≤ (cl m : Int)) = true := by simp; exact hle
    have hS0 := (Gr.refl W).drew
    refine wp_region_plan [(0, true), (1, true), (2, true), (3, false), (4, true), (5, true), (6, true), (7, true), (8, true), (9, true), (10, false), (11, true), (12, true)] (Gr W) (by kernel_rfl) (by kernel_rfl) hS0 ?_
    simp only [planOps, List.getElem?_toArray, List.getElem?_cons_zero, List.getElem?_cons_succ]
    repeat (first
      | (refine wpPlan_skip (by rfl) ?_; (try simp only [Act.put, List.setIfInBounds_toArray, List.set_cons_zero, List.set_cons_succ]))
      | (refine wpPlan_take (by rfl) ?_; apply Exists.intro; refine ⟨fun w' hSw => ?_, ?_⟩; (focus ((try dsimp only at hSw); go_simp; first | done | with_reducible rfl)); (try simp only [Act.put, List.setIfInBounds_toArray, List.set_cons_zero, List.set_cons_succ]))
      | (refine wpPlan_do (by rfl) (fun K hK => ?_); go_simp; (first | (go_at_call 16; refine (HC.out _).mono ?_; rintro e w2 ⟨rfl, hb2⟩) | (go_at_call 34; refine (HH.out _).mono ?_; rintro e w2 ⟨rfl, hb2⟩)); refine hK _ _ (by first | exact Gr.trans (by assumption) hb2 | assumption | exact Gr.alloc (by assumption) _) (fun hSn => ?_); clear hK K; (try simp only [Act.put, List.setIfInBounds_toArray, List.set_cons_zero, List.set_cons_succ]))
      | (refine wpPlan_do (by rfl) (fun K hK => ?_); go_simp; refine hK _ _ (by first | exact Gr.trans (by assumption) hb2 | assumption | exact Gr.alloc (by assumption) _) (fun hSn => ?_); clear hK K; (try simp only [Act.put, List.setIfInBounds_toArray, List.set_cons_zero, List.set_cons_succ])))
    refine wpPlan_nil ?_
    go_wp2
    go_ret
    exact ⟨by rw [e1.out]; rfl, gw.trans (by assumption)⟩
  · rw [if_neg hle] at e0
    have e1 := Lib.hid e0
    clear e0
    have hd0 : decide ((cl n : Int) ≤ (cl m : Int)) = false := by simp; omega
    have hS0 := (Gr.refl W).drew
    refine wp_region_plan [(0, true), (1, true), (2, true), (3, false), (4, true), (5, true), (6, true), (7, true), (8, true), (9, true), (10, false), (11, true), (12, true)] (Gr W) (by kernel_rfl) (by kernel_rfl) hS0 ?_
    simp only [planOps, List.getElem?_toArray, List.getElem?_cons_zero, List.getElem?_cons_succ]
    repeat (first
      | (refine wpPlan_skip (by rfl) ?_; (try simp only [Act.put, List.setIfInBounds_toArray, List.set_cons_zero, List.set_cons_succ]))
      | (refine wpPlan_take (by rfl) ?_; apply Exists.intro; refine ⟨fun w' hSw => ?_, ?_⟩; (focus ((try dsimp only at hSw); go_simp; first | done | with_reducible rfl)); (try simp only [Act.put, List.setIfInBounds_toArray, List.set_cons_zero, List.set_cons_succ]))
      | (refine wpPlan_do (by rfl) (fun K hK => ?_); go_simp; (first | (go_at_call 16; refine (HC.out _).mono ?_; rintro e w2 ⟨rfl, hb2⟩)); refine hK _ _ (by first | exact Gr.trans (by assumption) hb2 | assumption | exact Gr.alloc (by assumption) _) (fun hSn => ?_); clear hK K; (try simp only [Act.put, List.setIfInBounds_toArray, List.set_cons_zero, List.set_cons_succ]))
      | (refine wpPlan_do (by rfl) (fun K hK => ?_); go_simp; refine hK _ _ (by first | exact Gr.trans (by assumption) hb2 | assumption | exact Gr.alloc (by assumption) _) (fun hSn => ?_); clear hK K; (try simp only [Act.put, List.setIfInBounds_toArray, List.set_cons_zero, List.set_cons_succ])))
    refine wpPlan_nil ?_
    go_wp2
    go_ret
    exact ⟨by rw [e1.out]; rfl, gw.trans (by assumption)⟩

end Go.Proofs.YtkjpbadlbpfpaaaDoor
