/- How two sites stand, as able's sort asks it. -/
import Derived.Test.YtgconkbnokbinaaBlock
import Derived.Test.YtgconkbnokbinaaPlan
import Derived.Test.YtgconkbnokbinaaGd
namespace Go.Proofs.Ytgconkbnokbinaa
open Go.RowKit

/-- how two numbers stand -/
def cmpZ (a b : Int) : Int := if a < b then -1 else if b < a then 1 else 0
set_option maxHeartbeats 400000 in
theorem ccmpI (a b : Int) (w : World) : Calls Try.prog 37 #[.int .i64 a, .int .i64 b] w fun e w' => e = .returned (.int .i64 (cmpZ a b)) ∧ w = w' := by
  go_enter Try.func37, Try.ntmps37
  go_wp2
  all_goals (go_ret; exact ⟨ret_int (by unfold cmpZ; first | rw [if_pos ‹_›] | rw [if_neg (by omega), if_pos (by omega)] | rw [if_neg (by omega), if_neg (by omega)]), rfl⟩)

/-- the first that is not 0 -/
def orL : List Int → Int
  | [] => 0
  | x :: r => if x = 0 then orL r else x
theorem orL_skip : ∀ (zs : List Int) (k : Nat), (∀ j, j < k → zs.getD j 0 = 0) → orL zs = orL (zs.drop k)
  | [], _, _ => by simp
  | x :: r, 0, _ => by simp
  | x :: r, k + 1, h => by
    have h0 := h 0 (by omega)
    simp at h0
    simp only [orL, h0, if_true, List.drop_succ_cons]
    exact orL_skip r k (fun j hj => by have := h (j + 1) (by omega); simpa using this)

set_option maxHeartbeats 400000 in
theorem cor (zs : List Int) (w : World) (pb po : Nat) (hn : zs.length ≤ 1000) (hc : ∀ j, j < zs.length → w.cell? ⟨pb, po + j, none⟩ = some (.int .i64 (zs.getD j 0))) :
    Calls Try.prog 36 #[.slice (some ⟨pb, po, none⟩) zs.length zs.length] w fun e w' => e = .returned (.int .i64 (orL zs)) ∧ w = w' := by
  have HC := Lib.hid hc
  clear hc
  go_enter Try.func36, Try.ntmps36
  go_wp2
  go_loop [5, 8] (fun _ i => ∃ k : Nat, k ≤ zs.length ∧ i = .int .i64 k ∧ ∀ j, j < k → zs.getD j 0 = 0) (fun _ i => zs.length - (intOf i).toNat)
  case atStart => exact ⟨0, Nat.zero_le _, rfl, fun j hj => absurd hj (by omega)⟩
  case round =>
    obtain ⟨k, hk, rfl, hz⟩ := hrel
    have HZ := Lib.hid hz
    clear hz
    by_cases hlt : k < zs.length
    · have c0 := HC.out k hlt
      generalize hx : zs.getD k 0 = x at c0
      have HX := Lib.hid hx
      clear hx
      by_cases h0 : x = 0
      · subst h0
        go_wp2
        go_round
        case rel => exact ⟨k + 1, by omega, by go_num, fun j hj => by
          rcases Nat.lt_or_ge j k with h | h
          · exact HZ.out j h
          · obtain rfl : j = k := by omega
            exact HX.out⟩
        case measure => simp [intOf]; omega
      · have e1 := Lib.hid (show orL zs = x by
          rw [orL_skip zs k HZ.out, List.drop_eq_getElem_cons hlt]
          have : zs[k] = x := by rw [← HX.out]; simp [hlt]
          simp only [orL, this, h0, if_false])
        have h0' : (x != 0) = true := by simpa using h0
        clear h0
        go_wp2
        go_ret
        exact ⟨by rw [e1.out]; rfl, rfl⟩
    · have e1 := Lib.hid (show orL zs = 0 by
        rw [orL_skip zs k HZ.out, List.drop_eq_nil_of_le (by omega)]; rfl)
      go_wp2
      go_ret
      exact ⟨by rw [e1.out]; rfl, rfl⟩

/-- how two sites stand: the less cost first, then the less number -/
def siteZ (x y : Int × Int × Int) : Int := orL [cmpZ x.2.2 y.2.2, cmpZ x.1 y.1]
set_option maxHeartbeats 800000 in
theorem siteCmp (a b : Int × Int × Int) (w : World) :
    Calls Try.prog 35 #[.agg #[.int .i64 a.1, .int .u32 a.2.1, .int .i64 a.2.2], .agg #[.int .i64 b.1, .int .u32 b.2.1, .int .i64 b.2.2]] w fun e w' => e = .returned (.int .i64 (siteZ a b)) ∧ Gd w w' := by
  have g0 := ((Gr.refl w).alloc (.cells #[.int .i64 a.1, .int .u32 a.2.1, .int .i64 a.2.2] 28))
  have gw := g0.alloc (.cells #[.int .i64 b.1, .int .u32 b.2.1, .int .i64 b.2.2] 28)
  have x := fun i v h => has_mono ((Gr.refl _).alloc (.cells #[.int .i64 b.1, .int .u32 b.2.1, .int .i64 b.2.2] 28)) (has_new w [.int .i64 a.1, .int .u32 a.2.1, .int .i64 a.2.2] 28 i v h)
  have d0 := x 0 _ rfl
  have d2 := x 2 _ rfl
  have y := fun i v h => has_new (w.alloc (.cells #[.int .i64 a.1, .int .u32 a.2.1, .int .i64 a.2.2] 28)) [.int .i64 b.1, .int .u32 b.2.1, .int .i64 b.2.2] 28 i v h
  have d3 := y 0 _ rfl
  have d5 := y 2 _ rfl
  clear x y g0
  simp only [World.size_alloc] at d3 d5
  go_enter Try.func35, Try.ntmps35
  go_wp2_with fail
  have hd : ((w.alloc (.cells #[.int .i64 a.1, .int .u32 a.2.1, .int .i64 a.2.2] 28)).alloc (.cells #[.int .i64 b.1, .int .u32 b.2.1, .int .i64 b.2.2] 28)).drawn = w.drawn := rfl
  generalize (w.alloc (.cells #[.int .i64 a.1, .int .u32 a.2.1, .int .i64 a.2.2] 28)).alloc (.cells #[.int .i64 b.1, .int .u32 b.2.1, .int .i64 b.2.2] 28) = W at *
  replace gw : Gd w W := ⟨gw, by omega⟩
  replace d0 := fun w' (k : Gd W w') => d0 w' k.1
  replace d2 := fun w' (k : Gd W w') => d2 w' k.1
  replace d3 := fun w' (k : Gd W w') => d3 w' k.1
  replace d5 := fun w' (k : Gd W w') => d5 w' k.1
  have e := Lib.hid (show siteZ a b = orL [cmpZ a.2.2 b.2.2, cmpZ a.1 b.1] from rfl)
  generalize a.1 = a1 at *
  generalize a.2.1 = a2 at *
  generalize a.2.2 = a3 at *
  generalize b.1 = b1 at *
  generalize b.2.1 = b2 at *
  generalize b.2.2 = b3 at *
  have hS0 := (Gd.refl W).drew
  refine wp_region_plan [(0, true), (1, true), (2, true), (3, true), (5, true), (6, true), (7, true), (8, true), (4, false), (9, false), (10, false), (11, false), (12, true)] (Gd W) (by kernel_rfl) (by kernel_rfl) hS0 ?_
  simp only [planOps, List.getElem?_toArray, List.getElem?_cons_zero, List.getElem?_cons_succ]
  repeat (first
    | (refine wpPlan_skip (by rfl) ?_; (try simp only [Act.put, List.setIfInBounds_toArray, List.set_cons_zero, List.set_cons_succ]))
    | (refine wpPlan_take (by rfl) ?_; apply Exists.intro; refine ⟨fun w' hSw => ?_, ?_⟩; (focus ((try dsimp only at hSw); go_simp; first | done | with_reducible rfl)); (try simp only [Act.put, List.setIfInBounds_toArray, List.set_cons_zero, List.set_cons_succ]))
    | (refine wpPlan_do (by rfl) (fun K hK => ?_); go_simp; (first | (go_at_call 37; refine (ccmpI _ _ _).mono ?_; rintro e w2 ⟨rfl, rfl⟩) | (go_at_call 36; refine (cor [cmpZ a3 b3, cmpZ a1 b1] _ _ 0 (by simp) ?_).mono ?_; (focus (intro j hj; simp at hj; obtain rfl | rfl : j = 0 ∨ j = 1 := (by omega)) <;> simp); rintro e w2 ⟨rfl, rfl⟩)); refine hK _ _ (by first | exact Gd.alloc (by assumption) _ | assumption) (fun hSn => ?_); clear hK K; (try simp only [Act.put, List.setIfInBounds_toArray, List.set_cons_zero, List.set_cons_succ]))
    | (refine wpPlan_do (by rfl) (fun K hK => ?_); go_simp; refine hK _ _ (by first | exact Gd.alloc (by assumption) _ | assumption) (fun hSn => ?_); clear hK K; (try simp only [Act.put, List.setIfInBounds_toArray, List.set_cons_zero, List.set_cons_succ])))
  refine wpPlan_nil ?_
  go_wp2
  go_ret
  exact ⟨by rw [e.out]; rfl, gw.trans (by assumption)⟩
end Go.Proofs.Ytgconkbnokbinaa
