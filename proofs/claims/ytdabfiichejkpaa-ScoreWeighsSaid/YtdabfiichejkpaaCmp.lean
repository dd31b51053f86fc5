/- cmp.Compare, cmp.Or; the order of seats. -/
import Derived.Test.YtdabfiichejkpaaBlock
import Derived.Test.YtdabfiichejkpaaPlan
import Derived.Sort.Grow
namespace Go.Proofs.Ytdabfiichejkpaa
open Go.RowKit

/-- how two numbers stand -/
def cmpZ (a b : Int) : Int := if a < b then -1 else if b < a then 1 else 0
set_option maxHeartbeats 400000 in
theorem ccmp64 (a b : Int) (w : World) : Calls Try.prog 28 #[.int .u64 a, .int .u64 b] w fun e w' => e = .returned (.int .i64 (cmpZ a b)) ∧ w = w' := by
  go_enter Try.func28, Try.ntmps28
  go_wp2
  all_goals (go_ret; exact ⟨ret_int (by unfold cmpZ; first | rw [if_pos ‹_›] | rw [if_neg (by omega), if_pos (by omega)] | rw [if_neg (by omega), if_neg (by omega)]), rfl⟩)
set_option maxHeartbeats 400000 in
theorem ccmpI (a b : Int) (w : World) : Calls Try.prog 29 #[.int .i64 a, .int .i64 b] w fun e w' => e = .returned (.int .i64 (cmpZ a b)) ∧ w = w' := by
  go_enter Try.func29, Try.ntmps29
  go_wp2
  all_goals (go_ret; exact ⟨ret_int (by unfold cmpZ; first | rw [if_pos ‹_›] | rw [if_neg (by omega), if_pos (by omega)] | rw [if_neg (by omega), if_neg (by omega)]), rfl⟩)

/-- the first that is not 0 -/
def orL : List Int → Int
  | [] => 0
  | x :: r => if x = 0 then orL r else x
theorem orL_skip : ∀ (zs : List Int) (k : Nat), (∀ j, j < k → zs.getD j 0 = 0) → orL zs = orL (zs.drop k)
  | [], _, _ => by simp
  | x :: r, 0, _ => by simp
  | x :: r, k + 1, h => by
    have h0 := h 0 (by omega)
    simp at h0
    simp only [orL, h0, if_true, List.drop_succ_cons]
    exact orL_skip r k (fun j hj => by have := h (j + 1) (by omega); simpa using this)

set_option maxHeartbeats 400000 in
theorem cor (zs : List Int) (w : World) (pb po : Nat) (hn : zs.length ≤ 1000) (hc : ∀ j, j < zs.length → w.cell? ⟨pb, po + j, none⟩ = some (.int .i64 (zs.getD j 0))) :
    Calls Try.prog 27 #[.slice (some ⟨pb, po, none⟩) zs.length zs.length] w fun e w' => e = .returned (.int .i64 (orL zs)) ∧ w = w' := by
  have HC := Lib.hid hc
  clear hc
  go_enter Try.func27, Try.ntmps27
  go_wp2
  go_loop [5, 8] (fun _ i => ∃ k : Nat, k ≤ zs.length ∧ i = .int .i64 k ∧ ∀ j, j < k → zs.getD j 0 = 0) (fun _ i => zs.length - (intOf i).toNat)
  case atStart => exact ⟨0, Nat.zero_le _, rfl, fun j hj => absurd hj (by omega)⟩
  case round =>
    obtain ⟨k, hk, rfl, hz⟩ := hrel
    have HZ := Lib.hid hz
    clear hz
    by_cases hlt : k < zs.length
    · have c0 := HC.out k hlt
      generalize hx : zs.getD k 0 = x at c0
      have HX := Lib.hid hx
      clear hx
      by_cases h0 : x = 0
      · subst h0
        go_wp2
        go_round
        case rel => exact ⟨k + 1, by omega, by go_num, fun j hj => by
          rcases Nat.lt_or_ge j k with h | h
          · exact HZ.out j h
          · obtain rfl : j = k := by omega
            exact HX.out⟩
        case measure => simp [intOf]; omega
      · have e1 := Lib.hid (show orL zs = x by
          rw [orL_skip zs k HZ.out, List.drop_eq_getElem_cons hlt]
          have : zs[k] = x := by rw [← HX.out]; simp [hlt]
          simp only [orL, this, h0, if_false])
        have h0' : (x != 0) = true := by simpa using h0
        clear h0
        go_wp2
        go_ret
        exact ⟨by rw [e1.out]; rfl, rfl⟩
    · have e1 := Lib.hid (show orL zs = 0 by
        rw [orL_skip zs k HZ.out, List.drop_eq_nil_of_le (by omega)]; rfl)
      go_wp2
      go_ret
      exact ⟨by rw [e1.out]; rfl, rfl⟩

/-- how two seats stand: the greater score first, then the less id, then the place -/
def seatZ (x y : Int × Int × Int) : Int := orL [cmpZ y.2.2 x.2.2, cmpZ x.2.1 y.2.1, cmpZ x.1 y.1]
/-- memory made alone, and draws -/
def Gd (w w' : World) : Prop := Gr w w' ∧ w.drawn ≤ w'.drawn
theorem Gd.grow {w w' : World} (h : Gd w w') : ∃ q os, w' = Go.Sort.grow (w.drewN q) os := by
  obtain ⟨g, hd⟩ := h
  unfold Gr at g
  refine ⟨w'.drawn - w.drawn, w'.heap.extract w.heap.size w'.heap.size, ?_⟩
  have hh : w'.heap = w.heap ++ w'.heap.extract w.heap.size w'.heap.size := by
    apply Array.ext_getElem?
    intro i
    by_cases hi : i < w.heap.size
    · rw [Array.getElem?_append_left hi, g.block i hi]
    · rw [Array.getElem?_append_right (by omega), Array.getElem?_extract]
      by_cases hi2 : i < w'.heap.size
      · rw [if_pos (by simp; omega), show w.heap.size + (i - w.heap.size) = i by omega]
      · rw [if_neg (by simp; omega), Array.getElem?_eq_none (by omega)]
  have ho := g.os; have ht := g.tape; have hp := g.output
  cases w'; cases w
  simp only [Go.Sort.grow, World.drewN] at *
  subst ho ht hp
  congr 1
  omega

theorem Gd.alloc {a w : World} (h : Gd a w) (o : Obj) : Gd a (w.alloc o) := ⟨h.1.alloc o, h.2⟩
theorem Gd.drew {a w : World} (h : Gd a w) : Gd a w.drew := ⟨h.1.drew, Nat.le_trans h.2 (Nat.le_succ _)⟩
theorem Gd.refl (w : World) : Gd w w := ⟨Gr.refl w, Nat.le_refl _⟩
theorem Gd.trans {a b c : World} (h : Gd a b) (k : Gd b c) : Gd a c := ⟨h.1.trans k.1, Nat.le_trans h.2 k.2⟩

set_option maxHeartbeats 800000 in
theorem seatCmp (a b : Int × Int × Int) (w : World) :
    Calls Try.prog 26 #[.agg #[.int .i64 a.1, .int .i64 a.2.1, .int .u64 a.2.2], .agg #[.int .i64 b.1, .int .i64 b.2.1, .int .u64 b.2.2]] w fun e w' => e = .returned (.int .i64 (seatZ a b)) ∧ Gd w w' := by
  have g0 := ((Gr.refl w).alloc (.cells #[.int .i64 a.1, .int .i64 a.2.1, .int .u64 a.2.2] 49))
  have gw := g0.alloc (.cells #[.int .i64 b.1, .int .i64 b.2.1, .int .u64 b.2.2] 49)
  have x := fun i v h => has_mono ((Gr.refl _).alloc (.cells #[.int .i64 b.1, .int .i64 b.2.1, .int .u64 b.2.2] 49)) (has_new w [.int .i64 a.1, .int .i64 a.2.1, .int .u64 a.2.2] 49 i v h)
  have d0 := x 0 _ rfl
  have d1 := x 1 _ rfl
  have d2 := x 2 _ rfl
  have y := fun i v h => has_new (w.alloc (.cells #[.int .i64 a.1, .int .i64 a.2.1, .int .u64 a.2.2] 49)) [.int .i64 b.1, .int .i64 b.2.1, .int .u64 b.2.2] 49 i v h
  have d3 := y 0 _ rfl
  have d4 := y 1 _ rfl
  have d5 := y 2 _ rfl
  clear x y g0
  simp only [World.size_alloc] at d3 d4 d5
  go_enter Try.func26, Try.ntmps26
  go_wp2_with fail
  have hd : ((w.alloc (.cells #[.int .i64 a.1, .int .i64 a.2.1, .int .u64 a.2.2] 49)).alloc (.cells #[.int .i64 b.1, .int .i64 b.2.1, .int .u64 b.2.2] 49)).drawn = w.drawn := rfl
  generalize (w.alloc (.cells #[.int .i64 a.1, .int .i64 a.2.1, .int .u64 a.2.2] 49)).alloc (.cells #[.int .i64 b.1, .int .i64 b.2.1, .int .u64 b.2.2] 49) = W at *
  replace gw : Gd w W := ⟨gw, by omega⟩
  replace d0 := fun w' (k : Gd W w') => d0 w' k.1
  replace d1 := fun w' (k : Gd W w') => d1 w' k.1
  replace d2 := fun w' (k : Gd W w') => d2 w' k.1
  replace d3 := fun w' (k : Gd W w') => d3 w' k.1
  replace d4 := fun w' (k : Gd W w') => d4 w' k.1
  replace d5 := fun w' (k : Gd W w') => d5 w' k.1
  have e := Lib.hid (show seatZ a b = orL [cmpZ b.2.2 a.2.2, cmpZ a.2.1 b.2.1, cmpZ a.1 b.1] from rfl)
  generalize a.1 = a1 at *
  generalize a.2.1 = a2 at *
  generalize a.2.2 = a3 at *
  generalize b.1 = b1 at *
  generalize b.2.1 = b2 at *
  generalize b.2.2 = b3 at *
  have hS0 := (Gd.refl W).drew
  refine wp_region_plan [(0, true), (1, true), (2, true), (3, true), (5, true), (6, true), (7, true), (8, true), (10, true), (11, true), (12, true), (13, true), (4, false), (9, false), (14, false), (15, false), (16, false), (17, true)] (Gd W) (by kernel_rfl) (by kernel_rfl) hS0 ?_
  simp only [planOps, List.getElem?_toArray, List.getElem?_cons_zero, List.getElem?_cons_succ]
  repeat (first
    | (refine wpPlan_skip (by rfl) ?_; (try simp only [Act.put, List.setIfInBounds_toArray, List.set_cons_zero, List.set_cons_succ]))
    | (refine wpPlan_take (by rfl) ?_; apply Exists.intro; refine ⟨fun w' hSw => ?_, ?_⟩; (focus ((try dsimp only at hSw); go_simp; first | done | with_reducible rfl)); (try simp only [Act.put, List.setIfInBounds_toArray, List.set_cons_zero, List.set_cons_succ]))
    | (refine wpPlan_do (by rfl) (fun K hK => ?_); go_simp; (first | (go_at_call 28; refine (ccmp64 _ _ _).mono ?_; rintro e w2 ⟨rfl, rfl⟩) | (go_at_call 29; refine (ccmpI _ _ _).mono ?_; rintro e w2 ⟨rfl, rfl⟩) | (go_at_call 27; refine (cor [cmpZ b3 a3, cmpZ a2 b2, cmpZ a1 b1] _ _ 0 (by simp) ?_).mono ?_; (focus (intro j hj; simp at hj; obtain rfl | rfl | rfl : j = 0 ∨ j = 1 ∨ j = 2 := (by omega)) <;> simp); rintro e w2 ⟨rfl, rfl⟩)); refine hK _ _ (by first | exact Gd.alloc (by assumption) _ | assumption) (fun hSn => ?_); clear hK K; (try simp only [Act.put, List.setIfInBounds_toArray, List.set_cons_zero, List.set_cons_succ]))
    | (refine wpPlan_do (by rfl) (fun K hK => ?_); go_simp; refine hK _ _ (by first | exact Gd.alloc (by assumption) _ | assumption) (fun hSn => ?_); clear hK K; (try simp only [Act.put, List.setIfInBounds_toArray, List.set_cons_zero, List.set_cons_succ])))
  refine wpPlan_nil ?_
  go_wp2
  go_ret
  exact ⟨by rw [e.out]; rfl, gw.trans (by assumption)⟩
end Go.Proofs.Ytdabfiichejkpaa
