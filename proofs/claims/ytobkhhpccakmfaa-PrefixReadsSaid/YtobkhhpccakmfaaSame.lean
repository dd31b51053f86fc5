/- Two rows of prefixes that are the same. -/
import Derived.Test.YtobkhhpccakmfaaParse
namespace Go.Proofs.Ytobkhhpccakmfaa
open Go.RowKit

theorem pcells_at (l : List (Nat × Nat)) (j : Nat) (p : Nat × Nat) (h : l[j]? = some p) : (pcells l)[j * 2]? = some (.int .u32 (p.1 : Int)) ∧ (pcells l)[j * 2 + 1]? = some (.int .i64 (p.2 : Int)) := by
  induction l generalizing j with
  | nil => simp at h
  | cons q r ih =>
    cases j with
    | zero => simp at h; subst h; simp [pcells]
    | succ j =>
      have := ih j (by simpa using h)
      have e : pcells (q :: r) = .int .u32 (q.1 : Int) :: .int .i64 (q.2 : Int) :: pcells r := by simp [pcells]
      rw [e, show (j + 1) * 2 = (j * 2 + 1) + 1 by omega]
      simpa using this

set_option maxHeartbeats 400000 in
theorem rsame (l : List (Nat × Nat)) (hl : l.length ≤ 1000) (v v' : Value) (w : World) (h : Rd w 2 v l.length (pcells l)) (h' : Rd w 2 v' l.length (pcells l)) :
    Calls Try.prog 26 #[v, v'] w fun r w' => r = .returned (.bool true) ∧ Gr w w' := by
  have H := Lib.hid h
  have H' := Lib.hid h'
  obtain ⟨_, p, c, rfl, _⟩ := h
  rename_i z1 z2
  clear z1 z2
  obtain ⟨_, p', c', rfl, _⟩ := h'
  rename_i z1 z2
  clear z1 z2
  go_enter Try.func26, Try.ntmps26
  go_wp2
  go_loopw [13] (fun i wr => ∃ j : Nat, j ≤ l.length ∧ i = .int .i64 j ∧ Gr w wr) (fun i _ => l.length - (intOf i).toNat)
  case atStart => exact ⟨0, Nat.zero_le _, rfl, Gr.refl _⟩
  case round =>
    obtain ⟨j, hj, rfl, gr⟩ := hrel
    by_cases hlt : j < l.length
    · obtain ⟨c0, c1⟩ := pcells_at l j l[j] (by simp [hlt])
      obtain ⟨b, o, k, hv, _, _, hc⟩ := H.out.pos (by omega)
      injection hv with ep _ ec
      subst ep ec
      obtain ⟨b', o', k', hv', _, _, hc'⟩ := H'.out.pos (by omega)
      injection hv' with ep _ ec
      subst ep ec
      have d0 := has_mono gr (has_cell (hc _ _ c0))
      have x1 := hc _ _ c1
      have x2 := hc' _ _ c1
      rw [← Nat.add_assoc] at x1 x2
      have d1 := has_mono gr (has_cell x1)
      have d2 := has_mono gr (has_cell (hc' _ _ c0))
      have d3 := has_mono gr (has_cell x2)
      clear hc hc' c0 c1 x1 x2
      generalize l[j] = q at *
      go_wp2_with fail
      have hS0 := (Gr.refl wr).drew
      refine wp_region_plan [(0, true), (1, true), (2, true), (3, true), (4, true), (5, true), (6, true), (7, true), (8, true)] (Gr wr) (by kernel_rfl) (by kernel_rfl) hS0 ?_
      simp only [planOps, List.getElem?_toArray, List.getElem?_cons_zero, List.getElem?_cons_succ]
      repeat (first
        | (refine wpPlan_skip (by rfl) ?_; (try simp only [Act.put, List.setIfInBounds_toArray, List.set_cons_zero, List.set_cons_succ]))
        | (refine wpPlan_take (by rfl) ?_; apply Exists.intro; refine ⟨fun w' hSw => ?_, ?_⟩; (focus ((try dsimp only at hSw); go_simp; first | done | with_reducible rfl)); (try simp only [Act.put, List.setIfInBounds_toArray, List.set_cons_zero, List.set_cons_succ]))
        | (refine wpPlan_do (by rfl) (fun K hK => ?_); go_simp; refine hK _ _ (by first | exact Gr.trans (by assumption) hb2 | assumption | exact Gr.alloc (by assumption) _) (fun hSn => ?_); clear hK K; (try simp only [Act.put, List.setIfInBounds_toArray, List.set_cons_zero, List.set_cons_succ])))
      refine wpPlan_nil ?_
      go_wp2
      go_roundw
      case rel => exact ⟨j + 1, by omega, by go_num, gr.trans (by assumption)⟩
      case measure => simp [intOf]; omega
    · obtain rfl : j = l.length := by omega
      go_wp2
      go_ret
      exact ⟨rfl, gr⟩
end Go.Proofs.Ytobkhhpccakmfaa
