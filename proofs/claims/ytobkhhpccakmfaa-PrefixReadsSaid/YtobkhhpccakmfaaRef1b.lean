/- The reference's source: how many bytes are left, the next ones. -/
import Derived.Test.YtobkhhpccakmfaaRef1
import Derived.Deep.DeepCutAuto
namespace Go.Proofs.Ytobkhhpccakmfaa
open Go.RowKit

theorem wrap_i64 (x : Int) (h0 : -9223372036854775808 ≤ x) (h1 : x ≤ 9223372036854775807) : IntKind.i64.wrap x = x := by
  simp only [IntKind.wrap, IntKind.bits, IntKind.signed]
  simp
  omega

theorem wrap64_id (x : Int) (h0 : -9223372036854775808 ≤ x) (h1 : x ≤ 9223372036854775807) : wrap64 x = x := by unfold wrap64; omega

set_option maxHeartbeats 400000 in
theorem rleft (g : Nat) (vb : Option Nat) (l : List Nat) (w : World) (h : RS w g vb l 0) :
    Calls Try.prog 36 #[.pointer (some ⟨g, 0, none⟩)] w fun r w' => r = .returned (.int .i64 l.length) ∧ Gr w w' := by
  obtain ⟨v, L, N, hb, hr, hN, hL, rfl, _⟩ := h
  have c0 := has_cell (hb.cell (i := 0) rfl)
  have c1 := has_cell (hb.cell (i := 1) rfl)
  have c2 := hb.cell (i := 2) rfl
  obtain ⟨_, p, c, rfl, _⟩ := hr
  rename_i z1 z2
  clear hb z1 z2
  have e1 : IntKind.i64.wrap ((L.length : Int) - N) = ((L.drop N).length : Int) := by rw [wrap_i64 _ (by omega) (by omega), List.length_drop]; omega
  generalize (L.drop N).length = M at *
  clear hN hL
  go_enter Try.func36, Try.ntmps36
  go_wp2_with fail
  have hS0 := (Gr.refl w).drew
  refine wp_region_plan [(0, true), (1, true), (2, true), (3, true), (4, true), (5, true), (6, true), (7, true), (8, true), (9, true), (10, true)] (Gr w) (by kernel_rfl) (by kernel_rfl) hS0 ?_
  simp only [planOps, List.getElem?_toArray, List.getElem?_cons_zero, List.getElem?_cons_succ]
  repeat (first
    | (refine wpPlan_skip (by rfl) ?_; (try simp only [Act.put, List.setIfInBounds_toArray, List.set_cons_zero, List.set_cons_succ]))
    | (refine wpPlan_take (by rfl) ?_; apply Exists.intro; refine ⟨fun w' hSw => ?_, ?_⟩; (focus ((try dsimp only at hSw); go_simp; first | done | with_reducible rfl)); (try simp only [Act.put, List.setIfInBounds_toArray, List.set_cons_zero, List.set_cons_succ]))
    | (refine wpPlan_do (by rfl) (fun K hK => ?_); go_simp; refine hK _ _ (by first | exact Gr.trans (by assumption) hb2 | assumption | exact Gr.alloc (by assumption) _) (fun hSn => ?_); clear hK K; (try simp only [Act.put, List.setIfInBounds_toArray, List.set_cons_zero, List.set_cons_succ])))
  refine wpPlan_nil ?_
  go_wp2
  go_ret
  exact ⟨rfl, by assumption⟩

/-- what is known behind a call of the reference's Bytes -/
def TookR (w : World) (g : Nat) (vb : Option Nat) (l : List Nat) (k : Nat) (r : Ending) (w' : World) : Prop :=
  ∃ v, r = .returned v ∧ w'.ownsRow w.heap.size 5 1 v (tkO l 0 k).length (u8s (tkO l 0 k)) ∧ RS w' g vb (tkL l 0 k) (tkE l 0 k) ∧ Gb g w w'
theorem own_none (w : World) (base : Nat) (e : TypeId) : w.ownsRow base e 1 (.slice none 0 0) 0 (u8s []) := World.ownsRow_nil _ _ _ _

set_option maxHeartbeats 400000 in
theorem rbytes1 (g : Nat) (vb : Option Nat) (l : List Nat) (k : Nat) (hk : k ≤ 8) (w : World) (h : RS w g vb l 0) (hvb : ∀ b, vb = some b → b < w.heap.size) :
    Calls Try.prog 44 #[.pointer (some ⟨g, 0, none⟩), .int .i64 k] w (TookR w g vb l k) := by
  have hg := h.lt
  obtain ⟨v, L, N, hb, hr, hN, hL, rfl, rfl, hn⟩ := h
  have c0 := has_cell (hb.cell (i := 0) rfl)
  have c1 := has_cell (hb.cell (i := 1) rfl)
  have c2 := hb.cell (i := 2) rfl
  have HR := Lib.hid hr
  have HB := Lib.hid hb
  obtain ⟨_, p, c, rfl, hlc, _⟩ := hr
  rename_i z1 z2
  clear z1 z2
  by_cases hkl : k ≤ (L.drop N).length
  · have eE : tkE (L.drop N) 0 k = 0 := by simp only [tkE, if_pos, hkl]
    have eL : tkL (L.drop N) 0 k = L.drop (N + k) := by simp only [tkL, hkl, and_self, if_true, List.drop_drop]
    have eO : tkO (L.drop N) 0 k = (L.drop N).take k := by simp only [tkO, hkl, and_self, if_true]
    rw [List.length_drop] at hkl
    have hNk : N + k ≤ c := by omega
    have e3 : decide ((L.length : Int) - N < k) = false := by simp; omega
    have b1 : (-9223372036854775808 : Int) ≤ (L.length : Int) - N ∧ (L.length : Int) - N ≤ 9223372036854775807 := by omega
    have b2 : (-9223372036854775808 : Int) ≤ (N : Int) + k ∧ (N : Int) + k ≤ 9223372036854775807 := by omega
    have e1 := wrap_i64 _ b1.1 b1.2
    have e2 := wrap_i64 _ b2.1 b2.2
    have e2' := wrap64_id _ b2.1 b2.2
    clear b1 b2
    have E := Lib.hid (And.intro eE (And.intro eL eO))
    have f1 := frz_mono (W := w) (W' := w) (p := ⟨g, 1, none⟩) (Gr.refl w) (fun w' k => (hb.gr k).frz 1)
    replace c2 := has_cell c2
    clear hb eE eL eO
    go_enter Try.func44, Try.ntmps44
    go_upto_region 6 with fail
    have hS0 := (Gr.refl w).drew
    refine wp_region_plan [(0, true), (1, true), (2, true), (3, true), (4, true), (5, true), (6, true), (7, true), (8, true), (9, true), (10, true), (11, true)] (Gr w) (by kernel_rfl) (by kernel_rfl) hS0 ?_
    simp only [planOps, List.getElem?_toArray, List.getElem?_cons_zero, List.getElem?_cons_succ]
    repeat (first
      | (refine wpPlan_skip (by rfl) ?_; (try simp only [Act.put, List.setIfInBounds_toArray, List.set_cons_zero, List.set_cons_succ]))
      | (refine wpPlan_take (by rfl) ?_; apply Exists.intro; refine ⟨fun w' hSw => ?_, ?_⟩; (focus ((try dsimp only at hSw); go_simp; first | done | with_reducible rfl)); (try simp only [Act.put, List.setIfInBounds_toArray, List.set_cons_zero, List.set_cons_succ]))
      | (refine wpPlan_do (by rfl) (fun K hK => ?_); go_simp; refine hK _ _ (by first | exact Gr.trans (by assumption) hb2 | assumption | exact Gr.alloc (by assumption) _) (fun hSn => ?_); clear hK K; (try simp only [Act.put, List.setIfInBounds_toArray, List.set_cons_zero, List.set_cons_succ])))
    refine wpPlan_nil ?_
    go_upto_region 9 with fail
    obtain ⟨i0, hi, hz0, hz1, hz2⟩ := info_parts info_u8
    have hi' := Lib.hid hi
    clear hi
    have hle : N + k ≤ L.length := by omega
    have hS0 := (Gr.refl w).drew.drew
    refine wp_region_plan [(1, true), (2, true), (3, true), (4, true), (5, true), (6, true), (7, true), (8, true), (9, true), (10, true), (11, true), (12, true), (13, true), (14, true), (15, true), (0, false), (16, false), (17, true)] (Gr w) (by kernel_rfl) (by kernel_rfl) hS0 ?_
    simp only [planOps, List.getElem?_toArray, List.getElem?_cons_zero, List.getElem?_cons_succ]
    repeat (first
      | (refine wpPlan_skip (by rfl) ?_; (try simp only [Act.put, List.setIfInBounds_toArray, List.set_cons_zero, List.set_cons_succ]))
      | (refine wpPlan_take (by rfl) ?_; apply Exists.intro; refine ⟨fun w' hSw => ?_, ?_⟩; (focus ((try dsimp only at hSw); go_simp; first | done | with_reducible rfl)); (try simp only [Act.put, List.setIfInBounds_toArray, List.set_cons_zero, List.set_cons_succ]))
      | ((refine wpD_app w (by first | assumption | exact Gr.alloc (by assumption) _) (fun _ h => h) (by rfl) 5 i0 (.int .u8 0) 1 1 Try.underlying34 hi'.out hz0 hz1 hz2 rfl (by decide) _ 0 [] (by rfl) (own_lit _ [] 5 1 0 w.heap.size (by first | exact Gr.size (by assumption) | simp) rfl (by decide)) _ k _ (by rfl) (Rd.mid (HR.out.gr (by first | assumption | exact Gr.alloc (by assumption) _)) hle) (fun u hu => u8s_one _ u (List.mem_of_mem_drop (List.mem_of_mem_take hu))) (by unfold maxLen; omega) (by omega) (fun v9 w9 own9 g9 => ?_)); (try simp only [Act.put, List.setIfInBounds_toArray, List.set_cons_zero, List.set_cons_succ]))
      | (refine wpPlan_do (by rfl) (fun K hK => ?_); go_simp; refine hK _ _ (by first | exact Gr.trans (by assumption) hb2 | assumption | exact Gr.alloc (by assumption) _) (fun hSn => ?_); clear hK K; (try simp only [Act.put, List.setIfInBounds_toArray, List.set_cons_zero, List.set_cons_succ])))
    refine wpPlan_nil ?_
    clear hz0 hz1 hz2 hi'
    go_wp2
    go_ret
    obtain ⟨eE, eL, eO⟩ := E.out
    have gs := Gb.of_set (b := g) (w := w9) 1 (.int .i64 ((N : Int) + k))
    have gb := (Gb.of g9).trans gs
    refine ⟨v9, rfl, ?_, ?_, gb⟩
    · rw [eO, List.length_take, List.length_drop, Nat.min_eq_left hkl, u8s_take, u8s_drop]
      simp only [Nat.zero_add, List.nil_append, Nat.mul_one] at own9
      exact own_gb gs hg own9
    · rw [eE, eL]
      refine ⟨.slice p L.length c, L, N + k, ?_, HR.out.gb gb hn, hle, hL, rfl, rfl, hn⟩
      rw [Int.natCast_add]
      exact (HB.out.gr g9).set 1 _
  · have eE : tkE (L.drop N) 0 k = 3 := by simp only [tkE, if_true, hkl, if_false]
    have eL : tkL (L.drop N) 0 k = L.drop N := by simp only [tkL, hkl, and_false, if_false]
    have eO : tkO (L.drop N) 0 k = [] := by simp only [tkO, hkl, and_false, if_false]
    rw [List.length_drop] at hkl
    have e3 : decide ((L.length : Int) - N < k) = true := by simp; omega
    have b1 : (-9223372036854775808 : Int) ≤ (L.length : Int) - N ∧ (L.length : Int) - N ≤ 9223372036854775807 := by omega
    have e1 := wrap_i64 _ b1.1 b1.2
    clear b1
    have E := Lib.hid (And.intro eE (And.intro eL eO))
    have f2 := frz_mono (W := w) (W' := w) (p := ⟨g, 2, none⟩) (Gr.refl w) (fun w' k => (hb.gr k).frz 2)
    replace c2 := has_cell c2
    clear hb eE eL eO
    go_enter Try.func44, Try.ntmps44
    go_wp2_with fail
    have hS0 := (Gr.refl w).drew
    refine wp_region_plan [(0, true), (1, true), (2, true), (3, true), (4, true), (5, true), (6, true), (7, true), (8, true), (9, true), (10, true), (11, true)] (Gr w) (by kernel_rfl) (by kernel_rfl) hS0 ?_
    simp only [planOps, List.getElem?_toArray, List.getElem?_cons_zero, List.getElem?_cons_succ]
    repeat (first
      | (refine wpPlan_skip (by rfl) ?_; (try simp only [Act.put, List.setIfInBounds_toArray, List.set_cons_zero, List.set_cons_succ]))
      | (refine wpPlan_take (by rfl) ?_; apply Exists.intro; refine ⟨fun w' hSw => ?_, ?_⟩; (focus ((try dsimp only at hSw); go_simp; first | done | with_reducible rfl)); (try simp only [Act.put, List.setIfInBounds_toArray, List.set_cons_zero, List.set_cons_succ]))
      | (refine wpPlan_do (by rfl) (fun K hK => ?_); go_simp; refine hK _ _ (by first | exact Gr.trans (by assumption) hb2 | assumption | exact Gr.alloc (by assumption) _) (fun hSn => ?_); clear hK K; (try simp only [Act.put, List.setIfInBounds_toArray, List.set_cons_zero, List.set_cons_succ])))
    refine wpPlan_nil ?_
    go_wp2
    go_ret
    obtain ⟨eE, eL, eO⟩ := E.out
    have gb := ((Gb.refl g w).setCell (p := ⟨g, 2, none⟩) rfl (.int .i64 3)).drew
    refine ⟨.slice none 0 0, rfl, ?_, ?_, gb⟩
    · rw [eO]; exact own_none _ _ _
    · rw [eE, eL]
      exact ⟨.slice p L.length c, L, N, (HB.out.set 2 _).drew, HR.out.gb gb hn, hN, hL, rfl, rfl, hn⟩
end Go.Proofs.Ytobkhhpccakmfaa
