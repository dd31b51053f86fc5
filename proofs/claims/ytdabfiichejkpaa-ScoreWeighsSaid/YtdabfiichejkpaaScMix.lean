/- Mix: a number's bits, well mixed. -/
import Derived.Test.YtdabfiichejkpaaBlock
import Derived.Test.YtdabfiichejkpaaPlan
namespace Go.Proofs.Ytdabfiichejkpaa
open Go.RowKit

/-- one step of a mix -/
def stepZ (x : Int) (s : Nat) (c : Int) : Int := IntKind.u64.wrap (bits .xor .u64 x (x / 2 ^ s) * c)
set_option maxHeartbeats 400000 in
theorem mstep (b : Nat) (x : Int) (s : Nat) (hs : s < 64) (c : Int) (w : World) (h : Blk w b 36 [.int .u64 x]) :
    Calls Try.prog 23 #[.int .i64 s, .int .u64 c, .pointer (some ⟨b, 0, none⟩)] w fun r w' => r = .returned (.tuple #[]) ∧ Blk w' b 36 [.int .u64 (stepZ x s c)] ∧ Gb b w w' := by
  have c0 := has_cell (h.cell (i := 0) rfl)
  have f0 : ∀ w', Gr w w' → w'.frozen? ⟨b, 0, none⟩ = false := fun w' k => (h.gr k).frz 0
  have hB := Lib.hid h
  clear h
  go_enter Try.func23, Try.ntmps23
  go_wp2_with fail
  have hS0 := (Gr.refl (w)).drew
  refine wp_region_planT [(0, true), (1, true), (2, true), (3, true), (4, true), (5, true), (6, true)] (Gr w) (by kernel_rfl) (by kernel_rfl) (by kernel_rfl) (by kernel_rfl) hS0 ?_
  simp only [List.dropLast, planOps, List.getElem?_toArray, List.getElem?_cons_zero, List.getElem?_cons_succ]
  repeat (first
    | (refine wpPlan_skip (by rfl) ?_; (try simp only [Act.put, List.setIfInBounds_toArray, List.set_cons_zero, List.set_cons_succ]))
    | (refine wpPlan_take (by rfl) ?_; apply Exists.intro; refine ⟨fun w' hSw => ?_, ?_⟩; (focus ((try dsimp only at hSw); go_simp; first | done | with_reducible rfl)); (try simp only [Act.put, List.setIfInBounds_toArray, List.set_cons_zero, List.set_cons_succ]))
    | (refine wpPlan_do (by rfl) (fun K hK => ?_); go_simp; refine hK _ _ (by first | exact Gr.trans (by assumption) hb2 | assumption | exact Gr.alloc (by assumption) _) (fun hSn => ?_); clear hK K; (try simp only [Act.put, List.setIfInBounds_toArray, List.set_cons_zero, List.set_cons_succ])))
  refine wpPlan_nil ?_
  refine wpLast (i := 7) rfl (by rfl) (fun K hK => ?_); go_simp; refine hK _ _ ?_; clear hK K; (try simp only [Act.put, List.setIfInBounds_toArray, List.set_cons_zero, List.set_cons_succ])
  have gb := ((Gb.refl b w).setCell (p := ⟨b, 0, none⟩) rfl (.int .u64 (stepZ x s c))).drew
  exact bodyPost_end (v := .tuple #[]) (by simp [results, Try.results23, go_sem]) rfl ⟨rfl, (hB.out.set 0 _).drew, gb⟩

/-- a number's bits, well mixed -/
def mixZ (x : Int) : Int := stepZ (stepZ (stepZ (IntKind.u64.wrap (x + 11400714819323198485)) 30 13787848793156543929) 27 10723151780598845931) 31 1
set_option maxHeartbeats 400000 in
theorem pmix (x : Int) (w : World) :
    Calls Try.prog 10 #[.int .u64 x] w fun r w' => r = .returned (.int .u64 (mixZ x)) ∧ Gr w w' := by
  go_enter Try.func10, Try.ntmps10
  go_wp2_with fail
  have h0 := Blk.new w 36 [.int .u64 (IntKind.u64.wrap (x + 11400714819323198485))]
  refine (mstep _ _ 30 (by decide) _ _ h0).mono ?_
  rintro r w1 ⟨rfl, h1, g1⟩
  go_wp2_with fail
  refine (mstep _ _ 27 (by decide) _ _ h1).mono ?_
  rintro r w2 ⟨rfl, h2, g2⟩
  go_wp2_with fail
  refine (mstep _ _ 31 (by decide) _ _ h2).mono ?_
  rintro r w3 ⟨rfl, h3, g3⟩
  have c3 := h3.cell (i := 0) rfl
  have gr := Lib.hid (Gb.gr ((g1.trans g2).trans g3) ((Gr.refl w).alloc _) (Nat.le_refl _))
  clear h0 h1 h2 h3 g1 g2 g3
  have e := Lib.hid (show mixZ x = stepZ (stepZ (stepZ (IntKind.u64.wrap (x + 11400714819323198485)) 30 13787848793156543929) 27 10723151780598845931) 31 1 from rfl)
  generalize stepZ (stepZ (stepZ (IntKind.u64.wrap (x + 11400714819323198485)) 30 13787848793156543929) 27 10723151780598845931) 31 1 = y at *
  go_wp2
  go_ret
  exact ⟨by rw [e.out]; rfl, gr.out⟩

theorem u64_step1 (x : Int) (h0 : 0 ≤ x) (h1 : x < 18446744073709551616) : IntKind.u64.wrap (x * 1) = x := by
  simp only [IntKind.wrap, IntKind.bits, IntKind.signed]
  simp
  omega
theorem wrap_u64_mem (x : Int) : 0 ≤ IntKind.u64.wrap x ∧ IntKind.u64.wrap x < 18446744073709551616 := by
  simp only [IntKind.wrap, IntKind.bits, IntKind.signed]
  simp
  omega
theorem xor_u64_mem (x y : Int) (h0 : 0 ≤ x) (h1 : x < 18446744073709551616) (h2 : 0 ≤ y) (h3 : y < 18446744073709551616) : 0 ≤ bits .xor .u64 x y ∧ bits .xor .u64 x y < 18446744073709551616 := by
  obtain ⟨a, rfl⟩ := Int.eq_ofNat_of_zero_le h0
  obtain ⟨b, rfl⟩ := Int.eq_ofNat_of_zero_le h2
  rw [u64_xor_nat a b (by omega) (by omega)]
  have := Nat.xor_lt_two_pow (x := a) (y := b) (n := 64) (by omega) (by omega)
  omega

theorem stepZ_last (z : Int) (h0 : 0 ≤ z) (h1 : z < 18446744073709551616) : stepZ z 31 1 = bits .xor .u64 z (z / 2147483648) := by
  have h := xor_u64_mem z (z / 2147483648) h0 h1 (by omega) (by omega)
  unfold stepZ
  simp only [Int.reducePow]
  exact u64_step1 _ h.1 h.2

set_option maxHeartbeats 400000 in
theorem rmix (x : Int) (w : World) :
    Calls Try.prog 11 #[.int .u64 x] w fun r w' => r = .returned (.int .u64 (mixZ x)) ∧ w = w' := by
  go_enter Try.func11, Try.ntmps11
  go_wp2
  go_ret
  refine ⟨ret_int ?_, rfl⟩
  unfold mixZ
  rw [stepZ_last _ (by unfold stepZ; exact (wrap_u64_mem _).1) (by unfold stepZ; exact (wrap_u64_mem _).2)]
  simp only [stepZ, Int.reducePow]
theorem mixZ_mem (x : Int) : 0 ≤ mixZ x ∧ mixZ x < 18446744073709551616 := wrap_u64_mem _
end Go.Proofs.Ytdabfiichejkpaa
