/- Numerals of the reference, any of three digits. -/
import Derived.Test.YtkjpbadlbpfpaaaDoorMbPTG
namespace Go.Proofs.YtkjpbadlbpfpaaaDoor
open Go.RowKit

abbrev rdF0 := 26
def VD (m : Int) (k : Nat) (xs : List TV) (Q : TV → VT → Prop) : Prop := vcallF Tryd.prog (ptG m) noSp noOra k noLp 0 rdF0 xs ⟨[], []⟩ Q
theorem VD_ok (m : Int) (k : Nat) (xs : List TV) (Q : TV → VT → Prop) (h : VD m k xs Q) : VCx Tryd.prog (ptG m) 0 rdF0 xs ⟨[], []⟩ Q := vcallF_ok mixedT_Tryd bodiesT_Tryd specsOk_none lsOk_none h
attribute [irreducible] VD
def dgR (m : Int) (lo : Nat) : Nat → Prop
  | 0 => True
  | k + 1 => VD m 3000 [.val (.int .i64 (Int.ofNat (lo + k)))] (isStr (d3 (lo + k))) ∧ dgR m lo k
def dgA (m : Int) (n : Nat) : Prop := VD m 3000 [.val (.int .i64 (Int.ofNat n))] (isStr (d3 n))
theorem dgR_succ (m : Int) (lo k : Nat) (h : dgR m lo (k + 1)) : dgA m (lo + k) ∧ dgR m lo k := h
theorem dgR_at {m : Int} {lo : Nat} : ∀ {k j : Nat}, dgR m lo k → j < k → dgA m (lo + j)
  | 0, _, _, h => absurd h (Nat.not_lt_zero _)
  | k + 1, j, h, hj => by
    obtain ⟨h1, h2⟩ := dgR_succ m lo k h
    rcases Nat.lt_succ_iff_lt_or_eq.1 hj with h3 | h3
    · exact dgR_at h2 h3
    · rw [h3]; exact h1
set_option maxRecDepth 100000 in
theorem dg0 (m : Int) : dgR m 0 16 := by
  have h : dgR m 0 16 = trues 16 := by kernel_rfl
  rw [h]; exact trues_ok 16
set_option maxRecDepth 100000 in
theorem dg16 (m : Int) : dgR m 16 16 := by
  have h : dgR m 16 16 = trues 16 := by kernel_rfl
  rw [h]; exact trues_ok 16
set_option maxRecDepth 100000 in
theorem dg32 (m : Int) : dgR m 32 16 := by
  have h : dgR m 32 16 = trues 16 := by kernel_rfl
  rw [h]; exact trues_ok 16
set_option maxRecDepth 100000 in
theorem dg48 (m : Int) : dgR m 48 16 := by
  have h : dgR m 48 16 = trues 16 := by kernel_rfl
  rw [h]; exact trues_ok 16
set_option maxRecDepth 100000 in
theorem dg64 (m : Int) : dgR m 64 16 := by
  have h : dgR m 64 16 = trues 16 := by kernel_rfl
  rw [h]; exact trues_ok 16
set_option maxRecDepth 100000 in
theorem dg80 (m : Int) : dgR m 80 16 := by
  have h : dgR m 80 16 = trues 16 := by kernel_rfl
  rw [h]; exact trues_ok 16
set_option maxRecDepth 100000 in
theorem dg96 (m : Int) : dgR m 96 16 := by
  have h : dgR m 96 16 = trues 16 := by kernel_rfl
  rw [h]; exact trues_ok 16
set_option maxRecDepth 100000 in
theorem dg112 (m : Int) : dgR m 112 16 := by
  have h : dgR m 112 16 = trues 16 := by kernel_rfl
  rw [h]; exact trues_ok 16
set_option maxRecDepth 100000 in
theorem dg128 (m : Int) : dgR m 128 16 := by
  have h : dgR m 128 16 = trues 16 := by kernel_rfl
  rw [h]; exact trues_ok 16
set_option maxRecDepth 100000 in
theorem dg144 (m : Int) : dgR m 144 16 := by
  have h : dgR m 144 16 = trues 16 := by kernel_rfl
  rw [h]; exact trues_ok 16
set_option maxRecDepth 100000 in
theorem dg160 (m : Int) : dgR m 160 16 := by
  have h : dgR m 160 16 = trues 16 := by kernel_rfl
  rw [h]; exact trues_ok 16
set_option maxRecDepth 100000 in
theorem dg176 (m : Int) : dgR m 176 16 := by
  have h : dgR m 176 16 = trues 16 := by kernel_rfl
  rw [h]; exact trues_ok 16
set_option maxRecDepth 100000 in
theorem dg192 (m : Int) : dgR m 192 16 := by
  have h : dgR m 192 16 = trues 16 := by kernel_rfl
  rw [h]; exact trues_ok 16
set_option maxRecDepth 100000 in
theorem dg208 (m : Int) : dgR m 208 16 := by
  have h : dgR m 208 16 = trues 16 := by kernel_rfl
  rw [h]; exact trues_ok 16
set_option maxRecDepth 100000 in
theorem dg224 (m : Int) : dgR m 224 16 := by
  have h : dgR m 224 16 = trues 16 := by kernel_rfl
  rw [h]; exact trues_ok 16
set_option maxRecDepth 100000 in
theorem dg240 (m : Int) : dgR m 240 16 := by
  have h : dgR m 240 16 = trues 16 := by kernel_rfl
  rw [h]; exact trues_ok 16
theorem dgA_all (m : Int) (n : Nat) (hn : n < 256) : dgA m n := by
  have h : ∀ lo, dgR m lo 16 → lo ≤ n → n < lo + 16 → dgA m n := fun lo h h1 h2 => by
    have := dgR_at h (show n - lo < 16 by omega)
    rwa [show lo + (n - lo) = n by omega] at this
  by_cases h0 : n < 16
  · exact h 0 (dg0 m) (by omega) (by omega)
  by_cases h1 : n < 32
  · exact h 16 (dg16 m) (by omega) (by omega)
  by_cases h2 : n < 48
  · exact h 32 (dg32 m) (by omega) (by omega)
  by_cases h3 : n < 64
  · exact h 48 (dg48 m) (by omega) (by omega)
  by_cases h4 : n < 80
  · exact h 64 (dg64 m) (by omega) (by omega)
  by_cases h5 : n < 96
  · exact h 80 (dg80 m) (by omega) (by omega)
  by_cases h6 : n < 112
  · exact h 96 (dg96 m) (by omega) (by omega)
  by_cases h7 : n < 128
  · exact h 112 (dg112 m) (by omega) (by omega)
  by_cases h8 : n < 144
  · exact h 128 (dg128 m) (by omega) (by omega)
  by_cases h9 : n < 160
  · exact h 144 (dg144 m) (by omega) (by omega)
  by_cases h10 : n < 176
  · exact h 160 (dg160 m) (by omega) (by omega)
  by_cases h11 : n < 192
  · exact h 176 (dg176 m) (by omega) (by omega)
  by_cases h12 : n < 208
  · exact h 192 (dg192 m) (by omega) (by omega)
  by_cases h13 : n < 224
  · exact h 208 (dg208 m) (by omega) (by omega)
  by_cases h14 : n < 240
  · exact h 224 (dg224 m) (by omega) (by omega)
  by_cases h15 : n < 256
  · exact h 240 (dg240 m) (by omega) (by omega)
  omega
theorem dg_of2 (m : Int) (n : Nat) (h : dgA m n) : VCx Tryd.prog (ptG m) 0 rdF0 [.val (.int .i64 (Int.ofNat n))] ⟨[], []⟩ (isStr (d3 n)) := VD_ok m 3000 _ _ h
theorem dg_vcx (m : Int) (n : Nat) (hn : n < 256) : VCx Tryd.prog (ptG m) 0 rdF0 [.val (.int .i64 (n : Int))] ⟨[], []⟩ fun x T' => x = .val (.string ⟨(d3 n).toArray⟩) ∧ T' = ⟨[], []⟩ :=
  VCx.keepQ 0 0 (Nat.le_refl _) (Nat.le_refl _) ((dg_of2 m n (dgA_all m n hn)).mono fun x T hx => ⟨by rw [isStr_ok hx]; rfl, rfl⟩)
end Go.Proofs.YtkjpbadlbpfpaaaDoor
