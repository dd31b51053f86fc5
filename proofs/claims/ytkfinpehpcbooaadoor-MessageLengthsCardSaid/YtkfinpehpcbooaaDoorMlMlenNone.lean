/- MessageLengths: the law returns true, whatever comes. -/
import Derived.Test.YtkfinpehpcbooaaDoorMlMlenHd
import Derived.Test.YtkfinpehpcbooaaDoorMlMlLv
namespace Go.Proofs.YtkfinpehpcbooaaDoor
open Go.RowKit

theorem eqI (q : IntKind) (x y : Int) : eqRes BinOp.eql (keyEq (.int q x) (.int q y)) = decide (x = y) := by
  simp [eqRes, keyEq, cellEq, Bool.beq_eq_decide_eq]
theorem neI (q : IntKind) (x y : Int) : eqRes BinOp.neq (keyEq (.int q x) (.int q y)) = !decide (x = y) := by
  simp [eqRes, keyEq, cellEq, Bool.beq_eq_decide_eq]
theorem eqSs (s : ByteArray) : eqRes BinOp.eql (keyEq (.string s) (.string s)) = true := by
  have h := (fit_eq (c := .str) (x := .string s) (y := .string s) rfl rfl).2 rfl
  simp [eqRes, keyEq, h]
def mlLeast (k : Nat) : Int := if k = 1 then 29 else if k = 2 then 23 else if k = 3 then 21 else 19
def mlRest (k : Nat) : List TV := [.val (.int .i64 0), .val (.int .i64 29), .val (.int .i64 23), .val (.int .i64 21), .val (.int .i64 19)].drop (k + 1)
def mlC1 (n k : Nat) : Prop := n < 19 ∨ 4096 < n ∨ (1 ≤ k ∧ k ≤ 4 ∧ ((n : Int) < mlLeast k ∨ (k = 4 ∧ 19 < n)))
def mlC2 (n k : Nat) : Prop := ¬ mlC1 n k ∧ ¬ (1 ≤ k ∧ k ≤ 4)
def mlC3 (n k : Nat) : Prop := ¬ mlC1 n k ∧ (1 ≤ k ∧ k ≤ 4)
theorem ml_look (k : Nat) (h1 : 1 ≤ k) (h4 : k ≤ 4) : OPure Tryd.prog (fun kk => (bif Nat.beq kk (0 : Nat) then (.some [(.val (.int .i64 0)), (.val (.int .i64 29)), (.val (.int .i64 23)), (.val (.int .i64 21)), (.val (.int .i64 19))]) else .none)) (.indexAddr 37 (.global 0) (.tmp 70)) [(70, (.val (.int .i64 (IntKind.wrap IntKind.i64 (k : Int)))))] (.elt (.val (.int .i64 (mlLeast k)) :: mlRest k)) := by
  have h : k = 1 ∨ k = 2 ∨ k = 3 ∨ k = 4 := by omega
  rcases h with rfl | rfl | rfl | rfl <;> exact ⟨by kernel_rfl⟩
theorem lenAB_is (n : Nat) (h : n < 65536) : lenAB (mlA n) (mlB n) = n := lenX_is n h
theorem wrapK (k : Nat) (h : k < 65536) : IntKind.wrap IntKind.i64 (k : Int) = k := by
  simp only [IntKind.wrap, IntKind.bits, IntKind.signed]; simp; omega
theorem head_law (n k : Nat) (hn : n < 65536) (hk : k < 256) : VCx Tryd.prog leastG 0 mlHead [.row 1 0 0 19] ⟨[mlR (mlA n) (mlB n) k], []⟩ fun y T =>
    (mlC1 n k ∧ y = mlY1 ∧ T = mlT1 (mlA n) (mlB n) k) ∨ (mlC2 n k ∧ y = mlY2 k ∧ T = mlT2 (mlA n) (mlB n) k) ∨ (mlC3 n k ∧ y = mlY3 n k ∧ T = mlT3 (mlA n) (mlB n) k) := by
  refine vcallF_is mixedF_Tryd bodiesF_Tryd specsOk_none lsOk_none (ev_head (mlA n) (mlB n) k (mlLeast k) (mlRest k) _) ?_
  have hl := lenAB_is n hn
  have hw := wrapK k (by omega)
  refine ⟨⟨rfl, trivial⟩, cond_of (fun c => ?_) fun c1 => cond_of (fun c => ?_) fun c2 => cond_of (fun c => ?_) fun c3 => cond_of (fun c => ?_) fun c4 => ?_⟩
  · rw [hl] at c
    exact .inl ⟨.inl (by have := of_decide_eq_true c; omega), rfl, rfl⟩
  · rw [hl] at c
    exact .inl ⟨.inr (.inl (by simp at c; omega)), rfl, rfl⟩
  all_goals
    rw [hl] at c1 c2
    simp only [decide_eq_false_iff_not] at c1 c2
  · rw [hw] at c
    have c := of_decide_eq_true c
    refine .inr (.inl ⟨⟨fun h => ?_, by omega⟩, rfl, rfl⟩)
    rcases h with h | h | h <;> omega
  · rw [hw] at c
    have c := of_decide_eq_true c
    refine .inr (.inl ⟨⟨fun h => ?_, by omega⟩, rfl, rfl⟩)
    rcases h with h | h | h <;> omega
  · rw [hw] at c3 c4
    simp only [decide_eq_false_iff_not] at c3 c4
    refine ⟨ml_look k (by omega) (by omega), cond_of (fun c => ?_) fun c5 => cond_of (fun c6 => cond_of (fun c => ?_) fun c7 => ?_) fun c6 => ?_⟩
    · rw [hl] at c
      exact .inl ⟨.inr (.inr ⟨by omega, by omega, .inl (of_decide_eq_true c)⟩), rfl, rfl⟩
    all_goals
      rw [hl] at c5
      simp only [decide_eq_false_iff_not] at c5
      rw [hw, eqI] at c6
    · rw [hl] at c
      have c := of_decide_eq_true c
      have c6 := of_decide_eq_true c6
      exact .inl ⟨.inr (.inr ⟨by omega, by omega, .inr ⟨by omega, by omega⟩⟩), rfl, rfl⟩
    · rw [hl] at c7
      simp only [decide_eq_false_iff_not] at c7
      refine .inr (.inr ⟨⟨fun h => ?_, by omega, by omega⟩, ?_, rfl⟩)
      · rcases h with h | h | ⟨_, _, h | h⟩ <;> omega
      · show TV.tup [.val (.int .i64 (lenAB (mlA n) (mlB n))), .val (.int .i64 (IntKind.wrap IntKind.i64 (k : Int))), _] = _
        rw [hl, hw]; rfl
    · simp only [decide_eq_false_iff_not] at c6
      refine .inr (.inr ⟨⟨fun h => ?_, by omega, by omega⟩, ?_, rfl⟩)
      · rcases h with h | h | ⟨_, _, h | h⟩ <;> omega
      · show TV.tup [.val (.int .i64 (lenAB (mlA n) (mlB n))), .val (.int .i64 (IntKind.wrap IntKind.i64 (k : Int))), _] = _
        rw [hl, hw]; rfl
theorem mlC_ok {n k : Nat} {R : Prop} {y : TV} {T1 : VT} (h : R → VCx Tryd.prog leastG 0 mlHead [.row 1 0 0 19] ⟨[mlR (mlA n) (mlB n) k], []⟩ fun y' T => y' = y ∧ T = T1) : SpecsOk Tryd.prog leastG (specs [(5, trueW), (mlHead, mlW n k R y T1)]) := specs_ok fun p hp => by
  simp only [List.mem_cons, List.not_mem_nil, or_false] at hp
  rcases hp with rfl | rfl
  · exact trueW_ok leastG_vals mzlives
  · rintro ro ys T K ⟨⟨rfl, rfl, rfl⟩, hR, hK⟩
    exact (h hR).mono fun y' T' ⟨e1, e2⟩ => by subst e1 e2; exact hK
set_option maxHeartbeats 4000000 in
theorem ml_law (n k : Nat) (hn : n < 65536) (hk : k < 256) : VCx Tryd.prog leastG 0 mlLaw [.val (.int .u16 n), .val (.int .u8 k)] ⟨[], []⟩ isTrueV := by
  have hh := head_law n k hn hk
  have hw := wrapK n hn
  by_cases h1 : mlC1 n k
  · have hC := mlC_ok (R := True) (y := mlY1) (T1 := mlT1 (mlA n) (mlB n) k) fun _ => hh.mono fun y T h => by
      rcases h with ⟨_, h⟩ | ⟨h, _⟩ | ⟨h, _⟩
      · exact h
      · exact absurd h1 h.1
      · exact absurd h1 h.1
    refine vcallF_is mixedF_Tryd bodiesF_Tryd hC lsOk_none (ev_ml1 n k True) ?_
    refine ⟨⟨rfl, rfl, rfl⟩, trivial, ?_⟩
    unfold mlC1 mlLeast at h1
    simp only [eqI, neI, eqSs, hw, cond_eq_ite, decide_eq_true_eq, Bool.not_eq_true', decide_eq_false_iff_not]
    clear hh hC
    have h1' : n < 19 ∨ 4096 < n ∨ (k = 1 ∧ n < 29) ∨ (k = 2 ∧ n < 23) ∨ (k = 3 ∧ n < 21) ∨ (k = 4 ∧ 19 < n) := by
      rcases h1 with h | h | ⟨p, q, h⟩
      · omega
      · omega
      · (repeat' split at h) <;> omega
    clear h1
    repeat' split
    all_goals first | trivial | (exfalso; omega)
  · by_cases h2 : 1 ≤ k ∧ k ≤ 4
    · have hC := mlC_ok (R := True) (y := mlY3 n k) (T1 := mlT3 (mlA n) (mlB n) k) fun _ => hh.mono fun y T h => by
        rcases h with ⟨h, _⟩ | ⟨h, _⟩ | ⟨_, h⟩
        · exact absurd h h1
        · exact absurd h2 h.2
        · exact h
      refine vcallF_is mixedF_Tryd bodiesF_Tryd hC lsOk_none (ev_ml3 n k n k True) ?_
      have hwk := wrapK k (by omega)
      refine ⟨⟨rfl, rfl, rfl⟩, trivial, ?_⟩
      unfold mlC1 mlLeast at h1
      simp only [eqI, neI, hw, hwk, cond_eq_ite, decide_eq_true_eq, Bool.not_eq_true', decide_eq_false_iff_not]
      clear hh hC
      have h1' : 19 ≤ n ∧ n ≤ 4096 ∧ (k = 1 → 29 ≤ n) ∧ (k = 2 → 23 ≤ n) ∧ (k = 3 → 21 ≤ n) ∧ (k = 4 → n = 19) := by
        have p1 : ¬ n < 19 := fun h => h1 (.inl h)
        have p2 : ¬ 4096 < n := fun h => h1 (.inr (.inl h))
        have p3 : ¬ (1 ≤ k ∧ k ≤ 4 ∧ ((n : Int) < (if k = 1 then 29 else if k = 2 then 23 else if k = 3 then 21 else 19) ∨ (k = 4 ∧ 19 < n))) := fun h => h1 (.inr (.inr h))
        refine ⟨by omega, by omega, fun e => ?_, fun e => ?_, fun e => ?_, fun e => ?_⟩ <;> subst e <;> simp at p3 <;> omega
      clear h1
      repeat' split
      all_goals first | trivial | (exfalso; omega)
    · have hC := mlC_ok (R := True) (y := mlY2 k) (T1 := mlT2 (mlA n) (mlB n) k) fun _ => hh.mono fun y T h => by
        rcases h with ⟨h, _⟩ | ⟨_, h⟩ | ⟨h, _⟩
        · exact absurd h h1
        · exact h
        · exact absurd h.2 h2
      refine vcallF_is mixedF_Tryd bodiesF_Tryd hC lsOk_none (ev_ml2 n k True) ?_
      refine ⟨⟨rfl, rfl, rfl⟩, trivial, ?_⟩
      unfold mlC1 mlLeast at h1
      simp only [eqI, neI, eqSs, hw, cond_eq_ite, decide_eq_true_eq, Bool.not_eq_true', decide_eq_false_iff_not]
      clear hh hC
      have h1' : 19 ≤ n ∧ n ≤ 4096 ∧ (k = 1 → 29 ≤ n) ∧ (k = 2 → 23 ≤ n) ∧ (k = 3 → 21 ≤ n) ∧ (k = 4 → n = 19) := by
        have p1 : ¬ n < 19 := fun h => h1 (.inl h)
        have p2 : ¬ 4096 < n := fun h => h1 (.inr (.inl h))
        have p3 : ¬ (1 ≤ k ∧ k ≤ 4 ∧ ((n : Int) < (if k = 1 then 29 else if k = 2 then 23 else if k = 3 then 21 else 19) ∨ (k = 4 ∧ 19 < n))) := fun h => h1 (.inr (.inr h))
        refine ⟨by omega, by omega, fun e => ?_, fun e => ?_, fun e => ?_, fun e => ?_⟩ <;> subst e <;> simp at p3 <;> omega
      clear h1
      repeat' split
      all_goals first | trivial | (exfalso; omega)
end Go.Proofs.YtkfinpehpcbooaaDoor
