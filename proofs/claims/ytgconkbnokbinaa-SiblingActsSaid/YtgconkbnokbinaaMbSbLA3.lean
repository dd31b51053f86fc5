/- SiblingActs: the law returns true. -/
import Derived.Test.YtgconkbnokbinaaMbSbLA2
namespace Go.Proofs.Ytgconkbnokbinaa
open Go.RowKit Go.Maps Go.Sort

theorem law_acts (L M : List Act6) (n : Int) : VCx Try.prog noGl 0 laA [.vec 6 (L.map actC) .none, .vec 6 (M.map actC) .none, .val (.int .i64 n)] ⟨[], []⟩ isTrueV := by
  by_cases hl : L.length ≤ 100 ∧ M.length ≤ 100
  · have hfew : (actsS L).1.length ≤ 8 := few_acts L _ (Nat.zero_le _)
    have hrl : (refL (actsS L).1 (actsS L).2).length ≤ 8 := by rw [refL_len]; exact hfew
    have hg := gone_all L
    have hg2 : Gone (more (actsS L) M).1 (more (actsS L) M).2 := gone_more L M
    have h0 := a0_ok n L M hl.1
    have h2 := a2_ok n L M hl.2
    have e0 : ar0 L = (refL (actsS L).1 (actsS L).2).map rwE := rfl
    rw [e0] at h0 h2
    generalize more (actsS L) M = q at *
    generalize actsS L = p at *
    obtain ⟨S, R⟩ := p
    obtain ⟨S', R'⟩ := q
    simp only at *
    refine vcallF_is mixedB_Try bodiesB_Try (specs_ok fun q hq => ?_) (specsL_ok fun q hq => ?_) (ev_aa (T6 S R) (T6 S' R') ((refL S R).map rwE) ((refL S' R').map rwE) (L.map actC) (M.map actC) n _) ?_
    · simp only [List.mem_cons, List.not_mem_nil, or_false] at hq
      rcases hq with rfl | rfl | rfl | rfl | rfl
      · exact neW_ok
      · exact coW_ok _
      · exact rCoW_ok _ hrl
      · exact lkW2_ok hg hg2 1 n
      · exact trueW_ok gvals_noGl lives_vcx
    · simp only [List.mem_cons, List.not_mem_nil, or_false] at hq
      rcases hq with rfl | rfl
      · exact h0
      · exact h2
    · refine condF (decide_eq_false (by rw [List.length_map]; omega)) (condF (decide_eq_false (by rw [List.length_map]; omega)) ⟨⟨rfl, rfl, rfl⟩, rfl, ⟨rfl, rfl, rfl, trivial, rfl, rfl, rfl⟩, fun ka kb ea eb ca cb h6 => ⟨⟨rfl, rfl, rfl, h6⟩, ⟨rfl, rfl, rfl, rfl⟩, rfl, ⟨rfl, rfl, rfl, rfl, rfl, ⟨rfl, h6⟩, ⟨rfl, h6⟩, rfl, rfl⟩, fun pa pb qa qb ra rb h7 => ⟨⟨rfl, rfl, rfl, h6⟩, ⟨rfl, rfl, rfl, h7⟩, trivial⟩⟩⟩)
  · refine vcallF_is mixedB_Try bodiesB_Try (specs_ok fun q hq => ?_) lsOk_none (ev_aa2 (L.map actC) (M.map actC) n _) ?_
    · simp only [List.mem_cons, List.not_mem_nil, or_false] at hq
      rcases hq with rfl | rfl
      · intro ro ys T K h; exact h.elim
      · exact trueW_ok gvals_noGl lives_vcx
    · by_cases h1 : L.length ≤ 100
      · exact condF (decide_eq_false (by rw [List.length_map]; omega)) (condT (decide_eq_true (by rw [List.length_map]; omega)) trivial)
      · exact condT (decide_eq_true (by rw [List.length_map]; omega)) trivial
end Go.Proofs.Ytgconkbnokbinaa
