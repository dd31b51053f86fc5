/- Siblings: the contract of Add. -/
import Derived.Test.YtgconkbnokbinaaMbSbCon
namespace Go.Proofs.Ytgconkbnokbinaa
open Go.RowKit Go.Maps Go.Sort

theorem eqI (q : IntKind) (x y : Int) : eqRes BinOp.eql (keyEq (.int q x) (.int q y)) = decide (x = y) := by
  show (x == y) = decide (x = y)
  cases h : x == y
  · exact (decide_eq_false (by simpa using h)).symm
  · exact (decide_eq_true (by simpa using h)).symm
/-- what Add answers -/
def adA (S : List SiT) (t : SiT) : Int := bif !decide (0 ≤ t.1 ∧ t.1 ≤ 255 ∧ t.2.1 ≠ 0 ∧ 0 ≤ t.2.2 ∧ t.2.2 ≤ 1000000) then 2 else bif hasS S t.1 then 13 else bif decide (8 ≤ S.length) then 6 else 0
def adS (S : List SiT) (t : SiT) : List SiT := bif adA S t == 0 then S ++ [t] else S
theorem ad_vcx {S : List SiT} {R : RpM} {T : VT} (h : TabOk S R T) (t : SiT) :
    VCx Try.prog noGl 0 adF [.ptr 0 0, siT t] T fun x T' => x = .val (.int .i64 (adA S t)) ∧ TabOk (adS S t) R T' := by
  obtain ⟨lk, lk2, es, es2, ck, ck2, st, rfl, h1, h2⟩ := h
  obtain ⟨i, a, c⟩ := t
  have hlen := h1.len
  refine VCx.keepQ 3 0 (Nat.le_refl _) (Nat.le_refl _) (vcallF_is mixedB_Try bodiesB_Try specsOk_none lsOk_none (ev_ad lk lk2 es es2 ck ck2 i a c (fndS S i).1 (fndS S i).2.1 (fndS S i).2.2 (hasS S i) _) ?_)
  refine ⟨⟨(look_site rfl true).trans (by rw [look_tup h1]; rfl)⟩, ?_⟩
  have same : ∀ l, ∃ lk' lk2' es' es2' ck' ck2' st', VT.keep ⟨.cells [.map 1, .map 2] :: .map kI lk es ck :: .map kI lk2 es2 ck2 :: l, []⟩ 3 0 = sT lk' lk2' es' es2' ck' ck2' ∧ SitesOk lk' es' ck' S st' ∧ RepsOk lk2' es2' R := fun l => ⟨_, _, _, _, _, _, _, keep_sT h1 h2 l, h1, h2⟩
  by_cases hc : 0 ≤ i ∧ i ≤ 255 ∧ a ≠ 0 ∧ 0 ≤ c ∧ c ≤ 1000000
  · have hc' := hc
    obtain ⟨c1, c2, c3, c4, c5⟩ := hc
    refine condT (by simpa using c1) (condF (by simpa using c2) (condF (by rw [eqI]; simpa using c3) (condT (by simpa using c4) (condF (by simpa using c5) ?_))))
    cases hb : hasS S i
    · refine condF rfl ?_
      by_cases h8 : 8 ≤ S.length
      · have ha : adA S (i, a, c) = 6 := by simp only [adA, hb, decide_eq_true hc', decide_eq_true h8, Bool.not_true, cond_false, cond_true]
        have hr : adS S (i, a, c) = S := by simp [adS, ha]
        rw [ha, hr]
        exact condT (decide_eq_true (by omega)) ⟨rfl, same _⟩
      · have ha : adA S (i, a, c) = 0 := by simp only [adA, hb, decide_eq_true hc', decide_eq_false h8, Bool.not_true, cond_false]
        have hr : adS S (i, a, c) = S ++ [(i, a, c)] := by simp [adS, ha]
        have hn : S.find? (fun s => s.1 == i) = none := by
          unfold hasS at hb
          cases hf : S.find? fun s => s.1 == i with
          | none => rfl
          | some s => rw [hf] at hb; cases hb
        have hl : lk (Value.int IntKind.i64 i) = none := (h1.at i).trans (by rw [hn]; rfl)
        have g1 := h1.put (i, a, c) hn ⟨c1, by simp only; omega⟩ (by omega)
        rw [ha, hr]
        refine condF (decide_eq_false (by omega)) ?_
        rw [hl]
        exact ⟨rfl, _, _, _, _, _, _, _, keep_sT g1 h2 _, g1, h2⟩
    · have ha : adA S (i, a, c) = 13 := by simp only [adA, hb, decide_eq_true hc', Bool.not_true, cond_false, cond_true]
      have hr : adS S (i, a, c) = S := by simp [adS, ha]
      rw [ha, hr]
      exact condT rfl ⟨rfl, same _⟩
  · have ha : adA S (i, a, c) = 2 := by simp only [adA, decide_eq_false hc, Bool.not_false, cond_true]
    have hr : adS S (i, a, c) = S := by simp [adS, ha]
    rw [ha, hr]
    by_cases c1 : 0 ≤ i
    · refine condT (by simpa using c1) ?_
      by_cases c2 : i ≤ 255
      · refine condF (by simpa using c2) ?_
        by_cases c3 : a = 0
        · exact condT (by rw [eqI]; simpa using c3) ⟨rfl, same _⟩
        · refine condF (by rw [eqI]; simpa using c3) ?_
          by_cases c4 : 0 ≤ c
          · refine condT (by simpa using c4) ?_
            by_cases c5 : c ≤ 1000000
            · exact absurd ⟨c1, c2, c3, c4, c5⟩ hc
            · exact condT (by simpa using c5) ⟨rfl, same _⟩
          · exact condF (by simpa using c4) ⟨rfl, same _⟩
      · exact condT (by simpa using c2) ⟨rfl, same _⟩
    · exact condF (by simpa using c1) ⟨rfl, same _⟩
theorem cp_tab {S : List SiT} {R : RpM} {T : VT} (h : TabOk S R T) (i n : Int) :
    VCx Try.prog noGl 0 cpF [.ptr 0 0, .val (.int .i64 i), .val (.int .i64 n)] T fun x T' => x = .val (.int .i64 (capR R i n)) ∧ T' = T := by
  obtain ⟨lk, lk2, es, es2, ck, ck2, st, rfl, h1, h2⟩ := h
  exact cp_vcx h1 h2 i n
theorem al_tab {S : List SiT} {R : RpM} {T : VT} (h : TabOk S R T) :
    VCx Try.prog noGl 0 alF [.ptr 0 0] T fun x T' => x = .vec 3 ((byId S).map siE) .none ∧ T' = T := by
  obtain ⟨lk, lk2, es, es2, ck, ck2, st, rfl, h1, h2⟩ := h
  exact al_vcx h1 fun f g => h2.ren ck2 f g
end Go.Proofs.Ytgconkbnokbinaa
