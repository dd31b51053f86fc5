/- Siblings: the contracts of Remove, Report and Add. -/
import Derived.Test.YtgconkbnokbinaaMbSbRep
namespace Go.Proofs.Ytgconkbnokbinaa
open Go.RowKit Go.Maps Go.Sort

/-- a table's state: the sites S, the reports R -/
def TabOk (S : List SiT) (R : RpM) (T : VT) : Prop := ∃ lk lk2 es es2 ck ck2 st, T = sT lk lk2 es es2 ck ck2 ∧ SitesOk lk es ck S st ∧ RepsOk lk2 es2 R
def hasS (S : List SiT) (i : Int) : Bool := (S.find? fun s => s.1 == i).isSome
theorem keep_sT {lk lk2 : Value → Option TV} {es es2 : List (Value × TV × Nat)} {ck ck2 : Nat} {S : List SiT} {st : List Nat} {R : RpM} (h : SitesOk lk es ck S st) (h2 : RepsOk lk2 es2 R) (l : List VO) :
    VT.keep ⟨.cells [.map 1, .map 2] :: .map kI lk es ck :: .map kI lk2 es2 ck2 :: l, []⟩ 3 0 = sT lk lk2 es es2 ck ck2 := by
  have e1 := h.ren (Go.Proofs.Ytgconkbnokbinaa.keep 3) (Go.Proofs.Ytgconkbnokbinaa.keep 0)
  have e2 := h2.ren ck2 (Go.Proofs.Ytgconkbnokbinaa.keep 3) (Go.Proofs.Ytgconkbnokbinaa.keep 0)
  simp only [VT.keep, List.take_succ_cons, List.take_zero, List.map_cons, List.map_nil, e1, e2, sT]
  rfl
/-- what a look for a site with ok finds -/
def fndS (S : List SiT) (i : Int) : SiT := (S.find? fun s => s.1 == i).getD (0, 0, 0)
theorem look_tup {lk : Value → Option TV} {es : List (Value × TV × Nat)} {ck : Nat} {S : List SiT} {st : List Nat} (h : SitesOk lk es ck S st) (i : Int) :
    lookRes true (lk (encI i)) (.agg #[.int .i64 0, .int .u32 0, .int .i64 0]) = .tup [.agg (siC (fndS S i).1 (fndS S i).2.1 (fndS S i).2.2), .val (.bool (hasS S i))] := by
  rw [h.at, fndS, hasS]
  cases S.find? fun s => s.1 == i <;> rfl
theorem rm_vcx {S : List SiT} {R : RpM} {T : VT} (h : TabOk S R T) (i : Int) :
    VCx Try.prog noGl 0 rmF [.ptr 0 0, .val (.int .i64 i)] T fun x T' => x = .val (.bool (hasS S i)) ∧ TabOk (delS i S) (delR i R) T' := by
  obtain ⟨lk, lk2, es, es2, ck, ck2, st, rfl, h1, h2⟩ := h
  have hlk := fun o => look_site (T := sT lk lk2 es es2 ck ck2) (id := 1) (z := i) (lk := lk) (es := es) (ck := ck) rfl o
  have g1 := h1.del i
  have g2 := h2.del i
  refine VCx.keepQ 3 0 (Nat.le_refl _) (Nat.le_refl _) (vcallF_is mixedB_Try bodiesB_Try specsOk_none lsOk_none (ev_rm lk lk2 es es2 ck ck2 i (fndS S i).1 (fndS S i).2.1 (fndS S i).2.2 (hasS S i) _) ?_)
  exact ⟨oturn_look ((hlk true).trans (by rw [look_tup h1]; rfl)), rfl, _, _, _, _, _, _, _, keep_sT g1 g2 _, g1, g2⟩
/-- what Report answers -/
def rpA (S : List SiT) (i c u : Int) : Int := bif !hasS S i then 7 else bif decide (0 ≤ c ∧ c ≤ 1000000 ∧ 0 ≤ u ∧ u ≤ 1099511627776) then 0 else 2
def rpR (S : List SiT) (R : RpM) (i c u : Int) : RpM := bif rpA S i c u == 0 then putR i (c, u) R else R
theorem rp_vcx {S : List SiT} {R : RpM} {T : VT} (h : TabOk S R T) (i c u : Int) :
    VCx Try.prog noGl 0 rpF [.ptr 0 0, .val (.int .i64 i), .val (.int .i64 c), .val (.int .i64 u)] T fun x T' => x = .val (.int .i64 (rpA S i c u)) ∧ TabOk S (rpR S R i c u) T' := by
  obtain ⟨lk, lk2, es, es2, ck, ck2, st, rfl, h1, h2⟩ := h
  have hlk := fun o => look_site (T := sT lk lk2 es es2 ck ck2) (id := 1) (z := i) (lk := lk) (es := es) (ck := ck) rfl o
  have g2 := h2.put i (c, u) ck2
  refine VCx.keepQ 3 0 (Nat.le_refl _) (Nat.le_refl _) (vcallF_is mixedB_Try bodiesB_Try specsOk_none lsOk_none (ev_rp lk lk2 es es2 ck ck2 i c u (fndS S i).1 (fndS S i).2.1 (fndS S i).2.2 (hasS S i) _) ?_)
  refine ⟨oturn_look ((hlk true).trans (by rw [look_tup h1]; rfl)), ?_⟩
  have same : ∀ l, ∃ lk' lk2' es' es2' ck' ck2' st', VT.keep ⟨.cells [.map 1, .map 2] :: .map kI lk es ck :: .map kI lk2 es2 ck2 :: l, []⟩ 3 0 = sT lk' lk2' es' es2' ck' ck2' ∧ SitesOk lk' es' ck' S st' ∧ RepsOk lk2' es2' R := fun l => ⟨_, _, _, _, _, _, _, keep_sT h1 h2 l, h1, h2⟩
  cases hb : hasS S i
  · have ha : rpA S i c u = 7 := by simp [rpA, hb]
    have hr : rpR S R i c u = R := by simp [rpR, ha]
    rw [ha, hr]
    exact condT rfl ⟨rfl, same _⟩
  · refine condF rfl ?_
    by_cases hc : 0 ≤ c ∧ c ≤ 1000000 ∧ 0 ≤ u ∧ u ≤ 1099511627776
    · have ha : rpA S i c u = 0 := by simp [rpA, hb, hc]
      have hr : rpR S R i c u = putR i (c, u) R := by simp [rpR, ha]
      rw [ha, hr]
      obtain ⟨c1, c2, c3, c4⟩ := hc
      refine condT (by simpa using c1) (condF (by simpa using c2) (condT (by simpa using c3) (condF (by simpa using c4) ⟨rfl, _, _, _, _, _, _, _, keep_sT h1 g2 _, h1, g2⟩)))
    · have ha : rpA S i c u = 2 := by simp only [rpA, hb, Bool.not_true, cond_false, decide_eq_false hc]
      have hr : rpR S R i c u = R := by simp [rpR, ha]
      rw [ha, hr]
      by_cases c1 : 0 ≤ c
      · refine condT (by simpa using c1) ?_
        by_cases c2 : c ≤ 1000000
        · refine condF (by simpa using c2) ?_
          by_cases c3 : 0 ≤ u
          · refine condT (by simpa using c3) ?_
            by_cases c4 : u ≤ 1099511627776
            · exact absurd ⟨c1, c2, c3, c4⟩ hc
            · exact condT (by simpa using c4) ⟨rfl, same _⟩
          · exact condF (by simpa using c3) ⟨rfl, same _⟩
        · exact condT (by simpa using c2) ⟨rfl, same _⟩
      · exact condF (by simpa using c1) ⟨rfl, same _⟩
end Go.Proofs.Ytgconkbnokbinaa
