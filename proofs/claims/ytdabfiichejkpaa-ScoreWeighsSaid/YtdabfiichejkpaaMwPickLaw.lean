/- The place that the reference picks is that of the first seat. -/
import Derived.Test.YtdabfiichejkpaaMwRFold
namespace Go.Proofs.Ytdabfiichejkpaa
open Go.RowKit Go.Sort Go.Shelf

theorem rfold_min (key : Int) (l : List Bk) : ∀ j, j ≤ l.length →
    (seatsL key 0 (l.take j) = [] ∧ rfold key l j = (-1, 0)) ∨
    ∃ m ∈ seatsL key 0 (l.take j), rfold key l j = (m.1, m.2.2) ∧ 0 ≤ m.1 ∧ m.1.toNat < j ∧ (l[m.1.toNat]!).1 = m.2.1 ∧ ∀ s ∈ seatsL key 0 (l.take j), ltOf seatZ s m = false := by
  intro j
  induction j with
  | zero => intro _; exact .inl ⟨rfl, rfl⟩
  | succ j ih =>
    intro hj
    have hlt : j < l.length := hj
    obtain ⟨b, hb⟩ : ∃ b, l[j]? = some b := ⟨_, List.getElem?_eq_getElem hlt⟩
    have hbj : l[j]! = b := by rw [getElem!_def, hb]
    have hstep : rfold key l (j + 1) = rstep key l (rfold key l j) j b := by rw [← hbj]; rfl
    rw [hstep, seats_step key l j b hb]
    have hself : ∀ x : Bk, ltOf seatZ x x = false := seat_swo.1
    have hnew : (l[((j : Int)).toNat]!).1 = b.1 := by rw [Int.toNat_natCast, hbj]
    generalize seatsL key 0 (l.take j) = acc at *
    by_cases hwt : b.2.2 < 1
    · have h0 : ¬ 0 < b.2.2 := by omega
      rw [if_neg h0, List.append_nil]
      unfold rstep
      rw [if_pos hwt]
      rcases ih (Nat.le_of_lt hlt) with ⟨h1, h2⟩ | ⟨m, h1, h2, h3, h4, h5, h6⟩
      · exact .inl ⟨h1, h2⟩
      · exact .inr ⟨m, h1, h2, h3, by omega, h5, h6⟩
    · have h0 : 0 < b.2.2 := by omega
      rw [if_pos h0]
      unfold rstep
      rw [if_neg hwt]
      generalize scoreZ key b.1 b.2.2 = sc at *
      rcases ih (Nat.le_of_lt hlt) with ⟨h1, h2⟩ | ⟨m, h1, h2, h3, h4, h5, h6⟩
      · rw [h1, h2]
        refine .inr ⟨((j : Int), b.1, sc), by simp, by simp, by simp, by simp, by simpa using hnew, fun s hs => ?_⟩
        simp only [List.nil_append, List.mem_singleton] at hs
        rw [hs]; exact hself _
      · rw [h2]
        have hneg : ¬ m.1 < 0 := by omega
        simp only [hneg, if_false, h5]
        by_cases hbetter : sc > m.2.2 ∨ (sc = m.2.2 ∧ b.1 < m.2.1)
        · have e : (if sc > m.2.2 then ((j : Int), sc) else if sc = m.2.2 ∧ b.1 < m.2.1 then ((j : Int), sc) else (m.1, m.2.2)) = ((j : Int), sc) := by
            rcases hbetter with h | h
            · rw [if_pos h]
            · rw [if_pos h]; split <;> rfl
          rw [e]
          refine .inr ⟨((j : Int), b.1, sc), by simp, rfl, by simp, by simp, hnew, fun s hs => ?_⟩
          rcases List.mem_append.1 hs with hs | hs
          · have h7 := h6 s hs
            rw [seat_nlt] at h7 ⊢
            simp only
            omega
          · rw [List.mem_singleton.1 hs]; exact hself _
        · have e : (if sc > m.2.2 then ((j : Int), sc) else if sc = m.2.2 ∧ b.1 < m.2.1 then ((j : Int), sc) else (m.1, m.2.2)) = (m.1, m.2.2) := by
            rw [if_neg (fun h => hbetter (.inl h)), if_neg (fun h => hbetter (.inr h))]
          rw [e]
          refine .inr ⟨m, List.mem_append_left _ h1, rfl, h3, by omega, h5, fun s hs => ?_⟩
          rcases List.mem_append.1 hs with hs | hs
          · exact h6 s hs
          · rw [List.mem_singleton.1 hs, seat_nlt]
            simp only
            omega
/-- the first of the seats in order is the least -/
theorem sortS_head (S : List Bk) (h : Bk) (r : List Bk) (e : sortS S = h :: r) : h ∈ S ∧ ∀ s ∈ S, ltOf seatZ s h = false := by
  have hp : (sortS S).Perm S := List.mergeSort_perm _ _
  have hs : (sortS S).Pairwise fun a b => (!(ltOf seatZ) b a) = true := by
    refine List.pairwise_mergeSort (fun a b c h1 h2 => ?_) (fun a b => ?_) S
    · simp only [Bool.not_eq_true'] at *
      exact seat_swo.3 _ _ _ h2 h1
    · simp only [Bool.or_eq_true, Bool.not_eq_true']
      by_cases h : ltOf seatZ b a = true
      · right; rw [seat_nlt]; rw [seat_lt] at h; omega
      · left; simpa using h
  rw [e] at hp hs
  refine ⟨hp.mem_iff.1 (by simp), fun s hs' => ?_⟩
  rcases List.mem_cons.1 (hp.mem_iff.2 hs') with rfl | hm
  · exact seat_swo.1 _
  · have := (List.pairwise_cons.1 hs).1 s hm
    simpa using this
/-- where the reference picks, the first seat stands -/
theorem pick_law (key : Int) (l : List Bk) : (sortS (seatsL key 0 l) = [] ∧ (rfold key l l.length).1 = -1) ∨ ∃ h r, sortS (seatsL key 0 l) = h :: r ∧ (rfold key l l.length).1 = h.1 ∧ 0 ≤ h.1 ∧ h.1.toNat < l.length := by
  have h := rfold_min key l l.length (Nat.le_refl _)
  rw [List.take_length] at h
  have hl := sortS_len (seatsL key 0 l)
  rcases h with ⟨h1, h2⟩ | ⟨m, h1, h2, h3, h4, _, h6⟩
  · rw [h1] at hl ⊢
    exact .inl ⟨List.eq_nil_of_length_eq_zero hl, by rw [h2]⟩
  · cases e : sortS (seatsL key 0 l) with
    | nil => rw [e] at hl; have := List.eq_nil_of_length_eq_zero hl.symm; rw [this] at h1; cases h1
    | cons a r =>
      obtain ⟨g1, g2⟩ := sortS_head _ a r e
      have : a = m := seat_total a m (h6 a g1) (g2 m h1)
      subst this
      exact .inr ⟨a, r, rfl, by rw [h2], h3, h4⟩
end Go.Proofs.Ytdabfiichejkpaa
