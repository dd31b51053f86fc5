/- What the ranked ones are: as many as have a weight, by falling scores. -/
import Derived.Test.YtdabfiichejkpaaMwSeatV
namespace Go.Proofs.Ytdabfiichejkpaa
open Go.RowKit Go.Sort Go.Shelf

theorem seats_mem (key : Int) : ∀ (l : List Bk) (k : Nat) (x : Bk), x ∈ seatsL key k l → ∃ j b, l[j]? = some b ∧ x = (((k + j : Nat) : Int), b.1, scoreZ key b.1 b.2.2) ∧ 0 < b.2.2
  | [], _, _, h => by simp [seatsL] at h
  | a :: r, k, x, h => by
    have step : x ∈ seatsL key (k + 1) r → ∃ j b, (a :: r)[j]? = some b ∧ x = (((k + j : Nat) : Int), b.1, scoreZ key b.1 b.2.2) ∧ 0 < b.2.2 := fun h' => by
      obtain ⟨j, b, h1, h2, h3⟩ := seats_mem key r (k + 1) x h'
      exact ⟨j + 1, b, by simpa using h1, by rw [h2]; congr 2; omega, h3⟩
    simp only [seatsL] at h
    split at h
    · rename_i hw
      rcases List.mem_cons.1 h with rfl | h
      · exact ⟨0, a, rfl, rfl, hw⟩
      · exact step h
    · exact step h
/-- how many have a weight -/
def cntW (l : List Bk) : Nat := (l.filter fun b => decide (0 < b.2.2)).length
theorem cntW_le (l : List Bk) : cntW l ≤ l.length := List.length_filter_le _ _
theorem seats_count (key : Int) : ∀ (l : List Bk) (k : Nat), (seatsL key k l).length = cntW l
  | [], _ => rfl
  | a :: r, k => by
    have h := seats_count key r (k + 1)
    simp only [seatsL, cntW, List.filter_cons] at h ⊢
    by_cases hw : 0 < a.2.2
    · simp [hw, h]
    · simp [hw, h]
theorem cntW_step (l : List Bk) (j : Nat) (b : Bk) (hb : l[j]? = some b) : cntW (l.take (j + 1)) = if 0 < b.2.2 then cntW (l.take j) + 1 else cntW (l.take j) := by
  have e : l.take (j + 1) = l.take j ++ [b] := by rw [List.take_add_one, hb]; rfl
  rw [e]
  simp only [cntW, List.filter_append, List.length_append, List.filter_cons, List.filter_nil]
  split <;> simp_all
theorem sortS_perm (S : List Bk) : (sortS S).Perm S := List.mergeSort_perm _ _
theorem sortS_pair (S : List Bk) : (sortS S).Pairwise fun a b => ltOf seatZ b a = false := by
  have hs : (sortS S).Pairwise fun a b => (!(ltOf seatZ) b a) = true := by
    refine List.pairwise_mergeSort (fun a b c h1 h2 => ?_) (fun a b => ?_) S
    · simp only [Bool.not_eq_true'] at *
      exact seat_swo.3 _ _ _ h2 h1
    · simp only [Bool.or_eq_true, Bool.not_eq_true']
      by_cases h : ltOf seatZ b a = true
      · right; rw [seat_nlt]; rw [seat_lt] at h; omega
      · left; simpa using h
  exact hs.imp fun h => by simpa using h
theorem pair_at {α : Type} {R : α → α → Prop} : ∀ {l : List α}, l.Pairwise R → ∀ (i j : Nat) (x y : α), i < j → l[i]? = some x → l[j]? = some y → R x y
  | [], _, i, j, x, y, _, h, _ => by simp at h
  | a :: r, h, i, j, x, y, hij, h1, h2 => by
    obtain ⟨k, rfl⟩ : ∃ k, j = k + 1 := ⟨j - 1, by omega⟩
    simp only [List.getElem?_cons_succ] at h2
    rw [List.pairwise_cons] at h
    cases i with
    | zero => simp at h1; subst h1; exact h.1 y (List.mem_of_getElem? h2)
    | succ i => simp at h1; exact pair_at h.2 i k x y (by omega) h1 h2
theorem rank_fall (S : List Bk) (i : Nat) (x y : Bk) (hx : (sortS S)[i]? = some x) (hy : (sortS S)[i + 1]? = some y) : y.2.2 ≤ x.2.2 := by
  have h := pair_at (sortS_pair S) i (i + 1) x y (Nat.lt_succ_self i) hx hy
  rw [seat_nlt] at h
  omega
theorem rank_at (key : Int) (l : List Bk) (i : Nat) (x : Bk) (hx : (sortS (seatsL key 0 l))[i]? = some x) : ∃ b, (atL l (sortS (seatsL key 0 l)))[i]? = some b ∧ scoreZ key b.1 b.2.2 = x.2.2 ∧ l[x.1.toNat]? = some b ∧ 0 ≤ x.1 := by
  have hm := (sortS_perm (seatsL key 0 l)).mem_iff.1 (List.mem_of_getElem? hx)
  obtain ⟨j, b, h1, rfl, _⟩ := seats_mem key l 0 x hm
  simp only [Nat.zero_add, Int.toNat_natCast] at *
  exact ⟨b, by rw [atL, List.getElem?_map, hx]; simp [getElem!_def, h1], rfl, h1, by omega⟩
/-- the ranked ones -/
def rankL (key : Int) (m : List Bk) : List Bk := atL m (sortS (seatsL key 0 m))
theorem rank_bound (key : Int) (l : List Bk) : ∀ x ∈ sortS (seatsL key 0 l), 0 ≤ x.1 ∧ x.1.toNat < l.length := fun x hx => by
  have hm := (sortS_perm (seatsL key 0 l)).mem_iff.1 hx
  obtain ⟨j, b, h1, rfl, _⟩ := seats_mem key l 0 x hm
  have := (List.getElem?_eq_some_iff.1 h1).1
  constructor
  · exact Int.natCast_nonneg _
  · simpa using this
end Go.Proofs.Ytdabfiichejkpaa
