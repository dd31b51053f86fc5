/- The reference's ranking, by repeated picks, is the sorted one. -/
import Derived.Test.YtdabfiichejkpaaMwRankLaw
import Derived.Test.YtdabfiichejkpaaMwPickLaw
namespace Go.Proofs.Ytdabfiichejkpaa
open Go.RowKit Go.Sort Go.Shelf

/-- the places behind p fall by one -/
def decP (p : Int) (x : Bk) : Bk := (if x.1 > p then x.1 - 1 else x.1, x.2)
theorem seats_ge (key : Int) : ∀ (l : List Bk) (k : Nat) (x : Bk), x ∈ seatsL key k l → (k : Int) ≤ x.1 := fun l k x h => by
  obtain ⟨j, b, _, rfl, _⟩ := seats_mem key l k x h
  show (k : Int) ≤ ((k + j : Nat) : Int)
  omega
theorem seats_shift (key : Int) : ∀ (r : List Bk) (k : Nat) (p : Int), p ≤ k → (seatsL key (k + 1) r).map (decP p) = seatsL key k r
  | [], _, _, _ => rfl
  | a :: r, k, p, hp => by
    have ih := seats_shift key r (k + 1) p (by omega)
    have e : ((k + 1 : Nat) : Int) > p := by omega
    simp only [seatsL]
    split
    · rw [List.map_cons, ih]
      simp only [decP, if_pos e]
      congr 2
      omega
    · exact ih
theorem seats_erase (key : Int) : ∀ (m : List Bk) (k i : Nat), i < m.length → seatsL key k (m.eraseIdx i) = ((seatsL key k m).filter fun x => decide (x.1 ≠ ((k + i : Nat) : Int))).map (decP ((k + i : Nat) : Int))
  | [], _, _, h => by simp at h
  | a :: r, k, 0, _ => by
    have hall : ((seatsL key (k + 1) r).filter fun x => decide (x.1 ≠ ((k + 0 : Nat) : Int))) = seatsL key (k + 1) r := by
      refine List.filter_eq_self.2 fun x hx => ?_
      have := seats_ge key r (k + 1) x hx
      simp only [decide_eq_true_eq]; omega
    have hs := seats_shift key r k ((k + 0 : Nat) : Int) (by omega)
    simp only [List.eraseIdx_cons_zero, seatsL]
    split
    · rw [List.filter_cons]
      have : ¬ (decide (((k : Nat) : Int) ≠ ((k + 0 : Nat) : Int)) = true) := by simp
      rw [if_neg this, hall, hs]
    · rw [hall, hs]
  | a :: r, k, i + 1, h => by
    have ih := seats_erase key r (k + 1) i (by simpa using h)
    have e1 : k + 1 + i = k + (i + 1) := by omega
    rw [e1] at ih
    simp only [List.eraseIdx_cons_succ, seatsL]
    split
    · rw [List.filter_cons]
      have h1 : decide (((k : Nat) : Int) ≠ ((k + (i + 1) : Nat) : Int)) = true := by simp; omega
      have h2 : ¬ ((k : Nat) : Int) > ((k + (i + 1) : Nat) : Int) := by omega
      rw [if_pos h1, List.map_cons, ih]
      simp only [decP, if_neg h2]
    · exact ih
theorem seats_apart (key : Int) : ∀ (m : List Bk) (k : Nat), (seatsL key k m).Pairwise fun x y => x.1 ≠ y.1
  | [], _ => by simp [seatsL]
  | a :: r, k => by
    have ih := seats_apart key r (k + 1)
    simp only [seatsL]
    split
    · refine List.pairwise_cons.2 ⟨fun y hy => ?_, ih⟩
      have := seats_ge key r (k + 1) y hy
      show ((k : Nat) : Int) ≠ y.1
      omega
    · exact ih
theorem decP_lt {p : Int} {x y : Bk} (hx : x.1 ≠ p) (hy : y.1 ≠ p) : ltOf seatZ (decP p x) (decP p y) = ltOf seatZ x y := by
  have h : ltOf seatZ (decP p x) (decP p y) = true ↔ ltOf seatZ x y = true := by
    rw [seat_lt, seat_lt]
    simp only [decP]
    have : (if x.1 > p then x.1 - 1 else x.1) < (if y.1 > p then y.1 - 1 else y.1) ↔ x.1 < y.1 := by
      split <;> split <;> omega
    rw [this]
  cases h1 : ltOf seatZ x y
  · cases h2 : ltOf seatZ (decP p x) (decP p y)
    · rfl
    · rw [h1] at h; exact absurd (h.1 h2) (by simp)
  · exact h.2 h1
theorem sort_unique {A B : List Bk} (hp : A.Perm B) (ha : A.Pairwise fun a b => ltOf seatZ b a = false) (hb : B.Pairwise fun a b => ltOf seatZ b a = false) : A = B :=
  List.Perm.eq_of_pairwise (le := fun a b => ltOf seatZ b a = false) (fun a b _ _ h1 h2 => seat_total a b h2 h1) ha hb hp
/-- without the first one -/
theorem sort_rest (key : Int) (m : List Bk) (h : Bk) (r : List Bk) (e : sortS (seatsL key 0 m) = h :: r) : sortS (seatsL key 0 (m.eraseIdx h.1.toNat)) = r.map (decP h.1) ∧ ∀ x ∈ r, x.1 ≠ h.1 := by
  have hb := rank_bound key m h (by rw [e]; simp)
  have hp := sortS_perm (seatsL key 0 m)
  have hs := sortS_pair (seatsL key 0 m)
  rw [e] at hp hs
  have hap : (h :: r).Pairwise fun x y => x.1 ≠ y.1 := hp.symm.pairwise (seats_apart key m 0) (fun h => Ne.symm h)
  have hne : ∀ x ∈ r, x.1 ≠ h.1 := fun x hx => ((List.pairwise_cons.1 hap).1 x hx).symm
  refine ⟨?_, hne⟩
  have hi : ((0 + h.1.toNat : Nat) : Int) = h.1 := by omega
  have he := seats_erase key m 0 h.1.toNat hb.2
  rw [hi] at he
  have hf : ((h :: r).filter fun x => decide (x.1 ≠ h.1)) = r := by
    rw [List.filter_cons]
    have : ¬ (decide (h.1 ≠ h.1) = true) := by simp
    rw [if_neg this]
    exact List.filter_eq_self.2 fun x hx => by simpa using hne x hx
  have hp2 : (seatsL key 0 (m.eraseIdx h.1.toNat)).Perm (r.map (decP h.1)) := by
    rw [he]
    have := (hp.filter fun x => decide (x.1 ≠ h.1)).symm
    rw [hf] at this
    exact this.map _
  refine sort_unique ((sortS_perm _).trans hp2) (sortS_pair _) ?_
  rw [List.pairwise_map]
  refine List.Pairwise.imp_of_mem (fun {a b} ha hb h => ?_) (List.pairwise_cons.1 hs).2
  rw [decP_lt (hne b hb) (hne a ha)]
  exact h
theorem atL_rest (key : Int) (m : List Bk) (h : Bk) (r : List Bk) (e : sortS (seatsL key 0 m) = h :: r) : atL (m.eraseIdx h.1.toNat) (r.map (decP h.1)) = atL m r := by
  have hne := (sort_rest key m h r e).2
  have hb := rank_bound key m
  rw [e] at hb
  have hh := hb h (by simp)
  simp only [atL, List.map_map]
  refine List.map_congr_left fun x hx => ?_
  have hx1 := hne x hx
  have hx2 := hb x (List.mem_cons_of_mem _ hx)
  simp only [Function.comp_apply, decP, getElem!_def, List.getElem?_eraseIdx]
  by_cases hgt : x.1 > h.1
  · simp only [if_pos hgt]
    have h1 : ¬ (x.1 - 1).toNat < h.1.toNat := by omega
    have h2 : (x.1 - 1).toNat + 1 = x.1.toNat := by omega
    rw [if_neg h1, h2]
  · simp only [if_neg hgt]
    have h1 : x.1.toNat < h.1.toNat := by omega
    rw [if_pos h1]
theorem rankL_step (key : Int) (m : List Bk) : ((rfold key m m.length).1 = -1 ∧ rankL key m = []) ∨ ∃ i b, (rfold key m m.length).1 = ((i : Nat) : Int) ∧ m[i]? = some b ∧ rankL key m = b :: rankL key (m.eraseIdx i) := by
  rcases pick_law key m with ⟨h1, h2⟩ | ⟨h, r, h1, h2, h3, h4⟩
  · exact .inl ⟨h2, by simp [rankL, h1, atL]⟩
  · obtain ⟨b, hb⟩ : ∃ b, m[h.1.toNat]? = some b := ⟨_, List.getElem?_eq_getElem h4⟩
    refine .inr ⟨h.1.toNat, b, by omega, hb, ?_⟩
    simp only [rankL]
    rw [(sort_rest key m h r h1).1, atL_rest key m h r h1, h1]
    simp [atL, getElem!_def, hb]
end Go.Proofs.Ytdabfiichejkpaa
