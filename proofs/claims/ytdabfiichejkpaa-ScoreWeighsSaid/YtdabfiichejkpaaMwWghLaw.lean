/- With more weight the picked one is picked still; with less weight another one that was not picked is not either. -/
import Derived.Test.YtdabfiichejkpaaMwStayLaw
namespace Go.Proofs.Ytdabfiichejkpaa
open Go.RowKit Go.Sort Go.Shelf

theorem mx_ge (a b : Int) : a ≤ mx a b := by unfold mx; split <;> omega
theorem topZ_mono (f : Nat → Int) : ∀ {n m : Nat}, n ≤ m → topZ f n ≤ topZ f m
  | n, 0, h => by
    have : n = 0 := by omega
    subst this; exact Int.le_refl _
  | n, m + 1, h => by
    by_cases he : n = m + 1
    · subst he; exact Int.le_refl _
    · exact Int.le_trans (topZ_mono f (show n ≤ m by omega)) (mx_ge _ _)
theorem score_mono (key id : Int) {w w' : Int} (h : w ≤ w') : scoreZ key id w ≤ scoreZ key id w' := by
  unfold scoreZ
  refine topZ_mono _ ?_
  unfold cntZ
  split <;> split <;> (try split) <;> (try split) <;> omega
theorem seats_in (key : Int) : ∀ (l : List Bk) (k j : Nat) (b : Bk), l[j]? = some b → 0 < b.2.2 → (((k + j : Nat) : Int), b.1, scoreZ key b.1 b.2.2) ∈ seatsL key k l
  | [], _, _, _, h, _ => by simp at h
  | a :: r, k, 0, b, h, hw => by
    simp at h; subst h
    simp only [seatsL]
    rw [if_pos hw]
    exact List.mem_cons_self
  | a :: r, k, j + 1, b, h, hw => by
    have ih := seats_in key r (k + 1) j b (by simpa using h) hw
    have e : k + 1 + j = k + (j + 1) := by omega
    rw [e] at ih
    simp only [seatsL]
    split
    · exact List.mem_cons_of_mem _ ih
    · exact ih
theorem picks_min {key : Int} {m : List Bk} {b : Bk} (h : Picks key m (some b)) : ∃ j : Nat, m[j]? = some b ∧ 0 < b.2.2 ∧ ∀ s ∈ seatsL key 0 m, ltOf seatZ s ((j : Int), b.1, scoreZ key b.1 b.2.2) = false := by
  rcases h with ⟨h, _⟩ | ⟨x, r, b', hb, e, hl⟩
  · cases h
  · injection hb with hb; subst hb
    obtain ⟨m1, m2⟩ := sortS_head _ x r e
    obtain ⟨j, b', h1, rfl, h3⟩ := seats_mem key m 0 x m1
    simp only [Nat.zero_add, Int.toNat_natCast] at hl m2
    rw [h1] at hl; injection hl with hl; subst hl
    exact ⟨j, h1, h3, m2⟩
theorem picks_of_min {key : Int} {m : List Bk} {b b3 : Bk} {j : Nat} (hj : m[j]? = some b) (hw : 0 < b.2.2) (hm : ∀ s ∈ seatsL key 0 m, ltOf seatZ s ((j : Int), b.1, scoreZ key b.1 b.2.2) = false) (h : Picks key m (some b3)) : b3 = b := by
  have hin := seats_in key m 0 j b hj hw
  rw [Nat.zero_add] at hin
  rcases h with ⟨h, _⟩ | ⟨x, r, b', hb, e, hl⟩
  · cases h
  · injection hb with hb; subst hb
    obtain ⟨m1, m2⟩ := sortS_head _ x r e
    have := seat_total x _ (hm x m1) (m2 _ hin)
    subst this
    simp only [Int.toNat_natCast] at hl
    rw [hj] at hl; injection hl with hl; exact hl.symm
theorem weigh_law {key : Int} {m : List Bk} {k : Nat} {c b1 b3 : Bk} {w : Int} (hd : (m.map (·.1)).Nodup) (hk : m[k]? = some c) (h1 : Picks key m (some b1)) (h3 : Picks key (m.set k (c.1, c.2.1, w)) (some b3)) :
    (w ≥ c.2.2 → b1.1 = c.1 → b3.1 = b1.1) ∧ (w ≤ c.2.2 → b1.1 ≠ c.1 → b3.1 = b1.1) := by
  have hklt := (List.getElem?_eq_some_iff.1 hk).1
  obtain ⟨j, hj, hw, hm⟩ := picks_min h1
  have hset : ∀ (i : Nat) (b : Bk), (m.set k (c.1, c.2.1, w))[i]? = some b → (i = k ∧ b = (c.1, c.2.1, w)) ∨ (i ≠ k ∧ m[i]? = some b) := fun i b h => by
    rw [List.getElem?_set] at h
    split at h
    · rename_i e; subst e
      try rw [if_pos hklt] at h
      injection h with h
      exact .inl ⟨rfl, h.symm⟩
    · rename_i e; exact .inr ⟨fun h => e h.symm, h⟩
  constructor
  · intro hge hid
    have hjk : j = k := by
      have e1 : (m.map (·.1))[j]? = some b1.1 := by rw [List.getElem?_map, hj]; rfl
      have e2 : (m.map (·.1))[k]? = some b1.1 := by rw [List.getElem?_map, hk, hid]; rfl
      have hlt := (List.getElem?_eq_some_iff.1 e1).1
      exact (List.getElem?_inj hlt hd).1 (e1.trans e2.symm)
    subst hjk
    rw [hk] at hj; injection hj with hj; subst hj
    have hnew : (m.set j (c.1, c.2.1, w))[j]? = some (c.1, c.2.1, w) := by rw [List.getElem?_set]; simp [hklt]
    have := picks_of_min hnew (by simp only; omega) (fun s hs => ?_) h3
    · rw [this]
    · obtain ⟨i, b, hi, rfl, hb⟩ := seats_mem key _ 0 s hs
      simp only [Nat.zero_add]
      rcases hset i b hi with ⟨rfl, rfl⟩ | ⟨hne, hi'⟩
      · exact seat_swo.1 _
      · have h5 := hm _ (by have := seats_in key m 0 i b hi' hb; rwa [Nat.zero_add] at this)
        have h6 := score_mono key c.1 hge
        rw [seat_nlt] at h5 ⊢
        simp only at h5 ⊢
        omega
  · intro hle hid
    have hjk : j ≠ k := fun e => by
      subst e
      rw [hk] at hj; injection hj with hj
      exact hid (by rw [hj])
    have hold : (m.set k (c.1, c.2.1, w))[j]? = some b1 := by rw [List.getElem?_set, if_neg (fun e => hjk e.symm)]; exact hj
    have := picks_of_min hold hw (fun s hs => ?_) h3
    · rw [this]
    · obtain ⟨i, b, hi, rfl, hb⟩ := seats_mem key _ 0 s hs
      simp only [Nat.zero_add]
      rcases hset i b hi with ⟨rfl, rfl⟩ | ⟨hne, hi'⟩
      · simp only at hb
        have h5 := hm _ (by have := seats_in key m 0 i c hk (by omega); rwa [Nat.zero_add] at this)
        have h6 := score_mono key c.1 hle
        rw [seat_nlt] at h5 ⊢
        simp only at h5 ⊢
        omega
      · exact hm _ (by have := seats_in key m 0 i b hi' hb; rwa [Nat.zero_add] at this)
end Go.Proofs.Ytdabfiichejkpaa
