/- Without a backend that was not picked the same one is picked; with one more that one, or the new one. -/
import Derived.Test.YtdabfiichejkpaaMwRankRef
namespace Go.Proofs.Ytdabfiichejkpaa
open Go.RowKit Go.Sort Go.Shelf

def Picks (key : Int) (l : List Bk) (o : Option Bk) : Prop := (o = none ∧ sortS (seatsL key 0 l) = []) ∨ ∃ h r b, o = some b ∧ sortS (seatsL key 0 l) = h :: r ∧ l[h.1.toNat]? = some b
theorem picks_ex (key : Int) (l : List Bk) : ∃ o, Picks key l o := by
  cases e : sortS (seatsL key 0 l) with
  | nil => exact ⟨none, .inl ⟨rfl, e⟩⟩
  | cons h r =>
    have hb := rank_bound key l h (by rw [e]; simp)
    exact ⟨some (l[h.1.toNat]'hb.2), .inr ⟨h, r, _, rfl, e, List.getElem?_eq_getElem hb.2⟩⟩
theorem stay_less {key : Int} {l : List Bk} {k : Nat} {b c : Bk} (h : Picks key l (some b)) (hk : l[k]? = some c) (hne : c ≠ b) : Picks key (l.eraseIdx k) (some b) := by
  rcases h with ⟨h, _⟩ | ⟨m, r, b', hb, e, hl⟩
  · cases h
  · injection hb with hb; subst hb
    have hklt : k < l.length := (List.getElem?_eq_some_iff.1 hk).1
    obtain ⟨m1, m2⟩ := sortS_head _ m r e
    have hbd := rank_bound key l m (by rw [e]; simp)
    have hmk : m.1 ≠ (k : Int) := fun hc => by
      rw [hc] at hl
      simp only [Int.toNat_natCast] at hl
      rw [hk] at hl; injection hl with hl; exact hne hl
    have hs := seats_erase key l 0 k hklt
    simp only [Nat.zero_add] at hs
    have hin : decP (k : Int) m ∈ seatsL key 0 (l.eraseIdx k) := by
      rw [hs]
      exact List.mem_map_of_mem (List.mem_filter.2 ⟨m1, by simpa using hmk⟩)
    cases e2 : sortS (seatsL key 0 (l.eraseIdx k)) with
    | nil =>
      have := (sortS_perm (seatsL key 0 (l.eraseIdx k))).mem_iff.2 hin
      rw [e2] at this; cases this
    | cons a t =>
      obtain ⟨a1, a2⟩ := sortS_head _ a t e2
      have h1 : ltOf seatZ a (decP (k : Int) m) = false := by
        rw [hs] at a1
        obtain ⟨s, s1, rfl⟩ := List.mem_map.1 a1
        obtain ⟨s2, s3⟩ := List.mem_filter.1 s1
        have s3' : s.1 ≠ (k : Int) := by simpa using s3
        rw [decP_lt s3' hmk]
        exact m2 s s2
      have : a = decP (k : Int) m := seat_total a _ h1 (a2 _ hin)
      subst this
      refine .inr ⟨_, t, b, rfl, e2, ?_⟩
      rw [← hl]
      simp only [decP, List.getElem?_eraseIdx]
      by_cases hgt : m.1 > (k : Int)
      · simp only [if_pos hgt]
        have q1 : ¬ (m.1 - 1).toNat < k := by omega
        have q2 : (m.1 - 1).toNat + 1 = m.1.toNat := by omega
        rw [if_neg q1, q2]
      · simp only [if_neg hgt]
        have q1 : m.1.toNat < k := by omega
        rw [if_pos q1]
theorem stay_more {key : Int} {l : List Bk} {b : Bk} {o : Option Bk} (h : Picks key l o) : ∃ o', Picks key (l ++ [b]) o' ∧ (o'.isSome = (o.isSome || decide (b.2.2 > 0))) ∧ (∀ c, o = some c → o' = some c ∨ o' = some b) := by
  have hs := seatsL_snoc key l 0 b
  simp only [Nat.zero_add] at hs
  obtain ⟨o', ho'⟩ := picks_ex key (l ++ [b])
  refine ⟨o', ho', ?_, ?_⟩
  · rcases h with ⟨rfl, e⟩ | ⟨m, r, c, rfl, e, hl⟩
    · have hnil : seatsL key 0 l = [] := by
        have := sortS_len (seatsL key 0 l)
        rw [e] at this
        exact List.eq_nil_of_length_eq_zero this.symm
      rw [hnil, List.nil_append] at hs
      have hlen := sortS_len (seatsL key 0 (l ++ [b]))
      rcases ho' with ⟨rfl, e'⟩ | ⟨m', r', c', rfl, e', hl'⟩
      · rw [e', hs] at hlen
        split at hlen
        · simp at hlen
        · rename_i hw
          simp; omega
      · rw [e', hs] at hlen
        split at hlen
        · rename_i hw
          simp; omega
        · simp at hlen
    · rcases ho' with ⟨rfl, e'⟩ | ⟨m', r', c', rfl, e', hl'⟩
      · have hlen := sortS_len (seatsL key 0 (l ++ [b]))
        have hlen0 := sortS_len (seatsL key 0 l)
        rw [e', hs, List.length_append] at hlen
        rw [e] at hlen0
        simp at hlen hlen0
        omega
      · simp
  · rintro c rfl
    rcases h with ⟨h, _⟩ | ⟨m, r, c', hc, e, hl⟩
    · cases h
    · injection hc with hc; subst hc
      obtain ⟨m1, m2⟩ := sortS_head _ m r e
      have hin : m ∈ seatsL key 0 (l ++ [b]) := by rw [hs]; exact List.mem_append_left _ m1
      rcases ho' with ⟨rfl, e'⟩ | ⟨m', r', c', rfl, e', hl'⟩
      · have := (sortS_perm (seatsL key 0 (l ++ [b]))).mem_iff.2 hin
        rw [e'] at this; cases this
      · obtain ⟨a1, a2⟩ := sortS_head _ m' r' e'
        have hbd := rank_bound key l m (by rw [e]; simp)
        rw [hs] at a1
        rcases List.mem_append.1 a1 with a1 | a1
        · have : m' = m := seat_total m' m (m2 m' a1) (a2 m hin)
          subst this
          left
          rw [List.getElem?_append_left hbd.2, hl] at hl'
          exact hl'.symm
        · right
          split at a1
          · have := List.mem_singleton.1 a1
            subst this
            simp at hl'
            rw [hl']
          · cases a1
end Go.Proofs.Ytdabfiichejkpaa
