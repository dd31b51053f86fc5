/- take: the next bytes of a source, as they stand. -/
import Derived.Test.YtkjpbadlbpfpaaaDoorQSrc
namespace Go.Proofs.YtkjpbadlbpfpaaaDoor
open Go.RowKit

/-- what take answers, what it leaves, and the error then -/
def tkO (l : List Nat) (e : Int) (k : Nat) : List Nat := if e = 0 ∧ k ≤ l.length then l.take k else []
def tkL (l : List Nat) (e : Int) (k : Nat) : List Nat := if e = 0 ∧ k ≤ l.length then l.drop k else l
def tkE (l : List Nat) (e : Int) (k : Nat) : Int := if e = 0 then (if k ≤ l.length then 0 else 3) else e
/-- what is known behind a call that takes -/
def Took (w : World) (g : Nat) (vb : Option Nat) (l : List Nat) (e : Int) (k : Nat) (r : Ending) (w' : World) : Prop :=
  ∃ v, r = .returned v ∧ Rd w' 1 v (tkO l e k).length (u8s (tkO l e k)) ∧ blockOf v ≠ some g ∧ (∃ a, Src w' g vb (tkL l e k) a (tkE l e k)) ∧ Gb g w w'

theorem u8s_length (l : List Nat) : (u8s l).length = l.length := by simp [u8s]
theorem u8s_take (l : List Nat) (k : Nat) : u8s (l.take k) = (u8s l).take k := by simp [u8s]
theorem u8s_drop (l : List Nat) (k : Nat) : u8s (l.drop k) = (u8s l).drop k := by simp [u8s]
theorem Rd.none0 (w : World) : Rd w 1 (.slice none 0 0) 0 (u8s []) := ⟨rfl, none, 0, rfl, Nat.le_refl _, by unfold maxLen; omega, fun _ => ⟨rfl, rfl⟩, fun ad h => by cases h⟩

set_option maxHeartbeats 400000 in
theorem stake (g : Nat) (vb : Option Nat) (l : List Nat) (at_ e : Int) (k : Nat) (w : World) (h : Src w g vb l at_ e) :
    Calls Tryd.prog 57 #[.pointer (some ⟨g, 0, none⟩), .int .i64 k] w (Took w g vb l e k) := by
  have HS := Lib.hid h
  obtain ⟨v, hb, hr, hvb, hn⟩ := h
  subst hvb
  have HO := Lib.hid (sok g v at_ e w hb)
  have c1 := hb.cell (i := 1) rfl
  have c2 := hb.cell (i := 2) rfl
  have c3 := hb.cell (i := 3) rfl
  have f1 := hb.frz 1
  have f2 := hb.frz 2
  have f3 := hb.frz 3
  obtain ⟨_, p, c, rfl, hlc, _⟩ := hr
  rename_i hx1 hx2
  have HB := Lib.hid hb
  clear hb hx1 hx2
  by_cases he : e = 0
  · have e2 : (e == 0) = true := by simpa using he
    rw [e2] at HO
    subst he
    clear e2
    by_cases hk : l.length < k
    · have e3 : tkO l 0 k = [] := by simp [tkO]; omega
      have e4 : tkL l 0 k = l := by simp [tkL]; omega
      have e5 : tkE l 0 k = 3 := by simp [tkE]; omega
      have E := Lib.hid (And.intro e3 (And.intro e4 e5))
      clear e3 e4 e5
      go_enter Tryd.func57, Tryd.ntmps57
      go_wp2_with (go_at_call 43; refine HO.out.mono ?_; rintro r w1 ⟨rfl, rfl⟩)
      go_ret
      obtain ⟨e3, e4, e5⟩ := E.out
      refine ⟨.slice none 0 0, rfl, ?_, fun hh => by simp [blockOf] at hh, ⟨at_, ?_⟩, Gb.of_set 3 _⟩
      · rw [e3]; exact Rd.none0 _
      · rw [e4, e5]
        obtain ⟨v', hb', hr', hvb', hn'⟩ := HS.out
        refine ⟨v', hb'.set 3 _, hr'.gb (Gb.of_set 3 _) (by rw [hvb']; exact hn'), hvb', hn'⟩
    · have e3 : tkO l 0 k = l.take k := by simp [tkO]; omega
      have e4 : tkL l 0 k = l.drop k := by simp [tkL]; omega
      have e5 : tkE l 0 k = 0 := by simp [tkE]; omega
      have E := Lib.hid (And.intro e3 (And.intro e4 e5))
      clear e3 e4 e5
      have hk' : k ≤ l.length := by omega
      have hkc : k ≤ c := by omega
      go_enter Tryd.func57, Tryd.ntmps57
      go_wp2_with (go_at_call 43; refine HO.out.mono ?_; rintro r w1 ⟨rfl, rfl⟩)
      go_region
      go_wp2
      go_ret
      obtain ⟨e3, e4, e5⟩ := E.out
      obtain ⟨v', hb', hr', hvb', hn'⟩ := HS.out
      have hv : v' = .slice p l.length c := by
        have := hb'.cell (i := 1) rfl
        rw [c1] at this
        exact (Option.some.inj this).symm
      subst hv
      have gb := (((Gb.refl g w).setCell (p := ⟨g, 1, none⟩) rfl (.slice (tailP p c k 1) (l.length - k) (c - k))).setCell (p := ⟨g, 2, none⟩) rfl (.int .i64 (wrap64 (at_ + k)))).drew
      refine ⟨.slice p k k, rfl, ?_, (fun hh => hn' ((blockOf_head p l.length c k k).symm.trans hh)), ⟨wrap64 (at_ + k), ?_⟩, gb⟩
      · rw [e3, List.length_take, Nat.min_eq_left hk', u8s_take]
        exact (by simpa using hr'.head3 hk' : Rd w 1 (.slice p k k) k ((u8s l).take k)).gb gb ((fun hh => hn' ((blockOf_head p l.length c k k).symm.trans hh)))
      · rw [e4, e5]
        refine ⟨.slice (tailP p c k 1) (l.length - k) (c - k), ((hb'.set 1 _).set 2 _).drew, ?_, blockOf_tail p l.length c k 1 _ _, hn'⟩
        rw [List.length_drop, u8s_drop]
        exact (by simpa using hr'.tail hk' : Rd w 1 (.slice (tailP p c k 1) (l.length - k) (c - k)) (l.length - k) ((u8s l).drop k)).gb gb ((fun hh => hn' ((blockOf_tail p l.length c k 1 _ _).symm.trans hh)))
  · have e2 : (e == 0) = false := by simpa using he
    rw [e2] at HO
    have e3 : tkO l e k = [] := by simp [tkO, he]
    have e4 : tkL l e k = l := by simp [tkL, he]
    have e5 : tkE l e k = e := by simp [tkE, he]
    have E := Lib.hid (And.intro e3 (And.intro e4 e5))
    clear e2 e3 e4 e5 he
    go_enter Tryd.func57, Tryd.ntmps57
    go_wp2_with (go_at_call 43; refine HO.out.mono ?_; rintro r w1 ⟨rfl, rfl⟩)
    go_ret
    obtain ⟨e3, e4, e5⟩ := E.out
    refine ⟨.slice none 0 0, rfl, ?_, fun hh => by simp [blockOf] at hh, ⟨at_, ?_⟩, Gb.refl g w⟩
    · rw [e3]; exact Rd.none0 _
    · rw [e4, e5]; exact HS.out
end Go.Proofs.YtkjpbadlbpfpaaaDoor
