/- num, U8, Bytes, Read: a source's numbers and bytes. -/
import Derived.Test.YtkjpbadlbpfpaaaDoorQGet
namespace Go.Proofs.YtkjpbadlbpfpaaaDoor
open Go.RowKit

/-- the number that num answers -/
def numN (l : List Nat) (e : Int) (k : Nat) : Nat := if (tkO l e k).length < k then 0 else getN (tkO l e k)
/-- what is known behind a call that takes k bytes and answers the value v -/
def Took1 (w : World) (g : Nat) (vb : Option Nat) (l : List Nat) (e : Int) (k : Nat) (v : Value) (r : Ending) (w' : World) : Prop :=
  r = .returned v ∧ (∃ a, Src w' g vb (tkL l e k) a (tkE l e k)) ∧ Gb g w w'
theorem tkO_lt {l : List Nat} (h : ∀ x ∈ l, x < 256) (e : Int) (k : Nat) : ∀ x ∈ tkO l e k, x < 256 := by
  unfold tkO
  split
  · intro x hx; exact h x (List.mem_of_mem_take hx)
  · intro x hx; cases hx
theorem tkO_le (l : List Nat) (e : Int) (k : Nat) : (tkO l e k).length ≤ k := by
  unfold tkO
  split
  · rw [List.length_take]; omega
  · simp

set_option maxHeartbeats 400000 in
theorem snum (g : Nat) (vb : Option Nat) (l : List Nat) (hl : ∀ x ∈ l, x < 256) (at_ e : Int) (k : Nat) (hk : 0 < k) (hk8 : k ≤ 8) (w : World) (h : Src w g vb l at_ e) :
    Calls Tryd.prog 56 #[.pointer (some ⟨g, 0, none⟩), .int .i64 k] w (Took1 w g vb l e k (.int .u64 (numN l e k))) := by
  have HT := Lib.hid (stake g vb l at_ e k w h)
  have HL := Lib.hid (tkO_lt hl e k)
  have hle := tkO_le l e k
  clear h hl
  go_enter Tryd.func56, Tryd.ntmps56
  go_wp2_with fail
  refine HT.out.mono ?_
  rintro r w1 ⟨v, rfl, hr, _, hs, gb⟩
  have HS := Lib.hid (And.intro hs gb)
  have HR := Lib.hid hr
  clear hs gb
  by_cases hlt : (tkO l e k).length < k
  · have e1 := Lib.hid (show numN l e k = 0 by simp [numN, hlt])
    obtain ⟨_, p, c, rfl, _⟩ := hr
    generalize (tkO l e k).length = n at *
    go_wp2
    go_ret
    exact ⟨by rw [e1.out]; rfl, HS.out⟩
  · have e1 := Lib.hid (show numN l e k = getN ((tkO l e k).take k) by simp [numN, hlt]; rw [List.take_of_length_le hle])
    obtain ⟨b, o, c, rfl, hnc, _, hcl⟩ := hr.pos (by omega)
    have HG := Lib.hid (wget b o c (tkO l e k) HL.out k (by omega) hk8 hnc w1 hcl)
    clear hr hcl
    generalize (tkO l e k).length = n at *
    go_wp2_with (go_at_call 59; refine HG.out.mono ?_; rintro r w2 ⟨rfl, rfl⟩)
    go_ret
    exact ⟨by rw [e1.out]; rfl, HS.out⟩

theorem numN_lt {l : List Nat} (hl : ∀ x ∈ l, x < 256) (e : Int) (k : Nat) : numN l e k < 256 ^ k := by
  unfold numN
  split
  · exact Nat.pow_pos (by decide)
  · exact Nat.lt_of_lt_of_le (getN_lt _ (tkO_lt hl e k)) (Nat.pow_le_pow_right (by decide) (tkO_le l e k))

set_option maxHeartbeats 400000 in
theorem su8 (g : Nat) (vb : Option Nat) (l : List Nat) (hl : ∀ x ∈ l, x < 256) (at_ e : Int) (w : World) (h : Src w g vb l at_ e) :
    Calls Tryd.prog 44 #[.pointer (some ⟨g, 0, none⟩)] w (Took1 w g vb l e 1 (.int .i64 (numN l e 1))) := by
  have HT := Lib.hid (snum g vb l hl at_ e 1 (by decide) (by decide) w h)
  have hlt := numN_lt hl e 1
  simp only [Nat.pow_one] at hlt
  have e1 : IntKind.i64.wrap (numN l e 1 : Int) = (numN l e 1 : Int) := by simp only [IntKind.wrap, IntKind.bits, IntKind.signed]; simp; omega
  clear h hl
  go_enter Tryd.func44, Tryd.ntmps44
  go_wp2_with (go_at_call 56; refine HT.out.mono ?_; rintro r w2 ⟨rfl, hs⟩)
  go_ret
  exact ⟨rfl, hs⟩

/-- what is known behind a call of Bytes -/
def TookB (w : World) (g : Nat) (vb : Option Nat) (l : List Nat) (e : Int) (k : Nat) (r : Ending) (w' : World) : Prop :=
  ∃ v, r = .returned v ∧ w'.ownsRow w.heap.size 5 1 v (tkO l e k).length (u8s (tkO l e k)) ∧ (∃ a, Src w' g vb (tkL l e k) a (tkE l e k)) ∧ Gb g w w'
set_option maxHeartbeats 400000 in
theorem sbytes (g : Nat) (vb : Option Nat) (l : List Nat) (at_ e : Int) (k : Nat) (hk : k ≤ 70368744177664) (w : World) (h : Src w g vb l at_ e) :
    Calls Tryd.prog 46 #[.pointer (some ⟨g, 0, none⟩), .int .i64 k] w (TookB w g vb l e k) := by
  have HT := Lib.hid (stake g vb l at_ e k w h)
  have hle := tkO_le l e k
  clear h
  go_enter Tryd.func46, Tryd.ntmps46
  go_wp2_with fail
  refine HT.out.mono ?_
  rintro r w1 ⟨v, rfl, hr, _, hs, gb⟩
  have HS := Lib.hid (And.intro hs gb)
  have HC := Lib.hid (clone8 v (tkO l e k).length _ (u8s_one _) (by omega) w1 hr)
  clear hr hs gb
  go_wp2_with (go_at_call 42; refine HC.out.mono ?_; rintro r w2 ⟨v2, rfl, g2, own2⟩)
  go_ret
  obtain ⟨⟨a, hs⟩, gb⟩ := HS.out
  exact ⟨v2, rfl, own_mono (Gb.size' gb) own2, ⟨a, hs.gr g2⟩, gb.of_gr g2⟩

set_option maxHeartbeats 400000 in
theorem wread (v : Value) (l : List Nat) (hn : l.length ≤ 70368744177664) (w : World) (hr : Rd w 1 v l.length (u8s l)) :
    Calls Tryd.prog 28 #[v] w fun r w' => ∃ g vb, r = .returned (.pointer (some ⟨g, 0, none⟩)) ∧ w.heap.size ≤ g ∧ Src w' g vb l 0 0 ∧ (∀ b, vb = some b → b < g) ∧ Gr w w' := by
  have HC := Lib.hid (clone8 v l.length _ (u8s_one _) hn w hr)
  clear hr
  go_enter Tryd.func28, Tryd.ntmps28
  go_wp2_with fail
  refine HC.out.mono ?_
  rintro r w1 ⟨v1, rfl, g1, own1⟩
  have rd1 := Lib.hid (Rd.of_own own1)
  obtain ⟨_, p, c, rfl, _⟩ := Rd.of_own own1
  go_wp2
  go_ret
  have hn1 : ∀ b, blockOf (.slice p l.length c) = some b → b < w1.heap.size := fun b hh => by
    cases p with
    | none => cases hh
    | some a =>
      have := own1.lt a.block rfl
      simp only [blockOf, Option.some.injEq] at hh
      omega
  exact ⟨w1.heap.size, _, rfl, g1.size, ⟨_, Blk.new w1 _ [_, _, _, _], rd1.out.gr ((Gr.refl w1).alloc _), rfl, fun hh => by have := hn1 _ hh; omega⟩, hn1, g1.alloc _⟩
end Go.Proofs.YtkjpbadlbpfpaaaDoor
