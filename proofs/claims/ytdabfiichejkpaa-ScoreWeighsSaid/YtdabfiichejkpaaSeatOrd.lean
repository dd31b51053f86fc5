/- The order of seats is total; the sort of seats. -/
import Derived.Test.YtdabfiichejkpaaCmp
import Derived.Test.YtdabfiichejkpaaSortK
import Derived.Test.YtdabfiichejkpaaLays28
import Derived.Shelf.SlSortCmp.NoneTotal
namespace Go.Proofs.Ytdabfiichejkpaa
open Go.RowKit Go.Sort Go.Shelf

theorem seat_lt (x y : Int × Int × Int) : ltOf seatZ x y = true ↔ y.2.2 < x.2.2 ∨ (y.2.2 = x.2.2 ∧ (x.2.1 < y.2.1 ∨ (x.2.1 = y.2.1 ∧ x.1 < y.1))) := by
  unfold ltOf seatZ
  simp only [orL, cmpZ]
  by_cases a1 : y.2.2 < x.2.2
  · simp [a1]
  · by_cases a2 : x.2.2 < y.2.2
    · simp [a1, a2]; omega
    · by_cases b1 : x.2.1 < y.2.1
      · simp [a1, a2, b1]; omega
      · by_cases b2 : y.2.1 < x.2.1
        · simp [a1, a2, b1, b2]; omega
        · by_cases c1 : x.1 < y.1
          · simp [a1, a2, b1, b2, c1]
            try omega
          · by_cases c2 : y.1 < x.1
            · simp [a1, a2, b1, b2, c1, c2]
            · simp [a1, a2, b1, b2, c1, c2]
theorem seat_nlt (x y : Int × Int × Int) : ltOf seatZ x y = false ↔ ¬ (y.2.2 < x.2.2 ∨ (y.2.2 = x.2.2 ∧ (x.2.1 < y.2.1 ∨ (x.2.1 = y.2.1 ∧ x.1 < y.1)))) := by
  rw [← seat_lt x y]
  simp
theorem seat_swo : SWO (ltOf seatZ) := by
  refine ⟨fun x => ?_, fun x y z h1 h2 => ?_, fun x y z h1 h2 => ?_⟩
  · rw [seat_nlt]; omega
  · rw [seat_lt] at *; omega
  · rw [seat_nlt] at *; omega
theorem seat_total (x y : Int × Int × Int) (h1 : ltOf seatZ x y = false) (h2 : ltOf seatZ y x = false) : x = y := by
  rw [seat_nlt] at h1 h2
  obtain ⟨a, b, c⟩ := x
  obtain ⟨a', b', c'⟩ := y
  simp only at h1 h2
  have : a = a' ∧ b = b' ∧ c = c' := by omega
  obtain ⟨rfl, rfl, rfl⟩ := this
  rfl

/-- a seat's cells -/
def seatC (x : Int × Int × Int) : List Value := [.int .i64 x.1, .int .i64 x.2.1, .int .u64 x.2.2]
theorem seatLays (blk off size : Nat) (w : World) : CmpLays Try.prog 26 #[] seatC 3 seatZ blk off size w :=
  fun _ _ _ _ x y => (seatCmp x y _).mono fun _ _ ⟨he, hg⟩ => ⟨he, hg.grow⟩
/-- seats in order -/
def sortS (l : List (Int × Int × Int)) : List (Int × Int × Int) := l.mergeSort fun x y => !(ltOf seatZ) y x
theorem sortS_len (l : List (Int × Int × Int)) : (sortS l).length = l.length := List.length_mergeSort l

theorem seatC_len (x : Int × Int × Int) : (seatC x).length = 3 := rfl
theorem seatC_one (x : Int × Int × Int) : ∀ v ∈ seatC x, v.oneCell' = true := by
  intro v hv
  simp [seatC] at hv
  rcases hv with rfl | rfl | rfl <;> rfl
theorem sort_seats (base : Nat) (v : Value) (l : List (Int × Int × Int)) (hl : l.length < 4611686018427387904) (w : World) (h : w.ownsRow base 49 3 v l.length (l.flatMap seatC)) :
    Calls Try.prog 25 #[v, .func (.func 26) #[] #[]] w fun r w' => r = .returned (.tuple #[]) ∧ Rd w' 3 v l.length ((sortS l).flatMap seatC) ∧ (∀ a, Gr a w → a.heap.size ≤ base → Gr a w') := by
  rcases Nat.eq_zero_or_pos l.length with h0 | hpos
  · have : l = [] := List.eq_nil_of_length_eq_zero h0
    subst this
    obtain ⟨_, p, c, rfl, hr⟩ := Rd.of_own h
    exact (AnyF.slices_SortFunc_none Try.sortSeat p c _ w).mono fun _ _ ⟨he, hw⟩ => ⟨he, by subst hw; exact Rd.of_own (by simpa [sortS] using h), fun a ha _ => by subst hw; exact ha⟩
  · have h' : w.ownsRow base 49 3 v l.toArray.size (l.toArray.toList.flatMap seatC) := by simpa using h
    obtain ⟨g, cap, rfl, hb, hg, hH⟩ := sortK_own seatC 3 seatC_len l.toArray h' (by simpa using hpos)
    have hcap := own_form h hpos
    obtain ⟨g', c', hv, hc1, hc2⟩ := hcap
    injection hv with _ _ hcc
    subst hcc
    have hs : l.toArray.size < 4611686018427387904 := by simpa using hl
    have eg : ∀ args w, (callFunc 26 args).run Try.prog w = .ok (.enter 26 args) w := enters_of Try.func26 (by kernel_rfl) rfl
    have hcon := AnyQ.slices_SortFunc_total Try.sortSeat 3 Try.isAgg49 Try.sizeOf49 seatC seatC_len seatC_one seatZ seat_swo 26 #[] g 0 cap l.toArray w eg (seatLays g 0 _ w) hH hg hs seat_total
    refine Calls.mono hcon fun _ _ ⟨he, n, os, hw⟩ => ?_
    have hlen : (l.toArray.toList.mergeSort fun x y => !(ltOf seatZ) y x).toArray.size = l.toArray.size := by simp
    obtain ⟨gb, rd⟩ := sortK_after (n := n) (cap := cap) (os := os) seatC 3 seatC_len hH hlen hg (by simpa using hc1) hc2
    subst hw
    refine ⟨he, ?_, fun a ha hab => Gb.gr gb ha (by omega)⟩
    simpa [sortS] using rd
end Go.Proofs.Ytdabfiichejkpaa
