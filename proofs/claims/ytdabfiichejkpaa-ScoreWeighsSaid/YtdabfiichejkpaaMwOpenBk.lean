/- A slice of backends among the arguments. -/
import Derived.Test.YtdabfiichejkpaaMw4
import Derived.Test.YtdabfiichejkpaaMwPick
import Derived.Test.YtdabfiichejkpaaOpen28
namespace Go.Proofs.Ytdabfiichejkpaa
open Go.ChangeShapes Go.WideShapes Go.ChangeAt Go.RowKit Go.Joins Go.Deep

theorem back_cells {H : Type} {enc : TypeId × Value → H} {w : World} {base m : Nat} {spare : Nat → Bool} {held : Bool} {cs : List Value} {y : DataW H × List MemPlace}
    (h : DataW.trod enc Try.prog w base spare held m 29 cs = some y) (hl : cs.length = 3) : ∃ b : Bk, cs = [.int .i64 b.1, .int .u32 b.2.1, .int .i64 b.2.2] := by
  have key := cellTs_ok (P := Try.prog) 5 m 29 [3, 22, 3] cs y (by kernel_rfl) hl h
  obtain ⟨u0, _, _, h0, k0⟩ := key 0 _ rfl
  obtain ⟨u1, _, _, h1, k1⟩ := key 1 _ rfl
  obtain ⟨u2, _, _, h2, k2⟩ := key 2 _ rfl
  obtain ⟨a, rfl, _⟩ := leaf_int Try.underlying3 k0
  obtain ⟨b, rfl, _⟩ := leaf_int Try.underlying22 k1
  obtain ⟨c, rfl, _⟩ := leaf_int Try.underlying3 k2
  match cs, hl, h0, h1, h2 with
  | [x, y, z], _, h0, h1, h2 =>
    simp at h0 h1 h2
    subst h0 h1 h2
    exact ⟨(a, b, c), rfl⟩
theorem open_backs {H : Type} {enc : TypeId × Value → H} {w : World} {b0 base : Nat} {spare : Nat → Bool} {held : Bool} {v : Value} {d : DataW H} {p : List MemPlace}
    (hv : Value.okWide Try.prog w .any b0 25 v) (h : DataW.Trod enc Try.prog w base spare held 25 v d p) : ∃ l : List Bk, VR (topG w) w (.vec 3 (l.map backE) .none) v := by
  obtain ⟨fuel, hf⟩ := h
  obtain ⟨qq, n, c, rfl⟩ := okWide_slice Try.underlying25 hv
  have okc : Cell.okWide Try.prog w .any b0 25 (.slice qq n c) := by
    unfold Value.okWide at hv
    rw [Try.underlying25] at hv
    exact hv
  obtain ⟨rows, h1, h2⟩ := vr_rows (k := 3) Try.underlying25 (by kernel_rfl) okc hf (fun m cs y h hl v hv => by
    obtain ⟨b, rfl⟩ := back_cells h hl
    simp only [List.mem_cons, List.not_mem_nil, or_false] at hv
    rcases hv with rfl | rfl | rfl <;> rfl)
  obtain ⟨l, hl⟩ := rows_of backE rows (fun x hx => by
    obtain ⟨h3, m, y, h4⟩ := h2 x hx
    obtain ⟨b, rfl⟩ := back_cells h4 h3
    exact ⟨b, rfl⟩)
  exact ⟨l, by rw [← hl]; exact h1⟩
end Go.Proofs.Ytdabfiichejkpaa
