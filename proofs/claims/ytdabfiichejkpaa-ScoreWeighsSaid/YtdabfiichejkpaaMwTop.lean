/- Arguments whose fields are all numbers (p28). -/
import Derived.Test.YtdabfiichejkpaaMw4
namespace Go.Proofs.Ytdabfiichejkpaa
open Go.ChangeShapes Go.WideShapes Go.ChangeAt Go.RowKit Go.Joins Go.Deep

theorem open_flow {H : Type} {enc : TypeId × Value → H} {w : World} {r : Reach} {b0 base : Nat} {spare : Nat → Bool} {held : Bool} {v : Value} {d : DataW H} {p : List MemPlace}
    (hv : Value.okWide Try.prog w r b0 24 v) (h : DataW.Trod enc Try.prog w base spare held 24 v d p) :
    ∃ pr s t sp dp : Int, v = .agg #[.int .i64 pr, .int .u32 s, .int .u32 t, .int .i64 sp, .int .i64 dp] := by
  obtain ⟨⟨cs⟩, rfl, hsz⟩ := okWide_struct Try.underlying24 hv
  obtain ⟨fuel, hf⟩ := h
  have key := fun {j : Nat} {f : Field} {k : IntKind} => @fields_int H enc Try.prog w base spare held fuel _ _ _ _ Try.underlying24 (by kernel_rfl) hf j f k
  obtain ⟨a0, h0, _⟩ := key (j := 0) rfl Try.underlying3
  obtain ⟨a1, h1, _⟩ := key (j := 1) rfl Try.underlying22
  obtain ⟨a2, h2, _⟩ := key (j := 2) rfl Try.underlying22
  obtain ⟨a3, h3, _⟩ := key (j := 3) rfl Try.underlying3
  obtain ⟨a4, h4, _⟩ := key (j := 4) rfl Try.underlying3
  have hl : cs.length = 5 := by simpa using hsz.trans (by kernel_rfl : Try.prog.cellsOf 24 = 5)
  match cs, hl, h0, h1, h2, h3, h4 with
  | [c0, c1, c2, c3, c4], _, h0, h1, h2, h3, h4 =>
    simp [Value.cells] at h0 h1 h2 h3 h4
    subst h0 h1 h2 h3 h4
    exact ⟨_, _, _, _, _, rfl⟩
theorem open_two {H : Type} {enc : TypeId × Value → H} {w : World} {r : Reach} {b0 base : Nat} {spare : Nat → Bool} {held : Bool} {v : Value} {d : DataW H} {p : List MemPlace}
    (hv : Value.okWide Try.prog w r b0 37 v) (h : DataW.Trod enc Try.prog w base spare held 37 v d p) : ∃ a b : Int, v = .agg #[.int .i64 a, .int .i64 b] := by
  have hv' := hv
  unfold Value.okWide at hv'
  rw [Try.underlying37] at hv'
  obtain ⟨⟨cs⟩, rfl, hsz, _⟩ := hv'
  obtain ⟨fuel, hf⟩ := h
  obtain ⟨a0, h0, _⟩ := elems_int (j := 0) Try.underlying37 (by kernel_rfl) hf (by decide) Try.underlying3
  obtain ⟨a1, h1, _⟩ := elems_int (j := 1) Try.underlying37 (by kernel_rfl) hf (by decide) Try.underlying3
  have hl : cs.length = 2 := by simpa using hsz.trans (by kernel_rfl : Try.prog.cellsOf 37 = 2)
  match cs, hl, h0, h1 with
  | [c0, c1], _, h0, h1 =>
    simp [Value.cells] at h0 h1
    subst h0 h1
    exact ⟨_, _, rfl⟩
end Go.Proofs.Ytdabfiichejkpaa
