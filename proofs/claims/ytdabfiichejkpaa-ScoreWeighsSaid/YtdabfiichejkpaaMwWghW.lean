/- ScoreWeighs, as the row asks it. -/
import Derived.Test.YtdabfiichejkpaaMwOpenBk
import Derived.Test.YtdabfiichejkpaaMwWgh
import Derived.Test.YtdabfiichejkpaaMw4
namespace Go.Proofs.Ytdabfiichejkpaa
open Go.ChangeShapes Go.WideShapes Go.ChangeAt Go.RowKit Go.Joins Go.Deep

theorem open_two8 {H : Type} {enc : TypeId × Value → H} {w : World} {r : Reach} {b0 base : Nat} {spare : Nat → Bool} {held : Bool} {v : Value} {d : DataW H} {p : List MemPlace}
    (hv : Value.okWide Try.prog w r b0 34 v) (h : DataW.Trod enc Try.prog w base spare held 34 v d p) : ∃ a b : Int, v = .agg #[.int .u8 a, .int .u8 b] := by
  have hv' := hv
  unfold Value.okWide at hv'
  rw [Try.underlying34] at hv'
  obtain ⟨⟨cs⟩, rfl, hsz, _⟩ := hv'
  obtain ⟨fuel, hf⟩ := h
  obtain ⟨a0, h0, _⟩ := elems_int (j := 0) Try.underlying34 (by kernel_rfl) hf (by decide) Try.underlying5
  obtain ⟨a1, h1, _⟩ := elems_int (j := 1) Try.underlying34 (by kernel_rfl) hf (by decide) Try.underlying5
  have hl : cs.length = 2 := by simpa using hsz.trans (by kernel_rfl : Try.prog.cellsOf 34 = 2)
  match cs, hl, h0, h1 with
  | [c0, c1], _, h0, h1 =>
    simp [Value.cells] at h0 h1
    subst h0 h1
    exact ⟨_, _, rfl⟩
theorem walk_weighs (pr s d sp dp : Int) (l : List Bk) (v : Value) (a0 w0 : Int) (w : World) (hv : VR (topG w) w (.vec 3 (l.map backE) .none) v) : Calls Try.prog 4 #[.agg #[.int .i64 pr, .int .u32 s, .int .u32 d, .int .i64 sp, .int .i64 dp], v, .agg #[.int .u8 a0, .int .u8 w0]] w fun e w' => e = .returned (.bool true) ∧ Gr w w' :=
  VCx.top (us := [.agg #[.int .i64 pr, .int .u32 s, .int .u32 d, .int .i64 sp, .int .i64 dp], v, .agg #[.int .u8 a0, .int .u8 w0]]) (law_weighs (pr, s, d, sp, dp) l a0 w0) w (VRs.cons (vr_of_toVal rfl) (VRs.cons hv (VRs.cons (vr_of_toVal rfl) (VRs.nil _ _))))
end Go.Proofs.Ytdabfiichejkpaa
