/- A slice of acts among the arguments; SiblingBest, as the row asks it. -/
import Derived.Test.YtgconkbnokbinaaMb4
import Derived.Test.YtgconkbnokbinaaOpen28
import Derived.Test.YtgconkbnokbinaaMbSbLb
namespace Go.Proofs.Ytgconkbnokbinaa
open Go.ChangeShapes Go.WideShapes Go.ChangeAt Go.RowKit Go.Joins Go.Deep

set_option maxRecDepth 100000 in
theorem act_cells {H : Type} {enc : TypeId × Value → H} {w : World} {base m : Nat} {spare : Nat → Bool} {held : Bool} {cs : List Value} {y : DataW H × List MemPlace}
    (h : DataW.trod enc Try.prog w base spare held m 30 cs = some y) (hl : cs.length = 6) : ∃ x : Act6, cs = [.int .i64 x.k, .int .i64 x.i, .int .u32 x.a, .int .i64 x.c, .int .i64 x.p, .int .i64 x.u] := by
  have key := cellTs_ok (P := Try.prog) 5 m 30 [3, 3, 26, 3, 3, 3] cs y (by kernel_rfl) hl h
  obtain ⟨u0, _, _, h0, k0⟩ := key 0 _ rfl
  obtain ⟨u1, _, _, h1, k1⟩ := key 1 _ rfl
  obtain ⟨u2, _, _, h2, k2⟩ := key 2 _ rfl
  obtain ⟨u3, _, _, h3, k3⟩ := key 3 _ rfl
  obtain ⟨u4, _, _, h4, k4⟩ := key 4 _ rfl
  obtain ⟨u5, _, _, h5, k5⟩ := key 5 _ rfl
  obtain ⟨a0, rfl, _⟩ := leaf_int Try.underlying3 k0
  obtain ⟨a1, rfl, _⟩ := leaf_int Try.underlying3 k1
  obtain ⟨a2, rfl, _⟩ := leaf_int Try.underlying26 k2
  obtain ⟨a3, rfl, _⟩ := leaf_int Try.underlying3 k3
  obtain ⟨a4, rfl, _⟩ := leaf_int Try.underlying3 k4
  obtain ⟨a5, rfl, _⟩ := leaf_int Try.underlying3 k5
  match cs, hl, h0, h1, h2, h3, h4, h5 with
  | [c0, c1, c2, c3, c4, c5], _, h0, h1, h2, h3, h4, h5 =>
    simp at h0 h1 h2 h3 h4 h5
    subst h0 h1 h2 h3 h4 h5
    exact ⟨⟨a0, a1, a2, a3, a4, a5⟩, rfl⟩
set_option maxRecDepth 100000 in
theorem open_acts {H : Type} {enc : TypeId × Value → H} {w : World} {b0 base : Nat} {spare : Nat → Bool} {held : Bool} {v : Value} {d : DataW H} {p : List MemPlace}
    (hv : Value.okWide Try.prog w .any b0 22 v) (h : DataW.Trod enc Try.prog w base spare held 22 v d p) : ∃ l : List Act6, VR (topG w) w (.vec 6 (l.map actC) .none) v := by
  obtain ⟨fuel, hf⟩ := h
  obtain ⟨qq, n, c, rfl⟩ := okWide_slice Try.underlying22 hv
  have okc : Cell.okWide Try.prog w .any b0 22 (.slice qq n c) := by
    unfold Value.okWide at hv
    rw [Try.underlying22] at hv
    exact hv
  obtain ⟨rows, h1, h2⟩ := vr_rows (k := 6) Try.underlying22 (by kernel_rfl) okc hf (fun m cs y h hl v hv => by
    obtain ⟨b, rfl⟩ := act_cells h hl
    simp only [List.mem_cons, List.not_mem_nil, or_false] at hv
    rcases hv with rfl | rfl | rfl | rfl | rfl | rfl <;> rfl)
  obtain ⟨l, hl⟩ := rows_of actC rows (fun x hx => by
    obtain ⟨h3, m, y, h4⟩ := h2 x hx
    obtain ⟨b, rfl⟩ := act_cells h4 h3
    exact ⟨b, rfl⟩)
  exact ⟨l, by rw [← hl]; exact h1⟩
theorem walk_best (n : Int) (l : List Act6) (v : Value) (w : World) (hv : VR (topG w) w (.vec 6 (l.map actC) .none) v) : Calls Try.prog 3 #[v, .int .i64 n] w fun e w' => e = .returned (.bool true) ∧ Gr w w' :=
  VCx.top (us := [v, .int .i64 n]) (law_best l n) w (VRs.cons hv (VRs.cons (.val _) (VRs.nil _ _)))
end Go.Proofs.Ytgconkbnokbinaa
