/- SiblingNone: the law returns true, whatever comes; what its arguments are. -/
import Derived.Test.YtapfboldkkodkaaLeaf
import Derived.Test.YtapfboldkkodkaaOpen28
namespace Go.Proofs.Ytapfboldkkodkaa
open Go.ChangeShapes Go.WideShapes Go.ChangeAt Go.RowKit Go.Joins Go.Deep

theorem mixed_Try : Try.prog.follows .mixedOrders = true := by kernel_rfl
theorem bodies_Try : bodiesOk Try.prog = true := by kernel_rfl
theorem ev_siblingNone (a0 a1 a2 a3 a4 a5 now : Int) : vtrue Try.prog 4 [.agg [.val (.int .i64 a0), .val (.int .i64 a1), .val (.int .u32 a2), .val (.int .i64 a3), .val (.int .i64 a4), .val (.int .i64 a5)], .val (.int .i64 now)] = (True ∧ True) := by kernel_rfl
theorem walk_siblingNone (a0 a1 a2 a3 a4 a5 now : Int) (w : World) : Calls Try.prog 4 #[.agg #[.int .i64 a0, .int .i64 a1, .int .u32 a2, .int .i64 a3, .int .i64 a4, .int .i64 a5], .int .i64 now] w fun e w' => e = .returned (.bool true) ∧ Gr w w' :=
  VCx.top (us := [.agg #[.int .i64 a0, .int .i64 a1, .int .u32 a2, .int .i64 a3, .int .i64 a4, .int .i64 a5], .int .i64 now]) (vtrue_vcx mixed_Try bodies_Try (ev_siblingNone a0 a1 a2 a3 a4 a5 now) ⟨trivial, trivial⟩) w (vrs_of_toVal rfl)
set_option maxRecDepth 100000 in
theorem open_act26 {H : Type} {enc : TypeId × Value → H} {w : World} {r : Reach} {b0 base : Nat} {spare : Nat → Bool} {held : Bool} {v : Value} {d : DataW H} {p : List MemPlace}
    (hv : Value.okWide Try.prog w r b0 58 v) (h : DataW.Trod enc Try.prog w base spare held 58 v d p) :
    ∃ a0 a1 a2 a3 a4 a5 : Int, v = .agg #[.int .i64 a0, .int .i64 a1, .int .u32 a2, .int .i64 a3, .int .i64 a4, .int .i64 a5] := by
  obtain ⟨⟨cs⟩, rfl, hsz⟩ := okWide_struct Try.underlying58 hv
  obtain ⟨fuel, hf⟩ := h
  have hl : cs.length = 6 := by simpa using hsz.trans (by kernel_rfl : Try.prog.cellsOf 58 = 6)
  have key := cellTs_ok (P := Try.prog) 3 fuel 58 [3, 3, 22, 3, 3, 3] cs _ (by kernel_rfl) hl hf
  obtain ⟨u0, _, _, h0, k0⟩ := key 0 _ rfl
  obtain ⟨u1, _, _, h1, k1⟩ := key 1 _ rfl
  obtain ⟨u2, _, _, h2, k2⟩ := key 2 _ rfl
  obtain ⟨u3, _, _, h3, k3⟩ := key 3 _ rfl
  obtain ⟨u4, _, _, h4, k4⟩ := key 4 _ rfl
  obtain ⟨u5, _, _, h5, k5⟩ := key 5 _ rfl
  obtain ⟨a0, rfl, _⟩ := leaf_int Try.underlying3 k0
  obtain ⟨a1, rfl, _⟩ := leaf_int Try.underlying3 k1
  obtain ⟨a2, rfl, _⟩ := leaf_int Try.underlying22 k2
  obtain ⟨a3, rfl, _⟩ := leaf_int Try.underlying3 k3
  obtain ⟨a4, rfl, _⟩ := leaf_int Try.underlying3 k4
  obtain ⟨a5, rfl, _⟩ := leaf_int Try.underlying3 k5
  match cs, hl, h0, h1, h2, h3, h4, h5 with
  | [c0, c1, c2, c3, c4, c5], _, h0, h1, h2, h3, h4, h5 =>
    simp at h0 h1 h2 h3 h4 h5
    subst h0 h1 h2 h3 h4 h5
    exact ⟨_, _, _, _, _, _, rfl⟩
end Go.Proofs.Ytapfboldkkodkaa
