/- RibNone: the law returns true, whatever comes; what its argument is. -/
import Derived.Test.YtapfboldkkodkaaSlices
import Derived.Test.YtapfboldkkodkaaOpen28
namespace Go.Proofs.Ytapfboldkkodkaa
open Go.ChangeShapes Go.WideShapes Go.ChangeAt Go.RowKit Go.Joins Go.Deep

theorem mixedR_Try : Try.prog.follows .mixedOrders = true := by kernel_rfl
theorem bodiesR_Try : bodiesOk Try.prog = true := by kernel_rfl
theorem ev_ribNone (a0 a1 a2 a3 a4 a5 : Int) (l : List (List TV)) (hm gone : Bool) : vtrue Try.prog 3 [.agg [.val (.int .i64 a0), .val (.int .u32 a1), .val (.int .i64 a2), .val (.int .i64 a3), .vec 1 l .none, .val (.int .u32 a4), .val (.int .i64 a5), .val (.bool hm), .val (.bool gone)]] = cond (decide (IntKind.wrap .i64 (0 + (l.length : Int)) > 3000)) True True := by kernel_rfl
theorem walk_ribNone (a0 a1 a2 a3 a4 a5 : Int) (l : List (List TV)) (hm gone : Bool) (w : World) (u : Value) (hu : VR (topG w) w (.vec 1 l .none) u) : Calls Try.prog 3 #[.agg #[.int .i64 a0, .int .u32 a1, .int .i64 a2, .int .i64 a3, u, .int .u32 a4, .int .i64 a5, .bool hm, .bool gone]] w fun e w' => e = .returned (.bool true) ∧ Gr w w' :=
  VCx.top (us := [.agg #[.int .i64 a0, .int .u32 a1, .int .i64 a2, .int .i64 a3, u, .int .u32 a4, .int .i64 a5, .bool hm, .bool gone]]) (vtrue_vcx mixedR_Try bodiesR_Try (ev_ribNone a0 a1 a2 a3 a4 a5 l hm gone) (cond_tt _)) w
    (VRs.cons (.mk_agg (us := [_, _, _, _, _, _, _, _, _]) (.cons (.val _) (.cons (.val _) (.cons (.val _) (.cons (.val _) (.cons hu (.cons (.val _) (.cons (.val _) (.cons (.val _) (.cons (.val _) (VRs.nil _ _))))))))))) (VRs.nil _ _))
set_option maxRecDepth 100000 in
theorem open_act19 {H : Type} {enc : TypeId × Value → H} {w : World} {r : Reach} {b0 base : Nat} {spare : Nat → Bool} {held : Bool} {v : Value} {d : DataW H} {p : List MemPlace}
    (hv : Value.okWide Try.prog w r b0 31 v) (h : DataW.Trod enc Try.prog w base spare held 31 v d p) :
    ∃ (a0 a1 a2 a3 a4 a5 : Int) (l : List (List TV)) (hm gone : Bool) (u : Value), VR (topG w) w (.vec 1 l .none) u ∧ v = .agg #[.int .i64 a0, .int .u32 a1, .int .i64 a2, .int .i64 a3, u, .int .u32 a4, .int .i64 a5, .bool hm, .bool gone] := by
  obtain ⟨⟨cs⟩, rfl, hsz⟩ := okWide_struct Try.underlying31 hv
  obtain ⟨fuel, hf⟩ := h
  have hl : cs.length = 9 := by simpa using hsz.trans (by kernel_rfl : Try.prog.cellsOf 31 = 9)
  have key := cellTs_ok (P := Try.prog) 5 fuel 31 [3, 22, 3, 3, 25, 22, 3, 4, 4] cs _ (by kernel_rfl) hl hf
  have row := fun {i : Nat} {u : TypeId} => @row_cell Try.prog w r b0 _ _ ⟨cs⟩ Try.underlying31 hv [3, 22, 3, 3, 25, 22, 3, 4, 4] (by kernel_rfl) (by simpa using hl) i u
  obtain ⟨u0, _, _, h0, k0⟩ := key 0 _ rfl
  obtain ⟨u1, _, _, h1, k1⟩ := key 1 _ rfl
  obtain ⟨u2, _, _, h2, k2⟩ := key 2 _ rfl
  obtain ⟨u3, _, _, h3, k3⟩ := key 3 _ rfl
  obtain ⟨u4, _, _, h4, k4⟩ := key 4 _ rfl
  obtain ⟨u5, _, _, h5, k5⟩ := key 5 _ rfl
  obtain ⟨u6, _, _, h6, k6⟩ := key 6 _ rfl
  obtain ⟨u7, _, _, h7, k7⟩ := key 7 _ rfl
  obtain ⟨u8, _, _, h8, k8⟩ := key 8 _ rfl
  obtain ⟨a0, rfl, _⟩ := leaf_int Try.underlying3 k0
  obtain ⟨a1, rfl, _⟩ := leaf_int Try.underlying22 k1
  obtain ⟨a2, rfl, _⟩ := leaf_int Try.underlying3 k2
  obtain ⟨a3, rfl, _⟩ := leaf_int Try.underlying3 k3
  obtain ⟨l, vl, _⟩ := vr_ints Try.underlying25 Try.underlying3 (by kernel_rfl) (row (i := 4) rfl (by simpa using h4)) k4
  obtain ⟨a5, rfl, _⟩ := leaf_int Try.underlying22 k5
  obtain ⟨a6, rfl, _⟩ := leaf_int Try.underlying3 k6
  obtain ⟨b7, e7, _⟩ := DataW.trod_bool Try.underlying4 k7
  injection e7 with e7; subst e7
  obtain ⟨b8, e8, _⟩ := DataW.trod_bool Try.underlying4 k8
  injection e8 with e8; subst e8
  match cs, hl, h0, h1, h2, h3, h4, h5, h6, h7, h8 with
  | [c0, c1, c2, c3, c4, c5, c6, c7, c8], _, h0, h1, h2, h3, h4, h5, h6, h7, h8 =>
    simp at h0 h1 h2 h3 h4 h5 h6 h7 h8
    subst h0 h1 h2 h3 h4 h5 h6 h7 h8
    exact ⟨_, _, _, _, _, _, l, _, _, _, vl, rfl⟩
end Go.Proofs.Ytapfboldkkodkaa
