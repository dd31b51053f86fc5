/- BalanceNone: the law returns true, whatever comes; what its argument is. -/
import Derived.Test.YtapfboldkkodkaaGreatDoorSlices
import Derived.Test.YtapfboldkkodkaaGreatDoorOpen28
namespace Go.Proofs.YtapfboldkkodkaaGreatDoor
open Go.ChangeShapes Go.WideShapes Go.ChangeAt Go.RowKit Go.Joins Go.Deep

theorem mixedB_Tryz : Tryz.prog.follows .mixedOrders = true := by kernel_rfl
theorem bodiesB_Tryz : bodiesOk Tryz.prog = true := by kernel_rfl
theorem ev_lives30 : vtrueC Tryz.prog (fun _ => none) (fun _ => none) 26 [] = True := by kernel_rfl
theorem lives30 : VCx Tryz.prog (fun _ => none) 0 26 [] ⟨[], []⟩ isTrueV := vtrueC_vcx mixedB_Tryz bodiesB_Tryz specsOk_none ev_lives30 trivial
def C30 : List (FuncId × Spec) := [(26, trueW)]
theorem C30_ok : SpecsOk Tryz.prog (fun _ => none) (specs C30) := specs_ok fun p hp => by
  obtain rfl := List.mem_singleton.1 hp
  exact trueW_ok gvals_none lives30
theorem ev_balanceNone (a0 a1 a2 a3 a4 now : Int) (t : Bool) : vtrueC Tryz.prog (fun _ => none) (specs C30) 5 [.agg [.val (.int .i64 a0), .val (.int .u32 a1), .val (.int .u32 a2), .val (.int .i64 a3), .val (.int .i64 a4), .val (.int .i64 now), .val (.bool t)]] = True := by kernel_rfl
theorem walk_balanceNone (a0 a1 a2 a3 a4 now : Int) (t : Bool) (w : World) : Calls Tryz.prog 5 #[.agg #[.int .i64 a0, .int .u32 a1, .int .u32 a2, .int .i64 a3, .int .i64 a4, .int .i64 now, .bool t]] w fun e w' => e = .returned (.bool true) ∧ Gr w w' :=
  VCx.top (us := [.agg #[.int .i64 a0, .int .u32 a1, .int .u32 a2, .int .i64 a3, .int .i64 a4, .int .i64 now, .bool t]]) (vtrueC_vcx mixedB_Tryz bodiesB_Tryz C30_ok (ev_balanceNone a0 a1 a2 a3 a4 now t) trivial) w (vrs_of_toVal rfl)
set_option maxRecDepth 100000 in
theorem open_ask30 {H : Type} {enc : TypeId × Value → H} {w : World} {r : Reach} {b0 base : Nat} {spare : Nat → Bool} {held : Bool} {v : Value} {d : DataW H} {p : List MemPlace}
    (hv : Value.okWide Tryz.prog w r b0 66 v) (h : DataW.Trod enc Tryz.prog w base spare held 66 v d p) :
    ∃ (a0 a1 a2 a3 a4 a5 : Int) (t : Bool), v = .agg #[.int .i64 a0, .int .u32 a1, .int .u32 a2, .int .i64 a3, .int .i64 a4, .int .i64 a5, .bool t] := by
  obtain ⟨⟨cs⟩, rfl, hsz⟩ := okWide_struct Tryz.underlying66 hv
  obtain ⟨fuel, hf⟩ := h
  have hl : cs.length = 7 := by simpa using hsz.trans (by kernel_rfl : Tryz.prog.cellsOf 66 = 7)
  have key := cellTs_ok (P := Tryz.prog) 4 fuel 66 [3, 42, 42, 3, 3, 3, 4] cs _ (by kernel_rfl) hl hf
  obtain ⟨u0, _, _, h0, k0⟩ := key 0 _ rfl
  obtain ⟨u1, _, _, h1, k1⟩ := key 1 _ rfl
  obtain ⟨u2, _, _, h2, k2⟩ := key 2 _ rfl
  obtain ⟨u3, _, _, h3, k3⟩ := key 3 _ rfl
  obtain ⟨u4, _, _, h4, k4⟩ := key 4 _ rfl
  obtain ⟨u5, _, _, h5, k5⟩ := key 5 _ rfl
  obtain ⟨u6, _, _, h6, k6⟩ := key 6 _ rfl
  obtain ⟨a0, rfl, _⟩ := leaf_int Tryz.underlying3 k0
  obtain ⟨a1, rfl, _⟩ := leaf_int Tryz.underlying42 k1
  obtain ⟨a2, rfl, _⟩ := leaf_int Tryz.underlying42 k2
  obtain ⟨a3, rfl, _⟩ := leaf_int Tryz.underlying3 k3
  obtain ⟨a4, rfl, _⟩ := leaf_int Tryz.underlying3 k4
  obtain ⟨a5, rfl, _⟩ := leaf_int Tryz.underlying3 k5
  obtain ⟨b6, e6, _⟩ := DataW.trod_bool Tryz.underlying4 k6
  injection e6 with e6; subst e6
  match cs, hl, h0, h1, h2, h3, h4, h5, h6 with
  | [c0, c1, c2, c3, c4, c5, c6], _, h0, h1, h2, h3, h4, h5, h6 =>
    simp at h0 h1 h2 h3 h4 h5 h6
    subst h0 h1 h2 h3 h4 h5 h6
    exact ⟨_, _, _, _, _, _, _, rfl⟩
end Go.Proofs.YtapfboldkkodkaaGreatDoor
