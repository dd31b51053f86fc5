/- PlaneNone: the law returns true, whatever comes. -/
import Derived.Test.YtapfboldkkodkaaGreatSlices
import Derived.Test.YtapfboldkkodkaaGreatOpen28
namespace Go.Proofs.YtapfboldkkodkaaGreat
open Go.ChangeShapes Go.WideShapes Go.ChangeAt Go.RowKit Go.Joins Go.Deep

theorem mixedP_Tryz : Tryz.prog.follows .mixedOrders = true := by kernel_rfl
theorem bodiesP_Tryz : bodiesOk Tryz.prog = true := by kernel_rfl
theorem ev_lives31 : vtrueC Tryz.prog (fun _ => none) (fun _ => none) 4 [] = (True ∧ True) := by kernel_rfl
theorem lives31 : VCx Tryz.prog (fun _ => none) 0 4 [] ⟨[], []⟩ isTrueV := vtrueC_vcx mixedP_Tryz bodiesP_Tryz specsOk_none ev_lives31 ⟨trivial, trivial⟩
def C31 : List (FuncId × Spec) := [(4, trueW)]
theorem C31_ok : SpecsOk Tryz.prog (fun _ => none) (specs C31) := specs_ok fun p hp => by
  obtain rfl := List.mem_singleton.1 hp
  exact trueW_ok gvals_none lives31
theorem ev_planeNone (l : List (List TV)) (a : Int) : vtrueC Tryz.prog (fun _ => none) (specs C31) 3 [.vec 1 l .none, .val (.int .u32 a)] = cond (decide ((l.length : Int) > 5000)) True True := by kernel_rfl
theorem walk_planeNone (l : List (List TV)) (u : Value) (a : Int) (w : World) (hu : VR (topG w) w (.vec 1 l .none) u) : Calls Tryz.prog 3 #[u, .int .u32 a] w fun e w' => e = .returned (.bool true) ∧ Gr w w' :=
  VCx.top (us := [u, .int .u32 a]) (vtrueC_vcx mixedP_Tryz bodiesP_Tryz C31_ok (ev_planeNone l a) (cond_tt _)) w (VRs.cons hu (VRs.cons (.val _) (VRs.nil _ _)))
set_option maxRecDepth 100000 in
theorem open_bytesV {H : Type} {enc : TypeId × Value → H} {w : World} {b0 base : Nat} {spare : Nat → Bool} {held : Bool} {v : Value} {d : DataW H} {p : List MemPlace}
    (hv : Value.okWide Tryz.prog w .any b0 22 v) (h : DataW.Trod enc Tryz.prog w base spare held 22 v d p) : ∃ l : List (List TV), VR (topG w) w (.vec 1 l .none) v ∧ ∀ x ∈ l, ∃ z, x = [.val (.int .u8 z)] ∧ (Lit.int .u8 z).wf = true := by
  obtain ⟨fuel, hf⟩ := h
  obtain ⟨qq, n, c, rfl⟩ := okWide_slice Tryz.underlying22 hv
  have okc : Cell.okWide Tryz.prog w .any b0 22 (.slice qq n c) := by
    unfold Value.okWide at hv
    rw [Tryz.underlying22] at hv
    exact hv
  exact vr_ints Tryz.underlying22 Tryz.underlying5 (by kernel_rfl) okc hf
end Go.Proofs.YtapfboldkkodkaaGreat
