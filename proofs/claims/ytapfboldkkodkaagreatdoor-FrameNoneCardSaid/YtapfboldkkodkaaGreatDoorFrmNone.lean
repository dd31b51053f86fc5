/- FrameNone: the law returns true, whatever comes. -/
import Derived.Test.YtapfboldkkodkaaGreatDoorSlices
namespace Go.Proofs.YtapfboldkkodkaaGreatDoor
open Go.RowKit

def leastG : Globs := fun n => bif Nat.beq n 0 then some [.val (.int .i64 0), .val (.int .i64 29), .val (.int .i64 23), .val (.int .i64 21), .val (.int .i64 19)] else none
theorem mixedF_Tryz : Tryz.prog.follows .mixedOrders = true := by kernel_rfl
theorem bodiesF_Tryz : bodiesOk Tryz.prog = true := by kernel_rfl
theorem ev_frameNone (l : List (List TV)) : vtrueG Tryz.prog leastG 3 [.vec 1 l .none] = cond (decide ((l.length : Int) > 5000)) True True := by kernel_rfl
theorem walk_frameNone (l : List (List TV)) (w : World) (u : Value) (hG : GOk leastG (topG w) w) (hu : VR (topG w) w (.vec 1 l .none) u) : Calls Tryz.prog 3 #[u] w fun e w' => e = .returned (.bool true) ∧ Gr w w' :=
  VCx.topK (us := [u]) (vtrueG_vcx mixedF_Tryz bodiesF_Tryz (ev_frameNone l) (cond_tt _)) w hG (VRs.cons hu (VRs.nil _ _))
end Go.Proofs.YtapfboldkkodkaaGreatDoor
