/- SiblingActs, as the row asks it. -/
import Derived.Test.YtgconkbnokbinaaMbSbLbW
import Derived.Test.YtgconkbnokbinaaMbSbLA3
namespace Go.Proofs.Ytgconkbnokbinaa
open Go.ChangeShapes Go.WideShapes Go.ChangeAt Go.RowKit Go.Joins Go.Deep

theorem walk_acts (n : Int) (l m : List Act6) (v u : Value) (w : World) (hv : VR (topG w) w (.vec 6 (l.map actC) .none) v) (hu : VR (topG w) w (.vec 6 (m.map actC) .none) u) : Calls Try.prog 4 #[v, u, .int .i64 n] w fun e w' => e = .returned (.bool true) ∧ Gr w w' :=
  VCx.top (us := [v, u, .int .i64 n]) (law_acts l m n) w (VRs.cons hv (VRs.cons hu (VRs.cons (.val _) (VRs.nil _ _))))
end Go.Proofs.Ytgconkbnokbinaa
