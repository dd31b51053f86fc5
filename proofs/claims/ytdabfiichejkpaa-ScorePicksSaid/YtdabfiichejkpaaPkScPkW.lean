/- ScorePicks, as the row asks it. -/
import Derived.Test.YtdabfiichejkpaaPkOpenBk
import Derived.Test.YtdabfiichejkpaaPkScPk
namespace Go.Proofs.Ytdabfiichejkpaa
open Go.ChangeShapes Go.WideShapes Go.ChangeAt Go.RowKit Go.Joins Go.Deep

theorem walk_picks (pr s d sp dp : Int) (l : List Bk) (v : Value) (w : World) (hv : VR (topG w) w (.vec 3 (l.map backE) .none) v) : Calls Try.prog 6 #[.agg #[.int .i64 pr, .int .u32 s, .int .u32 d, .int .i64 sp, .int .i64 dp], v] w fun e w' => e = .returned (.bool true) ∧ Gr w w' :=
  VCx.top (us := [.agg #[.int .i64 pr, .int .u32 s, .int .u32 d, .int .i64 sp, .int .i64 dp], v]) (law_picks (pr, s, d, sp, dp) l) w (VRs.cons (vr_of_toVal rfl) (VRs.cons hv (VRs.nil _ _)))
end Go.Proofs.Ytdabfiichejkpaa
