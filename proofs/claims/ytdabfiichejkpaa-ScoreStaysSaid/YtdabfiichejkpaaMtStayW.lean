/- ScoreStays, as the row asks it. -/
import Derived.Test.YtdabfiichejkpaaMtOpenBk
import Derived.Test.YtdabfiichejkpaaMtStay
namespace Go.Proofs.Ytdabfiichejkpaa
open Go.ChangeShapes Go.WideShapes Go.ChangeAt Go.RowKit Go.Joins Go.Deep

theorem vec_len {g : Gh} {w : World} {s : Nat} {es : List (List TV)} {tok : Tok} {v : Value} (h : VR g w (.vec s es tok) v) : es.length ≤ maxLen := by
  rcases h.vec_inv with ⟨_, rfl, _⟩ | ⟨b, o, c, us, _, f1, f2, _⟩
  · exact Nat.zero_le _
  · omega
theorem walk_stays (pr s d sp dp : Int) (l : List Bk) (v : Value) (a : Nat) (w : World) (hv : VR (topG w) w (.vec 3 (l.map backE) .none) v) : Calls Try.prog 3 #[.agg #[.int .i64 pr, .int .u32 s, .int .u32 d, .int .i64 sp, .int .i64 dp], v, .int .u64 (a : Int)] w fun e w' => e = .returned (.bool true) ∧ Gr w w' :=
  VCx.top (us := [.agg #[.int .i64 pr, .int .u32 s, .int .u32 d, .int .i64 sp, .int .i64 dp], v, .int .u64 (a : Int)]) (law_stays (pr, s, d, sp, dp) l (by have := vec_len hv; simpa [maxLen] using this) a (Int.natCast_nonneg _)) w (VRs.cons (vr_of_toVal rfl) (VRs.cons hv (VRs.cons (vr_of_toVal rfl) (VRs.nil _ _))))
end Go.Proofs.Ytdabfiichejkpaa
