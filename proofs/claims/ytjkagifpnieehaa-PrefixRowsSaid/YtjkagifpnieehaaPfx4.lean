/- How two prefixes stand, by the reference. -/
import Derived.Test.YtjkagifpnieehaaPfx2
namespace Go.Proofs.Ytjkagifpnieehaa
open Go.RowKit

set_option maxHeartbeats 400000 in
theorem rcmp (a n b m : Int) (w : World) :
    Calls Try.prog 17 #[.agg #[.int .u32 a, .int .i64 n], .agg #[.int .u32 b, .int .i64 m]] w fun e w' => e = .returned (.int .i64 (pcmpZ a n b m)) ∧ Gr w w' := by
  have gw := ((Gr.refl w).alloc (.cells #[.int .u32 a, .int .i64 n] 32)).alloc (.cells #[.int .u32 b, .int .i64 m] 32)
  by_cases h0 : a = b
  · subst h0
    have f0 : ¬ a < a := by omega
    have f0' : (a == a) = true := by simp
    by_cases h1 : n = m
    · subst h1
      have e1 := Lib.hid (show pcmpZ a n a n = 0 by simp [pcmpZ, orL, cmpZ])
      have f1' : (n == n) = true := by simp
      go_enter Try.func17, Try.ntmps17
      go_wp2
      go_ret
      exact ⟨by rw [e1.out]; rfl, gw⟩
    · have f1' : (n == m) = false := by simpa using h1
      rcases Int.lt_trichotomy n m with h2 | h2 | h2
      · have e1 := Lib.hid (show pcmpZ a n a m = -1 by simp [pcmpZ, orL, cmpZ, h2])
        clear h1
        go_enter Try.func17, Try.ntmps17
        go_wp2
        go_ret
        exact ⟨by rw [e1.out]; rfl, gw⟩
      · exact absurd h2 h1
      · have h3 : ¬ n < m := by omega
        have e1 := Lib.hid (show pcmpZ a n a m = 1 by simp [pcmpZ, orL, cmpZ, h2, h3])
        clear h1
        go_enter Try.func17, Try.ntmps17
        go_wp2
        go_ret
        exact ⟨by rw [e1.out]; rfl, gw⟩
  · have f0' : (a == b) = false := by simpa using h0
    rcases Int.lt_trichotomy a b with h2 | h2 | h2
    · have e1 := Lib.hid (show pcmpZ a n b m = -1 by simp [pcmpZ, orL, cmpZ, h2])
      clear h0
      go_enter Try.func17, Try.ntmps17
      go_wp2
      go_ret
      exact ⟨by rw [e1.out]; rfl, gw⟩
    · exact absurd h2 h0
    · have h3 : ¬ a < b := by omega
      have e1 := Lib.hid (show pcmpZ a n b m = 1 by simp [pcmpZ, orL, cmpZ, h2, h3])
      clear h0
      go_enter Try.func17, Try.ntmps17
      go_wp2
      go_ret
      exact ⟨by rw [e1.out]; rfl, gw⟩
end Go.Proofs.Ytjkagifpnieehaa
