/- A flow's number; a backend's numbers; the greatest of so many. -/
import Derived.Test.YtdabfiichejkpaaScMix
namespace Go.Proofs.Ytdabfiichejkpaa
open Go.RowKit

/-- a flow's number from the five that it has -/
def keyZ (l : List Int) : Int := l.foldl (fun k n => mixZ (bits .xor .u64 k n)) 0
theorem keyZ_snoc (l : List Int) (n : Int) : keyZ (l ++ [n]) = mixZ (bits .xor .u64 (keyZ l) n) := by simp [keyZ]

@[go_sem] theorem idx5_0 (a b c d e : Value) (w : World) : (Instr.index 51 (.agg #[a, b, c, d, e]) (.int .i64 0)).run Try.prog w = .ok a w := by kernel_rfl
@[go_sem] theorem idx5_1 (a b c d e : Value) (w : World) : (Instr.index 51 (.agg #[a, b, c, d, e]) (.int .i64 1)).run Try.prog w = .ok b w := by kernel_rfl
@[go_sem] theorem idx5_2 (a b c d e : Value) (w : World) : (Instr.index 51 (.agg #[a, b, c, d, e]) (.int .i64 2)).run Try.prog w = .ok c w := by kernel_rfl
@[go_sem] theorem idx5_3 (a b c d e : Value) (w : World) : (Instr.index 51 (.agg #[a, b, c, d, e]) (.int .i64 3)).run Try.prog w = .ok d w := by kernel_rfl
@[go_sem] theorem idx5_4 (a b c d e : Value) (w : World) : (Instr.index 51 (.agg #[a, b, c, d, e]) (.int .i64 4)).run Try.prog w = .ok e w := by kernel_rfl

set_option maxHeartbeats 800000 in
theorem pkey (pr s d sp dp n0 n1 n2 n3 n4 : Int) (h0 : IntKind.u64.wrap pr = n0) (h1 : IntKind.u64.wrap s = n1) (h2 : IntKind.u64.wrap d = n2) (h3 : IntKind.u64.wrap sp = n3) (h4 : IntKind.u64.wrap dp = n4) (w : World) :
    Calls Try.prog 12 #[.agg #[.int .i64 pr, .int .u32 s, .int .u32 d, .int .i64 sp, .int .i64 dp]] w fun r w' => r = .returned (.int .u64 (keyZ [n0, n1, n2, n3, n4])) ∧ Gr w w' := by
  go_enter Try.func12, Try.ntmps12
  go_wp2
  have g0 := (Gr.refl w).alloc (.cells #[.int .i64 pr, .int .u32 s, .int .u32 d, .int .i64 sp, .int .i64 dp] 24)
  go_loopw [3, 22] (fun m i wr => ∃ j : Nat, j ≤ 5 ∧ i = .int .i64 j ∧ m = .int .u64 (keyZ ([n0, n1, n2, n3, n4].take j)) ∧ Gr w wr) (fun _ i _ => 5 - (intOf i).toNat)
  case atStart => exact ⟨0, Nat.zero_le _, rfl, rfl, g0⟩
  case round =>
    obtain ⟨j, hj, rfl, rfl, gr⟩ := hrel
    have h : j = 0 ∨ j = 1 ∨ j = 2 ∨ j = 3 ∨ j = 4 ∨ j = 5 := by omega
    rcases h with rfl | rfl | rfl | rfl | rfl | rfl
    · rw [show ((0 : Nat) : Int) = 0 from rfl]
      go_wp2_with (go_at_call 10; refine (pmix _ _).mono ?_; rintro r w2 ⟨rfl, g2⟩)
      go_roundw
      case rel => exact ⟨1, by decide, rfl, rfl, gr.trans g2⟩
      case measure => simp [intOf]
    · rw [show ((1 : Nat) : Int) = 1 from rfl]
      go_wp2_with (go_at_call 10; refine (pmix _ _).mono ?_; rintro r w2 ⟨rfl, g2⟩)
      go_roundw
      case rel => exact ⟨2, by decide, rfl, rfl, gr.trans g2⟩
      case measure => simp [intOf]
    · rw [show ((2 : Nat) : Int) = 2 from rfl]
      go_wp2_with (go_at_call 10; refine (pmix _ _).mono ?_; rintro r w2 ⟨rfl, g2⟩)
      go_roundw
      case rel => exact ⟨3, by decide, rfl, rfl, gr.trans g2⟩
      case measure => simp [intOf]
    · rw [show ((3 : Nat) : Int) = 3 from rfl]
      go_wp2_with (go_at_call 10; refine (pmix _ _).mono ?_; rintro r w2 ⟨rfl, g2⟩)
      go_roundw
      case rel => exact ⟨4, by decide, rfl, rfl, gr.trans g2⟩
      case measure => simp [intOf]
    · rw [show ((4 : Nat) : Int) = 4 from rfl]
      go_wp2_with (go_at_call 10; refine (pmix _ _).mono ?_; rintro r w2 ⟨rfl, g2⟩)
      go_roundw
      case rel => exact ⟨5, by decide, rfl, rfl, gr.trans g2⟩
      case measure => simp [intOf]
    rw [show ((5 : Nat) : Int) = 5 from rfl, show List.take 5 [n0, n1, n2, n3, n4] = [n0, n1, n2, n3, n4] from rfl]
    have hy := Lib.hid (rfl : keyZ [n0, n1, n2, n3, n4] = keyZ [n0, n1, n2, n3, n4])
    generalize hy0 : keyZ [n0, n1, n2, n3, n4] = y
    have hy1 := Lib.hid hy0
    clear hy hy0
    go_wp2
    go_ret
    exact ⟨by rw [hy1.out]; rfl, gr⟩
set_option maxHeartbeats 800000 in
theorem rkey (pr s d sp dp n0 n1 n2 n3 n4 : Int) (h0 : IntKind.u64.wrap pr = n0) (h1 : IntKind.u64.wrap s = n1) (h2 : IntKind.u64.wrap d = n2) (h3 : IntKind.u64.wrap sp = n3) (h4 : IntKind.u64.wrap dp = n4) (w : World) :
    Calls Try.prog 13 #[.agg #[.int .i64 pr, .int .u32 s, .int .u32 d, .int .i64 sp, .int .i64 dp]] w fun r w' => r = .returned (.int .u64 (keyZ [n0, n1, n2, n3, n4])) ∧ Gr w w' := by
  go_enter Try.func13, Try.ntmps13
  go_wp2
  have g0 := (Gr.refl w).alloc (.cells #[.int .i64 pr, .int .u32 s, .int .u32 d, .int .i64 sp, .int .i64 dp] 24)
  go_loopw [3, 22] (fun m i wr => ∃ j : Nat, j ≤ 5 ∧ i = .int .i64 j ∧ m = .int .u64 (keyZ ([n0, n1, n2, n3, n4].take j)) ∧ Gr w wr) (fun _ i _ => 5 - (intOf i).toNat)
  case atStart => exact ⟨0, Nat.zero_le _, rfl, rfl, g0⟩
  case round =>
    obtain ⟨j, hj, rfl, rfl, gr⟩ := hrel
    have h : j = 0 ∨ j = 1 ∨ j = 2 ∨ j = 3 ∨ j = 4 ∨ j = 5 := by omega
    rcases h with rfl | rfl | rfl | rfl | rfl | rfl
    · rw [show ((0 : Nat) : Int) = 0 from rfl]
      go_wp2_with (go_at_call 11; refine (rmix _ _).mono ?_; rintro r w2 ⟨rfl, rfl⟩)
      go_roundw
      case rel => exact ⟨1, by decide, rfl, rfl, gr⟩
      case measure => simp [intOf]
    · rw [show ((1 : Nat) : Int) = 1 from rfl]
      go_wp2_with (go_at_call 11; refine (rmix _ _).mono ?_; rintro r w2 ⟨rfl, rfl⟩)
      go_roundw
      case rel => exact ⟨2, by decide, rfl, rfl, gr⟩
      case measure => simp [intOf]
    · rw [show ((2 : Nat) : Int) = 2 from rfl]
      go_wp2_with (go_at_call 11; refine (rmix _ _).mono ?_; rintro r w2 ⟨rfl, rfl⟩)
      go_roundw
      case rel => exact ⟨3, by decide, rfl, rfl, gr⟩
      case measure => simp [intOf]
    · rw [show ((3 : Nat) : Int) = 3 from rfl]
      go_wp2_with (go_at_call 11; refine (rmix _ _).mono ?_; rintro r w2 ⟨rfl, rfl⟩)
      go_roundw
      case rel => exact ⟨4, by decide, rfl, rfl, gr⟩
      case measure => simp [intOf]
    · rw [show ((4 : Nat) : Int) = 4 from rfl]
      go_wp2_with (go_at_call 11; refine (rmix _ _).mono ?_; rintro r w2 ⟨rfl, rfl⟩)
      go_roundw
      case rel => exact ⟨5, by decide, rfl, rfl, gr⟩
      case measure => simp [intOf]
    rw [show ((5 : Nat) : Int) = 5 from rfl, show List.take 5 [n0, n1, n2, n3, n4] = [n0, n1, n2, n3, n4] from rfl]
    have hy := Lib.hid (rfl : keyZ [n0, n1, n2, n3, n4] = keyZ [n0, n1, n2, n3, n4])
    generalize hy0 : keyZ [n0, n1, n2, n3, n4] = y
    have hy1 := Lib.hid hy0
    clear hy hy0
    go_wp2
    go_ret
    exact ⟨by rw [hy1.out]; rfl, gr⟩
end Go.Proofs.Ytdabfiichejkpaa
