/- A backend's numbers, and the greatest of so many. -/
import Derived.Test.YtdabfiichejkpaaScKey
namespace Go.Proofs.Ytdabfiichejkpaa
open Go.RowKit

def baseZ (key id : Int) : Int := mixZ (bits .xor .u64 key (IntKind.u64.wrap id))
def oneZ (key id i : Int) : Int := mixZ (bits .xor .u64 (baseZ key id) (IntKind.u64.wrap i))

set_option maxHeartbeats 400000 in
theorem pbase (key id : Int) (w : World) :
    Calls Try.prog 24 #[.int .u64 key, .int .i64 id] w fun r w' => r = .returned (.int .u64 (baseZ key id)) ∧ Gr w w' := by
  have H := Lib.hid fun W => pmix (bits .xor .u64 key (IntKind.u64.wrap id)) W
  have e := Lib.hid (show baseZ key id = mixZ (bits .xor .u64 key (IntKind.u64.wrap id)) from rfl)
  generalize mixZ (bits .xor .u64 key (IntKind.u64.wrap id)) = y at *
  go_enter Try.func24, Try.ntmps24
  go_wp2_with (go_at_call 10; refine (H.out _).mono ?_; rintro r w2 ⟨rfl, g2⟩)
  go_ret
  exact ⟨by rw [e.out]; rfl, g2⟩
set_option maxHeartbeats 400000 in
theorem pone (key id i : Int) (w : World) :
    Calls Try.prog 14 #[.int .u64 key, .int .i64 id, .int .i64 i] w fun r w' => r = .returned (.int .u64 (oneZ key id i)) ∧ Gr w w' := by
  have HB := Lib.hid fun W => pbase key id W
  have H := Lib.hid fun W => pmix (bits .xor .u64 (baseZ key id) (IntKind.u64.wrap i)) W
  have e := Lib.hid (show oneZ key id i = mixZ (bits .xor .u64 (baseZ key id) (IntKind.u64.wrap i)) from rfl)
  generalize baseZ key id = z at *
  generalize mixZ (bits .xor .u64 z (IntKind.u64.wrap i)) = y at *
  go_enter Try.func14, Try.ntmps14
  go_wp2_with (first | (go_at_call 10; refine (H.out _).mono ?_; rintro r w2 ⟨rfl, g2⟩) | (go_at_call 24; refine (HB.out _).mono ?_; rintro r w1 ⟨rfl, g1⟩))
  go_ret
  exact ⟨by rw [e.out]; rfl, g1.trans g2⟩
set_option maxHeartbeats 400000 in
theorem rone (key id i : Int) (w : World) :
    Calls Try.prog 15 #[.int .u64 key, .int .i64 id, .int .i64 i] w fun r w' => r = .returned (.int .u64 (oneZ key id i)) ∧ w = w' := by
  have HB := Lib.hid fun W => rmix (bits .xor .u64 key (IntKind.u64.wrap id)) W
  have eb := Lib.hid (show baseZ key id = mixZ (bits .xor .u64 key (IntKind.u64.wrap id)) from rfl)
  have H := Lib.hid fun W => rmix (bits .xor .u64 (baseZ key id) (IntKind.u64.wrap i)) W
  have e := Lib.hid (show oneZ key id i = mixZ (bits .xor .u64 (baseZ key id) (IntKind.u64.wrap i)) from rfl)
  rw [← eb.out] at HB
  generalize baseZ key id = z at *
  generalize mixZ (bits .xor .u64 z (IntKind.u64.wrap i)) = y at *
  go_enter Try.func15, Try.ntmps15
  go_wp2_with fail
  refine (HB.out _).mono ?_; rintro r w1 ⟨rfl, rfl⟩
  go_wp2_with fail
  refine (H.out _).mono ?_; rintro r w2 ⟨rfl, rfl⟩
  go_wp2
  go_ret
  exact ⟨by rw [e.out]; rfl, rfl⟩

/-- the greater of two, as Go's max says it -/
def mx (a b : Int) : Int := if a < b then b else a
/-- the greatest of the first n numbers, at least 0 -/
def topZ (f : Nat → Int) : Nat → Int
  | 0 => 0
  | n + 1 => mx (topZ f n) (f (n + 1))
/-- how many numbers a weight has -/
def cntZ (wt : Int) : Nat := if wt < 0 then 0 else if 100 < wt then 100 else wt.toNat
def scoreZ (key id wt : Int) : Int := topZ (fun i => oneZ key id (i : Int)) (cntZ wt)

theorem wrap_u64_id (x : Int) (h0 : 0 ≤ x) (h1 : x < 18446744073709551616) : IntKind.u64.wrap x = x := by
  simp only [IntKind.wrap, IntKind.bits, IntKind.signed]
  simp
  omega
def m100 (x : Int) : Int := if 100 < x then 100 else x
theorem m100_form (x : Int) : (if 100 < x then 100 else x) = m100 x := rfl
theorem cnt_form (x : Int) : (if m100 x < 0 then 0 else m100 x) = (cntZ x : Int) := by
  unfold m100 cntZ
  by_cases h0 : x < 0
  · have h1 : ¬ 100 < x := by omega
    simp [h0, h1]
  · by_cases h1 : 100 < x
    · simp [h0, h1]
    · simp [h0, h1]; omega
theorem mx_form (a b : Int) : (if a < b then b else a) = mx a b := rfl
theorem cnt_le (x : Int) : cntZ x ≤ 100 := by unfold cntZ; split <;> (try split) <;> omega

set_option maxHeartbeats 400000 in
theorem pscore (key id wt : Int) (w : World) :
    Calls Try.prog 16 #[.int .u64 key, .int .i64 id, .int .i64 wt] w fun r w' => r = .returned (.int .u64 (scoreZ key id wt)) ∧ Gr w w' := by
  have HB := Lib.hid fun W => pbase key id W
  have e1 := m100_form wt
  have e2 := cnt_form wt
  have hc := cnt_le wt
  go_enter Try.func16, Try.ntmps16
  go_wp2_with fail
  refine (HB.out _).mono ?_; rintro r w1 ⟨rfl, g1⟩
  go_wp2
  have hs := Lib.hid (show scoreZ key id wt = topZ (fun i => oneZ key id (i : Int)) (cntZ wt) from rfl)
  have ho := Lib.hid (fun i : Nat => (rfl : oneZ key id (i : Int) = mixZ (bits .xor .u64 (baseZ key id) (IntKind.u64.wrap (i : Int)))))
  generalize hf : (fun i : Nat => oneZ key id (i : Int)) = f at *
  have hf' := Lib.hid (show ∀ i : Nat, f i = mixZ (bits .xor .u64 (baseZ key id) (IntKind.u64.wrap (i : Int))) from fun i => (congrFun hf i).symm.trans (ho.out i))
  clear hf ho
  generalize cntZ wt = n at *
  generalize baseZ key id = z at *
  go_loopw [7, 16] (fun m i wr => ∃ j : Nat, j ≤ n ∧ i = .int .i64 j ∧ m = .int .u64 (topZ f j) ∧ Gr w wr) (fun _ i _ => n - (intOf i).toNat)
  case atStart => exact ⟨0, Nat.zero_le _, rfl, rfl, g1⟩
  case round =>
    obtain ⟨j, hj, rfl, rfl, gr⟩ := hrel
    by_cases hlt : j < n
    · have e5 := hf'.out (j + 1)
      have hb : (0 : Int) ≤ (j : Int) + 1 ∧ (j : Int) + 1 < 18446744073709551616 := by omega
      rw [show ((j + 1 : Nat) : Int) = (j : Int) + 1 from Int.natCast_add j 1, wrap_u64_id _ hb.1 hb.2] at e5
      clear hb
      have HM := Lib.hid fun W => pmix (bits .xor .u64 z ((j : Int) + 1)) W
      have e6 := Lib.hid (show topZ f (j + 1) = mx (topZ f j) (f (j + 1)) from rfl)
      have e7 := Lib.hid e5
      clear e5
      have e8 := mx_form (topZ f j) (mixZ (bits .xor .u64 z ((j : Int) + 1)))
      generalize mixZ (bits .xor .u64 z ((j : Int) + 1)) = y at *
      generalize topZ f j = t at *
      go_wp2_with (go_at_call 10; refine (HM.out _).mono ?_; rintro r w2 ⟨rfl, g2⟩)
      go_roundw
      case rel =>
        clear e8 e1 e2
        exact ⟨j + 1, hlt, by rw [Int.natCast_add]; rfl, by rw [e6.out, e7.out], gr.trans g2⟩
      case measure => simp [intOf]; omega
    · obtain rfl : j = n := by omega
      go_wp2
      go_ret
      exact ⟨by rw [hs.out]; rfl, gr⟩

set_option maxHeartbeats 400000 in
theorem rscore (key id wt : Int) (w : World) :
    Calls Try.prog 17 #[.int .u64 key, .int .i64 id, .int .i64 wt] w fun r w' => r = .returned (.int .u64 (scoreZ key id wt)) ∧ w = w' := by
  have HO := Lib.hid fun i W => rone key id i W
  have hs := Lib.hid (show scoreZ key id wt = topZ (fun i => oneZ key id (i : Int)) (cntZ wt) from rfl)
  generalize hf : (fun i : Nat => oneZ key id (i : Int)) = f at *
  have hf' := Lib.hid (show ∀ i : Nat, f i = oneZ key id (i : Int) from fun i => (congrFun hf i).symm)
  clear hf
  have hc := cnt_le wt
  have hcl : ∀ j : Nat, j < cntZ wt ↔ ((j : Int) + 1 ≤ wt ∧ (j : Int) + 1 ≤ 100) := by
    intro j
    unfold cntZ
    by_cases h0 : wt < 0
    · simp [h0]; omega
    · by_cases h1 : 100 < wt
      · simp [h0, h1]; omega
      · simp [h0, h1]; omega
  have HCL := Lib.hid hcl
  clear hcl
  generalize cntZ wt = n at *
  go_enter Try.func17, Try.ntmps17
  go_wp2
  go_loop [7, 8] (fun m i => ∃ j : Nat, j ≤ n ∧ i = .int .i64 ((j : Int) + 1) ∧ m = .int .u64 (topZ f j)) (fun _ i => n + 1 - (intOf i).toNat)
  case atStart => exact ⟨0, Nat.zero_le _, rfl, rfl⟩
  case round =>
    obtain ⟨j, hj, rfl, rfl⟩ := hrel
    by_cases hlt : j < n
    · obtain ⟨q1, q2⟩ := (HCL.out j).1 hlt
      have H := Lib.hid fun W => HO.out ((j : Int) + 1) W
      have e6 := Lib.hid (show topZ f (j + 1) = mx (topZ f j) (oneZ key id ((j : Int) + 1)) by
        rw [topZ, hf'.out (j + 1)]; rfl)
      generalize oneZ key id ((j : Int) + 1) = y at *
      generalize topZ f j = t at *
      by_cases hy : t < y
      · have e7 := Lib.hid (show mx t y = y by simp [mx, hy])
        go_wp2_with (go_at_call 15; refine (H.out _).mono ?_; rintro r w2 ⟨rfl, rfl⟩)
        go_round
        case rel => exact ⟨j + 1, hlt, by rw [Int.natCast_add]; rfl, by rw [e6.out, e7.out]⟩
        case measure => simp [intOf]; omega
      · have e7 := Lib.hid (show mx t y = t by simp [mx, hy])
        go_wp2_with (go_at_call 15; refine (H.out _).mono ?_; rintro r w2 ⟨rfl, rfl⟩)
        go_round
        case rel => exact ⟨j + 1, hlt, by rw [Int.natCast_add]; rfl, by rw [e6.out, e7.out]⟩
        case measure => simp [intOf]; omega
    · obtain rfl : j = n := by omega
      have q := mt (HCL.out j).2 hlt
      by_cases q1 : (j : Int) + 1 ≤ wt
      · have q2 : ¬ (j : Int) + 1 ≤ 100 := fun h => q ⟨q1, h⟩
        go_wp2
        go_ret
        exact ⟨by rw [hs.out]; rfl, rfl⟩
      · go_wp2
        go_ret
        exact ⟨by rw [hs.out]; rfl, rfl⟩
end Go.Proofs.Ytdabfiichejkpaa
