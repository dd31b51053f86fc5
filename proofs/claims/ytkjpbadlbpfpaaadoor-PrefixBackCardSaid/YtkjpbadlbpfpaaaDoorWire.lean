/- Package wire: numbers into bytes. -/
import Derived.Test.YtkjpbadlbpfpaaaDoorMem
namespace Go.Proofs.YtkjpbadlbpfpaaaDoor
open Go.RowKit

theorem info_u8 : (Tryd.prog.info? 5).map (fun i => (i.zero, i.size, i.bytes)) = some (some (.int .u8 0), 1, 1) := by kernel_rfl

@[go_sem high] theorem sl_hi_u8 (b o n c k : Nat) (w : World) (hk : k ≤ c) : (Instr.slice 36 (.slice (some ⟨b, o, none⟩) n c) none (some (.int .i64 (k : Int))) none).run Tryd.prog w = .ok (.slice (some ⟨b, o, none⟩) k c) w :=
  run_sl_hi Tryd.underlying36 (by kernel_rfl) b o n c k w hk
@[go_sem high] theorem sl_lo_u8 (b o n c k : Nat) (w : World) (hk : k ≤ n) (hn : n ≤ c) : (Instr.slice 36 (.slice (some ⟨b, o, none⟩) n c) (some (.int .i64 (k : Int))) none none).run Tryd.prog w = .ok (.slice (some ⟨b, if c = k then o else o + k * 1, none⟩) (n - k) (c - k)) w :=
  run_sl_lo Tryd.underlying36 1 (by kernel_rfl) b o n c k w hk hn
/-- a number's lowest bytes, the greatest first -/
def putB (n size : Nat) : List Nat := (List.range size).map fun k => n / 2 ^ (8 * (size - 1 - k)) % 256

theorem putB_take (n size k : Nat) (h : k < size) : (putB n size).take (k + 1) = (putB n size).take k ++ [n / 2 ^ (8 * (size - 1 - k)) % 256] := by
  rw [List.take_succ_eq_append_getElem (by simpa [putB] using h)]
  simp [putB]
theorem putB_all (n size : Nat) : (putB n size).take size = putB n size := List.take_of_length_le (by simp [putB])

set_option maxHeartbeats 400000 in
theorem wput (b : Value) (nb : Nat) (bs : List Value) (h1 : ∀ u ∈ bs, u.oneCell' = true) (n : Nat) (size : Nat) (hs : size ≤ 8) (hnb : nb ≤ 1099511627776) (w : World) (hb : Rd w 1 b nb bs) :
    Calls Tryd.prog 48 #[b, .int .u64 n, .int .i64 size] w (Rets w fun v w' => w'.ownsRow w.heap.size 5 1 v (nb + size) (bs ++ u8s (putB n size))) := by
  obtain ⟨i0, hi, hz0, hz1, hz2⟩ := info_parts info_u8
  have hb' := hb
  obtain ⟨_, p, c, rfl, _, _, _, _⟩ := hb'
  have HB := Lib.hid hb
  have H1 := Lib.hid h1
  clear hb h1
  rename_i z1 z2 z3 z4 z5
  clear z1 z3 z4 z5
  have hi' := Lib.hid hi
  clear hi
  go_enter Tryd.func48, Tryd.ntmps48
  go_wp2_with (first | (at_make; refine wpL_make 5 w.heap.size i0 (.int .u8 0) 1 1 Tryd.underlying36 hi'.out hz0 hz1 hz2 nb (nb + size) .i64 .i64 _ _ (by rfl) (by rfl) rfl (by omega) (by omega) (by omega) (by unfold maxLen; omega) (Nat.le_refl _) (fun v1 w1 own1 g1 hv1 => ?_)) | (refine wpL_copy w.heap.size 5 Tryd.underlying36 (by kernel_rfl) _ nb _ (by rfl) (by assumption) _ nb bs (by rfl) (HB.out.gr (by assumption)) H1.out (fun w2 own2 gb2 => ?_)))
  have gr2 := gr_grown g1 (Nat.le_refl _) own1 gb2
  have own3 : w2.ownsRow w.heap.size 5 1 v1 nb bs := by
    have hl := HB.out.len
    have e : List.take nb bs ++ List.drop nb (List.take (nb * 1) (madeCells (Value.int IntKind.u8 0).cells ((nb + size) * 1)).toList) = bs := by
      rw [List.take_of_length_le (by omega), List.drop_eq_nil_of_le (by rw [List.length_take]; omega), List.append_nil]
    rwa [e] at own2
  clear own2 gb2 own1 g1 hv1
  go_loopw [7, 8] (fun v i wr => ∃ j k : Nat, j + k = size ∧ i = .int .i64 ((j : Int) - 1) ∧ wr.ownsRow w.heap.size 5 1 v (nb + k) (bs ++ u8s ((putB n size).take k)) ∧ Gr w wr) (fun _ i _ => (intOf i + 1).toNat)
  case atStart => exact ⟨size, 0, rfl, rfl, by simpa [u8s] using own3, gr2⟩
  case round =>
    obtain ⟨j, k, hk, rfl, hown, hgr⟩ := hrel
    have HO := Lib.hid hown
    have HK := Lib.hid hk
    have hks : k ≤ size := by omega
    clear hown own3 hk
    cases j with
    | zero =>
      have e : k = size := by have := HK.out; omega
      subst e
      go_wp2
      go_ret
      refine Rets.mk hgr ?_
      have := HO.out
      rwa [putB_all] at this
    | succ j =>
      have hj8 : j < 8 := by have := HK.out; omega
      rw [show (((j + 1 : Nat) : Int) - 1) = (j : Int) by omega]
      go_wp2_with (at_builtin; go_loud (refine wpL_app w.heap.size 5 i0 (.int .u8 0) 1 1 Tryd.underlying36 hi'.out hz0 hz1 hz2 rfl (by decide) _ (nb + k) _ (by rfl) (World.ownsRow.alloc HO.out _) _ 1 [_] (by rfl) (Rd.new _ [_] _ 1 1 rfl (by decide)) (by intro u hu; simp at hu; subst hu; rfl) (by unfold maxLen; omega) (by omega) (by have := Gr.size hgr; simp; omega) (fun v1 w1 own1 gb1 => ?_)))
      go_roundw
      case rel =>
        refine ⟨j, k + 1, by have := HK.out; omega, rfl, ?_, gr_grown (hgr.alloc _) (Nat.le_refl _) (HO.out.alloc _) gb1⟩
        have hk1 : k < size := by have := HK.out; omega
        rw [putB_take n size k hk1, u8s_snoc, ← List.append_assoc]
        have e : size - 1 - k = j := by have := HK.out; omega
        rw [e]
        exact own1
      case measure => simp [intOf]

set_option maxHeartbeats 400000 in
theorem wput32 (b : Value) (nb : Nat) (bs : List Value) (h1 : ∀ u ∈ bs, u.oneCell' = true) (n : Nat) (hn : n < 4294967296) (hnb : nb ≤ 1099511627776) (w : World) (hb : Rd w 1 b nb bs) :
    Calls Tryd.prog 32 #[b, .int .u32 n] w (Rets w fun v w' => w'.ownsRow w.heap.size 5 1 v (nb + 4) (bs ++ u8s (putB n 4))) := by
  have HP := Lib.hid (wput b nb bs h1 n 4 (by decide) hnb w hb)
  clear h1 hb hnb
  go_enter Tryd.func32, Tryd.ntmps32
  go_wp2_with (go_at_call 48; refine HP.out.mono ?_; rintro e w1 ⟨v, rfl, hr⟩)
  go_ret
  exact ⟨_, rfl, hr⟩
end Go.Proofs.YtkjpbadlbpfpaaaDoor
