/- Get32 at the start of bytes. -/
import Derived.Test.YtkjpbadlbpfpaaaDoorQNum
namespace Go.Proofs.YtkjpbadlbpfpaaaDoor
open Go.RowKit

@[go_sem high] theorem sl_lo0_u8 (b o n c : Nat) (w : World) (hn : n ≤ c) : (Instr.slice 36 (.slice (some ⟨b, o, none⟩) n c) (some (.int .i64 0)) none none).run Tryd.prog w = .ok (.slice (some ⟨b, o, none⟩) n c) w := by
  have h := sl_lo_u8 b o n c 0 w (Nat.zero_le _) hn
  simpa using h

theorem wfits (p : Option Addr) (n c k s : Nat) (hk : k + s ≤ n) (hn : n ≤ 70368744177664) (w : World) :
    Calls Tryd.prog 58 #[.slice p n c, .int .i64 k, .int .i64 s] w fun r w' => r = .returned (.bool true) ∧ w = w' := by
  have e1 : wrap64 ((n : Int) - s) = (n : Int) - s := by unfold wrap64; omega
  have e2 : decide ((k : Int) ≤ (n : Int) - s) = true := by simp; omega
  go_enter Tryd.func58, Tryd.ntmps58
  go_wp2
  go_ret
  exact ⟨rfl, rfl⟩

set_option maxHeartbeats 400000 in
theorem wget32 (b o c : Nat) (l : List Nat) (hl : ∀ x ∈ l, x < 256) (h4 : l.length = 4) (hlc : 4 ≤ c) (w : World) (hc : ∀ j u, (u8s l)[j]? = some u → w.cell? ⟨b, o + j, none⟩ = some u) :
    Calls Tryd.prog 47 #[.slice (some ⟨b, o, none⟩) 4 c, .int .i64 0] w fun r w' => r = .returned (.tuple #[.int .u32 (getN l : Nat), .bool true]) ∧ w = w' := by
  have HF := Lib.hid (wfits (some ⟨b, o, none⟩) 4 c 0 4 (by decide) (by decide) w)
  have HG := wget b o c l hl 4 (by omega) (by decide) (by omega) w hc
  rw [List.take_of_length_le (by omega), h4] at HG
  have HG := Lib.hid HG
  have hlt := getN_lt l hl
  rw [h4] at hlt
  have e1 : IntKind.u32.wrap (getN l : Int) = (getN l : Int) := by simp only [IntKind.wrap, IntKind.bits, IntKind.signed]; simp; omega
  clear hc hl h4
  go_enter Tryd.func47, Tryd.ntmps47
  go_wp2_with (first | (go_at_call 59; refine HG.out.mono ?_; rintro r w2 ⟨rfl, rfl⟩) | (go_at_call 58; refine HF.out.mono ?_; rintro r w2 ⟨rfl, rfl⟩))
  exact bodyPost_ret (v := .tuple #[.int .u32 (getN l : Nat), .bool true]) (by simp [results, Tryd.results47, go_sem]) rfl ⟨rfl, rfl⟩
end Go.Proofs.YtkjpbadlbpfpaaaDoor
