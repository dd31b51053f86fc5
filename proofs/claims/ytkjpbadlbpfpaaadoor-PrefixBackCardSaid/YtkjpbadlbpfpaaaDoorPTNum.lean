/- A number's text: prefix.number. -/
import Derived.Test.YtkjpbadlbpfpaaaDoorBase
import Derived.Laws.RangeString
import Derived.Laws.RangeAny
import Derived.LoopTactic
namespace Go.Proofs.YtkjpbadlbpfpaaaDoor
open Go.RowKit

def numL : List UInt8 → Int → Option Int
  | [], acc => some acc
  | c :: l, acc => if c.toNat < 48 ∨ 57 < c.toNat then none else numL l (wrap64 (wrap64 (10 * acc) + ((c.toNat : Int) - 48)))
def numZ (s : List UInt8) : Int × Bool := match numL s 0 with
  | none => (0, false)
  | some n => (n, !s.isEmpty && decide (s.length ≤ 3))
theorem numL_at {s : ByteArray} {pos : Nat} (h : pos < s.size) (acc : Int) : numL (s.data.toList.drop pos) acc = if (s[pos]'h).toNat < 48 ∨ 57 < (s[pos]'h).toNat then none else numL (s.data.toList.drop (pos + 1)) (wrap64 (wrap64 (10 * acc) + (((s[pos]'h).toNat : Int) - 48))) := by
  have hl : pos < s.data.toList.length := by rw [Array.length_toList]; exact h
  rw [List.drop_eq_getElem_cons hl]
  have e : s.data.toList[pos] = s[pos]'h := by rw [Array.getElem_toList]; rfl
  rw [e]; rfl
theorem numL_end {s : ByteArray} {pos : Nat} (h : ¬ pos < s.size) (acc : Int) : numL (s.data.toList.drop pos) acc = some acc := by
  rw [List.drop_eq_nil_of_le (by rw [Array.length_toList]; exact Nat.le_of_not_lt h)]; rfl
theorem dec_lt {s : ByteArray} {pos : Nat} (h : pos < s.size) : ((Utf8.decode s pos).1 < 48 ∨ 57 < (Utf8.decode s pos).1) ↔ ((s[pos]'h).toNat < 48 ∨ 57 < (s[pos]'h).toNat) := by
  by_cases ha : (s[pos]'h).toNat < 128
  · rw [decode_ascii s pos h ha]
  · have := (decode_high s pos h (by omega)).1
    omega
theorem num_end (s : ByteArray) (acc : Int) (hc : some acc = numL s.data.toList 0) : numZ s.data.toList = (acc, !s.toList.isEmpty && decide ((s.size : Int) ≤ 3)) := by
  have hsz : s.size = s.data.toList.length := by rw [Array.length_toList]; rfl
  simp only [numZ, ← hc, ByteArray.toList_eq, hsz]
  congr 2
  exact decide_eq_decide.2 (by omega)
set_option maxHeartbeats 800000 in
set_option maxRecDepth 100000 in
theorem pnum (s : ByteArray) (w : World) : Calls Tryd.prog 21 #[.string s] w fun e w' => e = .returned (.tuple #[.int .i64 (numZ s.data.toList).1, .bool (numZ s.data.toList).2]) ∧ Gr w w' := by
  go_enter Tryd.func21, Tryd.ntmps21
  go_wp2
  go_loopw [4] (fun n w' => ∃ (pos : Nat) (acc : Int), w' = w.iter s pos ∧ n = .int .i64 acc ∧ numL (s.data.toList.drop pos) acc = numL s.data.toList 0 ∧ pos ≤ s.size) (fun _ w' => s.size - w'.iterPos w.heap.size)
  case atStart => exact ⟨0, 0, rfl, rfl, rfl, Nat.zero_le _⟩
  case round =>
    obtain ⟨pos, acc, rfl, rfl, hc, hb⟩ := hrel
    by_cases hp : pos < s.size
    · have hnx : ∀ ty, (Instr.next (.pointer (some ⟨w.heap.size, 0, none⟩)) true ty).run Tryd.prog (w.iter s pos) = _ := fun ty => run_next_any w s pos ty hp
      have hd := dec_lt hp
      rw [numL_at hp] at hc
      go_wp2
      case roundEnd =>
        rename_i h1 h2
        have hdig : ¬ ((s[pos]'hp).toNat < 48 ∨ 57 < (s[pos]'hp).toNat) := fun h => by have := hd.2 h; omega
        have ha := decode_ascii s pos hp (by omega)
        rw [if_neg hdig] at hc
        simp only [ha]
        refine ⟨⟨pos + 1, _, rfl, rfl, hc, hp⟩, ?_⟩
        simp only [World.iterPos_iter]
        omega
      all_goals
        have hbad : (s[pos]'hp).toNat < 48 ∨ 57 < (s[pos]'hp).toNat := hd.1 (by omega)
        rw [if_pos hbad] at hc
        refine bodyPost_ret (v := .tuple #[.int .i64 0, .bool false]) (by simp [results, Tryd.results21, go_sem]) rfl ⟨?_, (Gr.refl w).alloc _⟩
        simp [numZ, ← hc]
    · have hnx : ∀ ty, (Instr.next (.pointer (some ⟨w.heap.size, 0, none⟩)) true ty).run Tryd.prog (w.iter s pos) = _ := fun ty => run_next_end w s pos ty hp
      rw [numL_end hp] at hc
      have key : (numZ s.data.toList) = (acc, !s.toList.isEmpty && decide ((s.size : Int) ≤ 3)) := num_end s acc hc
      have key := Lib.hid key
      go_wp2
      · rename_i h1
        refine bodyPost_ret (v := .tuple #[.int .i64 acc, .bool false]) (by simp [results, Tryd.results21, go_sem]) rfl ⟨by rw [key.out, h1]; rfl, (Gr.refl w).alloc _⟩
      · rename_i h1
        refine bodyPost_ret (v := .tuple #[.int .i64 acc, .bool (!s.toList.isEmpty && decide ((s.size : Int) ≤ 3))]) (by simp [results, Tryd.results21, go_sem]) rfl ⟨by rw [key.out], (Gr.refl w).alloc _⟩
end Go.Proofs.YtkjpbadlbpfpaaaDoor
