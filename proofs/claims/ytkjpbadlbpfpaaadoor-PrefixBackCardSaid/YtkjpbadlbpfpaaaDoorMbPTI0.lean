/- Numerals, part 0. -/
import Derived.Test.YtkjpbadlbpfpaaaDoorMbPTG
namespace Go.Proofs.YtkjpbadlbpfpaaaDoor
open Go.RowKit

set_option maxRecDepth 100000 in
theorem it0 (m : Int) : itR m 0 16 := by
  have h : itR m 0 16 = trues 16 := by kernel_rfl
  rw [h]; exact trues_ok 16
set_option maxRecDepth 100000 in
theorem it16 (m : Int) : itR m 16 16 := by
  have h : itR m 16 16 = trues 16 := by kernel_rfl
  rw [h]; exact trues_ok 16
set_option maxRecDepth 100000 in
theorem it32 (m : Int) : itR m 32 16 := by
  have h : itR m 32 16 = trues 16 := by kernel_rfl
  rw [h]; exact trues_ok 16
set_option maxRecDepth 100000 in
theorem it48 (m : Int) : itR m 48 16 := by
  have h : itR m 48 16 = trues 16 := by kernel_rfl
  rw [h]; exact trues_ok 16
end Go.Proofs.YtkjpbadlbpfpaaaDoor
