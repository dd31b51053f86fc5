/- Numerals, part 1. -/
import Derived.Test.YtkjpbadlbpfpaaaDoorMbPTG
namespace Go.Proofs.YtkjpbadlbpfpaaaDoor
open Go.RowKit

set_option maxRecDepth 100000 in
theorem it64 (m : Int) : itR m 64 16 := by
  have h : itR m 64 16 = trues 16 := by kernel_rfl
  rw [h]; exact trues_ok 16
set_option maxRecDepth 100000 in
theorem it80 (m : Int) : itR m 80 16 := by
  have h : itR m 80 16 = trues 16 := by kernel_rfl
  rw [h]; exact trues_ok 16
set_option maxRecDepth 100000 in
theorem it96 (m : Int) : itR m 96 16 := by
  have h : itR m 96 16 = trues 16 := by kernel_rfl
  rw [h]; exact trues_ok 16
set_option maxRecDepth 100000 in
theorem it112 (m : Int) : itR m 112 16 := by
  have h : itR m 112 16 = trues 16 := by kernel_rfl
  rw [h]; exact trues_ok 16
end Go.Proofs.YtkjpbadlbpfpaaaDoor
