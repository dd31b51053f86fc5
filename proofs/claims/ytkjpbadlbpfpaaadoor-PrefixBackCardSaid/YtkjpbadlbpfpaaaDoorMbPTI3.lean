/- Numerals, part 3. -/
import Derived.Test.YtkjpbadlbpfpaaaDoorMbPTG
namespace Go.Proofs.YtkjpbadlbpfpaaaDoor
open Go.RowKit

set_option maxRecDepth 100000 in
theorem it192 (m : Int) : itR m 192 16 := by
  have h : itR m 192 16 = trues 16 := by kernel_rfl
  rw [h]; exact trues_ok 16
set_option maxRecDepth 100000 in
theorem it208 (m : Int) : itR m 208 16 := by
  have h : itR m 208 16 = trues 16 := by kernel_rfl
  rw [h]; exact trues_ok 16
set_option maxRecDepth 100000 in
theorem it224 (m : Int) : itR m 224 16 := by
  have h : itR m 224 16 = trues 16 := by kernel_rfl
  rw [h]; exact trues_ok 16
set_option maxRecDepth 100000 in
theorem it240 (m : Int) : itR m 240 16 := by
  have h : itR m 240 16 = trues 16 := by kernel_rfl
  rw [h]; exact trues_ok 16
end Go.Proofs.YtkjpbadlbpfpaaaDoor
