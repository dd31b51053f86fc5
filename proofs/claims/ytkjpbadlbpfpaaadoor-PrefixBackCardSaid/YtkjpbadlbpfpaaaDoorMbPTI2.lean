/- Numerals, part 2. -/
import Derived.Test.YtkjpbadlbpfpaaaDoorMbPTG
namespace Go.Proofs.YtkjpbadlbpfpaaaDoor
open Go.RowKit

set_option maxRecDepth 100000 in
theorem it128 (m : Int) : itR m 128 16 := by
  have h : itR m 128 16 = trues 16 := by kernel_rfl
  rw [h]; exact trues_ok 16
set_option maxRecDepth 100000 in
theorem it144 (m : Int) : itR m 144 16 := by
  have h : itR m 144 16 = trues 16 := by kernel_rfl
  rw [h]; exact trues_ok 16
set_option maxRecDepth 100000 in
theorem it160 (m : Int) : itR m 160 16 := by
  have h : itR m 160 16 = trues 16 := by kernel_rfl
  rw [h]; exact trues_ok 16
set_option maxRecDepth 100000 in
theorem it176 (m : Int) : itR m 176 16 := by
  have h : itR m 176 16 = trues 16 := by kernel_rfl
  rw [h]; exact trues_ok 16
end Go.Proofs.YtkjpbadlbpfpaaaDoor
