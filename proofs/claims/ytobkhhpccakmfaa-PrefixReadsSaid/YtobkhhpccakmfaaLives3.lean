/- The document's examples of layer 3 are as it says. -/
import Derived.Test.YtobkhhpccakmfaaBytes
namespace Go.Proofs.Ytobkhhpccakmfaa
open Go.RowKit

set_option maxHeartbeats 400000 in
theorem lives3 (w : World) : Calls Try.prog 11 #[] w fun e w' => e = .returned (.bool true) ∧ Gr w w' := by
  have HB := Lib.hid fun W => pbytes_any 167837696 (by decide) 16 W
  have HW := Lib.hid fun W => pwithin 167772160 (by decide) 8 167837696 (by decide) 16 W
  have e1 : pbytes 167837696 16 = [16, 10, 1] := by decide +kernel
  have e2 : withB 167772160 8 167837696 16 = true := by decide +kernel
  rw [e1] at HB
  rw [e2] at HW
  clear e1 e2
  go_enter Try.func11, Try.ntmps11
  go_wp2_with fail
  refine (HB.out _).mono ?_; rintro e w1 ⟨v, rfl, g1, own1⟩
  have hcv := conv_rd (P := Try.prog) Try.underlying34 Try.underlying5 Try.underlying9 (Rd.of_own own1) (by decide)
  have hq : (bstr [16, 10, 1]).toList = (ByteArray.mk #[16, 10, 1]).toList := rfl
  go_wp2_with fail
  refine (HW.out _).mono ?_; rintro e w2 ⟨rfl, g2⟩
  go_wp2
  go_ret
  exact ⟨rfl, g1.trans g2⟩
end Go.Proofs.Ytobkhhpccakmfaa
