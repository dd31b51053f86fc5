/- fairway/fairwaylaw11.lives: the document's example lives, by cuts. -/
import Derived.Test.YtkfinpehpcbooaaDoorMlLeastG
import Derived.Test.YtkfinpehpcbooaaDoorMl4
namespace Go.Proofs.YtkfinpehpcbooaaDoor
open Go Go.RowKit

theorem mzmixed : Tryd.prog.follows .mixedOrders = true := by kernel_rfl
theorem mzbodies : bodiesOk Tryd.prog = true := by kernel_rfl
def mzC0 : CutE := ⟨[(.agg [(.val (.int .i64 4)), (.val (.int .i64 0)), (.val (.int .i64 0)), (.val (.int .u32 0)), (.val (.slice none 0 0)), (.val (.slice none 0 0)), (.val (.int .i64 0)), (.val (.slice none 0 0)), (.val (.int .u32 0)), (.val (.int .i64 0)), (.val (.bool false)), (.val (.slice none 0 0)), (.val (.int .i64 0)), (.val (.int .i64 0)), (.val (.slice none 0 0))])], ⟨[], []⟩, (.row 1 0 0 19), ⟨[(.row [(.val (.int .u8 255)), (.val (.int .u8 255)), (.val (.int .u8 255)), (.val (.int .u8 255)), (.val (.int .u8 255)), (.val (.int .u8 255)), (.val (.int .u8 255)), (.val (.int .u8 255)), (.val (.int .u8 255)), (.val (.int .u8 255)), (.val (.int .u8 255)), (.val (.int .u8 255)), (.val (.int .u8 255)), (.val (.int .u8 255)), (.val (.int .u8 255)), (.val (.int .u8 255)), (.val (.int .u8 0)), (.val (.int .u8 19)), (.val (.int .u8 4))])], []⟩⟩
set_option maxRecDepth 100000 in
theorem mzok0 : CutOk Tryd.prog leastG 9 mzC0 := vcut_okX (C := cutsC []) mzmixed mzbodies (cutsC_ok leastG_vals cuts_nil) (by kernel_rfl) (X := True) trivial (by kernel_rfl)
set_option maxRecDepth 100000 in
theorem mzlives : VCx Tryd.prog leastG 0 5 [] ⟨[], []⟩ isTrueV := vtrueC_vcx (C := cutsC [(9, mzC0)]) mzmixed mzbodies (cutsC_ok leastG_vals (cuts_cons mzok0 cuts_nil)) (X := True) (by kernel_rfl) trivial
end Go.Proofs.YtkfinpehpcbooaaDoor
