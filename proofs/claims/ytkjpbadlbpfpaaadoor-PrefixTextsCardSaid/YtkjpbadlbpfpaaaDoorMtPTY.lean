/- PrefixTexts: the walk; arguments. -/
import Derived.Test.YtkjpbadlbpfpaaaDoorMtPTX
import Derived.Test.YtkjpbadlbpfpaaaDoorMtPTW
namespace Go.Proofs.YtkjpbadlbpfpaaaDoor
open Go.ChangeShapes Go.WideShapes Go.ChangeAt Go.RowKit Go.Joins Go.Deep

set_option maxRecDepth 100000 in
theorem open_pfxT {H : Type} {enc : TypeId × Value → H} {w : World} {r : Reach} {b0 base : Nat} {spare : Nat → Bool} {held : Bool} {v : Value} {d : DataW H} {p : List MemPlace}
    (hv : Value.okWide Tryd.prog w r b0 24 v) (h : DataW.Trod enc Tryd.prog w base spare held 24 v d p) :
    ∃ (a : Nat) (n : Int), v = .agg #[.int .u32 a, .int .i64 n] ∧ a < 4294967296 := by
  obtain ⟨v0, v1, y0, y1, m, rfl, _, _, hy0, hy1⟩ := open_agg2 Tryd.underlying24 (by kernel_rfl) (by kernel_rfl) hv h
  obtain ⟨a, e0, _, wa⟩ := DataW.trod_int Tryd.underlying22 hy0
  obtain ⟨n, e1, _, wn⟩ := DataW.trod_int Tryd.underlying3 hy1
  simp at e0 e1
  subst e0 e1
  obtain ⟨x, rfl, hx⟩ := wf_u32 wa
  exact ⟨x, n, rfl, hx⟩
theorem walk_tx (a : Nat) (ha : a < 4294967296) (n : Int) (b : Nat) (hb : b < 4294967296) (s : ByteArray) (w : World) (hs : w.ShapedOpen Tryd.prog) (h : Lib.TabIs Tryd.prog w "internal/strconv.uint64pow10" .u64 powZ) :
    Calls Tryd.prog txF #[.agg #[.int .u32 a, .int .i64 n], .int .u32 b, .string s] w fun e w' => e = .returned (.bool true) ∧ Gr w w' := by
  obtain ⟨m, hm⟩ := max_of hs
  have hl := tx_law m a ha n b hb s.data.toList
  exact VCx.topK (us := [.agg #[.int .u32 a, .int .i64 n], .int .u32 b, .string s]) hl w (gok_pt hm h) (vrs_of_toVal rfl)
end Go.Proofs.YtkjpbadlbpfpaaaDoor
