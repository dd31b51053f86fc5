/- PrefixBack: the walk; arguments. -/
import Derived.Test.YtkjpbadlbpfpaaaDoorMbPBL
import Derived.Test.YtkjpbadlbpfpaaaDoorMbPTW
namespace Go.Proofs.YtkjpbadlbpfpaaaDoor
open Go.ChangeShapes Go.WideShapes Go.ChangeAt Go.RowKit Go.Joins Go.Deep

def pxS : List SH := [.int .u32, .int .i64]
theorem u32_wf {a : Int} (h : (Lit.int .u32 a).wf = true) : 0 ≤ a ∧ a < 4294967296 := by
  simp [Lit.wf] at h
  have e0 : IntKind.u32.min = 0 := by decide
  have e1 : IntKind.u32.max = 4294967295 := by decide
  omega
theorem px_rows : ∀ (l : List (List TV)), (∀ e ∈ l, FitsL pxS e) → ∃ m : List Px, l = m.map pxE ∧ ∀ x ∈ m, 0 ≤ x.1 ∧ x.1 < 4294967296
  | [], _ => ⟨[], rfl, by simp⟩
  | e :: l, h => by
    obtain ⟨m, rfl, hm⟩ := px_rows l fun e' he => h e' (List.mem_cons_of_mem _ he)
    obtain ⟨x0, r0, rfl, f0, g0⟩ := fitsL_cons (h e List.mem_cons_self)
    obtain ⟨x1, r1, rfl, f1, g1⟩ := fitsL_cons g0
    obtain rfl := fitsL_nil g1
    obtain ⟨a, rfl, ha⟩ := fits_int f0
    obtain ⟨n, rfl, _⟩ := fits_int f1
    refine ⟨(a, n) :: m, rfl, fun x hx => ?_⟩
    rcases List.mem_cons.1 hx with rfl | hx
    · exact u32_wf ha
    · exact hm x hx
set_option maxRecDepth 100000 in
theorem open_pfxsV {H : Type} {enc : TypeId × Value → H} {w : World} {b0 base : Nat} {held : Bool} {v : Value} {d : DataW H} {p : List MemPlace}
    (hv : Value.okWide Tryd.prog w .any b0 33 v) (h : DataW.Trod enc Tryd.prog w base (fun _ => true) held 33 v d p) : ∃ l : List Px, (∀ x ∈ l, 0 ≤ x.1 ∧ x.1 < 4294967296) ∧ VR (topG w) w (.vec 2 (l.map pxE) .none) v := by
  obtain ⟨x, hx, hf⟩ := open_leafS (m := 8) (sh := .slice pxS) (by kernel_rfl) hv h
  obtain ⟨l, rfl, hl, hc⟩ := fits_slice hf
  obtain ⟨m, rfl, hm⟩ := px_rows l hc
  exact ⟨m, hm, hx⟩
theorem walk_pk (l : List Px) (hin : ∀ x ∈ l, 0 ≤ x.1 ∧ x.1 < 4294967296) (b : Nat) (hb : b < 4294967296) (w : World) (v : Value) (hv : VR (topG w) w (.vec 2 (l.map pxE) .none) v) (hs : w.ShapedOpen Tryd.prog) (h : Lib.TabIs Tryd.prog w "internal/strconv.uint64pow10" .u64 powZ) :
    Calls Tryd.prog pkF #[v, .int .u32 b] w fun e w' => e = .returned (.bool true) ∧ Gr w w' := by
  obtain ⟨m, hm⟩ := max_of hs
  exact VCx.topK (us := [v, .int .u32 b]) (pk_law m l hin b hb) w (gok_pt hm h) (VRs.cons hv (VRs.cons (.val _) (VRs.nil _ _)))
end Go.Proofs.YtkjpbadlbpfpaaaDoor
