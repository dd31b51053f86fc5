/- ViewNone: the law returns true, whatever comes. -/
import Derived.Test.YtapfboldkkodkaaGreatDoorMvVwLv
import Derived.Test.YtapfboldkkodkaaGreatDoorMv4
namespace Go.Proofs.YtapfboldkkodkaaGreatDoor
open Go.ChangeShapes Go.WideShapes Go.ChangeAt Go.RowKit Go.Joins Go.Deep

def vnC : List (FuncId × Spec) := [(15, trueW)]
theorem vnC_ok : SpecsOk Tryz.prog leastG (specs vnC) := specs_ok fun p hp => by
  obtain rfl := List.mem_singleton.1 hp
  exact trueW_ok leastG_vals vclives
theorem ev_viewNone (l : List (List TV)) (a n : Int) : vtrueC Tryz.prog leastG (specs vnC) 4 [.vec 1 l .none, .agg [.val (.int .u32 a), .val (.int .i64 n)]] = cond (decide ((l.length : Int) > 5000)) True True := by kernel_rfl
theorem walk_viewNone (l : List (List TV)) (a n : Int) (w : World) (u : Value) (hG : GOk leastG (topG w) w) (hu : VR (topG w) w (.vec 1 l .none) u) : Calls Tryz.prog 4 #[u, .agg #[.int .u32 a, .int .i64 n]] w fun e w' => e = .returned (.bool true) ∧ Gr w w' :=
  VCx.topK (us := [u, .agg #[.int .u32 a, .int .i64 n]]) (vtrueC_vcx mixedF_Tryz bodiesF_Tryz vnC_ok (ev_viewNone l a n) (cond_tt _)) w hG (VRs.cons hu (VRs.cons (vr_of_toVal rfl) (VRs.nil _ _)))
theorem tab_of_laidV {W : World} (h : laidMetH Tryz.prog Rows.viewNoneRow.laid W) : Lib.TabIs Tryz.prog W "fairway/message.least" .i64 leastZ := by
  have h' : laidMet Tryz.prog [("fairway/message.least", Lib.tabData .i64 leastZ)] W := h
  exact Lib.tabIs_of_head glob_least (by kernel_rfl) Tryz.underlying210 Tryz.underlying3 (by kernel_rfl) (by kernel_rfl) h'
set_option maxRecDepth 100000 in
theorem open_bytesV {H : Type} {enc : TypeId × Value → H} {w : World} {b0 base : Nat} {spare : Nat → Bool} {held : Bool} {v : Value} {d : DataW H} {p : List MemPlace}
    (hv : Value.okWide Tryz.prog w .any b0 22 v) (h : DataW.Trod enc Tryz.prog w base spare held 22 v d p) : ∃ l : List (List TV), VR (topG w) w (.vec 1 l .none) v ∧ ∀ x ∈ l, ∃ z, x = [.val (.int .u8 z)] ∧ (Lit.int .u8 z).wf = true := by
  obtain ⟨fuel, hf⟩ := h
  obtain ⟨qq, n, c, rfl⟩ := okWide_slice Tryz.underlying22 hv
  have okc : Cell.okWide Tryz.prog w .any b0 22 (.slice qq n c) := by
    unfold Value.okWide at hv
    rw [Tryz.underlying22] at hv
    exact hv
  exact vr_ints Tryz.underlying22 Tryz.underlying5 (by kernel_rfl) okc hf
set_option maxRecDepth 100000 in
theorem open_pfxV {H : Type} {enc : TypeId × Value → H} {w : World} {r : Reach} {b0 base : Nat} {spare : Nat → Bool} {held : Bool} {v : Value} {d : DataW H} {p : List MemPlace}
    (hv : Value.okWide Tryz.prog w r b0 44 v) (h : DataW.Trod enc Tryz.prog w base spare held 44 v d p) : ∃ a n : Int, v = .agg #[.int .u32 a, .int .i64 n] := by
  obtain ⟨⟨cs⟩, rfl, hsz⟩ := okWide_struct Tryz.underlying44 hv
  obtain ⟨fuel, hf⟩ := h
  have key := fun {j : Nat} {f : Field} {k : IntKind} => @fields_int H enc Tryz.prog w base spare held fuel _ _ _ _ Tryz.underlying44 (by kernel_rfl) hf j f k
  obtain ⟨a0, h0, _⟩ := key (j := 0) rfl Tryz.underlying42
  obtain ⟨a1, h1, _⟩ := key (j := 1) rfl Tryz.underlying3
  have hl : cs.length = 2 := by simpa using hsz.trans (by kernel_rfl : Tryz.prog.cellsOf 44 = 2)
  match cs, hl, h0, h1 with
  | [c0, c1], _, h0, h1 =>
    simp [Value.cells] at h0 h1
    subst h0 h1
    exact ⟨_, _, rfl⟩
end Go.Proofs.YtapfboldkkodkaaGreatDoor
