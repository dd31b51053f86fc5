/- MessageLengths: the statement, for every input. -/
import Derived.Test.YtkfinpehpcbooaaDoorMlMlenNone
import Derived.Test.YtkfinpehpcbooaaDoorOpen28
import Derived.LaidMore
import Derived.Lay
import Derived.LaidHandle
import Derived.ChangeVars
import Derived.JoinedOf
import Derived.Stop.Joined
namespace Go.Proofs.YtkfinpehpcbooaaDoor
open Go.ChangeShapes Go.WideShapes Go.ChangeAt Go.RowKit Go.Joins Go.Deep
theorem wf_u16 {a : Int} (h : (Lit.int .u16 a).wf = true) : ∃ x : Nat, a = (x : Int) ∧ x < 65536 := by
  simp [Lit.wf] at h
  have e0 : IntKind.u16.min = 0 := by decide
  have e1 : IntKind.u16.max = 65535 := by decide
  exact ⟨a.toNat, by omega, by omega⟩
theorem walk_ml (n k : Nat) (hn : n < 65536) (hk : k < 256) (w : World) (hG : GOk leastG (topG w) w) :
    Calls Tryd.prog 3 #[.int .u16 n, .int .u8 k] w fun e w' => e = .returned (.bool true) ∧ Gr w w' :=
  VCx.topK (us := [.int .u16 n, .int .u8 k]) (ml_law n k hn hk) w hG (VRs.cons (.val _) (VRs.cons (.val _) (VRs.nil _ _)))
theorem tab_of_laidMl {W : World} (h : laidMetH Tryd.prog Rows.messageLengthsRow.laid W) : Lib.TabIs Tryd.prog W "fairway/message.least" .i64 leastZ := by
  have h' : laidMet Tryd.prog [("fairway/message.least", Lib.tabData .i64 leastZ)] W := h
  exact Lib.tabIs_of_head glob_least (by kernel_rfl) Tryd.underlying37 Tryd.underlying3 (by kernel_rfl) (by kernel_rfl) h'
set_option maxRecDepth 100000 in
theorem messageLengths_lifted (os : Os) (started : os.Started) (H : Type) (enc : TypeId × Value → H) :
    ReturnsInHanded {} Tryd.checked os 3 .any (fun w args => (Rows.messageLengthsSpec.pre enc Tryd.prog Tryd.f3 [] false w args ∧ laidMetH Tryd.prog Rows.messageLengthsRow.laid w) ∧ sizedMet enc Tryd.prog Tryd.f3 (OpenSpec.ofChange Rows.messageLengthsSpec) false w args)
      (Rows.messageLengthsSpec.post enc Tryd.prog Tryd.f3 false true false false) := by
  refine returnsInHanded_of_change_and (C := Tryd.checked) (X := fun w _ => laidMetH Tryd.prog Rows.messageLengthsRow.laid w) (fun _ _ _ hh h => h.of_heap hh) own_Tryd started (by kernel_rfl) Tryd.func3
    (ChangeSpec.witness_shaped (enc := enc) (C := Tryd.checked) (os := os) (X := fun w _ => laidMetH Tryd.prog Rows.messageLengthsRow.laid w) false (World.laidAll Tryd.prog os Rows.messageLengthsRow.laid) #[.int .u16 0, .int .u8 0] 8 (World.laidAll_os _ _ _)
      (World.shaped_of_ZipB (by kernel_rfl) (by kernel_rfl)) (by kernel_rfl) (by kernel_rfl) (by kernel_rfl)
      (by rw [MakeChecks.laidMetH_plain _ _ _ (by kernel_rfl)]; exact laidMet_laidAll _ (by kernel_rfl) (by kernel_rfl))) ?_
  intro W base args ds gs before hval0 hW _ _ hL _
  have hval : ∀ (j : Nat) t v, Tryd.f3.params[j]? = some t → args[j]? = some v → Value.okWide Tryd.prog W .any base t v := hval0
  have hW' := hW
  obtain ⟨p, q, hA0, hV, rfl, hfz, hnd⟩ := hW
  have hA : DataW.TrodAll enc Tryd.prog W 0 (fun _ => true) true Tryd.f3.params.toList args.toList ds p := hA0
  rw [Tryd.params3] at hA hval
  obtain ⟨v0, vs0, d0, ds0, p0, q0, hargs, rfl, rfl, h0, r0⟩ := trodAll_cons hA
  obtain ⟨v1, vs1, d1, ds1, p1, q1, rfl, rfl, rfl, h1, r1⟩ := trodAll_cons r0
  obtain ⟨rfl, rfl, rfl⟩ := trodAll_nil r1
  obtain rfl : args = #[v0, v1] := by cases args; simp_all
  obtain ⟨rfl, rfl⟩ := trodVars_none hV
  have lt0 : ∀ x ∈ p0, x.block < W.heap.size := by obtain ⟨m, hm⟩ := h0; exact DataW.trod_lt m _ _ _ hm
  have lt1 : ∀ x ∈ p1, x.block < W.heap.size := by obtain ⟨m, hm⟩ := h1; exact DataW.trod_lt m _ _ _ hm
  obtain ⟨x0z, rfl, _, _, x0w⟩ := open_int Tryd.underlying22 (hval 0 22 v0 rfl rfl) h0
  obtain ⟨x0, rfl, x0h⟩ := wf_u16 x0w
  obtain ⟨x1z, rfl, _, _, x1w⟩ := open_int Tryd.underlying5 (hval 1 5 v1 rfl rfl) h1
  obtain ⟨x1, rfl, x1h⟩ := wf_u8 x1w
  clear hA0 hval0
  refine (walk_ml x0 x1 x0h x1h W (gok_least (tab_of_laidMl hL))).mono fun e W' ⟨he, bel⟩ => ?_
  subst he
  exact ⟨_, rfl, _, _, _, [], _, [], hW', trodAll_mk1 (shut_bool Tryd.underlying4 _), (trodAll_cons_mk (Below.trod laid_Tryd (by kernel_rfl) (of_decide_eq_true (by kernel_rfl)) h0 bel lt0) (trodAll_cons_mk (Below.trod laid_Tryd (by kernel_rfl) (of_decide_eq_true (by kernel_rfl)) h1 bel lt1) trodAll_mk0)), rfl, Below.frame bel _, fun h => by cases h⟩
end Go.Proofs.YtkfinpehpcbooaaDoor
