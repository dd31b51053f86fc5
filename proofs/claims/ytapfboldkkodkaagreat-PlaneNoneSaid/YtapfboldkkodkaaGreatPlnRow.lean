/- PlaneNone: the statement, for every input; no condition. -/
import Derived.Test.YtapfboldkkodkaaGreatPlnNone
namespace Go.Proofs.YtapfboldkkodkaaGreat
open Go.ChangeShapes Go.WideShapes Go.ChangeAt Go.RowKit

set_option maxRecDepth 100000 in
theorem planeNone_lifted (os : Os) (started : os.Started) (H : Type) (enc : TypeId × Value → H) :
    ReturnsInHanded {} Tryz.checked os 3 .any (Rows.planeNoneSpec.pre6 enc Tryz.prog Tryz.f3 Rows.planeNoneRow.domain false) (Rows.planeNoneSpec.post enc Tryz.prog Tryz.f3 false true false false) := by
  refine returnsInHanded_of_change (C := Tryz.checked) own_Tryz started (by kernel_rfl) Tryz.func3
    (ChangeSpec.witness6 (enc := enc) (C := Tryz.checked) false ⟨#[], #[.slice none 0 0, .int .u32 0], []⟩ 8 (by kernel_rfl) (by kernel_rfl) (by kernel_rfl) (by kernel_rfl)) ?_
  intro W base args ds gs before hval0 hW hcnd _
  have hval : ∀ (j : Nat) t v, Tryz.f3.params[j]? = some t → args[j]? = some v → Value.okWide Tryz.prog W .any base t v := hval0
  have hW' := hW
  obtain ⟨p, q, hA0, hV, rfl, hfz, hnd⟩ := hW
  have hA : DataW.TrodAll enc Tryz.prog W 0 (fun _ => true) true Tryz.f3.params.toList args.toList ds p := hA0
  rw [Tryz.params3] at hA hval
  obtain ⟨v0, vs0, d0, ds0, p0, q0, hargs, rfl, rfl, h0, r0⟩ := trodAll_cons hA
  obtain ⟨v1, vs1, d1, ds1, p1, q1, rfl, rfl, rfl, h1, r1⟩ := trodAll_cons r0
  obtain ⟨rfl, rfl, rfl⟩ := trodAll_nil r1
  obtain rfl : args = #[v0, v1] := by cases args; simp_all
  obtain ⟨rfl, rfl⟩ := trodVars_none hV
  have lt0 : ∀ x ∈ p0, x.block < W.heap.size := by obtain ⟨m, hm⟩ := h0; exact DataW.trod_lt m _ _ _ hm
  have lt1 : ∀ x ∈ p1, x.block < W.heap.size := by obtain ⟨m, hm⟩ := h1; exact DataW.trod_lt m _ _ _ hm
  obtain ⟨bl, bvu, _⟩ := open_bytesV (hval 0 22 v0 rfl rfl) h0
  obtain ⟨az, rfl, _, _, aw⟩ := open_int Tryz.underlying23 (hval 1 23 v1 rfl rfl) h1
  obtain ⟨a, rfl, ah⟩ := wf_u32 aw
  clear hA0 hval0
  refine (walk_planeNone _ _ _ W bvu).mono fun e W' ⟨he, bel⟩ => ?_
  subst he
  exact ⟨_, rfl, _, _, _, [], _, [], hW', trodAll_mk1 (shut_bool Tryz.underlying4 _), (trodAll_cons_mk (Below.trod laid_Tryz (by kernel_rfl) (of_decide_eq_true (by kernel_rfl)) h0 bel lt0) (trodAll_cons_mk (Below.trod laid_Tryz (by kernel_rfl) (of_decide_eq_true (by kernel_rfl)) h1 bel lt1) trodAll_mk0)), rfl, Below.frame bel _, fun h => by cases h⟩

theorem planeNone_pinned : Tryz.pinned.checked = Tryz.checked := rfl
theorem planeNone_prog : Tryz.checked.prog = Tryz.prog := rfl
theorem planeNone_pre {H : Type} (enc : TypeId × Value → H) (P : Program) (fn : Func) : Rows.planeNoneRow.pre enc P fn (OpenSpec.ofChange Rows.planeNoneSpec) = Rows.planeNoneSpec.pre6 enc P fn Rows.planeNoneRow.domain false := rfl
theorem planeNone_facts : joinedFacts Tryz.pinned.checked.prog 3 Tryz.f3 Rows.planeNoneSpec Rows.planeNoneRow = true := by kernel_rfl
theorem planeNone_inst : Tryz.f3.isInstance Tryz.pinned.checked.prog Rows.planeNoneRow.origin Rows.planeNoneRow.targs := (of_decide_eq_true (by kernel_rfl))
theorem planeNone_wrap : Tryz.f3.isWrapper Tryz.pinned.checked.prog Rows.planeNoneRow.wrapper Rows.planeNoneRow.mainSum := by unfold Func.isWrapper; first | (rw [if_pos (by decide +kernel)]; kernel_rfl) | (rw [if_neg (by decide +kernel)]; exact ⟨rfl, rfl⟩)
theorem planeNone_name : Tryz.pinned.checked.prog.funcNamed Rows.planeNoneRow.func = some 3 := by kernel_rfl
theorem planeNone_at : Tryz.pinned.checked.prog.funcs[(3 : Nat)]? = some Tryz.f3 := by
  rw [planeNone_pinned, planeNone_prog]; exact Tryz.func3
theorem planeNone_last (os : Os) (started : os.Started) (H : Type) (enc : TypeId × Value → H) :
    ReturnsInHanded Rows.planeNoneRow.assume Tryz.pinned.checked os 3 .any (Rows.planeNoneRow.pre enc Tryz.pinned.checked.prog Tryz.f3 (OpenSpec.ofChange Rows.planeNoneSpec))
      (Rows.planeNoneSpec.post enc Tryz.pinned.checked.prog Tryz.f3 Rows.planeNoneRow.apart Rows.planeNoneRow.fresh Rows.planeNoneRow.handsOn Rows.planeNoneRow.again) := by
  rw [planeNone_pre, planeNone_pinned, planeNone_prog]
  exact planeNone_lifted os started H enc
theorem planeNone_holds : Rows.PlaneNoneSaid :=
  OpenClaim.holds_of_wide 3 Tryz.f3 rfl rfl rfl rfl rfl rfl rfl ⟨rfl, rfl, rfl, rfl, rfl⟩ rfl rfl rfl rfl rfl planeNone_name planeNone_at planeNone_facts planeNone_inst planeNone_wrap
    (fun os started H enc _ => planeNone_last os started H enc)
#print axioms planeNone_holds
end Go.Proofs.YtapfboldkkodkaaGreat
