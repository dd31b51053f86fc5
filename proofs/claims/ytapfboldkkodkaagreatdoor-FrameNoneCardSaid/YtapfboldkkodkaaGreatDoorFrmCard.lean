/- FrameNone: the law returns true for every input; the listed variables are tied to the program's text; no condition. -/
import Derived.Test.YtapfboldkkodkaaGreatDoorFrmRow
import Derived.Test.YtapfboldkkodkaaGreatDoorTie
import Derived.Test.YtapfboldkkodkaaGreatDoorCards
import Derived.SevenTiedAt
namespace Go.Proofs.YtapfboldkkodkaaGreatDoor
open Go
theorem frameNone_pinned : Tryz.pinned.checked = Tryz.checked := rfl
theorem frameNone_prog : Tryz.checked.prog = Tryz.prog := rfl
theorem frameNone_pre {H : Type} (enc : TypeId × Value → H) (P : Program) (fn : Func) :
    Rows.frameNoneRow.pre enc P fn (OpenSpec.ofChange Rows.frameNoneSpec) = fun w args => (Rows.frameNoneSpec.pre enc P fn [] false w args ∧ laidMetH P Rows.frameNoneRow.laid w) ∧ sizedMet enc P fn (OpenSpec.ofChange Rows.frameNoneSpec) false w args := rfl
theorem frameNone_facts : joinedFacts Tryz.pinned.checked.prog 3 Tryz.f3 Rows.frameNoneSpec Rows.frameNoneRow = true := by kernel_rfl
theorem frameNone_inst : Tryz.f3.isInstance Tryz.pinned.checked.prog Rows.frameNoneRow.origin Rows.frameNoneRow.targs := (of_decide_eq_true (by kernel_rfl))
theorem frameNone_wrap : Tryz.f3.isWrapper Tryz.pinned.checked.prog Rows.frameNoneRow.wrapper Rows.frameNoneRow.mainSum := by unfold Func.isWrapper; first | (rw [if_pos (by decide +kernel)]; kernel_rfl) | (rw [if_neg (by decide +kernel)]; exact ⟨rfl, rfl⟩)
theorem frameNone_name : Tryz.pinned.checked.prog.funcNamed Rows.frameNoneRow.func = some 3 := by kernel_rfl
theorem frameNone_at : Tryz.pinned.checked.prog.funcs[(3 : Nat)]? = some Tryz.f3 := by
  rw [frameNone_pinned, frameNone_prog]; exact Tryz.func3
theorem frameNone_last (os : Os) (started : os.Started) (H : Type) (enc : TypeId × Value → H) :
    ReturnsInHanded Rows.frameNoneRow.assume Tryz.pinned.checked os 3 .any (Rows.frameNoneRow.pre enc Tryz.pinned.checked.prog Tryz.f3 (OpenSpec.ofChange Rows.frameNoneSpec))
      (Rows.frameNoneSpec.post enc Tryz.pinned.checked.prog Tryz.f3 Rows.frameNoneRow.apart Rows.frameNoneRow.fresh Rows.frameNoneRow.handsOn Rows.frameNoneRow.again) := by
  rw [frameNone_pre, frameNone_pinned, frameNone_prog]
  exact frameNone_lifted os started H enc
theorem frameNone_holds : Rows.FrameNoneSaid :=
  OpenClaim.holds_of_wide 3 Tryz.f3 rfl rfl rfl rfl rfl rfl rfl ⟨rfl, rfl, rfl, rfl, rfl⟩ rfl rfl rfl rfl rfl frameNone_name frameNone_at frameNone_facts frameNone_inst frameNone_wrap
    (fun os started H enc _ => frameNone_last os started H enc)
theorem frameNone_wf : Rows.frameNoneRow.wfByText (OpenSpec.ofChange Rows.frameNoneSpec) = true := by kernel_rfl
theorem frameNone_main : Tryz.pinned.checked.prog.mainIs = some (true, ("aca1d0363697cf8216f6a869a266a7ca73e1c075b5d723dfc2a2cc6029bc7c54" : String).toList) := by kernel_rfl
theorem frameNone_goes : false = Rows.frameNoneRow.goesBy Tryz.pinned.checked.prog := by kernel_rfl
theorem frameNone_looks : true = Tryz.pinned.checked.prog.looks [] := by kernel_rfl
theorem frameNone_stand : ([22].all fun u => !Tryz.pinned.checked.prog.wantsStandIn u) = true := by kernel_rfl
theorem frameNone_ps : Tryz.f3.params = #[22] := Tryz.params3
theorem frameNoneCard_holds : Rows.FrameNoneCardSaid :=
  Claim7.holds_tied_plain_at .later [] [.data] true (true, "aca1d0363697cf8216f6a869a266a7ca73e1c075b5d723dfc2a2cc6029bc7c54") true
    frameNone_holds (fun _ h => by cases h) frameNone_wf (fun _ h => by cases h) frameNone_row_tie rfl ⟨rfl, rfl⟩ frameNone_main rfl
    (fun f fn hf hfn => by
      obtain rfl : f = 3 := Option.some.inj (hf.symm.trans frameNone_name)
      obtain rfl : fn = Tryz.f3 := Option.some.inj (hfn.symm.trans frameNone_at)
      refine ⟨frameNone_looks, fun j t ht => ?_⟩
      rw [frameNone_ps] at ht
      have hm : t ∈ [22] := by simpa using Array.mem_of_getElem? ht
      have := List.all_eq_true.1 frameNone_stand t hm
      simpa using this)
    frameNone_goes
#print axioms frameNoneCard_holds
end Go.Proofs.YtapfboldkkodkaaGreatDoor
