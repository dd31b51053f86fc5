/- ViewNone: the law returns true for every input; the listed variables are tied to the program's text; no condition. -/
import Derived.Test.YtapfboldkkodkaaGreatDoorMvVwRow
import Derived.Test.YtapfboldkkodkaaGreatDoorTie
import Derived.Test.YtapfboldkkodkaaGreatDoorCards
import Derived.SevenTiedAt
namespace Go.Proofs.YtapfboldkkodkaaGreatDoor
open Go
theorem viewNone_pinned : Tryz.pinned.checked = Tryz.checked := rfl
theorem viewNone_prog : Tryz.checked.prog = Tryz.prog := rfl
theorem viewNone_pre {H : Type} (enc : TypeId × Value → H) (P : Program) (fn : Func) :
    Rows.viewNoneRow.pre enc P fn (OpenSpec.ofChange Rows.viewNoneSpec) = fun w args => (Rows.viewNoneSpec.pre enc P fn [] false w args ∧ laidMetH P Rows.viewNoneRow.laid w) ∧ sizedMet enc P fn (OpenSpec.ofChange Rows.viewNoneSpec) false w args := rfl
set_option maxHeartbeats 10000000 in
theorem viewNone_facts0 : joinedFacts Tryz.prog 4 Tryz.f4 Rows.viewNoneSpec Rows.viewNoneRow = true := by
  unfold joinedFacts
  repeat' rw [Bool.and_eq_true]
  repeat' apply And.intro
  all_goals (as_aux_lemma => kernel_rfl)
theorem viewNone_facts : joinedFacts Tryz.pinned.checked.prog 4 Tryz.f4 Rows.viewNoneSpec Rows.viewNoneRow = true := by
  rw [viewNone_pinned, viewNone_prog]; exact viewNone_facts0
theorem viewNone_inst : Tryz.f4.isInstance Tryz.pinned.checked.prog Rows.viewNoneRow.origin Rows.viewNoneRow.targs := (of_decide_eq_true (by kernel_rfl))
theorem viewNone_wrap : Tryz.f4.isWrapper Tryz.pinned.checked.prog Rows.viewNoneRow.wrapper Rows.viewNoneRow.mainSum := by unfold Func.isWrapper; first | (rw [if_pos (by decide +kernel)]; kernel_rfl) | (rw [if_neg (by decide +kernel)]; exact ⟨rfl, rfl⟩)
theorem viewNone_name : Tryz.pinned.checked.prog.funcNamed Rows.viewNoneRow.func = some 4 := by kernel_rfl
theorem viewNone_at : Tryz.pinned.checked.prog.funcs[(4 : Nat)]? = some Tryz.f4 := by
  rw [viewNone_pinned, viewNone_prog]; exact Tryz.func4
theorem viewNone_last (os : Os) (started : os.Started) (H : Type) (enc : TypeId × Value → H) :
    ReturnsInHanded Rows.viewNoneRow.assume Tryz.pinned.checked os 4 .any (Rows.viewNoneRow.pre enc Tryz.pinned.checked.prog Tryz.f4 (OpenSpec.ofChange Rows.viewNoneSpec))
      (Rows.viewNoneSpec.post enc Tryz.pinned.checked.prog Tryz.f4 Rows.viewNoneRow.apart Rows.viewNoneRow.fresh Rows.viewNoneRow.handsOn Rows.viewNoneRow.again) := by
  rw [viewNone_pre, viewNone_pinned, viewNone_prog]
  exact viewNone_lifted os started H enc
theorem viewNone_holds : Rows.ViewNoneSaid :=
  OpenClaim.holds_of_wide 4 Tryz.f4 rfl rfl rfl rfl rfl rfl rfl ⟨rfl, rfl, rfl, rfl, rfl⟩ rfl rfl rfl rfl rfl viewNone_name viewNone_at viewNone_facts viewNone_inst viewNone_wrap
    (fun os started H enc _ => viewNone_last os started H enc)
theorem viewNone_wf : Rows.viewNoneRow.wfByText (OpenSpec.ofChange Rows.viewNoneSpec) = true := by kernel_rfl
theorem viewNone_main : Tryz.pinned.checked.prog.mainIs = some (true, ("aca1d0363697cf8216f6a869a266a7ca73e1c075b5d723dfc2a2cc6029bc7c54" : String).toList) := by kernel_rfl
theorem viewNone_goes : false = Rows.viewNoneRow.goesBy Tryz.pinned.checked.prog := by kernel_rfl
theorem viewNone_looks : true = Tryz.pinned.checked.prog.looks [] := by kernel_rfl
theorem viewNone_stand : ([22, 44].all fun u => !Tryz.pinned.checked.prog.wantsStandIn u) = true := by kernel_rfl
theorem viewNone_ps : Tryz.f4.params = #[22, 44] := Tryz.params4
theorem viewNoneCard_holds : Rows.ViewNoneCardSaid :=
  Claim7.holds_tied_plain_at .later [] [.data] true (true, "aca1d0363697cf8216f6a869a266a7ca73e1c075b5d723dfc2a2cc6029bc7c54") true
    viewNone_holds (fun _ h => by cases h) viewNone_wf (fun _ h => by cases h) viewNone_row_tie rfl ⟨rfl, rfl⟩ viewNone_main rfl
    (fun f fn hf hfn => by
      obtain rfl : f = 4 := Option.some.inj (hf.symm.trans viewNone_name)
      obtain rfl : fn = Tryz.f4 := Option.some.inj (hfn.symm.trans viewNone_at)
      refine ⟨viewNone_looks, fun j t ht => ?_⟩
      rw [viewNone_ps] at ht
      have hm : t ∈ [22, 44] := by simpa using Array.mem_of_getElem? ht
      have := List.all_eq_true.1 viewNone_stand t hm
      simpa using this)
    viewNone_goes
#print axioms viewNoneCard_holds
end Go.Proofs.YtapfboldkkodkaaGreatDoor
