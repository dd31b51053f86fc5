/- SessionNone: the law returns true for every input; the listed variables are tied to the program's text; no condition. -/
import Derived.Test.YtapfboldkkodkaaGreatDoorMsSnRow
import Derived.Test.YtapfboldkkodkaaGreatDoorTie
import Derived.Test.YtapfboldkkodkaaGreatDoorCards
import Derived.SevenTiedAt
namespace Go.Proofs.YtapfboldkkodkaaGreatDoor
open Go
theorem sessionNone_pinned : Tryz.pinned.checked = Tryz.checked := rfl
theorem sessionNone_prog : Tryz.checked.prog = Tryz.prog := rfl
theorem sessionNone_pre {H : Type} (enc : TypeId × Value → H) (P : Program) (fn : Func) :
    Rows.sessionNoneRow.pre enc P fn (OpenSpec.ofChange Rows.sessionNoneSpec) = fun w args => (Rows.sessionNoneSpec.pre enc P fn [] false w args ∧ laidMetH P Rows.sessionNoneRow.laid w) ∧ sizedMet enc P fn (OpenSpec.ofChange Rows.sessionNoneSpec) false w args := rfl
set_option maxHeartbeats 10000000 in
theorem sessionNone_facts0 : joinedFacts Tryz.prog 6 Tryz.f6 Rows.sessionNoneSpec Rows.sessionNoneRow = true := by
  unfold joinedFacts
  repeat' rw [Bool.and_eq_true]
  repeat' apply And.intro
  all_goals (as_aux_lemma => kernel_rfl)
theorem sessionNone_facts : joinedFacts Tryz.pinned.checked.prog 6 Tryz.f6 Rows.sessionNoneSpec Rows.sessionNoneRow = true := by
  rw [sessionNone_pinned, sessionNone_prog]; exact sessionNone_facts0
theorem sessionNone_inst : Tryz.f6.isInstance Tryz.pinned.checked.prog Rows.sessionNoneRow.origin Rows.sessionNoneRow.targs := (of_decide_eq_true (by kernel_rfl))
theorem sessionNone_wrap : Tryz.f6.isWrapper Tryz.pinned.checked.prog Rows.sessionNoneRow.wrapper Rows.sessionNoneRow.mainSum := by unfold Func.isWrapper; first | (rw [if_pos (by decide +kernel)]; kernel_rfl) | (rw [if_neg (by decide +kernel)]; exact ⟨rfl, rfl⟩)
theorem sessionNone_name : Tryz.pinned.checked.prog.funcNamed Rows.sessionNoneRow.func = some 6 := by kernel_rfl
theorem sessionNone_at : Tryz.pinned.checked.prog.funcs[(6 : Nat)]? = some Tryz.f6 := by
  rw [sessionNone_pinned, sessionNone_prog]; exact Tryz.func6
theorem sessionNone_last (os : Os) (started : os.Started) (H : Type) (enc : TypeId × Value → H) :
    ReturnsInHanded Rows.sessionNoneRow.assume Tryz.pinned.checked os 6 .any (Rows.sessionNoneRow.pre enc Tryz.pinned.checked.prog Tryz.f6 (OpenSpec.ofChange Rows.sessionNoneSpec))
      (Rows.sessionNoneSpec.post enc Tryz.pinned.checked.prog Tryz.f6 Rows.sessionNoneRow.apart Rows.sessionNoneRow.fresh Rows.sessionNoneRow.handsOn Rows.sessionNoneRow.again) := by
  rw [sessionNone_pre, sessionNone_pinned, sessionNone_prog]
  exact sessionNone_lifted os started H enc
theorem sessionNone_holds : Rows.SessionNoneSaid :=
  OpenClaim.holds_of_wide 6 Tryz.f6 rfl rfl rfl rfl rfl rfl rfl ⟨rfl, rfl, rfl, rfl, rfl⟩ rfl rfl rfl rfl rfl sessionNone_name sessionNone_at sessionNone_facts sessionNone_inst sessionNone_wrap
    (fun os started H enc _ => sessionNone_last os started H enc)
theorem sessionNone_wf : Rows.sessionNoneRow.wfByText (OpenSpec.ofChange Rows.sessionNoneSpec) = true := by kernel_rfl
theorem sessionNone_main : Tryz.pinned.checked.prog.mainIs = some (true, ("aca1d0363697cf8216f6a869a266a7ca73e1c075b5d723dfc2a2cc6029bc7c54" : String).toList) := by kernel_rfl
theorem sessionNone_goes : false = Rows.sessionNoneRow.goesBy Tryz.pinned.checked.prog := by kernel_rfl
theorem sessionNone_looks : true = Tryz.pinned.checked.prog.looks [] := by kernel_rfl
theorem sessionNone_stand : ([94].all fun u => !Tryz.pinned.checked.prog.wantsStandIn u) = true := by kernel_rfl
theorem sessionNone_ps : Tryz.f6.params = #[94] := Tryz.params6
theorem sessionNoneCard_holds : Rows.SessionNoneCardSaid :=
  Claim7.holds_tied_plain_at .later [] [.data] true (true, "aca1d0363697cf8216f6a869a266a7ca73e1c075b5d723dfc2a2cc6029bc7c54") true
    sessionNone_holds (fun _ h => by cases h) sessionNone_wf (fun _ h => by cases h) sessionNone_row_tie rfl ⟨rfl, rfl⟩ sessionNone_main rfl
    (fun f fn hf hfn => by
      obtain rfl : f = 6 := Option.some.inj (hf.symm.trans sessionNone_name)
      obtain rfl : fn = Tryz.f6 := Option.some.inj (hfn.symm.trans sessionNone_at)
      refine ⟨sessionNone_looks, fun j t ht => ?_⟩
      rw [sessionNone_ps] at ht
      have hm : t ∈ [94] := by simpa using Array.mem_of_getElem? ht
      have := List.all_eq_true.1 sessionNone_stand t hm
      simpa using this)
    sessionNone_goes
#print axioms sessionNoneCard_holds
end Go.Proofs.YtapfboldkkodkaaGreatDoor
