/- MessageLengths: the law returns true for every input; the listed variables are tied to the program's text; no condition. -/
import Derived.Test.YtkfinpehpcbooaaDoorMlMlenRow
import Derived.Test.YtkfinpehpcbooaaDoorTie
import Derived.Test.YtkfinpehpcbooaaDoorCards
import Derived.SevenTiedAt
namespace Go.Proofs.YtkfinpehpcbooaaDoor
open Go
theorem messageLengths_pinned : Tryd.pinned.checked = Tryd.checked := rfl
theorem messageLengths_prog : Tryd.checked.prog = Tryd.prog := rfl
theorem messageLengths_pre {H : Type} (enc : TypeId × Value → H) (P : Program) (fn : Func) :
    Rows.messageLengthsRow.pre enc P fn (OpenSpec.ofChange Rows.messageLengthsSpec) = fun w args => (Rows.messageLengthsSpec.pre enc P fn [] false w args ∧ laidMetH P Rows.messageLengthsRow.laid w) ∧ sizedMet enc P fn (OpenSpec.ofChange Rows.messageLengthsSpec) false w args := rfl
set_option maxHeartbeats 10000000 in
theorem messageLengths_facts0 : joinedFacts Tryd.prog 3 Tryd.f3 Rows.messageLengthsSpec Rows.messageLengthsRow = true := by
  unfold joinedFacts
  repeat' rw [Bool.and_eq_true]
  repeat' apply And.intro
  all_goals (as_aux_lemma => kernel_rfl)
theorem messageLengths_facts : joinedFacts Tryd.pinned.checked.prog 3 Tryd.f3 Rows.messageLengthsSpec Rows.messageLengthsRow = true := by
  rw [messageLengths_pinned, messageLengths_prog]; exact messageLengths_facts0
theorem messageLengths_inst : Tryd.f3.isInstance Tryd.pinned.checked.prog Rows.messageLengthsRow.origin Rows.messageLengthsRow.targs := (of_decide_eq_true (by kernel_rfl))
theorem messageLengths_wrap : Tryd.f3.isWrapper Tryd.pinned.checked.prog Rows.messageLengthsRow.wrapper Rows.messageLengthsRow.mainSum := by unfold Func.isWrapper; first | (rw [if_pos (by decide +kernel)]; kernel_rfl) | (rw [if_neg (by decide +kernel)]; exact ⟨rfl, rfl⟩)
theorem messageLengths_name : Tryd.pinned.checked.prog.funcNamed Rows.messageLengthsRow.func = some 3 := by kernel_rfl
theorem messageLengths_at : Tryd.pinned.checked.prog.funcs[(3 : Nat)]? = some Tryd.f3 := by
  rw [messageLengths_pinned, messageLengths_prog]; exact Tryd.func3
theorem messageLengths_last (os : Os) (started : os.Started) (H : Type) (enc : TypeId × Value → H) :
    ReturnsInHanded Rows.messageLengthsRow.assume Tryd.pinned.checked os 3 .any (Rows.messageLengthsRow.pre enc Tryd.pinned.checked.prog Tryd.f3 (OpenSpec.ofChange Rows.messageLengthsSpec))
      (Rows.messageLengthsSpec.post enc Tryd.pinned.checked.prog Tryd.f3 Rows.messageLengthsRow.apart Rows.messageLengthsRow.fresh Rows.messageLengthsRow.handsOn Rows.messageLengthsRow.again) := by
  rw [messageLengths_pre, messageLengths_pinned, messageLengths_prog]
  exact messageLengths_lifted os started H enc
theorem messageLengths_holds : Rows.MessageLengthsSaid :=
  OpenClaim.holds_of_wide 3 Tryd.f3 rfl rfl rfl rfl rfl rfl rfl ⟨rfl, rfl, rfl, rfl, rfl⟩ rfl rfl rfl rfl rfl messageLengths_name messageLengths_at messageLengths_facts messageLengths_inst messageLengths_wrap
    (fun os started H enc _ => messageLengths_last os started H enc)
theorem messageLengths_wf : Rows.messageLengthsRow.wfByText (OpenSpec.ofChange Rows.messageLengthsSpec) = true := by kernel_rfl
theorem messageLengths_main : Tryd.pinned.checked.prog.mainIs = some (true, ("ad13e9399e21c2a52f7e1dc4af93f2bec59f305d8b7fc1d0792ead43bfe3c12e" : String).toList) := by kernel_rfl
theorem messageLengths_goes : false = Rows.messageLengthsRow.goesBy Tryd.pinned.checked.prog := by kernel_rfl
theorem messageLengths_looks : true = Tryd.pinned.checked.prog.looks [] := by kernel_rfl
theorem messageLengths_stand : ([22, 5].all fun u => !Tryd.pinned.checked.prog.wantsStandIn u) = true := by kernel_rfl
theorem messageLengths_ps : Tryd.f3.params = #[22, 5] := Tryd.params3
theorem messageLengthsCard_holds : Rows.MessageLengthsCardSaid :=
  Claim7.holds_tied_plain_at .later [] [.data] true (true, "ad13e9399e21c2a52f7e1dc4af93f2bec59f305d8b7fc1d0792ead43bfe3c12e") true
    messageLengths_holds (fun _ h => by cases h) messageLengths_wf (fun _ h => by cases h) messageLengths_row_tie rfl ⟨rfl, rfl⟩ messageLengths_main rfl
    (fun f fn hf hfn => by
      obtain rfl : f = 3 := Option.some.inj (hf.symm.trans messageLengths_name)
      obtain rfl : fn = Tryd.f3 := Option.some.inj (hfn.symm.trans messageLengths_at)
      refine ⟨messageLengths_looks, fun j t ht => ?_⟩
      rw [messageLengths_ps] at ht
      have hm : t ∈ [22, 5] := by simpa using Array.mem_of_getElem? ht
      have := List.all_eq_true.1 messageLengths_stand t hm
      simpa using this)
    messageLengths_goes
#print axioms messageLengthsCard_holds
end Go.Proofs.YtkfinpehpcbooaaDoor
