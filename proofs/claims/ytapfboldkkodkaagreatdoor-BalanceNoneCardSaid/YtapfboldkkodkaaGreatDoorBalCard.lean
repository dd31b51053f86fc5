/- BalanceNone: the law returns true for every input; the listed variables are tied to the program's text; no condition. -/
import Derived.Test.YtapfboldkkodkaaGreatDoorBalRow
import Derived.Test.YtapfboldkkodkaaGreatDoorTie
import Derived.Test.YtapfboldkkodkaaGreatDoorCards
import Derived.SevenTiedAt
namespace Go.Proofs.YtapfboldkkodkaaGreatDoor
open Go
theorem balanceNone_pinned : Tryz.pinned.checked = Tryz.checked := rfl
theorem balanceNone_prog : Tryz.checked.prog = Tryz.prog := rfl
theorem balanceNone_pre {H : Type} (enc : TypeId × Value → H) (P : Program) (fn : Func) :
    Rows.balanceNoneRow.pre enc P fn (OpenSpec.ofChange Rows.balanceNoneSpec) = fun w args => (Rows.balanceNoneSpec.pre enc P fn [] false w args ∧ laidMetH P Rows.balanceNoneRow.laid w) ∧ sizedMet enc P fn (OpenSpec.ofChange Rows.balanceNoneSpec) false w args := rfl
set_option maxHeartbeats 10000000 in
theorem balanceNone_facts0 : joinedFacts Tryz.prog 5 Tryz.f5 Rows.balanceNoneSpec Rows.balanceNoneRow = true := by
  unfold joinedFacts
  repeat' rw [Bool.and_eq_true]
  repeat' apply And.intro
  all_goals (as_aux_lemma => kernel_rfl)
theorem balanceNone_facts : joinedFacts Tryz.pinned.checked.prog 5 Tryz.f5 Rows.balanceNoneSpec Rows.balanceNoneRow = true := by
  rw [balanceNone_pinned, balanceNone_prog]; exact balanceNone_facts0
theorem balanceNone_inst : Tryz.f5.isInstance Tryz.pinned.checked.prog Rows.balanceNoneRow.origin Rows.balanceNoneRow.targs := (of_decide_eq_true (by kernel_rfl))
theorem balanceNone_wrap : Tryz.f5.isWrapper Tryz.pinned.checked.prog Rows.balanceNoneRow.wrapper Rows.balanceNoneRow.mainSum := by unfold Func.isWrapper; first | (rw [if_pos (by decide +kernel)]; kernel_rfl) | (rw [if_neg (by decide +kernel)]; exact ⟨rfl, rfl⟩)
theorem balanceNone_name : Tryz.pinned.checked.prog.funcNamed Rows.balanceNoneRow.func = some 5 := by kernel_rfl
theorem balanceNone_at : Tryz.pinned.checked.prog.funcs[(5 : Nat)]? = some Tryz.f5 := by
  rw [balanceNone_pinned, balanceNone_prog]; exact Tryz.func5
theorem balanceNone_last (os : Os) (started : os.Started) (H : Type) (enc : TypeId × Value → H) :
    ReturnsInHanded Rows.balanceNoneRow.assume Tryz.pinned.checked os 5 .any (Rows.balanceNoneRow.pre enc Tryz.pinned.checked.prog Tryz.f5 (OpenSpec.ofChange Rows.balanceNoneSpec))
      (Rows.balanceNoneSpec.post enc Tryz.pinned.checked.prog Tryz.f5 Rows.balanceNoneRow.apart Rows.balanceNoneRow.fresh Rows.balanceNoneRow.handsOn Rows.balanceNoneRow.again) := by
  rw [balanceNone_pre, balanceNone_pinned, balanceNone_prog]
  exact balanceNone_lifted os started H enc
theorem balanceNone_holds : Rows.BalanceNoneSaid :=
  OpenClaim.holds_of_wide 5 Tryz.f5 rfl rfl rfl rfl rfl rfl rfl ⟨rfl, rfl, rfl, rfl, rfl⟩ rfl rfl rfl rfl rfl balanceNone_name balanceNone_at balanceNone_facts balanceNone_inst balanceNone_wrap
    (fun os started H enc _ => balanceNone_last os started H enc)
theorem balanceNone_wf : Rows.balanceNoneRow.wfByText (OpenSpec.ofChange Rows.balanceNoneSpec) = true := by kernel_rfl
theorem balanceNone_main : Tryz.pinned.checked.prog.mainIs = some (true, ("aca1d0363697cf8216f6a869a266a7ca73e1c075b5d723dfc2a2cc6029bc7c54" : String).toList) := by kernel_rfl
theorem balanceNone_goes : false = Rows.balanceNoneRow.goesBy Tryz.pinned.checked.prog := by kernel_rfl
theorem balanceNone_looks : true = Tryz.pinned.checked.prog.looks [] := by kernel_rfl
theorem balanceNone_stand : ([66].all fun u => !Tryz.pinned.checked.prog.wantsStandIn u) = true := by kernel_rfl
theorem balanceNone_ps : Tryz.f5.params = #[66] := Tryz.params5
theorem balanceNoneCard_holds : Rows.BalanceNoneCardSaid :=
  Claim7.holds_tied_plain_at .later [] [.data, .data, .data] true (true, "aca1d0363697cf8216f6a869a266a7ca73e1c075b5d723dfc2a2cc6029bc7c54") true
    balanceNone_holds (fun _ h => by cases h) balanceNone_wf (fun _ h => by cases h) balanceNone_row_tie rfl ⟨rfl, rfl⟩ balanceNone_main rfl
    (fun f fn hf hfn => by
      obtain rfl : f = 5 := Option.some.inj (hf.symm.trans balanceNone_name)
      obtain rfl : fn = Tryz.f5 := Option.some.inj (hfn.symm.trans balanceNone_at)
      refine ⟨balanceNone_looks, fun j t ht => ?_⟩
      rw [balanceNone_ps] at ht
      have hm : t ∈ [66] := by simpa using Array.mem_of_getElem? ht
      have := List.all_eq_true.1 balanceNone_stand t hm
      simpa using this)
    balanceNone_goes
#print axioms balanceNoneCard_holds
end Go.Proofs.YtapfboldkkodkaaGreatDoor
