/- SpeakerNone: the law returns true for every input; the listed variables are tied to the program's text; no condition. -/
import Derived.Test.YtcbddghmpneloaaGreatDoorMpSpRow
import Derived.Test.YtcbddghmpneloaaGreatDoorTie
import Derived.Test.YtcbddghmpneloaaGreatDoorCards
import Derived.SevenTiedAt
namespace Go.Proofs.YtcbddghmpneloaaGreatDoor
open Go
theorem speakerNone_pinned : Tryz.pinned.checked = Tryz.checked := rfl
theorem speakerNone_prog : Tryz.checked.prog = Tryz.prog := rfl
theorem speakerNone_pre {H : Type} (enc : TypeId × Value → H) (P : Program) (fn : Func) :
    Rows.speakerNoneRow.pre enc P fn (OpenSpec.ofChange Rows.speakerNoneSpec) = fun w args => (Rows.speakerNoneSpec.pre enc P fn [] false w args ∧ laidMetH P Rows.speakerNoneRow.laid w) ∧ sizedMet enc P fn (OpenSpec.ofChange Rows.speakerNoneSpec) false w args := rfl
set_option maxHeartbeats 10000000 in
theorem speakerNone_facts0 : joinedFacts Tryz.prog 3 Tryz.f3 Rows.speakerNoneSpec Rows.speakerNoneRow = true := by
  unfold joinedFacts
  repeat' rw [Bool.and_eq_true]
  repeat' apply And.intro
  all_goals (as_aux_lemma => kernel_rfl)
theorem speakerNone_facts : joinedFacts Tryz.pinned.checked.prog 3 Tryz.f3 Rows.speakerNoneSpec Rows.speakerNoneRow = true := by
  rw [speakerNone_pinned, speakerNone_prog]; exact speakerNone_facts0
theorem speakerNone_inst : Tryz.f3.isInstance Tryz.pinned.checked.prog Rows.speakerNoneRow.origin Rows.speakerNoneRow.targs := (of_decide_eq_true (by kernel_rfl))
theorem speakerNone_wrap : Tryz.f3.isWrapper Tryz.pinned.checked.prog Rows.speakerNoneRow.wrapper Rows.speakerNoneRow.mainSum := by unfold Func.isWrapper; first | (rw [if_pos (by decide +kernel)]; kernel_rfl) | (rw [if_neg (by decide +kernel)]; exact ⟨rfl, rfl⟩)
theorem speakerNone_name : Tryz.pinned.checked.prog.funcNamed Rows.speakerNoneRow.func = some 3 := by kernel_rfl
theorem speakerNone_at : Tryz.pinned.checked.prog.funcs[(3 : Nat)]? = some Tryz.f3 := by
  rw [speakerNone_pinned, speakerNone_prog]; exact Tryz.func3
theorem speakerNone_last (os : Os) (started : os.Started) (H : Type) (enc : TypeId × Value → H) :
    ReturnsInHanded Rows.speakerNoneRow.assume Tryz.pinned.checked os 3 .any (Rows.speakerNoneRow.pre enc Tryz.pinned.checked.prog Tryz.f3 (OpenSpec.ofChange Rows.speakerNoneSpec))
      (Rows.speakerNoneSpec.post enc Tryz.pinned.checked.prog Tryz.f3 Rows.speakerNoneRow.apart Rows.speakerNoneRow.fresh Rows.speakerNoneRow.handsOn Rows.speakerNoneRow.again) := by
  rw [speakerNone_pre, speakerNone_pinned, speakerNone_prog]
  exact speakerNone_lifted os started H enc
theorem speakerNone_holds : Rows.SpeakerNoneSaid :=
  OpenClaim.holds_of_wide 3 Tryz.f3 rfl rfl rfl rfl rfl rfl rfl ⟨rfl, rfl, rfl, rfl, rfl⟩ rfl rfl rfl rfl rfl speakerNone_name speakerNone_at speakerNone_facts speakerNone_inst speakerNone_wrap
    (fun os started H enc _ => speakerNone_last os started H enc)
theorem speakerNone_wf : Rows.speakerNoneRow.wfByText (OpenSpec.ofChange Rows.speakerNoneSpec) = true := by kernel_rfl
theorem speakerNone_main : Tryz.pinned.checked.prog.mainIs = some (true, ("8672750a833b6022c51d165147d79faf7d39284e1d28c8ad0807aa6afc234eb1" : String).toList) := by kernel_rfl
theorem speakerNone_goes : false = Rows.speakerNoneRow.goesBy Tryz.pinned.checked.prog := by kernel_rfl
theorem speakerNone_looks : true = Tryz.pinned.checked.prog.looks [] := by kernel_rfl
theorem speakerNone_stand : ([40].all fun u => !Tryz.pinned.checked.prog.wantsStandIn u) = true := by kernel_rfl
theorem speakerNone_ps : Tryz.f3.params = #[40] := Tryz.params3
theorem speakerNoneCard_holds : Rows.SpeakerNoneCardSaid :=
  Claim7.holds_tied_plain_at .later [] [.data] true (true, "8672750a833b6022c51d165147d79faf7d39284e1d28c8ad0807aa6afc234eb1") true
    speakerNone_holds (fun _ h => by cases h) speakerNone_wf (fun _ h => by cases h) speakerNone_row_tie rfl ⟨rfl, rfl⟩ speakerNone_main rfl
    (fun f fn hf hfn => by
      obtain rfl : f = 3 := Option.some.inj (hf.symm.trans speakerNone_name)
      obtain rfl : fn = Tryz.f3 := Option.some.inj (hfn.symm.trans speakerNone_at)
      refine ⟨speakerNone_looks, fun j t ht => ?_⟩
      rw [speakerNone_ps] at ht
      have hm : t ∈ [40] := by simpa using Array.mem_of_getElem? ht
      have := List.all_eq_true.1 speakerNone_stand t hm
      simpa using this)
    speakerNone_goes
#print axioms speakerNoneCard_holds
end Go.Proofs.YtcbddghmpneloaaGreatDoor
