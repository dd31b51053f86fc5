/- PrefixTexts: the law returns true for every input; the listed variables are tied to the program's text; no condition. -/
import Derived.Test.YtkjpbadlbpfpaaaDoorMtPTRow
import Derived.Test.YtkjpbadlbpfpaaaDoorTie
import Derived.Test.YtkjpbadlbpfpaaaDoorCards
import Derived.SevenTiedAt
namespace Go.Proofs.YtkjpbadlbpfpaaaDoor
open Go
theorem prefixTexts_pinned : Tryd.pinned.checked = Tryd.checked := rfl
theorem prefixTexts_prog : Tryd.checked.prog = Tryd.prog := rfl
theorem prefixTexts_pre {H : Type} (enc : TypeId × Value → H) (P : Program) (fn : Func) :
    Rows.prefixTextsRow.pre enc P fn (OpenSpec.ofChange Rows.prefixTextsSpec) = fun w args => (Rows.prefixTextsSpec.pre enc P fn [] false w args ∧ laidMetH P Rows.prefixTextsRow.laid w) ∧ sizedMet enc P fn (OpenSpec.ofChange Rows.prefixTextsSpec) false w args := rfl
set_option maxHeartbeats 10000000 in
theorem prefixTexts_facts0 : joinedFacts Tryd.prog 3 Tryd.f3 Rows.prefixTextsSpec Rows.prefixTextsRow = true := by
  unfold joinedFacts
  repeat' rw [Bool.and_eq_true]
  repeat' apply And.intro
  all_goals (as_aux_lemma => kernel_rfl)
theorem prefixTexts_facts : joinedFacts Tryd.pinned.checked.prog 3 Tryd.f3 Rows.prefixTextsSpec Rows.prefixTextsRow = true := by
  rw [prefixTexts_pinned, prefixTexts_prog]; exact prefixTexts_facts0
theorem prefixTexts_inst : Tryd.f3.isInstance Tryd.pinned.checked.prog Rows.prefixTextsRow.origin Rows.prefixTextsRow.targs := (of_decide_eq_true (by kernel_rfl))
theorem prefixTexts_wrap : Tryd.f3.isWrapper Tryd.pinned.checked.prog Rows.prefixTextsRow.wrapper Rows.prefixTextsRow.mainSum := by unfold Func.isWrapper; first | (rw [if_pos (by decide +kernel)]; kernel_rfl) | (rw [if_neg (by decide +kernel)]; exact ⟨rfl, rfl⟩)
theorem prefixTexts_name : Tryd.pinned.checked.prog.funcNamed Rows.prefixTextsRow.func = some 3 := by kernel_rfl
theorem prefixTexts_at : Tryd.pinned.checked.prog.funcs[(3 : Nat)]? = some Tryd.f3 := by
  rw [prefixTexts_pinned, prefixTexts_prog]; exact Tryd.func3
theorem prefixTexts_last (os : Os) (started : os.Started) (H : Type) (enc : TypeId × Value → H) :
    ReturnsInHanded Rows.prefixTextsRow.assume Tryd.pinned.checked os 3 .any (Rows.prefixTextsRow.pre enc Tryd.pinned.checked.prog Tryd.f3 (OpenSpec.ofChange Rows.prefixTextsSpec))
      (Rows.prefixTextsSpec.post enc Tryd.pinned.checked.prog Tryd.f3 Rows.prefixTextsRow.apart Rows.prefixTextsRow.fresh Rows.prefixTextsRow.handsOn Rows.prefixTextsRow.again) := by
  rw [prefixTexts_pre, prefixTexts_pinned, prefixTexts_prog]
  exact prefixTexts_lifted os started H enc
theorem prefixTexts_holds : Rows.PrefixTextsSaid :=
  OpenClaim.holds_of_wide 3 Tryd.f3 rfl rfl rfl rfl rfl rfl rfl ⟨rfl, rfl, rfl, rfl, rfl⟩ rfl rfl rfl rfl rfl prefixTexts_name prefixTexts_at prefixTexts_facts prefixTexts_inst prefixTexts_wrap
    (fun os started H enc _ => prefixTexts_last os started H enc)
theorem prefixTexts_wf : Rows.prefixTextsRow.wfByText (OpenSpec.ofChange Rows.prefixTextsSpec) = true := by kernel_rfl
theorem prefixTexts_main : Tryd.pinned.checked.prog.mainIs = some (true, ("7c53304ef782c511343e44a2d18e73c81ecfba9829ca86f152cb0be7109ba282" : String).toList) := by kernel_rfl
theorem prefixTexts_goes : false = Rows.prefixTextsRow.goesBy Tryd.pinned.checked.prog := by kernel_rfl
theorem prefixTexts_looks : false = Tryd.pinned.checked.prog.looks [] := by kernel_rfl
theorem prefixTexts_stand : ([24, 22, 9].all fun u => !Tryd.pinned.checked.prog.wantsStandIn u) = true := by kernel_rfl
theorem prefixTexts_ps : Tryd.f3.params = #[24, 22, 9] := Tryd.params3
theorem prefixTextsCard_holds : Rows.PrefixTextsCardSaid :=
  Claim7.holds_tied_plain_at .later [] [.data, .data, .data, .data, .pinned] true (true, "7c53304ef782c511343e44a2d18e73c81ecfba9829ca86f152cb0be7109ba282") false
    prefixTexts_holds (fun _ h => by cases h) prefixTexts_wf (fun _ h => by cases h) prefixTexts_row_tie rfl ⟨rfl, rfl⟩ prefixTexts_main rfl
    (fun f fn hf hfn => by
      obtain rfl : f = 3 := Option.some.inj (hf.symm.trans prefixTexts_name)
      obtain rfl : fn = Tryd.f3 := Option.some.inj (hfn.symm.trans prefixTexts_at)
      refine ⟨prefixTexts_looks, fun j t ht => ?_⟩
      rw [prefixTexts_ps] at ht
      have hm : t ∈ [24, 22, 9] := by simpa using Array.mem_of_getElem? ht
      have := List.all_eq_true.1 prefixTexts_stand t hm
      simpa using this)
    prefixTexts_goes
#print axioms prefixTextsCard_holds
end Go.Proofs.YtkjpbadlbpfpaaaDoor
