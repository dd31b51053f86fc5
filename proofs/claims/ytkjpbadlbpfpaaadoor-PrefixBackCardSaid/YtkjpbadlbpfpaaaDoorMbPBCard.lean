/- PrefixBack: the law returns true for every input; the listed variables are tied to the program's text; no condition. -/
import Derived.Test.YtkjpbadlbpfpaaaDoorMbPBRow
import Derived.Test.YtkjpbadlbpfpaaaDoorTie
import Derived.Test.YtkjpbadlbpfpaaaDoorCards
import Derived.SevenTiedAt
namespace Go.Proofs.YtkjpbadlbpfpaaaDoor
open Go
theorem prefixBack_pinned : Tryd.pinned.checked = Tryd.checked := rfl
theorem prefixBack_prog : Tryd.checked.prog = Tryd.prog := rfl
theorem prefixBack_pre {H : Type} (enc : TypeId × Value → H) (P : Program) (fn : Func) :
    Rows.prefixBackRow.pre enc P fn (OpenSpec.ofChange Rows.prefixBackSpec) = fun w args => (Rows.prefixBackSpec.pre enc P fn [] false w args ∧ laidMetH P Rows.prefixBackRow.laid w) ∧ sizedMet enc P fn (OpenSpec.ofChange Rows.prefixBackSpec) false w args := rfl
set_option maxHeartbeats 10000000 in
theorem prefixBack_facts0 : joinedFacts Tryd.prog 4 Tryd.f4 Rows.prefixBackSpec Rows.prefixBackRow = true := by
  unfold joinedFacts
  repeat' rw [Bool.and_eq_true]
  repeat' apply And.intro
  all_goals (as_aux_lemma => kernel_rfl)
theorem prefixBack_facts : joinedFacts Tryd.pinned.checked.prog 4 Tryd.f4 Rows.prefixBackSpec Rows.prefixBackRow = true := by
  rw [prefixBack_pinned, prefixBack_prog]; exact prefixBack_facts0
theorem prefixBack_inst : Tryd.f4.isInstance Tryd.pinned.checked.prog Rows.prefixBackRow.origin Rows.prefixBackRow.targs := (of_decide_eq_true (by kernel_rfl))
theorem prefixBack_wrap : Tryd.f4.isWrapper Tryd.pinned.checked.prog Rows.prefixBackRow.wrapper Rows.prefixBackRow.mainSum := by unfold Func.isWrapper; first | (rw [if_pos (by decide +kernel)]; kernel_rfl) | (rw [if_neg (by decide +kernel)]; exact ⟨rfl, rfl⟩)
theorem prefixBack_name : Tryd.pinned.checked.prog.funcNamed Rows.prefixBackRow.func = some 4 := by kernel_rfl
theorem prefixBack_at : Tryd.pinned.checked.prog.funcs[(4 : Nat)]? = some Tryd.f4 := by
  rw [prefixBack_pinned, prefixBack_prog]; exact Tryd.func4
theorem prefixBack_last (os : Os) (started : os.Started) (H : Type) (enc : TypeId × Value → H) :
    ReturnsInHanded Rows.prefixBackRow.assume Tryd.pinned.checked os 4 .any (Rows.prefixBackRow.pre enc Tryd.pinned.checked.prog Tryd.f4 (OpenSpec.ofChange Rows.prefixBackSpec))
      (Rows.prefixBackSpec.post enc Tryd.pinned.checked.prog Tryd.f4 Rows.prefixBackRow.apart Rows.prefixBackRow.fresh Rows.prefixBackRow.handsOn Rows.prefixBackRow.again) := by
  rw [prefixBack_pre, prefixBack_pinned, prefixBack_prog]
  exact prefixBack_lifted os started H enc
theorem prefixBack_holds : Rows.PrefixBackSaid :=
  OpenClaim.holds_of_wide 4 Tryd.f4 rfl rfl rfl rfl rfl rfl rfl ⟨rfl, rfl, rfl, rfl, rfl⟩ rfl rfl rfl rfl rfl prefixBack_name prefixBack_at prefixBack_facts prefixBack_inst prefixBack_wrap
    (fun os started H enc _ => prefixBack_last os started H enc)
theorem prefixBack_wf : Rows.prefixBackRow.wfByText (OpenSpec.ofChange Rows.prefixBackSpec) = true := by kernel_rfl
theorem prefixBack_main : Tryd.pinned.checked.prog.mainIs = some (true, ("7c53304ef782c511343e44a2d18e73c81ecfba9829ca86f152cb0be7109ba282" : String).toList) := by kernel_rfl
theorem prefixBack_goes : false = Rows.prefixBackRow.goesBy Tryd.pinned.checked.prog := by kernel_rfl
theorem prefixBack_looks : false = Tryd.pinned.checked.prog.looks [] := by kernel_rfl
theorem prefixBack_stand : ([33, 22].all fun u => !Tryd.pinned.checked.prog.wantsStandIn u) = true := by kernel_rfl
theorem prefixBack_ps : Tryd.f4.params = #[33, 22] := Tryd.params4
theorem prefixBackCard_holds : Rows.PrefixBackCardSaid :=
  Claim7.holds_tied_plain_at .later [] [.data, .data, .data, .data, .pinned] true (true, "7c53304ef782c511343e44a2d18e73c81ecfba9829ca86f152cb0be7109ba282") false
    prefixBack_holds (fun _ h => by cases h) prefixBack_wf (fun _ h => by cases h) prefixBack_row_tie rfl ⟨rfl, rfl⟩ prefixBack_main rfl
    (fun f fn hf hfn => by
      obtain rfl : f = 4 := Option.some.inj (hf.symm.trans prefixBack_name)
      obtain rfl : fn = Tryd.f4 := Option.some.inj (hfn.symm.trans prefixBack_at)
      refine ⟨prefixBack_looks, fun j t ht => ?_⟩
      rw [prefixBack_ps] at ht
      have hm : t ∈ [33, 22] := by simpa using Array.mem_of_getElem? ht
      have := List.all_eq_true.1 prefixBack_stand t hm
      simpa using this)
    prefixBack_goes
#print axioms prefixBackCard_holds
end Go.Proofs.YtkjpbadlbpfpaaaDoor
