/- What the package variable with the least lengths of messages holds. -/
import Derived.Test.YtcbddghmpneloaaGreatDoorMp4
import Derived.Test.YtcbddghmpneloaaGreatDoorOpen28
import Derived.Lib.LaidTab
import Derived.LaidHandle
import Derived.ChangeVars
import Derived.JoinedOf
import Derived.Stop.Joined
namespace Go.Proofs.YtcbddghmpneloaaGreatDoor
open Go.ChangeShapes Go.WideShapes Go.ChangeAt Go.RowKit Go.Joins Go.Deep

def leastG : Globs := fun n => bif Nat.beq n 0 then some [.val (.int .i64 0), .val (.int .i64 29), .val (.int .i64 23), .val (.int .i64 21), .val (.int .i64 19)] else none
theorem mixedF_Tryz : Tryz.prog.follows .mixedOrders = true := by kernel_rfl
theorem bodiesF_Tryz : bodiesOk Tryz.prog = true := by kernel_rfl
theorem leastG_vals : GVals leastG := fun n cs h => by
  unfold leastG at h
  cases hb : Nat.beq n 0 with
  | false => rw [hb] at h; cases h
  | true =>
    rw [hb] at h
    injection h with h; subst h
    exact ⟨[.int .i64 0, .int .i64 29, .int .i64 23, .int .i64 21, .int .i64 19], rfl⟩
def leastZ : List Int := [0, 29, 23, 21, 19]
theorem glob_least : Tryz.prog.globalNamed "fairway/message.least" = some 0 := by kernel_rfl
theorem gok_least {w : World} (h : Lib.TabIs Tryz.prog w "fairway/message.least" .i64 leastZ) : GOk leastG (topG w) w := by
  intro n cs hn
  unfold leastG at hn
  cases hb : Nat.beq n 0 with
  | false => rw [hb] at hn; cases hn
  | true =>
    rw [hb] at hn
    have := Nat.eq_of_beq_eq_true hb
    subst this
    injection hn with hn; subst hn
    have cell : ∀ (j : Nat) u, (leastZ.map fun z => Value.int .i64 z)[j]? = some u → w.cell? ⟨0, 0 + j, none⟩ = some u := fun j u hj => by
      have hlt : j < leastZ.length := by
        have := (List.getElem?_eq_some_iff.1 hj).1
        simpa using this
      have h1 := h.cell glob_least j hlt
      rw [Nat.zero_add, h1, ← hj, List.getElem?_map, List.getD_eq_getElem?_getD, List.getElem?_eq_getElem hlt]
      rfl
    refine VR.mk_elt (us := leastZ.map fun z => Value.int .i64 z) (VRs.vals (topG w) w [.int .i64 0, .int .i64 29, .int .i64 23, .int .i64 21, .int .i64 19]) (fun j hj => ?_) cell (fun u hu => ?_)
    · show (w.cell? ⟨_, 0 + j, none⟩).isSome = true
      have hj' : j < (leastZ.map fun z => Value.int .i64 z).length := hj
      rw [cell j _ (List.getElem?_eq_getElem hj')]; rfl
    · obtain ⟨z, _, rfl⟩ := List.mem_map.1 hu
      rfl
end Go.Proofs.YtcbddghmpneloaaGreatDoor
