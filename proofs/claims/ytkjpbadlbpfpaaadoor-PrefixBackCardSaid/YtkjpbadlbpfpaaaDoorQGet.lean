/- get: the number that bytes begin with. -/
import Derived.Test.YtkjpbadlbpfpaaaDoorQTake
import Derived.Test.YtkjpbadlbpfpaaaDoorPfxR
namespace Go.Proofs.YtkjpbadlbpfpaaaDoor
open Go.RowKit

/-- a number's bytes, the greatest first, as a number -/
def getN (l : List Nat) : Nat := l.foldl (fun n c => n * 256 + c) 0
theorem getN_snoc (l : List Nat) (c : Nat) : getN (l ++ [c]) = getN l * 256 + c := by simp [getN]
theorem getN_acc : ∀ (l : List Nat) (a : Nat), (∀ x ∈ l, x < 256) → l.foldl (fun n c => n * 256 + c) a < (a + 1) * 256 ^ l.length
  | [], a, _ => by simp
  | c :: r, a, h => by
    have h2 := h c (by simp)
    have h1 := getN_acc r (a * 256 + c) (fun x hx => h x (by simp [hx]))
    simp only [List.foldl_cons, List.length_cons]
    refine Nat.lt_of_lt_of_le h1 ?_
    rw [Nat.pow_succ, Nat.mul_comm (256 ^ r.length) 256, ← Nat.mul_assoc]
    exact Nat.mul_le_mul_right _ (by omega)
theorem getN_lt (l : List Nat) (h : ∀ x ∈ l, x < 256) : getN l < 256 ^ l.length := by simpa [getN] using getN_acc l 0 h

theorem get_num (n x : Nat) (hn : n < 72057594037927936) (hx : x < 256) : bits .or .u64 (IntKind.u64.wrap ((n : Int) * 256)) (x : Int) = ((n * 256 + x : Nat) : Int) := by
  have e : IntKind.u64.wrap ((n : Int) * 256) = ((n * 256 : Nat) : Int) := by
    simp only [IntKind.wrap, IntKind.bits, IntKind.signed]
    simp
    omega
  rw [e, u64_or_nat _ _ (by omega) (by omega), nat_join 8 (n * 256) x (by simp) (by simpa using hx)]

set_option maxHeartbeats 400000 in
theorem wget (b o c : Nat) (l : List Nat) (hl : ∀ x ∈ l, x < 256) (k : Nat) (hk : k ≤ l.length) (hk8 : k ≤ 8) (hlc : l.length ≤ c) (w : World) (hc : ∀ j u, (u8s l)[j]? = some u → w.cell? ⟨b, o + j, none⟩ = some u) :
    Calls Tryd.prog 59 #[.slice (some ⟨b, o, none⟩) l.length c, .int .i64 k] w fun e w' => e = .returned (.int .u64 (getN (l.take k) : Nat)) ∧ w = w' := by
  have HC := Lib.hid hc
  have hkc : k ≤ c := by omega
  have HL := Lib.hid hl
  clear hc hl
  go_enter Tryd.func59, Tryd.ntmps59
  go_wp2
  go_loop [5, 12] (fun m i => ∃ j : Nat, j ≤ k ∧ i = .int .i64 j ∧ m = .int .u64 (getN (l.take j) : Nat)) (fun _ i => k - (intOf i).toNat)
  case atStart => exact ⟨0, Nat.zero_le _, rfl, rfl⟩
  case round =>
    obtain ⟨j, hj, rfl, rfl⟩ := hrel
    by_cases hlt : j < k
    · have hjl : j < l.length := by omega
      have c0 := HC.out j (.int .u8 (l[j] : Nat)) (by simp [u8s, hjl])
      have hx := HL.out l[j] (List.getElem_mem hjl)
      have hs : l.take (j + 1) = l.take j ++ [l[j]] := (List.take_append_getElem hjl).symm
      have hn := getN_lt (l.take j) (fun x hx => HL.out x (List.mem_of_mem_take hx))
      have hn' : getN (l.take j) < 72057594037927936 := Nat.lt_of_lt_of_le hn (by
        have : 256 ^ (l.take j).length ≤ 256 ^ 7 := Nat.pow_le_pow_right (by decide) (by rw [List.length_take]; omega)
        simpa using this)
      have e1 := get_num _ _ hn' hx
      rw [← getN_snoc, ← hs] at e1
      clear hs hn hn'
      generalize l[j] = x at *
      go_wp2
      go_round
      case rel => exact ⟨j + 1, by omega, by go_num, rfl⟩
      case measure => simp [intOf]; omega
    · obtain rfl : j = k := by omega
      go_wp2
      go_ret
      exact ⟨rfl, rfl⟩
end Go.Proofs.YtkjpbadlbpfpaaaDoor
