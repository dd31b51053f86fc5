/- Texts of prefixes: what the package variables hold; numerals. -/
import Derived.Test.YtkjpbadlbpfpaaaDoorMb4
import Derived.Lib.ItoaNum
namespace Go.Proofs.YtkjpbadlbpfpaaaDoor
open Go.RowKit

def ptG (m : Int) : Globs := fun n => bif Nat.beq n 0 then some [.val (.int .i64 m)] else bif Nat.beq n 1 then some ([1, 10, 100, 1000, 10000, 100000, 1000000, 10000000, 100000000, 1000000000, 10000000000, 100000000000, 1000000000000, 10000000000000, 100000000000000, 1000000000000000, 10000000000000000, 100000000000000000, 1000000000000000000, 10000000000000000000].map fun z => .val (.int .u64 z)) else none
theorem ptG_vals (m : Int) : GVals (ptG m) := fun n cs h => by
  unfold ptG at h
  cases hb : Nat.beq n 0 with
  | true =>
    rw [hb] at h
    injection h with h; subst h
    exact ⟨[.int .i64 m], rfl⟩
  | false =>
    rw [hb] at h
    cases hc : Nat.beq n 1 with
    | false => rw [hc] at h; cases h
    | true =>
      rw [hc] at h
      injection h with h; subst h
      exact ⟨[1, 10, 100, 1000, 10000, 100000, 1000000, 10000000, 100000000, 1000000000, 10000000000, 100000000000, 1000000000000, 10000000000000, 100000000000000, 1000000000000000, 10000000000000000, 100000000000000000, 1000000000000000000, 10000000000000000000].map fun z => .int .u64 z, rfl⟩
theorem mixedT_Tryd : Tryd.prog.follows .mixedOrders = true := by kernel_rfl
theorem bodiesT_Tryd : bodiesOk Tryd.prog = true := by kernel_rfl
def noSp : FuncId → Option Spec := fun _ => none
def noLp : Nat → Option (LSpec × Code) := fun _ => none
abbrev itF := 24
/-- a numeral of at most three digits -/
def d3 (b : Nat) : List UInt8 := bif Nat.blt b 10 then [UInt8.ofNat (48 + b)] else bif Nat.blt b 100 then [UInt8.ofNat (48 + b / 10), UInt8.ofNat (48 + b % 10)] else [UInt8.ofNat (48 + b / 100), UInt8.ofNat (48 + b / 10 % 10), UInt8.ofNat (48 + b % 10)]
def bytesEq : List UInt8 → List UInt8 → Bool
  | [], [] => true
  | a :: l, b :: m => Nat.beq a.toNat b.toNat && bytesEq l m
  | _, _ => false
theorem bytesEq_ok : ∀ {l m : List UInt8}, bytesEq l m = true → l = m
  | [], [], _ => rfl
  | [], _ :: _, h => by cases h
  | _ :: _, [], h => by cases h
  | a :: l, b :: m, h => by
    simp only [bytesEq, Bool.and_eq_true] at h
    rw [UInt8.toNat.inj (Nat.eq_of_beq_eq_true h.1), bytesEq_ok h.2]
def isStr (l : List UInt8) (x : TV) (_ : VT) : Prop := match x with
  | .val (.string s) => cond (bytesEq s.data.toList l) True False
  | _ => False
theorem isStr_ok {l : List UInt8} {x : TV} {T : VT} (h : isStr l x T) : x = .val (.string ⟨l.toArray⟩) := by
  unfold isStr at h
  split at h
  · rename_i s
    cases hb : bytesEq s.data.toList l with
    | false => rw [hb] at h; exact h.elim
    | true =>
      have := bytesEq_ok hb
      subst this
      simp
  · exact h.elim
def VF (m : Int) (k : Nat) (xs : List TV) (Q : TV → VT → Prop) : Prop := vcallF Tryd.prog (ptG m) noSp noOra k noLp 0 itF xs ⟨[], []⟩ Q
theorem VF_ok (m : Int) (k : Nat) (xs : List TV) (Q : TV → VT → Prop) (h : VF m k xs Q) : VCx Tryd.prog (ptG m) 0 itF xs ⟨[], []⟩ Q := vcallF_ok mixedT_Tryd bodiesT_Tryd specsOk_none lsOk_none h
attribute [irreducible] VF
def itR (m : Int) (lo : Nat) : Nat → Prop
  | 0 => True
  | k + 1 => VF m 3000 [.val (.int .i64 (Int.ofNat (lo + k)))] (isStr (d3 (lo + k))) ∧ itR m lo k
def trues : Nat → Prop
  | 0 => True
  | k + 1 => True ∧ trues k
theorem trues_ok : ∀ k, trues k
  | 0 => trivial
  | k + 1 => ⟨trivial, trues_ok k⟩
def itA (m : Int) (n : Nat) : Prop := VF m 3000 [.val (.int .i64 (Int.ofNat n))] (isStr (d3 n))
theorem itR_succ (m : Int) (lo k : Nat) (h : itR m lo (k + 1)) : itA m (lo + k) ∧ itR m lo k := h
theorem itR_at {m : Int} {lo : Nat} : ∀ {k j : Nat}, itR m lo k → j < k → itA m (lo + j)
  | 0, _, _, h => absurd h (Nat.not_lt_zero _)
  | k + 1, j, h, hj => by
    obtain ⟨h1, h2⟩ := itR_succ m lo k h
    rcases Nat.lt_succ_iff_lt_or_eq.1 hj with h3 | h3
    · exact itR_at h2 h3
    · rw [h3]; exact h1
end Go.Proofs.YtkjpbadlbpfpaaaDoor
