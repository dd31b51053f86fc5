/- Plain facts on addresses and masks: no program in sight. -/
import Derived.Laws.BitsAllLaws
namespace Go.Proofs.YtkjpbadlbpfpaaaDoor

theorem and_hi (a k : Nat) (ha : a < 2 ^ 32) (hk : k ≤ 32) : a &&& (2 ^ 32 - 2 ^ k) = a / 2 ^ k * 2 ^ k := by
  have e : 2 ^ 32 - 2 ^ k = (2 ^ (32 - k) - 1) <<< k := by
    rw [Nat.shiftLeft_eq, Nat.sub_mul, ← Nat.pow_add, Nat.one_mul]
    congr 2; omega
  have hlt : a >>> k < 2 ^ (32 - k) := by
    rw [Nat.shiftRight_eq_div_pow]
    apply Nat.div_lt_of_lt_mul
    rw [← Nat.pow_add]
    have : k + (32 - k) = 32 := by omega
    rw [this]; exact ha
  have h2 : a / 2 ^ k * 2 ^ k = ((a >>> k) &&& (2 ^ (32 - k) - 1)) <<< k := by
    rw [Nat.and_two_pow_sub_one_eq_mod, Nat.mod_eq_of_lt hlt, Nat.shiftRight_eq_div_pow, Nat.shiftLeft_eq]
  rw [h2, e]
  apply Nat.eq_of_testBit_eq
  intro i
  simp only [Nat.testBit_and, Nat.testBit_shiftLeft, Nat.testBit_shiftRight]
  by_cases h : k ≤ i
  · have : k + (i - k) = i := by omega
    simp [h, this]
  · simp [h]

/-- the number of bits that count: Go's min(max(n, 0), 32) -/
def cl (n : Int) : Nat := if n < 0 then 0 else if 32 < n then 32 else n.toNat
theorem cl_le (n : Int) : cl n ≤ 32 := by unfold cl; split; omega; split <;> omega
theorem cl_cl (n : Int) : cl (cl n : Int) = cl n := by
  have := cl_le n
  generalize cl n = k at *
  unfold cl
  rw [if_neg (by omega), if_neg (by omega)]; omega
/-- so many leading ones -/
def mkN (n : Int) : Nat := 2 ^ 32 - 2 ^ (32 - cl n)
theorem mk_lt (n : Int) : mkN n < 4294967296 := by
  have : 0 < 2 ^ (32 - cl n) := Nat.two_pow_pos _
  unfold mkN; omega
/-- an address's leading bits -/
def hd (a : Nat) (n : Int) : Nat := a / 2 ^ (32 - cl n) * 2 ^ (32 - cl n)
theorem hd_le (a : Nat) (n : Int) : hd a n ≤ a := Nat.div_mul_le_self _ _
theorem and_mk (a : Nat) (n : Int) (ha : a < 4294967296) : a &&& mkN n = hd a n := and_hi a _ ha (by omega)
theorem hd_hd (a : Nat) (n : Int) : hd (hd a n) n = hd a n := by
  unfold hd; rw [Nat.mul_div_cancel _ (Nat.two_pow_pos _)]
theorem hd_eq_iff (a b : Nat) (n : Int) : hd a n = hd b n ↔ a / 2 ^ (32 - cl n) = b / 2 ^ (32 - cl n) := by
  unfold hd
  constructor
  · intro h; exact Nat.eq_of_mul_eq_mul_right (Nat.two_pow_pos _) h
  · intro h; rw [h]
/-- a prefix's leading bits, of an address that has more of them -/
theorem hd_of_more (a : Nat) (m n : Int) (h : cl m ≤ cl n) : hd (hd a n) m = hd a m := by
  have hm := cl_le n
  unfold hd
  have e : 2 ^ (32 - cl m) = 2 ^ (32 - cl n) * 2 ^ (cl n - cl m) := by rw [← Nat.pow_add]; congr 1; omega
  rw [e, ← Nat.div_div_eq_div_mul, ← Nat.div_div_eq_div_mul, Nat.mul_div_cancel _ (Nat.two_pow_pos _)]
theorem xor_and_zero (a b m : Nat) : (a ^^^ b) &&& m = 0 ↔ a &&& m = b &&& m := by
  rw [Nat.and_xor_distrib_right]
  constructor
  · intro h
    apply Nat.eq_of_testBit_eq
    intro i
    have := congrArg (fun x => x.testBit i) h
    simpa using this
  · intro h; rw [h]; exact Nat.xor_self _
theorem cl_cases (n : Int) : (n < 0 ∧ cl n = 0) ∨ (32 < n ∧ cl n = 32) ∨ (0 ≤ n ∧ n ≤ 32 ∧ (cl n : Int) = n) := by
  unfold cl
  by_cases h0 : n < 0
  · exact .inl ⟨h0, by simp [h0]⟩
  · by_cases h1 : 32 < n
    · exact .inr (.inl ⟨h1, by simp [h0, h1]⟩)
    · exact .inr (.inr ⟨by omega, by omega, by simp [h0, h1]; omega⟩)

/-- the address begins as the prefix says -/
def holdB (a : Nat) (n : Int) (x : Nat) : Bool := hd x n == hd a n
/-- what is within the first -/
def withB (a : Nat) (n : Int) (b : Nat) (m : Int) : Bool := decide (cl n ≤ cl m) && holdB a n (hd b m)

theorem withB_iff (a : Nat) (n : Int) (b : Nat) (m : Int) : withB a n b m = true ↔ cl n ≤ cl m ∧ hd b n = hd a n := by
  unfold withB holdB
  simp only [Bool.and_eq_true, decide_eq_true_eq, beq_iff_eq]
  constructor
  · rintro ⟨h, k⟩; exact ⟨h, by rw [← hd_of_more b n m h]; exact k⟩
  · rintro ⟨h, k⟩; exact ⟨h, by rw [hd_of_more b n m h]; exact k⟩
theorem withB_trans {a b c : Nat} {n m k : Int} (h1 : withB a n b m = true) (h2 : withB b m c k = true) : withB a n c k = true := by
  rw [withB_iff] at *
  refine ⟨by omega, ?_⟩
  rw [← h1.2, ← hd_of_more c n m h1.1, h2.2, hd_of_more b n m h1.1]
theorem withB_both {a b : Nat} {n m : Int} (h1 : withB a n b m = true) (h2 : withB b m a n = true) : hd a n = hd b m ∧ cl n = cl m := by
  rw [withB_iff] at *
  have e : cl n = cl m := by omega
  refine ⟨?_, e⟩
  rw [← h1.2]; unfold hd; rw [e]
theorem withB_self (a : Nat) (n : Int) : withB a n a n = true := by rw [withB_iff]; exact ⟨Nat.le_refl _, rfl⟩
theorem holdB_hd (a : Nat) (n : Int) : holdB a n (hd a n) = true := by unfold holdB; rw [hd_hd]; simp
theorem holdB_of_with {a b : Nat} {n m : Int} (h : withB a n b m = true) : holdB a n (hd b m) = true := by
  unfold withB at h; simp only [Bool.and_eq_true] at h; exact h.2
/-- the last address of a prefix -/
def tl (b : Nat) (m : Int) : Nat := hd b m ||| (4294967295 - mkN m)
theorem tl_eq (b : Nat) (m : Int) : tl b m = hd b m + (2 ^ (32 - cl m) - 1) := by
  have hk : 2 ^ (32 - cl m) ≤ 2 ^ 32 := Nat.pow_le_pow_right (by decide) (by omega)
  have h0 : 0 < 2 ^ (32 - cl m) := Nat.two_pow_pos _
  have e : 4294967295 - mkN m = 2 ^ (32 - cl m) - 1 := by unfold mkN; omega
  unfold tl
  rw [e]
  unfold hd
  rw [← Nat.shiftLeft_eq]
  exact Nat.shiftLeft_add_eq_or_of_lt (by omega) _ |>.symm
theorem tl_lt (b : Nat) (m : Int) (hb : b < 4294967296) : tl b m < 4294967296 := by
  rw [tl_eq b m]
  have h0 : 0 < 2 ^ (32 - cl m) := Nat.two_pow_pos _
  unfold hd
  have h1 : b / 2 ^ (32 - cl m) < 2 ^ cl m := by
    apply Nat.div_lt_of_lt_mul
    rw [← Nat.pow_add]
    have := cl_le m
    have e : 32 - cl m + cl m = 32 := by omega
    rw [e]; exact hb
  have h2 : (b / 2 ^ (32 - cl m) + 1) * 2 ^ (32 - cl m) ≤ 2 ^ cl m * 2 ^ (32 - cl m) := Nat.mul_le_mul_right _ h1
  rw [← Nat.pow_add] at h2
  have := cl_le m
  have e : cl m + (32 - cl m) = 32 := by omega
  rw [e, Nat.add_mul] at h2
  omega
theorem holdB_tl {a b : Nat} {n m : Int} (h : withB a n b m = true) : holdB a n (tl b m) = true := by
  have hw := (withB_iff a n b m).1 h
  have h2 := holdB_of_with h
  unfold holdB at *
  simp only [beq_iff_eq] at *
  rw [← h2]
  rw [hd_eq_iff, tl_eq b m]
  have e : 2 ^ (32 - cl n) = 2 ^ (32 - cl m) * 2 ^ (cl m - cl n) := by rw [← Nat.pow_add]; congr 1; have := cl_le m; omega
  have h0 : 0 < 2 ^ (32 - cl m) := Nat.two_pow_pos _
  rw [e, ← Nat.div_div_eq_div_mul, ← Nat.div_div_eq_div_mul]
  congr 1
  unfold hd
  rw [Nat.mul_div_cancel _ h0, Nat.add_comm, Nat.add_mul_div_right _ _ h0, Nat.div_eq_of_lt (by omega)]
  omega

/-- so many leading ones: a row of bits that is laid bit by bit -/
theorem lead_testBit (k i : Nat) (hk : k ≤ 32) : (2 ^ 32 - 2 ^ (32 - k)).testBit i = (decide (32 - k ≤ i) && decide (i < 32)) := by
  have e : 2 ^ 32 - 2 ^ (32 - k) = (2 ^ k - 1) <<< (32 - k) := by
    rw [Nat.shiftLeft_eq, Nat.sub_mul, ← Nat.pow_add, Nat.one_mul]
    congr 2; omega
  rw [e, Nat.testBit_shiftLeft, Nat.testBit_two_pow_sub_one]
  by_cases h : 32 - k ≤ i
  · simp [h]; omega
  · simp [h]
theorem lead_or (k : Nat) (hk : k < 32) : (2 ^ 32 - 2 ^ (32 - k)) ||| 2 ^ (31 - k) = 2 ^ 32 - 2 ^ (32 - (k + 1)) := by
  apply Nat.eq_of_testBit_eq
  intro i
  rw [Nat.testBit_or, lead_testBit k i (by omega), lead_testBit (k + 1) i (by omega), Nat.testBit_two_pow]
  rw [Bool.eq_iff_iff]
  simp
  omega
end Go.Proofs.YtkjpbadlbpfpaaaDoor
