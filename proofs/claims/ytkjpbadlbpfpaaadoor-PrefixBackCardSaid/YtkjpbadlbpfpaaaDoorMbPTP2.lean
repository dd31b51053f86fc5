/- Texts of prefixes: what a prefix's text says. Plain. -/
import Derived.Test.YtkjpbadlbpfpaaaDoorMbPTP
import Derived.Test.YtkjpbadlbpfpaaaDoorMbPTB
namespace Go.Proofs.YtkjpbadlbpfpaaaDoor
open Go.RowKit

theorem neqS_of {l m : List UInt8} (h : l = m) : eqRes .neq (keyEq (.string ⟨l.toArray⟩) (.string ⟨m.toArray⟩)) = false := by
  subst h
  have h := (fit_eq (c := .str) (x := .string ⟨l.toArray⟩) (y := .string ⟨l.toArray⟩) rfl rfl).2 rfl
  simp [eqRes, keyEq, h]
theorem neqS_ne {l m : List UInt8} (h : l ≠ m) : eqRes .neq (keyEq (.string ⟨l.toArray⟩) (.string ⟨m.toArray⟩)) = true := by
  have h2 : cellEq (.string ⟨l.toArray⟩) (.string ⟨m.toArray⟩) = false := by
    cases hb : cellEq (.string ⟨l.toArray⟩) (.string ⟨m.toArray⟩) with
    | false => rfl
    | true =>
      have e := (fit_eq (c := .str) (x := .string ⟨l.toArray⟩) (y := .string ⟨m.toArray⟩) rfl rfl).1 hb
      have e := congrArg (fun v => match v with | .string b => b.data.toList | _ => []) e
      exact absurd (by simpa using e) h
  simp [eqRes, keyEq, h2]
theorem good_eq {a : Nat} {n : Int} (h : goodB a n = true) : hd a n = a ∧ n = (cl n : Int) := by
  unfold goodB at h
  simp only [Bool.and_eq_true, beq_iff_eq] at h
  exact ⟨by omega, h.2⟩
theorem pfxT_good {a : Nat} {n : Int} (h : goodB a n = true) : pfxT a n = addrT a ++ 47 :: d3 (cl n) := by
  unfold pfxT
  rw [(good_eq h).1]; simp
theorem slash_d3 (b : Nat) (hb : b < 256) : (47 : UInt8) ∉ d3 b := fun h => (dot_d3 b hb h).2 rfl
theorem cut_pfx {a : Nat} (ha : a < 4294967296) (y : List UInt8) : Lib.cut (addrT a ++ 47 :: y) [47] = (addrT a, y, true) := by
  unfold Lib.cut
  rw [index_app _ y 47 (slash_addr a ha), if_pos (Int.natCast_nonneg _)]
  have h1 : (addrT a ++ 47 :: y).take (addrT a).length = addrT a := List.take_left
  have h2 : (addrT a ++ 47 :: y).drop ((addrT a).length + [(47 : UInt8)].length) = y := by
    rw [← List.drop_drop, List.drop_left]; rfl
  rw [Int.toNat_natCast, h1, h2]
theorem pfxT_inj {a b : Nat} {n k : Int} (ha : a < 4294967296) (hb : b < 4294967296) (ga : goodB a n = true) (gb : goodB b k = true) (h : pfxT a n = pfxT b k) : a = b ∧ n = k := by
  rw [pfxT_good ga, pfxT_good gb] at h
  have c := congrArg (fun s => Lib.cut s [47]) h
  simp only [cut_pfx ha, cut_pfx hb, Prod.mk.injEq, and_true] at c
  have e1 := addrT_inj ha hb c.1
  have hn := cl_le n
  have hk := cl_le k
  have e2 := congrArg (fun s => (numZ s).1) c.2
  simp only [num_d3 (cl n) (by omega), num_d3 (cl k) (by omega)] at e2
  have h1 := (good_eq ga).2
  have h2 := (good_eq gb).2
  exact ⟨e1, by omega⟩
def PfxAt (s : List UInt8) (q : Nat × Int) : Prop := q.1 < 4294967296 ∧ goodB q.1 q.2 = true ∧ pfxT q.1 q.2 = s
open Classical in
/-- the prefix of a text -/
noncomputable def pfxOf (s : List UInt8) : (Int × Int) × Bool := if h : ∃ q, PfxAt s q then (((h.choose.1 : Int), h.choose.2), true) else ((0, 0), false)
theorem pfxOf_text {a : Nat} {n : Int} (ha : a < 4294967296) (hg : goodB a n = true) : pfxOf (pfxT a n) = (((a : Int), n), true) := by
  have h : ∃ q, PfxAt (pfxT a n) q := ⟨(a, n), ha, hg, rfl⟩
  unfold pfxOf
  rw [dif_pos h]
  obtain ⟨h1, h2, h3⟩ := h.choose_spec
  obtain ⟨e1, e2⟩ := pfxT_inj h1 ha h2 hg h3
  rw [e1, e2]
theorem pfxOf_none {s : List UInt8} (h : ¬ ∃ q, PfxAt s q) : pfxOf s = ((0, 0), false) := by
  unfold pfxOf
  rw [dif_neg h]
/-! ### The reference's way -/
/-- where the last stroke stands -/
def lastAt : List UInt8 → Nat → Int → Int
  | [], _, t => t
  | c :: l, i, t => lastAt l (i + 1) (if c.toNat = 47 then (i : Int) else t)
theorem lastAt_none : ∀ {l : List UInt8}, (47 : UInt8) ∉ l → ∀ (i : Nat) (t : Int), lastAt l i t = t
  | [], _, _, _ => rfl
  | c :: l, h, i, t => by
    have hc : ¬ c.toNat = 47 := fun e => h (by
      have : c = 47 := UInt8.toNat.inj e
      rw [this]; exact List.mem_cons_self)
    rw [lastAt, if_neg hc]
    exact lastAt_none (fun hm => h (List.mem_cons_of_mem _ hm)) _ _
theorem lastAt_app : ∀ (x y : List UInt8) (i : Nat) (t : Int), lastAt (x ++ y) i t = lastAt y (i + x.length) (lastAt x i t)
  | [], y, i, t => rfl
  | c :: x, y, i, t => by
    rw [List.cons_append, lastAt, lastAt_app x y, lastAt]
    congr 1
    simp only [List.length_cons]; omega
theorem lastAt_pfx {a : Nat} (ha : a < 4294967296) (b : Nat) (hb : b < 256) : lastAt (addrT a ++ 47 :: d3 b) 0 (-1) = ((addrT a).length : Int) := by
  rw [lastAt_app, lastAt_none (slash_addr a ha), lastAt, if_pos (by decide), lastAt_none (slash_d3 b hb)]
  simp
theorem lastAt_le : ∀ (l : List UInt8) (i : Nat) (t : Int), -1 ≤ t → t < i → -1 ≤ lastAt l i t ∧ lastAt l i t < i + l.length
  | [], i, t, h0, h1 => by simp only [lastAt, List.length_nil]; omega
  | c :: l, i, t, h0, h1 => by
    rw [lastAt]
    have := lastAt_le l (i + 1) (if c.toNat = 47 then (i : Int) else t) (by split <;> omega) (by split <;> omega)
    simp only [List.length_cons]
    omega
/-- what the reference makes of the digits behind the stroke -/
def numR : List UInt8 → Int → Option Int
  | [], n => some n
  | c :: l, n => if c.toNat < 48 ∨ 57 < c.toNat then none else numR l (IntKind.i64.wrap (IntKind.i64.wrap (10 * n) + IntKind.i64.wrap (IntKind.u8.wrap ((c.toNat : Int) - 48))))
theorem numR_d3' : ∀ b : Fin 33, numR (d3 b.val) 0 = some (b.val : Int) ∧ 0 < (d3 b.val).length ∧ (d3 b.val).length < 3 := by decide +kernel
theorem numR_d3 (b : Nat) (hb : b ≤ 32) : numR (d3 b) 0 = some (b : Int) ∧ 0 < (d3 b).length ∧ (d3 b).length < 3 := numR_d3' ⟨b, by omega⟩
theorem wrap_in (z : Int) : -9223372036854775808 ≤ IntKind.i64.wrap z ∧ IntKind.i64.wrap z ≤ 9223372036854775807 := by
  simp only [IntKind.wrap, IntKind.bits, IntKind.signed]; simp; omega
theorem numR_in : ∀ (l : List UInt8) (n k : Int), -9223372036854775808 ≤ n ∧ n ≤ 9223372036854775807 → numR l n = some k → -9223372036854775808 ≤ k ∧ k ≤ 9223372036854775807
  | [], n, k, h, e => by simp only [numR, Option.some.injEq] at e; subst e; exact h
  | c :: l, n, k, h, e => by
    simp only [numR] at e
    split at e
    · cases e
    · exact numR_in l _ k (wrap_in _) e
end Go.Proofs.YtkjpbadlbpfpaaaDoor
