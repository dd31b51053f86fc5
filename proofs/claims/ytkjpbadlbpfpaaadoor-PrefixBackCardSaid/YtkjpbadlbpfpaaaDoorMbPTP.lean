/- Texts of prefixes: what a text says. Plain. -/
import Derived.Test.YtkjpbadlbpfpaaaDoorMbPTA
namespace Go.Proofs.YtkjpbadlbpfpaaaDoor
open Go.RowKit

theorem num_d3' : ∀ b : Fin 256, numZ (d3 b.val) = ((b.val : Int), true) := by decide +kernel
theorem num_d3 (b : Nat) (hb : b < 256) : numZ (d3 b) = ((b : Int), true) := num_d3' ⟨b, hb⟩
theorem dot_d3' : ∀ b : Fin 256, (d3 b.val).all (fun c => !(c == 46) && !(c == 47)) = true := by decide +kernel
theorem dot_d3 (b : Nat) (hb : b < 256) {c : UInt8} (h : c ∈ d3 b) : c ≠ 46 ∧ c ≠ 47 := by
  have := List.all_eq_true.1 (dot_d3' ⟨b, hb⟩) c h
  simpa using this
theorem index_app (x y : List UInt8) (c : UInt8) (h : c ∉ x) : Lib.index (x ++ c :: y) [c] = (x.length : Int) := by
  induction x with
  | nil => simp [Lib.index, List.isPrefixOf]
  | cons a x ih =>
    have hne : ¬ c = a := fun e => h (by simp [e])
    have ih := ih fun e => h (List.mem_cons_of_mem _ e)
    have hp : ([c] : List UInt8).isPrefixOf (a :: (x ++ c :: y)) = false := by simp [List.isPrefixOf, hne]
    rw [List.cons_append, Lib.index, hp, ih]
    have : ¬ ((x.length : Int) == -1) = true := fun hh => by have := beq_iff_eq.1 hh; omega
    simp [this]
theorem parts_none {x : List UInt8} {c : UInt8} (h : c ∉ x) : parts x c = [x] := by
  unfold parts
  rw [List.count_eq_zero.2 h]; rfl
theorem parts_app {x : List UInt8} (y : List UInt8) {c : UInt8} (h : c ∉ x) : parts (x ++ c :: y) c = x :: parts y c := by
  unfold parts
  have e : (x ++ c :: y).count c = y.count c + 1 := by
    rw [List.count_append, List.count_eq_zero.2 h, List.count_cons_self]; omega
  rw [e, Lib.splitK, index_app x y c h]
  have : ¬ ((x.length : Int) == -1) = true := fun hh => by have := beq_iff_eq.1 hh; omega
  rw [if_neg this]
  simp
theorem addrT_form (a : Nat) : addrT a = d3 (a / 2 ^ 24) ++ 46 :: (d3 (a / 2 ^ 16 % 256) ++ 46 :: (d3 (a / 2 ^ 8 % 256) ++ 46 :: d3 (a % 256))) := by simp [addrT]
theorem parts_addr (a : Nat) (ha : a < 4294967296) : parts (addrT a) 46 = [d3 (a / 2 ^ 24), d3 (a / 2 ^ 16 % 256), d3 (a / 2 ^ 8 % 256), d3 (a % 256)] := by
  have n : ∀ b, b < 256 → (46 : UInt8) ∉ d3 b := fun b hb h => (dot_d3 b hb h).1 rfl
  rw [addrT_form, parts_app _ (n _ (by omega)), parts_app _ (n _ (by omega)), parts_app _ (n _ (by omega)), parts_none (n _ (by omega))]
theorem slash_addr (a : Nat) (ha : a < 4294967296) : (47 : UInt8) ∉ addrT a := by
  have n : ∀ b, b < 256 → (47 : UInt8) ∉ d3 b := fun b hb h => (dot_d3 b hb h).2 rfl
  rw [addrT_form]
  simp only [List.mem_append, List.mem_cons, not_or]
  exact ⟨n _ (by omega), by decide, n _ (by omega), by decide, n _ (by omega), by decide, n _ (by omega)⟩
theorem octets (a : Nat) (_ : a < 4294967296) : a = (((a / 2 ^ 24) * 256 + a / 2 ^ 16 % 256) * 256 + a / 2 ^ 8 % 256) * 256 + a % 256 := by omega
theorem addrT_inj {a b : Nat} (ha : a < 4294967296) (hb : b < 4294967296) (h : addrT a = addrT b) : a = b := by
  have hp := congrArg (fun s => parts s 46) h
  simp only [parts_addr a ha, parts_addr b hb, List.cons.injEq, and_true] at hp
  obtain ⟨h0, h1, h2, h3⟩ := hp
  have k : ∀ x y, x < 256 → y < 256 → d3 x = d3 y → x = y := fun x y hx hy e => by
    have := congrArg (fun s => (numZ s).1) e
    simp only [num_d3 x hx, num_d3 y hy] at this
    omega
  have e0 := k _ _ (by omega) (by omega) h0
  have e1 := k _ _ (by omega) (by omega) h1
  have e2 := k _ _ (by omega) (by omega) h2
  have e3 := k _ _ (by omega) (by omega) h3
  rw [octets a ha, octets b hb, e0, e1, e2, e3]
open Classical in
/-- the address of a text -/
noncomputable def adrOf (s : List UInt8) : Int × Bool := if h : ∃ a : Nat, a < 4294967296 ∧ addrT a = s then ((h.choose : Int), true) else (0, false)
theorem adrOf_text {a : Nat} (ha : a < 4294967296) : adrOf (addrT a) = ((a : Int), true) := by
  have h : ∃ b : Nat, b < 4294967296 ∧ addrT b = addrT a := ⟨a, ha, rfl⟩
  unfold adrOf
  rw [dif_pos h]
  have hc := h.choose_spec
  have := addrT_inj hc.1 ha hc.2
  rw [this]
theorem adrOf_none {s : List UInt8} (h : ∀ a : Nat, a < 4294967296 → addrT a ≠ s) : adrOf s = (0, false) := by
  unfold adrOf
  rw [dif_neg (fun ⟨a, ha, e⟩ => h a ha e)]
theorem adrOf_in (s : List UInt8) : 0 ≤ (adrOf s).1 ∧ (adrOf s).1 < 4294967296 := by
  by_cases h : ∃ a : Nat, a < 4294967296 ∧ addrT a = s
  · obtain ⟨a, ha, rfl⟩ := h
    rw [adrOf_text ha]; simp only; omega
  · rw [adrOf_none fun a ha e => h ⟨a, ha, e⟩]; simp
theorem orS_in (z n : Int) : InR (orS z n) 4294967296 := by
  unfold orS
  refine ⟨?_, ?_⟩
  · simp only [IntKind.wrap, IntKind.bits, IntKind.signed]; simp; omega
  · simp only [IntKind.wrap, IntKind.bits, IntKind.signed]; simp; omega
theorem orS_addr (a : Nat) (ha : a < 4294967296) : orS (orS (orS (orS 0 ((a / 2 ^ 24 : Nat) : Int)) ((a / 2 ^ 16 % 256 : Nat) : Int)) ((a / 2 ^ 8 % 256 : Nat) : Int)) ((a % 256 : Nat) : Int) = (a : Int) := by
  have e0 := orS_nat 0 (a / 2 ^ 24) (by omega) (by omega)
  have e1 := orS_nat (0 * 256 + a / 2 ^ 24) (a / 2 ^ 16 % 256) (by omega) (by omega)
  have e2 := orS_nat ((0 * 256 + a / 2 ^ 24) * 256 + a / 2 ^ 16 % 256) (a / 2 ^ 8 % 256) (by omega) (by omega)
  have e3 := orS_nat (((0 * 256 + a / 2 ^ 24) * 256 + a / 2 ^ 16 % 256) * 256 + a / 2 ^ 8 % 256) (a % 256) (by omega) (by omega)
  rw [show (0 : Int) = ((0 : Nat) : Int) from rfl, e0, e1, e2, e3]
  congr 1
  omega
/-! ### Letter by letter -/
/-- what the reference makes of digits -/
def rqP : List UInt8 → Int → Int → Int → Int → Option (Int × Int)
  | [], a, n, p, d => if d = 0 ∨ p > 255 then none else some (orS a p, IntKind.i64.wrap (n + 1))
  | c :: l, a, n, p, d => if c.toNat = 46 then (if d = 0 ∨ p > 255 then none else rqP l (orS a p) (IntKind.i64.wrap (n + 1)) 0 0) else
    if c.toNat < 48 ∨ 57 < c.toNat ∨ d > 2 then none else rqP l a n (IntKind.i64.wrap (IntKind.i64.wrap (10 * p) + IntKind.i64.wrap (IntKind.u8.wrap ((c.toNat : Int) - 48)))) (IntKind.i64.wrap (d + 1))
def dgs : List UInt8 → Int → Int → Option (Int × Int)
  | [], p, d => some (p, d)
  | c :: l, p, d => if c.toNat = 46 ∨ c.toNat < 48 ∨ 57 < c.toNat ∨ d > 2 then none else dgs l (IntKind.i64.wrap (IntKind.i64.wrap (10 * p) + IntKind.i64.wrap (IntKind.u8.wrap ((c.toNat : Int) - 48)))) (IntKind.i64.wrap (d + 1))
theorem rqP_dgs : ∀ (x y : List UInt8) (a n p d p' d' : Int), dgs x p d = some (p', d') → rqP (x ++ y) a n p d = rqP y a n p' d'
  | [], y, a, n, p, d, p', d', h => by
    simp only [dgs, Option.some.injEq, Prod.mk.injEq] at h
    rw [h.1, h.2]; rfl
  | c :: x, y, a, n, p, d, p', d', h => by
    simp only [dgs] at h
    split at h
    · cases h
    · rename_i hc
      simp only [not_or] at hc
      rw [List.cons_append, rqP, if_neg hc.1, if_neg (by simp only [not_or]; exact hc.2)]
      exact rqP_dgs x y a n _ _ p' d' h
theorem dgs_d3' : ∀ b : Fin 256, dgs (d3 b.val) 0 0 = some ((b.val : Int), ((d3 b.val).length : Int)) ∧ 0 < (d3 b.val).length := by decide +kernel
theorem rqP_dot (b : Nat) (hb : b < 256) (y : List UInt8) (a n : Int) : rqP (d3 b ++ 46 :: y) a n 0 0 = rqP y (orS a b) (IntKind.i64.wrap (n + 1)) 0 0 := by
  obtain ⟨h1, h2⟩ := dgs_d3' ⟨b, hb⟩
  simp only at h1 h2
  rw [rqP_dgs _ _ a n 0 0 _ _ h1, rqP, if_pos (by decide), if_neg (by omega)]
theorem rqP_end (b : Nat) (hb : b < 256) (a n : Int) : rqP (d3 b) a n 0 0 = some (orS a b, IntKind.i64.wrap (n + 1)) := by
  obtain ⟨h1, h2⟩ := dgs_d3' ⟨b, hb⟩
  simp only at h1 h2
  have := rqP_dgs (d3 b) [] a n 0 0 _ _ h1
  rw [List.append_nil] at this
  rw [this, rqP, if_neg (by omega)]
theorem rqP_addr (a : Nat) (ha : a < 4294967296) : rqP (addrT a) 0 0 0 0 = some ((a : Int), 4) := by
  rw [addrT_form, rqP_dot _ (by omega), rqP_dot _ (by omega), rqP_dot _ (by omega), rqP_end _ (by omega), orS_addr a ha]
  rfl
theorem rqP_in : ∀ (l : List UInt8) (a n p d a' n' : Int), rqP l a n p d = some (a', n') → InR a' 4294967296
  | [], a, n, p, d, a', n', h => by
    simp only [rqP] at h
    split at h
    · cases h
    · injection h with h; injection h with h1 h2
      rw [← h1]; exact orS_in _ _
  | c :: l, a, n, p, d, a', n', h => by
    simp only [rqP] at h
    split at h
    · split at h
      · cases h
      · exact rqP_in l _ _ _ _ _ _ h
    · split at h
      · cases h
      · exact rqP_in l _ _ _ _ _ _ h
end Go.Proofs.YtkjpbadlbpfpaaaDoor
