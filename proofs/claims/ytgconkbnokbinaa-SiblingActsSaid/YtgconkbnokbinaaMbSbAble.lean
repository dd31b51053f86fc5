/- Siblings: what able gives, plainly. -/
import Derived.Test.YtgconkbnokbinaaMbSbAdd
namespace Go.Proofs.Ytgconkbnokbinaa
open Go.RowKit Go.Maps Go.Sort

/-- better: less cost, then the lower number -/
def leS (a b : SiT) : Bool := decide (a.2.2 < b.2.2) || (decide (a.2.2 = b.2.2) && decide (a.1 ≤ b.1))
def canS (R : RpM) (n : Int) (s : SiT) : Bool := decide (0 < capR R s.1 n)
def ableL (S : List SiT) (R : RpM) (n : Int) : List SiT := (byId S).filter (canS R n)
def ableS (S : List SiT) (R : RpM) (n : Int) : List SiT := (ableL S R n).mergeSort leS
theorem able_step {l : List SiT} {R : RpM} {n : Int} {j : Nat} {s : SiT} (h : l[j]? = some s) : (l.take (j + 1)).filter (canS R n) = (l.take j).filter (canS R n) ++ (if canS R n s then [s] else []) := by
  rw [List.take_add_one, h, List.filter_append]
  cases hc : canS R n s <;> simp [hc]
theorem able_len (l : List SiT) (R : RpM) (n : Int) (j : Nat) : ((l.take j).filter (canS R n)).length ≤ l.length := Nat.le_trans (List.length_filter_le _ _) (by simp; omega)
theorem leS_total (a b : SiT) : (leS a b || leS b a) = true := by
  simp only [leS, Bool.or_eq_true, Bool.and_eq_true, decide_eq_true_eq]; omega
theorem leS_trans (a b c : SiT) (h1 : leS a b = true) (h2 : leS b c = true) : leS a c = true := by
  simp only [leS, Bool.or_eq_true, Bool.and_eq_true, decide_eq_true_eq] at *; omega
end Go.Proofs.Ytgconkbnokbinaa
