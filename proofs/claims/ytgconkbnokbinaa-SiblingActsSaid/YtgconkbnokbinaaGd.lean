/- Memory made alone, and draws: what a sort asks of a comparison. For any program. -/
import Derived.Test.YtgconkbnokbinaaBase
import Derived.Sort.Grow
namespace Go.Proofs.Ytgconkbnokbinaa
open Go.RowKit

/-- memory made alone, and draws -/
def Gd (w w' : World) : Prop := Gr w w' ∧ w.drawn ≤ w'.drawn
theorem Gd.grow {w w' : World} (h : Gd w w') : ∃ q os, w' = Go.Sort.grow (w.drewN q) os := by
  obtain ⟨g, hd⟩ := h
  unfold Gr at g
  refine ⟨w'.drawn - w.drawn, w'.heap.extract w.heap.size w'.heap.size, ?_⟩
  have hh : w'.heap = w.heap ++ w'.heap.extract w.heap.size w'.heap.size := by
    apply Array.ext_getElem?
    intro i
    by_cases hi : i < w.heap.size
    · rw [Array.getElem?_append_left hi, g.block i hi]
    · rw [Array.getElem?_append_right (by omega), Array.getElem?_extract]
      by_cases hi2 : i < w'.heap.size
      · rw [if_pos (by simp; omega), show w.heap.size + (i - w.heap.size) = i by omega]
      · rw [if_neg (by omega), Array.getElem?_eq_none (by omega)]
  have ho := g.os; have ht := g.tape; have hp := g.output
  cases w'; cases w
  simp only [Go.Sort.grow, World.drewN] at *
  subst ho ht hp
  congr 1
  omega
theorem Gd.alloc {a w : World} (h : Gd a w) (o : Obj) : Gd a (w.alloc o) := ⟨h.1.alloc o, h.2⟩
theorem Gd.drew {a w : World} (h : Gd a w) : Gd a w.drew := ⟨h.1.drew, Nat.le_trans h.2 (Nat.le_succ _)⟩
theorem Gd.refl (w : World) : Gd w w := ⟨Gr.refl w, Nat.le_refl _⟩
theorem Gd.trans {a b c : World} (h : Gd a b) (k : Gd b c) : Gd a c := ⟨h.1.trans k.1, Nat.le_trans h.2 k.2⟩
end Go.Proofs.Ytgconkbnokbinaa
