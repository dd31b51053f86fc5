/- A block known whole. -/
import Derived.Test.YtgconkbnokbinaaMem
namespace Go.Proofs.Ytgconkbnokbinaa
open Go.RowKit

/-- block g holds just these cells -/
def Blk (w : World) (g : Nat) (t : TypeId) (xs : List Value) : Prop := w.heap[g]? = some (.cells xs.toArray t (0, 0))
theorem Blk.lt {w : World} {g : Nat} {t : TypeId} {xs : List Value} (h : Blk w g t xs) : g < w.heap.size := (Array.getElem?_eq_some_iff.1 h).1
theorem Blk.cell {w : World} {g : Nat} {t : TypeId} {xs : List Value} (h : Blk w g t xs) {i : Nat} {v : Value} (hv : xs[i]? = some v) : w.cell? ⟨g, i, none⟩ = some v := by
  unfold Blk at h
  unfold World.cell?
  simp [h, hv]
theorem Blk.frz {w : World} {g : Nat} {t : TypeId} {xs : List Value} (h : Blk w g t xs) (i : Nat) : w.frozen? ⟨g, i, none⟩ = false := by
  unfold Blk at h
  unfold World.frozen?
  simp [h]
theorem Blk.gr {w w' : World} {g : Nat} {t : TypeId} {xs : List Value} (k : Gr w w') (h : Blk w g t xs) : Blk w' g t xs := by
  have := Below.block k g h.lt
  unfold Blk at *
  rw [this]; exact h
theorem Blk.gb {b : Nat} {w w' : World} {g : Nat} {t : TypeId} {xs : List Value} (k : Gb b w w') (hn : g ≠ b) (h : Blk w g t xs) : Blk w' g t xs := by
  have := World.grownBy.block k g h.lt (by simpa using hn)
  unfold Blk at *
  rw [this]; exact h
theorem Blk.drew {w : World} {g : Nat} {t : TypeId} {xs : List Value} (h : Blk w g t xs) : Blk w.drew g t xs := h
theorem Blk.set {w : World} {g : Nat} {t : TypeId} {xs : List Value} (h : Blk w g t xs) (i : Nat) (v : Value) : Blk (w.setCell ⟨g, i, none⟩ v) g t (xs.set i v) := by
  unfold Blk at *
  rw [heap_setCell_same w g i _ t v h]
  simp
theorem Blk.new (w : World) (t : TypeId) (xs : List Value) : Blk (w.alloc (.cells xs.toArray t)) w.heap.size t xs := heap_alloc_new w _

/-- the block of a slice's row -/
def blockOf : Value → Option Nat
  | .slice (some a) _ _ => some a.block
  | _ => none
theorem Rd.gb {b : Nat} {w w' : World} {size : Nat} {v : Value} {n : Nat} {xs : List Value} (k : Gb b w w') (hb : blockOf v ≠ some b) (h : Rd w size v n xs) : Rd w' size v n xs := by
  obtain ⟨h1, p, c, rfl, h2, h3, h4, h5⟩ := h
  refine ⟨h1, p, c, rfl, h2, h3, h4, fun ad ha => ⟨(h5 ad ha).1, fun j u hu => Gb.cell k (p := ⟨ad.block, ad.off + j, none⟩) ?_ ((h5 ad ha).2 j u hu)⟩⟩
  subst ha
  intro e
  exact hb (by simp only [blockOf]; exact congrArg some e)
theorem Gb.of_set {b : Nat} {w : World} (i : Nat) (v : Value) : Gb b w (w.setCell ⟨b, i, none⟩ v) := (Gb.refl b w).setCell rfl v
theorem Gb.trans {b : Nat} {x y z : World} (h : Gb b x y) (k : Gb b y z) : Gb b x z := by
  unfold Gb at *
  exact ⟨k.os.trans h.os, k.tape.trans h.tape, k.output.trans h.output, Nat.le_trans h.size k.size, fun i hi hn => (k.block i (Nat.lt_of_lt_of_le hi h.size) hn).trans (h.block i hi hn)⟩
theorem Gb.size' {b : Nat} {w w' : World} (h : Gb b w w') : w.heap.size ≤ w'.heap.size := World.grownBy.size h
theorem Gb.of {b : Nat} {w w' : World} (k : Gr w w') : Gb b w w' := (Gb.refl b w).of_gr k
theorem Gb.has {b : Nat} {W w1 : World} {p : Addr} {v : Value} (hp : p.block ≠ b) (h : W.cell? p = some v) (k : Gb b W w1) : w1.cell? p = some v := Gb.cell k hp h

end Go.Proofs.Ytgconkbnokbinaa
