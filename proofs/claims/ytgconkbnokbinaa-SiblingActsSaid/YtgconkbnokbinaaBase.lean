/- Growth: nothing that was there has turned, new blocks may have come. Small lemmas for every walk. -/
import Derived.Test.YtgconkbnokbinaaRows
import Derived.WalkKit
import Derived.WalkSpells
import Derived.WalkLawsBesides
import Derived.Deep.RegionHeld3
import Derived.BigQuiet
import Derived.Lib.Hide
import Derived.Laws.StructEq
namespace Go.Proofs.Ytgconkbnokbinaa
open Go.RowKit

theorem ret_int {k : IntKind} {a b : Int} (h : a = b) : Ending.returned (.int k a) = .returned (.int k b) := by rw [h]
theorem ret_bool {a b : Bool} (h : a = b) : Ending.returned (.bool a) = .returned (.bool b) := by rw [h]

/-- w' is w with new blocks (and draws) -/
def Gr (w w' : World) : Prop := Below w.heap.size w w'
theorem Gr.refl (w : World) : Gr w w := Below.refl _ _
theorem Gr.size {w w' : World} (h : Gr w w') : w.heap.size ≤ w'.heap.size := Below.size h
theorem Gr.trans {a b c : World} (h : Gr a b) (k : Gr b c) : Gr a c := Below.trans h (Below.mono k h.size)
theorem Gr.alloc {a w : World} (h : Gr a w) (o : Obj) : Gr a (w.alloc o) := Below.alloc h h.size o
theorem Gr.drew {a w : World} (h : Gr a w) : Gr a w.drew := Below.drew h
theorem Gr.drewN {a w : World} (h : Gr a w) (n : Nat) : Gr a (w.drewN n) := by
  unfold Gr at *
  exact ⟨h.os, h.tape, h.output, h.size, h.block⟩
theorem Gr.setCell {a w : World} (h : Gr a w) {p : Addr} (hp : a.heap.size ≤ p.block) (u : Value) : Gr a (w.setCell p u) := Below.setCell h hp u
theorem Gr.cells {W w1 : World} (hb : Gr W w1) : (∀ b o, b < W.heap.size → w1.cell? ⟨b, o, none⟩ = W.cell? ⟨b, o, none⟩) ∧ (∀ b o, b < W.heap.size → w1.frozen? ⟨b, o, none⟩ = W.frozen? ⟨b, o, none⟩) :=
  ⟨fun b o h => Below.cell hb (p := ⟨b, o, none⟩) h, fun b o h => Below.frozen hb (p := ⟨b, o, none⟩) h⟩
theorem Gr.cell {W w1 : World} (hb : Gr W w1) {p : Addr} {v : Value} (h : W.cell? p = some v) : w1.cell? p = some v := by
  have hp : p.block < W.heap.size := by
    unfold World.cell? at h
    rcases Nat.lt_or_ge p.block W.heap.size with h' | h'
    · exact h'
    · rw [Array.getElem?_eq_none h'] at h; cases h
  rw [Below.cell hb hp]; exact h
theorem lt_of_cell {W : World} {p : Addr} {v : Value} (h : W.cell? p = some v) : p.block < W.heap.size := by
  unfold World.cell? at h
  rcases Nat.lt_or_ge p.block W.heap.size with h' | h'
  · exact h'
  · rw [Array.getElem?_eq_none h'] at h; cases h
/-- a cell that is there stays behind a new block -/
theorem cell_alloc {W : World} {p : Addr} {v : Value} (h : W.cell? p = some v) (o : Obj) : (W.alloc o).cell? p = some v := ((Gr.refl W).alloc o).cell h
theorem cell_drew {W : World} {p : Addr} {v : Value} (h : W.cell? p = some v) : W.drew.cell? p = some v := h
/-- the cells of the block that has just been laid -/
theorem cell_new (W : World) (xs : List Value) (t : TypeId) (i : Nat) (v : Value) (h : xs[i]? = some v) : (W.alloc (.cells xs.toArray t)).cell? ⟨W.heap.size, i, none⟩ = some v := by
  rw [World.cell?_alloc_new]; simpa using h

/-- as Gr, but block b, too, may have turned -/
def Gb (b : Nat) (w w' : World) : Prop := w.grownBy w' (some b)
theorem Gb.refl (b : Nat) (w : World) : Gb b w w := World.grownBy.refl _ _
theorem Gb.of_gr {b : Nat} {a w w' : World} (h : Gb b a w) (k : Gr w w') : Gb b a w' := by
  unfold Gb Gr at *
  exact ⟨k.os.trans h.os, k.tape.trans h.tape, k.output.trans h.output, Nat.le_trans h.size k.size, fun i hi hn => (k.block i (Nat.lt_of_lt_of_le hi h.size)).trans (h.block i hi hn)⟩
theorem Gb.drew {b : Nat} {a w : World} (h : Gb b a w) : Gb b a w.drew := by
  unfold Gb at *
  exact ⟨h.os, h.tape, h.output, h.size, h.block⟩
theorem Gb.setCell {b : Nat} {a w : World} (h : Gb b a w) {p : Addr} (hp : p.block = b) (u : Value) : Gb b a (w.setCell p u) := by
  unfold Gb at *
  exact ⟨h.os, h.tape, h.output, by simpa [World.setCell] using h.size, fun i hi hne => (Below.heap_setCell w p u i (by
    rintro rfl
    exact hne (by rw [hp]))).trans (h.block i hi hne)⟩
theorem Gb.alloc {b : Nat} {a w : World} (h : Gb b a w) (o : Obj) : Gb b a (w.alloc o) := h.of_gr ((Gr.refl w).alloc o)
theorem Gb.cell {b : Nat} {W w1 : World} (hb : Gb b W w1) {p : Addr} (hp : p.block ≠ b) {v : Value} (h : W.cell? p = some v) : w1.cell? p = some v := by
  have hl := lt_of_cell h
  unfold Gb at hb
  rw [World.cell?_of_block (hb.block p.block hl (fun e => hp (by injection e)))]; exact h
theorem Gb.gr {b : Nat} {a W w : World} (h : Gb b W w) (k : Gr a W) (hb : a.heap.size ≤ b) : Gr a w := by
  unfold Gb Gr at *
  exact k.trans ⟨h.os, h.tape, h.output, h.size, fun i hi => h.block i (Nat.lt_of_lt_of_le hi k.size) (fun e => by injection e; omega)⟩

attribute [go_sem] Gr.refl Gr.alloc Gr.drew Gr.drewN

/-- a fact on a cell that holds in every later world -/
theorem has_mono {W W' : World} {p : Addr} {v : Value} (g : Gr W W') (h : ∀ w', Gr W w' → w'.cell? p = some v) : ∀ w', Gr W' w' → w'.cell? p = some v := fun w' k => h w' (g.trans k)
theorem has_cell {W : World} {p : Addr} {v : Value} (h : W.cell? p = some v) : ∀ w', Gr W w' → w'.cell? p = some v := fun _ k => k.cell h
theorem has_new (W : World) (xs : List Value) (t : TypeId) (i : Nat) (v : Value) (h : xs[i]? = some v) : ∀ w', Gr (W.alloc (.cells xs.toArray t)) w' → w'.cell? ⟨W.heap.size, i, none⟩ = some v :=
  has_cell (cell_new W xs t i v h)
theorem frz_new (W : World) (xs : List Value) (t : TypeId) (i : Nat) : ∀ w', Gr (W.alloc (.cells xs.toArray t)) w' → w'.frozen? ⟨W.heap.size, i, none⟩ = false := fun w' k => by
  have e : (W.alloc (.cells xs.toArray t)).frozen? ⟨W.heap.size, i, none⟩ = false := by
    have : (W.alloc (.cells xs.toArray t)).heap[W.heap.size]? = some (.cells xs.toArray t) := by
      show (W.heap.push _)[W.heap.size]? = _
      simp
    unfold World.frozen?
    rw [this]
    simp
  rw [← e]
  exact Below.frozen k (by simp)
theorem frz_mono {W W' : World} {p : Addr} (g : Gr W W') (h : ∀ w', Gr W w' → w'.frozen? p = false) : ∀ w', Gr W' w' → w'.frozen? p = false := fun w' k => h w' (g.trans k)

theorem eqf_nil {P : Program} (w : World) (d : Nat) (xs ys : Array Value) : (Op.eqFields d xs ys []).run P w = .ok true w := rfl
theorem eqf_cons {P : Program} {w : World} {d : Nat} {xs ys : Array Value} {f : Field} {fs : List Field} {a b : Value} {x r : Bool}
    (ha : (part f.type xs f.offset).run P w = .ok a w) (hb : (part f.type ys f.offset).run P w = .ok b w) (hx : (Op.equalIn d f.type a b).run P w = .ok x w)
    (hr : (Op.eqFields d xs ys fs).run P w = .ok r w) (hn : f.name ≠ "_") : (Op.eqFields d xs ys (f :: fs)).run P w = .ok (x && r) w := by
  simp only [Op.eqFields, hn, ne_eq, not_false_eq_true, if_true, Sem.run_bind, ha, hb, hx, Result.andThen_ok]
  cases x
  · simp
  · simpa using hr
end Go.Proofs.Ytgconkbnokbinaa
