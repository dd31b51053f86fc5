/- A block known whole; a source of bytes. -/
import Derived.Test.YtobkhhpccakmfaaWire
namespace Go.Proofs.Ytobkhhpccakmfaa
open Go.RowKit

/-- block g holds just these cells -/
def Blk (w : World) (g : Nat) (t : TypeId) (xs : List Value) : Prop := w.heap[g]? = some (.cells xs.toArray t (0, 0))
theorem Blk.lt {w : World} {g : Nat} {t : TypeId} {xs : List Value} (h : Blk w g t xs) : g < w.heap.size := (Array.getElem?_eq_some_iff.1 h).1
theorem Blk.cell {w : World} {g : Nat} {t : TypeId} {xs : List Value} (h : Blk w g t xs) {i : Nat} {v : Value} (hv : xs[i]? = some v) : w.cell? ⟨g, i, none⟩ = some v := by
  unfold Blk at h
  unfold World.cell?
  simp [h, hv]
theorem Blk.frz {w : World} {g : Nat} {t : TypeId} {xs : List Value} (h : Blk w g t xs) (i : Nat) : w.frozen? ⟨g, i, none⟩ = false := by
  unfold Blk at h
  unfold World.frozen?
  simp [h]
theorem Blk.gr {w w' : World} {g : Nat} {t : TypeId} {xs : List Value} (k : Gr w w') (h : Blk w g t xs) : Blk w' g t xs := by
  have := Below.block k g h.lt
  unfold Blk at *
  rw [this]; exact h
theorem Blk.gb {b : Nat} {w w' : World} {g : Nat} {t : TypeId} {xs : List Value} (k : Gb b w w') (hn : g ≠ b) (h : Blk w g t xs) : Blk w' g t xs := by
  have := World.grownBy.block k g h.lt (by simpa using hn)
  unfold Blk at *
  rw [this]; exact h
theorem Blk.drew {w : World} {g : Nat} {t : TypeId} {xs : List Value} (h : Blk w g t xs) : Blk w.drew g t xs := h
theorem Blk.set {w : World} {g : Nat} {t : TypeId} {xs : List Value} (h : Blk w g t xs) (i : Nat) (v : Value) : Blk (w.setCell ⟨g, i, none⟩ v) g t (xs.set i v) := by
  unfold Blk at *
  rw [heap_setCell_same w g i _ t v h]
  simp
theorem Blk.new (w : World) (t : TypeId) (xs : List Value) : Blk (w.alloc (.cells xs.toArray t)) w.heap.size t xs := heap_alloc_new w _

/-- the block of a slice's row -/
def blockOf : Value → Option Nat
  | .slice (some a) _ _ => some a.block
  | _ => none
theorem Rd.gb {b : Nat} {w w' : World} {size : Nat} {v : Value} {n : Nat} {xs : List Value} (k : Gb b w w') (hb : blockOf v ≠ some b) (h : Rd w size v n xs) : Rd w' size v n xs := by
  obtain ⟨h1, p, c, rfl, h2, h3, h4, h5⟩ := h
  refine ⟨h1, p, c, rfl, h2, h3, h4, fun ad ha => ⟨(h5 ad ha).1, fun j u hu => Gb.cell k (p := ⟨ad.block, ad.off + j, none⟩) ?_ ((h5 ad ha).2 j u hu)⟩⟩
  subst ha
  intro e
  exact hb (by simp only [blockOf]; exact congrArg some e)
theorem Gb.of_set {b : Nat} {w : World} (i : Nat) (v : Value) : Gb b w (w.setCell ⟨b, i, none⟩ v) := (Gb.refl b w).setCell rfl v
theorem Gb.trans {b : Nat} {x y z : World} (h : Gb b x y) (k : Gb b y z) : Gb b x z := by
  unfold Gb at *
  exact ⟨k.os.trans h.os, k.tape.trans h.tape, k.output.trans h.output, Nat.le_trans h.size k.size, fun i hi hn => (k.block i (Nat.lt_of_lt_of_le hi h.size) hn).trans (h.block i hi hn)⟩
theorem Gb.size' {b : Nat} {w w' : World} (h : Gb b w w') : w.heap.size ≤ w'.heap.size := World.grownBy.size h
theorem Gb.of {b : Nat} {w w' : World} (k : Gr w w') : Gb b w w' := (Gb.refl b w).of_gr k
theorem Gb.has {b : Nat} {W w1 : World} {p : Addr} {v : Value} (hp : p.block ≠ b) (h : W.cell? p = some v) (k : Gb b W w1) : w1.cell? p = some v := Gb.cell k hp h

/-- a source of the bytes l (they lie in block vb), behind 'at' others, with an error or none -/
def Src (w : World) (g : Nat) (vb : Option Nat) (l : List Nat) (at_ : Int) (e : Int) : Prop :=
  ∃ v, Blk w g 60 [.bool true, v, .int .i64 at_, .int .i64 e] ∧ Rd w 1 v l.length (u8s l) ∧ blockOf v = vb ∧ vb ≠ some g
theorem Src.gr {w w' : World} {g : Nat} {vb : Option Nat} {l : List Nat} {at_ e : Int} (k : Gr w w') (h : Src w g vb l at_ e) : Src w' g vb l at_ e := by
  obtain ⟨v, h1, h2, h3⟩ := h
  exact ⟨v, h1.gr k, h2.gr k, h3⟩
theorem Src.gb {b : Nat} {w w' : World} {g : Nat} {vb : Option Nat} {l : List Nat} {at_ e : Int} (k : Gb b w w') (hn : g ≠ b) (hb : vb ≠ some b) (h : Src w g vb l at_ e) : Src w' g vb l at_ e := by
  obtain ⟨v, h1, h2, rfl, h3⟩ := h
  exact ⟨v, h1.gb k hn, h2.gb k hb, rfl, h3⟩

/-! ### slices.Clone of bytes -/
set_option maxHeartbeats 400000 in
theorem clone8 (v : Value) (n : Nat) (bs : List Value) (h1 : ∀ u ∈ bs, u.oneCell' = true) (hn : n ≤ 70368744177664) (w : World) (hb : Rd w 1 v n bs) :
    Calls Try.prog 37 #[v] w (Rets w fun v' w' => w'.ownsRow w.heap.size 5 1 v' n bs) := by
  obtain ⟨i0, hi, hz0, hz1, hz2⟩ := info_parts info_u8
  have hi' := Lib.hid hi
  clear hi
  have HB := Lib.hid hb
  have H1 := Lib.hid h1
  obtain ⟨hl, p, c, rfl, _, _, h4, _⟩ := hb
  have heq := fun W => Lib.run_eql_slice_nil (P := Try.prog) W 34 5 p n c 0 0 Try.underlying34
  cases p with
  | none =>
    obtain ⟨rfl, rfl⟩ := h4 rfl
    have : bs = [] := List.eq_nil_of_length_eq_zero (by simpa using hl)
    subst this
    clear h4 hl h1
    go_enter Try.func37, Try.ntmps37
    go_wp2
    go_ret
    exact Rets.mk (Gr.refl w) (World.ownsRow_nil _ _ _ _)
  | some ad =>
    clear h4 hl h1
    go_enter Try.func37, Try.ntmps37
    go_wp2_with (at_builtin; refine wpL_app w.heap.size 5 i0 (.int .u8 0) 1 1 Try.underlying34 hi'.out hz0 hz1 hz2 rfl (by decide) _ 0 [] (by rfl) (own_lit w [] 5 1 0 w.heap.size (Nat.le_refl _) rfl (by decide)) _ n bs (by rfl) (HB.out.gr ((Gr.refl _).alloc _)) H1.out (by unfold maxLen; omega) (by omega) (by simp) (fun v1 w1 own1 gb1 => ?_))
    go_ret
    exact Rets.mk (gr_grown ((Gr.refl w).alloc _) (Nat.le_refl _) (own_lit w [] 5 1 0 w.heap.size (Nat.le_refl _) rfl (by decide)) gb1) (by simpa using own1)
end Go.Proofs.Ytobkhhpccakmfaa
