/- A source of bytes. -/
import Derived.Test.YtkjpbadlbpfpaaaDoorWire
import Derived.Test.YtkjpbadlbpfpaaaDoorBlock
namespace Go.Proofs.YtkjpbadlbpfpaaaDoor
open Go.RowKit

/-- a source of the bytes l (they lie in block vb), behind 'at' others, with an error or none -/
def Src (w : World) (g : Nat) (vb : Option Nat) (l : List Nat) (at_ : Int) (e : Int) : Prop :=
  ∃ v, Blk w g 73 [.bool true, v, .int .i64 at_, .int .i64 e] ∧ Rd w 1 v l.length (u8s l) ∧ blockOf v = vb ∧ vb ≠ some g
theorem Src.gr {w w' : World} {g : Nat} {vb : Option Nat} {l : List Nat} {at_ e : Int} (k : Gr w w') (h : Src w g vb l at_ e) : Src w' g vb l at_ e := by
  obtain ⟨v, h1, h2, h3⟩ := h
  exact ⟨v, h1.gr k, h2.gr k, h3⟩
theorem Src.gb {b : Nat} {w w' : World} {g : Nat} {vb : Option Nat} {l : List Nat} {at_ e : Int} (k : Gb b w w') (hn : g ≠ b) (hb : vb ≠ some b) (h : Src w g vb l at_ e) : Src w' g vb l at_ e := by
  obtain ⟨v, h1, h2, rfl, h3⟩ := h
  exact ⟨v, h1.gb k hn, h2.gb k hb, rfl, h3⟩

/-! ### slices.Clone of bytes -/
set_option maxHeartbeats 400000 in
theorem clone8 (v : Value) (n : Nat) (bs : List Value) (h1 : ∀ u ∈ bs, u.oneCell' = true) (hn : n ≤ 70368744177664) (w : World) (hb : Rd w 1 v n bs) :
    Calls Tryd.prog 42 #[v] w (Rets w fun v' w' => w'.ownsRow w.heap.size 5 1 v' n bs) := by
  obtain ⟨i0, hi, hz0, hz1, hz2⟩ := info_parts info_u8
  have hi' := Lib.hid hi
  clear hi
  have HB := Lib.hid hb
  have H1 := Lib.hid h1
  obtain ⟨hl, p, c, rfl, _, _, h4, _⟩ := hb
  have heq := fun W => Lib.run_eql_slice_nil (P := Tryd.prog) W 36 5 p n c 0 0 Tryd.underlying36
  cases p with
  | none =>
    obtain ⟨rfl, rfl⟩ := h4 rfl
    have : bs = [] := List.eq_nil_of_length_eq_zero (by simpa using hl)
    subst this
    clear h4 hl h1
    go_enter Tryd.func42, Tryd.ntmps42
    go_wp2
    go_ret
    exact Rets.mk (Gr.refl w) (World.ownsRow_nil _ _ _ _)
  | some ad =>
    clear h4 hl h1
    go_enter Tryd.func42, Tryd.ntmps42
    go_wp2_with (at_builtin; refine wpL_app w.heap.size 5 i0 (.int .u8 0) 1 1 Tryd.underlying36 hi'.out hz0 hz1 hz2 rfl (by decide) _ 0 [] (by rfl) (own_lit w [] 5 1 0 w.heap.size (Nat.le_refl _) rfl (by decide)) _ n bs (by rfl) (HB.out.gr ((Gr.refl _).alloc _)) H1.out (by unfold maxLen; omega) (by omega) (by simp) (fun v1 w1 own1 gb1 => ?_))
    go_ret
    exact Rets.mk (gr_grown ((Gr.refl w).alloc _) (Nat.le_refl _) (own_lit w [] 5 1 0 w.heap.size (Nat.le_refl _) rfl (by decide)) gb1) (by simpa using own1)
end Go.Proofs.YtkjpbadlbpfpaaaDoor
