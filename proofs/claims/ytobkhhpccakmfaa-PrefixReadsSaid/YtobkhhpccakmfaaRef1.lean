/- The reference's source of bytes. -/
import Derived.Test.YtobkhhpccakmfaaParse
namespace Go.Proofs.Ytobkhhpccakmfaa
open Go.RowKit

/-- the reference's source, of which the bytes l are left (all lie in block vb) -/
def RS (w : World) (g : Nat) (vb : Option Nat) (l : List Nat) (e : Int) : Prop :=
  ∃ (v : Value) (L : List Nat) (N : Nat), Blk w g 62 [v, .int .i64 N, .int .i64 e] ∧ Rd w 1 v L.length (u8s L) ∧ N ≤ L.length ∧ L.length ≤ 1000 ∧ l = L.drop N ∧ blockOf v = vb ∧ vb ≠ some g
theorem RS.gr {w w' : World} {g : Nat} {vb : Option Nat} {l : List Nat} {e : Int} (k : Gr w w') (h : RS w g vb l e) : RS w' g vb l e := by
  obtain ⟨v, L, N, h1, h2, h3⟩ := h
  exact ⟨v, L, N, h1.gr k, h2.gr k, h3⟩
theorem RS.gb {b : Nat} {w w' : World} {g : Nat} {vb : Option Nat} {l : List Nat} {e : Int} (k : Gb b w w') (hn : g ≠ b) (hb : vb ≠ some b) (h : RS w g vb l e) : RS w' g vb l e := by
  obtain ⟨v, L, N, h1, h2, h3, h4, h5, rfl, h6⟩ := h
  exact ⟨v, L, N, h1.gb k hn, h2.gb k hb, h3, h4, h5, rfl, h6⟩
theorem RS.lt {w : World} {g : Nat} {vb : Option Nat} {l : List Nat} {e : Int} (h : RS w g vb l e) : g < w.heap.size := by
  obtain ⟨v, L, N, h1, _⟩ := h
  exact h1.lt
theorem RS.grown {w w' : World} {g : Nat} {vb : Option Nat} {l : List Nat} {e : Int} {base : Nat} {t : TypeId} {size : Nat} {v : Value} {n : Nat} {xs : List Value} (own : w.ownsRow base t size v n xs) (k : w.grownBy w' v.ownBlock)
    (hg : g < base) (hvb : ∀ b, vb = some b → b < base) (h : RS w g vb l e) : RS w' g vb l e := by
  rcases own.2 with ⟨rfl, _⟩ | ⟨j, cap, cur, rfl, hj, _⟩
  · refine h.gb (b := base) ⟨k.os, k.tape, k.output, k.size, fun i hi _ => k.block i hi (by intro e; cases e)⟩ (by omega) (fun hh => by have := hvb _ hh; omega)
  · exact h.gb (b := j) k (by omega) (fun hh => by have := hvb _ hh; omega)

/-- s[i:i+k] -/
theorem run_slp_mid {P : Program} {t e : TypeId} (ht : P.underlying t = some (.slice e)) (size : Nat) (hs : (P.info? e).map (·.size) = some size) (p : Option Addr) (n c i k : Nat) (w : World) (hk : i + k ≤ c) :
    (Instr.slice t (.slice p n c) (some (.int .i64 (i : Int))) (some (.int .i64 ((i : Int) + (k : Int)))) none).run P w = .ok (.slice (tailP p c i size) k (c - i)) w := by
  have h3 : (i : Int) + k ≤ c := by omega
  have h4 : ((i : Int) + (k : Int)).toNat = i + k := by omega
  cases hi : P.info? e with
  | none => simp [hi] at hs
  | some j =>
    simp [hi] at hs
    by_cases h0 : c = i
    · simp [Instr.slice, Instr.sliceBounds, run_underlying ht, go_sem, sizeOf, typeInfo, hi, h4, h0, tailP]
      omega
    · simp [Instr.slice, Instr.sliceBounds, run_underlying ht, go_sem, sizeOf, typeInfo, hi, h3, h4, h0, hs, tailP]
      intro hh; omega
@[go_sem high] theorem slp_mid_u8 (p : Option Addr) (n c i k : Nat) (w : World) (hk : i + k ≤ c) : (Instr.slice 34 (.slice p n c) (some (.int .i64 (i : Int))) (some (.int .i64 ((i : Int) + (k : Int)))) none).run Try.prog w = .ok (.slice (tailP p c i 1) k (c - i)) w :=
  run_slp_mid Try.underlying34 1 (by kernel_rfl) p n c i k w hk
@[go_sem high] theorem slp_mid0_u8 (b o n c k : Nat) (w : World) (hk : k ≤ c) : (Instr.slice 34 (.slice (some ⟨b, o, none⟩) n c) (some (.int .i64 0)) (some (.int .i64 (k : Int))) none).run Try.prog w = .ok (.slice (some ⟨b, o, none⟩) k c) w := by
  have h := slp_mid_u8 (some ⟨b, o, none⟩) n c 0 k w (by omega)
  simpa [tailP, Addr.add] using h
theorem Rd.mid {w : World} {p : Option Addr} {size n c i k : Nat} {xs : List Value} (h : Rd w size (.slice p n c) n xs) (hk : i + k ≤ n) : Rd w size (.slice (tailP p c i size) k (c - i)) k ((xs.drop (i * size)).take (k * size)) := by
  have h1 := h.tail (k := i) (by omega)
  exact h1.head (by omega)

set_option maxHeartbeats 400000 in
theorem rread1 (v : Value) (l : List Nat) (hn : l.length ≤ 1000) (w : World) (hr : Rd w 1 v l.length (u8s l)) :
    Calls Try.prog 23 #[v] w fun r w' => ∃ g vb, r = .returned (.pointer (some ⟨g, 0, none⟩)) ∧ w.heap.size ≤ g ∧ RS w' g vb l 0 ∧ (∀ b, vb = some b → w.heap.size ≤ b ∧ b < g) ∧ Gr w w' := by
  obtain ⟨i0, hi, hz0, hz1, hz2⟩ := info_parts info_u8
  have hi' := Lib.hid hi
  clear hi
  have HR := Lib.hid hr
  obtain ⟨_, p, c, rfl, _⟩ := hr
  go_enter Try.func23, Try.ntmps23
  go_wp2_with (at_builtin; go_loud (refine wpL_app w.heap.size 5 i0 (.int .u8 0) 1 1 Try.underlying34 hi'.out hz0 hz1 hz2 rfl (by decide) _ 0 [] (by rfl) (own_lit w [] 5 1 0 w.heap.size (Nat.le_refl _) rfl (by decide)) _ l.length _ (by rfl) (HR.out.gr ((Gr.refl _).alloc _)) (u8s_one _) (by unfold maxLen; omega) (by omega) (by simp) (fun v1 w1 own1 gb1 => ?_)); have rd1 := Rd.of_own own1; obtain ⟨_, p1, c1, rfl, _⟩ := rd1)
  go_ret
  have own0 := own_lit w [] 5 1 0 w.heap.size (Nat.le_refl _) rfl (by decide)
  have g1 := gr_grown ((Gr.refl w).alloc _) (Nat.le_refl _) own0 gb1
  have rd := Rd.of_own own1
  simp only [Nat.zero_add, List.nil_append] at rd own1
  have hn1 : ∀ b, blockOf (.slice p1 l.length c1) = some b → w.heap.size ≤ b ∧ b < w1.heap.size := fun b hh => by
    cases p1 with
    | none => cases hh
    | some a =>
      have := own1.lt a.block (by rfl)
      simp only [blockOf, Option.some.injEq] at hh
      omega
  exact ⟨w1.heap.size, _, rfl, g1.size, ⟨_, l, 0, Blk.new w1 _ [_, _, _], rd.gr ((Gr.refl w1).alloc _), Nat.zero_le _, hn, rfl, rfl, fun hh => by have := hn1 _ (by simpa using hh); omega⟩, fun b hh => hn1 b (by simpa using hh), g1.alloc _⟩
end Go.Proofs.Ytobkhhpccakmfaa
