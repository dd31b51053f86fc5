/- A source of bytes: what its calls do. -/
import Derived.Test.YtkjpbadlbpfpaaaDoorQBlk
namespace Go.Proofs.YtkjpbadlbpfpaaaDoor
open Go.RowKit

/-- where s[k:] begins -/
def tailP (p : Option Addr) (c k size : Nat) : Option Addr := if c = k then p else p.map (·.add (k * size))

theorem run_slp_hi {P : Program} {t e : TypeId} (ht : P.underlying t = some (.slice e)) (hs : (P.info? e).isSome = true) (p : Option Addr) (n c k : Nat) (w : World) (hk : k ≤ c) :
    (Instr.slice t (.slice p n c) none (some (.int .i64 (k : Int))) none).run P w = .ok (.slice p k c) w := by
  have h2 : (k : Int) ≤ c := by omega
  cases hi : P.info? e with
  | none => simp [hi] at hs
  | some i => simp [Instr.slice, Instr.sliceBounds, run_underlying ht, go_sem, sizeOf, typeInfo, hi, h2]
theorem run_slp_hm {P : Program} {t e : TypeId} (ht : P.underlying t = some (.slice e)) (hs : (P.info? e).isSome = true) (p : Option Addr) (n c k : Nat) (w : World) (hk : k ≤ c) :
    (Instr.slice t (.slice p n c) none (some (.int .i64 (k : Int))) (some (.int .i64 (k : Int)))).run P w = .ok (.slice p k k) w := by
  have h2 : (k : Int) ≤ c := by omega
  cases hi : P.info? e with
  | none => simp [hi] at hs
  | some i => simp [Instr.slice, Instr.sliceBounds, run_underlying ht, go_sem, sizeOf, typeInfo, hi, h2]
theorem run_slp_lo {P : Program} {t e : TypeId} (ht : P.underlying t = some (.slice e)) (size : Nat) (hs : (P.info? e).map (·.size) = some size) (p : Option Addr) (n c k : Nat) (w : World) (hk : k ≤ n) :
    (Instr.slice t (.slice p n c) (some (.int .i64 (k : Int))) none none).run P w = .ok (.slice (tailP p c k size) (n - k) (c - k)) w := by
  have h2 : (k : Int) ≤ n := by omega
  cases hi : P.info? e with
  | none => simp [hi] at hs
  | some i =>
    simp [hi] at hs
    by_cases h0 : c = k
    · simp [Instr.slice, Instr.sliceBounds, run_underlying ht, go_sem, sizeOf, typeInfo, hi, h2, h0, tailP]
    · simp [Instr.slice, Instr.sliceBounds, run_underlying ht, go_sem, sizeOf, typeInfo, hi, h2, h0, hs, tailP]
@[go_sem high] theorem slp_hi_u8 (p : Option Addr) (n c k : Nat) (w : World) (hk : k ≤ c) : (Instr.slice 36 (.slice p n c) none (some (.int .i64 (k : Int))) none).run Tryd.prog w = .ok (.slice p k c) w :=
  run_slp_hi Tryd.underlying36 (by kernel_rfl) p n c k w hk
@[go_sem high] theorem slp_hm_u8 (p : Option Addr) (n c k : Nat) (w : World) (hk : k ≤ c) : (Instr.slice 36 (.slice p n c) none (some (.int .i64 (k : Int))) (some (.int .i64 (k : Int)))).run Tryd.prog w = .ok (.slice p k k) w :=
  run_slp_hm Tryd.underlying36 (by kernel_rfl) p n c k w hk
@[go_sem high] theorem slp_lo_u8 (p : Option Addr) (n c k : Nat) (w : World) (hk : k ≤ n) : (Instr.slice 36 (.slice p n c) (some (.int .i64 (k : Int))) none none).run Tryd.prog w = .ok (.slice (tailP p c k 1) (n - k) (c - k)) w :=
  run_slp_lo Tryd.underlying36 1 (by kernel_rfl) p n c k w hk

theorem Rd.head3 {w : World} {p : Option Addr} {size n c k : Nat} {xs : List Value} (h : Rd w size (.slice p n c) n xs) (hk : k ≤ n) : Rd w size (.slice p k k) k (xs.take (k * size)) := by
  obtain ⟨hl, q, d, hv, h2, h3, h4, h5⟩ := h
  injection hv with e1 e2 e3
  subst e1 e3
  refine ⟨by rw [List.length_take, hl]; exact Nat.min_eq_left (Nat.mul_le_mul_right _ hk), p, k, rfl, Nat.le_refl _, by omega, fun hp => ⟨by have := (h4 hp).1; omega, by have := (h4 hp).1; omega⟩, fun ad ha => ⟨(h5 ad ha).1, fun j u hu => ?_⟩⟩
  rw [List.getElem?_take] at hu
  split at hu
  · exact (h5 ad ha).2 j u hu
  · cases hu
theorem Rd.tail {w : World} {p : Option Addr} {size n c k : Nat} {xs : List Value} (h : Rd w size (.slice p n c) n xs) (hk : k ≤ n) : Rd w size (.slice (tailP p c k size) (n - k) (c - k)) (n - k) (xs.drop (k * size)) := by
  obtain ⟨hl, q, d, hv, h2, h3, h4, h5⟩ := h
  injection hv with e1 e2 e3
  subst e1 e3
  refine ⟨by rw [List.length_drop, hl, Nat.sub_mul], _, _, rfl, by omega, by omega, fun hp => ?_, fun ad ha => ?_⟩
  · unfold tailP at hp
    split at hp
    · have := h4 hp; omega
    · cases p with
      | none => have := h4 rfl; omega
      | some ad => simp at hp
  · unfold tailP at ha
    split at ha
    · subst ha
      refine ⟨(h5 ad rfl).1, fun j u hu => ?_⟩
      have hz : n - k = 0 := by omega
      rw [List.drop_eq_nil_of_le (by rw [hl]; exact Nat.mul_le_mul_right _ (by omega))] at hu
      cases hu
    · cases p with
      | none => cases ha
      | some a0 =>
        obtain ⟨b, o, s⟩ := a0
        obtain ⟨hs, hc⟩ := h5 _ rfl
        simp only at hs hc
        subst hs
        simp only [Option.map_some, Option.some.injEq] at ha
        have hadd : (⟨b, o, none⟩ : Addr).add (k * size) = ⟨b, o + k * size, none⟩ := by unfold Addr.add; split <;> simp_all
        rw [hadd] at ha
        subst ha
        refine ⟨rfl, fun j u hu => ?_⟩
        rw [List.getElem?_drop] at hu
        have := hc _ u hu
        simpa [Nat.add_assoc] using this
theorem blockOf_tail (p : Option Addr) (n c k size n' c' : Nat) : blockOf (.slice (tailP p c k size) n' c') = blockOf (.slice p n c) := by
  unfold tailP
  split
  · cases p <;> rfl
  · cases p with
    | none => rfl
    | some a => simp only [Option.map_some, blockOf, Addr.add]; split <;> rfl
theorem blockOf_head (p : Option Addr) (n c n' c' : Nat) : blockOf (.slice p n' c') = blockOf (.slice p n c) := by cases p <;> rfl

theorem sok (g : Nat) (v : Value) (at_ e : Int) (w : World) (h : Blk w g 73 [.bool true, v, .int .i64 at_, .int .i64 e]) :
    Calls Tryd.prog 43 #[.pointer (some ⟨g, 0, none⟩)] w fun r w' => r = .returned (.bool (e == 0)) ∧ w = w' := by
  have c0 := h.cell (i := 0) rfl
  have c3 := h.cell (i := 3) rfl
  clear h
  go_enter Tryd.func43, Tryd.ntmps43
  go_wp2
  go_ret
  exact ⟨rfl, rfl⟩
theorem serr (g : Nat) (v : Value) (at_ e : Int) (w : World) (h : Blk w g 73 [.bool true, v, .int .i64 at_, .int .i64 e]) :
    Calls Tryd.prog 45 #[.pointer (some ⟨g, 0, none⟩)] w fun r w' => r = .returned (.int .i64 e) ∧ w = w' := by
  have c0 := h.cell (i := 0) rfl
  have c3 := h.cell (i := 3) rfl
  clear h
  go_enter Tryd.func45, Tryd.ntmps45
  go_wp2
  go_ret
  exact ⟨rfl, rfl⟩
/-- what Left answers -/
def leftN (n : Nat) (e : Int) : Int := if e = 0 then (n : Int) else 0
theorem sleft (g : Nat) (vb : Option Nat) (l : List Nat) (at_ e : Int) (w : World) (h : Src w g vb l at_ e) :
    Calls Tryd.prog 29 #[.pointer (some ⟨g, 0, none⟩)] w fun r w' => r = .returned (.int .i64 (leftN l.length e)) ∧ w = w' := by
  obtain ⟨v, hb, hr, _⟩ := h
  have HO := Lib.hid (sok g v at_ e w hb)
  have c1 := hb.cell (i := 1) rfl
  obtain ⟨_, p, c, rfl, _⟩ := hr
  clear hb
  by_cases he : e = 0
  · have e1 := Lib.hid (show leftN l.length e = (l.length : Int) by simp [leftN, he])
    have e2 : (e == 0) = true := by simpa using he
    rw [e2] at HO
    clear he e2
    go_enter Tryd.func29, Tryd.ntmps29
    go_wp2_with (go_at_call 43; refine HO.out.mono ?_; rintro r w1 ⟨rfl, rfl⟩)
    go_ret
    exact ⟨by rw [e1.out]; rfl, rfl⟩
  · have e1 := Lib.hid (show leftN l.length e = 0 by simp [leftN, he])
    have e2 : (e == 0) = false := by simpa using he
    rw [e2] at HO
    clear he e2
    go_enter Tryd.func29, Tryd.ntmps29
    go_wp2_with (go_at_call 43; refine HO.out.mono ?_; rintro r w1 ⟨rfl, rfl⟩)
    go_ret
    exact ⟨by rw [e1.out]; rfl, rfl⟩
end Go.Proofs.YtkjpbadlbpfpaaaDoor
