/- The reference's source: its numbers. -/
import Derived.Test.YtobkhhpccakmfaaRef1b
namespace Go.Proofs.Ytobkhhpccakmfaa
open Go.RowKit

theorem rget_no (p : Option Addr) (n c k : Nat) (hnk : n < k) (hk : k ≤ 8) (w : World) :
    Calls Try.prog 62 #[.slice p n c, .int .i64 0, .int .i64 k] w fun r w' => r = .returned (.tuple #[.int .u64 0, .bool false]) ∧ w = w' := by
  have e1 := wrap64_id (n : Int) (by omega) (by omega)
  go_enter Try.func62, Try.ntmps62
  go_wp2
  exact bodyPost_ret (v := .tuple #[.int .u64 0, .bool false]) (by simp [results, Try.results62, go_sem]) rfl ⟨rfl, rfl⟩

set_option maxHeartbeats 400000 in
theorem rget_yes (b o c : Nat) (l : List Nat) (hl : ∀ x ∈ l, x < 256) (k : Nat) (hk : k ≤ l.length) (hk8 : k ≤ 8) (hlc : l.length ≤ c) (hll : l.length ≤ 1000) (w : World) (hc : ∀ j u, (u8s l)[j]? = some u → w.cell? ⟨b, o + j, none⟩ = some u) :
    Calls Try.prog 62 #[.slice (some ⟨b, o, none⟩) l.length c, .int .i64 0, .int .i64 k] w fun r w' => r = .returned (.tuple #[.int .u64 (getN (l.take k) : Nat), .bool true]) ∧ w = w' := by
  have HC := Lib.hid hc
  have hkc : k ≤ c := by omega
  have e1 := wrap64_id (l.length : Int) (by omega) (by omega)
  have e2 := wrap64_id (k : Int) (by omega) (by omega)
  have e3 : decide ((l.length : Int) < k) = false := by simp; exact hk
  have HL := Lib.hid hl
  clear hc hl
  go_enter Try.func62, Try.ntmps62
  go_wp2
  go_loop [8, 34] (fun m i => ∃ j : Nat, j ≤ k ∧ i = .int .i64 j ∧ m = .int .u64 (getN (l.take j) : Nat)) (fun _ i => k - (intOf i).toNat)
  case atStart => exact ⟨0, Nat.zero_le _, rfl, rfl⟩
  case round =>
    obtain ⟨j, hj, rfl, rfl⟩ := hrel
    by_cases hlt : j < k
    · have hjl : j < l.length := by omega
      have c0 := HC.out j (.int .u8 (l[j] : Nat)) (by simp [u8s, hjl])
      have hx := HL.out l[j] (List.getElem_mem hjl)
      have hs : l.take (j + 1) = l.take j ++ [l[j]] := (List.take_append_getElem hjl).symm
      have hn := getN_lt (l.take j) (fun x hx => HL.out x (List.mem_of_mem_take hx))
      have hn' : getN (l.take j) < 72057594037927936 := Nat.lt_of_lt_of_le hn (by
        have : 256 ^ (l.take j).length ≤ 256 ^ 7 := Nat.pow_le_pow_right (by decide) (by rw [List.length_take]; omega)
        simpa using this)
      have e1 := get_num _ _ hn' hx
      rw [← getN_snoc, ← hs] at e1
      clear hs hn hn'
      generalize l[j] = x at *
      go_wp2
      go_round
      case rel => exact ⟨j + 1, by omega, by go_num, rfl⟩
      case measure => simp [intOf]; omega
    · obtain rfl : j = k := by omega
      go_wp2
      exact bodyPost_ret (v := .tuple #[.int .u64 (getN (l.take j) : Nat), .bool true]) (by simp [results, Try.results62, go_sem]) rfl ⟨rfl, rfl⟩

/-- what is known behind a call that takes k bytes and answers the value v -/
def TookR1 (w : World) (g : Nat) (vb : Option Nat) (l : List Nat) (k : Nat) (v : Value) (r : Ending) (w' : World) : Prop :=
  r = .returned v ∧ RS w' g vb (tkL l 0 k) (tkE l 0 k) ∧ Gb g w w'
set_option maxHeartbeats 400000 in
theorem rnum (g : Nat) (vb : Option Nat) (l : List Nat) (hl : ∀ x ∈ l, x < 256) (k : Nat) (hk : 0 < k) (hk8 : k ≤ 8) (w : World) (h : RS w g vb l 0) (hvb : ∀ b, vb = some b → b < w.heap.size) :
    Calls Try.prog 58 #[.pointer (some ⟨g, 0, none⟩), .int .i64 k] w (TookR1 w g vb l k (.int .u64 (numN l 0 k))) := by
  have HT := Lib.hid (rbytes1 g vb l k hk8 w h hvb)
  have HL := Lib.hid (tkO_lt hl 0 k)
  have hle := tkO_le l 0 k
  clear h hl
  go_enter Try.func58, Try.ntmps58
  go_wp2_with fail
  refine HT.out.mono ?_
  rintro r w1 ⟨v, rfl, own, hs, gb⟩
  have HS := Lib.hid (And.intro hs gb)
  have hr := Rd.of_own own
  clear hs gb own
  by_cases hlt : (tkO l 0 k).length < k
  · have e1 := Lib.hid (show numN l 0 k = 0 by simp [numN, hlt])
    obtain ⟨_, p, c, rfl, _⟩ := hr
    have HG := Lib.hid (rget_no p _ c k hlt hk8 w1)
    generalize (tkO l 0 k).length = n at *
    go_wp2_with (go_at_call 62; refine HG.out.mono ?_; rintro r w2 ⟨rfl, rfl⟩)
    go_ret
    exact ⟨by rw [e1.out]; rfl, HS.out⟩
  · have e1 := Lib.hid (show numN l 0 k = getN ((tkO l 0 k).take k) by simp [numN, hlt]; rw [List.take_of_length_le hle])
    obtain ⟨b, o, c, rfl, hnc, _, hcl⟩ := hr.pos (by omega)
    have HG := Lib.hid (rget_yes b o c (tkO l 0 k) HL.out k (by omega) hk8 hnc (by omega) w1 hcl)
    clear hr hcl
    generalize (tkO l 0 k).length = n at *
    go_wp2_with (go_at_call 62; refine HG.out.mono ?_; rintro r w2 ⟨rfl, rfl⟩)
    go_ret
    exact ⟨by rw [e1.out]; rfl, HS.out⟩

set_option maxHeartbeats 400000 in
theorem ru8 (g : Nat) (vb : Option Nat) (l : List Nat) (hl : ∀ x ∈ l, x < 256) (w : World) (h : RS w g vb l 0) (hvb : ∀ b, vb = some b → b < w.heap.size) :
    Calls Try.prog 43 #[.pointer (some ⟨g, 0, none⟩)] w (TookR1 w g vb l 1 (.int .i64 (numN l 0 1))) := by
  have HT := Lib.hid (rnum g vb l hl 1 (by decide) (by decide) w h hvb)
  have hlt := numN_lt hl 0 1
  simp only [Nat.pow_one] at hlt
  have e1 := wrap_i64 (numN l 0 1 : Int) (by omega) (by omega)
  clear h hl
  go_enter Try.func43, Try.ntmps43
  go_wp2_with (go_at_call 58; refine HT.out.mono ?_; rintro r w2 ⟨rfl, hs⟩)
  go_ret
  exact ⟨rfl, hs⟩
end Go.Proofs.Ytobkhhpccakmfaa
