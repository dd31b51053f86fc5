/- The reference's Read of a prefix. -/
import Derived.Test.YtobkhhpccakmfaaRef1c
namespace Go.Proofs.Ytobkhhpccakmfaa
open Go.RowKit

/-- what is known behind the reference's Read of the bytes l -/
def PReadR (w : World) (g : Nat) (vb : Option Nat) (l : List Nat) (r : Ending) (w' : World) : Prop :=
  match prd l with
  | none => r = .returned (.tuple #[.agg #[.int .u32 0, .int .i64 0], .bool false]) ∧ Gb g w w'
  | some (a, n, rest) => r = .returned (.tuple #[.agg #[.int .u32 (a : Int), .int .i64 (n : Int)], .bool true]) ∧ RS w' g vb rest 0 ∧ Gb g w w'
theorem PReadR.no {w w' : World} {g : Nat} {vb : Option Nat} {l : List Nat} (hp : prd l = none) (gb : Gb g w w') : PReadR w g vb l (.returned (.tuple #[.agg #[.int .u32 0, .int .i64 0], .bool false])) w' := by
  unfold PReadR
  rw [hp]
  exact ⟨rfl, gb⟩
theorem PReadR.yes {w w' : World} {g : Nat} {vb : Option Nat} {l : List Nat} {a n : Nat} {rest : List Nat} (hp : prd l = some (a, n, rest)) (hs : RS w' g vb rest 0) (gb : Gb g w w') :
    PReadR w g vb l (.returned (.tuple #[.agg #[.int .u32 (a : Int), .int .i64 (n : Int)], .bool true])) w' := by
  unfold PReadR
  rw [hp]
  exact ⟨rfl, hs, gb⟩
theorem ru8n (g : Nat) (vb : Option Nat) (w : World) (h : RS w g vb [] 0) (hvb : ∀ b, vb = some b → b < w.heap.size) :
    Calls Try.prog 43 #[.pointer (some ⟨g, 0, none⟩)] w fun r w' => r = .returned (.int .i64 0) ∧ RS w' g vb [] 3 ∧ Gb g w w' := by
  have := ru8 g vb [] (by simp) w h hvb
  have en : numN [] 0 1 = 0 := by simp [numN, tkO]
  have ee : tkE [] 0 1 = 3 := by simp [tkE]
  have el : tkL [] 0 1 = [] := by simp [tkL]
  unfold TookR1 at this
  rw [en, ee, el] at this
  exact this
theorem ru8c (g : Nat) (vb : Option Nat) (n : Nat) (r : List Nat) (hl : ∀ x ∈ n :: r, x < 256) (w : World) (h : RS w g vb (n :: r) 0) (hvb : ∀ b, vb = some b → b < w.heap.size) :
    Calls Try.prog 43 #[.pointer (some ⟨g, 0, none⟩)] w fun rr w' => rr = .returned (.int .i64 n) ∧ RS w' g vb r 0 ∧ Gb g w w' := by
  have := ru8 g vb (n :: r) hl w h hvb
  have en : numN (n :: r) 0 1 = n := by simp [numN, tkO, getN]
  have ee : tkE (n :: r) 0 1 = 0 := by simp [tkE]
  have el : tkL (n :: r) 0 1 = r := by simp [tkL]
  unfold TookR1 at this
  rw [en, ee, el] at this
  exact this
theorem RS.err {w : World} {g : Nat} {vb : Option Nat} {l : List Nat} {e : Int} (h : RS w g vb l e) : w.cell? ⟨g, 2, none⟩ = some (.int .i64 e) := by
  obtain ⟨v, L, N, hb, _⟩ := h
  exact hb.cell (i := 2) rfl

theorem getN_zeros (xs : List Nat) : ∀ m, getN (xs ++ List.replicate m 0) = getN xs * 256 ^ m
  | 0 => by simp
  | m + 1 => by
    rw [List.replicate_succ', ← List.append_assoc, getN_snoc, getN_zeros xs m, Nat.pow_succ, Nat.add_zero, Nat.mul_assoc]
theorem step_num (X x j : Nat) (hj : j < 4) (hX : X < 256 ^ j) (hx : x < 256) :
    bits .or .u32 ((X * 256 ^ (4 - j) : Nat) : Int) ((x : Int) * 2 ^ (24 - 8 * j) % 4294967296) = (((X * 256 + x) * 256 ^ (4 - (j + 1)) : Nat) : Int) := by
  have h : j = 0 ∨ j = 1 ∨ j = 2 ∨ j = 3 := by omega
  rcases h with rfl | rfl | rfl | rfl
  · have e : ((x : Int) * 2 ^ (24 - 8 * 0) % 4294967296) = ((x * 16777216 : Nat) : Int) := by simp; omega
    simp only [Nat.pow_zero] at hX
    rw [e, u32_or_nat _ _ (by simp; omega) (by omega), nat_join 32 _ _ (by simp) (by simp; omega)]
    rw [show X * 256 ^ (4 - 0) + x * 16777216 = (X * 256 + x) * 256 ^ (4 - (0 + 1)) by simp; omega]
  · have e : ((x : Int) * 2 ^ (24 - 8 * 1) % 4294967296) = ((x * 65536 : Nat) : Int) := by simp; omega
    simp only [Nat.pow_one] at hX
    rw [e, u32_or_nat _ _ (by simp; omega) (by omega), nat_join 24 _ _ (by simp) (by simp; omega)]
    rw [show X * 256 ^ (4 - 1) + x * 65536 = (X * 256 + x) * 256 ^ (4 - (1 + 1)) by simp; omega]
  · have e : ((x : Int) * 2 ^ (24 - 8 * 2) % 4294967296) = ((x * 256 : Nat) : Int) := by simp; omega
    have hX : X < 65536 := hX
    rw [e, u32_or_nat _ _ (by simp; omega) (by omega), nat_join 16 _ _ (by simp) (by simp; omega)]
    rw [show X * 256 ^ (4 - 2) + x * 256 = (X * 256 + x) * 256 ^ (4 - (2 + 1)) by simp; omega]
  · have e : ((x : Int) * 2 ^ (24 - 8 * 3) % 4294967296) = ((x * 1 : Nat) : Int) := by simp; omega
    have hX : X < 16777216 := hX
    rw [e, u32_or_nat _ _ (by simp; omega) (by omega), nat_join 8 _ _ (by simp) (by simp; omega)]
    rw [show X * 256 ^ (4 - 3) + x * 1 = (X * 256 + x) * 256 ^ (4 - (3 + 1)) by simp]

set_option maxHeartbeats 400000 in
theorem rread3 (g : Nat) (vb : Option Nat) (l : List Nat) (hl : ∀ x ∈ l, x < 256) (w : World) (h : RS w g vb l 0) (hvb : ∀ b, vb = some b → b < w.heap.size) :
    Calls Try.prog 25 #[.pointer (some ⟨g, 0, none⟩)] w (PReadR w g vb l) := by
  have hg := h.lt
  have hne : w.heap.size ≠ g := by omega
  have hb0 := Blk.new w 24 [.int .u32 0, .int .i64 0]
  have hvb' : ∀ b, vb = some b → b < (w.alloc (.cells #[.int .u32 0, .int .i64 0] 24)).heap.size := fun b hh => by have := hvb b hh; simp; omega
  cases l with
  | nil =>
    have hp := Lib.hid (show prd [] = none from rfl)
    have HU := Lib.hid (ru8n g vb _ (h.gr ((Gr.refl w).alloc (.cells #[.int .u32 0, .int .i64 0] 24))) hvb')
    clear h hl
    go_enter Try.func25, Try.ntmps25
    go_wp2_with fail
    refine HU.out.mono ?_
    rintro r w1 ⟨rfl, hs, gb⟩
    replace hb0 := hb0.gb gb hne
    have d0 := hb0.cell (i := 0) rfl
    have d1 := hb0.cell (i := 1) rfl
    have f0 := hb0.frz 0
    have f1 := hb0.frz 1
    have ce := hs.err
    have HG := Lib.hid ((Gb.of ((Gr.refl w).alloc _)).trans gb)
    have HK := Lib.hid hb0
    clear hs gb hb0
    go_wp2
    have hk2 := (HK.out.set 0 (.int .u32 0)).set 1 (.int .i64 0)
    have c0 := hk2.cell (i := 0) rfl
    have c1 := hk2.cell (i := 1) rfl
    refine bodyPost_ret (v := .tuple #[.agg #[.int .u32 0, .int .i64 0], .bool false]) (by simp [results, Try.results25, go_sem, c0, c1]) rfl ?_
    exact PReadR.no hp.out ((HG.out.setNew (Nat.le_refl _) _).setNew (Nat.le_refl _) _)
  | cons n r =>
    have HU := Lib.hid (ru8c g vb n r hl _ (h.gr ((Gr.refl w).alloc (.cells #[.int .u32 0, .int .i64 0] 24))) hvb')
    have hlr : ∀ x ∈ r, x < 256 := fun x hx => hl x (by simp [hx])
    clear h hl
    by_cases hn : 32 < n
    · have hp := Lib.hid (show prd (n :: r) = none by
        rw [prd_cons, if_neg (by omega)])
      go_enter Try.func25, Try.ntmps25
      go_wp2_with fail
      refine HU.out.mono ?_
      rintro r' w1 ⟨rfl, hs, gb⟩
      replace hb0 := hb0.gb gb hne
      have d0 := hb0.cell (i := 0) rfl
      have d1 := hb0.cell (i := 1) rfl
      have f0 := hb0.frz 0
      have f1 := hb0.frz 1
      have ce := hs.err
      have HG := Lib.hid ((Gb.of ((Gr.refl w).alloc _)).trans gb)
      have HK := Lib.hid hb0
      clear hs gb hb0
      go_wp2
      have hk2 := (HK.out.set 0 (.int .u32 0)).set 1 (.int .i64 0)
      have c0 := hk2.cell (i := 0) rfl
      have c1 := hk2.cell (i := 1) rfl
      refine bodyPost_ret (v := .tuple #[.agg #[.int .u32 0, .int .i64 0], .bool false]) (by simp [results, Try.results25, go_sem, c0, c1]) rfl ?_
      exact PReadR.no hp.out ((HG.out.setNew (Nat.le_refl _) _).setNew (Nat.le_refl _) _)
    · have hk4 : (n + 7) / 8 ≤ 4 := by omega
      go_enter Try.func25, Try.ntmps25
      go_wp2_with fail
      refine HU.out.mono ?_
      rintro r' w1 ⟨rfl, hs, gb⟩
      replace hb0 := hb0.gb gb hne
      have ce := hs.err
      have hsz : w.heap.size < w1.heap.size := by have := Gb.size' gb; simp at this; omega
      have HG := Lib.hid ((Gb.of ((Gr.refl w).alloc _)).trans gb)
      have HK := Lib.hid hb0
      have HS := Lib.hid hs
      clear hs gb hb0
      go_wp2_with fail
      rw [show ((n : Int) + 7) / 8 = (((n + 7) / 8 : Nat) : Int) by omega]
      have gA := (Gr.refl w1).alloc (.cells #[.int .u32 0, .int .i64 n] 24)
      have hP := Blk.new w1 24 [.int .u32 0, .int .i64 n]
      have HB := Lib.hid (rbytes1 g vb r ((n + 7) / 8) (by omega) _ (HS.out.gr gA) (fun b hh => by have := hvb b hh; simp; omega))
      have hPg : w1.heap.size ≠ g := by omega
      have hvP : vb ≠ some w1.heap.size := fun hh => by have := hvb _ hh; omega
      have hbase : w1.heap.size < (w1.alloc (.cells #[.int .u32 0, .int .i64 n] 24)).heap.size := by simp
      generalize hk : (n + 7) / 8 = k at *
      refine HB.out.mono ?_
      rintro r' w2 ⟨v, rfl, own, hs2, gb2⟩
      replace hP := hP.gb gb2 hPg
      have hR2 := Lib.hid ((HK.out.gr gA).gb gb2 hne)
      have HG2 := Lib.hid ((HG.out.trans (Gb.of gA)).trans gb2)
      clear gb2 gA HB
      generalize (w1.alloc (.cells #[.int .u32 0, .int .i64 n] 24)).heap.size = base at *
      generalize hxs : tkO r 0 k = xs at *
      have hxl : xs.length ≤ k := by rw [← hxs]; exact tkO_le _ _ _
      have hxb : ∀ x ∈ xs, x < 256 := by rw [← hxs]; exact tkO_lt hlr 0 k
      have hRP : w.heap.size ≠ w1.heap.size := by omega
      generalize w1.heap.size = P at *
      obtain ⟨_, p, c, hv, _⟩ := Rd.of_own own
      subst hv
      have HO := Lib.hid own
      have HS2 := Lib.hid hs2
      clear own hs2
      have hP0 := Lib.hid hP
      clear hP
      go_wp2
      go_loopw [28] (fun i wr => ∃ j : Nat, j ≤ xs.length ∧ i = .int .i64 j ∧ Blk wr P 24 [.int .u32 (getN (xs.take j) * 256 ^ (4 - j) : Nat), .int .i64 n] ∧ Gb P w2 wr) (fun i _ => xs.length - (intOf i).toNat)
      case atStart => exact ⟨0, Nat.zero_le _, rfl, by simpa [getN] using hP0.out, Gb.refl _ _⟩
      case round =>
        obtain ⟨j, hj, rfl, hPj, gbj⟩ := hrel
        by_cases hlt : j < xs.length
        · have hx := hxb xs[j] (List.getElem_mem hlt)
          have hs : xs.take (j + 1) = xs.take j ++ [xs[j]] := (List.take_append_getElem hlt).symm
          have hrj := Rd.of_own (own_gb gbj hbase HO.out)
          obtain ⟨b, o, c', hv, _, _, hc⟩ := hrj.pos (by omega)
          injection hv with ep _ ec
          subst ep ec
          have c0 := hc j (.int .u8 (xs[j] : Nat)) (by simp [u8s, hlt])
          have d0 := hPj.cell (i := 0) rfl
          have f0 := hPj.frz 0
          have HPJ := Lib.hid (And.intro hPj gbj)
          clear hrj hc hPj gbj
          have hst := step_num (getN (xs.take j)) xs[j] j (by omega) (by
            have := getN_lt (xs.take j) (fun y hy => hxb y (List.mem_of_mem_take hy))
            rwa [List.length_take, Nat.min_eq_left hj] at this) hx
          rw [← getN_snoc, ← hs] at hst
          have HST := Lib.hid hst
          clear hst hs
          generalize getN (xs.take j) * 256 ^ (4 - j) = A at *
          generalize xs[j] = x at *
          go_wp2
          go_roundw
          case rel =>
            refine ⟨j + 1, by omega, by go_num, ?_, HPJ.out.2.setCell rfl _⟩
            rw [HST.out]
            exact HPJ.out.1.set 0 _
          case measure => simp [intOf]; omega
        · obtain rfl : j = xs.length := by omega
          have hR := hR2.out.gb gbj hRP
          have hS4 := HS2.out.gb gbj (fun hh => hPg hh.symm) hvP
          have ce := hS4.err
          have HP := Lib.hid hPj
          have HGW := HG2.out.withNew gbj (by omega)
          rw [List.take_of_length_le (Nat.le_refl _)] at HP
          by_cases hkr : k ≤ r.length
          · have eE : tkE r 0 k = 0 := by simp [tkE, hkr]
            have eL : tkL r 0 k = r.drop k := by simp [tkL, hkr]
            have eO : xs = r.take k := by rw [← hxs]; simp [tkO, hkr]
            have exl : xs.length = k := by rw [eO, List.length_take]; omega
            have hp := Lib.hid (show prd (n :: r) = some (hd (getN xs * 256 ^ (4 - xs.length)) n, n, r.drop k) by
              rw [prd_cons, hk, if_pos ⟨by omega, hkr⟩, ← getN_zeros, exl, eO])
            have hA : getN xs * 256 ^ (4 - xs.length) < 4294967296 := by
              have h1 := getN_lt xs hxb
              have h2 : 256 ^ xs.length * 256 ^ (4 - xs.length) = 256 ^ 4 := by rw [← Nat.pow_add]; congr 1; omega
              have h3 : 0 < 256 ^ (4 - xs.length) := Nat.pow_pos (by decide)
              have := Nat.mul_lt_mul_of_pos_right h1 h3
              rw [h2] at this
              simpa using this
            rw [eE] at ce hS4
            rw [eL] at hS4
            have hcl : cl (n : Int) = n := by unfold cl; rw [if_neg (by omega), if_neg (by omega)]; simp
            have HC := Lib.hid fun W => rcanon (getN xs * 256 ^ (4 - xs.length)) hA n W
            rw [hcl] at HC
            have d2 := HP.out.cell (i := 0) rfl
            have d3 := HP.out.cell (i := 1) rfl
            have HK := Lib.hid hR
            have HG := Lib.hid HGW
            have HS4 := Lib.hid hS4
            clear hS4 hPj gbj eE eL hR HGW hA hcl HP eO exl
            generalize getN xs * 256 ^ (4 - xs.length) = A at *
            go_wp2_with fail
            refine (HC.out _).mono ?_
            rintro e w5 ⟨rfl, g5⟩
            have hR5 := HK.out.gr g5
            have d0 := hR5.cell (i := 0) rfl
            have d1 := hR5.cell (i := 1) rfl
            have f0 := hR5.frz 0
            have f1 := hR5.frz 1
            clear hR5
            go_wp2
            have hk2 := ((HK.out.gr g5).set 0 (.int .u32 (hd A n : Nat))).set 1 (.int .i64 n)
            have c0 := hk2.cell (i := 0) rfl
            have c1 := hk2.cell (i := 1) rfl
            refine bodyPost_ret (v := .tuple #[.agg #[.int .u32 (hd A n : Nat), .int .i64 n], .bool true]) (by simp [results, Try.results25, go_sem, c0, c1]) rfl ?_
            have gN := (Gb.of g5 (b := w.heap.size)).setCell (p := ⟨w.heap.size, 0, none⟩) rfl (.int .u32 (hd A n : Nat)) |>.setCell (p := ⟨w.heap.size, 1, none⟩) rfl (.int .i64 n)
            exact PReadR.yes hp.out (HS4.out.gb gN (fun hh => hne hh.symm) (fun hh => by have := hvb _ hh; omega)) (HG.out.withNew gN (Nat.le_refl _))
          · have eE : tkE r 0 k = 3 := by simp [tkE, hkr]
            have hp := Lib.hid (show prd (n :: r) = none by
              rw [prd_cons, if_neg (by omega)])
            rw [eE] at ce
            have d0 := hR.cell (i := 0) rfl
            have d1 := hR.cell (i := 1) rfl
            have f0 := hR.frz 0
            have f1 := hR.frz 1
            have HK := Lib.hid hR
            have HG := Lib.hid HGW
            clear hS4 hPj gbj eE hR HGW
            go_wp2
            have hk2 := (HK.out.set 0 (.int .u32 0)).set 1 (.int .i64 0)
            have c0 := hk2.cell (i := 0) rfl
            have c1 := hk2.cell (i := 1) rfl
            refine bodyPost_ret (v := .tuple #[.agg #[.int .u32 0, .int .i64 0], .bool false]) (by simp [results, Try.results25, go_sem, c0, c1]) rfl ?_
            exact PReadR.no hp.out ((HG.out.setNew (Nat.le_refl _) _).setNew (Nat.le_refl _) _)
end Go.Proofs.Ytobkhhpccakmfaa
