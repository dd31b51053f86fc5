/- prefix.Read: the prefix that a source goes on with. -/
import Derived.Test.YtkjpbadlbpfpaaaDoorQGet32
import Derived.Test.YtkjpbadlbpfpaaaDoorQCopyA
import Derived.Test.YtkjpbadlbpfpaaaDoorBytes
namespace Go.Proofs.YtkjpbadlbpfpaaaDoor
open Go.RowKit

/-- the prefix that bytes begin with, and what is left behind it -/
def prd : List Nat → Option (Nat × Nat × List Nat)
  | [] => none
  | n :: r => if n ≤ 32 ∧ (n + 7) / 8 ≤ r.length then some (hd (getN (r.take ((n + 7) / 8) ++ List.replicate (4 - (n + 7) / 8) 0)) n, n, r.drop ((n + 7) / 8)) else none
theorem prd_cons (n : Nat) (r : List Nat) : prd (n :: r) = if n ≤ 32 ∧ (n + 7) / 8 ≤ r.length then some (hd (getN (r.take ((n + 7) / 8) ++ List.replicate (4 - (n + 7) / 8) 0)) n, n, r.drop ((n + 7) / 8)) else none := rfl
/-- what is known behind a Read of the bytes l -/
def PRead (w : World) (g : Nat) (vb : Option Nat) (l : List Nat) (r : Ending) (w' : World) : Prop :=
  match prd l with
  | none => r = .returned (.tuple #[.agg #[.int .u32 0, .int .i64 0], .bool false]) ∧ Gb g w w'
  | some (a, n, rest) => r = .returned (.tuple #[.agg #[.int .u32 (a : Int), .int .i64 (n : Int)], .bool true]) ∧ (∃ at_, Src w' g vb rest at_ 0) ∧ Gb g w w'

theorem serr' (g : Nat) (vb : Option Nat) (l : List Nat) (at_ e : Int) (w : World) (h : Src w g vb l at_ e) :
    Calls Tryd.prog 45 #[.pointer (some ⟨g, 0, none⟩)] w fun r w' => r = .returned (.int .i64 e) ∧ w = w' := by
  obtain ⟨v, hb, _⟩ := h
  exact serr g v at_ e w hb
theorem Src.lt {w : World} {g : Nat} {vb : Option Nat} {l : List Nat} {at_ e : Int} (h : Src w g vb l at_ e) : g < w.heap.size := by
  obtain ⟨v, hb, _⟩ := h
  exact hb.lt

theorem su8n (g : Nat) (vb : Option Nat) (at_ : Int) (w : World) (h : Src w g vb [] at_ 0) :
    Calls Tryd.prog 44 #[.pointer (some ⟨g, 0, none⟩)] w fun r w' => r = .returned (.int .i64 0) ∧ (∃ a, Src w' g vb [] a 3) ∧ Gb g w w' := by
  have := su8 g vb [] (by simp) at_ 0 w h
  have en : numN [] 0 1 = 0 := by simp [numN, tkO]
  have ee : tkE [] 0 1 = 3 := by simp [tkE]
  have el : tkL [] 0 1 = [] := by simp [tkL]
  unfold Took1 at this
  rw [en, ee, el] at this
  exact this
theorem su8c (g : Nat) (vb : Option Nat) (n : Nat) (r : List Nat) (hl : ∀ x ∈ n :: r, x < 256) (at_ : Int) (w : World) (h : Src w g vb (n :: r) at_ 0) :
    Calls Tryd.prog 44 #[.pointer (some ⟨g, 0, none⟩)] w fun rr w' => rr = .returned (.int .i64 n) ∧ (∃ a, Src w' g vb r a 0) ∧ Gb g w w' := by
  have := su8 g vb (n :: r) hl at_ 0 w h
  have en : numN (n :: r) 0 1 = n := by simp [numN, tkO, getN]
  have ee : tkE (n :: r) 0 1 = 0 := by simp [tkE]
  have el : tkL (n :: r) 0 1 = r := by simp [tkL]
  unfold Took1 at this
  rw [en, ee, el] at this
  exact this

/-- no prefix: what is known then -/
theorem PRead.no {w w' : World} {g : Nat} {vb : Option Nat} {l : List Nat} (hp : prd l = none) (gb : Gb g w w') : PRead w g vb l (.returned (.tuple #[.agg #[.int .u32 0, .int .i64 0], .bool false])) w' := by
  unfold PRead
  rw [hp]
  exact ⟨rfl, gb⟩
theorem PRead.yes {w w' : World} {g : Nat} {vb : Option Nat} {l : List Nat} {a n : Nat} {rest : List Nat} (hp : prd l = some (a, n, rest)) (hs : ∃ at_, Src w' g vb rest at_ 0) (gb : Gb g w w') :
    PRead w g vb l (.returned (.tuple #[.agg #[.int .u32 (a : Int), .int .i64 (n : Int)], .bool true])) w' := by
  unfold PRead
  rw [hp]
  exact ⟨rfl, hs, gb⟩

theorem Gb.setNew {b : Nat} {a w : World} (h : Gb b a w) {p : Addr} (hp : a.heap.size ≤ p.block) (u : Value) : Gb b a (w.setCell p u) := by
  unfold Gb at *
  exact ⟨h.os, h.tape, h.output, by simpa [World.setCell] using h.size, fun i hi hne => (Below.heap_setCell w p u i (by
    rintro rfl
    omega)).trans (h.block i hi hne)⟩
theorem Gb.withNew {b F : Nat} {a w w' : World} (h : Gb b a w) (k : Gb F w w') (hF : a.heap.size ≤ F) : Gb b a w' := by
  unfold Gb at *
  exact ⟨k.os.trans h.os, k.tape.trans h.tape, k.output.trans h.output, Nat.le_trans h.size k.size, fun i hi hn => (k.block i (Nat.lt_of_lt_of_le hi h.size) (fun e => by injection e; omega)).trans (h.block i hi hn)⟩

set_option maxHeartbeats 400000 in
theorem pread (g : Nat) (vb : Option Nat) (l : List Nat) (hl : ∀ x ∈ l, x < 256) (hln : l.length ≤ 1000) (at_ : Int) (w : World) (h : Src w g vb l at_ 0) (hvb : ∀ b, vb = some b → b < w.heap.size) :
    Calls Tryd.prog 30 #[.pointer (some ⟨g, 0, none⟩)] w (PRead w g vb l) := by
  have hg := h.lt
  have hne : w.heap.size ≠ g := by omega
  have hb0 := Blk.new w 24 [.int .u32 0, .int .i64 0]
  cases l with
  | nil =>
    have hp := Lib.hid (show prd [] = none from rfl)
    have HU := Lib.hid fun (W : World) (k : Gr w W) => su8n g vb at_ W (h.gr k)
    clear h hl
    go_enter Tryd.func30, Tryd.ntmps30
    go_wp2_with fail
    refine (HU.out _ ((Gr.refl w).alloc _)).mono ?_
    rintro r w1 ⟨rfl, ⟨a, hs⟩, gb⟩
    replace hb0 := hb0.gb gb hne
    have d0 := hb0.cell (i := 0) rfl
    have d1 := hb0.cell (i := 1) rfl
    have f0 := hb0.frz 0
    have f1 := hb0.frz 1
    have HE := Lib.hid (serr' g vb [] a 3 w1 hs)
    have HG := Lib.hid ((Gb.of ((Gr.refl w).alloc _)).trans gb)
    have HK := Lib.hid hb0
    clear hs gb hb0
    go_wp2_with (go_at_call 45; refine HE.out.mono ?_; rintro r w2 ⟨rfl, rfl⟩)
    have hk2 := (HK.out.set 0 (.int .u32 0)).set 1 (.int .i64 0)
    have c0 := hk2.cell (i := 0) rfl
    have c1 := hk2.cell (i := 1) rfl
    refine bodyPost_ret (v := .tuple #[.agg #[.int .u32 0, .int .i64 0], .bool false]) (by simp [results, Tryd.results30, go_sem, c0, c1]) rfl ?_
    exact PRead.no hp.out ((HG.out.setNew (Nat.le_refl _) _).setNew (Nat.le_refl _) _)
  | cons n r =>
    have HU := Lib.hid fun (W : World) (k : Gr w W) => su8c g vb n r hl at_ W (h.gr k)
    have hlr : ∀ x ∈ r, x < 256 := fun x hx => hl x (by simp [hx])
    clear h hl
    by_cases hn : 32 < n
    · have hp := Lib.hid (show prd (n :: r) = none by
        rw [prd_cons, if_neg (by omega)])
      go_enter Tryd.func30, Tryd.ntmps30
      go_wp2_with fail
      refine (HU.out _ ((Gr.refl w).alloc _)).mono ?_
      rintro r' w1 ⟨rfl, ⟨a, hs⟩, gb⟩
      replace hb0 := hb0.gb gb hne
      have d0 := hb0.cell (i := 0) rfl
      have d1 := hb0.cell (i := 1) rfl
      have f0 := hb0.frz 0
      have f1 := hb0.frz 1
      have HE := Lib.hid (serr' g vb r a 0 w1 hs)
      have HG := Lib.hid ((Gb.of ((Gr.refl w).alloc _)).trans gb)
      have HK := Lib.hid hb0
      clear hs gb hb0
      go_wp2_with (go_at_call 45; refine HE.out.mono ?_; rintro r w2 ⟨rfl, rfl⟩)
      have hk2 := (HK.out.set 0 (.int .u32 0)).set 1 (.int .i64 0)
      have c0 := hk2.cell (i := 0) rfl
      have c1 := hk2.cell (i := 1) rfl
      refine bodyPost_ret (v := .tuple #[.agg #[.int .u32 0, .int .i64 0], .bool false]) (by simp [results, Tryd.results30, go_sem, c0, c1]) rfl ?_
      exact PRead.no hp.out ((HG.out.setNew (Nat.le_refl _) _).setNew (Nat.le_refl _) _)
    · have hk4 : (n + 7) / 8 ≤ 4 := by omega
      have HO := Lib.hid fun W => poct n (by omega) W
      go_enter Tryd.func30, Tryd.ntmps30
      go_wp2_with fail
      refine (HU.out _ ((Gr.refl w).alloc _)).mono ?_
      rintro r' w1 ⟨rfl, ⟨a, hs⟩, gb⟩
      replace hb0 := hb0.gb gb hne
      have HE := Lib.hid (serr' g vb r a 0 w1 hs)
      have hsz : w.heap.size < w1.heap.size := by have := Gb.size' gb; simp at this; omega
      have HG := (Gb.of ((Gr.refl w).alloc _)).trans gb
      have hbF := Blk.new w1 75 [.int .u8 0, .int .u8 0, .int .u8 0, .int .u8 0]
      have gA := (Gr.refl w1).alloc (.cells #[.int .u8 0, .int .u8 0, .int .u8 0, .int .u8 0] 75)
      have HS := Lib.hid (And.intro (hs.gr gA) (And.intro (HG.trans (Gb.of gA)) (And.intro (hb0.gr gA) hbF)))
      clear hs gb hb0 hbF HG gA
      generalize hk : (n + 7) / 8 = k at *
      go_wp2_with (go_at_call 45; refine HE.out.mono ?_; rintro r w2 ⟨rfl, rfl⟩)
      generalize w1.alloc (.cells #[.int .u8 0, .int .u8 0, .int .u8 0, .int .u8 0] 75) = W at *
      have hFg : w1.heap.size ≠ g := by omega
      have hRF : w.heap.size < w1.heap.size := hsz
      have hvF : vb ≠ some w1.heap.size := fun hh => by have := hvb _ hh; omega
      clear hsz
      generalize w1.heap.size = F at *
      have HB := Lib.hid fun (V : World) (k' : Gr W V) => sbytes g vb r a 0 k (by omega) V (HS.out.1.gr k')
      have hS0 := trivial
      refine wp_region_plan [(0, true), (1, true), (2, true), (3, false), (4, false), (5, false)] (fun _ => True) (by kernel_rfl) (by kernel_rfl) hS0 ?_
      simp only [planOps, List.getElem?_toArray, List.getElem?_cons_zero, List.getElem?_cons_succ]
      repeat (first
        | (refine wpPlan_skip (by rfl) ?_; (try simp only [Act.put, List.setIfInBounds_toArray, List.set_cons_zero, List.set_cons_succ]))
        | (refine wpPlan_take (by rfl) ?_; apply Exists.intro; refine ⟨fun w' hSw => ?_, ?_⟩; (focus ((try dsimp only at hSw); go_simp; first | done | with_reducible rfl)); (try simp only [Act.put, List.setIfInBounds_toArray, List.set_cons_zero, List.set_cons_succ]))
        | ((refine wpD_copyA (fun _ => trivial) (by rfl) 5 Tryd.underlying36 (by kernel_rfl) F _ [.int .u8 0, .int .u8 0, .int .u8 0, .int .u8 0] 4 4 (by rfl) (Blk.gb gb3 hFg HS.out.2.2.2) rfl _ (tkO r 0 k).length _ (by rfl) (Rd.of_own own3) (u8s_one _) (by have := tkO_le r 0 k; omega) (fun w4 hb4 gb4 => ?_)); (try simp only [Act.put, List.setIfInBounds_toArray, List.set_cons_zero, List.set_cons_succ]))
        | (refine wpPlan_do (by rfl) (fun K hK => ?_); go_simp; (first | (go_at_call 46; refine (HB.out _ (by first | exact (Gr.refl _).drew | exact Gr.refl _)).mono ?_; rintro e w3 ⟨v3, rfl, own3, hs3, gb3⟩) | (go_at_call 33; refine (HO.out _).mono ?_; rintro e w2' ⟨rfl, rfl⟩)); refine hK _ _ (by first | trivial) (fun hSn => ?_); clear hK K; (try simp only [Act.put, List.setIfInBounds_toArray, List.set_cons_zero, List.set_cons_succ]))
        | (refine wpPlan_do (by rfl) (fun K hK => ?_); go_simp; refine hK _ _ (by first | trivial) (fun hSn => ?_); clear hK K; (try simp only [Act.put, List.setIfInBounds_toArray, List.set_cons_zero, List.set_cons_succ])))
      refine wpPlan_nil ?_
      obtain ⟨a3, hs3⟩ := hs3
      have hs4 := hs3.gb gb4 (fun hh => hFg hh.symm) hvF
      have hR4 := (HS.out.2.2.1.gb gb3 hne).gb gb4 (by omega)
      have hG4 : Gb g w w4 := (Gb.trans HS.out.2.1.drew gb3).withNew gb4 (by omega)
      clear hs3 own3
      have HE4 := Lib.hid (serr' g vb _ a3 _ w4 hs4)
      by_cases hkr : k ≤ r.length
      · have eE : tkE r 0 k = 0 := by simp [tkE, hkr]
        have eL : tkL r 0 k = r.drop k := by simp [tkL, hkr]
        have eO : tkO r 0 k = r.take k := by simp [tkO, hkr]
        rw [eE] at HE4 hs4
        rw [eL] at hs4
        rw [eO] at hb4
        have hn32 : n ≤ 32 := by omega
        have hp := Lib.hid (show prd (n :: r) = some (hd (getN (r.take k ++ List.replicate (4 - k) 0)) n, n, r.drop k) by
          rw [prd_cons, hk, if_pos ⟨hn32, hkr⟩])
        have hpl : (r.take k ++ List.replicate (4 - k) 0).length = 4 := by rw [List.length_append, List.length_take, List.length_replicate]; omega
        have hpb : ∀ x ∈ r.take k ++ List.replicate (4 - k) 0, x < 256 := by
          intro x hx
          rcases List.mem_append.1 hx with h | h
          · exact hlr x (List.mem_of_mem_take h)
          · have := List.eq_of_mem_replicate h; omega
        have hlist : u8s (r.take k) ++ [Value.int .u8 0, .int .u8 0, .int .u8 0, .int .u8 0].drop (r.take k).length = u8s (r.take k ++ List.replicate (4 - k) 0) := by
          rw [u8s_app, List.length_take, Nat.min_eq_left hkr]
          congr 1
          have : k = 0 ∨ k = 1 ∨ k = 2 ∨ k = 3 ∨ k = 4 := by omega
          rcases this with h | h | h | h | h <;> rw [h] <;> rfl
        rw [hlist] at hb4
        have HGet := Lib.hid (wget32 F 0 4 _ hpb hpl (Nat.le_refl _) w4 (fun j u hu => by rw [Nat.zero_add]; exact hb4.cell hu))
        have hlt := getN_lt _ hpb
        rw [hpl] at hlt
        have HC := Lib.hid fun W => pcanon (getN (r.take k ++ List.replicate (4 - k) 0)) (by simpa using hlt) n W
        have hcl : cl (n : Int) = n := by unfold cl; rw [if_neg (by omega), if_neg (by omega)]; simp
        rw [hcl] at HC
        have HK := Lib.hid hR4
        have HG := Lib.hid hG4
        have HS4 := Lib.hid hs4
        clear hs4 hb4 gb3 gb4 eE eL eO hR4 hG4 hlt hpl hpb hlist hcl
        generalize getN (r.take k ++ List.replicate (4 - k) 0) = A at *
        generalize (tkO r 0 k).length = m
        go_wp2_with (first | (go_at_call 45; refine HE4.out.mono ?_; rintro r w2 ⟨rfl, rfl⟩) | (go_at_call 47; refine HGet.out.mono ?_; rintro r w2 ⟨rfl, rfl⟩) | fail)
        refine (HC.out _).mono ?_
        rintro e w5 ⟨rfl, g5⟩
        have hR5 := HK.out.gr g5
        have d0 := hR5.cell (i := 0) rfl
        have d1 := hR5.cell (i := 1) rfl
        have f0 := hR5.frz 0
        have f1 := hR5.frz 1
        clear hR5
        go_wp2
        have hk2 := ((HK.out.gr g5).set 0 (.int .u32 (hd A n : Nat))).set 1 (.int .i64 n)
        have c0 := hk2.cell (i := 0) rfl
        have c1 := hk2.cell (i := 1) rfl
        refine bodyPost_ret (v := .tuple #[.agg #[.int .u32 (hd A n : Nat), .int .i64 n], .bool true]) (by simp [results, Tryd.results30, go_sem, c0, c1]) rfl ?_
        have gN := (Gb.of g5 (b := w.heap.size)).setCell (p := ⟨w.heap.size, 0, none⟩) rfl (.int .u32 (hd A n : Nat)) |>.setCell (p := ⟨w.heap.size, 1, none⟩) rfl (.int .i64 n)
        exact PRead.yes hp.out ⟨_, HS4.out.gb gN (fun hh => hne hh.symm) (fun hh => by have := hvb _ hh; omega)⟩ (HG.out.withNew gN (Nat.le_refl _))
      · have eE : tkE r 0 k = 3 := by simp [tkE, hkr]
        have hp := Lib.hid (show prd (n :: r) = none by
          rw [prd_cons, if_neg (by omega)])
        rw [eE] at HE4
        have d0 := hR4.cell (i := 0) rfl
        have d1 := hR4.cell (i := 1) rfl
        have f0 := hR4.frz 0
        have f1 := hR4.frz 1
        have HK := Lib.hid hR4
        have HG := Lib.hid hG4
        clear hs4 hb4 gb3 gb4 eE hR4 hG4
        generalize (tkO r 0 k).length = m
        go_wp2_with (go_at_call 45; refine HE4.out.mono ?_; rintro r w2 ⟨rfl, rfl⟩)
        have hk2 := (HK.out.set 0 (.int .u32 0)).set 1 (.int .i64 0)
        have c0 := hk2.cell (i := 0) rfl
        have c1 := hk2.cell (i := 1) rfl
        refine bodyPost_ret (v := .tuple #[.agg #[.int .u32 0, .int .i64 0], .bool false]) (by simp [results, Tryd.results30, go_sem, c0, c1]) rfl ?_
        exact PRead.no hp.out ((HG.out.setNew (Nat.le_refl _) _).setNew (Nat.le_refl _) _)
end Go.Proofs.YtkjpbadlbpfpaaaDoor
