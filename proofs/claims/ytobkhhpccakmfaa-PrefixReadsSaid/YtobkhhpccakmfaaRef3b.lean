/- The reference's Parse; two rows of prefixes that are the same. -/
import Derived.Test.YtobkhhpccakmfaaRef3
namespace Go.Proofs.Ytobkhhpccakmfaa
open Go.RowKit

theorem rread_no (g : Nat) (vb : Option Nat) (l : List Nat) (hl : ∀ x ∈ l, x < 256) (w : World) (h : RS w g vb l 0) (hvb : ∀ b, vb = some b → b < w.heap.size) (hp : prd l = none) :
    Calls Try.prog 25 #[.pointer (some ⟨g, 0, none⟩)] w fun r w' => r = .returned (.tuple #[.agg #[.int .u32 0, .int .i64 0], .bool false]) ∧ Gb g w w' := by
  have := rread3 g vb l hl w h hvb
  unfold PReadR at this
  rwa [hp] at this
theorem rread_yes (g : Nat) (vb : Option Nat) (l : List Nat) (hl : ∀ x ∈ l, x < 256) (w : World) (h : RS w g vb l 0) (hvb : ∀ b, vb = some b → b < w.heap.size) {a n : Nat} {rest : List Nat} (hp : prd l = some (a, n, rest)) :
    Calls Try.prog 25 #[.pointer (some ⟨g, 0, none⟩)] w fun r w' => r = .returned (.tuple #[.agg #[.int .u32 (a : Int), .int .i64 (n : Int)], .bool true]) ∧ RS w' g vb rest 0 ∧ Gb g w w' := by
  have := rread3 g vb l hl w h hvb
  unfold PReadR at this
  rwa [hp] at this

set_option maxHeartbeats 400000 in
theorem rparse (v : Value) (L : List Nat) (hl : ∀ x ∈ L, x < 256) (hln : L.length ≤ 1000) (w : World) (hr : Rd w 1 v L.length (u8s L)) :
    Calls Try.prog 21 #[v] w (PParse w L) := by
  obtain ⟨i0, hi, hz0, hz1, hz2⟩ := info_parts info_pfx
  have hi' := Lib.hid hi
  clear hi
  have HW := Lib.hid (rread1 v L hln w hr)
  clear hr
  go_enter Try.func21, Try.ntmps21
  go_wp2_with fail
  refine HW.out.mono ?_
  rintro r w1 ⟨g, vb, rfl, hg, hs, hvb, g1⟩
  have hg1 := hs.lt
  have hvb1 : ∀ b, vb = some b → b < w1.heap.size := fun b hb => by have := hvb b hb; omega
  go_wp2
  go_loopw [5] (fun o wr => ∃ (l : List Nat) (acc : List (Nat × Nat)), RS wr g vb l 0 ∧ wr.ownsRow w1.heap.size 24 2 o acc.length (pcells acc) ∧ Gr w wr ∧ w1.heap.size ≤ wr.heap.size ∧ prs L = (prs l).map (acc ++ ·) ∧ acc.length + l.length ≤ L.length ∧ ∀ x ∈ l, x < 256) (fun o _ => L.length + 1 - lenOf o)
  case atStart => exact ⟨L, [], hs, World.ownsRow_nil _ _ _ _, g1, Nat.le_refl _, by cases prs L <;> simp, by simp, hl⟩
  case round =>
    obtain ⟨l, acc, hs', own, gr, hsz, hps, hlen, hlt⟩ := hrel
    have HL := Lib.hid (rleft g vb l _ hs')
    go_wp2_with fail
    refine HL.out.mono ?_
    rintro r wl ⟨rfl, gl⟩
    replace hs' := hs'.gr gl
    replace own := own_gr gl own
    replace gr := gr.trans gl
    replace hsz := Nat.le_trans hsz gl.size
    clear HL gl
    cases l with
    | nil =>
      have hp := Lib.hid (show prs L = some acc by rw [hps, prs_nil]; simp)
      have HO := Lib.hid own
      have HG := Lib.hid gr
      clear own gr hs' hps hlen hlt hsz
      go_wp2
      refine bodyPost_ret (v := .tuple #[u5, .bool true]) (by simp [results, Try.results21, go_sem]) rfl ?_
      exact PParse.yes _ hp.out (own_mono g1.size HO.out) HG.out
    | cons m r =>
      have hlm : decide ((0 : Int) < ((m :: r).length : Int)) = true := by simp
      generalize hll : m :: r = l at *
      cases hpd : prd l with
      | none =>
        have hp := Lib.hid (show prs L = none by rw [hps, prs_no (by rw [← hll]; simp) hpd]; rfl)
        have HR := Lib.hid (rread_no g vb l hlt _ hs' (fun b hb => by have := hvb1 b hb; omega) hpd)
        have HG := Lib.hid gr
        clear own gr hs' hps hlen hlt hsz hpd
        generalize (l.length : Int) = lz at *
        go_wp2_with (go_at_call 25; refine HR.out.mono ?_; rintro r w2 ⟨rfl, gb⟩)
        refine bodyPost_ret (v := .tuple #[.slice none 0 0, .bool false]) (by simp [results, Try.results21, go_sem]) rfl ?_
        exact PParse.no hp.out ((Gb.gr gb HG.out hg).alloc _)
      | some q =>
        obtain ⟨x, n, rest⟩ := q
        have hless := prd_less hpd
        have HR := Lib.hid (rread_yes g vb l hlt _ hs' (fun b hb => by have := hvb1 b hb; omega) hpd)
        have hlt' : ∀ y ∈ rest, y < 256 := fun y hy => hlt y (prd_mem hpd y hy)
        have hps' : prs L = (prs rest).map ((acc ++ [(x, n)]) ++ ·) := by
          rw [hps, prs_yes hpd]
          cases prs rest <;> simp
        have hlen' : acc.length + l.length ≤ 1000 := by omega
        have HO := Lib.hid own
        have HG := Lib.hid gr
        have HP := Lib.hid (And.intro hps' (And.intro hlen hlt'))
        have hlo := own_len own
        clear own gr hs' hps hps' hlen hlt hlt' hpd
        generalize hlz : (l.length : Int) = lz at *
        go_wp2_with fail
        refine HR.out.mono ?_
        rintro r w2 ⟨rfl, hs2, gb2⟩
        have own2 := own_gb gb2 hg1 HO.out
        have gr2 := Gb.gr gb2 HG.out hg
        have hsz2 := Gb.size' gb2
        have hsrc := Lib.hid hs2
        clear hs2
        go_wp2_with (at_builtin; go_loud (refine wpL_app w1.heap.size 24 i0 _ 2 16 Try.underlying35 hi'.out hz0 hz1 hz2 rfl (by decide) _ acc.length _ (by rfl) (World.ownsRow.alloc (World.ownsRow.alloc own2 _) _) _ 1 [.int .u32 (x : Int), .int .i64 (n : Int)] (by rfl) (by have h := Rd.new (w2.alloc (.cells #[.int .u32 (x : Int), .int .i64 (n : Int)] 24)) [.int .u32 (x : Int), .int .i64 (n : Int)] 24 2 1 rfl (by decide); simp only [World.size_alloc] at h; exact h) (by intro u hu; simp at hu; rcases hu with rfl | rfl <;> rfl) (by unfold maxLen; omega) (by omega) (by simp; omega) (fun v1 w3 own3 gb3 => ?_)))
        go_roundw
        case rel =>
          refine ⟨rest, acc ++ [(x, n)], RS.grown (World.ownsRow.alloc (World.ownsRow.alloc own2 _) _) gb3 hg1 hvb1 ((hsrc.out.gr ((Gr.refl _).alloc _)).gr ((Gr.refl _).alloc _)), by rw [List.length_append, pcells_snoc]; exact own3, gr_grown ((gr2.alloc _).alloc _) g1.size (World.ownsRow.alloc (World.ownsRow.alloc own2 _) _) gb3, ?_, HP.out.1, by rw [List.length_append]; have := HP.out.2.1; simp; omega, HP.out.2.2⟩
          have := World.grownBy.size gb3
          simp at this
          omega
        case measure =>
          have := own_len own3
          have := HP.out.2.1
          omega
end Go.Proofs.Ytobkhhpccakmfaa
