/- The law PrefixReads, walked: the two texts read alike. -/
import Derived.Test.YtobkhhpccakmfaaLives3
import Derived.Test.YtobkhhpccakmfaaRef3b
import Derived.Test.YtobkhhpccakmfaaSame
namespace Go.Proofs.Ytobkhhpccakmfaa
open Go.RowKit

theorem PParse.both {w w' : World} {l : List Nat} {r : Ending} (h : PParse w l r w') : ∃ v, r = .returned (.tuple #[v, .bool (prs l).isSome]) ∧ Rd w' 2 v ((prs l).getD []).length (pcells ((prs l).getD [])) ∧ Gr w w' := by
  unfold PParse at h
  cases hp : prs l with
  | none =>
    rw [hp] at h
    exact ⟨_, h.1, Rd.nil _ _, h.2⟩
  | some ps =>
    rw [hp] at h
    obtain ⟨v, h1, h2, h3⟩ := h
    exact ⟨v, h1, Rd.of_own h2, h3⟩
/-- what a Read of one prefix answers -/
def rdA (l : List Nat) : Nat := match prd l with
  | none => 0
  | some (a, _, _) => a
def rdN (l : List Nat) : Nat := match prd l with
  | none => 0
  | some (_, n, _) => n
theorem PRead.both {w w' : World} {g : Nat} {vb : Option Nat} {l : List Nat} {r : Ending} (h : PRead w g vb l r w') : r = .returned (.tuple #[.agg #[.int .u32 (rdA l : Nat), .int .i64 (rdN l : Nat)], .bool (prd l).isSome]) ∧ Gb g w w' := by
  unfold PRead at h
  unfold rdA rdN
  cases hp : prd l with
  | none => rw [hp] at h; exact h
  | some q => rw [hp] at h; exact ⟨h.1, h.2.2⟩
theorem PReadR.both {w w' : World} {g : Nat} {vb : Option Nat} {l : List Nat} {r : Ending} (h : PReadR w g vb l r w') : r = .returned (.tuple #[.agg #[.int .u32 (rdA l : Nat), .int .i64 (rdN l : Nat)], .bool (prd l).isSome]) ∧ Gb g w w' := by
  unfold PReadR at h
  unfold rdA rdN
  cases hp : prd l with
  | none => rw [hp] at h; exact h
  | some q => rw [hp] at h; exact ⟨h.1, h.2.2⟩
theorem prs_length : ∀ (n : Nat) (l : List Nat), l.length ≤ n → ((prs l).getD []).length ≤ l.length
  | 0, l, h => by
    have : l = [] := List.eq_nil_of_length_eq_zero (by omega)
    subst this
    rw [prs_nil]; simp
  | n + 1, l, h => by
    cases hl : l with
    | nil => rw [prs_nil]; simp
    | cons m r =>
      rw [← hl]
      cases hp : prd l with
      | none => rw [prs_no (by rw [hl]; simp) hp]; simp
      | some q =>
        obtain ⟨a, k, rest⟩ := q
        have h1 := prd_less hp
        have h2 := prs_length n rest (by omega)
        rw [prs_yes hp]
        cases hq : prs rest with
        | none => simp
        | some ps => rw [hq] at h2; simp at h2 ⊢; omega

set_option maxHeartbeats 800000 in
theorem law_reads (v : Value) (L : List Nat) (hl : ∀ x ∈ L, x < 256) (w : World) (hr : Rd w 1 v L.length (u8s L)) :
    Calls Try.prog 5 #[v] w fun e w' => e = .returned (.bool true) ∧ Gr w w' := by
  have HR := Lib.hid hr
  obtain ⟨_, p, c, rfl, _⟩ := hr
  rename_i z1 z2
  clear z1 z2
  by_cases hln : 1000 < L.length
  · clear HR hl
    go_enter Try.func5, Try.ntmps5
    go_wp2_with (go_at_call 11; refine (lives3 _).mono ?_; rintro e w2 ⟨rfl, hb2⟩)
    go_ret
    exact ⟨rfl, hb2⟩
  · have hln' : L.length ≤ 1000 := by omega
    have hps := prs_length _ L (Nat.le_refl _)
    have H1 := Lib.hid fun (W : World) (k : Gr w W) => pparse _ L hl hln' W (HR.out.gr k)
    have H2 := Lib.hid fun (W : World) (k : Gr w W) => rparse _ L hl hln' W (HR.out.gr k)
    have H3 := Lib.hid fun (W : World) (k : Gr w W) => wread _ L (by omega) W (HR.out.gr k)
    have H4 := Lib.hid fun (W : World) (k : Gr w W) => rread1 _ L hln' W (HR.out.gr k)
    have HL := Lib.hid hl
    clear hl
    go_enter Try.func5, Try.ntmps5
    go_wp2_with fail
    refine (H1.out _ (Gr.refl w)).mono ?_
    intro r w1 hr1
    obtain ⟨v1, rfl, rd1, g1⟩ := hr1.both
    clear hr1
    go_wp2_with fail
    refine (H2.out _ g1).mono ?_
    intro r w2 hr2
    obtain ⟨v2, rfl, rd2, g2⟩ := hr2.both
    clear hr2
    generalize (prs L).getD [] = ps at *
    generalize (prs L).isSome = ok at *
    have RD := Lib.hid (And.intro (rd1.gr g2) rd2)
    have G2 := g1.trans g2
    clear g1 g2 rd1 rd2 H1 H2
    go_wp2_with fail
    refine (H3.out _ G2).mono ?_
    rintro r w3 ⟨gs, vs, rfl, hgs, hs, hvs, g3⟩
    go_wp2_with fail
    refine (H4.out _ (G2.trans g3)).mono ?_
    rintro r w4 ⟨gt, vt, rfl, hgt, ht, hvt, g4⟩
    have hslt := (hs.gr g4).lt
    have H5 := Lib.hid (pread gs vs L HL.out hln' 0 w4 (hs.gr g4) (fun b hb => by have := hvs b hb; omega))
    have HG4 := Lib.hid (And.intro G2 (g3.trans g4))
    have hh := hs.lt
    clear hs g3 g4 H3 H4
    go_wp2_with fail
    refine H5.out.mono ?_
    intro r w5 hr5
    obtain ⟨rfl, g5⟩ := hr5.both
    clear hr5 H5
    go_wp2_with fail
    have G5 := Gb.gr g5 HG4.out.2 hgs
    have ht5 := (ht.gb g5 (by omega) (fun hh' => by have := hvt _ hh'; omega)).gr ((Gr.refl w5).alloc (.cells #[.int .u32 (rdA L : Nat), .int .i64 (rdN L : Nat)] 24))
    have hsz5 := Gb.size' g5
    have hlt4 := ht.lt
    have H6 := Lib.hid (rread3 gt vt L HL.out _ ht5 (fun b hb => by have := hvt b hb; simp; omega))
    have hgt2 : w2.heap.size ≤ gt := by omega
    have d0 := (has_new w5 [.int .u32 (rdA L : Nat), .int .i64 (rdN L : Nat)] 24 0 _ rfl) _ (Gr.refl _)
    have d1 := (has_new w5 [.int .u32 (rdA L : Nat), .int .i64 (rdN L : Nat)] 24 1 _ rfl) _ (Gr.refl _)
    have hq : w5.heap.size ≠ gt := by omega
    clear ht5
    refine H6.out.mono ?_
    intro r w6 hr6
    obtain ⟨rfl, g6⟩ := hr6.both
    replace d0 := Gb.cell g6 (p := ⟨w5.heap.size, 0, none⟩) hq d0
    replace d1 := Gb.cell g6 (p := ⟨w5.heap.size, 1, none⟩) hq d1
    have G6 := Gb.gr g6 (G5.alloc _) hgt2
    clear hr6 H6 g6 g5
    generalize rdA L = A at *
    generalize rdN L = N at *
    generalize (prd L).isSome = b at *
    go_wp2_with fail
    have d2 := (has_new w6 [.int .u32 (A : Nat), .int .i64 (N : Nat)] 24 0 _ rfl) _ (Gr.refl _)
    have d3 := (has_new w6 [.int .u32 (A : Nat), .int .i64 (N : Nat)] 24 1 _ rfl) _ (Gr.refl _)
    have gA := (Gr.refl w6).alloc (.cells #[.int .u32 (A : Nat), .int .i64 (N : Nat)] 24)
    replace d0 := gA.cell d0
    replace d1 := gA.cell d1
    have G7 := G6.trans gA
    refine (rsame ps (by omega) v1 v2 _ (RD.out.1.gr G7) (RD.out.2.gr G7)).mono ?_
    rintro r w8 ⟨rfl, g8⟩
    replace d0 := g8.cell d0
    replace d1 := g8.cell d1
    replace d2 := g8.cell d2
    replace d3 := g8.cell d3
    have GW := Lib.hid ((HG4.out.1.trans G7).trans g8)
    clear g8 G7 gA G6 G5 RD
    have hb0 : (b == b) = true := by simp
    go_wp2_with (go_at_call 11; refine (lives3 _).mono ?_; rintro e w9 ⟨rfl, hb9⟩)
    all_goals trace_state
    go_ret
    exact ⟨rfl, GW.out.trans hb9⟩
end Go.Proofs.Ytobkhhpccakmfaa
