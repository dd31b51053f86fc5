/- Part 6 of the proof of framePiecesCard_holds: MsRq, Vrt, Vcd ... No condition. -/
import Derived.Test.YtogbdjlelkepcaaGreatDoorFp1
import Derived.Test.YtogbdjlelkepcaaGreatDoorFp2
import Derived.Test.YtogbdjlelkepcaaGreatDoorFp3
import Derived.Test.YtogbdjlelkepcaaGreatDoorFp4
import Derived.Test.YtogbdjlelkepcaaGreatDoorFp5
set_option maxRecDepth 100000
namespace Go.Proofs.YtogbdjlelkepcaaGreatDoor
open Go.RowKit

section
variable {P : Program} {G : Globs}
theorem opure_rlo {t e : TypeId} {x i : Operand} {l : List (Nat × TV)} {inf : TypeInfo} {id off n : Nat} {k : IntKind} {z : Int} (ht : P.underlying t = some (.slice e)) (hi : P.info? e = some inf)
  (hx : evOf G l x = .row inf.size id off n) (hz : evOf G l i = .val (.int k z)) (h0 : 0 ≤ z) (h1 : z.toNat < n) : OPure P G (.slice t x (some i) none none) l (.row inf.size id (off + z.toNat) (n - z.toNat)) := by
 refine ⟨?_⟩
 have h2 : Nat.beq z.toNat n = false := by
  cases hb : Nat.beq z.toNat n
  ·rfl
  ·have := Nat.eq_of_beq_eq_true hb; omega
 have h3 : Nat.ble z.toNat n = true := Nat.ble_eq_true_of_le (by omega)
 have h4 : Nat.ble n n = true := Nat.ble_eq_true_of_le (Nat.le_refl _)
 have hlow : lowOf (some (evOf G l i)) = some z.toNat := by simp [lowOf, natOf, hz, h0]
 have hR : vsliceR P t (evOf G l x) (some (evOf G l i)) none none = some (.row inf.size id (off + z.toNat) (n - z.toNat)) := by
  rw [hx]
  simp only [vsliceR, ht, hi, hlow, hiOf]
  generalize z.toNat = w at h1 h2 h3 ⊢
  cases w with
  | zero => simp [h4, Nat.beq_refl, Nat.ble_eq_true_of_le (Nat.zero_le n)]
  | succ w => simp [h2, h3, h4, Nat.beq_refl]
 simp [vpure2, vslice3, hR]
end
theorem opure_r8 {G : Globs} {x i : Operand} {l : List (Nat × TV)} {id off n : Nat} {k : IntKind} {z : Int} (hx : evOf G l x = .row 1 id off n) (hz : evOf G l i = .val (.int k z)) (h0 : 0 ≤ z) (h1 : z < n) : OPure Tryz.prog G (.indexAddr 22 x i) l (.ptr id (off + z.toNat)) := by
 obtain ⟨inf, i1, i2, _, _⟩ := u8Inf_ex
 have h := opure_indexR (P := Tryz.prog) (G := G) (t := 22) (x := x) (i := i) (l := l) (inf := inf) (id := id) (off := off) (n := n) Tryz.underlying22 i1 (by rw [i2]; exact hx) hz h0 h1
 rw [i2, Nat.mul_one, Nat.mul_one] at h
 exact h
theorem opure_rs8 {G : Globs} {x i : Operand} {l : List (Nat × TV)} {id off n : Nat} {k : IntKind} {z : Int} (hx : evOf G l x = .row 1 id off n) (hz : evOf G l i = .val (.int k z)) (h0 : 0 ≤ z) (h1 : z.toNat < n) : OPure Tryz.prog G (.slice 22 x (some i) none none) l (.row 1 id (off + z.toNat) (n - z.toNat)) := by
 obtain ⟨inf, i1, i2, _, _⟩ := u8Inf_ex
 have h := opure_rlo (P := Tryz.prog) (G := G) (t := 22) (x := x) (i := i) (l := l) (inf := inf) (id := id) (off := off) (n := n) Tryz.underlying22 i1 (by rw [i2]; exact hx) hz h0 h1
 rw [i2] at h
 exact h
theorem r19_of {l : List Int} (h : 19 ≤ l.length) : ∃ (z0 z1 z2 z3 z4 z5 z6 z7 z8 z9 z10 z11 z12 z13 z14 z15 z16 z17 z18 : Int) (l2 : List Int), l = z0 :: z1 :: z2 :: z3 :: z4 :: z5 :: z6 :: z7 :: z8 :: z9 :: z10 :: z11 :: z12 :: z13 :: z14 :: z15 :: z16 :: z17 :: z18 :: l2 := by
 obtain ⟨z0, l0, e0, h0⟩ := un1 h
 subst e0
 obtain ⟨z1, l1, e1, h1⟩ := un1 h0
 subst e1
 obtain ⟨z2, l2, e2, h2⟩ := un1 h1
 subst e2
 obtain ⟨z3, l3, e3, h3⟩ := un1 h2
 subst e3
 obtain ⟨z4, l4, e4, h4⟩ := un1 h3
 subst e4
 obtain ⟨z5, l5, e5, h5⟩ := un1 h4
 subst e5
 obtain ⟨z6, l6, e6, h6⟩ := un1 h5
 subst e6
 obtain ⟨z7, l7, e7, h7⟩ := un1 h6
 subst e7
 obtain ⟨z8, l8, e8, h8⟩ := un1 h7
 subst e8
 obtain ⟨z9, l9, e9, h9⟩ := un1 h8
 subst e9
 obtain ⟨z10, l10, e10, h10⟩ := un1 h9
 subst e10
 obtain ⟨z11, l11, e11, h11⟩ := un1 h10
 subst e11
 obtain ⟨z12, l12, e12, h12⟩ := un1 h11
 subst e12
 obtain ⟨z13, l13, e13, h13⟩ := un1 h12
 subst e13
 obtain ⟨z14, l14, e14, h14⟩ := un1 h13
 subst e14
 obtain ⟨z15, l15, e15, h15⟩ := un1 h14
 subst e15
 obtain ⟨z16, l16, e16, h16⟩ := un1 h15
 subst e16
 obtain ⟨z17, l17, e17, h17⟩ := un1 h16
 subst e17
 obtain ⟨z18, l18, e18, h18⟩ := un1 h17
 subst e18
 exact ⟨z0, z1, z2, z3, z4, z5, z6, z7, z8, z9, z10, z11, z12, z13, z14, z15, z16, z17, z18, l18, rfl⟩
theorem sb_cs {l : List Int} {off n : Nat} (h : RwOk (l.map u8v) off n) : sbB (l.map u8v) off n = bV ((l.drop off).take n) := sb_eq (by have := h.1; rwa [List.length_map] at this)
set_option maxHeartbeats 1000000 in
theorem nt_row {cs : List TV} {n : Nat} (hr : RwOk cs 19 n) (hn : 2 ≤ n) : VCx Tryz.prog noGl 0 ntF [.row 1 0 19 n] ⟨[.row cs], []⟩ fun x T' => x = ntX (sbB cs 19 n) ∧ T' = ⟨[.row cs], []⟩ := by
  have hb := hr.is
  refine VCx.leRow hr.ren (ntX_ren hb) ?_
  obtain ⟨m, rfl⟩ : ∃ m, n = m + 2 := ⟨n - 2, by omega⟩
  have hr0 := hr
  obtain ⟨h1, h2, l, rfl, hz⟩ := hr
  rw [List.length_map] at h1 h2
  obtain ⟨z0, z1, z2, z3, z4, z5, z6, z7, z8, z9, z10, z11, z12, z13, z14, z15, z16, z17, z18, l2, rfl⟩ := r19_of (l := l) (by omega)
  obtain ⟨y0, l3, e3, h3⟩ := un1 (n := m + 1) (l := l2) (by simp only [List.length_cons] at h1; omega)
  subst e3
  obtain ⟨y1, l4, e4, h4⟩ := un1 (n := m) (l := l3) h3
  subst e4
  have hsb := sb_cs hr0
  have hsb2 : sbB ((z0 :: z1 :: z2 :: z3 :: z4 :: z5 :: z6 :: z7 :: z8 :: z9 :: z10 :: z11 :: z12 :: z13 :: z14 :: z15 :: z16 :: z17 :: z18 :: y0 :: y1 :: l4).map u8v) 19 (m + 2) = bT y0 :: bT y1 :: bV (l4.take m) := hsb
  have hr2 : RwOk ((z0 :: z1 :: z2 :: z3 :: z4 :: z5 :: z6 :: z7 :: z8 :: z9 :: z10 :: z11 :: z12 :: z13 :: z14 :: z15 :: z16 :: z17 :: z18 :: y0 :: y1 :: l4).map u8v) 21 m := hr0.sub (by simp only [List.length_map, List.length_cons]; omega)
  have hsb3 : sbB ((z0 :: z1 :: z2 :: z3 :: z4 :: z5 :: z6 :: z7 :: z8 :: z9 :: z10 :: z11 :: z12 :: z13 :: z14 :: z15 :: z16 :: z17 :: z18 :: y0 :: y1 :: l4).map u8v) 21 m = bV (l4.take m) := sb_cs hr2
  have i0 : inZ y0 := hz y0 (by simp)
  have i1 : inZ y1 := hz y1 (by simp)
  have hml : (bV (l4.take m)).length = m := by rw [← hsb3]; exact sb_len _ _ _
  rw [hsb2]
  have hq : r19 (.val (.int .u8 z0)) (.val (.int .u8 z1)) (.val (.int .u8 z2)) (.val (.int .u8 z3)) (.val (.int .u8 z4)) (.val (.int .u8 z5)) (.val (.int .u8 z6)) (.val (.int .u8 z7)) (.val (.int .u8 z8)) (.val (.int .u8 z9)) (.val (.int .u8 z10)) (.val (.int .u8 z11)) (.val (.int .u8 z12)) (.val (.int .u8 z13)) (.val (.int .u8 z14)) (.val (.int .u8 z15)) (.val (.int .u8 z16)) (.val (.int .u8 z17)) (.val (.int .u8 z18)) (TV.val (Value.int IntKind.u8 y0) :: TV.val (Value.int IntKind.u8 y1) :: l4.map u8v) = (z0 :: z1 :: z2 :: z3 :: z4 :: z5 :: z6 :: z7 :: z8 :: z9 :: z10 :: z11 :: z12 :: z13 :: z14 :: z15 :: z16 :: z17 :: z18 :: y0 :: y1 :: l4).map u8v := rfl
  have hO : ntO (bT y0 :: bT y1 :: bV (l4.take m)) = (decide (m ≤ 4075) && !decide (y0 = 0)) := by
    unfold ntO
    have e1 : 2 ≤ (bT y0 :: bT y1 :: bV (l4.take m)).length := by simp
    rw [decide_eq_true e1, Bool.true_and]
    show (decide ((bV (l4.take m)).length ≤ 4075) && !decide (y0 = 0)) = _
    rw [hml]
  have bad : ntO (bT y0 :: bT y1 :: bV (l4.take m)) = false → TVle (.tup [.agg [.val (.int .i64 0), .val (.int .i64 0), .val (.slice none 0 0)], .val (.bool false)]) (ntX (bT y0 :: bT y1 :: bV (l4.take m))) := fun h => by
    rw [ntX_eq, h]
    exact .tup ⟨.agg ⟨.refl _, .refl _, .nil 1, trivial⟩, .refl _, trivial⟩
  by_cases hm0 : m = 0
  · subst hm0
    refine vcallF_is mixedB_Tryz bodiesB_Tryz (specs_ok fun p hp => by obtain rfl := List.mem_singleton.1 hp; exact cloneW_ok) lsOk_none (ev_ntR2 (.val (.int .u8 z0)) (.val (.int .u8 z1)) (.val (.int .u8 z2)) (.val (.int .u8 z3)) (.val (.int .u8 z4)) (.val (.int .u8 z5)) (.val (.int .u8 z6)) (.val (.int .u8 z7)) (.val (.int .u8 z8)) (.val (.int .u8 z9)) (.val (.int .u8 z10)) (.val (.int .u8 z11)) (.val (.int .u8 z12)) (.val (.int .u8 z13)) (.val (.int .u8 z14)) (.val (.int .u8 z15)) (.val (.int .u8 z16)) (.val (.int .u8 z17)) (.val (.int .u8 z18)) y0 y1 (l4.map u8v) _) ?_
    refine ⟨.nil, ⟨rfl, rfl, trivial⟩, ?_⟩
    rw [i0.wrap, i1.wrap]
    refine cond_of (fun c1 => ?_) (fun c1 => ?_)
    rotate_left
    · exact ⟨bad (by rw [hO, decide_eq_true (show y0 = 0 by have := of_decide_eq_false c1; have := i0.1; omega)]; simp), rfl⟩
    refine condT (decide_eq_true (by have := i0.2; omega)) (condT (decide_eq_true i1.1) (condT (decide_eq_true (by have := i1.2; omega)) ⟨?_, rfl⟩))
    have hy0 : ¬ y0 = 0 := by have := of_decide_eq_true c1; omega
    rw [ntX_eq, show ntO (bT y0 :: bT y1 :: bV (l4.take 0)) = true by rw [hO, decide_eq_false hy0]; rfl]
    exact .refl _
  refine vcallF_is mixedB_Tryz bodiesB_Tryz (specs_ok fun p hp => by obtain rfl := List.mem_singleton.1 hp; exact clR_ok) lsOk_none (ev_ntR (.val (.int .u8 z0)) (.val (.int .u8 z1)) (.val (.int .u8 z2)) (.val (.int .u8 z3)) (.val (.int .u8 z4)) (.val (.int .u8 z5)) (.val (.int .u8 z6)) (.val (.int .u8 z7)) (.val (.int .u8 z8)) (.val (.int .u8 z9)) (.val (.int .u8 z10)) (.val (.int .u8 z11)) (.val (.int .u8 z12)) (.val (.int .u8 z13)) (.val (.int .u8 z14)) (.val (.int .u8 z15)) (.val (.int .u8 z16)) (.val (.int .u8 z17)) (.val (.int .u8 z18)) y0 y1 (l4.map u8v) m _) ?_
  refine ⟨opure_r8 (z := 0) (n := m + 2) rfl rfl (by decide) (by omega), opure_r8 (z := 1) (n := m + 2) rfl rfl (by decide) (by omega), opure_rs8 (z := 2) (n := m + 2) rfl rfl (by decide) (by show 2 < m + 2; omega), ⟨rfl, hr2⟩, ⟨rfl, rfl, trivial⟩, ?_⟩
  rw [i0.wrap, i1.wrap, hq, hsb3]
  refine cond_of (fun c1 => ?_) (fun c1 => ?_)
  rotate_left
  · exact ⟨bad (by rw [hO, decide_eq_true (show y0 = 0 by have := of_decide_eq_false c1; have := i0.1; omega)]; simp), rfl⟩
  refine condT (decide_eq_true (by have := i0.2; omega)) (condT (decide_eq_true i1.1) (condT (decide_eq_true (by have := i1.2; omega)) ?_))
  have hy0 : ¬ y0 = 0 := by have := of_decide_eq_true c1; omega
  by_cases h5 : m ≤ 4075
  · refine condF (by rw [hml, decide_eq_true (show ((m : Nat) : Int) ≤ 4075 by omega)]; rfl) ⟨?_, rfl⟩
    rw [ntX_eq, show ntO (bT y0 :: bT y1 :: bV (l4.take m)) = true by rw [hO, decide_eq_true h5, decide_eq_false hy0]; rfl]
    exact .refl _
  · refine condT (by rw [hml, decide_eq_false (show ¬ ((m : Nat) : Int) ≤ 4075 by omega)]; rfl) ⟨bad (by rw [hO, decide_eq_false h5]; rfl), rfl⟩
theorem or2 {z16 z17 : Int} (h16 : inZ z16) (h17 : inZ z17) : IntKind.wrap IntKind.u64 (↑(BitVec.toNat (BitVec.ofInt (IntKind.bits IntKind.u64) (IntKind.wrap IntKind.u64 (IntKind.wrap IntKind.u64 (↑(BitVec.toNat (BitVec.ofInt (IntKind.bits IntKind.u64) (IntKind.wrap IntKind.u64 ((0 : Int) * (2 : Int) ^ min (Int.toNat (8 : Int)) (IntKind.bits IntKind.u64))) ||| BitVec.ofInt (IntKind.bits IntKind.u64) (IntKind.wrap IntKind.u64 z16))) : Int) * (2 : Int) ^ min (Int.toNat (8 : Int)) (IntKind.bits IntKind.u64))) ||| BitVec.ofInt (IntKind.bits IntKind.u64) (IntKind.wrap IntKind.u64 z17))) : Int) = (0 * 256 + z16) * 256 + z17 := by
 have a := h16.1; have b := h16.2; have c := h17.1; have d := h17.2
 rw [or_byte (n := 0) (z := z16) (by omega) (by omega) (by omega) (by omega), or_byte (n := 0 * 256 + z16) (z := z17) (by omega) (by omega) (by omega) (by omega)]
theorem g16_row {cs : List TV} {n : Nat} (hr : RwOk cs 0 n) (hn : 19 ≤ n) : VCx Tryz.prog noGl 0 g16F [.row 1 0 0 n, .val (.int .i64 16)] ⟨[.row cs], []⟩ fun x T' => x = .tup [.val (.int .i64 (hzN (sbB cs 0 n))), .val (.bool true)] ∧ T' = ⟨[.row cs], []⟩ := by
 refine VCx.leRow hr.ren (fun _ _ => rfl) ?_
 obtain ⟨m, rfl⟩ : ∃ m, n = m + 19 := ⟨n - 19, by omega⟩
 have hr0 := hr
 obtain ⟨h1, h2, l, rfl, hz⟩ := hr
 rw [List.length_map] at h1 h2
 obtain ⟨z0, z1, z2, z3, z4, z5, z6, z7, z8, z9, z10, z11, z12, z13, z14, z15, z16, z17, z18, l2, rfl⟩ := r19_of (l := l) (by omega)
 have hsb : sbB ((z0 :: z1 :: z2 :: z3 :: z4 :: z5 :: z6 :: z7 :: z8 :: z9 :: z10 :: z11 :: z12 :: z13 :: z14 :: z15 :: z16 :: z17 :: z18 :: l2).map u8v) 0 (m + 19) = z19 z0 z1 z2 z3 z4 z5 z6 z7 z8 z9 z10 z11 z12 z13 z14 z15 z16 z17 z18 (bV (l2.take m)) := sb_cs hr0
 have i16 : inZ z16 := hz z16 (by simp)
 have i17 : inZ z17 := hz z17 (by simp)
 refine vcallF_is mixedB_Tryz bodiesB_Tryz specsOk_none lsOk_none (ev_g16 z0 z1 z2 z3 z4 z5 z6 z7 z8 z9 z10 z11 z12 z13 z14 z15 z16 z17 z18 (l2.map u8v) m _) ?_
 refine condF (by rw [wrap_id (z := ((m + 19 : Nat) : Int) - 2) (by omega) (by omega), decide_eq_true (show (16 : Int) ≤ ((m + 19 : Nat) : Int) - 2 by omega)]; rfl) ⟨opure_rs8 (z := 16) (n := m + 19) rfl rfl (by decide) (by show 16 < m + 19; omega), ?_, rfl⟩
 rw [or2 i16 i17, hsb]
 have a := i16.1; have b := i16.2; have c := i17.1; have d := i17.2
 rw [wrap_id (z := (0 * 256 + z16) * 256 + z17) (by omega) (by omega)]
 exact .refl _
theorem g16R_ok : ∀ ro ys T K, g16R ro ys T K → VCx Tryz.prog leastG ro g16F ys T K := by
 intro ro ys T K hw
 unfold g16R at hw
 split at hw
 ·split at hw
  ·rename_i k off n _ cs ho
   obtain ⟨⟨hro, h, hn, rfl⟩, hk⟩ := hw
   exact VCx.atRow leastG_vals (Nat.le_of_ble_eq_true hro) ho h.ren (fun f g => rfl) (by simp [renL, TV.ren, nameIn]) (VCx.anyG (g16_row h (Nat.le_of_ble_eq_true hn))) hk
  ·exact hw.elim
 ·exact hw.elim
def FzRw (cs : List TV) (T' : VT) (x y : TV) : Prop := ∃ T2, FzLe T' x y T2 ∧ T'.objs.length ≤ T2.objs.length ∧ T2.objs[0]? = some (.row cs)
theorem FzRw.le {cs : List TV} {T' : VT} {x y : TV} (h : TVle x y) (h0 : T'.objs[0]? = some (.row cs)) : FzRw cs T' x y := ⟨T', .le h, Nat.le_refl _, h0⟩
theorem row2R {cs : List TV} {z16 z17 : Int} {T' : VT} {id : Nat} (h : T'.objs[id + 1]? = some (.row [.val (.int .u8 z16), .val (.int .u8 z17)])) (h0 : T'.objs[0]? = some (.row cs)) : FzRw cs T' (.row 1 (id + 1) 0 2) (.vec 1 [bT z16, bT z17] .none) :=
 ⟨_, .row (rowsR_flat (es := [bT z16, bT z17]) h (by intro e he; simp only [List.mem_cons, List.not_mem_nil, or_false] at he; rcases he with rfl | rfl <;> rfl)), kill_le _ _, by simp only [VT.kill, List.getElem?_set]; rw [if_neg (by omega)]; exact h0⟩
section
variable {b : Bs} {cs : List TV} {pas : Int}
theorem hd_badR {s : Int} {d : Bs} {dz : TV} {T' : VT} (h : hdP b = .inl (s, d)) (hd : FzRw cs T' dz (.vec 1 d .none)) : FzRw cs T' (.tup [.val (.int .i64 0), .val (.int .i64 0), .agg [.val (.int .i64 1), .val (.int .i64 s), dz]]) (hdX b) := by
 obtain ⟨T2, h1, h2⟩ := hd
 unfold hdX hdV
 rw [h]
 exact ⟨T2, .tup (.le (.le (.cons (.agg (.le (.le (.cons h1 .nil)))) .nil))), h2⟩
theorem hd_goodR {n k : Int} {T' : VT} (h : hdP b = .inr (n, k)) (h0 : T'.objs[0]? = some (.row cs)) : FzRw cs T' (.tup [.val (.int .i64 n), .val (.int .i64 k), .agg [.val (.int .i64 0), .val (.int .i64 0), .val (.slice none 0 0)]]) (hdX b) := by
 unfold hdX hdV
 rw [h]
 exact .le (.tup ⟨.refl _, .refl _, .agg ⟨.refl _, .refl _, .nil 1, trivial⟩, trivial⟩) h0
theorem ms_badR {c s : Int} {d : Bs} {dz : TV} {T' : VT} (h : msP b pas = .inl (c, s, d)) (hd : FzRw cs T' dz (.vec 1 d .none)) : FzRw cs T' (.tup [.agg [.val (.int .i64 0), .val (.int .i64 0), .val (.int .i64 0), .val (.int .u32 0), mNil, mNil, .val (.int .i64 0), mNil, .val (.int .u32 0), .val (.int .i64 0), .val (.bool false), mNil, .val (.int .i64 0), .val (.int .i64 0), mNil], .agg [.val (.int .i64 c), .val (.int .i64 s), dz]]) (msX b pas) := by
 obtain ⟨T2, h1, h2⟩ := hd
 unfold msX msV
 rw [h]
 exact ⟨T2, .tup (.cons (.le m0_le) (.cons (.agg (.le (.le (.cons h1 .nil)))) .nil)), h2⟩
theorem ms_goodR {m : MsgS} {l : List TV} {T' : VT} (h : msP b pas = .inr m) (hm : TVleL l m.cells) (h0 : T'.objs[0]? = some (.row cs)) : FzRw cs T' (.tup [.agg l, .agg [.val (.int .i64 0), .val (.int .i64 0), mNil]]) (msX b pas) := by
 unfold msX msV
 rw [h]
 exact .le (.tup ⟨.agg hm, .agg ⟨.refl _, .refl _, .nil 1, trivial⟩, trivial⟩) h0
end
set_option maxHeartbeats 1000000 in
theorem hd_row {cs : List TV} {n : Nat} (hr : RwOk cs 0 n) (hn : 19 ≤ n) : VCx Tryz.prog leastG 0 hdF [.row 1 0 0 n] ⟨[.row cs], []⟩ fun x T' => x = hdX (sbB cs 0 n) ∧ T' = ⟨[.row cs], []⟩ := by
 have hb := hr.is
 refine VCx.fzRow hr.ren (hdX_ren hb) ?_
 obtain ⟨m, rfl⟩ : ∃ m, n = m + 19 := ⟨n - 19, by omega⟩
 have hr0 := hr
 obtain ⟨h1, h2, l, rfl, hz⟩ := hr
 rw [List.length_map] at h1 h2
 obtain ⟨z0, z1, z2, z3, z4, z5, z6, z7, z8, z9, z10, z11, z12, z13, z14, z15, z16, z17, z18, l2, rfl⟩ := r19_of (l := l) (by omega)
 have hsb : sbB ((z0 :: z1 :: z2 :: z3 :: z4 :: z5 :: z6 :: z7 :: z8 :: z9 :: z10 :: z11 :: z12 :: z13 :: z14 :: z15 :: z16 :: z17 :: z18 :: l2).map u8v) 0 (m + 19) = z19 z0 z1 z2 z3 z4 z5 z6 z7 z8 z9 z10 z11 z12 z13 z14 z15 z16 z17 z18 (bV (l2.take m)) := sb_cs hr0
 have hq : u19 z0 z1 z2 z3 z4 z5 z6 z7 z8 z9 z10 z11 z12 z13 z14 z15 z16 z17 z18 (l2.map u8v) = (z0 :: z1 :: z2 :: z3 :: z4 :: z5 :: z6 :: z7 :: z8 :: z9 :: z10 :: z11 :: z12 :: z13 :: z14 :: z15 :: z16 :: z17 :: z18 :: l2).map u8v := rfl
 have i18 : inZ z18 := hz z18 (by simp)
 rw [hsb] at hb
 have hl : ¬ (z19 z0 z1 z2 z3 z4 z5 z6 z7 z8 z9 z10 z11 z12 z13 z14 z15 z16 z17 z18 (bV (l2.take m))).length < 19 := by simp [z19]
 have hP := hdP_long hl
 have hN := geN2_lt (hb.drop 16)
 have hsz : szB (z19 z0 z1 z2 z3 z4 z5 z6 z7 z8 z9 z10 z11 z12 z13 z14 z15 z16 z17 z18 (bV (l2.take m))) = [bT z16, bT z17] := rfl
 have hkd : kdB (z19 z0 z1 z2 z3 z4 z5 z6 z7 z8 z9 z10 z11 z12 z13 z14 z15 z16 z17 z18 (bV (l2.take m))) = [bT z18] := rfl
 have hk : hzK (z19 z0 z1 z2 z3 z4 z5 z6 z7 z8 z9 z10 z11 z12 z13 z14 z15 z16 z17 z18 (bV (l2.take m))) = z18 := rfl
 change 0 ≤ hzN (z19 z0 z1 z2 z3 z4 z5 z6 z7 z8 z9 z10 z11 z12 z13 z14 z15 z16 z17 z18 (bV (l2.take m))) ∧ hzN (z19 z0 z1 z2 z3 z4 z5 z6 z7 z8 z9 z10 z11 z12 z13 z14 z15 z16 z17 z18 (bV (l2.take m))) < 65536 at hN
 rw [hsz, hkd, hk] at hP
 have hwk : IntKind.wrap IntKind.i64 z18 = z18 := i18.wrap
 refine vcallF_is mixedB_Tryz bodiesB_Tryz (specs_ok fun p hp => by obtain rfl := List.mem_singleton.1 hp; exact g16R_ok) lsOk_none (ev_hdR z0 z1 z2 z3 z4 z5 z6 z7 z8 z9 z10 z11 z12 z13 z14 z15 z16 z17 z18 (hdLe z18) (leRest z18) (l2.map u8v) m _) ?_
 rw [hq, hsb, hwk]
 generalize hzN (z19 z0 z1 z2 z3 z4 z5 z6 z7 z8 z9 z10 z11 z12 z13 z14 z15 z16 z17 z18 (bV (l2.take m))) = n at hP hN
 refine ⟨⟨rfl, hr0, rfl, rfl⟩, opure_r8 (z := 18) (n := m + 19) rfl rfl (by decide) (by omega), ⟨rfl, trivial⟩, ?_⟩
 change _root_.cond _ _ _
 have hall := eqAll_255 [z0, z1, z2, z3, z4, z5, z6, z7, z8, z9, z10, z11, z12, z13, z14, z15]
 refine cond_of (fun c => ?_) (fun c => ?_)
 ·have c2 : (!all255 (z19 z0 z1 z2 z3 z4 z5 z6 z7 z8 z9 z10 z11 z12 z13 z14 z15 z16 z17 z18 (bV (l2.take m)))) = true := Eq.trans (congrArg Bool.not hall).symm c
  have c3 : all255 (z19 z0 z1 z2 z3 z4 z5 z6 z7 z8 z9 z10 z11 z12 z13 z14 z15 z16 z17 z18 (bV (l2.take m))) = false := by simpa using c2
  exact hd_badR (by rw [hP, c3]; rfl) (.le (.nil 1) rfl)
 have c2 : (!all255 (z19 z0 z1 z2 z3 z4 z5 z6 z7 z8 z9 z10 z11 z12 z13 z14 z15 z16 z17 z18 (bV (l2.take m)))) = false := Eq.trans (congrArg Bool.not hall).symm c
 have c3 : all255 (z19 z0 z1 z2 z3 z4 z5 z6 z7 z8 z9 z10 z11 z12 z13 z14 z15 z16 z17 z18 (bV (l2.take m))) = true := by simpa using c2
 rw [c3, cond_true] at hP
 refine cond_of (fun d1 => ?_) (fun d1 => ?_)
 ·exact hd_badR (by rw [hP, if_pos (.inl (of_decide_eq_true d1))]) (row2R (id := 1) rfl rfl)
 replace d1 := of_decide_eq_false d1
 refine cond_of (fun d2 => ?_) (fun d2 => ?_)
 ·exact hd_badR (by rw [hP, if_pos (.inr (of_decide_eq_true d2))]) (row2R (id := 1) rfl rfl)
 replace d2 := of_decide_eq_false d2
 rw [if_neg (show ¬ (n < 19 ∨ n > 4096) by omega)] at hP
 refine cond_of (fun d3 => ?_) (fun d3 => ?_)
 ·exact ⟨opure_r8 (z := 18) (n := m + 19) rfl rfl (by decide) (by omega), hd_badR (by rw [hP, if_pos (.inl (of_decide_eq_true d3))]; rfl) (.le (.vec 1 _ _) rfl)⟩
 replace d3 := of_decide_eq_false d3
 refine cond_of (fun d4 => ?_) (fun d4 => ?_)
 ·exact ⟨opure_r8 (z := 18) (n := m + 19) rfl rfl (by decide) (by omega), hd_badR (by rw [hP, if_pos (.inr (of_decide_eq_true d4))]; rfl) (.le (.vec 1 _ _) rfl)⟩
 replace d4 := of_decide_eq_false d4
 rw [if_neg (show ¬ (z18 < 1 ∨ z18 > 4) by omega)] at hP
 refine ⟨look_least (by omega) (by omega), ?_⟩
 refine cond_of (fun d5 => ?_) (fun d5 => ?_)
 ·exact hd_badR (by rw [hP, if_pos (.inl (of_decide_eq_true d5))]) (row2R (id := 1) rfl rfl)
 replace d5 := of_decide_eq_false d5
 refine cond_of (fun d6 => ?_) (fun d6 => ?_)
 ·replace d6 := eqIt d6
  refine cond_of (fun d7 => ?_) (fun d7 => ?_)
  ·replace d7 := of_decide_eq_true d7
   exact hd_badR (by rw [hP, if_pos (.inr ⟨d6, by omega⟩)]) (row2R (id := 1) rfl rfl)
  ·replace d7 := of_decide_eq_false d7
   exact hd_goodR (by rw [hP, if_neg (by omega)]) rfl
 ·replace d6 := eqIf d6
  exact hd_goodR (by rw [hP, if_neg (by omega)]) rfl
theorem hdR_ok : ∀ ro ys T K, hdR ro ys T K → VCx Tryz.prog leastG ro hdF ys T K := by
 intro ro ys T K hw
 unfold hdR at hw
 split at hw
 ·split at hw
  ·rename_i k off n _ cs ho
   obtain ⟨⟨hro, h, hn, rfl⟩, hk⟩ := hw
   refine VCx.atRow leastG_vals (Nat.le_of_ble_eq_true hro) ho h.ren (hdX_ren h.is) (by simp [renL, TV.ren, nameIn]) (hd_row h (Nat.le_of_ble_eq_true hn)) ?_
   cases hh : hdOk (sbB cs 0 n) <;> rw [hh] at hk
   ·rw [hdX_no hh]; exact hk
   ·rw [hdX_ok hh]; exact hk
  ·exact hw.elim
 ·exact hw.elim
theorem opR_ok : ∀ ro ys T K, opR ro ys T K → VCx Tryz.prog leastG ro opF ys T K := by
 intro ro ys T K hw
 unfold opR at hw
 split at hw
 ·split at hw
  ·rename_i k off n pas _ cs ho
   obtain ⟨⟨hro, h⟩, hk⟩ := hw
   refine VCx.atRow leastG_vals (Nat.le_of_ble_eq_true hro) ho h.ren (opX_ren pas h.is) (by simp [renL, TV.ren, nameIn]) (VCx.anyG (op_row h pas)) ?_
   cases hh : opOk (sbB cs off n) pas <;> rw [hh] at hk
   ·rw [opX_no h.is hh]; exact hk
   ·rw [opX_ok h.is hh]; exact hk
  ·exact hw.elim
 ·exact hw.elim
theorem upR_ok : ∀ ro ys T K, upR ro ys T K → VCx Tryz.prog leastG ro upF ys T K := by
 intro ro ys T K hw
 unfold upR at hw
 split at hw
 ·split at hw
  ·rename_i k off n _ cs ho
   obtain ⟨⟨hro, h⟩, hk⟩ := hw
   refine VCx.atRow leastG_vals (Nat.le_of_ble_eq_true hro) ho h.ren (upX_ren h.is) (by simp [renL, TV.ren, nameIn]) (VCx.anyG (up_row h)) ?_
   cases hh : upOk (sbB cs off n) <;> rw [hh] at hk
   ·rw [upX_no hh]; exact hk
   ·rw [upX_ok hh]; exact hk
  ·exact hw.elim
 ·exact hw.elim
theorem ntR_ok : ∀ ro ys T K, ntR ro ys T K → VCx Tryz.prog leastG ro ntF ys T K := by
 intro ro ys T K hw
 unfold ntR at hw
 split at hw
 ·split at hw
  ·rename_i k off n _ cs ho
   obtain ⟨⟨hro, h, rfl, hn⟩, hk⟩ := hw
   refine VCx.atRow leastG_vals (Nat.le_of_ble_eq_true hro) ho h.ren (ntX_ren h.is) (by simp [renL, TV.ren, nameIn]) (VCx.anyG (nt_row h (Nat.le_of_ble_eq_true hn))) ?_
   rw [ntX_eq]
   cases hh : ntO (sbB cs 19 n) <;> rw [hh] at hk <;> exact hk
  ·exact hw.elim
 ·exact hw.elim
theorem hd_le {b : Bs} (hl : ¬ b.length < 19) (h : hdOk b = true) : hdLe (hdK b) ≤ hdN b ∧ 19 ≤ hdN b ∧ hdN b ≤ 4096 := by
 have hP := hdP_long hl
 unfold hdOk at h
 unfold hdK hdN
 rw [hP] at h ⊢
 cases h1 : all255 b <;> rw [h1] at h <;> simp only [cond_true, cond_false] at h ⊢
 ·cases h
 split at h
 ·rename_i p hp
  split at hp
  ·cases hp
  rename_i c1
  split at hp
  ·cases hp
  rename_i c2
  split at hp
  ·cases hp
  rename_i c3
  injection hp with hp
  rw [← hp]
  simp only
  omega
 ·cases h
theorem mp_rowS : SpecsOk Tryz.prog leastG (specs [(hdF, hdR), (opF, opR), (upF, upR), (ntF, ntR)]) := specs_ok fun p hp => by
 rcases List.mem_cons.1 hp with rfl | hp; exact hdR_ok
 rcases List.mem_cons.1 hp with rfl | hp; exact opR_ok
 rcases List.mem_cons.1 hp with rfl | hp; exact upR_ok
 obtain rfl := List.mem_singleton.1 hp; exact ntR_ok
set_option maxHeartbeats 1000000 in
theorem mp_row {cs : List TV} {n : Nat} (hr : RwOk cs 0 n) (hn : 19 ≤ n) (pas : Int) : VCx Tryz.prog leastG 0 mpF [.row 1 0 0 n, .val (.int .i64 pas)] ⟨[.row cs], []⟩ fun x T' => x = msX (sbB cs 0 n) pas ∧ T' = ⟨[.row cs], []⟩ := by
 have hb := hr.is
 refine VCx.fzRow hr.ren (msX_ren pas hb) ?_
 obtain ⟨m, rfl⟩ : ∃ m, n = m + 19 := ⟨n - 19, by omega⟩
 have hr0 := hr
 obtain ⟨h1, h2, l, rfl, hz⟩ := hr
 rw [List.length_map] at h1 h2
 obtain ⟨z0, z1, z2, z3, z4, z5, z6, z7, z8, z9, z10, z11, z12, z13, z14, z15, z16, z17, z18, l2, rfl⟩ := r19_of (l := l) (by omega)
 have hsb : sbB ((z0 :: z1 :: z2 :: z3 :: z4 :: z5 :: z6 :: z7 :: z8 :: z9 :: z10 :: z11 :: z12 :: z13 :: z14 :: z15 :: z16 :: z17 :: z18 :: l2).map u8v) 0 (m + 19) = z19 z0 z1 z2 z3 z4 z5 z6 z7 z8 z9 z10 z11 z12 z13 z14 z15 z16 z17 z18 (bV (l2.take m)) := sb_cs hr0
 have hrw : RwOk ((z0 :: z1 :: z2 :: z3 :: z4 :: z5 :: z6 :: z7 :: z8 :: z9 :: z10 :: z11 :: z12 :: z13 :: z14 :: z15 :: z16 :: z17 :: z18 :: l2).map u8v) 19 m := hr0.sub (by simp only [List.length_map, List.length_cons] at h1 ⊢; omega)
 have hsw : sbB ((z0 :: z1 :: z2 :: z3 :: z4 :: z5 :: z6 :: z7 :: z8 :: z9 :: z10 :: z11 :: z12 :: z13 :: z14 :: z15 :: z16 :: z17 :: z18 :: l2).map u8v) 19 m = bV (l2.take m) := sb_cs hrw
 have hwl : (bV (l2.take m)).length = m := by rw [← hsw]; exact sb_len _ _ _
 have hq : r19 (.val (.int .u8 z0)) (.val (.int .u8 z1)) (.val (.int .u8 z2)) (.val (.int .u8 z3)) (.val (.int .u8 z4)) (.val (.int .u8 z5)) (.val (.int .u8 z6)) (.val (.int .u8 z7)) (.val (.int .u8 z8)) (.val (.int .u8 z9)) (.val (.int .u8 z10)) (.val (.int .u8 z11)) (.val (.int .u8 z12)) (.val (.int .u8 z13)) (.val (.int .u8 z14)) (.val (.int .u8 z15)) (.val (.int .u8 z16)) (.val (.int .u8 z17)) (.val (.int .u8 z18)) (l2.map u8v) = (z0 :: z1 :: z2 :: z3 :: z4 :: z5 :: z6 :: z7 :: z8 :: z9 :: z10 :: z11 :: z12 :: z13 :: z14 :: z15 :: z16 :: z17 :: z18 :: l2).map u8v := rfl
 rw [hsb] at hb ⊢
 have hlen : ¬ (z19 z0 z1 z2 z3 z4 z5 z6 z7 z8 z9 z10 z11 z12 z13 z14 z15 z16 z17 z18 (bV (l2.take m))).length < 19 := by simp [z19]
 have hln : (z19 z0 z1 z2 z3 z4 z5 z6 z7 z8 z9 z10 z11 z12 z13 z14 z15 z16 z17 z18 (bV (l2.take m))).length = m + 19 := by simp only [z19, List.length_cons, hwl]
 have hsz : szB (z19 z0 z1 z2 z3 z4 z5 z6 z7 z8 z9 z10 z11 z12 z13 z14 z15 z16 z17 z18 (bV (l2.take m))) = [bT z16, bT z17] := rfl
 have hdr : (z19 z0 z1 z2 z3 z4 z5 z6 z7 z8 z9 z10 z11 z12 z13 z14 z15 z16 z17 z18 (bV (l2.take m))).drop 19 = bV (l2.take m) := rfl
 have hPl := fun c => msP_long (b := z19 z0 z1 z2 z3 z4 z5 z6 z7 z8 z9 z10 z11 z12 z13 z14 z15 z16 z17 z18 (bV (l2.take m))) (pas := pas) c hlen
 have hbad := fun c => msP_bad (b := z19 z0 z1 z2 z3 z4 z5 z6 z7 z8 z9 z10 z11 z12 z13 z14 z15 z16 z17 z18 (bV (l2.take m))) (pas := pas) c
 have hle := fun c => hd_le (b := z19 z0 z1 z2 z3 z4 z5 z6 z7 z8 z9 z10 z11 z12 z13 z14 z15 z16 z17 z18 (bV (l2.take m))) hlen c
 rw [hsz, hdr, hln] at hPl
 by_cases hm0 : m = 0
 ·subst hm0
  refine vcallF_is mixedB_Tryz bodiesB_Tryz mp_rowS lsOk_none (ev_mpR0 (.val (.int .u8 z0)) (.val (.int .u8 z1)) (.val (.int .u8 z2)) (.val (.int .u8 z3)) (.val (.int .u8 z4)) (.val (.int .u8 z5)) (.val (.int .u8 z6)) (.val (.int .u8 z7)) (.val (.int .u8 z8)) (.val (.int .u8 z9)) (.val (.int .u8 z10)) (.val (.int .u8 z11)) (.val (.int .u8 z12)) (.val (.int .u8 z13)) (.val (.int .u8 z14)) (.val (.int .u8 z15)) (.val (.int .u8 z16)) (.val (.int .u8 z17)) (.val (.int .u8 z18)) (l2.map u8v) pas _) ?_
  refine ⟨⟨rfl, hr0, rfl, rfl⟩, ?_⟩
  rw [hq, hsb]
  refine cond_of (fun c1 => ?_) (fun c1 => ?_)
  rotate_left
  ·exact ms_badR (hbad c1) (.le (.refl _) rfl)
  have hP := hPl c1
  obtain ⟨hk, _, _⟩ := hle c1
  refine cond_of (fun c2 => ?_) (fun c2 => ?_)
  ·exact ms_badR (hP.trans (if_pos (neIt c2))) (row2R (id := 4) rfl rfl)
  have hN := neIf c2
  rw [if_neg (fun c => c hN)] at hP
  rw [hN] at hk
  refine cond_of (fun c3 => ?_) (fun c3 => ?_)
  ·rw [eqIt c3] at hk; exact absurd hk (by decide)
  rw [if_neg (eqIf c3)] at hP
  refine cond_of (fun c5 => ?_) (fun c5 => ?_)
  ·rw [eqIt c5] at hk; exact absurd hk (by decide)
  rw [if_neg (eqIf c5)] at hP
  refine cond_of (fun c6 => ?_) (fun c6 => ?_)
  ·rw [eqIt c6] at hk; exact absurd hk (by decide)
  rw [if_neg (eqIf c6)] at hP
  exact ms_goodR hP ⟨.refl _, .refl _, .refl _, .refl _, .nil 2, .nil 2, .refl _, .nil 1, .refl _, .refl _, .refl _, .nil 2, .refl _, .refl _, .nil 1, trivial⟩ rfl
 refine vcallF_is mixedB_Tryz bodiesB_Tryz mp_rowS lsOk_none (ev_mpR (.val (.int .u8 z0)) (.val (.int .u8 z1)) (.val (.int .u8 z2)) (.val (.int .u8 z3)) (.val (.int .u8 z4)) (.val (.int .u8 z5)) (.val (.int .u8 z6)) (.val (.int .u8 z7)) (.val (.int .u8 z8)) (.val (.int .u8 z9)) (.val (.int .u8 z10)) (.val (.int .u8 z11)) (.val (.int .u8 z12)) (.val (.int .u8 z13)) (.val (.int .u8 z14)) (.val (.int .u8 z15)) (.val (.int .u8 z16)) (.val (.int .u8 z17)) (.val (.int .u8 z18)) (l2.map u8v) m pas _) ?_
 refine ⟨⟨rfl, hr0, rfl, rfl⟩, ?_⟩
 rw [hq, hsb, hsw]
 refine cond_of (fun c1 => ?_) (fun c1 => ?_)
 rotate_left
 ·exact ms_badR (hbad c1) (.le (.refl _) rfl)
 have hP := hPl c1
 obtain ⟨hkl, _, _⟩ := hle c1
 refine cond_of (fun c2 => ?_) (fun c2 => ?_)
 ·exact ms_badR (hP.trans (if_pos (neIt c2))) (row2R (id := 4) rfl rfl)
 have hN := neIf c2
 rw [if_neg (fun c => c hN)] at hP
 refine ⟨opure_rs8 (z := 19) (n := m + 19) rfl rfl (by decide) (by show 19 < m + 19; omega), ?_⟩
 refine cond_of (fun c3 => ?_) (fun c3 => ?_)
 ·rw [if_pos (eqIt c3)] at hP
  refine ⟨⟨rfl, hrw⟩, cond_of (fun c4 => ?_) (fun c4 => ?_)⟩
  ·exact ms_goodR (hP.trans (by rw [show opOk (bV (l2.take m)) pas = true from c4]; rfl)) ⟨.refl _, .refl _, .refl _, .refl _, .refl _, .nil 2, .refl _, .nil 1, .refl _, .refl _, .refl _, .nil 2, .refl _, .refl _, .nil 1, trivial⟩ rfl
  ·exact ms_badR (hP.trans (by rw [show opOk (bV (l2.take m)) pas = false from c4]; rfl)) (.le (.refl _) rfl)
 rw [if_neg (eqIf c3)] at hP
 refine cond_of (fun c5 => ?_) (fun c5 => ?_)
 ·rw [if_pos (eqIt c5)] at hP
  refine ⟨⟨rfl, hrw⟩, cond_of (fun c4 => ?_) (fun c4 => ?_)⟩
  ·exact ms_goodR (hP.trans (by rw [show upOk (bV (l2.take m)) = true from c4]; rfl)) ⟨.refl _, .refl _, .refl _, .refl _, .nil 2, .refl _, .refl _, .refl _, .refl _, .refl _, .refl _, .refl _, .refl _, .refl _, .nil 1, trivial⟩ rfl
  ·exact ms_badR (hP.trans (by rw [show upOk (bV (l2.take m)) = false from c4]; rfl)) (.le (.refl _) rfl)
 rw [if_neg (eqIf c5)] at hP
 refine cond_of (fun c6 => ?_) (fun c6 => ?_)
 ·rw [if_pos (eqIt c6)] at hP
  rw [eqIt c6, hN] at hkl
  have hm2 : 2 ≤ m := by
   have : hdLe 3 = 21 := by decide
   rw [this] at hkl; omega
  refine ⟨⟨rfl, hrw, rfl, Nat.ble_eq_true_of_le hm2⟩, cond_of (fun c4 => ?_) (fun c4 => ?_)⟩
  ·exact ms_goodR (hP.trans (by rw [show ntO (bV (l2.take m)) = true from c4]; rfl)) ⟨.refl _, .refl _, .refl _, .refl _, .nil 2, .nil 2, .refl _, .nil 1, .refl _, .refl _, .refl _, .nil 2, .refl _, .refl _, .refl _, trivial⟩ rfl
  ·exact ms_badR (hP.trans (by rw [show ntO (bV (l2.take m)) = false from c4]; rfl)) (row2R (id := 4) rfl rfl)
 rw [if_neg (eqIf c6)] at hP
 exact ms_goodR hP ⟨.refl _, .refl _, .refl _, .refl _, .nil 2, .nil 2, .refl _, .nil 1, .refl _, .refl _, .refl _, .nil 2, .refl _, .refl _, .nil 1, trivial⟩ rfl
end Go.Proofs.YtogbdjlelkepcaaGreatDoor
namespace Go.Proofs.YtogbdjlelkepcaaGreatDoor
open Go.RowKit

section
variable {P : Program} {G : Globs}
theorem oturn_zero {ro : Nat} {T : VT} {t e tn : TypeId} {s x : Operand} {l : List (Nat × TV)} {inf : TypeInfo} {z : Value} {kn kq : IntKind} {m : Int} (ht : P.underlying t = some (.slice e)) (htn : P.underlying tn = some (.int kn)) (hi : P.info? e = some inf) (hz : inf.zero = some z) (hzs : z.cells.size = inf.size) (h0s : 0 < inf.size)
  (hz1 : z.cells.toList.all Value.oneCell' = true) (hs : evOf G l s = .val (.slice none 0 0)) (hx : evOf G l x = .val (.int kq m)) (h0 : 0 < m) (hb : m.toNat * (inf.bytes + 1) ≤ 140737488355328) :
  OTurn P G ro T (.call ⟨.builtin .append, #[s, x], #[t, tn]⟩) l (.row inf.size T.objs.length 0 m.toNat) (T.newRow ((Builtin.zeroCells z.cells m.toNat).toList.map .val)) := by
 refine .mk ?_
 have h1 : vpure2 P (.call ⟨.builtin .append, #[s, x], #[t, tn]⟩) (evOf G l) = none := by simp [vpure2, vpure]
 have h2 : vread2 P T (.call ⟨.builtin .append, #[s, x], #[t, tn]⟩) (evOf G l) = none := by simp [vread2, vread, vcalls]
 have hsl : isSl (P.underlying tn) = false := by rw [htn]; rfl
 have h3 : vappZ P T t tn (.val (.slice none 0 0)) (.val (.int kq m)) = some (.row inf.size T.objs.length 0 m.toNat, T.newRow ((Builtin.zeroCells z.cells m.toNat).toList.map .val)) := by
  unfold vappZ
  simp only [ht, htn, hi, hz, hzs, decide_eq_true h0, decide_eq_true h0s, decide_true, hz1, Nat.ble_eq_true_of_le hb, Bool.and_self, cond_true]
 simp only [vopA, h1, h2, vmore, hs, hx, hsl, h3, cond_false]
theorem oturn_rowX {ro : Nat} {T : VT} {t e tx : TypeId} {s x : Operand} {l : List (Nat × TV)} {inf : TypeInfo} {z : Value} {q0 : List TV} {qs : List (List TV)} {id n : Nat} {cs : List TV} (ht : P.underlying t = some (.slice e)) (hi : P.info? e = some inf) (hz : inf.zero = some z) (hzs : z.cells.size = inf.size) (hz1 : z.cells.toList.all Value.oneCell' = true)
  (hsl : isSl (P.underlying tx) = true) (hs : evOf G l s = .row inf.size id 0 n) (ho : T.objs[id]? = some (.row cs)) (hro : ro ≤ id) (hn : n * inf.size ≤ cs.length) (hr : rowsR T inf.size (evOf G l x) = some (q0 :: qs)) (hb : (n + (q0 :: qs).length) * (inf.bytes + 1) ≤ 140737488355328) :
  OTurn P G ro T (.call ⟨.builtin .append, #[s, x], #[t, tx]⟩) l (.row inf.size T.objs.length 0 (n + (q0 :: qs).length)) ((T.kill id).newRow (cs.take (n * inf.size) ++ (q0 :: qs).flatten)) := by
 refine .mk ?_
 have h1 : vpure2 P (.call ⟨.builtin .append, #[s, x], #[t, tx]⟩) (evOf G l) = none := by simp [vpure2, vpure]
 have h2 : vread2 P T (.call ⟨.builtin .append, #[s, x], #[t, tx]⟩) (evOf G l) = none := by simp [vread2, vread, vcalls]
 have h4 : vappS P T t tx (.row inf.size id 0 n) (evOf G l x) = none := by simp [vappS, ht]
 have h5 : vappP P ro T t tx (.row inf.size id 0 n) (evOf G l x) = none := rfl
 have h3 : vappR P ro T t tx (.row inf.size id 0 n) (evOf G l x) = some (.row inf.size T.objs.length 0 (n + (q0 :: qs).length), (T.kill id).newRow (cs.take (n * inf.size) ++ (q0 :: qs).flatten)) := by
  unfold vappR
  simp only [ht, hi, hz, hr, hzs, decide_true, hz1, hsl, Bool.and_self, cond_true, Nat.beq_refl, ho, Nat.ble_eq_true_of_le hro, Nat.ble_eq_true_of_le hn, Nat.ble_eq_true_of_le hb]
 simp only [vopA, h1, h2, vmore, hs, hsl, h4, h5, h3, cond_true]
end
end Go.Proofs.YtogbdjlelkepcaaGreatDoor
namespace Go.Proofs.YtogbdjlelkepcaaGreatDoor
open Go.RowKit

def hasN : List Nat → Nat → Bool
 | [], _ => false
 | a :: l, i => bif Nat.beq a i then true else hasN l i
def nodupB : List Nat → Bool
 | [] => true
 | a :: l => bif hasN l a then false else nodupB l
def nameF : List Nat → Nat → Option Nat
 | [], _ => none
 | a :: l, i => bif Nat.beq a i then some 0 else (match nameF l i with
  | some j => some (j + 1)
  | none => none)
def nthL {α : Type} : List α → Nat → Option α
 | [], _ => none
 | a :: l, i => match i with
  | 0 => some a
  | j + 1 => nthL l j
def outF (n m : Nat) (is : List Nat) (j : Nat) : Option Nat := bif Nat.ble (j + 1) m then nthL is j else some (n + (j - m))
def VO.parts : VO → List TV
 | .cells cs => cs
 | .row cs => cs
 | .map _ _ es _ => es.map fun e => e.2.1
 | .iter m _ _ _ => [m]
 | .loop _ _ σ _ _ _ => σ
 | _ => []
def apL {α : Type} : List α → List α → List α
 | [], m => m
 | a :: l, m => a :: apL l m
def apLL {α : Type} : List (List α) → List α → List α
 | [], m => m
 | a :: l, m => apL a (apLL l m)
def reachW : Nat → VT → List TV → List Nat → List Nat → List Nat × List Nat
 | 0, _, _, is, ks => (is, ks)
 | _ + 1, _, [], is, ks => (is, ks)
 | n + 1, T, x :: l, is, ks => match x with
  | .val _ => reachW n T l is ks
  | .dead => reachW n T l is ks
  | .ptr id _ => bif hasN is id then reachW n T l is ks else (match nthL T.objs id with
   | some o => bif o.live then reachW n T (apL o.parts l) (id :: is) ks else reachW n T l is ks
   | none => reachW n T l is ks)
  | .sl id _ _ _ => bif hasN is id then reachW n T l is ks else (match nthL T.objs id with
   | some o => bif o.live then reachW n T (apL o.parts l) (id :: is) ks else reachW n T l is ks
   | none => reachW n T l is ks)
  | .row _ id _ _ => bif hasN is id then reachW n T l is ks else (match nthL T.objs id with
   | some o => bif o.live then reachW n T (apL o.parts l) (id :: is) ks else reachW n T l is ks
   | none => reachW n T l is ks)
  | .map id => bif hasN is id then reachW n T l is ks else (match nthL T.objs id with
   | some o => bif o.live then reachW n T (apL o.parts l) (id :: is) ks else reachW n T l is ks
   | none => reachW n T l is ks)
  | .yld id => bif hasN is id then reachW n T l is ks else (match nthL T.objs id with
   | some o => bif o.live then reachW n T (apL o.parts l) (id :: is) ks else reachW n T l is ks
   | none => reachW n T l is ks)
  | .vec _ es tok => reachW n T (match tok with
   | .past id _ => .row 0 id 0 0 :: apLL es l
   | _ => apLL es l) is (match tok with
   | .tail k _ => bif hasN ks k then ks else k :: ks
   | _ => ks)
  | .elt cs => reachW n T (apL cs l) is ks
  | .agg cs => reachW n T (apL cs l) is ks
  | .tup cs => reachW n T (apL cs l) is ks
  | .fn _ a b => reachW n T (apL a (apL b l)) is ks
  | .ifc _ v => reachW n T (v :: l) is ks
def revL {α : Type} : List α → List α → List α
 | [], m => m
 | a :: l, m => revL l (a :: m)
def fuelR : Nat := 1000000
def liveAll (T : VT) (ro : Nat) : List Nat → Bool
 | [] => true
 | i :: l => Nat.ble ro i && (match nthL T.objs i with
  | some o => o.live
  | none => false) && liveAll T ro l
def ltAll (n : Nat) : List Nat → Bool
 | [] => true
 | i :: l => Nat.ble (i + 1) n && ltAll n l
def isRange : Nat → Nat → List Nat → Bool
 | _, 0, _ => true
 | i, n + 1, a :: l => Nat.beq a i && isRange (i + 1) n l
 | _, _ + 1, [] => false
def downTo : Nat → List Nat
 | 0 => []
 | n + 1 => n :: downTo n
def VT.giveF (T : VT) (is ks : List Nat) : VT := ⟨is.map fun i => ((nthL T.objs i).getD .gone).ren (nameF is) (nameF ks), ks.map fun k => (nthL T.tails k).getD (0, 0, false)⟩
def VT.backF (T : VT) (is ks : List Nat) (T' : VT) : VT :=
 ⟨giveBack T.objs is (T'.objs.map (VO.ren (outF T.objs.length is.length is) (outF T.tails.length ks.length ks))), giveBack T.tails ks T'.tails⟩
def smallW (ro : Nat) (ys : List TV) (T : VT) : Option (List Nat × List Nat × List TV × VT) :=
 match reachW fuelR T ys [] [] with
 | (is0, ks0) => match revL is0 [], revL ks0 [] with
  | is, ks => bif nodupB is && nodupB ks && liveAll T ro is && ltAll T.tails.length ks then some (is, ks, renL (nameF is) (nameF ks) ys, T.giveF is ks) else none
def compactW (N M : Nat) (y : TV) (T : VT) : Option (TV × VT) :=
 match reachW fuelR T (y :: (T.objs.take N).flatMap VO.parts) (downTo N) (downTo M) with
 | (is0, ks0) => match revL is0 [], revL ks0 [] with
  | is, ks => bif nodupB is && nodupB ks && ltAll T.objs.length is && ltAll T.tails.length ks && isRange 0 N is && isRange 0 M ks then some (y.ren (nameF is) (nameF ks), T.giveF is ks) else none
def valEqs : List Value → List Value → Bool
 | [], [] => true
 | a :: l, b :: m => valEq a b && valEqs l m
 | _, _ => false
def valEq2 : Value → Value → Bool
 | .agg a, .agg b => valEqs a.toList b.toList
 | .tuple a, .tuple b => valEqs a.toList b.toList
 | a, b => valEq a b
def tokLe : Tok → Tok → Bool
 | _, .none => true
 | .full, .full => true
 | .live, .live => true
 | .tail k e, .tail k' e' => Nat.beq k k' && Nat.beq e e'
 | .past k e, .past k' e' => Nat.beq k k' && Nat.beq e e'
 | _, _ => false
mutual
def tvLe : TV → TV → Bool
 | _, .dead => true
 | .val a, .val b => valEq2 a b
 | .ptr i o, .ptr j p => Nat.beq i j && Nat.beq o p
 | .vec s es t, .vec s' es' t' => Nat.beq s s' && tokLe t t' && tvEqLL es es'
 | .elt cs, .elt ds => tvLeL cs ds
 | .sl a b c d, .sl a' b' c' d' => Nat.beq a a' && Nat.beq b b' && Nat.beq c c' && Nat.beq d d'
 | .row a b c d, .row a' b' c' d' => Nat.beq a a' && Nat.beq b b' && Nat.beq c c' && Nat.beq d d'
 | .agg cs, .agg ds => tvLeL cs ds
 | .tup cs, .tup ds => tvLeL cs ds
 | .fn f a b, .fn g c d => fnEq f g && tvLeL a c && tvLeL b d
 | .ifc t x, .ifc u y => Nat.beq t u && tvLe x y
 | .map i, .map j => Nat.beq i j
 | _, _ => false
def tvLeL : List TV → List TV → Bool
 | [], [] => true
 | x :: l, y :: m => tvLe x y && tvLeL l m
 | _, _ => false
end
def ckEqC : CK → CK → Bool
 | .int a, .int b => decide (a = b)
 | .bool, .bool => true
 | .str, .str => true
 | _, _ => false
def ckEqsC : List CK → List CK → Bool
 | [], [] => true
 | a :: l, b :: m => ckEqC a b && ckEqsC l m
 | _, _ => false
def ksEqC (a b : KS) : Bool := (bif a.agg then b.agg else !b.agg) && ckEqsC a.ks b.ks
def esLe : List (Value × TV × Nat) → List (Value × TV × Nat) → Bool
 | [], [] => true
 | a :: l, b :: m => valEq2 a.1 b.1 && tvLe a.2.1 b.2.1 && Nat.beq a.2.2 b.2.2 && esLe l m
 | _, _ => false
def natsEq : List Nat → List Nat → Bool
 | [], [] => true
 | a :: l, b :: m => Nat.beq a b && natsEq l m
 | _, _ => false
def voLe : VO → VO → Bool
 | .cells a, .cells b => tvLeL a b
 | .row a, .row b => tvLeL a b
 | .map sh _ es ck, .map sh' _ es' ck' => ksEqC sh sh' && esLe es es' && Nat.beq ck ck'
 | .iter m a b c, .iter m' a' b' c' => tvLe m m' && Nat.beq a a' && natsEq b b' && Nat.beq c c'
 | .defd, .defd => true
 | .gone, .gone => true
 | _, _ => false
def voLeL : List VO → List VO → Bool
 | [], [] => true
 | a :: l, b :: m => voLe a b && voLeL l m
 | _, _ => false
def tailEq : List (Nat × Nat × Bool) → List (Nat × Nat × Bool) → Bool
 | [], [] => true
 | a :: l, b :: m => Nat.beq a.1 b.1 && Nat.beq a.2.1 b.2.1 && (bif a.2.2 then b.2.2 else !b.2.2) && tailEq l m
 | _, _ => false
def vtLe (T S : VT) : Bool := voLeL T.objs S.objs && tailEq T.tails S.tails
def VO.canon : VO → VO
 | .map sh _ es ck => .map sh (fun k => mget k es) es ck
 | o => o
def VT.canon (T : VT) : VT := { T with objs := T.objs.map VO.canon }
structure CutE where
 xs : List TV
 T : VT
 y : TV
 T' : VT
def cutRes (e : CutE) (y : TV) (T : VT) : Bool := match compactW e.T.objs.length e.T.tails.length y T with
 | some (y1, T1) => tvLe y1 e.y && vtLe T1 e.T'
 | none => false
def cutFind (xs : List TV) (S : VT) : List CutE → Option CutE
 | [] => none
 | e :: l => bif tvLeL xs e.xs && vtLe S e.T && Nat.ble S.objs.length e.T'.objs.length && Nat.ble S.tails.length e.T'.tails.length then some e else cutFind xs S l
end Go.Proofs.YtogbdjlelkepcaaGreatDoor
namespace Go.Proofs.YtogbdjlelkepcaaGreatDoor
open Go.RowKit

theorem hasN_iff : ∀ (l : List Nat) (i : Nat), hasN l i = true ↔ i ∈ l
 | [], i => by simp [hasN]
 | a :: l, i => by
  simp only [hasN, List.mem_cons]
  cases h : Nat.beq a i with
  | true => simp [Nat.eq_of_beq_eq_true h]
  | false =>
   have : i ≠ a := fun e => by subst e; rw [Nat.beq_refl] at h; cases h
   simp [hasN_iff l i, this]
theorem nodupB_ok : ∀ {l : List Nat}, nodupB l = true → l.Nodup
 | [], _ => List.nodup_nil
 | a :: l, h => by
  simp only [nodupB] at h
  cases ha : hasN l a with
  | true => rw [ha] at h; cases h
  | false =>
   rw [ha] at h
   refine List.nodup_cons.2 ⟨fun hm => ?_, nodupB_ok h⟩
   rw [(hasN_iff l a).2 hm] at ha; cases ha
theorem nameF_eq : ∀ (l : List Nat) (i : Nat), nameF l i = nameIn l i
 | [], i => by simp [nameF, nameIn]
 | a :: l, i => by
  have ih := nameF_eq l i
  unfold nameIn at ih ⊢
  simp only [nameF, ih, List.idxOf?_cons]
  cases h : Nat.beq a i with
  | true => simp [Nat.eq_of_beq_eq_true h]
  | false =>
   have : (a == i) = false := by
    simp only [beq_eq_false_iff_ne]
    intro e; subst e; rw [Nat.beq_refl] at h; cases h
   rw [this]
   cases List.idxOf? i l <;> rfl
theorem nthL_eq {α : Type} : ∀ (l : List α) (i : Nat), nthL l i = l[i]?
 | [], i => by simp [nthL]
 | a :: l, 0 => by simp [nthL]
 | a :: l, i + 1 => by simp [nthL, nthL_eq l i]
theorem outF_eq (n : Nat) (is : List Nat) (j : Nat) : outF n is.length is j = nameOut n is j := by
 unfold outF nameOut
 rw [nthL_eq]
 by_cases h : j < is.length
 ·rw [if_pos h, Nat.ble_eq_true_of_le h]; rfl
 ·rw [if_neg h]
  have : Nat.ble (j + 1) is.length = false := by
   cases hb : Nat.ble (j + 1) is.length with
   | true => exact absurd (Nat.le_of_ble_eq_true hb) h
   | false => rfl
  rw [this]; rfl
theorem giveF_eq (T : VT) (is ks : List Nat) : T.giveF is ks = T.give is ks := by
 have h1 : nameF is = nameIn is := funext (nameF_eq is)
 have h2 : nameF ks = nameIn ks := funext (nameF_eq ks)
 simp only [VT.giveF, VT.give, h1, h2, nthL_eq]
theorem backF_eq (T : VT) (is ks : List Nat) (T' : VT) : T.backF is ks T' = T.back is ks T' := by
 have h1 : outF T.objs.length is.length is = nameOut T.objs.length is := funext (outF_eq _ is)
 have h2 : outF T.tails.length ks.length ks = nameOut T.tails.length ks := funext (outF_eq _ ks)
 simp only [VT.backF, VT.back, h1, h2]
theorem liveAll_ok {T : VT} {ro : Nat} : ∀ {l : List Nat}, liveAll T ro l = true → ∀ i ∈ l, ro ≤ i ∧ ∃ o, T.objs[i]? = some o ∧ o.live = true
 | [], _, i, h => by cases h
 | a :: l, h, i, hi => by
  simp only [liveAll, Bool.and_eq_true] at h
  rcases List.mem_cons.1 hi with rfl | hi
  ·refine ⟨Nat.le_of_ble_eq_true h.1.1, ?_⟩
   have h2 := h.1.2
   rw [nthL_eq] at h2
   split at h2
   ·rename_i o ho; exact ⟨o, ho, h2⟩
   ·cases h2
  ·exact liveAll_ok h.2 i hi
theorem ltAll_ok {n : Nat} : ∀ {l : List Nat}, ltAll n l = true → ∀ i ∈ l, i < n
 | [], _, i, h => by cases h
 | a :: l, h, i, hi => by
  simp only [ltAll, Bool.and_eq_true] at h
  rcases List.mem_cons.1 hi with rfl | hi
  ·exact Nat.le_of_ble_eq_true h.1
  ·exact ltAll_ok h.2 i hi
theorem isRange_ok : ∀ {n i : Nat} {l : List Nat}, isRange i n l = true → ∀ j, j < n → l[j]? = some (i + j)
 | 0, _, _, _, j, hj => absurd hj (Nat.not_lt_zero j)
 | n + 1, i, [], h, _, _ => by simp [isRange] at h
 | n + 1, i, a :: l, h, j, hj => by
  simp only [isRange, Bool.and_eq_true] at h
  cases j with
  | zero => simp [Nat.eq_of_beq_eq_true h.1]
  | succ j =>
   rw [List.getElem?_cons_succ, isRange_ok h.2 j (by omega)]
   congr 1; omega

section
variable {P : Program} {G : Globs}
def Gh.pickG (g : Gh) (is ks : List Nat) : Gh := { g with obj := fun j => (is[j]?).bind g.obj, tail := fun j => (ks[j]?).bind g.tail }
theorem pickG_ren (g : Gh) (is ks : List Nat) : Ren g (g.pickG is ks) (nameIn is) (nameIn ks) where
 obj i i' b h1 h2 := by simp [Gh.pickG, nameIn_some h1, h2]
 tail k k' x h1 h2 := by simp [Gh.pickG, nameIn_some h1, h2]
 st _ _ h := h
theorem RW.pickG {g : Gh} {T : VT} {w : World} (r : RW g T w) {is ks : List Nat} (hi : is.Nodup) (hk : ks.Nodup) (hkl : ∀ k ∈ ks, k < T.tails.length) :
  RW (g.pickG is ks) (T.give is ks) w := by
 have k := pickG_ren g is ks
 have hobj : ∀ (j : Nat) o, (T.give is ks).objs[j]? = some o → o.live = true → ∃ i o0, is[j]? = some i ∧ T.objs[i]? = some o0 ∧ o0.live = true ∧ o = o0.ren (nameIn is) (nameIn ks) := by
  intro j o h hl
  simp only [VT.give, List.getElem?_map, Option.map_eq_some_iff] at h
  obtain ⟨i, h1, rfl⟩ := h
  rw [VO.ren_live] at hl
  cases h2 : T.objs[i]? with
  | none => rw [h2] at hl; cases hl
  | some o0 => rw [h2] at hl; exact ⟨i, o0, h1, h2, hl, by simp⟩
 have hsub : ∀ (j : Nat) x, (g.pickG is ks).tail j = some x → ∃ k0, ks[j]? = some k0 ∧ g.tail k0 = some x := fun j x h => by simpa [Gh.pickG, Option.bind_eq_some_iff] using h
 refine ⟨?_, ?_, ?_, r.st, r.fr, ?_, ?_, ?_, ?_, ?_, ?_, ?_⟩
 ·intro j o h hl
  obtain ⟨i, o0, h1, h2, h3, rfl⟩ := hobj j o h hl
  obtain ⟨b, h4, h5, h6, h7⟩ := r.obj i o0 h2 h3
  exact ⟨b, by simp [Gh.pickG, h1, h4], h5.ren k, h6, h7⟩
 ·intro i j oi oj b h1 l1 h2 l2 b1 b2
  obtain ⟨i0, o1, a1, a2, a3, rfl⟩ := hobj i oi h1 l1
  obtain ⟨j0, o2, c1, c2, c3, rfl⟩ := hobj j oj h2 l2
  simp only [Gh.pickG, a1, c1, Option.bind_some] at b1 b2
  have := r.inj i0 j0 o1 o2 b a2 a3 c2 c3 b1 b2
  subst this
  exact nodup_at hi a1 c1
 ·intro id hid
  simp only [VT.give, List.length_map] at hid
  simp [Gh.pickG, List.getElem?_eq_none hid]
 ·intro j p h
  simp only [VT.give, List.getElem?_map, Option.map_eq_some_iff] at h
  obtain ⟨k0, h1, rfl⟩ := h
  have hlt := hkl k0 (List.mem_of_getElem? h1)
  obtain ⟨x, h2, h3, h4, h5⟩ := r.tl k0 _ (List.getElem?_eq_getElem hlt)
  refine ⟨x, by simp [Gh.pickG, h1, h2], ?_, ?_, h5⟩
  ·rw [List.getElem?_eq_getElem hlt]; exact h3
  ·rw [List.getElem?_eq_getElem hlt]; exact h4
 ·intro j hj
  simp only [VT.give, List.length_map] at hj
  simp [Gh.pickG, List.getElem?_eq_none hj]
 ·intro i j x y b h1 h2 i1 i2
  obtain ⟨i0, a1, a2⟩ := hsub i x h1
  obtain ⟨j0, c1, c2⟩ := hsub j y h2
  have := r.tinj i0 j0 x y b a2 c2 i1 i2
  subst this
  exact nodup_at hk a1 c1
 ·intro i oi b j x h1 l1 b1 hx hin
  obtain ⟨i0, o1, a1, a2, a3, rfl⟩ := hobj i oi h1 l1
  obtain ⟨j0, c1, c2⟩ := hsub j x hx
  simp only [Gh.pickG, a1, Option.bind_some] at b1
  exact r.tobj i0 o1 b j0 x a2 a3 b1 c2 hin
 ·intro j x hx
  obtain ⟨j0, c1, c2⟩ := hsub j x hx
  exact r.own j0 x c2
 ·intro j x hx
  obtain ⟨j0, c1, c2⟩ := hsub j x hx
  exact r.own0 j0 x c2
 ·intro j x hx
  obtain ⟨j0, c1, c2⟩ := hsub j x hx
  exact r.tlo j0 x c2
theorem Evo.pickG {g0 g : Gh} {T0 : VT} {w0 w : World} (r0 : RW g0 T0 w0) (e : Evo g0 w0 g w) {is ks : List Nat} (hp : ∀ j, j < T0.objs.length → is[j]? = some j) (hq : ∀ j, j < T0.tails.length → ks[j]? = some j) (hk : ks.Nodup) : Evo g0 w0 (g.pickG is ks) w := by
 refine ⟨e.os, e.tape, e.output, e.size, fun id b hb => ?_, e.st, e.fr, e.frb, e.frs, fun k x hx => ?_, fun k x h1 h2 => ?_, e.csz⟩
 ·simp only [Gh.pickG, hp id (obj_lt r0 hb), Option.bind_some]; exact e.obj id b hb
 ·simp only [Gh.pickG, hq k (tail_lt r0 hx), Option.bind_some]; exact e.tail k x hx
 ·simp only [Gh.pickG, Option.bind_eq_some_iff] at h2
  obtain ⟨k0, h3, h4⟩ := h2
  refine e.tnew k0 x ?_ h4
  by_cases hlt : k0 < T0.tails.length
  ·have := nodup_at hk h3 (hq k0 hlt)
   subst this; exact h1
  ·exact r0.tout k0 (by omega)
theorem VCx.compact {f : FuncId} {xs : List TV} {T : VT} {Q Q' : TV → VT → Prop} (h : VCx P G 0 f xs T Q) (k : ∀ y T', Q y T' → ∃ y1 T1, compactW T.objs.length T.tails.length y T' = some (y1, T1) ∧ Q' y1 T1) : VCx P G 0 f xs T Q' := by
  intro g w us rw0 hG hx
  refine Calls.mono (h g w us rw0 hG hx) ?_
  rintro e w' ⟨v, x, g', T', he, hq, e', r', hv, hfx⟩
  obtain ⟨y1, T1, hc, hq'⟩ := k x T' hq
  unfold compactW at hc
  simp only at hc
  generalize hr : reachW fuelR T' (x :: (T'.objs.take T.objs.length).flatMap VO.parts) (downTo T.objs.length) (downTo T.tails.length) = p at hc
  obtain ⟨is0, ks0⟩ := p
  simp only at hc
  generalize revL is0 [] = is at hc
  generalize revL ks0 [] = ks at hc
  cases hb : (nodupB is && nodupB ks && ltAll T'.objs.length is && ltAll T'.tails.length ks && isRange 0 T.objs.length is && isRange 0 T.tails.length ks) with
  | false => rw [hb] at hc; cases hc
  | true =>
    rw [hb] at hc
    simp only [cond_true, Option.some.injEq, Prod.mk.injEq] at hc
    obtain ⟨rfl, rfl⟩ := hc
    simp only [Bool.and_eq_true] at hb
    obtain ⟨⟨⟨⟨⟨b1, b2⟩, b3⟩, b4⟩, b5⟩, b6⟩ := hb
    have hp : ∀ j, j < T.objs.length → is[j]? = some j := fun j hj => by have := isRange_ok b5 j hj; simpa using this
    have hq0 : ∀ j, j < T.tails.length → ks[j]? = some j := fun j hj => by have := isRange_ok b6 j hj; simpa using this
    have h1 : nameF is = nameIn is := funext (nameF_eq is)
    have h2 : nameF ks = nameIn ks := funext (nameF_eq ks)
    rw [h1, h2, giveF_eq] at hq'
    refine ⟨v, _, g'.pickG is ks, T'.give is ks, he, hq', Evo.pickG rw0 e' hp hq0 (nodupB_ok b2), r'.pickG (nodupB_ok b1) (nodupB_ok b2) (ltAll_ok b4), hv.ren (pickG_ren g' is ks), ?_, fun i hi => absurd hi (Nat.not_lt_zero i), fun i o b hi => absurd hi (Nat.not_lt_zero i)⟩
    simp only [VT.give, List.length_map]
    rcases Nat.eq_zero_or_pos T.objs.length with h0 | h0
    · omega
    · have := (List.getElem?_eq_some_iff.1 (hp (T.objs.length - 1) (by omega))).1
      omega
end

theorem valEqs_ok : ∀ {a b : List Value}, valEqs a b = true → a = b
 | [], [], _ => rfl
 | [], _ :: _, h => by simp [valEqs] at h
 | _ :: _, [], h => by simp [valEqs] at h
 | a :: l, b :: m, h => by
  simp only [valEqs, Bool.and_eq_true] at h
  rw [valEq_ok h.1, valEqs_ok h.2]
theorem valEq2_ok {a b : Value} (h : valEq2 a b = true) : a = b := by
 unfold valEq2 at h
 split at h
 ·have := valEqs_ok h; rename_i x y
  cases x; cases y; simp at this; rw [this]
 ·have := valEqs_ok h; rename_i x y
  cases x; cases y; simp at this; rw [this]
 ·exact valEq_ok h
section
variable {g : Gh} {w : World}
theorem tokLe_ok {t t' : Tok} (h : tokLe t t' = true) {size n b o c : Nat} (k : TokOk g w t size n b o c) : TokOk g w t' size n b o c := by
 unfold tokLe at h
 split at h
 ·trivial
 ·exact k
 ·exact k
 ·rw [Bool.and_eq_true] at h
  rw [← Nat.eq_of_beq_eq_true h.1, ← Nat.eq_of_beq_eq_true h.2]; exact k
 ·rw [Bool.and_eq_true] at h
  rw [← Nat.eq_of_beq_eq_true h.1, ← Nat.eq_of_beq_eq_true h.2]; exact k
 ·cases h
theorem tokLe_nil {t t' : Tok} (h : tokLe t t' = true) {size : Nat} (k : NilTok g t size) : NilTok g t' size := by
 unfold tokLe at h
 split at h
 ·trivial
 ·exact k
 ·exact k
 ·rw [Bool.and_eq_true] at h
  rw [← Nat.eq_of_beq_eq_true h.1, ← Nat.eq_of_beq_eq_true h.2]; exact k
 ·rw [Bool.and_eq_true] at h
  rw [← Nat.eq_of_beq_eq_true h.1, ← Nat.eq_of_beq_eq_true h.2]; exact k
 ·cases h
mutual
theorem tvLe_ok : ∀ (x y : TV) (u : Value), tvLe x y = true → VR g w x u → VR g w y u
 | x, .dead, u, _, _ => .dead u
 | .val a, y, u, h, k => by
  cases y <;> simp only [tvLe] at h <;> first | (cases h; done) | exact .dead u | (rw [← valEq2_ok h]; exact k)
 | .ptr i o, y, u, h, k => by
  cases y <;> simp only [tvLe, Bool.and_eq_true] at h <;> first | (cases h; done) | exact .dead u | (rw [← Nat.eq_of_beq_eq_true h.1, ← Nat.eq_of_beq_eq_true h.2]; exact k)
 | .vec s es t, y, u, h, k => by
  cases y <;> simp only [tvLe, Bool.and_eq_true] at h <;> first | (cases h; done) | exact .dead u | skip
  obtain ⟨⟨h1, h2⟩, h3⟩ := h
  rw [← Nat.eq_of_beq_eq_true h1, ← tvEqLL_ok _ _ h3]
  rcases k.vec_inv with ⟨rfl, rfl, q1⟩ | ⟨b, o, c, us, rfl, f1, f2, f3, f4, f5, f6, f7, f8⟩ | ⟨a, rfl, rfl, q1⟩
  rotate_left 2
  ·exact .odd a (tokLe_ok h2 q1)
  ·exact .nil (tokLe_nil h2 q1)
  ·exact .mk_vec rfl f1 f2 f3 (tokLe_ok h2 f4) f5 f6 f7 f8
 | .elt cs, y, u, h, k => by
  cases y <;> simp only [tvLe] at h <;> first | (cases h; done) | exact .dead u | skip
  rename_i ds
  obtain ⟨b, o, us, rfl, k1, k2, k3, k4⟩ := k.elt_inv
  obtain ⟨l1, l2⟩ := tvLeL_ok cs ds us h k1
  exact .mk_elt l2 (fun j hj => k2 j (by rw [l1]; exact hj)) k3 k4
 | .sl a b c d, y, u, h, k => by
  cases y <;> simp only [tvLe, Bool.and_eq_true] at h <;> first | (cases h; done) | exact .dead u | (rw [← Nat.eq_of_beq_eq_true h.1.1.1, ← Nat.eq_of_beq_eq_true h.1.1.2, ← Nat.eq_of_beq_eq_true h.1.2, ← Nat.eq_of_beq_eq_true h.2]; exact k)
 | .row a b c d, y, u, h, k => by
  cases y <;> simp only [tvLe, Bool.and_eq_true] at h <;> first | (cases h; done) | exact .dead u | (rw [← Nat.eq_of_beq_eq_true h.1.1.1, ← Nat.eq_of_beq_eq_true h.1.1.2, ← Nat.eq_of_beq_eq_true h.1.2, ← Nat.eq_of_beq_eq_true h.2]; exact k)
 | .agg cs, y, u, h, k => by
  cases y <;> simp only [tvLe] at h <;> first | (cases h; done) | exact .dead u | skip
  obtain ⟨us, rfl, k1⟩ := k.agg_inv
  exact .mk_agg (tvLeL_ok cs _ us h k1).2
 | .tup cs, y, u, h, k => by
  cases y <;> simp only [tvLe] at h <;> first | (cases h; done) | exact .dead u | skip
  obtain ⟨us, rfl, k1⟩ := k.tup_inv
  exact .mk_tup (tvLeL_ok cs _ us h k1).2
 | .fn f a b, y, u, h, k => by
  cases y <;> simp only [tvLe, Bool.and_eq_true] at h <;> first | (cases h; done) | exact .dead u | skip
  obtain ⟨us, vs, rfl, k1, k2⟩ := k.fn_inv
  rw [← fnEq_ok h.1.1]
  have h1 := (tvLeL_ok a _ us h.1.2 k1).2
  have h2 := (tvLeL_ok b _ vs h.2 k2).2
  exact .fn h1.1 h1.2 h2.1 h2.2
 | .ifc t x, y, u, h, k => by
  cases y <;> simp only [tvLe, Bool.and_eq_true] at h <;> first | (cases h; done) | exact .dead u | skip
  obtain ⟨v, rfl, k1⟩ := k.ifc_inv
  rw [← Nat.eq_of_beq_eq_true h.1]
  exact .ifc (tvLe_ok x _ v h.2 k1)
 | .map i, y, u, h, k => by
  cases y <;> simp only [tvLe] at h <;> first | (cases h; done) | exact .dead u | (rw [← Nat.eq_of_beq_eq_true h]; exact k)
 | .yld i, y, u, h, k => by
  cases y <;> simp only [tvLe] at h <;> first | (cases h; done) | exact .dead u
theorem tvLeL_ok : ∀ (x y : List TV) (us : List Value), tvLeL x y = true → VRs g w x us → x.length = y.length ∧ VRs g w y us
 | [], [], us, _, k => ⟨rfl, k⟩
 | [], _ :: _, us, h, _ => by simp [tvLeL] at h
 | _ :: _, [], us, h, _ => by simp [tvLeL] at h
 | x :: l, y :: m, [], _, k => by have := k.1; simp at this
 | x :: l, y :: m, u :: us, h, k => by
  simp only [tvLeL, Bool.and_eq_true] at h
  have h1 : VRs g w l us := ⟨by have := k.1; simpa using this, fun j y v hy hv => k.2 (j + 1) y v (by simpa using hy) (by simpa using hv)⟩
  obtain ⟨l1, l2⟩ := tvLeL_ok l m us h.2 h1
  exact ⟨by simp [l1], VRs.cons (tvLe_ok x y u h.1 (k.2 0 x u rfl rfl)) l2⟩
end
theorem ckEqC_ok {a b : CK} (h : ckEqC a b = true) : a = b := by
 unfold ckEqC at h
 split at h
 ·rw [of_decide_eq_true h]
 ·rfl
 ·rfl
 ·cases h
theorem ckEqsC_ok : ∀ {a b : List CK}, ckEqsC a b = true → a = b
 | [], [], _ => rfl
 | [], _ :: _, h => by simp [ckEqsC] at h
 | _ :: _, [], h => by simp [ckEqsC] at h
 | a :: l, b :: m, h => by
  simp only [ckEqsC, Bool.and_eq_true] at h
  rw [ckEqC_ok h.1, ckEqsC_ok h.2]
theorem ksEqC_ok {a b : KS} (h : ksEqC a b = true) : a = b := by
 simp only [ksEqC, Bool.and_eq_true] at h
 cases a; cases b
 simp only at h
 rw [ckEqsC_ok h.2]
 rename_i a1 _ b1 _
 cases a1 <;> cases b1 <;> simp_all
theorem esLe_ok : ∀ {a b : List (Value × TV × Nat)}, esLe a b = true → a.map (·.1) = b.map (·.1) ∧ a.map (·.2.2) = b.map (·.2.2) ∧ ∀ us, VRs g w (a.map (·.2.1)) us → VRs g w (b.map (·.2.1)) us
 | [], [], _ => ⟨rfl, rfl, fun _ h => h⟩
 | [], _ :: _, h => by simp [esLe] at h
 | _ :: _, [], h => by simp [esLe] at h
 | a :: l, b :: m, h => by
  simp only [esLe, Bool.and_eq_true] at h
  obtain ⟨⟨⟨h1, h2⟩, h3⟩, h4⟩ := h
  obtain ⟨i1, i2, i3⟩ := esLe_ok h4
  refine ⟨by simp [valEq2_ok h1, i1], by simp [Nat.eq_of_beq_eq_true h3, i2], fun us hu => ?_⟩
  match us, hu with
  | [], hu => have := hu.1; simp at this
  | u :: us, hu =>
   refine VRs.cons (tvLe_ok _ _ u h2 (hu.2 0 _ u rfl rfl)) (i3 us ⟨by have := hu.1; simpa using this, fun j y v hy hv => hu.2 (j + 1) y v (by simpa using hy) (by simpa using hv)⟩)
theorem natsEq_ok : ∀ {a b : List Nat}, natsEq a b = true → a = b
 | [], [], _ => rfl
 | [], _ :: _, h => by simp [natsEq] at h
 | _ :: _, [], h => by simp [natsEq] at h
 | a :: l, b :: m, h => by
  simp only [natsEq, Bool.and_eq_true] at h
  rw [Nat.eq_of_beq_eq_true h.1, natsEq_ok h.2]
theorem voLe_ok {o p : VO} (h : voLe o p = true) {b : Nat} (k : OR g w b o) : OR g w b p.canon := by
 unfold voLe at h
 split at h
 ·obtain ⟨us, t, k1, k2, k3⟩ := k
  exact ⟨us, t, k1, (tvLeL_ok _ _ us h k2).2, k3⟩
 ·obtain ⟨us, t, k1, k2, k3, k4⟩ := k
  obtain ⟨l1, l2⟩ := tvLeL_ok _ _ _ h k3
  exact ⟨us, t, k1, by rw [← l1]; exact k2, by rw [← l1]; exact l2, by rw [← l1]; exact k4⟩
 ·simp only [Bool.and_eq_true] at h
  obtain ⟨⟨h1, h2⟩, h3⟩ := h
  obtain ⟨ms, k1, k2, k3, k4, k5, k6, k7⟩ := k
  obtain ⟨i1, i2, i3⟩ := esLe_ok (g := g) (w := w) h2
  have e1 := ksEqC_ok h1
  subst e1
  rw [Nat.eq_of_beq_eq_true h3] at k1
  refine ⟨ms, k1, by rw [k2, i1], i3 _ k3, by rw [k4, i2], fun e he => ?_, by rw [← i1]; exact k6, fun _ _ => rfl⟩
  have : e.1 ∈ List.map (fun p : Value × TV × Nat => p.1) _ := List.mem_map_of_mem (f := fun p : Value × TV × Nat => p.1) he
  rw [← i1] at this
  obtain ⟨e', he', h5⟩ := List.mem_map.1 this
  rw [← h5]; exact k5 e' he'
 ·simp only [Bool.and_eq_true] at h
  obtain ⟨⟨⟨h1, h2⟩, h3⟩, h4⟩ := h
  obtain ⟨mb, k1, k2⟩ := k
  rw [Nat.eq_of_beq_eq_true h2, natsEq_ok h3, Nat.eq_of_beq_eq_true h4] at k1
  exact ⟨mb, k1, tvLe_ok _ _ _ h1 k2⟩
 ·exact k
 ·exact k
 ·cases h
theorem voLe_live {o p : VO} (h : voLe o p = true) : p.canon.live = o.live := by
 unfold voLe at h
 split at h <;> first | rfl | cases h
theorem voLeL_at : ∀ {a b : List VO}, voLeL a b = true → a.length = b.length ∧ ∀ (i : Nat) p, b[i]? = some p → ∃ o, a[i]? = some o ∧ voLe o p = true
 | [], [], _ => ⟨rfl, fun i p h => by simp at h⟩
 | [], _ :: _, h => by simp [voLeL] at h
 | _ :: _, [], h => by simp [voLeL] at h
 | a :: l, b :: m, h => by
  simp only [voLeL, Bool.and_eq_true] at h
  obtain ⟨h1, h2⟩ := voLeL_at h.2
  refine ⟨by simp [h1], fun i p hi => ?_⟩
  cases i with
  | zero => simp at hi; subst hi; exact ⟨a, rfl, h.1⟩
  | succ i => simp at hi; simpa using h2 i p hi
theorem tailEq_ok : ∀ {a b : List (Nat × Nat × Bool)}, tailEq a b = true → a = b
 | [], [], _ => rfl
 | [], _ :: _, h => by simp [tailEq] at h
 | _ :: _, [], h => by simp [tailEq] at h
 | (a1, a2, a3) :: l, (b1, b2, b3) :: m, h => by
  simp only [tailEq, Bool.and_eq_true] at h
  obtain ⟨⟨⟨h1, h2⟩, h3⟩, h4⟩ := h
  have : a3 = b3 := by cases a3 <;> cases b3 <;> simp_all
  rw [Nat.eq_of_beq_eq_true h1, Nat.eq_of_beq_eq_true h2, this, tailEq_ok h4]
theorem vtLe_len {T S : VT} (h : vtLe T S = true) : T.objs.length = S.canon.objs.length := by
 simp only [vtLe, Bool.and_eq_true] at h
 rw [(voLeL_at h.1).1]; simp [VT.canon]
theorem vtLe_ok {T S : VT} (h : vtLe T S = true) (r : RW g T w) : RW g S.canon w := by
 have hl := vtLe_len h
 simp only [vtLe, Bool.and_eq_true] at h
 have ht : S.canon.tails = T.tails := (tailEq_ok h.2).symm
 have hob : ∀ (id : Nat) p, S.canon.objs[id]? = some p → ∃ o q, T.objs[id]? = some o ∧ voLe o q = true ∧ p = q.canon := fun id p hp => by
  simp only [VT.canon, List.getElem?_map, Option.map_eq_some_iff] at hp
  obtain ⟨q, h1, rfl⟩ := hp
  obtain ⟨o, h2, h3⟩ := (voLeL_at h.1).2 id q h1
  exact ⟨o, q, h2, h3, rfl⟩
 refine ⟨?_, ?_, fun id hid => r.out id (by omega), r.st, r.fr, by rw [ht]; exact r.tl, by rw [ht]; exact r.tout, r.tinj, ?_, r.own, r.own0, r.tlo⟩
 ·intro id p hp hlv
  obtain ⟨o, q, h1, h2, rfl⟩ := hob id p hp
  rw [voLe_live h2] at hlv
  obtain ⟨b, k1, k2, k3⟩ := r.obj id o h1 hlv
  exact ⟨b, k1, voLe_ok h2 k2, k3⟩
 ·intro i j oi oj b hi li hj lj b1 b2
  obtain ⟨o1, q1, h1, h2, rfl⟩ := hob i oi hi
  obtain ⟨o2, q2, h3, h4, rfl⟩ := hob j oj hj
  rw [voLe_live h2] at li
  rw [voLe_live h4] at lj
  exact r.inj i j o1 o2 b h1 li h3 lj b1 b2
 ·intro i oi b k x hi li b1 hx hin
  obtain ⟨o1, q1, h1, h2, rfl⟩ := hob i oi hi
  rw [voLe_live h2] at li
  exact r.tobj i o1 b k x h1 li b1 hx hin
end

section
variable {P : Program} {G : Globs}
theorem VCx.pre {f : FuncId} {xs ys : List TV} {T S : VT} {Q : TV → VT → Prop} (hT : vtLe T S = true) (hx : tvLeL ys xs = true) (h : VCx P G 0 f xs S.canon Q) : VCx P G 0 f ys T Q := by
 intro g w us rw0 hG hxs
 refine Calls.mono (h g w us (vtLe_ok hT rw0) hG (tvLeL_ok _ _ _ hx hxs).2) ?_
 rintro e w' ⟨v, x, g', T', he, hq, e', r', hv, hfx⟩
 exact ⟨v, x, g', T', he, hq, e', r', hv, by rw [vtLe_len hT]; exact hfx.len, fun i hi => absurd hi (Nat.not_lt_zero i), fun i o b hi => absurd hi (Nat.not_lt_zero i)⟩
def CutOk (P : Program) (G : Globs) (f : FuncId) (e : CutE) : Prop := VCx P G 0 f e.xs e.T.canon fun y T' => y = e.y ∧ T' = e.T'.canon
theorem VCx.post {f : FuncId} {xs : List TV} {T S : VT} {y : TV} (hl : T.objs.length ≤ S.objs.length) (h : VCx P G 0 f xs T fun x T' => tvLe x y = true ∧ vtLe T' S = true) : VCx P G 0 f xs T fun x T' => x = y ∧ T' = S.canon := by
 intro g w us rw0 hG hxs
 refine Calls.mono (h g w us rw0 hG hxs) ?_
 rintro e w' ⟨v, x, g', T', he, ⟨h1, h2⟩, e', r', hv, hfx⟩
 exact ⟨v, y, g', S.canon, he, ⟨rfl, rfl⟩, e', vtLe_ok h2 r', tvLe_ok _ _ _ h1 hv, by simpa [VT.canon] using hl, fun i hi => absurd hi (Nat.not_lt_zero i), fun i o b hi => absurd hi (Nat.not_lt_zero i)⟩
def cutQ (e : CutE) (y : TV) (T : VT) : Prop := cond (cutRes e y T) True False
theorem cut_vcx {f : FuncId} {e : CutE} (hl : Nat.ble e.T.objs.length e.T'.objs.length = true) (h : VCx P G 0 f e.xs e.T.canon (cutQ e)) : CutOk P G f e := by
 refine VCx.post (by have := Nat.le_of_ble_eq_true hl; simpa [VT.canon] using this) (VCx.compact h fun y T' hq => ?_)
 unfold cutQ at hq
 cases hb : cutRes e y T' with
 | false => rw [hb] at hq; exact hq.elim
 | true =>
  unfold cutRes at hb
  split at hb
  ·rename_i y1 T1 hc
   rw [Bool.and_eq_true] at hb
   refine ⟨y1, T1, ?_, hb.1, hb.2⟩
   rw [← hc]; simp [VT.canon]
  ·cases hb
def cutW (l : List CutE) : Spec := fun ro ys T K => match smallW ro ys T with
 | some (is, ks, xs, S) => (match cutFind xs S l with
  | some e => K (e.y.ren (outF T.objs.length is.length is) (outF T.tails.length ks.length ks)) (T.backF is ks e.T'.canon)
  | none => False)
 | none => False
theorem cutFind_ok {xs : List TV} {S : VT} {e : CutE} : ∀ {l : List CutE}, cutFind xs S l = some e → e ∈ l ∧ tvLeL xs e.xs = true ∧ vtLe S e.T = true ∧ S.objs.length ≤ e.T'.objs.length ∧ S.tails.length ≤ e.T'.tails.length
 | [], h => by simp [cutFind] at h
 | a :: l, h => by
  simp only [cutFind] at h
  cases hb : (tvLeL xs a.xs && vtLe S a.T && Nat.ble S.objs.length a.T'.objs.length && Nat.ble S.tails.length a.T'.tails.length) with
  | true =>
   rw [hb] at h
   simp only [cond_true, Option.some.injEq] at h
   subst h
   simp only [Bool.and_eq_true] at hb
   exact ⟨List.mem_cons_self, hb.1.1.1, hb.1.1.2, Nat.le_of_ble_eq_true hb.1.2, Nat.le_of_ble_eq_true hb.2⟩
  | false =>
   rw [hb] at h
   obtain ⟨h1, h2⟩ := cutFind_ok (show cutFind xs S l = some e from h)
   exact ⟨List.mem_cons_of_mem _ h1, h2⟩
theorem cutW_ok {f : FuncId} {l : List CutE} (hv : GVals G) (h : ∀ e ∈ l, CutOk P G f e) : ∀ ro ys T K, cutW l ro ys T K → VCx P G ro f ys T K := by
 intro ro ys T K hk
 unfold cutW at hk
 split at hk
 ·rename_i is ks xs S hsm
  unfold smallW at hsm
  simp only at hsm
  generalize hr : reachW fuelR T ys [] [] = p at hsm
  obtain ⟨is0, ks0⟩ := p
  simp only at hsm
  generalize revL is0 [] = is' at hsm
  generalize revL ks0 [] = ks' at hsm
  cases hb : (nodupB is' && nodupB ks' && liveAll T ro is' && ltAll T.tails.length ks') with
  | false => rw [hb] at hsm; cases hsm
  | true =>
   rw [hb] at hsm
   simp only [cond_true, Option.some.injEq, Prod.mk.injEq] at hsm
   obtain ⟨rfl, rfl, rfl, rfl⟩ := hsm
   simp only [Bool.and_eq_true] at hb
   obtain ⟨⟨⟨b1, b2⟩, b3⟩, b4⟩ := hb
   split at hk
   ·rename_i e he
    obtain ⟨c1, c2, c3, c4, c5⟩ := cutFind_ok he
    have h1 : nameF is' = nameIn is' := funext (nameF_eq is')
    have h2 : nameF ks' = nameIn ks' := funext (nameF_eq ks')
    have o1 : outF T.objs.length is'.length is' = nameOut T.objs.length is' := funext (outF_eq _ is')
    have o2 : outF T.tails.length ks'.length ks' = nameOut T.tails.length ks' := funext (outF_eq _ ks')
    rw [o1, o2, backF_eq] at hk
    rw [giveF_eq] at c3 c4 c5
    have hc : VCx P G 0 f (renL (nameF is') (nameF ks') ys) (T.give is' ks') fun y T' => y = e.y ∧ T' = e.T'.canon := VCx.pre c3 c2 (h e c1)
    rw [h1, h2] at hc
    refine (VCx.lift is' ks' hv (nodupB_ok b1) (nodupB_ok b2) (fun i hi => (liveAll_ok b3 i hi).2) (ltAll_ok b4) (fun i hi => (liveAll_ok b3 i hi).1) rfl hc ?_).mono ?_
    ·rintro x T' ⟨rfl, rfl⟩
     simp only [VT.give, List.length_map] at c4 c5
     exact ⟨by simpa [VT.canon] using c4, by simpa [VT.canon] using c5⟩
    ·rintro z T'' ⟨x, T', ⟨rfl, rfl⟩, rfl, rfl⟩
     exact hk
   ·exact hk.elim
 ·exact hk.elim
def vcut (P : Program) (G : Globs) (C : FuncId → Option Spec) (f : FuncId) (e : CutE) : Prop := vcall P G C 3000 (fun _ => none) 0 f e.xs e.T.canon (cutQ e)
theorem vcut_okX {C : FuncId → Option Spec} (hm : P.follows .mixedOrders = true) (hB : bodiesOk P = true) (hC : SpecsOk P G C) {f : FuncId} {e : CutE} (hl : Nat.ble e.T.objs.length e.T'.objs.length = true) {X : Prop} (hx : X) (h : vcut P G C f e = X) : CutOk P G f e := by
 have h1 : vcut P G C f e := by rw [h]; exact hx
 unfold vcut at h1
 exact cut_vcx hl (vcall_ok hm hB hC lsOk_none h1)
attribute [irreducible] vcut

def cutsAt (g : FuncId) : List (FuncId × CutE) → List CutE
 | [] => []
 | p :: l => bif Nat.beq p.1 g then p.2 :: cutsAt g l else cutsAt g l
def cutsC (l : List (FuncId × CutE)) : FuncId → Option Spec := fun g => match cutsAt g l with
 | [] => none
 | e :: es => some (cutW (e :: es))
def CutsOk (P : Program) (G : Globs) (l : List (FuncId × CutE)) : Prop := ∀ p ∈ l, CutOk P G p.1 p.2
theorem cuts_nil : CutsOk P G [] := fun _ h => by cases h
theorem cuts_cons {f : FuncId} {e : CutE} {l : List (FuncId × CutE)} (h : CutOk P G f e) (k : CutsOk P G l) : CutsOk P G ((f, e) :: l) := fun p hp => by
 rcases List.mem_cons.1 hp with rfl | hp
 ·exact h
 ·exact k p hp
theorem cutsAt_mem {g : FuncId} {e : CutE} : ∀ {l : List (FuncId × CutE)}, e ∈ cutsAt g l → (g, e) ∈ l
 | [], h => by simp [cutsAt] at h
 | p :: l, h => by
  simp only [cutsAt] at h
  cases hb : Nat.beq p.1 g with
  | true =>
   rw [hb] at h
   rcases List.mem_cons.1 h with rfl | h
   ·rw [← Nat.eq_of_beq_eq_true hb]; exact List.mem_cons_self
   ·exact List.mem_cons_of_mem _ (cutsAt_mem h)
  | false => rw [hb] at h; exact List.mem_cons_of_mem _ (cutsAt_mem h)
theorem cutsC_ok {l : List (FuncId × CutE)} (hv : GVals G) (h : CutsOk P G l) : SpecsOk P G (cutsC l) := by
 intro g W hW
 unfold cutsC at hW
 split at hW
 ·cases hW
 ·rename_i e es he
  injection hW with hW; subst hW
  exact cutW_ok hv fun e' h' => h (g, e') (cutsAt_mem (by rw [he]; exact h'))
end
end Go.Proofs.YtogbdjlelkepcaaGreatDoor
namespace Go.Proofs.YtogbdjlelkepcaaGreatDoor
open Go.RowKit

section
variable {P : Program} {G : Globs}
theorem VCx.pick {f : FuncId} {xs : List TV} {T : VT} {Q : TV → VT → Prop} (h : VCx P G 0 f xs T fun x T' => ∃ is ks : List Nat, (is.Nodup ∧ ks.Nodup ∧ (∀ i ∈ is, i < T'.objs.length) ∧ (∀ k ∈ ks, k < T'.tails.length) ∧ (∀ j, j < T.objs.length → is[j]? = some j) ∧ (∀ j, j < T.tails.length → ks[j]? = some j)) ∧ Q (x.ren (nameIn is) (nameIn ks)) (T'.give is ks)) : VCx P G 0 f xs T Q := by
  intro g w us rw0 hG hx
  refine Calls.mono (h g w us rw0 hG hx) ?_
  rintro e w' ⟨v, x, g', T', he, ⟨is, ks, ⟨b1, b2, b3, b4, hp, hq0⟩, hq⟩, e', r', hv, hfx⟩
  refine ⟨v, _, g'.pickG is ks, T'.give is ks, he, hq, Evo.pickG rw0 e' hp hq0 b2, r'.pickG b1 b2 b4, hv.ren (pickG_ren g' is ks), ?_, fun i hi => absurd hi (Nat.not_lt_zero i), fun i o b hi => absurd hi (Nat.not_lt_zero i)⟩
  simp only [VT.give, List.length_map]
  rcases Nat.eq_zero_or_pos T.objs.length with h0 | h0
  · omega
  · have := (List.getElem?_eq_some_iff.1 (hp (T.objs.length - 1) (by omega))).1
    omega
end
end Go.Proofs.YtogbdjlelkepcaaGreatDoor
namespace Go.Proofs.YtogbdjlelkepcaaGreatDoor
open Go.RowKit

abbrev ccF := 38
abbrev grF := 63
def GrOk (n : Int) (y : TV) (T2 : VT) (ro : Nat) (T : VT) : Prop := VCx Tryz.prog noGl ro grF [.val (.slice none 0 0), .val (.int .i64 n)] T fun x T1 => x = y ∧ T1 = T2
def grW (gy : TV) (gT : VT) : Spec := fun ro ys T K => match ys with
 | [.val (.slice none 0 0), .val (.int .i64 n)] => GrOk n gy gT ro T ∧ K gy gT
 | _ => vbad 84 default ys
def tellC2 (y1 y2 : TV) (T1 T2 : VT) : List TV → Option (TV × Option VT)
 | [.row _ 0 _ _, .vec _ (_ :: _) _] => some (y1, some T1)
 | [.row _ (_ + 1) _ _, .vec _ (_ :: _) _] => some (y2, some T2)
 | _ => none
def tellC (y1 y2 : TV) (T1 T2 : VT) : Ora := fun o σ _ => match o.dst with
 | some d => bif Nat.beq d 33 then tellC2 y1 y2 T1 T2 σ else none
 | none => none
theorem ev_gr (n : Int) (k : Nat) (W : List TV) (T : VT) (Q : TV → VT → Prop) : vcallF Tryz.prog noGl noSp (tellS [(22, .row 1 0 0 k, some fun T => T.newRow W)]) 300 noLp 0 grF [.val (.slice none 0 0), .val (.int .i64 n)] zz151 Q =
 (bif decide (n < (0 : Int))
 then False
 else (bif decide (IntKind.wrap IntKind.i64 (n - IntKind.wrap IntKind.i64 ((↑(0 : Nat) : Int) - (↑(0 : Nat) : Int))) > (0 : Int))
 then (OTurn Tryz.prog (fun _ => .none) 0 zz151 (.call ⟨(.builtin .append), #[(.tmp 20), (.tmp 21)], #[22, 3]⟩) [(20, zz5), (21, (zz0 (IntKind.wrap IntKind.i64 (n - IntKind.wrap IntKind.i64 ((↑(0 : Nat) : Int) - (↑(0 : Nat) : Int))))))] (.row 1 0 0 k) (zz70 W) ∧
 Q zz31 (zz70 W))
 else Q zz5 zz151)) := by kernel_rfl
theorem ev_ccAB (q r : List TV) (a b : Bs) (k : Nat) (W : List TV) (tok tok1 tok2 : Tok) (y2 : TV) (T0 T1 T2 : VT) (Q : TV → VT → Prop) : vcallF Tryz.prog noGl (specs [(grF, grW zz31 T0)]) (tellC (zz69 k) y2 T1 T2) 300 noLp 0 ccF [.vec 1 [[.vec 1 (q :: a) tok1], [.vec 1 (r :: b) tok2]] tok] zz151 Q =
 (bif decide (IntKind.wrap IntKind.i64 ((0 : Int) + (↑(List.length (q :: a)) : Int)) < (0 : Int))
 then False
 else (bif decide (IntKind.wrap IntKind.i64 (IntKind.wrap IntKind.i64 ((0 : Int) + (↑(List.length (q :: a)) : Int)) + (↑(List.length (r :: b)) : Int)) < (0 : Int))
 then False
 else (GrOk (IntKind.wrap IntKind.i64 (IntKind.wrap IntKind.i64 ((0 : Int) + (↑(List.length (q :: a)) : Int)) + (↑(List.length (r :: b)) : Int))) zz31 (T0) 0 zz151 ∧
 (OTurn Tryz.prog (fun _ => .none) 0 (T0) (.call ⟨(.builtin .append), #[(.tmp 31), (.tmp 32)], #[22, 22]⟩) [(31, zz31), (32, (.vec 1 ([(q)] ++ a) tok1))] (zz69 k) (T1) ∧
 (OTurn Tryz.prog (fun _ => .none) 0 (T1) (.call ⟨(.builtin .append), #[(.tmp 31), (.tmp 32)], #[22, 22]⟩) [(31, (zz69 k)), (32, (.vec 1 ([(r)] ++ b) tok2))] (y2) (T2) ∧
 Q (y2) (T2)))))) := by kernel_rfl
theorem ev_ccA (q : List TV) (a : Bs) (k : Nat) (W : List TV) (tok tok1 tok2 : Tok) (T1 : VT) (Q : TV → VT → Prop) : vcallF Tryz.prog noGl (specs [(grF, grW zz31 (zz149 (.row W)))]) (tellC (zz69 k) .dead T1 T1) 300 noLp 0 ccF [.vec 1 [[.vec 1 (q :: a) tok1], [.vec 1 [] tok2]] tok] zz151 Q =
 (bif decide (IntKind.wrap IntKind.i64 ((0 : Int) + (↑(List.length (q :: a)) : Int)) < (0 : Int))
 then False
 else (bif decide (IntKind.wrap IntKind.i64 (IntKind.wrap IntKind.i64 ((0 : Int) + (↑(List.length (q :: a)) : Int)) + (↑(0 : Nat) : Int)) < (0 : Int))
 then False
 else (GrOk (IntKind.wrap IntKind.i64 (IntKind.wrap IntKind.i64 ((0 : Int) + (↑(List.length (q :: a)) : Int)) + (↑(0 : Nat) : Int))) zz31 (zz70 W) 0 zz151 ∧
 (OTurn Tryz.prog (fun _ => .none) 0 (zz70 W) (.call ⟨(.builtin .append), #[(.tmp 31), (.tmp 32)], #[22, 22]⟩) [(31, zz31), (32, (.vec 1 ([(q)] ++ a) tok1))] (zz69 k) (T1) ∧
 Q (zz69 k) (T1))))) := by kernel_rfl
theorem ev_ccB (q : List TV) (a : Bs) (k : Nat) (W : List TV) (tok tok1 tok2 : Tok) (T1 : VT) (Q : TV → VT → Prop) : vcallF Tryz.prog noGl (specs [(grF, grW zz31 (zz149 (.row W)))]) (tellC (zz69 k) .dead T1 T1) 300 noLp 0 ccF [.vec 1 [[.vec 1 [] tok1], [.vec 1 (q :: a) tok2]] tok] zz151 Q =
 (bif decide (IntKind.wrap IntKind.i64 (IntKind.wrap IntKind.i64 ((0 : Int) + (↑(0 : Nat) : Int)) + (↑(List.length (q :: a)) : Int)) < (0 : Int))
 then False
 else (GrOk (IntKind.wrap IntKind.i64 (IntKind.wrap IntKind.i64 ((0 : Int) + (↑(0 : Nat) : Int)) + (↑(List.length (q :: a)) : Int))) zz31 (zz70 W) 0 zz151 ∧
 (OTurn Tryz.prog (fun _ => .none) 0 (zz70 W) (.call ⟨(.builtin .append), #[(.tmp 31), (.tmp 32)], #[22, 22]⟩) [(31, zz31), (32, (.vec 1 ([(q)] ++ a) tok2))] (zz69 k) (T1) ∧
 Q (zz69 k) (T1)))) := by kernel_rfl
theorem ev_ccN (tok tok1 tok2 : Tok) (Q : TV → VT → Prop) : vcallF Tryz.prog noGl (specs [(grF, grW (.val (.slice none 0 0)) zz151)]) noOra 300 noLp 0 ccF [.vec 1 [[.vec 1 [] tok1], [.vec 1 [] tok2]] tok] zz151 Q =
 (GrOk 0 zz5 zz151 0 zz151 ∧
 Q zz5 zz151) := by kernel_rfl
end Go.Proofs.YtogbdjlelkepcaaGreatDoor
namespace Go.Proofs.YtogbdjlelkepcaaGreatDoor
open Go.RowKit

def zR (n : Nat) : List TV := (Builtin.zeroCells (Value.int .u8 0).cells n).toList.map .val
theorem zR_ren (f g : Nat → Option Nat) (n : Nat) : renL f g (zR n) = zR n := renL_vals _ _ _
theorem gr_pos {n : Int} (h0 : 0 < n) (h1 : n ≤ 2000000) : VCx Tryz.prog noGl 0 grF [.val (.slice none 0 0), .val (.int .i64 n)] ⟨[], []⟩ fun x T1 => x = .row 1 0 0 0 ∧ T1 = ⟨[.row (zR n.toNat)], []⟩ := by
 obtain ⟨inf, i1, i2, i3, i4⟩ := u8Inf_ex
 refine vcallF_is mixedB_Tryz bodiesB_Tryz specsOk_none lsOk_none (ev_gr n n.toNat (zR n.toNat) ⟨[], []⟩ _) ?_
 have e : IntKind.wrap IntKind.i64 (n - IntKind.wrap IntKind.i64 (((0 : Nat) : Int) - ((0 : Nat) : Int))) = n := by
  rw [show IntKind.wrap IntKind.i64 (((0 : Nat) : Int) - ((0 : Nat) : Int)) = 0 from rfl, Int.sub_zero, wrap_id (by omega) (by omega)]
 refine condF (decide_eq_false (by omega)) (condT (decide_eq_true (by rw [e]; exact h0)) ⟨?_, rfl, rfl⟩)
 rw [e]
 have h := oturn_zero (P := Tryz.prog) (G := noGl) (ro := 0) (T := ⟨[], []⟩) (t := 22) (tn := 3) (s := .tmp 20) (x := .tmp 21) (l := [(20, .val (.slice none 0 0)), (21, .val (.int .i64 n))]) (inf := inf) (m := n) Tryz.underlying22 Tryz.underlying3 i1 i4 (by rw [i2]; rfl) (by rw [i2]; decide) rfl rfl rfl h0 (by rw [i3]; omega)
 rw [i2] at h
 exact h
theorem gr_ok {n : Int} (h0 : 0 < n) (h1 : n ≤ 2000000) (ro : Nat) (T : VT) : GrOk n (.row 1 T.objs.length 0 0) { T with objs := T.objs ++ [.row (zR n.toNat)] } ro T := by
 unfold GrOk
 refine (VCx.lift (T := T) [] [] gvals_noGl List.nodup_nil List.nodup_nil (by simp) (by simp) (by simp) rfl (by rw [VT.give_nil]; exact gr_pos h0 h1) (fun _ _ _ => ⟨Nat.zero_le _, Nat.zero_le _⟩)).mono ?_
 rintro z T' ⟨x, T'', ⟨rfl, rfl⟩, rfl, rfl⟩
 refine ⟨by simp [TV.ren, nameOut], ?_⟩
 rw [VT.back_nil]
 simp [VO.ren, zR_ren]
theorem gr_nil (ro : Nat) (T : VT) : GrOk 0 (.val (.slice none 0 0)) T ro T := by
 unfold GrOk
 exact VCx.liftPure (y := .val (.slice none 0 0)) gvals_noGl (vcallF_is mixedB_Tryz bodiesB_Tryz specsOk_none lsOk_none (ev_gr 0 0 [] ⟨[], []⟩ _) ⟨rfl, rfl⟩) rfl (fun _ _ => rfl) ⟨rfl, rfl⟩
theorem grW_ok {gy : TV} {gT : VT} : ∀ ro ys T K, grW gy gT ro ys T K → VCx Tryz.prog noGl ro grF ys T K := by
 intro ro ys T K hw
 unfold grW at hw
 split at hw
 ·obtain ⟨h, hk⟩ := hw
  exact VCx.mono h fun x T1 ⟨h1, h2⟩ => by subst h1 h2; exact hk
 ·exact hw.elim
theorem bV_flat : ∀ l : List Int, (bV l).flatten = l.map u8v
 | [] => rfl
 | z :: l => by
  have := bV_flat l
  simp only [bV, List.map_cons, List.flatten_cons] at this ⊢
  rw [this]; rfl
theorem rw_flat {w : Bs} (h : IsB w) : RwOk w.flatten 0 w.length ∧ sbB w.flatten 0 w.length = w := by
 obtain ⟨⟨l, rfl, hz⟩, hl⟩ := h
 have hn : (bV l).length = l.length := by simp [bV]
 rw [bV_flat, hn]
 rw [hn] at hl
 refine ⟨⟨by simp, by simpa using hl, l, rfl, hz⟩, ?_⟩
 rw [sb_eq (by omega)]
 simp
theorem IsB.append {a b : Bs} (h : IsB a) (k : IsB b) (hl : (a ++ b).length ≤ 1000000) : IsB (a ++ b) := by
 obtain ⟨⟨l, rfl, hz⟩, _⟩ := h
 obtain ⟨⟨m, rfl, hy⟩, _⟩ := k
 refine ⟨⟨l ++ m, by simp [bV], fun z h => ?_⟩, hl⟩
 rcases List.mem_append.1 h with h | h
 ·exact hz z h
 ·exact hy z h
theorem flat_len {w : Bs} (h : IsB w) : w.flatten.length = w.length := by
 obtain ⟨⟨l, rfl, _⟩, _⟩ := h
 rw [bV_flat]
 simp [bV]
theorem grSp {gy : TV} {gT : VT} : SpecsOk Tryz.prog noGl (specs [(grF, grW gy gT)]) := specs_ok fun p hp => by
 obtain rfl := List.mem_singleton.1 hp; exact grW_ok
theorem ccv_pos {a b : Bs} {tok tok1 tok2 : Tok} (ha : IsB a) (hb : IsB b) (hs : a.length + b.length ≤ 1000000) (h0 : 0 < a.length + b.length) : VCx Tryz.prog noGl 0 ccF [.vec 1 [[.vec 1 a tok1], [.vec 1 b tok2]] tok] ⟨[], []⟩ fun x T' => x = .row 1 0 0 (a.length + b.length) ∧ T' = ⟨[.row (a ++ b).flatten], []⟩ := by
  obtain ⟨inf, i1, i2, i3, i4⟩ := u8Inf_ex
  have hW : RwOk (a ++ b).flatten 0 (a ++ b).length := (rw_flat (IsB.append ha hb (by rw [List.length_append]; exact hs))).1
  have hfa := flat_len ha
  have wr : ∀ m : Nat, m ≤ 1000000 → IntKind.wrap IntKind.i64 ((0 : Int) + (m : Int)) = (m : Int) := fun m hm => by rw [Int.zero_add, wrap_id (by omega) (by omega)]
  have wr2 : IntKind.wrap IntKind.i64 (IntKind.wrap IntKind.i64 ((0 : Int) + (a.length : Int)) + (b.length : Int)) = ((a.length + b.length : Nat) : Int) := by rw [wr _ (by omega), wrap_id (by omega) (by omega)]; omega
  have fin : ∀ {i : Nat} {x : TV} {T : VT}, x = .row 1 i 0 (a.length + b.length) → T.objs[i]? = some (.row (a ++ b).flatten) → ∃ is ks : List Nat, (is.Nodup ∧ ks.Nodup ∧ (∀ j ∈ is, j < T.objs.length) ∧ (∀ k ∈ ks, k < T.tails.length) ∧ (∀ j, j < (⟨[], []⟩ : VT).objs.length → is[j]? = some j) ∧ (∀ j, j < (⟨[], []⟩ : VT).tails.length → ks[j]? = some j)) ∧ (x.ren (nameIn is) (nameIn ks) = .row 1 0 0 (a.length + b.length) ∧ T.give is ks = ⟨[.row (a ++ b).flatten], []⟩) := by
    rintro i x T rfl ho
    refine ⟨[i], [], ⟨by simp, by simp, ?_, by simp, by simp, by simp⟩, ?_, ?_⟩
    · intro j hj
      obtain rfl := List.mem_singleton.1 hj
      exact (List.getElem?_eq_some_iff.1 ho).1
    · simp [TV.ren, nameIn]
    · simp only [VT.give, List.map_cons, List.map_nil, ho, Option.getD_some, hW.ren]
  refine VCx.pick ?_
  cases a with
  | nil =>
    cases b with
    | nil => simp at h0
    | cons r b =>
      refine vcallF_is mixedB_Tryz bodiesB_Tryz grSp lsOk_none (ev_ccB r b (b.length + 1) (zR (b.length + 1)) tok tok1 tok2 ⟨[.gone, .row (r :: b).flatten], []⟩ _) ?_
      have w1 : IntKind.wrap IntKind.i64 (IntKind.wrap IntKind.i64 ((0 : Int) + ((0 : Nat) : Int)) + (((r :: b).length : Nat) : Int)) = ((b.length + 1 : Nat) : Int) := by
        rw [show IntKind.wrap IntKind.i64 ((0 : Int) + ((0 : Nat) : Int)) = 0 from rfl]; exact wr _ (by simp only [List.length_nil, List.length_cons] at hs ⊢; omega)
      refine condF ?_ ⟨?_, ?_, fin (i := 1) (by simp) rfl⟩
      · exact decide_eq_false (by have e := w1; simp only [List.length_cons] at e ⊢; rw [e]; omega)
      · have e := w1
        simp only [List.length_cons] at e ⊢
        rw [e]
        exact gr_ok (n := ((b.length + 1 : Nat) : Int)) (by omega) (by simp only [List.length_nil, List.length_cons] at hs; omega) 0 ⟨[], []⟩
      · have h := oturn_rowX (P := Tryz.prog) (G := noGl) (ro := 0) (T := ⟨[.row (zR (b.length + 1))], []⟩) (t := 22) (tx := 22) (s := .tmp 31) (x := .tmp 32) (l := [(31, .row 1 0 0 0), (32, .vec 1 (r :: b) tok2)]) (inf := inf) (id := 0) (n := 0) (cs := zR (b.length + 1)) (q0 := r) (qs := b) Tryz.underlying22 i1 i4 (by rw [i2]; rfl) rfl rfl (by rw [i2]; rfl) rfl (Nat.zero_le _) (by omega) (by rw [i2]; rfl) (by rw [i3]; simp only [List.length_nil, List.length_cons] at hs ⊢; omega)
        rw [i2, Nat.zero_mul, Nat.zero_add] at h
        exact h
  | cons q a =>
    cases b with
    | nil =>
      refine vcallF_is mixedB_Tryz bodiesB_Tryz grSp lsOk_none (ev_ccA q a (a.length + 1) (zR (a.length + 1)) tok tok1 tok2 ⟨[.gone, .row (q :: a).flatten], []⟩ _) ?_
      have w1 : IntKind.wrap IntKind.i64 ((0 : Int) + (((q :: a).length : Nat) : Int)) = ((a.length + 1 : Nat) : Int) := wr _ (by simp only [List.length_nil, List.length_cons] at hs ⊢; omega)
      have w2 : IntKind.wrap IntKind.i64 (IntKind.wrap IntKind.i64 ((0 : Int) + (((q :: a).length : Nat) : Int)) + ((0 : Nat) : Int)) = ((a.length + 1 : Nat) : Int) := by
        rw [w1]; exact wrap_id (by omega) (by simp only [List.length_nil, List.length_cons] at hs; omega)
      simp only [List.length_cons] at w1 w2
      refine condF ?_ (condF ?_ ⟨?_, ?_, fin (i := 1) (by simp) (by simp)⟩)
      · exact decide_eq_false (by simp only [List.length_cons]; rw [w1]; omega)
      · exact decide_eq_false (by simp only [List.length_cons]; rw [w2]; omega)
      · simp only [List.length_cons]; rw [w2]
        exact gr_ok (n := ((a.length + 1 : Nat) : Int)) (by omega) (by simp only [List.length_nil, List.length_cons] at hs; omega) 0 ⟨[], []⟩
      · have h := oturn_rowX (P := Tryz.prog) (G := noGl) (ro := 0) (T := ⟨[.row (zR (a.length + 1))], []⟩) (t := 22) (tx := 22) (s := .tmp 31) (x := .tmp 32) (l := [(31, .row 1 0 0 0), (32, .vec 1 (q :: a) tok1)]) (inf := inf) (id := 0) (n := 0) (cs := zR (a.length + 1)) (q0 := q) (qs := a) Tryz.underlying22 i1 i4 (by rw [i2]; rfl) rfl rfl (by rw [i2]; rfl) rfl (Nat.zero_le _) (by omega) (by rw [i2]; rfl) (by rw [i3]; simp only [List.length_nil, List.length_cons] at hs ⊢; omega)
        rw [i2, Nat.zero_mul, Nat.zero_add] at h
        exact h
    | cons r b =>
      refine vcallF_is mixedB_Tryz bodiesB_Tryz grSp lsOk_none (ev_ccAB q r a b (a.length + 1) (zR ((q :: a).length + (r :: b).length)) tok tok1 tok2 (.row 1 2 0 ((q :: a).length + (r :: b).length)) ⟨[.row (zR ((q :: a).length + (r :: b).length))], []⟩ ⟨[.gone, .row (q :: a).flatten], []⟩ ⟨[.gone, .gone, .row ((q :: a).flatten ++ (r :: b).flatten)], []⟩ _) ?_
      have w1 := wr (q :: a).length (by omega)
      refine condF ?_ (condF ?_ ⟨?_, ?_, ?_, fin (i := 2) rfl (by simp)⟩)
      · rw [w1]; exact decide_eq_false (by omega)
      · rw [wr2]; exact decide_eq_false (by omega)
      · rw [wr2]; exact gr_ok (n := (((q :: a).length + (r :: b).length : Nat) : Int)) (by omega) (by omega) 0 ⟨[], []⟩
      · have h := oturn_rowX (P := Tryz.prog) (G := noGl) (ro := 0) (T := ⟨[.row (zR ((q :: a).length + (r :: b).length))], []⟩) (t := 22) (tx := 22) (s := .tmp 31) (x := .tmp 32) (l := [(31, .row 1 0 0 0), (32, .vec 1 (q :: a) tok1)]) (inf := inf) (id := 0) (n := 0) (cs := zR ((q :: a).length + (r :: b).length)) (q0 := q) (qs := a) Tryz.underlying22 i1 i4 (by rw [i2]; rfl) rfl rfl (by rw [i2]; rfl) rfl (Nat.zero_le _) (by omega) (by rw [i2]; rfl) (by rw [i3]; omega)
        rw [i2, Nat.zero_mul, Nat.zero_add] at h
        exact h
      · have h := oturn_rowX (P := Tryz.prog) (G := noGl) (ro := 0) (T := ⟨[.gone, .row (q :: a).flatten], []⟩) (t := 22) (tx := 22) (s := .tmp 31) (x := .tmp 32) (l := [(31, .row 1 1 0 (q :: a).length), (32, .vec 1 (r :: b) tok2)]) (inf := inf) (id := 1) (n := (q :: a).length) (cs := (q :: a).flatten) (q0 := r) (qs := b) Tryz.underlying22 i1 i4 (by rw [i2]; rfl) rfl rfl (by rw [i2]; rfl) rfl (Nat.zero_le _) (by rw [i2]; omega) (by rw [i2]; rfl) (by rw [i3]; omega)
        rw [i2, Nat.mul_one, List.take_of_length_le (by omega)] at h
        exact h
theorem ccv_nil {tok tok1 tok2 : Tok} : VCx Tryz.prog noGl 0 ccF [.vec 1 [[.vec 1 [] tok1], [.vec 1 [] tok2]] tok] ⟨[], []⟩ fun x T' => x = .val (.slice none 0 0) ∧ T' = ⟨[], []⟩ :=
 vcallF_is mixedB_Tryz bodiesB_Tryz grSp lsOk_none (ev_ccN tok tok1 tok2 _) ⟨gr_nil _ _, rfl, rfl⟩
end Go.Proofs.YtogbdjlelkepcaaGreatDoor
namespace Go.Proofs.YtogbdjlelkepcaaGreatDoor
open Go.RowKit

def findRegion (id : Nat) : Code → Option Code
 | .region i ops d => bif Nat.beq i id then some (.region i ops d) else none
 | .block _ c => findRegion id c
 | .seq a b => match findRegion id a with
  | some c => some c
  | none => findRegion id b
 | .cond _ a b => match findRegion id a with
  | some c => some c
  | none => findRegion id b
 | .loop c => findRegion id c
 | .scope c => findRegion id c
 | _ => none
def regionAt (P : Program) (f : FuncId) (id : Nat) : Code := (findRegion id (bodyAt P f)).getD .skip
def yldW (P : Program) (G : Globs) (C : FuncId → Option Spec) (F2 : Ora) (n : Nat) (c : Code) : LSpec := fun _ ro σ T D K => match c with
 | .region _ ops false => vops P G noOra (vcallee P C (vx P G C noOra n fun _ => none)) (vround (vx P G C F2 n fun _ => none)) ro ops ops.toList σ T fun σ T => K .normal σ T D
 | _ => False
section
variable {P : Program} {G : Globs}
theorem yldW_ok {C : FuncId → Option Spec} (hm : P.follows .mixedOrders = true) (hB : bodiesOk P = true) (hC : SpecsOk P G C) {F2 : Ora} {n : Nat} {c : Code} : ∀ rd ro σ T D K, yldW P G C F2 n c rd ro σ T D K → VWx P G rd ro c σ T D K := by
 intro rd ro σ T D K h
 unfold yldW at h
 split at h
 ·exact vregion_ok (callee_ok hB hC (vx_ok hm hB hC n n (Nat.le_refl _) noOra _ lsOk_none)) (vround_ok (vx_ok hm hB hC n n (Nat.le_refl _) F2 _ lsOk_none)) h
 ·exact h.elim
def lTwo (i : Nat) (a : LSpec × Code) (j : Nat) (b : LSpec × Code) : Nat → Option (LSpec × Code) := fun k => bif Nat.beq k i then some a else bif Nat.beq k j then some b else none
theorem lTwo_ok {i j : Nat} {a b : LSpec × Code} (ha : ∀ rd ro σ T D K, a.1 rd ro σ T D K → VWx P G rd ro a.2 σ T D K) (hb : ∀ rd ro σ T D K, b.1 rd ro σ T D K → VWx P G rd ro b.2 σ T D K) : LsOk P G (lTwo i a j b) := by
 intro k W c h
 unfold lTwo at h
 cases h1 : Nat.beq k i
 ·rw [h1, cond_false] at h
  cases h2 : Nat.beq k j
  ·rw [h2, cond_false] at h; cases h
  ·rw [h2, cond_true] at h
   cases h; exact hb
 ·rw [h1, cond_true] at h
  cases h; exact ha
end
end Go.Proofs.YtogbdjlelkepcaaGreatDoor
namespace Go.Proofs.YtogbdjlelkepcaaGreatDoor
open Go.RowKit

def msOk (b : Bs) (pas : Int) : Bool := match msP b pas with
 | .inr _ => true
 | .inl _ => false
def MsIs (M : MsgS) (b : Bs) (pas : Int) : Prop := msP b pas = .inr M
def MsBd (c : Nat) (s : Int) (d : Bs) (b : Bs) (pas : Int) : Prop := msP b pas = .inl (((c + 1 : Nat) : Int), s, d)
end Go.Proofs.YtogbdjlelkepcaaGreatDoor
namespace Go.Proofs.YtogbdjlelkepcaaGreatDoor
open Go.RowKit

def m0S : MsgS := ⟨0, ⟨0, 0, 0, []⟩, ⟨[], 0, [], 0, 0, false, []⟩, 0, 0, []⟩
def mpR : Spec := fun ro ys T K => match ys with
 | [.row 1 k off n, .val (.int .i64 pas)] => match T.objs[k]? with
  | some (.row cs) => (Nat.ble ro k = true ∧ RwOk cs off n ∧ Nat.ble 19 n = true ∧ off = 0) ∧ bif msOk (sbB cs off n) pas then ∀ M : MsgS, MsIs M (sbB cs off n) pas → K (.tup [.agg M.cells, ftT 0 0 []]) T else ∀ (c : Nat) (s : Int) (d : Bs), MsBd c s d (sbB cs off n) pas → K (.tup [.agg m0S.cells, ftT (Int.ofNat (c + 1)) s d]) T
  | _ => vbad 80 default ys
 | _ => vbad 83 default ys
def ccW : Spec := fun _ ys T K => match ys with
 | [.vec 1 [[.vec 1 a _], [.vec 1 b _]] _] => (IsB a ∧ IsB b ∧ Nat.ble (a.length + b.length) 1000000 = true) ∧ bif Nat.beq (a.length + b.length) 0 then K (.val (.slice none 0 0)) T else K (.row 1 T.objs.length 0 (a.length + b.length)) { T with objs := T.objs ++ [.row (a ++ b).flatten] }
 | _ => vbad 83 default ys
abbrev fdF := 11
abbrev ffF := 15
abbrev fwF := 64
def findRange : Code → Option (Code × Code)
 | .rangeFunc _ _ a b => some (a, b)
 | .block _ c => findRange c
 | .seq a b => match findRange a with
  | some c => some c
  | none => findRange b
 | .cond _ a b => match findRange a with
  | some c => some c
  | none => findRange b
 | .loop c => findRange c
 | .scope c => findRange c
 | _ => none
noncomputable def fdAsg : Code := match findRange (bodyAt Tryz.prog fdF) with
 | some (a, _) => a
 | none => .skip
noncomputable def fdBody : Code := match findRange (bodyAt Tryz.prog fdF) with
 | some (_, b) => b
 | none => .skip
def stO (pas : Int) (x : TV) (c s : Int) (d : TV) (n : Int) : VO := .cells [.val (.bool true), .val (.int .i64 pas), x, .val (.int .i64 c), .val (.int .i64 s), d, .val (.int .i64 n)]
def fdS : List TV := [.dead, .dead, .ptr 1 0, .dead, .dead, .dead, .ptr 3 0] ++ List.replicate 50 .dead
noncomputable def fwT (pas c s n : Int) (d x l : TV) (ds : List TV) (tl : Tl7) (st : LoopState) (pe : Option Code) : VT := ⟨[stO pas x c s d n, .cells [.ptr 0 0], .row ds, .cells [l], .cells [.ptr 0 0], .loop st pe fdS #[34, 35] fdAsg fdBody], tl⟩
def fwS : List TV := [.yld 5, .ptr 4 0] ++ List.replicate 82 .dead
abbrev zzy35 (M : MsgS) : VO := (zz26 (MsgS.k M) (OpS.n (MsgS.op M)) (OpS.h (MsgS.op M)) (OpS.i (MsgS.op M)) (OpS.l (MsgS.op M)) (UpS.w (MsgS.u M)) (UpS.o (MsgS.u M)) (UpS.x (MsgS.u M)) (UpS.h (MsgS.u M)) (UpS.m (MsgS.u M)) (UpS.hm (MsgS.u M)) (UpS.n (MsgS.u M)) (MsgS.c M) (MsgS.s M) (MsgS.d M))
theorem ev_wr (pas n : Int) (N k k2 : Nat) (r : Int) (x1 y73 : TV) (l1 : List (List TV)) (tk1 : Tok) (ds ds2 : List TV) (tl tl2 : Tl7) (Q : Exit → List TV → List VO → Tl7 → List Nat → Nat → Prop) : vx Tryz.prog leastG (specs [(hdF, hdR), (mpF, mpR)]) (tellS [(999998, .dead, none), (46, .row 1 2 0 k, none), (73, y73, none), (74, .val (.int .i64 r), some fun T => { T with objs := T.objs.set 2 (.row ds2) }), (81, .row 1 2 0 k2, none)]) 300 (lTwo 999997 (fun _ _ _ _ _ _ => False, .skip) 1000006 (yldW Tryz.prog leastG noSp (tellS [(49, .vec 15 l1 tk1, some fun T => { T with tails := tl2 })]) 250 (regionAt Tryz.prog fwF 6), regionAt Tryz.prog fwF 6)) none 0 (loopAt Tryz.prog fwF 0) fwS (fwT pas 0 0 n zz29 (zz28 N) x1 ds tl .ready none) [] (fun e σ T D => Q e (pick [0, 1] σ) (T.objs.take 6) T.tails D σ.length) =
 (bif decide ((↑N : Int) ≥ (19 : Int))
 then (((@Eq (Bool) true true) ∧
 (RwOk (ds) 0 (N) ∧
 ((@Eq (Bool) (Nat.ble (19 : Nat) N) true) ∧
 (@Eq (Nat) 0 0)))) ∧
 (bif hdOk (sbB ds (0 : Nat) N)
 then (bif decide (hdN (sbB ds (0 : Nat) N) > (↑N : Int))
 then Q .ret [(.yld 5), zz103] [(zz30 pas N n), zz115, (.row (ds)), (.cells [x1]), zz115, (.loop .ready .none [.dead, .dead, zz20, .dead, .dead, .dead, zz99, .dead, .dead, .dead, .dead, .dead, .dead, .dead, .dead, .dead, .dead, .dead, .dead, .dead, .dead, .dead, .dead, .dead, .dead, .dead, .dead, .dead, .dead, .dead, .dead, .dead, .dead, .dead, .dead, .dead, .dead, .dead, .dead, .dead, .dead, .dead, .dead, .dead, .dead, .dead, .dead, .dead, .dead, .dead, .dead, .dead, .dead, .dead, .dead, .dead, .dead] #[34, 35] fdAsg fdBody)] (tl) [] 84
 else (OPure Tryz.prog (fun kk => (bif Nat.beq kk (0 : Nat) then (.some zz65) else .none)) (.slice 22 (.tmp 44) .none (.some (.tmp 45)) .none) [(44, (zz28 N)), (45, (zz0 (hdN (sbB ds (0 : Nat) N))))] (zz28 k) ∧
 (((@Eq (Bool) true true) ∧
 (RwOk (ds) 0 (k) ∧
 ((@Eq (Bool) (Nat.ble (19 : Nat) k) true) ∧
 (@Eq (Nat) 0 0)))) ∧
 (bif msOk (sbB ds (0 : Nat) k) pas
 then (∀ M : MsgS, (MsIs (M) (sbB ds (0 : Nat) k) (pas) → ((regionAt Tryz.prog fwF (6 : Nat) = regionAt Tryz.prog fwF (6 : Nat)) ∧
 (OTurn Tryz.prog (fun kk => (bif Nat.beq kk (0 : Nat) then (.some zz65) else .none)) 0 ⟨[(zz30 pas N n), zz115, (zz32 ds), (.cells [x1]), zz115, (.loop .busy .none [.dead, .dead, (.ptr 1 0), .dead, .dead, .dead, (.ptr 3 0), .dead, .dead, .dead, .dead, .dead, .dead, .dead, .dead, .dead, .dead, .dead, .dead, .dead, .dead, .dead, .dead, .dead, .dead, .dead, .dead, .dead, .dead, .dead, .dead, .dead, .dead, .dead, .dead, .dead, .dead, .dead, .dead, .dead, .dead, .dead, .dead, .dead, .dead, .dead, .dead, .dead, .dead, .dead, .dead, .dead, .dead, .dead, .dead, .dead, .dead] #[34, 35] fdAsg fdBody), zz43, (zzy35 M), (zzy35 M), zz43], tl⟩ (.call ⟨(.builtin .append), #[(.tmp 46), (.tmp 48)], #[25, 25]⟩) [(46, (x1)), (48, (.vec 15 [[(.val (.int .i64 (MsgS.k M))), (.val (.int .i64 (OpS.n (MsgS.op M)))), (.val (.int .i64 (OpS.h (MsgS.op M)))), (.val (.int .u32 (OpS.i (MsgS.op M)))), (.vec 2 (OpS.l (MsgS.op M)) .none), (.vec 2 (UpS.w (MsgS.u M)) .none), (.val (.int .i64 (UpS.o (MsgS.u M)))), (.vec 1 (UpS.x (MsgS.u M)) .none), (.val (.int .u32 (UpS.h (MsgS.u M)))), (.val (.int .i64 (UpS.m (MsgS.u M)))), (.val (.bool (UpS.hm (MsgS.u M)))), (.vec 2 (UpS.n (MsgS.u M)) .none), (.val (.int .i64 (MsgS.c M))), (.val (.int .i64 (MsgS.s M))), (.vec 1 (MsgS.d M) .none)]] .full))] (.vec 15 l1 tk1) ⟨[(zz30 pas N n), zz115, (zz32 ds), (.cells [x1]), zz115, (.loop .busy .none [.dead, .dead, (.ptr 1 0), .dead, .dead, .dead, (.ptr 3 0), .dead, .dead, .dead, .dead, .dead, .dead, .dead, .dead, .dead, .dead, .dead, .dead, .dead, .dead, .dead, .dead, .dead, .dead, .dead, .dead, .dead, .dead, .dead, .dead, .dead, .dead, .dead, .dead, .dead, .dead, .dead, .dead, .dead, .dead, .dead, .dead, .dead, .dead, .dead, .dead, .dead, .dead, .dead, .dead, .dead, .dead, .dead, .dead, .dead, .dead] #[34, 35] fdAsg fdBody), zz43, (zzy35 M), (zzy35 M), zz43], tl2⟩ ∧
 (OPure Tryz.prog (fun kk => (bif Nat.beq kk (0 : Nat) then (.some zz65) else .none)) (.slice 22 (.tmp 71) (.some (.tmp 72)) .none .none) [(71, (zz28 N)), (72, (zz0 (hdN (sbB ds (0 : Nat) N))))] (y73) ∧
 (OTurn Tryz.prog (fun kk => (bif Nat.beq kk (0 : Nat) then (.some zz65) else .none)) 0 ⟨[(zz30 pas N (IntKind.wrap IntKind.i64 (n + (1 : Int)))), zz115, (zz32 ds), (.cells [(.vec 15 l1 tk1)]), zz115, (.loop .ready .none [.dead, .dead, (.ptr 1 0), .dead, .dead, .dead, (.ptr 3 0), .dead, .dead, .dead, .dead, .dead, .dead, .dead, .dead, .dead, .dead, .dead, .dead, .dead, .dead, .dead, .dead, .dead, .dead, .dead, .dead, .dead, .dead, .dead, .dead, .dead, .dead, .dead, .dead, .dead, .dead, .dead, .dead, .dead, .dead, .dead, .dead, .dead, .dead, .dead, .dead, .dead, .dead, .dead, .dead, .dead, .dead, .dead, .dead, .dead, .dead] #[34, 35] fdAsg fdBody), zz43, (zzy35 M), (zzy35 M), zz43], tl2⟩ (.call ⟨(.builtin .copy), #[(.tmp 67), (.tmp 73)], #[22, 22]⟩) [(67, (zz28 N)), (73, (y73))] (zz0 r) ⟨[(zz30 pas N (IntKind.wrap IntKind.i64 (n + (1 : Int)))), zz115, (zz32 ds2), (.cells [(.vec 15 l1 tk1)]), zz115, (.loop .ready .none [.dead, .dead, (.ptr 1 0), .dead, .dead, .dead, (.ptr 3 0), .dead, .dead, .dead, .dead, .dead, .dead, .dead, .dead, .dead, .dead, .dead, .dead, .dead, .dead, .dead, .dead, .dead, .dead, .dead, .dead, .dead, .dead, .dead, .dead, .dead, .dead, .dead, .dead, .dead, .dead, .dead, .dead, .dead, .dead, .dead, .dead, .dead, .dead, .dead, .dead, .dead, .dead, .dead, .dead, .dead, .dead, .dead, .dead, .dead, .dead] #[34, 35] fdAsg fdBody), zz43, (zzy35 M), (zzy35 M), zz43], tl2⟩ ∧
 (OPure Tryz.prog (fun kk => (bif Nat.beq kk (0 : Nat) then (.some zz65) else .none)) (.slice 22 (.tmp 79) .none (.some (.tmp 80)) .none) [(79, (zz28 N)), (80, (zz0 r))] (zz28 k2) ∧
 Q .normal [(.yld 5), zz103] [(zz30 pas k2 (IntKind.wrap IntKind.i64 (n + (1 : Int)))), zz115, (.row (ds2)), (.cells [(.vec 15 l1 tk1)]), zz115, (.loop .ready .none [.dead, .dead, zz20, .dead, .dead, .dead, zz99, .dead, .dead, .dead, .dead, .dead, .dead, .dead, .dead, .dead, .dead, .dead, .dead, .dead, .dead, .dead, .dead, .dead, .dead, .dead, .dead, .dead, .dead, .dead, .dead, .dead, .dead, .dead, .dead, .dead, .dead, .dead, .dead, .dead, .dead, .dead, .dead, .dead, .dead, .dead, .dead, .dead, .dead, .dead, .dead, .dead, .dead, .dead, .dead, .dead, .dead] #[34, 35] fdAsg fdBody)] (tl2) [] 84)))))))
 else (∀ c : Nat, (∀ s : Int, (∀ d : Bs, (MsBd (c) (s) (d) (sbB ds (0 : Nat) k) (pas) → ((regionAt Tryz.prog fwF (6 : Nat) = regionAt Tryz.prog fwF (6 : Nat)) ∧
 Q .ret [(.yld 5), zz103] [(.cells [zz27, (zz0 pas), zz5, (zz0 (Int.ofNat (c + (1 : Nat)))), (zz0 s), (zz1 d), (zz0 n)]), zz115, (.row (ds)), (.cells [x1]), zz115, (.loop .done (.some (Code.exit (0 : Nat))) [.dead, .dead, zz20, .dead, .dead, .dead, zz99, .dead, .dead, .dead, .dead, .dead, .dead, .dead, .dead, .dead, .dead, .dead, .dead, .dead, .dead, .dead, .dead, .dead, .dead, .dead, .dead, .dead, .dead, .dead, .dead, .dead, .dead, .dead, .dead, .dead, .dead, .dead, .dead, .dead, .dead, .dead, .dead, .dead, .dead, .dead, .dead, .dead, .dead, .dead, .dead, .dead, .dead, .dead, .dead, .dead, .dead] #[34, 35] fdAsg fdBody)] (tl) [] 84)))))))))
 else ((regionAt Tryz.prog fwF (6 : Nat) = regionAt Tryz.prog fwF (6 : Nat)) ∧
 Q .ret [(.yld 5), zz103] [(.cells [zz27, (zz0 pas), zz5, zz37, (zz0 (hdS (sbB ds (0 : Nat) N))), (zz1 (hdD (sbB ds (0 : Nat) N))), (zz0 n)]), zz115, (.row (ds)), (.cells [x1]), zz115, (.loop .done (.some (Code.exit (0 : Nat))) [.dead, .dead, zz20, .dead, .dead, .dead, zz99, .dead, .dead, .dead, .dead, .dead, .dead, .dead, .dead, .dead, .dead, .dead, .dead, .dead, .dead, .dead, .dead, .dead, .dead, .dead, .dead, .dead, .dead, .dead, .dead, .dead, .dead, .dead, .dead, .dead, .dead, .dead, .dead, .dead, .dead, .dead, .dead, .dead, .dead, .dead, .dead, .dead, .dead, .dead, .dead, .dead, .dead, .dead, .dead, .dead, .dead] #[34, 35] fdAsg fdBody)] (tl) [] 84)))
 else Q (.exit 0) [(.yld 5), zz103] [(zz30 pas N n), zz115, (.row (ds)), (.cells [x1]), zz115, (.loop .ready .none [.dead, .dead, zz20, .dead, .dead, .dead, zz99, .dead, .dead, .dead, .dead, .dead, .dead, .dead, .dead, .dead, .dead, .dead, .dead, .dead, .dead, .dead, .dead, .dead, .dead, .dead, .dead, .dead, .dead, .dead, .dead, .dead, .dead, .dead, .dead, .dead, .dead, .dead, .dead, .dead, .dead, .dead, .dead, .dead, .dead, .dead, .dead, .dead, .dead, .dead, .dead, .dead, .dead, .dead, .dead, .dead, .dead] #[34, 35] fdAsg fdBody)] (tl) [] 84) := by kernel_rfl
end Go.Proofs.YtogbdjlelkepcaaGreatDoor
namespace Go.Proofs.YtogbdjlelkepcaaGreatDoor
open Go.RowKit

theorem msP_code {b : Bs} {pas : Int} {c s : Int} {d : Bs} (h : msP b pas = .inl (c, s, d)) : ∃ k : Nat, c = ((k + 1 : Nat) : Int) := by
 unfold msP at h
 have go : ∀ {q : Int × Int × Bs}, (q.1 = 1 ∨ q.1 = 2 ∨ q.1 = 3) → q = (c, s, d) → ∃ k : Nat, c = ((k + 1 : Nat) : Int) := by
  rintro q hq rfl
  rcases hq with h | h | h
  ·exact ⟨0, h⟩
  ·exact ⟨1, h⟩
  ·exact ⟨2, h⟩
 cases h1 : hdOk b <;> rw [h1] at h <;> simp only [cond_true, cond_false] at h
 ·exact go (.inl rfl) (Sum.inl.inj h)
 split at h
 ·exact go (.inl rfl) (Sum.inl.inj h)
 split at h
 ·exact go (.inl rfl) (Sum.inl.inj h)
 split at h
 ·cases h2 : opOk (b.drop 19) pas <;> rw [h2] at h <;> simp only [cond_true, cond_false] at h
  ·exact go (.inr (.inl rfl)) (Sum.inl.inj h)
  ·cases h
 split at h
 ·cases h2 : upOk (b.drop 19) <;> rw [h2] at h <;> simp only [cond_true, cond_false] at h
  ·exact go (.inr (.inr rfl)) (Sum.inl.inj h)
  ·cases h
 split at h
 ·cases h2 : ntO (b.drop 19) <;> rw [h2] at h <;> simp only [cond_true, cond_false] at h
  ·exact go (.inl rfl) (Sum.inl.inj h)
  ·cases h
 cases h
theorem mpR_ok : ∀ ro ys T K, mpR ro ys T K → VCx Tryz.prog leastG ro mpF ys T K := by
 intro ro ys T K hw
 unfold mpR at hw
 split at hw
 ·split at hw
  ·rename_i k off n pas _ cs ho
   obtain ⟨⟨hro, h, hn, rfl⟩, hk⟩ := hw
   refine VCx.atRow leastG_vals (Nat.le_of_ble_eq_true hro) ho h.ren (msX_ren pas h.is) (by simp [renL, TV.ren, nameIn]) (mp_row h (Nat.le_of_ble_eq_true hn) pas) ?_
   unfold msX
   cases hP : msP (sbB cs 0 n) pas with
   | inl p =>
    obtain ⟨c, s, d⟩ := p
    obtain ⟨j, rfl⟩ := msP_code hP
    rw [show msOk (sbB cs 0 n) pas = false by unfold msOk; rw [hP], cond_false] at hk
    exact hk j s d hP
   | inr M =>
    rw [show msOk (sbB cs 0 n) pas = true by unfold msOk; rw [hP], cond_true] at hk
    exact hk M hP
  ·exact hw.elim
 ·exact hw.elim
theorem rw_shift {ds : List TV} {N n : Nat} (h : RwOk ds 0 N) (hn : n ≤ N) : RwOk (setCs ds 0 (sbB ds n (N - n)).flatten) 0 (N - n) ∧ sbB (setCs ds 0 (sbB ds n (N - n)).flatten) 0 (N - n) = (sbB ds 0 N).drop n := by
  have hd := sb_drop h hn
  rw [Nat.zero_add] at hd
  rw [hd]
  obtain ⟨h1, h2, l, rfl, hz⟩ := h
  rw [List.length_map] at h1 h2
  have hl : ((l.drop n).take (N - n)).length = N - n := by rw [List.length_take, List.length_drop]; omega
  have e0 : sbB (l.map u8v) n (N - n) = bV ((l.drop n).take (N - n)) := sb_eq (by omega)
  have e1 : setCs (l.map u8v) 0 (sbB (l.map u8v) n (N - n)).flatten = ((l.drop n).take (N - n) ++ l.drop (N - n)).map u8v := by
    rw [e0, bV_flat]
    simp only [setCs, List.take_zero, List.nil_append, List.length_map, hl, Nat.zero_add, List.map_append, List.map_drop]
  have hl2 : ((l.drop n).take (N - n) ++ l.drop (N - n)).length = l.length := by rw [List.length_append, hl, List.length_drop]; omega
  rw [e1]
  refine ⟨⟨by rw [List.length_map, hl2]; omega, by rw [List.length_map, hl2]; exact h2, _, rfl, fun z hz2 => ?_⟩, ?_⟩
  · rcases List.mem_append.1 hz2 with q | q
    · exact hz z (List.mem_of_mem_drop (List.mem_of_mem_take q))
    · exact hz z (List.mem_of_mem_drop q)
  · rw [sb_eq (by rw [hl2]; omega), e0, List.drop_zero, List.take_append_of_le_length (by rw [hl]; exact Nat.le_refl _), List.take_of_length_le (by rw [hl]; exact Nat.le_refl _)]
end Go.Proofs.YtogbdjlelkepcaaGreatDoor
namespace Go.Proofs.YtogbdjlelkepcaaGreatDoor
open Go.RowKit

theorem ccW_ok : ∀ ro ys T K, ccW ro ys T K → VCx Tryz.prog leastG ro ccF ys T K := by
  intro ro ys T K hw
  unfold ccW at hw
  split at hw
  · rename_i a tok1 b tok2 tok
    obtain ⟨⟨ha, hb, hs⟩, hk⟩ := hw
    have hs := Nat.le_of_ble_eq_true hs
    have hx : renL (nameIn []) (nameIn []) [.vec 1 [[.vec 1 a tok1], [.vec 1 b tok2]] tok] = [.vec 1 [[.vec 1 a (tok1.ren (nameIn []) (nameIn []))], [.vec 1 b (tok2.ren (nameIn []) (nameIn []))]] (tok.ren (nameIn []) (nameIn []))] := by
      simp only [renL, renLL, TV.ren, ha.ren, hb.ren]
    refine VCx.anyG ?_
    by_cases h0 : a.length + b.length = 0
    · obtain rfl : a = [] := List.eq_nil_of_length_eq_zero (by omega)
      obtain rfl : b = [] := List.eq_nil_of_length_eq_zero (by omega)
      rw [show Nat.beq (([] : Bs).length + ([] : Bs).length) 0 = true from rfl, cond_true] at hk
      exact VCx.liftPure gvals_noGl ccv_nil hx (fun _ _ => rfl) hk
    · have hbq : Nat.beq (a.length + b.length) 0 = false := by
        cases h : Nat.beq (a.length + b.length) 0
        · rfl
        · exact absurd (Nat.eq_of_beq_eq_true h) h0
      rw [hbq, cond_false] at hk
      have hW : RwOk (a ++ b).flatten 0 (a ++ b).length := (rw_flat (IsB.append ha hb (by rw [List.length_append]; exact hs))).1
      refine (VCx.lift (T := T) [] [] gvals_noGl List.nodup_nil List.nodup_nil (by simp) (by simp) (by simp) hx (by rw [VT.give_nil]; exact ccv_pos ha hb hs (by omega)) (fun _ _ _ => ⟨Nat.zero_le _, Nat.zero_le _⟩)).mono ?_
      rintro z T' ⟨x, T'', ⟨rfl, rfl⟩, rfl, rfl⟩
      rw [VT.back_nil]
      simp only [List.map_cons, List.map_nil, hW.ren, List.append_nil]
      simpa [TV.ren, nameOut] using hk
  · exact hw.elim
end Go.Proofs.YtogbdjlelkepcaaGreatDoor
namespace Go.Proofs.YtogbdjlelkepcaaGreatDoor
open Go.RowKit

def PxWf (l : Bs) : Prop := ∃ p : List (Int × Int), l = p.map pxE ∧ p.length ≤ 2000000
def IvWf (x : Bs) : Prop := ∃ l : List Int, x = iV l ∧ l.length ≤ 2000000
def CpWf (l : Bs) : Prop := ∃ c : List (Int × Bs), l = c.map cpE ∧ AllB c ∧ c.length ≤ 2000000
def OpWf (o : OpS) : Prop := CpWf o.l
def UpWf (u : UpS) : Prop := PxWf u.w ∧ PxWf u.n ∧ IvWf u.x
def MsWf (m : MsgS) : Prop := OpWf m.op ∧ UpWf m.u ∧ IsB m.d
def PxEq (l l' : Bs) : Prop := l = l' ∧ PxWf l
def AtEq (l l' : List TV) : Prop := l = l' ∧ ∃ (o h m : Int) (hm : Bool) (x : Bs), IvWf x ∧ l = [.val (.int .i64 o), .vec 1 x .none, .val (.int .u32 h), .val (.int .i64 m), .val (.bool hm)]
def OpEq (l l' : List TV) : Prop := l = l' ∧ ∃ o : OpS, OpWf o ∧ l = o.cells
def UpEq (l l' : List TV) : Prop := l = l' ∧ ∃ u : UpS, UpWf u ∧ l = u.cells
def FtEq (l l' : List TV) : Prop := l = l' ∧ ∃ (c s : Int) (d : Bs), IsB d ∧ l = [.val (.int .i64 c), .val (.int .i64 s), .vec 1 d .none]
def MsEq (l l' : List TV) : Prop := l = l' ∧ ∃ m : MsgS, MsWf m ∧ l = m.cells
theorem PxWf.nil : PxWf [] := ⟨[], rfl, Nat.zero_le _⟩
theorem IvWf.nil : IvWf [] := ⟨[], rfl, Nat.zero_le _⟩
theorem CpWf.nil : CpWf [] := ⟨[], rfl, .nil, Nat.zero_le _⟩
theorem up0_wf : UpWf up0 := ⟨.nil, .nil, .nil⟩
theorem op0_wf : OpWf op0 := CpWf.nil
theorem m0_wf : MsWf m0 := ⟨op0_wf, up0_wf, .nil⟩
theorem PxWf.ren {l : Bs} (h : PxWf l) (f g : Nat → Option Nat) : renLL f g l = l := by
 obtain ⟨p, rfl, _⟩ := h
 exact renLL_px f g p
theorem IvWf.ren {l : Bs} (h : IvWf l) (f g : Nat → Option Nat) : renLL f g l = l := by
 obtain ⟨p, rfl, _⟩ := h
 exact iV_ren f g p
theorem CpWf.ren {l : Bs} (h : CpWf l) (f g : Nat → Option Nat) : renLL f g l = l := by
 obtain ⟨p, rfl, h2, _⟩ := h
 exact renLL_cp f g h2
theorem OpWf.ren {o : OpS} (h : OpWf o) (f g : Nat → Option Nat) : renL f g o.cells = o.cells := by
 simp only [OpS.cells, renL, TV.ren, CpWf.ren h, Tok.ren]
theorem UpWf.ren {u : UpS} (h : UpWf u) (f g : Nat → Option Nat) : renL f g u.cells = u.cells := by
 simp only [UpS.cells, renL, TV.ren, h.1.ren, h.2.1.ren, h.2.2.ren, Tok.ren]
theorem MsWf.ren {m : MsgS} (h : MsWf m) : MsOk m := msOk_of h.1.ren h.2.1.ren h.2.2.ren
theorem pfGo_len : ∀ (k : Nat) (b : Bs) (acc l : List (Int × Int)), pfGo k b acc = some l → l.length ≤ acc.length + b.length
 | 0, _, _, _, h => by cases h
 | k + 1, b, acc, l, h => by
  unfold pfGo at h
  by_cases hl : leB b 0 > 0
  ·rw [decide_eq_true hl] at h
   cases h2 : prOk b 0 <;> rw [h2] at h
   ·cases h
   ·have h3 := pfGo_len k _ _ _ h
    have h4 := prB_lt hl
    simp only [List.length_append, List.length_cons, List.length_nil] at h3
    omega
  ·rw [decide_eq_false hl] at h
   injection h with h; subst h; omega
theorem pfL_wf {b : Bs} (hb : b.length ≤ 1000000) : PxWf (pfL b) := by
 refine ⟨(pfP b).getD [], rfl, ?_⟩
 cases h : pfP b with
 | none => exact Nat.zero_le _
 | some l => have := pfGo_len _ _ _ _ h; simp only [List.length_nil] at this; simp only [Option.getD_some]; omega
theorem ptGo_16 : ∀ (k : Nat) (b : Bs) (l r : List Int), l.length ≤ 16 → ptGo k b l = some r → r.length ≤ 16
 | 0, _, _, _, _, h => by cases h
 | k + 1, b, l, r, hl, h => by
  unfold ptGo at h
  cases h1 : decide (leB b 0 > 0) <;> rw [h1] at h
  ·injection h with h; exact h ▸ hl
  ·cases h2 : ptH b <;> rw [h2] at h
   ·cases h
   ·simp only [cond_true] at h
    split at h
    ·rename_i b' l' he
     exact ptGo_16 k b' l' r (ptI_16 _ _ _ _ _ hl he) h
    ·cases h
theorem ptLB_wf (v : Bs) : IvWf (ptLB v) := by
 refine ⟨ptA v, rfl, ?_⟩
 unfold ptA
 cases h : ptP v with
 | none => exact Nat.zero_le _
 | some l => have := ptGo_16 _ _ [] _ (Nat.zero_le 16) h; simp only [Option.getD_some]; omega
def XWf (x : TV) : Prop := x = .val (.slice none 0 0) ∨ ∃ l, x = .vec 1 l .none ∧ IvWf l
theorem put_wf {a : AtS} (h : XWf a.x) (t : Int) (v : Bs) : XWf (a.put t v).x := by
 unfold AtS.put
 split
 ·exact h
 split
 ·exact .inr ⟨_, rfl, ptLB_wf v⟩
 split
 ·exact h
 split
 ·exact h
 ·exact h
theorem aqGo_wf : ∀ (l : List Rw3) (f : Nat → Bool) (a : AtS), XWf a.x → ∀ a' f', aqGo l f a = .inr (a', f') → XWf a'.x
 | [], f, a, h, a', f', e => by injection e with e; injection e with e1 e2; exact e1 ▸ h
 | (fl, t, v) :: l, f, a, h, a', f', e => by
  unfold aqGo at e
  cases hf : f t.toNat <;> rw [hf] at e
  ·simp only [cond_false] at e
   split at e
   ·exact aqGo_wf l _ _ (put_wf h t v) a' f' e
   ·split at e <;> cases e
  ·cases e
theorem paPt_wf (b : Bs) : IvWf (paPt b) := by
 have key : ∀ a : AtS, XWf a.x → ∀ l, a.fix.x = .vec 1 l .none → IvWf l := by
  intro a ha l hl
  unfold AtS.fix at hl
  simp only at hl
  rcases ha with h | ⟨l', h, hw⟩ <;> rw [h] at hl <;> simp only at hl
  ·injection hl with _ hl; subst hl; exact .nil
  ·injection hl with _ hl; subst hl; exact hw
 have hx := paAt_x b
 unfold paAt at hx
 split at hx
 ·rename_i a h
  refine key a ?_ _ hx
  unfold aqP at h
  cases ho : saO b <;> rw [ho] at h
  ·cases h
  ·simp only [cond_true] at h
   split at h
   ·cases h
   ·rename_i a' f' he
    have := aqGo_wf _ _ _ (.inl rfl) _ _ he
    unfold aqMet at h
    cases g1 : f' 1 <;> cases g2 : f' 2 <;> cases g3 : f' 3 <;> simp only [g1, g2, g3, cond_true, cond_false] at h <;> first | (cases h; done) | (injection h with h; exact h ▸ this)
 ·exact key at0 (.inl rfl) _ hx
theorem upU_wf {b : Bs} (hb : IsB b) : UpWf (upU b) := by
 have hw : PxWf (pfL (upG b)) := pfL_wf (upG_is hb).small
 have hn : PxWf (pfL (upN b)) := pfL_wf (upN_is hb).small
 have hx : IvWf (paPt (upA b)) := paPt_wf _
 have e1 : UpWf { up0 with w := pfL (upG b), n := pfL (upN b) } := ⟨hw, hn, .nil⟩
 have e2 : UpWf ⟨pfL (upG b), paOr (upA b), paPt (upA b), paHp (upA b), paMd (upA b), paHm (upA b), pfL (upN b)⟩ := ⟨hw, hn, hx⟩
 unfold upU
 split
 ·rename_i u h
  unfold upP at h
  split at h
  ·cases h
  cases g1 : pfO (upG b) <;> simp only [g1, cond_true, cond_false] at h
  ·cases h
  cases g2 : pfO (upN b) <;> simp only [g2, cond_true, cond_false] at h
  ·cases h
  split at h
  ·injection h with h; exact h ▸ e1
  cases g3 : paOk (upA b) <;> simp only [g3, cond_true, cond_false] at h
  ·split at h
   ·cases h
   split at h
   ·injection h with h; exact h ▸ e1
   ·cases h
  ·split at h
   ·injection h with h; exact h ▸ e2
   ·injection h with h; exact h ▸ e1
 ·exact up0_wf
theorem paGo_len : ∀ (k : Nat) (b : Bs) (e : Int) (acc l : List (Int × Bs)), IsB b → paGo k b e acc = .ok l → l.length ≤ acc.length + b.length
 | 0, _, _, _, _, _, h => by cases h
 | k + 1, b, e, acc, l, hb, h => by
  unfold paGo at h
  by_cases hl : leB b e > 0
  ·rw [decide_eq_true hl] at h
   cases h2 : decide (cvZ b e = 0) <;> rw [h2] at h
   ·cases h
   ·cases h3 : decide (cvC b e = 2) <;> rw [h3] at h
    ·cases h
    ·cases h4 : cpO (cvV b e) 0 <;> rw [h4] at h
     ·cases h
     ·have h5 := paGo_len k _ _ _ _ (cvB_is hb) h
      have h6 := cv_len hl
      have h7 := (cpF_is 0 (cvV_is (e := e) hb)).2.2
      simp only [List.length_append] at h5
      omega
  ·rw [decide_eq_false hl] at h
   injection h with h; subst h; omega
theorem paL_wf {b : Bs} (hb : IsB b) (e : Int) : CpWf (paL b e) := by
 cases h : paF b e with
 | ok l =>
  rw [(paO_ok h).2]
  have h2 := paGo_len _ _ _ _ _ hb h
  have h3 := hb.small
  simp only [List.length_nil] at h2
  exact ⟨l, rfl, paGo_is _ _ _ _ hb .nil l h, by omega⟩
 | error s => rw [(paO_err h).2.1]; exact .nil
theorem opU_wf {b : Bs} (pas : Int) (hb : IsB b) : OpWf (opU b pas) := by
 have key : (∃ s d, opX b pas = opFail s d) ∨ (∃ n h i l, opX b pas = opGood n h i l ∧ CpWf l) := by
  unfold opX
  split
  ·exact .inl ⟨_, _, rfl⟩
  split
  ·exact .inl ⟨_, _, rfl⟩
  unfold opMid opEnd
  split
  ·exact .inl ⟨_, _, rfl⟩
  split
  ·exact .inl ⟨_, _, rfl⟩
  split
  ·exact .inl ⟨_, _, rfl⟩
  split
  ·exact .inl ⟨_, _, rfl⟩
  split
  ·exact .inl ⟨_, _, rfl⟩
  cases h : paO _ _
  ·exact .inl ⟨_, _, rfl⟩
  ·exact .inr ⟨_, _, _, _, rfl, paL_wf (tkR_is (tkR_is (tkR_is (tkR_is (tkR_is hb))))) _⟩
 unfold opU opP
 rcases key with ⟨s, d, h⟩ | ⟨n, hh, i, l, h, h2⟩ <;> rw [h]
 ·exact op0_wf
 ·exact h2
def msM (b : Bs) (pas : Int) : MsgS := match msP b pas with
 | .inr m => m
 | .inl _ => m0
def msD (b : Bs) (pas : Int) : Bs := match msP b pas with
 | .inr _ => []
 | .inl p => p.2.2
theorem msM_wf {b : Bs} {pas : Int} (hb : IsB b) : MsWf (msM b pas) := by
 have hd := hb.drop 19
 unfold msM
 split
 ·rename_i m h
  unfold msP at h
  cases h1 : hdOk b <;> rw [h1] at h <;> simp only [cond_true, cond_false] at h
  ·cases h
  split at h
  ·cases h
  split at h
  ·cases h
  split at h
  ·cases h2 : opOk (b.drop 19) pas <;> rw [h2] at h <;> simp only [cond_true, cond_false] at h
   ·cases h
   ·injection h with h; subst h; exact ⟨opU_wf pas hd, up0_wf, .nil⟩
  split at h
  ·cases h2 : upOk (b.drop 19) <;> rw [h2] at h <;> simp only [cond_true, cond_false] at h
   ·cases h
   ·injection h with h; subst h; exact ⟨op0_wf, upU_wf hd, .nil⟩
  split at h
  ·cases h2 : ntO (b.drop 19) <;> rw [h2] at h <;> simp only [cond_true, cond_false] at h
   ·cases h
   ·injection h with h; subst h; exact ⟨op0_wf, up0_wf, hd.drop 2⟩
  ·injection h with h; subst h; exact m0_wf
 ·exact m0_wf
theorem is1 {z : Int} (h0 : 0 ≤ z) (h1 : z < 256) : IsB [bT z] := ⟨⟨[z], rfl, fun y hy => by obtain rfl := List.mem_singleton.1 hy; exact ⟨h0, h1⟩⟩, by simp⟩
theorem paDt_is {b : Bs} (hb : IsB b) : IsB (paDt b) := by
 have key : ∀ (l : List Rw3) (f' : Nat → Bool) (a : AtS), AllR l → ∀ s d, aqGo l f' a = .inl (s, d) → IsB d := by
  intro l
  induction l with
  | nil => intro f' a _ s d e; cases e
  | cons p l ih =>
   obtain ⟨fl, t, v⟩ := p
   intro f' a hl s d e
   unfold aqGo at e
   obtain ⟨_, _, hv, hvl⟩ := hl _ List.mem_cons_self
   cases hf : f' t.toNat <;> rw [hf] at e
   ·simp only [cond_false] at e
    split at e
    ·exact ih _ _ (fun p hp => hl p (List.mem_cons_of_mem _ hp)) s d e
    ·split at e
     ·injection e with e; injection e with e1 e2; rw [← e2]; exact .nil
     ·injection e with e; injection e with e1 e2; rw [← e2]; exact rbB_is hv hvl
   ·injection e with e; injection e with e1 e2; rw [← e2]; exact .nil
 unfold paDt
 split
 ·exact .nil
 ·rename_i e h
  obtain ⟨s, d⟩ := e
  unfold aqP at h
  cases ho : saO b <;> rw [ho] at h
  ·injection h with h; injection h with h1 h2; simp only; rw [← h2]; exact .nil
  ·simp only [cond_true] at h
   split at h
   ·rename_i e he
    injection h with h; subst h
    exact key _ _ _ (saA_rng hb) s d he
   ·rename_i a f' he
    unfold aqMet at h
    cases g1 : f' 1 <;> cases g2 : f' 2 <;> cases g3 : f' 3 <;> simp only [g1, g2, g3, cond_true, cond_false] at h <;> first | (cases h; done) | (injection h with h; injection h with e1 e2; simp only; rw [← e2]; exact is1 (by decide) (by decide))
theorem upDt_is {b : Bs} (hb : IsB b) : IsB (upDt b) := by
 have hd := paDt_is (upA_is hb)
 unfold upDt
 split
 ·exact .nil
 ·rename_i e h
  obtain ⟨s, d⟩ := e
  simp only
  unfold upP at h
  split at h
  ·injection h with h; injection h with _ h; rw [← h]; exact .nil
  cases g1 : pfO (upG b) <;> simp only [g1, cond_true, cond_false] at h
  ·injection h with h; injection h with _ h; rw [← h]; exact .nil
  cases g2 : pfO (upN b) <;> simp only [g2, cond_true, cond_false] at h
  ·injection h with h; injection h with _ h; rw [← h]; exact .nil
  split at h
  ·cases h
  cases g3 : paOk (upA b) <;> simp only [g3, cond_true, cond_false] at h
  ·split at h
   ·injection h with h; injection h with _ h; rw [← h]; exact hd
   split at h
   ·cases h
   ·injection h with h; injection h with _ h; rw [← h]; exact hd
  ·split at h <;> cases h
theorem opDt_is {b : Bs} (pas : Int) : IsB (opDt b pas) := by
 have i2 : IsB [bT 0, bT 4] := ⟨⟨[0, 4], rfl, fun y hy => by simp at hy; omega⟩, by simp⟩
 have key : (∃ s d, opX b pas = opFail s d ∧ IsB d) ∨ (∃ n h i l, opX b pas = opGood n h i l) := by
  unfold opX
  split
  ·exact .inl ⟨_, _, rfl, .nil⟩
  split
  ·exact .inl ⟨_, _, rfl, i2⟩
  unfold opMid opEnd
  split
  ·exact .inl ⟨_, _, rfl, .nil⟩
  split
  ·exact .inl ⟨_, _, rfl, .nil⟩
  split
  ·exact .inl ⟨_, _, rfl, .nil⟩
  split
  ·exact .inl ⟨_, _, rfl, .nil⟩
  split
  ·exact .inl ⟨_, _, rfl, .nil⟩
  cases h : paO _ _
  ·exact .inl ⟨_, _, rfl, .nil⟩
  ·exact .inr ⟨_, _, _, _, rfl⟩
 unfold opDt opP
 rcases key with ⟨s, d, h, h2⟩ | ⟨n, hh, i, l, h⟩ <;> rw [h]
 ·exact h2
 ·exact .nil
theorem msD_is {b : Bs} {pas : Int} (hb : IsB b) : IsB (msD b pas) := by
 have hd := hb.drop 19
 have hz : IsB (szB b) := (hb.drop 16).take 2
 unfold msD
 split
 ·exact .nil
 ·rename_i e h
  obtain ⟨c, s, d⟩ := e
  simp only
  unfold msP at h
  cases h1 : hdOk b <;> rw [h1] at h <;> simp only [cond_true, cond_false] at h
  ·injection h with h; injection h with _ h; injection h with _ h; rw [← h]; exact hdD_is hb
  split at h
  ·injection h with h; injection h with _ h; injection h with _ h; rw [← h]; exact .nil
  split at h
  ·injection h with h; injection h with _ h; injection h with _ h; rw [← h]; exact hz
  split at h
  ·cases h2 : opOk (b.drop 19) pas <;> rw [h2] at h <;> simp only [cond_true, cond_false] at h
   ·injection h with h; injection h with _ h; injection h with _ h; rw [← h]; exact opDt_is pas
   ·cases h
  split at h
  ·cases h2 : upOk (b.drop 19) <;> rw [h2] at h <;> simp only [cond_true, cond_false] at h
   ·injection h with h; injection h with _ h; injection h with _ h; rw [← h]; exact upDt_is hd
   ·cases h
  split at h
  ·cases h2 : ntO (b.drop 19) <;> rw [h2] at h <;> simp only [cond_true, cond_false] at h
   ·injection h with h; injection h with _ h; injection h with _ h; rw [← h]; exact hz
   ·cases h
  ·cases h
end Go.Proofs.YtogbdjlelkepcaaGreatDoor
namespace Go.Proofs.YtogbdjlelkepcaaGreatDoor
open Go.RowKit

def fdP : Nat → Bs → Int → List MsgS × Bs × Option (Nat × Int × Bs)
 | 0, w, _ => ([], w, none)
 | k + 1, w, pas => if w.length < 19 then ([], w, none) else bif hdOk w then
   (if hdN w > w.length then ([], w, none) else match msP (w.take (hdN w).toNat) pas with
    | .inl (c, s, d) => ([], [], some (c.toNat - 1, s, d))
    | .inr M => (M :: (fdP k (w.drop (hdN w).toNat) pas).1, (fdP k (w.drop (hdN w).toNat) pas).2))
  else ([], [], some (0, hdS w, hdD w))
def fdX (w : Bs) (pas : Int) : List MsgS × Bs × Option (Nat × Int × Bs) := fdP (w.length + 1) w pas
theorem fdP_fuel : ∀ (k m : Nat) (w : Bs) (pas : Int), w.length < k → w.length < m → fdP k w pas = fdP m w pas
 | 0, _, _, _, h, _ => absurd h (Nat.not_lt_zero _)
 | _ + 1, 0, _, _, _, h => absurd h (Nat.not_lt_zero _)
 | k + 1, m + 1, w, pas, h1, h2 => by
  simp only [fdP]
  split
  ·rfl
  ·rename_i hl
   cases hh : hdOk w
   ·rfl
   ·simp only [cond_true]
    split
    ·rfl
    ·have h3 := (hd_le hl hh).2.1
     have e : fdP k (w.drop (hdN w).toNat) pas = fdP m (w.drop (hdN w).toNat) pas := fdP_fuel k m _ _ (by rw [List.length_drop]; omega) (by rw [List.length_drop]; omega)
     rw [e]
theorem fdX_short {w : Bs} (pas : Int) (h : w.length < 19) : fdX w pas = ([], w, none) := by
 unfold fdX; simp only [fdP, if_pos h]
theorem fdX_bad {w : Bs} (pas : Int) (h : ¬ w.length < 19) (h1 : hdOk w = false) : fdX w pas = ([], [], some (0, hdS w, hdD w)) := by
 unfold fdX; simp only [fdP, if_neg h, h1, cond_false]
theorem fdX_part {w : Bs} (pas : Int) (h : ¬ w.length < 19) (h1 : hdOk w = true) (h2 : hdN w > w.length) : fdX w pas = ([], w, none) := by
 unfold fdX; simp only [fdP, if_neg h, h1, cond_true, if_pos h2]
theorem fdX_fault {w : Bs} {pas c s : Int} {d : Bs} (h : ¬ w.length < 19) (h1 : hdOk w = true) (h2 : ¬ hdN w > w.length) (h3 : msP (w.take (hdN w).toNat) pas = .inl (c, s, d)) : fdX w pas = ([], [], some (c.toNat - 1, s, d)) := by
 unfold fdX; simp only [fdP, if_neg h, h1, cond_true, if_neg h2, h3]
theorem fdX_step {w : Bs} {pas : Int} {M : MsgS} (h : ¬ w.length < 19) (h1 : hdOk w = true) (h2 : ¬ hdN w > w.length) (h3 : msP (w.take (hdN w).toNat) pas = .inr M) : fdX w pas = (M :: (fdX (w.drop (hdN w).toNat) pas).1, (fdX (w.drop (hdN w).toNat) pas).2) := by
 have h4 := (hd_le h h1).2.1
 have e : fdP w.length (w.drop (hdN w).toNat) pas = fdX (w.drop (hdN w).toNat) pas := fdP_fuel _ _ _ _ (by rw [List.length_drop]; omega) (Nat.lt_succ_self _)
 rw [← e]
 unfold fdX
 simp only [fdP, if_neg h, h1, cond_true, if_neg h2, h3]
theorem take_pre {w b : Bs} {n m : Nat} (h : n ≤ w.length) : (w ++ b).take n = w.take n := List.take_append_of_le_length h
theorem drop_take_pre {w b : Bs} {i n : Nat} (h : i + n ≤ w.length) : ((w ++ b).drop i).take n = (w.drop i).take n := by
 rw [List.drop_append_of_le_length (by omega), List.take_append_of_le_length (by rw [List.length_drop]; omega)]
theorem hdP_app {w : Bs} (b : Bs) (h : ¬ w.length < 19) : hdP (w ++ b) = hdP w := by
 have h2 : ¬ (w ++ b).length < 19 := by rw [List.length_append]; omega
 have e1 : all255 (w ++ b) = all255 w := by unfold all255; rw [take_pre (m := 0) (by omega)]
 have e2 : hzN (w ++ b) = hzN w := by unfold hzN geN; rw [drop_take_pre (by show 16 + 2 ≤ _; omega)]
 have e3 : szB (w ++ b) = szB w := by unfold szB; rw [drop_take_pre (by omega)]
 have e4 : kdB (w ++ b) = kdB w := by unfold kdB; rw [drop_take_pre (by omega)]
 have e5 : hzK (w ++ b) = hzK w := by
  unfold hzK
  congr 1
  rw [List.drop_append_of_le_length (by omega)]
  have : 0 < (w.drop 18).length := by rw [List.length_drop]; omega
  cases hc : w.drop 18 with
  | nil => rw [hc] at this; exact absurd this (Nat.not_lt_zero _)
  | cons x l => rfl
 rw [hdP_long h, hdP_long h2, e1, e2, e3, e4, e5]
theorem fdX_app (pas : Int) (b : Bs) : ∀ (n : Nat) (w : Bs), w.length ≤ n → fdX (w ++ b) pas = match (fdX w pas).2.2 with
  | none => ((fdX w pas).1 ++ (fdX ((fdX w pas).2.1 ++ b) pas).1, (fdX ((fdX w pas).2.1 ++ b) pas).2)
  | some _ => fdX w pas := by
 intro n
 induction n with
 | zero =>
  intro w hw
  have hl : w.length < 19 := by omega
  rw [fdX_short pas hl]; rfl
 | succ n ih =>
  intro w hw
  by_cases hl : w.length < 19
  ·rw [fdX_short pas hl]; rfl
  have hP := hdP_app b hl
  have hl2 : ¬ (w ++ b).length < 19 := by rw [List.length_append]; omega
  have a1 : hdOk (w ++ b) = hdOk w := by unfold hdOk; rw [hP]
  have a2 : hdN (w ++ b) = hdN w := by unfold hdN; rw [hP]
  have a3 : hdS (w ++ b) = hdS w := by unfold hdS; rw [hP]
  have a4 : hdD (w ++ b) = hdD w := by unfold hdD; rw [hP]
  cases h1 : hdOk w
  ·rw [fdX_bad pas hl h1, fdX_bad pas hl2 (a1.trans h1), a3, a4]
  by_cases h2 : hdN w > w.length
  ·rw [fdX_part pas hl h1 h2]; rfl
  have h22 : ¬ hdN (w ++ b) > (w ++ b).length := by rw [a2, List.length_append]; omega
  have ht : (w ++ b).take (hdN (w ++ b)).toNat = w.take (hdN w).toNat := by rw [a2, take_pre (m := 0) (by omega)]
  cases h3 : msP (w.take (hdN w).toNat) pas with
  | inl p =>
   obtain ⟨c, s, d⟩ := p
   rw [fdX_fault hl h1 h2 h3, fdX_fault hl2 (a1.trans h1) h22 (ht ▸ h3)]
  | inr M =>
   have h4 := (hd_le hl h1).2.1
   have hd : (w ++ b).drop (hdN (w ++ b)).toNat = w.drop (hdN w).toNat ++ b := by rw [a2, List.drop_append_of_le_length (by omega)]
   rw [fdX_step hl2 (a1.trans h1) h22 (ht ▸ h3), hd, fdX_step hl h1 h2 h3]
   have hi := ih (w.drop (hdN w).toNat) (by rw [List.length_drop]; omega)
   rw [hi]
   cases h5 : (fdX (w.drop (hdN w).toNat) pas).2.2 <;> rfl
theorem fdX_none {w b : Bs} {pas : Int} (h : (fdX w pas).2.2 = none) : fdX (w ++ b) pas = ((fdX w pas).1 ++ (fdX ((fdX w pas).2.1 ++ b) pas).1, (fdX ((fdX w pas).2.1 ++ b) pas).2) := by
 have := fdX_app pas b _ w (Nat.le_refl _)
 rw [h] at this; exact this
theorem fdX_some {w b : Bs} {pas : Int} {f : Nat × Int × Bs} (h : (fdX w pas).2.2 = some f) : fdX (w ++ b) pas = fdX w pas := by
 have := fdX_app pas b _ w (Nat.le_refl _)
 rw [h] at this; exact this
theorem msP_wf {b : Bs} {pas : Int} {M : MsgS} (hb : IsB b) (h : msP b pas = .inr M) : MsWf M := by
 have := msM_wf (pas := pas) hb
 unfold msM at this; rw [h] at this; exact this
theorem msP_dt_is {b : Bs} {pas c s : Int} {d : Bs} (hb : IsB b) (h : msP b pas = .inl (c, s, d)) : IsB d := by
 have := msD_is (pas := pas) hb
 unfold msD at this; rw [h] at this; exact this
theorem fdX_is (pas : Int) : ∀ (n : Nat) (w : Bs), w.length ≤ n → IsB w → IsB (fdX w pas).2.1 ∧ (fdX w pas).1.length + (fdX w pas).2.1.length ≤ w.length ∧ (∀ M ∈ (fdX w pas).1, MsWf M) ∧ (∀ c s d, (fdX w pas).2.2 = some (c, s, d) → IsB d ∧ (fdX w pas).2.1 = []) := by
 intro n
 induction n with
 | zero =>
  intro w hw hb
  rw [fdX_short pas (by omega)]
  exact ⟨hb, by simp, by simp, fun _ _ _ h => by cases h⟩
 | succ n ih =>
  intro w hw hb
  by_cases hl : w.length < 19
  ·rw [fdX_short pas hl]
   exact ⟨hb, by simp, by simp, fun _ _ _ h => by cases h⟩
  cases h1 : hdOk w
  ·rw [fdX_bad pas hl h1]
   exact ⟨.nil, by simp, by simp, fun c s d h => by cases h; exact ⟨hdD_is hb, rfl⟩⟩
  by_cases h2 : hdN w > w.length
  ·rw [fdX_part pas hl h1 h2]
   exact ⟨hb, by simp, by simp, fun _ _ _ h => by cases h⟩
  cases h3 : msP (w.take (hdN w).toNat) pas with
  | inl p =>
   obtain ⟨c, s, d⟩ := p
   rw [fdX_fault hl h1 h2 h3]
   refine ⟨.nil, by simp, by simp, fun c' s' d' h => ?_⟩
   cases h
   exact ⟨msP_dt_is (hb.take _) h3, rfl⟩
  | inr M =>
   have h4 := (hd_le hl h1).2.1
   have hi := ih (w.drop (hdN w).toNat) (by rw [List.length_drop]; omega) (hb.drop _)
   rw [fdX_step hl h1 h2 h3]
   refine ⟨hi.1, ?_, ?_, hi.2.2.2⟩
   ·have := hi.2.1
    rw [List.length_drop] at this
    simp only [List.length_cons]; omega
   ·intro m hm
    rcases List.mem_cons.1 hm with rfl | hm
    ·exact msP_wf (hb.take _) h3
    ·exact hi.2.2.1 m hm
end Go.Proofs.YtogbdjlelkepcaaGreatDoor
namespace Go.Proofs.YtogbdjlelkepcaaGreatDoor
open Go.RowKit

section
variable {P : Program} {G : Globs}
theorem oturn_copy {ro : Nat} {T : VT} {t e tx : TypeId} {d x : Operand} {l : List (Nat × TV)} {inf : TypeInfo} {es : List (List TV)} {id off m : Nat} {cs : List TV} (ht : P.underlying t = some (.slice e)) (hi : P.info? e = some inf) (hsl : isSl (P.underlying tx) = true)
  (hs : evOf G l d = .row inf.size id off m) (ho : T.objs[id]? = some (.row cs)) (hr : rowsR T inf.size (evOf G l x) = some es) (h1 : es.length ≤ m) (h2 : off * inf.size + es.flatten.length ≤ cs.length) (hro : ro ≤ id) :
  OTurn P G ro T (.call ⟨.builtin .copy, #[d, x], #[t, tx]⟩) l (.val (.int .i64 es.length)) { T with objs := T.objs.set id (.row (setCs cs (off * inf.size) es.flatten)) } := by
 refine .mk ?_
 have a1 : vpure2 P (.call ⟨.builtin .copy, #[d, x], #[t, tx]⟩) (evOf G l) = none := by simp [vpure2, vpure]
 have a2 : vread2 P T (.call ⟨.builtin .copy, #[d, x], #[t, tx]⟩) (evOf G l) = none := by simp [vread2, vread, vcalls]
 have a4 : vcopyS P ro T t tx (.row inf.size id off m) (evOf G l x) = none := by simp [vcopyS, ht]
 have a3 : vcopyR P ro T t tx (.row inf.size id off m) (evOf G l x) = some (.val (.int .i64 es.length), { T with objs := T.objs.set id (.row (setCs cs (off * inf.size) es.flatten)) }) := by
  unfold vcopyR
  simp only [ht, hi, ho, hr, Nat.beq_refl, Nat.ble_eq_true_of_le h1, Nat.ble_eq_true_of_le h2, Nat.ble_eq_true_of_le hro, hsl, Bool.and_self, cond_true]
 simp only [vopA, a1, a2, vmore, hs, a4, a3]
theorem opure_rhi {t e : TypeId} {x i : Operand} {l : List (Nat × TV)} {inf : TypeInfo} {id off n : Nat} {k : IntKind} {z : Int} (ht : P.underlying t = some (.slice e)) (hi : P.info? e = some inf)
  (hx : evOf G l x = .row inf.size id off n) (hz : evOf G l i = .val (.int k z)) (h0 : 0 ≤ z) (h1 : z.toNat ≤ n) : OPure P G (.slice t x none (some i) none) l (.row inf.size id off z.toNat) := by
 refine ⟨?_⟩
 have hhi : hiOf n (some (evOf G l i)) = some z.toNat := by simp [hiOf, natOf, hz, h0]
 have hR : vsliceR P t (evOf G l x) none (some (evOf G l i)) none = some (.row inf.size id off z.toNat) := by
  rw [hx]
  simp only [vsliceR, ht, hi, lowOf, hhi, Nat.beq_refl, Nat.ble_eq_true_of_le h1, Nat.ble_eq_true_of_le (Nat.zero_le z.toNat), Bool.and_self, cond_true]
 simp [vpure2, vslice3, hR]
end
end Go.Proofs.YtogbdjlelkepcaaGreatDoor
namespace Go.Proofs.YtogbdjlelkepcaaGreatDoor
open Go.RowKit

def xL : List MsgS → TV
 | [] => .val (.slice none 0 0)
 | M :: l => .vec 15 ((M :: l).map MsgS.cells) (.tail 0 (M :: l).length)
def tL : List MsgS → Tl7
 | [] => []
 | M :: l => [((M :: l).length, 15, true)]
def AllM (l : List MsgS) : Prop := ∀ M ∈ l, MsWf M
theorem tL_len (l : List MsgS) : (tL l).length ≤ 1 := by cases l <;> simp [tL]
theorem xL_app (l : List MsgS) (M : MsgS) : xL (l ++ [M]) = .vec 15 ((l ++ [M]).map MsgS.cells) (.tail 0 (l ++ [M]).length) := by cases l <;> rfl
theorem tL_app (l : List MsgS) (M : MsgS) : tL (l ++ [M]) = [((l ++ [M]).length, 15, true)] := by cases l <;> rfl
theorem renLL_ms {l : List MsgS} (h : AllM l) (f g : Nat → Option Nat) : renLL f g (l.map MsgS.cells) = l.map MsgS.cells := by
 induction l with
 | nil => rfl
 | cons M l ih => rw [List.map_cons, renLL, ih (fun m hm => h m (List.mem_cons_of_mem _ hm)), (h M List.mem_cons_self).ren]
theorem xL_ren {l : List MsgS} (h : AllM l) (f : Nat → Option Nat) : (xL l).ren f (Go.Proofs.YtogbdjlelkepcaaGreatDoor.keep 1) = xL l := by
 cases l with
 | nil => rfl
 | cons M l => simp only [xL, TV.ren, renLL_ms h, Tok.ren]; rfl
theorem tL_keep (l : List MsgS) : (tL l).take 1 = tL l := List.take_of_length_le (tL_len l)
theorem meInf_ex : ∃ (inf : TypeInfo) (z : Value), Tryz.prog.info? 65 = some inf ∧ inf.size = 15 ∧ inf.bytes + 1 ≤ 1000 ∧ inf.zero = some z ∧ z.cells.size = 15 :=
 ⟨(Tryz.prog.info? 65).getD default, ((Tryz.prog.info? 65).getD default).zero.getD default, by kernel_rfl, by kernel_rfl, Nat.le_of_ble_eq_true (by kernel_rfl), by kernel_rfl, by kernel_rfl⟩
theorem me_app (objs : List VO) (l : List MsgS) (M : MsgS) (h : l.length ≤ 2000000) : OTurn Tryz.prog leastG 0 ⟨objs, tL l⟩ (.call ⟨.builtin .append, #[.tmp 46, .tmp 48], #[25, 25]⟩) [(46, xL l), (48, .vec 15 [M.cells] .full)] (.vec 15 ((l ++ [M]).map MsgS.cells) (.tail 0 (l ++ [M]).length)) ⟨objs, [((l ++ [M]).length, 15, true)]⟩ := by
  obtain ⟨inf, z, i1, i2, i3, i4, i5⟩ := meInf_ex
  have h1 := oturn_app (inf := inf) (P := Tryz.prog) (G := leastG) (ro := 0) (T := ⟨objs, tL l⟩) (T1 := ⟨objs, [(l.length, 15, true)]⟩) (t := 25) (tx := 25) (s := .tmp 46) (x := .tmp 48) (l := [(46, xL l), (48, .vec 15 [M.cells] .full)]) (es := l.map MsgS.cells) (es2 := [M.cells]) (k := 0) (n := l.length) (bn := true) Tryz.underlying25 i1 i4 (by rw [i2]; exact i5) (by rw [i2]; decide) (by kernel_rfl)
    (by rw [i2]; cases l <;> simp [evOf, evFind, vadopt, xL, tL]) (by rw [i2]; rfl)
    (by have h1 := i3
        have h2 := Nat.mul_le_mul (show (l.map MsgS.cells).length + [M.cells].length ≤ 2000001 by simp only [List.length_map, List.length_cons, List.length_nil]; omega) h1
        omega)
  rw [i2] at h1
  rw [show (l ++ [M]).map MsgS.cells = l.map MsgS.cells ++ [M.cells] by rw [List.map_append]; rfl, show (l ++ [M]).length = l.length + [M.cells].length by simp]
  exact h1
def lowV (id k n : Nat) : TV := bif Nat.beq k n then .vec 1 [] (.past id (0 + k)) else .row 1 id (0 + k) (n - k)
theorem opure_low {G : Globs} {x i : Operand} {l : List (Nat × TV)} {id n : Nat} {k : IntKind} {z : Int} (hx : evOf G l x = .row 1 id 0 n) (hz : evOf G l i = .val (.int k z)) (h0 : 0 < z) (h1 : z.toNat ≤ n) : OPure Tryz.prog G (.slice 22 x (some i) none none) l (lowV id z.toNat n) := by
 obtain ⟨inf, i1, i2, _, _⟩ := u8Inf_ex
 refine ⟨?_⟩
 have hlow : lowOf (some (evOf G l i)) = some z.toNat := by simp [lowOf, natOf, hz, Int.le_of_lt h0]
 have hR : vsliceR Tryz.prog 22 (evOf G l x) (some (evOf G l i)) none none = some (lowV id z.toNat n) := by
  rw [hx]
  simp only [vsliceR, Tryz.underlying22, i1, hlow, hiOf, i2]
  obtain ⟨w, hw⟩ : ∃ w, z.toNat = w + 1 := ⟨z.toNat - 1, by omega⟩
  rw [hw] at h1 ⊢
  rw [Nat.beq_refl, Nat.ble_eq_true_of_le h1, Nat.ble_eq_true_of_le (Nat.le_refl n)]
  simp only [Bool.and_self, cond_true, lowV]
  cases Nat.beq (w + 1) n <;> rfl
 simp [vpure2, vslice3, hR]
theorem rows_low {T : VT} {ds : List TV} {id k n : Nat} (ho : T.objs[id]? = some (.row ds)) (hr : RwOk ds 0 n) (hk : k ≤ n) : rowsR T 1 (lowV id k n) = some (sbB ds k (n - k)) := by
  unfold lowV
  have h1 := hr.1
  cases hb : Nat.beq k n
  · have h2 : Nat.ble (k + (n - k)) ds.length = true := Nat.ble_eq_true_of_le (by omega)
    simp only [cond_false, rowsR, ho, Nat.zero_add, Nat.beq_refl, h2, Bool.and_self, cond_true, Nat.mul_one, sbB]
  · obtain rfl := Nat.eq_of_beq_eq_true hb
    rw [show sbB ds k (k - k) = [] from List.eq_nil_of_length_eq_zero (by rw [sb_len]; omega)]
    simp [rowsR]
theorem opure_rhi8 {G : Globs} {x i : Operand} {l : List (Nat × TV)} {id n : Nat} {k : IntKind} {z : Int} (hx : evOf G l x = .row 1 id 0 n) (hz : evOf G l i = .val (.int k z)) (h0 : 0 ≤ z) (h1 : z.toNat ≤ n) : OPure Tryz.prog G (.slice 22 x none (some i) none) l (.row 1 id 0 z.toNat) := by
 obtain ⟨inf, i1, i2, _, _⟩ := u8Inf_ex
 have h := opure_rhi (P := Tryz.prog) (G := G) (t := 22) (x := x) (i := i) (l := l) (inf := inf) (id := id) (off := 0) (n := n) Tryz.underlying22 i1 (by rw [i2]; exact hx) hz h0 h1
 rw [i2] at h
 exact h
theorem cp_turn {T : VT} {ds : List TV} {k n : Nat} (ho : T.objs[2]? = some (.row ds)) (hr : RwOk ds 0 n) (hk : k ≤ n) : OTurn Tryz.prog leastG 0 T (.call ⟨.builtin .copy, #[.tmp 67, .tmp 73], #[22, 22]⟩) [(67, .row 1 2 0 n), (73, lowV 2 k n)] (.val (.int .i64 ((n - k : Nat) : Int))) { T with objs := T.objs.set 2 (.row (setCs ds 0 (sbB ds k (n - k)).flatten)) } := by
 obtain ⟨inf, i1, i2, _, _⟩ := u8Inf_ex
 have hs : IsB (sbB ds k (n - k)) := (hr.sub (by have := hr.1; omega)).is
 have h := oturn_copy (P := Tryz.prog) (G := leastG) (ro := 0) (T := T) (t := 22) (tx := 22) (d := .tmp 67) (x := .tmp 73) (l := [(67, .row 1 2 0 n), (73, lowV 2 k n)]) (inf := inf) (es := sbB ds k (n - k)) (id := 2) (off := 0) (m := n) (cs := ds) Tryz.underlying22 i1 (by kernel_rfl) (by rw [i2]; rfl) ho (by rw [i2]; exact rows_low ho hr hk) (by rw [sb_len]; omega) (by rw [i2, flat_len hs, sb_len]; have := hr.1; omega) (Nat.zero_le _)
 rw [sb_len, i2] at h
 exact h

def fdO (w : Bs) (pas : Int) : Bool := (fdX w pas).2.2.isNone
def fdL (w : Bs) (pas : Int) : List MsgS := (fdX w pas).1
def fdM (w : Bs) (pas : Int) : Nat := (fdX w pas).2.1.length
def fdC (w : Bs) (pas : Int) : Nat := match (fdX w pas).2.2 with
 | some p => p.1
 | none => 0
def fdU (w : Bs) (pas : Int) : Int := match (fdX w pas).2.2 with
 | some p => p.2.1
 | none => 0
def fdD (w : Bs) (pas : Int) : Bs := match (fdX w pas).2.2 with
 | some p => p.2.2
 | none => []
def FwA (ds : List TV) (lx : TV) (tl : Tl7) (w : Bs) (pas : Int) : Prop := (RwOk ds 0 (fdM w pas) ∧ sbB ds 0 (fdM w pas) = (fdX w pas).2.1) ∧ lx = xL (fdL w pas) ∧ tl = tL (fdL w pas)
def FwB (ds : List TV) (lx : TV) (tl : Tl7) (w : Bs) (pas : Int) : Prop := RwOk ds 0 0 ∧ lx = xL (fdL w pas) ∧ tl = tL (fdL w pas)
def FwN (n : Int) (N : Nat) : Prop := 0 ≤ n ∧ n + N ≤ 4000000
def FwO (σ : List TV) (ps : Array Tmp) (asg body : Code) : Prop := (pick [2, 6] σ = [.ptr 1 0, .ptr 4 0] ∧ σ.length = 57) ∧ ps = #[34, 35] ∧ asg = fdAsg ∧ body = fdBody
structure FSt where
 ds : List TV
 N : Nat
 l : List MsgS
 n : Int
def FwEnd (pas n0 : Int) (w : Bs) (os : List VO) (tl : Tl7) : Prop := ∃ ds : List TV, RwOk ds 0 0 ∧ tl = tL (fdX w pas).1 ∧ match (fdX w pas).2.2 with
 | none => RwOk ds 0 (fdX w pas).2.1.length ∧ sbB ds 0 (fdX w pas).2.1.length = (fdX w pas).2.1 ∧ os = (fwT pas 0 0 (n0 + (fdX w pas).1.length) (.vec 1 [] .none) (.row 1 2 0 (fdX w pas).2.1.length) (xL (fdX w pas).1) ds [] .ready none).objs
 | some (c, s, d) => os = (fwT pas (Int.ofNat (c + 1)) s (n0 + (fdX w pas).1.length) (.vec 1 d .none) (.val (.slice none 0 0)) (xL (fdX w pas).1) ds [] .done (some (.exit 0))).objs
def fwV : List TV := [.yld 5, .ptr 4 0]
def FwPost (pas n0 : Int) (w : Bs) (e : Exit) (vs : List TV) (T : VT) : Prop := (e = .normal ∨ e = .ret) ∧ vs = fwV ∧ FwEnd pas n0 w (T.objs.take 6) T.tails
def FwInv (pas n0 : Int) (w0 : Bs) (s : FSt) : Prop := RwOk s.ds 0 s.N ∧ AllM s.l ∧ s.n = n0 + s.l.length ∧ s.l.length + s.N ≤ w0.length ∧ fdX w0 pas = (s.l ++ (fdX (sbB s.ds 0 s.N) pas).1, (fdX (sbB s.ds 0 s.N) pas).2)
noncomputable def fwTT (pas : Int) (s : FSt) : VT := fwT pas 0 0 s.n (.vec 1 [] .none) (.row 1 2 0 s.N) (xL s.l) s.ds (tL s.l) .ready none
def FwQ (pas n0 : Int) (w0 : Bs) (N : Nat) (e : Exit) (vs : List TV) (os : List VO) (tl : Tl7) (D : List Nat) (m : Nat) : Prop := D = [] ∧ m = 84 ∧ vs = fwV ∧ match e with
 | .normal => ∃ s', FwInv pas n0 w0 s' ∧ s'.N < N ∧ os.map (VO.ren (Go.Proofs.YtogbdjlelkepcaaGreatDoor.keep 6) (Go.Proofs.YtogbdjlelkepcaaGreatDoor.keep 1)) = (fwTT pas s').objs ∧ tl.take 1 = (fwTT pas s').tails
 | .exit i => i = 0 ∧ FwEnd pas n0 w0 os tl
 | .ret => FwEnd pas n0 w0 os tl
 | _ => False
theorem fwTT_keep {pas : Int} {s : FSt} (hr : RwOk s.ds 0 s.N) (ha : AllM s.l) : (fwTT pas s).objs.map (VO.ren (Go.Proofs.YtogbdjlelkepcaaGreatDoor.keep 6) (Go.Proofs.YtogbdjlelkepcaaGreatDoor.keep 1)) = (fwTT pas s).objs := by
 have e := hr.ren (Go.Proofs.YtogbdjlelkepcaaGreatDoor.keep 6) (Go.Proofs.YtogbdjlelkepcaaGreatDoor.keep 1)
 simp only [VO.ren] at e
 injection e with e
 simp only [fwTT, fwT, List.map_cons, List.map_nil, stO, VO.ren, renL, xL_ren ha, e]
 rfl
theorem msOk_inr {b : Bs} {pas : Int} (h : msOk b pas = true) : msP b pas = .inr (msM b pas) := by
 unfold msOk at h
 unfold msM
 cases e : msP b pas with
 | inl p => rw [e] at h; cases h
 | inr M => rfl
theorem fw_loop {ds0 : List TV} {N0 : Nat} {pas n0 : Int} (hr0 : RwOk ds0 0 N0) (hn0 : 0 ≤ n0) (hn1 : n0 + N0 ≤ 4000000) (K : KX) (hK : ∀ e vs T, FwPost pas n0 (sbB ds0 0 N0) e vs T → K e (slotsN 84 [0, 1] vs) T []) :
    VWx Tryz.prog leastG none 0 (codeAt Tryz.prog fwF 0) (slotsN 84 [0, 1] fwV) (fwT pas 0 0 n0 (.vec 1 [] .none) (.row 1 2 0 N0) (.val (.slice none 0 0)) ds0 [] .ready none) [] K := by
  have hlen0 : (sbB ds0 0 N0).length = N0 := sb_len _ _ _
  refine loopK (f := fwF) (id := 0) (by kernel_rfl) 84 [0, 1] (fun s : FSt => s.N) (fun _ => fwV) (fwTT pas) (FwInv pas n0 (sbB ds0 0 N0)) 6 1 (fun s _ => ⟨Nat.le_refl _, tL_len s.l⟩) (FwPost pas n0 (sbB ds0 0 N0)) (fun s hs => ?_) ⟨ds0, N0, [], n0⟩ ⟨hr0, (fun M h => by cases h), by simp, by simp [hlen0], rfl⟩ K hK
  obtain ⟨ds, N, l, n⟩ := s
  obtain ⟨hr, ha, hn, hlen, hfd⟩ := hs
  simp only at hr ha hn hlen hfd
  have hS : SpecsOk Tryz.prog leastG (specs [(hdF, hdR), (mpF, mpR)]) := specs_ok fun p hp => by
    rcases List.mem_cons.1 hp with rfl | hp; exact hdR_ok
    obtain rfl := List.mem_singleton.1 hp; exact mpR_ok
  have hL : ∀ F2 : Ora, LsOk Tryz.prog leastG (lTwo 999997 (fun _ _ _ _ _ _ => False, .skip) 1000006 (yldW Tryz.prog leastG noSp F2 250 (regionAt Tryz.prog fwF 6), regionAt Tryz.prog fwF 6)) := fun F2 => lTwo_ok (fun _ _ _ _ _ _ h => h.elim) (fun rd ro σ T D K h => yldW_ok (C := noSp) (F2 := F2) (n := 250) (c := regionAt Tryz.prog fwF 6) mixedB_Tryz bodiesB_Tryz (show SpecsOk Tryz.prog leastG noSp from specsOk_none) rd ro σ T D K h)
  have hw := hr.is
  have hwl : (sbB ds 0 N).length = N := sb_len _ _ _
  have hrs := hr.1
  have h0w := hr0.2.1
  have h0N := hr0.1
  rw [hlen0] at hlen
  generalize hW : sbB ds 0 N = w at hw hwl hfd
  have hdt : sbB ds 0 (hdN w).toNat = sbB ds 0 (hdN w).toNat := rfl
  have hv := ev_wr pas n N (hdN w).toNat (N - (hdN w).toNat) ((N - (hdN w).toNat : Nat) : Int) (xL l) (lowV 2 (hdN w).toNat N) ((l ++ [msM (w.take (hdN w).toNat) pas]).map MsgS.cells) (.tail 0 (l ++ [msM (w.take (hdN w).toNat) pas]).length) ds (setCs ds 0 (sbB ds (hdN w).toNat (N - (hdN w).toNat)).flatten) (tL l) [((l ++ [msM (w.take (hdN w).toNat) pas]).length, 15, true)] (FwQ pas n0 (sbB ds0 0 N0) N)
  refine VWx.mono (Q := fun e σ T D => FwQ pas n0 (sbB ds0 0 N0) N e (pick [0, 1] σ) (T.objs.take 6) T.tails D σ.length) (vx_is mixedB_Tryz bodiesB_Tryz hS (hL _) hv ?_) (fun e σ T D hq => ?_)
  rotate_left
  · obtain ⟨h1, h2, h3, h4⟩ := hq
    refine ⟨h1, h2, ?_⟩
    cases e
    case normal =>
      obtain ⟨s', a1, a2, a3, a4⟩ := h4
      refine ⟨s', a1, a2, .inr ⟨?_, ?_⟩⟩
      · show (⟨_, _⟩ : VT) = _
        rw [a3, a4]
      · rw [h3]; rfl
    case exit i =>
      obtain ⟨rfl, h4⟩ := h4
      exact ⟨.inl rfl, h3, h4⟩
    case ret => exact ⟨.inr rfl, h3, h4⟩
    all_goals exact h4.elim
  rw [hW]
  have r0 : RwOk ds 0 0 := hr.sub (by omega)
  by_cases hl : N < 19
  · have hwL : w.length < 19 := by omega
    refine condF (decide_eq_false (by omega)) ⟨rfl, rfl, rfl, rfl, ds, r0, ?_, ?_⟩
    · rw [hfd, fdX_short pas hwL]; simp
    · rw [hfd, fdX_short pas hwL]
      simp only [List.append_nil]
      refine ⟨hwl ▸ hr, by rw [hwl]; exact hW, ?_⟩
      rw [hwl, hn]; rfl
  have hwL : ¬ w.length < 19 := by omega
  refine condT (decide_eq_true (by omega)) ⟨⟨rfl, hr, Nat.ble_eq_true_of_le (by omega), rfl⟩, ?_⟩
  refine cond_of (fun h1 => ?_) (fun h1 => ?_)
  rotate_left
  · refine ⟨rfl, rfl, rfl, rfl, ds, r0, ?_, ?_⟩
    · rw [hfd, fdX_bad pas hwL h1]; simp
    · rw [hfd, fdX_bad pas hwL h1]
      simp only [List.append_nil]
      rw [hn]; rfl
  have h19 := hd_le hwL h1
  refine cond_of (fun h2 => ?_) (fun h2 => ?_)
  · have h3 : hdN w > w.length := by have := of_decide_eq_true h2; omega
    refine ⟨rfl, rfl, rfl, ds, r0, ?_, ?_⟩
    · rw [hfd, fdX_part pas hwL h1 h3]; simp
    · rw [hfd, fdX_part pas hwL h1 h3]
      simp only [List.append_nil]
      refine ⟨hwl ▸ hr, by rw [hwl]; exact hW, ?_⟩
      rw [hwl, hn]; rfl
  have h3 : ¬ hdN w > w.length := by have := of_decide_eq_false h2; omega
  have hkN : (hdN w).toNat ≤ N := by omega
  have hsk : sbB ds 0 (hdN w).toNat = w.take (hdN w).toNat := by rw [← sb_take hr hkN, hW]
  have hrk : RwOk ds 0 (hdN w).toNat := hr.sub (by omega)
  refine ⟨opure_rhi8 rfl rfl (by omega) hkN, ⟨rfl, hrk, Nat.ble_eq_true_of_le (by omega), rfl⟩, ?_⟩
  rw [hsk]
  refine cond_of (fun h4 => ?_) (fun h4 => ?_)
  · intro M hM
    have hP := msOk_inr h4
    obtain rfl : M = msM (w.take (hdN w).toNat) pas := by
      unfold MsIs at hM; rw [hP] at hM; exact (Sum.inr.inj hM).symm
    have hst := fdX_step hwL h1 h3 hP
    obtain ⟨hrn, hsn⟩ := rw_shift hr hkN
    rw [hW] at hsn
    have hMw := msP_wf (hw.take _) hP
    have ha2 : AllM (l ++ [msM (w.take (hdN w).toNat) pas]) := fun m hm => by
      rcases List.mem_append.1 hm with hm | hm
      · exact ha m hm
      · obtain rfl := List.mem_singleton.1 hm; exact hMw
    refine ⟨rfl, me_app _ l _ (by omega), opure_low rfl rfl (by omega) hkN, cp_turn rfl hr hkN, ?_, ?_⟩
    · have h := opure_rhi8 (G := leastG) (x := .tmp 79) (i := .tmp 80) (l := [(79, .row 1 2 0 N), (80, .val (.int .i64 ((N - (hdN w).toNat : Nat) : Int)))]) (id := 2) (n := N) (k := .i64) (z := ((N - (hdN w).toNat : Nat) : Int)) rfl rfl (by omega) (by omega)
      rw [Int.toNat_natCast] at h
      exact h
    · refine ⟨rfl, rfl, rfl, ⟨setCs ds 0 (sbB ds (hdN w).toNat (N - (hdN w).toNat)).flatten, N - (hdN w).toNat, l ++ [msM (w.take (hdN w).toNat) pas], n + 1⟩, ⟨hrn, ha2, ?_, ?_, ?_⟩, by show N - (hdN w).toNat < N; omega, ?_, ?_⟩
      · simp only [List.length_append, List.length_cons, List.length_nil]; omega
      · simp only [List.length_append, List.length_cons, List.length_nil, hlen0]; omega
      · simp only [hsn]
        rw [hfd, hst]
        simp
      · rw [wrap_id (by omega) (by omega)]
        have h := fwTT_keep (pas := pas) (s := ⟨setCs ds 0 (sbB ds (hdN w).toNat (N - (hdN w).toNat)).flatten, N - (hdN w).toNat, l ++ [msM (w.take (hdN w).toNat) pas], n + 1⟩) hrn ha2
        rw [← h]
        simp only [fwTT, xL_app]
        rfl
      · simp only [fwTT, fwT, tL_app]; rfl
  · intro c s d hB
    refine ⟨rfl, rfl, rfl, rfl, ds, r0, ?_, ?_⟩
    · rw [hfd, fdX_fault hwL h1 h3 hB]; simp
    · rw [hfd, fdX_fault hwL h1 h3 hB]
      simp only [List.append_nil]
      rw [hn]
      rfl
end Go.Proofs.YtogbdjlelkepcaaGreatDoor
namespace Go.Proofs.YtogbdjlelkepcaaGreatDoor
open Go.RowKit

def fwS8 : List TV := [.dead, .dead, .ptr 1 0, .dead, .dead, .dead, .ptr 4 0] ++ List.replicate 50 .dead
def fwW : Spec := fun ro ys T K => match T.objs with
 | [.cells [.val (.bool true), .val (.int .i64 pas), .row 1 3 0 N, .val (.int .i64 0), .val (.int .i64 0), .vec 1 [] .none, .val (.int .i64 n)], .cells [.ptr 0 0], o2, .row ds, .cells [.val (.slice none 0 0)], .cells [.ptr 0 0], o6, .loop .ready none σ ps asg body] => ((ro = 0 ∧ ys = [.yld 7, .ptr 5 0] ∧ T.tails = [] ∧ RwOk ds 0 N ∧ FwN n N) ∧ FwO σ ps asg body) ∧ bif fdO (sbB ds 0 N) pas
  then ∀ (ds2 : List TV) (lx : TV) (tl : Tl7), FwA ds2 lx tl (sbB ds 0 N) pas → K (.tup []) ⟨[stO pas (.row 1 3 0 (fdM (sbB ds 0 N) pas)) 0 0 (.vec 1 [] .none) (n + (fdL (sbB ds 0 N) pas).length), .cells [.ptr 0 0], o2, .row ds2, .cells [lx], .cells [.ptr 0 0], o6, .loop .ready none fwS8 #[34, 35] fdAsg fdBody], tl⟩
  else ∀ (ds2 : List TV) (lx : TV) (tl : Tl7), FwB ds2 lx tl (sbB ds 0 N) pas → K (.tup []) ⟨[stO pas (.val (.slice none 0 0)) (Int.ofNat (fdC (sbB ds 0 N) pas + 1)) (fdU (sbB ds 0 N) pas) (.vec 1 (fdD (sbB ds 0 N) pas) .none) (n + (fdL (sbB ds 0 N) pas).length), .cells [.ptr 0 0], o2, .row ds2, .cells [lx], .cells [.ptr 0 0], o6, .loop .done (some (.exit 0)) fwS8 #[34, 35] fdAsg fdBody], tl⟩
 | [.cells [.val (.bool true), .val (.int .i64 pas), .val (.slice none 0 0), .val (.int .i64 0), .val (.int .i64 0), .vec 1 [] .none, .val (.int .i64 n)], .cells [.ptr 0 0], o2, o3, .cells [.ptr 0 0], o5, o6] => (ro = 0 ∧ ys = [.yld 6, .ptr 4 0]) ∧ K (.tup []) T
 | _ => vbad 85 default ys
abbrev nwF := 10
abbrev lfF := 16
abbrev fctF := 17
theorem ev_fd (pas : Int) (n : Int) (a b : Bs) (tok : Tok) (Q : TV → VT → Prop) : vcallF Tryz.prog leastG (specs [(ccF, ccW), (fwF, fwW), (clF, cloneW)]) (tellS [(999998, .dead, none)]) 300 noLp 0 fdF [.ptr 0 0, .vec 1 b tok] ⟨[stO pas (.vec 1 a .none) 0 0 (.vec 1 [] .none) n], []⟩ Q =
 ((IsB (a) ∧
 (IsB (b) ∧
 (@Eq (Bool) (Nat.ble (List.length a + List.length b) (1000000 : Nat)) true))) ∧
 (bif Nat.beq (List.length a + List.length b) (0 : Nat)
 then (((@Eq (Option TV) (.some (.vec 1 (a) .none)) (.some (.vec 1 (a) .none))) ∧
 ((@Eq (Option TV) (.some (.ptr 0 0)) (.some (.ptr 0 0))) ∧
 ((@Eq (Option TV) (.some (.ptr 0 0)) (.some (.ptr 0 0))) ∧
 True ))) ∧
 (((@Eq (Nat) 0 0) ∧
 (@Eq (List TV) [(.yld 6), (.ptr 4 0)] [(.yld 6), (.ptr 4 0)])) ∧
 (IsB [] ∧
 (((@Eq (Option TV) (.some (.ptr 0 0)) (.some (.ptr 0 0))) ∧
 ((@Eq (Option TV) (.some (.val (.slice .none 0 0))) (.some (.val (.slice .none 0 0)))) ∧
 True )) ∧
 Q (.tup [(.val (.slice .none 0 0)), (.agg [(.val (.int .i64 0)), (.val (.int .i64 0)), (.vec 1 [] .none)])]) ⟨[(.cells [(.val (.bool true)), (.val (.int .i64 (pas))), (.val (.slice .none 0 0)), (.val (.int .i64 0)), (.val (.int .i64 0)), (.vec 1 [] .none), (.val (.int .i64 (n)))]), (.cells [(.ptr 0 0)]), (.cells [(.val (.int .i64 0)), (.val (.int .i64 0)), (.vec 1 [] .none)]), (.cells [(.val (.slice .none 0 0))]), (.cells [(.ptr 0 0)]), .gone, (.loop .exhausted .none [(.ptr 0 0), (.vec 1 (b) (tok)), (.ptr 1 0), (.val (.tuple #[])), (.val (.slice .none 0 0)), (.ptr 2 0), (.ptr 3 0), (.val (.tuple #[])), (.val (.tuple #[])), (.ptr 0 0), (.val (.bool true)), (.val (.bool false)), (.val (.bool false)), (.ptr 0 0), (.ptr 0 0), (.ptr 0 3), (.ptr 0 3), (.val (.int .i64 0)), (.val (.bool false)), (.val (.bool false)), (.val (.tuple #[])), (.val (.tuple #[])), (.ptr 0 0), (.ptr 0 0), (.ptr 0 0), (.ptr 0 2), (.vec 1 (a) .none), (.vec 1 (b) (tok)), (.vec 1 [[(.vec 1 (a) .none)], [(.vec 1 (b) (tok))]] .full), (.val (.slice .none 0 0)), (.ptr 0 0), (.ptr 0 2), (.ptr 0 0), (.fn (.func 64) [] [(.ptr 4 0)]), (.val (.tuple #[])), (.val (.tuple #[])), (.val (.tuple #[])), (.val (.tuple #[])), (.val (.tuple #[])), (.val (.tuple #[])), (.val (.tuple #[])), (.val (.tuple #[])), (.val (.tuple #[])), (.val (.tuple #[])), (.val (.tuple #[])), (.val (.tuple #[])), (.val (.tuple #[])), (.val (.tuple #[])), (.val (.tuple #[])), (.val (.tuple #[])), (.val (.tuple #[])), (.val (.tuple #[])), (.val (.tuple #[])), (.val (.tuple #[])), (.val (.tuple #[])), (.val (.tuple #[])), (.val (.tuple #[]))] #[34, 35] fdAsg fdBody), (.cells [(.val (.int .i64 0)), (.val (.int .i64 0)), (.vec 1 [] .none)]), (.cells [(.val (.int .i64 0)), (.val (.int .i64 0)), (.vec 1 [] .none)])], []⟩))))
 else (((@Eq (Option TV) (.some (.vec 1 (a) .none)) (.some (.vec 1 (a) .none))) ∧
 ((@Eq (Option TV) (.some (.ptr 0 0)) (.some (.ptr 0 0))) ∧
 ((@Eq (Option TV) (.some (.ptr 0 0)) (.some (.ptr 0 0))) ∧
 True ))) ∧
 ((((@Eq (Nat) 0 0) ∧
 ((@Eq (List TV) [(.yld 7), (.ptr 5 0)] [(.yld 7), (.ptr 5 0)]) ∧
 ((@Eq (List (Nat × Nat × Bool)) [] []) ∧
 (RwOk (List.flatten (a ++ b)) 0 (List.length a + List.length b) ∧
 FwN (n) (List.length a + List.length b))))) ∧
 FwO [(.ptr 0 0), (.vec 1 (b) (tok)), (.ptr 1 0), (.val (.tuple #[])), (.val (.slice .none 0 0)), (.ptr 2 0), (.ptr 4 0), (.val (.tuple #[])), (.val (.tuple #[])), (.ptr 0 0), (.val (.bool true)), (.val (.bool false)), (.val (.bool false)), (.ptr 0 0), (.ptr 0 0), (.ptr 0 3), (.ptr 0 3), (.val (.int .i64 0)), (.val (.bool false)), (.val (.bool false)), (.val (.tuple #[])), (.val (.tuple #[])), (.ptr 0 0), (.ptr 0 0), (.ptr 0 0), (.ptr 0 2), (.vec 1 (a) .none), (.vec 1 (b) (tok)), (.vec 1 [[(.vec 1 (a) .none)], [(.vec 1 (b) (tok))]] .full), (.row 1 3 0 (List.length a + List.length b)), (.ptr 0 0), (.ptr 0 2), (.ptr 0 0), (.fn (.func 64) [] [(.ptr 5 0)]), (.val (.tuple #[])), (.val (.tuple #[])), (.val (.tuple #[])), (.val (.tuple #[])), (.val (.tuple #[])), (.val (.tuple #[])), (.val (.tuple #[])), (.val (.tuple #[])), (.val (.tuple #[])), (.val (.tuple #[])), (.val (.tuple #[])), (.val (.tuple #[])), (.val (.tuple #[])), (.val (.tuple #[])), (.val (.tuple #[])), (.val (.tuple #[])), (.val (.tuple #[])), (.val (.tuple #[])), (.val (.tuple #[])), (.val (.tuple #[])), (.val (.tuple #[])), (.val (.tuple #[])), (.val (.tuple #[]))] #[34, 35] fdAsg fdBody) ∧
 (bif fdO (sbB (List.flatten (a ++ b)) (0 : Nat) (List.length a + List.length b)) pas
 then (∀ ds2 : List TV, (∀ lx : TV, (∀ tl : Tl7, (FwA (ds2) (lx) (tl) (sbB (List.flatten (a ++ b)) (0 : Nat) (List.length a + List.length b)) (pas) → (IsB [] ∧
 (((@Eq (Option TV) (.some (.ptr 0 0)) (.some (.ptr 0 0))) ∧
 ((@Eq (Option TV) (.some (lx)) (.some (lx))) ∧
 True )) ∧
 Q (.tup [(lx), (.agg [(.val (.int .i64 0)), (.val (.int .i64 0)), (.vec 1 [] .none)])]) ⟨[(.cells [(.val (.bool true)), (.val (.int .i64 (pas))), (.row 1 3 0 (fdM (sbB (List.flatten (a ++ b)) (0 : Nat) (List.length a + List.length b)) pas)), (.val (.int .i64 0)), (.val (.int .i64 0)), (.vec 1 [] .none), (.val (.int .i64 (n + (↑(List.length (fdL (sbB (List.flatten (a ++ b)) (0 : Nat) (List.length a + List.length b)) pas)) : Int))))]), (.cells [(.ptr 0 0)]), (.cells [(.val (.int .i64 0)), (.val (.int .i64 0)), (.vec 1 [] .none)]), (.row (ds2)), (.cells [(lx)]), (.cells [(.ptr 0 0)]), .gone, (.loop .exhausted .none [.dead, .dead, (.ptr 1 0), .dead, .dead, .dead, (.ptr 4 0), .dead, .dead, .dead, .dead, .dead, .dead, .dead, .dead, .dead, .dead, .dead, .dead, .dead, .dead, .dead, .dead, .dead, .dead, .dead, .dead, .dead, .dead, .dead, .dead, .dead, .dead, .dead, .dead, .dead, .dead, .dead, .dead, .dead, .dead, .dead, .dead, .dead, .dead, .dead, .dead, .dead, .dead, .dead, .dead, .dead, .dead, .dead, .dead, .dead, .dead] #[34, 35] fdAsg fdBody), (.cells [(.val (.int .i64 0)), (.val (.int .i64 0)), (.vec 1 [] .none)]), (.cells [(.val (.int .i64 0)), (.val (.int .i64 0)), (.vec 1 [] .none)])], (tl)⟩))))))
 else (∀ ds2 : List TV, (∀ lx : TV, (∀ tl : Tl7, (FwB (ds2) (lx) (tl) (sbB (List.flatten (a ++ b)) (0 : Nat) (List.length a + List.length b)) (pas) → (IsB (fdD (sbB (List.flatten (a ++ b)) (0 : Nat) (List.length a + List.length b)) pas) ∧
 (((@Eq (Option TV) (.some (.ptr 0 0)) (.some (.ptr 0 0))) ∧
 ((@Eq (Option TV) (.some (lx)) (.some (lx))) ∧
 True )) ∧
 Q (.tup [(lx), (.agg [(.val (.int .i64 (Int.ofNat (fdC (sbB (List.flatten (a ++ b)) (0 : Nat) (List.length a + List.length b)) pas + (1 : Nat))))), (.val (.int .i64 (fdU (sbB (List.flatten (a ++ b)) (0 : Nat) (List.length a + List.length b)) pas))), (.vec 1 (fdD (sbB (List.flatten (a ++ b)) (0 : Nat) (List.length a + List.length b)) pas) .none)])]) ⟨[(.cells [(.val (.bool true)), (.val (.int .i64 (pas))), (.val (.slice .none 0 0)), (.val (.int .i64 (Int.ofNat (fdC (sbB (List.flatten (a ++ b)) (0 : Nat) (List.length a + List.length b)) pas + (1 : Nat))))), (.val (.int .i64 (fdU (sbB (List.flatten (a ++ b)) (0 : Nat) (List.length a + List.length b)) pas))), (.vec 1 (fdD (sbB (List.flatten (a ++ b)) (0 : Nat) (List.length a + List.length b)) pas) .none), (.val (.int .i64 (n + (↑(List.length (fdL (sbB (List.flatten (a ++ b)) (0 : Nat) (List.length a + List.length b)) pas)) : Int))))]), (.cells [(.ptr 0 0)]), (.cells [(.val (.int .i64 (Int.ofNat (fdC (sbB (List.flatten (a ++ b)) (0 : Nat) (List.length a + List.length b)) pas + (1 : Nat))))), (.val (.int .i64 (fdU (sbB (List.flatten (a ++ b)) (0 : Nat) (List.length a + List.length b)) pas))), (.vec 1 (fdD (sbB (List.flatten (a ++ b)) (0 : Nat) (List.length a + List.length b)) pas) .none)]), (.row (ds2)), (.cells [(lx)]), (.cells [(.ptr 0 0)]), .gone, (.loop .exhausted (.some (Code.exit (0 : Nat))) [.dead, .dead, (.ptr 1 0), .dead, .dead, .dead, (.ptr 4 0), .dead, .dead, .dead, .dead, .dead, .dead, .dead, .dead, .dead, .dead, .dead, .dead, .dead, .dead, .dead, .dead, .dead, .dead, .dead, .dead, .dead, .dead, .dead, .dead, .dead, .dead, .dead, .dead, .dead, .dead, .dead, .dead, .dead, .dead, .dead, .dead, .dead, .dead, .dead, .dead, .dead, .dead, .dead, .dead, .dead, .dead, .dead, .dead, .dead, .dead] #[34, 35] fdAsg fdBody), (.cells [(.val (.int .i64 (Int.ofNat (fdC (sbB (List.flatten (a ++ b)) (0 : Nat) (List.length a + List.length b)) pas + (1 : Nat))))), (.val (.int .i64 (fdU (sbB (List.flatten (a ++ b)) (0 : Nat) (List.length a + List.length b)) pas))), (.vec 1 (fdD (sbB (List.flatten (a ++ b)) (0 : Nat) (List.length a + List.length b)) pas) .none)]), (.cells [(.val (.int .i64 (Int.ofNat (fdC (sbB (List.flatten (a ++ b)) (0 : Nat) (List.length a + List.length b)) pas + (1 : Nat))))), (.val (.int .i64 (fdU (sbB (List.flatten (a ++ b)) (0 : Nat) (List.length a + List.length b)) pas))), (.vec 1 (fdD (sbB (List.flatten (a ++ b)) (0 : Nat) (List.length a + List.length b)) pas) .none)])], (tl)⟩))))))))))) := by kernel_rfl
theorem ev_fdC (pas s : Int) (c : Nat) (a d : Bs) (n : Int) (b : Bs) (tok : Tok) (Q : TV → VT → Prop) : vcallF Tryz.prog leastG (specs [(ccF, ccW), (fwF, fwW), (clF, cloneW)]) (tellS [(999998, .dead, none)]) 300 noLp 0 fdF [.ptr 0 0, .vec 1 b tok] ⟨[stO pas (.vec 1 a .none) (Int.ofNat (c + 1)) s (.vec 1 d .none) n], []⟩ Q =
 (IsB (d) ∧
 Q (.tup [(.val (.slice .none 0 0)), (.agg [(.val (.int .i64 (Int.ofNat (c + (1 : Nat))))), (.val (.int .i64 (s))), (.vec 1 (d) .none)])]) ⟨[(.cells [(.val (.bool true)), (.val (.int .i64 (pas))), (.vec 1 (a) .none), (.val (.int .i64 (Int.ofNat (c + (1 : Nat))))), (.val (.int .i64 (s))), (.vec 1 (d) .none), (.val (.int .i64 (n)))]), (.cells [(.ptr 0 0)]), (.cells [(.val (.int .i64 (Int.ofNat (c + (1 : Nat))))), (.val (.int .i64 (s))), (.vec 1 (d) .none)]), (.cells [(.val (.int .i64 (Int.ofNat (c + (1 : Nat))))), (.val (.int .i64 (s))), (.vec 1 (d) .none)]), (.cells [(.val (.int .i64 (Int.ofNat (c + (1 : Nat))))), (.val (.int .i64 (s))), (.vec 1 (d) .none)])], []⟩) := by kernel_rfl
theorem ev_ff (pas n c s : Int) (x : TV) (d : Bs) (Q : TV → VT → Prop) : vcallF Tryz.prog noGl (specs [(clF, cloneW)]) (tellS [(999998, .dead, none)]) 300 noLp 0 ffF [.ptr 0 0] ⟨[stO pas x c s (.vec 1 d .none) n], []⟩ Q =
 (IsB (d) ∧
 Q (.agg [(.val (.int .i64 (c))), (.val (.int .i64 (s))), (.vec 1 (d) .none)]) ⟨[(.cells [(.val (.bool true)), (.val (.int .i64 (pas))), (x), (.val (.int .i64 (c))), (.val (.int .i64 (s))), (.vec 1 (d) .none), (.val (.int .i64 (n)))]), (.cells [(.val (.int .i64 (c))), (.val (.int .i64 (s))), (.vec 1 (d) .none)]), (.cells [(.val (.int .i64 (c))), (.val (.int .i64 (s))), (.vec 1 (d) .none)])], []⟩) := by kernel_rfl
theorem ev_fw0 (pas n : Int) (Q : TV → VT → Prop) : vcallF Tryz.prog noGl noSp (tellS [(999998, .dead, none)]) 300 noLp 0 fwF [.dead, .ptr 1 0] ⟨[stO pas (.val (.slice none 0 0)) 0 0 (.vec 1 [] .none) n, .cells [.ptr 0 0]], []⟩ Q =
Q (.tup []) ⟨[(.cells [(.val (.bool true)), (.val (.int .i64 (pas))), (.val (.slice .none 0 0)), (.val (.int .i64 0)), (.val (.int .i64 0)), (.vec 1 [] .none), (.val (.int .i64 (n)))]), (.cells [(.ptr 0 0)])], []⟩ := by kernel_rfl
theorem ev_fw (T0 : VT) (Po : VT → Prop) (Q : TV → VT → Prop) : vcallF Tryz.prog leastG noSp noOra 300 (specsL [(0, loopL 84 [0, 1] [] [.yld 5, .ptr 4 0] T0 (fun K => ∀ T, Po T → (K .normal (slotsN 84 [0, 1] [.yld 5, .ptr 4 0]) T [] ∧ K .ret (slotsN 84 [0, 1] [.yld 5, .ptr 4 0]) T [])), codeAt Tryz.prog fwF 0)]) 0 fwF [.yld 5, .ptr 4 0] T0 Q =
 ((codeAt Tryz.prog fwF (0 : Nat) = codeAt Tryz.prog fwF (0 : Nat)) ∧
 (((@Eq (Option Nat) .none .none) ∧
 ((@Eq (Nat) 0 0) ∧
 ((@Eq (List Nat) [] []) ∧
 (True  ∧
 ((@Eq (VT) (T0) (T0)) ∧
 ((@Eq (Bool) true true) ∧
 (@Eq (List TV) [(.yld 5), (.ptr 4 0)] [(.yld 5), (.ptr 4 0)]))))))) ∧
 (∀ T : VT, (Po (T) → (Q (.tup []) (T) ∧
 Q (.tup []) (T)))))) := by kernel_rfl
theorem ev_new (pas : Int) (Q : TV → VT → Prop) : vcallF Tryz.prog noGl noSp (tellS [(999998, .dead, none)]) 300 noLp 0 nwF [.val (.int .i64 pas)] ⟨[], []⟩ Q =
Q (.ptr 0 0) ⟨[(.cells [(.val (.bool true)), (.val (.int .i64 (pas))), (.val (.slice .none 0 0)), (.val (.int .i64 0)), (.val (.int .i64 0)), (.val (.slice .none 0 0)), (.val (.int .i64 0))])], []⟩ := by kernel_rfl
theorem ev_left (pas n c s : Int) (x d : TV) (a : Bs) (Q : TV → VT → Prop) : vcallF Tryz.prog noGl noSp (tellS [(999998, .dead, none)]) 300 noLp 0 lfF [.ptr 0 0] ⟨[stO pas (.vec 1 a .none) c s d n], []⟩ Q =
Q (.val (.int .i64 ((↑(List.length a) : Int)))) ⟨[(.cells [(.val (.bool true)), (.val (.int .i64 (pas))), (.vec 1 (a) .none), (.val (.int .i64 (c))), (.val (.int .i64 (s))), (d), (.val (.int .i64 (n)))])], []⟩ := by kernel_rfl
theorem ev_count (pas n c s : Int) (x d : TV) (Q : TV → VT → Prop) : vcallF Tryz.prog noGl noSp (tellS [(999998, .dead, none)]) 300 noLp 0 fctF [.ptr 0 0] ⟨[stO pas x c s d n], []⟩ Q =
Q (.val (.int .i64 (n))) ⟨[(.cells [(.val (.bool true)), (.val (.int .i64 (pas))), (x), (.val (.int .i64 (c))), (.val (.int .i64 (s))), (d), (.val (.int .i64 (n)))])], []⟩ := by kernel_rfl
end Go.Proofs.YtogbdjlelkepcaaGreatDoor
namespace Go.Proofs.YtogbdjlelkepcaaGreatDoor
open Go.RowKit

theorem VCx.loopLe {P : Program} {G : Globs} {ro i : Nat} {f : FuncId} {xs : List TV} {T : VT} {Q : TV → VT → Prop} {st : LoopState} {pend : Option Code} {σ : List TV} {m : List (Option TV)} {ps : Array Tmp} {asg body : Code} (hi : T.objs[i]? = some (.loop st pend σ ps asg body)) (hle : LEs σ m) (hro : ro ≤ i)
  (h : VCx P G ro f xs { T with objs := T.objs.set i (.loop st pend (slots m) ps asg body) } Q) : VCx P G ro f xs T Q := by
 intro g w us r hG hx
 have r' := r.objLe hi rfl (o' := .loop st pend (slots m) ps asg body) rfl fun b ⟨us, fn, db, h1, h2⟩ => ⟨us, fn, db, h1, hle.ok h2⟩
 refine Calls.mono (h g w us r' hG hx) ?_
 rintro e w' ⟨v, x, g', T', he, hq, e', r2, hv, hf⟩
 have hat : ∀ j, j < ro → (T.objs.set i (.loop st pend (slots m) ps asg body))[j]? = T.objs[j]? := fun j hj => by
  rw [List.getElem?_set, if_neg (by omega)]
 exact ⟨v, x, g', T', he, hq, e', r2, hv, ⟨by have := hf.len; simpa using this, fun j hj hl => (hf.same j hj (by simpa using hl)).trans (hat j hj), fun j o b hj ho hl hb => hf.heap j o b hj ((hat j hj).trans ho) hl hb⟩⟩
section
variable {P : Program} {G : Globs}
theorem VCx.cellsLe {f : FuncId} {xs : List TV} {T : VT} {Q : TV → VT → Prop} (i : Nat) (h : VCx P G 0 f xs T fun x T' => ∃ cs cs' : List TV, T'.objs[i]? = some (.cells cs) ∧ TVleL cs cs' ∧ Q x { T' with objs := T'.objs.set i (.cells cs') }) : VCx P G 0 f xs T Q := by
 intro g w us rw0 hG hx
 refine Calls.mono (h g w us rw0 hG hx) ?_
 rintro e w' ⟨v, x, g', T', he, ⟨cs, cs', h1, h2, hq⟩, e', r', hv, hfx⟩
 have r2 := r'.objLe h1 rfl (o' := .cells cs') rfl fun b ⟨us, t, k1, k2, k3⟩ => ⟨us, t, k1, h2.vrs k2, k3⟩
 refine ⟨v, x, g', _, he, hq, e', r2, hv, ⟨?_, fun i hi => absurd hi (Nat.not_lt_zero i), fun i o b hi => absurd hi (Nat.not_lt_zero i)⟩⟩
 have := hfx.len
 simpa using this
theorem VCx.freezeOpt {f : FuncId} {xs : List TV} {T : VT} {Q : TV → VT → Prop} (i j size : Nat) (h : VCx P G 0 f xs T fun x T' => (∃ (id off n : Nat) (cs : List TV) (es : List (List TV)), T'.objs[i]? = some (.cells cs) ∧ cs[j]? = some (.row size id off n) ∧ rowsR T' size (.row size id off n) = some es ∧ Q x { (T'.kill id) with objs := (T'.kill id).objs.set i (.cells (cs.set j (.vec size es .none))) }) ∨ Q x T') : VCx P G 0 f xs T Q := by
 intro g w us rw0 hG hx
 refine Calls.mono (h g w us rw0 hG hx) ?_
 rintro e w' ⟨v, x, g', T', he, hq | hq, e', r', hv, hfx⟩
 rotate_left
 ·exact ⟨v, x, g', T', he, hq, e', r', hv, hfx⟩
 obtain ⟨id, off, n, cs, es, h1, hj, h2, hq⟩ := hq
 obtain ⟨b, h3, ⟨vs, t, h4, h5, h6⟩, h7⟩ := r'.obj i _ h1 rfl
 obtain ⟨u, hu, hvu⟩ := h5.at hj
 obtain ⟨g2, e2, r2, v2⟩ := row_freeze r' h2 hvu
 have hne : id ≠ i := by
  rintro rfl
  simp only [rowsR, h1] at h2
  cases h2
 have hi2 : (T'.kill id).objs[i]? = some (.cells cs) := by
  simp only [VT.kill, List.getElem?_set]
  rw [if_neg hne]; exact h1
 have hus : vs.set j u = vs := by
  apply List.ext_getElem?
  intro k
  rw [List.getElem?_set]
  split
  ·rename_i hk; subst hk; rw [hu, if_pos (List.getElem?_eq_some_iff.1 hu).1]
  ·rfl
 have hin : ∀ b', g2.obj i = some b' → b' = b := fun b' hb' => by
  have := e2.obj i b h3
  rw [this] at hb'; injection hb' with hb'; exact hb'.symm
 have r3 : RW g2 { (T'.kill id) with objs := (T'.kill id).objs.set i (.cells (cs.set j (.vec size es .none))) } w' := by
  refine r2.objLeAt hi2 rfl rfl fun b' hb' ⟨us', t', k1, k2, k3⟩ => ⟨us', t', k1, ?_, k3⟩
  rw [hin b' hb', h4] at k1
  injection k1 with k1; injection k1 with k1
  have : us' = vs := by have := congrArg Array.toList k1; simpa using this.symm
  subst this
  have := k2.set j v2
  rwa [hus] at this
 refine ⟨v, x, g2, _, he, hq, e'.trans e2, r3, hv.mono e2, ⟨?_, fun i hi => absurd hi (Nat.not_lt_zero i), fun i o b hi => absurd hi (Nat.not_lt_zero i)⟩⟩
 have := hfx.len
 simp only [VT.kill, List.length_set]; exact this
end
end Go.Proofs.YtogbdjlelkepcaaGreatDoor
namespace Go.Proofs.YtogbdjlelkepcaaGreatDoor
open Go.RowKit

theorem TVleL.app : ∀ {a b c d : List TV}, TVleL a b → TVleL c d → TVleL (a ++ c) (b ++ d)
 | [], [], _, _, _, h => h
 | _ :: _, _ :: _, _, _, h, k => ⟨h.1, TVleL.app h.2 k⟩
 | [], _ :: _, _, _, h, _ => h.elim
 | _ :: _, [], _, _, h, _ => h.elim
theorem TVleL.flat {α : Type} (f g : α → List TV) : ∀ {l : List α}, (∀ a ∈ l, TVleL (f a) (g a)) → TVleL (l.map f).flatten (l.map g).flatten
 | [], _ => trivial
 | a :: l, h => by
  rw [List.map_cons, List.map_cons, List.flatten_cons, List.flatten_cons]
  exact (h a List.mem_cons_self).app (TVleL.flat f g fun b hb => h b (List.mem_cons_of_mem _ hb))
theorem TVle.rows {α : Type} (size : Nat) (f g : α → List TV) {l : List α} (tok : Tok) (h : ∀ a ∈ l, TVleL (f a) (g a)) : TVle (.vec size (l.map f) tok) (.vec size (l.map g) .none) := by
 intro q w u hu
 rcases hu.vec_inv with ⟨rfl, h0, h1⟩ | ⟨b, o, c, us, rfl, f1, f2, f3, f4, f5, f6, f7, f8⟩ | ⟨a, rfl, h0, h1⟩
 ·obtain rfl : l = [] := List.map_eq_nil_iff.1 h0
  exact .nil trivial
 ·have hf := TVleL.flat f g h
  refine .mk_vec (by simp) (by simpa using f1) f2 (fun e he => ?_) trivial (hf.vrs f5) (fun j hj => f6 j (by rw [hf.at.1]; exact hj)) f7 f8
  obtain ⟨a, ha, rfl⟩ := List.mem_map.1 he
  rw [← (h a ha).at.1]
  exact f3 _ (List.mem_map.2 ⟨a, ha, rfl⟩)
 ·obtain rfl : l = [] := List.map_eq_nil_iff.1 h0
  exact .odd a trivial
end Go.Proofs.YtogbdjlelkepcaaGreatDoor
namespace Go.Proofs.YtogbdjlelkepcaaGreatDoor
open Go.RowKit

def FwTo (pas n : Int) (w : Bs) (x : TV) (T : VT) : Prop := x = .tup [] ∧ FwEnd pas n w T.objs T.tails
theorem xL_keep {l : List MsgS} (h : AllM l) (f g : Nat → Option Nat) (hg : g 0 = some 0) : (xL l).ren f g = xL l := by
 cases l with
 | nil => rfl
 | cons M l => simp only [xL, TV.ren, renLL_ms h, Tok.ren, hg]
theorem rowRen {cs : List TV} {n : Nat} (h : RwOk cs 0 n) (f g : Nat → Option Nat) : renL f g cs = cs := by
 have e := h.ren f g
 simp only [VO.ren] at e
 injection e
theorem fdX_wf {w : Bs} {pas : Int} (hw : IsB w) : AllM (fdX w pas).1 := (fdX_is pas _ w (Nat.le_refl _) hw).2.2.1
theorem fdX_dt {w : Bs} {pas : Int} (hw : IsB w) {c : Nat} {s : Int} {d : Bs} (h : (fdX w pas).2.2 = some (c, s, d)) : IsB d := ((fdX_is pas _ w (Nat.le_refl _) hw).2.2.2 c s d h).1
theorem fw_vcx {ds : List TV} {N : Nat} {pas n : Int} (hr : RwOk ds 0 N) (hn : FwN n N) :
  VCx Tryz.prog leastG 0 fwF fwV (fwT pas 0 0 n (.vec 1 [] .none) (.row 1 2 0 N) (.val (.slice none 0 0)) ds [] .ready none) (FwTo pas n (sbB ds 0 N)) := by
 have hw := hr.is
 refine VCx.keepQ 6 1 (Nat.le_refl _) (Nat.zero_le _) ?_
 refine vcallF_is mixedB_Tryz bodiesB_Tryz (show SpecsOk Tryz.prog leastG noSp from specsOk_none) (specsL_ok fun p hp => ?_) (ev_fw _ (fun T => FwEnd pas n (sbB ds 0 N) (T.objs.take 6) T.tails) _) ?_
 ·obtain rfl := List.mem_singleton.1 hp
  refine loopL_ok fun K hK => fw_loop hr hn.1 hn.2 K ?_
  rintro e vs T ⟨he, rfl, hT⟩
  obtain ⟨h1, h2⟩ := hK T hT
  rcases he with rfl | rfl
  ·exact h1
  ·exact h2
 ·refine ⟨rfl, ⟨rfl, rfl, rfl, trivial, rfl, rfl, rfl⟩, fun T hT => ?_⟩
  have key : FwTo pas n (sbB ds 0 N) ((TV.tup []).ren (Go.Proofs.YtogbdjlelkepcaaGreatDoor.keep 6) (Go.Proofs.YtogbdjlelkepcaaGreatDoor.keep 1)) (T.keep 6 1) := by
   refine ⟨rfl, ?_⟩
   obtain ⟨ds2, h0, h1, h2⟩ := hT
   have ha := fdX_wf (pas := pas) hw
   refine ⟨ds2, h0, ?_, ?_⟩
   ·show T.tails.take 1 = _
    rw [h1, tL_keep]
   ·cases hf : (fdX (sbB ds 0 N) pas).2.2 with
    | none =>
     rw [hf] at h2
     obtain ⟨a1, a2, a3⟩ := h2
     refine ⟨a1, a2, ?_⟩
     show (T.objs.take 6).map _ = _
     rw [a3]
     have e := rowRen h0 (Go.Proofs.YtogbdjlelkepcaaGreatDoor.keep 6) (Go.Proofs.YtogbdjlelkepcaaGreatDoor.keep 1)
     simp only [fwT, List.map_cons, List.map_nil, stO, VO.ren, renL, xL_ren ha, e]
     rfl
    | some p =>
     obtain ⟨c, s, d⟩ := p
     rw [hf] at h2
     show (T.objs.take 6).map _ = _
     simp only at h2
     rw [h2]
     have e := rowRen h0 (Go.Proofs.YtogbdjlelkepcaaGreatDoor.keep 6) (Go.Proofs.YtogbdjlelkepcaaGreatDoor.keep 1)
     have e2 := (fdX_dt hw hf).ren (Go.Proofs.YtogbdjlelkepcaaGreatDoor.keep 6) (Go.Proofs.YtogbdjlelkepcaaGreatDoor.keep 1)
     simp only [fwT, List.map_cons, List.map_nil, stO, VO.ren, renL, xL_ren ha, e, TV.ren, e2]
     rfl
  exact ⟨key, key⟩
theorem fw0_vcx (pas n : Int) : VCx Tryz.prog noGl 0 fwF [.dead, .ptr 1 0] ⟨[stO pas (.val (.slice none 0 0)) 0 0 (.vec 1 [] .none) n, .cells [.ptr 0 0]], []⟩ fun x T' => x = .tup [] ∧ T' = ⟨[stO pas (.val (.slice none 0 0)) 0 0 (.vec 1 [] .none) n, .cells [.ptr 0 0]], []⟩ :=
 vcallF_is mixedB_Tryz bodiesB_Tryz specsOk_none lsOk_none (ev_fw0 pas n _) ⟨rfl, rfl⟩
def fw8 : List Nat := [0, 1, 3, 4, 5, 7]
theorem fwW_ok : ∀ ro ys T K, fwW ro ys T K → VCx Tryz.prog leastG ro fwF ys T K := by
 intro ro ys T K hw
 obtain ⟨objs, tails⟩ := T
 unfold fwW at hw
 split at hw
 ·rename_i pas N n o2 ds o6 σ ps asg body heq
  simp only at heq
  subst heq
  obtain ⟨⟨⟨rfl, rfl, ht, hr, hn⟩, ⟨hp, hl⟩, rfl, rfl, rfl⟩, hk⟩ := hw
  simp only at ht
  subst ht
  have hw := hr.is
  have hle : LEs σ (slotsO 57 [2, 6] [.ptr 1 0, .ptr 4 0]) := by
   have := les_pick σ [2, 6]
   rwa [hl, hp] at this
  have hrr := fun f g => rowRen (hr.sub (o := 0) (m := 0) (by omega)) f g
  refine VCx.loopLe (i := 7) rfl hle (Nat.zero_le _) ?_
  refine (VCx.lift (xs := fwV) fw8 [] leastG_vals (by decide) List.nodup_nil ?_ (by simp) (fun _ _ => Nat.zero_le _) rfl (T := ⟨[stO pas (.row 1 3 0 N) 0 0 (.vec 1 [] .none) n, .cells [.ptr 0 0], o2, .row ds, .cells [.val (.slice none 0 0)], .cells [.ptr 0 0], o6, .loop .ready none fwS8 #[34, 35] fdAsg fdBody], []⟩) (Q := FwTo pas n (sbB ds 0 N)) ?_ ?_).mono ?_
  ·intro i hi
   simp only [fw8, List.mem_cons, List.not_mem_nil, or_false] at hi
   rcases hi with rfl | rfl | rfl | rfl | rfl | rfl <;> exact ⟨_, rfl, rfl⟩
  ·have e : (⟨[stO pas (.row 1 3 0 N) 0 0 (.vec 1 [] .none) n, .cells [.ptr 0 0], o2, .row ds, .cells [.val (.slice none 0 0)], .cells [.ptr 0 0], o6, .loop .ready none fwS8 #[34, 35] fdAsg fdBody], []⟩ : VT).give fw8 [] = fwT pas 0 0 n (.vec 1 [] .none) (.row 1 2 0 N) (.val (.slice none 0 0)) ds [] .ready none := by
    have e2 := hrr (nameIn fw8) (nameIn [])
    simp only [VT.give, fw8, List.map_cons, List.map_nil] at e2 ⊢
    show (⟨[_, _, VO.row (renL _ _ ds), _, _, _], []⟩ : VT) = _
    rw [e2]
    rfl
   rw [e]; exact fw_vcx hr hn
  ·rintro x T' ⟨_, ds2, _, _, h⟩
   refine ⟨?_, Nat.zero_le _⟩
   split at h
   ·obtain ⟨_, _, h⟩ := h
    rw [h]; exact Nat.le_refl _
   ·rw [h]; exact Nat.le_refl _
  ·rintro z T' ⟨x, T'', ⟨rfl, ds2, h0, h1, h2⟩, rfl, rfl⟩
   have ha := fdX_wf (pas := pas) hw
   have e := rowRen h0 (nameOut 8 fw8) (nameOut 0 [])
   have ex : ∀ f, (xL (fdX (sbB ds 0 N) pas).1).ren f (nameOut 0 []) = xL (fdX (sbB ds 0 N) pas).1 := fun f => xL_keep ha f _ rfl
   obtain ⟨os, tls⟩ := T''
   simp only at h1 h2
   subst h1
   cases hf : (fdX (sbB ds 0 N) pas).2.2 with
   | none =>
    rw [hf] at h2
    obtain ⟨a1, a2, rfl⟩ := h2
    rw [show fdO (sbB ds 0 N) pas = true by unfold fdO; rw [hf]; rfl, cond_true] at hk
    have hk := hk ds2 _ _ ⟨⟨a1, a2⟩, rfl, rfl⟩
    have e1 : (fwT pas 0 0 (n + (fdX (sbB ds 0 N) pas).1.length) (.vec 1 [] .none) (.row 1 2 0 (fdX (sbB ds 0 N) pas).2.1.length) (xL (fdX (sbB ds 0 N) pas).1) ds2 [] .ready none).objs.map (VO.ren (nameOut 8 fw8) (nameOut 0 [])) = [stO pas (.row 1 3 0 (fdX (sbB ds 0 N) pas).2.1.length) 0 0 (.vec 1 [] .none) (n + (fdX (sbB ds 0 N) pas).1.length), .cells [.ptr 0 0], .row ds2, .cells [xL (fdX (sbB ds 0 N) pas).1], .cells [.ptr 0 0], .loop .ready none fwS8 #[34, 35] fdAsg fdBody] := by
     show [_, _, VO.row (renL _ _ ds2), VO.cells [(xL _).ren _ _], _, _] = _
     rw [e, ex]; rfl
    change K (.tup []) ⟨giveBack _ fw8 ((fwT pas 0 0 (n + (fdX (sbB ds 0 N) pas).1.length) (.vec 1 [] .none) (.row 1 2 0 (fdX (sbB ds 0 N) pas).2.1.length) (xL (fdX (sbB ds 0 N) pas).1) ds2 [] .ready none).objs.map (VO.ren (nameOut 8 fw8) (nameOut 0 []))), _⟩
    rw [e1]
    simp only [giveBack, fw8, List.set_cons_zero, List.set_cons_succ, List.append_nil, List.nil_append]
    exact hk
   | some p =>
    obtain ⟨c, s, d⟩ := p
    rw [hf] at h2
    simp only at h2
    subst h2
    rw [show fdO (sbB ds 0 N) pas = false by unfold fdO; rw [hf]; rfl, cond_false] at hk
    have hk := hk ds2 _ _ ⟨h0, rfl, rfl⟩
    have ec : fdC (sbB ds 0 N) pas = c := by unfold fdC; rw [hf]
    have es : fdU (sbB ds 0 N) pas = s := by unfold fdU; rw [hf]
    have ed : fdD (sbB ds 0 N) pas = d := by unfold fdD; rw [hf]
    rw [ec, es, ed] at hk
    have e2 := (fdX_dt hw hf).ren (nameOut 8 fw8) (nameOut 0 [])
    have e1 : (fwT pas (Int.ofNat (c + 1)) s (n + (fdX (sbB ds 0 N) pas).1.length) (.vec 1 d .none) (.val (.slice none 0 0)) (xL (fdX (sbB ds 0 N) pas).1) ds2 [] .done (some (.exit 0))).objs.map (VO.ren (nameOut 8 fw8) (nameOut 0 [])) = [stO pas (.val (.slice none 0 0)) (Int.ofNat (c + 1)) s (.vec 1 d .none) (n + (fdX (sbB ds 0 N) pas).1.length), .cells [.ptr 0 0], .row ds2, .cells [xL (fdX (sbB ds 0 N) pas).1], .cells [.ptr 0 0], .loop .done (some (.exit 0)) fwS8 #[34, 35] fdAsg fdBody] := by
     show [VO.cells [_, _, _, _, _, .vec 1 (renLL _ _ d) _, _], _, VO.row (renL _ _ ds2), VO.cells [(xL _).ren _ _], _, _] = _
     rw [e, ex, e2]; rfl
    change K (.tup []) ⟨giveBack _ fw8 ((fwT pas (Int.ofNat (c + 1)) s (n + (fdX (sbB ds 0 N) pas).1.length) (.vec 1 d .none) (.val (.slice none 0 0)) (xL (fdX (sbB ds 0 N) pas).1) ds2 [] .done (some (.exit 0))).objs.map (VO.ren (nameOut 8 fw8) (nameOut 0 []))), _⟩
    rw [e1]
    simp only [giveBack, fw8, List.set_cons_zero, List.set_cons_succ, List.append_nil, List.nil_append]
    exact hk
 ·rename_i pas n o2 o3 o5 o6 heq
  simp only at heq
  subst heq
  obtain ⟨⟨rfl, rfl⟩, hk⟩ := hw
  refine (VCx.lift (xs := [.dead, .ptr 1 0]) [0, 4] [] leastG_vals (by decide) List.nodup_nil ?_ (by simp) (fun _ _ => Nat.zero_le _) rfl (Q := fun x T' => x = .tup [] ∧ T' = ⟨[stO pas (.val (.slice none 0 0)) 0 0 (.vec 1 [] .none) n, .cells [.ptr 0 0]], []⟩) (VCx.anyG (fw0_vcx pas n)) ?_).mono ?_
  ·intro i hi
   simp only [List.mem_cons, List.not_mem_nil, or_false] at hi
   rcases hi with rfl | rfl <;> exact ⟨_, rfl, rfl⟩
  ·rintro x T' ⟨_, rfl⟩
   exact ⟨Nat.le_refl _, Nat.zero_le _⟩
  ·rintro z T' ⟨x, T'', ⟨rfl, rfl⟩, rfl, rfl⟩
   simp only [VT.back, List.map_cons, List.map_nil, giveBack, List.append_nil]
   exact hk
 ·exact hw.elim
end Go.Proofs.YtogbdjlelkepcaaGreatDoor
namespace Go.Proofs.YtogbdjlelkepcaaGreatDoor
open Go.RowKit

def fdK (w : Bs) (pas : Int) : Int := bif fdO w pas then 0 else Int.ofNat (fdC w pas + 1)
def stW (pas : Int) (w : Bs) : VO := stO pas (.vec 1 (fdX w pas).2.1 .none) (fdK w pas) (fdU w pas) (.vec 1 (fdD w pas) .none) ((fdL w pas).length : Nat)
def stL (pas : Int) (w : Bs) : List TV := [.val (.bool true), .val (.int .i64 pas), .vec 1 (fdX w pas).2.1 .none, .val (.int .i64 (fdK w pas)), .val (.int .i64 (fdU w pas)), .vec 1 (fdD w pas) .none, .val (.int .i64 ((fdL w pas).length : Nat))]
def fdT (w : Bs) (pas : Int) : TV := ftT (fdK w pas) (fdU w pas) (fdD w pas)
def fdNw (w b : Bs) (pas : Int) : List MsgS := (fdL (w ++ b) pas).drop (fdL w pas).length
def fdV (w b : Bs) (pas : Int) : TV := .tup [.vec 15 ((fdNw w b pas).map MsgS.cells) .none, fdT (w ++ b) pas]
section
variable {w b : Bs} {pas : Int}
theorem fdD_is (hw : IsB w) : IsB (fdD w pas) := by
 unfold fdD
 split
 ·rename_i p h
  obtain ⟨c, s, d⟩ := p
  exact fdX_dt hw h
 ·exact .nil
theorem fdR_is (hw : IsB w) : IsB (fdX w pas).2.1 := (fdX_is pas _ w (Nat.le_refl _) hw).1
theorem stW_none (h : (fdX w pas).2.2 = none) : stW pas w = stO pas (.vec 1 (fdX w pas).2.1 .none) 0 0 (.vec 1 [] .none) ((fdX w pas).1.length : Nat) := by
 simp only [stW, fdK, fdO, fdU, fdD, fdL, h]; rfl
theorem stW_some (hw : IsB w) {c : Nat} {s : Int} {d : Bs} (h : (fdX w pas).2.2 = some (c, s, d)) : stW pas w = stO pas (.vec 1 [] .none) (Int.ofNat (c + 1)) s (.vec 1 d .none) ((fdX w pas).1.length : Nat) := by
 have h2 := ((fdX_is pas _ w (Nat.le_refl _) hw).2.2.2 c s d h).2
 simp only [stW, fdK, fdO, fdC, fdU, fdD, fdL, h, h2]; rfl
theorem fdT_none (h : (fdX w pas).2.2 = none) : fdT w pas = ftT 0 0 [] := by simp only [fdT, fdK, fdO, fdU, fdD, h]; rfl
theorem fdT_some {c : Nat} {s : Int} {d : Bs} (h : (fdX w pas).2.2 = some (c, s, d)) : fdT w pas = ftT (Int.ofNat (c + 1)) s d := by simp only [fdT, fdK, fdO, fdC, fdU, fdD, h]; rfl
theorem stW_ren (hw : IsB w) (f g : Nat → Option Nat) : (stW pas w).ren f g = stW pas w := by
 simp only [stW, stO, VO.ren, renL, TV.ren, (fdD_is hw).ren, (fdR_is hw).ren, Tok.ren]
theorem fdT_ren (hw : IsB w) (f g : Nat → Option Nat) : (fdT w pas).ren f g = fdT w pas := by
 simp only [fdT, ftT, TV.ren, renL, (fdD_is hw).ren, Tok.ren]
theorem fdNw_wf (hw : IsB (w ++ b)) : AllM (fdNw w b pas) := fun M hM => fdX_wf hw M (List.mem_of_mem_drop hM)
theorem fdV_ren (hw : IsB (w ++ b)) (f g : Nat → Option Nat) : (fdV w b pas).ren f g = fdV w b pas := by
 simp only [fdV, TV.ren, renL, renLL_ms (fdNw_wf hw), fdT_ren hw, Tok.ren]
theorem xL_le {l : List MsgS} (h : AllM l) (f : Nat → Option Nat) : TVle ((xL l).ren f (Go.Proofs.YtogbdjlelkepcaaGreatDoor.keep 0)) (.vec 15 (l.map MsgS.cells) .none) := by
 cases l with
 | nil => exact .nil 15
 | cons M l => simp only [xL, TV.ren, renLL_ms h, Tok.ren]; exact .refl _
theorem isB_left (h : IsB (w ++ b)) : IsB w := by
 have := h.take w.length
 rwa [List.take_left] at this
theorem isB_right (h : IsB (w ++ b)) : IsB b := by
 have := h.drop w.length
 rwa [List.drop_left] at this
theorem fdSp : SpecsOk Tryz.prog leastG (specs [(ccF, ccW), (fwF, fwW), (clF, cloneW)]) := specs_ok fun p hp => by
 rcases List.mem_cons.1 hp with rfl | hp; exact ccW_ok
 rcases List.mem_cons.1 hp with rfl | hp; exact fwW_ok
 obtain rfl := List.mem_singleton.1 hp; exact fun ro ys T K h => VCx.anyG (cloneW_ok ro ys T K h)
theorem fd_end {V : TV} {S : List TV} {ys : List TV} {T0 : VT} (h0 : T0.objs.length ≤ 1) (ht : T0.tails.length ≤ 0) (hV : ∀ f g, renL f g S = S)
  (h : VCx Tryz.prog leastG 0 fdF ys T0 fun x T' => (∃ (id off n : Nat) (cs : List TV) (es : Bs), T'.objs[0]? = some (.cells cs) ∧ cs[2]? = some (.row 1 id off n) ∧ rowsR T' 1 (.row 1 id off n) = some es ∧ (0 < id ∧ cs.set 2 (.vec 1 es .none) = S) ∧ TVle (x.ren (Go.Proofs.YtogbdjlelkepcaaGreatDoor.keep 1) (Go.Proofs.YtogbdjlelkepcaaGreatDoor.keep 0)) V) ∨ (∃ cs, T'.objs[0]? = some (.cells cs) ∧ TVleL cs S ∧ TVle (x.ren (Go.Proofs.YtogbdjlelkepcaaGreatDoor.keep 1) (Go.Proofs.YtogbdjlelkepcaaGreatDoor.keep 0)) V)) :
  VCx Tryz.prog leastG 0 fdF ys T0 fun x T' => x = V ∧ T' = ⟨[.cells S], []⟩ := by
 refine VCx.toLe (Q := fun T' => T' = ⟨[.cells S], []⟩) (VCx.keepQ 1 0 h0 ht (VCx.cellsLe 0 (VCx.freezeOpt 0 2 1 (h.mono ?_))))
 have fin : ∀ T' : VT, T'.objs[0]? = some (.cells S) → T'.keep 1 0 = ⟨[.cells S], []⟩ := fun T' h => by
  obtain ⟨objs, tails⟩ := T'
  cases objs with
  | nil => simp at h
  | cons o os =>
   simp only [List.getElem?_cons_zero] at h
   injection h with h
   subst h
   simp only [VT.keep, List.take_succ_cons, List.take_zero, List.map_cons, List.map_nil, VO.ren, hV]
 have set0 : ∀ (l : List VO) (o : VO), 0 < l.length → (l.set 0 o)[0]? = some o := fun l o h => by
  cases l with
  | nil => simp at h
  | cons _ _ => rfl
 rintro x T' (⟨id, off, n, cs, es, a1, a2, a3, ⟨a4, a5⟩, a6⟩ | ⟨cs, a1, a2, a3⟩)
 ·have hl : 0 < T'.objs.length := (List.getElem?_eq_some_iff.1 a1).1
  refine .inl ⟨id, off, n, cs, es, a1, a2, a3, S, S, ?_, TVleL.refl _, a6, fin _ ?_⟩
  ·rw [a5]; exact set0 _ _ (by simpa [VT.kill] using hl)
  ·exact set0 _ _ (by simpa [VT.kill] using hl)
 ·have hl : 0 < T'.objs.length := (List.getElem?_eq_some_iff.1 a1).1
  exact .inr ⟨cs, S, a1, a2, a3, fin _ (set0 _ _ hl)⟩
theorem fd_vcx (hw : IsB (w ++ b)) (tok : Tok) : VCx Tryz.prog leastG 0 fdF [.ptr 0 0, .vec 1 b tok] ⟨[stW pas w], []⟩ fun x T' => x = fdV w b pas ∧ T' = ⟨[stW pas (w ++ b)], []⟩ := by
  have hw1 := isB_left hw
  have hb := isB_right hw
  have hS : ∀ f g, renL f g (stL pas (w ++ b)) = stL pas (w ++ b) := fun f g => by
    simp only [stL, renL, TV.ren, (fdD_is hw).ren, (fdR_is hw).ren, Tok.ren]
  refine fd_end (S := stL pas (w ++ b)) (Nat.le_refl _) (Nat.le_refl _) hS ?_
  cases hf : (fdX w pas).2.2 with
  | some p =>
    obtain ⟨c, s, d⟩ := p
    have hd := fdX_dt hw1 hf
    have hx := fdX_some (b := b) hf
    have hf2 : (fdX (w ++ b) pas).2.2 = some (c, s, d) := by rw [hx]; exact hf
    have hS2 := stW_some hw hf2
    unfold stO at hS2
    change VO.cells (stL pas (w ++ b)) = _ at hS2
    injection hS2 with hS2
    rw [stW_some hw1 hf, hS2]
    refine vcallF_is mixedB_Tryz bodiesB_Tryz fdSp lsOk_none (ev_fdC pas s c [] d _ b tok _) ⟨hd, .inr ⟨_, rfl, ?_, ?_⟩⟩
    · rw [hx]
      exact TVleL.refl _
    · unfold fdV
      rw [fdT_some hf2]
      have e : fdNw w b pas = [] := by unfold fdNw fdL; rw [hx]; simp
      rw [e]
      refine .tup ⟨.nil 15, ?_, trivial⟩
      simp only [TV.ren, renL, hd.ren, Tok.ren]
      exact .refl _
  | none =>
    have hx := fdX_none (b := b) hf
    have hlen := (fdX_is pas _ w (Nat.le_refl _) hw1).2.1
    have hr := fdR_is (pas := pas) hw1
    rw [stW_none hf]
    have hsm := hw.small
    rw [List.length_append] at hsm
    refine vcallF_is mixedB_Tryz bodiesB_Tryz fdSp lsOk_none (ev_fd pas _ (fdX w pas).2.1 b tok _) ⟨⟨hr, hb, Nat.ble_eq_true_of_le (by omega)⟩, ?_⟩
    have hab : IsB ((fdX w pas).2.1 ++ b) := IsB.append hr hb (by rw [List.length_append]; omega)
    have hfl := rw_flat hab
    rw [List.length_append] at hfl
    rw [hfl.2]
    have e1 : fdNw w b pas = (fdX ((fdX w pas).2.1 ++ b) pas).1 := by unfold fdNw fdL; rw [hx]; simp
    have e2 : fdL (w ++ b) pas = (fdX w pas).1 ++ (fdX ((fdX w pas).2.1 ++ b) pas).1 := by unfold fdL; rw [hx]
    refine cond_of (fun c0 => ?_) (fun c0 => ?_)
    · have c0 := Nat.eq_of_beq_eq_true c0
      have er : (fdX w pas).2.1 = [] := List.eq_nil_of_length_eq_zero (by omega)
      have eb : b = [] := List.eq_nil_of_length_eq_zero (by omega)
      subst eb
      rw [er] at hx e1 e2
      have e0 : fdX ([] : Bs) pas = ([], [], none) := fdX_short pas (by simp)
      rw [List.append_nil, e0] at e1
      rw [List.append_nil, List.append_nil, e0, List.append_nil] at e2
      have hS2 := stW_none hf
      unfold stO at hS2
      change VO.cells (stL pas _) = _ at hS2
      injection hS2 with hS2
      refine ⟨⟨rfl, rfl, rfl, trivial⟩, ⟨rfl, rfl⟩, .nil, ⟨rfl, rfl, trivial⟩, .inr ⟨_, rfl, ?_, ?_⟩⟩
      · rw [List.append_nil, hS2, er]
        exact ⟨.refl _, .refl _, .nil 1, .refl _, .refl _, .refl _, .refl _, trivial⟩
      · unfold fdV
        rw [e1, List.append_nil, fdT_none hf]
        exact .tup ⟨.nil 15, .refl _, trivial⟩
    · refine ⟨⟨rfl, rfl, rfl, trivial⟩, ⟨⟨rfl, rfl, rfl, hfl.1, by omega, by omega⟩, ⟨rfl, rfl⟩, rfl, rfl, rfl⟩, cond_of (fun c1 => ?_) (fun c1 => ?_)⟩
      · rintro ds2 lx tl ⟨⟨h1, h2⟩, rfl, rfl⟩
        have hn2 : (fdX ((fdX w pas).2.1 ++ b) pas).2.2 = none := by
          unfold fdO at c1
          cases h : (fdX ((fdX w pas).2.1 ++ b) pas).2.2 with
          | none => rfl
          | some p => rw [h] at c1; cases c1
        have hn3 : (fdX (w ++ b) pas).2.2 = none := by rw [hx]; exact hn2
        have hS2 := stW_none hn3
        unfold stO at hS2
        change VO.cells (stL pas _) = _ at hS2
        injection hS2 with hS2
        refine ⟨.nil, ⟨rfl, rfl, trivial⟩, .inl ⟨3, 0, _, _, (fdX (w ++ b) pas).2.1, rfl, rfl, ?_, ⟨by decide, ?_⟩, ?_⟩⟩
        · rw [show (fdX (w ++ b) pas).2.1 = (fdX ((fdX w pas).2.1 ++ b) pas).2.1 by rw [hx], ← h2]
          have q := h1.1
          have q2 : Nat.ble (0 + fdM ((fdX w pas).2.1 ++ b) pas) ds2.length = true := Nat.ble_eq_true_of_le q
          simp only [rowsR, List.getElem?_cons_zero, List.getElem?_cons_succ, Nat.beq_refl, q2, Bool.and_self, cond_true, Nat.zero_mul, Nat.mul_one, sbB]
        · rw [hS2]
          have : (((fdX w pas).1.length : Nat) : Int) + ((fdL ((fdX w pas).2.1 ++ b) pas).length : Nat) = (((fdX (w ++ b) pas).1.length : Nat) : Int) := by
            rw [hx]; simp only [List.length_append, fdL]; omega
          simp only [List.set_cons_zero, List.set_cons_succ, this]
        · unfold fdV
          rw [e1, fdT_none hn3]
          exact .tup ⟨xL_le (fdX_wf hab) _, .refl _, trivial⟩
      · rintro ds2 lx tl ⟨h1, rfl, rfl⟩
        obtain ⟨c, s, d, hn2⟩ : ∃ (c : Nat) (s : Int) (d : Bs), (fdX ((fdX w pas).2.1 ++ b) pas).2.2 = some (c, s, d) := by
          unfold fdO at c1
          cases h : (fdX ((fdX w pas).2.1 ++ b) pas).2.2 with
          | none => rw [h] at c1; cases c1
          | some p => exact ⟨_, _, _, rfl⟩
        have hn3 : (fdX (w ++ b) pas).2.2 = some (c, s, d) := by rw [hx]; exact hn2
        have hd := fdX_dt hab hn2
        have ec : fdC ((fdX w pas).2.1 ++ b) pas = c := by unfold fdC; rw [hn2]
        have es : fdU ((fdX w pas).2.1 ++ b) pas = s := by unfold fdU; rw [hn2]
        have ed : fdD ((fdX w pas).2.1 ++ b) pas = d := by unfold fdD; rw [hn2]
        have hS2 := stW_some hw hn3
        unfold stO at hS2
        change VO.cells (stL pas _) = _ at hS2
        injection hS2 with hS2
        rw [ec, es, ed]
        refine ⟨hd, ⟨rfl, rfl, trivial⟩, .inr ⟨_, rfl, ?_, ?_⟩⟩
        · rw [hS2]
          have : (((fdX w pas).1.length : Nat) : Int) + ((fdL ((fdX w pas).2.1 ++ b) pas).length : Nat) = (((fdX (w ++ b) pas).1.length : Nat) : Int) := by
            rw [hx]; simp only [List.length_append, fdL]; omega
          rw [this]
          exact ⟨.refl _, .refl _, .nil 1, .refl _, .refl _, .refl _, .refl _, trivial⟩
        · unfold fdV
          rw [e1, fdT_some hn3]
          refine .tup ⟨xL_le (fdX_wf hab) _, ?_, trivial⟩
          simp only [TV.ren, renL, hd.ren, Tok.ren]
          exact .refl _
end
end Go.Proofs.YtogbdjlelkepcaaGreatDoor
namespace Go.Proofs.YtogbdjlelkepcaaGreatDoor
open Go.RowKit

abbrev flF := 14
abbrev s3F := 97
abbrev s7F := 98
abbrev s8F := 53
abbrev s9F := 54
abbrev s11F := 30
def s3K : List Nat := [0, 1, 12, 13]
def s3V (l : Bs) (j : Int) : List TV := [.vec 2 l .none, .vec 2 l .none, .val (.int .i64 l.length), .val (.int .i64 j)]
def s3L (l : Bs) (c0 : Code) : Nat → Option (LSpec × Code) := specsL [(0, loopL 26 s3K [] (s3V l 0) ⟨[], []⟩ (fun K => K .normal (slotsN 26 s3K (s3V l l.length)) ⟨[], []⟩ []), c0)]
def s7O (o h m : Int) (hm : Bool) (x : Bs) : VO := .cells [.val (.int .i64 o), .vec 1 x .none, .val (.int .u32 h), .val (.int .i64 m), .val (.bool hm)]
def s7T (o h m : Int) (hm : Bool) (x : Bs) : TV := .agg [.val (.int .i64 o), .vec 1 x .none, .val (.int .u32 h), .val (.int .i64 m), .val (.bool hm)]
def s7K : List Nat := [2, 3, 43, 44]
def s7V (x : Bs) (j : Int) : List TV := [.ptr 0 0, .ptr 1 0, .val (.int .i64 x.length), .val (.int .i64 j)]
def s7Z (o h m : Int) (hm : Bool) (x : Bs) : VT := ⟨[s7O o h m hm x, s7O o h m hm x], []⟩
def s7L (o h m : Int) (hm : Bool) (x : Bs) (c0 : Code) : Nat → Option (LSpec × Code) := specsL [(0, loopL 59 s7K [] (s7V x 0) (s7Z o h m hm x) (fun K => K .normal (slotsN 59 s7K (s7V x x.length)) (s7Z o h m hm x) []), c0)]
def s8K : List Nat := [2, 3, 36, 37]
def s8Z (n h i : Int) (l : Bs) : VT := ⟨[.cells [.val (.int .i64 n), .val (.int .i64 h), .val (.int .u32 i), .vec 2 l .none], .cells [.val (.int .i64 n), .val (.int .i64 h), .val (.int .u32 i), .vec 2 l .none]], []⟩
def s8A (n h i : Int) (l : Bs) : TV := .agg [.val (.int .i64 n), .val (.int .i64 h), .val (.int .u32 i), .vec 2 l .none]
def s8V (l : Bs) (j : Int) : List TV := [.ptr 0 0, .ptr 1 0, .val (.int .i64 l.length), .val (.int .i64 j)]
def s8L (n h i : Int) (l : Bs) (c0 : Code) : Nat → Option (LSpec × Code) := specsL [(0, loopL 71 s8K [] (s8V l 0) (s8Z n h i l) (fun K => K .normal (slotsN 71 s8K (s8V l l.length)) (s8Z n h i l) []), c0)]
def s3W : Spec := fun _ ys T K => match ys with
 | [.vec 2 l _, .vec 2 l' _] => PxEq l l' ∧ K (.val (.bool true)) T
 | _ => vbad 83 default ys
def s7W : Spec := fun _ ys T K => match ys with
 | [.agg l, .agg l'] => AtEq l l' ∧ K (.val (.bool true)) T
 | _ => vbad 83 default ys
def s8W : Spec := fun _ ys T K => match ys with
 | [.agg l, .agg l'] => OpEq l l' ∧ K (.val (.bool true)) T
 | _ => vbad 83 default ys
def s9W : Spec := fun _ ys T K => match ys with
 | [.agg l, .agg l'] => UpEq l l' ∧ K (.val (.bool true)) T
 | _ => vbad 83 default ys
def flW : Spec := fun _ ys T K => match ys with
 | [.agg l, .agg l'] => FtEq l l' ∧ K (.val (.bool true)) T
 | _ => vbad 83 default ys
def plA (m : MsgS) (x : TV) : VO := .cells [.val (.int .i64 m.k), .val (.int .i64 m.op.n), .val (.int .i64 m.op.h), .val (.int .u32 m.op.i), x, .val (.slice none 0 0), .val (.int .i64 0), .val (.slice none 0 0), .val (.int .u32 0), .val (.int .i64 0), .val (.bool false), .val (.slice none 0 0), .val (.int .i64 m.c), .val (.int .i64 m.s), .vec 1 m.d .none]
def plN : TV := .val (.slice none 0 0)
theorem ev_fl (c s : Int) (d : Bs) (sb : ByteArray) (Q : TV → VT → Prop) : vcallF Tryz.prog noGl noSp (tellS [(20, .val (.string sb), some fun T => T), (23, .val (.string sb), some fun T => T)]) 300 noLp 0 flF [ftT c s d, ftT c s d] zz151 Q =
 (bif eqRes BinOp.eql (k6 c c)
 then (bif eqRes BinOp.eql (k6 s s)
 then (OTurn Tryz.prog (fun _ => .none) 0 (zz25 c s d c s d) (.convert 22 9 (.tmp 19)) [(19, (zz1 d))] (.val (.string sb)) (zz25 c s d c s d) ∧
 (OTurn Tryz.prog (fun _ => .none) 0 (zz25 c s d c s d) (.convert 22 9 (.tmp 22)) [(22, (zz1 d))] (.val (.string sb)) (zz25 c s d c s d) ∧
 Q (zz12 (eqRes BinOp.eql (keyEq (Value.string sb) (Value.string sb)))) (zz25 c s d c s d)))
 else Q zz8 (zz25 c s d c s d))
 else Q zz8 (zz25 c s d c s d)) := by kernel_rfl
theorem ev_s3 (l : Bs) (Q : TV → VT → Prop) : vcallF Tryz.prog noGl noSp noOra 300 (s3L l (codeAt Tryz.prog s3F 0)) 0 s3F [.vec 2 l .none, .vec 2 l .none] zz151 Q =
 (bif eqRes BinOp.neq (k6 (↑(List.length l) : Int) (↑(List.length l) : Int))
 then Q zz8 zz151
 else ((codeAt Tryz.prog s3F (0 : Nat) = codeAt Tryz.prog s3F (0 : Nat)) ∧
 (((@Eq (Option Nat) .none .none) ∧
 ((@Eq (Nat) 0 0) ∧
 ((@Eq (List Nat) [] []) ∧
 (True  ∧
 ((@Eq (VT) zz151 zz151) ∧
 ((@Eq (Bool) true true) ∧
 (@Eq (List TV) [(zz11 l), (zz11 l), (zz0 (↑(List.length l) : Int)), zz6] [(zz11 l), (zz11 l), (zz0 (↑(List.length l) : Int)), zz6]))))))) ∧
 Q zz27 zz151))) := by kernel_rfl
theorem ev_s3A (l : Bs) (j a n : Int) (Q : Exit → List TV → VT → List Nat → Nat → Prop) : vx Tryz.prog noGl noSp (tellS [(18, .elt [.val (.int .u32 a), .val (.int .i64 n)], none), (22, .elt [.val (.int .u32 a), .val (.int .i64 n)], none)]) 300 noLp none 0 (loopAt Tryz.prog s3F 0) (slotsN 26 s3K (s3V l j)) zz151 [] (pickS s3K Q) =
 (bif decide (j < (↑(List.length l) : Int))
 then (OPure Tryz.prog (fun _ => .none) (.indexAddr 58 (.tmp 16) (.tmp 17)) [(16, (zz11 l)), (17, (zz0 j))] (.elt [(zz4 a), (zz0 n)]) ∧
 (OPure Tryz.prog (fun _ => .none) (.indexAddr 58 (.tmp 20) (.tmp 21)) [(20, (zz11 l)), (21, (zz0 j))] (.elt [(zz4 a), (zz0 n)]) ∧
 (bif eqRes BinOp.neq (keyEq ((fun vs => Value.agg (List.toArray vs)) ((fun x => Value.int IntKind.u32 a :: x) ((fun x => Value.int IntKind.i64 n :: x) []))) ((fun vs => Value.agg (List.toArray vs)) ((fun x => Value.int IntKind.u32 a :: x) ((fun x => Value.int IntKind.i64 n :: x) []))))
 then Q .ret [(zz11 l), (zz11 l), (zz0 (↑(List.length l) : Int)), (zz0 j)] zz151 [] 26
 else Q .normal [(zz11 l), (zz11 l), (zz0 (↑(List.length l) : Int)), (zz0 (IntKind.wrap IntKind.i64 (j + (1 : Int))))] zz151 [] 26)))
 else Q (.exit 0) [(zz11 l), (zz11 l), (zz0 (↑(List.length l) : Int)), (zz0 j)] zz151 [] 26) := by kernel_rfl
theorem ev_s7 (o h m : Int) (hm : Bool) (x : Bs) (Q : TV → VT → Prop) : vcallF Tryz.prog noGl noSp noOra 300 (s7L o h m hm x (codeAt Tryz.prog s7F 0)) 0 s7F [s7T o h m hm x, s7T o h m hm x] zz151 Q =
 (bif eqRes BinOp.neq (k6 o o)
 then Q zz8 (zz24 o x h m hm o x h m hm)
 else (bif eqRes BinOp.neq (keyEq (Value.int IntKind.u32 h) (Value.int IntKind.u32 h))
 then Q zz8 (zz24 o x h m hm o x h m hm)
 else (bif eqRes BinOp.neq (k6 m m)
 then Q zz8 (zz24 o x h m hm o x h m hm)
 else (bif eqRes BinOp.neq (keyEq (Value.bool hm) (Value.bool hm))
 then Q zz8 (zz24 o x h m hm o x h m hm)
 else (bif eqRes BinOp.neq (k6 (↑(List.length x) : Int) (↑(List.length x) : Int))
 then Q zz8 (zz24 o x h m hm o x h m hm)
 else ((codeAt Tryz.prog s7F (0 : Nat) = codeAt Tryz.prog s7F (0 : Nat)) ∧
 (((@Eq (Option Nat) .none .none) ∧
 ((@Eq (Nat) 0 0) ∧
 ((@Eq (List Nat) [] []) ∧
 (True  ∧
 ((@Eq (VT) (zz24 o x h m hm o x h m hm) (zz24 o x h m hm o x h m hm)) ∧
 ((@Eq (Bool) true true) ∧
 (@Eq (List TV) (zz22 (↑(List.length x) : Int)) (zz22 (↑(List.length x) : Int))))))))) ∧
 Q zz27 (zz24 o x h m hm o x h m hm)))))))) := by kernel_rfl
theorem ev_s7A (o h m : Int) (hm : Bool) (x : Bs) (j a : Int) (Q : Exit → List TV → VT → List Nat → Nat → Prop) : vx Tryz.prog noGl noSp (tellS [(50, .elt [.val (.int .i64 a)], none), (55, .elt [.val (.int .i64 a)], none)]) 300 noLp none 0 (loopAt Tryz.prog s7F 0) (slotsN 59 s7K (s7V x j)) (s7Z o h m hm x) [] (pickS s7K Q) =
 (bif decide (j < (↑(List.length x) : Int))
 then (OPure Tryz.prog (fun _ => .none) (.indexAddr 59 (.tmp 48) (.tmp 49)) [(48, (zz1 x)), (49, (zz0 j))] (.elt [(zz0 a)]) ∧
 (OPure Tryz.prog (fun _ => .none) (.indexAddr 59 (.tmp 53) (.tmp 54)) [(53, (zz1 x)), (54, (zz0 j))] (.elt [(zz0 a)]) ∧
 (bif eqRes BinOp.neq (k6 a a)
 then Q .ret (zz21 (↑(List.length x) : Int) j) (zz24 o x h m hm o x h m hm) [] 59
 else Q .normal (zz21 (↑(List.length x) : Int) (IntKind.wrap IntKind.i64 (j + (1 : Int)))) (zz24 o x h m hm o x h m hm) [] 59)))
 else Q (.exit 0) (zz21 (↑(List.length x) : Int) j) (zz24 o x h m hm o x h m hm) [] 59) := by kernel_rfl
theorem ev_s8 (n h i : Int) (l : Bs) (Q : TV → VT → Prop) : vcallF Tryz.prog noGl noSp noOra 300 (s8L n h i l (codeAt Tryz.prog s8F 0)) 0 s8F [s8A n h i l, s8A n h i l] zz151 Q =
 (bif eqRes BinOp.neq (k6 n n)
 then Q zz8 (zz18 n h i l n h i l)
 else (bif eqRes BinOp.neq (k6 h h)
 then Q zz8 (zz18 n h i l n h i l)
 else (bif eqRes BinOp.neq (keyEq (Value.int IntKind.u32 i) (Value.int IntKind.u32 i))
 then Q zz8 (zz18 n h i l n h i l)
 else (bif eqRes BinOp.neq (k6 (↑(List.length l) : Int) (↑(List.length l) : Int))
 then Q zz8 (zz18 n h i l n h i l)
 else ((codeAt Tryz.prog s8F (0 : Nat) = codeAt Tryz.prog s8F (0 : Nat)) ∧
 (((@Eq (Option Nat) .none .none) ∧
 ((@Eq (Nat) 0 0) ∧
 ((@Eq (List Nat) [] []) ∧
 (True  ∧
 ((@Eq (VT) (zz18 n h i l n h i l) (zz18 n h i l n h i l)) ∧
 ((@Eq (Bool) true true) ∧
 (@Eq (List TV) (zz22 (↑(List.length l) : Int)) (zz22 (↑(List.length l) : Int))))))))) ∧
 Q zz27 (zz18 n h i l n h i l))))))) := by kernel_rfl
theorem ev_s8A (n h i : Int) (l : Bs) (j c : Int) (v : Bs) (sb : ByteArray) (Q : Exit → List TV → VT → List Nat → Nat → Prop) : vx Tryz.prog noGl noSp (tellS [(43, .elt [.val (.int .i64 c), .vec 1 v .none], none), (49, .elt [.val (.int .i64 c), .vec 1 v .none], none), (57, .elt [.val (.int .i64 c), .vec 1 v .none], none), (64, .elt [.val (.int .i64 c), .vec 1 v .none], none), (60, .val (.string sb), none), (67, .val (.string sb), none)]) 300 noLp none 0 (loopAt Tryz.prog s8F 0) (slotsN 71 s8K (s8V l j)) (s8Z n h i l) [] (pickS s8K Q) =
 (bif decide (j < (↑(List.length l) : Int))
 then (OPure Tryz.prog (fun _ => .none) (.indexAddr 68 (.tmp 41) (.tmp 42)) [(41, (zz11 l)), (42, (zz0 j))] (zz16 c v) ∧
 (OPure Tryz.prog (fun _ => .none) (.indexAddr 68 (.tmp 47) (.tmp 48)) [(47, (zz11 l)), (48, (zz0 j))] (zz16 c v) ∧
 (bif eqRes BinOp.neq (k6 c c)
 then Q .ret (zz21 (↑(List.length l) : Int) j) (zz18 n h i l n h i l) [] 71
 else (OPure Tryz.prog (fun _ => .none) (.indexAddr 68 (.tmp 55) (.tmp 56)) [(55, (zz11 l)), (56, (zz0 j))] (zz16 c v) ∧
 (OConv Tryz.prog (zz18 n h i l n h i l) 22 9 (zz1 v) (.val (.string sb)) ∧
 (OPure Tryz.prog (fun _ => .none) (.indexAddr 68 (.tmp 62) (.tmp 63)) [(62, (zz11 l)), (63, (zz0 j))] (zz16 c v) ∧
 (OConv Tryz.prog (zz18 n h i l n h i l) 22 9 (zz1 v) (.val (.string sb)) ∧
 (bif eqRes BinOp.neq (keyEq (Value.string sb) (Value.string sb))
 then Q .ret (zz21 (↑(List.length l) : Int) j) (zz18 n h i l n h i l) [] 71
 else Q .normal (zz21 (↑(List.length l) : Int) (IntKind.wrap IntKind.i64 (j + (1 : Int)))) (zz18 n h i l n h i l) [] 71))))))))
 else Q (.exit 0) (zz21 (↑(List.length l) : Int) j) (zz18 n h i l n h i l) [] 71) := by kernel_rfl
abbrev zzy36 (u : UpS) : VO := (zz93 (UpS.w u) (UpS.o u) (UpS.x u) (UpS.h u) (UpS.m u) (UpS.hm u) (UpS.n u))
theorem ev_s9 (u : UpS) (Q : TV → VT → Prop) : vcallF Tryz.prog noGl (specs [(s3F, s3W), (s7F, s7W)]) noOra 300 noLp 0 s9F [.agg u.cells, .agg u.cells] zz151 Q =
 (PxEq (UpS.w u) (UpS.w u) ∧
 (PxEq (UpS.n u) (UpS.n u) ∧
 (AtEq [(zz0 (UpS.o u)), (zz1 (UpS.x u)), (zz4 (UpS.h u)), (zz0 (UpS.m u)), (zz12 (UpS.hm u))] [(zz0 (UpS.o u)), (zz1 (UpS.x u)), (zz4 (UpS.h u)), (zz0 (UpS.m u)), (zz12 (UpS.hm u))] ∧
 Q zz27 ⟨[(zzy36 u), (zzy36 u)], []⟩))) := by kernel_rfl
abbrev zzy37 (m : MsgS) : VO := (zz26 (MsgS.k m) (OpS.n (MsgS.op m)) (OpS.h (MsgS.op m)) (OpS.i (MsgS.op m)) (OpS.l (MsgS.op m)) (UpS.w (MsgS.u m)) (UpS.o (MsgS.u m)) (UpS.x (MsgS.u m)) (UpS.h (MsgS.u m)) (UpS.m (MsgS.u m)) (UpS.hm (MsgS.u m)) (UpS.n (MsgS.u m)) (MsgS.c m) (MsgS.s m) (MsgS.d m))
theorem ev_s11 (m : MsgS) (Q : TV → VT → Prop) : vcallF Tryz.prog noGl (specs [(s8F, s8W), (s9F, s9W), (flF, flW)]) noOra 300 noLp 0 s11F [.agg m.cells, .agg m.cells] zz151 Q =
 (bif eqRes BinOp.eql (k6 (MsgS.k m) (MsgS.k m))
 then (OpEq [(zz0 (OpS.n (MsgS.op m))), (zz0 (OpS.h (MsgS.op m))), (zz4 (OpS.i (MsgS.op m))), (zz11 (OpS.l (MsgS.op m)))] [(zz0 (OpS.n (MsgS.op m))), (zz0 (OpS.h (MsgS.op m))), (zz4 (OpS.i (MsgS.op m))), (zz11 (OpS.l (MsgS.op m)))] ∧
 (UpEq [(zz11 (UpS.w (MsgS.u m))), (zz0 (UpS.o (MsgS.u m))), (zz1 (UpS.x (MsgS.u m))), (zz4 (UpS.h (MsgS.u m))), (zz0 (UpS.m (MsgS.u m))), (zz12 (UpS.hm (MsgS.u m))), (zz11 (UpS.n (MsgS.u m)))] [(zz11 (UpS.w (MsgS.u m))), (zz0 (UpS.o (MsgS.u m))), (zz1 (UpS.x (MsgS.u m))), (zz4 (UpS.h (MsgS.u m))), (zz0 (UpS.m (MsgS.u m))), (zz12 (UpS.hm (MsgS.u m))), (zz11 (UpS.n (MsgS.u m)))] ∧
 (FtEq (zz15 (MsgS.c m) (MsgS.s m) (MsgS.d m)) (zz15 (MsgS.c m) (MsgS.s m) (MsgS.d m)) ∧
 Q zz27 ⟨[(zzy37 m), (zzy37 m)], []⟩)))
 else Q zz8 ⟨[(zzy37 m), (zzy37 m)], []⟩) := by kernel_rfl
end Go.Proofs.YtogbdjlelkepcaaGreatDoor
namespace Go.Proofs.YtogbdjlelkepcaaGreatDoor
open Go.RowKit

theorem conv_ok {d : Bs} (hd : IsB d) (T : VT) : vconvS Tryz.prog T 22 9 (.vec 1 d .none) = some (.val (.string (strB d))) := by
 obtain ⟨⟨l, rfl, _⟩, _⟩ := hd
 have hr : rowsR T 1 (.vec 1 (bV l) .none) = some (bV l) := by simp [rowsR]
 simp only [vconvS, Tryz.underlying22, Tryz.underlying9, Tryz.underlying5, hr, bytesOf_bV, Option.map_some, strB, Option.getD_some]
theorem oconv_ok {d : Bs} (hd : IsB d) (T : VT) : OConv Tryz.prog T 22 9 (.vec 1 d .none) (.val (.string (strB d))) := .mk rfl (conv_ok hd T)
theorem oturn_conv {ro : Nat} {T : VT} {a : Operand} {l : List (Nat × TV)} {d : Bs} (hd : IsB d) (ha : evOf noGl l a = .vec 1 d .none) : OTurn Tryz.prog noGl ro T (.convert 22 9 a) l (.val (.string (strB d))) T := by
 refine .mk ?_
 have h1 : vpure2 Tryz.prog (.convert 22 9 a) (evOf noGl l) = none := by simp [vpure2, vpure, ha, toVal]
 have h2 : vread2 Tryz.prog T (.convert 22 9 a) (evOf noGl l) = some (.val (.string (strB d))) := by simp only [vread2, ha, conv_ok hd]
 simp only [vopA, h1, h2]
theorem fl_vcx (c s : Int) {d : Bs} (hd : IsB d) : VCx Tryz.prog noGl 0 flF [ftT c s d, ftT c s d] ⟨[], []⟩ fun x T' => x = .val (.bool true) ∧ T' = ⟨[], []⟩ := by
 refine VCx.keepQ 0 0 (Nat.le_refl _) (Nat.le_refl _) (vcallF_is mixedB_Tryz bodiesB_Tryz specsOk_none lsOk_none (ev_fl c s d (strB d) _) ?_)
 refine condT (eqSelf _ _) (condT (eqSelf _ _) ⟨oturn_conv hd rfl, oturn_conv hd rfl, ?_, rfl⟩)
 rw [eqSq]; rfl
theorem opure_px {x i : Operand} {l : List (Nat × TV)} {es : Bs} {tok : Tok} {k : IntKind} {z : Int} {cs : List TV} (hx : evOf noGl l x = .vec 2 es tok) (hz : evOf noGl l i = .val (.int k z)) (h0 : 0 ≤ z) (he : es[z.toNat]? = some cs) : OPure Tryz.prog noGl (.indexAddr 58 x i) l (.elt cs) := by
 obtain ⟨inf, i1, i2, i3, i4⟩ := apInf_ex
 exact opure_index (inf := inf) Tryz.underlying58 i1 (by rw [i2]; exact hx) hz h0 he
theorem s3_loop {l : Bs} (hl : PxWf l) : LsOk Tryz.prog noGl (s3L l (codeAt Tryz.prog s3F 0)) := specsL_ok fun p hp => by
  obtain rfl := List.mem_singleton.1 hp
  obtain ⟨ps, rfl, hn⟩ := hl
  refine loopL_ok fun K hK => cntLoop (f := s3F) (id := 0) (by kernel_rfl) 26 s3K (s3V (ps.map pxE)) ⟨[], []⟩ ps.length (fun e vs T => e = .normal ∧ vs = s3V (ps.map pxE) (ps.map pxE).length ∧ T = ⟨[], []⟩) (fun j hj => ?_) K (fun e vs T ⟨h1, h2, h3⟩ => by subst h1 h2 h3; exact hK)
  by_cases hlt : j < ps.length
  · have hat : (ps.map pxE)[((j : Nat) : Int).toNat]? = some (pxE ps[j]) := by rw [Int.toNat_natCast, List.getElem?_map, List.getElem?_eq_getElem hlt]; rfl
    refine vx_is mixedB_Tryz bodiesB_Tryz specsOk_none lsOk_none (ev_s3A (ps.map pxE) j ps[j].1 ps[j].2 _) ?_
    refine condT (decide_eq_true (by rw [List.length_map]; omega)) ⟨opure_px rfl rfl (by omega) hat, opure_px rfl rfl (by omega) hat, condF (neAgg [.int .u32 ps[j].1, .int .i64 ps[j].2] (fun v hv => by simp only [List.mem_cons, List.not_mem_nil, or_false] at hv; rcases hv with rfl | rfl <;> exact cellEq_int _ _)) ?_⟩
    exact ⟨rfl, rfl, hlt, .inl ⟨rfl, by rw [wrapC hlt hn]; rfl⟩⟩
  · have hj2 : j = ps.length := by omega
    refine vx_is mixedB_Tryz bodiesB_Tryz specsOk_none lsOk_none (ev_s3A (ps.map pxE) j 0 0 _) ?_
    exact condF (decide_eq_false (by rw [List.length_map]; omega)) ⟨rfl, rfl, rfl, by rw [hj2]; simp only [s3V, List.length_map], rfl⟩
theorem s3_vcx {l : Bs} (hl : PxWf l) : VCx Tryz.prog noGl 0 s3F [.vec 2 l .none, .vec 2 l .none] ⟨[], []⟩ fun x T' => x = .val (.bool true) ∧ T' = ⟨[], []⟩ := by
 refine VCx.keepQ 0 0 (Nat.le_refl _) (Nat.le_refl _) (vcallF_is mixedB_Tryz bodiesB_Tryz specsOk_none (s3_loop hl) (ev_s3 l _) ?_)
 exact condF (neSelf _ _) ⟨rfl, ⟨rfl, rfl, rfl, trivial, rfl, rfl, rfl⟩, rfl, rfl⟩
theorem s7_loop (o h m : Int) (hm : Bool) {x : Bs} (hx : IvWf x) : LsOk Tryz.prog noGl (s7L o h m hm x (codeAt Tryz.prog s7F 0)) := specsL_ok fun p hp => by
  obtain rfl := List.mem_singleton.1 hp
  obtain ⟨ps, rfl, hn⟩ := hx
  refine loopL_ok fun K hK => cntLoop (f := s7F) (id := 0) (by kernel_rfl) 59 s7K (s7V (iV ps)) (s7Z o h m hm (iV ps)) ps.length (fun e vs T => e = .normal ∧ vs = s7V (iV ps) (iV ps).length ∧ T = s7Z o h m hm (iV ps)) (fun j hj => ?_) K (fun e vs T ⟨h1, h2, h3⟩ => by subst h1 h2 h3; exact hK)
  by_cases hlt : j < ps.length
  · have hat : (iV ps)[((j : Nat) : Int).toNat]? = some (iT ps[j]) := by rw [Int.toNat_natCast, iV, List.getElem?_map, List.getElem?_eq_getElem hlt]; rfl
    refine vx_is mixedB_Tryz bodiesB_Tryz specsOk_none lsOk_none (ev_s7A o h m hm (iV ps) j ps[j] _) ?_
    refine condT (decide_eq_true (by rw [iV_len]; omega)) ⟨opure_in rfl rfl (by omega) hat, opure_in rfl rfl (by omega) hat, condF (neSelf _ _) ?_⟩
    exact ⟨rfl, rfl, hlt, .inl ⟨rfl, by rw [wrapC hlt hn]; rfl⟩⟩
  · have hj2 : j = ps.length := by omega
    refine vx_is mixedB_Tryz bodiesB_Tryz specsOk_none lsOk_none (ev_s7A o h m hm (iV ps) j 0 _) ?_
    exact condF (decide_eq_false (by rw [iV_len]; omega)) ⟨rfl, rfl, rfl, by rw [hj2]; simp only [s7V, iV_len], rfl⟩
theorem s7_vcx (o h m : Int) (hm : Bool) {x : Bs} (hx : IvWf x) : VCx Tryz.prog noGl 0 s7F [s7T o h m hm x, s7T o h m hm x] ⟨[], []⟩ fun y T' => y = .val (.bool true) ∧ T' = ⟨[], []⟩ := by
 refine VCx.keepQ 0 0 (Nat.le_refl _) (Nat.le_refl _) (vcallF_is mixedB_Tryz bodiesB_Tryz specsOk_none (s7_loop o h m hm hx) (ev_s7 o h m hm x _) ?_)
 exact condF (neSelf _ _) (condF (neSelf _ _) (condF (neSelf _ _) (condF (neSelfB _) (condF (neSelf _ _) ⟨rfl, ⟨rfl, rfl, rfl, trivial, rfl, rfl, rfl⟩, rfl, rfl⟩))))
theorem q8Inf_ex : ∃ inf : TypeInfo, Tryz.prog.info? 102 = some inf ∧ inf.size = 2 ∧ inf.bytes + 1 ≤ 1000 ∧ inf.zero = some (.agg #[.int .i64 0, .slice none 0 0]) :=
 ⟨(Tryz.prog.info? 102).getD default, by kernel_rfl, by kernel_rfl, Nat.le_of_ble_eq_true (by kernel_rfl), by kernel_rfl⟩
theorem opure_q8 {x i : Operand} {l : List (Nat × TV)} {es : Bs} {tok : Tok} {k : IntKind} {z : Int} {cs : List TV} (hx : evOf noGl l x = .vec 2 es tok) (hz : evOf noGl l i = .val (.int k z)) (h0 : 0 ≤ z) (he : es[z.toNat]? = some cs) : OPure Tryz.prog noGl (.indexAddr 68 x i) l (.elt cs) := by
 obtain ⟨inf, i1, i2, i3, i4⟩ := q8Inf_ex
 exact opure_index (inf := inf) Tryz.underlying68 i1 (by rw [i2]; exact hx) hz h0 he
theorem opure_oc {x i : Operand} {l : List (Nat × TV)} {es : Bs} {tok : Tok} {k : IntKind} {z : Int} {cs : List TV} (hx : evOf noGl l x = .vec 2 es tok) (hz : evOf noGl l i = .val (.int k z)) (h0 : 0 ≤ z) (he : es[z.toNat]? = some cs) : OPure Tryz.prog noGl (.indexAddr 55 x i) l (.elt cs) := by
 obtain ⟨inf, i1, i2, i3, i4⟩ := cpInf_ex
 exact opure_index (inf := inf) Tryz.underlying55 i1 (by rw [i2]; exact hx) hz h0 he
theorem s8_loop (n h i : Int) {l : Bs} (hl : CpWf l) : LsOk Tryz.prog noGl (s8L n h i l (codeAt Tryz.prog s8F 0)) := specsL_ok fun p hp => by
  obtain rfl := List.mem_singleton.1 hp
  obtain ⟨ps, rfl, hB, hn⟩ := hl
  refine loopL_ok fun K hK => cntLoop (f := s8F) (id := 0) (by kernel_rfl) 71 s8K (s8V (ps.map cpE)) (s8Z n h i (ps.map cpE)) ps.length (fun e vs T => e = .normal ∧ vs = s8V (ps.map cpE) (ps.map cpE).length ∧ T = s8Z n h i (ps.map cpE)) (fun j hj => ?_) K (fun e vs T ⟨h1, h2, h3⟩ => by subst h1 h2 h3; exact hK)
  by_cases hlt : j < ps.length
  · have hat : (ps.map cpE)[((j : Nat) : Int).toNat]? = some (cpE ps[j]) := by rw [Int.toNat_natCast, List.getElem?_map, List.getElem?_eq_getElem hlt]; rfl
    have hv : IsB ps[j].2 := hB _ (List.getElem_mem hlt)
    refine vx_is mixedB_Tryz bodiesB_Tryz specsOk_none lsOk_none (ev_s8A n h i (ps.map cpE) j ps[j].1 ps[j].2 (strB ps[j].2) _) ?_
    refine condT (decide_eq_true (by rw [List.length_map]; omega)) ⟨opure_q8 rfl rfl (by omega) hat, opure_q8 rfl rfl (by omega) hat, condF (neSelf _ _) ⟨opure_q8 rfl rfl (by omega) hat, oconv_ok hv _, opure_q8 rfl rfl (by omega) hat, oconv_ok hv _, condF (neSq _) ?_⟩⟩
    exact ⟨rfl, rfl, hlt, .inl ⟨rfl, by rw [wrapC hlt hn]; rfl⟩⟩
  · have hj2 : j = ps.length := by omega
    refine vx_is mixedB_Tryz bodiesB_Tryz specsOk_none lsOk_none (ev_s8A n h i (ps.map cpE) j 0 [] (strB []) _) ?_
    exact condF (decide_eq_false (by rw [List.length_map]; omega)) ⟨rfl, rfl, rfl, by rw [hj2]; simp only [s8V, List.length_map], rfl⟩
theorem s8_vcx {o : OpS} (ho : OpWf o) : VCx Tryz.prog noGl 0 s8F [.agg o.cells, .agg o.cells] ⟨[], []⟩ fun y T' => y = .val (.bool true) ∧ T' = ⟨[], []⟩ := by
 refine VCx.keepQ 0 0 (Nat.le_refl _) (Nat.le_refl _) (vcallF_is mixedB_Tryz bodiesB_Tryz specsOk_none (s8_loop o.n o.h o.i ho) (ev_s8 o.n o.h o.i o.l _) ?_)
 exact condF (neSelf _ _) (condF (neSelf _ _) (condF (neSelf _ _) (condF (neSelf _ _) ⟨rfl, ⟨rfl, rfl, rfl, trivial, rfl, rfl, rfl⟩, rfl, rfl⟩)))
theorem s3W_ok {G : Globs} (hG : GVals G) : ∀ ro ys T K, s3W ro ys T K → VCx Tryz.prog G ro s3F ys T K := by
 intro ro ys T K hw
 unfold s3W at hw
 split at hw
 ·rename_i l tok l' tok'
  obtain ⟨⟨rfl, hl⟩, hk⟩ := hw
  exact VCx.loosePure hG (VCx.anyG (s3_vcx hl)) (by simp [looseTV]) (by simp [renL, TV.ren, hl.ren, Tok.ren]) (fun _ _ => rfl) hk
 ·exact hw.elim
theorem s7W_ok {G : Globs} (hG : GVals G) : ∀ ro ys T K, s7W ro ys T K → VCx Tryz.prog G ro s7F ys T K := by
 intro ro ys T K hw
 unfold s7W at hw
 split at hw
 ·obtain ⟨⟨rfl, o, h, m, hm, x, hx, rfl⟩, hk⟩ := hw
  exact VCx.liftPure hG (VCx.anyG (s7_vcx o h m hm hx)) (by simp [renL, TV.ren, hx.ren, Tok.ren, s7T]) (fun _ _ => rfl) hk
 ·exact hw.elim
theorem s8W_ok {G : Globs} (hG : GVals G) : ∀ ro ys T K, s8W ro ys T K → VCx Tryz.prog G ro s8F ys T K := by
 intro ro ys T K hw
 unfold s8W at hw
 split at hw
 ·obtain ⟨⟨rfl, o, ho, rfl⟩, hk⟩ := hw
  exact VCx.liftPure hG (VCx.anyG (s8_vcx ho)) (by simp [renL, TV.ren, ho.ren]) (fun _ _ => rfl) hk
 ·exact hw.elim
theorem flW_ok {G : Globs} (hG : GVals G) : ∀ ro ys T K, flW ro ys T K → VCx Tryz.prog G ro flF ys T K := by
 intro ro ys T K hw
 unfold flW at hw
 split at hw
 ·obtain ⟨⟨rfl, c, s, d, hd, rfl⟩, hk⟩ := hw
  exact VCx.liftPure hG (VCx.anyG (fl_vcx c s hd)) (by simp [renL, TV.ren, hd.ren, Tok.ren, ftT]) (fun _ _ => rfl) hk
 ·exact hw.elim
theorem s9_vcx {u : UpS} (hu : UpWf u) : VCx Tryz.prog noGl 0 s9F [.agg u.cells, .agg u.cells] ⟨[], []⟩ fun y T' => y = .val (.bool true) ∧ T' = ⟨[], []⟩ := by
 have hS : SpecsOk Tryz.prog noGl (specs [(s3F, s3W), (s7F, s7W)]) := specs_ok fun p hp => by
  rcases List.mem_cons.1 hp with rfl | hp; exact s3W_ok gvals_noGl
  obtain rfl := List.mem_singleton.1 hp; exact s7W_ok gvals_noGl
 refine VCx.keepQ 0 0 (Nat.le_refl _) (Nat.le_refl _) (vcallF_is mixedB_Tryz bodiesB_Tryz hS lsOk_none (ev_s9 u _) ?_)
 exact ⟨⟨rfl, hu.1⟩, ⟨rfl, hu.2.1⟩, ⟨rfl, _, _, _, _, _, hu.2.2, rfl⟩, rfl, rfl⟩
theorem s9W_ok {G : Globs} (hG : GVals G) : ∀ ro ys T K, s9W ro ys T K → VCx Tryz.prog G ro s9F ys T K := by
 intro ro ys T K hw
 unfold s9W at hw
 split at hw
 ·obtain ⟨⟨rfl, u, hu, rfl⟩, hk⟩ := hw
  exact VCx.liftPure hG (VCx.anyG (s9_vcx hu)) (by simp [renL, TV.ren, hu.ren]) (fun _ _ => rfl) hk
 ·exact hw.elim
theorem s11_vcx {m : MsgS} (hm : MsWf m) : VCx Tryz.prog noGl 0 s11F [.agg m.cells, .agg m.cells] ⟨[], []⟩ fun y T' => y = .val (.bool true) ∧ T' = ⟨[], []⟩ := by
 have hS : SpecsOk Tryz.prog noGl (specs [(s8F, s8W), (s9F, s9W), (flF, flW)]) := specs_ok fun p hp => by
  rcases List.mem_cons.1 hp with rfl | hp; exact s8W_ok gvals_noGl
  rcases List.mem_cons.1 hp with rfl | hp; exact s9W_ok gvals_noGl
  obtain rfl := List.mem_singleton.1 hp; exact flW_ok gvals_noGl
 refine VCx.keepQ 0 0 (Nat.le_refl _) (Nat.le_refl _) (vcallF_is mixedB_Tryz bodiesB_Tryz hS lsOk_none (ev_s11 m _) ?_)
 exact condT (eqSelf _ _) ⟨⟨rfl, m.op, hm.1, rfl⟩, ⟨rfl, m.u, hm.2.1, rfl⟩, ⟨rfl, _, _, _, hm.2.2, rfl⟩, rfl, rfl⟩
theorem oturn_q8 {ro : Nat} {T T1 : VT} {s x : Operand} {l : List (Nat × TV)} {es es2 : List (List TV)} {k n : Nat} {bn : Bool} (hs : vadopt T 2 (evOf noGl l s) = some (es, k, n, bn, T1)) (hx : srcOf 2 (evOf noGl l x) = some es2) (hb : es.length + es2.length ≤ 2000001) :
    OTurn Tryz.prog noGl ro T (.call ⟨.builtin .append, #[s, x], #[68, 68]⟩) l (.vec 2 (es ++ es2) (.tail k (n + es2.length))) { T1 with tails := T1.tails.set k (n + es2.length, 2, bn) } := by
  obtain ⟨inf, i1, i2, i3, i4⟩ := q8Inf_ex
  have h := oturn_app (inf := inf) (P := Tryz.prog) (G := noGl) (ro := ro) (T := T) (T1 := T1) (t := 68) (tx := 68) (s := s) (x := x) (l := l) (es := es) (es2 := es2) (k := k) (n := n) (bn := bn) Tryz.underlying68 i1 i4 (by rw [i2]; rfl) (by rw [i2]; decide) (by kernel_rfl) (by rw [i2]; exact hs) (by rw [i2]; exact hx)
    (by have h1 := i3
        have h2 := Nat.mul_le_mul hb h1
        omega)
  rw [i2] at h
  exact h
end Go.Proofs.YtogbdjlelkepcaaGreatDoor
namespace Go.Proofs.YtogbdjlelkepcaaGreatDoor
open Go.RowKit

def s11V : Spec := fun _ ys T K => match ys with
 | [.agg l, .agg l'] => MsEq l l' ∧ K (.val (.bool true)) T
 | _ => vbad 83 default ys
abbrev saF := 12
abbrev p2F := 13
def saKs : List Nat := [0, 1, 12, 13]
def saVs (l : Bs) (j : Int) : List TV := [.vec 15 l .none, .vec 15 l .none, .val (.int .i64 l.length), .val (.int .i64 j)]
def saLs (l : Bs) (c0 : Code) : Nat → Option (LSpec × Code) := specsL [(0, loopL 27 saKs [] (saVs l 0) ⟨[], []⟩ (fun K => K .normal (slotsN 27 saKs (saVs l l.length)) ⟨[], []⟩ []), c0)]
def p2Ks : List Nat := [3, 9, 10, 11]
def p2Vs (l A : Bs) (n : Nat) (j : Int) : List TV := [.vec 15 A (.tail 0 n), .vec 15 l .none, .val (.int .i64 l.length), .val (.int .i64 j)]
def p2Ls (l A : Bs) (c0 : Code) : Nat → Option (LSpec × Code) := specsL [(0, loopL 65 p2Ks [(3, 15)] (p2Vs l [] 0 0) ⟨[], [(0, 15, true)]⟩ (fun K => K .normal (slotsN 65 p2Ks (p2Vs l A l.length l.length)) ⟨[], [(l.length, 15, true)]⟩ []), c0)]
def p2Js : List Nat := [3, 5, 6, 9, 10, 11, 33, 34, 35]
def p2Us (l A : Bs) (n : Nat) (j : Int) (c : Bs) (i : Int) : List TV := [.vec 15 A (.tail 0 n), .ptr 0 0, .ptr 1 0, .vec 15 l .none, .val (.int .i64 l.length), .val (.int .i64 j), .vec 2 c .none, .val (.int .i64 c.length), .val (.int .i64 i)]
def p2Rs (m : MsgS) (l A : Bs) (n : Nat) (j : Int) (ln : Bool) (K : KX) : Prop := bif ln then K .normal (slotsN 65 p2Js (p2Us l A n j m.op.l m.op.l.length)) ⟨[.cells m.cells, plA m plN], [(n, 15, true)]⟩ [] else K .normal (slotsN 65 p2Js (p2Us l A n j m.op.l m.op.l.length)) ⟨[.cells m.cells, plA m (.vec 2 m.op.l (.tail 1 m.op.l.length))], [(n, 15, true), (m.op.l.length, 2, true)]⟩ []
def p2Is (m : MsgS) (l A : Bs) (n : Nat) (j : Int) (ln : Bool) (c0 : Code) : Nat → Option (LSpec × Code) := specsL [(2, loopL 65 p2Js [] (p2Us l A n j m.op.l 0) ⟨[.cells m.cells, plA m plN], [(n, 15, true)]⟩ (p2Rs m l A n j ln), c0)]
theorem ev_sa (l : Bs) (Q : TV → VT → Prop) : vcallF Tryz.prog noGl noSp noOra 300 (saLs l (codeAt Tryz.prog saF 0)) 0 saF [.vec 15 l .none, .vec 15 l .none] zz151 Q =
 (bif eqRes BinOp.neq (k6 (↑(List.length l) : Int) (↑(List.length l) : Int))
 then Q zz8 zz151
 else ((codeAt Tryz.prog saF (0 : Nat) = codeAt Tryz.prog saF (0 : Nat)) ∧
 (((@Eq (Option Nat) .none .none) ∧
 ((@Eq (Nat) 0 0) ∧
 ((@Eq (List Nat) [] []) ∧
 (True  ∧
 ((@Eq (VT) zz151 zz151) ∧
 ((@Eq (Bool) true true) ∧
 (@Eq (List TV) [(zz14 l), (zz14 l), (zz0 (↑(List.length l) : Int)), zz6] [(zz14 l), (zz14 l), (zz0 (↑(List.length l) : Int)), zz6]))))))) ∧
 Q zz27 zz151))) := by kernel_rfl
abbrev zzy38 (m : MsgS) : TV := (zz13 (MsgS.k m) (OpS.n (MsgS.op m)) (OpS.h (MsgS.op m)) (OpS.i (MsgS.op m)) (OpS.l (MsgS.op m)) (UpS.w (MsgS.u m)) (UpS.o (MsgS.u m)) (UpS.x (MsgS.u m)) (UpS.h (MsgS.u m)) (UpS.m (MsgS.u m)) (UpS.hm (MsgS.u m)) (UpS.n (MsgS.u m)) (MsgS.c m) (MsgS.s m) (MsgS.d m))
theorem ev_saA (l : Bs) (j : Int) (m : MsgS) (Q : Exit → List TV → VT → List Nat → Nat → Prop) : vx Tryz.prog noGl (specs [(s11F, s11V)]) (tellS [(18, .elt m.cells, none), (22, .elt m.cells, none)]) 300 noLp none 0 (loopAt Tryz.prog saF 0) (slotsN 27 saKs (saVs l j)) zz151 [] (pickS saKs Q) =
 (bif decide (j < (↑(List.length l) : Int))
 then (OPure Tryz.prog (fun _ => .none) (.indexAddr 36 (.tmp 16) (.tmp 17)) [(16, (zz14 l)), (17, (zz0 j))] (zzy38 m) ∧
 (OPure Tryz.prog (fun _ => .none) (.indexAddr 36 (.tmp 20) (.tmp 21)) [(20, (zz14 l)), (21, (zz0 j))] (zzy38 m) ∧
 (MsEq [(zz0 (MsgS.k m)), (zz0 (OpS.n (MsgS.op m))), (zz0 (OpS.h (MsgS.op m))), (zz4 (OpS.i (MsgS.op m))), (zz11 (OpS.l (MsgS.op m))), (zz11 (UpS.w (MsgS.u m))), (zz0 (UpS.o (MsgS.u m))), (zz1 (UpS.x (MsgS.u m))), (zz4 (UpS.h (MsgS.u m))), (zz0 (UpS.m (MsgS.u m))), (zz12 (UpS.hm (MsgS.u m))), (zz11 (UpS.n (MsgS.u m))), (zz0 (MsgS.c m)), (zz0 (MsgS.s m)), (zz1 (MsgS.d m))] [(zz0 (MsgS.k m)), (zz0 (OpS.n (MsgS.op m))), (zz0 (OpS.h (MsgS.op m))), (zz4 (OpS.i (MsgS.op m))), (zz11 (OpS.l (MsgS.op m))), (zz11 (UpS.w (MsgS.u m))), (zz0 (UpS.o (MsgS.u m))), (zz1 (UpS.x (MsgS.u m))), (zz4 (UpS.h (MsgS.u m))), (zz0 (UpS.m (MsgS.u m))), (zz12 (UpS.hm (MsgS.u m))), (zz11 (UpS.n (MsgS.u m))), (zz0 (MsgS.c m)), (zz0 (MsgS.s m)), (zz1 (MsgS.d m))] ∧
 Q .normal [(zz14 l), (zz14 l), (zz0 (↑(List.length l) : Int)), (zz0 (IntKind.wrap IntKind.i64 (j + (1 : Int))))] zz151 [] 27)))
 else Q (.exit 0) [(zz14 l), (zz14 l), (zz0 (↑(List.length l) : Int)), (zz0 j)] zz151 [] 27) := by kernel_rfl
theorem ev_p2 (l A : Bs) (Q : TV → VT → Prop) : vcallF Tryz.prog noGl noSp noOra 300 (p2Ls l A (codeAt Tryz.prog p2F 0)) 0 p2F [.vec 15 l .none] zz151 Q =
 ((codeAt Tryz.prog p2F (0 : Nat) = codeAt Tryz.prog p2F (0 : Nat)) ∧
 (((@Eq (Option Nat) .none .none) ∧
 ((@Eq (Nat) 0 0) ∧
 ((@Eq (List Nat) [] []) ∧
 (((@Eq (Option TV) (.some zz5) (.some zz5)) ∧
 True ) ∧
 ((@Eq (VT) ⟨[], [(0, (15, true))]⟩ ⟨[], [(0, (15, true))]⟩) ∧
 ((@Eq (Bool) true true) ∧
 (@Eq (List TV) [(.vec 15 [] (.tail 0 0)), (zz14 l), (zz0 (↑(List.length l) : Int)), zz6] [(.vec 15 [] (.tail 0 0)), (zz14 l), (zz0 (↑(List.length l) : Int)), zz6]))))))) ∧
 Q (zz10 A (List.length l)) ⟨[], [((List.length l), (15, true))]⟩)) := by kernel_rfl
abbrev zzy39 (l : Bs) : TV := (zz0 (↑(List.length l) : Int))
theorem ev_p2A (m : MsgS) (l A A2 : Bs) (n n2 : Nat) (j : Int) (ln : Bool) (tl2 : Tl7) (Q : Exit → List TV → Nat → Tl7 → List Nat → Nat → Prop) : vx Tryz.prog noGl noSp (tellS [(999998, .dead, none), (13, .elt m.cells, none), (62, .vec 15 A2 (.tail 0 n2), some fun T => { T with tails := tl2 })]) 300 (p2Is m l A n j ln (codeAt Tryz.prog p2F 2)) none 0 (loopAt Tryz.prog p2F 0) (slotsN 65 p2Ks (p2Vs l A n j)) ⟨[], [(n, 15, true)]⟩ [] (pickS p2Ks fun e vs T D m => Q e vs T.objs.length T.tails D m) =
 (bif decide (j < (↑(List.length l) : Int))
 then (OPure Tryz.prog (fun _ => .none) (.indexAddr 25 (.tmp 9) (.tmp 11)) [(9, (zz14 l)), (11, (zz0 j))] (zz13 (MsgS.k m) (OpS.n (MsgS.op m)) (OpS.h (MsgS.op m)) (OpS.i (MsgS.op m)) (OpS.l (MsgS.op m)) (UpS.w (MsgS.u m)) (UpS.o (MsgS.u m)) (UpS.x (MsgS.u m)) (UpS.h (MsgS.u m)) (UpS.m (MsgS.u m)) (UpS.hm (MsgS.u m)) (UpS.n (MsgS.u m)) (MsgS.c m) (MsgS.s m) (MsgS.d m)) ∧
 ((codeAt Tryz.prog p2F (2 : Nat) = codeAt Tryz.prog p2F (2 : Nat)) ∧
 (((@Eq (Option Nat) .none .none) ∧
 ((@Eq (Nat) 0 0) ∧
 ((@Eq (List Nat) [] []) ∧
 (True  ∧
 ((@Eq (VT) ⟨[(zzy37 m), (.cells [(zz0 (MsgS.k m)), (zz0 (OpS.n (MsgS.op m))), (zz0 (OpS.h (MsgS.op m))), (zz4 (OpS.i (MsgS.op m))), zz5, zz5, zz6, zz5, zz7, zz6, zz8, zz5, (zz0 (MsgS.c m)), (zz0 (MsgS.s m)), (zz1 (MsgS.d m))])], [((n), (15, true))]⟩ ⟨[(zzy37 m), (.cells [(zz0 (MsgS.k m)), (zz0 (OpS.n (MsgS.op m))), (zz0 (OpS.h (MsgS.op m))), (zz4 (OpS.i (MsgS.op m))), zz5, zz5, zz6, zz5, zz7, zz6, zz8, zz5, (zz0 (MsgS.c m)), (zz0 (MsgS.s m)), (zz1 (MsgS.d m))])], [((n), (15, true))]⟩) ∧
 ((@Eq (Bool) true true) ∧
 (@Eq (List TV) [(zz10 A n), zz19, zz20, (zz14 l), (zzy39 l), (zz0 j), (zz11 (OpS.l (MsgS.op m))), (zz0 (↑(List.length (OpS.l (MsgS.op m))) : Int)), zz6] [(zz10 A n), zz19, zz20, (zz14 l), (zzy39 l), (zz0 j), (zz11 (OpS.l (MsgS.op m))), (zz0 (↑(List.length (OpS.l (MsgS.op m))) : Int)), zz6]))))))) ∧
 (bif ln
 then (OTurn Tryz.prog (fun _ => .none) 0 ⟨[(zzy37 m), (.cells [(zz0 (MsgS.k m)), (zz0 (OpS.n (MsgS.op m))), (zz0 (OpS.h (MsgS.op m))), (zz4 (OpS.i (MsgS.op m))), zz5, (zz11 (UpS.w (MsgS.u m))), (zz0 (UpS.o (MsgS.u m))), (zz1 (UpS.x (MsgS.u m))), (zz4 (UpS.h (MsgS.u m))), (zz0 (UpS.m (MsgS.u m))), (zz12 (UpS.hm (MsgS.u m))), (zz11 (UpS.n (MsgS.u m))), (zz0 (MsgS.c m)), (zz0 (MsgS.s m)), (zz1 (MsgS.d m))])], [((n), (15, true))]⟩ (.call ⟨(.builtin .append), #[(.tmp 59), (.tmp 61)], #[36, 36]⟩) [(59, (zz10 A n)), (61, (.vec 15 [[(.val (.int .i64 (MsgS.k m))), (.val (.int .i64 (OpS.n (MsgS.op m)))), (.val (.int .i64 (OpS.h (MsgS.op m)))), (.val (.int .u32 (OpS.i (MsgS.op m)))), (.val (.slice .none 0 0)), (.vec 2 (UpS.w (MsgS.u m)) .none), (.val (.int .i64 (UpS.o (MsgS.u m)))), (.vec 1 (UpS.x (MsgS.u m)) .none), (.val (.int .u32 (UpS.h (MsgS.u m)))), (.val (.int .i64 (UpS.m (MsgS.u m)))), (.val (.bool (UpS.hm (MsgS.u m)))), (.vec 2 (UpS.n (MsgS.u m)) .none), (.val (.int .i64 (MsgS.c m))), (.val (.int .i64 (MsgS.s m))), (.vec 1 (MsgS.d m) .none)]] .full))] (zz10 A2 n2) ⟨[(zzy37 m), (.cells [(zz0 (MsgS.k m)), (zz0 (OpS.n (MsgS.op m))), (zz0 (OpS.h (MsgS.op m))), (zz4 (OpS.i (MsgS.op m))), zz5, (zz11 (UpS.w (MsgS.u m))), (zz0 (UpS.o (MsgS.u m))), (zz1 (UpS.x (MsgS.u m))), (zz4 (UpS.h (MsgS.u m))), (zz0 (UpS.m (MsgS.u m))), (zz12 (UpS.hm (MsgS.u m))), (zz11 (UpS.n (MsgS.u m))), (zz0 (MsgS.c m)), (zz0 (MsgS.s m)), (zz1 (MsgS.d m))])], tl2⟩ ∧
 Q .normal [(zz10 A2 n2), (zz14 l), (zzy39 l), (zz0 (IntKind.wrap IntKind.i64 (j + (1 : Int))))] 2 (tl2) [] 65)
 else (OTurn Tryz.prog (fun _ => .none) 0 ⟨[(zzy37 m), (.cells [(zz0 (MsgS.k m)), (zz0 (OpS.n (MsgS.op m))), (zz0 (OpS.h (MsgS.op m))), (zz4 (OpS.i (MsgS.op m))), (.vec 2 (OpS.l (MsgS.op m)) (.tail 1 (List.length (OpS.l (MsgS.op m))))), (zz11 (UpS.w (MsgS.u m))), (zz0 (UpS.o (MsgS.u m))), (zz1 (UpS.x (MsgS.u m))), (zz4 (UpS.h (MsgS.u m))), (zz0 (UpS.m (MsgS.u m))), (zz12 (UpS.hm (MsgS.u m))), (zz11 (UpS.n (MsgS.u m))), (zz0 (MsgS.c m)), (zz0 (MsgS.s m)), (zz1 (MsgS.d m))])], [((n), (15, true)), ((List.length (OpS.l (MsgS.op m))), (2, true))]⟩ (.call ⟨(.builtin .append), #[(.tmp 59), (.tmp 61)], #[36, 36]⟩) [(59, (zz10 A n)), (61, (.vec 15 [[(.val (.int .i64 (MsgS.k m))), (.val (.int .i64 (OpS.n (MsgS.op m)))), (.val (.int .i64 (OpS.h (MsgS.op m)))), (.val (.int .u32 (OpS.i (MsgS.op m)))), (.vec 2 (OpS.l (MsgS.op m)) (.tail 1 (List.length (OpS.l (MsgS.op m))))), (.vec 2 (UpS.w (MsgS.u m)) .none), (.val (.int .i64 (UpS.o (MsgS.u m)))), (.vec 1 (UpS.x (MsgS.u m)) .none), (.val (.int .u32 (UpS.h (MsgS.u m)))), (.val (.int .i64 (UpS.m (MsgS.u m)))), (.val (.bool (UpS.hm (MsgS.u m)))), (.vec 2 (UpS.n (MsgS.u m)) .none), (.val (.int .i64 (MsgS.c m))), (.val (.int .i64 (MsgS.s m))), (.vec 1 (MsgS.d m) .none)]] .full))] (zz10 A2 n2) ⟨[(zzy37 m), (.cells [(zz0 (MsgS.k m)), (zz0 (OpS.n (MsgS.op m))), (zz0 (OpS.h (MsgS.op m))), (zz4 (OpS.i (MsgS.op m))), (.vec 2 (OpS.l (MsgS.op m)) (.tail 1 (List.length (OpS.l (MsgS.op m))))), (zz11 (UpS.w (MsgS.u m))), (zz0 (UpS.o (MsgS.u m))), (zz1 (UpS.x (MsgS.u m))), (zz4 (UpS.h (MsgS.u m))), (zz0 (UpS.m (MsgS.u m))), (zz12 (UpS.hm (MsgS.u m))), (zz11 (UpS.n (MsgS.u m))), (zz0 (MsgS.c m)), (zz0 (MsgS.s m)), (zz1 (MsgS.d m))])], tl2⟩ ∧
 Q .normal [(zz10 A2 n2), (zz14 l), (zzy39 l), (zz0 (IntKind.wrap IntKind.i64 (j + (1 : Int))))] 2 (tl2) [] 65)))))
 else Q (.exit 0) [(zz10 A n), (zz14 l), (zzy39 l), (zz0 j)] 0 [((n), (15, true))] [] 65) := by kernel_rfl
abbrev zzy40 (m : MsgS) (x : TV) : VO := (zz9 (MsgS.k m) (OpS.n (MsgS.op m)) (OpS.h (MsgS.op m)) (OpS.i (MsgS.op m)) x (MsgS.c m) (MsgS.s m) (MsgS.d m))
theorem ev_p2B (m : MsgS) (l A l2 : Bs) (n kk nn : Nat) (j i e : Int) (v : Bs) (x : TV) (tl tl2 : Tl7) (Q : Exit → List TV → VT → List Nat → Nat → Prop) : vx Tryz.prog noGl noSp (tellS [(37, .elt [.val (.int .i64 e), .vec 1 v .none], none), (44, .vec 2 l2 (.tail kk nn), some fun T => { T with tails := tl2 })]) 300 noLp none 0 (loopAt Tryz.prog p2F 2) (slotsN 65 p2Js (p2Us l A n j m.op.l i)) ⟨[.cells m.cells, plA m x], tl⟩ [] (pickS p2Js Q) =
 (bif decide (i < (↑(List.length (OpS.l (MsgS.op m))) : Int))
 then (OPure Tryz.prog (fun _ => .none) (.indexAddr 55 (.tmp 33) (.tmp 35)) [(33, (zz11 (OpS.l (MsgS.op m)))), (35, (zz0 i))] (zz16 e v) ∧
 (OTurn Tryz.prog (fun _ => .none) 0 ⟨[(zzy37 m), (zzy40 m x), (zz138 e v)], tl⟩ (.call ⟨(.builtin .append), #[(.tmp 41), (.tmp 43)], #[68, 68]⟩) [(41, (x)), (43, (.vec 2 [[(.val (.int .i64 (e))), (.vec 1 (v) .none)]] .full))] (.vec 2 l2 (.tail kk nn)) ⟨[(zzy37 m), (zzy40 m x), (zz138 e v)], tl2⟩ ∧
 Q .normal [(zz10 A n), zz19, zz20, (zz14 l), (zz0 (↑(List.length l) : Int)), (zz0 j), (zz11 (OpS.l (MsgS.op m))), (zz0 (↑(List.length (OpS.l (MsgS.op m))) : Int)), (zz0 (IntKind.wrap IntKind.i64 (i + (1 : Int))))] ⟨[(zzy37 m), (.cells [(zz0 (MsgS.k m)), (zz0 (OpS.n (MsgS.op m))), (zz0 (OpS.h (MsgS.op m))), (zz4 (OpS.i (MsgS.op m))), (.vec 2 l2 (.tail kk nn)), zz5, zz6, zz5, zz7, zz6, zz8, zz5, (zz0 (MsgS.c m)), (zz0 (MsgS.s m)), (zz1 (MsgS.d m))]), (zz138 e v)], tl2⟩ [] 65))
 else Q (.exit 2) [(zz10 A n), zz19, zz20, (zz14 l), (zz0 (↑(List.length l) : Int)), (zz0 j), (zz11 (OpS.l (MsgS.op m))), (zz0 (↑(List.length (OpS.l (MsgS.op m))) : Int)), (zz0 i)] ⟨[(zzy37 m), (zzy40 m x)], tl⟩ [] 65) := by kernel_rfl
end Go.Proofs.YtogbdjlelkepcaaGreatDoor
