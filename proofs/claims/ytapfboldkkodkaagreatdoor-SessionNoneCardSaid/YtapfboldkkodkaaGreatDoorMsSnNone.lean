/- SessionNone: the law returns true, whatever comes. -/
import Derived.Test.YtapfboldkkodkaaGreatDoorMsSnEv
namespace Go.Proofs.YtapfboldkkodkaaGreatDoor
open Go.ChangeShapes Go.WideShapes Go.ChangeAt Go.RowKit Go.Joins Go.Deep

def capS : List SH := [.int .i64, .slice [.int .u8]]
abbrev snS : List SH := [.int .i64, .int .i64, .slice [.int .u8], .int .i64, .int .i64, .int .i64, .int .u32, .slice capS, .slice [.int .u32, .int .i64], .int .i64, .slice [.int .i64], .int .u32, .int .i64, .bool, .slice [.int .u32, .int .i64], .int .i64, .int .i64, .slice [.int .u8]]
set_option maxRecDepth 100000 in
theorem snL_ok {a : List TV} {caps : List (List TV)} (ha : ∀ f h, renL f h a = a) (hc : ∀ e ∈ caps, FitsL capS e) (hl : caps.length ≤ maxLen) : LsOk Tryz.prog leastG (snL a caps (codeAt Tryz.prog lightF 2)) := specsL_ok fun p hp => by
  obtain rfl := List.mem_singleton.1 hp
  refine loopL_ok fun K hK => ?_
  obtain ⟨hK1, hK2⟩ := hK
  have hcr := fitsLL_ren hc
  let sl : Nat → List TV := fun j => snV a caps j
  let Post : Exit → List TV → VT → Prop := fun e vs T => (e = .normal ∧ vs = snV a caps caps.length ∧ T = ⟨[.cells a], []⟩) ∨ (e = .ret ∧ ∃ (j : Int) (x : VO), vs = snV a caps j ∧ T = ⟨[.cells a, x], []⟩)
  refine loopK (f := lightF) (id := 2) (by kernel_rfl) 88 snK (fun j => caps.length - j) sl (fun _ => ⟨[.cells a], []⟩) (fun j => j ≤ caps.length) 1 0 (fun _ _ => ⟨Nat.le_refl _, Nat.le_refl _⟩)
    Post (fun j hj => ?_) 0 (Nat.zero_le _) K (fun e vs T h => ?_)
  · by_cases hlt : j < caps.length
    · have hd : caps[j]? = some caps[j] := List.getElem?_eq_getElem hlt
      have hf := hc _ (List.getElem_mem hlt)
      generalize caps[j] = d at hd hf
      obtain ⟨x0, r0, rfl, f0, g0⟩ := fitsL_cons hf
      obtain ⟨x1, r1, rfl, f1, g1⟩ := fitsL_cons g0
      obtain rfl := fitsL_nil g1
      obtain ⟨c, rfl, _⟩ := fits_int f0
      obtain ⟨bs, rfl, _, _⟩ := fits_slice f1
      refine vx_is mixedF_Tryz bodiesF_Tryz specsOk_none lsOk_none (ev_light2 a caps bs j c _) ?_
      have hw := wrapN j (by simp [maxLen] at hl; omega)
      refine condT (by simpa using hlt) ⟨opure_index (inf := (Tryz.prog.info? 183).getD default) (t := 85) Tryz.underlying85 (by kernel_rfl) rfl rfl (Int.natCast_nonneg _) (by simpa using hd), cond_of (fun _ => ?_) (fun _ => ?_)⟩
      · exact ⟨rfl, rfl, .inr ⟨rfl, j, _, rfl, rfl⟩⟩
      · refine ⟨rfl, rfl, j + 1, hlt, by simp only; omega, .inr ⟨?_, ?_⟩⟩
        · simp only [VT.keep, List.take_succ_cons, List.take_zero, List.map_cons, List.map_nil, VO.ren, ha]
        · simp only [sl, snV, renL, renLL, TV.ren, Tok.ren, ha, hcr, hw]
    · obtain rfl : j = caps.length := by omega
      refine vx_is mixedF_Tryz bodiesF_Tryz specsOk_none lsOk_none (ev_light2 a caps [] caps.length 0 _) ?_
      exact condF (by simp) ⟨rfl, rfl, .inl ⟨rfl, rfl, rfl⟩⟩
  · rcases h with ⟨rfl, rfl, rfl⟩ | ⟨rfl, j, x, rfl, rfl⟩
    · exact hK1
    · exact hK2 j x
set_option maxRecDepth 100000 in
theorem light_vcx (k n m0 m1 m2 m3 m6 m8 m9 m12 m13 : Int) (B caps wd pa nl da : List (List TV)) (hm : Bool) (ha : ∀ f h, renL f h (snA k n m0 m1 m2 m3 m6 m8 m9 m12 m13 B caps wd pa nl da hm) = snA k n m0 m1 m2 m3 m6 m8 m9 m12 m13 B caps wd pa nl da hm) (hc : ∀ e ∈ caps, FitsL capS e) (hl : caps.length ≤ maxLen) :
    VCx Tryz.prog leastG 0 lightF [.vec 18 [snA k n m0 m1 m2 m3 m6 m8 m9 m12 m13 B caps wd pa nl da hm] .none] ⟨[], []⟩ fun x T' => (∃ b, x = .val (.bool b)) ∧ T' = ⟨[], []⟩ := by
  refine VCx.keepQ 0 0 (Nat.le_refl _) (Nat.le_refl _) (vcallF_is mixedF_Tryz bodiesF_Tryz specsOk_none (snL_ok ha hc hl) (ev_light k n m0 m1 m2 m3 m6 m8 m9 m12 m13 B caps wd pa nl da hm _) ?_)
  have q : ∀ (b : Bool) (T : VT), (∃ b', TV.ren (Go.Proofs.YtapfboldkkodkaaGreatDoor.keep 0) (Go.Proofs.YtapfboldkkodkaaGreatDoor.keep 0) (.val (.bool b)) = .val (.bool b')) ∧ T.keep 0 0 = ⟨[], []⟩ := fun b T => ⟨⟨b, rfl⟩, rfl⟩
  exact cond_of (fun _ => q _ _) fun _ => cond_of (fun _ => q _ _) fun _ => cond_of (fun _ => q _ _) fun _ => cond_of (fun _ => q _ _) fun _ => cond_of (fun _ => q _ _) fun _ => cond_of
    (fun _ => cond_of (fun _ => q _ _) fun _ => ⟨rfl, ⟨rfl, rfl, rfl, trivial, rfl, rfl, rfl⟩, q _ _, fun _ _ => q _ _⟩) fun _ => ⟨rfl, ⟨rfl, rfl, rfl, trivial, rfl, rfl, rfl⟩, q _ _, fun _ _ => q _ _⟩
set_option maxRecDepth 100000 in
theorem law_sn (k n m0 m1 m2 m3 m6 m8 m9 m12 m13 : Int) (B caps wd pa nl da : List (List TV)) (hm : Bool) (ha : ∀ f h, renL f h (snA k n m0 m1 m2 m3 m6 m8 m9 m12 m13 B caps wd pa nl da hm) = snA k n m0 m1 m2 m3 m6 m8 m9 m12 m13 B caps wd pa nl da hm) (hc : ∀ e ∈ caps, FitsL capS e) (hl : caps.length ≤ maxLen) :
    VCx Tryz.prog leastG 0 6 [.agg (snA k n m0 m1 m2 m3 m6 m8 m9 m12 m13 B caps wd pa nl da hm)] ⟨[], []⟩ isTrueV := by
  have hC : SpecsOk Tryz.prog leastG (specs [(lightF, lightW (snA k n m0 m1 m2 m3 m6 m8 m9 m12 m13 B caps wd pa nl da hm)), (28, trueW)]) := specs_ok fun p hp => by
    simp only [List.mem_cons, List.not_mem_nil, or_false] at hp
    rcases hp with rfl | rfl
    · rintro ro ys T K ⟨h1, h2, h3⟩
      refine VCx.looseAny leastG_vals (light_vcx k n m0 m1 m2 m3 m6 m8 m9 m12 m13 B caps wd pa nl da hm ha hc hl) h1 (by simp only [renL, renLL, TV.ren, Tok.ren, ha]) (fun y hy f h => ?_) (fun y hy => ?_)
      · obtain ⟨b, rfl⟩ := hy; rfl
      · obtain ⟨b, rfl⟩ := hy
        cases b
        · exact h3
        · exact h2
    · exact trueW_ok leastG_vals vslives
  refine vcallF_is mixedF_Tryz bodiesF_Tryz hC lsOk_none (ev_sn k n m0 m1 m2 m3 m6 m8 m9 m12 m13 B caps wd pa nl da hm) ?_
  refine ⟨rfl, ?_, ?_⟩
  · simp only [and_self]
  · trivial
set_option maxRecDepth 100000 in
theorem walk_sn (xs : List TV) (hf : FitsL snS xs) (w : World) (v : Value) (hG : GOk leastG (topG w) w) (hv : VR (topG w) w (.agg xs) v) :
    Calls Tryz.prog 6 #[v] w fun e w' => e = .returned (.bool true) ∧ Gr w w' := by
  have hren := fitsL_ren _ xs hf
  obtain ⟨x0, r0, rfl, f0, g0⟩ := fitsL_cons hf
  obtain ⟨x1, r1, rfl, f1, g1⟩ := fitsL_cons g0
  obtain ⟨x2, r2, rfl, f2, g2⟩ := fitsL_cons g1
  obtain ⟨x3, r3, rfl, f3, g3⟩ := fitsL_cons g2
  obtain ⟨x4, r4, rfl, f4, g4⟩ := fitsL_cons g3
  obtain ⟨x5, r5, rfl, f5, g5⟩ := fitsL_cons g4
  obtain ⟨x6, r6, rfl, f6, g6⟩ := fitsL_cons g5
  obtain ⟨x7, r7, rfl, f7, g7⟩ := fitsL_cons g6
  obtain ⟨x8, r8, rfl, f8, g8⟩ := fitsL_cons g7
  obtain ⟨x9, r9, rfl, f9, g9⟩ := fitsL_cons g8
  obtain ⟨x10, r10, rfl, f10, g10⟩ := fitsL_cons g9
  obtain ⟨x11, r11, rfl, f11, g11⟩ := fitsL_cons g10
  obtain ⟨x12, r12, rfl, f12, g12⟩ := fitsL_cons g11
  obtain ⟨x13, r13, rfl, f13, g13⟩ := fitsL_cons g12
  obtain ⟨x14, r14, rfl, f14, g14⟩ := fitsL_cons g13
  obtain ⟨x15, r15, rfl, f15, g15⟩ := fitsL_cons g14
  obtain ⟨x16, r16, rfl, f16, g16⟩ := fitsL_cons g15
  obtain ⟨x17, r17, rfl, f17, g17⟩ := fitsL_cons g16
  obtain rfl := fitsL_nil g17
  obtain ⟨z0, rfl, _⟩ := fits_int f0
  obtain ⟨z1, rfl, _⟩ := fits_int f1
  obtain ⟨B, rfl, _, _⟩ := fits_slice f2
  obtain ⟨z3, rfl, _⟩ := fits_int f3
  obtain ⟨z4, rfl, _⟩ := fits_int f4
  obtain ⟨z5, rfl, _⟩ := fits_int f5
  obtain ⟨z6, rfl, _⟩ := fits_int f6
  obtain ⟨caps, rfl, hl, hc⟩ := fits_slice f7
  obtain ⟨wd, rfl, _, _⟩ := fits_slice f8
  obtain ⟨z9, rfl, _⟩ := fits_int f9
  obtain ⟨pa, rfl, _, _⟩ := fits_slice f10
  obtain ⟨z11, rfl, _⟩ := fits_int f11
  obtain ⟨z12, rfl, _⟩ := fits_int f12
  obtain ⟨b13, rfl⟩ := fits_bool f13
  obtain ⟨nl, rfl, _, _⟩ := fits_slice f14
  obtain ⟨z15, rfl, _⟩ := fits_int f15
  obtain ⟨z16, rfl, _⟩ := fits_int f16
  obtain ⟨da, rfl, _, _⟩ := fits_slice f17
  exact VCx.topK (us := [v]) (law_sn z0 z1 z3 z4 z5 z6 z9 z11 z12 z15 z16 B caps wd pa nl da b13 hren hc hl) w hG (VRs.cons hv (VRs.nil _ _))
end Go.Proofs.YtapfboldkkodkaaGreatDoor
