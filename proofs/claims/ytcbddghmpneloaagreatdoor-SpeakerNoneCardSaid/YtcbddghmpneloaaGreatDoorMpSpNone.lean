/- SpeakerNone: the law returns true, whatever comes. -/
import Derived.Test.YtcbddghmpneloaaGreatDoorMpSpEv
namespace Go.Proofs.YtcbddghmpneloaaGreatDoor
open Go.ChangeShapes Go.WideShapes Go.ChangeAt Go.RowKit Go.Joins Go.Deep

def capS : List SH := [.int .i64, .slice [.int .u8]]
abbrev spS : List SH := [.int .i64, .int .i64, .int .i64, .int .i64, .int .i64, .int .u32, .slice capS, .slice [.int .u32, .int .i64], .int .i64, .slice [.int .i64], .int .u32, .int .i64, .bool, .slice [.int .u32, .int .i64], .int .i64, .int .i64, .slice [.int .u8], .int .u32, .int .i64, .int .i64, .slice [.int .i64], .int .u32, .int .i64, .bool]
set_option maxRecDepth 100000 in
theorem spL_ok {a : List TV} {caps : List (List TV)} (ha : ∀ f h, renL f h a = a) (hc : ∀ e ∈ caps, FitsL capS e) (hl : caps.length ≤ maxLen) : LsOk Tryz.prog leastG (spL a caps (codeAt Tryz.prog lightF 2)) := specsL_ok fun p hp => by
  obtain rfl := List.mem_singleton.1 hp
  refine loopL_ok fun K hK => ?_
  obtain ⟨hK1, hK2⟩ := hK
  have hcr := fitsLL_ren hc
  let sl : Nat → List TV := fun j => spV a caps j
  let Post : Exit → List TV → VT → Prop := fun e vs T => (e = .normal ∧ vs = spV a caps caps.length ∧ T = ⟨[.cells a], []⟩) ∨ (e = .ret ∧ ∃ (j : Int) (x : VO), vs = spV a caps j ∧ T = ⟨[.cells a, x], []⟩)
  refine loopK (f := lightF) (id := 2) (by kernel_rfl) 91 spK (fun j => caps.length - j) sl (fun _ => ⟨[.cells a], []⟩) (fun j => j ≤ caps.length) 1 0 (fun _ _ => ⟨Nat.le_refl _, Nat.le_refl _⟩)
    Post (fun j hj => ?_) 0 (Nat.zero_le _) K (fun e vs T h => ?_)
  · by_cases hlt : j < caps.length
    · have hd : caps[j]? = some caps[j] := List.getElem?_eq_getElem hlt
      have hf := hc _ (List.getElem_mem hlt)
      generalize caps[j] = d at hd hf
      obtain ⟨x0, r0, rfl, f0, g0⟩ := fitsL_cons hf
      obtain ⟨x1, r1, rfl, f1, g1⟩ := fitsL_cons g0
      obtain rfl := fitsL_nil g1
      obtain ⟨c, rfl, _⟩ := fits_int f0
      obtain ⟨bs, rfl, _, _⟩ := fits_slice f1
      refine vx_is mixedF_Tryz bodiesF_Tryz specsOk_none lsOk_none (ev_light2 a caps bs j c _) ?_
      have hw := wrapN j (by simp [maxLen] at hl; omega)
      refine condT (by simpa using hlt) ⟨opure_index (inf := (Tryz.prog.info? 66).getD default) (t := 23) Tryz.underlying23 (by kernel_rfl) rfl rfl (Int.natCast_nonneg _) (by simpa using hd), cond_of (fun _ => ?_) (fun _ => ?_)⟩
      · exact ⟨rfl, rfl, .inr ⟨rfl, j, _, rfl, rfl⟩⟩
      · refine ⟨rfl, rfl, j + 1, hlt, by simp only; omega, .inr ⟨?_, ?_⟩⟩
        · simp only [VT.keep, List.take_succ_cons, List.take_zero, List.map_cons, List.map_nil, VO.ren, ha]
        · simp only [sl, spV, renL, renLL, TV.ren, Tok.ren, ha, hcr, hw]
    · obtain rfl : j = caps.length := by omega
      refine vx_is mixedF_Tryz bodiesF_Tryz specsOk_none lsOk_none (ev_light2 a caps [] caps.length 0 _) ?_
      exact condF (by simp) ⟨rfl, rfl, .inl ⟨rfl, rfl, rfl⟩⟩
  · rcases h with ⟨rfl, rfl, rfl⟩ | ⟨rfl, j, x, rfl, rfl⟩
    · exact hK1
    · exact hK2 j x
set_option maxRecDepth 100000 in
theorem light_vcx (z0 z1 z2 z3 z4 z5 z8 z10 z11 z14 z15 z17 z18 z19 z21 z22 : Int) (l6 l7 l9 l13 l16 l20 : List (List TV)) (b12 b23 : Bool) (ha : ∀ f h, renL f h (spA z0 z1 z2 z3 z4 z5 z8 z10 z11 z14 z15 z17 z18 z19 z21 z22 l6 l7 l9 l13 l16 l20 b12 b23) = spA z0 z1 z2 z3 z4 z5 z8 z10 z11 z14 z15 z17 z18 z19 z21 z22 l6 l7 l9 l13 l16 l20 b12 b23) (hc : ∀ e ∈ l6, FitsL capS e) (hl : l6.length ≤ maxLen) :
    VCx Tryz.prog leastG 0 lightF [.vec 24 [spA z0 z1 z2 z3 z4 z5 z8 z10 z11 z14 z15 z17 z18 z19 z21 z22 l6 l7 l9 l13 l16 l20 b12 b23] .none] ⟨[], []⟩ fun x T' => (∃ b, x = .val (.bool b)) ∧ T' = ⟨[], []⟩ := by
  refine VCx.keepQ 0 0 (Nat.le_refl _) (Nat.le_refl _) (vcallF_is mixedF_Tryz bodiesF_Tryz specsOk_none (spL_ok ha hc hl) (ev_light z0 z1 z2 z3 z4 z5 z8 z10 z11 z14 z15 z17 z18 z19 z21 z22 l6 l7 l9 l13 l16 l20 b12 b23 _) ?_)
  have q : ∀ (b : Bool) (T : VT), (∃ b', TV.ren (Go.Proofs.YtcbddghmpneloaaGreatDoor.keep 0) (Go.Proofs.YtcbddghmpneloaaGreatDoor.keep 0) (.val (.bool b)) = .val (.bool b')) ∧ T.keep 0 0 = ⟨[], []⟩ := fun b T => ⟨⟨b, rfl⟩, rfl⟩
  exact cond_of (fun _ => q _ _) fun _ => cond_of (fun _ => q _ _) fun _ => cond_of (fun _ => q _ _) fun _ => cond_of (fun _ => q _ _) fun _ => cond_of (fun _ => q _ _) fun _ => cond_of (fun _ => q _ _) fun _ => cond_of
    (fun _ => cond_of (fun _ => q _ _) fun _ => ⟨rfl, ⟨rfl, rfl, rfl, trivial, rfl, rfl, rfl⟩, q _ _, fun _ _ => q _ _⟩) fun _ => ⟨rfl, ⟨rfl, rfl, rfl, trivial, rfl, rfl, rfl⟩, q _ _, fun _ _ => q _ _⟩
set_option maxRecDepth 100000 in
theorem law_sp (z0 z1 z2 z3 z4 z5 z8 z10 z11 z14 z15 z17 z18 z19 z21 z22 : Int) (l6 l7 l9 l13 l16 l20 : List (List TV)) (b12 b23 : Bool) (ha : ∀ f h, renL f h (spA z0 z1 z2 z3 z4 z5 z8 z10 z11 z14 z15 z17 z18 z19 z21 z22 l6 l7 l9 l13 l16 l20 b12 b23) = spA z0 z1 z2 z3 z4 z5 z8 z10 z11 z14 z15 z17 z18 z19 z21 z22 l6 l7 l9 l13 l16 l20 b12 b23) (hc : ∀ e ∈ l6, FitsL capS e) (hl : l6.length ≤ maxLen) :
    VCx Tryz.prog leastG 0 3 [.agg (spA z0 z1 z2 z3 z4 z5 z8 z10 z11 z14 z15 z17 z18 z19 z21 z22 l6 l7 l9 l13 l16 l20 b12 b23)] ⟨[], []⟩ isTrueV := by
  have hC : SpecsOk Tryz.prog leastG (specs [(lightF, lightW (spA z0 z1 z2 z3 z4 z5 z8 z10 z11 z14 z15 z17 z18 z19 z21 z22 l6 l7 l9 l13 l16 l20 b12 b23)), (5, trueW)]) := specs_ok fun p hp => by
    simp only [List.mem_cons, List.not_mem_nil, or_false] at hp
    rcases hp with rfl | rfl
    · rintro ro ys T K ⟨h1, h2, h3⟩
      refine VCx.looseAny leastG_vals (light_vcx z0 z1 z2 z3 z4 z5 z8 z10 z11 z14 z15 z17 z18 z19 z21 z22 l6 l7 l9 l13 l16 l20 b12 b23 ha hc hl) h1 (by simp only [renL, renLL, TV.ren, Tok.ren, ha]) (fun y hy f h => ?_) (fun y hy => ?_)
      · obtain ⟨b, rfl⟩ := hy; rfl
      · obtain ⟨b, rfl⟩ := hy
        cases b
        · exact h3
        · exact h2
    · exact trueW_ok leastG_vals vplives
  refine vcallF_is mixedF_Tryz bodiesF_Tryz hC lsOk_none (ev_sp z0 z1 z2 z3 z4 z5 z8 z10 z11 z14 z15 z17 z18 z19 z21 z22 l6 l7 l9 l13 l16 l20 b12 b23) ?_
  refine ⟨rfl, ?_, ?_⟩
  · simp only [and_self]
  · trivial
set_option maxRecDepth 100000 in
theorem walk_sp (xs : List TV) (hf : FitsL spS xs) (w : World) (v : Value) (hG : GOk leastG (topG w) w) (hv : VR (topG w) w (.agg xs) v) :
    Calls Tryz.prog 3 #[v] w fun e w' => e = .returned (.bool true) ∧ Gr w w' := by
  have hren := fitsL_ren _ xs hf
  obtain ⟨x0, r0, rfl, f0, g0⟩ := fitsL_cons hf
  obtain ⟨x1, r1, rfl, f1, g1⟩ := fitsL_cons g0
  obtain ⟨x2, r2, rfl, f2, g2⟩ := fitsL_cons g1
  obtain ⟨x3, r3, rfl, f3, g3⟩ := fitsL_cons g2
  obtain ⟨x4, r4, rfl, f4, g4⟩ := fitsL_cons g3
  obtain ⟨x5, r5, rfl, f5, g5⟩ := fitsL_cons g4
  obtain ⟨x6, r6, rfl, f6, g6⟩ := fitsL_cons g5
  obtain ⟨x7, r7, rfl, f7, g7⟩ := fitsL_cons g6
  obtain ⟨x8, r8, rfl, f8, g8⟩ := fitsL_cons g7
  obtain ⟨x9, r9, rfl, f9, g9⟩ := fitsL_cons g8
  obtain ⟨x10, r10, rfl, f10, g10⟩ := fitsL_cons g9
  obtain ⟨x11, r11, rfl, f11, g11⟩ := fitsL_cons g10
  obtain ⟨x12, r12, rfl, f12, g12⟩ := fitsL_cons g11
  obtain ⟨x13, r13, rfl, f13, g13⟩ := fitsL_cons g12
  obtain ⟨x14, r14, rfl, f14, g14⟩ := fitsL_cons g13
  obtain ⟨x15, r15, rfl, f15, g15⟩ := fitsL_cons g14
  obtain ⟨x16, r16, rfl, f16, g16⟩ := fitsL_cons g15
  obtain ⟨x17, r17, rfl, f17, g17⟩ := fitsL_cons g16
  obtain ⟨x18, r18, rfl, f18, g18⟩ := fitsL_cons g17
  obtain ⟨x19, r19, rfl, f19, g19⟩ := fitsL_cons g18
  obtain ⟨x20, r20, rfl, f20, g20⟩ := fitsL_cons g19
  obtain ⟨x21, r21, rfl, f21, g21⟩ := fitsL_cons g20
  obtain ⟨x22, r22, rfl, f22, g22⟩ := fitsL_cons g21
  obtain ⟨x23, r23, rfl, f23, g23⟩ := fitsL_cons g22
  obtain rfl := fitsL_nil g23
  obtain ⟨z0, rfl, _⟩ := fits_int f0
  obtain ⟨z1, rfl, _⟩ := fits_int f1
  obtain ⟨z2, rfl, _⟩ := fits_int f2
  obtain ⟨z3, rfl, _⟩ := fits_int f3
  obtain ⟨z4, rfl, _⟩ := fits_int f4
  obtain ⟨z5, rfl, _⟩ := fits_int f5
  obtain ⟨l6, rfl, hl6, el6⟩ := fits_slice f6
  obtain ⟨l7, rfl, hl7, el7⟩ := fits_slice f7
  obtain ⟨z8, rfl, _⟩ := fits_int f8
  obtain ⟨l9, rfl, hl9, el9⟩ := fits_slice f9
  obtain ⟨z10, rfl, _⟩ := fits_int f10
  obtain ⟨z11, rfl, _⟩ := fits_int f11
  obtain ⟨b12, rfl⟩ := fits_bool f12
  obtain ⟨l13, rfl, hl13, el13⟩ := fits_slice f13
  obtain ⟨z14, rfl, _⟩ := fits_int f14
  obtain ⟨z15, rfl, _⟩ := fits_int f15
  obtain ⟨l16, rfl, hl16, el16⟩ := fits_slice f16
  obtain ⟨z17, rfl, _⟩ := fits_int f17
  obtain ⟨z18, rfl, _⟩ := fits_int f18
  obtain ⟨z19, rfl, _⟩ := fits_int f19
  obtain ⟨l20, rfl, hl20, el20⟩ := fits_slice f20
  obtain ⟨z21, rfl, _⟩ := fits_int f21
  obtain ⟨z22, rfl, _⟩ := fits_int f22
  obtain ⟨b23, rfl⟩ := fits_bool f23
  exact VCx.topK (us := [v]) (law_sp z0 z1 z2 z3 z4 z5 z8 z10 z11 z14 z15 z17 z18 z19 z21 z22 l6 l7 l9 l13 l16 l20 b12 b23 hren el6 hl6) w hG (VRs.cons hv (VRs.nil _ _))
end Go.Proofs.YtcbddghmpneloaaGreatDoor
