/- SiblingActs: the law returns true. -/
import Derived.Test.YtgconkbnokbinaaMbSbRG
import Derived.Test.YtgconkbnokbinaaMbSbRD
namespace Go.Proofs.Ytgconkbnokbinaa
open Go.RowKit Go.Maps Go.Sort

/-! ### alike -/
section
variable {lk lk2 : Value → Option TV} {es es2 : List (Value × TV × Nat)} {ck ck2 : Nat} {S : List SiT} {R : RpM}
theorem mKW_ok {f : FuncId} {ys0 ys1 : List TV} {x0 : TV} {L : List Rw} (hy : renL (nameIn [3]) (nameIn []) ys0 = ys1) (hx : ∀ f g, x0.ren f g = x0) (hv : VCx Try.prog noGl 0 f ys1 (mL (L.map rwE) []) fun x T' => x = x0 ∧ T' = mL (L.map rwE) []) :
    ∀ ro ys T K, mKW (L.map rwE) ys0 x0 ro ys T K → VCx Try.prog noGl ro f ys T K := by
  rintro ro ys T K ⟨⟨rfl, rfl, ho⟩, hk⟩
  exact look_m hy hx hv ho hk
theorem saW_ok (A : List SiT) (hl : A.length ≤ 1000) : ∀ ro ys T K, saW (A.map siE) ro ys T K → VCx Try.prog noGl ro rSaF ys T K := by
  rintro ro ys T K ⟨hy, hk⟩
  exact VCx.loosePure gvals_noGl (sa_vcx A hl) hy (by simp only [renL, TV.ren, renLL_site, Tok.ren]) (fun _ _ => rfl) hk
theorem keep_xT (h : T6 S R lk lk2 es es2 ck ck2) (L : List Rw) (s t : SiT) (l : List VO) (n : Nat) : VT.keep (xT lk lk2 es es2 ck ck2 (L.map rwE) (.cells (siE s) :: .cells (siE t) :: l) [(n, 3, true)]) 6 1 = xT lk lk2 es es2 ck ck2 (L.map rwE) [.cells (siE s), .cells (siE t)] [(n, 3, true)] := by
  have e1 := h.ren1 (Go.Proofs.Ytgconkbnokbinaa.keep 6) (Go.Proofs.Ytgconkbnokbinaa.keep 1)
  have e2 := h.ren2 (Go.Proofs.Ytgconkbnokbinaa.keep 6) (Go.Proofs.Ytgconkbnokbinaa.keep 1)
  have e3 := ren_mO (Go.Proofs.Ytgconkbnokbinaa.keep 6) (Go.Proofs.Ytgconkbnokbinaa.keep 1) L
  simp only [VT.keep, xT, List.take_succ_cons, List.take_zero, List.map_cons, List.map_nil, e1, e2, e3]
  rfl
theorem keep_xT4 (h : T6 S R lk lk2 es es2 ck ck2) (L : List Rw) (l : List VO) (tl : List (Nat × Nat × Bool)) : VT.keep (xT lk lk2 es es2 ck ck2 (L.map rwE) l tl) 4 0 = xT lk lk2 es es2 ck ck2 (L.map rwE) [] [] := by
  have e1 := h.ren1 (Go.Proofs.Ytgconkbnokbinaa.keep 4) (Go.Proofs.Ytgconkbnokbinaa.keep 0)
  have e2 := h.ren2 (Go.Proofs.Ytgconkbnokbinaa.keep 4) (Go.Proofs.Ytgconkbnokbinaa.keep 0)
  have e3 := ren_mO (Go.Proofs.Ytgconkbnokbinaa.keep 4) (Go.Proofs.Ytgconkbnokbinaa.keep 0) L
  simp only [VT.keep, xT, List.take_succ_cons, List.take_zero, List.map_cons, List.map_nil, e1, e2, e3]
  rfl
theorem lk_loop (h : T6 S R lk lk2 es es2 ck ck2) (id n : Int) (s : SiT) (b : Bool) (hfew : (byId S).length ≤ 8) : LsOk Try.prog noGl (lkL lk lk2 es es2 ck ck2 ((refL S R).map rwE) ((byId S).map siE) id n s.1 s.2.1 s.2.2 b (codeAt Try.prog lkF 0)) := specsL_ok fun p hp => by
  obtain rfl := List.mem_singleton.1 hp
  refine loopL_ok fun K hK => ?_
  let B := byId S
  have hBl : B.length ≤ 8 := hfew
  let sl : Nat → List TV := fun j => lkV id n b ((B.take j).map siE) (B.map siE) j
  let TT : Nat → VT := fun j => xT lk lk2 es es2 ck ck2 ((refL S R).map rwE) [.cells (siE s), .cells (siE s)] [(((B.take j).map siE).length, 3, true)]
  let Post : Exit → List TV → VT → Prop := fun e vs T => e = .normal ∧ vs = sl B.length ∧ T = TT B.length
  refine loopK (f := lkF) (id := 0) (by kernel_rfl) 81 lkK (fun j => B.length - j) sl TT (fun j => j ≤ B.length) 6 1 (fun _ _ => ⟨Nat.le_refl _, Nat.le_refl _⟩)
    Post (fun j hj => ?_) 0 (Nat.zero_le _) K (fun e vs T hq => ?_)
  · by_cases hlt : j < B.length
    · have hs : B[j]? = some B[j] := List.getElem?_eq_getElem hlt
      generalize B[j] = t at hs
      have hw := wrapN j (by omega)
      have hst : (B.take (j + 1)).map siE = (B.take j).map siE ++ [siE t] := by
        rw [List.take_add_one, hs, List.map_append]; rfl
      have hra : ∀ f g, renLL f g ((B.take j).map siE ++ [siE t]) = (B.take j).map siE ++ [siE t] := fun f g => by rw [← hst]; exact renLL_site f g _
      have hl2 : ((B.take j).map siE).length ≤ 8 := by rw [List.length_map, List.length_take]; omega
      obtain ⟨i, a, c⟩ := t
      have hra : ∀ f g, renLL f g ((B.take j).map siE ++ [siC i a c]) = (B.take j).map siE ++ [siC i a c] := hra
      refine vx_is mixedB_Try bodiesB_Try specsOk_none lsOk_none (ev_lkA lk lk2 es es2 ck ck2 ((refL S R).map rwE) (B.map siE) ((B.take j).map siE) id n s.1 s.2.1 s.2.2 i a c b j _) ?_
      refine condT (decide_eq_true (by rw [List.length_map]; omega)) ⟨opure_site rfl rfl (Int.natCast_nonneg _) (by simp only [Int.toNat_natCast]; rw [List.getElem?_map, hs]; rfl),
        oturn_rsi (es2 := [siC i a c]) (T1 := xT lk lk2 es es2 ck ck2 ((refL S R).map rwE) [.cells (siE s), .cells (siE s), .cells (siC i a c)] [(((B.take j).map siE).length, 3, true)]) (by simp [evOf, evFind, vadopt]; rfl) rfl (by simp only [List.length_cons, List.length_nil]; omega), rfl, rfl, j + 1, hlt, by simp only; omega, .inr ⟨?_, ?_⟩⟩
      · have e : ((B.take j).map siE).length + 1 = ((B.take (j + 1)).map siE).length := by rw [hst]; simp
        simp only [TT]
        rw [← e]
        exact keep_xT h (refL S R) s s _ _
      · simp only [renL, TV.ren, renLL_site, hra, Tok.ren, Go.Proofs.Ytgconkbnokbinaa.keep]
        simp only [sl, lkV, hst, hw, List.length_append, List.length_cons, List.length_nil]
        rfl
    · obtain rfl : j = B.length := by omega
      refine vx_is mixedB_Try bodiesB_Try specsOk_none lsOk_none (ev_lkA lk lk2 es es2 ck ck2 ((refL S R).map rwE) (B.map siE) ((B.take B.length).map siE) id n s.1 s.2.1 s.2.2 0 0 0 b B.length _) ?_
      exact condF (decide_eq_false (by rw [List.length_map]; omega)) ⟨rfl, rfl, rfl, rfl, rfl⟩
  · obtain ⟨rfl, rfl, rfl⟩ := hq
    have e2 : ((B.length : Nat) : Int) = (((byId S).map siE).length : Nat) := by rw [List.length_map]
    simp only [sl, TT, e2, List.take_length]
    exact hK
theorem lk_vcx (g : Good S R) (h : T6 S R lk lk2 es es2 ck ck2) (id n : Int) : VCx Try.prog noGl 0 lkF [.ptr 0 0, .ptr 3 0, .val (.int .i64 id), .val (.int .i64 n)] (xT lk lk2 es es2 ck ck2 ((refL S R).map rwE) [] []) fun x T' => x = .val (.bool true) ∧ T' = xT lk lk2 es es2 ck ck2 ((refL S R).map rwE) [] [] := by
  have hfew : (byId S).length ≤ 8 := t6_few h
  have hbe := rbe_vcx g n
  have hun := run_vcx g n
  have hal := ral_vcx g
  have hcp := rcp_vcx g id n
  have hlp := lk_loop h id n (hdS (ableS S R n)) (someS (ableS S R n)) hfew
  have h' := h
  obtain ⟨st, h1, h2⟩ := h'
  have pbe := be_vcx (ck2 := ck2) h1 h2 n
  have pso := so_vcx (ck2 := ck2) h1 h2 n
  have pun := un_vcx (ck2 := ck2) h1 h2 n
  have pcp := cp_vcx (ck2 := ck2) h1 h2 id n
  have pal := al_vcx h1 fun f g => h2.ren ck2 f g
  generalize someS (ableS S R n) = b at *
  generalize hdS (ableS S R n) = t at *
  generalize untS S R n = u at *
  generalize capR R id n = cp at *
  obtain ⟨i, a, c⟩ := t
  refine VCx.keepQ 4 0 (Nat.le_refl _) (Nat.le_refl _) (vcallF_is mixedB_Try bodiesB_Try (specs_ok fun q hq => ?_) hlp (ev_lk lk lk2 es es2 ck ck2 ((refL S R).map rwE) ((byId S).map siE) id n i a c u cp cp b _) ?_)
  · simp only [List.mem_cons, List.not_mem_nil, or_false] at hq
    rcases hq with rfl | rfl | rfl | rfl | rfl | rfl | rfl | rfl | rfl | rfl
    · exact tabW_ok h1 h2 rfl (fun _ _ => rfl) pbe
    · exact mKW_ok rfl (fun _ _ => rfl) hbe
    · exact tabW_ok h1 h2 rfl (fun f g => by simp only [TV.ren, renLL_site, Tok.ren]) pal
    · exact tabW_ok h1 h2 rfl (fun _ _ => rfl) pso
    · exact tabW_ok h1 h2 rfl (fun _ _ => rfl) pcp
    · exact mKW_ok rfl (fun _ _ => rfl) hcp
    · exact tabW_ok h1 h2 rfl (fun _ _ => rfl) pun
    · exact mKW_ok rfl (fun _ _ => rfl) hun
    · exact mKW_ok rfl (fun f g => by simp only [TV.ren, renLL_site, Tok.ren]) hal
    · exact saW_ok _ (by omega)
  · have ei : ∀ x : Int, eqRes BinOp.eql (keyEq (Value.int .i64 x) (Value.int .i64 x)) = true := fun x => by rw [eqI]; exact decide_eq_true rfl
    have eb : eqRes BinOp.eql (keyEq (Value.bool b) (Value.bool b)) = true := by rw [eqB]; cases b <;> rfl
    refine ⟨⟨rfl, rfl, rfl⟩, ⟨rfl, rfl, rfl⟩, ⟨rfl, rfl, rfl⟩, rfl, ⟨rfl, rfl, rfl, ⟨rfl, trivial⟩, rfl, rfl, rfl⟩, condT ?_ (condT eb ⟨⟨rfl, rfl, rfl⟩, condT eb ⟨⟨rfl, rfl, rfl⟩, ⟨rfl, rfl, rfl⟩, condT (ei _) ⟨⟨rfl, rfl, rfl⟩, ⟨rfl, rfl, rfl⟩, condT (ei _) ⟨⟨rfl, rfl, rfl⟩, rfl, rfl, keep_xT4 h _ _ _⟩⟩⟩⟩)⟩
    show eqRes .eql (keyEq (.agg [Value.int .i64 i, .int .u32 a, .int .i64 c].toArray) (.agg [Value.int .i64 i, .int .u32 a, .int .i64 c].toArray)) = true
    rw [eqSi]; rfl
/-! ### act, with the document's table -/
def Gone (S : List SiT) (R : RpM) : Prop := ∀ i, S.find? (fun s => s.1 == i) = none → R i = none
theorem good_of (h : T6 S R lk lk2 es es2 ck ck2) (hg : Gone S R) : Good S R := by
  obtain ⟨st, h1, _⟩ := h; exact ⟨h1.nd, h1.few, hg⟩
end
theorem gone_act {S : List SiT} {R : RpM} (g : Good S R) (x : Act6) : Gone (actS x (S, R)).1 (actS x (S, R)).2 := by
  unfold actS
  cases decide (x.k = 0)
  · cases decide (x.k = 1)
    · simp only [cond_false]
      intro i hi
      unfold rpR
      cases hc : rpA S x.i x.p x.u == 0
      · exact g.gone i hi
      · simp only [cond_true, putR]
        have hb : hasS S x.i = true := by
          unfold rpA at hc
          cases hb : hasS S x.i
          · rw [hb] at hc; simp at hc
          · rfl
        have hne : (x.i == i) = false := by
          rw [beq_eq_false_iff_ne]
          rintro rfl
          unfold hasS at hb
          rw [hi] at hb; cases hb
        rw [hne, cond_false]
        exact g.gone i hi
    · simp only [cond_false, cond_true]
      intro i hi
      rw [delS_find x.i i g.nd] at hi
      unfold delR
      cases hc : x.i == i
      · rw [hc] at hi
        exact g.gone i hi
      · rfl
  · simp only [cond_true]
    intro i hi
    unfold adS at hi
    cases hc : adA S (x.i, x.a, x.c) == 0
    · rw [hc] at hi; exact g.gone i hi
    · rw [hc] at hi
      simp only [cond_true, List.find?_append] at hi
      refine g.gone i ?_
      cases h : S.find? fun s => s.1 == i with
      | none => rfl
      | some s => rw [h] at hi; simp at hi
section
variable {lk lk2 : Value → Option TV} {es es2 : List (Value × TV × Nat)} {ck ck2 : Nat} {S : List SiT} {R : RpM}
theorem actm_vcx (g : Good S R) (h : T6 S R lk lk2 es es2 ck ck2) (x : Act6) :
    VCx Try.prog noGl 0 acF [.ptr 0 0, .ptr 3 0, .agg (actC x)] (xT lk lk2 es es2 ck ck2 ((refL S R).map rwE) [] []) fun r T' => ∃ ka kb ea eb ca cb, r = .val (.bool true) ∧ T' = xT ka kb ea eb ca cb ((refL (actS x (S, R)).1 (actS x (S, R)).2).map rwE) [] [] ∧ T6 (actS x (S, R)).1 (actS x (S, R)).2 ka kb ea eb ca cb := by
  have rv : ∀ (z : Prop) (l : List Rw) (mz : TV) f g, (z ∧ mz = .vec 5 (l.map rwE) .none) → (z ∧ mz.ren f g = .vec 5 (l.map rwE) .none) := fun z l mz f g ⟨h1, h2⟩ => ⟨h1, by subst h2; simp only [TV.ren, renLL_rw, Tok.ren]⟩
  refine (act_vcx h x (m := .vec 5 ((refL S R).map rwE) .none) (Ma := fun z mz => z = adA S (x.i, x.a, x.c) ∧ mz = .vec 5 ((refL (adS S (x.i, x.a, x.c)) R).map rwE) .none) (Mp := fun z mz => z = rpA S x.i x.p x.u ∧ mz = .vec 5 ((refL S (rpR S R x.i x.p x.u)).map rwE) .none) (Mr := fun z mz => z = hasS S x.i ∧ mz = .vec 5 ((refL (delS x.i S) (delR x.i R)).map rwE) .none)
    (fun f g => by simp only [TV.ren, renLL_rw, Tok.ren]) (fun z mz f g => rv _ _ mz f g) (fun z mz f g => rv _ _ mz f g) (fun z mz f g => rv _ _ mz f g) (rad_vcx g (x.i, x.a, x.c)) (rrm_vcx g x.i) (rrp_vcx g x.i x.p x.u)).mono ?_
  rintro r T' ⟨y, ka, kb, ea, eb, ca, cb, mz, rfl, rfl, h6, hy⟩
  have key : y = true ∧ mz = .vec 5 ((refL (actS x (S, R)).1 (actS x (S, R)).2).map rwE) .none := by
    unfold actY at hy
    unfold actS
    cases h0 : decide (x.k = 0)
    · rw [h0] at hy
      cases h1 : decide (x.k = 1)
      · rw [h1] at hy
        simp only [cond_false] at hy ⊢
        obtain ⟨z, ⟨rfl, rfl⟩, rfl⟩ := hy
        exact ⟨decide_eq_true rfl, rfl⟩
      · rw [h1] at hy
        simp only [cond_false, cond_true] at hy ⊢
        obtain ⟨z, ⟨rfl, rfl⟩, rfl⟩ := hy
        exact ⟨by simp, rfl⟩
    · rw [h0] at hy
      simp only [cond_true] at hy ⊢
      obtain ⟨z, ⟨rfl, rfl⟩, rfl⟩ := hy
      exact ⟨decide_eq_true rfl, rfl⟩
  obtain ⟨rfl, rfl⟩ := key
  exact ⟨ka, kb, ea, eb, ca, cb, rfl, rfl, h6⟩
/-! ### At the law's objects -/
theorem give_x0 (h : T6 S R lk lk2 es es2 ck ck2) (L : List Rw) (l : List VO) : VT.give (lT lk lk2 es es2 ck ck2 (mO (L.map rwE) :: l)) [2, 0, 1, 3] [] = xT lk lk2 es es2 ck ck2 (L.map rwE) [] [] := by
  have q1 := h.ren1 (nameIn [2, 0, 1, 3]) (nameIn [])
  have q2 := h.ren2 (nameIn [2, 0, 1, 3]) (nameIn [])
  have q3 := ren_mO (nameIn [2, 0, 1, 3]) (nameIn []) L
  simp only [VT.give, lT, List.map_cons, List.map_nil, List.getElem?_cons_zero, List.getElem?_cons_succ, Option.getD_some, q1, q2, q3, xT]
  rfl
theorem back_x0 {ka kb : Value → Option TV} {ea eb : List (Value × TV × Nat)} {ca cb : Nat} {S' : List SiT} {R' : RpM} (h : T6 S' R' ka kb ea eb ca cb) (L L' : List Rw) (l : List VO) :
    VT.back (lT lk lk2 es es2 ck ck2 (mO (L.map rwE) :: l)) [2, 0, 1, 3] [] (xT ka kb ea eb ca cb (L'.map rwE) [] []) = lT ka kb ea eb ca cb (mO (L'.map rwE) :: l) := by
  have r1 := h.ren1 (nameOut (l.length + 1 + 1 + 1 + 1) [2, 0, 1, 3]) (nameOut 0 [])
  have r2 := h.ren2 (nameOut (l.length + 1 + 1 + 1 + 1) [2, 0, 1, 3]) (nameOut 0 [])
  have r3 := ren_mO (nameOut (l.length + 1 + 1 + 1 + 1) [2, 0, 1, 3]) (nameOut 0 []) L'
  simp only [VT.back, lT, xT, List.length_cons, List.length_nil, List.map_cons, List.map_nil, r1, r2, r3, giveBack]
  simp [VO.ren, TV.ren, renL, nameOut]
variable {kc kd : Value → Option TV} {ec ed : List (Value × TV × Nat)} {cc cd : Nat}
theorem give_x4 (h : T6 S R kc kd ec ed cc cd) (L0 : List (List TV)) (L : List Rw) (l : List VO) : VT.give (l8T lk lk2 es es2 ck ck2 L0 kc kd ec ed cc cd (L.map rwE) l) [6, 4, 5, 7] [] = xT kc kd ec ed cc cd (L.map rwE) [] [] := by
  have q1 := h.ren1 (nameIn [6, 4, 5, 7]) (nameIn [])
  have q2 := h.ren2 (nameIn [6, 4, 5, 7]) (nameIn [])
  have q3 := ren_mO (nameIn [6, 4, 5, 7]) (nameIn []) L
  simp only [VT.give, l8T, lT, List.map_cons, List.map_nil, List.getElem?_cons_zero, List.getElem?_cons_succ, Option.getD_some, q1, q2, q3, xT]
  rfl
theorem back_x4 {ka kb : Value → Option TV} {ea eb : List (Value × TV × Nat)} {ca cb : Nat} {S' : List SiT} {R' : RpM} (h : T6 S' R' ka kb ea eb ca cb) (L0 L : List (List TV)) (L' : List Rw) (l : List VO) :
    VT.back (l8T lk lk2 es es2 ck ck2 L0 kc kd ec ed cc cd L l) [6, 4, 5, 7] [] (xT ka kb ea eb ca cb (L'.map rwE) [] []) = l8T lk lk2 es es2 ck ck2 L0 ka kb ea eb ca cb (L'.map rwE) l := by
  have r1 := h.ren1 (nameOut (l.length + 1 + 1 + 1 + 1 + 1 + 1 + 1 + 1) [6, 4, 5, 7]) (nameOut 0 [])
  have r2 := h.ren2 (nameOut (l.length + 1 + 1 + 1 + 1 + 1 + 1 + 1 + 1) [6, 4, 5, 7]) (nameOut 0 [])
  have r3 := ren_mO (nameOut (l.length + 1 + 1 + 1 + 1 + 1 + 1 + 1 + 1) [6, 4, 5, 7]) (nameOut 0 []) L'
  simp only [VT.back, l8T, lT, xT, List.length_cons, List.length_nil, List.map_cons, List.map_nil, r1, r2, r3, giveBack]
  simp [VO.ren, TV.ren, renL, nameOut]
theorem acX0_ok (g : Good S R) (h : T6 S R lk lk2 es es2 ck ck2) (x : Act6) : ∀ ro ys T K, acX (lT lk lk2 es es2 ck ck2 [mO ((refL S R).map rwE), .cells (actC x)]) [.ptr 2 0, .ptr 3 0, .agg (actC x)] (T6 (actS x (S, R)).1 (actS x (S, R)).2) (fun ka kb ea eb ca cb => lT ka kb ea eb ca cb [mO ((refL (actS x (S, R)).1 (actS x (S, R)).2).map rwE), .cells (actC x)]) ro ys T K → VCx Try.prog noGl ro acF ys T K := by
  rintro ro ys T K ⟨⟨rfl, rfl, rfl⟩, hk⟩
  refine (VCx.lift (xs := [.ptr 0 0, .ptr 3 0, .agg (actC x)]) [2, 0, 1, 3] [] gvals_noGl (by decide) List.nodup_nil (fun k hk => ?_) (by simp) (fun _ _ => Nat.zero_le _) rfl (by rw [give_x0 h]; exact actm_vcx g h x) (fun x T' hq => ?_)).mono ?_
  · simp only [List.mem_cons, List.not_mem_nil, or_false] at hk
    rcases hk with rfl | rfl | rfl | rfl <;> exact ⟨_, rfl, rfl⟩
  · obtain ⟨_, _, _, _, _, _, _, rfl, _⟩ := hq; exact ⟨Nat.le_refl 4, Nat.zero_le _⟩
  · rintro r T' ⟨y0, T2, ⟨ka, kb, ea, eb, ca, cb, rfl, rfl, h6⟩, rfl, rfl⟩
    rw [back_x0 h6]
    exact hk ka kb ea eb ca cb h6
theorem acX4_ok (g : Good S R) (h : T6 S R kc kd ec ed cc cd) (L0 : List (List TV)) (x : Act6) : ∀ ro ys T K, acX (l8T lk lk2 es es2 ck ck2 L0 kc kd ec ed cc cd ((refL S R).map rwE) [.cells (actC x)]) [.ptr 6 0, .ptr 7 0, .agg (actC x)] (T6 (actS x (S, R)).1 (actS x (S, R)).2) (fun ka kb ea eb ca cb => l8T lk lk2 es es2 ck ck2 L0 ka kb ea eb ca cb ((refL (actS x (S, R)).1 (actS x (S, R)).2).map rwE) [.cells (actC x)]) ro ys T K → VCx Try.prog noGl ro acF ys T K := by
  rintro ro ys T K ⟨⟨rfl, rfl, rfl⟩, hk⟩
  refine (VCx.lift (xs := [.ptr 0 0, .ptr 3 0, .agg (actC x)]) [6, 4, 5, 7] [] gvals_noGl (by decide) List.nodup_nil (fun k hk => ?_) (by simp) (fun _ _ => Nat.zero_le _) rfl (by rw [give_x4 h]; exact actm_vcx g h x) (fun x T' hq => ?_)).mono ?_
  · simp only [List.mem_cons, List.not_mem_nil, or_false] at hk
    rcases hk with rfl | rfl | rfl | rfl <;> exact ⟨_, rfl, rfl⟩
  · obtain ⟨_, _, _, _, _, _, _, rfl, _⟩ := hq; exact ⟨Nat.le_refl 4, Nat.zero_le _⟩
  · rintro r T' ⟨y0, T2, ⟨ka, kb, ea, eb, ca, cb, rfl, rfl, h6⟩, rfl, rfl⟩
    rw [back_x4 h6]
    exact hk ka kb ea eb ca cb h6
theorem lk0 (g : Good S R) (h : T6 S R lk lk2 es es2 ck ck2) (id n : Int) (l : List VO) (tl : List (Nat × Nat × Bool)) {K : TV → VT → Prop} (hk : K (.val (.bool true)) ⟨.map kI lk es ck :: .map kI lk2 es2 ck2 :: .cells [.map 0, .map 1] :: mO ((refL S R).map rwE) :: l, tl⟩) :
    VCx Try.prog noGl 0 lkF [.ptr 2 0, .ptr 3 0, .val (.int .i64 id), .val (.int .i64 n)] ⟨.map kI lk es ck :: .map kI lk2 es2 ck2 :: .cells [.map 0, .map 1] :: mO ((refL S R).map rwE) :: l, tl⟩ K := by
  have hg : VT.give ⟨.map kI lk es ck :: .map kI lk2 es2 ck2 :: .cells [.map 0, .map 1] :: mO ((refL S R).map rwE) :: l, tl⟩ [2, 0, 1, 3] [] = xT lk lk2 es es2 ck ck2 ((refL S R).map rwE) [] [] := give_x0 h (refL S R) l
  refine (VCx.lift (xs := [.ptr 0 0, .ptr 3 0, .val (.int .i64 id), .val (.int .i64 n)]) [2, 0, 1, 3] [] gvals_noGl (by decide) List.nodup_nil (fun k hk => ?_) (by simp) (fun _ _ => Nat.zero_le _) rfl (by rw [hg]; exact lk_vcx g h id n) (fun x T' hq => ?_)).mono ?_
  · simp only [List.mem_cons, List.not_mem_nil, or_false] at hk
    rcases hk with rfl | rfl | rfl | rfl <;> exact ⟨_, rfl, rfl⟩
  · rw [hq.2]; exact ⟨Nat.le_refl 4, Nat.zero_le _⟩
  · rintro r T' ⟨y0, T2, ⟨rfl, rfl⟩, rfl, rfl⟩
    have r1 := h.ren1 (nameOut (l.length + 1 + 1 + 1 + 1) [2, 0, 1, 3]) (nameOut tl.length [])
    have r2 := h.ren2 (nameOut (l.length + 1 + 1 + 1 + 1) [2, 0, 1, 3]) (nameOut tl.length [])
    have r3 := ren_mO (nameOut (l.length + 1 + 1 + 1 + 1) [2, 0, 1, 3]) (nameOut tl.length []) (refL S R)
    have hb : VT.back ⟨.map kI lk es ck :: .map kI lk2 es2 ck2 :: .cells [.map 0, .map 1] :: mO ((refL S R).map rwE) :: l, tl⟩ [2, 0, 1, 3] [] (xT lk lk2 es es2 ck ck2 ((refL S R).map rwE) [] []) = ⟨.map kI lk es ck :: .map kI lk2 es2 ck2 :: .cells [.map 0, .map 1] :: mO ((refL S R).map rwE) :: l, tl⟩ := by
      simp only [VT.back, xT, List.length_cons, List.map_cons, List.map_nil, r1, r2, r3, giveBack]
      simp [VO.ren, TV.ren, renL, nameOut]
    rw [hb]
    exact hk
theorem lk4 (g : Good S R) (h : T6 S R kc kd ec ed cc cd) (o0 o1 o2 o3 : VO) (id n : Int) (l : List VO) (tl : List (Nat × Nat × Bool)) {K : TV → VT → Prop} (hk : K (.val (.bool true)) ⟨o0 :: o1 :: o2 :: o3 :: .map kI kc ec cc :: .map kI kd ed cd :: .cells [.map 4, .map 5] :: mO ((refL S R).map rwE) :: l, tl⟩) :
    VCx Try.prog noGl 0 lkF [.ptr 6 0, .ptr 7 0, .val (.int .i64 id), .val (.int .i64 n)] ⟨o0 :: o1 :: o2 :: o3 :: .map kI kc ec cc :: .map kI kd ed cd :: .cells [.map 4, .map 5] :: mO ((refL S R).map rwE) :: l, tl⟩ K := by
  have hg : VT.give ⟨o0 :: o1 :: o2 :: o3 :: .map kI kc ec cc :: .map kI kd ed cd :: .cells [.map 4, .map 5] :: mO ((refL S R).map rwE) :: l, tl⟩ [6, 4, 5, 7] [] = xT kc kd ec ed cc cd ((refL S R).map rwE) [] [] := by
    have q1 := h.ren1 (nameIn [6, 4, 5, 7]) (nameIn [])
    have q2 := h.ren2 (nameIn [6, 4, 5, 7]) (nameIn [])
    have q3 := ren_mO (nameIn [6, 4, 5, 7]) (nameIn []) (refL S R)
    simp only [VT.give, List.map_cons, List.map_nil, List.getElem?_cons_zero, List.getElem?_cons_succ, Option.getD_some, q1, q2, q3, xT]
    rfl
  refine (VCx.lift (xs := [.ptr 0 0, .ptr 3 0, .val (.int .i64 id), .val (.int .i64 n)]) [6, 4, 5, 7] [] gvals_noGl (by decide) List.nodup_nil (fun k hk => ?_) (by simp) (fun _ _ => Nat.zero_le _) rfl (by rw [hg]; exact lk_vcx g h id n) (fun x T' hq => ?_)).mono ?_
  · simp only [List.mem_cons, List.not_mem_nil, or_false] at hk
    rcases hk with rfl | rfl | rfl | rfl <;> exact ⟨_, rfl, rfl⟩
  · rw [hq.2]; exact ⟨Nat.le_refl 4, Nat.zero_le _⟩
  · rintro r T' ⟨y0, T2, ⟨rfl, rfl⟩, rfl, rfl⟩
    have r1 := h.ren1 (nameOut (l.length + 1 + 1 + 1 + 1 + 1 + 1 + 1 + 1) [6, 4, 5, 7]) (nameOut tl.length [])
    have r2 := h.ren2 (nameOut (l.length + 1 + 1 + 1 + 1 + 1 + 1 + 1 + 1) [6, 4, 5, 7]) (nameOut tl.length [])
    have r3 := ren_mO (nameOut (l.length + 1 + 1 + 1 + 1 + 1 + 1 + 1 + 1) [6, 4, 5, 7]) (nameOut tl.length []) (refL S R)
    have hb : VT.back ⟨o0 :: o1 :: o2 :: o3 :: .map kI kc ec cc :: .map kI kd ed cd :: .cells [.map 4, .map 5] :: mO ((refL S R).map rwE) :: l, tl⟩ [6, 4, 5, 7] [] (xT kc kd ec ed cc cd ((refL S R).map rwE) [] []) = ⟨o0 :: o1 :: o2 :: o3 :: .map kI kc ec cc :: .map kI kd ed cd :: .cells [.map 4, .map 5] :: mO ((refL S R).map rwE) :: l, tl⟩ := by
      simp only [VT.back, xT, List.length_cons, List.map_cons, List.map_nil, r1, r2, r3, giveBack]
      simp [VO.ren, TV.ren, renL, nameOut]
    rw [hb]
    exact hk
end
end Go.Proofs.Ytgconkbnokbinaa
