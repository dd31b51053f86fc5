/- Siblings: the contract of act. -/
import Derived.Test.YtgconkbnokbinaaMbSbLbE
namespace Go.Proofs.Ytgconkbnokbinaa
open Go.RowKit Go.Maps Go.Sort

theorem cond_both {b : Bool} {A B : Prop} (ha : A) (hb : B) : bif b then A else B := by cases b; exact hb; exact ha
def T6 (S : List SiT) (R : RpM) : Tb6 := fun lk lk2 es es2 ck ck2 => ∃ st, SitesOk lk es ck S st ∧ RepsOk lk2 es2 R
section
variable {lk lk2 : Value → Option TV} {es es2 : List (Value × TV × Nat)} {ck ck2 : Nat} {S : List SiT} {R : RpM}
theorem T6.ren1 (h : T6 S R lk lk2 es es2 ck ck2) (f g : Nat → Option Nat) : VO.ren f g (.map kI lk es ck) = .map kI lk es ck := by
  obtain ⟨st, h1, h2⟩ := h; exact h1.ren f g
theorem T6.ren2 (h : T6 S R lk lk2 es es2 ck ck2) (f g : Nat → Option Nat) : VO.ren f g (.map kI lk2 es2 ck2) = .map kI lk2 es2 ck2 := by
  obtain ⟨st, h1, h2⟩ := h; exact h2.ren ck2 f g
theorem T6.tab (h : T6 S R lk lk2 es es2 ck ck2) : TabOk S R (sT lk lk2 es es2 ck ck2) := by
  obtain ⟨st, h1, h2⟩ := h; exact ⟨_, _, _, _, _, _, st, rfl, h1, h2⟩
theorem TabOk.t6 {T : VT} (h : TabOk S R T) : ∃ ka kb ea eb ca cb, T = sT ka kb ea eb ca cb ∧ T6 S R ka kb ea eb ca cb := by
  obtain ⟨ka, kb, ea, eb, ca, cb, st, rfl, h1, h2⟩ := h; exact ⟨_, _, _, _, _, _, rfl, st, h1, h2⟩
theorem give_sT (h : T6 S R lk lk2 es es2 ck ck2) (l : List VO) (tl : List (Nat × Nat × Bool)) : VT.give ⟨.cells [.map 1, .map 2] :: .map kI lk es ck :: .map kI lk2 es2 ck2 :: l, tl⟩ [0, 1, 2] [] = sT lk lk2 es es2 ck ck2 := by
  have q1 := h.ren1 (nameIn [0, 1, 2]) (nameIn [])
  have q2 := h.ren2 (nameIn [0, 1, 2]) (nameIn [])
  simp only [VT.give, List.map_cons, List.map_nil, List.getElem?_cons_zero, List.getElem?_cons_succ, Option.getD_some, q1, q2, sT]
  rfl
theorem back_sT {ka kb : Value → Option TV} {ea eb : List (Value × TV × Nat)} {ca cb : Nat} {S' : List SiT} {R' : RpM} (h : T6 S' R' ka kb ea eb ca cb) (l : List VO) (tl : List (Nat × Nat × Bool)) :
    VT.back ⟨.cells [.map 1, .map 2] :: .map kI lk es ck :: .map kI lk2 es2 ck2 :: l, tl⟩ [0, 1, 2] [] (sT ka kb ea eb ca cb) = ⟨.cells [.map 1, .map 2] :: .map kI ka ea ca :: .map kI kb eb cb :: l, tl⟩ := by
  have r1 := h.ren1 (nameOut (l.length + 1 + 1 + 1) [0, 1, 2]) (nameOut tl.length [])
  have r2 := h.ren2 (nameOut (l.length + 1 + 1 + 1) [0, 1, 2]) (nameOut tl.length [])
  simp only [VT.back, sT, List.length_cons, List.map_cons, List.map_nil, r1, r2, giveBack]
  simp [VO.ren, TV.ren, renL, nameOut]
theorem tWi_ok (h : T6 S R lk lk2 es es2 ck ck2) {f : FuncId} {ys0 : List TV} {Tb : TbI} (hb : ∀ y ka kb ea eb ca cb, Tb y ka kb ea eb ca cb → ∃ S' R', T6 S' R' ka kb ea eb ca cb) (hy : renL (nameIn [0, 1, 2]) (nameIn []) ys0 = ys0)
    (hv : VCx Try.prog noGl 0 f ys0 (sT lk lk2 es es2 ck ck2) fun x T' => ∃ y ka kb ea eb ca cb, x = .val (.int .i64 y) ∧ T' = sT ka kb ea eb ca cb ∧ Tb y ka kb ea eb ca cb) :
    ∀ ro ys T K, tWi (sT lk lk2 es es2 ck ck2).objs ys0 Tb ro ys T K → VCx Try.prog noGl ro f ys T K := by
  rintro ro ys ⟨os, tl⟩ K ⟨⟨rfl, rfl, hos⟩, hk⟩
  match os, hos with
  | o0 :: o1 :: o2 :: l, hos =>
    simp only [List.take_succ_cons, List.take_zero, sT, List.cons.injEq, and_true] at hos
    obtain ⟨rfl, rfl, rfl⟩ := hos
    refine (VCx.lift (xs := ys) [0, 1, 2] [] gvals_noGl (by decide) List.nodup_nil (fun k hk => ?_) (by simp) (fun _ _ => Nat.zero_le _) hy (by rw [give_sT h]; exact hv) (fun x T' hq => ?_)).mono ?_
    · simp only [List.mem_cons, List.not_mem_nil, or_false] at hk
      rcases hk with rfl | rfl | rfl
      · exact ⟨_, rfl, rfl⟩
      · exact ⟨_, rfl, rfl⟩
      · exact ⟨_, rfl, rfl⟩
    · obtain ⟨_, _, _, _, _, _, _, _, rfl, _⟩ := hq; exact ⟨Nat.le_refl 3, Nat.zero_le _⟩
    · rintro x T' ⟨y0, T2, ⟨y, ka, kb, ea, eb, ca, cb, rfl, rfl, hb'⟩, rfl, rfl⟩
      obtain ⟨S', R', h'⟩ := hb _ _ _ _ _ _ _ hb'
      rw [back_sT h']
      exact hk y ka kb ea eb ca cb hb'
theorem tWb_ok (h : T6 S R lk lk2 es es2 ck ck2) {f : FuncId} {ys0 : List TV} {Tb : TbB} (hb : ∀ y ka kb ea eb ca cb, Tb y ka kb ea eb ca cb → ∃ S' R', T6 S' R' ka kb ea eb ca cb) (hy : renL (nameIn [0, 1, 2]) (nameIn []) ys0 = ys0)
    (hv : VCx Try.prog noGl 0 f ys0 (sT lk lk2 es es2 ck ck2) fun x T' => ∃ y ka kb ea eb ca cb, x = .val (.bool y) ∧ T' = sT ka kb ea eb ca cb ∧ Tb y ka kb ea eb ca cb) :
    ∀ ro ys T K, tWb (sT lk lk2 es es2 ck ck2).objs ys0 Tb ro ys T K → VCx Try.prog noGl ro f ys T K := by
  rintro ro ys ⟨os, tl⟩ K ⟨⟨rfl, rfl, hos⟩, hk⟩
  match os, hos with
  | o0 :: o1 :: o2 :: l, hos =>
    simp only [List.take_succ_cons, List.take_zero, sT, List.cons.injEq, and_true] at hos
    obtain ⟨rfl, rfl, rfl⟩ := hos
    refine (VCx.lift (xs := ys) [0, 1, 2] [] gvals_noGl (by decide) List.nodup_nil (fun k hk => ?_) (by simp) (fun _ _ => Nat.zero_le _) hy (by rw [give_sT h]; exact hv) (fun x T' hq => ?_)).mono ?_
    · simp only [List.mem_cons, List.not_mem_nil, or_false] at hk
      rcases hk with rfl | rfl | rfl
      · exact ⟨_, rfl, rfl⟩
      · exact ⟨_, rfl, rfl⟩
      · exact ⟨_, rfl, rfl⟩
    · obtain ⟨_, _, _, _, _, _, _, _, rfl, _⟩ := hq; exact ⟨Nat.le_refl 3, Nat.zero_le _⟩
    · rintro x T' ⟨y0, T2, ⟨y, ka, kb, ea, eb, ca, cb, rfl, rfl, hb'⟩, rfl, rfl⟩
      obtain ⟨S', R', h'⟩ := hb _ _ _ _ _ _ _ hb'
      rw [back_sT h']
      exact hk y ka kb ea eb ca cb hb'
end
theorem mWi_ok {f : FuncId} {ys0 ys1 : List TV} {m0 : TV} {Mb : Int → TV → Prop} (hm0 : ∀ f g, m0.ren f g = m0) (hMb : ∀ z mz f g, Mb z mz → Mb z (mz.ren f g)) (hy : renL (nameIn [3]) (nameIn []) ys0 = ys1)
    (hv : VCx Try.prog noGl 0 f ys1 ⟨[.cells [m0]], []⟩ fun x T' => ∃ z mz, x = .val (.int .i64 z) ∧ T' = ⟨[.cells [mz]], []⟩ ∧ Mb z mz) :
    ∀ ro ys T K, mWi m0 ys0 Mb ro ys T K → VCx Try.prog noGl ro f ys T K := by
  rintro ro ys T K ⟨⟨rfl, rfl, ho⟩, hk⟩
  have hg : T.give [3] [] = ⟨[.cells [m0]], []⟩ := by simp only [VT.give, List.map_cons, List.map_nil, ho, Option.getD_some, VO.ren, renL, hm0]
  refine (VCx.lift (xs := ys1) [3] [] gvals_noGl (by decide) List.nodup_nil (fun k hk => ?_) (by simp) (fun _ _ => Nat.zero_le _) hy (by rw [hg]; exact hv) (fun x T' hq => ?_)).mono ?_
  · obtain rfl := List.mem_singleton.1 hk; exact ⟨_, ho, rfl⟩
  · obtain ⟨z, mz, rfl, rfl, _⟩ := hq; exact ⟨Nat.le_refl 1, Nat.zero_le _⟩
  · rintro x T' ⟨y0, T2, ⟨z, mz, rfl, rfl, hM⟩, rfl, rfl⟩
    have hbk : T.back [3] [] ⟨[.cells [mz]], []⟩ = { T with objs := T.objs.set 3 (.cells [mz.ren (nameOut T.objs.length [3]) (nameOut T.tails.length [])]) } := by simp [VT.back, giveBack, VO.ren, renL]
    rw [hbk]
    exact hk z _ (hMb z mz _ _ hM)
theorem mWb_ok {f : FuncId} {ys0 ys1 : List TV} {m0 : TV} {Mb : Bool → TV → Prop} (hm0 : ∀ f g, m0.ren f g = m0) (hMb : ∀ z mz f g, Mb z mz → Mb z (mz.ren f g)) (hy : renL (nameIn [3]) (nameIn []) ys0 = ys1)
    (hv : VCx Try.prog noGl 0 f ys1 ⟨[.cells [m0]], []⟩ fun x T' => ∃ z mz, x = .val (.bool z) ∧ T' = ⟨[.cells [mz]], []⟩ ∧ Mb z mz) :
    ∀ ro ys T K, mWb m0 ys0 Mb ro ys T K → VCx Try.prog noGl ro f ys T K := by
  rintro ro ys T K ⟨⟨rfl, rfl, ho⟩, hk⟩
  have hg : T.give [3] [] = ⟨[.cells [m0]], []⟩ := by simp only [VT.give, List.map_cons, List.map_nil, ho, Option.getD_some, VO.ren, renL, hm0]
  refine (VCx.lift (xs := ys1) [3] [] gvals_noGl (by decide) List.nodup_nil (fun k hk => ?_) (by simp) (fun _ _ => Nat.zero_le _) hy (by rw [hg]; exact hv) (fun x T' hq => ?_)).mono ?_
  · obtain rfl := List.mem_singleton.1 hk; exact ⟨_, ho, rfl⟩
  · obtain ⟨z, mz, rfl, rfl, _⟩ := hq; exact ⟨Nat.le_refl 1, Nat.zero_le _⟩
  · rintro x T' ⟨y0, T2, ⟨z, mz, rfl, rfl, hM⟩, rfl, rfl⟩
    have hbk : T.back [3] [] ⟨[.cells [mz]], []⟩ = { T with objs := T.objs.set 3 (.cells [mz.ren (nameOut T.objs.length [3]) (nameOut T.tails.length [])]) } := by simp [VT.back, giveBack, VO.ren, renL]
    rw [hbk]
    exact hk z _ (hMb z mz _ _ hM)
/-- what is done: kind, number, address, cost, capacity, until -/
structure Act6 where
  k : Int
  i : Int
  a : Int
  c : Int
  p : Int
  u : Int
def actC (x : Act6) : List TV := acC x.k x.i x.a x.c x.p x.u
def actS (x : Act6) (s : List SiT × RpM) : List SiT × RpM := bif decide (x.k = 0) then (adS s.1 (x.i, x.a, x.c), s.2) else bif decide (x.k = 1) then (delS x.i s.1, delR x.i s.2) else (s.1, rpR s.1 s.2 x.i x.p x.u)
/-- what act says: ma, mr, mp: what the reference does -/
def actY (S : List SiT) (x : Act6) (Ma Mp : Int → TV → Prop) (Mr : Bool → TV → Prop) (y : Bool) (mz : TV) : Prop := bif decide (x.k = 0) then (∃ z, Ma z mz ∧ y = decide (adA S (x.i, x.a, x.c) = z)) else bif decide (x.k = 1) then (∃ z, Mr z mz ∧ y = (hasS S x.i == z)) else ∃ z, Mp z mz ∧ y = decide (rpA S x.i x.p x.u = z)
theorem eqB (x y : Bool) : eqRes BinOp.eql (keyEq (.bool x) (.bool y)) = (x == y) := by cases x <;> cases y <;> rfl
theorem act_vcx {lk lk2 : Value → Option TV} {es es2 : List (Value × TV × Nat)} {ck ck2 : Nat} {S : List SiT} {R : RpM} (h : T6 S R lk lk2 es es2 ck ck2) (x : Act6) {m : TV} {Ma Mp : Int → TV → Prop} {Mr : Bool → TV → Prop}
    (hm : ∀ f g, m.ren f g = m) (hMa : ∀ z mz f g, Ma z mz → Ma z (mz.ren f g)) (hMp : ∀ z mz f g, Mp z mz → Mp z (mz.ren f g)) (hMr : ∀ z mz f g, Mr z mz → Mr z (mz.ren f g))
    (va : VCx Try.prog noGl 0 rAdF [.ptr 0 0, .agg (siC x.i x.a x.c)] ⟨[.cells [m]], []⟩ fun x T' => ∃ z mz, x = .val (.int .i64 z) ∧ T' = ⟨[.cells [mz]], []⟩ ∧ Ma z mz)
    (vr : VCx Try.prog noGl 0 rRmF [.ptr 0 0, .val (.int .i64 x.i)] ⟨[.cells [m]], []⟩ fun x T' => ∃ z mz, x = .val (.bool z) ∧ T' = ⟨[.cells [mz]], []⟩ ∧ Mr z mz)
    (vp : VCx Try.prog noGl 0 rRpF [.ptr 0 0, .val (.int .i64 x.i), .val (.int .i64 x.p), .val (.int .i64 x.u)] ⟨[.cells [m]], []⟩ fun x T' => ∃ z mz, x = .val (.int .i64 z) ∧ T' = ⟨[.cells [mz]], []⟩ ∧ Mp z mz) :
    VCx Try.prog noGl 0 acF [.ptr 0 0, .ptr 3 0, .agg (actC x)] (aT lk lk2 es es2 ck ck2 m) fun r T' => ∃ y ka kb ea eb ca cb mz, r = .val (.bool y) ∧ T' = aT ka kb ea eb ca cb mz ∧ T6 (actS x (S, R)).1 (actS x (S, R)).2 ka kb ea eb ca cb ∧ actY S x Ma Mp Mr y mz := by
  obtain ⟨k, i, a, c, p, u⟩ := x
  simp only [actC, actS, actY] at *
  have keepE : ∀ {ka kb : Value → Option TV} {ea eb : List (Value × TV × Nat)} {ca cb : Nat} {S' : List SiT} {R' : RpM} (_ : T6 S' R' ka kb ea eb ca cb) (mz : TV) (l : List VO), VT.keep ⟨.cells [.map 1, .map 2] :: .map kI ka ea ca :: .map kI kb eb cb :: .cells [mz] :: l, []⟩ 4 0 = aT ka kb ea eb ca cb (mz.ren (Go.Proofs.Ytgconkbnokbinaa.keep 4) (Go.Proofs.Ytgconkbnokbinaa.keep 0)) := by
    intro ka kb ea eb ca cb S' R' h' mz l
    have e1 := h'.ren1 (Go.Proofs.Ytgconkbnokbinaa.keep 4) (Go.Proofs.Ytgconkbnokbinaa.keep 0)
    have e2 := h'.ren2 (Go.Proofs.Ytgconkbnokbinaa.keep 4) (Go.Proofs.Ytgconkbnokbinaa.keep 0)
    simp only [VT.keep, List.take_succ_cons, List.take_zero, List.map_cons, List.map_nil, e1, e2, aT]
    rfl
  refine VCx.keepQ 4 0 (Nat.le_refl _) (Nat.le_refl _) (vcallF_is mixedB_Try bodiesB_Try (specs_ok fun q hq => ?_) lsOk_none
    (ev_ac lk lk2 es es2 ck ck2 m k i a c p u (fun y ka kb ea eb ca cb => y = adA S (i, a, c) ∧ T6 (adS S (i, a, c)) R ka kb ea eb ca cb) (fun y ka kb ea eb ca cb => y = rpA S i p u ∧ T6 S (rpR S R i p u) ka kb ea eb ca cb) (fun y ka kb ea eb ca cb => y = hasS S i ∧ T6 (delS i S) (delR i R) ka kb ea eb ca cb) Ma Mp Mr _) ?_)
  · simp only [List.mem_cons, List.not_mem_nil, or_false] at hq
    rcases hq with rfl | rfl | rfl | rfl | rfl | rfl
    · exact tWi_ok h (fun _ _ _ _ _ _ _ hb => ⟨_, _, hb.2⟩) rfl ((ad_vcx h.tab (i, a, c)).mono fun x T' ⟨hx, ht⟩ => by
        obtain ⟨ka, kb, ea, eb, ca, cb, hT, h6⟩ := ht.t6
        exact ⟨_, _, _, _, _, _, _, hx, hT, rfl, h6⟩)
    · exact tWb_ok h (fun _ _ _ _ _ _ _ hb => ⟨_, _, hb.2⟩) rfl ((rm_vcx h.tab i).mono fun x T' ⟨hx, ht⟩ => by
        obtain ⟨ka, kb, ea, eb, ca, cb, hT, h6⟩ := ht.t6
        exact ⟨_, _, _, _, _, _, _, hx, hT, rfl, h6⟩)
    · exact tWi_ok h (fun _ _ _ _ _ _ _ hb => ⟨_, _, hb.2⟩) rfl ((rp_vcx h.tab i p u).mono fun x T' ⟨hx, ht⟩ => by
        obtain ⟨ka, kb, ea, eb, ca, cb, hT, h6⟩ := ht.t6
        exact ⟨_, _, _, _, _, _, _, hx, hT, rfl, h6⟩)
    · exact mWi_ok hm hMa rfl va
    · exact mWb_ok hm hMr rfl vr
    · exact mWi_ok hm hMp rfl vp
  · by_cases k0 : k = 0
    · simp only [decide_eq_true k0, cond_true]
      refine condT (by rw [eqI]; exact decide_eq_true k0) ⟨(by simp), fun y ka kb ea eb ca cb ⟨hy, h6⟩ => ⟨(by simp), (by simp), fun z mz hz => ⟨_, ka, kb, ea, eb, ca, cb, _, rfl, keepE h6 mz _, h6, z, hMa z mz _ _ hz, ?_⟩⟩⟩
      rw [eqI, hy]
    · simp only [decide_eq_false k0, cond_false]
      refine condF (by rw [eqI]; exact decide_eq_false k0) ?_
      by_cases k1 : k = 1
      · simp only [decide_eq_true k1, cond_true]
        refine condT (by rw [eqI]; exact decide_eq_true k1) ⟨(by simp), fun y ka kb ea eb ca cb ⟨hy, h6⟩ => ⟨(by simp), (by simp), fun z mz hz => ⟨_, ka, kb, ea, eb, ca, cb, _, rfl, keepE h6 mz _, h6, z, hMr z mz _ _ hz, ?_⟩⟩⟩
        rw [eqB, hy]
      · simp only [decide_eq_false k1, cond_false]
        refine condF (by rw [eqI]; exact decide_eq_false k1) ⟨(by simp), fun y ka kb ea eb ca cb ⟨hy, h6⟩ => ⟨(by simp), (by simp), fun z mz hz => ⟨_, ka, kb, ea, eb, ca, cb, _, rfl, keepE h6 mz _, h6, z, hMp z mz _ _ hz, ?_⟩⟩⟩
        rw [eqI, hy]
/-- act, with a reference that is empty -/
theorem act0_vcx {lk lk2 : Value → Option TV} {es es2 : List (Value × TV × Nat)} {ck ck2 : Nat} {S : List SiT} {R : RpM} (h : T6 S R lk lk2 es es2 ck ck2) (x : Act6) :
    VCx Try.prog noGl 0 acF [.ptr 0 0, .ptr 3 0, .agg (actC x)] (aT lk lk2 es es2 ck ck2 (.val (.slice none 0 0))) fun r T' => ∃ y ka kb ea eb ca cb mz, r = .val (.bool y) ∧ T' = aT ka kb ea eb ca cb mz ∧ T6 (actS x (S, R)).1 (actS x (S, R)).2 ka kb ea eb ca cb := by
  refine (act_vcx h x (m := .val (.slice none 0 0)) (Ma := fun _ _ => True) (Mp := fun _ _ => True) (Mr := fun _ _ => True) (fun _ _ => rfl) (fun _ _ _ _ _ => trivial) (fun _ _ _ _ _ => trivial) (fun _ _ _ _ _ => trivial)
    (VCx.keepQ 1 0 (Nat.le_refl _) (Nat.le_refl _) (vcallF_is mixedB_Try bodiesB_Try specsOk_none lsOk_none (ev_ra0 x.i x.a x.c _) ?_))
    (VCx.keepQ 1 0 (Nat.le_refl _) (Nat.le_refl _) (vcallF_is mixedB_Try bodiesB_Try specsOk_none lsOk_none (ev_rr0 x.i _) ⟨_, _, rfl, rfl, trivial⟩))
    (VCx.keepQ 1 0 (Nat.le_refl _) (Nat.le_refl _) (vcallF_is mixedB_Try bodiesB_Try specsOk_none lsOk_none (ev_rp0 x.i x.p x.u _) ⟨_, _, rfl, rfl, trivial⟩))).mono ?_
  · exact cond_both ⟨_, _, rfl, rfl, trivial⟩ (cond_both ⟨_, _, rfl, rfl, trivial⟩ (cond_both ⟨_, _, rfl, rfl, trivial⟩ (cond_both ⟨_, _, rfl, rfl, trivial⟩ (cond_both ⟨_, _, rfl, rfl, trivial⟩ ⟨⟨rfl, rfl, rfl, trivial⟩, ⟨rfl, rfl, rfl, trivial⟩, _, _, rfl, rfl, trivial⟩))))
  · rintro r T' ⟨y, ka, kb, ea, eb, ca, cb, mz, h1, h2, h3, _⟩
    exact ⟨y, ka, kb, ea, eb, ca, cb, mz, h1, h2, h3⟩
end Go.Proofs.Ytgconkbnokbinaa
