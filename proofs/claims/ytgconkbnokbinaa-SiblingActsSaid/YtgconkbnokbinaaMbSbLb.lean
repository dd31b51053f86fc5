/- SiblingBest: the law returns true. -/
import Derived.Test.YtgconkbnokbinaaMbSbAct
namespace Go.Proofs.Ytgconkbnokbinaa
open Go.RowKit Go.Maps Go.Sort

def noS : Spec := fun _ _ _ _ => False
set_option maxRecDepth 100000 in
theorem ev_la2 (L : List (List TV)) (n : Int) (Q : TV → VT → Prop) : vcallF Try.prog noGl (specs [(neF, noS), (lvF, trueW)]) noOra 300 noLp 0 laF [.vec 6 L .none, .val (.int .i64 n)] ⟨[], []⟩ Q =
 (bif decide ((↑(List.length L) : Int) > (100 : Int))
 then Q (.val (.bool true)) ⟨[], []⟩
 else (bif decide (n < (0 : Int))
 then Q (.val (.bool true)) ⟨[], []⟩
 else (bif decide (n > (1099511627776 : Int))
 then Q (.val (.bool true)) ⟨[], []⟩
 else False ))) := by kernel_rfl
section
variable {lk lk2 : Value → Option TV} {es es2 : List (Value × TV × Nat)} {ck ck2 : Nat} {S : List SiT} {R : RpM}
theorem give_lT (h : T6 S R lk lk2 es es2 ck ck2) (l : List VO) (tl : List (Nat × Nat × Bool)) : VT.give ⟨.map kI lk es ck :: .map kI lk2 es2 ck2 :: .cells [.map 0, .map 1] :: l, tl⟩ [2, 0, 1] [] = sT lk lk2 es es2 ck ck2 := by
  have q1 := h.ren1 (nameIn [2, 0, 1]) (nameIn [])
  have q2 := h.ren2 (nameIn [2, 0, 1]) (nameIn [])
  simp only [VT.give, List.map_cons, List.map_nil, List.getElem?_cons_zero, List.getElem?_cons_succ, Option.getD_some, q1, q2, sT]
  rfl
theorem back_lT {ka kb : Value → Option TV} {ea eb : List (Value × TV × Nat)} {ca cb : Nat} {S' : List SiT} {R' : RpM} (h : T6 S' R' ka kb ea eb ca cb) (l : List VO) (tl : List (Nat × Nat × Bool)) :
    VT.back ⟨.map kI lk es ck :: .map kI lk2 es2 ck2 :: .cells [.map 0, .map 1] :: l, tl⟩ [2, 0, 1] [] (sT ka kb ea eb ca cb) = ⟨.map kI ka ea ca :: .map kI kb eb cb :: .cells [.map 0, .map 1] :: l, tl⟩ := by
  have r1 := h.ren1 (nameOut (l.length + 1 + 1 + 1) [2, 0, 1]) (nameOut tl.length [])
  have r2 := h.ren2 (nameOut (l.length + 1 + 1 + 1) [2, 0, 1]) (nameOut tl.length [])
  simp only [VT.back, sT, List.length_cons, List.map_cons, List.map_nil, r1, r2, giveBack]
  simp [VO.ren, TV.ren, renL, nameOut]
theorem tabAt_inv {Tb : Tb6} {T : VT} (h : tabAt Tb T) : ∃ lk lk2 es es2 ck ck2 l, T.objs = .map kI lk es ck :: .map kI lk2 es2 ck2 :: .cells [.map 0, .map 1] :: l ∧ Tb lk lk2 es es2 ck ck2 := by
  unfold tabAt at h
  split at h
  · rename_i s1 lk es ck s2 lk2 es2 ck2 l hT
    obtain ⟨h1, h2⟩ := h
    rw [hT] at h1
    match l, h1 with
    | o :: l, h1 =>
      simp only [List.take_succ_cons, List.take_zero, lT, List.cons.injEq, and_true] at h1
      obtain ⟨e1, e2, rfl⟩ := h1
      rw [e1, e2] at hT
      exact ⟨_, _, _, _, _, _, l, hT, h2⟩
  · exact h.elim
/-- a function that looks at the table, and turns nothing -/
theorem look_lT {f : FuncId} {ys0 ys1 : List TV} {x0 : TV} (h : T6 S R lk lk2 es es2 ck ck2) (hy : renL (nameIn [2, 0, 1]) (nameIn []) ys0 = ys1) (hx : ∀ f g, x0.ren f g = x0)
    (hv : VCx Try.prog noGl 0 f ys1 (sT lk lk2 es es2 ck ck2) fun x T' => x = x0 ∧ T' = sT lk lk2 es es2 ck ck2) (l : List VO) (tl : List (Nat × Nat × Bool)) {K : TV → VT → Prop} (hk : K x0 ⟨.map kI lk es ck :: .map kI lk2 es2 ck2 :: .cells [.map 0, .map 1] :: l, tl⟩) :
    VCx Try.prog noGl 0 f ys0 ⟨.map kI lk es ck :: .map kI lk2 es2 ck2 :: .cells [.map 0, .map 1] :: l, tl⟩ K := by
  refine (VCx.lift (xs := ys1) [2, 0, 1] [] gvals_noGl (by decide) List.nodup_nil (fun k hk => ?_) (by simp) (fun _ _ => Nat.zero_le _) hy (by rw [give_lT h]; exact hv) (fun x T' hq => ?_)).mono ?_
  · simp only [List.mem_cons, List.not_mem_nil, or_false] at hk
    rcases hk with rfl | rfl | rfl
    · exact ⟨_, rfl, rfl⟩
    · exact ⟨_, rfl, rfl⟩
    · exact ⟨_, rfl, rfl⟩
  · rw [hq.2]; exact ⟨Nat.le_refl 3, Nat.zero_le _⟩
  · rintro x T' ⟨y, T2, ⟨rfl, rfl⟩, rfl, rfl⟩
    rw [back_lT h, hx]
    exact hk
theorem tbLW_ok {f : FuncId} {ys0 ys1 : List TV} {x0 : TV} (hy : renL (nameIn [2, 0, 1]) (nameIn []) ys0 = ys1) (hx : ∀ f g, x0.ren f g = x0)
    (hv : ∀ {lk lk2 : Value → Option TV} {es es2 : List (Value × TV × Nat)} {ck ck2 : Nat}, T6 S R lk lk2 es es2 ck ck2 → VCx Try.prog noGl 0 f ys1 (sT lk lk2 es es2 ck ck2) fun x T' => x = x0 ∧ T' = sT lk lk2 es es2 ck ck2) :
    ∀ ro ys T K, tbLW (T6 S R) ys0 x0 ro ys T K → VCx Try.prog noGl ro f ys T K := by
  rintro ro ys ⟨os, tl⟩ K ⟨⟨rfl, rfl, ht⟩, hk⟩
  obtain ⟨lk, lk2, es, es2, ck, ck2, l, hT, h6⟩ := tabAt_inv ht
  simp only at hT
  subst hT
  exact look_lT h6 hy hx (hv h6) l tl hk
theorem cpLW_ok (h : T6 S R lk lk2 es es2 ck ck2) : ∀ ro ys T K, cpLW (lT lk lk2 es es2 ck ck2 []).objs (capR R) ro ys T K → VCx Try.prog noGl ro cpF ys T K := by
  rintro ro ys ⟨os, tl⟩ K hw
  unfold cpLW at hw
  split at hw
  · rename_i i n
    obtain ⟨⟨rfl, hos⟩, hk⟩ := hw
    match os, hos with
    | o0 :: o1 :: o2 :: l, hos =>
      simp only [List.take_succ_cons, List.take_zero, lT, List.cons.injEq, and_true] at hos
      obtain ⟨rfl, rfl, rfl⟩ := hos
      refine look_lT (x0 := .val (.int .i64 (capR R i n))) h rfl (fun _ _ => rfl) ?_ l tl hk
      obtain ⟨st, h1, h2⟩ := h
      exact cp_vcx h1 h2 i n
  · exact hw.elim
theorem give_lT4 (h : T6 S R lk lk2 es es2 ck ck2) (x : Act6) : VT.give (lT lk lk2 es es2 ck ck2 [.cells (actC x), .cells [.val (.slice none 0 0)]]) [2, 0, 1, 4] [] = aT lk lk2 es es2 ck ck2 (.val (.slice none 0 0)) := by
  have q1 := h.ren1 (nameIn [2, 0, 1, 4]) (nameIn [])
  have q2 := h.ren2 (nameIn [2, 0, 1, 4]) (nameIn [])
  simp only [VT.give, lT, List.map_cons, List.map_nil, List.getElem?_cons_zero, List.getElem?_cons_succ, Option.getD_some, q1, q2, aT]
  rfl
theorem acW_ok (h : T6 S R lk lk2 es es2 ck ck2) (x : Act6) : ∀ ro ys T K, acW (lT lk lk2 es es2 ck ck2 [.cells (actC x), .cells [.val (.slice none 0 0)]]) [.ptr 2 0, .ptr 4 0, .agg (actC x)] [.cells (actC x)] (fun _ => T6 (actS x (S, R)).1 (actS x (S, R)).2) ro ys T K → VCx Try.prog noGl ro acF ys T K := by
  rintro ro ys T K ⟨⟨rfl, rfl, rfl⟩, hk⟩
  have ha : ∀ f g, renL f g (actC x) = actC x := fun f g => rfl
  refine (VCx.lift (xs := [.ptr 0 0, .ptr 3 0, .agg (actC x)]) [2, 0, 1, 4] [] gvals_noGl (by decide) List.nodup_nil (fun k hk => ?_) (by simp) (fun _ _ => Nat.zero_le _) rfl (by rw [give_lT4 h]; exact act0_vcx h x) (fun x T' hq => ?_)).mono ?_
  · simp only [List.mem_cons, List.not_mem_nil, or_false] at hk
    rcases hk with rfl | rfl | rfl | rfl <;> exact ⟨_, rfl, rfl⟩
  · obtain ⟨_, _, _, _, _, _, _, _, _, rfl, _⟩ := hq; exact ⟨Nat.le_refl 4, Nat.zero_le _⟩
  · rintro r T' ⟨y0, T2, ⟨y, ka, kb, ea, eb, ca, cb, mz, rfl, rfl, h6⟩, rfl, rfl⟩
    have r1 := h6.ren1 (nameOut 5 [2, 0, 1, 4]) (nameOut 0 [])
    have r2 := h6.ren2 (nameOut 5 [2, 0, 1, 4]) (nameOut 0 [])
    have hb : VT.back (lT lk lk2 es es2 ck ck2 [.cells (actC x), .cells [.val (.slice none 0 0)]]) [2, 0, 1, 4] [] (aT ka kb ea eb ca cb mz) = lT ka kb ea eb ca cb ([.cells (actC x)] ++ [.cells [mz.ren (nameOut 5 [2, 0, 1, 4]) (nameOut 0 [])]]) := by
      simp only [VT.back, aT, lT, List.length_cons, List.length_nil, List.map_cons, List.map_nil, Nat.reduceAdd, r1, r2, giveBack]
      simp [VO.ren, TV.ren, renL, nameOut]
    rw [hb]
    exact hk y ka kb ea eb ca cb _ h6
end
theorem neW_ok : ∀ ro ys T K, neW ro ys T K → VCx Try.prog noGl ro neF ys T K := by
  rintro ro ys T K ⟨⟨rfl, rfl, rfl⟩, hk⟩
  exact vcallF_is mixedB_Try bodiesB_Try specsOk_none lsOk_none (ev_ne K) hk
theorem ev_lives : vtrue Try.prog lvF [] = (True ∧ True) := by kernel_rfl
theorem lives_vcx : VCx Try.prog noGl 0 lvF [] ⟨[], []⟩ isTrueV := vtrue_vcx mixedB_Try bodiesB_Try ev_lives ⟨trivial, trivial⟩
/-! ### The loops -/
theorem t6_none : T6 [] (fun _ => none) (fun _ => none) (fun _ => none) [] [] 0 0 :=
  ⟨[], SitesOk.mk rfl rfl rfl List.nodup_nil (fun _ h => by simp at h) (fun _ h => by simp at h) List.nodup_nil (Nat.zero_le _), RepsOk.mk (fun _ => rfl) (fun _ _ h => by cases h) (fun _ h => by simp at h)⟩
def actsS (L : List Act6) : List SiT × RpM := L.foldl (fun s x => actS x s) ([], fun _ => none)
theorem actsS_step {L : List Act6} {j : Nat} {x : Act6} (h : L[j]? = some x) : actsS (L.take (j + 1)) = actS x (actsS (L.take j)) := by
  unfold actsS
  rw [List.take_add_one, h, List.foldl_append]; rfl
set_option maxRecDepth 100000 in
theorem opure_actr {G : Globs} {x i : Operand} {l : List (Nat × TV)} {L : List (List TV)} {tok : Tok} {k : IntKind} {z : Int} {e : List TV} (hx : evOf G l x = .vec 6 L tok) (hz : evOf G l i = .val (.int k z)) (h0 : 0 ≤ z) (he : L[z.toNat]? = some e) :
    OPure Try.prog G (.indexAddr 22 x i) l (.elt e) := opure_index (inf := (Try.prog.info? 30).getD default) Try.underlying22 (by kernel_rfl) hx hz h0 he
abbrev LvI := Nat × (Value → Option TV) × (Value → Option TV) × List (Value × TV × Nat) × List (Value × TV × Nat) × Nat × Nat
theorem keep_lT {ka kb : Value → Option TV} {ea eb : List (Value × TV × Nat)} {ca cb : Nat} {S : List SiT} {R : RpM} (h : T6 S R ka kb ea eb ca cb) (l : List VO) : VT.keep (lT ka kb ea eb ca cb l) 3 0 = lT ka kb ea eb ca cb [] := by
  have e1 := h.ren1 (Go.Proofs.Ytgconkbnokbinaa.keep 3) (Go.Proofs.Ytgconkbnokbinaa.keep 0)
  have e2 := h.ren2 (Go.Proofs.Ytgconkbnokbinaa.keep 3) (Go.Proofs.Ytgconkbnokbinaa.keep 0)
  simp only [VT.keep, lT, List.take_succ_cons, List.take_zero, List.map_cons, List.map_nil, e1, e2]
  rfl
theorem keep_lT4 {ka kb : Value → Option TV} {ea eb : List (Value × TV × Nat)} {ca cb : Nat} {S : List SiT} {R : RpM} (h : T6 S R ka kb ea eb ca cb) (s : SiT) (l : List VO) : VT.keep (lT ka kb ea eb ca cb (.cells (siE s) :: l)) 4 0 = lT ka kb ea eb ca cb [.cells (siE s)] := by
  have e1 := h.ren1 (Go.Proofs.Ytgconkbnokbinaa.keep 4) (Go.Proofs.Ytgconkbnokbinaa.keep 0)
  have e2 := h.ren2 (Go.Proofs.Ytgconkbnokbinaa.keep 4) (Go.Proofs.Ytgconkbnokbinaa.keep 0)
  simp only [VT.keep, lT, List.take_succ_cons, List.take_zero, List.map_cons, List.map_nil, e1, e2]
  rfl
theorem renLL_act (f g : Nat → Option Nat) : ∀ l : List Act6, renLL f g (l.map actC) = l.map actC
  | [] => rfl
  | a :: l => by simp only [List.map_cons, renLL, renLL_act f g l]; rfl
set_option maxRecDepth 100000 in
theorem b0_ok (n : Int) (L : List Act6) (hl : L.length ≤ 100) : ∀ rd ro σ T D K, b0L (T6 (actsS L).1 (actsS L).2) n (L.map actC) rd ro σ T D K → VWx Try.prog noGl rd ro (codeAt Try.prog laF 0) σ T D K := by
  refine loopL_ok fun K hK => ?_
  let sl : LvI → List TV := fun s => b0V n (L.map actC) s.1
  let TT : LvI → VT := fun s => lT s.2.1 s.2.2.1 s.2.2.2.1 s.2.2.2.2.1 s.2.2.2.2.2.1 s.2.2.2.2.2.2 []
  let Inv : LvI → Prop := fun s => s.1 ≤ L.length ∧ T6 (actsS (L.take s.1)).1 (actsS (L.take s.1)).2 s.2.1 s.2.2.1 s.2.2.2.1 s.2.2.2.2.1 s.2.2.2.2.2.1 s.2.2.2.2.2.2
  let Post : Exit → List TV → VT → Prop := fun e vs T => e = .normal ∧ vs = b0V n (L.map actC) L.length ∧ ∃ ka kb ea eb ca cb, T6 (actsS L).1 (actsS L).2 ka kb ea eb ca cb ∧ T = lT ka kb ea eb ca cb []
  refine loopK (f := laF) (id := 0) (by kernel_rfl) 145 b0K (fun s : LvI => L.length - s.1) sl TT Inv 3 0 (fun _ _ => ⟨Nat.le_refl _, Nat.le_refl _⟩)
    Post (fun s hs => ?_) (0, (fun _ => none), (fun _ => none), [], [], 0, 0) ⟨Nat.zero_le _, t6_none⟩ K (fun e vs T ⟨h1, h2, ka, kb, ea, eb, ca, cb, h6, h3⟩ => ?_)
  · obtain ⟨j, lk, lk2, es, es2, ck, ck2⟩ := s
    obtain ⟨hj, h6⟩ := hs
    simp only at hj h6
    by_cases hlt : j < L.length
    · have hx : L[j]? = some L[j] := List.getElem?_eq_getElem hlt
      generalize L[j] = x at hx
      have hw := wrapN j (by omega)
      have hst := actsS_step hx
      refine vx_is mixedB_Try bodiesB_Try (specs_ok fun p hp => by obtain rfl := List.mem_singleton.1 hp; exact acW_ok h6 x) lsOk_none (ev_b0 lk lk2 es es2 ck ck2 (L.map actC) n x.k x.i x.a x.c x.p x.u j _ _) ?_
      refine condT (decide_eq_true (by rw [List.length_map]; omega)) ⟨opure_actr rfl rfl (Int.natCast_nonneg _) (by simp only [Int.toNat_natCast]; rw [List.getElem?_map, hx]; rfl), ⟨rfl, rfl, rfl⟩, fun y ka kb ea eb ca cb mz h7 => ⟨rfl, rfl, (j + 1, ka, kb, ea, eb, ca, cb), ⟨hlt, by simp only [hst]; exact h7⟩, by simp only; omega, .inr ⟨?_, ?_⟩⟩⟩
      · exact keep_lT h7 _
      · simp only [renL, TV.ren, renLL_act, Tok.ren, Go.Proofs.Ytgconkbnokbinaa.keep]
        simp only [sl, b0V, hw]
        rfl
    · obtain rfl : j = L.length := by omega
      refine vx_is mixedB_Try bodiesB_Try (specs_ok fun p hp => by obtain rfl := List.mem_singleton.1 hp; exact acW_ok h6 ⟨0, 0, 0, 0, 0, 0⟩) lsOk_none (ev_b0 lk lk2 es es2 ck ck2 (L.map actC) n 0 0 0 0 0 0 L.length _ _) ?_
      rw [List.take_length] at h6
      exact condF (decide_eq_false (by rw [List.length_map]; omega)) ⟨rfl, rfl, rfl, rfl, _, _, _, _, _, _, h6, rfl⟩
  · subst h1 h2 h3
    have e1 : ((L.map actC).length : Int) = L.length := by simp
    have := hK ka kb ea eb ca cb h6
    rw [e1] at this
    exact this
theorem bnL_ok {Tb : Tb6} {keys : List Nat} {vs0 vs1 : List TV} {l : List VO} {c : Code} (h : ∀ lk lk2 es es2 ck ck2, Tb lk lk2 es es2 ck ck2 → ∀ K : KX, K .normal (slotsN 145 keys vs1) (lT lk lk2 es es2 ck ck2 l) [] → VWx Try.prog noGl none 0 c (slotsN 145 keys vs0) (lT lk lk2 es es2 ck ck2 l) [] K) :
    ∀ rd ro σ T D K, bnL Tb keys vs0 vs1 l rd ro σ T D K → VWx Try.prog noGl rd ro c σ T D K := by
  rintro rd ro σ ⟨os, tl⟩ D K ⟨⟨h1, h2, h3, h4, h5, h6, h7, h8⟩, hK⟩
  obtain ⟨lk, lk2, es, es2, ck, ck2, l', hT, hb⟩ := tabAt_inv h6
  simp only at hT h7 h8
  subst hT
  simp only [List.drop_succ_cons, List.drop_zero] at h7
  subst h7 h8
  exact loopL_ok (n := 145) (keys := keys) (ad := []) (vs0 := vs0) (T0 := lT lk lk2 es es2 ck ck2 l') (R := fun K => K .normal (slotsN 145 keys vs1) (lT lk lk2 es es2 ck ck2 l') []) (h lk lk2 es es2 ck ck2 hb) rd ro σ _ D K ⟨⟨h1, h2, h3, trivial, rfl, h4, h5⟩, hK⟩
/-! ### What able's best one is -/
theorem cap_some {R : RpM} {i n : Int} (h : 0 < capR R i n) : n < (rptR R i).2 := by
  unfold capR at h
  unfold rptR
  cases hr : R i with
  | none => rw [hr] at h; simp at h
  | some r =>
    rw [hr] at h
    simp only [Option.getD_some] at h ⊢
    by_cases hc : n ≥ r.2
    · rw [decide_eq_true hc, cond_true] at h; simp at h
    · omega
theorem cap_late {R : RpM} {i n : Int} (h : (rptR R i).2 ≤ n) : ¬ 0 < capR R i n := fun hc => by have := cap_some hc; omega
theorem able_mem {S : List SiT} {R : RpM} {n : Int} {s : SiT} : s ∈ ableS S R n ↔ s ∈ byId S ∧ 0 < capR R s.1 n := by
  unfold ableS ableL
  rw [(List.mergeSort_perm _ leS).mem_iff, List.mem_filter]
  simp [canS]
theorem able_head {S : List SiT} {R : RpM} {n : Int} {s : SiT} (h : s ∈ ableS S R n) : someS (ableS S R n) = true ∧ leS (hdS (ableS S R n)) s = true := by
  have hp := List.pairwise_mergeSort (le := leS) leS_trans leS_total (ableL S R n)
  unfold ableS at h ⊢
  cases hl : (ableL S R n).mergeSort leS with
  | nil => rw [hl] at h; simp at h
  | cons t l =>
    rw [hl] at h hp
    refine ⟨rfl, ?_⟩
    simp only [hdS, List.headD_cons]
    rcases List.mem_cons.1 h with rfl | h
    · simp [leS]
    · exact (List.pairwise_cons.1 hp).1 s h
theorem able_hd {S : List SiT} {R : RpM} {n : Int} (h : someS (ableS S R n) = true) : hdS (ableS S R n) ∈ ableS S R n := by
  cases hl : ableS S R n with
  | nil => rw [hl] at h; cases h
  | cons t l => exact List.mem_cons_self
theorem untF_le (R : RpM) (m : Int) (s : SiT) : m ≤ untF R m s ∧ (rptR R s.1).2 ≤ untF R m s := by unfold untF; split <;> omega
theorem unt_fold (R : RpM) : ∀ (l : List SiT) (m : Int), m ≤ l.foldl (untF R) m ∧ ∀ s ∈ l, (rptR R s.1).2 ≤ l.foldl (untF R) m
  | [], m => ⟨Int.le_refl _, fun _ h => by simp at h⟩
  | a :: l, m => by
    obtain ⟨h1, h2⟩ := unt_fold R l (untF R m a)
    obtain ⟨h3, h4⟩ := untF_le R m a
    refine ⟨Int.le_trans h3 h1, fun s hs => ?_⟩
    rcases List.mem_cons.1 hs with rfl | hs
    · exact Int.le_trans h4 h1
    · exact h2 s hs
theorem unt_ge {S : List SiT} {R : RpM} {n : Int} {s : SiT} (h : s ∈ ableS S R n) : (rptR R s.1).2 ≤ untS S R n := (unt_fold R _ 0).2 s h
/-- what a round of the second loop leaves -/
theorem b2_res {cap c c' i i' : Int} {b : Bool} {RR N : Prop} (hN : N) (h1 : 0 < cap → b = true ∧ (c' < c ∨ (c' = c ∧ i' ≤ i))) (h2 : b = true → i = i' → 0 < cap) :
    (bif decide (cap > (0 : Int)) then (bif !b then RR else (bif decide (c < c') then RR else (bif eqRes BinOp.eql (keyEq (Value.int IntKind.i64 c) (Value.int IntKind.i64 c')) then (bif decide (i < i') then RR else
      (bif b then (bif eqRes BinOp.eql (keyEq (Value.int IntKind.i64 i) (Value.int IntKind.i64 i')) then (bif decide (cap < (1 : Int)) then RR else N) else N) else N)) else
      (bif b then (bif eqRes BinOp.eql (keyEq (Value.int IntKind.i64 i) (Value.int IntKind.i64 i')) then (bif decide (cap < (1 : Int)) then RR else N) else N) else N)))) else
      (bif b then (bif eqRes BinOp.eql (keyEq (Value.int IntKind.i64 i) (Value.int IntKind.i64 i')) then (bif decide (cap < (1 : Int)) then RR else N) else N) else N)) := by
  have hX : (bif b then (bif eqRes BinOp.eql (keyEq (Value.int IntKind.i64 i) (Value.int IntKind.i64 i')) then (bif decide (cap < (1 : Int)) then RR else N) else N) else N) := by
    cases hb : b
    · exact hN
    · by_cases e : i = i'
      · have := h2 hb e
        exact condT rfl (condT (by rw [eqI]; exact decide_eq_true e) (condF (decide_eq_false (by omega)) hN))
      · exact condT rfl (condF (by rw [eqI]; exact decide_eq_false e) hN)
  by_cases hc : 0 < cap
  · obtain ⟨hb, hle⟩ := h1 hc
    refine condT (decide_eq_true hc) (condF (by rw [hb]; rfl) (condF (decide_eq_false (by omega)) ?_))
    by_cases e : c = c'
    · exact condT (by rw [eqI]; exact decide_eq_true e) (condF (decide_eq_false (by omega)) hX)
    · exact condF (by rw [eqI]; exact decide_eq_false e) hX
  · exact condF (decide_eq_false hc) hX
theorem b2_ok (S : List SiT) (R : RpM) (n : Int) (hlb : (byId S).length ≤ 8) : ∀ rd ro σ T D K, bnL (T6 S R) b2K (b2V n (someS (ableS S R n)) ((byId S).map siE) 0) (b2V n (someS (ableS S R n)) ((byId S).map siE) ((byId S).map siE).length) [.cells (siE (hdS (ableS S R n)))] rd ro σ T D K → VWx Try.prog noGl rd ro (codeAt Try.prog laF 2) σ T D K := by
  refine bnL_ok fun lk lk2 es es2 ck ck2 h6 K hK => ?_
  let B := byId S
  have hBl : B.length ≤ 8 := hlb
  have hle : ∀ s ∈ B, 0 < capR R s.1 n → someS (ableS S R n) = true ∧ ((hdS (ableS S R n)).2.2 < s.2.2 ∨ ((hdS (ableS S R n)).2.2 = s.2.2 ∧ (hdS (ableS S R n)).1 ≤ s.1)) := fun s hs hc => by
    obtain ⟨h1, h2⟩ := able_head (able_mem.2 ⟨hs, hc⟩)
    refine ⟨h1, ?_⟩
    simpa [leS, Bool.or_eq_true, Bool.and_eq_true, decide_eq_true_eq] using h2
  have hhd : someS (ableS S R n) = true → 0 < capR R (hdS (ableS S R n)).1 n := fun h => (able_mem.1 (able_hd h)).2
  generalize someS (ableS S R n) = b at *
  generalize hdS (ableS S R n) = t at *
  obtain ⟨i', a', c'⟩ := t
  let sl : Nat → List TV := fun j => b2V n b (B.map siE) j
  let TT : VT := lT lk lk2 es es2 ck ck2 [.cells (siE (i', a', c'))]
  let Post : Exit → List TV → VT → Prop := fun e vs T => e = .normal ∧ vs = sl B.length ∧ T = TT
  refine loopK (f := laF) (id := 2) (by kernel_rfl) 145 b2K (fun j => B.length - j) sl (fun _ => TT) (fun j => j ≤ B.length) 4 0 (fun _ _ => ⟨Nat.le_refl _, Nat.le_refl _⟩)
    Post (fun j hj => ?_) 0 (Nat.zero_le _) K (fun e vs T ⟨h1, h2, h3⟩ => ?_)
  · by_cases hlt : j < B.length
    · have hs : B[j]? = some B[j] := List.getElem?_eq_getElem hlt
      have hsm : B[j] ∈ B := List.getElem_mem hlt
      generalize B[j] = s at hs hsm
      obtain ⟨i, a, c⟩ := s
      have hw := wrapN j (by omega)
      refine vx_is mixedB_Try bodiesB_Try (specs_ok fun p hp => by obtain rfl := List.mem_singleton.1 hp; exact cpLW_ok h6) lsOk_none (ev_b2 lk lk2 es es2 ck ck2 (B.map siE) (capR R) b n i a c i' a' c' j _) ?_
      refine condT (decide_eq_true (by rw [List.length_map]; omega)) ⟨opure_site rfl rfl (Int.natCast_nonneg _) (by simp only [Int.toNat_natCast]; rw [List.getElem?_map, hs]; rfl), ⟨rfl, rfl⟩, b2_res ?_ (hle _ hsm) fun hb e => by rw [e]; exact hhd hb⟩
      refine ⟨rfl, rfl, j + 1, hlt, by simp only; omega, .inr ⟨keep_lT4 h6 (i', a', c') _, ?_⟩⟩
      simp only [renL, TV.ren, renLL_site, Tok.ren, Go.Proofs.Ytgconkbnokbinaa.keep]
      simp only [sl, b2V, hw]
      rfl
    · obtain rfl : j = B.length := by omega
      refine vx_is mixedB_Try bodiesB_Try (specs_ok fun p hp => by obtain rfl := List.mem_singleton.1 hp; exact cpLW_ok h6) lsOk_none (ev_b2 lk lk2 es es2 ck ck2 (B.map siE) (capR R) b n 0 0 0 i' a' c' B.length _) ?_
      exact condF (decide_eq_false (by rw [List.length_map]; omega)) ⟨rfl, rfl, rfl, rfl, rfl⟩
  · subst h1 h2 h3
    have e1 : sl B.length = b2V n b ((byId S).map siE) ((byId S).map siE).length := by simp only [sl, List.length_map]; rfl
    rw [e1]
    exact hK
theorem b4_ok (S : List SiT) (R : RpM) (n : Int) (hlb : (byId S).length ≤ 8) : ∀ rd ro σ T D K, bnL (T6 S R) b4K (b4V n (untS S R n) ((byId S).map siE) 0) (b4V n (untS S R n) ((byId S).map siE) ((byId S).map siE).length) [.cells (siE (hdS (ableS S R n)))] rd ro σ T D K → VWx Try.prog noGl rd ro (codeAt Try.prog laF 4) σ T D K := by
  refine bnL_ok fun lk lk2 es es2 ck ck2 h6 K hK => ?_
  let B := byId S
  have hBl : B.length ≤ 8 := hlb
  have hle : ∀ s ∈ B, 0 < capR R s.1 n → ¬ 0 < capR R s.1 (untS S R n) := fun s hs hc => cap_late (unt_ge (able_mem.2 ⟨hs, hc⟩))
  generalize untS S R n = u at *
  generalize hdS (ableS S R n) = t at *
  obtain ⟨i', a', c'⟩ := t
  let sl : Nat → List TV := fun j => b4V n u (B.map siE) j
  let TT : VT := lT lk lk2 es es2 ck ck2 [.cells (siE (i', a', c'))]
  let Post : Exit → List TV → VT → Prop := fun e vs T => e = .normal ∧ vs = sl B.length ∧ T = TT
  refine loopK (f := laF) (id := 4) (by kernel_rfl) 145 b4K (fun j => B.length - j) sl (fun _ => TT) (fun j => j ≤ B.length) 4 0 (fun _ _ => ⟨Nat.le_refl _, Nat.le_refl _⟩)
    Post (fun j hj => ?_) 0 (Nat.zero_le _) K (fun e vs T ⟨h1, h2, h3⟩ => ?_)
  · by_cases hlt : j < B.length
    · have hs : B[j]? = some B[j] := List.getElem?_eq_getElem hlt
      have hsm : B[j] ∈ B := List.getElem_mem hlt
      generalize B[j] = s at hs hsm
      obtain ⟨i, a, c⟩ := s
      have hw := wrapN j (by omega)
      have hl2 := hle _ hsm
      simp only at hl2
      refine vx_is mixedB_Try bodiesB_Try (specs_ok fun p hp => by obtain rfl := List.mem_singleton.1 hp; exact cpLW_ok h6) lsOk_none (ev_b4 lk lk2 es es2 ck ck2 (B.map siE) (capR R) n i a c i' a' c' u j _) ?_
      refine condT (decide_eq_true (by rw [List.length_map]; omega)) ⟨opure_site rfl rfl (Int.natCast_nonneg _) (by simp only [Int.toNat_natCast]; rw [List.getElem?_map, hs]; rfl), ⟨rfl, rfl⟩, ?_⟩
      have hnx : (T : VT) → T.keep 4 0 = TT → loopQ 145 4 (fun j => B.length - j) sl (fun _ => TT) (fun j => j ≤ B.length) 4 0 j Post .normal [.val (.int .i64 n), .ptr 2 0, .val (.int .i64 u), .vec 3 (B.map siE) .none, .val (.int .i64 (B.map siE).length), .val (.int .i64 (IntKind.wrap IntKind.i64 ((↑j : Int) + (1 : Int))))] T [] 145 := fun T hT => by
        refine ⟨rfl, rfl, j + 1, hlt, by simp only; omega, .inr ⟨hT, ?_⟩⟩
        simp only [renL, TV.ren, renLL_site, Tok.ren, Go.Proofs.Ytgconkbnokbinaa.keep]
        simp only [sl, b4V, hw]
        rfl
      by_cases hc : 0 < capR R i n
      · exact condT (decide_eq_true hc) ⟨⟨rfl, rfl⟩, condF (decide_eq_false (hl2 hc)) (hnx _ (keep_lT4 h6 (i', a', c') _))⟩
      · exact condF (decide_eq_false hc) (hnx _ (keep_lT4 h6 (i', a', c') _))
    · obtain rfl : j = B.length := by omega
      refine vx_is mixedB_Try bodiesB_Try (specs_ok fun p hp => by obtain rfl := List.mem_singleton.1 hp; exact cpLW_ok h6) lsOk_none (ev_b4 lk lk2 es es2 ck ck2 (B.map siE) (capR R) n 0 0 0 i' a' c' u B.length _) ?_
      exact condF (decide_eq_false (by rw [List.length_map]; omega)) ⟨rfl, rfl, rfl, rfl, rfl⟩
  · subst h1 h2 h3
    have e1 : sl B.length = b4V n u ((byId S).map siE) ((byId S).map siE).length := by simp only [sl, List.length_map]; rfl
    rw [e1]
    exact hK
theorem t6_few {S : List SiT} {R : RpM} {ka kb : Value → Option TV} {ea eb : List (Value × TV × Nat)} {ca cb : Nat} (h : T6 S R ka kb ea eb ca cb) : (byId S).length ≤ 8 := by
  obtain ⟨st, h1, _⟩ := h
  unfold byId; rw [List.length_map, idsOf_len]; exact h1.few
theorem few_actS {x : Act6} {S : List SiT} {R : RpM} (h : S.length ≤ 8) : (actS x (S, R)).1.length ≤ 8 := by
  unfold actS
  cases decide (x.k = 0)
  · cases decide (x.k = 1)
    · exact h
    · simp only [cond_false, cond_true]
      have : (delS x.i S).length ≤ S.length := by
        induction S with
        | nil => exact Nat.le_refl _
        | cons s S ih =>
          unfold delS
          cases x.i == s.1
          · simp only [cond_false, List.length_cons]; have := ih (by simp at h; omega); omega
          · simp only [cond_true, List.length_cons]; omega
      omega
  · simp only [cond_true]
    unfold adS
    cases hc : adA S (x.i, x.a, x.c) == 0
    · exact h
    · simp only [cond_true]
      have : ¬ 8 ≤ S.length := fun h8 => by
        unfold adA at hc
        rw [decide_eq_true h8] at hc
        revert hc
        cases (!decide (0 ≤ (x.i, x.a, x.c).1 ∧ (x.i, x.a, x.c).1 ≤ 255 ∧ (x.i, x.a, x.c).2.1 ≠ 0 ∧ 0 ≤ (x.i, x.a, x.c).2.2 ∧ (x.i, x.a, x.c).2.2 ≤ 1000000)) <;> cases hasS S (x.i, x.a, x.c).1 <;> simp
      simp; omega
theorem few_acts : ∀ (L : List Act6) (s : List SiT × RpM), s.1.length ≤ 8 → (L.foldl (fun s x => actS x s) s).1.length ≤ 8
  | [], _, h => h
  | x :: L, (S, R), h => few_acts L _ (few_actS h)
theorem law_best (L : List Act6) (n : Int) : VCx Try.prog noGl 0 laF [.vec 6 (L.map actC) .none, .val (.int .i64 n)] ⟨[], []⟩ isTrueV := by
  by_cases hl : L.length ≤ 100
  · have hfew : (actsS L).1.length ≤ 8 := few_acts L _ (Nat.zero_le _)
    have hb0 := b0_ok n L hl
    generalize (actsS L).1 = S at *
    generalize (actsS L).2 = R at *
    have hlb : (byId S).length ≤ 8 := by unfold byId; rw [List.length_map, idsOf_len]; exact hfew
    have hb2 := b2_ok S R n hlb
    have hb4 := b4_ok S R n hlb
    have hso : someS (ableS S R n) = false → untS S R n = 0 := fun h => by
      unfold untS
      cases ha : ableS S R n with
      | nil => rfl
      | cons t l => rw [ha] at h; cases h
    have hun : someS (ableS S R n) = true → n < untS S R n := fun h => by
      have h1 := able_hd h
      have h2 := cap_some (able_mem.1 h1).2
      have h3 := unt_ge h1
      omega
    have hbe : ∀ {lk lk2 : Value → Option TV} {es es2 : List (Value × TV × Nat)} {ck ck2 : Nat}, T6 S R lk lk2 es es2 ck ck2 → VCx Try.prog noGl 0 beF [.ptr 0 0, .val (.int .i64 n)] (sT lk lk2 es es2 ck ck2) fun x T' => x = .tup [siT (hdS (ableS S R n)), .val (.bool (someS (ableS S R n)))] ∧ T' = sT lk lk2 es es2 ck ck2 := fun h => by
      obtain ⟨st, h1, h2⟩ := h; exact be_vcx h1 h2 n
    have hvs : ∀ {lk lk2 : Value → Option TV} {es es2 : List (Value × TV × Nat)} {ck ck2 : Nat}, T6 S R lk lk2 es es2 ck ck2 → VCx Try.prog noGl 0 soF [.ptr 0 0, .val (.int .i64 n)] (sT lk lk2 es es2 ck ck2) fun x T' => x = .val (.bool (someS (ableS S R n))) ∧ T' = sT lk lk2 es es2 ck ck2 := fun h => by
      obtain ⟨st, h1, h2⟩ := h; exact so_vcx h1 h2 n
    have hvu : ∀ {lk lk2 : Value → Option TV} {es es2 : List (Value × TV × Nat)} {ck ck2 : Nat}, T6 S R lk lk2 es es2 ck ck2 → VCx Try.prog noGl 0 unF [.ptr 0 0, .val (.int .i64 n)] (sT lk lk2 es es2 ck ck2) fun x T' => x = .val (.int .i64 (untS S R n)) ∧ T' = sT lk lk2 es es2 ck ck2 := fun h => by
      obtain ⟨st, h1, h2⟩ := h; exact un_vcx h1 h2 n
    generalize hB : someS (ableS S R n) = b at *
    generalize hdS (ableS S R n) = t at *
    generalize untS S R n = u at *
    obtain ⟨i, a, c⟩ := t
    refine vcallF_is mixedB_Try bodiesB_Try (specs_ok fun q hq => ?_) (specsL_ok fun q hq => ?_) (ev_la (T6 S R) (L.map actC) ((byId S).map siE) n u i a c b b _) ?_
    · simp only [List.mem_cons, List.not_mem_nil, or_false] at hq
      rcases hq with rfl | rfl | rfl | rfl | rfl | rfl
      · exact neW_ok
      · exact tbLW_ok rfl (fun _ _ => rfl) hbe
      · exact tbLW_ok rfl (fun f g => by simp only [TV.ren, renLL_site, Tok.ren]) fun h => al_tab h.tab
      · exact tbLW_ok rfl (fun _ _ => rfl) hvu
      · exact tbLW_ok rfl (fun _ _ => rfl) hvs
      · exact trueW_ok gvals_noGl lives_vcx
    · simp only [List.mem_cons, List.not_mem_nil, or_false] at hq
      rcases hq with rfl | rfl | rfl
      · exact hb0
      · exact hb2
      · exact hb4
    · refine cond_both trivial (cond_both trivial (cond_both trivial ⟨⟨rfl, rfl, rfl⟩, rfl, ⟨rfl, rfl, rfl, trivial, rfl, rfl, rfl⟩, fun ka kb ea eb ca cb h6 => ⟨⟨rfl, rfl, rfl, h6⟩, ⟨rfl, rfl, rfl, h6⟩, rfl, ⟨rfl, rfl, rfl, rfl, rfl, ⟨rfl, h6⟩, rfl, rfl⟩, ⟨rfl, rfl, rfl, h6⟩, ?_⟩⟩))
      cases hb : b
      · refine condT rfl (condT (by rw [eqI]; exact decide_eq_true (hso hb)) ⟨⟨rfl, rfl, rfl, h6⟩, condT rfl trivial⟩)
      · refine condF rfl ⟨⟨rfl, rfl, rfl, h6⟩, rfl, ⟨rfl, rfl, rfl, rfl, rfl, ⟨rfl, h6⟩, rfl, rfl⟩, condT (decide_eq_true (hun hb)) trivial⟩
  · refine vcallF_is mixedB_Try bodiesB_Try (specs_ok fun q hq => ?_) lsOk_none (ev_la2 (L.map actC) n _) (condT (decide_eq_true (by rw [List.length_map]; omega)) trivial)
    simp only [List.mem_cons, List.not_mem_nil, or_false] at hq
    rcases hq with rfl | rfl
    · intro ro ys T K h; exact h.elim
    · exact trueW_ok gvals_noGl lives_vcx
end Go.Proofs.Ytgconkbnokbinaa
