/- SiblingActs: the loops, the copies, the law. -/
import Derived.Test.YtgconkbnokbinaaMbSbLA
namespace Go.Proofs.Ytgconkbnokbinaa
open Go.RowKit Go.Maps Go.Sort

section
variable {lk lk2 : Value → Option TV} {es es2 : List (Value × TV × Nat)} {ck ck2 : Nat} {S : List SiT} {R : RpM}
theorem tabX_inv {d : Nat} {Tb : Tb6} {L : List (List TV)} {T : VT} (h : tabX d Tb L T) : ∃ lk lk2 es es2 ck ck2 l, T.objs.drop d = .map kI lk es ck :: .map kI lk2 es2 ck2 :: .cells [.map d, .map (d + 1)] :: mO L :: l ∧ Tb lk lk2 es es2 ck ck2 := by
  unfold tabX at h
  split at h
  · rename_i s1 lk es ck s2 lk2 es2 ck2 l hT
    obtain ⟨h1, h2⟩ := h
    rw [hT] at h1
    match l, h1 with
    | o :: o2 :: l, h1 =>
      simp only [List.take_succ_cons, List.take_zero, List.cons.injEq, and_true] at h1
      obtain ⟨e1, e2, rfl, rfl⟩ := h1
      rw [e1, e2] at hT
      exact ⟨_, _, _, _, _, _, l, hT, h2⟩
  · exact h.elim
theorem lkW0_ok (hg : Gone S R) (id n : Int) : ∀ ro ys T K, lkW 0 (T6 S R) ((refL S R).map rwE) [.ptr 2 0, .ptr 3 0, .val (.int .i64 id), .val (.int .i64 n)] ro ys T K → VCx Try.prog noGl ro lkF ys T K := by
  rintro ro ys ⟨os, tl⟩ K ⟨⟨rfl, rfl, ht⟩, hk⟩
  obtain ⟨lk, lk2, es, es2, ck, ck2, l, hT, h6⟩ := tabX_inv ht
  simp only [List.drop_zero] at hT
  subst hT
  exact lk0 (good_of h6 hg) h6 id n l tl hk
theorem lkW2_ok {S' : List SiT} {R' : RpM} (hg : Gone S R) (hg' : Gone S' R') (id1 n : Int) : ∀ ro ys T K, lkW2 id1 n (T6 S R) (T6 S' R') ((refL S R).map rwE) ((refL S' R').map rwE) ro ys T K → VCx Try.prog noGl ro lkF ys T K := by
  rintro ro ys ⟨os, tl⟩ K hw
  unfold lkW2 at hw
  split at hw
  · rename_i id now
    obtain ⟨⟨rfl, hid, ht⟩, hk⟩ := hw
    simp only [List.cons.injEq, and_true] at hid
    obtain ⟨rfl, rfl⟩ := hid
    obtain ⟨lk, lk2, es, es2, ck, ck2, l, hT, h6⟩ := tabX_inv ht
    simp only [List.drop_zero] at hT
    subst hT
    exact lk0 (good_of h6 hg) h6 id1 n l tl hk
  · rename_i id now
    obtain ⟨⟨rfl, hid, ht⟩, hk⟩ := hw
    simp only [List.cons.injEq, and_true] at hid
    obtain ⟨rfl, rfl⟩ := hid
    obtain ⟨lk, lk2, es, es2, ck, ck2, l, hT, h6⟩ := tabX_inv ht
    match os, hT with
    | o0 :: o1 :: o2 :: o3 :: os, hT =>
      simp only [List.drop_succ_cons, List.drop_zero] at hT
      subst hT
      exact lk4 (good_of h6 hg') h6 o0 o1 o2 o3 id1 n l tl hk
  · exact hw.elim
end
def ar0 (L : List Act6) : List (List TV) := (refL (actsS L).1 (actsS L).2).map rwE
abbrev LaI := Nat × (Value → Option TV) × (Value → Option TV) × List (Value × TV × Nat) × List (Value × TV × Nat) × Nat × Nat
theorem keep_l4 {ka kb : Value → Option TV} {ea eb : List (Value × TV × Nat)} {ca cb : Nat} {S : List SiT} {R : RpM} (h : T6 S R ka kb ea eb ca cb) (L : List Rw) (l : List VO) : VT.keep (lT ka kb ea eb ca cb (mO (L.map rwE) :: l)) 4 0 = lT ka kb ea eb ca cb [mO (L.map rwE)] := by
  have e1 := h.ren1 (Go.Proofs.Ytgconkbnokbinaa.keep 4) (Go.Proofs.Ytgconkbnokbinaa.keep 0)
  have e2 := h.ren2 (Go.Proofs.Ytgconkbnokbinaa.keep 4) (Go.Proofs.Ytgconkbnokbinaa.keep 0)
  have e3 := ren_mO (Go.Proofs.Ytgconkbnokbinaa.keep 4) (Go.Proofs.Ytgconkbnokbinaa.keep 0) L
  simp only [VT.keep, lT, List.take_succ_cons, List.take_zero, List.map_cons, List.map_nil, e1, e2, e3]
  rfl
theorem keep_l8 {lk lk2 ka kb : Value → Option TV} {es es2 ea eb : List (Value × TV × Nat)} {ck ck2 ca cb : Nat} {S S' : List SiT} {R R' : RpM} (h0 : T6 S R lk lk2 es es2 ck ck2) (h : T6 S' R' ka kb ea eb ca cb) (L0 L : List Rw) (l : List VO) :
    VT.keep (l8T lk lk2 es es2 ck ck2 (L0.map rwE) ka kb ea eb ca cb (L.map rwE) l) 8 0 = l8T lk lk2 es es2 ck ck2 (L0.map rwE) ka kb ea eb ca cb (L.map rwE) [] := by
  have e1 := h.ren1 (Go.Proofs.Ytgconkbnokbinaa.keep 8) (Go.Proofs.Ytgconkbnokbinaa.keep 0)
  have e2 := h.ren2 (Go.Proofs.Ytgconkbnokbinaa.keep 8) (Go.Proofs.Ytgconkbnokbinaa.keep 0)
  have e3 := ren_mO (Go.Proofs.Ytgconkbnokbinaa.keep 8) (Go.Proofs.Ytgconkbnokbinaa.keep 0) L
  have f1 := h0.ren1 (Go.Proofs.Ytgconkbnokbinaa.keep 8) (Go.Proofs.Ytgconkbnokbinaa.keep 0)
  have f2 := h0.ren2 (Go.Proofs.Ytgconkbnokbinaa.keep 8) (Go.Proofs.Ytgconkbnokbinaa.keep 0)
  have f3 := ren_mO (Go.Proofs.Ytgconkbnokbinaa.keep 8) (Go.Proofs.Ytgconkbnokbinaa.keep 0) L0
  simp only [VT.keep, l8T, lT, List.take_succ_cons, List.take_zero, List.map_cons, List.map_nil, e1, e2, e3, f1, f2, f3]
  rfl
theorem gone_acts : ∀ (L : List Act6) (s : List SiT × RpM), Gone s.1 s.2 → (s.1.map (·.1)).Nodup → s.1.length ≤ 8 → (∀ x s, (s.1.map (·.1)).Nodup → ((actS x s).1.map (·.1)).Nodup) → Gone (L.foldl (fun s x => actS x s) s).1 (L.foldl (fun s x => actS x s) s).2
  | [], _, h, _, _, _ => h
  | x :: L, (S, R), h, hd, hf, hn => gone_acts L _ (gone_act ⟨hd, hf, h⟩ x) (hn x (S, R) hd) (few_actS hf) hn
theorem nd_actS (x : Act6) (s : List SiT × RpM) (hd : (s.1.map (·.1)).Nodup) : ((actS x s).1.map (·.1)).Nodup := by
  obtain ⟨S, R⟩ := s
  simp only at hd
  unfold actS
  cases decide (x.k = 0)
  · cases decide (x.k = 1)
    · exact hd
    · exact hd.sublist ((delS_sub x.i S).map _)
  · simp only [cond_true]
    unfold adS
    cases hc : adA S (x.i, x.a, x.c) == 0
    · exact hd
    · simp only [cond_true, List.map_append]
      have hb : hasS S x.i = false := by
        cases hb : hasS S x.i
        · rfl
        · unfold adA at hc
          rw [hb] at hc
          revert hc
          cases (!decide (0 ≤ (x.i, x.a, x.c).1 ∧ (x.i, x.a, x.c).1 ≤ 255 ∧ (x.i, x.a, x.c).2.1 ≠ 0 ∧ 0 ≤ (x.i, x.a, x.c).2.2 ∧ (x.i, x.a, x.c).2.2 ≤ 1000000)) <;> simp
      refine List.nodup_append.2 ⟨hd, by simp, fun a ha b hb2 e => ?_⟩
      obtain ⟨s, hs, rfl⟩ := List.mem_map.1 ha
      have hb3 : b = x.i := by simpa using hb2
      unfold hasS at hb
      cases hf : S.find? fun s => s.1 == x.i with
      | none =>
        have := List.find?_eq_none.1 hf s hs
        simp [e, hb3] at this
      | some t => rw [hf] at hb; cases hb
theorem gone_all (L : List Act6) : Gone (actsS L).1 (actsS L).2 := gone_acts L _ (fun _ _ => rfl) List.nodup_nil (Nat.zero_le _) nd_actS
theorem gone_more (L M : List Act6) : Gone (M.foldl (fun s x => actS x s) (actsS L)).1 (M.foldl (fun s x => actS x s) (actsS L)).2 := by
  have : M.foldl (fun s x => actS x s) (actsS L) = actsS (L ++ M) := by unfold actsS; rw [List.foldl_append]
  rw [this]; exact gone_all _
theorem a0_ok (n : Int) (L M : List Act6) (hl : L.length ≤ 100) : ∀ rd ro σ T D K, a0L (T6 (actsS L).1 (actsS L).2) (ar0 L) n (L.map actC) (M.map actC) rd ro σ T D K → VWx Try.prog noGl rd ro (codeAt Try.prog laA 0) σ T D K := by
  refine loopL_ok fun K hK => VWx.nilCell (i := 3) (size := 5) rfl ?_
  have har0 : ar0 (L.take 0) = [] := by simp [ar0, refL, byId, idsOf, actsS]
  suffices hh : VWx Try.prog noGl none 0 (codeAt Try.prog laA 0) (slotsN 78 a0K (a0V (M.map actC) n (L.map actC) 0)) (lT (fun _ => none) (fun _ => none) [] [] 0 0 [mO (ar0 (L.take 0))]) [] K by rw [har0] at hh; exact hh
  let sl : LaI → List TV := fun s => a0V (M.map actC) n (L.map actC) s.1
  let TT : LaI → VT := fun s => lT s.2.1 s.2.2.1 s.2.2.2.1 s.2.2.2.2.1 s.2.2.2.2.2.1 s.2.2.2.2.2.2 [mO (ar0 (L.take s.1))]
  let Inv : LaI → Prop := fun s => s.1 ≤ L.length ∧ T6 (actsS (L.take s.1)).1 (actsS (L.take s.1)).2 s.2.1 s.2.2.1 s.2.2.2.1 s.2.2.2.2.1 s.2.2.2.2.2.1 s.2.2.2.2.2.2
  let Post : Exit → List TV → VT → Prop := fun e vs T => e = .normal ∧ vs = a0V (M.map actC) n (L.map actC) L.length ∧ ∃ ka kb ea eb ca cb, T6 (actsS L).1 (actsS L).2 ka kb ea eb ca cb ∧ T = lT ka kb ea eb ca cb [mO (ar0 L)]
  refine loopK (f := laA) (id := 0) (by kernel_rfl) 78 a0K (fun s : LaI => L.length - s.1) sl TT Inv 4 0 (fun _ _ => ⟨Nat.le_refl _, Nat.le_refl _⟩)
    Post (fun s hs => ?_) (0, (fun _ => none), (fun _ => none), [], [], 0, 0) ⟨Nat.zero_le _, t6_none⟩ K (fun e vs T ⟨h1, h2, ka, kb, ea, eb, ca, cb, h6, h3⟩ => ?_)
  · obtain ⟨j, lk, lk2, es, es2, ck, ck2⟩ := s
    obtain ⟨hj, h6⟩ := hs
    simp only at hj h6
    have g := good_of h6 (gone_all (L.take j))
    have hC : ∀ x : Act6, SpecsOk Try.prog noGl (specs [(acF, acX (lT lk lk2 es es2 ck ck2 [mO (ar0 (L.take j)), .cells (actC x)]) [.ptr 2 0, .ptr 3 0, .agg (actC x)] (T6 (actS x (actsS (L.take j))).1 (actS x (actsS (L.take j))).2) fun ka kb ea eb ca cb => lT ka kb ea eb ca cb [mO ((refL (actS x (actsS (L.take j))).1 (actS x (actsS (L.take j))).2).map rwE), .cells (actC x)]), (lkF, lkW 0 (T6 (actS x (actsS (L.take j))).1 (actS x (actsS (L.take j))).2) ((refL (actS x (actsS (L.take j))).1 (actS x (actsS (L.take j))).2).map rwE) [.ptr 2 0, .ptr 3 0, .val (.int .i64 x.i), .val (.int .i64 n)])]) := fun x => specs_ok fun p hp => by
      simp only [List.mem_cons, List.not_mem_nil, or_false] at hp
      rcases hp with rfl | rfl
      · exact acX0_ok g h6 x
      · exact lkW0_ok (gone_act g x) x.i n
    by_cases hlt : j < L.length
    · have hx : L[j]? = some L[j] := List.getElem?_eq_getElem hlt
      generalize L[j] = x at hx
      have hw := wrapN j (by omega)
      have hst := actsS_step hx
      refine vx_is mixedB_Try bodiesB_Try (hC x) lsOk_none (ev_a0 lk lk2 es es2 ck ck2 (L.map actC) (M.map actC) (ar0 (L.take j)) _ n x.k x.i x.a x.c x.p x.u j _ _) ?_
      refine condT (decide_eq_true (by rw [List.length_map]; omega)) ⟨opure_actr rfl rfl (Int.natCast_nonneg _) (by simp only [Int.toNat_natCast]; rw [List.getElem?_map, hx]; rfl), ⟨rfl, rfl, rfl⟩, fun ka kb ea eb ca cb h7 => ⟨⟨rfl, rfl, rfl, h7⟩, rfl, rfl, (j + 1, ka, kb, ea, eb, ca, cb), ⟨hlt, by simp only [hst]; exact h7⟩, by simp only; omega, .inr ⟨?_, ?_⟩⟩⟩
      · simp only [TT, ar0, hst]
        exact keep_l4 h7 _ _
      · simp only [renL, TV.ren, renLL_act, Tok.ren, Go.Proofs.Ytgconkbnokbinaa.keep]
        simp only [sl, a0V, hw]
        rfl
    · obtain rfl : j = L.length := by omega
      refine vx_is mixedB_Try bodiesB_Try (hC ⟨0, 0, 0, 0, 0, 0⟩) lsOk_none (ev_a0 lk lk2 es es2 ck ck2 (L.map actC) (M.map actC) (ar0 (L.take L.length)) _ n 0 0 0 0 0 0 L.length _ _) ?_
      refine condF (decide_eq_false (by rw [List.length_map]; omega)) ⟨rfl, rfl, rfl, rfl, lk, lk2, es, es2, ck, ck2, ?_, ?_⟩
      · rw [List.take_length] at h6; exact h6
      · rw [List.take_length]; rfl
  · subst h1 h2 h3
    have e1 : ((L.map actC).length : Int) = L.length := by simp
    have := hK ka kb ea eb ca cb h6
    rw [e1] at this
    exact this
abbrev LbI := Nat × (Value → Option TV) × (Value → Option TV) × List (Value × TV × Nat) × List (Value × TV × Nat) × Nat × Nat
def more (p : List SiT × RpM) (M : List Act6) : List SiT × RpM := M.foldl (fun s x => actS x s) p
theorem more_step {p : List SiT × RpM} {M : List Act6} {j : Nat} {x : Act6} (h : M[j]? = some x) : more p (M.take (j + 1)) = actS x (more p (M.take j)) := by
  unfold more
  rw [List.take_add_one, h, List.foldl_append]; rfl
theorem a2_ok (n : Int) (L M : List Act6) (hm : M.length ≤ 100) : ∀ rd ro σ T D K, a2L (T6 (actsS L).1 (actsS L).2) (T6 (more (actsS L) M).1 (more (actsS L) M).2) (ar0 L) ((refL (more (actsS L) M).1 (more (actsS L) M).2).map rwE) n (M.map actC) rd ro σ T D K → VWx Try.prog noGl rd ro (codeAt Try.prog laA 2) σ T D K := by
  rintro rd ro σ ⟨os, tl⟩ D K ⟨⟨h1, h2, h3, h4, h5, h6, h7, h8, h9⟩, hK⟩
  obtain ⟨lk, lk2, es, es2, ck, ck2, l, hT, t6⟩ := tabX_inv h6
  obtain ⟨kc, kd, ec, ed, cc, cd, l', hT', t6'⟩ := tabX_inv h7
  simp only [List.drop_zero] at hT h8 h9 hT'
  subst hT h9
  simp only [List.drop_succ_cons, List.drop_zero] at hT'
  subst hT'
  have hl' : l' = [] := by
    simp only [List.length_cons] at h8
    exact List.eq_nil_of_length_eq_zero (by omega)
  subst hl'
  refine loopL_ok (n := 78) (keys := a2K) (ad := []) (vs0 := a2V n (M.map actC) 0) (T0 := l8T lk lk2 es es2 ck ck2 (ar0 L) kc kd ec ed cc cd (ar0 L) []) (R := fun K => ∀ pa pb qa qb ra rb, T6 (more (actsS L) M).1 (more (actsS L) M).2 pa pb qa qb ra rb → K .normal (slotsN 78 a2K (a2V n (M.map actC) (M.map actC).length)) (l8T lk lk2 es es2 ck ck2 (ar0 L) pa pb qa qb ra rb ((refL (more (actsS L) M).1 (more (actsS L) M).2).map rwE) []) []) ?_ rd ro σ _ D K ⟨⟨h1, h2, h3, trivial, rfl, h4, h5⟩, hK⟩
  intro K hK
  let sl : LbI → List TV := fun s => a2V n (M.map actC) s.1
  let TT : LbI → VT := fun s => l8T lk lk2 es es2 ck ck2 (ar0 L) s.2.1 s.2.2.1 s.2.2.2.1 s.2.2.2.2.1 s.2.2.2.2.2.1 s.2.2.2.2.2.2 ((refL (more (actsS L) (M.take s.1)).1 (more (actsS L) (M.take s.1)).2).map rwE) []
  let Inv : LbI → Prop := fun s => s.1 ≤ M.length ∧ T6 (more (actsS L) (M.take s.1)).1 (more (actsS L) (M.take s.1)).2 s.2.1 s.2.2.1 s.2.2.2.1 s.2.2.2.2.1 s.2.2.2.2.2.1 s.2.2.2.2.2.2
  let Post : Exit → List TV → VT → Prop := fun e vs T => e = .normal ∧ vs = a2V n (M.map actC) M.length ∧ ∃ ka kb ea eb ca cb, T6 (more (actsS L) M).1 (more (actsS L) M).2 ka kb ea eb ca cb ∧ T = l8T lk lk2 es es2 ck ck2 (ar0 L) ka kb ea eb ca cb ((refL (more (actsS L) M).1 (more (actsS L) M).2).map rwE) []
  have hgm : ∀ M' : List Act6, Gone (more (actsS L) M').1 (more (actsS L) M').2 := fun M' => gone_more L M'
  refine loopK (f := laA) (id := 2) (by kernel_rfl) 78 a2K (fun s : LbI => M.length - s.1) sl TT Inv 8 0 (fun _ _ => ⟨Nat.le_refl _, Nat.le_refl _⟩)
    Post (fun s hs => ?_) (0, kc, kd, ec, ed, cc, cd) ⟨Nat.zero_le _, t6'⟩ K (fun e vs T ⟨h1, h2, ka, kb, ea, eb, ca, cb, h6, h3⟩ => ?_)
  · obtain ⟨j, ja, jb, ia, ib, ra, rb⟩ := s
    obtain ⟨hj, h6⟩ := hs
    simp only at hj h6
    have g := good_of h6 (hgm (M.take j))
    have hC : ∀ x : Act6, SpecsOk Try.prog noGl (specs [(acF, acX (l8T lk lk2 es es2 ck ck2 (ar0 L) ja jb ia ib ra rb ((refL (more (actsS L) (M.take j)).1 (more (actsS L) (M.take j)).2).map rwE) [.cells (actC x)]) [.ptr 6 0, .ptr 7 0, .agg (actC x)] (T6 (actS x (more (actsS L) (M.take j))).1 (actS x (more (actsS L) (M.take j))).2) fun ka kb ea eb ca cb => l8T lk lk2 es es2 ck ck2 (ar0 L) ka kb ea eb ca cb ((refL (actS x (more (actsS L) (M.take j))).1 (actS x (more (actsS L) (M.take j))).2).map rwE) [.cells (actC x)])]) := fun x => specs_ok fun p hp => by
      obtain rfl := List.mem_singleton.1 hp
      exact acX4_ok g h6 (ar0 L) x
    by_cases hlt : j < M.length
    · have hx : M[j]? = some M[j] := List.getElem?_eq_getElem hlt
      generalize M[j] = x at hx
      have hw := wrapN j (by omega)
      have hst := more_step (p := actsS L) hx
      refine vx_is mixedB_Try bodiesB_Try (hC x) lsOk_none (ev_a2 lk lk2 es es2 ck ck2 ja jb ia ib ra rb (M.map actC) (ar0 L) ((refL (more (actsS L) (M.take j)).1 (more (actsS L) (M.take j)).2).map rwE) _ n x.k x.i x.a x.c x.p x.u j _ _) ?_
      refine condT (decide_eq_true (by rw [List.length_map]; omega)) ⟨opure_actr rfl rfl (Int.natCast_nonneg _) (by simp only [Int.toNat_natCast]; rw [List.getElem?_map, hx]; rfl), ⟨rfl, rfl, rfl⟩, fun ka kb ea eb ca cb h7 => ⟨rfl, rfl, (j + 1, ka, kb, ea, eb, ca, cb), ⟨hlt, by simp only [hst]; exact h7⟩, by simp only; omega, .inr ⟨?_, ?_⟩⟩⟩
      · simp only [TT, hst]
        exact keep_l8 t6 h7 _ _ _
      · simp only [renL, TV.ren, renLL_act, Tok.ren, Go.Proofs.Ytgconkbnokbinaa.keep]
        simp only [sl, a2V, hw]
        rfl
    · obtain rfl : j = M.length := by omega
      refine vx_is mixedB_Try bodiesB_Try (hC ⟨0, 0, 0, 0, 0, 0⟩) lsOk_none (ev_a2 lk lk2 es es2 ck ck2 ja jb ia ib ra rb (M.map actC) (ar0 L) ((refL (more (actsS L) (M.take M.length)).1 (more (actsS L) (M.take M.length)).2).map rwE) _ n 0 0 0 0 0 0 M.length _ _) ?_
      refine condF (decide_eq_false (by rw [List.length_map]; omega)) ⟨rfl, rfl, rfl, rfl, ja, jb, ia, ib, ra, rb, ?_, ?_⟩
      · rw [List.take_length] at h6; exact h6
      · rw [List.take_length]; rfl
  · subst h1 h2 h3
    have e1 : ((M.map actC).length : Int) = M.length := by simp
    have := hK ka kb ea eb ca cb h6
    rw [e1] at this
    exact this
/-! ### The copies -/
theorem co_vcx (lk lk2 : Value → Option TV) (es es2 : List (Value × TV × Nat)) (ck ck2 : Nat) : VCx Try.prog noGl 0 coF [.ptr 0 0] (sT lk lk2 es es2 ck ck2) fun x T' => x = .ptr 5 0 ∧ T' = ⟨[.cells [.map 1, .map 2], .map kI lk es ck, .map kI lk2 es2 ck2, .map kI lk es ck, .map kI lk2 es2 ck2, .cells [.map 3, .map 4]], []⟩ :=
  vcallF_is mixedB_Try bodiesB_Try specsOk_none lsOk_none (ev_co lk lk2 es es2 ck ck2 _) ⟨rfl, rfl⟩
theorem coW_ok {S : List SiT} {R : RpM} (L : List Rw) : ∀ ro ys T K, coW (T6 S R) (L.map rwE) ro ys T K → VCx Try.prog noGl ro coF ys T K := by
  rintro ro ys T K hw
  unfold coW at hw
  split at hw
  · rename_i s1 lk es ck s2 lk2 es2 ck2 c m heq
    obtain ⟨⟨rfl, rfl, hTT, h6⟩, hk⟩ := hw
    subst hTT
    show VCx Try.prog noGl 0 coF [.ptr 2 0] ⟨[.map kI lk es ck, .map kI lk2 es2 ck2, .cells [.map 0, .map 1], mO (L.map rwE)], []⟩ K
    have hg : VT.give ⟨[.map kI lk es ck, .map kI lk2 es2 ck2, .cells [.map 0, .map 1], mO (L.map rwE)], []⟩ [2, 0, 1] [] = sT lk lk2 es es2 ck ck2 := give_lT h6 _ _
    refine (VCx.lift (xs := [.ptr 0 0]) [2, 0, 1] [] gvals_noGl (by decide) List.nodup_nil (fun k hk => ?_) (by simp) (fun _ _ => Nat.zero_le _) rfl (by rw [hg]; exact co_vcx lk lk2 es es2 ck ck2) (fun x T' hq => ?_)).mono ?_
    · simp only [List.mem_cons, List.not_mem_nil, or_false] at hk
      rcases hk with rfl | rfl | rfl <;> exact ⟨_, rfl, rfl⟩
    · rw [hq.2]; exact ⟨by simp, Nat.zero_le _⟩
    · rintro x T' ⟨y, T2, ⟨rfl, rfl⟩, rfl, rfl⟩
      have r1 := h6.ren1 (nameOut 4 [2, 0, 1]) (nameOut 0 [])
      have r2 := h6.ren2 (nameOut 4 [2, 0, 1]) (nameOut 0 [])
      have hb : VT.back ⟨[.map kI lk es ck, .map kI lk2 es2 ck2, .cells [.map 0, .map 1], mO (L.map rwE)], []⟩ [2, 0, 1] [] ⟨[.cells [.map 1, .map 2], .map kI lk es ck, .map kI lk2 es2 ck2, .map kI lk es ck, .map kI lk2 es2 ck2, .cells [.map 3, .map 4]], []⟩ = ⟨[.map kI lk es ck, .map kI lk2 es2 ck2, .cells [.map 0, .map 1], mO (L.map rwE)] ++ [.map kI lk es ck, .map kI lk2 es2 ck2, .cells [.map 4, .map 5]], []⟩ := by
        simp only [VT.back, List.length_cons, List.length_nil, List.map_cons, List.map_nil, Nat.reduceAdd, r1, r2, giveBack]
        simp [VO.ren, TV.ren, renL, nameOut]
      rw [hb]
      exact hk
  · exact hw.elim
theorem rCoW_ok (L : List Rw) (hl : L.length ≤ 8) : ∀ ro ys T K, rCoW (L.map rwE) ro ys T K → VCx Try.prog noGl ro rCoF ys T K := by
  rintro ro ys T K ⟨⟨rfl, rfl, ho, h7⟩, hk⟩
  have hg : T.give [3] [] = mL (L.map rwE) [] := by
    have := ren_mO (nameIn [3]) (nameIn []) L
    simp only [VT.give, List.map_cons, List.map_nil, ho, Option.getD_some, this, mL]
  refine (VCx.lift (xs := [.ptr 0 0]) [3] [] gvals_noGl (by decide) List.nodup_nil (fun j hj => ?_) (by simp) (fun _ _ => Nat.zero_le _) rfl (by rw [hg]; exact rco_vcx L hl) (fun x T' hq => ?_)).mono ?_
  · obtain rfl := List.mem_singleton.1 hj; exact ⟨_, ho, rfl⟩
  · rw [hq.2]; exact ⟨by simp [mL], Nat.zero_le _⟩
  · rintro x T' ⟨y, T2, ⟨rfl, rfl⟩, rfl, rfl⟩
    have r3 := ren_mO (nameOut T.objs.length [3]) (nameOut T.tails.length []) L
    have hs : T.objs.set 3 (mO (L.map rwE)) = T.objs := by
      apply List.ext_getElem?
      intro j
      rw [List.getElem?_set]
      split
      · rename_i h; subst h
        rw [if_pos (List.getElem?_eq_some_iff.1 ho).1, ho]
      · rfl
    have hb : T.back [3] [] (mL (L.map rwE) [mO (L.map rwE)]) = ⟨T.objs ++ [mO (L.map rwE)], T.tails⟩ := by
      simp only [VT.back, mL, List.map_cons, List.map_nil, r3, giveBack, hs, List.append_nil]
    rw [hb]
    have hp : TV.ren (nameOut T.objs.length [3]) (nameOut T.tails.length []) (.ptr 1 0) = .ptr 7 0 := by
      simp [TV.ren, nameOut, h7]
    rw [hp]
    exact hk
end Go.Proofs.Ytgconkbnokbinaa
