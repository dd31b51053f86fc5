/- Siblings: contracts of the document's Report, Capacity, Best, Until, All, Copy, Same. -/
import Derived.Test.YtgconkbnokbinaaMbSbRC
namespace Go.Proofs.Ytgconkbnokbinaa
open Go.RowKit Go.Maps Go.Sort

theorem rwE_len (l : List Rw) : ∀ e ∈ l.map rwE, e.length = 5 := fun e he => by obtain ⟨s, _, rfl⟩ := List.mem_map.1 he; rfl
theorem set_rw (c u : Int) (r : Rw) : ∀ (m : List Rw) (k : Nat), m[k]? = some r → setCs (setCs (m.map rwE).flatten (k * 5 + 3) [.val (.int .i64 c)]) (k * 5 + 4) [.val (.int .i64 u)] = ((m.set k (r.1, (c, u))).map rwE).flatten
  | [], k, h => by simp at h
  | b :: l, 0, h => by
    simp at h; subst h
    rfl
  | b :: l, k + 1, h => by
    have ih := set_rw c u r l k (by simpa using h)
    have e1 : (k + 1) * 5 + 3 = (k * 5 + 3) + 5 := by omega
    have e2 : (k + 1) * 5 + 4 = (k * 5 + 4) + 5 := by omega
    have h1 : ∀ (l : List TV) (o : Nat) (x : TV), setCs (rwE b ++ l) (o + 5) [x] = rwE b ++ setCs l o [x] := fun l o x => by
      have e4 : o + 5 + [x].length = (o + [x].length) + 5 := Nat.add_right_comm _ _ _
      simp only [setCs, rwE, e4]
      first | done | rfl
    rw [e1, e2, List.set_cons_succ, List.map_cons, List.map_cons, List.flatten_cons, List.flatten_cons, h1, h1, ih]
theorem rp_app (L : List Rw) (hpos : 0 < L.length) (h : L.length ≤ 8) : OTurn Try.prog noGl 0 (mL (L.map rwE) []) (.call ⟨.builtin .append, #[.tmp 32, .tmp 36], #[33, 33]⟩) [(32, .vec 5 [] .full), (36, .vec 5 (L.map rwE) .none)] (.row 5 1 0 (L.map rwE).length) (mL (L.map rwE) [.row (L.map rwE).flatten]) := by
  obtain ⟨inf, i1, i2, i3, i4⟩ := rowInf_ex
  match L, hpos, h with
  | b :: r, _, h =>
    have a := oturn_appR (inf := inf) (P := Try.prog) (G := noGl) (ro := 0) (T := mL ((b :: r).map rwE) []) (t := 33) (tx := 33) (s := .tmp 32) (x := .tmp 36) (l := [(32, .vec 5 [] .full), (36, .vec 5 ((b :: r).map rwE) .none)]) (q0 := rwE b) (qs := r.map rwE) (tok := .none)
      Try.underlying33 i1 i4 (by rw [i2]; rfl) (by decide) (by kernel_rfl) (by rw [i2]; rfl) (by rw [i2]; rfl)
      (by have h2 := Nat.mul_le_mul (show (rwE b :: r.map rwE).length ≤ 8 by simpa using h) i3
          omega)
    rw [i2] at a
    exact a
theorem rp_idx {x i : Operand} {n : Nat} {l : List (Nat × TV)} {k : Nat} {z : Int} (hx : evOf noGl l x = .row 5 1 0 n) (hz : evOf noGl l i = .val (.int .i64 z)) (hzk : z = k) (h1 : k < n) : OPure Try.prog noGl (.indexAddr 33 x i) l (.ptr 1 (k * 5)) := by
  subst hzk
  obtain ⟨inf, i1, i2, i3, i4⟩ := rowInf_ex
  have a := opure_indexR (inf := inf) (P := Try.prog) (G := noGl) (x := x) (i := i) (l := l) (id := 1) (off := 0) (n := n) (k := .i64) (z := (k : Int)) Try.underlying33 i1 (by rw [i2]; exact hx) hz (Int.natCast_nonneg _) (by omega)
  rw [i2] at a
  simpa using a
theorem setCs_len (cs : List TV) (o : Nat) (x : TV) (h : o + 1 ≤ cs.length) : (setCs cs o [x]).length = cs.length := by
  simp only [setCs, List.length_append, List.length_take, List.length_cons, List.length_nil, List.length_drop]; omega
theorem rrp_vcx {S : List SiT} {R : RpM} (g : Good S R) (i c u : Int) : VCx Try.prog noGl 0 rRpF [.ptr 0 0, .val (.int .i64 i), .val (.int .i64 c), .val (.int .i64 u)] ⟨[.cells [.vec 5 ((refL S R).map rwE) .none]], []⟩ fun x T' => ∃ z mz, x = .val (.int .i64 z) ∧ T' = ⟨[.cells [mz]], []⟩ ∧ z = rpA S i c u ∧ mz = .vec 5 ((refL S (rpR S R i c u)).map rwE) .none := by
  have hlen := refL_len (S := S) R
  have hfew := g.few
  have hhas := fiR_has g.nd (R := R) (i := i)
  have hC : SpecsOk Try.prog noGl (specs [(rFiF, fiW ((refL S R).map rwE) i (fiZ (refL S R) i))]) := specs_ok fun p hp => by obtain rfl := List.mem_singleton.1 hp; exact fiW_ok (refL S R) (by omega) i
  have same : ∀ (z : Int) (l : List VO), z = rpA S i c u → z ≠ 0 → ∃ z' mz, TV.val (.int .i64 z) = .val (.int .i64 z') ∧ VT.keep ⟨.cells [.vec 5 ((refL S R).map rwE) .none] :: l, []⟩ 1 0 = ⟨[.cells [mz]], []⟩ ∧ z' = rpA S i c u ∧ mz = .vec 5 ((refL S (rpR S R i c u)).map rwE) .none := fun z l hz h0 => by
    have hr : rpR S R i c u = R := by
      unfold rpR
      have : (rpA S i c u == 0) = false := by rw [← hz, beq_eq_false_iff_ne]; exact h0
      rw [this, cond_false]
    exact ⟨z, _, rfl, keep_mL _ l, hz, by rw [hr]⟩
  cases hf : fiR (refL S R) i with
  | none =>
    rw [hf] at hhas
    have hb : hasS S i = false := hhas.symm
    have ha : rpA S i c u = 7 := by simp [rpA, hb]
    refine VCx.keepQ 1 0 (Nat.le_refl _) (Nat.le_refl _) (vcallF_is mixedB_Try bodiesB_Try hC lsOk_none (ev_rpm ((refL S R).map rwE) i c u (fiZ (refL S R) i) 0 _) ?_)
    exact ⟨⟨rfl, rfl, rfl⟩, condT (decide_eq_true (by simp only [fiZ, hf]; omega)) (same 7 _ ha.symm (by decide))⟩
  | some k =>
    rw [hf] at hhas
    have hb : hasS S i = true := hhas.symm
    have hfz : fiZ (refL S R) i = k := by simp only [fiZ, hf]
    obtain ⟨r, hr, _, _⟩ := fiR_some hf
    have hk := (List.getElem?_eq_some_iff.1 hr).1
    by_cases hc : 0 ≤ c ∧ c ≤ 1000000 ∧ 0 ≤ u ∧ u ≤ 1099511627776
    · have ha : rpA S i c u = 0 := by simp [rpA, hb, hc]
      have hrr : rpR S R i c u = putR i (c, u) R := by simp [rpR, ha]
      have hput := refL_put g hf hr (c, u)
      rw [hrr, hput, ha]
      generalize refL S R = L at *
      have hfl : (L.map rwE).flatten.length = L.length * 5 := by
        have := flatten_len (rwE_len L)
        rwa [List.length_map] at this
      have hmul : (k + 1) * 5 ≤ L.length * 5 := Nat.mul_le_mul_right _ hk
      have hset := set_rw c u r L k hr
      refine VCx.keepQ 1 0 (Nat.le_refl _) (Nat.le_refl _) (VCx.freezeCell (i := 0) (size := 5) (es := (L.set k (r.1, (c, u))).map rwE) (vcallF_is mixedB_Try bodiesB_Try hC lsOk_none (ev_rpm (L.map rwE) i c u (fiZ L i) k _) ?_))
      obtain ⟨c1, c2, c3, c4⟩ := hc
      refine ⟨⟨rfl, rfl, rfl⟩, condF (decide_eq_false (by rw [hfz]; omega)) (condF (decide_eq_false (by omega)) (condF (decide_eq_false (by omega)) (condF (decide_eq_false (by omega)) (condF (decide_eq_false (by omega)) ⟨rp_app L (by omega) (by omega), rp_idx rfl rfl hfz (by rw [List.length_map]; exact hk), OPure.mk (by kernel_rfl),
        oturn_storeR (cs := (L.map rwE).flatten) (new := [.val (.int .i64 c)]) (off := k * 5 + 3) (id := 1) (inf := (Try.prog.info? 3).getD default) (by kernel_rfl) rfl rfl rfl (by kernel_rfl) (by rw [hfl]; show k * 5 + 3 + 1 ≤ _; omega) rfl (Nat.zero_le _),
        rp_idx rfl rfl hfz (by rw [List.length_map]; exact hk), OPure.mk (by kernel_rfl),
        oturn_storeR (cs := setCs (L.map rwE).flatten (k * 5 + 3) [.val (.int .i64 c)]) (new := [.val (.int .i64 u)]) (off := k * 5 + 4) (id := 1) (inf := (Try.prog.info? 3).getD default) (by kernel_rfl) rfl rfl rfl (by kernel_rfl) (by rw [setCs_len _ _ _ (by rw [hfl]; omega), hfl]; show k * 5 + 4 + 1 ≤ _; omega) rfl (Nat.zero_le _),
        1, 0, (L.map rwE).length, rfl, ?_, ?_⟩))))⟩
      · rw [hset]
        have hl : (L.map rwE).length = ((L.set k (r.1, (c, u))).map rwE).length := by simp
        rw [hl]
        exact rowsR_flat rfl (rwE_len _)
      · refine ⟨0, .vec 5 ((L.set k (r.1, (c, u))).map rwE) .none, rfl, ?_, rfl, rfl⟩
        simp only [VT.kill, VT.keep, List.set_cons_succ, List.set_cons_zero, List.take_succ_cons, List.take_zero, List.map_cons, List.map_nil, VO.ren, renL, TV.ren, renLL_rw, Tok.ren]
    · have ha : rpA S i c u = 2 := by simp only [rpA, hb, Bool.not_true, cond_false, decide_eq_false hc]
      refine VCx.keepQ 1 0 (Nat.le_refl _) (Nat.le_refl _) (vcallF_is mixedB_Try bodiesB_Try hC lsOk_none (ev_rpm ((refL S R).map rwE) i c u (fiZ (refL S R) i) 0 _) ?_)
      refine ⟨⟨rfl, rfl, rfl⟩, condF (decide_eq_false (by rw [hfz]; omega)) ?_⟩
      by_cases c1 : c < 0
      · exact condT (decide_eq_true c1) (same 2 _ ha.symm (by decide))
      · refine condF (decide_eq_false c1) ?_
        by_cases c2 : c > 1000000
        · exact condT (decide_eq_true c2) (same 2 _ ha.symm (by decide))
        · refine condF (decide_eq_false c2) ?_
          by_cases c3 : u < 0
          · exact condT (decide_eq_true c3) (same 2 _ ha.symm (by decide))
          · refine condF (decide_eq_false c3) ?_
            by_cases c4 : u > 1099511627776
            · exact condT (decide_eq_true c4) (same 2 _ ha.symm (by decide))
            · exact absurd ⟨by omega, by omega, by omega, by omega⟩ hc
/-! ### Capacity -/
theorem rcp_vcx {S : List SiT} {R : RpM} (g : Good S R) (i n : Int) : VCx Try.prog noGl 0 rCpF [.ptr 0 0, .val (.int .i64 i), .val (.int .i64 n)] (mL ((refL S R).map rwE) []) fun x T' => x = .val (.int .i64 (capR R i n)) ∧ T' = mL ((refL S R).map rwE) [] := by
  have hlen := refL_len (S := S) R
  have hfew := g.few
  have hcap := cap_row g (i := i) (n := n)
  generalize refL S R = L at *
  have hC : SpecsOk Try.prog noGl (specs [(rFiF, fiW (L.map rwE) i (fiZ L i))]) := specs_ok fun p hp => by obtain rfl := List.mem_singleton.1 hp; exact fiW_ok L (by omega) i
  cases hf : fiR L i with
  | none =>
    rw [hf] at hcap
    refine VCx.keepQ 1 0 (Nat.le_refl _) (Nat.le_refl _) (vcallF_is mixedB_Try bodiesB_Try hC lsOk_none (ev_rc (L.map rwE) i n (fiZ L i) 0 0 0 0 0 _) ?_)
    exact ⟨⟨rfl, rfl, rfl⟩, condT (decide_eq_true (by simp only [fiZ, hf]; omega)) ⟨by rw [hcap]; rfl, keep_mL L _⟩⟩
  | some k =>
    obtain ⟨r, hr, _, _⟩ := fiR_some hf
    have hfz : fiZ L i = k := by simp only [fiZ, hf]
    simp only [hf, hr] at hcap
    have hro : ∀ x i' l', evOf noGl l' x = .vec 5 (L.map rwE) .none → evOf noGl l' i' = .val (.int .i64 (fiZ L i)) → OPure Try.prog noGl (.indexAddr 33 x i') l' (.elt (rwE r)) := fun x i' l' hx hz =>
      opure_row hx hz (by rw [hfz]; omega) (by rw [hfz, Int.toNat_natCast, List.getElem?_map, hr]; rfl)
    refine VCx.keepQ 1 0 (Nat.le_refl _) (Nat.le_refl _) (vcallF_is mixedB_Try bodiesB_Try hC lsOk_none (ev_rc (L.map rwE) i n (fiZ L i) r.1.1 r.1.2.1 r.1.2.2 r.2.1 r.2.2 _) ?_)
    refine ⟨⟨rfl, rfl, rfl⟩, condF (decide_eq_false (by rw [hfz]; omega)) ⟨hro _ _ _ rfl rfl, ?_⟩⟩
    by_cases hn : n ≥ r.2.2
    · exact condT (decide_eq_true hn) ⟨by rw [hcap, if_pos hn]; rfl, keep_mL L _⟩
    · exact condF (decide_eq_false hn) ⟨hro _ _ _ rfl rfl, by rw [hcap, if_neg hn]; rfl, keep_mL L _⟩
theorem rCpW_ok {S : List SiT} {R : RpM} (g : Good S R) : ∀ ro ys T K, rCpW ((refL S R).map rwE) (capR R) ro ys T K → VCx Try.prog noGl ro rCpF ys T K := by
  rintro ro ys T K hw
  unfold rCpW at hw
  split at hw
  · rename_i i n
    obtain ⟨⟨rfl, ho⟩, hk⟩ := hw
    exact look_m (k := 0) rfl (fun _ _ => rfl) (rcp_vcx g i n) ho hk
  · exact hw.elim
/-! ### Best, Until -/
theorem refL_at {S : List SiT} {R : RpM} {j : Nat} {s : SiT} (h : (byId S)[j]? = some s) : ((refL S R).map rwE)[j]? = some (rwE (s, rptR R s.1)) := by
  unfold refL; rw [List.getElem?_map, List.getElem?_map, h]; rfl
theorem keep_mL3 (L : List Rw) (s t : SiT) (l : List VO) : VT.keep (mL (L.map rwE) (.cells (siE s) :: .cells (siE t) :: l)) 3 0 = mL (L.map rwE) [.cells (siE s), .cells (siE t)] := by
  have e1 := ren_mO (Go.Proofs.Ytgconkbnokbinaa.keep 3) (Go.Proofs.Ytgconkbnokbinaa.keep 0) L
  simp only [VT.keep, mL, List.take_succ_cons, List.take_zero, List.map_cons, List.map_nil, e1]
  rfl
theorem rbe_vcx {S : List SiT} {R : RpM} (g : Good S R) (n : Int) : VCx Try.prog noGl 0 rBeF [.ptr 0 0, .val (.int .i64 n)] (mL ((refL S R).map rwE) []) fun x T' => x = .tup [siT (hdS (ableS S R n)), .val (.bool (someS (ableS S R n)))] ∧ T' = mL ((refL S R).map rwE) [] := by
  have hbs := best_same g n
  have hlen := refL_len (S := S) R
  have hfew := g.few
  have hbl : (byId S).length = (refL S R).length := by unfold refL; rw [List.length_map]
  generalize someS (ableS S R n) = ok at *
  generalize hdS (ableS S R n) = t at *
  obtain ⟨ti, ta, tc⟩ := t
  have hloop : LsOk Try.prog noGl (rbL ((refL S R).map rwE) n ti ta tc ok (codeAt Try.prog rBeF 0)) := specsL_ok fun p hp => by
    obtain rfl := List.mem_singleton.1 hp
    refine loopL_ok fun K hK => ?_
    let B := byId S
    have hBl : B.length = (refL S R).length := hbl
    let q : Nat → Bool × SiT := fun j => (B.take j).foldl (beF1 R n) (false, (0, 0, 0))
    let sl : Nat → List TV := fun j => rbV n (q j).1 ((refL S R).map rwE) j
    let TT : Nat → VT := fun j => mL ((refL S R).map rwE) [.cells (siE (0, 0, 0)), .cells (siE (q j).2)]
    let Post : Exit → List TV → VT → Prop := fun e vs T => e = .normal ∧ vs = sl B.length ∧ T = TT B.length
    refine loopK (f := rBeF) (id := 0) (by kernel_rfl) 43 rbK (fun j => B.length - j) sl TT (fun j => j ≤ B.length) 3 0 (fun _ _ => ⟨Nat.le_refl _, Nat.le_refl _⟩)
      Post (fun j hj => ?_) 0 (Nat.zero_le _) K (fun e vs T hq => ?_)
    · by_cases hlt : j < B.length
      · have hs : B[j]? = some B[j] := List.getElem?_eq_getElem hlt
        generalize B[j] = s at hs
        have hw := wrapN j (by omega)
        have hrow := refL_at (R := R) hs
        have hq1 : q (j + 1) = beF1 R n (q j) s := by
          simp only [q]
          rw [List.take_add_one, hs, List.foldl_append]; rfl
        obtain ⟨i, a, c⟩ := s
        refine vx_is mixedB_Try bodiesB_Try (specs_ok fun p hp => by obtain rfl := List.mem_singleton.1 hp; exact rCpW_ok g) lsOk_none (ev_rbA ((refL S R).map rwE) (capR R) n i a c (rptR R i).1 (rptR R i).2 (q j).2.1 (q j).2.2.1 (q j).2.2.2 (q j).1 j _) ?_
        have nxt : ∀ (b : Bool) (t : SiT), q (j + 1) = (b, t) → loopQ 43 0 (fun j => B.length - j) sl TT (fun j => j ≤ B.length) 3 0 j Post .normal [.ptr 0 0, .val (.int .i64 n), .ptr 1 0, .ptr 2 0, .val (.bool b), .vec 5 ((refL S R).map rwE) .none, .val (.int .i64 ((refL S R).map rwE).length), .val (.int .i64 (IntKind.wrap IntKind.i64 ((↑j : Int) + (1 : Int))))] (mL ((refL S R).map rwE) [.cells (siE (0, 0, 0)), .cells (siE t), .cells (rwC i a c (rptR R i).1 (rptR R i).2)]) [] 43 := fun b t hbt => by
          refine ⟨rfl, rfl, j + 1, hlt, by simp only; omega, .inr ⟨?_, ?_⟩⟩
          · rw [keep_mL3]; simp only [TT, hbt]
          · simp only [renL, TV.ren, renLL_rw, Tok.ren, Go.Proofs.Ytgconkbnokbinaa.keep]
            simp only [sl, rbV, hbt, hw]
            rfl
        refine condT (decide_eq_true (by rw [List.length_map]; omega)) ⟨opure_row rfl rfl (Int.natCast_nonneg _) (by simp only [Int.toNat_natCast]; exact hrow), ⟨rfl, rfl⟩, ?_⟩
        by_cases hc : 0 < capR R i n
        · refine condT (decide_eq_true hc) ?_
          cases hb : (q j).1
          · exact condT rfl (nxt true (i, a, c) (by rw [hq1]; unfold beF1; rw [if_pos ⟨hc, .inl hb⟩]))
          · refine condF rfl ?_
            by_cases hcc : c < (q j).2.2.2
            · exact condT (decide_eq_true hcc) (nxt true (i, a, c) (by rw [hq1]; unfold beF1; rw [if_pos ⟨hc, .inr hcc⟩]))
            · refine condF (decide_eq_false hcc) ?_
              exact nxt true (q j).2 (by
                rw [hq1]; unfold beF1
                rw [if_neg (fun h => by rcases h.2 with h | h; · rw [hb] at h; cases h
                                        · exact hcc h), ← hb])
        · refine condF (decide_eq_false hc) ?_
          exact nxt (q j).1 (q j).2 (by rw [hq1]; unfold beF1; rw [if_neg (fun h => hc h.1)])
      · obtain rfl : j = B.length := by omega
        refine vx_is mixedB_Try bodiesB_Try (specs_ok fun p hp => by obtain rfl := List.mem_singleton.1 hp; exact rCpW_ok g) lsOk_none (ev_rbA ((refL S R).map rwE) (capR R) n 0 0 0 0 0 (q B.length).2.1 (q B.length).2.2.1 (q B.length).2.2.2 (q B.length).1 B.length _) ?_
        exact condF (decide_eq_false (by rw [List.length_map]; omega)) ⟨rfl, rfl, rfl, rfl, rfl⟩
    · obtain ⟨rfl, rfl, rfl⟩ := hq
      have e1 : q B.length = (ok, (ti, ta, tc)) := by simp only [q, List.take_length]; exact hbs
      have e2 : ((B.length : Nat) : Int) = (((refL S R).map rwE).length : Nat) := by rw [List.length_map, ← hbl]
      simp only [sl, TT, e1, e2]
      exact hK
  refine VCx.keepQ 1 0 (Nat.le_refl _) (Nat.le_refl _) (vcallF_is mixedB_Try bodiesB_Try specsOk_none hloop (ev_rb ((refL S R).map rwE) n ti ta tc ok _) ?_)
  exact ⟨rfl, ⟨rfl, rfl, rfl, trivial, rfl, rfl, rfl⟩, rfl, keep_mL _ _⟩
theorem run_vcx {S : List SiT} {R : RpM} (g : Good S R) (n : Int) : VCx Try.prog noGl 0 rUnF [.ptr 0 0, .val (.int .i64 n)] (mL ((refL S R).map rwE) []) fun x T' => x = .val (.int .i64 (untS S R n)) ∧ T' = mL ((refL S R).map rwE) [] := by
  rw [← until_same]
  have hlen := refL_len (S := S) R
  have hfew := g.few
  have hbl : (byId S).length = (refL S R).length := by unfold refL; rw [List.length_map]
  have hloop : LsOk Try.prog noGl (ruL ((refL S R).map rwE) n ((byId S).foldl (unF1 R n) 0) (codeAt Try.prog rUnF 0)) := specsL_ok fun p hp => by
    obtain rfl := List.mem_singleton.1 hp
    refine loopL_ok fun K hK => ?_
    let B := byId S
    have hBl : B.length = (refL S R).length := hbl
    let q : Nat → Int := fun j => (B.take j).foldl (unF1 R n) 0
    let sl : Nat → List TV := fun j => ruV n (q j) ((refL S R).map rwE) j
    let TT : VT := mL ((refL S R).map rwE) []
    let Post : Exit → List TV → VT → Prop := fun e vs T => e = .normal ∧ vs = sl B.length ∧ T = TT
    refine loopK (f := rUnF) (id := 0) (by kernel_rfl) 34 ruK (fun j => B.length - j) sl (fun _ => TT) (fun j => j ≤ B.length) 1 0 (fun _ _ => ⟨Nat.le_refl _, Nat.le_refl _⟩)
      Post (fun j hj => ?_) 0 (Nat.zero_le _) K (fun e vs T hq => ?_)
    · by_cases hlt : j < B.length
      · have hs : B[j]? = some B[j] := List.getElem?_eq_getElem hlt
        generalize B[j] = s at hs
        have hw := wrapN j (by omega)
        have hrow := refL_at (R := R) hs
        have hq1 : q (j + 1) = unF1 R n (q j) s := by
          simp only [q]
          rw [List.take_add_one, hs, List.foldl_append]; rfl
        obtain ⟨i, a, c⟩ := s
        refine vx_is mixedB_Try bodiesB_Try (specs_ok fun p hp => by obtain rfl := List.mem_singleton.1 hp; exact rCpW_ok g) lsOk_none (ev_ruA ((refL S R).map rwE) (capR R) n (q j) i a c (rptR R i).1 (rptR R i).2 j _) ?_
        have nxt : ∀ (m : Int), q (j + 1) = m → loopQ 34 0 (fun j => B.length - j) sl (fun _ => TT) (fun j => j ≤ B.length) 1 0 j Post .normal [.ptr 0 0, .val (.int .i64 n), .val (.int .i64 m), .vec 5 ((refL S R).map rwE) .none, .val (.int .i64 ((refL S R).map rwE).length), .val (.int .i64 (IntKind.wrap IntKind.i64 ((↑j : Int) + (1 : Int))))] (mL ((refL S R).map rwE) [.cells (rwC i a c (rptR R i).1 (rptR R i).2)]) [] 34 := fun m hm => by
          refine ⟨rfl, rfl, j + 1, hlt, by simp only; omega, .inr ⟨keep_mL _ _, ?_⟩⟩
          simp only [renL, TV.ren, renLL_rw, Tok.ren, Go.Proofs.Ytgconkbnokbinaa.keep]
          simp only [sl, ruV, hm, hw]
          rfl
        refine condT (decide_eq_true (by rw [List.length_map]; omega)) ⟨opure_row rfl rfl (Int.natCast_nonneg _) (by simp only [Int.toNat_natCast]; exact hrow), ⟨rfl, rfl⟩, ?_⟩
        by_cases hc : 0 < capR R i n
        · refine condT (decide_eq_true hc) ?_
          by_cases hu : (rptR R i).2 > q j
          · exact condT (decide_eq_true hu) (nxt _ (by rw [hq1]; unfold unF1; rw [if_pos ⟨hc, hu⟩]))
          · exact condF (decide_eq_false hu) (nxt _ (by rw [hq1]; unfold unF1; rw [if_neg (fun h => hu h.2)]))
        · exact condF (decide_eq_false hc) (nxt _ (by rw [hq1]; unfold unF1; rw [if_neg (fun h => hc h.1)]))
      · obtain rfl : j = B.length := by omega
        refine vx_is mixedB_Try bodiesB_Try (specs_ok fun p hp => by obtain rfl := List.mem_singleton.1 hp; exact rCpW_ok g) lsOk_none (ev_ruA ((refL S R).map rwE) (capR R) n (q B.length) 0 0 0 0 0 B.length _) ?_
        exact condF (decide_eq_false (by rw [List.length_map]; omega)) ⟨rfl, rfl, rfl, rfl, rfl⟩
    · obtain ⟨rfl, rfl, rfl⟩ := hq
      have e1 : q B.length = (byId S).foldl (unF1 R n) 0 := by simp only [q, List.take_length]; rfl
      have e2 : ((B.length : Nat) : Int) = (((refL S R).map rwE).length : Nat) := by rw [List.length_map, ← hbl]
      simp only [sl, e1, e2]
      exact hK
  refine VCx.keepQ 1 0 (Nat.le_refl _) (Nat.le_refl _) (vcallF_is mixedB_Try bodiesB_Try specsOk_none hloop (ev_ru ((refL S R).map rwE) n ((byId S).foldl (unF1 R n) 0) _) ?_)
  exact ⟨rfl, ⟨rfl, rfl, rfl, trivial, rfl, rfl, rfl⟩, rfl, keep_mL _ _⟩
/-! ### All, Copy, Same -/
theorem ral_vcx {S : List SiT} {R : RpM} (g : Good S R) : VCx Try.prog noGl 0 rAlF [.ptr 0 0] (mL ((refL S R).map rwE) []) fun x T' => x = .vec 3 ((byId S).map siE) .none ∧ T' = mL ((refL S R).map rwE) [] := by
  have hlen := refL_len (S := S) R
  have hfew := g.few
  have hbl : (byId S).length = (refL S R).length := by unfold refL; rw [List.length_map]
  have keepT : ∀ (n : Nat) (l : List VO), VT.keep (mLt ((refL S R).map rwE) n l) 1 1 = mLt ((refL S R).map rwE) n [] := fun n l => by
    have e1 := ren_mO (Go.Proofs.Ytgconkbnokbinaa.keep 1) (Go.Proofs.Ytgconkbnokbinaa.keep 1) (refL S R)
    simp only [VT.keep, mLt, List.take_succ_cons, List.take_zero, List.map_cons, List.map_nil, e1]
  have hloop : LsOk Try.prog noGl (rlL ((refL S R).map rwE) ((byId S).map siE) (codeAt Try.prog rAlF 0)) := specsL_ok fun p hp => by
    obtain rfl := List.mem_singleton.1 hp
    refine loopL_ok fun K hK => ?_
    let B := byId S
    have hBl : B.length = (refL S R).length := hbl
    let sl : Nat → List TV := fun j => rlV ((B.take j).map siE) ((refL S R).map rwE) j
    let TT : Nat → VT := fun j => mLt ((refL S R).map rwE) ((B.take j).map siE).length []
    let Post : Exit → List TV → VT → Prop := fun e vs T => e = .normal ∧ vs = sl B.length ∧ T = TT B.length
    refine loopK (f := rAlF) (id := 0) (by kernel_rfl) 22 rlK (fun j => B.length - j) sl TT (fun j => j ≤ B.length) 1 1 (fun _ _ => ⟨Nat.le_refl _, Nat.le_refl _⟩)
      Post (fun j hj => ?_) 0 (Nat.zero_le _) K (fun e vs T hq => ?_)
    · by_cases hlt : j < B.length
      · have hs : B[j]? = some B[j] := List.getElem?_eq_getElem hlt
        generalize B[j] = s at hs
        have hw := wrapN j (by omega)
        have hrow := refL_at (R := R) hs
        have hst : (B.take (j + 1)).map siE = (B.take j).map siE ++ [siE s] := by
          rw [List.take_add_one, hs, List.map_append]; rfl
        have hra : ∀ f g, renLL f g ((B.take j).map siE ++ [siE s]) = (B.take j).map siE ++ [siE s] := fun f g => by rw [← hst]; exact renLL_site f g _
        have hl2 : ((B.take j).map siE).length ≤ 8 := by rw [List.length_map, List.length_take]; omega
        obtain ⟨i, a, c⟩ := s
        have hra : ∀ f g, renLL f g ((B.take j).map siE ++ [siC i a c]) = (B.take j).map siE ++ [siC i a c] := hra
        refine vx_is mixedB_Try bodiesB_Try specsOk_none lsOk_none (ev_rlA ((refL S R).map rwE) ((B.take j).map siE) i a c (rptR R i).1 (rptR R i).2 j _) ?_
        refine condT (decide_eq_true (by rw [List.length_map]; omega)) ⟨opure_row rfl rfl (Int.natCast_nonneg _) (by simp only [Int.toNat_natCast]; exact hrow),
          oturn_rsi (es2 := [siC i a c]) (T1 := mLt ((refL S R).map rwE) ((B.take j).map siE).length [.cells (rwC i a c (rptR R i).1 (rptR R i).2)]) (by simp [evOf, evFind, vadopt]; rfl) rfl (by simp only [List.length_cons, List.length_nil]; omega), rfl, rfl, j + 1, hlt, by simp only; omega, .inr ⟨?_, ?_⟩⟩
        · have e : ((B.take j).map siE).length + 1 = ((B.take (j + 1)).map siE).length := by rw [hst]; simp
          simp only [TT]
          rw [← e]
          exact keepT _ _
        · simp only [renL, TV.ren, renLL_rw, hra, Tok.ren, Go.Proofs.Ytgconkbnokbinaa.keep]
          simp only [sl, rlV, hst, hw, List.length_append, List.length_cons, List.length_nil]
          rfl
      · obtain rfl : j = B.length := by omega
        refine vx_is mixedB_Try bodiesB_Try specsOk_none lsOk_none (ev_rlA ((refL S R).map rwE) ((B.take B.length).map siE) 0 0 0 0 0 B.length _) ?_
        exact condF (decide_eq_false (by rw [List.length_map]; omega)) ⟨rfl, rfl, rfl, rfl, rfl⟩
    · obtain ⟨rfl, rfl, rfl⟩ := hq
      have e2 : ((B.length : Nat) : Int) = (((refL S R).map rwE).length : Nat) := by rw [List.length_map, ← hbl]
      simp only [sl, TT, e2, List.take_length]
      exact hK
  refine VCx.keepQ 1 0 (Nat.le_refl _) (Nat.le_refl _) (vcallF_is mixedB_Try bodiesB_Try specsOk_none hloop (ev_rl ((refL S R).map rwE) ((byId S).map siE) _) ?_)
  refine ⟨rfl, ⟨rfl, rfl, rfl, ⟨rfl, trivial⟩, rfl, rfl, rfl⟩, ?_, ?_⟩
  · simp only [TV.ren, renLL_site, Tok.ren, Go.Proofs.Ytgconkbnokbinaa.keep]
    rfl
  · have e1 := ren_mO (Go.Proofs.Ytgconkbnokbinaa.keep 1) (Go.Proofs.Ytgconkbnokbinaa.keep 0) (refL S R)
    simp only [mO] at e1
    simp only [VT.keep, mL, mO, List.take_succ_cons, List.take_zero, List.map_cons, List.map_nil, e1]
theorem rco_vcx (L : List Rw) (hl : L.length ≤ 8) : VCx Try.prog noGl 0 rCoF [.ptr 0 0] (mL (L.map rwE) []) fun x T' => x = .ptr 1 0 ∧ T' = mL (L.map rwE) [mO (L.map rwE)] := by
  refine VCx.keepQ 2 0 (Nat.le_succ _) (Nat.le_refl _) (vcallF_is mixedB_Try bodiesB_Try specsOk_none lsOk_none (ev_rco (L.map rwE) _) ⟨?_, rfl, ?_⟩)
  · have o := oturn_row (T := mL (L.map rwE) []) (T1 := { mL (L.map rwE) [] with tails := [(0, 5, false)] }) (s := .tmp 3) (x := .tmp 7) (l := [(3, .vec 5 [] .full), (7, .vec 5 (L.map rwE) .none)]) (es := []) (es2 := L.map rwE) (k := 0) (n := 0) (bn := false) rfl rfl (by rw [List.length_map]; simp only [List.length_nil]; omega)
    simp only [Nat.zero_add] at o
    exact o
  · simp only [VT.keep, List.take_succ_cons, List.take_zero, List.map_cons, List.map_nil, VO.ren, renL, TV.ren, renLL_rw, Tok.ren, Go.Proofs.Ytgconkbnokbinaa.keep, mL, mO]
    rfl
theorem eqSi (i a c : Int) : keyEq (.agg [Value.int .i64 i, .int .u32 a, .int .i64 c].toArray) (.agg [Value.int .i64 i, .int .u32 a, .int .i64 c].toArray) = true := by simp [keyEq, eqAll, cellEq]
theorem sa_vcx (A : List SiT) (hl : A.length ≤ 1000) : VCx Try.prog noGl 0 rSaF [.vec 3 (A.map siE) .none, .vec 3 (A.map siE) .none] ⟨[], []⟩ fun x T' => x = .val (.bool true) ∧ T' = ⟨[], []⟩ := by
  have hloop : LsOk Try.prog noGl (saL (A.map siE) (codeAt Try.prog rSaF 0)) := specsL_ok fun p hp => by
    obtain rfl := List.mem_singleton.1 hp
    refine loopL_ok fun K hK => ?_
    let sl : Nat → List TV := fun j => saV (A.map siE) j
    let Post : Exit → List TV → VT → Prop := fun e vs T => e = .normal ∧ vs = sl A.length ∧ T = ⟨[], []⟩
    refine loopK (f := rSaF) (id := 0) (by kernel_rfl) 26 saK (fun j => A.length - j) sl (fun _ => ⟨[], []⟩) (fun j => j ≤ A.length) 0 0 (fun _ _ => ⟨Nat.le_refl _, Nat.le_refl _⟩)
      Post (fun j hj => ?_) 0 (Nat.zero_le _) K (fun e vs T hq => ?_)
    · by_cases hlt : j < A.length
      · have hs : A[j]? = some A[j] := List.getElem?_eq_getElem hlt
        generalize A[j] = s at hs
        have hw := wrapN j (by omega)
        obtain ⟨i, a, c⟩ := s
        refine vx_is mixedB_Try bodiesB_Try specsOk_none lsOk_none (ev_saA (A.map siE) i a c j _) ?_
        have ho : ∀ x i' l', evOf noGl l' x = .vec 3 (A.map siE) .none → evOf noGl l' i' = .val (.int .i64 j) → OPure Try.prog noGl (.indexAddr 68 x i') l' (.elt (siC i a c)) := fun x i' l' hx hz =>
          opure_rsi hx hz (Int.natCast_nonneg _) (by simp only [Int.toNat_natCast]; rw [List.getElem?_map, hs]; rfl)
        refine condT (decide_eq_true (by rw [List.length_map]; omega)) ⟨ho _ _ _ rfl rfl, ho _ _ _ rfl rfl, condF ?_ ⟨rfl, rfl, j + 1, hlt, by simp only; omega, .inl ⟨rfl, ?_⟩⟩⟩
        · show eqRes .neq (keyEq (.agg [Value.int .i64 i, .int .u32 a, .int .i64 c].toArray) (.agg [Value.int .i64 i, .int .u32 a, .int .i64 c].toArray)) = false
          rw [eqSi]; rfl
        · simp only [sl, saV, hw]
      · obtain rfl : j = A.length := by omega
        refine vx_is mixedB_Try bodiesB_Try specsOk_none lsOk_none (ev_saA (A.map siE) 0 0 0 A.length _) ?_
        exact condF (decide_eq_false (by rw [List.length_map]; omega)) ⟨rfl, rfl, rfl, rfl, rfl⟩
    · obtain ⟨rfl, rfl, rfl⟩ := hq
      have e2 : sl A.length = saV (A.map siE) (A.map siE).length := by simp only [sl, List.length_map]
      rw [e2]
      exact hK
  refine vcallF_is mixedB_Try bodiesB_Try specsOk_none hloop (ev_sa (A.map siE) _) (condF ?_ ⟨rfl, ⟨rfl, rfl, rfl, trivial, rfl, rfl, rfl⟩, rfl, rfl⟩)
  show eqRes .neq (keyEq (Value.int .i64 _) (Value.int .i64 _)) = false
  simp [eqRes, keyEq, cellEq]
end Go.Proofs.Ytgconkbnokbinaa
