/- Siblings: contracts of the document's table. -/
import Derived.Test.YtgconkbnokbinaaMbSbRE
import Derived.Test.YtgconkbnokbinaaMbSbPl
import Derived.Test.YtgconkbnokbinaaMb5
namespace Go.Proofs.Ytgconkbnokbinaa
open Go.RowKit Go.Maps Go.Sort

theorem renLL_rw (f g : Nat → Option Nat) : ∀ l : List Rw, renLL f g (l.map rwE) = l.map rwE
  | [] => rfl
  | a :: l => by simp only [List.map_cons, renLL, renLL_rw f g l]; rfl
theorem ren_mO (f g : Nat → Option Nat) (l : List Rw) : VO.ren f g (mO (l.map rwE)) = mO (l.map rwE) := by
  simp only [mO, VO.ren, renL, TV.ren, renLL_rw, Tok.ren]
theorem rowInf_ex : ∃ inf : TypeInfo, Try.prog.info? 75 = some inf ∧ inf.size = 5 ∧ inf.bytes + 1 ≤ 1000 ∧ inf.zero = some (.agg #[.int .i64 0, .int .u32 0, .int .i64 0, .int .i64 0, .int .i64 0]) :=
  ⟨(Try.prog.info? 75).getD default, by kernel_rfl, by kernel_rfl, Nat.le_of_ble_eq_true (by kernel_rfl), by kernel_rfl⟩
theorem rsiInf_ex : ∃ inf : TypeInfo, Try.prog.info? 55 = some inf ∧ inf.size = 3 ∧ inf.bytes + 1 ≤ 1000 ∧ inf.zero = some (.agg #[.int .i64 0, .int .u32 0, .int .i64 0]) :=
  ⟨(Try.prog.info? 55).getD default, by kernel_rfl, by kernel_rfl, Nat.le_of_ble_eq_true (by kernel_rfl), by kernel_rfl⟩
set_option maxRecDepth 100000 in
theorem opure_row {x i : Operand} {l : List (Nat × TV)} {L : List (List TV)} {tok : Tok} {k : IntKind} {z : Int} {e : List TV} (hx : evOf noGl l x = .vec 5 L tok) (hz : evOf noGl l i = .val (.int k z)) (h0 : 0 ≤ z) (he : L[z.toNat]? = some e) :
    OPure Try.prog noGl (.indexAddr 33 x i) l (.elt e) := by
  obtain ⟨inf, i_at, i_size, _, _⟩ := rowInf_ex
  exact opure_index (inf := inf) Try.underlying33 i_at (by rw [i_size]; exact hx) hz h0 he
set_option maxRecDepth 100000 in
theorem opure_rsi {x i : Operand} {l : List (Nat × TV)} {L : List (List TV)} {tok : Tok} {k : IntKind} {z : Int} {e : List TV} (hx : evOf noGl l x = .vec 3 L tok) (hz : evOf noGl l i = .val (.int k z)) (h0 : 0 ≤ z) (he : L[z.toNat]? = some e) :
    OPure Try.prog noGl (.indexAddr 68 x i) l (.elt e) := by
  obtain ⟨inf, i_at, i_size, _, _⟩ := rsiInf_ex
  exact opure_index (inf := inf) Try.underlying68 i_at (by rw [i_size]; exact hx) hz h0 he
theorem opure_hi5 {x i : Operand} {l : List (Nat × TV)} {es : List (List TV)} {tok : Tok} {k : IntKind} {z : Int} {n : Nat} (hx : evOf noGl l x = .vec 5 es tok) (hz : evOf noGl l i = .val (.int k z)) (h0 : 0 ≤ z) (hn : z.toNat = n) (he : n ≤ es.length) : OPure Try.prog noGl (.slice 33 x none (some i) none) l (.vec 5 (es.take n) .none) := by
  subst hn
  obtain ⟨inf, i1, i2, _, _⟩ := rowInf_ex
  have h := opure_hi (inf := inf) (P := Try.prog) (G := noGl) (x := x) (i := i) (l := l) (es := es) (tok := tok) Try.underlying33 i1 (by rw [i2]; exact hx) hz h0 he
  rw [i2] at h
  exact h
theorem opure_lo5 {x i : Operand} {l : List (Nat × TV)} {es : List (List TV)} {tok : Tok} {k : IntKind} {z : Int} {n : Nat} (hx : evOf noGl l x = .vec 5 es tok) (hz : evOf noGl l i = .val (.int k z)) (h0 : 0 ≤ z) (hn : z.toNat = n) (he : n ≤ es.length) : OPure Try.prog noGl (.slice 33 x (some i) none none) l (.vec 5 (es.drop n) tok) := by
  subst hn
  obtain ⟨inf, i1, i2, _, _⟩ := rowInf_ex
  have h := opure_lo (inf := inf) (P := Try.prog) (G := noGl) (x := x) (i := i) (l := l) (es := es) (tok := tok) Try.underlying33 i1 (by rw [i2]; exact hx) hz h0 he
  rw [i2] at h
  exact h
theorem oturn_row {T T1 : VT} {s x : Operand} {l : List (Nat × TV)} {es es2 : List (List TV)} {k n : Nat} {bn : Bool} (hs : vadopt T 5 (evOf noGl l s) = some (es, k, n, bn, T1)) (hx : srcOf 5 (evOf noGl l x) = some es2) (hb : es.length + es2.length ≤ 3000) :
    OTurn Try.prog noGl 0 T (.call ⟨.builtin .append, #[s, x], #[33, 33]⟩) l (.vec 5 (es ++ es2) (.tail k (n + es2.length))) { T1 with tails := T1.tails.set k (n + es2.length, 5, bn) } := by
  obtain ⟨inf, i1, i2, i3, i4⟩ := rowInf_ex
  have h := oturn_app (inf := inf) (P := Try.prog) (G := noGl) (ro := 0) (T := T) (T1 := T1) (t := 33) (tx := 33) (s := s) (x := x) (l := l) (es := es) (es2 := es2) (k := k) (n := n) (bn := bn) Try.underlying33 i1 i4 (by rw [i2]; rfl) (by rw [i2]; decide) (by kernel_rfl) (by rw [i2]; exact hs) (by rw [i2]; exact hx)
    (by have h1 := i3
        have h2 := Nat.mul_le_mul hb h1
        omega)
  rw [i2] at h
  exact h
theorem oturn_rsi {T T1 : VT} {s x : Operand} {l : List (Nat × TV)} {es es2 : List (List TV)} {k n : Nat} {bn : Bool} (hs : vadopt T 3 (evOf noGl l s) = some (es, k, n, bn, T1)) (hx : srcOf 3 (evOf noGl l x) = some es2) (hb : es.length + es2.length ≤ 3000) :
    OTurn Try.prog noGl 0 T (.call ⟨.builtin .append, #[s, x], #[68, 68]⟩) l (.vec 3 (es ++ es2) (.tail k (n + es2.length))) { T1 with tails := T1.tails.set k (n + es2.length, 3, bn) } := by
  obtain ⟨inf, i1, i2, i3, i4⟩ := rsiInf_ex
  have h := oturn_app (inf := inf) (P := Try.prog) (G := noGl) (ro := 0) (T := T) (T1 := T1) (t := 68) (tx := 68) (s := s) (x := x) (l := l) (es := es) (es2 := es2) (k := k) (n := n) (bn := bn) Try.underlying68 i1 i4 (by rw [i2]; rfl) (by rw [i2]; decide) (by kernel_rfl) (by rw [i2]; exact hs) (by rw [i2]; exact hx)
    (by have h1 := i3
        have h2 := Nat.mul_le_mul hb h1
        omega)
  rw [i2] at h
  exact h
/-! ### find -/
def fiZ (L : List Rw) (i : Int) : Int := match fiR L i with
  | some k => k
  | none => -1
theorem fiR_is {L : List Rw} {i : Int} {j : Nat} {r : Rw} (h : L[j]? = some r) (hr : r.1.1 = i) (hj : ∀ k r', k < j → L[k]? = some r' → r'.1.1 ≠ i) : fiR L i = some j := by
  obtain ⟨hjl, h1⟩ := List.getElem?_eq_some_iff.1 h
  refine List.findIdx?_eq_some_iff_getElem.2 ⟨hjl, by simp [h1, hr], fun k hk => ?_⟩
  have := hj k _ hk (List.getElem?_eq_getElem (by omega))
  simpa using this
theorem fiR_isn {L : List Rw} {i : Int} (hj : ∀ k r', k < L.length → L[k]? = some r' → r'.1.1 ≠ i) : fiR L i = none := by
  refine List.findIdx?_eq_none_iff.2 fun r hr => ?_
  obtain ⟨k, hk, rfl⟩ := List.getElem_of_mem hr
  simpa using hj k _ hk (List.getElem?_eq_getElem hk)
theorem keep_mL (L : List Rw) (l : List VO) : VT.keep (mL (L.map rwE) l) 1 0 = mL (L.map rwE) [] := by
  have e1 := ren_mO (Go.Proofs.Ytgconkbnokbinaa.keep 1) (Go.Proofs.Ytgconkbnokbinaa.keep 0) L
  simp only [VT.keep, mL, List.take_succ_cons, List.take_zero, List.map_cons, List.map_nil, e1]
theorem fi_vcx (L : List Rw) (hl : L.length ≤ 1000) (i : Int) : VCx Try.prog noGl 0 rFiF [.ptr 0 0, .val (.int .i64 i)] (mL (L.map rwE) []) fun x T' => x = .val (.int .i64 (fiZ L i)) ∧ T' = mL (L.map rwE) [] := by
  have hloop : LsOk Try.prog noGl (fiL (L.map rwE) i (fiZ L i) (fiR L i).isSome (codeAt Try.prog rFiF 0)) := specsL_ok fun p hp => by
    obtain rfl := List.mem_singleton.1 hp
    refine loopL_ok fun K hK => ?_
    let sl : Nat → List TV := fun j => fiV (L.map rwE) i 0 j
    let Post : Exit → List TV → VT → Prop := fun e vs T => (∃ k : Nat, ∃ cs, fiR L i = some k ∧ e = .ret ∧ vs = fiV (L.map rwE) i k k ∧ T = mL (L.map rwE) [.cells cs]) ∨ (fiR L i = none ∧ e = .normal ∧ vs = sl L.length ∧ T = mL (L.map rwE) [])
    refine loopK (f := rFiF) (id := 0) (by kernel_rfl) 24 fiK (fun j => L.length - j) sl (fun _ => mL (L.map rwE) []) (fun j => j ≤ L.length ∧ ∀ k r', k < j → L[k]? = some r' → r'.1.1 ≠ i) 1 0 (fun _ _ => ⟨Nat.le_refl _, Nat.le_refl _⟩)
      Post (fun j hj => ?_) 0 ⟨Nat.zero_le _, fun k _ hk => absurd hk (Nat.not_lt_zero k)⟩ K (fun e vs T hq => ?_)
    · obtain ⟨hj, hne⟩ := hj
      by_cases hlt : j < L.length
      · have hs : L[j]? = some L[j] := List.getElem?_eq_getElem hlt
        generalize L[j] = r at hs
        have hw := wrapN j (by omega)
        refine vx_is mixedB_Try bodiesB_Try specsOk_none lsOk_none (ev_fiA (L.map rwE) i 0 r.1.1 r.1.2.1 r.1.2.2 r.2.1 r.2.2 j _) ?_
        refine condT (decide_eq_true (by rw [List.length_map]; omega)) ⟨opure_row rfl rfl (Int.natCast_nonneg _) (by simp only [Int.toNat_natCast]; rw [List.getElem?_map, hs]; rfl), ?_⟩
        by_cases he : r.1.1 = i
        · refine condT (by rw [eqI]; exact decide_eq_true he) ⟨rfl, rfl, .inl ⟨j, _, fiR_is hs he hne, rfl, rfl, rfl⟩⟩
        · refine condF (by rw [eqI]; exact decide_eq_false he) ⟨rfl, rfl, j + 1, ⟨hlt, fun k r' hk hr => ?_⟩, by simp only; omega, .inr ⟨keep_mL L _, ?_⟩⟩
          · rcases Nat.lt_or_ge k j with h | h
            · exact hne k r' h hr
            · obtain rfl : k = j := by omega
              rw [hs] at hr; injection hr with hr; subst hr; exact he
          · simp only [renL, TV.ren, renLL_rw, Tok.ren]
            simp only [sl, fiV, hw]
      · obtain rfl : j = L.length := by omega
        refine vx_is mixedB_Try bodiesB_Try specsOk_none lsOk_none (ev_fiA (L.map rwE) i 0 0 0 0 0 0 L.length _) ?_
        exact condF (decide_eq_false (by rw [List.length_map]; omega)) ⟨rfl, rfl, .inr ⟨fiR_isn hne, rfl, rfl, rfl⟩⟩
    · rcases hq with ⟨k, cs, h1, rfl, rfl, rfl⟩ | ⟨h1, rfl, rfl, rfl⟩
      · simp only [h1, Option.isSome_some, cond_true, fiZ] at hK
        exact hK cs
      · simp only [h1, Option.isSome_none, cond_false] at hK
        have e1 : sl L.length = fiV (L.map rwE) i 0 (L.map rwE).length := by simp only [sl, List.length_map]
        rw [e1]
        exact hK
  refine VCx.keepQ 1 0 (Nat.le_refl _) (Nat.le_refl _) (vcallF_is mixedB_Try bodiesB_Try specsOk_none hloop (ev_fi (L.map rwE) i (fiZ L i) (fiR L i).isSome _) ?_)
  refine ⟨rfl, ⟨rfl, rfl, rfl, trivial, rfl, rfl, rfl⟩, ?_⟩
  cases h : fiR L i with
  | none => exact condF rfl ⟨by simp only [fiZ, h]; rfl, keep_mL L _⟩
  | some k => exact condT rfl fun cs => ⟨by simp only [fiZ, h]; rfl, keep_mL L _⟩
/-- a function that looks at the document's table at object k, and turns nothing -/
theorem look_m {f : FuncId} {ys0 ys1 : List TV} {x0 : TV} {L : List Rw} {k : Nat} (hy : renL (nameIn [k]) (nameIn []) ys0 = ys1) (hx : ∀ f g, x0.ren f g = x0) (hv : VCx Try.prog noGl 0 f ys1 (mL (L.map rwE) []) fun x T' => x = x0 ∧ T' = mL (L.map rwE) []) {T : VT} (ho : T.objs[k]? = some (mO (L.map rwE))) {K : TV → VT → Prop} (hk : K x0 T) :
    VCx Try.prog noGl 0 f ys0 T K := by
  have hg : T.give [k] [] = mL (L.map rwE) [] := by
    have := ren_mO (nameIn [k]) (nameIn []) L
    simp only [VT.give, List.map_cons, List.map_nil, ho, Option.getD_some, this, mL]
  refine (VCx.lift (xs := ys1) [k] [] gvals_noGl (by simp) List.nodup_nil (fun j hj => ?_) (by simp) (fun _ _ => Nat.zero_le _) hy (by rw [hg]; exact hv) (fun x T' hq => ?_)).mono ?_
  · obtain rfl := List.mem_singleton.1 hj; exact ⟨_, ho, rfl⟩
  · rw [hq.2]; exact ⟨Nat.le_refl 1, Nat.zero_le _⟩
  · rintro x T' ⟨y, T2, ⟨rfl, rfl⟩, rfl, rfl⟩
    have hb : T.back [k] [] (mL (L.map rwE) []) = T := by
      have := ren_mO (nameOut T.objs.length [k]) (nameOut T.tails.length []) L
      simp only [VT.back, mL, List.map_cons, List.map_nil, this, giveBack, List.append_nil]
      have : T.objs.set k (mO (L.map rwE)) = T.objs := by
        apply List.ext_getElem?
        intro j
        rw [List.getElem?_set]
        split
        · rename_i h; subst h
          rw [if_pos (List.getElem?_eq_some_iff.1 ho).1, ho]
        · rfl
      rw [this]
    rw [hb, hx]
    exact hk
theorem fiW_ok (L : List Rw) (hl : L.length ≤ 1000) (i : Int) : ∀ ro ys T K, fiW (L.map rwE) i (fiZ L i) ro ys T K → VCx Try.prog noGl ro rFiF ys T K := by
  rintro ro ys T K ⟨⟨rfl, rfl, ho⟩, hk⟩
  exact look_m (k := 0) rfl (fun _ _ => rfl) (fi_vcx L hl i) ho hk
/-! ### Add -/
theorem ra_loop (L : List Rw) (hl : L.length ≤ 1000) (i a c : Int) : LsOk Try.prog noGl (raL (L.map rwE) i a c (kA L i) (codeAt Try.prog rAdF 1)) := specsL_ok fun p hp => by
  obtain rfl := List.mem_singleton.1 hp
  refine loopL_ok fun K hK => ?_
  let sl : Nat → List TV := fun j => raV j
  let Post : Exit → List TV → VT → Prop := fun e vs T => e = .normal ∧ vs = sl (kA L i) ∧ T = mL (L.map rwE) [.cells (siC i a c)]
  refine loopK (f := rAdF) (id := 1) (by kernel_rfl) 88 raK (fun j => L.length - j) sl (fun _ => mL (L.map rwE) [.cells (siC i a c)]) (fun j => j ≤ L.length ∧ ∀ k r', k < j → L[k]? = some r' → r'.1.1 < i) 2 0 (fun _ _ => ⟨Nat.le_refl _, Nat.le_refl _⟩)
    Post (fun j hj => ?_) 0 ⟨Nat.zero_le _, fun k _ hk => absurd hk (Nat.not_lt_zero k)⟩ K (fun e vs T hq => ?_)
  · obtain ⟨hj, hne⟩ := hj
    by_cases hlt : j < L.length
    · have hs : L[j]? = some L[j] := List.getElem?_eq_getElem hlt
      generalize L[j] = r at hs
      have hw := wrapN j (by omega)
      refine vx_is mixedB_Try bodiesB_Try specsOk_none lsOk_none (ev_raA (L.map rwE) i a c r.1.1 r.1.2.1 r.1.2.2 r.2.1 r.2.2 j _) ?_
      refine condT (decide_eq_true (by rw [List.length_map]; omega)) ⟨opure_row rfl rfl (Int.natCast_nonneg _) (by simp only [Int.toNat_natCast]; rw [List.getElem?_map, hs]; rfl), ?_⟩
      by_cases he : r.1.1 < i
      · refine condT (decide_eq_true he) ⟨rfl, rfl, j + 1, ⟨hlt, fun k r' hk hr => ?_⟩, by simp only; omega, .inl ⟨rfl, ?_⟩⟩
        · rcases Nat.lt_or_ge k j with h | h
          · exact hne k r' h hr
          · obtain rfl : k = j := by omega
            rw [hs] at hr; injection hr with hr; subst hr; exact he
        · simp only [sl, raV, hw]
      · exact condF (decide_eq_false he) ⟨rfl, rfl, rfl, by simp only [sl]; rw [kA_step hs hne he]; rfl, rfl⟩
    · obtain rfl : j = L.length := by omega
      refine vx_is mixedB_Try bodiesB_Try specsOk_none lsOk_none (ev_raA (L.map rwE) i a c 0 0 0 0 0 L.length _) ?_
      exact condF (decide_eq_false (by rw [List.length_map]; omega)) ⟨rfl, rfl, rfl, by simp only [sl]; rw [kA_all hne]; rfl, rfl⟩
  · obtain ⟨rfl, rfl, rfl⟩ := hq
    exact hK
theorem keep_mV (L : List Rw) (tok : Tok) (l : List VO) (tl : List (Nat × Nat × Bool)) : ∃ tok', VT.keep ⟨.cells [.vec 5 (L.map rwE) tok] :: l, tl⟩ 1 0 = ⟨[.cells [.vec 5 (L.map rwE) tok']], []⟩ := by
  refine ⟨tok.ren (Go.Proofs.Ytgconkbnokbinaa.keep 1) (Go.Proofs.Ytgconkbnokbinaa.keep 0), ?_⟩
  simp only [VT.keep, List.take_succ_cons, List.take_zero, List.map_cons, List.map_nil, VO.ren, renL, TV.ren, renLL_rw]
theorem rad_vcx {S : List SiT} {R : RpM} (g : Good S R) (t : SiT) : VCx Try.prog noGl 0 rAdF [.ptr 0 0, .agg (siC t.1 t.2.1 t.2.2)] ⟨[.cells [.vec 5 ((refL S R).map rwE) .none]], []⟩ fun x T' => ∃ z mz, x = .val (.int .i64 z) ∧ T' = ⟨[.cells [mz]], []⟩ ∧ z = adA S t ∧ mz = .vec 5 ((refL (adS S t) R).map rwE) .none := by
  obtain ⟨i, a, c⟩ := t
  have hlen := refL_len (S := S) R
  have hfew := g.few
  have hhas := fiR_has g.nd (R := R) (i := i)
  generalize hL : refL S R = L at *
  refine VCx.keepQ 1 0 (Nat.le_refl _) (Nat.le_refl _) (vcallF_is mixedB_Try bodiesB_Try (specs_ok fun p hp => by obtain rfl := List.mem_singleton.1 hp; exact fiW_ok L (by omega) i) (ra_loop L (by omega) i a c) (ev_ra (L.map rwE) i a c (fiZ L i) (kA L i) _) ?_)
  have same : ∀ (z : Int) (l : List VO), z = adA S (i, a, c) → z ≠ 0 → ∃ z' mz, TV.val (.int .i64 z) = .val (.int .i64 z') ∧ VT.keep ⟨.cells [.vec 5 (L.map rwE) .none] :: l, []⟩ 1 0 = ⟨[.cells [mz]], []⟩ ∧ z' = adA S (i, a, c) ∧ mz = .vec 5 ((refL (adS S (i, a, c)) R).map rwE) .none := fun z l hz h0 => by
    have hr : adS S (i, a, c) = S := by
      unfold adS
      have : (adA S (i, a, c) == 0) = false := by rw [← hz, beq_eq_false_iff_ne]; exact h0
      rw [this, cond_false]
    exact ⟨z, _, rfl, keep_mL L l, hz, by rw [hr, hL]⟩
  by_cases hc : 0 ≤ i ∧ i ≤ 255 ∧ a ≠ 0 ∧ 0 ≤ c ∧ c ≤ 1000000
  · have hc' := hc
    obtain ⟨c1, c2, c3, c4, c5⟩ := hc
    refine condF (decide_eq_false (by omega)) (condF (decide_eq_false (by omega)) (condF (by rw [eqI]; exact decide_eq_false c3) (condF (decide_eq_false (by omega)) (condF (decide_eq_false (by omega)) ⟨⟨rfl, rfl, rfl⟩, ?_⟩))))
    cases hf : fiR L i with
    | some k =>
      rw [hf] at hhas
      refine condT (decide_eq_true (by simp only [fiZ, hf]; omega)) (same 13 _ ?_ (by decide))
      simp only [adA, ← hhas, decide_eq_true hc', Bool.not_true, cond_false, Option.isSome_some, cond_true]
    | none =>
      rw [hf] at hhas
      refine condF (decide_eq_false (by simp only [fiZ, hf]; omega)) ?_
      have hb : hasS S i = false := hhas.symm
      by_cases h8 : 8 ≤ S.length
      · refine condT (decide_eq_true (by rw [List.length_map]; omega)) (same 6 _ ?_ (by decide))
        simp only [adA, hb, decide_eq_true hc', decide_eq_true h8, Bool.not_true, cond_false, cond_true]
      · have ha : adA S (i, a, c) = 0 := by simp only [adA, hb, decide_eq_true hc', decide_eq_false h8, Bool.not_true, cond_false]
        have hn : S.find? (fun s => s.1 == i) = none := by
          unfold hasS at hb
          cases hf : S.find? fun s => s.1 == i with
          | none => rfl
          | some s => rw [hf] at hb; cases hb
        have hr : adS S (i, a, c) = S ++ [(i, a, c)] := by simp [adS, ha]
        have hadd := refL_add g (t := (i, a, c)) hn
        rw [hL] at hadd
        have hkl : kA L i ≤ (L.map rwE).length := by rw [List.length_map]; exact kA_le L i
        have hm : (L.map rwE).take (kA L i) ++ [rwC i a c 0 0] ++ (L.map rwE).drop (kA L i) = (refL (S ++ [(i, a, c)]) R).map rwE := by
          rw [hadd]
          simp only [List.map_append, List.map_take, List.map_drop, List.map_cons, List.map_nil]
          rfl
        have b1 : ((L.map rwE).take (kA L i)).length ≤ 8 := by rw [List.length_take, List.length_map]; omega
        have b2 : ((L.map rwE).drop (kA L i)).length ≤ 8 := by rw [List.length_drop, List.length_map]; omega
        refine condF (decide_eq_false (by rw [List.length_map]; omega)) ⟨rfl, ⟨rfl, rfl, rfl, trivial, rfl, rfl, rfl⟩, opure_hi5 rfl rfl (Int.natCast_nonneg _) (Int.toNat_natCast _) hkl, opure_lo5 rfl rfl (Int.natCast_nonneg _) (Int.toNat_natCast _) hkl, ?_, ⟨rfl, rfl, rfl, trivial⟩, ?_, ⟨rfl, rfl, rfl, trivial⟩, ?_, ?_⟩
        · have o := oturn_row (T := mL (L.map rwE) [.cells (siC i a c)]) (T1 := { mL (L.map rwE) [.cells (siC i a c)] with tails := [(0, 5, false)] }) (s := .tmp 67) (x := .tmp 73) (l := [(67, .vec 5 [] .full), (73, .vec 5 ((L.map rwE).take (kA L i)) .none)]) (es := []) (es2 := (L.map rwE).take (kA L i)) (k := 0) (n := 0) (bn := false) rfl rfl (by simp only [List.length_nil]; omega)
          simp only [Nat.zero_add] at o
          exact o
        · exact oturn_row (T := { mL (L.map rwE) [.cells (siC i a c)] with tails := [(((L.map rwE).take (kA L i)).length, 5, false)] }) (T1 := { mL (L.map rwE) [.cells (siC i a c)] with tails := [(((L.map rwE).take (kA L i)).length, 5, false)] }) (es := (L.map rwE).take (kA L i)) (es2 := [rwC i a c 0 0]) (k := 0) (n := ((L.map rwE).take (kA L i)).length) (bn := false) (by simp [evOf, evFind, vadopt, mL]) rfl (by simp only [List.length_cons, List.length_nil]; omega)
        · exact oturn_row (T := { mL (L.map rwE) [.cells (siC i a c)] with tails := [(((L.map rwE).take (kA L i)).length + 1, 5, false)] }) (T1 := { mL (L.map rwE) [.cells (siC i a c)] with tails := [(((L.map rwE).take (kA L i)).length + 1, 5, false)] }) (es := (L.map rwE).take (kA L i) ++ [rwC i a c 0 0]) (es2 := (L.map rwE).drop (kA L i)) (k := 0) (n := ((L.map rwE).take (kA L i)).length + 1) (bn := false) (by simp [evOf, evFind, vadopt, mL]) rfl (by simp only [List.length_append, List.length_cons, List.length_nil]; omega)
        · rw [hm]
          refine ⟨0, .vec 5 ((refL (S ++ [(i, a, c)]) R).map rwE) .none, rfl, ?_, ha.symm, by rw [hr]⟩
          simp only [VT.keep, List.take_succ_cons, List.take_zero, List.map_cons, List.map_nil, VO.ren, renL, TV.ren, renLL_rw, Tok.ren, Go.Proofs.Ytgconkbnokbinaa.keep]
          rfl
  · have ha : adA S (i, a, c) = 2 := by simp only [adA, decide_eq_false hc, Bool.not_false, cond_true]
    by_cases c1 : i < 0
    · exact condT (decide_eq_true c1) (same 2 _ ha.symm (by decide))
    · refine condF (decide_eq_false c1) ?_
      by_cases c2 : i > 255
      · exact condT (decide_eq_true c2) (same 2 _ ha.symm (by decide))
      · refine condF (decide_eq_false c2) ?_
        by_cases c3 : a = 0
        · exact condT (by rw [eqI]; exact decide_eq_true c3) (same 2 _ ha.symm (by decide))
        · refine condF (by rw [eqI]; exact decide_eq_false c3) ?_
          by_cases c4 : c < 0
          · exact condT (decide_eq_true c4) (same 2 _ ha.symm (by decide))
          · refine condF (decide_eq_false c4) ?_
            by_cases c5 : c > 1000000
            · exact condT (decide_eq_true c5) (same 2 _ ha.symm (by decide))
            · exact absurd ⟨by omega, by omega, c3, by omega, by omega⟩ hc
/-! ### Remove -/
theorem rrm_vcx {S : List SiT} {R : RpM} (g : Good S R) (i : Int) : VCx Try.prog noGl 0 rRmF [.ptr 0 0, .val (.int .i64 i)] ⟨[.cells [.vec 5 ((refL S R).map rwE) .none]], []⟩ fun x T' => ∃ z mz, x = .val (.bool z) ∧ T' = ⟨[.cells [mz]], []⟩ ∧ z = hasS S i ∧ mz = .vec 5 ((refL (delS i S) (delR i R)).map rwE) .none := by
  have hlen := refL_len (S := S) R
  have hfew := g.few
  have hhas := fiR_has g.nd (R := R) (i := i)
  cases hf : fiR (refL S R) i with
  | none =>
    have hno := fiR_none hf
    rw [hf] at hhas
    have hsame : refL (delS i S) (delR i R) = refL S R := by
      have hd2 : ((delS i S).map (·.1)).Nodup := g.nd.sublist ((delS_sub i S).map _)
      refine sortedR_ext (refL_sorted hd2 _) (refL_sorted g.nd R) fun x => ?_
      rw [mem_refL hd2, mem_refL g.nd, mem_delS g.nd]
      constructor
      · rintro ⟨⟨a1, a2⟩, a3⟩; exact ⟨a1, by rw [rptR_del a2] at a3; exact a3⟩
      · rintro ⟨a1, a3⟩
        have a2 := hno x ((mem_refL g.nd).2 ⟨a1, a3⟩)
        exact ⟨⟨a1, a2⟩, by rw [rptR_del a2]; exact a3⟩
    rw [hsame]
    generalize refL S R = L at *
    refine VCx.keepQ 1 0 (Nat.le_refl _) (Nat.le_refl _) (vcallF_is mixedB_Try bodiesB_Try (specs_ok fun p hp => by obtain rfl := List.mem_singleton.1 hp; exact fiW_ok L (by omega) i) lsOk_none (ev_rr (L.map rwE) i (fiZ L i) 0 _) ?_)
    exact ⟨⟨rfl, rfl, rfl⟩, condT (decide_eq_true (by simp only [fiZ, hf]; omega)) ⟨false, _, rfl, keep_mL L _, hhas, rfl⟩⟩
  | some k =>
    rw [hf] at hhas
    rw [refL_del g hf]
    obtain ⟨r, hr, _, _⟩ := fiR_some hf
    generalize refL S R = L at *
    have hk := (List.getElem?_eq_some_iff.1 hr).1
    have hfz : fiZ L i = k := by simp only [fiZ, hf]
    have hw := wrapN k (by omega)
    refine VCx.keepQ 1 0 (Nat.le_refl _) (Nat.le_refl _) (vcallF_is mixedB_Try bodiesB_Try (specs_ok fun p hp => by obtain rfl := List.mem_singleton.1 hp; exact fiW_ok L (by omega) i) lsOk_none (ev_rr (L.map rwE) i (fiZ L i) k _) ?_)
    have b1 : ((L.map rwE).take k).length ≤ 8 := by rw [List.length_take, List.length_map]; omega
    have b2 : ((L.map rwE).drop (k + 1)).length ≤ 8 := by rw [List.length_drop, List.length_map]; omega
    refine ⟨⟨rfl, rfl, rfl⟩, condF (decide_eq_false (by rw [hfz]; omega)) ⟨opure_hi5 rfl rfl (by rw [hfz]; omega) (by rw [hfz]; exact Int.toNat_natCast _) (by rw [List.length_map]; omega), opure_lo5 rfl rfl (by rw [hfz, hw]; omega) (by rw [hfz, hw]; exact Int.toNat_natCast _) (by rw [List.length_map]; omega), ?_, ⟨rfl, rfl, trivial⟩, ?_, ?_⟩⟩
    · have o := oturn_row (T := mL (L.map rwE) []) (T1 := { mL (L.map rwE) [] with tails := [(0, 5, false)] }) (s := .tmp 12) (x := .tmp 18) (l := [(12, .vec 5 [] .full), (18, .vec 5 ((L.map rwE).take k) .none)]) (es := []) (es2 := (L.map rwE).take k) (k := 0) (n := 0) (bn := false) rfl rfl (by simp only [List.length_nil]; omega)
      simp only [Nat.zero_add] at o
      exact o
    · exact oturn_row (T := { mL (L.map rwE) [] with tails := [(((L.map rwE).take k).length, 5, false)] }) (T1 := { mL (L.map rwE) [] with tails := [(((L.map rwE).take k).length, 5, false)] }) (es := (L.map rwE).take k) (es2 := (L.map rwE).drop (k + 1)) (k := 0) (n := ((L.map rwE).take k).length) (bn := false) (by simp [evOf, evFind, vadopt, mL]) rfl (by omega)
    · have hm : (L.map rwE).take k ++ (L.map rwE).drop (k + 1) = (L.take k ++ L.drop (k + 1)).map rwE := by simp only [List.map_append, List.map_take, List.map_drop]
      rw [hm]
      refine ⟨true, _, rfl, ?_, hhas, rfl⟩
      simp only [VT.keep, List.take_succ_cons, List.take_zero, List.map_cons, List.map_nil, VO.ren, renL, TV.ren, renLL_rw, Tok.ren, Go.Proofs.Ytgconkbnokbinaa.keep]
      rfl
end Go.Proofs.Ytgconkbnokbinaa
