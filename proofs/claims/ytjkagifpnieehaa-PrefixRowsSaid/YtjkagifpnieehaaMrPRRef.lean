/- Rows of prefixes: the reference's sort; whether two rows are alike. -/
import Derived.Test.YtjkagifpnieehaaMrPREv
import Derived.Test.YtjkagifpnieehaaMrPRLaw
import Derived.Test.YtjkagifpnieehaaPfx4
import Derived.Test.YtjkagifpnieehaaMr4
namespace Go.Proofs.Ytjkagifpnieehaa
open Go.RowKit

theorem mixedR_Try : Try.prog.follows .mixedOrders = true := by kernel_rfl
theorem bodiesR_Try : bodiesOk Try.prog = true := by kernel_rfl
theorem gvals_noGl : GVals noGl := fun _ _ h => by cases h
theorem pxInf_ex : ∃ inf : TypeInfo, Try.prog.info? 32 = some inf ∧ inf.size = 2 ∧ inf.bytes + 1 ≤ 1000 ∧ inf.zero = some pxZero :=
  ⟨(Try.prog.info? 32).getD default, by kernel_rfl, by kernel_rfl, Nat.le_of_ble_eq_true (by kernel_rfl), by kernel_rfl⟩
theorem opure_px {x i : Operand} {l : List (Nat × TV)} {L : List Px} {tok : Tok} {k : IntKind} {z : Int} {p : Px} (hx : evOf (fun _ => none) l x = .vec 2 (L.map pxE) tok) (hz : evOf (fun _ => none) l i = .val (.int k z)) (h0 : 0 ≤ z) (he : L[z.toNat]? = some p) :
    OPure Try.prog (fun _ => none) (.indexAddr 22 x i) l (.elt (pxE p)) :=
  opure_index (inf := (Try.prog.info? 32).getD default) Try.underlying22 (by kernel_rfl) hx hz h0 (by rw [List.getElem?_map, he]; rfl)
theorem oturn_px {T T1 : VT} {s x : Operand} {l : List (Nat × TV)} {es es2 : List (List TV)} {k n : Nat} {bn : Bool} (hs : vadopt T 2 (evOf (fun _ => none) l s) = some (es, k, n, bn, T1)) (hx : srcOf 2 (evOf (fun _ => none) l x) = some es2) (hb : es.length + es2.length ≤ 3000) :
    OTurn Try.prog (fun _ => none) 0 T (.call ⟨.builtin .append, #[s, x], #[22, 22]⟩) l (.vec 2 (es ++ es2) (.tail k (n + es2.length))) { T1 with tails := T1.tails.set k (n + es2.length, 2, bn) } := by
  obtain ⟨inf, i_at, i_size, i_bytes, i_zero⟩ := pxInf_ex
  have h := oturn_app (inf := inf) (P := Try.prog) (G := fun _ => none) (ro := 0) (T := T) (T1 := T1) (t := 22) (tx := 22) (s := s) (x := x) (l := l) (es := es) (es2 := es2) (k := k) (n := n) (bn := bn) Try.underlying22 i_at i_zero (by rw [i_size]; rfl) (by rw [i_size]; decide) (by kernel_rfl) (by rw [i_size]; exact hs) (by rw [i_size]; exact hx)
    (by have h1 := i_bytes
        have h2 := Nat.mul_le_mul hb h1
        omega)
  rw [i_size] at h
  exact h
theorem opure_hi2 {x i : Operand} {l : List (Nat × TV)} {es : List (List TV)} {tok : Tok} {k : IntKind} {n : Nat} (hx : evOf (fun _ => none) l x = .vec 2 es tok) (hz : evOf (fun _ => none) l i = .val (.int k (n : Int))) (he : n ≤ es.length) : OPure Try.prog (fun _ => none) (.slice 22 x none (some i) none) l (.vec 2 (es.take n) .none) := by
  obtain ⟨inf, i_at, i_size, _, _⟩ := pxInf_ex
  have h := opure_hi (inf := inf) (P := Try.prog) (G := fun _ => none) (x := x) (i := i) (l := l) (es := es) (tok := tok) Try.underlying22 i_at (by rw [i_size]; exact hx) hz (Int.natCast_nonneg n) (by simpa using he)
  rw [i_size] at h
  simpa using h
theorem opure_lo2 {x i : Operand} {l : List (Nat × TV)} {es : List (List TV)} {tok : Tok} {k : IntKind} {n : Nat} (hx : evOf (fun _ => none) l x = .vec 2 es tok) (hz : evOf (fun _ => none) l i = .val (.int k (n : Int))) (he : n ≤ es.length) : OPure Try.prog (fun _ => none) (.slice 22 x (some i) none none) l (.vec 2 (es.drop n) tok) := by
  obtain ⟨inf, i_at, i_size, _, _⟩ := pxInf_ex
  have h := opure_lo (inf := inf) (P := Try.prog) (G := fun _ => none) (x := x) (i := i) (l := l) (es := es) (tok := tok) Try.underlying22 i_at (by rw [i_size]; exact hx) hz (Int.natCast_nonneg n) (by simpa using he)
  rw [i_size] at h
  simpa using h
theorem px_app1 (objs : List VO) (tk : List (List TV)) (h : tk.length ≤ 1000) : OTurn Try.prog (fun _ => none) 0 ⟨objs, [(0, 2, true)]⟩ (.call ⟨.builtin .append, #[.tmp 40, .tmp 43], #[22, 22]⟩) [(40, .vec 2 [] .full), (43, .vec 2 tk .none)] (.vec 2 tk (.tail 1 tk.length)) ⟨objs, [(0, 2, true), (tk.length, 2, false)]⟩ := by
  have a2 := oturn_px (T := ⟨objs, [(0, 2, true)]⟩) (T1 := ⟨objs, [(0, 2, true), (0, 2, false)]⟩) (s := .tmp 40) (x := .tmp 43) (l := [(40, .vec 2 [] .full), (43, .vec 2 tk .none)]) (es := []) (es2 := tk) (k := 1) (n := 0) (bn := false)
    (by simp [evOf, evFind, vadopt]) (by rfl) (by simp only [List.length_nil]; omega)
  simp only [List.nil_append, Nat.zero_add] at a2
  exact a2
theorem px_app2 (objs : List VO) (l : List (List TV)) (b : List TV) (h : l.length ≤ 1000) : OTurn Try.prog (fun _ => none) 0 ⟨objs, [(0, 2, true), (l.length, 2, false)]⟩ (.call ⟨.builtin .append, #[.tmp 44, .tmp 46], #[22, 22]⟩) [(44, .vec 2 l (.tail 1 l.length)), (46, .vec 2 [b] .full)] (.vec 2 (l ++ [b]) (.tail 1 (l.length + 1))) ⟨objs, [(0, 2, true), (l.length + 1, 2, false)]⟩ :=
  oturn_px (T := ⟨objs, [(0, 2, true), (l.length, 2, false)]⟩) (T1 := ⟨objs, [(0, 2, true), (l.length, 2, false)]⟩) (es := l) (es2 := [b]) (k := 1) (n := l.length) (bn := false) (by simp [evOf, evFind, vadopt]) (by rfl) (by simp only [List.length_cons, List.length_nil]; omega)
theorem px_app3 (objs : List VO) (l dr : List (List TV)) (n : Nat) (hn : n = l.length) (h : l.length ≤ 1000) (h2 : dr.length ≤ 1000) : OTurn Try.prog (fun _ => none) 0 ⟨objs, [(0, 2, true), (n, 2, false)]⟩ (.call ⟨.builtin .append, #[.tmp 47, .tmp 50], #[22, 22]⟩) [(47, .vec 2 l (.tail 1 n)), (50, .vec 2 dr .none)] (.vec 2 (l ++ dr) (.tail 1 (n + dr.length))) ⟨objs, [(0, 2, true), (n + dr.length, 2, false)]⟩ := by
  subst hn
  exact oturn_px (T := ⟨objs, [(0, 2, true), (l.length, 2, false)]⟩) (T1 := ⟨objs, [(0, 2, true), (l.length, 2, false)]⟩) (es := l) (es2 := dr) (k := 1) (n := l.length) (bn := false) (by simp [evOf, evFind, vadopt]) (by rfl) (by omega)
theorem same_vcx (l : List Px) (hl : l.length ≤ 1000) : VCx Try.prog noGl 0 smF [.vec 2 (l.map pxE) .none, .vec 2 (l.map pxE) .none] ⟨[], []⟩ fun x T' => x = .val (.bool true) ∧ T' = ⟨[], []⟩ := by
  have hL : LsOk Try.prog noGl (smL (l.map pxE) (codeAt Try.prog smF 0)) := specsL_ok fun p hp => by
    obtain rfl := List.mem_singleton.1 hp
    refine loopL_ok fun K hK => ?_
    let sl : Nat → List TV := fun j => smV (l.map pxE) j
    let Post : Exit → List TV → VT → Prop := fun e vs T => e = .normal ∧ vs = sl l.length ∧ T = ⟨[], []⟩
    refine loopK (f := smF) (id := 0) (by kernel_rfl) 26 [0, 1, 12, 13, 4] (fun j => l.length - j) sl (fun _ => ⟨[], []⟩) (fun j => j ≤ l.length) 0 0 (fun _ _ => ⟨Nat.le_refl _, Nat.le_refl _⟩)
      Post (fun j hj => ?_) 0 (Nat.zero_le _) K (fun e vs T ⟨h1, h2, h3⟩ => ?_)
    · by_cases hlt : j < l.length
      · have hb := List.getElem?_eq_getElem hlt
        generalize l[j] = p at hb
        refine vx_is mixedR_Try bodiesR_Try specsOk_none lsOk_none (ev_sm0 (l.map pxE) j p.1 p.2 _) ?_
        have hw := wrapN j (by omega)
        refine condT (by simpa using hlt) ⟨opure_px rfl rfl (Int.natCast_nonneg _) (by simpa using hb), opure_px rfl rfl (Int.natCast_nonneg _) (by simpa using hb), condF (by simp [eqRes, keyEq, eqAll, cellEq]) ⟨rfl, rfl, j + 1, hlt, by simp only; omega, .inr ⟨rfl, ?_⟩⟩⟩
        simp only [sl, smV, renL, TV.ren, ren_pxE, Tok.ren, hw]
      · obtain rfl : j = l.length := by omega
        refine vx_is mixedR_Try bodiesR_Try specsOk_none lsOk_none (ev_sm0 (l.map pxE) l.length 0 0 _) ?_
        exact condF (by simp) ⟨rfl, rfl, rfl, rfl, rfl⟩
    · subst h1 h2 h3
      simpa [sl] using hK
  refine VCx.keepQ 0 0 (Nat.le_refl _) (Nat.le_refl _) (vcallF_is mixedR_Try bodiesR_Try specsOk_none hL (ev_sm (l.map pxE) _) ?_)
  exact condF (by simp [eqRes, keyEq, cellEq]) ⟨rfl, ⟨rfl, rfl, rfl, trivial, rfl, rfl, rfl⟩, rfl, rfl⟩
theorem rcmpV (a n b m : Int) : VCalls Try.prog 17 [.agg (pxc a n), .agg (pxc b m)] ⟨[], []⟩ fun x T' => x = .val (.int .i64 (pcmpZ a n b m)) ∧ T' = ⟨[], []⟩ :=
  VCalls.of_grT (us := [.agg #[.int .u32 a, .int .i64 n], .agg #[.int .u32 b, .int .i64 m]]) rfl (fun w => rcmp a n b m w) _
theorem rsC_ok : SpecsOk Try.prog noGl rsC := specs_ok fun p hp => by
  obtain rfl := List.mem_singleton.1 hp
  refine fnW_ok gvals_noGl fun ys y hy => ?_
  unfold cmpD at hy
  split at hy
  · injection hy with hy; subst hy
    exact ⟨rfl, fun _ _ => rfl, VCx.ofCalls rfl (rcmpV _ _ _ _) fun _ _ => rfl⟩
  · cases hy
theorem pxE_pxc (x : Px) : pxE x = pxc x.1 x.2 := rfl
/-- the inner loop stops where p belongs -/
theorem rsLB_ok (O L : List Px) (p : Px) (j : Nat) (hO : O.length ≤ 1000) : LsOk Try.prog noGl (rsLB (O.map pxE) (L.map pxE) p.1 p.2 j (posP p O) (codeAt Try.prog rsF 2)) := specsL_ok fun q hq => by
  obtain rfl := List.mem_singleton.1 hq
  refine loopL_ok fun K hK => ?_
  let sl : Nat → List TV := fun i => rsVB (O.map pxE) (L.map pxE) j i
  let TT : VT := ⟨[.cells (pxc p.1 p.2)], [(0, 2, true)]⟩
  let Post : Exit → List TV → VT → Prop := fun e vs T => e = .normal ∧ vs = sl (posP p O) ∧ T = TT
  refine loopK (f := rsF) (id := 2) (by kernel_rfl) 54 rsKB (fun i => O.length - i) sl (fun _ => TT) (fun i => i ≤ O.length ∧ ∀ k x, k < i → O[k]? = some x → pxLt x p) 1 1 (fun _ _ => ⟨Nat.le_refl _, Nat.le_refl _⟩)
    Post (fun i hi => ?_) 0 ⟨Nat.zero_le _, fun k x h => absurd h (Nat.not_lt_zero k)⟩ K (fun e vs T ⟨h1, h2, h3⟩ => ?_)
  · obtain ⟨hi, hb⟩ := hi
    by_cases hlt : i < O.length
    · have hx := List.getElem?_eq_getElem hlt
      generalize O[i] = x at hx
      refine vx_is mixedR_Try bodiesR_Try rsC_ok lsOk_none (ev_rsB (O.map pxE) (L.map pxE) p.1 p.2 x.1 x.2 j i _) ?_
      have hw := wrapN i (by omega)
      refine condT (by simpa using hlt) ⟨opure_px rfl rfl (Int.natCast_nonneg _) (by simpa using hx), cond_of (fun hc => ?_) (fun hc => ?_)⟩
      · rw [pcmp_lt] at hc
        refine ⟨rfl, rfl, i + 1, ⟨hlt, fun k y hk hy => ?_⟩, by simp only; omega, .inl ⟨rfl, ?_⟩⟩
        · rcases Nat.lt_succ_iff_lt_or_eq.1 hk with h | rfl
          · exact hb k y h hy
          · rw [hx] at hy; injection hy with hy; subst hy
            exact of_decide_eq_true hc
        · simp only [sl, rsVB, hw]
      · rw [pcmp_lt] at hc
        have he : posP p O = i := posP_eq hi hb fun y hy => by
          rw [hx] at hy; injection hy with hy; subst hy
          exact of_decide_eq_false hc
        refine ⟨rfl, rfl, ?_⟩
        show Post .normal _ _
        exact ⟨rfl, by rw [he]; rfl, rfl⟩
    · obtain rfl : i = O.length := by omega
      have he : posP p O = O.length := posP_eq (Nat.le_refl _) hb fun y hy => by
        rw [List.getElem?_eq_none (Nat.le_refl _)] at hy; cases hy
      refine vx_is mixedR_Try bodiesR_Try rsC_ok lsOk_none (ev_rsB (O.map pxE) (L.map pxE) p.1 p.2 0 0 j O.length _) ?_
      refine condF (by simp) ⟨rfl, rfl, ?_⟩
      show Post .normal _ _
      exact ⟨rfl, by rw [he]; rfl, rfl⟩
  · subst h1 h2 h3
    exact hK
theorem refS_take {L : List Px} {j : Nat} {p : Px} (h : L[j]? = some p) : refS [] (L.take (j + 1)) = insP p (refS [] (L.take j)) := by
  have hlt := (List.getElem?_eq_some_iff.1 h).1
  rw [List.take_add_one, h, ← refS_snoc]; rfl
theorem insP_len (p : Px) (l : List Px) : (insP p l).length ≤ l.length + 1 := by
  unfold insP
  split
  · omega
  · simp
    have := posP_le p l
    omega
theorem refS_len : ∀ (l out : List Px), (refS out l).length ≤ out.length + l.length
  | [], out => Nat.le_refl _
  | p :: l, out => by
    have h1 := refS_len l (insP p out)
    have h2 := insP_len p out
    simp only [refS, List.length_cons]
    omega
theorem rs_vcx (L : List Px) (hl : L.length ≤ 200) : VCx Try.prog noGl 0 rsF [.vec 2 (L.map pxE) .none] ⟨[], []⟩ fun x T' => x = .vec 2 ((refS [] L).map pxE) .none ∧ T' = ⟨[], []⟩ := by
  have hL : LsOk Try.prog noGl (rsL ((refS [] L).map pxE) (L.map pxE) (codeAt Try.prog rsF 0)) := specsL_ok fun q hq => by
    obtain rfl := List.mem_singleton.1 hq
    refine loopM_ok fun K hK => ?_
    let sl : Nat → List TV := fun j => rsV ((refS [] (L.take j)).map pxE) (L.map pxE) j
    let TT : VT := ⟨[], [(0, 2, true)]⟩
    let Post : Exit → List TV → VT → Prop := fun e vs T => e = .normal ∧ vs = sl L.length ∧ T = TT
    refine loopK (f := rsF) (id := 0) (by kernel_rfl) 54 rsK (fun j => L.length - j) sl (fun _ => TT) (fun j => j ≤ L.length) 0 1 (fun _ _ => ⟨Nat.le_refl _, Nat.le_refl _⟩)
      Post (fun j hj => ?_) 0 (Nat.zero_le _) K (fun e vs T ⟨h1, h2, h3⟩ => ?_)
    · by_cases hlt : j < L.length
      · have hb := List.getElem?_eq_getElem hlt
        generalize L[j] = p at hb
        have hstep := refS_take hb
        have hlen := refS_len (L.take j) []
        simp only [List.length_nil, Nat.zero_add, List.length_take] at hlen
        show VWx _ _ _ _ _ (slotsN 54 rsK (rsV ((refS [] (L.take j)).map pxE) (L.map pxE) j)) _ _ _
        have hsl : sl (j + 1) = rsV ((insP p (refS [] (L.take j))).map pxE) (L.map pxE) ((j + 1 : Nat) : Int) := by simp only [sl, hstep]
        generalize refS [] (L.take j) = O at *
        have hpl := posP_le p O
        obtain ⟨x, hx⟩ : ∃ x, posP p O < O.length → O[posP p O]? = some x := by
          by_cases h : posP p O < O.length
          · exact ⟨_, fun _ => List.getElem?_eq_getElem h⟩
          · exact ⟨(0, 0), fun h' => absurd h' h⟩
        refine vx_is mixedR_Try bodiesR_Try rsC_ok (rsLB_ok O L p j (by omega)) (ev_rsA (O.map pxE) (L.map pxE) p.1 p.2 x.1 x.2 j (posP p O) _) ?_
        have hw := wrapN j (by omega)
        have fin : insP p O = O.take (posP p O) ++ [p] ++ O.drop (posP p O) → ∀ n, loopQ 54 0 (fun j => L.length - j) sl (fun _ => TT) (fun j => j ≤ L.length) 0 1 j Post .normal [.val (.slice none 0 0), .vec 2 (List.take (posP p O) (O.map pxE) ++ [pxc p.1 p.2] ++ List.drop (posP p O) (O.map pxE)) (.tail 1 n), .vec 2 (L.map pxE) .none, .val (.int .i64 (L.map pxE).length), .val (.int .i64 (IntKind.wrap .i64 ((j : Int) + 1)))] ⟨[.cells [.val (.int .u32 p.1), .val (.int .i64 p.2)]], [(0, 2, true), (n, 2, false)]⟩ [] 54 := fun hin n => by
          refine ⟨rfl, rfl, j + 1, hlt, by simp only; omega, .inr ⟨rfl, ?_⟩⟩
          rw [hsl, hin]
          have e : List.take (posP p O) (O.map pxE) ++ [pxc p.1 p.2] ++ List.drop (posP p O) (O.map pxE) = (O.take (posP p O) ++ [p] ++ O.drop (posP p O)).map pxE := by
            simp only [List.map_append, List.map_take, List.map_drop, List.map_cons, List.map_nil, pxE_pxc]
          rw [e]
          simp only [rsV, renL, TV.ren, ren_pxE, Tok.ren, hw]
          rfl
        have app : ∀ X : Prop, X → (OPure Try.prog (fun _ => none) (.slice 22 (.tmp 41) none (some (.tmp 42)) none) [(41, (.vec 2 (O.map pxE) .none)), (42, (.val (.int .i64 (posP p O : Int))))] (.vec 2 (List.take (posP p O) (O.map pxE)) .none)) ∧ X := fun X hX => ⟨opure_hi2 rfl rfl (by simpa using hpl), hX⟩
        refine condT (by simpa using hlt) ⟨opure_px rfl rfl (Int.natCast_nonneg _) (by simpa using hb), rfl, ⟨rfl, rfl, rfl, trivial, rfl, rfl, rfl⟩, cond_of (fun hc => ?_) (fun hc => ?_)⟩
        · have hc : posP p O < O.length := by simpa using hc
          have hx := hx hc
          refine ⟨opure_px rfl rfl (Int.natCast_nonneg _) (by simpa using hx), cond_of (fun he => ?_) (fun he => ?_)⟩
          · have he : x = p := by
              have : x.1 = p.1 ∧ x.2 = p.2 := by simpa [eqRes, keyEq, eqAll, cellEq] using he
              exact Prod.ext this.1 this.2
            subst he
            refine ⟨rfl, rfl, j + 1, hlt, by simp only; omega, .inr ⟨rfl, ?_⟩⟩
            rw [hsl, show insP x O = O by unfold insP; rw [if_pos hx]]
            simp only [rsV, renL, TV.ren, ren_pxE, Tok.ren, hw]
          · have he : x ≠ p := fun h => by subst h; simp [eqRes, keyEq, eqAll, cellEq] at he
            refine ⟨opure_hi2 rfl rfl (by simpa using hpl), opure_lo2 rfl rfl (by simpa using hpl), px_app1 _ _ (by simp; omega), ⟨rfl, trivial⟩, px_app2 _ _ _ (by simp; omega), px_app3 _ _ _ _ (by simp) (by simp; omega) (by simp; omega), fin ?_ _⟩
            unfold insP
            rw [if_neg (fun h => by rw [hx] at h; injection h with h; exact he h)]
        · have hc : ¬ posP p O < O.length := by simpa using hc
          refine ⟨opure_hi2 rfl rfl (by simpa using hpl), opure_lo2 rfl rfl (by simpa using hpl), px_app1 _ _ (by simp; omega), ⟨rfl, trivial⟩, px_app2 _ _ _ (by simp; omega), px_app3 _ _ _ _ (by simp) (by simp; omega) (by simp; omega), fin ?_ _⟩
          unfold insP
          rw [if_neg (fun h => by rw [List.getElem?_eq_none (by omega)] at h; cases h)]
      · obtain rfl : j = L.length := by omega
        refine vx_is mixedR_Try bodiesR_Try rsC_ok (rsLB_ok (refS [] (L.take L.length)) L (0, 0) L.length (by have := refS_len (L.take L.length) []; simp at this; simp; omega)) (ev_rsA ((refS [] (L.take L.length)).map pxE) (L.map pxE) 0 0 0 0 L.length (posP (0, 0) (refS [] (L.take L.length))) _) ?_
        exact condF (by simp) ⟨rfl, rfl, rfl, rfl, rfl⟩
    · subst h1 h2 h3
      simpa [sl] using hK
  refine VCx.keepQ 0 0 (Nat.le_refl _) (Nat.le_refl _) (vcallF_is mixedR_Try bodiesR_Try rsC_ok hL (ev_rs ((refS [] L).map pxE) (L.map pxE) _) ?_)
  exact ⟨rfl, ⟨rfl, rfl, rfl, ⟨rfl, trivial⟩, rfl, rfl, rfl⟩, by simp only [TV.ren, ren_pxE, Tok.ren], rfl⟩
end Go.Proofs.Ytjkagifpnieehaa
