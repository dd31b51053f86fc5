/- ScoreWeighs: the law returns true, whatever comes. -/
import Derived.Test.YtdabfiichejkpaaMwWghEv
namespace Go.Proofs.Ytdabfiichejkpaa
open Go.RowKit Go.Sort Go.Shelf

theorem pick_callW {f : Int × Int × Int × Int × Int} {l : List Bk} {o : Option Bk} (h : Picks (flowK f.1 f.2.1 f.2.2.1 f.2.2.2.1 f.2.2.2.2) l o) (hl : l.length ≤ 1000) : VCx Try.prog (fun _ => none) 0 9 [flV f, .vec 3 (l.map backE) .none] ⟨[], []⟩ fun x T' => x = .tup [bkT (o.getD (0, 0, 0)), .val (.bool o.isSome)] ∧ T' = ⟨[], []⟩ := by
  have hren : renL (nameIn []) (nameIn []) [flV f, .vec 3 (l.map backE) .none] = [flV f, .vec 3 (l.map backE) .none] := by simp only [flV, flowE, renL, TV.ren, ren_backE, Tok.ren]
  have hse := vseats f.1 f.2.1 f.2.2.1 f.2.2.2.1 f.2.2.2.2 l hl
  rcases h with ⟨rfl, e⟩ | ⟨h, r, b, rfl, e, hb⟩
  · exact VCx.ofCalls hren (vpick_none _ _ _ _ _ _ l hse e) fun _ _ => rfl
  · have h0 := (rank_bound _ l h (by rw [e]; simp)).1
    exact VCx.ofCalls hren (vpick_some _ _ _ _ _ _ l hse h.1.toNat h.2 r (by rw [e]; congr 1; rw [Int.toNat_of_nonneg h0]) b hb) fun _ _ => rfl
theorem swC_ok {R : Prop} {f : Int × Int × Int × Int × Int} {m m2 : List Bk} {b1 b3 : Bk} {o1 o3 : Bool}
    (h0 : R → VCx Try.prog (fun _ => none) 0 9 [flV f, .vec 3 (m.map backE) .none] ⟨[], []⟩ fun x T' => x = .tup [bkT b1, .val (.bool o1)] ∧ T' = ⟨[], []⟩)
    (h2 : R → VCx Try.prog (fun _ => none) 0 9 [flV f, .vec 3 (m2.map backE) .none] ⟨[], []⟩ fun x T' => x = .tup [bkT b3, .val (.bool o3)] ∧ T' = ⟨[], []⟩) :
    SpecsOk Try.prog (fun _ => none) (swC R f (m.map backE) (m2.map backE) b1 b3 o1 o3) := specs_ok fun p hp => by
  have hren : ∀ n : List Bk, renL (nameIn []) (nameIn []) [flV f, .vec 3 (n.map backE) .none] = [flV f, .vec 3 (n.map backE) .none] := fun n => by simp only [flV, flowE, renL, TV.ren, ren_backE, Tok.ren]
  simp only [List.mem_cons, List.not_mem_nil, or_false] at hp
  rcases hp with rfl | rfl
  · intro ro ys T K h
    simp only [swPick] at h
    cases hb : Nat.beq T.objs.length 3 with
    | true =>
      rw [hb] at h
      exact VCx.loosePure gvals_none (h0 h.1) h.2.1 (hren m) (fun _ _ => rfl) h.2.2
    | false =>
      rw [hb] at h
      exact VCx.loosePure gvals_none (h2 h.1) h.2.1 (hren m2) (fun _ _ => rfl) h.2.2
  · refine trueW_ok gvals_none ((VCx.ofCalls rfl vlives fun _ _ => rfl).mono fun x T' h => ?_)
    rw [h.1]; exact trivial
theorem sw_look {T : VT} {d : Bk} {look : Value → Option TV} {es : List (Value × TV × Nat)} {ck : Nat} {x y : VO} {r : List VO} (hT : T = ⟨x :: y :: .map ⟨false, [.int .i64]⟩ look es ck :: r, []⟩) {q : Bool} (hq : lookRes false (look (.int .i64 d.1)) (.bool false) = .val (.bool q)) :
    OTurn Try.prog (fun _ => none) 0 T (.lookup 30 (.tmp 40) (.tmp 42) false) [(40, .map 2), (42, .val (.int .i64 d.1))] (.val (.bool q)) T := by
  subst hT
  refine .mk ?_
  have h : vopA Try.prog 0 ⟨x :: y :: .map ⟨false, [.int .i64]⟩ look es ck :: r, []⟩ (.lookup 30 (.tmp 40) (.tmp 42) false) (evOf (fun _ => none) [(40, .map 2), (42, .val (.int .i64 d.1))]) = some (lookRes false (look (.int .i64 d.1)) (.bool false), ⟨x :: y :: .map ⟨false, [.int .i64]⟩ look es ck :: r, []⟩) := by kernel_rfl
  rw [h, hq]
def idsL (l : List Bk) : List Int := l.map (·.1)
theorem idsL_step (m : List Bk) (j : Nat) (d : Bk) (h : m[j]? = some d) : idsL (m.take (j + 1)) = idsL (m.take j) ++ [d.1] := by
  simp [idsL, List.take_add_one, h]
theorem swL_ok {R D : Prop} {f : Int × Int × Int × Int × Int} {m : List Bk} {l2 : List (List TV)} {a0 w0 : Int} {k : Nat} {c c2 b1 b3 : Bk} {o1 o3 : Bool} (hm : R → m.length ≤ 40) (hD : (idsL m).Nodup → D) (hC : SpecsOk Try.prog (fun _ => none) (swC R f (m.map backE) l2 b1 b3 o1 o3)) :
    LsOk Try.prog (fun _ => none) (swL R D f (m.map backE) l2 a0 w0 k c c2 b1 b3 o1 o3 (codeAt Try.prog swF 0) (regC Try.prog swF 17)) := specsL_ok fun p hp => by
  simp only [List.mem_cons, List.not_mem_nil, or_false] at hp
  rcases hp with rfl | rfl
  rotate_left
  · exact freezeL_ok mixedQ_Try bodiesQ_Try hC
  refine loopL_ok fun K hK => ?_
  obtain ⟨hR, hK1, hK2⟩ := hK
  have hm := hm hR
  let sl : Nat × (Value → Option TV) × List (Value × TV × Nat) × Nat → List TV := fun s => swV (m.map backE) a0 w0 s.1 false
  let tt : Nat × (Value → Option TV) × List (Value × TV × Nat) × Nat → VT := fun s => swT f a0 w0 s.2.1 s.2.2.1 s.2.2.2
  let Inv : Nat × (Value → Option TV) × List (Value × TV × Nat) × Nat → Prop := fun s => s.1 ≤ m.length ∧ (∀ z : Int, s.2.1 (.int .i64 z) = if z ∈ idsL (m.take s.1) then some (.val (.bool true)) else none) ∧ (idsL (m.take s.1)).Nodup
  let Post : Exit → List TV → VT → Prop := fun e vs T => (e = .normal ∧ vs = swV (m.map backE) a0 w0 (m.map backE).length false ∧ (∃ look es ck, T = swT f a0 w0 look es ck) ∧ D) ∨ (e = .ret ∧ ∃ (j : Int) (look : Value → Option TV) (es : List (Value × TV × Nat)) (ck : Nat) (x : VO), vs = swV (m.map backE) a0 w0 j true ∧ T = ⟨[flO f, .cells [.val (.int .u8 a0), .val (.int .u8 w0)], .map ⟨false, [.int .i64]⟩ look es ck, x], []⟩)
  refine loopK (f := swF) (id := 0) (by kernel_rfl) 142 swK (fun s => m.length - s.1) sl tt Inv 3 0 (fun _ _ => ⟨Nat.le_refl _, Nat.le_refl _⟩)
    Post (fun s hs => ?_) (0, _, _, _) ⟨Nat.zero_le _, fun z => by simp [idsL], by simp [idsL]⟩ K (fun e vs T h => ?_)
  · obtain ⟨j, look, es, ck⟩ := s
    obtain ⟨hj, hlook, hnd⟩ := hs
    simp only at hj hlook hnd
    obtain ⟨d, hd⟩ : ∃ d, j < m.length → m[j]? = some d := by
      by_cases h : j < m.length
      · exact ⟨_, fun _ => List.getElem?_eq_getElem h⟩
      · exact ⟨(0, 0, 0), fun h' => absurd h' h⟩
    have hq : lookRes false (look (.int .i64 d.1)) (.bool false) = .val (.bool (decide (d.1 ∈ idsL (m.take j)))) := by
      rw [hlook]
      by_cases h : d.1 ∈ idsL (m.take j)
      · rw [if_pos h, decide_eq_true h]; rfl
      · rw [if_neg h, decide_eq_false h]; rfl
    have hC : SpecsOk Try.prog (fun _ => none) (specs [(8, trueW)]) := specs_ok fun p hp => by
      obtain rfl := List.mem_singleton.1 hp
      refine trueW_ok gvals_none ((VCx.ofCalls rfl vlives fun _ _ => rfl).mono fun x T' h => ?_)
      rw [h.1]; exact trivial
    refine vx_is mixedQ_Try bodiesQ_Try hC lsOk_none (ev_sw0 f (m.map backE) a0 w0 j d (decide (d.1 ∈ idsL (m.take j))) look es ck _) ?_
    by_cases hlt : j < m.length
    · have hd := hd hlt
      have hw := wrapN j (by omega)
      refine condT (by simpa using hlt) ⟨opure_bk2 rfl rfl (Int.natCast_nonneg _) (by simpa using hd), sw_look rfl hq, cond_of (fun hqt => ?_) (fun hqf => ?_)⟩
      · exact ⟨rfl, rfl, .inr ⟨rfl, j, look, es, ck, _, rfl, rfl⟩⟩
      · have hnew : d.1 ∉ idsL (m.take j) := of_decide_eq_false hqf
        refine ⟨rfl, rfl, (j + 1, _, _, _), ⟨hlt, fun z => ?_, ?_⟩, by simp only; omega, .inr ⟨rfl, ?_⟩⟩
        · simp only
          rw [idsL_step m j d hd, hlook]
          by_cases hz : d.1 = z
          · subst hz
            simp [keyEq, cellEq, TV.ren]
          · have h1 : keyEq (Value.int .i64 d.1) (.int .i64 z) = false := by simp [keyEq, cellEq, hz]
            have h2 : (z ∈ idsL (m.take j) ++ [d.1]) ↔ z ∈ idsL (m.take j) := by
              rw [List.mem_append, List.mem_singleton]
              exact ⟨fun h => h.elim id fun h => absurd h.symm hz, .inl⟩
            rw [h1, cond_false]
            by_cases hz2 : z ∈ idsL (m.take j)
            · rw [if_pos hz2, if_pos (h2.2 hz2)]; try rfl
            · rw [if_neg hz2, if_neg (fun h => hz2 (h2.1 h))]; try rfl
        · rw [idsL_step m j d hd]
          exact List.nodup_append.2 ⟨hnd, by simp, by simpa using fun x hx (he : x = d.1) => hnew (he ▸ hx)⟩
        · simp only [sl, swV, renL, TV.ren, ren_backE, Tok.ren, hw]
          rfl
    · obtain rfl : j = m.length := by omega
      rw [List.take_length] at hnd
      refine condF (by simp) ⟨rfl, rfl, .inl ⟨rfl, by simp only [swV, List.length_map], ⟨look, es, ck, rfl⟩, hD hnd⟩⟩
  · rcases h with ⟨rfl, rfl, ⟨look, es, ck, rfl⟩, hd⟩ | ⟨rfl, j, look, es, ck, x, rfl, rfl⟩
    · exact hK1 hd look es ck
    · exact hK2 j look es ck x
theorem set_flat (w : Int) (c : Bk) : ∀ (m : List Bk) (k : Nat), m[k]? = some c → setCs (m.map backE).flatten (k * 3 + 2) [.val (.int .i64 w)] = ((m.set k (c.1, c.2.1, w)).map backE).flatten
  | [], k, h => by simp at h
  | b :: r, 0, h => by
    simp at h; subst h
    rfl
  | b :: r, k + 1, h => by
    have ih := set_flat w c r k (by simpa using h)
    have e : (k + 1) * 3 + 2 = (k * 3 + 2) + 3 := by omega
    rw [e, List.set_cons_succ, List.map_cons, List.map_cons, List.flatten_cons, List.flatten_cons, ← ih]
    have e2 : k * 3 + 2 + 3 + [TV.val (.int .i64 w)].length = (k * 3 + 2 + [TV.val (.int .i64 w)].length) + 3 := by omega
    simp only [setCs, backE, e2]
    rfl
theorem chunks_flat : ∀ l : List Bk, chunks 3 l.length (l.map backE).flatten = l.map backE
  | [] => rfl
  | b :: r => by
    have ih := chunks_flat r
    have h : chunks 3 (b :: r).length ((b :: r).map backE).flatten = backE b :: chunks 3 r.length (r.map backE).flatten := rfl
    rw [h, ih]; rfl
theorem swflat_len : ∀ l : List Bk, (l.map backE).flatten.length = l.length * 3
  | [] => rfl
  | b :: r => by
    have ih := swflat_len r
    have h : ((b :: r).map backE).flatten.length = (r.map backE).flatten.length + 3 := by simp [backE]; try omega
    rw [h, ih, List.length_cons]; omega
theorem sw_rows (n : Nat) (l : List Bk) (h : n = l.length) (cs : List TV) (hc : cs = (l.map backE).flatten) : (bif Nat.beq 3 3 && Nat.ble ((0 + n) * 3) cs.length then some (chunks 3 n (List.take (n * 3) (List.drop (0 * 3) cs))) else none) = some (l.map backE) := by
  subst h hc
  have h1 := swflat_len l
  rw [h1, Nat.zero_add, Nat.ble_eq_true_of_le (Nat.le_refl _), Nat.zero_mul, List.drop_zero, List.take_of_length_le (by omega), chunks_flat]
  rfl
theorem sw_app (objs : List VO) (h4 : objs.length = 4) (m : List Bk) (hm : 0 < m.length) (h : m.length ≤ 40) : OTurn Try.prog (fun _ => none) 0 ⟨objs, []⟩ (.call ⟨.builtin .append, #[.tmp 61, .tmp 62], #[25, 25]⟩) [(61, .vec 3 [] .full), (62, .vec 3 (m.map backE) .none)] (.row 3 4 0 (m.map backE).length) (VT.newRow ⟨objs, []⟩ (m.map backE).flatten) := by
  obtain ⟨inf, i1, i2, i3, i4⟩ := bkInf_ex
  match m, hm, h with
  | b :: r, _, h =>
    have a := oturn_appR (inf := inf) (P := Try.prog) (G := fun _ => none) (ro := 0) (T := ⟨objs, []⟩) (t := 25) (tx := 25) (s := .tmp 61) (x := .tmp 62) (l := [(61, .vec 3 [] .full), (62, .vec 3 ((b :: r).map backE) .none)]) (q0 := backE b) (qs := r.map backE) (tok := .none)
      Try.underlying25 i1 i4 (by rw [i2]; rfl) (by decide) (by kernel_rfl) (by rw [i2]; rfl) (by rw [i2]; rfl)
      (by have h2 := Nat.mul_le_mul (show (backE b :: r.map backE).length ≤ 40 by simpa using h) i3
          omega)
    rw [i2] at a
    simp only [h4] at a
    exact a
theorem opure_remW {t yt : TypeId} {x y : Operand} {l : List (Nat × TV)} {a b : Int} (hx : evOf (fun _ => none) l x = .val (.int .u64 a)) (hy : evOf (fun _ => none) l y = .val (.int .u64 b)) (hb : ¬ b = 0) : OPure Try.prog (fun _ => none) (.binOp .rem t x y yt) l (.val (.int .u64 (a.tmod b))) := by
  refine ⟨?_⟩
  have h1 : vEq Try.prog .rem t (.val (.int .u64 a)) (.val (.int .u64 b)) = none := by simp [vEq, isEq]
  have h2 : vNil Try.prog .rem t (.val (.int .u64 a)) (.val (.int .u64 b)) = none := by simp [vNil]
  simp only [vpure2, hx, hy, h1, h2]
  exact vbin_rem t x y .u64 a b hb
theorem opure_u64W (k : Nat) (hk : k < 1000) (x : Operand) (l : List (Nat × TV)) (hx : evOf (fun _ => none) l x = .val (.int .u64 (k : Int))) : OPure Try.prog (fun _ => none) (.convert 26 3 x) l (.val (.int .i64 (k : Int))) := by
  refine ⟨?_⟩
  have h : vpure2 Try.prog (.convert 26 3 (.const (.int .u64 (k : Int)))) (evOf (fun _ => none) []) = some (.val (.int .i64 (IntKind.i64.wrap (k : Int)))) := by kernel_rfl
  have h2 : IntKind.i64.wrap (k : Int) = k := by simp only [IntKind.wrap, IntKind.bits, IntKind.signed]; simp; omega
  rw [h2] at h
  rw [← h]
  simp only [vpure2, vpure, hx]
  rfl
theorem iW_eql (x y : Int) : eqRes .eql (keyEq (Value.int .i64 x) (Value.int .i64 y)) = decide (x = y) := by
  by_cases h : x = y <;> simp [eqRes, keyEq, cellEq, h]
theorem iW_neq (x y : Int) : eqRes .neq (keyEq (Value.int .i64 x) (Value.int .i64 y)) = decide (x ≠ y) := by
  by_cases h : x = y <;> simp [eqRes, keyEq, cellEq, h]
theorem sw_idx {x i : Operand} {n : Nat} {l : List (Nat × TV)} {k : Nat} (hx : evOf (fun _ => none) l x = .row 3 4 0 n) (hz : evOf (fun _ => none) l i = .val (.int .i64 (k : Int))) (h1 : k < n) : OPure Try.prog (fun _ => none) (.indexAddr 25 x i) l (.ptr 4 (k * 3)) := by
  obtain ⟨inf, i1, i2, i3, i4⟩ := bkInf_ex
  have a := opure_indexR (inf := inf) (P := Try.prog) (G := fun _ => none) (x := x) (i := i) (l := l) (id := 4) (off := 0) (n := n) (k := .i64) (z := (k : Int)) Try.underlying25 i1 (by rw [i2]; exact hx) hz (Int.natCast_nonneg _) (by omega)
  rw [i2] at a
  simpa using a
theorem u8wrap (a : Int) : 0 ≤ IntKind.u64.wrap a := by
  simp only [IntKind.wrap, IntKind.bits, IntKind.signed]; simp; omega
set_option maxRecDepth 100000 in
theorem law_weighs (f : Int × Int × Int × Int × Int) (m : List Bk) (a0 w0 : Int) : VCx Try.prog (fun _ => none) 0 swF [flV f, .vec 3 (m.map backE) .none, .agg [.val (.int .u8 a0), .val (.int .u8 w0)]] ⟨[], []⟩ isTrueV := by
  by_cases hm0 : m = []
  · subst hm0
    have hC : SpecsOk Try.prog (fun _ => none) (swC False f (([] : List Bk).map backE) (([] : List Bk).map backE) (0, 0, 0) (0, 0, 0) false false) := swC_ok (fun h => h.elim) fun h => h.elim
    refine vcallF_is mixedQ_Try bodiesQ_Try hC (swL_ok (m := []) (fun h => h.elim) (fun _ => trivial) hC) (ev_sw False True f (([] : List Bk).map backE) (([] : List Bk).map backE) a0 w0 0 (0, 0, 0) (0, 0, 0) (0, 0, 0) (0, 0, 0) false false) ?_
    exact condT rfl trivial
  · have hpos : 0 < m.length := List.length_pos_iff.2 hm0
    let k := (IntKind.u64.wrap a0 % (m.length : Int)).toNat
    have hklt : k < m.length := by
      have h1 := Int.emod_lt_of_pos (IntKind.u64.wrap a0) (show (0 : Int) < m.length by omega)
      have h2 := Int.emod_nonneg (IntKind.u64.wrap a0) (show (m.length : Int) ≠ 0 by omega)
      show (IntKind.u64.wrap a0 % (m.length : Int)).toNat < m.length
      omega
    have hkz : (IntKind.u64.wrap a0).tmod (m.length : Int) = (k : Int) := by
      have h2 := Int.emod_nonneg (IntKind.u64.wrap a0) (show (m.length : Int) ≠ 0 by omega)
      rw [Int.tmod_eq_emod_of_nonneg (u8wrap a0)]
      show _ = ((IntKind.u64.wrap a0 % (m.length : Int)).toNat : Int)
      omega
    generalize k = k at *
    obtain ⟨c, hc⟩ : ∃ c, m[k]? = some c := ⟨_, List.getElem?_eq_getElem hklt⟩
    obtain ⟨o1, p1⟩ := picks_ex (flowK f.1 f.2.1 f.2.2.1 f.2.2.2.1 f.2.2.2.2) m
    obtain ⟨o3, p3⟩ := picks_ex (flowK f.1 f.2.1 f.2.2.1 f.2.2.2.1 f.2.2.2.2) (m.set k (c.1, c.2.1, swNw w0))
    have hC : SpecsOk Try.prog (fun _ => none) (swC (m.length ≤ 40) f (m.map backE) ((m.set k (c.1, c.2.1, swNw w0)).map backE) (o1.getD (0, 0, 0)) (o3.getD (0, 0, 0)) o1.isSome o3.isSome) :=
      swC_ok (fun h => pick_callW p1 (by omega)) fun h => pick_callW p3 (by rw [List.length_set]; omega)
    refine vcallF_is mixedQ_Try bodiesQ_Try hC (swL_ok (m := m) (fun h => h) (fun h => h) hC) (ev_sw (m.length ≤ 40) (idsL m).Nodup f (m.map backE) ((m.set k (c.1, c.2.1, swNw w0)).map backE) a0 w0 k c (c.1, c.2.1, swNw w0) (o1.getD (0, 0, 0)) (o3.getD (0, 0, 0)) o1.isSome o3.isSome) ?_
    refine condF (by rw [iW_eql]; simp; omega) (cond_of (fun _ => trivial) fun hle => ?_)
    have hR : m.length ≤ 40 := by simp at hle; omega
    have hwu : IntKind.u64.wrap (((m.map backE).length : Nat) : Int) = (m.length : Int) := by rw [List.length_map]; exact wrap_u64_id _ (by omega) (by omega)
    have hln : (m.map backE).length = m.length := List.length_map ..
    have hfl := swflat_len m
    have hc2 : (m.set k (c.1, c.2.1, swNw w0))[k]? = some (c.1, c.2.1, swNw w0) := by rw [List.getElem?_set]; simp [hklt]
    have hcell : (m.map backE).flatten[k * 3 + 2]? = some (.val (.int .i64 c.2.2)) := by
      have := set_flat c.2.2 c m k hc
      have e : m.set k (c.1, c.2.1, c.2.2) = m := by
        apply List.ext_getElem?
        intro i
        rw [List.getElem?_set]
        split
        · rename_i h; subst h; exact hc.symm
        · rfl
      rw [e] at this
      rw [← this]
      simp only [setCs]
      rw [List.append_assoc, List.getElem?_append_right (by rw [List.length_take]; omega), List.length_take, Nat.min_eq_left (by omega), Nat.sub_self]
      rfl
    refine ⟨rfl, ⟨rfl, rfl, rfl, trivial, rfl, rfl, rfl⟩, hR, fun hD look es ck => ?_, fun _ _ _ _ _ => trivial⟩
    have o59 := opure_remW (t := 26) (yt := 26) (x := .tmp 55) (y := .tmp 58) (l := [(55, .val (.int .u64 (IntKind.u64.wrap a0))), (58, .val (.int .u64 (IntKind.u64.wrap (((m.map backE).length : Nat) : Int))))]) rfl rfl (by rw [hwu]; omega)
    have e59 : (IntKind.u64.wrap a0).tmod (IntKind.u64.wrap (((m.map backE).length : Nat) : Int)) = (k : Int) := by rw [hwu]; exact hkz
    rw [e59] at o59
    refine ⟨hR, rfl, o59, opure_u64W k (by omega) _ _ rfl, sw_app _ rfl m hpos hR, sw_idx rfl rfl (by omega), OPure.mk (by kernel_rfl),
      oturn_loadR (d := .int .i64) (inf := (Try.prog.info? 3).getD default) Try.underlying3 rfl (by kernel_rfl) rfl rfl hcell,
      sw_idx rfl rfl (by omega), OPure.mk (by kernel_rfl),
      oturn_storeR (cs := (m.map backE).flatten) (new := [.val (.int .i64 (swNw w0))]) (off := k * 3 + 2) (id := 4) (inf := (Try.prog.info? 3).getD default) (by kernel_rfl) rfl rfl rfl (by kernel_rfl) (by rw [hfl]; show k * 3 + 2 + 1 ≤ _; omega) rfl (Nat.zero_le _),
      rfl, ⟨rfl, ?_, rfl⟩, hR, rfl, ?_⟩
    · exact sw_rows _ _ (by rw [List.length_map, List.length_set]) _ (set_flat (swNw w0) c m k hc)
    cases o1 with
    | none => exact condT rfl trivial
    | some b1 =>
      refine condF rfl ?_
      cases o3 with
      | none => exact condT rfl trivial
      | some b3 =>
        obtain ⟨w1, w2⟩ := weigh_law hD hc p1 p3
        refine condF rfl (cond_of (fun _ => trivial) fun _ => ⟨opure_bk2 rfl rfl (Int.natCast_nonneg _) (by simpa using hc2), ?_⟩)
        refine cond_of (fun hge => ⟨opure_bk2 rfl rfl (Int.natCast_nonneg _) (by simpa using hc), cond_of (fun heq => condF ?_ ?_) fun _ => ?_⟩) fun _ => ?_
        · rw [iW_eql] at heq
          rw [iW_neq]
          have := w1 (of_decide_eq_true hge) (of_decide_eq_true heq)
          simpa using this
        all_goals
          refine ⟨opure_bk2 rfl rfl (Int.natCast_nonneg _) (by simpa using hc2), cond_of (fun hle2 => ⟨opure_bk2 rfl rfl (Int.natCast_nonneg _) (by simpa using hc), cond_of (fun hne => condF ?_ trivial) fun _ => trivial⟩) fun _ => trivial⟩
          rw [iW_neq] at hne ⊢
          have := w2 (of_decide_eq_true hle2) (of_decide_eq_true hne)
          simpa using this
end Go.Proofs.Ytdabfiichejkpaa
