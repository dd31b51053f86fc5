/- ScoreStays: the law returns true, whatever comes. -/
import Derived.Test.YtdabfiichejkpaaMtStayEv
namespace Go.Proofs.Ytdabfiichejkpaa
open Go.RowKit Go.Sort Go.Shelf

def bkV3 (b : Bk) : Value := .agg #[.int .i64 b.1, .int .u32 b.2.1, .int .i64 b.2.2]
theorem bk_key (x y : Bk) : keyEq (bkV3 x) (bkV3 y) = decide (x = y) := by
  obtain ⟨x1, x2, x3⟩ := x
  obtain ⟨y1, y2, y3⟩ := y
  by_cases h1 : x1 = y1 <;> by_cases h2 : x2 = y2 <;> by_cases h3 : x3 = y3 <;> simp [bkV3, keyEq, eqAll, cellEq, h1, h2, h3]
theorem bk_neq (x y : Bk) : eqRes .neq (keyEq (bkV3 x) (bkV3 y)) = decide (x ≠ y) := by
  rw [bk_key]; by_cases h : x = y <;> simp [eqRes, h]
theorem bk_eql (x y : Bk) : eqRes .eql (keyEq (bkV3 x) (bkV3 y)) = decide (x = y) := by
  rw [bk_key]; by_cases h : x = y <;> simp [eqRes, h]
theorem b_eql (x y : Bool) : eqRes .eql (keyEq (Value.bool x) (Value.bool y)) = decide (x = y) := by cases x <;> cases y <;> rfl
theorem pick_call {f : Int × Int × Int × Int × Int} {l : List Bk} {o : Option Bk} (h : Picks (flowK f.1 f.2.1 f.2.2.1 f.2.2.2.1 f.2.2.2.2) l o) (hl : l.length ≤ 1000) : VCx Try.prog (fun _ => none) 0 9 [flV f, .vec 3 (l.map backE) .none] ⟨[], []⟩ fun x T' => x = .tup [bkS (o.getD (0, 0, 0)), .val (.bool o.isSome)] ∧ T' = ⟨[], []⟩ := by
  have hren : renL (nameIn []) (nameIn []) [flV f, .vec 3 (l.map backE) .none] = [flV f, .vec 3 (l.map backE) .none] := by simp only [flV, flowE, renL, TV.ren, ren_backE, Tok.ren]
  have hse := vseats f.1 f.2.1 f.2.2.1 f.2.2.2.1 f.2.2.2.2 l hl
  rcases h with ⟨rfl, e⟩ | ⟨h, r, b, rfl, e, hb⟩
  · exact VCx.ofCalls hren (vpick_none _ _ _ _ _ _ l hse e) fun _ _ => rfl
  · have h0 := (rank_bound _ l h (by rw [e]; simp)).1
    exact VCx.ofCalls hren (vpick_some _ _ _ _ _ _ l hse h.1.toNat h.2 r (by rw [e]; congr 1; rw [Int.toNat_of_nonneg h0]) b hb) fun _ _ => rfl
theorem ssC_ok {R : Prop} {f : Int × Int × Int × Int × Int} {m m1 m2 : List Bk} {b1 b2 b3 : Bk} {o1 o2 o3 : Bool} {l l1 l2 : List (List TV)} (hl : l = m.map backE) (hl1 : l1 = m1.map backE) (hl2 : l2 = m2.map backE)
    (h0 : R → VCx Try.prog (fun _ => none) 0 9 [flV f, .vec 3 (m.map backE) .none] ⟨[], []⟩ fun x T' => x = .tup [bkS b1, .val (.bool o1)] ∧ T' = ⟨[], []⟩)
    (h1 : R → VCx Try.prog (fun _ => none) 0 9 [flV f, .vec 3 (m1.map backE) .none] ⟨[], []⟩ fun x T' => x = .tup [bkS b2, .val (.bool o2)] ∧ T' = ⟨[], []⟩)
    (h2 : R → VCx Try.prog (fun _ => none) 0 9 [flV f, .vec 3 (m2.map backE) .none] ⟨[], []⟩ fun x T' => x = .tup [bkS b3, .val (.bool o3)] ∧ T' = ⟨[], []⟩) :
    SpecsOk Try.prog (fun _ => none) (ssC R f l l1 l2 b1 b2 b3 o1 o2 o3) := specs_ok fun p hp => by
  subst hl hl1 hl2
  have hren : ∀ n : List Bk, renL (nameIn []) (nameIn []) [flV f, .vec 3 (n.map backE) .none] = [flV f, .vec 3 (n.map backE) .none] := fun n => by simp only [flV, flowE, renL, TV.ren, ren_backE, Tok.ren]
  simp only [List.mem_cons, List.not_mem_nil, or_false] at hp
  rcases hp with rfl | rfl
  · intro ro ys T K h
    simp only [ssPick] at h
    split at h
    · exact VCx.loosePure gvals_none (h0 h.1) h.2.1 (hren m) (fun _ _ => rfl) h.2.2
    · exact VCx.loosePure gvals_none (h1 h.1) h.2.1 (hren m1) (fun _ _ => rfl) h.2.2
    · exact VCx.loosePure gvals_none (h2 h.1) h.2.1 (hren m2) (fun _ _ => rfl) h.2.2
  · refine trueW_ok gvals_none ((VCx.ofCalls rfl vlives fun _ _ => rfl).mono fun x T' h => ?_)
    rw [h.1]; exact trivial
theorem ss_look {T : VT} {d : Bk} {look : Value → Option TV} {es : List (Value × TV × Nat)} {ck : Nat} {x y : VO} {r : List VO} (hT : T = ⟨x :: y :: .map ⟨false, [.int .i64]⟩ look es ck :: r, []⟩) {q : Bool} (hq : lookRes false (look (.int .i64 d.1)) (.bool false) = .val (.bool q)) :
    OTurn Try.prog (fun _ => none) 0 T (.lookup 30 (.tmp 52) (.tmp 54) false) [(52, .map 2), (54, .val (.int .i64 d.1))] (.val (.bool q)) T := by
  subst hT
  refine .mk ?_
  have h : vopA Try.prog 0 ⟨x :: y :: .map ⟨false, [.int .i64]⟩ look es ck :: r, []⟩ (.lookup 30 (.tmp 52) (.tmp 54) false) (evOf (fun _ => none) [(52, .map 2), (54, .val (.int .i64 d.1))]) = some (lookRes false (look (.int .i64 d.1)) (.bool false), ⟨x :: y :: .map ⟨false, [.int .i64]⟩ look es ck :: r, []⟩) := by kernel_rfl
  rw [h, hq]
theorem ssL_ok {R : Prop} {f : Int × Int × Int × Int × Int} {m : List Bk} {a : Int} {b : Bk} (hm : R → m.length ≤ 40) : LsOk Try.prog (fun _ => none) (ssL R f (m.map backE) a b (codeAt Try.prog ssF 0)) := specsL_ok fun p hp => by
  obtain rfl := List.mem_singleton.1 hp
  refine loopL_ok fun K hK => ?_
  obtain ⟨hR, hK1, hK2⟩ := hK
  have hm := hm hR
  let sl : Nat × (Value → Option TV) × List (Value × TV × Nat) × Nat → List TV := fun s => ssV (m.map backE) a s.1 false
  let tt : Nat × (Value → Option TV) × List (Value × TV × Nat) × Nat → VT := fun s => ssT f b s.2.1 s.2.2.1 s.2.2.2
  let Inv : Nat × (Value → Option TV) × List (Value × TV × Nat) × Nat → Prop := fun s => s.1 ≤ m.length ∧ ∀ k, s.2.1 k = none ∨ ∃ c, s.2.1 k = some (.val (.bool c))
  let Post : Exit → List TV → VT → Prop := fun e vs T => (e = .normal ∧ vs = ssV (m.map backE) a (m.map backE).length false ∧ ∃ look es ck, T = ssT f b look es ck) ∨ (e = .ret ∧ ∃ (j : Int) (look : Value → Option TV) (es : List (Value × TV × Nat)) (ck : Nat) (x : VO), vs = ssV (m.map backE) a j true ∧ T = ⟨[flO f, .cells (bkC b), .map ⟨false, [.int .i64]⟩ look es ck, x], []⟩)
  refine loopK (f := ssF) (id := 0) (by kernel_rfl) 142 ssK (fun s => m.length - s.1) sl tt Inv 3 0 (fun _ _ => ⟨Nat.le_refl _, Nat.le_refl _⟩)
    Post (fun s hs => ?_) (0, _, _, _) ⟨Nat.zero_le _, fun k => ?_⟩ K (fun e vs T h => ?_)
  · obtain ⟨j, look, es, ck⟩ := s
    obtain ⟨hj, hlook⟩ := hs
    simp only at hj hlook
    obtain ⟨d, hd⟩ : ∃ d, j < m.length → m[j]? = some d := by
      by_cases h : j < m.length
      · exact ⟨_, fun _ => List.getElem?_eq_getElem h⟩
      · exact ⟨(0, 0, 0), fun h' => absurd h' h⟩
    obtain ⟨q, hq⟩ : ∃ q, lookRes false (look (.int .i64 d.1)) (.bool false) = .val (.bool q) := by
      rcases hlook (.int .i64 d.1) with h | ⟨c, h⟩
      · exact ⟨false, by rw [h]; rfl⟩
      · exact ⟨c, by rw [h]; rfl⟩
    have hC : SpecsOk Try.prog (fun _ => none) (specs [(8, trueW)]) := specs_ok fun p hp => by
      obtain rfl := List.mem_singleton.1 hp
      refine trueW_ok gvals_none ((VCx.ofCalls rfl vlives fun _ _ => rfl).mono fun x T' h => ?_)
      rw [h.1]; exact trivial
    refine vx_is mixedQ_Try bodiesQ_Try hC lsOk_none (ev_ss0 f (m.map backE) a j b d q look es ck _) ?_
    by_cases hlt : j < m.length
    · have hw := wrapN j (by omega)
      refine condT (by simpa using hlt) ⟨opure_bk2 rfl rfl (Int.natCast_nonneg _) (by simpa using hd hlt), ss_look rfl hq, cond_of (fun hqt => ?_) (fun hqf => ?_)⟩
      · exact ⟨rfl, rfl, .inr ⟨rfl, j, look, es, ck, _, rfl, rfl⟩⟩
      · refine ⟨rfl, rfl, (j + 1, _, _, _), ⟨hlt, fun k => ?_⟩, by simp only; omega, .inr ⟨rfl, ?_⟩⟩
        · simp only
          cases keyEq (.int .i64 d.1) k
          · rcases hlook k with h | ⟨c, h⟩
            · exact .inl (by rw [cond_false, h])
            · exact .inr ⟨c, by rw [cond_false, h]; rfl⟩
          · exact .inr ⟨true, rfl⟩
        · simp only [sl, ssV, renL, TV.ren, ren_backE, Tok.ren, hw]
          rfl
    · obtain rfl : j = m.length := by omega
      refine condF (by simp) ⟨rfl, rfl, .inl ⟨rfl, by simp only [ssV, List.length_map], look, es, ck, rfl⟩⟩
  · simp only
    cases keyEq (.int .i64 b.1) k
    · exact .inl rfl
    · exact .inr ⟨true, rfl⟩
  · rcases h with ⟨rfl, rfl, look, es, ck, rfl⟩ | ⟨rfl, j, look, es, ck, x, rfl, rfl⟩
    · exact hK1 look es ck
    · exact hK2 j look es ck x
theorem opure_rem {t yt : TypeId} {x y : Operand} {l : List (Nat × TV)} {a b : Int} (hx : evOf (fun _ => none) l x = .val (.int .u64 a)) (hy : evOf (fun _ => none) l y = .val (.int .u64 b)) (hb : ¬ b = 0) : OPure Try.prog (fun _ => none) (.binOp .rem t x y yt) l (.val (.int .u64 (a.tmod b))) := by
  refine ⟨?_⟩
  have h1 : vEq Try.prog .rem t (.val (.int .u64 a)) (.val (.int .u64 b)) = none := by simp [vEq, isEq]
  have h2 : vNil Try.prog .rem t (.val (.int .u64 a)) (.val (.int .u64 b)) = none := by simp [vNil]
  simp only [vpure2, hx, hy, h1, h2]
  exact vbin_rem t x y .u64 a b hb
theorem opure_u64_int (k : Nat) (hk : k < 1000) (x : Operand) (l : List (Nat × TV)) (hx : evOf (fun _ => none) l x = .val (.int .u64 (k : Int))) : OPure Try.prog (fun _ => none) (.convert 26 3 x) l (.val (.int .i64 (k : Int))) := by
  refine ⟨?_⟩
  have h : vpure2 Try.prog (.convert 26 3 (.const (.int .u64 (k : Int)))) (evOf (fun _ => none) []) = some (.val (.int .i64 (IntKind.i64.wrap (k : Int)))) := by kernel_rfl
  have h2 : IntKind.i64.wrap (k : Int) = k := by simp only [IntKind.wrap, IntKind.bits, IntKind.signed]; simp; omega
  rw [h2] at h
  rw [← h]
  simp only [vpure2, vpure, hx]
  rfl
theorem ss_append1 (objs : List VO) (tk : List (List TV)) (h : tk.length ≤ 1000) : OTurn Try.prog (fun _ => none) 0 ⟨objs, []⟩ (.call ⟨.builtin .append, #[.tmp 75, .tmp 78], #[25, 25]⟩) [(75, .vec 3 [] .full), (78, .vec 3 tk .none)] (.vec 3 tk (.tail 0 tk.length)) ⟨objs, [(tk.length, 3, false)]⟩ := by
  have a2 := oturn_bk (T := ⟨objs, []⟩) (T1 := ⟨objs, [(0, 3, false)]⟩) (s := .tmp 75) (x := .tmp 78) (l := [(75, .vec 3 [] .full), (78, .vec 3 tk .none)]) (es := []) (es2 := tk) (k := 0) (n := 0) (bn := false)
    (by simp [evOf, evFind, vadopt]) (by rfl) (by simp only [List.length_nil]; omega)
  simp only [List.nil_append, Nat.zero_add] at a2
  exact a2
theorem ss_append2 (objs : List VO) (tk dr : List (List TV)) (h : tk.length ≤ 1000) (h2 : dr.length ≤ 1000) : OTurn Try.prog (fun _ => none) 0 ⟨objs, [(tk.length, 3, false)]⟩ (.call ⟨.builtin .append, #[.tmp 79, .tmp 83], #[25, 25]⟩) [(79, .vec 3 tk (.tail 0 tk.length)), (83, .vec 3 dr .none)] (.vec 3 (tk ++ dr) (.tail 0 (tk.length + dr.length))) ⟨objs, [(tk.length + dr.length, 3, false)]⟩ :=
  oturn_bk (T := ⟨objs, [(tk.length, 3, false)]⟩) (T1 := ⟨objs, [(tk.length, 3, false)]⟩) (es := tk) (es2 := dr) (k := 0) (n := tk.length) (bn := false) (by simp [evOf, evFind, vadopt]) (by rfl) (by omega)
theorem ss_append3 (objs : List VO) (n : Nat) (l : List (List TV)) (h : l.length ≤ 1000) : OTurn Try.prog (fun _ => none) 0 ⟨objs, [(n, 3, false)]⟩ (.call ⟨.builtin .append, #[.tmp 108, .tmp 109], #[25, 25]⟩) [(108, .vec 3 [] .full), (109, .vec 3 l .none)] (.vec 3 l (.tail 1 l.length)) ⟨objs, [(n, 3, false), (l.length, 3, false)]⟩ := by
  have a2 := oturn_bk (T := ⟨objs, [(n, 3, false)]⟩) (T1 := ⟨objs, [(n, 3, false), (0, 3, false)]⟩) (s := .tmp 108) (x := .tmp 109) (l := [(108, .vec 3 [] .full), (109, .vec 3 l .none)]) (es := []) (es2 := l) (k := 1) (n := 0) (bn := false)
    (by simp [evOf, evFind, vadopt]) (by rfl) (by simp only [List.length_nil]; omega)
  simp only [List.nil_append, Nat.zero_add] at a2
  exact a2
theorem ss_append4 (objs : List VO) (n : Nat) (l : List (List TV)) (b : Bk) (h : l.length ≤ 1000) : OTurn Try.prog (fun _ => none) 0 ⟨objs, [(n, 3, false), (l.length, 3, false)]⟩ (.call ⟨.builtin .append, #[.tmp 110, .tmp 112], #[25, 25]⟩) [(110, .vec 3 l (.tail 1 l.length)), (112, .vec 3 [bkC b] .full)] (.vec 3 (l ++ [bkC b]) (.tail 1 (l.length + 1))) ⟨objs, [(n, 3, false), (l.length + 1, 3, false)]⟩ :=
  oturn_bk (T := ⟨objs, [(n, 3, false), (l.length, 3, false)]⟩) (T1 := ⟨objs, [(n, 3, false), (l.length, 3, false)]⟩) (es := l) (es2 := [bkC b]) (k := 1) (n := l.length) (bn := false) (by simp [evOf, evFind, vadopt]) (by rfl) (by simp only [List.length_cons, List.length_nil]; omega)
set_option maxRecDepth 100000 in
theorem law_stays (f : Int × Int × Int × Int × Int) (L : List Bk) (hL : L.length ≤ 9223372036854775807) (a : Int) (ha : 0 ≤ a) : VCx Try.prog (fun _ => none) 0 ssF [flV f, .vec 3 (L.map backE) .none, .val (.int .u64 a)] ⟨[], []⟩ isTrueV := by
  have dC : ∀ b, SpecsOk Try.prog (fun _ => none) (ssC False f [] [] [bkC b] (0, 0, 0) (0, 0, 0) (0, 0, 0) false false false) := fun b => ssC_ok (m := []) (m1 := []) (m2 := [b]) rfl rfl rfl (fun h => h.elim) (fun h => h.elim) fun h => h.elim
  rcases List.eq_nil_or_concat L with rfl | ⟨m, b, rfl⟩
  · refine vcallF_is mixedQ_Try bodiesQ_Try (dC (0, 0, 0)) (ssL_ok (m := []) fun h => h.elim) (ev_ss False f [] [] a 0 (0, 0, 0) (0, 0, 0) (0, 0, 0) (0, 0, 0) (0, 0, 0) false false false) ?_
    exact condT rfl trivial
  · rw [List.concat_eq_append] at *
    have hL0 : eqRes .eql (keyEq (Value.int .i64 (((m ++ [b]).map backE).length : Int)) (Value.int .i64 0)) = false := by simp [eqRes, keyEq, cellEq]; omega
    have hw1 : IntKind.i64.wrap ((((m ++ [b]).map backE).length : Int) - 1) = (m.length : Int) := by
      simp only [IntKind.wrap, IntKind.bits, IntKind.signed, List.length_map, List.length_append, List.length_cons, List.length_nil] at *
      simp; omega
    have hix : (m ++ [b])[(IntKind.i64.wrap ((((m ++ [b]).map backE).length : Int) - 1)).toNat]? = some b := by rw [hw1]; simp
    have h0 : 0 ≤ IntKind.i64.wrap ((((m ++ [b]).map backE).length : Int) - 1) := by rw [hw1]; omega
    have htk : List.take (IntKind.i64.wrap ((((m ++ [b]).map backE).length : Int) - 1)).toNat ((m ++ [b]).map backE) = m.map backE := by rw [hw1]; simp
    have o26 := opure_bk2 (x := .tmp 22) (i := .tmp 25) (l := [(22, .vec 3 ((m ++ [b]).map backE) .none), (25, .val (.int .i64 (IntKind.i64.wrap ((((m ++ [b]).map backE).length : Int) - 1))))]) (L := m ++ [b]) rfl rfl h0 hix
    have o32 := opure_hi3 (x := .tmp 28) (i := .tmp 31) (l := [(28, .vec 3 ((m ++ [b]).map backE) .none), (31, .val (.int .i64 (IntKind.i64.wrap ((((m ++ [b]).map backE).length : Int) - 1))))]) rfl rfl h0 (by rw [hw1]; simp)
    rw [htk] at o32
    by_cases hm0 : m = []
    · subst hm0
      refine vcallF_is mixedQ_Try bodiesQ_Try (dC b) (ssL_ok (m := []) fun h => h.elim) (ev_ss False f ((([] : List Bk) ++ [b]).map backE) [] a 0 b (0, 0, 0) (0, 0, 0) (0, 0, 0) (0, 0, 0) false false false) ?_
      exact condF hL0 ⟨o26, o32, condT rfl trivial⟩
    · have hpos : 0 < m.length := List.length_pos_iff.2 hm0
      let k := (a % (m.length : Int)).toNat
      have hklt : k < m.length := by
        have h1 := Int.emod_lt_of_pos a (show (0 : Int) < m.length by omega)
        have h2 := Int.emod_nonneg a (show (m.length : Int) ≠ 0 by omega)
        show (a % (m.length : Int)).toNat < m.length
        omega
      have hkz : a.tmod (m.length : Int) = (k : Int) := by
        have h2 := Int.emod_nonneg a (show (m.length : Int) ≠ 0 by omega)
        rw [Int.tmod_eq_emod_of_nonneg ha]
        show _ = ((a % (m.length : Int)).toNat : Int)
        omega
      generalize k = k at *
      obtain ⟨c, hc⟩ : ∃ c, m[k]? = some c := ⟨_, List.getElem?_eq_getElem hklt⟩
      let key := flowK f.1 f.2.1 f.2.2.1 f.2.2.2.1 f.2.2.2.2
      obtain ⟨o1, p1⟩ := picks_ex key m
      obtain ⟨o2, p2⟩ := picks_ex key (m.eraseIdx k)
      obtain ⟨o3, p3, q1, q2⟩ := stay_more (b := b) p1
      have hme : (m.map backE).take k ++ (m.map backE).drop (k + 1) = (m.eraseIdx k).map backE := by rw [List.eraseIdx_eq_take_drop_succ, List.map_append, List.map_take, List.map_drop]
      have hmb : m.map backE ++ [bkC b] = (m ++ [b]).map backE := by simp; rfl
      have hel : (m.eraseIdx k).length ≤ m.length := by rw [List.length_eraseIdx]; split <;> omega
      have hC : SpecsOk Try.prog (fun _ => none) (ssC (m.length ≤ 40) f (m.map backE) ((m.map backE).take k ++ (m.map backE).drop (k + 1)) (m.map backE ++ [bkC b]) (o1.getD (0, 0, 0)) (o2.getD (0, 0, 0)) (o3.getD (0, 0, 0)) o1.isSome o2.isSome o3.isSome) :=
        ssC_ok rfl hme hmb (fun h => pick_call p1 (by omega)) (fun h => pick_call p2 (by omega)) fun h => pick_call p3 (by simp; omega)
      refine vcallF_is mixedQ_Try bodiesQ_Try hC (ssL_ok (m := m) fun h => h) (ev_ss (m.length ≤ 40) f ((m ++ [b]).map backE) (m.map backE) a k b c (o1.getD (0, 0, 0)) (o2.getD (0, 0, 0)) (o3.getD (0, 0, 0)) o1.isSome o2.isSome o3.isSome) ?_
      refine condF hL0 ⟨o26, o32, condF (by simp [eqRes, keyEq, cellEq]; omega) (cond_of (fun _ => trivial) fun hle => ?_)⟩
      have hR : m.length ≤ 40 := by simp at hle; omega
      refine ⟨rfl, ⟨rfl, rfl, rfl, trivial, rfl, rfl, rfl⟩, hR, fun look es ck => ?_, fun _ _ _ _ _ => trivial⟩
      have hwu : IntKind.u64.wrap (((m.map backE).length : Nat) : Int) = (m.length : Int) := by rw [List.length_map]; exact wrap_u64_id _ (by omega) (by omega)
      have o71 := opure_rem (t := 26) (yt := 26) (x := .tmp 67) (y := .tmp 70) (l := [(67, .val (.int .u64 a)), (70, .val (.int .u64 (IntKind.u64.wrap (((m.map backE).length : Nat) : Int))))]) (a := a) (b := IntKind.u64.wrap (((m.map backE).length : Nat) : Int)) rfl rfl (by rw [hwu]; omega)
      have e71 : a.tmod (IntKind.u64.wrap (((m.map backE).length : Nat) : Int)) = (k : Int) := by rw [hwu]; exact hkz
      rw [e71] at o71
      have hw := wrapN k (by omega)
      have htl : ((m.map backE).take k).length ≤ 1000 := by simp; omega
      have hdl : ((m.map backE).drop (k + 1)).length ≤ 1000 := by simp; omega
      have hml : (m.map backE).length ≤ 1000 := by simp; omega
      have o78 := opure_hi3 (x := .tmp 76) (i := .tmp 77) (l := [(76, .vec 3 (m.map backE) .none), (77, .val (.int .i64 (k : Int)))]) (z := (k : Int)) rfl rfl (Int.natCast_nonneg _) (by simp; omega)
      have o83 := opure_lo3 (x := .tmp 80) (i := .tmp 82) (l := [(80, .vec 3 (m.map backE) .none), (82, .val (.int .i64 (IntKind.i64.wrap ((k : Int) + 1))))]) (n := k + 1) rfl rfl (by rw [hw]; omega) (by rw [hw]; omega) (by simp; omega)
      refine ⟨hR, rfl, o71, opure_u64_int k (by omega) _ _ rfl, o78, o83, ss_append1 _ _ htl, ⟨rfl, trivial⟩, ss_append2 _ _ _ htl hdl, ⟨rfl, trivial⟩, hR, rfl, ?_⟩
      have tailP : ∀ objs n, OTurn Try.prog (fun _ => none) 0 ⟨objs, [(n, 3, false)]⟩ (.call ⟨.builtin .append, #[.tmp 108, .tmp 109], #[25, 25]⟩) [(108, .vec 3 [] .full), (109, .vec 3 (m.map backE) .none)] (.vec 3 (m.map backE) (.tail 1 (m.map backE).length)) ⟨objs, [(n, 3, false), ((m.map backE).length, 3, false)]⟩ := fun objs n => ss_append3 objs n _ hml
      cases o1 with
      | none =>
        refine condF rfl ⟨ss_append3 _ _ _ hml, ⟨rfl, rfl, trivial⟩, ss_append4 _ _ _ _ hml, ⟨rfl, rfl, trivial⟩, hR, rfl, condF rfl (condT ?_ (condT rfl trivial))⟩
        rw [b_eql, q1]; simp
      | some w =>
        have q1' : o3.isSome = true := by rw [q1]; rfl
        have fin : cond (eqRes .eql (keyEq (Value.bool o3.isSome) (Value.bool true))) (cond (eqRes .eql (keyEq (bkV3 (o3.getD (0, 0, 0))) (bkV3 w))) True (cond (eqRes .eql (keyEq (bkV3 (o3.getD (0, 0, 0))) (bkV3 b))) True False)) False := by
          rw [b_eql, bk_eql, bk_eql, q1']
          rcases q2 w rfl with rfl | rfl
          · exact condT (by simp) (condT (by simp) trivial)
          · refine condT (by simp) (cond_of (fun _ => trivial) fun _ => condT (by simp) trivial)
        refine condT rfl ⟨opure_bk2 rfl rfl (Int.natCast_nonneg _) (by simpa using hc), cond_of (fun hne => ?_) fun _ => ⟨ss_append3 _ _ _ hml, ⟨rfl, rfl, trivial⟩, ss_append4 _ _ _ _ hml, ⟨rfl, rfl, trivial⟩, hR, rfl, fin⟩⟩
        have hne' : c ≠ w := by
          have h := (bk_neq c w).symm.trans hne
          simpa using h
        have p2' := stay_less p1 hc hne'
        have ho2 : o2 = some w := by
          rcases p2 with ⟨rfl, e⟩ | ⟨h, r, b', rfl, e, hb'⟩
          · rcases p2' with ⟨h', _⟩ | ⟨h', r', b'', _, e', _⟩
            · cases h'
            · rw [e] at e'; cases e'
          · rcases p2' with ⟨h', _⟩ | ⟨h', r', b'', hb'', e', hl'⟩
            · cases h'
            · injection hb'' with hb''; subst hb''
              rw [e] at e'; injection e' with e1 e2; subst e1
              rw [hb'] at hl'; exact hl'
        subst ho2
        exact condF rfl (condF ((bk_neq w w).trans (by simp)) ⟨ss_append3 _ _ _ hml, ⟨rfl, rfl, trivial⟩, ss_append4 _ _ _ _ hml, ⟨rfl, rfl, trivial⟩, hR, rfl, fin⟩)
end Go.Proofs.Ytdabfiichejkpaa
