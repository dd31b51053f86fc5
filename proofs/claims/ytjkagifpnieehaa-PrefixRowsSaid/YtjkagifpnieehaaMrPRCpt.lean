/- Rows of prefixes: each once, in place. -/
import Derived.Test.YtjkagifpnieehaaMrPRRef
namespace Go.Proofs.Ytjkagifpnieehaa
open Go.RowKit

set_option maxRecDepth 100000 in
theorem ev_cpN (n j : Nat) (cs : List TV) (a1 n1 a2 n2 : Int) (Q : Exit → List TV → VT → List Nat → Nat → Prop) : vx Try.prog noGl noSp (cpO [(999999, .dead, none), (18, .ptr 0 (j * 2), none), (19, .agg (pxc a1 n1), none), (23, .ptr 0 ((j - 1) * 2), none), (24, .agg (pxc a2 n2), none), (28, .dead, none)] n) 300 noLp none 0 (loopAt Try.prog cpF 0) (slotsN 61 cpK (cpV n j)) ⟨[.row cs], []⟩ [] (pickS cpK Q) =
 (bif decide ((↑j : Int) < (↑n : Int))
 then (OPure Try.prog (fun _ => .none) (.indexAddr 22 (.tmp 16) (.tmp 17)) [(16, (.row 2 0 0 (n))), (17, (.val (.int .i64 ((↑j : Int)))))] (.ptr 0 (j * (2 : Nat))) ∧
 (OPure Try.prog (fun _ => .none) (.indexAddr 22 (.tmp 20) (.tmp 22)) [(20, (.row 2 0 0 (n))), (22, (.val (.int .i64 (IntKind.wrap IntKind.i64 ((↑j : Int) - (1 : Int))))))] (.ptr 0 ((j - (1 : Nat)) * (2 : Nat))) ∧
 (OTake Try.prog (fun _ => .none) ⟨[(.row (cs))], []⟩ false (.load 32 (.tmp 18)) [(18, (.ptr 0 (j * (2 : Nat))))] (.agg [(.val (.int .u32 (a1))), (.val (.int .i64 (n1)))]) ∧
 (OTake Try.prog (fun _ => .none) ⟨[(.row (cs))], []⟩ false (.load 32 (.tmp 23)) [(23, (.ptr 0 ((j - (1 : Nat)) * (2 : Nat))))] (.agg [(.val (.int .u32 (a2))), (.val (.int .i64 (n2)))]) ∧
 (bif eqRes BinOp.eql (keyEq ((fun vs => Value.agg (List.toArray vs)) ((fun x => Value.int IntKind.u32 a1 :: x) ((fun x => Value.int IntKind.i64 n1 :: x) []))) ((fun vs => Value.agg (List.toArray vs)) ((fun x => Value.int IntKind.u32 a2 :: x) ((fun x => Value.int IntKind.i64 n2 :: x) []))))
 then (OPure Try.prog (fun _ => .none) (.slice 22 (.tmp 26) (.some (.tmp 27)) .none .none) [(26, (.row 2 0 0 (n))), (27, (.val (.int .i64 ((↑j : Int)))))] .dead ∧
 False)
 else Q .normal [(.row 2 0 0 (n)), (.val (.slice .none 0 0)), (.val (.int .i64 (IntKind.wrap IntKind.i64 ((↑j : Int) + (1 : Int)))))] ⟨[(.row (cs))], []⟩ [] 61)))))
 else Q (.exit 0) [(.row 2 0 0 (n)), (.val (.slice .none 0 0)), (.val (.int .i64 ((↑j : Int))))] ⟨[(.row (cs))], []⟩ [] 61) := by kernel_rfl
theorem drop_two {cs : List TV} {q : Nat} {a b : TV} (h1 : cs[q]? = some a) (h2 : cs[q + 1]? = some b) : (cs.drop q).take 2 = [a, b] ∧ q + 2 ≤ cs.length := by
  have l2 := (List.getElem?_eq_some_iff.1 h2).1
  refine ⟨?_, by omega⟩
  obtain ⟨hq, e1⟩ := List.getElem?_eq_some_iff.1 h1
  obtain ⟨_, e2⟩ := List.getElem?_eq_some_iff.1 h2
  rw [List.drop_eq_getElem_cons hq, List.drop_eq_getElem_cons l2, e1, e2]
  rfl
theorem opure_ixr {x i : Operand} {l : List (Nat × TV)} {off n j q : Nat} {k : IntKind} {z : Int} (hx : evOf (fun _ => none) l x = .row 2 0 off n) (hz : evOf (fun _ => none) l i = .val (.int k z)) (hj : z = (j : Int)) (hn : j < n) (hq : off * 2 + j * 2 = q) :
    OPure Try.prog (fun _ => none) (.indexAddr 22 x i) l (.ptr 0 q) := by
  obtain ⟨inf, i_at, i_size, _, _⟩ := pxInf_ex
  subst hj
  have h := opure_indexR (inf := inf) (P := Try.prog) (G := fun _ => none) (x := x) (i := i) (l := l) Try.underlying22 i_at (by rw [i_size]; exact hx) hz (Int.natCast_nonneg j) (by omega)
  rw [i_size, Int.toNat_natCast, hq] at h
  exact h
theorem load_px {c : List Px} {a : Operand} {l : List (Nat × TV)} {k q : Nat} {p : Px} (ha : evOf (fun _ => none) l a = .ptr 0 q) (hq : k * 2 = q) (hk : c[k]? = some p) :
    OTake Try.prog (fun _ => none) ⟨[.row (c.map pxE).flatten], []⟩ false (.load 32 a) l (.agg [.val (.int .u32 p.1), .val (.int .i64 p.2)]) := by
  obtain ⟨inf, i_at, i_size, _, _⟩ := pxInf_ex
  subst hq
  obtain ⟨f1, f2⟩ := pxF_at hk
  obtain ⟨hd, hl⟩ := drop_two f1 f2
  refine .mk ?_
  have hc := cellsAt_row (T := ⟨[.row (c.map pxE).flatten], []⟩) (id := 0) (off := k * 2) (n := 2) rfl hl
  rw [hd] at hc
  have hag : ∃ d, Try.prog.underlying 32 = some d ∧ isAggD d = true := ⟨_, Try.underlying32, rfl⟩
  obtain ⟨d, hu, hda⟩ := hag
  have h1 : vpure2 Try.prog (.load 32 a) (evOf (fun _ => none) l) = none := by simp [vpure2, vpure]
  have h2 : vread2 Try.prog ⟨[.row (c.map pxE).flatten], []⟩ (.load 32 a) (evOf (fun _ => none) l) = some (.agg [.val (.int .u32 p.1), .val (.int .i64 p.2)]) := by
    simp [vread2, vread, vload, hu, i_at, i_size, hda, ha, hc]
  simp only [vtakes, h1, h2, cond_false]
theorem loadT_px {c : List Px} {a : Operand} {l : List (Nat × TV)} {k q : Nat} {p : Px} (ha : evOf (fun _ => none) l a = .ptr 0 q) (hq : k * 2 = q) (hk : c[k]? = some p) :
    OTurn Try.prog (fun _ => none) 0 ⟨[.row (c.map pxE).flatten], []⟩ (.load 32 a) l (.agg [.val (.int .u32 p.1), .val (.int .i64 p.2)]) ⟨[.row (c.map pxE).flatten], []⟩ := by
  obtain ⟨inf, i_at, i_size, _, _⟩ := pxInf_ex
  subst hq
  obtain ⟨f1, f2⟩ := pxF_at hk
  obtain ⟨hd, hl⟩ := drop_two f1 f2
  exact oturn_loadA (inf := inf) Try.underlying32 rfl i_at ha rfl (by rw [i_size]; exact hl) (by rw [i_size]; exact hd)
theorem store_px {c : List Px} {a x : Operand} {l : List (Nat × TV)} {k q : Nat} {p : Px} (ha : evOf (fun _ => none) l a = .ptr 0 q) (hq : k * 2 = q) (hx : evOf (fun _ => none) l x = .agg [.val (.int .u32 p.1), .val (.int .i64 p.2)]) (hk : k < c.length) :
    OTurn Try.prog (fun _ => none) 0 ⟨[.row (c.map pxE).flatten], []⟩ (.store 32 a x) l (.val undef) ⟨[.row (setCs (c.map pxE).flatten q (pxc p.1 p.2))], []⟩ := by
  obtain ⟨inf, i_at, i_size, _, _⟩ := pxInf_ex
  subst hq
  have hl := pxF_len c
  exact oturn_storeR (T := ⟨[.row (c.map pxE).flatten], []⟩) (new := pxc p.1 p.2) (inf := inf) i_at ha (by rw [hx]; rfl) rfl (by rw [i_size]; rfl) (by simp only [pxc, List.length_cons, List.length_nil]; omega) rfl (Nat.zero_le _)
def D2P (l : List Px) (k : Nat) (cs : List TV) : Prop := ∃ c, CptB l c k l.length ∧ cs = (c.map pxE).flatten
def D1P (l : List Px) (k : Nat) (cs : List TV) : Prop := k = (compL l).length ∧ cs.take (k * 2) = ((compL l).map pxE).flatten
theorem take_flat (k : Nat) : ∀ c : List Px, (c.map pxE).flatten.take (k * 2) = ((c.take k).map pxE).flatten := by
  induction k with
  | zero => intro c; simp
  | succ k ih =>
    intro c
    cases c with
    | nil => simp
    | cons a c =>
      rw [show (k + 1) * 2 = k * 2 + 1 + 1 by omega]
      simp only [List.map_cons, List.flatten_cons, pxE, List.cons_append, List.nil_append, List.take_succ_cons]
      rw [ih c]
/-- the inner loop -/
theorem cpLB_ok (l : List Px) (hl : l.length ≤ 1000) (j : Nat) (c0 : List Px) (h0 : CptB l c0 j (j + 1)) : LsOk Try.prog noGl (cpLB l.length j (c0.map pxE).flatten (D2P l) (codeAt Try.prog cpF 2)) := specsL_ok fun q hq => by
  obtain rfl := List.mem_singleton.1 hq
  refine loopL_ok fun K hK => ?_
  let sl : Nat × Nat × List Px → List TV := fun s => cpVB l.length j s.1 s.2.1
  let TT : Nat × Nat × List Px → VT := fun s => ⟨[.row (s.2.2.map pxE).flatten], []⟩
  let Post : Exit → List TV → VT → Prop := fun e vs T => e = .normal ∧ ∃ k cs, D2P l k cs ∧ vs = cpVB l.length j k ((l.length - j : Nat) : Int) ∧ T = ⟨[.row cs], []⟩
  refine loopK (f := cpF) (id := 2) (by kernel_rfl) 61 cpKB (fun s => l.length - s.2.1) sl TT (fun s => CptB l s.2.2 s.1 (j + s.2.1) ∧ 1 ≤ s.2.1) 1 0 (fun _ _ => ⟨Nat.le_refl _, Nat.le_refl _⟩)
    Post (fun s hs => ?_) (j, 1, c0) ⟨h0, Nat.le_refl _⟩ K (fun e vs T ⟨h1, k, cs, h2, h3, h4⟩ => ?_)
  · obtain ⟨k, m, c⟩ := s
    obtain ⟨hc, hm⟩ := hs
    simp only at hc hm
    have hjl := hc.jl
    have hkj := hc.kj
    have hcl := hc.len
    by_cases hlt : j + m < l.length
    · have hx := List.getElem?_eq_getElem hlt
      generalize l[j + m] = x at hx
      have hlt2 : j + m - 1 < l.length := by omega
      have hy := List.getElem?_eq_getElem hlt2
      generalize l[j + m - 1] = y at hy
      have cx : c[j + m]? = some x := by rw [hc.at (by omega)]; exact hx
      have cy : c[j + m - 1]? = some y := by rw [hc.at (Nat.le_refl _)]; exact hy
      refine vx_is mixedR_Try bodiesR_Try specsOk_none lsOk_none (ev_cpB l.length j k m (c.map pxE).flatten x.1 x.2 y.1 y.2 _) ?_
      have hwm := wrapN m (by omega)
      have hwk := wrapN k (by omega)
      have hwm1 : IntKind.wrap .i64 ((m : Int) - 1) = ((m - 1 : Nat) : Int) := by
        simp only [IntKind.wrap, IntKind.bits, IntKind.signed]; simp; omega
      refine condT (by simp; omega) ⟨opure_ixr rfl rfl rfl (by omega) rfl, opure_ixr rfl rfl hwm1 (by omega) rfl, load_px (k := j + m) rfl (by omega) cx, load_px (k := j + m - 1) rfl (by omega) cy, cond_of (fun he => ?_) (fun he => ?_)⟩
      · have he : y ≠ x := fun h => by subst h; simp [eqRes, keyEq, eqAll, cellEq] at he
        refine ⟨opure_ixr rfl rfl rfl (by omega) rfl, loadT_px (k := j + m) rfl (by omega) cx, opure_ixr rfl rfl rfl (by omega) (by simp), store_px (k := k) rfl rfl rfl (by omega), rfl, rfl, (k + 1, m + 1, c.set k x), ⟨hc.next hx hy he, by simp⟩, by simp only; omega, .inl ⟨?_, ?_⟩⟩
        · simp only [TT, ← pxF_set x (show k < c.length by omega)]
          rfl
        · simp only [sl, cpVB, hwk, hwm]
      · have he : y = x := by
          have : x.1 = y.1 ∧ x.2 = y.2 := by simpa [eqRes, keyEq, eqAll, cellEq] using he
          exact (Prod.ext this.1 this.2).symm
        subst he
        refine ⟨rfl, rfl, (k, m + 1, c), ⟨hc.same hx hy, by simp⟩, by simp only; omega, .inl ⟨rfl, ?_⟩⟩
        simp only [sl, cpVB, hwm]
    · have hjm : j + m = l.length := by omega
      refine vx_is mixedR_Try bodiesR_Try specsOk_none lsOk_none (ev_cpB l.length j k m (c.map pxE).flatten 0 0 0 0 _) ?_
      refine condF (by simp; omega) ⟨rfl, rfl, ?_⟩
      show Post .normal _ _
      rw [hjm] at hc
      exact ⟨rfl, k, _, ⟨c, hc, rfl⟩, by rw [show ((l.length - j : Nat) : Int) = (m : Int) by omega]; rfl, rfl⟩
  · subst h1 h3 h4
    exact hK k cs h2
theorem cp_vcx (l : List Px) (hl : l.length ≤ 1000) (h1l : 1 ≤ l.length) : VCx Try.prog noGl 0 cpF [.row 2 0 0 l.length] ⟨[.row (l.map pxE).flatten], []⟩ fun x T' => ∃ k cs, D1P l k cs ∧ x = .row 2 0 0 k ∧ T' = ⟨[.row cs], []⟩ := by
  obtain ⟨inf, i_at, i_size, i_bytes, i_zero⟩ := pxInf_ex
  have hL : LsOk Try.prog noGl (cpL l.length (l.map pxE).flatten (compL l = l) (D1P l) (codeAt Try.prog cpF 0)) := specsL_ok fun q hq => by
    obtain rfl := List.mem_singleton.1 hq
    refine loopL_ok fun K hK => ?_
    obtain ⟨hK0, hK1⟩ := hK
    let sl : Nat → List TV := fun j => cpV l.length j
    let TT : VT := ⟨[.row (l.map pxE).flatten], []⟩
    let Post : Exit → List TV → VT → Prop := fun e vs T => (e = .normal ∧ compL l = l ∧ vs = cpV l.length l.length ∧ T = TT) ∨ (e = .ret ∧ ∃ (k : Nat) (cs : List TV), D1P l k cs ∧ vs = [.row 2 0 0 l.length, .row 2 0 0 k, .val (.int .i64 (k : Int))] ∧ T = ⟨[.row cs], []⟩)
    refine loopK (f := cpF) (id := 0) (by kernel_rfl) 61 cpK (fun j => l.length - j) sl (fun _ => TT) (fun j => 1 ≤ j ∧ j ≤ l.length ∧ compL (l.take j) = l.take j) 1 0 (fun _ _ => ⟨Nat.le_refl _, Nat.le_refl _⟩)
      Post (fun j hj => ?_) 1 ⟨Nat.le_refl _, h1l, compL_take1 h1l⟩ K (fun e vs T h => ?_)
    · obtain ⟨hj1, hjl, hcj⟩ := hj
      by_cases hlt : j < l.length
      · have hx := List.getElem?_eq_getElem hlt
        generalize l[j] = x at hx
        have hlt2 : j - 1 < l.length := by omega
        have hy := List.getElem?_eq_getElem hlt2
        generalize l[j - 1] = y at hy
        have hw := wrapN j (by omega)
        have hw1 : IntKind.wrap .i64 ((j : Int) - 1) = ((j - 1 : Nat) : Int) := by
          simp only [IntKind.wrap, IntKind.bits, IntKind.signed]; simp; omega
        have pre : OPure Try.prog (fun _ => none) (.indexAddr 22 (.tmp 16) (.tmp 17)) [(16, .row 2 0 0 l.length), (17, .val (.int .i64 (j : Int)))] (.ptr 0 (j * 2)) := opure_ixr rfl rfl rfl hlt (by simp)
        by_cases he : x = y
        · subst he
          refine vx_is mixedR_Try bodiesR_Try specsOk_none (cpLB_ok l hl j l (CptB.start hj1 hx hy hcj)) (ev_cpA l.length j (l.map pxE).flatten x.1 x.2 x.1 x.2 (D2P l) _) ?_
          refine condT (by simpa using hlt) ⟨pre, opure_ixr rfl rfl hw1 (by omega) (by simp), load_px rfl rfl hx, load_px rfl rfl hy, condT (by simp [eqRes, keyEq, eqAll, cellEq]) ⟨?_, rfl, ⟨rfl, rfl, rfl, trivial, rfl, rfl, rfl⟩, fun k cs' hd => ?_⟩⟩
          · have h := opure_loR (inf := inf) (P := Try.prog) (G := fun _ => none) (x := .tmp 26) (i := .tmp 27) (l := [(26, .row 2 0 0 l.length), (27, .val (.int .i64 (j : Int)))]) (id := 0) (off := 0) (n := l.length) (k := .i64) (z := j) Try.underlying22 i_at (by rw [i_size]; rfl) rfl hj1 hlt
            rw [i_size, Nat.zero_add] at h
            exact h
          · obtain ⟨c, hc, rfl⟩ := hd
            have hk0 := hc.k0
            have hkl := hc.kj
            have hcl := hc.len
            have hfl := pxF_len c
            have hst := hc.stop
            rw [Int.toNat_natCast]
            refine ⟨?_, ?_, ?_, rfl, rfl, .inr ⟨rfl, k, _, ?_, rfl, rfl⟩⟩
            · have h := opure_loR (inf := inf) (P := Try.prog) (G := fun _ => none) (x := .tmp 54) (i := .tmp 55) (l := [(54, .row 2 0 0 l.length), (55, .val (.int .i64 (k : Int)))]) (id := 0) (off := 0) (n := l.length) (k := .i64) (z := k) Try.underlying22 i_at (by rw [i_size]; rfl) rfl hk0 hkl
              rw [i_size, Nat.zero_add] at h
              exact h
            · have h := oturn_clearR (inf := inf) (P := Try.prog) (G := fun _ => none) (ro := 0) (T := ⟨[.row (c.map pxE).flatten], []⟩) (x := .tmp 56) (l := [(56, .row 2 0 k (l.length - k))]) (z := pxZero) (id := 0) (off := k) (n := l.length - k) (cs := (c.map pxE).flatten) Try.underlying22 i_at i_zero (by rw [i_size]; rfl) rfl (by rw [i_size]; rfl) rfl (by omega) (by rw [i_size]; omega) (Nat.zero_le _)
              rw [i_size] at h
              exact h
            · have h := opure_hiR (inf := inf) (P := Try.prog) (G := fun _ => none) (x := .tmp 57) (i := .tmp 58) (l := [(57, .row 2 0 0 l.length), (58, .val (.int .i64 (k : Int)))]) (id := 0) (off := 0) (n := l.length) (k := .i64) (z := k) Try.underlying22 i_at (by rw [i_size]; rfl) rfl (by omega)
              rw [i_size] at h
              exact h
            · have hlen : (compL l).length = k := by rw [← hst, List.length_take]; omega
              refine ⟨hlen.symm, ?_⟩
              show (setCs (c.map pxE).flatten (k * 2) _).take (k * 2) = _
              rw [setCs_take (by omega), take_flat, hst]
        · refine vx_is mixedR_Try bodiesR_Try specsOk_none lsOk_none (ev_cpN l.length j (l.map pxE).flatten x.1 x.2 y.1 y.2 _) ?_
          refine condT (by simpa using hlt) ⟨pre, opure_ixr rfl rfl hw1 (by omega) (by simp), load_px rfl rfl hx, load_px rfl rfl hy, condF ?_ ⟨rfl, rfl, j + 1, ⟨by omega, hlt, ?_⟩, by simp only; omega, .inl ⟨rfl, ?_⟩⟩⟩
          · simp [eqRes, keyEq, eqAll, cellEq]
            exact fun h1 h2 => he (Prod.ext h1 h2)
          · rw [compL_next hx hj1 hy, if_neg (fun h => he h.symm), hcj, List.take_add_one, hx]; rfl
          · simp only [sl, cpV, hw]
      · obtain rfl : j = l.length := by omega
        refine vx_is mixedR_Try bodiesR_Try specsOk_none lsOk_none (ev_cpN l.length l.length (l.map pxE).flatten 0 0 0 0 _) ?_
        rw [List.take_length] at hcj
        refine condF (by simp) ⟨rfl, rfl, ?_⟩
        show Post .normal _ _
        exact .inl ⟨rfl, hcj, rfl, rfl⟩
    · rcases h with ⟨rfl, h2, rfl, rfl⟩ | ⟨rfl, k, cs, h2, rfl, rfl⟩
      · exact hK0 h2
      · exact hK1 k cs h2
  refine vcallF_is mixedR_Try bodiesR_Try specsOk_none hL (ev_cp l.length (l.map pxE).flatten (compL l = l) (D1P l) _) ?_
  refine cond_of (fun h => ?_) (fun h => ⟨rfl, ⟨rfl, rfl, rfl, trivial, rfl, rfl, rfl⟩, fun h => ?_, fun k cs h => ⟨k, cs, h, rfl, rfl⟩⟩)
  · have h2 : l.length < 2 := by
      have : (l.length : Int) < 2 := by simpa using h
      omega
    have e : compL l = l := by
      match l, h2 with
      | [], _ => rfl
      | [a], _ => rfl
    exact ⟨l.length, _, ⟨by rw [e], by rw [e, take_flat, List.take_length]⟩, rfl, rfl⟩
  · exact ⟨l.length, _, ⟨by rw [h], by rw [h, take_flat, List.take_length]⟩, rfl, rfl⟩
end Go.Proofs.Ytjkagifpnieehaa
