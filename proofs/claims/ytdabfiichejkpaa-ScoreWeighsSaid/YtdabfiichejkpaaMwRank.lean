/- Rank, on what a walk knows. -/
import Derived.Test.YtdabfiichejkpaaMwPick
namespace Go.Proofs.Ytdabfiichejkpaa
open Go.RowKit

/-- the backends at these places -/
def atL (l : List Bk) (S : List Bk) : List Bk := S.map fun s => l[s.1.toNat]!

theorem atL_len (l S : List Bk) : (atL l S).length = S.length := by simp [atL]
set_option maxHeartbeats 1000000 in
theorem vrank (ss : List Bk) (pr s d sp dp : Int) (l : List Bk) (hl : l.length ≤ 1000) (hse : VCalls Try.prog 22 [flowE pr s d sp dp, .vec 3 (l.map backE) .none] ⟨[], []⟩ fun x T' => x = .vec 3 (ss.map seatE) .none ∧ T' = ⟨[], []⟩) (hlen : ss.length ≤ l.length) (hat : ∀ x ∈ ss, 0 ≤ x.1 ∧ x.1.toNat < l.length) :
    VCalls Try.prog 20 [flowE pr s d sp dp, .vec 3 (l.map backE) .none] ⟨[], []⟩ fun x T' => x = .vec 3 ((atL l ss).map backE) .none ∧ T' = ⟨[], []⟩ := by
  unfold flowE at *
  refine VCalls.go Try.func20 (by rfl) (fun k hk => ?_)
  simp only [Try.ntmps20, List.length_cons, List.length_nil, List.replicate, List.cons_append, List.nil_append, Nat.reduceAdd, Nat.reduceSub]
  refine hk _ ?_
  clear hk k
  repeat (first
    | ((with_reducible refine VW.seq ?_))
    | ((with_reducible refine isVW ?_); refine VW.region ?_)
    | ((with_reducible refine VW.block ?_))
    | ((with_reducible refine isVPl ?_); refine VPl.pure (by rfl) (by rfl) (by rfl) Try.func22 (by rfl) (by rfl) (hse) (by first | rfl | (simp only [veval, List.getD_cons_zero, List.getD_cons_succ, TV.ren, renL, renLL, Tok.ren, nameOut, nameIn, renL_vals, List.idxOf?_nil, List.length_nil, List.not_mem_nil, Nat.not_lt_zero, Nat.sub_zero, if_false, vput, List.set_cons_zero, List.set_cons_succ, List.map_cons, List.map_nil, List.cons_append, List.nil_append, List.append_nil, ren_backE, ren_seatE])) (by rfl) (fun k hk => ?_); simp only [veval, List.getD_cons_zero, List.getD_cons_succ, TV.ren, renL, renLL, Tok.ren, nameOut, nameIn, renL_vals, List.idxOf?_nil, List.length_nil, List.not_mem_nil, Nat.not_lt_zero, Nat.sub_zero, if_false, vput, List.set_cons_zero, List.set_cons_succ, List.map_cons, List.map_nil, List.cons_append, List.nil_append, List.append_nil, ren_backE, ren_seatE]; (with_reducible refine hk _ _ ?_); clear hk k)
    | ((with_reducible refine isVL ?_); refine VL.pure (by rfl) (by rfl) (by rfl) Try.func22 (by rfl) (by rfl) (hse) (by first | rfl | (simp only [veval, List.getD_cons_zero, List.getD_cons_succ, TV.ren, renL, Tok.ren, List.map_cons, List.map_nil, List.nil_append, List.append_nil, ren_backE])) (fun k hk => ?_); simp only [TV.ren, Tok.ren, List.length_nil, vput, List.set_cons_zero, List.set_cons_succ, ren_seatE]; (with_reducible refine hk _ _ ?_); clear hk k)
    | ((with_reducible refine isVL ?_); refine VL.run (by rfl) (fun k hk => ?_); simp only [vcont_some, vop, vread, vwrite, vcalls, veval, vput, List.getD_cons_zero, List.getD_cons_succ, List.set_cons_zero, List.set_cons_succ, Option.bind, Option.map, List.all_nil, vload, cellsAt, isAggD, vlen, vbox, vnew, cellsOf, isCell, List.length_cons, List.length_nil, List.length_map, List.take_succ_cons, List.take_zero, List.drop_zero, List.nil_append, List.all_cons, List.all_nil, List.getElem?_cons_zero, Nat.reduceAdd, Nat.reduceLeDiff, Nat.zero_add, Nat.le_refl, Bool.and_self, if_true, Value.oneCell', eq_self, Try.underlying24, info24, Try.t24, Try.underlying46]; (first | (with_reducible refine hk _ _ ?_) | (rw [if_pos (by first | omega | (simp; omega))]; simp only [vcont_some, vop, vread, vwrite, vcalls, veval, vput, List.getD_cons_zero, List.getD_cons_succ, List.set_cons_zero, List.set_cons_succ, vbin_add, vbin_sub, vbin_mul, vbin_lss, vbin_leq, vbin_gtr, vbin_geq, vbin_eql, vbin_neq, vbin_and, vbin_or, vbin_xor, vbin_andNot, vbin_shl, vbin_shr, vbin_quo, vbin_rem, pr_conv, vun_not, vun_neg, vmin2, vmax2, toVal, valsOf, Option.map_some, Option.bind_some, Option.bind, Option.map, Option.isSome_some, List.all_nil, vload, cellsAt, isAggD, vfieldAddr, vpart, vfield, vindexAddr, vslice, lowOf, natOf, vlen, valloc, vbox, vnew, vstore, setCs, cellsOf, isCell, vbuild, vfill, vplaces, vbuildSlice, chunks, zeros, vappend, vadopt, srcOf, isSl, Value.cells, List.map_cons, List.map_nil, List.length_cons, List.length_nil, List.length_append, List.length_map, List.take_succ_cons, List.take_zero, List.drop_succ_cons, List.drop_zero, List.nil_append, List.cons_append, List.append_nil, List.all_cons, List.all_nil, List.getElem?_cons_zero, List.getElem?_cons_succ, List.getElem?_toArray, List.range_succ, List.range_zero, Nat.reduceAdd, Nat.reduceMul, Nat.reduceSub, Nat.reduceLeDiff, Nat.reduceLT, Nat.reduceEqDiff, Nat.reduceMod, Nat.zero_add, Nat.add_zero, Nat.le_refl, Int.reduceNeg, Int.reduceLE, Int.reduceLT, Int.reduceToNat, Int.reduceEq, Bool.and_true, Bool.true_and, Bool.and_self, Bool.not_true, Bool.not_false, Bool.false_eq_true, if_true, if_false, reduceIte, and_self, and_true, true_and, cond_true, cond_false, not_false_eq_true, not_true_eq_false, Value.oneCell', eq_self, ne_eq, Nat.not_lt_zero, Try.underlying0, info0, Try.t0, Try.underlying1, info1, Try.t1, Try.underlying3, info3, Try.t3, Try.underlying5, info5, Try.t5, Try.underlying16, info16, Try.t16, Try.underlying22, info22, Try.t22, Try.underlying23, info23, Try.t23, Try.underlying24, info24, Try.t24, Try.underlying25, info25, Try.t25, Try.underlying28, info28, Try.t28, Try.underlying29, info29, Try.t29, Try.underlying36, info36, Try.t36, Try.underlying46, info46, Try.t46, Try.underlying48, info48, Try.t48, Try.underlying49, info49, Try.t49, Try.underlying85, info85, Try.t85, Try.underlying86, info86, Try.t86, Try.underlying87, info87, Try.t87, Try.underlying88, info88, Try.t88, Try.underlying90, info90, Try.t90]; (with_reducible refine hk _ _ ?_))); clear hk k)
    | ((with_reducible refine isVL ?_); refine VL.nostep (by rfl) (fun k hk => ?_); simp only [vput, List.set_cons_zero, List.set_cons_succ]; (with_reducible refine hk _ _ ?_); clear hk k)
    | ((with_reducible refine VL.nil ?_); show VW _ _ _ _ _)
    | ((with_reducible refine VW.skip ?_); show VW _ _ _ _ _)
    | ((with_reducible refine VW.exit ?_); show VW _ _ _ _ _))
  refine VW.adopt 5 3 (by rfl) (fun k hk => ?_)
  simp only [List.set_cons_zero, List.set_cons_succ, List.length_nil, List.nil_append]
  refine hk _ _ ?_
  clear hk k
  refine VW.loopS [5, 7, 12, 13, 14, 15, 16, 17, 18, 19, 20, 21, 22, 23, 24] 1 1 (fun n gs T' => ∃ (j : Nat) (g7 g13 g14 g15 g16 g17 g18 g19 g20 g21 g22 g23 g24 : TV), gs = [.vec 3 ((atL l (ss.take j)).map backE) (.tail 0 j), g7, .val (.int .i64 j), g13, g14, g15, g16, g17, g18, g19, g20, g21, g22, g23, g24] ∧ T' = ⟨[.cells [.val (.int .i64 pr), .val (.int .u32 s), .val (.int .u32 d), .val (.int .i64 sp), .val (.int .i64 dp)]], [(j, 3, true)]⟩ ∧ n = ss.length - j ∧ j ≤ ss.length) ((fun (j : Nat) => ss.length - j) (0)) ?hJ ?start ?round
  case hJ => rintro n gs T' ⟨j, g7, g13, g14, g15, g16, g17, g18, g19, g20, g21, g22, g23, g24, rfl, rfl, rfl, _⟩; exact ⟨rfl, rfl⟩
  case start =>
    intro k hk
    simp only [List.map_cons, List.map_nil, List.getD_cons_zero, List.getD_cons_succ]
    exact hk _ ⟨0, _, _, _, _, _, _, _, _, _, _, _, _, _, rfl, rfl, rfl, Nat.zero_le _⟩
  case round =>
  rintro n gs T' hl ⟨j, g7, g13, g14, g15, g16, g17, g18, g19, g20, g21, g22, g23, g24, rfl, rfl, rfl, hc0⟩
  clear hl
  refine VW.tidy (fun k hk => ?_)
  simp only [vsetAll, List.set_cons_zero, List.set_cons_succ]
  refine hk _ _ ?_
  clear hk k
  by_cases hj : j < ss.length
  · repeat (first
      | ((with_reducible refine VW.seq ?_))
      | ((with_reducible refine isVW ?_); refine VW.region ?_)
      | ((with_reducible refine VW.block ?_))
      | ((with_reducible refine isVL ?_); refine VL.run (by rfl) (fun k hk => ?_); simp only [vcont_some, vop, vread, veval, vput, List.getD_cons_zero, List.getD_cons_succ, List.set_cons_zero, List.set_cons_succ, vbin_lss]; (first | (with_reducible refine hk _ _ ?_) | (rw [if_pos (by first | omega | (simp; omega))]; simp only [vcont_some, vop, vread, vwrite, vcalls, veval, vput, List.getD_cons_zero, List.getD_cons_succ, List.set_cons_zero, List.set_cons_succ, vbin_add, vbin_sub, vbin_mul, vbin_lss, vbin_leq, vbin_gtr, vbin_geq, vbin_eql, vbin_neq, vbin_and, vbin_or, vbin_xor, vbin_andNot, vbin_shl, vbin_shr, vbin_quo, vbin_rem, pr_conv, vun_not, vun_neg, vmin2, vmax2, toVal, valsOf, Option.map_some, Option.bind_some, Option.bind, Option.map, Option.isSome_some, List.all_nil, vload, cellsAt, isAggD, vfieldAddr, vpart, vfield, vindexAddr, vslice, lowOf, natOf, vlen, valloc, vbox, vnew, vstore, setCs, cellsOf, isCell, vbuild, vfill, vplaces, vbuildSlice, chunks, zeros, vappend, vadopt, srcOf, isSl, Value.cells, List.map_cons, List.map_nil, List.length_cons, List.length_nil, List.length_append, List.length_map, List.take_succ_cons, List.take_zero, List.drop_succ_cons, List.drop_zero, List.nil_append, List.cons_append, List.append_nil, List.all_cons, List.all_nil, List.getElem?_cons_zero, List.getElem?_cons_succ, List.getElem?_toArray, List.range_succ, List.range_zero, Nat.reduceAdd, Nat.reduceMul, Nat.reduceSub, Nat.reduceLeDiff, Nat.reduceLT, Nat.reduceEqDiff, Nat.reduceMod, Nat.zero_add, Nat.add_zero, Nat.le_refl, Int.reduceNeg, Int.reduceLE, Int.reduceLT, Int.reduceToNat, Int.reduceEq, Bool.and_true, Bool.true_and, Bool.and_self, Bool.not_true, Bool.not_false, Bool.false_eq_true, if_true, if_false, reduceIte, and_self, and_true, true_and, cond_true, cond_false, not_false_eq_true, not_true_eq_false, Value.oneCell', eq_self, ne_eq, Nat.not_lt_zero, Try.underlying0, info0, Try.t0, Try.underlying1, info1, Try.t1, Try.underlying3, info3, Try.t3, Try.underlying5, info5, Try.t5, Try.underlying16, info16, Try.t16, Try.underlying22, info22, Try.t22, Try.underlying23, info23, Try.t23, Try.underlying24, info24, Try.t24, Try.underlying25, info25, Try.t25, Try.underlying28, info28, Try.t28, Try.underlying29, info29, Try.t29, Try.underlying36, info36, Try.t36, Try.underlying46, info46, Try.t46, Try.underlying48, info48, Try.t48, Try.underlying49, info49, Try.t49, Try.underlying85, info85, Try.t85, Try.underlying86, info86, Try.t86, Try.underlying87, info87, Try.t87, Try.underlying88, info88, Try.t88, Try.underlying90, info90, Try.t90]; (with_reducible refine hk _ _ ?_))); clear hk k)
      | ((with_reducible refine isVL ?_); refine VL.nostep (by rfl) (fun k hk => ?_); simp only [vput, List.set_cons_zero, List.set_cons_succ]; (with_reducible refine hk _ _ ?_); clear hk k)
      | ((with_reducible refine VL.nil ?_); show VW _ _ _ _ _)
      | ((with_reducible refine VW.skip ?_); show VW _ _ _ _ _)
      | ((with_reducible refine VW.exit ?_); show VW _ _ _ _ _))
    refine VW.condT (by rfl) (by simp; omega) ?_
    obtain ⟨q, hq⟩ : ∃ q, ss[j]? = some q := ⟨_, List.getElem?_eq_getElem hj⟩
    have hm := hat q (List.mem_of_getElem? hq)
    obtain ⟨b, hb⟩ : ∃ b, l[q.1.toNat]? = some b := ⟨_, List.getElem?_eq_getElem hm.2⟩
    have hm1 := hm.1
    have hst : (atL l (ss.take j)).map backE ++ [[.val (.int .i64 b.1), .val (.int .u32 b.2.1), .val (.int .i64 b.2.2)]] = (atL l (ss.take (j + 1))).map backE := by
      have e1 : ss.take (j + 1) = ss.take j ++ [q] := by rw [List.take_add_one, hq]; rfl
      have e2 : l[q.1.toNat]! = b := by rw [getElem!_def, hb]
      rw [e1]
      simp only [atL, List.map_append, List.map_cons, List.map_nil, e2, backE]
    have hw := wrapN j (by omega)
    repeat (first
      | ((with_reducible refine VW.seq ?_))
      | ((with_reducible refine isVW ?_); refine VW.region ?_)
      | ((with_reducible refine VW.block ?_))
      | ((with_reducible refine isVL ?_); refine VL.run (by rfl) (fun k hk => ?_); simp only [vcont_some, vop, vread, vwrite, vcalls, veval, vput, List.getD_cons_zero, List.getD_cons_succ, List.set_cons_zero, List.set_cons_succ, vbin_add, Option.map, List.all_nil, vload, cellsAt, isAggD, vfieldAddr, vindexAddr, valloc, vnew, vstore, setCs, cellsOf, isCell, vfill, vbuildSlice, chunks, zeros, vappend, vadopt, srcOf, isSl, Value.cells, List.map_cons, List.map_nil, List.length_cons, List.length_nil, List.length_map, List.take_succ_cons, List.take_zero, List.drop_succ_cons, List.drop_zero, List.nil_append, List.cons_append, List.append_nil, List.all_cons, List.all_nil, List.getElem?_cons_zero, List.getElem?_cons_succ, List.getElem?_toArray, List.range_succ, List.range_zero, Nat.reduceAdd, Nat.reduceMul, Nat.reduceLeDiff, Nat.reduceLT, Nat.reduceEqDiff, Nat.zero_add, Nat.add_zero, Nat.le_refl, Bool.and_self, Bool.false_eq_true, if_true, if_false, and_self, true_and, Value.oneCell', eq_self, Try.underlying3, info3, Try.t3, Try.underlying25, Try.underlying29, info29, Try.t29, Try.underlying46, Try.underlying49, info49, Try.t49, Int.natCast_nonneg, Int.toNat_natCast, List.getElem?_map, hq, hb, hm1, backE, seatE, atL_len, List.length_take, hw]; (first | (with_reducible refine hk _ _ ?_) | (rw [if_pos (by first | omega | (simp; omega))]; simp only [vcont_some]; (with_reducible refine hk _ _ ?_))); clear hk k)
      | ((with_reducible refine isVL ?_); refine VL.nostep (by rfl) (fun k hk => ?_); simp only [vput, List.set_cons_zero, List.set_cons_succ]; (with_reducible refine hk _ _ ?_); clear hk k)
      | ((with_reducible refine VL.nil ?_); show VW _ _ _ _ _)
      | ((with_reducible refine VW.skip ?_); show VW _ _ _ _ _)
      | ((with_reducible refine VW.exit ?_); show VW _ _ _ _ _))
    first | refine VL.nil ?_ | refine VW.skip ?_ | refine VPl.nil ?_ | skip
    refine VRound.done (fun k hk => ?_)
    simp only [vsetAll, List.getD_cons_zero, List.getD_cons_succ, TV.ren, renL, renLL, Tok.ren, if_false, List.set_cons_zero, List.set_cons_succ, List.map_cons, List.map_nil, keep, VT.keep, VO.ren, List.take_succ_cons, List.take_zero, List.map_cons, List.map_nil, if_true, if_false, Nat.lt_irrefl, Nat.zero_lt_succ, ren_backE, ren_seatE, hst]
    refine hk _ _ _ _ ⟨_, ?lt, ⟨j + 1, _, _, _, _, _, _, _, _, _, _, _, _, _, rfl, rfl, rfl, hj⟩⟩ rfl
    case lt => omega
  · obtain rfl : j = ss.length := by omega
    repeat (first
      | ((with_reducible refine VW.seq ?_))
      | ((with_reducible refine isVW ?_); refine VW.region ?_)
      | ((with_reducible refine VW.block ?_))
      | ((with_reducible refine isVL ?_); refine VL.run (by rfl) (fun k hk => ?_); simp only [vcont_some, vop, vread, veval, vput, List.getD_cons_zero, List.getD_cons_succ, List.set_cons_zero, List.set_cons_succ, vbin_lss]; (first | (with_reducible refine hk _ _ ?_) | (rw [if_pos (by first | omega | (simp; omega))]; simp only [vcont_some, vop, vread, vwrite, vcalls, veval, vput, List.getD_cons_zero, List.getD_cons_succ, List.set_cons_zero, List.set_cons_succ, vbin_add, vbin_sub, vbin_mul, vbin_lss, vbin_leq, vbin_gtr, vbin_geq, vbin_eql, vbin_neq, vbin_and, vbin_or, vbin_xor, vbin_andNot, vbin_shl, vbin_shr, vbin_quo, vbin_rem, pr_conv, vun_not, vun_neg, vmin2, vmax2, toVal, valsOf, Option.map_some, Option.bind_some, Option.bind, Option.map, Option.isSome_some, List.all_nil, vload, cellsAt, isAggD, vfieldAddr, vpart, vfield, vindexAddr, vslice, lowOf, natOf, vlen, valloc, vbox, vnew, vstore, setCs, cellsOf, isCell, vbuild, vfill, vplaces, vbuildSlice, chunks, zeros, vappend, vadopt, srcOf, isSl, Value.cells, List.map_cons, List.map_nil, List.length_cons, List.length_nil, List.length_append, List.length_map, List.take_succ_cons, List.take_zero, List.drop_succ_cons, List.drop_zero, List.nil_append, List.cons_append, List.append_nil, List.all_cons, List.all_nil, List.getElem?_cons_zero, List.getElem?_cons_succ, List.getElem?_toArray, List.range_succ, List.range_zero, Nat.reduceAdd, Nat.reduceMul, Nat.reduceSub, Nat.reduceLeDiff, Nat.reduceLT, Nat.reduceEqDiff, Nat.reduceMod, Nat.zero_add, Nat.add_zero, Nat.le_refl, Int.reduceNeg, Int.reduceLE, Int.reduceLT, Int.reduceToNat, Int.reduceEq, Bool.and_true, Bool.true_and, Bool.and_self, Bool.not_true, Bool.not_false, Bool.false_eq_true, if_true, if_false, reduceIte, and_self, and_true, true_and, cond_true, cond_false, not_false_eq_true, not_true_eq_false, Value.oneCell', eq_self, ne_eq, Nat.not_lt_zero, Try.underlying0, info0, Try.t0, Try.underlying1, info1, Try.t1, Try.underlying3, info3, Try.t3, Try.underlying5, info5, Try.t5, Try.underlying16, info16, Try.t16, Try.underlying22, info22, Try.t22, Try.underlying23, info23, Try.t23, Try.underlying24, info24, Try.t24, Try.underlying25, info25, Try.t25, Try.underlying28, info28, Try.t28, Try.underlying29, info29, Try.t29, Try.underlying36, info36, Try.t36, Try.underlying46, info46, Try.t46, Try.underlying48, info48, Try.t48, Try.underlying49, info49, Try.t49, Try.underlying85, info85, Try.t85, Try.underlying86, info86, Try.t86, Try.underlying87, info87, Try.t87, Try.underlying88, info88, Try.t88, Try.underlying90, info90, Try.t90]; (with_reducible refine hk _ _ ?_))); clear hk k)
      | ((with_reducible refine isVL ?_); refine VL.nostep (by rfl) (fun k hk => ?_); simp only [vput, List.set_cons_zero, List.set_cons_succ]; (with_reducible refine hk _ _ ?_); clear hk k)
      | ((with_reducible refine VL.nil ?_); show VW _ _ _ _ _)
      | ((with_reducible refine VW.skip ?_); show VW _ _ _ _ _)
      | ((with_reducible refine VW.exit ?_); show VW _ _ _ _ _))
    refine VW.condF (by rfl) (by simp) ?_
    repeat (first
      | ((with_reducible refine VW.seq ?_))
      | ((with_reducible refine isVW ?_); refine VW.region ?_)
      | ((with_reducible refine VW.block ?_))
      | ((with_reducible refine isVL ?_); refine VL.run (by rfl) (fun k hk => ?_); simp only [vcont_some, vop, vread, veval, vput, List.getD_cons_zero, List.getD_cons_succ, List.set_cons_zero, List.set_cons_succ]; (first | (with_reducible refine hk _ _ ?_) | (rw [if_pos (by first | omega | (simp; omega))]; simp only [vcont_some, vop, vread, vwrite, vcalls, veval, vput, List.getD_cons_zero, List.getD_cons_succ, List.set_cons_zero, List.set_cons_succ, vbin_add, vbin_sub, vbin_mul, vbin_lss, vbin_leq, vbin_gtr, vbin_geq, vbin_eql, vbin_neq, vbin_and, vbin_or, vbin_xor, vbin_andNot, vbin_shl, vbin_shr, vbin_quo, vbin_rem, pr_conv, vun_not, vun_neg, vmin2, vmax2, toVal, valsOf, Option.map_some, Option.bind_some, Option.bind, Option.map, Option.isSome_some, List.all_nil, vload, cellsAt, isAggD, vfieldAddr, vpart, vfield, vindexAddr, vslice, lowOf, natOf, vlen, valloc, vbox, vnew, vstore, setCs, cellsOf, isCell, vbuild, vfill, vplaces, vbuildSlice, chunks, zeros, vappend, vadopt, srcOf, isSl, Value.cells, List.map_cons, List.map_nil, List.length_cons, List.length_nil, List.length_append, List.length_map, List.take_succ_cons, List.take_zero, List.drop_succ_cons, List.drop_zero, List.nil_append, List.cons_append, List.append_nil, List.all_cons, List.all_nil, List.getElem?_cons_zero, List.getElem?_cons_succ, List.getElem?_toArray, List.range_succ, List.range_zero, Nat.reduceAdd, Nat.reduceMul, Nat.reduceSub, Nat.reduceLeDiff, Nat.reduceLT, Nat.reduceEqDiff, Nat.reduceMod, Nat.zero_add, Nat.add_zero, Nat.le_refl, Int.reduceNeg, Int.reduceLE, Int.reduceLT, Int.reduceToNat, Int.reduceEq, Bool.and_true, Bool.true_and, Bool.and_self, Bool.not_true, Bool.not_false, Bool.false_eq_true, if_true, if_false, reduceIte, and_self, and_true, true_and, cond_true, cond_false, not_false_eq_true, not_true_eq_false, Value.oneCell', eq_self, ne_eq, Nat.not_lt_zero, Try.underlying0, info0, Try.t0, Try.underlying1, info1, Try.t1, Try.underlying3, info3, Try.t3, Try.underlying5, info5, Try.t5, Try.underlying16, info16, Try.t16, Try.underlying22, info22, Try.t22, Try.underlying23, info23, Try.t23, Try.underlying24, info24, Try.t24, Try.underlying25, info25, Try.t25, Try.underlying28, info28, Try.t28, Try.underlying29, info29, Try.t29, Try.underlying36, info36, Try.t36, Try.underlying46, info46, Try.t46, Try.underlying48, info48, Try.t48, Try.underlying49, info49, Try.t49, Try.underlying85, info85, Try.t85, Try.underlying86, info86, Try.t86, Try.underlying87, info87, Try.t87, Try.underlying88, info88, Try.t88, Try.underlying90, info90, Try.t90]; (with_reducible refine hk _ _ ?_))); clear hk k)
      | ((with_reducible refine isVL ?_); refine VL.nostep (by rfl) (fun k hk => ?_); simp only [vput, List.set_cons_zero, List.set_cons_succ]; (with_reducible refine hk _ _ ?_); clear hk k)
      | ((with_reducible refine VL.nil ?_); show VW _ _ _ _ _)
      | ((with_reducible refine VW.skip ?_); show VW _ _ _ _ _)
      | ((with_reducible refine VW.exit ?_); show VW _ _ _ _ _))
    have hf := List.take_length (l := ss)
    first | refine VW.ret ?_ | skip
    refine vend (by first | exact .inr rfl | exact .inl rfl) (by simp only [Try.results20, vresults, vresultsL, vresult, List.getD_cons_zero, List.getD_cons_succ]; rfl) ?_
    simp only [TV.ren, hf, ren_backE]; exact ⟨rfl, rfl⟩
end Go.Proofs.Ytdabfiichejkpaa
