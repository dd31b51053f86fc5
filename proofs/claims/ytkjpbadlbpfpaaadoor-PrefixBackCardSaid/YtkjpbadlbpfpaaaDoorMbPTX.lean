/- PrefixTexts: the law returns true, whatever comes. -/
import Derived.Test.YtkjpbadlbpfpaaaDoorMbPTS
import Derived.Test.YtkjpbadlbpfpaaaDoorMb4
namespace Go.Proofs.YtkjpbadlbpfpaaaDoor
open Go.RowKit

abbrev txF := 3
def txC (R : Prop) (s X A : List UInt8) (a n b x qa qn : Int) (ok may : Bool) : FuncId → Option Spec := specs [(qaF, pureIf R [bsT s] (.tup [.val (.int .u32 x), .val (.bool ok)])), (rqF, pureIf R [bsT s] (.tup [.val (.int .u32 x), .val (.bool ok)])), (qtF, pureIf R [bsT s] (.tup [.agg [.val (.int .u32 qa), .val (.int .i64 qn)], .val (.bool may)])), (rpF, pureIf R [bsT s] (.tup [.agg [.val (.int .u32 qa), .val (.int .i64 qn)], .val (.bool may)])), (ptF, pureIf True [.agg [.val (.int .u32 a), .val (.int .i64 n)]] (bsT X)), (rtF, pureIf True [.agg [.val (.int .u32 a), .val (.int .i64 n)]] (bsT X)), (paF, pureIf True [.val (.int .u32 b)] (bsT A)), (raF, pureIf True [.val (.int .u32 b)] (bsT A)), (5, trueW)]
set_option maxRecDepth 100000 in
theorem ev_tx (G : Globs) (R : Prop) (s X A : List UInt8) (a n b x qa qn : Int) (ok may : Bool) : vcallF Tryd.prog G (txC R s X A a n b x qa qn ok may) (tell [(999998, .dead)]) 300 noLp 0 txF [.agg [.val (.int .u32 a), .val (.int .i64 n)], .val (.int .u32 b), bsT s] ⟨[],[]⟩ isTrueV =
 (bif decide ((↑(ByteArray.size { data := List.toArray s }) : Int) > (300 : Int))
 then True 
 else (R  ∧
 ((@Eq (List TV) [(.val (.string ⟨List.toArray (s)⟩))] [(.val (.string ⟨List.toArray (s)⟩))]) ∧
 (R  ∧
 ((@Eq (List TV) [(.val (.string ⟨List.toArray (s)⟩))] [(.val (.string ⟨List.toArray (s)⟩))]) ∧
 (R  ∧
 ((@Eq (List TV) [(.val (.string ⟨List.toArray (s)⟩))] [(.val (.string ⟨List.toArray (s)⟩))]) ∧
 (R  ∧
 ((@Eq (List TV) [(.val (.string ⟨List.toArray (s)⟩))] [(.val (.string ⟨List.toArray (s)⟩))]) ∧
 (True  ∧
 ((@Eq (List TV) [(.agg [(.val (.int .u32 (a))), (.val (.int .i64 (n)))])] [(.agg [(.val (.int .u32 (a))), (.val (.int .i64 (n)))])]) ∧
 (((@Eq (Option TV) (.some (.agg [(.val (.int .u32 (a))), (.val (.int .i64 (n)))])) (.some (.agg [(.val (.int .u32 (a))), (.val (.int .i64 (n)))]))) ∧
 ((@Eq (Option TV) (.some (.agg [(.val (.int .u32 (a))), (.val (.int .i64 (n)))])) (.some (.agg [(.val (.int .u32 (a))), (.val (.int .i64 (n)))]))) ∧
 True )) ∧
 (True  ∧
 ((@Eq (List TV) [(.agg [(.val (.int .u32 (a))), (.val (.int .i64 (n)))])] [(.agg [(.val (.int .u32 (a))), (.val (.int .i64 (n)))])]) ∧
 (bif eqRes BinOp.eql (keyEq (Value.string { data := List.toArray X }) (Value.string { data := List.toArray X }))
 then (True  ∧
 ((@Eq (List TV) [(.val (.int .u32 (b)))] [(.val (.int .u32 (b)))]) ∧
 (True  ∧
 ((@Eq (List TV) [(.val (.int .u32 (b)))] [(.val (.int .u32 (b)))]) ∧
 (bif eqRes BinOp.eql (keyEq (Value.string { data := List.toArray A }) (Value.string { data := List.toArray A }))
 then (bif eqRes BinOp.eql (keyEq (Value.int IntKind.u32 x) (Value.int IntKind.u32 x))
 then (bif eqRes BinOp.eql (keyEq (Value.bool ok) (Value.bool ok))
 then (bif eqRes BinOp.eql (keyEq ((fun vs => Value.agg (List.toArray vs)) ((fun x => Value.int IntKind.u32 qa :: x) ((fun x => Value.int IntKind.i64 qn :: x) []))) ((fun vs => Value.agg (List.toArray vs)) ((fun x => Value.int IntKind.u32 qa :: x) ((fun x => Value.int IntKind.i64 qn :: x) []))))
 then (bif eqRes BinOp.eql (keyEq (Value.bool may) (Value.bool may))
 then True 
 else False )
 else False )
 else False )
 else False )
 else False )))))
 else False ))))))))))))))) := by kernel_rfl
theorem eqB (b : Bool) : eqRes .eql (keyEq (.bool b) (.bool b)) = true := by simp [eqRes, keyEq, cellEq]
theorem eqSS (l : List UInt8) : eqRes .eql (keyEq (.string ⟨l.toArray⟩) (.string ⟨l.toArray⟩)) = true := by
  have h := (fit_eq (c := .str) (x := .string ⟨l.toArray⟩) (y := .string ⟨l.toArray⟩) rfl rfl).2 rfl
  simp [eqRes, keyEq, h]
theorem eqP (a n : Int) : eqRes .eql (keyEq (.agg [.int .u32 a, .int .i64 n].toArray) (.agg [.int .u32 a, .int .i64 n].toArray)) = true := by simp [eqRes, keyEq, eqAll, cellEq]
theorem pureIfT {P : Program} {G : Globs} {f : FuncId} {xs : List TV} {y : TV} (hv : GVals G) (hx : renL (nameIn []) (nameIn []) xs = xs) (hy : ∀ f h, y.ren f h = y) (h : VCx P G 0 f xs ⟨[], []⟩ fun x T' => x = y ∧ T' = ⟨[], []⟩) :
    ∀ ro ys T K, pureIf True xs y ro ys T K → VCx P G ro f ys T K := pureIf_ok hv hx hy fun _ => h
set_option maxRecDepth 100000 in
theorem lives_tx (m : Int) : VCx Tryd.prog (ptG m) 0 5 [] ⟨[], []⟩ isTrueV := by
  have h : vcallF Tryd.prog (ptG m) noSp noOra 3000 noLp 0 5 [] ⟨[], []⟩ isTrueV = True := by kernel_rfl
  exact vcallF_is mixedT_Tryd bodiesT_Tryd specsOk_none lsOk_none h trivial
theorem tx_law (m : Int) (a : Nat) (ha : a < 4294967296) (n : Int) (b : Nat) (hb : b < 4294967296) (s : List UInt8) : VCx Tryd.prog (ptG m) 0 txF [.agg [.val (.int .u32 (a : Int)), .val (.int .i64 n)], .val (.int .u32 (b : Int)), bsT s] ⟨[], []⟩ isTrueV := by
  have hC : SpecsOk Tryd.prog (ptG m) (txC (s.length ≤ 300) s (pfxT a n) (addrT b) a n b (adrOf s).1 (pfxOf s).1.1 (pfxOf s).1.2 (adrOf s).2 (pfxOf s).2) := specs_ok fun q hq => by
    simp only [List.mem_cons, List.not_mem_nil, or_false] at hq
    rcases hq with rfl | rfl | rfl | rfl | rfl | rfl | rfl | rfl | rfl
    · exact pureIf_ok (ptG_vals m) rfl (fun _ _ => rfl) fun h => qa_vcx m s (by omega)
    · exact pureIf_ok (ptG_vals m) rfl (fun _ _ => rfl) fun h => rq_vcx m s (by omega)
    · exact pureIf_ok (ptG_vals m) rfl (fun _ _ => rfl) fun h => qt_vcx m s (by omega)
    · exact pureIf_ok (ptG_vals m) rfl (fun _ _ => rfl) fun h => rp_vcx m s (by omega)
    · exact pureIfT (ptG_vals m) rfl (fun _ _ => rfl) (pt_vcx m a ha n)
    · exact pureIfT (ptG_vals m) rfl (fun _ _ => rfl) (rt_vcx m a ha n)
    · exact pureIfT (ptG_vals m) rfl (fun _ _ => rfl) (pa_vcx m b hb)
    · exact pureIfT (ptG_vals m) rfl (fun _ _ => rfl) (ra_vcx m b hb)
    · exact trueW_ok (ptG_vals m) (lives_tx m)
  refine vcallF_is mixedT_Tryd bodiesT_Tryd hC lsOk_none (ev_tx (ptG m) _ s _ _ a n b _ _ _ _ _) ?_
  generalize (adrOf s).1 = x
  generalize (adrOf s).2 = ok
  generalize (pfxOf s).1.1 = qa
  generalize (pfxOf s).1.2 = qn
  generalize (pfxOf s).2 = may
  generalize pfxT a n = X
  generalize addrT b = A
  refine cond_of (fun _ => trivial) fun h => ?_
  have h := of_decide_eq_false h
  rw [bsize] at h
  have hl : s.length ≤ 300 := by omega
  exact ⟨hl, rfl, hl, rfl, hl, rfl, hl, rfl, trivial, rfl, ⟨rfl, rfl, trivial⟩, trivial, rfl, condT (eqSS X) ⟨trivial, rfl, trivial, rfl, condT (eqSS A) (condT (by rw [eqI]) (condT (eqB ok) (condT (eqP qa qn) (condT (eqB may) trivial))))⟩⟩
end Go.Proofs.YtkjpbadlbpfpaaaDoor
