/- PrefixBack: the law returns true, whatever comes. -/
import Derived.Test.YtkjpbadlbpfpaaaDoorMbPBP
import Derived.Test.YtkjpbadlbpfpaaaDoorMbPTX
namespace Go.Proofs.YtkjpbadlbpfpaaaDoor
open Go.RowKit

abbrev pkF := 4
abbrev pyF := 16
def pkK : List Nat := [0, 1, 4, 5, 32, 33, 34]
def pkV (L M : List (List TV)) (b j : Int) : List TV := [.vec 2 L .none, .val (.int .u32 b), .val (.bool false), .vec 2 M .none, .vec 2 L .none, .val (.int .i64 L.length), .val (.int .i64 j)]
def pkL (L M : List (List TV)) (b : Int) (c0 : Code) : Nat → Option (LSpec × Code) := specsL [(0, loopL 93 pkK [] (pkV L M b 0) ⟨[], []⟩ fun K => K .normal (slotsN 93 pkK (pkV L M b L.length)) ⟨[], []⟩ [], c0)]
def pkC (R : Prop) (L M B : List (List TV)) (A : List UInt8) (b : Int) : FuncId → Option Spec := specs [(15, pureIf R [.vec 2 L .none] (.vec 1 B .none)), (14, pureIf R [.vec 1 B .none] (.tup [.vec 2 M .none, .val (.bool true)])), (paF, pureIf True [.val (.int .u32 b)] (bsT A)), (qaF, pureIf True [bsT A] (.tup [.val (.int .u32 b), .val (.bool true)])), (5, trueW)]
def pkC0 (A : List UInt8) (b : Int) : FuncId → Option Spec := specs [(paF, pureIf True [.val (.int .u32 b)] (bsT A)), (qaF, pureIf True [bsT A] (.tup [.val (.int .u32 b), .val (.bool true)])), (5, trueW)]
def pkD (a n h c : Int) (X : List UInt8) (GB : Int → Int → Bool) (RB : Int → Int → Prop) : FuncId → Option Spec := specs [(ptF, pureIf True [.agg [.val (.int .u32 a), .val (.int .i64 n)]] (bsT X)), (qtF, pureIf True [bsT X] (.tup [.agg [.val (.int .u32 h), .val (.int .i64 c)], .val (.bool true)])), (pyF, pureIf True [.agg [.val (.int .u32 a), .val (.int .i64 n)]] (.agg [.val (.int .u32 h), .val (.int .i64 c)])), (goF, fun _ ys T K => match ys with
  | [.agg [.val (.int .u32 a), .val (.int .i64 n)]] => RB a n ∧ K (.val (.bool (GB a n))) T
  | _ => False)]
set_option maxRecDepth 100000 in
theorem ev_pk (G : Globs) (R : Prop) (L M B : List (List TV)) (A : List UInt8) (b : Int) : vcallF Tryd.prog G (pkC R L M B A b) (tell [(999998, .dead)]) 300 (pkL L M b (codeAt Tryd.prog pkF 0)) 0 pkF [.vec 2 L .none, .val (.int .u32 b)] ⟨[],[]⟩ isTrueV =
 (bif decide ((↑(List.length L) : Int) > (200 : Int))
 then True 
 else (R  ∧
 ((@Eq (List TV) [(.vec 2 (L) .none)] [(.vec 2 (L) .none)]) ∧
 (R  ∧
 ((@Eq (List TV) [(.vec 1 (B) .none)] [(.vec 1 (B) .none)]) ∧
 (bif eqRes BinOp.neq (keyEq (Value.int IntKind.i64 (↑(List.length M) : Int)) (Value.int IntKind.i64 (↑(List.length L) : Int)))
 then False 
 else ((codeAt Tryd.prog pkF (0 : Nat) = codeAt Tryd.prog pkF (0 : Nat)) ∧
 (((@Eq (Option Nat) .none .none) ∧
 ((@Eq (Nat) 0 0) ∧
 ((@Eq (List Nat) [] []) ∧
 (True  ∧
 ((@Eq (VT) ⟨[], []⟩ ⟨[], []⟩) ∧
 ((@Eq (Bool) true true) ∧
 (@Eq (List TV) [(.vec 2 (L) .none), (.val (.int .u32 (b))), (.val (.bool false)), (.vec 2 (M) .none), (.vec 2 (L) .none), (.val (.int .i64 ((↑(List.length L) : Int)))), (.val (.int .i64 0))] [(.vec 2 (L) .none), (.val (.int .u32 (b))), (.val (.bool false)), (.vec 2 (M) .none), (.vec 2 (L) .none), (.val (.int .i64 ((↑(List.length L) : Int)))), (.val (.int .i64 0))]))))))) ∧
 (True  ∧
 ((@Eq (List TV) [(.val (.int .u32 (b)))] [(.val (.int .u32 (b)))]) ∧
 (True  ∧
 ((@Eq (List TV) [(.val (.string ⟨List.toArray (A)⟩))] [(.val (.string ⟨List.toArray (A)⟩))]) ∧
 (bif eqRes BinOp.eql (keyEq (Value.int IntKind.u32 b) (Value.int IntKind.u32 b))
 then True 
 else False ))))))))))))) := by kernel_rfl
set_option maxRecDepth 100000 in
theorem ev_pkA (G : Globs) (L M : List (List TV)) (b a n h c : Int) (X : List UInt8) (GB : Int → Int → Bool) (RB : Int → Int → Prop) (j : Nat) (Q : Exit → List TV → VT → List Nat → Nat → Prop) : vx Tryd.prog G (pkD a n h c X GB RB) (tell [(999998, .dead), (37, .elt [.val (.int .u32 a), .val (.int .i64 n)]), (47, .elt [.val (.int .u32 h), .val (.int .i64 c)]), (60, .elt [.val (.int .u32 h), .val (.int .i64 c)])]) 300 noLp none 0 (loopAt Tryd.prog pkF 0) (slotsN 93 pkK (pkV L M b j)) ⟨[], []⟩ [] (pickS pkK Q) =
 (bif decide ((↑j : Int) < (↑(List.length L) : Int))
 then (OPure Tryd.prog (G) (.indexAddr 33 (.tmp 32) (.tmp 34)) [(32, (.vec 2 (L) .none)), (34, (.val (.int .i64 ((↑j : Int)))))] (.elt [(.val (.int .u32 (a))), (.val (.int .i64 (n)))]) ∧
 (True  ∧
 ((@Eq (List TV) [(.agg [(.val (.int .u32 (a))), (.val (.int .i64 (n)))])] [(.agg [(.val (.int .u32 (a))), (.val (.int .i64 (n)))])]) ∧
 (True  ∧
 ((@Eq (List TV) [(.val (.string ⟨List.toArray (X)⟩))] [(.val (.string ⟨List.toArray (X)⟩))]) ∧
 (OPure Tryd.prog (G) (.indexAddr 33 (.tmp 45) (.tmp 46)) [(45, (.vec 2 (M) .none)), (46, (.val (.int .i64 ((↑j : Int)))))] (.elt [(.val (.int .u32 (h))), (.val (.int .i64 (c)))]) ∧
 (True  ∧
 ((@Eq (List TV) [(.agg [(.val (.int .u32 (a))), (.val (.int .i64 (n)))])] [(.agg [(.val (.int .u32 (a))), (.val (.int .i64 (n)))])]) ∧
 (((@Eq (Option TV) (.some (.agg [(.val (.int .u32 (a))), (.val (.int .i64 (n)))])) (.some (.agg [(.val (.int .u32 (a))), (.val (.int .i64 (n)))]))) ∧
 ((@Eq (Option TV) (.some (.agg [(.val (.int .u32 (h))), (.val (.int .i64 (c)))])) (.some (.agg [(.val (.int .u32 (h))), (.val (.int .i64 (c)))]))) ∧
 True )) ∧
 (bif eqRes BinOp.neq (keyEq ((fun vs => Value.agg (List.toArray vs)) ((fun x => Value.int IntKind.u32 h :: x) ((fun x => Value.int IntKind.i64 c :: x) []))) ((fun vs => Value.agg (List.toArray vs)) ((fun x => Value.int IntKind.u32 h :: x) ((fun x => Value.int IntKind.i64 c :: x) []))))
 then Q .ret [(.vec 2 (L) .none), (.val (.int .u32 (b))), (.val (.bool false)), (.vec 2 (M) .none), (.vec 2 (L) .none), (.val (.int .i64 ((↑(List.length L) : Int)))), (.val (.int .i64 ((↑j : Int))))] ⟨[(.cells [(.val (.int .u32 (a))), (.val (.int .i64 (n)))]), (.cells [(.val (.int .u32 (h))), (.val (.int .i64 (c)))])], []⟩ [] 93
 else (OPure Tryd.prog (G) (.indexAddr 33 (.tmp 58) (.tmp 59)) [(58, (.vec 2 (M) .none)), (59, (.val (.int .i64 ((↑j : Int)))))] (.elt [(.val (.int .u32 (h))), (.val (.int .i64 (c)))]) ∧
 (bif eqRes BinOp.neq (keyEq ((fun vs => Value.agg (List.toArray vs)) ((fun x => Value.int IntKind.u32 h :: x) ((fun x => Value.int IntKind.i64 c :: x) []))) ((fun vs => Value.agg (List.toArray vs)) ((fun x => Value.int IntKind.u32 h :: x) ((fun x => Value.int IntKind.i64 c :: x) []))))
 then Q .ret [(.vec 2 (L) .none), (.val (.int .u32 (b))), (.val (.bool false)), (.vec 2 (M) .none), (.vec 2 (L) .none), (.val (.int .i64 ((↑(List.length L) : Int)))), (.val (.int .i64 ((↑j : Int))))] ⟨[(.cells [(.val (.int .u32 (a))), (.val (.int .i64 (n)))]), (.cells [(.val (.int .u32 (h))), (.val (.int .i64 (c)))])], []⟩ [] 93
 else (RB (h) (c) ∧
 (bif !GB h c
 then Q .ret [(.vec 2 (L) .none), (.val (.int .u32 (b))), (.val (.bool false)), (.vec 2 (M) .none), (.vec 2 (L) .none), (.val (.int .i64 ((↑(List.length L) : Int)))), (.val (.int .i64 ((↑j : Int))))] ⟨[(.cells [(.val (.int .u32 (a))), (.val (.int .i64 (n)))]), (.cells [(.val (.int .u32 (h))), (.val (.int .i64 (c)))])], []⟩ [] 93
 else (RB (a) (n) ∧
 (((@Eq (Option TV) (.some (.agg [(.val (.int .u32 (h))), (.val (.int .i64 (c)))])) (.some (.agg [(.val (.int .u32 (h))), (.val (.int .i64 (c)))]))) ∧
 ((@Eq (Option TV) (.some (.agg [(.val (.int .u32 (a))), (.val (.int .i64 (n)))])) (.some (.agg [(.val (.int .u32 (a))), (.val (.int .i64 (n)))]))) ∧
 ((@Eq (Option TV) (.some (.agg [(.val (.int .u32 (a))), (.val (.int .i64 (n)))])) (.some (.agg [(.val (.int .u32 (a))), (.val (.int .i64 (n)))]))) ∧
 True ))) ∧
 (bif eqRes BinOp.neq (keyEq (Value.bool (GB a n)) (Value.bool (eqRes BinOp.eql (keyEq ((fun vs => Value.agg (List.toArray vs)) ((fun x => Value.int IntKind.u32 a :: x) ((fun x => Value.int IntKind.i64 n :: x) []))) ((fun vs => Value.agg (List.toArray vs)) ((fun x => Value.int IntKind.u32 h :: x) ((fun x => Value.int IntKind.i64 c :: x) [])))))))
 then Q .ret [(.vec 2 (L) .none), (.val (.int .u32 (b))), (.val (.bool false)), (.vec 2 (M) .none), (.vec 2 (L) .none), (.val (.int .i64 ((↑(List.length L) : Int)))), (.val (.int .i64 ((↑j : Int))))] ⟨[(.cells [(.val (.int .u32 (a))), (.val (.int .i64 (n)))]), (.cells [(.val (.int .u32 (h))), (.val (.int .i64 (c)))])], []⟩ [] 93
 else Q .normal [(.vec 2 (L) .none), (.val (.int .u32 (b))), (.val (.bool false)), (.vec 2 (M) .none), (.vec 2 (L) .none), (.val (.int .i64 ((↑(List.length L) : Int)))), (.val (.int .i64 (IntKind.wrap IntKind.i64 ((↑j : Int) + (1 : Int)))))] ⟨[(.cells [(.val (.int .u32 (a))), (.val (.int .i64 (n)))]), (.cells [(.val (.int .u32 (h))), (.val (.int .i64 (c)))])], []⟩ [] 93)))))))))))))))))
 else Q (.exit 0) [(.vec 2 (L) .none), (.val (.int .u32 (b))), (.val (.bool false)), (.vec 2 (M) .none), (.vec 2 (L) .none), (.val (.int .i64 ((↑(List.length L) : Int)))), (.val (.int .i64 ((↑j : Int))))] ⟨[], []⟩ [] 93) := by kernel_rfl
set_option maxRecDepth 100000 in
theorem ev_pk0 (G : Globs) (A : List UInt8) (b : Int) : vcallF Tryd.prog G (pkC0 A b) noOra 3000 noLp 0 pkF [.vec 2 [] .none, .val (.int .u32 b)] ⟨[],[]⟩ isTrueV =
 (True  ∧
 ((@Eq (List TV) [(.val (.int .u32 (b)))] [(.val (.int .u32 (b)))]) ∧
 (True  ∧
 ((@Eq (List TV) [(.val (.string ⟨List.toArray (A)⟩))] [(.val (.string ⟨List.toArray (A)⟩))]) ∧
 (bif eqRes BinOp.eql (keyEq (Value.int IntKind.u32 b) (Value.int IntKind.u32 b))
 then True 
 else False ))))) := by kernel_rfl
set_option maxRecDepth 100000 in
theorem ev_pkN (G : Globs) (L : List (List TV)) (b : Int) : vcallF Tryd.prog G (specs [(5, trueW)]) (tell [(18, .dead)]) 300 noLp 0 pkF [.vec 2 L .none, .val (.int .u32 b)] ⟨[],[]⟩ isTrueV =
 (bif decide ((↑(List.length L) : Int) > (200 : Int))
 then True 
 else (OPure Tryd.prog (G) (.move (.tmp 0)) [(0, (.vec 2 (L) .none))] .dead ∧ False)) := by kernel_rfl
theorem hd_canon (a : Nat) (n : Int) : hd (hd a n) (cl n : Nat) = hd a n := by
  have e : hd (hd a n) (cl n : Nat) = hd (hd a n) n := by unfold hd; rw [cl_cl]
  rw [e, hd_hd]
theorem good_canon (a : Nat) (n : Int) : goodB (hd a n) (cl n : Nat) = true := by
  unfold goodB
  rw [hd_canon, cl_cl]
  simp
theorem pfxT_canon (a : Nat) (n : Int) : pfxT (hd a n) (cl n : Nat) = pfxT a n := by
  unfold pfxT
  rw [hd_canon, cl_cl]
theorem neP (a n : Int) : eqRes .neq (keyEq (.agg [.int .u32 a, .int .i64 n].toArray) (.agg [.int .u32 a, .int .i64 n].toArray)) = false := by simp [eqRes, keyEq, eqAll, cellEq]
theorem eqPB (a n h c : Int) : eqRes .eql (keyEq (.agg [.int .u32 a, .int .i64 n].toArray) (.agg [.int .u32 h, .int .i64 c].toArray)) = ((a == h) && (n == c)) := by
  simp only [eqRes, keyEq, eqAll, cellEq]
  cases (a == h) <;> cases (n == c) <;> rfl
set_option maxRecDepth 100000 in
theorem opure_pxG {G : Globs} {x i : Operand} {l : List (Nat × TV)} {L : List Px} {tok : Tok} {k : IntKind} {z : Int} {p : Px} (hx : evOf G l x = .vec 2 (L.map pxE) tok) (hz : evOf G l i = .val (.int k z)) (h0 : 0 ≤ z) (he : L[z.toNat]? = some p) :
    OPure Tryd.prog G (.indexAddr 33 x i) l (.elt (pxE p)) :=
  opure_index (inf := (Tryd.prog.info? 24).getD default) Tryd.underlying33 (by kernel_rfl) hx hz h0 (by rw [List.getElem?_map, he]; rfl)
theorem can_vcx (m : Int) (a : Nat) (ha : a < 4294967296) (n : Int) : VCx Tryd.prog (ptG m) 0 pyF [.agg [.val (.int .u32 (a : Int)), .val (.int .i64 n)]] ⟨[], []⟩ fun x T' => x = .agg [.val (.int .u32 (hd a n : Nat)), .val (.int .i64 (cl n : Nat))] ∧ T' = ⟨[], []⟩ :=
  VCx.ofAgg (us := [.agg #[.int .u32 a, .int .i64 n]]) (vs := [.int .u32 (hd a n : Nat), .int .i64 (cl n : Nat)]) rfl fun w => pcanon a ha n w
theorem tback_vcx (m : Int) (a : Nat) (ha : a < 4294967296) (n : Int) : VCx Tryd.prog (ptG m) 0 qtF [bsT (pfxT a n)] ⟨[], []⟩ fun x T' => x = .tup [.agg [.val (.int .u32 (hd a n : Nat)), .val (.int .i64 (cl n : Nat))], .val (.bool true)] ∧ T' = ⟨[], []⟩ := by
  have hl : (pfxT a n).length ≤ 1000 := by
    have h1 := addrT_len (hd a n)
    have h2 := d3_len (cl n)
    simp only [pfxT, List.length_append, List.length_cons, List.length_nil]
    omega
  have h := qt_vcx m (pfxT a n) hl
  rw [← pfxT_canon, pfxOf_text (by have := hd_le a n; omega) (good_canon a n)] at h
  rw [← pfxT_canon]
  exact h
theorem aback_vcx (m : Int) (a : Nat) (ha : a < 4294967296) : VCx Tryd.prog (ptG m) 0 qaF [bsT (addrT a)] ⟨[], []⟩ fun x T' => x = .tup [.val (.int .u32 (a : Int)), .val (.bool true)] ∧ T' = ⟨[], []⟩ := by
  have h := qa_vcx m (addrT a) (by have := addrT_len a; omega)
  rw [adrOf_text ha] at h
  exact h
theorem pkD_ok (m : Int) (a : Nat) (ha : a < 4294967296) (n : Int) : SpecsOk Tryd.prog (ptG m) (pkD a n (hd a n : Nat) (cl n : Nat) (pfxT a n) gdB PR) := specs_ok fun q hq => by
  simp only [List.mem_cons, List.not_mem_nil, or_false] at hq
  rcases hq with rfl | rfl | rfl | rfl
  · exact pureIfT (ptG_vals m) rfl (fun _ _ => rfl) (pt_vcx m a ha n)
  · exact pureIfT (ptG_vals m) rfl (fun _ _ => rfl) (tback_vcx m a ha n)
  · exact pureIfT (ptG_vals m) rfl (fun _ _ => rfl) (can_vcx m a ha n)
  · exact good_ok m (fun _ _ h => h) fun a ha n w _ => pgood a ha n w
set_option maxRecDepth 100000 in
theorem pk_loop (m : Int) (l : List Px) (hl : l.length ≤ 200) (hin : ∀ p ∈ l, pxIn p) (b : Int) : LsOk Tryd.prog (ptG m) (pkL (l.map pxE) ((l.map canP).map pxE) b (codeAt Tryd.prog pkF 0)) := specsL_ok fun p hp => by
  obtain rfl := List.mem_singleton.1 hp
  refine loopL_ok fun K hK => ?_
  let L := l.map pxE
  let M := (l.map canP).map pxE
  have hL : L.length = l.length := List.length_map _
  let Post : Exit → List TV → VT → Prop := fun e vs T => e = .normal ∧ vs = pkV L M b L.length ∧ T = ⟨[], []⟩
  refine loopK (f := pkF) (id := 0) (by kernel_rfl) 93 pkK (fun j => l.length - j) (fun j : Nat => pkV L M b j) (fun _ => ⟨[], []⟩) (fun j => j ≤ l.length) 0 0 (fun _ _ => ⟨Nat.le_refl _, Nat.le_refl _⟩)
    Post (fun j hj => ?_) 0 (Nat.zero_le _) K (fun e vs T ⟨h1, h2, h3⟩ => ?_)
  · by_cases hlt : j < l.length
    · have hd0 : l[j]? = some l[j] := List.getElem?_eq_getElem hlt
      have hp := hin _ (List.getElem_mem hlt)
      generalize l[j] = p at hd0 hp
      have hd1 : (l.map canP)[j]? = some (canP p) := by rw [List.getElem?_map, hd0]; rfl
      obtain ⟨z, n⟩ := p
      obtain ⟨p0, p1⟩ := hp
      simp only at p0 p1
      obtain ⟨a, rfl⟩ := Int.eq_ofNat_of_zero_le p0
      have ha : a < 4294967296 := by omega
      have hw := wrapN j (by omega)
      have hb := hd_le a n
      have o1 : ∀ {x i : Operand} {ll : List (Nat × TV)}, evOf (ptG m) ll x = .vec 2 (l.map pxE) .none → evOf (ptG m) ll i = .val (.int .i64 (j : Int)) → OPure Tryd.prog (ptG m) (.indexAddr 33 x i) ll (.elt [.val (.int .u32 (a : Int)), .val (.int .i64 n)]) := fun hx hi => opure_pxG (p := ((a : Int), n)) hx hi (Int.natCast_nonneg _) (by simpa using hd0)
      have o2 : ∀ {x i : Operand} {ll : List (Nat × TV)}, evOf (ptG m) ll x = .vec 2 ((l.map canP).map pxE) .none → evOf (ptG m) ll i = .val (.int .i64 (j : Int)) → OPure Tryd.prog (ptG m) (.indexAddr 33 x i) ll (.elt [.val (.int .u32 (hd a n : Nat)), .val (.int .i64 (cl n : Nat))]) := fun hx hi => opure_pxG (p := canP ((a : Int), n)) hx hi (Int.natCast_nonneg _) (by simpa using hd1)
      refine vx_is mixedT_Tryd bodiesT_Tryd (pkD_ok m a ha n) lsOk_none (ev_pkA (ptG m) L M b a n (hd a n : Nat) (cl n : Nat) (pfxT a n) gdB PR j _) ?_
      have pr1 : PR ((hd a n : Nat) : Int) ((cl n : Nat) : Int) := ⟨by omega, by omega⟩
      have pr2 : PR (a : Int) n := ⟨by omega, by omega⟩
      have g1 : (!gdB ((hd a n : Nat) : Int) ((cl n : Nat) : Int)) = false := by simp only [gdB, Int.toNat_natCast, good_canon, Bool.not_true]
      have g2 : eqRes BinOp.neq (keyEq (Value.bool (gdB (a : Int) n)) (Value.bool (eqRes BinOp.eql (keyEq (.agg [.int .u32 (a : Int), .int .i64 n].toArray) (.agg [.int .u32 ((hd a n : Nat) : Int), .int .i64 ((cl n : Nat) : Int)].toArray))))) = false := by
        rw [eqPB]
        simp only [gdB, Int.toNat_natCast, goodB, eqRes, keyEq, cellEq, beq_self_eq_true, Bool.not_true]
      refine condT (decide_eq_true (by rw [hL]; omega)) ⟨o1 rfl rfl, trivial, rfl, trivial, rfl, o2 rfl rfl, trivial, rfl, ⟨rfl, rfl, trivial⟩, condF (neP _ _) ⟨o2 rfl rfl, condF (neP _ _) ⟨pr1, condF g1 ⟨pr2, ⟨rfl, rfl, rfl, trivial⟩, condF g2 ?_⟩⟩⟩⟩
      refine ⟨rfl, rfl, j + 1, hlt, by simp only; omega, .inr ⟨rfl, ?_⟩⟩
      rw [hw]
      simp only [pkV, renL, TV.ren, Tok.ren, L, M, ren_pxE]
    · obtain rfl : j = l.length := by omega
      refine vx_is mixedT_Tryd bodiesT_Tryd (pkD_ok m 0 (by omega) 0) lsOk_none (ev_pkA (ptG m) L M b (0 : Nat) 0 (hd 0 0 : Nat) (cl 0 : Nat) (pfxT 0 0) gdB PR l.length _) ?_
      refine condF (decide_eq_false (by rw [hL]; omega)) ⟨rfl, rfl, rfl, ?_, rfl⟩
      show pkV L M b l.length = pkV L M b L.length
      rw [hL]
  · subst h1 h2 h3
    exact hK
theorem pk_law (m : Int) (l : List Px) (hin : ∀ p ∈ l, pxIn p) (b : Nat) (hb : b < 4294967296) : VCx Tryd.prog (ptG m) 0 pkF [.vec 2 (l.map pxE) .none, .val (.int .u32 (b : Int))] ⟨[], []⟩ isTrueV := by
  have hr : renL (nameIn []) (nameIn []) [.vec 2 (l.map pxE) .none] = [.vec 2 (l.map pxE) .none] := by simp only [renL, TV.ren, ren_pxE, Tok.ren]
  by_cases hne : l = []
  · subst hne
    have hC : SpecsOk Tryd.prog (ptG m) (pkC0 (addrT b) b) := specs_ok fun q hq => by
      simp only [List.mem_cons, List.not_mem_nil, or_false] at hq
      rcases hq with rfl | rfl | rfl
      · exact pureIfT (ptG_vals m) rfl (fun _ _ => rfl) (pa_vcx m b hb)
      · exact pureIfT (ptG_vals m) rfl (fun _ _ => rfl) (aback_vcx m b hb)
      · exact trueW_ok (ptG_vals m) (lives_tx m)
    exact vcallF_is mixedT_Tryd bodiesT_Tryd hC lsOk_none (ev_pk0 (ptG m) (addrT b) b) ⟨trivial, rfl, trivial, rfl, condT (by rw [eqI]) trivial⟩
  · have hC : SpecsOk Tryd.prog (ptG m) (pkC (l.length ≤ 200) (l.map pxE) ((l.map canP).map pxE) (bE (allB l)) (addrT b) b) := specs_ok fun q hq => by
      simp only [List.mem_cons, List.not_mem_nil, or_false] at hq
      rcases hq with rfl | rfl | rfl | rfl | rfl
      · exact pureIf_ok (ptG_vals m) hr (fun f h => by simp only [TV.ren, ren_bE, Tok.ren]) fun h => (ba_vcx l h hin).anyG
      · exact pureIf_ok (ptG_vals m) (by simp only [renL, TV.ren, ren_bE, Tok.ren]) (fun f h => by simp only [TV.ren, renL, ren_pxE, Tok.ren]) fun h => pp_vcx l h hin hne
      · exact pureIfT (ptG_vals m) rfl (fun _ _ => rfl) (pa_vcx m b hb)
      · exact pureIfT (ptG_vals m) rfl (fun _ _ => rfl) (aback_vcx m b hb)
      · exact trueW_ok (ptG_vals m) (lives_tx m)
    by_cases hl : l.length ≤ 200
    · refine vcallF_is mixedT_Tryd bodiesT_Tryd hC (pk_loop m l hl hin b) (ev_pk (ptG m) (l.length ≤ 200) (l.map pxE) ((l.map canP).map pxE) (bE (allB l)) (addrT b) b) ?_
      refine cond_of (fun _ => trivial) fun _ => ⟨hl, rfl, hl, rfl, condF (by rw [neIF]; simp) ⟨rfl, ⟨rfl, rfl, rfl, trivial, rfl, rfl, rfl⟩, trivial, rfl, trivial, rfl, condT (by rw [eqI]) trivial⟩⟩
    · have hC0 : SpecsOk Tryd.prog (ptG m) (specs [(5, trueW)]) := specs_ok fun q hq => by
        obtain rfl := List.mem_singleton.1 hq
        exact trueW_ok (ptG_vals m) (lives_tx m)
      refine vcallF_is mixedT_Tryd bodiesT_Tryd hC0 lsOk_none (ev_pkN (ptG m) (l.map pxE) b) (condT (decide_eq_true ?_) trivial)
      rw [List.length_map]; omega
end Go.Proofs.YtkjpbadlbpfpaaaDoor
