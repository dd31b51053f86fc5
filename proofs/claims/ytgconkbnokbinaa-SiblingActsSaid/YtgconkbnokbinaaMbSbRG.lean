/- Siblings: what the kernel leaves of alike and of SiblingActs. -/
import Derived.Test.YtgconkbnokbinaaMbSbRC
namespace Go.Proofs.Ytgconkbnokbinaa
open Go.RowKit

abbrev laA := 4
abbrev lkF := 13
def mKW (L : List (List TV)) (ys0 : List TV) (x : TV) : Spec := fun ro ys T K => (ro = 0 ∧ ys = ys0 ∧ T.objs[3]? = some (mO L)) ∧ K x T
def saW (A : List (List TV)) : Spec := fun _ ys T K => ys.map looseTV = [.vec 3 A .none, .vec 3 A .none] ∧ K (.val (.bool true)) T
def xT (lk lk2 : Value → Option TV) (es es2 : List (Value × TV × Nat)) (ck ck2 : Nat) (L : List (List TV)) (l : List VO) (tl : List (Nat × Nat × Bool)) : VT := ⟨.cells [.map 1, .map 2] :: .map kI lk es ck :: .map kI lk2 es2 ck2 :: mO L :: l, tl⟩
def lkK : List Nat := [0, 1, 2, 3, 9, 10, 11, 12, 13, 29, 30, 31]
def lkV (id n : Int) (b : Bool) (B A : List (List TV)) (j : Int) : List TV := [.ptr 0 0, .ptr 3 0, .val (.int .i64 id), .val (.int .i64 n), .ptr 4 0, .val (.bool b), .ptr 5 0, .val (.bool b), .vec 3 B (.tail 0 B.length), .vec 3 A .none, .val (.int .i64 A.length), .val (.int .i64 j)]
def lkL (lk lk2 : Value → Option TV) (es es2 : List (Value × TV × Nat)) (ck ck2 : Nat) (L A : List (List TV)) (id n i a c : Int) (b : Bool) (c0 : Code) : Nat → Option (LSpec × Code) := specsL [(0, loopL 81 lkK [(13, 3)] (lkV id n b [] A 0) (xT lk lk2 es es2 ck ck2 L [.cells (siC i a c), .cells (siC i a c)] [(0, 3, true)]) fun K => K .normal (slotsN 81 lkK (lkV id n b A A A.length)) (xT lk lk2 es es2 ck ck2 L [.cells (siC i a c), .cells (siC i a c)] [(A.length, 3, true)]) [], c0)]
def tabX (d : Nat) (Tb : Tb6) (L : List (List TV)) (T : VT) : Prop := match T.objs.drop d with
  | .map _ lk es ck :: .map _ lk2 es2 ck2 :: _ => (T.objs.drop d).take 4 = [.map kI lk es ck, .map kI lk2 es2 ck2, .cells [.map d, .map (d + 1)], mO L] ∧ Tb lk lk2 es es2 ck ck2
  | _ => vbad 72 default []
def lkW (d : Nat) (Tb : Tb6) (L : List (List TV)) (ys0 : List TV) : Spec := fun ro ys T K => (ro = 0 ∧ ys = ys0 ∧ tabX d Tb L T) ∧ K (.val (.bool true)) T
def lkW2 (id1 n : Int) (Tb1 Tb2 : Tb6) (L1 L2 : List (List TV)) : Spec := fun ro ys T K => match ys with
  | [.ptr 2 0, .ptr 3 0, id, now] => (ro = 0 ∧ [id, now] = [.val (.int .i64 id1), .val (.int .i64 n)] ∧ tabX 0 Tb1 L1 T) ∧ K (.val (.bool true)) T
  | [.ptr 6 0, .ptr 7 0, id, now] => (ro = 0 ∧ [id, now] = [.val (.int .i64 id1), .val (.int .i64 n)] ∧ tabX 4 Tb2 L2 T) ∧ K (.val (.bool true)) T
  | _ => vbad 73 default ys
def acX (T0 : VT) (ys0 : List TV) (Tb : Tb6) (mk : (Value → Option TV) → (Value → Option TV) → List (Value × TV × Nat) → List (Value × TV × Nat) → Nat → Nat → VT) : Spec := fun ro ys T K => (ro = 0 ∧ ys = ys0 ∧ T = T0) ∧ ∀ ka kb ea eb ca cb, Tb ka kb ea eb ca cb → K (.val (.bool true)) (mk ka kb ea eb ca cb)
def coW (Tb : Tb6) (L : List (List TV)) : Spec := fun ro ys T K => match T.objs with
  | [.map _ lk es ck, .map _ lk2 es2 ck2, c, m] => (ro = 0 ∧ ys = [.ptr 2 0] ∧ T = lT lk lk2 es es2 ck ck2 [mO L] ∧ Tb lk lk2 es es2 ck ck2) ∧ K (.ptr 6 0) ⟨T.objs ++ [.map kI lk es ck, .map kI lk2 es2 ck2, .cells [.map 4, .map 5]], T.tails⟩
  | _ => vbad 74 default ys
def rCoW (L : List (List TV)) : Spec := fun ro ys T K => (ro = 0 ∧ ys = [.ptr 3 0] ∧ T.objs[3]? = some (mO L) ∧ T.objs.length = 7) ∧ K (.ptr 7 0) ⟨T.objs ++ [mO L], T.tails⟩
def a0K : List Nat := [1, 2, 7, 8, 27, 28, 29]
def a0V (M : List (List TV)) (n : Int) (L : List (List TV)) (j : Int) : List TV := [.vec 6 M .none, .val (.int .i64 n), .ptr 2 0, .ptr 3 0, .vec 6 L .none, .val (.int .i64 L.length), .val (.int .i64 j)]
def a2K : List Nat := [2, 7, 8, 11, 12, 53, 54, 55]
def a2V (n : Int) (M : List (List TV)) (j : Int) : List TV := [.val (.int .i64 n), .ptr 2 0, .ptr 3 0, .ptr 6 0, .ptr 7 0, .vec 6 M .none, .val (.int .i64 M.length), .val (.int .i64 j)]
def a0L (Tb : Tb6) (L1 : List (List TV)) (n : Int) (L M : List (List TV)) : LSpec := loopL 78 a0K [] (a0V M n L 0) (lT (fun _ => none) (fun _ => none) [] [] 0 0 [.cells [.val (.slice none 0 0)]]) fun K => ∀ ka kb ea eb ca cb, Tb ka kb ea eb ca cb → K .normal (slotsN 78 a0K (a0V M n L L.length)) (lT ka kb ea eb ca cb [mO L1]) []
def a2L (Tb Tb2 : Tb6) (L1 L2 : List (List TV)) (n : Int) (M : List (List TV)) : LSpec := fun rd ro σ T D K => (rd = none ∧ ro = 0 ∧ D = [] ∧ Nat.beq σ.length 78 = true ∧ pick a2K σ = a2V n M 0 ∧ tabX 0 Tb L1 T ∧ tabX 4 Tb L1 T ∧ T.objs.length = 8 ∧ T.tails = []) ∧ ∀ pa pb qa qb ra rb, Tb2 pa pb qa qb ra rb → K .normal (slotsN 78 a2K (a2V n M M.length)) ⟨T.objs.take 4 ++ [.map kI pa qa ra, .map kI pb qb rb, .cells [.map 4, .map 5], mO L2], []⟩ []
def actL (Tb Tb2 : Tb6) (L1 L2 : List (List TV)) (n : Int) (L M : List (List TV)) (c0 c2 : Code) : Nat → Option (LSpec × Code) := specsL [(0, a0L Tb L1 n L M, c0), (2, a2L Tb Tb2 L1 L2 n M, c2)]
def l8T (lk lk2 : Value → Option TV) (es es2 : List (Value × TV × Nat)) (ck ck2 : Nat) (L : List (List TV)) (ka kb : Value → Option TV) (ea eb : List (Value × TV × Nat)) (ca cb : Nat) (L2 : List (List TV)) (l : List VO) : VT := lT lk lk2 es es2 ck ck2 (mO L :: .map kI ka ea ca :: .map kI kb eb cb :: .cells [.map 4, .map 5] :: mO L2 :: l)
set_option maxRecDepth 100000 in
theorem ev_lk (lk lk2 : Value → Option TV) (es es2 : List (Value × TV × Nat)) (ck ck2 : Nat) (L A : List (List TV)) (id n i a c u : Int) (cap capm : Int) (b : Bool) (Q : TV → VT → Prop) : vcallF Try.prog noGl (specs [(beF, tabW (sT lk lk2 es es2 ck ck2).objs [.ptr 0 0, .val (.int .i64 n)] (.tup [.agg (siC i a c), .val (.bool b)])), (rBeF, mKW L [.ptr 3 0, .val (.int .i64 n)] (.tup [.agg (siC i a c), .val (.bool b)])), (alF, tabW (sT lk lk2 es es2 ck ck2).objs [.ptr 0 0] (.vec 3 A .none)), (soF, tabW (sT lk lk2 es es2 ck ck2).objs [.ptr 0 0, .val (.int .i64 n)] (.val (.bool b))), (cpF, tabW (sT lk lk2 es es2 ck ck2).objs [.ptr 0 0, .val (.int .i64 id), .val (.int .i64 n)] (.val (.int .i64 cap))), (rCpF, mKW L [.ptr 3 0, .val (.int .i64 id), .val (.int .i64 n)] (.val (.int .i64 cap))), (unF, tabW (sT lk lk2 es es2 ck ck2).objs [.ptr 0 0, .val (.int .i64 n)] (.val (.int .i64 u))), (rUnF, mKW L [.ptr 3 0, .val (.int .i64 n)] (.val (.int .i64 u))), (rAlF, mKW L [.ptr 3 0] (.vec 3 A .none)), (rSaF, saW A)]) (tellS [(999998, .dead, none)]) 300 (lkL lk lk2 es es2 ck ck2 L A id n i a c b (codeAt Try.prog lkF 0)) 0 lkF [.ptr 0 0, .ptr 3 0, .val (.int .i64 id), .val (.int .i64 n)] (xT lk lk2 es es2 ck ck2 L [] []) Q =
 (((@Eq (Nat) 0 0) ∧
 ((@Eq (List TV) [(.ptr 0 0), (.val (.int .i64 (n)))] [(.ptr 0 0), (.val (.int .i64 (n)))]) ∧
 (@Eq (List VO) [(.cells [(.map 1), (.map 2)]), (.map ⟨false, [(.int .i64)]⟩ (lk) (es) (ck)), (.map ⟨false, [(.int .i64)]⟩ (lk2) (es2) (ck2))] [(.cells [(.map 1), (.map 2)]), (.map ⟨false, [(.int .i64)]⟩ (lk) (es) (ck)), (.map ⟨false, [(.int .i64)]⟩ (lk2) (es2) (ck2))]))) ∧
 (((@Eq (Nat) 0 0) ∧
 ((@Eq (List TV) [(.ptr 3 0), (.val (.int .i64 (n)))] [(.ptr 3 0), (.val (.int .i64 (n)))]) ∧
 (@Eq (Option VO) (.some (.cells [(.vec 5 (L) .none)])) (.some (.cells [(.vec 5 (L) .none)]))))) ∧
 (((@Eq (Nat) 0 0) ∧
 ((@Eq (List TV) [(.ptr 0 0)] [(.ptr 0 0)]) ∧
 (@Eq (List VO) [(.cells [(.map 1), (.map 2)]), (.map ⟨false, [(.int .i64)]⟩ (lk) (es) (ck)), (.map ⟨false, [(.int .i64)]⟩ (lk2) (es2) (ck2))] [(.cells [(.map 1), (.map 2)]), (.map ⟨false, [(.int .i64)]⟩ (lk) (es) (ck)), (.map ⟨false, [(.int .i64)]⟩ (lk2) (es2) (ck2))]))) ∧
 ((codeAt Try.prog lkF (0 : Nat) = codeAt Try.prog lkF (0 : Nat)) ∧
 (((@Eq (Option Nat) .none .none) ∧
 ((@Eq (Nat) 0 0) ∧
 ((@Eq (List Nat) [] []) ∧
 (((@Eq (Option TV) (.some (.val (.slice .none 0 0))) (.some (.val (.slice .none 0 0)))) ∧
 True ) ∧
 ((@Eq (VT) ⟨[(.cells [(.map 1), (.map 2)]), (.map ⟨false, [(.int .i64)]⟩ (lk) (es) (ck)), (.map ⟨false, [(.int .i64)]⟩ (lk2) (es2) (ck2)), (.cells [(.vec 5 (L) .none)]), (.cells [(.val (.int .i64 (i))), (.val (.int .u32 (a))), (.val (.int .i64 (c)))]), (.cells [(.val (.int .i64 (i))), (.val (.int .u32 (a))), (.val (.int .i64 (c)))])], [(0, (3, true))]⟩ ⟨[(.cells [(.map 1), (.map 2)]), (.map ⟨false, [(.int .i64)]⟩ (lk) (es) (ck)), (.map ⟨false, [(.int .i64)]⟩ (lk2) (es2) (ck2)), (.cells [(.vec 5 (L) .none)]), (.cells [(.val (.int .i64 (i))), (.val (.int .u32 (a))), (.val (.int .i64 (c)))]), (.cells [(.val (.int .i64 (i))), (.val (.int .u32 (a))), (.val (.int .i64 (c)))])], [(0, (3, true))]⟩) ∧
 ((@Eq (Bool) true true) ∧
 (@Eq (List TV) [(.ptr 0 0), (.ptr 3 0), (.val (.int .i64 (id))), (.val (.int .i64 (n))), (.ptr 4 0), (.val (.bool (b))), (.ptr 5 0), (.val (.bool (b))), (.vec 3 [] (.tail 0 0)), (.vec 3 (A) .none), (.val (.int .i64 ((↑(List.length A) : Int)))), (.val (.int .i64 0))] [(.ptr 0 0), (.ptr 3 0), (.val (.int .i64 (id))), (.val (.int .i64 (n))), (.ptr 4 0), (.val (.bool (b))), (.ptr 5 0), (.val (.bool (b))), (.vec 3 [] (.tail 0 0)), (.vec 3 (A) .none), (.val (.int .i64 ((↑(List.length A) : Int)))), (.val (.int .i64 0))]))))))) ∧
 (bif eqRes BinOp.eql (keyEq ((fun vs => Value.agg (List.toArray vs)) ((fun x => Value.int IntKind.i64 i :: x) ((fun x => Value.int IntKind.u32 a :: x) ((fun x => Value.int IntKind.i64 c :: x) [])))) ((fun vs => Value.agg (List.toArray vs)) ((fun x => Value.int IntKind.i64 i :: x) ((fun x => Value.int IntKind.u32 a :: x) ((fun x => Value.int IntKind.i64 c :: x) [])))))
 then (bif eqRes BinOp.eql (keyEq (Value.bool b) (Value.bool b))
 then (((@Eq (Nat) 0 0) ∧
 ((@Eq (List TV) [(.ptr 0 0), (.val (.int .i64 (n)))] [(.ptr 0 0), (.val (.int .i64 (n)))]) ∧
 (@Eq (List VO) [(.cells [(.map 1), (.map 2)]), (.map ⟨false, [(.int .i64)]⟩ (lk) (es) (ck)), (.map ⟨false, [(.int .i64)]⟩ (lk2) (es2) (ck2))] [(.cells [(.map 1), (.map 2)]), (.map ⟨false, [(.int .i64)]⟩ (lk) (es) (ck)), (.map ⟨false, [(.int .i64)]⟩ (lk2) (es2) (ck2))]))) ∧
 (bif eqRes BinOp.eql (keyEq (Value.bool b) (Value.bool b))
 then (((@Eq (Nat) 0 0) ∧
 ((@Eq (List TV) [(.ptr 0 0), (.val (.int .i64 (id))), (.val (.int .i64 (n)))] [(.ptr 0 0), (.val (.int .i64 (id))), (.val (.int .i64 (n)))]) ∧
 (@Eq (List VO) [(.cells [(.map 1), (.map 2)]), (.map ⟨false, [(.int .i64)]⟩ (lk) (es) (ck)), (.map ⟨false, [(.int .i64)]⟩ (lk2) (es2) (ck2))] [(.cells [(.map 1), (.map 2)]), (.map ⟨false, [(.int .i64)]⟩ (lk) (es) (ck)), (.map ⟨false, [(.int .i64)]⟩ (lk2) (es2) (ck2))]))) ∧
 (((@Eq (Nat) 0 0) ∧
 ((@Eq (List TV) [(.ptr 3 0), (.val (.int .i64 (id))), (.val (.int .i64 (n)))] [(.ptr 3 0), (.val (.int .i64 (id))), (.val (.int .i64 (n)))]) ∧
 (@Eq (Option VO) (.some (.cells [(.vec 5 (L) .none)])) (.some (.cells [(.vec 5 (L) .none)]))))) ∧
 (bif eqRes BinOp.eql (keyEq (Value.int IntKind.i64 cap) (Value.int IntKind.i64 cap))
 then (((@Eq (Nat) 0 0) ∧
 ((@Eq (List TV) [(.ptr 0 0), (.val (.int .i64 (n)))] [(.ptr 0 0), (.val (.int .i64 (n)))]) ∧
 (@Eq (List VO) [(.cells [(.map 1), (.map 2)]), (.map ⟨false, [(.int .i64)]⟩ (lk) (es) (ck)), (.map ⟨false, [(.int .i64)]⟩ (lk2) (es2) (ck2))] [(.cells [(.map 1), (.map 2)]), (.map ⟨false, [(.int .i64)]⟩ (lk) (es) (ck)), (.map ⟨false, [(.int .i64)]⟩ (lk2) (es2) (ck2))]))) ∧
 (((@Eq (Nat) 0 0) ∧
 ((@Eq (List TV) [(.ptr 3 0), (.val (.int .i64 (n)))] [(.ptr 3 0), (.val (.int .i64 (n)))]) ∧
 (@Eq (Option VO) (.some (.cells [(.vec 5 (L) .none)])) (.some (.cells [(.vec 5 (L) .none)]))))) ∧
 (bif eqRes BinOp.eql (keyEq (Value.int IntKind.i64 u) (Value.int IntKind.i64 u))
 then (((@Eq (Nat) 0 0) ∧
 ((@Eq (List TV) [(.ptr 3 0)] [(.ptr 3 0)]) ∧
 (@Eq (Option VO) (.some (.cells [(.vec 5 (L) .none)])) (.some (.cells [(.vec 5 (L) .none)]))))) ∧
 ((@Eq (List TV) [(.vec 3 (A) .none), (.vec 3 (A) .none)] [(.vec 3 (A) .none), (.vec 3 (A) .none)]) ∧
 Q (.val (.bool true)) ⟨[(.cells [(.map 1), (.map 2)]), (.map ⟨false, [(.int .i64)]⟩ (lk) (es) (ck)), (.map ⟨false, [(.int .i64)]⟩ (lk2) (es2) (ck2)), (.cells [(.vec 5 (L) .none)]), (.cells [(.val (.int .i64 (i))), (.val (.int .u32 (a))), (.val (.int .i64 (c)))]), (.cells [(.val (.int .i64 (i))), (.val (.int .u32 (a))), (.val (.int .i64 (c)))])], [((List.length A), (3, true))]⟩))
 else Q (.val (.bool false)) ⟨[(.cells [(.map 1), (.map 2)]), (.map ⟨false, [(.int .i64)]⟩ (lk) (es) (ck)), (.map ⟨false, [(.int .i64)]⟩ (lk2) (es2) (ck2)), (.cells [(.vec 5 (L) .none)]), (.cells [(.val (.int .i64 (i))), (.val (.int .u32 (a))), (.val (.int .i64 (c)))]), (.cells [(.val (.int .i64 (i))), (.val (.int .u32 (a))), (.val (.int .i64 (c)))])], [((List.length A), (3, true))]⟩)))
 else Q (.val (.bool false)) ⟨[(.cells [(.map 1), (.map 2)]), (.map ⟨false, [(.int .i64)]⟩ (lk) (es) (ck)), (.map ⟨false, [(.int .i64)]⟩ (lk2) (es2) (ck2)), (.cells [(.vec 5 (L) .none)]), (.cells [(.val (.int .i64 (i))), (.val (.int .u32 (a))), (.val (.int .i64 (c)))]), (.cells [(.val (.int .i64 (i))), (.val (.int .u32 (a))), (.val (.int .i64 (c)))])], [((List.length A), (3, true))]⟩)))
 else Q (.val (.bool false)) ⟨[(.cells [(.map 1), (.map 2)]), (.map ⟨false, [(.int .i64)]⟩ (lk) (es) (ck)), (.map ⟨false, [(.int .i64)]⟩ (lk2) (es2) (ck2)), (.cells [(.vec 5 (L) .none)]), (.cells [(.val (.int .i64 (i))), (.val (.int .u32 (a))), (.val (.int .i64 (c)))]), (.cells [(.val (.int .i64 (i))), (.val (.int .u32 (a))), (.val (.int .i64 (c)))])], [((List.length A), (3, true))]⟩))
 else Q (.val (.bool false)) ⟨[(.cells [(.map 1), (.map 2)]), (.map ⟨false, [(.int .i64)]⟩ (lk) (es) (ck)), (.map ⟨false, [(.int .i64)]⟩ (lk2) (es2) (ck2)), (.cells [(.vec 5 (L) .none)]), (.cells [(.val (.int .i64 (i))), (.val (.int .u32 (a))), (.val (.int .i64 (c)))]), (.cells [(.val (.int .i64 (i))), (.val (.int .u32 (a))), (.val (.int .i64 (c)))])], [((List.length A), (3, true))]⟩)
 else Q (.val (.bool false)) ⟨[(.cells [(.map 1), (.map 2)]), (.map ⟨false, [(.int .i64)]⟩ (lk) (es) (ck)), (.map ⟨false, [(.int .i64)]⟩ (lk2) (es2) (ck2)), (.cells [(.vec 5 (L) .none)]), (.cells [(.val (.int .i64 (i))), (.val (.int .u32 (a))), (.val (.int .i64 (c)))]), (.cells [(.val (.int .i64 (i))), (.val (.int .u32 (a))), (.val (.int .i64 (c)))])], [((List.length A), (3, true))]⟩)))))) := by kernel_rfl
set_option maxRecDepth 100000 in
theorem ev_lkA (lk lk2 : Value → Option TV) (es es2 : List (Value × TV × Nat)) (ck ck2 : Nat) (L A B : List (List TV)) (id n i a c i' a' c' : Int) (b : Bool) (j : Nat) (Q : Exit → List TV → VT → List Nat → Nat → Prop) : vx Try.prog noGl noSp (tellS [(999998, .dead, none), (33, .elt (siC i' a' c'), none), (38, .vec 3 (B ++ [siC i' a' c']) (.tail 0 (B.length + 1)), some fun T => { T with tails := [(B.length + 1, 3, true)] })]) 300 noLp none 0 (loopAt Try.prog lkF 0) (slotsN 81 lkK (lkV id n b B A j)) (xT lk lk2 es es2 ck ck2 L [.cells (siC i a c), .cells (siC i a c)] [(B.length, 3, true)]) [] (pickS lkK Q) =
 (bif decide ((↑j : Int) < (↑(List.length A) : Int))
 then (OPure Try.prog (fun _ => .none) (.indexAddr 38 (.tmp 29) (.tmp 31)) [(29, (.vec 3 (A) .none)), (31, (.val (.int .i64 ((↑j : Int)))))] (.elt [(.val (.int .i64 (i'))), (.val (.int .u32 (a'))), (.val (.int .i64 (c')))]) ∧
 (OTurn Try.prog (fun _ => .none) 0 ⟨[(.cells [(.map 1), (.map 2)]), (.map ⟨false, [(.int .i64)]⟩ (lk) (es) (ck)), (.map ⟨false, [(.int .i64)]⟩ (lk2) (es2) (ck2)), (.cells [(.vec 5 (L) .none)]), (.cells [(.val (.int .i64 (i))), (.val (.int .u32 (a))), (.val (.int .i64 (c)))]), (.cells [(.val (.int .i64 (i))), (.val (.int .u32 (a))), (.val (.int .i64 (c)))]), (.cells [(.val (.int .i64 (i'))), (.val (.int .u32 (a'))), (.val (.int .i64 (c')))])], [((List.length B), (3, true))]⟩ (.call ⟨(.builtin .append), #[(.tmp 35), (.tmp 37)], #[68, 68]⟩) [(35, (.vec 3 (B) (.tail 0 (List.length B)))), (37, (.vec 3 [[(.val (.int .i64 (i'))), (.val (.int .u32 (a'))), (.val (.int .i64 (c')))]] .full))] (.vec 3 (B ++ [siC i' a' c']) (.tail 0 (List.length B + (1 : Nat)))) ⟨[(.cells [(.map 1), (.map 2)]), (.map ⟨false, [(.int .i64)]⟩ (lk) (es) (ck)), (.map ⟨false, [(.int .i64)]⟩ (lk2) (es2) (ck2)), (.cells [(.vec 5 (L) .none)]), (.cells [(.val (.int .i64 (i))), (.val (.int .u32 (a))), (.val (.int .i64 (c)))]), (.cells [(.val (.int .i64 (i))), (.val (.int .u32 (a))), (.val (.int .i64 (c)))]), (.cells [(.val (.int .i64 (i'))), (.val (.int .u32 (a'))), (.val (.int .i64 (c')))])], [((List.length B + (1 : Nat)), (3, true))]⟩ ∧
 Q .normal [(.ptr 0 0), (.ptr 3 0), (.val (.int .i64 (id))), (.val (.int .i64 (n))), (.ptr 4 0), (.val (.bool (b))), (.ptr 5 0), (.val (.bool (b))), (.vec 3 (B ++ [siC i' a' c']) (.tail 0 (List.length B + (1 : Nat)))), (.vec 3 (A) .none), (.val (.int .i64 ((↑(List.length A) : Int)))), (.val (.int .i64 (IntKind.wrap IntKind.i64 ((↑j : Int) + (1 : Int)))))] ⟨[(.cells [(.map 1), (.map 2)]), (.map ⟨false, [(.int .i64)]⟩ (lk) (es) (ck)), (.map ⟨false, [(.int .i64)]⟩ (lk2) (es2) (ck2)), (.cells [(.vec 5 (L) .none)]), (.cells [(.val (.int .i64 (i))), (.val (.int .u32 (a))), (.val (.int .i64 (c)))]), (.cells [(.val (.int .i64 (i))), (.val (.int .u32 (a))), (.val (.int .i64 (c)))]), (.cells [(.val (.int .i64 (i'))), (.val (.int .u32 (a'))), (.val (.int .i64 (c')))])], [((List.length B + (1 : Nat)), (3, true))]⟩ [] 81))
 else Q (.exit 0) [(.ptr 0 0), (.ptr 3 0), (.val (.int .i64 (id))), (.val (.int .i64 (n))), (.ptr 4 0), (.val (.bool (b))), (.ptr 5 0), (.val (.bool (b))), (.vec 3 (B) (.tail 0 (List.length B))), (.vec 3 (A) .none), (.val (.int .i64 ((↑(List.length A) : Int)))), (.val (.int .i64 ((↑j : Int))))] ⟨[(.cells [(.map 1), (.map 2)]), (.map ⟨false, [(.int .i64)]⟩ (lk) (es) (ck)), (.map ⟨false, [(.int .i64)]⟩ (lk2) (es2) (ck2)), (.cells [(.vec 5 (L) .none)]), (.cells [(.val (.int .i64 (i))), (.val (.int .u32 (a))), (.val (.int .i64 (c)))]), (.cells [(.val (.int .i64 (i))), (.val (.int .u32 (a))), (.val (.int .i64 (c)))])], [((List.length B), (3, true))]⟩ [] 81) := by kernel_rfl
set_option maxRecDepth 100000 in
theorem ev_aa (Tb Tb2 : Tb6) (L1 L2 L M : List (List TV)) (n : Int) (Q : TV → VT → Prop) : vcallF Try.prog noGl (specs [(neF, neW), (coF, coW Tb L1), (rCoF, rCoW L1), (lkF, lkW2 1 n Tb Tb2 L1 L2), (lvF, trueW)]) (tellS [(999998, .dead, none)]) 300 (actL Tb Tb2 L1 L2 n L M (codeAt Try.prog laA 0) (codeAt Try.prog laA 2)) 0 laA [.vec 6 L .none, .vec 6 M .none, .val (.int .i64 n)] ⟨[], []⟩ Q =
 (bif decide ((↑(List.length L) : Int) > (100 : Int))
 then Q (.val (.bool true)) ⟨[], []⟩
 else (bif decide ((↑(List.length M) : Int) > (100 : Int))
 then Q (.val (.bool true)) ⟨[], []⟩
 else (((@Eq (Nat) 0 0) ∧
 ((@Eq (List TV) [] []) ∧
 (@Eq (VT) ⟨[], []⟩ ⟨[], []⟩))) ∧
 ((codeAt Try.prog laA (0 : Nat) = codeAt Try.prog laA (0 : Nat)) ∧
 (((@Eq (Option Nat) .none .none) ∧
 ((@Eq (Nat) 0 0) ∧
 ((@Eq (List Nat) [] []) ∧
 (True  ∧
 ((@Eq (VT) ⟨[(.map ⟨false, [(.int .i64)]⟩ (fun _ => .none) [] 0), (.map ⟨false, [(.int .i64)]⟩ (fun _ => .none) [] 0), (.cells [(.map 0), (.map 1)]), (.cells [(.val (.slice .none 0 0))])], []⟩ ⟨[(.map ⟨false, [(.int .i64)]⟩ (fun _ => .none) [] 0), (.map ⟨false, [(.int .i64)]⟩ (fun _ => .none) [] 0), (.cells [(.map 0), (.map 1)]), (.cells [(.val (.slice .none 0 0))])], []⟩) ∧
 ((@Eq (Bool) true true) ∧
 (@Eq (List TV) [(.vec 6 (M) .none), (.val (.int .i64 (n))), (.ptr 2 0), (.ptr 3 0), (.vec 6 (L) .none), (.val (.int .i64 ((↑(List.length L) : Int)))), (.val (.int .i64 0))] [(.vec 6 (M) .none), (.val (.int .i64 (n))), (.ptr 2 0), (.ptr 3 0), (.vec 6 (L) .none), (.val (.int .i64 ((↑(List.length L) : Int)))), (.val (.int .i64 0))]))))))) ∧
 (∀ ka : Value → Option TV, (∀ kb : Value → Option TV, (∀ ea : List (Value × TV × Nat), (∀ eb : List (Value × TV × Nat), (∀ ca : Nat, (∀ cb : Nat, (Tb (ka) (kb) (ea) (eb) (ca) (cb) → (((@Eq (Nat) 0 0) ∧
 ((@Eq (List TV) [(.ptr 2 0)] [(.ptr 2 0)]) ∧
 ((@Eq (VT) ⟨[(.map ⟨false, [(.int .i64)]⟩ (ka) (ea) (ca)), (.map ⟨false, [(.int .i64)]⟩ (kb) (eb) (cb)), (.cells [(.map 0), (.map 1)]), (.cells [(.vec 5 (L1) .none)])], []⟩ ⟨[(.map ⟨false, [(.int .i64)]⟩ (ka) (ea) (ca)), (.map ⟨false, [(.int .i64)]⟩ (kb) (eb) (cb)), (.cells [(.map 0), (.map 1)]), (.cells [(.vec 5 (L1) .none)])], []⟩) ∧
 Tb (ka) (kb) (ea) (eb) (ca) (cb)))) ∧
 (((@Eq (Nat) 0 0) ∧
 ((@Eq (List TV) [(.ptr 3 0)] [(.ptr 3 0)]) ∧
 ((@Eq (Option VO) (.some (.cells [(.vec 5 (L1) .none)])) (.some (.cells [(.vec 5 (L1) .none)]))) ∧
 (@Eq (Nat) 7 7)))) ∧
 ((codeAt Try.prog laA (2 : Nat) = codeAt Try.prog laA (2 : Nat)) ∧
 (((@Eq (Option Nat) .none .none) ∧
 ((@Eq (Nat) 0 0) ∧
 ((@Eq (List Nat) [] []) ∧
 ((@Eq (Bool) true true) ∧
 ((@Eq (List TV) [(.val (.int .i64 (n))), (.ptr 2 0), (.ptr 3 0), (.ptr 6 0), (.ptr 7 0), (.vec 6 (M) .none), (.val (.int .i64 ((↑(List.length M) : Int)))), (.val (.int .i64 0))] [(.val (.int .i64 (n))), (.ptr 2 0), (.ptr 3 0), (.ptr 6 0), (.ptr 7 0), (.vec 6 (M) .none), (.val (.int .i64 ((↑(List.length M) : Int)))), (.val (.int .i64 0))]) ∧
 (((@Eq (List VO) [(.map ⟨false, [(.int .i64)]⟩ (ka) (ea) (ca)), (.map ⟨false, [(.int .i64)]⟩ (kb) (eb) (cb)), (.cells [(.map 0), (.map 1)]), (.cells [(.vec 5 (L1) .none)])] [(.map ⟨false, [(.int .i64)]⟩ (ka) (ea) (ca)), (.map ⟨false, [(.int .i64)]⟩ (kb) (eb) (cb)), (.cells [(.map 0), (.map 1)]), (.cells [(.vec 5 (L1) .none)])]) ∧
 Tb (ka) (kb) (ea) (eb) (ca) (cb)) ∧
 (((@Eq (List VO) [(.map ⟨false, [(.int .i64)]⟩ (ka) (ea) (ca)), (.map ⟨false, [(.int .i64)]⟩ (kb) (eb) (cb)), (.cells [(.map 4), (.map 5)]), (.cells [(.vec 5 (L1) .none)])] [(.map ⟨false, [(.int .i64)]⟩ (ka) (ea) (ca)), (.map ⟨false, [(.int .i64)]⟩ (kb) (eb) (cb)), (.cells [(.map 4), (.map 5)]), (.cells [(.vec 5 (L1) .none)])]) ∧
 Tb (ka) (kb) (ea) (eb) (ca) (cb)) ∧
 ((@Eq (Nat) 8 8) ∧
 (@Eq (List (Nat × Nat × Bool)) [] []))))))))) ∧
 (∀ pa : Value → Option TV, (∀ pb : Value → Option TV, (∀ qa : List (Value × TV × Nat), (∀ qb : List (Value × TV × Nat), (∀ ra : Nat, (∀ rb : Nat, (Tb2 (pa) (pb) (qa) (qb) (ra) (rb) → (((@Eq (Nat) 0 0) ∧
 ((@Eq (List TV) [(.val (.int .i64 1)), (.val (.int .i64 (n)))] [(.val (.int .i64 1)), (.val (.int .i64 (n)))]) ∧
 ((@Eq (List VO) [(.map ⟨false, [(.int .i64)]⟩ (ka) (ea) (ca)), (.map ⟨false, [(.int .i64)]⟩ (kb) (eb) (cb)), (.cells [(.map 0), (.map 1)]), (.cells [(.vec 5 (L1) .none)])] [(.map ⟨false, [(.int .i64)]⟩ (ka) (ea) (ca)), (.map ⟨false, [(.int .i64)]⟩ (kb) (eb) (cb)), (.cells [(.map 0), (.map 1)]), (.cells [(.vec 5 (L1) .none)])]) ∧
 Tb (ka) (kb) (ea) (eb) (ca) (cb)))) ∧
 (((@Eq (Nat) 0 0) ∧
 ((@Eq (List TV) [(.val (.int .i64 1)), (.val (.int .i64 (n)))] [(.val (.int .i64 1)), (.val (.int .i64 (n)))]) ∧
 ((@Eq (List VO) [(.map ⟨false, [(.int .i64)]⟩ (pa) (qa) (ra)), (.map ⟨false, [(.int .i64)]⟩ (pb) (qb) (rb)), (.cells [(.map 4), (.map 5)]), (.cells [(.vec 5 (L2) .none)])] [(.map ⟨false, [(.int .i64)]⟩ (pa) (qa) (ra)), (.map ⟨false, [(.int .i64)]⟩ (pb) (qb) (rb)), (.cells [(.map 4), (.map 5)]), (.cells [(.vec 5 (L2) .none)])]) ∧
 Tb2 (pa) (pb) (qa) (qb) (ra) (rb)))) ∧
 Q (.val (.bool true)) ⟨[(.map ⟨false, [(.int .i64)]⟩ (ka) (ea) (ca)), (.map ⟨false, [(.int .i64)]⟩ (kb) (eb) (cb)), (.cells [(.map 0), (.map 1)]), (.cells [(.vec 5 (L1) .none)]), (.map ⟨false, [(.int .i64)]⟩ (pa) (qa) (ra)), (.map ⟨false, [(.int .i64)]⟩ (pb) (qb) (rb)), (.cells [(.map 4), (.map 5)]), (.cells [(.vec 5 (L2) .none)])], []⟩))))))))))))))))))))))))) := by kernel_rfl
set_option maxRecDepth 100000 in
theorem ev_a0 (lk lk2 : Value → Option TV) (es es2 : List (Value × TV × Nat)) (ck ck2 : Nat) (L M L1 L2 : List (List TV)) (n k i a c p u : Int) (j : Nat) (Tb : Tb6) (Q : Exit → List TV → VT → List Nat → Nat → Prop) : vx Try.prog noGl (specs [(acF, acX (lT lk lk2 es es2 ck ck2 [mO L1, .cells (acC k i a c p u)]) [.ptr 2 0, .ptr 3 0, .agg (acC k i a c p u)] Tb fun ka kb ea eb ca cb => lT ka kb ea eb ca cb [mO L2, .cells (acC k i a c p u)]), (lkF, lkW 0 Tb L2 [.ptr 2 0, .ptr 3 0, .val (.int .i64 i), .val (.int .i64 n)])]) (tellS [(999998, .dead, none), (31, .elt (acC k i a c p u), none)]) 300 noLp none 0 (loopAt Try.prog laA 0) (slotsN 78 a0K (a0V M n L j)) (lT lk lk2 es es2 ck ck2 [mO L1]) [] (pickS a0K Q) =
 (bif decide ((↑j : Int) < (↑(List.length L) : Int))
 then (OPure Try.prog (fun _ => .none) (.indexAddr 22 (.tmp 27) (.tmp 29)) [(27, (.vec 6 (L) .none)), (29, (.val (.int .i64 ((↑j : Int)))))] (.elt [(.val (.int .i64 (k))), (.val (.int .i64 (i))), (.val (.int .u32 (a))), (.val (.int .i64 (c))), (.val (.int .i64 (p))), (.val (.int .i64 (u)))]) ∧
 (((@Eq (Nat) 0 0) ∧
 ((@Eq (List TV) [(.ptr 2 0), (.ptr 3 0), (.agg [(.val (.int .i64 (k))), (.val (.int .i64 (i))), (.val (.int .u32 (a))), (.val (.int .i64 (c))), (.val (.int .i64 (p))), (.val (.int .i64 (u)))])] [(.ptr 2 0), (.ptr 3 0), (.agg [(.val (.int .i64 (k))), (.val (.int .i64 (i))), (.val (.int .u32 (a))), (.val (.int .i64 (c))), (.val (.int .i64 (p))), (.val (.int .i64 (u)))])]) ∧
 (@Eq (VT) ⟨[(.map ⟨false, [(.int .i64)]⟩ (lk) (es) (ck)), (.map ⟨false, [(.int .i64)]⟩ (lk2) (es2) (ck2)), (.cells [(.map 0), (.map 1)]), (.cells [(.vec 5 (L1) .none)]), (.cells [(.val (.int .i64 (k))), (.val (.int .i64 (i))), (.val (.int .u32 (a))), (.val (.int .i64 (c))), (.val (.int .i64 (p))), (.val (.int .i64 (u)))])], []⟩ ⟨[(.map ⟨false, [(.int .i64)]⟩ (lk) (es) (ck)), (.map ⟨false, [(.int .i64)]⟩ (lk2) (es2) (ck2)), (.cells [(.map 0), (.map 1)]), (.cells [(.vec 5 (L1) .none)]), (.cells [(.val (.int .i64 (k))), (.val (.int .i64 (i))), (.val (.int .u32 (a))), (.val (.int .i64 (c))), (.val (.int .i64 (p))), (.val (.int .i64 (u)))])], []⟩))) ∧
 (∀ ka : Value → Option TV, (∀ kb : Value → Option TV, (∀ ea : List (Value × TV × Nat), (∀ eb : List (Value × TV × Nat), (∀ ca : Nat, (∀ cb : Nat, (Tb (ka) (kb) (ea) (eb) (ca) (cb) → (((@Eq (Nat) 0 0) ∧
 ((@Eq (List TV) [(.ptr 2 0), (.ptr 3 0), (.val (.int .i64 (i))), (.val (.int .i64 (n)))] [(.ptr 2 0), (.ptr 3 0), (.val (.int .i64 (i))), (.val (.int .i64 (n)))]) ∧
 ((@Eq (List VO) [(.map ⟨false, [(.int .i64)]⟩ (ka) (ea) (ca)), (.map ⟨false, [(.int .i64)]⟩ (kb) (eb) (cb)), (.cells [(.map 0), (.map 1)]), (.cells [(.vec 5 (L2) .none)])] [(.map ⟨false, [(.int .i64)]⟩ (ka) (ea) (ca)), (.map ⟨false, [(.int .i64)]⟩ (kb) (eb) (cb)), (.cells [(.map 0), (.map 1)]), (.cells [(.vec 5 (L2) .none)])]) ∧
 Tb (ka) (kb) (ea) (eb) (ca) (cb)))) ∧
 Q .normal [(.vec 6 (M) .none), (.val (.int .i64 (n))), (.ptr 2 0), (.ptr 3 0), (.vec 6 (L) .none), (.val (.int .i64 ((↑(List.length L) : Int)))), (.val (.int .i64 (IntKind.wrap IntKind.i64 ((↑j : Int) + (1 : Int)))))] ⟨[(.map ⟨false, [(.int .i64)]⟩ (ka) (ea) (ca)), (.map ⟨false, [(.int .i64)]⟩ (kb) (eb) (cb)), (.cells [(.map 0), (.map 1)]), (.cells [(.vec 5 (L2) .none)]), (.cells [(.val (.int .i64 (k))), (.val (.int .i64 (i))), (.val (.int .u32 (a))), (.val (.int .i64 (c))), (.val (.int .i64 (p))), (.val (.int .i64 (u)))])], []⟩ [] 78))))))))))
 else Q (.exit 0) [(.vec 6 (M) .none), (.val (.int .i64 (n))), (.ptr 2 0), (.ptr 3 0), (.vec 6 (L) .none), (.val (.int .i64 ((↑(List.length L) : Int)))), (.val (.int .i64 ((↑j : Int))))] ⟨[(.map ⟨false, [(.int .i64)]⟩ (lk) (es) (ck)), (.map ⟨false, [(.int .i64)]⟩ (lk2) (es2) (ck2)), (.cells [(.map 0), (.map 1)]), (.cells [(.vec 5 (L1) .none)])], []⟩ [] 78) := by kernel_rfl
set_option maxRecDepth 100000 in
theorem ev_a2 (lk lk2 : Value → Option TV) (es es2 : List (Value × TV × Nat)) (ck ck2 : Nat) (kc kd : Value → Option TV) (ec ed : List (Value × TV × Nat)) (cc cd : Nat) (M L0 L1 L2 : List (List TV)) (n k i a c p u : Int) (j : Nat) (Tb : Tb6) (Q : Exit → List TV → VT → List Nat → Nat → Prop) : vx Try.prog noGl (specs [(acF, acX (l8T lk lk2 es es2 ck ck2 L0 kc kd ec ed cc cd L1 [.cells (acC k i a c p u)]) [.ptr 6 0, .ptr 7 0, .agg (acC k i a c p u)] Tb fun ka kb ea eb ca cb => l8T lk lk2 es es2 ck ck2 L0 ka kb ea eb ca cb L2 [.cells (acC k i a c p u)])]) (tellS [(999998, .dead, none), (57, .elt (acC k i a c p u), none)]) 300 noLp none 0 (loopAt Try.prog laA 2) (slotsN 78 a2K (a2V n M j)) (l8T lk lk2 es es2 ck ck2 L0 kc kd ec ed cc cd L1 []) [] (pickS a2K Q) =
 (bif decide ((↑j : Int) < (↑(List.length M) : Int))
 then (OPure Try.prog (fun _ => .none) (.indexAddr 22 (.tmp 53) (.tmp 55)) [(53, (.vec 6 (M) .none)), (55, (.val (.int .i64 ((↑j : Int)))))] (.elt [(.val (.int .i64 (k))), (.val (.int .i64 (i))), (.val (.int .u32 (a))), (.val (.int .i64 (c))), (.val (.int .i64 (p))), (.val (.int .i64 (u)))]) ∧
 (((@Eq (Nat) 0 0) ∧
 ((@Eq (List TV) [(.ptr 6 0), (.ptr 7 0), (.agg [(.val (.int .i64 (k))), (.val (.int .i64 (i))), (.val (.int .u32 (a))), (.val (.int .i64 (c))), (.val (.int .i64 (p))), (.val (.int .i64 (u)))])] [(.ptr 6 0), (.ptr 7 0), (.agg [(.val (.int .i64 (k))), (.val (.int .i64 (i))), (.val (.int .u32 (a))), (.val (.int .i64 (c))), (.val (.int .i64 (p))), (.val (.int .i64 (u)))])]) ∧
 (@Eq (VT) ⟨[(.map ⟨false, [(.int .i64)]⟩ (lk) (es) (ck)), (.map ⟨false, [(.int .i64)]⟩ (lk2) (es2) (ck2)), (.cells [(.map 0), (.map 1)]), (.cells [(.vec 5 (L0) .none)]), (.map ⟨false, [(.int .i64)]⟩ (kc) (ec) (cc)), (.map ⟨false, [(.int .i64)]⟩ (kd) (ed) (cd)), (.cells [(.map 4), (.map 5)]), (.cells [(.vec 5 (L1) .none)]), (.cells [(.val (.int .i64 (k))), (.val (.int .i64 (i))), (.val (.int .u32 (a))), (.val (.int .i64 (c))), (.val (.int .i64 (p))), (.val (.int .i64 (u)))])], []⟩ ⟨[(.map ⟨false, [(.int .i64)]⟩ (lk) (es) (ck)), (.map ⟨false, [(.int .i64)]⟩ (lk2) (es2) (ck2)), (.cells [(.map 0), (.map 1)]), (.cells [(.vec 5 (L0) .none)]), (.map ⟨false, [(.int .i64)]⟩ (kc) (ec) (cc)), (.map ⟨false, [(.int .i64)]⟩ (kd) (ed) (cd)), (.cells [(.map 4), (.map 5)]), (.cells [(.vec 5 (L1) .none)]), (.cells [(.val (.int .i64 (k))), (.val (.int .i64 (i))), (.val (.int .u32 (a))), (.val (.int .i64 (c))), (.val (.int .i64 (p))), (.val (.int .i64 (u)))])], []⟩))) ∧
 (∀ ka : Value → Option TV, (∀ kb : Value → Option TV, (∀ ea : List (Value × TV × Nat), (∀ eb : List (Value × TV × Nat), (∀ ca : Nat, (∀ cb : Nat, (Tb (ka) (kb) (ea) (eb) (ca) (cb) → Q .normal [(.val (.int .i64 (n))), (.ptr 2 0), (.ptr 3 0), (.ptr 6 0), (.ptr 7 0), (.vec 6 (M) .none), (.val (.int .i64 ((↑(List.length M) : Int)))), (.val (.int .i64 (IntKind.wrap IntKind.i64 ((↑j : Int) + (1 : Int)))))] ⟨[(.map ⟨false, [(.int .i64)]⟩ (lk) (es) (ck)), (.map ⟨false, [(.int .i64)]⟩ (lk2) (es2) (ck2)), (.cells [(.map 0), (.map 1)]), (.cells [(.vec 5 (L0) .none)]), (.map ⟨false, [(.int .i64)]⟩ (ka) (ea) (ca)), (.map ⟨false, [(.int .i64)]⟩ (kb) (eb) (cb)), (.cells [(.map 4), (.map 5)]), (.cells [(.vec 5 (L2) .none)]), (.cells [(.val (.int .i64 (k))), (.val (.int .i64 (i))), (.val (.int .u32 (a))), (.val (.int .i64 (c))), (.val (.int .i64 (p))), (.val (.int .i64 (u)))])], []⟩ [] 78)))))))))
 else Q (.exit 2) [(.val (.int .i64 (n))), (.ptr 2 0), (.ptr 3 0), (.ptr 6 0), (.ptr 7 0), (.vec 6 (M) .none), (.val (.int .i64 ((↑(List.length M) : Int)))), (.val (.int .i64 ((↑j : Int))))] ⟨[(.map ⟨false, [(.int .i64)]⟩ (lk) (es) (ck)), (.map ⟨false, [(.int .i64)]⟩ (lk2) (es2) (ck2)), (.cells [(.map 0), (.map 1)]), (.cells [(.vec 5 (L0) .none)]), (.map ⟨false, [(.int .i64)]⟩ (kc) (ec) (cc)), (.map ⟨false, [(.int .i64)]⟩ (kd) (ed) (cd)), (.cells [(.map 4), (.map 5)]), (.cells [(.vec 5 (L1) .none)])], []⟩ [] 78) := by kernel_rfl
set_option maxRecDepth 100000 in
theorem ev_aa2 (L M : List (List TV)) (n : Int) (Q : TV → VT → Prop) : vcallF Try.prog noGl (specs [(neF, noS), (lvF, trueW)]) noOra 300 noLp 0 laA [.vec 6 L .none, .vec 6 M .none, .val (.int .i64 n)] ⟨[], []⟩ Q =
 (bif decide ((↑(List.length L) : Int) > (100 : Int))
 then Q (.val (.bool true)) ⟨[], []⟩
 else (bif decide ((↑(List.length M) : Int) > (100 : Int))
 then Q (.val (.bool true)) ⟨[], []⟩
 else False )) := by kernel_rfl
end Go.Proofs.Ytgconkbnokbinaa
