/- Siblings: what the kernel leaves of able, Best, Some, Until, Copy. -/
import Derived.Test.YtgconkbnokbinaaMbSbAblR
import Derived.Test.YtgconkbnokbinaaMb4
namespace Go.Proofs.Ytgconkbnokbinaa
open Go.RowKit

abbrev ssF := 38
abbrev beF := 8
abbrev soF := 12
abbrev unF := 11
abbrev coF := 14
def tabW (os : List VO) (ys0 : List TV) (x : TV) : Spec := fun ro ys T K => (ro = 0 ∧ ys = ys0 ∧ T.objs.take 3 = os) ∧ K x T
def ssW (T1 T2 : VT) (n : Nat) : Spec := fun ro ys T K => (ro = 0 ∧ ys = [.row 3 3 0 n, .fn (.func 35) [] []] ∧ T = T1) ∧ K (.val (.tuple #[])) T2
def ssW0 : Spec := fun ro ys T K => (ro = 0 ∧ ys = [.vec 3 [] (.tail 0 0), .fn (.func 35) [] []]) ∧ K (.val (.tuple #[])) T
def sT6 (lk lk2 : Value → Option TV) (es es2 : List (Value × TV × Nat)) (ck ck2 n : Nat) (cs : List TV) : VT := ⟨[.cells [.map 1, .map 2], .map kI lk es ck, .map kI lk2 es2 ck2, .row cs], [(n + 1, 3, false)]⟩
def ablL0 (lk lk2 : Value → Option TV) (es es2 : List (Value × TV × Nat)) (ck ck2 : Nat) (n : Int) (A : List (List TV)) (c0 : Code) : Nat → Option (LSpec × Code) := specsL [(0, loopL 31 ablK [(5, 3)] (ablV n A [] 0) (sT5 lk lk2 es es2 ck ck2 0) fun K => K .normal (slotsN 31 ablK (ablV n A [] A.length)) (sT5 lk lk2 es es2 ck ck2 0) [], c0)]
def ablL1 (lk lk2 : Value → Option TV) (es es2 : List (Value × TV × Nat)) (ck ck2 : Nat) (n : Int) (A L : List (List TV)) (c0 : Code) : Nat → Option (LSpec × Code) := specsL [(0, loopRow 31 ablK [(5, 3)] (ablV n A [] 0) (sT5 lk lk2 es es2 ck ck2 0) (sT5 lk lk2 es es2 ck ck2 L.length) 5 0 3 L, c0)]
def untK : List Nat := [0, 5, 10, 11, 12]
def untV (LS : List (List TV)) (m j : Int) : List TV := [.ptr 0 0, .val (.int .i64 m), .vec 3 LS .none, .val (.int .i64 LS.length), .val (.int .i64 j)]
def untL (lk lk2 : Value → Option TV) (es es2 : List (Value × TV × Nat)) (ck ck2 : Nat) (LS : List (List TV)) (m : Int) (c0 : Code) : Nat → Option (LSpec × Code) := specsL [(0, loopL 28 untK [] (untV LS 0 0) (sT lk lk2 es es2 ck ck2) fun K => K .normal (slotsN 28 untK (untV LS m LS.length)) (sT lk lk2 es es2 ck ck2) [], c0)]
set_option maxRecDepth 100000 in
theorem ev_ab0 (lk lk2 : Value → Option TV) (es es2 : List (Value × TV × Nat)) (ck ck2 : Nat) (A : List (List TV)) (n : Int) (Q : TV → VT → Prop) : vcallF Try.prog noGl (specs [(alF, tabW (sT lk lk2 es es2 ck ck2).objs [.ptr 0 0] (.vec 3 A .none)), (ssF, ssW0)]) noOra 300 (ablL0 lk lk2 es es2 ck ck2 n A (codeAt Try.prog abF 0)) 0 abF [.ptr 0 0, .val (.int .i64 n)] (sT lk lk2 es es2 ck ck2) Q =
 (((@Eq (Nat) 0 0) ∧
 ((@Eq (List TV) [(.ptr 0 0)] [(.ptr 0 0)]) ∧
 (@Eq (List VO) [(.cells [(.map 1), (.map 2)]), (.map ⟨false, [(.int .i64)]⟩ (lk) (es) (ck)), (.map ⟨false, [(.int .i64)]⟩ (lk2) (es2) (ck2))] [(.cells [(.map 1), (.map 2)]), (.map ⟨false, [(.int .i64)]⟩ (lk) (es) (ck)), (.map ⟨false, [(.int .i64)]⟩ (lk2) (es2) (ck2))]))) ∧
 ((codeAt Try.prog abF (0 : Nat) = codeAt Try.prog abF (0 : Nat)) ∧
 (((@Eq (Option Nat) .none .none) ∧
 ((@Eq (Nat) 0 0) ∧
 ((@Eq (List Nat) [] []) ∧
 (((@Eq (Option TV) (.some (.val (.slice .none 0 0))) (.some (.val (.slice .none 0 0)))) ∧
 True ) ∧
 ((@Eq (VT) ⟨[(.cells [(.map 1), (.map 2)]), (.map ⟨false, [(.int .i64)]⟩ (lk) (es) (ck)), (.map ⟨false, [(.int .i64)]⟩ (lk2) (es2) (ck2))], [(0, (3, true))]⟩ ⟨[(.cells [(.map 1), (.map 2)]), (.map ⟨false, [(.int .i64)]⟩ (lk) (es) (ck)), (.map ⟨false, [(.int .i64)]⟩ (lk2) (es2) (ck2))], [(0, (3, true))]⟩) ∧
 ((@Eq (Bool) true true) ∧
 (@Eq (List TV) [(.ptr 0 0), (.val (.int .i64 (n))), (.val (.slice .none 0 0)), (.vec 3 [] (.tail 0 0)), (.vec 3 (A) .none), (.val (.int .i64 ((↑(List.length A) : Int)))), (.val (.int .i64 0))] [(.ptr 0 0), (.val (.int .i64 (n))), (.val (.slice .none 0 0)), (.vec 3 [] (.tail 0 0)), (.vec 3 (A) .none), (.val (.int .i64 ((↑(List.length A) : Int)))), (.val (.int .i64 0))]))))))) ∧
 (((@Eq (Nat) 0 0) ∧
 (@Eq (List TV) [(.vec 3 [] (.tail 0 0)), (.fn (.func 35) [] [])] [(.vec 3 [] (.tail 0 0)), (.fn (.func 35) [] [])])) ∧
 Q (.vec 3 [] (.tail 0 0)) ⟨[(.cells [(.map 1), (.map 2)]), (.map ⟨false, [(.int .i64)]⟩ (lk) (es) (ck)), (.map ⟨false, [(.int .i64)]⟩ (lk2) (es2) (ck2))], [(0, (3, true))]⟩)))) := by kernel_rfl
set_option maxRecDepth 100000 in
theorem ev_ab1 (lk lk2 : Value → Option TV) (es es2 : List (Value × TV × Nat)) (ck ck2 : Nat) (A L LS : List (List TV)) (n : Int) (Q : TV → VT → Prop) : vcallF Try.prog noGl (specs [(alF, tabW (sT lk lk2 es es2 ck ck2).objs [.ptr 0 0] (.vec 3 A .none)), (ssF, ssW (sT6 lk lk2 es es2 ck ck2 L.length L.flatten) (sT6 lk lk2 es es2 ck ck2 L.length LS.flatten) L.length)]) noOra 300 (ablL1 lk lk2 es es2 ck ck2 n A L (codeAt Try.prog abF 0)) 0 abF [.ptr 0 0, .val (.int .i64 n)] (sT lk lk2 es es2 ck ck2) Q =
 (((@Eq (Nat) 0 0) ∧
 ((@Eq (List TV) [(.ptr 0 0)] [(.ptr 0 0)]) ∧
 (@Eq (List VO) [(.cells [(.map 1), (.map 2)]), (.map ⟨false, [(.int .i64)]⟩ (lk) (es) (ck)), (.map ⟨false, [(.int .i64)]⟩ (lk2) (es2) (ck2))] [(.cells [(.map 1), (.map 2)]), (.map ⟨false, [(.int .i64)]⟩ (lk) (es) (ck)), (.map ⟨false, [(.int .i64)]⟩ (lk2) (es2) (ck2))]))) ∧
 ((codeAt Try.prog abF (0 : Nat) = codeAt Try.prog abF (0 : Nat)) ∧
 (((@Eq (Option Nat) .none .none) ∧
 ((@Eq (Nat) 0 0) ∧
 ((@Eq (List Nat) [] []) ∧
 (((@Eq (Option TV) (.some (.val (.slice .none 0 0))) (.some (.val (.slice .none 0 0)))) ∧
 True ) ∧
 ((@Eq (VT) ⟨[(.cells [(.map 1), (.map 2)]), (.map ⟨false, [(.int .i64)]⟩ (lk) (es) (ck)), (.map ⟨false, [(.int .i64)]⟩ (lk2) (es2) (ck2))], [(0, (3, true))]⟩ ⟨[(.cells [(.map 1), (.map 2)]), (.map ⟨false, [(.int .i64)]⟩ (lk) (es) (ck)), (.map ⟨false, [(.int .i64)]⟩ (lk2) (es2) (ck2))], [(0, (3, true))]⟩) ∧
 ((@Eq (Bool) true true) ∧
 ((@Eq (List TV) [(.ptr 0 0), (.val (.int .i64 (n))), (.val (.slice .none 0 0)), (.vec 3 [] (.tail 0 0)), (.vec 3 (A) .none), (.val (.int .i64 ((↑(List.length A) : Int)))), (.val (.int .i64 0))] [(.ptr 0 0), (.val (.int .i64 (n))), (.val (.slice .none 0 0)), (.vec 3 [] (.tail 0 0)), (.vec 3 (A) .none), (.val (.int .i64 ((↑(List.length A) : Int)))), (.val (.int .i64 0))]) ∧
 (@Eq (Bool) true true)))))))) ∧
 (((@Eq (Nat) 0 0) ∧
 ((@Eq (List TV) [(.row 3 3 0 (List.length L)), (.fn (.func 35) [] [])] [(.row 3 3 0 (List.length L)), (.fn (.func 35) [] [])]) ∧
 (@Eq (VT) ⟨[(.cells [(.map 1), (.map 2)]), (.map ⟨false, [(.int .i64)]⟩ (lk) (es) (ck)), (.map ⟨false, [(.int .i64)]⟩ (lk2) (es2) (ck2)), (.row (List.flatten L))], [((List.length L + (1 : Nat)), (3, false))]⟩ ⟨[(.cells [(.map 1), (.map 2)]), (.map ⟨false, [(.int .i64)]⟩ (lk) (es) (ck)), (.map ⟨false, [(.int .i64)]⟩ (lk2) (es2) (ck2)), (.row (List.flatten L))], [((List.length L + (1 : Nat)), (3, false))]⟩))) ∧
 Q (.row 3 3 0 (List.length L)) ⟨[(.cells [(.map 1), (.map 2)]), (.map ⟨false, [(.int .i64)]⟩ (lk) (es) (ck)), (.map ⟨false, [(.int .i64)]⟩ (lk2) (es2) (ck2)), (.row (List.flatten LS))], [((List.length L + (1 : Nat)), (3, false))]⟩)))) := by kernel_rfl
set_option maxRecDepth 100000 in
theorem ev_be0 (lk lk2 : Value → Option TV) (es es2 : List (Value × TV × Nat)) (ck ck2 : Nat) (n : Int) (Q : TV → VT → Prop) : vcallF Try.prog noGl (specs [(abF, tabW (sT lk lk2 es es2 ck ck2).objs [.ptr 0 0, .val (.int .i64 n)] (.vec 3 [] .none))]) noOra 300 noLp 0 beF [.ptr 0 0, .val (.int .i64 n)] (sT lk lk2 es es2 ck ck2) Q =
 (((@Eq (Nat) 0 0) ∧
 ((@Eq (List TV) [(.ptr 0 0), (.val (.int .i64 (n)))] [(.ptr 0 0), (.val (.int .i64 (n)))]) ∧
 (@Eq (List VO) [(.cells [(.map 1), (.map 2)]), (.map ⟨false, [(.int .i64)]⟩ (lk) (es) (ck)), (.map ⟨false, [(.int .i64)]⟩ (lk2) (es2) (ck2))] [(.cells [(.map 1), (.map 2)]), (.map ⟨false, [(.int .i64)]⟩ (lk) (es) (ck)), (.map ⟨false, [(.int .i64)]⟩ (lk2) (es2) (ck2))]))) ∧
 Q (.tup [(.agg [(.val (.int .i64 0)), (.val (.int .u32 0)), (.val (.int .i64 0))]), (.val (.bool false))]) ⟨[(.cells [(.map 1), (.map 2)]), (.map ⟨false, [(.int .i64)]⟩ (lk) (es) (ck)), (.map ⟨false, [(.int .i64)]⟩ (lk2) (es2) (ck2)), (.cells [(.val (.int .i64 0)), (.val (.int .u32 0)), (.val (.int .i64 0))])], []⟩) := by kernel_rfl
set_option maxRecDepth 100000 in
theorem ev_be1 (lk lk2 : Value → Option TV) (es es2 : List (Value × TV × Nat)) (ck ck2 : Nat) (i a c : Int) (LS : List (List TV)) (n : Int) (Q : TV → VT → Prop) : vcallF Try.prog noGl (specs [(abF, tabW (sT lk lk2 es es2 ck ck2).objs [.ptr 0 0, .val (.int .i64 n)] (.vec 3 (siC i a c :: LS) .none))]) noOra 300 noLp 0 beF [.ptr 0 0, .val (.int .i64 n)] (sT lk lk2 es es2 ck ck2) Q =
 (((@Eq (Nat) 0 0) ∧
 ((@Eq (List TV) [(.ptr 0 0), (.val (.int .i64 (n)))] [(.ptr 0 0), (.val (.int .i64 (n)))]) ∧
 (@Eq (List VO) [(.cells [(.map 1), (.map 2)]), (.map ⟨false, [(.int .i64)]⟩ (lk) (es) (ck)), (.map ⟨false, [(.int .i64)]⟩ (lk2) (es2) (ck2))] [(.cells [(.map 1), (.map 2)]), (.map ⟨false, [(.int .i64)]⟩ (lk) (es) (ck)), (.map ⟨false, [(.int .i64)]⟩ (lk2) (es2) (ck2))]))) ∧
 Q (.tup [(.agg [(.val (.int .i64 (i))), (.val (.int .u32 (a))), (.val (.int .i64 (c)))]), (.val (.bool true))]) ⟨[(.cells [(.map 1), (.map 2)]), (.map ⟨false, [(.int .i64)]⟩ (lk) (es) (ck)), (.map ⟨false, [(.int .i64)]⟩ (lk2) (es2) (ck2)), (.cells [(.val (.int .i64 (i))), (.val (.int .u32 (a))), (.val (.int .i64 (c)))])], []⟩) := by kernel_rfl
set_option maxRecDepth 100000 in
theorem ev_so (lk lk2 : Value → Option TV) (es es2 : List (Value × TV × Nat)) (ck ck2 : Nat) (LS : List (List TV)) (n : Int) (Q : TV → VT → Prop) : vcallF Try.prog noGl (specs [(abF, tabW (sT lk lk2 es es2 ck ck2).objs [.ptr 0 0, .val (.int .i64 n)] (.vec 3 LS .none))]) noOra 300 noLp 0 soF [.ptr 0 0, .val (.int .i64 n)] (sT lk lk2 es es2 ck ck2) Q =
 (((@Eq (Nat) 0 0) ∧
 ((@Eq (List TV) [(.ptr 0 0), (.val (.int .i64 (n)))] [(.ptr 0 0), (.val (.int .i64 (n)))]) ∧
 (@Eq (List VO) [(.cells [(.map 1), (.map 2)]), (.map ⟨false, [(.int .i64)]⟩ (lk) (es) (ck)), (.map ⟨false, [(.int .i64)]⟩ (lk2) (es2) (ck2))] [(.cells [(.map 1), (.map 2)]), (.map ⟨false, [(.int .i64)]⟩ (lk) (es) (ck)), (.map ⟨false, [(.int .i64)]⟩ (lk2) (es2) (ck2))]))) ∧
 Q (.val (.bool (decide ((↑(List.length LS) : Int) > (0 : Int))))) ⟨[(.cells [(.map 1), (.map 2)]), (.map ⟨false, [(.int .i64)]⟩ (lk) (es) (ck)), (.map ⟨false, [(.int .i64)]⟩ (lk2) (es2) (ck2))], []⟩) := by kernel_rfl
set_option maxRecDepth 100000 in
theorem ev_un (lk lk2 : Value → Option TV) (es es2 : List (Value × TV × Nat)) (ck ck2 : Nat) (LS : List (List TV)) (n m : Int) (Q : TV → VT → Prop) : vcallF Try.prog noGl (specs [(abF, tabW (sT lk lk2 es es2 ck ck2).objs [.ptr 0 0, .val (.int .i64 n)] (.vec 3 LS .none))]) noOra 300 (untL lk lk2 es es2 ck ck2 LS m (codeAt Try.prog unF 0)) 0 unF [.ptr 0 0, .val (.int .i64 n)] (sT lk lk2 es es2 ck ck2) Q =
 (((@Eq (Nat) 0 0) ∧
 ((@Eq (List TV) [(.ptr 0 0), (.val (.int .i64 (n)))] [(.ptr 0 0), (.val (.int .i64 (n)))]) ∧
 (@Eq (List VO) [(.cells [(.map 1), (.map 2)]), (.map ⟨false, [(.int .i64)]⟩ (lk) (es) (ck)), (.map ⟨false, [(.int .i64)]⟩ (lk2) (es2) (ck2))] [(.cells [(.map 1), (.map 2)]), (.map ⟨false, [(.int .i64)]⟩ (lk) (es) (ck)), (.map ⟨false, [(.int .i64)]⟩ (lk2) (es2) (ck2))]))) ∧
 ((codeAt Try.prog unF (0 : Nat) = codeAt Try.prog unF (0 : Nat)) ∧
 (((@Eq (Option Nat) .none .none) ∧
 ((@Eq (Nat) 0 0) ∧
 ((@Eq (List Nat) [] []) ∧
 (True  ∧
 ((@Eq (VT) ⟨[(.cells [(.map 1), (.map 2)]), (.map ⟨false, [(.int .i64)]⟩ (lk) (es) (ck)), (.map ⟨false, [(.int .i64)]⟩ (lk2) (es2) (ck2))], []⟩ ⟨[(.cells [(.map 1), (.map 2)]), (.map ⟨false, [(.int .i64)]⟩ (lk) (es) (ck)), (.map ⟨false, [(.int .i64)]⟩ (lk2) (es2) (ck2))], []⟩) ∧
 ((@Eq (Bool) true true) ∧
 (@Eq (List TV) [(.ptr 0 0), (.val (.int .i64 0)), (.vec 3 (LS) .none), (.val (.int .i64 ((↑(List.length LS) : Int)))), (.val (.int .i64 0))] [(.ptr 0 0), (.val (.int .i64 0)), (.vec 3 (LS) .none), (.val (.int .i64 ((↑(List.length LS) : Int)))), (.val (.int .i64 0))]))))))) ∧
 Q (.val (.int .i64 (m))) ⟨[(.cells [(.map 1), (.map 2)]), (.map ⟨false, [(.int .i64)]⟩ (lk) (es) (ck)), (.map ⟨false, [(.int .i64)]⟩ (lk2) (es2) (ck2))], []⟩))) := by kernel_rfl
set_option maxRecDepth 100000 in
theorem ev_unA (lk lk2 : Value → Option TV) (es es2 : List (Value × TV × Nat)) (ck ck2 : Nat) (LS : List (List TV)) (i a c m c' u' : Int) (j : Nat) (Q : Exit → List TV → VT → List Nat → Nat → Prop) : vx Try.prog noGl noSp (tellS [(999998, .dead, none), (14, .elt (siC i a c), none), (23, .agg (rpC c' u'), none)]) 300 noLp none 0 (loopAt Try.prog unF 0) (slotsN 28 untK (untV LS m j)) (sT lk lk2 es es2 ck ck2) [] (pickS untK Q) =
 (bif decide ((↑j : Int) < (↑(List.length LS) : Int))
 then (OPure Try.prog (fun _ => .none) (.indexAddr 38 (.tmp 10) (.tmp 12)) [(10, (.vec 3 (LS) .none)), (12, (.val (.int .i64 ((↑j : Int)))))] (.elt [(.val (.int .i64 (i))), (.val (.int .u32 (a))), (.val (.int .i64 (c)))]) ∧
 (OTake Try.prog (fun _ => .none) ⟨[(.cells [(.map 1), (.map 2)]), (.map ⟨false, [(.int .i64)]⟩ (lk) (es) (ck)), (.map ⟨false, [(.int .i64)]⟩ (lk2) (es2) (ck2)), (.cells [(.val (.int .i64 (i))), (.val (.int .u32 (a))), (.val (.int .i64 (c)))])], []⟩ false (.lookup 51 (.tmp 20) (.tmp 22) false) [(20, (.map 2)), (22, (.val (.int .i64 (i))))] (.agg [(.val (.int .i64 (c'))), (.val (.int .i64 (u')))]) ∧
 Q .normal [(.ptr 0 0), (.val (.int .i64 (if u' > m then u' else m))), (.vec 3 (LS) .none), (.val (.int .i64 ((↑(List.length LS) : Int)))), (.val (.int .i64 (IntKind.wrap IntKind.i64 ((↑j : Int) + (1 : Int)))))] ⟨[(.cells [(.map 1), (.map 2)]), (.map ⟨false, [(.int .i64)]⟩ (lk) (es) (ck)), (.map ⟨false, [(.int .i64)]⟩ (lk2) (es2) (ck2)), (.cells [(.val (.int .i64 (i))), (.val (.int .u32 (a))), (.val (.int .i64 (c)))])], []⟩ [] 28))
 else Q (.exit 0) [(.ptr 0 0), (.val (.int .i64 (m))), (.vec 3 (LS) .none), (.val (.int .i64 ((↑(List.length LS) : Int)))), (.val (.int .i64 ((↑j : Int))))] ⟨[(.cells [(.map 1), (.map 2)]), (.map ⟨false, [(.int .i64)]⟩ (lk) (es) (ck)), (.map ⟨false, [(.int .i64)]⟩ (lk2) (es2) (ck2))], []⟩ [] 28) := by kernel_rfl
set_option maxRecDepth 100000 in
theorem ev_co (lk lk2 : Value → Option TV) (es es2 : List (Value × TV × Nat)) (ck ck2 : Nat) (Q : TV → VT → Prop) : vcallF Try.prog noGl noSp noOra 300 noLp 0 coF [.ptr 0 0] (sT lk lk2 es es2 ck ck2) Q =
 Q (.ptr 5 0) ⟨[(.cells [(.map 1), (.map 2)]), (.map ⟨false, [(.int .i64)]⟩ (lk) (es) (ck)), (.map ⟨false, [(.int .i64)]⟩ (lk2) (es2) (ck2)), (.map ⟨false, [(.int .i64)]⟩ (lk) (es) (ck)), (.map ⟨false, [(.int .i64)]⟩ (lk2) (es2) (ck2)), (.cells [(.map 3), (.map 4)])], []⟩ := by kernel_rfl
end Go.Proofs.Ytgconkbnokbinaa
