/- Siblings: what the kernel leaves of the document's table. -/
import Derived.Test.YtgconkbnokbinaaMbSbLb
namespace Go.Proofs.Ytgconkbnokbinaa
open Go.RowKit

abbrev rCpF := 27
abbrev rBeF := 26
abbrev rUnF := 28
abbrev rAlF := 30
abbrev rCoF := 15
abbrev rSaF := 29
def rwC (i a c p u : Int) : List TV := [.val (.int .i64 i), .val (.int .u32 a), .val (.int .i64 c), .val (.int .i64 p), .val (.int .i64 u)]
def mO (L : List (List TV)) : VO := .cells [.vec 5 L .none]
def mL (L : List (List TV)) (l : List VO) : VT := ⟨mO L :: l, []⟩
def fiK : List Nat := [1, 4, 10, 11, 12]
def fiV (L : List (List TV)) (i r j : Int) : List TV := [.val (.int .i64 i), .val (.int .i64 r), .vec 5 L .none, .val (.int .i64 L.length), .val (.int .i64 j)]
def fiL (L : List (List TV)) (i r : Int) (hit : Bool) (c0 : Code) : Nat → Option (LSpec × Code) := specsL [(0, loopL 24 fiK [] (fiV L i 0 0) (mL L []) fun K => bif hit then (∀ cs, K .ret (slotsN 24 fiK (fiV L i r r)) (mL L [.cells cs]) []) else K .normal (slotsN 24 fiK (fiV L i 0 L.length)) (mL L []) [], c0)]
def fiW (L : List (List TV)) (i r : Int) : Spec := fun ro ys T K => (ro = 0 ∧ ys = [.ptr 0 0, .val (.int .i64 i)] ∧ T.objs[0]? = some (mO L)) ∧ K (.val (.int .i64 r)) T
def raK : List Nat := [0, 3, 5]
def raV (j : Int) : List TV := [.ptr 0 0, .ptr 1 0, .val (.int .i64 j)]
def raL (L : List (List TV)) (i a c k : Int) (c0 : Code) : Nat → Option (LSpec × Code) := specsL [(1, loopL 88 raK [] (raV 0) (mL L [.cells (siC i a c)]) fun K => K .normal (slotsN 88 raK (raV k)) (mL L [.cells (siC i a c)]) [], c0)]
def tl5 (T : VT) (n : Nat) : VT := { T with tails := [(n, 5, false)] }
def rCpW (L : List (List TV)) (cap : Int → Int → Int) : Spec := fun ro ys T K => match ys with
  | [.ptr 0 0, .val (.int .i64 i), .val (.int .i64 n)] => (ro = 0 ∧ T.objs[0]? = some (mO L)) ∧ K (.val (.int .i64 (cap i n))) T
  | _ => vbad 70 default ys
def rbK : List Nat := [0, 1, 4, 6, 7, 13, 14, 15]
def rbV (n : Int) (b : Bool) (L : List (List TV)) (j : Int) : List TV := [.ptr 0 0, .val (.int .i64 n), .ptr 1 0, .ptr 2 0, .val (.bool b), .vec 5 L .none, .val (.int .i64 L.length), .val (.int .i64 j)]
def rbL (L : List (List TV)) (n i a c : Int) (b : Bool) (c0 : Code) : Nat → Option (LSpec × Code) := specsL [(0, loopL 43 rbK [] (rbV n false L 0) (mL L [.cells (siC 0 0 0), .cells (siC 0 0 0)]) fun K => K .normal (slotsN 43 rbK (rbV n b L L.length)) (mL L [.cells (siC 0 0 0), .cells (siC i a c)]) [], c0)]
def ruK : List Nat := [0, 1, 5, 11, 12, 13]
def ruV (n m : Int) (L : List (List TV)) (j : Int) : List TV := [.ptr 0 0, .val (.int .i64 n), .val (.int .i64 m), .vec 5 L .none, .val (.int .i64 L.length), .val (.int .i64 j)]
def ruL (L : List (List TV)) (n m : Int) (c0 : Code) : Nat → Option (LSpec × Code) := specsL [(0, loopL 34 ruK [] (ruV n 0 L 0) (mL L []) fun K => K .normal (slotsN 34 ruK (ruV n m L L.length)) (mL L []) [], c0)]
def rlK : List Nat := [3, 9, 10, 11]
def rlV (A L : List (List TV)) (j : Int) : List TV := [.vec 3 A (.tail 0 A.length), .vec 5 L .none, .val (.int .i64 L.length), .val (.int .i64 j)]
def mLt (L : List (List TV)) (n : Nat) (l : List VO) : VT := ⟨mO L :: l, [(n, 3, true)]⟩
def rlL (L A : List (List TV)) (c0 : Code) : Nat → Option (LSpec × Code) := specsL [(0, loopL 22 rlK [(3, 3)] (rlV [] L 0) (mLt L 0 []) fun K => K .normal (slotsN 22 rlK (rlV A L L.length)) (mLt L A.length []) [], c0)]
def saK : List Nat := [0, 1, 12, 13]
def saV (A : List (List TV)) (j : Int) : List TV := [.vec 3 A .none, .vec 3 A .none, .val (.int .i64 A.length), .val (.int .i64 j)]
def saL (A : List (List TV)) (c0 : Code) : Nat → Option (LSpec × Code) := specsL [(0, loopL 26 saK [] (saV A 0) ⟨[], []⟩ fun K => K .normal (slotsN 26 saK (saV A A.length)) ⟨[], []⟩ [], c0)]
set_option maxRecDepth 100000 in
theorem ev_fi (L : List (List TV)) (i r : Int) (hit : Bool) (Q : TV → VT → Prop) : vcallF Try.prog noGl noSp noOra 300 (fiL L i r hit (codeAt Try.prog rFiF 0)) 0 rFiF [.ptr 0 0, .val (.int .i64 i)] (mL L []) Q =
 ((codeAt Try.prog rFiF (0 : Nat) = codeAt Try.prog rFiF (0 : Nat)) ∧
 (((@Eq (Option Nat) .none .none) ∧
 ((@Eq (Nat) 0 0) ∧
 ((@Eq (List Nat) [] []) ∧
 (True  ∧
 ((@Eq (VT) ⟨[(.cells [(.vec 5 (L) .none)])], []⟩ ⟨[(.cells [(.vec 5 (L) .none)])], []⟩) ∧
 ((@Eq (Bool) true true) ∧
 (@Eq (List TV) [(.val (.int .i64 (i))), (.val (.int .i64 0)), (.vec 5 (L) .none), (.val (.int .i64 ((↑(List.length L) : Int)))), (.val (.int .i64 0))] [(.val (.int .i64 (i))), (.val (.int .i64 0)), (.vec 5 (L) .none), (.val (.int .i64 ((↑(List.length L) : Int)))), (.val (.int .i64 0))]))))))) ∧
 (bif hit
 then (∀ cs : List TV, Q (.val (.int .i64 (r))) ⟨[(.cells [(.vec 5 (L) .none)]), (.cells (cs))], []⟩)
 else Q (.val (.int .i64 (-1))) ⟨[(.cells [(.vec 5 (L) .none)])], []⟩))) := by kernel_rfl
set_option maxRecDepth 100000 in
theorem ev_fiA (L : List (List TV)) (i r i' a c p u : Int) (j : Nat) (Q : Exit → List TV → VT → List Nat → Nat → Prop) : vx Try.prog noGl noSp (tellS [(999998, .dead, none), (15, .elt (rwC i' a c p u), none)]) 300 noLp none 0 (loopAt Try.prog rFiF 0) (slotsN 24 fiK (fiV L i r j)) (mL L []) [] (pickS fiK Q) =
 (bif decide ((↑j : Int) < (↑(List.length L) : Int))
 then (OPure Try.prog (fun _ => .none) (.indexAddr 33 (.tmp 10) (.tmp 12)) [(10, (.vec 5 (L) .none)), (12, (.val (.int .i64 ((↑j : Int)))))] (.elt [(.val (.int .i64 (i'))), (.val (.int .u32 (a))), (.val (.int .i64 (c))), (.val (.int .i64 (p))), (.val (.int .i64 (u)))]) ∧
 (bif eqRes BinOp.eql (keyEq (Value.int IntKind.i64 i') (Value.int IntKind.i64 i))
 then Q .ret [(.val (.int .i64 (i))), (.val (.int .i64 ((↑j : Int)))), (.vec 5 (L) .none), (.val (.int .i64 ((↑(List.length L) : Int)))), (.val (.int .i64 ((↑j : Int))))] ⟨[(.cells [(.vec 5 (L) .none)]), (.cells [(.val (.int .i64 (i'))), (.val (.int .u32 (a))), (.val (.int .i64 (c))), (.val (.int .i64 (p))), (.val (.int .i64 (u)))])], []⟩ [] 24
 else Q .normal [(.val (.int .i64 (i))), (.val (.int .i64 (r))), (.vec 5 (L) .none), (.val (.int .i64 ((↑(List.length L) : Int)))), (.val (.int .i64 (IntKind.wrap IntKind.i64 ((↑j : Int) + (1 : Int)))))] ⟨[(.cells [(.vec 5 (L) .none)]), (.cells [(.val (.int .i64 (i'))), (.val (.int .u32 (a))), (.val (.int .i64 (c))), (.val (.int .i64 (p))), (.val (.int .i64 (u)))])], []⟩ [] 24))
 else Q (.exit 0) [(.val (.int .i64 (i))), (.val (.int .i64 (r))), (.vec 5 (L) .none), (.val (.int .i64 ((↑(List.length L) : Int)))), (.val (.int .i64 ((↑j : Int))))] ⟨[(.cells [(.vec 5 (L) .none)])], []⟩ [] 24) := by kernel_rfl
set_option maxRecDepth 100000 in
theorem ev_ra (L : List (List TV)) (i a c r : Int) (k : Nat) (Q : TV → VT → Prop) : vcallF Try.prog noGl (specs [(rFiF, fiW L i r)]) (tellS [(999998, .dead, none), (73, .vec 5 (L.take k) .none, none), (84, .vec 5 (L.drop k) .none, none), (74, .vec 5 (L.take k) (.tail 0 (L.take k).length), some fun T => tl5 T (L.take k).length), (78, .vec 5 (L.take k ++ [rwC i a c 0 0]) (.tail 0 ((L.take k).length + 1)), some fun T => tl5 T ((L.take k).length + 1)), (85, .vec 5 (L.take k ++ [rwC i a c 0 0] ++ L.drop k) (.tail 0 ((L.take k).length + 1 + (L.drop k).length)), some fun T => tl5 T ((L.take k).length + 1 + (L.drop k).length))]) 300 (raL L i a c k (codeAt Try.prog rAdF 1)) 0 rAdF [.ptr 0 0, .agg (siC i a c)] (mL L []) Q =
 (bif decide (i < (0 : Int))
 then Q (.val (.int .i64 2)) ⟨[(.cells [(.vec 5 (L) .none)]), (.cells [(.val (.int .i64 (i))), (.val (.int .u32 (a))), (.val (.int .i64 (c)))])], []⟩
 else (bif decide (i > (255 : Int))
 then Q (.val (.int .i64 2)) ⟨[(.cells [(.vec 5 (L) .none)]), (.cells [(.val (.int .i64 (i))), (.val (.int .u32 (a))), (.val (.int .i64 (c)))])], []⟩
 else (bif eqRes BinOp.eql (keyEq (Value.int IntKind.u32 a) (Value.int IntKind.u32 (0 : Int)))
 then Q (.val (.int .i64 2)) ⟨[(.cells [(.vec 5 (L) .none)]), (.cells [(.val (.int .i64 (i))), (.val (.int .u32 (a))), (.val (.int .i64 (c)))])], []⟩
 else (bif decide (c < (0 : Int))
 then Q (.val (.int .i64 2)) ⟨[(.cells [(.vec 5 (L) .none)]), (.cells [(.val (.int .i64 (i))), (.val (.int .u32 (a))), (.val (.int .i64 (c)))])], []⟩
 else (bif decide (c > (1000000 : Int))
 then Q (.val (.int .i64 2)) ⟨[(.cells [(.vec 5 (L) .none)]), (.cells [(.val (.int .i64 (i))), (.val (.int .u32 (a))), (.val (.int .i64 (c)))])], []⟩
 else (((@Eq (Nat) 0 0) ∧
 ((@Eq (List TV) [(.ptr 0 0), (.val (.int .i64 (i)))] [(.ptr 0 0), (.val (.int .i64 (i)))]) ∧
 (@Eq (Option VO) (.some (.cells [(.vec 5 (L) .none)])) (.some (.cells [(.vec 5 (L) .none)]))))) ∧
 (bif decide (r ≥ (0 : Int))
 then Q (.val (.int .i64 13)) ⟨[(.cells [(.vec 5 (L) .none)]), (.cells [(.val (.int .i64 (i))), (.val (.int .u32 (a))), (.val (.int .i64 (c)))])], []⟩
 else (bif decide ((↑(List.length L) : Int) ≥ (8 : Int))
 then Q (.val (.int .i64 6)) ⟨[(.cells [(.vec 5 (L) .none)]), (.cells [(.val (.int .i64 (i))), (.val (.int .u32 (a))), (.val (.int .i64 (c)))])], []⟩
 else ((codeAt Try.prog rAdF (1 : Nat) = codeAt Try.prog rAdF (1 : Nat)) ∧
 (((@Eq (Option Nat) .none .none) ∧
 ((@Eq (Nat) 0 0) ∧
 ((@Eq (List Nat) [] []) ∧
 (True  ∧
 ((@Eq (VT) ⟨[(.cells [(.vec 5 (L) .none)]), (.cells [(.val (.int .i64 (i))), (.val (.int .u32 (a))), (.val (.int .i64 (c)))])], []⟩ ⟨[(.cells [(.vec 5 (L) .none)]), (.cells [(.val (.int .i64 (i))), (.val (.int .u32 (a))), (.val (.int .i64 (c)))])], []⟩) ∧
 ((@Eq (Bool) true true) ∧
 (@Eq (List TV) [(.ptr 0 0), (.ptr 1 0), (.val (.int .i64 0))] [(.ptr 0 0), (.ptr 1 0), (.val (.int .i64 0))]))))))) ∧
 (OPure Try.prog (fun _ => .none) (.slice 33 (.tmp 71) .none (.some (.tmp 72)) .none) [(71, (.vec 5 (L) .none)), (72, (.val (.int .i64 ((↑k : Int)))))] (.vec 5 (List.take k L) .none) ∧
 (OPure Try.prog (fun _ => .none) (.slice 33 (.tmp 82) (.some (.tmp 83)) .none .none) [(82, (.vec 5 (L) .none)), (83, (.val (.int .i64 ((↑k : Int)))))] (.vec 5 (List.drop k L) .none) ∧
 (OTurn Try.prog (fun _ => .none) 0 ⟨[(.cells [(.vec 5 (L) .none)]), (.cells [(.val (.int .i64 (i))), (.val (.int .u32 (a))), (.val (.int .i64 (c)))])], []⟩ (.call ⟨(.builtin .append), #[(.tmp 67), (.tmp 73)], #[33, 33]⟩) [(67, (.vec 5 [] .full)), (73, (.vec 5 (List.take k L) .none))] (.vec 5 (List.take k L) (.tail 0 (List.length (List.take k L)))) ⟨[(.cells [(.vec 5 (L) .none)]), (.cells [(.val (.int .i64 (i))), (.val (.int .u32 (a))), (.val (.int .i64 (c)))])], [((List.length (List.take k L)), (5, false))]⟩ ∧
 (((@Eq (Option TV) (.some (.vec 5 (L) .none)) (.some (.vec 5 (L) .none))) ∧
 ((@Eq (Option TV) (.some (.agg [(.val (.int .i64 (i))), (.val (.int .u32 (a))), (.val (.int .i64 (c)))])) (.some (.agg [(.val (.int .i64 (i))), (.val (.int .u32 (a))), (.val (.int .i64 (c)))]))) ∧
 ((@Eq (Option TV) (.some (.vec 5 (L) .none)) (.some (.vec 5 (L) .none))) ∧
 True ))) ∧
 (OTurn Try.prog (fun _ => .none) 0 ⟨[(.cells [(.vec 5 (L) .none)]), (.cells [(.val (.int .i64 (i))), (.val (.int .u32 (a))), (.val (.int .i64 (c)))])], [((List.length (List.take k L)), (5, false))]⟩ (.call ⟨(.builtin .append), #[(.tmp 74), (.tmp 77)], #[33, 33]⟩) [(74, (.vec 5 (List.take k L) (.tail 0 (List.length (List.take k L))))), (77, (.vec 5 [[(.val (.int .i64 (i))), (.val (.int .u32 (a))), (.val (.int .i64 (c))), (.val (.int .i64 0)), (.val (.int .i64 0))]] .full))] (.vec 5 (List.take k L ++ [rwC i a c (0 : Int) (0 : Int)]) (.tail 0 (List.length (List.take k L) + (1 : Nat)))) ⟨[(.cells [(.vec 5 (L) .none)]), (.cells [(.val (.int .i64 (i))), (.val (.int .u32 (a))), (.val (.int .i64 (c)))])], [((List.length (List.take k L) + (1 : Nat)), (5, false))]⟩ ∧
 (((@Eq (Option TV) (.some (.vec 5 (L) .none)) (.some (.vec 5 (L) .none))) ∧
 ((@Eq (Option TV) (.some (.agg [(.val (.int .i64 (i))), (.val (.int .u32 (a))), (.val (.int .i64 (c)))])) (.some (.agg [(.val (.int .i64 (i))), (.val (.int .u32 (a))), (.val (.int .i64 (c)))]))) ∧
 ((@Eq (Option TV) (.some (.vec 5 (L) .none)) (.some (.vec 5 (L) .none))) ∧
 True ))) ∧
 (OTurn Try.prog (fun _ => .none) 0 ⟨[(.cells [(.vec 5 (L) .none)]), (.cells [(.val (.int .i64 (i))), (.val (.int .u32 (a))), (.val (.int .i64 (c)))])], [((List.length (List.take k L) + (1 : Nat)), (5, false))]⟩ (.call ⟨(.builtin .append), #[(.tmp 78), (.tmp 84)], #[33, 33]⟩) [(78, (.vec 5 (List.take k L ++ [rwC i a c (0 : Int) (0 : Int)]) (.tail 0 (List.length (List.take k L) + (1 : Nat))))), (84, (.vec 5 (List.drop k L) .none))] (.vec 5 (List.take k L ++ [rwC i a c (0 : Int) (0 : Int)] ++ List.drop k L) (.tail 0 (List.length (List.take k L) + (1 : Nat) + List.length (List.drop k L)))) ⟨[(.cells [(.vec 5 (L) .none)]), (.cells [(.val (.int .i64 (i))), (.val (.int .u32 (a))), (.val (.int .i64 (c)))])], [((List.length (List.take k L) + (1 : Nat) + List.length (List.drop k L)), (5, false))]⟩ ∧
 Q (.val (.int .i64 0)) ⟨[(.cells [(.vec 5 (List.take k L ++ [rwC i a c (0 : Int) (0 : Int)] ++ List.drop k L) (.tail 0 (List.length (List.take k L) + (1 : Nat) + List.length (List.drop k L))))]), (.cells [(.val (.int .i64 (i))), (.val (.int .u32 (a))), (.val (.int .i64 (c)))])], [((List.length (List.take k L) + (1 : Nat) + List.length (List.drop k L)), (5, false))]⟩))))))))))))))))) := by kernel_rfl
set_option maxRecDepth 100000 in
theorem ev_raA (L : List (List TV)) (i a c i' a' c' p' u' : Int) (j : Nat) (Q : Exit → List TV → VT → List Nat → Nat → Prop) : vx Try.prog noGl noSp (tellS [(999998, .dead, none), (56, .elt (rwC i' a' c' p' u'), none)]) 300 noLp none 0 (loopAt Try.prog rAdF 1) (slotsN 88 raK (raV j)) (mL L [.cells (siC i a c)]) [] (pickS raK Q) =
 (bif decide ((↑j : Int) < (↑(List.length L) : Int))
 then (OPure Try.prog (fun _ => .none) (.indexAddr 33 (.tmp 54) (.tmp 55)) [(54, (.vec 5 (L) .none)), (55, (.val (.int .i64 ((↑j : Int)))))] (.elt [(.val (.int .i64 (i'))), (.val (.int .u32 (a'))), (.val (.int .i64 (c'))), (.val (.int .i64 (p'))), (.val (.int .i64 (u')))]) ∧
 (bif decide (i' < i)
 then Q .normal [(.ptr 0 0), (.ptr 1 0), (.val (.int .i64 (IntKind.wrap IntKind.i64 ((↑j : Int) + (1 : Int)))))] ⟨[(.cells [(.vec 5 (L) .none)]), (.cells [(.val (.int .i64 (i))), (.val (.int .u32 (a))), (.val (.int .i64 (c)))])], []⟩ [] 88
 else Q (.exit 1) [(.ptr 0 0), (.ptr 1 0), (.val (.int .i64 ((↑j : Int))))] ⟨[(.cells [(.vec 5 (L) .none)]), (.cells [(.val (.int .i64 (i))), (.val (.int .u32 (a))), (.val (.int .i64 (c)))])], []⟩ [] 88))
 else Q (.exit 1) [(.ptr 0 0), (.ptr 1 0), (.val (.int .i64 ((↑j : Int))))] ⟨[(.cells [(.vec 5 (L) .none)]), (.cells [(.val (.int .i64 (i))), (.val (.int .u32 (a))), (.val (.int .i64 (c)))])], []⟩ [] 88) := by kernel_rfl
set_option maxRecDepth 100000 in
theorem ev_rr (L : List (List TV)) (i r : Int) (k : Nat) (Q : TV → VT → Prop) : vcallF Try.prog noGl (specs [(rFiF, fiW L i r)]) (tellS [(999998, .dead, none), (18, .vec 5 (L.take k) .none, none), (26, .vec 5 (L.drop (k + 1)) .none, none), (19, .vec 5 (L.take k) (.tail 0 (L.take k).length), some fun T => tl5 T (L.take k).length), (27, .vec 5 (L.take k ++ L.drop (k + 1)) (.tail 0 ((L.take k).length + (L.drop (k + 1)).length)), some fun T => tl5 T ((L.take k).length + (L.drop (k + 1)).length))]) 300 noLp 0 rRmF [.ptr 0 0, .val (.int .i64 i)] (mL L []) Q =
 (((@Eq (Nat) 0 0) ∧
 ((@Eq (List TV) [(.ptr 0 0), (.val (.int .i64 (i)))] [(.ptr 0 0), (.val (.int .i64 (i)))]) ∧
 (@Eq (Option VO) (.some (.cells [(.vec 5 (L) .none)])) (.some (.cells [(.vec 5 (L) .none)]))))) ∧
 (bif decide (r < (0 : Int))
 then Q (.val (.bool false)) ⟨[(.cells [(.vec 5 (L) .none)])], []⟩
 else (OPure Try.prog (fun _ => .none) (.slice 33 (.tmp 16) .none (.some (.tmp 17)) .none) [(16, (.vec 5 (L) .none)), (17, (.val (.int .i64 (r))))] (.vec 5 (List.take k L) .none) ∧
 (OPure Try.prog (fun _ => .none) (.slice 33 (.tmp 23) (.some (.tmp 25)) .none .none) [(23, (.vec 5 (L) .none)), (25, (.val (.int .i64 (IntKind.wrap IntKind.i64 (r + (1 : Int))))))] (.vec 5 (List.drop (k + (1 : Nat)) L) .none) ∧
 (OTurn Try.prog (fun _ => .none) 0 ⟨[(.cells [(.vec 5 (L) .none)])], []⟩ (.call ⟨(.builtin .append), #[(.tmp 12), (.tmp 18)], #[33, 33]⟩) [(12, (.vec 5 [] .full)), (18, (.vec 5 (List.take k L) .none))] (.vec 5 (List.take k L) (.tail 0 (List.length (List.take k L)))) ⟨[(.cells [(.vec 5 (L) .none)])], [((List.length (List.take k L)), (5, false))]⟩ ∧
 (((@Eq (Option TV) (.some (.vec 5 (L) .none)) (.some (.vec 5 (L) .none))) ∧
 ((@Eq (Option TV) (.some (.vec 5 (L) .none)) (.some (.vec 5 (L) .none))) ∧
 True )) ∧
 (OTurn Try.prog (fun _ => .none) 0 ⟨[(.cells [(.vec 5 (L) .none)])], [((List.length (List.take k L)), (5, false))]⟩ (.call ⟨(.builtin .append), #[(.tmp 19), (.tmp 26)], #[33, 33]⟩) [(19, (.vec 5 (List.take k L) (.tail 0 (List.length (List.take k L))))), (26, (.vec 5 (List.drop (k + (1 : Nat)) L) .none))] (.vec 5 (List.take k L ++ List.drop (k + (1 : Nat)) L) (.tail 0 (List.length (List.take k L) + List.length (List.drop (k + (1 : Nat)) L)))) ⟨[(.cells [(.vec 5 (L) .none)])], [((List.length (List.take k L) + List.length (List.drop (k + (1 : Nat)) L)), (5, false))]⟩ ∧
 Q (.val (.bool true)) ⟨[(.cells [(.vec 5 (List.take k L ++ List.drop (k + (1 : Nat)) L) (.tail 0 (List.length (List.take k L) + List.length (List.drop (k + (1 : Nat)) L))))])], [((List.length (List.take k L) + List.length (List.drop (k + (1 : Nat)) L)), (5, false))]⟩))))))) := by kernel_rfl
set_option maxRecDepth 100000 in
theorem ev_rpm (L : List (List TV)) (i c u r : Int) (k : Nat) (Q : TV → VT → Prop) : vcallF Try.prog noGl (specs [(rFiF, fiW L i r)]) (tellS [(999998, .dead, none), (37, .row 5 1 0 L.length, some fun T => T.newRow L.flatten), (52, .ptr 1 (k * 5), none), (54, .ptr 1 (k * 5), none), (53, .ptr 1 (k * 5 + 3), none), (55, .ptr 1 (k * 5 + 4), none), (500053, .val undef, some fun T => { T with objs := T.objs.set 1 (.row (setCs L.flatten (k * 5 + 3) [.val (.int .i64 c)])) }), (500055, .val undef, some fun T => { T with objs := T.objs.set 1 (.row (setCs (setCs L.flatten (k * 5 + 3) [.val (.int .i64 c)]) (k * 5 + 4) [.val (.int .i64 u)])) })]) 300 noLp 0 rRpF [.ptr 0 0, .val (.int .i64 i), .val (.int .i64 c), .val (.int .i64 u)] (mL L []) Q =
 (((@Eq (Nat) 0 0) ∧
 ((@Eq (List TV) [(.ptr 0 0), (.val (.int .i64 (i)))] [(.ptr 0 0), (.val (.int .i64 (i)))]) ∧
 (@Eq (Option VO) (.some (.cells [(.vec 5 (L) .none)])) (.some (.cells [(.vec 5 (L) .none)]))))) ∧
 (bif decide (r < (0 : Int))
 then Q (.val (.int .i64 7)) ⟨[(.cells [(.vec 5 (L) .none)])], []⟩
 else (bif decide (c < (0 : Int))
 then Q (.val (.int .i64 2)) ⟨[(.cells [(.vec 5 (L) .none)])], []⟩
 else (bif decide (c > (1000000 : Int))
 then Q (.val (.int .i64 2)) ⟨[(.cells [(.vec 5 (L) .none)])], []⟩
 else (bif decide (u < (0 : Int))
 then Q (.val (.int .i64 2)) ⟨[(.cells [(.vec 5 (L) .none)])], []⟩
 else (bif decide (u > (1099511627776 : Int))
 then Q (.val (.int .i64 2)) ⟨[(.cells [(.vec 5 (L) .none)])], []⟩
 else (OTurn Try.prog (fun _ => .none) 0 ⟨[(.cells [(.vec 5 (L) .none)])], []⟩ (.call ⟨(.builtin .append), #[(.tmp 32), (.tmp 36)], #[33, 33]⟩) [(32, (.vec 5 [] .full)), (36, (.vec 5 (L) .none))] (.row 5 1 0 (List.length L)) ⟨[(.cells [(.vec 5 (L) .none)]), (.row (List.flatten L))], []⟩ ∧
 (OPure Try.prog (fun _ => .none) (.indexAddr 33 (.tmp 43) (.tmp 44)) [(43, (.row 5 1 0 (List.length L))), (44, (.val (.int .i64 (r))))] (.ptr 1 (k * (5 : Nat))) ∧
 (OPure Try.prog (fun _ => .none) (.fieldAddr 75 (.tmp 52) 1) [(52, (.ptr 1 (k * (5 : Nat))))] (.ptr 1 (k * (5 : Nat) + (3 : Nat))) ∧
 (OTurn Try.prog (fun _ => .none) 0 ⟨[(.cells [(.row 5 1 0 (List.length L))]), (.row (List.flatten L))], []⟩ (.store 3 (.tmp 53) (.tmp 50)) [(53, (.ptr 1 (k * (5 : Nat) + (3 : Nat)))), (50, (.val (.int .i64 (c))))] (.val (.tuple #[])) ⟨[(.cells [(.row 5 1 0 (List.length L))]), (.row (setCs (List.flatten L) (k * (5 : Nat) + (3 : Nat)) [TV.val (Value.int IntKind.i64 c)]))], []⟩ ∧
 (OPure Try.prog (fun _ => .none) (.indexAddr 33 (.tmp 48) (.tmp 49)) [(48, (.row 5 1 0 (List.length L))), (49, (.val (.int .i64 (r))))] (.ptr 1 (k * (5 : Nat))) ∧
 (OPure Try.prog (fun _ => .none) (.fieldAddr 75 (.tmp 54) 2) [(54, (.ptr 1 (k * (5 : Nat))))] (.ptr 1 (k * (5 : Nat) + (4 : Nat))) ∧
 (OTurn Try.prog (fun _ => .none) 0 ⟨[(.cells [(.row 5 1 0 (List.length L))]), (.row (setCs (List.flatten L) (k * (5 : Nat) + (3 : Nat)) [TV.val (Value.int IntKind.i64 c)]))], []⟩ (.store 3 (.tmp 55) (.tmp 51)) [(55, (.ptr 1 (k * (5 : Nat) + (4 : Nat)))), (51, (.val (.int .i64 (u))))] (.val (.tuple #[])) ⟨[(.cells [(.row 5 1 0 (List.length L))]), (.row (setCs (setCs (List.flatten L) (k * (5 : Nat) + (3 : Nat)) [TV.val (Value.int IntKind.i64 c)]) (k * (5 : Nat) + (4 : Nat)) [TV.val (Value.int IntKind.i64 u)]))], []⟩ ∧
 Q (.val (.int .i64 0)) ⟨[(.cells [(.row 5 1 0 (List.length L))]), (.row (setCs (setCs (List.flatten L) (k * (5 : Nat) + (3 : Nat)) [TV.val (Value.int IntKind.i64 c)]) (k * (5 : Nat) + (4 : Nat)) [TV.val (Value.int IntKind.i64 u)]))], []⟩))))))))))))) := by kernel_rfl
set_option maxRecDepth 100000 in
theorem ev_rc (L : List (List TV)) (i n r i' a' c' p' u' : Int) (Q : TV → VT → Prop) : vcallF Try.prog noGl (specs [(rFiF, fiW L i r)]) (tellS [(999998, .dead, none), (20, .elt (rwC i' a' c' p' u'), none), (30, .elt (rwC i' a' c' p' u'), none)]) 300 noLp 0 rCpF [.ptr 0 0, .val (.int .i64 i), .val (.int .i64 n)] (mL L []) Q =
 (((@Eq (Nat) 0 0) ∧
 ((@Eq (List TV) [(.ptr 0 0), (.val (.int .i64 (i)))] [(.ptr 0 0), (.val (.int .i64 (i)))]) ∧
 (@Eq (Option VO) (.some (.cells [(.vec 5 (L) .none)])) (.some (.cells [(.vec 5 (L) .none)]))))) ∧
 (bif decide (r < (0 : Int))
 then Q (.val (.int .i64 0)) ⟨[(.cells [(.vec 5 (L) .none)])], []⟩
 else (OPure Try.prog (fun _ => .none) (.indexAddr 33 (.tmp 18) (.tmp 19)) [(18, (.vec 5 (L) .none)), (19, (.val (.int .i64 (r))))] (.elt [(.val (.int .i64 (i'))), (.val (.int .u32 (a'))), (.val (.int .i64 (c'))), (.val (.int .i64 (p'))), (.val (.int .i64 (u')))]) ∧
 (bif decide (n ≥ u')
 then Q (.val (.int .i64 0)) ⟨[(.cells [(.vec 5 (L) .none)])], []⟩
 else (OPure Try.prog (fun _ => .none) (.indexAddr 33 (.tmp 28) (.tmp 29)) [(28, (.vec 5 (L) .none)), (29, (.val (.int .i64 (r))))] (.elt [(.val (.int .i64 (i'))), (.val (.int .u32 (a'))), (.val (.int .i64 (c'))), (.val (.int .i64 (p'))), (.val (.int .i64 (u')))]) ∧
 Q (.val (.int .i64 (p'))) ⟨[(.cells [(.vec 5 (L) .none)])], []⟩))))) := by kernel_rfl
set_option maxRecDepth 100000 in
theorem ev_rb (L : List (List TV)) (n i a c : Int) (b : Bool) (Q : TV → VT → Prop) : vcallF Try.prog noGl noSp noOra 300 (rbL L n i a c b (codeAt Try.prog rBeF 0)) 0 rBeF [.ptr 0 0, .val (.int .i64 n)] (mL L []) Q =
 ((codeAt Try.prog rBeF (0 : Nat) = codeAt Try.prog rBeF (0 : Nat)) ∧
 (((@Eq (Option Nat) .none .none) ∧
 ((@Eq (Nat) 0 0) ∧
 ((@Eq (List Nat) [] []) ∧
 (True  ∧
 ((@Eq (VT) ⟨[(.cells [(.vec 5 (L) .none)]), (.cells [(.val (.int .i64 0)), (.val (.int .u32 0)), (.val (.int .i64 0))]), (.cells [(.val (.int .i64 0)), (.val (.int .u32 0)), (.val (.int .i64 0))])], []⟩ ⟨[(.cells [(.vec 5 (L) .none)]), (.cells [(.val (.int .i64 0)), (.val (.int .u32 0)), (.val (.int .i64 0))]), (.cells [(.val (.int .i64 0)), (.val (.int .u32 0)), (.val (.int .i64 0))])], []⟩) ∧
 ((@Eq (Bool) true true) ∧
 (@Eq (List TV) [(.ptr 0 0), (.val (.int .i64 (n))), (.ptr 1 0), (.ptr 2 0), (.val (.bool false)), (.vec 5 (L) .none), (.val (.int .i64 ((↑(List.length L) : Int)))), (.val (.int .i64 0))] [(.ptr 0 0), (.val (.int .i64 (n))), (.ptr 1 0), (.ptr 2 0), (.val (.bool false)), (.vec 5 (L) .none), (.val (.int .i64 ((↑(List.length L) : Int)))), (.val (.int .i64 0))]))))))) ∧
 Q (.tup [(.agg [(.val (.int .i64 (i))), (.val (.int .u32 (a))), (.val (.int .i64 (c)))]), (.val (.bool (b)))]) ⟨[(.cells [(.vec 5 (L) .none)]), (.cells [(.val (.int .i64 (i))), (.val (.int .u32 (a))), (.val (.int .i64 (c)))]), (.cells [(.val (.int .i64 (i))), (.val (.int .u32 (a))), (.val (.int .i64 (c)))])], []⟩)) := by kernel_rfl
set_option maxRecDepth 100000 in
theorem ev_rbA (L : List (List TV)) (cap : Int → Int → Int) (n i a c p u i' a' c' : Int) (b : Bool) (j : Nat) (Q : Exit → List TV → VT → List Nat → Nat → Prop) : vx Try.prog noGl (specs [(rCpF, rCpW L cap)]) (tellS [(999998, .dead, none), (17, .elt (rwC i a c p u), none)]) 300 noLp none 0 (loopAt Try.prog rBeF 0) (slotsN 43 rbK (rbV n b L j)) (mL L [.cells (siC 0 0 0), .cells (siC i' a' c')]) [] (pickS rbK Q) =
 (bif decide ((↑j : Int) < (↑(List.length L) : Int))
 then (OPure Try.prog (fun _ => .none) (.indexAddr 33 (.tmp 13) (.tmp 15)) [(13, (.vec 5 (L) .none)), (15, (.val (.int .i64 ((↑j : Int)))))] (.elt [(.val (.int .i64 (i))), (.val (.int .u32 (a))), (.val (.int .i64 (c))), (.val (.int .i64 (p))), (.val (.int .i64 (u)))]) ∧
 (((@Eq (Nat) 0 0) ∧
 (@Eq (Option VO) (.some (.cells [(.vec 5 (L) .none)])) (.some (.cells [(.vec 5 (L) .none)])))) ∧
 (bif decide (cap i n > (0 : Int))
 then (bif !b
 then Q .normal [(.ptr 0 0), (.val (.int .i64 (n))), (.ptr 1 0), (.ptr 2 0), (.val (.bool true)), (.vec 5 (L) .none), (.val (.int .i64 ((↑(List.length L) : Int)))), (.val (.int .i64 (IntKind.wrap IntKind.i64 ((↑j : Int) + (1 : Int)))))] ⟨[(.cells [(.vec 5 (L) .none)]), (.cells [(.val (.int .i64 0)), (.val (.int .u32 0)), (.val (.int .i64 0))]), (.cells [(.val (.int .i64 (i))), (.val (.int .u32 (a))), (.val (.int .i64 (c)))]), (.cells [(.val (.int .i64 (i))), (.val (.int .u32 (a))), (.val (.int .i64 (c))), (.val (.int .i64 (p))), (.val (.int .i64 (u)))])], []⟩ [] 43
 else (bif decide (c < c')
 then Q .normal [(.ptr 0 0), (.val (.int .i64 (n))), (.ptr 1 0), (.ptr 2 0), (.val (.bool true)), (.vec 5 (L) .none), (.val (.int .i64 ((↑(List.length L) : Int)))), (.val (.int .i64 (IntKind.wrap IntKind.i64 ((↑j : Int) + (1 : Int)))))] ⟨[(.cells [(.vec 5 (L) .none)]), (.cells [(.val (.int .i64 0)), (.val (.int .u32 0)), (.val (.int .i64 0))]), (.cells [(.val (.int .i64 (i))), (.val (.int .u32 (a))), (.val (.int .i64 (c)))]), (.cells [(.val (.int .i64 (i))), (.val (.int .u32 (a))), (.val (.int .i64 (c))), (.val (.int .i64 (p))), (.val (.int .i64 (u)))])], []⟩ [] 43
 else Q .normal [(.ptr 0 0), (.val (.int .i64 (n))), (.ptr 1 0), (.ptr 2 0), (.val (.bool (b))), (.vec 5 (L) .none), (.val (.int .i64 ((↑(List.length L) : Int)))), (.val (.int .i64 (IntKind.wrap IntKind.i64 ((↑j : Int) + (1 : Int)))))] ⟨[(.cells [(.vec 5 (L) .none)]), (.cells [(.val (.int .i64 0)), (.val (.int .u32 0)), (.val (.int .i64 0))]), (.cells [(.val (.int .i64 (i'))), (.val (.int .u32 (a'))), (.val (.int .i64 (c')))]), (.cells [(.val (.int .i64 (i))), (.val (.int .u32 (a))), (.val (.int .i64 (c))), (.val (.int .i64 (p))), (.val (.int .i64 (u)))])], []⟩ [] 43))
 else Q .normal [(.ptr 0 0), (.val (.int .i64 (n))), (.ptr 1 0), (.ptr 2 0), (.val (.bool (b))), (.vec 5 (L) .none), (.val (.int .i64 ((↑(List.length L) : Int)))), (.val (.int .i64 (IntKind.wrap IntKind.i64 ((↑j : Int) + (1 : Int)))))] ⟨[(.cells [(.vec 5 (L) .none)]), (.cells [(.val (.int .i64 0)), (.val (.int .u32 0)), (.val (.int .i64 0))]), (.cells [(.val (.int .i64 (i'))), (.val (.int .u32 (a'))), (.val (.int .i64 (c')))]), (.cells [(.val (.int .i64 (i))), (.val (.int .u32 (a))), (.val (.int .i64 (c))), (.val (.int .i64 (p))), (.val (.int .i64 (u)))])], []⟩ [] 43)))
 else Q (.exit 0) [(.ptr 0 0), (.val (.int .i64 (n))), (.ptr 1 0), (.ptr 2 0), (.val (.bool (b))), (.vec 5 (L) .none), (.val (.int .i64 ((↑(List.length L) : Int)))), (.val (.int .i64 ((↑j : Int))))] ⟨[(.cells [(.vec 5 (L) .none)]), (.cells [(.val (.int .i64 0)), (.val (.int .u32 0)), (.val (.int .i64 0))]), (.cells [(.val (.int .i64 (i'))), (.val (.int .u32 (a'))), (.val (.int .i64 (c')))])], []⟩ [] 43) := by kernel_rfl
set_option maxRecDepth 100000 in
theorem ev_ru (L : List (List TV)) (n m : Int) (Q : TV → VT → Prop) : vcallF Try.prog noGl noSp noOra 300 (ruL L n m (codeAt Try.prog rUnF 0)) 0 rUnF [.ptr 0 0, .val (.int .i64 n)] (mL L []) Q =
 ((codeAt Try.prog rUnF (0 : Nat) = codeAt Try.prog rUnF (0 : Nat)) ∧
 (((@Eq (Option Nat) .none .none) ∧
 ((@Eq (Nat) 0 0) ∧
 ((@Eq (List Nat) [] []) ∧
 (True  ∧
 ((@Eq (VT) ⟨[(.cells [(.vec 5 (L) .none)])], []⟩ ⟨[(.cells [(.vec 5 (L) .none)])], []⟩) ∧
 ((@Eq (Bool) true true) ∧
 (@Eq (List TV) [(.ptr 0 0), (.val (.int .i64 (n))), (.val (.int .i64 0)), (.vec 5 (L) .none), (.val (.int .i64 ((↑(List.length L) : Int)))), (.val (.int .i64 0))] [(.ptr 0 0), (.val (.int .i64 (n))), (.val (.int .i64 0)), (.vec 5 (L) .none), (.val (.int .i64 ((↑(List.length L) : Int)))), (.val (.int .i64 0))]))))))) ∧
 Q (.val (.int .i64 (m))) ⟨[(.cells [(.vec 5 (L) .none)])], []⟩)) := by kernel_rfl
set_option maxRecDepth 100000 in
theorem ev_ruA (L : List (List TV)) (cap : Int → Int → Int) (n m i a c p u : Int) (j : Nat) (Q : Exit → List TV → VT → List Nat → Nat → Prop) : vx Try.prog noGl (specs [(rCpF, rCpW L cap)]) (tellS [(999998, .dead, none), (15, .elt (rwC i a c p u), none)]) 300 noLp none 0 (loopAt Try.prog rUnF 0) (slotsN 34 ruK (ruV n m L j)) (mL L []) [] (pickS ruK Q) =
 (bif decide ((↑j : Int) < (↑(List.length L) : Int))
 then (OPure Try.prog (fun _ => .none) (.indexAddr 33 (.tmp 11) (.tmp 13)) [(11, (.vec 5 (L) .none)), (13, (.val (.int .i64 ((↑j : Int)))))] (.elt [(.val (.int .i64 (i))), (.val (.int .u32 (a))), (.val (.int .i64 (c))), (.val (.int .i64 (p))), (.val (.int .i64 (u)))]) ∧
 (((@Eq (Nat) 0 0) ∧
 (@Eq (Option VO) (.some (.cells [(.vec 5 (L) .none)])) (.some (.cells [(.vec 5 (L) .none)])))) ∧
 (bif decide (cap i n > (0 : Int))
 then (bif decide (u > m)
 then Q .normal [(.ptr 0 0), (.val (.int .i64 (n))), (.val (.int .i64 (u))), (.vec 5 (L) .none), (.val (.int .i64 ((↑(List.length L) : Int)))), (.val (.int .i64 (IntKind.wrap IntKind.i64 ((↑j : Int) + (1 : Int)))))] ⟨[(.cells [(.vec 5 (L) .none)]), (.cells [(.val (.int .i64 (i))), (.val (.int .u32 (a))), (.val (.int .i64 (c))), (.val (.int .i64 (p))), (.val (.int .i64 (u)))])], []⟩ [] 34
 else Q .normal [(.ptr 0 0), (.val (.int .i64 (n))), (.val (.int .i64 (m))), (.vec 5 (L) .none), (.val (.int .i64 ((↑(List.length L) : Int)))), (.val (.int .i64 (IntKind.wrap IntKind.i64 ((↑j : Int) + (1 : Int)))))] ⟨[(.cells [(.vec 5 (L) .none)]), (.cells [(.val (.int .i64 (i))), (.val (.int .u32 (a))), (.val (.int .i64 (c))), (.val (.int .i64 (p))), (.val (.int .i64 (u)))])], []⟩ [] 34)
 else Q .normal [(.ptr 0 0), (.val (.int .i64 (n))), (.val (.int .i64 (m))), (.vec 5 (L) .none), (.val (.int .i64 ((↑(List.length L) : Int)))), (.val (.int .i64 (IntKind.wrap IntKind.i64 ((↑j : Int) + (1 : Int)))))] ⟨[(.cells [(.vec 5 (L) .none)]), (.cells [(.val (.int .i64 (i))), (.val (.int .u32 (a))), (.val (.int .i64 (c))), (.val (.int .i64 (p))), (.val (.int .i64 (u)))])], []⟩ [] 34)))
 else Q (.exit 0) [(.ptr 0 0), (.val (.int .i64 (n))), (.val (.int .i64 (m))), (.vec 5 (L) .none), (.val (.int .i64 ((↑(List.length L) : Int)))), (.val (.int .i64 ((↑j : Int))))] ⟨[(.cells [(.vec 5 (L) .none)])], []⟩ [] 34) := by kernel_rfl
set_option maxRecDepth 100000 in
theorem ev_rl (L A : List (List TV)) (Q : TV → VT → Prop) : vcallF Try.prog noGl noSp noOra 300 (rlL L A (codeAt Try.prog rAlF 0)) 0 rAlF [.ptr 0 0] (mL L []) Q =
 ((codeAt Try.prog rAlF (0 : Nat) = codeAt Try.prog rAlF (0 : Nat)) ∧
 (((@Eq (Option Nat) .none .none) ∧
 ((@Eq (Nat) 0 0) ∧
 ((@Eq (List Nat) [] []) ∧
 (((@Eq (Option TV) (.some (.val (.slice .none 0 0))) (.some (.val (.slice .none 0 0)))) ∧
 True ) ∧
 ((@Eq (VT) ⟨[(.cells [(.vec 5 (L) .none)])], [(0, (3, true))]⟩ ⟨[(.cells [(.vec 5 (L) .none)])], [(0, (3, true))]⟩) ∧
 ((@Eq (Bool) true true) ∧
 (@Eq (List TV) [(.vec 3 [] (.tail 0 0)), (.vec 5 (L) .none), (.val (.int .i64 ((↑(List.length L) : Int)))), (.val (.int .i64 0))] [(.vec 3 [] (.tail 0 0)), (.vec 5 (L) .none), (.val (.int .i64 ((↑(List.length L) : Int)))), (.val (.int .i64 0))]))))))) ∧
 Q (.vec 3 (A) (.tail 0 (List.length A))) ⟨[(.cells [(.vec 5 (L) .none)])], [((List.length A), (3, true))]⟩)) := by kernel_rfl
set_option maxRecDepth 100000 in
theorem ev_rlA (L A : List (List TV)) (i a c p u : Int) (j : Nat) (Q : Exit → List TV → VT → List Nat → Nat → Prop) : vx Try.prog noGl noSp (tellS [(999998, .dead, none), (13, .elt (rwC i a c p u), none), (19, .vec 3 (A ++ [siC i a c]) (.tail 0 (A.length + 1)), some fun T => { T with tails := [(A.length + 1, 3, true)] })]) 300 noLp none 0 (loopAt Try.prog rAlF 0) (slotsN 22 rlK (rlV A L j)) (mLt L A.length []) [] (pickS rlK Q) =
 (bif decide ((↑j : Int) < (↑(List.length L) : Int))
 then (OPure Try.prog (fun _ => .none) (.indexAddr 33 (.tmp 9) (.tmp 11)) [(9, (.vec 5 (L) .none)), (11, (.val (.int .i64 ((↑j : Int)))))] (.elt [(.val (.int .i64 (i))), (.val (.int .u32 (a))), (.val (.int .i64 (c))), (.val (.int .i64 (p))), (.val (.int .i64 (u)))]) ∧
 (OTurn Try.prog (fun _ => .none) 0 ⟨[(.cells [(.vec 5 (L) .none)]), (.cells [(.val (.int .i64 (i))), (.val (.int .u32 (a))), (.val (.int .i64 (c))), (.val (.int .i64 (p))), (.val (.int .i64 (u)))])], [((List.length A), (3, true))]⟩ (.call ⟨(.builtin .append), #[(.tmp 15), (.tmp 18)], #[68, 68]⟩) [(15, (.vec 3 (A) (.tail 0 (List.length A)))), (18, (.vec 3 [[(.val (.int .i64 (i))), (.val (.int .u32 (a))), (.val (.int .i64 (c)))]] .full))] (.vec 3 (A ++ [siC i a c]) (.tail 0 (List.length A + (1 : Nat)))) ⟨[(.cells [(.vec 5 (L) .none)]), (.cells [(.val (.int .i64 (i))), (.val (.int .u32 (a))), (.val (.int .i64 (c))), (.val (.int .i64 (p))), (.val (.int .i64 (u)))])], [((List.length A + (1 : Nat)), (3, true))]⟩ ∧
 Q .normal [(.vec 3 (A ++ [siC i a c]) (.tail 0 (List.length A + (1 : Nat)))), (.vec 5 (L) .none), (.val (.int .i64 ((↑(List.length L) : Int)))), (.val (.int .i64 (IntKind.wrap IntKind.i64 ((↑j : Int) + (1 : Int)))))] ⟨[(.cells [(.vec 5 (L) .none)]), (.cells [(.val (.int .i64 (i))), (.val (.int .u32 (a))), (.val (.int .i64 (c))), (.val (.int .i64 (p))), (.val (.int .i64 (u)))])], [((List.length A + (1 : Nat)), (3, true))]⟩ [] 22))
 else Q (.exit 0) [(.vec 3 (A) (.tail 0 (List.length A))), (.vec 5 (L) .none), (.val (.int .i64 ((↑(List.length L) : Int)))), (.val (.int .i64 ((↑j : Int))))] ⟨[(.cells [(.vec 5 (L) .none)])], [((List.length A), (3, true))]⟩ [] 22) := by kernel_rfl
set_option maxRecDepth 100000 in
theorem ev_rco (L : List (List TV)) (Q : TV → VT → Prop) : vcallF Try.prog noGl noSp (tellS [(999998, .dead, none), (8, .vec 5 L (.tail 0 L.length), some fun T => tl5 T L.length)]) 300 noLp 0 rCoF [.ptr 0 0] (mL L []) Q =
 (OTurn Try.prog (fun _ => .none) 0 ⟨[(.cells [(.vec 5 (L) .none)])], []⟩ (.call ⟨(.builtin .append), #[(.tmp 3), (.tmp 7)], #[33, 33]⟩) [(3, (.vec 5 [] .full)), (7, (.vec 5 (L) .none))] (.vec 5 (L) (.tail 0 (List.length L))) ⟨[(.cells [(.vec 5 (L) .none)])], [((List.length L), (5, false))]⟩ ∧
 Q (.ptr 1 0) ⟨[(.cells [(.vec 5 (L) .none)]), (.cells [(.vec 5 (L) (.tail 0 (List.length L)))])], [((List.length L), (5, false))]⟩) := by kernel_rfl
set_option maxRecDepth 100000 in
theorem ev_sa (A : List (List TV)) (Q : TV → VT → Prop) : vcallF Try.prog noGl noSp noOra 300 (saL A (codeAt Try.prog rSaF 0)) 0 rSaF [.vec 3 A .none, .vec 3 A .none] ⟨[], []⟩ Q =
 (bif eqRes BinOp.neq (keyEq (Value.int IntKind.i64 (↑(List.length A) : Int)) (Value.int IntKind.i64 (↑(List.length A) : Int)))
 then Q (.val (.bool false)) ⟨[], []⟩
 else ((codeAt Try.prog rSaF (0 : Nat) = codeAt Try.prog rSaF (0 : Nat)) ∧
 (((@Eq (Option Nat) .none .none) ∧
 ((@Eq (Nat) 0 0) ∧
 ((@Eq (List Nat) [] []) ∧
 (True  ∧
 ((@Eq (VT) ⟨[], []⟩ ⟨[], []⟩) ∧
 ((@Eq (Bool) true true) ∧
 (@Eq (List TV) [(.vec 3 (A) .none), (.vec 3 (A) .none), (.val (.int .i64 ((↑(List.length A) : Int)))), (.val (.int .i64 0))] [(.vec 3 (A) .none), (.vec 3 (A) .none), (.val (.int .i64 ((↑(List.length A) : Int)))), (.val (.int .i64 0))]))))))) ∧
 Q (.val (.bool true)) ⟨[], []⟩))) := by kernel_rfl
set_option maxRecDepth 100000 in
theorem ev_saA (A : List (List TV)) (i a c : Int) (j : Nat) (Q : Exit → List TV → VT → List Nat → Nat → Prop) : vx Try.prog noGl noSp (tellS [(999998, .dead, none), (18, .elt (siC i a c), none), (22, .elt (siC i a c), none)]) 300 noLp none 0 (loopAt Try.prog rSaF 0) (slotsN 26 saK (saV A j)) ⟨[], []⟩ [] (pickS saK Q) =
 (bif decide ((↑j : Int) < (↑(List.length A) : Int))
 then (OPure Try.prog (fun _ => .none) (.indexAddr 68 (.tmp 16) (.tmp 17)) [(16, (.vec 3 (A) .none)), (17, (.val (.int .i64 ((↑j : Int)))))] (.elt [(.val (.int .i64 (i))), (.val (.int .u32 (a))), (.val (.int .i64 (c)))]) ∧
 (OPure Try.prog (fun _ => .none) (.indexAddr 68 (.tmp 20) (.tmp 21)) [(20, (.vec 3 (A) .none)), (21, (.val (.int .i64 ((↑j : Int)))))] (.elt [(.val (.int .i64 (i))), (.val (.int .u32 (a))), (.val (.int .i64 (c)))]) ∧
 (bif eqRes BinOp.neq (keyEq ((fun vs => Value.agg (List.toArray vs)) ((fun x => Value.int IntKind.i64 i :: x) ((fun x => Value.int IntKind.u32 a :: x) ((fun x => Value.int IntKind.i64 c :: x) [])))) ((fun vs => Value.agg (List.toArray vs)) ((fun x => Value.int IntKind.i64 i :: x) ((fun x => Value.int IntKind.u32 a :: x) ((fun x => Value.int IntKind.i64 c :: x) [])))))
 then Q .ret [(.vec 3 (A) .none), (.vec 3 (A) .none), (.val (.int .i64 ((↑(List.length A) : Int)))), (.val (.int .i64 ((↑j : Int))))] ⟨[], []⟩ [] 26
 else Q .normal [(.vec 3 (A) .none), (.vec 3 (A) .none), (.val (.int .i64 ((↑(List.length A) : Int)))), (.val (.int .i64 (IntKind.wrap IntKind.i64 ((↑j : Int) + (1 : Int)))))] ⟨[], []⟩ [] 26)))
 else Q (.exit 0) [(.vec 3 (A) .none), (.vec 3 (A) .none), (.val (.int .i64 ((↑(List.length A) : Int)))), (.val (.int .i64 ((↑j : Int))))] ⟨[], []⟩ [] 26) := by kernel_rfl
end Go.Proofs.Ytgconkbnokbinaa
