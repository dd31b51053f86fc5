/- ScoreRanks: the law returns true, whatever comes. -/
import Derived.Test.YtdabfiichejkpaaRk4
import Derived.Test.YtdabfiichejkpaaRkRankLaw
import Derived.Test.YtdabfiichejkpaaRkScAll
namespace Go.Proofs.Ytdabfiichejkpaa
open Go.RowKit

theorem mixedP_Try : Try.prog.follows .mixedOrders = true := by kernel_rfl
theorem bodiesP_Try : bodiesOk Try.prog = true := by kernel_rfl
abbrev rkL := 7
def bkV (b : Bk) : TV := .agg [.val (.int .i64 b.1), .val (.int .u32 b.2.1), .val (.int .i64 b.2.2)]
def bkO (b : Bk) : VO := .cells [.val (.int .i64 b.1), .val (.int .u32 b.2.1), .val (.int .i64 b.2.2)]
def flO (f : Int × Int × Int × Int × Int) : VO := .cells [.val (.int .i64 f.1), .val (.int .u32 f.2.1), .val (.int .u32 f.2.2.1), .val (.int .i64 f.2.2.2.1), .val (.int .i64 f.2.2.2.2)]
def flV (f : Int × Int × Int × Int × Int) : TV := flowE f.1 f.2.1 f.2.2.1 f.2.2.2.1 f.2.2.2.2
def rkC (R : Prop) (f : Int × Int × Int × Int × Int) (l r : List (List TV)) (b : Bk) (ok : Bool) (key : Int) : FuncId → Option Spec := specs [(20, pureIf R [flV f, .vec 3 l .none] (.vec 3 r .none)), (9, pureIf R [flV f, .vec 3 l .none] (.tup [bkV b, .val (.bool ok)])), (12, pureAt [flV f] (.val (.int .u64 key))), (8, trueW)]
def rkL0 (R : Prop) (f : Int × Int × Int × Int × Int) (l r : List (List TV)) (n : Int) : LSpec := loopL 92 [1, 2, 5, 20, 21, 6, 22] [] [.vec 3 l .none, .ptr 0 0, .vec 3 r .none, .vec 3 l .none, .val (.int .i64 l.length), .val (.int .i64 0), .val (.int .i64 0)] ⟨[flO f], []⟩ fun K => R ∧ K .normal (slotsN 92 [1, 2, 5, 20, 21, 6, 22] [.vec 3 l .none, .ptr 0 0, .vec 3 r .none, .vec 3 l .none, .val (.int .i64 l.length), .val (.int .i64 n), .val (.int .i64 l.length)]) ⟨[flO f], []⟩ []
def rkL2 (R : Prop) (f : Int × Int × Int × Int × Int) (r : List (List TV)) (b : Bk) (key : Int) : LSpec := loopL 92 [5, 11, 12] [] [.vec 3 r .none, .val (.int .u64 key), .val (.int .i64 1)] ⟨[flO f, bkO b], []⟩ fun K => R ∧ K .normal (slotsN 92 [5, 11, 12] [.vec 3 r .none, .val (.int .u64 key), .val (.int .i64 (max 1 r.length : Nat))]) ⟨[flO f, bkO b], []⟩ []
def rkLs (R : Prop) (f : Int × Int × Int × Int × Int) (l r : List (List TV)) (n : Int) (b : Bk) (key : Int) (c0 c2 : Code) : Nat → Option (LSpec × Code) := specsL [(0, rkL0 R f l r n, c0), (2, rkL2 R f r b key, c2)]
def scoreF (sc : Int → Int → Int → Int) : List TV → Option TV
  | [.val (.int .u64 k), .val (.int .i64 i), .val (.int .i64 w)] => some (.val (.int .u64 (sc k i w)))
  | _ => none
set_option maxRecDepth 100000 in
theorem ev_ranks (R : Prop) (f : Int × Int × Int × Int × Int) (l r : List (List TV)) (n : Int) (b : Bk) (ok : Bool) (key : Int) : vcallF Try.prog (fun _ => none) (rkC R f l r b ok key) (tell [(50, .elt [.val (.int .i64 b.1), .val (.int .u32 b.2.1), .val (.int .i64 b.2.2)])]) 300 (rkLs R f l r n b key (codeAt Try.prog rkL 0) (codeAt Try.prog rkL 2)) 0 rkL [flV f, .vec 3 l .none] ⟨[],[]⟩ isTrueV =
 (bif decide ((↑(List.length l) : Int) > (40 : Int))
 then True 
 else (R  ∧
 ((@Eq (List TV) [(.agg [(.val (.int .i64 (Prod.fst f))), (.val (.int .u32 (Prod.fst (Prod.snd f)))), (.val (.int .u32 (Prod.fst (Prod.snd (Prod.snd f))))), (.val (.int .i64 (Prod.fst (Prod.snd (Prod.snd (Prod.snd f)))))), (.val (.int .i64 (Prod.snd (Prod.snd (Prod.snd (Prod.snd f))))))]), (.vec 3 (l) .none)] [(.agg [(.val (.int .i64 (Prod.fst f))), (.val (.int .u32 (Prod.fst (Prod.snd f)))), (.val (.int .u32 (Prod.fst (Prod.snd (Prod.snd f))))), (.val (.int .i64 (Prod.fst (Prod.snd (Prod.snd (Prod.snd f)))))), (.val (.int .i64 (Prod.snd (Prod.snd (Prod.snd (Prod.snd f))))))]), (.vec 3 (l) .none)]) ∧
 ((codeAt Try.prog rkL (0 : Nat) = codeAt Try.prog rkL (0 : Nat)) ∧
 (((@Eq (Option Nat) .none .none) ∧
 ((@Eq (Nat) 0 0) ∧
 ((@Eq (List Nat) [] []) ∧
 (True  ∧
 ((@Eq (VT) ⟨[(.cells [(.val (.int .i64 (Prod.fst f))), (.val (.int .u32 (Prod.fst (Prod.snd f)))), (.val (.int .u32 (Prod.fst (Prod.snd (Prod.snd f))))), (.val (.int .i64 (Prod.fst (Prod.snd (Prod.snd (Prod.snd f)))))), (.val (.int .i64 (Prod.snd (Prod.snd (Prod.snd (Prod.snd f))))))])], []⟩ ⟨[(.cells [(.val (.int .i64 (Prod.fst f))), (.val (.int .u32 (Prod.fst (Prod.snd f)))), (.val (.int .u32 (Prod.fst (Prod.snd (Prod.snd f))))), (.val (.int .i64 (Prod.fst (Prod.snd (Prod.snd (Prod.snd f)))))), (.val (.int .i64 (Prod.snd (Prod.snd (Prod.snd (Prod.snd f))))))])], []⟩) ∧
 ((@Eq (Bool) true true) ∧
 (@Eq (List TV) [(.vec 3 (l) .none), (.ptr 0 0), (.vec 3 (r) .none), (.vec 3 (l) .none), (.val (.int .i64 ((↑(List.length l) : Int)))), (.val (.int .i64 0)), (.val (.int .i64 0))] [(.vec 3 (l) .none), (.ptr 0 0), (.vec 3 (r) .none), (.vec 3 (l) .none), (.val (.int .i64 ((↑(List.length l) : Int)))), (.val (.int .i64 0)), (.val (.int .i64 0))]))))))) ∧
 (R  ∧
 (bif eqRes BinOp.neq (keyEq (Value.int IntKind.i64 (↑(List.length r) : Int)) (Value.int IntKind.i64 n))
 then False 
 else (R  ∧
 ((@Eq (List TV) [(.agg [(.val (.int .i64 (Prod.fst f))), (.val (.int .u32 (Prod.fst (Prod.snd f)))), (.val (.int .u32 (Prod.fst (Prod.snd (Prod.snd f))))), (.val (.int .i64 (Prod.fst (Prod.snd (Prod.snd (Prod.snd f)))))), (.val (.int .i64 (Prod.snd (Prod.snd (Prod.snd (Prod.snd f))))))]), (.vec 3 (l) .none)] [(.agg [(.val (.int .i64 (Prod.fst f))), (.val (.int .u32 (Prod.fst (Prod.snd f)))), (.val (.int .u32 (Prod.fst (Prod.snd (Prod.snd f))))), (.val (.int .i64 (Prod.fst (Prod.snd (Prod.snd (Prod.snd f)))))), (.val (.int .i64 (Prod.snd (Prod.snd (Prod.snd (Prod.snd f))))))]), (.vec 3 (l) .none)]) ∧
 (bif eqRes BinOp.neq (keyEq (Value.bool ok) (Value.bool (decide (n > (0 : Int)))))
 then False 
 else (bif ok
 then (OPure Try.prog (fun x => none) (.indexAddr 25 (.tmp 49) (.const (.int .i64 0))) [(49, (.vec 3 (r) .none))] (.elt [(.val (.int .i64 (Prod.fst b))), (.val (.int .u32 (Prod.fst (Prod.snd b)))), (.val (.int .i64 (Prod.snd (Prod.snd b))))]) ∧
 (bif eqRes BinOp.neq
  (keyEq ((fun vs => Value.agg (List.toArray vs)) ((fun x => Value.int IntKind.i64 (Prod.fst b) :: x) ((fun x => Value.int IntKind.u32 (Prod.fst (Prod.snd b)) :: x) ((fun x => Value.int IntKind.i64 (Prod.snd (Prod.snd b)) :: x) []))))
    ((fun vs => Value.agg (List.toArray vs)) ((fun x => Value.int IntKind.i64 (Prod.fst b) :: x) ((fun x => Value.int IntKind.u32 (Prod.fst (Prod.snd b)) :: x) ((fun x => Value.int IntKind.i64 (Prod.snd (Prod.snd b)) :: x) [])))))
 then False 
 else ((@Eq (List TV) [(.agg [(.val (.int .i64 (Prod.fst f))), (.val (.int .u32 (Prod.fst (Prod.snd f)))), (.val (.int .u32 (Prod.fst (Prod.snd (Prod.snd f))))), (.val (.int .i64 (Prod.fst (Prod.snd (Prod.snd (Prod.snd f)))))), (.val (.int .i64 (Prod.snd (Prod.snd (Prod.snd (Prod.snd f))))))])] [(.agg [(.val (.int .i64 (Prod.fst f))), (.val (.int .u32 (Prod.fst (Prod.snd f)))), (.val (.int .u32 (Prod.fst (Prod.snd (Prod.snd f))))), (.val (.int .i64 (Prod.fst (Prod.snd (Prod.snd (Prod.snd f)))))), (.val (.int .i64 (Prod.snd (Prod.snd (Prod.snd (Prod.snd f))))))])]) ∧
 ((codeAt Try.prog rkL (2 : Nat) = codeAt Try.prog rkL (2 : Nat)) ∧
 (((@Eq (Option Nat) .none .none) ∧
 ((@Eq (Nat) 0 0) ∧
 ((@Eq (List Nat) [] []) ∧
 (True  ∧
 ((@Eq (VT) ⟨[(.cells [(.val (.int .i64 (Prod.fst f))), (.val (.int .u32 (Prod.fst (Prod.snd f)))), (.val (.int .u32 (Prod.fst (Prod.snd (Prod.snd f))))), (.val (.int .i64 (Prod.fst (Prod.snd (Prod.snd (Prod.snd f)))))), (.val (.int .i64 (Prod.snd (Prod.snd (Prod.snd (Prod.snd f))))))]), (.cells [(.val (.int .i64 (Prod.fst b))), (.val (.int .u32 (Prod.fst (Prod.snd b)))), (.val (.int .i64 (Prod.snd (Prod.snd b))))])], []⟩ ⟨[(.cells [(.val (.int .i64 (Prod.fst f))), (.val (.int .u32 (Prod.fst (Prod.snd f)))), (.val (.int .u32 (Prod.fst (Prod.snd (Prod.snd f))))), (.val (.int .i64 (Prod.fst (Prod.snd (Prod.snd (Prod.snd f)))))), (.val (.int .i64 (Prod.snd (Prod.snd (Prod.snd (Prod.snd f))))))]), (.cells [(.val (.int .i64 (Prod.fst b))), (.val (.int .u32 (Prod.fst (Prod.snd b)))), (.val (.int .i64 (Prod.snd (Prod.snd b))))])], []⟩) ∧
 ((@Eq (Bool) true true) ∧
 (@Eq (List TV) [(.vec 3 (r) .none), (.val (.int .u64 (key))), (.val (.int .i64 1))] [(.vec 3 (r) .none), (.val (.int .u64 (key))), (.val (.int .i64 1))]))))))) ∧
 (R  ∧
 True ))))))
 else ((@Eq (List TV) [(.agg [(.val (.int .i64 (Prod.fst f))), (.val (.int .u32 (Prod.fst (Prod.snd f)))), (.val (.int .u32 (Prod.fst (Prod.snd (Prod.snd f))))), (.val (.int .i64 (Prod.fst (Prod.snd (Prod.snd (Prod.snd f)))))), (.val (.int .i64 (Prod.snd (Prod.snd (Prod.snd (Prod.snd f))))))])] [(.agg [(.val (.int .i64 (Prod.fst f))), (.val (.int .u32 (Prod.fst (Prod.snd f)))), (.val (.int .u32 (Prod.fst (Prod.snd (Prod.snd f))))), (.val (.int .i64 (Prod.fst (Prod.snd (Prod.snd (Prod.snd f)))))), (.val (.int .i64 (Prod.snd (Prod.snd (Prod.snd (Prod.snd f))))))])]) ∧
 ((codeAt Try.prog rkL (2 : Nat) = codeAt Try.prog rkL (2 : Nat)) ∧
 (((@Eq (Option Nat) .none .none) ∧
 ((@Eq (Nat) 0 0) ∧
 ((@Eq (List Nat) [] []) ∧
 (True  ∧
 ((@Eq (VT) ⟨[(.cells [(.val (.int .i64 (Prod.fst f))), (.val (.int .u32 (Prod.fst (Prod.snd f)))), (.val (.int .u32 (Prod.fst (Prod.snd (Prod.snd f))))), (.val (.int .i64 (Prod.fst (Prod.snd (Prod.snd (Prod.snd f)))))), (.val (.int .i64 (Prod.snd (Prod.snd (Prod.snd (Prod.snd f))))))]), (.cells [(.val (.int .i64 (Prod.fst b))), (.val (.int .u32 (Prod.fst (Prod.snd b)))), (.val (.int .i64 (Prod.snd (Prod.snd b))))])], []⟩ ⟨[(.cells [(.val (.int .i64 (Prod.fst f))), (.val (.int .u32 (Prod.fst (Prod.snd f)))), (.val (.int .u32 (Prod.fst (Prod.snd (Prod.snd f))))), (.val (.int .i64 (Prod.fst (Prod.snd (Prod.snd (Prod.snd f)))))), (.val (.int .i64 (Prod.snd (Prod.snd (Prod.snd (Prod.snd f))))))]), (.cells [(.val (.int .i64 (Prod.fst b))), (.val (.int .u32 (Prod.fst (Prod.snd b)))), (.val (.int .i64 (Prod.snd (Prod.snd b))))])], []⟩) ∧
 ((@Eq (Bool) true true) ∧
 (@Eq (List TV) [(.vec 3 (r) .none), (.val (.int .u64 (key))), (.val (.int .i64 1))] [(.vec 3 (r) .none), (.val (.int .u64 (key))), (.val (.int .i64 1))]))))))) ∧
 (R  ∧
 True ))))))))))))))) := by kernel_rfl
set_option maxRecDepth 100000 in
theorem ev_rk0 (f : Int × Int × Int × Int × Int) (l r : List (List TV)) (n j : Int) (b : Bk) (Q : Exit → List TV → VT → List Nat → Nat → Prop) : vx Try.prog (fun _ => none) (fun _ => none) (tell [(24, .elt [.val (.int .i64 b.1), .val (.int .u32 b.2.1), .val (.int .i64 b.2.2)])]) 300 (fun _ => none) none 0 (loopAt Try.prog rkL 0) (slotsN 92 [1, 2, 5, 20, 21, 6, 22] [.vec 3 l .none, .ptr 0 0, .vec 3 r .none, .vec 3 l .none, .val (.int .i64 l.length), .val (.int .i64 n), .val (.int .i64 j)]) ⟨[flO f], []⟩ [] (pickS [1, 2, 5, 20, 21, 6, 22] Q) =
 (bif decide (j < (↑(List.length l) : Int))
 then (OPure Try.prog (fun x => none) (.indexAddr 25 (.tmp 20) (.tmp 22)) [(20, (.vec 3 (l) .none)), (22, (.val (.int .i64 (j))))] (.elt [(.val (.int .i64 (Prod.fst b))), (.val (.int .u32 (Prod.fst (Prod.snd b)))), (.val (.int .i64 (Prod.snd (Prod.snd b))))]) ∧
 (bif decide (Prod.snd (Prod.snd b) > (0 : Int))
 then Q .normal [(.vec 3 (l) .none), (.ptr 0 0), (.vec 3 (r) .none), (.vec 3 (l) .none), (.val (.int .i64 ((↑(List.length l) : Int)))), (.val (.int .i64 (IntKind.wrap IntKind.i64 (n + (1 : Int))))), (.val (.int .i64 (IntKind.wrap IntKind.i64 (j + (1 : Int)))))] ⟨[(.cells [(.val (.int .i64 (Prod.fst f))), (.val (.int .u32 (Prod.fst (Prod.snd f)))), (.val (.int .u32 (Prod.fst (Prod.snd (Prod.snd f))))), (.val (.int .i64 (Prod.fst (Prod.snd (Prod.snd (Prod.snd f)))))), (.val (.int .i64 (Prod.snd (Prod.snd (Prod.snd (Prod.snd f))))))]), (.cells [(.val (.int .i64 (Prod.fst b))), (.val (.int .u32 (Prod.fst (Prod.snd b)))), (.val (.int .i64 (Prod.snd (Prod.snd b))))])], []⟩ [] 92
 else Q .normal [(.vec 3 (l) .none), (.ptr 0 0), (.vec 3 (r) .none), (.vec 3 (l) .none), (.val (.int .i64 ((↑(List.length l) : Int)))), (.val (.int .i64 (n))), (.val (.int .i64 (IntKind.wrap IntKind.i64 (j + (1 : Int)))))] ⟨[(.cells [(.val (.int .i64 (Prod.fst f))), (.val (.int .u32 (Prod.fst (Prod.snd f)))), (.val (.int .u32 (Prod.fst (Prod.snd (Prod.snd f))))), (.val (.int .i64 (Prod.fst (Prod.snd (Prod.snd (Prod.snd f)))))), (.val (.int .i64 (Prod.snd (Prod.snd (Prod.snd (Prod.snd f))))))]), (.cells [(.val (.int .i64 (Prod.fst b))), (.val (.int .u32 (Prod.fst (Prod.snd b)))), (.val (.int .i64 (Prod.snd (Prod.snd b))))])], []⟩ [] 92))
 else Q (.exit 0) [(.vec 3 (l) .none), (.ptr 0 0), (.vec 3 (r) .none), (.vec 3 (l) .none), (.val (.int .i64 ((↑(List.length l) : Int)))), (.val (.int .i64 (n))), (.val (.int .i64 (j)))] ⟨[(.cells [(.val (.int .i64 (Prod.fst f))), (.val (.int .u32 (Prod.fst (Prod.snd f)))), (.val (.int .u32 (Prod.fst (Prod.snd (Prod.snd f))))), (.val (.int .i64 (Prod.fst (Prod.snd (Prod.snd (Prod.snd f)))))), (.val (.int .i64 (Prod.snd (Prod.snd (Prod.snd (Prod.snd f))))))])], []⟩ [] 92) := by kernel_rfl
set_option maxRecDepth 100000 in
theorem ev_rk2 (f : Int × Int × Int × Int × Int) (r : List (List TV)) (j key : Int) (sc : Int → Int → Int → Int) (b x y : Bk) (Q : Exit → List TV → VT → List Nat → Nat → Prop) : vx Try.prog (fun _ => none) (specs [(16, fnW (scoreF sc))]) (tell [(68, .elt [.val (.int .i64 x.1), .val (.int .u32 x.2.1), .val (.int .i64 x.2.2)]), (74, .elt [.val (.int .i64 x.1), .val (.int .u32 x.2.1), .val (.int .i64 x.2.2)]), (81, .elt [.val (.int .i64 y.1), .val (.int .u32 y.2.1), .val (.int .i64 y.2.2)]), (86, .elt [.val (.int .i64 y.1), .val (.int .u32 y.2.1), .val (.int .i64 y.2.2)])]) 300 (fun _ => none) none 0 (loopAt Try.prog rkL 2) (slotsN 92 [5, 11, 12] [.vec 3 r .none, .val (.int .u64 key), .val (.int .i64 j)]) ⟨[flO f, bkO b], []⟩ [] (pickS [5, 11, 12] Q) =
 (bif decide (j < (↑(List.length r) : Int))
 then (OPure Try.prog (fun x => none) (.indexAddr 25 (.tmp 65) (.tmp 67)) [(65, (.vec 3 (r) .none)), (67, (.val (.int .i64 (IntKind.wrap IntKind.i64 (j - (1 : Int))))))] (.elt [(.val (.int .i64 (Prod.fst x))), (.val (.int .u32 (Prod.fst (Prod.snd x)))), (.val (.int .i64 (Prod.snd (Prod.snd x))))]) ∧
 (OPure Try.prog (fun x => none) (.indexAddr 25 (.tmp 71) (.tmp 73)) [(71, (.vec 3 (r) .none)), (73, (.val (.int .i64 (IntKind.wrap IntKind.i64 (j - (1 : Int))))))] (.elt [(.val (.int .i64 (Prod.fst x))), (.val (.int .u32 (Prod.fst (Prod.snd x)))), (.val (.int .i64 (Prod.snd (Prod.snd x))))]) ∧
 (OPure Try.prog (fun x => none) (.indexAddr 25 (.tmp 79) (.tmp 80)) [(79, (.vec 3 (r) .none)), (80, (.val (.int .i64 (j))))] (.elt [(.val (.int .i64 (Prod.fst y))), (.val (.int .u32 (Prod.fst (Prod.snd y)))), (.val (.int .i64 (Prod.snd (Prod.snd y))))]) ∧
 (OPure Try.prog (fun x => none) (.indexAddr 25 (.tmp 84) (.tmp 85)) [(84, (.vec 3 (r) .none)), (85, (.val (.int .i64 (j))))] (.elt [(.val (.int .i64 (Prod.fst y))), (.val (.int .u32 (Prod.fst (Prod.snd y)))), (.val (.int .i64 (Prod.snd (Prod.snd y))))]) ∧
 (bif decide (sc key (Prod.fst x) (Prod.snd (Prod.snd x)) < sc key (Prod.fst y) (Prod.snd (Prod.snd y)))
 then Q .ret [(.vec 3 (r) .none), (.val (.int .u64 (key))), (.val (.int .i64 (j)))] ⟨[(.cells [(.val (.int .i64 (Prod.fst f))), (.val (.int .u32 (Prod.fst (Prod.snd f)))), (.val (.int .u32 (Prod.fst (Prod.snd (Prod.snd f))))), (.val (.int .i64 (Prod.fst (Prod.snd (Prod.snd (Prod.snd f)))))), (.val (.int .i64 (Prod.snd (Prod.snd (Prod.snd (Prod.snd f))))))]), (.cells [(.val (.int .i64 (Prod.fst b))), (.val (.int .u32 (Prod.fst (Prod.snd b)))), (.val (.int .i64 (Prod.snd (Prod.snd b))))])], []⟩ [] 92
 else Q .normal [(.vec 3 (r) .none), (.val (.int .u64 (key))), (.val (.int .i64 (IntKind.wrap IntKind.i64 (j + (1 : Int)))))] ⟨[(.cells [(.val (.int .i64 (Prod.fst f))), (.val (.int .u32 (Prod.fst (Prod.snd f)))), (.val (.int .u32 (Prod.fst (Prod.snd (Prod.snd f))))), (.val (.int .i64 (Prod.fst (Prod.snd (Prod.snd (Prod.snd f)))))), (.val (.int .i64 (Prod.snd (Prod.snd (Prod.snd (Prod.snd f))))))]), (.cells [(.val (.int .i64 (Prod.fst b))), (.val (.int .u32 (Prod.fst (Prod.snd b)))), (.val (.int .i64 (Prod.snd (Prod.snd b))))])], []⟩ [] 92)))))
 else Q (.exit 2) [(.vec 3 (r) .none), (.val (.int .u64 (key))), (.val (.int .i64 (j)))] ⟨[(.cells [(.val (.int .i64 (Prod.fst f))), (.val (.int .u32 (Prod.fst (Prod.snd f)))), (.val (.int .u32 (Prod.fst (Prod.snd (Prod.snd f))))), (.val (.int .i64 (Prod.fst (Prod.snd (Prod.snd (Prod.snd f)))))), (.val (.int .i64 (Prod.snd (Prod.snd (Prod.snd (Prod.snd f))))))]), (.cells [(.val (.int .i64 (Prod.fst b))), (.val (.int .u32 (Prod.fst (Prod.snd b)))), (.val (.int .i64 (Prod.snd (Prod.snd b))))])], []⟩ [] 92) := by kernel_rfl

theorem opure_bk {x i : Operand} {l : List (Nat × TV)} {L : List Bk} {tok : Tok} {k : IntKind} {z : Int} {b : Bk} (hx : evOf (fun _ => none) l x = .vec 3 (L.map backE) tok) (hz : evOf (fun _ => none) l i = .val (.int k z)) (h0 : 0 ≤ z) (he : L[z.toNat]? = some b) :
    OPure Try.prog (fun _ => none) (.indexAddr 25 x i) l (.elt (backE b)) :=
  opure_index (inf := (Try.prog.info? 29).getD default) Try.underlying25 (by kernel_rfl) hx hz h0 (by rw [List.getElem?_map, he]; rfl)
theorem cond_F {b : Bool} {X Y : Prop} (h : b = false) (k : Y) : cond b X Y := by subst h; exact k
theorem cond_T {b : Bool} {X Y : Prop} (h : b = true) (k : X) : cond b X Y := by subst h; exact k
theorem ranks_loop0 (R : Prop) (f : Int × Int × Int × Int × Int) (l r : List Bk) (hl : R → l.length ≤ 1000) : ∀ rd ro σ T D K, rkL0 R f (l.map backE) (r.map backE) (cntW l) rd ro σ T D K → VWx Try.prog (fun _ => none) rd ro (codeAt Try.prog rkL 0) σ T D K := by
  refine loopL_ok fun K ⟨hR, hK⟩ => ?_
  have hl := hl hR
  let sl : Nat → List TV := fun j => [.vec 3 (l.map backE) .none, .ptr 0 0, .vec 3 (r.map backE) .none, .vec 3 (l.map backE) .none, .val (.int .i64 (l.map backE).length), .val (.int .i64 (cntW (l.take j) : Nat)), .val (.int .i64 j)]
  refine loopK (f := rkL) (id := 0) (by kernel_rfl) 92 [1, 2, 5, 20, 21, 6, 22] (fun j => l.length - j) sl (fun _ => ⟨[flO f], []⟩) (fun j => j ≤ l.length) 1 0 (fun _ _ => ⟨Nat.le_refl _, Nat.le_refl _⟩)
    (fun e vs T => e = .normal ∧ vs = sl l.length ∧ T = ⟨[flO f], []⟩) (fun j hj => ?_) 0 (Nat.zero_le _) K (fun e vs T ⟨h1, h2, h3⟩ => ?_)
  · obtain ⟨b, hb⟩ : ∃ b, j < l.length → l[j]? = some b := by
      by_cases h : j < l.length
      · exact ⟨_, fun _ => List.getElem?_eq_getElem h⟩
      · exact ⟨(0, 0, 0), fun h' => absurd h' h⟩
    refine vx_is mixedP_Try bodiesP_Try specsOk_none lsOk_none (ev_rk0 f (l.map backE) (r.map backE) (cntW (l.take j) : Nat) j b _) ?_
    by_cases hlt : j < l.length
    · have hb := hb hlt
      have hw := wrapN j (by omega)
      have hc := cntW_le (l.take j)
      have hlen : (l.take j).length ≤ l.length := by simp; omega
      have hw2 := wrapN (cntW (l.take j)) (by omega)
      have hst := cntW_step l j b hb
      refine cond_T (by simpa using hlt) ⟨opure_bk rfl rfl (Int.natCast_nonneg _) (by simpa using hb), cond_of (fun hwt => ?_) (fun hwt => ?_)⟩
      · refine ⟨rfl, rfl, j + 1, hlt, by simp only; omega, .inr ⟨rfl, ?_⟩⟩
        rw [if_pos (by simpa using hwt)] at hst
        simp only [sl, renL, TV.ren, ren_backE, Tok.ren, hst, hw, hw2]
        rfl
      · refine ⟨rfl, rfl, j + 1, hlt, by simp only; omega, .inr ⟨rfl, ?_⟩⟩
        rw [if_neg (by simpa using hwt)] at hst
        simp only [sl, renL, TV.ren, ren_backE, Tok.ren, hst, hw]
        rfl
    · obtain rfl : j = l.length := by omega
      exact cond_F (by simp) ⟨rfl, rfl, rfl, rfl, rfl⟩
  · subst h1 h2 h3
    simpa [sl] using hK
theorem ranks_loop2 (R : Prop) (f : Int × Int × Int × Int × Int) (r : List Bk) (b : Bk) (key : Int) (hl : R → r.length ≤ 1000) (hfall : ∀ (i : Nat) x y, r[i]? = some x → r[i + 1]? = some y → scoreZ key y.1 y.2.2 ≤ scoreZ key x.1 x.2.2) :
    ∀ rd ro σ T D K, rkL2 R f (r.map backE) b key rd ro σ T D K → VWx Try.prog (fun _ => none) rd ro (codeAt Try.prog rkL 2) σ T D K := by
  refine loopL_ok fun K ⟨hR, hK⟩ => ?_
  have hl := hl hR
  let sl : Nat → List TV := fun j => [.vec 3 (r.map backE) .none, .val (.int .u64 key), .val (.int .i64 j)]
  have hC : SpecsOk Try.prog (fun _ => none) (specs [(16, fnW (scoreF scoreZ))]) := specs_ok fun p hp => by
    obtain rfl := List.mem_singleton.1 hp
    refine fnW_ok gvals_none fun ys y hy => ?_
    unfold scoreF at hy
    split at hy
    · injection hy with hy; subst hy
      exact ⟨rfl, fun _ _ => rfl, VCx.ofCalls rfl (vscore _ _ _) fun _ _ => rfl⟩
    · cases hy
  refine loopK (f := rkL) (id := 2) (by kernel_rfl) 92 [5, 11, 12] (fun j => max 1 r.length - j) sl (fun _ => ⟨[flO f, bkO b], []⟩) (fun j => 1 ≤ j ∧ j ≤ max 1 r.length) 2 0 (fun _ _ => ⟨Nat.le_refl _, Nat.le_refl _⟩)
    (fun e vs T => e = .normal ∧ vs = sl (max 1 r.length) ∧ T = ⟨[flO f, bkO b], []⟩) (fun j hj => ?_) 1 ⟨Nat.le_refl _, Nat.le_max_left _ _⟩ K (fun e vs T ⟨h1, h2, h3⟩ => ?_)
  · obtain ⟨x, y, hx, hy⟩ : ∃ x y, (j < r.length → r[j - 1]? = some x) ∧ (j < r.length → r[j]? = some y) := by
      by_cases h : j < r.length
      · exact ⟨_, _, fun _ => List.getElem?_eq_getElem (show j - 1 < r.length by omega), fun _ => List.getElem?_eq_getElem h⟩
      · exact ⟨(0, 0, 0), (0, 0, 0), fun h' => absurd h' h, fun h' => absurd h' h⟩
    refine vx_is mixedP_Try bodiesP_Try hC lsOk_none (ev_rk2 f (r.map backE) j key scoreZ b x y _) ?_
    by_cases hlt : j < r.length
    · have hx := hx hlt
      have hy := hy hlt
      have hw := wrapN j (by omega)
      have hwm : IntKind.i64.wrap ((j : Int) - 1) = ((j - 1 : Nat) : Int) := by simp only [IntKind.wrap, IntKind.bits, IntKind.signed]; simp; omega
      have hf := hfall (j - 1) x y hx (by rw [show j - 1 + 1 = j by omega]; exact hy)
      rw [hwm]
      refine cond_T (by simpa using hlt) ⟨opure_bk rfl rfl (Int.natCast_nonneg _) (by simpa using hx), opure_bk rfl rfl (Int.natCast_nonneg _) (by simpa using hx), opure_bk rfl rfl (Int.natCast_nonneg _) (by simpa using hy), opure_bk rfl rfl (Int.natCast_nonneg _) (by simpa using hy),
        cond_F (by simpa using hf) ⟨rfl, rfl, j + 1, ⟨by omega, by omega⟩, by simp only; omega, .inr ⟨rfl, ?_⟩⟩⟩
      simp only [sl, renL, TV.ren, ren_backE, Tok.ren, hw]
    · obtain rfl : j = max 1 r.length := by omega
      exact cond_F (by simp; omega) ⟨rfl, rfl, rfl, rfl, rfl⟩
  · subst h1 h2 h3
    simpa [sl] using hK
/-- the law -/
theorem law_ranks (f : Int × Int × Int × Int × Int) (l : List Bk) : VCx Try.prog (fun _ => none) 0 rkL [flV f, .vec 3 (l.map backE) .none] ⟨[], []⟩ isTrueV := by
  let key := flowK f.1 f.2.1 f.2.2.1 f.2.2.2.1 f.2.2.2.2
  let ss := sortS (seatsL key 0 l)
  let r := rankL key l
  have hss : ss.length = cntW l := by rw [sortS_len, seats_count]
  have hrl : r.length = cntW l := by rw [show r.length = ss.length from atL_len _ _, hss]
  have hcl := cntW_le l
  have hse : l.length ≤ 40 → _ := fun h => vseats f.1 f.2.1 f.2.2.1 f.2.2.2.1 f.2.2.2.2 l (by omega)
  have hrank : l.length ≤ 40 → VCx Try.prog (fun _ => none) 0 20 [flV f, .vec 3 (l.map backE) .none] ⟨[], []⟩ fun x T' => x = .vec 3 (r.map backE) .none ∧ T' = ⟨[], []⟩ := fun h =>
    VCx.ofCalls (by simp only [flV, flowE, renL, TV.ren, ren_backE, Tok.ren]) (vrank ss _ _ _ _ _ l (by omega) (hse h) (by omega) (rank_bound key l)) fun _ _ => by simp only [TV.ren, ren_backE, Tok.ren]
  obtain ⟨b, ok, hpick, hok, hb0⟩ : ∃ b ok, (l.length ≤ 40 → VCx Try.prog (fun _ => none) 0 9 [flV f, .vec 3 (l.map backE) .none] ⟨[], []⟩ fun x T' => x = .tup [bkV b, .val (.bool ok)] ∧ T' = ⟨[], []⟩) ∧ ok = decide (0 < cntW l) ∧ (ok = true → r[0]? = some b) := by
    have hren : renL (nameIn []) (nameIn []) [flV f, .vec 3 (l.map backE) .none] = [flV f, .vec 3 (l.map backE) .none] := by simp only [flV, flowE, renL, TV.ren, ren_backE, Tok.ren]
    cases e : ss with
    | nil =>
      have h0 : cntW l = 0 := by rw [← hss, e]; rfl
      exact ⟨(0, 0, 0), false, fun h => VCx.ofCalls hren (vpick_none ss _ _ _ _ _ l (hse h) e) fun _ _ => rfl, by simp [h0], fun h => by cases h⟩
    | cons q t =>
      have h0 : 0 < cntW l := by rw [← hss, e]; exact Nat.zero_lt_succ _
      have hq := rank_bound key l q (by show q ∈ ss; rw [e]; simp)
      obtain ⟨b, hb⟩ : ∃ b, l[q.1.toNat]? = some b := ⟨_, List.getElem?_eq_getElem hq.2⟩
      refine ⟨b, true, fun h => VCx.ofCalls hren (vpick_some ss _ _ _ _ _ l (hse h) q.1.toNat q.2 t (by rw [e]; congr 1; rw [Int.toNat_of_nonneg hq.1]) b hb) fun _ _ => rfl, by simp [h0], fun _ => ?_⟩
      show (atL l ss)[0]? = some b
      rw [e]
      simp [atL, getElem!_def, hb]
  have hC : SpecsOk Try.prog (fun _ => none) (rkC (l.length ≤ 40) f (l.map backE) (r.map backE) b ok key) := specs_ok fun p hp => by
    simp only [List.mem_cons, List.not_mem_nil, or_false] at hp
    rcases hp with rfl | rfl | rfl | rfl
    · exact pureIf_ok gvals_none (by simp only [flV, flowE, renL, TV.ren, ren_backE, Tok.ren]) (fun _ _ => by simp only [TV.ren, ren_backE, Tok.ren]) hrank
    · exact pureIf_ok gvals_none (by simp only [flV, flowE, renL, TV.ren, ren_backE, Tok.ren]) (fun _ _ => rfl) hpick
    · exact pureAt_ok gvals_none rfl (fun _ _ => rfl) (VCx.ofCalls rfl (vkey _ _ _ _ _) fun _ _ => rfl)
    · refine trueW_ok gvals_none ((VCx.ofCalls rfl vlives fun _ _ => rfl).mono fun x T' h => ?_)
      rw [h.1]; exact trivial
  have hL : LsOk Try.prog (fun _ => none) (rkLs (l.length ≤ 40) f (l.map backE) (r.map backE) (cntW l) b key (codeAt Try.prog rkL 0) (codeAt Try.prog rkL 2)) := specsL_ok fun p hp => by
    simp only [List.mem_cons, List.not_mem_nil, or_false] at hp
    rcases hp with rfl | rfl
    · exact ranks_loop0 _ f l r (fun h => by omega)
    · refine ranks_loop2 _ f r b key (fun h => by omega) fun i x y hx hy => ?_
      obtain ⟨qx, hqx⟩ : ∃ q, ss[i]? = some q := ⟨_, List.getElem?_eq_getElem (by have := (List.getElem?_eq_some_iff.1 hx).1; omega)⟩
      obtain ⟨qy, hqy⟩ : ∃ q, ss[i + 1]? = some q := ⟨_, List.getElem?_eq_getElem (by have := (List.getElem?_eq_some_iff.1 hy).1; omega)⟩
      obtain ⟨b1, h1, h2, _⟩ := rank_at key l i qx hqx
      obtain ⟨b2, h3, h4, _⟩ := rank_at key l (i + 1) qy hqy
      have e1 : some x = some b1 := hx.symm.trans h1
      have e2 : some y = some b2 := hy.symm.trans h3
      injection e1 with e1; injection e2 with e2
      subst e1 e2
      rw [h2, h4]
      exact rank_fall (seatsL key 0 l) i qx qy hqx hqy
  refine vcallF_is mixedP_Try bodiesP_Try hC hL (ev_ranks (l.length ≤ 40) f (l.map backE) (r.map backE) (cntW l) b ok key) ?_
  refine cond_of (fun _ => trivial) fun hle => ?_
  have hR : l.length ≤ 40 := by have := hle; simp at this; omega
  refine ⟨hR, rfl, rfl, ⟨rfl, rfl, rfl, trivial, rfl, rfl, rfl⟩, hR, cond_F (by simp [eqRes, keyEq, cellEq, hrl]) ⟨hR, rfl, cond_F (by simp [eqRes, keyEq, cellEq, hok]) (cond_of (fun h => ⟨opure_bk rfl rfl (Int.le_refl _) (hb0 h), cond_F (by simp [eqRes, keyEq, eqAll, cellEq]) ⟨rfl, rfl, ⟨rfl, rfl, rfl, trivial, rfl, rfl, rfl⟩, hR, trivial⟩⟩) fun _ => ⟨rfl, rfl, ⟨rfl, rfl, rfl, trivial, rfl, rfl, rfl⟩, hR, trivial⟩)⟩⟩
end Go.Proofs.Ytdabfiichejkpaa
