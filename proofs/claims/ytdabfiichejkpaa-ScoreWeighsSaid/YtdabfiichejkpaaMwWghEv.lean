/- ScoreWeighs: what the kernel leaves. -/
import Derived.Test.YtdabfiichejkpaaMwRkRef
import Derived.Test.YtdabfiichejkpaaMwWghLaw
import Derived.Test.YtdabfiichejkpaaMwScAll
import Derived.Test.YtdabfiichejkpaaMw4
namespace Go.Proofs.Ytdabfiichejkpaa
open Go.RowKit Go.Sort Go.Shelf

abbrev swF := 4
def bkT (b : Bk) : TV := .agg [.val (.int .i64 b.1), .val (.int .u32 b.2.1), .val (.int .i64 b.2.2)]
def bkD (b : Bk) : List TV := [.val (.int .i64 b.1), .val (.int .u32 b.2.1), .val (.int .i64 b.2.2)]
def swPick (R : Prop) (f : Int × Int × Int × Int × Int) (l l2 : List (List TV)) (b1 b3 : Bk) (o1 o3 : Bool) : Spec := fun _ ys T K => bif Nat.beq T.objs.length 3 then (R ∧ ys.map looseTV = [flV f, .vec 3 l .none] ∧ K (.tup [bkT b1, .val (.bool o1)]) T) else (R ∧ ys.map looseTV = [flV f, .vec 3 l2 .none] ∧ K (.tup [bkT b3, .val (.bool o3)]) T)
def swC (R : Prop) (f : Int × Int × Int × Int × Int) (l l2 : List (List TV)) (b1 b3 : Bk) (o1 o3 : Bool) : FuncId → Option Spec := specs [(9, swPick R f l l2 b1 b3 o1 o3), (8, trueW)]
def swK : List Nat := [1, 3, 5, 6, 7, 8, 9, 34, 35, 36]
def swV (l : List (List TV)) (a0 w0 j : Int) (r : Bool) : List TV := [.vec 3 l .none, .ptr 0 0, .ptr 1 0, .val (.bool r), .val (.int .u64 (IntKind.u64.wrap a0)), .val (.int .u8 w0), .map 2, .vec 3 l .none, .val (.int .i64 l.length), .val (.int .i64 j)]
def swT (f : Int × Int × Int × Int × Int) (a0 w0 : Int) (look : Value → Option TV) (es : List (Value × TV × Nat)) (ck : Nat) : VT := ⟨[flO f, .cells [.val (.int .u8 a0), .val (.int .u8 w0)], .map ⟨false, [.int .i64]⟩ look es ck], []⟩
def findRegC (id : Nat) : Code → Option Code
  | .block _ c => findRegC id c
  | .seq a b => match findRegC id a with
    | some c => some c
    | none => findRegC id b
  | .cond _ a b => match findRegC id a with
    | some c => some c
    | none => findRegC id b
  | .loop c => findRegC id c
  | .scope c => findRegC id c
  | .region i ops d => bif Nat.beq i id then some (.region i ops d) else none
  | _ => none
def regC (P : Program) (f : FuncId) (id : Nat) : Code := (findRegC id (bodyAt P f)).getD .skip
def swNw (w0 : Int) : Int := Int.tmod (IntKind.i64.wrap w0) 101
def swTell (l : List (List TV)) (w0 : Int) (k : Nat) (c c2 : Bk) : Ora := tellS [(999998, .dead, none), (59, .val (.int .u64 k), none), (60, .val (.int .i64 k), none), (63, .row 3 4 0 l.length, some fun T => T.newRow l.flatten), (66, .ptr 4 (k * 3), none), (67, .ptr 4 (k * 3 + 2), none), (68, .val (.int .i64 c.2.2), some fun T => T), (74, .ptr 4 (k * 3), none), (75, .ptr 4 (k * 3 + 2), none), (500075, .val undef, some fun T => { T with objs := T.objs.set 4 (.row (setCs l.flatten (k * 3 + 2) [.val (.int .i64 (swNw w0))])) }), (95, .elt (bkD c2), none), (105, .elt (bkD c), none), (119, .elt (bkD c2), none), (129, .elt (bkD c), none)]
def swL (R D : Prop) (f : Int × Int × Int × Int × Int) (l l2 : List (List TV)) (a0 w0 : Int) (k : Nat) (c c2 b1 b3 : Bk) (o1 o3 : Bool) (c0 c1 : Code) : Nat → Option (LSpec × Code) := specsL [(0, loopL 142 swK [] (swV l a0 w0 0 false) (swT f a0 w0 (fun _ => none) [] 0) fun K => R ∧ (D → ∀ look es ck, K .normal (slotsN 142 swK (swV l a0 w0 l.length false)) (swT f a0 w0 look es ck) []) ∧ ∀ (j : Int) look es ck x, K .ret (slotsN 142 swK (swV l a0 w0 j true)) ⟨[flO f, .cells [.val (.int .u8 a0), .val (.int .u8 w0)], .map ⟨false, [.int .i64]⟩ look es ck, x], []⟩ [], c0), (1000017, freezeL Try.prog (fun _ => none) (swC R f l l2 b1 b3 o1 o3) (swTell l w0 k c c2) 300 c1 15 3 4 0 l.length l2, c1)]
set_option maxRecDepth 100000 in
theorem ev_sw (R D : Prop) (f : Int × Int × Int × Int × Int) (l l2 : List (List TV)) (a0 w0 : Int) (k : Nat) (c c2 b1 b3 : Bk) (o1 o3 : Bool) : vcallF Try.prog (fun _ => none) (swC R f l l2 b1 b3 o1 o3) (swTell l w0 k c c2) 300 (swL R D f l l2 a0 w0 k c c2 b1 b3 o1 o3 (codeAt Try.prog swF 0) (regC Try.prog swF 17)) 0 swF [flV f, .vec 3 l .none, .agg [.val (.int .u8 a0), .val (.int .u8 w0)]] ⟨[],[]⟩ isTrueV =
 (bif eqRes BinOp.eql (keyEq (Value.int IntKind.i64 (↑(List.length l) : Int)) (Value.int IntKind.i64 (0 : Int)))
 then True 
 else (bif decide ((↑(List.length l) : Int) > (40 : Int))
 then True 
 else ((codeAt Try.prog swF (0 : Nat) = codeAt Try.prog swF (0 : Nat)) ∧
 (((@Eq (Option Nat) .none .none) ∧
 ((@Eq (Nat) 0 0) ∧
 ((@Eq (List Nat) [] []) ∧
 (True  ∧
 ((@Eq (VT) ⟨[(.cells [(.val (.int .i64 (Prod.fst f))), (.val (.int .u32 (Prod.fst (Prod.snd f)))), (.val (.int .u32 (Prod.fst (Prod.snd (Prod.snd f))))), (.val (.int .i64 (Prod.fst (Prod.snd (Prod.snd (Prod.snd f)))))), (.val (.int .i64 (Prod.snd (Prod.snd (Prod.snd (Prod.snd f))))))]), (.cells [(.val (.int .u8 (a0))), (.val (.int .u8 (w0)))]), (.map ⟨false, [(.int .i64)]⟩ (fun _ => .none) [] 0)], []⟩ ⟨[(.cells [(.val (.int .i64 (Prod.fst f))), (.val (.int .u32 (Prod.fst (Prod.snd f)))), (.val (.int .u32 (Prod.fst (Prod.snd (Prod.snd f))))), (.val (.int .i64 (Prod.fst (Prod.snd (Prod.snd (Prod.snd f)))))), (.val (.int .i64 (Prod.snd (Prod.snd (Prod.snd (Prod.snd f))))))]), (.cells [(.val (.int .u8 (a0))), (.val (.int .u8 (w0)))]), (.map ⟨false, [(.int .i64)]⟩ (fun _ => .none) [] 0)], []⟩) ∧
 ((@Eq (Bool) true true) ∧
 (@Eq (List TV) [(.vec 3 (l) .none), (.ptr 0 0), (.ptr 1 0), (.val (.bool false)), (.val (.int .u64 (IntKind.wrap IntKind.u64 a0))), (.val (.int .u8 (w0))), (.map 2), (.vec 3 (l) .none), (.val (.int .i64 ((↑(List.length l) : Int)))), (.val (.int .i64 0))] [(.vec 3 (l) .none), (.ptr 0 0), (.ptr 1 0), (.val (.bool false)), (.val (.int .u64 (IntKind.wrap IntKind.u64 a0))), (.val (.int .u8 (w0))), (.map 2), (.vec 3 (l) .none), (.val (.int .i64 ((↑(List.length l) : Int)))), (.val (.int .i64 0))]))))))) ∧
 (R  ∧
 ((D  → (∀ look : Value → Option TV, (∀ es : List (Value × TV × Nat), (∀ ck : Nat, (R  ∧
 ((@Eq (List TV) [(.agg [(.val (.int .i64 (Prod.fst f))), (.val (.int .u32 (Prod.fst (Prod.snd f)))), (.val (.int .u32 (Prod.fst (Prod.snd (Prod.snd f))))), (.val (.int .i64 (Prod.fst (Prod.snd (Prod.snd (Prod.snd f)))))), (.val (.int .i64 (Prod.snd (Prod.snd (Prod.snd (Prod.snd f))))))]), (.vec 3 (l) .none)] [(.agg [(.val (.int .i64 (Prod.fst f))), (.val (.int .u32 (Prod.fst (Prod.snd f)))), (.val (.int .u32 (Prod.fst (Prod.snd (Prod.snd f))))), (.val (.int .i64 (Prod.fst (Prod.snd (Prod.snd (Prod.snd f)))))), (.val (.int .i64 (Prod.snd (Prod.snd (Prod.snd (Prod.snd f))))))]), (.vec 3 (l) .none)]) ∧
 (OPure Try.prog (fun _ => .none) (.binOp .rem 26 (.tmp 55) (.tmp 58) 26) [(55, (.val (.int .u64 (IntKind.wrap IntKind.u64 a0)))), (58, (.val (.int .u64 (IntKind.wrap IntKind.u64 (↑(List.length l) : Int)))))] (.val (.int .u64 ((↑k : Int)))) ∧
 (OPure Try.prog (fun _ => .none) (.convert 26 3 (.tmp 59)) [(59, (.val (.int .u64 ((↑k : Int)))))] (.val (.int .i64 ((↑k : Int)))) ∧
 (OTurn Try.prog (fun _ => .none) 0 ⟨[(.cells [(.val (.int .i64 (Prod.fst f))), (.val (.int .u32 (Prod.fst (Prod.snd f)))), (.val (.int .u32 (Prod.fst (Prod.snd (Prod.snd f))))), (.val (.int .i64 (Prod.fst (Prod.snd (Prod.snd (Prod.snd f)))))), (.val (.int .i64 (Prod.snd (Prod.snd (Prod.snd (Prod.snd f))))))]), (.cells [(.val (.int .u8 (a0))), (.val (.int .u8 (w0)))]), (.map ⟨false, [(.int .i64)]⟩ (look) (es) (ck)), (.cells [(.val (.int .i64 (Prod.fst b1))), (.val (.int .u32 (Prod.fst (Prod.snd b1)))), (.val (.int .i64 (Prod.snd (Prod.snd b1))))])], []⟩ (.call ⟨(.builtin .append), #[(.tmp 61), (.tmp 62)], #[25, 25]⟩) [(61, (.vec 3 [] .full)), (62, (.vec 3 (l) .none))] (.row 3 4 0 (List.length l)) ⟨[(.cells [(.val (.int .i64 (Prod.fst f))), (.val (.int .u32 (Prod.fst (Prod.snd f)))), (.val (.int .u32 (Prod.fst (Prod.snd (Prod.snd f))))), (.val (.int .i64 (Prod.fst (Prod.snd (Prod.snd (Prod.snd f)))))), (.val (.int .i64 (Prod.snd (Prod.snd (Prod.snd (Prod.snd f))))))]), (.cells [(.val (.int .u8 (a0))), (.val (.int .u8 (w0)))]), (.map ⟨false, [(.int .i64)]⟩ (look) (es) (ck)), (.cells [(.val (.int .i64 (Prod.fst b1))), (.val (.int .u32 (Prod.fst (Prod.snd b1)))), (.val (.int .i64 (Prod.snd (Prod.snd b1))))]), (.row (List.flatten l))], []⟩ ∧
 (OPure Try.prog (fun _ => .none) (.indexAddr 25 (.tmp 64) (.tmp 65)) [(64, (.row 3 4 0 (List.length l))), (65, (.val (.int .i64 ((↑k : Int)))))] (.ptr 4 (k * (3 : Nat))) ∧
 (OPure Try.prog (fun _ => .none) (.fieldAddr 29 (.tmp 66) 2) [(66, (.ptr 4 (k * (3 : Nat))))] (.ptr 4 (k * (3 : Nat) + (2 : Nat))) ∧
 (OTurn Try.prog (fun _ => .none) 0 ⟨[(.cells [(.val (.int .i64 (Prod.fst f))), (.val (.int .u32 (Prod.fst (Prod.snd f)))), (.val (.int .u32 (Prod.fst (Prod.snd (Prod.snd f))))), (.val (.int .i64 (Prod.fst (Prod.snd (Prod.snd (Prod.snd f)))))), (.val (.int .i64 (Prod.snd (Prod.snd (Prod.snd (Prod.snd f))))))]), (.cells [(.val (.int .u8 (a0))), (.val (.int .u8 (w0)))]), (.map ⟨false, [(.int .i64)]⟩ (look) (es) (ck)), (.cells [(.val (.int .i64 (Prod.fst b1))), (.val (.int .u32 (Prod.fst (Prod.snd b1)))), (.val (.int .i64 (Prod.snd (Prod.snd b1))))]), (.row (List.flatten l))], []⟩ (.load 3 (.tmp 67)) [(67, (.ptr 4 (k * (3 : Nat) + (2 : Nat))))] (.val (.int .i64 (Prod.snd (Prod.snd c)))) ⟨[(.cells [(.val (.int .i64 (Prod.fst f))), (.val (.int .u32 (Prod.fst (Prod.snd f)))), (.val (.int .u32 (Prod.fst (Prod.snd (Prod.snd f))))), (.val (.int .i64 (Prod.fst (Prod.snd (Prod.snd (Prod.snd f)))))), (.val (.int .i64 (Prod.snd (Prod.snd (Prod.snd (Prod.snd f))))))]), (.cells [(.val (.int .u8 (a0))), (.val (.int .u8 (w0)))]), (.map ⟨false, [(.int .i64)]⟩ (look) (es) (ck)), (.cells [(.val (.int .i64 (Prod.fst b1))), (.val (.int .u32 (Prod.fst (Prod.snd b1)))), (.val (.int .i64 (Prod.snd (Prod.snd b1))))]), (.row (List.flatten l))], []⟩ ∧
 (OPure Try.prog (fun _ => .none) (.indexAddr 25 (.tmp 69) (.tmp 70)) [(69, (.row 3 4 0 (List.length l))), (70, (.val (.int .i64 ((↑k : Int)))))] (.ptr 4 (k * (3 : Nat))) ∧
 (OPure Try.prog (fun _ => .none) (.fieldAddr 29 (.tmp 74) 2) [(74, (.ptr 4 (k * (3 : Nat))))] (.ptr 4 (k * (3 : Nat) + (2 : Nat))) ∧
 (OTurn Try.prog (fun _ => .none) 0 ⟨[(.cells [(.val (.int .i64 (Prod.fst f))), (.val (.int .u32 (Prod.fst (Prod.snd f)))), (.val (.int .u32 (Prod.fst (Prod.snd (Prod.snd f))))), (.val (.int .i64 (Prod.fst (Prod.snd (Prod.snd (Prod.snd f)))))), (.val (.int .i64 (Prod.snd (Prod.snd (Prod.snd (Prod.snd f))))))]), (.cells [(.val (.int .u8 (a0))), (.val (.int .u8 (w0)))]), (.map ⟨false, [(.int .i64)]⟩ (look) (es) (ck)), (.cells [(.val (.int .i64 (Prod.fst b1))), (.val (.int .u32 (Prod.fst (Prod.snd b1)))), (.val (.int .i64 (Prod.snd (Prod.snd b1))))]), (.row (List.flatten l))], []⟩ (.store 3 (.tmp 75) (.tmp 73)) [(75, (.ptr 4 (k * (3 : Nat) + (2 : Nat)))), (73, (.val (.int .i64 (Int.tmod (IntKind.wrap IntKind.i64 w0) (101 : Int)))))] (.val (.tuple #[])) ⟨[(.cells [(.val (.int .i64 (Prod.fst f))), (.val (.int .u32 (Prod.fst (Prod.snd f)))), (.val (.int .u32 (Prod.fst (Prod.snd (Prod.snd f))))), (.val (.int .i64 (Prod.fst (Prod.snd (Prod.snd (Prod.snd f)))))), (.val (.int .i64 (Prod.snd (Prod.snd (Prod.snd (Prod.snd f))))))]), (.cells [(.val (.int .u8 (a0))), (.val (.int .u8 (w0)))]), (.map ⟨false, [(.int .i64)]⟩ (look) (es) (ck)), (.cells [(.val (.int .i64 (Prod.fst b1))), (.val (.int .u32 (Prod.fst (Prod.snd b1)))), (.val (.int .i64 (Prod.snd (Prod.snd b1))))]), (.row (setCs (List.flatten l) (k * (3 : Nat) + (2 : Nat)) [TV.val (Value.int IntKind.i64 (swNw w0))]))], []⟩ ∧
 ((regC Try.prog swF (17 : Nat) = regC Try.prog swF (17 : Nat)) ∧
 (((@Eq (Option TV) (.some (.row 3 4 0 (List.length l))) (.some (.row 3 4 0 (List.length l)))) ∧
 ((@Eq (Option (List (List TV))) (bif Nat.beq (3 : Nat) (3 : Nat) && Nat.ble (((0 : Nat) + List.length l) * (3 : Nat)) (List.length (setCs (List.flatten l) (k * (3 : Nat) + (2 : Nat)) [TV.val (Value.int IntKind.i64 (swNw w0))])) then (.some (chunks (3 : Nat) (List.length l) (List.take (List.length l * (3 : Nat)) (List.drop ((0 : Nat) * (3 : Nat)) (setCs (List.flatten l) (k * (3 : Nat) + (2 : Nat)) [TV.val (Value.int IntKind.i64 (swNw w0))]))))) else .none) (.some (l2))) ∧
 (@Eq (Bool) true true))) ∧
 (R  ∧
 ((@Eq (List TV) [(.agg [(.val (.int .i64 (Prod.fst f))), (.val (.int .u32 (Prod.fst (Prod.snd f)))), (.val (.int .u32 (Prod.fst (Prod.snd (Prod.snd f))))), (.val (.int .i64 (Prod.fst (Prod.snd (Prod.snd (Prod.snd f)))))), (.val (.int .i64 (Prod.snd (Prod.snd (Prod.snd (Prod.snd f))))))]), (.vec 3 (l2) .none)] [(.agg [(.val (.int .i64 (Prod.fst f))), (.val (.int .u32 (Prod.fst (Prod.snd f)))), (.val (.int .u32 (Prod.fst (Prod.snd (Prod.snd f))))), (.val (.int .i64 (Prod.fst (Prod.snd (Prod.snd (Prod.snd f)))))), (.val (.int .i64 (Prod.snd (Prod.snd (Prod.snd (Prod.snd f))))))]), (.vec 3 (l2) .none)]) ∧
 (bif !o1
 then True 
 else (bif !o3
 then True 
 else (bif decide (Prod.snd (Prod.snd c) > (100 : Int))
 then True 
 else (OPure Try.prog (fun _ => .none) (.indexAddr 25 (.tmp 93) (.tmp 94)) [(93, (.vec 3 (l2) .none)), (94, (.val (.int .i64 ((↑k : Int)))))] (.elt [(.val (.int .i64 (Prod.fst c2))), (.val (.int .u32 (Prod.fst (Prod.snd c2)))), (.val (.int .i64 (Prod.snd (Prod.snd c2))))]) ∧
 (bif decide (Prod.snd (Prod.snd c2) ≥ Prod.snd (Prod.snd c))
 then (OPure Try.prog (fun _ => .none) (.indexAddr 25 (.tmp 103) (.tmp 104)) [(103, (.vec 3 (l) .none)), (104, (.val (.int .i64 ((↑k : Int)))))] (.elt [(.val (.int .i64 (Prod.fst c))), (.val (.int .u32 (Prod.fst (Prod.snd c)))), (.val (.int .i64 (Prod.snd (Prod.snd c))))]) ∧
 (bif eqRes BinOp.eql (keyEq (Value.int IntKind.i64 (Prod.fst b1)) (Value.int IntKind.i64 (Prod.fst c)))
 then (bif eqRes BinOp.neq (keyEq (Value.int IntKind.i64 (Prod.fst b3)) (Value.int IntKind.i64 (Prod.fst b1)))
 then False 
 else (OPure Try.prog (fun _ => .none) (.indexAddr 25 (.tmp 117) (.tmp 118)) [(117, (.vec 3 (l2) .none)), (118, (.val (.int .i64 ((↑k : Int)))))] (.elt [(.val (.int .i64 (Prod.fst c2))), (.val (.int .u32 (Prod.fst (Prod.snd c2)))), (.val (.int .i64 (Prod.snd (Prod.snd c2))))]) ∧
 (bif decide (Prod.snd (Prod.snd c2) ≤ Prod.snd (Prod.snd c))
 then (OPure Try.prog (fun _ => .none) (.indexAddr 25 (.tmp 127) (.tmp 128)) [(127, (.vec 3 (l) .none)), (128, (.val (.int .i64 ((↑k : Int)))))] (.elt [(.val (.int .i64 (Prod.fst c))), (.val (.int .u32 (Prod.fst (Prod.snd c)))), (.val (.int .i64 (Prod.snd (Prod.snd c))))]) ∧
 (bif eqRes BinOp.neq (keyEq (Value.int IntKind.i64 (Prod.fst b1)) (Value.int IntKind.i64 (Prod.fst c)))
 then (bif eqRes BinOp.neq (keyEq (Value.int IntKind.i64 (Prod.fst b3)) (Value.int IntKind.i64 (Prod.fst b1)))
 then False 
 else True )
 else True ))
 else True )))
 else (OPure Try.prog (fun _ => .none) (.indexAddr 25 (.tmp 117) (.tmp 118)) [(117, (.vec 3 (l2) .none)), (118, (.val (.int .i64 ((↑k : Int)))))] (.elt [(.val (.int .i64 (Prod.fst c2))), (.val (.int .u32 (Prod.fst (Prod.snd c2)))), (.val (.int .i64 (Prod.snd (Prod.snd c2))))]) ∧
 (bif decide (Prod.snd (Prod.snd c2) ≤ Prod.snd (Prod.snd c))
 then (OPure Try.prog (fun _ => .none) (.indexAddr 25 (.tmp 127) (.tmp 128)) [(127, (.vec 3 (l) .none)), (128, (.val (.int .i64 ((↑k : Int)))))] (.elt [(.val (.int .i64 (Prod.fst c))), (.val (.int .u32 (Prod.fst (Prod.snd c)))), (.val (.int .i64 (Prod.snd (Prod.snd c))))]) ∧
 (bif eqRes BinOp.neq (keyEq (Value.int IntKind.i64 (Prod.fst b1)) (Value.int IntKind.i64 (Prod.fst c)))
 then (bif eqRes BinOp.neq (keyEq (Value.int IntKind.i64 (Prod.fst b3)) (Value.int IntKind.i64 (Prod.fst b1)))
 then False 
 else True )
 else True ))
 else True ))))
 else (OPure Try.prog (fun _ => .none) (.indexAddr 25 (.tmp 117) (.tmp 118)) [(117, (.vec 3 (l2) .none)), (118, (.val (.int .i64 ((↑k : Int)))))] (.elt [(.val (.int .i64 (Prod.fst c2))), (.val (.int .u32 (Prod.fst (Prod.snd c2)))), (.val (.int .i64 (Prod.snd (Prod.snd c2))))]) ∧
 (bif decide (Prod.snd (Prod.snd c2) ≤ Prod.snd (Prod.snd c))
 then (OPure Try.prog (fun _ => .none) (.indexAddr 25 (.tmp 127) (.tmp 128)) [(127, (.vec 3 (l) .none)), (128, (.val (.int .i64 ((↑k : Int)))))] (.elt [(.val (.int .i64 (Prod.fst c))), (.val (.int .u32 (Prod.fst (Prod.snd c)))), (.val (.int .i64 (Prod.snd (Prod.snd c))))]) ∧
 (bif eqRes BinOp.neq (keyEq (Value.int IntKind.i64 (Prod.fst b1)) (Value.int IntKind.i64 (Prod.fst c)))
 then (bif eqRes BinOp.neq (keyEq (Value.int IntKind.i64 (Prod.fst b3)) (Value.int IntKind.i64 (Prod.fst b1)))
 then False 
 else True )
 else True ))
 else True )))))))))))))))))))))))))) ∧
 (∀ j : Int, (∀ look : Value → Option TV, (∀ es : List (Value × TV × Nat), (∀ ck : Nat, (∀ x : VO, True ))))))))))) := by kernel_rfl
set_option maxRecDepth 100000 in
theorem ev_sw0 (f : Int × Int × Int × Int × Int) (l : List (List TV)) (a0 w0 : Int) (j : Nat) (d : Bk) (q : Bool) (look : Value → Option TV) (es : List (Value × TV × Nat)) (ck : Nat) (Q : Exit → List TV → VT → List Nat → Nat → Prop) : vx Try.prog (fun _ => none) (specs [(8, trueW)]) (tellS [(999999, .dead, none), (38, .elt (bkD d), none), (43, .val (.bool q), some fun T => T)]) 300 (fun _ => none) none 0 (loopAt Try.prog swF 0) (slotsN 142 swK (swV l a0 w0 j false)) (swT f a0 w0 look es ck) [] (pickS swK Q) =
 (bif decide ((↑j : Int) < (↑(List.length l) : Int))
 then (OPure Try.prog (fun _ => .none) (.indexAddr 25 (.tmp 34) (.tmp 36)) [(34, (.vec 3 (l) .none)), (36, (.val (.int .i64 ((↑j : Int)))))] (.elt [(.val (.int .i64 (Prod.fst d))), (.val (.int .u32 (Prod.fst (Prod.snd d)))), (.val (.int .i64 (Prod.snd (Prod.snd d))))]) ∧
 (OTurn Try.prog (fun _ => .none) 0 ⟨[(.cells [(.val (.int .i64 (Prod.fst f))), (.val (.int .u32 (Prod.fst (Prod.snd f)))), (.val (.int .u32 (Prod.fst (Prod.snd (Prod.snd f))))), (.val (.int .i64 (Prod.fst (Prod.snd (Prod.snd (Prod.snd f)))))), (.val (.int .i64 (Prod.snd (Prod.snd (Prod.snd (Prod.snd f))))))]), (.cells [(.val (.int .u8 (a0))), (.val (.int .u8 (w0)))]), (.map ⟨false, [(.int .i64)]⟩ (look) (es) (ck)), (.cells [(.val (.int .i64 (Prod.fst d))), (.val (.int .u32 (Prod.fst (Prod.snd d)))), (.val (.int .i64 (Prod.snd (Prod.snd d))))])], []⟩ (.lookup 30 (.tmp 40) (.tmp 42) false) [(40, (.map 2)), (42, (.val (.int .i64 (Prod.fst d))))] (.val (.bool (q))) ⟨[(.cells [(.val (.int .i64 (Prod.fst f))), (.val (.int .u32 (Prod.fst (Prod.snd f)))), (.val (.int .u32 (Prod.fst (Prod.snd (Prod.snd f))))), (.val (.int .i64 (Prod.fst (Prod.snd (Prod.snd (Prod.snd f)))))), (.val (.int .i64 (Prod.snd (Prod.snd (Prod.snd (Prod.snd f))))))]), (.cells [(.val (.int .u8 (a0))), (.val (.int .u8 (w0)))]), (.map ⟨false, [(.int .i64)]⟩ (look) (es) (ck)), (.cells [(.val (.int .i64 (Prod.fst d))), (.val (.int .u32 (Prod.fst (Prod.snd d)))), (.val (.int .i64 (Prod.snd (Prod.snd d))))])], []⟩ ∧
 (bif q
 then Q .ret [(.vec 3 (l) .none), (.ptr 0 0), (.ptr 1 0), (.val (.bool true)), (.val (.int .u64 (IntKind.wrap IntKind.u64 a0))), (.val (.int .u8 (w0))), (.map 2), (.vec 3 (l) .none), (.val (.int .i64 ((↑(List.length l) : Int)))), (.val (.int .i64 ((↑j : Int))))] ⟨[(.cells [(.val (.int .i64 (Prod.fst f))), (.val (.int .u32 (Prod.fst (Prod.snd f)))), (.val (.int .u32 (Prod.fst (Prod.snd (Prod.snd f))))), (.val (.int .i64 (Prod.fst (Prod.snd (Prod.snd (Prod.snd f)))))), (.val (.int .i64 (Prod.snd (Prod.snd (Prod.snd (Prod.snd f))))))]), (.cells [(.val (.int .u8 (a0))), (.val (.int .u8 (w0)))]), (.map ⟨false, [(.int .i64)]⟩ (look) (es) (ck)), (.cells [(.val (.int .i64 (Prod.fst d))), (.val (.int .u32 (Prod.fst (Prod.snd d)))), (.val (.int .i64 (Prod.snd (Prod.snd d))))])], []⟩ [] 142
 else Q .normal [(.vec 3 (l) .none), (.ptr 0 0), (.ptr 1 0), (.val (.bool false)), (.val (.int .u64 (IntKind.wrap IntKind.u64 a0))), (.val (.int .u8 (w0))), (.map 2), (.vec 3 (l) .none), (.val (.int .i64 ((↑(List.length l) : Int)))), (.val (.int .i64 (IntKind.wrap IntKind.i64 ((↑j : Int) + (1 : Int)))))] ⟨[(.cells [(.val (.int .i64 (Prod.fst f))), (.val (.int .u32 (Prod.fst (Prod.snd f)))), (.val (.int .u32 (Prod.fst (Prod.snd (Prod.snd f))))), (.val (.int .i64 (Prod.fst (Prod.snd (Prod.snd (Prod.snd f)))))), (.val (.int .i64 (Prod.snd (Prod.snd (Prod.snd (Prod.snd f))))))]), (.cells [(.val (.int .u8 (a0))), (.val (.int .u8 (w0)))]), (.map ⟨false, [(.int .i64)]⟩ (fun kk => (bif keyEq (Value.int IntKind.i64 (Prod.fst d)) kk then (.some (.val (.bool true))) else (look kk))) (mput (.int .i64 (Prod.fst d)) (.val (.bool true)) (ck) (es)) (match look (Value.int IntKind.i64 (Prod.fst d)) with
| some val => ck
| none => ck + (1 : Nat))), (.cells [(.val (.int .i64 (Prod.fst d))), (.val (.int .u32 (Prod.fst (Prod.snd d)))), (.val (.int .i64 (Prod.snd (Prod.snd d))))])], []⟩ [] 142)))
 else Q (.exit 0) [(.vec 3 (l) .none), (.ptr 0 0), (.ptr 1 0), (.val (.bool false)), (.val (.int .u64 (IntKind.wrap IntKind.u64 a0))), (.val (.int .u8 (w0))), (.map 2), (.vec 3 (l) .none), (.val (.int .i64 ((↑(List.length l) : Int)))), (.val (.int .i64 ((↑j : Int))))] ⟨[(.cells [(.val (.int .i64 (Prod.fst f))), (.val (.int .u32 (Prod.fst (Prod.snd f)))), (.val (.int .u32 (Prod.fst (Prod.snd (Prod.snd f))))), (.val (.int .i64 (Prod.fst (Prod.snd (Prod.snd (Prod.snd f)))))), (.val (.int .i64 (Prod.snd (Prod.snd (Prod.snd (Prod.snd f))))))]), (.cells [(.val (.int .u8 (a0))), (.val (.int .u8 (w0)))]), (.map ⟨false, [(.int .i64)]⟩ (look) (es) (ck))], []⟩ [] 142) := by kernel_rfl
end Go.Proofs.Ytdabfiichejkpaa
