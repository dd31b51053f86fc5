/- MessageLengths: what the kernel leaves of the law. -/
import Derived.Test.YtkfinpehpcbooaaDoorMlLeastG
import Derived.Test.YtkfinpehpcbooaaDoorMl4
namespace Go.Proofs.YtkfinpehpcbooaaDoor
open Go.RowKit

def mlM : List TV := List.replicate 16 (.val (.int .u8 255))
def mlR (a b k : Int) : VO := .row (mlM ++ [.val (.int .u8 a), .val (.int .u8 b), .val (.int .u8 k)])
def mlQ (a b : Int) : VO := .row [.val (.int .u8 a), .val (.int .u8 b)]
def mlT1 (a b k : Int) : VT := ⟨[mlR a b k, .cells [.val (.int .i64 1), .val (.int .i64 2), .row 1 2 0 2], mlQ a b, .cells mlM, .cells mlM, .cells [.val (.int .i64 1), .val (.int .i64 2), .row 1 2 0 2]], []⟩
def mlY1 : TV := .tup [.val (.int .i64 0), .val (.int .i64 0), .agg [.val (.int .i64 1), .val (.int .i64 2), .row 1 2 0 2]]
def mlT2 (a b k : Int) : VT := ⟨[mlR a b k, .cells [.val (.int .i64 1), .val (.int .i64 3), .vec 1 [[.val (.int .u8 k)]] .full], mlQ a b, .cells mlM, .cells mlM, .cells [.val (.int .i64 1), .val (.int .i64 3), .vec 1 [[.val (.int .u8 k)]] .full]], []⟩
def mlY2 (k : Int) : TV := .tup [.val (.int .i64 0), .val (.int .i64 0), .agg [.val (.int .i64 1), .val (.int .i64 3), .vec 1 [[.val (.int .u8 k)]] .full]]
def mlT3 (a b k : Int) : VT := ⟨[mlR a b k, .cells [.val (.int .i64 0), .val (.int .i64 0), .val (.slice none 0 0)], mlQ a b, .cells mlM, .cells mlM], []⟩
def mlY3 (l k : Int) : TV := .tup [.val (.int .i64 l), .val (.int .i64 k), .agg [.val (.int .i64 0), .val (.int .i64 0), .val (.slice none 0 0)]]
def mlA (n : Int) : Int := IntKind.wrap IntKind.u8 (Int.fdiv n ((2 : Int) ^ min (Int.toNat (8 : Int)) (IntKind.bits IntKind.u16)))
def mlB (n : Int) : Int := IntKind.wrap IntKind.u8 n
def mlW (n k : Int) (R : Prop) (y : TV) (T1 : VT) : Spec := fun ro ys T K => (ro = 0 ∧ ys = [.row 1 0 0 19] ∧ T = ⟨[mlR (mlA n) (mlB n) k], []⟩) ∧ R ∧ K y T1
abbrev mlLaw := 3
abbrev mlHead := 4
set_option maxRecDepth 100000 in
theorem ev_ml1 (n k : Int) (R : Prop) : vcallF Tryd.prog leastG (specs [(5, trueW), (mlHead, mlW n k R mlY1 (mlT1 (mlA n) (mlB n) k))]) (tell [(999998, .dead)]) 3000 (fun _ => none) 0 mlLaw [.val (.int .u16 n), .val (.int .u8 k)] ⟨[],[]⟩ isTrueV =
 (((@Eq (Nat) 0 0) ∧
 ((@Eq (List TV) [(.row 1 0 0 19)] [(.row 1 0 0 19)]) ∧
 (@Eq (VT) ⟨[(.row [(.val (.int .u8 255)), (.val (.int .u8 255)), (.val (.int .u8 255)), (.val (.int .u8 255)), (.val (.int .u8 255)), (.val (.int .u8 255)), (.val (.int .u8 255)), (.val (.int .u8 255)), (.val (.int .u8 255)), (.val (.int .u8 255)), (.val (.int .u8 255)), (.val (.int .u8 255)), (.val (.int .u8 255)), (.val (.int .u8 255)), (.val (.int .u8 255)), (.val (.int .u8 255)), (.val (.int .u8 (mlA n))), (.val (.int .u8 (mlB n))), (.val (.int .u8 (k)))])], []⟩ ⟨[(.row [(.val (.int .u8 255)), (.val (.int .u8 255)), (.val (.int .u8 255)), (.val (.int .u8 255)), (.val (.int .u8 255)), (.val (.int .u8 255)), (.val (.int .u8 255)), (.val (.int .u8 255)), (.val (.int .u8 255)), (.val (.int .u8 255)), (.val (.int .u8 255)), (.val (.int .u8 255)), (.val (.int .u8 255)), (.val (.int .u8 255)), (.val (.int .u8 255)), (.val (.int .u8 255)), (.val (.int .u8 (mlA n))), (.val (.int .u8 (mlB n))), (.val (.int .u8 (k)))])], []⟩))) ∧
 (R  ∧
 (bif eqRes BinOp.eql (keyEq (Value.int IntKind.u8 k) (Value.int IntKind.u8 (1 : Int)))
 then (bif decide (n < (19 : Int))
 then (bif eqRes BinOp.eql (keyEq (Value.string (bstrZ ((fun x => mlA n :: x) ((fun x => mlB n :: x) [])))) (Value.string (bstrZ ((fun x => mlA n :: x) ((fun x => mlB n :: x) [])))))
 then True 
 else False )
 else (bif decide (n > (4096 : Int))
 then (bif eqRes BinOp.eql (keyEq (Value.string (bstrZ ((fun x => mlA n :: x) ((fun x => mlB n :: x) [])))) (Value.string (bstrZ ((fun x => mlA n :: x) ((fun x => mlB n :: x) [])))))
 then True 
 else False )
 else (bif decide (k < (1 : Int))
 then False 
 else (bif decide (k > (4 : Int))
 then False 
 else (bif decide (IntKind.wrap IntKind.i64 n < (29 : Int))
 then (bif eqRes BinOp.eql (keyEq (Value.string (bstrZ ((fun x => mlA n :: x) ((fun x => mlB n :: x) [])))) (Value.string (bstrZ ((fun x => mlA n :: x) ((fun x => mlB n :: x) [])))))
 then True 
 else False )
 else (bif eqRes BinOp.eql (keyEq (Value.int IntKind.u8 k) (Value.int IntKind.u8 (4 : Int)))
 then (bif eqRes BinOp.neq (keyEq (Value.int IntKind.u16 n) (Value.int IntKind.u16 (19 : Int)))
 then (bif eqRes BinOp.eql (keyEq (Value.string (bstrZ ((fun x => mlA n :: x) ((fun x => mlB n :: x) [])))) (Value.string (bstrZ ((fun x => mlA n :: x) ((fun x => mlB n :: x) [])))))
 then True 
 else False )
 else False )
 else False ))))))
 else (bif eqRes BinOp.eql (keyEq (Value.int IntKind.u8 k) (Value.int IntKind.u8 (2 : Int)))
 then (bif decide (n < (19 : Int))
 then (bif eqRes BinOp.eql (keyEq (Value.string (bstrZ ((fun x => mlA n :: x) ((fun x => mlB n :: x) [])))) (Value.string (bstrZ ((fun x => mlA n :: x) ((fun x => mlB n :: x) [])))))
 then True 
 else False )
 else (bif decide (n > (4096 : Int))
 then (bif eqRes BinOp.eql (keyEq (Value.string (bstrZ ((fun x => mlA n :: x) ((fun x => mlB n :: x) [])))) (Value.string (bstrZ ((fun x => mlA n :: x) ((fun x => mlB n :: x) [])))))
 then True 
 else False )
 else (bif decide (k < (1 : Int))
 then False 
 else (bif decide (k > (4 : Int))
 then False 
 else (bif decide (IntKind.wrap IntKind.i64 n < (23 : Int))
 then (bif eqRes BinOp.eql (keyEq (Value.string (bstrZ ((fun x => mlA n :: x) ((fun x => mlB n :: x) [])))) (Value.string (bstrZ ((fun x => mlA n :: x) ((fun x => mlB n :: x) [])))))
 then True 
 else False )
 else (bif eqRes BinOp.eql (keyEq (Value.int IntKind.u8 k) (Value.int IntKind.u8 (4 : Int)))
 then (bif eqRes BinOp.neq (keyEq (Value.int IntKind.u16 n) (Value.int IntKind.u16 (19 : Int)))
 then (bif eqRes BinOp.eql (keyEq (Value.string (bstrZ ((fun x => mlA n :: x) ((fun x => mlB n :: x) [])))) (Value.string (bstrZ ((fun x => mlA n :: x) ((fun x => mlB n :: x) [])))))
 then True 
 else False )
 else False )
 else False ))))))
 else (bif eqRes BinOp.eql (keyEq (Value.int IntKind.u8 k) (Value.int IntKind.u8 (3 : Int)))
 then (bif decide (n < (19 : Int))
 then (bif eqRes BinOp.eql (keyEq (Value.string (bstrZ ((fun x => mlA n :: x) ((fun x => mlB n :: x) [])))) (Value.string (bstrZ ((fun x => mlA n :: x) ((fun x => mlB n :: x) [])))))
 then True 
 else False )
 else (bif decide (n > (4096 : Int))
 then (bif eqRes BinOp.eql (keyEq (Value.string (bstrZ ((fun x => mlA n :: x) ((fun x => mlB n :: x) [])))) (Value.string (bstrZ ((fun x => mlA n :: x) ((fun x => mlB n :: x) [])))))
 then True 
 else False )
 else (bif decide (k < (1 : Int))
 then False 
 else (bif decide (k > (4 : Int))
 then False 
 else (bif decide (IntKind.wrap IntKind.i64 n < (21 : Int))
 then (bif eqRes BinOp.eql (keyEq (Value.string (bstrZ ((fun x => mlA n :: x) ((fun x => mlB n :: x) [])))) (Value.string (bstrZ ((fun x => mlA n :: x) ((fun x => mlB n :: x) [])))))
 then True 
 else False )
 else (bif eqRes BinOp.eql (keyEq (Value.int IntKind.u8 k) (Value.int IntKind.u8 (4 : Int)))
 then (bif eqRes BinOp.neq (keyEq (Value.int IntKind.u16 n) (Value.int IntKind.u16 (19 : Int)))
 then (bif eqRes BinOp.eql (keyEq (Value.string (bstrZ ((fun x => mlA n :: x) ((fun x => mlB n :: x) [])))) (Value.string (bstrZ ((fun x => mlA n :: x) ((fun x => mlB n :: x) [])))))
 then True 
 else False )
 else False )
 else False ))))))
 else (bif decide (n < (19 : Int))
 then (bif eqRes BinOp.eql (keyEq (Value.string (bstrZ ((fun x => mlA n :: x) ((fun x => mlB n :: x) [])))) (Value.string (bstrZ ((fun x => mlA n :: x) ((fun x => mlB n :: x) [])))))
 then True 
 else False )
 else (bif decide (n > (4096 : Int))
 then (bif eqRes BinOp.eql (keyEq (Value.string (bstrZ ((fun x => mlA n :: x) ((fun x => mlB n :: x) [])))) (Value.string (bstrZ ((fun x => mlA n :: x) ((fun x => mlB n :: x) [])))))
 then True 
 else False )
 else (bif decide (k < (1 : Int))
 then False 
 else (bif decide (k > (4 : Int))
 then False 
 else (bif decide (IntKind.wrap IntKind.i64 n < (19 : Int))
 then (bif eqRes BinOp.eql (keyEq (Value.string (bstrZ ((fun x => mlA n :: x) ((fun x => mlB n :: x) [])))) (Value.string (bstrZ ((fun x => mlA n :: x) ((fun x => mlB n :: x) [])))))
 then True 
 else False )
 else (bif eqRes BinOp.eql (keyEq (Value.int IntKind.u8 k) (Value.int IntKind.u8 (4 : Int)))
 then (bif eqRes BinOp.neq (keyEq (Value.int IntKind.u16 n) (Value.int IntKind.u16 (19 : Int)))
 then (bif eqRes BinOp.eql (keyEq (Value.string (bstrZ ((fun x => mlA n :: x) ((fun x => mlB n :: x) [])))) (Value.string (bstrZ ((fun x => mlA n :: x) ((fun x => mlB n :: x) [])))))
 then True 
 else False )
 else False )
 else False ))))))))))) := by kernel_rfl
set_option maxRecDepth 100000 in
theorem ev_ml2 (n k : Int) (R : Prop) : vcallF Tryd.prog leastG (specs [(5, trueW), (mlHead, mlW n k R (mlY2 k) (mlT2 (mlA n) (mlB n) k))]) (tell [(999998, .dead)]) 3000 (fun _ => none) 0 mlLaw [.val (.int .u16 n), .val (.int .u8 k)] ⟨[],[]⟩ isTrueV =
 (((@Eq (Nat) 0 0) ∧
 ((@Eq (List TV) [(.row 1 0 0 19)] [(.row 1 0 0 19)]) ∧
 (@Eq (VT) ⟨[(.row [(.val (.int .u8 255)), (.val (.int .u8 255)), (.val (.int .u8 255)), (.val (.int .u8 255)), (.val (.int .u8 255)), (.val (.int .u8 255)), (.val (.int .u8 255)), (.val (.int .u8 255)), (.val (.int .u8 255)), (.val (.int .u8 255)), (.val (.int .u8 255)), (.val (.int .u8 255)), (.val (.int .u8 255)), (.val (.int .u8 255)), (.val (.int .u8 255)), (.val (.int .u8 255)), (.val (.int .u8 (mlA n))), (.val (.int .u8 (mlB n))), (.val (.int .u8 (k)))])], []⟩ ⟨[(.row [(.val (.int .u8 255)), (.val (.int .u8 255)), (.val (.int .u8 255)), (.val (.int .u8 255)), (.val (.int .u8 255)), (.val (.int .u8 255)), (.val (.int .u8 255)), (.val (.int .u8 255)), (.val (.int .u8 255)), (.val (.int .u8 255)), (.val (.int .u8 255)), (.val (.int .u8 255)), (.val (.int .u8 255)), (.val (.int .u8 255)), (.val (.int .u8 255)), (.val (.int .u8 255)), (.val (.int .u8 (mlA n))), (.val (.int .u8 (mlB n))), (.val (.int .u8 (k)))])], []⟩))) ∧
 (R  ∧
 (bif eqRes BinOp.eql (keyEq (Value.int IntKind.u8 k) (Value.int IntKind.u8 (1 : Int)))
 then (bif decide (n < (19 : Int))
 then False 
 else (bif decide (n > (4096 : Int))
 then False 
 else (bif decide (k < (1 : Int))
 then (bif eqRes BinOp.eql (keyEq (Value.string (bstrZ ((fun x => k :: x) []))) (Value.string (bstrZ ((fun x => k :: x) []))))
 then True 
 else False )
 else (bif decide (k > (4 : Int))
 then (bif eqRes BinOp.eql (keyEq (Value.string (bstrZ ((fun x => k :: x) []))) (Value.string (bstrZ ((fun x => k :: x) []))))
 then True 
 else False )
 else (bif decide (IntKind.wrap IntKind.i64 n < (29 : Int))
 then False 
 else (bif eqRes BinOp.eql (keyEq (Value.int IntKind.u8 k) (Value.int IntKind.u8 (4 : Int)))
 then (bif eqRes BinOp.neq (keyEq (Value.int IntKind.u16 n) (Value.int IntKind.u16 (19 : Int)))
 then False 
 else False )
 else False ))))))
 else (bif eqRes BinOp.eql (keyEq (Value.int IntKind.u8 k) (Value.int IntKind.u8 (2 : Int)))
 then (bif decide (n < (19 : Int))
 then False 
 else (bif decide (n > (4096 : Int))
 then False 
 else (bif decide (k < (1 : Int))
 then (bif eqRes BinOp.eql (keyEq (Value.string (bstrZ ((fun x => k :: x) []))) (Value.string (bstrZ ((fun x => k :: x) []))))
 then True 
 else False )
 else (bif decide (k > (4 : Int))
 then (bif eqRes BinOp.eql (keyEq (Value.string (bstrZ ((fun x => k :: x) []))) (Value.string (bstrZ ((fun x => k :: x) []))))
 then True 
 else False )
 else (bif decide (IntKind.wrap IntKind.i64 n < (23 : Int))
 then False 
 else (bif eqRes BinOp.eql (keyEq (Value.int IntKind.u8 k) (Value.int IntKind.u8 (4 : Int)))
 then (bif eqRes BinOp.neq (keyEq (Value.int IntKind.u16 n) (Value.int IntKind.u16 (19 : Int)))
 then False 
 else False )
 else False ))))))
 else (bif eqRes BinOp.eql (keyEq (Value.int IntKind.u8 k) (Value.int IntKind.u8 (3 : Int)))
 then (bif decide (n < (19 : Int))
 then False 
 else (bif decide (n > (4096 : Int))
 then False 
 else (bif decide (k < (1 : Int))
 then (bif eqRes BinOp.eql (keyEq (Value.string (bstrZ ((fun x => k :: x) []))) (Value.string (bstrZ ((fun x => k :: x) []))))
 then True 
 else False )
 else (bif decide (k > (4 : Int))
 then (bif eqRes BinOp.eql (keyEq (Value.string (bstrZ ((fun x => k :: x) []))) (Value.string (bstrZ ((fun x => k :: x) []))))
 then True 
 else False )
 else (bif decide (IntKind.wrap IntKind.i64 n < (21 : Int))
 then False 
 else (bif eqRes BinOp.eql (keyEq (Value.int IntKind.u8 k) (Value.int IntKind.u8 (4 : Int)))
 then (bif eqRes BinOp.neq (keyEq (Value.int IntKind.u16 n) (Value.int IntKind.u16 (19 : Int)))
 then False 
 else False )
 else False ))))))
 else (bif decide (n < (19 : Int))
 then False 
 else (bif decide (n > (4096 : Int))
 then False 
 else (bif decide (k < (1 : Int))
 then (bif eqRes BinOp.eql (keyEq (Value.string (bstrZ ((fun x => k :: x) []))) (Value.string (bstrZ ((fun x => k :: x) []))))
 then True 
 else False )
 else (bif decide (k > (4 : Int))
 then (bif eqRes BinOp.eql (keyEq (Value.string (bstrZ ((fun x => k :: x) []))) (Value.string (bstrZ ((fun x => k :: x) []))))
 then True 
 else False )
 else (bif decide (IntKind.wrap IntKind.i64 n < (19 : Int))
 then False 
 else (bif eqRes BinOp.eql (keyEq (Value.int IntKind.u8 k) (Value.int IntKind.u8 (4 : Int)))
 then (bif eqRes BinOp.neq (keyEq (Value.int IntKind.u16 n) (Value.int IntKind.u16 (19 : Int)))
 then False 
 else False )
 else False ))))))))))) := by kernel_rfl
set_option maxRecDepth 100000 in
theorem ev_ml3 (n k l kk : Int) (R : Prop) : vcallF Tryd.prog leastG (specs [(5, trueW), (mlHead, mlW n k R (mlY3 l kk) (mlT3 (mlA n) (mlB n) k))]) (tell [(999998, .dead)]) 3000 (fun _ => none) 0 mlLaw [.val (.int .u16 n), .val (.int .u8 k)] ⟨[],[]⟩ isTrueV =
 (((@Eq (Nat) 0 0) ∧
 ((@Eq (List TV) [(.row 1 0 0 19)] [(.row 1 0 0 19)]) ∧
 (@Eq (VT) ⟨[(.row [(.val (.int .u8 255)), (.val (.int .u8 255)), (.val (.int .u8 255)), (.val (.int .u8 255)), (.val (.int .u8 255)), (.val (.int .u8 255)), (.val (.int .u8 255)), (.val (.int .u8 255)), (.val (.int .u8 255)), (.val (.int .u8 255)), (.val (.int .u8 255)), (.val (.int .u8 255)), (.val (.int .u8 255)), (.val (.int .u8 255)), (.val (.int .u8 255)), (.val (.int .u8 255)), (.val (.int .u8 (mlA n))), (.val (.int .u8 (mlB n))), (.val (.int .u8 (k)))])], []⟩ ⟨[(.row [(.val (.int .u8 255)), (.val (.int .u8 255)), (.val (.int .u8 255)), (.val (.int .u8 255)), (.val (.int .u8 255)), (.val (.int .u8 255)), (.val (.int .u8 255)), (.val (.int .u8 255)), (.val (.int .u8 255)), (.val (.int .u8 255)), (.val (.int .u8 255)), (.val (.int .u8 255)), (.val (.int .u8 255)), (.val (.int .u8 255)), (.val (.int .u8 255)), (.val (.int .u8 255)), (.val (.int .u8 (mlA n))), (.val (.int .u8 (mlB n))), (.val (.int .u8 (k)))])], []⟩))) ∧
 (R  ∧
 (bif eqRes BinOp.eql (keyEq (Value.int IntKind.u8 k) (Value.int IntKind.u8 (1 : Int)))
 then (bif decide (n < (19 : Int))
 then False 
 else (bif decide (n > (4096 : Int))
 then False 
 else (bif decide (k < (1 : Int))
 then False 
 else (bif decide (k > (4 : Int))
 then False 
 else (bif decide (IntKind.wrap IntKind.i64 n < (29 : Int))
 then False 
 else (bif eqRes BinOp.eql (keyEq (Value.int IntKind.u8 k) (Value.int IntKind.u8 (4 : Int)))
 then (bif eqRes BinOp.neq (keyEq (Value.int IntKind.u16 n) (Value.int IntKind.u16 (19 : Int)))
 then False 
 else (bif eqRes BinOp.eql (keyEq (Value.int IntKind.i64 l) (Value.int IntKind.i64 (IntKind.wrap IntKind.i64 n)))
 then (bif eqRes BinOp.eql (keyEq (Value.int IntKind.i64 kk) (Value.int IntKind.i64 (IntKind.wrap IntKind.i64 k)))
 then True 
 else False )
 else False ))
 else (bif eqRes BinOp.eql (keyEq (Value.int IntKind.i64 l) (Value.int IntKind.i64 (IntKind.wrap IntKind.i64 n)))
 then (bif eqRes BinOp.eql (keyEq (Value.int IntKind.i64 kk) (Value.int IntKind.i64 (IntKind.wrap IntKind.i64 k)))
 then True 
 else False )
 else False )))))))
 else (bif eqRes BinOp.eql (keyEq (Value.int IntKind.u8 k) (Value.int IntKind.u8 (2 : Int)))
 then (bif decide (n < (19 : Int))
 then False 
 else (bif decide (n > (4096 : Int))
 then False 
 else (bif decide (k < (1 : Int))
 then False 
 else (bif decide (k > (4 : Int))
 then False 
 else (bif decide (IntKind.wrap IntKind.i64 n < (23 : Int))
 then False 
 else (bif eqRes BinOp.eql (keyEq (Value.int IntKind.u8 k) (Value.int IntKind.u8 (4 : Int)))
 then (bif eqRes BinOp.neq (keyEq (Value.int IntKind.u16 n) (Value.int IntKind.u16 (19 : Int)))
 then False 
 else (bif eqRes BinOp.eql (keyEq (Value.int IntKind.i64 l) (Value.int IntKind.i64 (IntKind.wrap IntKind.i64 n)))
 then (bif eqRes BinOp.eql (keyEq (Value.int IntKind.i64 kk) (Value.int IntKind.i64 (IntKind.wrap IntKind.i64 k)))
 then True 
 else False )
 else False ))
 else (bif eqRes BinOp.eql (keyEq (Value.int IntKind.i64 l) (Value.int IntKind.i64 (IntKind.wrap IntKind.i64 n)))
 then (bif eqRes BinOp.eql (keyEq (Value.int IntKind.i64 kk) (Value.int IntKind.i64 (IntKind.wrap IntKind.i64 k)))
 then True 
 else False )
 else False )))))))
 else (bif eqRes BinOp.eql (keyEq (Value.int IntKind.u8 k) (Value.int IntKind.u8 (3 : Int)))
 then (bif decide (n < (19 : Int))
 then False 
 else (bif decide (n > (4096 : Int))
 then False 
 else (bif decide (k < (1 : Int))
 then False 
 else (bif decide (k > (4 : Int))
 then False 
 else (bif decide (IntKind.wrap IntKind.i64 n < (21 : Int))
 then False 
 else (bif eqRes BinOp.eql (keyEq (Value.int IntKind.u8 k) (Value.int IntKind.u8 (4 : Int)))
 then (bif eqRes BinOp.neq (keyEq (Value.int IntKind.u16 n) (Value.int IntKind.u16 (19 : Int)))
 then False 
 else (bif eqRes BinOp.eql (keyEq (Value.int IntKind.i64 l) (Value.int IntKind.i64 (IntKind.wrap IntKind.i64 n)))
 then (bif eqRes BinOp.eql (keyEq (Value.int IntKind.i64 kk) (Value.int IntKind.i64 (IntKind.wrap IntKind.i64 k)))
 then True 
 else False )
 else False ))
 else (bif eqRes BinOp.eql (keyEq (Value.int IntKind.i64 l) (Value.int IntKind.i64 (IntKind.wrap IntKind.i64 n)))
 then (bif eqRes BinOp.eql (keyEq (Value.int IntKind.i64 kk) (Value.int IntKind.i64 (IntKind.wrap IntKind.i64 k)))
 then True 
 else False )
 else False )))))))
 else (bif decide (n < (19 : Int))
 then False 
 else (bif decide (n > (4096 : Int))
 then False 
 else (bif decide (k < (1 : Int))
 then False 
 else (bif decide (k > (4 : Int))
 then False 
 else (bif decide (IntKind.wrap IntKind.i64 n < (19 : Int))
 then False 
 else (bif eqRes BinOp.eql (keyEq (Value.int IntKind.u8 k) (Value.int IntKind.u8 (4 : Int)))
 then (bif eqRes BinOp.neq (keyEq (Value.int IntKind.u16 n) (Value.int IntKind.u16 (19 : Int)))
 then False 
 else (bif eqRes BinOp.eql (keyEq (Value.int IntKind.i64 l) (Value.int IntKind.i64 (IntKind.wrap IntKind.i64 n)))
 then (bif eqRes BinOp.eql (keyEq (Value.int IntKind.i64 kk) (Value.int IntKind.i64 (IntKind.wrap IntKind.i64 k)))
 then True 
 else False )
 else False ))
 else (bif eqRes BinOp.eql (keyEq (Value.int IntKind.i64 l) (Value.int IntKind.i64 (IntKind.wrap IntKind.i64 n)))
 then (bif eqRes BinOp.eql (keyEq (Value.int IntKind.i64 kk) (Value.int IntKind.i64 (IntKind.wrap IntKind.i64 k)))
 then True 
 else False )
 else False )))))))))))) := by kernel_rfl
end Go.Proofs.YtkfinpehpcbooaaDoor
