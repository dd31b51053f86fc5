/- Texts of prefixes: what the kernel leaves of the reference's ways. -/
import Derived.Test.YtkjpbadlbpfpaaaDoorMbPTQ
namespace Go.Proofs.YtkjpbadlbpfpaaaDoor
open Go.RowKit

abbrev rqF := 7
abbrev rpF := 9
abbrev rgF := 23
def rqK : List Nat := [0, 2, 3, 4, 5, 6, 7, 8]
def rqV (s : List UInt8) (a n part dig i : Int) : List TV := [bsT s, .val (.int .u32 0), .val (.bool false), .val (.int .u32 a), .val (.int .i64 n), .val (.int .i64 part), .val (.int .i64 dig), .val (.int .i64 i)]
def rqL (s : List UInt8) (D0 : Int → Int → Prop) (D1 : Prop) (c0 : Code) : Nat → Option (LSpec × Code) := specsL [(0, loopL 71 rqK [] (rqV s 0 0 0 0 0) ⟨[], []⟩ fun K => (∀ (a n part dig i : Int), D0 a n → K .normal (slotsN 71 rqK (rqV s a n part dig i)) ⟨[], []⟩ []) ∧ (D1 → ∀ (a n part dig i : Int), K .ret (slotsN 71 rqK (rqV s a n part dig i)) ⟨[], []⟩ []), c0)]
def rtK0 : List Nat := [0, 2, 3, 4, 5]
def rtV0 (s : List UInt8) (t i : Int) : List TV := [bsT s, .ptr 0 0, .val (.bool false), .val (.int .i64 t), .val (.int .i64 i)]
def rtK2 : List Nat := [0, 2, 3, 4, 6, 7, 8, 9]
def rtV2 (s : List UInt8) (t a n i : Int) (ok : Bool) : List TV := [bsT s, .ptr 0 0, .val (.bool false), .val (.int .i64 t), .val (.int .u32 a), .val (.bool ok), .val (.int .i64 n), .val (.int .i64 i)]
def rtT : VT := ⟨[.cells [.val (.int .u32 0), .val (.int .i64 0)]], []⟩
def rtL (s : List UInt8) (t a n : Int) (ok : Bool) (D1 : Prop) (c0 c2 : Code) : Nat → Option (LSpec × Code) := specsL [(0, loopL 91 rtK0 [] (rtV0 s (-1) 0) rtT fun K => K .normal (slotsN 91 rtK0 (rtV0 s t s.length)) rtT [], c0), (2, loopL 91 rtK2 [] (rtV2 s t a 0 (IntKind.wrap .i64 (t + 1)) ok) rtT fun K => (¬ D1 → K .normal (slotsN 91 rtK2 (rtV2 s t a n s.length ok)) rtT []) ∧ (D1 → ∀ (k i : Int), K .ret (slotsN 91 rtK2 (rtV2 s t a k i ok)) rtT []), c2)]
def rpC (x : List UInt8) (a : Int) (ok : Bool) (GD : Int → Int → Bool) (X : Int → Int → List UInt8) (R : Int → Int → Prop) : FuncId → Option Spec := specs [(rqF, pureAt [bsT x] (.tup [.val (.int .u32 a), .val (.bool ok)])), (rgF, fun _ ys T K => match ys with
  | [.agg [.val (.int .u32 a), .val (.int .i64 n)]] => R a n ∧ K (.val (.bool (GD a n))) T
  | _ => False), (rtF, fun _ ys T K => match ys with
  | [.agg [.val (.int .u32 a), .val (.int .i64 n)]] => R a n ∧ K (bsT (X a n)) T
  | _ => False)]
set_option maxRecDepth 100000 in
theorem ev_rq (G : Globs) (s : List UInt8) (A : Nat → List UInt8) (D0 : Int → Int → Prop) (D1 : Prop) (Q : TV → VT → Prop) : vcallF Tryd.prog G (specs [(raF, adW A)]) noOra 300 (rqL s D0 D1 (codeAt Tryd.prog rqF 0)) 0 rqF [bsT s] ⟨[],[]⟩ Q =
 ((codeAt Tryd.prog rqF (0 : Nat) = codeAt Tryd.prog rqF (0 : Nat)) ∧
 (((@Eq (Option Nat) .none .none) ∧
 ((@Eq (Nat) 0 0) ∧
 ((@Eq (List Nat) [] []) ∧
 (True  ∧
 ((@Eq (VT) ⟨[], []⟩ ⟨[], []⟩) ∧
 ((@Eq (Bool) true true) ∧
 (@Eq (List TV) [(.val (.string ⟨List.toArray (s)⟩)), (.val (.int .u32 0)), (.val (.bool false)), (.val (.int .u32 0)), (.val (.int .i64 0)), (.val (.int .i64 0)), (.val (.int .i64 0)), (.val (.int .i64 0))] [(.val (.string ⟨List.toArray (s)⟩)), (.val (.int .u32 0)), (.val (.bool false)), (.val (.int .u32 0)), (.val (.int .i64 0)), (.val (.int .i64 0)), (.val (.int .i64 0)), (.val (.int .i64 0))]))))))) ∧
 ((∀ a : Int, (∀ n : Int, (∀ part : Int, (∀ dig : Int, (∀ i : Int, (D0 (a) (n) → (bif eqRes BinOp.neq (keyEq (Value.int IntKind.i64 n) (Value.int IntKind.i64 (4 : Int)))
 then Q (.tup [(.val (.int .u32 0)), (.val (.bool false))]) ⟨[], []⟩
 else (InR (a) 4294967296 ∧
 (bif eqRes BinOp.neq (keyEq (Value.string { data := List.toArray (A (Int.toNat a)) }) (Value.string { data := List.toArray s }))
 then Q (.tup [(.val (.int .u32 0)), (.val (.bool false))]) ⟨[], []⟩
 else Q (.tup [(.val (.int .u32 (a))), (.val (.bool true))]) ⟨[], []⟩))))))))) ∧
 (D1  → (∀ a : Int, (∀ n : Int, (∀ part : Int, (∀ dig : Int, (∀ i : Int, Q (.tup [(.val (.int .u32 0)), (.val (.bool false))]) ⟨[], []⟩))))))))) := by kernel_rfl
set_option maxRecDepth 100000 in
theorem ev_rq0 (G : Globs) (s : List UInt8) (c a n part dig : Int) (i : Nat) (Q : Exit → List TV → VT → List Nat → Nat → Prop) : vx Tryd.prog G noSp (tell [(999999, .dead), (22, .val (.int .u8 c)), (40, .val (.int .u8 c)), (45, .val (.int .u8 c)), (56, .val (.int .u8 c))]) 300 noLp none 0 (loopAt Tryd.prog rqF 0) (slotsN 71 rqK (rqV s a n part dig i)) ⟨[], []⟩ [] (pickS rqK Q) =
 (bif decide ((↑i : Int) ≤ (↑(ByteArray.size { data := List.toArray s }) : Int))
 then (bif eqRes BinOp.eql (keyEq (Value.int IntKind.i64 (↑i : Int)) (Value.int IntKind.i64 (↑(ByteArray.size { data := List.toArray s }) : Int)))
 then (bif eqRes BinOp.eql (keyEq (Value.int IntKind.i64 dig) (Value.int IntKind.i64 (0 : Int)))
 then Q .ret [(.val (.string ⟨List.toArray (s)⟩)), (.val (.int .u32 0)), (.val (.bool false)), (.val (.int .u32 (a))), (.val (.int .i64 (n))), (.val (.int .i64 (part))), (.val (.int .i64 (dig))), (.val (.int .i64 ((↑i : Int))))] ⟨[], []⟩ [] 71
 else (bif decide (part > (255 : Int))
 then Q .ret [(.val (.string ⟨List.toArray (s)⟩)), (.val (.int .u32 0)), (.val (.bool false)), (.val (.int .u32 (a))), (.val (.int .i64 (n))), (.val (.int .i64 (part))), (.val (.int .i64 (dig))), (.val (.int .i64 ((↑i : Int))))] ⟨[], []⟩ [] 71
 else Q .normal [(.val (.string ⟨List.toArray (s)⟩)), (.val (.int .u32 0)), (.val (.bool false)), (.val (.int .u32 (IntKind.wrap IntKind.u32 (↑(BitVec.toNat (BitVec.ofInt (IntKind.bits IntKind.u32) (IntKind.wrap IntKind.u32 (a * (2 : Int) ^ min (Int.toNat (8 : Int)) (IntKind.bits IntKind.u32))) ||| BitVec.ofInt (IntKind.bits IntKind.u32) (IntKind.wrap IntKind.u32 part))) : Int)))), (.val (.int .i64 (IntKind.wrap IntKind.i64 (n + (1 : Int))))), (.val (.int .i64 0)), (.val (.int .i64 0)), (.val (.int .i64 (IntKind.wrap IntKind.i64 ((↑i : Int) + (1 : Int)))))] ⟨[], []⟩ [] 71))
 else (OPure Tryd.prog (G) (.index 9 (.tmp 20) (.tmp 21)) [(20, (.val (.string ⟨List.toArray (s)⟩))), (21, (.val (.int .i64 ((↑i : Int)))))] (.val (.int .u8 (c))) ∧
 (bif eqRes BinOp.eql (keyEq (Value.int IntKind.u8 c) (Value.int IntKind.u8 (46 : Int)))
 then (bif eqRes BinOp.eql (keyEq (Value.int IntKind.i64 dig) (Value.int IntKind.i64 (0 : Int)))
 then Q .ret [(.val (.string ⟨List.toArray (s)⟩)), (.val (.int .u32 0)), (.val (.bool false)), (.val (.int .u32 (a))), (.val (.int .i64 (n))), (.val (.int .i64 (part))), (.val (.int .i64 (dig))), (.val (.int .i64 ((↑i : Int))))] ⟨[], []⟩ [] 71
 else (bif decide (part > (255 : Int))
 then Q .ret [(.val (.string ⟨List.toArray (s)⟩)), (.val (.int .u32 0)), (.val (.bool false)), (.val (.int .u32 (a))), (.val (.int .i64 (n))), (.val (.int .i64 (part))), (.val (.int .i64 (dig))), (.val (.int .i64 ((↑i : Int))))] ⟨[], []⟩ [] 71
 else Q .normal [(.val (.string ⟨List.toArray (s)⟩)), (.val (.int .u32 0)), (.val (.bool false)), (.val (.int .u32 (IntKind.wrap IntKind.u32 (↑(BitVec.toNat (BitVec.ofInt (IntKind.bits IntKind.u32) (IntKind.wrap IntKind.u32 (a * (2 : Int) ^ min (Int.toNat (8 : Int)) (IntKind.bits IntKind.u32))) ||| BitVec.ofInt (IntKind.bits IntKind.u32) (IntKind.wrap IntKind.u32 part))) : Int)))), (.val (.int .i64 (IntKind.wrap IntKind.i64 (n + (1 : Int))))), (.val (.int .i64 0)), (.val (.int .i64 0)), (.val (.int .i64 (IntKind.wrap IntKind.i64 ((↑i : Int) + (1 : Int)))))] ⟨[], []⟩ [] 71))
 else (OPure Tryd.prog (G) (.index 9 (.tmp 38) (.tmp 39)) [(38, (.val (.string ⟨List.toArray (s)⟩))), (39, (.val (.int .i64 ((↑i : Int)))))] (.val (.int .u8 (c))) ∧
 (bif decide (c < (48 : Int))
 then Q .ret [(.val (.string ⟨List.toArray (s)⟩)), (.val (.int .u32 0)), (.val (.bool false)), (.val (.int .u32 (a))), (.val (.int .i64 (n))), (.val (.int .i64 (part))), (.val (.int .i64 (dig))), (.val (.int .i64 ((↑i : Int))))] ⟨[], []⟩ [] 71
 else (OPure Tryd.prog (G) (.index 9 (.tmp 43) (.tmp 44)) [(43, (.val (.string ⟨List.toArray (s)⟩))), (44, (.val (.int .i64 ((↑i : Int)))))] (.val (.int .u8 (c))) ∧
 (bif decide (c > (57 : Int))
 then Q .ret [(.val (.string ⟨List.toArray (s)⟩)), (.val (.int .u32 0)), (.val (.bool false)), (.val (.int .u32 (a))), (.val (.int .i64 (n))), (.val (.int .i64 (part))), (.val (.int .i64 (dig))), (.val (.int .i64 ((↑i : Int))))] ⟨[], []⟩ [] 71
 else (bif decide (dig > (2 : Int))
 then Q .ret [(.val (.string ⟨List.toArray (s)⟩)), (.val (.int .u32 0)), (.val (.bool false)), (.val (.int .u32 (a))), (.val (.int .i64 (n))), (.val (.int .i64 (part))), (.val (.int .i64 (dig))), (.val (.int .i64 ((↑i : Int))))] ⟨[], []⟩ [] 71
 else (OPure Tryd.prog (G) (.index 9 (.tmp 54) (.tmp 55)) [(54, (.val (.string ⟨List.toArray (s)⟩))), (55, (.val (.int .i64 ((↑i : Int)))))] (.val (.int .u8 (c))) ∧
 Q .normal [(.val (.string ⟨List.toArray (s)⟩)), (.val (.int .u32 0)), (.val (.bool false)), (.val (.int .u32 (a))), (.val (.int .i64 (n))), (.val (.int .i64 (IntKind.wrap IntKind.i64 (IntKind.wrap IntKind.i64 ((10 : Int) * part) + IntKind.wrap IntKind.i64 (IntKind.wrap IntKind.u8 (c - (48 : Int))))))), (.val (.int .i64 (IntKind.wrap IntKind.i64 (dig + (1 : Int))))), (.val (.int .i64 (IntKind.wrap IntKind.i64 ((↑i : Int) + (1 : Int)))))] ⟨[], []⟩ [] 71)))))))))
 else Q (.exit 0) [(.val (.string ⟨List.toArray (s)⟩)), (.val (.int .u32 0)), (.val (.bool false)), (.val (.int .u32 (a))), (.val (.int .i64 (n))), (.val (.int .i64 (part))), (.val (.int .i64 (dig))), (.val (.int .i64 ((↑i : Int))))] ⟨[], []⟩ [] 71) := by kernel_rfl
set_option maxRecDepth 100000 in
theorem ev_rp (G : Globs) (s x : List UInt8) (t a n : Int) (ok : Bool) (D1 : Prop) (GD : Int → Int → Bool) (X : Int → Int → List UInt8) (R : Int → Int → Prop) (Q : TV → VT → Prop) : vcallF Tryd.prog G (rpC x a ok GD X R) (tell [(42, bsT x)]) 300 (rtL s t a n ok D1 (codeAt Tryd.prog rpF 0) (codeAt Tryd.prog rpF 2)) 0 rpF [bsT s] ⟨[],[]⟩ Q =
 ((codeAt Tryd.prog rpF (0 : Nat) = codeAt Tryd.prog rpF (0 : Nat)) ∧
 (((@Eq (Option Nat) .none .none) ∧
 ((@Eq (Nat) 0 0) ∧
 ((@Eq (List Nat) [] []) ∧
 (True  ∧
 ((@Eq (VT) ⟨[(.cells [(.val (.int .u32 0)), (.val (.int .i64 0))])], []⟩ ⟨[(.cells [(.val (.int .u32 0)), (.val (.int .i64 0))])], []⟩) ∧
 ((@Eq (Bool) true true) ∧
 (@Eq (List TV) [(.val (.string ⟨List.toArray (s)⟩)), (.ptr 0 0), (.val (.bool false)), (.val (.int .i64 (-1))), (.val (.int .i64 0))] [(.val (.string ⟨List.toArray (s)⟩)), (.ptr 0 0), (.val (.bool false)), (.val (.int .i64 (-1))), (.val (.int .i64 0))]))))))) ∧
 (bif decide (t < (0 : Int))
 then Q (.tup [(.agg [(.val (.int .u32 0)), (.val (.int .i64 0))]), (.val (.bool false))]) ⟨[(.cells [(.val (.int .u32 0)), (.val (.int .i64 0))])], []⟩
 else (bif decide (IntKind.wrap IntKind.i64 ((↑(ByteArray.size { data := List.toArray s }) : Int) - t) < (2 : Int))
 then Q (.tup [(.agg [(.val (.int .u32 0)), (.val (.int .i64 0))]), (.val (.bool false))]) ⟨[(.cells [(.val (.int .u32 0)), (.val (.int .i64 0))])], []⟩
 else (bif decide (IntKind.wrap IntKind.i64 ((↑(ByteArray.size { data := List.toArray s }) : Int) - t) > (3 : Int))
 then Q (.tup [(.agg [(.val (.int .u32 0)), (.val (.int .i64 0))]), (.val (.bool false))]) ⟨[(.cells [(.val (.int .u32 0)), (.val (.int .i64 0))])], []⟩
 else (OPure Tryd.prog (G) (.slice 9 (.tmp 40) .none (.some (.tmp 41)) .none) [(40, (.val (.string ⟨List.toArray (s)⟩))), (41, (.val (.int .i64 (t))))] (.val (.string ⟨List.toArray (x)⟩)) ∧
 ((@Eq (List TV) [(.val (.string ⟨List.toArray (x)⟩))] [(.val (.string ⟨List.toArray (x)⟩))]) ∧
 ((codeAt Tryd.prog rpF (2 : Nat) = codeAt Tryd.prog rpF (2 : Nat)) ∧
 (((@Eq (Option Nat) .none .none) ∧
 ((@Eq (Nat) 0 0) ∧
 ((@Eq (List Nat) [] []) ∧
 (True  ∧
 ((@Eq (VT) ⟨[(.cells [(.val (.int .u32 0)), (.val (.int .i64 0))])], []⟩ ⟨[(.cells [(.val (.int .u32 0)), (.val (.int .i64 0))])], []⟩) ∧
 ((@Eq (Bool) true true) ∧
 (@Eq (List TV) [(.val (.string ⟨List.toArray (s)⟩)), (.ptr 0 0), (.val (.bool false)), (.val (.int .i64 (t))), (.val (.int .u32 (a))), (.val (.bool (ok))), (.val (.int .i64 0)), (.val (.int .i64 (IntKind.wrap IntKind.i64 (t + (1 : Int)))))] [(.val (.string ⟨List.toArray (s)⟩)), (.ptr 0 0), (.val (.bool false)), (.val (.int .i64 (t))), (.val (.int .u32 (a))), (.val (.bool (ok))), (.val (.int .i64 0)), (.val (.int .i64 (IntKind.wrap IntKind.i64 (t + (1 : Int)))))]))))))) ∧
 (((D1  → False ) → (bif !ok
 then Q (.tup [(.agg [(.val (.int .u32 0)), (.val (.int .i64 0))]), (.val (.bool false))]) ⟨[(.cells [(.val (.int .u32 0)), (.val (.int .i64 0))]), (.cells [(.val (.int .u32 (a))), (.val (.int .i64 (n)))])], []⟩
 else (R (a) (n) ∧
 (bif !GD a n
 then Q (.tup [(.agg [(.val (.int .u32 0)), (.val (.int .i64 0))]), (.val (.bool false))]) ⟨[(.cells [(.val (.int .u32 0)), (.val (.int .i64 0))]), (.cells [(.val (.int .u32 (a))), (.val (.int .i64 (n)))])], []⟩
 else (R (a) (n) ∧
 (bif eqRes BinOp.neq (keyEq (Value.string { data := List.toArray (X a n) }) (Value.string { data := List.toArray s }))
 then Q (.tup [(.agg [(.val (.int .u32 0)), (.val (.int .i64 0))]), (.val (.bool false))]) ⟨[(.cells [(.val (.int .u32 0)), (.val (.int .i64 0))]), (.cells [(.val (.int .u32 (a))), (.val (.int .i64 (n)))])], []⟩
 else Q (.tup [(.agg [(.val (.int .u32 (a))), (.val (.int .i64 (n)))]), (.val (.bool true))]) ⟨[(.cells [(.val (.int .u32 (a))), (.val (.int .i64 (n)))]), (.cells [(.val (.int .u32 (a))), (.val (.int .i64 (n)))])], []⟩)))))) ∧
 (D1  → (∀ k : Int, (∀ i : Int, Q (.tup [(.agg [(.val (.int .u32 0)), (.val (.int .i64 0))]), (.val (.bool false))]) ⟨[(.cells [(.val (.int .u32 0)), (.val (.int .i64 0))])], []⟩))))))))))))) := by kernel_rfl
set_option maxRecDepth 100000 in
theorem ev_rp0 (G : Globs) (s : List UInt8) (c t : Int) (i : Nat) (Q : Exit → List TV → VT → List Nat → Nat → Prop) : vx Tryd.prog G noSp (tell [(999999, .dead), (19, .val (.int .u8 c))]) 300 noLp none 0 (loopAt Tryd.prog rpF 0) (slotsN 91 rtK0 (rtV0 s t i)) rtT [] (pickS rtK0 Q) =
 (bif decide ((↑i : Int) < (↑(ByteArray.size { data := List.toArray s }) : Int))
 then (OPure Tryd.prog (G) (.index 9 (.tmp 17) (.tmp 18)) [(17, (.val (.string ⟨List.toArray (s)⟩))), (18, (.val (.int .i64 ((↑i : Int)))))] (.val (.int .u8 (c))) ∧
 (bif eqRes BinOp.eql (keyEq (Value.int IntKind.u8 c) (Value.int IntKind.u8 (47 : Int)))
 then Q .normal [(.val (.string ⟨List.toArray (s)⟩)), (.ptr 0 0), (.val (.bool false)), (.val (.int .i64 ((↑i : Int)))), (.val (.int .i64 (IntKind.wrap IntKind.i64 ((↑i : Int) + (1 : Int)))))] ⟨[(.cells [(.val (.int .u32 0)), (.val (.int .i64 0))])], []⟩ [] 91
 else Q .normal [(.val (.string ⟨List.toArray (s)⟩)), (.ptr 0 0), (.val (.bool false)), (.val (.int .i64 (t))), (.val (.int .i64 (IntKind.wrap IntKind.i64 ((↑i : Int) + (1 : Int)))))] ⟨[(.cells [(.val (.int .u32 0)), (.val (.int .i64 0))])], []⟩ [] 91))
 else Q (.exit 0) [(.val (.string ⟨List.toArray (s)⟩)), (.ptr 0 0), (.val (.bool false)), (.val (.int .i64 (t))), (.val (.int .i64 ((↑i : Int))))] ⟨[(.cells [(.val (.int .u32 0)), (.val (.int .i64 0))])], []⟩ [] 91) := by kernel_rfl
set_option maxRecDepth 100000 in
theorem ev_rp2 (G : Globs) (s : List UInt8) (c t a n : Int) (ok : Bool) (i : Nat) (Q : Exit → List TV → VT → List Nat → Nat → Prop) : vx Tryd.prog G noSp (tell [(999999, .dead), (56, .val (.int .u8 c)), (61, .val (.int .u8 c)), (69, .val (.int .u8 c))]) 300 noLp none 0 (loopAt Tryd.prog rpF 2) (slotsN 91 rtK2 (rtV2 s t a n i ok)) rtT [] (pickS rtK2 Q) =
 (bif decide ((↑i : Int) < (↑(ByteArray.size { data := List.toArray s }) : Int))
 then (OPure Tryd.prog (G) (.index 9 (.tmp 54) (.tmp 55)) [(54, (.val (.string ⟨List.toArray (s)⟩))), (55, (.val (.int .i64 ((↑i : Int)))))] (.val (.int .u8 (c))) ∧
 (bif decide (c < (48 : Int))
 then Q .ret [(.val (.string ⟨List.toArray (s)⟩)), (.ptr 0 0), (.val (.bool false)), (.val (.int .i64 (t))), (.val (.int .u32 (a))), (.val (.bool (ok))), (.val (.int .i64 (n))), (.val (.int .i64 ((↑i : Int))))] ⟨[(.cells [(.val (.int .u32 0)), (.val (.int .i64 0))])], []⟩ [] 91
 else (OPure Tryd.prog (G) (.index 9 (.tmp 59) (.tmp 60)) [(59, (.val (.string ⟨List.toArray (s)⟩))), (60, (.val (.int .i64 ((↑i : Int)))))] (.val (.int .u8 (c))) ∧
 (bif decide (c > (57 : Int))
 then Q .ret [(.val (.string ⟨List.toArray (s)⟩)), (.ptr 0 0), (.val (.bool false)), (.val (.int .i64 (t))), (.val (.int .u32 (a))), (.val (.bool (ok))), (.val (.int .i64 (n))), (.val (.int .i64 ((↑i : Int))))] ⟨[(.cells [(.val (.int .u32 0)), (.val (.int .i64 0))])], []⟩ [] 91
 else (OPure Tryd.prog (G) (.index 9 (.tmp 67) (.tmp 68)) [(67, (.val (.string ⟨List.toArray (s)⟩))), (68, (.val (.int .i64 ((↑i : Int)))))] (.val (.int .u8 (c))) ∧
 Q .normal [(.val (.string ⟨List.toArray (s)⟩)), (.ptr 0 0), (.val (.bool false)), (.val (.int .i64 (t))), (.val (.int .u32 (a))), (.val (.bool (ok))), (.val (.int .i64 (IntKind.wrap IntKind.i64 (IntKind.wrap IntKind.i64 ((10 : Int) * n) + IntKind.wrap IntKind.i64 (IntKind.wrap IntKind.u8 (c - (48 : Int))))))), (.val (.int .i64 (IntKind.wrap IntKind.i64 ((↑i : Int) + (1 : Int)))))] ⟨[(.cells [(.val (.int .u32 0)), (.val (.int .i64 0))])], []⟩ [] 91)))))
 else Q (.exit 2) [(.val (.string ⟨List.toArray (s)⟩)), (.ptr 0 0), (.val (.bool false)), (.val (.int .i64 (t))), (.val (.int .u32 (a))), (.val (.bool (ok))), (.val (.int .i64 (n))), (.val (.int .i64 ((↑i : Int))))] ⟨[(.cells [(.val (.int .u32 0)), (.val (.int .i64 0))])], []⟩ [] 91) := by kernel_rfl
end Go.Proofs.YtkjpbadlbpfpaaaDoor
