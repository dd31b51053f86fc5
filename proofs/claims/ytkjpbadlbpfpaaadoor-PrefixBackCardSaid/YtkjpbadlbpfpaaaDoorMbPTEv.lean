/- Texts of prefixes: what the kernel leaves. -/
import Derived.Test.YtkjpbadlbpfpaaaDoorMbPTG
namespace Go.Proofs.YtkjpbadlbpfpaaaDoor
open Go.RowKit

abbrev jnF := 27
abbrev paF := 12
abbrev ptF := 10
abbrev pcF := 16
abbrev rdF := 26
abbrev raF := 13
abbrev rtF := 11
abbrev rcF := 25
abbrev spF := 20
abbrev nuF := 21
abbrev qaF := 6
abbrev cuF := 22
abbrev qtF := 8
abbrev goF := 17
def bsT (l : List UInt8) : TV := .val (.string ⟨l.toArray⟩)
inductive InR (z hi : Int) : Prop
  | mk (h : 0 ≤ z ∧ z < hi)
def numW (D : Nat → List UInt8) : Spec := fun _ ys T K => match ys with
  | [.val (.int .i64 z)] => InR z 256 ∧ K (bsT (D z.toNat)) T
  | _ => False
def adW (A : Nat → List UInt8) : Spec := fun _ ys T K => match ys with
  | [.val (.int .u32 z)] => InR z 4294967296 ∧ K (bsT (A z.toNat)) T
  | _ => False
def jnW (cs : List TV) (j : List UInt8) : Spec := fun ro ys T K => (ro = 0 ∧ ys = [.row 1 0 0 4, .val (.string ⟨#[46]⟩)] ∧ T = ⟨[.row cs], []⟩) ∧ K (bsT j) T
def paC (D : Nat → List UInt8) (cs : List TV) (j : List UInt8) : FuncId → Option Spec := specs [(itF, numW D), (jnF, jnW cs j)]
def ptC (f : FuncId) (g : FuncId) (d : FuncId) (D : Nat → List UInt8) (A : Nat → List UInt8) (a n h c : Int) : FuncId → Option Spec := specs [(f, pureAt [.agg [.val (.int .u32 a), .val (.int .i64 n)]] (.agg [.val (.int .u32 h), .val (.int .i64 c)])), (g, adW A), (d, numW D)]
def strW (f : List UInt8 → TV) : Spec := fun _ ys T K => match ys with
  | [.val (.string ⟨⟨s⟩⟩)] => K (f s) T
  | _ => False
def qaC (s : List UInt8) (es : List (List TV)) (N : List UInt8 → Int × Bool) (A : Nat → List UInt8) : FuncId → Option Spec := specs [(spF, pureAt [bsT s, bsT [46]] (.vec 1 es .none)), (nuF, strW fun s => .tup [.val (.int .i64 (N s).1), .val (.bool (N s).2)]), (paF, adW A)]
def qtC (s x y : List UInt8) (ok : Bool) (N P : List UInt8 → Int × Bool) (G : Int → Int → Bool) (X : Int → Int → List UInt8) (R : Int → Int → Prop) : FuncId → Option Spec := specs [(cuF, pureAt [bsT s, bsT [47]] (.tup [bsT x, bsT y, .val (.bool ok)])), (qaF, strW fun s => .tup [.val (.int .u32 (P s).1), .val (.bool (P s).2)]), (nuF, strW fun s => .tup [.val (.int .i64 (N s).1), .val (.bool (N s).2)]), (goF, fun _ ys T K => match ys with
  | [.agg [.val (.int .u32 a), .val (.int .i64 n)]] => R a n ∧ K (.val (.bool (G a n))) T
  | _ => False), (ptF, fun _ ys T K => match ys with
  | [.agg [.val (.int .u32 a), .val (.int .i64 n)]] => R a n ∧ K (bsT (X a n)) T
  | _ => False)]
def o1 (a : Int) (s : Nat) : Int := IntKind.wrap .i64 (IntKind.wrap .u8 (Int.fdiv a ((2 : Int) ^ s)))
def o2 (x : Int) : Int := IntKind.wrap .i64 (IntKind.wrap .u32 (↑(BitVec.toNat (BitVec.ofInt (IntKind.bits .u32) x &&& BitVec.ofInt (IntKind.bits .u32) (255 : Int))) : Int))
def orS (z n : Int) : Int := IntKind.wrap .u32 (↑(BitVec.toNat (BitVec.ofInt (IntKind.bits .u32) (IntKind.wrap .u32 (z * (2 : Int) ^ min (Int.toNat (8 : Int)) (IntKind.bits .u32))) ||| BitVec.ofInt (IntKind.bits .u32) (IntKind.wrap .u32 n))) : Int)
set_option maxRecDepth 100000 in
theorem ev_pa (G : Globs) (D : Nat → List UInt8) (a : Int) (cs : List TV) (j : List UInt8) (Q : TV → VT → Prop) : vcallF Tryd.prog G (paC D cs j) noOra 300 noLp 0 paF [.val (.int .u32 a)] ⟨[],[]⟩ Q =
 (InR (o1 a 24) 256 ∧ (InR (o1 a 16) 256 ∧ (InR (o1 a 8) 256 ∧ (InR (o1 a 0) 256 ∧ (((@Eq (Nat) 0 0) ∧ ((@Eq (List TV) [.row 1 0 0 4, .val (.string ⟨#[46]⟩)] [.row 1 0 0 4, .val (.string ⟨#[46]⟩)]) ∧ (@Eq VT ⟨[.row [bsT (D (o1 a 24).toNat), bsT (D (o1 a 16).toNat), bsT (D (o1 a 8).toNat), bsT (D (o1 a 0).toNat)]], []⟩ ⟨[.row cs], []⟩))) ∧
 Q (bsT j) ⟨[.row [bsT (D (o1 a 24).toNat), bsT (D (o1 a 16).toNat), bsT (D (o1 a 8).toNat), bsT (D (o1 a 0).toNat)]], []⟩))))) := by kernel_rfl
set_option maxRecDepth 100000 in
theorem ev_pt (G : Globs) (D : Nat → List UInt8) (a n h c : Int) (A : Nat → List UInt8) (x9 x13 : List UInt8) (Q : TV → VT → Prop) : vcallF Tryd.prog G (ptC pcF paF itF D A a n h c) (tell [(999998, .dead), (9, bsT x9), (13, bsT x13)]) 300 noLp 0 ptF [.agg [.val (.int .u32 a), .val (.int .i64 n)]] ⟨[],[]⟩ Q =
 ((@Eq (List TV) [(.agg [(.val (.int .u32 (a))), (.val (.int .i64 (n)))])] [(.agg [(.val (.int .u32 (a))), (.val (.int .i64 (n)))])]) ∧
 (InR (h) 4294967296 ∧
 (((@Eq (Option TV) (.some (.val (.int .i64 (c)))) (.some (.val (.int .i64 (c))))) ∧
 ((@Eq (Option TV) (.some (.val (.int .u32 (h)))) (.some (.val (.int .u32 (h))))) ∧
 True )) ∧
 (OPure Tryd.prog (G) (.binOp .add 9 (.tmp 8) (.const (.string ⟨#[(47 : UInt8)]⟩)) 9) [(8, (.val (.string ⟨List.toArray (A (Int.toNat h))⟩)))] (.val (.string ⟨List.toArray (x9)⟩)) ∧
 (InR (c) 256 ∧
 (OPure Tryd.prog (G) (.binOp .add 9 (.tmp 9) (.tmp 12) 9) [(9, (.val (.string ⟨List.toArray (x9)⟩))), (12, (.val (.string ⟨List.toArray (D (Int.toNat c))⟩)))] (.val (.string ⟨List.toArray (x13)⟩)) ∧
 Q (.val (.string ⟨List.toArray (x13)⟩)) ⟨[(.cells [(.val (.int .u32 (a))), (.val (.int .i64 (n)))]), (.cells [(.val (.int .u32 (h))), (.val (.int .i64 (c)))])], []⟩)))))) := by kernel_rfl
set_option maxRecDepth 100000 in
theorem ev_rt (G : Globs) (D : Nat → List UInt8) (a n h c : Int) (A : Nat → List UInt8) (x9 x13 : List UInt8) (Q : TV → VT → Prop) : vcallF Tryd.prog G (ptC rcF raF rdF D A a n h c) (tell [(999998, .dead), (9, bsT x9), (13, bsT x13)]) 300 noLp 0 rtF [.agg [.val (.int .u32 a), .val (.int .i64 n)]] ⟨[],[]⟩ Q =
 ((@Eq (List TV) [(.agg [(.val (.int .u32 (a))), (.val (.int .i64 (n)))])] [(.agg [(.val (.int .u32 (a))), (.val (.int .i64 (n)))])]) ∧
 (InR (h) 4294967296 ∧
 (((@Eq (Option TV) (.some (.val (.int .i64 (c)))) (.some (.val (.int .i64 (c))))) ∧
 ((@Eq (Option TV) (.some (.val (.int .u32 (h)))) (.some (.val (.int .u32 (h))))) ∧
 True )) ∧
 (OPure Tryd.prog (G) (.binOp .add 9 (.tmp 8) (.const (.string ⟨#[(47 : UInt8)]⟩)) 9) [(8, (.val (.string ⟨List.toArray (A (Int.toNat h))⟩)))] (.val (.string ⟨List.toArray (x9)⟩)) ∧
 (InR (c) 256 ∧
 (OPure Tryd.prog (G) (.binOp .add 9 (.tmp 9) (.tmp 12) 9) [(9, (.val (.string ⟨List.toArray (x9)⟩))), (12, (.val (.string ⟨List.toArray (D (Int.toNat c))⟩)))] (.val (.string ⟨List.toArray (x13)⟩)) ∧
 Q (.val (.string ⟨List.toArray (x13)⟩)) ⟨[(.cells [(.val (.int .u32 (a))), (.val (.int .i64 (n)))]), (.cells [(.val (.int .u32 (h))), (.val (.int .i64 (c)))])], []⟩)))))) := by kernel_rfl
set_option maxRecDepth 100000 in
theorem ev_ra (G : Globs) (D : Nat → List UInt8) (a : Int) (x7 x13 x14 x20 x21 x26 : List UInt8) (Q : TV → VT → Prop) : vcallF Tryd.prog G (specs [(rdF, numW D)]) (tell [(7, bsT x7), (13, bsT x13), (14, bsT x14), (20, bsT x20), (21, bsT x21), (26, bsT x26)]) 300 noLp 0 raF [.val (.int .u32 a)] ⟨[],[]⟩ Q =
 (InR (IntKind.wrap .i64 (Int.fdiv a ((2 : Int) ^ 24))) 256 ∧
 (OPure Tryd.prog G (.binOp .add 9 (.tmp 6) (.const (.string ⟨#[46]⟩)) 9) [(6, bsT (D (IntKind.wrap .i64 (Int.fdiv a ((2 : Int) ^ 24))).toNat))] (bsT x7) ∧
 (InR (o2 (Int.fdiv a ((2 : Int) ^ 16))) 256 ∧
 (OPure Tryd.prog G (.binOp .add 9 (.tmp 7) (.tmp 12) 9) [(7, bsT x7), (12, bsT (D (o2 (Int.fdiv a ((2 : Int) ^ 16))).toNat))] (bsT x13) ∧
 (OPure Tryd.prog G (.binOp .add 9 (.tmp 13) (.const (.string ⟨#[46]⟩)) 9) [(13, bsT x13)] (bsT x14) ∧
 (InR (o2 (Int.fdiv a ((2 : Int) ^ 8))) 256 ∧
 (OPure Tryd.prog G (.binOp .add 9 (.tmp 14) (.tmp 19) 9) [(14, bsT x14), (19, bsT (D (o2 (Int.fdiv a ((2 : Int) ^ 8))).toNat))] (bsT x20) ∧
 (OPure Tryd.prog G (.binOp .add 9 (.tmp 20) (.const (.string ⟨#[46]⟩)) 9) [(20, bsT x20)] (bsT x21) ∧
 (InR (o2 a) 256 ∧
 (OPure Tryd.prog G (.binOp .add 9 (.tmp 21) (.tmp 25) 9) [(21, bsT x21), (25, bsT (D (o2 a).toNat))] (bsT x26) ∧
 (Q (bsT x26) ⟨[], []⟩))))))))))) := by kernel_rfl
set_option maxRecDepth 100000 in
theorem ev_qa0 (G : Globs) (s : List UInt8) (es : List (List TV)) (N : List UInt8 → Int × Bool) (A : Nat → List UInt8) (Q : TV → VT → Prop) : vcallF Tryd.prog G (qaC s es N A) (tell [(17, .dead)]) 300 noLp 0 qaF [bsT s] ⟨[],[]⟩ Q =
 ((@Eq (List TV) [(.val (.string ⟨List.toArray (s)⟩)), (.val (.string ⟨#[(46 : UInt8)]⟩))] [(.val (.string ⟨List.toArray (s)⟩)), (.val (.string ⟨#[(46 : UInt8)]⟩))]) ∧
 (bif eqRes BinOp.neq (keyEq (Value.int IntKind.i64 (↑(List.length es) : Int)) (Value.int IntKind.i64 (4 : Int)))
 then Q (.tup [(.val (.int .u32 0)), (.val (.bool false))]) ⟨[], []⟩
 else (OPure Tryd.prog (G) (.move (.const (.int .i64 0))) [] .dead ∧
 False))) := by kernel_rfl
set_option maxRecDepth 100000 in
theorem ev_qa4 (G : Globs) (s w0 w1 w2 w3 : List UInt8) (N : List UInt8 → Int × Bool) (A : Nat → List UInt8) (Q : TV → VT → Prop) : vcallF Tryd.prog G (qaC s [[bsT w0], [bsT w1], [bsT w2], [bsT w3]] N A) noOra 300 noLp 0 qaF [bsT s] ⟨[],[]⟩ Q =
 ((@Eq (List TV) [bsT s, bsT [46]] [bsT s, bsT [46]]) ∧
 (bif !(N w0).2 then Q (.tup [.val (.int .u32 0), .val (.bool false)]) ⟨[], []⟩ else (bif decide ((N w0).1 > 255) then Q (.tup [.val (.int .u32 0), .val (.bool false)]) ⟨[], []⟩ else
 (bif !(N w1).2 then Q (.tup [.val (.int .u32 0), .val (.bool false)]) ⟨[], []⟩ else (bif decide ((N w1).1 > 255) then Q (.tup [.val (.int .u32 0), .val (.bool false)]) ⟨[], []⟩ else
 (bif !(N w2).2 then Q (.tup [.val (.int .u32 0), .val (.bool false)]) ⟨[], []⟩ else (bif decide ((N w2).1 > 255) then Q (.tup [.val (.int .u32 0), .val (.bool false)]) ⟨[], []⟩ else
 (bif !(N w3).2 then Q (.tup [.val (.int .u32 0), .val (.bool false)]) ⟨[], []⟩ else (bif decide ((N w3).1 > 255) then Q (.tup [.val (.int .u32 0), .val (.bool false)]) ⟨[], []⟩ else
 (InR (orS (orS (orS (orS 0 (N w0).1) (N w1).1) (N w2).1) (N w3).1) 4294967296 ∧ (bif eqRes .neq (keyEq (.string ⟨(A (orS (orS (orS (orS 0 (N w0).1) (N w1).1) (N w2).1) (N w3).1).toNat).toArray⟩) (.string ⟨s.toArray⟩)) then Q (.tup [.val (.int .u32 0), .val (.bool false)]) ⟨[], []⟩ else Q (.tup [.val (.int .u32 (orS (orS (orS (orS 0 (N w0).1) (N w1).1) (N w2).1) (N w3).1)), .val (.bool true)]) ⟨[], []⟩))))))))))) := by kernel_rfl
set_option maxRecDepth 100000 in
theorem ev_qt (G : Globs) (s x y : List UInt8) (ok : Bool) (N P : List UInt8 → Int × Bool) (GD : Int → Int → Bool) (X : Int → Int → List UInt8) (R : Int → Int → Prop) (Q : TV → VT → Prop) : vcallF Tryd.prog G (qtC s x y ok N P GD X R) noOra 300 noLp 0 qtF [bsT s] ⟨[],[]⟩ Q =
 ((@Eq (List TV) [(.val (.string ⟨List.toArray (s)⟩)), (.val (.string ⟨#[(47 : UInt8)]⟩))] [(.val (.string ⟨List.toArray (s)⟩)), (.val (.string ⟨#[(47 : UInt8)]⟩))]) ∧
 (bif !ok
 then Q (.tup [(.agg [(.val (.int .u32 0)), (.val (.int .i64 0))]), (.val (.bool false))]) ⟨[(.cells [(.val (.int .u32 0)), (.val (.int .i64 0))]), (.cells [(.val (.int .u32 (Prod.fst (P x)))), (.val (.int .i64 (Prod.fst (N y))))])], []⟩
 else (bif !Prod.snd (P x)
 then Q (.tup [(.agg [(.val (.int .u32 0)), (.val (.int .i64 0))]), (.val (.bool false))]) ⟨[(.cells [(.val (.int .u32 0)), (.val (.int .i64 0))]), (.cells [(.val (.int .u32 (Prod.fst (P x)))), (.val (.int .i64 (Prod.fst (N y))))])], []⟩
 else (bif !Prod.snd (N y)
 then Q (.tup [(.agg [(.val (.int .u32 0)), (.val (.int .i64 0))]), (.val (.bool false))]) ⟨[(.cells [(.val (.int .u32 0)), (.val (.int .i64 0))]), (.cells [(.val (.int .u32 (Prod.fst (P x)))), (.val (.int .i64 (Prod.fst (N y))))])], []⟩
 else (R (Prod.fst (P x)) (Prod.fst (N y)) ∧
 (bif !GD (Prod.fst (P x)) (Prod.fst (N y))
 then Q (.tup [(.agg [(.val (.int .u32 0)), (.val (.int .i64 0))]), (.val (.bool false))]) ⟨[(.cells [(.val (.int .u32 0)), (.val (.int .i64 0))]), (.cells [(.val (.int .u32 (Prod.fst (P x)))), (.val (.int .i64 (Prod.fst (N y))))])], []⟩
 else (R (Prod.fst (P x)) (Prod.fst (N y)) ∧
 (bif eqRes BinOp.neq (keyEq (Value.string { data := List.toArray (X (Prod.fst (P x)) (Prod.fst (N y))) }) (Value.string { data := List.toArray s }))
 then Q (.tup [(.agg [(.val (.int .u32 0)), (.val (.int .i64 0))]), (.val (.bool false))]) ⟨[(.cells [(.val (.int .u32 0)), (.val (.int .i64 0))]), (.cells [(.val (.int .u32 (Prod.fst (P x)))), (.val (.int .i64 (Prod.fst (N y))))])], []⟩
 else Q (.tup [(.agg [(.val (.int .u32 (Prod.fst (P x)))), (.val (.int .i64 (Prod.fst (N y))))]), (.val (.bool true))]) ⟨[(.cells [(.val (.int .u32 (Prod.fst (P x)))), (.val (.int .i64 (Prod.fst (N y))))]), (.cells [(.val (.int .u32 (Prod.fst (P x)))), (.val (.int .i64 (Prod.fst (N y))))])], []⟩)))))))) := by kernel_rfl
end Go.Proofs.YtkjpbadlbpfpaaaDoor
