/- Part 6 of the proof of messageReadsCard_holds: MsTk, MsTl, MsTm ... No condition. -/
import Derived.Deep.Slices
import Derived.ProofKit
import Derived.OpenShut
import Derived.Lib.SmallJoins
import Derived.Lib.LaidTab
import Derived.LaidHandle
import Derived.ChangeVars
import Derived.JoinedOf
import Derived.Stop.Joined
import Derived.Test.YtogbdjlelkepcaaGreatDoorSc1
import Derived.Test.YtogbdjlelkepcaaGreatDoorSc2
import Derived.Test.YtogbdjlelkepcaaGreatDoorSc3
import Derived.Test.YtogbdjlelkepcaaGreatDoorSc4
import Derived.Test.YtogbdjlelkepcaaGreatDoorSc5
set_option maxRecDepth 100000
namespace Go.Proofs.YtogbdjlelkepcaaGreatDoor
open Go.RowKit

abbrev tkaF := 118
abbrev q7TF := 125
abbrev hopF := 162
abbrev qhopF := 145
def g32W : Spec := fun _ ys T K => match ys with
 | [.vec 1 v _, .val (.int .i64 0)] => (IsB v ∧ LeN 4 v) ∧ K (.tup [.val (.int .u32 (geN 4 v)), .val (.bool true)]) T
 | _ => False
def hopB (a : Int) : Bool := eqRes BinOp.neq (keyEq (Value.int IntKind.u32 a) (Value.int IntKind.u32 (0 : Int))) && (eqRes BinOp.neq (keyEq (Value.int IntKind.u32 a) (Value.int IntKind.u32 (4294967295 : Int))) && (eqRes BinOp.neq (keyEq (Value.int IntKind.u32 (Int.fdiv a ((2 : Int) ^ min (Int.toNat (24 : Int)) (IntKind.bits IntKind.u32)))) (Value.int IntKind.u32 (127 : Int))) && eqRes BinOp.neq (keyEq (Value.int IntKind.u32 (Int.fdiv a ((2 : Int) ^ min (Int.toNat (29 : Int)) (IntKind.bits IntKind.u32)))) (Value.int IntKind.u32 (7 : Int)))))
def ptLB (v : Bs) : Bs := iV (ptA v)
def hopW : Spec := fun _ ys T K => match ys with
 | [.val (.int .u32 a)] => K (.val (.bool (hopB a))) T
 | _ => False
def ptWs : Spec := fun _ ys T K => match ys with
 | [.vec 1 v _] => IsB v ∧ K (.tup [.vec 1 (ptLB v) .none, .val (.bool (ptO v))]) T
 | _ => False
def atO (o h m : Int) (hm : Bool) (x : TV) : VO := .cells [.val (.int .i64 o), x, .val (.int .u32 h), .val (.int .i64 m), .val (.bool hm)]
def rawT (fl t : Int) (v : Bs) : TV := .agg [.val (.int .i64 fl), .val (.int .i64 t), .vec 1 v .none]
theorem ev_hop (a : Int) (Q : TV → VT → Prop) : vcallF Tryz.prog noGl noSp noOra 300 noLp 0 hopF [.val (.int .u32 a)] zz211 Q =
 (bif eqRes BinOp.neq (keyEq (Value.int IntKind.u32 a) (Value.int IntKind.u32 (0 : Int)))
 then (bif eqRes BinOp.neq (keyEq (Value.int IntKind.u32 a) (Value.int IntKind.u32 (4294967295 : Int)))
 then (bif eqRes BinOp.neq (keyEq (Value.int IntKind.u32 (Int.fdiv a ((2 : Int) ^ min (Int.toNat (24 : Int)) (IntKind.bits IntKind.u32)))) (Value.int IntKind.u32 (127 : Int)))
 then Q (zz9 (eqRes BinOp.neq (keyEq (Value.int IntKind.u32 (Int.fdiv a ((2 : Int) ^ min (Int.toNat (29 : Int)) (IntKind.bits IntKind.u32)))) (Value.int IntKind.u32 (7 : Int))))) zz211
 else Q zz20 zz211)
 else Q zz20 zz211)
 else Q zz20 zz211) := by kernel_rfl
theorem ev_qhop (a : Int) (Q : TV → VT → Prop) : vcallF Tryz.prog noGl noSp noOra 300 noLp 0 qhopF [.val (.int .u32 a)] zz211 Q =
 (bif eqRes BinOp.neq (keyEq (Value.int IntKind.u32 a) (Value.int IntKind.u32 (0 : Int)))
 then (bif eqRes BinOp.neq (keyEq (Value.int IntKind.u32 a) (Value.int IntKind.u32 (4294967295 : Int)))
 then (bif eqRes BinOp.neq (keyEq (Value.int IntKind.u32 (Int.fdiv a ((2 : Int) ^ min (Int.toNat (24 : Int)) (IntKind.bits IntKind.u32)))) (Value.int IntKind.u32 (127 : Int)))
 then Q (zz9 (eqRes BinOp.neq (keyEq (Value.int IntKind.u32 (Int.fdiv a ((2 : Int) ^ min (Int.toNat (29 : Int)) (IntKind.bits IntKind.u32)))) (Value.int IntKind.u32 (7 : Int))))) zz211
 else Q zz20 zz211)
 else Q zz20 zz211)
 else Q zz20 zz211) := by kernel_rfl
abbrev zzy26 : VO := (zz149 (.fn (.func 159) [] [(.ptr 2 0)]))
abbrev zzy27 : VO := (zz144 (.fn (.func 158) [] [(.ptr 2 0)]))
abbrev zzy28 : VO := (zz141 (.fn (.func 161) [] [(.ptr 2 0)]))
abbrev zzy29 : VO := (zz147 (.fn (.func 163) [] [(.ptr 2 0)]))
theorem ev_tk0 (o h m fl t : Int) (hm : Bool) (x : TV) (Q : TV → VT → Prop) : vcallF Tryz.prog noGl (specs [(ptF, ptWs), (wG32F, g32W), (hopF, hopW)]) (tellS [(999999, .dead, none)]) 300 noLp 0 tkaF [.ptr 0 0, rawT fl t []] (zz209 (atO o h m hm x)) Q =
 (bif eqRes BinOp.eql (k6 t (1 : Int))
 then (bif eqRes BinOp.neq (k6 (IntKind.wrap IntKind.i64 (↑(BitVec.toNat (BitVec.ofInt (IntKind.bits IntKind.i64) fl &&& ~~~BitVec.ofInt (IntKind.bits IntKind.i64) (16 : Int))) : Int)) (64 : Int))
 then Q zz140 ⟨[(zz110 o x h m hm), (zz151 fl t), zz138, zzy27, zzy27], []⟩
 else Q zz150 ⟨[(zz110 o x h m hm), (zz151 fl t), zz138, zzy27, zzy27], []⟩)
 else (bif eqRes BinOp.eql (k6 t (2 : Int))
 then (bif eqRes BinOp.neq (k6 (IntKind.wrap IntKind.i64 (↑(BitVec.toNat (BitVec.ofInt (IntKind.bits IntKind.i64) fl &&& ~~~BitVec.ofInt (IntKind.bits IntKind.i64) (16 : Int))) : Int)) (64 : Int))
 then Q zz140 ⟨[(zz110 o x h m hm), (zz151 fl t), zz138, zzy26, zzy26], []⟩
 else (IsB [] ∧
 (bif !ptO []
 then Q zz148 ⟨[(zz110 o x h m hm), (zz151 fl t), zz138, zzy26, zzy26], []⟩
 else Q zz4 ⟨[(zz34 o (ptLB []) h m hm), (zz151 fl t), zz138, zzy26, zzy26], []⟩)))
 else (bif eqRes BinOp.eql (k6 t (3 : Int))
 then (bif eqRes BinOp.neq (k6 (IntKind.wrap IntKind.i64 (↑(BitVec.toNat (BitVec.ofInt (IntKind.bits IntKind.i64) fl &&& ~~~BitVec.ofInt (IntKind.bits IntKind.i64) (16 : Int))) : Int)) (64 : Int))
 then Q zz140 ⟨[(zz110 o x h m hm), (zz151 fl t), zz138, zzy28, zzy28], []⟩
 else Q zz150 ⟨[(zz110 o x h m hm), (zz151 fl t), zz138, zzy28, zzy28], []⟩)
 else (bif eqRes BinOp.eql (k6 t (4 : Int))
 then (bif eqRes BinOp.neq (k6 (IntKind.wrap IntKind.i64 (↑(BitVec.toNat (BitVec.ofInt (IntKind.bits IntKind.i64) fl &&& ~~~BitVec.ofInt (IntKind.bits IntKind.i64) (16 : Int))) : Int)) (128 : Int))
 then Q zz140 ⟨[(zz110 o x h m hm), (zz151 fl t), zz138, zzy29, zzy29], []⟩
 else Q zz150 ⟨[(zz110 o x h m hm), (zz151 fl t), zz138, zzy29, zzy29], []⟩)
 else (bif eqRes BinOp.eql (k6 (IntKind.wrap IntKind.i64 (↑(BitVec.toNat (BitVec.ofInt (IntKind.bits IntKind.i64) fl &&& BitVec.ofInt (IntKind.bits IntKind.i64) (128 : Int))) : Int)) (0 : Int))
 then Q zz39 ⟨[(zz110 o x h m hm), (zz151 fl t), zz138, (zz146 (.val .nilFunc)), (zz146 (.val .nilFunc))], []⟩
 else Q zz4 ⟨[(zz110 o x h m hm), (zz151 fl t), zz138, (zz146 (.val .nilFunc)), (zz146 (.val .nilFunc))], []⟩))))) := by kernel_rfl
abbrev zzy30 (fl : Int) (t : Int) (z : Int) (w : Bs) : VO := (zz11 fl t ([[(.val (.int .u8 (z)))]] ++ w))
abbrev zzy31 (z : Int) (x : TV) (h : Int) (m : Int) (hm : Bool) (fl : Int) (t : Int) (w : Bs) : VT := (zz145 (IntKind.wrap IntKind.i64 z) x h m hm fl t ([[(.val (.int .u8 (z)))]] ++ w) (.fn (.func 158) [] [(.ptr 2 0)]) (.fn (.func 158) [] [(.ptr 2 0)]))
abbrev zzy32 (o : Int) (x : TV) (z : Int) (w : Bs) (m : Int) (hm : Bool) (fl : Int) (t : Int) : VT := (zz142 o x (geN (4 : Int) (bT z :: w)) m hm fl t ([[(.val (.int .u8 (z)))]] ++ w) (.fn (.func 161) [] [(.ptr 2 0)]) (.fn (.func 161) [] [(.ptr 2 0)]))
abbrev zzy33 (o : Int) (x : TV) (h : Int) (m : Int) (hm : Bool) (fl : Int) (t : Int) (z : Int) (w : Bs) : VT := (zz145 o x h m hm fl t ([[(.val (.int .u8 (z)))]] ++ w) (.fn (.func 158) [] [(.ptr 2 0)]) (.fn (.func 158) [] [(.ptr 2 0)]))
abbrev zzy34 (o : Int) (x : TV) (h : Int) (m : Int) (hm : Bool) (fl : Int) (t : Int) (z : Int) (w : Bs) : VT := (zz142 o x h m hm fl t ([[(.val (.int .u8 (z)))]] ++ w) (.fn (.func 161) [] [(.ptr 2 0)]) (.fn (.func 161) [] [(.ptr 2 0)]))
theorem ev_tkc (o h m fl t z : Int) (hm : Bool) (x : TV) (w : Bs) (Q : TV → VT → Prop) : vcallF Tryz.prog noGl (specs [(ptF, ptWs), (wG32F, g32W), (hopF, hopW)]) (tellS [(999999, .dead, none)]) 300 noLp 0 tkaF [.ptr 0 0, rawT fl t (bT z :: w)] (zz209 (atO o h m hm x)) Q =
 (bif eqRes BinOp.eql (k6 t (1 : Int))
 then (bif eqRes BinOp.neq (k6 (IntKind.wrap IntKind.i64 (↑(BitVec.toNat (BitVec.ofInt (IntKind.bits IntKind.i64) fl &&& ~~~BitVec.ofInt (IntKind.bits IntKind.i64) (16 : Int))) : Int)) (64 : Int))
 then Q zz140 (zzy33 o x h m hm fl t z w)
 else (bif eqRes BinOp.neq (k6 (↑(List.length (bT z :: w)) : Int) (1 : Int))
 then Q zz150 (zzy33 o x h m hm fl t z w)
 else (bif decide (IntKind.wrap IntKind.i64 z > (2 : Int))
 then Q zz143 (zzy31 z x h m hm fl t w)
 else Q zz4 (zzy31 z x h m hm fl t w))))
 else (bif eqRes BinOp.eql (k6 t (2 : Int))
 then (bif eqRes BinOp.neq (k6 (IntKind.wrap IntKind.i64 (↑(BitVec.toNat (BitVec.ofInt (IntKind.bits IntKind.i64) fl &&& ~~~BitVec.ofInt (IntKind.bits IntKind.i64) (16 : Int))) : Int)) (64 : Int))
 then Q zz140 ⟨[(zz110 o x h m hm), (zzy30 fl t z w), zz138, zzy26, zzy26], []⟩
 else (IsB ([(zz197 z)] ++ w) ∧
 (bif !ptO (bT z :: w)
 then Q zz148 ⟨[(zz110 o x h m hm), (zzy30 fl t z w), zz138, zzy26, zzy26], []⟩
 else Q zz4 ⟨[(zz34 o (ptLB (bT z :: w)) h m hm), (zzy30 fl t z w), zz138, zzy26, zzy26], []⟩)))
 else (bif eqRes BinOp.eql (k6 t (3 : Int))
 then (bif eqRes BinOp.neq (k6 (IntKind.wrap IntKind.i64 (↑(BitVec.toNat (BitVec.ofInt (IntKind.bits IntKind.i64) fl &&& ~~~BitVec.ofInt (IntKind.bits IntKind.i64) (16 : Int))) : Int)) (64 : Int))
 then Q zz140 (zzy34 o x h m hm fl t z w)
 else (bif eqRes BinOp.neq (k6 (↑(List.length (bT z :: w)) : Int) (4 : Int))
 then Q zz150 (zzy34 o x h m hm fl t z w)
 else ((IsB ([(zz197 z)] ++ w) ∧
 LeN 4 ([(zz197 z)] ++ w)) ∧
 (bif !hopB (geN (4 : Int) (bT z :: w))
 then Q zz137 (zzy32 o x z w m hm fl t)
 else Q zz4 (zzy32 o x z w m hm fl t)))))
 else (bif eqRes BinOp.eql (k6 t (4 : Int))
 then (bif eqRes BinOp.neq (k6 (IntKind.wrap IntKind.i64 (↑(BitVec.toNat (BitVec.ofInt (IntKind.bits IntKind.i64) fl &&& ~~~BitVec.ofInt (IntKind.bits IntKind.i64) (16 : Int))) : Int)) (128 : Int))
 then Q zz140 ⟨[(zz110 o x h m hm), (zzy30 fl t z w), zz138, zzy29, zzy29], []⟩
 else (bif eqRes BinOp.neq (k6 (↑(List.length (bT z :: w)) : Int) (4 : Int))
 then Q zz150 ⟨[(zz110 o x h m hm), (zzy30 fl t z w), zz138, zzy29, zzy29], []⟩
 else ((IsB ([(zz197 z)] ++ w) ∧
 LeN 4 ([(zz197 z)] ++ w)) ∧
 Q zz4 ⟨[(.cells [(zz1 o), x, (zz7 h), (zz1 (IntKind.wrap IntKind.i64 (geN (4 : Int) (bT z :: w)))), zz133]), (zzy30 fl t z w), zz138, zzy29, zzy29], []⟩)))
 else (bif eqRes BinOp.eql (k6 (IntKind.wrap IntKind.i64 (↑(BitVec.toNat (BitVec.ofInt (IntKind.bits IntKind.i64) fl &&& BitVec.ofInt (IntKind.bits IntKind.i64) (128 : Int))) : Int)) (0 : Int))
 then Q zz39 ⟨[(zz110 o x h m hm), (zzy30 fl t z w), zz138, (zz146 (.val .nilFunc)), (zz146 (.val .nilFunc))], []⟩
 else Q zz4 ⟨[(zz110 o x h m hm), (zzy30 fl t z w), zz138, (zz146 (.val .nilFunc)), (zz146 (.val .nilFunc))], []⟩))))) := by kernel_rfl
theorem ev_q7T (o h m fl t : Int) (hm : Bool) (x : TV) (v : Bs) (Q : TV → VT → Prop) : vcallF Tryz.prog noGl (specs [(q7PF, ptWs), (rGeF, rgetW), (qhopF, hopW)]) (tellS [(999999, .dead, none)]) 300 noLp 0 q7TF [.ptr 0 0, rawT fl t v] (zz209 (atO o h m hm x)) Q =
 (bif eqRes BinOp.eql (k6 t (1 : Int))
 then (bif eqRes BinOp.neq (k6 (IntKind.wrap IntKind.i64 (↑(BitVec.toNat (BitVec.ofInt (IntKind.bits IntKind.i64) fl &&& ~~~BitVec.ofInt (IntKind.bits IntKind.i64) (16 : Int))) : Int)) (64 : Int))
 then Q zz140 (zz136 o x h m hm fl t v)
 else (bif eqRes BinOp.neq (k6 (↑(List.length v) : Int) (1 : Int))
 then Q zz150 (zz136 o x h m hm fl t v)
 else ((IsB (v) ∧
 (SmB (v) ∧
 (SmN 1 ∧
 (@Eq (Int) 0 0)))) ∧
 (bif eqRes BinOp.eql (k6 t (1 : Int))
 then (bif decide (rgV (1 : Int) v > (2 : Int))
 then Q zz143 (zz136 o x h m hm fl t v)
 else Q zz4 (zz136 (IntKind.wrap IntKind.i64 (rgV (1 : Int) v)) x h m hm fl t v))
 else (bif eqRes BinOp.eql (k6 t (2 : Int))
 then (IsB (v) ∧
 (bif !ptO v
 then Q zz148 (zz136 o x h m hm fl t v)
 else Q zz4 (zz135 o (ptLB v) h m hm fl t v)))
 else (bif eqRes BinOp.eql (k6 t (3 : Int))
 then (bif !hopB (IntKind.wrap IntKind.u32 (rgV (1 : Int) v))
 then Q zz137 (zz136 o x h m hm fl t v)
 else Q zz4 (zz136 o x (IntKind.wrap IntKind.u32 (rgV (1 : Int) v)) m hm fl t v))
 else (bif eqRes BinOp.eql (k6 t (4 : Int))
 then Q zz4 (zz134 o x h (IntKind.wrap IntKind.i64 (rgV (1 : Int) v)) fl t v)
 else Q zz4 (zz136 o x h m hm fl t v))))))))
 else (bif eqRes BinOp.eql (k6 t (3 : Int))
 then (bif eqRes BinOp.neq (k6 (IntKind.wrap IntKind.i64 (↑(BitVec.toNat (BitVec.ofInt (IntKind.bits IntKind.i64) fl &&& ~~~BitVec.ofInt (IntKind.bits IntKind.i64) (16 : Int))) : Int)) (64 : Int))
 then Q zz140 (zz136 o x h m hm fl t v)
 else (bif eqRes BinOp.neq (k6 (↑(List.length v) : Int) (4 : Int))
 then Q zz150 (zz136 o x h m hm fl t v)
 else ((IsB (v) ∧
 (SmB (v) ∧
 (SmN 4 ∧
 (@Eq (Int) 0 0)))) ∧
 (bif eqRes BinOp.eql (k6 t (1 : Int))
 then (bif decide (rgV (4 : Int) v > (2 : Int))
 then Q zz143 (zz136 o x h m hm fl t v)
 else Q zz4 (zz136 (IntKind.wrap IntKind.i64 (rgV (4 : Int) v)) x h m hm fl t v))
 else (bif eqRes BinOp.eql (k6 t (2 : Int))
 then (IsB (v) ∧
 (bif !ptO v
 then Q zz148 (zz136 o x h m hm fl t v)
 else Q zz4 (zz135 o (ptLB v) h m hm fl t v)))
 else (bif eqRes BinOp.eql (k6 t (3 : Int))
 then (bif !hopB (IntKind.wrap IntKind.u32 (rgV (4 : Int) v))
 then Q zz137 (zz136 o x h m hm fl t v)
 else Q zz4 (zz136 o x (IntKind.wrap IntKind.u32 (rgV (4 : Int) v)) m hm fl t v))
 else (bif eqRes BinOp.eql (k6 t (4 : Int))
 then Q zz4 (zz134 o x h (IntKind.wrap IntKind.i64 (rgV (4 : Int) v)) fl t v)
 else Q zz4 (zz136 o x h m hm fl t v))))))))
 else (bif eqRes BinOp.eql (k6 t (4 : Int))
 then (bif eqRes BinOp.neq (k6 (IntKind.wrap IntKind.i64 (↑(BitVec.toNat (BitVec.ofInt (IntKind.bits IntKind.i64) fl &&& ~~~BitVec.ofInt (IntKind.bits IntKind.i64) (16 : Int))) : Int)) (128 : Int))
 then Q zz140 (zz136 o x h m hm fl t v)
 else (bif eqRes BinOp.neq (k6 (↑(List.length v) : Int) (4 : Int))
 then Q zz150 (zz136 o x h m hm fl t v)
 else ((IsB (v) ∧
 (SmB (v) ∧
 (SmN 4 ∧
 (@Eq (Int) 0 0)))) ∧
 (bif eqRes BinOp.eql (k6 t (1 : Int))
 then (bif decide (rgV (4 : Int) v > (2 : Int))
 then Q zz143 (zz136 o x h m hm fl t v)
 else Q zz4 (zz136 (IntKind.wrap IntKind.i64 (rgV (4 : Int) v)) x h m hm fl t v))
 else (bif eqRes BinOp.eql (k6 t (2 : Int))
 then (IsB (v) ∧
 (bif !ptO v
 then Q zz148 (zz136 o x h m hm fl t v)
 else Q zz4 (zz135 o (ptLB v) h m hm fl t v)))
 else (bif eqRes BinOp.eql (k6 t (3 : Int))
 then (bif !hopB (IntKind.wrap IntKind.u32 (rgV (4 : Int) v))
 then Q zz137 (zz136 o x h m hm fl t v)
 else Q zz4 (zz136 o x (IntKind.wrap IntKind.u32 (rgV (4 : Int) v)) m hm fl t v))
 else (bif eqRes BinOp.eql (k6 t (4 : Int))
 then Q zz4 (zz134 o x h (IntKind.wrap IntKind.i64 (rgV (4 : Int) v)) fl t v)
 else Q zz4 (zz136 o x h m hm fl t v))))))))
 else (bif eqRes BinOp.eql (k6 t (2 : Int))
 then (bif eqRes BinOp.neq (k6 (IntKind.wrap IntKind.i64 (↑(BitVec.toNat (BitVec.ofInt (IntKind.bits IntKind.i64) fl &&& ~~~BitVec.ofInt (IntKind.bits IntKind.i64) (16 : Int))) : Int)) (64 : Int))
 then Q zz140 (zz136 o x h m hm fl t v)
 else ((IsB (v) ∧
 (SmB (v) ∧
 (SmN 0 ∧
 (@Eq (Int) 0 0)))) ∧
 (bif eqRes BinOp.eql (k6 t (1 : Int))
 then (bif decide (rgV (0 : Int) v > (2 : Int))
 then Q zz143 (zz136 o x h m hm fl t v)
 else Q zz4 (zz136 (IntKind.wrap IntKind.i64 (rgV (0 : Int) v)) x h m hm fl t v))
 else (bif eqRes BinOp.eql (k6 t (2 : Int))
 then (IsB (v) ∧
 (bif !ptO v
 then Q zz148 (zz136 o x h m hm fl t v)
 else Q zz4 (zz135 o (ptLB v) h m hm fl t v)))
 else (bif eqRes BinOp.eql (k6 t (3 : Int))
 then (bif !hopB (IntKind.wrap IntKind.u32 (rgV (0 : Int) v))
 then Q zz137 (zz136 o x h m hm fl t v)
 else Q zz4 (zz136 o x (IntKind.wrap IntKind.u32 (rgV (0 : Int) v)) m hm fl t v))
 else (bif eqRes BinOp.eql (k6 t (4 : Int))
 then Q zz4 (zz134 o x h (IntKind.wrap IntKind.i64 (rgV (0 : Int) v)) fl t v)
 else Q zz4 (zz136 o x h m hm fl t v)))))))
 else (bif eqRes BinOp.eql (k6 (IntKind.wrap IntKind.i64 (↑(BitVec.toNat (BitVec.ofInt (IntKind.bits IntKind.i64) fl &&& BitVec.ofInt (IntKind.bits IntKind.i64) (128 : Int))) : Int)) (0 : Int))
 then Q zz39 (zz136 o x h m hm fl t v)
 else Q zz4 (zz136 o x h m hm fl t v)))))) := by kernel_rfl
end Go.Proofs.YtogbdjlelkepcaaGreatDoor
namespace Go.Proofs.YtogbdjlelkepcaaGreatDoor
open Go.RowKit

theorem hop_vcx (a : Int) : VCx Tryz.prog noGl 0 hopF [.val (.int .u32 a)] ⟨[], []⟩ fun x T' => x = .val (.bool (hopB a)) ∧ T' = ⟨[], []⟩ := by
 refine vcallF_is mixedB_Tryz bodiesB_Tryz specsOk_none lsOk_none (ev_hop a _) ?_
 unfold hopB
 refine cond_of (fun c1 => ?_) (fun c1 => ?_)
 ·refine cond_of (fun c2 => ?_) (fun c2 => ?_)
  ·refine cond_of (fun c3 => ?_) (fun c3 => ?_)
   ·rw [c1, c2, c3, Bool.true_and, Bool.true_and, Bool.true_and]; exact ⟨rfl, rfl⟩
   ·rw [c1, c2, c3, Bool.true_and, Bool.true_and, Bool.false_and]; exact ⟨rfl, rfl⟩
  ·rw [c1, c2, Bool.true_and, Bool.false_and]; exact ⟨rfl, rfl⟩
 ·rw [c1, Bool.false_and]; exact ⟨rfl, rfl⟩
theorem qhop_vcx (a : Int) : VCx Tryz.prog noGl 0 qhopF [.val (.int .u32 a)] ⟨[], []⟩ fun x T' => x = .val (.bool (hopB a)) ∧ T' = ⟨[], []⟩ := by
 refine vcallF_is mixedB_Tryz bodiesB_Tryz specsOk_none lsOk_none (ev_qhop a _) ?_
 unfold hopB
 refine cond_of (fun c1 => ?_) (fun c1 => ?_)
 ·refine cond_of (fun c2 => ?_) (fun c2 => ?_)
  ·refine cond_of (fun c3 => ?_) (fun c3 => ?_)
   ·rw [c1, c2, c3, Bool.true_and, Bool.true_and, Bool.true_and]; exact ⟨rfl, rfl⟩
   ·rw [c1, c2, c3, Bool.true_and, Bool.true_and, Bool.false_and]; exact ⟨rfl, rfl⟩
  ·rw [c1, c2, Bool.true_and, Bool.false_and]; exact ⟨rfl, rfl⟩
 ·rw [c1, Bool.false_and]; exact ⟨rfl, rfl⟩
theorem hopW_ok {f : FuncId} (h : ∀ a, VCx Tryz.prog noGl 0 f [.val (.int .u32 a)] ⟨[], []⟩ fun x T' => x = .val (.bool (hopB a)) ∧ T' = ⟨[], []⟩) : ∀ ro ys T K, hopW ro ys T K → VCx Tryz.prog noGl ro f ys T K := by
 intro ro ys T K hw
 unfold hopW at hw
 split at hw
 ·exact VCx.liftPure gvals_noGl (h _) rfl (fun _ _ => rfl) hw
 ·exact hw.elim
theorem ptX_ren (b : Bs) (f g : Nat → Option Nat) : (ptX b).ren f g = ptX b := by
 simp only [ptX, TV.ren, renL, iV_ren, Tok.ren]
theorem ptWs_ok {f : FuncId} (h : ∀ b, IsB b → VCx Tryz.prog noGl 0 f [.vec 1 b .none] ⟨[], []⟩ fun x T' => x = ptX b ∧ T' = ⟨[], []⟩) : ∀ ro ys T K, ptWs ro ys T K → VCx Tryz.prog noGl ro f ys T K := by
 intro ro ys T K hw
 unfold ptWs at hw
 split at hw
 ·rename_i v tok
  exact VCx.loosePure gvals_noGl (h v hw.1) (by simp [looseTV]) (by simp [renL, TV.ren, hw.1.ren, Tok.ren]) (fun f h => ptX_ren v f h) hw.2
 ·exact hw.elim
theorem g32_vcx {v : Bs} (hv : IsB v) (hl : LeN 4 v) : VCx Tryz.prog noGl 0 wG32F [.vec 1 v .none, .val (.int .i64 0)] ⟨[], []⟩ fun x T' => x = .tup [.val (.int .u32 (geN 4 v)), .val (.bool true)] ∧ T' = ⟨[], []⟩ := by
 have hs := hv.small
 have hl2 : (4 : Int) ≤ v.length := hl
 refine vcallF_is mixedB_Tryz bodiesB_Tryz (specs_ok fun p hp => by obtain rfl := List.mem_singleton.1 hp; exact getW_ok) lsOk_none (ev_wg32 v _) ?_
 rw [wrap_id (z := (v.length : Int) - 4) (by omega) (by omega)]
 have hg : 0 ≤ geN 4 v ∧ geN 4 v < 4294967296 := by
  obtain ⟨⟨l, hl3, hz⟩, _⟩ := hv.take 4
  have hlen : l.length = 4 := by
   have := congrArg List.length hl3
   simp only [bV, List.length_map, List.length_take] at this
   omega
  have h := beB_lt hz
  rw [hlen] at h
  unfold geN
  rw [show (4 : Int).toNat = 4 from rfl, hl3]
  exact ⟨h.1, Int.lt_of_lt_of_le h.2 (by decide)⟩
 have hw : IntKind.wrap .u32 (geN 4 v) = geN 4 v := by
  generalize geN 4 v = y at hg
  simp only [IntKind.wrap, IntKind.bits, IntKind.signed]; simp; omega
 refine condF (by rw [decide_eq_true (show (0 : Int) ≤ (v.length : Int) - 4 by omega)]; rfl) ⟨?_, ⟨hv, ⟨by decide, by decide⟩, hl⟩, by rw [hw], rfl⟩
 have h := opure_blo (x := .tmp 10) (i := .tmp 11) (l := [(10, .vec 1 v .none), (11, .val (.int .i64 0))]) (b := v) (tok := .none) (k := .i64) (z := 0) (n := 0) rfl rfl (Int.le_refl _) rfl (Nat.zero_le _)
 rwa [List.drop_zero] at h
theorem g32W_ok : ∀ ro ys T K, g32W ro ys T K → VCx Tryz.prog noGl ro wG32F ys T K := by
 intro ro ys T K hw
 unfold g32W at hw
 split at hw
 ·rename_i v tok
  obtain ⟨⟨hv, hl⟩, hk⟩ := hw
  exact VCx.loosePure gvals_noGl (g32_vcx hv hl) (by simp [looseTV]) (by simp [renL, TV.ren, hv.ren, Tok.ren]) (fun f h => rfl) hk
 ·exact hw.elim
end Go.Proofs.YtogbdjlelkepcaaGreatDoor
namespace Go.Proofs.YtogbdjlelkepcaaGreatDoor
open Go.RowKit

def fxB (fl : Int) : Int := IntKind.wrap IntKind.i64 (BitVec.toNat (BitVec.ofInt (IntKind.bits IntKind.i64) fl &&& ~~~BitVec.ofInt (IntKind.bits IntKind.i64) (16 : Int)) : Nat)
def opB (fl : Int) : Bool := eqRes BinOp.eql (keyEq (Value.int IntKind.i64 (IntKind.wrap IntKind.i64 (BitVec.toNat (BitVec.ofInt (IntKind.bits IntKind.i64) fl &&& BitVec.ofInt (IntKind.bits IntKind.i64) (128 : Int)) : Nat))) (Value.int IntKind.i64 (0 : Int)))
def tkS (fl t : Int) (v : Bs) : Int :=
 if t = 1 then (if ¬ fxB fl = 64 then 4 else if ¬ (v.length : Int) = 1 then 5 else if geN 1 v > 2 then 6 else 0)
 else if t = 2 then (if ¬ fxB fl = 64 then 4 else bif ptO v then 0 else 11)
 else if t = 3 then (if ¬ fxB fl = 64 then 4 else if ¬ (v.length : Int) = 4 then 5 else bif hopB (geN 4 v) then 0 else 8)
 else if t = 4 then (if ¬ fxB fl = 128 then 4 else if ¬ (v.length : Int) = 4 then 5 else 0)
 else bif opB fl then 2 else 0
def tkO (o h m : Int) (hm : Bool) (x : TV) (t : Int) (v : Bs) : VO :=
 if t = 1 then atO (geN 1 v) h m hm x else if t = 2 then atO o h m hm (.vec 1 (ptLB v) .none) else if t = 3 then atO o (geN 4 v) m hm x else if t = 4 then atO o h (geN 4 v) true x else atO o h m hm x
def TkPost (o h m : Int) (hm : Bool) (x : TV) (fl t : Int) (v : Bs) (y : TV) (T' : VT) : Prop := y = .val (.int .i64 (tkS fl t v)) ∧ ∃ O, T' = ⟨[O], []⟩ ∧ (tkS fl t v = 0 → O = tkO o h m hm x t v)
section
variable {o h m fl t s : Int} {hm : Bool} {x : TV} {v : Bs} {O : VO} {l : List VO}
theorem tk_bad (hs : tkS fl t v = s) (hne : ¬ s = 0) : TkPost o h m hm x fl t v (.val (.int .i64 s)) (VT.keep ⟨O :: l, []⟩ 1 0) := ⟨by rw [hs], _, rfl, fun h => absurd (hs.symm.trans h) hne⟩
theorem tk_good (hs : tkS fl t v = 0) (hO : O = tkO o h m hm x t v) (hr : O.ren (Go.Proofs.YtogbdjlelkepcaaGreatDoor.keep 1) (Go.Proofs.YtogbdjlelkepcaaGreatDoor.keep 0) = O) : TkPost o h m hm x fl t v (.val (.int .i64 0)) (VT.keep ⟨O :: l, []⟩ 1 0) := ⟨by rw [hs], _, rfl, fun _ => by rw [← hO]; exact hr⟩
end
theorem atO_ren {o h m : Int} {hm : Bool} {x : TV} (hx : ∀ f g, x.ren f g = x) (f g : Nat → Option Nat) : (atO o h m hm x).ren f g = atO o h m hm x := by
 simp only [atO, VO.ren, renL, TV.ren, hx]
theorem ptLB_ren (v : Bs) (f g : Nat → Option Nat) : (TV.vec 1 (ptLB v) .none).ren f g = .vec 1 (ptLB v) .none := by
 simp only [TV.ren, ptLB, iV_ren, Tok.ren]
theorem ge4 {v : Bs} (hv : IsB v) (hl : (v.length : Int) = 4) : 0 ≤ geN 4 v ∧ geN 4 v < 4294967296 := by
 obtain ⟨⟨l, hl3, hz⟩, _⟩ := hv.take 4
 have hlen : l.length = 4 := by
  have := congrArg List.length hl3
  simp only [bV, List.length_map, List.length_take] at this
  omega
 have h := beB_lt hz
 rw [hlen] at h
 unfold geN
 rw [show (4 : Int).toNat = 4 from rfl, hl3]
 exact ⟨h.1, Int.lt_of_lt_of_le h.2 (by decide)⟩
theorem ge1 (z : Int) (w : Bs) : geN 1 (bT z :: w) = z := by
 show (0 : Int) * 256 + z = z
 omega
theorem tkaSp : SpecsOk Tryz.prog noGl (specs [(ptF, ptWs), (wG32F, g32W), (hopF, hopW)]) := specs_ok fun p hp => by
 rcases List.mem_cons.1 hp with rfl | hp; exact ptWs_ok fun _ h => pt_vcx h
 rcases List.mem_cons.1 hp with rfl | hp; exact g32W_ok
 obtain rfl := List.mem_singleton.1 hp; exact hopW_ok hop_vcx
theorem tka_vcx (o h m fl t : Int) (hm : Bool) {x : TV} (hx : ∀ f g, x.ren f g = x) {v : Bs} (hv : IsB v) : VCx Tryz.prog noGl 0 tkaF [.ptr 0 0, rawT fl t v] ⟨[atO o h m hm x], []⟩ (TkPost o h m hm x fl t v) := by
 refine VCx.keepQ 1 0 (Nat.le_refl _) (Nat.le_refl _) ?_
 cases v with
 | nil =>
  refine vcallF_is mixedB_Tryz bodiesB_Tryz tkaSp lsOk_none (ev_tk0 o h m fl t hm x _) ?_
  refine cond_of (fun a1 => ?_) (fun a1 => ?_)
  ·replace a1 := eqIt a1
   refine cond_of (fun f1 => ?_) (fun f1 => ?_)
   ·exact tk_bad (by unfold tkS; rw [if_pos a1, if_pos (show ¬ fxB fl = 64 from neIt f1)]) (by decide)
   replace f1 : fxB fl = 64 := neIf f1
   exact tk_bad (by unfold tkS; rw [if_pos a1, if_neg (fun c => c f1), if_pos (by decide)]) (by decide)
  replace a1 := eqIf a1
  refine cond_of (fun a2 => ?_) (fun a2 => ?_)
  ·replace a2 := eqIt a2
   refine cond_of (fun f1 => ?_) (fun f1 => ?_)
   ·exact tk_bad (by unfold tkS; rw [if_neg a1, if_pos a2, if_pos (show ¬ fxB fl = 64 from neIt f1)]) (by decide)
   replace f1 : fxB fl = 64 := neIf f1
   refine ⟨hv, ?_⟩
   cases hh : ptO []
   ·exact tk_bad (by unfold tkS; rw [if_neg a1, if_pos a2, if_neg (fun c => c f1), hh]; rfl) (by decide)
   ·exact tk_good (by unfold tkS; rw [if_neg a1, if_pos a2, if_neg (fun c => c f1), hh]; rfl) (by unfold tkO; rw [if_neg a1, if_pos a2]; rfl) (atO_ren (ptLB_ren _) _ _)
  replace a2 := eqIf a2
  refine cond_of (fun a3 => ?_) (fun a3 => ?_)
  ·replace a3 := eqIt a3
   refine cond_of (fun f1 => ?_) (fun f1 => ?_)
   ·exact tk_bad (by unfold tkS; rw [if_neg a1, if_neg a2, if_pos a3, if_pos (show ¬ fxB fl = 64 from neIt f1)]) (by decide)
   replace f1 : fxB fl = 64 := neIf f1
   exact tk_bad (by unfold tkS; rw [if_neg a1, if_neg a2, if_pos a3, if_neg (fun c => c f1), if_pos (by decide)]) (by decide)
  replace a3 := eqIf a3
  refine cond_of (fun a4 => ?_) (fun a4 => ?_)
  ·replace a4 := eqIt a4
   refine cond_of (fun f1 => ?_) (fun f1 => ?_)
   ·exact tk_bad (by unfold tkS; rw [if_neg a1, if_neg a2, if_neg a3, if_pos a4, if_pos (show ¬ fxB fl = 128 from neIt f1)]) (by decide)
   replace f1 : fxB fl = 128 := neIf f1
   exact tk_bad (by unfold tkS; rw [if_neg a1, if_neg a2, if_neg a3, if_pos a4, if_neg (fun c => c f1), if_pos (by decide)]) (by decide)
  replace a4 := eqIf a4
  refine cond_of (fun a5 => ?_) (fun a5 => ?_)
  ·exact tk_bad (by unfold tkS; rw [if_neg a1, if_neg a2, if_neg a3, if_neg a4, show opB fl = true from a5]; rfl) (by decide)
  ·exact tk_good (by unfold tkS; rw [if_neg a1, if_neg a2, if_neg a3, if_neg a4, show opB fl = false from a5]; rfl) (by unfold tkO; rw [if_neg a1, if_neg a2, if_neg a3, if_neg a4]; rfl) (atO_ren hx _ _)
 | cons r w =>
  obtain ⟨z, rfl, hz0, hz1⟩ := hv.at (j := 0) (r := r) rfl
  refine vcallF_is mixedB_Tryz bodiesB_Tryz tkaSp lsOk_none (ev_tkc o h m fl t z hm x w _) ?_
  refine cond_of (fun a1 => ?_) (fun a1 => ?_)
  ·replace a1 := eqIt a1
   refine cond_of (fun f1 => ?_) (fun f1 => ?_)
   ·exact tk_bad (by unfold tkS; rw [if_pos a1, if_pos (show ¬ fxB fl = 64 from neIt f1)]) (by decide)
   replace f1 : fxB fl = 64 := neIf f1
   refine cond_of (fun b1 => ?_) (fun b1 => ?_)
   ·exact tk_bad (by unfold tkS; rw [if_pos a1, if_neg (fun c => c f1), if_pos (show ¬ (((bT z :: w).length : Nat) : Int) = 1 from neIt b1)]) (by decide)
   have g1 : (((bT z :: w).length : Nat) : Int) = 1 := neIf b1
   have hz : z = geN 1 (bT z :: w) := (ge1 z w).symm
   have hwz : IntKind.wrap .i64 z = z := wrap_id (by omega) (by omega)
   try delta zzy26 zzy29 zzy30 zzy31 zzy32 zzy33 zzy34
   rw [hwz]
   refine cond_of (fun b2 => ?_) (fun b2 => ?_)
   ·exact tk_bad (by unfold tkS; rw [if_pos a1, if_neg (fun c => c f1), if_neg (fun c => c g1), if_pos (by rw [← hz]; exact of_decide_eq_true b2)]) (by decide)
   ·exact tk_good (by unfold tkS; rw [if_pos a1, if_neg (fun c => c f1), if_neg (fun c => c g1), if_neg (by rw [← hz]; exact of_decide_eq_false b2)]) (by unfold tkO; rw [if_pos a1, ← hz]; rfl) (atO_ren hx _ _)
  replace a1 := eqIf a1
  refine cond_of (fun a2 => ?_) (fun a2 => ?_)
  ·replace a2 := eqIt a2
   refine cond_of (fun f1 => ?_) (fun f1 => ?_)
   ·exact tk_bad (by unfold tkS; rw [if_neg a1, if_pos a2, if_pos (show ¬ fxB fl = 64 from neIt f1)]) (by decide)
   replace f1 : fxB fl = 64 := neIf f1
   refine ⟨hv, ?_⟩
   cases hh : ptO (bT z :: w)
   ·exact tk_bad (by unfold tkS; rw [if_neg a1, if_pos a2, if_neg (fun c => c f1), hh]; rfl) (by decide)
   ·exact tk_good (by unfold tkS; rw [if_neg a1, if_pos a2, if_neg (fun c => c f1), hh]; rfl) (by unfold tkO; rw [if_neg a1, if_pos a2]; rfl) (atO_ren (ptLB_ren _) _ _)
  replace a2 := eqIf a2
  refine cond_of (fun a3 => ?_) (fun a3 => ?_)
  ·replace a3 := eqIt a3
   refine cond_of (fun f1 => ?_) (fun f1 => ?_)
   ·exact tk_bad (by unfold tkS; rw [if_neg a1, if_neg a2, if_pos a3, if_pos (show ¬ fxB fl = 64 from neIt f1)]) (by decide)
   replace f1 : fxB fl = 64 := neIf f1
   refine cond_of (fun b1 => ?_) (fun b1 => ?_)
   ·exact tk_bad (by unfold tkS; rw [if_neg a1, if_neg a2, if_pos a3, if_neg (fun c => c f1), if_pos (show ¬ (((bT z :: w).length : Nat) : Int) = 4 from neIt b1)]) (by decide)
   have g1 : (((bT z :: w).length : Nat) : Int) = 4 := neIf b1
   refine ⟨⟨hv, show (4 : Int) ≤ (((bT z :: w).length : Nat) : Int) from by omega⟩, ?_⟩
   cases hh : hopB (geN 4 (bT z :: w))
   ·exact tk_bad (by unfold tkS; rw [if_neg a1, if_neg a2, if_pos a3, if_neg (fun c => c f1), if_neg (fun c => c g1), hh]; rfl) (by decide)
   ·exact tk_good (by unfold tkS; rw [if_neg a1, if_neg a2, if_pos a3, if_neg (fun c => c f1), if_neg (fun c => c g1), hh]; rfl) (by unfold tkO; rw [if_neg a1, if_neg a2, if_pos a3]; rfl) (atO_ren hx _ _)
  replace a3 := eqIf a3
  refine cond_of (fun a4 => ?_) (fun a4 => ?_)
  ·replace a4 := eqIt a4
   refine cond_of (fun f1 => ?_) (fun f1 => ?_)
   ·exact tk_bad (by unfold tkS; rw [if_neg a1, if_neg a2, if_neg a3, if_pos a4, if_pos (show ¬ fxB fl = 128 from neIt f1)]) (by decide)
   replace f1 : fxB fl = 128 := neIf f1
   refine cond_of (fun b1 => ?_) (fun b1 => ?_)
   ·exact tk_bad (by unfold tkS; rw [if_neg a1, if_neg a2, if_neg a3, if_pos a4, if_neg (fun c => c f1), if_pos (show ¬ (((bT z :: w).length : Nat) : Int) = 4 from neIt b1)]) (by decide)
   have g1 : (((bT z :: w).length : Nat) : Int) = 4 := neIf b1
   refine ⟨⟨hv, show (4 : Int) ≤ (((bT z :: w).length : Nat) : Int) from by omega⟩, ?_⟩
   obtain ⟨e1, e2⟩ := ge4 hv g1
   have hw4 : IntKind.wrap .i64 (geN 4 (bT z :: w)) = geN 4 (bT z :: w) := wrap_id (by omega) (by omega)
   rw [hw4]
   exact tk_good (by unfold tkS; rw [if_neg a1, if_neg a2, if_neg a3, if_pos a4, if_neg (fun c => c f1), if_neg (fun c => c g1)]) (by unfold tkO; rw [if_neg a1, if_neg a2, if_neg a3, if_pos a4]; rfl) (atO_ren hx _ _)
  replace a4 := eqIf a4
  refine cond_of (fun a5 => ?_) (fun a5 => ?_)
  ·exact tk_bad (by unfold tkS; rw [if_neg a1, if_neg a2, if_neg a3, if_neg a4, show opB fl = true from a5]; rfl) (by decide)
  ·exact tk_good (by unfold tkS; rw [if_neg a1, if_neg a2, if_neg a3, if_neg a4, show opB fl = false from a5]; rfl) (by unfold tkO; rw [if_neg a1, if_neg a2, if_neg a3, if_neg a4]; rfl) (atO_ren hx _ _)
end Go.Proofs.YtogbdjlelkepcaaGreatDoor
namespace Go.Proofs.YtogbdjlelkepcaaGreatDoor
open Go.RowKit

theorem wrap_u {z : Int} (h0 : 0 ≤ z) (h1 : z < 4294967296) : IntKind.wrap .u32 z = z := by
 simp only [IntKind.wrap, IntKind.bits, IntKind.signed]; simp; omega
theorem ge1b {v : Bs} (hv : IsB v) (hl : (v.length : Int) = 1) : 0 ≤ geN 1 v ∧ geN 1 v < 256 := by
 cases v with
 | nil => simp at hl
 | cons r w =>
  obtain ⟨z, rfl, hz0, hz1⟩ := hv.at (j := 0) (r := r) rfl
  rw [ge1]; exact ⟨hz0, hz1⟩
theorem q7TSp : SpecsOk Tryz.prog noGl (specs [(q7PF, ptWs), (rGeF, rgetW), (qhopF, hopW)]) := specs_ok fun p hp => by
 rcases List.mem_cons.1 hp with rfl | hp; exact ptWs_ok fun _ h => qt_vcx h
 rcases List.mem_cons.1 hp with rfl | hp; exact rgetW_ok
 obtain rfl := List.mem_singleton.1 hp; exact hopW_ok qhop_vcx
theorem q7T_vcx (o h m fl t : Int) (hm : Bool) {x : TV} (hx : ∀ f g, x.ren f g = x) {v : Bs} (hv : IsB v) : VCx Tryz.prog noGl 0 q7TF [.ptr 0 0, rawT fl t v] ⟨[atO o h m hm x], []⟩ (TkPost o h m hm x fl t v) := by
  refine VCx.keepQ 1 0 (Nat.le_refl _) (Nat.le_refl _) (vcallF_is mixedB_Tryz bodiesB_Tryz q7TSp lsOk_none (ev_q7T o h m fl t hm x v _) ?_)
  have hsm := hv.small
  refine cond_of (fun a => ?_) (fun a1 => ?_)
  · replace a := eqIt a
    refine cond_of (fun f1 => ?_) (fun f1 => ?_)
    · exact tk_bad (by unfold tkS; rw [if_pos a, if_pos (show ¬ fxB fl = 64 from neIt f1)]) (by decide)
    replace f1 : fxB fl = 64 := neIf f1
    refine cond_of (fun b1 => ?_) (fun b1 => ?_)
    · exact tk_bad (by unfold tkS; rw [if_pos a, if_neg (fun c => c f1), if_pos (show ¬ (v.length : Int) = 1 from neIt b1)]) (by decide)
    replace b1 : (v.length : Int) = 1 := neIf b1
    refine ⟨⟨hv, hv.small, ⟨by decide, by decide⟩, rfl⟩, ?_⟩
    refine cond_of (fun _ => ?_) (fun c => absurd a (eqIf c))
    have hr : rgV 1 v = geN 1 v := by unfold rgV rgO; rw [decide_eq_true (show (1 : Int) ≤ v.length by omega)]; rfl
    have hg := ge1b hv b1
    rw [hr]
    refine cond_of (fun b2 => ?_) (fun b2 => ?_)
    · exact tk_bad (by unfold tkS; rw [if_pos a, if_neg (fun c => c f1), if_neg (fun c => c b1), if_pos (of_decide_eq_true b2)]) (by decide)
    · rw [wrap_id (z := geN 1 v) (by omega) (by omega)]
      exact tk_good (by unfold tkS; rw [if_pos a, if_neg (fun c => c f1), if_neg (fun c => c b1), if_neg (of_decide_eq_false b2)]) (by unfold tkO; rw [if_pos a]; rfl) (atO_ren hx _ _)
  replace a1 := eqIf a1
  refine cond_of (fun a => ?_) (fun a3 => ?_)
  · replace a := eqIt a
    have a1 : ¬ t = 1 := by omega
    have a2 : ¬ t = 2 := by omega
    refine cond_of (fun f1 => ?_) (fun f1 => ?_)
    · exact tk_bad (by unfold tkS; rw [if_neg a1, if_neg a2, if_pos a, if_pos (show ¬ fxB fl = 64 from neIt f1)]) (by decide)
    replace f1 : fxB fl = 64 := neIf f1
    refine cond_of (fun b1 => ?_) (fun b1 => ?_)
    · exact tk_bad (by unfold tkS; rw [if_neg a1, if_neg a2, if_pos a, if_neg (fun c => c f1), if_pos (show ¬ (v.length : Int) = 4 from neIt b1)]) (by decide)
    replace b1 : (v.length : Int) = 4 := neIf b1
    refine ⟨⟨hv, hv.small, ⟨by decide, by decide⟩, rfl⟩, ?_⟩
    refine cond_of (fun c => absurd (eqIt c) (by omega)) (fun _ => ?_)
    refine cond_of (fun c => absurd (eqIt c) (by omega)) (fun _ => ?_)
    refine cond_of (fun _ => ?_) (fun c => absurd a (eqIf c))
    have hr : rgV 4 v = geN 4 v := by unfold rgV rgO; rw [decide_eq_true (show (4 : Int) ≤ v.length by omega)]; rfl
    have hg := ge4 hv b1
    rw [hr]
    have hw : IntKind.wrap .u32 (geN 4 v) = geN 4 v := wrap_u hg.1 hg.2
    rw [hw]
    cases hh : hopB (geN 4 v)
    · exact tk_bad (by unfold tkS; rw [if_neg a1, if_neg a2, if_pos a, if_neg (fun c => c f1), if_neg (fun c => c b1), hh]; rfl) (by decide)
    · exact tk_good (by unfold tkS; rw [if_neg a1, if_neg a2, if_pos a, if_neg (fun c => c f1), if_neg (fun c => c b1), hh]; rfl) (by unfold tkO; rw [if_neg a1, if_neg a2, if_pos a]; rfl) (atO_ren hx _ _)
  replace a3 := eqIf a3
  refine cond_of (fun a => ?_) (fun a4 => ?_)
  · replace a := eqIt a
    have a1 : ¬ t = 1 := by omega
    have a2 : ¬ t = 2 := by omega
    have a3 : ¬ t = 3 := by omega
    refine cond_of (fun f1 => ?_) (fun f1 => ?_)
    · exact tk_bad (by unfold tkS; rw [if_neg a1, if_neg a2, if_neg a3, if_pos a, if_pos (show ¬ fxB fl = 128 from neIt f1)]) (by decide)
    replace f1 : fxB fl = 128 := neIf f1
    refine cond_of (fun b1 => ?_) (fun b1 => ?_)
    · exact tk_bad (by unfold tkS; rw [if_neg a1, if_neg a2, if_neg a3, if_pos a, if_neg (fun c => c f1), if_pos (show ¬ (v.length : Int) = 4 from neIt b1)]) (by decide)
    replace b1 : (v.length : Int) = 4 := neIf b1
    refine ⟨⟨hv, hv.small, ⟨by decide, by decide⟩, rfl⟩, ?_⟩
    refine cond_of (fun c => absurd (eqIt c) (by omega)) (fun _ => ?_)
    refine cond_of (fun c => absurd (eqIt c) (by omega)) (fun _ => ?_)
    refine cond_of (fun c => absurd (eqIt c) (by omega)) (fun _ => ?_)
    refine cond_of (fun _ => ?_) (fun c => absurd a (eqIf c))
    have hr : rgV 4 v = geN 4 v := by unfold rgV rgO; rw [decide_eq_true (show (4 : Int) ≤ v.length by omega)]; rfl
    have hg := ge4 hv b1
    rw [hr]
    rw [wrap_id (z := geN 4 v) (by omega) (by omega)]
    exact tk_good (by unfold tkS; rw [if_neg a1, if_neg a2, if_neg a3, if_pos a, if_neg (fun c => c f1), if_neg (fun c => c b1)]) (by unfold tkO; rw [if_neg a1, if_neg a2, if_neg a3, if_pos a]; rfl) (atO_ren hx _ _)
  replace a4 := eqIf a4
  refine cond_of (fun a => ?_) (fun a2 => ?_)
  · replace a := eqIt a
    have a1 : ¬ t = 1 := by omega
    refine cond_of (fun f1 => ?_) (fun f1 => ?_)
    · exact tk_bad (by unfold tkS; rw [if_neg a1, if_pos a, if_pos (show ¬ fxB fl = 64 from neIt f1)]) (by decide)
    replace f1 : fxB fl = 64 := neIf f1
    refine ⟨⟨hv, hv.small, ⟨by decide, by decide⟩, rfl⟩, ?_⟩
    refine cond_of (fun c => absurd (eqIt c) (by omega)) (fun _ => ?_)
    refine cond_of (fun _ => ?_) (fun c => absurd a (eqIf c))
    refine ⟨hv, ?_⟩
    cases hh : ptO v
    · exact tk_bad (by unfold tkS; rw [if_neg a1, if_pos a, if_neg (fun c => c f1), hh]; rfl) (by decide)
    · exact tk_good (by unfold tkS; rw [if_neg a1, if_pos a, if_neg (fun c => c f1), hh]; rfl) (by unfold tkO; rw [if_neg a1, if_pos a]; rfl) (atO_ren (ptLB_ren _) _ _)
  replace a2 := eqIf a2
  refine cond_of (fun a5 => ?_) (fun a5 => ?_)
  · exact tk_bad (by unfold tkS; rw [if_neg a1, if_neg a2, if_neg a3, if_neg a4, show opB fl = true from a5]; rfl) (by decide)
  · exact tk_good (by unfold tkS; rw [if_neg a1, if_neg a2, if_neg a3, if_neg a4, show opB fl = false from a5]; rfl) (by unfold tkO; rw [if_neg a1, if_neg a2, if_neg a3, if_neg a4]; rfl) (atO_ren hx _ _)
end Go.Proofs.YtogbdjlelkepcaaGreatDoor
namespace Go.Proofs.YtogbdjlelkepcaaGreatDoor
open Go.RowKit

section
variable {P : Program} {G : Globs}
theorem oturn_appRR {ro : Nat} {T : VT} {t e tx : TypeId} {s x : Operand} {l : List (Nat × TV)} {inf : TypeInfo} {z : Value} {q0 : List TV} {qs : List (List TV)} {tok : Tok} {id n : Nat} {cs : List TV} (ht : P.underlying t = some (.slice e)) (hi : P.info? e = some inf) (hz : inf.zero = some z) (hzs : z.cells.size = inf.size) (hz1 : z.cells.toList.all Value.oneCell' = true)
  (hsl : isSl (P.underlying tx) = true) (hs : evOf G l s = .row inf.size id 0 n) (ho : T.objs[id]? = some (.row cs)) (hro : ro ≤ id) (hn : n * inf.size ≤ cs.length) (hx : evOf G l x = .vec inf.size (q0 :: qs) tok) (hb : (n + (q0 :: qs).length) * (inf.bytes + 1) ≤ 140737488355328) :
  OTurn P G ro T (.call ⟨.builtin .append, #[s, x], #[t, tx]⟩) l (.row inf.size T.objs.length 0 (n + (q0 :: qs).length)) ((T.kill id).newRow (cs.take (n * inf.size) ++ (q0 :: qs).flatten)) := by
 refine .mk ?_
 have h1 : vpure2 P (.call ⟨.builtin .append, #[s, x], #[t, tx]⟩) (evOf G l) = none := by simp [vpure2, vpure]
 have h2 : vread2 P T (.call ⟨.builtin .append, #[s, x], #[t, tx]⟩) (evOf G l) = none := by simp [vread2, vread, vcalls]
 have hr : rowsR T inf.size (.vec inf.size (q0 :: qs) tok) = some (q0 :: qs) := by simp [rowsR, Nat.beq_refl]
 have h4 : vappS P T t tx (.row inf.size id 0 n) (.vec inf.size (q0 :: qs) tok) = none := by simp [vappS, ht]
 have h3 : vappR P ro T t tx (.row inf.size id 0 n) (.vec inf.size (q0 :: qs) tok) = some (.row inf.size T.objs.length 0 (n + (q0 :: qs).length), (T.kill id).newRow (cs.take (n * inf.size) ++ (q0 :: qs).flatten)) := by
  unfold vappR
  simp only [ht, hi, hz, hr, hzs, decide_true, hz1, hsl, Bool.and_self, cond_true, Nat.beq_refl, ho, Nat.ble_eq_true_of_le hro, Nat.ble_eq_true_of_le hn, Nat.ble_eq_true_of_le hb]
 have h5 : vappP P ro T t tx (.row inf.size id 0 n) (.vec inf.size (q0 :: qs) tok) = none := rfl
 simp only [vopA, h1, h2, vmore, hs, hx, hsl, h4, h5, h3, cond_true]
end
end Go.Proofs.YtogbdjlelkepcaaGreatDoor
namespace Go.Proofs.YtogbdjlelkepcaaGreatDoor
open Go.RowKit

abbrev rabF := 119
abbrev q7OF := 126
def growT (W : List TV) (T : VT) : VT := (T.kill (T.objs.length - 1)).newRow ((match T.objs[T.objs.length - 1]? with
 | some (.row cs) => cs
 | _ => []) ++ W)
abbrev zzy35 (fl : Int) (t : Int) : VO := (zz64 (IntKind.wrap IntKind.u8 (Int.fdiv (IntKind.wrap IntKind.u64 fl) ((2 : Int) ^ min (Int.toNat (IntKind.wrap IntKind.i64 ((8 : Int) * IntKind.wrap IntKind.i64 ((1 : Int) - (1 : Int))))) (IntKind.bits IntKind.u64)))) (IntKind.wrap IntKind.u8 (Int.fdiv (IntKind.wrap IntKind.u64 t) ((2 : Int) ^ min (Int.toNat (IntKind.wrap IntKind.i64 ((8 : Int) * IntKind.wrap IntKind.i64 ((1 : Int) - (1 : Int))))) (IntKind.bits IntKind.u64)))))
abbrev zzy36 (t : Int) : TV := (zz63 (IntKind.wrap IntKind.u8 (Int.fdiv (IntKind.wrap IntKind.u64 t) ((2 : Int) ^ min (Int.toNat (IntKind.wrap IntKind.i64 ((8 : Int) * IntKind.wrap IntKind.i64 ((1 : Int) - (1 : Int))))) (IntKind.bits IntKind.u64)))))
abbrev zzy37 (fl : Int) : VO := (zz132 (IntKind.wrap IntKind.u8 (Int.fdiv (IntKind.wrap IntKind.u64 fl) ((2 : Int) ^ min (Int.toNat (IntKind.wrap IntKind.i64 ((8 : Int) * IntKind.wrap IntKind.i64 ((1 : Int) - (1 : Int))))) (IntKind.bits IntKind.u64)))))
abbrev zzy38 (fl : Int) : TV := (zz63 (IntKind.wrap IntKind.u8 (Int.fdiv (IntKind.wrap IntKind.u64 fl) ((2 : Int) ^ min (Int.toNat (IntKind.wrap IntKind.i64 ((8 : Int) * IntKind.wrap IntKind.i64 ((1 : Int) - (1 : Int))))) (IntKind.bits IntKind.u64)))))
theorem ev_rab0 (fl t : Int) (Q : TV → VT → Prop) : vcallF Tryz.prog noGl noSp (tellS [(999999, .dead, none)]) 300 noLp 0 rabF [rawT fl t []] zz211 Q =
 (bif eqRes BinOp.neq (k6 (IntKind.wrap IntKind.i64 (↑(BitVec.toNat (BitVec.ofInt (IntKind.bits IntKind.i64) fl &&& BitVec.ofInt (IntKind.bits IntKind.i64) (16 : Int))) : Int)) (0 : Int))
 then Q (.row 1 7 0 4) ⟨[(zz151 fl t), .gone, (zzy37 fl), .gone, (zzy35 fl t), .gone, .gone, (.row [(zzy38 fl), (zzy36 t), zz195, zz195])], []⟩
 else Q (.row 1 6 0 3) ⟨[(zz151 fl t), .gone, (zzy37 fl), .gone, (zzy35 fl t), .gone, (.row [(zzy38 fl), (zzy36 t), zz195])], []⟩) := by kernel_rfl
theorem ev_rab (fl t : Int) (v w : Bs) (W : List TV) (K N : Nat) (Q : TV → VT → Prop) : vcallF Tryz.prog noGl noSp (tellS [(999999, .dead, none), (33, .vec 1 w .none, none), (34, .row 1 K 0 N, some (growT W))]) 300 noLp 0 rabF [rawT fl t v] zz211 Q =
 (bif eqRes BinOp.neq (k6 (IntKind.wrap IntKind.i64 (↑(BitVec.toNat (BitVec.ofInt (IntKind.bits IntKind.i64) fl &&& BitVec.ofInt (IntKind.bits IntKind.i64) (16 : Int))) : Int)) (0 : Int))
 then (OPure Tryz.prog (fun _ => .none) (.slice 22 (.tmp 31) .none (.some (.tmp 32)) .none) [(31, (zz2 v)), (32, (zz1 (if (65535 : Int) < (↑(List.length v) : Int) then (65535 : Int) else (↑(List.length v) : Int))))] (zz2 w) ∧
 (OTurn Tryz.prog (fun _ => .none) 0 ⟨[(zz11 fl t v), .gone, (zzy37 fl), .gone, (zzy35 fl t), .gone, .gone, (.row [(zzy38 fl), (zzy36 t), (zz63 (IntKind.wrap IntKind.u8 (Int.fdiv (IntKind.wrap IntKind.u64 (if (65535 : Int) < (↑(List.length v) : Int) then (65535 : Int) else (↑(List.length v) : Int))) ((2 : Int) ^ min (Int.toNat (IntKind.wrap IntKind.i64 ((8 : Int) * IntKind.wrap IntKind.i64 ((2 : Int) - (1 : Int))))) (IntKind.bits IntKind.u64))))), (zz63 (IntKind.wrap IntKind.u8 (Int.fdiv (IntKind.wrap IntKind.u64 (if (65535 : Int) < (↑(List.length v) : Int) then (65535 : Int) else (↑(List.length v) : Int))) ((2 : Int) ^ min (Int.toNat (IntKind.wrap IntKind.i64 ((8 : Int) * IntKind.wrap IntKind.i64 (IntKind.wrap IntKind.i64 ((2 : Int) - (1 : Int)) - (1 : Int))))) (IntKind.bits IntKind.u64)))))])], []⟩ (.call ⟨(.builtin .append), #[(.tmp 29), (.tmp 33)], #[22, 22]⟩) [(29, (.row 1 7 0 4)), (33, (zz2 w))] (zz131 K N) ⟨[(zz11 fl t v), .gone, (zzy37 fl), .gone, (zzy35 fl t), .gone, .gone, .gone, (.row ([(.val (.int .u8 (IntKind.wrap IntKind.u8 (Int.fdiv (IntKind.wrap IntKind.u64 fl) ((2 : Int) ^ min (Int.toNat (IntKind.wrap IntKind.i64 ((8 : Int) * IntKind.wrap IntKind.i64 ((1 : Int) - (1 : Int))))) (IntKind.bits IntKind.u64)))))), (.val (.int .u8 (IntKind.wrap IntKind.u8 (Int.fdiv (IntKind.wrap IntKind.u64 t) ((2 : Int) ^ min (Int.toNat (IntKind.wrap IntKind.i64 ((8 : Int) * IntKind.wrap IntKind.i64 ((1 : Int) - (1 : Int))))) (IntKind.bits IntKind.u64)))))), (.val (.int .u8 (IntKind.wrap IntKind.u8 (Int.fdiv (IntKind.wrap IntKind.u64 (if (65535 : Int) < (↑(List.length v) : Int) then (65535 : Int) else (↑(List.length v) : Int))) ((2 : Int) ^ min (Int.toNat (IntKind.wrap IntKind.i64 ((8 : Int) * IntKind.wrap IntKind.i64 ((2 : Int) - (1 : Int))))) (IntKind.bits IntKind.u64)))))), (.val (.int .u8 (IntKind.wrap IntKind.u8 (Int.fdiv (IntKind.wrap IntKind.u64 (if (65535 : Int) < (↑(List.length v) : Int) then (65535 : Int) else (↑(List.length v) : Int))) ((2 : Int) ^ min (Int.toNat (IntKind.wrap IntKind.i64 ((8 : Int) * IntKind.wrap IntKind.i64 (IntKind.wrap IntKind.i64 ((2 : Int) - (1 : Int)) - (1 : Int))))) (IntKind.bits IntKind.u64))))))] ++ W))], []⟩ ∧
 Q (zz131 K N) ⟨[(zz11 fl t v), .gone, (zzy37 fl), .gone, (zzy35 fl t), .gone, .gone, .gone, (.row ([(.val (.int .u8 (IntKind.wrap IntKind.u8 (Int.fdiv (IntKind.wrap IntKind.u64 fl) ((2 : Int) ^ min (Int.toNat (IntKind.wrap IntKind.i64 ((8 : Int) * IntKind.wrap IntKind.i64 ((1 : Int) - (1 : Int))))) (IntKind.bits IntKind.u64)))))), (.val (.int .u8 (IntKind.wrap IntKind.u8 (Int.fdiv (IntKind.wrap IntKind.u64 t) ((2 : Int) ^ min (Int.toNat (IntKind.wrap IntKind.i64 ((8 : Int) * IntKind.wrap IntKind.i64 ((1 : Int) - (1 : Int))))) (IntKind.bits IntKind.u64)))))), (.val (.int .u8 (IntKind.wrap IntKind.u8 (Int.fdiv (IntKind.wrap IntKind.u64 (if (65535 : Int) < (↑(List.length v) : Int) then (65535 : Int) else (↑(List.length v) : Int))) ((2 : Int) ^ min (Int.toNat (IntKind.wrap IntKind.i64 ((8 : Int) * IntKind.wrap IntKind.i64 ((2 : Int) - (1 : Int))))) (IntKind.bits IntKind.u64)))))), (.val (.int .u8 (IntKind.wrap IntKind.u8 (Int.fdiv (IntKind.wrap IntKind.u64 (if (65535 : Int) < (↑(List.length v) : Int) then (65535 : Int) else (↑(List.length v) : Int))) ((2 : Int) ^ min (Int.toNat (IntKind.wrap IntKind.i64 ((8 : Int) * IntKind.wrap IntKind.i64 (IntKind.wrap IntKind.i64 ((2 : Int) - (1 : Int)) - (1 : Int))))) (IntKind.bits IntKind.u64))))))] ++ W))], []⟩))
 else (OPure Tryz.prog (fun _ => .none) (.slice 22 (.tmp 31) .none (.some (.tmp 32)) .none) [(31, (zz2 v)), (32, (zz1 (if (255 : Int) < (↑(List.length v) : Int) then (255 : Int) else (↑(List.length v) : Int))))] (zz2 w) ∧
 (OTurn Tryz.prog (fun _ => .none) 0 ⟨[(zz11 fl t v), .gone, (zzy37 fl), .gone, (zzy35 fl t), .gone, (.row [(zzy38 fl), (zzy36 t), (zz63 (IntKind.wrap IntKind.u8 (Int.fdiv (IntKind.wrap IntKind.u64 (if (255 : Int) < (↑(List.length v) : Int) then (255 : Int) else (↑(List.length v) : Int))) ((2 : Int) ^ min (Int.toNat (IntKind.wrap IntKind.i64 ((8 : Int) * IntKind.wrap IntKind.i64 ((1 : Int) - (1 : Int))))) (IntKind.bits IntKind.u64)))))])], []⟩ (.call ⟨(.builtin .append), #[(.tmp 29), (.tmp 33)], #[22, 22]⟩) [(29, (.row 1 6 0 3)), (33, (zz2 w))] (zz131 K N) ⟨[(zz11 fl t v), .gone, (zzy37 fl), .gone, (zzy35 fl t), .gone, .gone, (.row ([(.val (.int .u8 (IntKind.wrap IntKind.u8 (Int.fdiv (IntKind.wrap IntKind.u64 fl) ((2 : Int) ^ min (Int.toNat (IntKind.wrap IntKind.i64 ((8 : Int) * IntKind.wrap IntKind.i64 ((1 : Int) - (1 : Int))))) (IntKind.bits IntKind.u64)))))), (.val (.int .u8 (IntKind.wrap IntKind.u8 (Int.fdiv (IntKind.wrap IntKind.u64 t) ((2 : Int) ^ min (Int.toNat (IntKind.wrap IntKind.i64 ((8 : Int) * IntKind.wrap IntKind.i64 ((1 : Int) - (1 : Int))))) (IntKind.bits IntKind.u64)))))), (.val (.int .u8 (IntKind.wrap IntKind.u8 (Int.fdiv (IntKind.wrap IntKind.u64 (if (255 : Int) < (↑(List.length v) : Int) then (255 : Int) else (↑(List.length v) : Int))) ((2 : Int) ^ min (Int.toNat (IntKind.wrap IntKind.i64 ((8 : Int) * IntKind.wrap IntKind.i64 ((1 : Int) - (1 : Int))))) (IntKind.bits IntKind.u64))))))] ++ W))], []⟩ ∧
 Q (zz131 K N) ⟨[(zz11 fl t v), .gone, (zzy37 fl), .gone, (zzy35 fl t), .gone, .gone, (.row ([(.val (.int .u8 (IntKind.wrap IntKind.u8 (Int.fdiv (IntKind.wrap IntKind.u64 fl) ((2 : Int) ^ min (Int.toNat (IntKind.wrap IntKind.i64 ((8 : Int) * IntKind.wrap IntKind.i64 ((1 : Int) - (1 : Int))))) (IntKind.bits IntKind.u64)))))), (.val (.int .u8 (IntKind.wrap IntKind.u8 (Int.fdiv (IntKind.wrap IntKind.u64 t) ((2 : Int) ^ min (Int.toNat (IntKind.wrap IntKind.i64 ((8 : Int) * IntKind.wrap IntKind.i64 ((1 : Int) - (1 : Int))))) (IntKind.bits IntKind.u64)))))), (.val (.int .u8 (IntKind.wrap IntKind.u8 (Int.fdiv (IntKind.wrap IntKind.u64 (if (255 : Int) < (↑(List.length v) : Int) then (255 : Int) else (↑(List.length v) : Int))) ((2 : Int) ^ min (Int.toNat (IntKind.wrap IntKind.i64 ((8 : Int) * IntKind.wrap IntKind.i64 ((1 : Int) - (1 : Int))))) (IntKind.bits IntKind.u64))))))] ++ W))], []⟩))) := by kernel_rfl
theorem ev_q7O0 (fl t : Int) (Q : TV → VT → Prop) : vcallF Tryz.prog noGl noSp (tellS [(999999, .dead, none)]) 300 noLp 0 q7OF [rawT fl t []] zz211 Q =
 (bif eqRes BinOp.neq (k6 (IntKind.wrap IntKind.i64 (↑(BitVec.toNat (BitVec.ofInt (IntKind.bits IntKind.i64) fl &&& BitVec.ofInt (IntKind.bits IntKind.i64) (16 : Int))) : Int)) (0 : Int))
 then Q (.row 1 3 0 4) ⟨[(zz151 fl t), .gone, .gone, (.row [(zz63 (IntKind.wrap IntKind.u8 fl)), (zz63 (IntKind.wrap IntKind.u8 t)), zz195, zz195])], []⟩
 else Q (.row 1 1 0 3) ⟨[(zz151 fl t), (.row [(zz63 (IntKind.wrap IntKind.u8 fl)), (zz63 (IntKind.wrap IntKind.u8 t)), zz195])], []⟩) := by kernel_rfl
abbrev zzy39 (fl : Int) (t : Int) (v : Bs) (W : List TV) : VT := (zz130 fl t v (.gone) (.gone) (.gone) ([(.val (.int .u8 (IntKind.wrap IntKind.u8 fl))), (.val (.int .u8 (IntKind.wrap IntKind.u8 t))), (.val (.int .u8 (IntKind.wrap IntKind.u8 (Int.fdiv (IntKind.wrap IntKind.u64 (↑(List.length v) : Int)) ((2 : Int) ^ min (Int.toNat (IntKind.wrap IntKind.u64 (IntKind.wrap IntKind.i64 ((8 : Int) * IntKind.wrap IntKind.i64 ((2 : Int) - (1 : Int)))))) (IntKind.bits IntKind.u64)))))), (.val (.int .u8 (IntKind.wrap IntKind.u8 (Int.fdiv (IntKind.wrap IntKind.u64 (↑(List.length v) : Int)) ((2 : Int) ^ min (Int.toNat (IntKind.wrap IntKind.u64 (IntKind.wrap IntKind.i64 ((8 : Int) * IntKind.wrap IntKind.i64 (IntKind.wrap IntKind.i64 ((2 : Int) - (1 : Int)) - (1 : Int)))))) (IntKind.bits IntKind.u64))))))] ++ W))
abbrev zzy40 (fl : Int) (t : Int) (v : Bs) (w : Bs) (W : List TV) : VT := (zz130 fl t v (.gone) (.gone) (.gone) ([(.val (.int .u8 (IntKind.wrap IntKind.u8 fl))), (.val (.int .u8 (IntKind.wrap IntKind.u8 t))), (.val (.int .u8 (IntKind.wrap IntKind.u8 (Int.fdiv (IntKind.wrap IntKind.u64 (↑(List.length w) : Int)) ((2 : Int) ^ min (Int.toNat (IntKind.wrap IntKind.u64 (IntKind.wrap IntKind.i64 ((8 : Int) * IntKind.wrap IntKind.i64 ((2 : Int) - (1 : Int)))))) (IntKind.bits IntKind.u64)))))), (.val (.int .u8 (IntKind.wrap IntKind.u8 (Int.fdiv (IntKind.wrap IntKind.u64 (↑(List.length w) : Int)) ((2 : Int) ^ min (Int.toNat (IntKind.wrap IntKind.u64 (IntKind.wrap IntKind.i64 ((8 : Int) * IntKind.wrap IntKind.i64 (IntKind.wrap IntKind.i64 ((2 : Int) - (1 : Int)) - (1 : Int)))))) (IntKind.bits IntKind.u64))))))] ++ W))
abbrev zzy41 (fl : Int) (t : Int) (v : Bs) (W : List TV) : VT := (zz129 fl t v (.gone) ([(.val (.int .u8 (IntKind.wrap IntKind.u8 fl))), (.val (.int .u8 (IntKind.wrap IntKind.u8 t))), (.val (.int .u8 (IntKind.wrap IntKind.u8 (↑(List.length v) : Int))))] ++ W))
abbrev zzy42 (fl : Int) (t : Int) (v : Bs) (w : Bs) (W : List TV) : VT := (zz129 fl t v (.gone) ([(.val (.int .u8 (IntKind.wrap IntKind.u8 fl))), (.val (.int .u8 (IntKind.wrap IntKind.u8 t))), (.val (.int .u8 (IntKind.wrap IntKind.u8 (↑(List.length w) : Int))))] ++ W))
abbrev zzy43 (t : Int) : TV := (zz63 (IntKind.wrap IntKind.u8 t))
abbrev zzy44 (fl : Int) : TV := (zz63 (IntKind.wrap IntKind.u8 fl))
theorem ev_q7O (fl t : Int) (v w : Bs) (W : List TV) (K N : Nat) (Q : TV → VT → Prop) : vcallF Tryz.prog noGl noSp (tellS [(999999, .dead, none), (22, .vec 1 w .none, none), (32, .vec 1 w .none, none), (41, .row 1 K 0 N, some (growT W))]) 300 noLp 0 q7OF [rawT fl t v] zz211 Q =
 (bif eqRes BinOp.neq (k6 (IntKind.wrap IntKind.i64 (↑(BitVec.toNat (BitVec.ofInt (IntKind.bits IntKind.i64) fl &&& BitVec.ofInt (IntKind.bits IntKind.i64) (16 : Int))) : Int)) (0 : Int))
 then (bif decide ((↑(List.length v) : Int) > (65535 : Int))
 then (OPure Tryz.prog (fun _ => .none) (.slice 22 (.tmp 21) .none (.some (.const (.int .i64 65535))) .none) [(21, (zz2 v))] (zz2 w) ∧
 (OTurn Tryz.prog (fun _ => .none) 0 ⟨[(zz11 fl t v), .gone, .gone, (.row [(zzy44 fl), (zzy43 t), (zz63 (IntKind.wrap IntKind.u8 (Int.fdiv (IntKind.wrap IntKind.u64 (↑(List.length w) : Int)) ((2 : Int) ^ min (Int.toNat (IntKind.wrap IntKind.u64 (IntKind.wrap IntKind.i64 ((8 : Int) * IntKind.wrap IntKind.i64 ((2 : Int) - (1 : Int)))))) (IntKind.bits IntKind.u64))))), (zz63 (IntKind.wrap IntKind.u8 (Int.fdiv (IntKind.wrap IntKind.u64 (↑(List.length w) : Int)) ((2 : Int) ^ min (Int.toNat (IntKind.wrap IntKind.u64 (IntKind.wrap IntKind.i64 ((8 : Int) * IntKind.wrap IntKind.i64 (IntKind.wrap IntKind.i64 ((2 : Int) - (1 : Int)) - (1 : Int)))))) (IntKind.bits IntKind.u64)))))])], []⟩ (.call ⟨(.builtin .append), #[(.tmp 39), (.tmp 40)], #[22, 22]⟩) [(39, (.row 1 3 0 4)), (40, (zz2 w))] (zz131 K N) (zzy40 fl t v w W) ∧
 Q (zz131 K N) (zzy40 fl t v w W)))
 else (OTurn Tryz.prog (fun _ => .none) 0 ⟨[(zz11 fl t v), .gone, .gone, (.row [(zzy44 fl), (zzy43 t), (zz63 (IntKind.wrap IntKind.u8 (Int.fdiv (IntKind.wrap IntKind.u64 (↑(List.length v) : Int)) ((2 : Int) ^ min (Int.toNat (IntKind.wrap IntKind.u64 (IntKind.wrap IntKind.i64 ((8 : Int) * IntKind.wrap IntKind.i64 ((2 : Int) - (1 : Int)))))) (IntKind.bits IntKind.u64))))), (zz63 (IntKind.wrap IntKind.u8 (Int.fdiv (IntKind.wrap IntKind.u64 (↑(List.length v) : Int)) ((2 : Int) ^ min (Int.toNat (IntKind.wrap IntKind.u64 (IntKind.wrap IntKind.i64 ((8 : Int) * IntKind.wrap IntKind.i64 (IntKind.wrap IntKind.i64 ((2 : Int) - (1 : Int)) - (1 : Int)))))) (IntKind.bits IntKind.u64)))))])], []⟩ (.call ⟨(.builtin .append), #[(.tmp 39), (.tmp 40)], #[22, 22]⟩) [(39, (.row 1 3 0 4)), (40, (zz2 v))] (zz131 K N) (zzy39 fl t v W) ∧
 Q (zz131 K N) (zzy39 fl t v W)))
 else (bif decide ((↑(List.length v) : Int) > (255 : Int))
 then (OPure Tryz.prog (fun _ => .none) (.slice 22 (.tmp 31) .none (.some (.const (.int .i64 255))) .none) [(31, (zz2 v))] (zz2 w) ∧
 (OTurn Tryz.prog (fun _ => .none) 0 ⟨[(zz11 fl t v), (.row [(zzy44 fl), (zzy43 t), (zz63 (IntKind.wrap IntKind.u8 (↑(List.length w) : Int)))])], []⟩ (.call ⟨(.builtin .append), #[(.tmp 39), (.tmp 40)], #[22, 22]⟩) [(39, (.row 1 1 0 3)), (40, (zz2 w))] (zz131 K N) (zzy42 fl t v w W) ∧
 Q (zz131 K N) (zzy42 fl t v w W)))
 else (OTurn Tryz.prog (fun _ => .none) 0 ⟨[(zz11 fl t v), (.row [(zzy44 fl), (zzy43 t), (zz63 (IntKind.wrap IntKind.u8 (↑(List.length v) : Int)))])], []⟩ (.call ⟨(.builtin .append), #[(.tmp 39), (.tmp 40)], #[22, 22]⟩) [(39, (.row 1 1 0 3)), (40, (zz2 v))] (zz131 K N) (zzy41 fl t v W) ∧
 Q (zz131 K N) (zzy41 fl t v W)))) := by kernel_rfl
end Go.Proofs.YtogbdjlelkepcaaGreatDoor
namespace Go.Proofs.YtogbdjlelkepcaaGreatDoor
open Go.RowKit

def bz (z : Int) (m : Nat) : Int := IntKind.wrap .u8 (Int.fdiv (IntKind.wrap .u64 z) ((2 : Int) ^ m))
def rbM (fl : Int) (v : Bs) : Int := bif exF fl then (if (65535 : Int) < (v.length : Int) then 65535 else v.length) else (if (255 : Int) < (v.length : Int) then 255 else v.length)
def rbP (fl t n : Int) : Bs := bif exF fl then [bT (bz fl 0), bT (bz t 0), bT (bz n 8), bT (bz n 0)] else [bT (bz fl 0), bT (bz t 0), bT (bz n 0)]
def rbB (fl t : Int) (v : Bs) : Bs := rbP fl t (rbM fl v) ++ v.take (rbM fl v).toNat
theorem wrap8 (z : Int) : 0 ≤ IntKind.wrap .u8 z ∧ IntKind.wrap .u8 z < 256 := by
 simp only [IntKind.wrap, IntKind.bits, IntKind.signed]; simp; omega
theorem bz_lt (z : Int) (m : Nat) : 0 ≤ bz z m ∧ bz z m < 256 := wrap8 _
theorem rbM_le (fl : Int) (v : Bs) : 0 ≤ rbM fl v ∧ (rbM fl v).toNat ≤ v.length := by
 unfold rbM
 cases exF fl <;> simp only [cond_true, cond_false] <;> split <;> omega
theorem rbB_is {fl t : Int} {v : Bs} (hv : IsB v) (hl : v.length ≤ 900000) : IsB (rbB fl t v) := by
  obtain ⟨⟨l, hl2, hz⟩, _⟩ := hv.take (rbM fl v).toNat
  have h1 : (v.take (rbM fl v).toNat).length ≤ v.length := by rw [List.length_take]; omega
  unfold rbB rbP
  rw [hl2] at h1 ⊢
  cases exF fl
  · refine ⟨⟨bz fl 0 :: bz t 0 :: bz (rbM fl v) 0 :: l, rfl, fun z hm => ?_⟩, ?_⟩
    · rcases List.mem_cons.1 hm with rfl | hm; exact bz_lt _ _
      rcases List.mem_cons.1 hm with rfl | hm; exact bz_lt _ _
      rcases List.mem_cons.1 hm with rfl | hm; exact bz_lt _ _
      exact hz z hm
    · simp only [cond_false, List.length_append, List.length_cons, List.length_nil]; omega
  · refine ⟨⟨bz fl 0 :: bz t 0 :: bz (rbM fl v) 8 :: bz (rbM fl v) 0 :: l, rfl, fun z hm => ?_⟩, ?_⟩
    · rcases List.mem_cons.1 hm with rfl | hm; exact bz_lt _ _
      rcases List.mem_cons.1 hm with rfl | hm; exact bz_lt _ _
      rcases List.mem_cons.1 hm with rfl | hm; exact bz_lt _ _
      rcases List.mem_cons.1 hm with rfl | hm; exact bz_lt _ _
      exact hz z hm
    · simp only [cond_true, List.length_append, List.length_cons, List.length_nil]; omega
theorem VCx.rowB {f : FuncId} {xs : List TV} {es : Bs} (hes : IsB es) (h : VCx Tryz.prog noGl 0 f xs ⟨[], []⟩ fun x T' => ∃ id off n, x = .row 1 id off n ∧ rowsR T' 1 (.row 1 id off n) = some es) : VCx Tryz.prog noGl 0 f xs ⟨[], []⟩ fun x T' => x = .vec 1 es .none ∧ T' = ⟨[], []⟩ := by
 refine VCx.keepQ 0 0 (Nat.le_refl _) (Nat.le_refl _) ((VCx.freeze (size := 1) (es := es) (Q := fun _ => True) (h.mono fun x T' ⟨id, off, n, h1, h2⟩ => ⟨id, off, n, h1, h2, trivial⟩)).mono ?_)
 rintro x T' ⟨rfl, _⟩
 exact ⟨by simp only [TV.ren, hes.ren, Tok.ren], rfl⟩
theorem rab0_vcx (fl t : Int) : VCx Tryz.prog noGl 0 rabF [rawT fl t []] ⟨[], []⟩ fun x T' => x = .vec 1 (rbB fl t []) .none ∧ T' = ⟨[], []⟩ := by
 refine VCx.rowB (rbB_is .nil (by simp)) (vcallF_is mixedB_Tryz bodiesB_Tryz specsOk_none lsOk_none (ev_rab0 fl t _) ?_)
 refine cond_of (fun hx => ⟨7, 0, 4, rfl, ?_⟩) (fun hx => ⟨6, 0, 3, rfl, ?_⟩)
 ·have e : rbB fl t [] = [bT (bz fl 0), bT (bz t 0), bT (bz 0 8), bT (bz 0 0)] := by
   unfold rbB rbP rbM; rw [show exF fl = true from hx]; rfl
  rw [e]
  exact rowsR_flat (es := [bT (bz fl 0), bT (bz t 0), bT (bz 0 8), bT (bz 0 0)]) (by kernel_rfl) (by intro e he; simp only [List.mem_cons, List.not_mem_nil, or_false] at he; rcases he with rfl | rfl | rfl | rfl <;> rfl)
 ·have e : rbB fl t [] = [bT (bz fl 0), bT (bz t 0), bT (bz 0 0)] := by
   unfold rbB rbP rbM; rw [show exF fl = false from hx]; rfl
  rw [e]
  exact rowsR_flat (es := [bT (bz fl 0), bT (bz t 0), bT (bz 0 0)]) (by kernel_rfl) (by intro e he; simp only [List.mem_cons, List.not_mem_nil, or_false] at he; rcases he with rfl | rfl | rfl <;> rfl)
theorem oturn_bR {T T' : VT} {s x : Operand} {l : List (Nat × TV)} {q0 : List TV} {qs : Bs} {tok : Tok} {id n : Nat} {cs : List TV} {y : TV} (hs : evOf noGl l s = .row 1 id 0 n) (ho : T.objs[id]? = some (.row cs)) (hn : n ≤ cs.length) (hx : evOf noGl l x = .vec 1 (q0 :: qs) tok) (hb : n + (q0 :: qs).length ≤ 2000001)
  (hy : TV.row 1 T.objs.length 0 (n + (q0 :: qs).length) = y) (hT : (T.kill id).newRow (cs.take n ++ (q0 :: qs).flatten) = T') : OTurn Tryz.prog noGl 0 T (.call ⟨.builtin .append, #[s, x], #[22, 22]⟩) l y T' := by
 obtain ⟨inf, i1, i2, i3, i4⟩ := u8Inf_ex
 have h := oturn_appRR (inf := inf) (P := Tryz.prog) (G := noGl) (ro := 0) (T := T) (t := 22) (tx := 22) (s := s) (x := x) (l := l) (q0 := q0) (qs := qs) (tok := tok) (id := id) (n := n) (cs := cs) Tryz.underlying22 i1 i4 (by rw [i2]; rfl) (by rfl) (by kernel_rfl) (by rw [i2]; exact hs) ho (Nat.zero_le _) (by rw [i2]; omega) (by rw [i2]; exact hx) (by rw [i3]; omega)
 rw [i2, Nat.mul_one, hy, hT] at h
 exact h
theorem rbM_pos {fl : Int} {r : List TV} {v : Bs} : 0 < (rbM fl (r :: v)).toNat := by
 unfold rbM
 cases exF fl <;> simp only [cond_true, cond_false, List.length_cons] <;> split <;> omega
theorem rab_vcx (fl t : Int) {r : List TV} {v : Bs} (hv : IsB (r :: v)) (hl : (r :: v).length ≤ 900000) : VCx Tryz.prog noGl 0 rabF [rawT fl t (r :: v)] ⟨[], []⟩ fun x T' => x = .vec 1 (rbB fl t (r :: v)) .none ∧ T' = ⟨[], []⟩ := by
  obtain ⟨h0, h1⟩ := rbM_le fl (r :: v)
  have hp := rbM_pos (fl := fl) (r := r) (v := v)
  obtain ⟨qs, hqs⟩ : ∃ qs, (r :: v).take (rbM fl (r :: v)).toNat = r :: qs := by
    obtain ⟨k, hk⟩ : ∃ k, (rbM fl (r :: v)).toNat = k + 1 := ⟨_, (Nat.succ_pred_eq_of_pos hp).symm⟩
    exact ⟨v.take k, by rw [hk]; rfl⟩
  have hql : (r :: qs).length ≤ 900000 := by
    rw [← hqs, List.length_take]; omega
  have hq1 : ∀ e ∈ r :: qs, e.length = 1 := by
    rw [← hqs]; exact (hv.take _).len1
  refine VCx.rowB (rbB_is hv hl) (vcallF_is mixedB_Tryz bodiesB_Tryz specsOk_none lsOk_none (ev_rab fl t (r :: v) (r :: qs) (r :: qs).flatten (bif exF fl then 8 else 7) ((r :: qs).length + (bif exF fl then 4 else 3)) _) ?_)
  refine cond_of (fun hx => ?_) (fun hx => ?_)
  · have hx2 : exF fl = true := hx
    have hM : rbM fl (r :: v) = (if (65535 : Int) < ((r :: v).length : Int) then 65535 else ((r :: v).length : Int)) := by unfold rbM; rw [hx2]; rfl
    rw [hx2, ← hM]
    refine ⟨?_, oturn_bR (id := 7) (n := 4) (tok := .none) rfl rfl (Nat.le_refl 4) rfl (by omega) (by rw [Nat.add_comm 4]; rfl) rfl, 8, 0, (r :: qs).length + 4, rfl, ?_⟩
    · have h := opure_bhi (x := .tmp 31) (i := .tmp 32) (l := [(31, .vec 1 (r :: v) .none), (32, .val (.int .i64 (rbM fl (r :: v))))]) (b := r :: v) (tok := .none) (k := .i64) (z := rbM fl (r :: v)) rfl rfl h0 rfl h1
      rwa [hqs] at h
    · have e : rbB fl t (r :: v) = [bT (bz fl 0), bT (bz t 0), bT (bz (rbM fl (r :: v)) 8), bT (bz (rbM fl (r :: v)) 0)] ++ (r :: qs) := by unfold rbB rbP; rw [hx2, hqs]; rfl
      rw [e]
      exact rowsR_flat (es := [bT (bz fl 0), bT (bz t 0), bT (bz (rbM fl (r :: v)) 8), bT (bz (rbM fl (r :: v)) 0)] ++ (r :: qs)) rfl (fun e he => by
        rcases List.mem_append.1 he with h | h
        · simp only [List.mem_cons, List.not_mem_nil, or_false] at h; rcases h with rfl | rfl | rfl | rfl <;> rfl
        · exact hq1 e h)
  · have hx2 : exF fl = false := hx
    have hM : rbM fl (r :: v) = (if (255 : Int) < ((r :: v).length : Int) then 255 else ((r :: v).length : Int)) := by unfold rbM; rw [hx2]; rfl
    rw [hx2, ← hM]
    refine ⟨?_, oturn_bR (id := 6) (n := 3) (tok := .none) rfl rfl (Nat.le_refl 3) rfl (by omega) (by rw [Nat.add_comm 3]; rfl) rfl, 7, 0, (r :: qs).length + 3, rfl, ?_⟩
    · have h := opure_bhi (x := .tmp 31) (i := .tmp 32) (l := [(31, .vec 1 (r :: v) .none), (32, .val (.int .i64 (rbM fl (r :: v))))]) (b := r :: v) (tok := .none) (k := .i64) (z := rbM fl (r :: v)) rfl rfl h0 rfl h1
      rwa [hqs] at h
    · have e : rbB fl t (r :: v) = [bT (bz fl 0), bT (bz t 0), bT (bz (rbM fl (r :: v)) 0)] ++ (r :: qs) := by unfold rbB rbP; rw [hx2, hqs]; rfl
      rw [e]
      exact rowsR_flat (es := [bT (bz fl 0), bT (bz t 0), bT (bz (rbM fl (r :: v)) 0)] ++ (r :: qs)) rfl (fun e he => by
        rcases List.mem_append.1 he with h | h
        · simp only [List.mem_cons, List.not_mem_nil, or_false] at h; rcases h with rfl | rfl | rfl <;> rfl
        · exact hq1 e h)
end Go.Proofs.YtogbdjlelkepcaaGreatDoor
namespace Go.Proofs.YtogbdjlelkepcaaGreatDoor
open Go.RowKit

theorem bz0 {z : Int} (h0 : 0 ≤ z) (h1 : z < 65537) : bz z 0 = IntKind.wrap .u8 z := by
 unfold bz
 have e : IntKind.wrap .u64 z = z := by simp only [IntKind.wrap, IntKind.bits, IntKind.signed]; simp; omega
 rw [e, Int.pow_zero, Int.fdiv_one]
theorem one0_vcx {fl t : Int} (hf : 0 ≤ fl ∧ fl < 256) (ht : 0 ≤ t ∧ t < 256) : VCx Tryz.prog noGl 0 q7OF [rawT fl t []] ⟨[], []⟩ fun x T' => x = .vec 1 (rbB fl t []) .none ∧ T' = ⟨[], []⟩ := by
 refine VCx.rowB (rbB_is .nil (by simp)) (vcallF_is mixedB_Tryz bodiesB_Tryz specsOk_none lsOk_none (ev_q7O0 fl t _) ?_)
 refine cond_of (fun hx => ⟨3, 0, 4, rfl, ?_⟩) (fun hx => ⟨1, 0, 3, rfl, ?_⟩)
 ·have e : rbB fl t [] = [bT (IntKind.wrap .u8 fl), bT (IntKind.wrap .u8 t), bT 0, bT 0] := by
   unfold rbB rbP rbM; rw [show exF fl = true from hx, bz0 (z := fl) (by omega) (by omega), bz0 (z := t) (by omega) (by omega)]; rfl
  rw [e]
  exact rowsR_flat (es := [bT (IntKind.wrap .u8 fl), bT (IntKind.wrap .u8 t), bT 0, bT 0]) rfl (by intro e he; simp only [List.mem_cons, List.not_mem_nil, or_false] at he; rcases he with rfl | rfl | rfl | rfl <;> rfl)
 ·have e : rbB fl t [] = [bT (IntKind.wrap .u8 fl), bT (IntKind.wrap .u8 t), bT 0] := by
   unfold rbB rbP rbM; rw [show exF fl = false from hx, bz0 (z := fl) (by omega) (by omega), bz0 (z := t) (by omega) (by omega)]; rfl
  rw [e]
  exact rowsR_flat (es := [bT (IntKind.wrap .u8 fl), bT (IntKind.wrap .u8 t), bT 0]) rfl (by intro e he; simp only [List.mem_cons, List.not_mem_nil, or_false] at he; rcases he with rfl | rfl | rfl <;> rfl)
theorem one_vcx {fl t : Int} (hf : 0 ≤ fl ∧ fl < 256) (ht : 0 ≤ t ∧ t < 256) {r : List TV} {v : Bs} (hv : IsB (r :: v)) (hl : (r :: v).length ≤ 900000) : VCx Tryz.prog noGl 0 q7OF [rawT fl t (r :: v)] ⟨[], []⟩ fun x T' => x = .vec 1 (rbB fl t (r :: v)) .none ∧ T' = ⟨[], []⟩ := by
  obtain ⟨h0, h1⟩ := rbM_le fl (r :: v)
  have hp := rbM_pos (fl := fl) (r := r) (v := v)
  obtain ⟨qs, hqs⟩ : ∃ qs, (r :: v).take (rbM fl (r :: v)).toNat = r :: qs := by
    obtain ⟨k, hk⟩ : ∃ k, (rbM fl (r :: v)).toNat = k + 1 := ⟨_, (Nat.succ_pred_eq_of_pos hp).symm⟩
    exact ⟨v.take k, by rw [hk]; rfl⟩
  have hql : (r :: qs).length ≤ 900000 := by
    rw [← hqs, List.length_take]; omega
  have hq1 : ∀ e ∈ r :: qs, e.length = 1 := by
    rw [← hqs]; exact (hv.take _).len1
  refine VCx.rowB (rbB_is hv hl) (vcallF_is mixedB_Tryz bodiesB_Tryz specsOk_none lsOk_none (ev_q7O fl t (r :: v) (r :: qs) (r :: qs).flatten (bif exF fl then 4 else 2) ((r :: qs).length + (bif exF fl then 4 else 3)) _) ?_)
  refine cond_of (fun hx => ?_) (fun hx => ?_)
  · have hx2 : exF fl = true := hx
    rw [hx2]
    refine cond_of (fun hc => ?_) (fun hc => ?_)
    · have hb : ((r :: v).length : Int) > 65535 := of_decide_eq_true hc
      have hM : rbM fl (r :: v) = 65535 := by unfold rbM; rw [hx2]; simp only [cond_true]; rw [if_pos hb]
      have hlw : ((r :: qs).length : Int) = rbM fl (r :: v) := by rw [← hqs, List.length_take]; omega
      refine ⟨?_, oturn_bR (id := 3) (n := 4) (tok := .none) rfl rfl (Nat.le_refl 4) rfl (by omega) (by rw [Nat.add_comm 4]; rfl) rfl, 4, 0, (r :: qs).length + 4, rfl, ?_⟩
      · have h := opure_bhi (x := .tmp 21) (i := .const (.int .i64 65535)) (l := [(21, .vec 1 (r :: v) .none)]) (b := r :: v) (tok := .none) (k := .i64) (z := 65535) (n := (rbM fl (r :: v)).toNat) rfl rfl (by decide) (by rw [hM]) h1
        rwa [hqs] at h
      · have e : rbB fl t (r :: v) = [bT (IntKind.wrap .u8 fl), bT (IntKind.wrap .u8 t), bT (bz ((r :: qs).length : Int) 8), bT (bz ((r :: qs).length : Int) 0)] ++ (r :: qs) := by
          unfold rbB rbP
          rw [hx2, hqs, hlw, bz0 (z := fl) (by omega) (by omega), bz0 (z := t) (by omega) (by omega)]
          rfl
        rw [e]
        exact rowsR_flat (es := [bT (IntKind.wrap .u8 fl), bT (IntKind.wrap .u8 t), bT (bz ((r :: qs).length : Int) 8), bT (bz ((r :: qs).length : Int) 0)] ++ (r :: qs)) rfl (fun e he => by
          rcases List.mem_append.1 he with h | h
          · simp only [List.mem_cons, List.not_mem_nil, or_false] at h; rcases h with rfl | rfl | rfl | rfl <;> rfl
          · exact hq1 e h)
    · have hb : ¬ ((r :: v).length : Int) > 65535 := of_decide_eq_false hc
      have hM : rbM fl (r :: v) = ((r :: v).length : Int) := by unfold rbM; rw [hx2]; simp only [cond_true]; rw [if_neg (by omega)]
      obtain rfl : v = qs := by
        rw [hM, Int.toNat_natCast, List.take_length] at hqs
        injection hqs
      have hlw : ((r :: v).length : Int) = rbM fl (r :: v) := hM.symm
      refine ⟨oturn_bR (id := 3) (n := 4) (tok := .none) rfl rfl (Nat.le_refl 4) rfl (by omega) (by rw [Nat.add_comm 4]; rfl) rfl, 4, 0, (r :: v).length + 4, rfl, ?_⟩
      · have e : rbB fl t (r :: v) = [bT (IntKind.wrap .u8 fl), bT (IntKind.wrap .u8 t), bT (bz ((r :: v).length : Int) 8), bT (bz ((r :: v).length : Int) 0)] ++ (r :: v) := by
          unfold rbB rbP
          rw [hx2, hqs, hlw, bz0 (z := fl) (by omega) (by omega), bz0 (z := t) (by omega) (by omega)]
          rfl
        rw [e]
        exact rowsR_flat (es := [bT (IntKind.wrap .u8 fl), bT (IntKind.wrap .u8 t), bT (bz ((r :: v).length : Int) 8), bT (bz ((r :: v).length : Int) 0)] ++ (r :: v)) rfl (fun e he => by
          rcases List.mem_append.1 he with h | h
          · simp only [List.mem_cons, List.not_mem_nil, or_false] at h; rcases h with rfl | rfl | rfl | rfl <;> rfl
          · exact hq1 e h)
  · have hx2 : exF fl = false := hx
    rw [hx2]
    refine cond_of (fun hc => ?_) (fun hc => ?_)
    · have hb : ((r :: v).length : Int) > 255 := of_decide_eq_true hc
      have hM : rbM fl (r :: v) = 255 := by unfold rbM; rw [hx2]; simp only [cond_false]; rw [if_pos hb]
      have hlw : ((r :: qs).length : Int) = rbM fl (r :: v) := by rw [← hqs, List.length_take]; omega
      refine ⟨?_, oturn_bR (id := 1) (n := 3) (tok := .none) rfl rfl (Nat.le_refl 3) rfl (by omega) (by rw [Nat.add_comm 3]; rfl) rfl, 2, 0, (r :: qs).length + 3, rfl, ?_⟩
      · have h := opure_bhi (x := .tmp 31) (i := .const (.int .i64 255)) (l := [(31, .vec 1 (r :: v) .none)]) (b := r :: v) (tok := .none) (k := .i64) (z := 255) (n := (rbM fl (r :: v)).toNat) rfl rfl (by decide) (by rw [hM]) h1
        rwa [hqs] at h
      · have e : rbB fl t (r :: v) = [bT (IntKind.wrap .u8 fl), bT (IntKind.wrap .u8 t), bT (IntKind.wrap .u8 ((r :: qs).length : Int))] ++ (r :: qs) := by
          unfold rbB rbP
          rw [hx2, hqs, hlw, bz0 (z := fl) (by omega) (by omega), bz0 (z := t) (by omega) (by omega), bz0 (z := rbM fl (r :: v)) (by omega) (by omega)]
          rfl
        rw [e]
        exact rowsR_flat (es := [bT (IntKind.wrap .u8 fl), bT (IntKind.wrap .u8 t), bT (IntKind.wrap .u8 ((r :: qs).length : Int))] ++ (r :: qs)) rfl (fun e he => by
          rcases List.mem_append.1 he with h | h
          · simp only [List.mem_cons, List.not_mem_nil, or_false] at h; rcases h with rfl | rfl | rfl <;> rfl
          · exact hq1 e h)
    · have hb : ¬ ((r :: v).length : Int) > 255 := of_decide_eq_false hc
      have hM : rbM fl (r :: v) = ((r :: v).length : Int) := by unfold rbM; rw [hx2]; simp only [cond_false]; rw [if_neg (by omega)]
      obtain rfl : v = qs := by
        rw [hM, Int.toNat_natCast, List.take_length] at hqs
        injection hqs
      have hlw : ((r :: v).length : Int) = rbM fl (r :: v) := hM.symm
      refine ⟨oturn_bR (id := 1) (n := 3) (tok := .none) rfl rfl (Nat.le_refl 3) rfl (by omega) (by rw [Nat.add_comm 3]; rfl) rfl, 2, 0, (r :: v).length + 3, rfl, ?_⟩
      · have e : rbB fl t (r :: v) = [bT (IntKind.wrap .u8 fl), bT (IntKind.wrap .u8 t), bT (IntKind.wrap .u8 ((r :: v).length : Int))] ++ (r :: v) := by
          unfold rbB rbP
          rw [hx2, hqs, hlw, bz0 (z := fl) (by omega) (by omega), bz0 (z := t) (by omega) (by omega), bz0 (z := rbM fl (r :: v)) (by omega) (by omega)]
          rfl
        rw [e]
        exact rowsR_flat (es := [bT (IntKind.wrap .u8 fl), bT (IntKind.wrap .u8 t), bT (IntKind.wrap .u8 ((r :: v).length : Int))] ++ (r :: v)) rfl (fun e he => by
          rcases List.mem_append.1 he with h | h
          · simp only [List.mem_cons, List.not_mem_nil, or_false] at h; rcases h with rfl | rfl | rfl <;> rfl
          · exact hq1 e h)
end Go.Proofs.YtogbdjlelkepcaaGreatDoor
namespace Go.Proofs.YtogbdjlelkepcaaGreatDoor
open Go.RowKit

def AtOk (x : TV) : Prop := ∀ f g, x.ren f g = x
def TkEq (o h m : Int) (hm : Bool) (x : TV) (t : Int) (v : Bs) (O : VO) : Prop := O = tkO o h m hm x t v
def DzOk (dz : TV) (d : Bs) : Prop := (dz = .val (.slice none 0 0) ∧ d = []) ∨ (dz = .vec 1 d .none ∧ IsB d)
theorem DzOk.le {dz : TV} {d : Bs} (h : DzOk dz d) (f g : Nat → Option Nat) : TVle (dz.ren f g) (.vec 1 d .none) := by
 rcases h with ⟨rfl, rfl⟩ | ⟨rfl, hd⟩
 ·exact .nil 1
 ·simp only [TV.ren, hd.ren, Tok.ren]; exact .refl _
theorem DzOk.nil : DzOk (.val (.slice none 0 0)) [] := .inl ⟨rfl, rfl⟩
def RbOk (fl t : Int) (v : Bs) : Prop := (0 ≤ fl ∧ fl < 256) ∧ (0 ≤ t ∧ t < 256) ∧ IsB v ∧ v.length ≤ 900000
structure AtS where
 o : Int
 h : Int
 m : Int
 hm : Bool
 x : TV
def AtS.vo (a : AtS) : VO := atO a.o a.h a.m a.hm a.x
def AtS.tv (a : AtS) : TV := .agg [.val (.int .i64 a.o), a.x, .val (.int .u32 a.h), .val (.int .i64 a.m), .val (.bool a.hm)]
def at0 : AtS := ⟨0, 0, 0, false, .val (.slice none 0 0)⟩
def AtS.put (a : AtS) (t : Int) (v : Bs) : AtS :=
 if t = 1 then { a with o := geN 1 v } else if t = 2 then { a with x := .vec 1 (ptLB v) .none } else if t = 3 then { a with h := geN 4 v } else if t = 4 then { a with m := geN 4 v, hm := true } else a
theorem tkO_put (a : AtS) (t : Int) (v : Bs) : tkO a.o a.h a.m a.hm a.x t v = (a.put t v).vo := by
 unfold tkO AtS.put AtS.vo
 split
 ·rfl
 split
 ·rfl
 split
 ·rfl
 split <;> rfl
def AtS.Ok (a : AtS) : Prop := a.x = .val (.slice none 0 0) ∨ ∃ l : List Int, a.x = .vec 1 (iV l) .none
theorem AtS.Ok.ren {a : AtS} (h : a.Ok) (f g : Nat → Option Nat) : a.x.ren f g = a.x := by
 rcases h with h | ⟨l, h⟩ <;> rw [h]
 ·rfl
 ·simp only [TV.ren, iV_ren, Tok.ren]
theorem at0_ok : at0.Ok := .inl rfl
theorem AtS.Ok.put {a : AtS} (h : a.Ok) (t : Int) (v : Bs) : (a.put t v).Ok := by
 unfold AtS.put
 split
 ·exact h
 split
 ·exact .inr ⟨_, rfl⟩
 split
 ·exact h
 split
 ·exact h
 ·exact h
theorem AtS.Ok.vo_ren {a : AtS} (h : a.Ok) (f g : Nat → Option Nat) : a.vo.ren f g = a.vo := atO_ren h.ren f g
def metV (f : Nat → Bool) : List TV := (List.range 256).map fun i => .val (.bool (f i))
def metU (f : Nat → Bool) (t : Nat) : Nat → Bool := fun i => Nat.beq i t || f i
theorem metV_len (f : Nat → Bool) : (metV f).length = 256 := by simp [metV]
theorem metV_at {f : Nat → Bool} {t : Nat} (h : t < 256) : (metV f)[t]? = some (.val (.bool (f t))) := by
 simp [metV, List.getElem?_map, List.getElem?_range h]
theorem metV_set (f : Nat → Bool) (t : Nat) : (metV f).set t (.val (.bool true)) = metV (metU f t) := by
  apply List.ext_getElem?
  intro j
  rw [List.getElem?_set]
  simp only [metV, List.getElem?_map, List.length_map, List.length_range]
  by_cases hj : j < 256
  · rw [List.getElem?_range hj]
    by_cases e : t = j
    · subst e; rw [if_pos rfl, if_pos hj]; simp [metU]
    · rw [if_neg e]
      have : Nat.beq j t = false := by
        cases hb : Nat.beq j t
        · rfl
        · exact absurd (Nat.eq_of_beq_eq_true hb).symm e
      simp [metU, this]
  · rw [List.getElem?_eq_none (by simpa using hj : (List.range 256).length ≤ j)]
    by_cases e : t = j
    · rw [if_pos e, if_neg (by omega)]; rfl
    · rw [if_neg e]; rfl
def aqGo : List Rw3 → (Nat → Bool) → AtS → (Int × Bs) ⊕ (AtS × (Nat → Bool))
 | [], f, a => .inr (a, f)
 | (fl, t, v) :: l, f, a => bif f t.toNat then .inl (1, []) else if tkS fl t v = 0 then aqGo l (metU f t.toNat) (a.put t v) else if tkS fl t v = 11 then .inl (11, []) else .inl (tkS fl t v, rbB fl t v)
def aqMet (a : AtS) (f : Nat → Bool) : (Int × Bs) ⊕ AtS := bif f 1 then (bif f 2 then (bif f 3 then .inr a else .inl (3, [bT 3])) else .inl (3, [bT 2])) else .inl (3, [bT 1])
def aqP (b : Bs) : (Int × Bs) ⊕ AtS := bif saO b then (match aqGo (saA b) (fun _ => false) at0 with
 | .inl e => .inl e
 | .inr (a, f) => aqMet a f) else .inl (1, [])
def ftT (c s : Int) (d : Bs) : TV := .agg [.val (.int .i64 c), .val (.int .i64 s), .vec 1 d .none]
def AtS.fix (a : AtS) : AtS := { a with x := match a.x with
 | .vec 1 l _ => .vec 1 l .none
 | _ => .vec 1 [] .none }
def aqX (b : Bs) : TV := match aqP b with
 | .inl (s, d) => .tup [at0.fix.tv, ftT 3 s d]
 | .inr a => .tup [a.fix.tv, ftT 0 0 []]
theorem AtS.Ok.fix_le {a : AtS} (h : a.Ok) : TVle a.tv a.fix.tv := by
 obtain ⟨o, hh, m, hm, x⟩ := a
 rcases h with h | ⟨l, h⟩ <;> simp only at h <;> subst h
 ·exact .agg ⟨.refl _, .nil 1, .refl _, .refl _, .refl _, trivial⟩
 ·exact .refl _
theorem AtS.Ok.fix_ren {a : AtS} (h : a.Ok) (f g : Nat → Option Nat) : a.fix.tv.ren f g = a.fix.tv := by
 obtain ⟨o, hh, m, hm, x⟩ := a
 rcases h with h | ⟨l, h⟩ <;> simp only at h <;> subst h
 ·rfl
 ·simp only [AtS.tv, AtS.fix, TV.ren, renL, iV_ren, Tok.ren]
def AllR (l : List Rw3) : Prop := ∀ p ∈ l, (0 ≤ p.1 ∧ p.1 < 256) ∧ (0 ≤ p.2.1 ∧ p.2.1 < 256) ∧ IsB p.2.2 ∧ p.2.2.length ≤ 900000
theorem nmB_lt {n : Nat} {b : Bs} (h : IsB b) (e : Int) : 0 ≤ nmB n b e ∧ nmB n b e < 256 ^ n := by rw [nmB_eq]; exact nmI_lt h e
theorem nmB1_lt {b : Bs} (h : IsB b) (e : Int) : 0 ≤ nmB 1 b e ∧ nmB 1 b e < 256 := nmB_lt (n := 1) h e
theorem tkB_le2 {n : Nat} {b : Bs} {e : Int} : (tkB n b e).length ≤ n := by
 have h := tkB_len (n := n) (b := b) (e := e)
 revert h; cases tkOk n b e <;> simp only [cond_true, cond_false] <;> omega
theorem saV_len {b : Bs} (h : IsB b) : (saV b).length ≤ 900000 := by
 have h2 : IsB (saR2 b) := tkR_is (tkR_is h)
 have h3 : 0 ≤ saN b ∧ saN b < 65536 := by
  unfold saN
  unfold szK
  cases exF (saC b)
  ·have := nmB_lt (n := 1) h2 (saE2 b)
   simp only [cond_false]; omega
  ·exact nmB_lt (n := 2) h2 (saE2 b)
 obtain ⟨k, hk⟩ := Int.eq_ofNat_of_zero_le h3.1
 have := tkB_le2 (n := k) (b := saR3 b) (e := saE3 b)
 unfold saV
 rw [hk] at h3 ⊢
 have h4 : k < 65536 := by omega
 exact Nat.le_trans this (by omega)
theorem saGo_rng : ∀ (k : Nat) (b : Bs) (acc : List Rw3), IsB b → AllR acc → ∀ l, saGo k b acc = some l → AllR l
 | 0, _, _, _, _, l, h => by cases h
 | k + 1, b, acc, hb, ha, l, h => by
  unfold saGo at h
  cases h1 : decide (leB b 0 > 0) <;> rw [h1] at h
  ·injection h with h; subst h; exact ha
  ·cases h2 : decide (saZ b = 0) <;> rw [h2] at h
   ·cases h
   ·refine saGo_rng k _ _ (saB_is hb) (fun p hp => ?_) l h
    rcases List.mem_append.1 hp with h3 | h3
    ·exact ha p h3
    ·obtain rfl := List.mem_singleton.1 h3
     exact ⟨nmB1_lt hb 0, nmB1_lt (tkR_is hb) _, saV_is hb, saV_len hb⟩
theorem saA_rng {b : Bs} (hb : IsB b) : AllR (saA b) := by
 unfold saA
 cases h : saP b with
 | none => exact fun p hp => by simp at hp
 | some l => exact saGo_rng _ _ _ hb (fun p hp => by simp at hp) l h
theorem saA_len {b : Bs} : (saA b).length ≤ b.length + 1 := by
 have key : ∀ (k : Nat) (b : Bs) (acc l : List Rw3), saGo k b acc = some l → l.length ≤ acc.length + b.length + 1 := by
  intro k
  induction k with
  | zero => intro b acc l h; cases h
  | succ k ih =>
   intro b acc l h
   unfold saGo at h
   by_cases hl : leB b 0 > 0
   ·rw [decide_eq_true hl] at h
    cases h2 : decide (saZ b = 0) <;> rw [h2] at h
    ·cases h
    ·have h3 := ih _ _ _ h
     have h4 := saB_lt hl
     simp only [List.length_append, List.length_cons, List.length_nil] at h3
     omega
   ·rw [decide_eq_false hl] at h
    injection h with h; subst h; omega
 unfold saA
 cases h : saP b with
 | none => simp
 | some l => have := key _ _ _ _ h; simpa using this
end Go.Proofs.YtogbdjlelkepcaaGreatDoor
namespace Go.Proofs.YtogbdjlelkepcaaGreatDoor
open Go.RowKit

abbrev apF := 84
abbrev q7F := 96
def spWs : Spec := fun _ ys T K => match ys with
 | [.vec 1 b _] => IsB b ∧ bif saO b then K (.tup [.vec 3 (saL b) .none, .agg [.val (.int .i64 0), .val (.int .i64 0), .vec 1 [] .none]]) T else K (.tup [.vec 3 (saL b) .none, .agg [.val (.int .i64 3), .val (.int .i64 1), .vec 1 [] .none]]) T
 | _ => vbad 83 default ys
def tkaW : Spec := fun ro ys T K => match ys with
 | [.ptr k 0, .agg [.val (.int .i64 fl), .val (.int .i64 t), .vec 1 v .none]] => match T.objs[k]? with
  | some (.cells [.val (.int .i64 o), x, .val (.int .u32 h), .val (.int .i64 m), .val (.bool hm)]) => (Nat.ble ro k = true ∧ IsB v ∧ AtOk x) ∧ ∀ (s : Int) (O : VO), (s = tkS fl t v ∧ (s = 0 → TkEq o h m hm x t v O)) → K (.val (.int .i64 s)) { T with objs := T.objs.set k O }
  | _ => vbad 80 default ys
 | _ => vbad 81 default ys
def rbWs : Spec := fun _ ys T K => match ys with
 | [.agg [.val (.int .i64 fl), .val (.int .i64 t), .vec 1 v .none]] => RbOk fl t v ∧ K (.vec 1 (rbB fl t v) .none) T
 | _ => vbad 83 default ys
def nilT : TV := .val (.slice none 0 0)
def z61 : VO := .cells [.val (.int .i64 0), nilT, .val (.int .u32 0), .val (.int .i64 0), .val (.bool false)]
def zft : VO := .cells [.val (.int .i64 0), .val (.int .i64 0), nilT]
def aqK : List Nat := [2, 3, 6, 7, 22, 23, 24]
def aqV (L : Bs) (j : Int) : List TV := [.ptr 0 0, .ptr 1 0, .ptr 3 0, .ptr 4 0, .vec 3 L .none, .val (.int .i64 L.length), .val (.int .i64 j)]
def sf0 : VO := .cells [.val (.int .i64 0), .val (.int .i64 0), .vec 1 [] .none]
def mt0 : VO := .cells ((List.range 256).map fun _ => .val (.bool false))
def aqR (N : Nat) (L : Bs) (ok : Bool) (s : Int) (d : Bs) (o h m : Int) (hm : Bool) (xn : Bool) (xl : Bs) (c1 c2 c3 : Bool) (K : KX) : Prop := bif ok then (∀ (j : Int) (c0 : Bool) (rm : List TV), bif xn then K .normal (slotsN N aqK (aqV L j)) ⟨[z61, zft, sf0, atO o h m hm nilT, .cells (.val (.bool c0) :: .val (.bool c1) :: .val (.bool c2) :: .val (.bool c3) :: rm)], []⟩ [] else K .normal (slotsN N aqK (aqV L j)) ⟨[z61, zft, sf0, atO o h m hm (.vec 1 xl .none), .cells (.val (.bool c0) :: .val (.bool c1) :: .val (.bool c2) :: .val (.bool c3) :: rm)], []⟩ []) else ∀ (j : Int) (dz : TV) (rest : List VO) (tlz : Tl7), DzOk dz d → K .ret (slotsN N aqK (aqV L j)) ⟨z61 :: .cells [.val (.int .i64 3), .val (.int .i64 s), dz] :: rest, tlz⟩ []
def aqL (N : Nat) (L : Bs) (ok : Bool) (s : Int) (d : Bs) (o h m : Int) (hm : Bool) (xn : Bool) (xl : Bs) (c1 c2 c3 : Bool) (c0 : Code) : Nat → Option (LSpec × Code) := specsL [(0, loopL N aqK [] (aqV L 0) ⟨[z61, zft, sf0, z61, mt0], []⟩ (aqR N L ok s d o h m hm xn xl c1 c2 c3), c0)]
theorem ev_ap (b : Bs) (ok : Bool) (s : Int) (d : Bs) (o h m : Int) (hm : Bool) (xn : Bool) (xl : Bs) (c1 c2 c3 : Bool) (Q : TV → VT → Prop) : vcallF Tryz.prog noGl (specs [(spF, spWs)]) (tellS [(999999, .dead, none)]) 300 (aqL 65 (saL b) ok s d o h m hm xn xl c1 c2 c3 (codeAt Tryz.prog apF 0)) 0 apF [.vec 1 b .none] zz211 Q =
 (IsB (b) ∧
 (bif saO b
 then ((codeAt Tryz.prog apF (0 : Nat) = codeAt Tryz.prog apF (0 : Nat)) ∧
 (((@Eq (Option Nat) .none .none) ∧
 ((@Eq (Nat) 0 0) ∧
 ((@Eq (List Nat) [] []) ∧
 (True  ∧
 ((@Eq (VT) zz128 zz128) ∧
 ((@Eq (Bool) true true) ∧
 (@Eq (List TV) (zz127 (saL b) (↑(List.length (saL b)) : Int)) (zz127 (saL b) (↑(List.length (saL b)) : Int))))))))) ∧
 (bif ok
 then (∀ j : Int, (∀ c0 : Bool, (∀ rm : List TV, (bif xn
 then (bif eqRes BinOp.eql (keyEq (Value.bool false) (Value.bool c1))
 then Q (zz126 [[(.val (.int .u8 1))]]) (zz125 [[(.val (.int .u8 1))]] o h m hm ([(.val (.bool (c0))), (.val (.bool (c1))), (.val (.bool (c2))), (.val (.bool (c3)))] ++ rm))
 else (bif eqRes BinOp.eql (keyEq (Value.bool false) (Value.bool c2))
 then Q (zz126 [[(.val (.int .u8 2))]]) (zz125 [[(.val (.int .u8 2))]] o h m hm ([(.val (.bool (c0))), (.val (.bool (c1))), (.val (.bool (c2))), (.val (.bool (c3)))] ++ rm))
 else (bif eqRes BinOp.eql (keyEq (Value.bool false) (Value.bool c3))
 then Q (zz126 [[(.val (.int .u8 3))]]) (zz125 [[(.val (.int .u8 3))]] o h m hm ([(.val (.bool (c0))), (.val (.bool (c1))), (.val (.bool (c2))), (.val (.bool (c3)))] ++ rm))
 else Q (zz124 o h m hm) (zz123 o h m hm o h m hm ([(.val (.bool (c0))), (.val (.bool (c1))), (.val (.bool (c2))), (.val (.bool (c3)))] ++ rm)))))
 else (bif eqRes BinOp.eql (keyEq (Value.bool false) (Value.bool c1))
 then Q (zz126 [[(.val (.int .u8 1))]]) (zz122 [[(.val (.int .u8 1))]] o xl h m hm ([(.val (.bool (c0))), (.val (.bool (c1))), (.val (.bool (c2))), (.val (.bool (c3)))] ++ rm))
 else (bif eqRes BinOp.eql (keyEq (Value.bool false) (Value.bool c2))
 then Q (zz126 [[(.val (.int .u8 2))]]) (zz122 [[(.val (.int .u8 2))]] o xl h m hm ([(.val (.bool (c0))), (.val (.bool (c1))), (.val (.bool (c2))), (.val (.bool (c3)))] ++ rm))
 else (bif eqRes BinOp.eql (keyEq (Value.bool false) (Value.bool c3))
 then Q (zz126 [[(.val (.int .u8 3))]]) (zz122 [[(.val (.int .u8 3))]] o xl h m hm ([(.val (.bool (c0))), (.val (.bool (c1))), (.val (.bool (c2))), (.val (.bool (c3)))] ++ rm))
 else Q (.tup [(.agg [(zz1 o), (zz2 xl), (zz7 h), (zz1 m), (zz9 hm)]), zz45]) ⟨[(zz34 o xl h m hm), zz62, zz6, (zz34 o xl h m hm), (zz106 ([(.val (.bool (c0))), (.val (.bool (c1))), (.val (.bool (c2))), (.val (.bool (c3)))] ++ rm))], []⟩)))))))
 else (∀ j : Int, (∀ dz : TV, (∀ rest : List VO, (∀ tlz : Tl7, (DzOk (dz) (d) → Q (zz121 s dz) ⟨[(.cells [(.val (.int .i64 0)), (.val (.slice .none 0 0)), (.val (.int .u32 0)), (.val (.int .i64 0)), (.val (.bool false))]), (.cells [(.val (.int .i64 3)), (.val (.int .i64 (s))), (dz)])] ++ rest, tlz⟩))))))))
 else Q zz120 zz118)) := by kernel_rfl
abbrev zzy45 (L : Bs) (j : Int) : List TV := (zz115 L (↑(List.length L) : Int) j)
theorem ev_apA (L : Bs) (j fl t : Int) (v : Bs) (tn : Nat) (c : Bool) (M M2 : List TV) (o h m : Int) (hm : Bool) (x : TV) (Q : Exit → List TV → VT → List Nat → Nat → Prop) : vx Tryz.prog noGl (specs [(tkaF, tkaW), (rabF, rbWs)]) (tellS [(999999, .dead, none), (26, .elt [.val (.int .i64 fl), .val (.int .i64 t), .vec 1 v .none], none), (30, .ptr 4 tn, none), (31, .val (.bool c), some fun T => T), (36, .ptr 4 tn, none), (500036, .val undef, some fun T => { T with objs := T.objs.set 4 (zz106 M2) })]) 300 noLp none 0 (loopAt Tryz.prog apF 0) (slotsN 65 aqK (aqV L j)) ⟨[z61, zft, sf0, atO o h m hm x, .cells M], []⟩ [] (pickS aqK Q) =
 (bif decide (j < (↑(List.length L) : Int))
 then (OPure Tryz.prog (fun _ => .none) (.indexAddr 199 (.tmp 22) (.tmp 24)) [(22, (.vec 3 L .none)), (24, (zz1 j))] (.elt [(zz1 fl), (zz1 t), (zz2 v)]) ∧
 (OPure Tryz.prog (fun _ => .none) (.indexAddr 202 (.tmp 7) (.tmp 29)) [(7, zz96), (29, (zz1 t))] (.ptr 4 tn) ∧
 (OTurn Tryz.prog (fun _ => .none) 0 (zz116 o x h m hm M fl t v) (.load 4 (.tmp 30)) [(30, (.ptr 4 tn))] (zz9 c) (zz116 o x h m hm M fl t v) ∧
 (bif c
 then Q .ret (zzy45 L j) ⟨[zz104, zz158, zz6, (zz110 o x h m hm), (zz106 M), (zz11 fl t v)], []⟩ [] 65
 else (OPure Tryz.prog (fun _ => .none) (.indexAddr 202 (.tmp 7) (.tmp 35)) [(7, zz96), (35, (zz1 t))] (.ptr 4 tn) ∧
 (OTurn Tryz.prog (fun _ => .none) 0 (zz116 o x h m hm M fl t v) (.store 4 (.tmp 36) (.const (.bool true))) [(36, (.ptr 4 tn))] (.val (.tuple #[])) (zz116 o x h m hm M2 fl t v) ∧
 (((@Eq (Bool) true true) ∧
 (IsB (v) ∧
 AtOk (x))) ∧
 (∀ s : Int, (∀ O : VO, (((@Eq (Int) (s) (tkS fl t v)) ∧
 ((@Eq (Int) (s) 0) → TkEq (o) (h) (m) (hm) (x) (t) (v) (O))) → (bif eqRes BinOp.eql (k6 s (0 : Int))
 then Q .normal (zz115 L (↑(List.length L) : Int) (IntKind.wrap IntKind.i64 (j + (1 : Int)))) (zz114 O M2 fl t v) [] 65
 else (bif eqRes BinOp.eql (k6 s (11 : Int))
 then Q .ret (zzy45 L j) ⟨[zz104, (zz113 s), zz6, O, (zz106 M2), (zz11 fl t v)], []⟩ [] 65
 else (RbOk (fl) (t) (v) ∧
 Q .ret (zzy45 L j) ⟨[zz104, (zz112 s (rbB fl t v)), zz6, O, (zz106 M2), (zz11 fl t v)], []⟩ [] 65)))))))))))))
 else Q (.exit 0) (zzy45 L j) (zz111 o x h m hm M) [] 65) := by kernel_rfl
theorem ev_q7 (b : Bs) (ok : Bool) (s : Int) (d : Bs) (o h m : Int) (hm : Bool) (xn : Bool) (xl : Bs) (c1 c2 c3 : Bool) (Q : TV → VT → Prop) : vcallF Tryz.prog noGl (specs [(q7SF, spWs)]) (tellS [(999999, .dead, none)]) 300 (aqL 68 (saL b) ok s d o h m hm xn xl c1 c2 c3 (codeAt Tryz.prog q7F 0)) 0 q7F [.vec 1 b .none] zz211 Q =
 (IsB (b) ∧
 (bif saO b
 then ((codeAt Tryz.prog q7F (0 : Nat) = codeAt Tryz.prog q7F (0 : Nat)) ∧
 (((@Eq (Option Nat) .none .none) ∧
 ((@Eq (Nat) 0 0) ∧
 ((@Eq (List Nat) [] []) ∧
 (True  ∧
 ((@Eq (VT) zz128 zz128) ∧
 ((@Eq (Bool) true true) ∧
 (@Eq (List TV) (zz127 (saL b) (↑(List.length (saL b)) : Int)) (zz127 (saL b) (↑(List.length (saL b)) : Int))))))))) ∧
 (bif ok
 then (∀ j : Int, (∀ c0 : Bool, (∀ rm : List TV, (bif xn
 then (bif !c1
 then Q (zz126 [[(.val (.int .u8 1))]]) (zz109 [[(.val (.int .u8 1))]] o h m hm ([(.val (.bool (c0))), (.val (.bool (c1))), (.val (.bool (c2))), (.val (.bool (c3)))] ++ rm) [[(.val (.int .u8 1))]])
 else (bif !c2
 then Q (zz126 [[(.val (.int .u8 2))]]) (zz109 [[(.val (.int .u8 2))]] o h m hm ([(.val (.bool (c0))), (.val (.bool (c1))), (.val (.bool (c2))), (.val (.bool (c3)))] ++ rm) [[(.val (.int .u8 2))]])
 else (bif !c3
 then Q (zz126 [[(.val (.int .u8 3))]]) (zz109 [[(.val (.int .u8 3))]] o h m hm ([(.val (.bool (c0))), (.val (.bool (c1))), (.val (.bool (c2))), (.val (.bool (c3)))] ++ rm) [[(.val (.int .u8 3))]])
 else Q (zz124 o h m hm) (zz123 o h m hm o h m hm ([(.val (.bool (c0))), (.val (.bool (c1))), (.val (.bool (c2))), (.val (.bool (c3)))] ++ rm)))))
 else (bif !c1
 then Q (zz126 [[(.val (.int .u8 1))]]) (zz107 [[(.val (.int .u8 1))]] o xl h m hm ([(.val (.bool (c0))), (.val (.bool (c1))), (.val (.bool (c2))), (.val (.bool (c3)))] ++ rm) [[(.val (.int .u8 1))]])
 else (bif !c2
 then Q (zz126 [[(.val (.int .u8 2))]]) (zz107 [[(.val (.int .u8 2))]] o xl h m hm ([(.val (.bool (c0))), (.val (.bool (c1))), (.val (.bool (c2))), (.val (.bool (c3)))] ++ rm) [[(.val (.int .u8 2))]])
 else (bif !c3
 then Q (zz126 [[(.val (.int .u8 3))]]) (zz107 [[(.val (.int .u8 3))]] o xl h m hm ([(.val (.bool (c0))), (.val (.bool (c1))), (.val (.bool (c2))), (.val (.bool (c3)))] ++ rm) [[(.val (.int .u8 3))]])
 else Q (.tup [(.agg [(zz1 o), (zz2 xl), (zz7 h), (zz1 m), (zz9 hm)]), zz45]) ⟨[(zz34 o xl h m hm), zz62, zz6, (zz34 o xl h m hm), (zz106 ([(.val (.bool (c0))), (.val (.bool (c1))), (.val (.bool (c2))), (.val (.bool (c3)))] ++ rm))], []⟩)))))))
 else (∀ j : Int, (∀ dz : TV, (∀ rest : List VO, (∀ tlz : Tl7, (DzOk (dz) (d) → Q (zz121 s dz) ⟨[(.cells [(.val (.int .i64 0)), (.val (.slice .none 0 0)), (.val (.int .u32 0)), (.val (.int .i64 0)), (.val (.bool false))]), (.cells [(.val (.int .i64 3)), (.val (.int .i64 (s))), (dz)])] ++ rest, tlz⟩))))))))
 else Q zz120 zz118)) := by kernel_rfl
theorem ev_q7A (L : Bs) (j fl t : Int) (v : Bs) (tn : Nat) (c : Bool) (M M2 : List TV) (o h m : Int) (hm : Bool) (x : TV) (Q : Exit → List TV → VT → List Nat → Nat → Prop) : vx Tryz.prog noGl (specs [(q7TF, tkaW), (q7OF, rbWs)]) (tellS [(999999, .dead, none), (26, .elt [.val (.int .i64 fl), .val (.int .i64 t), .vec 1 v .none], none), (30, .ptr 4 tn, none), (31, .val (.bool c), some fun T => T), (36, .ptr 4 tn, none), (500036, .val undef, some fun T => { T with objs := T.objs.set 4 (zz106 M2) })]) 300 noLp none 0 (loopAt Tryz.prog q7F 0) (slotsN 68 aqK (aqV L j)) ⟨[z61, zft, sf0, atO o h m hm x, .cells M], []⟩ [] (pickS aqK Q) =
 (bif decide (j < (↑(List.length L) : Int))
 then (OPure Tryz.prog (fun _ => .none) (.indexAddr 209 (.tmp 22) (.tmp 24)) [(22, (.vec 3 L .none)), (24, (zz1 j))] (.elt [(zz1 fl), (zz1 t), (zz2 v)]) ∧
 (OPure Tryz.prog (fun _ => .none) (.indexAddr 202 (.tmp 7) (.tmp 29)) [(7, zz96), (29, (zz1 t))] (.ptr 4 tn) ∧
 (OTurn Tryz.prog (fun _ => .none) 0 (zz116 o x h m hm M fl t v) (.load 4 (.tmp 30)) [(30, (.ptr 4 tn))] (zz9 c) (zz116 o x h m hm M fl t v) ∧
 (bif c
 then Q .ret (zzy45 L j) ⟨[zz104, zz158, zz6, (zz110 o x h m hm), (zz106 M), (zz11 fl t v), zz158], []⟩ [] 68
 else (OPure Tryz.prog (fun _ => .none) (.indexAddr 202 (.tmp 7) (.tmp 35)) [(7, zz96), (35, (zz1 t))] (.ptr 4 tn) ∧
 (OTurn Tryz.prog (fun _ => .none) 0 (zz116 o x h m hm M fl t v) (.store 4 (.tmp 36) (.const (.bool true))) [(36, (.ptr 4 tn))] (.val (.tuple #[])) (zz116 o x h m hm M2 fl t v) ∧
 (((@Eq (Bool) true true) ∧
 (IsB (v) ∧
 AtOk (x))) ∧
 (∀ s : Int, (∀ O : VO, (((@Eq (Int) (s) (tkS fl t v)) ∧
 ((@Eq (Int) (s) 0) → TkEq (o) (h) (m) (hm) (x) (t) (v) (O))) → (bif eqRes BinOp.eql (k6 s (0 : Int))
 then Q .normal (zz115 L (↑(List.length L) : Int) (IntKind.wrap IntKind.i64 (j + (1 : Int)))) (zz114 O M2 fl t v) [] 68
 else (bif eqRes BinOp.eql (k6 s (11 : Int))
 then Q .ret (zzy45 L j) ⟨[zz104, (zz113 s), zz6, O, (zz106 M2), (zz11 fl t v), (zz113 s)], []⟩ [] 68
 else (RbOk (fl) (t) (v) ∧
 Q .ret (zzy45 L j) ⟨[zz104, (zz112 s (rbB fl t v)), zz6, O, (zz106 M2), (zz11 fl t v), (zz112 s (rbB fl t v))], []⟩ [] 68)))))))))))))
 else Q (.exit 0) (zzy45 L j) (zz111 o x h m hm M) [] 68) := by kernel_rfl
end Go.Proofs.YtogbdjlelkepcaaGreatDoor
namespace Go.Proofs.YtogbdjlelkepcaaGreatDoor
open Go.RowKit

section
variable {P : Program} {G : Globs}
theorem opure_arr {t e : TypeId} {x i : Operand} {l : List (Nat × TV)} {inf : TypeInfo} {id off n : Nat} {k : IntKind} {z : Int} (ht : P.underlying t = some (.array n e)) (hi : P.info? e = some inf)
  (hx : evOf G l x = .ptr id off) (hz : evOf G l i = .val (.int k z)) (h0 : 0 ≤ z) (h1 : z < n) : OPure P G (.indexAddr t x i) l (.ptr id (off + z.toNat * inf.size)) := by
 refine ⟨?_⟩
 simp [vpure2, hx, hz, vindexR, vindexAddr, ht, hi, h0, h1]
theorem oturn_loadC {ro : Nat} {T : VT} {t : TypeId} {d : TypeDesc} {a : Operand} {l : List (Nat × TV)} {inf : TypeInfo} {id off : Nat} {cs : List TV} {y : TV} (ht : P.underlying t = some d) (hd : isAggD d = false) (hi : P.info? t = some inf)
  (ha : evOf G l a = .ptr id off) (ho : T.objs[id]? = some (.cells cs)) (hy : cs[off]? = some y) : OTurn P G ro T (.load t a) l y T := by
 refine .mk ?_
 have hlt := (List.getElem?_eq_some_iff.1 hy).1
 have hc : cellsAt T (.ptr id off) 1 = some [y] := by
  simp only [cellsAt, ho]
  rw [if_pos (by omega)]
  congr 1
  rw [List.take_one, List.head?_drop, hy]; rfl
 have h1 : vpure2 P (.load t a) (evOf G l) = none := by simp [vpure2, vpure]
 have h2 : vread2 P T (.load t a) (evOf G l) = some y := by simp [vread2, vread, vload, ht, hi, hd, ha, hc]
 simp only [vopA, h1, h2]
theorem oturn_storeC {ro : Nat} {T : VT} {t : TypeId} {a x : Operand} {l : List (Nat × TV)} {inf : TypeInfo} {id off : Nat} {cs new : List TV} (hi : P.info? t = some inf)
  (ha : evOf G l a = .ptr id off) (hx : cellsOf (evOf G l x) = some new) (ho : T.objs[id]? = some (.cells cs)) (hn : inf.size = new.length) (hle : off + new.length ≤ cs.length) (hc : new.all isCell = true) (hro : ro ≤ id) :
  OTurn P G ro T (.store t a x) l (.val undef) { T with objs := T.objs.set id (.cells (setCs cs off new)) } := by
 refine .old ?_ ?_
 ·simp [vfree, ha, hro]
 ·have h1 : vstore P T t (evOf G l a) (evOf G l x) = some (.val undef, { T with objs := T.objs.set id (.cells (setCs cs off new)) }) := by
   simp only [vstore, ha, ho, hx, hi]
   rw [if_pos ⟨hn, hle, hc⟩]
  simp [vop, vpure, vread, vwrite, h1]
theorem setCs_one (cs : List TV) (off : Nat) (y : TV) (h : off < cs.length) : setCs cs off [y] = cs.set off y := by
 unfold setCs
 rw [List.set_eq_take_append_cons_drop, if_pos h]
 simp
end
end Go.Proofs.YtogbdjlelkepcaaGreatDoor
namespace Go.Proofs.YtogbdjlelkepcaaGreatDoor
open Go.RowKit

theorem saX_ren {b : Bs} (hb : IsB b) (f g : Nat → Option Nat) : (saX b).ren f g = saX b := by
 simp only [saX, TV.ren, renL, saL_ren hb, Tok.ren, renLL]
theorem spWs_ok {f : FuncId} (h : ∀ {b : Bs}, IsB b → VCx Tryz.prog noGl 0 f [.vec 1 b .none] ⟨[], []⟩ fun x T' => x = saX b ∧ T' = ⟨[], []⟩) : ∀ ro ys T K, spWs ro ys T K → VCx Tryz.prog noGl ro f ys T K := by
 intro ro ys T K hw
 unfold spWs at hw
 split at hw
 ·rename_i b tok
  refine VCx.loosePure gvals_noGl (h hw.1) (by simp [looseTV]) (by simp [renL, TV.ren, hw.1.ren, Tok.ren]) (fun f h => saX_ren hw.1 f h) ?_
  have h2 := hw.2
  unfold saX
  cases hh : saO b <;> rw [hh] at h2 <;> exact h2
 ·exact hw.elim
theorem tkO_ren {o h m t : Int} {hm : Bool} {x : TV} {v : Bs} (hx : AtOk x) (f g : Nat → Option Nat) : (tkO o h m hm x t v).ren f g = tkO o h m hm x t v := by
 unfold tkO
 split
 ·exact atO_ren hx f g
 split
 ·exact atO_ren (ptLB_ren v) f g
 split
 ·exact atO_ren hx f g
 split
 ·exact atO_ren hx f g
 ·exact atO_ren hx f g
theorem tkaW_ok {f : FuncId} (hf : ∀ (o h m fl t : Int) (hm : Bool) {x : TV} (_ : ∀ f g, x.ren f g = x) {v : Bs} (_ : IsB v), VCx Tryz.prog noGl 0 f [.ptr 0 0, rawT fl t v] ⟨[atO o h m hm x], []⟩ (TkPost o h m hm x fl t v)) : ∀ ro ys T K, tkaW ro ys T K → VCx Tryz.prog noGl ro f ys T K := by
 intro ro ys T K hw
 unfold tkaW at hw
 split at hw
 ·rename_i k fl t v
  split at hw
  ·rename_i o x h m hm ho
   obtain ⟨⟨hro, hv, hx⟩, hk⟩ := hw
   refine VCx.at1 (Q := fun y o' l' => y = .val (.int .i64 (tkS fl t v)) ∧ l' = [] ∧ (tkS fl t v = 0 → o' = tkO o h m hm x t v)) gvals_noGl (Nat.le_of_ble_eq_true hro) ho rfl (atO_ren hx _ _) (ys1 := [.ptr 0 0, rawT fl t v]) (by simp [renL, TV.ren, nameIn, rawT, hv.ren, Tok.ren]) ((hf o h m fl t hm hx hv).mono ?_) ?_
   ·rintro y T' ⟨h1, O, h2, h3⟩
    exact ⟨O, [], h2, h1, rfl, h3⟩
   ·rintro y o' l' ⟨rfl, rfl, h3⟩
    simpa [TV.ren] using hk (tkS fl t v) (o'.ren (nameOut T.objs.length [k]) (nameOut T.tails.length [])) ⟨rfl, fun hs => by
     unfold TkEq
     rw [h3 hs]; exact tkO_ren hx _ _⟩
  ·exact hw.elim
 ·exact hw.elim
theorem rbWs_ok {f : FuncId} (h : ∀ (fl t : Int) (v : Bs), RbOk fl t v → VCx Tryz.prog noGl 0 f [rawT fl t v] ⟨[], []⟩ fun x T' => x = .vec 1 (rbB fl t v) .none ∧ T' = ⟨[], []⟩) : ∀ ro ys T K, rbWs ro ys T K → VCx Tryz.prog noGl ro f ys T K := by
 intro ro ys T K hw
 unfold rbWs at hw
 split at hw
 ·rename_i fl t v
  have hv := hw.1.2.2.1
  have hr := rbB_is (fl := fl) (t := t) hv hw.1.2.2.2
  exact VCx.liftPure gvals_noGl (h fl t v hw.1) (by simp [renL, TV.ren, rawT, hv.ren, Tok.ren]) (fun f g => by simp only [TV.ren, hr.ren, Tok.ren]) hw.2
 ·exact hw.elim
theorem rab_all (fl t : Int) (v : Bs) (h : RbOk fl t v) : VCx Tryz.prog noGl 0 rabF [rawT fl t v] ⟨[], []⟩ fun x T' => x = .vec 1 (rbB fl t v) .none ∧ T' = ⟨[], []⟩ := by
 cases v with
 | nil => exact rab0_vcx fl t
 | cons r v => exact rab_vcx fl t h.2.2.1 h.2.2.2
theorem one_all (fl t : Int) (v : Bs) (h : RbOk fl t v) : VCx Tryz.prog noGl 0 q7OF [rawT fl t v] ⟨[], []⟩ fun x T' => x = .vec 1 (rbB fl t v) .none ∧ T' = ⟨[], []⟩ := by
 cases v with
 | nil => exact one0_vcx h.1 h.2.1
 | cons r v => exact one_vcx h.1 h.2.1 h.2.2.1 h.2.2.2
theorem metV_ren (f : Nat → Bool) (g h : Nat → Option Nat) : renL g h (metV f) = metV f := by
 simp only [renL_map, metV, List.map_map]; rfl
theorem metC_ren (f : Nat → Bool) (g h : Nat → Option Nat) : (VO.cells (metV f)).ren g h = .cells (metV f) := by
 simp only [VO.ren, metV_ren]
theorem metV_cons (f : Nat → Bool) : metV f = .val (.bool (f 0)) :: .val (.bool (f 1)) :: .val (.bool (f 2)) :: .val (.bool (f 3)) :: (metV f).drop 4 := rfl
def aqR0 (b : Bs) : (Int × Bs) ⊕ (AtS × (Nat → Bool)) := aqGo (saA b) (fun _ => false) at0
theorem aqGo_ok : ∀ (l : List Rw3) (f : Nat → Bool) (a : AtS), a.Ok → ∀ a' f', aqGo l f a = .inr (a', f') → a'.Ok
 | [], f, a, h, a', f', e => by injection e with e; injection e with e1 e2; exact e1 ▸ h
 | (fl, t, v) :: l, f, a, h, a', f', e => by
  unfold aqGo at e
  cases hf : f t.toNat <;> rw [hf] at e
  ·simp only [cond_false] at e
   split at e
   ·exact aqGo_ok l _ _ (h.put t v) a' f' e
   ·split at e <;> cases e
  ·cases e
def aqT (a : AtS) (f : Nat → Bool) : VT := ⟨[z61, zft, sf0, a.vo, .cells (metV f)], []⟩
def ftV (s : Int) (dz : TV) : VO := .cells [.val (.int .i64 3), .val (.int .i64 s), dz]
def aqPost (b : Bs) (ex : Exit) (vs : List TV) (T : VT) : Prop :=
 (∃ (a : AtS) (f : Nat → Bool) (j : Int), aqR0 b = .inr (a, f) ∧ ex = .normal ∧ vs = aqV (saL b) j ∧ T = aqT a f) ∨
 (∃ (s : Int) (d : Bs) (dz : TV) (rest : List VO) (tlz : Tl7) (j : Int), aqR0 b = .inl (s, d) ∧ DzOk dz d ∧ ex = .ret ∧ vs = aqV (saL b) j ∧ T = ⟨z61 :: ftV s dz :: rest, tlz⟩)
def AqPar (b : Bs) (ok : Bool) (s : Int) (d : Bs) (o h m : Int) (hm : Bool) (xn : Bool) (xl : Bs) (c1 c2 c3 : Bool) : Prop :=
 (ok = false ∧ aqR0 b = .inl (s, d)) ∨ (ok = true ∧ ∃ f, aqR0 b = .inr (⟨o, h, m, hm, bif xn then nilT else .vec 1 xl .none⟩, f) ∧ c1 = f 1 ∧ c2 = f 2 ∧ c3 = f 3)
theorem aqPost_ok {N : Nat} {b : Bs} {ok : Bool} {s : Int} {d : Bs} {o h m : Int} {hm xn : Bool} {xl : Bs} {c1 c2 c3 : Bool} {K : KX} (hp : AqPar b ok s d o h m hm xn xl c1 c2 c3) (hK : aqR N (saL b) ok s d o h m hm xn xl c1 c2 c3 K) {ex : Exit} {vs : List TV} {T : VT} (hq : aqPost b ex vs T) : K ex (slotsN N aqK vs) T [] := by
  unfold aqR at hK
  rcases hp with ⟨rfl, hr⟩ | ⟨rfl, f, hr, rfl, rfl, rfl⟩
  · rcases hq with ⟨a, f, j, h1, _⟩ | ⟨s', d', dz, rest, tlz, j, h1, h2, rfl, rfl, rfl⟩
    · rw [hr] at h1; cases h1
    · rw [hr] at h1; injection h1 with h1; injection h1 with e1 e2; subst e1 e2
      exact hK j dz rest tlz h2
  · rcases hq with ⟨a, f', j, h1, rfl, rfl, rfl⟩ | ⟨s', d', dz, rest, tlz, j, h1, _⟩
    · rw [hr] at h1; injection h1 with h1; injection h1 with e1 e2; subst e1 e2
      have h3 := hK j (f 0) ((metV f).drop 4)
      unfold aqT
      rw [metV_cons f]
      cases xn <;> exact h3
    · rw [hr] at h1; cases h1
theorem opure_ra {x i : Operand} {l : List (Nat × TV)} {es : Bs} {tok : Tok} {k : IntKind} {z : Int} {cs : List TV} (hx : evOf noGl l x = .vec 3 es tok) (hz : evOf noGl l i = .val (.int k z)) (h0 : 0 ≤ z) (he : es[z.toNat]? = some cs) : OPure Tryz.prog noGl (.indexAddr 199 x i) l (.elt cs) := by
 obtain ⟨inf, i1, i2, i3, i4⟩ := raInf_ex
 exact opure_index (inf := inf) Tryz.underlying199 i1 (by rw [i2]; exact hx) hz h0 he
theorem opure_rb {x i : Operand} {l : List (Nat × TV)} {es : Bs} {tok : Tok} {k : IntKind} {z : Int} {cs : List TV} (hx : evOf noGl l x = .vec 3 es tok) (hz : evOf noGl l i = .val (.int k z)) (h0 : 0 ≤ z) (he : es[z.toNat]? = some cs) : OPure Tryz.prog noGl (.indexAddr 209 x i) l (.elt cs) := by
 obtain ⟨inf, i1, i2, i3, i4⟩ := rbInf_ex
 exact opure_index (inf := inf) Tryz.underlying209 i1 (by rw [i2]; exact hx) hz h0 he
theorem boInf_ex : ∃ inf : TypeInfo, Tryz.prog.info? 4 = some inf ∧ inf.size = 1 := ⟨(Tryz.prog.info? 4).getD default, by kernel_rfl, by kernel_rfl⟩
theorem boUnd_ex : ∃ d : TypeDesc, Tryz.prog.underlying 4 = some d ∧ isAggD d = false := ⟨_, Tryz.underlying4, rfl⟩
theorem opure_met {x i : Operand} {l : List (Nat × TV)} {id : Nat} {k : IntKind} {z : Int} (hx : evOf noGl l x = .ptr id 0) (hz : evOf noGl l i = .val (.int k z)) (h0 : 0 ≤ z) (h1 : z < 256) : OPure Tryz.prog noGl (.indexAddr 202 x i) l (.ptr id z.toNat) := by
 obtain ⟨inf, i1, i2⟩ := boInf_ex
 have h := opure_arr (P := Tryz.prog) (G := noGl) (inf := inf) (t := 202) (x := x) (i := i) (l := l) Tryz.underlying202 i1 hx hz h0 h1
 rwa [i2, Nat.mul_one, Nat.zero_add] at h
theorem oturn_met {T : VT} {a : Operand} {l : List (Nat × TV)} {id off : Nat} {f : Nat → Bool} (ha : evOf noGl l a = .ptr id off) (ho : T.objs[id]? = some (.cells (metV f))) (h1 : off < 256) : OTurn Tryz.prog noGl 0 T (.load 4 a) l (.val (.bool (f off))) T := by
 obtain ⟨inf, i1, i2⟩ := boInf_ex
 obtain ⟨d, d1, d2⟩ := boUnd_ex
 exact oturn_loadC d1 d2 i1 ha ho (metV_at h1)
theorem oturn_meet {T T' : VT} {a : Operand} {l : List (Nat × TV)} {id off : Nat} {f : Nat → Bool} (ha : evOf noGl l a = .ptr id off) (ho : T.objs[id]? = some (.cells (metV f))) (h1 : off < 256) (hT : { T with objs := T.objs.set id (.cells (metV (metU f off))) } = T') : OTurn Tryz.prog noGl 0 T (.store 4 a (.const (.bool true))) l (.val (.tuple #[])) T' := by
 obtain ⟨inf, i1, i2⟩ := boInf_ex
 have h := oturn_storeC (P := Tryz.prog) (G := noGl) (ro := 0) (T := T) (t := 4) (a := a) (x := .const (.bool true)) (l := l) (inf := inf) (id := id) (off := off) (cs := metV f) (new := [.val (.bool true)]) i1 ha rfl ho (by rw [i2]; rfl) (by rw [metV_len]; exact h1) rfl (Nat.zero_le _)
 rw [setCs_one _ _ _ (by rw [metV_len]; exact h1), metV_set, hT] at h
 exact h
abbrev AqS := Nat × (Nat → Bool) × AtS

theorem apSp : SpecsOk Tryz.prog noGl (specs [(tkaF, tkaW), (rabF, rbWs)]) := specs_ok fun p hp => by
 rcases List.mem_cons.1 hp with rfl | hp; exact tkaW_ok tka_vcx
 obtain rfl := List.mem_singleton.1 hp; exact rbWs_ok rab_all
theorem ap_round {b : Bs} (hb : IsB b) {ok : Bool} {s : Int} {d : Bs} {o h m : Int} {hm xn : Bool} {xl : Bs} {c1 c2 c3 : Bool} (hp : AqPar b ok s d o h m hm xn xl c1 c2 c3) (K : KX) (hK : aqR 65 (saL b) ok s d o h m hm xn xl c1 c2 c3 K) : VWx Tryz.prog noGl none 0 (codeAt Tryz.prog apF 0) (slotsN 65 aqK (aqV (saL b) 0)) ⟨[z61, zft, sf0, z61, mt0], []⟩ [] K := by
  have hA := saA_rng hb
  have hAl := saA_len (b := b)
  have hsm := hb.small
  let sl : AqS → List TV := fun s => aqV (saL b) s.1
  let TT : AqS → VT := fun s => aqT s.2.2 s.2.1
  refine loopK (f := apF) (id := 0) (by kernel_rfl) 65 aqK (fun s : AqS => (saA b).length - s.1) sl TT (fun s => s.1 ≤ (saA b).length ∧ s.2.2.Ok ∧ aqGo ((saA b).drop s.1) s.2.1 s.2.2 = aqR0 b) 5 0 (fun _ _ => ⟨Nat.le_refl _, Nat.le_refl _⟩)
    (aqPost b) (fun s hs => ?_) ⟨0, fun _ => false, at0⟩ ⟨Nat.zero_le _, at0_ok, rfl⟩ K (fun ex vs T h => aqPost_ok hp hK h)
  obtain ⟨k, f, a⟩ := s
  obtain ⟨hk, ha, hgo⟩ := hs
  simp only at hk ha hgo
  have hL : (saL b).length = (saA b).length := by simp [saL]
  by_cases hlt : k < (saA b).length
  · obtain ⟨fl, t, v, hat⟩ : ∃ fl t v, (saA b)[k]? = some (fl, t, v) := ⟨_, _, _, List.getElem?_eq_getElem hlt⟩
    obtain ⟨h1, h2, hv, hvl⟩ := hA _ (List.mem_of_getElem? hat)
    simp only at h1 h2 hv hvl
    have htn : t.toNat < 256 := by omega
    have hdrop : (saA b).drop k = (fl, t, v) :: (saA b).drop (k + 1) := by
      rw [List.drop_eq_getElem_cons hlt]
      have := List.getElem?_eq_getElem hlt
      rw [hat] at this; injection this with this; rw [← this]
    rw [hdrop] at hgo
    have hE : (saL b)[((k : Nat) : Int).toNat]? = some (saE (fl, t, v)) := by
      rw [Int.toNat_natCast]; simp [saL, List.getElem?_map, hat]
    refine vx_is mixedB_Tryz bodiesB_Tryz apSp lsOk_none (ev_apA (saL b) k fl t v t.toNat (f t.toNat) (metV f) (metV (metU f t.toNat)) a.o a.h a.m a.hm a.x _) ?_
    refine condT (decide_eq_true (show ((k : Nat) : Int) < ((saL b).length : Nat) by omega)) ⟨opure_ra rfl rfl (by omega) hE, opure_met rfl rfl h2.1 h2.2, oturn_met rfl rfl htn, ?_⟩
    cases hf : f t.toNat
    · refine ⟨opure_met rfl rfl h2.1 h2.2, oturn_meet rfl rfl htn rfl, ⟨rfl, hv, ha.ren⟩, ?_⟩
      rintro s O ⟨hs, hO⟩
      have hgo1 : aqGo ((fl, t, v) :: (saA b).drop (k + 1)) f a = (if tkS fl t v = 0 then aqGo ((saA b).drop (k + 1)) (metU f t.toNat) (a.put t v) else if tkS fl t v = 11 then .inl (11, []) else .inl (tkS fl t v, rbB fl t v)) := by
        simp only [aqGo, hf, cond_false]
      rw [← hs] at hgo1
      refine cond_of (fun e0 => ?_) (fun e0 => ?_)
      · replace e0 : s = 0 := eqIt e0
        have hO2 : O = (a.put t v).vo := by
          have := hO e0
          unfold TkEq at this
          rw [this, tkO_put]
        rw [wrap_id (z := ((k : Nat) : Int) + 1) (by omega) (by omega)]
        refine ⟨rfl, rfl, ⟨k + 1, metU f t.toNat, a.put t v⟩, ⟨hlt, ha.put t v, ?_⟩, by simp only; omega, .inr ⟨?_, ?_⟩⟩
        · simp only; rw [← hgo, hgo1, if_pos e0]
        · show VT.keep _ 5 0 = aqT _ _
          simp only [VT.keep, List.take_succ_cons, List.take_zero, List.map_cons, List.map_nil, hO2, (ha.put t v).vo_ren, metC_ren]
          rfl
        · simp only [renL, TV.ren, saL_ren hb, Tok.ren]
          simp only [sl, aqV]
          rfl
      · replace e0 : ¬ s = 0 := eqIf e0
        rw [if_neg e0] at hgo1
        refine cond_of (fun e1 => ?_) (fun e1 => ?_)
        · replace e1 : s = 11 := eqIt e1
          rw [if_pos e1] at hgo1
          exact ⟨rfl, rfl, .inr ⟨11, [], _, _, _, k, by rw [← hgo, hgo1], .nil, rfl, rfl, by rw [e1]; rfl⟩⟩
        · replace e1 : ¬ s = 11 := eqIf e1
          rw [if_neg e1] at hgo1
          exact ⟨⟨h1, h2, hv, hvl⟩, rfl, rfl, .inr ⟨s, rbB fl t v, _, _, _, k, by rw [← hgo, hgo1], .inr ⟨rfl, rbB_is hv hvl⟩, rfl, rfl, rfl⟩⟩
    · have hgo1 : aqGo ((fl, t, v) :: (saA b).drop (k + 1)) f a = .inl (1, []) := by
        simp only [aqGo, hf, cond_true]
      exact ⟨rfl, rfl, .inr ⟨1, [], _, _, _, k, by rw [← hgo, hgo1], .nil, rfl, rfl, rfl⟩⟩
  · have hk2 : k = (saA b).length := by omega
    refine vx_is mixedB_Tryz bodiesB_Tryz apSp lsOk_none (ev_apA (saL b) k 0 0 [] 0 false (metV f) [] a.o a.h a.m a.hm a.x _) ?_
    rw [hk2, List.drop_length] at hgo
    exact condF (decide_eq_false (show ¬ ((k : Nat) : Int) < ((saL b).length : Nat) by omega)) ⟨rfl, rfl, .inl ⟨a, f, k, hgo.symm, rfl, rfl, rfl⟩⟩
theorem ap_loop {b : Bs} (hb : IsB b) {ok : Bool} {s : Int} {d : Bs} {o h m : Int} {hm xn : Bool} {xl : Bs} {c1 c2 c3 : Bool} (hp : AqPar b ok s d o h m hm xn xl c1 c2 c3) : LsOk Tryz.prog noGl (aqL 65 (saL b) ok s d o h m hm xn xl c1 c2 c3 (codeAt Tryz.prog apF 0)) := specsL_ok fun p hq => by
 obtain rfl := List.mem_singleton.1 hq
 exact loopL_ok fun K hK => ap_round hb hp K hK

theorem q7Sp : SpecsOk Tryz.prog noGl (specs [(q7TF, tkaW), (q7OF, rbWs)]) := specs_ok fun p hp => by
 rcases List.mem_cons.1 hp with rfl | hp; exact tkaW_ok q7T_vcx
 obtain rfl := List.mem_singleton.1 hp; exact rbWs_ok one_all
theorem q7_round {b : Bs} (hb : IsB b) {ok : Bool} {s : Int} {d : Bs} {o h m : Int} {hm xn : Bool} {xl : Bs} {c1 c2 c3 : Bool} (hp : AqPar b ok s d o h m hm xn xl c1 c2 c3) (K : KX) (hK : aqR 68 (saL b) ok s d o h m hm xn xl c1 c2 c3 K) : VWx Tryz.prog noGl none 0 (codeAt Tryz.prog q7F 0) (slotsN 68 aqK (aqV (saL b) 0)) ⟨[z61, zft, sf0, z61, mt0], []⟩ [] K := by
  have hA := saA_rng hb
  have hAl := saA_len (b := b)
  have hsm := hb.small
  let sl : AqS → List TV := fun s => aqV (saL b) s.1
  let TT : AqS → VT := fun s => aqT s.2.2 s.2.1
  refine loopK (f := q7F) (id := 0) (by kernel_rfl) 68 aqK (fun s : AqS => (saA b).length - s.1) sl TT (fun s => s.1 ≤ (saA b).length ∧ s.2.2.Ok ∧ aqGo ((saA b).drop s.1) s.2.1 s.2.2 = aqR0 b) 5 0 (fun _ _ => ⟨Nat.le_refl _, Nat.le_refl _⟩)
    (aqPost b) (fun s hs => ?_) ⟨0, fun _ => false, at0⟩ ⟨Nat.zero_le _, at0_ok, rfl⟩ K (fun ex vs T h => aqPost_ok hp hK h)
  obtain ⟨k, f, a⟩ := s
  obtain ⟨hk, ha, hgo⟩ := hs
  simp only at hk ha hgo
  have hL : (saL b).length = (saA b).length := by simp [saL]
  by_cases hlt : k < (saA b).length
  · obtain ⟨fl, t, v, hat⟩ : ∃ fl t v, (saA b)[k]? = some (fl, t, v) := ⟨_, _, _, List.getElem?_eq_getElem hlt⟩
    obtain ⟨h1, h2, hv, hvl⟩ := hA _ (List.mem_of_getElem? hat)
    simp only at h1 h2 hv hvl
    have htn : t.toNat < 256 := by omega
    have hdrop : (saA b).drop k = (fl, t, v) :: (saA b).drop (k + 1) := by
      rw [List.drop_eq_getElem_cons hlt]
      have := List.getElem?_eq_getElem hlt
      rw [hat] at this; injection this with this; rw [← this]
    rw [hdrop] at hgo
    have hE : (saL b)[((k : Nat) : Int).toNat]? = some (saE (fl, t, v)) := by
      rw [Int.toNat_natCast]; simp [saL, List.getElem?_map, hat]
    refine vx_is mixedB_Tryz bodiesB_Tryz q7Sp lsOk_none (ev_q7A (saL b) k fl t v t.toNat (f t.toNat) (metV f) (metV (metU f t.toNat)) a.o a.h a.m a.hm a.x _) ?_
    refine condT (decide_eq_true (show ((k : Nat) : Int) < ((saL b).length : Nat) by omega)) ⟨opure_rb rfl rfl (by omega) hE, opure_met rfl rfl h2.1 h2.2, oturn_met rfl rfl htn, ?_⟩
    cases hf : f t.toNat
    · refine ⟨opure_met rfl rfl h2.1 h2.2, oturn_meet rfl rfl htn rfl, ⟨rfl, hv, ha.ren⟩, ?_⟩
      rintro s O ⟨hs, hO⟩
      have hgo1 : aqGo ((fl, t, v) :: (saA b).drop (k + 1)) f a = (if tkS fl t v = 0 then aqGo ((saA b).drop (k + 1)) (metU f t.toNat) (a.put t v) else if tkS fl t v = 11 then .inl (11, []) else .inl (tkS fl t v, rbB fl t v)) := by
        simp only [aqGo, hf, cond_false]
      rw [← hs] at hgo1
      refine cond_of (fun e0 => ?_) (fun e0 => ?_)
      · replace e0 : s = 0 := eqIt e0
        have hO2 : O = (a.put t v).vo := by
          have := hO e0
          unfold TkEq at this
          rw [this, tkO_put]
        rw [wrap_id (z := ((k : Nat) : Int) + 1) (by omega) (by omega)]
        refine ⟨rfl, rfl, ⟨k + 1, metU f t.toNat, a.put t v⟩, ⟨hlt, ha.put t v, ?_⟩, by simp only; omega, .inr ⟨?_, ?_⟩⟩
        · simp only; rw [← hgo, hgo1, if_pos e0]
        · show VT.keep _ 5 0 = aqT _ _
          simp only [VT.keep, List.take_succ_cons, List.take_zero, List.map_cons, List.map_nil, hO2, (ha.put t v).vo_ren, metC_ren]
          rfl
        · simp only [renL, TV.ren, saL_ren hb, Tok.ren]
          simp only [sl, aqV]
          rfl
      · replace e0 : ¬ s = 0 := eqIf e0
        rw [if_neg e0] at hgo1
        refine cond_of (fun e1 => ?_) (fun e1 => ?_)
        · replace e1 : s = 11 := eqIt e1
          rw [if_pos e1] at hgo1
          exact ⟨rfl, rfl, .inr ⟨11, [], _, _, _, k, by rw [← hgo, hgo1], .nil, rfl, rfl, by rw [e1]; rfl⟩⟩
        · replace e1 : ¬ s = 11 := eqIf e1
          rw [if_neg e1] at hgo1
          exact ⟨⟨h1, h2, hv, hvl⟩, rfl, rfl, .inr ⟨s, rbB fl t v, _, _, _, k, by rw [← hgo, hgo1], .inr ⟨rfl, rbB_is hv hvl⟩, rfl, rfl, rfl⟩⟩
    · have hgo1 : aqGo ((fl, t, v) :: (saA b).drop (k + 1)) f a = .inl (1, []) := by
        simp only [aqGo, hf, cond_true]
      exact ⟨rfl, rfl, .inr ⟨1, [], _, _, _, k, by rw [← hgo, hgo1], .nil, rfl, rfl, rfl⟩⟩
  · have hk2 : k = (saA b).length := by omega
    refine vx_is mixedB_Tryz bodiesB_Tryz q7Sp lsOk_none (ev_q7A (saL b) k 0 0 [] 0 false (metV f) [] a.o a.h a.m a.hm a.x _) ?_
    rw [hk2, List.drop_length] at hgo
    exact condF (decide_eq_false (show ¬ ((k : Nat) : Int) < ((saL b).length : Nat) by omega)) ⟨rfl, rfl, .inl ⟨a, f, k, hgo.symm, rfl, rfl, rfl⟩⟩
theorem q7_loop {b : Bs} (hb : IsB b) {ok : Bool} {s : Int} {d : Bs} {o h m : Int} {hm xn : Bool} {xl : Bs} {c1 c2 c3 : Bool} (hp : AqPar b ok s d o h m hm xn xl c1 c2 c3) : LsOk Tryz.prog noGl (aqL 68 (saL b) ok s d o h m hm xn xl c1 c2 c3 (codeAt Tryz.prog q7F 0)) := specsL_ok fun p hq => by
 obtain rfl := List.mem_singleton.1 hq
 exact loopL_ok fun K hK => q7_round hb hp K hK

theorem aq_fail {b : Bs} {s : Int} {d : Bs} (h : aqP b = .inl (s, d)) {dz : TV} (hd : TVle dz (.vec 1 d .none)) : TVle (.tup [.agg [.val (.int .i64 0), nilT, .val (.int .u32 0), .val (.int .i64 0), .val (.bool false)], .agg [.val (.int .i64 3), .val (.int .i64 s), dz]]) (aqX b) := by
 unfold aqX
 rw [h]
 exact .tup ⟨.agg ⟨.refl _, .nil 1, .refl _, .refl _, .refl _, trivial⟩, .agg ⟨.refl _, .refl _, hd, trivial⟩, trivial⟩
theorem aq_good {b : Bs} {a : AtS} (h : aqP b = .inr a) (ha : a.Ok) : TVle (.tup [a.tv, .agg [.val (.int .i64 0), .val (.int .i64 0), nilT]]) (aqX b) := by
 unfold aqX
 rw [h]
 exact .tup ⟨ha.fix_le, .agg ⟨.refl _, .refl _, .nil 1, trivial⟩, trivial⟩
theorem aqX_ren (b : Bs) (f g : Nat → Option Nat) (hb : IsB b) : (aqX b).ren f g = aqX b := by
 have hd : ∀ s d, aqP b = .inl (s, d) → renLL f g d = d := by
  intro s d h
  unfold aqP at h
  cases ho : saO b <;> rw [ho] at h
  ·injection h with h; injection h with h1 h2; rw [← h2]; rfl
  ·simp only [cond_true] at h
   have key : ∀ (l : List Rw3) (f' : Nat → Bool) (a : AtS), AllR l → ∀ s d, aqGo l f' a = .inl (s, d) → renLL f g d = d := by
    intro l
    induction l with
    | nil => intro f' a _ s d e; cases e
    | cons p l ih =>
     obtain ⟨fl, t, v⟩ := p
     intro f' a hl s d e
     unfold aqGo at e
     obtain ⟨_, _, hv, hvl⟩ := hl _ List.mem_cons_self
     cases hf : f' t.toNat <;> rw [hf] at e
     ·simp only [cond_false] at e
      split at e
      ·exact ih _ _ (fun p hp => hl p (List.mem_cons_of_mem _ hp)) s d e
      ·split at e
       ·injection e with e; injection e with e1 e2; rw [← e2]; rfl
       ·injection e with e; injection e with e1 e2; rw [← e2]; exact (rbB_is hv hvl).ren f g
     ·injection e with e; injection e with e1 e2; rw [← e2]; rfl
   split at h
   ·rename_i e he
    injection h with h; subst h
    exact key _ _ _ (saA_rng hb) s d he
   ·rename_i a f' he
    unfold aqMet at h
    cases g1 : f' 1 <;> cases g2 : f' 2 <;> cases g3 : f' 3 <;> simp only [g1, g2, g3, cond_true, cond_false] at h <;> first | (cases h; done) | (injection h with h; injection h with e1 e2; rw [← e2]; rfl)
 have ha : ∀ a, aqP b = .inr a → a.Ok := by
  intro a h
  unfold aqP at h
  cases ho : saO b <;> rw [ho] at h
  ·cases h
  ·simp only [cond_true] at h
   split at h
   ·cases h
   ·rename_i a' f' he
    have := aqGo_ok _ _ _ at0_ok _ _ he
    unfold aqMet at h
    cases g1 : f' 1 <;> cases g2 : f' 2 <;> cases g3 : f' 3 <;> simp only [g1, g2, g3, cond_true, cond_false] at h <;> first | (cases h; done) | (injection h with h; exact h ▸ this)
 unfold aqX
 split
 ·rename_i s d h
  simp only [TV.ren, renL, ftT, hd s d h, at0_ok.fix_ren, Tok.ren]
 ·rename_i a h
  simp only [TV.ren, renL, ftT, (ha a h).fix_ren, Tok.ren, renLL]

theorem ap_vcx {b : Bs} (hb : IsB b) : VCx Tryz.prog noGl 0 apF [.vec 1 b .none] ⟨[], []⟩ fun x T' => x = aqX b ∧ T' = ⟨[], []⟩ := by
  have hS : SpecsOk Tryz.prog noGl (specs [(spF, spWs)]) := specs_ok fun p hp => by obtain rfl := List.mem_singleton.1 hp; exact spWs_ok sp_vcx
  refine VCx.toLe (Q := fun T' => T' = ⟨[], []⟩) (VCx.keepQ 0 0 (Nat.le_refl _) (Nat.le_refl _) ?_)
  cases hR : aqR0 b with
  | inl e =>
    obtain ⟨s, d⟩ := e
    have hp : AqPar b false s d 0 0 0 false false [] false false false := .inl ⟨rfl, hR⟩
    refine vcallF_is mixedB_Tryz bodiesB_Tryz hS (ap_loop hb hp) (ev_ap b false s d 0 0 0 false false [] false false false _) ?_
    refine ⟨hb, cond_of (fun ho => ⟨rfl, ⟨rfl, rfl, rfl, trivial, rfl, rfl, rfl⟩, fun j dz rest tlz hd => ⟨?_, rfl⟩⟩) (fun ho => ⟨?_, rfl⟩)⟩
    · have h1 : aqP b = .inl (s, d) := by
        unfold aqP; rw [ho]
        simp only [cond_true]
        rw [show aqGo (saA b) (fun _ => false) at0 = .inl (s, d) from hR]
      exact aq_fail h1 (hd.le _ _)
    · have h1 : aqP b = .inl (1, []) := by unfold aqP; rw [ho]; rfl
      exact aq_fail h1 (.refl _)
  | inr e =>
    obtain ⟨a, f⟩ := e
    have ha := aqGo_ok _ _ _ at0_ok _ _ hR
    obtain ⟨xn, xl, hx, hl⟩ : ∃ (xn : Bool) (xl : Bs), a.x = (bif xn then nilT else .vec 1 xl .none) ∧ ∀ f g, renLL f g xl = xl := by
      rcases ha with h | ⟨l, h⟩
      · exact ⟨true, [], h, fun _ _ => rfl⟩
      · exact ⟨false, iV l, h, fun f g => iV_ren f g l⟩
    obtain ⟨o, h, m, hm, x⟩ := a
    simp only at hx
    subst hx
    have hp : AqPar b true 0 [] o h m hm xn xl (f 1) (f 2) (f 3) := .inr ⟨rfl, f, hR, rfl, rfl, rfl⟩
    have hgo : saO b = true → aqP b = aqMet ⟨o, h, m, hm, bif xn then nilT else .vec 1 xl .none⟩ f := fun ho => by
      unfold aqP; rw [ho]
      simp only [cond_true]
      rw [show aqGo (saA b) (fun _ => false) at0 = .inr (⟨o, h, m, hm, bif xn then nilT else .vec 1 xl .none⟩, f) from hR]
    refine vcallF_is mixedB_Tryz bodiesB_Tryz hS (ap_loop hb hp) (ev_ap b true 0 [] o h m hm xn xl (f 1) (f 2) (f 3) _) ?_
    refine ⟨hb, cond_of (fun ho => ⟨rfl, ⟨rfl, rfl, rfl, trivial, rfl, rfl, rfl⟩, fun j c0 rm => ?_⟩) (fun ho => ⟨?_, rfl⟩)⟩
    · have h2 := hgo ho
      unfold aqMet at h2
      cases e1 : f 1
      · rw [e1] at h2
        cases xn <;> exact ⟨aq_fail h2 (TVle.vec 1 _ _), rfl⟩
      · cases e2 : f 2
        · rw [e1, e2] at h2
          cases xn <;> exact ⟨aq_fail h2 (TVle.vec 1 _ _), rfl⟩
        · cases e3 : f 3
          · rw [e1, e2, e3] at h2
            cases xn <;> exact ⟨aq_fail h2 (TVle.vec 1 _ _), rfl⟩
          · rw [e1, e2, e3] at h2
            have h3 := aq_good h2 ha
            cases xn
            · refine ⟨?_, rfl⟩
              simp only [TV.ren, renL, hl, Tok.ren]
              exact h3
            · exact ⟨h3, rfl⟩
    · have h1 : aqP b = .inl (1, []) := by unfold aqP; rw [ho]; rfl
      exact aq_fail h1 (.refl _)

theorem q7_vcx {b : Bs} (hb : IsB b) : VCx Tryz.prog noGl 0 q7F [.vec 1 b .none] ⟨[], []⟩ fun x T' => x = aqX b ∧ T' = ⟨[], []⟩ := by
  have hS : SpecsOk Tryz.prog noGl (specs [(q7SF, spWs)]) := specs_ok fun p hp => by obtain rfl := List.mem_singleton.1 hp; exact spWs_ok q7S_vcx
  refine VCx.toLe (Q := fun T' => T' = ⟨[], []⟩) (VCx.keepQ 0 0 (Nat.le_refl _) (Nat.le_refl _) ?_)
  cases hR : aqR0 b with
  | inl e =>
    obtain ⟨s, d⟩ := e
    have hp : AqPar b false s d 0 0 0 false false [] false false false := .inl ⟨rfl, hR⟩
    refine vcallF_is mixedB_Tryz bodiesB_Tryz hS (q7_loop hb hp) (ev_q7 b false s d 0 0 0 false false [] false false false _) ?_
    refine ⟨hb, cond_of (fun ho => ⟨rfl, ⟨rfl, rfl, rfl, trivial, rfl, rfl, rfl⟩, fun j dz rest tlz hd => ⟨?_, rfl⟩⟩) (fun ho => ⟨?_, rfl⟩)⟩
    · have h1 : aqP b = .inl (s, d) := by
        unfold aqP; rw [ho]
        simp only [cond_true]
        rw [show aqGo (saA b) (fun _ => false) at0 = .inl (s, d) from hR]
      exact aq_fail h1 (hd.le _ _)
    · have h1 : aqP b = .inl (1, []) := by unfold aqP; rw [ho]; rfl
      exact aq_fail h1 (.refl _)
  | inr e =>
    obtain ⟨a, f⟩ := e
    have ha := aqGo_ok _ _ _ at0_ok _ _ hR
    obtain ⟨xn, xl, hx, hl⟩ : ∃ (xn : Bool) (xl : Bs), a.x = (bif xn then nilT else .vec 1 xl .none) ∧ ∀ f g, renLL f g xl = xl := by
      rcases ha with h | ⟨l, h⟩
      · exact ⟨true, [], h, fun _ _ => rfl⟩
      · exact ⟨false, iV l, h, fun f g => iV_ren f g l⟩
    obtain ⟨o, h, m, hm, x⟩ := a
    simp only at hx
    subst hx
    have hp : AqPar b true 0 [] o h m hm xn xl (f 1) (f 2) (f 3) := .inr ⟨rfl, f, hR, rfl, rfl, rfl⟩
    have hgo : saO b = true → aqP b = aqMet ⟨o, h, m, hm, bif xn then nilT else .vec 1 xl .none⟩ f := fun ho => by
      unfold aqP; rw [ho]
      simp only [cond_true]
      rw [show aqGo (saA b) (fun _ => false) at0 = .inr (⟨o, h, m, hm, bif xn then nilT else .vec 1 xl .none⟩, f) from hR]
    refine vcallF_is mixedB_Tryz bodiesB_Tryz hS (q7_loop hb hp) (ev_q7 b true 0 [] o h m hm xn xl (f 1) (f 2) (f 3) _) ?_
    refine ⟨hb, cond_of (fun ho => ⟨rfl, ⟨rfl, rfl, rfl, trivial, rfl, rfl, rfl⟩, fun j c0 rm => ?_⟩) (fun ho => ⟨?_, rfl⟩)⟩
    · have h2 := hgo ho
      unfold aqMet at h2
      cases e1 : f 1
      · rw [e1] at h2
        cases xn <;> exact ⟨aq_fail h2 (TVle.vec 1 _ _), rfl⟩
      · cases e2 : f 2
        · rw [e1, e2] at h2
          cases xn <;> exact ⟨aq_fail h2 (TVle.vec 1 _ _), rfl⟩
        · cases e3 : f 3
          · rw [e1, e2, e3] at h2
            cases xn <;> exact ⟨aq_fail h2 (TVle.vec 1 _ _), rfl⟩
          · rw [e1, e2, e3] at h2
            have h3 := aq_good h2 ha
            cases xn
            · refine ⟨?_, rfl⟩
              simp only [TV.ren, renL, hl, Tok.ren]
              exact h3
            · exact ⟨h3, rfl⟩
    · have h1 : aqP b = .inl (1, []) := by unfold aqP; rw [ho]; rfl
      exact aq_fail h1 (.refl _)
end Go.Proofs.YtogbdjlelkepcaaGreatDoor
namespace Go.Proofs.YtogbdjlelkepcaaGreatDoor
open Go.RowKit

def paOk (b : Bs) : Bool := match aqP b with
 | .inr _ => true
 | .inl _ => false
def paSb (b : Bs) : Int := match aqP b with
 | .inr _ => 0
 | .inl e => e.1
def paDt (b : Bs) : Bs := match aqP b with
 | .inr _ => []
 | .inl e => e.2
def paAt (b : Bs) : AtS := match aqP b with
 | .inr a => a.fix
 | .inl _ => at0.fix
def paOr (b : Bs) : Int := (paAt b).o
def paHp (b : Bs) : Int := (paAt b).h
def paMd (b : Bs) : Int := (paAt b).m
def paHm (b : Bs) : Bool := (paAt b).hm
def paPt (b : Bs) : Bs := match (paAt b).x with
 | .vec _ l _ => l
 | _ => []
theorem fix_x (a : AtS) : ∃ l, a.fix.x = .vec 1 l .none := by
 unfold AtS.fix
 simp only
 split
 ·exact ⟨_, rfl⟩
 ·exact ⟨_, rfl⟩
theorem paAt_x (b : Bs) : (paAt b).x = .vec 1 (paPt b) .none := by
 obtain ⟨l, hl⟩ : ∃ l, (paAt b).x = .vec 1 l .none := by
  unfold paAt
  split <;> exact fix_x _
 rw [hl]; unfold paPt; rw [hl]
def paTv (b : Bs) : TV := .agg [.val (.int .i64 (paOr b)), .vec 1 (paPt b) .none, .val (.int .u32 (paHp b)), .val (.int .i64 (paMd b)), .val (.bool (paHm b))]
theorem paTv_at (b : Bs) : (paAt b).tv = paTv b := by
 unfold AtS.tv paTv
 rw [paAt_x]; rfl
theorem aqX_ok {b : Bs} (h : paOk b = true) : aqX b = .tup [paTv b, ftT 0 0 []] := by
 rw [← paTv_at]
 unfold aqX paAt
 unfold paOk at h
 cases e : aqP b with
 | inl x => rw [e] at h; cases h
 | inr a => rfl
theorem aqX_no {b : Bs} (h : paOk b = false) : aqX b = .tup [at0.fix.tv, ftT 3 (paSb b) (paDt b)] := by
 unfold aqX paSb paDt
 unfold paOk at h
 cases e : aqP b with
 | inl x => rfl
 | inr a => rw [e] at h; cases h
theorem paTv_ren {b : Bs} (hb : IsB b) (f g : Nat → Option Nat) : (paTv b).ren f g = paTv b := by
 cases h : paOk b
 ·rw [← paTv_at]
  unfold paAt
  unfold paOk at h
  cases e : aqP b with
  | inl x => exact at0_ok.fix_ren f g
  | inr a => rw [e] at h; cases h
 ·have h1 := aqX_ren b f g hb
  rw [aqX_ok h] at h1
  simp only [TV.ren, renL] at h1
  injection h1 with h1; injection h1 with h1
theorem paPt_ren {b : Bs} (hb : IsB b) (f g : Nat → Option Nat) : renLL f g (paPt b) = paPt b := by
 have h := paTv_ren hb f g
 simp only [paTv, TV.ren, renL] at h
 injection h with h; injection h with _ h; injection h with h; injection h with _ h
theorem paDt_ren {b : Bs} (hb : IsB b) (f g : Nat → Option Nat) : renLL f g (paDt b) = paDt b := by
 cases h : paOk b
 ·have h1 := aqX_ren b f g hb
  rw [aqX_no h] at h1
  simp only [TV.ren, renL, ftT] at h1
  injection h1 with h1; injection h1 with _ h1; injection h1 with h1; injection h1 with h1; injection h1 with _ h1; injection h1 with _ h1; injection h1 with h1; injection h1 with _ h1
 ·unfold paDt
  unfold paOk at h
  cases e : aqP b with
  | inl x => rw [e] at h; cases h
  | inr a => rfl
structure UpS where
 w : Bs
 o : Int
 x : Bs
 h : Int
 m : Int
 hm : Bool
 n : Bs
def UpS.cells (u : UpS) : List TV := [.vec 2 u.w .none, .val (.int .i64 u.o), .vec 1 u.x .none, .val (.int .u32 u.h), .val (.int .i64 u.m), .val (.bool u.hm), .vec 2 u.n .none]
def UpS.tv (u : UpS) : TV := .agg u.cells
def up0 : UpS := ⟨[], 0, [], 0, 0, false, []⟩
def upR2 (b : Bs) : Bs := tkR (nmB 2 b 0) (tkR (2 : Nat) b 0) (tkE (2 : Nat) b 0)
def upE2 (b : Bs) : Int := tkE (nmB 2 b 0) (tkR (2 : Nat) b 0) (tkE (2 : Nat) b 0)
def upG (b : Bs) : Bs := tkB (nmB 2 b 0) (tkR (2 : Nat) b 0) (tkE (2 : Nat) b 0)
def upA (b : Bs) : Bs := tkB (nmB 2 (upR2 b) (upE2 b)) (tkR (2 : Nat) (upR2 b) (upE2 b)) (tkE (2 : Nat) (upR2 b) (upE2 b))
def upR4 (b : Bs) : Bs := tkR (nmB 2 (upR2 b) (upE2 b)) (tkR (2 : Nat) (upR2 b) (upE2 b)) (tkE (2 : Nat) (upR2 b) (upE2 b))
def upE4 (b : Bs) : Int := tkE (nmB 2 (upR2 b) (upE2 b)) (tkR (2 : Nat) (upR2 b) (upE2 b)) (tkE (2 : Nat) (upR2 b) (upE2 b))
def upN (b : Bs) : Bs := tkB (leB (upR4 b) (upE4 b)) (upR4 b) (upE4 b)
def upE (b : Bs) : Int := tkE (leB (upR4 b) (upE4 b)) (upR4 b) (upE4 b)
theorem upR2_is {b : Bs} (h : IsB b) : IsB (upR2 b) := tkR_is (tkR_is h)
theorem upG_is {b : Bs} (h : IsB b) : IsB (upG b) := tkB_is (tkR_is h)
theorem upA_is {b : Bs} (h : IsB b) : IsB (upA b) := tkB_is (tkR_is (upR2_is h))
theorem upN_is {b : Bs} (h : IsB b) : IsB (upN b) := tkB_is (tkR_is (tkR_is (upR2_is h)))
def upP (b : Bs) : (Int × Bs) ⊕ UpS :=
 if ¬ upE b = 0 then .inl (1, []) else
 bif pfO (upG b) then bif pfO (upN b) then
  (if (upA b).length = 0 ∧ (pfL (upN b)).length = 0 then .inr { up0 with w := pfL (upG b), n := pfL (upN b) }
  else bif paOk (upA b) then (if 0 < (pfL (upN b)).length then .inr ⟨pfL (upG b), paOr (upA b), paPt (upA b), paHp (upA b), paMd (upA b), paHm (upA b), pfL (upN b)⟩ else .inr { up0 with w := pfL (upG b), n := pfL (upN b) })
  else if 0 < (pfL (upN b)).length then .inl (paSb (upA b), paDt (upA b)) else if paSb (upA b) = 3 then .inr { up0 with w := pfL (upG b), n := pfL (upN b) } else .inl (paSb (upA b), paDt (upA b)))
 else .inl (10, []) else .inl (10, [])
def upV (p : (Int × Bs) ⊕ UpS) : TV := match p with
 | .inl (s, d) => .tup [up0.tv, ftT 3 s d]
 | .inr u => .tup [u.tv, ftT 0 0 []]
def upX (b : Bs) : TV := upV (upP b)
def UpOk (u : UpS) : Prop := ∀ f g, u.tv.ren f g = u.tv
theorem upP_ok {b : Bs} (hb : IsB b) {u : UpS} (h : upP b = .inr u) : UpOk u := by
 have e1 : UpOk { up0 with w := pfL (upG b), n := pfL (upN b) } := fun f g => by simp only [UpS.tv, UpS.cells, up0, TV.ren, renL, pfL_ren, Tok.ren, renLL]
 have e2 : UpOk ⟨pfL (upG b), paOr (upA b), paPt (upA b), paHp (upA b), paMd (upA b), paHm (upA b), pfL (upN b)⟩ := fun f g => by simp only [UpS.tv, UpS.cells, TV.ren, renL, pfL_ren, paPt_ren (upA_is hb), Tok.ren]
 unfold upP at h
 split at h
 ·cases h
 cases g1 : pfO (upG b) <;> simp only [g1, cond_true, cond_false] at h
 ·cases h
 cases g2 : pfO (upN b) <;> simp only [g2, cond_true, cond_false] at h
 ·cases h
 split at h
 ·injection h with h; exact h ▸ e1
 cases g3 : paOk (upA b) <;> simp only [g3, cond_true, cond_false] at h
 ·split at h
  ·cases h
  split at h
  ·injection h with h; exact h ▸ e1
  ·cases h
 ·split at h
  ·injection h with h; exact h ▸ e2
  ·injection h with h; exact h ▸ e1
theorem upP_dt {b : Bs} (hb : IsB b) {s : Int} {d : Bs} (h : upP b = .inl (s, d)) (f g : Nat → Option Nat) : renLL f g d = d := by
 have hd := paDt_ren (upA_is hb) f g
 unfold upP at h
 split at h
 ·injection h with h; injection h with _ h; rw [← h]; rfl
 cases g1 : pfO (upG b) <;> simp only [g1, cond_true, cond_false] at h
 ·injection h with h; injection h with _ h; rw [← h]; rfl
 cases g2 : pfO (upN b) <;> simp only [g2, cond_true, cond_false] at h
 ·injection h with h; injection h with _ h; rw [← h]; rfl
 split at h
 ·cases h
 cases g3 : paOk (upA b) <;> simp only [g3, cond_true, cond_false] at h
 ·split at h
  ·injection h with h; injection h with _ h; rw [← h]; exact hd
  split at h
  ·cases h
  ·injection h with h; injection h with _ h; rw [← h]; exact hd
 ·split at h <;> cases h
theorem upX_ren {b : Bs} (hb : IsB b) (f g : Nat → Option Nat) : (upX b).ren f g = upX b := by
 unfold upX upV
 split
 ·rename_i s d h
  have := upP_dt hb h f g
  simp only [TV.ren, renL, ftT, UpS.tv, UpS.cells, up0, renLL, this, Tok.ren]
 ·rename_i u h
  have := upP_ok hb h f g
  simp only [TV.ren, renL, ftT, this, renLL, Tok.ren]
end Go.Proofs.YtogbdjlelkepcaaGreatDoor
namespace Go.Proofs.YtogbdjlelkepcaaGreatDoor
open Go.RowKit

abbrev upF := 48
abbrev q9F := 51
def pfWb : Spec := fun _ ys T K => match ys with
 | [.vec 1 b _] => IsB b ∧ bif pfO b then K (.tup [.vec 2 (pfL b) .none, .val (.bool true)]) T else K (.tup [.vec 2 (pfL b) .none, .val (.bool false)]) T
 | _ => vbad 83 default ys
def apW : Spec := fun _ ys T K => match ys with
 | [.vec 1 b _] => IsB b ∧ bif paOk b then K (.tup [.agg [.val (.int .i64 (paOr b)), .vec 1 (paPt b) .none, .val (.int .u32 (paHp b)), .val (.int .i64 (paMd b)), .val (.bool (paHm b))], .agg [.val (.int .i64 0), .val (.int .i64 0), .vec 1 [] .none]]) T
  else K (.tup [.agg [.val (.int .i64 0), .vec 1 [] .none, .val (.int .u32 0), .val (.int .i64 0), .val (.bool false)], .agg [.val (.int .i64 3), .val (.int .i64 (paSb b)), .vec 1 (paDt b) .none]]) T
 | _ => vbad 83 default ys
abbrev zzy46 (v : Bs) (v_17 : Bs) (v_22 : Bs) : VO := (zz93 (pfL v) (paOr v_17) (paPt v_17) (paHp v_17) (paMd v_17) (paHm v_17) (pfL v_22))
abbrev zzy47 (v_17 : Bs) : VO := (zz34 (paOr v_17) (paPt v_17) (paHp v_17) (paMd v_17) (paHm v_17))
abbrev zzy48 (v_17 : Bs) : VO := (zz112 (paSb v_17) (paDt v_17))
abbrev zzy49 (v : Bs) (v_17 : Bs) (v_22 : Bs) : TV := (zz94 (pfL v) (paOr v_17) (paPt v_17) (paHp v_17) (paMd v_17) (paHm v_17) (pfL v_22))
theorem ev_up (b : Bs) (Q : TV → VT → Prop) : vcallF Tryz.prog noGl (specs [(wRdF, sreadW), (wU16F, snU .i64 2), (wByF, sbU), (wReF, srestU), (wErF, seW), (pPaF, pfWb), (apF, apW)]) (tellS [(999999, .dead, none)]) 300 noLp 0 upF [.vec 1 b .none] zz211 Q =
 (IsB (b) ∧
 (((@Eq (Bool) true true) ∧
 IsB (b)) ∧
 (∀ z : Int, (∀ bz : Bs, (∀ az : Int, (∀ ez : Int, (((@Eq (Int) (z) (nmB (2 : Nat) b (0 : Int))) ∧
 ((@Eq (Bs) (bz) (tkR (↑(2 : Nat) : Int) b (0 : Int))) ∧
 (@Eq (Int) (ez) (tkE (↑(2 : Nat) : Int) b (0 : Int))))) → (((@Eq (Bool) true true) ∧
 IsB (bz)) ∧
 (∀ v : Bs, (∀ bz_8 : Bs, (∀ az_9 : Int, (∀ ez_10 : Int, (((@Eq (Bs) (v) (tkB z bz ez)) ∧
 ((@Eq (Bs) (bz_8) (tkR z bz ez)) ∧
 (@Eq (Int) (ez_10) (tkE z bz ez)))) → (((@Eq (Bool) true true) ∧
 IsB (bz_8)) ∧
 (∀ z_12 : Int, (∀ bz_13 : Bs, (∀ az_14 : Int, (∀ ez_15 : Int, (((@Eq (Int) (z_12) (nmB (2 : Nat) bz_8 ez_10)) ∧
 ((@Eq (Bs) (bz_13) (tkR (↑(2 : Nat) : Int) bz_8 ez_10)) ∧
 (@Eq (Int) (ez_15) (tkE (↑(2 : Nat) : Int) bz_8 ez_10)))) → (((@Eq (Bool) true true) ∧
 IsB (bz_13)) ∧
 (∀ v_17 : Bs, (∀ bz_18 : Bs, (∀ az_19 : Int, (∀ ez_20 : Int, (((@Eq (Bs) (v_17) (tkB z_12 bz_13 ez_15)) ∧
 ((@Eq (Bs) (bz_18) (tkR z_12 bz_13 ez_15)) ∧
 (@Eq (Int) (ez_20) (tkE z_12 bz_13 ez_15)))) → (((@Eq (Bool) true true) ∧
 IsB (bz_18)) ∧
 (∀ v_22 : Bs, (∀ bz_23 : Bs, (∀ az_24 : Int, (∀ ez_25 : Int, (((@Eq (Bs) (v_22) (tkB (leB bz_18 ez_20) bz_18 ez_20)) ∧
 ((@Eq (Bs) (bz_23) (tkR (leB bz_18 ez_20) bz_18 ez_20)) ∧
 (@Eq (Int) (ez_25) (tkE (leB bz_18 ez_20) bz_18 ez_20)))) → (((@Eq (Bool) true true) ∧
 IsB (bz_23)) ∧
 (bif eqRes BinOp.neq (k6 ez_25 (0 : Int))
 then Q zz103 ⟨[zz101, zz158, (.cells [zz133, (zz2 bz_23), (zz1 az_24), (zz1 ez_25)]), zz100, zz101, zz158], []⟩
 else (IsB (v) ∧
 (bif pfO v
 then (IsB (v_22) ∧
 (bif pfO v_22
 then (bif eqRes BinOp.eql (k6 (↑(List.length v_17) : Int) (0 : Int))
 then (bif eqRes BinOp.eql (k6 (↑(List.length (pfL v_22)) : Int) (0 : Int))
 then Q (zz99 (pfL v) (pfL v_22)) ⟨[(zz98 (pfL v) (pfL v_22)), zz62, (.cells [zz133, (zz2 bz_23), (zz1 az_24), (zz1 ez_25)]), zz100, (zz98 (pfL v) (pfL v_22)), (zz97 v), (zz95 v_22)], []⟩
 else (IsB (v_17) ∧
 (bif paOk v_17
 then (bif decide ((↑(List.length (pfL v_22)) : Int) > (0 : Int))
 then (bif decide ((↑(List.length (pfL v_22)) : Int) > (0 : Int))
 then Q (zzy49 v v_17 v_22) ⟨[(zzy46 v v_17 v_22), zz62, (.cells [zz133, (zz2 bz_23), (zz1 az_24), (zz1 ez_25)]), zz100, (zzy46 v v_17 v_22), (zz97 v), (zz95 v_22), (zzy47 v_17), zz6], []⟩
 else Q (zz99 (pfL v) (pfL v_22)) ⟨[(zz98 (pfL v) (pfL v_22)), zz62, (.cells [zz133, (zz2 bz_23), (zz1 az_24), (zz1 ez_25)]), zz100, (zz98 (pfL v) (pfL v_22)), (zz97 v), (zz95 v_22), (zzy47 v_17), zz6], []⟩)
 else (bif decide ((↑(List.length (pfL v_22)) : Int) > (0 : Int))
 then Q (zzy49 v v_17 v_22) ⟨[(zzy46 v v_17 v_22), zz62, (.cells [zz133, (zz2 bz_23), (zz1 az_24), (zz1 ez_25)]), zz100, (zzy46 v v_17 v_22), (zz97 v), (zz95 v_22), (zzy47 v_17), zz6], []⟩
 else Q (zz99 (pfL v) (pfL v_22)) ⟨[(zz98 (pfL v) (pfL v_22)), zz62, (.cells [zz133, (zz2 bz_23), (zz1 az_24), (zz1 ez_25)]), zz100, (zz98 (pfL v) (pfL v_22)), (zz97 v), (zz95 v_22), (zzy47 v_17), zz6], []⟩))
 else (bif decide ((↑(List.length (pfL v_22)) : Int) > (0 : Int))
 then Q (zz92 (paSb v_17) (paDt v_17)) ⟨[zz101, (zzy48 v_17), (.cells [zz133, (zz2 bz_23), (zz1 az_24), (zz1 ez_25)]), zz100, (zz98 (pfL v) (pfL v_22)), (zz97 v), (zz95 v_22), zz91, (zzy48 v_17)], []⟩
 else (bif eqRes BinOp.neq (k6 (paSb v_17) (3 : Int))
 then Q (zz92 (paSb v_17) (paDt v_17)) ⟨[zz101, (zzy48 v_17), (.cells [zz133, (zz2 bz_23), (zz1 az_24), (zz1 ez_25)]), zz100, (zz98 (pfL v) (pfL v_22)), (zz97 v), (zz95 v_22), zz91, (zzy48 v_17)], []⟩
 else (bif decide ((↑(List.length (pfL v_22)) : Int) > (0 : Int))
 then Q (zz90 (pfL v) (pfL v_22)) ⟨[(zz89 (pfL v) (pfL v_22)), zz62, (.cells [zz133, (zz2 bz_23), (zz1 az_24), (zz1 ez_25)]), zz100, (zz89 (pfL v) (pfL v_22)), (zz97 v), (zz95 v_22), zz91, (zzy48 v_17)], []⟩
 else Q (zz99 (pfL v) (pfL v_22)) ⟨[(zz98 (pfL v) (pfL v_22)), zz62, (.cells [zz133, (zz2 bz_23), (zz1 az_24), (zz1 ez_25)]), zz100, (zz98 (pfL v) (pfL v_22)), (zz97 v), (zz95 v_22), zz91, (zzy48 v_17)], []⟩))))))
 else (IsB (v_17) ∧
 (bif paOk v_17
 then (bif decide ((↑(List.length (pfL v_22)) : Int) > (0 : Int))
 then (bif decide ((↑(List.length (pfL v_22)) : Int) > (0 : Int))
 then Q (zzy49 v v_17 v_22) ⟨[(zzy46 v v_17 v_22), zz62, (.cells [zz133, (zz2 bz_23), (zz1 az_24), (zz1 ez_25)]), zz100, (zzy46 v v_17 v_22), (zz97 v), (zz95 v_22), (zzy47 v_17), zz6], []⟩
 else Q (zz99 (pfL v) (pfL v_22)) ⟨[(zz98 (pfL v) (pfL v_22)), zz62, (.cells [zz133, (zz2 bz_23), (zz1 az_24), (zz1 ez_25)]), zz100, (zz98 (pfL v) (pfL v_22)), (zz97 v), (zz95 v_22), (zzy47 v_17), zz6], []⟩)
 else (bif decide ((↑(List.length (pfL v_22)) : Int) > (0 : Int))
 then Q (zzy49 v v_17 v_22) ⟨[(zzy46 v v_17 v_22), zz62, (.cells [zz133, (zz2 bz_23), (zz1 az_24), (zz1 ez_25)]), zz100, (zzy46 v v_17 v_22), (zz97 v), (zz95 v_22), (zzy47 v_17), zz6], []⟩
 else Q (zz99 (pfL v) (pfL v_22)) ⟨[(zz98 (pfL v) (pfL v_22)), zz62, (.cells [zz133, (zz2 bz_23), (zz1 az_24), (zz1 ez_25)]), zz100, (zz98 (pfL v) (pfL v_22)), (zz97 v), (zz95 v_22), (zzy47 v_17), zz6], []⟩))
 else (bif decide ((↑(List.length (pfL v_22)) : Int) > (0 : Int))
 then Q (zz92 (paSb v_17) (paDt v_17)) ⟨[zz101, (zzy48 v_17), (.cells [zz133, (zz2 bz_23), (zz1 az_24), (zz1 ez_25)]), zz100, (zz98 (pfL v) (pfL v_22)), (zz97 v), (zz95 v_22), zz91, (zzy48 v_17)], []⟩
 else (bif eqRes BinOp.neq (k6 (paSb v_17) (3 : Int))
 then Q (zz92 (paSb v_17) (paDt v_17)) ⟨[zz101, (zzy48 v_17), (.cells [zz133, (zz2 bz_23), (zz1 az_24), (zz1 ez_25)]), zz100, (zz98 (pfL v) (pfL v_22)), (zz97 v), (zz95 v_22), zz91, (zzy48 v_17)], []⟩
 else (bif decide ((↑(List.length (pfL v_22)) : Int) > (0 : Int))
 then Q (zz90 (pfL v) (pfL v_22)) ⟨[(zz89 (pfL v) (pfL v_22)), zz62, (.cells [zz133, (zz2 bz_23), (zz1 az_24), (zz1 ez_25)]), zz100, (zz89 (pfL v) (pfL v_22)), (zz97 v), (zz95 v_22), zz91, (zzy48 v_17)], []⟩
 else Q (zz99 (pfL v) (pfL v_22)) ⟨[(zz98 (pfL v) (pfL v_22)), zz62, (.cells [zz133, (zz2 bz_23), (zz1 az_24), (zz1 ez_25)]), zz100, (zz98 (pfL v) (pfL v_22)), (zz97 v), (zz95 v_22), zz91, (zzy48 v_17)], []⟩))))))
 else Q zz88 ⟨[zz101, zz86, (.cells [zz133, (zz2 bz_23), (zz1 az_24), (zz1 ez_25)]), zz100, (zz85 (pfL v)), (zz97 v), (zz95 v_22), zz101, zz86], []⟩))
 else Q zz88 ⟨[zz101, zz86, (.cells [zz133, (zz2 bz_23), (zz1 az_24), (zz1 ez_25)]), zz100, zz101, (zz97 v), zz101, zz86], []⟩))))))))))))))))))))))))))))))))))) := by kernel_rfl
abbrev zzy50 (v_14 : Bs) : VO := (zz112 (paSb v_14) (paDt v_14))
abbrev zzy51 (v : Bs) (v_14 : Bs) (v_18 : Bs) : VO := (zz93 (pfL v) (paOr v_14) (paPt v_14) (paHp v_14) (paMd v_14) (paHm v_14) (pfL v_18))
abbrev zzy52 (v_14 : Bs) : VO := (zz34 (paOr v_14) (paPt v_14) (paHp v_14) (paMd v_14) (paHm v_14))
theorem ev_q9 (b : Bs) (Q : TV → VT → Prop) : vcallF Tryz.prog noGl (specs [(rRdF, rreadW), (rU16F, rnU .i64 2), (rByF, rbU), (rReF, rrestU), (qPaF, pfWb), (q7F, apW)]) (tellS [(999999, .dead, none)]) 300 noLp 0 q9F [.vec 1 b .none] zz211 Q =
 ((IsB (b) ∧
 SmB (b)) ∧
 (((@Eq (Bool) true true) ∧
 (IsB (b) ∧
 InB (b) 0)) ∧
 (∀ z : Int, (∀ nz : Int, (∀ ez : Int, (((@Eq (Int) (z) (nmB (2 : Nat) (remB b (0 : Int)) (0 : Int))) ∧
 ((@Eq (Int) (nz) (tkN (↑(2 : Nat) : Int) b (0 : Int) (0 : Int))) ∧
 (@Eq (Int) (ez) (tkE (↑(2 : Nat) : Int) (remB b (0 : Int)) (0 : Int))))) → (((@Eq (Bool) true true) ∧
 (IsB (b) ∧
 InB (b) (nz))) ∧
 (∀ v : Bs, (∀ nz_7 : Int, (∀ ez_8 : Int, (((@Eq (Bs) (v) (tkB z (remB b nz) ez)) ∧
 ((@Eq (Int) (nz_7) (tkN z b nz ez)) ∧
 (@Eq (Int) (ez_8) (tkE z (remB b nz) ez)))) → (((@Eq (Bool) true true) ∧
 (IsB (b) ∧
 InB (b) (nz_7))) ∧
 (∀ z_10 : Int, (∀ nz_11 : Int, (∀ ez_12 : Int, (((@Eq (Int) (z_10) (nmB (2 : Nat) (remB b nz_7) ez_8)) ∧
 ((@Eq (Int) (nz_11) (tkN (↑(2 : Nat) : Int) b nz_7 ez_8)) ∧
 (@Eq (Int) (ez_12) (tkE (↑(2 : Nat) : Int) (remB b nz_7) ez_8)))) → (((@Eq (Bool) true true) ∧
 (IsB (b) ∧
 InB (b) (nz_11))) ∧
 (∀ v_14 : Bs, (∀ nz_15 : Int, (∀ ez_16 : Int, (((@Eq (Bs) (v_14) (tkB z_10 (remB b nz_11) ez_12)) ∧
 ((@Eq (Int) (nz_15) (tkN z_10 b nz_11 ez_12)) ∧
 (@Eq (Int) (ez_16) (tkE z_10 (remB b nz_11) ez_12)))) → (((@Eq (Bool) true true) ∧
 (IsB (b) ∧
 InB (b) (nz_15))) ∧
 (∀ v_18 : Bs, (∀ nz_19 : Int, (∀ ez_20 : Int, (((@Eq (Bs) (v_18) (tkB (leB (remB b nz_15) ez_16) (remB b nz_15) ez_16)) ∧
 ((@Eq (Int) (nz_19) (tkN (leB (remB b nz_15) ez_16) b nz_15 ez_16)) ∧
 (@Eq (Int) (ez_20) (tkE (leB (remB b nz_15) ez_16) (remB b nz_15) ez_16)))) → (bif eqRes BinOp.neq (k6 ez_20 (0 : Int))
 then Q zz103 ⟨[zz101, zz158, (.cells [(zz2 b), (zz1 nz_19), (zz1 ez_20)]), zz101, zz158], []⟩
 else (IsB (v) ∧
 (bif pfO v
 then (IsB (v_18) ∧
 (bif pfO v_18
 then (bif eqRes BinOp.eql (k6 (↑(List.length v_14) : Int) (0 : Int))
 then (bif eqRes BinOp.eql (k6 (↑(List.length (pfL v_18)) : Int) (0 : Int))
 then Q (zz99 (pfL v) (pfL v_18)) ⟨[(zz98 (pfL v) (pfL v_18)), zz62, (.cells [(zz2 b), (zz1 nz_19), (zz1 ez_20)]), (zz98 (pfL v) (pfL v_18))], []⟩
 else (IsB (v_14) ∧
 (bif paOk v_14
 then (bif decide ((↑(List.length (pfL v_18)) : Int) > (0 : Int))
 then Q (zz94 (pfL v) (paOr v_14) (paPt v_14) (paHp v_14) (paMd v_14) (paHm v_14) (pfL v_18)) ⟨[(zzy51 v v_14 v_18), zz62, (.cells [(zz2 b), (zz1 nz_19), (zz1 ez_20)]), (zzy51 v v_14 v_18), (zzy52 v_14), zz6], []⟩
 else Q (zz99 (pfL v) (pfL v_18)) ⟨[(zz98 (pfL v) (pfL v_18)), zz62, (.cells [(zz2 b), (zz1 nz_19), (zz1 ez_20)]), (zz98 (pfL v) (pfL v_18)), (zzy52 v_14), zz6], []⟩)
 else (bif eqRes BinOp.neq (k6 (paSb v_14) (3 : Int))
 then Q (zz92 (paSb v_14) (paDt v_14)) ⟨[zz101, (zzy50 v_14), (.cells [(zz2 b), (zz1 nz_19), (zz1 ez_20)]), (zz98 (pfL v) (pfL v_18)), zz91, (zzy50 v_14)], []⟩
 else (bif decide ((↑(List.length (pfL v_18)) : Int) > (0 : Int))
 then Q (zz92 (paSb v_14) (paDt v_14)) ⟨[zz101, (zzy50 v_14), (.cells [(zz2 b), (zz1 nz_19), (zz1 ez_20)]), (zz98 (pfL v) (pfL v_18)), zz91, (zzy50 v_14)], []⟩
 else (bif decide ((↑(List.length (pfL v_18)) : Int) > (0 : Int))
 then Q (zz90 (pfL v) (pfL v_18)) ⟨[(zz89 (pfL v) (pfL v_18)), zz62, (.cells [(zz2 b), (zz1 nz_19), (zz1 ez_20)]), (zz89 (pfL v) (pfL v_18)), zz91, (zzy50 v_14)], []⟩
 else Q (zz99 (pfL v) (pfL v_18)) ⟨[(zz98 (pfL v) (pfL v_18)), zz62, (.cells [(zz2 b), (zz1 nz_19), (zz1 ez_20)]), (zz98 (pfL v) (pfL v_18)), zz91, (zzy50 v_14)], []⟩))))))
 else (IsB (v_14) ∧
 (bif paOk v_14
 then (bif decide ((↑(List.length (pfL v_18)) : Int) > (0 : Int))
 then Q (zz94 (pfL v) (paOr v_14) (paPt v_14) (paHp v_14) (paMd v_14) (paHm v_14) (pfL v_18)) ⟨[(zzy51 v v_14 v_18), zz62, (.cells [(zz2 b), (zz1 nz_19), (zz1 ez_20)]), (zzy51 v v_14 v_18), (zzy52 v_14), zz6], []⟩
 else Q (zz99 (pfL v) (pfL v_18)) ⟨[(zz98 (pfL v) (pfL v_18)), zz62, (.cells [(zz2 b), (zz1 nz_19), (zz1 ez_20)]), (zz98 (pfL v) (pfL v_18)), (zzy52 v_14), zz6], []⟩)
 else (bif eqRes BinOp.neq (k6 (paSb v_14) (3 : Int))
 then Q (zz92 (paSb v_14) (paDt v_14)) ⟨[zz101, (zzy50 v_14), (.cells [(zz2 b), (zz1 nz_19), (zz1 ez_20)]), (zz98 (pfL v) (pfL v_18)), zz91, (zzy50 v_14)], []⟩
 else (bif decide ((↑(List.length (pfL v_18)) : Int) > (0 : Int))
 then Q (zz92 (paSb v_14) (paDt v_14)) ⟨[zz101, (zzy50 v_14), (.cells [(zz2 b), (zz1 nz_19), (zz1 ez_20)]), (zz98 (pfL v) (pfL v_18)), zz91, (zzy50 v_14)], []⟩
 else (bif decide ((↑(List.length (pfL v_18)) : Int) > (0 : Int))
 then Q (zz90 (pfL v) (pfL v_18)) ⟨[(zz89 (pfL v) (pfL v_18)), zz62, (.cells [(zz2 b), (zz1 nz_19), (zz1 ez_20)]), (zz89 (pfL v) (pfL v_18)), zz91, (zzy50 v_14)], []⟩
 else Q (zz99 (pfL v) (pfL v_18)) ⟨[(zz98 (pfL v) (pfL v_18)), zz62, (.cells [(zz2 b), (zz1 nz_19), (zz1 ez_20)]), (zz98 (pfL v) (pfL v_18)), zz91, (zzy50 v_14)], []⟩))))))
 else Q zz88 ⟨[zz101, zz86, (.cells [(zz2 b), (zz1 nz_19), (zz1 ez_20)]), (zz98 (pfL v) (pfL v_18)), zz101, zz86], []⟩))
 else Q zz88 ⟨[zz101, zz86, (.cells [(zz2 b), (zz1 nz_19), (zz1 ez_20)]), (zz85 (pfL v)), zz101, zz86], []⟩))))))))))))))))))))))))))))) := by kernel_rfl
end Go.Proofs.YtogbdjlelkepcaaGreatDoor
namespace Go.Proofs.YtogbdjlelkepcaaGreatDoor
open Go.RowKit

theorem pfWb_ok {f : FuncId} (h : ∀ b, IsB b → VCx Tryz.prog noGl 0 f [.vec 1 b .none] ⟨[], []⟩ fun x T' => x = pfX b ∧ T' = ⟨[], []⟩) : ∀ ro ys T K, pfWb ro ys T K → VCx Tryz.prog noGl ro f ys T K := by
 intro ro ys T K hw
 unfold pfWb at hw
 split at hw
 ·rename_i b tok
  refine VCx.loosePure gvals_noGl (h b hw.1) (by simp [looseTV]) (by simp [renL, TV.ren, hw.1.ren, Tok.ren]) (fun f h => pfX_ren b f h) ?_
  have h2 := hw.2
  unfold pfX
  cases hh : pfO b <;> rw [hh] at h2 <;> exact h2
 ·exact hw.elim
theorem apW_ok {f : FuncId} (h : ∀ {b : Bs}, IsB b → VCx Tryz.prog noGl 0 f [.vec 1 b .none] ⟨[], []⟩ fun x T' => x = aqX b ∧ T' = ⟨[], []⟩) : ∀ ro ys T K, apW ro ys T K → VCx Tryz.prog noGl ro f ys T K := by
 intro ro ys T K hw
 unfold apW at hw
 split at hw
 ·rename_i b tok
  refine VCx.loosePure gvals_noGl (h hw.1) (by simp [looseTV]) (by simp [renL, TV.ren, hw.1.ren, Tok.ren]) (fun f h => aqX_ren b f h hw.1) ?_
  have h2 := hw.2
  cases hh : paOk b <;> rw [hh] at h2
  ·rw [aqX_no hh]; exact h2
  ·rw [aqX_ok hh]; exact h2
 ·exact hw.elim
theorem gtN {n : Nat} (h : decide ((n : Int) > 0) = true) : 0 < n := by
 have := of_decide_eq_true h; omega
theorem ngtN {n : Nat} (h : decide ((n : Int) > 0) = false) : ¬ 0 < n := by
 have := of_decide_eq_false h; omega
section
variable {b : Bs}
theorem up_bad {s : Int} {d : Bs} {dz : TV} {T' : VT} (h : upP b = .inl (s, d)) (hd : TVle (dz.ren (Go.Proofs.YtogbdjlelkepcaaGreatDoor.keep 0) (Go.Proofs.YtogbdjlelkepcaaGreatDoor.keep 0)) (.vec 1 d .none)) : TVle ((TV.tup [.agg [.val (.slice none 0 0), .val (.int .i64 0), .val (.slice none 0 0), .val (.int .u32 0), .val (.int .i64 0), .val (.bool false), .val (.slice none 0 0)], .agg [.val (.int .i64 3), .val (.int .i64 s), dz]]).ren (Go.Proofs.YtogbdjlelkepcaaGreatDoor.keep 0) (Go.Proofs.YtogbdjlelkepcaaGreatDoor.keep 0)) (upX b) ∧ T'.keep 0 0 = ⟨[], []⟩ := by
 unfold upX upV
 rw [h]
 exact ⟨.tup ⟨.agg ⟨.nil 2, .refl _, .nil 1, .refl _, .refl _, .refl _, .nil 2, trivial⟩, .agg ⟨.refl _, .refl _, hd, trivial⟩, trivial⟩, rfl⟩
theorem up_half {T' : VT} {pz : TV} (hG : IsB (upG b)) (hN : IsB (upN b)) (h : upP b = .inr { up0 with w := pfL (upG b), n := pfL (upN b) }) (hp : TVle (pz.ren (Go.Proofs.YtogbdjlelkepcaaGreatDoor.keep 0) (Go.Proofs.YtogbdjlelkepcaaGreatDoor.keep 0)) (.vec 1 [] .none)) : TVle ((TV.tup [.agg [.vec 2 (pfL (upG b)) .none, .val (.int .i64 0), pz, .val (.int .u32 0), .val (.int .i64 0), .val (.bool false), .vec 2 (pfL (upN b)) .none], .agg [.val (.int .i64 0), .val (.int .i64 0), .val (.slice none 0 0)]]).ren (Go.Proofs.YtogbdjlelkepcaaGreatDoor.keep 0) (Go.Proofs.YtogbdjlelkepcaaGreatDoor.keep 0)) (upX b) ∧ T'.keep 0 0 = ⟨[], []⟩ := by
 unfold upX upV
 rw [h]
 refine ⟨?_, rfl⟩
 simp only [TV.ren, renL, pfL_ren, Tok.ren]
 exact .tup ⟨.agg ⟨.refl _, .refl _, hp, .refl _, .refl _, .refl _, .refl _, trivial⟩, .agg ⟨.refl _, .refl _, .nil 1, trivial⟩, trivial⟩
theorem up_full {T' : VT} (hG : IsB (upG b)) (hA : IsB (upA b)) (hN : IsB (upN b)) (h : upP b = .inr ⟨pfL (upG b), paOr (upA b), paPt (upA b), paHp (upA b), paMd (upA b), paHm (upA b), pfL (upN b)⟩) : TVle ((TV.tup [.agg [.vec 2 (pfL (upG b)) .none, .val (.int .i64 (paOr (upA b))), .vec 1 (paPt (upA b)) .none, .val (.int .u32 (paHp (upA b))), .val (.int .i64 (paMd (upA b))), .val (.bool (paHm (upA b))), .vec 2 (pfL (upN b)) .none], .agg [.val (.int .i64 0), .val (.int .i64 0), .val (.slice none 0 0)]]).ren (Go.Proofs.YtogbdjlelkepcaaGreatDoor.keep 0) (Go.Proofs.YtogbdjlelkepcaaGreatDoor.keep 0)) (upX b) ∧ T'.keep 0 0 = ⟨[], []⟩ := by
 unfold upX upV
 rw [h]
 refine ⟨?_, rfl⟩
 simp only [TV.ren, renL, pfL_ren, paPt_ren hA, Tok.ren]
 exact .tup ⟨.refl _, .agg ⟨.refl _, .refl _, .nil 1, trivial⟩, trivial⟩
end
theorem up_eqs {b : Bs} {z ez z2 e2 z3 e3 e4 e5 e6 : Int} {r1 v r2 r3 a r4 n : Bs} (h1 : z = nmB (2 : Nat) b 0 ∧ r1 = tkR ((2 : Nat) : Int) b 0 ∧ ez = tkE ((2 : Nat) : Int) b 0) (h2 : v = tkB z r1 ez ∧ r2 = tkR z r1 ez ∧ e2 = tkE z r1 ez) (h3 : z3 = nmB (2 : Nat) r2 e2 ∧ r3 = tkR ((2 : Nat) : Int) r2 e2 ∧ e3 = tkE ((2 : Nat) : Int) r2 e2) (h4 : a = tkB z3 r3 e3 ∧ r4 = tkR z3 r3 e3 ∧ e4 = tkE z3 r3 e3) (h5 : n = tkB (leB r4 e4) r4 e4 ∧ e5 = tkE (leB r4 e4) r4 e4) :
  v = upG b ∧ a = upA b ∧ n = upN b ∧ e5 = upE b := by
 obtain ⟨rfl, rfl, rfl⟩ := h1
 obtain ⟨rfl, rfl, rfl⟩ := h2
 obtain ⟨rfl, rfl, rfl⟩ := h3
 obtain ⟨rfl, rfl, rfl⟩ := h4
 obtain ⟨rfl, rfl⟩ := h5
 exact ⟨rfl, rfl, rfl, rfl⟩

theorem up_vcx {b : Bs} (hb : IsB b) : VCx Tryz.prog noGl 0 upF [.vec 1 b .none] ⟨[], []⟩ fun x T' => x = upX b ∧ T' = ⟨[], []⟩ := by
  have hS : SpecsOk Tryz.prog noGl (specs [(wRdF, sreadW), (wU16F, snU .i64 2), (wByF, sbU), (wReF, srestU), (wErF, seW), (pPaF, pfWb), (apF, apW)]) := specs_ok fun p hp => by
    rcases List.mem_cons.1 hp with rfl | hp; exact wRdW_ok
    rcases List.mem_cons.1 hp with rfl | hp; exact fun ro ys T K h => wU16_ok _ _ _ _ (snU_le h)
    rcases List.mem_cons.1 hp with rfl | hp; exact fun ro ys T K h => wBy_ok _ _ _ _ (sbU_le h)
    rcases List.mem_cons.1 hp with rfl | hp; exact fun ro ys T K h => wRe_ok _ _ _ _ (srestU_le h)
    rcases List.mem_cons.1 hp with rfl | hp; exact wEr_ok
    rcases List.mem_cons.1 hp with rfl | hp; exact pfWb_ok fun _ h => pf_vcx h
    obtain rfl := List.mem_singleton.1 hp; exact apW_ok ap_vcx
  refine VCx.toLe (Q := fun T' => T' = ⟨[], []⟩) (VCx.keepQ 0 0 (Nat.le_refl _) (Nat.le_refl _) (vcallF_is mixedB_Tryz bodiesB_Tryz hS lsOk_none (ev_up b _) ?_))
  refine ⟨hb, ⟨rfl, hb⟩, ?_⟩
  intro z bz az ez hq1
  have hbz : IsB bz := by rw [hq1.2.1]; exact tkR_is hb
  refine ⟨⟨rfl, hbz⟩, ?_⟩
  intro v b2 a2 e2 hq2
  have hb2 : IsB b2 := by rw [hq2.2.1]; exact tkR_is hbz
  refine ⟨⟨rfl, hb2⟩, ?_⟩
  intro z3 b3 a3 e3 hq3
  have hb3 : IsB b3 := by rw [hq3.2.1]; exact tkR_is hb2
  refine ⟨⟨rfl, hb3⟩, ?_⟩
  intro v4 b4 a4 e4 hq4
  have hb4 : IsB b4 := by rw [hq4.2.1]; exact tkR_is hb3
  refine ⟨⟨rfl, hb4⟩, ?_⟩
  intro v5 b5 a5 e5 hq5
  have hb5 : IsB b5 := by rw [hq5.2.1]; exact tkR_is hb4
  refine ⟨⟨rfl, hb5⟩, ?_⟩
  obtain ⟨rfl, rfl, rfl, rfl⟩ := up_eqs (z2 := 0) (e6 := 0) hq1 hq2 hq3 hq4 ⟨hq5.1, hq5.2.2⟩
  have hG := upG_is hb
  have hA := upA_is hb
  have hN := upN_is hb
  have hL : ∀ (c : Bs) f g, renLL f g (pfL c) = pfL c := fun c f g => pfL_ren c f g
  have hP := fun f g => paPt_ren hA f g
  have hD := fun f g => paDt_ren hA f g
  refine cond_of (fun c1 => ?_) (fun c1 => ?_)
  · exact up_bad (by unfold upP; rw [if_pos (neIt c1)]) (.nil 1)
  replace c1 : upE b = 0 := neIf c1
  refine ⟨hG, cond_of (fun c2 => ?_) (fun c2 => ?_)⟩
  rotate_left
  · exact up_bad (by unfold upP; rw [if_neg (fun c => c c1), c2]; rfl) (.nil 1)
  refine ⟨hN, cond_of (fun c3 => ?_) (fun c3 => ?_)⟩
  rotate_left
  · exact up_bad (by unfold upP; rw [if_neg (fun c => c c1), c2, c3]; rfl) (.nil 1)
  have hu : upP b = (if (upA b).length = 0 ∧ (pfL (upN b)).length = 0 then .inr { up0 with w := pfL (upG b), n := pfL (upN b) }
    else bif paOk (upA b) then (if 0 < (pfL (upN b)).length then .inr ⟨pfL (upG b), paOr (upA b), paPt (upA b), paHp (upA b), paMd (upA b), paHm (upA b), pfL (upN b)⟩ else .inr { up0 with w := pfL (upG b), n := pfL (upN b) })
    else if 0 < (pfL (upN b)).length then .inl (paSb (upA b), paDt (upA b)) else if paSb (upA b) = 3 then .inr { up0 with w := pfL (upG b), n := pfL (upN b) } else .inl (paSb (upA b), paDt (upA b))) := by
    unfold upP; rw [if_neg (fun c => c c1), c2, c3]; rfl
  refine cond_of (fun c4 => ?_) (fun c4 => ?_)
  · replace c4 := eqIt c4
    refine cond_of (fun c5 => ?_) (fun c5 => ?_)
    · exact up_half hG hN (by rw [hu, if_pos ⟨Int.ofNat_inj.1 c4, Int.ofNat_inj.1 (eqIt c5)⟩]) (.nil 1)
    have hne : ¬ ((upA b).length = 0 ∧ (pfL (upN b)).length = 0) := fun h => eqIf c5 (Int.ofNat_inj.2 h.2)
    refine ⟨hA, cond_of (fun c6 => ?_) (fun c6 => ?_)⟩
    · refine cond_of (fun c7 => ?_) (fun c7 => ?_)
      · exact condT c7 (up_full hG hA hN (by rw [hu, if_neg hne, c6]; simp only [cond_true]; rw [if_pos (gtN c7)]))
      · exact condF c7 (up_half hG hN (by rw [hu, if_neg hne, c6]; simp only [cond_true]; rw [if_neg (ngtN c7)]) (.nil 1))
    · refine cond_of (fun c7 => ?_) (fun c7 => ?_)
      · exact up_bad (by rw [hu, if_neg hne, c6]; simp only [cond_false]; rw [if_pos (gtN c7)]) (by simp only [TV.ren, hD, Tok.ren]; exact .refl _)
      refine cond_of (fun c8 => ?_) (fun c8 => ?_)
      · exact up_bad (by rw [hu, if_neg hne, c6]; simp only [cond_false]; rw [if_neg (ngtN c7), if_neg (neIt c8)]) (by simp only [TV.ren, hD, Tok.ren]; exact .refl _)
      · exact condF c7 (up_half hG hN (by rw [hu, if_neg hne, c6]; simp only [cond_false]; rw [if_neg (ngtN c7), if_pos (neIf c8)]) (.nil 1))
  · have hne : ¬ ((upA b).length = 0 ∧ (pfL (upN b)).length = 0) := fun h => eqIf c4 (Int.ofNat_inj.2 h.1)
    refine ⟨hA, cond_of (fun c6 => ?_) (fun c6 => ?_)⟩
    · refine cond_of (fun c7 => ?_) (fun c7 => ?_)
      · exact condT c7 (up_full hG hA hN (by rw [hu, if_neg hne, c6]; simp only [cond_true]; rw [if_pos (gtN c7)]))
      · exact condF c7 (up_half hG hN (by rw [hu, if_neg hne, c6]; simp only [cond_true]; rw [if_neg (ngtN c7)]) (.nil 1))
    · refine cond_of (fun c7 => ?_) (fun c7 => ?_)
      · exact up_bad (by rw [hu, if_neg hne, c6]; simp only [cond_false]; rw [if_pos (gtN c7)]) (by simp only [TV.ren, hD, Tok.ren]; exact .refl _)
      refine cond_of (fun c8 => ?_) (fun c8 => ?_)
      · exact up_bad (by rw [hu, if_neg hne, c6]; simp only [cond_false]; rw [if_neg (ngtN c7), if_neg (neIt c8)]) (by simp only [TV.ren, hD, Tok.ren]; exact .refl _)
      · exact condF c7 (up_half hG hN (by rw [hu, if_neg hne, c6]; simp only [cond_false]; rw [if_neg (ngtN c7), if_pos (neIf c8)]) (.nil 1))

theorem q9_vcx {b : Bs} (hb : IsB b) : VCx Tryz.prog noGl 0 q9F [.vec 1 b .none] ⟨[], []⟩ fun x T' => x = upX b ∧ T' = ⟨[], []⟩ := by
  have hS : SpecsOk Tryz.prog noGl (specs [(rRdF, rreadW), (rU16F, rnU .i64 2), (rByF, rbU), (rReF, rrestU), (qPaF, pfWb), (q7F, apW)]) := specs_ok fun p hp => by
    rcases List.mem_cons.1 hp with rfl | hp; exact rRdW_ok
    rcases List.mem_cons.1 hp with rfl | hp; exact fun ro ys T K h => rU16_ok _ _ _ _ (rnU_le h)
    rcases List.mem_cons.1 hp with rfl | hp; exact fun ro ys T K h => rBy_ok _ _ _ _ (rbU_le h)
    rcases List.mem_cons.1 hp with rfl | hp; exact fun ro ys T K h => rRe_ok _ _ _ _ (rrestU_le h)
    rcases List.mem_cons.1 hp with rfl | hp; exact pfWb_ok fun _ h => qf_vcx h
    obtain rfl := List.mem_singleton.1 hp; exact apW_ok q7_vcx
  refine VCx.toLe (Q := fun T' => T' = ⟨[], []⟩) (VCx.keepQ 0 0 (Nat.le_refl _) (Nat.le_refl _) (vcallF_is mixedB_Tryz bodiesB_Tryz hS lsOk_none (ev_q9 b _) ?_))
  have h0 := in0 hb
  refine ⟨⟨hb, hb.small⟩, ⟨rfl, hb, h0⟩, ?_⟩
  intro z nz ez hq1
  have i1 : InB b nz := by rw [hq1.2.1]; exact tkN_in h0 _ _
  have r1 : remB b nz = tkR ((2 : Nat) : Int) (remB b 0) 0 := by rw [hq1.2.1]; exact tkN_rem h0 _ _
  refine ⟨⟨rfl, hb, i1⟩, ?_⟩
  intro v n2 e2 hq2
  have i2 : InB b n2 := by rw [hq2.2.1]; exact tkN_in i1 _ _
  have r2 : remB b n2 = tkR z (remB b nz) ez := by rw [hq2.2.1]; exact tkN_rem i1 _ _
  refine ⟨⟨rfl, hb, i2⟩, ?_⟩
  intro z3 n3 e3 hq3
  have i3 : InB b n3 := by rw [hq3.2.1]; exact tkN_in i2 _ _
  have r3 : remB b n3 = tkR ((2 : Nat) : Int) (remB b n2) e2 := by rw [hq3.2.1]; exact tkN_rem i2 _ _
  refine ⟨⟨rfl, hb, i3⟩, ?_⟩
  intro v4 n4 e4 hq4
  have i4 : InB b n4 := by rw [hq4.2.1]; exact tkN_in i3 _ _
  have r4 : remB b n4 = tkR z3 (remB b n3) e3 := by rw [hq4.2.1]; exact tkN_rem i3 _ _
  refine ⟨⟨rfl, hb, i4⟩, ?_⟩
  intro v5 n5 e5 hq5
  have hr0 : remB b 0 = b := rfl
  rw [hr0] at hq1 r1
  obtain ⟨rfl, rfl, rfl, rfl⟩ := up_eqs (z2 := 0) (e6 := 0) ⟨hq1.1, r1, hq1.2.2⟩ ⟨hq2.1, r2, hq2.2.2⟩ ⟨hq3.1, r3, hq3.2.2⟩ ⟨hq4.1, r4, hq4.2.2⟩ ⟨hq5.1, hq5.2.2⟩
  have hG := upG_is hb
  have hA := upA_is hb
  have hN := upN_is hb
  have hL : ∀ (c : Bs) f g, renLL f g (pfL c) = pfL c := fun c f g => pfL_ren c f g
  have hP := fun f g => paPt_ren hA f g
  have hD := fun f g => paDt_ren hA f g
  refine cond_of (fun c1 => ?_) (fun c1 => ?_)
  · exact up_bad (by unfold upP; rw [if_pos (neIt c1)]) (.nil 1)
  replace c1 : upE b = 0 := neIf c1
  refine ⟨hG, cond_of (fun c2 => ?_) (fun c2 => ?_)⟩
  rotate_left
  · exact up_bad (by unfold upP; rw [if_neg (fun c => c c1), c2]; rfl) (.nil 1)
  refine ⟨hN, cond_of (fun c3 => ?_) (fun c3 => ?_)⟩
  rotate_left
  · exact up_bad (by unfold upP; rw [if_neg (fun c => c c1), c2, c3]; rfl) (.nil 1)
  have hu : upP b = (if (upA b).length = 0 ∧ (pfL (upN b)).length = 0 then .inr { up0 with w := pfL (upG b), n := pfL (upN b) }
    else bif paOk (upA b) then (if 0 < (pfL (upN b)).length then .inr ⟨pfL (upG b), paOr (upA b), paPt (upA b), paHp (upA b), paMd (upA b), paHm (upA b), pfL (upN b)⟩ else .inr { up0 with w := pfL (upG b), n := pfL (upN b) })
    else if 0 < (pfL (upN b)).length then .inl (paSb (upA b), paDt (upA b)) else if paSb (upA b) = 3 then .inr { up0 with w := pfL (upG b), n := pfL (upN b) } else .inl (paSb (upA b), paDt (upA b))) := by
    unfold upP; rw [if_neg (fun c => c c1), c2, c3]; rfl
  refine cond_of (fun c4 => ?_) (fun c4 => ?_)
  · replace c4 := eqIt c4
    refine cond_of (fun c5 => ?_) (fun c5 => ?_)
    · exact up_half hG hN (by rw [hu, if_pos ⟨Int.ofNat_inj.1 c4, Int.ofNat_inj.1 (eqIt c5)⟩]) (.nil 1)
    have hne : ¬ ((upA b).length = 0 ∧ (pfL (upN b)).length = 0) := fun h => eqIf c5 (Int.ofNat_inj.2 h.2)
    refine ⟨hA, cond_of (fun c6 => ?_) (fun c6 => ?_)⟩
    · refine cond_of (fun c7 => ?_) (fun c7 => ?_)
      · exact up_full hG hA hN (by rw [hu, if_neg hne, c6]; simp only [cond_true]; rw [if_pos (gtN c7)])
      · exact up_half hG hN (by rw [hu, if_neg hne, c6]; simp only [cond_true]; rw [if_neg (ngtN c7)]) (.nil 1)
    · refine cond_of (fun c8 => ?_) (fun c8 => ?_)
      · exact up_bad (by rw [hu, if_neg hne, c6]; simp only [cond_false]; rw [if_neg (neIt c8), ite_self]) (by simp only [TV.ren, hD, Tok.ren]; exact .refl _)
      refine cond_of (fun c7 => ?_) (fun c7 => ?_)
      · exact up_bad (by rw [hu, if_neg hne, c6]; simp only [cond_false]; rw [if_pos (gtN c7)]) (by simp only [TV.ren, hD, Tok.ren]; exact .refl _)
      · exact condF c7 (up_half hG hN (by rw [hu, if_neg hne, c6]; simp only [cond_false]; rw [if_neg (ngtN c7), if_pos (neIf c8)]) (.nil 1))
  · have hne : ¬ ((upA b).length = 0 ∧ (pfL (upN b)).length = 0) := fun h => eqIf c4 (Int.ofNat_inj.2 h.1)
    refine ⟨hA, cond_of (fun c6 => ?_) (fun c6 => ?_)⟩
    · refine cond_of (fun c7 => ?_) (fun c7 => ?_)
      · exact up_full hG hA hN (by rw [hu, if_neg hne, c6]; simp only [cond_true]; rw [if_pos (gtN c7)])
      · exact up_half hG hN (by rw [hu, if_neg hne, c6]; simp only [cond_true]; rw [if_neg (ngtN c7)]) (.nil 1)
    · refine cond_of (fun c8 => ?_) (fun c8 => ?_)
      · exact up_bad (by rw [hu, if_neg hne, c6]; simp only [cond_false]; rw [if_neg (neIt c8), ite_self]) (by simp only [TV.ren, hD, Tok.ren]; exact .refl _)
      refine cond_of (fun c7 => ?_) (fun c7 => ?_)
      · exact up_bad (by rw [hu, if_neg hne, c6]; simp only [cond_false]; rw [if_pos (gtN c7)]) (by simp only [TV.ren, hD, Tok.ren]; exact .refl _)
      · exact condF c7 (up_half hG hN (by rw [hu, if_neg hne, c6]; simp only [cond_false]; rw [if_neg (ngtN c7), if_pos (neIf c8)]) (.nil 1))
end Go.Proofs.YtogbdjlelkepcaaGreatDoor
namespace Go.Proofs.YtogbdjlelkepcaaGreatDoor
open Go.RowKit

def FzLe (T : VT) (x y : TV) (T2 : VT) : Prop := ∀ g w u, RW g T w → VR g w x u → ∃ g', Evo g w g' w ∧ RW g' T2 w ∧ VR g' w y u
def FzL (T : VT) (l m : List TV) (T2 : VT) : Prop := ∀ g w us, RW g T w → VRs g w l us → ∃ g', Evo g w g' w ∧ RW g' T2 w ∧ VRs g' w m us
theorem FzLe.le {T : VT} {x y : TV} (h : TVle x y) : FzLe T x y T := fun g w u r hv => ⟨g, Evo.refl g w, r, h g w u hv⟩
theorem FzLe.row {T : VT} {id size off n : Nat} {es : List (List TV)} (h : rowsR T size (.row size id off n) = some es) : FzLe T (.row size id off n) (.vec size es .none) (T.kill id) := fun g w u r hv => row_freeze r h hv
theorem FzL.nil {T : VT} : FzL T [] [] T := fun g w us r hv => ⟨g, Evo.refl g w, r, hv⟩
theorem FzL.cons {T T1 T2 : VT} {x y : TV} {l m : List TV} (h1 : FzLe T x y T1) (h2 : FzL T1 l m T2) : FzL T (x :: l) (y :: m) T2 := by
 intro g w us r hv
 match us, hv with
 | [], hv => have := hv.1; simp at this
 | u :: us, hv =>
  have hu : VR g w x u := hv.2 0 x u rfl rfl
  have hus : VRs g w l us := ⟨by have := hv.1; simpa using this, fun j a v ha hv2 => hv.2 (j + 1) a v (by simpa using ha) (by simpa using hv2)⟩
  obtain ⟨g1, e1, r1, v1⟩ := h1 g w u r hu
  obtain ⟨g2, e2, r2, v2⟩ := h2 g1 w us r1 (hus.mono e1)
  exact ⟨g2, e1.trans e2, r2, VRs.cons (v1.mono e2) v2⟩
theorem FzL.le {T T2 : VT} {x : TV} {l m : List TV} (h2 : FzL T l m T2) : FzL T (x :: l) (x :: m) T2 := FzL.cons (.le (.refl x)) h2
theorem FzLe.agg {T T2 : VT} {l m : List TV} (h : FzL T l m T2) : FzLe T (.agg l) (.agg m) T2 := fun g w u r hv => by
 cases hv with
 | agg hl hv =>
  obtain ⟨g', e', r', h1, h2⟩ := h g w _ r ⟨hl, hv⟩
  exact ⟨g', e', r', .agg h1 h2⟩
theorem FzLe.tup {T T2 : VT} {l m : List TV} (h : FzL T l m T2) : FzLe T (.tup l) (.tup m) T2 := fun g w u r hu => by
 obtain ⟨us, rfl, hv⟩ := hu.tup_inv
 obtain ⟨g', e', r', h1, h2⟩ := h g w _ r hv
 exact ⟨g', e', r', .tup h1 h2⟩
theorem VCx.toFz {P : Program} {G : Globs} {f : FuncId} {xs : List TV} {T : VT} {y : TV} {Q : VT → Prop} (h : VCx P G 0 f xs T fun x T' => ∃ T2, FzLe T' x y T2 ∧ T'.objs.length ≤ T2.objs.length ∧ Q T2) : VCx P G 0 f xs T fun x T' => x = y ∧ Q T' := by
 intro g w us rw0 hG hx
 refine Calls.mono (h g w us rw0 hG hx) ?_
 rintro e w' ⟨v, x, g', T', he, ⟨T2, hq, hl, hQ⟩, e', r', hv, hfx⟩
 obtain ⟨g2, e2, r2, v2⟩ := hq g' w' v r' hv
 exact ⟨v, _, g2, T2, he, ⟨rfl, hQ⟩, e'.trans e2, r2, v2, ⟨Nat.le_trans hfx.len hl, fun i hi => absurd hi (Nat.not_lt_zero i), fun i o b hi => absurd hi (Nat.not_lt_zero i)⟩⟩
theorem VCx.anyG {P : Program} {G : Globs} {ro : Nat} {f : FuncId} {xs : List TV} {T : VT} {Q : TV → VT → Prop} (h : VCx P (fun _ => none) ro f xs T Q) : VCx P G ro f xs T Q := fun g w us rw0 _ hx => h g w us rw0 (fun n cs hn => by cases hn) hx
end Go.Proofs.YtogbdjlelkepcaaGreatDoor
namespace Go.Proofs.YtogbdjlelkepcaaGreatDoor
open Go.ChangeShapes Go.WideShapes Go.ChangeAt Go.RowKit Go.Joins Go.Deep

section
variable {H : Type} {enc : TypeId × Value → H} {P : Program} {w : World} {base : Nat} {spare : Nat → Bool} {held : Bool}
theorem cell_spot {r : Reach} {b0 : Nat} {t e : TypeId} {a : Addr} {n c : Nat} (ht : P.underlying t = some (.slice e)) (hv : Cell.okWide P w r b0 t (.slice (some a) n c)) : a.spot = none := by
 simp only [ht, Cell.okWide, Cell.ok] at hv
 exact hv.2.2.2.1
theorem flat1 {α : Type} (f : α → TV) : ∀ l : List α, (l.map fun i => [f i]).flatten = l.map f
 | [] => rfl
 | a :: l => by simp [flat1 f l]
theorem vr_ints {r : Reach} {b0 m : Nat} {t e : TypeId} {k : IntKind} {u : Value} {y : DataW H × List MemPlace} (ht : P.underlying t = some (.slice e)) (he : P.underlying e = some (.int k)) (hc : P.cellsOf e = 1) (hok : Cell.okWide P w r b0 t u)
    (h : DataW.trod enc P w base spare held m t [u] = some y) : ∃ l : List (List TV), VR (topG w) w (.vec 1 l .none) u ∧ ∀ x ∈ l, ∃ z, x = [.val (.int k z)] ∧ (Lit.int k z).wf = true := by
  rcases open_slice1 ht hc h with ⟨hcs, _⟩ | ⟨a, len, cap, m', n', V, D, Pl, hcs, hb, hl, hm, hmm, hx, hall⟩
  · injection hcs with hcs; subst hcs
    exact ⟨[], .nil trivial, fun x h => by cases h⟩
  · injection hcs with hcs; subst hcs
    have hs := cell_spot ht hok
    obtain ⟨b, o, sp⟩ := a
    simp only at hs
    subst hs
    have hlm : len ≤ m' := by rw [hmm]; split <;> omega
    have each : ∀ i, i < len → ∃ z, V i = .int k z ∧ (Lit.int k z).wf = true := fun i hi => by
      obtain ⟨_, h2⟩ := hall i (by omega)
      obtain ⟨z, e0, wz⟩ := leaf_int he h2
      exact ⟨z, e0, wz⟩
    have cellj : ∀ j, j < len → w.cell? ⟨b, o + j, none⟩ = some (V j) := fun j hj => by
      have h1 := (hall j (by omega)).1
      have h2 : (⟨b, o, none⟩ : Addr).add j = ⟨b, o + j, none⟩ := by
        cases j <;> simp [Addr.add]
      rw [h2] at h1
      exact h1
    refine ⟨(List.range len).map fun i => [.val (V i)], ?_, ?_⟩
    · have hlen : ((List.range len).map fun i => [TV.val (V i)]).length = len := by simp
      have hfl := flat1 (fun i => TV.val (V i)) (List.range len)
      have key : VR (topG w) w (.vec 1 ((List.range len).map fun i => [TV.val (V i)]) .none) (.slice (some ⟨b, o, none⟩) ((List.range len).map fun i => [TV.val (V i)]).length cap) := by
        refine .vec (us := (List.range len).map V) (by rw [hlen]; exact hl) hm ?_ trivial (by rw [hfl]; simp) ?_ ?_ ?_ ?_
        · intro x hx
          obtain ⟨i, _, rfl⟩ := List.mem_map.1 hx
          rfl
        · intro u hu
          obtain ⟨i, hi, rfl⟩ := List.mem_map.1 hu
          obtain ⟨z, hz, _⟩ := each i (List.mem_range.1 hi)
          rw [hz]; rfl
        · intro j hj
          rw [hfl] at hj
          simp at hj
          show (w.cell? ⟨b, o + j, none⟩).isSome = true
          rw [cellj j hj]; rfl
        · intro j u hu
          rw [List.getElem?_map] at hu
          rcases Nat.lt_or_ge j len with hj | hj
          · rw [List.getElem?_range hj] at hu
            injection hu with hu; subst hu
            exact cellj j hj
          · rw [List.getElem?_eq_none (by simpa using hj)] at hu; cases hu
        · intro j x u hx hu
          rw [hfl, List.getElem?_map] at hx
          rw [List.getElem?_map] at hu
          rcases Nat.lt_or_ge j len with hj | hj
          · rw [List.getElem?_range hj] at hx hu
            injection hx with hx; subst hx
            injection hu with hu; subst hu
            exact .val _
          · rw [List.getElem?_eq_none (by simpa using hj)] at hu; cases hu
      rw [hlen] at key
      exact key
    · intro x hx
      obtain ⟨i, hi, rfl⟩ := List.mem_map.1 hx
      obtain ⟨z, hz, wz⟩ := each i (List.mem_range.1 hi)
      exact ⟨z, by rw [hz], wz⟩
end
end Go.Proofs.YtogbdjlelkepcaaGreatDoor
namespace Go.Proofs.YtogbdjlelkepcaaGreatDoor
open Go.ChangeShapes Go.WideShapes Go.ChangeAt Go.RowKit Go.Joins

theorem own_Tryz : ownKnob Tryz.prog.godebug = none := by kernel_rfl
theorem laid_Tryz : laidOutB Tryz.prog = true := by kernel_rfl

end Go.Proofs.YtogbdjlelkepcaaGreatDoor
namespace Go.Proofs.YtogbdjlelkepcaaGreatDoor
open Go.ChangeShapes Go.WideShapes Go.ChangeAt Go.RowKit Go.Joins Go.Deep

def leastG : Globs := fun n => bif Nat.beq n 0 then some [.val (.int .i64 0), .val (.int .i64 29), .val (.int .i64 23), .val (.int .i64 21), .val (.int .i64 19)] else none
theorem leastG_vals : GVals leastG := fun n cs h => by
 unfold leastG at h
 cases hb : Nat.beq n 0 with
 | false => rw [hb] at h; cases h
 | true =>
  rw [hb] at h
  injection h with h; subst h
  exact ⟨[.int .i64 0, .int .i64 29, .int .i64 23, .int .i64 21, .int .i64 19], rfl⟩
def leastZ : List Int := [0, 29, 23, 21, 19]
theorem glob_least : Tryz.prog.globalNamed "fairway/message.least" = some 0 := by kernel_rfl
theorem gok_least {w : World} (h : Lib.TabIs Tryz.prog w "fairway/message.least" .i64 leastZ) : GOk leastG (topG w) w := by
 intro n cs hn
 unfold leastG at hn
 cases hb : Nat.beq n 0 with
 | false => rw [hb] at hn; cases hn
 | true =>
  rw [hb] at hn
  have := Nat.eq_of_beq_eq_true hb
  subst this
  injection hn with hn; subst hn
  have cell : ∀ (j : Nat) u, (leastZ.map fun z => Value.int .i64 z)[j]? = some u → w.cell? ⟨0, 0 + j, none⟩ = some u := fun j u hj => by
   have hlt : j < leastZ.length := by
    have := (List.getElem?_eq_some_iff.1 hj).1
    simpa using this
   have h1 := h.cell glob_least j hlt
   rw [Nat.zero_add, h1, ← hj, List.getElem?_map, List.getD_eq_getElem?_getD, List.getElem?_eq_getElem hlt]
   rfl
  refine VR.mk_elt (us := leastZ.map fun z => Value.int .i64 z) (VRs.vals (topG w) w [.int .i64 0, .int .i64 29, .int .i64 23, .int .i64 21, .int .i64 19]) (fun j hj => ?_) cell (fun u hu => ?_)
  ·show (w.cell? ⟨_, 0 + j, none⟩).isSome = true
   have hj' : j < (leastZ.map fun z => Value.int .i64 z).length := hj
   rw [cell j _ (List.getElem?_eq_getElem hj')]; rfl
  ·obtain ⟨z, _, rfl⟩ := List.mem_map.1 hu
   rfl
end Go.Proofs.YtogbdjlelkepcaaGreatDoor
namespace Go.Proofs.YtogbdjlelkepcaaGreatDoor
open Go.RowKit

def all255 (b : Bs) : Bool := (b.take 16).all fun r => decide (bval r = 255)
def hzN (b : Bs) : Int := geN 2 (b.drop 16)
def hzK (b : Bs) : Int := bval ((b.drop 18).headD [])
def szB (b : Bs) : Bs := (b.drop 16).take 2
def kdB (b : Bs) : Bs := (b.drop 18).take 1
def hdLe (k : Int) : Int := if k = 1 then 29 else if k = 2 then 23 else if k = 3 then 21 else 19
def hdP (b : Bs) : (Int × Bs) ⊕ (Int × Int) :=
 if b.length < 19 then .inr (0, 0) else bif all255 b then
  (if hzN b < 19 ∨ hzN b > 4096 then .inl (2, szB b) else if hzK b < 1 ∨ hzK b > 4 then .inl (3, kdB b)
  else if hzN b < hdLe (hzK b) ∨ (hzK b = 4 ∧ ¬ hzN b = 19) then .inl (2, szB b) else .inr (hzN b, hzK b))
 else .inl (1, [])
def hdOk (b : Bs) : Bool := match hdP b with
 | .inr _ => true
 | .inl _ => false
def hdN (b : Bs) : Int := match hdP b with
 | .inr p => p.1
 | .inl _ => 0
def hdK (b : Bs) : Int := match hdP b with
 | .inr p => p.2
 | .inl _ => 0
def hdS (b : Bs) : Int := match hdP b with
 | .inr _ => 0
 | .inl p => p.1
def hdD (b : Bs) : Bs := match hdP b with
 | .inr _ => []
 | .inl p => p.2
def hdV (p : (Int × Bs) ⊕ (Int × Int)) : TV := match p with
 | .inl (s, d) => .tup [.val (.int .i64 0), .val (.int .i64 0), ftT 1 s d]
 | .inr (n, k) => .tup [.val (.int .i64 n), .val (.int .i64 k), ftT 0 0 []]
def hdX (b : Bs) : TV := hdV (hdP b)
theorem hdD_is {b : Bs} (hb : IsB b) : IsB (hdD b) := by
 have h1 : IsB (szB b) := (hb.drop 16).take 2
 have h2 : IsB (kdB b) := (hb.drop 18).take 1
 unfold hdD hdP
 split
 ·exact .nil
 ·rename_i p hp
  split at hp
  ·cases hp
  cases h : all255 b <;> rw [h] at hp <;> simp only [cond_true, cond_false] at hp
  ·injection hp with hp; rw [← hp]; exact .nil
  split at hp
  ·injection hp with hp; rw [← hp]; exact h1
  split at hp
  ·injection hp with hp; rw [← hp]; exact h2
  split at hp
  ·injection hp with hp; rw [← hp]; exact h1
  ·cases hp
theorem hdX_ok {b : Bs} (h : hdOk b = true) : hdX b = .tup [.val (.int .i64 (hdN b)), .val (.int .i64 (hdK b)), ftT 0 0 []] := by
 unfold hdX hdV hdN hdK
 unfold hdOk at h
 cases e : hdP b with
 | inl x => rw [e] at h; cases h
 | inr p => rfl
theorem hdX_no {b : Bs} (h : hdOk b = false) : hdX b = .tup [.val (.int .i64 0), .val (.int .i64 0), ftT 1 (hdS b) (hdD b)] := by
 unfold hdX hdV hdS hdD
 unfold hdOk at h
 cases e : hdP b with
 | inl x => rfl
 | inr p => rw [e] at h; cases h
theorem hdX_ren {b : Bs} (hb : IsB b) (f g : Nat → Option Nat) : (hdX b).ren f g = hdX b := by
 cases h : hdOk b
 ·rw [hdX_no h]; simp only [TV.ren, renL, ftT, (hdD_is hb).ren, Tok.ren]
 ·rw [hdX_ok h]; simp only [TV.ren, renL, ftT, renLL, Tok.ren]
structure OpS where
 n : Int
 h : Int
 i : Int
 l : Bs
def op0 : OpS := ⟨0, 0, 0, []⟩
def OpS.cells (o : OpS) : List TV := [.val (.int .i64 o.n), .val (.int .i64 o.h), .val (.int .u32 o.i), .vec 2 o.l .none]
def opQ (x : TV) : (Int × Bs) ⊕ OpS := match x with
 | .tup [.agg [.val (.int _ n), .val (.int _ h), .val (.int _ i), .vec _ l _], .agg [.val (.int _ c), .val (.int _ s), .vec _ d _]] => if c = 0 then .inr ⟨n, h, i, l⟩ else .inl (s, d)
 | _ => .inl (0, [])
def opP (b : Bs) (pas : Int) : (Int × Bs) ⊕ OpS := opQ (opX b pas)
def opV (p : (Int × Bs) ⊕ OpS) : TV := match p with
 | .inl (s, d) => .tup [.agg op0.cells, ftT 2 s d]
 | .inr o => .tup [.agg o.cells, ftT 0 0 []]
theorem opX_form (b : Bs) (pas : Int) (hb : IsB b) : (∃ s d, opX b pas = opFail s d ∧ ∀ f g, renLL f g d = d) ∨ (∃ n h i l, opX b pas = opGood n h i l ∧ ∀ f g, renLL f g l = l) := by
 unfold opX
 split
 ·exact .inl ⟨_, _, rfl, fun _ _ => rfl⟩
 split
 ·exact .inl ⟨_, _, rfl, fun _ _ => rfl⟩
 unfold opMid opEnd
 split
 ·exact .inl ⟨_, _, rfl, fun _ _ => rfl⟩
 split
 ·exact .inl ⟨_, _, rfl, fun _ _ => rfl⟩
 split
 ·exact .inl ⟨_, _, rfl, fun _ _ => rfl⟩
 split
 ·exact .inl ⟨_, _, rfl, fun _ _ => rfl⟩
 split
 ·exact .inl ⟨_, _, rfl, fun _ _ => rfl⟩
 cases h : paO _ _
 ·exact .inl ⟨_, _, rfl, fun _ _ => rfl⟩
 ·exact .inr ⟨_, _, _, _, rfl, fun f g => paL_ren (tkR_is (tkR_is (tkR_is (tkR_is (tkR_is hb))))) _ f g⟩
theorem opX_eq (b : Bs) (pas : Int) (hb : IsB b) : opX b pas = opV (opP b pas) := by
 unfold opP
 rcases opX_form b pas hb with ⟨s, d, h, _⟩ | ⟨n, hh, i, l, h, _⟩ <;> rw [h] <;> rfl
def opOk (b : Bs) (pas : Int) : Bool := match opP b pas with
 | .inr _ => true
 | .inl _ => false
def opU (b : Bs) (pas : Int) : OpS := match opP b pas with
 | .inr o => o
 | .inl _ => op0
def opAs (b : Bs) (pas : Int) : Int := (opU b pas).n
def opHo (b : Bs) (pas : Int) : Int := (opU b pas).h
def opId (b : Bs) (pas : Int) : Int := (opU b pas).i
def opCp (b : Bs) (pas : Int) : Bs := (opU b pas).l
def opSb (b : Bs) (pas : Int) : Int := match opP b pas with
 | .inr _ => 0
 | .inl p => p.1
def opDt (b : Bs) (pas : Int) : Bs := match opP b pas with
 | .inr _ => []
 | .inl p => p.2
theorem opX_ok {b : Bs} {pas : Int} (hb : IsB b) (h : opOk b pas = true) : opX b pas = .tup [.agg (opU b pas).cells, ftT 0 0 []] := by
 rw [opX_eq b pas hb]
 unfold opV opU
 unfold opOk at h
 cases e : opP b pas with
 | inl x => rw [e] at h; cases h
 | inr p => rfl
theorem opX_no {b : Bs} {pas : Int} (hb : IsB b) (h : opOk b pas = false) : opX b pas = .tup [.agg op0.cells, ftT 2 (opSb b pas) (opDt b pas)] := by
 rw [opX_eq b pas hb]
 unfold opV opSb opDt
 unfold opOk at h
 cases e : opP b pas with
 | inl x => rfl
 | inr p => rw [e] at h; cases h
theorem opDt_ren {b : Bs} (pas : Int) (hb : IsB b) (f g : Nat → Option Nat) : renLL f g (opDt b pas) = opDt b pas := by
 unfold opDt opP
 rcases opX_form b pas hb with ⟨s, d, h, h2⟩ | ⟨n, hh, i, l, h, h2⟩ <;> rw [h]
 ·exact h2 f g
 ·rfl
theorem opCp_ren {b : Bs} (pas : Int) (hb : IsB b) (f g : Nat → Option Nat) : renLL f g (opCp b pas) = opCp b pas := by
 unfold opCp opU opP
 rcases opX_form b pas hb with ⟨s, d, h, h2⟩ | ⟨n, hh, i, l, h, h2⟩ <;> rw [h]
 ·rfl
 ·exact h2 f g
theorem opX_ren {b : Bs} (pas : Int) (hb : IsB b) (f g : Nat → Option Nat) : (opX b pas).ren f g = opX b pas := by
 cases h : opOk b pas
 ·rw [opX_no hb h]; simp only [TV.ren, renL, ftT, op0, OpS.cells, renLL, opDt_ren pas hb, Tok.ren]
 ·rw [opX_ok hb h]
  have := opCp_ren pas hb f g
  unfold opCp at this
  simp only [TV.ren, renL, ftT, OpS.cells, renLL, this, Tok.ren]
def upOk (b : Bs) : Bool := match upP b with
 | .inr _ => true
 | .inl _ => false
def upU (b : Bs) : UpS := match upP b with
 | .inr u => u
 | .inl _ => up0
def upSb (b : Bs) : Int := match upP b with
 | .inr _ => 0
 | .inl p => p.1
def upDt (b : Bs) : Bs := match upP b with
 | .inr _ => []
 | .inl p => p.2
def upcW (b : Bs) : Bs := (upU b).w
def upcO (b : Bs) : Int := (upU b).o
def upcX (b : Bs) : Bs := (upU b).x
def upcH (b : Bs) : Int := (upU b).h
def upcM (b : Bs) : Int := (upU b).m
def upcB (b : Bs) : Bool := (upU b).hm
def upcN (b : Bs) : Bs := (upU b).n
theorem upX_ok {b : Bs} (h : upOk b = true) : upX b = .tup [.agg (upU b).cells, ftT 0 0 []] := by
 unfold upX upV upU
 unfold upOk at h
 cases e : upP b with
 | inl x => rw [e] at h; cases h
 | inr p => rfl
theorem upX_no {b : Bs} (h : upOk b = false) : upX b = .tup [.agg up0.cells, ftT 3 (upSb b) (upDt b)] := by
 unfold upX upV upSb upDt
 unfold upOk at h
 cases e : upP b with
 | inl x => rfl
 | inr p => rw [e] at h; cases h
theorem upDt_ren {b : Bs} (hb : IsB b) (f g : Nat → Option Nat) : renLL f g (upDt b) = upDt b := by
 unfold upDt
 cases e : upP b with
 | inl x => exact upP_dt hb e f g
 | inr p => rfl
theorem upU_ren {b : Bs} (hb : IsB b) (f g : Nat → Option Nat) : renL f g (upU b).cells = (upU b).cells := by
 unfold upU
 cases e : upP b with
 | inl x => rfl
 | inr p =>
  have := upP_ok hb e f g
  simp only [UpS.tv, TV.ren] at this
  injection this
def ntC (b : Bs) : Int := bval (b[0]?.getD [])
def ntS (b : Bs) : Int := bval (b[1]?.getD [])
def ntD (b : Bs) : Bs := b.drop 2
theorem ntX_eq (b : Bs) : ntX b = bif ntO b then .tup [ftT (ntC b) (ntS b) (ntD b), .val (.bool true)] else .tup [ftT 0 0 [], .val (.bool false)] := rfl
theorem ntX_ren {b : Bs} (hb : IsB b) (f g : Nat → Option Nat) : (ntX b).ren f g = ntX b := by
 have := (hb.drop 2).ren f g
 unfold ntX
 cases ntO b
 ·rfl
 ·simp only [cond_true, TV.ren, renL, this, Tok.ren]
structure MsgS where
 k : Int
 op : OpS
 u : UpS
 c : Int
 s : Int
 d : Bs
def MsgS.cells (m : MsgS) : List TV := (.val (.int .i64 m.k)) :: (m.op.cells ++ (m.u.cells ++ [.val (.int .i64 m.c), .val (.int .i64 m.s), .vec 1 m.d .none]))
def m0 : MsgS := ⟨0, op0, up0, 0, 0, []⟩
def msP (b : Bs) (pas : Int) : (Int × Int × Bs) ⊕ MsgS :=
 bif hdOk b then
  (if b.length < 19 then .inl (1, 2, []) else if ¬ hdN b = b.length then .inl (1, 2, szB b) else
  if hdK b = 1 then (bif opOk (b.drop 19) pas then .inr { m0 with k := hdK b, op := opU (b.drop 19) pas } else .inl (2, opSb (b.drop 19) pas, opDt (b.drop 19) pas))
  else if hdK b = 2 then (bif upOk (b.drop 19) then .inr { m0 with k := hdK b, u := upU (b.drop 19) } else .inl (3, upSb (b.drop 19), upDt (b.drop 19)))
  else if hdK b = 3 then (bif ntO (b.drop 19) then .inr { m0 with k := hdK b, c := ntC (b.drop 19), s := ntS (b.drop 19), d := ntD (b.drop 19) } else .inl (1, 2, szB b))
  else .inr { m0 with k := hdK b })
 else .inl (1, hdS b, hdD b)
def msV (p : (Int × Int × Bs) ⊕ MsgS) : TV := match p with
 | .inl (c, s, d) => .tup [.agg m0.cells, ftT c s d]
 | .inr m => .tup [.agg m.cells, ftT 0 0 []]
def msX (b : Bs) (pas : Int) : TV := msV (msP b pas)
def MsOk (m : MsgS) : Prop := ∀ f g, renL f g m.cells = m.cells
theorem renL_app (f g : Nat → Option Nat) (l m : List TV) : renL f g (l ++ m) = renL f g l ++ renL f g m := by simp only [renL_map, List.map_append]
theorem msOk_of {m : MsgS} (h1 : ∀ f g, renL f g m.op.cells = m.op.cells) (h2 : ∀ f g, renL f g m.u.cells = m.u.cells) (h3 : ∀ f g, renLL f g m.d = m.d) : MsOk m := fun f g => by
 simp only [MsgS.cells, renL, renL_app, h1, h2, TV.ren, h3, Tok.ren]
theorem msP_ok {b : Bs} {pas : Int} (hb : IsB b) {m : MsgS} (h : msP b pas = .inr m) : MsOk m := by
  have hd := hb.drop 19
  unfold msP at h
  cases h1 : hdOk b <;> rw [h1] at h <;> simp only [cond_true, cond_false] at h
  · cases h
  split at h
  · cases h
  split at h
  · cases h
  split at h
  · cases h2 : opOk (b.drop 19) pas <;> rw [h2] at h <;> simp only [cond_true, cond_false] at h
    · cases h
    · injection h with h; subst h
      refine msOk_of (fun f g => ?_) (fun _ _ => rfl) (fun _ _ => rfl)
      have := opCp_ren pas hd f g
      unfold opCp at this
      simp only [OpS.cells, renL, TV.ren, this, Tok.ren]
  split at h
  · cases h2 : upOk (b.drop 19) <;> rw [h2] at h <;> simp only [cond_true, cond_false] at h
    · cases h
    · injection h with h; subst h
      exact msOk_of (fun _ _ => rfl) (fun f g => upU_ren hd f g) (fun _ _ => rfl)
  split at h
  · cases h2 : ntO (b.drop 19) <;> rw [h2] at h <;> simp only [cond_true, cond_false] at h
    · cases h
    · injection h with h; subst h
      exact msOk_of (fun _ _ => rfl) (fun _ _ => rfl) (fun f g => (hd.drop 2).ren f g)
  · injection h with h; subst h
    exact msOk_of (fun _ _ => rfl) (fun _ _ => rfl) (fun _ _ => rfl)
theorem msP_dt {b : Bs} {pas : Int} (hb : IsB b) {c s : Int} {d : Bs} (h : msP b pas = .inl (c, s, d)) (f g : Nat → Option Nat) : renLL f g d = d := by
 have hd := hb.drop 19
 have hz : IsB (szB b) := (hb.drop 16).take 2
 unfold msP at h
 cases h1 : hdOk b <;> rw [h1] at h <;> simp only [cond_true, cond_false] at h
 ·injection h with h; injection h with _ h; injection h with _ h; rw [← h]; exact (hdD_is hb).ren f g
 split at h
 ·injection h with h; injection h with _ h; injection h with _ h; rw [← h]; rfl
 split at h
 ·injection h with h; injection h with _ h; injection h with _ h; rw [← h]; exact hz.ren f g
 split at h
 ·cases h2 : opOk (b.drop 19) pas <;> rw [h2] at h <;> simp only [cond_true, cond_false] at h
  ·injection h with h; injection h with _ h; injection h with _ h; rw [← h]; exact opDt_ren pas hd f g
  ·cases h
 split at h
 ·cases h2 : upOk (b.drop 19) <;> rw [h2] at h <;> simp only [cond_true, cond_false] at h
  ·injection h with h; injection h with _ h; injection h with _ h; rw [← h]; exact upDt_ren hd f g
  ·cases h
 split at h
 ·cases h2 : ntO (b.drop 19) <;> rw [h2] at h <;> simp only [cond_true, cond_false] at h
  ·injection h with h; injection h with _ h; injection h with _ h; rw [← h]; exact hz.ren f g
  ·cases h
 ·cases h
theorem msX_ren {b : Bs} (pas : Int) (hb : IsB b) (f g : Nat → Option Nat) : (msX b pas).ren f g = msX b pas := by
 unfold msX msV
 split
 ·rename_i c s d h
  have := msP_dt hb h f g
  have h0 : renL f g m0.cells = m0.cells := rfl
  simp only [TV.ren, renL, ftT, this, h0, Tok.ren]
 ·rename_i m h
  have := msP_ok hb h f g
  simp only [TV.ren, renL, ftT, this, renLL, Tok.ren]
end Go.Proofs.YtogbdjlelkepcaaGreatDoor
namespace Go.Proofs.YtogbdjlelkepcaaGreatDoor
open Go.RowKit

abbrev hdF := 26
abbrev hd11F := 27
abbrev mpF := 28
abbrev mp11F := 29
def hdW : Spec := fun _ ys T K => match ys with
 | [.vec 1 b _] => IsB b ∧ bif hdOk b then K (.tup [.val (.int .i64 (hdN b)), .val (.int .i64 (hdK b)), ftT 0 0 []]) T else K (.tup [.val (.int .i64 0), .val (.int .i64 0), ftT 1 (hdS b) (hdD b)]) T
 | _ => vbad 83 default ys
def opWs : Spec := fun _ ys T K => match ys with
 | [.vec 1 b _, .val (.int .i64 pas)] => IsB b ∧ bif opOk b pas then K (.tup [.agg [.val (.int .i64 (opAs b pas)), .val (.int .i64 (opHo b pas)), .val (.int .u32 (opId b pas)), .vec 2 (opCp b pas) .none], ftT 0 0 []]) T else K (.tup [.agg [.val (.int .i64 0), .val (.int .i64 0), .val (.int .u32 0), .vec 2 [] .none], ftT 2 (opSb b pas) (opDt b pas)]) T
 | _ => vbad 83 default ys
def upWs : Spec := fun _ ys T K => match ys with
 | [.vec 1 b _] => IsB b ∧ bif upOk b then K (.tup [.agg [.vec 2 (upcW b) .none, .val (.int .i64 (upcO b)), .vec 1 (upcX b) .none, .val (.int .u32 (upcH b)), .val (.int .i64 (upcM b)), .val (.bool (upcB b)), .vec 2 (upcN b) .none], ftT 0 0 []]) T
  else K (.tup [.agg [.vec 2 [] .none, .val (.int .i64 0), .vec 1 [] .none, .val (.int .u32 0), .val (.int .i64 0), .val (.bool false), .vec 2 [] .none], ftT 3 (upSb b) (upDt b)]) T
 | _ => vbad 83 default ys
def ntWs : Spec := fun _ ys T K => match ys with
 | [.vec 1 b _] => IsB b ∧ bif ntO b then K (.tup [ftT (ntC b) (ntS b) (ntD b), .val (.bool true)]) T else K (.tup [ftT 0 0 [], .val (.bool false)]) T
 | _ => vbad 83 default ys
def b19 (r0 r1 r2 r3 r4 r5 r6 r7 r8 r9 r10 r11 r12 r13 r14 r15 r16 r17 r18 : List TV) (w : Bs) : Bs := r0 :: r1 :: r2 :: r3 :: r4 :: r5 :: r6 :: r7 :: r8 :: r9 :: r10 :: r11 :: r12 :: r13 :: r14 :: r15 :: r16 :: r17 :: r18 :: w
def z19 (z0 z1 z2 z3 z4 z5 z6 z7 z8 z9 z10 z11 z12 z13 z14 z15 z16 z17 z18 : Int) (w : Bs) : Bs := bT z0 :: bT z1 :: bT z2 :: bT z3 :: bT z4 :: bT z5 :: bT z6 :: bT z7 :: bT z8 :: bT z9 :: bT z10 :: bT z11 :: bT z12 :: bT z13 :: bT z14 :: bT z15 :: bT z16 :: bT z17 :: bT z18 :: w
theorem ev_hd (z0 z1 z2 z3 z4 z5 z6 z7 z8 z9 z10 z11 z12 z13 z14 z15 z16 z17 z18 x : Int) (r : List TV) (w : Bs) (Q : TV → VT → Prop) : vcallF Tryz.prog leastG (specs [(wGeF, getW)]) (tellS [(999998, .dead, none), (71, .elt (.val (.int .i64 x) :: r), none)]) 300 noLp 0 hdF [.vec 1 (z19 z0 z1 z2 z3 z4 z5 z6 z7 z8 z9 z10 z11 z12 z13 z14 z15 z16 z17 z18 w) .none] zz211 Q =
 (bif !decide ((16 : Int) ≤ IntKind.wrap IntKind.i64 ((↑(List.length (z19 z0 z1 z2 z3 z4 z5 z6 z7 z8 z9 z10 z11 z12 z13 z14 z15 z16 z17 z18 w)) : Int) - (2 : Int)))
 then (((@Eq (Option TV) (.some (zz84 z0 z1 z2 z3 z4 z5 z6 z7 z8 z9 z10 z11 z12 z13 z14 z15)) (.some (zz84 z0 z1 z2 z3 z4 z5 z6 z7 z8 z9 z10 z11 z12 z13 z14 z15))) ∧
 True ) ∧
 (bif eqRes BinOp.neq
  (keyEq
    ((fun vs => Value.agg (List.toArray vs))
      ((fun x => Value.int IntKind.u8 z0 :: x)
        ((fun x => Value.int IntKind.u8 z1 :: x)
          ((fun x => Value.int IntKind.u8 z2 :: x)
            ((fun x => Value.int IntKind.u8 z3 :: x)
              ((fun x => Value.int IntKind.u8 z4 :: x)
                ((fun x => Value.int IntKind.u8 z5 :: x)
                  ((fun x => Value.int IntKind.u8 z6 :: x)
                    ((fun x => Value.int IntKind.u8 z7 :: x)
                      ((fun x => Value.int IntKind.u8 z8 :: x) ((fun x => Value.int IntKind.u8 z9 :: x) ((fun x => Value.int IntKind.u8 z10 :: x) ((fun x => Value.int IntKind.u8 z11 :: x) ((fun x => Value.int IntKind.u8 z12 :: x) ((fun x => Value.int IntKind.u8 z13 :: x) ((fun x => Value.int IntKind.u8 z14 :: x) ((fun x => Value.int IntKind.u8 z15 :: x) [])))))))))))))))))
    ((fun vs => Value.agg (List.toArray vs))
      ((fun x => Value.int IntKind.u8 (255 : Int) :: x)
        ((fun x => Value.int IntKind.u8 (255 : Int) :: x)
          ((fun x => Value.int IntKind.u8 (255 : Int) :: x)
            ((fun x => Value.int IntKind.u8 (255 : Int) :: x)
              ((fun x => Value.int IntKind.u8 (255 : Int) :: x)
                ((fun x => Value.int IntKind.u8 (255 : Int) :: x)
                  ((fun x => Value.int IntKind.u8 (255 : Int) :: x)
                    ((fun x => Value.int IntKind.u8 (255 : Int) :: x)
                      ((fun x => Value.int IntKind.u8 (255 : Int) :: x)
                        ((fun x => Value.int IntKind.u8 (255 : Int) :: x) ((fun x => Value.int IntKind.u8 (255 : Int) :: x) ((fun x => Value.int IntKind.u8 (255 : Int) :: x) ((fun x => Value.int IntKind.u8 (255 : Int) :: x) ((fun x => Value.int IntKind.u8 (255 : Int) :: x) ((fun x => Value.int IntKind.u8 (255 : Int) :: x) ((fun x => Value.int IntKind.u8 (255 : Int) :: x) []))))))))))))))))))
 then Q zz83 (zz82 z16 z17)
 else Q zz81 (zz80 z16 z17)))
 else ((IsB ([(zz197 z16), (zz197 z17), (zz197 z18)] ++ w) ∧
 (SmN 2 ∧
 LeN 2 ([(zz197 z16), (zz197 z17), (zz197 z18)] ++ w))) ∧
 (((@Eq (Option TV) (.some (zz84 z0 z1 z2 z3 z4 z5 z6 z7 z8 z9 z10 z11 z12 z13 z14 z15)) (.some (zz84 z0 z1 z2 z3 z4 z5 z6 z7 z8 z9 z10 z11 z12 z13 z14 z15))) ∧
 True ) ∧
 (bif eqRes BinOp.neq
  (keyEq
    ((fun vs => Value.agg (List.toArray vs))
      ((fun x => Value.int IntKind.u8 z0 :: x)
        ((fun x => Value.int IntKind.u8 z1 :: x)
          ((fun x => Value.int IntKind.u8 z2 :: x)
            ((fun x => Value.int IntKind.u8 z3 :: x)
              ((fun x => Value.int IntKind.u8 z4 :: x)
                ((fun x => Value.int IntKind.u8 z5 :: x)
                  ((fun x => Value.int IntKind.u8 z6 :: x)
                    ((fun x => Value.int IntKind.u8 z7 :: x)
                      ((fun x => Value.int IntKind.u8 z8 :: x) ((fun x => Value.int IntKind.u8 z9 :: x) ((fun x => Value.int IntKind.u8 z10 :: x) ((fun x => Value.int IntKind.u8 z11 :: x) ((fun x => Value.int IntKind.u8 z12 :: x) ((fun x => Value.int IntKind.u8 z13 :: x) ((fun x => Value.int IntKind.u8 z14 :: x) ((fun x => Value.int IntKind.u8 z15 :: x) [])))))))))))))))))
    ((fun vs => Value.agg (List.toArray vs))
      ((fun x => Value.int IntKind.u8 (255 : Int) :: x)
        ((fun x => Value.int IntKind.u8 (255 : Int) :: x)
          ((fun x => Value.int IntKind.u8 (255 : Int) :: x)
            ((fun x => Value.int IntKind.u8 (255 : Int) :: x)
              ((fun x => Value.int IntKind.u8 (255 : Int) :: x)
                ((fun x => Value.int IntKind.u8 (255 : Int) :: x)
                  ((fun x => Value.int IntKind.u8 (255 : Int) :: x)
                    ((fun x => Value.int IntKind.u8 (255 : Int) :: x)
                      ((fun x => Value.int IntKind.u8 (255 : Int) :: x)
                        ((fun x => Value.int IntKind.u8 (255 : Int) :: x) ((fun x => Value.int IntKind.u8 (255 : Int) :: x) ((fun x => Value.int IntKind.u8 (255 : Int) :: x) ((fun x => Value.int IntKind.u8 (255 : Int) :: x) ((fun x => Value.int IntKind.u8 (255 : Int) :: x) ((fun x => Value.int IntKind.u8 (255 : Int) :: x) ((fun x => Value.int IntKind.u8 (255 : Int) :: x) []))))))))))))))))))
 then Q zz83 (zz82 z16 z17)
 else (bif decide (IntKind.wrap IntKind.i64 (geN (2 : Int) (List.drop (Int.toNat (16 : Int)) (z19 z0 z1 z2 z3 z4 z5 z6 z7 z8 z9 z10 z11 z12 z13 z14 z15 z16 z17 z18 w))) < (19 : Int))
 then Q zz81 (zz80 z16 z17)
 else (bif decide (IntKind.wrap IntKind.i64 (geN (2 : Int) (List.drop (Int.toNat (16 : Int)) (z19 z0 z1 z2 z3 z4 z5 z6 z7 z8 z9 z10 z11 z12 z13 z14 z15 z16 z17 z18 w))) > (4096 : Int))
 then Q zz81 (zz80 z16 z17)
 else (bif decide (IntKind.wrap IntKind.i64 z18 < (1 : Int))
 then Q (zz79 [[(.val (.int .u8 (z18)))]]) (zz78 [[(.val (.int .u8 (z18)))]] z16 z17 [[(.val (.int .u8 (z18)))]])
 else (bif decide (IntKind.wrap IntKind.i64 z18 > (4 : Int))
 then Q (zz79 [[(.val (.int .u8 (z18)))]]) (zz78 [[(.val (.int .u8 (z18)))]] z16 z17 [[(.val (.int .u8 (z18)))]])
 else (OPure Tryz.prog (fun kk => (bif Nat.beq kk (0 : Nat) then (.some zz77) else .none)) (.indexAddr 112 (.global 0) (.tmp 70)) [(70, (zz1 (IntKind.wrap IntKind.i64 z18)))] (.elt ([(.val (.int .i64 (x)))] ++ r)) ∧
 (bif decide (IntKind.wrap IntKind.i64 (geN (2 : Int) (List.drop (Int.toNat (16 : Int)) (z19 z0 z1 z2 z3 z4 z5 z6 z7 z8 z9 z10 z11 z12 z13 z14 z15 z16 z17 z18 w))) < x)
 then Q zz81 (zz80 z16 z17)
 else (bif eqRes BinOp.eql (k6 (IntKind.wrap IntKind.i64 z18) (4 : Int))
 then (bif decide (IntKind.wrap IntKind.i64 (geN (2 : Int) (List.drop (Int.toNat (16 : Int)) (z19 z0 z1 z2 z3 z4 z5 z6 z7 z8 z9 z10 z11 z12 z13 z14 z15 z16 z17 z18 w))) > (19 : Int))
 then Q zz81 (zz80 z16 z17)
 else Q (zz76 (IntKind.wrap IntKind.i64 (geN (2 : Int) (List.drop (Int.toNat (16 : Int)) (z19 z0 z1 z2 z3 z4 z5 z6 z7 z8 z9 z10 z11 z12 z13 z14 z15 z16 z17 z18 w)))) (IntKind.wrap IntKind.i64 z18)) (zz75 z16 z17))
 else Q (zz76 (IntKind.wrap IntKind.i64 (geN (2 : Int) (List.drop (Int.toNat (16 : Int)) (z19 z0 z1 z2 z3 z4 z5 z6 z7 z8 z9 z10 z11 z12 z13 z14 z15 z16 z17 z18 w)))) (IntKind.wrap IntKind.i64 z18)) (zz75 z16 z17)))))))))))) := by kernel_rfl
theorem ev_hdS (b : Bs) (Q : TV → VT → Prop) : vcallF Tryz.prog leastG (specs [(wGeF, getW)]) (tellS [(999998, .dead, none), (16, .dead, none)]) 300 noLp 0 hdF [.vec 1 b .none] zz211 Q =
 (bif decide ((↑(List.length b) : Int) < (19 : Int))
 then Q zz72 zz190
 else (OPure Tryz.prog (fun kk => (bif Nat.beq kk (0 : Nat) then (.some zz77) else .none)) (.slice 22 (.tmp 15) (.some (.const (.int .i64 16))) (.some (.const (.int .i64 18))) .none) [(15, (zz2 b))] .dead ∧
 False)) := by kernel_rfl
abbrev zzy53 (z16 : Int) (z17 : Int) (z18 : Int) : TV := (zz76 (IntKind.wrap IntKind.i64 (IntKind.wrap IntKind.i64 ((256 : Int) * IntKind.wrap IntKind.i64 z16) + IntKind.wrap IntKind.i64 z17)) (IntKind.wrap IntKind.i64 z18))
theorem ev_h11 (z0 z1 z2 z3 z4 z5 z6 z7 z8 z9 z10 z11 z12 z13 z14 z15 z16 z17 z18 x : Int) (w : Bs) (Q : TV → VT → Prop) : vcallF Tryz.prog noGl noSp (tellS [(999998, .dead, none), (65, .val (.int .i64 x), none)]) 300 noLp 0 hd11F [.vec 1 (z19 z0 z1 z2 z3 z4 z5 z6 z7 z8 z9 z10 z11 z12 z13 z14 z15 z16 z17 z18 w) .none] zz211 Q =
 (bif eqRes BinOp.neq (keyEq (Value.int IntKind.u8 z0) (Value.int IntKind.u8 (255 : Int)))
 then Q zz83 zz71
 else (bif eqRes BinOp.neq (keyEq (Value.int IntKind.u8 z1) (Value.int IntKind.u8 (255 : Int)))
 then Q zz83 zz71
 else (bif eqRes BinOp.neq (keyEq (Value.int IntKind.u8 z2) (Value.int IntKind.u8 (255 : Int)))
 then Q zz83 zz71
 else (bif eqRes BinOp.neq (keyEq (Value.int IntKind.u8 z3) (Value.int IntKind.u8 (255 : Int)))
 then Q zz83 zz71
 else (bif eqRes BinOp.neq (keyEq (Value.int IntKind.u8 z4) (Value.int IntKind.u8 (255 : Int)))
 then Q zz83 zz71
 else (bif eqRes BinOp.neq (keyEq (Value.int IntKind.u8 z5) (Value.int IntKind.u8 (255 : Int)))
 then Q zz83 zz71
 else (bif eqRes BinOp.neq (keyEq (Value.int IntKind.u8 z6) (Value.int IntKind.u8 (255 : Int)))
 then Q zz83 zz71
 else (bif eqRes BinOp.neq (keyEq (Value.int IntKind.u8 z7) (Value.int IntKind.u8 (255 : Int)))
 then Q zz83 zz71
 else (bif eqRes BinOp.neq (keyEq (Value.int IntKind.u8 z8) (Value.int IntKind.u8 (255 : Int)))
 then Q zz83 zz71
 else (bif eqRes BinOp.neq (keyEq (Value.int IntKind.u8 z9) (Value.int IntKind.u8 (255 : Int)))
 then Q zz83 zz71
 else (bif eqRes BinOp.neq (keyEq (Value.int IntKind.u8 z10) (Value.int IntKind.u8 (255 : Int)))
 then Q zz83 zz71
 else (bif eqRes BinOp.neq (keyEq (Value.int IntKind.u8 z11) (Value.int IntKind.u8 (255 : Int)))
 then Q zz83 zz71
 else (bif eqRes BinOp.neq (keyEq (Value.int IntKind.u8 z12) (Value.int IntKind.u8 (255 : Int)))
 then Q zz83 zz71
 else (bif eqRes BinOp.neq (keyEq (Value.int IntKind.u8 z13) (Value.int IntKind.u8 (255 : Int)))
 then Q zz83 zz71
 else (bif eqRes BinOp.neq (keyEq (Value.int IntKind.u8 z14) (Value.int IntKind.u8 (255 : Int)))
 then Q zz83 zz71
 else (bif eqRes BinOp.neq (keyEq (Value.int IntKind.u8 z15) (Value.int IntKind.u8 (255 : Int)))
 then Q zz83 zz71
 else (bif decide (IntKind.wrap IntKind.i64 (IntKind.wrap IntKind.i64 ((256 : Int) * IntKind.wrap IntKind.i64 z16) + IntKind.wrap IntKind.i64 z17) < (19 : Int))
 then Q zz81 (zz69 z16 z17)
 else (bif decide (IntKind.wrap IntKind.i64 (IntKind.wrap IntKind.i64 ((256 : Int) * IntKind.wrap IntKind.i64 z16) + IntKind.wrap IntKind.i64 z17) > (4096 : Int))
 then Q zz81 (zz69 z16 z17)
 else (bif decide (IntKind.wrap IntKind.i64 z18 < (1 : Int))
 then Q (zz79 [[(.val (.int .u8 (z18)))]]) ⟨[(zz67 [[(.val (.int .u8 (z18)))]]), (zz64 z16 z17)], []⟩
 else (bif decide (IntKind.wrap IntKind.i64 z18 > (4 : Int))
 then Q (zz79 [[(.val (.int .u8 (z18)))]]) ⟨[(zz67 [[(.val (.int .u8 (z18)))]]), (zz64 z16 z17)], []⟩
 else (OPure Tryz.prog (fun _ => .none) (.index 112 (.tmp 63) (.tmp 64)) [(63, (.agg [zz4, (.val (.int .i64 29)), (.val (.int .i64 23)), (.val (.int .i64 21)), (.val (.int .i64 19))])), (64, (zz1 (IntKind.wrap IntKind.i64 z18)))] (zz1 x) ∧
 (bif decide (IntKind.wrap IntKind.i64 (IntKind.wrap IntKind.i64 ((256 : Int) * IntKind.wrap IntKind.i64 z16) + IntKind.wrap IntKind.i64 z17) < x)
 then Q zz81 (zz69 z16 z17)
 else (bif eqRes BinOp.eql (k6 (IntKind.wrap IntKind.i64 z18) (4 : Int))
 then (bif eqRes BinOp.neq (k6 (IntKind.wrap IntKind.i64 (IntKind.wrap IntKind.i64 ((256 : Int) * IntKind.wrap IntKind.i64 z16) + IntKind.wrap IntKind.i64 z17)) (19 : Int))
 then Q zz81 (zz69 z16 z17)
 else Q (zzy53 z16 z17 z18) (zz65 z16 z17))
 else Q (zzy53 z16 z17 z18) (zz65 z16 z17)))))))))))))))))))))))) := by kernel_rfl
theorem ev_h11S (b : Bs) (Q : TV → VT → Prop) : vcallF Tryz.prog noGl noSp (tellS [(999998, .dead, none), (15, .dead, none)]) 300 noLp 0 hd11F [.vec 1 b .none] zz211 Q =
 (bif decide ((↑(List.length b) : Int) < (19 : Int))
 then Q zz72 zz190
 else (OPure Tryz.prog (fun _ => .none) (.slice 22 (.tmp 14) .none (.some (.const (.int .i64 16))) .none) [(14, (zz2 b))] .dead ∧
 False)) := by kernel_rfl
abbrev zzy54 (BB : Bs) : VO := (zz53 (hdK BB) (upcW (List.drop (Int.toNat (19 : Int)) BB)) (upcO (List.drop (Int.toNat (19 : Int)) BB)) (upcX (List.drop (Int.toNat (19 : Int)) BB)) (upcH (List.drop (Int.toNat (19 : Int)) BB)) (upcM (List.drop (Int.toNat (19 : Int)) BB)) (upcB (List.drop (Int.toNat (19 : Int)) BB)) (upcN (List.drop (Int.toNat (19 : Int)) BB)))
abbrev zzy55 (BB : Bs) (pas : Int) : VO := (zz58 (hdK BB) (opAs (List.drop (Int.toNat (19 : Int)) BB) pas) (opHo (List.drop (Int.toNat (19 : Int)) BB) pas) (opId (List.drop (Int.toNat (19 : Int)) BB) pas) (opCp (List.drop (Int.toNat (19 : Int)) BB) pas))
abbrev zzy56 (BB : Bs) : VO := (zz48 (hdK BB) (ntC (List.drop (Int.toNat (19 : Int)) BB)) (ntS (List.drop (Int.toNat (19 : Int)) BB)) (ntD (List.drop (Int.toNat (19 : Int)) BB)))
abbrev zzy57 (BB : Bs) : VO := (zz112 (upSb (List.drop (Int.toNat (19 : Int)) BB)) (upDt (List.drop (Int.toNat (19 : Int)) BB)))
abbrev zzy58 (BB : Bs) (pas : Int) : VO := (zz56 (opSb (List.drop (Int.toNat (19 : Int)) BB) pas) (opDt (List.drop (Int.toNat (19 : Int)) BB) pas))
theorem ev_mp (r0 r1 r2 r3 r4 r5 r6 r7 r8 r9 r10 r11 r12 r13 r14 r15 r16 r17 r18 : List TV) (w : Bs) (pas : Int) (Q : TV → VT → Prop) : vcallF Tryz.prog leastG (specs [(hdF, hdW), (opF, opWs), (upF, upWs), (ntF, ntWs)]) (tellS [(999999, .dead, none)]) 300 noLp 0 mpF [.vec 1 (b19 r0 r1 r2 r3 r4 r5 r6 r7 r8 r9 r10 r11 r12 r13 r14 r15 r16 r17 r18 w) .none, .val (.int .i64 pas)] zz211 Q =
 (fun BB : Bs =>(IsB ([(r0), (r1), (r2), (r3), (r4), (r5), (r6), (r7), (r8), (r9), (r10), (r11), (r12), (r13), (r14), (r15), (r16), (r17), (r18)] ++ w) ∧
 (bif hdOk BB
 then (bif eqRes BinOp.neq (k6 (hdN BB) (↑(List.length BB) : Int))
 then Q zz61 ⟨[zz22, zz60, zz6, zz60, (.row (List.flatten (List.drop (Int.toNat (16 : Int)) (List.take (Int.toNat (18 : Int)) BB))))], []⟩
 else (bif eqRes BinOp.eql (k6 (hdK BB) (1 : Int))
 then (IsB (w) ∧
 (bif opOk (List.drop (Int.toNat (19 : Int)) BB) pas
 then Q (zz59 (hdK BB) (opAs (List.drop (Int.toNat (19 : Int)) BB) pas) (opHo (List.drop (Int.toNat (19 : Int)) BB) pas) (opId (List.drop (Int.toNat (19 : Int)) BB) pas) (opCp (List.drop (Int.toNat (19 : Int)) BB) pas)) ⟨[(zzy55 BB pas), zz62, zz6, zz60, (.row (List.flatten (List.drop (Int.toNat (16 : Int)) (List.take (Int.toNat (18 : Int)) BB)))), (zzy55 BB pas)], []⟩
 else Q (zz57 (opSb (List.drop (Int.toNat (19 : Int)) BB) pas) (opDt (List.drop (Int.toNat (19 : Int)) BB) pas)) ⟨[zz22, (zzy58 BB pas), (zzy58 BB pas), zz60, (.row (List.flatten (List.drop (Int.toNat (16 : Int)) (List.take (Int.toNat (18 : Int)) BB)))), (zz55 (hdK BB))], []⟩))
 else (bif eqRes BinOp.eql (k6 (hdK BB) (2 : Int))
 then (IsB (w) ∧
 (bif upOk (List.drop (Int.toNat (19 : Int)) BB)
 then Q (zz54 (hdK BB) (upcW (List.drop (Int.toNat (19 : Int)) BB)) (upcO (List.drop (Int.toNat (19 : Int)) BB)) (upcX (List.drop (Int.toNat (19 : Int)) BB)) (upcH (List.drop (Int.toNat (19 : Int)) BB)) (upcM (List.drop (Int.toNat (19 : Int)) BB)) (upcB (List.drop (Int.toNat (19 : Int)) BB)) (upcN (List.drop (Int.toNat (19 : Int)) BB))) ⟨[(zzy54 BB), zz62, zz6, zz60, (.row (List.flatten (List.drop (Int.toNat (16 : Int)) (List.take (Int.toNat (18 : Int)) BB)))), (zzy54 BB)], []⟩
 else Q (zz52 (upSb (List.drop (Int.toNat (19 : Int)) BB)) (upDt (List.drop (Int.toNat (19 : Int)) BB))) ⟨[zz22, (zzy57 BB), (zzy57 BB), zz60, (.row (List.flatten (List.drop (Int.toNat (16 : Int)) (List.take (Int.toNat (18 : Int)) BB)))), (zz50 (hdK BB))], []⟩))
 else (bif eqRes BinOp.eql (k6 (hdK BB) (3 : Int))
 then (IsB (w) ∧
 (bif ntO (List.drop (Int.toNat (19 : Int)) BB)
 then Q (zz49 (hdK BB) (ntC (List.drop (Int.toNat (19 : Int)) BB)) (ntS (List.drop (Int.toNat (19 : Int)) BB)) (ntD (List.drop (Int.toNat (19 : Int)) BB))) ⟨[(zzy56 BB), zz62, zz6, zz60, (.row (List.flatten (List.drop (Int.toNat (16 : Int)) (List.take (Int.toNat (18 : Int)) BB)))), (zzy56 BB), (zz11 (ntC (List.drop (Int.toNat (19 : Int)) BB)) (ntS (List.drop (Int.toNat (19 : Int)) BB)) (ntD (List.drop (Int.toNat (19 : Int)) BB)))], []⟩
 else Q zz61 ⟨[zz22, zz60, zz60, zz60, (.row (List.flatten (List.drop (Int.toNat (16 : Int)) (List.take (Int.toNat (18 : Int)) BB)))), (zz47 (hdK BB)), zz6], []⟩))
 else Q (zz46 (hdK BB)) ⟨[(zz44 (hdK BB)), zz62, zz6, zz60, (.row (List.flatten (List.drop (Int.toNat (16 : Int)) (List.take (Int.toNat (18 : Int)) BB)))), (zz44 (hdK BB))], []⟩))))
 else Q (zz43 (hdS BB) (hdD BB)) (zz42 (hdS BB) (hdD BB) (hdS BB) (hdD BB))))) (b19 r0 r1 r2 r3 r4 r5 r6 r7 r8 r9 r10 r11 r12 r13 r14 r15 r16 r17 r18 w) := by kernel_rfl
theorem ev_mpS (b : Bs) (pas : Int) (Q : TV → VT → Prop) : vcallF Tryz.prog leastG (specs [(hdF, hdW)]) (tellS [(999999, .dead, none), (36, .dead, none)]) 300 noLp 0 mpF [.vec 1 b .none, .val (.int .i64 pas)] zz211 Q =
 (IsB (b) ∧
 (bif hdOk b
 then (bif decide ((↑(List.length b) : Int) < (19 : Int))
 then Q zz41 ⟨[zz22, zz40, zz6, zz40], []⟩
 else (OPure Tryz.prog (fun kk => (bif Nat.beq kk (0 : Nat) then (.some zz77) else .none)) (.slice 22 (.tmp 35) (.some (.const (.int .i64 16))) (.some (.const (.int .i64 18))) .none) [(35, (zz2 b))] .dead ∧
 False))
 else Q (zz43 (hdS b) (hdD b)) (zz42 (hdS b) (hdD b) (hdS b) (hdD b)))) := by kernel_rfl
theorem ev_m11 (r0 r1 r2 r3 r4 r5 r6 r7 r8 r9 r10 r11 r12 r13 r14 r15 r16 r17 r18 : List TV) (w : Bs) (pas : Int) (Q : TV → VT → Prop) : vcallF Tryz.prog noGl (specs [(hd11F, hdW), (q8F, opWs), (q9F, upWs), (r10F, ntWs)]) (tellS [(999999, .dead, none)]) 300 noLp 0 mp11F [.vec 1 (b19 r0 r1 r2 r3 r4 r5 r6 r7 r8 r9 r10 r11 r12 r13 r14 r15 r16 r17 r18 w) .none, .val (.int .i64 pas)] zz211 Q =
 (fun BB : Bs =>(IsB ([(r0), (r1), (r2), (r3), (r4), (r5), (r6), (r7), (r8), (r9), (r10), (r11), (r12), (r13), (r14), (r15), (r16), (r17), (r18)] ++ w) ∧
 (bif hdOk BB
 then (bif eqRes BinOp.neq (k6 (hdN BB) (↑(List.length BB) : Int))
 then Q (.tup [zz38, (.agg [zz0, zz39, (.row 1 3 0 2)])]) ⟨[zz22, (.cells [zz0, zz39, (.row 1 3 0 2)]), zz6, (.row (List.flatten (chunks (TypeInfo.size (Tables.types (Program.toTables Tryz.prog))[(5 : Nat)]) (0 : Nat) (List.map TV.val (zeros (Value.cells (Value.int IntKind.u8 (0 : Int))) ((0 : Nat) * TypeInfo.size (Tables.types (Program.toTables Tryz.prog))[(5 : Nat)])))) ++
  List.flatten (List.drop (Int.toNat (16 : Int)) (List.take (Int.toNat (18 : Int)) BB))))], []⟩
 else (bif eqRes BinOp.eql (k6 (hdK BB) (1 : Int))
 then (IsB (w) ∧
 (bif opOk (List.drop (Int.toNat (19 : Int)) BB) pas
 then Q (zz59 (hdK BB) (opAs (List.drop (Int.toNat (19 : Int)) BB) pas) (opHo (List.drop (Int.toNat (19 : Int)) BB) pas) (opId (List.drop (Int.toNat (19 : Int)) BB) pas) (opCp (List.drop (Int.toNat (19 : Int)) BB) pas)) ⟨[(zzy55 BB pas), zz62, zz6, (zzy55 BB pas)], []⟩
 else Q (zz57 (opSb (List.drop (Int.toNat (19 : Int)) BB) pas) (opDt (List.drop (Int.toNat (19 : Int)) BB) pas)) ⟨[zz22, (zzy58 BB pas), (zzy58 BB pas), (zz55 (hdK BB))], []⟩))
 else (bif eqRes BinOp.eql (k6 (hdK BB) (2 : Int))
 then (IsB (w) ∧
 (bif upOk (List.drop (Int.toNat (19 : Int)) BB)
 then Q (zz54 (hdK BB) (upcW (List.drop (Int.toNat (19 : Int)) BB)) (upcO (List.drop (Int.toNat (19 : Int)) BB)) (upcX (List.drop (Int.toNat (19 : Int)) BB)) (upcH (List.drop (Int.toNat (19 : Int)) BB)) (upcM (List.drop (Int.toNat (19 : Int)) BB)) (upcB (List.drop (Int.toNat (19 : Int)) BB)) (upcN (List.drop (Int.toNat (19 : Int)) BB))) ⟨[(zzy54 BB), zz62, zz6, (zzy54 BB)], []⟩
 else Q (zz52 (upSb (List.drop (Int.toNat (19 : Int)) BB)) (upDt (List.drop (Int.toNat (19 : Int)) BB))) ⟨[zz22, (zzy57 BB), (zzy57 BB), (zz50 (hdK BB))], []⟩))
 else (bif eqRes BinOp.eql (k6 (hdK BB) (3 : Int))
 then (IsB (w) ∧
 (bif ntO (List.drop (Int.toNat (19 : Int)) BB)
 then Q (zz49 (hdK BB) (ntC (List.drop (Int.toNat (19 : Int)) BB)) (ntS (List.drop (Int.toNat (19 : Int)) BB)) (ntD (List.drop (Int.toNat (19 : Int)) BB))) ⟨[(zzy56 BB), zz62, zz6, (zzy56 BB), (zz11 (ntC (List.drop (Int.toNat (19 : Int)) BB)) (ntS (List.drop (Int.toNat (19 : Int)) BB)) (ntD (List.drop (Int.toNat (19 : Int)) BB)))], []⟩
 else Q (.tup [zz38, (.agg [zz0, zz39, (.row 1 5 0 2)])]) ⟨[zz22, (.cells [zz0, zz39, (.row 1 5 0 2)]), (.cells [zz0, zz39, (.row 1 5 0 2)]), (zz47 (hdK BB)), zz6, (.row (List.flatten (chunks (TypeInfo.size (Tables.types (Program.toTables Tryz.prog))[(5 : Nat)]) (0 : Nat) (List.map TV.val (zeros (Value.cells (Value.int IntKind.u8 (0 : Int))) ((0 : Nat) * TypeInfo.size (Tables.types (Program.toTables Tryz.prog))[(5 : Nat)])))) ++
  List.flatten (List.drop (Int.toNat (16 : Int)) (List.take (Int.toNat (18 : Int)) BB))))], []⟩))
 else Q (zz46 (hdK BB)) ⟨[(zz44 (hdK BB)), zz62, zz6, (zz44 (hdK BB))], []⟩))))
 else Q (zz43 (hdS BB) (hdD BB)) (zz37 (hdS BB) (hdD BB) (hdS BB) (hdD BB))))) (b19 r0 r1 r2 r3 r4 r5 r6 r7 r8 r9 r10 r11 r12 r13 r14 r15 r16 r17 r18 w) := by kernel_rfl
theorem ev_m11S (b : Bs) (pas : Int) (Q : TV → VT → Prop) : vcallF Tryz.prog noGl (specs [(hd11F, hdW)]) (tellS [(999999, .dead, none), (28, .dead, none)]) 300 noLp 0 mp11F [.vec 1 b .none, .val (.int .i64 pas)] zz211 Q =
 (IsB (b) ∧
 (bif hdOk b
 then (bif decide ((↑(List.length b) : Int) < (19 : Int))
 then Q zz41 ⟨[zz22, zz40, zz6], []⟩
 else (OPure Tryz.prog (fun _ => .none) (.move (.tmp 6)) [(6, (zz1 (hdN b)))] .dead ∧
 False))
 else Q (zz43 (hdS b) (hdD b)) (zz37 (hdS b) (hdD b) (hdS b) (hdD b)))) := by kernel_rfl
end Go.Proofs.YtogbdjlelkepcaaGreatDoor
namespace Go.Proofs.YtogbdjlelkepcaaGreatDoor
open Go.RowKit

theorem VCx.fz0 {P : Program} {G : Globs} {f : FuncId} {xs : List TV} {y : TV} (hy : ∀ f g, y.ren f g = y) (h : VCx P G 0 f xs ⟨[], []⟩ fun x T' => ∃ T2, FzLe T' x y T2 ∧ T'.objs.length ≤ T2.objs.length) : VCx P G 0 f xs ⟨[], []⟩ fun x T' => x = y ∧ T' = ⟨[], []⟩ := by
 refine VCx.keepQ 0 0 (Nat.le_refl _) (Nat.le_refl _) ((VCx.toFz (y := y) (Q := fun _ => True) (h.mono fun x T' ⟨T2, h1, h2⟩ => ⟨T2, h1, h2, trivial⟩)).mono ?_)
 rintro x T' ⟨rfl, _⟩
 exact ⟨hy _ _, rfl⟩
def FzX (T : VT) (x y : TV) : Prop := ∃ T2, FzLe T x y T2 ∧ T.objs.length ≤ T2.objs.length
theorem FzX.le {T : VT} {x y : TV} (h : TVle x y) : FzX T x y := ⟨T, .le h, Nat.le_refl _⟩
theorem FzX.row {T : VT} {size id n : Nat} {es : Bs} (h : rowsR T size (.row size id 0 n) = some es) : FzX T (.row size id 0 n) (.vec size es .none) := ⟨_, .row h, by simp [VT.kill]⟩
theorem un1 {n : Nat} {l : List Int} (h : n + 1 ≤ l.length) : ∃ z l', l = z :: l' ∧ n ≤ l'.length := by
 cases l with
 | nil => simp at h
 | cons z l => exact ⟨z, l, rfl, by simpa using h⟩
def inZ (z : Int) : Prop := 0 ≤ z ∧ z < 256
theorem inZ.wrap {z : Int} (h : inZ z) : IntKind.wrap IntKind.i64 z = z := wrap_id (by have := h.1; omega) (by have := h.2; omega)
theorem z19_of {b : Bs} (hb : IsB b) (h : 19 ≤ b.length) : ∃ (z0 z1 z2 z3 z4 z5 z6 z7 z8 z9 z10 z11 z12 z13 z14 z15 z16 z17 z18 : Int) (w : Bs), b = z19 z0 z1 z2 z3 z4 z5 z6 z7 z8 z9 z10 z11 z12 z13 z14 z15 z16 z17 z18 w ∧ inZ z0 ∧ inZ z1 ∧ inZ z2 ∧ inZ z3 ∧ inZ z4 ∧ inZ z5 ∧ inZ z6 ∧ inZ z7 ∧ inZ z8 ∧ inZ z9 ∧ inZ z10 ∧ inZ z11 ∧ inZ z12 ∧ inZ z13 ∧ inZ z14 ∧ inZ z15 ∧ inZ z16 ∧ inZ z17 ∧ inZ z18 := by
 obtain ⟨⟨l, rfl, hl⟩, _⟩ := hb
 have h : 19 ≤ l.length := by simpa [bV] using h
 obtain ⟨z0, l0, e0, h0⟩ := un1 h
 subst e0
 obtain ⟨z1, l1, e1, h1⟩ := un1 h0
 subst e1
 obtain ⟨z2, l2, e2, h2⟩ := un1 h1
 subst e2
 obtain ⟨z3, l3, e3, h3⟩ := un1 h2
 subst e3
 obtain ⟨z4, l4, e4, h4⟩ := un1 h3
 subst e4
 obtain ⟨z5, l5, e5, h5⟩ := un1 h4
 subst e5
 obtain ⟨z6, l6, e6, h6⟩ := un1 h5
 subst e6
 obtain ⟨z7, l7, e7, h7⟩ := un1 h6
 subst e7
 obtain ⟨z8, l8, e8, h8⟩ := un1 h7
 subst e8
 obtain ⟨z9, l9, e9, h9⟩ := un1 h8
 subst e9
 obtain ⟨z10, l10, e10, h10⟩ := un1 h9
 subst e10
 obtain ⟨z11, l11, e11, h11⟩ := un1 h10
 subst e11
 obtain ⟨z12, l12, e12, h12⟩ := un1 h11
 subst e12
 obtain ⟨z13, l13, e13, h13⟩ := un1 h12
 subst e13
 obtain ⟨z14, l14, e14, h14⟩ := un1 h13
 subst e14
 obtain ⟨z15, l15, e15, h15⟩ := un1 h14
 subst e15
 obtain ⟨z16, l16, e16, h16⟩ := un1 h15
 subst e16
 obtain ⟨z17, l17, e17, h17⟩ := un1 h16
 subst e17
 obtain ⟨z18, l18, e18, h18⟩ := un1 h17
 subst e18
 refine ⟨z0, z1, z2, z3, z4, z5, z6, z7, z8, z9, z10, z11, z12, z13, z14, z15, z16, z17, z18, bV l18, rfl, hl z0 (by simp), hl z1 (by simp), hl z2 (by simp), hl z3 (by simp), hl z4 (by simp), hl z5 (by simp), hl z6 (by simp), hl z7 (by simp), hl z8 (by simp), hl z9 (by simp), hl z10 (by simp), hl z11 (by simp), hl z12 (by simp), hl z13 (by simp), hl z14 (by simp), hl z15 (by simp), hl z16 (by simp), hl z17 (by simp), hl z18 (by simp)⟩
theorem eqAll_255 : ∀ l : List Int, eqAll (l.map (Value.int .u8)) (l.map fun _ => Value.int .u8 255) = (bV l).all fun r => decide (bval r = 255)
 | [] => rfl
 | z :: l => by
  have h := eqAll_255 l
  have e : cellEq (Value.int .u8 z) (Value.int .u8 255) = decide (z = 255) := by simp [cellEq, Bool.beq_eq_decide_eq]
  simp only [List.map_cons, eqAll, bV, List.all_cons, e] at h ⊢
  rw [show bval (bT z) = z from rfl]
  rw [h]
  cases decide (z = 255) <;> rfl
theorem geN2_lt {b : Bs} (hb : IsB b) : 0 ≤ geN 2 b ∧ geN 2 b < 65536 := by
 obtain ⟨⟨l, hl, hz⟩, _⟩ := hb.take 2
 have hlen : l.length ≤ 2 := by
  have := congrArg List.length hl
  simp only [bV, List.length_map, List.length_take] at this
  omega
 have h := beB_lt hz
 unfold geN
 rw [show (2 : Int).toNat = 2 from rfl, hl]
 refine ⟨h.1, Int.lt_of_lt_of_le h.2 ?_⟩
 have : l.length = 0 ∨ l.length = 1 ∨ l.length = 2 := by omega
 rcases this with h | h | h <;> rw [h] <;> decide
def leRest (k : Int) : List TV := ([.val (.int .i64 0), .val (.int .i64 29), .val (.int .i64 23), .val (.int .i64 21), .val (.int .i64 19)] : List TV).drop (k.toNat + 1)
theorem look_least {k : Int} (h1 : 1 ≤ k) (h4 : k ≤ 4) : OPure Tryz.prog leastG (.indexAddr 112 (.global 0) (.tmp 70)) [(70, (.val (.int .i64 k)))] (.elt ([.val (.int .i64 (hdLe k))] ++ leRest k)) := by
 have h : k = 1 ∨ k = 2 ∨ k = 3 ∨ k = 4 := by omega
 rcases h with rfl | rfl | rfl | rfl <;> exact ⟨by kernel_rfl⟩
theorem look_five {k : Int} (h1 : 1 ≤ k) (h4 : k ≤ 4) : OPure Tryz.prog noGl (.index 112 (.tmp 63) (.tmp 64)) [(63, (.agg [(.val (.int .i64 0)), (.val (.int .i64 29)), (.val (.int .i64 23)), (.val (.int .i64 21)), (.val (.int .i64 19))])), (64, (.val (.int .i64 k)))] (.val (.int .i64 (hdLe k))) := by
 have h : k = 1 ∨ k = 2 ∨ k = 3 ∨ k = 4 := by omega
 rcases h with rfl | rfl | rfl | rfl <;> exact ⟨by kernel_rfl⟩
section
variable {b : Bs}
theorem hd_bad {s : Int} {d : Bs} {dz : TV} {T' : VT} (h : hdP b = .inl (s, d)) (hd : FzX T' dz (.vec 1 d .none)) : FzX T' (.tup [.val (.int .i64 0), .val (.int .i64 0), .agg [.val (.int .i64 1), .val (.int .i64 s), dz]]) (hdX b) := by
 obtain ⟨T2, h1, h2⟩ := hd
 unfold hdX hdV
 rw [h]
 exact ⟨T2, .tup (.le (.le (.cons (.agg (.le (.le (.cons h1 .nil)))) .nil))), h2⟩
theorem hd_good {n k : Int} {T' : VT} (h : hdP b = .inr (n, k)) : FzX T' (.tup [.val (.int .i64 n), .val (.int .i64 k), .agg [.val (.int .i64 0), .val (.int .i64 0), .val (.slice none 0 0)]]) (hdX b) := by
 unfold hdX hdV
 rw [h]
 exact .le (.tup ⟨.refl _, .refl _, .agg ⟨.refl _, .refl _, .nil 1, trivial⟩, trivial⟩)
theorem hdP_long (h : ¬ b.length < 19) : hdP b = bif all255 b then
  (if hzN b < 19 ∨ hzN b > 4096 then .inl (2, szB b) else if hzK b < 1 ∨ hzK b > 4 then .inl (3, kdB b)
  else if hzN b < hdLe (hzK b) ∨ (hzK b = 4 ∧ ¬ hzN b = 19) then .inl (2, szB b) else .inr (hzN b, hzK b))
 else .inl (1, []) := by unfold hdP; rw [if_neg h]
end
theorem row2 {z16 z17 : Int} {T' : VT} {id : Nat} (h : T'.objs[id]? = some (.row [.val (.int .u8 z16), .val (.int .u8 z17)])) : FzX T' (.row 1 id 0 2) (.vec 1 [bT z16, bT z17] .none) :=
 .row (rowsR_flat (es := [bT z16, bT z17]) h (by intro e he; simp only [List.mem_cons, List.not_mem_nil, or_false] at he; rcases he with rfl | rfl <;> rfl))
theorem getSp : SpecsOk Tryz.prog leastG (specs [(wGeF, getW)]) := specs_ok fun p hp => by
 obtain rfl := List.mem_singleton.1 hp; exact fun ro ys T K h => VCx.anyG (getW_ok ro ys T K h)
set_option maxHeartbeats 1000000 in
theorem hd_vcx {b : Bs} (hb : IsB b) : VCx Tryz.prog leastG 0 hdF [.vec 1 b .none] ⟨[], []⟩ fun x T' => x = hdX b ∧ T' = ⟨[], []⟩ := by
 refine VCx.fz0 (hdX_ren hb) ?_
 by_cases hlen : b.length < 19
 ·refine vcallF_is mixedB_Tryz bodiesB_Tryz getSp lsOk_none (ev_hdS b _) ?_
  exact condT (decide_eq_true (show ((b.length : Nat) : Int) < 19 by omega)) (hd_good (by unfold hdP; rw [if_pos hlen]))
 obtain ⟨z0, z1, z2, z3, z4, z5, z6, z7, z8, z9, z10, z11, z12, z13, z14, z15, z16, z17, z18, w, rfl, i0, i1, i2, i3, i4, i5, i6, i7, i8, i9, i10, i11, i12, i13, i14, i15, i16, i17, i18⟩ := z19_of hb (by omega)
 have hl : ¬ (z19 z0 z1 z2 z3 z4 z5 z6 z7 z8 z9 z10 z11 z12 z13 z14 z15 z16 z17 z18 w).length < 19 := by simp [z19]
 have hP := hdP_long hl
 have hN := geN2_lt (hb.drop 16)
 have hsz : szB (z19 z0 z1 z2 z3 z4 z5 z6 z7 z8 z9 z10 z11 z12 z13 z14 z15 z16 z17 z18 w) = [bT z16, bT z17] := rfl
 have hkd : kdB (z19 z0 z1 z2 z3 z4 z5 z6 z7 z8 z9 z10 z11 z12 z13 z14 z15 z16 z17 z18 w) = [bT z18] := rfl
 have hk : hzK (z19 z0 z1 z2 z3 z4 z5 z6 z7 z8 z9 z10 z11 z12 z13 z14 z15 z16 z17 z18 w) = z18 := rfl
 change 0 ≤ hzN (z19 z0 z1 z2 z3 z4 z5 z6 z7 z8 z9 z10 z11 z12 z13 z14 z15 z16 z17 z18 w) ∧ hzN (z19 z0 z1 z2 z3 z4 z5 z6 z7 z8 z9 z10 z11 z12 z13 z14 z15 z16 z17 z18 w) < 65536 at hN
 rw [hsz, hkd, hk] at hP
 have hwk : IntKind.wrap IntKind.i64 z18 = z18 := i18.wrap
 have hwn : IntKind.wrap IntKind.i64 (geN (2 : Int) (List.drop (Int.toNat (16 : Int)) (z19 z0 z1 z2 z3 z4 z5 z6 z7 z8 z9 z10 z11 z12 z13 z14 z15 z16 z17 z18 w))) = hzN (z19 z0 z1 z2 z3 z4 z5 z6 z7 z8 z9 z10 z11 z12 z13 z14 z15 z16 z17 z18 w) := wrap_id (z := hzN (z19 z0 z1 z2 z3 z4 z5 z6 z7 z8 z9 z10 z11 z12 z13 z14 z15 z16 z17 z18 w)) (by omega) (by omega)
 have hsm := hb.small
 have hll : (z19 z0 z1 z2 z3 z4 z5 z6 z7 z8 z9 z10 z11 z12 z13 z14 z15 z16 z17 z18 w).length = w.length + 19 := rfl
 refine vcallF_is mixedB_Tryz bodiesB_Tryz getSp lsOk_none (ev_hd z0 z1 z2 z3 z4 z5 z6 z7 z8 z9 z10 z11 z12 z13 z14 z15 z16 z17 z18 (hdLe z18) (leRest z18) w _) ?_
 rw [hwn, hwk]
 generalize hzN (z19 z0 z1 z2 z3 z4 z5 z6 z7 z8 z9 z10 z11 z12 z13 z14 z15 z16 z17 z18 w) = n at hP hN
 refine condF (by rw [wrap_id (by omega) (by omega), decide_eq_true (by omega)]; rfl) ⟨⟨hb.drop 16, ⟨by decide, by decide⟩, by show (2 : Int) ≤ _; simp only [List.length_append, List.length_cons, List.length_nil]; omega⟩, ⟨rfl, trivial⟩, ?_⟩
 have hall := eqAll_255 [z0, z1, z2, z3, z4, z5, z6, z7, z8, z9, z10, z11, z12, z13, z14, z15]
 refine cond_of (fun c => ?_) (fun c => ?_)
 ·have c2 : (!all255 (z19 z0 z1 z2 z3 z4 z5 z6 z7 z8 z9 z10 z11 z12 z13 z14 z15 z16 z17 z18 w)) = true := Eq.trans (congrArg Bool.not hall).symm c
  have c3 : all255 (z19 z0 z1 z2 z3 z4 z5 z6 z7 z8 z9 z10 z11 z12 z13 z14 z15 z16 z17 z18 w) = false := by simpa using c2
  exact hd_bad (by rw [hP, c3]; rfl) (.le (.nil 1))
 have c2 : (!all255 (z19 z0 z1 z2 z3 z4 z5 z6 z7 z8 z9 z10 z11 z12 z13 z14 z15 z16 z17 z18 w)) = false := Eq.trans (congrArg Bool.not hall).symm c
 have c3 : all255 (z19 z0 z1 z2 z3 z4 z5 z6 z7 z8 z9 z10 z11 z12 z13 z14 z15 z16 z17 z18 w) = true := by simpa using c2
 rw [c3, cond_true] at hP
 refine cond_of (fun d1 => ?_) (fun d1 => ?_)
 ·exact hd_bad (by rw [hP, if_pos (.inl (of_decide_eq_true d1))]) (row2 rfl)
 replace d1 := of_decide_eq_false d1
 refine cond_of (fun d2 => ?_) (fun d2 => ?_)
 ·exact hd_bad (by rw [hP, if_pos (.inr (of_decide_eq_true d2))]) (row2 rfl)
 replace d2 := of_decide_eq_false d2
 rw [if_neg (show ¬ (n < 19 ∨ n > 4096) by omega)] at hP
 refine cond_of (fun d3 => ?_) (fun d3 => ?_)
 ·exact hd_bad (by rw [hP, if_pos (.inl (of_decide_eq_true d3))]; rfl) (.le (.vec 1 _ _))
 replace d3 := of_decide_eq_false d3
 refine cond_of (fun d4 => ?_) (fun d4 => ?_)
 ·exact hd_bad (by rw [hP, if_pos (.inr (of_decide_eq_true d4))]; rfl) (.le (.vec 1 _ _))
 replace d4 := of_decide_eq_false d4
 rw [if_neg (show ¬ (z18 < 1 ∨ z18 > 4) by omega)] at hP
 refine ⟨look_least (by omega) (by omega), ?_⟩
 refine cond_of (fun d5 => ?_) (fun d5 => ?_)
 ·exact hd_bad (by rw [hP, if_pos (.inl (of_decide_eq_true d5))]) (row2 rfl)
 replace d5 := of_decide_eq_false d5
 refine cond_of (fun d6 => ?_) (fun d6 => ?_)
 ·replace d6 := eqIt d6
  refine cond_of (fun d7 => ?_) (fun d7 => ?_)
  ·replace d7 := of_decide_eq_true d7
   exact hd_bad (by rw [hP, if_pos (.inr ⟨d6, by omega⟩)]) (row2 rfl)
  ·replace d7 := of_decide_eq_false d7
   exact hd_good (by rw [hP, if_neg (by omega)])
 ·replace d6 := eqIf d6
  exact hd_good (by rw [hP, if_neg (by omega)])
set_option maxHeartbeats 1000000 in
theorem h11_vcx {b : Bs} (hb : IsB b) : VCx Tryz.prog noGl 0 hd11F [.vec 1 b .none] ⟨[], []⟩ fun x T' => x = hdX b ∧ T' = ⟨[], []⟩ := by
  refine VCx.fz0 (hdX_ren hb) ?_
  by_cases hlen : b.length < 19
  · refine vcallF_is mixedB_Tryz bodiesB_Tryz specsOk_none lsOk_none (ev_h11S b _) ?_
    exact condT (decide_eq_true (show ((b.length : Nat) : Int) < 19 by omega)) (hd_good (by unfold hdP; rw [if_pos hlen]))
  obtain ⟨z0, z1, z2, z3, z4, z5, z6, z7, z8, z9, z10, z11, z12, z13, z14, z15, z16, z17, z18, w, rfl, i0, i1, i2, i3, i4, i5, i6, i7, i8, i9, i10, i11, i12, i13, i14, i15, i16, i17, i18⟩ := z19_of hb (by omega)
  have hl : ¬ (z19 z0 z1 z2 z3 z4 z5 z6 z7 z8 z9 z10 z11 z12 z13 z14 z15 z16 z17 z18 w).length < 19 := by simp [z19]
  have hP := hdP_long hl
  have hN := geN2_lt (hb.drop 16)
  have hsz : szB (z19 z0 z1 z2 z3 z4 z5 z6 z7 z8 z9 z10 z11 z12 z13 z14 z15 z16 z17 z18 w) = [bT z16, bT z17] := rfl
  have hkd : kdB (z19 z0 z1 z2 z3 z4 z5 z6 z7 z8 z9 z10 z11 z12 z13 z14 z15 z16 z17 z18 w) = [bT z18] := rfl
  have hk : hzK (z19 z0 z1 z2 z3 z4 z5 z6 z7 z8 z9 z10 z11 z12 z13 z14 z15 z16 z17 z18 w) = z18 := rfl
  change 0 ≤ hzN (z19 z0 z1 z2 z3 z4 z5 z6 z7 z8 z9 z10 z11 z12 z13 z14 z15 z16 z17 z18 w) ∧ hzN (z19 z0 z1 z2 z3 z4 z5 z6 z7 z8 z9 z10 z11 z12 z13 z14 z15 z16 z17 z18 w) < 65536 at hN
  rw [hsz, hkd, hk] at hP
  have hwk : IntKind.wrap IntKind.i64 z18 = z18 := i18.wrap
  have hwn : IntKind.wrap IntKind.i64 (IntKind.wrap IntKind.i64 ((256 : Int) * IntKind.wrap IntKind.i64 z16) + IntKind.wrap IntKind.i64 z17) = hzN (z19 z0 z1 z2 z3 z4 z5 z6 z7 z8 z9 z10 z11 z12 z13 z14 z15 z16 z17 z18 w) := by
    have h1 := i16.1; have h2 := i16.2; have h3 := i17.1; have h4 := i17.2
    rw [i16.wrap, i17.wrap, wrap_id (z := 256 * z16) (by omega) (by omega), wrap_id (z := 256 * z16 + z17) (by omega) (by omega)]
    show _ = (0 * 256 + z16) * 256 + z17
    omega
  refine vcallF_is mixedB_Tryz bodiesB_Tryz specsOk_none lsOk_none (ev_h11 z0 z1 z2 z3 z4 z5 z6 z7 z8 z9 z10 z11 z12 z13 z14 z15 z16 z17 z18 (hdLe z18) w _) ?_
  try delta zzy53
  rw [hwn, hwk]
  generalize hzN (z19 z0 z1 z2 z3 z4 z5 z6 z7 z8 z9 z10 z11 z12 z13 z14 z15 z16 z17 z18 w) = n at hP hN
  have hall : all255 (z19 z0 z1 z2 z3 z4 z5 z6 z7 z8 z9 z10 z11 z12 z13 z14 z15 z16 z17 z18 w) = (decide (z0 = 255) && (decide (z1 = 255) && (decide (z2 = 255) && (decide (z3 = 255) && (decide (z4 = 255) && (decide (z5 = 255) && (decide (z6 = 255) && (decide (z7 = 255) && (decide (z8 = 255) && (decide (z9 = 255) && (decide (z10 = 255) && (decide (z11 = 255) && (decide (z12 = 255) && (decide (z13 = 255) && (decide (z14 = 255) && (decide (z15 = 255) && true)))))))))))))))) := rfl
  refine cond_of (fun c => ?_) (fun c0 => ?_)
  · have c3 : all255 (z19 z0 z1 z2 z3 z4 z5 z6 z7 z8 z9 z10 z11 z12 z13 z14 z15 z16 z17 z18 w) = false := by rw [hall, decide_eq_false (neIt c)]; simp
    exact hd_bad (by rw [hP, c3]; rfl) (.le (.nil 1))
  replace c0 : z0 = 255 := neIf c0
  refine cond_of (fun c => ?_) (fun c1 => ?_)
  · have c3 : all255 (z19 z0 z1 z2 z3 z4 z5 z6 z7 z8 z9 z10 z11 z12 z13 z14 z15 z16 z17 z18 w) = false := by rw [hall, decide_eq_false (neIt c)]; simp
    exact hd_bad (by rw [hP, c3]; rfl) (.le (.nil 1))
  replace c1 : z1 = 255 := neIf c1
  refine cond_of (fun c => ?_) (fun c2 => ?_)
  · have c3 : all255 (z19 z0 z1 z2 z3 z4 z5 z6 z7 z8 z9 z10 z11 z12 z13 z14 z15 z16 z17 z18 w) = false := by rw [hall, decide_eq_false (neIt c)]; simp
    exact hd_bad (by rw [hP, c3]; rfl) (.le (.nil 1))
  replace c2 : z2 = 255 := neIf c2
  refine cond_of (fun c => ?_) (fun c3 => ?_)
  · have c3 : all255 (z19 z0 z1 z2 z3 z4 z5 z6 z7 z8 z9 z10 z11 z12 z13 z14 z15 z16 z17 z18 w) = false := by rw [hall, decide_eq_false (neIt c)]; simp
    exact hd_bad (by rw [hP, c3]; rfl) (.le (.nil 1))
  replace c3 : z3 = 255 := neIf c3
  refine cond_of (fun c => ?_) (fun c4 => ?_)
  · have c3 : all255 (z19 z0 z1 z2 z3 z4 z5 z6 z7 z8 z9 z10 z11 z12 z13 z14 z15 z16 z17 z18 w) = false := by rw [hall, decide_eq_false (neIt c)]; simp
    exact hd_bad (by rw [hP, c3]; rfl) (.le (.nil 1))
  replace c4 : z4 = 255 := neIf c4
  refine cond_of (fun c => ?_) (fun c5 => ?_)
  · have c3 : all255 (z19 z0 z1 z2 z3 z4 z5 z6 z7 z8 z9 z10 z11 z12 z13 z14 z15 z16 z17 z18 w) = false := by rw [hall, decide_eq_false (neIt c)]; simp
    exact hd_bad (by rw [hP, c3]; rfl) (.le (.nil 1))
  replace c5 : z5 = 255 := neIf c5
  refine cond_of (fun c => ?_) (fun c6 => ?_)
  · have c3 : all255 (z19 z0 z1 z2 z3 z4 z5 z6 z7 z8 z9 z10 z11 z12 z13 z14 z15 z16 z17 z18 w) = false := by rw [hall, decide_eq_false (neIt c)]; simp
    exact hd_bad (by rw [hP, c3]; rfl) (.le (.nil 1))
  replace c6 : z6 = 255 := neIf c6
  refine cond_of (fun c => ?_) (fun c7 => ?_)
  · have c3 : all255 (z19 z0 z1 z2 z3 z4 z5 z6 z7 z8 z9 z10 z11 z12 z13 z14 z15 z16 z17 z18 w) = false := by rw [hall, decide_eq_false (neIt c)]; simp
    exact hd_bad (by rw [hP, c3]; rfl) (.le (.nil 1))
  replace c7 : z7 = 255 := neIf c7
  refine cond_of (fun c => ?_) (fun c8 => ?_)
  · have c3 : all255 (z19 z0 z1 z2 z3 z4 z5 z6 z7 z8 z9 z10 z11 z12 z13 z14 z15 z16 z17 z18 w) = false := by rw [hall, decide_eq_false (neIt c)]; simp
    exact hd_bad (by rw [hP, c3]; rfl) (.le (.nil 1))
  replace c8 : z8 = 255 := neIf c8
  refine cond_of (fun c => ?_) (fun c9 => ?_)
  · have c3 : all255 (z19 z0 z1 z2 z3 z4 z5 z6 z7 z8 z9 z10 z11 z12 z13 z14 z15 z16 z17 z18 w) = false := by rw [hall, decide_eq_false (neIt c)]; simp
    exact hd_bad (by rw [hP, c3]; rfl) (.le (.nil 1))
  replace c9 : z9 = 255 := neIf c9
  refine cond_of (fun c => ?_) (fun c10 => ?_)
  · have c3 : all255 (z19 z0 z1 z2 z3 z4 z5 z6 z7 z8 z9 z10 z11 z12 z13 z14 z15 z16 z17 z18 w) = false := by rw [hall, decide_eq_false (neIt c)]; simp
    exact hd_bad (by rw [hP, c3]; rfl) (.le (.nil 1))
  replace c10 : z10 = 255 := neIf c10
  refine cond_of (fun c => ?_) (fun c11 => ?_)
  · have c3 : all255 (z19 z0 z1 z2 z3 z4 z5 z6 z7 z8 z9 z10 z11 z12 z13 z14 z15 z16 z17 z18 w) = false := by rw [hall, decide_eq_false (neIt c)]; simp
    exact hd_bad (by rw [hP, c3]; rfl) (.le (.nil 1))
  replace c11 : z11 = 255 := neIf c11
  refine cond_of (fun c => ?_) (fun c12 => ?_)
  · have c3 : all255 (z19 z0 z1 z2 z3 z4 z5 z6 z7 z8 z9 z10 z11 z12 z13 z14 z15 z16 z17 z18 w) = false := by rw [hall, decide_eq_false (neIt c)]; simp
    exact hd_bad (by rw [hP, c3]; rfl) (.le (.nil 1))
  replace c12 : z12 = 255 := neIf c12
  refine cond_of (fun c => ?_) (fun c13 => ?_)
  · have c3 : all255 (z19 z0 z1 z2 z3 z4 z5 z6 z7 z8 z9 z10 z11 z12 z13 z14 z15 z16 z17 z18 w) = false := by rw [hall, decide_eq_false (neIt c)]; simp
    exact hd_bad (by rw [hP, c3]; rfl) (.le (.nil 1))
  replace c13 : z13 = 255 := neIf c13
  refine cond_of (fun c => ?_) (fun c14 => ?_)
  · have c3 : all255 (z19 z0 z1 z2 z3 z4 z5 z6 z7 z8 z9 z10 z11 z12 z13 z14 z15 z16 z17 z18 w) = false := by rw [hall, decide_eq_false (neIt c)]; simp
    exact hd_bad (by rw [hP, c3]; rfl) (.le (.nil 1))
  replace c14 : z14 = 255 := neIf c14
  refine cond_of (fun c => ?_) (fun c15 => ?_)
  · have c3 : all255 (z19 z0 z1 z2 z3 z4 z5 z6 z7 z8 z9 z10 z11 z12 z13 z14 z15 z16 z17 z18 w) = false := by rw [hall, decide_eq_false (neIt c)]; simp
    exact hd_bad (by rw [hP, c3]; rfl) (.le (.nil 1))
  replace c15 : z15 = 255 := neIf c15
  have c3 : all255 (z19 z0 z1 z2 z3 z4 z5 z6 z7 z8 z9 z10 z11 z12 z13 z14 z15 z16 z17 z18 w) = true := by rw [hall, decide_eq_true c0, decide_eq_true c1, decide_eq_true c2, decide_eq_true c3, decide_eq_true c4, decide_eq_true c5, decide_eq_true c6, decide_eq_true c7, decide_eq_true c8, decide_eq_true c9, decide_eq_true c10, decide_eq_true c11, decide_eq_true c12, decide_eq_true c13, decide_eq_true c14, decide_eq_true c15]; rfl
  rw [c3, cond_true] at hP
  refine cond_of (fun d1 => ?_) (fun d1 => ?_)
  · exact hd_bad (by rw [hP, if_pos (.inl (of_decide_eq_true d1))]) (row2 rfl)
  replace d1 := of_decide_eq_false d1
  refine cond_of (fun d2 => ?_) (fun d2 => ?_)
  · exact hd_bad (by rw [hP, if_pos (.inr (of_decide_eq_true d2))]) (row2 rfl)
  replace d2 := of_decide_eq_false d2
  rw [if_neg (show ¬ (n < 19 ∨ n > 4096) by omega)] at hP
  refine cond_of (fun d3 => ?_) (fun d3 => ?_)
  · exact hd_bad (by rw [hP, if_pos (.inl (of_decide_eq_true d3))]; rfl) (.le (.vec 1 _ _))
  replace d3 := of_decide_eq_false d3
  refine cond_of (fun d4 => ?_) (fun d4 => ?_)
  · exact hd_bad (by rw [hP, if_pos (.inr (of_decide_eq_true d4))]; rfl) (.le (.vec 1 _ _))
  replace d4 := of_decide_eq_false d4
  rw [if_neg (show ¬ (z18 < 1 ∨ z18 > 4) by omega)] at hP
  refine ⟨look_five (by omega) (by omega), ?_⟩
  refine cond_of (fun d5 => ?_) (fun d5 => ?_)
  · exact hd_bad (by rw [hP, if_pos (.inl (of_decide_eq_true d5))]) (row2 rfl)
  replace d5 := of_decide_eq_false d5
  refine cond_of (fun d6 => ?_) (fun d6 => ?_)
  · replace d6 := eqIt d6
    refine cond_of (fun d7 => ?_) (fun d7 => ?_)
    · replace d7 := neIt d7
      exact hd_bad (by rw [hP, if_pos (.inr ⟨d6, by omega⟩)]) (row2 rfl)
    · replace d7 := neIf d7
      exact hd_good (by rw [hP, if_neg (by omega)])
  · replace d6 := eqIf d6
    exact hd_good (by rw [hP, if_neg (by omega)])
end Go.Proofs.YtogbdjlelkepcaaGreatDoor
namespace Go.Proofs.YtogbdjlelkepcaaGreatDoor
open Go.RowKit

theorem hdW_ok {G : Globs} (hG : GVals G) {f : FuncId} (h : ∀ {b : Bs}, IsB b → VCx Tryz.prog G 0 f [.vec 1 b .none] ⟨[], []⟩ fun x T' => x = hdX b ∧ T' = ⟨[], []⟩) : ∀ ro ys T K, hdW ro ys T K → VCx Tryz.prog G ro f ys T K := by
 intro ro ys T K hw
 unfold hdW at hw
 split at hw
 ·rename_i b tok
  refine VCx.loosePure hG (h hw.1) (by simp [looseTV]) (by simp [renL, TV.ren, hw.1.ren, Tok.ren]) (fun f h => hdX_ren hw.1 f h) ?_
  have h2 := hw.2
  cases hh : hdOk b <;> rw [hh] at h2
  ·rw [hdX_no hh]; exact h2
  ·rw [hdX_ok hh]; exact h2
 ·exact hw.elim
theorem opWs_ok {G : Globs} (hG : GVals G) {f : FuncId} (h : ∀ {b : Bs} (pas : Int), IsB b → VCx Tryz.prog G 0 f [.vec 1 b .none, .val (.int .i64 pas)] ⟨[], []⟩ fun x T' => x = opX b pas ∧ T' = ⟨[], []⟩) : ∀ ro ys T K, opWs ro ys T K → VCx Tryz.prog G ro f ys T K := by
 intro ro ys T K hw
 unfold opWs at hw
 split at hw
 ·rename_i b tok pas
  refine VCx.loosePure hG (h pas hw.1) (by simp [looseTV]) (by simp [renL, TV.ren, hw.1.ren, Tok.ren]) (fun f h => opX_ren pas hw.1 f h) ?_
  have h2 := hw.2
  cases hh : opOk b pas <;> rw [hh] at h2
  ·rw [opX_no hw.1 hh]; exact h2
  ·rw [opX_ok hw.1 hh]; exact h2
 ·exact hw.elim
theorem upWs_ok {G : Globs} (hG : GVals G) {f : FuncId} (h : ∀ {b : Bs}, IsB b → VCx Tryz.prog G 0 f [.vec 1 b .none] ⟨[], []⟩ fun x T' => x = upX b ∧ T' = ⟨[], []⟩) : ∀ ro ys T K, upWs ro ys T K → VCx Tryz.prog G ro f ys T K := by
 intro ro ys T K hw
 unfold upWs at hw
 split at hw
 ·rename_i b tok
  refine VCx.loosePure hG (h hw.1) (by simp [looseTV]) (by simp [renL, TV.ren, hw.1.ren, Tok.ren]) (fun f h => upX_ren hw.1 f h) ?_
  have h2 := hw.2
  cases hh : upOk b <;> rw [hh] at h2
  ·rw [upX_no hh]; exact h2
  ·rw [upX_ok hh]; exact h2
 ·exact hw.elim
theorem ntWs_ok {G : Globs} (hG : GVals G) {f : FuncId} (h : ∀ {b : Bs}, IsB b → VCx Tryz.prog G 0 f [.vec 1 b .none] ⟨[], []⟩ fun x T' => x = ntX b ∧ T' = ⟨[], []⟩) : ∀ ro ys T K, ntWs ro ys T K → VCx Tryz.prog G ro f ys T K := by
 intro ro ys T K hw
 unfold ntWs at hw
 split at hw
 ·rename_i b tok
  refine VCx.loosePure hG (h hw.1) (by simp [looseTV]) (by simp [renL, TV.ren, hw.1.ren, Tok.ren]) (fun f h => ntX_ren hw.1 f h) ?_
  have h2 := hw.2
  rw [ntX_eq]
  cases hh : ntO b <;> rw [hh] at h2 <;> exact h2
 ·exact hw.elim
section
variable {b : Bs} {pas : Int}
def mNil : TV := .val (.slice none 0 0)
theorem m0_le : TVle (.agg [.val (.int .i64 0), .val (.int .i64 0), .val (.int .i64 0), .val (.int .u32 0), mNil, mNil, .val (.int .i64 0), mNil, .val (.int .u32 0), .val (.int .i64 0), .val (.bool false), mNil, .val (.int .i64 0), .val (.int .i64 0), mNil]) (.agg m0.cells) :=
 .agg ⟨.refl _, .refl _, .refl _, .refl _, .nil 2, .nil 2, .refl _, .nil 1, .refl _, .refl _, .refl _, .nil 2, .refl _, .refl _, .nil 1, trivial⟩
theorem ms_bad {c s : Int} {d : Bs} {dz : TV} {T' : VT} (h : msP b pas = .inl (c, s, d)) (hd : FzX T' dz (.vec 1 d .none)) : FzX T' (.tup [.agg [.val (.int .i64 0), .val (.int .i64 0), .val (.int .i64 0), .val (.int .u32 0), mNil, mNil, .val (.int .i64 0), mNil, .val (.int .u32 0), .val (.int .i64 0), .val (.bool false), mNil, .val (.int .i64 0), .val (.int .i64 0), mNil], .agg [.val (.int .i64 c), .val (.int .i64 s), dz]]) (msX b pas) := by
 obtain ⟨T2, h1, h2⟩ := hd
 unfold msX msV
 rw [h]
 exact ⟨T2, .tup (.cons (.le m0_le) (.cons (.agg (.le (.le (.cons h1 .nil)))) .nil)), h2⟩
theorem ms_good {m : MsgS} {l : List TV} {T' : VT} (h : msP b pas = .inr m) (hm : TVleL l m.cells) : FzX T' (.tup [.agg l, .agg [.val (.int .i64 0), .val (.int .i64 0), mNil]]) (msX b pas) := by
 unfold msX msV
 rw [h]
 exact .le (.tup ⟨.agg hm, .agg ⟨.refl _, .refl _, .nil 1, trivial⟩, trivial⟩)
theorem msP_bad (h : hdOk b = false) : msP b pas = .inl (1, hdS b, hdD b) := by unfold msP; rw [h]; rfl
theorem msP_short (h : hdOk b = true) (hl : b.length < 19) : msP b pas = .inl (1, 2, []) := by unfold msP; rw [h, cond_true, if_pos hl]
theorem msP_long (h : hdOk b = true) (hl : ¬ b.length < 19) : msP b pas = if ¬ hdN b = b.length then .inl (1, 2, szB b) else
  if hdK b = 1 then (bif opOk (b.drop 19) pas then .inr { m0 with k := hdK b, op := opU (b.drop 19) pas } else .inl (2, opSb (b.drop 19) pas, opDt (b.drop 19) pas))
  else if hdK b = 2 then (bif upOk (b.drop 19) then .inr { m0 with k := hdK b, u := upU (b.drop 19) } else .inl (3, upSb (b.drop 19), upDt (b.drop 19)))
  else if hdK b = 3 then (bif ntO (b.drop 19) then .inr { m0 with k := hdK b, c := ntC (b.drop 19), s := ntS (b.drop 19), d := ntD (b.drop 19) } else .inl (1, 2, szB b))
  else .inr { m0 with k := hdK b } := by unfold msP; rw [h, cond_true, if_neg hl]
end
set_option maxHeartbeats 1000000 in
theorem mp_vcx {b : Bs} (hb : IsB b) (pas : Int) : VCx Tryz.prog leastG 0 mpF [.vec 1 b .none, .val (.int .i64 pas)] ⟨[], []⟩ fun x T' => x = msX b pas ∧ T' = ⟨[], []⟩ := by
 have hS1 : SpecsOk Tryz.prog leastG (specs [(hdF, hdW)]) := specs_ok fun p hp => by
  obtain rfl := List.mem_singleton.1 hp; exact hdW_ok leastG_vals hd_vcx
 have hS2 : SpecsOk Tryz.prog leastG (specs [(hdF, hdW), (opF, opWs), (upF, upWs), (ntF, ntWs)]) := specs_ok fun p hp => by
  rcases List.mem_cons.1 hp with rfl | hp; exact hdW_ok leastG_vals hd_vcx
  rcases List.mem_cons.1 hp with rfl | hp; exact opWs_ok leastG_vals fun pas h => VCx.anyG (op_vcx h pas)
  rcases List.mem_cons.1 hp with rfl | hp; exact upWs_ok leastG_vals fun h => VCx.anyG (up_vcx h)
  obtain rfl := List.mem_singleton.1 hp; exact ntWs_ok leastG_vals fun h => VCx.anyG (nt_vcx h)
 refine VCx.fz0 (msX_ren pas hb) ?_
 by_cases hlen : b.length < 19
 ·refine vcallF_is mixedB_Tryz bodiesB_Tryz hS1 lsOk_none (ev_mpS b pas _) ?_
  refine ⟨hb, cond_of (fun c1 => ?_) (fun c1 => ?_)⟩
  ·exact condT (decide_eq_true (show ((b.length : Nat) : Int) < 19 by omega)) (ms_bad (msP_short c1 hlen) (.le (.nil 1)))
  ·exact ms_bad (msP_bad c1) (.le (.refl _))
 obtain ⟨z0, z1, z2, z3, z4, z5, z6, z7, z8, z9, z10, z11, z12, z13, z14, z15, z16, z17, z18, w, rfl, i0, i1, i2, i3, i4, i5, i6, i7, i8, i9, i10, i11, i12, i13, i14, i15, i16, i17, i18⟩ := z19_of hb (by omega)
 have hd : IsB w := hb.drop 19
 change IsB (b19 (bT z0) (bT z1) (bT z2) (bT z3) (bT z4) (bT z5) (bT z6) (bT z7) (bT z8) (bT z9) (bT z10) (bT z11) (bT z12) (bT z13) (bT z14) (bT z15) (bT z16) (bT z17) (bT z18) w) at hb
 change ¬ (b19 (bT z0) (bT z1) (bT z2) (bT z3) (bT z4) (bT z5) (bT z6) (bT z7) (bT z8) (bT z9) (bT z10) (bT z11) (bT z12) (bT z13) (bT z14) (bT z15) (bT z16) (bT z17) (bT z18) w).length < 19 at hlen
 have hsz : szB (b19 (bT z0) (bT z1) (bT z2) (bT z3) (bT z4) (bT z5) (bT z6) (bT z7) (bT z8) (bT z9) (bT z10) (bT z11) (bT z12) (bT z13) (bT z14) (bT z15) (bT z16) (bT z17) (bT z18) w) = [bT z16, bT z17] := rfl
 have hdr : (b19 (bT z0) (bT z1) (bT z2) (bT z3) (bT z4) (bT z5) (bT z6) (bT z7) (bT z8) (bT z9) (bT z10) (bT z11) (bT z12) (bT z13) (bT z14) (bT z15) (bT z16) (bT z17) (bT z18) w).drop 19 = w := rfl
 refine vcallF_is mixedB_Tryz bodiesB_Tryz hS2 lsOk_none (ev_mp (bT z0) (bT z1) (bT z2) (bT z3) (bT z4) (bT z5) (bT z6) (bT z7) (bT z8) (bT z9) (bT z10) (bT z11) (bT z12) (bT z13) (bT z14) (bT z15) (bT z16) (bT z17) (bT z18) w pas _) ?_
 refine ⟨hb, cond_of (fun c1 => ?_) (fun c1 => ?_)⟩
 rotate_left
 ·exact ms_bad (msP_bad c1) (.le (.refl _))
 have hP := msP_long (b := b19 (bT z0) (bT z1) (bT z2) (bT z3) (bT z4) (bT z5) (bT z6) (bT z7) (bT z8) (bT z9) (bT z10) (bT z11) (bT z12) (bT z13) (bT z14) (bT z15) (bT z16) (bT z17) (bT z18) w) (pas := pas) c1 hlen
 rw [hsz, hdr] at hP
 refine cond_of (fun c2 => ?_) (fun c2 => ?_)
 ·exact ms_bad (hP.trans (if_pos (neIt c2))) (row2 rfl)
 rw [if_neg (fun c => c (neIf c2))] at hP
 refine cond_of (fun c3 => ?_) (fun c3 => ?_)
 ·rw [if_pos (eqIt c3)] at hP
  refine ⟨hd, cond_of (fun c4 => ?_) (fun c4 => ?_)⟩
  ·exact ms_good (hP.trans (by rw [show opOk w pas = true from c4]; rfl)) ⟨.refl _, .refl _, .refl _, .refl _, .refl _, .nil 2, .refl _, .nil 1, .refl _, .refl _, .refl _, .nil 2, .refl _, .refl _, .nil 1, trivial⟩
  ·exact ms_bad (hP.trans (by rw [show opOk w pas = false from c4]; rfl)) (.le (.refl _))
 rw [if_neg (eqIf c3)] at hP
 refine cond_of (fun c5 => ?_) (fun c5 => ?_)
 ·rw [if_pos (eqIt c5)] at hP
  refine ⟨hd, cond_of (fun c4 => ?_) (fun c4 => ?_)⟩
  ·exact ms_good (hP.trans (by rw [show upOk w = true from c4]; rfl)) ⟨.refl _, .refl _, .refl _, .refl _, .nil 2, .refl _, .refl _, .refl _, .refl _, .refl _, .refl _, .refl _, .refl _, .refl _, .nil 1, trivial⟩
  ·exact ms_bad (hP.trans (by rw [show upOk w = false from c4]; rfl)) (.le (.refl _))
 rw [if_neg (eqIf c5)] at hP
 refine cond_of (fun c6 => ?_) (fun c6 => ?_)
 ·rw [if_pos (eqIt c6)] at hP
  refine ⟨hd, cond_of (fun c4 => ?_) (fun c4 => ?_)⟩
  ·exact ms_good (hP.trans (by rw [show ntO w = true from c4]; rfl)) ⟨.refl _, .refl _, .refl _, .refl _, .nil 2, .nil 2, .refl _, .nil 1, .refl _, .refl _, .refl _, .nil 2, .refl _, .refl _, .refl _, trivial⟩
  ·exact ms_bad (hP.trans (by rw [show ntO w = false from c4]; rfl)) (row2 rfl)
 rw [if_neg (eqIf c6)] at hP
 exact ms_good hP ⟨.refl _, .refl _, .refl _, .refl _, .nil 2, .nil 2, .refl _, .nil 1, .refl _, .refl _, .refl _, .nil 2, .refl _, .refl _, .nil 1, trivial⟩
set_option maxHeartbeats 1000000 in
theorem m11_vcx {b : Bs} (hb : IsB b) (pas : Int) : VCx Tryz.prog noGl 0 mp11F [.vec 1 b .none, .val (.int .i64 pas)] ⟨[], []⟩ fun x T' => x = msX b pas ∧ T' = ⟨[], []⟩ := by
 have hS1 : SpecsOk Tryz.prog noGl (specs [(hd11F, hdW)]) := specs_ok fun p hp => by
  obtain rfl := List.mem_singleton.1 hp; exact hdW_ok gvals_noGl h11_vcx
 have hS2 : SpecsOk Tryz.prog noGl (specs [(hd11F, hdW), (q8F, opWs), (q9F, upWs), (r10F, ntWs)]) := specs_ok fun p hp => by
  rcases List.mem_cons.1 hp with rfl | hp; exact hdW_ok gvals_noGl h11_vcx
  rcases List.mem_cons.1 hp with rfl | hp; exact opWs_ok gvals_noGl fun pas h => q8_vcx h pas
  rcases List.mem_cons.1 hp with rfl | hp; exact upWs_ok gvals_noGl q9_vcx
  obtain rfl := List.mem_singleton.1 hp; exact ntWs_ok gvals_noGl r10_vcx
 refine VCx.fz0 (msX_ren pas hb) ?_
 by_cases hlen : b.length < 19
 ·refine vcallF_is mixedB_Tryz bodiesB_Tryz hS1 lsOk_none (ev_m11S b pas _) ?_
  refine ⟨hb, cond_of (fun c1 => ?_) (fun c1 => ?_)⟩
  ·exact condT (decide_eq_true (show ((b.length : Nat) : Int) < 19 by omega)) (ms_bad (msP_short c1 hlen) (.le (.nil 1)))
  ·exact ms_bad (msP_bad c1) (.le (.refl _))
 obtain ⟨z0, z1, z2, z3, z4, z5, z6, z7, z8, z9, z10, z11, z12, z13, z14, z15, z16, z17, z18, w, rfl, i0, i1, i2, i3, i4, i5, i6, i7, i8, i9, i10, i11, i12, i13, i14, i15, i16, i17, i18⟩ := z19_of hb (by omega)
 have hd : IsB w := hb.drop 19
 change IsB (b19 (bT z0) (bT z1) (bT z2) (bT z3) (bT z4) (bT z5) (bT z6) (bT z7) (bT z8) (bT z9) (bT z10) (bT z11) (bT z12) (bT z13) (bT z14) (bT z15) (bT z16) (bT z17) (bT z18) w) at hb
 change ¬ (b19 (bT z0) (bT z1) (bT z2) (bT z3) (bT z4) (bT z5) (bT z6) (bT z7) (bT z8) (bT z9) (bT z10) (bT z11) (bT z12) (bT z13) (bT z14) (bT z15) (bT z16) (bT z17) (bT z18) w).length < 19 at hlen
 have hsz : szB (b19 (bT z0) (bT z1) (bT z2) (bT z3) (bT z4) (bT z5) (bT z6) (bT z7) (bT z8) (bT z9) (bT z10) (bT z11) (bT z12) (bT z13) (bT z14) (bT z15) (bT z16) (bT z17) (bT z18) w) = [bT z16, bT z17] := rfl
 have hdr : (b19 (bT z0) (bT z1) (bT z2) (bT z3) (bT z4) (bT z5) (bT z6) (bT z7) (bT z8) (bT z9) (bT z10) (bT z11) (bT z12) (bT z13) (bT z14) (bT z15) (bT z16) (bT z17) (bT z18) w).drop 19 = w := rfl
 refine vcallF_is mixedB_Tryz bodiesB_Tryz hS2 lsOk_none (ev_m11 (bT z0) (bT z1) (bT z2) (bT z3) (bT z4) (bT z5) (bT z6) (bT z7) (bT z8) (bT z9) (bT z10) (bT z11) (bT z12) (bT z13) (bT z14) (bT z15) (bT z16) (bT z17) (bT z18) w pas _) ?_
 refine ⟨hb, cond_of (fun c1 => ?_) (fun c1 => ?_)⟩
 rotate_left
 ·exact ms_bad (msP_bad c1) (.le (.refl _))
 have hP := msP_long (b := b19 (bT z0) (bT z1) (bT z2) (bT z3) (bT z4) (bT z5) (bT z6) (bT z7) (bT z8) (bT z9) (bT z10) (bT z11) (bT z12) (bT z13) (bT z14) (bT z15) (bT z16) (bT z17) (bT z18) w) (pas := pas) c1 hlen
 rw [hsz, hdr] at hP
 refine cond_of (fun c2 => ?_) (fun c2 => ?_)
 ·exact ms_bad (hP.trans (if_pos (neIt c2))) (row2 rfl)
 rw [if_neg (fun c => c (neIf c2))] at hP
 refine cond_of (fun c3 => ?_) (fun c3 => ?_)
 ·rw [if_pos (eqIt c3)] at hP
  refine ⟨hd, cond_of (fun c4 => ?_) (fun c4 => ?_)⟩
  ·exact ms_good (hP.trans (by rw [show opOk w pas = true from c4]; rfl)) ⟨.refl _, .refl _, .refl _, .refl _, .refl _, .nil 2, .refl _, .nil 1, .refl _, .refl _, .refl _, .nil 2, .refl _, .refl _, .nil 1, trivial⟩
  ·exact ms_bad (hP.trans (by rw [show opOk w pas = false from c4]; rfl)) (.le (.refl _))
 rw [if_neg (eqIf c3)] at hP
 refine cond_of (fun c5 => ?_) (fun c5 => ?_)
 ·rw [if_pos (eqIt c5)] at hP
  refine ⟨hd, cond_of (fun c4 => ?_) (fun c4 => ?_)⟩
  ·exact ms_good (hP.trans (by rw [show upOk w = true from c4]; rfl)) ⟨.refl _, .refl _, .refl _, .refl _, .nil 2, .refl _, .refl _, .refl _, .refl _, .refl _, .refl _, .refl _, .refl _, .refl _, .nil 1, trivial⟩
  ·exact ms_bad (hP.trans (by rw [show upOk w = false from c4]; rfl)) (.le (.refl _))
 rw [if_neg (eqIf c5)] at hP
 refine cond_of (fun c6 => ?_) (fun c6 => ?_)
 ·rw [if_pos (eqIt c6)] at hP
  refine ⟨hd, cond_of (fun c4 => ?_) (fun c4 => ?_)⟩
  ·exact ms_good (hP.trans (by rw [show ntO w = true from c4]; rfl)) ⟨.refl _, .refl _, .refl _, .refl _, .nil 2, .nil 2, .refl _, .nil 1, .refl _, .refl _, .refl _, .nil 2, .refl _, .refl _, .refl _, trivial⟩
  ·exact ms_bad (hP.trans (by rw [show ntO w = false from c4]; rfl)) (row2 rfl)
 rw [if_neg (eqIf c6)] at hP
 exact ms_good hP ⟨.refl _, .refl _, .refl _, .refl _, .nil 2, .nil 2, .refl _, .nil 1, .refl _, .refl _, .refl _, .nil 2, .refl _, .refl _, .nil 1, trivial⟩
end Go.Proofs.YtogbdjlelkepcaaGreatDoor
