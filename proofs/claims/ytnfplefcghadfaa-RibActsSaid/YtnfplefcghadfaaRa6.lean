/-Part 6 of the proof of ribActs_holds:RbM,RbN,RbO ... No condition. -/
import Derived.Test.YtnfplefcghadfaaRa1
import Derived.Test.YtnfplefcghadfaaRa2
import Derived.Test.YtnfplefcghadfaaRa3
import Derived.Test.YtnfplefcghadfaaRa4
import Derived.Test.YtnfplefcghadfaaRa5
set_option maxRecDepth 100000
namespace Go.Proofs.Ytnfplefcghadfaa
section
open Go.RowKit

abbrev ql:=69
abbrev A5:=102
abbrev jx:=48
abbrev gR:=70
abbrev eP:=47
abbrev tM:=73
abbrev jy:=50
abbrev gf:=46
abbrev jz:=72
abbrev kQ:=71
abbrev yX:=33
abbrev yY:=35
abbrev yZ:=36
abbrev y0:=39
abbrev kR:=49
abbrev kS:=52
abbrev y7:=53
abbrev vv:=21
def qm:aJ:=fun _ ys T K=>match ys with
 | [.agg [.val (.int .u32 a), .val (.int .i64 n)]]=>gB a n∧K (.val (.bool (gt a n))) T
 | _=>ar 84 default ys
def wX:aJ:=fun _ ys T K=>match ys with
 | [.agg [.val (.int .u32 a), .val (.int .i64 n)], .agg [.val (.int .u32 b), .val (.int .i64 m)]]=>K (.val (.int .i64 (dG a n b m))) T
 | _=>ar 84 default ys
def qn (ok:Bool):aJ:=fun _ ys T K=>match ys with
 | [.agg l]=>oe l ok∧K (.val (.bool ok)) T
 | _=>ar 84 default ys
def mP (ok:Bool):aJ:=fun _ ys T K=>match ys with
 | [.agg l, .agg m]=>og l m ok∧K (.val (.bool ok)) T
 | _=>ar 84 default ys
def wY (ok:Bool):aJ:=fun _ ys T K=>match ys with
 | [.agg l, .agg m]=>wO l m ok∧K (.val (.bool ok)) T
 | _=>ar 84 default ys
def wZ (ok:Bool):aJ:=fun _ ys T K=>match ys with
 | [.agg l]=>ET l ok∧K (.val (.bool ok)) T
 | _=>ar 84 default ys
def nP (y:AtV) (b:Bool):aJ:=fun _ ys T K=>match ys with
 | [.vec 7 L _, .agg [.val (.int .u32 a), .val (.int .i64 n)]]=>tK L a n y b∧K (.tup [.agg y.cells, .val (.bool b)]) T
 | _=>ar 84 default ys
def rt (R:Bs):aJ:=fun _ ys T K=>match ys with
 | [.vec 7 L _, .agg [.val (.int .u32 a), .val (.int .i64 n)]]=>wW L a n R∧K (.vec 7 R .none) T
 | _=>ar 84 default ys
def vw (R:Bs):aJ:=fun _ ys T K=>match ys with
 | [.vec 7 L _, .agg l]=>tL L l R∧K (.vec 7 R .none) T
 | _=>ar 84 default ys
def qo:List Nat:= [2,1,6,7,8]
def ru (p:Bs) (j:Int):List TV:= [.val (.bool false), .ptr 0 0, .vec 1 p .none, .val (.int .i64 p.length), .val (.int .i64 j)]
noncomputable def Hi (a:AtV) (ok:Bool) (c0:Code):Nat→Option (bu × Code):=cw [(0,dE 56 qo [] (ru (iV a.p) 0) ⟨[.cells a.cells], []⟩ (fun K=>∀z:Int,bif ok then K .normal (aG 56 qo (ru (iV a.p) (iV a.p).length)) ⟨[.cells a.cells], []⟩ [] else K .ret (aG 56 qo (ru (iV a.p) z)) ⟨[.cells a.cells], []⟩ []),c0)]
def qp:List Nat:= [4,2,3,43,44]
def rx (p:Bs) (j:Int):List TV:= [.val (.bool false), .ptr 0 0, .ptr 1 0, .val (.int .i64 p.length), .val (.int .i64 j)]
noncomputable def Hj (a b:AtV) (ok:Bool) (c0:Code):Nat→Option (bu × Code):=cw [(0,dE 59 qp [] (rx (iV a.p) 0) ⟨[.cells a.cells, .cells b.cells], []⟩ (fun K=>(@Eq Nat (iV a.p).length (iV b.p).length)∧∀z:Int,bif ok then K .normal (aG 59 qp (rx (iV a.p) (iV a.p).length)) ⟨[.cells a.cells, .cells b.cells], []⟩ [] else K .ret (aG 59 qp (rx (iV a.p) z)) ⟨[.cells a.cells, .cells b.cells], []⟩ []),c0)]
def iy (a n:Int) (x:AtV):List TV:= [.val (.int .u32 a), .val (.int .i64 n)]++x.cells
def pB:List TV:= [.val (.int .i64 0), .val (.slice none 0 0), .val (.int .u32 0), .val (.int .i64 0), .val (.bool false)]
def qr:List Nat:= [5,3,4,8,9,10]
def pC (L:Bs) (b:Bool) (j:Int):List TV:= [.val (.bool b), .ptr 0 0, .ptr 1 0, .vec 7 L .none, .val (.int .i64 L.length), .val (.int .i64 j)]
def y8 (a n:Int) (x:List TV):VT:=⟨[.cells [.val (.int .u32 a), .val (.int .i64 n)], .cells x], []⟩
noncomputable def Hk (L:Bs) (a n:Int) (y:AtV) (b:Bool) (c0:Code):Nat→Option (bu × Code):=cw [(0,dE 22 qr [] (pC L false 0) (y8 a n pB) (fun K=>∀z:Int,bif b then K .ret (aG 22 qr (pC L true z)) ⟨[.cells [.val (.int .u32 a), .val (.int .i64 n)], .cells y.cells, .cells (iy a n y)], []⟩ [] else K .normal (aG 22 qr (pC L false L.length)) (y8 a n pB) []),c0)]
def tN:List Nat:= [3,5,8,9,10]
def nQ (L:Bs) (x:TV) (j:Int):List TV:= [.ptr 0 0,x, .vec 7 L .none, .val (.int .i64 L.length), .val (.int .i64 j)]
def pD (a n:Int) (tl:bA):VT:=⟨[.cells [.val (.int .u32 a), .val (.int .i64 n)]],tl⟩
noncomputable def Hl (L:Bs) (a n:Int) (x:TV) (tl:bA) (c0:Code):Nat→Option (bu × Code):=cw [(0,dE 24 tN [] (nQ L gz 0) (pD a n []) (fun K=>K .normal (aG 24 tN (nQ L x L.length)) (pD a n tl) []),c0)]
def tO:List Nat:= [3,5,6,12,13,14]
def lV (L:Bs) (x:TV) (d:Bool) (j:Int):List TV:= [.ptr 0 0,x, .val (.bool d), .vec 7 L .none, .val (.int .i64 L.length), .val (.int .i64 j)]
noncomputable def mQ (a n:Int) (y:AtV) (tl:bA):VT:=⟨[.cells (iy a n y)],tl⟩
noncomputable def Hm (R1:Bs) (a n:Int) (y:AtV) (x:TV) (d:Bool) (tl:bA) (c0:Code):Nat→Option (bu × Code):=cw [(0,dE 44 tO [] (lV R1 gz false 0) (mQ a n y []) (fun K=>K .normal (aG 44 tO (lV R1 x d R1.length)) (mQ a n y tl) []),c0)]
def dw (xw xh:Bs):VT:=⟨[.cells [.vec 7 xw .none, .vec 7 xh .none]], []⟩
theorem GJ (a:AtV) (ok:Bool) (Q:TV→VT→Prop):aq Try.prog ac aL (aB [(999998, .dead,none)]) 300 (Hi a ok (au Try.prog gR 0)) 0 gR [.agg a.cells] ⟨[], []⟩ Q=
 ((au Try.prog gR (0:Nat)=au Try.prog gR (0:Nat))∧
 (((@Eq (Option Nat) .none .none)∧
 ((@Eq (Nat) 0 0)∧
 ((@Eq (List Nat) [] [])∧
 (True  ∧
 ((@Eq (VT) ⟨[(.cells [(.val (.int .i64 (AtV.o a))),(.vec 1 (iV (AtV.p a)) .none),(.val (.int .u32 (AtV.h a))),(.val (.int .i64 (AtV.m a))),(.val (.bool (AtV.hm a)))])], []⟩ ⟨[(.cells [(.val (.int .i64 (AtV.o a))),(.vec 1 (iV (AtV.p a)) .none),(.val (.int .u32 (AtV.h a))),(.val (.int .i64 (AtV.m a))),(.val (.bool (AtV.hm a)))])], []⟩)∧
 ((@Eq (Bool) true true)∧
 (@Eq (List TV) [(.val (.bool false)),(.ptr 0 0),(.vec 1 (iV (AtV.p a)) .none),(.val (.int .i64 ((↑(List.length (iV (AtV.p a))):Int)))),(.val (.int .i64 0))] [(.val (.bool false)),(.ptr 0 0),(.vec 1 (iV (AtV.p a)) .none),(.val (.int .i64 ((↑(List.length (iV (AtV.p a))):Int)))),(.val (.int .i64 0))])))))))∧
 (∀z:Int,(bif ok
 then (bif decide (AtV.o a<(0:Int))
 then Q (.val (.bool false)) ⟨[(.cells [(.val (.int .i64 (AtV.o a))),(.vec 1 (iV (AtV.p a)) .none),(.val (.int .u32 (AtV.h a))),(.val (.int .i64 (AtV.m a))),(.val (.bool (AtV.hm a)))])], []⟩
 else (bif decide (AtV.o a>(2:Int))
 then Q (.val (.bool false)) ⟨[(.cells [(.val (.int .i64 (AtV.o a))),(.vec 1 (iV (AtV.p a)) .none),(.val (.int .u32 (AtV.h a))),(.val (.int .i64 (AtV.m a))),(.val (.bool (AtV.hm a)))])], []⟩
 else (bif decide ((↑(List.length (iV (AtV.p a))):Int)>(16:Int))
 then Q (.val (.bool false)) ⟨[(.cells [(.val (.int .i64 (AtV.o a))),(.vec 1 (iV (AtV.p a)) .none),(.val (.int .u32 (AtV.h a))),(.val (.int .i64 (AtV.m a))),(.val (.bool (AtV.hm a)))])], []⟩
 else (bif ax BinOp.neq (aj (Value.int IntKind.u32 (AtV.h a)) (Value.int IntKind.u32 (0:Int)))
 then (bif ax BinOp.neq (aj (Value.int IntKind.u32 (AtV.h a)) (Value.int IntKind.u32 (4294967295:Int)))
 then (bif ax BinOp.neq (aj (Value.int IntKind.u32 (Int.fdiv (AtV.h a) ((2:Int)^min (Int.toNat (24:Int)) (IntKind.bits IntKind.u32)))) (Value.int IntKind.u32 (127:Int)))
 then (bif !ax BinOp.neq (aj (Value.int IntKind.u32 (Int.fdiv (AtV.h a) ((2:Int)^min (Int.toNat (29:Int)) (IntKind.bits IntKind.u32)))) (Value.int IntKind.u32 (7:Int)))
 then Q (.val (.bool false)) ⟨[(.cells [(.val (.int .i64 (AtV.o a))),(.vec 1 (iV (AtV.p a)) .none),(.val (.int .u32 (AtV.h a))),(.val (.int .i64 (AtV.m a))),(.val (.bool (AtV.hm a)))])], []⟩
 else (bif decide (AtV.m a<(0:Int))
 then Q (.val (.bool false)) ⟨[(.cells [(.val (.int .i64 (AtV.o a))),(.vec 1 (iV (AtV.p a)) .none),(.val (.int .u32 (AtV.h a))),(.val (.int .i64 (AtV.m a))),(.val (.bool (AtV.hm a)))])], []⟩
 else (bif decide (AtV.m a>(4294967295:Int))
 then Q (.val (.bool false)) ⟨[(.cells [(.val (.int .i64 (AtV.o a))),(.vec 1 (iV (AtV.p a)) .none),(.val (.int .u32 (AtV.h a))),(.val (.int .i64 (AtV.m a))),(.val (.bool (AtV.hm a)))])], []⟩
 else (bif AtV.hm a
 then Q (.val (.bool true)) ⟨[(.cells [(.val (.int .i64 (AtV.o a))),(.vec 1 (iV (AtV.p a)) .none),(.val (.int .u32 (AtV.h a))),(.val (.int .i64 (AtV.m a))),(.val (.bool (AtV.hm a)))])], []⟩
 else Q (.val (.bool (ax BinOp.eql (aj (Value.int IntKind.i64 (AtV.m a)) (Value.int IntKind.i64 (0:Int)))))) ⟨[(.cells [(.val (.int .i64 (AtV.o a))),(.vec 1 (iV (AtV.p a)) .none),(.val (.int .u32 (AtV.h a))),(.val (.int .i64 (AtV.m a))),(.val (.bool (AtV.hm a)))])], []⟩))))
 else Q (.val (.bool false)) ⟨[(.cells [(.val (.int .i64 (AtV.o a))),(.vec 1 (iV (AtV.p a)) .none),(.val (.int .u32 (AtV.h a))),(.val (.int .i64 (AtV.m a))),(.val (.bool (AtV.hm a)))])], []⟩)
 else Q (.val (.bool false)) ⟨[(.cells [(.val (.int .i64 (AtV.o a))),(.vec 1 (iV (AtV.p a)) .none),(.val (.int .u32 (AtV.h a))),(.val (.int .i64 (AtV.m a))),(.val (.bool (AtV.hm a)))])], []⟩)
 else Q (.val (.bool false)) ⟨[(.cells [(.val (.int .i64 (AtV.o a))),(.vec 1 (iV (AtV.p a)) .none),(.val (.int .u32 (AtV.h a))),(.val (.int .i64 (AtV.m a))),(.val (.bool (AtV.hm a)))])], []⟩))))
 else Q (.val (.bool false)) ⟨[(.cells [(.val (.int .i64 (AtV.o a))),(.vec 1 (iV (AtV.p a)) .none),(.val (.int .u32 (AtV.h a))),(.val (.int .i64 (AtV.m a))),(.val (.bool (AtV.hm a)))])], []⟩)))):=by kernel_rfl
theorem y9 (a:AtV) (z:Int) (j:Nat) (Q:Exit→List TV→VT→List Nat→Nat→Prop):vx Try.prog ac aL (aB [(999998, .dead,none),(10, .elt [.val (.int .i64 z)],none)]) 300 aE none 0 (b6 Try.prog gR 0) (aG 56 qo (ru (iV a.p) j)) ⟨[.cells a.cells], []⟩ [] (cB qo Q)=
 (bif decide ((↑j:Int)<(↑(List.length (iV (AtV.p a))):Int))
 then (aU Try.prog (fun _=> .none) (.indexAddr 30 (.tmp 6) (.tmp 8)) [(6,(.vec 1 (iV (AtV.p a)) .none)),(8,(.val (.int .i64 ((↑j:Int)))))] (.elt [(.val (.int .i64 (z)))])∧
 (bif decide (z<(1:Int))
 then Q .ret [(.val (.bool false)),(.ptr 0 0),(.vec 1 (iV (AtV.p a)) .none),(.val (.int .i64 ((↑(List.length (iV (AtV.p a))):Int)))),(.val (.int .i64 ((↑j:Int))))] ⟨[(.cells [(.val (.int .i64 (AtV.o a))),(.vec 1 (iV (AtV.p a)) .none),(.val (.int .u32 (AtV.h a))),(.val (.int .i64 (AtV.m a))),(.val (.bool (AtV.hm a)))])], []⟩ [] 56
 else (bif decide (z>(65535:Int))
 then Q .ret [(.val (.bool false)),(.ptr 0 0),(.vec 1 (iV (AtV.p a)) .none),(.val (.int .i64 ((↑(List.length (iV (AtV.p a))):Int)))),(.val (.int .i64 ((↑j:Int))))] ⟨[(.cells [(.val (.int .i64 (AtV.o a))),(.vec 1 (iV (AtV.p a)) .none),(.val (.int .u32 (AtV.h a))),(.val (.int .i64 (AtV.m a))),(.val (.bool (AtV.hm a)))])], []⟩ [] 56
 else Q .normal [(.val (.bool false)),(.ptr 0 0),(.vec 1 (iV (AtV.p a)) .none),(.val (.int .i64 ((↑(List.length (iV (AtV.p a))):Int)))),(.val (.int .i64 (IntKind.wrap IntKind.i64 ((↑j:Int)+(1:Int)))))] ⟨[(.cells [(.val (.int .i64 (AtV.o a))),(.vec 1 (iV (AtV.p a)) .none),(.val (.int .u32 (AtV.h a))),(.val (.int .i64 (AtV.m a))),(.val (.bool (AtV.hm a)))])], []⟩ [] 56)))
 else Q (.exit 0) [(.val (.bool false)),(.ptr 0 0),(.vec 1 (iV (AtV.p a)) .none),(.val (.int .i64 ((↑(List.length (iV (AtV.p a))):Int)))),(.val (.int .i64 ((↑j:Int))))] ⟨[(.cells [(.val (.int .i64 (AtV.o a))),(.vec 1 (iV (AtV.p a)) .none),(.val (.int .u32 (AtV.h a))),(.val (.int .i64 (AtV.m a))),(.val (.bool (AtV.hm a)))])], []⟩ [] 56):=by kernel_rfl
theorem GK (a b:AtV) (ok:Bool) (Q:TV→VT→Prop):aq Try.prog ac aL (aB [(999998, .dead,none)]) 300 (Hj a b ok (au Try.prog eP 0)) 0 eP [.agg a.cells, .agg b.cells] ⟨[], []⟩ Q=
 (bif ax BinOp.neq (aj (Value.int IntKind.i64 (AtV.o a)) (Value.int IntKind.i64 (AtV.o b)))
 then Q (.val (.bool false)) ⟨[(.cells [(.val (.int .i64 (AtV.o a))),(.vec 1 (iV (AtV.p a)) .none),(.val (.int .u32 (AtV.h a))),(.val (.int .i64 (AtV.m a))),(.val (.bool (AtV.hm a)))]),(.cells [(.val (.int .i64 (AtV.o b))),(.vec 1 (iV (AtV.p b)) .none),(.val (.int .u32 (AtV.h b))),(.val (.int .i64 (AtV.m b))),(.val (.bool (AtV.hm b)))])], []⟩
 else (bif ax BinOp.neq (aj (Value.int IntKind.u32 (AtV.h a)) (Value.int IntKind.u32 (AtV.h b)))
 then Q (.val (.bool false)) ⟨[(.cells [(.val (.int .i64 (AtV.o a))),(.vec 1 (iV (AtV.p a)) .none),(.val (.int .u32 (AtV.h a))),(.val (.int .i64 (AtV.m a))),(.val (.bool (AtV.hm a)))]),(.cells [(.val (.int .i64 (AtV.o b))),(.vec 1 (iV (AtV.p b)) .none),(.val (.int .u32 (AtV.h b))),(.val (.int .i64 (AtV.m b))),(.val (.bool (AtV.hm b)))])], []⟩
 else (bif ax BinOp.neq (aj (Value.int IntKind.i64 (AtV.m a)) (Value.int IntKind.i64 (AtV.m b)))
 then Q (.val (.bool false)) ⟨[(.cells [(.val (.int .i64 (AtV.o a))),(.vec 1 (iV (AtV.p a)) .none),(.val (.int .u32 (AtV.h a))),(.val (.int .i64 (AtV.m a))),(.val (.bool (AtV.hm a)))]),(.cells [(.val (.int .i64 (AtV.o b))),(.vec 1 (iV (AtV.p b)) .none),(.val (.int .u32 (AtV.h b))),(.val (.int .i64 (AtV.m b))),(.val (.bool (AtV.hm b)))])], []⟩
 else (bif ax BinOp.neq (aj (Value.bool (AtV.hm a)) (Value.bool (AtV.hm b)))
 then Q (.val (.bool false)) ⟨[(.cells [(.val (.int .i64 (AtV.o a))),(.vec 1 (iV (AtV.p a)) .none),(.val (.int .u32 (AtV.h a))),(.val (.int .i64 (AtV.m a))),(.val (.bool (AtV.hm a)))]),(.cells [(.val (.int .i64 (AtV.o b))),(.vec 1 (iV (AtV.p b)) .none),(.val (.int .u32 (AtV.h b))),(.val (.int .i64 (AtV.m b))),(.val (.bool (AtV.hm b)))])], []⟩
 else (bif ax BinOp.neq (aj (Value.int IntKind.i64 (↑(List.length (iV (AtV.p a))):Int)) (Value.int IntKind.i64 (↑(List.length (iV (AtV.p b))):Int)))
 then Q (.val (.bool false)) ⟨[(.cells [(.val (.int .i64 (AtV.o a))),(.vec 1 (iV (AtV.p a)) .none),(.val (.int .u32 (AtV.h a))),(.val (.int .i64 (AtV.m a))),(.val (.bool (AtV.hm a)))]),(.cells [(.val (.int .i64 (AtV.o b))),(.vec 1 (iV (AtV.p b)) .none),(.val (.int .u32 (AtV.h b))),(.val (.int .i64 (AtV.m b))),(.val (.bool (AtV.hm b)))])], []⟩
 else ((au Try.prog eP (0:Nat)=au Try.prog eP (0:Nat))∧
 (((@Eq (Option Nat) .none .none)∧
 ((@Eq (Nat) 0 0)∧
 ((@Eq (List Nat) [] [])∧
 (True  ∧
 ((@Eq (VT) ⟨[(.cells [(.val (.int .i64 (AtV.o a))),(.vec 1 (iV (AtV.p a)) .none),(.val (.int .u32 (AtV.h a))),(.val (.int .i64 (AtV.m a))),(.val (.bool (AtV.hm a)))]),(.cells [(.val (.int .i64 (AtV.o b))),(.vec 1 (iV (AtV.p b)) .none),(.val (.int .u32 (AtV.h b))),(.val (.int .i64 (AtV.m b))),(.val (.bool (AtV.hm b)))])], []⟩ ⟨[(.cells [(.val (.int .i64 (AtV.o a))),(.vec 1 (iV (AtV.p a)) .none),(.val (.int .u32 (AtV.h a))),(.val (.int .i64 (AtV.m a))),(.val (.bool (AtV.hm a)))]),(.cells [(.val (.int .i64 (AtV.o b))),(.vec 1 (iV (AtV.p b)) .none),(.val (.int .u32 (AtV.h b))),(.val (.int .i64 (AtV.m b))),(.val (.bool (AtV.hm b)))])], []⟩)∧
 ((@Eq (Bool) true true)∧
 (@Eq (List TV) [(.val (.bool false)),(.ptr 0 0),(.ptr 1 0),(.val (.int .i64 ((↑(List.length (iV (AtV.p a))):Int)))),(.val (.int .i64 0))] [(.val (.bool false)),(.ptr 0 0),(.ptr 1 0),(.val (.int .i64 ((↑(List.length (iV (AtV.p a))):Int)))),(.val (.int .i64 0))])))))))∧
 ((@Eq (Nat) (List.length (iV (AtV.p a))) (List.length (iV (AtV.p b))))∧
 (∀z:Int,(bif ok
 then Q (.val (.bool true)) ⟨[(.cells [(.val (.int .i64 (AtV.o a))),(.vec 1 (iV (AtV.p a)) .none),(.val (.int .u32 (AtV.h a))),(.val (.int .i64 (AtV.m a))),(.val (.bool (AtV.hm a)))]),(.cells [(.val (.int .i64 (AtV.o b))),(.vec 1 (iV (AtV.p b)) .none),(.val (.int .u32 (AtV.h b))),(.val (.int .i64 (AtV.m b))),(.val (.bool (AtV.hm b)))])], []⟩
 else Q (.val (.bool false)) ⟨[(.cells [(.val (.int .i64 (AtV.o a))),(.vec 1 (iV (AtV.p a)) .none),(.val (.int .u32 (AtV.h a))),(.val (.int .i64 (AtV.m a))),(.val (.bool (AtV.hm a)))]),(.cells [(.val (.int .i64 (AtV.o b))),(.vec 1 (iV (AtV.p b)) .none),(.val (.int .u32 (AtV.h b))),(.val (.int .i64 (AtV.m b))),(.val (.bool (AtV.hm b)))])], []⟩)))))))))):=by kernel_rfl
theorem za (a b:AtV) (z y:Int) (j:Nat) (Q:Exit→List TV→VT→List Nat→Nat→Prop):vx Try.prog ac aL (aB [(999998, .dead,none),(50, .elt [.val (.int .i64 z)],none),(55, .elt [.val (.int .i64 y)],none)]) 300 aE none 0 (b6 Try.prog eP 0) (aG 59 qp (rx (iV a.p) j)) ⟨[.cells a.cells, .cells b.cells], []⟩ [] (cB qp Q)=
 (bif decide ((↑j:Int)<(↑(List.length (iV (AtV.p a))):Int))
 then (aU Try.prog (fun _=> .none) (.indexAddr 30 (.tmp 48) (.tmp 49)) [(48,(.vec 1 (iV (AtV.p a)) .none)),(49,(.val (.int .i64 ((↑j:Int)))))] (.elt [(.val (.int .i64 (z)))])∧
 (aU Try.prog (fun _=> .none) (.indexAddr 30 (.tmp 53) (.tmp 54)) [(53,(.vec 1 (iV (AtV.p b)) .none)),(54,(.val (.int .i64 ((↑j:Int)))))] (.elt [(.val (.int .i64 (y)))])∧
 (bif ax BinOp.neq (aj (Value.int IntKind.i64 z) (Value.int IntKind.i64 y))
 then Q .ret [(.val (.bool false)),(.ptr 0 0),(.ptr 1 0),(.val (.int .i64 ((↑(List.length (iV (AtV.p a))):Int)))),(.val (.int .i64 ((↑j:Int))))] ⟨[(.cells [(.val (.int .i64 (AtV.o a))),(.vec 1 (iV (AtV.p a)) .none),(.val (.int .u32 (AtV.h a))),(.val (.int .i64 (AtV.m a))),(.val (.bool (AtV.hm a)))]),(.cells [(.val (.int .i64 (AtV.o b))),(.vec 1 (iV (AtV.p b)) .none),(.val (.int .u32 (AtV.h b))),(.val (.int .i64 (AtV.m b))),(.val (.bool (AtV.hm b)))])], []⟩ [] 59
 else Q .normal [(.val (.bool false)),(.ptr 0 0),(.ptr 1 0),(.val (.int .i64 ((↑(List.length (iV (AtV.p a))):Int)))),(.val (.int .i64 (IntKind.wrap IntKind.i64 ((↑j:Int)+(1:Int)))))] ⟨[(.cells [(.val (.int .i64 (AtV.o a))),(.vec 1 (iV (AtV.p a)) .none),(.val (.int .u32 (AtV.h a))),(.val (.int .i64 (AtV.m a))),(.val (.bool (AtV.hm a)))]),(.cells [(.val (.int .i64 (AtV.o b))),(.vec 1 (iV (AtV.p b)) .none),(.val (.int .u32 (AtV.h b))),(.val (.int .i64 (AtV.m b))),(.val (.bool (AtV.hm b)))])], []⟩ [] 59)))
 else Q (.exit 0) [(.val (.bool false)),(.ptr 0 0),(.ptr 1 0),(.val (.int .i64 ((↑(List.length (iV (AtV.p a))):Int)))),(.val (.int .i64 ((↑j:Int))))] ⟨[(.cells [(.val (.int .i64 (AtV.o a))),(.vec 1 (iV (AtV.p a)) .none),(.val (.int .u32 (AtV.h a))),(.val (.int .i64 (AtV.m a))),(.val (.bool (AtV.hm a)))]),(.cells [(.val (.int .i64 (AtV.o b))),(.vec 1 (iV (AtV.p b)) .none),(.val (.int .u32 (AtV.h b))),(.val (.int .i64 (AtV.m b))),(.val (.bool (AtV.hm b)))])], []⟩ [] 59):=by kernel_rfl
theorem GL (a n:Int) (x:AtV) (g ok ok2:Bool) (Q:TV→VT→Prop):aq Try.prog ac (aD [(ql,qm),(gR,qn ok),(eP,wY ok2)]) (aB [(999998, .dead,none)]) 300 aE 0 tM [.agg (ei a n x g)] ⟨[], []⟩ Q=
 (bif g
 then (gB (a) (n)∧
 (bif gt a n
 then (wO [(.val (.int .i64 (AtV.o x))),(.vec 1 (iV (AtV.p x)) .none),(.val (.int .u32 (AtV.h x))),(.val (.int .i64 (AtV.m x))),(.val (.bool (AtV.hm x)))] [(.val (.int .i64 0)),(.val (.slice .none 0 0)),(.val (.int .u32 0)),(.val (.int .i64 0)),(.val (.bool false))] (ok2)∧
 Q (.val (.bool (ok2))) ⟨[(.cells [(.val (.int .u32 (a))),(.val (.int .i64 (n))),(.val (.int .i64 (AtV.o x))),(.vec 1 (iV (AtV.p x)) .none),(.val (.int .u32 (AtV.h x))),(.val (.int .i64 (AtV.m x))),(.val (.bool (AtV.hm x))),(.val (.bool (g)))])], []⟩)
 else Q (.val (.bool false)) ⟨[(.cells [(.val (.int .u32 (a))),(.val (.int .i64 (n))),(.val (.int .i64 (AtV.o x))),(.vec 1 (iV (AtV.p x)) .none),(.val (.int .u32 (AtV.h x))),(.val (.int .i64 (AtV.m x))),(.val (.bool (AtV.hm x))),(.val (.bool (g)))])], []⟩))
 else (gB (a) (n)∧
 (bif gt a n
 then (oe [(.val (.int .i64 (AtV.o x))),(.vec 1 (iV (AtV.p x)) .none),(.val (.int .u32 (AtV.h x))),(.val (.int .i64 (AtV.m x))),(.val (.bool (AtV.hm x)))] (ok)∧
 Q (.val (.bool (ok))) ⟨[(.cells [(.val (.int .u32 (a))),(.val (.int .i64 (n))),(.val (.int .i64 (AtV.o x))),(.vec 1 (iV (AtV.p x)) .none),(.val (.int .u32 (AtV.h x))),(.val (.int .i64 (AtV.m x))),(.val (.bool (AtV.hm x))),(.val (.bool (g)))])], []⟩)
 else Q (.val (.bool false)) ⟨[(.cells [(.val (.int .u32 (a))),(.val (.int .i64 (n))),(.val (.int .i64 (AtV.o x))),(.vec 1 (iV (AtV.p x)) .none),(.val (.int .u32 (AtV.h x))),(.val (.int .i64 (AtV.m x))),(.val (.bool (AtV.hm x))),(.val (.bool (g)))])], []⟩))):=by kernel_rfl
theorem GM (L:Bs) (a n:Int) (y:AtV) (b:Bool) (Q:TV→VT→Prop):aq Try.prog ac aL (aB [(999998, .dead,none)]) 300 (Hk L a n y b (au Try.prog gf 0)) 0 gf [.vec 7 L .none,dg a n] ⟨[], []⟩ Q=
 ((au Try.prog gf (0:Nat)=au Try.prog gf (0:Nat))∧
 (((@Eq (Option Nat) .none .none)∧
 ((@Eq (Nat) 0 0)∧
 ((@Eq (List Nat) [] [])∧
 (True  ∧
 ((@Eq (VT) ⟨[(.cells [(.val (.int .u32 (a))),(.val (.int .i64 (n)))]),(.cells [(.val (.int .i64 0)),(.val (.slice .none 0 0)),(.val (.int .u32 0)),(.val (.int .i64 0)),(.val (.bool false))])], []⟩ ⟨[(.cells [(.val (.int .u32 (a))),(.val (.int .i64 (n)))]),(.cells [(.val (.int .i64 0)),(.val (.slice .none 0 0)),(.val (.int .u32 0)),(.val (.int .i64 0)),(.val (.bool false))])], []⟩)∧
 ((@Eq (Bool) true true)∧
 (@Eq (List TV) [(.val (.bool false)),(.ptr 0 0),(.ptr 1 0),(.vec 7 (L) .none),(.val (.int .i64 ((↑(List.length L):Int)))),(.val (.int .i64 0))] [(.val (.bool false)),(.ptr 0 0),(.ptr 1 0),(.vec 7 (L) .none),(.val (.int .i64 ((↑(List.length L):Int)))),(.val (.int .i64 0))])))))))∧
 (∀z:Int,(bif b
 then Q (.tup [(.agg [(.val (.int .i64 (AtV.o y))),(.vec 1 (iV (AtV.p y)) .none),(.val (.int .u32 (AtV.h y))),(.val (.int .i64 (AtV.m y))),(.val (.bool (AtV.hm y)))]),(.val (.bool true))]) ⟨[(.cells [(.val (.int .u32 (a))),(.val (.int .i64 (n)))]),(.cells [(.val (.int .i64 (AtV.o y))),(.vec 1 (iV (AtV.p y)) .none),(.val (.int .u32 (AtV.h y))),(.val (.int .i64 (AtV.m y))),(.val (.bool (AtV.hm y)))]),(.cells [(.val (.int .u32 (a))),(.val (.int .i64 (n))),(.val (.int .i64 (AtV.o y))),(.vec 1 (iV (AtV.p y)) .none),(.val (.int .u32 (AtV.h y))),(.val (.int .i64 (AtV.m y))),(.val (.bool (AtV.hm y)))])], []⟩
 else Q (.tup [(.agg [(.val (.int .i64 0)),(.val (.slice .none 0 0)),(.val (.int .u32 0)),(.val (.int .i64 0)),(.val (.bool false))]),(.val (.bool false))]) ⟨[(.cells [(.val (.int .u32 (a))),(.val (.int .i64 (n)))]),(.cells [(.val (.int .i64 0)),(.val (.slice .none 0 0)),(.val (.int .u32 0)),(.val (.int .i64 0)),(.val (.bool false))])], []⟩)))):=by kernel_rfl
theorem zb (L:Bs) (a n c m:Int) (y:AtV) (j:Nat) (Q:Exit→List TV→VT→List Nat→Nat→Prop):vx Try.prog ac aL (aB [(999998, .dead,none),(12, .elt (iy c m y),none)]) 300 aE none 0 (b6 Try.prog gf 0) (aG 22 qr (pC L false j)) (y8 a n pB) [] (cB qr Q)=
 (bif decide ((↑j:Int)<(↑(List.length L):Int))
 then (aU Try.prog (fun _=> .none) (.indexAddr 39 (.tmp 8) (.tmp 10)) [(8,(.vec 7 (L) .none)),(10,(.val (.int .i64 ((↑j:Int)))))] (.elt [(.val (.int .u32 (c))),(.val (.int .i64 (m))),(.val (.int .i64 (AtV.o y))),(.vec 1 (iV (AtV.p y)) .none),(.val (.int .u32 (AtV.h y))),(.val (.int .i64 (AtV.m y))),(.val (.bool (AtV.hm y)))])∧
 (bif ax BinOp.eql (aj ((fun vs=>Value.agg (List.toArray vs)) ((fun x=>Value.int IntKind.u32 c::x) ((fun x=>Value.int IntKind.i64 m::x) []))) ((fun vs=>Value.agg (List.toArray vs)) ((fun x=>Value.int IntKind.u32 a::x) ((fun x=>Value.int IntKind.i64 n::x) []))))
 then Q .ret [(.val (.bool true)),(.ptr 0 0),(.ptr 1 0),(.vec 7 (L) .none),(.val (.int .i64 ((↑(List.length L):Int)))),(.val (.int .i64 ((↑j:Int))))] ⟨[(.cells [(.val (.int .u32 (a))),(.val (.int .i64 (n)))]),(.cells [(.val (.int .i64 (AtV.o y))),(.vec 1 (iV (AtV.p y)) .none),(.val (.int .u32 (AtV.h y))),(.val (.int .i64 (AtV.m y))),(.val (.bool (AtV.hm y)))]),(.cells [(.val (.int .u32 (c))),(.val (.int .i64 (m))),(.val (.int .i64 (AtV.o y))),(.vec 1 (iV (AtV.p y)) .none),(.val (.int .u32 (AtV.h y))),(.val (.int .i64 (AtV.m y))),(.val (.bool (AtV.hm y)))])], []⟩ [] 22
 else Q .normal [(.val (.bool false)),(.ptr 0 0),(.ptr 1 0),(.vec 7 (L) .none),(.val (.int .i64 ((↑(List.length L):Int)))),(.val (.int .i64 (IntKind.wrap IntKind.i64 ((↑j:Int)+(1:Int)))))] ⟨[(.cells [(.val (.int .u32 (a))),(.val (.int .i64 (n)))]),(.cells [(.val (.int .i64 0)),(.val (.slice .none 0 0)),(.val (.int .u32 0)),(.val (.int .i64 0)),(.val (.bool false))]),(.cells [(.val (.int .u32 (c))),(.val (.int .i64 (m))),(.val (.int .i64 (AtV.o y))),(.vec 1 (iV (AtV.p y)) .none),(.val (.int .u32 (AtV.h y))),(.val (.int .i64 (AtV.m y))),(.val (.bool (AtV.hm y)))])], []⟩ [] 22))
 else Q (.exit 0) [(.val (.bool false)),(.ptr 0 0),(.ptr 1 0),(.vec 7 (L) .none),(.val (.int .i64 ((↑(List.length L):Int)))),(.val (.int .i64 ((↑j:Int))))] ⟨[(.cells [(.val (.int .u32 (a))),(.val (.int .i64 (n)))]),(.cells [(.val (.int .i64 0)),(.val (.slice .none 0 0)),(.val (.int .u32 0)),(.val (.int .i64 0)),(.val (.bool false))])], []⟩ [] 22):=by kernel_rfl
theorem GN (L:Bs) (a n:Int) (x:TV) (tl:bA) (Q:TV→VT→Prop):aq Try.prog ac aL (aB [(999998, .dead,none)]) 300 (Hl L a n x tl (au Try.prog jz 0)) 0 jz [.vec 7 L .none,dg a n] ⟨[], []⟩ Q=
 ((au Try.prog jz (0:Nat)=au Try.prog jz (0:Nat))∧
 (((@Eq (Option Nat) .none .none)∧
 ((@Eq (Nat) 0 0)∧
 ((@Eq (List Nat) [] [])∧
 (True  ∧
 ((@Eq (VT) ⟨[(.cells [(.val (.int .u32 (a))),(.val (.int .i64 (n)))])], []⟩ ⟨[(.cells [(.val (.int .u32 (a))),(.val (.int .i64 (n)))])], []⟩)∧
 ((@Eq (Bool) true true)∧
 (@Eq (List TV) [(.ptr 0 0),(.val (.slice .none 0 0)),(.vec 7 (L) .none),(.val (.int .i64 ((↑(List.length L):Int)))),(.val (.int .i64 0))] [(.ptr 0 0),(.val (.slice .none 0 0)),(.vec 7 (L) .none),(.val (.int .i64 ((↑(List.length L):Int)))),(.val (.int .i64 0))])))))))∧
 Q (x) ⟨[(.cells [(.val (.int .u32 (a))),(.val (.int .i64 (n)))])],(tl)⟩)):=by kernel_rfl
theorem zc (L:Bs) (a n c m:Int) (y:AtV) (x1:TV) (l1:Bs) (tk1:Tok) (tl tl2:bA) (j:Nat) (Q:Exit→List TV→VT→List Nat→Nat→Prop):vx Try.prog ac aL (aB [(999998, .dead,none),(12, .elt (iy c m y),none),(21, .vec 7 l1 tk1,some fun T=>{T with tails:=tl2})]) 300 aE none 0 (b6 Try.prog jz 0) (aG 24 tN (nQ L x1 j)) (pD a n tl) [] (cB tN Q)=
 (bif decide ((↑j:Int)<(↑(List.length L):Int))
 then (aU Try.prog (fun _=> .none) (.indexAddr 39 (.tmp 8) (.tmp 10)) [(8,(.vec 7 (L) .none)),(10,(.val (.int .i64 ((↑j:Int)))))] (.elt [(.val (.int .u32 (c))),(.val (.int .i64 (m))),(.val (.int .i64 (AtV.o y))),(.vec 1 (iV (AtV.p y)) .none),(.val (.int .u32 (AtV.h y))),(.val (.int .i64 (AtV.m y))),(.val (.bool (AtV.hm y)))])∧
 (bif ax BinOp.neq (aj ((fun vs=>Value.agg (List.toArray vs)) ((fun x=>Value.int IntKind.u32 c::x) ((fun x=>Value.int IntKind.i64 m::x) []))) ((fun vs=>Value.agg (List.toArray vs)) ((fun x=>Value.int IntKind.u32 a::x) ((fun x=>Value.int IntKind.i64 n::x) []))))
 then (bp Try.prog (fun _=> .none) 0 ⟨[(.cells [(.val (.int .u32 (a))),(.val (.int .i64 (n)))]),(.cells [(.val (.int .u32 (c))),(.val (.int .i64 (m))),(.val (.int .i64 (AtV.o y))),(.vec 1 (iV (AtV.p y)) .none),(.val (.int .u32 (AtV.h y))),(.val (.int .i64 (AtV.m y))),(.val (.bool (AtV.hm y)))])],(tl)⟩ (.call ⟨(.builtin .append), #[(.tmp 18),(.tmp 20)], #[39,39]⟩) [(18,(x1)),(20,(.vec 7 [[(.val (.int .u32 (c))),(.val (.int .i64 (m))),(.val (.int .i64 (AtV.o y))),(.vec 1 (iV (AtV.p y)) .none),(.val (.int .u32 (AtV.h y))),(.val (.int .i64 (AtV.m y))),(.val (.bool (AtV.hm y)))]] .full))] (.vec 7 (l1) (tk1)) ⟨[(.cells [(.val (.int .u32 (a))),(.val (.int .i64 (n)))]),(.cells [(.val (.int .u32 (c))),(.val (.int .i64 (m))),(.val (.int .i64 (AtV.o y))),(.vec 1 (iV (AtV.p y)) .none),(.val (.int .u32 (AtV.h y))),(.val (.int .i64 (AtV.m y))),(.val (.bool (AtV.hm y)))])],(tl2)⟩∧
 Q .normal [(.ptr 0 0),(.vec 7 (l1) (tk1)),(.vec 7 (L) .none),(.val (.int .i64 ((↑(List.length L):Int)))),(.val (.int .i64 (IntKind.wrap IntKind.i64 ((↑j:Int)+(1:Int)))))] ⟨[(.cells [(.val (.int .u32 (a))),(.val (.int .i64 (n)))]),(.cells [(.val (.int .u32 (c))),(.val (.int .i64 (m))),(.val (.int .i64 (AtV.o y))),(.vec 1 (iV (AtV.p y)) .none),(.val (.int .u32 (AtV.h y))),(.val (.int .i64 (AtV.m y))),(.val (.bool (AtV.hm y)))])],(tl2)⟩ [] 24)
 else Q .normal [(.ptr 0 0),(x1),(.vec 7 (L) .none),(.val (.int .i64 ((↑(List.length L):Int)))),(.val (.int .i64 (IntKind.wrap IntKind.i64 ((↑j:Int)+(1:Int)))))] ⟨[(.cells [(.val (.int .u32 (a))),(.val (.int .i64 (n)))]),(.cells [(.val (.int .u32 (c))),(.val (.int .i64 (m))),(.val (.int .i64 (AtV.o y))),(.vec 1 (iV (AtV.p y)) .none),(.val (.int .u32 (AtV.h y))),(.val (.int .i64 (AtV.m y))),(.val (.bool (AtV.hm y)))])],(tl)⟩ [] 24))
 else Q (.exit 0) [(.ptr 0 0),(x1),(.vec 7 (L) .none),(.val (.int .i64 ((↑(List.length L):Int)))),(.val (.int .i64 ((↑j:Int))))] ⟨[(.cells [(.val (.int .u32 (a))),(.val (.int .i64 (n)))])],(tl)⟩ [] 24):=by kernel_rfl
theorem GO (L R1:Bs) (a n:Int) (y:AtV) (x:TV) (d:Bool) (tl:bA) (l1:Bs) (tk1:Tok) (tl2:bA) (Q:TV→VT→Prop):aq Try.prog ac (aD [(jz,rt R1)]) (aB [(999998, .dead,none),(42, .vec 7 l1 tk1,some fun T=>{T with tails:=tl2})]) 300 (Hm R1 a n y x d tl (au Try.prog kQ 0)) 0 kQ [.vec 7 L .none, .agg (iy a n y)] ⟨[], []⟩ Q=
 (wW (L) (a) (n) (R1)∧
 ((au Try.prog kQ (0:Nat)=au Try.prog kQ (0:Nat))∧
 (((@Eq (Option Nat) .none .none)∧
 ((@Eq (Nat) 0 0)∧
 ((@Eq (List Nat) [] [])∧
 (True  ∧
 ((@Eq (VT) ⟨[(.cells [(.val (.int .u32 (a))),(.val (.int .i64 (n))),(.val (.int .i64 (AtV.o y))),(.vec 1 (iV (AtV.p y)) .none),(.val (.int .u32 (AtV.h y))),(.val (.int .i64 (AtV.m y))),(.val (.bool (AtV.hm y)))])], []⟩ ⟨[(.cells [(.val (.int .u32 (a))),(.val (.int .i64 (n))),(.val (.int .i64 (AtV.o y))),(.vec 1 (iV (AtV.p y)) .none),(.val (.int .u32 (AtV.h y))),(.val (.int .i64 (AtV.m y))),(.val (.bool (AtV.hm y)))])], []⟩)∧
 ((@Eq (Bool) true true)∧
 (@Eq (List TV) [(.ptr 0 0),(.val (.slice .none 0 0)),(.val (.bool false)),(.vec 7 (R1) .none),(.val (.int .i64 ((↑(List.length R1):Int)))),(.val (.int .i64 0))] [(.ptr 0 0),(.val (.slice .none 0 0)),(.val (.bool false)),(.vec 7 (R1) .none),(.val (.int .i64 ((↑(List.length R1):Int)))),(.val (.int .i64 0))])))))))∧
 (bif !d
 then (bp Try.prog (fun _=> .none) 0 ⟨[(.cells [(.val (.int .u32 (a))),(.val (.int .i64 (n))),(.val (.int .i64 (AtV.o y))),(.vec 1 (iV (AtV.p y)) .none),(.val (.int .u32 (AtV.h y))),(.val (.int .i64 (AtV.m y))),(.val (.bool (AtV.hm y)))])],(tl)⟩ (.call ⟨(.builtin .append), #[(.tmp 39),(.tmp 41)], #[39,39]⟩) [(39,(x)),(41,(.vec 7 [[(.val (.int .u32 (a))),(.val (.int .i64 (n))),(.val (.int .i64 (AtV.o y))),(.vec 1 (iV (AtV.p y)) .none),(.val (.int .u32 (AtV.h y))),(.val (.int .i64 (AtV.m y))),(.val (.bool (AtV.hm y)))]] .full))] (.vec 7 (l1) (tk1)) ⟨[(.cells [(.val (.int .u32 (a))),(.val (.int .i64 (n))),(.val (.int .i64 (AtV.o y))),(.vec 1 (iV (AtV.p y)) .none),(.val (.int .u32 (AtV.h y))),(.val (.int .i64 (AtV.m y))),(.val (.bool (AtV.hm y)))])],(tl2)⟩∧
 Q (.vec 7 (l1) (tk1)) ⟨[(.cells [(.val (.int .u32 (a))),(.val (.int .i64 (n))),(.val (.int .i64 (AtV.o y))),(.vec 1 (iV (AtV.p y)) .none),(.val (.int .u32 (AtV.h y))),(.val (.int .i64 (AtV.m y))),(.val (.bool (AtV.hm y)))])],(tl2)⟩)
 else Q (x) ⟨[(.cells [(.val (.int .u32 (a))),(.val (.int .i64 (n))),(.val (.int .i64 (AtV.o y))),(.vec 1 (iV (AtV.p y)) .none),(.val (.int .u32 (AtV.h y))),(.val (.int .i64 (AtV.m y))),(.val (.bool (AtV.hm y)))])],(tl)⟩)))):=by kernel_rfl
theorem zd (L:Bs) (a n:Int) (y:AtV) (c m:Int) (v:AtV) (x1:TV) (d:Bool) (l1 l2:Bs) (tk1 tk2:Tok) (tl tl2 tl3:bA) (j:Nat) (Q:Exit→List TV→VT→List Nat→Nat→Prop):vx Try.prog ac (aD [(A5,wX)]) (aB [(999998, .dead,none),(16, .elt (iy c m v),none),(31, .vec 7 l1 tk1,some fun T=>{T with tails:=tl2}),(35, .vec 7 l2 tk2,some fun T=>{T with tails:=tl3})]) 300 aE none 0 (b6 Try.prog kQ 0) (aG 44 tO (lV L x1 d j)) (mQ a n y tl) [] (cB tO Q)=
 (bif decide ((↑j:Int)<(↑(List.length L):Int))
 then (aU Try.prog (fun _=> .none) (.indexAddr 39 (.tmp 12) (.tmp 14)) [(12,(.vec 7 (L) .none)),(14,(.val (.int .i64 ((↑j:Int)))))] (.elt [(.val (.int .u32 (c))),(.val (.int .i64 (m))),(.val (.int .i64 (AtV.o v))),(.vec 1 (iV (AtV.p v)) .none),(.val (.int .u32 (AtV.h v))),(.val (.int .i64 (AtV.m v))),(.val (.bool (AtV.hm v)))])∧
 (bif !d
 then (bif decide (dG c m a n>(0:Int))
 then (bp Try.prog (fun _=> .none) 0 ⟨[(.cells [(.val (.int .u32 (a))),(.val (.int .i64 (n))),(.val (.int .i64 (AtV.o y))),(.vec 1 (iV (AtV.p y)) .none),(.val (.int .u32 (AtV.h y))),(.val (.int .i64 (AtV.m y))),(.val (.bool (AtV.hm y)))]),(.cells [(.val (.int .u32 (c))),(.val (.int .i64 (m))),(.val (.int .i64 (AtV.o v))),(.vec 1 (iV (AtV.p v)) .none),(.val (.int .u32 (AtV.h v))),(.val (.int .i64 (AtV.m v))),(.val (.bool (AtV.hm v)))])],(tl)⟩ (.call ⟨(.builtin .append), #[(.tmp 28),(.tmp 30)], #[39,39]⟩) [(28,(x1)),(30,(.vec 7 [[(.val (.int .u32 (a))),(.val (.int .i64 (n))),(.val (.int .i64 (AtV.o y))),(.vec 1 (iV (AtV.p y)) .none),(.val (.int .u32 (AtV.h y))),(.val (.int .i64 (AtV.m y))),(.val (.bool (AtV.hm y)))]] .full))] (.vec 7 (l1) (tk1)) ⟨[(.cells [(.val (.int .u32 (a))),(.val (.int .i64 (n))),(.val (.int .i64 (AtV.o y))),(.vec 1 (iV (AtV.p y)) .none),(.val (.int .u32 (AtV.h y))),(.val (.int .i64 (AtV.m y))),(.val (.bool (AtV.hm y)))]),(.cells [(.val (.int .u32 (c))),(.val (.int .i64 (m))),(.val (.int .i64 (AtV.o v))),(.vec 1 (iV (AtV.p v)) .none),(.val (.int .u32 (AtV.h v))),(.val (.int .i64 (AtV.m v))),(.val (.bool (AtV.hm v)))])],(tl2)⟩∧
 (bp Try.prog (fun _=> .none) 0 ⟨[(.cells [(.val (.int .u32 (a))),(.val (.int .i64 (n))),(.val (.int .i64 (AtV.o y))),(.vec 1 (iV (AtV.p y)) .none),(.val (.int .u32 (AtV.h y))),(.val (.int .i64 (AtV.m y))),(.val (.bool (AtV.hm y)))]),(.cells [(.val (.int .u32 (c))),(.val (.int .i64 (m))),(.val (.int .i64 (AtV.o v))),(.vec 1 (iV (AtV.p v)) .none),(.val (.int .u32 (AtV.h v))),(.val (.int .i64 (AtV.m v))),(.val (.bool (AtV.hm v)))])],(tl2)⟩ (.call ⟨(.builtin .append), #[(.tmp 32),(.tmp 34)], #[39,39]⟩) [(32,(.vec 7 (l1) (tk1))),(34,(.vec 7 [[(.val (.int .u32 (c))),(.val (.int .i64 (m))),(.val (.int .i64 (AtV.o v))),(.vec 1 (iV (AtV.p v)) .none),(.val (.int .u32 (AtV.h v))),(.val (.int .i64 (AtV.m v))),(.val (.bool (AtV.hm v)))]] .full))] (.vec 7 (l2) (tk2)) ⟨[(.cells [(.val (.int .u32 (a))),(.val (.int .i64 (n))),(.val (.int .i64 (AtV.o y))),(.vec 1 (iV (AtV.p y)) .none),(.val (.int .u32 (AtV.h y))),(.val (.int .i64 (AtV.m y))),(.val (.bool (AtV.hm y)))]),(.cells [(.val (.int .u32 (c))),(.val (.int .i64 (m))),(.val (.int .i64 (AtV.o v))),(.vec 1 (iV (AtV.p v)) .none),(.val (.int .u32 (AtV.h v))),(.val (.int .i64 (AtV.m v))),(.val (.bool (AtV.hm v)))])],(tl3)⟩∧
 Q .normal [(.ptr 0 0),(.vec 7 (l2) (tk2)),(.val (.bool true)),(.vec 7 (L) .none),(.val (.int .i64 ((↑(List.length L):Int)))),(.val (.int .i64 (IntKind.wrap IntKind.i64 ((↑j:Int)+(1:Int)))))] ⟨[(.cells [(.val (.int .u32 (a))),(.val (.int .i64 (n))),(.val (.int .i64 (AtV.o y))),(.vec 1 (iV (AtV.p y)) .none),(.val (.int .u32 (AtV.h y))),(.val (.int .i64 (AtV.m y))),(.val (.bool (AtV.hm y)))]),(.cells [(.val (.int .u32 (c))),(.val (.int .i64 (m))),(.val (.int .i64 (AtV.o v))),(.vec 1 (iV (AtV.p v)) .none),(.val (.int .u32 (AtV.h v))),(.val (.int .i64 (AtV.m v))),(.val (.bool (AtV.hm v)))])],(tl3)⟩ [] 44))
 else (bp Try.prog (fun _=> .none) 0 ⟨[(.cells [(.val (.int .u32 (a))),(.val (.int .i64 (n))),(.val (.int .i64 (AtV.o y))),(.vec 1 (iV (AtV.p y)) .none),(.val (.int .u32 (AtV.h y))),(.val (.int .i64 (AtV.m y))),(.val (.bool (AtV.hm y)))]),(.cells [(.val (.int .u32 (c))),(.val (.int .i64 (m))),(.val (.int .i64 (AtV.o v))),(.vec 1 (iV (AtV.p v)) .none),(.val (.int .u32 (AtV.h v))),(.val (.int .i64 (AtV.m v))),(.val (.bool (AtV.hm v)))])],(tl)⟩ (.call ⟨(.builtin .append), #[(.tmp 32),(.tmp 34)], #[39,39]⟩) [(32,(x1)),(34,(.vec 7 [[(.val (.int .u32 (c))),(.val (.int .i64 (m))),(.val (.int .i64 (AtV.o v))),(.vec 1 (iV (AtV.p v)) .none),(.val (.int .u32 (AtV.h v))),(.val (.int .i64 (AtV.m v))),(.val (.bool (AtV.hm v)))]] .full))] (.vec 7 (l2) (tk2)) ⟨[(.cells [(.val (.int .u32 (a))),(.val (.int .i64 (n))),(.val (.int .i64 (AtV.o y))),(.vec 1 (iV (AtV.p y)) .none),(.val (.int .u32 (AtV.h y))),(.val (.int .i64 (AtV.m y))),(.val (.bool (AtV.hm y)))]),(.cells [(.val (.int .u32 (c))),(.val (.int .i64 (m))),(.val (.int .i64 (AtV.o v))),(.vec 1 (iV (AtV.p v)) .none),(.val (.int .u32 (AtV.h v))),(.val (.int .i64 (AtV.m v))),(.val (.bool (AtV.hm v)))])],(tl3)⟩∧
 Q .normal [(.ptr 0 0),(.vec 7 (l2) (tk2)),(.val (.bool (d))),(.vec 7 (L) .none),(.val (.int .i64 ((↑(List.length L):Int)))),(.val (.int .i64 (IntKind.wrap IntKind.i64 ((↑j:Int)+(1:Int)))))] ⟨[(.cells [(.val (.int .u32 (a))),(.val (.int .i64 (n))),(.val (.int .i64 (AtV.o y))),(.vec 1 (iV (AtV.p y)) .none),(.val (.int .u32 (AtV.h y))),(.val (.int .i64 (AtV.m y))),(.val (.bool (AtV.hm y)))]),(.cells [(.val (.int .u32 (c))),(.val (.int .i64 (m))),(.val (.int .i64 (AtV.o v))),(.vec 1 (iV (AtV.p v)) .none),(.val (.int .u32 (AtV.h v))),(.val (.int .i64 (AtV.m v))),(.val (.bool (AtV.hm v)))])],(tl3)⟩ [] 44))
 else (bp Try.prog (fun _=> .none) 0 ⟨[(.cells [(.val (.int .u32 (a))),(.val (.int .i64 (n))),(.val (.int .i64 (AtV.o y))),(.vec 1 (iV (AtV.p y)) .none),(.val (.int .u32 (AtV.h y))),(.val (.int .i64 (AtV.m y))),(.val (.bool (AtV.hm y)))]),(.cells [(.val (.int .u32 (c))),(.val (.int .i64 (m))),(.val (.int .i64 (AtV.o v))),(.vec 1 (iV (AtV.p v)) .none),(.val (.int .u32 (AtV.h v))),(.val (.int .i64 (AtV.m v))),(.val (.bool (AtV.hm v)))])],(tl)⟩ (.call ⟨(.builtin .append), #[(.tmp 32),(.tmp 34)], #[39,39]⟩) [(32,(x1)),(34,(.vec 7 [[(.val (.int .u32 (c))),(.val (.int .i64 (m))),(.val (.int .i64 (AtV.o v))),(.vec 1 (iV (AtV.p v)) .none),(.val (.int .u32 (AtV.h v))),(.val (.int .i64 (AtV.m v))),(.val (.bool (AtV.hm v)))]] .full))] (.vec 7 (l2) (tk2)) ⟨[(.cells [(.val (.int .u32 (a))),(.val (.int .i64 (n))),(.val (.int .i64 (AtV.o y))),(.vec 1 (iV (AtV.p y)) .none),(.val (.int .u32 (AtV.h y))),(.val (.int .i64 (AtV.m y))),(.val (.bool (AtV.hm y)))]),(.cells [(.val (.int .u32 (c))),(.val (.int .i64 (m))),(.val (.int .i64 (AtV.o v))),(.vec 1 (iV (AtV.p v)) .none),(.val (.int .u32 (AtV.h v))),(.val (.int .i64 (AtV.m v))),(.val (.bool (AtV.hm v)))])],(tl3)⟩∧
 Q .normal [(.ptr 0 0),(.vec 7 (l2) (tk2)),(.val (.bool (d))),(.vec 7 (L) .none),(.val (.int .i64 ((↑(List.length L):Int)))),(.val (.int .i64 (IntKind.wrap IntKind.i64 ((↑j:Int)+(1:Int)))))] ⟨[(.cells [(.val (.int .u32 (a))),(.val (.int .i64 (n))),(.val (.int .i64 (AtV.o y))),(.vec 1 (iV (AtV.p y)) .none),(.val (.int .u32 (AtV.h y))),(.val (.int .i64 (AtV.m y))),(.val (.bool (AtV.hm y)))]),(.cells [(.val (.int .u32 (c))),(.val (.int .i64 (m))),(.val (.int .i64 (AtV.o v))),(.vec 1 (iV (AtV.p v)) .none),(.val (.int .u32 (AtV.h v))),(.val (.int .i64 (AtV.m v))),(.val (.bool (AtV.hm v)))])],(tl3)⟩ [] 44)))
 else Q (.exit 0) [(.ptr 0 0),(x1),(.val (.bool (d))),(.vec 7 (L) .none),(.val (.int .i64 ((↑(List.length L):Int)))),(.val (.int .i64 ((↑j:Int))))] ⟨[(.cells [(.val (.int .u32 (a))),(.val (.int .i64 (n))),(.val (.int .i64 (AtV.o y))),(.vec 1 (iV (AtV.p y)) .none),(.val (.int .u32 (AtV.h y))),(.val (.int .i64 (AtV.m y))),(.val (.bool (AtV.hm y)))])],(tl)⟩ [] 44):=by kernel_rfl
theorem GP (W H R1:Bs) (a n:Int) (x y:AtV) (ok b:Bool) (Q:TV→VT→Prop):aq Try.prog ac (aD [(ql,qm),(gR,qn ok),(gf,nP y b),(kQ,vw R1)]) (aB [(999998, .dead,none)]) 300 aE 0 yX [.ptr 0 0,dg a n, .agg x.cells] (dw W H) Q=
 (gB (a) (n)∧
 (bif !gt a n
 then Q (.val (.int .i64 2)) ⟨[(.cells [(.vec 7 (W) .none),(.vec 7 (H) .none)]),(.cells [(.val (.int .u32 (a))),(.val (.int .i64 (n)))]),(.cells [(.val (.int .i64 (AtV.o x))),(.vec 1 (iV (AtV.p x)) .none),(.val (.int .u32 (AtV.h x))),(.val (.int .i64 (AtV.m x))),(.val (.bool (AtV.hm x)))])], []⟩
 else (oe [(.val (.int .i64 (AtV.o x))),(.vec 1 (iV (AtV.p x)) .none),(.val (.int .u32 (AtV.h x))),(.val (.int .i64 (AtV.m x))),(.val (.bool (AtV.hm x)))] (ok)∧
 (bif !ok
 then Q (.val (.int .i64 2)) ⟨[(.cells [(.vec 7 (W) .none),(.vec 7 (H) .none)]),(.cells [(.val (.int .u32 (a))),(.val (.int .i64 (n)))]),(.cells [(.val (.int .i64 (AtV.o x))),(.vec 1 (iV (AtV.p x)) .none),(.val (.int .u32 (AtV.h x))),(.val (.int .i64 (AtV.m x))),(.val (.bool (AtV.hm x)))])], []⟩
 else (tK (W) (a) (n) (y) (b)∧
 (bif !b
 then (bif decide ((↑(List.length W):Int)≥(1024:Int))
 then Q (.val (.int .i64 6)) ⟨[(.cells [(.vec 7 (W) .none),(.vec 7 (H) .none)]),(.cells [(.val (.int .u32 (a))),(.val (.int .i64 (n)))]),(.cells [(.val (.int .i64 (AtV.o x))),(.vec 1 (iV (AtV.p x)) .none),(.val (.int .u32 (AtV.h x))),(.val (.int .i64 (AtV.m x))),(.val (.bool (AtV.hm x)))]),(.cells [(.val (.int .i64 (AtV.o y))),(.vec 1 (iV (AtV.p y)) .none),(.val (.int .u32 (AtV.h y))),(.val (.int .i64 (AtV.m y))),(.val (.bool (AtV.hm y)))])], []⟩
 else (tL (W) [(.val (.int .u32 (a))),(.val (.int .i64 (n))),(.val (.int .i64 (AtV.o x))),(.vec 1 (iV (AtV.p x)) .none),(.val (.int .u32 (AtV.h x))),(.val (.int .i64 (AtV.m x))),(.val (.bool (AtV.hm x)))] (R1)∧
 Q (.val (.int .i64 0)) ⟨[(.cells [(.vec 7 (R1) .none),(.vec 7 (H) .none)]),(.cells [(.val (.int .u32 (a))),(.val (.int .i64 (n)))]),(.cells [(.val (.int .i64 (AtV.o x))),(.vec 1 (iV (AtV.p x)) .none),(.val (.int .u32 (AtV.h x))),(.val (.int .i64 (AtV.m x))),(.val (.bool (AtV.hm x)))]),(.cells [(.val (.int .i64 (AtV.o y))),(.vec 1 (iV (AtV.p y)) .none),(.val (.int .u32 (AtV.h y))),(.val (.int .i64 (AtV.m y))),(.val (.bool (AtV.hm y)))])], []⟩))
 else (tL (W) [(.val (.int .u32 (a))),(.val (.int .i64 (n))),(.val (.int .i64 (AtV.o x))),(.vec 1 (iV (AtV.p x)) .none),(.val (.int .u32 (AtV.h x))),(.val (.int .i64 (AtV.m x))),(.val (.bool (AtV.hm x)))] (R1)∧
 Q (.val (.int .i64 0)) ⟨[(.cells [(.vec 7 (R1) .none),(.vec 7 (H) .none)]),(.cells [(.val (.int .u32 (a))),(.val (.int .i64 (n)))]),(.cells [(.val (.int .i64 (AtV.o x))),(.vec 1 (iV (AtV.p x)) .none),(.val (.int .u32 (AtV.h x))),(.val (.int .i64 (AtV.m x))),(.val (.bool (AtV.hm x)))]),(.cells [(.val (.int .i64 (AtV.o y))),(.vec 1 (iV (AtV.p y)) .none),(.val (.int .u32 (AtV.h y))),(.val (.int .i64 (AtV.m y))),(.val (.bool (AtV.hm y)))])], []⟩))))))):=by kernel_rfl
theorem GQ (W H R1:Bs) (a n:Int) (y:AtV) (b:Bool) (Q:TV→VT→Prop):aq Try.prog ac (aD [(gf,nP y b),(jz,rt R1)]) (aB [(999998, .dead,none)]) 300 aE 0 yY [.ptr 0 0,dg a n] (dw W H) Q=
 (tK (W) (a) (n) (y) (b)∧
 (wW (W) (a) (n) (R1)∧
 Q (.val (.bool (b))) ⟨[(.cells [(.vec 7 (R1) .none),(.vec 7 (H) .none)]),(.cells [(.val (.int .u32 (a))),(.val (.int .i64 (n)))]),(.cells [(.val (.int .i64 (AtV.o y))),(.vec 1 (iV (AtV.p y)) .none),(.val (.int .u32 (AtV.h y))),(.val (.int .i64 (AtV.m y))),(.val (.bool (AtV.hm y)))])], []⟩)):=by kernel_rfl
theorem GR (W H R1 R2:Bs) (a n:Int) (x:AtV) (g ok:Bool) (Q:TV→VT→Prop):aq Try.prog ac (aD [(tM,wZ ok),(jz,rt R1),(kQ,vw R2)]) (aB [(999998, .dead,none)]) 300 aE 0 yZ [.ptr 0 0, .agg (ei a n x g)] (dw W H) Q=
 (ET [(.val (.int .u32 (a))),(.val (.int .i64 (n))),(.val (.int .i64 (AtV.o x))),(.vec 1 (iV (AtV.p x)) .none),(.val (.int .u32 (AtV.h x))),(.val (.int .i64 (AtV.m x))),(.val (.bool (AtV.hm x))),(.val (.bool (g)))] (ok)∧
 (bif !ok
 then Q (.val (.int .i64 2)) ⟨[(.cells [(.vec 7 (W) .none),(.vec 7 (H) .none)]),(.cells [(.val (.int .u32 (a))),(.val (.int .i64 (n))),(.val (.int .i64 (AtV.o x))),(.vec 1 (iV (AtV.p x)) .none),(.val (.int .u32 (AtV.h x))),(.val (.int .i64 (AtV.m x))),(.val (.bool (AtV.hm x))),(.val (.bool (g)))])], []⟩
 else (bif g
 then (wW (H) (a) (n) (R1)∧
 Q (.val (.int .i64 0)) ⟨[(.cells [(.vec 7 (W) .none),(.vec 7 (R1) .none)]),(.cells [(.val (.int .u32 (a))),(.val (.int .i64 (n))),(.val (.int .i64 (AtV.o x))),(.vec 1 (iV (AtV.p x)) .none),(.val (.int .u32 (AtV.h x))),(.val (.int .i64 (AtV.m x))),(.val (.bool (AtV.hm x))),(.val (.bool (g)))])], []⟩)
 else (tL (H) [(.val (.int .u32 (a))),(.val (.int .i64 (n))),(.val (.int .i64 (AtV.o x))),(.vec 1 (iV (AtV.p x)) .none),(.val (.int .u32 (AtV.h x))),(.val (.int .i64 (AtV.m x))),(.val (.bool (AtV.hm x)))] (R2)∧
 Q (.val (.int .i64 0)) ⟨[(.cells [(.vec 7 (W) .none),(.vec 7 (R2) .none)]),(.cells [(.val (.int .u32 (a))),(.val (.int .i64 (n))),(.val (.int .i64 (AtV.o x))),(.vec 1 (iV (AtV.p x)) .none),(.val (.int .u32 (AtV.h x))),(.val (.int .i64 (AtV.m x))),(.val (.bool (AtV.hm x))),(.val (.bool (g)))])], []⟩)))):=by kernel_rfl
theorem GS (W H:Bs) (Q:TV→VT→Prop):aq Try.prog ac aL (aB [(999998, .dead,none)]) 300 aE 0 y0 [.ptr 0 0] (dw W H) Q=
Q (.tup []) ⟨[(.cells [(.vec 7 (W) .none),(.val (.slice .none 0 0))])], []⟩:=by kernel_rfl
end
section
open Go.RowKit
set_option maxRecDepth 100000

theorem ze:∀ro ys T K,qm ro ys T K→VCx Try.prog ac ro ql ys T K:=by
 intro ro ys T K hw
 unfold qm at hw
 split at hw
 ·rename_i a n
  obtain ⟨⟨⟨h0,h1⟩,hn⟩,hk⟩:=hw
  obtain ⟨m,rfl⟩:∃m:Nat,a=m:=⟨a.toNat,by omega⟩
  have hv:VCalls Try.prog ql [.agg [.val (.int .u32 m), .val (.int .i64 n)]] ⟨[], []⟩ fun x T' =>x= .val (.bool (hP m n))∧T' =⟨[], []⟩:=
   VCalls.of_grT (us:= [.agg #[.int .u32 m, .int .i64 n]]) rfl (fun w=>GG m (by omega) n hn w) _
  refine VCx.liftPure ay (VCx.ofCalls rfl hv fun _ _=>rfl) rfl (fun _ _=>rfl) ?_
  rw [CP m (by omega) n];exact hk
 ·exact hw.elim
theorem EU:∀ro ys T K,wX ro ys T K→VCx Try.prog ac ro A5 ys T K:=by
 intro ro ys T K hw
 unfold wX at hw
 split at hw
 ·exact VCx.liftPure ay (VCx.ofCalls rfl (GH _ _ _ _) fun _ _=>rfl) rfl (fun _ _=>rfl) hw
 ·exact hw.elim
theorem CQ {a:AtV} (hn:a.p.length≤9223372036854775807):cK Try.prog ac (Hi a (a.p.all cQ) (au Try.prog gR 0)):=bz fun p hp=>by
  obtain rfl:=List.mem_singleton.1 hp
  refine bP fun K hK=> ?_
  refine da (f:=gR) (id:=0) (by kernel_rfl) 56 qo (fun j:Nat=>a.p.length-j) (fun j:Nat=>ru (iV a.p) j) (fun _=>⟨[.cells a.cells], []⟩) (fun j=>j≤a.p.length∧(a.p.take j).all cQ=true) 1 0 (fun _ _=>⟨Nat.le_refl _,Nat.le_refl _⟩)
    (fun e vs T=>T=⟨[.cells a.cells], []⟩∧((e= .normal∧a.p.all cQ=true∧vs=ru (iV a.p) (iV a.p).length)∨(e= .ret∧a.p.all cQ=false∧∃z:Int,vs=ru (iV a.p) z))) (fun j hj=> ?_) 0 ⟨Nat.zero_le _,rfl⟩ K ?_
  · obtain ⟨hj,hall⟩:=hj
    by_cases hlt:j<a.p.length
    · have hat:(iV a.p)[((j:Nat):Int).toNat]?=some (iT a.p[j]):=by rw [Int.toNat_natCast,iV,List.getElem?_map,List.getElem?_eq_getElem hlt];rfl
      have bad:cQ a.p[j]=false→a.p.all cQ=false:=fun h=>by
        cases hc:a.p.all cQ
        · rfl
        · have:=List.all_eq_true.1 hc _ (List.getElem_mem hlt);rw [h] at this;cases this
      refine bq ae aa ag ah (y9 a a.p[j] j _) ?_
      refine bB (decide_eq_true (by rw [ij];omega)) ⟨gM rfl rfl (by omega) hat,aA (fun c1=> ?_) (fun c1=>aA (fun c2=> ?_) (fun c2=> ?_))⟩
      · refine ⟨rfl,rfl,rfl, .inr ⟨rfl,bad ?_,j,rfl⟩⟩
        have:=of_decide_eq_true c1
        unfold cQ;rw [decide_eq_false (by omega)];rfl
      · refine ⟨rfl,rfl,rfl, .inr ⟨rfl,bad ?_,j,rfl⟩⟩
        have:=of_decide_eq_true c2
        unfold cQ;rw [decide_eq_false (p:=a.p[j]≤65535) (by omega),Bool.and_false]
      · have d1:=of_decide_eq_false c1
        have d2:=of_decide_eq_false c2
        refine ⟨rfl,rfl,j+1,⟨hlt, ?_⟩,by show a.p.length-(j+1)<a.p.length-j;omega, .inl ⟨rfl,by rw [jr hlt hn];rfl⟩⟩
        rw [List.take_add_one,List.getElem?_eq_getElem hlt,List.all_append,hall]
        simp only [Option.toList_some,List.all_cons,List.all_nil,Bool.and_true,Bool.true_and]
        unfold cQ;rw [decide_eq_true (by omega),decide_eq_true (by omega)];rfl
    · have hj2:j=a.p.length:=by omega
      subst hj2
      rw [List.take_length] at hall
      refine bq ae aa ag ah (y9 a 0 a.p.length _) ?_
      exact bh (decide_eq_false (by rw [ij];omega)) ⟨rfl,rfl,rfl, .inl ⟨rfl,hall,by simp only [ru,ij]⟩⟩
  · rintro e vs T ⟨rfl,⟨rfl,h1,rfl⟩ | ⟨rfl,h1,z,rfl⟩⟩
    · have:=hK 0;rw [h1] at this;exact this
    · have:=hK z;rw [h1] at this;exact this
theorem CR {a:AtV} (hn:a.p.length≤9223372036854775807):VCx Try.prog ac 0 gR [.agg a.cells] ⟨[], []⟩ fun x T' =>x= .val (.bool (cL a))∧T' =⟨[], []⟩:=by
 refine VCx.keepQ 0 0 (Nat.le_refl _) (Nat.le_refl _) (am ae aa ag (CQ hn) (GJ a (a.p.all cQ) _) ⟨rfl,⟨rfl,rfl,rfl,trivial,rfl,rfl,rfl⟩,fun z=> ?_⟩)
 have no:∀l:List VO,cL a=false→(TV.ren (an 0) (an 0) (.val (.bool false))= .val (.bool (cL a))∧VT.keep ⟨l, []⟩ 0 0=⟨[], []⟩):=fun l h=>by rw [h];exact ⟨rfl,rfl⟩
 unfold cL at no ⊢
 refine aA (fun h1=> ?_) (fun h1=>no _ (by rw [h1];simp))
 rw [h1] at no ⊢
 refine aA (fun h2=>no _ (by have:=of_decide_eq_true h2;rw [decide_eq_false (p:=0≤a.o) (by omega)];rfl)) (fun h2=> ?_)
 have d2:=of_decide_eq_false h2
 rw [decide_eq_true (p:=0≤a.o) (by omega)] at no ⊢
 refine aA (fun h3=>no _ (by have:=of_decide_eq_true h3;rw [decide_eq_false (p:=a.o≤2) (by omega)];rfl)) (fun h3=> ?_)
 have d3:=of_decide_eq_false h3
 rw [decide_eq_true (p:=a.o≤2) (by omega)] at no ⊢
 rw [ij]
 refine aA (fun h4=>no _ (by have:=of_decide_eq_true h4;rw [decide_eq_false (p:=a.p.length≤16) (by omega)];simp)) (fun h4=> ?_)
 have d4:=of_decide_eq_false h4
 rw [decide_eq_true (p:=a.p.length≤16) (by omega)] at no ⊢
 unfold lC at no ⊢
 generalize ax BinOp.neq (aj (Value.int IntKind.u32 a.h) (Value.int IntKind.u32 (0:Int)))=b1 at no ⊢
 generalize ax BinOp.neq (aj (Value.int IntKind.u32 a.h) (Value.int IntKind.u32 (4294967295:Int)))=b2 at no ⊢
 generalize ax BinOp.neq (aj (Value.int IntKind.u32 (Int.fdiv a.h ((2:Int)^min (Int.toNat (24:Int)) (IntKind.bits IntKind.u32)))) (Value.int IntKind.u32 (127:Int)))=b3 at no ⊢
 generalize ax BinOp.neq (aj (Value.int IntKind.u32 (Int.fdiv a.h ((2:Int)^min (Int.toNat (29:Int)) (IntKind.bits IntKind.u32)))) (Value.int IntKind.u32 (7:Int)))=b4 at no ⊢
 cases b1
 ·exact no _ rfl
 cases b2
 ·exact no _ rfl
 cases b3
 ·exact no _ rfl
 cases b4
 ·exact no _ rfl
 simp only [cond_true,cond_false,Bool.not_true] at no ⊢
 refine aA (fun h5=>no _ ?_) (fun h5=> ?_)
 ·have d5:=of_decide_eq_true h5
  cases a.hm
  ·simp;omega
  ·simp;omega
 have d5:=of_decide_eq_false h5
 refine aA (fun h6=>no _ ?_) (fun h6=> ?_)
 ·have d6:=of_decide_eq_true h6
  cases a.hm
  ·simp;omega
  ·simp;omega
 have d6:=of_decide_eq_false h6
 refine aA (fun h7=> ?_) (fun h7=> ?_)
 ·rw [h7]
  refine ⟨?_,rfl⟩
  have e1:decide (0≤a.m)=true:=decide_eq_true (by omega)
  have e2:decide (a.m≤4294967295)=true:=decide_eq_true (by omega)
  rw [e1,e2];rfl
 ·rw [h7,jT]
  exact ⟨rfl,rfl⟩
theorem vy (ok:Bool):∀ro ys T K,qn ok ro ys T K→VCx Try.prog ac ro gR ys T K:=by
 intro ro ys T K hw
 unfold qn at hw
 split at hw
 ·obtain ⟨⟨a,rfl,hn,rfl⟩,hk⟩:=hw
  exact VCx.liftPure ay (CR hn) (by simp only [av,TV.ren,AtV.ren']) (fun _ _=>rfl) hk
 ·exact hw.elim
theorem CS {a b:AtV} (hn:a.p.length≤9223372036854775807):cK Try.prog ac (Hj a b (decide (a.p=b.p)) (au Try.prog eP 0)):=bz fun p hp=>by
  obtain rfl:=List.mem_singleton.1 hp
  have hL:∀l:List Int,(iV l).length=l.length:=fun l=>List.length_map _
  refine bP fun K hK=> ?_
  obtain ⟨hlm,hK⟩:=hK
  rw [hL,hL] at hlm
  refine da (f:=eP) (id:=0) (by kernel_rfl) 59 qp (fun j:Nat=>a.p.length-j) (fun j:Nat=>rx (iV a.p) j) (fun _=>⟨[.cells a.cells, .cells b.cells], []⟩) (fun j=>j≤a.p.length∧a.p.take j=b.p.take j) 2 0 (fun _ _=>⟨Nat.le_refl _,Nat.le_refl _⟩)
    (fun e vs T=>T=⟨[.cells a.cells, .cells b.cells], []⟩∧((e= .normal∧a.p=b.p∧vs=rx (iV a.p) (iV a.p).length)∨(e= .ret∧a.p≠b.p∧∃z:Int,vs=rx (iV a.p) z))) (fun j hj=> ?_) 0 ⟨Nat.zero_le _,rfl⟩ K ?_
  · obtain ⟨hj,hall⟩:=hj
    by_cases hlt:j<a.p.length
    · have hlt2:j<b.p.length:=by omega
      have hat:(iV a.p)[((j:Nat):Int).toNat]?=some (iT a.p[j]):=by rw [Int.toNat_natCast];show (a.p.map _)[j]?=_;rw [List.getElem?_map,List.getElem?_eq_getElem hlt];rfl
      have hat2:(iV b.p)[((j:Nat):Int).toNat]?=some (iT b.p[j]):=by rw [Int.toNat_natCast];show (b.p.map _)[j]?=_;rw [List.getElem?_map,List.getElem?_eq_getElem hlt2];rfl
      refine bq ae aa ag ah (za a b a.p[j] b.p[j] j _) ?_
      refine bB (decide_eq_true (by rw [hL];omega)) ⟨gM rfl rfl (by omega) hat,gM rfl rfl (by omega) hat2, ?_⟩
      rw [nI]
      refine aA (fun c1=> ?_) (fun c1=> ?_)
      · refine ⟨rfl,rfl,rfl, .inr ⟨rfl,fun h=> ?_,j,rfl⟩⟩
        have he:a.p[j]?=b.p[j]?:=by rw [h]
        rw [List.getElem?_eq_getElem hlt,List.getElem?_eq_getElem hlt2] at he
        injection he with he
        simp [he] at c1
      · refine ⟨rfl,rfl,j+1,⟨hlt, ?_⟩,by show a.p.length-(j+1)<a.p.length-j;omega, .inl ⟨rfl,by rw [jr hlt hn];rfl⟩⟩
        have he:a.p[j]=b.p[j]:=by simpa using c1
        rw [List.take_add_one,List.getElem?_eq_getElem hlt,List.take_add_one,List.getElem?_eq_getElem hlt2,hall,he]
    · have hj2:j=a.p.length:=by omega
      subst hj2
      rw [List.take_length,hlm,List.take_length] at hall
      refine bq ae aa ag ah (za a b 0 0 a.p.length _) ?_
      exact bh (decide_eq_false (by rw [hL];omega)) ⟨rfl,rfl,rfl, .inl ⟨rfl,hall,by simp only [rx,hL]⟩⟩
  · rintro e vs T ⟨rfl,⟨rfl,h1,rfl⟩ | ⟨rfl,h1,z,rfl⟩⟩
    · have:=hK 0;rw [decide_eq_true h1] at this;exact this
    · have:=hK z;rw [decide_eq_false h1] at this;exact this
theorem H0 (x y:Bool):ax BinOp.neq (aj (.bool x) (.bool y))= !decide (x=y):=by
 cases x<;>cases y<;>rfl
theorem vz {a b:AtV} (hn:a.p.length≤9223372036854775807):VCx Try.prog ac 0 eP [.agg a.cells, .agg b.cells] ⟨[], []⟩ fun x T' =>x= .val (.bool (decide (a=b)))∧T' =⟨[], []⟩:=by
 have hL:∀l:List Int,(iV l).length=l.length:=fun l=>List.length_map _
 have no:∀l:List VO,a≠b→(TV.ren (an 0) (an 0) (.val (.bool false))= .val (.bool (decide (a=b)))∧VT.keep ⟨l, []⟩ 0 0=⟨[], []⟩):=fun l h=>by rw [decide_eq_false h];exact ⟨rfl,rfl⟩
 refine VCx.keepQ 0 0 (Nat.le_refl _) (Nat.le_refl _) ?_
 refine am ae aa ag (CS hn) (GK a b (decide (a.p=b.p)) _) ?_
 rw [nI,nI,nI,H0,nI,hL,hL]
 refine aA (fun h=>no _ fun e=> ?_) (fun h1=>aA (fun h=>no _ fun e=> ?_) (fun h2=>aA (fun h=>no _ fun e=> ?_) (fun h3=>aA (fun h=>no _ fun e=> ?_) (fun h4=>aA (fun h=>no _ fun e=> ?_) (fun h0=> ?_)))))
 ·rw [e] at h;simp at h
 ·rw [e] at h;simp at h
 ·rw [e] at h;simp at h
 ·rw [e] at h;simp at h
 ·rw [e] at h;simp at h
 have hlm:a.p.length=b.p.length:=by
  have:=h0
  simp only [Bool.not_eq_false',decide_eq_true_eq] at this
  omega
 refine ⟨rfl,⟨rfl,rfl,rfl,trivial,rfl,rfl,by rw [←hL a.p]⟩,hlm,fun z=> ?_⟩
 have e1:a.o=b.o:=by simpa using h1
 have e2:a.h=b.h:=by simpa using h2
 have e3:a.m=b.m:=by simpa using h3
 have e4:a.hm=b.hm:=by simpa using h4
 refine aA (fun h=> ?_) (fun h=>no _ fun e=> ?_)
 ·have e5:=of_decide_eq_true h
  have e:a=b:=by
   obtain ⟨o,p,h,m,hm⟩:=a
   obtain ⟨o2,p2,h2,m2,hm2⟩:=b
   simp only at e1 e2 e3 e4 e5
   rw [e1,e2,e3,e4,e5]
  rw [decide_eq_true e];exact ⟨rfl,rfl⟩
 ·exact of_decide_eq_false h (by rw [e])
theorem qt (ok:Bool):∀ro ys T K,mP ok ro ys T K→VCx Try.prog ac ro eP ys T K:=by
 intro ro ys T K hw
 unfold mP at hw
 split at hw
 ·obtain ⟨⟨a,b,⟨rfl,rfl⟩,⟨hn,hn2⟩,rfl⟩,hk⟩:=hw
  exact VCx.liftPure ay (vz hn) (by simp only [av,TV.ren,AtV.ren']) (fun _ _=>rfl) hk
 ·exact hw.elim
theorem CT (ok:Bool):∀ro ys T K,wY ok ro ys T K→VCx Try.prog ac ro eP ys T K:=by
 intro ro ys T K hw
 unfold wY at hw
 split at hw
 ·obtain ⟨⟨a,rfl,hn,rfl,rfl⟩,hk⟩:=hw
  refine VCx.liftPure ay (xs:= [.agg a.cells, .agg AO]) (VCx.argsLe (xs:= [.agg a.cells, .agg dp.cells]) ?_ (vz (b:=dp) hn)) ?_ (fun _ _=>rfl) hk
  ·exact ⟨.refl _, .agg ⟨.refl _, .nil 1, .refl _, .refl _, .refl _,trivial⟩,trivial⟩
  ·simp only [av,TV.ren,AtV.ren'];rfl
 ·exact hw.elim
theorem CU (p:Px) {a:AtV} (g:Bool) (hp:gB p.1 p.2) (ha:a.p.length≤9223372036854775807):VCx Try.prog ac 0 tM [.agg (ei p.1 p.2 a g)] ⟨[], []⟩ fun x T' =>x= .val (.bool (gu p a g))∧T' =⟨[], []⟩:=by
 have hS:aT Try.prog ac (aD [(ql,qm),(gR,qn (cL a)),(eP,wY (decide (a=dp)))]):=aQ fun q hq=>by
  rcases List.mem_cons.1 hq with rfl | hq;exact ze
  rcases List.mem_cons.1 hq with rfl | hq;exact vy _
  obtain rfl:=List.mem_singleton.1 hq;exact CT _
 refine VCx.keepQ 0 0 (Nat.le_refl _) (Nat.le_refl _) (am ae aa hS ah (GL p.1 p.2 a g (cL a) (decide (a=dp)) _) ?_)
 unfold gu
 refine aA (fun hg=>⟨hp, ?_⟩) (fun hg=>⟨hp, ?_⟩)
 ·subst hg
  refine aA (fun hp=> ?_) (fun hp=> ?_)
  ·rw [hp];exact ⟨⟨a,rfl,ha,rfl,rfl⟩,rfl,rfl⟩
  ·rw [hp];exact ⟨rfl,rfl⟩
 ·subst hg
  refine aA (fun hp=> ?_) (fun hp=> ?_)
  ·rw [hp];exact ⟨⟨a,rfl,ha,rfl⟩,rfl,rfl⟩
  ·rw [hp];exact ⟨rfl,rfl⟩
theorem CV (ok:Bool):∀ro ys T K,wZ ok ro ys T K→VCx Try.prog ac ro tM ys T K:=by
 intro ro ys T K hw
 unfold wZ at hw
 split at hw
 ·obtain ⟨⟨p,a,g,rfl,hp,ha,rfl⟩,hk⟩:=hw
  refine VCx.liftPure ay (CU p g hp ha) ?_ (fun _ _=>rfl) hk
  simp only [av,TV.ren,AtV.cells,cD,Tok.ren,ei,List.cons_append,List.nil_append]
 ·exact hw.elim
end
section
open Go.RowKit
set_option maxRecDepth 100000

theorem qu (r:ak) (f g:Nat→Option Nat):av f g (ap r)=ap r:=by
 simp only [ap,AtV.cells,List.cons_append,List.nil_append,av,TV.ren,cD,Tok.ren]
theorem aS (f g:Nat→Option Nat):∀l:List ak,c8 f g (l.map ap)=l.map ap
 | []=>rfl
 | a::l=>by simp only [List.map_cons,c8,qu,aS f g l]
theorem tQ:∃(inf:TypeInfo) (z:Value),Try.prog.info? 115=some inf∧inf.size=7∧inf.bytes+1≤200∧inf.zero=some z∧z.cells.size=7:=
 ⟨(Try.prog.info? 115).getD default,((Try.prog.info? 115).getD default).zero.getD default,by kernel_rfl,by kernel_rfl,Nat.le_of_ble_eq_true (by kernel_rfl),by kernel_rfl,by kernel_rfl⟩
theorem pE {W:List ak} {j:Nat} {r:ak} (x i:Nat) (hne:Nat.beq x i=false) (hp:W[j]?=some r):aU Try.prog ac (.indexAddr 39 (.tmp x) (.tmp i)) [(x, .vec 7 (W.map ap) .none),(i, .val (.int .i64 (j:Int)))] (.elt (ap r)):=by
 obtain ⟨inf,z,i1,i2,i3,i4,i5⟩:=tQ
 exact dQ (P:=Try.prog) (G:=ac) (inf:=inf) (t:=39) (x:= .tmp x) (i:= .tmp i) (l:= [(x, .vec 7 (W.map ap) .none),(i, .val (.int .i64 (j:Int)))]) (es:=W.map ap) (tok:= .none) (k:= .i64) (z:=(j:Int)) (cs:=ap r) Try.underlying39 i1 (by rw [i2];simp [aO,bS]) (by simp [aO,bS,hne]) (by omega) (by simp [hp])
theorem Hz (p q:Px):ax BinOp.eql (aj (bH p) (bH q))=decide (p=q):=by rw [wS];rfl
theorem A6 (p q:Px):ax BinOp.neq (aj (bH p) (bH q))= !decide (p=q):=by rw [wS];rfl
theorem fG (r:ak) (W:List ak) (p:Px):aH (r::W) p=if r.1=p then some r.2 else aH W p:=by
 unfold aH
 rw [List.find?_cons]
 by_cases h:r.1=p
 ·simp [h]
 ·simp [h]
theorem uJ {W:List ak} {p:Px} {j:Nat} (h:aH (W.take j) p=none):aH W p=aH (W.drop j) p:=by
 induction W generalizing j with
 | nil=>simp
 | cons r W ih=>
  cases j with
  | zero=>rfl
  | succ j=>
   rw [List.take_succ_cons,fG] at h
   split at h
   ·cases h
   ·rename_i hn
    rw [fG,if_neg hn,List.drop_succ_cons]
    exact ih h
theorem w5 {W:List ak} {p:Px} {r:ak} (h:aH W p=none) (hr:r.1≠p):aH (W++ [r]) p=none:=by
 induction W with
 | nil=>simp only [List.nil_append,fG,if_neg hr];rfl
 | cons s W ih=>
  rw [fG] at h
  split at h
  ·cases h
  ·rename_i hn
   rw [List.cons_append,fG,if_neg hn]
   exact ih h
theorem CW {W:List ak} (hW:bM W) (p:Px):cK Try.prog ac (Hk (W.map ap) p.1 p.2 (bR W p) (bo W p) (au Try.prog gf 0)):=bz fun q hq=>by
  obtain rfl:=List.mem_singleton.1 hq
  refine bP fun K hK=> ?_
  have hlen:(W.map ap).length=W.length:=List.length_map _
  have hfew:=hW.1
  refine da (f:=gf) (id:=0) (by kernel_rfl) 22 qr (fun j:Nat=>W.length-j) (fun j:Nat=>pC (W.map ap) false j) (fun _=>y8 p.1 p.2 pB) (fun j=>j≤W.length∧aH (W.take j) p=none) 2 0 (fun _ _=>⟨Nat.le_refl _,Nat.le_refl _⟩)
    (fun e vs T=>∃z:Int,(e= .normal∧aH W p=none∧vs=pC (W.map ap) false (W.map ap).length∧T=y8 p.1 p.2 pB)∨(e= .ret∧bo W p=true∧vs=pC (W.map ap) true z∧T=⟨[.cells [.val (.int .u32 p.1), .val (.int .i64 p.2)], .cells (bR W p).cells, .cells (iy p.1 p.2 (bR W p))], []⟩)) (fun j hj=> ?_) 0 ⟨Nat.zero_le _,rfl⟩ K ?_
  · obtain ⟨hj,hno⟩:=hj
    by_cases hlt:j<W.length
    · have hr:=List.getElem?_eq_getElem hlt
      generalize W[j]=r at hr
      obtain ⟨q,a⟩:=r
      refine bq ae aa ag ah (zb (W.map ap) p.1 p.2 q.1 q.2 a j _) ?_
      refine bB (decide_eq_true (by rw [hlen];omega)) ⟨pE 8 10 rfl hr, ?_⟩
      show cond (ax BinOp.eql (aj (bH q) (bH p))) _ _
      rw [Hz]
      refine aA (fun c1=> ?_) (fun c1=> ?_)
      · have hqp:=of_decide_eq_true c1
        have hf:aH W p=some a:=by
          rw [uJ hno]
          have:W.drop j=(q,a)::W.drop (j+1):=by
            rw [List.getElem?_eq_some_iff] at hr
            obtain ⟨h1,h2⟩:=hr
            rw [←h2];exact List.drop_eq_getElem_cons h1
          rw [this,fG,if_pos hqp]
        refine ⟨rfl,rfl,j, .inr ⟨rfl,by rw [bo,hf];rfl,rfl, ?_⟩⟩
        rw [show bR W p=a by rw [bR,hf];rfl,hqp]
        rfl
      · have hqp:=of_decide_eq_false c1
        refine ⟨rfl,rfl,j+1,⟨hlt, ?_⟩,by show W.length-(j+1)<W.length-j;omega, .inr ⟨rfl, ?_⟩⟩
        · rw [List.take_add_one,hr]
          exact w5 hno hqp
        · rw [gA (by omega)]
          simp only [pC,av,TV.ren,aS,Tok.ren];rfl
    · have hj2:j=W.length:=by omega
      subst hj2
      rw [List.take_length] at hno
      refine bq ae aa ag ah (zb (W.map ap) p.1 p.2 0 0 dp W.length _) ?_
      exact bh (decide_eq_false (by rw [hlen];omega)) ⟨rfl,rfl,0, .inl ⟨rfl,hno,by simp only [pC,hlen],rfl⟩⟩
  · rintro e vs T ⟨z,⟨rfl,h1,rfl,rfl⟩ | ⟨rfl,h1,rfl,rfl⟩⟩
    · have:=hK 0
      rw [show bo W p=false by rw [bo,h1];rfl] at this
      exact this
    · have:=hK z
      rw [h1] at this
      exact this
theorem zf {W:List ak} (hW:bM W) (p:Px):VCx Try.prog ac 0 gf [.vec 7 (W.map ap) .none,dg p.1 p.2] ⟨[], []⟩ fun x T' =>x= .tup [.agg (bR W p).cells, .val (.bool (bo W p))]∧T' =⟨[], []⟩:=by
 refine VCx.toLe (Q:=fun T' =>T' =⟨[], []⟩) (VCx.keepQ 0 0 (Nat.le_refl _) (Nat.le_refl _) (am ae aa ag (CW hW p) (GM (W.map ap) p.1 p.2 (bR W p) (bo W p) _) ⟨rfl,⟨rfl,rfl,rfl,trivial,rfl,rfl,rfl⟩,fun z=> ?_⟩))
 refine aA (fun h=> ?_) (fun h=> ?_)
 ·rw [h]
  refine ⟨.of_eq ?_,rfl⟩
  simp only [TV.ren,av,AtV.cells,cD,Tok.ren]
 ·rw [h]
  have hf:aH W p=none:=by
   unfold bo at h
   cases hf:aH W p with
   | none=>rfl
   | some a=>rw [hf] at h;cases h
  rw [show bR W p=dp by rw [bR,hf];rfl]
  exact ⟨.tup ⟨.agg ⟨.refl _, .nil 1, .refl _, .refl _, .refl _,trivial⟩, .refl _,trivial⟩,rfl⟩
theorem pF (y:AtV) (b:Bool):∀ro ys T K,nP y b ro ys T K→VCx Try.prog ac ro gf ys T K:=by
 intro ro ys T K hw
 unfold nP at hw
 split at hw
 ·obtain ⟨⟨W,rfl,hW,rfl,rfl⟩,hk⟩:=hw
  refine VCx.loosePure ay (zf hW (_,_)) (by simp [co,dg]) (by simp only [av,TV.ren,aS,Tok.ren,dg]) (fun f g=>by simp only [TV.ren,av,AtV.ren']) hk
 ·exact hw.elim
def xR:List ak→TV
 | []=> .val (.slice none 0 0)
 | r::l=> .vec 7 ((r::l).map ap) (.tail 0 (r::l).length)
def tR:List ak→bA
 | []=> []
 | r::l=> [((r::l).length,7,true)]
theorem zg (l:List ak) (f:Nat→Option Nat):(xR l).ren f (an 1)=xR l:=by
 cases l with
 | nil=>rfl
 | cons p l=>simp only [xR,TV.ren,aS,Tok.ren];rfl
theorem tS (l:List ak):(tR l).length≤1:=by cases l<;>simp [tR]
theorem zh (l:List ak) (p:ak):xR (l++ [p])= .vec 7 ((l++ [p]).map ap) (.tail 0 (l++ [p]).length):=by cases l<;>rfl
theorem EV (l:List ak) (p:ak):tR (l++ [p])= [((l++ [p]).length,7,true)]:=by cases l<;>rfl
theorem vA (l:List ak):(tR l).take 1=tR l:=List.take_of_length_le (tS _)
theorem w6 (l:List ak) (f g:Nat→Option Nat):TVle ((xR l).ren f g) (.vec 7 (l.map ap) .none):=by
 cases l with
 | nil=>exact TVle.nil 7
 | cons p l=>
  simp only [xR,TV.ren,aS]
  exact TVle.vec 7 _ _
theorem kT (objs:List VO) (l:List ak) (r:ak) (h:l.length≤2000000) (s x:Nat) (hne:Nat.beq s x=false):bp Try.prog ac 0 ⟨objs,tR l⟩ (.call ⟨.builtin .append, #[.tmp s, .tmp x], #[39,39]⟩) [(s,xR l),(x, .vec 7 [ap r] .full)] (.vec 7 ((l++ [r]).map ap) (.tail 0 (l++ [r]).length)) ⟨objs,tR (l++ [r])⟩:=by
  obtain ⟨inf,z,i1,i2,i3,i4,i5⟩:=tQ
  have h1:=ef (inf:=inf) (P:=Try.prog) (G:=ac) (ro:=0) (T:=⟨objs,tR l⟩) (T1:=⟨objs, [(l.length,7,true)]⟩) (t:=39) (tx:=39) (s:= .tmp s) (x:= .tmp x) (l:= [(s,xR l),(x, .vec 7 [ap r] .full)]) (es:=l.map ap) (es2:= [ap r]) (k:=0) (n:=l.length) (bn:=true) Try.underlying39 i1 i4 (by rw [i5,i2]) (by rw [i2];omega) (by kernel_rfl)
    (by rw [i2];cases l<;>simp [aO,bS,dz,xR,tR]) (by rw [i2];simp [aO,bS,hne,gk])
    (by have h1:=i3
        have h2:=Nat.mul_le_mul (show (l.map ap).length+ [ap r].length≤2000001 by simp only [List.length_map,List.length_cons,List.length_nil];omega) h1
        omega)
  rw [i2] at h1
  rw [EV]
  rw [show (l++ [r]).map ap=l.map ap++ [ap r] by rw [List.map_append];rfl,show (l++ [r]).length=l.length+ [ap r].length by simp]
  exact h1
theorem tT (W:List ak) (r:ak) (p:Px):aC (W++ [r]) p=aC W p++(bif decide (r.1=p) then [] else [r]):=by
 unfold aC
 rw [List.filter_append]
 congr 1
 simp only [List.filter_cons,List.filter_nil]
 cases decide (r.1=p)<;>rfl
def ed (W:List ak) (p:Px) (j:Nat):List ak:=aC (W.take j) p
theorem CX {W:List ak} (hW:bM W) (p:Px):cK Try.prog ac (Hl (W.map ap) p.1 p.2 (xR (aC W p)) (tR (aC W p)) (au Try.prog jz 0)):=bz fun q hq=>by
  obtain rfl:=List.mem_singleton.1 hq
  refine bP fun K hK=> ?_
  have hlen:(W.map ap).length=W.length:=List.length_map _
  have hfew:=hW.1
  refine da (f:=jz) (id:=0) (by kernel_rfl) 24 tN (fun j:Nat=>W.length-j) (fun j:Nat=>nQ (W.map ap) (xR (ed W p j)) j) (fun j=>pD p.1 p.2 (tR (ed W p j))) (fun j=>j≤W.length) 1 1 (fun j _=>⟨Nat.le_refl _,tS _⟩)
    (fun e vs T=>e= .normal∧vs=nQ (W.map ap) (xR (aC W p)) (W.map ap).length∧T=pD p.1 p.2 (tR (aC W p))) (fun j hj=> ?_) 0 (Nat.zero_le _) K ?_
  rotate_left
  · rintro e vs T ⟨rfl,rfl,rfl⟩
    exact hK
  by_cases hlt:j<W.length
  · have hr:=List.getElem?_eq_getElem hlt
    generalize W[j]=r at hr
    obtain ⟨q,a⟩:=r
    have htk:ed W p (j+1)=ed W p j++(bif decide (q=p) then [] else [(q,a)]):=by
      unfold ed
      rw [show W.take (j+1)=W.take j++ [(q,a)] by rw [List.take_add_one,hr];rfl,tT]
    have hl2:(ed W p j).length≤2000000:=by
      have:=eM (W.take j) p
      have:=List.length_take_le j W
      unfold ed;omega
    refine bq ae aa ag ah (zc (W.map ap) p.1 p.2 q.1 q.2 a (xR (ed W p j)) ((ed W p (j+1)).map ap) (.tail 0 (ed W p (j+1)).length) (tR (ed W p j)) (tR (ed W p (j+1))) j _) ?_
    refine bB (decide_eq_true (by rw [hlen];omega)) ⟨pE 8 10 rfl hr, ?_⟩
    show cond (ax BinOp.neq (aj (bH q) (bH p))) _ _
    rw [A6]
    have hend:∀o,av (an 1) (an 1) (nQ (W.map ap) (xR (ed W p (j+1))) (IntKind.wrap .i64 ((j:Int)+1)))=nQ (W.map ap) (xR (ed W p (j+1))) ((j+1:Nat):Int)∧VT.keep ⟨(pD p.1 p.2 (tR (ed W p (j+1)))).objs++o,tR (ed W p (j+1))⟩ 1 1=pD p.1 p.2 (tR (ed W p (j+1))):=fun o=>by
      rw [gA (by omega)]
      refine ⟨?_, ?_⟩
      · simp only [nQ,av,TV.ren,aS,zg,Tok.ren];rfl
      · simp only [VT.keep,pD,List.cons_append,List.nil_append,List.take_succ_cons,List.take_zero,List.map_cons,List.map_nil,vA]
        rfl
    refine aA (fun c1=> ?_) (fun c1=> ?_)
    · have hd:decide (q=p)=false:=by simpa using c1
      rw [hd,cond_false] at htk
      have hx:TV.vec 7 ((ed W p (j+1)).map ap) (.tail 0 (ed W p (j+1)).length)=xR (ed W p (j+1)):=by rw [htk,zh]
      refine ⟨?_, ?_⟩
      · rw [htk];exact kT _ (ed W p j) (q,a) hl2 18 20 rfl
      · rw [hx]
        exact ⟨rfl,rfl,j+1,hlt,by show W.length-(j+1)<W.length-j;omega, .inr ⟨(hend [_]).2,(hend []).1⟩⟩
    · have hd:decide (q=p)=true:=by simpa using c1
      rw [hd,cond_true,List.append_nil] at htk
      refine ⟨rfl,rfl,j+1,hlt,by show W.length-(j+1)<W.length-j;omega, .inr ?_⟩
      have h1:=(hend [.cells (iy q.1 q.2 a)]).2
      have h2:=(hend []).1
      rw [htk] at h1 h2
      show _=pD p.1 p.2 (tR (ed W p (j+1)))∧_=nQ (W.map ap) (xR (ed W p (j+1))) ((j+1:Nat):Int)
      rw [htk]
      exact ⟨h1,h2⟩
  · obtain rfl:j=W.length:=by omega
    have hg:ed W p W.length=aC W p:=by unfold ed;rw [List.take_length]
    refine bq ae aa ag ah (zc (W.map ap) p.1 p.2 0 0 dp (xR (ed W p W.length)) [] .none (tR (ed W p W.length)) [] W.length _) (bh (decide_eq_false (by rw [hlen];omega)) ?_)
    rw [hg]
    exact ⟨rfl,rfl,rfl,by simp only [nQ,hlen],rfl⟩
theorem EW {W:List ak} (hW:bM W) (p:Px):VCx Try.prog ac 0 jz [.vec 7 (W.map ap) .none,dg p.1 p.2] ⟨[], []⟩ fun x T' =>x= .vec 7 ((aC W p).map ap) .none∧T' =⟨[], []⟩:=by
 refine VCx.toLe (Q:=fun T' =>T' =⟨[], []⟩) (VCx.keepQ 0 0 (Nat.le_refl _) (Nat.le_refl _) (am ae aa ag (CX hW p) (GN (W.map ap) p.1 p.2 (xR (aC W p)) (tR (aC W p)) _) ⟨rfl,⟨rfl,rfl,rfl,trivial,rfl,rfl,rfl⟩,w6 _ _ _,rfl⟩))
theorem tU (R:Bs):∀ro ys T K,rt R ro ys T K→VCx Try.prog ac ro jz ys T K:=by
 intro ro ys T K hw
 unfold rt at hw
 split at hw
 ·obtain ⟨⟨W,rfl,hW,rfl⟩,hk⟩:=hw
  refine VCx.loosePure ay (EW hW (_,_)) (by simp [co,dg]) (by simp only [av,TV.ren,aS,Tok.ren,dg]) (fun f g=>by simp only [TV.ren,aS,Tok.ren]) hk
 ·exact hw.elim
end
section
open Go.RowKit
set_option maxRecDepth 100000

theorem CY (c m a n:Int):decide (dG c m a n>0)=decide (bY (a,n) (c,m)):=by
 unfold dG bY
 simp only [il,fg]
 by_cases h1:c<a<;>by_cases h2:a<c<;>by_cases h3:m<n<;>by_cases h4:n<m<;>simp [h1,h2,h3,h4]<;>omega
def cV (x:ak) (l:List ak):Bool:=l.any fun r=>decide (bY x.1 r.1)
theorem ry {x:ak}:∀{l:List ak},cV x l=false→eO x l=l++ [x]
 | [],_=>rfl
 | r::l,h=>by
  simp only [cV,List.any_cons,Bool.or_eq_false_iff] at h
  unfold eO
  rw [if_neg (of_decide_eq_false h.1),ry h.2];rfl
theorem tV {x r:ak}:∀{l:List ak},cV x l=true→eO x (l++ [r])=eO x l++ [r]
 | [],h=>by cases h
 | s::l,h=>by
  rw [List.cons_append]
  unfold eO
  split
  ·rfl
  ·rename_i hn
   simp only [cV,List.any_cons,decide_eq_false hn,Bool.false_or] at h
   rw [tV h];rfl
theorem tW {x r:ak}:∀{l:List ak},cV x l=false→bY x.1 r.1→eO x (l++ [r])=(l++ [x])++ [r]
 | [],_,h=>by simp [eO,h]
 | s::l,h,hr=>by
  simp only [cV,List.any_cons,Bool.or_eq_false_iff] at h
  rw [List.cons_append]
  unfold eO
  rw [if_neg (of_decide_eq_false h.1),tW h.2 hr];rfl
theorem mR (x r:ak) (l:List ak):cV x (l++ [r])=(cV x l || decide (bY x.1 r.1)):=by
 simp [cV,List.any_append]
def bU (x:ak) (l:List ak):List ak:=bif cV x l then eO x l else l
theorem qv (x:ak) (l:List ak):(bU x l).length≤l.length+1:=by
 unfold bU
 cases cV x l
 ·exact Nat.le_succ _
 ·rw [cond_true,ou];exact Nat.le_refl _
theorem CZ {L:List ak} (hL:L.length≤1000) (x:ak):cK Try.prog ac (Hm (L.map ap) x.1.1 x.1.2 x.2 (xR (bU x L)) (cV x L) (tR (bU x L)) (au Try.prog kQ 0)):=bz fun q hq=>by
  obtain rfl:=List.mem_singleton.1 hq
  refine bP fun K hK=> ?_
  have hlen:(L.map ap).length=L.length:=List.length_map _
  have hS:aT Try.prog ac (aD [(A5,wX)]):=aQ fun p hp=>by obtain rfl:=List.mem_singleton.1 hp;exact EU
  refine da (f:=kQ) (id:=0) (by kernel_rfl) 44 tO (fun j:Nat=>L.length-j) (fun j:Nat=>lV (L.map ap) (xR (bU x (L.take j))) (cV x (L.take j)) j) (fun j=>mQ x.1.1 x.1.2 x.2 (tR (bU x (L.take j)))) (fun j=>j≤L.length) 1 1 (fun j _=>⟨Nat.le_refl _,tS _⟩)
    (fun e vs T=>e= .normal∧vs=lV (L.map ap) (xR (bU x L)) (cV x L) (L.map ap).length∧T=mQ x.1.1 x.1.2 x.2 (tR (bU x L))) (fun j hj=> ?_) 0 (Nat.zero_le _) K ?_
  rotate_left
  · rintro e vs T ⟨rfl,rfl,rfl⟩
    exact hK
  by_cases hlt:j<L.length
  · have hr:=List.getElem?_eq_getElem hlt
    generalize L[j]=r at hr
    obtain ⟨q,a⟩:=r
    have htk:L.take (j+1)=L.take j++ [(q,a)]:=by rw [List.take_add_one,hr];rfl
    have hl0:=List.length_take_le j L
    have hl1:=qv x (L.take j)
    have hl2:=qv x (L.take (j+1))
    have hl3:=List.length_take_le (j+1) L
    have hend:∀o,av (an 1) (an 1) (lV (L.map ap) (xR (bU x (L.take (j+1)))) (cV x (L.take (j+1))) (IntKind.wrap .i64 ((j:Int)+1)))=lV (L.map ap) (xR (bU x (L.take (j+1)))) (cV x (L.take (j+1))) ((j+1:Nat):Int)∧VT.keep ⟨(mQ x.1.1 x.1.2 x.2 (tR (bU x (L.take (j+1))))).objs++o,tR (bU x (L.take (j+1)))⟩ 1 1=mQ x.1.1 x.1.2 x.2 (tR (bU x (L.take (j+1)))):=fun o=>by
      rw [gA (by omega)]
      refine ⟨?_, ?_⟩
      · simp only [lV,av,TV.ren,aS,zg,Tok.ren];rfl
      · have e:=qu x (an 1) (an 1)
        simp only [ap] at e
        simp only [VT.keep,mQ,iy,List.cons_append,List.nil_append,List.take_succ_cons,List.take_zero,List.map_cons,List.map_nil,vA,VO.ren] at e ⊢
        rw [e]
    have fin:∀o,rQ 44 0 (fun j:Nat=>L.length-j) (fun j:Nat=>lV (L.map ap) (xR (bU x (L.take j))) (cV x (L.take j)) j) (fun j=>mQ x.1.1 x.1.2 x.2 (tR (bU x (L.take j)))) (fun j=>j≤L.length) 1 1 j
        (fun e vs T=>e= .normal∧vs=lV (L.map ap) (xR (bU x L)) (cV x L) (L.map ap).length∧T=mQ x.1.1 x.1.2 x.2 (tR (bU x L))) .normal (lV (L.map ap) (xR (bU x (L.take (j+1)))) (cV x (L.take (j+1))) (IntKind.wrap .i64 ((j:Int)+1))) ⟨(mQ x.1.1 x.1.2 x.2 (tR (bU x (L.take (j+1))))).objs++o,tR (bU x (L.take (j+1)))⟩ [] 44:=fun o=>
      ⟨rfl,rfl,j+1,hlt,by show L.length-(j+1)<L.length-j;omega, .inr ⟨(hend o).2,(hend o).1⟩⟩
    have hx:∀l:List ak,l≠ []→TV.vec 7 (l.map ap) (.tail 0 l.length)=xR l:=fun l h=>by
      cases l with
      | nil=>exact absurd rfl h
      | cons s l=>rfl
    have ev:=zd (L.map ap) x.1.1 x.1.2 x.2 q.1 q.2 a (xR (bU x (L.take j))) (cV x (L.take j)) ((bU x (L.take j)++ [x]).map ap) ((bU x (L.take (j+1))).map ap) (.tail 0 (bU x (L.take j)++ [x]).length) (.tail 0 (bU x (L.take (j+1))).length) (tR (bU x (L.take j))) (tR (bU x (L.take j)++ [x])) (tR (bU x (L.take (j+1)))) j
    refine bq ae aa hS ah (ev _) ?_
    refine bB (decide_eq_true (by rw [hlen];omega)) ⟨pE 12 14 rfl hr, ?_⟩
    cases hd:cV x (L.take j) with
    | true=>
      have hd2:cV x (L.take (j+1))=true:=by rw [htk,mR,hd];rfl
      have ho:bU x (L.take (j+1))=bU x (L.take j)++ [(q,a)]:=by
        unfold bU;rw [hd2,hd,cond_true,cond_true,htk,tV hd]
      refine bh rfl ⟨?_, ?_⟩
      · rw [ho];exact kT _ (bU x (L.take j)) (q,a) (by omega) 32 34 rfl
      · have h1:=fin [.cells (iy q.1 q.2 a)]
        rw [hd2] at h1
        rw [hx _ (by rw [ho];simp)]
        exact h1
    | false=>
      refine bB rfl ?_
      rw [CY]
      refine aA (fun c1=> ?_) (fun c1=> ?_)
      · have hlt1:bY x.1 q:=of_decide_eq_true c1
        have hd2:cV x (L.take (j+1))=true:=by rw [htk,mR,hd,decide_eq_true hlt1];rfl
        have h0:bU x (L.take j)=L.take j:=by unfold bU;rw [hd];rfl
        have ho:bU x (L.take (j+1))=(bU x (L.take j)++ [x])++ [(q,a)]:=by
          rw [h0]
          unfold bU;rw [hd2,cond_true,htk,tW hd hlt1]
        refine ⟨kT _ (bU x (L.take j)) x (by omega) 28 30 rfl, ?_, ?_⟩
        · rw [hx _ (by simp),ho]
          exact kT _ (bU x (L.take j)++ [x]) (q,a) (by simp;omega) 32 34 rfl
        · have h1:=fin [.cells (iy q.1 q.2 a)]
          rw [hd2] at h1
          rw [hx _ (by rw [ho];simp)]
          exact h1
      · have hnl:¬bY x.1 q:=of_decide_eq_false c1
        have hd2:cV x (L.take (j+1))=false:=by rw [htk,mR,hd,decide_eq_false hnl];rfl
        have ho:bU x (L.take (j+1))=bU x (L.take j)++ [(q,a)]:=by
          unfold bU;rw [hd2,hd,cond_false,cond_false,htk]
        refine ⟨?_, ?_⟩
        · rw [ho];exact kT _ (bU x (L.take j)) (q,a) (by omega) 32 34 rfl
        · have h1:=fin [.cells (iy q.1 q.2 a)]
          rw [hd2] at h1
          rw [hx _ (by rw [ho];simp)]
          exact h1
  · obtain rfl:j=L.length:=by omega
    refine bq ae aa hS ah (zd (L.map ap) x.1.1 x.1.2 x.2 0 0 dp (xR (bU x (L.take L.length))) (cV x (L.take L.length)) [] [] .none .none (tR (bU x (L.take L.length))) [] [] L.length _) (bh (decide_eq_false (by rw [hlen];omega)) ?_)
    rw [List.take_length]
    exact ⟨rfl,rfl,rfl,by simp only [lV,hlen],rfl⟩
theorem EX {W:List ak} (hW:bM W) (x:ak) (hx:x.2.p.length≤2000000):VCx Try.prog ac 0 kQ [.vec 7 (W.map ap) .none, .agg (ap x)] ⟨[], []⟩ fun y T' =>y= .vec 7 ((cc W x).map ap) .none∧T' =⟨[], []⟩:=by
 have hS:aT Try.prog ac (aD [(jz,rt ((aC W x.1).map ap))]):=aQ fun p hp=>by obtain rfl:=List.mem_singleton.1 hp;exact tU _
 have hl:=eM W x.1
 have hf:=hW.1
 refine VCx.toLe (Q:=fun T' =>T' =⟨[], []⟩) (VCx.keepQ 0 0 (Nat.le_refl _) (Nat.le_refl _) (am ae aa hS (CZ (L:=aC W x.1) (by omega) x) (GO (W.map ap) ((aC W x.1).map ap) x.1.1 x.1.2 x.2 (xR (bU x (aC W x.1))) (cV x (aC W x.1)) (tR (bU x (aC W x.1))) ((cc W x).map ap) (.tail 0 (cc W x).length) (tR (cc W x)) _) ⟨⟨W,rfl,hW,rfl⟩,rfl,⟨rfl,rfl,rfl,trivial,rfl,rfl,rfl⟩, ?_⟩))
 have hl1:=qv x (aC W x.1)
 cases hd:cV x (aC W x.1) with
 | true=>
  have ho:bU x (aC W x.1)=cc W x:=by unfold bU cc;rw [hd];rfl
  refine bh rfl ⟨?_,rfl⟩
  rw [ho]
  exact w6 _ _ _
 | false=>
  have h0:bU x (aC W x.1)=aC W x.1:=by unfold bU;rw [hd];rfl
  have ho:cc W x=bU x (aC W x.1)++ [x]:=by rw [h0];exact ry hd
  refine bB rfl ⟨?_, ?_,rfl⟩
  ·rw [ho];exact kT _ (bU x (aC W x.1)) x (by omega) 39 41 rfl
  ·have h2:=w6 (cc W x) (an 0) (an 0)
   rw [show xR (cc W x)= .vec 7 ((cc W x).map ap) (.tail 0 (cc W x).length) by rw [ho,zh]] at h2
   exact h2
theorem zi (R:Bs):∀ro ys T K,vw R ro ys T K→VCx Try.prog ac ro kQ ys T K:=by
 intro ro ys T K hw
 unfold vw at hw
 split at hw
 ·obtain ⟨⟨W,r,rfl,rfl,hW,hr,rfl⟩,hk⟩:=hw
  refine VCx.loosePure ay (EX hW r hr) (by simp [co]) (by simp only [av,TV.ren,aS,qu,Tok.ren]) (fun f g=>by simp only [TV.ren,aS,Tok.ren]) hk
 ·exact hw.elim
end
section
open Go.RowKit

section
variable {P:Program} {G:az}
theorem VCx.cellsLe {f:FuncId} {xs:List TV} {T:VT} {Q:TV→VT→Prop} (i:Nat) (h:VCx P G 0 f xs T fun x T' =>∃cs cs' :List TV,T'.objs[i]?=some (.cells cs)∧TVleL cs cs' ∧Q x {T' with objs:=T'.objs.set i (.cells cs')}):VCx P G 0 f xs T Q:=by
 intro g w us rw0 hG hx
 refine Calls.mono (h g w us rw0 hG hx) ?_
 rintro e w' ⟨v,x,g',T',he,⟨cs,cs',h1,h2,hq⟩,e',r',hv,hfx⟩
 have r2:=r'.objLe h1 rfl (o' := .cells cs') rfl fun b ⟨us,t,k1,k2,k3⟩=>⟨us,t,k1,h2.vrs k2,k3⟩
 refine ⟨v,x,g',_,he,hq,e',r2,hv,⟨?_,fun i hi=>absurd hi (Nat.not_lt_zero i),fun i o b hi=>absurd hi (Nat.not_lt_zero i)⟩⟩
 have:=hfx.len
 simpa using this
end
end
section
open Go.RowKit
set_option maxRecDepth 100000

def jA (W H:List ak):VT:=dw (W.map ap) (H.map ap)
theorem gS (W H:List ak) (l:List VO):VT.keep ⟨(jA W H).objs++l, []⟩ 1 0=jA W H:=by
 simp only [VT.keep,jA,dw,List.cons_append,List.nil_append,List.take_succ_cons,List.take_zero,List.map_cons,List.map_nil,VO.ren,av,TV.ren,aS,Tok.ren]
section
variable {W H:List ak}
theorem EY (hW:bM W) (p:Px) {a:AtV} (hp:gB p.1 p.2) (ha:a.p.length≤9223372036854775807):VCx Try.prog ac 0 yX [.ptr 0 0,dg p.1 p.2, .agg a.cells] (jA W H) fun x T' =>x= .val (.int .i64 (fF p a))∧T' =jA (dU W p a) H:=by
 have hS:aT Try.prog ac (aD [(ql,qm),(gR,qn (cL a)),(gf,nP (bR W p) (bo W p)),(kQ,vw ((cc W (p,a)).map ap))]):=aQ fun q hq=>by
  rcases List.mem_cons.1 hq with rfl | hq;exact ze
  rcases List.mem_cons.1 hq with rfl | hq;exact vy _
  rcases List.mem_cons.1 hq with rfl | hq;exact pF _ _
  obtain rfl:=List.mem_singleton.1 hq;exact zi _
 have hl:=hW.1
 have hlen:(W.map ap).length=W.length:=List.length_map _
 refine VCx.keepQ 1 0 (Nat.le_refl _) (Nat.le_refl _) (am ae aa hS ah (GP (W.map ap) (H.map ap) ((cc W (p,a)).map ap) p.1 p.2 a (bR W p) (cL a) (bo W p) _) ⟨hp, ?_⟩)
 cases hp:gt p.1 p.2 with
 | false=>exact ⟨by simp only [fF,cN,hp];rfl,by simp only [dU,cN,hp];exact gS W H _⟩
 | true=>
  refine bh rfl ⟨⟨a,rfl,ha,rfl⟩, ?_⟩
  cases hg:cL a with
  | false=>exact ⟨by simp only [fF,cN,hp,hg];rfl,by simp only [dU,cN,hp,hg];exact gS W H _⟩
  | true=>
   have hi:tL (W.map ap) (ap (p,a)) ((cc W (p,a)).map ap):=⟨W,(p,a),rfl,rfl,hW,lH hg,rfl⟩
   have e1:TV.val (.int .i64 0)= .val (.int .i64 (fF p a)):=by simp only [fF,cN,hp,hg];rfl
   have e2:∀l,VT.keep ⟨(jA (cc W (p,a)) H).objs++l, []⟩ 1 0=jA (dU W p a) H:=fun l=>by
    rw [gS];simp only [dU,cN,hp,hg];rfl
   refine bh rfl ⟨⟨W,rfl,hW,rfl,rfl⟩,aA (fun _=>bh (decide_eq_false (by rw [hlen];omega)) ⟨hi,e1,e2 _⟩) (fun _=>⟨hi,e1,e2 _⟩)⟩
theorem EZ (hW:bM W) (p:Px):VCx Try.prog ac 0 yY [.ptr 0 0,dg p.1 p.2] (jA W H) fun x T' =>x= .val (.bool (bo W p))∧T' =jA (aC W p) H:=by
 have hS:aT Try.prog ac (aD [(gf,nP (bR W p) (bo W p)),(jz,rt ((aC W p).map ap))]):=aQ fun q hq=>by
  rcases List.mem_cons.1 hq with rfl | hq;exact pF _ _
  obtain rfl:=List.mem_singleton.1 hq;exact tU _
 exact VCx.keepQ 1 0 (Nat.le_refl _) (Nat.le_refl _) (am ae aa hS ah (GQ (W.map ap) (H.map ap) ((aC W p).map ap) p.1 p.2 (bR W p) (bo W p) _) ⟨⟨W,rfl,hW,rfl,rfl⟩,⟨W,rfl,hW,rfl⟩,rfl,gS _ H _⟩)
theorem E0 (hH:bM H) (p:Px) {a:AtV} (g:Bool) (hp:gB p.1 p.2) (ha:a.p.length≤9223372036854775807):VCx Try.prog ac 0 yZ [.ptr 0 0, .agg (ei p.1 p.2 a g)] (jA W H) fun x T' =>x= .val (.int .i64 (iI p a g))∧T' =jA W (eU H p a g):=by
 have hS:aT Try.prog ac (aD [(tM,wZ (gu p a g)),(jz,rt ((aC H p).map ap)),(kQ,vw ((cc H (p,a)).map ap))]):=aQ fun q hq=>by
  rcases List.mem_cons.1 hq with rfl | hq;exact CV _
  rcases List.mem_cons.1 hq with rfl | hq;exact tU _
  obtain rfl:=List.mem_singleton.1 hq;exact zi _
 refine VCx.keepQ 1 0 (Nat.le_refl _) (Nat.le_refl _) (am ae aa hS ah (GR (W.map ap) (H.map ap) ((aC H p).map ap) ((cc H (p,a)).map ap) p.1 p.2 a g (gu p a g) _) ⟨⟨p,a,g,rfl,hp,ha,rfl⟩, ?_⟩)
 cases hc:gu p a g with
 | false=>exact ⟨by simp only [iI,hc];rfl,by simp only [eU,hc];exact gS W H _⟩
 | true=>
  refine bh rfl ?_
  cases g with
  | true=>exact ⟨⟨H,rfl,hH,rfl⟩,by simp only [iI,hc];rfl,by simp only [eU,hc];exact gS W _ _⟩
  | false=>
   have hg:cL a=true:=by unfold gu at hc;simp only [cond_false,Bool.and_eq_true] at hc;exact hc.2
   exact ⟨⟨H,(p,a),rfl,rfl,hH,lH hg,rfl⟩,by simp only [iI,hc];rfl,by simp only [eU,hc];exact gS W _ _⟩
theorem E1:VCx Try.prog ac 0 y0 [.ptr 0 0] (jA W H) fun x T' =>x= .tup []∧T' =jA W []:=by
 refine VCx.cellsLe 0 (VCx.keepQ 1 0 (Nat.le_refl _) (Nat.le_refl _) (am ae aa ag ah (GS (W.map ap) (H.map ap) _) ?_))
 refine ⟨_, [.vec 7 (W.map ap) .none, .vec 7 [] .none],rfl, ?_,rfl, ?_⟩
 ·refine ⟨?_, .nil 7,trivial⟩
  simp only [TV.ren,aS,Tok.ren]
  exact .refl _
 ·rfl
end
end
section
open Go.RowKit

abbrev kU:=7
abbrev vB:=8
abbrev rz:=10
def pG (a n:Int):List TV:= [.val (.int .u32 a), .val (.int .i64 n)]
def tX (k a n:Int) (x:AtV) (g:Bool):List TV:= .val (.int .i64 k)::ei a n x g
structure S6 where
 lk:bQ
 lk2:bQ
 es:bF
 es2:bF
 ck:Nat
 ck2:Nat
def ai (V:List ak):Bs:=V.map ap
def Bv (a n:Int) (x:AtV):Int:=fF (a,n) x
def Bw (W:List ak) (a n:Int) (x:AtV):List ak:=dU W (a,n) x
def Bx (W:List ak) (a n:Int):List ak:=aC W (a,n)
def By (W:List ak) (a n:Int):Bool:=bo W (a,n)
def Bz (a n:Int) (x:AtV) (g:Bool):Int:=iI (a,n) x g
def BA (H:List ak) (a n:Int) (x:AtV) (g:Bool):List ak:=eU H (a,n) x g
def BB:List ak:= []
def lI (W H:List ak) (sh:KS) (lk:bQ) (es:bF) (ck:Nat) (sh2:KS) (lk2:bQ) (es2:bF) (ck2:Nat):Prop:=sh=kP∧sh2=kP∧(TbOk W lk es ck∧TbOk H lk2 es2 ck2)∧W.length<1000∧H.length<1000
def lJ (V J:List ak) (w h:Bs):Prop:=w=V.map ap∧h=J.map ap∧bM V∧bM J
def ke (x:AtV):Prop:=x.p.length≤9223372036854775807
def ek (W:List ak) (k a n:Int) (x:AtV):List ak:=if k=0 then dU W (a,n) x else if k=1 then aC W (a,n) else W
def en (H:List ak) (k a n:Int) (x:AtV) (g:Bool):List ak:=if k=2 then eU H (a,n) x g else if k=3 then [] else H
def TbJ (W H:List ak) (s:S6):Prop:=TbOk W s.lk s.es s.ck∧TbOk H s.lk2 s.es2 s.ck2
structure dI where
 k:Int
 p:Px
 a:AtV
 g:Bool
def bk (t:dI):List TV:=tX t.k t.p.1 t.p.2 t.a t.g
def iu (t:dI):Prop:=gB t.p.1 t.p.2∧ke t.a
def tY (L:Bs):Prop:=∃l:List dI,L=l.map bk∧l.length≤9223372036854775807
def oz (L:Bs) (b:Bool):Prop:=b=true→L.length≤120
def RbAt (W H:List ak) (T:VT):Prop:=∃(s:S6) (os:List VO),T.objs= [.map kP s.lk s.es s.ck, .map kP s.lk2 s.es2 s.ck2, .cells [.map 0, .map 1]]++os∧TbJ W H s∧W.length<1000∧H.length<1000
def mS (T:VT):Prop:=∃W H,RbAt W H T
def E2 (T:VT) (L:Bs):Prop:=∃W H,RbAt W H T∧L=(bx W H).map aw
def E3 (T:VT) (L:Bs):Prop:=∃W H,RbAt W H T∧L=(br W H).map bd
def E4 (T:VT) (b:Bool):Prop:=∃W H,RbAt W H T∧b=iK W H
def E5 (T:VT) (n k:Int):Prop:=∃W H,RbAt W H T∧n=(W.length:Int)∧k=(H.length:Int)
def w7 (W:List ak) (q:List TV) (y:AtV) (b:Bool):Prop:=∃p:Px,q=aw p∧y=bR W p∧b=bo W p
def w8 (l:List TV) (k a n:Int) (x:AtV) (g:Bool):Prop:=l=tX k a n x g∧gB a n∧ke x
def jX (lk lk2:bQ) (es es2:bF) (ck ck2:Nat) (w h:Bs):VT:=⟨[.cells [.map 1, .map 2], .map kP lk es ck, .map kP lk2 es2 ck2, .cells [.vec 7 w .none, .vec 7 h .none]], []⟩
def BC (W H:List ak) (a n:Int) (x:AtV):aJ:=fun ro ys T K=>match ys with
 | [.ptr 0 0, .agg q, .agg l]=>match T.objs with
  | .cells [.map 1, .map 2]:: .map sh lk es ck:: .map sh2 lk2 es2 ck2::os=>((@Eq Nat ro 0)∧lI W H sh lk es ck sh2 lk2 es2 ck2∧(@Eq (List TV) q (pG a n))∧(@Eq (List TV) l x.cells)∧ke x)∧∀s:S6,TbJ (Bw W a n x) H s→K (.val (.int .i64 (Bv a n x))) ⟨.cells [.map 1, .map 2]:: .map kP s.lk s.es s.ck:: .map kP s.lk2 s.es2 s.ck2::os,T.tails⟩
  | _=>ar 88 default ys
 | _=>ar 89 default ys
def BD (W H:List ak) (a n:Int):aJ:=fun ro ys T K=>match ys with
 | [.ptr 0 0, .agg q]=>match T.objs with
  | .cells [.map 1, .map 2]:: .map sh lk es ck:: .map sh2 lk2 es2 ck2::os=>((@Eq Nat ro 0)∧lI W H sh lk es ck sh2 lk2 es2 ck2∧(@Eq (List TV) q (pG a n)))∧∀s:S6,TbJ (Bx W a n) H s→K (.val (.bool (By W a n))) ⟨.cells [.map 1, .map 2]:: .map kP s.lk s.es s.ck:: .map kP s.lk2 s.es2 s.ck2::os,T.tails⟩
  | _=>ar 88 default ys
 | _=>ar 89 default ys
def BE (W H:List ak) (a n:Int) (x:AtV) (g:Bool):aJ:=fun ro ys T K=>match ys with
 | [.ptr 0 0, .agg l]=>match T.objs with
  | .cells [.map 1, .map 2]:: .map sh lk es ck:: .map sh2 lk2 es2 ck2::os=>((@Eq Nat ro 0)∧lI W H sh lk es ck sh2 lk2 es2 ck2∧(@Eq (List TV) l (ei a n x g))∧ke x)∧∀s:S6,TbJ W (BA H a n x g) s→K (.val (.int .i64 (Bz a n x g))) ⟨.cells [.map 1, .map 2]:: .map kP s.lk s.es s.ck:: .map kP s.lk2 s.es2 s.ck2::os,T.tails⟩
  | _=>ar 88 default ys
 | _=>ar 89 default ys
def BF (W H:List ak):aJ:=fun ro ys T K=>match ys with
 | [.ptr 0 0]=>match T.objs with
  | .cells [.map 1, .map 2]:: .map sh lk es ck:: .map sh2 lk2 es2 ck2::os=>((@Eq Nat ro 0)∧lI W H sh lk es ck sh2 lk2 es2 ck2)∧∀s:S6,TbJ W BB s→K (.tup []) ⟨.cells [.map 1, .map 2]:: .map kP s.lk s.es s.ck:: .map kP s.lk2 s.es2 s.ck2::os,T.tails⟩
  | _=>ar 88 default ys
 | _=>ar 89 default ys
def BG (W H:List ak) (a n:Int) (x:AtV):aJ:=fun ro ys T K=>match ys with
 | [.ptr 3 0, .agg q, .agg l]=>match T.objs[3]? with
  | some (VO.cells [.vec 7 w .none, .vec 7 h .none])=>((@Eq Nat ro 0)∧lJ W H w h∧(@Eq (List TV) q (pG a n))∧(@Eq (List TV) l x.cells)∧ke x∧gB a n)∧K (.val (.int .i64 (Bv a n x))) {T with objs:=T.objs.set 3 (.cells [.vec 7 (ai (Bw W a n x)) .none, .vec 7 (ai H) .none])}
  | _=>ar 88 default ys
 | _=>ar 89 default ys
def BH (W H:List ak) (a n:Int):aJ:=fun ro ys T K=>match ys with
 | [.ptr 3 0, .agg q]=>match T.objs[3]? with
  | some (VO.cells [.vec 7 w .none, .vec 7 h .none])=>((@Eq Nat ro 0)∧lJ W H w h∧(@Eq (List TV) q (pG a n)))∧K (.val (.bool (By W a n))) {T with objs:=T.objs.set 3 (.cells [.vec 7 (ai (Bx W a n)) .none, .vec 7 (ai H) .none])}
  | _=>ar 88 default ys
 | _=>ar 89 default ys
def BI (W H:List ak) (a n:Int) (x:AtV) (g:Bool):aJ:=fun ro ys T K=>match ys with
 | [.ptr 3 0, .agg l]=>match T.objs[3]? with
  | some (VO.cells [.vec 7 w .none, .vec 7 h .none])=>((@Eq Nat ro 0)∧lJ W H w h∧(@Eq (List TV) l (ei a n x g))∧ke x∧gB a n)∧K (.val (.int .i64 (Bz a n x g))) {T with objs:=T.objs.set 3 (.cells [.vec 7 (ai W) .none, .vec 7 (ai (BA H a n x g)) .none])}
  | _=>ar 88 default ys
 | _=>ar 89 default ys
def BJ (W H:List ak):aJ:=fun ro ys T K=>match ys with
 | [.ptr 3 0]=>match T.objs[3]? with
  | some (VO.cells [.vec 7 w .none, .vec 7 h .none])=>((@Eq Nat ro 0)∧lJ W H w h)∧K (.tup []) {T with objs:=T.objs.set 3 (.cells [.vec 7 (ai W) .none, .vec 7 (ai BB) .none])}
  | _=>ar 88 default ys
 | _=>ar 89 default ys
def vC:aJ:=fun _ ys T K=>match ys with
 | [.vec 9 l _]=>tY l∧∀b:Bool,oz l b→K (.val (.bool b)) T
 | _=>ar 90 default ys
def BK:aJ:=fun ro ys T K=>match ys with
 | [.ptr 2 0]=>((@Eq Nat ro 0)∧mS T)∧∀L:Bs,E2 T L→K (.vec 2 L .none) T
 | _=>ar 91 default ys
def BL:aJ:=fun ro ys T K=>match ys with
 | [.ptr 2 0]=>((@Eq Nat ro 0)∧mS T)∧∀L:Bs,E3 T L→K (.vec 8 L .none) T
 | _=>ar 91 default ys
def BM:aJ:=fun ro ys T K=>match ys with
 | [.ptr 2 0]=>((@Eq Nat ro 0)∧mS T)∧∀b:Bool,E4 T b→K (.val (.bool b)) T
 | _=>ar 91 default ys
def BN:aJ:=fun ro ys T K=>match ys with
 | [.ptr 2 0]=>((@Eq Nat ro 0)∧mS T)∧∀n k:Int,E5 T n k→K (.tup [.val (.int .i64 n), .val (.int .i64 k)]) T
 | _=>ar 91 default ys
def w9 (W H:List ak) (y:AtV) (b:Bool):aJ:=fun ro ys T K=>match ys with
 | [.ptr 2 0, .agg q]=>((@Eq Nat ro 0)∧RbAt W H T∧w7 W q y b)∧K (.tup [.agg y.cells, .val (.bool b)]) T
 | _=>ar 91 default ys
def xa (W H:List ak) (y:AtV) (b:Bool):aJ:=fun ro ys T K=>match ys with
 | [.ptr 2 0, .agg q]=>((@Eq Nat ro 0)∧RbAt W H T∧w7 H q y b)∧K (.tup [.agg y.cells, .val (.bool b)]) T
 | _=>ar 91 default ys
def qw:List Nat:= [2,3,9,10,11]
def tZ (L:Bs) (s j:Int):List TV:= [.val (.bool false), .val (.int .i64 s), .vec 9 L .none, .val (.int .i64 L.length), .val (.int .i64 j)]
def Hn (L:Bs) (c0:Code):Nat→Option (bu × Code):=cw [(0,dE 25 qw [] (tZ L 0 0) ⟨[], []⟩ (fun K=>(∀s j:Int,K .normal (aG 25 qw (tZ L s j)) ⟨[], []⟩ [])∧∀(s j:Int) (c:List TV),K .ret (aG 25 qw (tZ L s j)) ⟨[.cells c], []⟩ []),c0)]
theorem GT (W H V J:List ak) (lk lk2:bQ) (es es2:bF) (ck ck2:Nat) (k a n:Int) (x:AtV) (g:Bool) (Q:TV→VT→Prop):aq Try.prog ac (aD [(vm,BC W H a n x),(vn,BD W H a n),(yE,BE W H a n x g),(yF,BF W H),(yX,BG V J a n x),(yY,BH V J a n),(yZ,BI V J a n x g),(y0,BJ V J)]) (aB [(999998, .dead,none)]) 300 aE 0 rz [.ptr 0 0, .ptr 3 0, .agg (tX k a n x g)] (jX lk lk2 es es2 ck ck2 (ai V) (ai J)) Q=
 (bif ax BinOp.eql (aj (Value.int IntKind.i64 k) (Value.int IntKind.i64 (0:Int)))
 then (((@Eq (Nat) 0 0)∧
 (lI (W) (H) ⟨true, [(.int .u32),(.int .i64)]⟩ (lk) (es) (ck) ⟨true, [(.int .u32),(.int .i64)]⟩ (lk2) (es2) (ck2)∧
 ((@Eq (List TV) [(.val (.int .u32 (a))),(.val (.int .i64 (n)))] [(.val (.int .u32 (a))),(.val (.int .i64 (n)))])∧
 ((@Eq (List TV) [(.val (.int .i64 (AtV.o x))),(.vec 1 (iV (AtV.p x)) .none),(.val (.int .u32 (AtV.h x))),(.val (.int .i64 (AtV.m x))),(.val (.bool (AtV.hm x)))] [(.val (.int .i64 (AtV.o x))),(.vec 1 (iV (AtV.p x)) .none),(.val (.int .u32 (AtV.h x))),(.val (.int .i64 (AtV.m x))),(.val (.bool (AtV.hm x)))])∧
 ke (x)))))∧
 (∀s:S6,(TbJ (Bw W a n x) (H) (s)→(((@Eq (Option TV) (.some (.agg [(.val (.int .i64 (AtV.o x))),(.vec 1 (iV (AtV.p x)) .none),(.val (.int .u32 (AtV.h x))),(.val (.int .i64 (AtV.m x))),(.val (.bool (AtV.hm x)))])) (.some (.agg [(.val (.int .i64 (AtV.o x))),(.vec 1 (iV (AtV.p x)) .none),(.val (.int .u32 (AtV.h x))),(.val (.int .i64 (AtV.m x))),(.val (.bool (AtV.hm x)))])))∧
 ((@Eq (Option TV) (.some (.agg [(.val (.int .u32 (a))),(.val (.int .i64 (n)))])) (.some (.agg [(.val (.int .u32 (a))),(.val (.int .i64 (n)))])))∧
 ((@Eq (Option TV) (.some (.agg [(.val (.int .i64 (AtV.o x))),(.vec 1 (iV (AtV.p x)) .none),(.val (.int .u32 (AtV.h x))),(.val (.int .i64 (AtV.m x))),(.val (.bool (AtV.hm x)))])) (.some (.agg [(.val (.int .i64 (AtV.o x))),(.vec 1 (iV (AtV.p x)) .none),(.val (.int .u32 (AtV.h x))),(.val (.int .i64 (AtV.m x))),(.val (.bool (AtV.hm x)))])))∧
 ((@Eq (Option TV) (.some (.agg [(.val (.int .u32 (a))),(.val (.int .i64 (n)))])) (.some (.agg [(.val (.int .u32 (a))),(.val (.int .i64 (n)))])))∧
 True))))∧
 (((@Eq (Nat) 0 0)∧
 (lJ (V) (J) (ai V) (ai J)∧
 ((@Eq (List TV) [(.val (.int .u32 (a))),(.val (.int .i64 (n)))] [(.val (.int .u32 (a))),(.val (.int .i64 (n)))])∧
 ((@Eq (List TV) [(.val (.int .i64 (AtV.o x))),(.vec 1 (iV (AtV.p x)) .none),(.val (.int .u32 (AtV.h x))),(.val (.int .i64 (AtV.m x))),(.val (.bool (AtV.hm x)))] [(.val (.int .i64 (AtV.o x))),(.vec 1 (iV (AtV.p x)) .none),(.val (.int .u32 (AtV.h x))),(.val (.int .i64 (AtV.m x))),(.val (.bool (AtV.hm x)))])∧
 (ke (x)∧
 gB (a) (n))))))∧
 Q (.val (.bool (ax BinOp.eql (aj (Value.int IntKind.i64 (Bv a n x)) (Value.int IntKind.i64 (Bv a n x)))))) ⟨[(.cells [(.map 1),(.map 2)]),(.map ⟨true, [(.int .u32),(.int .i64)]⟩ (s.1) (S6.es s) (S6.ck s)),(.map ⟨true, [(.int .u32),(.int .i64)]⟩ (s.2) (S6.es2 s) (S6.ck2 s)),(.cells [(.vec 7 (ai (Bw V a n x)) .none),(.vec 7 (ai J) .none)]),(.cells [(.val (.int .i64 (k))),(.val (.int .u32 (a))),(.val (.int .i64 (n))),(.val (.int .i64 (AtV.o x))),(.vec 1 (iV (AtV.p x)) .none),(.val (.int .u32 (AtV.h x))),(.val (.int .i64 (AtV.m x))),(.val (.bool (AtV.hm x))),(.val (.bool (g)))])], []⟩)))))
 else (bif ax BinOp.eql (aj (Value.int IntKind.i64 k) (Value.int IntKind.i64 (1:Int)))
 then (((@Eq (Nat) 0 0)∧
 (lI (W) (H) ⟨true, [(.int .u32),(.int .i64)]⟩ (lk) (es) (ck) ⟨true, [(.int .u32),(.int .i64)]⟩ (lk2) (es2) (ck2)∧
 (@Eq (List TV) [(.val (.int .u32 (a))),(.val (.int .i64 (n)))] [(.val (.int .u32 (a))),(.val (.int .i64 (n)))])))∧
 (∀s:S6,(TbJ (Bx W a n) (H) (s)→(((@Eq (Option TV) (.some (.agg [(.val (.int .u32 (a))),(.val (.int .i64 (n)))])) (.some (.agg [(.val (.int .u32 (a))),(.val (.int .i64 (n)))])))∧
 ((@Eq (Option TV) (.some (.agg [(.val (.int .u32 (a))),(.val (.int .i64 (n)))])) (.some (.agg [(.val (.int .u32 (a))),(.val (.int .i64 (n)))])))∧
 True))∧
 (((@Eq (Nat) 0 0)∧
 (lJ (V) (J) (ai V) (ai J)∧
 (@Eq (List TV) [(.val (.int .u32 (a))),(.val (.int .i64 (n)))] [(.val (.int .u32 (a))),(.val (.int .i64 (n)))])))∧
 Q (.val (.bool (ax BinOp.eql (aj (Value.bool (By W a n)) (Value.bool (By V a n)))))) ⟨[(.cells [(.map 1),(.map 2)]),(.map ⟨true, [(.int .u32),(.int .i64)]⟩ (s.1) (S6.es s) (S6.ck s)),(.map ⟨true, [(.int .u32),(.int .i64)]⟩ (s.2) (S6.es2 s) (S6.ck2 s)),(.cells [(.vec 7 (ai (Bx V a n)) .none),(.vec 7 (ai J) .none)]),(.cells [(.val (.int .i64 (k))),(.val (.int .u32 (a))),(.val (.int .i64 (n))),(.val (.int .i64 (AtV.o x))),(.vec 1 (iV (AtV.p x)) .none),(.val (.int .u32 (AtV.h x))),(.val (.int .i64 (AtV.m x))),(.val (.bool (AtV.hm x))),(.val (.bool (g)))])], []⟩)))))
 else (bif ax BinOp.eql (aj (Value.int IntKind.i64 k) (Value.int IntKind.i64 (2:Int)))
 then (((@Eq (Nat) 0 0)∧
 (lI (W) (H) ⟨true, [(.int .u32),(.int .i64)]⟩ (lk) (es) (ck) ⟨true, [(.int .u32),(.int .i64)]⟩ (lk2) (es2) (ck2)∧
 ((@Eq (List TV) [(.val (.int .u32 (a))),(.val (.int .i64 (n))),(.val (.int .i64 (AtV.o x))),(.vec 1 (iV (AtV.p x)) .none),(.val (.int .u32 (AtV.h x))),(.val (.int .i64 (AtV.m x))),(.val (.bool (AtV.hm x))),(.val (.bool (g)))] [(.val (.int .u32 (a))),(.val (.int .i64 (n))),(.val (.int .i64 (AtV.o x))),(.vec 1 (iV (AtV.p x)) .none),(.val (.int .u32 (AtV.h x))),(.val (.int .i64 (AtV.m x))),(.val (.bool (AtV.hm x))),(.val (.bool (g)))])∧
 ke (x))))∧
 (∀s:S6,(TbJ (W) (BA H a n x g) (s)→(((@Eq (Option TV) (.some (.agg [(.val (.int .u32 (a))),(.val (.int .i64 (n))),(.val (.int .i64 (AtV.o x))),(.vec 1 (iV (AtV.p x)) .none),(.val (.int .u32 (AtV.h x))),(.val (.int .i64 (AtV.m x))),(.val (.bool (AtV.hm x))),(.val (.bool (g)))])) (.some (.agg [(.val (.int .u32 (a))),(.val (.int .i64 (n))),(.val (.int .i64 (AtV.o x))),(.vec 1 (iV (AtV.p x)) .none),(.val (.int .u32 (AtV.h x))),(.val (.int .i64 (AtV.m x))),(.val (.bool (AtV.hm x))),(.val (.bool (g)))])))∧
 ((@Eq (Option TV) (.some (.agg [(.val (.int .u32 (a))),(.val (.int .i64 (n))),(.val (.int .i64 (AtV.o x))),(.vec 1 (iV (AtV.p x)) .none),(.val (.int .u32 (AtV.h x))),(.val (.int .i64 (AtV.m x))),(.val (.bool (AtV.hm x))),(.val (.bool (g)))])) (.some (.agg [(.val (.int .u32 (a))),(.val (.int .i64 (n))),(.val (.int .i64 (AtV.o x))),(.vec 1 (iV (AtV.p x)) .none),(.val (.int .u32 (AtV.h x))),(.val (.int .i64 (AtV.m x))),(.val (.bool (AtV.hm x))),(.val (.bool (g)))])))∧
 True))∧
 (((@Eq (Nat) 0 0)∧
 (lJ (V) (J) (ai V) (ai J)∧
 ((@Eq (List TV) [(.val (.int .u32 (a))),(.val (.int .i64 (n))),(.val (.int .i64 (AtV.o x))),(.vec 1 (iV (AtV.p x)) .none),(.val (.int .u32 (AtV.h x))),(.val (.int .i64 (AtV.m x))),(.val (.bool (AtV.hm x))),(.val (.bool (g)))] [(.val (.int .u32 (a))),(.val (.int .i64 (n))),(.val (.int .i64 (AtV.o x))),(.vec 1 (iV (AtV.p x)) .none),(.val (.int .u32 (AtV.h x))),(.val (.int .i64 (AtV.m x))),(.val (.bool (AtV.hm x))),(.val (.bool (g)))])∧
 (ke (x)∧
 gB (a) (n)))))∧
 Q (.val (.bool (ax BinOp.eql (aj (Value.int IntKind.i64 (Bz a n x g)) (Value.int IntKind.i64 (Bz a n x g)))))) ⟨[(.cells [(.map 1),(.map 2)]),(.map ⟨true, [(.int .u32),(.int .i64)]⟩ (s.1) (S6.es s) (S6.ck s)),(.map ⟨true, [(.int .u32),(.int .i64)]⟩ (s.2) (S6.es2 s) (S6.ck2 s)),(.cells [(.vec 7 (ai V) .none),(.vec 7 (ai (BA J a n x g)) .none)]),(.cells [(.val (.int .i64 (k))),(.val (.int .u32 (a))),(.val (.int .i64 (n))),(.val (.int .i64 (AtV.o x))),(.vec 1 (iV (AtV.p x)) .none),(.val (.int .u32 (AtV.h x))),(.val (.int .i64 (AtV.m x))),(.val (.bool (AtV.hm x))),(.val (.bool (g)))]),(.cells [(.val (.int .u32 (a))),(.val (.int .i64 (n))),(.val (.int .i64 (AtV.o x))),(.vec 1 (iV (AtV.p x)) .none),(.val (.int .u32 (AtV.h x))),(.val (.int .i64 (AtV.m x))),(.val (.bool (AtV.hm x))),(.val (.bool (g)))]),(.cells [(.val (.int .u32 (a))),(.val (.int .i64 (n))),(.val (.int .i64 (AtV.o x))),(.vec 1 (iV (AtV.p x)) .none),(.val (.int .u32 (AtV.h x))),(.val (.int .i64 (AtV.m x))),(.val (.bool (AtV.hm x))),(.val (.bool (g)))])], []⟩)))))
 else (bif ax BinOp.eql (aj (Value.int IntKind.i64 k) (Value.int IntKind.i64 (3:Int)))
 then (((@Eq (Nat) 0 0)∧
 lI (W) (H) ⟨true, [(.int .u32),(.int .i64)]⟩ (lk) (es) (ck) ⟨true, [(.int .u32),(.int .i64)]⟩ (lk2) (es2) (ck2))∧
 (∀s:S6,(TbJ (W) (BB) (s)→(((@Eq (Nat) 0 0)∧
 lJ (V) (J) (ai V) (ai J))∧
 Q (.val (.bool true)) ⟨[(.cells [(.map 1),(.map 2)]),(.map ⟨true, [(.int .u32),(.int .i64)]⟩ (s.1) (S6.es s) (S6.ck s)),(.map ⟨true, [(.int .u32),(.int .i64)]⟩ (s.2) (S6.es2 s) (S6.ck2 s)),(.cells [(.vec 7 (ai V) .none),(.vec 7 (ai BB) .none)]),(.cells [(.val (.int .i64 (k))),(.val (.int .u32 (a))),(.val (.int .i64 (n))),(.val (.int .i64 (AtV.o x))),(.vec 1 (iV (AtV.p x)) .none),(.val (.int .u32 (AtV.h x))),(.val (.int .i64 (AtV.m x))),(.val (.bool (AtV.hm x))),(.val (.bool (g)))])], []⟩))))
 else Q (.val (.bool true)) ⟨[(.cells [(.map 1),(.map 2)]),(.map ⟨true, [(.int .u32),(.int .i64)]⟩ (lk) (es) (ck)),(.map ⟨true, [(.int .u32),(.int .i64)]⟩ (lk2) (es2) (ck2)),(.cells [(.vec 7 (ai V) .none),(.vec 7 (ai J) .none)]),(.cells [(.val (.int .i64 (k))),(.val (.int .u32 (a))),(.val (.int .i64 (n))),(.val (.int .i64 (AtV.o x))),(.vec 1 (iV (AtV.p x)) .none),(.val (.int .u32 (AtV.h x))),(.val (.int .i64 (AtV.m x))),(.val (.bool (AtV.hm x))),(.val (.bool (g)))])], []⟩)))):=by kernel_rfl
theorem GU (L:Bs) (Q:TV→VT→Prop):aq Try.prog ac aL (aB [(999998, .dead,none)]) 300 (Hn L (au Try.prog kU 0)) 0 kU [.vec 9 L .none] ⟨[], []⟩ Q=
 (bif decide ((↑(List.length L):Int)>(120:Int))
 then Q (.val (.bool false)) ⟨[], []⟩
 else ((au Try.prog kU (0:Nat)=au Try.prog kU (0:Nat))∧
 (((@Eq (Option Nat) .none .none)∧
 ((@Eq (Nat) 0 0)∧
 ((@Eq (List Nat) [] [])∧
 (True  ∧
 ((@Eq (VT) ⟨[], []⟩ ⟨[], []⟩)∧
 ((@Eq (Bool) true true)∧
 (@Eq (List TV) [(.val (.bool false)),(.val (.int .i64 0)),(.vec 9 (L) .none),(.val (.int .i64 ((↑(List.length L):Int)))),(.val (.int .i64 0))] [(.val (.bool false)),(.val (.int .i64 0)),(.vec 9 (L) .none),(.val (.int .i64 ((↑(List.length L):Int)))),(.val (.int .i64 0))])))))))∧
 ((∀s:Int,(∀j:Int,Q (.val (.bool true)) ⟨[], []⟩))∧
 (∀s:Int,(∀j:Int,(∀c:List TV,Q (.val (.bool false)) ⟨[(.cells (c))], []⟩))))))):=by kernel_rfl
theorem zj (L:Bs) (k a n:Int) (x:AtV) (g:Bool) (s:Int) (j:Nat) (Q:Exit→List TV→VT→List Nat→Nat→Prop):vx Try.prog ac aL (aB [(999998, .dead,none),(13, .elt (tX k a n x g),none)]) 300 aE none 0 (b6 Try.prog kU 0) (aG 25 qw (tZ L s j)) ⟨[], []⟩ [] (cB qw Q)=
 (bif decide ((↑j:Int)<(↑(List.length L):Int))
 then (aU Try.prog (fun _=> .none) (.indexAddr 22 (.tmp 9) (.tmp 11)) [(9,(.vec 9 (L) .none)),(11,(.val (.int .i64 ((↑j:Int)))))] (.elt [(.val (.int .i64 (k))),(.val (.int .u32 (a))),(.val (.int .i64 (n))),(.val (.int .i64 (AtV.o x))),(.vec 1 (iV (AtV.p x)) .none),(.val (.int .u32 (AtV.h x))),(.val (.int .i64 (AtV.m x))),(.val (.bool (AtV.hm x))),(.val (.bool (g)))])∧
 (bif decide (IntKind.wrap IntKind.i64 (s+(↑(List.length (iV (AtV.p x))):Int))>(3000:Int))
 then Q .ret [(.val (.bool false)),(.val (.int .i64 (IntKind.wrap IntKind.i64 (s+(↑(List.length (iV (AtV.p x))):Int))))),(.vec 9 (L) .none),(.val (.int .i64 ((↑(List.length L):Int)))),(.val (.int .i64 ((↑j:Int))))] ⟨[(.cells [(.val (.int .i64 (k))),(.val (.int .u32 (a))),(.val (.int .i64 (n))),(.val (.int .i64 (AtV.o x))),(.vec 1 (iV (AtV.p x)) .none),(.val (.int .u32 (AtV.h x))),(.val (.int .i64 (AtV.m x))),(.val (.bool (AtV.hm x))),(.val (.bool (g)))])], []⟩ [] 25
 else Q .normal [(.val (.bool false)),(.val (.int .i64 (IntKind.wrap IntKind.i64 (s+(↑(List.length (iV (AtV.p x))):Int))))),(.vec 9 (L) .none),(.val (.int .i64 ((↑(List.length L):Int)))),(.val (.int .i64 (IntKind.wrap IntKind.i64 ((↑j:Int)+(1:Int)))))] ⟨[(.cells [(.val (.int .i64 (k))),(.val (.int .u32 (a))),(.val (.int .i64 (n))),(.val (.int .i64 (AtV.o x))),(.vec 1 (iV (AtV.p x)) .none),(.val (.int .u32 (AtV.h x))),(.val (.int .i64 (AtV.m x))),(.val (.bool (AtV.hm x))),(.val (.bool (g)))])], []⟩ [] 25))
 else Q (.exit 0) [(.val (.bool false)),(.val (.int .i64 (s))),(.vec 9 (L) .none),(.val (.int .i64 ((↑(List.length L):Int)))),(.val (.int .i64 ((↑j:Int))))] ⟨[], []⟩ [] 25):=by kernel_rfl
end
section
open Go.RowKit
set_option maxRecDepth 100000

section
variable {W H:List ak} {lk lk2:bQ} {es es2:bF} {ck ck2:Nat}
theorem TbJ.of {W H:List ak} {T:VT} (h:RibT W H T):∃s:S6,TbJ W H s∧T=dh s.lk s.lk2 s.es s.es2 s.ck s.ck2:=by
 obtain ⟨lk,lk2,es,es2,ck,ck2,rfl,h1,h2⟩:=h
 exact ⟨⟨lk,lk2,es,es2,ck,ck2⟩,⟨h1,h2⟩,rfl⟩
theorem lK (h:TbOk W lk es ck) (h2:TbOk H lk2 es2 ck2) {W' H' :List ak} {f:FuncId} {ys:List TV} {v:TV} (hv:VCx Try.prog ac 0 f ys (dh lk lk2 es es2 ck ck2) fun x T' =>x=v∧RibT W' H' T') (hy:av (bc [0,1,2]) (bc []) ys=ys) (hvr:∀f g,v.ren f g=v) (os:List VO) (tl:bA) (K:TV→VT→Prop)
    (hk:∀s:S6,TbJ W' H' s→K v ⟨.cells [.map 1, .map 2]:: .map kP s.lk s.es s.ck:: .map kP s.lk2 s.es2 s.ck2::os,tl⟩):VCx Try.prog ac 0 f ys ⟨.cells [.map 1, .map 2]:: .map kP lk es ck:: .map kP lk2 es2 ck2::os,tl⟩ K:=by
  have hg:VT.give ⟨.cells [.map 1, .map 2]:: .map kP lk es ck:: .map kP lk2 es2 ck2::os,tl⟩ [0,1,2] []=dh lk lk2 es es2 ck ck2:=by
    simp only [VT.give,List.map_cons,List.map_nil,List.getElem?_cons_zero,List.getElem?_cons_succ,Option.getD_some,h.ren,h2.ren,dh]
    rfl
  refine (VCx.lift (xs:=ys) [0,1,2] [] ay (by decide) List.nodup_nil (fun k hk=> ?_) (by simp) (fun _ _=>Nat.zero_le _) hy (by rw [hg];exact hv) (fun x T' hq=> ?_)).mono ?_
  · simp only [List.mem_cons,List.not_mem_nil,or_false] at hk
    rcases hk with rfl | rfl | rfl
    · exact ⟨_,rfl,rfl⟩
    · exact ⟨_,rfl,rfl⟩
    · exact ⟨_,rfl,rfl⟩
  · obtain ⟨_,s,_,rfl⟩:=(show _∧∃s:S6,TbJ W' H' s∧T' =dh s.lk s.lk2 s.es s.es2 s.ck s.ck2 from ⟨hq.1,TbJ.of hq.2⟩)
    exact ⟨Nat.le_refl 3,Nat.zero_le _⟩
  · rintro x T'' ⟨y,T',⟨rfl,hr⟩,rfl,rfl⟩
    obtain ⟨s,hs,rfl⟩:=TbJ.of hr
    have hb:VT.back ⟨.cells [.map 1, .map 2]:: .map kP lk es ck:: .map kP lk2 es2 ck2::os,tl⟩ [0,1,2] [] (dh s.lk s.lk2 s.es s.es2 s.ck s.ck2)=⟨.cells [.map 1, .map 2]:: .map kP s.lk s.es s.ck:: .map kP s.lk2 s.es2 s.ck2::os,tl⟩:=by
      simp only [VT.back,dh,List.length_cons,List.map_cons,List.map_nil,hs.1.ren,hs.2.ren,aV]
      simp [aV,VO.ren,TV.ren,av,aN]
    rw [hvr,hb]
    exact hk s hs
theorem qx (a n:Int) (x:AtV) (b:Bool) (f g:Nat→Option Nat):av f g (ei a n x b)=ei a n x b:=by
 simp only [ei,AtV.cells,List.cons_append,List.nil_append,av,TV.ren,cD,Tok.ren]
theorem E6 (W H:List ak) (a n:Int) (x:AtV):∀ro ys T K,BC W H a n x ro ys T K→VCx Try.prog ac ro vm ys T K:=by
 intro ro ys T K hw
 unfold BC at hw
 split at hw
 ·split at hw
  ·rename_i sh lk es ck sh2 lk2 es2 ck2 os hT
   obtain ⟨⟨rfl,⟨rfl,rfl,⟨h1,h2⟩,l1,l2⟩,rfl,rfl,hx⟩,hk⟩:=hw
   obtain ⟨objs,tl⟩:=T
   simp only at hT;subst hT
   exact lK h1 h2 (Et ⟨_,_,_,_,_,_,rfl,h1,h2⟩ (a,n) hx l1) (by simp only [av,TV.ren,AtV.ren',pG];rfl) (fun _ _=>rfl) os tl K hk
  ·exact hw.elim
 ·exact hw.elim
theorem E7 (W H:List ak) (a n:Int):∀ro ys T K,BD W H a n ro ys T K→VCx Try.prog ac ro vn ys T K:=by
 intro ro ys T K hw
 unfold BD at hw
 split at hw
 ·split at hw
  ·rename_i sh lk es ck sh2 lk2 es2 ck2 os hT
   obtain ⟨⟨rfl,⟨rfl,rfl,⟨h1,h2⟩,l1,l2⟩,rfl⟩,hk⟩:=hw
   obtain ⟨objs,tl⟩:=T
   simp only at hT;subst hT
   exact lK h1 h2 (Eu ⟨_,_,_,_,_,_,rfl,h1,h2⟩ (a,n)) rfl (fun _ _=>rfl) os tl K hk
  ·exact hw.elim
 ·exact hw.elim
theorem E8 (W H:List ak) (a n:Int) (x:AtV) (g:Bool):∀ro ys T K,BE W H a n x g ro ys T K→VCx Try.prog ac ro yE ys T K:=by
 intro ro ys T K hw
 unfold BE at hw
 split at hw
 ·split at hw
  ·rename_i sh lk es ck sh2 lk2 es2 ck2 os hT
   obtain ⟨⟨rfl,⟨rfl,rfl,⟨h1,h2⟩,l1,l2⟩,rfl,hx⟩,hk⟩:=hw
   obtain ⟨objs,tl⟩:=T
   simp only at hT;subst hT
   exact lK h1 h2 (Ev ⟨_,_,_,_,_,_,rfl,h1,h2⟩ (a,n) g hx l2) (by simp only [av,TV.ren,qx];rfl) (fun _ _=>rfl) os tl K hk
  ·exact hw.elim
 ·exact hw.elim
theorem E9 (W H:List ak):∀ro ys T K,BF W H ro ys T K→VCx Try.prog ac ro yF ys T K:=by
 intro ro ys T K hw
 unfold BF at hw
 split at hw
 ·split at hw
  ·rename_i sh lk es ck sh2 lk2 es2 ck2 os hT
   obtain ⟨⟨rfl,rfl,rfl,⟨h1,h2⟩,l1,l2⟩,hk⟩:=hw
   obtain ⟨objs,tl⟩:=T
   simp only at hT;subst hT
   exact lK h1 h2 (Ew ⟨_,_,_,_,_,_,rfl,h1,h2⟩) rfl (fun _ _=>rfl) os tl K hk
  ·exact hw.elim
 ·exact hw.elim
theorem t1 (W H:List ak) (f g:Nat→Option Nat):VO.ren f g (.cells [.vec 7 (W.map ap) .none, .vec 7 (H.map ap) .none])= .cells [.vec 7 (W.map ap) .none, .vec 7 (H.map ap) .none]:=by
 simp only [VO.ren,av,TV.ren,aS,Tok.ren]
theorem nq {V J V' J' :List ak} {f:FuncId} {ys ys1:List TV} {v:TV} {T:VT} {K:TV→VT→Prop} (hT:T.objs[3]?=some (.cells [.vec 7 (V.map ap) .none, .vec 7 (J.map ap) .none])) (hv:VCx Try.prog ac 0 f ys1 (jA V J) fun x T' =>x=v∧T' =jA V' J') (hy:av (bc [3]) (bc []) ys=ys1) (hvr:∀f g,v.ren f g=v)
  (hk:K v {T with objs:=T.objs.set 3 (.cells [.vec 7 (V'.map ap) .none, .vec 7 (J'.map ap) .none])}):VCx Try.prog ac 0 f ys T K:=by
 refine VCx.at1 (k:=3) ay (Nat.zero_le _) hT rfl (t1 V J _ _) hy (Q:=fun x o' l' =>x=v∧o' = .cells [.vec 7 (V'.map ap) .none, .vec 7 (J'.map ap) .none]∧l' = []) (hv.mono fun x T' ⟨h1,h2⟩=>⟨_,_,h2,h1,rfl,rfl⟩) ?_
 rintro x o' l' ⟨rfl,rfl,rfl⟩
 rw [t1,hvr,List.map_nil,List.append_nil]
 exact hk
theorem i3:bc [3] 3=some 0:=rfl
theorem Fa (W H:List ak) (a n:Int) (x:AtV):∀ro ys T K,BG W H a n x ro ys T K→VCx Try.prog ac ro yX ys T K:=by
 intro ro ys T K hw
 unfold BG at hw
 split at hw
 ·split at hw
  ·rename_i w h hT
   obtain ⟨⟨rfl,⟨rfl,rfl,r1,r2⟩,rfl,rfl,hx,hp⟩,hk⟩:=hw
   exact nq hT (EY (H:=H) r1 (a,n) hp hx) (by simp only [av,TV.ren,AtV.ren',pG];rfl) (fun _ _=>rfl) hk
  ·exact hw.elim
 ·exact hw.elim
theorem Fb (W H:List ak) (a n:Int):∀ro ys T K,BH W H a n ro ys T K→VCx Try.prog ac ro yY ys T K:=by
 intro ro ys T K hw
 unfold BH at hw
 split at hw
 ·split at hw
  ·rename_i w h hT
   obtain ⟨⟨rfl,⟨rfl,rfl,r1,r2⟩,rfl⟩,hk⟩:=hw
   exact nq hT (EZ (H:=H) r1 (a,n)) rfl (fun _ _=>rfl) hk
  ·exact hw.elim
 ·exact hw.elim
theorem Fc (W H:List ak) (a n:Int) (x:AtV) (g:Bool):∀ro ys T K,BI W H a n x g ro ys T K→VCx Try.prog ac ro yZ ys T K:=by
 intro ro ys T K hw
 unfold BI at hw
 split at hw
 ·split at hw
  ·rename_i w h hT
   obtain ⟨⟨rfl,⟨rfl,rfl,r1,r2⟩,rfl,hx,hp⟩,hk⟩:=hw
   exact nq hT (E0 (W:=W) r2 (a,n) g hp hx) (by simp only [av,TV.ren,qx];rfl) (fun _ _=>rfl) hk
  ·exact hw.elim
 ·exact hw.elim
theorem Fd (W H:List ak):∀ro ys T K,BJ W H ro ys T K→VCx Try.prog ac ro y0 ys T K:=by
 intro ro ys T K hw
 unfold BJ at hw
 split at hw
 ·split at hw
  ·rename_i w h hT
   obtain ⟨⟨rfl,rfl,rfl,r1,r2⟩,hk⟩:=hw
   exact nq hT (E1 (W:=W) (H:=H)) rfl (fun _ _=>rfl) hk
  ·exact hw.elim
 ·exact hw.elim
theorem HA (W H V J:List ak) (a n:Int) (x:AtV) (g:Bool):aT Try.prog ac (aD [(vm,BC W H a n x),(vn,BD W H a n),(yE,BE W H a n x g),(yF,BF W H),(yX,BG V J a n x),(yY,BH V J a n),(yZ,BI V J a n x g),(y0,BJ V J)]):=aQ fun q hq=>by
 rcases List.mem_cons.1 hq with rfl | hq;exact E6 _ _ _ _ _
 rcases List.mem_cons.1 hq with rfl | hq;exact E7 _ _ _ _
 rcases List.mem_cons.1 hq with rfl | hq;exact E8 _ _ _ _ _ _
 rcases List.mem_cons.1 hq with rfl | hq;exact E9 _ _
 rcases List.mem_cons.1 hq with rfl | hq;exact Fa _ _ _ _ _
 rcases List.mem_cons.1 hq with rfl | hq;exact Fb _ _ _ _
 rcases List.mem_cons.1 hq with rfl | hq;exact Fc _ _ _ _ _ _
 obtain rfl:=List.mem_singleton.1 hq;exact Fd _ _
def BO (W V:List ak) (t:dI):Bool:=if t.k=1 then decide (bo W t.p=bo V t.p) else true
theorem HB (x y:Bool):ax BinOp.eql (aj (.bool x) (.bool y))=decide (x=y):=by
 cases x<;>cases y<;>rfl
theorem kV {W H:List ak} (s:S6) (hs:TbJ W H s) (V J:List ak) (o:List VO):VT.keep ⟨(jX s.lk s.lk2 s.es s.es2 s.ck s.ck2 (ai V) (ai J)).objs++o, []⟩ 4 0=jX s.lk s.lk2 s.es s.es2 s.ck s.ck2 (ai V) (ai J):=by
 have e1:=hs.1.ren (an 4) (an 0)
 have e2:=hs.2.ren (an 4) (an 0)
 have e3:=t1 V J (an 4) (an 0)
 simp only [VT.keep,jX,ai,List.cons_append,List.nil_append,List.take_succ_cons,List.take_zero,List.map_cons,List.map_nil,e1,e2,e3]
 rfl
theorem zk {W H V J:List ak} (s:S6) (hs:TbJ W H s) (l1:W.length<1000) (l2:H.length<1000) (hV:bM V) (hJ:bM J) (t:dI) (ht:iu t):VCx Try.prog ac 0 rz [.ptr 0 0, .ptr 3 0, .agg (bk t)] (jX s.lk s.lk2 s.es s.es2 s.ck s.ck2 (ai V) (ai J)) fun x T' =>x= .val (.bool (BO W V t))∧∃s',TbJ (ek W t.k t.p.1 t.p.2 t.a) (en H t.k t.p.1 t.p.2 t.a t.g) s' ∧T' =jX s'.lk s'.lk2 s'.es s'.es2 s'.ck s'.ck2 (ai (ek V t.k t.p.1 t.p.2 t.a)) (ai (en J t.k t.p.1 t.p.2 t.a t.g)):=by
 obtain ⟨k,⟨a,n⟩,x,g⟩:=t
 obtain ⟨hp,hx⟩:=ht
 simp only at hp hx ⊢
 have hd:lI W H kP s.lk s.es s.ck kP s.lk2 s.es2 s.ck2:=⟨rfl,rfl,hs,l1,l2⟩
 have hm:lJ V J (ai V) (ai J):=⟨rfl,rfl,hV,hJ⟩
 refine VCx.keepQ 4 0 (Nat.le_refl _) (Nat.le_refl _) (am ae aa (HA W H V J a n x g) ah (GT W H V J s.lk s.lk2 s.es s.es2 s.ck s.ck2 k a n x g _) ?_)
 rw [jT,jT,jT,jT,jT,jT,HB]
 refine aA (fun h0=> ?_) (fun h0=>aA (fun h1=> ?_) (fun h1=>aA (fun h2=> ?_) (fun h2=>aA (fun h3=> ?_) (fun h3=> ?_))))
 ·have e0:=of_decide_eq_true h0
  subst e0
  refine ⟨⟨rfl,hd,rfl,rfl,hx⟩,fun s' hs' =>⟨⟨rfl,rfl,rfl,rfl,trivial⟩,⟨rfl,hm,rfl,rfl,hx,hp⟩, ?_,s',hs', ?_⟩⟩
  ·rw [decide_eq_true rfl];rfl
  ·exact kV s' hs' _ _ _
 ·have e0:=of_decide_eq_true h1
  subst e0
  refine ⟨⟨rfl,hd,rfl⟩,fun s' hs' =>⟨⟨rfl,rfl,trivial⟩,⟨rfl,hm,rfl⟩,rfl,s',hs', ?_⟩⟩
  exact kV s' hs' _ _ _
 ·have e0:=of_decide_eq_true h2
  subst e0
  refine ⟨⟨rfl,hd,rfl,hx⟩,fun s' hs' =>⟨⟨rfl,rfl,trivial⟩,⟨rfl,hm,rfl,hx,hp⟩, ?_,s',hs', ?_⟩⟩
  ·rw [decide_eq_true rfl];rfl
  ·exact kV s' hs' _ _ _
 ·have e0:=of_decide_eq_true h3
  subst e0
  refine ⟨⟨rfl,hd⟩,fun s' hs' =>⟨⟨rfl,hm⟩,rfl,s',hs', ?_⟩⟩
  exact kV s' hs' V [] _
 ·have d0:=of_decide_eq_false h0
  have d1:=of_decide_eq_false h1
  have d2:=of_decide_eq_false h2
  have d3:=of_decide_eq_false h3
  refine ⟨?_,s, ?_, ?_⟩
  ·simp only [BO,if_neg d1];rfl
  ·simp only [ek,en,if_neg d0,if_neg d1,if_neg d2,if_neg d3];exact hs
  ·simp only [ek,en,if_neg d0,if_neg d1,if_neg d2,if_neg d3]
   exact kV s hs V J _
end
end
section
open Go.RowKit
set_option maxRecDepth 100000

theorem VCx.cellsIn {P:Program} {G:az} {f:FuncId} {xs:List TV} {T:VT} {Q:TV→VT→Prop} {i:Nat} {cs cs' :List TV} (hi:T.objs[i]?=some (.cells cs)) (hl:TVleL cs cs') (h:VCx P G 0 f xs {T with objs:=T.objs.set i (.cells cs')} Q):VCx P G 0 f xs T Q:=by
 intro g w us r hG hx
 have r' :=r.objLe hi rfl (o' := .cells cs') rfl fun b ⟨us,t,h1,h2,h3⟩=>⟨us,t,h1,hl.vrs h2,h3⟩
 refine Calls.mono (h g w us r' hG hx) ?_
 rintro e w' ⟨v,x,g',T',he,hq,e',r2,hv,hfx⟩
 refine ⟨v,x,g',T',he,hq,e',r2,hv,⟨?_,fun i hi=>absurd hi (Nat.not_lt_zero i),fun i o b hi=>absurd hi (Nat.not_lt_zero i)⟩⟩
 have:=hfx.len
 simpa using this
theorem C0 {W V:List ak} (h:gO W) (k:gO V) (he:∀p,aH W p=aH V p):W=V:=by
 have hp:W.Perm V:=by
  have nd:∀{U:List ak},gO U→U.Nodup:=fun hu=>List.Pairwise.imp (fun {a b} hab e=>by rw [e] at hab;exact cG _ hab) hu
  refine (List.perm_ext_iff_of_nodup (nd h) (nd k)).2 fun r=>⟨fun hr=> ?_,fun hr=> ?_⟩
  ·have:=fS h (p:=r.1) (a:=r.2) hr
   rw [he] at this
   exact cE this
  ·have:=fS k (p:=r.1) (a:=r.2) hr
   rw [←he] at this
   exact cE this
 have asy:∀a b:ak,a∈W→b∈V→bY a.1 b.1→bY b.1 a.1→a=b:=fun a b _ _ h1 h2=>absurd (fE h1 h2) (cG _)
 exact List.Perm.eq_of_pairwise (le:=fun r s:ak=>bY r.1 s.1) asy h k hp
theorem t2 {a b:AtV} (h:fj a=fj b):a=b:=by
 obtain ⟨o,p,h1,m,hm⟩:=a
 obtain ⟨o2,p2,h2,m2,hm2⟩:=b
 simp only [fj,AtV.cells] at h
 injection h with h
 simp only [List.cons.injEq,TV.val.injEq,Value.int.injEq,TV.vec.injEq,Value.bool.injEq,true_and,and_true] at h
 obtain ⟨rfl,h3,rfl,rfl,rfl⟩:=h
 have h4:=congrArg vh h3
 rw [ik,ik] at h4
 rw [h4]
theorem TbOk.uniq {W V:List ak} {lk:bQ} {es es2:bF} {ck ck2:Nat} (h:TbOk W lk es ck) (k:TbOk V lk es2 ck2):W=V:=by
 refine C0 h.srt k.srt fun p=> ?_
 have e:=(h.look p).symm.trans (k.look p)
 cases h1:aH W p<;>cases h2:aH V p<;>rw [h1,h2] at e
 ·cases e
 ·cases e
 ·injection e with e;rw [t2 e]
theorem RbAt.uniq {W H V J:List ak} {T:VT} (h:RbAt W H T) (k:RbAt V J T):W=V∧H=J:=by
 obtain ⟨s,os,h1,h2,_⟩:=h
 obtain ⟨s',os',k1,k2,_⟩:=k
 rw [h1] at k1
 simp only [List.cons_append,List.nil_append,List.cons.injEq,VO.map.injEq,true_and] at k1
 obtain ⟨⟨a1,a2,a3⟩,⟨b1,b2,b3⟩,_⟩:=k1
 exact ⟨h2.1.uniq (a1▸k2.1),h2.2.uniq (b1▸k2.2)⟩
theorem RbAt.of {W H:List ak} {s:S6} (hs:TbJ W H s) (l1:W.length<1000) (l2:H.length<1000) (os:List VO) (tl:bA):RbAt W H ⟨.map kP s.lk s.es s.ck:: .map kP s.lk2 s.es2 s.ck2:: .cells [.map 0, .map 1]::os,tl⟩:=⟨s,os,rfl,hs,l1,l2⟩
section
variable {W H:List ak}
theorem C1 {s:S6} (hs:TbJ W H s) (os:List VO) (tl:bA):VT.give ⟨.map kP s.lk s.es s.ck:: .map kP s.lk2 s.es2 s.ck2:: .cells [.map 0, .map 1]::os,tl⟩ [2,0,1] []=dh s.lk s.lk2 s.es s.es2 s.ck s.ck2:=by
 simp only [VT.give,List.map_cons,List.map_nil,List.getElem?_cons_zero,List.getElem?_cons_succ,Option.getD_some,hs.1.ren,hs.2.ren,dh]
 rfl
theorem C2 {V J:List ak} (s:S6) {s' :S6} (hs:TbJ V J s') (os:List VO) (tl:bA):VT.back ⟨.map kP s.lk s.es s.ck:: .map kP s.lk2 s.es2 s.ck2:: .cells [.map 0, .map 1]::os,tl⟩ [2,0,1] [] (dh s'.lk s'.lk2 s'.es s'.es2 s'.ck s'.ck2)=⟨.map kP s'.lk s'.es s'.ck:: .map kP s'.lk2 s'.es2 s'.ck2:: .cells [.map 0, .map 1]::os,tl⟩:=by
 simp only [VT.back,dh,List.length_cons,List.map_cons,List.map_nil,hs.1.ren,hs.2.ren,aV]
 simp [aV,VO.ren,TV.ren,av,aN]
theorem gT {T:VT} (h:RbAt W H T) {f:FuncId} {ys ys1:List TV} {v:TV} (hv:∀s:S6,TbJ W H s→VCx Try.prog ac 0 f ys1 (dh s.lk s.lk2 s.es s.es2 s.ck s.ck2) fun x T' =>x=v∧T' =dh s.lk s.lk2 s.es s.es2 s.ck s.ck2) (hy:av (bc [2,0,1]) (bc []) ys=ys1) (hvr:∀f g,v.ren f g=v) (K:TV→VT→Prop) (hk:K v T):VCx Try.prog ac 0 f ys T K:=by
 obtain ⟨s,os,hT,hs,_⟩:=h
 obtain ⟨objs,tl⟩:=T
 simp only at hT;subst hT
 refine (VCx.lift (xs:=ys1) [2,0,1] [] ay (by decide) List.nodup_nil (fun k hk=> ?_) (by simp) (fun _ _=>Nat.zero_le _) hy (by
  show VCx _ _ 0 f ys1 (VT.give ⟨.map kP s.lk s.es s.ck:: .map kP s.lk2 s.es2 s.ck2:: .cells [.map 0, .map 1]::os,tl⟩ [2,0,1] []) _
  rw [C1 hs];exact hv s hs) (fun x T' hq=> ?_)).mono ?_
 ·simp only [List.mem_cons,List.not_mem_nil,or_false] at hk
  rcases hk with rfl | rfl | rfl
  ·exact ⟨_,rfl,rfl⟩
  ·exact ⟨_,rfl,rfl⟩
  ·exact ⟨_,rfl,rfl⟩
 ·rw [hq.2];exact ⟨Nat.le_refl 3,Nat.zero_le _⟩
 ·rintro x T'' ⟨y,T',⟨rfl,rfl⟩,rfl,rfl⟩
  have hb:=C2 s hs os tl
  simp only [List.cons_append,List.nil_append] at hk ⊢
  rw [hvr,hb]
  exact hk
theorem RibT.ofJ {s:S6} (hs:TbJ W H s):RibT W H (dh s.lk s.lk2 s.es s.es2 s.ck s.ck2):=⟨_,_,_,_,_,_,rfl,hs.1,hs.2⟩
theorem Fe (W H:List ak) (y:AtV) (b:Bool):∀ro ys T K,w9 W H y b ro ys T K→VCx Try.prog ac ro yG ys T K:=by
 intro ro ys T K hw
 unfold w9 at hw
 split at hw
 ·obtain ⟨⟨rfl,h,p,rfl,rfl,rfl⟩,hk⟩:=hw
  exact gT h (fun s hs=>Ey (RibT.ofJ hs) p) rfl (fun f g=>by simp only [TV.ren,av,AtV.ren']) K hk
 ·exact hw.elim
theorem Ff (W H:List ak) (y:AtV) (b:Bool):∀ro ys T K,xa W H y b ro ys T K→VCx Try.prog ac ro yH ys T K:=by
 intro ro ys T K hw
 unfold xa at hw
 split at hw
 ·obtain ⟨⟨rfl,h,p,rfl,rfl,rfl⟩,hk⟩:=hw
  exact gT h (fun s hs=>Ez (RibT.ofJ hs) p) rfl (fun f g=>by simp only [TV.ren,av,AtV.ren']) K hk
 ·exact hw.elim
theorem Fg:∀ro ys T K,BK ro ys T K→VCx Try.prog ac ro nN ys T K:=by
 intro ro ys T K hw
 unfold BK at hw
 split at hw
 ·obtain ⟨⟨rfl,W,H,h⟩,hk⟩:=hw
  exact gT h (fun s hs=>yR (RibT.ofJ hs)) rfl (fun f g=>by simp only [TV.ren,de,Tok.ren]) K (hk _ ⟨W,H,h,rfl⟩)
 ·exact hw.elim
theorem Fh:∀ro ys T K,BL ro ys T K→VCx Try.prog ac ro nO ys T K:=by
 intro ro ys T K hw
 unfold BL at hw
 split at hw
 ·obtain ⟨⟨rfl,W,H,h⟩,hk⟩:=hw
  exact gT h (fun s hs=>yU (RibT.ofJ hs)) rfl (fun f g=>by simp only [TV.ren,dR,Tok.ren]) K (hk _ ⟨W,H,h,rfl⟩)
 ·exact hw.elim
theorem Fi:∀ro ys T K,BM ro ys T K→VCx Try.prog ac ro yM ys T K:=by
 intro ro ys T K hw
 unfold BM at hw
 split at hw
 ·obtain ⟨⟨rfl,W,H,h⟩,hk⟩:=hw
  exact gT h (fun s hs=>EQ (RibT.ofJ hs)) rfl (fun f g=>rfl) K (hk _ ⟨W,H,h,rfl⟩)
 ·exact hw.elim
theorem Fj:∀ro ys T K,BN ro ys T K→VCx Try.prog ac ro yI ys T K:=by
 intro ro ys T K hw
 unfold BN at hw
 split at hw
 ·obtain ⟨⟨rfl,W,H,h⟩,hk⟩:=hw
  exact gT h (fun s hs=>EA (RibT.ofJ hs)) rfl (fun f g=>rfl) K (hk _ _ ⟨W,H,h,rfl,rfl⟩)
 ·exact hw.elim
end
end
section
open Go.RowKit
set_option maxRecDepth 100000

theorem qy (t:dI) (f g:Nat→Option Nat):av f g (bk t)=bk t:=by
 simp only [bk,tX,av,TV.ren,qx]
theorem Fk:∃(inf:TypeInfo),Try.prog.info? 36=some inf∧inf.size=9:=⟨(Try.prog.info? 36).getD default,by kernel_rfl,by kernel_rfl⟩
theorem xc {l:List dI} {j:Nat} {t:dI} (x i:Nat) (hne:Nat.beq x i=false) (hp:l[j]?=some t):aU Try.prog ac (.indexAddr 22 (.tmp x) (.tmp i)) [(x, .vec 9 (l.map bk) .none),(i, .val (.int .i64 (j:Int)))] (.elt (bk t)):=by
 obtain ⟨inf,i1,i2⟩:=Fk
 exact dQ (P:=Try.prog) (G:=ac) (inf:=inf) (t:=22) (x:= .tmp x) (i:= .tmp i) (l:= [(x, .vec 9 (l.map bk) .none),(i, .val (.int .i64 (j:Int)))]) (es:=l.map bk) (tok:= .none) (k:= .i64) (z:=(j:Int)) (cs:=bk t) Try.underlying22 i1 (by rw [i2];simp [aO,bS]) (by simp [aO,bS,hne]) (by omega) (by simp [hp])
theorem jB (f g:Nat→Option Nat):∀l:List dI,c8 f g (l.map bk)=l.map bk
 | []=>rfl
 | a::l=>by simp only [List.map_cons,c8,qy,jB f g l]
theorem C3 {l:List dI} (hl:l.length≤9223372036854775807):cK Try.prog ac (Hn (l.map bk) (au Try.prog kU 0)):=bz fun q hq=>by
  obtain rfl:=List.mem_singleton.1 hq
  refine bP fun K hK=> ?_
  have hlen:(l.map bk).length=l.length:=List.length_map _
  refine da (f:=kU) (id:=0) (by kernel_rfl) 25 qw (fun s:Nat × Int=>l.length-s.1) (fun s=>tZ (l.map bk) s.2 s.1) (fun _=>⟨[], []⟩) (fun s=>s.1≤l.length) 0 0 (fun _ _=>⟨Nat.le_refl _,Nat.le_refl _⟩)
    (fun e vs T=>∃(s j:Int) (c:List TV),vs=tZ (l.map bk) s j∧((e= .normal∧T=⟨[], []⟩)∨(e= .ret∧T=⟨[.cells c], []⟩))) (fun st hj=> ?_) (0,0) (Nat.zero_le _) K ?_
  · obtain ⟨j,s⟩:=st
    simp only at hj
    by_cases hlt:j<l.length
    · have hr:=List.getElem?_eq_getElem hlt
      generalize l[j]=t at hr
      refine bq ae aa ag ah (zj (l.map bk) t.k t.p.1 t.p.2 t.a t.g s j _) ?_
      refine bB (decide_eq_true (by rw [hlen];omega)) ⟨xc 9 11 rfl hr,aA (fun h=> ?_) (fun h=> ?_)⟩
      · exact ⟨rfl,rfl,_,_,_,rfl, .inr ⟨rfl,rfl⟩⟩
      · refine ⟨rfl,rfl,(j+1,IntKind.wrap .i64 (s+((iV t.a.p).length:Int))),hlt,by show l.length-(j+1)<l.length-j;omega, .inr ⟨rfl, ?_⟩⟩
        rw [jr hlt hl]
        simp only [tZ,av,TV.ren,jB,Tok.ren]
    · have hj2:j=l.length:=by omega
      subst hj2
      refine bq ae aa ag ah (zj (l.map bk) 0 0 0 dp false s l.length _) ?_
      exact bh (decide_eq_false (by rw [hlen];omega)) ⟨rfl,rfl,s,_, [],rfl, .inl ⟨rfl,rfl⟩⟩
  · rintro e vs T ⟨s,j,c,rfl,⟨rfl,rfl⟩ | ⟨rfl,rfl⟩⟩
    · exact hK.1 s j
    · exact hK.2 s j c
theorem Fl {l:List dI} (hl:l.length≤9223372036854775807):VCx Try.prog ac 0 kU [.vec 9 (l.map bk) .none] ⟨[], []⟩ fun x T' =>(∃b,oz (l.map bk) b∧x= .val (.bool b))∧T' =⟨[], []⟩:=by
 have hlen:(l.map bk).length=l.length:=List.length_map _
 refine VCx.keepQ 0 0 (Nat.le_refl _) (Nat.le_refl _) (am ae aa ag (C3 hl) (GU (l.map bk) _) (aA (fun h=> ?_) (fun h=>⟨rfl,⟨rfl,rfl,rfl,trivial,rfl,rfl,rfl⟩,fun s j=> ?_,fun s j c=> ?_⟩)))
 ·exact ⟨⟨false,fun h=>(by cases h),rfl⟩,rfl⟩
 ·exact ⟨⟨true,fun _=>by have:=of_decide_eq_false h;omega,rfl⟩,rfl⟩
 ·exact ⟨⟨false,fun h=>(by cases h),rfl⟩,rfl⟩
theorem zm:∀ro ys T K,vC ro ys T K→VCx Try.prog ac ro kU ys T K:=by
 intro ro ys T K hw
 unfold vC at hw
 split at hw
 ·obtain ⟨⟨l,rfl,hl⟩,hk⟩:=hw
  refine VCx.looseAny ay (Y:=fun x=>∃b,oz (l.map bk) b∧x= .val (.bool b)) (Fl hl) (by simp [co]) (by simp only [av,TV.ren,jB,Tok.ren]) (fun y hy f g=> ?_) (fun y hy=> ?_)
  ·obtain ⟨b,_,rfl⟩:=hy;rfl
  ·obtain ⟨b,hb,rfl⟩:=hy
   exact hk b hb
 ·exact hw.elim
end
section
open Go.RowKit
set_option maxRecDepth 100000

def lW (W:List ak):Prop:=∀r∈W,gt r.1.1 r.1.2=true∧cL r.2=true
theorem vD {W:List ak} (h:lW W) {x:ak} (hx:gt x.1.1 x.1.2=true∧cL x.2=true):lW (cc W x):=fun r hr=>by
 rcases ej.1 hr with rfl | ⟨hr,_⟩
 ·exact hx
 ·exact h r hr
theorem pH {W:List ak} (h:lW W) (p:Px):lW (aC W p):=fun r hr=>h r (cM.1 hr).1
theorem Fm {W:List ak} (h:lW W) (t:dI):lW (ek W t.k t.p.1 t.p.2 t.a):=by
 unfold ek
 split
 ·unfold dU
  cases hg:cN (t.p.1,t.p.2) t.a with
  | false=>exact h
  | true=>
   unfold cN at hg
   rw [Bool.and_eq_true] at hg
   exact vD h hg
 ·split
  ·exact pH h _
  ·exact h
theorem Fo {H:List ak} (h:lW H) (p:Px) (a:AtV) (g:Bool):lW (eU H p a g):=by
 unfold eU
 cases hc:gu p a g with
 | false=>exact h
 | true=>
  cases g with
  | true=>exact pH h _
  | false=>
   unfold gu at hc
   rw [Bool.and_eq_true] at hc
   exact vD h hc
theorem Fp {H:List ak} (h:lW H) (t:dI):lW (en H t.k t.p.1 t.p.2 t.a t.g):=by
 unfold en
 split
 ·exact Fo h _ _ _
 ·split
  ·exact fun r hr=>by cases hr
  ·exact h
def bs (l:List dI):List ak:=l.foldl (fun W t=>ek W t.k t.p.1 t.p.2 t.a) []
def bt (l:List dI):List ak:=l.foldl (fun H t=>en H t.k t.p.1 t.p.2 t.a t.g) []
theorem mT (l:List dI) (t:dI):bs (l++ [t])=ek (bs l) t.k t.p.1 t.p.2 t.a:=by unfold bs;rw [List.foldl_append];rfl
theorem mU (l:List dI) (t:dI):bt (l++ [t])=en (bt l) t.k t.p.1 t.p.2 t.a t.g:=by unfold bt;rw [List.foldl_append];rfl
theorem zn {α:Type} {P:List α→Prop} (h0:P []) (h1:∀l a,P l→P (l++ [a])) (l:List α):P l:=by
 have:∀n,∀l:List α,l.length=n→P l:=by
  intro n
  induction n with
  | zero=>intro l hl;rw [List.eq_nil_of_length_eq_zero hl];exact h0
  | succ n ih=>
   intro l hl
   have hne:l≠ []:=fun e=>by rw [e] at hl;cases hl
   rw [←List.dropLast_concat_getLast hne]
   exact h1 _ _ (ih _ (by rw [List.length_dropLast];omega))
 exact this _ l rfl
theorem C4 (W:List ak) (t:dI):(ek W t.k t.p.1 t.p.2 t.a).length≤W.length+1:=by
 unfold ek
 split
 ·unfold dU
  cases cN (t.p.1,t.p.2) t.a
  ·exact Nat.le_succ _
  ·exact ov W _
 ·split
  ·exact Nat.le_succ_of_le (eM _ _)
  ·exact Nat.le_succ _
theorem C5 (H:List ak) (p:Px) (a:AtV) (g:Bool):(eU H p a g).length≤H.length+1:=by
 unfold eU
 cases gu p a g
 ·exact Nat.le_succ _
 ·cases g
  ·exact ov H _
  ·exact Nat.le_succ_of_le (eM _ _)
theorem C6 (H:List ak) (t:dI):(en H t.k t.p.1 t.p.2 t.a t.g).length≤H.length+1:=by
 unfold en
 split
 ·exact C5 _ _ _ _
 ·split
  ·exact Nat.zero_le _
  ·exact Nat.le_succ _
theorem mV (l:List dI):(lW (bs l)∧lW (bt l))∧(bs l).length≤l.length∧(bt l).length≤l.length:=by
 induction l using zn with
 | h0=>exact ⟨⟨fun r h=>(by cases h),fun r h=>(by cases h)⟩,Nat.le_refl _,Nat.le_refl _⟩
 | h1 l t ih=>
  obtain ⟨⟨h1,h2⟩,h3,h4⟩:=ih
  rw [mT,mU]
  have k1:=C4 (bs l) t
  have k2:=C6 (bt l) t
  refine ⟨⟨Fm h1 t,Fp h2 t⟩, ?_, ?_⟩
  ·simp only [List.length_append,List.length_cons,List.length_nil];omega
  ·simp only [List.length_append,List.length_cons,List.length_nil];omega
theorem zo {W H:List ak} {r:ak}:r∈br W H ↔ r∈W∧aH H r.1≠some r.2:=by
 unfold br
 rw [List.mem_filter]
 simp
end
section
open Go.RowKit
set_option maxRecDepth 100000

theorem BP {l:List Px} {j:Nat} {p:Px} (x i:Nat) (hne:Nat.beq x i=false) (hp:l[j]?=some p):aU Try.prog ac (.indexAddr 42 (.tmp x) (.tmp i)) [(x, .vec 2 (l.map aw) .none),(i, .val (.int .i64 (j:Int)))] (.elt (aw p)):=by
 obtain ⟨inf,z,i1,i2,i3,i4,i5⟩:=mN
 exact dQ (P:=Try.prog) (G:=ac) (inf:=inf) (t:=42) (x:= .tmp x) (i:= .tmp i) (l:= [(x, .vec 2 (l.map aw) .none),(i, .val (.int .i64 (j:Int)))]) (es:=l.map aw) (tok:= .none) (k:= .i64) (z:=(j:Int)) (cs:=aw p) Try.underlying42 i1 (by rw [i2];simp [aO,bS]) (by simp [aO,bS,hne]) (by omega) (by simp [hp])
theorem GV {l:List ak} {j:Nat} {p:ak} (x i:Nat) (hne:Nat.beq x i=false) (hp:l[j]?=some p):aU Try.prog ac (.indexAddr 48 (.tmp x) (.tmp i)) [(x, .vec 8 (l.map bd) .none),(i, .val (.int .i64 (j:Int)))] (.elt (bd p)):=by
 obtain ⟨inf,z,i1,i2,i3,i4,i5⟩:=yT
 exact dQ (P:=Try.prog) (G:=ac) (inf:=inf) (t:=48) (x:= .tmp x) (i:= .tmp i) (l:= [(x, .vec 8 (l.map bd) .none),(i, .val (.int .i64 (j:Int)))]) (es:=l.map bd) (tok:= .none) (k:= .i64) (z:=(j:Int)) (cs:=bd p) Try.underlying48 i1 (by rw [i2];simp [aO,bS]) (by simp [aO,bS,hne]) (by omega) (by simp [hp])
section
variable {l:List dI}
variable {W H:List ak}
theorem t6 {W:List ak} {lk:bQ} {es:bF} {ck:Nat} (h:TbOk W lk es ck) (p:Px):(bR W p).p.length≤2000000:=by
 unfold bR
 cases hf:aH W p with
 | none=>exact Nat.zero_le _
 | some a=>exact h.okp _ (cE hf)
theorem HD (b:Bool):ax BinOp.neq (aj (.bool b) (.bool b))=false:=by cases b<;>rfl
end
end
section
open Go.RowKit
set_option maxRecDepth 100000

theorem vE:VCx Try.prog ac 0 vB [] ⟨[], []⟩ eb:=yj ae aa (f:=vB) (X:=True) (by kernel_rfl) trivial
section
variable {l:List dI}
def H1:bu:=fun _ _ _ _ _ _=>False
theorem GW:aT Try.prog ac (aD [(kU,vC),(vB,nl)]):=aQ fun q hq=>by
 rcases List.mem_cons.1 hq with rfl | hq;exact zm
 obtain rfl:=List.mem_singleton.1 hq;exact s3 ay vE
theorem zp (T:VT):eb (.val (.bool true)) T:=by
 first | exact trivial | exact ⟨rfl,trivial⟩ | rfl | (unfold eb;simp)
end
end
section
open Go.RowKit

abbrev mW:=51
abbrev nR:=19
abbrev fJ:=4
def A7 (L:Bs):Prop:=∃W:List ak,L=W.map ap∧bM W
def A8 (L:Bs) (a n:Int) (y:AtV) (b:Bool):Prop:=∀W:List ak,L=W.map ap→y=bR W (a,n)∧b=bo W (a,n)
def t7 (W H:List ak):Bs:=(bx W H).map aw
def t8 (W H:List ak):Bs:=(br W H).map bd
def Fq (W H:List ak):Bool:=iK W H
def oA (W H:List ak) (T:VT):Prop:=(∃(o0 o1 o2:VO) (os:List VO),T.objs=o0::o1::o2:: .cells [.vec 7 (ai W) .none, .vec 7 (ai H) .none]::os)∧bM W∧bM H
def Fr (L M:Bs):Prop:=∃l:List Px,L=l.map aw∧M=l.map aw∧l.length≤2000000
def Fs (L M:Bs):Prop:=∃l:List ak,L=l.map bd∧M=l.map bd∧l.length≤2000000∧∀r∈l,r.2.p.length≤2000000
def Ft (L:Bs):Prop:=∃l:List ak,L=l.map bd∧l.length≤2000000
def Fu (T:VT) (L:Bs):Prop:=∃W H:List ak,T=dw (ai W) (ai H)∧bM W∧bM H∧L=t7 W H
def Fv (T:VT) (L:Bs):Prop:=∃W H:List ak,T=dw (ai W) (ai H)∧bM W∧bM H∧L=t8 W H
def mX:List Nat:= [0,3,11,12,13]
def gC (L:Bs) (x:TV) (j:Int):List TV:= [.ptr 0 0,x, .vec 7 L .none, .val (.int .i64 L.length), .val (.int .i64 j)]
def iq (xw xh:Bs) (tl:bA):VT:=⟨[.cells [.vec 7 xw .none, .vec 7 xh .none]],tl⟩
def BQ (n:Nat) (W H L:Bs) (x:TV) (tl:bA) (c0:Code):Nat→Option (bu × Code):=cw [(0,dE n mX [] (gC L gz 0) (iq W H []) (fun K=>K .normal (aG n mX (gC L x L.length)) (iq W H tl) []),c0)]
def Fw (L:Bs):aJ:=fun ro ys T K=>match ys with
 | [.ptr 0 0]=>((@Eq Nat ro 0)∧Fu T L)∧K (.vec 2 L .none) T
 | _=>ar 91 default ys
def Fx (L:Bs):aJ:=fun ro ys T K=>match ys with
 | [.ptr 0 0]=>((@Eq Nat ro 0)∧Fv T L)∧K (.vec 8 L .none) T
 | _=>ar 91 default ys
def mY:List Nat:= [0,1,12,13]
def lX (k:Nat) (L:Bs) (j:Int):List TV:= [.vec k L .none, .vec k L .none, .val (.int .i64 L.length), .val (.int .i64 j)]
def BS (n k:Nat) (L:Bs) (c0:Code):Nat→Option (bu × Code):=cw [(0,dE n mY [] (lX k L 0) ⟨[], []⟩ (fun K=>K .normal (aG n mY (lX k L L.length)) ⟨[], []⟩ []),c0)]
def ub:List Nat:= [3,6,7,8]
def uc (L:Bs) (x:TV) (j:Int):List TV:= [x, .vec 8 L .none, .val (.int .i64 L.length), .val (.int .i64 j)]
def Ho (L:Bs) (x:TV) (tl:bA) (c0:Code):Nat→Option (bu × Code):=cw [(0,dE 19 ub [] (uc L gz 0) ⟨[], []⟩ (fun K=>K .normal (aG 19 ub (uc L x L.length)) ⟨[],tl⟩ []),c0)]
def BT:aJ:=fun _ ys T K=>match ys with
 | [.vec 7 L _, .agg [.val (.int .u32 a), .val (.int .i64 n)]]=>A7 L∧∀(y:AtV) (b:Bool),A8 L a n y b→K (.tup [.agg y.cells, .val (.bool b)]) T
 | _=>ar 84 default ys
def BU (W H:List ak):aJ:=fun ro ys T K=>match ys with
 | [.ptr 3 0]=>((@Eq Nat ro 0)∧oA W H T)∧K (.vec 2 (t7 W H) .none) T
 | _=>ar 91 default ys
def BV (W H:List ak):aJ:=fun ro ys T K=>match ys with
 | [.ptr 3 0]=>((@Eq Nat ro 0)∧oA W H T)∧K (.vec 8 (t8 W H) .none) T
 | _=>ar 91 default ys
def BW (W H:List ak):aJ:=fun ro ys T K=>match ys with
 | [.ptr 3 0]=>((@Eq Nat ro 0)∧oA W H T)∧K (.val (.bool (Fq W H))) T
 | _=>ar 91 default ys
def BX:aJ:=fun _ ys T K=>match ys with
 | [.vec 2 L _, .vec 2 M _]=>Fr L M∧K (.val (.bool true)) T
 | _=>ar 84 default ys
def BY:aJ:=fun _ ys T K=>match ys with
 | [.vec 8 L _, .vec 8 M _]=>Fs L M∧K (.val (.bool true)) T
 | _=>ar 84 default ys
def BZ:aJ:=fun _ ys T K=>match ys with
 | [.vec 8 L _]=>Ft L∧K (.vec 8 L .none) T
 | _=>ar 84 default ys
def fK (lk lk2:bQ) (es es2:bF) (ck ck2:Nat) (w h:Bs):VT:=⟨[.map kP lk es ck, .map kP lk2 es2 ck2, .cells [.map 0, .map 1], .cells [.vec 7 w .none, .vec 7 h .none]], []⟩
theorem GX (W H:Bs) (x:TV) (tl:bA) (Q:TV→VT→Prop):aq Try.prog ac aL (aB [(999998, .dead,none)]) 300 (BQ 36 W H H x tl (au Try.prog kR 0)) 0 kR [.ptr 0 0] (dw W H) Q=
 ((au Try.prog kR (0:Nat)=au Try.prog kR (0:Nat))∧
 (((@Eq (Option Nat) .none .none)∧
 ((@Eq (Nat) 0 0)∧
 ((@Eq (List Nat) [] [])∧
 (True  ∧
 ((@Eq (VT) ⟨[(.cells [(.vec 7 (W) .none),(.vec 7 (H) .none)])], []⟩ ⟨[(.cells [(.vec 7 (W) .none),(.vec 7 (H) .none)])], []⟩)∧
 ((@Eq (Bool) true true)∧
 (@Eq (List TV) [(.ptr 0 0),(.val (.slice .none 0 0)),(.vec 7 (H) .none),(.val (.int .i64 ((↑(List.length H):Int)))),(.val (.int .i64 0))] [(.ptr 0 0),(.val (.slice .none 0 0)),(.vec 7 (H) .none),(.val (.int .i64 ((↑(List.length H):Int)))),(.val (.int .i64 0))])))))))∧
 Q (x) ⟨[(.cells [(.vec 7 (W) .none),(.vec 7 (H) .none)])],(tl)⟩)):=by kernel_rfl
theorem zq (W H:Bs) (c m:Int) (y v:AtV) (b:Bool) (x1:TV) (l1:Bs) (tk1:Tok) (tl tl2:bA) (j:Nat) (Q:Exit→List TV→VT→List Nat→Nat→Prop):vx Try.prog ac (aD [(gf,nP v b)]) (aB [(999998, .dead,none),(15, .elt (iy c m y),none),(33, .vec 2 l1 tk1,some fun T=>{T with tails:=tl2})]) 300 aE none 0 (b6 Try.prog kR 0) (aG 36 mX (gC H x1 j)) (iq W H tl) [] (cB mX Q)=
 (bif decide ((↑j:Int)<(↑(List.length H):Int))
 then (aU Try.prog (fun _=> .none) (.indexAddr 39 (.tmp 11) (.tmp 13)) [(11,(.vec 7 (H) .none)),(13,(.val (.int .i64 ((↑j:Int)))))] (.elt [(.val (.int .u32 (c))),(.val (.int .i64 (m))),(.val (.int .i64 (AtV.o y))),(.vec 1 (iV (AtV.p y)) .none),(.val (.int .u32 (AtV.h y))),(.val (.int .i64 (AtV.m y))),(.val (.bool (AtV.hm y)))])∧
 (tK (W) (c) (m) (v) (b)∧
 (bif !b
 then (bp Try.prog (fun _=> .none) 0 ⟨[(.cells [(.vec 7 (W) .none),(.vec 7 (H) .none)]),(.cells [(.val (.int .u32 (c))),(.val (.int .i64 (m))),(.val (.int .i64 (AtV.o y))),(.vec 1 (iV (AtV.p y)) .none),(.val (.int .u32 (AtV.h y))),(.val (.int .i64 (AtV.m y))),(.val (.bool (AtV.hm y)))]),(.cells [(.val (.int .i64 (AtV.o v))),(.vec 1 (iV (AtV.p v)) .none),(.val (.int .u32 (AtV.h v))),(.val (.int .i64 (AtV.m v))),(.val (.bool (AtV.hm v)))])],(tl)⟩ (.call ⟨(.builtin .append), #[(.tmp 29),(.tmp 32)], #[42,42]⟩) [(29,(x1)),(32,(.vec 2 [[(.val (.int .u32 (c))),(.val (.int .i64 (m)))]] .full))] (.vec 2 (l1) (tk1)) ⟨[(.cells [(.vec 7 (W) .none),(.vec 7 (H) .none)]),(.cells [(.val (.int .u32 (c))),(.val (.int .i64 (m))),(.val (.int .i64 (AtV.o y))),(.vec 1 (iV (AtV.p y)) .none),(.val (.int .u32 (AtV.h y))),(.val (.int .i64 (AtV.m y))),(.val (.bool (AtV.hm y)))]),(.cells [(.val (.int .i64 (AtV.o v))),(.vec 1 (iV (AtV.p v)) .none),(.val (.int .u32 (AtV.h v))),(.val (.int .i64 (AtV.m v))),(.val (.bool (AtV.hm v)))])],(tl2)⟩∧
 Q .normal [(.ptr 0 0),(.vec 2 (l1) (tk1)),(.vec 7 (H) .none),(.val (.int .i64 ((↑(List.length H):Int)))),(.val (.int .i64 (IntKind.wrap IntKind.i64 ((↑j:Int)+(1:Int)))))] ⟨[(.cells [(.vec 7 (W) .none),(.vec 7 (H) .none)]),(.cells [(.val (.int .u32 (c))),(.val (.int .i64 (m))),(.val (.int .i64 (AtV.o y))),(.vec 1 (iV (AtV.p y)) .none),(.val (.int .u32 (AtV.h y))),(.val (.int .i64 (AtV.m y))),(.val (.bool (AtV.hm y)))]),(.cells [(.val (.int .i64 (AtV.o v))),(.vec 1 (iV (AtV.p v)) .none),(.val (.int .u32 (AtV.h v))),(.val (.int .i64 (AtV.m v))),(.val (.bool (AtV.hm v)))])],(tl2)⟩ [] 36)
 else Q .normal [(.ptr 0 0),(x1),(.vec 7 (H) .none),(.val (.int .i64 ((↑(List.length H):Int)))),(.val (.int .i64 (IntKind.wrap IntKind.i64 ((↑j:Int)+(1:Int)))))] ⟨[(.cells [(.vec 7 (W) .none),(.vec 7 (H) .none)]),(.cells [(.val (.int .u32 (c))),(.val (.int .i64 (m))),(.val (.int .i64 (AtV.o y))),(.vec 1 (iV (AtV.p y)) .none),(.val (.int .u32 (AtV.h y))),(.val (.int .i64 (AtV.m y))),(.val (.bool (AtV.hm y)))]),(.cells [(.val (.int .i64 (AtV.o v))),(.vec 1 (iV (AtV.p v)) .none),(.val (.int .u32 (AtV.h v))),(.val (.int .i64 (AtV.m v))),(.val (.bool (AtV.hm v)))])],(tl)⟩ [] 36)))
 else Q (.exit 0) [(.ptr 0 0),(x1),(.vec 7 (H) .none),(.val (.int .i64 ((↑(List.length H):Int)))),(.val (.int .i64 ((↑j:Int))))] ⟨[(.cells [(.vec 7 (W) .none),(.vec 7 (H) .none)])],(tl)⟩ [] 36):=by kernel_rfl
theorem GY (W H:Bs) (x:TV) (tl:bA) (Q:TV→VT→Prop):aq Try.prog ac aL (aB [(999998, .dead,none)]) 300 (BQ 46 W H W x tl (au Try.prog kS 0)) 0 kS [.ptr 0 0] (dw W H) Q=
 ((au Try.prog kS (0:Nat)=au Try.prog kS (0:Nat))∧
 (((@Eq (Option Nat) .none .none)∧
 ((@Eq (Nat) 0 0)∧
 ((@Eq (List Nat) [] [])∧
 (True  ∧
 ((@Eq (VT) ⟨[(.cells [(.vec 7 (W) .none),(.vec 7 (H) .none)])], []⟩ ⟨[(.cells [(.vec 7 (W) .none),(.vec 7 (H) .none)])], []⟩)∧
 ((@Eq (Bool) true true)∧
 (@Eq (List TV) [(.ptr 0 0),(.val (.slice .none 0 0)),(.vec 7 (W) .none),(.val (.int .i64 ((↑(List.length W):Int)))),(.val (.int .i64 0))] [(.ptr 0 0),(.val (.slice .none 0 0)),(.vec 7 (W) .none),(.val (.int .i64 ((↑(List.length W):Int)))),(.val (.int .i64 0))])))))))∧
 Q (x) ⟨[(.cells [(.vec 7 (W) .none),(.vec 7 (H) .none)])],(tl)⟩)):=by kernel_rfl
theorem zr (W H:Bs) (c m:Int) (y v:AtV) (b ok:Bool) (x1:TV) (l1:Bs) (tk1:Tok) (tl tl2:bA) (j:Nat) (Q:Exit→List TV→VT→List Nat→Nat→Prop):vx Try.prog ac (aD [(gf,nP v b),(eP,mP ok)]) (aB [(999998, .dead,none),(15, .elt (iy c m y),none),(43, .vec 8 l1 tk1,some fun T=>{T with tails:=tl2})]) 300 aE none 0 (b6 Try.prog kS 0) (aG 46 mX (gC W x1 j)) (iq W H tl) [] (cB mX Q)=
 (bif decide ((↑j:Int)<(↑(List.length W):Int))
 then (aU Try.prog (fun _=> .none) (.indexAddr 39 (.tmp 11) (.tmp 13)) [(11,(.vec 7 (W) .none)),(13,(.val (.int .i64 ((↑j:Int)))))] (.elt [(.val (.int .u32 (c))),(.val (.int .i64 (m))),(.val (.int .i64 (AtV.o y))),(.vec 1 (iV (AtV.p y)) .none),(.val (.int .u32 (AtV.h y))),(.val (.int .i64 (AtV.m y))),(.val (.bool (AtV.hm y)))])∧
 (tK (H) (c) (m) (v) (b)∧
 (bif !b
 then (bp Try.prog (fun _=> .none) 0 ⟨[(.cells [(.vec 7 (W) .none),(.vec 7 (H) .none)]),(.cells [(.val (.int .u32 (c))),(.val (.int .i64 (m))),(.val (.int .i64 (AtV.o y))),(.vec 1 (iV (AtV.p y)) .none),(.val (.int .u32 (AtV.h y))),(.val (.int .i64 (AtV.m y))),(.val (.bool (AtV.hm y)))]),(.cells [(.val (.int .i64 (AtV.o v))),(.vec 1 (iV (AtV.p v)) .none),(.val (.int .u32 (AtV.h v))),(.val (.int .i64 (AtV.m v))),(.val (.bool (AtV.hm v)))])],(tl)⟩ (.call ⟨(.builtin .append), #[(.tmp 36),(.tmp 42)], #[94,94]⟩) [(36,(x1)),(42,(.vec 8 [[(.val (.int .u32 (c))),(.val (.int .i64 (m))),(.val (.int .i64 (AtV.o y))),(.vec 1 (iV (AtV.p y)) .none),(.val (.int .u32 (AtV.h y))),(.val (.int .i64 (AtV.m y))),(.val (.bool (AtV.hm y))),(.val (.bool false))]] .full))] (.vec 8 (l1) (tk1)) ⟨[(.cells [(.vec 7 (W) .none),(.vec 7 (H) .none)]),(.cells [(.val (.int .u32 (c))),(.val (.int .i64 (m))),(.val (.int .i64 (AtV.o y))),(.vec 1 (iV (AtV.p y)) .none),(.val (.int .u32 (AtV.h y))),(.val (.int .i64 (AtV.m y))),(.val (.bool (AtV.hm y)))]),(.cells [(.val (.int .i64 (AtV.o v))),(.vec 1 (iV (AtV.p v)) .none),(.val (.int .u32 (AtV.h v))),(.val (.int .i64 (AtV.m v))),(.val (.bool (AtV.hm v)))])],(tl2)⟩∧
 Q .normal [(.ptr 0 0),(.vec 8 (l1) (tk1)),(.vec 7 (W) .none),(.val (.int .i64 ((↑(List.length W):Int)))),(.val (.int .i64 (IntKind.wrap IntKind.i64 ((↑j:Int)+(1:Int)))))] ⟨[(.cells [(.vec 7 (W) .none),(.vec 7 (H) .none)]),(.cells [(.val (.int .u32 (c))),(.val (.int .i64 (m))),(.val (.int .i64 (AtV.o y))),(.vec 1 (iV (AtV.p y)) .none),(.val (.int .u32 (AtV.h y))),(.val (.int .i64 (AtV.m y))),(.val (.bool (AtV.hm y)))]),(.cells [(.val (.int .i64 (AtV.o v))),(.vec 1 (iV (AtV.p v)) .none),(.val (.int .u32 (AtV.h v))),(.val (.int .i64 (AtV.m v))),(.val (.bool (AtV.hm v)))])],(tl2)⟩ [] 46)
 else (og [(.val (.int .i64 (AtV.o v))),(.vec 1 (iV (AtV.p v)) .none),(.val (.int .u32 (AtV.h v))),(.val (.int .i64 (AtV.m v))),(.val (.bool (AtV.hm v)))] [(.val (.int .i64 (AtV.o y))),(.vec 1 (iV (AtV.p y)) .none),(.val (.int .u32 (AtV.h y))),(.val (.int .i64 (AtV.m y))),(.val (.bool (AtV.hm y)))] (ok)∧
 (bif !ok
 then (bp Try.prog (fun _=> .none) 0 ⟨[(.cells [(.vec 7 (W) .none),(.vec 7 (H) .none)]),(.cells [(.val (.int .u32 (c))),(.val (.int .i64 (m))),(.val (.int .i64 (AtV.o y))),(.vec 1 (iV (AtV.p y)) .none),(.val (.int .u32 (AtV.h y))),(.val (.int .i64 (AtV.m y))),(.val (.bool (AtV.hm y)))]),(.cells [(.val (.int .i64 (AtV.o v))),(.vec 1 (iV (AtV.p v)) .none),(.val (.int .u32 (AtV.h v))),(.val (.int .i64 (AtV.m v))),(.val (.bool (AtV.hm v)))])],(tl)⟩ (.call ⟨(.builtin .append), #[(.tmp 36),(.tmp 42)], #[94,94]⟩) [(36,(x1)),(42,(.vec 8 [[(.val (.int .u32 (c))),(.val (.int .i64 (m))),(.val (.int .i64 (AtV.o y))),(.vec 1 (iV (AtV.p y)) .none),(.val (.int .u32 (AtV.h y))),(.val (.int .i64 (AtV.m y))),(.val (.bool (AtV.hm y))),(.val (.bool false))]] .full))] (.vec 8 (l1) (tk1)) ⟨[(.cells [(.vec 7 (W) .none),(.vec 7 (H) .none)]),(.cells [(.val (.int .u32 (c))),(.val (.int .i64 (m))),(.val (.int .i64 (AtV.o y))),(.vec 1 (iV (AtV.p y)) .none),(.val (.int .u32 (AtV.h y))),(.val (.int .i64 (AtV.m y))),(.val (.bool (AtV.hm y)))]),(.cells [(.val (.int .i64 (AtV.o v))),(.vec 1 (iV (AtV.p v)) .none),(.val (.int .u32 (AtV.h v))),(.val (.int .i64 (AtV.m v))),(.val (.bool (AtV.hm v)))])],(tl2)⟩∧
 Q .normal [(.ptr 0 0),(.vec 8 (l1) (tk1)),(.vec 7 (W) .none),(.val (.int .i64 ((↑(List.length W):Int)))),(.val (.int .i64 (IntKind.wrap IntKind.i64 ((↑j:Int)+(1:Int)))))] ⟨[(.cells [(.vec 7 (W) .none),(.vec 7 (H) .none)]),(.cells [(.val (.int .u32 (c))),(.val (.int .i64 (m))),(.val (.int .i64 (AtV.o y))),(.vec 1 (iV (AtV.p y)) .none),(.val (.int .u32 (AtV.h y))),(.val (.int .i64 (AtV.m y))),(.val (.bool (AtV.hm y)))]),(.cells [(.val (.int .i64 (AtV.o v))),(.vec 1 (iV (AtV.p v)) .none),(.val (.int .u32 (AtV.h v))),(.val (.int .i64 (AtV.m v))),(.val (.bool (AtV.hm v)))])],(tl2)⟩ [] 46)
 else Q .normal [(.ptr 0 0),(x1),(.vec 7 (W) .none),(.val (.int .i64 ((↑(List.length W):Int)))),(.val (.int .i64 (IntKind.wrap IntKind.i64 ((↑j:Int)+(1:Int)))))] ⟨[(.cells [(.vec 7 (W) .none),(.vec 7 (H) .none)]),(.cells [(.val (.int .u32 (c))),(.val (.int .i64 (m))),(.val (.int .i64 (AtV.o y))),(.vec 1 (iV (AtV.p y)) .none),(.val (.int .u32 (AtV.h y))),(.val (.int .i64 (AtV.m y))),(.val (.bool (AtV.hm y)))]),(.cells [(.val (.int .i64 (AtV.o v))),(.vec 1 (iV (AtV.p v)) .none),(.val (.int .u32 (AtV.h v))),(.val (.int .i64 (AtV.m v))),(.val (.bool (AtV.hm v)))])],(tl)⟩ [] 46)))))
 else Q (.exit 0) [(.ptr 0 0),(x1),(.vec 7 (W) .none),(.val (.int .i64 ((↑(List.length W):Int)))),(.val (.int .i64 ((↑j:Int))))] ⟨[(.cells [(.vec 7 (W) .none),(.vec 7 (H) .none)])],(tl)⟩ [] 46):=by kernel_rfl
theorem GZ (W H L M:Bs) (Q:TV→VT→Prop):aq Try.prog ac (aD [(kR,Fw L),(kS,Fx M)]) (aB [(999998, .dead,none)]) 300 aE 0 y7 [.ptr 0 0] (dw W H) Q=
 (((@Eq (Nat) 0 0)∧
 Fu ⟨[(.cells [(.vec 7 (W) .none),(.vec 7 (H) .none)])], []⟩ (L))∧
 (bif ax BinOp.eql (aj (Value.int IntKind.i64 (↑(List.length L):Int)) (Value.int IntKind.i64 (0:Int)))
 then (((@Eq (Nat) 0 0)∧
 Fv ⟨[(.cells [(.vec 7 (W) .none),(.vec 7 (H) .none)])], []⟩ (M))∧
 Q (.val (.bool (ax BinOp.eql (aj (Value.int IntKind.i64 (↑(List.length M):Int)) (Value.int IntKind.i64 (0:Int)))))) ⟨[(.cells [(.vec 7 (W) .none),(.vec 7 (H) .none)])], []⟩)
 else Q (.val (.bool false)) ⟨[(.cells [(.vec 7 (W) .none),(.vec 7 (H) .none)])], []⟩)):=by kernel_rfl
theorem G0 (W H l1 l2:Bs) (tk1 tk2:Tok) (tl1 tl2:bA) (Q:TV→VT→Prop):aq Try.prog ac aL (aB [(999998, .dead,none),(8, .vec 7 l1 tk1,some fun T=>{T with tails:=tl1}),(14, .vec 7 l2 tk2,some fun T=>{T with tails:=tl2})]) 300 aE 0 vv [.ptr 0 0] (dw W H) Q=
 (bp Try.prog (fun _=> .none) 0 ⟨[(.cells [(.vec 7 (W) .none),(.vec 7 (H) .none)])], []⟩ (.call ⟨(.builtin .append), #[(.tmp 3),(.tmp 7)], #[39,39]⟩) [(3,(.vec 7 [] .full)),(7,(.vec 7 (W) .none))] (.vec 7 (l1) (tk1)) ⟨[(.cells [(.vec 7 (W) .none),(.vec 7 (H) .none)])],(tl1)⟩∧
 (((@Eq (Option TV) (.some (.vec 7 (H) .none)) (.some (.vec 7 (H) .none)))∧
 ((@Eq (Option TV) (.some (.vec 7 (W) .none)) (.some (.vec 7 (W) .none)))∧
 True))∧
 (bp Try.prog (fun _=> .none) 0 ⟨[(.cells [(.vec 7 (W) .none),(.vec 7 (H) .none)])],(tl1)⟩ (.call ⟨(.builtin .append), #[(.tmp 9),(.tmp 13)], #[39,39]⟩) [(9,(.vec 7 [] .full)),(13,(.vec 7 (H) .none))] (.vec 7 (l2) (tk2)) ⟨[(.cells [(.vec 7 (W) .none),(.vec 7 (H) .none)])],(tl2)⟩∧
 Q (.ptr 1 0) ⟨[(.cells [(.vec 7 (W) .none),(.vec 7 (H) .none)]),(.cells [(.vec 7 (l1) (tk1)),(.vec 7 (l2) (tk2))])],(tl2)⟩))):=by kernel_rfl
theorem G1 (L:Bs) (Q:TV→VT→Prop):aq Try.prog ac aL (aB [(999998, .dead,none)]) 300 (BS 26 2 L (au Try.prog jx 0)) 0 jx [.vec 2 L .none, .vec 2 L .none] ⟨[], []⟩ Q=
 (bif ax BinOp.neq (aj (Value.int IntKind.i64 (↑(List.length L):Int)) (Value.int IntKind.i64 (↑(List.length L):Int)))
 then Q (.val (.bool false)) ⟨[], []⟩
 else ((au Try.prog jx (0:Nat)=au Try.prog jx (0:Nat))∧
 (((@Eq (Option Nat) .none .none)∧
 ((@Eq (Nat) 0 0)∧
 ((@Eq (List Nat) [] [])∧
 (True  ∧
 ((@Eq (VT) ⟨[], []⟩ ⟨[], []⟩)∧
 ((@Eq (Bool) true true)∧
 (@Eq (List TV) [(.vec 2 (L) .none),(.vec 2 (L) .none),(.val (.int .i64 ((↑(List.length L):Int)))),(.val (.int .i64 0))] [(.vec 2 (L) .none),(.vec 2 (L) .none),(.val (.int .i64 ((↑(List.length L):Int)))),(.val (.int .i64 0))])))))))∧
 Q (.val (.bool true)) ⟨[], []⟩))):=by kernel_rfl
theorem zt (L:Bs) (a n:Int) (j:Nat) (Q:Exit→List TV→VT→List Nat→Nat→Prop):vx Try.prog ac aL (aB [(999998, .dead,none),(18, .elt (pG a n),none),(22, .elt (pG a n),none)]) 300 aE none 0 (b6 Try.prog jx 0) (aG 26 mY (lX 2 L j)) ⟨[], []⟩ [] (cB mY Q)=
 (bif decide ((↑j:Int)<(↑(List.length L):Int))
 then (aU Try.prog (fun _=> .none) (.indexAddr 42 (.tmp 16) (.tmp 17)) [(16,(.vec 2 (L) .none)),(17,(.val (.int .i64 ((↑j:Int)))))] (.elt [(.val (.int .u32 (a))),(.val (.int .i64 (n)))])∧
 (aU Try.prog (fun _=> .none) (.indexAddr 42 (.tmp 20) (.tmp 21)) [(20,(.vec 2 (L) .none)),(21,(.val (.int .i64 ((↑j:Int)))))] (.elt [(.val (.int .u32 (a))),(.val (.int .i64 (n)))])∧
 (bif ax BinOp.neq (aj ((fun vs=>Value.agg (List.toArray vs)) ((fun x=>Value.int IntKind.u32 a::x) ((fun x=>Value.int IntKind.i64 n::x) []))) ((fun vs=>Value.agg (List.toArray vs)) ((fun x=>Value.int IntKind.u32 a::x) ((fun x=>Value.int IntKind.i64 n::x) []))))
 then Q .ret [(.vec 2 (L) .none),(.vec 2 (L) .none),(.val (.int .i64 ((↑(List.length L):Int)))),(.val (.int .i64 ((↑j:Int))))] ⟨[], []⟩ [] 26
 else Q .normal [(.vec 2 (L) .none),(.vec 2 (L) .none),(.val (.int .i64 ((↑(List.length L):Int)))),(.val (.int .i64 (IntKind.wrap IntKind.i64 ((↑j:Int)+(1:Int)))))] ⟨[], []⟩ [] 26)))
 else Q (.exit 0) [(.vec 2 (L) .none),(.vec 2 (L) .none),(.val (.int .i64 ((↑(List.length L):Int)))),(.val (.int .i64 ((↑j:Int))))] ⟨[], []⟩ [] 26):=by kernel_rfl
theorem G2 (L:Bs) (Q:TV→VT→Prop):aq Try.prog ac aL (aB [(999998, .dead,none)]) 300 (BS 55 8 L (au Try.prog jy 0)) 0 jy [.vec 8 L .none, .vec 8 L .none] ⟨[], []⟩ Q=
 (bif ax BinOp.neq (aj (Value.int IntKind.i64 (↑(List.length L):Int)) (Value.int IntKind.i64 (↑(List.length L):Int)))
 then Q (.val (.bool false)) ⟨[], []⟩
 else ((au Try.prog jy (0:Nat)=au Try.prog jy (0:Nat))∧
 (((@Eq (Option Nat) .none .none)∧
 ((@Eq (Nat) 0 0)∧
 ((@Eq (List Nat) [] [])∧
 (True  ∧
 ((@Eq (VT) ⟨[], []⟩ ⟨[], []⟩)∧
 ((@Eq (Bool) true true)∧
 (@Eq (List TV) [(.vec 8 (L) .none),(.vec 8 (L) .none),(.val (.int .i64 ((↑(List.length L):Int)))),(.val (.int .i64 0))] [(.vec 8 (L) .none),(.vec 8 (L) .none),(.val (.int .i64 ((↑(List.length L):Int)))),(.val (.int .i64 0))])))))))∧
 Q (.val (.bool true)) ⟨[], []⟩))):=by kernel_rfl
theorem zu (L:Bs) (a n:Int) (x:AtV) (g ok:Bool) (j:Nat) (Q:Exit→List TV→VT→List Nat→Nat→Prop):vx Try.prog ac (aD [(eP,mP ok)]) (aB [(999998, .dead,none),(18, .elt (ei a n x g),none),(23, .elt (ei a n x g),none),(30, .elt (ei a n x g),none),(35, .elt (ei a n x g),none),(43, .elt (ei a n x g),none),(48, .elt (ei a n x g),none)]) 300 aE none 0 (b6 Try.prog jy 0) (aG 55 mY (lX 8 L j)) ⟨[], []⟩ [] (cB mY Q)=
 (bif decide ((↑j:Int)<(↑(List.length L):Int))
 then (aU Try.prog (fun _=> .none) (.indexAddr 94 (.tmp 16) (.tmp 17)) [(16,(.vec 8 (L) .none)),(17,(.val (.int .i64 ((↑j:Int)))))] (.elt [(.val (.int .u32 (a))),(.val (.int .i64 (n))),(.val (.int .i64 (AtV.o x))),(.vec 1 (iV (AtV.p x)) .none),(.val (.int .u32 (AtV.h x))),(.val (.int .i64 (AtV.m x))),(.val (.bool (AtV.hm x))),(.val (.bool (g)))])∧
 (aU Try.prog (fun _=> .none) (.indexAddr 94 (.tmp 21) (.tmp 22)) [(21,(.vec 8 (L) .none)),(22,(.val (.int .i64 ((↑j:Int)))))] (.elt [(.val (.int .u32 (a))),(.val (.int .i64 (n))),(.val (.int .i64 (AtV.o x))),(.vec 1 (iV (AtV.p x)) .none),(.val (.int .u32 (AtV.h x))),(.val (.int .i64 (AtV.m x))),(.val (.bool (AtV.hm x))),(.val (.bool (g)))])∧
 (bif ax BinOp.neq (aj ((fun vs=>Value.agg (List.toArray vs)) ((fun x=>Value.int IntKind.u32 a::x) ((fun x=>Value.int IntKind.i64 n::x) []))) ((fun vs=>Value.agg (List.toArray vs)) ((fun x=>Value.int IntKind.u32 a::x) ((fun x=>Value.int IntKind.i64 n::x) []))))
 then Q .ret [(.vec 8 (L) .none),(.vec 8 (L) .none),(.val (.int .i64 ((↑(List.length L):Int)))),(.val (.int .i64 ((↑j:Int))))] ⟨[], []⟩ [] 55
 else (aU Try.prog (fun _=> .none) (.indexAddr 94 (.tmp 28) (.tmp 29)) [(28,(.vec 8 (L) .none)),(29,(.val (.int .i64 ((↑j:Int)))))] (.elt [(.val (.int .u32 (a))),(.val (.int .i64 (n))),(.val (.int .i64 (AtV.o x))),(.vec 1 (iV (AtV.p x)) .none),(.val (.int .u32 (AtV.h x))),(.val (.int .i64 (AtV.m x))),(.val (.bool (AtV.hm x))),(.val (.bool (g)))])∧
 (aU Try.prog (fun _=> .none) (.indexAddr 94 (.tmp 33) (.tmp 34)) [(33,(.vec 8 (L) .none)),(34,(.val (.int .i64 ((↑j:Int)))))] (.elt [(.val (.int .u32 (a))),(.val (.int .i64 (n))),(.val (.int .i64 (AtV.o x))),(.vec 1 (iV (AtV.p x)) .none),(.val (.int .u32 (AtV.h x))),(.val (.int .i64 (AtV.m x))),(.val (.bool (AtV.hm x))),(.val (.bool (g)))])∧
 (bif ax BinOp.neq (aj (Value.bool g) (Value.bool g))
 then Q .ret [(.vec 8 (L) .none),(.vec 8 (L) .none),(.val (.int .i64 ((↑(List.length L):Int)))),(.val (.int .i64 ((↑j:Int))))] ⟨[], []⟩ [] 55
 else (aU Try.prog (fun _=> .none) (.indexAddr 94 (.tmp 41) (.tmp 42)) [(41,(.vec 8 (L) .none)),(42,(.val (.int .i64 ((↑j:Int)))))] (.elt [(.val (.int .u32 (a))),(.val (.int .i64 (n))),(.val (.int .i64 (AtV.o x))),(.vec 1 (iV (AtV.p x)) .none),(.val (.int .u32 (AtV.h x))),(.val (.int .i64 (AtV.m x))),(.val (.bool (AtV.hm x))),(.val (.bool (g)))])∧
 (aU Try.prog (fun _=> .none) (.indexAddr 94 (.tmp 46) (.tmp 47)) [(46,(.vec 8 (L) .none)),(47,(.val (.int .i64 ((↑j:Int)))))] (.elt [(.val (.int .u32 (a))),(.val (.int .i64 (n))),(.val (.int .i64 (AtV.o x))),(.vec 1 (iV (AtV.p x)) .none),(.val (.int .u32 (AtV.h x))),(.val (.int .i64 (AtV.m x))),(.val (.bool (AtV.hm x))),(.val (.bool (g)))])∧
 (og [(.val (.int .i64 (AtV.o x))),(.vec 1 (iV (AtV.p x)) .none),(.val (.int .u32 (AtV.h x))),(.val (.int .i64 (AtV.m x))),(.val (.bool (AtV.hm x)))] [(.val (.int .i64 (AtV.o x))),(.vec 1 (iV (AtV.p x)) .none),(.val (.int .u32 (AtV.h x))),(.val (.int .i64 (AtV.m x))),(.val (.bool (AtV.hm x)))] (ok)∧
 (bif !ok
 then Q .ret [(.vec 8 (L) .none),(.vec 8 (L) .none),(.val (.int .i64 ((↑(List.length L):Int)))),(.val (.int .i64 ((↑j:Int))))] ⟨[], []⟩ [] 55
 else Q .normal [(.vec 8 (L) .none),(.vec 8 (L) .none),(.val (.int .i64 ((↑(List.length L):Int)))),(.val (.int .i64 (IntKind.wrap IntKind.i64 ((↑j:Int)+(1:Int)))))] ⟨[], []⟩ [] 55))))))))))
 else Q (.exit 0) [(.vec 8 (L) .none),(.vec 8 (L) .none),(.val (.int .i64 ((↑(List.length L):Int)))),(.val (.int .i64 ((↑j:Int))))] ⟨[], []⟩ [] 55):=by kernel_rfl
theorem G3 (L:Bs) (x:TV) (tl:bA) (Q:TV→VT→Prop):aq Try.prog ac aL (aB [(999998, .dead,none)]) 300 (Ho L x tl (au Try.prog mW 0)) 0 mW [.vec 8 L .none] ⟨[], []⟩ Q=
 ((au Try.prog mW (0:Nat)=au Try.prog mW (0:Nat))∧
 (((@Eq (Option Nat) .none .none)∧
 ((@Eq (Nat) 0 0)∧
 ((@Eq (List Nat) [] [])∧
 (True  ∧
 ((@Eq (VT) ⟨[], []⟩ ⟨[], []⟩)∧
 ((@Eq (Bool) true true)∧
 (@Eq (List TV) [(.val (.slice .none 0 0)),(.vec 8 (L) .none),(.val (.int .i64 ((↑(List.length L):Int)))),(.val (.int .i64 0))] [(.val (.slice .none 0 0)),(.vec 8 (L) .none),(.val (.int .i64 ((↑(List.length L):Int)))),(.val (.int .i64 0))])))))))∧
 Q (x) ⟨[],(tl)⟩)):=by kernel_rfl
theorem zv (L:Bs) (a n:Int) (x:AtV) (g:Bool) (x1:TV) (l1:Bs) (tk1:Tok) (tl tl2:bA) (j:Nat) (Q:Exit→List TV→VT→List Nat→Nat→Prop):vx Try.prog ac aL (aB [(999998, .dead,none),(10, .elt (ei a n x g),none),(16, .vec 8 l1 tk1,some fun T=>{T with tails:=tl2})]) 300 aE none 0 (b6 Try.prog mW 0) (aG 19 ub (uc L x1 j)) ⟨[],tl⟩ [] (cB ub Q)=
 (bif decide ((↑j:Int)<(↑(List.length L):Int))
 then (aU Try.prog (fun _=> .none) (.indexAddr 48 (.tmp 6) (.tmp 8)) [(6,(.vec 8 (L) .none)),(8,(.val (.int .i64 ((↑j:Int)))))] (.elt [(.val (.int .u32 (a))),(.val (.int .i64 (n))),(.val (.int .i64 (AtV.o x))),(.vec 1 (iV (AtV.p x)) .none),(.val (.int .u32 (AtV.h x))),(.val (.int .i64 (AtV.m x))),(.val (.bool (AtV.hm x))),(.val (.bool (g)))])∧
 (bp Try.prog (fun _=> .none) 0 ⟨[(.cells [(.val (.int .u32 (a))),(.val (.int .i64 (n))),(.val (.int .i64 (AtV.o x))),(.vec 1 (iV (AtV.p x)) .none),(.val (.int .u32 (AtV.h x))),(.val (.int .i64 (AtV.m x))),(.val (.bool (AtV.hm x))),(.val (.bool (g)))]),(.cells [(.val (.int .u32 (a))),(.val (.int .i64 (n))),(.val (.int .i64 (AtV.o x))),(.vec 1 (iV (AtV.p x)) .none),(.val (.int .u32 (AtV.h x))),(.val (.int .i64 (AtV.m x))),(.val (.bool (AtV.hm x))),(.val (.bool (g)))]),(.cells [(.val (.int .u32 (a))),(.val (.int .i64 (n))),(.val (.int .i64 (AtV.o x))),(.vec 1 (iV (AtV.p x)) .none),(.val (.int .u32 (AtV.h x))),(.val (.int .i64 (AtV.m x))),(.val (.bool (AtV.hm x))),(.val (.bool (g)))])],(tl)⟩ (.call ⟨(.builtin .append), #[(.tmp 12),(.tmp 15)], #[94,94]⟩) [(12,(x1)),(15,(.vec 8 [[(.val (.int .u32 (a))),(.val (.int .i64 (n))),(.val (.int .i64 (AtV.o x))),(.vec 1 (iV (AtV.p x)) .none),(.val (.int .u32 (AtV.h x))),(.val (.int .i64 (AtV.m x))),(.val (.bool (AtV.hm x))),(.val (.bool (g)))]] .full))] (.vec 8 (l1) (tk1)) ⟨[(.cells [(.val (.int .u32 (a))),(.val (.int .i64 (n))),(.val (.int .i64 (AtV.o x))),(.vec 1 (iV (AtV.p x)) .none),(.val (.int .u32 (AtV.h x))),(.val (.int .i64 (AtV.m x))),(.val (.bool (AtV.hm x))),(.val (.bool (g)))]),(.cells [(.val (.int .u32 (a))),(.val (.int .i64 (n))),(.val (.int .i64 (AtV.o x))),(.vec 1 (iV (AtV.p x)) .none),(.val (.int .u32 (AtV.h x))),(.val (.int .i64 (AtV.m x))),(.val (.bool (AtV.hm x))),(.val (.bool (g)))]),(.cells [(.val (.int .u32 (a))),(.val (.int .i64 (n))),(.val (.int .i64 (AtV.o x))),(.vec 1 (iV (AtV.p x)) .none),(.val (.int .u32 (AtV.h x))),(.val (.int .i64 (AtV.m x))),(.val (.bool (AtV.hm x))),(.val (.bool (g)))])],(tl2)⟩∧
 Q .normal [(.vec 8 (l1) (tk1)),(.vec 8 (L) .none),(.val (.int .i64 ((↑(List.length L):Int)))),(.val (.int .i64 (IntKind.wrap IntKind.i64 ((↑j:Int)+(1:Int)))))] ⟨[(.cells [(.val (.int .u32 (a))),(.val (.int .i64 (n))),(.val (.int .i64 (AtV.o x))),(.vec 1 (iV (AtV.p x)) .none),(.val (.int .u32 (AtV.h x))),(.val (.int .i64 (AtV.m x))),(.val (.bool (AtV.hm x))),(.val (.bool (g)))]),(.cells [(.val (.int .u32 (a))),(.val (.int .i64 (n))),(.val (.int .i64 (AtV.o x))),(.vec 1 (iV (AtV.p x)) .none),(.val (.int .u32 (AtV.h x))),(.val (.int .i64 (AtV.m x))),(.val (.bool (AtV.hm x))),(.val (.bool (g)))]),(.cells [(.val (.int .u32 (a))),(.val (.int .i64 (n))),(.val (.int .i64 (AtV.o x))),(.vec 1 (iV (AtV.p x)) .none),(.val (.int .u32 (AtV.h x))),(.val (.int .i64 (AtV.m x))),(.val (.bool (AtV.hm x))),(.val (.bool (g)))])],(tl2)⟩ [] 19))
 else Q (.exit 0) [(x1),(.vec 8 (L) .none),(.val (.int .i64 ((↑(List.length L):Int)))),(.val (.int .i64 ((↑j:Int))))] ⟨[],(tl)⟩ [] 19):=by kernel_rfl
theorem G4 (W H:List ak) (lk lk2:bQ) (es es2:bF) (ck ck2:Nat) (a n:Int) (y z:AtV) (b c:Bool) (Q:TV→VT→Prop):aq Try.prog ac (aD [(yG,w9 W H y b),(gf,BT),(yH,xa W H z c),(yI,BN),(eP,mP true),(nN,BK),(kR,BU W H),(jx,BX),(nO,BL),(mW,BZ),(kS,BV W H),(jy,BY),(yM,BM),(y7,BW W H)]) (aB [(999998, .dead,none)]) 300 aE 0 nR [.ptr 2 0, .ptr 3 0, .agg (pG a n)] (fK lk lk2 es es2 ck ck2 (ai W) (ai H)) Q=
 (((@Eq (Nat) 0 0)∧
 (RbAt (W) (H) ⟨[(.map ⟨true, [(.int .u32),(.int .i64)]⟩ (lk) (es) (ck)),(.map ⟨true, [(.int .u32),(.int .i64)]⟩ (lk2) (es2) (ck2)),(.cells [(.map 0),(.map 1)]),(.cells [(.vec 7 (ai W) .none),(.vec 7 (ai H) .none)]),(.cells [(.val (.int .u32 (a))),(.val (.int .i64 (n)))])], []⟩∧
 w7 (W) [(.val (.int .u32 (a))),(.val (.int .i64 (n)))] (y) (b)))∧
 (A7 (ai W)∧
 (∀y_15:AtV,(∀b_16:Bool,(A8 (ai W) (a) (n) (y_15) (b_16)→(((@Eq (Nat) 0 0)∧
 (RbAt (W) (H) ⟨[(.map ⟨true, [(.int .u32),(.int .i64)]⟩ (lk) (es) (ck)),(.map ⟨true, [(.int .u32),(.int .i64)]⟩ (lk2) (es2) (ck2)),(.cells [(.map 0),(.map 1)]),(.cells [(.vec 7 (ai W) .none),(.vec 7 (ai H) .none)]),(.cells [(.val (.int .u32 (a))),(.val (.int .i64 (n)))]),(.cells [(.val (.int .i64 (AtV.o y))),(.vec 1 (iV (AtV.p y)) .none),(.val (.int .u32 (AtV.h y))),(.val (.int .i64 (AtV.m y))),(.val (.bool (AtV.hm y)))]),(.cells [(.val (.int .i64 (AtV.o y_15))),(.vec 1 (iV (AtV.p y_15)) .none),(.val (.int .u32 (AtV.h y_15))),(.val (.int .i64 (AtV.m y_15))),(.val (.bool (AtV.hm y_15)))])], []⟩∧
 w7 (H) [(.val (.int .u32 (a))),(.val (.int .i64 (n)))] (z) (c)))∧
 (A7 (ai H)∧
 (∀y_18:AtV,(∀b_19:Bool,(A8 (ai H) (a) (n) (y_18) (b_19)→(((@Eq (Nat) 0 0)∧
 mS ⟨[(.map ⟨true, [(.int .u32),(.int .i64)]⟩ (lk) (es) (ck)),(.map ⟨true, [(.int .u32),(.int .i64)]⟩ (lk2) (es2) (ck2)),(.cells [(.map 0),(.map 1)]),(.cells [(.vec 7 (ai W) .none),(.vec 7 (ai H) .none)]),(.cells [(.val (.int .u32 (a))),(.val (.int .i64 (n)))]),(.cells [(.val (.int .i64 (AtV.o y))),(.vec 1 (iV (AtV.p y)) .none),(.val (.int .u32 (AtV.h y))),(.val (.int .i64 (AtV.m y))),(.val (.bool (AtV.hm y)))]),(.cells [(.val (.int .i64 (AtV.o y_15))),(.vec 1 (iV (AtV.p y_15)) .none),(.val (.int .u32 (AtV.h y_15))),(.val (.int .i64 (AtV.m y_15))),(.val (.bool (AtV.hm y_15)))]),(.cells [(.val (.int .i64 (AtV.o z))),(.vec 1 (iV (AtV.p z)) .none),(.val (.int .u32 (AtV.h z))),(.val (.int .i64 (AtV.m z))),(.val (.bool (AtV.hm z)))]),(.cells [(.val (.int .i64 (AtV.o y_18))),(.vec 1 (iV (AtV.p y_18)) .none),(.val (.int .u32 (AtV.h y_18))),(.val (.int .i64 (AtV.m y_18))),(.val (.bool (AtV.hm y_18)))])], []⟩)∧
 (∀n_21:Int,(∀k:Int,(E5 ⟨[(.map ⟨true, [(.int .u32),(.int .i64)]⟩ (lk) (es) (ck)),(.map ⟨true, [(.int .u32),(.int .i64)]⟩ (lk2) (es2) (ck2)),(.cells [(.map 0),(.map 1)]),(.cells [(.vec 7 (ai W) .none),(.vec 7 (ai H) .none)]),(.cells [(.val (.int .u32 (a))),(.val (.int .i64 (n)))]),(.cells [(.val (.int .i64 (AtV.o y))),(.vec 1 (iV (AtV.p y)) .none),(.val (.int .u32 (AtV.h y))),(.val (.int .i64 (AtV.m y))),(.val (.bool (AtV.hm y)))]),(.cells [(.val (.int .i64 (AtV.o y_15))),(.vec 1 (iV (AtV.p y_15)) .none),(.val (.int .u32 (AtV.h y_15))),(.val (.int .i64 (AtV.m y_15))),(.val (.bool (AtV.hm y_15)))]),(.cells [(.val (.int .i64 (AtV.o z))),(.vec 1 (iV (AtV.p z)) .none),(.val (.int .u32 (AtV.h z))),(.val (.int .i64 (AtV.m z))),(.val (.bool (AtV.hm z)))]),(.cells [(.val (.int .i64 (AtV.o y_18))),(.vec 1 (iV (AtV.p y_18)) .none),(.val (.int .u32 (AtV.h y_18))),(.val (.int .i64 (AtV.m y_18))),(.val (.bool (AtV.hm y_18)))])], []⟩ (n_21) (k)→(og [(.val (.int .i64 (AtV.o y))),(.vec 1 (iV (AtV.p y)) .none),(.val (.int .u32 (AtV.h y))),(.val (.int .i64 (AtV.m y))),(.val (.bool (AtV.hm y)))] [(.val (.int .i64 (AtV.o y_15))),(.vec 1 (iV (AtV.p y_15)) .none),(.val (.int .u32 (AtV.h y_15))),(.val (.int .i64 (AtV.m y_15))),(.val (.bool (AtV.hm y_15)))] true∧
 (bif ax BinOp.eql (aj (Value.bool b) (Value.bool b_16))
 then (og [(.val (.int .i64 (AtV.o z))),(.vec 1 (iV (AtV.p z)) .none),(.val (.int .u32 (AtV.h z))),(.val (.int .i64 (AtV.m z))),(.val (.bool (AtV.hm z)))] [(.val (.int .i64 (AtV.o y_18))),(.vec 1 (iV (AtV.p y_18)) .none),(.val (.int .u32 (AtV.h y_18))),(.val (.int .i64 (AtV.m y_18))),(.val (.bool (AtV.hm y_18)))] true∧
 (bif ax BinOp.eql (aj (Value.bool c) (Value.bool b_19))
 then (bif ax BinOp.eql (aj (Value.int IntKind.i64 n_21) (Value.int IntKind.i64 (↑(List.length (ai W)):Int)))
 then (bif ax BinOp.eql (aj (Value.int IntKind.i64 k) (Value.int IntKind.i64 (↑(List.length (ai H)):Int)))
 then (((@Eq (Nat) 0 0)∧
 mS ⟨[(.map ⟨true, [(.int .u32),(.int .i64)]⟩ (lk) (es) (ck)),(.map ⟨true, [(.int .u32),(.int .i64)]⟩ (lk2) (es2) (ck2)),(.cells [(.map 0),(.map 1)]),(.cells [(.vec 7 (ai W) .none),(.vec 7 (ai H) .none)]),(.cells [(.val (.int .u32 (a))),(.val (.int .i64 (n)))]),(.cells [(.val (.int .i64 (AtV.o y))),(.vec 1 (iV (AtV.p y)) .none),(.val (.int .u32 (AtV.h y))),(.val (.int .i64 (AtV.m y))),(.val (.bool (AtV.hm y)))]),(.cells [(.val (.int .i64 (AtV.o y_15))),(.vec 1 (iV (AtV.p y_15)) .none),(.val (.int .u32 (AtV.h y_15))),(.val (.int .i64 (AtV.m y_15))),(.val (.bool (AtV.hm y_15)))]),(.cells [(.val (.int .i64 (AtV.o z))),(.vec 1 (iV (AtV.p z)) .none),(.val (.int .u32 (AtV.h z))),(.val (.int .i64 (AtV.m z))),(.val (.bool (AtV.hm z)))]),(.cells [(.val (.int .i64 (AtV.o y_18))),(.vec 1 (iV (AtV.p y_18)) .none),(.val (.int .u32 (AtV.h y_18))),(.val (.int .i64 (AtV.m y_18))),(.val (.bool (AtV.hm y_18)))])], []⟩)∧
 (∀L:Bs,(E2 ⟨[(.map ⟨true, [(.int .u32),(.int .i64)]⟩ (lk) (es) (ck)),(.map ⟨true, [(.int .u32),(.int .i64)]⟩ (lk2) (es2) (ck2)),(.cells [(.map 0),(.map 1)]),(.cells [(.vec 7 (ai W) .none),(.vec 7 (ai H) .none)]),(.cells [(.val (.int .u32 (a))),(.val (.int .i64 (n)))]),(.cells [(.val (.int .i64 (AtV.o y))),(.vec 1 (iV (AtV.p y)) .none),(.val (.int .u32 (AtV.h y))),(.val (.int .i64 (AtV.m y))),(.val (.bool (AtV.hm y)))]),(.cells [(.val (.int .i64 (AtV.o y_15))),(.vec 1 (iV (AtV.p y_15)) .none),(.val (.int .u32 (AtV.h y_15))),(.val (.int .i64 (AtV.m y_15))),(.val (.bool (AtV.hm y_15)))]),(.cells [(.val (.int .i64 (AtV.o z))),(.vec 1 (iV (AtV.p z)) .none),(.val (.int .u32 (AtV.h z))),(.val (.int .i64 (AtV.m z))),(.val (.bool (AtV.hm z)))]),(.cells [(.val (.int .i64 (AtV.o y_18))),(.vec 1 (iV (AtV.p y_18)) .none),(.val (.int .u32 (AtV.h y_18))),(.val (.int .i64 (AtV.m y_18))),(.val (.bool (AtV.hm y_18)))])], []⟩ (L)→(((@Eq (Nat) 0 0)∧
 oA (W) (H) ⟨[(.map ⟨true, [(.int .u32),(.int .i64)]⟩ (lk) (es) (ck)),(.map ⟨true, [(.int .u32),(.int .i64)]⟩ (lk2) (es2) (ck2)),(.cells [(.map 0),(.map 1)]),(.cells [(.vec 7 (ai W) .none),(.vec 7 (ai H) .none)]),(.cells [(.val (.int .u32 (a))),(.val (.int .i64 (n)))]),(.cells [(.val (.int .i64 (AtV.o y))),(.vec 1 (iV (AtV.p y)) .none),(.val (.int .u32 (AtV.h y))),(.val (.int .i64 (AtV.m y))),(.val (.bool (AtV.hm y)))]),(.cells [(.val (.int .i64 (AtV.o y_15))),(.vec 1 (iV (AtV.p y_15)) .none),(.val (.int .u32 (AtV.h y_15))),(.val (.int .i64 (AtV.m y_15))),(.val (.bool (AtV.hm y_15)))]),(.cells [(.val (.int .i64 (AtV.o z))),(.vec 1 (iV (AtV.p z)) .none),(.val (.int .u32 (AtV.h z))),(.val (.int .i64 (AtV.m z))),(.val (.bool (AtV.hm z)))]),(.cells [(.val (.int .i64 (AtV.o y_18))),(.vec 1 (iV (AtV.p y_18)) .none),(.val (.int .u32 (AtV.h y_18))),(.val (.int .i64 (AtV.m y_18))),(.val (.bool (AtV.hm y_18)))])], []⟩)∧
 (Fr (L) (t7 W H)∧
 (((@Eq (Nat) 0 0)∧
 mS ⟨[(.map ⟨true, [(.int .u32),(.int .i64)]⟩ (lk) (es) (ck)),(.map ⟨true, [(.int .u32),(.int .i64)]⟩ (lk2) (es2) (ck2)),(.cells [(.map 0),(.map 1)]),(.cells [(.vec 7 (ai W) .none),(.vec 7 (ai H) .none)]),(.cells [(.val (.int .u32 (a))),(.val (.int .i64 (n)))]),(.cells [(.val (.int .i64 (AtV.o y))),(.vec 1 (iV (AtV.p y)) .none),(.val (.int .u32 (AtV.h y))),(.val (.int .i64 (AtV.m y))),(.val (.bool (AtV.hm y)))]),(.cells [(.val (.int .i64 (AtV.o y_15))),(.vec 1 (iV (AtV.p y_15)) .none),(.val (.int .u32 (AtV.h y_15))),(.val (.int .i64 (AtV.m y_15))),(.val (.bool (AtV.hm y_15)))]),(.cells [(.val (.int .i64 (AtV.o z))),(.vec 1 (iV (AtV.p z)) .none),(.val (.int .u32 (AtV.h z))),(.val (.int .i64 (AtV.m z))),(.val (.bool (AtV.hm z)))]),(.cells [(.val (.int .i64 (AtV.o y_18))),(.vec 1 (iV (AtV.p y_18)) .none),(.val (.int .u32 (AtV.h y_18))),(.val (.int .i64 (AtV.m y_18))),(.val (.bool (AtV.hm y_18)))])], []⟩)∧
 (∀L_26:Bs,(E3 ⟨[(.map ⟨true, [(.int .u32),(.int .i64)]⟩ (lk) (es) (ck)),(.map ⟨true, [(.int .u32),(.int .i64)]⟩ (lk2) (es2) (ck2)),(.cells [(.map 0),(.map 1)]),(.cells [(.vec 7 (ai W) .none),(.vec 7 (ai H) .none)]),(.cells [(.val (.int .u32 (a))),(.val (.int .i64 (n)))]),(.cells [(.val (.int .i64 (AtV.o y))),(.vec 1 (iV (AtV.p y)) .none),(.val (.int .u32 (AtV.h y))),(.val (.int .i64 (AtV.m y))),(.val (.bool (AtV.hm y)))]),(.cells [(.val (.int .i64 (AtV.o y_15))),(.vec 1 (iV (AtV.p y_15)) .none),(.val (.int .u32 (AtV.h y_15))),(.val (.int .i64 (AtV.m y_15))),(.val (.bool (AtV.hm y_15)))]),(.cells [(.val (.int .i64 (AtV.o z))),(.vec 1 (iV (AtV.p z)) .none),(.val (.int .u32 (AtV.h z))),(.val (.int .i64 (AtV.m z))),(.val (.bool (AtV.hm z)))]),(.cells [(.val (.int .i64 (AtV.o y_18))),(.vec 1 (iV (AtV.p y_18)) .none),(.val (.int .u32 (AtV.h y_18))),(.val (.int .i64 (AtV.m y_18))),(.val (.bool (AtV.hm y_18)))])], []⟩ (L_26)→(Ft (L_26)∧
 (((@Eq (Nat) 0 0)∧
 oA (W) (H) ⟨[(.map ⟨true, [(.int .u32),(.int .i64)]⟩ (lk) (es) (ck)),(.map ⟨true, [(.int .u32),(.int .i64)]⟩ (lk2) (es2) (ck2)),(.cells [(.map 0),(.map 1)]),(.cells [(.vec 7 (ai W) .none),(.vec 7 (ai H) .none)]),(.cells [(.val (.int .u32 (a))),(.val (.int .i64 (n)))]),(.cells [(.val (.int .i64 (AtV.o y))),(.vec 1 (iV (AtV.p y)) .none),(.val (.int .u32 (AtV.h y))),(.val (.int .i64 (AtV.m y))),(.val (.bool (AtV.hm y)))]),(.cells [(.val (.int .i64 (AtV.o y_15))),(.vec 1 (iV (AtV.p y_15)) .none),(.val (.int .u32 (AtV.h y_15))),(.val (.int .i64 (AtV.m y_15))),(.val (.bool (AtV.hm y_15)))]),(.cells [(.val (.int .i64 (AtV.o z))),(.vec 1 (iV (AtV.p z)) .none),(.val (.int .u32 (AtV.h z))),(.val (.int .i64 (AtV.m z))),(.val (.bool (AtV.hm z)))]),(.cells [(.val (.int .i64 (AtV.o y_18))),(.vec 1 (iV (AtV.p y_18)) .none),(.val (.int .u32 (AtV.h y_18))),(.val (.int .i64 (AtV.m y_18))),(.val (.bool (AtV.hm y_18)))])], []⟩)∧
 (Fs (L_26) (t8 W H)∧
 (((@Eq (Nat) 0 0)∧
 mS ⟨[(.map ⟨true, [(.int .u32),(.int .i64)]⟩ (lk) (es) (ck)),(.map ⟨true, [(.int .u32),(.int .i64)]⟩ (lk2) (es2) (ck2)),(.cells [(.map 0),(.map 1)]),(.cells [(.vec 7 (ai W) .none),(.vec 7 (ai H) .none)]),(.cells [(.val (.int .u32 (a))),(.val (.int .i64 (n)))]),(.cells [(.val (.int .i64 (AtV.o y))),(.vec 1 (iV (AtV.p y)) .none),(.val (.int .u32 (AtV.h y))),(.val (.int .i64 (AtV.m y))),(.val (.bool (AtV.hm y)))]),(.cells [(.val (.int .i64 (AtV.o y_15))),(.vec 1 (iV (AtV.p y_15)) .none),(.val (.int .u32 (AtV.h y_15))),(.val (.int .i64 (AtV.m y_15))),(.val (.bool (AtV.hm y_15)))]),(.cells [(.val (.int .i64 (AtV.o z))),(.vec 1 (iV (AtV.p z)) .none),(.val (.int .u32 (AtV.h z))),(.val (.int .i64 (AtV.m z))),(.val (.bool (AtV.hm z)))]),(.cells [(.val (.int .i64 (AtV.o y_18))),(.vec 1 (iV (AtV.p y_18)) .none),(.val (.int .u32 (AtV.h y_18))),(.val (.int .i64 (AtV.m y_18))),(.val (.bool (AtV.hm y_18)))])], []⟩)∧
 (∀b_28:Bool,(E4 ⟨[(.map ⟨true, [(.int .u32),(.int .i64)]⟩ (lk) (es) (ck)),(.map ⟨true, [(.int .u32),(.int .i64)]⟩ (lk2) (es2) (ck2)),(.cells [(.map 0),(.map 1)]),(.cells [(.vec 7 (ai W) .none),(.vec 7 (ai H) .none)]),(.cells [(.val (.int .u32 (a))),(.val (.int .i64 (n)))]),(.cells [(.val (.int .i64 (AtV.o y))),(.vec 1 (iV (AtV.p y)) .none),(.val (.int .u32 (AtV.h y))),(.val (.int .i64 (AtV.m y))),(.val (.bool (AtV.hm y)))]),(.cells [(.val (.int .i64 (AtV.o y_15))),(.vec 1 (iV (AtV.p y_15)) .none),(.val (.int .u32 (AtV.h y_15))),(.val (.int .i64 (AtV.m y_15))),(.val (.bool (AtV.hm y_15)))]),(.cells [(.val (.int .i64 (AtV.o z))),(.vec 1 (iV (AtV.p z)) .none),(.val (.int .u32 (AtV.h z))),(.val (.int .i64 (AtV.m z))),(.val (.bool (AtV.hm z)))]),(.cells [(.val (.int .i64 (AtV.o y_18))),(.vec 1 (iV (AtV.p y_18)) .none),(.val (.int .u32 (AtV.h y_18))),(.val (.int .i64 (AtV.m y_18))),(.val (.bool (AtV.hm y_18)))])], []⟩ (b_28)→(((@Eq (Nat) 0 0)∧
 oA (W) (H) ⟨[(.map ⟨true, [(.int .u32),(.int .i64)]⟩ (lk) (es) (ck)),(.map ⟨true, [(.int .u32),(.int .i64)]⟩ (lk2) (es2) (ck2)),(.cells [(.map 0),(.map 1)]),(.cells [(.vec 7 (ai W) .none),(.vec 7 (ai H) .none)]),(.cells [(.val (.int .u32 (a))),(.val (.int .i64 (n)))]),(.cells [(.val (.int .i64 (AtV.o y))),(.vec 1 (iV (AtV.p y)) .none),(.val (.int .u32 (AtV.h y))),(.val (.int .i64 (AtV.m y))),(.val (.bool (AtV.hm y)))]),(.cells [(.val (.int .i64 (AtV.o y_15))),(.vec 1 (iV (AtV.p y_15)) .none),(.val (.int .u32 (AtV.h y_15))),(.val (.int .i64 (AtV.m y_15))),(.val (.bool (AtV.hm y_15)))]),(.cells [(.val (.int .i64 (AtV.o z))),(.vec 1 (iV (AtV.p z)) .none),(.val (.int .u32 (AtV.h z))),(.val (.int .i64 (AtV.m z))),(.val (.bool (AtV.hm z)))]),(.cells [(.val (.int .i64 (AtV.o y_18))),(.vec 1 (iV (AtV.p y_18)) .none),(.val (.int .u32 (AtV.h y_18))),(.val (.int .i64 (AtV.m y_18))),(.val (.bool (AtV.hm y_18)))])], []⟩)∧
 Q (.val (.bool (ax BinOp.eql (aj (Value.bool b_28) (Value.bool (Fq W H)))))) ⟨[(.map ⟨true, [(.int .u32),(.int .i64)]⟩ (lk) (es) (ck)),(.map ⟨true, [(.int .u32),(.int .i64)]⟩ (lk2) (es2) (ck2)),(.cells [(.map 0),(.map 1)]),(.cells [(.vec 7 (ai W) .none),(.vec 7 (ai H) .none)]),(.cells [(.val (.int .u32 (a))),(.val (.int .i64 (n)))]),(.cells [(.val (.int .i64 (AtV.o y))),(.vec 1 (iV (AtV.p y)) .none),(.val (.int .u32 (AtV.h y))),(.val (.int .i64 (AtV.m y))),(.val (.bool (AtV.hm y)))]),(.cells [(.val (.int .i64 (AtV.o y_15))),(.vec 1 (iV (AtV.p y_15)) .none),(.val (.int .u32 (AtV.h y_15))),(.val (.int .i64 (AtV.m y_15))),(.val (.bool (AtV.hm y_15)))]),(.cells [(.val (.int .i64 (AtV.o z))),(.vec 1 (iV (AtV.p z)) .none),(.val (.int .u32 (AtV.h z))),(.val (.int .i64 (AtV.m z))),(.val (.bool (AtV.hm z)))]),(.cells [(.val (.int .i64 (AtV.o y_18))),(.vec 1 (iV (AtV.p y_18)) .none),(.val (.int .u32 (AtV.h y_18))),(.val (.int .i64 (AtV.m y_18))),(.val (.bool (AtV.hm y_18)))])], []⟩)))))))))))))))
 else Q (.val (.bool false)) ⟨[(.map ⟨true, [(.int .u32),(.int .i64)]⟩ (lk) (es) (ck)),(.map ⟨true, [(.int .u32),(.int .i64)]⟩ (lk2) (es2) (ck2)),(.cells [(.map 0),(.map 1)]),(.cells [(.vec 7 (ai W) .none),(.vec 7 (ai H) .none)]),(.cells [(.val (.int .u32 (a))),(.val (.int .i64 (n)))]),(.cells [(.val (.int .i64 (AtV.o y))),(.vec 1 (iV (AtV.p y)) .none),(.val (.int .u32 (AtV.h y))),(.val (.int .i64 (AtV.m y))),(.val (.bool (AtV.hm y)))]),(.cells [(.val (.int .i64 (AtV.o y_15))),(.vec 1 (iV (AtV.p y_15)) .none),(.val (.int .u32 (AtV.h y_15))),(.val (.int .i64 (AtV.m y_15))),(.val (.bool (AtV.hm y_15)))]),(.cells [(.val (.int .i64 (AtV.o z))),(.vec 1 (iV (AtV.p z)) .none),(.val (.int .u32 (AtV.h z))),(.val (.int .i64 (AtV.m z))),(.val (.bool (AtV.hm z)))]),(.cells [(.val (.int .i64 (AtV.o y_18))),(.vec 1 (iV (AtV.p y_18)) .none),(.val (.int .u32 (AtV.h y_18))),(.val (.int .i64 (AtV.m y_18))),(.val (.bool (AtV.hm y_18)))])], []⟩)
 else Q (.val (.bool false)) ⟨[(.map ⟨true, [(.int .u32),(.int .i64)]⟩ (lk) (es) (ck)),(.map ⟨true, [(.int .u32),(.int .i64)]⟩ (lk2) (es2) (ck2)),(.cells [(.map 0),(.map 1)]),(.cells [(.vec 7 (ai W) .none),(.vec 7 (ai H) .none)]),(.cells [(.val (.int .u32 (a))),(.val (.int .i64 (n)))]),(.cells [(.val (.int .i64 (AtV.o y))),(.vec 1 (iV (AtV.p y)) .none),(.val (.int .u32 (AtV.h y))),(.val (.int .i64 (AtV.m y))),(.val (.bool (AtV.hm y)))]),(.cells [(.val (.int .i64 (AtV.o y_15))),(.vec 1 (iV (AtV.p y_15)) .none),(.val (.int .u32 (AtV.h y_15))),(.val (.int .i64 (AtV.m y_15))),(.val (.bool (AtV.hm y_15)))]),(.cells [(.val (.int .i64 (AtV.o z))),(.vec 1 (iV (AtV.p z)) .none),(.val (.int .u32 (AtV.h z))),(.val (.int .i64 (AtV.m z))),(.val (.bool (AtV.hm z)))]),(.cells [(.val (.int .i64 (AtV.o y_18))),(.vec 1 (iV (AtV.p y_18)) .none),(.val (.int .u32 (AtV.h y_18))),(.val (.int .i64 (AtV.m y_18))),(.val (.bool (AtV.hm y_18)))])], []⟩)
 else Q (.val (.bool false)) ⟨[(.map ⟨true, [(.int .u32),(.int .i64)]⟩ (lk) (es) (ck)),(.map ⟨true, [(.int .u32),(.int .i64)]⟩ (lk2) (es2) (ck2)),(.cells [(.map 0),(.map 1)]),(.cells [(.vec 7 (ai W) .none),(.vec 7 (ai H) .none)]),(.cells [(.val (.int .u32 (a))),(.val (.int .i64 (n)))]),(.cells [(.val (.int .i64 (AtV.o y))),(.vec 1 (iV (AtV.p y)) .none),(.val (.int .u32 (AtV.h y))),(.val (.int .i64 (AtV.m y))),(.val (.bool (AtV.hm y)))]),(.cells [(.val (.int .i64 (AtV.o y_15))),(.vec 1 (iV (AtV.p y_15)) .none),(.val (.int .u32 (AtV.h y_15))),(.val (.int .i64 (AtV.m y_15))),(.val (.bool (AtV.hm y_15)))]),(.cells [(.val (.int .i64 (AtV.o z))),(.vec 1 (iV (AtV.p z)) .none),(.val (.int .u32 (AtV.h z))),(.val (.int .i64 (AtV.m z))),(.val (.bool (AtV.hm z)))]),(.cells [(.val (.int .i64 (AtV.o y_18))),(.vec 1 (iV (AtV.p y_18)) .none),(.val (.int .u32 (AtV.h y_18))),(.val (.int .i64 (AtV.m y_18))),(.val (.bool (AtV.hm y_18)))])], []⟩))
 else Q (.val (.bool false)) ⟨[(.map ⟨true, [(.int .u32),(.int .i64)]⟩ (lk) (es) (ck)),(.map ⟨true, [(.int .u32),(.int .i64)]⟩ (lk2) (es2) (ck2)),(.cells [(.map 0),(.map 1)]),(.cells [(.vec 7 (ai W) .none),(.vec 7 (ai H) .none)]),(.cells [(.val (.int .u32 (a))),(.val (.int .i64 (n)))]),(.cells [(.val (.int .i64 (AtV.o y))),(.vec 1 (iV (AtV.p y)) .none),(.val (.int .u32 (AtV.h y))),(.val (.int .i64 (AtV.m y))),(.val (.bool (AtV.hm y)))]),(.cells [(.val (.int .i64 (AtV.o y_15))),(.vec 1 (iV (AtV.p y_15)) .none),(.val (.int .u32 (AtV.h y_15))),(.val (.int .i64 (AtV.m y_15))),(.val (.bool (AtV.hm y_15)))]),(.cells [(.val (.int .i64 (AtV.o z))),(.vec 1 (iV (AtV.p z)) .none),(.val (.int .u32 (AtV.h z))),(.val (.int .i64 (AtV.m z))),(.val (.bool (AtV.hm z)))]),(.cells [(.val (.int .i64 (AtV.o y_18))),(.vec 1 (iV (AtV.p y_18)) .none),(.val (.int .u32 (AtV.h y_18))),(.val (.int .i64 (AtV.m y_18))),(.val (.bool (AtV.hm y_18)))])], []⟩)))))))))))))))):=by kernel_rfl
end
section
open Go.RowKit
set_option maxRecDepth 100000

theorem Fy (objs:List VO) (l:List Px) (p:Px) (h:l.length≤2000000) (s x:Nat) (hne:Nat.beq s x=false):bp Try.prog ac 0 ⟨objs,tP l⟩ (.call ⟨.builtin .append, #[.tmp s, .tmp x], #[42,42]⟩) [(s,xP l),(x, .vec 2 [aw p] .full)] (.vec 2 ((l++ [p]).map aw) (.tail 0 (l++ [p]).length)) ⟨objs,tP (l++ [p])⟩:=by
  obtain ⟨inf,z,i1,i2,i3,i4,i5⟩:=mN
  have h1:=ef (inf:=inf) (P:=Try.prog) (G:=ac) (ro:=0) (T:=⟨objs,tP l⟩) (T1:=⟨objs, [(l.length,2,true)]⟩) (t:=42) (tx:=42) (s:= .tmp s) (x:= .tmp x) (l:= [(s,xP l),(x, .vec 2 [aw p] .full)]) (es:=l.map aw) (es2:= [aw p]) (k:=0) (n:=l.length) (bn:=true) Try.underlying42 i1 i4 (by rw [i5,i2]) (by rw [i2];omega) (by kernel_rfl)
    (by rw [i2];cases l<;>simp [aO,bS,dz,xP,tP]) (by rw [i2];simp [aO,bS,hne,gk])
    (by have h1:=i3
        have h2:=Nat.mul_le_mul (show (l.map aw).length+ [aw p].length≤2000001 by simp only [List.length_map,List.length_cons,List.length_nil];omega) h1
        omega)
  rw [i2] at h1
  rw [tw]
  rw [show (l++ [p]).map aw=l.map aw++ [aw p] by rw [List.map_append];rfl,show (l++ [p]).length=l.length+ [aw p].length by simp]
  exact h1
theorem zw:∃(inf:TypeInfo) (z:Value),Try.prog.info? 81=some inf∧inf.size=8∧inf.bytes+1≤200∧inf.zero=some z∧z.cells.size=8:=
 ⟨(Try.prog.info? 81).getD default,((Try.prog.info? 81).getD default).zero.getD default,by kernel_rfl,by kernel_rfl,Nat.le_of_ble_eq_true (by kernel_rfl),by kernel_rfl,by kernel_rfl⟩
theorem zx (objs:List VO) (l:List ak) (p:ak) (h:l.length≤2000000) (s x:Nat) (hne:Nat.beq s x=false):bp Try.prog ac 0 ⟨objs,tC l⟩ (.call ⟨.builtin .append, #[.tmp s, .tmp x], #[94,94]⟩) [(s,xC l),(x, .vec 8 [bd p] .full)] (.vec 8 ((l++ [p]).map bd) (.tail 0 (l++ [p]).length)) ⟨objs,tC (l++ [p])⟩:=by
  obtain ⟨inf,z,i1,i2,i3,i4,i5⟩:=zw
  have h1:=ef (inf:=inf) (P:=Try.prog) (G:=ac) (ro:=0) (T:=⟨objs,tC l⟩) (T1:=⟨objs, [(l.length,8,true)]⟩) (t:=94) (tx:=94) (s:= .tmp s) (x:= .tmp x) (l:= [(s,xC l),(x, .vec 8 [bd p] .full)]) (es:=l.map bd) (es2:= [bd p]) (k:=0) (n:=l.length) (bn:=true) Try.underlying94 i1 i4 (by rw [i5,i2]) (by rw [i2];omega) (by kernel_rfl)
    (by rw [i2];cases l<;>simp [aO,bS,dz,xC,tC]) (by rw [i2];simp [aO,bS,hne,gk])
    (by have h1:=i3
        have h2:=Nat.mul_le_mul (show (l.map bd).length+ [bd p].length≤2000001 by simp only [List.length_map,List.length_cons,List.length_nil];omega) h1
        omega)
  rw [i2] at h1
  rw [yS]
  rw [show (l++ [p]).map bd=l.map bd++ [bd p] by rw [List.map_append];rfl,show (l++ [p]).length=l.length+ [bd p].length by simp]
  exact h1
theorem nr {l:List ak} {j:Nat} {p:ak} (x i:Nat) (hne:Nat.beq x i=false) (hp:l[j]?=some p):aU Try.prog ac (.indexAddr 94 (.tmp x) (.tmp i)) [(x, .vec 8 (l.map bd) .none),(i, .val (.int .i64 (j:Int)))] (.elt (bd p)):=by
 obtain ⟨inf,z,i1,i2,i3,i4,i5⟩:=zw
 exact dQ (P:=Try.prog) (G:=ac) (inf:=inf) (t:=94) (x:= .tmp x) (i:= .tmp i) (l:= [(x, .vec 8 (l.map bd) .none),(i, .val (.int .i64 (j:Int)))]) (es:=l.map bd) (tok:= .none) (k:= .i64) (z:=(j:Int)) (cs:=bd p) Try.underlying94 i1 (by rw [i2];simp [aO,bS]) (by simp [aO,bS,hne]) (by omega) (by simp [hp])
theorem C7 (l:List Px):(tP l).take 1=tP l:=List.take_of_length_le (im _)
theorem vF (l:List ak):(tC l).take 1=tC l:=List.take_of_length_le (kO _)
section
variable {W H:List ak}
theorem vG (W H:List ak) (tl:bA) (ht:tl.take 1=tl) (o:List VO):VT.keep ⟨(iq (W.map ap) (H.map ap) tl).objs++o,tl⟩ 1 1=iq (W.map ap) (H.map ap) tl:=by
 simp only [VT.keep,iq,List.cons_append,List.nil_append,List.take_succ_cons,List.take_zero,List.map_cons,List.map_nil,ht,VO.ren,av,TV.ren,aS,Tok.ren]
theorem Fz (y:AtV) (b:Bool):aT Try.prog ac (aD [(gf,nP y b)]):=aQ fun q hq=>by obtain rfl:=List.mem_singleton.1 hq;exact pF _ _
theorem B0 (y:AtV) (b ok:Bool):aT Try.prog ac (aD [(gf,nP y b),(eP,mP ok)]):=aQ fun q hq=>by
 rcases List.mem_cons.1 hq with rfl | hq;exact pF _ _
 obtain rfl:=List.mem_singleton.1 hq;exact qt _
theorem C8 (hW:bM W) (hH:bM H):cK Try.prog ac (BQ 36 (W.map ap) (H.map ap) (H.map ap) (xP (bx W H)) (tP (bx W H)) (au Try.prog kR 0)):=bz fun q hq=>by
  obtain rfl:=List.mem_singleton.1 hq
  refine bP fun K hK=> ?_
  have hlen:(H.map ap).length=H.length:=List.length_map _
  have hfew:=hH.1
  refine da (f:=kR) (id:=0) (by kernel_rfl) 36 mX (fun j:Nat=>H.length-j) (fun j:Nat=>gC (H.map ap) (xP (be W H j)) j) (fun j=>iq (W.map ap) (H.map ap) (tP (be W H j))) (fun j=>j≤H.length) 1 1 (fun j _=>⟨Nat.le_refl _,im _⟩)
    (fun e vs T=>e= .normal∧vs=gC (H.map ap) (xP (bx W H)) (H.map ap).length∧T=iq (W.map ap) (H.map ap) (tP (bx W H))) (fun j hj=> ?_) 0 (Nat.zero_le _) K ?_
  rotate_left
  · rintro e vs T ⟨rfl,rfl,rfl⟩
    exact hK
  by_cases hlt:j<H.length
  · have hr:=List.getElem?_eq_getElem hlt
    generalize H[j]=r at hr
    obtain ⟨q,a⟩:=r
    have htk:be W H (j+1)=be W H j++(bif bo W q then [] else [q]):=by
      unfold be
      rw [show H.take (j+1)=H.take j++ [(q,a)] by rw [List.take_add_one,hr];rfl,py]
    have hl2:(be W H j).length≤2000000:=by
      have:=jU W (H.take j)
      have:=List.length_take_le j H
      unfold be;omega
    refine bq ae aa (Fz _ _) ah (zq (W.map ap) (H.map ap) q.1 q.2 a (bR W q) (bo W q) (xP (be W H j)) ((be W H (j+1)).map aw) (.tail 0 (be W H (j+1)).length) (tP (be W H j)) (tP (be W H (j+1))) j _) ?_
    refine bB (decide_eq_true (by rw [hlen];omega)) ⟨pE 11 13 rfl hr,⟨W,rfl,hW,rfl,rfl⟩, ?_⟩
    have hend:∀o,av (an 1) (an 1) (gC (H.map ap) (xP (be W H (j+1))) (IntKind.wrap .i64 ((j:Int)+1)))=gC (H.map ap) (xP (be W H (j+1))) ((j+1:Nat):Int)∧VT.keep ⟨(iq (W.map ap) (H.map ap) (tP (be W H (j+1)))).objs++o,tP (be W H (j+1))⟩ 1 1=iq (W.map ap) (H.map ap) (tP (be W H (j+1))):=fun o=>by
      rw [gA (by omega)]
      refine ⟨?_,vG _ _ _ (C7 _) o⟩
      simp only [gC,av,TV.ren,aS,mM,Tok.ren];rfl
    refine aA (fun c1=> ?_) (fun c1=> ?_)
    · have hd:bo W q=false:=by simpa using c1
      rw [hd,cond_false] at htk
      have hx:TV.vec 2 ((be W H (j+1)).map aw) (.tail 0 (be W H (j+1)).length)=xP (be W H (j+1)):=by rw [htk,tv]
      refine ⟨?_, ?_⟩
      · rw [htk];exact Fy _ (be W H j) q hl2 29 32 rfl
      · rw [hx]
        exact ⟨rfl,rfl,j+1,hlt,by show H.length-(j+1)<H.length-j;omega, .inr ⟨(hend [_,_]).2,(hend []).1⟩⟩
    · have hd:bo W q=true:=by simpa using c1
      rw [hd,cond_true,List.append_nil] at htk
      refine ⟨rfl,rfl,j+1,hlt,by show H.length-(j+1)<H.length-j;omega, .inr ?_⟩
      have h1:=(hend [.cells (iy q.1 q.2 a), .cells (bR W q).cells]).2
      have h2:=(hend []).1
      rw [htk] at h1 h2
      show _=iq (W.map ap) (H.map ap) (tP (be W H (j+1)))∧_=gC (H.map ap) (xP (be W H (j+1))) ((j+1:Nat):Int)
      rw [htk]
      exact ⟨h1,h2⟩
  · obtain rfl:j=H.length:=by omega
    have hg:be W H H.length=bx W H:=by unfold be;rw [List.take_length]
    refine bq ae aa (Fz dp false) ah (zq (W.map ap) (H.map ap) 0 0 dp dp false (xP (be W H H.length)) [] .none (tP (be W H H.length)) [] H.length _) (bh (decide_eq_false (by rw [hlen];omega)) ?_)
    rw [hg]
    exact ⟨rfl,rfl,rfl,by simp only [gC,hlen],rfl⟩
theorem ue (W H:List ak) (o:List VO) (tl:bA):VT.keep ⟨.cells [.vec 7 (W.map ap) .none, .vec 7 (H.map ap) .none]::o,tl⟩ 1 0=dw (W.map ap) (H.map ap):=by
 simp only [VT.keep,dw,List.take_succ_cons,List.take_zero,List.map_cons,List.map_nil,VO.ren,av,TV.ren,aS,Tok.ren]
theorem zy (hW:bM W) (hH:bM H):VCx Try.prog ac 0 kR [.ptr 0 0] (dw (ai W) (ai H)) fun x T' =>x= .vec 2 ((bx W H).map aw) .none∧T' =dw (ai W) (ai H):=by
 refine VCx.toLe (Q:=fun T' =>T' =dw (ai W) (ai H)) (VCx.keepQ 1 0 (Nat.le_refl _) (Nat.zero_le _) (am ae aa ag (C8 hW hH) (GX (W.map ap) (H.map ap) (xP (bx W H)) (tP (bx W H)) _) ⟨rfl,⟨rfl,rfl,rfl,trivial,rfl,rfl,rfl⟩,Bt _ _ _,ue W H [] _⟩))
end
end
section
open Go.RowKit
set_option maxRecDepth 100000

section
variable {W H:List ak}
theorem C9 (hW:bM W) (hH:bM H):cK Try.prog ac (BQ 46 (W.map ap) (H.map ap) (W.map ap) (xC (br W H)) (tC (br W H)) (au Try.prog kS 0)):=bz fun q hq=>by
  obtain rfl:=List.mem_singleton.1 hq
  refine bP fun K hK=> ?_
  have hlen:(W.map ap).length=W.length:=List.length_map _
  have hfew:=hW.1
  refine da (f:=kS) (id:=0) (by kernel_rfl) 46 mX (fun j:Nat=>W.length-j) (fun j:Nat=>gC (W.map ap) (xC (aW W H j)) j) (fun j=>iq (W.map ap) (H.map ap) (tC (aW W H j))) (fun j=>j≤W.length) 1 1 (fun j _=>⟨Nat.le_refl _,kO _⟩)
    (fun e vs T=>e= .normal∧vs=gC (W.map ap) (xC (br W H)) (W.map ap).length∧T=iq (W.map ap) (H.map ap) (tC (br W H))) (fun j hj=> ?_) 0 (Nat.zero_le _) K ?_
  rotate_left
  · rintro e vs T ⟨rfl,rfl,rfl⟩
    exact hK
  by_cases hlt:j<W.length
  · have hr:=List.getElem?_eq_getElem hlt
    have hm:=List.getElem_mem hlt
    generalize W[j]=r at hr hm
    obtain ⟨q,a⟩:=r
    have htk:aW W H (j+1)=aW W H j++(bif decide (aH H q=some a) then [] else [(q,a)]):=by
      unfold aW
      rw [show W.take (j+1)=W.take j++ [(q,a)] by rw [List.take_add_one,hr];rfl,pz]
    have hl2:(aW W H j).length≤2000000:=by
      have:=jV (W.take j) H
      have:=List.length_take_le j W
      unfold aW;omega
    have ha:a.p.length≤2000000:=hW.2 _ hm
    have hg:(bR H q).p.length≤2000000:=by
      unfold bR
      cases hf:aH H q with
      | none=>exact Nat.zero_le _
      | some b=>exact hH.2 _ (cE hf)
    have hd2:decide (aH H q=some a)=(bo H q&&decide (bR H q=a)):=by
      unfold bo bR
      cases hf:aH H q with
      | none=>rfl
      | some b=>simp
    refine bq ae aa (B0 _ _ _) ah (zr (W.map ap) (H.map ap) q.1 q.2 a (bR H q) (bo H q) (decide (bR H q=a)) (xC (aW W H j)) ((aW W H (j+1)).map bd) (.tail 0 (aW W H (j+1)).length) (tC (aW W H j)) (tC (aW W H (j+1))) j _) ?_
    refine bB (decide_eq_true (by rw [hlen];omega)) ⟨pE 11 13 rfl hr,⟨H,rfl,hH,rfl,rfl⟩, ?_⟩
    have hend:∀o,av (an 1) (an 1) (gC (W.map ap) (xC (aW W H (j+1))) (IntKind.wrap .i64 ((j:Int)+1)))=gC (W.map ap) (xC (aW W H (j+1))) ((j+1:Nat):Int)∧VT.keep ⟨(iq (W.map ap) (H.map ap) (tC (aW W H (j+1)))).objs++o,tC (aW W H (j+1))⟩ 1 1=iq (W.map ap) (H.map ap) (tC (aW W H (j+1))):=fun o=>by
      rw [gA (by omega)]
      refine ⟨?_,vG _ _ _ (vF _) o⟩
      simp only [gC,av,TV.ren,aS,pA,Tok.ren];rfl
    have happ:∀(hd:decide (aH H q=some a)=false) (os:List VO),bp Try.prog ac 0 ⟨os,tC (aW W H j)⟩ (.call ⟨.builtin .append, #[.tmp 36, .tmp 42], #[94,94]⟩) [(36,xC (aW W H j)),(42, .vec 8 [bd (q,a)] .full)] (.vec 8 ((aW W H (j+1)).map bd) (.tail 0 (aW W H (j+1)).length)) ⟨os,tC (aW W H (j+1))⟩:=fun hd os=>by
      rw [hd,cond_false] at htk
      rw [htk];exact zx os (aW W H j) (q,a) hl2 36 42 rfl
    have hx:∀(hd:decide (aH H q=some a)=false),TV.vec 8 ((aW W H (j+1)).map bd) (.tail 0 (aW W H (j+1)).length)=xC (aW W H (j+1)):=fun hd=>by
      rw [hd,cond_false] at htk
      rw [htk,tJ]
    refine aA (fun c1=> ?_) (fun c1=> ?_)
    · have hh:bo H q=false:=by simpa using c1
      have hd:decide (aH H q=some a)=false:=by rw [hd2,hh];rfl
      refine ⟨happ hd _, ?_⟩
      rw [hx hd]
      exact ⟨rfl,rfl,j+1,hlt,by show W.length-(j+1)<W.length-j;omega, .inr ⟨(hend [_,_]).2,(hend []).1⟩⟩
    · have hh:bo H q=true:=by simpa using c1
      rw [hh,Bool.true_and] at hd2
      refine ⟨⟨bR H q,a,⟨rfl,rfl⟩,⟨by omega,by omega⟩,rfl⟩,aA (fun c2=> ?_) (fun c2=> ?_)⟩
      · have hd:decide (aH H q=some a)=false:=by rw [hd2];simpa using c2
        refine ⟨happ hd _, ?_⟩
        rw [hx hd]
        exact ⟨rfl,rfl,j+1,hlt,by show W.length-(j+1)<W.length-j;omega, .inr ⟨(hend [_,_]).2,(hend []).1⟩⟩
      · have hd:decide (aH H q=some a)=true:=by rw [hd2];simpa using c2
        rw [hd,cond_true,List.append_nil] at htk
        refine ⟨rfl,rfl,j+1,hlt,by show W.length-(j+1)<W.length-j;omega, .inr ?_⟩
        have h1:=(hend [.cells (iy q.1 q.2 a), .cells (bR H q).cells]).2
        have h2:=(hend []).1
        rw [htk] at h1 h2
        show _=iq (W.map ap) (H.map ap) (tC (aW W H (j+1)))∧_=gC (W.map ap) (xC (aW W H (j+1))) ((j+1:Nat):Int)
        rw [htk]
        exact ⟨h1,h2⟩
  · obtain rfl:j=W.length:=by omega
    have hg:aW W H W.length=br W H:=by unfold aW;rw [List.take_length]
    refine bq ae aa (B0 dp false false) ah (zr (W.map ap) (H.map ap) 0 0 dp dp false false (xC (aW W H W.length)) [] .none (tC (aW W H W.length)) [] W.length _) (bh (decide_eq_false (by rw [hlen];omega)) ?_)
    rw [hg]
    exact ⟨rfl,rfl,rfl,by simp only [gC,hlen],rfl⟩
theorem zA (hW:bM W) (hH:bM H):VCx Try.prog ac 0 kS [.ptr 0 0] (dw (ai W) (ai H)) fun x T' =>x= .vec 8 ((br W H).map bd) .none∧T' =dw (ai W) (ai H):=by
 refine VCx.toLe (Q:=fun T' =>T' =dw (ai W) (ai H)) (VCx.keepQ 1 0 (Nat.le_refl _) (Nat.zero_le _) (am ae aa ag (C9 hW hH) (GY (W.map ap) (H.map ap) (xC (br W H)) (tC (br W H)) _) ⟨rfl,⟨rfl,rfl,rfl,trivial,rfl,rfl,rfl⟩,wU _ _ _,ue W H [] _⟩))
theorem FA (L:Bs):∀ro ys T K,Fw L ro ys T K→VCx Try.prog ac ro kR ys T K:=by
 intro ro ys T K hw
 unfold Fw at hw
 split at hw
 ·obtain ⟨⟨rfl,W,H,rfl,hW,hH,rfl⟩,hk⟩:=hw
  refine (zy hW hH).mono ?_
  rintro x T ⟨rfl,rfl⟩
  exact hk
 ·exact hw.elim
theorem FB (L:Bs):∀ro ys T K,Fx L ro ys T K→VCx Try.prog ac ro kS ys T K:=by
 intro ro ys T K hw
 unfold Fx at hw
 split at hw
 ·obtain ⟨⟨rfl,W,H,rfl,hW,hH,rfl⟩,hk⟩:=hw
  refine (zA hW hH).mono ?_
  rintro x T ⟨rfl,rfl⟩
  exact hk
 ·exact hw.elim
theorem zl (n:Nat):ax BinOp.eql (aj (.int .i64 (n:Int)) (.int .i64 0))=decide (n=0):=by
 rw [jT]
 by_cases h:n=0
 ·subst h;rfl
 ·rw [decide_eq_false h];exact decide_eq_false (by omega)
theorem FC (hW:bM W) (hH:bM H):VCx Try.prog ac 0 y7 [.ptr 0 0] (dw (ai W) (ai H)) fun x T' =>x= .val (.bool (iK W H))∧T' =dw (ai W) (ai H):=by
 refine am ae aa (aQ fun q hq=>by
  rcases List.mem_cons.1 hq with rfl | hq;exact FA _
  obtain rfl:=List.mem_singleton.1 hq;exact FB _) ah (GZ (ai W) (ai H) (t7 W H) (t8 W H) _) ⟨⟨rfl,W,H,rfl,hW,hH,rfl⟩, ?_⟩
 have l1:(t7 W H).length=(bx W H).length:=List.length_map _
 have l2:(t8 W H).length=(br W H).length:=List.length_map _
 refine aA (fun h=>⟨⟨rfl,W,H,rfl,hW,hH,rfl⟩, ?_,rfl⟩) (fun h=>⟨?_,rfl⟩)
 ·rw [zl,l1] at h
  rw [zl,l2]
  have:=of_decide_eq_true h
  unfold iK
  rw [this,Nat.zero_add]
 ·rw [zl,l1] at h
  have:=of_decide_eq_false h
  unfold iK
  rw [decide_eq_false (by omega)]
end
theorem Da (l:List Px) (hl:l.length≤2000000):cK Try.prog ac (BS 26 2 (l.map aw) (au Try.prog jx 0)):=bz fun q hq=>by
  obtain rfl:=List.mem_singleton.1 hq
  refine bP fun K hK=> ?_
  have hlen:(l.map aw).length=l.length:=List.length_map _
  refine da (f:=jx) (id:=0) (by kernel_rfl) 26 mY (fun j:Nat=>l.length-j) (fun j:Nat=>lX 2 (l.map aw) j) (fun _=>⟨[], []⟩) (fun j=>j≤l.length) 0 0 (fun j _=>⟨Nat.le_refl _,Nat.le_refl _⟩)
    (fun e vs T=>e= .normal∧vs=lX 2 (l.map aw) (l.map aw).length∧T=⟨[], []⟩) (fun j hj=> ?_) 0 (Nat.zero_le _) K ?_
  rotate_left
  · rintro e vs T ⟨rfl,rfl,rfl⟩
    exact hK
  by_cases hlt:j<l.length
  · have hr:=List.getElem?_eq_getElem hlt
    generalize l[j]=p at hr
    refine bq ae aa ag ah (zt (l.map aw) p.1 p.2 j _) ?_
    refine bB (decide_eq_true (by rw [hlen];omega)) ⟨BP 16 17 rfl hr,BP 20 21 rfl hr, ?_⟩
    show cond (ax BinOp.neq (aj (bH p) (bH p))) _ _
    rw [A6]
    refine bh (by simp) ⟨rfl,rfl,j+1,hlt,by show l.length-(j+1)<l.length-j;omega, .inr ⟨rfl, ?_⟩⟩
    rw [gA (by omega)]
    simp only [lX,av,TV.ren,de,Tok.ren]
  · obtain rfl:j=l.length:=by omega
    refine bq ae aa ag ah (zt (l.map aw) 0 0 l.length _) (bh (decide_eq_false (by rw [hlen];omega)) ?_)
    exact ⟨rfl,rfl,rfl,by simp only [lX,hlen],rfl⟩
theorem FD (l:List Px) (hl:l.length≤2000000):VCx Try.prog ac 0 jx [.vec 2 (l.map aw) .none, .vec 2 (l.map aw) .none] ⟨[], []⟩ fun x T' =>x= .val (.bool true)∧T' =⟨[], []⟩:=
 am ae aa ag (Da l hl) (G1 (l.map aw) _) (bh (by rw [nI];simp) ⟨rfl,⟨rfl,rfl,rfl,trivial,rfl,rfl,rfl⟩,rfl,rfl⟩)
theorem FE:∀ro ys T K,BX ro ys T K→VCx Try.prog ac ro jx ys T K:=by
 intro ro ys T K hw
 unfold BX at hw
 split at hw
 ·obtain ⟨⟨l,rfl,rfl,hl⟩,hk⟩:=hw
  exact VCx.loosePure ay (FD l hl) (by simp [co]) (by simp only [av,TV.ren,de,Tok.ren]) (fun _ _=>rfl) hk
 ·exact hw.elim
theorem B1 (ok:Bool):aT Try.prog ac (aD [(eP,mP ok)]):=aQ fun q hq=>by obtain rfl:=List.mem_singleton.1 hq;exact qt _
theorem Db (l:List ak) (hl:l.length≤2000000) (hp:∀r∈l,r.2.p.length≤2000000):cK Try.prog ac (BS 55 8 (l.map bd) (au Try.prog jy 0)):=bz fun q hq=>by
  obtain rfl:=List.mem_singleton.1 hq
  refine bP fun K hK=> ?_
  have hlen:(l.map bd).length=l.length:=List.length_map _
  refine da (f:=jy) (id:=0) (by kernel_rfl) 55 mY (fun j:Nat=>l.length-j) (fun j:Nat=>lX 8 (l.map bd) j) (fun _=>⟨[], []⟩) (fun j=>j≤l.length) 0 0 (fun j _=>⟨Nat.le_refl _,Nat.le_refl _⟩)
    (fun e vs T=>e= .normal∧vs=lX 8 (l.map bd) (l.map bd).length∧T=⟨[], []⟩) (fun j hj=> ?_) 0 (Nat.zero_le _) K ?_
  rotate_left
  · rintro e vs T ⟨rfl,rfl,rfl⟩
    exact hK
  by_cases hlt:j<l.length
  · have hr:=List.getElem?_eq_getElem hlt
    have hm:=List.getElem_mem hlt
    generalize l[j]=r at hr hm
    have ha:=hp r hm
    refine bq ae aa (B1 true) ah (zu (l.map bd) r.1.1 r.1.2 r.2 false true j _) ?_
    refine bB (decide_eq_true (by rw [hlen];omega)) ⟨nr 16 17 rfl hr,nr 21 22 rfl hr, ?_⟩
    show cond (ax BinOp.neq (aj (bH r.1) (bH r.1))) _ _
    rw [A6]
    refine bh (by simp) ⟨nr 28 29 rfl hr,nr 33 34 rfl hr,bh (HD _) ⟨nr 41 42 rfl hr,nr 46 47 rfl hr,⟨r.2,r.2,⟨rfl,rfl⟩,⟨by omega,by omega⟩,(decide_eq_true rfl).symm⟩,bh rfl ⟨rfl,rfl,j+1,hlt,by show l.length-(j+1)<l.length-j;omega, .inr ⟨rfl, ?_⟩⟩⟩⟩
    rw [gA (by omega)]
    simp only [lX,av,TV.ren,dR,Tok.ren]
  · obtain rfl:j=l.length:=by omega
    refine bq ae aa (B1 true) ah (zu (l.map bd) 0 0 dp false true l.length _) (bh (decide_eq_false (by rw [hlen];omega)) ?_)
    exact ⟨rfl,rfl,rfl,by simp only [lX,hlen],rfl⟩
theorem FF (l:List ak) (hl:l.length≤2000000) (hp:∀r∈l,r.2.p.length≤2000000):VCx Try.prog ac 0 jy [.vec 8 (l.map bd) .none, .vec 8 (l.map bd) .none] ⟨[], []⟩ fun x T' =>x= .val (.bool true)∧T' =⟨[], []⟩:=
 am ae aa ag (Db l hl hp) (G2 (l.map bd) _) (bh (by rw [nI];simp) ⟨rfl,⟨rfl,rfl,rfl,trivial,rfl,rfl,rfl⟩,rfl,rfl⟩)
theorem FG:∀ro ys T K,BY ro ys T K→VCx Try.prog ac ro jy ys T K:=by
 intro ro ys T K hw
 unfold BY at hw
 split at hw
 ·obtain ⟨⟨l,rfl,rfl,hl,hp⟩,hk⟩:=hw
  exact VCx.loosePure ay (FF l hl hp) (by simp [co]) (by simp only [av,TV.ren,dR,Tok.ren]) (fun _ _=>rfl) hk
 ·exact hw.elim
theorem Dc (l:List ak) (o:List VO):VT.keep ⟨o,tC l⟩ 0 1=⟨[],tC l⟩:=by
 simp only [VT.keep,List.take_zero,List.map_nil,vF]
theorem Dd (l:List ak) (hl:l.length≤2000000):cK Try.prog ac (Ho (l.map bd) (xC l) (tC l) (au Try.prog mW 0)):=bz fun q hq=>by
  obtain rfl:=List.mem_singleton.1 hq
  refine bP fun K hK=> ?_
  have hlen:(l.map bd).length=l.length:=List.length_map _
  refine da (f:=mW) (id:=0) (by kernel_rfl) 19 ub (fun j:Nat=>l.length-j) (fun j:Nat=>uc (l.map bd) (xC (l.take j)) j) (fun j=>⟨[],tC (l.take j)⟩) (fun j=>j≤l.length) 0 1 (fun j _=>⟨Nat.le_refl _,kO _⟩)
    (fun e vs T=>e= .normal∧vs=uc (l.map bd) (xC l) (l.map bd).length∧T=⟨[],tC l⟩) (fun j hj=> ?_) 0 (Nat.zero_le _) K ?_
  rotate_left
  · rintro e vs T ⟨rfl,rfl,rfl⟩
    exact hK
  by_cases hlt:j<l.length
  · have hr:=List.getElem?_eq_getElem hlt
    generalize l[j]=r at hr
    have ht:l.take (j+1)=l.take j++ [r]:=by rw [List.take_add_one,hr];rfl
    have hl2:(l.take j).length≤2000000:=by have:=List.length_take_le j l;omega
    refine bq ae aa ag ah (zv (l.map bd) r.1.1 r.1.2 r.2 false (xC (l.take j)) ((l.take (j+1)).map bd) (.tail 0 (l.take (j+1)).length) (tC (l.take j)) (tC (l.take (j+1))) j _) ?_
    refine bB (decide_eq_true (by rw [hlen];omega)) ⟨GV 6 8 rfl hr, ?_, ?_⟩
    · rw [ht];exact zx _ (l.take j) r hl2 12 15 rfl
    · refine ⟨rfl,rfl,j+1,hlt,by show l.length-(j+1)<l.length-j;omega, .inr ⟨Dc _ _, ?_⟩⟩
      rw [gA (by omega),show TV.vec 8 ((l.take (j+1)).map bd) (.tail 0 (l.take (j+1)).length)=xC (l.take (j+1)) by rw [ht,tJ]]
      simp only [uc,av,TV.ren,dR,pA,Tok.ren]
  · obtain rfl:j=l.length:=by omega
    refine bq ae aa ag ah (zv (l.map bd) 0 0 dp false (xC (l.take l.length)) [] .none (tC (l.take l.length)) [] l.length _) (bh (decide_eq_false (by rw [hlen];omega)) ?_)
    rw [List.take_length]
    exact ⟨rfl,rfl,rfl,by simp only [uc,hlen],rfl⟩
theorem FH (l:List ak) (hl:l.length≤2000000):VCx Try.prog ac 0 mW [.vec 8 (l.map bd) .none] ⟨[], []⟩ fun x T' =>x= .vec 8 (l.map bd) .none∧T' =⟨[], []⟩:=by
 refine VCx.toLe (Q:=fun T' =>T' =⟨[], []⟩) (VCx.keepQ 0 0 (Nat.le_refl _) (Nat.le_refl _) (am ae aa ag (Dd l hl) (G3 (l.map bd) (xC l) (tC l) _) ⟨rfl,⟨rfl,rfl,rfl,trivial,rfl,rfl,rfl⟩,wU _ _ _,rfl⟩))
theorem FI:∀ro ys T K,BZ ro ys T K→VCx Try.prog ac ro mW ys T K:=by
 intro ro ys T K hw
 unfold BZ at hw
 split at hw
 ·obtain ⟨⟨l,rfl,hl⟩,hk⟩:=hw
  exact VCx.loosePure ay (FH l hl) (by simp [co]) (by simp only [av,TV.ren,dR,Tok.ren]) (fun f g=>by simp only [TV.ren,dR,Tok.ren]) hk
 ·exact hw.elim
end
section
open Go.RowKit
set_option maxRecDepth 100000

theorem vH (objs:List VO) (tl:bA) (W:List ak) (h:W.length≤2000000) (s x:Nat) (hne:Nat.beq s x=false):bp Try.prog ac 0 ⟨objs,tl⟩ (.call ⟨.builtin .append, #[.tmp s, .tmp x], #[39,39]⟩) [(s, .vec 7 [] .full),(x, .vec 7 (W.map ap) .none)] (.vec 7 (W.map ap) (.tail tl.length W.length)) ⟨objs,(tl++ [(0,7,false)]).set tl.length (W.length,7,false)⟩:=by
  obtain ⟨inf,z,i1,i2,i3,i4,i5⟩:=tQ
  have h1:=ef (inf:=inf) (P:=Try.prog) (G:=ac) (ro:=0) (T:=⟨objs,tl⟩) (T1:=⟨objs,tl++ [(0,7,false)]⟩) (t:=39) (tx:=39) (s:= .tmp s) (x:= .tmp x) (l:= [(s, .vec 7 [] .full),(x, .vec 7 (W.map ap) .none)]) (es:= []) (es2:=W.map ap) (k:=tl.length) (n:=0) (bn:=false) Try.underlying39 i1 i4 (by rw [i5,i2]) (by rw [i2];omega) (by kernel_rfl)
    (by rw [i2];simp [aO,bS,dz]) (by rw [i2];simp [aO,bS,hne,gk])
    (by have h1:=i3
        have h2:=Nat.mul_le_mul (show ([]:Bs).length+(W.map ap).length≤2000000 by simp only [List.length_map,List.length_nil];omega) h1
        omega)
  rw [i2,List.nil_append,Nat.zero_add,List.length_map] at h1
  exact h1
section
variable {W H:List ak}
theorem FJ (h1:W.length≤2000000) (h2:H.length≤2000000):VCx Try.prog ac 0 vv [.ptr 0 0] (dw (ai W) (ai H)) fun x T' =>x= .ptr 1 0∧T' =⟨[.cells [.vec 7 (ai W) .none, .vec 7 (ai H) .none], .cells [.vec 7 (ai W) .none, .vec 7 (ai H) .none]], []⟩:=by
 refine VCx.keepQ 2 0 (Nat.le_succ 1) (Nat.le_refl _) ?_
 refine am ae aa ag ah (G0 (W.map ap) (H.map ap) (W.map ap) (H.map ap) (.tail 0 W.length) (.tail 1 H.length) [(W.length,7,false)] [(W.length,7,false),(H.length,7,false)] _) ⟨vH _ [] W h1 3 7 rfl,⟨rfl,rfl,trivial⟩,vH _ [(W.length,7,false)] H h2 9 13 rfl,rfl, ?_⟩
 simp only [VT.keep,List.take_succ_cons,List.take_zero,List.map_cons,List.map_nil,VO.ren,av,TV.ren,aS,Tok.ren,ai]
 rfl
theorem De {r s:ak} (h:ap r=ap s):r=s:=by
 obtain ⟨⟨a,n⟩,x⟩:=r
 obtain ⟨⟨b,m⟩,y⟩:=s
 simp only [ap,List.cons_append,List.nil_append,List.cons.injEq,TV.val.injEq,Value.int.injEq,true_and] at h
 obtain ⟨rfl,rfl,h⟩:=h
 rw [t2 (show fj x=fj y by simp only [fj];rw [h])]
theorem vI:∀{W V:List ak},W.map ap=V.map ap→W=V
 | [], [],_=>rfl
 | [],_::_,h=>by cases h
 | _::_, [],h=>by cases h
 | a::l,b::m,h=>by
  simp only [List.map_cons,List.cons.injEq] at h
  rw [De h.1,vI h.2]
theorem FL:∀ro ys T K,BT ro ys T K→VCx Try.prog ac ro gf ys T K:=by
 intro ro ys T K hw
 unfold BT at hw
 split at hw
 ·rename_i L tk a n
  obtain ⟨⟨W,rfl,hW⟩,hk⟩:=hw
  refine VCx.loosePure ay (zf hW (a,n)) (by simp [co,dg]) (by simp only [av,TV.ren,aS,Tok.ren,dg]) (fun f g=>by simp only [TV.ren,av,AtV.ren']) (hk _ _ fun V e=> ?_)
  rw [vI e]
  exact ⟨rfl,rfl⟩
 ·exact hw.elim
theorem uf {T:VT} (h:oA W H T) {f:FuncId} {v:TV} (hv:VCx Try.prog ac 0 f [.ptr 0 0] (dw (ai W) (ai H)) fun x T' =>x=v∧T' =dw (ai W) (ai H)) (hvr:∀f g,v.ren f g=v) (K:TV→VT→Prop) (hk:K v T):VCx Try.prog ac 0 f [.ptr 3 0] T K:=by
 obtain ⟨⟨o0,o1,o2,os,hT⟩,_,_⟩:=h
 obtain ⟨objs,tl⟩:=T
 simp only at hT;subst hT
 refine (VCx.lift (xs:= [.ptr 0 0]) [3] [] ay (by decide) List.nodup_nil (fun k hk=> ?_) (by simp) (fun _ _=>Nat.zero_le _) rfl (by
  have hg:VT.give ⟨o0::o1::o2:: .cells [.vec 7 (ai W) .none, .vec 7 (ai H) .none]::os,tl⟩ [3] []=dw (ai W) (ai H):=by
   simp only [VT.give,List.map_cons,List.map_nil,List.getElem?_cons_zero,List.getElem?_cons_succ,Option.getD_some,dw,VO.ren,av,TV.ren,ai,aS,Tok.ren]
  rw [hg];exact hv) (fun x T' hq=> ?_)).mono ?_
 ·simp only [List.mem_cons,List.not_mem_nil,or_false] at hk
  subst hk
  exact ⟨_,rfl,rfl⟩
 ·rw [hq.2];exact ⟨Nat.le_refl 1,Nat.zero_le _⟩
 ·rintro x T'' ⟨y,T',⟨rfl,rfl⟩,rfl,rfl⟩
  have hb:VT.back ⟨o0::o1::o2:: .cells [.vec 7 (ai W) .none, .vec 7 (ai H) .none]::os,tl⟩ [3] [] (dw (ai W) (ai H))=⟨o0::o1::o2:: .cells [.vec 7 (ai W) .none, .vec 7 (ai H) .none]::os,tl⟩:=by
   simp only [VT.back,dw,List.length_cons,List.map_cons,List.map_nil,VO.ren,av,TV.ren,ai,aS,Tok.ren,aV]
   simp [aV]
  rw [hvr,hb]
  exact hk
theorem FN (W H:List ak):∀ro ys T K,BU W H ro ys T K→VCx Try.prog ac ro kR ys T K:=by
 intro ro ys T K hw
 unfold BU at hw
 split at hw
 ·obtain ⟨⟨rfl,h⟩,hk⟩:=hw
  exact uf h (zy h.2.1 h.2.2) (fun f g=>by simp only [TV.ren,de,Tok.ren]) K hk
 ·exact hw.elim
theorem FO (W H:List ak):∀ro ys T K,BV W H ro ys T K→VCx Try.prog ac ro kS ys T K:=by
 intro ro ys T K hw
 unfold BV at hw
 split at hw
 ·obtain ⟨⟨rfl,h⟩,hk⟩:=hw
  exact uf h (zA h.2.1 h.2.2) (fun f g=>by simp only [TV.ren,dR,Tok.ren]) K hk
 ·exact hw.elim
theorem FP (W H:List ak):∀ro ys T K,BW W H ro ys T K→VCx Try.prog ac ro y7 ys T K:=by
 intro ro ys T K hw
 unfold BW at hw
 split at hw
 ·obtain ⟨⟨rfl,h⟩,hk⟩:=hw
  exact uf h (FC h.2.1 h.2.2) (fun f g=>rfl) K hk
 ·exact hw.elim
theorem HE (W H:List ak) (y z:AtV) (b c:Bool):aT Try.prog ac (aD [(yG,w9 W H y b),(gf,BT),(yH,xa W H z c),(yI,BN),(eP,mP true),(nN,BK),(kR,BU W H),(jx,BX),(nO,BL),(mW,BZ),(kS,BV W H),(jy,BY),(yM,BM),(y7,BW W H)]):=aQ fun q hq=>by
 rcases List.mem_cons.1 hq with rfl | hq;exact Fe _ _ _ _
 rcases List.mem_cons.1 hq with rfl | hq;exact FL
 rcases List.mem_cons.1 hq with rfl | hq;exact Ff _ _ _ _
 rcases List.mem_cons.1 hq with rfl | hq;exact Fj
 rcases List.mem_cons.1 hq with rfl | hq;exact qt _
 rcases List.mem_cons.1 hq with rfl | hq;exact Fg
 rcases List.mem_cons.1 hq with rfl | hq;exact FN _ _
 rcases List.mem_cons.1 hq with rfl | hq;exact FE
 rcases List.mem_cons.1 hq with rfl | hq;exact Fh
 rcases List.mem_cons.1 hq with rfl | hq;exact FI
 rcases List.mem_cons.1 hq with rfl | hq;exact FO _ _
 rcases List.mem_cons.1 hq with rfl | hq;exact FG
 rcases List.mem_cons.1 hq with rfl | hq;exact Fi
 obtain rfl:=List.mem_singleton.1 hq;exact FP _ _
theorem A9 (b:Bool):ax BinOp.eql (aj (.bool b) (.bool b))=true:=by cases b<;>rfl
theorem gU {lk:bQ} {es:bF} {ck:Nat} (h:TbOk W lk es ck):bM W:=⟨h.few,h.okp⟩
theorem vJ (s:S6) (hs:TbJ W H s) (o:List VO) (tl:bA):VT.keep ⟨.map kP s.lk s.es s.ck:: .map kP s.lk2 s.es2 s.ck2:: .cells [.map 0, .map 1]:: .cells [.vec 7 (ai W) .none, .vec 7 (ai H) .none]::o,tl⟩ 4 0=fK s.lk s.lk2 s.es s.es2 s.ck s.ck2 (ai W) (ai H):=by
 have e1:=hs.1.ren (an 4) (an 0)
 have e2:=hs.2.ren (an 4) (an 0)
 simp only [VT.keep,fK,List.take_succ_cons,List.take_zero,List.map_cons,List.map_nil,e1,e2]
 simp only [VO.ren,av,TV.ren,ai,aS,Tok.ren]
 rfl
theorem zB (s:S6) (hs:TbJ W H s) (l1:W.length<1000) (l2:H.length<1000) (p:Px):VCx Try.prog ac 0 nR [.ptr 2 0, .ptr 3 0, .agg (aw p)] (fK s.lk s.lk2 s.es s.es2 s.ck s.ck2 (ai W) (ai H)) fun x T' =>x= .val (.bool true)∧T' =fK s.lk s.lk2 s.es s.es2 s.ck s.ck2 (ai W) (ai H):=by
 have hW:=gU hs.1
 have hH:=gU hs.2
 have g1:=t6 hs.1 p
 have g2:=t6 hs.2 p
 have n1:=jU W H
 have n2:=jV W H
 refine VCx.keepQ 4 0 (Nat.le_refl _) (Nat.le_refl _) (am ae aa (HE _ _ _ _ _ _) ah (G4 W H s.lk s.lk2 s.es s.es2 s.ck s.ck2 p.1 p.2 (bR W p) (bR H p) (bo W p) (bo H p) _) ?_)
 refine ⟨⟨rfl,RbAt.of hs l1 l2 _ _,p,rfl,rfl,rfl⟩,⟨W,rfl,hW⟩,fun y b hf=> ?_⟩
 obtain ⟨rfl,rfl⟩:=hf W rfl
 refine ⟨⟨rfl,RbAt.of hs l1 l2 _ _,p,rfl,rfl,rfl⟩,⟨H,rfl,hH⟩,fun z c hf=> ?_⟩
 obtain ⟨rfl,rfl⟩:=hf H rfl
 refine ⟨⟨rfl,_,_,RbAt.of hs l1 l2 _ _⟩,fun n k hl=> ?_⟩
 obtain ⟨V,J,u,rfl,rfl⟩:=hl
 obtain ⟨rfl,rfl⟩:=(RbAt.of hs l1 l2 _ _).uniq u
 refine ⟨⟨_,_,⟨rfl,rfl⟩,⟨Nat.le_trans g1 (by decide),Nat.le_trans g1 (by decide)⟩,(decide_eq_true rfl).symm⟩,bB (A9 _) ⟨⟨_,_,⟨rfl,rfl⟩,⟨Nat.le_trans g2 (by decide),Nat.le_trans g2 (by decide)⟩,(decide_eq_true rfl).symm⟩,bB (A9 _) (bB (by rw [jT];exact decide_eq_true (by simp [ai])) (bB (by rw [jT];exact decide_eq_true (by simp [ai])) ⟨⟨rfl,_,_,RbAt.of hs l1 l2 _ _⟩,fun L gn=> ?_⟩))⟩⟩
 obtain ⟨V,J,u,rfl⟩:=gn
 obtain ⟨rfl,rfl⟩:=(RbAt.of hs l1 l2 _ _).uniq u
 refine ⟨⟨rfl,⟨_,_,_,_,rfl⟩,hW,hH⟩,⟨_,rfl,rfl,by omega⟩,⟨rfl,_,_,RbAt.of hs l1 l2 _ _⟩,fun L nw=> ?_⟩
 obtain ⟨V,J,u,rfl⟩:=nw
 obtain ⟨rfl,rfl⟩:=(RbAt.of hs l1 l2 _ _).uniq u
 refine ⟨⟨_,rfl,by omega⟩,⟨rfl,⟨_,_,_,_,rfl⟩,hW,hH⟩,⟨_,rfl,rfl,by omega,fun r hr=>hs.1.okp r (zo.1 hr).1⟩,⟨rfl,_,_,RbAt.of hs l1 l2 _ _⟩,fun b hb=> ?_⟩
 obtain ⟨V,J,u,rfl⟩:=hb
 obtain ⟨rfl,rfl⟩:=(RbAt.of hs l1 l2 _ _).uniq u
 refine ⟨⟨rfl,⟨_,_,_,_,rfl⟩,hW,hH⟩, ?_,vJ s hs _ _⟩
 show TV.val (.bool (ax BinOp.eql (aj (Value.bool (iK W H)) (Value.bool (iK W H)))))=_
 rw [A9]
end
end

end Go.Proofs.Ytnfplefcghadfaa