/-Part 6 of the proof of ribEven_holds:RbM,RbN,RbO ... No condition. -/
import Derived.Deep.Slices
import Derived.LaidHandle
import Derived.ProofKit
import Derived.OpenShut
import Derived.Lib.SmallJoins
import Derived.Test.YtnfplefcghadfaaRe1
import Derived.Test.YtnfplefcghadfaaRe2
import Derived.Test.YtnfplefcghadfaaRe3
import Derived.Test.YtnfplefcghadfaaRe4
import Derived.Test.YtnfplefcghadfaaRe5
set_option maxRecDepth 100000
namespace Go.Proofs.Ytnfplefcghadfaa
section
open Go.RowKit

abbrev p9:=69
abbrev AJ:=102
abbrev gS:=70
abbrev ju:=47
abbrev tD:=73
abbrev kH:=46
abbrev jv:=72
abbrev kI:=71
abbrev yI:=33
abbrev yJ:=35
abbrev yK:=36
abbrev yL:=39
def qa:aQ:=fun _ ys T K=>match ys with
 | [.agg [.val (.int .u32 a), .val (.int .i64 n)]]=>gD a n∧K (.val (.bool (fh a n))) T
 | _=>ap 84 default ys
def wN:aQ:=fun _ ys T K=>match ys with
 | [.agg [.val (.int .u32 a), .val (.int .i64 n)], .agg [.val (.int .u32 b), .val (.int .i64 m)]]=>K (.val (.int .i64 (dH a n b m))) T
 | _=>ap 84 default ys
def qb (ok:Bool):aQ:=fun _ ys T K=>match ys with
 | [.agg l]=>n7 l ok∧K (.val (.bool ok)) T
 | _=>ap 84 default ys
def wO (ok:Bool):aQ:=fun _ ys T K=>match ys with
 | [.agg l, .agg m]=>wE l m ok∧K (.val (.bool ok)) T
 | _=>ap 84 default ys
def wP (ok:Bool):aQ:=fun _ ys T K=>match ys with
 | [.agg l]=>DZ l ok∧K (.val (.bool ok)) T
 | _=>ap 84 default ys
def vi (y:AtV) (b:Bool):aQ:=fun _ ys T K=>match ys with
 | [.vec 7 L _, .agg [.val (.int .u32 a), .val (.int .i64 n)]]=>AI L a n y b∧K (.tup [.agg y.cells, .val (.bool b)]) T
 | _=>ap 84 default ys
def rf (R:Bs):aQ:=fun _ ys T K=>match ys with
 | [.vec 7 L _, .agg [.val (.int .u32 a), .val (.int .i64 n)]]=>wM L a n R∧K (.vec 7 R .none) T
 | _=>ap 84 default ys
def vj (R:Bs):aQ:=fun _ ys T K=>match ys with
 | [.vec 7 L _, .agg l]=>tB L l R∧K (.vec 7 R .none) T
 | _=>ap 84 default ys
def qc:List Nat:= [2,1,6,7,8]
def rg (p:Bs) (j:Int):List TV:= [.val (.bool false), .ptr 0 0, .vec 1 p .none, .val (.int .i64 p.length), .val (.int .i64 j)]
noncomputable def FX (a:AtV) (ok:Bool) (c0:Code):Nat→Option (bs × Code):=cT [(0,eR 56 qc [] (rg (iV a.p) 0) ⟨[.cells a.cells], []⟩ (fun K=>∀z:Int,bif ok then K .normal (aL 56 qc (rg (iV a.p) (iV a.p).length)) ⟨[.cells a.cells], []⟩ [] else K .ret (aL 56 qc (rg (iV a.p) z)) ⟨[.cells a.cells], []⟩ []),c0)]
def qd:List Nat:= [4,2,3,43,44]
def rh (p:Bs) (j:Int):List TV:= [.val (.bool false), .ptr 0 0, .ptr 1 0, .val (.int .i64 p.length), .val (.int .i64 j)]
noncomputable def FY (a b:AtV) (ok:Bool) (c0:Code):Nat→Option (bs × Code):=cT [(0,eR 59 qd [] (rh (iV a.p) 0) ⟨[.cells a.cells, .cells b.cells], []⟩ (fun K=>(@Eq Nat (iV a.p).length (iV b.p).length)∧∀z:Int,bif ok then K .normal (aL 59 qd (rh (iV a.p) (iV a.p).length)) ⟨[.cells a.cells, .cells b.cells], []⟩ [] else K .ret (aL 59 qd (rh (iV a.p) z)) ⟨[.cells a.cells, .cells b.cells], []⟩ []),c0)]
def lX (a n:Int) (x:AtV):List TV:= [.val (.int .u32 a), .val (.int .i64 n)]++x.cells
def pm:List TV:= [.val (.int .i64 0), .val (.slice none 0 0), .val (.int .u32 0), .val (.int .i64 0), .val (.bool false)]
def qe:List Nat:= [5,3,4,8,9,10]
def pn (L:Bs) (b:Bool) (j:Int):List TV:= [.val (.bool b), .ptr 0 0, .ptr 1 0, .vec 7 L .none, .val (.int .i64 L.length), .val (.int .i64 j)]
def yM (a n:Int) (x:List TV):VT:=⟨[.cells [.val (.int .u32 a), .val (.int .i64 n)], .cells x], []⟩
noncomputable def FZ (L:Bs) (a n:Int) (y:AtV) (b:Bool) (c0:Code):Nat→Option (bs × Code):=cT [(0,eR 22 qe [] (pn L false 0) (yM a n pm) (fun K=>∀z:Int,bif b then K .ret (aL 22 qe (pn L true z)) ⟨[.cells [.val (.int .u32 a), .val (.int .i64 n)], .cells y.cells, .cells (lX a n y)], []⟩ [] else K .normal (aL 22 qe (pn L false L.length)) (yM a n pm) []),c0)]
def tE:List Nat:= [3,5,8,9,10]
def nM (L:Bs) (x:TV) (j:Int):List TV:= [.ptr 0 0,x, .vec 7 L .none, .val (.int .i64 L.length), .val (.int .i64 j)]
def pp (a n:Int) (tl:bF):VT:=⟨[.cells [.val (.int .u32 a), .val (.int .i64 n)]],tl⟩
noncomputable def F0 (L:Bs) (a n:Int) (x:TV) (tl:bF) (c0:Code):Nat→Option (bs × Code):=cT [(0,eR 24 tE [] (nM L j3 0) (pp a n []) (fun K=>K .normal (aL 24 tE (nM L x L.length)) (pp a n tl) []),c0)]
def tF:List Nat:= [3,5,6,12,13,14]
def lY (L:Bs) (x:TV) (d:Bool) (j:Int):List TV:= [.ptr 0 0,x, .val (.bool d), .vec 7 L .none, .val (.int .i64 L.length), .val (.int .i64 j)]
noncomputable def mR (a n:Int) (y:AtV) (tl:bF):VT:=⟨[.cells (lX a n y)],tl⟩
noncomputable def F3 (R1:Bs) (a n:Int) (y:AtV) (x:TV) (d:Bool) (tl:bF) (c0:Code):Nat→Option (bs × Code):=cT [(0,eR 44 tF [] (lY R1 j3 false 0) (mR a n y []) (fun K=>K .normal (aL 44 tF (lY R1 x d R1.length)) (mR a n y tl) []),c0)]
def vk (xw xh:Bs):VT:=⟨[.cells [.vec 7 xw .none, .vec 7 xh .none]], []⟩
theorem Ft (a:AtV) (ok:Bool) (Q:TV→VT→Prop):an Try.prog ae aO (aH [(999998, .dead,none)]) 300 (FX a ok (aq Try.prog gS 0)) 0 gS [.agg a.cells] ⟨[], []⟩ Q=
 ((aq Try.prog gS (0:Nat)=aq Try.prog gS (0:Nat))∧
 (((@Eq (Option Nat) .none .none)∧
 ((@Eq (Nat) 0 0)∧
 ((@Eq (List Nat) [] [])∧
 (True  ∧
 ((@Eq (VT) ⟨[(.cells [(.val (.int .i64 (AtV.o a))),(.vec 1 (iV (AtV.p a)) .none),(.val (.int .u32 (AtV.h a))),(.val (.int .i64 (AtV.m a))),(.val (.bool (AtV.hm a)))])], []⟩ ⟨[(.cells [(.val (.int .i64 (AtV.o a))),(.vec 1 (iV (AtV.p a)) .none),(.val (.int .u32 (AtV.h a))),(.val (.int .i64 (AtV.m a))),(.val (.bool (AtV.hm a)))])], []⟩)∧
 ((@Eq (Bool) true true)∧
 (@Eq (List TV) [(.val (.bool false)),(.ptr 0 0),(.vec 1 (iV (AtV.p a)) .none),(.val (.int .i64 ((↑(List.length (iV (AtV.p a))):Int)))),(.val (.int .i64 0))] [(.val (.bool false)),(.ptr 0 0),(.vec 1 (iV (AtV.p a)) .none),(.val (.int .i64 ((↑(List.length (iV (AtV.p a))):Int)))),(.val (.int .i64 0))])))))))∧
 (∀z:Int,(bif ok
 then (bif decide (AtV.o a<(0:Int))
 then Q (.val (.bool false)) ⟨[(.cells [(.val (.int .i64 (AtV.o a))),(.vec 1 (iV (AtV.p a)) .none),(.val (.int .u32 (AtV.h a))),(.val (.int .i64 (AtV.m a))),(.val (.bool (AtV.hm a)))])], []⟩
 else (bif decide (AtV.o a>(2:Int))
 then Q (.val (.bool false)) ⟨[(.cells [(.val (.int .i64 (AtV.o a))),(.vec 1 (iV (AtV.p a)) .none),(.val (.int .u32 (AtV.h a))),(.val (.int .i64 (AtV.m a))),(.val (.bool (AtV.hm a)))])], []⟩
 else (bif decide ((↑(List.length (iV (AtV.p a))):Int)>(16:Int))
 then Q (.val (.bool false)) ⟨[(.cells [(.val (.int .i64 (AtV.o a))),(.vec 1 (iV (AtV.p a)) .none),(.val (.int .u32 (AtV.h a))),(.val (.int .i64 (AtV.m a))),(.val (.bool (AtV.hm a)))])], []⟩
 else (bif aw BinOp.neq (ai (Value.int IntKind.u32 (AtV.h a)) (Value.int IntKind.u32 (0:Int)))
 then (bif aw BinOp.neq (ai (Value.int IntKind.u32 (AtV.h a)) (Value.int IntKind.u32 (4294967295:Int)))
 then (bif aw BinOp.neq (ai (Value.int IntKind.u32 (Int.fdiv (AtV.h a) ((2:Int)^min (Int.toNat (24:Int)) (IntKind.bits IntKind.u32)))) (Value.int IntKind.u32 (127:Int)))
 then (bif !aw BinOp.neq (ai (Value.int IntKind.u32 (Int.fdiv (AtV.h a) ((2:Int)^min (Int.toNat (29:Int)) (IntKind.bits IntKind.u32)))) (Value.int IntKind.u32 (7:Int)))
 then Q (.val (.bool false)) ⟨[(.cells [(.val (.int .i64 (AtV.o a))),(.vec 1 (iV (AtV.p a)) .none),(.val (.int .u32 (AtV.h a))),(.val (.int .i64 (AtV.m a))),(.val (.bool (AtV.hm a)))])], []⟩
 else (bif decide (AtV.m a<(0:Int))
 then Q (.val (.bool false)) ⟨[(.cells [(.val (.int .i64 (AtV.o a))),(.vec 1 (iV (AtV.p a)) .none),(.val (.int .u32 (AtV.h a))),(.val (.int .i64 (AtV.m a))),(.val (.bool (AtV.hm a)))])], []⟩
 else (bif decide (AtV.m a>(4294967295:Int))
 then Q (.val (.bool false)) ⟨[(.cells [(.val (.int .i64 (AtV.o a))),(.vec 1 (iV (AtV.p a)) .none),(.val (.int .u32 (AtV.h a))),(.val (.int .i64 (AtV.m a))),(.val (.bool (AtV.hm a)))])], []⟩
 else (bif AtV.hm a
 then Q (.val (.bool true)) ⟨[(.cells [(.val (.int .i64 (AtV.o a))),(.vec 1 (iV (AtV.p a)) .none),(.val (.int .u32 (AtV.h a))),(.val (.int .i64 (AtV.m a))),(.val (.bool (AtV.hm a)))])], []⟩
 else Q (.val (.bool (aw BinOp.eql (ai (Value.int IntKind.i64 (AtV.m a)) (Value.int IntKind.i64 (0:Int)))))) ⟨[(.cells [(.val (.int .i64 (AtV.o a))),(.vec 1 (iV (AtV.p a)) .none),(.val (.int .u32 (AtV.h a))),(.val (.int .i64 (AtV.m a))),(.val (.bool (AtV.hm a)))])], []⟩))))
 else Q (.val (.bool false)) ⟨[(.cells [(.val (.int .i64 (AtV.o a))),(.vec 1 (iV (AtV.p a)) .none),(.val (.int .u32 (AtV.h a))),(.val (.int .i64 (AtV.m a))),(.val (.bool (AtV.hm a)))])], []⟩)
 else Q (.val (.bool false)) ⟨[(.cells [(.val (.int .i64 (AtV.o a))),(.vec 1 (iV (AtV.p a)) .none),(.val (.int .u32 (AtV.h a))),(.val (.int .i64 (AtV.m a))),(.val (.bool (AtV.hm a)))])], []⟩)
 else Q (.val (.bool false)) ⟨[(.cells [(.val (.int .i64 (AtV.o a))),(.vec 1 (iV (AtV.p a)) .none),(.val (.int .u32 (AtV.h a))),(.val (.int .i64 (AtV.m a))),(.val (.bool (AtV.hm a)))])], []⟩))))
 else Q (.val (.bool false)) ⟨[(.cells [(.val (.int .i64 (AtV.o a))),(.vec 1 (iV (AtV.p a)) .none),(.val (.int .u32 (AtV.h a))),(.val (.int .i64 (AtV.m a))),(.val (.bool (AtV.hm a)))])], []⟩)))):=by kernel_rfl
theorem yN (a:AtV) (z:Int) (j:Nat) (Q:Exit→List TV→VT→List Nat→Nat→Prop):vx Try.prog ae aO (aH [(999998, .dead,none),(10, .elt [.val (.int .i64 z)],none)]) 300 aE none 0 (bR Try.prog gS 0) (aL 56 qc (rg (iV a.p) j)) ⟨[.cells a.cells], []⟩ [] (cz qc Q)=
 (bif decide ((↑j:Int)<(↑(List.length (iV (AtV.p a))):Int))
 then (bb Try.prog (fun _=> .none) (.indexAddr 30 (.tmp 6) (.tmp 8)) [(6,(.vec 1 (iV (AtV.p a)) .none)),(8,(.val (.int .i64 ((↑j:Int)))))] (.elt [(.val (.int .i64 (z)))])∧
 (bif decide (z<(1:Int))
 then Q .ret [(.val (.bool false)),(.ptr 0 0),(.vec 1 (iV (AtV.p a)) .none),(.val (.int .i64 ((↑(List.length (iV (AtV.p a))):Int)))),(.val (.int .i64 ((↑j:Int))))] ⟨[(.cells [(.val (.int .i64 (AtV.o a))),(.vec 1 (iV (AtV.p a)) .none),(.val (.int .u32 (AtV.h a))),(.val (.int .i64 (AtV.m a))),(.val (.bool (AtV.hm a)))])], []⟩ [] 56
 else (bif decide (z>(65535:Int))
 then Q .ret [(.val (.bool false)),(.ptr 0 0),(.vec 1 (iV (AtV.p a)) .none),(.val (.int .i64 ((↑(List.length (iV (AtV.p a))):Int)))),(.val (.int .i64 ((↑j:Int))))] ⟨[(.cells [(.val (.int .i64 (AtV.o a))),(.vec 1 (iV (AtV.p a)) .none),(.val (.int .u32 (AtV.h a))),(.val (.int .i64 (AtV.m a))),(.val (.bool (AtV.hm a)))])], []⟩ [] 56
 else Q .normal [(.val (.bool false)),(.ptr 0 0),(.vec 1 (iV (AtV.p a)) .none),(.val (.int .i64 ((↑(List.length (iV (AtV.p a))):Int)))),(.val (.int .i64 (IntKind.wrap IntKind.i64 ((↑j:Int)+(1:Int)))))] ⟨[(.cells [(.val (.int .i64 (AtV.o a))),(.vec 1 (iV (AtV.p a)) .none),(.val (.int .u32 (AtV.h a))),(.val (.int .i64 (AtV.m a))),(.val (.bool (AtV.hm a)))])], []⟩ [] 56)))
 else Q (.exit 0) [(.val (.bool false)),(.ptr 0 0),(.vec 1 (iV (AtV.p a)) .none),(.val (.int .i64 ((↑(List.length (iV (AtV.p a))):Int)))),(.val (.int .i64 ((↑j:Int))))] ⟨[(.cells [(.val (.int .i64 (AtV.o a))),(.vec 1 (iV (AtV.p a)) .none),(.val (.int .u32 (AtV.h a))),(.val (.int .i64 (AtV.m a))),(.val (.bool (AtV.hm a)))])], []⟩ [] 56):=by kernel_rfl
theorem Fu (a b:AtV) (ok:Bool) (Q:TV→VT→Prop):an Try.prog ae aO (aH [(999998, .dead,none)]) 300 (FY a b ok (aq Try.prog ju 0)) 0 ju [.agg a.cells, .agg b.cells] ⟨[], []⟩ Q=
 (bif aw BinOp.neq (ai (Value.int IntKind.i64 (AtV.o a)) (Value.int IntKind.i64 (AtV.o b)))
 then Q (.val (.bool false)) ⟨[(.cells [(.val (.int .i64 (AtV.o a))),(.vec 1 (iV (AtV.p a)) .none),(.val (.int .u32 (AtV.h a))),(.val (.int .i64 (AtV.m a))),(.val (.bool (AtV.hm a)))]),(.cells [(.val (.int .i64 (AtV.o b))),(.vec 1 (iV (AtV.p b)) .none),(.val (.int .u32 (AtV.h b))),(.val (.int .i64 (AtV.m b))),(.val (.bool (AtV.hm b)))])], []⟩
 else (bif aw BinOp.neq (ai (Value.int IntKind.u32 (AtV.h a)) (Value.int IntKind.u32 (AtV.h b)))
 then Q (.val (.bool false)) ⟨[(.cells [(.val (.int .i64 (AtV.o a))),(.vec 1 (iV (AtV.p a)) .none),(.val (.int .u32 (AtV.h a))),(.val (.int .i64 (AtV.m a))),(.val (.bool (AtV.hm a)))]),(.cells [(.val (.int .i64 (AtV.o b))),(.vec 1 (iV (AtV.p b)) .none),(.val (.int .u32 (AtV.h b))),(.val (.int .i64 (AtV.m b))),(.val (.bool (AtV.hm b)))])], []⟩
 else (bif aw BinOp.neq (ai (Value.int IntKind.i64 (AtV.m a)) (Value.int IntKind.i64 (AtV.m b)))
 then Q (.val (.bool false)) ⟨[(.cells [(.val (.int .i64 (AtV.o a))),(.vec 1 (iV (AtV.p a)) .none),(.val (.int .u32 (AtV.h a))),(.val (.int .i64 (AtV.m a))),(.val (.bool (AtV.hm a)))]),(.cells [(.val (.int .i64 (AtV.o b))),(.vec 1 (iV (AtV.p b)) .none),(.val (.int .u32 (AtV.h b))),(.val (.int .i64 (AtV.m b))),(.val (.bool (AtV.hm b)))])], []⟩
 else (bif aw BinOp.neq (ai (Value.bool (AtV.hm a)) (Value.bool (AtV.hm b)))
 then Q (.val (.bool false)) ⟨[(.cells [(.val (.int .i64 (AtV.o a))),(.vec 1 (iV (AtV.p a)) .none),(.val (.int .u32 (AtV.h a))),(.val (.int .i64 (AtV.m a))),(.val (.bool (AtV.hm a)))]),(.cells [(.val (.int .i64 (AtV.o b))),(.vec 1 (iV (AtV.p b)) .none),(.val (.int .u32 (AtV.h b))),(.val (.int .i64 (AtV.m b))),(.val (.bool (AtV.hm b)))])], []⟩
 else (bif aw BinOp.neq (ai (Value.int IntKind.i64 (↑(List.length (iV (AtV.p a))):Int)) (Value.int IntKind.i64 (↑(List.length (iV (AtV.p b))):Int)))
 then Q (.val (.bool false)) ⟨[(.cells [(.val (.int .i64 (AtV.o a))),(.vec 1 (iV (AtV.p a)) .none),(.val (.int .u32 (AtV.h a))),(.val (.int .i64 (AtV.m a))),(.val (.bool (AtV.hm a)))]),(.cells [(.val (.int .i64 (AtV.o b))),(.vec 1 (iV (AtV.p b)) .none),(.val (.int .u32 (AtV.h b))),(.val (.int .i64 (AtV.m b))),(.val (.bool (AtV.hm b)))])], []⟩
 else ((aq Try.prog ju (0:Nat)=aq Try.prog ju (0:Nat))∧
 (((@Eq (Option Nat) .none .none)∧
 ((@Eq (Nat) 0 0)∧
 ((@Eq (List Nat) [] [])∧
 (True  ∧
 ((@Eq (VT) ⟨[(.cells [(.val (.int .i64 (AtV.o a))),(.vec 1 (iV (AtV.p a)) .none),(.val (.int .u32 (AtV.h a))),(.val (.int .i64 (AtV.m a))),(.val (.bool (AtV.hm a)))]),(.cells [(.val (.int .i64 (AtV.o b))),(.vec 1 (iV (AtV.p b)) .none),(.val (.int .u32 (AtV.h b))),(.val (.int .i64 (AtV.m b))),(.val (.bool (AtV.hm b)))])], []⟩ ⟨[(.cells [(.val (.int .i64 (AtV.o a))),(.vec 1 (iV (AtV.p a)) .none),(.val (.int .u32 (AtV.h a))),(.val (.int .i64 (AtV.m a))),(.val (.bool (AtV.hm a)))]),(.cells [(.val (.int .i64 (AtV.o b))),(.vec 1 (iV (AtV.p b)) .none),(.val (.int .u32 (AtV.h b))),(.val (.int .i64 (AtV.m b))),(.val (.bool (AtV.hm b)))])], []⟩)∧
 ((@Eq (Bool) true true)∧
 (@Eq (List TV) [(.val (.bool false)),(.ptr 0 0),(.ptr 1 0),(.val (.int .i64 ((↑(List.length (iV (AtV.p a))):Int)))),(.val (.int .i64 0))] [(.val (.bool false)),(.ptr 0 0),(.ptr 1 0),(.val (.int .i64 ((↑(List.length (iV (AtV.p a))):Int)))),(.val (.int .i64 0))])))))))∧
 ((@Eq (Nat) (List.length (iV (AtV.p a))) (List.length (iV (AtV.p b))))∧
 (∀z:Int,(bif ok
 then Q (.val (.bool true)) ⟨[(.cells [(.val (.int .i64 (AtV.o a))),(.vec 1 (iV (AtV.p a)) .none),(.val (.int .u32 (AtV.h a))),(.val (.int .i64 (AtV.m a))),(.val (.bool (AtV.hm a)))]),(.cells [(.val (.int .i64 (AtV.o b))),(.vec 1 (iV (AtV.p b)) .none),(.val (.int .u32 (AtV.h b))),(.val (.int .i64 (AtV.m b))),(.val (.bool (AtV.hm b)))])], []⟩
 else Q (.val (.bool false)) ⟨[(.cells [(.val (.int .i64 (AtV.o a))),(.vec 1 (iV (AtV.p a)) .none),(.val (.int .u32 (AtV.h a))),(.val (.int .i64 (AtV.m a))),(.val (.bool (AtV.hm a)))]),(.cells [(.val (.int .i64 (AtV.o b))),(.vec 1 (iV (AtV.p b)) .none),(.val (.int .u32 (AtV.h b))),(.val (.int .i64 (AtV.m b))),(.val (.bool (AtV.hm b)))])], []⟩)))))))))):=by kernel_rfl
theorem yO (a b:AtV) (z y:Int) (j:Nat) (Q:Exit→List TV→VT→List Nat→Nat→Prop):vx Try.prog ae aO (aH [(999998, .dead,none),(50, .elt [.val (.int .i64 z)],none),(55, .elt [.val (.int .i64 y)],none)]) 300 aE none 0 (bR Try.prog ju 0) (aL 59 qd (rh (iV a.p) j)) ⟨[.cells a.cells, .cells b.cells], []⟩ [] (cz qd Q)=
 (bif decide ((↑j:Int)<(↑(List.length (iV (AtV.p a))):Int))
 then (bb Try.prog (fun _=> .none) (.indexAddr 30 (.tmp 48) (.tmp 49)) [(48,(.vec 1 (iV (AtV.p a)) .none)),(49,(.val (.int .i64 ((↑j:Int)))))] (.elt [(.val (.int .i64 (z)))])∧
 (bb Try.prog (fun _=> .none) (.indexAddr 30 (.tmp 53) (.tmp 54)) [(53,(.vec 1 (iV (AtV.p b)) .none)),(54,(.val (.int .i64 ((↑j:Int)))))] (.elt [(.val (.int .i64 (y)))])∧
 (bif aw BinOp.neq (ai (Value.int IntKind.i64 z) (Value.int IntKind.i64 y))
 then Q .ret [(.val (.bool false)),(.ptr 0 0),(.ptr 1 0),(.val (.int .i64 ((↑(List.length (iV (AtV.p a))):Int)))),(.val (.int .i64 ((↑j:Int))))] ⟨[(.cells [(.val (.int .i64 (AtV.o a))),(.vec 1 (iV (AtV.p a)) .none),(.val (.int .u32 (AtV.h a))),(.val (.int .i64 (AtV.m a))),(.val (.bool (AtV.hm a)))]),(.cells [(.val (.int .i64 (AtV.o b))),(.vec 1 (iV (AtV.p b)) .none),(.val (.int .u32 (AtV.h b))),(.val (.int .i64 (AtV.m b))),(.val (.bool (AtV.hm b)))])], []⟩ [] 59
 else Q .normal [(.val (.bool false)),(.ptr 0 0),(.ptr 1 0),(.val (.int .i64 ((↑(List.length (iV (AtV.p a))):Int)))),(.val (.int .i64 (IntKind.wrap IntKind.i64 ((↑j:Int)+(1:Int)))))] ⟨[(.cells [(.val (.int .i64 (AtV.o a))),(.vec 1 (iV (AtV.p a)) .none),(.val (.int .u32 (AtV.h a))),(.val (.int .i64 (AtV.m a))),(.val (.bool (AtV.hm a)))]),(.cells [(.val (.int .i64 (AtV.o b))),(.vec 1 (iV (AtV.p b)) .none),(.val (.int .u32 (AtV.h b))),(.val (.int .i64 (AtV.m b))),(.val (.bool (AtV.hm b)))])], []⟩ [] 59)))
 else Q (.exit 0) [(.val (.bool false)),(.ptr 0 0),(.ptr 1 0),(.val (.int .i64 ((↑(List.length (iV (AtV.p a))):Int)))),(.val (.int .i64 ((↑j:Int))))] ⟨[(.cells [(.val (.int .i64 (AtV.o a))),(.vec 1 (iV (AtV.p a)) .none),(.val (.int .u32 (AtV.h a))),(.val (.int .i64 (AtV.m a))),(.val (.bool (AtV.hm a)))]),(.cells [(.val (.int .i64 (AtV.o b))),(.vec 1 (iV (AtV.p b)) .none),(.val (.int .u32 (AtV.h b))),(.val (.int .i64 (AtV.m b))),(.val (.bool (AtV.hm b)))])], []⟩ [] 59):=by kernel_rfl
theorem Fv (a n:Int) (x:AtV) (g ok ok2:Bool) (Q:TV→VT→Prop):an Try.prog ae (aG [(p9,qa),(gS,qb ok),(ju,wO ok2)]) (aH [(999998, .dead,none)]) 300 aE 0 tD [.agg (fm a n x g)] ⟨[], []⟩ Q=
 (bif g
 then (gD (a) (n)∧
 (bif fh a n
 then (wE [(.val (.int .i64 (AtV.o x))),(.vec 1 (iV (AtV.p x)) .none),(.val (.int .u32 (AtV.h x))),(.val (.int .i64 (AtV.m x))),(.val (.bool (AtV.hm x)))] [(.val (.int .i64 0)),(.val (.slice .none 0 0)),(.val (.int .u32 0)),(.val (.int .i64 0)),(.val (.bool false))] (ok2)∧
 Q (.val (.bool (ok2))) ⟨[(.cells [(.val (.int .u32 (a))),(.val (.int .i64 (n))),(.val (.int .i64 (AtV.o x))),(.vec 1 (iV (AtV.p x)) .none),(.val (.int .u32 (AtV.h x))),(.val (.int .i64 (AtV.m x))),(.val (.bool (AtV.hm x))),(.val (.bool (g)))])], []⟩)
 else Q (.val (.bool false)) ⟨[(.cells [(.val (.int .u32 (a))),(.val (.int .i64 (n))),(.val (.int .i64 (AtV.o x))),(.vec 1 (iV (AtV.p x)) .none),(.val (.int .u32 (AtV.h x))),(.val (.int .i64 (AtV.m x))),(.val (.bool (AtV.hm x))),(.val (.bool (g)))])], []⟩))
 else (gD (a) (n)∧
 (bif fh a n
 then (n7 [(.val (.int .i64 (AtV.o x))),(.vec 1 (iV (AtV.p x)) .none),(.val (.int .u32 (AtV.h x))),(.val (.int .i64 (AtV.m x))),(.val (.bool (AtV.hm x)))] (ok)∧
 Q (.val (.bool (ok))) ⟨[(.cells [(.val (.int .u32 (a))),(.val (.int .i64 (n))),(.val (.int .i64 (AtV.o x))),(.vec 1 (iV (AtV.p x)) .none),(.val (.int .u32 (AtV.h x))),(.val (.int .i64 (AtV.m x))),(.val (.bool (AtV.hm x))),(.val (.bool (g)))])], []⟩)
 else Q (.val (.bool false)) ⟨[(.cells [(.val (.int .u32 (a))),(.val (.int .i64 (n))),(.val (.int .i64 (AtV.o x))),(.vec 1 (iV (AtV.p x)) .none),(.val (.int .u32 (AtV.h x))),(.val (.int .i64 (AtV.m x))),(.val (.bool (AtV.hm x))),(.val (.bool (g)))])], []⟩))):=by kernel_rfl
theorem Fw (L:Bs) (a n:Int) (y:AtV) (b:Bool) (Q:TV→VT→Prop):an Try.prog ae aO (aH [(999998, .dead,none)]) 300 (FZ L a n y b (aq Try.prog kH 0)) 0 kH [.vec 7 L .none,dy a n] ⟨[], []⟩ Q=
 ((aq Try.prog kH (0:Nat)=aq Try.prog kH (0:Nat))∧
 (((@Eq (Option Nat) .none .none)∧
 ((@Eq (Nat) 0 0)∧
 ((@Eq (List Nat) [] [])∧
 (True  ∧
 ((@Eq (VT) ⟨[(.cells [(.val (.int .u32 (a))),(.val (.int .i64 (n)))]),(.cells [(.val (.int .i64 0)),(.val (.slice .none 0 0)),(.val (.int .u32 0)),(.val (.int .i64 0)),(.val (.bool false))])], []⟩ ⟨[(.cells [(.val (.int .u32 (a))),(.val (.int .i64 (n)))]),(.cells [(.val (.int .i64 0)),(.val (.slice .none 0 0)),(.val (.int .u32 0)),(.val (.int .i64 0)),(.val (.bool false))])], []⟩)∧
 ((@Eq (Bool) true true)∧
 (@Eq (List TV) [(.val (.bool false)),(.ptr 0 0),(.ptr 1 0),(.vec 7 (L) .none),(.val (.int .i64 ((↑(List.length L):Int)))),(.val (.int .i64 0))] [(.val (.bool false)),(.ptr 0 0),(.ptr 1 0),(.vec 7 (L) .none),(.val (.int .i64 ((↑(List.length L):Int)))),(.val (.int .i64 0))])))))))∧
 (∀z:Int,(bif b
 then Q (.tup [(.agg [(.val (.int .i64 (AtV.o y))),(.vec 1 (iV (AtV.p y)) .none),(.val (.int .u32 (AtV.h y))),(.val (.int .i64 (AtV.m y))),(.val (.bool (AtV.hm y)))]),(.val (.bool true))]) ⟨[(.cells [(.val (.int .u32 (a))),(.val (.int .i64 (n)))]),(.cells [(.val (.int .i64 (AtV.o y))),(.vec 1 (iV (AtV.p y)) .none),(.val (.int .u32 (AtV.h y))),(.val (.int .i64 (AtV.m y))),(.val (.bool (AtV.hm y)))]),(.cells [(.val (.int .u32 (a))),(.val (.int .i64 (n))),(.val (.int .i64 (AtV.o y))),(.vec 1 (iV (AtV.p y)) .none),(.val (.int .u32 (AtV.h y))),(.val (.int .i64 (AtV.m y))),(.val (.bool (AtV.hm y)))])], []⟩
 else Q (.tup [(.agg [(.val (.int .i64 0)),(.val (.slice .none 0 0)),(.val (.int .u32 0)),(.val (.int .i64 0)),(.val (.bool false))]),(.val (.bool false))]) ⟨[(.cells [(.val (.int .u32 (a))),(.val (.int .i64 (n)))]),(.cells [(.val (.int .i64 0)),(.val (.slice .none 0 0)),(.val (.int .u32 0)),(.val (.int .i64 0)),(.val (.bool false))])], []⟩)))):=by kernel_rfl
theorem yP (L:Bs) (a n c m:Int) (y:AtV) (j:Nat) (Q:Exit→List TV→VT→List Nat→Nat→Prop):vx Try.prog ae aO (aH [(999998, .dead,none),(12, .elt (lX c m y),none)]) 300 aE none 0 (bR Try.prog kH 0) (aL 22 qe (pn L false j)) (yM a n pm) [] (cz qe Q)=
 (bif decide ((↑j:Int)<(↑(List.length L):Int))
 then (bb Try.prog (fun _=> .none) (.indexAddr 39 (.tmp 8) (.tmp 10)) [(8,(.vec 7 (L) .none)),(10,(.val (.int .i64 ((↑j:Int)))))] (.elt [(.val (.int .u32 (c))),(.val (.int .i64 (m))),(.val (.int .i64 (AtV.o y))),(.vec 1 (iV (AtV.p y)) .none),(.val (.int .u32 (AtV.h y))),(.val (.int .i64 (AtV.m y))),(.val (.bool (AtV.hm y)))])∧
 (bif aw BinOp.eql (ai ((fun vs=>Value.agg (List.toArray vs)) ((fun x=>Value.int IntKind.u32 c::x) ((fun x=>Value.int IntKind.i64 m::x) []))) ((fun vs=>Value.agg (List.toArray vs)) ((fun x=>Value.int IntKind.u32 a::x) ((fun x=>Value.int IntKind.i64 n::x) []))))
 then Q .ret [(.val (.bool true)),(.ptr 0 0),(.ptr 1 0),(.vec 7 (L) .none),(.val (.int .i64 ((↑(List.length L):Int)))),(.val (.int .i64 ((↑j:Int))))] ⟨[(.cells [(.val (.int .u32 (a))),(.val (.int .i64 (n)))]),(.cells [(.val (.int .i64 (AtV.o y))),(.vec 1 (iV (AtV.p y)) .none),(.val (.int .u32 (AtV.h y))),(.val (.int .i64 (AtV.m y))),(.val (.bool (AtV.hm y)))]),(.cells [(.val (.int .u32 (c))),(.val (.int .i64 (m))),(.val (.int .i64 (AtV.o y))),(.vec 1 (iV (AtV.p y)) .none),(.val (.int .u32 (AtV.h y))),(.val (.int .i64 (AtV.m y))),(.val (.bool (AtV.hm y)))])], []⟩ [] 22
 else Q .normal [(.val (.bool false)),(.ptr 0 0),(.ptr 1 0),(.vec 7 (L) .none),(.val (.int .i64 ((↑(List.length L):Int)))),(.val (.int .i64 (IntKind.wrap IntKind.i64 ((↑j:Int)+(1:Int)))))] ⟨[(.cells [(.val (.int .u32 (a))),(.val (.int .i64 (n)))]),(.cells [(.val (.int .i64 0)),(.val (.slice .none 0 0)),(.val (.int .u32 0)),(.val (.int .i64 0)),(.val (.bool false))]),(.cells [(.val (.int .u32 (c))),(.val (.int .i64 (m))),(.val (.int .i64 (AtV.o y))),(.vec 1 (iV (AtV.p y)) .none),(.val (.int .u32 (AtV.h y))),(.val (.int .i64 (AtV.m y))),(.val (.bool (AtV.hm y)))])], []⟩ [] 22))
 else Q (.exit 0) [(.val (.bool false)),(.ptr 0 0),(.ptr 1 0),(.vec 7 (L) .none),(.val (.int .i64 ((↑(List.length L):Int)))),(.val (.int .i64 ((↑j:Int))))] ⟨[(.cells [(.val (.int .u32 (a))),(.val (.int .i64 (n)))]),(.cells [(.val (.int .i64 0)),(.val (.slice .none 0 0)),(.val (.int .u32 0)),(.val (.int .i64 0)),(.val (.bool false))])], []⟩ [] 22):=by kernel_rfl
theorem Fx (L:Bs) (a n:Int) (x:TV) (tl:bF) (Q:TV→VT→Prop):an Try.prog ae aO (aH [(999998, .dead,none)]) 300 (F0 L a n x tl (aq Try.prog jv 0)) 0 jv [.vec 7 L .none,dy a n] ⟨[], []⟩ Q=
 ((aq Try.prog jv (0:Nat)=aq Try.prog jv (0:Nat))∧
 (((@Eq (Option Nat) .none .none)∧
 ((@Eq (Nat) 0 0)∧
 ((@Eq (List Nat) [] [])∧
 (True  ∧
 ((@Eq (VT) ⟨[(.cells [(.val (.int .u32 (a))),(.val (.int .i64 (n)))])], []⟩ ⟨[(.cells [(.val (.int .u32 (a))),(.val (.int .i64 (n)))])], []⟩)∧
 ((@Eq (Bool) true true)∧
 (@Eq (List TV) [(.ptr 0 0),(.val (.slice .none 0 0)),(.vec 7 (L) .none),(.val (.int .i64 ((↑(List.length L):Int)))),(.val (.int .i64 0))] [(.ptr 0 0),(.val (.slice .none 0 0)),(.vec 7 (L) .none),(.val (.int .i64 ((↑(List.length L):Int)))),(.val (.int .i64 0))])))))))∧
 Q (x) ⟨[(.cells [(.val (.int .u32 (a))),(.val (.int .i64 (n)))])],(tl)⟩)):=by kernel_rfl
theorem yQ (L:Bs) (a n c m:Int) (y:AtV) (x1:TV) (l1:Bs) (tk1:Tok) (tl tl2:bF) (j:Nat) (Q:Exit→List TV→VT→List Nat→Nat→Prop):vx Try.prog ae aO (aH [(999998, .dead,none),(12, .elt (lX c m y),none),(21, .vec 7 l1 tk1,some fun T=>{T with tails:=tl2})]) 300 aE none 0 (bR Try.prog jv 0) (aL 24 tE (nM L x1 j)) (pp a n tl) [] (cz tE Q)=
 (bif decide ((↑j:Int)<(↑(List.length L):Int))
 then (bb Try.prog (fun _=> .none) (.indexAddr 39 (.tmp 8) (.tmp 10)) [(8,(.vec 7 (L) .none)),(10,(.val (.int .i64 ((↑j:Int)))))] (.elt [(.val (.int .u32 (c))),(.val (.int .i64 (m))),(.val (.int .i64 (AtV.o y))),(.vec 1 (iV (AtV.p y)) .none),(.val (.int .u32 (AtV.h y))),(.val (.int .i64 (AtV.m y))),(.val (.bool (AtV.hm y)))])∧
 (bif aw BinOp.neq (ai ((fun vs=>Value.agg (List.toArray vs)) ((fun x=>Value.int IntKind.u32 c::x) ((fun x=>Value.int IntKind.i64 m::x) []))) ((fun vs=>Value.agg (List.toArray vs)) ((fun x=>Value.int IntKind.u32 a::x) ((fun x=>Value.int IntKind.i64 n::x) []))))
 then (bE Try.prog (fun _=> .none) 0 ⟨[(.cells [(.val (.int .u32 (a))),(.val (.int .i64 (n)))]),(.cells [(.val (.int .u32 (c))),(.val (.int .i64 (m))),(.val (.int .i64 (AtV.o y))),(.vec 1 (iV (AtV.p y)) .none),(.val (.int .u32 (AtV.h y))),(.val (.int .i64 (AtV.m y))),(.val (.bool (AtV.hm y)))])],(tl)⟩ (.call ⟨(.builtin .append), #[(.tmp 18),(.tmp 20)], #[39,39]⟩) [(18,(x1)),(20,(.vec 7 [[(.val (.int .u32 (c))),(.val (.int .i64 (m))),(.val (.int .i64 (AtV.o y))),(.vec 1 (iV (AtV.p y)) .none),(.val (.int .u32 (AtV.h y))),(.val (.int .i64 (AtV.m y))),(.val (.bool (AtV.hm y)))]] .full))] (.vec 7 (l1) (tk1)) ⟨[(.cells [(.val (.int .u32 (a))),(.val (.int .i64 (n)))]),(.cells [(.val (.int .u32 (c))),(.val (.int .i64 (m))),(.val (.int .i64 (AtV.o y))),(.vec 1 (iV (AtV.p y)) .none),(.val (.int .u32 (AtV.h y))),(.val (.int .i64 (AtV.m y))),(.val (.bool (AtV.hm y)))])],(tl2)⟩∧
 Q .normal [(.ptr 0 0),(.vec 7 (l1) (tk1)),(.vec 7 (L) .none),(.val (.int .i64 ((↑(List.length L):Int)))),(.val (.int .i64 (IntKind.wrap IntKind.i64 ((↑j:Int)+(1:Int)))))] ⟨[(.cells [(.val (.int .u32 (a))),(.val (.int .i64 (n)))]),(.cells [(.val (.int .u32 (c))),(.val (.int .i64 (m))),(.val (.int .i64 (AtV.o y))),(.vec 1 (iV (AtV.p y)) .none),(.val (.int .u32 (AtV.h y))),(.val (.int .i64 (AtV.m y))),(.val (.bool (AtV.hm y)))])],(tl2)⟩ [] 24)
 else Q .normal [(.ptr 0 0),(x1),(.vec 7 (L) .none),(.val (.int .i64 ((↑(List.length L):Int)))),(.val (.int .i64 (IntKind.wrap IntKind.i64 ((↑j:Int)+(1:Int)))))] ⟨[(.cells [(.val (.int .u32 (a))),(.val (.int .i64 (n)))]),(.cells [(.val (.int .u32 (c))),(.val (.int .i64 (m))),(.val (.int .i64 (AtV.o y))),(.vec 1 (iV (AtV.p y)) .none),(.val (.int .u32 (AtV.h y))),(.val (.int .i64 (AtV.m y))),(.val (.bool (AtV.hm y)))])],(tl)⟩ [] 24))
 else Q (.exit 0) [(.ptr 0 0),(x1),(.vec 7 (L) .none),(.val (.int .i64 ((↑(List.length L):Int)))),(.val (.int .i64 ((↑j:Int))))] ⟨[(.cells [(.val (.int .u32 (a))),(.val (.int .i64 (n)))])],(tl)⟩ [] 24):=by kernel_rfl
theorem Fy (L R1:Bs) (a n:Int) (y:AtV) (x:TV) (d:Bool) (tl:bF) (l1:Bs) (tk1:Tok) (tl2:bF) (Q:TV→VT→Prop):an Try.prog ae (aG [(jv,rf R1)]) (aH [(999998, .dead,none),(42, .vec 7 l1 tk1,some fun T=>{T with tails:=tl2})]) 300 (F3 R1 a n y x d tl (aq Try.prog kI 0)) 0 kI [.vec 7 L .none, .agg (lX a n y)] ⟨[], []⟩ Q=
 (wM (L) (a) (n) (R1)∧
 ((aq Try.prog kI (0:Nat)=aq Try.prog kI (0:Nat))∧
 (((@Eq (Option Nat) .none .none)∧
 ((@Eq (Nat) 0 0)∧
 ((@Eq (List Nat) [] [])∧
 (True  ∧
 ((@Eq (VT) ⟨[(.cells [(.val (.int .u32 (a))),(.val (.int .i64 (n))),(.val (.int .i64 (AtV.o y))),(.vec 1 (iV (AtV.p y)) .none),(.val (.int .u32 (AtV.h y))),(.val (.int .i64 (AtV.m y))),(.val (.bool (AtV.hm y)))])], []⟩ ⟨[(.cells [(.val (.int .u32 (a))),(.val (.int .i64 (n))),(.val (.int .i64 (AtV.o y))),(.vec 1 (iV (AtV.p y)) .none),(.val (.int .u32 (AtV.h y))),(.val (.int .i64 (AtV.m y))),(.val (.bool (AtV.hm y)))])], []⟩)∧
 ((@Eq (Bool) true true)∧
 (@Eq (List TV) [(.ptr 0 0),(.val (.slice .none 0 0)),(.val (.bool false)),(.vec 7 (R1) .none),(.val (.int .i64 ((↑(List.length R1):Int)))),(.val (.int .i64 0))] [(.ptr 0 0),(.val (.slice .none 0 0)),(.val (.bool false)),(.vec 7 (R1) .none),(.val (.int .i64 ((↑(List.length R1):Int)))),(.val (.int .i64 0))])))))))∧
 (bif !d
 then (bE Try.prog (fun _=> .none) 0 ⟨[(.cells [(.val (.int .u32 (a))),(.val (.int .i64 (n))),(.val (.int .i64 (AtV.o y))),(.vec 1 (iV (AtV.p y)) .none),(.val (.int .u32 (AtV.h y))),(.val (.int .i64 (AtV.m y))),(.val (.bool (AtV.hm y)))])],(tl)⟩ (.call ⟨(.builtin .append), #[(.tmp 39),(.tmp 41)], #[39,39]⟩) [(39,(x)),(41,(.vec 7 [[(.val (.int .u32 (a))),(.val (.int .i64 (n))),(.val (.int .i64 (AtV.o y))),(.vec 1 (iV (AtV.p y)) .none),(.val (.int .u32 (AtV.h y))),(.val (.int .i64 (AtV.m y))),(.val (.bool (AtV.hm y)))]] .full))] (.vec 7 (l1) (tk1)) ⟨[(.cells [(.val (.int .u32 (a))),(.val (.int .i64 (n))),(.val (.int .i64 (AtV.o y))),(.vec 1 (iV (AtV.p y)) .none),(.val (.int .u32 (AtV.h y))),(.val (.int .i64 (AtV.m y))),(.val (.bool (AtV.hm y)))])],(tl2)⟩∧
 Q (.vec 7 (l1) (tk1)) ⟨[(.cells [(.val (.int .u32 (a))),(.val (.int .i64 (n))),(.val (.int .i64 (AtV.o y))),(.vec 1 (iV (AtV.p y)) .none),(.val (.int .u32 (AtV.h y))),(.val (.int .i64 (AtV.m y))),(.val (.bool (AtV.hm y)))])],(tl2)⟩)
 else Q (x) ⟨[(.cells [(.val (.int .u32 (a))),(.val (.int .i64 (n))),(.val (.int .i64 (AtV.o y))),(.vec 1 (iV (AtV.p y)) .none),(.val (.int .u32 (AtV.h y))),(.val (.int .i64 (AtV.m y))),(.val (.bool (AtV.hm y)))])],(tl)⟩)))):=by kernel_rfl
theorem yR (L:Bs) (a n:Int) (y:AtV) (c m:Int) (v:AtV) (x1:TV) (d:Bool) (l1 l2:Bs) (tk1 tk2:Tok) (tl tl2 tl3:bF) (j:Nat) (Q:Exit→List TV→VT→List Nat→Nat→Prop):vx Try.prog ae (aG [(AJ,wN)]) (aH [(999998, .dead,none),(16, .elt (lX c m v),none),(31, .vec 7 l1 tk1,some fun T=>{T with tails:=tl2}),(35, .vec 7 l2 tk2,some fun T=>{T with tails:=tl3})]) 300 aE none 0 (bR Try.prog kI 0) (aL 44 tF (lY L x1 d j)) (mR a n y tl) [] (cz tF Q)=
 (bif decide ((↑j:Int)<(↑(List.length L):Int))
 then (bb Try.prog (fun _=> .none) (.indexAddr 39 (.tmp 12) (.tmp 14)) [(12,(.vec 7 (L) .none)),(14,(.val (.int .i64 ((↑j:Int)))))] (.elt [(.val (.int .u32 (c))),(.val (.int .i64 (m))),(.val (.int .i64 (AtV.o v))),(.vec 1 (iV (AtV.p v)) .none),(.val (.int .u32 (AtV.h v))),(.val (.int .i64 (AtV.m v))),(.val (.bool (AtV.hm v)))])∧
 (bif !d
 then (bif decide (dH c m a n>(0:Int))
 then (bE Try.prog (fun _=> .none) 0 ⟨[(.cells [(.val (.int .u32 (a))),(.val (.int .i64 (n))),(.val (.int .i64 (AtV.o y))),(.vec 1 (iV (AtV.p y)) .none),(.val (.int .u32 (AtV.h y))),(.val (.int .i64 (AtV.m y))),(.val (.bool (AtV.hm y)))]),(.cells [(.val (.int .u32 (c))),(.val (.int .i64 (m))),(.val (.int .i64 (AtV.o v))),(.vec 1 (iV (AtV.p v)) .none),(.val (.int .u32 (AtV.h v))),(.val (.int .i64 (AtV.m v))),(.val (.bool (AtV.hm v)))])],(tl)⟩ (.call ⟨(.builtin .append), #[(.tmp 28),(.tmp 30)], #[39,39]⟩) [(28,(x1)),(30,(.vec 7 [[(.val (.int .u32 (a))),(.val (.int .i64 (n))),(.val (.int .i64 (AtV.o y))),(.vec 1 (iV (AtV.p y)) .none),(.val (.int .u32 (AtV.h y))),(.val (.int .i64 (AtV.m y))),(.val (.bool (AtV.hm y)))]] .full))] (.vec 7 (l1) (tk1)) ⟨[(.cells [(.val (.int .u32 (a))),(.val (.int .i64 (n))),(.val (.int .i64 (AtV.o y))),(.vec 1 (iV (AtV.p y)) .none),(.val (.int .u32 (AtV.h y))),(.val (.int .i64 (AtV.m y))),(.val (.bool (AtV.hm y)))]),(.cells [(.val (.int .u32 (c))),(.val (.int .i64 (m))),(.val (.int .i64 (AtV.o v))),(.vec 1 (iV (AtV.p v)) .none),(.val (.int .u32 (AtV.h v))),(.val (.int .i64 (AtV.m v))),(.val (.bool (AtV.hm v)))])],(tl2)⟩∧
 (bE Try.prog (fun _=> .none) 0 ⟨[(.cells [(.val (.int .u32 (a))),(.val (.int .i64 (n))),(.val (.int .i64 (AtV.o y))),(.vec 1 (iV (AtV.p y)) .none),(.val (.int .u32 (AtV.h y))),(.val (.int .i64 (AtV.m y))),(.val (.bool (AtV.hm y)))]),(.cells [(.val (.int .u32 (c))),(.val (.int .i64 (m))),(.val (.int .i64 (AtV.o v))),(.vec 1 (iV (AtV.p v)) .none),(.val (.int .u32 (AtV.h v))),(.val (.int .i64 (AtV.m v))),(.val (.bool (AtV.hm v)))])],(tl2)⟩ (.call ⟨(.builtin .append), #[(.tmp 32),(.tmp 34)], #[39,39]⟩) [(32,(.vec 7 (l1) (tk1))),(34,(.vec 7 [[(.val (.int .u32 (c))),(.val (.int .i64 (m))),(.val (.int .i64 (AtV.o v))),(.vec 1 (iV (AtV.p v)) .none),(.val (.int .u32 (AtV.h v))),(.val (.int .i64 (AtV.m v))),(.val (.bool (AtV.hm v)))]] .full))] (.vec 7 (l2) (tk2)) ⟨[(.cells [(.val (.int .u32 (a))),(.val (.int .i64 (n))),(.val (.int .i64 (AtV.o y))),(.vec 1 (iV (AtV.p y)) .none),(.val (.int .u32 (AtV.h y))),(.val (.int .i64 (AtV.m y))),(.val (.bool (AtV.hm y)))]),(.cells [(.val (.int .u32 (c))),(.val (.int .i64 (m))),(.val (.int .i64 (AtV.o v))),(.vec 1 (iV (AtV.p v)) .none),(.val (.int .u32 (AtV.h v))),(.val (.int .i64 (AtV.m v))),(.val (.bool (AtV.hm v)))])],(tl3)⟩∧
 Q .normal [(.ptr 0 0),(.vec 7 (l2) (tk2)),(.val (.bool true)),(.vec 7 (L) .none),(.val (.int .i64 ((↑(List.length L):Int)))),(.val (.int .i64 (IntKind.wrap IntKind.i64 ((↑j:Int)+(1:Int)))))] ⟨[(.cells [(.val (.int .u32 (a))),(.val (.int .i64 (n))),(.val (.int .i64 (AtV.o y))),(.vec 1 (iV (AtV.p y)) .none),(.val (.int .u32 (AtV.h y))),(.val (.int .i64 (AtV.m y))),(.val (.bool (AtV.hm y)))]),(.cells [(.val (.int .u32 (c))),(.val (.int .i64 (m))),(.val (.int .i64 (AtV.o v))),(.vec 1 (iV (AtV.p v)) .none),(.val (.int .u32 (AtV.h v))),(.val (.int .i64 (AtV.m v))),(.val (.bool (AtV.hm v)))])],(tl3)⟩ [] 44))
 else (bE Try.prog (fun _=> .none) 0 ⟨[(.cells [(.val (.int .u32 (a))),(.val (.int .i64 (n))),(.val (.int .i64 (AtV.o y))),(.vec 1 (iV (AtV.p y)) .none),(.val (.int .u32 (AtV.h y))),(.val (.int .i64 (AtV.m y))),(.val (.bool (AtV.hm y)))]),(.cells [(.val (.int .u32 (c))),(.val (.int .i64 (m))),(.val (.int .i64 (AtV.o v))),(.vec 1 (iV (AtV.p v)) .none),(.val (.int .u32 (AtV.h v))),(.val (.int .i64 (AtV.m v))),(.val (.bool (AtV.hm v)))])],(tl)⟩ (.call ⟨(.builtin .append), #[(.tmp 32),(.tmp 34)], #[39,39]⟩) [(32,(x1)),(34,(.vec 7 [[(.val (.int .u32 (c))),(.val (.int .i64 (m))),(.val (.int .i64 (AtV.o v))),(.vec 1 (iV (AtV.p v)) .none),(.val (.int .u32 (AtV.h v))),(.val (.int .i64 (AtV.m v))),(.val (.bool (AtV.hm v)))]] .full))] (.vec 7 (l2) (tk2)) ⟨[(.cells [(.val (.int .u32 (a))),(.val (.int .i64 (n))),(.val (.int .i64 (AtV.o y))),(.vec 1 (iV (AtV.p y)) .none),(.val (.int .u32 (AtV.h y))),(.val (.int .i64 (AtV.m y))),(.val (.bool (AtV.hm y)))]),(.cells [(.val (.int .u32 (c))),(.val (.int .i64 (m))),(.val (.int .i64 (AtV.o v))),(.vec 1 (iV (AtV.p v)) .none),(.val (.int .u32 (AtV.h v))),(.val (.int .i64 (AtV.m v))),(.val (.bool (AtV.hm v)))])],(tl3)⟩∧
 Q .normal [(.ptr 0 0),(.vec 7 (l2) (tk2)),(.val (.bool (d))),(.vec 7 (L) .none),(.val (.int .i64 ((↑(List.length L):Int)))),(.val (.int .i64 (IntKind.wrap IntKind.i64 ((↑j:Int)+(1:Int)))))] ⟨[(.cells [(.val (.int .u32 (a))),(.val (.int .i64 (n))),(.val (.int .i64 (AtV.o y))),(.vec 1 (iV (AtV.p y)) .none),(.val (.int .u32 (AtV.h y))),(.val (.int .i64 (AtV.m y))),(.val (.bool (AtV.hm y)))]),(.cells [(.val (.int .u32 (c))),(.val (.int .i64 (m))),(.val (.int .i64 (AtV.o v))),(.vec 1 (iV (AtV.p v)) .none),(.val (.int .u32 (AtV.h v))),(.val (.int .i64 (AtV.m v))),(.val (.bool (AtV.hm v)))])],(tl3)⟩ [] 44))
 else (bE Try.prog (fun _=> .none) 0 ⟨[(.cells [(.val (.int .u32 (a))),(.val (.int .i64 (n))),(.val (.int .i64 (AtV.o y))),(.vec 1 (iV (AtV.p y)) .none),(.val (.int .u32 (AtV.h y))),(.val (.int .i64 (AtV.m y))),(.val (.bool (AtV.hm y)))]),(.cells [(.val (.int .u32 (c))),(.val (.int .i64 (m))),(.val (.int .i64 (AtV.o v))),(.vec 1 (iV (AtV.p v)) .none),(.val (.int .u32 (AtV.h v))),(.val (.int .i64 (AtV.m v))),(.val (.bool (AtV.hm v)))])],(tl)⟩ (.call ⟨(.builtin .append), #[(.tmp 32),(.tmp 34)], #[39,39]⟩) [(32,(x1)),(34,(.vec 7 [[(.val (.int .u32 (c))),(.val (.int .i64 (m))),(.val (.int .i64 (AtV.o v))),(.vec 1 (iV (AtV.p v)) .none),(.val (.int .u32 (AtV.h v))),(.val (.int .i64 (AtV.m v))),(.val (.bool (AtV.hm v)))]] .full))] (.vec 7 (l2) (tk2)) ⟨[(.cells [(.val (.int .u32 (a))),(.val (.int .i64 (n))),(.val (.int .i64 (AtV.o y))),(.vec 1 (iV (AtV.p y)) .none),(.val (.int .u32 (AtV.h y))),(.val (.int .i64 (AtV.m y))),(.val (.bool (AtV.hm y)))]),(.cells [(.val (.int .u32 (c))),(.val (.int .i64 (m))),(.val (.int .i64 (AtV.o v))),(.vec 1 (iV (AtV.p v)) .none),(.val (.int .u32 (AtV.h v))),(.val (.int .i64 (AtV.m v))),(.val (.bool (AtV.hm v)))])],(tl3)⟩∧
 Q .normal [(.ptr 0 0),(.vec 7 (l2) (tk2)),(.val (.bool (d))),(.vec 7 (L) .none),(.val (.int .i64 ((↑(List.length L):Int)))),(.val (.int .i64 (IntKind.wrap IntKind.i64 ((↑j:Int)+(1:Int)))))] ⟨[(.cells [(.val (.int .u32 (a))),(.val (.int .i64 (n))),(.val (.int .i64 (AtV.o y))),(.vec 1 (iV (AtV.p y)) .none),(.val (.int .u32 (AtV.h y))),(.val (.int .i64 (AtV.m y))),(.val (.bool (AtV.hm y)))]),(.cells [(.val (.int .u32 (c))),(.val (.int .i64 (m))),(.val (.int .i64 (AtV.o v))),(.vec 1 (iV (AtV.p v)) .none),(.val (.int .u32 (AtV.h v))),(.val (.int .i64 (AtV.m v))),(.val (.bool (AtV.hm v)))])],(tl3)⟩ [] 44)))
 else Q (.exit 0) [(.ptr 0 0),(x1),(.val (.bool (d))),(.vec 7 (L) .none),(.val (.int .i64 ((↑(List.length L):Int)))),(.val (.int .i64 ((↑j:Int))))] ⟨[(.cells [(.val (.int .u32 (a))),(.val (.int .i64 (n))),(.val (.int .i64 (AtV.o y))),(.vec 1 (iV (AtV.p y)) .none),(.val (.int .u32 (AtV.h y))),(.val (.int .i64 (AtV.m y))),(.val (.bool (AtV.hm y)))])],(tl)⟩ [] 44):=by kernel_rfl
theorem Fz (W H R1:Bs) (a n:Int) (x y:AtV) (ok b:Bool) (Q:TV→VT→Prop):an Try.prog ae (aG [(p9,qa),(gS,qb ok),(kH,vi y b),(kI,vj R1)]) (aH [(999998, .dead,none)]) 300 aE 0 yI [.ptr 0 0,dy a n, .agg x.cells] (vk W H) Q=
 (gD (a) (n)∧
 (bif !fh a n
 then Q (.val (.int .i64 2)) ⟨[(.cells [(.vec 7 (W) .none),(.vec 7 (H) .none)]),(.cells [(.val (.int .u32 (a))),(.val (.int .i64 (n)))]),(.cells [(.val (.int .i64 (AtV.o x))),(.vec 1 (iV (AtV.p x)) .none),(.val (.int .u32 (AtV.h x))),(.val (.int .i64 (AtV.m x))),(.val (.bool (AtV.hm x)))])], []⟩
 else (n7 [(.val (.int .i64 (AtV.o x))),(.vec 1 (iV (AtV.p x)) .none),(.val (.int .u32 (AtV.h x))),(.val (.int .i64 (AtV.m x))),(.val (.bool (AtV.hm x)))] (ok)∧
 (bif !ok
 then Q (.val (.int .i64 2)) ⟨[(.cells [(.vec 7 (W) .none),(.vec 7 (H) .none)]),(.cells [(.val (.int .u32 (a))),(.val (.int .i64 (n)))]),(.cells [(.val (.int .i64 (AtV.o x))),(.vec 1 (iV (AtV.p x)) .none),(.val (.int .u32 (AtV.h x))),(.val (.int .i64 (AtV.m x))),(.val (.bool (AtV.hm x)))])], []⟩
 else (AI (W) (a) (n) (y) (b)∧
 (bif !b
 then (bif decide ((↑(List.length W):Int)≥(1024:Int))
 then Q (.val (.int .i64 6)) ⟨[(.cells [(.vec 7 (W) .none),(.vec 7 (H) .none)]),(.cells [(.val (.int .u32 (a))),(.val (.int .i64 (n)))]),(.cells [(.val (.int .i64 (AtV.o x))),(.vec 1 (iV (AtV.p x)) .none),(.val (.int .u32 (AtV.h x))),(.val (.int .i64 (AtV.m x))),(.val (.bool (AtV.hm x)))]),(.cells [(.val (.int .i64 (AtV.o y))),(.vec 1 (iV (AtV.p y)) .none),(.val (.int .u32 (AtV.h y))),(.val (.int .i64 (AtV.m y))),(.val (.bool (AtV.hm y)))])], []⟩
 else (tB (W) [(.val (.int .u32 (a))),(.val (.int .i64 (n))),(.val (.int .i64 (AtV.o x))),(.vec 1 (iV (AtV.p x)) .none),(.val (.int .u32 (AtV.h x))),(.val (.int .i64 (AtV.m x))),(.val (.bool (AtV.hm x)))] (R1)∧
 Q (.val (.int .i64 0)) ⟨[(.cells [(.vec 7 (R1) .none),(.vec 7 (H) .none)]),(.cells [(.val (.int .u32 (a))),(.val (.int .i64 (n)))]),(.cells [(.val (.int .i64 (AtV.o x))),(.vec 1 (iV (AtV.p x)) .none),(.val (.int .u32 (AtV.h x))),(.val (.int .i64 (AtV.m x))),(.val (.bool (AtV.hm x)))]),(.cells [(.val (.int .i64 (AtV.o y))),(.vec 1 (iV (AtV.p y)) .none),(.val (.int .u32 (AtV.h y))),(.val (.int .i64 (AtV.m y))),(.val (.bool (AtV.hm y)))])], []⟩))
 else (tB (W) [(.val (.int .u32 (a))),(.val (.int .i64 (n))),(.val (.int .i64 (AtV.o x))),(.vec 1 (iV (AtV.p x)) .none),(.val (.int .u32 (AtV.h x))),(.val (.int .i64 (AtV.m x))),(.val (.bool (AtV.hm x)))] (R1)∧
 Q (.val (.int .i64 0)) ⟨[(.cells [(.vec 7 (R1) .none),(.vec 7 (H) .none)]),(.cells [(.val (.int .u32 (a))),(.val (.int .i64 (n)))]),(.cells [(.val (.int .i64 (AtV.o x))),(.vec 1 (iV (AtV.p x)) .none),(.val (.int .u32 (AtV.h x))),(.val (.int .i64 (AtV.m x))),(.val (.bool (AtV.hm x)))]),(.cells [(.val (.int .i64 (AtV.o y))),(.vec 1 (iV (AtV.p y)) .none),(.val (.int .u32 (AtV.h y))),(.val (.int .i64 (AtV.m y))),(.val (.bool (AtV.hm y)))])], []⟩))))))):=by kernel_rfl
theorem FA (W H R1:Bs) (a n:Int) (y:AtV) (b:Bool) (Q:TV→VT→Prop):an Try.prog ae (aG [(kH,vi y b),(jv,rf R1)]) (aH [(999998, .dead,none)]) 300 aE 0 yJ [.ptr 0 0,dy a n] (vk W H) Q=
 (AI (W) (a) (n) (y) (b)∧
 (wM (W) (a) (n) (R1)∧
 Q (.val (.bool (b))) ⟨[(.cells [(.vec 7 (R1) .none),(.vec 7 (H) .none)]),(.cells [(.val (.int .u32 (a))),(.val (.int .i64 (n)))]),(.cells [(.val (.int .i64 (AtV.o y))),(.vec 1 (iV (AtV.p y)) .none),(.val (.int .u32 (AtV.h y))),(.val (.int .i64 (AtV.m y))),(.val (.bool (AtV.hm y)))])], []⟩)):=by kernel_rfl
theorem FB (W H R1 R2:Bs) (a n:Int) (x:AtV) (g ok:Bool) (Q:TV→VT→Prop):an Try.prog ae (aG [(tD,wP ok),(jv,rf R1),(kI,vj R2)]) (aH [(999998, .dead,none)]) 300 aE 0 yK [.ptr 0 0, .agg (fm a n x g)] (vk W H) Q=
 (DZ [(.val (.int .u32 (a))),(.val (.int .i64 (n))),(.val (.int .i64 (AtV.o x))),(.vec 1 (iV (AtV.p x)) .none),(.val (.int .u32 (AtV.h x))),(.val (.int .i64 (AtV.m x))),(.val (.bool (AtV.hm x))),(.val (.bool (g)))] (ok)∧
 (bif !ok
 then Q (.val (.int .i64 2)) ⟨[(.cells [(.vec 7 (W) .none),(.vec 7 (H) .none)]),(.cells [(.val (.int .u32 (a))),(.val (.int .i64 (n))),(.val (.int .i64 (AtV.o x))),(.vec 1 (iV (AtV.p x)) .none),(.val (.int .u32 (AtV.h x))),(.val (.int .i64 (AtV.m x))),(.val (.bool (AtV.hm x))),(.val (.bool (g)))])], []⟩
 else (bif g
 then (wM (H) (a) (n) (R1)∧
 Q (.val (.int .i64 0)) ⟨[(.cells [(.vec 7 (W) .none),(.vec 7 (R1) .none)]),(.cells [(.val (.int .u32 (a))),(.val (.int .i64 (n))),(.val (.int .i64 (AtV.o x))),(.vec 1 (iV (AtV.p x)) .none),(.val (.int .u32 (AtV.h x))),(.val (.int .i64 (AtV.m x))),(.val (.bool (AtV.hm x))),(.val (.bool (g)))])], []⟩)
 else (tB (H) [(.val (.int .u32 (a))),(.val (.int .i64 (n))),(.val (.int .i64 (AtV.o x))),(.vec 1 (iV (AtV.p x)) .none),(.val (.int .u32 (AtV.h x))),(.val (.int .i64 (AtV.m x))),(.val (.bool (AtV.hm x)))] (R2)∧
 Q (.val (.int .i64 0)) ⟨[(.cells [(.vec 7 (W) .none),(.vec 7 (R2) .none)]),(.cells [(.val (.int .u32 (a))),(.val (.int .i64 (n))),(.val (.int .i64 (AtV.o x))),(.vec 1 (iV (AtV.p x)) .none),(.val (.int .u32 (AtV.h x))),(.val (.int .i64 (AtV.m x))),(.val (.bool (AtV.hm x))),(.val (.bool (g)))])], []⟩)))):=by kernel_rfl
theorem FC (W H:Bs) (Q:TV→VT→Prop):an Try.prog ae aO (aH [(999998, .dead,none)]) 300 aE 0 yL [.ptr 0 0] (vk W H) Q=
Q (.tup []) ⟨[(.cells [(.vec 7 (W) .none),(.val (.slice .none 0 0))])], []⟩:=by kernel_rfl
end
section
open Go.RowKit
set_option maxRecDepth 100000

theorem yS:∀ro ys T K,qa ro ys T K→VCx Try.prog ae ro p9 ys T K:=by
 intro ro ys T K hw
 unfold qa at hw
 split at hw
 ·rename_i a n
  obtain ⟨⟨⟨h0,h1⟩,hn⟩,hk⟩:=hw
  obtain ⟨m,rfl⟩:∃m:Nat,a=m:=⟨a.toNat,by omega⟩
  have hv:VCalls Try.prog p9 [.agg [.val (.int .u32 m), .val (.int .i64 n)]] ⟨[], []⟩ fun x T' =>x= .val (.bool (hP m n))∧T' =⟨[], []⟩:=
   VCalls.of_grT (us:= [.agg #[.int .u32 m, .int .i64 n]]) rfl (fun w=>Fq m (by omega) n hn w) _
  refine VCx.liftPure az (VCx.ofCalls rfl hv fun _ _=>rfl) rfl (fun _ _=>rfl) ?_
  rw [Ca m (by omega) n];exact hk
 ·exact hw.elim
theorem D3:∀ro ys T K,wN ro ys T K→VCx Try.prog ae ro AJ ys T K:=by
 intro ro ys T K hw
 unfold wN at hw
 split at hw
 ·exact VCx.liftPure az (VCx.ofCalls rfl (Fr _ _ _ _) fun _ _=>rfl) rfl (fun _ _=>rfl) hw
 ·exact hw.elim
theorem Cb {a:AtV} (hn:a.p.length≤9223372036854775807):dl Try.prog ae (FX a (a.p.all cP) (aq Try.prog gS 0)):=bP fun p hp=>by
  obtain rfl:=List.mem_singleton.1 hp
  refine cJ fun K hK=> ?_
  refine eQ (f:=gS) (id:=0) (by kernel_rfl) 56 qc (fun j:Nat=>a.p.length-j) (fun j:Nat=>rg (iV a.p) j) (fun _=>⟨[.cells a.cells], []⟩) (fun j=>j≤a.p.length∧(a.p.take j).all cP=true) 1 0 (fun _ _=>⟨Nat.le_refl _,Nat.le_refl _⟩)
    (fun e vs T=>T=⟨[.cells a.cells], []⟩∧((e= .normal∧a.p.all cP=true∧vs=rg (iV a.p) (iV a.p).length)∨(e= .ret∧a.p.all cP=false∧∃z:Int,vs=rg (iV a.p) z))) (fun j hj=> ?_) 0 ⟨Nat.zero_le _,rfl⟩ K ?_
  · obtain ⟨hj,hall⟩:=hj
    by_cases hlt:j<a.p.length
    · have hat:(iV a.p)[((j:Nat):Int).toNat]?=some (iT a.p[j]):=by rw [Int.toNat_natCast,iV,List.getElem?_map,List.getElem?_eq_getElem hlt];rfl
      have bad:cP a.p[j]=false→a.p.all cP=false:=fun h=>by
        cases hc:a.p.all cP
        · rfl
        · have:=List.all_eq_true.1 hc _ (List.getElem_mem hlt);rw [h] at this;cases this
      refine bt ac aa ag ah (yN a a.p[j] j _) ?_
      refine bx (decide_eq_true (by rw [ik];omega)) ⟨gO rfl rfl (by omega) hat,aA (fun c1=> ?_) (fun c1=>aA (fun c2=> ?_) (fun c2=> ?_))⟩
      · refine ⟨rfl,rfl,rfl, .inr ⟨rfl,bad ?_,j,rfl⟩⟩
        have:=of_decide_eq_true c1
        unfold cP;rw [decide_eq_false (by omega)];rfl
      · refine ⟨rfl,rfl,rfl, .inr ⟨rfl,bad ?_,j,rfl⟩⟩
        have:=of_decide_eq_true c2
        unfold cP;rw [decide_eq_false (p:=a.p[j]≤65535) (by omega),Bool.and_false]
      · have d1:=of_decide_eq_false c1
        have d2:=of_decide_eq_false c2
        refine ⟨rfl,rfl,j+1,⟨hlt, ?_⟩,by show a.p.length-(j+1)<a.p.length-j;omega, .inl ⟨rfl,by rw [gv hlt hn];rfl⟩⟩
        rw [List.take_add_one,List.getElem?_eq_getElem hlt,List.all_append,hall]
        simp only [Option.toList_some,List.all_cons,List.all_nil,Bool.and_true,Bool.true_and]
        unfold cP;rw [decide_eq_true (by omega),decide_eq_true (by omega)];rfl
    · have hj2:j=a.p.length:=by omega
      subst hj2
      rw [List.take_length] at hall
      refine bt ac aa ag ah (yN a 0 a.p.length _) ?_
      exact be (decide_eq_false (by rw [ik];omega)) ⟨rfl,rfl,rfl, .inl ⟨rfl,hall,by simp only [rg,ik]⟩⟩
  · rintro e vs T ⟨rfl,⟨rfl,h1,rfl⟩ | ⟨rfl,h1,z,rfl⟩⟩
    · have:=hK 0;rw [h1] at this;exact this
    · have:=hK z;rw [h1] at this;exact this
theorem Cc {a:AtV} (hn:a.p.length≤9223372036854775807):VCx Try.prog ae 0 gS [.agg a.cells] ⟨[], []⟩ fun x T' =>x= .val (.bool (cD a))∧T' =⟨[], []⟩:=by
 refine VCx.keepQ 0 0 (Nat.le_refl _) (Nat.le_refl _) (ak ac aa ag (Cb hn) (Ft a (a.p.all cP) _) ⟨rfl,⟨rfl,rfl,rfl,trivial,rfl,rfl,rfl⟩,fun z=> ?_⟩)
 have no:∀l:List VO,cD a=false→(TV.ren (am 0) (am 0) (.val (.bool false))= .val (.bool (cD a))∧VT.keep ⟨l, []⟩ 0 0=⟨[], []⟩):=fun l h=>by rw [h];exact ⟨rfl,rfl⟩
 unfold cD at no ⊢
 refine aA (fun h1=> ?_) (fun h1=>no _ (by rw [h1];simp))
 rw [h1] at no ⊢
 refine aA (fun h2=>no _ (by have:=of_decide_eq_true h2;rw [decide_eq_false (p:=0≤a.o) (by omega)];rfl)) (fun h2=> ?_)
 have d2:=of_decide_eq_false h2
 rw [decide_eq_true (p:=0≤a.o) (by omega)] at no ⊢
 refine aA (fun h3=>no _ (by have:=of_decide_eq_true h3;rw [decide_eq_false (p:=a.o≤2) (by omega)];rfl)) (fun h3=> ?_)
 have d3:=of_decide_eq_false h3
 rw [decide_eq_true (p:=a.o≤2) (by omega)] at no ⊢
 rw [ik]
 refine aA (fun h4=>no _ (by have:=of_decide_eq_true h4;rw [decide_eq_false (p:=a.p.length≤16) (by omega)];simp)) (fun h4=> ?_)
 have d4:=of_decide_eq_false h4
 rw [decide_eq_true (p:=a.p.length≤16) (by omega)] at no ⊢
 unfold lu at no ⊢
 generalize aw BinOp.neq (ai (Value.int IntKind.u32 a.h) (Value.int IntKind.u32 (0:Int)))=b1 at no ⊢
 generalize aw BinOp.neq (ai (Value.int IntKind.u32 a.h) (Value.int IntKind.u32 (4294967295:Int)))=b2 at no ⊢
 generalize aw BinOp.neq (ai (Value.int IntKind.u32 (Int.fdiv a.h ((2:Int)^min (Int.toNat (24:Int)) (IntKind.bits IntKind.u32)))) (Value.int IntKind.u32 (127:Int)))=b3 at no ⊢
 generalize aw BinOp.neq (ai (Value.int IntKind.u32 (Int.fdiv a.h ((2:Int)^min (Int.toNat (29:Int)) (IntKind.bits IntKind.u32)))) (Value.int IntKind.u32 (7:Int)))=b4 at no ⊢
 cases b1
 ·exact no _ rfl
 cases b2
 ·exact no _ rfl
 cases b3
 ·exact no _ rfl
 cases b4
 ·exact no _ rfl
 simp only [cond_true,cond_false,Bool.not_true] at no ⊢
 refine aA (fun h5=>no _ ?_) (fun h5=> ?_)
 ·have d5:=of_decide_eq_true h5
  cases a.hm
  ·simp;omega
  ·simp;omega
 have d5:=of_decide_eq_false h5
 refine aA (fun h6=>no _ ?_) (fun h6=> ?_)
 ·have d6:=of_decide_eq_true h6
  cases a.hm
  ·simp;omega
  ·simp;omega
 have d6:=of_decide_eq_false h6
 refine aA (fun h7=> ?_) (fun h7=> ?_)
 ·rw [h7]
  refine ⟨?_,rfl⟩
  have e1:decide (0≤a.m)=true:=decide_eq_true (by omega)
  have e2:decide (a.m≤4294967295)=true:=decide_eq_true (by omega)
  rw [e1,e2];rfl
 ·rw [h7,kB]
  exact ⟨rfl,rfl⟩
theorem vl (ok:Bool):∀ro ys T K,qb ok ro ys T K→VCx Try.prog ae ro gS ys T K:=by
 intro ro ys T K hw
 unfold qb at hw
 split at hw
 ·obtain ⟨⟨a,rfl,hn,rfl⟩,hk⟩:=hw
  exact VCx.liftPure az (Cc hn) (by simp only [ar,TV.ren,AtV.ren']) (fun _ _=>rfl) hk
 ·exact hw.elim
theorem Cd {a b:AtV} (hn:a.p.length≤9223372036854775807):dl Try.prog ae (FY a b (decide (a.p=b.p)) (aq Try.prog ju 0)):=bP fun p hp=>by
  obtain rfl:=List.mem_singleton.1 hp
  have hL:∀l:List Int,(iV l).length=l.length:=fun l=>List.length_map _
  refine cJ fun K hK=> ?_
  obtain ⟨hlm,hK⟩:=hK
  rw [hL,hL] at hlm
  refine eQ (f:=ju) (id:=0) (by kernel_rfl) 59 qd (fun j:Nat=>a.p.length-j) (fun j:Nat=>rh (iV a.p) j) (fun _=>⟨[.cells a.cells, .cells b.cells], []⟩) (fun j=>j≤a.p.length∧a.p.take j=b.p.take j) 2 0 (fun _ _=>⟨Nat.le_refl _,Nat.le_refl _⟩)
    (fun e vs T=>T=⟨[.cells a.cells, .cells b.cells], []⟩∧((e= .normal∧a.p=b.p∧vs=rh (iV a.p) (iV a.p).length)∨(e= .ret∧a.p≠b.p∧∃z:Int,vs=rh (iV a.p) z))) (fun j hj=> ?_) 0 ⟨Nat.zero_le _,rfl⟩ K ?_
  · obtain ⟨hj,hall⟩:=hj
    by_cases hlt:j<a.p.length
    · have hlt2:j<b.p.length:=by omega
      have hat:(iV a.p)[((j:Nat):Int).toNat]?=some (iT a.p[j]):=by rw [Int.toNat_natCast];show (a.p.map _)[j]?=_;rw [List.getElem?_map,List.getElem?_eq_getElem hlt];rfl
      have hat2:(iV b.p)[((j:Nat):Int).toNat]?=some (iT b.p[j]):=by rw [Int.toNat_natCast];show (b.p.map _)[j]?=_;rw [List.getElem?_map,List.getElem?_eq_getElem hlt2];rfl
      refine bt ac aa ag ah (yO a b a.p[j] b.p[j] j _) ?_
      refine bx (decide_eq_true (by rw [hL];omega)) ⟨gO rfl rfl (by omega) hat,gO rfl rfl (by omega) hat2, ?_⟩
      rw [nE]
      refine aA (fun c1=> ?_) (fun c1=> ?_)
      · refine ⟨rfl,rfl,rfl, .inr ⟨rfl,fun h=> ?_,j,rfl⟩⟩
        have he:a.p[j]?=b.p[j]?:=by rw [h]
        rw [List.getElem?_eq_getElem hlt,List.getElem?_eq_getElem hlt2] at he
        injection he with he
        simp [he] at c1
      · refine ⟨rfl,rfl,j+1,⟨hlt, ?_⟩,by show a.p.length-(j+1)<a.p.length-j;omega, .inl ⟨rfl,by rw [gv hlt hn];rfl⟩⟩
        have he:a.p[j]=b.p[j]:=by simpa using c1
        rw [List.take_add_one,List.getElem?_eq_getElem hlt,List.take_add_one,List.getElem?_eq_getElem hlt2,hall,he]
    · have hj2:j=a.p.length:=by omega
      subst hj2
      rw [List.take_length,hlm,List.take_length] at hall
      refine bt ac aa ag ah (yO a b 0 0 a.p.length _) ?_
      exact be (decide_eq_false (by rw [hL];omega)) ⟨rfl,rfl,rfl, .inl ⟨rfl,hall,by simp only [rh,hL]⟩⟩
  · rintro e vs T ⟨rfl,⟨rfl,h1,rfl⟩ | ⟨rfl,h1,z,rfl⟩⟩
    · have:=hK 0;rw [decide_eq_true h1] at this;exact this
    · have:=hK z;rw [decide_eq_false h1] at this;exact this
theorem GE (x y:Bool):aw BinOp.neq (ai (.bool x) (.bool y))= !decide (x=y):=by
 cases x<;>cases y<;>rfl
theorem Ce {a b:AtV} (hn:a.p.length≤9223372036854775807):VCx Try.prog ae 0 ju [.agg a.cells, .agg b.cells] ⟨[], []⟩ fun x T' =>x= .val (.bool (decide (a=b)))∧T' =⟨[], []⟩:=by
 have hL:∀l:List Int,(iV l).length=l.length:=fun l=>List.length_map _
 have no:∀l:List VO,a≠b→(TV.ren (am 0) (am 0) (.val (.bool false))= .val (.bool (decide (a=b)))∧VT.keep ⟨l, []⟩ 0 0=⟨[], []⟩):=fun l h=>by rw [decide_eq_false h];exact ⟨rfl,rfl⟩
 refine VCx.keepQ 0 0 (Nat.le_refl _) (Nat.le_refl _) ?_
 refine ak ac aa ag (Cd hn) (Fu a b (decide (a.p=b.p)) _) ?_
 rw [nE,nE,nE,GE,nE,hL,hL]
 refine aA (fun h=>no _ fun e=> ?_) (fun h1=>aA (fun h=>no _ fun e=> ?_) (fun h2=>aA (fun h=>no _ fun e=> ?_) (fun h3=>aA (fun h=>no _ fun e=> ?_) (fun h4=>aA (fun h=>no _ fun e=> ?_) (fun h0=> ?_)))))
 ·rw [e] at h;simp at h
 ·rw [e] at h;simp at h
 ·rw [e] at h;simp at h
 ·rw [e] at h;simp at h
 ·rw [e] at h;simp at h
 have hlm:a.p.length=b.p.length:=by
  have:=h0
  simp only [Bool.not_eq_false',decide_eq_true_eq] at this
  omega
 refine ⟨rfl,⟨rfl,rfl,rfl,trivial,rfl,rfl,by rw [←hL a.p]⟩,hlm,fun z=> ?_⟩
 have e1:a.o=b.o:=by simpa using h1
 have e2:a.h=b.h:=by simpa using h2
 have e3:a.m=b.m:=by simpa using h3
 have e4:a.hm=b.hm:=by simpa using h4
 refine aA (fun h=> ?_) (fun h=>no _ fun e=> ?_)
 ·have e5:=of_decide_eq_true h
  have e:a=b:=by
   obtain ⟨o,p,h,m,hm⟩:=a
   obtain ⟨o2,p2,h2,m2,hm2⟩:=b
   simp only at e1 e2 e3 e4 e5
   rw [e1,e2,e3,e4,e5]
  rw [decide_eq_true e];exact ⟨rfl,rfl⟩
 ·exact of_decide_eq_false h (by rw [e])
theorem Cf (ok:Bool):∀ro ys T K,wO ok ro ys T K→VCx Try.prog ae ro ju ys T K:=by
 intro ro ys T K hw
 unfold wO at hw
 split at hw
 ·obtain ⟨⟨a,rfl,hn,rfl,rfl⟩,hk⟩:=hw
  refine VCx.liftPure az (xs:= [.agg a.cells, .agg Aq]) (VCx.argsLe (xs:= [.agg a.cells, .agg cK.cells]) ?_ (Ce (b:=cK) hn)) ?_ (fun _ _=>rfl) hk
  ·exact ⟨.refl _, .agg ⟨.refl _, .nil 1, .refl _, .refl _, .refl _,trivial⟩,trivial⟩
  ·simp only [ar,TV.ren,AtV.ren'];rfl
 ·exact hw.elim
theorem Cg (p:Px) {a:AtV} (g:Bool) (hp:gD p.1 p.2) (ha:a.p.length≤9223372036854775807):VCx Try.prog ae 0 tD [.agg (fm p.1 p.2 a g)] ⟨[], []⟩ fun x T' =>x= .val (.bool (eU p a g))∧T' =⟨[], []⟩:=by
 have hS:aT Try.prog ae (aG [(p9,qa),(gS,qb (cD a)),(ju,wO (decide (a=cK)))]):=aV fun q hq=>by
  rcases List.mem_cons.1 hq with rfl | hq;exact yS
  rcases List.mem_cons.1 hq with rfl | hq;exact vl _
  obtain rfl:=List.mem_singleton.1 hq;exact Cf _
 refine VCx.keepQ 0 0 (Nat.le_refl _) (Nat.le_refl _) (ak ac aa hS ah (Fv p.1 p.2 a g (cD a) (decide (a=cK)) _) ?_)
 unfold eU
 refine aA (fun hg=>⟨hp, ?_⟩) (fun hg=>⟨hp, ?_⟩)
 ·subst hg
  refine aA (fun hp=> ?_) (fun hp=> ?_)
  ·rw [hp];exact ⟨⟨a,rfl,ha,rfl,rfl⟩,rfl,rfl⟩
  ·rw [hp];exact ⟨rfl,rfl⟩
 ·subst hg
  refine aA (fun hp=> ?_) (fun hp=> ?_)
  ·rw [hp];exact ⟨⟨a,rfl,ha,rfl⟩,rfl,rfl⟩
  ·rw [hp];exact ⟨rfl,rfl⟩
theorem Ch (ok:Bool):∀ro ys T K,wP ok ro ys T K→VCx Try.prog ae ro tD ys T K:=by
 intro ro ys T K hw
 unfold wP at hw
 split at hw
 ·obtain ⟨⟨p,a,g,rfl,hp,ha,rfl⟩,hk⟩:=hw
  refine VCx.liftPure az (Cg p g hp ha) ?_ (fun _ _=>rfl) hk
  simp only [ar,TV.ren,AtV.cells,cw,Tok.ren,fm,List.cons_append,List.nil_append]
 ·exact hw.elim
end
section
open Go.RowKit
set_option maxRecDepth 100000

theorem qf (r:aj) (f g:Nat→Option Nat):ar f g (aB r)=aB r:=by
 simp only [aB,AtV.cells,List.cons_append,List.nil_append,ar,TV.ren,cw,Tok.ren]
theorem cM (f g:Nat→Option Nat):∀l:List aj,de f g (l.map aB)=l.map aB
 | []=>rfl
 | a::l=>by simp only [List.map_cons,de,qf,cM f g l]
theorem yT:∃(inf:TypeInfo) (z:Value),Try.prog.info? 115=some inf∧inf.size=7∧inf.bytes+1≤200∧inf.zero=some z∧z.cells.size=7:=
 ⟨(Try.prog.info? 115).getD default,((Try.prog.info? 115).getD default).zero.getD default,by kernel_rfl,by kernel_rfl,Nat.le_of_ble_eq_true (by kernel_rfl),by kernel_rfl,by kernel_rfl⟩
theorem wQ {W:List aj} {j:Nat} {r:aj} (x i:Nat) (hne:Nat.beq x i=false) (hp:W[j]?=some r):bb Try.prog ae (.indexAddr 39 (.tmp x) (.tmp i)) [(x, .vec 7 (W.map aB) .none),(i, .val (.int .i64 (j:Int)))] (.elt (aB r)):=by
 obtain ⟨inf,z,i1,i2,i3,i4,i5⟩:=yT
 exact eK (P:=Try.prog) (G:=ae) (inf:=inf) (t:=39) (x:= .tmp x) (i:= .tmp i) (l:= [(x, .vec 7 (W.map aB) .none),(i, .val (.int .i64 (j:Int)))]) (es:=W.map aB) (tok:= .none) (k:= .i64) (z:=(j:Int)) (cs:=aB r) Try.underlying39 i1 (by rw [i2];simp [aS,cS]) (by simp [aS,cS,hne]) (by omega) (by simp [hp])
theorem Gi (p q:Px):aw BinOp.eql (ai (bH p) (bH q))=decide (p=q):=by rw [wH];rfl
theorem Gj (p q:Px):aw BinOp.neq (ai (bH p) (bH q))= !decide (p=q):=by rw [wH];rfl
theorem fJ (r:aj) (W:List aj) (p:Px):ay (r::W) p=if r.1=p then some r.2 else ay W p:=by
 unfold ay
 rw [List.find?_cons]
 by_cases h:r.1=p
 ·simp [h]
 ·simp [h]
theorem up {W:List aj} {p:Px} {j:Nat} (h:ay (W.take j) p=none):ay W p=ay (W.drop j) p:=by
 induction W generalizing j with
 | nil=>simp
 | cons r W ih=>
  cases j with
  | zero=>rfl
  | succ j=>
   rw [List.take_succ_cons,fJ] at h
   split at h
   ·cases h
   ·rename_i hn
    rw [fJ,if_neg hn,List.drop_succ_cons]
    exact ih h
theorem pq {W:List aj} {p:Px} {r:aj} (h:ay W p=none) (hr:r.1≠p):ay (W++ [r]) p=none:=by
 induction W with
 | nil=>simp only [List.nil_append,fJ,if_neg hr];rfl
 | cons s W ih=>
  rw [fJ] at h
  split at h
  ·cases h
  ·rename_i hn
   rw [List.cons_append,fJ,if_neg hn]
   exact ih h
theorem Ci {W:List aj} (hW:ex W) (p:Px):dl Try.prog ae (FZ (W.map aB) p.1 p.2 (cf W p) (ba W p) (aq Try.prog kH 0)):=bP fun q hq=>by
  obtain rfl:=List.mem_singleton.1 hq
  refine cJ fun K hK=> ?_
  have hlen:(W.map aB).length=W.length:=List.length_map _
  have hfew:=hW.1
  refine eQ (f:=kH) (id:=0) (by kernel_rfl) 22 qe (fun j:Nat=>W.length-j) (fun j:Nat=>pn (W.map aB) false j) (fun _=>yM p.1 p.2 pm) (fun j=>j≤W.length∧ay (W.take j) p=none) 2 0 (fun _ _=>⟨Nat.le_refl _,Nat.le_refl _⟩)
    (fun e vs T=>∃z:Int,(e= .normal∧ay W p=none∧vs=pn (W.map aB) false (W.map aB).length∧T=yM p.1 p.2 pm)∨(e= .ret∧ba W p=true∧vs=pn (W.map aB) true z∧T=⟨[.cells [.val (.int .u32 p.1), .val (.int .i64 p.2)], .cells (cf W p).cells, .cells (lX p.1 p.2 (cf W p))], []⟩)) (fun j hj=> ?_) 0 ⟨Nat.zero_le _,rfl⟩ K ?_
  · obtain ⟨hj,hno⟩:=hj
    by_cases hlt:j<W.length
    · have hr:=List.getElem?_eq_getElem hlt
      generalize W[j]=r at hr
      obtain ⟨q,a⟩:=r
      refine bt ac aa ag ah (yP (W.map aB) p.1 p.2 q.1 q.2 a j _) ?_
      refine bx (decide_eq_true (by rw [hlen];omega)) ⟨wQ 8 10 rfl hr, ?_⟩
      show cond (aw BinOp.eql (ai (bH q) (bH p))) _ _
      rw [Gi]
      refine aA (fun c1=> ?_) (fun c1=> ?_)
      · have hqp:=of_decide_eq_true c1
        have hf:ay W p=some a:=by
          rw [up hno]
          have:W.drop j=(q,a)::W.drop (j+1):=by
            rw [List.getElem?_eq_some_iff] at hr
            obtain ⟨h1,h2⟩:=hr
            rw [←h2];exact List.drop_eq_getElem_cons h1
          rw [this,fJ,if_pos hqp]
        refine ⟨rfl,rfl,j, .inr ⟨rfl,by rw [ba,hf];rfl,rfl, ?_⟩⟩
        rw [show cf W p=a by rw [cf,hf];rfl,hqp]
        rfl
      · have hqp:=of_decide_eq_false c1
        refine ⟨rfl,rfl,j+1,⟨hlt, ?_⟩,by show W.length-(j+1)<W.length-j;omega, .inr ⟨rfl, ?_⟩⟩
        · rw [List.take_add_one,hr]
          exact pq hno hqp
        · rw [nk (by omega)]
          simp only [pn,ar,TV.ren,cM,Tok.ren];rfl
    · have hj2:j=W.length:=by omega
      subst hj2
      rw [List.take_length] at hno
      refine bt ac aa ag ah (yP (W.map aB) p.1 p.2 0 0 cK W.length _) ?_
      exact be (decide_eq_false (by rw [hlen];omega)) ⟨rfl,rfl,0, .inl ⟨rfl,hno,by simp only [pn,hlen],rfl⟩⟩
  · rintro e vs T ⟨z,⟨rfl,h1,rfl,rfl⟩ | ⟨rfl,h1,rfl,rfl⟩⟩
    · have:=hK 0
      rw [show ba W p=false by rw [ba,h1];rfl] at this
      exact this
    · have:=hK z
      rw [h1] at this
      exact this
theorem D4 {W:List aj} (hW:ex W) (p:Px):VCx Try.prog ae 0 kH [.vec 7 (W.map aB) .none,dy p.1 p.2] ⟨[], []⟩ fun x T' =>x= .tup [.agg (cf W p).cells, .val (.bool (ba W p))]∧T' =⟨[], []⟩:=by
 refine VCx.toLe (Q:=fun T' =>T' =⟨[], []⟩) (VCx.keepQ 0 0 (Nat.le_refl _) (Nat.le_refl _) (ak ac aa ag (Ci hW p) (Fw (W.map aB) p.1 p.2 (cf W p) (ba W p) _) ⟨rfl,⟨rfl,rfl,rfl,trivial,rfl,rfl,rfl⟩,fun z=> ?_⟩))
 refine aA (fun h=> ?_) (fun h=> ?_)
 ·rw [h]
  refine ⟨.of_eq ?_,rfl⟩
  simp only [TV.ren,ar,AtV.cells,cw,Tok.ren]
 ·rw [h]
  have hf:ay W p=none:=by
   unfold ba at h
   cases hf:ay W p with
   | none=>rfl
   | some a=>rw [hf] at h;cases h
  rw [show cf W p=cK by rw [cf,hf];rfl]
  exact ⟨.tup ⟨.agg ⟨.refl _, .nil 1, .refl _, .refl _, .refl _,trivial⟩, .refl _,trivial⟩,rfl⟩
theorem yU (y:AtV) (b:Bool):∀ro ys T K,vi y b ro ys T K→VCx Try.prog ae ro kH ys T K:=by
 intro ro ys T K hw
 unfold vi at hw
 split at hw
 ·obtain ⟨⟨W,rfl,hW,rfl,rfl⟩,hk⟩:=hw
  refine VCx.loosePure az (D4 hW (_,_)) (by simp [cW,dy]) (by simp only [ar,TV.ren,cM,Tok.ren,dy]) (fun f g=>by simp only [TV.ren,ar,AtV.ren']) hk
 ·exact hw.elim
def xR:List aj→TV
 | []=> .val (.slice none 0 0)
 | r::l=> .vec 7 ((r::l).map aB) (.tail 0 (r::l).length)
def tR:List aj→bF
 | []=> []
 | r::l=> [((r::l).length,7,true)]
theorem yV (l:List aj) (f:Nat→Option Nat):(xR l).ren f (am 1)=xR l:=by
 cases l with
 | nil=>rfl
 | cons p l=>simp only [xR,TV.ren,cM,Tok.ren];rfl
theorem tG (l:List aj):(tR l).length≤1:=by cases l<;>simp [tR]
theorem yW (l:List aj) (p:aj):xR (l++ [p])= .vec 7 ((l++ [p]).map aB) (.tail 0 (l++ [p]).length):=by cases l<;>rfl
theorem D5 (l:List aj) (p:aj):tR (l++ [p])= [((l++ [p]).length,7,true)]:=by cases l<;>rfl
theorem vm (l:List aj):(tR l).take 1=tR l:=List.take_of_length_le (tG _)
theorem wR (l:List aj) (f g:Nat→Option Nat):TVle ((xR l).ren f g) (.vec 7 (l.map aB) .none):=by
 cases l with
 | nil=>exact TVle.nil 7
 | cons p l=>
  simp only [xR,TV.ren,cM]
  exact TVle.vec 7 _ _
theorem kJ (objs:List VO) (l:List aj) (r:aj) (h:l.length≤2000000) (s x:Nat) (hne:Nat.beq s x=false):bE Try.prog ae 0 ⟨objs,tR l⟩ (.call ⟨.builtin .append, #[.tmp s, .tmp x], #[39,39]⟩) [(s,xR l),(x, .vec 7 [aB r] .full)] (.vec 7 ((l++ [r]).map aB) (.tail 0 (l++ [r]).length)) ⟨objs,tR (l++ [r])⟩:=by
  obtain ⟨inf,z,i1,i2,i3,i4,i5⟩:=yT
  have h1:=ij (inf:=inf) (P:=Try.prog) (G:=ae) (ro:=0) (T:=⟨objs,tR l⟩) (T1:=⟨objs, [(l.length,7,true)]⟩) (t:=39) (tx:=39) (s:= .tmp s) (x:= .tmp x) (l:= [(s,xR l),(x, .vec 7 [aB r] .full)]) (es:=l.map aB) (es2:= [aB r]) (k:=0) (n:=l.length) (bn:=true) Try.underlying39 i1 i4 (by rw [i5,i2]) (by rw [i2];omega) (by kernel_rfl)
    (by rw [i2];cases l<;>simp [aS,cS,eY,xR,tR]) (by rw [i2];simp [aS,cS,hne,jB])
    (by have h1:=i3
        have h2:=Nat.mul_le_mul (show (l.map aB).length+ [aB r].length≤2000001 by simp only [List.length_map,List.length_cons,List.length_nil];omega) h1
        omega)
  rw [i2] at h1
  rw [D5]
  rw [show (l++ [r]).map aB=l.map aB++ [aB r] by rw [List.map_append];rfl,show (l++ [r]).length=l.length+ [aB r].length by simp]
  exact h1
theorem tH (W:List aj) (r:aj) (p:Px):ax (W++ [r]) p=ax W p++(bif decide (r.1=p) then [] else [r]):=by
 unfold ax
 rw [List.filter_append]
 congr 1
 simp only [List.filter_cons,List.filter_nil]
 cases decide (r.1=p)<;>rfl
def ef (W:List aj) (p:Px) (j:Nat):List aj:=ax (W.take j) p
theorem Cj {W:List aj} (hW:ex W) (p:Px):dl Try.prog ae (F0 (W.map aB) p.1 p.2 (xR (ax W p)) (tR (ax W p)) (aq Try.prog jv 0)):=bP fun q hq=>by
  obtain rfl:=List.mem_singleton.1 hq
  refine cJ fun K hK=> ?_
  have hlen:(W.map aB).length=W.length:=List.length_map _
  have hfew:=hW.1
  refine eQ (f:=jv) (id:=0) (by kernel_rfl) 24 tE (fun j:Nat=>W.length-j) (fun j:Nat=>nM (W.map aB) (xR (ef W p j)) j) (fun j=>pp p.1 p.2 (tR (ef W p j))) (fun j=>j≤W.length) 1 1 (fun j _=>⟨Nat.le_refl _,tG _⟩)
    (fun e vs T=>e= .normal∧vs=nM (W.map aB) (xR (ax W p)) (W.map aB).length∧T=pp p.1 p.2 (tR (ax W p))) (fun j hj=> ?_) 0 (Nat.zero_le _) K ?_
  rotate_left
  · rintro e vs T ⟨rfl,rfl,rfl⟩
    exact hK
  by_cases hlt:j<W.length
  · have hr:=List.getElem?_eq_getElem hlt
    generalize W[j]=r at hr
    obtain ⟨q,a⟩:=r
    have htk:ef W p (j+1)=ef W p j++(bif decide (q=p) then [] else [(q,a)]):=by
      unfold ef
      rw [show W.take (j+1)=W.take j++ [(q,a)] by rw [List.take_add_one,hr];rfl,tH]
    have hl2:(ef W p j).length≤2000000:=by
      have:=dS (W.take j) p
      have:=List.length_take_le j W
      unfold ef;omega
    refine bt ac aa ag ah (yQ (W.map aB) p.1 p.2 q.1 q.2 a (xR (ef W p j)) ((ef W p (j+1)).map aB) (.tail 0 (ef W p (j+1)).length) (tR (ef W p j)) (tR (ef W p (j+1))) j _) ?_
    refine bx (decide_eq_true (by rw [hlen];omega)) ⟨wQ 8 10 rfl hr, ?_⟩
    show cond (aw BinOp.neq (ai (bH q) (bH p))) _ _
    rw [Gj]
    have hend:∀o,ar (am 1) (am 1) (nM (W.map aB) (xR (ef W p (j+1))) (IntKind.wrap .i64 ((j:Int)+1)))=nM (W.map aB) (xR (ef W p (j+1))) ((j+1:Nat):Int)∧VT.keep ⟨(pp p.1 p.2 (tR (ef W p (j+1)))).objs++o,tR (ef W p (j+1))⟩ 1 1=pp p.1 p.2 (tR (ef W p (j+1))):=fun o=>by
      rw [nk (by omega)]
      refine ⟨?_, ?_⟩
      · simp only [nM,ar,TV.ren,cM,yV,Tok.ren];rfl
      · simp only [VT.keep,pp,List.cons_append,List.nil_append,List.take_succ_cons,List.take_zero,List.map_cons,List.map_nil,vm]
        rfl
    refine aA (fun c1=> ?_) (fun c1=> ?_)
    · have hd:decide (q=p)=false:=by simpa using c1
      rw [hd,cond_false] at htk
      have hx:TV.vec 7 ((ef W p (j+1)).map aB) (.tail 0 (ef W p (j+1)).length)=xR (ef W p (j+1)):=by rw [htk,yW]
      refine ⟨?_, ?_⟩
      · rw [htk];exact kJ _ (ef W p j) (q,a) hl2 18 20 rfl
      · rw [hx]
        exact ⟨rfl,rfl,j+1,hlt,by show W.length-(j+1)<W.length-j;omega, .inr ⟨(hend [_]).2,(hend []).1⟩⟩
    · have hd:decide (q=p)=true:=by simpa using c1
      rw [hd,cond_true,List.append_nil] at htk
      refine ⟨rfl,rfl,j+1,hlt,by show W.length-(j+1)<W.length-j;omega, .inr ?_⟩
      have h1:=(hend [.cells (lX q.1 q.2 a)]).2
      have h2:=(hend []).1
      rw [htk] at h1 h2
      show _=pp p.1 p.2 (tR (ef W p (j+1)))∧_=nM (W.map aB) (xR (ef W p (j+1))) ((j+1:Nat):Int)
      rw [htk]
      exact ⟨h1,h2⟩
  · obtain rfl:j=W.length:=by omega
    have hg:ef W p W.length=ax W p:=by unfold ef;rw [List.take_length]
    refine bt ac aa ag ah (yQ (W.map aB) p.1 p.2 0 0 cK (xR (ef W p W.length)) [] .none (tR (ef W p W.length)) [] W.length _) (be (decide_eq_false (by rw [hlen];omega)) ?_)
    rw [hg]
    exact ⟨rfl,rfl,rfl,by simp only [nM,hlen],rfl⟩
theorem D6 {W:List aj} (hW:ex W) (p:Px):VCx Try.prog ae 0 jv [.vec 7 (W.map aB) .none,dy p.1 p.2] ⟨[], []⟩ fun x T' =>x= .vec 7 ((ax W p).map aB) .none∧T' =⟨[], []⟩:=by
 refine VCx.toLe (Q:=fun T' =>T' =⟨[], []⟩) (VCx.keepQ 0 0 (Nat.le_refl _) (Nat.le_refl _) (ak ac aa ag (Cj hW p) (Fx (W.map aB) p.1 p.2 (xR (ax W p)) (tR (ax W p)) _) ⟨rfl,⟨rfl,rfl,rfl,trivial,rfl,rfl,rfl⟩,wR _ _ _,rfl⟩))
theorem tI (R:Bs):∀ro ys T K,rf R ro ys T K→VCx Try.prog ae ro jv ys T K:=by
 intro ro ys T K hw
 unfold rf at hw
 split at hw
 ·obtain ⟨⟨W,rfl,hW,rfl⟩,hk⟩:=hw
  refine VCx.loosePure az (D6 hW (_,_)) (by simp [cW,dy]) (by simp only [ar,TV.ren,cM,Tok.ren,dy]) (fun f g=>by simp only [TV.ren,cM,Tok.ren]) hk
 ·exact hw.elim
end
section
open Go.RowKit
set_option maxRecDepth 100000

theorem Ck (c m a n:Int):decide (dH c m a n>0)=decide (bL (a,n) (c,m)):=by
 unfold dH bL
 simp only [im,fj]
 by_cases h1:c<a<;>by_cases h2:a<c<;>by_cases h3:m<n<;>by_cases h4:n<m<;>simp [h1,h2,h3,h4]<;>omega
def cX (x:aj) (l:List aj):Bool:=l.any fun r=>decide (bL x.1 r.1)
theorem ri {x:aj}:∀{l:List aj},cX x l=false→eM x l=l++ [x]
 | [],_=>rfl
 | r::l,h=>by
  simp only [cX,List.any_cons,Bool.or_eq_false_iff] at h
  unfold eM
  rw [if_neg (of_decide_eq_false h.1),ri h.2];rfl
theorem tJ {x r:aj}:∀{l:List aj},cX x l=true→eM x (l++ [r])=eM x l++ [r]
 | [],h=>by cases h
 | s::l,h=>by
  rw [List.cons_append]
  unfold eM
  split
  ·rfl
  ·rename_i hn
   simp only [cX,List.any_cons,decide_eq_false hn,Bool.false_or] at h
   rw [tJ h];rfl
theorem tK {x r:aj}:∀{l:List aj},cX x l=false→bL x.1 r.1→eM x (l++ [r])=(l++ [x])++ [r]
 | [],_,h=>by simp [eM,h]
 | s::l,h,hr=>by
  simp only [cX,List.any_cons,Bool.or_eq_false_iff] at h
  rw [List.cons_append]
  unfold eM
  rw [if_neg (of_decide_eq_false h.1),tK h.2 hr];rfl
theorem mS (x r:aj) (l:List aj):cX x (l++ [r])=(cX x l || decide (bL x.1 r.1)):=by
 simp [cX,List.any_append]
def bI (x:aj) (l:List aj):List aj:=bif cX x l then eM x l else l
theorem qg (x:aj) (l:List aj):(bI x l).length≤l.length+1:=by
 unfold bI
 cases cX x l
 ·exact Nat.le_succ _
 ·rw [cond_true,og];exact Nat.le_refl _
theorem Cl {L:List aj} (hL:L.length≤1000) (x:aj):dl Try.prog ae (F3 (L.map aB) x.1.1 x.1.2 x.2 (xR (bI x L)) (cX x L) (tR (bI x L)) (aq Try.prog kI 0)):=bP fun q hq=>by
  obtain rfl:=List.mem_singleton.1 hq
  refine cJ fun K hK=> ?_
  have hlen:(L.map aB).length=L.length:=List.length_map _
  have hS:aT Try.prog ae (aG [(AJ,wN)]):=aV fun p hp=>by obtain rfl:=List.mem_singleton.1 hp;exact D3
  refine eQ (f:=kI) (id:=0) (by kernel_rfl) 44 tF (fun j:Nat=>L.length-j) (fun j:Nat=>lY (L.map aB) (xR (bI x (L.take j))) (cX x (L.take j)) j) (fun j=>mR x.1.1 x.1.2 x.2 (tR (bI x (L.take j)))) (fun j=>j≤L.length) 1 1 (fun j _=>⟨Nat.le_refl _,tG _⟩)
    (fun e vs T=>e= .normal∧vs=lY (L.map aB) (xR (bI x L)) (cX x L) (L.map aB).length∧T=mR x.1.1 x.1.2 x.2 (tR (bI x L))) (fun j hj=> ?_) 0 (Nat.zero_le _) K ?_
  rotate_left
  · rintro e vs T ⟨rfl,rfl,rfl⟩
    exact hK
  by_cases hlt:j<L.length
  · have hr:=List.getElem?_eq_getElem hlt
    generalize L[j]=r at hr
    obtain ⟨q,a⟩:=r
    have htk:L.take (j+1)=L.take j++ [(q,a)]:=by rw [List.take_add_one,hr];rfl
    have hl0:=List.length_take_le j L
    have hl1:=qg x (L.take j)
    have hl2:=qg x (L.take (j+1))
    have hl3:=List.length_take_le (j+1) L
    have hend:∀o,ar (am 1) (am 1) (lY (L.map aB) (xR (bI x (L.take (j+1)))) (cX x (L.take (j+1))) (IntKind.wrap .i64 ((j:Int)+1)))=lY (L.map aB) (xR (bI x (L.take (j+1)))) (cX x (L.take (j+1))) ((j+1:Nat):Int)∧VT.keep ⟨(mR x.1.1 x.1.2 x.2 (tR (bI x (L.take (j+1))))).objs++o,tR (bI x (L.take (j+1)))⟩ 1 1=mR x.1.1 x.1.2 x.2 (tR (bI x (L.take (j+1)))):=fun o=>by
      rw [nk (by omega)]
      refine ⟨?_, ?_⟩
      · simp only [lY,ar,TV.ren,cM,yV,Tok.ren];rfl
      · have e:=qf x (am 1) (am 1)
        simp only [aB] at e
        simp only [VT.keep,mR,lX,List.cons_append,List.nil_append,List.take_succ_cons,List.take_zero,List.map_cons,List.map_nil,vm,VO.ren] at e ⊢
        rw [e]
    have fin:∀o,rG 44 0 (fun j:Nat=>L.length-j) (fun j:Nat=>lY (L.map aB) (xR (bI x (L.take j))) (cX x (L.take j)) j) (fun j=>mR x.1.1 x.1.2 x.2 (tR (bI x (L.take j)))) (fun j=>j≤L.length) 1 1 j
        (fun e vs T=>e= .normal∧vs=lY (L.map aB) (xR (bI x L)) (cX x L) (L.map aB).length∧T=mR x.1.1 x.1.2 x.2 (tR (bI x L))) .normal (lY (L.map aB) (xR (bI x (L.take (j+1)))) (cX x (L.take (j+1))) (IntKind.wrap .i64 ((j:Int)+1))) ⟨(mR x.1.1 x.1.2 x.2 (tR (bI x (L.take (j+1))))).objs++o,tR (bI x (L.take (j+1)))⟩ [] 44:=fun o=>
      ⟨rfl,rfl,j+1,hlt,by show L.length-(j+1)<L.length-j;omega, .inr ⟨(hend o).2,(hend o).1⟩⟩
    have hx:∀l:List aj,l≠ []→TV.vec 7 (l.map aB) (.tail 0 l.length)=xR l:=fun l h=>by
      cases l with
      | nil=>exact absurd rfl h
      | cons s l=>rfl
    have ev:=yR (L.map aB) x.1.1 x.1.2 x.2 q.1 q.2 a (xR (bI x (L.take j))) (cX x (L.take j)) ((bI x (L.take j)++ [x]).map aB) ((bI x (L.take (j+1))).map aB) (.tail 0 (bI x (L.take j)++ [x]).length) (.tail 0 (bI x (L.take (j+1))).length) (tR (bI x (L.take j))) (tR (bI x (L.take j)++ [x])) (tR (bI x (L.take (j+1)))) j
    refine bt ac aa hS ah (ev _) ?_
    refine bx (decide_eq_true (by rw [hlen];omega)) ⟨wQ 12 14 rfl hr, ?_⟩
    cases hd:cX x (L.take j) with
    | true=>
      have hd2:cX x (L.take (j+1))=true:=by rw [htk,mS,hd];rfl
      have ho:bI x (L.take (j+1))=bI x (L.take j)++ [(q,a)]:=by
        unfold bI;rw [hd2,hd,cond_true,cond_true,htk,tJ hd]
      refine be rfl ⟨?_, ?_⟩
      · rw [ho];exact kJ _ (bI x (L.take j)) (q,a) (by omega) 32 34 rfl
      · have h1:=fin [.cells (lX q.1 q.2 a)]
        rw [hd2] at h1
        rw [hx _ (by rw [ho];simp)]
        exact h1
    | false=>
      refine bx rfl ?_
      rw [Ck]
      refine aA (fun c1=> ?_) (fun c1=> ?_)
      · have hlt1:bL x.1 q:=of_decide_eq_true c1
        have hd2:cX x (L.take (j+1))=true:=by rw [htk,mS,hd,decide_eq_true hlt1];rfl
        have h0:bI x (L.take j)=L.take j:=by unfold bI;rw [hd];rfl
        have ho:bI x (L.take (j+1))=(bI x (L.take j)++ [x])++ [(q,a)]:=by
          rw [h0]
          unfold bI;rw [hd2,cond_true,htk,tK hd hlt1]
        refine ⟨kJ _ (bI x (L.take j)) x (by omega) 28 30 rfl, ?_, ?_⟩
        · rw [hx _ (by simp),ho]
          exact kJ _ (bI x (L.take j)++ [x]) (q,a) (by simp;omega) 32 34 rfl
        · have h1:=fin [.cells (lX q.1 q.2 a)]
          rw [hd2] at h1
          rw [hx _ (by rw [ho];simp)]
          exact h1
      · have hnl:¬bL x.1 q:=of_decide_eq_false c1
        have hd2:cX x (L.take (j+1))=false:=by rw [htk,mS,hd,decide_eq_false hnl];rfl
        have ho:bI x (L.take (j+1))=bI x (L.take j)++ [(q,a)]:=by
          unfold bI;rw [hd2,hd,cond_false,cond_false,htk]
        refine ⟨?_, ?_⟩
        · rw [ho];exact kJ _ (bI x (L.take j)) (q,a) (by omega) 32 34 rfl
        · have h1:=fin [.cells (lX q.1 q.2 a)]
          rw [hd2] at h1
          rw [hx _ (by rw [ho];simp)]
          exact h1
  · obtain rfl:j=L.length:=by omega
    refine bt ac aa hS ah (yR (L.map aB) x.1.1 x.1.2 x.2 0 0 cK (xR (bI x (L.take L.length))) (cX x (L.take L.length)) [] [] .none .none (tR (bI x (L.take L.length))) [] [] L.length _) (be (decide_eq_false (by rw [hlen];omega)) ?_)
    rw [List.take_length]
    exact ⟨rfl,rfl,rfl,by simp only [lY,hlen],rfl⟩
theorem D7 {W:List aj} (hW:ex W) (x:aj) (hx:x.2.p.length≤2000000):VCx Try.prog ae 0 kI [.vec 7 (W.map aB) .none, .agg (aB x)] ⟨[], []⟩ fun y T' =>y= .vec 7 ((bN W x).map aB) .none∧T' =⟨[], []⟩:=by
 have hS:aT Try.prog ae (aG [(jv,rf ((ax W x.1).map aB))]):=aV fun p hp=>by obtain rfl:=List.mem_singleton.1 hp;exact tI _
 have hl:=dS W x.1
 have hf:=hW.1
 refine VCx.toLe (Q:=fun T' =>T' =⟨[], []⟩) (VCx.keepQ 0 0 (Nat.le_refl _) (Nat.le_refl _) (ak ac aa hS (Cl (L:=ax W x.1) (by omega) x) (Fy (W.map aB) ((ax W x.1).map aB) x.1.1 x.1.2 x.2 (xR (bI x (ax W x.1))) (cX x (ax W x.1)) (tR (bI x (ax W x.1))) ((bN W x).map aB) (.tail 0 (bN W x).length) (tR (bN W x)) _) ⟨⟨W,rfl,hW,rfl⟩,rfl,⟨rfl,rfl,rfl,trivial,rfl,rfl,rfl⟩, ?_⟩))
 have hl1:=qg x (ax W x.1)
 cases hd:cX x (ax W x.1) with
 | true=>
  have ho:bI x (ax W x.1)=bN W x:=by unfold bI bN;rw [hd];rfl
  refine be rfl ⟨?_,rfl⟩
  rw [ho]
  exact wR _ _ _
 | false=>
  have h0:bI x (ax W x.1)=ax W x.1:=by unfold bI;rw [hd];rfl
  have ho:bN W x=bI x (ax W x.1)++ [x]:=by rw [h0];exact ri hd
  refine bx rfl ⟨?_, ?_,rfl⟩
  ·rw [ho];exact kJ _ (bI x (ax W x.1)) x (by omega) 39 41 rfl
  ·have h2:=wR (bN W x) (am 0) (am 0)
   rw [show xR (bN W x)= .vec 7 ((bN W x).map aB) (.tail 0 (bN W x).length) by rw [ho,yW]] at h2
   exact h2
theorem yX (R:Bs):∀ro ys T K,vj R ro ys T K→VCx Try.prog ae ro kI ys T K:=by
 intro ro ys T K hw
 unfold vj at hw
 split at hw
 ·obtain ⟨⟨W,r,rfl,rfl,hW,hr,rfl⟩,hk⟩:=hw
  refine VCx.loosePure az (D7 hW r hr) (by simp [cW]) (by simp only [ar,TV.ren,cM,qf,Tok.ren]) (fun f g=>by simp only [TV.ren,cM,Tok.ren]) hk
 ·exact hw.elim
end
section
open Go.RowKit

section
variable {P:Program} {G:av}
theorem VCx.cellsLe {f:FuncId} {xs:List TV} {T:VT} {Q:TV→VT→Prop} (i:Nat) (h:VCx P G 0 f xs T fun x T' =>∃cs cs' :List TV,T'.objs[i]?=some (.cells cs)∧TVleL cs cs' ∧Q x {T' with objs:=T'.objs.set i (.cells cs')}):VCx P G 0 f xs T Q:=by
 intro g w us rw0 hG hx
 refine Calls.mono (h g w us rw0 hG hx) ?_
 rintro e w' ⟨v,x,g',T',he,⟨cs,cs',h1,h2,hq⟩,e',r',hv,hfx⟩
 have r2:=r'.objLe h1 rfl (o' := .cells cs') rfl fun b ⟨us,t,k1,k2,k3⟩=>⟨us,t,k1,h2.vrs k2,k3⟩
 refine ⟨v,x,g',_,he,hq,e',r2,hv,⟨?_,fun i hi=>absurd hi (Nat.not_lt_zero i),fun i o b hi=>absurd hi (Nat.not_lt_zero i)⟩⟩
 have:=hfx.len
 simpa using this
end
end
section
open Go.RowKit
set_option maxRecDepth 100000

def jw (W H:List aj):VT:=vk (W.map aB) (H.map aB)
theorem gT (W H:List aj) (l:List VO):VT.keep ⟨(jw W H).objs++l, []⟩ 1 0=jw W H:=by
 simp only [VT.keep,jw,vk,List.cons_append,List.nil_append,List.take_succ_cons,List.take_zero,List.map_cons,List.map_nil,VO.ren,ar,TV.ren,cM,Tok.ren]
section
variable {W H:List aj}
theorem D8 (hW:ex W) (p:Px) {a:AtV} (hp:gD p.1 p.2) (ha:a.p.length≤9223372036854775807):VCx Try.prog ae 0 yI [.ptr 0 0,dy p.1 p.2, .agg a.cells] (jw W H) fun x T' =>x= .val (.int .i64 (fI p a))∧T' =jw (dz W p a) H:=by
 have hS:aT Try.prog ae (aG [(p9,qa),(gS,qb (cD a)),(kH,vi (cf W p) (ba W p)),(kI,vj ((bN W (p,a)).map aB))]):=aV fun q hq=>by
  rcases List.mem_cons.1 hq with rfl | hq;exact yS
  rcases List.mem_cons.1 hq with rfl | hq;exact vl _
  rcases List.mem_cons.1 hq with rfl | hq;exact yU _ _
  obtain rfl:=List.mem_singleton.1 hq;exact yX _
 have hl:=hW.1
 have hlen:(W.map aB).length=W.length:=List.length_map _
 refine VCx.keepQ 1 0 (Nat.le_refl _) (Nat.le_refl _) (ak ac aa hS ah (Fz (W.map aB) (H.map aB) ((bN W (p,a)).map aB) p.1 p.2 a (cf W p) (cD a) (ba W p) _) ⟨hp, ?_⟩)
 cases hp:fh p.1 p.2 with
 | false=>exact ⟨by simp only [fI,ct,hp];rfl,by simp only [dz,ct,hp];exact gT W H _⟩
 | true=>
  refine be rfl ⟨⟨a,rfl,ha,rfl⟩, ?_⟩
  cases hg:cD a with
  | false=>exact ⟨by simp only [fI,ct,hp,hg];rfl,by simp only [dz,ct,hp,hg];exact gT W H _⟩
  | true=>
   have hi:tB (W.map aB) (aB (p,a)) ((bN W (p,a)).map aB):=⟨W,(p,a),rfl,rfl,hW,lA hg,rfl⟩
   have e1:TV.val (.int .i64 0)= .val (.int .i64 (fI p a)):=by simp only [fI,ct,hp,hg];rfl
   have e2:∀l,VT.keep ⟨(jw (bN W (p,a)) H).objs++l, []⟩ 1 0=jw (dz W p a) H:=fun l=>by
    rw [gT];simp only [dz,ct,hp,hg];rfl
   refine be rfl ⟨⟨W,rfl,hW,rfl,rfl⟩,aA (fun _=>be (decide_eq_false (by rw [hlen];omega)) ⟨hi,e1,e2 _⟩) (fun _=>⟨hi,e1,e2 _⟩)⟩
theorem D9 (hW:ex W) (p:Px):VCx Try.prog ae 0 yJ [.ptr 0 0,dy p.1 p.2] (jw W H) fun x T' =>x= .val (.bool (ba W p))∧T' =jw (ax W p) H:=by
 have hS:aT Try.prog ae (aG [(kH,vi (cf W p) (ba W p)),(jv,rf ((ax W p).map aB))]):=aV fun q hq=>by
  rcases List.mem_cons.1 hq with rfl | hq;exact yU _ _
  obtain rfl:=List.mem_singleton.1 hq;exact tI _
 exact VCx.keepQ 1 0 (Nat.le_refl _) (Nat.le_refl _) (ak ac aa hS ah (FA (W.map aB) (H.map aB) ((ax W p).map aB) p.1 p.2 (cf W p) (ba W p) _) ⟨⟨W,rfl,hW,rfl,rfl⟩,⟨W,rfl,hW,rfl⟩,rfl,gT _ H _⟩)
theorem Ea (hH:ex H) (p:Px) {a:AtV} (g:Bool) (hp:gD p.1 p.2) (ha:a.p.length≤9223372036854775807):VCx Try.prog ae 0 yK [.ptr 0 0, .agg (fm p.1 p.2 a g)] (jw W H) fun x T' =>x= .val (.int .i64 (gB p a g))∧T' =jw W (cA H p a g):=by
 have hS:aT Try.prog ae (aG [(tD,wP (eU p a g)),(jv,rf ((ax H p).map aB)),(kI,vj ((bN H (p,a)).map aB))]):=aV fun q hq=>by
  rcases List.mem_cons.1 hq with rfl | hq;exact Ch _
  rcases List.mem_cons.1 hq with rfl | hq;exact tI _
  obtain rfl:=List.mem_singleton.1 hq;exact yX _
 refine VCx.keepQ 1 0 (Nat.le_refl _) (Nat.le_refl _) (ak ac aa hS ah (FB (W.map aB) (H.map aB) ((ax H p).map aB) ((bN H (p,a)).map aB) p.1 p.2 a g (eU p a g) _) ⟨⟨p,a,g,rfl,hp,ha,rfl⟩, ?_⟩)
 cases hc:eU p a g with
 | false=>exact ⟨by simp only [gB,hc];rfl,by simp only [cA,hc];exact gT W H _⟩
 | true=>
  refine be rfl ?_
  cases g with
  | true=>exact ⟨⟨H,rfl,hH,rfl⟩,by simp only [gB,hc];rfl,by simp only [cA,hc];exact gT W _ _⟩
  | false=>
   have hg:cD a=true:=by unfold eU at hc;simp only [cond_false,Bool.and_eq_true] at hc;exact hc.2
   exact ⟨⟨H,(p,a),rfl,rfl,hH,lA hg,rfl⟩,by simp only [gB,hc];rfl,by simp only [cA,hc];exact gT W _ _⟩
theorem Eb:VCx Try.prog ae 0 yL [.ptr 0 0] (jw W H) fun x T' =>x= .tup []∧T' =jw W []:=by
 refine VCx.cellsLe 0 (VCx.keepQ 1 0 (Nat.le_refl _) (Nat.le_refl _) (ak ac aa ag ah (FC (W.map aB) (H.map aB) _) ?_))
 refine ⟨_, [.vec 7 (W.map aB) .none, .vec 7 [] .none],rfl, ?_,rfl, ?_⟩
 ·refine ⟨?_, .nil 7,trivial⟩
  simp only [TV.ren,cM,Tok.ren]
  exact .refl _
 ·rfl
end
end
section
open Go.RowKit

abbrev kK:=7
abbrev vn:=8
abbrev vp:=10
abbrev dd:=3
def tL (a n:Int):List TV:= [.val (.int .u32 a), .val (.int .i64 n)]
def tM (k a n:Int) (x:AtV) (g:Bool):List TV:= .val (.int .i64 k)::fm a n x g
structure S6 where
 lk:bG
 lk2:bG
 es:bv
 es2:bv
 ck:Nat
 ck2:Nat
def cc (V:List aj):Bs:=V.map aB
def A8 (a n:Int) (x:AtV):Int:=fI (a,n) x
def A9 (W:List aj) (a n:Int) (x:AtV):List aj:=dz W (a,n) x
def Ba (W:List aj) (a n:Int):List aj:=ax W (a,n)
def Bb (W:List aj) (a n:Int):Bool:=ba W (a,n)
def mT (a n:Int) (x:AtV) (g:Bool):Int:=gB (a,n) x g
def tN (H:List aj) (a n:Int) (x:AtV) (g:Bool):List aj:=cA H (a,n) x g
def lZ:List aj:= []
def lB (W H:List aj) (sh:KS) (lk:bG) (es:bv) (ck:Nat) (sh2:KS) (lk2:bG) (es2:bv) (ck2:Nat):Prop:=sh=kP∧sh2=kP∧(TbOk W lk es ck∧TbOk H lk2 es2 ck2)∧W.length<1000∧H.length<1000
def lC (V J:List aj) (w h:Bs):Prop:=w=V.map aB∧h=J.map aB∧ex V∧ex J
def fV (x:AtV):Prop:=x.p.length≤9223372036854775807
def iw (W:List aj) (k a n:Int) (x:AtV):List aj:=if k=0 then dz W (a,n) x else if k=1 then ax W (a,n) else W
def jx (H:List aj) (k a n:Int) (x:AtV) (g:Bool):List aj:=if k=2 then cA H (a,n) x g else if k=3 then [] else H
def TbJ (W H:List aj) (s:S6):Prop:=TbOk W s.lk s.es s.ck∧TbOk H s.lk2 s.es2 s.ck2
structure dU where
 k:Int
 p:Px
 a:AtV
 g:Bool
def bk (t:dU):List TV:=tM t.k t.p.1 t.p.2 t.a t.g
def lD (t:dU):Prop:=gD t.p.1 t.p.2∧fV t.a
def AK (L:Bs):Prop:=∃l:List dU,L=l.map bk∧l.length≤9223372036854775807
def tO (L:Bs) (b:Bool):Prop:=b=true→L.length≤120
def RbAt (W H:List aj) (T:VT):Prop:=∃(s:S6) (os:List VO),T.objs= [.map kP s.lk s.es s.ck, .map kP s.lk2 s.es2 s.ck2, .cells [.map 0, .map 1]]++os∧TbJ W H s∧W.length<1000∧H.length<1000
def j4 (T:VT):Prop:=∃W H,RbAt W H T
def AL (T:VT) (L:Bs):Prop:=∃W H,RbAt W H T∧L=(aC W H).map au
def AM (T:VT) (L:Bs):Prop:=∃W H,RbAt W H T∧L=(aI W H).map cg
def Ec (T:VT) (b:Bool):Prop:=∃W H,RbAt W H T∧b=rH W H
def Ed (T:VT) (n k:Int):Prop:=∃W H,RbAt W H T∧n=(W.length:Int)∧k=(H.length:Int)
def qh (W:List aj) (q:List TV) (y:AtV) (b:Bool):Prop:=∃p:Px,q=au p∧y=cf W p∧b=ba W p
def Ee (a n:Int) (g:Bool):List TV:= [.val (.int .u32 a), .val (.int .i64 n), .val (.int .i64 0), .val (.slice none 0 0), .val (.int .u32 0), .val (.int .i64 0), .val (.bool false), .val (.bool g)]
def AN (l:List TV) (a n:Int) (x:AtV) (g:Bool):Prop:=(l=fm a n x g∨(l=Ee a n g∧x=cK))∧fV x
def Ef (l:List TV) (k a n:Int) (x:AtV) (g:Bool):Prop:=l=tM k a n x g∧gD a n∧fV x
def nN (lk lk2:bG) (es es2:bv) (ck ck2:Nat) (w h:Bs):VT:=⟨[.cells [.map 1, .map 2], .map kP lk es ck, .map kP lk2 es2 ck2, .cells [.vec 7 w .none, .vec 7 h .none]], []⟩
def Bc (W H:List aj) (a n:Int) (x:AtV):aQ:=fun ro ys T K=>match ys with
 | [.ptr 0 0, .agg q, .agg l]=>match T.objs with
  | .cells [.map 1, .map 2]:: .map sh lk es ck:: .map sh2 lk2 es2 ck2::os=>((@Eq Nat ro 0)∧lB W H sh lk es ck sh2 lk2 es2 ck2∧(@Eq (List TV) q (tL a n))∧(@Eq (List TV) l x.cells)∧fV x)∧∀s:S6,TbJ (A9 W a n x) H s→K (.val (.int .i64 (A8 a n x))) ⟨.cells [.map 1, .map 2]:: .map kP s.lk s.es s.ck:: .map kP s.lk2 s.es2 s.ck2::os,T.tails⟩
  | _=>ap 88 default ys
 | _=>ap 89 default ys
def Bd (W H:List aj) (a n:Int):aQ:=fun ro ys T K=>match ys with
 | [.ptr 0 0, .agg q]=>match T.objs with
  | .cells [.map 1, .map 2]:: .map sh lk es ck:: .map sh2 lk2 es2 ck2::os=>((@Eq Nat ro 0)∧lB W H sh lk es ck sh2 lk2 es2 ck2∧(@Eq (List TV) q (tL a n)))∧∀s:S6,TbJ (Ba W a n) H s→K (.val (.bool (Bb W a n))) ⟨.cells [.map 1, .map 2]:: .map kP s.lk s.es s.ck:: .map kP s.lk2 s.es2 s.ck2::os,T.tails⟩
  | _=>ap 88 default ys
 | _=>ap 89 default ys
def Be (W H:List aj) (a n:Int) (x:AtV) (g:Bool):aQ:=fun ro ys T K=>match ys with
 | [.ptr 0 0, .agg l]=>match T.objs with
  | .cells [.map 1, .map 2]:: .map sh lk es ck:: .map sh2 lk2 es2 ck2::os=>((@Eq Nat ro 0)∧lB W H sh lk es ck sh2 lk2 es2 ck2∧(@Eq (List TV) l (fm a n x g))∧fV x)∧∀s:S6,TbJ W (tN H a n x g) s→K (.val (.int .i64 (mT a n x g))) ⟨.cells [.map 1, .map 2]:: .map kP s.lk s.es s.ck:: .map kP s.lk2 s.es2 s.ck2::os,T.tails⟩
  | _=>ap 88 default ys
 | _=>ap 89 default ys
def Bf (W H:List aj):aQ:=fun ro ys T K=>match ys with
 | [.ptr 0 0]=>match T.objs with
  | .cells [.map 1, .map 2]:: .map sh lk es ck:: .map sh2 lk2 es2 ck2::os=>((@Eq Nat ro 0)∧lB W H sh lk es ck sh2 lk2 es2 ck2)∧∀s:S6,TbJ W lZ s→K (.tup []) ⟨.cells [.map 1, .map 2]:: .map kP s.lk s.es s.ck:: .map kP s.lk2 s.es2 s.ck2::os,T.tails⟩
  | _=>ap 88 default ys
 | _=>ap 89 default ys
def Bg (W H:List aj) (a n:Int) (x:AtV):aQ:=fun ro ys T K=>match ys with
 | [.ptr 3 0, .agg q, .agg l]=>match T.objs[3]? with
  | some (VO.cells [.vec 7 w .none, .vec 7 h .none])=>((@Eq Nat ro 0)∧lC W H w h∧(@Eq (List TV) q (tL a n))∧(@Eq (List TV) l x.cells)∧fV x∧gD a n)∧K (.val (.int .i64 (A8 a n x))) {T with objs:=T.objs.set 3 (.cells [.vec 7 (cc (A9 W a n x)) .none, .vec 7 (cc H) .none])}
  | _=>ap 88 default ys
 | _=>ap 89 default ys
def Bh (W H:List aj) (a n:Int):aQ:=fun ro ys T K=>match ys with
 | [.ptr 3 0, .agg q]=>match T.objs[3]? with
  | some (VO.cells [.vec 7 w .none, .vec 7 h .none])=>((@Eq Nat ro 0)∧lC W H w h∧(@Eq (List TV) q (tL a n)))∧K (.val (.bool (Bb W a n))) {T with objs:=T.objs.set 3 (.cells [.vec 7 (cc (Ba W a n)) .none, .vec 7 (cc H) .none])}
  | _=>ap 88 default ys
 | _=>ap 89 default ys
def Bi (W H:List aj) (a n:Int) (x:AtV) (g:Bool):aQ:=fun ro ys T K=>match ys with
 | [.ptr 3 0, .agg l]=>match T.objs[3]? with
  | some (VO.cells [.vec 7 w .none, .vec 7 h .none])=>((@Eq Nat ro 0)∧lC W H w h∧(@Eq (List TV) l (fm a n x g))∧fV x∧gD a n)∧K (.val (.int .i64 (mT a n x g))) {T with objs:=T.objs.set 3 (.cells [.vec 7 (cc W) .none, .vec 7 (cc (tN H a n x g)) .none])}
  | _=>ap 88 default ys
 | _=>ap 89 default ys
def Bj (W H:List aj):aQ:=fun ro ys T K=>match ys with
 | [.ptr 3 0]=>match T.objs[3]? with
  | some (VO.cells [.vec 7 w .none, .vec 7 h .none])=>((@Eq Nat ro 0)∧lC W H w h)∧K (.tup []) {T with objs:=T.objs.set 3 (.cells [.vec 7 (cc W) .none, .vec 7 (cc lZ) .none])}
  | _=>ap 88 default ys
 | _=>ap 89 default ys
def iq (lk lk2:bG) (es es2:bv) (ck ck2:Nat):VT:=⟨[.map kP lk es ck, .map kP lk2 es2 ck2, .cells [.map 0, .map 1]], []⟩
def vq:aQ:=fun _ ys T K=>match ys with
 | [.vec 9 l _]=>AK l∧∀b:Bool,tO l b→K (.val (.bool b)) T
 | _=>ap 90 default ys
def Bk:aQ:=fun ro ys T K=>match ys with
 | [.ptr 2 0]=>((@Eq Nat ro 0)∧j4 T)∧∀L:Bs,AL T L→K (.vec 2 L .none) T
 | _=>ap 91 default ys
def Bl:aQ:=fun ro ys T K=>match ys with
 | [.ptr 2 0]=>((@Eq Nat ro 0)∧j4 T)∧∀L:Bs,AM T L→K (.vec 8 L .none) T
 | _=>ap 91 default ys
def Bm:aQ:=fun ro ys T K=>match ys with
 | [.ptr 2 0]=>((@Eq Nat ro 0)∧j4 T)∧∀b:Bool,Ec T b→K (.val (.bool b)) T
 | _=>ap 91 default ys
def Bn:aQ:=fun ro ys T K=>match ys with
 | [.ptr 2 0]=>((@Eq Nat ro 0)∧j4 T)∧∀n k:Int,Ed T n k→K (.tup [.val (.int .i64 n), .val (.int .i64 k)]) T
 | _=>ap 91 default ys
def oq (W H:List aj) (y:AtV) (b:Bool):aQ:=fun ro ys T K=>match ys with
 | [.ptr 2 0, .agg q]=>((@Eq Nat ro 0)∧RbAt W H T∧qh W q y b)∧K (.tup [.agg y.cells, .val (.bool b)]) T
 | _=>ap 91 default ys
def wS (W H:List aj) (y:AtV) (b:Bool):aQ:=fun ro ys T K=>match ys with
 | [.ptr 2 0, .agg q]=>((@Eq Nat ro 0)∧RbAt W H T∧qh H q y b)∧K (.tup [.agg y.cells, .val (.bool b)]) T
 | _=>ap 91 default ys
def yY (W H:List aj) (a n:Int) (x:AtV) (g:Bool):aQ:=fun ro ys T K=>match ys with
 | [.ptr 2 0, .agg l]=>match T.objs with
  | .map sh lk es ck:: .map sh2 lk2 es2 ck2:: .cells [.map 0, .map 1]::os=>((@Eq Nat ro 0)∧RbAt W H T∧AN l a n x g)∧∀s:S6,TbJ W (tN H a n x g) s→K (.val (.int .i64 (mT a n x g))) ⟨.map kP s.lk s.es s.ck:: .map kP s.lk2 s.es2 s.ck2:: .cells [.map 0, .map 1]::os,T.tails⟩
  | _=>ap 92 default ys
 | _=>ap 93 default ys
def Bo (W H:List aj) (k a n:Int) (x:AtV) (g:Bool):aQ:=fun ro ys T K=>match ys with
 | [.ptr 2 0, .ptr 4 0, .agg l]=>match T.objs with
  | [.map sh lk es ck, .map sh2 lk2 es2 ck2, .cells [.map 0, .map 1],o3, .cells [.val (.slice none 0 0), .val (.slice none 0 0)]]=>((@Eq Nat ro 0)∧RbAt W H T∧Ef l k a n x g)∧∀(s:S6) (b:Bool),TbJ (iw W k a n x) (jx H k a n x g) s→K (.val (.bool b)) ⟨[.map kP s.lk s.es s.ck, .map kP s.lk2 s.es2 s.ck2, .cells [.map 0, .map 1],o3, .cells [.dead, .dead]],T.tails⟩
  | _=>ap 92 default ys
 | _=>ap 93 default ys
def kL (n:Nat) (keys:List Nat) (vs0:List TV) (W H W' H' :List aj) (vs1:List TV):bs:=fun rd ro σ T D K=>((@Eq (Option Nat) rd none)∧(@Eq Nat ro 0)∧(@Eq (List Nat) D [])∧RbAt W H T∧(@Eq Nat T.objs.length 3)∧(@Eq bF T.tails [])∧(@Eq Bool (Nat.beq σ.length n) true)∧(@Eq (List TV) (pick keys σ) vs0))∧∀s:S6,TbJ W' H' s→K .normal (aL n keys vs1) (iq s.lk s.lk2 s.es s.es2 s.ck s.ck2) []
def qi:List Nat:= [0,3,27,28,29]
def lE (L:Bs) (j:Int):List TV:= [.vec 9 L .none, .ptr 2 0, .vec 9 L .none, .val (.int .i64 L.length), .val (.int .i64 j)]
def qj:List Nat:= [0,3,40,41,42]
def lF (L G:Bs) (j:Int):List TV:= [.vec 9 L .none, .ptr 2 0, .vec 2 G .none, .val (.int .i64 G.length), .val (.int .i64 j)]
def qk:List Nat:= [0,3,62,63,64]
def lG (L G:Bs) (j:Int):List TV:= [.vec 9 L .none, .ptr 2 0, .vec 8 G .none, .val (.int .i64 G.length), .val (.int .i64 j)]
def ql:List Nat:= [3,14,15,89,90,91]
def lH (L:Bs) (m k j:Int):List TV:= [.ptr 2 0, .val (.int .i64 m), .val (.int .i64 k), .vec 9 L .none, .val (.int .i64 L.length), .val (.int .i64 j)]
def F4 (L G N:Bs) (W H J U:List aj) (m k:Int) (c0 c2 c4 c6:Code):Nat→Option (bs × Code):=cT [(0,kL 141 qi (lE L 0) lZ lZ W H (lE L L.length),c0),(2,kL 141 qj (lF L G 0) W H W J (lF L G G.length),c2),(4,kL 141 qk (lG L N 0) W J W U (lG L N N.length),c4),(6,kL 141 ql (lH L m k 0) W U W U (lH L m k L.length),c6)]
def qm:List Nat:= [2,3,9,10,11]
def tQ (L:Bs) (s j:Int):List TV:= [.val (.bool false), .val (.int .i64 s), .vec 9 L .none, .val (.int .i64 L.length), .val (.int .i64 j)]
def F5 (L:Bs) (c0:Code):Nat→Option (bs × Code):=cT [(0,eR 25 qm [] (tQ L 0 0) ⟨[], []⟩ (fun K=>(∀s j:Int,K .normal (aL 25 qm (tQ L s j)) ⟨[], []⟩ [])∧∀(s j:Int) (c:List TV),K .ret (aL 25 qm (tQ L s j)) ⟨[.cells c], []⟩ []),c0)]
theorem FD (W H V J:List aj) (lk lk2:bG) (es es2:bv) (ck ck2:Nat) (k a n:Int) (x:AtV) (g:Bool) (Q:TV→VT→Prop):an Try.prog ae (aG [(u9,Bc W H a n x),(va,Bd W H a n),(pf,Be W H a n x g),(yp,Bf W H),(yI,Bg V J a n x),(yJ,Bh V J a n),(yK,Bi V J a n x g),(yL,Bj V J)]) (aH [(999998, .dead,none)]) 300 aE 0 vp [.ptr 0 0, .ptr 3 0, .agg (tM k a n x g)] (nN lk lk2 es es2 ck ck2 (cc V) (cc J)) Q=
 (bif aw BinOp.eql (ai (Value.int IntKind.i64 k) (Value.int IntKind.i64 (0:Int)))
 then (((@Eq (Nat) 0 0)∧
 (lB (W) (H) ⟨true, [(.int .u32),(.int .i64)]⟩ (lk) (es) (ck) ⟨true, [(.int .u32),(.int .i64)]⟩ (lk2) (es2) (ck2)∧
 ((@Eq (List TV) [(.val (.int .u32 (a))),(.val (.int .i64 (n)))] [(.val (.int .u32 (a))),(.val (.int .i64 (n)))])∧
 ((@Eq (List TV) [(.val (.int .i64 (AtV.o x))),(.vec 1 (iV (AtV.p x)) .none),(.val (.int .u32 (AtV.h x))),(.val (.int .i64 (AtV.m x))),(.val (.bool (AtV.hm x)))] [(.val (.int .i64 (AtV.o x))),(.vec 1 (iV (AtV.p x)) .none),(.val (.int .u32 (AtV.h x))),(.val (.int .i64 (AtV.m x))),(.val (.bool (AtV.hm x)))])∧
 fV (x)))))∧
 (∀s:S6,(TbJ (A9 W a n x) (H) (s)→(((@Eq (Option TV) (.some (.agg [(.val (.int .i64 (AtV.o x))),(.vec 1 (iV (AtV.p x)) .none),(.val (.int .u32 (AtV.h x))),(.val (.int .i64 (AtV.m x))),(.val (.bool (AtV.hm x)))])) (.some (.agg [(.val (.int .i64 (AtV.o x))),(.vec 1 (iV (AtV.p x)) .none),(.val (.int .u32 (AtV.h x))),(.val (.int .i64 (AtV.m x))),(.val (.bool (AtV.hm x)))])))∧
 ((@Eq (Option TV) (.some (.agg [(.val (.int .u32 (a))),(.val (.int .i64 (n)))])) (.some (.agg [(.val (.int .u32 (a))),(.val (.int .i64 (n)))])))∧
 ((@Eq (Option TV) (.some (.agg [(.val (.int .i64 (AtV.o x))),(.vec 1 (iV (AtV.p x)) .none),(.val (.int .u32 (AtV.h x))),(.val (.int .i64 (AtV.m x))),(.val (.bool (AtV.hm x)))])) (.some (.agg [(.val (.int .i64 (AtV.o x))),(.vec 1 (iV (AtV.p x)) .none),(.val (.int .u32 (AtV.h x))),(.val (.int .i64 (AtV.m x))),(.val (.bool (AtV.hm x)))])))∧
 ((@Eq (Option TV) (.some (.agg [(.val (.int .u32 (a))),(.val (.int .i64 (n)))])) (.some (.agg [(.val (.int .u32 (a))),(.val (.int .i64 (n)))])))∧
 True))))∧
 (((@Eq (Nat) 0 0)∧
 (lC (V) (J) (cc V) (cc J)∧
 ((@Eq (List TV) [(.val (.int .u32 (a))),(.val (.int .i64 (n)))] [(.val (.int .u32 (a))),(.val (.int .i64 (n)))])∧
 ((@Eq (List TV) [(.val (.int .i64 (AtV.o x))),(.vec 1 (iV (AtV.p x)) .none),(.val (.int .u32 (AtV.h x))),(.val (.int .i64 (AtV.m x))),(.val (.bool (AtV.hm x)))] [(.val (.int .i64 (AtV.o x))),(.vec 1 (iV (AtV.p x)) .none),(.val (.int .u32 (AtV.h x))),(.val (.int .i64 (AtV.m x))),(.val (.bool (AtV.hm x)))])∧
 (fV (x)∧
 gD (a) (n))))))∧
 Q (.val (.bool (aw BinOp.eql (ai (Value.int IntKind.i64 (A8 a n x)) (Value.int IntKind.i64 (A8 a n x)))))) ⟨[(.cells [(.map 1),(.map 2)]),(.map ⟨true, [(.int .u32),(.int .i64)]⟩ (s.1) (S6.es s) (S6.ck s)),(.map ⟨true, [(.int .u32),(.int .i64)]⟩ (s.2) (S6.es2 s) (S6.ck2 s)),(.cells [(.vec 7 (cc (A9 V a n x)) .none),(.vec 7 (cc J) .none)]),(.cells [(.val (.int .i64 (k))),(.val (.int .u32 (a))),(.val (.int .i64 (n))),(.val (.int .i64 (AtV.o x))),(.vec 1 (iV (AtV.p x)) .none),(.val (.int .u32 (AtV.h x))),(.val (.int .i64 (AtV.m x))),(.val (.bool (AtV.hm x))),(.val (.bool (g)))])], []⟩)))))
 else (bif aw BinOp.eql (ai (Value.int IntKind.i64 k) (Value.int IntKind.i64 (1:Int)))
 then (((@Eq (Nat) 0 0)∧
 (lB (W) (H) ⟨true, [(.int .u32),(.int .i64)]⟩ (lk) (es) (ck) ⟨true, [(.int .u32),(.int .i64)]⟩ (lk2) (es2) (ck2)∧
 (@Eq (List TV) [(.val (.int .u32 (a))),(.val (.int .i64 (n)))] [(.val (.int .u32 (a))),(.val (.int .i64 (n)))])))∧
 (∀s:S6,(TbJ (Ba W a n) (H) (s)→(((@Eq (Option TV) (.some (.agg [(.val (.int .u32 (a))),(.val (.int .i64 (n)))])) (.some (.agg [(.val (.int .u32 (a))),(.val (.int .i64 (n)))])))∧
 ((@Eq (Option TV) (.some (.agg [(.val (.int .u32 (a))),(.val (.int .i64 (n)))])) (.some (.agg [(.val (.int .u32 (a))),(.val (.int .i64 (n)))])))∧
 True))∧
 (((@Eq (Nat) 0 0)∧
 (lC (V) (J) (cc V) (cc J)∧
 (@Eq (List TV) [(.val (.int .u32 (a))),(.val (.int .i64 (n)))] [(.val (.int .u32 (a))),(.val (.int .i64 (n)))])))∧
 Q (.val (.bool (aw BinOp.eql (ai (Value.bool (Bb W a n)) (Value.bool (Bb V a n)))))) ⟨[(.cells [(.map 1),(.map 2)]),(.map ⟨true, [(.int .u32),(.int .i64)]⟩ (s.1) (S6.es s) (S6.ck s)),(.map ⟨true, [(.int .u32),(.int .i64)]⟩ (s.2) (S6.es2 s) (S6.ck2 s)),(.cells [(.vec 7 (cc (Ba V a n)) .none),(.vec 7 (cc J) .none)]),(.cells [(.val (.int .i64 (k))),(.val (.int .u32 (a))),(.val (.int .i64 (n))),(.val (.int .i64 (AtV.o x))),(.vec 1 (iV (AtV.p x)) .none),(.val (.int .u32 (AtV.h x))),(.val (.int .i64 (AtV.m x))),(.val (.bool (AtV.hm x))),(.val (.bool (g)))])], []⟩)))))
 else (bif aw BinOp.eql (ai (Value.int IntKind.i64 k) (Value.int IntKind.i64 (2:Int)))
 then (((@Eq (Nat) 0 0)∧
 (lB (W) (H) ⟨true, [(.int .u32),(.int .i64)]⟩ (lk) (es) (ck) ⟨true, [(.int .u32),(.int .i64)]⟩ (lk2) (es2) (ck2)∧
 ((@Eq (List TV) [(.val (.int .u32 (a))),(.val (.int .i64 (n))),(.val (.int .i64 (AtV.o x))),(.vec 1 (iV (AtV.p x)) .none),(.val (.int .u32 (AtV.h x))),(.val (.int .i64 (AtV.m x))),(.val (.bool (AtV.hm x))),(.val (.bool (g)))] [(.val (.int .u32 (a))),(.val (.int .i64 (n))),(.val (.int .i64 (AtV.o x))),(.vec 1 (iV (AtV.p x)) .none),(.val (.int .u32 (AtV.h x))),(.val (.int .i64 (AtV.m x))),(.val (.bool (AtV.hm x))),(.val (.bool (g)))])∧
 fV (x))))∧
 (∀s:S6,(TbJ (W) (tN H a n x g) (s)→(((@Eq (Option TV) (.some (.agg [(.val (.int .u32 (a))),(.val (.int .i64 (n))),(.val (.int .i64 (AtV.o x))),(.vec 1 (iV (AtV.p x)) .none),(.val (.int .u32 (AtV.h x))),(.val (.int .i64 (AtV.m x))),(.val (.bool (AtV.hm x))),(.val (.bool (g)))])) (.some (.agg [(.val (.int .u32 (a))),(.val (.int .i64 (n))),(.val (.int .i64 (AtV.o x))),(.vec 1 (iV (AtV.p x)) .none),(.val (.int .u32 (AtV.h x))),(.val (.int .i64 (AtV.m x))),(.val (.bool (AtV.hm x))),(.val (.bool (g)))])))∧
 ((@Eq (Option TV) (.some (.agg [(.val (.int .u32 (a))),(.val (.int .i64 (n))),(.val (.int .i64 (AtV.o x))),(.vec 1 (iV (AtV.p x)) .none),(.val (.int .u32 (AtV.h x))),(.val (.int .i64 (AtV.m x))),(.val (.bool (AtV.hm x))),(.val (.bool (g)))])) (.some (.agg [(.val (.int .u32 (a))),(.val (.int .i64 (n))),(.val (.int .i64 (AtV.o x))),(.vec 1 (iV (AtV.p x)) .none),(.val (.int .u32 (AtV.h x))),(.val (.int .i64 (AtV.m x))),(.val (.bool (AtV.hm x))),(.val (.bool (g)))])))∧
 True))∧
 (((@Eq (Nat) 0 0)∧
 (lC (V) (J) (cc V) (cc J)∧
 ((@Eq (List TV) [(.val (.int .u32 (a))),(.val (.int .i64 (n))),(.val (.int .i64 (AtV.o x))),(.vec 1 (iV (AtV.p x)) .none),(.val (.int .u32 (AtV.h x))),(.val (.int .i64 (AtV.m x))),(.val (.bool (AtV.hm x))),(.val (.bool (g)))] [(.val (.int .u32 (a))),(.val (.int .i64 (n))),(.val (.int .i64 (AtV.o x))),(.vec 1 (iV (AtV.p x)) .none),(.val (.int .u32 (AtV.h x))),(.val (.int .i64 (AtV.m x))),(.val (.bool (AtV.hm x))),(.val (.bool (g)))])∧
 (fV (x)∧
 gD (a) (n)))))∧
 Q (.val (.bool (aw BinOp.eql (ai (Value.int IntKind.i64 (mT a n x g)) (Value.int IntKind.i64 (mT a n x g)))))) ⟨[(.cells [(.map 1),(.map 2)]),(.map ⟨true, [(.int .u32),(.int .i64)]⟩ (s.1) (S6.es s) (S6.ck s)),(.map ⟨true, [(.int .u32),(.int .i64)]⟩ (s.2) (S6.es2 s) (S6.ck2 s)),(.cells [(.vec 7 (cc V) .none),(.vec 7 (cc (tN J a n x g)) .none)]),(.cells [(.val (.int .i64 (k))),(.val (.int .u32 (a))),(.val (.int .i64 (n))),(.val (.int .i64 (AtV.o x))),(.vec 1 (iV (AtV.p x)) .none),(.val (.int .u32 (AtV.h x))),(.val (.int .i64 (AtV.m x))),(.val (.bool (AtV.hm x))),(.val (.bool (g)))]),(.cells [(.val (.int .u32 (a))),(.val (.int .i64 (n))),(.val (.int .i64 (AtV.o x))),(.vec 1 (iV (AtV.p x)) .none),(.val (.int .u32 (AtV.h x))),(.val (.int .i64 (AtV.m x))),(.val (.bool (AtV.hm x))),(.val (.bool (g)))]),(.cells [(.val (.int .u32 (a))),(.val (.int .i64 (n))),(.val (.int .i64 (AtV.o x))),(.vec 1 (iV (AtV.p x)) .none),(.val (.int .u32 (AtV.h x))),(.val (.int .i64 (AtV.m x))),(.val (.bool (AtV.hm x))),(.val (.bool (g)))])], []⟩)))))
 else (bif aw BinOp.eql (ai (Value.int IntKind.i64 k) (Value.int IntKind.i64 (3:Int)))
 then (((@Eq (Nat) 0 0)∧
 lB (W) (H) ⟨true, [(.int .u32),(.int .i64)]⟩ (lk) (es) (ck) ⟨true, [(.int .u32),(.int .i64)]⟩ (lk2) (es2) (ck2))∧
 (∀s:S6,(TbJ (W) (lZ) (s)→(((@Eq (Nat) 0 0)∧
 lC (V) (J) (cc V) (cc J))∧
 Q (.val (.bool true)) ⟨[(.cells [(.map 1),(.map 2)]),(.map ⟨true, [(.int .u32),(.int .i64)]⟩ (s.1) (S6.es s) (S6.ck s)),(.map ⟨true, [(.int .u32),(.int .i64)]⟩ (s.2) (S6.es2 s) (S6.ck2 s)),(.cells [(.vec 7 (cc V) .none),(.vec 7 (cc lZ) .none)]),(.cells [(.val (.int .i64 (k))),(.val (.int .u32 (a))),(.val (.int .i64 (n))),(.val (.int .i64 (AtV.o x))),(.vec 1 (iV (AtV.p x)) .none),(.val (.int .u32 (AtV.h x))),(.val (.int .i64 (AtV.m x))),(.val (.bool (AtV.hm x))),(.val (.bool (g)))])], []⟩))))
 else Q (.val (.bool true)) ⟨[(.cells [(.map 1),(.map 2)]),(.map ⟨true, [(.int .u32),(.int .i64)]⟩ (lk) (es) (ck)),(.map ⟨true, [(.int .u32),(.int .i64)]⟩ (lk2) (es2) (ck2)),(.cells [(.vec 7 (cc V) .none),(.vec 7 (cc J) .none)]),(.cells [(.val (.int .i64 (k))),(.val (.int .u32 (a))),(.val (.int .i64 (n))),(.val (.int .i64 (AtV.o x))),(.vec 1 (iV (AtV.p x)) .none),(.val (.int .u32 (AtV.h x))),(.val (.int .i64 (AtV.m x))),(.val (.bool (AtV.hm x))),(.val (.bool (g)))])], []⟩)))):=by kernel_rfl
theorem FE (L:Bs) (Q:TV→VT→Prop):an Try.prog ae aO (aH [(999998, .dead,none)]) 300 (F5 L (aq Try.prog kK 0)) 0 kK [.vec 9 L .none] ⟨[], []⟩ Q=
 (bif decide ((↑(List.length L):Int)>(120:Int))
 then Q (.val (.bool false)) ⟨[], []⟩
 else ((aq Try.prog kK (0:Nat)=aq Try.prog kK (0:Nat))∧
 (((@Eq (Option Nat) .none .none)∧
 ((@Eq (Nat) 0 0)∧
 ((@Eq (List Nat) [] [])∧
 (True  ∧
 ((@Eq (VT) ⟨[], []⟩ ⟨[], []⟩)∧
 ((@Eq (Bool) true true)∧
 (@Eq (List TV) [(.val (.bool false)),(.val (.int .i64 0)),(.vec 9 (L) .none),(.val (.int .i64 ((↑(List.length L):Int)))),(.val (.int .i64 0))] [(.val (.bool false)),(.val (.int .i64 0)),(.vec 9 (L) .none),(.val (.int .i64 ((↑(List.length L):Int)))),(.val (.int .i64 0))])))))))∧
 ((∀s:Int,(∀j:Int,Q (.val (.bool true)) ⟨[], []⟩))∧
 (∀s:Int,(∀j:Int,(∀c:List TV,Q (.val (.bool false)) ⟨[(.cells (c))], []⟩))))))):=by kernel_rfl
theorem yZ (L:Bs) (k a n:Int) (x:AtV) (g:Bool) (s:Int) (j:Nat) (Q:Exit→List TV→VT→List Nat→Nat→Prop):vx Try.prog ae aO (aH [(999998, .dead,none),(13, .elt (tM k a n x g),none)]) 300 aE none 0 (bR Try.prog kK 0) (aL 25 qm (tQ L s j)) ⟨[], []⟩ [] (cz qm Q)=
 (bif decide ((↑j:Int)<(↑(List.length L):Int))
 then (bb Try.prog (fun _=> .none) (.indexAddr 22 (.tmp 9) (.tmp 11)) [(9,(.vec 9 (L) .none)),(11,(.val (.int .i64 ((↑j:Int)))))] (.elt [(.val (.int .i64 (k))),(.val (.int .u32 (a))),(.val (.int .i64 (n))),(.val (.int .i64 (AtV.o x))),(.vec 1 (iV (AtV.p x)) .none),(.val (.int .u32 (AtV.h x))),(.val (.int .i64 (AtV.m x))),(.val (.bool (AtV.hm x))),(.val (.bool (g)))])∧
 (bif decide (IntKind.wrap IntKind.i64 (s+(↑(List.length (iV (AtV.p x))):Int))>(3000:Int))
 then Q .ret [(.val (.bool false)),(.val (.int .i64 (IntKind.wrap IntKind.i64 (s+(↑(List.length (iV (AtV.p x))):Int))))),(.vec 9 (L) .none),(.val (.int .i64 ((↑(List.length L):Int)))),(.val (.int .i64 ((↑j:Int))))] ⟨[(.cells [(.val (.int .i64 (k))),(.val (.int .u32 (a))),(.val (.int .i64 (n))),(.val (.int .i64 (AtV.o x))),(.vec 1 (iV (AtV.p x)) .none),(.val (.int .u32 (AtV.h x))),(.val (.int .i64 (AtV.m x))),(.val (.bool (AtV.hm x))),(.val (.bool (g)))])], []⟩ [] 25
 else Q .normal [(.val (.bool false)),(.val (.int .i64 (IntKind.wrap IntKind.i64 (s+(↑(List.length (iV (AtV.p x))):Int))))),(.vec 9 (L) .none),(.val (.int .i64 ((↑(List.length L):Int)))),(.val (.int .i64 (IntKind.wrap IntKind.i64 ((↑j:Int)+(1:Int)))))] ⟨[(.cells [(.val (.int .i64 (k))),(.val (.int .u32 (a))),(.val (.int .i64 (n))),(.val (.int .i64 (AtV.o x))),(.vec 1 (iV (AtV.p x)) .none),(.val (.int .u32 (AtV.h x))),(.val (.int .i64 (AtV.m x))),(.val (.bool (AtV.hm x))),(.val (.bool (g)))])], []⟩ [] 25))
 else Q (.exit 0) [(.val (.bool false)),(.val (.int .i64 (s))),(.vec 9 (L) .none),(.val (.int .i64 ((↑(List.length L):Int)))),(.val (.int .i64 ((↑j:Int))))] ⟨[], []⟩ [] 25):=by kernel_rfl
theorem FF (L G N:Bs) (W H J U:List aj) (m k:Int) (Q:TV→VT→Prop):an Try.prog ae (aG [(kK,vq),(vn,nh),(nK,Bk),(nL,Bl),(yx,Bm),(yr,Bn)]) (aH [(999998, .dead,none)]) 300 (F4 L G N W H J U m k (aq Try.prog dd 0) (aq Try.prog dd 2) (aq Try.prog dd 4) (aq Try.prog dd 6)) 0 dd [.vec 9 L .none] ⟨[], []⟩ Q=
 (AK (L)∧
 (∀b:Bool,(tO (L) (b)→(bif !b
 then Q (.val (.bool true)) ⟨[], []⟩
 else ((aq Try.prog dd (0:Nat)=aq Try.prog dd (0:Nat))∧
 (((@Eq (Option Nat) .none .none)∧
 ((@Eq (Nat) 0 0)∧
 ((@Eq (List Nat) [] [])∧
 (RbAt (lZ) (lZ) ⟨[(.map ⟨true, [(.int .u32),(.int .i64)]⟩ (fun _=> .none) [] 0),(.map ⟨true, [(.int .u32),(.int .i64)]⟩ (fun _=> .none) [] 0),(.cells [(.map 0),(.map 1)])], []⟩∧
 ((@Eq (Nat) 3 3)∧
 ((@Eq (bF) [] [])∧
 ((@Eq (Bool) true true)∧
 (@Eq (List TV) [(.vec 9 (L) .none),(.ptr 2 0),(.vec 9 (L) .none),(.val (.int .i64 ((↑(List.length L):Int)))),(.val (.int .i64 0))] [(.vec 9 (L) .none),(.ptr 2 0),(.vec 9 (L) .none),(.val (.int .i64 ((↑(List.length L):Int)))),(.val (.int .i64 0))]))))))))∧
 (∀s:S6,(TbJ (W) (H) (s)→(((@Eq (Nat) 0 0)∧
 j4 ⟨[(.map ⟨true, [(.int .u32),(.int .i64)]⟩ (s.1) (S6.es s) (S6.ck s)),(.map ⟨true, [(.int .u32),(.int .i64)]⟩ (s.2) (S6.es2 s) (S6.ck2 s)),(.cells [(.map 0),(.map 1)])], []⟩)∧
 (∀L_14:Bs,(AL ⟨[(.map ⟨true, [(.int .u32),(.int .i64)]⟩ (s.1) (S6.es s) (S6.ck s)),(.map ⟨true, [(.int .u32),(.int .i64)]⟩ (s.2) (S6.es2 s) (S6.ck2 s)),(.cells [(.map 0),(.map 1)])], []⟩ (L_14)→((aq Try.prog dd (2:Nat)=aq Try.prog dd (2:Nat))∧
 (((@Eq (Option Nat) .none .none)∧
 ((@Eq (Nat) 0 0)∧
 ((@Eq (List Nat) [] [])∧
 (RbAt (W) (H) ⟨[(.map ⟨true, [(.int .u32),(.int .i64)]⟩ (s.1) (S6.es s) (S6.ck s)),(.map ⟨true, [(.int .u32),(.int .i64)]⟩ (s.2) (S6.es2 s) (S6.ck2 s)),(.cells [(.map 0),(.map 1)])], []⟩∧
 ((@Eq (Nat) 3 3)∧
 ((@Eq (bF) [] [])∧
 ((@Eq (Bool) true true)∧
 (@Eq (List TV) [(.vec 9 (L) .none),(.ptr 2 0),(.vec 2 (L_14) .none),(.val (.int .i64 ((↑(List.length L_14):Int)))),(.val (.int .i64 0))] [(.vec 9 (L) .none),(.ptr 2 0),(.vec 2 (G) .none),(.val (.int .i64 ((↑(List.length G):Int)))),(.val (.int .i64 0))]))))))))∧
 (∀s_16:S6,(TbJ (W) (J) (s_16)→(((@Eq (Nat) 0 0)∧
 j4 ⟨[(.map ⟨true, [(.int .u32),(.int .i64)]⟩ (s_16.1) (S6.es s_16) (S6.ck s_16)),(.map ⟨true, [(.int .u32),(.int .i64)]⟩ (s_16.2) (S6.es2 s_16) (S6.ck2 s_16)),(.cells [(.map 0),(.map 1)])], []⟩)∧
 (∀L_18:Bs,(AM ⟨[(.map ⟨true, [(.int .u32),(.int .i64)]⟩ (s_16.1) (S6.es s_16) (S6.ck s_16)),(.map ⟨true, [(.int .u32),(.int .i64)]⟩ (s_16.2) (S6.es2 s_16) (S6.ck2 s_16)),(.cells [(.map 0),(.map 1)])], []⟩ (L_18)→((aq Try.prog dd (4:Nat)=aq Try.prog dd (4:Nat))∧
 (((@Eq (Option Nat) .none .none)∧
 ((@Eq (Nat) 0 0)∧
 ((@Eq (List Nat) [] [])∧
 (RbAt (W) (J) ⟨[(.map ⟨true, [(.int .u32),(.int .i64)]⟩ (s_16.1) (S6.es s_16) (S6.ck s_16)),(.map ⟨true, [(.int .u32),(.int .i64)]⟩ (s_16.2) (S6.es2 s_16) (S6.ck2 s_16)),(.cells [(.map 0),(.map 1)])], []⟩∧
 ((@Eq (Nat) 3 3)∧
 ((@Eq (bF) [] [])∧
 ((@Eq (Bool) true true)∧
 (@Eq (List TV) [(.vec 9 (L) .none),(.ptr 2 0),(.vec 8 (L_18) .none),(.val (.int .i64 ((↑(List.length L_18):Int)))),(.val (.int .i64 0))] [(.vec 9 (L) .none),(.ptr 2 0),(.vec 8 (N) .none),(.val (.int .i64 ((↑(List.length N):Int)))),(.val (.int .i64 0))]))))))))∧
 (∀s_20:S6,(TbJ (W) (U) (s_20)→(((@Eq (Nat) 0 0)∧
 j4 ⟨[(.map ⟨true, [(.int .u32),(.int .i64)]⟩ (s_20.1) (S6.es s_20) (S6.ck s_20)),(.map ⟨true, [(.int .u32),(.int .i64)]⟩ (s_20.2) (S6.es2 s_20) (S6.ck2 s_20)),(.cells [(.map 0),(.map 1)])], []⟩)∧
 (∀n:Int,(∀k_23:Int,(Ed ⟨[(.map ⟨true, [(.int .u32),(.int .i64)]⟩ (s_20.1) (S6.es s_20) (S6.ck s_20)),(.map ⟨true, [(.int .u32),(.int .i64)]⟩ (s_20.2) (S6.es2 s_20) (S6.ck2 s_20)),(.cells [(.map 0),(.map 1)])], []⟩ (n) (k_23)→((aq Try.prog dd (6:Nat)=aq Try.prog dd (6:Nat))∧
 (((@Eq (Option Nat) .none .none)∧
 ((@Eq (Nat) 0 0)∧
 ((@Eq (List Nat) [] [])∧
 (RbAt (W) (U) ⟨[(.map ⟨true, [(.int .u32),(.int .i64)]⟩ (s_20.1) (S6.es s_20) (S6.ck s_20)),(.map ⟨true, [(.int .u32),(.int .i64)]⟩ (s_20.2) (S6.es2 s_20) (S6.ck2 s_20)),(.cells [(.map 0),(.map 1)])], []⟩∧
 ((@Eq (Nat) 3 3)∧
 ((@Eq (bF) [] [])∧
 ((@Eq (Bool) true true)∧
 (@Eq (List TV) [(.ptr 2 0),(.val (.int .i64 (n))),(.val (.int .i64 (k_23))),(.vec 9 (L) .none),(.val (.int .i64 ((↑(List.length L):Int)))),(.val (.int .i64 0))] [(.ptr 2 0),(.val (.int .i64 (m))),(.val (.int .i64 (k))),(.vec 9 (L) .none),(.val (.int .i64 ((↑(List.length L):Int)))),(.val (.int .i64 0))]))))))))∧
 (∀s_25:S6,(TbJ (W) (U) (s_25)→(((@Eq (Nat) 0 0)∧
 j4 ⟨[(.map ⟨true, [(.int .u32),(.int .i64)]⟩ (s_25.1) (S6.es s_25) (S6.ck s_25)),(.map ⟨true, [(.int .u32),(.int .i64)]⟩ (s_25.2) (S6.es2 s_25) (S6.ck2 s_25)),(.cells [(.map 0),(.map 1)])], []⟩)∧
 (∀b_27:Bool,(Ec ⟨[(.map ⟨true, [(.int .u32),(.int .i64)]⟩ (s_25.1) (S6.es s_25) (S6.ck s_25)),(.map ⟨true, [(.int .u32),(.int .i64)]⟩ (s_25.2) (S6.es2 s_25) (S6.ck2 s_25)),(.cells [(.map 0),(.map 1)])], []⟩ (b_27)→(bif b_27
 then (bif aw BinOp.eql (ai (Value.int IntKind.i64 m) (Value.int IntKind.i64 k))
 then (((@Eq (Nat) 0 0)∧
 j4 ⟨[(.map ⟨true, [(.int .u32),(.int .i64)]⟩ (s_25.1) (S6.es s_25) (S6.ck s_25)),(.map ⟨true, [(.int .u32),(.int .i64)]⟩ (s_25.2) (S6.es2 s_25) (S6.ck2 s_25)),(.cells [(.map 0),(.map 1)])], []⟩)∧
 (∀L_29:Bs,(AL ⟨[(.map ⟨true, [(.int .u32),(.int .i64)]⟩ (s_25.1) (S6.es s_25) (S6.ck s_25)),(.map ⟨true, [(.int .u32),(.int .i64)]⟩ (s_25.2) (S6.es2 s_25) (S6.ck2 s_25)),(.cells [(.map 0),(.map 1)])], []⟩ (L_29)→(((@Eq (Nat) 0 0)∧
 j4 ⟨[(.map ⟨true, [(.int .u32),(.int .i64)]⟩ (s_25.1) (S6.es s_25) (S6.ck s_25)),(.map ⟨true, [(.int .u32),(.int .i64)]⟩ (s_25.2) (S6.es2 s_25) (S6.ck2 s_25)),(.cells [(.map 0),(.map 1)])], []⟩)∧
 (∀L_31:Bs,(AM ⟨[(.map ⟨true, [(.int .u32),(.int .i64)]⟩ (s_25.1) (S6.es s_25) (S6.ck s_25)),(.map ⟨true, [(.int .u32),(.int .i64)]⟩ (s_25.2) (S6.es2 s_25) (S6.ck2 s_25)),(.cells [(.map 0),(.map 1)])], []⟩ (L_31)→(bif aw BinOp.eql (ai (Value.int IntKind.i64 (IntKind.wrap IntKind.i64 ((↑(List.length L_29):Int)+(↑(List.length L_31):Int)))) (Value.int IntKind.i64 (0:Int)))
 then Q (.val (.bool true)) ⟨[(.map ⟨true, [(.int .u32),(.int .i64)]⟩ (s_25.1) (S6.es s_25) (S6.ck s_25)),(.map ⟨true, [(.int .u32),(.int .i64)]⟩ (s_25.2) (S6.es2 s_25) (S6.ck2 s_25)),(.cells [(.map 0),(.map 1)])], []⟩
 else Q (.val (.bool false)) ⟨[(.map ⟨true, [(.int .u32),(.int .i64)]⟩ (s_25.1) (S6.es s_25) (S6.ck s_25)),(.map ⟨true, [(.int .u32),(.int .i64)]⟩ (s_25.2) (S6.es2 s_25) (S6.ck2 s_25)),(.cells [(.map 0),(.map 1)])], []⟩)))))))
 else Q (.val (.bool false)) ⟨[(.map ⟨true, [(.int .u32),(.int .i64)]⟩ (s_25.1) (S6.es s_25) (S6.ck s_25)),(.map ⟨true, [(.int .u32),(.int .i64)]⟩ (s_25.2) (S6.es2 s_25) (S6.ck2 s_25)),(.cells [(.map 0),(.map 1)])], []⟩)
 else Q (.val (.bool false)) ⟨[(.map ⟨true, [(.int .u32),(.int .i64)]⟩ (s_25.1) (S6.es s_25) (S6.ck s_25)),(.map ⟨true, [(.int .u32),(.int .i64)]⟩ (s_25.2) (S6.es2 s_25) (S6.ck2 s_25)),(.cells [(.map 0),(.map 1)])], []⟩)))))))))))))))))))))))))))))))))):=by kernel_rfl
theorem y0 (L:Bs) (W H:List aj) (lk lk2:bG) (es es2:bv) (ck ck2:Nat) (k a n:Int) (x:AtV) (g:Bool) (j:Nat) (Q:Exit→List TV→VT→List Nat→Nat→Prop):vx Try.prog ae (aG [(vp,Bo W H k a n x g)]) (aH [(999998, .dead,none),(31, .elt (tM k a n x g),none)]) 300 aE none 0 (bR Try.prog dd 0) (aL 141 qi (lE L j)) (iq lk lk2 es es2 ck ck2) [] (cz qi Q)=
 (bif decide ((↑j:Int)<(↑(List.length L):Int))
 then (bb Try.prog (fun _=> .none) (.indexAddr 22 (.tmp 27) (.tmp 29)) [(27,(.vec 9 (L) .none)),(29,(.val (.int .i64 ((↑j:Int)))))] (.elt [(.val (.int .i64 (k))),(.val (.int .u32 (a))),(.val (.int .i64 (n))),(.val (.int .i64 (AtV.o x))),(.vec 1 (iV (AtV.p x)) .none),(.val (.int .u32 (AtV.h x))),(.val (.int .i64 (AtV.m x))),(.val (.bool (AtV.hm x))),(.val (.bool (g)))])∧
 (((@Eq (Nat) 0 0)∧
 (RbAt (W) (H) ⟨[(.map ⟨true, [(.int .u32),(.int .i64)]⟩ (lk) (es) (ck)),(.map ⟨true, [(.int .u32),(.int .i64)]⟩ (lk2) (es2) (ck2)),(.cells [(.map 0),(.map 1)]),(.cells [(.val (.int .i64 (k))),(.val (.int .u32 (a))),(.val (.int .i64 (n))),(.val (.int .i64 (AtV.o x))),(.vec 1 (iV (AtV.p x)) .none),(.val (.int .u32 (AtV.h x))),(.val (.int .i64 (AtV.m x))),(.val (.bool (AtV.hm x))),(.val (.bool (g)))]),(.cells [(.val (.slice .none 0 0)),(.val (.slice .none 0 0))])], []⟩∧
 Ef [(.val (.int .i64 (k))),(.val (.int .u32 (a))),(.val (.int .i64 (n))),(.val (.int .i64 (AtV.o x))),(.vec 1 (iV (AtV.p x)) .none),(.val (.int .u32 (AtV.h x))),(.val (.int .i64 (AtV.m x))),(.val (.bool (AtV.hm x))),(.val (.bool (g)))] (k) (a) (n) (x) (g)))∧
 (∀s:S6,(∀b:Bool,(TbJ (iw W k a n x) (jx H k a n x g) (s)→Q .normal [(.vec 9 (L) .none),(.ptr 2 0),(.vec 9 (L) .none),(.val (.int .i64 ((↑(List.length L):Int)))),(.val (.int .i64 (IntKind.wrap IntKind.i64 ((↑j:Int)+(1:Int)))))] ⟨[(.map ⟨true, [(.int .u32),(.int .i64)]⟩ (s.1) (S6.es s) (S6.ck s)),(.map ⟨true, [(.int .u32),(.int .i64)]⟩ (s.2) (S6.es2 s) (S6.ck2 s)),(.cells [(.map 0),(.map 1)]),(.cells [(.val (.int .i64 (k))),(.val (.int .u32 (a))),(.val (.int .i64 (n))),(.val (.int .i64 (AtV.o x))),(.vec 1 (iV (AtV.p x)) .none),(.val (.int .u32 (AtV.h x))),(.val (.int .i64 (AtV.m x))),(.val (.bool (AtV.hm x))),(.val (.bool (g)))]),(.cells [.dead, .dead])], []⟩ [] 141)))))
 else Q (.exit 0) [(.vec 9 (L) .none),(.ptr 2 0),(.vec 9 (L) .none),(.val (.int .i64 ((↑(List.length L):Int)))),(.val (.int .i64 ((↑j:Int))))] ⟨[(.map ⟨true, [(.int .u32),(.int .i64)]⟩ (lk) (es) (ck)),(.map ⟨true, [(.int .u32),(.int .i64)]⟩ (lk2) (es2) (ck2)),(.cells [(.map 0),(.map 1)])], []⟩ [] 141):=by kernel_rfl
theorem y7 (L G:Bs) (W H:List aj) (lk lk2:bG) (es es2:bv) (ck ck2:Nat) (a n:Int) (y x:AtV) (b:Bool) (j:Nat) (Q:Exit→List TV→VT→List Nat→Nat→Prop):vx Try.prog ae (aG [(q8,oq W H y b),(pf,yY W H a n x true)]) (aH [(999998, .dead,none),(44, .elt (tL a n),none)]) 300 aE none 0 (bR Try.prog dd 2) (aL 141 qj (lF L G j)) (iq lk lk2 es es2 ck ck2) [] (cz qj Q)=
 (bif decide ((↑j:Int)<(↑(List.length G):Int))
 then (bb Try.prog (fun _=> .none) (.indexAddr 42 (.tmp 40) (.tmp 42)) [(40,(.vec 2 (G) .none)),(42,(.val (.int .i64 ((↑j:Int)))))] (.elt [(.val (.int .u32 (a))),(.val (.int .i64 (n)))])∧
 (((@Eq (Nat) 0 0)∧
 (RbAt (W) (H) ⟨[(.map ⟨true, [(.int .u32),(.int .i64)]⟩ (lk) (es) (ck)),(.map ⟨true, [(.int .u32),(.int .i64)]⟩ (lk2) (es2) (ck2)),(.cells [(.map 0),(.map 1)]),(.cells [(.val (.int .u32 (a))),(.val (.int .i64 (n)))])], []⟩∧
 qh (W) [(.val (.int .u32 (a))),(.val (.int .i64 (n)))] (y) (b)))∧
 (bif b
 then Q .ret [(.vec 9 (L) .none),(.ptr 2 0),(.vec 2 (G) .none),(.val (.int .i64 ((↑(List.length G):Int)))),(.val (.int .i64 ((↑j:Int))))] ⟨[(.map ⟨true, [(.int .u32),(.int .i64)]⟩ (lk) (es) (ck)),(.map ⟨true, [(.int .u32),(.int .i64)]⟩ (lk2) (es2) (ck2)),(.cells [(.map 0),(.map 1)]),(.cells [(.val (.int .u32 (a))),(.val (.int .i64 (n)))]),(.cells [(.val (.int .i64 (AtV.o y))),(.vec 1 (iV (AtV.p y)) .none),(.val (.int .u32 (AtV.h y))),(.val (.int .i64 (AtV.m y))),(.val (.bool (AtV.hm y)))])], []⟩ [] 141
 else (((@Eq (Nat) 0 0)∧
 (RbAt (W) (H) ⟨[(.map ⟨true, [(.int .u32),(.int .i64)]⟩ (lk) (es) (ck)),(.map ⟨true, [(.int .u32),(.int .i64)]⟩ (lk2) (es2) (ck2)),(.cells [(.map 0),(.map 1)]),(.cells [(.val (.int .u32 (a))),(.val (.int .i64 (n)))]),(.cells [(.val (.int .i64 (AtV.o y))),(.vec 1 (iV (AtV.p y)) .none),(.val (.int .u32 (AtV.h y))),(.val (.int .i64 (AtV.m y))),(.val (.bool (AtV.hm y)))])], []⟩∧
 AN [(.val (.int .u32 (a))),(.val (.int .i64 (n))),(.val (.int .i64 0)),(.val (.slice .none 0 0)),(.val (.int .u32 0)),(.val (.int .i64 0)),(.val (.bool false)),(.val (.bool true))] (a) (n) (x) true))∧
 (∀s:S6,(TbJ (W) (tN H a n x true) (s)→(bif aw BinOp.neq (ai (Value.int IntKind.i64 (mT a n x true)) (Value.int IntKind.i64 (0:Int)))
 then Q .ret [(.vec 9 (L) .none),(.ptr 2 0),(.vec 2 (G) .none),(.val (.int .i64 ((↑(List.length G):Int)))),(.val (.int .i64 ((↑j:Int))))] ⟨[(.map ⟨true, [(.int .u32),(.int .i64)]⟩ (s.1) (S6.es s) (S6.ck s)),(.map ⟨true, [(.int .u32),(.int .i64)]⟩ (s.2) (S6.es2 s) (S6.ck2 s)),(.cells [(.map 0),(.map 1)]),(.cells [(.val (.int .u32 (a))),(.val (.int .i64 (n)))]),(.cells [(.val (.int .i64 (AtV.o y))),(.vec 1 (iV (AtV.p y)) .none),(.val (.int .u32 (AtV.h y))),(.val (.int .i64 (AtV.m y))),(.val (.bool (AtV.hm y)))])], []⟩ [] 141
 else Q .normal [(.vec 9 (L) .none),(.ptr 2 0),(.vec 2 (G) .none),(.val (.int .i64 ((↑(List.length G):Int)))),(.val (.int .i64 (IntKind.wrap IntKind.i64 ((↑j:Int)+(1:Int)))))] ⟨[(.map ⟨true, [(.int .u32),(.int .i64)]⟩ (s.1) (S6.es s) (S6.ck s)),(.map ⟨true, [(.int .u32),(.int .i64)]⟩ (s.2) (S6.es2 s) (S6.ck2 s)),(.cells [(.map 0),(.map 1)]),(.cells [(.val (.int .u32 (a))),(.val (.int .i64 (n)))]),(.cells [(.val (.int .i64 (AtV.o y))),(.vec 1 (iV (AtV.p y)) .none),(.val (.int .u32 (AtV.h y))),(.val (.int .i64 (AtV.m y))),(.val (.bool (AtV.hm y)))])], []⟩ [] 141)))))))
 else Q (.exit 2) [(.vec 9 (L) .none),(.ptr 2 0),(.vec 2 (G) .none),(.val (.int .i64 ((↑(List.length G):Int)))),(.val (.int .i64 ((↑j:Int))))] ⟨[(.map ⟨true, [(.int .u32),(.int .i64)]⟩ (lk) (es) (ck)),(.map ⟨true, [(.int .u32),(.int .i64)]⟩ (lk2) (es2) (ck2)),(.cells [(.map 0),(.map 1)])], []⟩ [] 141):=by kernel_rfl
theorem y8 (L G:Bs) (W H:List aj) (lk lk2:bG) (es es2:bv) (ck ck2:Nat) (a n:Int) (y x:AtV) (b:Bool) (j:Nat) (Q:Exit→List TV→VT→List Nat→Nat→Prop):vx Try.prog ae (aG [(q8,oq W H y b),(pf,yY W H a n x false)]) (aH [(999998, .dead,none),(66, .elt (fm a n x false),none)]) 300 aE none 0 (bR Try.prog dd 4) (aL 141 qk (lG L G j)) (iq lk lk2 es es2 ck ck2) [] (cz qk Q)=
 (bif decide ((↑j:Int)<(↑(List.length G):Int))
 then (bb Try.prog (fun _=> .none) (.indexAddr 48 (.tmp 62) (.tmp 64)) [(62,(.vec 8 (G) .none)),(64,(.val (.int .i64 ((↑j:Int)))))] (.elt [(.val (.int .u32 (a))),(.val (.int .i64 (n))),(.val (.int .i64 (AtV.o x))),(.vec 1 (iV (AtV.p x)) .none),(.val (.int .u32 (AtV.h x))),(.val (.int .i64 (AtV.m x))),(.val (.bool (AtV.hm x))),(.val (.bool false))])∧
 (((@Eq (Nat) 0 0)∧
 (RbAt (W) (H) ⟨[(.map ⟨true, [(.int .u32),(.int .i64)]⟩ (lk) (es) (ck)),(.map ⟨true, [(.int .u32),(.int .i64)]⟩ (lk2) (es2) (ck2)),(.cells [(.map 0),(.map 1)]),(.cells [(.val (.int .u32 (a))),(.val (.int .i64 (n))),(.val (.int .i64 (AtV.o x))),(.vec 1 (iV (AtV.p x)) .none),(.val (.int .u32 (AtV.h x))),(.val (.int .i64 (AtV.m x))),(.val (.bool (AtV.hm x))),(.val (.bool false))])], []⟩∧
 qh (W) [(.val (.int .u32 (a))),(.val (.int .i64 (n)))] (y) (b)))∧
 (bif !b
 then Q .ret [(.vec 9 (L) .none),(.ptr 2 0),(.vec 8 (G) .none),(.val (.int .i64 ((↑(List.length G):Int)))),(.val (.int .i64 ((↑j:Int))))] ⟨[(.map ⟨true, [(.int .u32),(.int .i64)]⟩ (lk) (es) (ck)),(.map ⟨true, [(.int .u32),(.int .i64)]⟩ (lk2) (es2) (ck2)),(.cells [(.map 0),(.map 1)]),(.cells [(.val (.int .u32 (a))),(.val (.int .i64 (n))),(.val (.int .i64 (AtV.o x))),(.vec 1 (iV (AtV.p x)) .none),(.val (.int .u32 (AtV.h x))),(.val (.int .i64 (AtV.m x))),(.val (.bool (AtV.hm x))),(.val (.bool false))]),(.cells [(.val (.int .i64 (AtV.o y))),(.vec 1 (iV (AtV.p y)) .none),(.val (.int .u32 (AtV.h y))),(.val (.int .i64 (AtV.m y))),(.val (.bool (AtV.hm y)))])], []⟩ [] 141
 else (((@Eq (Nat) 0 0)∧
 (RbAt (W) (H) ⟨[(.map ⟨true, [(.int .u32),(.int .i64)]⟩ (lk) (es) (ck)),(.map ⟨true, [(.int .u32),(.int .i64)]⟩ (lk2) (es2) (ck2)),(.cells [(.map 0),(.map 1)]),(.cells [(.val (.int .u32 (a))),(.val (.int .i64 (n))),(.val (.int .i64 (AtV.o x))),(.vec 1 (iV (AtV.p x)) .none),(.val (.int .u32 (AtV.h x))),(.val (.int .i64 (AtV.m x))),(.val (.bool (AtV.hm x))),(.val (.bool false))]),(.cells [(.val (.int .i64 (AtV.o y))),(.vec 1 (iV (AtV.p y)) .none),(.val (.int .u32 (AtV.h y))),(.val (.int .i64 (AtV.m y))),(.val (.bool (AtV.hm y)))])], []⟩∧
 AN [(.val (.int .u32 (a))),(.val (.int .i64 (n))),(.val (.int .i64 (AtV.o x))),(.vec 1 (iV (AtV.p x)) .none),(.val (.int .u32 (AtV.h x))),(.val (.int .i64 (AtV.m x))),(.val (.bool (AtV.hm x))),(.val (.bool false))] (a) (n) (x) false))∧
 (∀s:S6,(TbJ (W) (tN H a n x false) (s)→(bif aw BinOp.neq (ai (Value.int IntKind.i64 (mT a n x false)) (Value.int IntKind.i64 (0:Int)))
 then Q .ret [(.vec 9 (L) .none),(.ptr 2 0),(.vec 8 (G) .none),(.val (.int .i64 ((↑(List.length G):Int)))),(.val (.int .i64 ((↑j:Int))))] ⟨[(.map ⟨true, [(.int .u32),(.int .i64)]⟩ (s.1) (S6.es s) (S6.ck s)),(.map ⟨true, [(.int .u32),(.int .i64)]⟩ (s.2) (S6.es2 s) (S6.ck2 s)),(.cells [(.map 0),(.map 1)]),(.cells [(.val (.int .u32 (a))),(.val (.int .i64 (n))),(.val (.int .i64 (AtV.o x))),(.vec 1 (iV (AtV.p x)) .none),(.val (.int .u32 (AtV.h x))),(.val (.int .i64 (AtV.m x))),(.val (.bool (AtV.hm x))),(.val (.bool false))]),(.cells [(.val (.int .i64 (AtV.o y))),(.vec 1 (iV (AtV.p y)) .none),(.val (.int .u32 (AtV.h y))),(.val (.int .i64 (AtV.m y))),(.val (.bool (AtV.hm y)))])], []⟩ [] 141
 else Q .normal [(.vec 9 (L) .none),(.ptr 2 0),(.vec 8 (G) .none),(.val (.int .i64 ((↑(List.length G):Int)))),(.val (.int .i64 (IntKind.wrap IntKind.i64 ((↑j:Int)+(1:Int)))))] ⟨[(.map ⟨true, [(.int .u32),(.int .i64)]⟩ (s.1) (S6.es s) (S6.ck s)),(.map ⟨true, [(.int .u32),(.int .i64)]⟩ (s.2) (S6.es2 s) (S6.ck2 s)),(.cells [(.map 0),(.map 1)]),(.cells [(.val (.int .u32 (a))),(.val (.int .i64 (n))),(.val (.int .i64 (AtV.o x))),(.vec 1 (iV (AtV.p x)) .none),(.val (.int .u32 (AtV.h x))),(.val (.int .i64 (AtV.m x))),(.val (.bool (AtV.hm x))),(.val (.bool false))]),(.cells [(.val (.int .i64 (AtV.o y))),(.vec 1 (iV (AtV.p y)) .none),(.val (.int .u32 (AtV.h y))),(.val (.int .i64 (AtV.m y))),(.val (.bool (AtV.hm y)))])], []⟩ [] 141)))))))
 else Q (.exit 4) [(.vec 9 (L) .none),(.ptr 2 0),(.vec 8 (G) .none),(.val (.int .i64 ((↑(List.length G):Int)))),(.val (.int .i64 ((↑j:Int))))] ⟨[(.map ⟨true, [(.int .u32),(.int .i64)]⟩ (lk) (es) (ck)),(.map ⟨true, [(.int .u32),(.int .i64)]⟩ (lk2) (es2) (ck2)),(.cells [(.map 0),(.map 1)])], []⟩ [] 141):=by kernel_rfl
theorem y9 (L:Bs) (W H:List aj) (lk lk2:bG) (es es2:bv) (ck ck2:Nat) (m q k a n:Int) (x y z:AtV) (b c g ok:Bool) (j:Nat) (Q:Exit→List TV→VT→List Nat→Nat→Prop):vx Try.prog ae (aG [(q8,oq W H y b),(yq,wS W H z c),(nH,uY ok)]) (aH [(999998, .dead,none),(93, .elt (tM k a n x g),none)]) 300 aE none 0 (bR Try.prog dd 6) (aL 141 ql (lH L m q j)) (iq lk lk2 es es2 ck ck2) [] (cz ql Q)=
 (bif decide ((↑j:Int)<(↑(List.length L):Int))
 then (bb Try.prog (fun _=> .none) (.indexAddr 22 (.tmp 89) (.tmp 91)) [(89,(.vec 9 (L) .none)),(91,(.val (.int .i64 ((↑j:Int)))))] (.elt [(.val (.int .i64 (k))),(.val (.int .u32 (a))),(.val (.int .i64 (n))),(.val (.int .i64 (AtV.o x))),(.vec 1 (iV (AtV.p x)) .none),(.val (.int .u32 (AtV.h x))),(.val (.int .i64 (AtV.m x))),(.val (.bool (AtV.hm x))),(.val (.bool (g)))])∧
 (((@Eq (Nat) 0 0)∧
 (RbAt (W) (H) ⟨[(.map ⟨true, [(.int .u32),(.int .i64)]⟩ (lk) (es) (ck)),(.map ⟨true, [(.int .u32),(.int .i64)]⟩ (lk2) (es2) (ck2)),(.cells [(.map 0),(.map 1)]),(.cells [(.val (.int .i64 (k))),(.val (.int .u32 (a))),(.val (.int .i64 (n))),(.val (.int .i64 (AtV.o x))),(.vec 1 (iV (AtV.p x)) .none),(.val (.int .u32 (AtV.h x))),(.val (.int .i64 (AtV.m x))),(.val (.bool (AtV.hm x))),(.val (.bool (g)))])], []⟩∧
 qh (W) [(.val (.int .u32 (a))),(.val (.int .i64 (n)))] (y) (b)))∧
 (((@Eq (Nat) 0 0)∧
 (RbAt (W) (H) ⟨[(.map ⟨true, [(.int .u32),(.int .i64)]⟩ (lk) (es) (ck)),(.map ⟨true, [(.int .u32),(.int .i64)]⟩ (lk2) (es2) (ck2)),(.cells [(.map 0),(.map 1)]),(.cells [(.val (.int .i64 (k))),(.val (.int .u32 (a))),(.val (.int .i64 (n))),(.val (.int .i64 (AtV.o x))),(.vec 1 (iV (AtV.p x)) .none),(.val (.int .u32 (AtV.h x))),(.val (.int .i64 (AtV.m x))),(.val (.bool (AtV.hm x))),(.val (.bool (g)))]),(.cells [(.val (.int .i64 (AtV.o y))),(.vec 1 (iV (AtV.p y)) .none),(.val (.int .u32 (AtV.h y))),(.val (.int .i64 (AtV.m y))),(.val (.bool (AtV.hm y)))])], []⟩∧
 qh (H) [(.val (.int .u32 (a))),(.val (.int .i64 (n)))] (z) (c)))∧
 (bif aw BinOp.neq (ai (Value.bool b) (Value.bool c))
 then Q .ret [(.ptr 2 0),(.val (.int .i64 (m))),(.val (.int .i64 (q))),(.vec 9 (L) .none),(.val (.int .i64 ((↑(List.length L):Int)))),(.val (.int .i64 ((↑j:Int))))] ⟨[(.map ⟨true, [(.int .u32),(.int .i64)]⟩ (lk) (es) (ck)),(.map ⟨true, [(.int .u32),(.int .i64)]⟩ (lk2) (es2) (ck2)),(.cells [(.map 0),(.map 1)]),(.cells [(.val (.int .i64 (k))),(.val (.int .u32 (a))),(.val (.int .i64 (n))),(.val (.int .i64 (AtV.o x))),(.vec 1 (iV (AtV.p x)) .none),(.val (.int .u32 (AtV.h x))),(.val (.int .i64 (AtV.m x))),(.val (.bool (AtV.hm x))),(.val (.bool (g)))]),(.cells [(.val (.int .i64 (AtV.o y))),(.vec 1 (iV (AtV.p y)) .none),(.val (.int .u32 (AtV.h y))),(.val (.int .i64 (AtV.m y))),(.val (.bool (AtV.hm y)))]),(.cells [(.val (.int .i64 (AtV.o z))),(.vec 1 (iV (AtV.p z)) .none),(.val (.int .u32 (AtV.h z))),(.val (.int .i64 (AtV.m z))),(.val (.bool (AtV.hm z)))])], []⟩ [] 141
 else (Ar [(.val (.int .i64 (AtV.o y))),(.vec 1 (iV (AtV.p y)) .none),(.val (.int .u32 (AtV.h y))),(.val (.int .i64 (AtV.m y))),(.val (.bool (AtV.hm y)))] [(.val (.int .i64 (AtV.o z))),(.vec 1 (iV (AtV.p z)) .none),(.val (.int .u32 (AtV.h z))),(.val (.int .i64 (AtV.m z))),(.val (.bool (AtV.hm z)))] (ok)∧
 (bif !ok
 then Q .ret [(.ptr 2 0),(.val (.int .i64 (m))),(.val (.int .i64 (q))),(.vec 9 (L) .none),(.val (.int .i64 ((↑(List.length L):Int)))),(.val (.int .i64 ((↑j:Int))))] ⟨[(.map ⟨true, [(.int .u32),(.int .i64)]⟩ (lk) (es) (ck)),(.map ⟨true, [(.int .u32),(.int .i64)]⟩ (lk2) (es2) (ck2)),(.cells [(.map 0),(.map 1)]),(.cells [(.val (.int .i64 (k))),(.val (.int .u32 (a))),(.val (.int .i64 (n))),(.val (.int .i64 (AtV.o x))),(.vec 1 (iV (AtV.p x)) .none),(.val (.int .u32 (AtV.h x))),(.val (.int .i64 (AtV.m x))),(.val (.bool (AtV.hm x))),(.val (.bool (g)))]),(.cells [(.val (.int .i64 (AtV.o y))),(.vec 1 (iV (AtV.p y)) .none),(.val (.int .u32 (AtV.h y))),(.val (.int .i64 (AtV.m y))),(.val (.bool (AtV.hm y)))]),(.cells [(.val (.int .i64 (AtV.o z))),(.vec 1 (iV (AtV.p z)) .none),(.val (.int .u32 (AtV.h z))),(.val (.int .i64 (AtV.m z))),(.val (.bool (AtV.hm z)))])], []⟩ [] 141
 else Q .normal [(.ptr 2 0),(.val (.int .i64 (m))),(.val (.int .i64 (q))),(.vec 9 (L) .none),(.val (.int .i64 ((↑(List.length L):Int)))),(.val (.int .i64 (IntKind.wrap IntKind.i64 ((↑j:Int)+(1:Int)))))] ⟨[(.map ⟨true, [(.int .u32),(.int .i64)]⟩ (lk) (es) (ck)),(.map ⟨true, [(.int .u32),(.int .i64)]⟩ (lk2) (es2) (ck2)),(.cells [(.map 0),(.map 1)]),(.cells [(.val (.int .i64 (k))),(.val (.int .u32 (a))),(.val (.int .i64 (n))),(.val (.int .i64 (AtV.o x))),(.vec 1 (iV (AtV.p x)) .none),(.val (.int .u32 (AtV.h x))),(.val (.int .i64 (AtV.m x))),(.val (.bool (AtV.hm x))),(.val (.bool (g)))]),(.cells [(.val (.int .i64 (AtV.o y))),(.vec 1 (iV (AtV.p y)) .none),(.val (.int .u32 (AtV.h y))),(.val (.int .i64 (AtV.m y))),(.val (.bool (AtV.hm y)))]),(.cells [(.val (.int .i64 (AtV.o z))),(.vec 1 (iV (AtV.p z)) .none),(.val (.int .u32 (AtV.h z))),(.val (.int .i64 (AtV.m z))),(.val (.bool (AtV.hm z)))])], []⟩ [] 141))))))
 else Q (.exit 6) [(.ptr 2 0),(.val (.int .i64 (m))),(.val (.int .i64 (q))),(.vec 9 (L) .none),(.val (.int .i64 ((↑(List.length L):Int)))),(.val (.int .i64 ((↑j:Int))))] ⟨[(.map ⟨true, [(.int .u32),(.int .i64)]⟩ (lk) (es) (ck)),(.map ⟨true, [(.int .u32),(.int .i64)]⟩ (lk2) (es2) (ck2)),(.cells [(.map 0),(.map 1)])], []⟩ [] 141):=by kernel_rfl
end
section
open Go.RowKit
set_option maxRecDepth 100000

section
variable {W H:List aj} {lk lk2:bG} {es es2:bv} {ck ck2:Nat}
theorem TbJ.of {W H:List aj} {T:VT} (h:RibT W H T):∃s:S6,TbJ W H s∧T=dc s.lk s.lk2 s.es s.es2 s.ck s.ck2:=by
 obtain ⟨lk,lk2,es,es2,ck,ck2,rfl,h1,h2⟩:=h
 exact ⟨⟨lk,lk2,es,es2,ck,ck2⟩,⟨h1,h2⟩,rfl⟩
theorem lI (h:TbOk W lk es ck) (h2:TbOk H lk2 es2 ck2) {W' H' :List aj} {f:FuncId} {ys:List TV} {v:TV} (hv:VCx Try.prog ae 0 f ys (dc lk lk2 es es2 ck ck2) fun x T' =>x=v∧RibT W' H' T') (hy:ar (aZ [0,1,2]) (aZ []) ys=ys) (hvr:∀f g,v.ren f g=v) (os:List VO) (tl:bF) (K:TV→VT→Prop)
    (hk:∀s:S6,TbJ W' H' s→K v ⟨.cells [.map 1, .map 2]:: .map kP s.lk s.es s.ck:: .map kP s.lk2 s.es2 s.ck2::os,tl⟩):VCx Try.prog ae 0 f ys ⟨.cells [.map 1, .map 2]:: .map kP lk es ck:: .map kP lk2 es2 ck2::os,tl⟩ K:=by
  have hg:VT.give ⟨.cells [.map 1, .map 2]:: .map kP lk es ck:: .map kP lk2 es2 ck2::os,tl⟩ [0,1,2] []=dc lk lk2 es es2 ck ck2:=by
    simp only [VT.give,List.map_cons,List.map_nil,List.getElem?_cons_zero,List.getElem?_cons_succ,Option.getD_some,h.ren,h2.ren,dc]
    rfl
  refine (VCx.lift (xs:=ys) [0,1,2] [] az (by decide) List.nodup_nil (fun k hk=> ?_) (by simp) (fun _ _=>Nat.zero_le _) hy (by rw [hg];exact hv) (fun x T' hq=> ?_)).mono ?_
  · simp only [List.mem_cons,List.not_mem_nil,or_false] at hk
    rcases hk with rfl | rfl | rfl
    · exact ⟨_,rfl,rfl⟩
    · exact ⟨_,rfl,rfl⟩
    · exact ⟨_,rfl,rfl⟩
  · obtain ⟨_,s,_,rfl⟩:=(show _∧∃s:S6,TbJ W' H' s∧T' =dc s.lk s.lk2 s.es s.es2 s.ck s.ck2 from ⟨hq.1,TbJ.of hq.2⟩)
    exact ⟨Nat.le_refl 3,Nat.zero_le _⟩
  · rintro x T'' ⟨y,T',⟨rfl,hr⟩,rfl,rfl⟩
    obtain ⟨s,hs,rfl⟩:=TbJ.of hr
    have hb:VT.back ⟨.cells [.map 1, .map 2]:: .map kP lk es ck:: .map kP lk2 es2 ck2::os,tl⟩ [0,1,2] [] (dc s.lk s.lk2 s.es s.es2 s.ck s.ck2)=⟨.cells [.map 1, .map 2]:: .map kP s.lk s.es s.ck:: .map kP s.lk2 s.es2 s.ck2::os,tl⟩:=by
      simp only [VT.back,dc,List.length_cons,List.map_cons,List.map_nil,hs.1.ren,hs.2.ren,bh]
      simp [bh,VO.ren,TV.ren,ar,aP]
    rw [hvr,hb]
    exact hk s hs
theorem nm (a n:Int) (x:AtV) (b:Bool) (f g:Nat→Option Nat):ar f g (fm a n x b)=fm a n x b:=by
 simp only [fm,AtV.cells,List.cons_append,List.nil_append,ar,TV.ren,cw,Tok.ren]
theorem Eg (W H:List aj) (a n:Int) (x:AtV):∀ro ys T K,Bc W H a n x ro ys T K→VCx Try.prog ae ro u9 ys T K:=by
 intro ro ys T K hw
 unfold Bc at hw
 split at hw
 ·split at hw
  ·rename_i sh lk es ck sh2 lk2 es2 ck2 os hT
   obtain ⟨⟨rfl,⟨rfl,rfl,⟨h1,h2⟩,l1,l2⟩,rfl,rfl,hx⟩,hk⟩:=hw
   obtain ⟨objs,tl⟩:=T
   simp only at hT;subst hT
   exact lI h1 h2 (Dy ⟨_,_,_,_,_,_,rfl,h1,h2⟩ (a,n) hx l1) (by simp only [ar,TV.ren,AtV.ren',tL];rfl) (fun _ _=>rfl) os tl K hk
  ·exact hw.elim
 ·exact hw.elim
theorem Eh (W H:List aj) (a n:Int):∀ro ys T K,Bd W H a n ro ys T K→VCx Try.prog ae ro va ys T K:=by
 intro ro ys T K hw
 unfold Bd at hw
 split at hw
 ·split at hw
  ·rename_i sh lk es ck sh2 lk2 es2 ck2 os hT
   obtain ⟨⟨rfl,⟨rfl,rfl,⟨h1,h2⟩,l1,l2⟩,rfl⟩,hk⟩:=hw
   obtain ⟨objs,tl⟩:=T
   simp only at hT;subst hT
   exact lI h1 h2 (Dz ⟨_,_,_,_,_,_,rfl,h1,h2⟩ (a,n)) rfl (fun _ _=>rfl) os tl K hk
  ·exact hw.elim
 ·exact hw.elim
theorem Ei (W H:List aj) (a n:Int) (x:AtV) (g:Bool):∀ro ys T K,Be W H a n x g ro ys T K→VCx Try.prog ae ro pf ys T K:=by
 intro ro ys T K hw
 unfold Be at hw
 split at hw
 ·split at hw
  ·rename_i sh lk es ck sh2 lk2 es2 ck2 os hT
   obtain ⟨⟨rfl,⟨rfl,rfl,⟨h1,h2⟩,l1,l2⟩,rfl,hx⟩,hk⟩:=hw
   obtain ⟨objs,tl⟩:=T
   simp only at hT;subst hT
   exact lI h1 h2 (tr ⟨_,_,_,_,_,_,rfl,h1,h2⟩ (a,n) g hx l2) (by simp only [ar,TV.ren,nm];rfl) (fun _ _=>rfl) os tl K hk
  ·exact hw.elim
 ·exact hw.elim
theorem Ej (W H:List aj):∀ro ys T K,Bf W H ro ys T K→VCx Try.prog ae ro yp ys T K:=by
 intro ro ys T K hw
 unfold Bf at hw
 split at hw
 ·split at hw
  ·rename_i sh lk es ck sh2 lk2 es2 ck2 os hT
   obtain ⟨⟨rfl,rfl,rfl,⟨h1,h2⟩,l1,l2⟩,hk⟩:=hw
   obtain ⟨objs,tl⟩:=T
   simp only at hT;subst hT
   exact lI h1 h2 (DA ⟨_,_,_,_,_,_,rfl,h1,h2⟩) rfl (fun _ _=>rfl) os tl K hk
  ·exact hw.elim
 ·exact hw.elim
theorem pt (W H:List aj) (f g:Nat→Option Nat):VO.ren f g (.cells [.vec 7 (W.map aB) .none, .vec 7 (H.map aB) .none])= .cells [.vec 7 (W.map aB) .none, .vec 7 (H.map aB) .none]:=by
 simp only [VO.ren,ar,TV.ren,cM,Tok.ren]
theorem nn {V J V' J' :List aj} {f:FuncId} {ys ys1:List TV} {v:TV} {T:VT} {K:TV→VT→Prop} (hT:T.objs[3]?=some (.cells [.vec 7 (V.map aB) .none, .vec 7 (J.map aB) .none])) (hv:VCx Try.prog ae 0 f ys1 (jw V J) fun x T' =>x=v∧T' =jw V' J') (hy:ar (aZ [3]) (aZ []) ys=ys1) (hvr:∀f g,v.ren f g=v)
  (hk:K v {T with objs:=T.objs.set 3 (.cells [.vec 7 (V'.map aB) .none, .vec 7 (J'.map aB) .none])}):VCx Try.prog ae 0 f ys T K:=by
 refine VCx.at1 (k:=3) az (Nat.zero_le _) hT rfl (pt V J _ _) hy (Q:=fun x o' l' =>x=v∧o' = .cells [.vec 7 (V'.map aB) .none, .vec 7 (J'.map aB) .none]∧l' = []) (hv.mono fun x T' ⟨h1,h2⟩=>⟨_,_,h2,h1,rfl,rfl⟩) ?_
 rintro x o' l' ⟨rfl,rfl,rfl⟩
 rw [pt,hvr,List.map_nil,List.append_nil]
 exact hk
theorem i3:aZ [3] 3=some 0:=rfl
theorem Ek (W H:List aj) (a n:Int) (x:AtV):∀ro ys T K,Bg W H a n x ro ys T K→VCx Try.prog ae ro yI ys T K:=by
 intro ro ys T K hw
 unfold Bg at hw
 split at hw
 ·split at hw
  ·rename_i w h hT
   obtain ⟨⟨rfl,⟨rfl,rfl,r1,r2⟩,rfl,rfl,hx,hp⟩,hk⟩:=hw
   exact nn hT (D8 (H:=H) r1 (a,n) hp hx) (by simp only [ar,TV.ren,AtV.ren',tL];rfl) (fun _ _=>rfl) hk
  ·exact hw.elim
 ·exact hw.elim
theorem El (W H:List aj) (a n:Int):∀ro ys T K,Bh W H a n ro ys T K→VCx Try.prog ae ro yJ ys T K:=by
 intro ro ys T K hw
 unfold Bh at hw
 split at hw
 ·split at hw
  ·rename_i w h hT
   obtain ⟨⟨rfl,⟨rfl,rfl,r1,r2⟩,rfl⟩,hk⟩:=hw
   exact nn hT (D9 (H:=H) r1 (a,n)) rfl (fun _ _=>rfl) hk
  ·exact hw.elim
 ·exact hw.elim
theorem Em (W H:List aj) (a n:Int) (x:AtV) (g:Bool):∀ro ys T K,Bi W H a n x g ro ys T K→VCx Try.prog ae ro yK ys T K:=by
 intro ro ys T K hw
 unfold Bi at hw
 split at hw
 ·split at hw
  ·rename_i w h hT
   obtain ⟨⟨rfl,⟨rfl,rfl,r1,r2⟩,rfl,hx,hp⟩,hk⟩:=hw
   exact nn hT (Ea (W:=W) r2 (a,n) g hp hx) (by simp only [ar,TV.ren,nm];rfl) (fun _ _=>rfl) hk
  ·exact hw.elim
 ·exact hw.elim
theorem En (W H:List aj):∀ro ys T K,Bj W H ro ys T K→VCx Try.prog ae ro yL ys T K:=by
 intro ro ys T K hw
 unfold Bj at hw
 split at hw
 ·split at hw
  ·rename_i w h hT
   obtain ⟨⟨rfl,rfl,rfl,r1,r2⟩,hk⟩:=hw
   exact nn hT (Eb (W:=W) (H:=H)) rfl (fun _ _=>rfl) hk
  ·exact hw.elim
 ·exact hw.elim
theorem Gk (W H V J:List aj) (a n:Int) (x:AtV) (g:Bool):aT Try.prog ae (aG [(u9,Bc W H a n x),(va,Bd W H a n),(pf,Be W H a n x g),(yp,Bf W H),(yI,Bg V J a n x),(yJ,Bh V J a n),(yK,Bi V J a n x g),(yL,Bj V J)]):=aV fun q hq=>by
 rcases List.mem_cons.1 hq with rfl | hq;exact Eg _ _ _ _ _
 rcases List.mem_cons.1 hq with rfl | hq;exact Eh _ _ _ _
 rcases List.mem_cons.1 hq with rfl | hq;exact Ei _ _ _ _ _ _
 rcases List.mem_cons.1 hq with rfl | hq;exact Ej _ _
 rcases List.mem_cons.1 hq with rfl | hq;exact Ek _ _ _ _ _
 rcases List.mem_cons.1 hq with rfl | hq;exact El _ _ _ _
 rcases List.mem_cons.1 hq with rfl | hq;exact Em _ _ _ _ _ _
 obtain rfl:=List.mem_singleton.1 hq;exact En _ _
def F6 (W V:List aj) (t:dU):Bool:=if t.k=1 then decide (ba W t.p=ba V t.p) else true
theorem Gl (x y:Bool):aw BinOp.eql (ai (.bool x) (.bool y))=decide (x=y):=by
 cases x<;>cases y<;>rfl
theorem kM {W H:List aj} (s:S6) (hs:TbJ W H s) (V J:List aj) (o:List VO):VT.keep ⟨(nN s.lk s.lk2 s.es s.es2 s.ck s.ck2 (cc V) (cc J)).objs++o, []⟩ 4 0=nN s.lk s.lk2 s.es s.es2 s.ck s.ck2 (cc V) (cc J):=by
 have e1:=hs.1.ren (am 4) (am 0)
 have e2:=hs.2.ren (am 4) (am 0)
 have e3:=pt V J (am 4) (am 0)
 simp only [VT.keep,nN,cc,List.cons_append,List.nil_append,List.take_succ_cons,List.take_zero,List.map_cons,List.map_nil,e1,e2,e3]
 rfl
theorem Eo {W H V J:List aj} (s:S6) (hs:TbJ W H s) (l1:W.length<1000) (l2:H.length<1000) (hV:ex V) (hJ:ex J) (t:dU) (ht:lD t):VCx Try.prog ae 0 vp [.ptr 0 0, .ptr 3 0, .agg (bk t)] (nN s.lk s.lk2 s.es s.es2 s.ck s.ck2 (cc V) (cc J)) fun x T' =>x= .val (.bool (F6 W V t))∧∃s',TbJ (iw W t.k t.p.1 t.p.2 t.a) (jx H t.k t.p.1 t.p.2 t.a t.g) s' ∧T' =nN s'.lk s'.lk2 s'.es s'.es2 s'.ck s'.ck2 (cc (iw V t.k t.p.1 t.p.2 t.a)) (cc (jx J t.k t.p.1 t.p.2 t.a t.g)):=by
 obtain ⟨k,⟨a,n⟩,x,g⟩:=t
 obtain ⟨hp,hx⟩:=ht
 simp only at hp hx ⊢
 have hd:lB W H kP s.lk s.es s.ck kP s.lk2 s.es2 s.ck2:=⟨rfl,rfl,hs,l1,l2⟩
 have hm:lC V J (cc V) (cc J):=⟨rfl,rfl,hV,hJ⟩
 refine VCx.keepQ 4 0 (Nat.le_refl _) (Nat.le_refl _) (ak ac aa (Gk W H V J a n x g) ah (FD W H V J s.lk s.lk2 s.es s.es2 s.ck s.ck2 k a n x g _) ?_)
 rw [kB,kB,kB,kB,kB,kB,Gl]
 refine aA (fun h0=> ?_) (fun h0=>aA (fun h1=> ?_) (fun h1=>aA (fun h2=> ?_) (fun h2=>aA (fun h3=> ?_) (fun h3=> ?_))))
 ·have e0:=of_decide_eq_true h0
  subst e0
  refine ⟨⟨rfl,hd,rfl,rfl,hx⟩,fun s' hs' =>⟨⟨rfl,rfl,rfl,rfl,trivial⟩,⟨rfl,hm,rfl,rfl,hx,hp⟩, ?_,s',hs', ?_⟩⟩
  ·rw [decide_eq_true rfl];rfl
  ·exact kM s' hs' _ _ _
 ·have e0:=of_decide_eq_true h1
  subst e0
  refine ⟨⟨rfl,hd,rfl⟩,fun s' hs' =>⟨⟨rfl,rfl,trivial⟩,⟨rfl,hm,rfl⟩,rfl,s',hs', ?_⟩⟩
  exact kM s' hs' _ _ _
 ·have e0:=of_decide_eq_true h2
  subst e0
  refine ⟨⟨rfl,hd,rfl,hx⟩,fun s' hs' =>⟨⟨rfl,rfl,trivial⟩,⟨rfl,hm,rfl,hx,hp⟩, ?_,s',hs', ?_⟩⟩
  ·rw [decide_eq_true rfl];rfl
  ·exact kM s' hs' _ _ _
 ·have e0:=of_decide_eq_true h3
  subst e0
  refine ⟨⟨rfl,hd⟩,fun s' hs' =>⟨⟨rfl,hm⟩,rfl,s',hs', ?_⟩⟩
  exact kM s' hs' V [] _
 ·have d0:=of_decide_eq_false h0
  have d1:=of_decide_eq_false h1
  have d2:=of_decide_eq_false h2
  have d3:=of_decide_eq_false h3
  refine ⟨?_,s, ?_, ?_⟩
  ·simp only [F6,if_neg d1];rfl
  ·simp only [iw,jx,if_neg d0,if_neg d1,if_neg d2,if_neg d3];exact hs
  ·simp only [iw,jx,if_neg d0,if_neg d1,if_neg d2,if_neg d3]
   exact kM s hs V J _
end
end
section
open Go.RowKit
set_option maxRecDepth 100000

theorem VCx.cellsIn {P:Program} {G:av} {f:FuncId} {xs:List TV} {T:VT} {Q:TV→VT→Prop} {i:Nat} {cs cs' :List TV} (hi:T.objs[i]?=some (.cells cs)) (hl:TVleL cs cs') (h:VCx P G 0 f xs {T with objs:=T.objs.set i (.cells cs')} Q):VCx P G 0 f xs T Q:=by
 intro g w us r hG hx
 have r' :=r.objLe hi rfl (o' := .cells cs') rfl fun b ⟨us,t,h1,h2,h3⟩=>⟨us,t,h1,hl.vrs h2,h3⟩
 refine Calls.mono (h g w us r' hG hx) ?_
 rintro e w' ⟨v,x,g',T',he,hq,e',r2,hv,hfx⟩
 refine ⟨v,x,g',T',he,hq,e',r2,hv,⟨?_,fun i hi=>absurd hi (Nat.not_lt_zero i),fun i o b hi=>absurd hi (Nat.not_lt_zero i)⟩⟩
 have:=hfx.len
 simpa using this
theorem vt {W V:List aj} (h:b6 W) (k:b6 V) (he:∀p,ay W p=ay V p):W=V:=by
 have hp:W.Perm V:=by
  have nd:∀{U:List aj},b6 U→U.Nodup:=fun hu=>List.Pairwise.imp (fun {a b} hab e=>by rw [e] at hab;exact cF _ hab) hu
  refine (List.perm_ext_iff_of_nodup (nd h) (nd k)).2 fun r=>⟨fun hr=> ?_,fun hr=> ?_⟩
  ·have:=di h (p:=r.1) (a:=r.2) hr
   rw [he] at this
   exact br this
  ·have:=di k (p:=r.1) (a:=r.2) hr
   rw [←he] at this
   exact br this
 have asy:∀a b:aj,a∈W→b∈V→bL a.1 b.1→bL b.1 a.1→a=b:=fun a b _ _ h1 h2=>absurd (fH h1 h2) (cF _)
 exact List.Perm.eq_of_pairwise (le:=fun r s:aj=>bL r.1 s.1) asy h k hp
theorem AO {a b:AtV} (h:gz a=gz b):a=b:=by
 obtain ⟨o,p,h1,m,hm⟩:=a
 obtain ⟨o2,p2,h2,m2,hm2⟩:=b
 simp only [gz,AtV.cells] at h
 injection h with h
 simp only [List.cons.injEq,TV.val.injEq,Value.int.injEq,TV.vec.injEq,Value.bool.injEq,true_and,and_true] at h
 obtain ⟨rfl,h3,rfl,rfl,rfl⟩:=h
 have h4:=congrArg uW h3
 rw [il,il] at h4
 rw [h4]
theorem TbOk.uniq {W V:List aj} {lk:bG} {es es2:bv} {ck ck2:Nat} (h:TbOk W lk es ck) (k:TbOk V lk es2 ck2):W=V:=by
 refine vt h.srt k.srt fun p=> ?_
 have e:=(h.look p).symm.trans (k.look p)
 cases h1:ay W p<;>cases h2:ay V p<;>rw [h1,h2] at e
 ·cases e
 ·cases e
 ·injection e with e;rw [AO e]
theorem RbAt.uniq {W H V J:List aj} {T:VT} (h:RbAt W H T) (k:RbAt V J T):W=V∧H=J:=by
 obtain ⟨s,os,h1,h2,_⟩:=h
 obtain ⟨s',os',k1,k2,_⟩:=k
 rw [h1] at k1
 simp only [List.cons_append,List.nil_append,List.cons.injEq,VO.map.injEq,true_and] at k1
 obtain ⟨⟨a1,a2,a3⟩,⟨b1,b2,b3⟩,_⟩:=k1
 exact ⟨h2.1.uniq (a1▸k2.1),h2.2.uniq (b1▸k2.2)⟩
theorem RbAt.of {W H:List aj} {s:S6} (hs:TbJ W H s) (l1:W.length<1000) (l2:H.length<1000) (os:List VO) (tl:bF):RbAt W H ⟨.map kP s.lk s.es s.ck:: .map kP s.lk2 s.es2 s.ck2:: .cells [.map 0, .map 1]::os,tl⟩:=⟨s,os,rfl,hs,l1,l2⟩
section
variable {W H:List aj}
theorem vu {s:S6} (hs:TbJ W H s) (os:List VO) (tl:bF):VT.give ⟨.map kP s.lk s.es s.ck:: .map kP s.lk2 s.es2 s.ck2:: .cells [.map 0, .map 1]::os,tl⟩ [2,0,1] []=dc s.lk s.lk2 s.es s.es2 s.ck s.ck2:=by
 simp only [VT.give,List.map_cons,List.map_nil,List.getElem?_cons_zero,List.getElem?_cons_succ,Option.getD_some,hs.1.ren,hs.2.ren,dc]
 rfl
theorem vv {V J:List aj} (s:S6) {s' :S6} (hs:TbJ V J s') (os:List VO) (tl:bF):VT.back ⟨.map kP s.lk s.es s.ck:: .map kP s.lk2 s.es2 s.ck2:: .cells [.map 0, .map 1]::os,tl⟩ [2,0,1] [] (dc s'.lk s'.lk2 s'.es s'.es2 s'.ck s'.ck2)=⟨.map kP s'.lk s'.es s'.ck:: .map kP s'.lk2 s'.es2 s'.ck2:: .cells [.map 0, .map 1]::os,tl⟩:=by
 simp only [VT.back,dc,List.length_cons,List.map_cons,List.map_nil,hs.1.ren,hs.2.ren,bh]
 simp [bh,VO.ren,TV.ren,ar,aP]
theorem rj {s:S6} (hs:TbJ W H s) {W' H' :List aj} {f:FuncId} {ys ys1:List TV} {v:TV} (hv:VCx Try.prog ae 0 f ys1 (dc s.lk s.lk2 s.es s.es2 s.ck s.ck2) fun x T' =>x=v∧RibT W' H' T') (hy:ar (aZ [2,0,1]) (aZ []) ys=ys1) (hvr:∀f g,v.ren f g=v) (os:List VO) (tl:bF) (K:TV→VT→Prop)
    (hk:∀s' :S6,TbJ W' H' s' →K v ⟨.map kP s'.lk s'.es s'.ck:: .map kP s'.lk2 s'.es2 s'.ck2:: .cells [.map 0, .map 1]::os,tl⟩):VCx Try.prog ae 0 f ys ⟨.map kP s.lk s.es s.ck:: .map kP s.lk2 s.es2 s.ck2:: .cells [.map 0, .map 1]::os,tl⟩ K:=by
  refine (VCx.lift (xs:=ys1) [2,0,1] [] az (by decide) List.nodup_nil (fun k hk=> ?_) (by simp) (fun _ _=>Nat.zero_le _) hy (by rw [vu hs];exact hv) (fun x T' hq=> ?_)).mono ?_
  · simp only [List.mem_cons,List.not_mem_nil,or_false] at hk
    rcases hk with rfl | rfl | rfl
    · exact ⟨_,rfl,rfl⟩
    · exact ⟨_,rfl,rfl⟩
    · exact ⟨_,rfl,rfl⟩
  · obtain ⟨_,s',_,rfl⟩:=(show _∧∃s:S6,TbJ W' H' s∧T' =dc s.lk s.lk2 s.es s.es2 s.ck s.ck2 from ⟨hq.1,TbJ.of hq.2⟩)
    exact ⟨Nat.le_refl 3,Nat.zero_le _⟩
  · rintro x T'' ⟨y,T',⟨rfl,hr⟩,rfl,rfl⟩
    obtain ⟨s',hs',rfl⟩:=TbJ.of hr
    rw [hvr,vv s hs']
    exact hk s' hs'
theorem gU {T:VT} (h:RbAt W H T) {f:FuncId} {ys ys1:List TV} {v:TV} (hv:∀s:S6,TbJ W H s→VCx Try.prog ae 0 f ys1 (dc s.lk s.lk2 s.es s.es2 s.ck s.ck2) fun x T' =>x=v∧T' =dc s.lk s.lk2 s.es s.es2 s.ck s.ck2) (hy:ar (aZ [2,0,1]) (aZ []) ys=ys1) (hvr:∀f g,v.ren f g=v) (K:TV→VT→Prop) (hk:K v T):VCx Try.prog ae 0 f ys T K:=by
 obtain ⟨s,os,hT,hs,_⟩:=h
 obtain ⟨objs,tl⟩:=T
 simp only at hT;subst hT
 refine (VCx.lift (xs:=ys1) [2,0,1] [] az (by decide) List.nodup_nil (fun k hk=> ?_) (by simp) (fun _ _=>Nat.zero_le _) hy (by
  show VCx _ _ 0 f ys1 (VT.give ⟨.map kP s.lk s.es s.ck:: .map kP s.lk2 s.es2 s.ck2:: .cells [.map 0, .map 1]::os,tl⟩ [2,0,1] []) _
  rw [vu hs];exact hv s hs) (fun x T' hq=> ?_)).mono ?_
 ·simp only [List.mem_cons,List.not_mem_nil,or_false] at hk
  rcases hk with rfl | rfl | rfl
  ·exact ⟨_,rfl,rfl⟩
  ·exact ⟨_,rfl,rfl⟩
  ·exact ⟨_,rfl,rfl⟩
 ·rw [hq.2];exact ⟨Nat.le_refl 3,Nat.zero_le _⟩
 ·rintro x T'' ⟨y,T',⟨rfl,rfl⟩,rfl,rfl⟩
  have hb:=vv s hs os tl
  simp only [List.cons_append,List.nil_append] at hk ⊢
  rw [hvr,hb]
  exact hk
theorem RibT.ofJ {s:S6} (hs:TbJ W H s):RibT W H (dc s.lk s.lk2 s.es s.es2 s.ck s.ck2):=⟨_,_,_,_,_,_,rfl,hs.1,hs.2⟩
theorem za (W H:List aj) (y:AtV) (b:Bool):∀ro ys T K,oq W H y b ro ys T K→VCx Try.prog ae ro q8 ys T K:=by
 intro ro ys T K hw
 unfold oq at hw
 split at hw
 ·obtain ⟨⟨rfl,h,p,rfl,rfl,rfl⟩,hk⟩:=hw
  exact gU h (fun s hs=>DC (RibT.ofJ hs) p) rfl (fun f g=>by simp only [TV.ren,ar,AtV.ren']) K hk
 ·exact hw.elim
theorem Ep (W H:List aj) (y:AtV) (b:Bool):∀ro ys T K,wS W H y b ro ys T K→VCx Try.prog ae ro yq ys T K:=by
 intro ro ys T K hw
 unfold wS at hw
 split at hw
 ·obtain ⟨⟨rfl,h,p,rfl,rfl,rfl⟩,hk⟩:=hw
  exact gU h (fun s hs=>DD (RibT.ofJ hs) p) rfl (fun f g=>by simp only [TV.ren,ar,AtV.ren']) K hk
 ·exact hw.elim
theorem Er:∀ro ys T K,Bk ro ys T K→VCx Try.prog ae ro nK ys T K:=by
 intro ro ys T K hw
 unfold Bk at hw
 split at hw
 ·obtain ⟨⟨rfl,W,H,h⟩,hk⟩:=hw
  exact gU h (fun s hs=>yC (RibT.ofJ hs)) rfl (fun f g=>by simp only [TV.ren,dR,Tok.ren]) K (hk _ ⟨W,H,h,rfl⟩)
 ·exact hw.elim
theorem Es:∀ro ys T K,Bl ro ys T K→VCx Try.prog ae ro nL ys T K:=by
 intro ro ys T K hw
 unfold Bl at hw
 split at hw
 ·obtain ⟨⟨rfl,W,H,h⟩,hk⟩:=hw
  exact gU h (fun s hs=>yF (RibT.ofJ hs)) rfl (fun f g=>by simp only [TV.ren,jr,Tok.ren]) K (hk _ ⟨W,H,h,rfl⟩)
 ·exact hw.elim
theorem Et:∀ro ys T K,Bm ro ys T K→VCx Try.prog ae ro yx ys T K:=by
 intro ro ys T K hw
 unfold Bm at hw
 split at hw
 ·obtain ⟨⟨rfl,W,H,h⟩,hk⟩:=hw
  exact gU h (fun s hs=>DW (RibT.ofJ hs)) rfl (fun f g=>rfl) K (hk _ ⟨W,H,h,rfl⟩)
 ·exact hw.elim
theorem Eu:∀ro ys T K,Bn ro ys T K→VCx Try.prog ae ro yr ys T K:=by
 intro ro ys T K hw
 unfold Bn at hw
 split at hw
 ·obtain ⟨⟨rfl,W,H,h⟩,hk⟩:=hw
  exact gU h (fun s hs=>DE (RibT.ofJ hs)) rfl (fun f g=>rfl) K (hk _ _ ⟨W,H,h,rfl,rfl⟩)
 ·exact hw.elim
theorem Ev (p:Px) (g:Bool):TVleL (Ee p.1 p.2 g) (fm p.1 p.2 cK g):=⟨.refl _, .refl _, .refl _, .nil 1, .refl _, .refl _, .refl _, .refl _,trivial⟩
theorem Ew (W H:List aj) (a n:Int) (x:AtV) (g:Bool):∀ro ys T K,yY W H a n x g ro ys T K→VCx Try.prog ae ro pf ys T K:=by
 intro ro ys T K hw
 unfold yY at hw
 split at hw
 ·split at hw
  ·rename_i sh lk es ck sh2 lk2 es2 ck2 os hT
   obtain ⟨⟨rfl,⟨s,os',hT',hs,l1,l2⟩,hl,hx⟩,hk⟩:=hw
   obtain ⟨objs,tl⟩:=T
   simp only at hT hT'
   subst hT
   simp only [List.cons_append,List.nil_append,List.cons.injEq,VO.map.injEq,true_and] at hT'
   obtain ⟨⟨rfl,rfl,rfl,rfl⟩,⟨rfl,rfl,rfl,rfl⟩,rfl⟩:=hT'
   rcases hl with rfl | ⟨rfl,rfl⟩
   ·exact rj hs (tr (RibT.ofJ hs) (a,n) g hx l2) (by simp only [ar,TV.ren,nm];rfl) (fun _ _=>rfl) os tl K hk
   ·exact rj (ys1:= [.ptr 0 0, .agg (Ee a n g)]) hs (VCx.argsLe (xs:= [.ptr 0 0, .agg (fm a n cK g)]) ⟨.refl _, .agg (Ev (a,n) g),trivial⟩ (tr (RibT.ofJ hs) (a,n) g hx l2)) rfl (fun _ _=>rfl) os tl K hk
  ·exact hw.elim
 ·exact hw.elim
end
end
section
open Go.RowKit
set_option maxRecDepth 100000

theorem vw (t:dU) (f g:Nat→Option Nat):ar f g (bk t)=bk t:=by
 simp only [bk,tM,ar,TV.ren,nm]
theorem Ex (W H:List aj) (k a n:Int) (x:AtV) (g:Bool):∀ro ys T K,Bo W H k a n x g ro ys T K→VCx Try.prog ae ro vp ys T K:=by
 intro ro ys T K hw
 unfold Bo at hw
 split at hw
 ·split at hw
  ·rename_i sh lk es ck sh2 lk2 es2 ck2 o3 hT
   obtain ⟨⟨rfl,⟨s,os',hT',hs,l1,l2⟩,rfl,hp,hx⟩,hk⟩:=hw
   obtain ⟨objs,tl⟩:=T
   simp only at hT hT' hk
   subst hT
   simp only [List.cons_append,List.nil_append,List.cons.injEq,VO.map.injEq,true_and] at hT'
   obtain ⟨⟨rfl,rfl,rfl,rfl⟩,⟨rfl,rfl,rfl,rfl⟩,rfl⟩:=hT'
   refine VCx.cellsIn (i:=4) (cs' := [.vec 7 [] .none, .vec 7 [] .none]) rfl ⟨.nil 7, .nil 7,trivial⟩ ?_
   refine VCx.cellsLe 4 ?_
   show VCx _ _ 0 vp _ ⟨[.map kP s.lk s.es s.ck, .map kP s.lk2 s.es2 s.ck2, .cells [.map 0, .map 1],o3, .cells [.vec 7 [] .none, .vec 7 [] .none]],tl⟩ _
   have hg:VT.give ⟨[.map kP s.lk s.es s.ck, .map kP s.lk2 s.es2 s.ck2, .cells [.map 0, .map 1],o3, .cells [.vec 7 [] .none, .vec 7 [] .none]],tl⟩ [2,0,1,4] []=nN s.lk s.lk2 s.es s.es2 s.ck s.ck2 (cc []) (cc []):=by
    simp only [VT.give,List.map_cons,List.map_nil,List.getElem?_cons_zero,List.getElem?_cons_succ,Option.getD_some,hs.1.ren,hs.2.ren,nN]
    rfl
   have hv:=Eo (V:= []) (J:= []) s hs l1 l2 ⟨Nat.zero_le _,fun r h=>by cases h⟩ ⟨Nat.zero_le _,fun r h=>by cases h⟩ ⟨k,(a,n),x,g⟩ ⟨hp,hx⟩
   refine (VCx.lift (xs:= [.ptr 0 0, .ptr 3 0, .agg (bk ⟨k,(a,n),x,g⟩)]) [2,0,1,4] [] az (by decide) List.nodup_nil (fun i hi=> ?_) (by simp) (fun _ _=>Nat.zero_le _) ?_ (by rw [hg];exact hv) (fun y T' hq=> ?_)).mono ?_
   ·simp only [List.mem_cons,List.not_mem_nil,or_false] at hi
    rcases hi with rfl | rfl | rfl | rfl
    ·exact ⟨_,rfl,rfl⟩
    ·exact ⟨_,rfl,rfl⟩
    ·exact ⟨_,rfl,rfl⟩
    ·exact ⟨_,rfl,rfl⟩
   ·have e:=vw ⟨k,(a,n),x,g⟩ (aZ [2,0,1,4]) (aZ [])
    simp only [bk] at e
    simp only [ar,TV.ren,e];rfl
   ·obtain ⟨_,s',_,rfl⟩:=hq
    exact ⟨Nat.le_refl 4,Nat.zero_le _⟩
   ·rintro y T'' ⟨z,T',⟨rfl,s',hs',rfl⟩,rfl,rfl⟩
    simp only at hs'
    have hb:VT.back ⟨[.map kP s.lk s.es s.ck, .map kP s.lk2 s.es2 s.ck2, .cells [.map 0, .map 1],o3, .cells [.vec 7 [] .none, .vec 7 [] .none]],tl⟩ [2,0,1,4] [] (nN s'.lk s'.lk2 s'.es s'.es2 s'.ck s'.ck2 (cc (iw [] k a n x)) (cc (jx [] k a n x g)))=⟨[.map kP s'.lk s'.es s'.ck, .map kP s'.lk2 s'.es2 s'.ck2, .cells [.map 0, .map 1],o3, .cells [.vec 7 (cc (iw [] k a n x)) .none, .vec 7 (cc (jx [] k a n x g)) .none]],tl⟩:=by
     simp only [VT.back,nN,List.length_cons,List.map_cons,List.map_nil,hs'.1.ren,hs'.2.ren,bh,cc,pt]
     simp [bh,VO.ren,TV.ren,ar,aP]
    rw [hb]
    refine ⟨_, [.dead, .dead],rfl,⟨fun _ _ _ _=> .dead _,fun _ _ _ _=> .dead _,trivial⟩, ?_⟩
    exact hk s' _ hs'
  ·exact hw.elim
 ·exact hw.elim
theorem Ey:∃(inf:TypeInfo),Try.prog.info? 36=some inf∧inf.size=9:=⟨(Try.prog.info? 36).getD default,by kernel_rfl,by kernel_rfl⟩
theorem wT {l:List dU} {j:Nat} {t:dU} (x i:Nat) (hne:Nat.beq x i=false) (hp:l[j]?=some t):bb Try.prog ae (.indexAddr 22 (.tmp x) (.tmp i)) [(x, .vec 9 (l.map bk) .none),(i, .val (.int .i64 (j:Int)))] (.elt (bk t)):=by
 obtain ⟨inf,i1,i2⟩:=Ey
 exact eK (P:=Try.prog) (G:=ae) (inf:=inf) (t:=22) (x:= .tmp x) (i:= .tmp i) (l:= [(x, .vec 9 (l.map bk) .none),(i, .val (.int .i64 (j:Int)))]) (es:=l.map bk) (tok:= .none) (k:= .i64) (z:=(j:Int)) (cs:=bk t) Try.underlying22 i1 (by rw [i2];simp [aS,cS]) (by simp [aS,cS,hne]) (by omega) (by simp [hp])
theorem fW (f g:Nat→Option Nat):∀l:List dU,de f g (l.map bk)=l.map bk
 | []=>rfl
 | a::l=>by simp only [List.map_cons,de,vw,fW f g l]
theorem Cm {l:List dU} (hl:l.length≤9223372036854775807):dl Try.prog ae (F5 (l.map bk) (aq Try.prog kK 0)):=bP fun q hq=>by
  obtain rfl:=List.mem_singleton.1 hq
  refine cJ fun K hK=> ?_
  have hlen:(l.map bk).length=l.length:=List.length_map _
  refine eQ (f:=kK) (id:=0) (by kernel_rfl) 25 qm (fun s:Nat × Int=>l.length-s.1) (fun s=>tQ (l.map bk) s.2 s.1) (fun _=>⟨[], []⟩) (fun s=>s.1≤l.length) 0 0 (fun _ _=>⟨Nat.le_refl _,Nat.le_refl _⟩)
    (fun e vs T=>∃(s j:Int) (c:List TV),vs=tQ (l.map bk) s j∧((e= .normal∧T=⟨[], []⟩)∨(e= .ret∧T=⟨[.cells c], []⟩))) (fun st hj=> ?_) (0,0) (Nat.zero_le _) K ?_
  · obtain ⟨j,s⟩:=st
    simp only at hj
    by_cases hlt:j<l.length
    · have hr:=List.getElem?_eq_getElem hlt
      generalize l[j]=t at hr
      refine bt ac aa ag ah (yZ (l.map bk) t.k t.p.1 t.p.2 t.a t.g s j _) ?_
      refine bx (decide_eq_true (by rw [hlen];omega)) ⟨wT 9 11 rfl hr,aA (fun h=> ?_) (fun h=> ?_)⟩
      · exact ⟨rfl,rfl,_,_,_,rfl, .inr ⟨rfl,rfl⟩⟩
      · refine ⟨rfl,rfl,(j+1,IntKind.wrap .i64 (s+((iV t.a.p).length:Int))),hlt,by show l.length-(j+1)<l.length-j;omega, .inr ⟨rfl, ?_⟩⟩
        rw [gv hlt hl]
        simp only [tQ,ar,TV.ren,fW,Tok.ren]
    · have hj2:j=l.length:=by omega
      subst hj2
      refine bt ac aa ag ah (yZ (l.map bk) 0 0 0 cK false s l.length _) ?_
      exact be (decide_eq_false (by rw [hlen];omega)) ⟨rfl,rfl,s,_, [],rfl, .inl ⟨rfl,rfl⟩⟩
  · rintro e vs T ⟨s,j,c,rfl,⟨rfl,rfl⟩ | ⟨rfl,rfl⟩⟩
    · exact hK.1 s j
    · exact hK.2 s j c
theorem Ez {l:List dU} (hl:l.length≤9223372036854775807):VCx Try.prog ae 0 kK [.vec 9 (l.map bk) .none] ⟨[], []⟩ fun x T' =>(∃b,tO (l.map bk) b∧x= .val (.bool b))∧T' =⟨[], []⟩:=by
 have hlen:(l.map bk).length=l.length:=List.length_map _
 refine VCx.keepQ 0 0 (Nat.le_refl _) (Nat.le_refl _) (ak ac aa ag (Cm hl) (FE (l.map bk) _) (aA (fun h=> ?_) (fun h=>⟨rfl,⟨rfl,rfl,rfl,trivial,rfl,rfl,rfl⟩,fun s j=> ?_,fun s j c=> ?_⟩)))
 ·exact ⟨⟨false,fun h=>(by cases h),rfl⟩,rfl⟩
 ·exact ⟨⟨true,fun _=>by have:=of_decide_eq_false h;omega,rfl⟩,rfl⟩
 ·exact ⟨⟨false,fun h=>(by cases h),rfl⟩,rfl⟩
theorem zb:∀ro ys T K,vq ro ys T K→VCx Try.prog ae ro kK ys T K:=by
 intro ro ys T K hw
 unfold vq at hw
 split at hw
 ·obtain ⟨⟨l,rfl,hl⟩,hk⟩:=hw
  refine VCx.looseAny az (Y:=fun x=>∃b,tO (l.map bk) b∧x= .val (.bool b)) (Ez hl) (by simp [cW]) (by simp only [ar,TV.ren,fW,Tok.ren]) (fun y hy f g=> ?_) (fun y hy=> ?_)
  ·obtain ⟨b,_,rfl⟩:=hy;rfl
  ·obtain ⟨b,hb,rfl⟩:=hy
   exact hk b hb
 ·exact hw.elim
theorem Cn {W H:List aj} (s:S6) (hs:TbJ W H s) (o:List VO):VT.keep ⟨(iq s.lk s.lk2 s.es s.es2 s.ck s.ck2).objs++o, []⟩ 3 0=iq s.lk s.lk2 s.es s.es2 s.ck s.ck2:=by
 have e1:=hs.1.ren (am 3) (am 0)
 have e2:=hs.2.ren (am 3) (am 0)
 simp only [VT.keep,iq,List.cons_append,List.nil_append,List.take_succ_cons,List.take_zero,List.map_cons,List.map_nil,e1,e2]
 rfl
theorem pu {id:Nat} {keys:List Nat} (hb:fN id (aq Try.prog dd id)=true) (sl:Nat→List TV) (Wf Hf:Nat→List aj) (len:Nat)
    (h1:∀j s,j<len→TbJ (Wf j) (Hf j) s→VWx Try.prog ae none 0 (bR Try.prog dd id) (aL 141 keys (sl j)) (iq s.lk s.lk2 s.es s.es2 s.ck s.ck2) [] (cz keys fun e vs T D m=>D= []∧m=141∧e= .normal∧ar (am 3) (am 0) vs=sl (j+1)∧∃s',TbJ (Wf (j+1)) (Hf (j+1)) s' ∧T.keep 3 0=iq s'.lk s'.lk2 s'.es s'.es2 s'.ck s'.ck2))
    (h2:∀s,TbJ (Wf len) (Hf len) s→VWx Try.prog ae none 0 (bR Try.prog dd id) (aL 141 keys (sl len)) (iq s.lk s.lk2 s.es s.es2 s.ck s.ck2) [] (cz keys fun e vs T D m=>D= []∧m=141∧e= .exit id∧vs=sl len∧T=iq s.lk s.lk2 s.es s.es2 s.ck s.ck2)):
    ∀rd ro σ T D K,kL 141 keys (sl 0) (Wf 0) (Hf 0) (Wf len) (Hf len) (sl len) rd ro σ T D K→VWx Try.prog ae rd ro (aq Try.prog dd id) σ T D K:=by
  rintro rd ro σ T D K ⟨⟨rfl,rfl,rfl,⟨s,os,hT,hs,l1,l2⟩,h3,ht,hn,hv⟩,hk⟩
  obtain ⟨objs,tl⟩:=T
  simp only at hT h3 ht
  subst hT ht
  have ho:os= []:=by
    cases os with
    | nil=>rfl
    | cons o os=>simp at h3
  subst ho
  refine cJ (n:=141) (keys:=keys) (ad:= []) (vs0:=sl 0) (T0:=iq s.lk s.lk2 s.es s.es2 s.ck s.ck2) (R:=fun K=>∀s:S6,TbJ (Wf len) (Hf len) s→K .normal (aL 141 keys (sl len)) (iq s.lk s.lk2 s.es s.es2 s.ck s.ck2) []) (fun K hK=> ?_) none 0 σ _ [] K ⟨⟨rfl,rfl,rfl,trivial,rfl,hn,hv⟩,hk⟩
  refine eQ (f:=dd) (id:=id) hb 141 keys (fun p:Nat × S6=>len-p.1) (fun p=>sl p.1) (fun p=>iq p.2.lk p.2.lk2 p.2.es p.2.es2 p.2.ck p.2.ck2) (fun p=>p.1≤len∧TbJ (Wf p.1) (Hf p.1) p.2) 3 0 (fun _ _=>⟨Nat.le_refl _,Nat.le_refl _⟩)
    (fun e vs T=>e= .normal∧vs=sl len∧∃s,TbJ (Wf len) (Hf len) s∧T=iq s.lk s.lk2 s.es s.es2 s.ck s.ck2) (fun p hp=> ?_) (0,s) ⟨Nat.zero_le _,hs⟩ K ?_
  · obtain ⟨j,s⟩:=p
    obtain ⟨hj,hs⟩:=hp
    simp only at hj hs
    by_cases hlt:j<len
    · refine (h1 j s hlt hs).mono fun e σ T D hq=> ?_
      obtain ⟨a1,a2,rfl,a4,s',a5,a6⟩:=hq
      exact ⟨a1,a2,(j+1,s'),⟨hlt,a5⟩,by show len-(j+1)<len-j;omega, .inr ⟨a6,a4⟩⟩
    · obtain rfl:j=len:=by omega
      refine (h2 s hs).mono fun e σ T D hq=> ?_
      obtain ⟨a1,a2,rfl,a4,rfl⟩:=hq
      refine ⟨a1,a2, ?_⟩
      show cond (Nat.beq id id) _ _
      rw [Nat.beq_refl]
      exact ⟨rfl,a4,s,hs,rfl⟩
  · rintro e vs T ⟨rfl,rfl,s,hs,rfl⟩
    exact hK s hs
end
section
open Go.RowKit
set_option maxRecDepth 100000

def fK (W:List aj):Prop:=∀r∈W,fh r.1.1 r.1.2=true∧cD r.2=true
theorem qn {W:List aj} (h:fK W) {x:aj} (hx:fh x.1.1 x.1.2=true∧cD x.2=true):fK (bN W x):=fun r hr=>by
 rcases dJ.1 hr with rfl | ⟨hr,_⟩
 ·exact hx
 ·exact h r hr
theorem lJ {W:List aj} (h:fK W) (p:Px):fK (ax W p):=fun r hr=>h r (co.1 hr).1
theorem EA {W:List aj} (h:fK W) (t:dU):fK (iw W t.k t.p.1 t.p.2 t.a):=by
 unfold iw
 split
 ·unfold dz
  cases hg:ct (t.p.1,t.p.2) t.a with
  | false=>exact h
  | true=>
   unfold ct at hg
   rw [Bool.and_eq_true] at hg
   exact qn h hg
 ·split
  ·exact lJ h _
  ·exact h
theorem EB {H:List aj} (h:fK H) (p:Px) (a:AtV) (g:Bool):fK (cA H p a g):=by
 unfold cA
 cases hc:eU p a g with
 | false=>exact h
 | true=>
  cases g with
  | true=>exact lJ h _
  | false=>
   unfold eU at hc
   rw [Bool.and_eq_true] at hc
   exact qn h hc
theorem EC {H:List aj} (h:fK H) (t:dU):fK (jx H t.k t.p.1 t.p.2 t.a t.g):=by
 unfold jx
 split
 ·exact EB h _ _ _
 ·split
  ·exact fun r hr=>by cases hr
  ·exact h
def b7 (l:List dU):List aj:=l.foldl (fun W t=>iw W t.k t.p.1 t.p.2 t.a) []
def cC (l:List dU):List aj:=l.foldl (fun H t=>jx H t.k t.p.1 t.p.2 t.a t.g) []
theorem mU (l:List dU) (t:dU):b7 (l++ [t])=iw (b7 l) t.k t.p.1 t.p.2 t.a:=by unfold b7;rw [List.foldl_append];rfl
theorem mV (l:List dU) (t:dU):cC (l++ [t])=jx (cC l) t.k t.p.1 t.p.2 t.a t.g:=by unfold cC;rw [List.foldl_append];rfl
theorem jQ {α:Type} {P:List α→Prop} (h0:P []) (h1:∀l a,P l→P (l++ [a])) (l:List α):P l:=by
 have:∀n,∀l:List α,l.length=n→P l:=by
  intro n
  induction n with
  | zero=>intro l hl;rw [List.eq_nil_of_length_eq_zero hl];exact h0
  | succ n ih=>
   intro l hl
   have hne:l≠ []:=fun e=>by rw [e] at hl;cases hl
   rw [←List.dropLast_concat_getLast hne]
   exact h1 _ _ (ih _ (by rw [List.length_dropLast];omega))
 exact this _ l rfl
theorem Co (W:List aj) (t:dU):(iw W t.k t.p.1 t.p.2 t.a).length≤W.length+1:=by
 unfold iw
 split
 ·unfold dz
  cases ct (t.p.1,t.p.2) t.a
  ·exact Nat.le_succ _
  ·exact lz W _
 ·split
  ·exact Nat.le_succ_of_le (dS _ _)
  ·exact Nat.le_succ _
theorem Cp (H:List aj) (p:Px) (a:AtV) (g:Bool):(cA H p a g).length≤H.length+1:=by
 unfold cA
 cases eU p a g
 ·exact Nat.le_succ _
 ·cases g
  ·exact lz H _
  ·exact Nat.le_succ_of_le (dS _ _)
theorem Cq (H:List aj) (t:dU):(jx H t.k t.p.1 t.p.2 t.a t.g).length≤H.length+1:=by
 unfold jx
 split
 ·exact Cp _ _ _ _
 ·split
  ·exact Nat.zero_le _
  ·exact Nat.le_succ _
theorem tS (l:List dU):(fK (b7 l)∧fK (cC l))∧(b7 l).length≤l.length∧(cC l).length≤l.length:=by
 induction l using jQ with
 | h0=>exact ⟨⟨fun r h=>(by cases h),fun r h=>(by cases h)⟩,Nat.le_refl _,Nat.le_refl _⟩
 | h1 l t ih=>
  obtain ⟨⟨h1,h2⟩,h3,h4⟩:=ih
  rw [mU,mV]
  have k1:=Co (b7 l) t
  have k2:=Cq (cC l) t
  refine ⟨⟨EA h1 t,EC h2 t⟩, ?_, ?_⟩
  ·simp only [List.length_append,List.length_cons,List.length_nil];omega
  ·simp only [List.length_append,List.length_cons,List.length_nil];omega
def cN (H:List aj) (l:List Px):List aj:=l.foldl (fun U p=>cA U p cK true) H
def ey (H:List aj) (l:List aj):List aj:=l.foldl (fun U r=>cA U r.1 r.2 false) H
theorem pv (H:List aj) (l:List Px) (p:Px):cN H (l++ [p])=cA (cN H l) p cK true:=by unfold cN;rw [List.foldl_append];rfl
theorem pw (H:List aj) (l:List aj) (r:aj):ey H (l++ [r])=cA (ey H l) r.1 r.2 false:=by unfold ey;rw [List.foldl_append];rfl
theorem Cr {H:List aj} (h:b6 H) (p:Px) (a:AtV) (g:Bool):b6 (cA H p a g):=by
 unfold cA
 cases eU p a g
 ·exact h
 ·cases g
  ·exact jq h _
  ·exact eL h _
theorem tT {p:Px} (h:fh p.1 p.2=true):eU p cK true=true:=by
 unfold eU;rw [h];rfl
theorem vy {p:Px} {a:AtV} (h:fh p.1 p.2=true) (k:cD a=true):eU p a false=true:=by
 unfold eU;rw [h,cond_false,k];rfl
theorem lK {H:List aj} (h:b6 H) (l:List Px) (hl:∀p∈l,fh p.1 p.2=true):b6 (cN H l)∧(cN H l).length≤H.length∧(fK H→fK (cN H l))∧∀p,ay (cN H l) p=if p∈l then none else ay H p:=by
 induction l using jQ with
 | h0=>exact ⟨h,Nat.le_refl _,id,fun p=>by simp [cN]⟩
 | h1 l q ih=>
  obtain ⟨i1,i2,i3,i4⟩:=ih fun p hp=>hl p (List.mem_append_left _ hp)
  have hq:=hl q (List.mem_append_right _ List.mem_cons_self)
  rw [pv]
  have e:cA (cN H l) q cK true=ax (cN H l) q:=by unfold cA;rw [tT hq];rfl
  rw [e]
  refine ⟨eL i1 _,Nat.le_trans (dS _ _) i2,fun hg=>lJ (i3 hg) _,fun p=> ?_⟩
  rw [lV i1,i4]
  by_cases h1:q=p
  ·simp [h1]
  ·by_cases h2:p∈l
   ·simp [h2]
   ·rw [if_neg h1,if_neg h2,if_neg (by
     simp only [List.mem_append,List.mem_cons,List.not_mem_nil,or_false,not_or]
     exact ⟨h2,fun e=>h1 e.symm⟩)]
theorem tU {H:List aj} (h:b6 H) (l:List aj) (hs:b6 l) (hl:fK l):b6 (ey H l)∧(ey H l).length≤H.length+l.length∧(fK H→fK (ey H l))∧∀p,ay (ey H l) p=match ay l p with
  | some a=>some a
  | none=>ay H p:=by
 induction l using jQ with
 | h0=>exact ⟨h,Nat.le_refl _,id,fun p=>rfl⟩
 | h1 l r ih=>
  have hs1:b6 l:=(List.pairwise_append.1 hs).1
  obtain ⟨i1,i2,i3,i4⟩:=ih hs1 fun r hr=>hl r (List.mem_append_left _ hr)
  obtain ⟨g1,g2⟩:=hl r (List.mem_append_right _ List.mem_cons_self)
  rw [pw]
  have e:cA (ey H l) r.1 r.2 false=bN (ey H l) r:=by unfold cA;rw [vy g1 g2];rfl
  rw [e]
  have k:=lz (ey H l) r
  refine ⟨jq i1 _, ?_,fun hg=>qn (i3 hg) ⟨g1,g2⟩,fun p=> ?_⟩
  ·simp only [List.length_append,List.length_cons,List.length_nil];omega
  ·have:=pg i1 r.1 p r.2
   rw [show ((r.1,r.2):aj)=r from rfl] at this
   rw [this,i4]
   by_cases h1:r.1=p
   ·rw [if_pos h1]
    rw [di hs (p:=p) (a:=r.2) (List.mem_append_right _ (by rw [←h1];exact List.mem_cons_self))]
   ·rw [if_neg h1]
    cases hf:ay l p with
    | some a=>rw [di hs (List.mem_append_left _ (br hf))]
    | none=>rw [pq hf h1]
theorem fp {W H:List aj} {p:Px}:p∈aC W H ↔ ba H p=true∧ba W p=false:=by
 unfold aC
 rw [List.mem_filter]
 have e:p∈H.map (·.1) ↔ ba H p=true:=by
  unfold ba
  constructor
  ·intro h
   obtain ⟨r,hr,rfl⟩:=List.mem_map.1 h
   cases hf:ay H r.1 with
   | some a=>rfl
   | none=>exact absurd rfl (gA hf r hr)
  ·intro h
   cases hf:ay H p with
   | none=>rw [hf] at h;cases h
   | some a=>exact List.mem_map.2 ⟨_,br hf,rfl⟩
 rw [e]
 cases ba W p<;>simp
theorem gk {W H:List aj} {r:aj}:r∈aI W H ↔ r∈W∧ay H r.1≠some r.2:=by
 unfold aI
 rw [List.mem_filter]
 simp
theorem AP {W H:List aj} (hW:b6 W) (hH:b6 H) (gW:fK W) (gH:fK H):ey (cN H (aC W H)) (aI W (cN H (aC W H)))=W:=by
 obtain ⟨a1,a2,a3,a4⟩:=lK hH (aC W H) fun p hp=>by
  have h1:=(fp.1 hp).1
  unfold ba at h1
  cases hf:ay H p with
  | none=>rw [hf] at h1;cases h1
  | some a=>exact (gH _ (br hf)).1
 have hs:b6 (aI W (cN H (aC W H))):=List.Pairwise.filter _ hW
 have hg:fK (aI W (cN H (aC W H))):=fun r hr=>gW r (gk.1 hr).1
 obtain ⟨b1,b2,b3,b4⟩:=tU a1 _ hs hg
 refine vt b1 hW fun p=> ?_
 rw [b4]
 cases hf:ay (aI W (cN H (aC W H))) p with
 | some a=>exact (di hW (gk.1 (br hf)).1).symm
 | none=>
  simp only
  cases hw:ay W p with
  | some a=>
   refine Classical.byContradiction fun hn=> ?_
   exact gA hf (p,a) (gk.2 ⟨br hw,hn⟩) rfl
  | none=>
   rw [a4]
   split
   ·rfl
   ·rename_i hp
    cases hh:ay H p with
    | none=>rfl
    | some a=>exact absurd (fp.2 ⟨by rw [ba,hh];rfl,by rw [ba,hw];rfl⟩) hp
theorem zc {W:List aj} (hW:b6 W):aC W W= []∧aI W W= []:=by
 constructor
 ·refine List.eq_nil_iff_forall_not_mem.2 fun p hp=> ?_
  obtain ⟨h1,h2⟩:=fp.1 hp
  rw [h1] at h2;cases h2
 ·refine List.eq_nil_iff_forall_not_mem.2 fun r hr=> ?_
  obtain ⟨h1,h2⟩:=gk.1 hr
  exact h2 (di hW h1)
end
section
open Go.RowKit
set_option maxRecDepth 100000

theorem FG {l:List Px} {j:Nat} {p:Px} (x i:Nat) (hne:Nat.beq x i=false) (hp:l[j]?=some p):bb Try.prog ae (.indexAddr 42 (.tmp x) (.tmp i)) [(x, .vec 2 (l.map au) .none),(i, .val (.int .i64 (j:Int)))] (.elt (au p)):=by
 obtain ⟨inf,z,i1,i2,i3,i4,i5⟩:=pd
 exact eK (P:=Try.prog) (G:=ae) (inf:=inf) (t:=42) (x:= .tmp x) (i:= .tmp i) (l:= [(x, .vec 2 (l.map au) .none),(i, .val (.int .i64 (j:Int)))]) (es:=l.map au) (tok:= .none) (k:= .i64) (z:=(j:Int)) (cs:=au p) Try.underlying42 i1 (by rw [i2];simp [aS,cS]) (by simp [aS,cS,hne]) (by omega) (by simp [hp])
theorem FH {l:List aj} {j:Nat} {p:aj} (x i:Nat) (hne:Nat.beq x i=false) (hp:l[j]?=some p):bb Try.prog ae (.indexAddr 48 (.tmp x) (.tmp i)) [(x, .vec 8 (l.map cg) .none),(i, .val (.int .i64 (j:Int)))] (.elt (cg p)):=by
 obtain ⟨inf,z,i1,i2,i3,i4,i5⟩:=yE
 exact eK (P:=Try.prog) (G:=ae) (inf:=inf) (t:=48) (x:= .tmp x) (i:= .tmp i) (l:= [(x, .vec 8 (l.map cg) .none),(i, .val (.int .i64 (j:Int)))]) (es:=l.map cg) (tok:= .none) (k:= .i64) (z:=(j:Int)) (cs:=cg p) Try.underlying48 i1 (by rw [i2];simp [aS,cS]) (by simp [aS,cS,hne]) (by omega) (by simp [hp])
theorem lL {W H:List aj} (s:S6) (hs:TbJ W H s) (o:List VO):VT.keep ⟨.map kP s.lk s.es s.ck:: .map kP s.lk2 s.es2 s.ck2:: .cells [.map 0, .map 1]::o, []⟩ 3 0=iq s.lk s.lk2 s.es s.es2 s.ck s.ck2:=Cn s hs o
theorem ED (W H:List aj) (k a n:Int) (x:AtV) (g:Bool):aT Try.prog ae (aG [(vp,Bo W H k a n x g)]):=aV fun q hq=>by obtain rfl:=List.mem_singleton.1 hq;exact Ex _ _ _ _ _ _ _
theorem wU (W H:List aj) (y x:AtV) (b:Bool) (a n:Int) (g:Bool):aT Try.prog ae (aG [(q8,oq W H y b),(pf,yY W H a n x g)]):=aV fun q hq=>by
 rcases List.mem_cons.1 hq with rfl | hq;exact za _ _ _ _
 obtain rfl:=List.mem_singleton.1 hq;exact Ew _ _ _ _ _ _
theorem EE (W H:List aj) (y z:AtV) (b c ok:Bool):aT Try.prog ae (aG [(q8,oq W H y b),(yq,wS W H z c),(nH,uY ok)]):=aV fun q hq=>by
 rcases List.mem_cons.1 hq with rfl | hq;exact za _ _ _ _
 rcases List.mem_cons.1 hq with rfl | hq;exact Ep _ _ _ _
 obtain rfl:=List.mem_singleton.1 hq;exact yf _
section
variable {l:List dU}
theorem EF (hl:l.length≤120) (ha:∀t∈l,lD t):∀rd ro σ T D K,kL 141 qi (lE (l.map bk) 0) lZ lZ (b7 l) (cC l) (lE (l.map bk) (l.map bk).length) rd ro σ T D K→VWx Try.prog ae rd ro (aq Try.prog dd 0) σ T D K:=by
  intro rd ro σ T D K hk
  have hlen:(l.map bk).length=l.length:=List.length_map _
  refine pu (id:=0) (keys:=qi) (by kernel_rfl) (fun j=>lE (l.map bk) j) (fun j=>b7 (l.take j)) (fun j=>cC (l.take j)) l.length (fun j s hj hs=> ?_) (fun s hs=> ?_) rd ro σ T D K ?_
  · have hr:=List.getElem?_eq_getElem hj
    have hm:=List.getElem_mem hj
    generalize l[j]=t at hr hm
    have ht:l.take (j+1)=l.take j++ [t]:=by rw [List.take_add_one,hr];rfl
    obtain ⟨_,b1,b2⟩:=tS (l.take j)
    have b3:(l.take j).length≤120:=Nat.le_trans (List.length_take_le _ _) (by omega)
    refine bt ac aa (ED _ _ _ _ _ _ _) ah (y0 (l.map bk) (b7 (l.take j)) (cC (l.take j)) s.lk s.lk2 s.es s.es2 s.ck s.ck2 t.k t.p.1 t.p.2 t.a t.g j _) ?_
    refine bx (decide_eq_true (by rw [hlen];omega)) ⟨wT 27 29 rfl hr,⟨rfl,RbAt.of hs (by omega) (by omega) _ _,rfl,ha t hm⟩,fun s' b hs' =>⟨rfl,rfl,rfl, ?_,s', ?_,lL s' hs' _⟩⟩
    · rw [gv hj (by omega)]
      simp only [lE,ar,TV.ren,fW,Tok.ren];rfl
    · rw [ht,mU,mV];exact hs'
  · refine bt ac aa (ED _ _ _ _ _ _ _) ah (y0 (l.map bk) [] [] s.lk s.lk2 s.es s.es2 s.ck s.ck2 0 0 0 cK false l.length _) ?_
    exact be (decide_eq_false (by rw [hlen];omega)) ⟨rfl,rfl,rfl,rfl,rfl⟩
  · show kL 141 qi (lE (l.map bk) 0) (b7 []) (cC []) (b7 (l.take l.length)) (cC (l.take l.length)) (lE (l.map bk) (l.length:Nat)) rd ro σ T D K
    rw [List.take_length,←hlen]
    exact hk
variable {W H:List aj}
theorem EG (h1:b6 H) (l1:W.length<1000) (l2:H.length<1000) (gH:fK H):∀rd ro σ T D K,kL 141 qj (lF (l.map bk) ((aC W H).map au) 0) W H W (cN H (aC W H)) (lF (l.map bk) ((aC W H).map au) ((aC W H).map au).length) rd ro σ T D K→VWx Try.prog ae rd ro (aq Try.prog dd 2) σ T D K:=by
  intro rd ro σ T D K hk
  have hlen:((aC W H).map au).length=(aC W H).length:=List.length_map _
  have hgl:=mO W H
  have hgd:∀p∈aC W H,fh p.1 p.2=true:=fun p hp=>by
    have h1:=(fp.1 hp).1
    unfold ba at h1
    cases hf:ay H p with
    | none=>rw [hf] at h1;cases h1
    | some a=>exact (gH _ (br hf)).1
  refine pu (id:=2) (keys:=qj) (by kernel_rfl) (fun j=>lF (l.map bk) ((aC W H).map au) j) (fun _=>W) (fun j=>cN H ((aC W H).take j)) (aC W H).length (fun j s hj hs=> ?_) (fun s hs=> ?_) rd ro σ T D K ?_
  · have hr:=List.getElem?_eq_getElem hj
    have hm:=List.getElem_mem hj
    generalize (aC W H)[j]=p at hr hm
    have ht:(aC W H).take (j+1)=(aC W H).take j++ [p]:=by rw [List.take_add_one,hr];rfl
    obtain ⟨_,b1,_,_⟩:=lK h1 ((aC W H).take j) fun p hp=>hgd p (List.mem_of_mem_take hp)
    have hno:=(fp.1 hm).2
    refine bt ac aa (wU _ _ _ _ _ _ _ _) ah (y7 (l.map bk) ((aC W H).map au) W (cN H ((aC W H).take j)) s.lk s.lk2 s.es s.es2 s.ck s.ck2 p.1 p.2 (cf W p) cK (ba W p) j _) ?_
    refine bx (decide_eq_true (by rw [hlen];omega)) ⟨FG 40 42 rfl hr,⟨rfl,RbAt.of hs l1 (by omega) _ _,p,rfl,rfl,rfl⟩,be hno ⟨⟨rfl,RbAt.of hs l1 (by omega) _ _, .inr ⟨rfl,rfl⟩,Nat.zero_le _⟩,fun s' hs' =>be ?_ ⟨rfl,rfl,rfl, ?_,s', ?_,lL s' hs' _⟩⟩⟩
    · rw [nE,show mT p.1 p.2 cK true=0 by unfold mT gB;rw [tT (p:=(p.1,p.2)) (hgd p hm)];rfl];rfl
    · rw [gv hj (by omega)]
      simp only [lF,ar,TV.ren,Tok.ren,dR,fW];rfl
    · rw [ht,pv];exact hs'
  · refine bt ac aa (wU _ _ _ _ _ _ _ _) ah (y7 (l.map bk) ((aC W H).map au) [] [] s.lk s.lk2 s.es s.es2 s.ck s.ck2 0 0 cK cK false (aC W H).length _) ?_
    exact be (decide_eq_false (by rw [hlen];omega)) ⟨rfl,rfl,rfl,rfl,rfl⟩
  · show kL 141 qj (lF (l.map bk) ((aC W H).map au) 0) W H W (cN H ((aC W H).take (aC W H).length)) (lF (l.map bk) ((aC W H).map au) ((aC W H).length:Nat)) rd ro σ T D K
    rw [List.take_length,←hlen]
    exact hk
theorem AQ {W:List aj} {lk:bG} {es:bv} {ck:Nat} (h:TbOk W lk es ck) (p:Px):(cf W p).p.length≤2000000:=by
 unfold cf
 cases hf:ay W p with
 | none=>exact Nat.zero_le _
 | some a=>exact h.okp _ (br hf)
theorem EH {J:List aj} (hW:b6 W) (h1:b6 J) (l1:W.length<500) (l2:J.length<500) (gW:fK W) (hx:∀r∈W,fV r.2):∀rd ro σ T D K,kL 141 qk (lG (l.map bk) ((aI W J).map cg) 0) W J W (ey J (aI W J)) (lG (l.map bk) ((aI W J).map cg) ((aI W J).map cg).length) rd ro σ T D K→VWx Try.prog ae rd ro (aq Try.prog dd 4) σ T D K:=by
  intro rd ro σ T D K hk
  have hlen:((aI W J).map cg).length=(aI W J).length:=List.length_map _
  have hgl:=mP W J
  have hs0:b6 (aI W J):=List.Pairwise.filter _ hW
  refine pu (id:=4) (keys:=qk) (by kernel_rfl) (fun j=>lG (l.map bk) ((aI W J).map cg) j) (fun _=>W) (fun j=>ey J ((aI W J).take j)) (aI W J).length (fun j s hj hs=> ?_) (fun s hs=> ?_) rd ro σ T D K ?_
  · have hr:=List.getElem?_eq_getElem hj
    have hm:=List.getElem_mem hj
    generalize (aI W J)[j]=r at hr hm
    have ht:(aI W J).take (j+1)=(aI W J).take j++ [r]:=by rw [List.take_add_one,hr];rfl
    obtain ⟨_,b1,_,_⟩:=tU h1 ((aI W J).take j) (List.Pairwise.sublist (List.take_sublist _ _) hs0) fun r hr=>gW r (gk.1 (List.mem_of_mem_take hr)).1
    have b2:((aI W J).take j).length≤(aI W J).length:=List.length_take_le' _ _
    obtain ⟨hrW,_⟩:=gk.1 hm
    obtain ⟨g1,g2⟩:=gW r hrW
    have hyes:ba W r.1=true:=by unfold ba;rw [di hW (p:=r.1) (a:=r.2) hrW];rfl
    refine bt ac aa (wU _ _ _ _ _ _ _ _) ah (y8 (l.map bk) ((aI W J).map cg) W (ey J ((aI W J).take j)) s.lk s.lk2 s.es s.es2 s.ck s.ck2 r.1.1 r.1.2 (cf W r.1) r.2 (ba W r.1) j _) ?_
    refine bx (decide_eq_true (by rw [hlen];omega)) ⟨FH 62 64 rfl hr,⟨rfl,RbAt.of hs (by omega) (by omega) _ _,r.1,rfl,rfl,rfl⟩,be (by rw [hyes];rfl) ⟨⟨rfl,RbAt.of hs (by omega) (by omega) _ _, .inl rfl,hx r hrW⟩,fun s' hs' =>be ?_ ⟨rfl,rfl,rfl, ?_,s', ?_,lL s' hs' _⟩⟩⟩
    · rw [nE,show mT r.1.1 r.1.2 r.2 false=0 by unfold mT gB;rw [vy (p:=(r.1.1,r.1.2)) g1 g2];rfl];rfl
    · rw [gv hj (by omega)]
      simp only [lG,ar,TV.ren,Tok.ren,jr,fW];rfl
    · rw [ht,pw];exact hs'
  · refine bt ac aa (wU _ _ _ _ _ _ _ _) ah (y8 (l.map bk) ((aI W J).map cg) [] [] s.lk s.lk2 s.es s.es2 s.ck s.ck2 0 0 cK cK false (aI W J).length _) ?_
    exact be (decide_eq_false (by rw [hlen];omega)) ⟨rfl,rfl,rfl,rfl,rfl⟩
  · show kL 141 qk (lG (l.map bk) ((aI W J).map cg) 0) W J W (ey J ((aI W J).take (aI W J).length)) (lG (l.map bk) ((aI W J).map cg) ((aI W J).length:Nat)) rd ro σ T D K
    rw [List.take_length,←hlen]
    exact hk
theorem Gm (b:Bool):aw BinOp.neq (ai (.bool b) (.bool b))=false:=by cases b<;>rfl
theorem EI (hl:l.length≤120) (l1:W.length<1000) (m k:Int):∀rd ro σ T D K,kL 141 ql (lH (l.map bk) m k 0) W W W W (lH (l.map bk) m k (l.map bk).length) rd ro σ T D K→VWx Try.prog ae rd ro (aq Try.prog dd 6) σ T D K:=by
 intro rd ro σ T D K hk
 have hlen:(l.map bk).length=l.length:=List.length_map _
 refine pu (id:=6) (keys:=ql) (by kernel_rfl) (fun j=>lH (l.map bk) m k j) (fun _=>W) (fun _=>W) l.length (fun j s hj hs=> ?_) (fun s hs=> ?_) rd ro σ T D K ?_
 ·have hr:=List.getElem?_eq_getElem hj
  generalize l[j]=t at hr
  have hp:=AQ hs.1 t.p
  have hp' :(cf W t.p).p.length≤9223372036854775807:=by omega
  refine bt ac aa (EE _ _ _ _ _ _ _) ah (y9 (l.map bk) W W s.lk s.lk2 s.es s.es2 s.ck s.ck2 m k t.k t.p.1 t.p.2 t.a (cf W t.p) (cf W t.p) (ba W t.p) (ba W t.p) t.g true j _) ?_
  refine bx (decide_eq_true (by rw [hlen];omega)) ⟨wT 89 91 rfl hr,⟨rfl,RbAt.of hs l1 l1 _ _,t.p,rfl,rfl,rfl⟩,⟨rfl,RbAt.of hs l1 l1 _ _,t.p,rfl,rfl,rfl⟩,be (Gm _) ⟨⟨cf W t.p,cf W t.p,⟨rfl,rfl⟩,⟨hp',hp'⟩,(decide_eq_true rfl).symm⟩,be rfl ⟨rfl,rfl,rfl, ?_,s,hs,lL s hs _⟩⟩⟩
  rw [gv hj (by omega)]
  simp only [lH,ar,TV.ren,Tok.ren,fW];rfl
 ·refine bt ac aa (EE _ _ _ _ _ _ _) ah (y9 (l.map bk) [] [] s.lk s.lk2 s.es s.es2 s.ck s.ck2 m k 0 0 0 cK cK cK false false false true l.length _) ?_
  exact be (decide_eq_false (by rw [hlen];omega)) ⟨rfl,rfl,rfl,rfl,rfl⟩
 ·show kL 141 ql (lH (l.map bk) m k 0) W W W W (lH (l.map bk) m k (l.length:Nat)) rd ro σ T D K
  rw [←hlen]
  exact hk
end
end
section
open Go.RowKit
abbrev k6 (a b:Int):Bool:=ai (Value.int IntKind.i64 a) (Value.int IntKind.i64 b)
end
section
open Go.RowKit
set_option maxRecDepth 100000

theorem vz:VCx Try.prog ae 0 vn [] ⟨[], []⟩ ec:=xU ac aa (f:=vn) (X:=True) (by kernel_rfl) trivial
theorem Gn:aT Try.prog ae (aG [(kK,vq),(vn,nh),(nK,Bk),(nL,Bl),(yx,Bm),(yr,Bn)]):=aV fun q hq=>by
 rcases List.mem_cons.1 hq with rfl | hq;exact zb
 rcases List.mem_cons.1 hq with rfl | hq;exact sS az vz
 rcases List.mem_cons.1 hq with rfl | hq;exact Er
 rcases List.mem_cons.1 hq with rfl | hq;exact Es
 rcases List.mem_cons.1 hq with rfl | hq;exact Et
 obtain rfl:=List.mem_singleton.1 hq;exact Eu
section
variable {l:List dU}
theorem Cs (hl:l.length≤120) (ha:∀t∈l,lD t) (hW:b6 (b7 l)) (hH:b6 (cC l)) (hx:∀r∈b7 l,fV r.2):
    dl Try.prog ae (F4 (l.map bk) ((aC (b7 l) (cC l)).map au) ((aI (b7 l) (cN (cC l) (aC (b7 l) (cC l)))).map cg) (b7 l) (cC l) (cN (cC l) (aC (b7 l) (cC l))) (b7 l) (b7 l).length (b7 l).length (aq Try.prog dd 0) (aq Try.prog dd 2) (aq Try.prog dd 4) (aq Try.prog dd 6)):=by
  obtain ⟨⟨gW,gH⟩,b1,b2⟩:=tS l
  obtain ⟨s1,n1,_,_⟩:=lK hH (aC (b7 l) (cC l)) fun p hp=>by
    have h1:=(fp.1 hp).1
    unfold ba at h1
    cases hf:ay (cC l) p with
    | none=>rw [hf] at h1;cases h1
    | some a=>exact (gH _ (br hf)).1
  refine bP fun q hq=> ?_
  rcases List.mem_cons.1 hq with rfl | hq;exact EF hl ha
  rcases List.mem_cons.1 hq with rfl | hq;exact EG hH (by omega) (by omega) gH
  rcases List.mem_cons.1 hq with rfl | hq
  · have h:=EH (l:=l) hW s1 (by omega) (by omega) gW hx
    rw [AP hW hH gW gH] at h
    exact h
  obtain rfl:=List.mem_singleton.1 hq
  exact EI hl (by omega) _ _
def GF:bs:=fun _ _ _ _ _ _=>False
theorem EJ (L:Bs) (Q:TV→VT→Prop):an Try.prog ae (aG [(kK,vq),(vn,nh)]) (aH [(999998, .dead,none)]) 300 (cT [(0,GF,aq Try.prog dd 0)]) 0 dd [.vec 9 L .none] ⟨[], []⟩ Q=(AK L∧∀b:Bool,tO L b→cond (!b) (Q (.val (.bool true)) ⟨[], []⟩) ((aq Try.prog dd 0=aq Try.prog dd 0)∧False)):=by kernel_rfl
theorem FI:aT Try.prog ae (aG [(kK,vq),(vn,nh)]):=aV fun q hq=>by
 rcases List.mem_cons.1 hq with rfl | hq;exact zb
 obtain rfl:=List.mem_singleton.1 hq;exact sS az vz
theorem EK (T:VT):ec (.val (.bool true)) T:=by
 first | exact trivial | exact ⟨rfl,trivial⟩ | rfl | (unfold ec;simp)
theorem EL (ha:∀t∈l,lD t) (hll:l.length≤9223372036854775807) (hW:b6 (b7 l)) (hH:b6 (cC l)) (hx:∀r∈b7 l,fV r.2):VCx Try.prog ae 0 dd [.vec 9 (l.map bk) .none] ⟨[], []⟩ ec:=by
  by_cases hl:l.length≤120
  · obtain ⟨⟨gW,gH⟩,b1,b2⟩:=tS l
    obtain ⟨s1,n1,_,_⟩:=lK hH (aC (b7 l) (cC l)) fun p hp=>by
      have h1:=(fp.1 hp).1
      unfold ba at h1
      cases hf:ay (cC l) p with
      | none=>rw [hf] at h1;cases h1
      | some a=>exact (gH _ (br hf)).1
    refine ak ac aa Gn (Cs hl ha hW hH hx) (FF (l.map bk) ((aC (b7 l) (cC l)).map au) ((aI (b7 l) (cN (cC l) (aC (b7 l) (cC l)))).map cg) (b7 l) (cC l) (cN (cC l) (aC (b7 l) (cC l))) (b7 l) (b7 l).length (b7 l).length _) ?_
    have z0:RbAt lZ lZ ⟨[.map kP (fun _=>none) [] 0, .map kP (fun _=>none) [] 0, .cells [.map 0, .map 1]], []⟩:=RbAt.of (s:=⟨fun _=>none,fun _=>none, [], [],0,0⟩) ⟨TbOk.empty 0,TbOk.empty 0⟩ (by decide) (by decide) [] []
    refine ⟨⟨l,rfl,hll⟩,fun b _=>aA (fun _=>EK _) (fun _=>⟨rfl,⟨rfl,rfl,rfl,z0,rfl,rfl,rfl,rfl⟩,fun s hs=> ?_⟩)⟩
    have r1:=RbAt.of hs (by omega) (by omega) [] []
    refine ⟨⟨rfl,_,_,r1⟩,fun L1 g1=> ?_⟩
    obtain ⟨V1,J1,u1,rfl⟩:=g1
    obtain ⟨rfl,rfl⟩:=r1.uniq u1
    refine ⟨rfl,⟨rfl,rfl,rfl,r1,rfl,rfl,rfl,rfl⟩,fun s2 hs2=> ?_⟩
    have r2:=RbAt.of hs2 (by omega) (by omega) [] []
    refine ⟨⟨rfl,_,_,r2⟩,fun L2 g2=> ?_⟩
    obtain ⟨V2,J2,u2,rfl⟩:=g2
    obtain ⟨e1,e2⟩:=r2.uniq u2
    rw [←e1,←e2]
    refine ⟨rfl,⟨rfl,rfl,rfl,r2,rfl,rfl,rfl,rfl⟩,fun s3 hs3=> ?_⟩
    have r3:=RbAt.of hs3 (by omega) (by omega) [] []
    refine ⟨⟨rfl,_,_,r3⟩,fun n k g3=> ?_⟩
    obtain ⟨V3,J3,u3,rfl,rfl⟩:=g3
    obtain ⟨e1,e2⟩:=r3.uniq u3
    rw [←e1,←e2]
    refine ⟨rfl,⟨rfl,rfl,rfl,r3,rfl,rfl,rfl,rfl⟩,fun s4 hs4=> ?_⟩
    have r4:=RbAt.of hs4 (by omega) (by omega) [] []
    obtain ⟨z1,z2⟩:=zc hW
    refine ⟨⟨rfl,_,_,r4⟩,fun b4 g4=> ?_⟩
    obtain ⟨V4,J4,u4,rfl⟩:=g4
    obtain ⟨e1,e2⟩:=r4.uniq u4
    rw [←e1,←e2]
    refine bx (by unfold rH;rw [z1,z2];rfl) (bx (by rw [kB];exact decide_eq_true rfl) ⟨⟨rfl,_,_,r4⟩,fun L5 g5=> ?_⟩)
    obtain ⟨V5,J5,u5,rfl⟩:=g5
    obtain ⟨e1,e2⟩:=r4.uniq u5
    rw [←e1,←e2]
    refine ⟨⟨rfl,_,_,r4⟩,fun L6 g6=> ?_⟩
    obtain ⟨V6,J6,u6,rfl⟩:=g6
    obtain ⟨e1,e2⟩:=r4.uniq u6
    rw [←e1,←e2]
    refine bx ?_ (EK _)
    rw [kB,z1,z2];rfl
  · refine ak ac aa FI (bP fun q hq=>by obtain rfl:=List.mem_singleton.1 hq;exact fun _ _ _ _ _ _ h=>h.elim) (EJ (l.map bk) _) ⟨⟨l,rfl,hll⟩,fun b hb=>aA (fun _=>EK _) (fun h=> ?_)⟩
    have:=hb (by cases b;cases h;rfl)
    rw [List.length_map] at this
    exact absurd this hl
end
end
section
open Go.ChangeShapes Go.WideShapes Go.ChangeAt Go.RowKit Go.Joins Go.Deep

section
variable {H:Type} {enc:TypeId × Value→H} {P:Program} {w:World} {base:Nat} {spare:Nat→Bool} {held:Bool}
end
end
section
open Go.ChangeShapes Go.WideShapes Go.ChangeAt Go.RowKit Go.Joins Go.Deep

theorem ot {α:Type} {k:Nat}:∀(l:List (List α)),(∀x∈l,x.length=k)→∀(j:Nat) u,l.flatten[j]?=some u→∃i c x,c<k∧j=i*k+c∧l[i]?=some x∧x[c]?=some u
 | [],_,j,u,h=>by simp at h
 | a::r,hz,j,u,h=>by
  have ha:=hz a (by simp)
  rw [List.flatten_cons] at h
  rcases Nat.lt_or_ge j a.length with hj | hj
  ·rw [List.getElem?_append_left hj] at h
   exact ⟨0,j,a,by omega,by omega,rfl,h⟩
  ·rw [List.getElem?_append_right hj] at h
   obtain ⟨i,c,x,h1,h2,h3,h4⟩:=ot r (fun x hx=>hz x (by simp [hx])) _ u h
   refine ⟨i+1,c,x,h1, ?_,by simpa using h3,h4⟩
   rw [Nat.add_mul];omega
section
variable {P:Program} {H:Type} {enc:TypeId × Value→H} {w:World} {base:Nat} {spare:Nat→Bool} {held:Bool}
end
end
section
open Go.ChangeShapes Go.WideShapes Go.ChangeAt Go.RowKit Go.Joins Go.Deep

inductive SH where
 | int (k:IntKind)
 | bool
 | str
 | slice (es:List SH)
mutual
def SH.Fits:SH→TV→Prop
 | .int k,x=>∃z,x= .val (.int k z)∧(Lit.int k z).wf=true
 | .bool,x=>∃b,x= .val (.bool b)
 | .str,x=>∃s:ByteArray,x= .val (.string s)∧s.size≤maxLen
 | .slice es,x=>∃l:List (List TV),x= .vec es.length l .none∧l.length≤maxLen∧∀e∈l,dK es e
def dK:List SH→List TV→Prop
 | [], []=>True
 | s::ss,x::xs=>s.Fits x∧dK ss xs
 | _,_=>False
end
theorem rl:∀{ss:List SH} {xs:List TV},dK ss xs→xs.length=ss.length
 | [], [],_=>rfl
 | [],_::_,h=>by simp [dK] at h
 | _::_, [],h=>by simp [dK] at h
 | s::ss,x::xs,h=>by
  simp only [dK] at h
  simp [rl h.2]
theorem c7 {s:SH} {ss:List SH} {xs:List TV} (h:dK (s::ss) xs):∃x r,xs=x::r∧s.Fits x∧dK ss r:=by
 cases xs with
 | nil=>simp [dK] at h
 | cons x r=>simp only [dK] at h;exact ⟨x,r,rfl,h⟩
theorem rm {xs:List TV} (h:dK [] xs):xs= []:=by
 cases xs with
 | nil=>rfl
 | cons x r=>simp [dK] at h
theorem fX {k:IntKind} {x:TV} (h:SH.Fits (.int k) x):∃z,x= .val (.int k z)∧(Lit.int k z).wf=true:=by simpa [SH.Fits] using h
theorem rp {x:TV} (h:SH.Fits .bool x):∃b,x= .val (.bool b):=by simpa [SH.Fits] using h
theorem px {es:List SH} {x:TV} (h:SH.Fits (.slice es) x):∃l:List (List TV),x= .vec es.length l .none∧l.length≤maxLen∧∀e∈l,dK es e:=by simpa [SH.Fits] using h
def py (f:TypeId→Option SH):List TypeId→Option (List SH)
 | []=>some []
 | t::r=>match f t,py f r with
  | some s,some l=>some (s::l)
  | _,_=>none
theorem vA {f:TypeId→Option SH}:∀{ts:List TypeId} {ss:List SH},py f ts=some ss→ss.length=ts.length
 | [],ss,h=>by simp [py] at h;subst h;rfl
 | t::r,ss,h=>by
  simp only [py] at h
  split at h
  ·rename_i s l h1 h2
   injection h with h;subst h
   simp [vA h2]
  ·cases h
def tV (P:Program):Nat→TypeId→Option SH
 | 0,_=>none
 | n+1,t=>match P.underlying t with
  | some (.int k)=>some (.int k)
  | some .bool=>some .bool
  | some .string=>some .str
  | some (.slice e)=>match kA P n e with
   | some ts=>bif Nat.beq (P.cellsOf e) ts.length&&Nat.ble 1 ts.length then (py (tV P n) ts).map .slice else none
   | none=>none
  | _=>none
section
variable {P:Program} {H:Type} {enc:TypeId × Value→H} {w:World} {base:Nat} {held:Bool}
abbrev tW (enc:TypeId × Value→H) (P:Program) (w:World) (base:Nat) (held:Bool) (t:TypeId) (sh:SH):Prop:=∀u m y,DataW.trod enc P w base (fun _=>true) held m t [u]=some y→u.oneCell' =true∧∃x,VR (ln w) w x u∧sh.Fits x
theorem tX {f:TypeId→Option SH} (hf:∀t sh,f t=some sh→tW enc P w base held t sh):∀(ts:List TypeId) (ss:List SH) (cs:List Value),py f ts=some ss→cs.length=ts.length→
  (∀(j:Nat) t',ts[j]?=some t' →∃u m y,cs[j]?=some u∧DataW.trod enc P w base (fun _=>true) held m t' [u]=some y)→(∀u∈cs,u.oneCell' =true)∧∃xs,VRs (ln w) w xs cs∧dK ss xs
 | [],ss,cs,h,hl,_=>by
  simp [py] at h;subst h
  have:=List.eq_nil_of_length_eq_zero hl
  subst this
  exact ⟨by simp, [],VRs.nil _ _,trivial⟩
 | t::r,ss, [],h,hl,_=>by simp at hl
 | t::r,ss,c::cs,h,hl,hj=>by
  simp only [py] at h
  split at h
  ·rename_i s l h1 h2
   injection h with h;subst h
   obtain ⟨u,m,y,k1,k2⟩:=hj 0 t rfl
   simp at k1;subst k1
   obtain ⟨a1,x,a2,a3⟩:=hf t s h1 _ m y k2
   obtain ⟨b1,xs,b2,b3⟩:=tX hf r l cs h2 (by simpa using hl) fun j t' ht' =>by
    obtain ⟨u,m,y,k1,k2⟩:=hj (j+1) t' (by simpa using ht')
    exact ⟨u,m,y,by simpa using k1,k2⟩
   refine ⟨fun u hu=> ?_,x::xs,VRs.cons a2 b2,a3,b3⟩
   rcases List.mem_cons.1 hu with rfl | hu
   ·exact a1
   ·exact b1 u hu
  ·cases h
theorem pz {e:TypeId} {n:Nat} {ts:List TypeId} {f:TypeId→Option SH} {ss:List SH} (hf:∀t sh,f t=some sh→tW enc P w base held t sh) (hts:kA P n e=some ts) (hss:py f ts=some ss):
    ∀(rows:List (List Value)),(∀x∈rows,x.length=ts.length∧∃m y,DataW.trod enc P w base (fun _=>true) held m e x=some y)→
      (∀u∈rows.flatten,u.oneCell' =true)∧∃l:List (List TV),l.length=rows.length∧VRs (ln w) w l.flatten rows.flatten∧∀x∈l,dK ss x
  | [],_=>⟨by simp, [],rfl,VRs.nil _ _,by simp⟩
  | r::rows,h=>by
    obtain ⟨h1,m,y,h2⟩:=h r List.mem_cons_self
    obtain ⟨a1,xs,a2,a3⟩:=tX hf ts ss r hss h1 (qO n m e ts r y hts h1 h2)
    obtain ⟨b1,l,b2,b3,b4⟩:=pz hf hts hss rows fun x hx=>h x (List.mem_cons_of_mem _ hx)
    refine ⟨fun u hu=> ?_,xs::l,by simp [b2],by rw [List.flatten_cons,List.flatten_cons];exact a2.app b3,fun x hx=> ?_⟩
    · rw [List.flatten_cons] at hu
      rcases List.mem_append.1 hu with hu | hu
      · exact a1 u hu
      · exact b1 u hu
    · rcases List.mem_cons.1 hx with rfl | hx
      · exact a3
      · exact b4 x hx
theorem rq:∀(n:Nat) (t:TypeId) (sh:SH),tV P n t=some sh→tW enc P w base held t sh
  | 0,_,_,h=>by simp [tV] at h
  | n+1,t,sh,h=>by
    intro u m y hy
    simp only [tV] at h
    split at h
    · rename_i k hk
      injection h with h;subst h
      obtain ⟨z,rfl,wz⟩:=zQ hk hy
      exact ⟨rfl,_, .val _,z,rfl,wz⟩
    · rename_i hk
      injection h with h;subst h
      obtain ⟨b,e,_⟩:=DataW.trod_bool hk hy
      injection e with e;subst e
      exact ⟨rfl,_, .val _,b,rfl⟩
    · rename_i hk
      injection h with h;subst h
      obtain ⟨s,e,_,hs⟩:=DataW.trod_string hk hy
      injection e with e;subst e
      exact ⟨rfl,_, .val _,s,rfl,hs⟩
    · rename_i e ht
      split at h
      · rename_i ts hts
        cases hb:(Nat.beq (P.cellsOf e) ts.length&&Nat.ble 1 ts.length) with
        | false=>rw [hb] at h;cases h
        | true=>
          rw [hb] at h
          simp only [Bool.and_eq_true] at hb
          have hk:=Nat.eq_of_beq_eq_true hb.1
          have hpos:=Nat.le_of_ble_eq_true hb.2
          simp only [cond_true,Option.map_eq_some_iff] at h
          obtain ⟨ss,hss,rfl⟩:=h
          have hsl:=vA hss
          rcases open_slice ht hy with ⟨hcs,_⟩ | ⟨a,len,cap,m',n',D,Pl,hcs,hbb,hl,hm,hmm,hx,hall⟩
          · injection hcs with hcs;subst hcs
            exact ⟨rfl, .vec ss.length [] .none, .nil trivial, [],rfl,Nat.zero_le _,by simp⟩
          · injection hcs with hcs;subst hcs
            simp only [if_true] at hmm
            subst hmm
            rw [hk] at hall
            obtain ⟨b,o,sp⟩:=a
            rcases Nat.eq_zero_or_pos m' with hc0 | hc0
            · subst hc0
              have:len=0:=by omega
              subst this
              exact ⟨rfl, .vec ss.length [] .none, .odd _ trivial, [],rfl,Nat.zero_le _,by simp⟩
            · have hsp:sp=none:=by
                obtain ⟨cs',h1,_⟩:=hall 0 hc0
                obtain ⟨_,h3,h4⟩:=World.cells?_some h1
                have h5:=h4 0 hpos
                rw [List.getElem?_eq_getElem (by omega)] at h5
                cases sp with
                | none=>rfl
                | some s=>simp [World.cell?,Addr.add] at h5;split at h5<;>cases h5
              subst hsp
              obtain ⟨V,hV⟩:=choose_lt (α:=List Value) (p:=fun i cs' =>w.cells? base ((⟨b,o,none⟩:Addr).add (i*ts.length)) ts.length=some cs' ∧DataW.trod enc P w base (fun _=>true) held n' e cs' =some (D i,Pl i)) (fun i hi=>hall i hi)
              have each:∀i,i<len→(V i).length=ts.length∧(∀c,c<ts.length→w.cell? ⟨b,o+(i*ts.length+c),none⟩=(V i)[c]?)∧∃y,DataW.trod enc P w base (fun _=>true) held n' e (V i)=some y:=fun i hi=>by
                obtain ⟨h1,h2⟩:=hV i (by omega)
                obtain ⟨_,h3,h4⟩:=World.cells?_some h1
                refine ⟨h3,fun c hc=> ?_,_,h2⟩
                rw [←h4 c hc]
                congr 1
                simp [Addr.add_none,Nat.add_assoc]
              have at1:∀(i:Nat) x,((List.range len).map V)[i]?=some x→i<len∧x=V i:=fun i x hx=>by
                rw [List.getElem?_map] at hx
                rcases Nat.lt_or_ge i len with hi | hi
                · rw [List.getElem?_range hi] at hx
                  injection hx with hx
                  exact ⟨hi,hx.symm⟩
                · rw [List.getElem?_eq_none (by simpa using hi)] at hx;cases hx
              have hz:∀x∈(List.range len).map V,x.length=ts.length:=fun x hx=>by
                obtain ⟨i,hi,rfl⟩:=List.mem_map.1 hx
                exact (each i (List.mem_range.1 hi)).1
              obtain ⟨k1,l,k2,k3,k4⟩:=pz (fun t sh h=>rq n t sh h) hts hss ((List.range len).map V) fun x hx=>by
                obtain ⟨i,hi,rfl⟩:=List.mem_map.1 hx
                obtain ⟨e1,_,y,e3⟩:=each i (List.mem_range.1 hi)
                exact ⟨e1,n',y,e3⟩
              have hlen:l.length=len:=by rw [k2];simp
              refine ⟨rfl, .vec ss.length l .none, ?_,l,rfl,by omega,k4⟩
              refine .mk_vec hlen.symm hl hm (fun x hx=>rl (k4 x hx)) trivial k3 (fun j hj=> ?_) (fun j u hu=> ?_) k1
              · rw [←k3.1] at hj
                obtain ⟨i,c,x,h1,h2,h3,h4⟩:=ot _ hz j _ (List.getElem?_eq_getElem hj)
                obtain ⟨hi,rfl⟩:=at1 i x h3
                show (w.cell? ⟨b,o+j,none⟩).isSome=true
                rw [h2,(each i hi).2.1 c h1,h4];rfl
              · obtain ⟨i,c,x,h1,h2,h3,h4⟩:=ot _ hz j u hu
                obtain ⟨hi,rfl⟩:=at1 i x h3
                rw [h2,(each i hi).2.1 c h1,h4]
      · cases h
    · cases h
theorem wV {m:Nat} {t:TypeId} {sh:SH} {r:Reach} {b0:Nat} {v:Value} {d:DataW H} {p:List MemPlace} (hs:tV P m t=some sh)
  (hv:Value.okWide P w r b0 t v) (h:DataW.Trod enc P w base (fun _=>true) held t v d p):∃x,VR (ln w) w x v∧sh.Fits x:=by
 have hc:v.cells.toList= [v]:=by
  cases m with
  | zero=>simp [tV] at hs
  | succ m=>
   simp only [tV] at hs
   unfold Value.okWide at hv
   split at hs
   ·rename_i k hk
    rw [hk] at hv
    simp only [Cell.okWide,hk] at hv
    cases v<;>simp [Cell.ok,hk] at hv<;>rfl
   ·rename_i hk
    rw [hk] at hv
    simp only [Cell.okWide,hk] at hv
    cases v<;>simp [Cell.ok,hk] at hv<;>rfl
   ·rename_i hk
    rw [hk] at hv
    simp only [Cell.okWide,hk] at hv
    cases v<;>simp [Cell.ok,hk] at hv<;>rfl
   ·rename_i e hk
    obtain ⟨qq,n,c,rfl⟩:=okWide_slice hk (by unfold Value.okWide;exact hv)
    rfl
   ·cases hs
 obtain ⟨fuel,hf⟩:=h
 rw [hc] at hf
 exact (rq m t sh hs v fuel _ hf).2
end
end
section
open Go.RowKit Go.Deep Go.WideShapes Go.ChangeAt

theorem qo (l:List dU) (ha:∀t∈l,lD t):(b6 (b7 l)∧b6 (cC l))∧∀r∈b7 l,fV r.2:=by
 induction l using jQ with
 | h0=>exact ⟨⟨List.Pairwise.nil,List.Pairwise.nil⟩,fun r h=>by cases h⟩
 | h1 l t ih=>
  obtain ⟨⟨h1,h2⟩,h3⟩:=ih fun t ht=>ha t (List.mem_append_left _ ht)
  have hx:=(ha t (List.mem_append_right _ List.mem_cons_self)).2
  rw [mU,mV]
  refine ⟨⟨?_, ?_⟩, ?_⟩
  ·unfold iw
   split
   ·unfold dz
    cases ct (t.p.1,t.p.2) t.a
    ·exact h1
    ·exact jq h1 _
   ·split
    ·exact eL h1 _
    ·exact h1
  ·unfold jx
   split
   ·exact Cr h2 _ _ _
   ·split
    ·exact List.Pairwise.nil
    ·exact h2
  ·unfold iw
   split
   ·unfold dz
    cases ct (t.p.1,t.p.2) t.a
    ·exact h3
    ·intro r hr
     rcases dJ.1 hr with rfl | ⟨hr,_⟩
     ·exact hx
     ·exact h3 r hr
   ·split
    ·exact fun r hr=>h3 r (co.1 hr).1
    ·exact h3
theorem wW {α:Type} (f:α→List TV) (Q:α→Prop):∀(l:List (List TV)),(∀e∈l,∃a,e=f a∧Q a)→∃al:List α,l=al.map f∧∀a∈al,Q a
 | [],_=>⟨[],rfl,fun _ h=>by cases h⟩
 | e::l,h=>by
  obtain ⟨a,rfl,ha⟩:=h _ List.mem_cons_self
  obtain ⟨al,rfl,hs⟩:=wW f Q l fun e he=>h e (List.mem_cons_of_mem _ he)
  exact ⟨a::al,rfl,fun b hb=>by
   rcases List.mem_cons.1 hb with rfl | hb
   ·exact ha
   ·exact hs b hb⟩
theorem FJ {z:Int} (h:(Lit.int .u32 z).wf=true):0≤z∧z<4294967296:=by
 simp [Lit.wf] at h
 have e0:IntKind.u32.min=0:=by decide
 have e1:IntKind.u32.max=4294967295:=by decide
 omega
theorem FL {z:Int} (h:(Lit.int .i64 z).wf=true):-9223372036854775808≤z∧z≤9223372036854775807:=by
 simp [Lit.wf] at h
 have e0:IntKind.i64.min=-9223372036854775808:=by decide
 have e1:IntKind.i64.max=9223372036854775807:=by decide
 omega
theorem Ct {l:List (List TV)} (h:∀e∈l,dK [.int .i64] e):∃ps,l=iV ps:=by
 obtain ⟨ps,h1,_⟩:=wW iT (fun _=>True) l fun e he=>by
  obtain ⟨x,r,rfl,h1,h2⟩:=c7 (h e he)
  obtain rfl:=rm h2
  obtain ⟨a,rfl,_⟩:=fX h1
  exact ⟨a,rfl,trivial⟩
 exact ⟨ps,h1⟩
def EM:List SH:= [.int .i64, .int .u32, .int .i64, .int .i64, .slice [.int .i64], .int .u32, .int .i64, .bool, .bool]
theorem Cu {xs:List TV} (h:dK EM xs):∃t:dU,xs=bk t∧lD t:=by
 obtain ⟨x0,r0,rfl,h0,g0⟩:=c7 h
 obtain ⟨x1,r1,rfl,h1,g1⟩:=c7 g0
 obtain ⟨x2,r2,rfl,h2,g2⟩:=c7 g1
 obtain ⟨x3,r3,rfl,h3,g3⟩:=c7 g2
 obtain ⟨x4,r4,rfl,h4,g4⟩:=c7 g3
 obtain ⟨x5,r5,rfl,h5,g5⟩:=c7 g4
 obtain ⟨x6,r6,rfl,h6,g6⟩:=c7 g5
 obtain ⟨x7,r7,rfl,h7,g7⟩:=c7 g6
 obtain ⟨x8,r8,rfl,h8,g8⟩:=c7 g7
 obtain rfl:=rm g8
 obtain ⟨k,rfl,_⟩:=fX h0
 obtain ⟨a,rfl,wa⟩:=fX h1
 obtain ⟨n,rfl,wn⟩:=fX h2
 obtain ⟨o,rfl,_⟩:=fX h3
 obtain ⟨p,rfl,lp,hp⟩:=px h4
 obtain ⟨j,rfl,_⟩:=fX h5
 obtain ⟨m,rfl,_⟩:=fX h6
 obtain ⟨hm,rfl⟩:=rp h7
 obtain ⟨g,rfl⟩:=rp h8
 obtain ⟨p,rfl⟩:=Ct hp
 refine ⟨⟨k,(a,n),⟨o,p,j,m,hm⟩,g⟩,rfl,⟨FJ wa,FL wn⟩, ?_⟩
 have e:(iV p).length=p.length:=List.length_map _
 rw [e] at lp
 exact Nat.le_trans lp (by unfold maxLen;decide)
theorem uq {H:Type} {enc:TypeId × Value→H} {w:World} {b0 base:Nat} {held:Bool} {v:Value} {d:DataW H} {p:List MemPlace}
  (hv:Value.okWide Try.prog w .any b0 22 v) (h:DataW.Trod enc Try.prog w base (fun _=>true) held 22 v d p):∃l:List dU,VR (ln w) w (.vec 9 (l.map bk) .none) v∧(∀t∈l,lD t)∧l.length≤9223372036854775807:=by
 obtain ⟨x,h1,h2⟩:=wV (m:=9) (sh:= .slice EM) (by kernel_rfl) hv h
 obtain ⟨l,rfl,hl,hf⟩:=px h2
 obtain ⟨l,rfl,ha⟩:=wW bk lD l fun e he=>Cu (hf e he)
 rw [List.length_map] at hl
 exact ⟨l,h1,ha,Nat.le_trans hl (by unfold maxLen;decide)⟩
theorem zd (l:List dU) (ha:∀t∈l,lD t) (hl:l.length≤9223372036854775807) (v:Value) (w:World) (hv:VR (ln w) w (.vec 9 (l.map bk) .none) v):Calls Try.prog 3 #[v] w fun e w' =>e= .returned (.bool true)∧Gr w w' :=
 VCx.top (us:= [v]) (EL ha hl (qo l ha).1.1 (qo l ha).1.2 (qo l ha).2) w (VRs.cons hv (VRs.nil _ _))
end
section
open Go.ChangeShapes Go.WideShapes Go.ChangeAt Go.RowKit Go.Joins

theorem Cv:ownKnob Try.prog.godebug=none:=by kernel_rfl
theorem AR:laidOutB Try.prog=true:=by kernel_rfl

end
section
open Go.ChangeShapes Go.WideShapes Go.ChangeAt Go.RowKit

theorem qp (os:Os) (started:os.Started) (H:Type) (enc:TypeId × Value→H):
    ReturnsInHanded {} Try.checked os 3 .any (Rows.ribEvenSpec.pre6 enc Try.prog Try.f3 Rows.ribEvenRow.domain false) (Rows.ribEvenSpec.post enc Try.prog Try.f3 false true false false):=by
  refine returnsInHanded_of_change (C:=Try.checked) Cv started (by kernel_rfl) Try.func3
    (ChangeSpec.witness6 (enc:=enc) (C:=Try.checked) false ⟨#[], #[.slice none 0 0], []⟩ 8 (by kernel_rfl) (by kernel_rfl) (by kernel_rfl) (by kernel_rfl)) ?_
  intro W base args ds gs before hval0 hW hcnd _
  have hval:∀(j:Nat) t v,Try.f3.params[j]?=some t→args[j]?=some v→Value.okWide Try.prog W .any base t v:=hval0
  have hW' :=hW
  obtain ⟨p,q,hA0,hV,rfl,hfz,hnd⟩:=hW
  have hA:DataW.TrodAll enc Try.prog W 0 (fun _=>true) true Try.f3.params.toList args.toList ds p:=hA0
  rw [Try.params3] at hA hval
  obtain ⟨v0,vs0,d0,ds0,p0,q0,hargs,rfl,rfl,h0,r0⟩:=trodAll_cons hA
  obtain ⟨rfl,rfl,rfl⟩:=trodAll_nil r0
  obtain rfl:args= #[v0]:=by cases args;simp_all
  obtain ⟨rfl,rfl⟩:=trodVars_none hV
  have lt0:∀x∈p0,x.block<W.heap.size:=by obtain ⟨m,hm⟩:=h0;exact DataW.trod_lt m _ _ _ hm
  obtain ⟨l0,l0vr,l0a,l0b⟩:=uq (hval 0 22 v0 rfl rfl) h0
  clear hA0 hval0
  refine (zd l0 l0a l0b _ W l0vr).mono fun e W' ⟨he,bel⟩=> ?_
  subst he
  exact ⟨_,rfl,_,_,_, [],_, [],hW',trodAll_mk1 (shut_bool Try.underlying4 _),(trodAll_cons_mk (Below.trod AR (by kernel_rfl) (of_decide_eq_true (by kernel_rfl)) h0 bel lt0) trodAll_mk0),rfl,Below.frame bel _,fun h=>by cases h⟩

theorem ribEven_holds:Rows.RibEvenSaid:=
  OpenClaim.holds_of_wide 3 Try.f3 rfl rfl rfl rfl rfl rfl rfl ⟨rfl,rfl,rfl,rfl,rfl⟩ rfl rfl rfl rfl rfl (by kernel_rfl) Try.func3 (by kernel_rfl)
    (of_decide_eq_true (by kernel_rfl)) (by unfold Func.isWrapper;first | (rw [if_pos (by decide+kernel)];kernel_rfl) | (rw [if_neg (by decide+kernel)];exact ⟨rfl,rfl⟩))
    (fun os started H enc _=>qp os started H enc)
#print axioms ribEven_holds
end

end Go.Proofs.Ytnfplefcghadfaa