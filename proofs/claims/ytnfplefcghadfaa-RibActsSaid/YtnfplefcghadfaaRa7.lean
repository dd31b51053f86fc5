/-Part 7 of the proof of ribActs_holds:RcE,RcF,Slices ... No condition. -/
import Derived.Deep.Slices
import Derived.LaidHandle
import Derived.ProofKit
import Derived.OpenShut
import Derived.Lib.SmallJoins
import Derived.Test.YtnfplefcghadfaaRa1
import Derived.Test.YtnfplefcghadfaaRa2
import Derived.Test.YtnfplefcghadfaaRa3
import Derived.Test.YtnfplefcghadfaaRa4
import Derived.Test.YtnfplefcghadfaaRa5
import Derived.Test.YtnfplefcghadfaaRa6
set_option maxRecDepth 100000
namespace Go.Proofs.Ytnfplefcghadfaa
section
open Go.RowKit

def pI (W H:List ak) (T:VT):Prop:=∃(s:S6) (os:List VO),T.objs= .map kP s.lk s.es s.ck:: .map kP s.lk2 s.es2 s.ck2:: .cells [.map 0, .map 1]:: .cells [.vec 7 (ai W) .none, .vec 7 (ai H) .none]::os∧TbJ W H s∧W.length<1000∧H.length<1000
def ug (W H:List ak) (T:VT):Prop:=∃(s:S6) (o0 o1 o2 o3:VO) (os:List VO),T.objs=o0::o1::o2::o3:: .map kP s.lk s.es s.ck:: .map kP s.lk2 s.es2 s.ck2:: .cells [.map 4, .map 5]:: .cells [.vec 7 (ai W) .none, .vec 7 (ai H) .none]::os∧TbJ W H s∧W.length<1000∧H.length<1000
def FQ (T:VT):Prop:=T=⟨[.map kP (fun _=>none) [] 0, .map kP (fun _=>none) [] 0, .cells [.map 0, .map 1], .cells [gz,gz]], []⟩
def FR (w h:Bs):Prop:=∃W H:List ak,w=ai W∧h=ai H∧W.length≤2000000∧H.length≤2000000
def qz (q:List TV):Prop:=∃p:Px,q=aw p
def xd (W H:List ak) (k a n:Int) (x:AtV) (g:Bool):aJ:=fun ro ys T K=>match ys with
 | [.ptr 2 0, .ptr 3 0, .agg l]=>match T.objs with
  | .map sh lk es ck:: .map sh2 lk2 es2 ck2:: .cells [.map 0, .map 1]:: .cells [.vec 7 w _, .vec 7 h _]::os=>((@Eq Nat ro 0)∧pI W H T∧w8 l k a n x g)∧∀s:S6,TbJ (ek W k a n x) (en H k a n x g) s→K (.val (.bool true)) ⟨.map kP s.lk s.es s.ck:: .map kP s.lk2 s.es2 s.ck2:: .cells [.map 0, .map 1]:: .cells [.vec 7 (ai (ek W k a n x)) .none, .vec 7 (ai (en H k a n x g)) .none]::os,T.tails⟩
  | _=>ar 92 default ys
 | _=>ar 93 default ys
def xe (W H:List ak) (k a n:Int) (x:AtV) (g:Bool):aJ:=fun ro ys T K=>match ys with
 | [.ptr 6 0, .ptr 7 0, .agg l]=>match T.objs with
  | o0::o1::o2::o3:: .map sh lk es ck:: .map sh2 lk2 es2 ck2:: .cells [.map 4, .map 5]:: .cells [.vec 7 w _, .vec 7 h _]::os=>((@Eq Nat ro 0)∧ug W H T∧w8 l k a n x g)∧∀s:S6,TbJ (ek W k a n x) (en H k a n x g) s→K (.val (.bool true)) ⟨o0::o1::o2::o3:: .map kP s.lk s.es s.ck:: .map kP s.lk2 s.es2 s.ck2:: .cells [.map 4, .map 5]:: .cells [.vec 7 (ai (ek W k a n x)) .none, .vec 7 (ai (en H k a n x g)) .none]::os,T.tails⟩
  | _=>ar 92 default ys
 | _=>ar 93 default ys
def xf (W H:List ak):aJ:=fun ro ys T K=>match ys with
 | [.ptr 2 0, .ptr 3 0, .agg q]=>((@Eq Nat ro 0)∧pI W H T∧qz q)∧K (.val (.bool true)) T
 | _=>ar 93 default ys
def xg (W H V J:List ak):aJ:=fun ro ys T K=>match ys with
 | [.ptr 2 0, .ptr 3 0, .agg q]=>((@Eq Nat ro 0)∧pI W H T∧qz q)∧K (.val (.bool true)) T
 | [.ptr 6 0, .ptr 7 0, .agg q]=>((@Eq Nat ro 0)∧ug V J T∧qz q)∧K (.val (.bool true)) T
 | _=>ar 93 default ys
def B2:aJ:=fun ro ys T K=>match ys with
 | [.ptr 3 0]=>match T.objs with
  | [o0,o1,o2, .cells [.vec 7 w _, .vec 7 h _],o4,o5,o6]=>((@Eq Nat ro 0)∧FR w h)∧K (.ptr 7 0) ⟨[o0,o1,o2, .cells [.vec 7 w .none, .vec 7 h .none],o4,o5,o6, .cells [.vec 7 w .none, .vec 7 h .none]],T.tails⟩
  | _=>ar 92 default ys
 | _=>ar 93 default ys
def kf (lk lk2 lk3 lk4:bQ) (es es2 es3 es4:bF) (ck ck2 ck3 ck4:Nat) (w h v j:Bs):VT:=⟨[.map kP lk es ck, .map kP lk2 es2 ck2, .cells [.map 0, .map 1], .cells [.vec 7 w .none, .vec 7 h .none], .map kP lk3 es3 ck3, .map kP lk4 es4 ck4, .cells [.map 4, .map 5], .cells [.vec 7 v .none, .vec 7 j .none]], []⟩
def Hp (n:Nat) (keys:List Nat) (vs0:List TV) (W' H' :List ak) (vs1:List TV):bu:=fun rd ro σ T D K=>((@Eq (Option Nat) rd none)∧(@Eq Nat ro 0)∧(@Eq (List Nat) D [])∧FQ T∧(@Eq Bool (Nat.beq σ.length n) true)∧(@Eq (List TV) (pick keys σ) vs0))∧∀s:S6,TbJ W' H' s→K .normal (aG n keys vs1) (fK s.lk s.lk2 s.es s.es2 s.ck s.ck2 (ai W') (ai H')) []
def Ba (n:Nat) (keys:List Nat) (vs0:List TV) (W H W' H' :List ak) (vs1:List TV):bu:=fun rd ro σ T D K=>match T.objs with
 | [.map sh lk es ck, .map sh2 lk2 es2 ck2, .cells [.map 0, .map 1], .cells [.vec 7 w _, .vec 7 h _],o4,o5,o6,o7]=>((@Eq (Option Nat) rd none)∧(@Eq Nat ro 0)∧(@Eq (List Nat) D [])∧pI W H T∧ug W H T∧(@Eq bA T.tails [])∧(@Eq Bool (Nat.beq σ.length n) true)∧(@Eq (List TV) (pick keys σ) vs0))∧∀s:S6,TbJ W H s→∀t:S6,TbJ W' H' t→K .normal (aG n keys vs1) (kf s.lk s.lk2 t.lk t.lk2 s.es s.es2 t.es t.es2 s.ck s.ck2 t.ck t.ck2 (ai W) (ai H) (ai W') (ai H')) []
 | _=>False
def oB:List Nat:= [1,5,6,25,26,27]
def jC (M L:Bs) (j:Int):List TV:= [.vec 9 M .none, .ptr 2 0, .ptr 3 0, .vec 9 L .none, .val (.int .i64 L.length), .val (.int .i64 j)]
def mZ:List Nat:= [5,6,9,10,50,51,52]
def iv (L:Bs) (j:Int):List TV:= [.ptr 2 0, .ptr 3 0, .ptr 6 0, .ptr 7 0, .vec 9 L .none, .val (.int .i64 L.length), .val (.int .i64 j)]
def FS (L M:Bs) (W H V J:List ak) (c0 c2:Code):Nat→Option (bu × Code):=cw [(0,Hp 75 oB (jC M L 0) W H (jC M L L.length),c0),(2,Ba 75 mZ (iv M 0) W H V J (iv M M.length),c2)]
def HF (c0:Code):Nat→Option (bu × Code):=cw [(0,H1,c0)]
theorem G5 (L M:Bs) (W H V J:List ak) (Q:TV→VT→Prop):aq Try.prog ac (aD [(kU,vC),(vB,nl),(vv,B2),(nR,xg W H V J)]) (aB [(999998, .dead,none)]) 300 (FS L M W H V J (au Try.prog fJ 0) (au Try.prog fJ 2)) 0 fJ [.vec 9 L .none, .vec 9 M .none] ⟨[], []⟩ Q=
 (tY (L)∧
 (∀b:Bool,(oz (L) (b)→(bif !b
 then Q (.val (.bool true)) ⟨[], []⟩
 else (tY (M)∧
 (∀b_9:Bool,(oz (M) (b_9)→(bif !b_9
 then Q (.val (.bool true)) ⟨[], []⟩
 else ((au Try.prog fJ (0:Nat)=au Try.prog fJ (0:Nat))∧
 (((@Eq (Option Nat) .none .none)∧
 ((@Eq (Nat) 0 0)∧
 ((@Eq (List Nat) [] [])∧
 (FQ ⟨[(.map ⟨true, [(.int .u32),(.int .i64)]⟩ (fun _=> .none) [] 0),(.map ⟨true, [(.int .u32),(.int .i64)]⟩ (fun _=> .none) [] 0),(.cells [(.map 0),(.map 1)]),(.cells [(.val (.slice .none 0 0)),(.val (.slice .none 0 0))])], []⟩∧
 ((@Eq (Bool) true true)∧
 (@Eq (List TV) [(.vec 9 (M) .none),(.ptr 2 0),(.ptr 3 0),(.vec 9 (L) .none),(.val (.int .i64 ((↑(List.length L):Int)))),(.val (.int .i64 0))] [(.vec 9 (M) .none),(.ptr 2 0),(.ptr 3 0),(.vec 9 (L) .none),(.val (.int .i64 ((↑(List.length L):Int)))),(.val (.int .i64 0))]))))))∧
 (∀s:S6,(TbJ (W) (H) (s)→(((@Eq (Nat) 0 0)∧
 FR (ai W) (ai H))∧
 ((au Try.prog fJ (2:Nat)=au Try.prog fJ (2:Nat))∧
 (((@Eq (Option Nat) .none .none)∧
 ((@Eq (Nat) 0 0)∧
 ((@Eq (List Nat) [] [])∧
 (pI (W) (H) ⟨[(.map ⟨true, [(.int .u32),(.int .i64)]⟩ (s.1) (S6.es s) (S6.ck s)),(.map ⟨true, [(.int .u32),(.int .i64)]⟩ (s.2) (S6.es2 s) (S6.ck2 s)),(.cells [(.map 0),(.map 1)]),(.cells [(.vec 7 (ai W) .none),(.vec 7 (ai H) .none)]),(.map ⟨true, [(.int .u32),(.int .i64)]⟩ (s.1) (S6.es s) (S6.ck s)),(.map ⟨true, [(.int .u32),(.int .i64)]⟩ (s.2) (S6.es2 s) (S6.ck2 s)),(.cells [(.map 4),(.map 5)]),(.cells [(.vec 7 (ai W) .none),(.vec 7 (ai H) .none)])], []⟩∧
 (ug (W) (H) ⟨[(.map ⟨true, [(.int .u32),(.int .i64)]⟩ (s.1) (S6.es s) (S6.ck s)),(.map ⟨true, [(.int .u32),(.int .i64)]⟩ (s.2) (S6.es2 s) (S6.ck2 s)),(.cells [(.map 0),(.map 1)]),(.cells [(.vec 7 (ai W) .none),(.vec 7 (ai H) .none)]),(.map ⟨true, [(.int .u32),(.int .i64)]⟩ (s.1) (S6.es s) (S6.ck s)),(.map ⟨true, [(.int .u32),(.int .i64)]⟩ (s.2) (S6.es2 s) (S6.ck2 s)),(.cells [(.map 4),(.map 5)]),(.cells [(.vec 7 (ai W) .none),(.vec 7 (ai H) .none)])], []⟩∧
 ((@Eq (bA) [] [])∧
 ((@Eq (Bool) true true)∧
 (@Eq (List TV) [(.ptr 2 0),(.ptr 3 0),(.ptr 6 0),(.ptr 7 0),(.vec 9 (M) .none),(.val (.int .i64 ((↑(List.length M):Int)))),(.val (.int .i64 0))] [(.ptr 2 0),(.ptr 3 0),(.ptr 6 0),(.ptr 7 0),(.vec 9 (M) .none),(.val (.int .i64 ((↑(List.length M):Int)))),(.val (.int .i64 0))]))))))))∧
 (∀s_13:S6,(TbJ (W) (H) (s_13)→(∀t:S6,(TbJ (V) (J) (t)→(((@Eq (Nat) 0 0)∧
 (pI (W) (H) ⟨[(.map ⟨true, [(.int .u32),(.int .i64)]⟩ (s_13.1) (S6.es s_13) (S6.ck s_13)),(.map ⟨true, [(.int .u32),(.int .i64)]⟩ (s_13.2) (S6.es2 s_13) (S6.ck2 s_13)),(.cells [(.map 0),(.map 1)]),(.cells [(.vec 7 (ai W) .none),(.vec 7 (ai H) .none)]),(.map ⟨true, [(.int .u32),(.int .i64)]⟩ (t.1) (S6.es t) (S6.ck t)),(.map ⟨true, [(.int .u32),(.int .i64)]⟩ (t.2) (S6.es2 t) (S6.ck2 t)),(.cells [(.map 4),(.map 5)]),(.cells [(.vec 7 (ai V) .none),(.vec 7 (ai J) .none)])], []⟩∧
 qz [(.val (.int .u32 0)),(.val (.int .i64 0))]))∧
 (((@Eq (Nat) 0 0)∧
 (ug (V) (J) ⟨[(.map ⟨true, [(.int .u32),(.int .i64)]⟩ (s_13.1) (S6.es s_13) (S6.ck s_13)),(.map ⟨true, [(.int .u32),(.int .i64)]⟩ (s_13.2) (S6.es2 s_13) (S6.ck2 s_13)),(.cells [(.map 0),(.map 1)]),(.cells [(.vec 7 (ai W) .none),(.vec 7 (ai H) .none)]),(.map ⟨true, [(.int .u32),(.int .i64)]⟩ (t.1) (S6.es t) (S6.ck t)),(.map ⟨true, [(.int .u32),(.int .i64)]⟩ (t.2) (S6.es2 t) (S6.ck2 t)),(.cells [(.map 4),(.map 5)]),(.cells [(.vec 7 (ai V) .none),(.vec 7 (ai J) .none)])], []⟩∧
 qz [(.val (.int .u32 0)),(.val (.int .i64 0))]))∧
 Q (.val (.bool true)) ⟨[(.map ⟨true, [(.int .u32),(.int .i64)]⟩ (s_13.1) (S6.es s_13) (S6.ck s_13)),(.map ⟨true, [(.int .u32),(.int .i64)]⟩ (s_13.2) (S6.es2 s_13) (S6.ck2 s_13)),(.cells [(.map 0),(.map 1)]),(.cells [(.vec 7 (ai W) .none),(.vec 7 (ai H) .none)]),(.map ⟨true, [(.int .u32),(.int .i64)]⟩ (t.1) (S6.es t) (S6.ck t)),(.map ⟨true, [(.int .u32),(.int .i64)]⟩ (t.2) (S6.es2 t) (S6.ck2 t)),(.cells [(.map 4),(.map 5)]),(.cells [(.vec 7 (ai V) .none),(.vec 7 (ai J) .none)])], []⟩))))))))))))))))))))):=by kernel_rfl
theorem zC (M L:Bs) (W H W' H' :List ak) (lk lk2:bQ) (es es2:bF) (ck ck2:Nat) (k a n:Int) (x:AtV) (g:Bool) (j:Nat) (Q:Exit→List TV→VT→List Nat→Nat→Prop):vx Try.prog ac (aD [(rz,xd W H k a n x g),(nR,xf W' H')]) (aB [(999998, .dead,none),(29, .elt (tX k a n x g),none)]) 300 aE none 0 (b6 Try.prog fJ 0) (aG 75 oB (jC M L j)) (fK lk lk2 es es2 ck ck2 (ai W) (ai H)) [] (cB oB Q)=
 (bif decide ((↑j:Int)<(↑(List.length L):Int))
 then (aU Try.prog (fun _=> .none) (.indexAddr 22 (.tmp 25) (.tmp 27)) [(25,(.vec 9 (L) .none)),(27,(.val (.int .i64 ((↑j:Int)))))] (.elt [(.val (.int .i64 (k))),(.val (.int .u32 (a))),(.val (.int .i64 (n))),(.val (.int .i64 (AtV.o x))),(.vec 1 (iV (AtV.p x)) .none),(.val (.int .u32 (AtV.h x))),(.val (.int .i64 (AtV.m x))),(.val (.bool (AtV.hm x))),(.val (.bool (g)))])∧
 (((@Eq (Nat) 0 0)∧
 (pI (W) (H) ⟨[(.map ⟨true, [(.int .u32),(.int .i64)]⟩ (lk) (es) (ck)),(.map ⟨true, [(.int .u32),(.int .i64)]⟩ (lk2) (es2) (ck2)),(.cells [(.map 0),(.map 1)]),(.cells [(.vec 7 (ai W) .none),(.vec 7 (ai H) .none)]),(.cells [(.val (.int .i64 (k))),(.val (.int .u32 (a))),(.val (.int .i64 (n))),(.val (.int .i64 (AtV.o x))),(.vec 1 (iV (AtV.p x)) .none),(.val (.int .u32 (AtV.h x))),(.val (.int .i64 (AtV.m x))),(.val (.bool (AtV.hm x))),(.val (.bool (g)))])], []⟩∧
 w8 [(.val (.int .i64 (k))),(.val (.int .u32 (a))),(.val (.int .i64 (n))),(.val (.int .i64 (AtV.o x))),(.vec 1 (iV (AtV.p x)) .none),(.val (.int .u32 (AtV.h x))),(.val (.int .i64 (AtV.m x))),(.val (.bool (AtV.hm x))),(.val (.bool (g)))] (k) (a) (n) (x) (g)))∧
 (∀s:S6,(TbJ (ek W k a n x) (en H k a n x g) (s)→(((@Eq (Nat) 0 0)∧
 (pI (W') (H') ⟨[(.map ⟨true, [(.int .u32),(.int .i64)]⟩ (s.1) (S6.es s) (S6.ck s)),(.map ⟨true, [(.int .u32),(.int .i64)]⟩ (s.2) (S6.es2 s) (S6.ck2 s)),(.cells [(.map 0),(.map 1)]),(.cells [(.vec 7 (ai (ek W k a n x)) .none),(.vec 7 (ai (en H k a n x g)) .none)]),(.cells [(.val (.int .i64 (k))),(.val (.int .u32 (a))),(.val (.int .i64 (n))),(.val (.int .i64 (AtV.o x))),(.vec 1 (iV (AtV.p x)) .none),(.val (.int .u32 (AtV.h x))),(.val (.int .i64 (AtV.m x))),(.val (.bool (AtV.hm x))),(.val (.bool (g)))])], []⟩∧
 qz [(.val (.int .u32 (a))),(.val (.int .i64 (n)))]))∧
 Q .normal [(.vec 9 (M) .none),(.ptr 2 0),(.ptr 3 0),(.vec 9 (L) .none),(.val (.int .i64 ((↑(List.length L):Int)))),(.val (.int .i64 (IntKind.wrap IntKind.i64 ((↑j:Int)+(1:Int)))))] ⟨[(.map ⟨true, [(.int .u32),(.int .i64)]⟩ (s.1) (S6.es s) (S6.ck s)),(.map ⟨true, [(.int .u32),(.int .i64)]⟩ (s.2) (S6.es2 s) (S6.ck2 s)),(.cells [(.map 0),(.map 1)]),(.cells [(.vec 7 (ai (ek W k a n x)) .none),(.vec 7 (ai (en H k a n x g)) .none)]),(.cells [(.val (.int .i64 (k))),(.val (.int .u32 (a))),(.val (.int .i64 (n))),(.val (.int .i64 (AtV.o x))),(.vec 1 (iV (AtV.p x)) .none),(.val (.int .u32 (AtV.h x))),(.val (.int .i64 (AtV.m x))),(.val (.bool (AtV.hm x))),(.val (.bool (g)))])], []⟩ [] 75)))))
 else Q (.exit 0) [(.vec 9 (M) .none),(.ptr 2 0),(.ptr 3 0),(.vec 9 (L) .none),(.val (.int .i64 ((↑(List.length L):Int)))),(.val (.int .i64 ((↑j:Int))))] ⟨[(.map ⟨true, [(.int .u32),(.int .i64)]⟩ (lk) (es) (ck)),(.map ⟨true, [(.int .u32),(.int .i64)]⟩ (lk2) (es2) (ck2)),(.cells [(.map 0),(.map 1)]),(.cells [(.vec 7 (ai W) .none),(.vec 7 (ai H) .none)])], []⟩ [] 75):=by kernel_rfl
theorem zD (L:Bs) (W H V J:List ak) (lk lk2 lk3 lk4:bQ) (es es2 es3 es4:bF) (ck ck2 ck3 ck4:Nat) (k a n:Int) (x:AtV) (g:Bool) (j:Nat) (Q:Exit→List TV→VT→List Nat→Nat→Prop):vx Try.prog ac (aD [(rz,xe V J k a n x g)]) (aB [(999998, .dead,none),(54, .elt (tX k a n x g),none)]) 300 aE none 0 (b6 Try.prog fJ 2) (aG 75 mZ (iv L j)) (kf lk lk2 lk3 lk4 es es2 es3 es4 ck ck2 ck3 ck4 (ai W) (ai H) (ai V) (ai J)) [] (cB mZ Q)=
 (bif decide ((↑j:Int)<(↑(List.length L):Int))
 then (aU Try.prog (fun _=> .none) (.indexAddr 22 (.tmp 50) (.tmp 52)) [(50,(.vec 9 (L) .none)),(52,(.val (.int .i64 ((↑j:Int)))))] (.elt [(.val (.int .i64 (k))),(.val (.int .u32 (a))),(.val (.int .i64 (n))),(.val (.int .i64 (AtV.o x))),(.vec 1 (iV (AtV.p x)) .none),(.val (.int .u32 (AtV.h x))),(.val (.int .i64 (AtV.m x))),(.val (.bool (AtV.hm x))),(.val (.bool (g)))])∧
 (((@Eq (Nat) 0 0)∧
 (ug (V) (J) ⟨[(.map ⟨true, [(.int .u32),(.int .i64)]⟩ (lk) (es) (ck)),(.map ⟨true, [(.int .u32),(.int .i64)]⟩ (lk2) (es2) (ck2)),(.cells [(.map 0),(.map 1)]),(.cells [(.vec 7 (ai W) .none),(.vec 7 (ai H) .none)]),(.map ⟨true, [(.int .u32),(.int .i64)]⟩ (lk3) (es3) (ck3)),(.map ⟨true, [(.int .u32),(.int .i64)]⟩ (lk4) (es4) (ck4)),(.cells [(.map 4),(.map 5)]),(.cells [(.vec 7 (ai V) .none),(.vec 7 (ai J) .none)]),(.cells [(.val (.int .i64 (k))),(.val (.int .u32 (a))),(.val (.int .i64 (n))),(.val (.int .i64 (AtV.o x))),(.vec 1 (iV (AtV.p x)) .none),(.val (.int .u32 (AtV.h x))),(.val (.int .i64 (AtV.m x))),(.val (.bool (AtV.hm x))),(.val (.bool (g)))])], []⟩∧
 w8 [(.val (.int .i64 (k))),(.val (.int .u32 (a))),(.val (.int .i64 (n))),(.val (.int .i64 (AtV.o x))),(.vec 1 (iV (AtV.p x)) .none),(.val (.int .u32 (AtV.h x))),(.val (.int .i64 (AtV.m x))),(.val (.bool (AtV.hm x))),(.val (.bool (g)))] (k) (a) (n) (x) (g)))∧
 (∀s:S6,(TbJ (ek V k a n x) (en J k a n x g) (s)→Q .normal [(.ptr 2 0),(.ptr 3 0),(.ptr 6 0),(.ptr 7 0),(.vec 9 (L) .none),(.val (.int .i64 ((↑(List.length L):Int)))),(.val (.int .i64 (IntKind.wrap IntKind.i64 ((↑j:Int)+(1:Int)))))] ⟨[(.map ⟨true, [(.int .u32),(.int .i64)]⟩ (lk) (es) (ck)),(.map ⟨true, [(.int .u32),(.int .i64)]⟩ (lk2) (es2) (ck2)),(.cells [(.map 0),(.map 1)]),(.cells [(.vec 7 (ai W) .none),(.vec 7 (ai H) .none)]),(.map ⟨true, [(.int .u32),(.int .i64)]⟩ (s.1) (S6.es s) (S6.ck s)),(.map ⟨true, [(.int .u32),(.int .i64)]⟩ (s.2) (S6.es2 s) (S6.ck2 s)),(.cells [(.map 4),(.map 5)]),(.cells [(.vec 7 (ai (ek V k a n x)) .none),(.vec 7 (ai (en J k a n x g)) .none)]),(.cells [(.val (.int .i64 (k))),(.val (.int .u32 (a))),(.val (.int .i64 (n))),(.val (.int .i64 (AtV.o x))),(.vec 1 (iV (AtV.p x)) .none),(.val (.int .u32 (AtV.h x))),(.val (.int .i64 (AtV.m x))),(.val (.bool (AtV.hm x))),(.val (.bool (g)))])], []⟩ [] 75))))
 else Q (.exit 2) [(.ptr 2 0),(.ptr 3 0),(.ptr 6 0),(.ptr 7 0),(.vec 9 (L) .none),(.val (.int .i64 ((↑(List.length L):Int)))),(.val (.int .i64 ((↑j:Int))))] ⟨[(.map ⟨true, [(.int .u32),(.int .i64)]⟩ (lk) (es) (ck)),(.map ⟨true, [(.int .u32),(.int .i64)]⟩ (lk2) (es2) (ck2)),(.cells [(.map 0),(.map 1)]),(.cells [(.vec 7 (ai W) .none),(.vec 7 (ai H) .none)]),(.map ⟨true, [(.int .u32),(.int .i64)]⟩ (lk3) (es3) (ck3)),(.map ⟨true, [(.int .u32),(.int .i64)]⟩ (lk4) (es4) (ck4)),(.cells [(.map 4),(.map 5)]),(.cells [(.vec 7 (ai V) .none),(.vec 7 (ai J) .none)])], []⟩ [] 75):=by kernel_rfl
theorem FT (L M:Bs) (Q:TV→VT→Prop):aq Try.prog ac (aD [(kU,vC),(vB,nl)]) (aB [(999998, .dead,none)]) 300 (HF (au Try.prog fJ 0)) 0 fJ [.vec 9 L .none, .vec 9 M .none] ⟨[], []⟩ Q=
 (tY (L)∧
 (∀b:Bool,(oz (L) (b)→(bif !b
 then Q (.val (.bool true)) ⟨[], []⟩
 else (tY (M)∧
 (∀b_5:Bool,(oz (M) (b_5)→(bif !b_5
 then Q (.val (.bool true)) ⟨[], []⟩
 else ((au Try.prog fJ (0:Nat)=au Try.prog fJ (0:Nat))∧
 False))))))))):=by kernel_rfl
end
section
open Go.RowKit
set_option maxRecDepth 100000

theorem VWx.cellsIn {P:Program} {G:az} {c:Code} {σ:List TV} {D:List Nat} {T:VT} {i:Nat} {cs cs' :List TV} {Q:KX} (hi:T.objs[i]?=some (.cells cs)) (hl:TVleL cs cs') (h:VWx P G none 0 c σ {T with objs:=T.objs.set i (.cells cs')} D Q):VWx P G none 0 c σ T D Q:=by
 intro r g w a rw0 hG hσ hd hD hr
 have r' :=rw0.objLe hi rfl (o' := .cells cs') rfl fun b ⟨us,t,h1,h2,h3⟩=>⟨us,t,h1,hl.vrs h2,h3⟩
 refine wpIn_mono (h r g w a r' hG hσ hd hD hr) ?_
 rintro e a' w' ⟨g',σ',T',D',hq,e',r2,hσ',hd',hD',hfx⟩
 refine ⟨g',σ',T',D',hq,e',r2,hσ',hd',hD',⟨?_,fun i hi=>absurd hi (Nat.not_lt_zero i),fun i o b hi=>absurd hi (Nat.not_lt_zero i)⟩⟩
 have:=hfx.len
 simpa using this
theorem ui (W:List ak) (t:dI):BO W W t=true:=by
 unfold BO
 split
 ·exact decide_eq_true rfl
 ·rfl
theorem Df (W H:List ak) (k a n:Int) (x:AtV) (g:Bool):∀ro ys T K,xd W H k a n x g ro ys T K→VCx Try.prog ac ro rz ys T K:=by
 intro ro ys T K hw
 unfold xd at hw
 split at hw
 ·split at hw
  ·rename_i sh lk es ck sh2 lk2 es2 ck2 w tk h tk2 os hT
   obtain ⟨⟨rfl,⟨s,os',hT',hs,l1,l2⟩,rfl,hp,hx⟩,hk⟩:=hw
   obtain ⟨objs,tl⟩:=T
   simp only at hT hT' hk
   rw [hT] at hT'
   simp only [List.cons.injEq,VO.map.injEq,VO.cells.injEq,TV.vec.injEq,true_and,and_true] at hT'
   obtain ⟨⟨rfl,rfl,rfl,rfl⟩,⟨rfl,rfl,rfl,rfl⟩,⟨⟨rfl,rfl⟩,⟨rfl,rfl⟩⟩,rfl⟩:=hT'
   subst hT
   have hg:VT.give ⟨.map kP s.lk s.es s.ck:: .map kP s.lk2 s.es2 s.ck2:: .cells [.map 0, .map 1]:: .cells [.vec 7 (ai W) .none, .vec 7 (ai H) .none]::os,tl⟩ [2,0,1,3] []=jX s.lk s.lk2 s.es s.es2 s.ck s.ck2 (ai W) (ai H):=by
    simp only [VT.give,List.map_cons,List.map_nil,List.getElem?_cons_zero,List.getElem?_cons_succ,Option.getD_some,hs.1.ren,hs.2.ren,jX]
    simp only [VO.ren,av,TV.ren,ai,aS,Tok.ren]
    rfl
   have hv:=zk (V:=W) (J:=H) s hs l1 l2 (gU hs.1) (gU hs.2) ⟨k,(a,n),x,g⟩ ⟨hp,hx⟩
   rw [ui] at hv
   refine (VCx.lift (xs:= [.ptr 0 0, .ptr 3 0, .agg (bk ⟨k,(a,n),x,g⟩)]) [2,0,1,3] [] ay (by decide) List.nodup_nil (fun i hi=> ?_) (by simp) (fun _ _=>Nat.zero_le _) ?_ (by rw [hg];exact hv) (fun y T' hq=> ?_)).mono ?_
   ·simp only [List.mem_cons,List.not_mem_nil,or_false] at hi
    rcases hi with rfl | rfl | rfl | rfl<;>exact ⟨_,rfl,rfl⟩
   ·have e:=qy ⟨k,(a,n),x,g⟩ (bc [2,0,1,3]) (bc [])
    simp only [bk] at e
    simp only [av,TV.ren,e];rfl
   ·obtain ⟨_,s',_,rfl⟩:=hq
    exact ⟨Nat.le_refl 4,Nat.zero_le _⟩
   ·rintro y T'' ⟨z,T',⟨rfl,s',hs',rfl⟩,rfl,rfl⟩
    simp only at hs'
    have hb:VT.back ⟨.map kP s.lk s.es s.ck:: .map kP s.lk2 s.es2 s.ck2:: .cells [.map 0, .map 1]:: .cells [.vec 7 (ai W) .none, .vec 7 (ai H) .none]::os,tl⟩ [2,0,1,3] [] (jX s'.lk s'.lk2 s'.es s'.es2 s'.ck s'.ck2 (ai (ek W k a n x)) (ai (en H k a n x g)))=⟨.map kP s'.lk s'.es s'.ck:: .map kP s'.lk2 s'.es2 s'.ck2:: .cells [.map 0, .map 1]:: .cells [.vec 7 (ai (ek W k a n x)) .none, .vec 7 (ai (en H k a n x g)) .none]::os,tl⟩:=by
     simp only [VT.back,jX,List.length_cons,List.map_cons,List.map_nil,hs'.1.ren,hs'.2.ren,aV]
     simp [aV,VO.ren,TV.ren,av,aN,ai,aS,Tok.ren]
    rw [hb]
    exact hk s' hs'
  ·exact hw.elim
 ·exact hw.elim
theorem Dg (W H:List ak) (k a n:Int) (x:AtV) (g:Bool):∀ro ys T K,xe W H k a n x g ro ys T K→VCx Try.prog ac ro rz ys T K:=by
 intro ro ys T K hw
 unfold xe at hw
 split at hw
 ·split at hw
  ·rename_i o0 o1 o2 o3 sh lk es ck sh2 lk2 es2 ck2 w tk h tk2 os hT
   obtain ⟨⟨rfl,⟨s,p0,p1,p2,p3,os',hT',hs,l1,l2⟩,rfl,hp,hx⟩,hk⟩:=hw
   obtain ⟨objs,tl⟩:=T
   simp only at hT hT' hk
   rw [hT] at hT'
   simp only [List.cons.injEq,VO.map.injEq,VO.cells.injEq,TV.vec.injEq,true_and,and_true] at hT'
   obtain ⟨rfl,rfl,rfl,rfl,⟨rfl,rfl,rfl,rfl⟩,⟨rfl,rfl,rfl,rfl⟩,⟨⟨rfl,rfl⟩,⟨rfl,rfl⟩⟩,rfl⟩:=hT'
   subst hT
   have hg:VT.give ⟨o0::o1::o2::o3:: .map kP s.lk s.es s.ck:: .map kP s.lk2 s.es2 s.ck2:: .cells [.map 4, .map 5]:: .cells [.vec 7 (ai W) .none, .vec 7 (ai H) .none]::os,tl⟩ [6,4,5,7] []=jX s.lk s.lk2 s.es s.es2 s.ck s.ck2 (ai W) (ai H):=by
    simp only [VT.give,List.map_cons,List.map_nil,List.getElem?_cons_zero,List.getElem?_cons_succ,Option.getD_some,hs.1.ren,hs.2.ren,jX]
    simp only [VO.ren,av,TV.ren,ai,aS,Tok.ren]
    rfl
   have hv:=zk (V:=W) (J:=H) s hs l1 l2 (gU hs.1) (gU hs.2) ⟨k,(a,n),x,g⟩ ⟨hp,hx⟩
   rw [ui] at hv
   refine (VCx.lift (xs:= [.ptr 0 0, .ptr 3 0, .agg (bk ⟨k,(a,n),x,g⟩)]) [6,4,5,7] [] ay (by decide) List.nodup_nil (fun i hi=> ?_) (by simp) (fun _ _=>Nat.zero_le _) ?_ (by rw [hg];exact hv) (fun y T' hq=> ?_)).mono ?_
   ·simp only [List.mem_cons,List.not_mem_nil,or_false] at hi
    rcases hi with rfl | rfl | rfl | rfl<;>exact ⟨_,rfl,rfl⟩
   ·have e:=qy ⟨k,(a,n),x,g⟩ (bc [6,4,5,7]) (bc [])
    simp only [bk] at e
    simp only [av,TV.ren,e];rfl
   ·obtain ⟨_,s',_,rfl⟩:=hq
    exact ⟨Nat.le_refl 4,Nat.zero_le _⟩
   ·rintro y T'' ⟨z,T',⟨rfl,s',hs',rfl⟩,rfl,rfl⟩
    simp only at hs'
    have hb:VT.back ⟨o0::o1::o2::o3:: .map kP s.lk s.es s.ck:: .map kP s.lk2 s.es2 s.ck2:: .cells [.map 4, .map 5]:: .cells [.vec 7 (ai W) .none, .vec 7 (ai H) .none]::os,tl⟩ [6,4,5,7] [] (jX s'.lk s'.lk2 s'.es s'.es2 s'.ck s'.ck2 (ai (ek W k a n x)) (ai (en H k a n x g)))=⟨o0::o1::o2::o3:: .map kP s'.lk s'.es s'.ck:: .map kP s'.lk2 s'.es2 s'.ck2:: .cells [.map 4, .map 5]:: .cells [.vec 7 (ai (ek W k a n x)) .none, .vec 7 (ai (en H k a n x g)) .none]::os,tl⟩:=by
     simp only [VT.back,jX,List.length_cons,List.map_cons,List.map_nil,hs'.1.ren,hs'.2.ren,aV]
     simp [aV,VO.ren,TV.ren,av,aN,ai,aS,Tok.ren]
    rw [hb]
    exact hk s' hs'
  ·exact hw.elim
 ·exact hw.elim
section
variable {W H:List ak}
theorem FU {T:VT} (h:pI W H T) (p:Px) (K:TV→VT→Prop) (hk:K (.val (.bool true)) T):VCx Try.prog ac 0 nR [.ptr 2 0, .ptr 3 0, .agg (aw p)] T K:=by
 obtain ⟨s,os,hT,hs,l1,l2⟩:=h
 obtain ⟨objs,tl⟩:=T
 simp only at hT;subst hT
 have hg:VT.give ⟨.map kP s.lk s.es s.ck:: .map kP s.lk2 s.es2 s.ck2:: .cells [.map 0, .map 1]:: .cells [.vec 7 (ai W) .none, .vec 7 (ai H) .none]::os,tl⟩ [0,1,2,3] []=fK s.lk s.lk2 s.es s.es2 s.ck s.ck2 (ai W) (ai H):=by
  simp only [VT.give,List.map_cons,List.map_nil,List.getElem?_cons_zero,List.getElem?_cons_succ,Option.getD_some,hs.1.ren,hs.2.ren,fK]
  simp only [VO.ren,av,TV.ren,ai,aS,Tok.ren]
  rfl
 refine (VCx.lift (xs:= [.ptr 2 0, .ptr 3 0, .agg (aw p)]) [0,1,2,3] [] ay (by decide) List.nodup_nil (fun i hi=> ?_) (by simp) (fun _ _=>Nat.zero_le _) rfl (by rw [hg];exact zB s hs l1 l2 p) (fun y T' hq=> ?_)).mono ?_
 ·simp only [List.mem_cons,List.not_mem_nil,or_false] at hi
  rcases hi with rfl | rfl | rfl | rfl<;>exact ⟨_,rfl,rfl⟩
 ·rw [hq.2];exact ⟨Nat.le_refl 4,Nat.zero_le _⟩
 ·rintro y T'' ⟨z,T',⟨rfl,rfl⟩,rfl,rfl⟩
  have hb:VT.back ⟨.map kP s.lk s.es s.ck:: .map kP s.lk2 s.es2 s.ck2:: .cells [.map 0, .map 1]:: .cells [.vec 7 (ai W) .none, .vec 7 (ai H) .none]::os,tl⟩ [0,1,2,3] [] (fK s.lk s.lk2 s.es s.es2 s.ck s.ck2 (ai W) (ai H))=⟨.map kP s.lk s.es s.ck:: .map kP s.lk2 s.es2 s.ck2:: .cells [.map 0, .map 1]:: .cells [.vec 7 (ai W) .none, .vec 7 (ai H) .none]::os,tl⟩:=by
   simp only [VT.back,fK,List.length_cons,List.map_cons,List.map_nil,hs.1.ren,hs.2.ren,aV]
   simp [aV,VO.ren,TV.ren,av,aN,ai,aS,Tok.ren]
  rw [hb]
  exact hk
theorem HG {T:VT} (h:ug W H T) (p:Px) (K:TV→VT→Prop) (hk:K (.val (.bool true)) T):VCx Try.prog ac 0 nR [.ptr 6 0, .ptr 7 0, .agg (aw p)] T K:=by
 obtain ⟨s,o0,o1,o2,o3,os,hT,hs,l1,l2⟩:=h
 obtain ⟨objs,tl⟩:=T
 simp only at hT;subst hT
 have hg:VT.give ⟨o0::o1::o2::o3:: .map kP s.lk s.es s.ck:: .map kP s.lk2 s.es2 s.ck2:: .cells [.map 4, .map 5]:: .cells [.vec 7 (ai W) .none, .vec 7 (ai H) .none]::os,tl⟩ [4,5,6,7] []=fK s.lk s.lk2 s.es s.es2 s.ck s.ck2 (ai W) (ai H):=by
  simp only [VT.give,List.map_cons,List.map_nil,List.getElem?_cons_zero,List.getElem?_cons_succ,Option.getD_some,hs.1.ren,hs.2.ren,fK]
  simp only [VO.ren,av,TV.ren,ai,aS,Tok.ren]
  rfl
 refine (VCx.lift (xs:= [.ptr 2 0, .ptr 3 0, .agg (aw p)]) [4,5,6,7] [] ay (by decide) List.nodup_nil (fun i hi=> ?_) (by simp) (fun _ _=>Nat.zero_le _) rfl (by rw [hg];exact zB s hs l1 l2 p) (fun y T' hq=> ?_)).mono ?_
 ·simp only [List.mem_cons,List.not_mem_nil,or_false] at hi
  rcases hi with rfl | rfl | rfl | rfl<;>exact ⟨_,rfl,rfl⟩
 ·rw [hq.2];exact ⟨Nat.le_refl 4,Nat.zero_le _⟩
 ·rintro y T'' ⟨z,T',⟨rfl,rfl⟩,rfl,rfl⟩
  have hb:VT.back ⟨o0::o1::o2::o3:: .map kP s.lk s.es s.ck:: .map kP s.lk2 s.es2 s.ck2:: .cells [.map 4, .map 5]:: .cells [.vec 7 (ai W) .none, .vec 7 (ai H) .none]::os,tl⟩ [4,5,6,7] [] (fK s.lk s.lk2 s.es s.es2 s.ck s.ck2 (ai W) (ai H))=⟨o0::o1::o2::o3:: .map kP s.lk s.es s.ck:: .map kP s.lk2 s.es2 s.ck2:: .cells [.map 4, .map 5]:: .cells [.vec 7 (ai W) .none, .vec 7 (ai H) .none]::os,tl⟩:=by
   simp only [VT.back,fK,List.length_cons,List.map_cons,List.map_nil,hs.1.ren,hs.2.ren,aV]
   simp [aV,VO.ren,TV.ren,av,aN,ai,aS,Tok.ren]
  rw [hb]
  exact hk
theorem Dh (W H:List ak):∀ro ys T K,xf W H ro ys T K→VCx Try.prog ac ro nR ys T K:=by
 intro ro ys T K hw
 unfold xf at hw
 split at hw
 ·obtain ⟨⟨rfl,h,p,rfl⟩,hk⟩:=hw
  exact FU h p K hk
 ·exact hw.elim
theorem Di (W H V J:List ak):∀ro ys T K,xg W H V J ro ys T K→VCx Try.prog ac ro nR ys T K:=by
 intro ro ys T K hw
 unfold xg at hw
 split at hw
 ·obtain ⟨⟨rfl,h,p,rfl⟩,hk⟩:=hw
  exact FU h p K hk
 ·obtain ⟨⟨rfl,h,p,rfl⟩,hk⟩:=hw
  exact HG h p K hk
 ·exact hw.elim
theorem FV:∀ro ys T K,B2 ro ys T K→VCx Try.prog ac ro vv ys T K:=by
 intro ro ys T K hw
 unfold B2 at hw
 split at hw
 ·split at hw
  ·rename_i o0 o1 o2 w tk h tk2 o4 o5 o6 hT
   obtain ⟨⟨rfl,W,H,rfl,rfl,l1,l2⟩,hk⟩:=hw
   obtain ⟨objs,tl⟩:=T
   simp only at hT hk
   subst hT
   refine VCx.cellsIn (i:=3) (cs' := [.vec 7 (ai W) .none, .vec 7 (ai H) .none]) rfl ⟨.vec 7 _ _, .vec 7 _ _,trivial⟩ ?_
   show VCx _ _ 0 vv _ ⟨[o0,o1,o2, .cells [.vec 7 (ai W) .none, .vec 7 (ai H) .none],o4,o5,o6],tl⟩ _
   have hg:VT.give ⟨[o0,o1,o2, .cells [.vec 7 (ai W) .none, .vec 7 (ai H) .none],o4,o5,o6],tl⟩ [3] []=dw (ai W) (ai H):=by
    simp only [VT.give,List.map_cons,List.map_nil,List.getElem?_cons_zero,List.getElem?_cons_succ,Option.getD_some,dw,VO.ren,av,TV.ren,ai,aS,Tok.ren]
   refine (VCx.lift (xs:= [.ptr 0 0]) [3] [] ay (by decide) List.nodup_nil (fun i hi=> ?_) (by simp) (fun _ _=>Nat.zero_le _) rfl (by rw [hg];exact FJ l1 l2) (fun y T' hq=> ?_)).mono ?_
   ·simp only [List.mem_cons,List.not_mem_nil,or_false] at hi
    subst hi;exact ⟨_,rfl,rfl⟩
   ·rw [hq.2];exact ⟨Nat.le_succ 1,Nat.zero_le _⟩
   ·rintro y T'' ⟨z,T',⟨rfl,rfl⟩,rfl,rfl⟩
    have hb:VT.back ⟨[o0,o1,o2, .cells [.vec 7 (ai W) .none, .vec 7 (ai H) .none],o4,o5,o6],tl⟩ [3] [] ⟨[.cells [.vec 7 (ai W) .none, .vec 7 (ai H) .none], .cells [.vec 7 (ai W) .none, .vec 7 (ai H) .none]], []⟩=⟨[o0,o1,o2, .cells [.vec 7 (ai W) .none, .vec 7 (ai H) .none],o4,o5,o6, .cells [.vec 7 (ai W) .none, .vec 7 (ai H) .none]],tl⟩:=by
     simp only [VT.back,List.length_cons,List.map_cons,List.map_nil,VO.ren,av,TV.ren,ai,aS,Tok.ren,aV]
     simp [aV,VO.ren,TV.ren,av,aS,Tok.ren]
    rw [hb]
    exact hk
  ·exact hw.elim
 ·exact hw.elim
end
end
section
open Go.ChangeShapes Go.WideShapes Go.ChangeAt Go.RowKit Go.Joins Go.Deep

section
variable {H:Type} {enc:TypeId × Value→H} {P:Program} {w:World} {base:Nat} {spare:Nat→Bool} {held:Bool}
end
end
section
open Go.ChangeShapes Go.WideShapes Go.ChangeAt Go.RowKit Go.Joins Go.Deep

theorem oC {α:Type} {k:Nat}:∀(l:List (List α)),(∀x∈l,x.length=k)→∀(j:Nat) u,l.flatten[j]?=some u→∃i c x,c<k∧j=i*k+c∧l[i]?=some x∧x[c]?=some u
 | [],_,j,u,h=>by simp at h
 | a::r,hz,j,u,h=>by
  have ha:=hz a (by simp)
  rw [List.flatten_cons] at h
  rcases Nat.lt_or_ge j a.length with hj | hj
  ·rw [List.getElem?_append_left hj] at h
   exact ⟨0,j,a,by omega,by omega,rfl,h⟩
  ·rw [List.getElem?_append_right hj] at h
   obtain ⟨i,c,x,h1,h2,h3,h4⟩:=oC r (fun x hx=>hz x (by simp [hx])) _ u h
   refine ⟨i+1,c,x,h1, ?_,by simpa using h3,h4⟩
   rw [Nat.add_mul];omega
section
variable {P:Program} {H:Type} {enc:TypeId × Value→H} {w:World} {base:Nat} {spare:Nat→Bool} {held:Bool}
end
end
section
open Go.ChangeShapes Go.WideShapes Go.ChangeAt Go.RowKit Go.Joins Go.Deep

inductive SH where
 | int (k:IntKind)
 | bool
 | str
 | slice (es:List SH)
mutual
def SH.Fits:SH→TV→Prop
 | .int k,x=>∃z,x= .val (.int k z)∧(Lit.int k z).wf=true
 | .bool,x=>∃b,x= .val (.bool b)
 | .str,x=>∃s:ByteArray,x= .val (.string s)∧s.size≤maxLen
 | .slice es,x=>∃l:List (List TV),x= .vec es.length l .none∧l.length≤maxLen∧∀e∈l,dJ es e
def dJ:List SH→List TV→Prop
 | [], []=>True
 | s::ss,x::xs=>s.Fits x∧dJ ss xs
 | _,_=>False
end
theorem rA:∀{ss:List SH} {xs:List TV},dJ ss xs→xs.length=ss.length
 | [], [],_=>rfl
 | [],_::_,h=>by simp [dJ] at h
 | _::_, [],h=>by simp [dJ] at h
 | s::ss,x::xs,h=>by
  simp only [dJ] at h
  simp [rA h.2]
theorem cZ {s:SH} {ss:List SH} {xs:List TV} (h:dJ (s::ss) xs):∃x r,xs=x::r∧s.Fits x∧dJ ss r:=by
 cases xs with
 | nil=>simp [dJ] at h
 | cons x r=>simp only [dJ] at h;exact ⟨x,r,rfl,h⟩
theorem rB {xs:List TV} (h:dJ [] xs):xs= []:=by
 cases xs with
 | nil=>rfl
 | cons x r=>simp [dJ] at h
theorem fT {k:IntKind} {x:TV} (h:SH.Fits (.int k) x):∃z,x= .val (.int k z)∧(Lit.int k z).wf=true:=by simpa [SH.Fits] using h
theorem rC {x:TV} (h:SH.Fits .bool x):∃b,x= .val (.bool b):=by simpa [SH.Fits] using h
theorem pJ {es:List SH} {x:TV} (h:SH.Fits (.slice es) x):∃l:List (List TV),x= .vec es.length l .none∧l.length≤maxLen∧∀e∈l,dJ es e:=by simpa [SH.Fits] using h
def pK (f:TypeId→Option SH):List TypeId→Option (List SH)
 | []=>some []
 | t::r=>match f t,pK f r with
  | some s,some l=>some (s::l)
  | _,_=>none
theorem vK {f:TypeId→Option SH}:∀{ts:List TypeId} {ss:List SH},pK f ts=some ss→ss.length=ts.length
 | [],ss,h=>by simp [pK] at h;subst h;rfl
 | t::r,ss,h=>by
  simp only [pK] at h
  split at h
  ·rename_i s l h1 h2
   injection h with h;subst h
   simp [vK h2]
  ·cases h
def uj (P:Program):Nat→TypeId→Option SH
 | 0,_=>none
 | n+1,t=>match P.underlying t with
  | some (.int k)=>some (.int k)
  | some .bool=>some .bool
  | some .string=>some .str
  | some (.slice e)=>match kJ P n e with
   | some ts=>bif Nat.beq (P.cellsOf e) ts.length&&Nat.ble 1 ts.length then (pK (uj P n) ts).map .slice else none
   | none=>none
  | _=>none
section
variable {P:Program} {H:Type} {enc:TypeId × Value→H} {w:World} {base:Nat} {held:Bool}
abbrev un (enc:TypeId × Value→H) (P:Program) (w:World) (base:Nat) (held:Bool) (t:TypeId) (sh:SH):Prop:=∀u m y,DataW.trod enc P w base (fun _=>true) held m t [u]=some y→u.oneCell' =true∧∃x,VR (j8 w) w x u∧sh.Fits x
theorem uo {f:TypeId→Option SH} (hf:∀t sh,f t=some sh→un enc P w base held t sh):∀(ts:List TypeId) (ss:List SH) (cs:List Value),pK f ts=some ss→cs.length=ts.length→
  (∀(j:Nat) t',ts[j]?=some t' →∃u m y,cs[j]?=some u∧DataW.trod enc P w base (fun _=>true) held m t' [u]=some y)→(∀u∈cs,u.oneCell' =true)∧∃xs,VRs (j8 w) w xs cs∧dJ ss xs
 | [],ss,cs,h,hl,_=>by
  simp [pK] at h;subst h
  have:=List.eq_nil_of_length_eq_zero hl
  subst this
  exact ⟨by simp, [],VRs.nil _ _,trivial⟩
 | t::r,ss, [],h,hl,_=>by simp at hl
 | t::r,ss,c::cs,h,hl,hj=>by
  simp only [pK] at h
  split at h
  ·rename_i s l h1 h2
   injection h with h;subst h
   obtain ⟨u,m,y,k1,k2⟩:=hj 0 t rfl
   simp at k1;subst k1
   obtain ⟨a1,x,a2,a3⟩:=hf t s h1 _ m y k2
   obtain ⟨b1,xs,b2,b3⟩:=uo hf r l cs h2 (by simpa using hl) fun j t' ht' =>by
    obtain ⟨u,m,y,k1,k2⟩:=hj (j+1) t' (by simpa using ht')
    exact ⟨u,m,y,by simpa using k1,k2⟩
   refine ⟨fun u hu=> ?_,x::xs,VRs.cons a2 b2,a3,b3⟩
   rcases List.mem_cons.1 hu with rfl | hu
   ·exact a1
   ·exact b1 u hu
  ·cases h
theorem pL {e:TypeId} {n:Nat} {ts:List TypeId} {f:TypeId→Option SH} {ss:List SH} (hf:∀t sh,f t=some sh→un enc P w base held t sh) (hts:kJ P n e=some ts) (hss:pK f ts=some ss):
    ∀(rows:List (List Value)),(∀x∈rows,x.length=ts.length∧∃m y,DataW.trod enc P w base (fun _=>true) held m e x=some y)→
      (∀u∈rows.flatten,u.oneCell' =true)∧∃l:List (List TV),l.length=rows.length∧VRs (j8 w) w l.flatten rows.flatten∧∀x∈l,dJ ss x
  | [],_=>⟨by simp, [],rfl,VRs.nil _ _,by simp⟩
  | r::rows,h=>by
    obtain ⟨h1,m,y,h2⟩:=h r List.mem_cons_self
    obtain ⟨a1,xs,a2,a3⟩:=uo hf ts ss r hss h1 (qX n m e ts r y hts h1 h2)
    obtain ⟨b1,l,b2,b3,b4⟩:=pL hf hts hss rows fun x hx=>h x (List.mem_cons_of_mem _ hx)
    refine ⟨fun u hu=> ?_,xs::l,by simp [b2],by rw [List.flatten_cons,List.flatten_cons];exact a2.app b3,fun x hx=> ?_⟩
    · rw [List.flatten_cons] at hu
      rcases List.mem_append.1 hu with hu | hu
      · exact a1 u hu
      · exact b1 u hu
    · rcases List.mem_cons.1 hx with rfl | hx
      · exact a3
      · exact b4 x hx
theorem rD:∀(n:Nat) (t:TypeId) (sh:SH),uj P n t=some sh→un enc P w base held t sh
  | 0,_,_,h=>by simp [uj] at h
  | n+1,t,sh,h=>by
    intro u m y hy
    simp only [uj] at h
    split at h
    · rename_i k hk
      injection h with h;subst h
      obtain ⟨z,rfl,wz⟩:=Al hk hy
      exact ⟨rfl,_, .val _,z,rfl,wz⟩
    · rename_i hk
      injection h with h;subst h
      obtain ⟨b,e,_⟩:=DataW.trod_bool hk hy
      injection e with e;subst e
      exact ⟨rfl,_, .val _,b,rfl⟩
    · rename_i hk
      injection h with h;subst h
      obtain ⟨s,e,_,hs⟩:=DataW.trod_string hk hy
      injection e with e;subst e
      exact ⟨rfl,_, .val _,s,rfl,hs⟩
    · rename_i e ht
      split at h
      · rename_i ts hts
        cases hb:(Nat.beq (P.cellsOf e) ts.length&&Nat.ble 1 ts.length) with
        | false=>rw [hb] at h;cases h
        | true=>
          rw [hb] at h
          simp only [Bool.and_eq_true] at hb
          have hk:=Nat.eq_of_beq_eq_true hb.1
          have hpos:=Nat.le_of_ble_eq_true hb.2
          simp only [cond_true,Option.map_eq_some_iff] at h
          obtain ⟨ss,hss,rfl⟩:=h
          have hsl:=vK hss
          rcases open_slice ht hy with ⟨hcs,_⟩ | ⟨a,len,cap,m',n',D,Pl,hcs,hbb,hl,hm,hmm,hx,hall⟩
          · injection hcs with hcs;subst hcs
            exact ⟨rfl, .vec ss.length [] .none, .nil trivial, [],rfl,Nat.zero_le _,by simp⟩
          · injection hcs with hcs;subst hcs
            simp only [if_true] at hmm
            subst hmm
            rw [hk] at hall
            obtain ⟨b,o,sp⟩:=a
            rcases Nat.eq_zero_or_pos m' with hc0 | hc0
            · subst hc0
              have:len=0:=by omega
              subst this
              exact ⟨rfl, .vec ss.length [] .none, .odd _ trivial, [],rfl,Nat.zero_le _,by simp⟩
            · have hsp:sp=none:=by
                obtain ⟨cs',h1,_⟩:=hall 0 hc0
                obtain ⟨_,h3,h4⟩:=World.cells?_some h1
                have h5:=h4 0 hpos
                rw [List.getElem?_eq_getElem (by omega)] at h5
                cases sp with
                | none=>rfl
                | some s=>simp [World.cell?,Addr.add] at h5;split at h5<;>cases h5
              subst hsp
              obtain ⟨V,hV⟩:=choose_lt (α:=List Value) (p:=fun i cs' =>w.cells? base ((⟨b,o,none⟩:Addr).add (i*ts.length)) ts.length=some cs' ∧DataW.trod enc P w base (fun _=>true) held n' e cs' =some (D i,Pl i)) (fun i hi=>hall i hi)
              have each:∀i,i<len→(V i).length=ts.length∧(∀c,c<ts.length→w.cell? ⟨b,o+(i*ts.length+c),none⟩=(V i)[c]?)∧∃y,DataW.trod enc P w base (fun _=>true) held n' e (V i)=some y:=fun i hi=>by
                obtain ⟨h1,h2⟩:=hV i (by omega)
                obtain ⟨_,h3,h4⟩:=World.cells?_some h1
                refine ⟨h3,fun c hc=> ?_,_,h2⟩
                rw [←h4 c hc]
                congr 1
                simp [Addr.add_none,Nat.add_assoc]
              have at1:∀(i:Nat) x,((List.range len).map V)[i]?=some x→i<len∧x=V i:=fun i x hx=>by
                rw [List.getElem?_map] at hx
                rcases Nat.lt_or_ge i len with hi | hi
                · rw [List.getElem?_range hi] at hx
                  injection hx with hx
                  exact ⟨hi,hx.symm⟩
                · rw [List.getElem?_eq_none (by simpa using hi)] at hx;cases hx
              have hz:∀x∈(List.range len).map V,x.length=ts.length:=fun x hx=>by
                obtain ⟨i,hi,rfl⟩:=List.mem_map.1 hx
                exact (each i (List.mem_range.1 hi)).1
              obtain ⟨k1,l,k2,k3,k4⟩:=pL (fun t sh h=>rD n t sh h) hts hss ((List.range len).map V) fun x hx=>by
                obtain ⟨i,hi,rfl⟩:=List.mem_map.1 hx
                obtain ⟨e1,_,y,e3⟩:=each i (List.mem_range.1 hi)
                exact ⟨e1,n',y,e3⟩
              have hlen:l.length=len:=by rw [k2];simp
              refine ⟨rfl, .vec ss.length l .none, ?_,l,rfl,by omega,k4⟩
              refine .mk_vec hlen.symm hl hm (fun x hx=>rA (k4 x hx)) trivial k3 (fun j hj=> ?_) (fun j u hu=> ?_) k1
              · rw [←k3.1] at hj
                obtain ⟨i,c,x,h1,h2,h3,h4⟩:=oC _ hz j _ (List.getElem?_eq_getElem hj)
                obtain ⟨hi,rfl⟩:=at1 i x h3
                show (w.cell? ⟨b,o+j,none⟩).isSome=true
                rw [h2,(each i hi).2.1 c h1,h4];rfl
              · obtain ⟨i,c,x,h1,h2,h3,h4⟩:=oC _ hz j u hu
                obtain ⟨hi,rfl⟩:=at1 i x h3
                rw [h2,(each i hi).2.1 c h1,h4]
      · cases h
    · cases h
theorem xi {m:Nat} {t:TypeId} {sh:SH} {r:Reach} {b0:Nat} {v:Value} {d:DataW H} {p:List MemPlace} (hs:uj P m t=some sh)
  (hv:Value.okWide P w r b0 t v) (h:DataW.Trod enc P w base (fun _=>true) held t v d p):∃x,VR (j8 w) w x v∧sh.Fits x:=by
 have hc:v.cells.toList= [v]:=by
  cases m with
  | zero=>simp [uj] at hs
  | succ m=>
   simp only [uj] at hs
   unfold Value.okWide at hv
   split at hs
   ·rename_i k hk
    rw [hk] at hv
    simp only [Cell.okWide,hk] at hv
    cases v<;>simp [Cell.ok,hk] at hv<;>rfl
   ·rename_i hk
    rw [hk] at hv
    simp only [Cell.okWide,hk] at hv
    cases v<;>simp [Cell.ok,hk] at hv<;>rfl
   ·rename_i hk
    rw [hk] at hv
    simp only [Cell.okWide,hk] at hv
    cases v<;>simp [Cell.ok,hk] at hv<;>rfl
   ·rename_i e hk
    obtain ⟨qq,n,c,rfl⟩:=okWide_slice hk (by unfold Value.okWide;exact hv)
    rfl
   ·cases hs
 obtain ⟨fuel,hf⟩:=h
 rw [hc] at hf
 exact (rD m t sh hs v fuel _ hf).2
end
end
section
open Go.RowKit Go.Deep Go.WideShapes Go.ChangeAt

theorem xj {α:Type} (f:α→List TV) (Q:α→Prop):∀(l:List (List TV)),(∀e∈l,∃a,e=f a∧Q a)→∃al:List α,l=al.map f∧∀a∈al,Q a
 | [],_=>⟨[],rfl,fun _ h=>by cases h⟩
 | e::l,h=>by
  obtain ⟨a,rfl,ha⟩:=h _ List.mem_cons_self
  obtain ⟨al,rfl,hs⟩:=xj f Q l fun e he=>h e (List.mem_cons_of_mem _ he)
  exact ⟨a::al,rfl,fun b hb=>by
   rcases List.mem_cons.1 hb with rfl | hb
   ·exact ha
   ·exact hs b hb⟩
theorem G6 {z:Int} (h:(Lit.int .u32 z).wf=true):0≤z∧z<4294967296:=by
 simp [Lit.wf] at h
 have e0:IntKind.u32.min=0:=by decide
 have e1:IntKind.u32.max=4294967295:=by decide
 omega
theorem G7 {z:Int} (h:(Lit.int .i64 z).wf=true):-9223372036854775808≤z∧z≤9223372036854775807:=by
 simp [Lit.wf] at h
 have e0:IntKind.i64.min=-9223372036854775808:=by decide
 have e1:IntKind.i64.max=9223372036854775807:=by decide
 omega
theorem Dj {l:List (List TV)} (h:∀e∈l,dJ [.int .i64] e):∃ps,l=iV ps:=by
 obtain ⟨ps,h1,_⟩:=xj iT (fun _=>True) l fun e he=>by
  obtain ⟨x,r,rfl,h1,h2⟩:=cZ (h e he)
  obtain rfl:=rB h2
  obtain ⟨a,rfl,_⟩:=fT h1
  exact ⟨a,rfl,trivial⟩
 exact ⟨ps,h1⟩
def FW:List SH:= [.int .i64, .int .u32, .int .i64, .int .i64, .slice [.int .i64], .int .u32, .int .i64, .bool, .bool]
theorem Dk {xs:List TV} (h:dJ FW xs):∃t:dI,xs=bk t∧iu t:=by
 obtain ⟨x0,r0,rfl,h0,g0⟩:=cZ h
 obtain ⟨x1,r1,rfl,h1,g1⟩:=cZ g0
 obtain ⟨x2,r2,rfl,h2,g2⟩:=cZ g1
 obtain ⟨x3,r3,rfl,h3,g3⟩:=cZ g2
 obtain ⟨x4,r4,rfl,h4,g4⟩:=cZ g3
 obtain ⟨x5,r5,rfl,h5,g5⟩:=cZ g4
 obtain ⟨x6,r6,rfl,h6,g6⟩:=cZ g5
 obtain ⟨x7,r7,rfl,h7,g7⟩:=cZ g6
 obtain ⟨x8,r8,rfl,h8,g8⟩:=cZ g7
 obtain rfl:=rB g8
 obtain ⟨k,rfl,_⟩:=fT h0
 obtain ⟨a,rfl,wa⟩:=fT h1
 obtain ⟨n,rfl,wn⟩:=fT h2
 obtain ⟨o,rfl,_⟩:=fT h3
 obtain ⟨p,rfl,lp,hp⟩:=pJ h4
 obtain ⟨j,rfl,_⟩:=fT h5
 obtain ⟨m,rfl,_⟩:=fT h6
 obtain ⟨hm,rfl⟩:=rC h7
 obtain ⟨g,rfl⟩:=rC h8
 obtain ⟨p,rfl⟩:=Dj hp
 refine ⟨⟨k,(a,n),⟨o,p,j,m,hm⟩,g⟩,rfl,⟨G6 wa,G7 wn⟩, ?_⟩
 have e:(iV p).length=p.length:=List.length_map _
 rw [e] at lp
 exact Nat.le_trans lp (by unfold maxLen;decide)
theorem nS {H:Type} {enc:TypeId × Value→H} {w:World} {b0 base:Nat} {held:Bool} {v:Value} {d:DataW H} {p:List MemPlace}
  (hv:Value.okWide Try.prog w .any b0 22 v) (h:DataW.Trod enc Try.prog w base (fun _=>true) held 22 v d p):∃l:List dI,VR (j8 w) w (.vec 9 (l.map bk) .none) v∧(∀t∈l,iu t)∧l.length≤9223372036854775807:=by
 obtain ⟨x,h1,h2⟩:=xi (m:=9) (sh:= .slice FW) (by kernel_rfl) hv h
 obtain ⟨l,rfl,hl,hf⟩:=pJ h2
 obtain ⟨l,rfl,ha⟩:=xj bk iu l fun e he=>Dk (hf e he)
 rw [List.length_map] at hl
 exact ⟨l,h1,ha,Nat.le_trans hl (by unfold maxLen;decide)⟩
end
section
open Go.RowKit
set_option maxRecDepth 100000

theorem B3 (W H W' H' :List ak) (k a n:Int) (x:AtV) (g:Bool):aT Try.prog ac (aD [(rz,xd W H k a n x g),(nR,xf W' H')]):=aQ fun q hq=>by
 rcases List.mem_cons.1 hq with rfl | hq;exact Df _ _ _ _ _ _ _
 obtain rfl:=List.mem_singleton.1 hq;exact Dh _ _
theorem B4 (W H:List ak) (k a n:Int) (x:AtV) (g:Bool):aT Try.prog ac (aD [(rz,xe W H k a n x g)]):=aQ fun q hq=>by
 obtain rfl:=List.mem_singleton.1 hq;exact Dg _ _ _ _ _ _ _
theorem HH (W H V J:List ak):aT Try.prog ac (aD [(kU,vC),(vB,nl),(vv,B2),(nR,xg W H V J)]):=aQ fun q hq=>by
 rcases List.mem_cons.1 hq with rfl | hq;exact zm
 rcases List.mem_cons.1 hq with rfl | hq;exact s3 ay vE
 rcases List.mem_cons.1 hq with rfl | hq;exact FV
 obtain rfl:=List.mem_singleton.1 hq;exact Di _ _ _ _
section
variable {l m:List dI}
theorem FX (hl:l.length≤120) (ha:∀t∈l,iu t):∀rd ro σ T D K,Hp 75 oB (jC (m.map bk) (l.map bk) 0) (bs l) (bt l) (jC (m.map bk) (l.map bk) (l.map bk).length) rd ro σ T D K→VWx Try.prog ac rd ro (au Try.prog fJ 0) σ T D K:=by
  rintro rd ro σ T D K ⟨⟨rfl,rfl,rfl,hA,hn,hv⟩,hk⟩
  unfold FQ at hA
  subst hA
  have hlen:(l.map bk).length=l.length:=List.length_map _
  refine VWx.cellsIn (i:=3) (cs' := [.vec 7 [] .none, .vec 7 [] .none]) rfl ⟨.nil 7, .nil 7,trivial⟩ ?_
  show VWx _ _ none 0 _ σ (fK (fun _=>none) (fun _=>none) [] [] 0 0 (ai []) (ai [])) [] K
  refine bP (n:=75) (keys:=oB) (ad:= []) (vs0:=jC (m.map bk) (l.map bk) 0) (T0:=fK (fun _=>none) (fun _=>none) [] [] 0 0 (ai []) (ai [])) (R:=fun K=>∀s:S6,TbJ (bs l) (bt l) s→K .normal (aG 75 oB (jC (m.map bk) (l.map bk) (l.map bk).length)) (fK s.lk s.lk2 s.es s.es2 s.ck s.ck2 (ai (bs l)) (ai (bt l))) []) (fun K hK=> ?_) none 0 σ _ [] K ⟨⟨rfl,rfl,rfl,trivial,rfl,hn,hv⟩,hk⟩
  refine da (f:=fJ) (id:=0) (by kernel_rfl) 75 oB (fun p:Nat × S6=>l.length-p.1) (fun p=>jC (m.map bk) (l.map bk) p.1) (fun p=>fK p.2.lk p.2.lk2 p.2.es p.2.es2 p.2.ck p.2.ck2 (ai (bs (l.take p.1))) (ai (bt (l.take p.1)))) (fun p=>p.1≤l.length∧TbJ (bs (l.take p.1)) (bt (l.take p.1)) p.2) 4 0 (fun _ _=>⟨Nat.le_refl _,Nat.le_refl _⟩)
    (fun e vs T=>e= .normal∧vs=jC (m.map bk) (l.map bk) (l.map bk).length∧∃s,TbJ (bs l) (bt l) s∧T=fK s.lk s.lk2 s.es s.es2 s.ck s.ck2 (ai (bs l)) (ai (bt l))) (fun p hp=> ?_) (0,⟨fun _=>none,fun _=>none, [], [],0,0⟩) ⟨Nat.zero_le _,TbOk.empty 0,TbOk.empty 0⟩ K ?_
  · obtain ⟨j,s⟩:=p
    obtain ⟨hj,hs⟩:=hp
    simp only at hj hs
    by_cases hlt:j<l.length
    · have hr:=List.getElem?_eq_getElem hlt
      have hm:=List.getElem_mem hlt
      generalize l[j]=t at hr hm
      have ht:l.take (j+1)=l.take j++ [t]:=by rw [List.take_add_one,hr];rfl
      have hW1:bs (l.take (j+1))=ek (bs (l.take j)) t.k t.p.1 t.p.2 t.a:=by rw [ht,mT]
      have hH1:bt (l.take (j+1))=en (bt (l.take j)) t.k t.p.1 t.p.2 t.a t.g:=by rw [ht,mU]
      obtain ⟨_,b1,b2⟩:=mV (l.take j)
      obtain ⟨_,c1,c2⟩:=mV (l.take (j+1))
      have b3:(l.take j).length≤120:=Nat.le_trans (List.length_take_le _ _) (by omega)
      have c3:(l.take (j+1)).length≤120:=Nat.le_trans (List.length_take_le _ _) (by omega)
      rw [hW1] at c1;rw [hH1] at c2
      refine bq ae aa (B3 _ _ _ _ _ _ _ _ _) ah (zC (m.map bk) (l.map bk) (bs (l.take j)) (bt (l.take j)) (ek (bs (l.take j)) t.k t.p.1 t.p.2 t.a) (en (bt (l.take j)) t.k t.p.1 t.p.2 t.a t.g) s.lk s.lk2 s.es s.es2 s.ck s.ck2 t.k t.p.1 t.p.2 t.a t.g j _) ?_
      refine bB (decide_eq_true (by rw [hlen];omega)) ⟨xc 25 27 rfl hr,⟨rfl,⟨s,_,rfl,hs,by omega,by omega⟩,rfl,ha t hm⟩,fun s' hs' =>⟨⟨rfl,⟨s',_,rfl,hs',by omega,by omega⟩,t.p,rfl⟩,rfl,rfl,(j+1,s'),⟨hlt,by rw [hW1,hH1];exact hs'⟩,by show l.length-(j+1)<l.length-j;omega, .inr ⟨?_, ?_⟩⟩⟩
      · show _=fK s'.lk s'.lk2 s'.es s'.es2 s'.ck s'.ck2 (ai (bs (l.take (j+1)))) (ai (bt (l.take (j+1))))
        rw [hW1,hH1]
        exact vJ s' hs' _ _
      · rw [jr hlt (by omega)]
        simp only [jC,av,TV.ren,jB,Tok.ren];rfl
    · obtain rfl:j=l.length:=by omega
      rw [List.take_length] at hs
      refine bq ae aa (B3 _ _ [] [] _ _ _ _ _) ah (zC (m.map bk) (l.map bk) (bs (l.take l.length)) (bt (l.take l.length)) [] [] s.lk s.lk2 s.es s.es2 s.ck s.ck2 0 0 0 dp false l.length _) (bh (decide_eq_false (by rw [hlen];omega)) ?_)
      rw [List.take_length]
      exact ⟨rfl,rfl,rfl,by simp only [jC,hlen],s,hs,rfl⟩
  · rintro e vs T ⟨rfl,rfl,s,hs,rfl⟩
    exact hK s hs
variable {W H:List ak}
theorem Bb {V J:List ak} (s t:S6) (hs:TbJ W H s) (ht:TbJ V J t) (o:List VO) (tl:bA):VT.keep ⟨.map kP s.lk s.es s.ck:: .map kP s.lk2 s.es2 s.ck2:: .cells [.map 0, .map 1]:: .cells [.vec 7 (ai W) .none, .vec 7 (ai H) .none]:: .map kP t.lk t.es t.ck:: .map kP t.lk2 t.es2 t.ck2:: .cells [.map 4, .map 5]:: .cells [.vec 7 (ai V) .none, .vec 7 (ai J) .none]::o,tl⟩ 8 0=kf s.lk s.lk2 t.lk t.lk2 s.es s.es2 t.es t.es2 s.ck s.ck2 t.ck t.ck2 (ai W) (ai H) (ai V) (ai J):=by
 have e1:=hs.1.ren (an 8) (an 0)
 have e2:=hs.2.ren (an 8) (an 0)
 have e3:=ht.1.ren (an 8) (an 0)
 have e4:=ht.2.ren (an 8) (an 0)
 simp only [VT.keep,kf,List.take_succ_cons,List.take_zero,List.map_cons,List.map_nil,e1,e2,e3,e4]
 simp only [VO.ren,av,TV.ren,ai,aS,Tok.ren]
 rfl
theorem FY (hl:l.length≤120) (hml:m.length≤120) (ha:∀t∈m,iu t):∀rd ro σ T D K,Ba 75 mZ (iv (m.map bk) 0) (bs l) (bt l) (bs (l++m)) (bt (l++m)) (iv (m.map bk) (m.map bk).length) rd ro σ T D K→VWx Try.prog ac rd ro (au Try.prog fJ 2) σ T D K:=by
  intro rd ro σ T D K hk
  unfold Ba at hk
  split at hk
  · rename_i sh lk es ck sh2 lk2 es2 ck2 w tk h tk2 o4 o5 o6 o7 hT
    obtain ⟨⟨rfl,rfl,rfl,⟨s,os,e1,hs,l1,l2⟩,⟨t,p0,p1,p2,p3,os',e2,ht,_,_⟩,htl,hn,hv⟩,hk⟩:=hk
    obtain ⟨objs,tl⟩:=T
    simp only at hT e1 e2 htl
    subst htl
    have a1:os= [o4,o5,o6,o7]:=(List.cons.inj (List.cons.inj (List.cons.inj (List.cons.inj (e1.symm.trans hT)).2).2).2).2
    have a2:=(List.cons.inj (List.cons.inj (List.cons.inj (List.cons.inj (e1.symm.trans e2)).2).2).2).2
    have a3: []=os' :=(List.cons.inj (List.cons.inj (List.cons.inj (List.cons.inj (a1.symm.trans a2)).2).2).2).2
    subst a3
    subst a2
    subst e1
    have hlen:(m.map bk).length=m.length:=List.length_map _
    refine bP (n:=75) (keys:=mZ) (ad:= []) (vs0:=iv (m.map bk) 0) (T0:=kf s.lk s.lk2 t.lk t.lk2 s.es s.es2 t.es t.es2 s.ck s.ck2 t.ck t.ck2 (ai (bs l)) (ai (bt l)) (ai (bs l)) (ai (bt l))) (R:=fun K=>∀s:S6,TbJ (bs l) (bt l) s→∀t:S6,TbJ (bs (l++m)) (bt (l++m)) t→K .normal (aG 75 mZ (iv (m.map bk) (m.map bk).length)) (kf s.lk s.lk2 t.lk t.lk2 s.es s.es2 t.es t.es2 s.ck s.ck2 t.ck t.ck2 (ai (bs l)) (ai (bt l)) (ai (bs (l++m))) (ai (bt (l++m)))) []) (fun K hK=> ?_) none 0 σ _ [] K ⟨⟨rfl,rfl,rfl,trivial,rfl,hn,hv⟩,hk⟩
    have z0:bs (l++m.take 0)=bs l:=by
      show bs (l++ [])=_
      rw [List.append_nil]
    have z1:bt (l++m.take 0)=bt l:=by
      show bt (l++ [])=_
      rw [List.append_nil]
    refine (show VWx Try.prog ac none 0 (au Try.prog fJ 2) (aG 75 mZ (iv (m.map bk) 0)) (kf s.lk s.lk2 t.lk t.lk2 s.es s.es2 t.es t.es2 s.ck s.ck2 t.ck t.ck2 (ai (bs l)) (ai (bt l)) (ai (bs (l++m.take 0))) (ai (bt (l++m.take 0)))) [] K→_ from fun h=>by rw [z0,z1] at h;exact h) ?_
    refine da (f:=fJ) (id:=2) (by kernel_rfl) 75 mZ (fun p:Nat × S6=>m.length-p.1) (fun p=>iv (m.map bk) p.1) (fun p=>kf s.lk s.lk2 p.2.lk p.2.lk2 s.es s.es2 p.2.es p.2.es2 s.ck s.ck2 p.2.ck p.2.ck2 (ai (bs l)) (ai (bt l)) (ai (bs (l++m.take p.1))) (ai (bt (l++m.take p.1)))) (fun p=>p.1≤m.length∧TbJ (bs (l++m.take p.1)) (bt (l++m.take p.1)) p.2) 8 0 (fun _ _=>⟨Nat.le_refl _,Nat.le_refl _⟩)
      (fun e vs T=>e= .normal∧vs=iv (m.map bk) (m.map bk).length∧∃t,TbJ (bs (l++m)) (bt (l++m)) t∧T=kf s.lk s.lk2 t.lk t.lk2 s.es s.es2 t.es t.es2 s.ck s.ck2 t.ck t.ck2 (ai (bs l)) (ai (bt l)) (ai (bs (l++m))) (ai (bt (l++m)))) (fun p hp=> ?_) (0,t) ?_ K ?_
    · obtain ⟨j,t⟩:=p
      obtain ⟨hj,ht⟩:=hp
      simp only at hj ht
      by_cases hlt:j<m.length
      · have hr:=List.getElem?_eq_getElem hlt
        have hm:=List.getElem_mem hlt
        generalize m[j]=x at hr hm
        have hx:l++m.take (j+1)=(l++m.take j)++ [x]:=by rw [List.take_add_one,hr,List.append_assoc];rfl
        have hW1:bs (l++m.take (j+1))=ek (bs (l++m.take j)) x.k x.p.1 x.p.2 x.a:=by rw [hx,mT]
        have hH1:bt (l++m.take (j+1))=en (bt (l++m.take j)) x.k x.p.1 x.p.2 x.a x.g:=by rw [hx,mU]
        obtain ⟨_,b1,b2⟩:=mV (l++m.take j)
        have b3:(l++m.take j).length≤240:=by
          rw [List.length_append]
          have:=List.length_take_le j m
          omega
        refine bq ae aa (B4 _ _ _ _ _ _ _) ah (zD (m.map bk) (bs l) (bt l) (bs (l++m.take j)) (bt (l++m.take j)) s.lk s.lk2 t.lk t.lk2 s.es s.es2 t.es t.es2 s.ck s.ck2 t.ck t.ck2 x.k x.p.1 x.p.2 x.a x.g j _) ?_
        refine bB (decide_eq_true (by rw [hlen];omega)) ⟨xc 50 52 rfl hr,⟨rfl,⟨t,_,_,_,_,_,rfl,ht,by omega,by omega⟩,rfl,ha x hm⟩,fun t' ht' =>⟨rfl,rfl,(j+1,t'),⟨hlt,by rw [hW1,hH1];exact ht'⟩,by show m.length-(j+1)<m.length-j;omega, .inr ⟨?_, ?_⟩⟩⟩
        · show _=kf s.lk s.lk2 t'.lk t'.lk2 s.es s.es2 t'.es t'.es2 s.ck s.ck2 t'.ck t'.ck2 (ai (bs l)) (ai (bt l)) (ai (bs (l++m.take (j+1)))) (ai (bt (l++m.take (j+1))))
          rw [hW1,hH1]
          exact Bb s t' hs ht' _ _
        · rw [jr hlt (by omega)]
          simp only [iv,av,TV.ren,jB,Tok.ren];rfl
      · obtain rfl:j=m.length:=by omega
        rw [List.take_length] at ht
        refine bq ae aa (B4 _ _ _ _ _ _ _) ah (zD (m.map bk) (bs l) (bt l) (bs (l++m.take m.length)) (bt (l++m.take m.length)) s.lk s.lk2 t.lk t.lk2 s.es s.es2 t.es t.es2 s.ck s.ck2 t.ck t.ck2 0 0 0 dp false m.length _) (bh (decide_eq_false (by rw [hlen];omega)) ?_)
        rw [List.take_length]
        exact ⟨rfl,rfl,rfl,by simp only [iv,hlen],t,ht,rfl⟩
    · refine ⟨Nat.zero_le _, ?_⟩
      show TbJ (bs (l++ [])) (bt (l++ [])) t
      rw [List.append_nil];exact ht
    · rintro e vs T ⟨rfl,rfl,t,ht,rfl⟩
      exact hK s hs t ht
  · exact hk.elim
theorem Dl (hl:l.length≤120) (hml:m.length≤120) (ha:∀t∈l,iu t) (hb:∀t∈m,iu t):cK Try.prog ac (FS (l.map bk) (m.map bk) (bs l) (bt l) (bs (l++m)) (bt (l++m)) (au Try.prog fJ 0) (au Try.prog fJ 2)):=bz fun q hq=>by
 rcases List.mem_cons.1 hq with rfl | hq;exact FX hl ha
 obtain rfl:=List.mem_singleton.1 hq;exact FY hl hml hb
theorem FZ (ha:∀t∈l,iu t) (hb:∀t∈m,iu t) (hll:l.length≤9223372036854775807) (hmm:m.length≤9223372036854775807):VCx Try.prog ac 0 fJ [.vec 9 (l.map bk) .none, .vec 9 (m.map bk) .none] ⟨[], []⟩ eb:=by
  by_cases hl:l.length≤120∧m.length≤120
  · obtain ⟨hl,hml⟩:=hl
    obtain ⟨_,b1,b2⟩:=mV l
    obtain ⟨_,c1,c2⟩:=mV (l++m)
    rw [List.length_append] at c1 c2
    refine am ae aa (HH _ _ _ _) (Dl hl hml ha hb) (G5 (l.map bk) (m.map bk) (bs l) (bt l) (bs (l++m)) (bt (l++m)) _) ?_
    exact ⟨⟨l,rfl,hll⟩,fun b _=>aA (fun _=>zp _) (fun _=>⟨⟨m,rfl,hmm⟩,fun b2 _=>aA (fun _=>zp _) (fun _=>⟨rfl,⟨rfl,rfl,rfl,rfl,rfl,rfl⟩,fun s hs=>⟨⟨rfl,bs l,bt l,rfl,rfl,by omega,by omega⟩,rfl,⟨rfl,rfl,rfl,⟨s,_,rfl,hs,by omega,by omega⟩,⟨s,_,_,_,_,_,rfl,hs,by omega,by omega⟩,rfl,rfl,rfl⟩,fun s2 hs2 t ht=>⟨⟨rfl,⟨s2,_,rfl,hs2,by omega,by omega⟩,(0,0),rfl⟩,⟨rfl,⟨t,_,_,_,_,_,rfl,ht,by omega,by omega⟩,(0,0),rfl⟩,zp _⟩⟩⟩)⟩)⟩
  · refine am ae aa GW (bz fun q hq=>by obtain rfl:=List.mem_singleton.1 hq;exact fun _ _ _ _ _ _ h=>h.elim) (FT (l.map bk) (m.map bk) _) ⟨⟨l,rfl,hll⟩,fun b hb1=>aA (fun _=>zp _) (fun h=>⟨⟨m,rfl,hmm⟩,fun b2 hb2=>aA (fun _=>zp _) (fun h2=> ?_)⟩)⟩
    have k1:=hb1 (by cases b;cases h;rfl)
    have k2:=hb2 (by cases b2;cases h2;rfl)
    rw [List.length_map] at k1 k2
    exact absurd ⟨k1,k2⟩ hl
end
theorem uK (l m:List dI) (ha:∀t∈l,iu t) (hl:l.length≤9223372036854775807) (hb:∀t∈m,iu t) (hm:m.length≤9223372036854775807) (v u:Value) (w:World) (hv:VR (j8 w) w (.vec 9 (l.map bk) .none) v) (hu:VR (j8 w) w (.vec 9 (m.map bk) .none) u):Calls Try.prog 4 #[v,u] w fun e w' =>e= .returned (.bool true)∧Gr w w' :=
 VCx.top (us:= [v,u]) (FZ ha hb hl hm) w (VRs.cons hv (VRs.cons hu (VRs.nil _ _)))
end
section
open Go.ChangeShapes Go.WideShapes Go.ChangeAt Go.RowKit Go.Joins

theorem Dm:ownKnob Try.prog.godebug=none:=by kernel_rfl
theorem up:laidOutB Try.prog=true:=by kernel_rfl

end
section
open Go.ChangeShapes Go.WideShapes Go.ChangeAt Go.RowKit

theorem qA (os:Os) (started:os.Started) (H:Type) (enc:TypeId × Value→H):
    ReturnsInHanded {} Try.checked os 4 .any (Rows.ribActsSpec.pre6 enc Try.prog Try.f4 Rows.ribActsRow.domain false) (Rows.ribActsSpec.post enc Try.prog Try.f4 false true false false):=by
  refine returnsInHanded_of_change (C:=Try.checked) Dm started (by kernel_rfl) Try.func4
    (ChangeSpec.witness6 (enc:=enc) (C:=Try.checked) false ⟨#[], #[.slice none 0 0, .slice none 0 0], []⟩ 8 (by kernel_rfl) (by kernel_rfl) (by kernel_rfl) (by kernel_rfl)) ?_
  intro W base args ds gs before hval0 hW hcnd _
  have hval:∀(j:Nat) t v,Try.f4.params[j]?=some t→args[j]?=some v→Value.okWide Try.prog W .any base t v:=hval0
  have hW' :=hW
  obtain ⟨p,q,hA0,hV,rfl,hfz,hnd⟩:=hW
  have hA:DataW.TrodAll enc Try.prog W 0 (fun _=>true) true Try.f4.params.toList args.toList ds p:=hA0
  rw [Try.params4] at hA hval
  obtain ⟨v0,vs0,d0,ds0,p0,q0,hargs,rfl,rfl,h0,r0⟩:=trodAll_cons hA
  obtain ⟨v1,vs1,d1,ds1,p1,q1,rfl,rfl,rfl,h1,r1⟩:=trodAll_cons r0
  obtain ⟨rfl,rfl,rfl⟩:=trodAll_nil r1
  obtain rfl:args= #[v0,v1]:=by cases args;simp_all
  obtain ⟨rfl,rfl⟩:=trodVars_none hV
  have lt0:∀x∈p0,x.block<W.heap.size:=by obtain ⟨m,hm⟩:=h0;exact DataW.trod_lt m _ _ _ hm
  have lt1:∀x∈p1,x.block<W.heap.size:=by obtain ⟨m,hm⟩:=h1;exact DataW.trod_lt m _ _ _ hm
  obtain ⟨l0,l0vr,l0a,l0b⟩:=nS (hval 0 22 v0 rfl rfl) h0
  obtain ⟨l1,l1vr,l1a,l1b⟩:=nS (hval 1 22 v1 rfl rfl) h1
  clear hA0 hval0
  refine (uK l0 l1 l0a l0b l1a l1b _ _ W l0vr l1vr).mono fun e W' ⟨he,bel⟩=> ?_
  subst he
  exact ⟨_,rfl,_,_,_, [],_, [],hW',trodAll_mk1 (shut_bool Try.underlying4 _),(trodAll_cons_mk (Below.trod up (by kernel_rfl) (of_decide_eq_true (by kernel_rfl)) h0 bel lt0) (trodAll_cons_mk (Below.trod up (by kernel_rfl) (of_decide_eq_true (by kernel_rfl)) h1 bel lt1) trodAll_mk0)),rfl,Below.frame bel _,fun h=>by cases h⟩

theorem ribActs_holds:Rows.RibActsSaid:=
  OpenClaim.holds_of_wide 4 Try.f4 rfl rfl rfl rfl rfl rfl rfl ⟨rfl,rfl,rfl,rfl,rfl⟩ rfl rfl rfl rfl rfl (by kernel_rfl) Try.func4 (by kernel_rfl)
    (of_decide_eq_true (by kernel_rfl)) (by unfold Func.isWrapper;first | (rw [if_pos (by decide+kernel)];kernel_rfl) | (rw [if_neg (by decide+kernel)];exact ⟨rfl,rfl⟩))
    (fun os started H enc _=>qA os started H enc)
#print axioms ribActs_holds
end

end Go.Proofs.Ytnfplefcghadfaa