/-Part 7 of the proof of frameBackUptoCard_holds:MsFu,MsFv,MsFw ... No condition. -/
import Derived.Test.YtogbdjlelkepcaaGreatDoorFb1
import Derived.Test.YtogbdjlelkepcaaGreatDoorFb2
import Derived.Test.YtogbdjlelkepcaaGreatDoorFb3
import Derived.Test.YtogbdjlelkepcaaGreatDoorFb4
import Derived.Test.YtogbdjlelkepcaaGreatDoorFb5
import Derived.Test.YtogbdjlelkepcaaGreatDoorFb6
set_option maxRecDepth 100000
namespace Go.Proofs.YtogbdjlelkepcaaGreatDoor
open Go.RowKit
open Go.BinOp (eql neq)
open _root_.Bool (and_eq_true not_not)
open _root_.Function (comp_def)
open _root_.Int (eq_ofNat_of_zero_le ofNat tdiv toNat_natCast)
open Go.IntKind (i64 signed u32 u64 u8 wrap)
open _root_.List (all_eq_true all_nil append_nil ext_getElem? flatMap_cons getElem?_eq_getElem getElem?_eq_none getElem?_map getElem_mem length length_append length_cons length_map length_nil length_take map_append map_cons map_id map_map map_nil mem_append mem_cons mem_cons_of_mem mem_cons_self mem_map mem_of_mem_take mem_singleton nodup_nil take_add_one take_length take_of_length_le take_zero toArray)
open _root_.Nat (beq ble le_refl mul_le_mul not_lt_zero zero_add zero_le zero_mul)
open _root_.Option (toList_some)
open Go.Proofs.Tryz (prog underlying22 underlying58)
open Go.World (cell?)
def I5:aW:=λ_ ys T K=>match ys with
 |[.agg l,.agg l']=>Wg l l'∧K (.val (.bool true)) T
 |_=>aJ 83 default ys
abbrev uP:=12
abbrev ny:=13
def EB:List Nat:= [0,1,12,13]
def Ax (l:Bs)(j:Int):List TV:= [.vec 15 l .none,.vec 15 l .none,.val (.int .i64 l.length),.val (.int .i64 j)]
def WL (l:Bs)(c0:Code):Nat→Option (bN × Code):=ct [(0,dE 27 EB [] (Ax l 0) ⟨[],[]⟩ (λK=>K .normal (aQ 27 EB (Ax l l.length)) ⟨[],[]⟩ []),c0)]
def xA:List Nat:= [3,9,10,11]
def qP (l A:Bs)(n:Nat)(j:Int):List TV:= [.vec 15 A (.tail 0 n),.vec 15 l .none,.val (.int .i64 l.length),.val (.int .i64 j)]
def WM (l A:Bs)(c0:Code):Nat→Option (bN × Code):=ct [(0,dE 65 xA [(3,15)] (qP l [] 0 0) ⟨[],[(0,15,true)]⟩ (λK=>K .normal (aQ 65 xA (qP l A l.length l.length)) ⟨[],[(l.length,15,true)]⟩ []),c0)]
def Ay:List Nat:= [3,5,6,9,10,11,33,34,35]
def xB (l A:Bs)(n:Nat)(j:Int)(c:Bs)(i:Int):List TV:= [.vec 15 A (.tail 0 n),.ptr 0 0,.ptr 1 0,.vec 15 l .none,.val (.int .i64 l.length),.val (.int .i64 j),.vec 2 c .none,.val (.int .i64 c.length),.val (.int .i64 i)]
def WN (m:MsgS)(l A:Bs)(n:Nat)(j:Int)(ln:Bool)(K:KX):Prop:=bif ln then K .normal (aQ 65 Ay (xB l A n j m.op.l m.op.l.length)) ⟨[.cells m.cells,zn m uO],[(n,15,true)]⟩ [] else K .normal (aQ 65 Ay (xB l A n j m.op.l m.op.l.length)) ⟨[.cells m.cells,zn m (.vec 2 m.op.l (.tail 1 m.op.l.length))],[(n,15,true),(m.op.l.length,2,true)]⟩ []
def WO (m:MsgS)(l A:Bs)(n:Nat)(j:Int)(ln:Bool)(c0:Code):Nat→Option (bN × Code):=ct [(2,dE 65 Ay [] (xB l A n j m.op.l 0) ⟨[.cells m.cells,zn m uO],[(n,15,true)]⟩ (WN m l A n j ln),c0)]
theorem Zy (l:Bs)(Q:TV→VT→Prop):ar prog ae bt aT 300 (WL l (aD prog uP 0)) 0 uP [.vec 15 l .none,.vec 15 l .none] am Q=
 (bif ax neq (k6 (↑(length l):Int) (↑(length l):Int))
 then Q aj am
 else ((aD prog uP (0:Nat)=aD prog uP (0:Nat))∧
 (((@Eq (Option Nat) .none .none)∧
 ((@Eq (Nat) 0 0)∧
 ((@Eq (List Nat) [] [])∧
 (True  ∧
 ((@Eq (VT) am am)∧
 ((@Eq (Bool) true true)∧
 (@Eq (List TV) [(dW l),(dW l),(ah (↑(length l):Int)),aB] [(dW l),(dW l),(ah (↑(length l):Int)),aB])))))))∧
 Q aI am))):=by kernel_rfl
abbrev Qi (m:MsgS):TV:=(NJ (MsgS.k m) (OpS.n (MsgS.op m)) (OpS.h (MsgS.op m)) (OpS.i (MsgS.op m)) (OpS.l (MsgS.op m)) (UpS.w (MsgS.u m)) (UpS.o (MsgS.u m)) (UpS.x (MsgS.u m)) (UpS.h (MsgS.u m)) (UpS.m (MsgS.u m)) (UpS.hm (MsgS.u m)) (UpS.n (MsgS.u m)) (MsgS.c m) (MsgS.s m) (MsgS.d m))
abbrev Qj (m:MsgS):List TV:=(pg (MsgS.k m) (OpS.n (MsgS.op m)) (OpS.h (MsgS.op m)) (OpS.i (MsgS.op m)) (OpS.l (MsgS.op m)) (UpS.w (MsgS.u m)) (UpS.o (MsgS.u m)) (UpS.x (MsgS.u m)) (UpS.h (MsgS.u m)) (UpS.m (MsgS.u m)) (UpS.hm (MsgS.u m)) (UpS.n (MsgS.u m)) (MsgS.c m) (MsgS.s m) (MsgS.d m))
theorem LK (l:Bs)(j:Int)(m:MsgS)(Q:Exit→List TV→VT→List Nat→Nat→Prop):vx prog ae (aF [(Ew,I5)]) (aZ [(18,.elt m.cells,none),(22,.elt m.cells,none)]) 300 aN none 0 (cq prog uP 0) (aQ 27 EB (Ax l j)) am [] (cN EB Q)=
 (bif decide (j<(↑(length l):Int))
 then (bc prog (λ_=>.none) (.indexAddr 36 (.tmp 16) (.tmp 17)) [(16,(dW l)),(17,(ah j))] (Qi m)∧
 (bc prog (λ_=>.none) (.indexAddr 36 (.tmp 20) (.tmp 21)) [(20,(dW l)),(21,(ah j))] (Qi m)∧
 (Wg (Qj m) (Qj m)∧
 Q .normal [(dW l),(dW l),(ah (↑(length l):Int)),(ah (wrap i64 (j+(1:Int))))] am [] 27)))
 else Q (.exit 0) [(dW l),(dW l),(ah (↑(length l):Int)),(ah j)] am [] 27):=by kernel_rfl
theorem Zz (l A:Bs)(Q:TV→VT→Prop):ar prog ae bt aT 300 (WM l A (aD prog ny 0)) 0 ny [.vec 15 l .none] am Q=
 ((aD prog ny (0:Nat)=aD prog ny (0:Nat))∧
 (((@Eq (Option Nat) .none .none)∧
 ((@Eq (Nat) 0 0)∧
 ((@Eq (List Nat) [] [])∧
 (((@Eq (Option TV) (.some aE) (.some aE))∧
 True)∧
 ((@Eq (VT) ⟨[],[(0,(15,true))]⟩ ⟨[],[(0,(15,true))]⟩)∧
 ((@Eq (Bool) true true)∧
 (@Eq (List TV) [(.vec 15 [] (.tail 0 0)),(dW l),(ah (↑(length l):Int)),aB] [(.vec 15 [] (.tail 0 0)),(dW l),(ah (↑(length l):Int)),aB])))))))∧
 Q (nF A (length l)) ⟨[],[((length l),(15,true))]⟩)):=by kernel_rfl
abbrev ox (l:Bs):TV:=(ah (↑(length l):Int))
theorem EC (m:MsgS)(l A A2:Bs)(n n2:Nat)(j:Int)(ln:Bool)(tl2:iJ)(Q:Exit→List TV→Nat→iJ→List Nat→Nat→Prop):vx prog ae bt (aZ [(999998,.dead,none),(13,.elt m.cells,none),(62,.vec 15 A2 (.tail 0 n2),some λT=>{T with tails:=tl2})]) 300 (WO m l A n j ln (aD prog ny 2)) none 0 (cq prog ny 0) (aQ 65 xA (qP l A n j)) ⟨[],[(n,15,true)]⟩ [] (cN xA λe vs T D m=>Q e vs T.objs.length T.tails D m)=
 (bif decide (j<(↑(length l):Int))
 then (bc prog (λ_=>.none) (.indexAddr 25 (.tmp 9) (.tmp 11)) [(9,(dW l)),(11,(ah j))] (NJ (MsgS.k m) (OpS.n (MsgS.op m)) (OpS.h (MsgS.op m)) (OpS.i (MsgS.op m)) (OpS.l (MsgS.op m)) (UpS.w (MsgS.u m)) (UpS.o (MsgS.u m)) (UpS.x (MsgS.u m)) (UpS.h (MsgS.u m)) (UpS.m (MsgS.u m)) (UpS.hm (MsgS.u m)) (UpS.n (MsgS.u m)) (MsgS.c m) (MsgS.s m) (MsgS.d m))∧
 ((aD prog ny (2:Nat)=aD prog ny (2:Nat))∧
 (((@Eq (Option Nat) .none .none)∧
 ((@Eq (Nat) 0 0)∧
 ((@Eq (List Nat) [] [])∧
 (True  ∧
 ((@Eq (VT) ⟨[(jh m),(.cells [(ah (MsgS.k m)),(ah (OpS.n (MsgS.op m))),(ah (OpS.h (MsgS.op m))),(cd (OpS.i (MsgS.op m))),aE,aE,aB,aE,bD,aB,aj,aE,(ah (MsgS.c m)),(ah (MsgS.s m)),(av (MsgS.d m))])],[((n),(15,true))]⟩ ⟨[(jh m),(.cells [(ah (MsgS.k m)),(ah (OpS.n (MsgS.op m))),(ah (OpS.h (MsgS.op m))),(cd (OpS.i (MsgS.op m))),aE,aE,aB,aE,bD,aB,aj,aE,(ah (MsgS.c m)),(ah (MsgS.s m)),(av (MsgS.d m))])],[((n),(15,true))]⟩)∧
 ((@Eq (Bool) true true)∧
 (@Eq (List TV) [(nF A n),dL,iy,(dW l),(ox l),(ah j),(aY (OpS.l (MsgS.op m))),(ah (↑(length (OpS.l (MsgS.op m))):Int)),aB] [(nF A n),dL,iy,(dW l),(ox l),(ah j),(aY (OpS.l (MsgS.op m))),(ah (↑(length (OpS.l (MsgS.op m))):Int)),aB])))))))∧
 (bif ln
 then (bb prog (λ_=>.none) 0 ⟨[(jh m),(.cells [(ah (MsgS.k m)),(ah (OpS.n (MsgS.op m))),(ah (OpS.h (MsgS.op m))),(cd (OpS.i (MsgS.op m))),aE,(aY (UpS.w (MsgS.u m))),(ah (UpS.o (MsgS.u m))),(av (UpS.x (MsgS.u m))),(cd (UpS.h (MsgS.u m))),(ah (UpS.m (MsgS.u m))),(cS (UpS.hm (MsgS.u m))),(aY (UpS.n (MsgS.u m))),(ah (MsgS.c m)),(ah (MsgS.s m)),(av (MsgS.d m))])],[((n),(15,true))]⟩ (.call ⟨(.builtin .append),#[(.tmp 59),(.tmp 61)],#[36,36]⟩) [(59,(nF A n)),(61,(.vec 15 [[(.val (.int .i64 (MsgS.k m))),(.val (.int .i64 (OpS.n (MsgS.op m)))),(.val (.int .i64 (OpS.h (MsgS.op m)))),(.val (.int .u32 (OpS.i (MsgS.op m)))),(.val (.slice .none 0 0)),(.vec 2 (UpS.w (MsgS.u m)) .none),(.val (.int .i64 (UpS.o (MsgS.u m)))),(.vec 1 (UpS.x (MsgS.u m)) .none),(.val (.int .u32 (UpS.h (MsgS.u m)))),(.val (.int .i64 (UpS.m (MsgS.u m)))),(.val (.bool (UpS.hm (MsgS.u m)))),(.vec 2 (UpS.n (MsgS.u m)) .none),(.val (.int .i64 (MsgS.c m))),(.val (.int .i64 (MsgS.s m))),(.vec 1 (MsgS.d m) .none)]] .full))] (nF A2 n2) ⟨[(jh m),(.cells [(ah (MsgS.k m)),(ah (OpS.n (MsgS.op m))),(ah (OpS.h (MsgS.op m))),(cd (OpS.i (MsgS.op m))),aE,(aY (UpS.w (MsgS.u m))),(ah (UpS.o (MsgS.u m))),(av (UpS.x (MsgS.u m))),(cd (UpS.h (MsgS.u m))),(ah (UpS.m (MsgS.u m))),(cS (UpS.hm (MsgS.u m))),(aY (UpS.n (MsgS.u m))),(ah (MsgS.c m)),(ah (MsgS.s m)),(av (MsgS.d m))])],tl2⟩∧
 Q .normal [(nF A2 n2),(dW l),(ox l),(ah (wrap i64 (j+(1:Int))))] 2 (tl2) [] 65)
 else (bb prog (λ_=>.none) 0 ⟨[(jh m),(.cells [(ah (MsgS.k m)),(ah (OpS.n (MsgS.op m))),(ah (OpS.h (MsgS.op m))),(cd (OpS.i (MsgS.op m))),(.vec 2 (OpS.l (MsgS.op m)) (.tail 1 (length (OpS.l (MsgS.op m))))),(aY (UpS.w (MsgS.u m))),(ah (UpS.o (MsgS.u m))),(av (UpS.x (MsgS.u m))),(cd (UpS.h (MsgS.u m))),(ah (UpS.m (MsgS.u m))),(cS (UpS.hm (MsgS.u m))),(aY (UpS.n (MsgS.u m))),(ah (MsgS.c m)),(ah (MsgS.s m)),(av (MsgS.d m))])],[((n),(15,true)),((length (OpS.l (MsgS.op m))),(2,true))]⟩ (.call ⟨(.builtin .append),#[(.tmp 59),(.tmp 61)],#[36,36]⟩) [(59,(nF A n)),(61,(.vec 15 [[(.val (.int .i64 (MsgS.k m))),(.val (.int .i64 (OpS.n (MsgS.op m)))),(.val (.int .i64 (OpS.h (MsgS.op m)))),(.val (.int .u32 (OpS.i (MsgS.op m)))),(.vec 2 (OpS.l (MsgS.op m)) (.tail 1 (length (OpS.l (MsgS.op m))))),(.vec 2 (UpS.w (MsgS.u m)) .none),(.val (.int .i64 (UpS.o (MsgS.u m)))),(.vec 1 (UpS.x (MsgS.u m)) .none),(.val (.int .u32 (UpS.h (MsgS.u m)))),(.val (.int .i64 (UpS.m (MsgS.u m)))),(.val (.bool (UpS.hm (MsgS.u m)))),(.vec 2 (UpS.n (MsgS.u m)) .none),(.val (.int .i64 (MsgS.c m))),(.val (.int .i64 (MsgS.s m))),(.vec 1 (MsgS.d m) .none)]] .full))] (nF A2 n2) ⟨[(jh m),(.cells [(ah (MsgS.k m)),(ah (OpS.n (MsgS.op m))),(ah (OpS.h (MsgS.op m))),(cd (OpS.i (MsgS.op m))),(.vec 2 (OpS.l (MsgS.op m)) (.tail 1 (length (OpS.l (MsgS.op m))))),(aY (UpS.w (MsgS.u m))),(ah (UpS.o (MsgS.u m))),(av (UpS.x (MsgS.u m))),(cd (UpS.h (MsgS.u m))),(ah (UpS.m (MsgS.u m))),(cS (UpS.hm (MsgS.u m))),(aY (UpS.n (MsgS.u m))),(ah (MsgS.c m)),(ah (MsgS.s m)),(av (MsgS.d m))])],tl2⟩∧
 Q .normal [(nF A2 n2),(dW l),(ox l),(ah (wrap i64 (j+(1:Int))))] 2 (tl2) [] 65)))))
 else Q (.exit 0) [(nF A n),(dW l),(ox l),(ah j)] 0 [((n),(15,true))] [] 65):=by kernel_rfl
abbrev I6 (m:MsgS)(x:TV):VO:=(aaV (MsgS.k m) (OpS.n (MsgS.op m)) (OpS.h (MsgS.op m)) (OpS.i (MsgS.op m)) x (MsgS.c m) (MsgS.s m) (MsgS.d m))
theorem LL (m:MsgS)(l A l2:Bs)(n kk nn:Nat)(j i e:Int)(v:Bs)(x:TV)(tl tl2:iJ)(Q:Exit→List TV→VT→List Nat→Nat→Prop):vx prog ae bt (aZ [(37,.elt [.val (.int .i64 e),.vec 1 v .none],none),(44,.vec 2 l2 (.tail kk nn),some λT=>{T with tails:=tl2})]) 300 aN none 0 (cq prog ny 2) (aQ 65 Ay (xB l A n j m.op.l i)) ⟨[.cells m.cells,zn m x],tl⟩ [] (cN Ay Q)=
 (bif decide (i<(↑(length (OpS.l (MsgS.op m))):Int))
 then (bc prog (λ_=>.none) (.indexAddr 55 (.tmp 33) (.tmp 35)) [(33,(aY (OpS.l (MsgS.op m)))),(35,(ah i))] (sA e v)∧
 (bb prog (λ_=>.none) 0 ⟨[(jh m),(I6 m x),(nD e v)],tl⟩ (.call ⟨(.builtin .append),#[(.tmp 41),(.tmp 43)],#[68,68]⟩) [(41,(x)),(43,(.vec 2 [[(.val (.int .i64 (e))),(.vec 1 (v) .none)]] .full))] (.vec 2 l2 (.tail kk nn)) ⟨[(jh m),(I6 m x),(nD e v)],tl2⟩∧
 Q .normal [(nF A n),dL,iy,(dW l),(ah (↑(length l):Int)),(ah j),(aY (OpS.l (MsgS.op m))),(ah (↑(length (OpS.l (MsgS.op m))):Int)),(ah (wrap i64 (i+(1:Int))))] ⟨[(jh m),(.cells [(ah (MsgS.k m)),(ah (OpS.n (MsgS.op m))),(ah (OpS.h (MsgS.op m))),(cd (OpS.i (MsgS.op m))),(.vec 2 l2 (.tail kk nn)),aE,aB,aE,bD,aB,aj,aE,(ah (MsgS.c m)),(ah (MsgS.s m)),(av (MsgS.d m))]),(nD e v)],tl2⟩ [] 65))
 else Q (.exit 2) [(nF A n),dL,iy,(dW l),(ah (↑(length l):Int)),(ah j),(aY (OpS.l (MsgS.op m))),(ah (↑(length (OpS.l (MsgS.op m))):Int)),(ah i)] ⟨[(jh m),(I6 m x)],tl⟩ [] 65):=by kernel_rfl
theorem Tf {G:aV}(hG:dt G):∀ro ys T K,I5 ro ys T K→VCx prog G ro Ew ys T K:=by
 intro ro ys T K hw
 unfold I5 at hw
 split at hw
 ·obtain ⟨⟨rfl,m,hm,rfl⟩,hk⟩:=hw
  have hr:∀f g,(TV.agg m.cells).ren f g=.agg m.cells:=λf g=>by simp only [TV.ren,hm.ren f g]
  exact VCx.liftPure hG (VCx.anyG (Te hm)) (by simp only [ap,hr]) (λ_ _=>rfl) hk
 ·exact hw.elim
theorem ED:∃(inf:TypeInfo) (z:Value),prog.info? 75=some inf∧inf.size=15∧inf.bytes+1≤1000∧inf.zero=some z∧z.cells.size=15:=
 ⟨(prog.info? 75).getD default,((prog.info? 75).getD default).zero.getD default,by kernel_rfl,by kernel_rfl,Nat.le_of_ble_eq_true (by kernel_rfl),by kernel_rfl,by kernel_rfl⟩
theorem EE {x i:Operand}{l:List (Nat × TV)}{es:Bs}{tok:Tok}{k:IntKind}{z:Int}{cs:List TV}(hx:aP ae l x=.vec 15 es tok)(hz:aP ae l i=.val (.int k z))(h0:0≤z)(he:es[z.toNat]?=some cs):bc prog ae (.indexAddr 36 x i) l (.elt cs):=by
 obtain ⟨inf,_,i1,i2,_,_,_⟩:=ED
 exact dy (inf:=inf) Tryz.underlying36 i1 (by rw [i2];exact hx) hz h0 he
theorem EF {x i:Operand}{l:List (Nat × TV)}{es:Bs}{tok:Tok}{k:IntKind}{z:Int}{cs:List TV}(hx:aP ae l x=.vec 15 es tok)(hz:aP ae l i=.val (.int k z))(h0:0≤z)(he:es[z.toNat]?=some cs):bc prog ae (.indexAddr 25 x i) l (.elt cs):=by
 obtain ⟨inf,_,i1,i2,_,_,_⟩:=sR
 exact dy (inf:=inf) Tryz.underlying25 i1 (by rw [i2];exact hx) hz h0 he
section
variable {L:List MsgS}
theorem Tg (hL:kR L)(hn:L.length≤64000000):dd prog ae (WL (L.map MsgS.cells) (aD prog uP 0)):=bA λp hp=>by
 obtain rfl:=mem_singleton.1 hp
 have hS:bf prog ae (aF [(Ew,I5)]):=aL λp hp=>by
  obtain rfl:=mem_singleton.1 hp;exact Tf au
 refine b9 λK hK=>rB (f:=uP) (id:=0) (by kernel_rfl) 27 EB (Ax (L.map MsgS.cells)) ⟨[],[]⟩ L.length (λe vs T=>e=.normal∧vs=Ax (L.map MsgS.cells) (L.map MsgS.cells).length∧T=⟨[],[]⟩) (λj hj=> ?_) K (λe vs T ⟨h1,h2,h3⟩=>by subst h1 h2 h3;exact hK)
 by_cases hlt:j<L.length
 ·have hat:(L.map MsgS.cells)[((j:Nat):Int).toNat]?=some L[j].cells:=by rw [toNat_natCast,getElem?_map,getElem?_eq_getElem hlt];rfl
  have hm:=hL _ (getElem_mem hlt)
  refine bF ac aa hS ai (LK (L.map MsgS.cells) j L[j] _) ?_
  refine aS (decide_eq_true (by rw [length_map];omega)) ⟨EE rfl rfl (by omega) hat,EE rfl rfl (by omega) hat,⟨rfl,_,hm,rfl⟩,?_⟩
  exact ⟨rfl,rfl,hlt,.inl ⟨rfl,by rw [gO hlt hn];rfl⟩⟩
 ·have hj2:j=L.length:=by omega
  refine bF ac aa hS ai (LK (L.map MsgS.cells) j m0 _) ?_
  exact aO (decide_eq_false (by rw [length_map];omega)) ⟨rfl,rfl,rfl,by rw [hj2];simp only [Ax,length_map],rfl⟩
theorem WP (hL:kR L)(hn:L.length≤64000000):VCx prog ae 0 uP [.vec 15 (L.map MsgS.cells) .none,.vec 15 (L.map MsgS.cells) .none] ⟨[],[]⟩ λx T'=>x=.val (.bool true)∧T'=⟨[],[]⟩:=
 VCx.keepQ 0 0 (le_refl _) (le_refl _) (ak ac aa an (Tg hL hn) (Zy _ _) (aO (iM _ _) ⟨rfl,⟨rfl,rfl,rfl,trivial,rfl,rfl,rfl⟩,rfl,rfl⟩))
def qy (l:Bs):TV:=if l.length=0 then uO else .vec 2 l (.tail 1 l.length)
def mL (n:Nat)(l:Bs):iJ:=if l.length=0 then [(n,15,true)] else [(n,15,true),(l.length,2,true)]
theorem OY (n:Nat)(l:Bs):(mL n l).length≤2:=by unfold mL;split<;>simp
theorem ZA {A:Bs}{p:List TV}{O:List VO}{n:Nat}{s x:Operand}{l:List (Nat × TV)}(hs:aP ae l s=qy A)(hx:fP 2 (aP ae l x)=some [p])(hb:A.length≤64000000):bb prog ae 0 ⟨O,mL n A⟩ (.call ⟨.builtin .append,#[s,x],#[68,68]⟩) l (.vec 2 (A++ [p]) (.tail 1 (A.length+1))) ⟨O,[(n,15,true),(A.length+1,2,true)]⟩:=by
 by_cases hA:A.length=0
 ·obtain rfl:=List.length_eq_zero_iff.1 hA
  exact EA (T:=⟨O,[(n,15,true)]⟩) (T1:=⟨O,[(n,15,true),(0,2,true)]⟩) (es:= []) (es2:= [p]) (k:=1) (n:=0) (bn:=true) (by rw [hs];rfl) hx (by simp)
 ·have e1:qy A=.vec 2 A (.tail 1 A.length):=by unfold qy;rw [if_neg hA]
  have e2:mL n A= [(n,15,true),(A.length,2,true)]:=by unfold mL;rw [if_neg hA]
  rw [e2]
  exact EA (T:=⟨O,[(n,15,true),(A.length,2,true)]⟩) (T1:=⟨O,[(n,15,true),(A.length,2,true)]⟩) (es:=A) (es2:= [p]) (k:=1) (n:=A.length) (bn:=true) (by rw [hs,e1];simp [cM]) hx (by simp only [length_cons,length_nil];omega)
def pC (m:MsgS):List TV:= [.val (.int .i64 m.k),.val (.int .i64 m.op.n),.val (.int .i64 m.op.h),.val (.int .u32 m.op.i),if m.op.l.length=0 then uO else .vec 2 m.op.l .none,.vec 2 m.u.w .none,.val (.int .i64 m.u.o),.vec 1 m.u.x .none,.val (.int .u32 m.u.h),.val (.int .i64 m.u.m),.val (.bool m.u.hm),.vec 2 m.u.n .none,.val (.int .i64 m.c),.val (.int .i64 m.s),.vec 1 m.d .none]
theorem WQ {m:MsgS}(hm:MsWf m)(f g:Nat→Option Nat):ap f g (pC m)=pC m:=by
 have h1:(if m.op.l.length=0 then uO else TV.vec 2 m.op.l .none).ren f g=if m.op.l.length=0 then uO else .vec 2 m.op.l .none:=by
  split
  ·rfl
  ·simp only [TV.ren,CpWf.ren hm.1,Tok.ren]
 simp only [pC,ap,h1,TV.ren,hm.2.1.1.ren,hm.2.1.2.1.ren,hm.2.1.2.2.ren,hm.2.2.ren,Tok.ren]
theorem ZB (m:MsgS):TVleL (pC m) m.cells:=by
 refine ⟨.refl _,.refl _,.refl _,.refl _,?_,.refl _,.refl _,.refl _,.refl _,.refl _,.refl _,.refl _,.refl _,.refl _,.refl _,trivial⟩
 split
 ·rename_i h
  rw [List.length_eq_zero_iff.1 h];exact .nil 2
 ·exact .refl _
theorem vT {l:List MsgS}(h:kR l)(f g:Nat→Option Nat):bk f g (l.map pC)=l.map pC:=by
 induction l with
 |nil=>rfl
 |cons M l ih=>rw [map_cons,bk,ih (λm hm=>h m (mem_cons_of_mem _ hm)),WQ (h M mem_cons_self)]
theorem xC {m:MsgS}(hm:MsWf m){l A:Bs}(hl0:∀f g,bk f g l=l)(hA:∀f g,bk f g A=A)(n:Nat)(j:Int){ln:Bool}(hln:ln=decide (m.op.l.length=0)):dd prog ae (WO m l A n j ln (aD prog ny 2)):=bA λp hp=>by
 obtain rfl:=mem_singleton.1 hp
 have hmr:∀f g,ap f g m.cells=m.cells:=hm.ren
 obtain ⟨⟨ps,hl,hB,hn⟩,hu,hd⟩:=hm
 have hll:m.op.l.length=ps.length:=by rw [hl,length_map]
 refine b9 λK hK=> ?_
 have hren:∀k f g,bk f g ((ps.take k).map bU)=(ps.take k).map bU:=λk f g=>jA f g λp hp=>hB p (mem_of_mem_take hp)
 refine dO (f:=ny) (id:=2) (by kernel_rfl) 65 Ay (λi:Nat=>ps.length-i) (λi:Nat=>xB l A n j m.op.l i) (λi=>⟨[.cells m.cells,zn m (qy ((ps.take i).map bU))],mL n ((ps.take i).map bU)⟩) (λi=>i≤ps.length) 2 2 (λi _=>⟨le_refl _,OY _ _⟩)
  (λe vs T=>e=.normal∧vs=xB l A n j m.op.l m.op.l.length∧T=⟨[.cells m.cells,zn m (qy m.op.l)],mL n m.op.l⟩) (λi hi=> ?_) 0 (zero_le _) K ?_
 ·by_cases hlt:i<ps.length
  ·have hat:m.op.l[((i:Nat):Int).toNat]?=some (bU ps[i]):=by rw [hl,toNat_natCast,getElem?_map,getElem?_eq_getElem hlt];rfl
   have ht:ps.take (i+1)=ps.take i++ [ps[i]]:=by rw [take_add_one,getElem?_eq_getElem hlt];rfl
   have hjl:((ps.take i).map bU).length=i:=by rw [length_map,length_take];omega
   have hm1:(ps.take (i+1)).map bU=(ps.take i).map bU++ [bU ps[i]]:=by rw [ht,map_append];rfl
   refine bF ac aa an ai (LL m l A ((ps.take i).map bU++ [bU ps[i]]) n 1 (((ps.take i).map bU).length+1) j i ps[i].1 ps[i].2 (qy ((ps.take i).map bU)) (mL n ((ps.take i).map bU)) [(n,15,true),(((ps.take i).map bU).length+1,2,true)] _) ?_
   refine aS (decide_eq_true (by rw [hll];omega)) ⟨pG rfl rfl (by omega) hat,ZA (A:=(ps.take i).map bU) (p:=bU ps[i]) rfl rfl (by rw [hjl];omega),rfl,rfl,i+1,hlt,by show ps.length-(i+1)<ps.length-i;omega,.inr ⟨?_,?_⟩⟩
   ·have e1:qy ((ps.take (i+1)).map bU)=.vec 2 ((ps.take i).map bU++ [bU ps[i]]) (.tail 1 (((ps.take i).map bU).length+1)):=by
     unfold qy;rw [hm1,if_neg (by simp)];simp
    have e2:mL n ((ps.take (i+1)).map bU)= [(n,15,true),(((ps.take i).map bU).length+1,2,true)]:=by
     unfold mL;rw [hm1,if_neg (by simp)];simp
    have e3:(qy ((ps.take (i+1)).map bU)).ren (aA 2) (aA 2)=qy ((ps.take (i+1)).map bU):=by
     rw [e1]
     simp only [TV.ren,←hm1,hren,Tok.ren];rfl
    show VT.keep _ 2 2=⟨[.cells m.cells,zn m (qy ((ps.take (i+1)).map bU))],mL n ((ps.take (i+1)).map bU)⟩
    rw [e2,←e1]
    show VT.keep ⟨[.cells m.cells,zn m (qy ((ps.take (i+1)).map bU)),_],_⟩ 2 2=_
    simp only [VT.keep,List.take_succ_cons,take_zero,map_cons,map_nil,VO.ren,hmr,zn,ap,TV.ren,e3,hd.ren,Tok.ren,List.take_nil]
   ·simp only [ap,TV.ren,hl0,hA,CpWf.ren ⟨ps,hl,hB,hn⟩,Tok.ren]
    rw [gO hlt hn]
    rfl
  ·have hj2:i=ps.length:=by omega
   refine bF ac aa an ai (LL m l A [] n 0 0 j i 0 [] (qy ((ps.take i).map bU)) (mL n ((ps.take i).map bU)) [] _) ?_
   exact aO (decide_eq_false (by rw [hll];omega)) ⟨rfl,rfl,rfl,by rw [hj2];simp only [xB,hll],by
    have e:(ps.take i).map bU=m.op.l:=by rw [hj2,take_length,hl]
    rw [e];rfl⟩
 ·rintro e vs T ⟨rfl,rfl,rfl⟩
  subst hln
  unfold WN at hK
  unfold qy mL
  by_cases h0:m.op.l.length=0
  ·rw [decide_eq_true h0] at hK
   rw [if_pos h0,if_pos h0]
   exact hK
  ·rw [decide_eq_false h0] at hK
   rw [if_neg h0,if_neg h0]
   exact hK
theorem EG (objs:List VO)(tl:iJ)(A:Bs)(c:List TV)(h:A.length≤64000000):bb prog ae 0 ⟨objs,(A.length,15,true)::tl⟩ (.call ⟨.builtin .append,#[.tmp 59,.tmp 61],#[36,36]⟩) [(59,.vec 15 A (.tail 0 A.length)),(61,.vec 15 [c] .full)] (.vec 15 (A++ [c]) (.tail 0 (A.length+1))) ⟨objs,(A.length+1,15,true)::tl⟩:=by
  obtain ⟨inf,z,i1,i2,i3,i4,i5⟩:=ED
  have h1:=eQ (inf:=inf) (P:=prog) (G:=ae) (ro:=0) (T:=⟨objs,(A.length,15,true)::tl⟩) (T1:=⟨objs,(A.length,15,true)::tl⟩) (t:=36) (tx:=36) (s:=.tmp 59) (x:=.tmp 61) (l:= [(59,.vec 15 A (.tail 0 A.length)),(61,.vec 15 [c] .full)]) (es:=A) (es2:= [c]) (k:=0) (n:=A.length) (bn:=true) Tryz.underlying36 i1 i4 (by rw [i2];exact i5) (by rw [i2];decide) (by kernel_rfl)
    (by rw [i2];simp [aP,eO,cM]) (by rw [i2];rfl)
    (by have h1:=i3
        have h2:=mul_le_mul (show A.length+ [c].length≤64000001 by simp only [length_cons,length_nil];omega) h1
        omega)
  rw [i2] at h1
  exact h1
def LM (L:List MsgS)(j:Nat)(e:Exit)(vs:List TV)(on:Nat)(tl:iJ)(D:List Nat)(m:Nat):Prop:=D= []∧m=65∧match e with
 | .normal=>j<L.length∧ap (aA 0) (aA 1) vs=qP (L.map MsgS.cells) ((L.take (j+1)).map pC) (j+1) (j+1:Nat)∧tl.take 1= [(j+1,15,true)]
 | .exit i=>i=0∧vs=qP (L.map MsgS.cells) (L.map pC) (L.map MsgS.cells).length (L.map MsgS.cells).length∧on=0∧tl= [((L.map MsgS.cells).length,15,true)]
 |_=>False
theorem EH (L:List MsgS)(j:Nat)(e:Exit)(σ:List TV)(T:VT)(D:List Nat)(h:cN xA (λe vs T D m=>LM L j e vs T.objs.length T.tails D m) e σ T D):cN xA (Ia 65 0 (λj:Nat=>L.length-j) (λj:Nat=>qP (L.map MsgS.cells) ((L.take j).map pC) j j) (λj=>⟨[],[(j,15,true)]⟩) (λj=>j≤L.length) 0 1 j (λe vs T=>e=.normal∧vs=qP (L.map MsgS.cells) (L.map pC) (L.map MsgS.cells).length (L.map MsgS.cells).length∧T=⟨[],[((L.map MsgS.cells).length,15,true)]⟩)) e σ T D:=by
 obtain ⟨h1,h2,h3⟩:=h
 refine ⟨h1,h2,?_⟩
 cases e
 case normal=>
  obtain ⟨hlt,a1,a2⟩:=h3
  refine ⟨j+1,hlt,by show L.length-(j+1)<L.length-j;omega,.inr ⟨?_,a1⟩⟩
  simp only [VT.keep,take_zero,map_nil,a2]
 case exit i=>
  obtain ⟨rfl,a1,a2,a3⟩:=h3
  refine ⟨rfl,a1,?_⟩
  obtain ⟨objs,tails⟩:=T
  simp only at a2 a3
  rw [List.length_eq_zero_iff.1 a2,a3]
 all_goals exact h3.elim
theorem Th (hL:kR L)(hn:L.length≤64000000):dd prog ae (WM (L.map MsgS.cells) (L.map pC) (aD prog ny 0)):=bA λp hp=>by
 obtain rfl:=mem_singleton.1 hp
 have hLr:∀f g,bk f g (L.map MsgS.cells)=L.map MsgS.cells:=gF hL
 refine b9 λK hK=> ?_
 refine dO (f:=ny) (id:=0) (by kernel_rfl) 65 xA (λj:Nat=>L.length-j) (λj:Nat=>qP (L.map MsgS.cells) ((L.take j).map pC) j j) (λj=>⟨[],[(j,15,true)]⟩) (λj=>j≤L.length) 0 1 (λ_ _=>⟨le_refl _,le_refl _⟩)
  (λe vs T=>e=.normal∧vs=qP (L.map MsgS.cells) (L.map pC) (L.map MsgS.cells).length (L.map MsgS.cells).length∧T=⟨[],[((L.map MsgS.cells).length,15,true)]⟩) (λj hj=> ?_) 0 (zero_le _) K ?_
 ·by_cases hlt:j<L.length
  ·have hat:(L.map MsgS.cells)[((j:Nat):Int).toNat]?=some L[j].cells:=by rw [toNat_natCast,getElem?_map,getElem?_eq_getElem hlt];rfl
   have hm:=hL _ (getElem_mem hlt)
   have ht:L.take (j+1)=L.take j++ [L[j]]:=by rw [take_add_one,getElem?_eq_getElem hlt];rfl
   have hjl:((L.take j).map pC).length=j:=by rw [length_map,length_take];omega
   have hm1:(L.take (j+1)).map pC=(L.take j).map pC++ [pC L[j]]:=by rw [ht,map_append];rfl
   have hA:=vT (l:=L.take j) (λm hm=>hL m (mem_of_mem_take hm))
   have hA2:=vT (l:=L.take (j+1)) (λm hm=>hL m (mem_of_mem_take hm))
   have hnr:∀x:TV,(x.ren (aA 0) (aA 1)=if L[j].op.l.length=0 then uO else .vec 2 L[j].op.l .none)→bk (aA 0) (aA 1) ((L.take j).map pC++ [[.val (.int .i64 L[j].k),.val (.int .i64 L[j].op.n),.val (.int .i64 L[j].op.h),.val (.int .u32 L[j].op.i),x,.vec 2 L[j].u.w .none,.val (.int .i64 L[j].u.o),.vec 1 L[j].u.x .none,.val (.int .u32 L[j].u.h),.val (.int .i64 L[j].u.m),.val (.bool L[j].u.hm),.vec 2 L[j].u.n .none,.val (.int .i64 L[j].c),.val (.int .i64 L[j].s),.vec 1 L[j].d .none]])=(L.take (j+1)).map pC:=λx hx=>by
    rw [hm1,cD,map_append,←cD,hA]
    simp only [map_cons,map_nil,ap,hx,TV.ren,hm.2.1.1.ren,hm.2.1.2.1.ren,hm.2.1.2.2.ren,hm.2.2.ren,Tok.ren,pC]
   have fin:∀(x:TV) (on:Nat) (tl:iJ),(x.ren (aA 0) (aA 1)=if L[j].op.l.length=0 then uO else .vec 2 L[j].op.l .none)→LM L j .normal [.vec 15 ((L.take j).map pC++ [[.val (.int .i64 L[j].k),.val (.int .i64 L[j].op.n),.val (.int .i64 L[j].op.h),.val (.int .u32 L[j].op.i),x,.vec 2 L[j].u.w .none,.val (.int .i64 L[j].u.o),.vec 1 L[j].u.x .none,.val (.int .u32 L[j].u.h),.val (.int .i64 L[j].u.m),.val (.bool L[j].u.hm),.vec 2 L[j].u.n .none,.val (.int .i64 L[j].c),.val (.int .i64 L[j].s),.vec 1 L[j].d .none]]) (.tail 0 (j+1)),.vec 15 (L.map MsgS.cells) .none,.val (.int .i64 (L.map MsgS.cells).length),.val (.int .i64 (wrap i64 (((j:Nat):Int)+(1:Int))))] on ((j+1,15,true)::tl) [] 65:=λx on tl hx=>by
    refine ⟨rfl,rfl,hlt,?_,rfl⟩
    simp only [ap,TV.ren,hnr x hx,hLr,Tok.ren]
    rw [gO hlt hn]
    rfl
   by_cases h0:L[j].op.l.length=0
   ·have h:=EG [.cells L[j].cells,.cells [.val (.int .i64 L[j].k),.val (.int .i64 L[j].op.n),.val (.int .i64 L[j].op.h),.val (.int .u32 L[j].op.i),uO,.vec 2 L[j].u.w .none,.val (.int .i64 L[j].u.o),.vec 1 L[j].u.x .none,.val (.int .u32 L[j].u.h),.val (.int .i64 L[j].u.m),.val (.bool L[j].u.hm),.vec 2 L[j].u.n .none,.val (.int .i64 L[j].c),.val (.int .i64 L[j].s),.vec 1 L[j].d .none]] [] ((L.take j).map pC) [.val (.int .i64 L[j].k),.val (.int .i64 L[j].op.n),.val (.int .i64 L[j].op.h),.val (.int .u32 L[j].op.i),uO,.vec 2 L[j].u.w .none,.val (.int .i64 L[j].u.o),.vec 1 L[j].u.x .none,.val (.int .u32 L[j].u.h),.val (.int .i64 L[j].u.m),.val (.bool L[j].u.hm),.vec 2 L[j].u.n .none,.val (.int .i64 L[j].c),.val (.int .i64 L[j].s),.vec 1 L[j].d .none] (by rw [hjl];omega)
    rw [hjl] at h
    refine VWx.mono (bF ac aa an (xC hm hLr hA j j (decide_eq_true h0).symm) (EC L[j] (L.map MsgS.cells) ((L.take j).map pC) _ j (j+1) j true [(j+1,15,true)] (LM L j)) (aS (decide_eq_true (by rw [length_map];omega)) ⟨EF rfl rfl (by omega) hat,rfl,⟨rfl,rfl,rfl,trivial,rfl,rfl,rfl⟩,h,fin uO _ [] (by rw [if_pos h0];rfl)⟩)) (EH L j)
   ·have h:=EG [.cells L[j].cells,.cells [.val (.int .i64 L[j].k),.val (.int .i64 L[j].op.n),.val (.int .i64 L[j].op.h),.val (.int .u32 L[j].op.i),.vec 2 L[j].op.l (.tail 1 L[j].op.l.length),.vec 2 L[j].u.w .none,.val (.int .i64 L[j].u.o),.vec 1 L[j].u.x .none,.val (.int .u32 L[j].u.h),.val (.int .i64 L[j].u.m),.val (.bool L[j].u.hm),.vec 2 L[j].u.n .none,.val (.int .i64 L[j].c),.val (.int .i64 L[j].s),.vec 1 L[j].d .none]] [(L[j].op.l.length,2,true)] ((L.take j).map pC) [.val (.int .i64 L[j].k),.val (.int .i64 L[j].op.n),.val (.int .i64 L[j].op.h),.val (.int .u32 L[j].op.i),.vec 2 L[j].op.l (.tail 1 L[j].op.l.length),.vec 2 L[j].u.w .none,.val (.int .i64 L[j].u.o),.vec 1 L[j].u.x .none,.val (.int .u32 L[j].u.h),.val (.int .i64 L[j].u.m),.val (.bool L[j].u.hm),.vec 2 L[j].u.n .none,.val (.int .i64 L[j].c),.val (.int .i64 L[j].s),.vec 1 L[j].d .none] (by rw [hjl];omega)
    rw [hjl] at h
    refine VWx.mono (bF ac aa an (xC hm hLr hA j j (decide_eq_false h0).symm) (EC L[j] (L.map MsgS.cells) ((L.take j).map pC) _ j (j+1) j false [(j+1,15,true),(L[j].op.l.length,2,true)] (LM L j)) (aS (decide_eq_true (by rw [length_map];omega)) ⟨EF rfl rfl (by omega) hat,rfl,⟨rfl,rfl,rfl,trivial,rfl,rfl,rfl⟩,h,fin (.vec 2 L[j].op.l (.tail 1 L[j].op.l.length)) _ [_] (by rw [if_neg h0];simp only [TV.ren,CpWf.ren hm.1];rfl)⟩)) (EH L j)
  ·have hj2:j=L.length:=by omega
   subst hj2
   refine VWx.mono (bF ac aa an (xC I3 hLr (vT (l:=L.take L.length) (λm hm=>hL m (mem_of_mem_take hm))) L.length L.length rfl) (EC m0 (L.map MsgS.cells) ((L.take L.length).map pC) [] L.length 0 L.length true [] (LM L L.length)) (aO (decide_eq_false (by rw [length_map];omega)) ⟨rfl,rfl,rfl,?_,rfl,by rw [length_map]⟩)) (EH L L.length)
   show qP (L.map MsgS.cells) ((L.take L.length).map pC) L.length L.length=_
   rw [take_length,length_map]
 ·rintro e vs T ⟨rfl,rfl,rfl⟩
  exact hK
theorem WR (hL:kR L)(hn:L.length≤64000000):VCx prog ae 0 ny [.vec 15 (L.map MsgS.cells) .none] ⟨[],[]⟩ λy T'=>y=.vec 15 (L.map MsgS.cells) .none∧T'=⟨[],[]⟩:=by
 refine VCx.toLe (Q:=λT'=>T'=⟨[],[]⟩) (VCx.keepQ 0 0 (le_refl _) (le_refl _) (ak ac aa an (Th hL hn) (Zz _ (L.map pC) _) ⟨rfl,⟨rfl,rfl,rfl,⟨rfl,trivial⟩,rfl,rfl,rfl⟩,?_,rfl⟩))
 simp only [TV.ren,vT hL]
 exact TVle.rows 15 pC MsgS.cells _ λm _=>ZB m
end
--bumped 32
def WS (b:Bs)(pas:Int)(L:Bs)(m c s:Int)(d:Bs):Prop:=IsB b∧L=(eR b pas).map MsgS.cells∧m=(bh b pas).2.1.length∧c=qx b pas∧s=jg b pas∧d=ic b pas
def OZ (o:VO)(pas:Int):Prop:=o=ig pas []
def Az (ro p:Nat)(o:VO)(b:Bs)(o2:VO)(L:Bs)(c s:Int)(d:Bs):Prop:=∃(pas:Int) (w:Bs),ro≤p∧o=ig pas w∧IsB (w++b)∧o2=ig pas (w++b)∧L=(qO w b pas).map MsgS.cells∧c=qx (w++b) pas∧s=jg (w++b) pas∧d=ic (w++b) pas
def WT (ro p:Nat)(o:VO)(m:Int):Prop:=∃(pas:Int) (w:Bs),ro≤p∧IsB w∧o=ig pas w∧m=(bh w pas).2.1.length
def EI (l:Bs):Prop:=∃L:List MsgS,kR L∧L.length≤64000000∧l=L.map MsgS.cells
def WU (l l':Bs):Prop:=l=l'∧EI l
def Qk (L:Bs)(m c s:Int)(d:Bs):aW:=λ_ ys T K=>match ys with
 |[.vec 1 b _,.val (.int .i64 pas)]=>WS b pas L m c s d∧K (.tup [.vec 15 L .none,.val (.int .i64 m),.agg [.val (.int .i64 c),.val (.int .i64 s),.vec 1 d .none]]) T
 |_=>aJ 84 default ys
def GW (o:VO):aW:=λ_ ys T K=>match ys with
 |[.val (.int .i64 pas)]=>OZ o pas∧K (.ptr T.objs.length 0) {T with objs:=T.objs++ [o]}
 |_=>aJ 84 default ys
def GX (o2:VO)(L:Bs)(c s:Int)(d:Bs):aW:=λro ys T K=>match ys with
 |[.ptr p 0,.vec 1 b _]=>match T.objs[p]? with
  |some o=>Az ro p o b o2 L c s d∧K (.tup [.vec 15 L .none,.agg [.val (.int .i64 c),.val (.int .i64 s),.vec 1 d .none]]) {T with objs:=T.objs.set p o2}
  |none=>aJ 85 default ys
 |_=>aJ 84 default ys
def Ql (m:Int):aW:=λro ys T K=>match ys with
 |[.ptr p 0]=>match T.objs[p]? with
  |some o=>WT ro p o m∧K (.val (.int .i64 m)) T
  |none=>aJ 85 default ys
 |_=>aJ 84 default ys
def Qm:aW:=λ_ ys T K=>match ys with
 |[.vec 15 l _,.vec 15 l' _]=>WU l l'∧K (.val (.bool true)) T
 |_=>aJ 83 default ys
def Qn:aW:=λ_ ys T K=>match ys with
 |[.vec 15 l _]=>EI l∧K (.vec 15 l .none) T
 |_=>aJ 83 default ys
abbrev LN:=9
abbrev oy:=8
theorem WV (pas m c s:Int)(b L d:Bs)(o o2:VO)(tok:Tok)(Q:TV→VT→Prop):ar prog be (aF [(Er,GW o),(rC,GX o2 L c s d),(Lx,Ql m)]) (aZ [(999998,.dead,none)]) 300 aN 0 LN [.vec 1 b tok,.val (.int .i64 pas)] am Q=
 (OZ (o) (pas)∧
 (Az 0 1 (o) (b) (o2) (L) (c) (s) (d)∧
 (WT 0 1 (o2) (m)∧
 (((@Eq (Option TV) (.some (qd c s d)) (.some (qd c s d)))∧
 True)∧
 Q (.tup [(dW L),(ah m),(qd c s d)]) ⟨[(en c s d),o2,(en c s d)],[]⟩)))):=by kernel_rfl
--bumped 32
section
open Go Go.RowKit
end
theorem Ti (pas:Int):TVleL [.val (.bool true),.val (.int .i64 pas),.val (.slice none 0 0),.val (.int .i64 0),.val (.int .i64 0),.val (.slice none 0 0),.val (.int .i64 0)] (wH pas []):=
 ⟨.refl _,.refl _,.nil 1,.refl _,.refl _,.nil 1,.refl _,trivial⟩
theorem WW (pas:Int):VCx prog ae 0 Er [.val (.int .i64 pas)] ⟨[],[]⟩ λx T'=>x=.ptr 0 0∧T'=⟨[ig pas []],[]⟩:=by
 refine VCx.cellsLe 0 (ak ac aa an ai (Wu pas _) ⟨_,wH pas [],rfl,Ti pas,rfl,rfl⟩)
theorem LO (o:VO):∀ro ys T K,GW o ro ys T K→VCx prog be ro Er ys T K:=by
 intro ro ys T K hw
 unfold GW at hw
 split at hw
 ·rename_i pas
  obtain ⟨rfl,hk⟩:=hw
  refine VCx.anyG ((VCx.lift (T:=T) [] [] au nodup_nil nodup_nil (by simp) (by simp) (by simp) rfl (by rw [VT.give_nil];exact WW pas) (λ_ _ _=>⟨zero_le _,zero_le _⟩)).mono ?_)
  rintro z T' ⟨x,T'',⟨rfl,rfl⟩,rfl,rfl⟩
  rw [VT.back_nil]
  simp only [map_cons,map_nil,rF .nil,append_nil]
  simpa [TV.ren,ba] using hk
 ·exact hw.elim
theorem EJ (o2:VO)(L:Bs)(c s:Int)(d:Bs):∀ro ys T K,GX o2 L c s d ro ys T K→VCx prog be ro rC ys T K:=by
 intro ro ys T K hw
 unfold GX at hw
 split at hw
 ·rename_i p b tok
  split at hw
  ·rename_i o ho
   obtain ⟨⟨pas,w,hro,rfl,hw2,rfl,rfl,rfl,rfl,rfl⟩,hk⟩:=hw
   have hw1:=Ev hw2
   refine VCx.at1 (Q:=λx o' l'=>x=zl w b pas∧o'=ig pas (w++b)∧l'= []) bQ hro ho rfl (rF hw1 _ _) (ys1:= [.ptr 0 0,.vec 1 b (tok.ren (aU [p]) (aU []))]) ?_ ((Wz hw2 _).mono λx T' ⟨h1,h2⟩=>⟨_,_,h2,h1,rfl,rfl⟩) ?_
   ·simp [ap,TV.ren,aU,(Bv hw2).ren]
   ·rintro x o' l' ⟨rfl,rfl,rfl⟩
    rw [Ta hw2,rF hw2]
    simp only [map_nil,append_nil]
    exact hk
  ·exact hw.elim
 ·exact hw.elim
section
variable {w:Bs}{pas:Int}
theorem WX:VCx prog ae 0 Lx [.ptr 0 0] ⟨[ig pas w],[]⟩ λx T'=>x=.val (.int .i64 (bh w pas).2.1.length)∧T'=⟨[ig pas w],[]⟩:=
 ak ac aa an ai (S6 pas _ _ _ .dead _ _ _) ⟨rfl,rfl⟩
end
theorem WY {f:FuncId}{ro p:Nat}{o:VO}{y:TV}{T:VT}{K:TV→VT→Prop}(hro:ro≤p)(ho:T.objs[p]?=some o)(hl:o.live=true)(hr:∀f g,o.ren f g=o)(hy:∀f g,y.ren f g=y)(h:VCx prog ae 0 f [.ptr 0 0] ⟨[o],[]⟩ λx T'=>x=y∧T'=⟨[o],[]⟩)(hk:K y T):VCx prog be ro f [.ptr p 0] T K:=by
 refine VCx.at1 (Q:=λx o' l'=>x=y∧o'=o∧l'= []) bQ hro ho hl (hr _ _) (ys1:= [.ptr 0 0]) (by simp [ap,TV.ren,aU]) ((VCx.anyG h).mono λx T' ⟨h1,h2⟩=>⟨_,_,h2,h1,rfl,rfl⟩) ?_
 rintro x o' l' ⟨rfl,rfl,rfl⟩
 rw [hy,hr,pc ho]
 simpa using hk
theorem WZ (m:Int):∀ro ys T K,Ql m ro ys T K→VCx prog be ro Lx ys T K:=by
 intro ro ys T K hw
 unfold Ql at hw
 split at hw
 ·split at hw
  ·rename_i o ho
   obtain ⟨⟨pas,w,hro,hw,rfl,rfl⟩,hk⟩:=hw
   exact WY hro ho rfl (rF hw) (λ_ _=>rfl) WX hk
  ·exact hw.elim
 ·exact hw.elim
theorem W0 {b:Bs}(hb:IsB b)(pas:Int)(tok:Tok):VCx prog be 0 LN [.vec 1 b tok,.val (.int .i64 pas)] ⟨[],[]⟩ λx T'=>x=.tup [.vec 15 ((eR b pas).map MsgS.cells) .none,.val (.int .i64 (bh b pas).2.1.length),zk b pas]∧T'=⟨[],[]⟩:=by
 have hS:bf prog be (aF [(Er,GW (ig pas [])),(rC,GX (ig pas b) ((eR b pas).map MsgS.cells) (qx b pas) (jg b pas) (ic b pas)),(Lx,Ql ((bh b pas).2.1.length:Nat))]):=aL λp hp=>by
  rcases mem_cons.1 hp with rfl | hp;exact LO _
  rcases mem_cons.1 hp with rfl | hp;exact EJ _ _ _ _ _
  obtain rfl:=mem_singleton.1 hp;exact WZ _
 refine VCx.keepQ 0 0 (le_refl _) (le_refl _) (ak ac aa hS ai (WV pas _ _ _ b _ _ _ _ tok _) ⟨rfl,⟨pas,[],zero_le _,rfl,hb,rfl,?_,rfl,rfl,rfl⟩,⟨pas,b,zero_le _,hb,rfl,rfl⟩,⟨rfl,trivial⟩,?_,rfl⟩)
 ·have:(eR [] pas).length=0:=by unfold eR;rw [dS pas (by simp)];rfl
  unfold qO
  rw [this];rfl
 ·have e:=Aw (pas:=pas) hb (aA 0) (aA 0)
  simp only [TV.ren,ap,gF (nx (pas:=pas) hb),eR,(zm hb).ren,Tok.ren]
  rfl
theorem W1 (L:Bs)(m c s:Int)(d:Bs):∀ro ys T K,Qk L m c s d ro ys T K→VCx prog be ro LN ys T K:=by
 intro ro ys T K hw
 unfold Qk at hw
 split at hw
 ·rename_i b tok pas
  obtain ⟨⟨hb,rfl,rfl,rfl,rfl,rfl⟩,hk⟩:=hw
  refine VCx.liftPure bQ (W0 hb pas (tok.ren (aU []) (aU []))) (by simp only [ap,TV.ren,hb.ren]) (λf g=> ?_) hk
  simp only [TV.ren,ap,gF (nx (pas:=pas) hb),eR,Aw hb,Tok.ren]
 ·exact hw.elim
theorem W3:∀ro ys T K,Qm ro ys T K→VCx prog be ro uP ys T K:=by
 intro ro ys T K hw
 unfold Qm at hw
 split at hw
 ·obtain ⟨⟨rfl,L,hL,hn,rfl⟩,hk⟩:=hw
  exact VCx.loosePure bQ (VCx.anyG (WP hL hn)) (by simp [cj]) (by simp only [ap,TV.ren,gF hL,Tok.ren]) (λ_ _=>rfl) hk
 ·exact hw.elim
theorem W4:∀ro ys T K,Qn ro ys T K→VCx prog be ro ny ys T K:=by
 intro ro ys T K hw
 unfold Qn at hw
 split at hw
 ·obtain ⟨⟨L,hL,hn,rfl⟩,hk⟩:=hw
  exact VCx.loosePure bQ (VCx.anyG (WR hL hn)) (by simp [cj]) (by simp only [ap,TV.ren,gF hL,Tok.ren]) (λ_ _=>by simp only [TV.ren,gF hL,Tok.ren]) hk
 ·exact hw.elim
section
variable {b:Bs}{zs:List Int}{pas:Int}
theorem Bw {G:aV}{x i:Operand}{l:List (Nat × TV)}{es:Bs}{tok:Tok}{k:IntKind}{z:Int}(hx:aP G l x=.vec 1 es tok)(hz:aP G l i=.val (.int k z))(h0:0≤z)(he:z.toNat≤es.length):bc prog G (.slice 22 x none (some i) none) l (.vec 1 (es.take z.toNat) .none):=by
 obtain ⟨inf,i1,i2,_,_⟩:=cO
 have h:=Dq (P:=prog) (G:=G) (t:=22) (x:=x) (i:=i) (l:=l) (inf:=inf) (es:=es) (tok:=tok) underlying22 i1 (by rw [i2];exact hx) hz h0 he
 rw [i2] at h;exact h
theorem LP {G:aV}{x i:Operand}{l:List (Nat × TV)}{es:Bs}{tok:Tok}{k:IntKind}{z:Int}(hx:aP G l x=.vec 1 es tok)(hz:aP G l i=.val (.int k z))(h0:0≤z)(he:z.toNat≤es.length):bc prog G (.slice 22 x (some i) none none) l (.vec 1 (es.drop z.toNat) tok):=by
 obtain ⟨inf,i1,i2,_,_⟩:=cO
 have h:=Dr (P:=prog) (G:=G) (t:=22) (x:=x) (i:=i) (l:=l) (inf:=inf) (es:=es) (tok:=tok) underlying22 i1 (by rw [i2];exact hx) hz h0 he
 rw [i2] at h;exact h
end
--bumped 32
section
variable {P:Program}{G:aV}
theorem VCx.ofOwn {f:FuncId}{xs:List TV}{ty:TypeId}{vs:List Value}(h1:∀v∈vs,v.oneCell'=true)(hm:vs.length≤maxLen)
  (h:∀g w us,VRs g w xs us→Calls P f us.toArray w (Rets w λv w'=>w'.ownsRow w.heap.size ty 1 v vs.length vs)):VCx P G 0 f xs ⟨[],[]⟩ λx T'=>x=.vec 1 (vs.map λv=> [.val v]) .none∧T'=⟨[],[]⟩:=by
 intro g w us r hG hx
 refine (h g w us hx).mono ?_
 rintro e w' ⟨v,rfl,gr,hl,hown⟩
 have r1:=r.gr gr
 have e1:=Evo.of_gr r gr
 rcases hown with ⟨rfl,h0⟩ | ⟨b,cap,cur,rfl,hb,hg,hnc,hcm,hcs,htk⟩
 ·have:vs= []:=List.eq_nil_of_length_eq_zero (by omega)
  subst this
  exact ⟨_,_,g,_,rfl,⟨rfl,rfl⟩,e1,r1,.nil trivial,⟨by simp,λi hi=>absurd hi (not_lt_zero i),λi o b hi=>absurd hi (not_lt_zero i)⟩⟩
 ·have hnf:¬g.fr b:=λhf=>by have:=r.fr b hf;omega
  have hcell:∀(j:Nat) u,vs[j]?=some u→w'.cell? ⟨b,0+j,none⟩=some u:=λj u hu=>by
   have hj:=(List.getElem?_eq_some_iff.1 hu).1
   unfold cell?
   simp only [hg,zero_add]
   rw [←htk,List.getElem?_take,if_pos (by omega)] at hu
   simpa using hu
  refine ⟨_,_,g.addSt b (λo=>o<vs.length),_,rfl,⟨rfl,rfl⟩,e1.trans (Evo.addSt hnf),r1.addSt hnf (λid o h=>by simp at h) (λk x o hx=>by rw [r1.tout k (zero_le _)] at hx;cases hx) (λo ho=> ?_),?_,⟨by simp,λi hi=>absurd hi (not_lt_zero i),λi o b hi=>absurd hi (not_lt_zero i)⟩⟩
  ·have:=hcell o _ (getElem?_eq_getElem ho)
   rw [zero_add] at this
   rw [this];rfl
  ·refine .mk_vec (us:=vs) (by simp) (by simpa using hnc) hcm (λe he=>by obtain ⟨v,_,rfl⟩:=mem_map.1 he;rfl) trivial (by rw [lF];exact VRs.vals _ _ _) (λj hj=>.inr ⟨rfl,?_⟩) hcell h1
   rw [lF] at hj
   simpa using hj
end
def iD (l:List Int):List Value:=l.map λz=>.int .u8 z
theorem lc (l:List Int):bV l=(iD l).map λv=> [.val v]:=by simp [bV,iD,bT,comp_def]
theorem LQ {g:Gh}{w:World}{l:List Int}{tok:Tok}{v:Value}(h:VR g w (.vec 1 (bV l) tok) v)(hne:l≠ []):Rd w 1 v l.length (iD l):=by
 have hlen:(bV l).length=l.length:=by simp [bV]
 have hne2:bV l≠ []:=λe=>hne (by have:=congrArg length e;rw [hlen] at this;exact List.eq_nil_of_length_eq_zero this)
 rcases h.vec_inv with ⟨_,e,_⟩ | ⟨b,o,c,us,rfl,h1,h2,_,_,h4,_,h5,_⟩ | ⟨a,_,e,_⟩
 ·exact absurd e hne2
 ·have hfl:(bV l).flatten=(iD l).map .val:=by rw [lc,lF]
  rw [hfl] at h4
  have hu:us=iD l:=by
   refine ext_getElem? λj=> ?_
   have hl:us.length=(iD l).length:=by have:=h4.1;simpa using this
   by_cases hj:j<us.length
   ·have hx:((iD l).map TV.val)[j]?=some (.val (iD l)[j]):=by rw [getElem?_map,getElem?_eq_getElem (by omega)];rfl
    have:=(h4.2 j _ us[j] hx (getElem?_eq_getElem hj)).val_inv
    rw [getElem?_eq_getElem hj,getElem?_eq_getElem (by omega),this]
   ·rw [getElem?_eq_none (by omega),getElem?_eq_none (by omega)]
  subst hu
  rw [hlen] at h1 ⊢
  exact ⟨by simp [iD],_,c,rfl,h1,h2,(λh=>by cases h),λad ha=>by injection ha with ha;subst ha;exact ⟨rfl,λj u hu=>h5 j u hu⟩⟩
 ·exact absurd e hne2
theorem Tj:(prog.info? 5).map (λi=>(i.zero,i.size,i.bytes))=some (some (.int .u8 0),1,1):=by kernel_rfl
def dr (n size:Nat):List Nat:=(List.range size).map λk=>n/2^(8*(size-1-k))%256
theorem LR (n size k:Nat)(h:k<size):(dr n size).take (k+1)=(dr n size).take k++ [n/2^(8*(size-1-k))%256]:=by
 rw [List.take_succ_eq_append_getElem (by simpa [dr] using h)]
 simp [dr]
theorem O0 (n size:Nat):(dr n size).take size=dr n size:=take_of_length_le (by simp [dr])
set_option maxHeartbeats 400000 in
theorem EK (b:Value)(nb:Nat)(bs:List Value)(h1:∀u∈bs,u.oneCell'=true)(n:Nat)(size:Nat)(hs:size≤8)(hnb:nb≤1099511627776)(w:World)(hb:Rd w 1 b nb bs):
  Calls prog 102 #[b,.int .u64 n,.int .i64 size] w (Rets w λv w'=>w'.ownsRow w.heap.size 5 1 v (nb+size) (bs++jx (dr n size))):=by
 obtain ⟨i0,hi,hz0,hz1,hz2⟩:=info_parts Tj
 have hb':=hb
 obtain ⟨_,p,c,rfl,_,_,_,_⟩:=hb'
 have HB:=Lib.hid hb
 have H1:=Lib.hid h1
 clear hb h1
 rename_i z1 z2 z3 z4 z5
 clear z1 z3 z4 z5
 have hi':=Lib.hid hi
 clear hi
 go_enter Tryz.func102,Tryz.ntmps102
 go_wp2_with (first | (at_make;refine Ns 5 w.heap.size i0 (.int .u8 0) 1 1 underlying22 hi'.out hz0 hz1 hz2 nb (nb+size) .i64 .i64 _ _ (by rfl) (by rfl) rfl (by omega) (by omega) (by omega) (by unfold maxLen;omega) (le_refl _) (λv1 w1 own1 g1 hv1=> ?_)) | (refine Nt w.heap.size 5 underlying22 (by kernel_rfl) _ nb _ (by rfl) (by assumption) _ nb bs (by rfl) (HB.out.gr (by assumption)) H1.out (λw2 own2 gb2=> ?_)))
 have gr2:=Dm g1 (le_refl _) own1 gb2
 have own3:w2.ownsRow w.heap.size 5 1 v1 nb bs:=by
  have hl:=HB.out.len
  have e:List.take nb bs++List.drop nb (List.take (nb*1) (madeCells (Value.int u8 0).cells ((nb+size)*1)).toList)=bs:=by
   rw [take_of_length_le (by omega),List.drop_eq_nil_of_le (by rw [length_take];omega),append_nil]
  rwa [e] at own2
 clear own2 gb2 own1 g1 hv1
 go_loopw [7,8] (λv i wr=>∃j k:Nat,j+k=size∧i=.int .i64 ((j:Int)-1)∧wr.ownsRow w.heap.size 5 1 v (nb+k) (bs++jx ((dr n size).take k))∧Gr w wr) (λ_ i _=>(intOf i+1).toNat)
 case atStart=>exact ⟨size,0,rfl,rfl,by simpa [jx] using own3,gr2⟩
 case round=>
  obtain ⟨j,k,hk,rfl,hown,hgr⟩:=hrel
  have HO:=Lib.hid hown
  have HK:=Lib.hid hk
  have hks:k≤size:=by omega
  clear hown own3 hk
  cases j with
  |zero=>
   have e:k=size:=by have:=HK.out;omega
   subst e
   go_wp2
   go_ret
   refine Rets.mk hgr ?_
   have:=HO.out
   rwa [O0] at this
  |succ j=>
   have hj8:j<8:=by have:=HK.out;omega
   rw [show (((j+1:Nat):Int)-1)=(j:Int) by omega]
   go_wp2_with (at_builtin;go_loud (refine Rz w.heap.size 5 i0 (.int .u8 0) 1 1 underlying22 hi'.out hz0 hz1 hz2 rfl (by decide) _ (nb+k) _ (by rfl) (World.ownsRow.alloc HO.out _) _ 1 [_] (by rfl) (Rd.new _ [_] _ 1 1 rfl (by decide)) (by intro u hu;simp at hu;subst hu;rfl) (by unfold maxLen;omega) (by omega) (by have:=Gr.size hgr;simp;omega) (λv1 w1 own1 gb1=> ?_)))
   go_roundw
   case rel=>
    refine ⟨j,k+1,by have:=HK.out;omega,rfl,?_,Dm (hgr.alloc _) (le_refl _) (HO.out.alloc _) gb1⟩
    have hk1:k<size:=by have:=HK.out;omega
    rw [LR n size k hk1,Nr,←List.append_assoc]
    have e:size-1-k=j:=by have:=HK.out;omega
    rw [e]
    exact own1
   case measure=>simp [intOf]
abbrev eS:=102
def LS (k n:Nat):List Int:=(dr n k).map λz:Nat=>(z:Int)
def uQ (k n:Nat):Bs:=bV (LS k n)
theorem GY (k n:Nat):(uQ k n).length=k:=by simp [uQ,bV,LS,dr]
theorem W5 (k n:Nat):∀z∈LS k n,0≤z∧z<256:=by
 intro z hz
 obtain ⟨m,hm,rfl⟩:=mem_map.1 hz
 obtain ⟨i,_,rfl⟩:=mem_map.1 hm
 have:n/2^(8*(k-1-i))%256<256:=Nat.mod_lt _ (by decide)
 omega
theorem EL {k n:Nat}(hk:k≤8):IsB (uQ k n):=⟨⟨_,rfl,W5 k n⟩,by rw [GY];omega⟩
theorem uR (k n:Nat):jx (dr n k)=iD (LS k n):=by simp [jx,iD,LS,comp_def]
theorem Tk {b:Bs}(hb:IsB b)(hne:b≠ [])(tok:Tok){n k:Nat}(hk:k≤8):VCx prog ae 0 eS [.vec 1 b tok,.val (.int .u64 n),.val (.int .i64 k)] ⟨[],[]⟩ λx T'=>x=.vec 1 (b++uQ k n) .none∧T'=⟨[],[]⟩:=by
  obtain ⟨⟨l,rfl,hl⟩,hlen⟩:=hb
  have hne2:l≠ []:=λh=>hne (by rw [h];rfl)
  have hll:(bV l).length=l.length:=by simp [bV]
  rw [hll] at hlen
  have hvs:(iD l++jx (dr n k)).length=l.length+k:=by simp [iD,jx,dr]
  have h:=VCx.ofOwn (P:=prog) (G:=ae) (f:=eS) (xs:= [.vec 1 (bV l) tok,.val (.int .u64 n),.val (.int .i64 k)]) (ty:=5) (vs:=iD l++jx (dr n k)) (λv hv=> ?_) (by rw [hvs];unfold maxLen;omega) (λg w us hx=> ?_)
  · refine h.mono ?_
    rintro x T' ⟨rfl,rfl⟩
    refine ⟨?_,rfl⟩
    rw [map_append,←lc,uR,←lc];rfl
  · rcases mem_append.1 hv with hv | hv
    · obtain ⟨z,_,rfl⟩:=mem_map.1 hv;rfl
    · obtain ⟨z,_,rfl⟩:=mem_map.1 hv;rfl
  · match us,hx.1 with
    |[v,u1,u2],_=>
      have hv:=hx.2 0 _ v rfl rfl
      obtain rfl:=(hx.2 1 _ u1 rfl rfl).val_inv
      obtain rfl:=(hx.2 2 _ u2 rfl rfl).val_inv
      have:=EK v l.length (iD l) (λu hu=>by obtain ⟨z,_,rfl⟩:=mem_map.1 hu;rfl) n k hk (by omega) w (LQ hv hne2)
      rw [hvs];exact this
theorem O1 {n k:Nat}(hk:k≤8):VCx prog ae 0 eS [.val (.slice none 0 0),.val (.int .u64 n),.val (.int .i64 k)] ⟨[],[]⟩ λx T'=>x=.vec 1 (uQ k n) .none∧T'=⟨[],[]⟩:=by
 have hvs:(jx (dr n k)).length=k:=by simp [jx,dr]
 have h:=VCx.ofRetsT (P:=prog) (G:=ae) (f:=eS) (xs:= [.val (.slice none 0 0),.val (.int .u64 n),.val (.int .i64 k)]) (us:= [.slice none 0 0,.int .u64 n,.int .i64 k]) rfl (ty:=5) (vs:=jx (dr n k)) (λv hv=>by obtain ⟨z,_,rfl⟩:=mem_map.1 hv;rfl) (by rw [hvs];unfold maxLen;omega) (λw=>by
  have:=EK (.slice none 0 0) 0 [] (by simp) n k hk (by omega) w (Rd.nil w 1)
  rw [hvs]
  simpa using this)
 refine h.mono ?_
 rintro x T' ⟨rfl,rfl⟩
 refine ⟨?_,rfl⟩
 rw [uR,←lc];rfl
abbrev nY:=57
abbrev jH:=58
abbrev sU:=128
abbrev EM:=173
abbrev pH:=152
abbrev wI:=181
abbrev wJ:=133
abbrev uS:=105
def cT (n k:Int):Prop:=(0≤n∧n≤1000000000000000)∧0≤k∧k≤8
def iP (b:Bs):Prop:=IsB b∧b≠ []
def aw (k n:Int):Bs:=uQ k.toNat n.toNat
def O2 (a n:Int):Prop:=md n∧jc a n=a
def xD (a n:Int):Prop:=(0≤a∧a<4294967296)∧O2 a n
def nZ (n:Int):Nat:=((n+7)/8).toNat
def ir (a n:Int):Bs:=bT n::(aw 4 a).take (nZ n)
def sV:aW:=λ_ ys T K=>match ys with
 |[x,.val (.int .u64 n),.val (.int .i64 k)]=>match x with
  | .val (.slice none 0 0)=>cT n k∧K (.vec 1 (aw k n) .none) T
  | .vec 1 b _=>(cT n k∧iP b)∧K (.vec 1 (b++aw k n) .none) T
  |_=>aJ 85 default ys
 |_=>aJ 84 default ys
def ky (kd:IntKind)(k:Int):aW:=λ_ ys T K=>match ys with
 |[x,.val (.int q n)]=>(q=kd)∧match x with
  | .val (.slice none 0 0)=>cT n k∧K (.vec 1 (aw k n) .none) T
  | .vec 1 b _=>(cT n k∧iP b)∧K (.vec 1 (b++aw k n) .none) T
  |_=>aJ 85 default ys
 |_=>aJ 84 default ys
def Qo:aW:=λ_ ys T K=>match ys with
 |[.agg [.val (.int .u32 a),.val (.int .i64 n)]]=>O2 a n∧K (.agg [.val (.int .u32 a),.val (.int .i64 n)]) T
 |_=>aJ 84 default ys
def Qp:aW:=λ_ ys T K=>match ys with
 |[.agg [.val (.int .u32 a),.val (.int .i64 n)]]=>xD a n∧K (.vec 1 (ir a n) .none) T
 |_=>aJ 84 default ys
def LT:List Nat:= [3,6,7,8]
def GZ (B L:Bs)(j:Int):List TV:= [.vec 1 B (.tail 0 B.length),.vec 2 L .none,.val (.int .i64 L.length),.val (.int .i64 j)]
def baL (B L:Bs)(c0:Code):Nat→Option (bN × Code):=ct [(0,dE 18 LT [(3,1)] (GZ [] L 0) ⟨[],[(0,1,true)]⟩ λK=>K .normal (aQ 18 LT (GZ B L L.length)) ⟨[],[(B.length,1,true)]⟩ [],c0)]
def G0:List Nat:= [0,1,4,7,8]
def Bx (l:Bs)(r j:Int):List TV:= [.vec 1 l .none,.fn (.func 169) [] [],.val (.int .i64 r),.val (.int .i64 l.length),.val (.int .i64 j)]
def ifR (l:Bs)(ok:Bool)(K:KX):Prop:=∀z:Nat,bif ok then K .normal (aQ 19 G0 (Bx l 0 l.length)) ⟨[],[]⟩ [] else K .ret (aQ 19 G0 (Bx l z z)) ⟨[],[]⟩ []
def ifL (l:Bs)(ok:Bool)(c0:Code):Nat→Option (bN × Code):=ct [(0,dE 19 G0 [] (Bx l 0 0) ⟨[],[]⟩ (ifR l ok),c0)]
def zo:List Nat:= [0,1,4,12,13]
def rG (s:Nat)(l m:Bs)(j:Int):List TV:= [.vec s l .none,.vec s m .none,.val (.bool false),.val (.int .i64 l.length),.val (.int .i64 j)]
def eqR (s:Nat)(l m:Bs)(ok:Bool)(K:KX):Prop:=(@Eq Nat l.length m.length)∧∀z:Int,bif ok then K .normal (aQ 26 zo (rG s l m l.length)) ⟨[],[]⟩ [] else K .ret (aQ 26 zo (rG s l m z)) ⟨[],[]⟩ []
def I7 (s:Nat)(l m:Bs)(ok:Bool)(c0:Code):Nat→Option (bN × Code):=ct [(0,dE 26 zo [] (rG s l m 0) ⟨[],[]⟩ (eqR s l m ok),c0)]
theorem ZC (b:Bs)(tok:Tok)(n:Int)(Q:TV→VT→Prop):ar prog ae (aF [(eS,sV)]) aT 300 aN 0 nY [.vec 1 b tok,.val (.int .i64 n)] am Q=
 ((cT (wrap u64 n) 1∧
 iP (b))∧
 Q (av (b++aw (1:Int) (wrap u64 n))) am):=by kernel_rfl
theorem W6 (n:Int)(Q:TV→VT→Prop):ar prog ae (aF [(eS,sV)]) aT 300 aN 0 nY [.val (.slice none 0 0),.val (.int .i64 n)] am Q=
 (cT (wrap u64 n) 1∧
 Q (av (aw (1:Int) (wrap u64 n))) am):=by kernel_rfl
theorem W7 (b:Bs)(tok:Tok)(n:Int)(Q:TV→VT→Prop):ar prog ae (aF [(eS,sV)]) aT 300 aN 0 jH [.vec 1 b tok,.val (.int .i64 n)] am Q=
 ((cT (wrap u64 n) 2∧
 iP (b))∧
 Q (av (b++aw (2:Int) (wrap u64 n))) am):=by kernel_rfl
theorem Tm (n:Int)(Q:TV→VT→Prop):ar prog ae (aF [(eS,sV)]) aT 300 aN 0 jH [.val (.slice none 0 0),.val (.int .i64 n)] am Q=
 (cT (wrap u64 n) 2∧
 Q (av (aw (2:Int) (wrap u64 n))) am):=by kernel_rfl
theorem W8 (b:Bs)(tok:Tok)(n:Int)(Q:TV→VT→Prop):ar prog ae (aF [(eS,sV)]) aT 300 aN 0 sU [.vec 1 b tok,.val (.int .u32 n)] am Q=
 ((cT (wrap u64 n) 4∧
 iP (b))∧
 Q (av (b++aw (4:Int) (wrap u64 n))) am):=by kernel_rfl
theorem Tn (n:Int)(Q:TV→VT→Prop):ar prog ae (aF [(eS,sV)]) aT 300 aN 0 sU [.val (.slice none 0 0),.val (.int .u32 n)] am Q=
 (cT (wrap u64 n) 4∧
 Q (av (aw (4:Int) (wrap u64 n))) am):=by kernel_rfl
theorem W9 (a n:Int)(q c:Bs)(e:Nat)(Q:TV→VT→Prop):ar prog ae (aF [(sU,ky .u32 4),(lM,Qo)]) (aZ [(999998,.dead,none),(16,.vec 1 q .none,none),(17,.vec 1 c (.tail 0 e),some λT=>{T with tails:= [(e,1,false)]})]) 300 aN 0 EM [.agg [.val (.int .u32 a),.val (.int .i64 n)]] am Q=
 (O2 (a) (n)∧
 ((@Eq (IntKind) .u32 .u32)∧
 (cT (a) 4∧
 (((@Eq (Option TV) (.some (ah n)) (.some (ah n)))∧
 ((@Eq (Option TV) (.some (cd a)) (.some (cd a)))∧
 ((@Eq (Option TV) (.some (ah n)) (.some (ah n)))∧
 True)))∧
 (((@Eq (Option TV) (.some (ah n)) (.some (ah n)))∧
 ((@Eq (Option TV) (.some (cd a)) (.some (cd a)))∧
 ((@Eq (Option TV) (.some (ah n)) (.some (ah n)))∧
 True)))∧
 (bc prog (λ_=>.none) (.slice 22 (.tmp 12) .none (.some (.tmp 15)) .none) [(12,(av (aw (4:Int) a))),(15,(ah (wrap i64 (tdiv (wrap i64 (wrap i64 (n+(8:Int))-(1:Int))) (8:Int)))))] (av q)∧
 (bb prog (λ_=>.none) 0 ⟨[(i6 a n),(i6 a n)],[]⟩ (.call ⟨(.builtin .append),#[(.tmp 9),(.tmp 16)],#[22,22]⟩) [(9,(sB [[(.val (.int .u8 (wrap u8 n)))]])),(16,(av q))] (bS c e) ⟨[(i6 a n),(i6 a n)],[((e),(1,false))]⟩∧
 Q (bS c e) ⟨[(i6 a n),(i6 a n)],[((e),(1,false))]⟩))))))):=by kernel_rfl
theorem Xa (B L:Bs)(Q:TV→VT→Prop):ar prog ae bt aT 300 (baL B L (aD prog pH 0)) 0 pH [.vec 2 L .none] am Q=
 ((aD prog pH (0:Nat)=aD prog pH (0:Nat))∧
 (((@Eq (Option Nat) .none .none)∧
 ((@Eq (Nat) 0 0)∧
 ((@Eq (List Nat) [] [])∧
 (((@Eq (Option TV) (.some aE) (.some aE))∧
 True)∧
 ((@Eq (VT) ⟨[],[(0,(1,true))]⟩ ⟨[],[(0,(1,true))]⟩)∧
 ((@Eq (Bool) true true)∧
 (@Eq (List TV) [mZ,(aY L),(ah (↑(length L):Int)),aB] [mZ,(aY L),(ah (↑(length L):Int)),aB])))))))∧
 Q (bS B (length B)) ⟨[],[((length B),(1,true))]⟩)):=by kernel_rfl
theorem G1 (B B2 L:Bs)(a n:Int)(j:Nat)(Q:Exit→List TV→VT→List Nat→Nat→Prop):vx prog ae (aF [(EM,Qp)]) (aZ [(999999,.dead,none),(10,.elt [.val (.int .u32 a),.val (.int .i64 n)],none),(15,.vec 1 B2 (.tail 0 B2.length),some λT=>{T with tails:= [(B2.length,1,true)]})]) 300 aN none 0 (cq prog pH 0) (aQ 18 LT (GZ B L j)) ⟨[],[(B.length,1,true)]⟩ [] (cN LT Q)=
 (bif decide ((↑j:Int)<(↑(length L):Int))
 then (bc prog (λ_=>.none) (.indexAddr 58 (.tmp 6) (.tmp 8)) [(6,(aY L)),(8,(ah (↑j:Int)))] (Ac a n)∧
 (xD (a) (n)∧
 (bb prog (λ_=>.none) 0 (NI a n [((length B),(1,true))]) (.call ⟨(.builtin .append),#[(.tmp 12),(.tmp 14)],#[22,22]⟩) [(12,(bS B (length B))),(14,(av (ir a n)))] (bS B2 (length B2)) (NI a n [((length B2),(1,true))])∧
 Q .normal [(bS B2 (length B2)),(aY L),(ah (↑(length L):Int)),(ah (wrap i64 ((↑j:Int)+(1:Int))))] (NI a n [((length B2),(1,true))]) [] 18)))
 else Q (.exit 0) [(bS B (length B)),(aY L),(ah (↑(length L):Int)),(ah (↑j:Int))] ⟨[],[((length B),(1,true))]⟩ [] 18):=by kernel_rfl
theorem ZD (l:Bs)(ok:Bool)(Q:TV→VT→Prop):ar prog ae bt aT 300 (ifL l ok (aD prog wI 0)) 0 wI [.vec 1 l .none,.fn (.func 169) [] []] am Q=
 ((aD prog wI (0:Nat)=aD prog wI (0:Nat))∧
 (((@Eq (Option Nat) .none .none)∧
 ((@Eq (Nat) 0 0)∧
 ((@Eq (List Nat) [] [])∧
 (True  ∧
 ((@Eq (VT) am am)∧
 ((@Eq (Bool) true true)∧
 (@Eq (List TV) [(av l),(.fn (.func 169) [] []),aB,(ah (↑(length l):Int)),aB] [(av l),(.fn (.func 169) [] []),aB,(ah (↑(length l):Int)),aB])))))))∧
 (∀z:Nat,(bif ok
 then Q (ah (-1)) am
 else Q (ah (↑z:Int)) am)))):=by kernel_rfl
theorem LU (l:Bs)(z:Int)(j:Nat)(Q:Exit→List TV→VT→List Nat→Nat→Prop):vx prog ae bt (aZ [(14,.elt [.val (.int .i64 z)],none)]) 300 aN none 0 (cq prog wI 0) (aQ 19 G0 (Bx l 0 j)) am [] (cN G0 Q)=
 (bif decide ((↑j:Int)<(↑(length l):Int))
 then (bc prog (λ_=>.none) (.indexAddr 59 (.tmp 12) (.tmp 13)) [(12,(av l)),(13,(ah (↑j:Int)))] (sD z)∧
 (bif decide (z≥(1:Int))
 then (bif !decide (z≤(65535:Int))
 then Q .ret [(av l),(.fn (.func 169) [] []),(ah (↑j:Int)),(ox l),(ah (↑j:Int))] am [] 19
 else Q .normal [(av l),(.fn (.func 169) [] []),aB,(ox l),(ah (wrap i64 ((↑j:Int)+(1:Int))))] am [] 19)
 else Q .ret [(av l),(.fn (.func 169) [] []),(ah (↑j:Int)),(ox l),(ah (↑j:Int))] am [] 19))
 else Q (.exit 0) [(av l),(.fn (.func 169) [] []),aB,(ox l),(ah (↑j:Int))] am [] 19):=by kernel_rfl
theorem Qq (l m:Bs)(ok:Bool)(Q:TV→VT→Prop):ar prog ae bt aT 300 (I7 1 l m ok (aD prog wJ 0)) 0 wJ [.vec 1 l .none,.vec 1 m .none] am Q=
 (bif ax neq (k6 (↑(length l):Int) (↑(length m):Int))
 then Q aj am
 else ((aD prog wJ (0:Nat)=aD prog wJ (0:Nat))∧
 (((@Eq (Option Nat) .none .none)∧
 ((@Eq (Nat) 0 0)∧
 ((@Eq (List Nat) [] [])∧
 (True  ∧
 ((@Eq (VT) am am)∧
 ((@Eq (Bool) true true)∧
 (@Eq (List TV) [(av l),(av m),aj,(ah (↑(length l):Int)),aB] [(av l),(av m),aj,(ah (↑(length l):Int)),aB])))))))∧
 ((@Eq (Nat) (length l) (length m))∧
 (∀z:Int,(bif ok
 then Q aI am
 else Q aj am)))))):=by kernel_rfl
theorem LV (l m:Bs)(x y:Int)(j:Nat)(Q:Exit→List TV→VT→List Nat→Nat→Prop):vx prog ae bt (aZ [(18,.elt [.val (.int .i64 x)],none),(22,.elt [.val (.int .i64 y)],none)]) 300 aN none 0 (cq prog wJ 0) (aQ 26 zo (rG 1 l m j)) am [] (cN zo Q)=
 (bif decide ((↑j:Int)<(↑(length l):Int))
 then (bc prog (λ_=>.none) (.indexAddr 59 (.tmp 16) (.tmp 17)) [(16,(av l)),(17,(ah (↑j:Int)))] (sD x)∧
 (bc prog (λ_=>.none) (.indexAddr 59 (.tmp 20) (.tmp 21)) [(20,(av m)),(21,(ah (↑j:Int)))] (sD y)∧
 (bif ax neq (k6 x y)
 then Q .ret (NH l m (↑(length l):Int) (↑j:Int)) am [] 26
 else Q .normal (NH l m (↑(length l):Int) (wrap i64 ((↑j:Int)+(1:Int)))) am [] 26)))
 else Q (.exit 0) (NH l m (↑(length l):Int) (↑j:Int)) am [] 26):=by kernel_rfl
theorem Qr (l m:Bs)(ok:Bool)(Q:TV→VT→Prop):ar prog ae bt aT 300 (I7 2 l m ok (aD prog uS 0)) 0 uS [.vec 2 l .none,.vec 2 m .none] am Q=
 (bif ax neq (k6 (↑(length l):Int) (↑(length m):Int))
 then Q aj am
 else ((aD prog uS (0:Nat)=aD prog uS (0:Nat))∧
 (((@Eq (Option Nat) .none .none)∧
 ((@Eq (Nat) 0 0)∧
 ((@Eq (List Nat) [] [])∧
 (True  ∧
 ((@Eq (VT) am am)∧
 ((@Eq (Bool) true true)∧
 (@Eq (List TV) [(aY l),(aY m),aj,(ah (↑(length l):Int)),aB] [(aY l),(aY m),aj,(ah (↑(length l):Int)),aB])))))))∧
 ((@Eq (Nat) (length l) (length m))∧
 (∀z:Int,(bif ok
 then Q aI am
 else Q aj am)))))):=by kernel_rfl
theorem LW (l m:Bs)(a n c p:Int)(j:Nat)(Q:Exit→List TV→VT→List Nat→Nat→Prop):vx prog ae bt (aZ [(18,.elt [.val (.int .u32 a),.val (.int .i64 n)],none),(22,.elt [.val (.int .u32 c),.val (.int .i64 p)],none)]) 300 aN none 0 (cq prog uS 0) (aQ 26 zo (rG 2 l m j)) am [] (cN zo Q)=
 (bif decide ((↑j:Int)<(↑(length l):Int))
 then (bc prog (λ_=>.none) (.indexAddr 58 (.tmp 16) (.tmp 17)) [(16,(aY l)),(17,(ah (↑j:Int)))] (Ac a n)∧
 (bc prog (λ_=>.none) (.indexAddr 58 (.tmp 20) (.tmp 21)) [(20,(aY m)),(21,(ah (↑j:Int)))] (Ac c p)∧
 (bif ax neq (aX ((λvs=>Value.agg (toArray vs)) ((λx=>Value.int u32 a::x) ((λx=>Value.int i64 n::x) []))) ((λvs=>Value.agg (toArray vs)) ((λx=>Value.int u32 c::x) ((λx=>Value.int i64 p::x) []))))
 then Q .ret (NG l m (↑(length l):Int) (↑j:Int)) am [] 26
 else Q .normal (NG l m (↑(length l):Int) (wrap i64 ((↑j:Int)+(1:Int)))) am [] 26)))
 else Q (.exit 0) (NG l m (↑(length l):Int) (↑j:Int)) am [] 26):=by kernel_rfl
theorem dh {k:Int}(n:Int)(hk:k≤8):IsB (aw k n):=EL (by omega)
theorem bo {k:Int}(n:Int):(aw k n).length=k.toNat:=GY _ _
theorem To:∀ro ys T K,sV ro ys T K→VCx prog ae ro eS ys T K:=by
 intro ro ys T K hw
 unfold sV at hw
 split at hw
 ·rename_i x n k
  split at hw
  ·obtain ⟨⟨⟨h1,h1b⟩,h2,h3⟩,hk⟩:=hw
   obtain ⟨n,rfl⟩:=eq_ofNat_of_zero_le h1
   obtain ⟨k,rfl⟩:=eq_ofNat_of_zero_le h2
   have hb:IsB (uQ k n):=EL (by omega)
   exact VCx.liftPure au (O1 (n:=n) (k:=k) (by omega)) (by simp only [ap,TV.ren]) (λf g=>by simp only [TV.ren,hb.ren,Tok.ren]) hk
  ·rename_i b tok
   obtain ⟨⟨⟨⟨h1,h1b⟩,h2,h3⟩,hb,hne⟩,hk⟩:=hw
   obtain ⟨n,rfl⟩:=eq_ofNat_of_zero_le h1
   obtain ⟨k,rfl⟩:=eq_ofNat_of_zero_le h2
   have hp:=dh (k:=((k:Nat):Int)) ((n:Nat):Int) h3
   refine VCx.liftPure au (Tk (n:=n) (k:=k) hb hne (tok.ren (aU []) (aU [])) (by omega)) (by simp only [ap,TV.ren,hb.ren]) (λf g=> ?_) hk
   have e:bk f g (b++aw ((k:Nat):Int) ((n:Nat):Int))=b++aw ((k:Nat):Int) ((n:Nat):Int):=by rw [cD,map_append,←cD,←cD,hb.ren,hp.ren]
   simp only [TV.ren,Tok.ren]
   exact congrArg (λz=>TV.vec 1 z .none) e
  ·exact hw.elim
 ·exact hw.elim
theorem kE {n:Int}(h0:0≤n)(h1:n≤1000000000000000):u64.wrap n=n:=by
 simp only [wrap,IntKind.bits,signed];simp;omega
theorem vU:bf prog ae (aF [(eS,sV)]):=aL λp hp=>by obtain rfl:=mem_singleton.1 hp;exact To
theorem AA {b c:Bs}(hb:IsB b)(hc:IsB c)(f g:Nat→Option Nat):bk f g (b++c)=b++c:=by
 rw [cD,map_append,←cD,←cD,hb.ren,hc.ren]
theorem AB {f:FuncId}{kd:IntKind}{k:Int}(h0:∀{n:Int},0≤n→n≤1000000000000000→VCx prog ae 0 f [.val (.slice none 0 0),.val (.int kd n)] ⟨[],[]⟩ λx T'=>x=.vec 1 (aw k n) .none∧T'=⟨[],[]⟩)
  (h1:∀{n:Int} {b:Bs} (tok:Tok),0≤n→n≤1000000000000000→IsB b→b≠ []→VCx prog ae 0 f [.vec 1 b tok,.val (.int kd n)] ⟨[],[]⟩ λx T'=>x=.vec 1 (b++aw k n) .none∧T'=⟨[],[]⟩):
  ∀ro ys T K,ky kd k ro ys T K→VCx prog ae ro f ys T K:=by
 intro ro ys T K hw
 unfold ky at hw
 split at hw
 ·rename_i x q n
  obtain ⟨rfl,hw⟩:=hw
  split at hw
  ·obtain ⟨⟨⟨g1,hn⟩,g2,g3⟩,hk⟩:=hw
   exact VCx.liftPure au (h0 g1 hn) (by simp only [ap,TV.ren]) (λf g=>by simp only [TV.ren,(dh n g3).ren,Tok.ren]) hk
  ·rename_i b tok
   obtain ⟨⟨⟨⟨g1,hn⟩,g2,g3⟩,hb,hne⟩,hk⟩:=hw
   exact VCx.liftPure au (h1 (tok.ren (aU []) (aU [])) g1 hn hb hne) (by simp only [ap,TV.ren,hb.ren]) (λf g=>by simp only [TV.ren,AA hb (dh n g3),Tok.ren]) hk
  ·exact hw.elim
 ·exact hw.elim
theorem Qs:∀ro ys T K,ky .i64 1 ro ys T K→VCx prog ae ro nY ys T K:=AB
 (λg hn=>ak ac aa vU ai (W6 _ _) (by rw [kE g hn];exact ⟨⟨⟨g,hn⟩,by decide,by decide⟩,rfl,rfl⟩))
 (λtok g hn hb hne=>ak ac aa vU ai (ZC _ tok _ _) (by rw [kE g hn];exact ⟨⟨⟨⟨g,hn⟩,by decide,by decide⟩,hb,hne⟩,rfl,rfl⟩))
theorem LX:∀ro ys T K,ky .i64 2 ro ys T K→VCx prog ae ro jH ys T K:=AB
 (λg hn=>ak ac aa vU ai (Tm _ _) (by rw [kE g hn];exact ⟨⟨⟨g,hn⟩,by decide,by decide⟩,rfl,rfl⟩))
 (λtok g hn hb hne=>ak ac aa vU ai (W7 _ tok _ _) (by rw [kE g hn];exact ⟨⟨⟨⟨g,hn⟩,by decide,by decide⟩,hb,hne⟩,rfl,rfl⟩))
theorem EN:∀ro ys T K,ky .u32 4 ro ys T K→VCx prog ae ro sU ys T K:=AB
 (λg hn=>ak ac aa vU ai (Tn _ _) (by rw [kE g hn];exact ⟨⟨⟨g,hn⟩,by decide,by decide⟩,rfl,rfl⟩))
 (λtok g hn hb hne=>ak ac aa vU ai (W8 _ tok _ _) (by rw [kE g hn];exact ⟨⟨⟨⟨g,hn⟩,by decide,by decide⟩,hb,hne⟩,rfl,rfl⟩))
theorem ZE:∀ro ys T K,Qo ro ys T K→VCx prog ae ro lM ys T K:=by
 intro ro ys T K hw
 unfold Qo at hw
 split at hw
 ·obtain ⟨⟨h1,h2⟩,hk⟩:=hw
  refine VCx.liftPure au (Gf _ h1) rfl (λ_ _=>rfl) ?_
  rw [h2];exact hk
 ·exact hw.elim
theorem Xb {n:Int}(h0:0≤n)(h1:n≤32):u8.wrap n=n:=by
 simp only [wrap,IntKind.bits,signed];simp;omega
theorem Xc {n:Int}(h0:0≤n)(h1:n≤32):i64.wrap (tdiv (i64.wrap (i64.wrap (n+8)-1)) 8)=(n+7)/8:=by
 rw [b6 (z:=n+8) (by omega) (by omega),b6 (z:=n+8-1) (by omega) (by omega),show n+8-1=n+7 by omega,Int.tdiv_eq_ediv_of_nonneg (by omega),b6 (by omega) (by omega)]
theorem EO {a n:Int}(h0:0≤n)(h1:n≤32):IsB (ir a n):=by
 obtain ⟨⟨l,hl,hz⟩,hlen⟩:=(dh (k:=4) a (by decide)).take (nZ n)
 refine ⟨⟨n::l,by unfold ir;rw [hl];rfl,λz h=> ?_⟩,by unfold ir;simp only [length_cons,length_take,bo];omega⟩
 rcases mem_cons.1 h with rfl | h
 ·omega
 ·exact hz z h
theorem Tq {a n:Int}(h:xD a n):VCx prog ae 0 EM [.agg [.val (.int .u32 a),.val (.int .i64 n)]] ⟨[],[]⟩ λx T'=>x=.vec 1 (ir a n) .none∧T'=⟨[],[]⟩:=by
 obtain ⟨⟨a0,a1⟩,⟨n0,n1⟩,hc⟩:=h
 have hS:bf prog ae (aF [(sU,ky .u32 4),(lM,Qo)]):=aL λp hp=>by
  rcases mem_cons.1 hp with rfl | hp;exact EN
  obtain rfl:=mem_singleton.1 hp;exact ZE
 have hb:=EO (a:=a) n0 n1
 have hl:(ir a n).length=1+(min (nZ n) 4):=by unfold ir;simp only [length_cons,length_take,bo];omega
 refine VCx.toLe (Q:=λT'=>T'=⟨[],[]⟩) (VCx.keepQ 0 0 (le_refl _) (le_refl _) (ak ac aa hS ai (W9 a n ((aw 4 a).take (nZ n)) (ir a n) (0+((aw 4 a).take (nZ n)).length) _) ⟨⟨⟨n0,n1⟩,hc⟩,rfl,⟨⟨a0,by omega⟩,by decide,by decide⟩,⟨rfl,rfl,rfl,trivial⟩,⟨rfl,rfl,rfl,trivial⟩,?_,?_,?_,rfl⟩))
 ·rw [Xc n0 n1]
  have h:=qk (x:=.tmp 12) (i:=.tmp 15) (l:= [(12,.vec 1 (aw 4 a) .none),(15,.val (.int .i64 ((n+7)/8)))]) (b:=aw 4 a) (tok:=.none) (k:=.i64) (z:=(n+7)/8) (n:=nZ n) rfl rfl (by omega) rfl (by rw [bo];unfold nZ;omega)
  exact h
 ·rw [Xb n0 n1]
  have h:=jV (ro:=0) (T:=⟨[.cells [.val (.int .u32 a),.val (.int .i64 n)],.cells [.val (.int .u32 a),.val (.int .i64 n)]],[]⟩) (T1:=⟨[.cells [.val (.int .u32 a),.val (.int .i64 n)],.cells [.val (.int .u32 a),.val (.int .i64 n)]],[(0,1,false)]⟩) (s:=.tmp 9) (x:=.tmp 16) (l:= [(9,.vec 1 [bT n] .full),(16,.vec 1 ((aw 4 a).take (nZ n)) .none)]) (es:= [bT n]) (es2:=(aw 4 a).take (nZ n)) (k:=0) (n:=0) (bn:=false) rfl rfl (by simp only [length_cons,length_nil,length_take,bo];omega)
  exact h
 ·simp only [TV.ren,hb.ren]
  exact .vec 1 _ _
theorem Xd:∀ro ys T K,Qp ro ys T K→VCx prog ae ro EM ys T K:=by
 intro ro ys T K hw
 unfold Qp at hw
 split at hw
 ·obtain ⟨h,hk⟩:=hw
  exact VCx.liftPure au (Tq h) rfl (λf g=>by simp only [TV.ren,(EO (a:=_) h.2.1.1 h.2.1.2).ren,Tok.ren]) hk
 ·exact hw.elim
def oz (l:List (Int × Int)):Prop:=(∀p∈l,xD p.1 p.2)∧l.length≤3200000
def bJ (l:List (Int × Int)):Bs:=l.flatMap λp=>ir p.1 p.2
theorem G2 {a n:Int}:(ir a n).length≤5:=by unfold ir;simp only [length_cons,length_take,bo];omega
theorem mM:∀l:List (Int × Int),(bJ l).length≤5*l.length
 |[]=>le_refl _
 |p::l=>by
  have:=mM l
  have h2:=G2 (a:=p.1) (n:=p.2)
  simp only [bJ,flatMap_cons,length_append,length_cons] at this ⊢
  omega
theorem mN:∀{l:List (Int × Int)},oz l→IsB (bJ l)
 |[],_=>.nil
 |p::l,h=>by
  have h1:=mN (l:=l) ⟨λq hq=>h.1 q (mem_cons_of_mem _ hq),by have:=h.2;simp only [length_cons] at this;omega⟩
  obtain ⟨⟨m,hm,hz⟩,_⟩:=h1
  obtain ⟨⟨k,hk,hy⟩,_⟩:=EO (a:=p.1) (h.1 p mem_cons_self).2.1.1 (h.1 p mem_cons_self).2.1.2
  have hl:=mM (p::l)
  have h2:=h.2
  refine ⟨⟨k++m,?_,λz h=> ?_⟩,by omega⟩
  ·show ir p.1 p.2++bJ l=_
   rw [hk,hm,bV,bV,bV,map_append]
  ·rcases mem_append.1 h with h | h
   ·exact hy z h
   ·exact hz z h
theorem LY {l:List (Int × Int)}{j:Nat}(h:j<l.length):bJ (l.take (j+1))=bJ (l.take j)++ir l[j].1 l[j].2:=by
 unfold bJ
 rw [take_add_one,getElem?_eq_getElem h,List.flatMap_append]
 simp
theorem AC (objs:List VO)(A c:Bs)(h:A.length+c.length≤32000000)(s x:Nat)(hne:beq s x=false):bb prog ae 0 ⟨objs,[(A.length,1,true)]⟩ (.call ⟨.builtin .append,#[.tmp s,.tmp x],#[22,22]⟩) [(s,.vec 1 A (.tail 0 A.length)),(x,.vec 1 c .none)] (.vec 1 (A++c) (.tail 0 (A++c).length)) ⟨objs,[((A++c).length,1,true)]⟩:=by
 have h:=jV (ro:=0) (T:=⟨objs,[(A.length,1,true)]⟩) (T1:=⟨objs,[(A.length,1,true)]⟩) (s:=.tmp s) (x:=.tmp x) (l:= [(s,.vec 1 A (.tail 0 A.length)),(x,.vec 1 c .none)]) (es:=A) (es2:=c) (k:=0) (n:=A.length) (bn:=true) (by simp [aP,eO,cM]) (by simp [aP,eO,hne,fP]) (by omega)
 rw [length_append]
 exact h
theorem sW {x i:Operand}{l:List (Nat × TV)}{es:Bs}{tok:Tok}{k:IntKind}{z:Int}{cs:List TV}(hx:aP ae l x=.vec 2 es tok)(hz:aP ae l i=.val (.int k z))(h0:0≤z)(he:es[z.toNat]?=some cs):bc prog ae (.indexAddr 58 x i) l (.elt cs):=by
 obtain ⟨inf,i1,i2,i3,i4⟩:=pn
 exact dy (inf:=inf) underlying58 i1 (by rw [i2];exact hx) hz h0 he
theorem O3 {l:List (Int × Int)}(hl:oz l):dd prog ae (baL (bJ l) (l.map cP) (aD prog pH 0)):=bA λp hp=>by
 obtain rfl:=mem_singleton.1 hp
 have hS:bf prog ae (aF [(EM,Qp)]):=aL λp hp=>by obtain rfl:=mem_singleton.1 hp;exact Xd
 refine b9 λK hK=> ?_
 have htk:∀j,oz (l.take j):=λj=>⟨λp hp=>hl.1 p (mem_of_mem_take hp),by have:=hl.2;rw [length_take];omega⟩
 refine dO (f:=pH) (id:=0) (by kernel_rfl) 18 LT (λj:Nat=>l.length-j) (λj:Nat=>GZ (bJ (l.take j)) (l.map cP) j) (λj=>⟨[],[((bJ (l.take j)).length,1,true)]⟩) (λj=>j≤l.length) 0 1 (λ_ _=>⟨le_refl _,le_refl _⟩)
  (λe vs T=>e=.normal∧vs=GZ (bJ l) (l.map cP) (l.map cP).length∧T=⟨[],[((bJ l).length,1,true)]⟩) (λj hj=> ?_) 0 (zero_le _) K ?_
 ·by_cases hlt:j<l.length
  ·have hat:(l.map cP)[((j:Nat):Int).toNat]?=some (cP l[j]):=by rw [toNat_natCast,getElem?_map,getElem?_eq_getElem hlt];rfl
   have hp:=hl.1 _ (getElem_mem hlt)
   have hb1:=mM (l.take j)
   have hb2:=G2 (a:=l[j].1) (n:=l[j].2)
   have hll:=hl.2
   rw [length_take] at hb1
   have ht:=AC [.cells (cP l[j])] (bJ (l.take j)) (ir l[j].1 l[j].2) (by omega) 12 14 rfl
   rw [←LY hlt] at ht
   refine bF ac aa hS ai (G1 (bJ (l.take j)) (bJ (l.take (j+1))) (l.map cP) l[j].1 l[j].2 j _) ?_
   refine aS (decide_eq_true (by rw [length_map];omega)) ⟨sW rfl rfl (by omega) hat,hp,ht,rfl,rfl,j+1,hlt,by show l.length-(j+1)<l.length-j;omega,.inr ⟨rfl,?_⟩⟩
   simp only [ap,TV.ren,jz,(mN (htk (j+1))).ren,Tok.ren]
   rw [gO hlt (by omega)]
   rfl
  ·have hj2:j=l.length:=by omega
   refine bF ac aa hS ai (G1 (bJ (l.take j)) [] (l.map cP) 0 0 j _) ?_
   subst hj2
   exact aO (decide_eq_false (by rw [length_map];omega)) ⟨rfl,rfl,rfl,by simp only [GZ,length_map,take_length],by rw [take_length]⟩
 ·rintro e vs T ⟨rfl,rfl,rfl⟩
  exact hK
theorem Tr {l:List (Int × Int)}(hl:oz l):VCx prog ae 0 pH [.vec 2 (l.map cP) .none] ⟨[],[]⟩ λx T'=>x=.vec 1 (bJ l) .none∧T'=⟨[],[]⟩:=by
 refine VCx.toLe (Q:=λT'=>T'=⟨[],[]⟩) (VCx.keepQ 0 0 (le_refl _) (le_refl _) (ak ac aa an (O3 hl) (Xa (bJ l) (l.map cP) _) ⟨rfl,⟨rfl,rfl,rfl,⟨rfl,trivial⟩,rfl,rfl,rfl⟩,?_,rfl⟩))
 simp only [TV.ren,(mN hl).ren]
 exact .vec 1 _ _
def fc (z:Int):Bool:=decide (z≥1)&&decide (z≤65535)
theorem Tt {l:List Int}(hn:l.length≤64000000):dd prog ae (ifL (iV l) (l.all fc) (aD prog wI 0)):=bA λp hp=>by
 obtain rfl:=mem_singleton.1 hp
 refine b9 λK hK=> ?_
 refine dO (f:=wI) (id:=0) (by kernel_rfl) 19 G0 (λj:Nat=>l.length-j) (λj:Nat=>Bx (iV l) 0 j) (λ_=>⟨[],[]⟩) (λj=>j≤l.length∧(l.take j).all fc=true) 0 0 (λ_ _=>⟨le_refl _,le_refl _⟩)
  (λe vs T=>T=⟨[],[]⟩∧((e=.normal∧l.all fc=true∧vs=Bx (iV l) 0 (iV l).length)∨(e=.ret∧l.all fc=false∧∃z:Nat,vs=Bx (iV l) z z))) (λj hj=> ?_) 0 ⟨zero_le _,rfl⟩ K ?_
 ·obtain ⟨hj,hall⟩:=hj
  by_cases hlt:j<l.length
  ·have hat:(iV l)[((j:Nat):Int).toNat]?=some (iT l[j]):=by rw [toNat_natCast,iV,getElem?_map,getElem?_eq_getElem hlt];rfl
   have bad:fc l[j]=false→l.all fc=false:=λh=>by
    cases hc:l.all fc
    ·rfl
    ·have:=all_eq_true.1 hc _ (getElem_mem hlt);rw [h] at this;cases this
   refine bF ac aa an ai (LU (iV l) l[j] j _) ?_
   refine aS (decide_eq_true (by rw [dH];omega)) ⟨kO rfl rfl (by omega) hat,aq (λc1=>aq (λc2=> ?_) (λc2=> ?_)) (λc1=> ?_)⟩
   ·exact ⟨rfl,rfl,rfl,.inr ⟨rfl,bad (by unfold fc;rw [c1];cases h:decide (l[j]≤65535)<;>rw [h] at c2<;>first | rfl | cases c2),j,rfl⟩⟩
   ·have c2:decide (l[j]≤65535)=true:=by cases h:decide (l[j]≤65535)<;>rw [h] at c2<;>first | rfl | cases c2
    refine ⟨rfl,rfl,j+1,⟨hlt,?_⟩,by show l.length-(j+1)<l.length-j;omega,.inl ⟨rfl,by rw [gO hlt hn];rfl⟩⟩
    rw [take_add_one,getElem?_eq_getElem hlt,List.all_append,hall]
    simp only [toList_some,List.all_cons,all_nil,Bool.and_true,Bool.true_and]
    unfold fc;rw [c1,c2];rfl
   ·exact ⟨rfl,rfl,rfl,.inr ⟨rfl,bad (by unfold fc;rw [c1];rfl),j,rfl⟩⟩
  ·have hj2:j=l.length:=by omega
   subst hj2
   rw [take_length] at hall
   refine bF ac aa an ai (LU (iV l) 0 l.length _) ?_
   exact aO (decide_eq_false (by rw [dH];omega)) ⟨rfl,rfl,rfl,.inl ⟨rfl,hall,congrArg (λz:Int=>Bx (iV l) 0 z) (by rw [dH])⟩⟩
 ·rintro e vs T ⟨rfl,⟨rfl,h1,rfl⟩ | ⟨rfl,h1,z,rfl⟩⟩
  ·have:=hK 0;rw [h1] at this;exact this
  ·have:=hK z;rw [h1] at this;exact this
--bumped 32
theorem aa7 (a n c p:Int):ax neq (aX (.agg #[.int .u32 a,.int .i64 n]) (.agg #[.int .u32 c,.int .i64 p]))= !(decide (a=c)&&decide (n=p)):=by
 simp [ax,aX,dY,cg,Bool.beq_eq_decide_eq]
def bm (l:List (Int × Int)):Bs:=l.map cP
theorem G3 {l m:List Int}(hn:l.length≤64000000):dd prog ae (I7 1 (iV l) (iV m) (decide (l=m)) (aD prog wJ 0)):=bA λp hp=>by
 obtain rfl:=mem_singleton.1 hp
 have hL:∀l:List Int,(iV l).length=l.length:=λl=>length_map _
 refine b9 λK hK=> ?_
 obtain ⟨hlm,hK⟩:=hK
 rw [hL,hL] at hlm
 refine dO (f:=wJ) (id:=0) (by kernel_rfl) 26 zo (λj:Nat=>l.length-j) (λj:Nat=>rG 1 (iV l) (iV m) j) (λ_=>⟨[],[]⟩) (λj=>j≤l.length∧l.take j=m.take j) 0 0 (λ_ _=>⟨le_refl _,le_refl _⟩)
  (λe vs T=>T=⟨[],[]⟩∧((e=.normal∧l=m∧vs=rG 1 (iV l) (iV m) (iV l).length)∨(e=.ret∧l≠m∧∃z:Int,vs=rG 1 (iV l) (iV m) z))) (λj hj=> ?_) 0 ⟨zero_le _,rfl⟩ K ?_
 ·obtain ⟨hj,hall⟩:=hj
  by_cases hlt:j<l.length
  ·have hlt2:j<m.length:=by omega
   have hat:(iV l)[((j:Nat):Int).toNat]?=some (iT l[j]):=by rw [toNat_natCast];show (l.map _)[j]?=_;rw [getElem?_map,getElem?_eq_getElem hlt];rfl
   have hat2:(iV m)[((j:Nat):Int).toNat]?=some (iT m[j]):=by rw [toNat_natCast];show (m.map _)[j]?=_;rw [getElem?_map,getElem?_eq_getElem hlt2];rfl
   refine bF ac aa an ai (LV (iV l) (iV m) l[j] m[j] j _) ?_
   refine aS (decide_eq_true (by rw [hL];omega)) ⟨kO rfl rfl (by omega) hat,kO rfl rfl (by omega) hat2,?_⟩
   rw [ep]
   refine aq (λc1=> ?_) (λc1=> ?_)
   ·refine ⟨rfl,rfl,rfl,.inr ⟨rfl,λh=> ?_,j,rfl⟩⟩
    subst h
    simp at c1
   ·refine ⟨rfl,rfl,j+1,⟨hlt,?_⟩,by show l.length-(j+1)<l.length-j;omega,.inl ⟨rfl,by rw [gO hlt hn];rfl⟩⟩
    have he:l[j]=m[j]:=by simpa using c1
    rw [take_add_one,getElem?_eq_getElem hlt,take_add_one,getElem?_eq_getElem hlt2,hall,he]
  ·have hj2:j=l.length:=by omega
   subst hj2
   rw [take_length,hlm,take_length] at hall
   refine bF ac aa an ai (LV (iV l) (iV m) 0 0 l.length _) ?_
   exact aO (decide_eq_false (by rw [hL];omega)) ⟨rfl,rfl,rfl,.inl ⟨rfl,hall,by simp only [rG,hL]⟩⟩
 ·rintro e vs T ⟨rfl,⟨rfl,h1,rfl⟩ | ⟨rfl,h1,z,rfl⟩⟩
  ·have:=hK 0;rw [decide_eq_true h1] at this;exact this
  ·have:=hK z;rw [decide_eq_false h1] at this;exact this
theorem Xe {l m:List Int}(hn:l.length≤64000000):VCx prog ae 0 wJ [.vec 1 (iV l) .none,.vec 1 (iV m) .none] ⟨[],[]⟩ λx T'=>x=.val (.bool (decide (l=m)))∧T'=⟨[],[]⟩:=by
 have hL:∀l:List Int,(iV l).length=l.length:=λl=>length_map _
 refine VCx.keepQ 0 0 (le_refl _) (le_refl _) ?_
 by_cases hlm:l.length=m.length
 ·refine ak ac aa an (G3 hn) (Qq (iV l) (iV m) _ _) ?_
  rw [ep,hL,hL]
  refine aO (by rw [decide_eq_true (by omega)];rfl) ⟨rfl,⟨rfl,rfl,rfl,trivial,rfl,rfl,by rw [←hL l]⟩,hlm,λz=> ?_⟩
  by_cases h:l=m
  ·rw [decide_eq_true h];exact ⟨rfl,rfl⟩
  ·rw [decide_eq_false h];exact ⟨rfl,rfl⟩
 ·have hne:l≠m:=λh=>hlm (by rw [h])
  refine ak ac aa an (G3 hn) (Qq (iV l) (iV m) _ _) ?_
  rw [ep,hL,hL]
  exact aS (by rw [decide_eq_false (by omega)];rfl) ⟨by rw [decide_eq_false hne];rfl,rfl⟩
theorem G4 {l m:List (Int × Int)}(hn:l.length≤64000000):dd prog ae (I7 2 (bm l) (bm m) (decide (l=m)) (aD prog uS 0)):=bA λp hp=>by
 obtain rfl:=mem_singleton.1 hp
 have hL:∀l:List (Int × Int),(bm l).length=l.length:=λl=>length_map _
 refine b9 λK hK=> ?_
 obtain ⟨hlm,hK⟩:=hK
 rw [hL,hL] at hlm
 refine dO (f:=uS) (id:=0) (by kernel_rfl) 26 zo (λj:Nat=>l.length-j) (λj:Nat=>rG 2 (bm l) (bm m) j) (λ_=>⟨[],[]⟩) (λj=>j≤l.length∧l.take j=m.take j) 0 0 (λ_ _=>⟨le_refl _,le_refl _⟩)
  (λe vs T=>T=⟨[],[]⟩∧((e=.normal∧l=m∧vs=rG 2 (bm l) (bm m) (bm l).length)∨(e=.ret∧l≠m∧∃z:Int,vs=rG 2 (bm l) (bm m) z))) (λj hj=> ?_) 0 ⟨zero_le _,rfl⟩ K ?_
 ·obtain ⟨hj,hall⟩:=hj
  by_cases hlt:j<l.length
  ·have hlt2:j<m.length:=by omega
   have hat:(bm l)[((j:Nat):Int).toNat]?=some (cP l[j]):=by rw [toNat_natCast];show (l.map _)[j]?=_;rw [getElem?_map,getElem?_eq_getElem hlt];rfl
   have hat2:(bm m)[((j:Nat):Int).toNat]?=some (cP m[j]):=by rw [toNat_natCast];show (m.map _)[j]?=_;rw [getElem?_map,getElem?_eq_getElem hlt2];rfl
   refine bF ac aa an ai (LW (bm l) (bm m) l[j].1 l[j].2 m[j].1 m[j].2 j _) ?_
   refine aS (decide_eq_true (by rw [hL];omega)) ⟨sW rfl rfl (by omega) hat,sW rfl rfl (by omega) hat2,?_⟩
   rw [aa7]
   refine aq (λc1=> ?_) (λc1=> ?_)
   ·refine ⟨rfl,rfl,rfl,.inr ⟨rfl,λh=> ?_,j,rfl⟩⟩
    subst h
    simp at c1
   ·refine ⟨rfl,rfl,j+1,⟨hlt,?_⟩,by show l.length-(j+1)<l.length-j;omega,.inl ⟨rfl,by rw [gO hlt hn];rfl⟩⟩
    have he:l[j]=m[j]:=by simp at c1;exact Prod.ext c1.1 c1.2
    rw [take_add_one,getElem?_eq_getElem hlt,take_add_one,getElem?_eq_getElem hlt2,hall,he]
  ·have hj2:j=l.length:=by omega
   subst hj2
   rw [take_length,hlm,take_length] at hall
   refine bF ac aa an ai (LW (bm l) (bm m) 0 0 0 0 l.length _) ?_
   exact aO (decide_eq_false (by rw [hL];omega)) ⟨rfl,rfl,rfl,.inl ⟨rfl,hall,by simp only [rG,hL]⟩⟩
 ·rintro e vs T ⟨rfl,⟨rfl,h1,rfl⟩ | ⟨rfl,h1,z,rfl⟩⟩
  ·have:=hK 0;rw [decide_eq_true h1] at this;exact this
  ·have:=hK z;rw [decide_eq_false h1] at this;exact this
theorem Xf {l m:List (Int × Int)}(hn:l.length≤64000000):VCx prog ae 0 uS [.vec 2 (bm l) .none,.vec 2 (bm m) .none] ⟨[],[]⟩ λx T'=>x=.val (.bool (decide (l=m)))∧T'=⟨[],[]⟩:=by
 have hL:∀l:List (Int × Int),(bm l).length=l.length:=λl=>length_map _
 refine VCx.keepQ 0 0 (le_refl _) (le_refl _) ?_
 by_cases hlm:l.length=m.length
 ·refine ak ac aa an (G4 hn) (Qr (bm l) (bm m) _ _) ?_
  rw [ep,hL,hL]
  refine aO (by rw [decide_eq_true (by omega)];rfl) ⟨rfl,⟨rfl,rfl,rfl,trivial,rfl,rfl,by rw [←hL l]⟩,hlm,λz=> ?_⟩
  by_cases h:l=m
  ·rw [decide_eq_true h];exact ⟨rfl,rfl⟩
  ·rw [decide_eq_false h];exact ⟨rfl,rfl⟩
 ·have hne:l≠m:=λh=>hlm (by rw [h])
  refine ak ac aa an (G4 hn) (Qr (bm l) (bm m) _ _) ?_
  rw [ep,hL,hL]
  exact aS (by rw [decide_eq_false (by omega)];rfl) ⟨by rw [decide_eq_false hne];rfl,rfl⟩
--bumped 32
def I8 (fl t:Int)(v:Bs):List TV:= [.val (.int .i64 fl),.val (.int .i64 t),.vec 1 v .none]
def By (b:Bs):List Int:=b.map fZ
def uT (b:Bs):Bool:= !(By b).all fc
def G5 (a b:Bs):Bool:=decide (By a=By b)
def qQ (b:Bs):Prop:=IvWf b
def Xg (fl t:Int)(v:Bs):Prop:=kQ fl t v
def Xh (fl t:Int)(v:Bs):Bs:=dn fl t v
def jnR:List TV→Bs
 |[.val (.int _ fl),.val (.int _ t),.vec _ v _]=>dn fl t v
 |_=> []
def Xi (L:Bs):Bs:=L.flatMap jnR
def EP (L v:Bs):Prop:=v=Xi L
def I9 (L:Bs):Prop:=∃l:List (Int × Int × Bs),L=l.map (λr=>I8 r.1 r.2.1 r.2.2)∧l.length≤10∧∀r∈l,kQ r.1 r.2.1 r.2.2∧r.2.2.length≤1000
def Xj (b:Bs):Prop:=∃l:List Int,b=iV l∧l.length≤16∧l.all fc=true
def fW (l:List Int):Bs:=l.flatMap λz=>aw 2 z
def fB (b:Bs):Bs:=bif b.isEmpty then [] else aw 1 2++aw 1 b.length++fW (By b)
structure AtV where
 o:Int
 p:List Int
 h:Int
 m:Int
 hm:Bool
deriving DecidableEq
def AtV.cells (a:AtV):List TV:= [.val (.int .i64 a.o),.vec 1 (iV a.p) .none,.val (.int .u32 a.h),.val (.int .i64 a.m),.val (.bool a.hm)]
def ji (a:AtV):Bool:=decide (0≤a.o)&&(decide (a.o≤2)&&(pq a.h&&(decide (a.p.length≤16)&&(a.p.all fc&&(bif a.hm then decide (0≤a.m)&&decide (a.m≤4294967295) else decide (a.m=0))))))
def O4 (l:List TV)(ok:Bool):Prop:=∃a:AtV,l=a.cells∧a.p.length≤64000000∧ok=ji a
abbrev LZ:=168
abbrev uU:=171
abbrev uV:=172
abbrev EQ:=149
abbrev L0:=150
abbrev Bz:=106
def Xk:aW:=λ_ ys T K=>match ys with
 |[.vec 1 l _,.fn (.func 169) [] []]=>qQ l∧bif uT l then ∀z:Nat,K (.val (.int .i64 (ofNat z))) T else K (.val (.int .i64 (-1))) T
 |_=>aJ 84 default ys
def Qt:aW:=λ_ ys T K=>match ys with
 |[.vec 1 l _,.fn (.func 169) [] []]=>qQ l∧K (.val (.bool (uT l))) T
 |_=>aJ 84 default ys
def Ja:aW:=λ_ ys T K=>match ys with
 |[.agg [.val (.int .i64 fl),.val (.int .i64 t),.vec 1 v .none]]=>Xg fl t v∧K (.vec 1 (Xh fl t v) .none) T
 |_=>aJ 84 default ys
def Qu:aW:=λ_ ys T K=>match ys with
 |[.vec 3 l _]=>I9 l∧∀v:Bs,EP l v→K (.vec 1 v .none) T
 |_=>aJ 84 default ys
def Qv:aW:=λ_ ys T K=>match ys with
 |[.vec 1 l _]=>Xj l∧K (.vec 1 (fB l) .none) T
 |_=>aJ 84 default ys
def G6 (ok:Bool):aW:=λ_ ys T K=>match ys with
 |[.agg l]=>O4 l ok∧K (.val (.bool ok)) T
 |_=>aJ 84 default ys
def Xl:aW:=λ_ ys T K=>match ys with
 |[.vec 1 l _,.vec 1 m _]=>(qQ l∧qQ m)∧K (.val (.bool (G5 l m))) T
 |_=>aJ 84 default ys
def L1:List Nat:= [3,13,14,15]
def ER (B l:Bs)(j:Int):List TV:= [.vec 1 B .none,.vec 1 l .none,.val (.int .i64 l.length),.val (.int .i64 j)]
def sgL (B0 B l:Bs)(c0:Code):Nat→Option (bN × Code):=ct [(0,dE 24 L1 [] (ER B0 l 0) ⟨[],[]⟩ λK=>K .normal (aQ 24 L1 (ER B l l.length)) ⟨[],[]⟩ [],c0)]
def L2:List Nat:= [3,6,7,8]
def G7 (B L:Bs)(j:Int):List TV:= [.vec 1 B (.tail 0 B.length),.vec 3 L .none,.val (.int .i64 L.length),.val (.int .i64 j)]
def jnL (B L:Bs)(c0:Code):Nat→Option (bN × Code):=ct [(0,Ic 18 L2 [(3,1)] [6] (G7 [] L 0) ⟨[],[(0,1,true)]⟩ λK=>K .normal (aQ 18 L2 (G7 B L L.length)) ⟨[],[(B.length,1,true)]⟩ [],c0)]
theorem ZF (l:Bs)(Q:TV→VT→Prop):ar prog ae (aF [(wI,Xk)]) aT 300 aN 0 LZ [.vec 1 l .none,.fn (.func 169) [] []] am Q=
 (qQ (l)∧
 (bif uT l
 then (∀z:Nat,Q aI am)
 else Q aj am)):=by kernel_rfl
theorem ZG (B0 B l:Bs)(Q:TV→VT→Prop):ar prog ae (aF [(nY,ky .i64 1),(jH,ky .i64 2)]) aT 300 (sgL B0 B l (aD prog uU 0)) 0 uU [.vec 1 l .none] am Q=
 (bif ax eql (k6 (↑(length l):Int) (0:Int))
 then Q aE am
 else ((@Eq (IntKind) .i64 .i64)∧
 (cT 2 1∧
 ((@Eq (IntKind) .i64 .i64)∧
 ((cT ((↑(length l):Int)) 1∧
 iP (aw (1:Int) (2:Int)))∧
 ((aD prog uU (0:Nat)=aD prog uU (0:Nat))∧
 (((@Eq (Option Nat) .none .none)∧
 ((@Eq (Nat) 0 0)∧
 ((@Eq (List Nat) [] [])∧
 (True  ∧
 ((@Eq (VT) am am)∧
 ((@Eq (Bool) true true)∧
 (@Eq (List TV) [(av (aw (1:Int) (2:Int)++aw (1:Int) (↑(length l):Int))),(av l),(ah (↑(length l):Int)),aB] [(av B0),(av l),(ah (↑(length l):Int)),aB])))))))∧
 Q (av B) am))))))):=by kernel_rfl
theorem L3 (B l:Bs)(z:Int)(j:Nat)(Q:Exit→List TV→VT→List Nat→Nat→Prop):vx prog ae (aF [(nY,ky .i64 1),(jH,ky .i64 2)]) (aZ [(17,.elt [.val (.int .i64 z)],none)]) 300 aN none 0 (cq prog uU 0) (aQ 24 L1 (ER B l j)) am [] (cN L1 Q)=
 (bif decide ((↑j:Int)<(↑(length l):Int))
 then (bc prog (λ_=>.none) (.indexAddr 59 (.tmp 13) (.tmp 15)) [(13,(av l)),(15,(ah (↑j:Int)))] (sD z)∧
 ((@Eq (IntKind) .i64 .i64)∧
 ((cT (z) 2∧
 iP (B))∧
 Q .normal [(av (B++aw (2:Int) z)),(av l),(ah (↑(length l):Int)),(ah (wrap i64 ((↑j:Int)+(1:Int))))] am [] 24)))
 else Q (.exit 0) [(av B),(av l),(ah (↑(length l):Int)),(ah (↑j:Int))] am [] 24):=by kernel_rfl
theorem ZH (B L:Bs)(Q:TV→VT→Prop):ar prog ae bt aT 300 (jnL B L (aD prog uV 0)) 0 uV [.vec 3 L .none] am Q=
 ((aD prog uV (0:Nat)=aD prog uV (0:Nat))∧
 (((@Eq (Option Nat) .none .none)∧
 ((@Eq (Nat) 0 0)∧
 ((@Eq (List Nat) [] [])∧
 (((@Eq (Option TV) (.some aE) (.some aE))∧
 True)∧
 ((@Eq (VT) ⟨[],[(0,(1,true))]⟩ ⟨[],[(0,(1,true))]⟩)∧
 ((@Eq (Bool) true true)∧
 (@Eq (List TV) [mZ,(oq L),(ah (↑(length L):Int)),aB] [mZ,(oq L),(ah (↑(length L):Int)),aB])))))))∧
 Q (bS B (length B)) ⟨[],[((length B),(1,true))]⟩)):=by kernel_rfl
theorem L5 (B B2 L v:Bs)(fl t:Int)(j:Nat)(Q:Exit→List TV→VT→List Nat→Nat→Prop):vx prog ae (aF [(qN,Ja)]) (aZ [(999999,.dead,none),(10,.elt (I8 fl t v),none),(15,.vec 1 B2 (.tail 0 B2.length),some λT=>{T with tails:= [(B2.length,1,true)]})]) 300 aN none 0 (cq prog uV 0) (aQ 18 L2 (G7 B L j)) ⟨[],[(B.length,1,true)]⟩ [] (cN L2 Q)=
 (bif decide ((↑j:Int)<(↑(length L):Int))
 then (bc prog (λ_=>.none) (.indexAddr 199 (.tmp 6) (.tmp 8)) [(6,(oq L)),(8,(ah (↑j:Int)))] (.elt [(ah fl),(ah t),(av v)])∧
 (Xg (fl) (t) (v)∧
 (bb prog (λ_=>.none) 0 ⟨[(en fl t v)],[((length B),(1,true))]⟩ (.call ⟨(.builtin .append),#[(.tmp 12),(.tmp 14)],#[22,22]⟩) [(12,(bS B (length B))),(14,(av (Xh fl t v)))] (bS B2 (length B2)) ⟨[(en fl t v)],[((length B2),(1,true))]⟩∧
 Q .normal [(bS B2 (length B2)),(oq L),(ah (↑(length L):Int)),(ah (wrap i64 ((↑j:Int)+(1:Int))))] ⟨[(en fl t v)],[((length B2),(1,true))]⟩ [] 18)))
 else Q (.exit 0) [(bS B (length B)),(oq L),(ah (↑(length L):Int)),(ah (↑j:Int))] ⟨[],[((length B),(1,true))]⟩ [] 18):=by kernel_rfl
abbrev zp (m:Int):TV:=(cS (ax eql (k6 m (0:Int))))
abbrev zq (m:Int):TV:=(cS (decide (m≤(4294967295:Int))))
theorem ZI (o h m:Int)(hm:Bool)(p:Bs)(Q:TV→VT→Prop):ar prog ae (aF [(LZ,Qt),(xt,xu)]) (aZ [(999998,.dead,none)]) 300 aN 0 EQ [.agg [.val (.int .i64 o),.vec 1 p .none,.val (.int .u32 h),.val (.int .i64 m),.val (.bool hm)]] am Q=
 (bif decide (o<(0:Int))
 then Q aj (f9 o p h m hm)
 else (bif decide (o>(2:Int))
 then (bif decide (o>(2:Int))
 then Q aj (f9 o p h m hm)
 else (bif decide ((↑(length p):Int)>(16:Int))
 then (bif decide ((↑(length p):Int)>(16:Int))
 then Q aj (f9 o p h m hm)
 else (bif !hm
 then Q (zp m) (f9 o p h m hm)
 else (bif decide (m≥(0:Int))
 then Q (zq m) (f9 o p h m hm)
 else Q aj (f9 o p h m hm))))
 else (qQ (p)∧
 (bif uT p
 then Q aj (f9 o p h m hm)
 else (bif !hm
 then Q (zp m) (f9 o p h m hm)
 else (bif decide (m≥(0:Int))
 then Q (zq m) (f9 o p h m hm)
 else Q aj (f9 o p h m hm)))))))
 else (bif !pq h
 then Q aj (f9 o p h m hm)
 else (bif decide ((↑(length p):Int)>(16:Int))
 then (bif decide ((↑(length p):Int)>(16:Int))
 then Q aj (f9 o p h m hm)
 else (bif !hm
 then Q (zp m) (f9 o p h m hm)
 else (bif decide (m≥(0:Int))
 then Q (zq m) (f9 o p h m hm)
 else Q aj (f9 o p h m hm))))
 else (qQ (p)∧
 (bif uT p
 then Q aj (f9 o p h m hm)
 else (bif !hm
 then Q (zp m) (f9 o p h m hm)
 else (bif decide (m≥(0:Int))
 then Q (zq m) (f9 o p h m hm)
 else Q aj (f9 o p h m hm))))))))):=by kernel_rfl
theorem ZJ (o h m:Int)(hm ok:Bool)(p L4:Bs)(Q:TV→VT→Prop):ar prog ae (aF [(EQ,G6 ok),(nY,ky .i64 1),(sU,ky .u32 4),(uU,Qv),(uV,Qu)]) (aZ [(999998,.dead,none),(29,.vec 3 L4 (.tail 0 1),some λT=>{T with tails:= [(1,3,false)]})]) 300 aN 0 L0 [.agg [.val (.int .i64 o),.vec 1 p .none,.val (.int .u32 h),.val (.int .i64 m),.val (.bool hm)]] am Q=
 (O4 (ub o p h m hm) (ok)∧
 (bif !ok
 then Q aE (f9 o p h m hm)
 else ((@Eq (IntKind) .i64 .i64)∧
 (cT (o) 1∧
 (((@Eq (Option TV) (.some (cd h)) (.some (cd h)))∧
 ((@Eq (Option TV) (.some (av p)) (.some (av p)))∧
 ((@Eq (Option TV) (.some (ah o)) (.some (ah o)))∧
 True)))∧
 (Xj (p)∧
 (((@Eq (Option TV) (.some (cd h)) (.some (cd h)))∧
 ((@Eq (Option TV) (.some (av p)) (.some (av p)))∧
 ((@Eq (Option TV) (.some (ah o)) (.some (ah o)))∧
 True)))∧
 ((@Eq (IntKind) .u32 .u32)∧
 (cT (h) 4∧
 (bif hm
 then ((@Eq (IntKind) .u32 .u32)∧
 (cT (wrap u32 m) 4∧
 (bb prog (λ_=>.none) 0 (f9 o p h m hm) (.call ⟨(.builtin .append),#[(.tmp 22),(.tmp 28)],#[199,199]⟩) [(22,(.vec 3 [[(.val (.int .i64 64)),(.val (.int .i64 1)),(.vec 1 (aw (1:Int) o) .none)],[(.val (.int .i64 64)),(.val (.int .i64 2)),(.vec 1 (fB p) .none)],[(.val (.int .i64 64)),(.val (.int .i64 3)),(.vec 1 (aw (4:Int) h) .none)]] .full)),(28,(.vec 3 [[(.val (.int .i64 128)),(.val (.int .i64 4)),(.vec 1 (aw (4:Int) (wrap u32 m)) .none)]] .full))] (.vec 3 L4 (.tail 0 1)) ⟨[(pf o p h m hm)],[(1,(3,false))]⟩∧
 (I9 (L4)∧
 (∀v:Bs,(EP (L4) (v)→Q (av v) ⟨[(pf o p h m hm)],[(1,(3,false))]⟩))))))
 else (I9 [[sy,dK,(av (aw (1:Int) o))],[sy,dk,(av (fB p))],[sy,dV,(av (aw (4:Int) h))]]∧
 (∀v:Bs,(EP [[sy,dK,(av (aw (1:Int) o))],[sy,dk,(av (fB p))],[sy,dV,(av (aw (4:Int) h))]] (v)→Q (av v) (f9 o p h m hm)))))))))))))):=by kernel_rfl
theorem ZK (o h m o2 h2 m2:Int)(hm hm2:Bool)(p p2:Bs)(Q:TV→VT→Prop):ar prog ae (aF [(wJ,Xl)]) (aZ [(999998,.dead,none)]) 300 aN 0 Bz [.agg [.val (.int .i64 o),.vec 1 p .none,.val (.int .u32 h),.val (.int .i64 m),.val (.bool hm)],.agg [.val (.int .i64 o2),.vec 1 p2 .none,.val (.int .u32 h2),.val (.int .i64 m2),.val (.bool hm2)]] am Q=
 (bif ax eql (k6 o o2)
 then (bif ax eql (aX (Value.int u32 h) (Value.int u32 h2))
 then (bif ax eql (k6 m m2)
 then (bif ax eql (aX (Value.bool hm) (Value.bool hm2))
 then ((qQ (p)∧
 qQ (p2))∧
 Q (cS (G5 p p2)) (j9 o p h m hm o2 p2 h2 m2 hm2))
 else Q aj (j9 o p h m hm o2 p2 h2 m2 hm2))
 else Q aj (j9 o p h m hm o2 p2 h2 m2 hm2))
 else Q aj (j9 o p h m hm o2 p2 h2 m2 hm2))
 else Q aj (j9 o p h m hm o2 p2 h2 m2 hm2)):=by kernel_rfl
--bumped 32
theorem kz (l:List Int):By (iV l)=l:=by
 unfold By iV
 rw [map_map]
 exact (List.map_congr_left λz _=>rfl).trans (map_id _)
theorem L6 {l:List Int}(hn:l.length≤64000000)(K:TV→VT→Prop)(hk:bif uT (iV l) then ∀z:Nat,K (.val (.int .i64 (ofNat z))) ⟨[],[]⟩ else K (.val (.int .i64 (-1))) ⟨[],[]⟩):VCx prog ae 0 wI [.vec 1 (iV l) .none,.fn (.func 169) [] []] ⟨[],[]⟩ K:=by
 refine ak ac aa an (Tt hn) (ZD (iV l) (l.all fc) _) ⟨rfl,⟨rfl,rfl,rfl,trivial,rfl,rfl,rfl⟩,λz=> ?_⟩
 unfold uT at hk
 rw [kz] at hk
 cases h:l.all fc<;>rw [h] at hk
 ·exact hk z
 ·exact hk
theorem Xm {l:List Int}(hn:l.length≤64000000):VCx prog ae 0 LZ [.vec 1 (iV l) .none,.fn (.func 169) [] []] ⟨[],[]⟩ λx T'=>x=.val (.bool (uT (iV l)))∧T'=⟨[],[]⟩:=by
 have hS:bf prog ae (aF [(wI,Xk)]):=aL λp hp=>by
  obtain rfl:=mem_singleton.1 hp
  intro ro ys T K hw
  simp only at hw
  unfold Xk at hw
  split at hw
  ·rename_i b tok
   obtain ⟨⟨l,rfl,hn⟩,hk⟩:=hw
   cases h:uT (iV l) with
   |false=>
    rw [h,cond_false] at hk
    exact VCx.loosePure au (y:=.val (.int .i64 (-1))) (L6 hn _ (by rw [h];exact ⟨rfl,rfl⟩)) (by simp [cj]) (by simp [ap,TV.ren,dm,Tok.ren]) (λ_ _=>rfl) hk
   |true=>
    rw [h,cond_true] at hk
    exact VCx.looseAny au (Y:=λy=>∃z:Nat,y=.val (.int .i64 (ofNat z))) (L6 hn _ (by rw [h,cond_true];exact λz=>⟨⟨z,rfl⟩,rfl⟩)) (by simp [cj]) (by simp [ap,TV.ren,dm,Tok.ren]) (λy ⟨z,hz⟩ _ _=>by rw [hz];rfl) (λy ⟨z,hz⟩=>by rw [hz];exact hk z)
  ·exact hw.elim
 refine VCx.keepQ 0 0 (le_refl _) (le_refl _) (ak ac aa hS ai (ZF (iV l) _) ⟨⟨l,rfl,hn⟩,aq (λh _=>⟨by rw [h];rfl,rfl⟩) (λh=>⟨by rw [h];rfl,rfl⟩)⟩)
theorem Xn:∀ro ys T K,Qt ro ys T K→VCx prog ae ro LZ ys T K:=by
 intro ro ys T K hw
 unfold Qt at hw
 split at hw
 ·obtain ⟨⟨l,rfl,hn⟩,hk⟩:=hw
  exact VCx.loosePure au (Xm hn) (by simp [cj]) (by simp [ap,TV.ren,dm,Tok.ren]) (λ_ _=>rfl) hk
 ·exact hw.elim
theorem O5 {l:List Int}{j:Nat}(h:j<l.length):fW (l.take (j+1))=fW (l.take j)++aw 2 l[j]:=by
 unfold fW
 rw [take_add_one,getElem?_eq_getElem h,List.flatMap_append]
 simp
theorem rH:∀l:List Int,(fW l).length=2*l.length
 |[]=>rfl
 |z::l=>by
  have:=rH l
  simp only [fW,flatMap_cons,length_append,length_cons,bo] at this ⊢
  omega
theorem rI {a b:Bs}(h:IsB a)(k:IsB b)(hl:a.length+b.length≤32000000):IsB (a++b):=by
 obtain ⟨⟨l,rfl,hz⟩,_⟩:=h
 obtain ⟨⟨m,rfl,hy⟩,_⟩:=k
 refine ⟨⟨l++m,by simp [bV],λz h=> ?_⟩,by rw [length_append];exact hl⟩
 rcases mem_append.1 h with h | h
 ·exact hz z h
 ·exact hy z h
theorem ES:∀{l:List Int},l.length≤100→IsB (fW l)
 |[],_=>.nil
 |z::l,h=>by
  have h1:=ES (l:=l) (by simp only [length_cons] at h;omega)
  have h2:=rH l
  exact rI (b:=fW l) (dh (k:=2) z (by decide)) h1 (by rw [bo,h2];simp only [length_cons] at h;have:Int.toNat 2=2:=rfl;omega)
def mh (n:Int):Bs:=aw 1 2++aw 1 n
theorem L7 (n:Int):IsB (mh n):=rI (dh 2 (by decide)) (dh n (by decide)) (by rw [bo,bo];decide)
theorem vV (n:Int):(mh n).length=2:=by unfold mh;rw [length_append,bo,bo];rfl
theorem L8 {l:List Int}(h:l.length≤16):IsB (mh l.length++fW l):=rI (L7 _) (ES (by omega)) (by rw [vV,rH];omega)
theorem O6:bf prog ae (aF [(nY,ky .i64 1),(jH,ky .i64 2)]):=aL λp hp=>by
 rcases mem_cons.1 hp with rfl | hp;exact Qs
 obtain rfl:=mem_singleton.1 hp;exact LX
theorem Tu {l:List Int}(hn:l.length≤16)(ha:l.all fc=true):dd prog ae (sgL (mh l.length) (mh l.length++fW l) (iV l) (aD prog uU 0)):=bA λp hp=>by
 obtain rfl:=mem_singleton.1 hp
 refine b9 λK hK=> ?_
 have htk:∀j,IsB (mh l.length++fW (l.take j)):=λj=>rI (L7 _) (ES (by rw [length_take];omega)) (by rw [vV,rH,length_take];omega)
 have h:=rB (P:=prog) (G:=ae) (f:=uU) (id:=0) (by kernel_rfl) 24 L1 (λj=>ER (mh l.length++fW (l.take j.toNat)) (iV l) j) ⟨[],[]⟩ l.length (λe vs T=>e=.normal∧vs=ER (mh l.length++fW l) (iV l) (iV l).length∧T=⟨[],[]⟩) (λj hj=> ?_) K (λe vs T ⟨h1,h2,h3⟩=>by subst h1 h2 h3;exact hK)
 ·have e:mh l.length++fW (l.take ((0:Nat):Int).toNat)=mh l.length:=append_nil _
  simp only [e] at h
  exact h
 ·by_cases hlt:j<l.length
  ·have hat:(iV l)[((j:Nat):Int).toNat]?=some (iT l[j]):=by rw [toNat_natCast,iV,getElem?_map,getElem?_eq_getElem hlt];rfl
   have hz:=all_eq_true.1 ha _ (getElem_mem hlt)
   simp only [fc,and_eq_true,decide_eq_true_eq] at hz
   refine bF ac aa O6 ai (L3 (mh l.length++fW (l.take j)) (iV l) l[j] j _) ?_
   refine aS (decide_eq_true (by rw [dH];omega)) ⟨kO rfl rfl (by omega) hat,rfl,⟨⟨⟨by omega,by omega⟩,by decide,by decide⟩,htk j,λh=> ?_⟩,rfl,rfl,hlt,.inl ⟨rfl,?_⟩⟩
   ·have:=congrArg length h
    rw [length_append,vV] at this;simp at this
   ·rw [gO hlt (by omega)]
    show _=ER (mh l.length++fW (l.take (j+1))) (iV l) _
    rw [O5 hlt,←List.append_assoc]
    rfl
  ·have hj2:j=l.length:=by omega
   subst hj2
   refine bF ac aa O6 ai (L3 (mh l.length++fW (l.take l.length)) (iV l) 0 l.length _) ?_
   exact aO (decide_eq_false (by rw [dH];omega)) ⟨rfl,rfl,rfl,by simp only [ER,dH,take_length],rfl⟩
theorem Xo {l:List Int}(hn:l.length≤16)(ha:l.all fc=true):VCx prog ae 0 uU [.vec 1 (iV l) .none] ⟨[],[]⟩ λx T'=>x=.vec 1 (fB (iV l)) .none∧T'=⟨[],[]⟩:=by
 refine VCx.toLe (Q:=λT'=>T'=⟨[],[]⟩) (VCx.keepQ 0 0 (le_refl _) (le_refl _) (ak ac aa O6 (Tu hn ha) (ZG (mh l.length) (mh l.length++fW l) (iV l) _) ?_))
 rw [gH,dH]
 cases l with
 |nil=>exact aS rfl ⟨.nil 1,rfl⟩
 |cons z l=>
  refine aO (decide_eq_false (by simp only [length_cons];omega)) ⟨rfl,⟨⟨by decide,by decide⟩,by decide,by decide⟩,rfl,⟨⟨⟨by omega,by omega⟩,by decide,by decide⟩,dh 2 (by decide),λh=> ?_⟩,rfl,⟨rfl,rfl,rfl,trivial,rfl,rfl,rfl⟩,?_,rfl⟩
  ·have:=congrArg length h;rw [bo] at this;cases this
  ·have e:fB (iV (z::l))=mh (z::l).length++fW (z::l):=by
    unfold fB;rw [kz,dH];rfl
   rw [e]
   simp only [TV.ren,(L8 hn).ren,Tok.ren]
   exact .refl _
theorem ET {l:List Int}(hn:l.length≤16):IsB (fB (iV l))∧(fB (iV l)).length≤34:=by
 cases l with
 |nil=>exact ⟨.nil,zero_le _⟩
 |cons z l=>
  have e:fB (iV (z::l))=mh (z::l).length++fW (z::l):=by
   unfold fB;rw [kz,dH];rfl
  rw [e]
  exact ⟨L8 hn,by rw [length_append,vV,rH];omega⟩
theorem Xp:∀ro ys T K,Qv ro ys T K→VCx prog ae ro uU ys T K:=by
 intro ro ys T K hw
 unfold Qv at hw
 split at hw
 ·obtain ⟨⟨l,rfl,hn,ha⟩,hk⟩:=hw
  exact VCx.loosePure au (Xo hn ha) (by simp [cj]) (by simp [ap,TV.ren,dm,Tok.ren]) (λf g=>by simp only [TV.ren,(ET hn).1.ren,Tok.ren]) hk
 ·exact hw.elim
--bumped 32
abbrev pI:=Int × Int × Bs
def kA (r:pI):List TV:=I8 r.1 r.2.1 r.2.2
def eA (l:List pI):Bs:=l.flatMap λr=>dn r.1 r.2.1 r.2.2
theorem vW:∀l:List pI,Xi (l.map kA)=eA l
 |[]=>rfl
 |r::l=>by
  have:=vW l
  simp only [Xi,eA,map_cons,flatMap_cons] at this ⊢
  rw [this];rfl
theorem G8 {l:List pI}(h:∀r∈l,kQ r.1 r.2.1 r.2.2∧r.2.2.length≤1000)(f g:Nat→Option Nat):bk f g (l.map kA)=l.map kA:=by
 induction l with
 |nil=>rfl
 |cons r l ih=>
  have hb:=(h r mem_cons_self).1.2.2.1
  rw [map_cons,bk,ih (λq hq=>h q (mem_cons_of_mem _ hq))]
  simp only [kA,I8,ap,TV.ren,hb.ren,Tok.ren]
theorem AD (fl t:Int)(v:Bs):(dn fl t v).length≤v.length+4:=by
 unfold dn Bn
 have:=(KN fl v).2
 cases lO fl<;>simp only [cond_true,cond_false,length_append,length_take,length_cons,length_nil]<;>omega
theorem vX:∀{l:List pI},(∀r∈l,kQ r.1 r.2.1 r.2.2∧r.2.2.length≤1000)→(eA l).length≤1004*l.length
 |[],_=>zero_le _
 |r::l,h=>by
  have h1:=vX (l:=l) λq hq=>h q (mem_cons_of_mem _ hq)
  have h2:=(h r mem_cons_self).2
  have h3:=AD r.1 r.2.1 r.2.2
  simp only [eA,flatMap_cons,length_append,length_cons] at h1 ⊢
  omega
theorem rJ:∀{l:List pI},(∀r∈l,kQ r.1 r.2.1 r.2.2∧r.2.2.length≤1000)→l.length≤10→IsB (eA l)
 |[],_,_=>.nil
 |r::l,h,hl=>by
  have hq:∀q∈l,kQ q.1 q.2.1 q.2.2∧q.2.2.length≤1000:=λq hq=>h q (mem_cons_of_mem _ hq)
  simp only [length_cons] at hl
  have h1:=rJ (l:=l) hq (by omega)
  obtain ⟨⟨_,_,hb,hv⟩,h2⟩:=h r mem_cons_self
  have h3:=AD r.1 r.2.1 r.2.2
  have h4:=vX hq
  exact rI (b:=eA l) (ns (fl:=r.1) (t:=r.2.1) hb hv) h1 (by show (dn r.1 r.2.1 r.2.2).length+(eA l).length≤_;omega)
theorem O7 {l:List pI}{j:Nat}(h:j<l.length):eA (l.take (j+1))=eA (l.take j)++dn l[j].1 l[j].2.1 l[j].2.2:=by
 unfold eA
 rw [take_add_one,getElem?_eq_getElem h,List.flatMap_append]
 simp
theorem Tv:∀ro ys T K,Ja ro ys T K→VCx prog ae ro qN ys T K:=by
 intro ro ys T K hw
 unfold Ja at hw
 split at hw
 ·rename_i fl t v
  obtain ⟨⟨h1,h2,hv,hl⟩,hk⟩:=hw
  have hb:=ns (fl:=fl) (t:=t) hv hl
  refine VCx.liftPure (xs:= [kP fl t v]) au ?_ ?_ (λf g=>by simp only [TV.ren,Xh,hb.ren,Tok.ren]) hk
  ·cases v with
   |nil=>exact D7 fl t
   |cons r v=>exact Gv fl t hv hl
  ·simp only [ap,kP,TV.ren,hv.ren,Tok.ren]
 ·exact hw.elim
theorem BA:∃(inf:TypeInfo) (z:Value),prog.info? 204=some inf∧inf.size=3∧inf.bytes+1≤1000∧inf.zero=some z∧z.cells.size=3:=
 ⟨(prog.info? 204).getD default,((prog.info? 204).getD default).zero.getD default,by kernel_rfl,by kernel_rfl,Nat.le_of_ble_eq_true (by kernel_rfl),by kernel_rfl,by kernel_rfl⟩
theorem L9 {x i:Operand}{l:List (Nat × TV)}{es:Bs}{tok:Tok}{k:IntKind}{z:Int}{cs:List TV}(hx:aP ae l x=.vec 3 es tok)(hz:aP ae l i=.val (.int k z))(h0:0≤z)(he:es[z.toNat]?=some cs):bc prog ae (.indexAddr 199 x i) l (.elt cs):=by
 obtain ⟨inf,_,i1,i2,_,_,_⟩:=BA
 exact dy (inf:=inf) Tryz.underlying199 i1 (by rw [i2];exact hx) hz h0 he
theorem Tw {l:List pI}(h:∀r∈l,kQ r.1 r.2.1 r.2.2∧r.2.2.length≤1000)(hl:l.length≤10):dd prog ae (jnL (eA l) (l.map kA) (aD prog uV 0)):=bA λp hp=>by
 obtain rfl:=mem_singleton.1 hp
 have hS:bf prog ae (aF [(qN,Ja)]):=aL λp hp=>by obtain rfl:=mem_singleton.1 hp;exact Tv
 have hq:∀j,∀r∈l.take j,kQ r.1 r.2.1 r.2.2∧r.2.2.length≤1000:=λj r hr=>h r (mem_of_mem_take hr)
 refine Dp λK hK=> ?_
 refine dO (f:=uV) (id:=0) (by kernel_rfl) 18 L2 (λj:Nat=>l.length-j) (λj:Nat=>G7 (eA (l.take j)) (l.map kA) j) (λj=>⟨[],[((eA (l.take j)).length,1,true)]⟩) (λj=>j≤l.length) 0 1 (λ_ _=>⟨le_refl _,le_refl _⟩)
  (λe vs T=>e=.normal∧vs=G7 (eA l) (l.map kA) (l.map kA).length∧T=⟨[],[((eA l).length,1,true)]⟩) (λj hj=> ?_) 0 (zero_le _) K ?_
 ·by_cases hlt:j<l.length
  ·have hat:(l.map kA)[((j:Nat):Int).toNat]?=some (kA l[j]):=by rw [toNat_natCast,getElem?_map,getElem?_eq_getElem hlt];rfl
   have hp:=h _ (getElem_mem hlt)
   have hb1:=vX (hq j)
   have hb2:=AD l[j].1 l[j].2.1 l[j].2.2
   rw [length_take] at hb1
   have ht:=AC [.cells (kA l[j])] (eA (l.take j)) (dn l[j].1 l[j].2.1 l[j].2.2) (by omega) 12 14 rfl
   rw [←O7 hlt] at ht
   refine bF ac aa hS ai (L5 (eA (l.take j)) (eA (l.take (j+1))) (l.map kA) l[j].2.2 l[j].1 l[j].2.1 j _) ?_
   refine aS (decide_eq_true (by rw [length_map];omega)) ⟨L9 rfl rfl (by omega) hat,hp.1,ht,rfl,rfl,j+1,hlt,by show l.length-(j+1)<l.length-j;omega,.inr ⟨rfl,?_⟩⟩
   simp only [ap,TV.ren,G8 h,(rJ (hq (j+1)) (by rw [length_take];omega)).ren,Tok.ren]
   rw [gO hlt (by omega)]
   rfl
  ·have hj2:j=l.length:=by omega
   refine bF ac aa hS ai (L5 (eA (l.take j)) [] (l.map kA) [] 0 0 j _) ?_
   subst hj2
   exact aO (decide_eq_false (by rw [length_map];omega)) ⟨rfl,rfl,rfl,by simp only [G7,length_map,take_length],by rw [take_length]⟩
 ·rintro e vs T ⟨rfl,rfl,rfl⟩
  exact hK
theorem Xq {l:List pI}(h:∀r∈l,kQ r.1 r.2.1 r.2.2∧r.2.2.length≤1000)(hl:l.length≤10):VCx prog ae 0 uV [.vec 3 (l.map kA) .none] ⟨[],[]⟩ λx T'=>x=.vec 1 (eA l) .none∧T'=⟨[],[]⟩:=by
 refine VCx.toLe (Q:=λT'=>T'=⟨[],[]⟩) (VCx.keepQ 0 0 (le_refl _) (le_refl _) (ak ac aa an (Tw h hl) (ZH (eA l) (l.map kA) _) ⟨rfl,⟨rfl,rfl,rfl,⟨rfl,trivial⟩,rfl,rfl,rfl⟩,?_,rfl⟩))
 simp only [TV.ren,(rJ h hl).ren]
 exact .vec 1 _ _
theorem Xr:∀ro ys T K,Qu ro ys T K→VCx prog ae ro uV ys T K:=by
 intro ro ys T K hw
 unfold Qu at hw
 split at hw
 ·obtain ⟨⟨l,rfl,hl,h⟩,hk⟩:=hw
  have hb:=rJ h hl
  exact VCx.loosePure (xs:= [.vec 3 (l.map kA) .none]) au (Xq h hl) (by simp [cj,kA]) (by simp only [ap,TV.ren,G8 h,Tok.ren]) (λf g=>by simp only [TV.ren,hb.ren,Tok.ren]) (hk _ (vW l).symm)
 ·exact hw.elim
theorem AtV.ren (a:AtV)(f g:Nat→Option Nat):ap f g a.cells=a.cells:=by
 simp only [AtV.cells,ap,TV.ren,dm,Tok.ren]
theorem Xs:bf prog ae (aF [(LZ,Qt),(xt,xu)]):=aL λp hp=>by
 rcases mem_cons.1 hp with rfl | hp;exact Xn
 obtain rfl:=mem_singleton.1 hp;exact Gu Gt
set_option maxHeartbeats 1000000 in
theorem Xt (a:AtV)(hn:a.p.length≤64000000):VCx prog ae 0 EQ [.agg a.cells] ⟨[],[]⟩ λx T'=>x=.val (.bool (ji a))∧T'=⟨[],[]⟩:=by
 refine VCx.keepQ 0 0 (le_refl _) (le_refl _) (ak ac aa Xs ai (ZI a.o a.h a.m a.hm (iV a.p) _) ?_)
 have hcf:uT (iV a.p)= !a.p.all fc:=by unfold uT;rw [kz]
 try delta zp zq
 rw [gH,dH,hcf]
 have hw:qQ (iV a.p):=⟨a.p,rfl,hn⟩
 have fin:∀(b:Bool) (T:VT),ji a=b→((TV.val (.bool b)).ren (aA 0) (aA 0)=.val (.bool (ji a))∧T.keep 0 0=⟨[],[]⟩):=λb T h=>⟨by rw [h];rfl,by simp [VT.keep]⟩
 by_cases h1:a.o<0
 ·exact aS (decide_eq_true h1) (fin false _ (by unfold ji;rw [decide_eq_false (show ¬0≤a.o by omega)];rfl))
 have e1:decide (0≤a.o)=true:=decide_eq_true (by omega)
 refine aO (decide_eq_false h1) ?_
 by_cases h2:a.o>2
 ·exact aS (decide_eq_true h2) (aS (decide_eq_true h2) (fin false _ (by unfold ji;rw [e1,decide_eq_false (show ¬a.o≤2 by omega)];rfl)))
 have e2:decide (a.o≤2)=true:=decide_eq_true (by omega)
 refine aO (decide_eq_false h2) ?_
 cases h3:pq a.h
 ·exact aS rfl (fin false _ (by unfold ji;rw [e1,e2,h3];rfl))
 refine aO rfl ?_
 by_cases h4:((a.p.length:Nat):Int)>16
 ·exact aS (decide_eq_true h4) (aS (decide_eq_true h4) (fin false _ (by unfold ji;rw [e1,e2,h3,decide_eq_false (show ¬a.p.length≤16 by omega)];rfl)))
 have e4:decide (a.p.length≤16)=true:=decide_eq_true (by omega)
 refine aO (decide_eq_false h4) ⟨hw,?_⟩
 cases h5:a.p.all fc
 ·exact aS rfl (fin false _ (by unfold ji;rw [e1,e2,h3,e4,h5];rfl))
 refine aO rfl ?_
 cases h6:a.hm
 ·exact aS rfl (fin _ _ (by unfold ji;rw [e1,e2,h3,e4,h5,h6];rfl))
 refine aO rfl (aq (λh7=> ?_) (λh7=> ?_))
 ·exact fin _ _ (by unfold ji;rw [e1,e2,h3,e4,h5,h6,show decide (0≤a.m)=true from h7];rfl)
 ·exact fin false _ (by unfold ji;rw [e1,e2,h3,e4,h5,h6,show decide (0≤a.m)=false from h7];rfl)
def fN (a:AtV):List pI:= [(64,1,aw 1 a.o),(64,2,fB (iV a.p)),(64,3,aw 4 a.h)]++bif a.hm then [(128,4,aw 4 a.m)] else []
def pJ (a:AtV):Bs:=bif ji a then eA (fN a) else []
structure Qw (a:AtV):Prop where
 o:0≤a.o∧a.o≤2
 h:pq a.h=true
 p:a.p.length≤16∧a.p.all fc=true
 m:a.hm=true→0≤a.m∧a.m≤4294967295
 m0:a.hm=false→a.m=0
theorem zr {a:AtV}(h:ji a=true):Qw a:=by
 unfold ji at h
 simp only [and_eq_true,decide_eq_true_eq] at h
 obtain ⟨h1,h2,h3,h4,h5,h6⟩:=h
 refine ⟨⟨h1,h2⟩,h3,⟨h4,h5⟩,λh=> ?_,λh=> ?_⟩
 ·rw [h] at h6
  simp only [cond_true,and_eq_true,decide_eq_true_eq] at h6
  exact h6
 ·rw [h] at h6
  simp only [cond_false,decide_eq_true_eq] at h6
  exact h6
theorem EU {a:AtV}(h:Qw a):(∀r∈fN a,kQ r.1 r.2.1 r.2.2∧r.2.2.length≤1000)∧(fN a).length≤10:=by
 have b1:∀(fl t:Nat) (k n:Int),fl<256→t<256→k≤8→kQ fl t (aw k n)∧(aw k n).length≤1000:=λfl t k n h1 h2 h3=>⟨⟨⟨by omega,by omega⟩,⟨by omega,by omega⟩,dh n h3,by rw [bo];omega⟩,by rw [bo];omega⟩
 have hs:=ET h.p.1
 refine ⟨λr hr=> ?_,by unfold fN;cases a.hm<;>simp⟩
 unfold fN at hr
 rcases mem_append.1 hr with hr | hr
 ·simp only [mem_cons,List.not_mem_nil,or_false] at hr
  rcases hr with rfl | rfl | rfl
  ·exact b1 64 1 1 _ (by decide) (by decide) (by decide)
  ·exact ⟨⟨⟨by show (0:Int)≤64;decide,by show (64:Int)<256;decide⟩,⟨by show (0:Int)≤2;decide,by show (2:Int)<256;decide⟩,hs.1,by have:=hs.2;show (fB (iV a.p)).length≤_;omega⟩,by have:=hs.2;show (fB (iV a.p)).length≤_;omega⟩
  ·exact b1 64 3 4 _ (by decide) (by decide) (by decide)
 ·cases hm:a.hm<;>rw [hm] at hr
  ·cases hr
  ·obtain rfl:=mem_singleton.1 hr
   exact b1 128 4 4 _ (by decide) (by decide) (by decide)
theorem EV (a:AtV):IsB (pJ a):=by
 unfold pJ
 cases h:ji a
 ·exact .nil
 ·have:=EU (zr h)
  exact rJ this.1 this.2
theorem G9 (a:AtV):(pJ a).length≤10040:=by
 unfold pJ
 cases h:ji a
 ·exact zero_le _
 ·have:=EU (zr h)
  have h2:=vX this.1
  have h3:=this.2
  simp only [cond_true];omega
theorem O8 (objs:List VO)(A c:Bs)(hc:A.length+c.length≤1000):bb prog ae 0 ⟨objs,[]⟩ (.call ⟨.builtin .append,#[.tmp 22,.tmp 28],#[199,199]⟩) [(22,.vec 3 A .full),(28,.vec 3 c .full)] (.vec 3 (A++c) (.tail 0 c.length)) ⟨objs,[(c.length,3,false)]⟩:=by
  obtain ⟨inf,z,i1,i2,i3,i4,i5⟩:=BA
  have h1:=eQ (inf:=inf) (P:=prog) (G:=ae) (ro:=0) (T:=⟨objs,[]⟩) (T1:=⟨objs,[(0,3,false)]⟩) (t:=199) (tx:=199) (s:=.tmp 22) (x:=.tmp 28) (l:= [(22,.vec 3 A .full),(28,.vec 3 c .full)]) (es:=A) (es2:=c) (k:=0) (n:=0) (bn:=false) Tryz.underlying199 i1 i4 (by rw [i2];exact i5) (by rw [i2];decide) (by kernel_rfl)
    (by rw [i2];simp [aP,eO,cM]) (by rw [i2];rfl)
    (by have h1:=i3
        have h2:=mul_le_mul (show A.length+c.length≤64000001 by omega) h1
        omega)
  rw [i2,zero_add] at h1
  exact h1
theorem Ha {n:Int}(h0:0≤n)(h1:n≤4294967295):u32.wrap n=n:=by
 simp only [wrap,IntKind.bits,signed];simp;omega
theorem Ma (ok:Bool):∀ro ys T K,G6 ok ro ys T K→VCx prog ae ro EQ ys T K:=by
 intro ro ys T K hw
 unfold G6 at hw
 split at hw
 ·obtain ⟨⟨a,rfl,hn,rfl⟩,hk⟩:=hw
  exact VCx.liftPure au (Xt a hn) (by simp only [ap,TV.ren,a.ren]) (λ_ _=>rfl) hk
 ·exact hw.elim
theorem Xu (a:AtV)(hn:a.p.length≤64000000)(hh:0≤a.h∧a.h<4294967296):VCx prog ae 0 L0 [.agg a.cells] ⟨[],[]⟩ λx T'=>x=.vec 1 (pJ a) .none∧T'=⟨[],[]⟩:=by
 have hS:bf prog ae (aF [(EQ,G6 (ji a)),(nY,ky .i64 1),(sU,ky .u32 4),(uU,Qv),(uV,Qu)]):=aL λp hp=>by
  rcases mem_cons.1 hp with rfl | hp;exact Ma _
  rcases mem_cons.1 hp with rfl | hp;exact Qs
  rcases mem_cons.1 hp with rfl | hp;exact EN
  rcases mem_cons.1 hp with rfl | hp;exact Xp
  obtain rfl:=mem_singleton.1 hp;exact Xr
 refine VCx.toLe (Q:=λT'=>T'=⟨[],[]⟩) (VCx.keepQ 0 0 (le_refl _) (le_refl _) (ak ac aa hS ai (ZJ a.o a.h a.m a.hm (ji a) (iV a.p) ((fN a).map kA) _) ⟨⟨a,rfl,hn,rfl⟩,?_⟩))
 cases hg:ji a
 ·refine aS rfl ⟨?_,by simp [VT.keep]⟩
  unfold pJ;rw [hg];exact .nil 1
 ·have hA:=zr hg
  have hr:=EU hA
  have hb:=rJ hr.1 hr.2
  have e:pJ a=eA (fN a):=by unfold pJ;rw [hg];rfl
  have hend:∀T:VT,TVle ((TV.vec 1 (eA (fN a)) .none).ren (aA 0) (aA 0)) (.vec 1 (pJ a) .none)∧T.keep 0 0=⟨[],[]⟩:=λT=>⟨by rw [e];simp only [TV.ren,hb.ren,Tok.ren];exact .refl _,by simp [VT.keep]⟩
  have hjd:I9 ((fN a).map kA):=⟨fN a,rfl,hr.2,hr.1⟩
  refine aO rfl ⟨rfl,⟨⟨hA.o.1,by have:=hA.o.2;omega⟩,by decide,by decide⟩,⟨rfl,rfl,rfl,trivial⟩,⟨a.p,rfl,hA.p.1,hA.p.2⟩,⟨rfl,rfl,rfl,trivial⟩,rfl,⟨⟨hh.1,by omega⟩,by decide,by decide⟩,?_⟩
  cases hm:a.hm
  ·have e2:(fN a).map kA= [[.val (.int .i64 64),.val (.int .i64 1),.vec 1 (aw 1 a.o) .none],[.val (.int .i64 64),.val (.int .i64 2),.vec 1 (fB (iV a.p)) .none],[.val (.int .i64 64),.val (.int .i64 3),.vec 1 (aw 4 a.h) .none]]:=by unfold fN;rw [hm];rfl
   rw [e2] at hjd
   refine aO rfl ⟨hjd,λv hv=> ?_⟩
   rw [←e2] at hv
   unfold EP at hv
   rw [vW] at hv
   subst hv
   exact hend _
  ·have hm2:=hA.m hm
   refine aS rfl ⟨rfl,?_⟩
   rw [Ha hm2.1 hm2.2]
   have e2:(fN a).map kA= [[.val (.int .i64 64),.val (.int .i64 1),.vec 1 (aw 1 a.o) .none],[.val (.int .i64 64),.val (.int .i64 2),.vec 1 (fB (iV a.p)) .none],[.val (.int .i64 64),.val (.int .i64 3),.vec 1 (aw 4 a.h) .none]]++ [[.val (.int .i64 128),.val (.int .i64 4),.vec 1 (aw 4 a.m) .none]]:=by unfold fN;rw [hm];rfl
   refine ⟨⟨⟨hm2.1,by omega⟩,by decide,by decide⟩,?_,hjd,λv hv=> ?_⟩
   ·rw [e2]
    exact O8 _ _ _ (by show 3+1≤1000;decide)
   ·unfold EP at hv
    rw [vW] at hv
    subst hv
    exact hend _
theorem Mb (a b:AtV)(hn:a.p.length≤64000000)(hn2:b.p.length≤64000000):VCx prog ae 0 Bz [.agg a.cells,.agg b.cells] ⟨[],[]⟩ λx T'=>x=.val (.bool (decide (a=b)))∧T'=⟨[],[]⟩:=by
 have hS:bf prog ae (aF [(wJ,Xl)]):=aL λp hp=>by
  obtain rfl:=mem_singleton.1 hp
  intro ro ys T K hw
  simp only at hw
  unfold Xl at hw
  split at hw
  ·obtain ⟨⟨⟨l,rfl,hn⟩,⟨m,rfl,hn2⟩⟩,hk⟩:=hw
   have e:G5 (iV l) (iV m)=decide (l=m):=by unfold G5;rw [kz,kz]
   rw [e] at hk
   exact VCx.loosePure au (Xe hn) (by simp [cj]) (by simp [ap,TV.ren,dm,Tok.ren]) (λ_ _=>rfl) hk
  ·exact hw.elim
 have e:G5 (iV a.p) (iV b.p)=decide (a.p=b.p):=by unfold G5;rw [kz,kz]
 refine VCx.keepQ 0 0 (le_refl _) (le_refl _) (ak ac aa hS ai (ZK a.o a.h a.m b.o b.h b.m a.hm b.hm (iV a.p) (iV b.p) _) ?_)
 have fin:∀(q:Bool) (T:VT),decide (a=b)=q→((TV.val (.bool q)).ren (aA 0) (aA 0)=.val (.bool (decide (a=b)))∧T.keep 0 0=⟨[],[]⟩):=λb T h=>⟨by rw [h];rfl,by simp [VT.keep]⟩
 have ne:∀{X:Prop},(a=b→X)→¬X→decide (a=b)=false:=λh k=>decide_eq_false λc=>k (h c)
 rw [gH,gH,gH,e]
 refine aq (λc1=>aq (λc2=>aq (λc3=>aq (λc4=> ?_) (λc4=> ?_)) (λc3=> ?_)) (λc2=> ?_)) (λc1=> ?_)
 ·refine ⟨⟨⟨_,rfl,hn⟩,⟨_,rfl,hn2⟩⟩,fin _ _ ?_⟩
  have d1:=of_decide_eq_true c1
  have d2:=of_decide_eq_true c2
  have d3:=of_decide_eq_true c3
  have d4:a.hm=b.hm:=by simpa [ax,aX,cg] using c4
  refine decide_eq_decide.2 ⟨λh=>by rw [h],λhp=> ?_⟩
  obtain ⟨o,p,h,m,hm⟩:=a
  obtain ⟨o2,p2,h2,m2,hm2⟩:=b
  simp only [AtV.mk.injEq]
  exact ⟨d1,hp,d2,d3,d4⟩
 ·exact fin false _ (ne (X:=a.hm=b.hm) (λh=>by rw [h]) (λh=>by rw [h] at c4;simp [ax,aX,cg] at c4))
 ·exact fin false _ (ne (X:=a.m=b.m) (λh=>by rw [h]) (of_decide_eq_false c3))
 ·exact fin false _ (ne (X:=a.h=b.h) (λh=>by rw [h]) (of_decide_eq_false c2))
 ·exact fin false _ (ne (X:=a.o=b.o) (λh=>by rw [h]) (of_decide_eq_false c1))
--bumped 32
section
variable {P:Program}{G:aV}
theorem VCx.ofOwnT {f:FuncId}{xs:List TV}{ty:TypeId}{vs:List Value}(h1:∀v∈vs,v.oneCell'=true)(hm:vs.length≤maxLen)
  (h:∀g w us,VRs g w xs us→Calls P f us.toArray w (Rets w λv w'=>w'.ownsRow w.heap.size ty 1 v vs.length vs)):VCx P G 0 f xs ⟨[],[]⟩ λx T'=>x=.vec 1 (vs.map λv=> [.val v]) (.tail 0 0)∧T'=⟨[],[(0,1,false)]⟩:=by
 intro g w us r hG hx
 refine (h g w us hx).mono ?_
 rintro e w' ⟨v,rfl,gr,hl,hown⟩
 have r1:=r.gr gr
 have e1:=Evo.of_gr r gr
 rcases hown with ⟨rfl,h0⟩ | ⟨b,cap,cur,rfl,hb,hg,hnc,hcm,hcs,htk⟩
 ·have:vs= []:=List.eq_nil_of_length_eq_zero (by omega)
  subst this
  obtain ⟨g2,e2,r2,h2⟩:=r1.newTail 1 false
  exact ⟨_,_,g2,_,rfl,⟨rfl,rfl⟩,e1.trans e2,r2,.nil ⟨_,h2,le_refl _,rfl⟩,⟨by simp,λi hi=>absurd hi (not_lt_zero i),λi o b hi=>absurd hi (not_lt_zero i)⟩⟩
 ·have fs:=r.fresh hb
  have hcell:∀(j:Nat) u,vs[j]?=some u→w'.cell? ⟨b,0+j,none⟩=some u:=λj u hu=>by
   have hj:=(List.getElem?_eq_some_iff.1 hu).1
   unfold cell?
   simp only [hg,zero_add]
   rw [←htk,List.getElem?_take,if_pos (by omega)] at hu
   simpa using hu
  have hsz:cur.size=cap:=by simpa using hcs
  have hnone:∀k,g.tail k=none:=λk=>r1.tout k (zero_le _)
  obtain ⟨x,hxd⟩:∃x:Tl,x=⟨b,vs.length,cap,1,0,ty,w'.heap.size,false,false⟩:=⟨_,rfl⟩
  have hgrow:∀y,g.tail 0=some y→y.e<x.e∧x.size=y.size∧x.lo=y.lo:=λy hy=>by rw [hnone] at hy;cases hy
  have hlo:g.tail 0=none→w'.heap.size≤x.lo:=λ_=>by rw [hxd];exact le_refl _
  have hfz:∀o,o<cap→(w'.cell? ⟨b,o,none⟩).isSome=true∧w'.frozen? ⟨b,o,none⟩=false:=λo ho=>by
   refine ⟨?_,by simp [World.frozen?,hg]⟩
   unfold cell?
   simp only [hg]
   rw [Array.getElem?_eq_getElem (by omega)];rfl
  have r2:=r1.setTail (T':=⟨[],[(0,1,false)]⟩) (k:=0) (x:=x) rfl (.inl ⟨by rw [hxd];rfl,rfl⟩)
   (λc o hin=>by
    rw [hxd] at hin
    obtain ⟨rfl,h2,h3⟩:=hin
    exact ⟨(hfz o h3).1,(hfz o h3).2,fs.st o,fs.fr⟩)
   (λi oi c hi=>by simp at hi) (λj y c _ hy=>by rw [hnone] at hy;cases hy) hgrow hlo
   (λho=>by rw [hxd] at ho;cases ho) (λho=>by rw [hxd] at ho;rcases ho with ho | ho<;>cases ho) (by rw [hxd];exact le_refl _)
  have e2:=e1.trans (Evo.setTail (w:=w') (x:=x) hgrow hlo)
  have r3:=r2.addSt (b:=b) (S:=λo=>o<vs.length) fs.fr (λid o hi=>by simp at hi)
   (λk y o hy ho hin=>by
    by_cases hk:k=0
    ·subst hk
     rw [oa] at hy
     injection hy with hy
     rw [←hy,hxd] at hin
     have:=hin.2.1
     simp only at this
     omega
    ·have:g.tail k=some y:=by simpa [Gh.setTail,hk] using hy
     rw [hnone] at this;cases this)
   (λo ho=>(hfz o (by omega)).1)
  have e3:=e2.trans (Evo.addSt (w:=w') (b:=b) (S:=λo=>o<vs.length) (show ¬(g.setTail 0 x).fr b from fs.fr))
  refine ⟨_,_,_,_,rfl,⟨rfl,rfl⟩,e3,r3,?_,⟨by simp,λi hi=>absurd hi (not_lt_zero i),λi o b hi=>absurd hi (not_lt_zero i)⟩⟩
  refine .mk_vec (us:=vs) (by simp) (by simpa using hnc) hcm (λe he=>by obtain ⟨v,_,rfl⟩:=mem_map.1 he;rfl)
   ⟨x,oa g 0 x,zero_le _,by rw [hxd],λ_ _=>by rw [hxd];exact ⟨rfl,by simp,by simp⟩,λ_ hbn=>by rw [hxd] at hbn;cases hbn⟩
   (by rw [lF];exact VRs.vals _ _ _) (λj hj=>.inr ⟨rfl,?_⟩) hcell h1
  rw [lF] at hj
  simpa using hj
theorem VCx.ofOwnAt {ro:Nat}{f:FuncId}{xs:List TV}{T:VT}{ty:TypeId}{vs:List Value}(h1:∀v∈vs,v.oneCell'=true)(hm:vs.length≤maxLen)
  (h:∀g w us,RW g T w→VRs g w xs us→Calls P f us.toArray w (Rets w λv w'=>w'.ownsRow w.heap.size ty 1 v vs.length vs)):VCx P G ro f xs T λx T'=>x=.vec 1 (vs.map λv=> [.val v]) .none∧T'=T:=by
 intro g w us r hG hx
 refine (h g w us r hx).mono ?_
 rintro e w' ⟨v,rfl,gr,hl,hown⟩
 have r1:=r.gr gr
 have e1:=Evo.of_gr r gr
 have hfix:Fix ro g T w T w':=Fix.of_same (Same.of_gr r gr) (take_length ..)
 rcases hown with ⟨rfl,h0⟩ | ⟨b,cap,cur,rfl,hb,hg,hnc,hcm,hcs,htk⟩
 ·have:vs= []:=List.eq_nil_of_length_eq_zero (by omega)
  subst this
  exact ⟨_,_,g,_,rfl,⟨rfl,rfl⟩,e1,r1,.nil trivial,hfix⟩
 ·have fs:=r.fresh hb
  have hcell:∀(j:Nat) u,vs[j]?=some u→w'.cell? ⟨b,0+j,none⟩=some u:=λj u hu=>by
   have hj:=(List.getElem?_eq_some_iff.1 hu).1
   unfold cell?
   simp only [hg,zero_add]
   rw [←htk,List.getElem?_take,if_pos (by omega)] at hu
   simpa using hu
  refine ⟨_,_,g.addSt b (λo=>o<vs.length),_,rfl,⟨rfl,rfl⟩,e1.trans (Evo.addSt fs.fr),r1.addSt fs.fr fs.obj (λk x o hx ho hin=>fs.tl k x hx (.inl ⟨o,hin⟩)) (λo ho=> ?_),?_,hfix⟩
  ·have:=hcell o _ (getElem?_eq_getElem ho)
   rw [zero_add] at this
   rw [this];rfl
  ·refine .mk_vec (us:=vs) (by simp) (by simpa using hnc) hcm (λe he=>by obtain ⟨v,_,rfl⟩:=mem_map.1 he;rfl) trivial (by rw [lF];exact VRs.vals _ _ _) (λj hj=>.inr ⟨rfl,?_⟩) hcell h1
   rw [lF] at hj
   simpa using hj
theorem ZL {g:Gh}{T:VT}{w:World}{i n:Nat}{vs:List Value}{v:Value}(r:RW g T w)(ho:T.objs[i]?=some (.cells (vs.map .val)))(hv:VR g w (.sl i 0 n n) v)(hn:n=vs.length)(hm:n≤maxLen):Rd w 1 v n vs:=by
 subst hn
 obtain ⟨b,hb,rfl⟩:=hv.sl_inv
 obtain ⟨b',h1,⟨us,t,h2,h3,h4⟩,_⟩:=r.obj i _ ho rfl
 rw [hb] at h1;injection h1 with h1;subst h1
 have hlen:us.length=vs.length:=by have:=h3.1;simpa using this
 have hu:us=vs:=by
  refine ext_getElem? λj=> ?_
  by_cases hj:j<us.length
  ·have hx:(vs.map TV.val)[j]?=some (.val (vs[j]'(by omega))):=by rw [getElem?_map,getElem?_eq_getElem (by omega)];rfl
   have:=(h3.2 j _ us[j] hx (getElem?_eq_getElem hj)).val_inv
   rw [getElem?_eq_getElem hj,getElem?_eq_getElem (by omega),this]
  ·rw [getElem?_eq_none (by omega),getElem?_eq_none (by omega)]
 subst hu
 refine ⟨by simp,_,us.length,rfl,le_refl _,hm,(λh=>by cases h),λad ha=> ?_⟩
 injection ha with ha;subst ha
 refine ⟨rfl,λj u hu=> ?_⟩
 show w.cell? ⟨b,0+j,none⟩=some u
 unfold cell?
 simp only [h2,zero_add]
 simpa using hu
theorem jW {T:VT}{size id n:Nat}{es:List (List TV)}(ho:T.objs[id]?=some (.row es.flatten))(hz:∀e∈es,e.length=size)(hn:n=es.length):yx (.row size id 0 n) T=some (size,es):=by
 subst hn
 have hfl:es.flatten.length=es.length*size:=b7 hz
 have hb:ble ((0+es.length)*size) es.flatten.length=true:=by rw [hfl,zero_add];exact Nat.ble_eq_true_of_le (le_refl _)
 simp only [yx,bK,ho,Nat.beq_refl,hb,Bool.and_self,cond_true,zero_mul,List.drop_zero]
 rw [take_of_length_le (by omega),mA size hz]
 rfl
theorem VCx.argsLe {ro:Nat}{f:FuncId}{xs ys:List TV}{T:VT}{Q:TV→VT→Prop}(hle:TVleL ys xs)(h:VCx P G ro f xs T Q):VCx P G ro f ys T Q:=λg w us r hG hx=>h g w us r hG (hle.vrs hx)
theorem VCx.liftTail {ro:Nat}{f:FuncId}{xs ys:List TV}{T:VT}{b:List (List TV)}{K:TV→VT→Prop}(hv:dt G)(h:VCx P G 0 f xs ⟨[],[]⟩ λx T'=>x=.vec 1 b (.tail 0 0)∧T'=⟨[],[(0,1,false)]⟩)(hx:ap (aU []) (aU []) ys=xs)(hy:∀f h,bk f h b=b)(k:K (.vec 1 b (.tail T.tails.length 0)) {T with tails:=T.tails++ [(0,1,false)]}):VCx P G ro f ys T K:=by
 refine (VCx.lift (T:=T) [] [] hv nodup_nil nodup_nil (by simp) (by simp) (by simp) hx (by rw [VT.give_nil];exact h) (λ_ _ _=>⟨zero_le _,zero_le _⟩)).mono ?_
 rintro z T' ⟨x,T'',⟨rfl,rfl⟩,rfl,rfl⟩
 rw [VT.back_nil]
 simpa [TV.ren,Tok.ren,hy,ba] using k
theorem VCx.keepV {f:FuncId}{xs:List TV}{Q:TV→Prop}(h:VCx P G 0 f xs ⟨[],[]⟩ λx _=>Q (x.ren (aA 0) (aA 0))):VCx P G 0 f xs ⟨[],[]⟩ λx T'=>Q x∧T'=⟨[],[]⟩:=
 VCx.keepQ 0 0 (le_refl _) (le_refl _) (h.mono λ_ _ hq=>⟨hq,by simp [VT.keep]⟩)
theorem VCx.atKeep {f:FuncId}{ro i:Nat}{ys0 ys1:List TV}{o:VO}{T:VT}{K:TV→VT→Prop}{R:TV→Prop}(hG:dt G)(hro:ro≤i)(ho:T.objs[i]?=some o)(hl:o.live=true)(hren:∀f g,o.ren f g=o)(hy:TVleL (ap (aU [i]) (aU []) ys0) ys1)
  (hv:VCx P G 0 f ys1 ⟨[o],[]⟩ λx T'=>R x∧T'=⟨[o],[]⟩) (hx:∀x,R x→(∀f g,x.ren f g=x)∧K x T):VCx P G ro f ys0 T K:=by
 have hs:T.objs.set i o=T.objs:=by
  refine ext_getElem? λj=> ?_
  by_cases hj:i=j
  ·subst hj
   rw [List.getElem?_set_self (List.getElem?_eq_some_iff.1 ho).1,ho]
  ·rw [List.getElem?_set_ne hj]
 refine VCx.at1 (o1:=o) (Q:=λx o' l'=>R x∧o'=o∧l'= []) hG hro ho hl (hren _ _) rfl (VCx.argsLe hy (hv.mono ?_)) ?_
 ·rintro x T' ⟨h1,rfl⟩
  exact ⟨_,_,rfl,h1,rfl,rfl⟩
 ·rintro x o' l' ⟨h1,rfl,rfl⟩
  obtain ⟨h2,h3⟩:=hx x h1
  rw [h2,hren,hs,map_nil,append_nil]
  exact h3
end
abbrev Mc:=148
abbrev uW:=180
abbrev uX:=166
abbrev qR:=179
abbrev EW:=165
abbrev EX:=147
abbrev Xv:=167
abbrev Md:=131
abbrev EY:=151
abbrev Me:=132
abbrev Qx:=100
abbrev Qy:=60
def zt (n:Int):Int:=if (32:Int)<if (0:Int)>n then (0:Int) else n then (32:Int) else if (0:Int)>n then (0:Int) else n
def EZ (a n:Int):Int:=jc a (zt n)
def qz (a n:Int):Bool:=decide (a=EZ a n)&&decide (n=zt n)
def pzD:List TV→Int × Int
 |[.val (.int _ a),.val (.int _ n)]=>(a,n)
 |_=>(0,0)
def wK (l:Bs):List (Int × Int):=l.map pzD
def uY (l:Bs):Prop:=∃p:List (Int × Int),l=bm p∧p.length≤3200000
def Jb (l:Bs):Prop:=∃p:List (Int × Int),l=bm p∧p.length≤64000000
def n6 (l:Bs):Bool:= !(wK l).all λp=>qz p.1 p.2
def BC:AtV:=⟨0,[],0,0,false⟩
def Xw:List TV:= [.val (.int .i64 0),.val (.slice none 0 0),.val (.int .u32 0),.val (.int .i64 0),.val (.bool false)]
def Xx (l m:List TV)(ok:Bool):Prop:=∃a:AtV,l=a.cells∧a.p.length≤64000000∧m=Xw∧ok=decide (a=BC)
def Xy (l m:List TV)(ok:Bool):Prop:=∃a b:AtV,(l=a.cells∧m=b.cells)∧(a.p.length≤64000000∧b.p.length≤64000000)∧ok=decide (a=b)
def Xz (l:List TV)(v:Bs):Prop:=∃a:AtV,l=a.cells∧a.p.length≤64000000∧(0≤a.h∧a.h<4294967296)∧v=pJ a
def E0 (l:Bs):Prop:=∃p:List (Int × Int),l=bm p∧oz p
def ld (l:Bs):Bs:=bJ (wK l)
def AE (b:Bs):Prop:=IsB b∧b.length≤16000000
def E1 (a b c:Bs):Prop:=(IsB a∧a≠ [])∧(IsB b∧b≠ [])∧IsB c∧a.length+b.length+c.length≤32000000
structure UpV where
 w:List (Int × Int)
 a:AtV
 n:List (Int × Int)
deriving DecidableEq
def UpV.cells (u:UpV):List TV:= [.vec 2 (bm u.w) .none,.val (.int .i64 u.a.o),.vec 1 (iV u.a.p) .none,.val (.int .u32 u.a.h),.val (.int .i64 u.a.m),.val (.bool u.a.hm),.vec 2 (bm u.n) .none]
def j4 (u:UpV):Bool:=(u.w++u.n).all (λp=>qz p.1 p.2)&&bif decide ((u.n.length:Int)>0) then ji u.a else decide (u.a=BC)
def eD (u:UpV):Bs:=bif decide ((u.n.length:Int)>0) then pJ u.a else []
def eZ (u:UpV):Bs:=(aw 2 (bJ u.w).length++bJ u.w)++((aw 2 (eD u).length++eD u)++bJ u.n)
def jI (u:UpV):Prop:=u.w.length≤1600000∧u.n.length≤1600000∧u.a.p.length≤64000000∧0≤u.a.h∧u.a.h<4294967296
def XA (l:List TV)(ok:Bool):Prop:=∃u:UpV,l=u.cells∧jI u∧ok=j4 u
def XB (l:List TV)(v:Bs):Prop:=∃u:UpV,l=u.cells∧(jI u∧j4 u=true)∧v=eZ u
def O9 (l m:Bs):Prop:=∃p q:List (Int × Int),(l=bm p∧m=bm q)∧p.length≤64000000
def E2 (l m:Bs):Bool:=decide (wK l=wK m)
def oA (n:Int)(y:TV)(T2:VT)(ro:Nat)(T:VT):Prop:=VCx prog ae ro uW [.val (.slice none 0 0),.val (.int .i64 n)] T λx T1=>x=y∧T1=T2
def xE (gy:TV)(gT:VT):aW:=λro ys T K=>match ys with
 |[.val (.slice none 0 0),.val (.int .i64 n)]=>oA n gy gT ro T∧K gy gT
 |_=>aJ 84 default ys
def XC (y1 y2 y3:TV)(T1 T2 T3:VT):List TV→Option (TV × Option VT)
 |[.row _ 0 _ _,.vec _ (_::_) _]=>some (y1,some T1)
 |[.row _ 1 _ _,.vec _ (_::_) _]=>some (y2,some T2)
 |[.row _ (_+2) _ _,.vec _ (_::_) _]=>some (y3,some T3)
 |_=>none
def Qz (y1 y2 y3:TV)(T1 T2 T3:VT):jq:=λo σ _=>match o.dst with
 |some d=>bif beq d 33 then XC y1 y2 y3 T1 T2 T3 σ else none
 |none=>none
def sX:aW:=λ_ ys T K=>match ys with
 |[x,.val (.int .u64 n),.val (.int .i64 k)]=>match x with
  | .val (.slice none 0 0)=>cT n k∧K (.vec 1 (aw k n) (.tail T.tails.length 0)) {T with tails:=T.tails++ [(0,1,false)]}
  | .vec 1 b _=>(cT n k∧iP b)∧K (.vec 1 (b++aw k n) (.tail T.tails.length 0)) {T with tails:=T.tails++ [(0,1,false)]}
  |_=>aJ 85 default ys
 |_=>aJ 84 default ys
def pK (kd:IntKind)(k:Int):aW:=λ_ ys T K=>match ys with
 |[x,.val (.int q n)]=>(q=kd)∧match x with
  | .val (.slice none 0 0)=>cT n k∧K (.vec 1 (aw k n) (.tail T.tails.length 0)) {T with tails:=T.tails++ [(0,1,false)]}
  | .vec 1 b _=>(cT n k∧iP b)∧K (.vec 1 (b++aw k n) (.tail T.tails.length 0)) {T with tails:=T.tails++ [(0,1,false)]}
  |_=>aJ 85 default ys
 |_=>aJ 84 default ys
def xF:TV:=.fn (.func 148) [] []
def Pa:aW:=λ_ ys T K=>match ys with
 |[.agg [.val (.int .u32 a),.val (.int .i64 n)]]=>K (.agg [.val (.int .u32 (EZ a n)),.val (.int .i64 (zt n))]) T
 |_=>aJ 84 default ys
def QA:aW:=λ_ ys T K=>match ys with
 |[.agg [.val (.int .u32 a),.val (.int .i64 n)]]=>K (.val (.bool (qz a n))) T
 |_=>aJ 84 default ys
def Pb:aW:=λro ys T K=>match ys with
 |[.vec 2 l _,.fn (.func 167) [] [.ptr i 0]]=>(((@Eq Bool (ble ro i) true)∧(@Eq (Option VO) (T.objs[i]?) (some (.cells [xF]))))∧Jb l)∧bif n6 l then ∀z:Nat,K (.val (.int .i64 (ofNat z))) T else K (.val (.int .i64 (-1))) T
 |_=>aJ 84 default ys
def Jc:aW:=λro ys T K=>match ys with
 |[.vec 2 l _,.fn (.func 167) [] [.ptr i 0]]=>(((@Eq Bool (ble ro i) true)∧(@Eq (Option VO) (T.objs[i]?) (some (.cells [xF]))))∧Jb l)∧K (.val (.bool (n6 l))) T
 |_=>aJ 84 default ys
def Jd:aW:=λ_ ys T K=>match ys with
 |[.vec 1 [[.vec 2 a _],[.vec 2 b _]] _]=>(uY a∧uY b)∧K (.vec 2 (a++b) .none) T
 |_=>aJ 84 default ys
def Je:aW:=λ_ ys T K=>match ys with
 |[.fn (.func 148) [] [],.vec 1 [[.vec 2 a _],[.vec 2 b _]] _]=>(uY a∧uY b)∧K (.val (.bool (!n6 (a++b)))) T
 |_=>aJ 84 default ys
def QB (ok:Bool):aW:=λ_ ys T K=>match ys with
 |[.agg l,.agg m]=>Xx l m ok∧K (.val (.bool ok)) T
 |_=>aJ 84 default ys
def QC (ok:Bool):aW:=λ_ ys T K=>match ys with
 |[.agg l,.agg m]=>Xy l m ok∧K (.val (.bool ok)) T
 |_=>aJ 84 default ys
def QD (v:Bs):aW:=λ_ ys T K=>match ys with
 |[.agg l]=>Xz l v∧K (.vec 1 v .none) T
 |_=>aJ 84 default ys
def QE:aW:=λ_ ys T K=>match ys with
 |[.vec 2 l _]=>E0 l∧K (.vec 1 (ld l) .none) T
 |_=>aJ 84 default ys
def QF:aW:=λ_ ys T K=>match ys with
 |[.val (.slice none 0 0)]=>K (.vec 1 (aw 2 0) .none) T
 |[.vec 1 b _]=>AE b∧K (.vec 1 (aw 2 b.length++b) .none) T
 |_=>aJ 84 default ys
def Jf:aW:=λ_ ys T K=>match ys with
 |[.vec 1 [[.vec 1 a _],[.vec 1 b _],[.vec 1 c _]] _]=>E1 a b c∧K (.vec 1 (a++(b++c)) .none) T
 |_=>aJ 84 default ys
def QG (ok:Bool):aW:=λ_ ys T K=>match ys with
 |[.agg l]=>XA l ok∧K (.val (.bool ok)) T
 |_=>aJ 84 default ys
def QH (v:Bs):aW:=λ_ ys T K=>match ys with
 |[.agg l]=>XB l v∧K (.vec 1 v .none) T
 |_=>aJ 84 default ys
def QI:aW:=λ_ ys T K=>match ys with
 |[.vec 2 l _,.vec 2 m _]=>O9 l m∧K (.val (.bool (E2 l m))) T
 |_=>aJ 84 default ys
def Hb:List Nat:= [0,1,4,7,8]
def BD (l:Bs)(r j:Int):List TV:= [.vec 2 l .none,.fn (.func 167) [] [.ptr 0 0],.val (.int .i64 r),.val (.int .i64 l.length),.val (.int .i64 j)]
def uZ:VT:=⟨[.cells [xF]],[]⟩
def gpR (l:Bs)(ok:Bool)(K:KX):Prop:=∀(z:Nat) (a n:Int),bif ok then K .normal (aQ 19 Hb (BD l 0 l.length)) uZ [] else K .ret (aQ 19 Hb (BD l z z)) ⟨[.cells [xF],.cells [.val (.int .u32 a),.val (.int .i64 n)]],[]⟩ []
def gpL (l:Bs)(ok:Bool)(c0:Code):Nat→Option (bN × Code):=ct [(0,dE 19 Hb [] (BD l 0 0) uZ (gpR l ok),c0)]
theorem XD (b:Bs)(tok:Tok)(n:Int)(Q:TV→VT→Prop):ar prog ae (aF [(eS,sX)]) aT 300 aN 0 nY [.vec 1 b tok,.val (.int .i64 n)] am Q=
 ((cT (wrap u64 n) 1∧
 iP (b))∧
 Q (pd (b++aw (1:Int) (wrap u64 n))) ⟨[],[(0,(1,false))]⟩):=by kernel_rfl
theorem Tx (n:Int)(Q:TV→VT→Prop):ar prog ae (aF [(eS,sX)]) aT 300 aN 0 nY [.val (.slice none 0 0),.val (.int .i64 n)] am Q=
 (cT (wrap u64 n) 1∧
 Q (pd (aw (1:Int) (wrap u64 n))) ⟨[],[(0,(1,false))]⟩):=by kernel_rfl
theorem Ty (b:Bs)(tok:Tok)(n:Int)(Q:TV→VT→Prop):ar prog ae (aF [(eS,sX)]) aT 300 aN 0 jH [.vec 1 b tok,.val (.int .i64 n)] am Q=
 ((cT (wrap u64 n) 2∧
 iP (b))∧
 Q (pd (b++aw (2:Int) (wrap u64 n))) ⟨[],[(0,(1,false))]⟩):=by kernel_rfl
theorem Pc (n:Int)(Q:TV→VT→Prop):ar prog ae (aF [(eS,sX)]) aT 300 aN 0 jH [.val (.slice none 0 0),.val (.int .i64 n)] am Q=
 (cT (wrap u64 n) 2∧
 Q (pd (aw (2:Int) (wrap u64 n))) ⟨[],[(0,(1,false))]⟩):=by kernel_rfl
theorem ZM (a n:Int)(Q:TV→VT→Prop):ar prog ae (aF [(lM,Pa)]) (aZ [(999998,.dead,none)]) 300 aN 0 Mc [.agg [.val (.int .u32 a),.val (.int .i64 n)]] am Q=
 (((@Eq (Option TV) (.some (vE a n)) (.some (vE a n)))∧
 ((@Eq (Option TV) (.some (vE a n)) (.some (vE a n)))∧
 True))∧
 Q (cS (ax eql (aX ((λvs=>Value.agg (toArray vs)) ((λx=>Value.int u32 a::x) ((λx=>Value.int i64 n::x) []))) ((λvs=>Value.agg (toArray vs)) ((λx=>Value.int u32 (EZ a n)::x) ((λx=>Value.int i64 (zt n)::x) [])))))) ⟨[(i6 a n)],[]⟩):=by kernel_rfl
theorem Mf (n:Int)(k:Nat)(W:List TV)(T:VT)(Q:TV→VT→Prop):ar prog ae bt (aZ [(22,.row 2 0 0 k,some λT=>T.newRow W)]) 300 aN 0 uW [.val (.slice none 0 0),.val (.int .i64 n)] am Q=
 (bif decide (n<(0:Int))
 then False
 else (bif decide (wrap i64 (n-wrap i64 ((↑(0:Nat):Int)-(↑(0:Nat):Int)))>(0:Int))
 then (bb prog (λ_=>.none) 0 am (.call ⟨(.builtin .append),#[(.tmp 20),(.tmp 21)],#[58,3]⟩) [(20,aE),(21,(ah (wrap i64 (n-wrap i64 ((↑(0:Nat):Int)-(↑(0:Nat):Int))))))] (.row 2 0 0 k) (gn W)∧
 Q qK (gn W))
 else Q aE am)):=by kernel_rfl
theorem Tz (q r:List TV)(a b:Bs)(k:Nat)(W:List TV)(tok tok1 tok2:Tok)(y2:TV)(T0 T1 T2:VT)(Q:TV→VT→Prop):ar prog ae (aF [(uW,xE qK T0)]) (vR (sx k) y2 T1 T2) 300 aN 0 uX [.vec 1 [[.vec 2 (q::a) tok1],[.vec 2 (r::b) tok2]] tok] am Q=
 (bif decide (wrap i64 ((0:Int)+(↑(length (q::a)):Int))<(0:Int))
 then False
 else (bif decide (wrap i64 (wrap i64 ((0:Int)+(↑(length (q::a)):Int))+(↑(length (r::b)):Int))<(0:Int))
 then False
 else (oA (wrap i64 (wrap i64 ((0:Int)+(↑(length (q::a)):Int))+(↑(length (r::b)):Int))) qK (T0) 0 am∧
 (bb prog (λ_=>.none) 0 (T0) (.call ⟨(.builtin .append),#[(.tmp 31),(.tmp 32)],#[58,58]⟩) [(31,qK),(32,(.vec 2 ([(q)]++a) tok1))] (sx k) (T1)∧
 (bb prog (λ_=>.none) 0 (T1) (.call ⟨(.builtin .append),#[(.tmp 31),(.tmp 32)],#[58,58]⟩) [(31,(sx k)),(32,(.vec 2 ([(r)]++b) tok2))] (y2) (T2)∧
 Q (y2) (T2)))))):=by kernel_rfl
theorem XE (q:List TV)(a:Bs)(k:Nat)(W:List TV)(tok tok1 tok2:Tok)(T1:VT)(Q:TV→VT→Prop):ar prog ae (aF [(uW,xE qK (cu (.row W)))]) (vR (sx k) .dead T1 T1) 300 aN 0 uX [.vec 1 [[.vec 2 (q::a) tok1],[.vec 2 [] tok2]] tok] am Q=
 (bif decide (wrap i64 ((0:Int)+(↑(length (q::a)):Int))<(0:Int))
 then False
 else (bif decide (wrap i64 (wrap i64 ((0:Int)+(↑(length (q::a)):Int))+(↑(0:Nat):Int))<(0:Int))
 then False
 else (oA (wrap i64 (wrap i64 ((0:Int)+(↑(length (q::a)):Int))+(↑(0:Nat):Int))) qK (gn W) 0 am∧
 (bb prog (λ_=>.none) 0 (gn W) (.call ⟨(.builtin .append),#[(.tmp 31),(.tmp 32)],#[58,58]⟩) [(31,qK),(32,(.vec 2 ([(q)]++a) tok1))] (sx k) (T1)∧
 Q (sx k) (T1))))):=by kernel_rfl
theorem XF (q:List TV)(a:Bs)(k:Nat)(W:List TV)(tok tok1 tok2:Tok)(T1:VT)(Q:TV→VT→Prop):ar prog ae (aF [(uW,xE qK (cu (.row W)))]) (vR (sx k) .dead T1 T1) 300 aN 0 uX [.vec 1 [[.vec 2 [] tok1],[.vec 2 (q::a) tok2]] tok] am Q=
 (bif decide (wrap i64 (wrap i64 ((0:Int)+(↑(0:Nat):Int))+(↑(length (q::a)):Int))<(0:Int))
 then False
 else (oA (wrap i64 (wrap i64 ((0:Int)+(↑(0:Nat):Int))+(↑(length (q::a)):Int))) qK (gn W) 0 am∧
 (bb prog (λ_=>.none) 0 (gn W) (.call ⟨(.builtin .append),#[(.tmp 31),(.tmp 32)],#[58,58]⟩) [(31,qK),(32,(.vec 2 ([(q)]++a) tok2))] (sx k) (T1)∧
 Q (sx k) (T1)))):=by kernel_rfl
theorem XG (tok tok1 tok2:Tok)(Q:TV→VT→Prop):ar prog ae (aF [(uW,xE (.val (.slice none 0 0)) am)]) aT 300 aN 0 uX [.vec 1 [[.vec 2 [] tok1],[.vec 2 [] tok2]] tok] am Q=
 (oA 0 aE am 0 am∧
 Q aE am):=by kernel_rfl
theorem ZN (l:Bs)(ok:Bool)(Q:TV→VT→Prop):ar prog ae bt aT 300 (gpL l ok (aD prog qR 0)) 0 qR [.vec 2 l .none,.fn (.func 167) [] [.ptr 0 0]] uZ Q=
 ((aD prog qR (0:Nat)=aD prog qR (0:Nat))∧
 (((@Eq (Option Nat) .none .none)∧
 ((@Eq (Nat) 0 0)∧
 ((@Eq (List Nat) [] [])∧
 (True  ∧
 ((@Eq (VT) (w7 (.fn (.func 148) [] [])) (w7 (.fn (.func 148) [] [])))∧
 ((@Eq (Bool) true true)∧
 (@Eq (List TV) [(aY l),(.fn (.func 167) [] [(.ptr 0 0)]),aB,(ah (↑(length l):Int)),aB] [(aY l),(.fn (.func 167) [] [(.ptr 0 0)]),aB,(ah (↑(length l):Int)),aB])))))))∧
 (∀z:Nat,(∀a:Int,(∀n:Int,(bif ok
 then Q (ah (-1)) (w7 (.fn (.func 148) [] []))
 else Q (ah (↑z:Int)) (NF (.fn (.func 148) [] []) a n))))))):=by kernel_rfl
theorem Mg (l:Bs)(a n:Int)(j:Nat)(Q:Exit→List TV→VT→List Nat→Nat→Prop):vx prog ae (aF [(Mc,QA)]) (aZ [(999999,.dead,none),(14,.elt [.val (.int .u32 a),.val (.int .i64 n)],none)]) 300 aN none 0 (cq prog qR 0) (aQ 19 Hb (BD l 0 j)) uZ [] (cN Hb Q)=
 (bif decide ((↑j:Int)<(↑(length l):Int))
 then (bc prog (λ_=>.none) (.indexAddr 58 (.tmp 12) (.tmp 13)) [(12,(aY l)),(13,(ah (↑j:Int)))] (Ac a n)∧
 (bif !qz a n
 then Q .ret [(aY l),(.fn (.func 167) [] [(.ptr 0 0)]),(ah (↑j:Int)),(ah (↑(length l):Int)),(ah (↑j:Int))] (NF (.fn (.func 148) [] []) a n) [] 19
 else Q .normal [(aY l),(.fn (.func 167) [] [(.ptr 0 0)]),aB,(ah (↑(length l):Int)),(ah (wrap i64 ((↑j:Int)+(1:Int))))] (NF (.fn (.func 148) [] []) a n) [] 19))
 else Q (.exit 0) [(aY l),(.fn (.func 167) [] [(.ptr 0 0)]),aB,(ah (↑(length l):Int)),(ah (↑j:Int))] (w7 (.fn (.func 148) [] [])) [] 19):=by kernel_rfl
theorem XH (l:Bs)(Q:TV→VT→Prop):ar prog ae (aF [(qR,Pb)]) aT 300 aN 0 EW [.vec 2 l .none,.fn (.func 167) [] [.ptr 0 0]] uZ Q=
 ((((@Eq (Bool) true true)∧
 (@Eq (Option VO) (.some (nE (.fn (.func 148) [] []))) (.some (nE (.fn (.func 148) [] [])))))∧
 Jb (l))∧
 (bif n6 l
 then (∀z:Nat,Q aI (w7 (.fn (.func 148) [] [])))
 else Q aj (w7 (.fn (.func 148) [] [])))):=by kernel_rfl
theorem TA (a b:Bs)(tok tok1 tok2:Tok)(Q:TV→VT→Prop):ar prog ae (aF [(uX,Jd),(EW,Jc)]) aT 300 aN 0 EX [xF,.vec 1 [[.vec 2 a tok1],[.vec 2 b tok2]] tok] am Q=
 ((uY (a)∧
 uY (b))∧
 ((((@Eq (Bool) true true)∧
 (@Eq (Option VO) (.some (nE (.fn (.func 148) [] []))) (.some (nE (.fn (.func 148) [] [])))))∧
 Jb (a++b))∧
 Q (cS (!n6 (a++b))) (w7 (.fn (.func 148) [] [])))):=by kernel_rfl
theorem ZO (w p n:Bs)(o h m:Int)(hm ok ok2:Bool)(Q:TV→VT→Prop):ar prog ae (aF [(EX,Je),(EQ,G6 ok),(Bz,QB ok2)]) (aZ [(999998,.dead,none)]) 300 aN 0 Md [.agg [.vec 2 w .none,.val (.int .i64 o),.vec 1 p .none,.val (.int .u32 h),.val (.int .i64 m),.val (.bool hm),.vec 2 n .none]] am Q=
 ((uY (w)∧
 uY (n))∧
 (bif !!n6 (w++n)
 then Q aj (t7 w o p h m hm n)
 else (bif decide ((↑(length n):Int)>(0:Int))
 then (O4 (ub o p h m hm) (ok)∧
 Q (cS ok) (t7 w o p h m hm n))
 else (Xx (ub o p h m hm) [aB,aE,bD,aB,aj] (ok2)∧
 Q (cS ok2) (t7 w o p h m hm n))))):=by kernel_rfl
theorem ZP (b:Bs)(v:Bs)(e:Nat)(Q:TV→VT→Prop):ar prog ae (aF [(jH,pK .i64 2)]) (aZ [(7,.vec 1 v (.tail 0 e),some λT=>{T with tails:= [(e,1,false)]})]) 300 aN 0 EY [.vec 1 b .none] am Q=
 ((@Eq (IntKind) .i64 .i64)∧
 (cT ((↑(length b):Int)) 2∧
 (bb prog (λ_=>.none) 0 ⟨[],[(0,(1,false))]⟩ (.call ⟨(.builtin .append),#[(.tmp 5),(.tmp 6)],#[22,22]⟩) [(5,(pd (aw (2:Int) (↑(length b):Int)))),(6,(av b))] (bS v e) ⟨[],[((e),(1,false))]⟩∧
 Q (bS v e) ⟨[],[((e),(1,false))]⟩))):=by kernel_rfl
theorem XI (v:Bs)(e:Nat)(Q:TV→VT→Prop):ar prog ae (aF [(jH,pK .i64 2)]) (aZ [(7,.vec 1 v (.tail 0 e),some λT=>{T with tails:= [(e,1,false)]})]) 300 aN 0 EY [.val (.slice none 0 0)] am Q=
 ((@Eq (IntKind) .i64 .i64)∧
 (cT 0 2∧
 (bb prog (λ_=>.none) 0 ⟨[],[(0,(1,false))]⟩ (.call ⟨(.builtin .append),#[(.tmp 5),(.tmp 6)],#[22,22]⟩) [(5,(pd (aw (2:Int) (↑(0:Nat):Int)))),(6,aE)] (bS v e) ⟨[],[((e),(1,false))]⟩∧
 Q (bS v e) ⟨[],[((e),(1,false))]⟩))):=by kernel_rfl
theorem ZQ (w p n v:Bs)(o h m:Int)(hm:Bool)(Q:TV→VT→Prop):ar prog ae (aF [(L0,QD v),(pH,QE),(EY,QF),(lY,Jf)]) (aZ [(999998,.dead,none)]) 300 aN 0 Me [.agg [.vec 2 w .none,.val (.int .i64 o),.vec 1 p .none,.val (.int .u32 h),.val (.int .i64 m),.val (.bool hm),.vec 2 n .none]] am Q=
 (bif decide ((↑(length n):Int)>(0:Int))
 then (Xz (ub o p h m hm) (v)∧
 (E0 (w)∧
 (((@Eq (Option TV) (.some (aY n)) (.some (aY n)))∧
 ((@Eq (Option TV) (.some (aY w)) (.some (aY w)))∧
 True))∧
 (AE (ld w)∧
 (((@Eq (Option TV) (.some (aY n)) (.some (aY n)))∧
 ((@Eq (Option TV) (.some (aY w)) (.some (aY w)))∧
 True))∧
 (AE (v)∧
 (((@Eq (Option TV) (.some (aY n)) (.some (aY n)))∧
 ((@Eq (Option TV) (.some (aY w)) (.some (aY w)))∧
 True))∧
 (E0 (n)∧
 (E1 (aw (2:Int) (↑(length (ld w)):Int)++ld w) (aw (2:Int) (↑(length v):Int)++v) (ld n)∧
 Q (av (aw (2:Int) (↑(length (ld w)):Int)++ld w++(aw (2:Int) (↑(length v):Int)++v++ld n))) (t7 w o p h m hm n))))))))))
 else (E0 (w)∧
 (((@Eq (Option TV) (.some (aY n)) (.some (aY n)))∧
 ((@Eq (Option TV) (.some (aY w)) (.some (aY w)))∧
 True))∧
 (AE (ld w)∧
 (((@Eq (Option TV) (.some (aY n)) (.some (aY n)))∧
 ((@Eq (Option TV) (.some (aY w)) (.some (aY w)))∧
 True))∧
 (((@Eq (Option TV) (.some (aY n)) (.some (aY n)))∧
 ((@Eq (Option TV) (.some (aY w)) (.some (aY w)))∧
 True))∧
 (E0 (n)∧
 (E1 (aw (2:Int) (↑(length (ld w)):Int)++ld w) (aw (2:Int) (0:Int)) (ld n)∧
 Q (av (aw (2:Int) (↑(length (ld w)):Int)++ld w++(aw (2:Int) (0:Int)++ld n))) (t7 w o p h m hm n))))))))):=by kernel_rfl
theorem ZR (w p n v:Bs)(o h m:Int)(hm ok:Bool)(Q:TV→VT→Prop):ar prog ae (aF [(Md,QG ok),(Me,QH v)]) (aZ [(999998,.dead,none)]) 300 aN 0 Qx [.agg [.vec 2 w .none,.val (.int .i64 o),.vec 1 p .none,.val (.int .u32 h),.val (.int .i64 m),.val (.bool hm),.vec 2 n .none]] am Q=
 (XA (t9 w o p h m hm n) (ok)∧
 (bif !ok
 then Q aE (t7 w o p h m hm n)
 else (XB (t9 w o p h m hm n) (v)∧
 (bif decide ((↑(length v):Int)≤(4077:Int))
 then Q (av v) (t7 w o p h m hm n)
 else Q aE (t7 w o p h m hm n))))):=by kernel_rfl
theorem ZS (w p n w2 p2 n2:Bs)(o h m o2 h2 m2:Int)(hm hm2 ok:Bool)(Q:TV→VT→Prop):ar prog ae (aF [(uS,QI),(Bz,QC ok)]) (aZ [(999998,.dead,none)]) 300 aN 0 Qy [.agg [.vec 2 w .none,.val (.int .i64 o),.vec 1 p .none,.val (.int .u32 h),.val (.int .i64 m),.val (.bool hm),.vec 2 n .none],.agg [.vec 2 w2 .none,.val (.int .i64 o2),.vec 1 p2 .none,.val (.int .u32 h2),.val (.int .i64 m2),.val (.bool hm2),.vec 2 n2 .none]] am Q=
 (O9 (w) (w2)∧
 (bif E2 w w2
 then (O9 (n) (n2)∧
 (bif E2 n n2
 then (Xy (ub o p h m hm) (ub o2 p2 h2 m2 hm2) (ok)∧
 Q (cS ok) (Ie w o p h m hm n w2 o2 p2 h2 m2 hm2 n2))
 else Q aj (Ie w o p h m hm n w2 o2 p2 h2 m2 hm2 n2)))
 else Q aj (Ie w o p h m hm n w2 o2 p2 h2 m2 hm2 n2))):=by kernel_rfl
theorem ZT (q r s:List TV)(a b c:Bs)(k k2:Nat)(tok tok1 tok2 tok3:Tok)(y3:TV)(T0 T1 T2 T3:VT)(Q:TV→VT→Prop):ar prog ae (aF [(uF,zd ka T0)]) (Qz (gm k) (lI k2) y3 T1 T2 T3) 300 aN 0 lY [.vec 1 [[.vec 1 (q::a) tok1],[.vec 1 (r::b) tok2],[.vec 1 (s::c) tok3]] tok] am Q=
 (bif decide (wrap i64 ((0:Int)+(↑(length (q::a)):Int))<(0:Int))
 then False
 else (bif decide (wrap i64 (wrap i64 ((0:Int)+(↑(length (q::a)):Int))+(↑(length (r::b)):Int))<(0:Int))
 then False
 else (bif decide (wrap i64 (wrap i64 (wrap i64 ((0:Int)+(↑(length (q::a)):Int))+(↑(length (r::b)):Int))+(↑(length (s::c)):Int))<(0:Int))
 then False
 else (pB (wrap i64 (wrap i64 (wrap i64 ((0:Int)+(↑(length (q::a)):Int))+(↑(length (r::b)):Int))+(↑(length (s::c)):Int))) ka (T0) 0 am∧
 (bb prog (λ_=>.none) 0 (T0) (.call ⟨(.builtin .append),#[(.tmp 31),(.tmp 32)],#[22,22]⟩) [(31,ka),(32,(.vec 1 ([(q)]++a) tok1))] (gm k) (T1)∧
 (bb prog (λ_=>.none) 0 (T1) (.call ⟨(.builtin .append),#[(.tmp 31),(.tmp 32)],#[22,22]⟩) [(31,(gm k)),(32,(.vec 1 ([(r)]++b) tok2))] (lI k2) (T2)∧
 (bb prog (λ_=>.none) 0 (T2) (.call ⟨(.builtin .append),#[(.tmp 31),(.tmp 32)],#[22,22]⟩) [(31,(lI k2)),(32,(.vec 1 ([(s)]++c) tok3))] (y3) (T3)∧
 Q (y3) (T3)))))))):=by kernel_rfl
theorem XJ (q r:List TV)(a b:Bs)(k k2:Nat)(tok tok1 tok2 tok3:Tok)(y3:TV)(T0 T1 T2 T3:VT)(Q:TV→VT→Prop):ar prog ae (aF [(uF,zd ka T0)]) (Qz (gm k) (lI k2) y3 T1 T2 T3) 300 aN 0 lY [.vec 1 [[.vec 1 (q::a) tok1],[.vec 1 (r::b) tok2],[.vec 1 [] tok3]] tok] am Q=
 (bif decide (wrap i64 ((0:Int)+(↑(length (q::a)):Int))<(0:Int))
 then False
 else (bif decide (wrap i64 (wrap i64 ((0:Int)+(↑(length (q::a)):Int))+(↑(length (r::b)):Int))<(0:Int))
 then False
 else (bif decide (wrap i64 (wrap i64 (wrap i64 ((0:Int)+(↑(length (q::a)):Int))+(↑(length (r::b)):Int))+(↑(0:Nat):Int))<(0:Int))
 then False
 else (pB (wrap i64 (wrap i64 (wrap i64 ((0:Int)+(↑(length (q::a)):Int))+(↑(length (r::b)):Int))+(↑(0:Nat):Int))) ka (T0) 0 am∧
 (bb prog (λ_=>.none) 0 (T0) (.call ⟨(.builtin .append),#[(.tmp 31),(.tmp 32)],#[22,22]⟩) [(31,ka),(32,(.vec 1 ([(q)]++a) tok1))] (gm k) (T1)∧
 (bb prog (λ_=>.none) 0 (T1) (.call ⟨(.builtin .append),#[(.tmp 31),(.tmp 32)],#[22,22]⟩) [(31,(gm k)),(32,(.vec 1 ([(r)]++b) tok2))] (lI k2) (T2)∧
 Q (lI k2) (T2))))))):=by kernel_rfl
--bumped 32
theorem Pd {b:Bs}(hb:IsB b)(hne:b≠ [])(tok:Tok){n k:Nat}(hk:k≤8):VCx prog ae 0 eS [.vec 1 b tok,.val (.int .u64 n),.val (.int .i64 k)] ⟨[],[]⟩ λx T'=>x=.vec 1 (b++uQ k n) (.tail 0 0)∧T'=⟨[],[(0,1,false)]⟩:=by
  obtain ⟨⟨l,rfl,hl⟩,hlen⟩:=hb
  have hne2:l≠ []:=λh=>hne (by rw [h];rfl)
  have hll:(bV l).length=l.length:=by simp [bV]
  rw [hll] at hlen
  have hvs:(iD l++jx (dr n k)).length=l.length+k:=by simp [iD,jx,dr]
  have h:=VCx.ofOwnT (P:=prog) (G:=ae) (f:=eS) (xs:= [.vec 1 (bV l) tok,.val (.int .u64 n),.val (.int .i64 k)]) (ty:=5) (vs:=iD l++jx (dr n k)) (λv hv=> ?_) (by rw [hvs];unfold maxLen;omega) (λg w us hx=> ?_)
  · refine h.mono ?_
    rintro x T' ⟨rfl,rfl⟩
    refine ⟨?_,rfl⟩
    rw [map_append,←lc,uR,←lc];rfl
  · rcases mem_append.1 hv with hv | hv
    · obtain ⟨z,_,rfl⟩:=mem_map.1 hv;rfl
    · obtain ⟨z,_,rfl⟩:=mem_map.1 hv;rfl
  · match us,hx.1 with
    |[v,u1,u2],_=>
      have hv:=hx.2 0 _ v rfl rfl
      obtain rfl:=(hx.2 1 _ u1 rfl rfl).val_inv
      obtain rfl:=(hx.2 2 _ u2 rfl rfl).val_inv
      have:=EK v l.length (iD l) (λu hu=>by obtain ⟨z,_,rfl⟩:=mem_map.1 hu;rfl) n k hk (by omega) w (LQ hv hne2)
      rw [hvs];exact this
theorem Mh {n k:Nat}(hk:k≤8):VCx prog ae 0 eS [.val (.slice none 0 0),.val (.int .u64 n),.val (.int .i64 k)] ⟨[],[]⟩ λx T'=>x=.vec 1 (uQ k n) (.tail 0 0)∧T'=⟨[],[(0,1,false)]⟩:=by
 have hvs:(jx (dr n k)).length=k:=by simp [jx,dr]
 have h:=VCx.ofOwnT (P:=prog) (G:=ae) (f:=eS) (xs:= [.val (.slice none 0 0),.val (.int .u64 n),.val (.int .i64 k)]) (ty:=5) (vs:=jx (dr n k)) (λv hv=>by obtain ⟨z,_,rfl⟩:=mem_map.1 hv;rfl) (by rw [hvs];unfold maxLen;omega) (λg w us hx=> ?_)
 ·refine h.mono ?_
  rintro x T' ⟨rfl,rfl⟩
  refine ⟨?_,rfl⟩
  rw [uR,←lc];rfl
 ·match us,hx.1 with
  |[v,u1,u2],_=>
   obtain rfl:=(hx.2 0 _ v rfl rfl).val_inv
   obtain rfl:=(hx.2 1 _ u1 rfl rfl).val_inv
   obtain rfl:=(hx.2 2 _ u2 rfl rfl).val_inv
   have:=EK (.slice none 0 0) 0 [] (by simp) n k hk (by omega) w (Rd.nil w 1)
   rw [hvs]
   simpa using this
theorem Pe:∀ro ys T K,sX ro ys T K→VCx prog ae ro eS ys T K:=by
 intro ro ys T K hw
 unfold sX at hw
 split at hw
 ·rename_i x n k
  split at hw
  ·obtain ⟨⟨⟨h1,h1b⟩,h2,h3⟩,hk⟩:=hw
   obtain ⟨n,rfl⟩:=eq_ofNat_of_zero_le h1
   obtain ⟨k,rfl⟩:=eq_ofNat_of_zero_le h2
   have hb:IsB (uQ k n):=EL (by omega)
   exact VCx.liftTail au (Mh (n:=n) (k:=k) (by omega)) (by simp only [ap,TV.ren]) (λf g=>hb.ren f g) hk
  ·rename_i b tok
   obtain ⟨⟨⟨⟨h1,h1b⟩,h2,h3⟩,hb,hne⟩,hk⟩:=hw
   obtain ⟨n,rfl⟩:=eq_ofNat_of_zero_le h1
   obtain ⟨k,rfl⟩:=eq_ofNat_of_zero_le h2
   exact VCx.liftTail au (Pd (n:=n) (k:=k) hb hne (tok.ren (aU []) (aU [])) (by omega)) (by simp only [ap,TV.ren,hb.ren]) (λf g=>AA hb (dh (k:=((k:Nat):Int)) ((n:Nat):Int) h3) f g) hk
  ·exact hw.elim
 ·exact hw.elim
theorem zu:bf prog ae (aF [(eS,sX)]):=aL λp hp=>by obtain rfl:=mem_singleton.1 hp;exact Pe
theorem E3 {f:FuncId}{k:Int}(h0:∀{n:Int},0≤n→n≤1000000000000000→VCx prog ae 0 f [.val (.slice none 0 0),.val (.int .i64 n)] ⟨[],[]⟩ λx T'=>x=.vec 1 (aw k n) (.tail 0 0)∧T'=⟨[],[(0,1,false)]⟩)
  (h1:∀{n:Int} {b:Bs} (tok:Tok),0≤n→n≤1000000000000000→IsB b→b≠ []→VCx prog ae 0 f [.vec 1 b tok,.val (.int .i64 n)] ⟨[],[]⟩ λx T'=>x=.vec 1 (b++aw k n) (.tail 0 0)∧T'=⟨[],[(0,1,false)]⟩):
  ∀ro ys T K,pK .i64 k ro ys T K→VCx prog ae ro f ys T K:=by
 intro ro ys T K hw
 unfold pK at hw
 split at hw
 ·rename_i x q n
  obtain ⟨rfl,hw⟩:=hw
  split at hw
  ·obtain ⟨⟨⟨g1,hn⟩,g2,g3⟩,hk⟩:=hw
   exact VCx.liftTail au (h0 g1 hn) (by simp only [ap,TV.ren]) (λf g=>(dh n g3).ren f g) hk
  ·rename_i b tok
   obtain ⟨⟨⟨⟨g1,hn⟩,g2,g3⟩,hb,hne⟩,hk⟩:=hw
   exact VCx.liftTail au (h1 (tok.ren (aU []) (aU [])) g1 hn hb hne) (by simp only [ap,TV.ren,hb.ren]) (λf g=>AA hb (dh n g3) f g) hk
  ·exact hw.elim
 ·exact hw.elim
theorem E4:∀ro ys T K,pK .i64 1 ro ys T K→VCx prog ae ro nY ys T K:=E3
 (λg hn=>ak ac aa zu ai (Tx _ _) (by rw [kE g hn];exact ⟨⟨⟨g,hn⟩,by decide,by decide⟩,rfl,rfl⟩))
 (λtok g hn hb hne=>ak ac aa zu ai (XD _ tok _ _) (by rw [kE g hn];exact ⟨⟨⟨⟨g,hn⟩,by decide,by decide⟩,hb,hne⟩,rfl,rfl⟩))
theorem Hc:∀ro ys T K,pK .i64 2 ro ys T K→VCx prog ae ro jH ys T K:=E3
 (λg hn=>ak ac aa zu ai (Pc _ _) (by rw [kE g hn];exact ⟨⟨⟨g,hn⟩,by decide,by decide⟩,rfl,rfl⟩))
 (λtok g hn hb hne=>ak ac aa zu ai (Ty _ tok _ _) (by rw [kE g hn];exact ⟨⟨⟨⟨g,hn⟩,by decide,by decide⟩,hb,hne⟩,rfl,rfl⟩))
theorem XK:∀ro ys T K,Pa ro ys T K→VCx prog ae ro lM ys T K:=by
 intro ro ys T K hw
 unfold Pa at hw
 split at hw
 ·rename_i a n
  have hm:md (zt n):=by unfold zt md;split<;>split<;>omega
  exact VCx.liftPure au (VCx.keepQ 0 0 (le_refl _) (le_refl _) (ak ac aa (aL λp hp=>by obtain rfl:=mem_singleton.1 hp;exact Ge) ai (Kj a n _) ⟨hm,rfl,rfl⟩)) rfl (λ_ _=>rfl) hw
 ·exact hw.elim
theorem aa8 (a n c p:Int):ax eql (aX (.agg #[.int .u32 a,.int .i64 n]) (.agg #[.int .u32 c,.int .i64 p]))=(decide (a=c)&&decide (n=p)):=by
 simp [ax,aX,dY,cg,Bool.beq_eq_decide_eq]
theorem XL (a n:Int):VCx prog ae 0 Mc [.agg [.val (.int .u32 a),.val (.int .i64 n)]] ⟨[],[]⟩ λx T'=>x=.val (.bool (qz a n))∧T'=⟨[],[]⟩:=
 VCx.keepQ 0 0 (le_refl _) (le_refl _) (ak ac aa (aL λp hp=>by obtain rfl:=mem_singleton.1 hp;exact XK) ai (ZM a n _) ⟨⟨rfl,rfl,trivial⟩,by
  refine ⟨?_,by simp [VT.keep]⟩
  show TV.val (.bool _)=_
  rw [show ax eql (aX ((λvs=>Value.agg (toArray vs)) ((λx=>Value.int u32 a::x) ((λx=>Value.int i64 n::x) []))) ((λvs=>Value.agg (toArray vs)) ((λx=>Value.int u32 (EZ a n)::x) ((λx=>Value.int i64 (zt n)::x) []))))=_ from aa8 a n (EZ a n) (zt n)]
  rfl⟩)
theorem XM:∀ro ys T K,QA ro ys T K→VCx prog ae ro Mc ys T K:=by
 intro ro ys T K hw
 unfold QA at hw
 split at hw
 ·exact VCx.liftPure au (XL _ _) rfl (λ_ _=>rfl) hw
 ·exact hw.elim
theorem Mi {a n:Int}(h:qz a n=true):xD a n:=by
 unfold qz at h
 simp only [and_eq_true,decide_eq_true_eq] at h
 obtain ⟨h1,h2⟩:=h
 have hm:md n:=by unfold zt at h2;unfold md;split at h2<;>split at h2<;>omega
 refine ⟨?_,hm,?_⟩
 ·rw [h1]
  unfold EZ jc
  simp only [wrap,IntKind.bits,signed]
  simp
  omega
 ·unfold EZ at h1
  rw [←h2] at h1
  exact h1.symm
theorem iZ (l:List (Int × Int)):wK (bm l)=l:=by
 unfold wK bm
 rw [map_map]
 exact (List.map_congr_left λp _=>rfl).trans (map_id l)
theorem dv (l:List (Int × Int)):(bm l).length=l.length:=length_map _
theorem Hd (l:List (Int × Int)):n6 (bm l)= !l.all λp=>qz p.1 p.2:=by unfold n6;rw [iZ]
theorem TB {l:List (Int × Int)}(hn:l.length≤64000000):dd prog ae (gpL (bm l) (!n6 (bm l)) (aD prog qR 0)):=bA λp hp=>by
 obtain rfl:=mem_singleton.1 hp
 have hS:bf prog ae (aF [(Mc,QA)]):=aL λp hp=>by obtain rfl:=mem_singleton.1 hp;exact XM
 rw [Hd,not_not]
 refine b9 λK hK=> ?_
 refine dO (f:=qR) (id:=0) (by kernel_rfl) 19 Hb (λj:Nat=>l.length-j) (λj:Nat=>BD (bm l) 0 j) (λ_=>uZ) (λj=>j≤l.length∧((l.take j).all λp=>qz p.1 p.2)=true) 1 0 (λ_ _=>⟨le_refl _,le_refl _⟩)
  (λe vs T=>(e=.normal∧(l.all λp=>qz p.1 p.2)=true∧vs=BD (bm l) 0 (bm l).length∧T=uZ)∨(e=.ret∧(l.all λp=>qz p.1 p.2)=false∧∃(z:Nat) (a n:Int),vs=BD (bm l) z z∧T=⟨[.cells [xF],.cells [.val (.int .u32 a),.val (.int .i64 n)]],[]⟩)) (λj hj=> ?_) 0 ⟨zero_le _,rfl⟩ K ?_
 ·obtain ⟨hj,hall⟩:=hj
  by_cases hlt:j<l.length
  ·have hat:(bm l)[((j:Nat):Int).toNat]?=some (cP l[j]):=by rw [toNat_natCast];show (l.map _)[j]?=_;rw [getElem?_map,getElem?_eq_getElem hlt];rfl
   refine bF ac aa hS ai (Mg (bm l) l[j].1 l[j].2 j _) ?_
   refine aS (decide_eq_true (by rw [dv];omega)) ⟨sW rfl rfl (by omega) hat,?_⟩
   cases hg:qz l[j].1 l[j].2
   ·refine aS rfl ⟨rfl,rfl,.inr ⟨rfl,?_,j,l[j].1,l[j].2,rfl,rfl⟩⟩
    cases hc:l.all λp=>qz p.1 p.2
    ·rfl
    ·have:=all_eq_true.1 hc _ (getElem_mem hlt);rw [hg] at this;cases this
   ·refine aO rfl ⟨rfl,rfl,j+1,⟨hlt,?_⟩,by show l.length-(j+1)<l.length-j;omega,.inr ⟨rfl,?_⟩⟩
    ·rw [take_add_one,getElem?_eq_getElem hlt,List.all_append,hall]
     simp only [toList_some,List.all_cons,all_nil,Bool.and_true,Bool.true_and]
     exact hg
    ·show ap _ _ _=_
     rw [gO hlt hn]
     simp only [ap,TV.ren,Tok.ren,show bk (aA 1) (aA 0) (bm l)=bm l from jz _ _ l]
     rfl
  ·have hj2:j=l.length:=by omega
   subst hj2
   rw [take_length] at hall
   refine bF ac aa hS ai (Mg (bm l) 0 0 l.length _) ?_
   exact aO (decide_eq_false (by rw [dv];omega)) ⟨rfl,rfl,.inl ⟨rfl,hall,by simp only [BD,dv],rfl⟩⟩
 ·rintro e vs T (⟨rfl,h1,rfl,rfl⟩ | ⟨rfl,h1,z,a,n,rfl,rfl⟩)
  ·have:=hK 0 0 0;rw [h1] at this;exact this
  ·have:=hK z a n;rw [h1] at this;exact this
theorem XN {l:List (Int × Int)}(hn:l.length≤64000000):VCx prog ae 0 qR [.vec 2 (bm l) .none,.fn (.func Xv) [] [.ptr 0 0]] uZ λx T'=>(bif n6 (bm l) then ∃z:Nat,x=.val (.int .i64 (ofNat z)) else x=.val (.int .i64 (-1)))∧T'=uZ:=by
 refine VCx.keepQ 1 0 (le_refl _) (le_refl _) (ak ac aa an (TB hn) (ZN (bm l) (!n6 (bm l)) _) ⟨rfl,⟨rfl,rfl,rfl,trivial,rfl,rfl,rfl⟩,λz a n=> ?_⟩)
 cases h:n6 (bm l)
 ·exact ⟨rfl,rfl⟩
 ·exact ⟨⟨z,rfl⟩,rfl⟩
theorem ii (f g:Nat→Option Nat)(l:List (Int × Int)):bk f g (bm l)=bm l:=jz f g l
theorem TC:∀ro ys T K,Pb ro ys T K→VCx prog ae ro qR ys T K:=by
 intro ro ys T K hw
 unfold Pb at hw
 split at hw
 ·rename_i l tok i
  obtain ⟨⟨⟨hro,ho⟩,p,rfl,hp⟩,hk⟩:=hw
  refine VCx.atKeep au (Nat.le_of_ble_eq_true hro) ho rfl (λ_ _=>rfl) ?_ (XN hp) λx hx=> ?_
  ·simp only [ap,TV.ren,ii]
   exact ⟨.vec _ _ _,by simp [aU];exact .refl _,trivial⟩
  ·cases hb:n6 (bm p)<;>rw [hb] at hx hk
   ·subst hx;exact ⟨λ_ _=>rfl,hk⟩
   ·obtain ⟨z,rfl⟩:=hx;exact ⟨λ_ _=>rfl,hk z⟩
 ·exact hw.elim
theorem TD {l:List (Int × Int)}(hn:l.length≤64000000):VCx prog ae 0 EW [.vec 2 (bm l) .none,.fn (.func Xv) [] [.ptr 0 0]] uZ λx T'=>x=.val (.bool (n6 (bm l)))∧T'=uZ:=by
 refine VCx.keepQ 1 0 (le_refl _) (le_refl _) (ak ac aa (aL λp hp=>by obtain rfl:=mem_singleton.1 hp;exact TC) ai (XH (bm l) _) ⟨⟨⟨rfl,rfl⟩,l,rfl,hn⟩,?_⟩)
 cases h:n6 (bm l)
 ·exact ⟨rfl,rfl⟩
 ·exact λz=>⟨rfl,rfl⟩
theorem TE:∀ro ys T K,Jc ro ys T K→VCx prog ae ro EW ys T K:=by
 intro ro ys T K hw
 unfold Jc at hw
 split at hw
 ·rename_i l tok i
  obtain ⟨⟨⟨hro,ho⟩,p,rfl,hp⟩,hk⟩:=hw
  refine VCx.atKeep au (Nat.le_of_ble_eq_true hro) ho rfl (λ_ _=>rfl) ?_ (TD hp) λx hx=> ?_
  ·simp only [ap,TV.ren,ii]
   exact ⟨.vec _ _ _,by simp [aU];exact .refl _,trivial⟩
  ·subst hx;exact ⟨λ_ _=>rfl,hk⟩
 ·exact hw.elim
def zP (n:Nat):List TV:=(Builtin.zeroCells (Value.agg #[.int .u32 0,.int .i64 0]).cells n).toList.map .val
theorem XO (f g:Nat→Option Nat)(n:Nat):ap f g (zP n)=zP n:=tw _ _ _
theorem TF {n:Int}(h0:0<n)(h1:n≤64000000):VCx prog ae 0 uW [.val (.slice none 0 0),.val (.int .i64 n)] ⟨[],[]⟩ λx T1=>x=.row 2 0 0 0∧T1=⟨[.row (zP n.toNat)],[]⟩:=by
 obtain ⟨inf,i1,i2,i3,i4⟩:=pn
 refine ak ac aa an ai (Mf n n.toNat (zP n.toNat) ⟨[],[]⟩ _) ?_
 have e:wrap i64 (n-wrap i64 (((0:Nat):Int)-((0:Nat):Int)))=n:=by
  rw [show wrap i64 (((0:Nat):Int)-((0:Nat):Int))=0 from rfl,Int.sub_zero,b6 (by omega) (by omega)]
 refine aO (decide_eq_false (by omega)) (aS (decide_eq_true (by rw [e];exact h0)) ⟨?_,rfl,rfl⟩)
 rw [e]
 have hb:n.toNat*(inf.bytes+1)≤140737488355328:=by
  have:=mul_le_mul (show n.toNat≤64000000 by omega) i3
  omega
 have h:=zc (P:=prog) (G:=ae) (ro:=0) (T:=⟨[],[]⟩) (t:=58) (tn:=3) (s:=.tmp 20) (x:=.tmp 21) (l:= [(20,.val (.slice none 0 0)),(21,.val (.int .i64 n))]) (inf:=inf) (m:=n) underlying58 Tryz.underlying3 i1 i4 (by rw [i2];rfl) (by rw [i2];decide) rfl rfl rfl h0 hb
 rw [i2] at h
 exact h
theorem E5 {n:Int}(h0:0<n)(h1:n≤64000000)(ro:Nat)(T:VT):oA n (.row 2 T.objs.length 0 0) {T with objs:=T.objs++ [.row (zP n.toNat)]} ro T:=by
 unfold oA
 refine (VCx.lift (T:=T) [] [] au nodup_nil nodup_nil (by simp) (by simp) (by simp) rfl (by rw [VT.give_nil];exact TF h0 h1) (λ_ _ _=>⟨zero_le _,zero_le _⟩)).mono ?_
 rintro z T' ⟨x,T'',⟨rfl,rfl⟩,rfl,rfl⟩
 refine ⟨by simp [TV.ren,ba],?_⟩
 rw [VT.back_nil]
 simp [VO.ren,XO]
theorem TG (ro:Nat)(T:VT):oA 0 (.val (.slice none 0 0)) T ro T:=by
 unfold oA
 exact VCx.liftPure (y:=.val (.slice none 0 0)) au (ak ac aa an ai (Mf 0 0 [] ⟨[],[]⟩ _) ⟨rfl,rfl⟩) rfl (λ_ _=>rfl) ⟨rfl,rfl⟩
theorem Cs {gy:TV}{gT:VT}:bf prog ae (aF [(uW,xE gy gT)]):=aL λp hp=>by
 obtain rfl:=mem_singleton.1 hp
 intro ro ys T K hw
 replace hw:xE gy gT ro ys T K:=hw
 unfold xE at hw
 split at hw
 ·obtain ⟨h,hk⟩:=hw
  exact VCx.mono h λx T1 ⟨h1,h2⟩=>by subst h1 h2;exact hk
 ·exact hw.elim
theorem apR {e:TypeId}{t:TypeId}{inf:TypeInfo}{z:Value}{sz:Nat}(ht:prog.underlying t=some (.slice e))(hi:prog.info? e=some inf)(hs:inf.size=sz)(hz:inf.zero=some z)(hzs:z.cells.size=sz)(hz1:z.cells.toList.all Value.oneCell'=true)(hbd:inf.bytes+1≤1000)
  {T:VT} {id n m:Nat} {cs cs':List TV} {q:List TV} {a:Bs} {tok:Tok} (ho:T.objs[id]?=some (.row cs)) (hn:n*sz≤cs.length) (hb:n+a.length+1≤96000000) (hm:m=n+(a.length+1)) (hcs:cs'=cs.take (n*sz)++(q::a).flatten):
  bb prog ae 0 T (.call ⟨.builtin .append,#[.tmp 31,.tmp 32],#[t,t]⟩) [(31,.row sz id 0 n),(32,.vec sz (q::a) tok)] (.row sz T.objs.length 0 m) ((T.kill id).newRow cs'):=by
 subst hm hcs hs
 refine lX (P:=prog) (G:=ae) (ro:=0) (T:=T) (t:=t) (tx:=t) (s:=.tmp 31) (x:=.tmp 32) (l:= [(31,.row inf.size id 0 n),(32,.vec inf.size (q::a) tok)]) (inf:=inf) (id:=id) (n:=n) (cs:=cs) (q0:=q) (qs:=a) ht hi hz hzs hz1 (by rw [ht];rfl) rfl ho (zero_le _) hn ?_ ?_
 ·show bK T inf.size (.vec inf.size (q::a) tok)=_
  simp [bK]
 ·have:=mul_le_mul (show n+(q::a).length≤96000000 by simp only [length_cons];omega) hbd
  omega
theorem QJ {T:VT}{id n m:Nat}{cs cs':List TV}{q:List TV}{a:Bs}{tok:Tok}(ho:T.objs[id]?=some (.row cs))(hn:n*2≤cs.length)(hb:n+a.length+1≤96000000)(hm:m=n+(a.length+1))(hcs:cs'=cs.take (n*2)++(q::a).flatten):
  bb prog ae 0 T (.call ⟨.builtin .append,#[.tmp 31,.tmp 32],#[58,58]⟩) [(31,.row 2 id 0 n),(32,.vec 2 (q::a) tok)] (.row 2 T.objs.length 0 m) ((T.kill id).newRow cs'):=by
 obtain ⟨inf,i1,i2,i3,i4⟩:=pn
 exact apR underlying58 i1 i2 i4 rfl (by decide) i3 ho hn hb hm hcs
theorem Mj {T:VT}{id n m:Nat}{cs cs':List TV}{q:List TV}{a:Bs}{tok:Tok}(ho:T.objs[id]?=some (.row cs))(hn:n*1≤cs.length)(hb:n+a.length+1≤96000000)(hm:m=n+(a.length+1))(hcs:cs'=cs.take (n*1)++(q::a).flatten):
  bb prog ae 0 T (.call ⟨.builtin .append,#[.tmp 31,.tmp 32],#[22,22]⟩) [(31,.row 1 id 0 n),(32,.vec 1 (q::a) tok)] (.row 1 T.objs.length 0 m) ((T.kill id).newRow cs'):=by
 obtain ⟨inf,i1,i2,i3,i4⟩:=cO
 exact apR underlying22 i1 i2 i4 rfl (by decide) (by omega) ho hn hb hm hcs
theorem wz {m:Nat}(hm:m≤96000000):wrap i64 ((0:Int)+(m:Int))=(m:Int):=by rw [Int.zero_add,b6 (by omega) (by omega)]
theorem wa {a b:Nat}(h:a+b≤96000000):wrap i64 ((a:Int)+(b:Int))=((a+b:Nat):Int):=by rw [b6 (by omega) (by omega)];omega
theorem u0 {b:Nat}:decide (((b:Nat):Int)<0)=false:=decide_eq_false (by omega)
theorem He:∀l:List (Int × Int),(bm l).flatten.length=l.length*2:=λl=>by
 rw [b7 (size:=2) (λe he=>by obtain ⟨p,_,rfl⟩:=mem_map.1 he;rfl),dv]
theorem XP {a b:List (Int × Int)}{tok tok1 tok2:Tok}(ha:a.length≤3200000)(hb:b.length≤3200000):VCx prog ae 0 uX [.vec 1 [[.vec 2 (bm a) tok1],[.vec 2 (bm b) tok2]] tok] ⟨[],[]⟩ λx T'=>x=.vec 2 (bm a++bm b) .none∧T'=⟨[],[]⟩:=by
 have hz:∀l:List (Int × Int),∀e∈bm l,e.length=2:=λl e he=>by obtain ⟨p,_,rfl⟩:=mem_map.1 he;rfl
 have hza:∀e∈bm a++bm b,e.length=2:=λe he=>by rcases mem_append.1 he with h | h<;>exact hz _ e h
 have hren:∀f g,bk f g (bm a++bm b)=bm a++bm b:=λf g=>by rw [cD,map_append,←cD,←cD,ii,ii]
 cases a with
 |nil=>
  cases b with
  |nil=>exact VCx.toLe (Q:=λT'=>T'=⟨[],[]⟩) (ak ac aa Cs ai (XG tok tok1 tok2 _) ⟨TG _ _,.nil 2,rfl⟩)
  |cons r b=>
   refine VCx.freezeRow hren (ak ac aa Cs ai (XF (cP r) (bm b) (b.length+1) (zP (b.length+1)) tok tok1 tok2 ⟨[.gone,.row (bm (r::b)).flatten],[]⟩ _) ?_)
   have w0:wrap i64 ((0:Int)+((0:Nat):Int))=((0:Nat):Int):=rfl
   have hlen:(cP r::bm b).length=b.length+1:=by rw [length_cons,dv]
   rw [w0,hlen,wa (by simp only [length_cons] at hb;omega),zero_add]
   refine aO u0 ⟨E5 (n:=((b.length+1:Nat):Int)) (by omega) (by simp only [length_cons] at hb;omega) 0 ⟨[],[]⟩,?_,jW rfl hza ?_⟩
   ·exact QJ (q:=cP r) (a:=bm b) (n:=0) (cs:=zP (b.length+1)) rfl (by omega) (by rw [dv];simp only [length_cons] at hb;omega) (by rw [dv,zero_add]) (by rw [zero_mul,take_zero];rfl)
   ·simp [bm]
 |cons q a=>
  have hlen:(cP q::bm a).length=a.length+1:=by rw [length_cons,dv]
  cases b with
  |nil=>
   refine VCx.freezeRow hren (ak ac aa Cs ai (XE (cP q) (bm a) (a.length+1) (zP (a.length+1)) tok tok1 tok2 ⟨[.gone,.row (bm (q::a)).flatten],[]⟩ _) ?_)
   have hb2:a.length+1≤3200000:=by simpa using ha
   rw [hlen,wz (by omega),wa (by omega),Nat.add_zero]
   refine aO u0 (aO u0 ⟨E5 (n:=((a.length+1:Nat):Int)) (by omega) (by omega) 0 ⟨[],[]⟩,?_,jW (by simp [bm]) hza ?_⟩)
   ·exact QJ (q:=cP q) (a:=bm a) (n:=0) (cs:=zP (a.length+1)) rfl (by omega) (by rw [dv];omega) (by rw [dv,zero_add]) (by rw [zero_mul,take_zero];rfl)
   ·simp [bm]
  |cons r b=>
   have hlen2:(cP r::bm b).length=b.length+1:=by rw [length_cons,dv]
   have hb2:a.length+1≤3200000:=by simpa using ha
   have hb3:b.length+1≤3200000:=by simpa using hb
   refine VCx.freezeRow hren (ak ac aa Cs ai (Tz (cP q) (cP r) (bm a) (bm b) (a.length+1) [] tok tok1 tok2 (.row 2 2 0 ((a.length+1)+(b.length+1))) ⟨[.row (zP ((a.length+1)+(b.length+1)))],[]⟩ ⟨[.gone,.row (bm (q::a)).flatten],[]⟩ ⟨[.gone,.gone,.row ((bm (q::a)).flatten++(bm (r::b)).flatten)],[]⟩ _) ?_)
   rw [hlen,hlen2,wz (by omega),wa (by omega)]
   refine aO u0 (aO u0 ⟨E5 (n:=(((a.length+1)+(b.length+1):Nat):Int)) (by omega) (by omega) 0 ⟨[],[]⟩,?_,?_,jW (by simp [bm]) hza ?_⟩)
   ·exact QJ (q:=cP q) (a:=bm a) (n:=0) (cs:=zP ((a.length+1)+(b.length+1))) rfl (by omega) (by rw [dv];omega) (by rw [dv,zero_add]) (by rw [zero_mul,take_zero];rfl)
   ·exact QJ (q:=cP r) (a:=bm b) (T:=⟨[.gone,.row (bm (q::a)).flatten],[]⟩) (id:=1) (n:=a.length+1) (cs:=(bm (q::a)).flatten) rfl (by rw [He];simp) (by rw [dv];omega) (by rw [dv]) (by rw [take_of_length_le (by rw [He];simp)];rfl)
   ·simp [bm];omega
theorem TH:∀ro ys T K,Jd ro ys T K→VCx prog ae ro uX ys T K:=by
 intro ro ys T K hw
 unfold Jd at hw
 split at hw
 ·rename_i a tok1 b tok2 tok
  obtain ⟨⟨⟨a,rfl,ha⟩,b,rfl,hb⟩,hk⟩:=hw
  refine VCx.liftPure au (XP ha hb) (by simp only [ap,bk,TV.ren,ii];rfl) (λf g=> ?_) hk
  simp only [TV.ren,Tok.ren]
  rw [cD,map_append,←cD,←cD,ii,ii]
 ·exact hw.elim
theorem Hf (a b:List (Int × Int)):bm a++bm b=bm (a++b):=(map_append ..).symm
theorem TI {a b:List (Int × Int)}{tok tok1 tok2:Tok}(ha:a.length≤3200000)(hb:b.length≤3200000):VCx prog ae 0 EX [xF,.vec 1 [[.vec 2 (bm a) tok1],[.vec 2 (bm b) tok2]] tok] ⟨[],[]⟩ λx T'=>x=.val (.bool (!n6 (bm a++bm b)))∧T'=⟨[],[]⟩:=by
 have hS:bf prog ae (aF [(uX,Jd),(EW,Jc)]):=aL λp hp=>by
  rcases mem_cons.1 hp with rfl | hp;exact TH
  obtain rfl:=mem_singleton.1 hp;exact TE
 exact VCx.keepQ 0 0 (le_refl _) (le_refl _) (ak ac aa hS ai (TA (bm a) (bm b) tok tok1 tok2 _) ⟨⟨⟨a,rfl,ha⟩,b,rfl,hb⟩,⟨⟨rfl,rfl⟩,a++b,Hf a b,by rw [length_append];omega⟩,rfl,rfl⟩)
theorem TJ:∀ro ys T K,Je ro ys T K→VCx prog ae ro EX ys T K:=by
 intro ro ys T K hw
 unfold Je at hw
 split at hw
 ·rename_i a tok1 b tok2 tok
  obtain ⟨⟨⟨a,rfl,ha⟩,b,rfl,hb⟩,hk⟩:=hw
  exact VCx.liftPure au (TI ha hb) (by simp only [ap,bk,TV.ren,ii];rfl) (λ_ _=>rfl) hk
 ·exact hw.elim
--bumped 32
theorem Hg {b:Bs}(h:IsB b):∀e∈b,e.length=1:=h.len1
theorem XQ {a b c:Bs}{tok tok1 tok2 tok3:Tok}(h:E1 a b c):VCx prog ae 0 lY [.vec 1 [[.vec 1 a tok1],[.vec 1 b tok2],[.vec 1 c tok3]] tok] ⟨[],[]⟩ λx T'=>x=.vec 1 (a++(b++c)) .none∧T'=⟨[],[]⟩:=by
 obtain ⟨⟨ha,hane⟩,⟨hb,hbne⟩,hc,hl⟩:=h
 have hbc:IsB (b++c):=IsB.append hb hc (by rw [length_append];omega)
 have habc:IsB (a++(b++c)):=IsB.append ha hbc (by rw [length_append,length_append];omega)
 have hfa:=sP ha
 have hfb:=sP hb
 have hz:=Hg habc
 match a,b,hane,hbne with
 |q::a,r::b,_,_=>
  have hz2:(zR ((q::a).length+(r::b).length)).length=_:=V4 _
  cases c with
  |nil=>
   refine VCx.freezeRow habc.ren (ak ac aa Au ai (XJ q r a b (q::a).length ((q::a).length+(r::b).length) tok tok1 tok2 tok3 (.row 1 2 0 0) ⟨[.row (zR ((q::a).length+(r::b).length+0))],[]⟩ ⟨[.gone,.row (q::a).flatten],[]⟩ ⟨[.gone,.gone,.row ((q::a).flatten++(r::b).flatten)],[]⟩ ⟨[],[]⟩ _) ?_)
   rw [wz (by omega),wa (by omega),wa (by simp only [length_cons] at hl ⊢;omega)]
   refine aO u0 (aO u0 (aO u0 ⟨ze (n:=(((q::a).length+(r::b).length+0:Nat):Int)) (by simp only [length_cons];omega) (by omega) 0 ⟨[],[]⟩,?_,?_,jW (by simp) hz (by simp;omega)⟩))
   ·exact Mj (q:=q) (a:=a) (n:=0) (cs:=zR ((q::a).length+(r::b).length+0)) rfl (by omega) (by simp only [length_cons] at hl;omega) (by simp only [length_cons];omega) (by rw [zero_mul,take_zero];rfl)
   ·exact Mj (q:=r) (a:=b) (T:=⟨[.gone,.row (q::a).flatten],[]⟩) (id:=1) (n:=(q::a).length) (cs:=(q::a).flatten) rfl (by rw [hfa];omega) (by simp only [length_cons] at hl ⊢;omega) (by simp only [length_cons]) (by rw [take_of_length_le (by rw [hfa];omega)])
  |cons s c=>
   refine VCx.freezeRow habc.ren (ak ac aa Au ai (ZT q r s a b c (q::a).length ((q::a).length+(r::b).length) tok tok1 tok2 tok3 (.row 1 3 0 ((q::a).length+(r::b).length+(s::c).length)) ⟨[.row (zR ((q::a).length+(r::b).length+(s::c).length))],[]⟩ ⟨[.gone,.row (q::a).flatten],[]⟩ ⟨[.gone,.gone,.row ((q::a).flatten++(r::b).flatten)],[]⟩ ⟨[.gone,.gone,.gone,.row ((q::a).flatten++(r::b).flatten++(s::c).flatten)],[]⟩ _) ?_)
   rw [wz (by omega),wa (by omega),wa (by omega)]
   refine aO u0 (aO u0 (aO u0 ⟨ze (n:=(((q::a).length+(r::b).length+(s::c).length:Nat):Int)) (by simp only [length_cons];omega) (by omega) 0 ⟨[],[]⟩,?_,?_,?_,jW (by simp) hz (by simp;omega)⟩))
   ·exact Mj (q:=q) (a:=a) (n:=0) (cs:=zR ((q::a).length+(r::b).length+(s::c).length)) rfl (by omega) (by simp only [length_cons] at hl;omega) (by simp only [length_cons];omega) (by rw [zero_mul,take_zero];rfl)
   ·exact Mj (q:=r) (a:=b) (T:=⟨[.gone,.row (q::a).flatten],[]⟩) (id:=1) (n:=(q::a).length) (cs:=(q::a).flatten) rfl (by rw [hfa];omega) (by simp only [length_cons] at hl ⊢;omega) (by simp only [length_cons]) (by rw [take_of_length_le (by rw [hfa];omega)])
   ·exact Mj (q:=s) (a:=c) (T:=⟨[.gone,.gone,.row ((q::a).flatten++(r::b).flatten)],[]⟩) (id:=2) (n:=(q::a).length+(r::b).length) (cs:=(q::a).flatten++(r::b).flatten) rfl (by rw [length_append,hfa,hfb];omega) (by simp only [length_cons] at hl ⊢;omega) (by simp only [length_cons]) (by rw [take_of_length_le (by rw [length_append,hfa,hfb];omega)])
theorem TK:∀ro ys T K,Jf ro ys T K→VCx prog ae ro lY ys T K:=by
 intro ro ys T K hw
 unfold Jf at hw
 split at hw
 ·rename_i a tok1 b tok2 c tok3 tok
  obtain ⟨h,hk⟩:=hw
  have hbc:IsB (b++c):=IsB.append h.2.1.1 h.2.2.1 (by have:=h.2.2.2;rw [length_append];omega)
  have habc:IsB (a++(b++c)):=IsB.append h.1.1 hbc (by have:=h.2.2.2;rw [length_append,length_append];omega)
  exact VCx.liftPure au (XQ h) (by simp only [ap,bk,TV.ren,h.1.1.ren,h.2.1.1.ren,h.2.2.1.ren];rfl) (λf g=>by simp only [TV.ren,habc.ren,Tok.ren]) hk
 ·exact hw.elim
theorem XR {b:Bs}(hb:AE b):VCx prog ae 0 EY [.vec 1 b .none] ⟨[],[]⟩ λx T'=>x=.vec 1 (aw 2 b.length++b) .none∧T'=⟨[],[]⟩:=by
 have hp:=dh (k:=2) (b.length:Int) (by decide)
 have hl:=bo (k:=2) (b.length:Int)
 have hi:=IsB.append hp hb.1 (by rw [length_append,hl];have:=hb.2;omega)
 refine VCx.toLe (Q:=λT'=>T'=⟨[],[]⟩) (VCx.keepQ 0 0 (le_refl _) (le_refl _) (ak ac aa (aL λp hp=>by obtain rfl:=mem_singleton.1 hp;exact Hc) ai (ZP b (aw 2 b.length++b) (0+b.length) _) ⟨rfl,⟨⟨by omega,by have:=hb.2;omega⟩,by decide,by decide⟩,?_,?_,rfl⟩))
 ·exact jV (ro:=0) (T:=⟨[],[(0,1,false)]⟩) (T1:=⟨[],[(0,1,false)]⟩) (s:=.tmp 5) (x:=.tmp 6) (l:= [(5,.vec 1 (aw 2 b.length) (.tail 0 0)),(6,.vec 1 b .none)]) (es:=aw 2 b.length) (es2:=b) (k:=0) (n:=0) (bn:=false) rfl rfl (by rw [hl];have:=hb.2;omega)
 ·simp only [TV.ren,hi.ren]
  exact .vec 1 _ _
theorem TL:VCx prog ae 0 EY [.val (.slice none 0 0)] ⟨[],[]⟩ λx T'=>x=.vec 1 (aw 2 0) .none∧T'=⟨[],[]⟩:=by
 have hp:=dh (k:=2) 0 (by decide)
 refine VCx.toLe (Q:=λT'=>T'=⟨[],[]⟩) (VCx.keepQ 0 0 (le_refl _) (le_refl _) (ak ac aa (aL λp hp=>by obtain rfl:=mem_singleton.1 hp;exact Hc) ai (XI (aw 2 0) 0 _) ⟨rfl,⟨⟨by decide,by decide⟩,by decide,by decide⟩,?_,?_,rfl⟩))
 ·have h:=jV (ro:=0) (T:=⟨[],[(0,1,false)]⟩) (T1:=⟨[],[(0,1,false)]⟩) (s:=.tmp 5) (x:=.tmp 6) (l:= [(5,.vec 1 (aw 2 0) (.tail 0 0)),(6,.val (.slice none 0 0))]) (es:=aw 2 0) (es2:= []) (k:=0) (n:=0) (bn:=false) rfl rfl (by rw [bo];decide)
  rw [append_nil] at h
  exact h
 ·simp only [TV.ren,hp.ren]
  exact .vec 1 _ _
theorem XS:∀ro ys T K,QF ro ys T K→VCx prog ae ro EY ys T K:=by
 intro ro ys T K hw
 unfold QF at hw
 split at hw
 ·exact VCx.liftPure au TL rfl (λf g=>by simp only [TV.ren,(dh (k:=2) 0 (by decide)).ren,Tok.ren]) hw
 ·rename_i b tok
  obtain ⟨hb,hk⟩:=hw
  have hi:=IsB.append (dh (k:=2) (b.length:Int) (by decide)) hb.1 (by rw [length_append,bo];have:=hb.2;omega)
  refine VCx.loosePure au (XR hb) (by simp [cj]) (by simp only [ap,TV.ren,hb.1.ren,Tok.ren]) (λf g=>by simp only [TV.ren,hi.ren,Tok.ren]) hk
 ·exact hw.elim
theorem UpV.ren (u:UpV)(f g:Nat→Option Nat):ap f g u.cells=u.cells:=by
 simp only [UpV.cells,ap,TV.ren,dm,ii,Tok.ren]
theorem XT (ok:Bool):∀ro ys T K,QB ok ro ys T K→VCx prog ae ro Bz ys T K:=by
 intro ro ys T K hw
 unfold QB at hw
 split at hw
 ·obtain ⟨⟨a,rfl,hn,rfl,rfl⟩,hk⟩:=hw
  refine VCx.liftPure au (xs:= [.agg a.cells,.agg Xw]) (VCx.argsLe (xs:= [.agg a.cells,.agg BC.cells]) ?_ (Mb a BC hn (zero_le _))) ?_ (λ_ _=>rfl) hk
  ·exact ⟨.refl _,.agg ⟨.refl _,.nil 1,.refl _,.refl _,.refl _,trivial⟩,trivial⟩
  ·simp only [ap,TV.ren,a.ren];rfl
 ·exact hw.elim
theorem XU (ok:Bool):∀ro ys T K,QC ok ro ys T K→VCx prog ae ro Bz ys T K:=by
 intro ro ys T K hw
 unfold QC at hw
 split at hw
 ·obtain ⟨⟨a,b,⟨rfl,rfl⟩,⟨hn,hn2⟩,rfl⟩,hk⟩:=hw
  exact VCx.liftPure au (Mb a b hn hn2) (by simp only [ap,TV.ren,a.ren,b.ren]) (λ_ _=>rfl) hk
 ·exact hw.elim
theorem XV (v:Bs):∀ro ys T K,QD v ro ys T K→VCx prog ae ro L0 ys T K:=by
 intro ro ys T K hw
 unfold QD at hw
 split at hw
 ·obtain ⟨⟨a,rfl,hn,hh,rfl⟩,hk⟩:=hw
  exact VCx.liftPure au (Xu a hn hh) (by simp only [ap,TV.ren,a.ren]) (λf g=>by simp only [TV.ren,(EV a).ren,Tok.ren]) hk
 ·exact hw.elim
theorem XW:∀ro ys T K,QE ro ys T K→VCx prog ae ro pH ys T K:=by
 intro ro ys T K hw
 unfold QE at hw
 split at hw
 ·obtain ⟨⟨p,rfl,hp⟩,hk⟩:=hw
  unfold ld at hk
  rw [iZ] at hk
  exact VCx.loosePure au (Tr hp) (by simp [cj,bm]) (by simp only [ap,TV.ren,jz,Tok.ren]) (λf g=>by simp only [TV.ren,(mN hp).ren,Tok.ren]) hk
 ·exact hw.elim
theorem XX:∀ro ys T K,QI ro ys T K→VCx prog ae ro uS ys T K:=by
 intro ro ys T K hw
 unfold QI at hw
 split at hw
 ·obtain ⟨⟨p,q,⟨rfl,rfl⟩,hp⟩,hk⟩:=hw
  have e:E2 (bm p) (bm q)=decide (p=q):=by unfold E2;rw [iZ,iZ]
  rw [e] at hk
  exact VCx.loosePure au (Xf hp) (by simp [cj]) (by simp only [ap,TV.ren,ii,Tok.ren]) (λ_ _=>rfl) hk
 ·exact hw.elim
theorem XY {u:UpV}(hu:jI u):VCx prog ae 0 Md [.agg u.cells] ⟨[],[]⟩ λx T'=>x=.val (.bool (j4 u))∧T'=⟨[],[]⟩:=by
 obtain ⟨h1,h2,h3,h4,h5⟩:=hu
 have hS:bf prog ae (aF [(EX,Je),(EQ,G6 (ji u.a)),(Bz,QB (decide (u.a=BC)))]):=aL λp hp=>by
  rcases mem_cons.1 hp with rfl | hp;exact TJ
  rcases mem_cons.1 hp with rfl | hp;exact Ma _
  obtain rfl:=mem_singleton.1 hp;exact XT _
 refine VCx.keepQ 0 0 (le_refl _) (le_refl _) (ak ac aa hS ai (ZO (bm u.w) (iV u.a.p) (bm u.n) u.a.o u.a.h u.a.m u.a.hm (ji u.a) (decide (u.a=BC)) _) ⟨⟨⟨_,rfl,by omega⟩,_,rfl,by omega⟩,?_⟩)
 rw [Hf,Hd,not_not,dv]
 have fin:∀(q:Bool) (T:VT),j4 u=q→((TV.val (.bool q)).ren (aA 0) (aA 0)=.val (.bool (j4 u))∧T.keep 0 0=⟨[],[]⟩):=λb T h=>⟨by rw [h];rfl,by simp [VT.keep]⟩
 cases hg:(u.w++u.n).all λp=>qz p.1 p.2
 ·exact aS rfl (fin false _ (by unfold j4;rw [hg];rfl))
 ·refine aO rfl (aq (λc=>⟨⟨u.a,rfl,h3,rfl⟩,fin _ _ ?_⟩) (λc=>⟨⟨u.a,rfl,h3,rfl,rfl⟩,fin _ _ ?_⟩))
  ·unfold j4;rw [hg,c];rfl
  ·unfold j4;rw [hg,c];rfl
theorem XZ (ok:Bool):∀ro ys T K,QG ok ro ys T K→VCx prog ae ro Md ys T K:=by
 intro ro ys T K hw
 unfold QG at hw
 split at hw
 ·obtain ⟨⟨u,rfl,hu,rfl⟩,hk⟩:=hw
  exact VCx.liftPure au (XY hu) (by simp only [ap,TV.ren,u.ren]) (λ_ _=>rfl) hk
 ·exact hw.elim
theorem E6 {u:UpV}(hu:jI u)(hg:j4 u=true):oz u.w∧oz u.n:=by
 obtain ⟨h1,h2,_⟩:=hu
 unfold j4 at hg
 have h:=(and_eq_true _ _▸hg).1
 rw [all_eq_true] at h
 exact ⟨⟨λp hp=>Mi (h p (mem_append.2 (.inl hp))),by omega⟩,⟨λp hp=>Mi (h p (mem_append.2 (.inr hp))),by omega⟩⟩
theorem X0 (u:UpV):IsB (eD u)∧(eD u).length≤10040:=by
 unfold eD
 cases decide ((u.n.length:Int)>0)
 ·exact ⟨.nil,zero_le _⟩
 ·exact ⟨EV _,G9 _⟩
theorem zv {b:Bs}(h:0<b.length):b≠ []:=List.length_pos_iff.1 h
theorem Mk {u:UpV}(hu:jI u)(hg:j4 u=true):E1 (aw 2 (bJ u.w).length++bJ u.w) (aw 2 (eD u).length++eD u) (bJ u.n):=by
 obtain ⟨hw,hn⟩:=E6 hu hg
 obtain ⟨h1,h2,_⟩:=hu
 obtain ⟨a1,a2⟩:=X0 u
 have l1:=mM u.w
 have l2:=mM u.n
 have p2:∀z:Int,(aw 2 z).length=2:=λz=>bo z
 refine ⟨⟨IsB.append (dh _ (by decide)) (mN hw) ?_,zv ?_⟩,⟨IsB.append (dh _ (by decide)) a1 ?_,zv ?_⟩,mN hn,?_⟩<;>simp only [length_append,p2]<;>omega
theorem zw {u:UpV}(hu:jI u)(hg:j4 u=true):IsB (eZ u):=by
 have h:=Mk hu hg
 exact IsB.append h.1.1 (IsB.append h.2.1.1 h.2.2.1 (by have:=h.2.2.2;simp only [length_append] at this ⊢;omega)) (by have:=h.2.2.2;simp only [length_append] at this ⊢;omega)
theorem X1 {u:UpV}(hu:jI u)(hg:j4 u=true):VCx prog ae 0 Me [.agg u.cells] ⟨[],[]⟩ λx T'=>x=.vec 1 (eZ u) .none∧T'=⟨[],[]⟩:=by
 have hS:bf prog ae (aF [(L0,QD (pJ u.a)),(pH,QE),(EY,QF),(lY,Jf)]):=aL λp hp=>by
  rcases mem_cons.1 hp with rfl | hp;exact XV _
  rcases mem_cons.1 hp with rfl | hp;exact XW
  rcases mem_cons.1 hp with rfl | hp;exact XS
  obtain rfl:=mem_singleton.1 hp;exact TK
 obtain ⟨hw,hn⟩:=E6 hu hg
 have hc:=Mk hu hg
 have hB:=zw hu hg
 have l1:=mM u.w
 obtain ⟨h1,h2,h3,h4,h5⟩:=hu
 have e1:ld (bm u.w)=bJ u.w:=by unfold ld;rw [iZ]
 have e2:ld (bm u.n)=bJ u.n:=by unfold ld;rw [iZ]
 have fin:∀(v:Bs) (T:VT),v=eZ u→((TV.vec 1 v .none).ren (aA 0) (aA 0)=.vec 1 (eZ u) .none∧T.keep 0 0=⟨[],[]⟩):=λv T h=>⟨by subst h;simp only [TV.ren,hB.ren,Tok.ren],by simp [VT.keep]⟩
 refine VCx.keepQ 0 0 (le_refl _) (le_refl _) (ak ac aa hS ai (ZQ (bm u.w) (iV u.a.p) (bm u.n) (pJ u.a) u.a.o u.a.h u.a.m u.a.hm _) ?_)
 rw [e1,e2,dv]
 have cw:AE (bJ u.w):=⟨mN hw,by omega⟩
 have hA:∀c,decide ((u.n.length:Int)>0)=c→eD u=bif c then pJ u.a else []:=λc h=>by unfold eD;rw [h]
 refine aq (λc=> ?_) (λc=> ?_)
 ·have e:=hA _ c
  simp only [cond_true] at e
  rw [e] at hc
  exact ⟨⟨u.a,rfl,h3,⟨h4,h5⟩,rfl⟩,⟨_,rfl,hw⟩,⟨rfl,rfl,trivial⟩,cw,⟨rfl,rfl,trivial⟩,⟨EV _,by have:=G9 u.a;omega⟩,⟨rfl,rfl,trivial⟩,⟨_,rfl,hn⟩,hc,fin _ _ (by unfold eZ;rw [e])⟩
 ·have e:=hA _ c
  simp only [cond_false] at e
  have e2:aw (2:Int) ((([]:Bs).length:Nat):Int)++ []=aw 2 0:=by rw [append_nil];rfl
  rw [e,e2] at hc
  exact ⟨⟨_,rfl,hw⟩,⟨rfl,rfl,trivial⟩,cw,⟨rfl,rfl,trivial⟩,⟨rfl,rfl,trivial⟩,⟨_,rfl,hn⟩,hc,fin _ _ (by unfold eZ;rw [e,e2])⟩
def iu (u:UpV):Bs:=bif j4 u then (bif decide (((eZ u).length:Int)≤4077) then eZ u else []) else []
theorem X2 (v:Bs):∀ro ys T K,QH v ro ys T K→VCx prog ae ro Me ys T K:=by
 intro ro ys T K hw
 unfold QH at hw
 split at hw
 ·obtain ⟨⟨u,rfl,⟨hu,hg⟩,rfl⟩,hk⟩:=hw
  exact VCx.liftPure au (X1 hu hg) (by simp only [ap,TV.ren,u.ren]) (λf g=>by simp only [TV.ren,(zw hu hg).ren,Tok.ren]) hk
 ·exact hw.elim
theorem u3 {u:UpV}(hu:jI u):IsB (iu u)∧(iu u).length≤4077:=by
 unfold iu
 cases hg:j4 u
 ·exact ⟨.nil,zero_le _⟩
 ·cases c:decide (((eZ u).length:Int)≤4077)
  ·exact ⟨.nil,zero_le _⟩
  ·exact ⟨zw hu hg,by have:=of_decide_eq_true c;show (eZ u).length≤_;omega⟩
theorem X3 {u:UpV}(hu:jI u):VCx prog ae 0 Qx [.agg u.cells] ⟨[],[]⟩ λx T'=>x=.vec 1 (iu u) .none∧T'=⟨[],[]⟩:=by
 have hS:bf prog ae (aF [(Md,QG (j4 u)),(Me,QH (eZ u))]):=aL λp hp=>by
  rcases mem_cons.1 hp with rfl | hp;exact XZ _
  obtain rfl:=mem_singleton.1 hp;exact X2 _
 refine VCx.toLe (Q:=λT'=>T'=⟨[],[]⟩) (VCx.keepQ 0 0 (le_refl _) (le_refl _) (ak ac aa hS ai (ZR (bm u.w) (iV u.a.p) (bm u.n) (eZ u) u.a.o u.a.h u.a.m u.a.hm (j4 u) _) ⟨⟨u,rfl,hu,rfl⟩,?_⟩))
 cases hg:j4 u
 ·exact aS rfl ⟨by unfold iu;rw [hg];exact .nil 1,by simp [VT.keep]⟩
 ·have hB:=zw hu hg
  refine aO rfl ⟨⟨u,rfl,⟨hu,hg⟩,rfl⟩,aq (λc=>⟨?_,by simp [VT.keep]⟩) (λc=>⟨?_,by simp [VT.keep]⟩)⟩
  ·unfold iu;rw [hg,c];simp only [TV.ren,hB.ren,Tok.ren];exact .refl _
  ·unfold iu;rw [hg,c];exact .nil 1
theorem X4 {u v:UpV}(hu:jI u)(hv:v.a.p.length≤64000000):VCx prog ae 0 Qy [.agg u.cells,.agg v.cells] ⟨[],[]⟩ λx T'=>x=.val (.bool (decide (u=v)))∧T'=⟨[],[]⟩:=by
 have hS:bf prog ae (aF [(uS,QI),(Bz,QC (decide (u.a=v.a)))]):=aL λp hp=>by
  rcases mem_cons.1 hp with rfl | hp;exact XX
  obtain rfl:=mem_singleton.1 hp;exact XU _
 obtain ⟨h1,h2,h3,_⟩:=hu
 have e:∀p q,E2 (bm p) (bm q)=decide (p=q):=λp q=>by unfold E2;rw [iZ,iZ]
 refine VCx.keepQ 0 0 (le_refl _) (le_refl _) (ak ac aa hS ai (ZS (bm u.w) (iV u.a.p) (bm u.n) (bm v.w) (iV v.a.p) (bm v.n) u.a.o u.a.h u.a.m v.a.o v.a.h v.a.m u.a.hm v.a.hm (decide (u.a=v.a)) _) ?_)
 rw [e,e]
 have fin:∀(q:Bool) (T:VT),decide (u=v)=q→((TV.val (.bool q)).ren (aA 0) (aA 0)=.val (.bool (decide (u=v)))∧T.keep 0 0=⟨[],[]⟩):=λb T h=>⟨by rw [h];rfl,by simp [VT.keep]⟩
 refine ⟨⟨_,_,⟨rfl,rfl⟩,by omega⟩,aq (λc1=>⟨⟨_,_,⟨rfl,rfl⟩,by omega⟩,aq (λc2=>⟨⟨u.a,v.a,⟨rfl,rfl⟩,⟨h3,hv⟩,rfl⟩,fin _ _ ?_⟩) (λc2=>fin _ _ ?_)⟩) (λc1=>fin _ _ ?_)⟩
 ·refine decide_eq_decide.2 ⟨λh=>by rw [h],λh=> ?_⟩
  have d1:=of_decide_eq_true c1
  have d2:=of_decide_eq_true c2
  obtain ⟨w,a,n⟩:=u
  obtain ⟨w2,a2,n2⟩:=v
  simp only at d1 d2 h
  rw [d1,d2,h]
 ·exact decide_eq_false λh=>of_decide_eq_false c2 (by rw [h])
 ·exact decide_eq_false λh=>of_decide_eq_false c1 (by rw [h])
--bumped 32
abbrev QK:=107
abbrev Ml:=146
abbrev rK:=127
abbrev E7:=130
abbrev u4:=129
abbrev QL:=99
abbrev E8:=104
abbrev wL:=103
abbrev QM:=59
abbrev QN:=85
abbrev QO:=101
abbrev QP:=61
abbrev rL:=55
abbrev Mm:=35
abbrev Hh:=33
def bZ (b:Bs):List Int:=b.map fZ
def Pf (a b:Bs):Prop:=IsB a∧IsB b
def zx (a b:Bs):Bool:=decide (bZ a=bZ b)
def nz (c:Int)(v:Bs):Bool:=decide (0≤c)&&(decide (c≤255)&&decide (v.length≤100))
def qS (c:Int)(v:Bs):Prop:=(0≤c∧c≤255)∧IsB v∧v.length≤100
def j5 (c:Int)(v:Bs):Bs:=aw 1 c++aw 1 v.length++v
def Hi:List TV→Int × List Int
 |[.val (.int _ c),.vec _ v _]=>(c,bZ v)
 |_=>(0,[])
abbrev dN:=List (Int × List Int)
def BE (c:Int × List Int):List TV:= [.val (.int .i64 c.1),.vec 1 (bV c.2) .none]
def bM (l:dN):Bs:=l.map BE
def byt (l:List Int):Prop:=(∀z∈l,0≤z∧z<256)∧l.length≤32000000
def BF (l:dN):Prop:=(∀c∈l,∀z∈c.2,0≤z∧z<256)∧l.length≤64000000
def lZ (l:dN):Prop:=(∀c∈l,byt c.2)∧l.length≤64000000
def cc:dN→Nat
 |[]=>0
 |c::l=>c.2.length+2+cc l
def mO (l:dN):Bool:=l.all (λc=>nz c.1 (bV c.2))&&decide (cc l≤200)
def cJ (l:dN):Bs:=l.flatMap λc=>j5 c.1 (bV c.2)
def pL (l:Bs):Bs:=cJ (l.map Hi)
def X5 (l:Bs):Prop:=∃c:dN,l=bM c∧BF c∧mO c=true
def Pg (v w:Bs):Prop:=IsB v∧IsB w
def xG (c:Int)(v:Bs)(d:Int)(w:Bs):Bool:=decide (c=d)&&zx v w
def E9 (l m:Bs):Bool:=decide (l.map Hi=m.map Hi)
def X6 (l m:Bs):Prop:=∃a b:dN,(l=bM a∧m=bM b)∧(a.length=b.length→lZ a∧lZ b)
structure OpV where
 n:Int
 h:Int
 i:Int
 l:dN
deriving DecidableEq
def OpV.cells (o:OpV):List TV:= [.val (.int .i64 o.n),.val (.int .i64 o.h),.val (.int .u32 o.i),.vec 2 (bM o.l) .none]
def qT (o:OpV):Prop:=BF o.l∧0≤o.i∧o.i<4294967296
def j6 (o:OpV):Bool:=decide (1≤o.n)&&(decide (o.n≤65535)&&((decide (o.h=0) || (decide (3≤o.h)&&decide (o.h≤65535)))&&(!decide (o.i=0)&&mO o.l)))
def X7 (l:List TV)(ok:Bool):Prop:=∃o:OpV,l=o.cells∧qT o∧ok=j6 o
structure FtV where
 c:Int
 s:Int
 d:List Int
deriving DecidableEq
def FtV.cells (f:FtV):List TV:= [.val (.int .i64 f.c),.val (.int .i64 f.s),.vec 1 (bV f.d) .none]
def lf (f:FtV):Bool:=decide (1≤f.c)&&(decide (f.c≤255)&&(decide (0≤f.s)&&(decide (f.s≤255)&&decide (f.d.length≤4075))))
def Jg (a b:Bs):Prop:=(IsB a∧a≠ [])∧IsB b∧a.length+b.length≤32000000
def X8 (l:List TV)(ok:Bool):Prop:=∃f:FtV,l=f.cells∧byt f.d∧ok=lf f
def Jh (l m:List TV)(ok:Bool):Prop:=∃a b:OpV,(l=a.cells∧m=b.cells)∧(a.l.length=b.l.length→lZ a.l∧lZ b.l)∧ok=decide (a=b)
def Ji (l m:List TV)(ok:Bool):Prop:=∃a b:UpV,(l=a.cells∧m=b.cells)∧(jI a∧jI b)∧ok=decide (a=b)
def Jj (l m:List TV)(ok:Bool):Prop:=∃a b:FtV,(l=a.cells∧m=b.cells)∧(byt a.d∧byt b.d)∧ok=decide (a=b)
def QR:aW:=λ_ ys T K=>match ys with
 |[.vec 1 a _,.vec 1 b _]=>Pf a b∧K (.val (.bool (zx a b))) T
 |_=>aJ 84 default ys
def QS:aW:=λ_ ys T K=>match ys with
 |[.agg [.val (.int .i64 c),.vec 1 v _]]=>K (.val (.bool (nz c v))) T
 |_=>aJ 84 default ys
def QT:aW:=λ_ ys T K=>match ys with
 |[.agg [.val (.int .i64 c),.vec 1 v _]]=>qS c v∧K (.vec 1 (j5 c v) .none) T
 |_=>aJ 84 default ys
def QU:aW:=λ_ ys T K=>match ys with
 |[.vec 2 l _,.fn (.func 130) [] []]=>X5 l∧K (.vec 1 (pL l) .none) T
 |_=>aJ 84 default ys
def QV:aW:=λ_ ys T K=>match ys with
 |[.agg [.val (.int .i64 c),.vec 1 v _],.agg [.val (.int .i64 d),.vec 1 w _]]=>Pg v w∧K (.val (.bool (xG c v d w))) T
 |_=>aJ 84 default ys
def X9:aW:=λ_ ys T K=>match ys with
 |[.vec 2 l _,.vec 2 m _,.fn (.func 104) [] []]=>X6 l m∧K (.val (.bool (E9 l m))) T
 |_=>aJ 84 default ys
def QW (ok:Bool):aW:=λ_ ys T K=>match ys with
 |[.agg l]=>X7 l ok∧K (.val (.bool ok)) T
 |_=>aJ 84 default ys
def QX:aW:=λ_ ys T K=>match ys with
 |[.vec 1 [[.vec 1 a _],[.vec 1 b _]] _]=>Jg a b∧K (.vec 1 (a++b) .none) T
 |_=>aJ 84 default ys
def QY (ok:Bool):aW:=λ_ ys T K=>match ys with
 |[.agg l]=>X8 l ok∧K (.val (.bool ok)) T
 |_=>aJ 84 default ys
def td (R:List TV→List TV→Bool→Prop)(ok:Bool):aW:=λ_ ys T K=>match ys with
 |[.agg l,.agg m]=>R l m ok∧K (.val (.bool ok)) T
 |_=>aJ 84 default ys
def zy (R:List TV→Bs→Prop)(v:Bs):aW:=λ_ ys T K=>match ys with
 |[.agg l]=>R l v∧K (.vec 1 v .none) T
 |_=>aJ 84 default ys
def Hj:List Nat:= [2,3,26,27,28]
def wM (l:Bs)(n j:Int):List TV:= [.val (.bool false),.val (.int .i64 n),.vec 2 l .none,.val (.int .i64 l.length),.val (.int .i64 j)]
def Fa (ag h i:Int)(l:Bs):VT:=⟨[.cells [.val (.int .i64 ag),.val (.int .i64 h),.val (.int .u32 i),.vec 2 l .none]],[]⟩
def ogR (ag h i:Int)(l:Bs)(ok:Bool)(tot:Nat)(K:KX):Prop:=∀(z:Nat) (n c:Int) (v:Bs),bif ok then K .normal (aQ 48 Hj (wM l tot l.length)) (Fa ag h i l) [] else K .ret (aQ 48 Hj (wM l n z)) ⟨(Fa ag h i l).objs++ [.cells [.val (.int .i64 c),.vec 1 v .none]],[]⟩ []
def ogL (ag h i:Int)(l:Bs)(ok:Bool)(tot:Nat)(c0:Code):Nat→Option (bN × Code):=ct [(0,dE 48 Hj [] (wM l 0 0) (Fa ag h i l) (ogR ag h i l ok tot),c0)]
def Mn:List Nat:= [1,5,8,9,10]
def Hk (B L:Bs)(j:Int):List TV:= [.fn (.func 130) [] [],.vec 1 B (.tail 0 B.length),.vec 2 L .none,.val (.int .i64 L.length),.val (.int .i64 j)]
def eaL (B L:Bs)(c0:Code):Nat→Option (bN × Code):=ct [(0,Ic 21 Mn [(5,1)] [8] (Hk [] L 0) ⟨[],[(0,1,true)]⟩ λK=>K .normal (aQ 21 Mn (Hk B L L.length)) ⟨[],[(B.length,1,true)]⟩ [],c0)]
def Hl:List Nat:= [0,1,2,6,15,16,17]
def wO (l m:Bs)(j:Int):List TV:= [.vec 2 l .none,.vec 2 m .none,.fn (.func 104) [] [],.val (.bool false),.vec 2 l .none,.val (.int .i64 l.length),.val (.int .i64 j)]
def efR (l m:Bs)(ok:Bool)(K:KX):Prop:=(@Eq Nat l.length m.length)∧∀(z:Nat) (c d:Int) (v w:Bs),bif ok then K .normal (aQ 32 Hl (wO l m l.length)) ⟨[],[]⟩ [] else K .ret (aQ 32 Hl (wO l m z)) ⟨[.cells [.val (.int .i64 c),.vec 1 v .none],.cells [.val (.int .i64 d),.vec 1 w .none]],[]⟩ []
def efL (l m:Bs)(ok:Bool)(c0:Code):Nat→Option (bN × Code):=ct [(0,dE 32 Hl [] (wO l m 0) ⟨[],[]⟩ (efR l m ok),c0)]
theorem ZU (a b:Bs)(s t:ByteArray)(Q:TV→Prop):ar prog ae bt (aZ [(6,.val (.string s),some λT=>T),(8,.val (.string t),some λT=>T)]) 300 aN 0 QK [.vec 1 a .none,.vec 1 b .none] am (λx _=>Q x)=
 (bb prog (λ_=>.none) 0 am (.convert 22 9 (.tmp 5)) [(5,(av a))] (Ad s) am∧
 (bb prog (λ_=>.none) 0 am (.convert 22 9 (.tmp 7)) [(7,(av b))] (Ad t) am∧
 Q (cS (ax eql (aX (Value.string s) (Value.string t)))))):=by kernel_rfl
theorem ZV (c:Int)(v:Bs)(Q:TV→Prop):ar prog ae bt (aZ [(999998,.dead,none)]) 300 aN 0 Ml [.agg [.val (.int .i64 c),.vec 1 v .none]] am (λx _=>Q x)=
 (bif decide (c≥(0:Int))
 then (bif decide (c≤(255:Int))
 then Q (cS (decide ((↑(length v):Int)≤(100:Int))))
 else Q aj)
 else Q aj):=by kernel_rfl
abbrev Ct (l:Bs):List TV:=(aaU l (↑(length l):Int))
theorem ZW (ag h i:Int)(l:Bs)(ok:Bool)(tot:Nat)(Q:TV→Prop):ar prog ae bt (aZ [(999998,.dead,none)]) 300 (ogL ag h i l ok tot (aD prog rK 0)) 0 rK [.agg [.val (.int .i64 ag),.val (.int .i64 h),.val (.int .u32 i),.vec 2 l .none]] am (λx _=>Q x)=
 (bif decide (ag<(1:Int))
 then Q aj
 else (bif decide (ag>(65535:Int))
 then Q aj
 else (bif ax eql (k6 h (0:Int))
 then (bif ax eql (aX (Value.int u32 i) (Value.int u32 (0:Int)))
 then Q aj
 else ((aD prog rK (0:Nat)=aD prog rK (0:Nat))∧
 (((@Eq (Option Nat) .none .none)∧
 ((@Eq (Nat) 0 0)∧
 ((@Eq (List Nat) [] [])∧
 (True  ∧
 ((@Eq (VT) (DA ag h i l) (DA ag h i l))∧
 ((@Eq (Bool) true true)∧
 (@Eq (List TV) (Ct l) (Ct l))))))))∧
 (∀z:Nat,(∀n:Int,(∀c:Int,(∀v:Bs,(bif ok
 then Q (cS (decide ((↑tot:Int)≤(200:Int))))
 else Q aj))))))))
 else (bif decide (h≥(3:Int))
 then (bif !decide (h≤(65535:Int))
 then Q aj
 else (bif ax eql (aX (Value.int u32 i) (Value.int u32 (0:Int)))
 then Q aj
 else ((aD prog rK (0:Nat)=aD prog rK (0:Nat))∧
 (((@Eq (Option Nat) .none .none)∧
 ((@Eq (Nat) 0 0)∧
 ((@Eq (List Nat) [] [])∧
 (True  ∧
 ((@Eq (VT) (DA ag h i l) (DA ag h i l))∧
 ((@Eq (Bool) true true)∧
 (@Eq (List TV) (Ct l) (Ct l))))))))∧
 (∀z:Nat,(∀n:Int,(∀c:Int,(∀v:Bs,(bif ok
 then Q (cS (decide ((↑tot:Int)≤(200:Int))))
 else Q aj)))))))))
 else Q aj)))):=by kernel_rfl
abbrev Jk (n:Int)(l:Bs)(j:Nat):List TV:=(UD n l (↑(length l):Int) (↑j:Int))
theorem Mo (ag h i:Int)(l v:Bs)(n c:Int)(j:Nat)(Q:Exit→List TV→VT→List Nat→Nat→Prop):vx prog ae (aF [(Ml,QS)]) (aZ [(999999,.dead,none),(30,.elt [.val (.int .i64 c),.vec 1 v .none],none)]) 300 aN none 0 (cq prog rK 0) (aQ 48 Hj (wM l n j)) (Fa ag h i l) [] (cN Hj Q)=
 (bif decide ((↑j:Int)<(↑(length l):Int))
 then (bc prog (λ_=>.none) (.indexAddr 55 (.tmp 26) (.tmp 28)) [(26,(aY l)),(28,(ah (↑j:Int)))] (sA c v)∧
 (bif !nz c v
 then Q .ret (Jk n l j) (NE ag h i l c v) [] 48
 else (bif decide (n>(200:Int))
 then Q .ret (Jk n l j) (NE ag h i l c v) [] 48
 else Q .normal (UD (wrap i64 (n+wrap i64 ((↑(length v):Int)+(2:Int)))) l (↑(length l):Int) (wrap i64 ((↑j:Int)+(1:Int)))) (NE ag h i l c v) [] 48)))
 else Q (.exit 0) (Jk n l j) (DA ag h i l) [] 48):=by kernel_rfl
theorem ZX (c:Int)(v B:Bs)(e:Nat)(Q:TV→Prop):ar prog ae (aF [(nY,pK .i64 1)]) (aZ [(999998,.dead,none),(12,.vec 1 B (.tail 1 e),some λT=>{T with tails:= [(0,1,false),(e,1,false)]})]) 300 aN 0 E7 [.agg [.val (.int .i64 c),.vec 1 v .none]] am (λx _=>Q x)=
 ((@Eq (IntKind) .i64 .i64)∧
 (cT (c) 1∧
 (((@Eq (Option TV) (.some (av v)) (.some (av v)))∧
 (True  ∧
 ((@Eq (Option TV) (.some (av v)) (.some (av v)))∧
 ((@Eq (Option TV) (.some (ah c)) (.some (ah c)))∧
 True))))∧
 ((@Eq (IntKind) .i64 .i64)∧
 ((cT ((↑(length v):Int)) 1∧
 iP (aw (1:Int) c))∧
 (((@Eq (Option TV) (.some (av v)) (.some (av v)))∧
 (True  ∧
 ((@Eq (Option TV) (.some (av v)) (.some (av v)))∧
 ((@Eq (Option TV) (.some (ah c)) (.some (ah c)))∧
 True))))∧
 (bb prog (λ_=>.none) 0 (Dz c v [(0,(1,false)),(0,(1,false))]) (.call ⟨(.builtin .append),#[(.tmp 9),(.tmp 11)],#[22,22]⟩) [(9,(.vec 1 (aw (1:Int) c++aw (1:Int) (↑(length v):Int)) (.tail 1 0))),(11,(av v))] (.vec 1 B (.tail 1 e)) (Dz c v [(0,(1,false)),((e),(1,false))])∧
 Q (.vec 1 B (.tail 1 e))))))))):=by kernel_rfl
theorem ZY (B L:Bs)(Q:TV→Prop):ar prog ae bt aT 300 (eaL B L (aD prog u4 0)) 0 u4 [.vec 2 L .none,.fn (.func 130) [] []] am (λx _=>Q x)=
 ((aD prog u4 (0:Nat)=aD prog u4 (0:Nat))∧
 (((@Eq (Option Nat) .none .none)∧
 ((@Eq (Nat) 0 0)∧
 ((@Eq (List Nat) [] [])∧
 (((@Eq (Option TV) (.some aE) (.some aE))∧
 True)∧
 ((@Eq (VT) ⟨[],[(0,(1,true))]⟩ ⟨[],[(0,(1,true))]⟩)∧
 ((@Eq (Bool) true true)∧
 (@Eq (List TV) [(.fn (.func 130) [] []),mZ,(aY L),(ah (↑(length L):Int)),aB] [(.fn (.func 130) [] []),mZ,(aY L),(ah (↑(length L):Int)),aB])))))))∧
 Q (bS B (length B)))):=by kernel_rfl
theorem Mp (B B2 L v:Bs)(c:Int)(j:Nat)(Q:Exit→List TV→VT→List Nat→Nat→Prop):vx prog ae (aF [(E7,QT)]) (aZ [(999999,.dead,none),(12,.elt [.val (.int .i64 c),.vec 1 v .none],none),(18,.vec 1 B2 (.tail 0 B2.length),some λT=>{T with tails:= [(B2.length,1,true)]})]) 300 aN none 0 (cq prog u4 0) (aQ 21 Mn (Hk B L j)) ⟨[],[(B.length,1,true)]⟩ [] (cN Mn Q)=
 (bif decide ((↑j:Int)<(↑(length L):Int))
 then (bc prog (λ_=>.none) (.indexAddr 55 (.tmp 8) (.tmp 10)) [(8,(aY L)),(10,(ah (↑j:Int)))] (sA c v)∧
 (qS (c) (v)∧
 (bb prog (λ_=>.none) 0 (Dz c v [((length B),(1,true))]) (.call ⟨(.builtin .append),#[(.tmp 14),(.tmp 17)],#[22,22]⟩) [(14,(bS B (length B))),(17,(av (j5 c v)))] (bS B2 (length B2)) (Dz c v [((length B2),(1,true))])∧
 Q .normal [(.fn (.func 130) [] []),(bS B2 (length B2)),(aY L),(ah (↑(length L):Int)),(ah (wrap i64 ((↑j:Int)+(1:Int))))] (Dz c v [((length B2),(1,true))]) [] 21)))
 else Q (.exit 0) [(.fn (.func 130) [] []),(bS B (length B)),(aY L),(ah (↑(length L):Int)),(ah (↑j:Int))] ⟨[],[((length B),(1,true))]⟩ [] 21):=by kernel_rfl
theorem ZZ (ag h i:Int)(l v:Bs)(e:Nat)(ok:Bool)(Q:TV→Prop):ar prog ae (aF [(rK,QW ok),(nY,pK .i64 1),(jH,ky .i64 2),(sU,ky .u32 4),(u4,QU)]) (aZ [(999998,.dead,none),(38,.vec 1 v (.tail 3 e),some λT=>{T with tails:= [(0,1,false),(0,1,false),(0,1,false),(e,1,false)]})]) 300 aN 0 QL [.agg [.val (.int .i64 ag),.val (.int .i64 h),.val (.int .u32 i),.vec 2 l .none]] am (λx _=>Q x)=
 (X7 (w8 ag h i l) (ok)∧
 (bif !ok
 then Q aE
 else ((@Eq (IntKind) .i64 .i64)∧
 (cT 4 1∧
 (((@Eq (Option TV) (.some (cd i)) (.some (cd i)))∧
 ((@Eq (Option TV) (.some (ah h)) (.some (ah h)))∧
 ((@Eq (Option TV) (.some (ah ag)) (.some (ah ag)))∧
 True)))∧
 ((@Eq (IntKind) .i64 .i64)∧
 ((cT (ag) 2∧
 iP (aw (1:Int) (4:Int)))∧
 (((@Eq (Option TV) (.some (cd i)) (.some (cd i)))∧
 ((@Eq (Option TV) (.some (ah h)) (.some (ah h)))∧
 ((@Eq (Option TV) (.some (ah ag)) (.some (ah ag)))∧
 True)))∧
 ((@Eq (IntKind) .i64 .i64)∧
 ((cT (h) 2∧
 iP (aw (1:Int) (4:Int)++aw (2:Int) ag))∧
 (((@Eq (Option TV) (.some (cd i)) (.some (cd i)))∧
 ((@Eq (Option TV) (.some (ah h)) (.some (ah h)))∧
 ((@Eq (Option TV) (.some (ah ag)) (.some (ah ag)))∧
 True)))∧
 ((@Eq (IntKind) .u32 .u32)∧
 ((cT (i) 4∧
 iP (aw (1:Int) (4:Int)++aw (2:Int) ag++aw (2:Int) h))∧
 (bif ax eql (k6 (↑(length l):Int) (0:Int))
 then ((@Eq (IntKind) .i64 .i64)∧
 ((cT 0 1∧
 iP (aw (1:Int) (4:Int)++aw (2:Int) ag++aw (2:Int) h++aw (4:Int) i))∧
 Q (.vec 1 (aw (1:Int) (4:Int)++aw (2:Int) ag++aw (2:Int) h++aw (4:Int) i++aw (1:Int) (0:Int)) (.tail 1 0))))
 else (X5 (l)∧
 ((@Eq (IntKind) .i64 .i64)∧
 ((cT (wrap i64 ((↑(length (pL l)):Int)+(2:Int))) 1∧
 iP (aw (1:Int) (4:Int)++aw (2:Int) ag++aw (2:Int) h++aw (4:Int) i))∧
 ((@Eq (IntKind) .i64 .i64)∧
 ((cT 2 1∧
 iP (aw (1:Int) (4:Int)++aw (2:Int) ag++aw (2:Int) h++aw (4:Int) i++aw (1:Int) (wrap i64 ((↑(length (pL l)):Int)+(2:Int)))))∧
 ((@Eq (IntKind) .i64 .i64)∧
 ((cT ((↑(length (pL l)):Int)) 1∧
 iP (aw (1:Int) (4:Int)++aw (2:Int) ag++aw (2:Int) h++aw (4:Int) i++aw (1:Int) (wrap i64 ((↑(length (pL l)):Int)+(2:Int)))++aw (1:Int) (2:Int)))∧
 (bb prog (λ_=>.none) 0 ⟨[(lH ag h i l)],[(0,(1,false)),(0,(1,false)),(0,(1,false)),(0,(1,false))]⟩ (.call ⟨(.builtin .append),#[(.tmp 36),(.tmp 37)],#[22,22]⟩) [(36,(.vec 1 (aw (1:Int) (4:Int)++aw (2:Int) ag++aw (2:Int) h++aw (4:Int) i++aw (1:Int) (wrap i64 ((↑(length (pL l)):Int)+(2:Int)))++aw (1:Int) (2:Int)++aw (1:Int) (↑(length (pL l)):Int)) (.tail 3 0))),(37,(av (pL l)))] (.vec 1 v (.tail 3 e)) ⟨[(lH ag h i l)],[(0,(1,false)),(0,(1,false)),(0,(1,false)),((e),(1,false))]⟩∧
 Q (.vec 1 v (.tail 3 e)))))))))))))))))))))))):=by kernel_rfl
theorem Z0 (c d:Int)(v w:Bs)(Q:TV→Prop):ar prog ae (aF [(QK,QR)]) (aZ [(999998,.dead,none)]) 300 aN 0 E8 [.agg [.val (.int .i64 c),.vec 1 v .none],.agg [.val (.int .i64 d),.vec 1 w .none]] am (λx _=>Q x)=
 (bif ax eql (k6 c d)
 then (Pf (v) (w)∧
 Q (cS (zx v w)))
 else Q aj):=by kernel_rfl
theorem Z1 (l m:Bs)(ok:Bool)(Q:TV→Prop):ar prog ae bt aT 300 (efL l m ok (aD prog wL 0)) 0 wL [.vec 2 l .none,.vec 2 m .none,.fn (.func 104) [] []] am (λx _=>Q x)=
 (bif ax neq (k6 (↑(length l):Int) (↑(length m):Int))
 then Q aj
 else ((aD prog wL (0:Nat)=aD prog wL (0:Nat))∧
 (((@Eq (Option Nat) .none .none)∧
 ((@Eq (Nat) 0 0)∧
 ((@Eq (List Nat) [] [])∧
 (True  ∧
 ((@Eq (VT) am am)∧
 ((@Eq (Bool) true true)∧
 (@Eq (List TV) [(aY l),(aY m),(.fn (.func 104) [] []),aj,(aY l),(ah (↑(length l):Int)),aB] [(aY l),(aY m),(.fn (.func 104) [] []),aj,(aY l),(ah (↑(length l):Int)),aB])))))))∧
 ((@Eq (Nat) (length l) (length m))∧
 (∀z:Nat,(∀c:Int,(∀d:Int,(∀v:Bs,(∀w:Bs,(bif ok
 then Q aI
 else Q aj)))))))))):=by kernel_rfl
theorem Mq (l m v w:Bs)(c d:Int)(j:Nat)(Q:Exit→List TV→VT→List Nat→Nat→Prop):vx prog ae (aF [(E8,QV)]) (aZ [(999999,.dead,none),(20,.elt [.val (.int .i64 c),.vec 1 v .none],none),(24,.elt [.val (.int .i64 d),.vec 1 w .none],none)]) 300 aN none 0 (cq prog wL 0) (aQ 32 Hl (wO l m j)) am [] (cN Hl Q)=
 (bif decide ((↑j:Int)<(↑(length l):Int))
 then (bc prog (λ_=>.none) (.indexAddr 55 (.tmp 15) (.tmp 17)) [(15,(aY l)),(17,(ah (↑j:Int)))] (sA c v)∧
 (bc prog (λ_=>.none) (.indexAddr 55 (.tmp 22) (.tmp 23)) [(22,(aY m)),(23,(ah (↑j:Int)))] (sA d w)∧
 (Pg (v) (w)∧
 (bif !xG c v d w
 then Q .ret [(aY l),(aY m),(.fn (.func 104) [] []),aj,(aY l),(ah (↑(length l):Int)),(ah (↑j:Int))] ⟨[(nD c v),(nD d w)],[]⟩ [] 32
 else Q .normal [(aY l),(aY m),(.fn (.func 104) [] []),aj,(aY l),(ah (↑(length l):Int)),(ah (wrap i64 ((↑j:Int)+(1:Int))))] ⟨[(nD c v),(nD d w)],[]⟩ [] 32))))
 else Q (.exit 0) [(aY l),(aY m),(.fn (.func 104) [] []),aj,(aY l),(ah (↑(length l):Int)),(ah (↑j:Int))] am [] 32):=by kernel_rfl
theorem Z2 (ag h i as2 h2 i2:Int)(l m:Bs)(Q:TV→Prop):ar prog ae (aF [(wL,X9)]) (aZ [(999998,.dead,none)]) 300 aN 0 QM [.agg [.val (.int .i64 ag),.val (.int .i64 h),.val (.int .u32 i),.vec 2 l .none],.agg [.val (.int .i64 as2),.val (.int .i64 h2),.val (.int .u32 i2),.vec 2 m .none]] am (λx _=>Q x)=
 (bif ax eql (k6 ag as2)
 then (bif ax eql (k6 h h2)
 then (bif ax eql (aX (Value.int u32 i) (Value.int u32 i2))
 then (X6 (l) (m)∧
 Q (cS (E9 l m)))
 else Q aj)
 else Q aj)
 else Q aj):=by kernel_rfl
theorem Z3 (c s:Int)(d:Bs)(Q:TV→Prop):ar prog ae bt (aZ [(999998,.dead,none)]) 300 aN 0 QN [cK c s d] am (λx _=>Q x)=
 (bif decide (c≥(1:Int))
 then (bif decide (c≤(255:Int))
 then (bif decide (s≥(0:Int))
 then (bif decide (s≤(255:Int))
 then Q (cS (decide ((↑(length d):Int)≤(4075:Int))))
 else Q aj)
 else Q aj)
 else Q aj)
 else Q aj):=by kernel_rfl
theorem Z4 (c s:Int)(d:Bs)(ok:Bool)(Q:TV→Prop):ar prog ae (aF [(QN,QY ok),(lY,QX)]) (aZ [(999998,.dead,none)]) 300 aN 0 QO [cK c s d] am (λx _=>Q x)=
 (X8 (t8 c s d) (ok)∧
 (bif !ok
 then Q aE
 else (Jg [(gp (wrap u8 c)),(gp (wrap u8 s))] (d)∧
 Q (av ([[(.val (.int .u8 (wrap u8 c)))],[(.val (.int .u8 (wrap u8 s)))]]++d))))):=by kernel_rfl
theorem Z5 (c s c2 s2:Int)(d d2:Bs)(Q:TV→Prop):ar prog ae (aF [(QK,QR)]) (aZ [(999998,.dead,none)]) 300 aN 0 QP [cK c s d,cK c2 s2 d2] am (λx _=>Q x)=
 (bif ax eql (k6 c c2)
 then (bif ax eql (k6 s s2)
 then (Pf (d) (d2)∧
 Q (cS (zx d d2)))
 else Q aj)
 else Q aj):=by kernel_rfl
theorem Z6 (m n:MsgS)(o1 o2 o3:Bool)(Q:TV→Prop):ar prog ae (aF [(QM,td Jh o1),(Qy,td Ji o2),(QP,td Jj o3)]) (aZ [(999998,.dead,none)]) 300 aN 0 Mm [.agg m.cells,.agg n.cells] am (λx _=>Q x)=
 (bif ax eql (k6 (MsgS.k m) (MsgS.k n))
 then (Jh (w8 (OpS.n (MsgS.op m)) (OpS.h (MsgS.op m)) (OpS.i (MsgS.op m)) (OpS.l (MsgS.op m))) (w8 (OpS.n (MsgS.op n)) (OpS.h (MsgS.op n)) (OpS.i (MsgS.op n)) (OpS.l (MsgS.op n))) (o1)∧
 (bif o1
 then (Ji (t9 (UpS.w (MsgS.u m)) (UpS.o (MsgS.u m)) (UpS.x (MsgS.u m)) (UpS.h (MsgS.u m)) (UpS.m (MsgS.u m)) (UpS.hm (MsgS.u m)) (UpS.n (MsgS.u m))) (t9 (UpS.w (MsgS.u n)) (UpS.o (MsgS.u n)) (UpS.x (MsgS.u n)) (UpS.h (MsgS.u n)) (UpS.m (MsgS.u n)) (UpS.hm (MsgS.u n)) (UpS.n (MsgS.u n))) (o2)∧
 (bif o2
 then (Jj (t8 (MsgS.c m) (MsgS.s m) (MsgS.d m)) (t8 (MsgS.c n) (MsgS.s n) (MsgS.d n)) (o3)∧
 Q (cS o3))
 else Q aj))
 else Q aj))
 else Q aj):=by kernel_rfl
--bumped 32
end Go.Proofs.YtogbdjlelkepcaaGreatDoor