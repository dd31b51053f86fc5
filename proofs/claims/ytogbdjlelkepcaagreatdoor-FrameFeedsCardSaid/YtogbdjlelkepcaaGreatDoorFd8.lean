/-Part 8 of the proof of frameFeedsCard_holds:MsSn,FdA,FdB ... No condition. -/
import Derived.LaidHandle
import Derived.LaidMore
import Derived.Lay
import Derived.ChangeVars
import Derived.JoinedOf
import Derived.Stop.Joined
import Derived.Deep.DeepHandedRow
import Derived.Test.YtogbdjlelkepcaaGreatDoorTie
import Derived.Test.YtogbdjlelkepcaaGreatDoorCards
import Derived.SevenTiedAt
import Derived.Test.YtogbdjlelkepcaaGreatDoorFd1
import Derived.Test.YtogbdjlelkepcaaGreatDoorFd2
import Derived.Test.YtogbdjlelkepcaaGreatDoorFd3
import Derived.Test.YtogbdjlelkepcaaGreatDoorFd4
import Derived.Test.YtogbdjlelkepcaaGreatDoorFd5
import Derived.Test.YtogbdjlelkepcaaGreatDoorFd6
import Derived.Test.YtogbdjlelkepcaaGreatDoorFd7
set_option maxRecDepth 100000
namespace Go.Proofs.YtogbdjlelkepcaaGreatDoor
open Go.RowKit
open Go.BinOp (eql neq)
open _root_.Bool (and_eq_true)
open Go.DataW (Trod trod trod_lt weights)
open _root_.Int (ofNat toNat_natCast)
open Go.IntKind (i64 u8 wrap)
open _root_.List (append_nil flatten_cons getElem?_eq_getElem getElem?_map getElem_mem length length_append length_drop length_map length_take map_append map_cons map_nil mem_append mem_cons mem_cons_of_mem mem_cons_self mem_map mem_of_mem_take mem_range mem_singleton nil_append take_add_one take_append_drop take_length take_zero)
open _root_.Nat (beq ble le_of_ble_eq_true le_refl le_trans zero_le)
open Go.OpenSpec (ofChange)
open Go.Stop (Interp)
open Go.Proofs.Tryz (checked func4 params4 prog underlying22 underlying36 underlying42)
open Go.Proofs.YtogbdjlelkepcaaGreatDoor.Tryz (pinned)
open Go.Value (okWide)
open Go.World (cells?_some)
theorem GA {d:Bs}(hd:IsB d)(T:VT):g9 prog T 22 9 (.vec 1 d .none)=some (.val (.string (ur d))):=by
 obtain ⟨⟨l,rfl,_⟩,_⟩:=hd
 have hr:cd T 1 (.vec 1 (bV l) .none)=some (bV l):=by simp [cd]
 simp only [g9,underlying22,Tryz.underlying9,Tryz.underlying5,hr,ym,Option.map_some,ur,Option.getD_some]
theorem EA {d:Bs}(hd:IsB d)(T:VT):By prog T 22 9 (.vec 1 d .none) (.val (.string (ur d))):=.mk rfl (GA hd T)
theorem yE {ro:Nat}{T:VT}{a:Operand}{l:List (Nat × TV)}{d:Bs}(hd:IsB d)(ha:aL ah l a=.vec 1 d .none):br prog ah ro T (.convert 22 9 a) l (.val (.string (ur d))) T:=by
 refine .mk ?_
 have h1:bu prog (.convert 22 9 a) (aL ah l)=none:=by simp [bu,eJ,ha,ea]
 have h2:bs prog T (.convert 22 9 a) (aL ah l)=some (.val (.string (ur d))):=by simp only [bs,ha,GA hd]
 simp only [gH,h1,h2]
theorem Vi (c s:Int){d:Bs}(hd:IsB d):VCx prog ah 0 vX [cD c s d,cD c s d] ⟨[],[]⟩ λx T'=>x=.val (.bool true)∧T'=⟨[],[]⟩:=by
 refine VCx.keepQ 0 0 (le_refl _) (le_refl _) (aj ag ac am ai (WD c s d (ur d) _) ?_)
 refine aU (yn _ _) (aU (yn _ _) ⟨yE hd rfl,yE hd rfl,?_,rfl⟩)
 rw [XG];rfl
theorem EB {x i:Operand}{l:List (Nat × TV)}{es:Bs}{tok:Tok}{k:IntKind}{z:Int}{cs:List TV}(hx:aL ah l x=.vec 2 es tok)(hz:aL ah l i=.val (.int k z))(h0:0≤z)(he:es[z.toNat]?=some cs):ba prog ah (.indexAddr 58 x i) l (.elt cs):=by
 obtain ⟨inf,i1,i2,i3,i4⟩:=Dj
 exact dZ (inf:=inf) Tryz.underlying58 i1 (by rw [i2];exact hx) hz h0 he
theorem RN {l:Bs}(hl:PxWf l):dD prog ah (Xi l (aA prog uz 0)):=bL λp hp=>by
 obtain rfl:=mem_singleton.1 hp
 obtain ⟨ps,rfl,hn⟩:=hl
 refine ce λK hK=>vq (f:=uz) (id:=0) (by kernel_rfl) 26 KQ (Gx (ps.map fc)) ⟨[],[]⟩ ps.length (λe vs T=>e=.normal∧vs=Gx (ps.map fc) (ps.map fc).length∧T=⟨[],[]⟩) (λj hj=> ?_) K (λe vs T ⟨h1,h2,h3⟩=>by subst h1 h2 h3;exact hK)
 by_cases hlt:j<ps.length
 ·have hat:(ps.map fc)[((j:Nat):Int).toNat]?=some (fc ps[j]):=by rw [toNat_natCast,getElem?_map,getElem?_eq_getElem hlt];rfl
  refine cg ag ac am ai (KY (ps.map fc) j ps[j].1 ps[j].2 _) ?_
  refine aU (decide_eq_true (by rw [length_map];omega)) ⟨EB rfl rfl (by omega) hat,EB rfl rfl (by omega) hat,aO (Wy [.int .u32 ps[j].1,.int .i64 ps[j].2] (λv hv=>by simp only [mem_cons,List.not_mem_nil,or_false] at hv;rcases hv with rfl | rfl<;>exact Il _ _)) ?_⟩
  exact ⟨rfl,rfl,hlt,.inl ⟨rfl,by rw [vp hlt hn];rfl⟩⟩
 ·have hj2:j=ps.length:=by omega
  refine cg ag ac am ai (KY (ps.map fc) j 0 0 _) ?_
  exact aO (decide_eq_false (by rw [length_map];omega)) ⟨rfl,rfl,rfl,by rw [hj2];simp only [Gx,length_map],rfl⟩
theorem Vj {l:Bs}(hl:PxWf l):VCx prog ah 0 uz [.vec 2 l .none,.vec 2 l .none] ⟨[],[]⟩ λx T'=>x=.val (.bool true)∧T'=⟨[],[]⟩:=by
 refine VCx.keepQ 0 0 (le_refl _) (le_refl _) (aj ag ac am (RN hl) (WE l _) ?_)
 exact aO (fj _ _) ⟨rfl,⟨rfl,rfl,rfl,trivial,rfl,rfl,rfl⟩,rfl,rfl⟩
theorem RO (o h m:Int)(hm:Bool){x:Bs}(hx:IvWf x):dD prog ah (Xk o h m hm x (aA prog uA 0)):=bL λp hp=>by
 obtain rfl:=mem_singleton.1 hp
 obtain ⟨ps,rfl,hn⟩:=hx
 refine ce λK hK=>vq (f:=uA) (id:=0) (by kernel_rfl) 59 KT (Gy (iV ps)) (KU o h m hm (iV ps)) ps.length (λe vs T=>e=.normal∧vs=Gy (iV ps) (iV ps).length∧T=KU o h m hm (iV ps)) (λj hj=> ?_) K (λe vs T ⟨h1,h2,h3⟩=>by subst h1 h2 h3;exact hK)
 by_cases hlt:j<ps.length
 ·have hat:(iV ps)[((j:Nat):Int).toNat]?=some (iT ps[j]):=by rw [toNat_natCast,iV,getElem?_map,getElem?_eq_getElem hlt];rfl
  refine cg ag ac am ai (KZ o h m hm (iV ps) j ps[j] _) ?_
  refine aU (decide_eq_true (by rw [iM];omega)) ⟨wC rfl rfl (by omega) hat,wC rfl rfl (by omega) hat,aO (fj _ _) ?_⟩
  exact ⟨rfl,rfl,hlt,.inl ⟨rfl,by rw [vp hlt hn];rfl⟩⟩
 ·have hj2:j=ps.length:=by omega
  refine cg ag ac am ai (KZ o h m hm (iV ps) j 0 _) ?_
  exact aO (decide_eq_false (by rw [iM];omega)) ⟨rfl,rfl,rfl,by rw [hj2];simp only [Gy,iM],rfl⟩
theorem Vk (o h m:Int)(hm:Bool){x:Bs}(hx:IvWf x):VCx prog ah 0 uA [KR o h m hm x,KR o h m hm x] ⟨[],[]⟩ λy T'=>y=.val (.bool true)∧T'=⟨[],[]⟩:=by
 refine VCx.keepQ 0 0 (le_refl _) (le_refl _) (aj ag ac am (RO o h m hm hx) (WF o h m hm x _) ?_)
 exact aO (fj _ _) (aO (fj _ _) (aO (fj _ _) (aO (Rm _) (aO (fj _ _) ⟨rfl,⟨rfl,rfl,rfl,trivial,rfl,rfl,rfl⟩,rfl,rfl⟩))))
theorem EC:∃inf:TypeInfo,prog.info? 102=some inf∧inf.size=2∧inf.bytes+1≤1000∧inf.zero=some (.agg #[.int .i64 0,.slice none 0 0]):=
 ⟨(prog.info? 102).getD default,by kernel_rfl,by kernel_rfl,le_of_ble_eq_true (by kernel_rfl),by kernel_rfl⟩
theorem sH {x i:Operand}{l:List (Nat × TV)}{es:Bs}{tok:Tok}{k:IntKind}{z:Int}{cs:List TV}(hx:aL ah l x=.vec 2 es tok)(hz:aL ah l i=.val (.int k z))(h0:0≤z)(he:es[z.toNat]?=some cs):ba prog ah (.indexAddr 68 x i) l (.elt cs):=by
 obtain ⟨inf,i1,i2,i3,i4⟩:=EC
 exact dZ (inf:=inf) Tryz.underlying68 i1 (by rw [i2];exact hx) hz h0 he
theorem NE {x i:Operand}{l:List (Nat × TV)}{es:Bs}{tok:Tok}{k:IntKind}{z:Int}{cs:List TV}(hx:aL ah l x=.vec 2 es tok)(hz:aL ah l i=.val (.int k z))(h0:0≤z)(he:es[z.toNat]?=some cs):ba prog ah (.indexAddr 55 x i) l (.elt cs):=by
 obtain ⟨inf,i1,i2,i3,i4⟩:=Ds
 exact dZ (inf:=inf) Tryz.underlying55 i1 (by rw [i2];exact hx) hz h0 he
theorem RP (n h i:Int){l:Bs}(hl:CpWf l):dD prog ah (Xm n h i l (aA prog uB 0)):=bL λp hp=>by
 obtain rfl:=mem_singleton.1 hp
 obtain ⟨ps,rfl,hB,hn⟩:=hl
 refine ce λK hK=>vq (f:=uB) (id:=0) (by kernel_rfl) 71 KV (Gz (ps.map bS)) (KW n h i (ps.map bS)) ps.length (λe vs T=>e=.normal∧vs=Gz (ps.map bS) (ps.map bS).length∧T=KW n h i (ps.map bS)) (λj hj=> ?_) K (λe vs T ⟨h1,h2,h3⟩=>by subst h1 h2 h3;exact hK)
 by_cases hlt:j<ps.length
 ·have hat:(ps.map bS)[((j:Nat):Int).toNat]?=some (bS ps[j]):=by rw [toNat_natCast,getElem?_map,getElem?_eq_getElem hlt];rfl
  have hv:IsB ps[j].2:=hB _ (getElem_mem hlt)
  refine cg ag ac am ai (K0 n h i (ps.map bS) j ps[j].1 ps[j].2 (ur ps[j].2) _) ?_
  refine aU (decide_eq_true (by rw [length_map];omega)) ⟨sH rfl rfl (by omega) hat,sH rfl rfl (by omega) hat,aO (fj _ _) ⟨sH rfl rfl (by omega) hat,EA hv _,sH rfl rfl (by omega) hat,EA hv _,aO (XH _) ?_⟩⟩
  exact ⟨rfl,rfl,hlt,.inl ⟨rfl,by rw [vp hlt hn];rfl⟩⟩
 ·have hj2:j=ps.length:=by omega
  refine cg ag ac am ai (K0 n h i (ps.map bS) j 0 [] (ur []) _) ?_
  exact aO (decide_eq_false (by rw [length_map];omega)) ⟨rfl,rfl,rfl,by rw [hj2];simp only [Gz,length_map],rfl⟩
theorem Vl {o:OpS}(ho:OpWf o):VCx prog ah 0 uB [.agg o.cells,.agg o.cells] ⟨[],[]⟩ λy T'=>y=.val (.bool true)∧T'=⟨[],[]⟩:=by
 refine VCx.keepQ 0 0 (le_refl _) (le_refl _) (aj ag ac am (RP o.n o.h o.i ho) (WG o.n o.h o.i o.l _) ?_)
 exact aO (fj _ _) (aO (fj _ _) (aO (fj _ _) (aO (fj _ _) ⟨rfl,⟨rfl,rfl,rfl,trivial,rfl,rfl,rfl⟩,rfl,rfl⟩)))
theorem Vm {G:aV}(hG:dd G):∀ro ys T K,O6 ro ys T K→VCx prog G ro uz ys T K:=by
 intro ro ys T K hw
 unfold O6 at hw
 split at hw
 ·rename_i l tok l' tok'
  obtain ⟨⟨rfl,hl⟩,hk⟩:=hw
  exact VCx.loosePure hG (VCx.anyG (Vj hl)) (by simp [cA]) (by simp [aB,TV.ren,hl.ren,Tok.ren]) (λ_ _=>rfl) hk
 ·exact hw.elim
theorem Vn {G:aV}(hG:dd G):∀ro ys T K,O7 ro ys T K→VCx prog G ro uA ys T K:=by
 intro ro ys T K hw
 unfold O7 at hw
 split at hw
 ·obtain ⟨⟨rfl,o,h,m,hm,x,hx,rfl⟩,hk⟩:=hw
  exact VCx.liftPure hG (VCx.anyG (Vk o h m hm hx)) (by simp [aB,TV.ren,hx.ren,Tok.ren,KR]) (λ_ _=>rfl) hk
 ·exact hw.elim
theorem Vo {G:aV}(hG:dd G):∀ro ys T K,O8 ro ys T K→VCx prog G ro uB ys T K:=by
 intro ro ys T K hw
 unfold O8 at hw
 split at hw
 ·obtain ⟨⟨rfl,o,ho,rfl⟩,hk⟩:=hw
  exact VCx.liftPure hG (VCx.anyG (Vl ho)) (by simp [aB,TV.ren,ho.ren]) (λ_ _=>rfl) hk
 ·exact hw.elim
theorem yF {G:aV}(hG:dd G):∀ro ys T K,yC ro ys T K→VCx prog G ro vX ys T K:=by
 intro ro ys T K hw
 unfold yC at hw
 split at hw
 ·obtain ⟨⟨rfl,c,s,d,hd,rfl⟩,hk⟩:=hw
  exact VCx.liftPure hG (VCx.anyG (Vi c s hd)) (by simp [aB,TV.ren,hd.ren,Tok.ren,cD]) (λ_ _=>rfl) hk
 ·exact hw.elim
theorem Vp {u:UpS}(hu:UpWf u):VCx prog ah 0 KP [.agg u.cells,.agg u.cells] ⟨[],[]⟩ λy T'=>y=.val (.bool true)∧T'=⟨[],[]⟩:=by
 have hS:bk prog ah (aI [(uz,O6),(uA,O7)]):=aQ λp hp=>by
  rcases mem_cons.1 hp with rfl | hp;exact Vm aP
  obtain rfl:=mem_singleton.1 hp;exact Vn aP
 refine VCx.keepQ 0 0 (le_refl _) (le_refl _) (aj ag ac hS ai (WH u _) ?_)
 exact ⟨⟨rfl,hu.1⟩,⟨rfl,hu.2.1⟩,⟨rfl,_,_,_,_,_,hu.2.2,rfl⟩,rfl,rfl⟩
theorem Vq {G:aV}(hG:dd G):∀ro ys T K,O9 ro ys T K→VCx prog G ro KP ys T K:=by
 intro ro ys T K hw
 unfold O9 at hw
 split at hw
 ·obtain ⟨⟨rfl,u,hu,rfl⟩,hk⟩:=hw
  exact VCx.liftPure hG (VCx.anyG (Vp hu)) (by simp [aB,TV.ren,hu.ren]) (λ_ _=>rfl) hk
 ·exact hw.elim
theorem RQ {m:MsgS}(hm:MsWf m):VCx prog ah 0 Ez [.agg m.cells,.agg m.cells] ⟨[],[]⟩ λy T'=>y=.val (.bool true)∧T'=⟨[],[]⟩:=by
 have hS:bk prog ah (aI [(uB,O8),(KP,O9),(vX,yC)]):=aQ λp hp=>by
  rcases mem_cons.1 hp with rfl | hp;exact Vo aP
  rcases mem_cons.1 hp with rfl | hp;exact Vq aP
  obtain rfl:=mem_singleton.1 hp;exact yF aP
 refine VCx.keepQ 0 0 (le_refl _) (le_refl _) (aj ag ac hS ai (Vh m _) ?_)
 exact aU (yn _ _) ⟨⟨rfl,m.op,hm.1,rfl⟩,⟨rfl,m.u,hm.2.1,rfl⟩,⟨rfl,_,_,_,hm.2.2,rfl⟩,rfl,rfl⟩
theorem ED {ro:Nat}{T T1:VT}{s x:Operand}{l:List (Nat × TV)}{es es2:List (List TV)}{k n:Nat}{bn:Bool}(hs:cE T 2 (aL ah l s)=some (es,k,n,bn,T1))(hx:gf 2 (aL ah l x)=some es2)(hb:es.length+es2.length≤64000001):
    br prog ah ro T (.call ⟨.builtin .append,#[s,x],#[68,68]⟩) l (.vec 2 (es++es2) (.tail k (n+es2.length))) {T1 with tails:=T1.tails.set k (n+es2.length,2,bn)}:=by
  obtain ⟨inf,i1,i2,i3,i4⟩:=EC
  have h:=fb (inf:=inf) (P:=prog) (G:=ah) (ro:=ro) (T:=T) (T1:=T1) (t:=68) (tx:=68) (s:=s) (x:=x) (l:=l) (es:=es) (es2:=es2) (k:=k) (n:=n) (bn:=bn) Tryz.underlying68 i1 i4 (by rw [i2];rfl) (by rw [i2];decide) (by kernel_rfl) (by rw [i2];exact hs) (by rw [i2];exact hx)
    (by have h1:=i3
        have h2:=Nat.mul_le_mul hb h1
        omega)
  rw [i2] at h
  exact h
--bumped 32
abbrev nT:=19
def Pb:be:=λ_ ys T K=>match ys with
 |[.vec 1 b _]=>(IsB b∧ble 19 b.length=true)∧bif cK b then K (.tup [.val (.int .i64 (bA b)),.val (.int .i64 (cU b)),cD 0 0 []]) T else K (.tup [.val (.int .i64 0),.val (.int .i64 0),cD 1 (ga b) (fH b)]) T
 |_=>aR 83 default ys
def Pc:be:=λ_ ys T K=>match ys with
 |[.vec 1 b _,.val (.int .i64 pas)]=>IsB b∧bif me b pas then ∀M:MsgS,Aa M b pas→K (.tup [.agg M.cells,cD 0 0 []]) T else ∀(c:Nat) (s:Int) (d:Bs),Ix c s d b pas→K (.tup [.agg Xd.cells,cD (ofNat (c+1)) s d]) T
 |_=>aR 83 default ys
def il (pas:Int)(x:TV)(c s:Int)(d:TV)(n:Int):VO:=.cells [.val (.int .i64 pas),x,.val (.int .i64 c),.val (.int .i64 s),d,.val (.int .i64 n)]
def K1:VO:=.cells [.val (.int .i64 0),.val (.int .i64 0),.val (.slice none 0 0)]
def yG:List Nat:= [0,5,6]
def vY (L:Bs):List TV:= [.ptr 0 0,.ptr 1 0,.vec 15 L (.tail 1 L.length)]
def K2 (o:VO)(N h:Nat):VT:=⟨[o,K1],[(N,1,false),(h,15,true)]⟩
theorem Vr (pas n:Int)(N:Nat)(xd r p r2 L L2:Bs)(Q:Exit→List TV→List VO→fR→List Nat→Nat→Prop):vx prog ah (aI [(jU,Pb),(vl,Pc)]) (bc [(999998,.dead,none),(68,.vec 1 p .none,none),(103,.vec 1 r2 (.tail 0 N),none),(89,.vec 15 L2 (.tail 1 L2.length),some λT=>{T with tails:=T.tails.set 1 (L2.length,15,true)})]) 300 aG none 0 (cM prog nT 0) (aJ 111 yG (vY L)) (K2 (il pas (eI r N) 0 0 (an xd) n) N L.length) [] (de yG (λe vs T D m=>Q e vs (T.objs.take 2) T.tails D m))=
 (bif decide ((↑(length r):Int)≥(19:Int))
 then ((IsB (r)∧
 (@Eq (Bool) (ble (19:Nat) (length r)) true))∧
 (bif cK r
 then (bif decide ((↑(length r):Int)<bA r)
 then Q (.exit 0) (C2 L (length L)) [(wk pas r N xd n),bh] [((N),(1,false)),((length L),(15,true))] [] 111
 else (ba prog (λ_=>.none) (.slice 22 (.tmp 66) .none (.some (.tmp 67)) .none) [(66,(eI r N)),(67,(ae (bA r)))] (an p)∧
 (IsB (p)∧
 (bif me p pas
 then (∀M:MsgS,(Aa (M) (p) (pas)→(br prog (λ_=>.none) 0 ⟨[(wk pas r N xd n),bh,b8,(nf M)],[((N),(1,false)),((length L),(15,true))]⟩ (.call ⟨(.builtin .append),#[(.tmp 86),(.tmp 88)],#[36,36]⟩) [(86,(.vec 15 L (.tail 1 (length L)))),(88,(.vec 15 [[(.val (.int .i64 (MsgS.k M))),(.val (.int .i64 (OpS.n (MsgS.op M)))),(.val (.int .i64 (OpS.h (MsgS.op M)))),(.val (.int .u32 (OpS.i (MsgS.op M)))),(.vec 2 (OpS.l (MsgS.op M)) .none),(.vec 2 (UpS.w (MsgS.u M)) .none),(.val (.int .i64 (UpS.o (MsgS.u M)))),(.vec 1 (UpS.x (MsgS.u M)) .none),(.val (.int .u32 (UpS.h (MsgS.u M)))),(.val (.int .i64 (UpS.m (MsgS.u M)))),(.val (.bool (UpS.hm (MsgS.u M)))),(.vec 2 (UpS.n (MsgS.u M)) .none),(.val (.int .i64 (MsgS.c M))),(.val (.int .i64 (MsgS.s M))),(.vec 1 (MsgS.d M) .none)]] .full))] (.vec 15 L2 (.tail 1 (length L2))) ⟨[(wk pas r N xd n),bh,b8,(nf M)],[((N),(1,false)),((length L2),(15,true))]⟩∧
 (ba prog (λ_=>.none) (.slice 22 (.tmp 101) (.some (.tmp 102)) .none .none) [(101,(eI r N)),(102,(ae (bA r)))] (eI r2 N)∧
 Q .normal (C2 L2 (length L2)) [(wk pas r2 N xd (wrap i64 (n+(1:Int)))),bh] [((N),(1,false)),((length L2),(15,true))] [] 111))))
 else (∀c:Nat,(∀s:Int,(∀d:Bs,(Ix (c) (s) (d) (p) (pas)→Q (.exit 0) (C2 L (length L)) [(.cells [(ae pas),aY,(ae (ofNat (c+(1:Nat)))),(ae s),(an d),(ae n)]),bh] [((N),(1,false)),((length L),(15,true))] [] 111))))))))
 else Q (.exit 0) (C2 L (length L)) [(.cells [(ae pas),aY,eH,(ae (ga r)),(an (fH r)),(ae n)]),bh] [((N),(1,false)),((length L),(15,true))] [] 111))
 else Q (.exit 0) (C2 L (length L)) [(wk pas r N xd n),bh] [((N),(1,false)),((length L),(15,true))] [] 111):=by kernel_rfl
theorem WI (pas n n2 c s:Int)(x2:TV)(a b L xd d2:Bs)(H:Prop)(tok:Tok)(Q:TV→VT→Prop):au prog ah aZ (bc [(999998,.dead,none),(27,.vec 1 a (.tail 0 a.length),some λT=>{T with tails:=T.tails++ [(a.length,1,false)]}),(29,.vec 1 (a++b) (.tail 0 (a++b).length),some λT=>{T with tails:=T.tails.set 0 ((a++b).length,1,false)})]) 300 (cG [(0,dB 111 yG [(6,15)] (vY []) (K2 (il pas (.vec 1 (a++b) (.tail 0 (a++b).length)) 0 0 (an xd) n) (a++b).length 0) (λK=>H∧∀oo:List VO,K .normal (aJ 111 yG (vY L)) ⟨il pas x2 c s (an d2) n2::K1::oo,[((a++b).length,1,false),(L.length,15,true)]⟩ []),aA prog nT 0)]) 0 nT [.ptr 0 0,.vec 1 b tok] (bC (il pas (.vec 1 a .none) 0 0 (.vec 1 xd .none) n)) Q=
 (br prog (λ_=>.none) 0 ⟨[(.cells [(ae pas),(an a),aE,aE,(an xd),(ae n)]),bh],[]⟩ (.call ⟨(.builtin .append),#[(.tmp 22),(.tmp 26)],#[22,22]⟩) [(22,lP),(26,(an a))] (eI a (length a)) (L5 pas a xd n [((length a),(1,false))])∧
 (br prog (λ_=>.none) 0 (L5 pas a xd n [((length a),(1,false))]) (.call ⟨(.builtin .append),#[(.tmp 27),(.tmp 28)],#[22,22]⟩) [(27,(eI a (length a))),(28,(.vec 1 b tok))] (eI (a++b) (length (a++b))) (L5 pas a xd n [((length (a++b)),(1,false))])∧
 ((aA prog nT (0:Nat)=aA prog nT (0:Nat))∧
 (((@Eq (Option Nat) .none .none)∧
 ((@Eq (Nat) 0 0)∧
 ((@Eq (List Nat) [] [])∧
 (((@Eq (Option TV) (.some aY) (.some aY))∧
 True)∧
 ((@Eq (VT) ⟨[(wk pas (a++b) (length (a++b)) xd n),bh],[((length (a++b)),(1,false)),(0,(15,true))]⟩ ⟨[(wk pas (a++b) (length (a++b)) xd n),bh],[((length (a++b)),(1,false)),(0,(15,true))]⟩)∧
 ((@Eq (Bool) true true)∧
 (@Eq (List TV) [eV,eG,(.vec 15 [] (.tail 1 0))] [eV,eG,(.vec 15 [] (.tail 1 0))])))))))∧
 (H  ∧
 (∀oo:List VO,Q (.tup [(.vec 15 L (.tail 1 (length L))),(wt c s d2)]) ⟨[(.cells [(.val (.int .i64 (pas))),(x2),(.val (.int .i64 (c))),(.val (.int .i64 (s))),(.vec 1 (d2) .none),(.val (.int .i64 (n2)))]),(.cells [(.val (.int .i64 (c))),(.val (.int .i64 (s))),(.vec 1 (d2) .none)])]++oo,[((length (a++b)),(1,false)),((length L),(15,true))]⟩)))))):=by kernel_rfl
theorem Vs (pas n s:Int)(c:Nat)(xb:TV)(xd b:Bs)(tok:Tok)(Q:TV→VT→Prop):au prog ah aZ (bc [(999998,.dead,none)]) 300 aG 0 nT [.ptr 0 0,.vec 1 b tok] (bC (il pas xb (ofNat (c+1)) s (.vec 1 xd .none) n)) Q=
Q (.tup [aY,(wt (ofNat (c+(1:Nat))) s xd)]) ⟨[(.cells [(ae pas),xb,(ae (ofNat (c+(1:Nat)))),(ae s),(an xd),(ae n)]),(dX (ofNat (c+(1:Nat))) s xd)],[]⟩:=by kernel_rfl
theorem Vt:∀ro ys T K,Pb ro ys T K→VCx prog ah ro jU ys T K:=by
 intro ro ys T K hw
 unfold Pb at hw
 split at hw
 ·rename_i b tok
  obtain ⟨⟨hb,_⟩,hk⟩:=hw
  refine VCx.loosePure aP (vm hb) (by simp [cA]) (by simp [aB,TV.ren,hb.ren,Tok.ren]) (lv hb) ?_
  cases hh:cK b<;>rw [hh] at hk
  ·rw [rz hh];exact hk
  ·rw [ry hh];exact hk
 ·exact hw.elim
theorem Vu:∀ro ys T K,Pc ro ys T K→VCx prog ah ro vl ys T K:=by
 intro ro ys T K hw
 unfold Pc at hw
 split at hw
 ·rename_i b tok pas
  obtain ⟨hb,hk⟩:=hw
  refine VCx.loosePure aP (Rl hb pas) (by simp [cA]) (by simp [aB,TV.ren,hb.ren,Tok.ren]) (vk pas hb) ?_
  unfold pu
  cases hP:fh b pas with
  |inl p=>
   obtain ⟨c,s,d⟩:=p
   obtain ⟨j,rfl⟩:=Em hP
   rw [show me b pas=false by unfold me;rw [hP],cond_false] at hk
   exact hk j s d hP
  |inr M=>
   rw [show me b pas=true by unfold me;rw [hP],cond_true] at hk
   exact hk M hP
 ·exact hw.elim
theorem XT:bk prog ah (aI [(jU,Pb),(vl,Pc)]):=aQ λp hp=>by
 rcases mem_cons.1 hp with rfl | hp;exact Vt
 obtain rfl:=mem_singleton.1 hp;exact Vu
theorem Vv:∃(inf:TypeInfo) (z:Value),prog.info? 75=some inf∧inf.size=15∧inf.bytes+1≤1000∧inf.zero=some z∧z.cells.size=15:=
 ⟨(prog.info? 75).getD default,((prog.info? 75).getD default).zero.getD default,by kernel_rfl,by kernel_rfl,le_of_ble_eq_true (by kernel_rfl),by kernel_rfl,by kernel_rfl⟩
theorem Vw {objs:List VO}{N:Nat}{l:List MsgS}{M:MsgS}{s x:Nat}{ll:List (Nat × TV)}(hs:aL ah ll (.tmp s)=.vec 15 (l.map MsgS.cells) (.tail 1 (l.map MsgS.cells).length))(hx:aL ah ll (.tmp x)=.vec 15 [M.cells] .full)(h:l.length≤64000000):
  br prog ah 0 ⟨objs,[(N,1,false),((l.map MsgS.cells).length,15,true)]⟩ (.call ⟨.builtin .append,#[.tmp s,.tmp x],#[36,36]⟩) ll (.vec 15 ((l++ [M]).map MsgS.cells) (.tail 1 ((l++ [M]).map MsgS.cells).length)) ⟨objs,[(N,1,false),(((l++ [M]).map MsgS.cells).length,15,true)]⟩:=by
 obtain ⟨inf,z,i1,i2,i3,i4,i5⟩:=Vv
 have hh:=fb (inf:=inf) (P:=prog) (G:=ah) (ro:=0) (T:=⟨objs,[(N,1,false),((l.map MsgS.cells).length,15,true)]⟩) (T1:=⟨objs,[(N,1,false),((l.map MsgS.cells).length,15,true)]⟩) (t:=36) (tx:=36) (s:=.tmp s) (x:=.tmp x) (l:=ll) (es:=l.map MsgS.cells) (es2:= [M.cells]) (k:=1) (n:=(l.map MsgS.cells).length) (bn:=true) underlying36 i1 i4 (by rw [i2];exact i5) (by rw [i2];decide) (by kernel_rfl)
  (by rw [i2,hs];simp [cE]) (by rw [i2,hx];simp [gf]) (by
   have h2:=Nat.mul_le_mul (show (l.map MsgS.cells).length+ [M.cells].length≤64000001 by simp only [List.length_singleton,length_map];omega) i3
   omega)
 rw [i2] at hh
 rw [map_append,length_append]
 exact hh
theorem WJ {G:aV}{x i:Operand}{l:List (Nat × TV)}{es:Bs}{tok:Tok}{k:IntKind}{z:Int}(hx:aL G l x=.vec 1 es tok)(hz:aL G l i=.val (.int k z))(h0:0≤z)(he:z.toNat≤es.length):ba prog G (.slice 22 x none (some i) none) l (.vec 1 (es.take z.toNat) .none):=by
 obtain ⟨inf,i1,i2,_,_⟩:=dj
 have h:=wi (P:=prog) (G:=G) (t:=22) (x:=x) (i:=i) (l:=l) (inf:=inf) (es:=es) (tok:=tok) underlying22 i1 (by rw [i2];exact hx) hz h0 he
 rw [i2] at h;exact h
theorem WK {G:aV}{x i:Operand}{l:List (Nat × TV)}{es:Bs}{tok:Tok}{k:IntKind}{z:Int}(hx:aL G l x=.vec 1 es tok)(hz:aL G l i=.val (.int k z))(h0:0≤z)(he:z.toNat≤es.length):ba prog G (.slice 22 x (some i) none none) l (.vec 1 (es.drop z.toNat) tok):=by
 obtain ⟨inf,i1,i2,_,_⟩:=dj
 have h:=wj (P:=prog) (G:=G) (t:=22) (x:=x) (i:=i) (l:=l) (inf:=inf) (es:=es) (tok:=tok) underlying22 i1 (by rw [i2];exact hx) hz h0 he
 rw [i2] at h;exact h
structure K3 where
 r:Bs
 l:List MsgS
 n:Int
def s1 (l:List MsgS):Bs:=l.map MsgS.cells
def Bg (N:Nat)(w:Bs)(pas:Int):TV:=match (aW w pas).2.2 with
 |none=>.vec 1 (aW w pas).2.1 (.tail 0 N)
 |some _=>.val (.slice none 0 0)
def Vx (pas:Int)(s:K3):List TV:=vY (s1 s.l)
def wL (pas:Int)(N:Nat)(s:K3):VT:=K2 (il pas (.vec 1 s.r (.tail 0 N)) 0 0 (.vec 1 [] .none) s.n) N (s1 s.l).length
def Xn (pas n0:Int)(w:Bs)(s:K3):Prop:=IsB s.r∧jh s.l∧s.n=n0+s.l.length∧s.l.length+s.r.length≤w.length∧aW w pas=(s.l++(aW s.r pas).1,(aW s.r pas).2)
def EE (pas n0:Int)(N:Nat)(w:Bs)(e:Exit)(vs:List TV)(os:List VO)(tl:fR):Prop:=e=.normal∧vs=vY (s1 (cn w pas))∧os= [il pas (Bg N w pas) (ep w pas) (dv w pas) (.vec 1 (dn w pas) .none) (n0+(cn w pas).length),K1]∧tl= [(N,1,false),((s1 (cn w pas)).length,15,true)]
theorem RR {w:Bs}{pas n0:Int}{N:Nat}(hw:IsB w)(hn0:0≤n0)(hn1:n0+w.length≤64000000)(K:KX)(hK:∀e vs T,EE pas n0 N w e vs (T.objs.take 2) T.tails→K e (aJ 111 yG vs) T []):
  VWx prog ah none 0 (aA prog nT 0) (aJ 111 yG (Vx pas ⟨w,[],n0⟩)) (wL pas N ⟨w,[],n0⟩) [] K:=by
 refine dW (f:=nT) (id:=0) (by kernel_rfl) 111 yG (λs:K3=>s.r.length) (Vx pas) (wL pas N) (Xn pas n0 w) 2 2 (λ_ _=>⟨le_refl _,le_refl _⟩) (λe vs T=>EE pas n0 N w e vs (T.objs.take 2) T.tails) (λs hs=> ?_) ⟨w,[],n0⟩ ⟨hw,(λM h=>by cases h),by simp,by simp,rfl⟩ K hK
 obtain ⟨r,l,n⟩:=s
 obtain ⟨hr,ha,hn,hlen,hfd⟩:=hs
 simp only at hr ha hn hlen hfd
 have hvs:∀l,jh l→aB (ax 2) (ax 2) (vY (s1 l))=vY (s1 l):=λl ha=>by
  simp only [vY,s1,aB,TV.ren,gN ha,Tok.ren];rfl
 have hres:∀(r:Bs) (n:Int),IsB r→(wL pas N ⟨r,l,n⟩).objs.map (VO.ren (ax 2) (ax 2))=(wL pas N ⟨r,l,n⟩).objs:=λr n hr=>by
  simp only [wL,K2,il,K1,map_cons,map_nil,VO.ren,aB,TV.ren,hr.ren,bm,Tok.ren];rfl
 have hv:=Vr pas n N [] r (r.take (bA r).toNat) (r.drop (bA r).toNat) (s1 l) (s1 (l++ [nS (r.take (bA r).toNat) pas]))
  (λe vs os tl D m=>D= []∧m=111∧match e with
   | .normal=>∃s':K3,Xn pas n0 w s'∧s'.r.length<r.length∧vs=Vx pas s'∧os=(wL pas N s').objs∧tl=(wL pas N s').tails
   | .exit i=>i=0∧EE pas n0 N w .normal vs os tl
   |_=>False)
 refine VWx.mono (cg ag ac XT ai hv ?_) (λe σ T D hq=> ?_)
 rotate_left
 ·obtain ⟨h1,h2,h4⟩:=hq
  refine ⟨h1,h2,?_⟩
  cases e
  case normal=>
   obtain ⟨s',a1,a2,a3,a4,a5⟩:=h4
   refine ⟨s',a1,a2,.inr ⟨?_,by rw [a3];exact hvs _ a1.2.1⟩⟩
   obtain ⟨objs,tails⟩:=T
   show (⟨_,_⟩:VT)=_
   simp only at a4 a5
   rw [a4,a5]
   have:=hres s'.r s'.n a1.1
   show (⟨_,_⟩:VT)=(⟨_,_⟩:VT)
   congr 1
  case exit i=>
   obtain ⟨rfl,h4⟩:=h4
   exact h4
  all_goals exact h4.elim
 by_cases hl:r.length<19
 ·refine aO (decide_eq_false (by omega)) ⟨rfl,rfl,rfl,rfl,?_,?_,?_⟩
  ·unfold cn;rw [hfd,cS pas hl,append_nil]<;>rfl
  ·unfold Bg ep iP dv dn cn
   rw [hfd,cS pas hl,append_nil,←hn];rfl
  ·unfold cn;rw [hfd,cS pas hl,append_nil]<;>rfl
 refine aU (decide_eq_true (by omega)) ⟨⟨hr,Nat.ble_eq_true_of_le (by omega)⟩,ak (λh1=> ?_) (λh1=> ?_)⟩
 rotate_left
 ·refine ⟨rfl,rfl,rfl,rfl,?_,?_,?_⟩
  ·unfold cn;rw [hfd,lw pas hl h1,append_nil]<;>rfl
  ·unfold Bg ep iP mq dv dn cn
   rw [hfd,lw pas hl h1,append_nil,←hn];rfl
  ·unfold cn;rw [hfd,lw pas hl h1,append_nil]<;>rfl
 have h19:=sD hl h1
 refine ak (λh2=> ?_) (λh2=> ?_)
 ·have h3:bA r>r.length:=of_decide_eq_true h2
  refine ⟨rfl,rfl,rfl,rfl,?_,?_,?_⟩
  ·unfold cn;rw [hfd,k9 pas hl h1 h3,append_nil]<;>rfl
  ·unfold Bg ep iP dv dn cn
   rw [hfd,k9 pas hl h1 h3,append_nil,←hn];rfl
  ·unfold cn;rw [hfd,k9 pas hl h1 h3,append_nil]<;>rfl
 have h3:¬bA r>r.length:=of_decide_eq_false h2
 have hkN:(bA r).toNat≤r.length:=by omega
 refine ⟨WJ rfl rfl (by omega) hkN,hr.take _,ak (λh4=> ?_) (λh4=> ?_)⟩
 ·intro M hM
  have hP:=Ex h4
  obtain rfl:M=nS (r.take (bA r).toNat) pas:=by
   unfold Aa at hM;rw [hP] at hM;exact (Sum.inr.inj hM).symm
  have hst:=mV hl h1 h3 hP
  have hMw:=Eu (hr.take _) hP
  have ha2:jh (l++ [nS (r.take (bA r).toNat) pas]):=λm hm=>by
   rcases mem_append.1 hm with hm | hm
   ·exact ha m hm
   ·obtain rfl:=mem_singleton.1 hm;exact hMw
  refine ⟨Vw rfl rfl (by omega),WK rfl rfl (by omega) hkN,rfl,rfl,⟨r.drop (bA r).toNat,l++ [nS (r.take (bA r).toNat) pas],n+1⟩,⟨hr.drop _,ha2,?_,?_,?_⟩,by rw [length_drop];omega,rfl,?_,rfl⟩
  ·simp only [length_append,List.length_singleton];omega
  ·simp only [length_append,List.length_singleton,length_drop];omega
  ·simp only
   rw [hfd,hst,List.append_assoc];rfl
  ·rw [bE (by omega) (by omega)];rfl
 ·intro c s d hB
  have hf:=ly hl h1 h3 hB
  refine ⟨rfl,rfl,rfl,rfl,?_,?_,?_⟩
  ·unfold cn;rw [hfd,hf,append_nil]<;>rfl
  ·unfold Bg ep iP mq dv dn cn
   rw [hfd,hf,append_nil,←hn];rfl
  ·unfold cn;rw [hfd,hf,append_nil]<;>rfl
def iQ (pas:Int)(w:Bs):VO:=il pas (.vec 1 (aW w pas).2.1 .none) (ep w pas) (dv w pas) (.vec 1 (dn w pas) .none) ((cn w pas).length:Nat)
def sI (pas:Int)(w:Bs):List TV:= [.val (.int .i64 pas),.vec 1 (aW w pas).2.1 .none,.val (.int .i64 (ep w pas)),.val (.int .i64 (dv w pas)),.vec 1 (dn w pas) .none,.val (.int .i64 ((cn w pas).length:Nat))]
theorem Vy {V:TV}{S:List TV}{f:FuncId}{ys:List TV}{T0:VT}(h0:T0.objs.length≤1)(ht:T0.tails.length≤0)
  (h:VCx prog ah 0 f ys T0 λx T'=>∃cs,T'.objs[0]?=some (.cells cs)∧TVleL (aB (ax 1) (ax 0) cs) S∧TVle (x.ren (ax 1) (ax 0)) V):
  VCx prog ah 0 f ys T0 λx T'=>x=V∧T'=⟨[.cells S],[]⟩:=by
 refine VCx.toLe (Q:=λT'=>T'=⟨[.cells S],[]⟩) (VCx.cellsLe 0 (VCx.keepQ 1 0 h0 ht (h.mono ?_)))
 rintro x T' ⟨cs,a1,a2,a3⟩
 obtain ⟨objs,tails⟩:=T'
 cases objs with
 |nil=>simp at a1
 |cons o os=>
  simp only [List.getElem?_cons_zero] at a1
  injection a1 with a1
  subst a1
  exact ⟨_,S,rfl,a2,a3,rfl⟩
section
variable {w b:Bs}{pas:Int}
theorem wM (h:(aW w pas).2.2=none):iQ pas w=il pas (.vec 1 (aW w pas).2.1 .none) 0 0 (.vec 1 [] .none) ((aW w pas).1.length:Nat):=by
 simp only [iQ,ep,iP,dv,dn,cn,h];rfl
theorem wN (hw:IsB w){c:Nat}{s:Int}{d:Bs}(h:(aW w pas).2.2=some (c,s,d)):iQ pas w=il pas (.vec 1 [] .none) (ofNat (c+1)) s (.vec 1 d .none) ((aW w pas).1.length:Nat):=by
 have h2:=((mf pas _ w (le_refl _) hw).2.2.2 c s d h).2
 simp only [iQ,ep,iP,mq,dv,dn,cn,h,h2];rfl
theorem oE (hw:IsB w)(f g:Nat→Option Nat):(iQ pas w).ren f g=iQ pas w:=by
 simp only [iQ,il,VO.ren,aB,TV.ren,(jH hw).ren,(jI hw).ren,Tok.ren]
theorem NF (hw:IsB w)(f g:Nat→Option Nat):aB f g (sI pas w)=sI pas w:=by
 simp only [sI,aB,TV.ren,(jH hw).ren,(jI hw).ren,Tok.ren]
theorem Vz (hw:IsB (w++b))(tok:Tok):VCx prog ah 0 nT [.ptr 0 0,.vec 1 b tok] ⟨[iQ pas w],[]⟩ λx T'=>x=rD w b pas∧T'=⟨[iQ pas (w++b)],[]⟩:=by
 have hw1:=pE hw
 have hb:=qo hw
 refine Vy (S:=sI pas (w++b)) (le_refl _) (le_refl _) ?_
 cases hf:(aW w pas).2.2 with
 |some p=>
  obtain ⟨c,s,d⟩:=p
  have hx:=Et (b:=b) hf
  have hf2:(aW (w++b) pas).2.2=some (c,s,d):=by rw [hx];exact hf
  have hS:sI pas (w++b)=sI pas w:=by simp only [sI,ep,iP,mq,dv,dn,cn,hx]
  rw [hS,wN hw1 hf]
  have hS2:=wN hw1 hf
  change VO.cells (sI pas w)=_ at hS2
  injection hS2 with hS2
  refine aj ag ac am ai (Vs pas _ s c _ d b tok _) ⟨_,rfl,?_,?_⟩
  ·have h:=NF (pas:=pas) hw1 (ax 1) (ax 0)
   have key:∀l l':List TV,l=l'→TVleL l l':=λl l' e=>e▸TVleL.refl _
   exact key _ _ (by rw [hS2] at h ⊢;exact h)
  ·unfold rD
   rw [wK hf2]
   have e:gm w b pas= []:=by unfold gm cn;rw [hx];simp
   rw [e]
   refine .tup ⟨.nil 15,?_,trivial⟩
   simp only [TV.ren,aB,(rC hw1 hf).ren,Tok.ren]
   exact .refl _
 |none=>
  have hx:=Es (b:=b) hf
  have hlen:=(mf pas _ w (le_refl _) hw1).2.1
  have hl2:=hw.2
  rw [length_append] at hl2
  have hab:IsB ((aW w pas).2.1++b):=(jI hw1).append hb (by rw [length_append];omega)
  have hal:((aW w pas).2.1++b).length=(aW w pas).2.1.length+b.length:=length_append
  rw [wM hf]
  generalize hr:(aW w pas).2.1=a at hab hal hx hlen
  have eK:ep (w++b) pas=ep (a++b) pas:=by simp only [ep,iP,mq,hx]
  have eU:dv (w++b) pas=dv (a++b) pas:=by simp only [dv,hx]
  have eD:dn (w++b) pas=dn (a++b) pas:=by simp only [dn,hx]
  have eL:cn (w++b) pas=cn w pas++cn (a++b) pas:=by simp only [cn,hx]
  have eN:gm w b pas=cn (a++b) pas:=by unfold gm;rw [eL,List.drop_left]
  have hL:dD prog ah (cG [(0,dB 111 yG [(6,15)] (vY []) (K2 (il pas (.vec 1 (a++b) (.tail 0 (a++b).length)) 0 0 (.vec 1 [] .none) ((aW w pas).1.length:Nat)) (a++b).length 0) (λK=>True∧∀oo:List VO,K .normal (aJ 111 yG (vY (s1 (cn (a++b) pas)))) ⟨il pas (Bg (a++b).length (a++b) pas) (ep (a++b) pas) (dv (a++b) pas) (.vec 1 (dn (a++b) pas) .none) (((aW w pas).1.length:Nat)+((cn (a++b) pas).length:Nat))::K1::oo,[((a++b).length,1,false),((s1 (cn (a++b) pas)).length,15,true)]⟩ []),aA prog nT 0)]):=bL λp hp=>by
   obtain rfl:=mem_singleton.1 hp
   refine ce λK hK=> ?_
   refine RR (pas:=pas) (n0:=((aW w pas).1.length:Nat)) (N:=(a++b).length) hab (by omega) (by omega) K ?_
   rintro e vs T ⟨rfl,rfl,h3,h4⟩
   obtain ⟨objs,tails⟩:=T
   simp only at h3 h4
   have h:=hK.2 (objs.drop 2)
   have e:objs=objs.take 2++objs.drop 2:=(take_append_drop 2 objs).symm
   rw [h3] at e
   rw [h4,e]
   exact h
  refine aj ag ac am hL (WI pas _ _ _ _ _ a b _ [] _ True tok _) ?_
  have hNl:(a++b).length≤32000000:=hab.2
  refine ⟨mJ _ a (by omega) 22 26 rfl,?_,rfl,⟨rfl,rfl,rfl,⟨rfl,trivial⟩,rfl,rfl,rfl⟩,trivial,λoo=>⟨_,rfl,?_,?_⟩⟩
  ·have h:=FE (ro:=0) (T:=⟨[.cells [.val (.int .i64 pas),.vec 1 a .none,.val (.int .i64 0),.val (.int .i64 0),.vec 1 [] .none,.val (.int .i64 ((aW w pas).1.length:Nat))],.cells [.val (.int .i64 0),.val (.int .i64 0),.val (.slice none 0 0)]],[(a.length,1,false)]⟩) (T1:=⟨[.cells [.val (.int .i64 pas),.vec 1 a .none,.val (.int .i64 0),.val (.int .i64 0),.vec 1 [] .none,.val (.int .i64 ((aW w pas).1.length:Nat))],.cells [.val (.int .i64 0),.val (.int .i64 0),.val (.slice none 0 0)]],[(a.length,1,false)]⟩) (s:=.tmp 27) (x:=.tmp 28) (l:= [(27,.vec 1 a (.tail 0 a.length)),(28,.vec 1 b tok)]) (es:=a) (es2:=b) (k:=0) (n:=a.length) (bn:=false)
    (by simp [aL,dT,cE]) rfl (by omega)
   rw [←hal] at h
   exact h
  ·have hR:TVle ((Bg (a++b).length (a++b) pas).ren (ax 1) (ax 0)) (.vec 1 (aW (w++b) pas).2.1 .none):=by
    unfold Bg
    rw [hx]
    cases h2:(aW (a++b) pas).2.2 with
    |none=>
     simp only [TV.ren,(jI hab).ren]
     exact .refl _
    |some p=>
     obtain ⟨c,s,d⟩:=p
     rw [((mf pas _ _ (le_refl _) hab).2.2.2 c s d h2).2]
     exact .nil 1
   have e2:(((cn (w++b) pas).length:Nat):Int)=((aW w pas).1.length:Nat)+((cn (a++b) pas).length:Nat):=by rw [eL,length_append];rfl
   simp only [sI,aB,TV.ren,(jH hab).ren,Tok.ren,eK,eU,eD,e2]
   exact ⟨.refl _,hR,.refl _,.refl _,.refl _,.refl _,trivial⟩
  ·unfold rD vW
   rw [eN,eK,eU,eD]
   simp only [TV.ren,aB,s1,gN (rB (pas:=pas) hab),cn,(jH hab).ren,Tok.ren]
   exact .refl _
end
def IA:be:=λ_ ys T K=>match ys with
 |[.agg l,.agg l']=>UX l l'∧K (.val (.bool true)) T
 |_=>aR 83 default ys
abbrev qp:=12
abbrev lz:=13
def EF:List Nat:= [0,1,12,13]
def Af (l:Bs)(j:Int):List TV:= [.vec 15 l .none,.vec 15 l .none,.val (.int .i64 l.length),.val (.int .i64 j)]
def VA (l:Bs)(c0:Code):Nat→Option (cB × Code):=cG [(0,dB 27 EF [] (Af l 0) ⟨[],[]⟩ (λK=>K .normal (aJ 27 EF (Af l l.length)) ⟨[],[]⟩ []),c0)]
def wO:List Nat:= [3,9,10,11]
def qI (l A:Bs)(n:Nat)(j:Int):List TV:= [.vec 15 A (.tail 0 n),.vec 15 l .none,.val (.int .i64 l.length),.val (.int .i64 j)]
def VB (l A:Bs)(c0:Code):Nat→Option (cB × Code):=cG [(0,dB 65 wO [(3,15)] (qI l [] 0 0) ⟨[],[(0,15,true)]⟩ (λK=>K .normal (aJ 65 wO (qI l A l.length l.length)) ⟨[],[(l.length,15,true)]⟩ []),c0)]
def Ag:List Nat:= [3,5,6,9,10,11,33,34,35]
def wP (l A:Bs)(n:Nat)(j:Int)(c:Bs)(i:Int):List TV:= [.vec 15 A (.tail 0 n),.ptr 0 0,.ptr 1 0,.vec 15 l .none,.val (.int .i64 l.length),.val (.int .i64 j),.vec 2 c .none,.val (.int .i64 c.length),.val (.int .i64 i)]
def VC (m:MsgS)(l A:Bs)(n:Nat)(j:Int)(ln:Bool)(K:KX):Prop:=bif ln then K .normal (aJ 65 Ag (wP l A n j m.op.l m.op.l.length)) ⟨[.cells m.cells,yD m uC],[(n,15,true)]⟩ [] else K .normal (aJ 65 Ag (wP l A n j m.op.l m.op.l.length)) ⟨[.cells m.cells,yD m (.vec 2 m.op.l (.tail 1 m.op.l.length))],[(n,15,true),(m.op.l.length,2,true)]⟩ []
def VD (m:MsgS)(l A:Bs)(n:Nat)(j:Int)(ln:Bool)(c0:Code):Nat→Option (cB × Code):=cG [(2,dB 65 Ag [] (wP l A n j m.op.l 0) ⟨[.cells m.cells,yD m uC],[(n,15,true)]⟩ (VC m l A n j ln),c0)]
theorem WL (l:Bs)(Q:TV→VT→Prop):au prog ah aZ aM 300 (VA l (aA prog qp 0)) 0 qp [.vec 15 l .none,.vec 15 l .none] ap Q=
 (bif aq neq (k6 (↑(length l):Int) (↑(length l):Int))
 then Q av ap
 else ((aA prog qp (0:Nat)=aA prog qp (0:Nat))∧
 (((@Eq (Option Nat) .none .none)∧
 ((@Eq (Nat) 0 0)∧
 ((@Eq (List Nat) [] [])∧
 (True  ∧
 ((@Eq (VT) ap ap)∧
 ((@Eq (Bool) true true)∧
 (@Eq (List TV) [(ia l),(ia l),(ae (↑(length l):Int)),aE] [(ia l),(ia l),(ae (↑(length l):Int)),aE])))))))∧
 Q aF ap))):=by kernel_rfl
abbrev Pd (m:MsgS):TV:=(So (MsgS.k m) (OpS.n (MsgS.op m)) (OpS.h (MsgS.op m)) (OpS.i (MsgS.op m)) (OpS.l (MsgS.op m)) (UpS.w (MsgS.u m)) (UpS.o (MsgS.u m)) (UpS.x (MsgS.u m)) (UpS.h (MsgS.u m)) (UpS.m (MsgS.u m)) (UpS.hm (MsgS.u m)) (UpS.n (MsgS.u m)) (MsgS.c m) (MsgS.s m) (MsgS.d m))
theorem K4 (l:Bs)(j:Int)(m:MsgS)(Q:Exit→List TV→VT→List Nat→Nat→Prop):vx prog ah (aI [(Ez,IA)]) (bc [(18,.elt m.cells,none),(22,.elt m.cells,none)]) 300 aG none 0 (cM prog qp 0) (aJ 27 EF (Af l j)) ap [] (de EF Q)=
 (bif decide (j<(↑(length l):Int))
 then (ba prog (λ_=>.none) (.indexAddr 36 (.tmp 16) (.tmp 17)) [(16,(ia l)),(17,(ae j))] (Pd m)∧
 (ba prog (λ_=>.none) (.indexAddr 36 (.tmp 20) (.tmp 21)) [(20,(ia l)),(21,(ae j))] (Pd m)∧
 (UX [(ae (MsgS.k m)),(ae (OpS.n (MsgS.op m))),(ae (OpS.h (MsgS.op m))),(cc (OpS.i (MsgS.op m))),(bD (OpS.l (MsgS.op m))),(bD (UpS.w (MsgS.u m))),(ae (UpS.o (MsgS.u m))),(an (UpS.x (MsgS.u m))),(cc (UpS.h (MsgS.u m))),(ae (UpS.m (MsgS.u m))),(ei (UpS.hm (MsgS.u m))),(bD (UpS.n (MsgS.u m))),(ae (MsgS.c m)),(ae (MsgS.s m)),(an (MsgS.d m))] [(ae (MsgS.k m)),(ae (OpS.n (MsgS.op m))),(ae (OpS.h (MsgS.op m))),(cc (OpS.i (MsgS.op m))),(bD (OpS.l (MsgS.op m))),(bD (UpS.w (MsgS.u m))),(ae (UpS.o (MsgS.u m))),(an (UpS.x (MsgS.u m))),(cc (UpS.h (MsgS.u m))),(ae (UpS.m (MsgS.u m))),(ei (UpS.hm (MsgS.u m))),(bD (UpS.n (MsgS.u m))),(ae (MsgS.c m)),(ae (MsgS.s m)),(an (MsgS.d m))]∧
 Q .normal [(ia l),(ia l),(ae (↑(length l):Int)),(ae (wrap i64 (j+(1:Int))))] ap [] 27)))
 else Q (.exit 0) [(ia l),(ia l),(ae (↑(length l):Int)),(ae j)] ap [] 27):=by kernel_rfl
theorem WM (l A:Bs)(Q:TV→VT→Prop):au prog ah aZ aM 300 (VB l A (aA prog lz 0)) 0 lz [.vec 15 l .none] ap Q=
 ((aA prog lz (0:Nat)=aA prog lz (0:Nat))∧
 (((@Eq (Option Nat) .none .none)∧
 ((@Eq (Nat) 0 0)∧
 ((@Eq (List Nat) [] [])∧
 (((@Eq (Option TV) (.some aY) (.some aY))∧
 True)∧
 ((@Eq (VT) ⟨[],[(0,(15,true))]⟩ ⟨[],[(0,(15,true))]⟩)∧
 ((@Eq (Bool) true true)∧
 (@Eq (List TV) [(.vec 15 [] (.tail 0 0)),(ia l),(ae (↑(length l):Int)),aE] [(.vec 15 [] (.tail 0 0)),(ia l),(ae (↑(length l):Int)),aE])))))))∧
 Q (nA A (length l)) ⟨[],[((length l),(15,true))]⟩)):=by kernel_rfl
abbrev yH (l:Bs):TV:=(ae (↑(length l):Int))
theorem EG (m:MsgS)(l A A2:Bs)(n n2:Nat)(j:Int)(ln:Bool)(tl2:fR)(Q:Exit→List TV→Nat→fR→List Nat→Nat→Prop):vx prog ah aZ (bc [(999998,.dead,none),(13,.elt m.cells,none),(62,.vec 15 A2 (.tail 0 n2),some λT=>{T with tails:=tl2})]) 300 (VD m l A n j ln (aA prog lz 2)) none 0 (cM prog lz 0) (aJ 65 wO (qI l A n j)) ⟨[],[(n,15,true)]⟩ [] (de wO λe vs T D m=>Q e vs T.objs.length T.tails D m)=
 (bif decide (j<(↑(length l):Int))
 then (ba prog (λ_=>.none) (.indexAddr 25 (.tmp 9) (.tmp 11)) [(9,(ia l)),(11,(ae j))] (So (MsgS.k m) (OpS.n (MsgS.op m)) (OpS.h (MsgS.op m)) (OpS.i (MsgS.op m)) (OpS.l (MsgS.op m)) (UpS.w (MsgS.u m)) (UpS.o (MsgS.u m)) (UpS.x (MsgS.u m)) (UpS.h (MsgS.u m)) (UpS.m (MsgS.u m)) (UpS.hm (MsgS.u m)) (UpS.n (MsgS.u m)) (MsgS.c m) (MsgS.s m) (MsgS.d m))∧
 ((aA prog lz (2:Nat)=aA prog lz (2:Nat))∧
 (((@Eq (Option Nat) .none .none)∧
 ((@Eq (Nat) 0 0)∧
 ((@Eq (List Nat) [] [])∧
 (True  ∧
 ((@Eq (VT) ⟨[(jn m),(.cells [(ae (MsgS.k m)),(ae (OpS.n (MsgS.op m))),(ae (OpS.h (MsgS.op m))),(cc (OpS.i (MsgS.op m))),aY,aY,aE,aY,cN,aE,av,aY,(ae (MsgS.c m)),(ae (MsgS.s m)),(an (MsgS.d m))])],[((n),(15,true))]⟩ ⟨[(jn m),(.cells [(ae (MsgS.k m)),(ae (OpS.n (MsgS.op m))),(ae (OpS.h (MsgS.op m))),(cc (OpS.i (MsgS.op m))),aY,aY,aE,aY,cN,aE,av,aY,(ae (MsgS.c m)),(ae (MsgS.s m)),(an (MsgS.d m))])],[((n),(15,true))]⟩)∧
 ((@Eq (Bool) true true)∧
 (@Eq (List TV) [(nA A n),eV,eG,(ia l),(yH l),(ae j),(bD (OpS.l (MsgS.op m))),(ae (↑(length (OpS.l (MsgS.op m))):Int)),aE] [(nA A n),eV,eG,(ia l),(yH l),(ae j),(bD (OpS.l (MsgS.op m))),(ae (↑(length (OpS.l (MsgS.op m))):Int)),aE])))))))∧
 (bif ln
 then (br prog (λ_=>.none) 0 ⟨[(jn m),(.cells [(ae (MsgS.k m)),(ae (OpS.n (MsgS.op m))),(ae (OpS.h (MsgS.op m))),(cc (OpS.i (MsgS.op m))),aY,(bD (UpS.w (MsgS.u m))),(ae (UpS.o (MsgS.u m))),(an (UpS.x (MsgS.u m))),(cc (UpS.h (MsgS.u m))),(ae (UpS.m (MsgS.u m))),(ei (UpS.hm (MsgS.u m))),(bD (UpS.n (MsgS.u m))),(ae (MsgS.c m)),(ae (MsgS.s m)),(an (MsgS.d m))])],[((n),(15,true))]⟩ (.call ⟨(.builtin .append),#[(.tmp 59),(.tmp 61)],#[36,36]⟩) [(59,(nA A n)),(61,(.vec 15 [[(.val (.int .i64 (MsgS.k m))),(.val (.int .i64 (OpS.n (MsgS.op m)))),(.val (.int .i64 (OpS.h (MsgS.op m)))),(.val (.int .u32 (OpS.i (MsgS.op m)))),(.val (.slice .none 0 0)),(.vec 2 (UpS.w (MsgS.u m)) .none),(.val (.int .i64 (UpS.o (MsgS.u m)))),(.vec 1 (UpS.x (MsgS.u m)) .none),(.val (.int .u32 (UpS.h (MsgS.u m)))),(.val (.int .i64 (UpS.m (MsgS.u m)))),(.val (.bool (UpS.hm (MsgS.u m)))),(.vec 2 (UpS.n (MsgS.u m)) .none),(.val (.int .i64 (MsgS.c m))),(.val (.int .i64 (MsgS.s m))),(.vec 1 (MsgS.d m) .none)]] .full))] (nA A2 n2) ⟨[(jn m),(.cells [(ae (MsgS.k m)),(ae (OpS.n (MsgS.op m))),(ae (OpS.h (MsgS.op m))),(cc (OpS.i (MsgS.op m))),aY,(bD (UpS.w (MsgS.u m))),(ae (UpS.o (MsgS.u m))),(an (UpS.x (MsgS.u m))),(cc (UpS.h (MsgS.u m))),(ae (UpS.m (MsgS.u m))),(ei (UpS.hm (MsgS.u m))),(bD (UpS.n (MsgS.u m))),(ae (MsgS.c m)),(ae (MsgS.s m)),(an (MsgS.d m))])],tl2⟩∧
 Q .normal [(nA A2 n2),(ia l),(yH l),(ae (wrap i64 (j+(1:Int))))] 2 (tl2) [] 65)
 else (br prog (λ_=>.none) 0 ⟨[(jn m),(.cells [(ae (MsgS.k m)),(ae (OpS.n (MsgS.op m))),(ae (OpS.h (MsgS.op m))),(cc (OpS.i (MsgS.op m))),(.vec 2 (OpS.l (MsgS.op m)) (.tail 1 (length (OpS.l (MsgS.op m))))),(bD (UpS.w (MsgS.u m))),(ae (UpS.o (MsgS.u m))),(an (UpS.x (MsgS.u m))),(cc (UpS.h (MsgS.u m))),(ae (UpS.m (MsgS.u m))),(ei (UpS.hm (MsgS.u m))),(bD (UpS.n (MsgS.u m))),(ae (MsgS.c m)),(ae (MsgS.s m)),(an (MsgS.d m))])],[((n),(15,true)),((length (OpS.l (MsgS.op m))),(2,true))]⟩ (.call ⟨(.builtin .append),#[(.tmp 59),(.tmp 61)],#[36,36]⟩) [(59,(nA A n)),(61,(.vec 15 [[(.val (.int .i64 (MsgS.k m))),(.val (.int .i64 (OpS.n (MsgS.op m)))),(.val (.int .i64 (OpS.h (MsgS.op m)))),(.val (.int .u32 (OpS.i (MsgS.op m)))),(.vec 2 (OpS.l (MsgS.op m)) (.tail 1 (length (OpS.l (MsgS.op m))))),(.vec 2 (UpS.w (MsgS.u m)) .none),(.val (.int .i64 (UpS.o (MsgS.u m)))),(.vec 1 (UpS.x (MsgS.u m)) .none),(.val (.int .u32 (UpS.h (MsgS.u m)))),(.val (.int .i64 (UpS.m (MsgS.u m)))),(.val (.bool (UpS.hm (MsgS.u m)))),(.vec 2 (UpS.n (MsgS.u m)) .none),(.val (.int .i64 (MsgS.c m))),(.val (.int .i64 (MsgS.s m))),(.vec 1 (MsgS.d m) .none)]] .full))] (nA A2 n2) ⟨[(jn m),(.cells [(ae (MsgS.k m)),(ae (OpS.n (MsgS.op m))),(ae (OpS.h (MsgS.op m))),(cc (OpS.i (MsgS.op m))),(.vec 2 (OpS.l (MsgS.op m)) (.tail 1 (length (OpS.l (MsgS.op m))))),(bD (UpS.w (MsgS.u m))),(ae (UpS.o (MsgS.u m))),(an (UpS.x (MsgS.u m))),(cc (UpS.h (MsgS.u m))),(ae (UpS.m (MsgS.u m))),(ei (UpS.hm (MsgS.u m))),(bD (UpS.n (MsgS.u m))),(ae (MsgS.c m)),(ae (MsgS.s m)),(an (MsgS.d m))])],tl2⟩∧
 Q .normal [(nA A2 n2),(ia l),(yH l),(ae (wrap i64 (j+(1:Int))))] 2 (tl2) [] 65)))))
 else Q (.exit 0) [(nA A n),(ia l),(yH l),(ae j)] 0 [((n),(15,true))] [] 65):=by kernel_rfl
abbrev IB (m:MsgS)(x:TV):VO:=(Xr (MsgS.k m) (OpS.n (MsgS.op m)) (OpS.h (MsgS.op m)) (OpS.i (MsgS.op m)) x (MsgS.c m) (MsgS.s m) (MsgS.d m))
theorem K5 (m:MsgS)(l A l2:Bs)(n kk nn:Nat)(j i e:Int)(v:Bs)(x:TV)(tl tl2:fR)(Q:Exit→List TV→VT→List Nat→Nat→Prop):vx prog ah aZ (bc [(37,.elt [.val (.int .i64 e),.vec 1 v .none],none),(44,.vec 2 l2 (.tail kk nn),some λT=>{T with tails:=tl2})]) 300 aG none 0 (cM prog lz 2) (aJ 65 Ag (wP l A n j m.op.l i)) ⟨[.cells m.cells,yD m x],tl⟩ [] (de Ag Q)=
 (bif decide (i<(↑(length (OpS.l (MsgS.op m))):Int))
 then (ba prog (λ_=>.none) (.indexAddr 55 (.tmp 33) (.tmp 35)) [(33,(bD (OpS.l (MsgS.op m)))),(35,(ae i))] (C3 e v)∧
 (br prog (λ_=>.none) 0 ⟨[(jn m),(IB m x),(nc e v)],tl⟩ (.call ⟨(.builtin .append),#[(.tmp 41),(.tmp 43)],#[68,68]⟩) [(41,(x)),(43,(.vec 2 [[(.val (.int .i64 (e))),(.vec 1 (v) .none)]] .full))] (.vec 2 l2 (.tail kk nn)) ⟨[(jn m),(IB m x),(nc e v)],tl2⟩∧
 Q .normal [(nA A n),eV,eG,(ia l),(ae (↑(length l):Int)),(ae j),(bD (OpS.l (MsgS.op m))),(ae (↑(length (OpS.l (MsgS.op m))):Int)),(ae (wrap i64 (i+(1:Int))))] ⟨[(jn m),(.cells [(ae (MsgS.k m)),(ae (OpS.n (MsgS.op m))),(ae (OpS.h (MsgS.op m))),(cc (OpS.i (MsgS.op m))),(.vec 2 l2 (.tail kk nn)),aY,aE,aY,cN,aE,av,aY,(ae (MsgS.c m)),(ae (MsgS.s m)),(an (MsgS.d m))]),(nc e v)],tl2⟩ [] 65))
 else Q (.exit 2) [(nA A n),eV,eG,(ia l),(ae (↑(length l):Int)),(ae j),(bD (OpS.l (MsgS.op m))),(ae (↑(length (OpS.l (MsgS.op m))):Int)),(ae i)] ⟨[(jn m),(IB m x)],tl⟩ [] 65):=by kernel_rfl
theorem RS {G:aV}(hG:dd G):∀ro ys T K,IA ro ys T K→VCx prog G ro Ez ys T K:=by
 intro ro ys T K hw
 unfold IA at hw
 split at hw
 ·obtain ⟨⟨rfl,m,hm,rfl⟩,hk⟩:=hw
  have hr:∀f g,(TV.agg m.cells).ren f g=.agg m.cells:=λf g=>by simp only [TV.ren,hm.ren f g]
  exact VCx.liftPure hG (VCx.anyG (RQ hm)) (by simp only [aB,hr]) (λ_ _=>rfl) hk
 ·exact hw.elim
theorem EH:∃(inf:TypeInfo) (z:Value),prog.info? 75=some inf∧inf.size=15∧inf.bytes+1≤1000∧inf.zero=some z∧z.cells.size=15:=
 ⟨(prog.info? 75).getD default,((prog.info? 75).getD default).zero.getD default,by kernel_rfl,by kernel_rfl,le_of_ble_eq_true (by kernel_rfl),by kernel_rfl,by kernel_rfl⟩
theorem EI {x i:Operand}{l:List (Nat × TV)}{es:Bs}{tok:Tok}{k:IntKind}{z:Int}{cs:List TV}(hx:aL ah l x=.vec 15 es tok)(hz:aL ah l i=.val (.int k z))(h0:0≤z)(he:es[z.toNat]?=some cs):ba prog ah (.indexAddr 36 x i) l (.elt cs):=by
 obtain ⟨inf,_,i1,i2,_,_,_⟩:=EH
 exact dZ (inf:=inf) underlying36 i1 (by rw [i2];exact hx) hz h0 he
theorem EJ {x i:Operand}{l:List (Nat × TV)}{es:Bs}{tok:Tok}{k:IntKind}{z:Int}{cs:List TV}(hx:aL ah l x=.vec 15 es tok)(hz:aL ah l i=.val (.int k z))(h0:0≤z)(he:es[z.toNat]?=some cs):ba prog ah (.indexAddr 25 x i) l (.elt cs):=by
 obtain ⟨inf,_,i1,i2,_,_,_⟩:=Ew
 exact dZ (inf:=inf) Tryz.underlying25 i1 (by rw [i2];exact hx) hz h0 he
section
variable {L:List MsgS}
theorem RT (hL:jh L)(hn:L.length≤64000000):dD prog ah (VA (L.map MsgS.cells) (aA prog qp 0)):=bL λp hp=>by
 obtain rfl:=mem_singleton.1 hp
 have hS:bk prog ah (aI [(Ez,IA)]):=aQ λp hp=>by
  obtain rfl:=mem_singleton.1 hp;exact RS aP
 refine ce λK hK=>vq (f:=qp) (id:=0) (by kernel_rfl) 27 EF (Af (L.map MsgS.cells)) ⟨[],[]⟩ L.length (λe vs T=>e=.normal∧vs=Af (L.map MsgS.cells) (L.map MsgS.cells).length∧T=⟨[],[]⟩) (λj hj=> ?_) K (λe vs T ⟨h1,h2,h3⟩=>by subst h1 h2 h3;exact hK)
 by_cases hlt:j<L.length
 ·have hat:(L.map MsgS.cells)[((j:Nat):Int).toNat]?=some L[j].cells:=by rw [toNat_natCast,getElem?_map,getElem?_eq_getElem hlt];rfl
  have hm:=hL _ (getElem_mem hlt)
  refine cg ag ac hS ai (K4 (L.map MsgS.cells) j L[j] _) ?_
  refine aU (decide_eq_true (by rw [length_map];omega)) ⟨EI rfl rfl (by omega) hat,EI rfl rfl (by omega) hat,⟨rfl,_,hm,rfl⟩,?_⟩
  exact ⟨rfl,rfl,hlt,.inl ⟨rfl,by rw [vp hlt hn];rfl⟩⟩
 ·have hj2:j=L.length:=by omega
  refine cg ag ac hS ai (K4 (L.map MsgS.cells) j m0 _) ?_
  exact aO (decide_eq_false (by rw [length_map];omega)) ⟨rfl,rfl,rfl,by rw [hj2];simp only [Af,length_map],rfl⟩
theorem VE (hL:jh L)(hn:L.length≤64000000):VCx prog ah 0 qp [.vec 15 (L.map MsgS.cells) .none,.vec 15 (L.map MsgS.cells) .none] ⟨[],[]⟩ λx T'=>x=.val (.bool true)∧T'=⟨[],[]⟩:=
 VCx.keepQ 0 0 (le_refl _) (le_refl _) (aj ag ac am (RT hL hn) (WL _ _) (aO (fj _ _) ⟨rfl,⟨rfl,rfl,rfl,trivial,rfl,rfl,rfl⟩,rfl,rfl⟩))
def qr (l:Bs):TV:=if l.length=0 then uC else .vec 2 l (.tail 1 l.length)
def mW (n:Nat)(l:Bs):fR:=if l.length=0 then [(n,15,true)] else [(n,15,true),(l.length,2,true)]
theorem NG (n:Nat)(l:Bs):(mW n l).length≤2:=by unfold mW;split<;>simp
theorem WN {A:Bs}{p:List TV}{O:List VO}{n:Nat}{s x:Operand}{l:List (Nat × TV)}(hs:aL ah l s=qr A)(hx:gf 2 (aL ah l x)=some [p])(hb:A.length≤64000000):br prog ah 0 ⟨O,mW n A⟩ (.call ⟨.builtin .append,#[s,x],#[68,68]⟩) l (.vec 2 (A++ [p]) (.tail 1 (A.length+1))) ⟨O,[(n,15,true),(A.length+1,2,true)]⟩:=by
 by_cases hA:A.length=0
 ·obtain rfl:=List.length_eq_zero_iff.1 hA
  exact ED (T:=⟨O,[(n,15,true)]⟩) (T1:=⟨O,[(n,15,true),(0,2,true)]⟩) (es:= []) (es2:= [p]) (k:=1) (n:=0) (bn:=true) (by rw [hs];rfl) hx (by simp)
 ·have e1:qr A=.vec 2 A (.tail 1 A.length):=by unfold qr;rw [if_neg hA]
  have e2:mW n A= [(n,15,true),(A.length,2,true)]:=by unfold mW;rw [if_neg hA]
  rw [e2]
  exact ED (T:=⟨O,[(n,15,true),(A.length,2,true)]⟩) (T1:=⟨O,[(n,15,true),(A.length,2,true)]⟩) (es:=A) (es2:= [p]) (k:=1) (n:=A.length) (bn:=true) (by rw [hs,e1];simp [cE]) hx (by simp only [List.length_cons,List.length_nil];omega)
def pC (m:MsgS):List TV:= [.val (.int .i64 m.k),.val (.int .i64 m.op.n),.val (.int .i64 m.op.h),.val (.int .u32 m.op.i),if m.op.l.length=0 then uC else .vec 2 m.op.l .none,.vec 2 m.u.w .none,.val (.int .i64 m.u.o),.vec 1 m.u.x .none,.val (.int .u32 m.u.h),.val (.int .i64 m.u.m),.val (.bool m.u.hm),.vec 2 m.u.n .none,.val (.int .i64 m.c),.val (.int .i64 m.s),.vec 1 m.d .none]
theorem VF {m:MsgS}(hm:MsWf m)(f g:Nat→Option Nat):aB f g (pC m)=pC m:=by
 have h1:(if m.op.l.length=0 then uC else TV.vec 2 m.op.l .none).ren f g=if m.op.l.length=0 then uC else .vec 2 m.op.l .none:=by
  split
  ·rfl
  ·simp only [TV.ren,CpWf.ren hm.1,Tok.ren]
 simp only [pC,aB,h1,TV.ren,hm.2.1.1.ren,hm.2.1.2.1.ren,hm.2.1.2.2.ren,hm.2.2.ren,Tok.ren]
theorem WO (m:MsgS):TVleL (pC m) m.cells:=by
 refine ⟨.refl _,.refl _,.refl _,.refl _,?_,.refl _,.refl _,.refl _,.refl _,.refl _,.refl _,.refl _,.refl _,.refl _,.refl _,trivial⟩
 split
 ·rename_i h
  rw [List.length_eq_zero_iff.1 h];exact .nil 2
 ·exact .refl _
theorem vw {l:List MsgS}(h:jh l)(f g:Nat→Option Nat):bm f g (l.map pC)=l.map pC:=by
 induction l with
 |nil=>rfl
 |cons M l ih=>rw [map_cons,bm,ih (λm hm=>h m (mem_cons_of_mem _ hm)),VF (h M mem_cons_self)]
theorem wQ {m:MsgS}(hm:MsWf m){l A:Bs}(hl0:∀f g,bm f g l=l)(hA:∀f g,bm f g A=A)(n:Nat)(j:Int){ln:Bool}(hln:ln=decide (m.op.l.length=0)):dD prog ah (VD m l A n j ln (aA prog lz 2)):=bL λp hp=>by
 obtain rfl:=mem_singleton.1 hp
 have hmr:∀f g,aB f g m.cells=m.cells:=hm.ren
 obtain ⟨⟨ps,hl,hB,hn⟩,hu,hd⟩:=hm
 have hll:m.op.l.length=ps.length:=by rw [hl,length_map]
 refine ce λK hK=> ?_
 have hren:∀k f g,bm f g ((ps.take k).map bS)=(ps.take k).map bS:=λk f g=>fY f g λp hp=>hB p (mem_of_mem_take hp)
 refine dW (f:=lz) (id:=2) (by kernel_rfl) 65 Ag (λi:Nat=>ps.length-i) (λi:Nat=>wP l A n j m.op.l i) (λi=>⟨[.cells m.cells,yD m (qr ((ps.take i).map bS))],mW n ((ps.take i).map bS)⟩) (λi=>i≤ps.length) 2 2 (λi _=>⟨le_refl _,NG _ _⟩)
  (λe vs T=>e=.normal∧vs=wP l A n j m.op.l m.op.l.length∧T=⟨[.cells m.cells,yD m (qr m.op.l)],mW n m.op.l⟩) (λi hi=> ?_) 0 (zero_le _) K ?_
 ·by_cases hlt:i<ps.length
  ·have hat:m.op.l[((i:Nat):Int).toNat]?=some (bS ps[i]):=by rw [hl,toNat_natCast,getElem?_map,getElem?_eq_getElem hlt];rfl
   have ht:ps.take (i+1)=ps.take i++ [ps[i]]:=by rw [take_add_one,getElem?_eq_getElem hlt];rfl
   have hjl:((ps.take i).map bS).length=i:=by rw [length_map,length_take];omega
   have hm1:(ps.take (i+1)).map bS=(ps.take i).map bS++ [bS ps[i]]:=by rw [ht,map_append];rfl
   refine cg ag ac am ai (K5 m l A ((ps.take i).map bS++ [bS ps[i]]) n 1 (((ps.take i).map bS).length+1) j i ps[i].1 ps[i].2 (qr ((ps.take i).map bS)) (mW n ((ps.take i).map bS)) [(n,15,true),(((ps.take i).map bS).length+1,2,true)] _) ?_
   refine aU (decide_eq_true (by rw [hll];omega)) ⟨NE rfl rfl (by omega) hat,WN (A:=(ps.take i).map bS) (p:=bS ps[i]) rfl rfl (by rw [hjl];omega),rfl,rfl,i+1,hlt,by show ps.length-(i+1)<ps.length-i;omega,.inr ⟨?_,?_⟩⟩
   ·have e1:qr ((ps.take (i+1)).map bS)=.vec 2 ((ps.take i).map bS++ [bS ps[i]]) (.tail 1 (((ps.take i).map bS).length+1)):=by
     unfold qr;rw [hm1,if_neg (by simp)];simp
    have e2:mW n ((ps.take (i+1)).map bS)= [(n,15,true),(((ps.take i).map bS).length+1,2,true)]:=by
     unfold mW;rw [hm1,if_neg (by simp)];simp
    have e3:(qr ((ps.take (i+1)).map bS)).ren (ax 2) (ax 2)=qr ((ps.take (i+1)).map bS):=by
     rw [e1]
     simp only [TV.ren,←hm1,hren,Tok.ren];rfl
    show VT.keep _ 2 2=⟨[.cells m.cells,yD m (qr ((ps.take (i+1)).map bS))],mW n ((ps.take (i+1)).map bS)⟩
    rw [e2,←e1]
    show VT.keep ⟨[.cells m.cells,yD m (qr ((ps.take (i+1)).map bS)),_],_⟩ 2 2=_
    simp only [VT.keep,List.take_succ_cons,take_zero,map_cons,map_nil,VO.ren,hmr,yD,aB,TV.ren,e3,hd.ren,Tok.ren,List.take_nil]
   ·simp only [aB,TV.ren,hl0,hA,CpWf.ren ⟨ps,hl,hB,hn⟩,Tok.ren]
    rw [vp hlt hn]
    rfl
  ·have hj2:i=ps.length:=by omega
   refine cg ag ac am ai (K5 m l A [] n 0 0 j i 0 [] (qr ((ps.take i).map bS)) (mW n ((ps.take i).map bS)) [] _) ?_
   exact aO (decide_eq_false (by rw [hll];omega)) ⟨rfl,rfl,rfl,by rw [hj2];simp only [wP,hll],by
    have e:(ps.take i).map bS=m.op.l:=by rw [hj2,take_length,hl]
    rw [e];rfl⟩
 ·rintro e vs T ⟨rfl,rfl,rfl⟩
  subst hln
  unfold VC at hK
  unfold qr mW
  by_cases h0:m.op.l.length=0
  ·rw [decide_eq_true h0] at hK
   rw [if_pos h0,if_pos h0]
   exact hK
  ·rw [decide_eq_false h0] at hK
   rw [if_neg h0,if_neg h0]
   exact hK
theorem EK (objs:List VO)(tl:fR)(A:Bs)(c:List TV)(h:A.length≤64000000):br prog ah 0 ⟨objs,(A.length,15,true)::tl⟩ (.call ⟨.builtin .append,#[.tmp 59,.tmp 61],#[36,36]⟩) [(59,.vec 15 A (.tail 0 A.length)),(61,.vec 15 [c] .full)] (.vec 15 (A++ [c]) (.tail 0 (A.length+1))) ⟨objs,(A.length+1,15,true)::tl⟩:=by
  obtain ⟨inf,z,i1,i2,i3,i4,i5⟩:=EH
  have h1:=fb (inf:=inf) (P:=prog) (G:=ah) (ro:=0) (T:=⟨objs,(A.length,15,true)::tl⟩) (T1:=⟨objs,(A.length,15,true)::tl⟩) (t:=36) (tx:=36) (s:=.tmp 59) (x:=.tmp 61) (l:= [(59,.vec 15 A (.tail 0 A.length)),(61,.vec 15 [c] .full)]) (es:=A) (es2:= [c]) (k:=0) (n:=A.length) (bn:=true) underlying36 i1 i4 (by rw [i2];exact i5) (by rw [i2];decide) (by kernel_rfl)
    (by rw [i2];simp [aL,dT,cE]) (by rw [i2];rfl)
    (by have h1:=i3
        have h2:=Nat.mul_le_mul (show A.length+ [c].length≤64000001 by simp only [List.length_cons,List.length_nil];omega) h1
        omega)
  rw [i2] at h1
  exact h1
def K6 (L:List MsgS)(j:Nat)(e:Exit)(vs:List TV)(on:Nat)(tl:fR)(D:List Nat)(m:Nat):Prop:=D= []∧m=65∧match e with
 | .normal=>j<L.length∧aB (ax 0) (ax 1) vs=qI (L.map MsgS.cells) ((L.take (j+1)).map pC) (j+1) (j+1:Nat)∧tl.take 1= [(j+1,15,true)]
 | .exit i=>i=0∧vs=qI (L.map MsgS.cells) (L.map pC) (L.map MsgS.cells).length (L.map MsgS.cells).length∧on=0∧tl= [((L.map MsgS.cells).length,15,true)]
 |_=>False
theorem EL (L:List MsgS)(j:Nat)(e:Exit)(σ:List TV)(T:VT)(D:List Nat)(h:de wO (λe vs T D m=>K6 L j e vs T.objs.length T.tails D m) e σ T D):de wO (Hq 65 0 (λj:Nat=>L.length-j) (λj:Nat=>qI (L.map MsgS.cells) ((L.take j).map pC) j j) (λj=>⟨[],[(j,15,true)]⟩) (λj=>j≤L.length) 0 1 j (λe vs T=>e=.normal∧vs=qI (L.map MsgS.cells) (L.map pC) (L.map MsgS.cells).length (L.map MsgS.cells).length∧T=⟨[],[((L.map MsgS.cells).length,15,true)]⟩)) e σ T D:=by
 obtain ⟨h1,h2,h3⟩:=h
 refine ⟨h1,h2,?_⟩
 cases e
 case normal=>
  obtain ⟨hlt,a1,a2⟩:=h3
  refine ⟨j+1,hlt,by show L.length-(j+1)<L.length-j;omega,.inr ⟨?_,a1⟩⟩
  simp only [VT.keep,take_zero,map_nil,a2]
 case exit i=>
  obtain ⟨rfl,a1,a2,a3⟩:=h3
  refine ⟨rfl,a1,?_⟩
  obtain ⟨objs,tails⟩:=T
  simp only at a2 a3
  rw [List.length_eq_zero_iff.1 a2,a3]
 all_goals exact h3.elim
theorem RU (hL:jh L)(hn:L.length≤64000000):dD prog ah (VB (L.map MsgS.cells) (L.map pC) (aA prog lz 0)):=bL λp hp=>by
 obtain rfl:=mem_singleton.1 hp
 have hLr:∀f g,bm f g (L.map MsgS.cells)=L.map MsgS.cells:=gN hL
 refine ce λK hK=> ?_
 refine dW (f:=lz) (id:=0) (by kernel_rfl) 65 wO (λj:Nat=>L.length-j) (λj:Nat=>qI (L.map MsgS.cells) ((L.take j).map pC) j j) (λj=>⟨[],[(j,15,true)]⟩) (λj=>j≤L.length) 0 1 (λ_ _=>⟨le_refl _,le_refl _⟩)
  (λe vs T=>e=.normal∧vs=qI (L.map MsgS.cells) (L.map pC) (L.map MsgS.cells).length (L.map MsgS.cells).length∧T=⟨[],[((L.map MsgS.cells).length,15,true)]⟩) (λj hj=> ?_) 0 (zero_le _) K ?_
 ·by_cases hlt:j<L.length
  ·have hat:(L.map MsgS.cells)[((j:Nat):Int).toNat]?=some L[j].cells:=by rw [toNat_natCast,getElem?_map,getElem?_eq_getElem hlt];rfl
   have hm:=hL _ (getElem_mem hlt)
   have ht:L.take (j+1)=L.take j++ [L[j]]:=by rw [take_add_one,getElem?_eq_getElem hlt];rfl
   have hjl:((L.take j).map pC).length=j:=by rw [length_map,length_take];omega
   have hm1:(L.take (j+1)).map pC=(L.take j).map pC++ [pC L[j]]:=by rw [ht,map_append];rfl
   have hA:=vw (l:=L.take j) (λm hm=>hL m (mem_of_mem_take hm))
   have hA2:=vw (l:=L.take (j+1)) (λm hm=>hL m (mem_of_mem_take hm))
   have hnr:∀x:TV,(x.ren (ax 0) (ax 1)=if L[j].op.l.length=0 then uC else .vec 2 L[j].op.l .none)→bm (ax 0) (ax 1) ((L.take j).map pC++ [[.val (.int .i64 L[j].k),.val (.int .i64 L[j].op.n),.val (.int .i64 L[j].op.h),.val (.int .u32 L[j].op.i),x,.vec 2 L[j].u.w .none,.val (.int .i64 L[j].u.o),.vec 1 L[j].u.x .none,.val (.int .u32 L[j].u.h),.val (.int .i64 L[j].u.m),.val (.bool L[j].u.hm),.vec 2 L[j].u.n .none,.val (.int .i64 L[j].c),.val (.int .i64 L[j].s),.vec 1 L[j].d .none]])=(L.take (j+1)).map pC:=λx hx=>by
    rw [hm1,nj,map_append,←nj,hA]
    simp only [map_cons,map_nil,aB,hx,TV.ren,hm.2.1.1.ren,hm.2.1.2.1.ren,hm.2.1.2.2.ren,hm.2.2.ren,Tok.ren,pC]
   have fin:∀(x:TV) (on:Nat) (tl:fR),(x.ren (ax 0) (ax 1)=if L[j].op.l.length=0 then uC else .vec 2 L[j].op.l .none)→K6 L j .normal [.vec 15 ((L.take j).map pC++ [[.val (.int .i64 L[j].k),.val (.int .i64 L[j].op.n),.val (.int .i64 L[j].op.h),.val (.int .u32 L[j].op.i),x,.vec 2 L[j].u.w .none,.val (.int .i64 L[j].u.o),.vec 1 L[j].u.x .none,.val (.int .u32 L[j].u.h),.val (.int .i64 L[j].u.m),.val (.bool L[j].u.hm),.vec 2 L[j].u.n .none,.val (.int .i64 L[j].c),.val (.int .i64 L[j].s),.vec 1 L[j].d .none]]) (.tail 0 (j+1)),.vec 15 (L.map MsgS.cells) .none,.val (.int .i64 (L.map MsgS.cells).length),.val (.int .i64 (wrap i64 (((j:Nat):Int)+(1:Int))))] on ((j+1,15,true)::tl) [] 65:=λx on tl hx=>by
    refine ⟨rfl,rfl,hlt,?_,rfl⟩
    simp only [aB,TV.ren,hnr x hx,hLr,Tok.ren]
    rw [vp hlt hn]
    rfl
   by_cases h0:L[j].op.l.length=0
   ·have h:=EK [.cells L[j].cells,.cells [.val (.int .i64 L[j].k),.val (.int .i64 L[j].op.n),.val (.int .i64 L[j].op.h),.val (.int .u32 L[j].op.i),uC,.vec 2 L[j].u.w .none,.val (.int .i64 L[j].u.o),.vec 1 L[j].u.x .none,.val (.int .u32 L[j].u.h),.val (.int .i64 L[j].u.m),.val (.bool L[j].u.hm),.vec 2 L[j].u.n .none,.val (.int .i64 L[j].c),.val (.int .i64 L[j].s),.vec 1 L[j].d .none]] [] ((L.take j).map pC) [.val (.int .i64 L[j].k),.val (.int .i64 L[j].op.n),.val (.int .i64 L[j].op.h),.val (.int .u32 L[j].op.i),uC,.vec 2 L[j].u.w .none,.val (.int .i64 L[j].u.o),.vec 1 L[j].u.x .none,.val (.int .u32 L[j].u.h),.val (.int .i64 L[j].u.m),.val (.bool L[j].u.hm),.vec 2 L[j].u.n .none,.val (.int .i64 L[j].c),.val (.int .i64 L[j].s),.vec 1 L[j].d .none] (by rw [hjl];omega)
    rw [hjl] at h
    refine VWx.mono (cg ag ac am (wQ hm hLr hA j j (decide_eq_true h0).symm) (EG L[j] (L.map MsgS.cells) ((L.take j).map pC) _ j (j+1) j true [(j+1,15,true)] (K6 L j)) (aU (decide_eq_true (by rw [length_map];omega)) ⟨EJ rfl rfl (by omega) hat,rfl,⟨rfl,rfl,rfl,trivial,rfl,rfl,rfl⟩,h,fin uC _ [] (by rw [if_pos h0];rfl)⟩)) (EL L j)
   ·have h:=EK [.cells L[j].cells,.cells [.val (.int .i64 L[j].k),.val (.int .i64 L[j].op.n),.val (.int .i64 L[j].op.h),.val (.int .u32 L[j].op.i),.vec 2 L[j].op.l (.tail 1 L[j].op.l.length),.vec 2 L[j].u.w .none,.val (.int .i64 L[j].u.o),.vec 1 L[j].u.x .none,.val (.int .u32 L[j].u.h),.val (.int .i64 L[j].u.m),.val (.bool L[j].u.hm),.vec 2 L[j].u.n .none,.val (.int .i64 L[j].c),.val (.int .i64 L[j].s),.vec 1 L[j].d .none]] [(L[j].op.l.length,2,true)] ((L.take j).map pC) [.val (.int .i64 L[j].k),.val (.int .i64 L[j].op.n),.val (.int .i64 L[j].op.h),.val (.int .u32 L[j].op.i),.vec 2 L[j].op.l (.tail 1 L[j].op.l.length),.vec 2 L[j].u.w .none,.val (.int .i64 L[j].u.o),.vec 1 L[j].u.x .none,.val (.int .u32 L[j].u.h),.val (.int .i64 L[j].u.m),.val (.bool L[j].u.hm),.vec 2 L[j].u.n .none,.val (.int .i64 L[j].c),.val (.int .i64 L[j].s),.vec 1 L[j].d .none] (by rw [hjl];omega)
    rw [hjl] at h
    refine VWx.mono (cg ag ac am (wQ hm hLr hA j j (decide_eq_false h0).symm) (EG L[j] (L.map MsgS.cells) ((L.take j).map pC) _ j (j+1) j false [(j+1,15,true),(L[j].op.l.length,2,true)] (K6 L j)) (aU (decide_eq_true (by rw [length_map];omega)) ⟨EJ rfl rfl (by omega) hat,rfl,⟨rfl,rfl,rfl,trivial,rfl,rfl,rfl⟩,h,fin (.vec 2 L[j].op.l (.tail 1 L[j].op.l.length)) _ [_] (by rw [if_neg h0];simp only [TV.ren,CpWf.ren hm.1];rfl)⟩)) (EL L j)
  ·have hj2:j=L.length:=by omega
   subst hj2
   refine VWx.mono (cg ag ac am (wQ Iy hLr (vw (l:=L.take L.length) (λm hm=>hL m (mem_of_mem_take hm))) L.length L.length rfl) (EG m0 (L.map MsgS.cells) ((L.take L.length).map pC) [] L.length 0 L.length true [] (K6 L L.length)) (aO (decide_eq_false (by rw [length_map];omega)) ⟨rfl,rfl,rfl,?_,rfl,by rw [length_map]⟩)) (EL L L.length)
   show qI (L.map MsgS.cells) ((L.take L.length).map pC) L.length L.length=_
   rw [take_length,length_map]
 ·rintro e vs T ⟨rfl,rfl,rfl⟩
  exact hK
theorem VG (hL:jh L)(hn:L.length≤64000000):VCx prog ah 0 lz [.vec 15 (L.map MsgS.cells) .none] ⟨[],[]⟩ λy T'=>y=.vec 15 (L.map MsgS.cells) .none∧T'=⟨[],[]⟩:=by
 refine VCx.toLe (Q:=λT'=>T'=⟨[],[]⟩) (VCx.keepQ 0 0 (le_refl _) (le_refl _) (aj ag ac am (RU hL hn) (WM _ (L.map pC) _) ⟨rfl,⟨rfl,rfl,rfl,⟨rfl,trivial⟩,rfl,rfl,rfl⟩,?_,rfl⟩))
 simp only [TV.ren,vw hL]
 exact TVle.rows 15 pC MsgS.cells _ λm _=>WO m
end
--bumped 32
def IC (o:VO)(pas:Int):Prop:=o=cT pas []
def wR (ro p:Nat)(o:VO)(b:Bs)(o2:VO)(L:Bs)(c s:Int)(d:Bs):Prop:=∃(pas:Int) (w:Bs),ro≤p∧o=cT pas w∧IsB (w++b)∧o2=cT pas (w++b)∧L=(gm w b pas).map MsgS.cells∧c=ep (w++b) pas∧s=dv (w++b) pas∧d=dn (w++b) pas
def VH (ro p:Nat)(o:VO)(m:Int):Prop:=∃(pas:Int) (w:Bs),ro≤p∧IsB w∧o=cT pas w∧m=(aW w pas).2.1.length
def ID (ro p:Nat)(o:VO)(c s:Int)(d:Bs):Prop:=∃(pas:Int) (w:Bs),ro≤p∧IsB w∧o=cT pas w∧c=ep w pas∧s=dv w pas∧d=dn w pas
def VI (ro p:Nat)(o:VO)(m:Int):Prop:=∃(pas:Int) (w:Bs),ro≤p∧IsB w∧o=cT pas w∧m=(cn w pas).length
def Ah (l:Bs):Prop:=∃L:List MsgS,jh L∧L.length≤64000000∧l=L.map MsgS.cells
def NH (l l':Bs):Prop:=l=l'∧Ah l
def Bh (o:VO):be:=λ_ ys T K=>match ys with
 |[.val (.int .i64 pas)]=>IC o pas∧K (.ptr T.objs.length 0) {T with objs:=T.objs++ [o]}
 |_=>aR 84 default ys
def yI (o2:VO)(L:Bs)(c s:Int)(d:Bs):be:=λro ys T K=>match ys with
 |[.ptr p 0,.vec 1 b _]=>match T.objs[p]? with
  |some o=>wR ro p o b o2 L c s d∧K (.tup [.vec 15 L .none,.agg [.val (.int .i64 c),.val (.int .i64 s),.vec 1 d .none]]) {T with objs:=T.objs.set p o2}
  |none=>aR 85 default ys
 |_=>aR 84 default ys
def K7 (m:Int):be:=λro ys T K=>match ys with
 |[.ptr p 0]=>match T.objs[p]? with
  |some o=>VH ro p o m∧K (.val (.int .i64 m)) T
  |none=>aR 85 default ys
 |_=>aR 84 default ys
def K8 (m:Int):be:=λro ys T K=>match ys with
 |[.ptr p 0]=>match T.objs[p]? with
  |some o=>VI ro p o m∧K (.val (.int .i64 m)) T
  |none=>aR 85 default ys
 |_=>aR 84 default ys
def yJ (c s:Int)(d:Bs):be:=λro ys T K=>match ys with
 |[.ptr p 0]=>match T.objs[p]? with
  |some o=>ID ro p o c s d∧K (.agg [.val (.int .i64 c),.val (.int .i64 s),.vec 1 d .none]) T
  |none=>aR 85 default ys
 |_=>aR 84 default ys
def EM:be:=λ_ ys T K=>match ys with
 |[.vec 15 l _,.vec 15 l' _]=>NH l l'∧K (.val (.bool true)) T
 |_=>aR 83 default ys
def EN:be:=λ_ ys T K=>match ys with
 |[.vec 15 l _]=>Ah l∧K (.vec 15 l .none) T
 |_=>aR 83 default ys
abbrev vy:=8
--bumped 32
section
open Go Go.RowKit
end
theorem RV (pas:Int):TVleL [.val (.bool true),.val (.int .i64 pas),.val (.slice none 0 0),.val (.int .i64 0),.val (.int .i64 0),.val (.slice none 0 0),.val (.int .i64 0)] (vV pas []):=
 ⟨.refl _,.refl _,.nil 1,.refl _,.refl _,.nil 1,.refl _,trivial⟩
theorem VJ (pas:Int):VCx prog ah 0 uy [.val (.int .i64 pas)] ⟨[],[]⟩ λx T'=>x=.ptr 0 0∧T'=⟨[cT pas []],[]⟩:=by
 refine VCx.cellsLe 0 (aj ag ac am ai (Vb pas _) ⟨_,vV pas [],rfl,RV pas,rfl,rfl⟩)
theorem EO (o:VO):∀ro ys T K,Bh o ro ys T K→VCx prog aS ro uy ys T K:=by
 intro ro ys T K hw
 unfold Bh at hw
 split at hw
 ·rename_i pas
  obtain ⟨rfl,hk⟩:=hw
  refine VCx.anyG ((VCx.lift (T:=T) [] [] aP List.nodup_nil List.nodup_nil (by simp) (by simp) (by simp) rfl (by rw [VT.give_nil];exact VJ pas) (λ_ _ _=>⟨zero_le _,zero_le _⟩)).mono ?_)
  rintro z T' ⟨x,T'',⟨rfl,rfl⟩,rfl,rfl⟩
  rw [VT.back_nil]
  simp only [map_cons,map_nil,ew .nil,append_nil]
  simpa [TV.ren,bd] using hk
 ·exact hw.elim
theorem uD (o2:VO)(L:Bs)(c s:Int)(d:Bs):∀ro ys T K,yI o2 L c s d ro ys T K→VCx prog aS ro nR ys T K:=by
 intro ro ys T K hw
 unfold yI at hw
 split at hw
 ·rename_i p b tok
  split at hw
  ·rename_i o ho
   obtain ⟨⟨pas,w,hro,rfl,hw2,rfl,rfl,rfl,rfl,rfl⟩,hk⟩:=hw
   have hw1:=pE hw2
   refine VCx.at1 (Q:=λx o' l'=>x=rD w b pas∧o'=cT pas (w++b)∧l'= []) bH hro ho rfl (ew hw1 _ _) (ys1:= [.ptr 0 0,.vec 1 b (tok.ren (bb [p]) (bb []))]) ?_ ((Vg hw2 _).mono λx T' ⟨h1,h2⟩=>⟨_,_,h2,h1,rfl,rfl⟩) ?_
   ·simp [aB,TV.ren,bb,(qo hw2).ren]
   ·rintro x o' l' ⟨rfl,rfl,rfl⟩
    rw [Gw hw2,ew hw2]
    simp only [map_nil,append_nil]
    exact hk
  ·exact hw.elim
 ·exact hw.elim
section
variable {w:Bs}{pas:Int}
theorem K9:VCx prog ah 0 yA [.ptr 0 0] ⟨[cT pas w],[]⟩ λx T'=>x=.val (.int .i64 (aW w pas).2.1.length)∧T'=⟨[cT pas w],[]⟩:=
 aj ag ac am ai (RK pas _ _ _ .dead _ _ _) ⟨rfl,rfl⟩
theorem GB:VCx prog ah 0 sF [.ptr 0 0] ⟨[cT pas w],[]⟩ λx T'=>x=.val (.int .i64 (cn w pas).length)∧T'=⟨[cT pas w],[]⟩:=
 aj ag ac am ai (NC pas _ _ _ _ _ _) ⟨rfl,rfl⟩
theorem VK (hw:IsB w):VCx prog ah 0 vU [.ptr 0 0] ⟨[cT pas w],[]⟩ λx T'=>x=vW w pas∧T'=⟨[cT pas w],[]⟩:=by
 refine VCx.keepQ 1 0 (le_refl _) (le_refl _) (aj ag ac (aQ λp hp=>by obtain rfl:=mem_singleton.1 hp;exact lp) ai (WB pas _ _ _ _ _ _) ⟨jH hw,Ad hw _ _,?_⟩)
 have:=ew (pas:=pas) hw (ax 1) (ax 0)
 show (⟨[(cT pas w).ren _ _],_⟩:VT)=_
 rw [this];rfl
end
theorem wS {f:FuncId}{ro p:Nat}{o:VO}{y:TV}{T:VT}{K:TV→VT→Prop}(hro:ro≤p)(ho:T.objs[p]?=some o)(hl:o.live=true)(hr:∀f g,o.ren f g=o)(hy:∀f g,y.ren f g=y)(h:VCx prog ah 0 f [.ptr 0 0] ⟨[o],[]⟩ λx T'=>x=y∧T'=⟨[o],[]⟩)(hk:K y T):VCx prog aS ro f [.ptr p 0] T K:=by
 refine VCx.at1 (Q:=λx o' l'=>x=y∧o'=o∧l'= []) bH hro ho hl (hr _ _) (ys1:= [.ptr 0 0]) (by simp [aB,TV.ren,bb]) ((VCx.anyG h).mono λx T' ⟨h1,h2⟩=>⟨_,_,h2,h1,rfl,rfl⟩) ?_
 rintro x o' l' ⟨rfl,rfl,rfl⟩
 rw [hy,hr,jC ho]
 simpa using hk
theorem La (m:Int):∀ro ys T K,K7 m ro ys T K→VCx prog aS ro yA ys T K:=by
 intro ro ys T K hw
 unfold K7 at hw
 split at hw
 ·split at hw
  ·rename_i o ho
   obtain ⟨⟨pas,w,hro,hw,rfl,rfl⟩,hk⟩:=hw
   exact wS hro ho rfl (ew hw) (λ_ _=>rfl) K9 hk
  ·exact hw.elim
 ·exact hw.elim
theorem Lb (m:Int):∀ro ys T K,K8 m ro ys T K→VCx prog aS ro sF ys T K:=by
 intro ro ys T K hw
 unfold K8 at hw
 split at hw
 ·split at hw
  ·rename_i o ho
   obtain ⟨⟨pas,w,hro,hw,rfl,rfl⟩,hk⟩:=hw
   exact wS hro ho rfl (ew hw) (λ_ _=>rfl) GB hk
  ·exact hw.elim
 ·exact hw.elim
theorem yK (c s:Int)(d:Bs):∀ro ys T K,yJ c s d ro ys T K→VCx prog aS ro vU ys T K:=by
 intro ro ys T K hw
 unfold yJ at hw
 split at hw
 ·split at hw
  ·rename_i o ho
   obtain ⟨⟨pas,w,hro,hw,rfl,rfl,rfl,rfl⟩,hk⟩:=hw
   exact wS hro ho rfl (ew hw) (Ad hw) (VK hw) hk
  ·exact hw.elim
 ·exact hw.elim
theorem EP:∀ro ys T K,EM ro ys T K→VCx prog aS ro qp ys T K:=by
 intro ro ys T K hw
 unfold EM at hw
 split at hw
 ·obtain ⟨⟨rfl,L,hL,hn,rfl⟩,hk⟩:=hw
  exact VCx.loosePure bH (VCx.anyG (VE hL hn)) (by simp [cA]) (by simp only [aB,TV.ren,gN hL,Tok.ren]) (λ_ _=>rfl) hk
 ·exact hw.elim
theorem EQ:∀ro ys T K,EN ro ys T K→VCx prog aS ro lz ys T K:=by
 intro ro ys T K hw
 unfold EN at hw
 split at hw
 ·obtain ⟨⟨L,hL,hn,rfl⟩,hk⟩:=hw
  exact VCx.loosePure bH (VCx.anyG (VG hL hn)) (by simp [cA]) (by simp only [aB,TV.ren,gN hL,Tok.ren]) (λ_ _=>by simp only [TV.ren,gN hL,Tok.ren]) hk
 ·exact hw.elim
theorem GC {w:Bs}{pas:Int}(hw:IsB w):(cn w pas).length≤w.length:=by
 have:=(mf pas _ w (le_refl _) hw).2.1
 unfold cn;omega
section
variable {b:Bs}{zs:List Int}{pas:Int}
theorem Lc {G:aV}{x i:Operand}{l:List (Nat × TV)}{es:Bs}{tok:Tok}{k:IntKind}{z:Int}(hx:aL G l x=.vec 1 es tok)(hz:aL G l i=.val (.int k z))(h0:0≤z)(he:z.toNat≤es.length):ba prog G (.slice 22 x none (some i) none) l (.vec 1 (es.take z.toNat) .none):=by
 obtain ⟨inf,i1,i2,_,_⟩:=dj
 have h:=wi (P:=prog) (G:=G) (t:=22) (x:=x) (i:=i) (l:=l) (inf:=inf) (es:=es) (tok:=tok) underlying22 i1 (by rw [i2];exact hx) hz h0 he
 rw [i2] at h;exact h
theorem Ld {G:aV}{x i:Operand}{l:List (Nat × TV)}{es:Bs}{tok:Tok}{k:IntKind}{z:Int}(hx:aL G l x=.vec 1 es tok)(hz:aL G l i=.val (.int k z))(h0:0≤z)(he:z.toNat≤es.length):ba prog G (.slice 22 x (some i) none none) l (.vec 1 (es.drop z.toNat) tok):=by
 obtain ⟨inf,i1,i2,_,_⟩:=dj
 have h:=wj (P:=prog) (G:=G) (t:=22) (x:=x) (i:=i) (l:=l) (inf:=inf) (es:=es) (tok:=tok) underlying22 i1 (by rw [i2];exact hx) hz h0 he
 rw [i2] at h;exact h
end
--bumped 32
def im:Bs:=bV (List.replicate 16 255++ [0,19,4])
abbrev Le:=36
abbrev qt:=20
def VL (ro p:Nat)(o:VO)(n:Int):Prop:=∃(pas:Int) (w:Bs),ro≤p∧IsB w∧w.length<19∧o=cT pas w∧n=19-(w.length:Int)
def Pe:be:=λ_ ys T K=>match ys with
 |[]=>K (.vec 1 im .none) T
 |_=>aR 84 default ys
def Pf (n:Int):be:=λro ys T K=>match ys with
 |[.ptr p 0]=>match T.objs[p]? with
  |some o=>VL ro p o n∧K (.val (.int .i64 n)) T
  |none=>aR 85 default ys
 |_=>aR 84 default ys
def Pg (o2 o3:VO)(M:List TV):be:=λro ys T K=>match ys with
 |[.ptr 0 0,.vec 1 b _]=>match T.objs with
  |[o]=>wR ro 0 o b o2 [] 0 0 []∧K (.tup [.vec 15 [] .none,.agg [.val (.int .i64 0),.val (.int .i64 0),.vec 1 [] .none]]) {T with objs:=T.objs.set 0 o2}
  |[o,_]=>wR ro 0 o b o3 [M] 0 0 []∧K (.tup [.vec 15 [M] .none,.agg [.val (.int .i64 0),.val (.int .i64 0),.vec 1 [] .none]]) {T with objs:=T.objs.set 0 o3}
  |_=>aR 85 default ys
 |_=>aR 84 default ys
theorem RX (pas n:Int)(d:TV)(a:Bs)(Q:TV→VT→Prop):au prog ah (aI [(26,λ_ _ _ _=>False)]) (bc [(999998,.dead,none)]) 300 aG 0 qt [.ptr 0 0] (bC (.cells [.val (.bool true),.val (.int .i64 pas),.vec 1 a .none,.val (.int .i64 0),.val (.int .i64 0),d,.val (.int .i64 n)])) Q=
 (bif decide ((↑(length a):Int)<(19:Int))
 then Q (ae (wrap i64 ((19:Int)-(↑(length a):Int)))) ⟨[(.cells [aF,(ae pas),(an a),aE,aE,d,(ae n)])],[]⟩
 else False):=by kernel_rfl
theorem WP (k1 k2:Bs)(M:List TV)(n:Int)(o0 o2 o3:VO)(Q:TV→VT→Prop):au prog aS (aI [(uy,Bh o0),(Le,Pe),(nR,Pg o2 o3 M),(qt,Pf n)]) (bc [(999998,.dead,none),(11,.vec 1 k1 .none,none),(20,.vec 1 k2 .none,none)]) 300 aG 0 vy [] ap Q=
 (IC (o0) 0∧
 (ba prog (λkk=>(bif beq kk (0:Nat) then (.some iC) else .none)) (.slice 22 (.tmp 10) .none (.some (.const (.int .i64 9))) .none) [(10,(an im))] (an k1)∧
 (wR 0 0 (o0) (k1) (o2) [] 0 0 []∧
 (VL 0 0 (o2) (n)∧
 (ba prog (λkk=>(bif beq kk (0:Nat) then (.some iC) else .none)) (.slice 22 (.tmp 19) (.some (.const (.int .i64 9))) .none .none) [(19,(an im))] (an k2)∧
 (wR 0 0 (o2) (k2) (o3) [(M)] 0 0 []∧
 (bif aq eql (k6 n (10:Int))
 then Q aF (Sn o3)
 else Q av (Sn o3)))))))):=by kernel_rfl
abbrev ER:=21
abbrev Lf:=22
abbrev Lg:=23
abbrev Lh:=24
abbrev mg:=18
abbrev nI:=4
def sJ:be:=λ_ ys T K=>match ys with
 |[.vec 1 b _]=>IsB b∧bif cK b then K (.tup [.val (.int .i64 (bA b)),.val (.int .i64 (cU b)),cD 0 0 []]) T else K (.tup [.val (.int .i64 0),.val (.int .i64 0),cD 1 (ga b) (fH b)]) T
 |_=>aR 83 default ys
def uE:List Nat:= [2,0,3,9,10,11]
def uF (l:Bs)(n j:Int):List TV:= [.val (.bool false),.vec 1 l .none,.val (.int .i64 n),.vec 1 l .none,.val (.int .i64 l.length),.val (.int .i64 j)]
def NI (ro p:Nat)(o:VO)(b:Bs)(o2:VO)(L:Bs)(c s:Int)(d:Bs):Prop:=∃(pas:Int) (w:Bs),ro≤p∧o=iQ pas w∧IsB (w++b)∧o2=iQ pas (w++b)∧L=(gm w b pas).map MsgS.cells∧c=ep (w++b) pas∧s=dv (w++b) pas∧d=dn (w++b) pas
def jV (w:Bs)(pas:Int):Int:=match (aW w pas).2.2 with
 |some _=>0
 |none=>if ((aW w pas).2.1.length:Int)<19 then wrap i64 (19-((aW w pas).2.1.length:Int)) else wrap i64 ((bif cK (aW w pas).2.1 then bA (aW w pas).2.1 else 0)-((aW w pas).2.1.length:Int))
def VM (ro p:Nat)(o:VO)(n:Int):Prop:=∃(pas:Int) (w:Bs),ro≤p∧IsB w∧o=iQ pas w∧n=jV w pas
def NJ (ro p:Nat)(o:VO)(n:Int):Prop:=∃(pas:Int) (w:Bs),ro≤p∧IsB w∧o=cT pas w∧n=jV w pas
def NK (ro p:Nat)(o:VO):Prop:=∃(pas:Int) (w:Bs),ro≤p∧IsB w∧o=cT pas w
def VN (ro p:Nat)(o:VO):Prop:=∃(pas:Int) (w:Bs),ro≤p∧IsB w∧o=iQ pas w
def VP (ro p:Nat)(o o2:VO):Prop:=∃(pas:Int) (w:Bs),ro≤p∧IsB w∧o=cT pas w∧o2=cT pas []
def dL (b:Bs):List TV:= [.vec 1 b .none]
def kO:Nat→List Bs→Bool
 |_,[]=>true
 |n,b::l=> !decide (n+b.length>30000)&&kO (n+b.length) l
def uG (l:List Bs):Bool:=decide (l.length≤100)&&kO 0 l
def IE (l:Bs)(ok:Bool):Prop:=∃ls:List Bs,l=ls.map dL∧ls.length≤140737488355328∧(∀b∈ls,b.length≤140737488355328∧∀f g,bm f g b=b)∧ok=uG ls
def ES (o2:VO)(L:Bs)(c s:Int)(d:Bs):be:=λro ys T K=>match ys with
 |[.ptr p 0,.vec 1 b _]=>match T.objs[p]? with
  |some o=>NI ro p o b o2 L c s d∧K (.tup [.vec 15 L .none,.agg [.val (.int .i64 c),.val (.int .i64 s),.vec 1 d .none]]) {T with objs:=T.objs.set p o2}
  |none=>aR 85 default ys
 |_=>aR 84 default ys
def wT (n:Int):be:=λro ys T K=>match ys with
 |[.ptr p 0]=>match T.objs[p]? with
  |some o=>NJ ro p o n∧K (.val (.int .i64 n)) T
  |none=>aR 85 default ys
 |_=>aR 84 default ys
def ET (n:Int):be:=λro ys T K=>match ys with
 |[.ptr p 0]=>match T.objs[p]? with
  |some o=>VM ro p o n∧K (.val (.int .i64 n)) T
  |none=>aR 85 default ys
 |_=>aR 84 default ys
def IF:be:=λro ys T K=>match ys with
 |[.ptr p 0]=>match T.objs[p]? with
  |some o=>NK ro p o∧K (.ptr T.objs.length 0) {T with objs:=T.objs++ [o]}
  |none=>aR 85 default ys
 |_=>aR 84 default ys
def IG:be:=λro ys T K=>match ys with
 |[.ptr p 0]=>match T.objs[p]? with
  |some o=>VN ro p o∧K (.ptr T.objs.length 0) {T with objs:=T.objs++ [o]}
  |none=>aR 85 default ys
 |_=>aR 84 default ys
def II (o2:VO):be:=λro ys T K=>match ys with
 |[.ptr p 0]=>match T.objs[p]? with
  |some o=>VP ro p o o2∧K (.tup []) {T with objs:=T.objs.set p o2}
  |none=>aR 85 default ys
 |_=>aR 84 default ys
def Ai (ok:Bool):be:=λ_ ys T K=>match ys with
 |[.vec 1 l _]=>IE l ok∧K (.val (.bool ok)) T
 |_=>aR 84 default ys
def uH (ro p:Nat)(o:VO):Prop:=NK ro p o
def yL:VO→Int
 | .cells (_::_:: .vec _ b _::_)=>b.length
 |_=>0
def B8:VO→Int
 | .cells (_::_::_::_::_::_:: .val (.int _ n)::_)=>n
 |_=>0
def Ph:be:=λro ys T K=>match ys with
 |[.ptr p 0]=>match T.objs[p]? with
  |some o=>uH ro p o∧K (.val (.int .i64 (yL o))) T
  |none=>aR 85 default ys
 |_=>aR 84 default ys
def Pi:be:=λro ys T K=>match ys with
 |[.ptr p 0]=>match T.objs[p]? with
  |some o=>uH ro p o∧K (.val (.int .i64 (B8 o))) T
  |none=>aR 85 default ys
 |_=>aR 84 default ys
def uI:List Nat:= [6,2,7,8,35,36,37]
def nU (more l:Bs)(j:Int):List TV:= [.val (.bool false),.vec 1 more .none,.ptr 0 0,.ptr 1 0,.vec 1 l .none,.val (.int .i64 l.length),.val (.int .i64 j)]
def Xo (pas:Int):VO:=il pas (.val (.slice none 0 0)) 0 0 (.val (.slice none 0 0)) 0
theorem WQ (pas n s:Int)(a d:Bs)(Q:TV→VT→Prop):au prog aS (aI [(26,sJ)]) (bc [(999998,.dead,none)]) 300 aG 0 qt [.ptr 0 0] (bC (fk pas (.vec 1 a .none) 0 s (.vec 1 d .none) n)) Q=
 (bif decide ((↑(length a):Int)<(19:Int))
 then Q (ae (wrap i64 ((19:Int)-(↑(length a):Int)))) ⟨[(L4 pas a s d n)],[]⟩
 else (IsB (a)∧
 (bif cK a
 then Q (ae (wrap i64 (bA a-(↑(length a):Int)))) ⟨[(L4 pas a s d n),b8],[]⟩
 else Q (ae (wrap i64 ((0:Int)-(↑(length a):Int)))) ⟨[(L4 pas a s d n),(tO (ga a) (fH a))],[]⟩))):=by kernel_rfl
theorem VQ (pas n s:Int)(c:Nat)(a d:Bs)(Q:TV→VT→Prop):au prog aS aZ (bc [(999998,.dead,none)]) 300 aG 0 qt [.ptr 0 0] (bC (fk pas (.vec 1 a .none) (ofNat (c+1)) s (.vec 1 d .none) n)) Q=
Q aE ⟨[(Ht pas a (ofNat (c+(1:Nat))) s d n)],[]⟩:=by kernel_rfl
abbrev Pj (a:Bs):TV:=(ae (wrap i64 ((19:Int)-(↑(length a):Int))))
theorem WR (pas n s:Int)(a d:Bs)(Q:TV→VT→Prop):au prog ah (aI [(jU,sJ)]) (bc [(999998,.dead,none)]) 300 aG 0 ER [.ptr 0 0] (bC (il pas (.vec 1 a .none) 0 s (.vec 1 d .none) n)) Q=
 (IsB (a)∧
 (bif cK a
 then (bif decide ((↑(length a):Int)<(19:Int))
 then Q (Pj a) ⟨[(.cells [(ae pas),(an a),aE,(ae s),(an d),(ae n)]),b8],[]⟩
 else Q (ae (wrap i64 (bA a-(↑(length a):Int)))) ⟨[(.cells [(ae pas),(an a),aE,(ae s),(an d),(ae n)]),b8],[]⟩)
 else (bif decide ((↑(length a):Int)<(19:Int))
 then Q (Pj a) ⟨[(.cells [(ae pas),(an a),aE,(ae s),(an d),(ae n)]),(tO (ga a) (fH a))],[]⟩
 else Q (ae (wrap i64 ((0:Int)-(↑(length a):Int)))) ⟨[(.cells [(ae pas),(an a),aE,(ae s),(an d),(ae n)]),(tO (ga a) (fH a))],[]⟩))):=by kernel_rfl
theorem VS (pas n s:Int)(c:Nat)(a d:Bs)(Q:TV→VT→Prop):au prog ah (aI [(jU,sJ)]) (bc [(999998,.dead,none)]) 300 aG 0 ER [.ptr 0 0] (bC (il pas (.vec 1 a .none) (ofNat (c+1)) s (.vec 1 d .none) n)) Q=
 (IsB (a)∧
 (bif cK a
 then Q aE ⟨[(nK pas a (ofNat (c+(1:Nat))) s d n),b8],[]⟩
 else Q aE ⟨[(nK pas a (ofNat (c+(1:Nat))) s d n),(tO (ga a) (fH a))],[]⟩)):=by kernel_rfl
theorem WS (pas n c s:Int)(a d:Bs)(Q:TV→VT→Prop):au prog aS (aI [(uy,Bh (fk pas jZ 0 0 jZ 0)),(lQ,jE),(vU,yJ c s d)]) (bc [(999998,.dead,none)]) 300 aG 0 Lf [.ptr 0 0] (bC (fk pas (.vec 1 a .none) c s (.vec 1 d .none) n)) Q=
 (IC (.cells [aF,(ae pas),jZ,aE,aE,jZ,aE]) (pas)∧
 (IsB (a)∧
 (ID 0 0 (Ht pas a c s d n) (c) (s) (d)∧
 Q eG ⟨[(Ht pas a c s d n),(Ht pas a c s d n)],[]⟩))):=by kernel_rfl
theorem WT (pas n c s:Int)(a d:Bs)(Q:TV→VT→Prop):au prog ah aZ (bc [(999998,.dead,none),(12,.vec 1 a (.tail 0 a.length),some λT=>{T with tails:=T.tails++ [(a.length,1,false)]})]) 300 aG 0 Lg [.ptr 0 0] (bC (il pas (.vec 1 a .none) c s (.vec 1 d .none) n)) Q=
 (br prog (λ_=>.none) 0 ⟨[(nK pas a c s d n)],[]⟩ (.call ⟨(.builtin .append),#[(.tmp 7),(.tmp 11)],#[22,22]⟩) [(7,lP),(11,(an a))] (eI a (length a)) ⟨[(nK pas a c s d n)],[((length a),(1,false))]⟩∧
 (((@Eq (Option TV) (.some (ae n)) (.some (ae n)))∧
 ((@Eq (Option TV) (.some (wt c s d)) (.some (wt c s d)))∧
 ((@Eq (Option TV) (.some (an a)) (.some (an a)))∧
 ((@Eq (Option TV) (.some (ae pas)) (.some (ae pas)))∧
 True))))∧
 Q eG ⟨[(nK pas a c s d n),(.cells [(ae pas),(eI a (length a)),(ae c),(ae s),(an d),(ae n)])],[((length a),(1,false))]⟩)):=by kernel_rfl
theorem WU (pas n c s:Int)(a d:Bs)(Q:TV→VT→Prop):au prog ah aZ (bc [(999998,.dead,none)]) 300 aG 0 Lh [.ptr 0 0] (bC (fk pas (.vec 1 a .none) c s (.vec 1 d .none) n)) Q=
Q (.tup []) ⟨[(.cells [aF,(ae pas),aY,aE,aE,aY,aE])],[]⟩:=by kernel_rfl
theorem Li (l b:Bs)(n j:Int)(tok:Tok)(Q:Exit→List TV→VT→List Nat→Nat→Prop):vx prog ah aZ (bc [(999998,.dead,none),(13,.elt [.vec 1 b tok],none)]) 300 aG none 0 (cM prog mg 0) (aJ 22 uE (uF l n j)) ap [] (de uE Q)=
 (bif decide (j<(↑(length l):Int))
 then (ba prog (λ_=>.none) (.indexAddr 42 (.tmp 9) (.tmp 11)) [(9,(an l)),(11,(ae j))] (.elt [(.vec 1 b tok)])∧
 (bif decide (wrap i64 (n+(↑(length b):Int))>(30000:Int))
 then Q .ret (L3 l (wrap i64 (n+(↑(length b):Int))) l (↑(length l):Int) j) ap [] 22
 else Q .normal (L3 l (wrap i64 (n+(↑(length b):Int))) l (↑(length l):Int) (wrap i64 (j+(1:Int)))) ap [] 22))
 else Q (.exit 0) (L3 l n l (↑(length l):Int) j) ap [] 22):=by kernel_rfl
theorem WV (l:Bs)(ok:Bool)(Q:TV→VT→Prop):au prog ah aZ (bc [(999998,.dead,none)]) 300 (cG [(0,dB 22 uE [] (uF l 0 0) ap (λK=>bif ok then ∀n:Int,K .normal (aJ 22 uE (uF l n l.length)) ap [] else ∀n j:Int,K .ret (aJ 22 uE (uF l n j)) ap []),aA prog mg 0)]) 0 mg [.vec 1 l .none] ap Q=
 (bif decide ((↑(length l):Int)>(100:Int))
 then Q av ap
 else ((aA prog mg (0:Nat)=aA prog mg (0:Nat))∧
 (((@Eq (Option Nat) .none .none)∧
 ((@Eq (Nat) 0 0)∧
 ((@Eq (List Nat) [] [])∧
 (True  ∧
 ((@Eq (VT) ap ap)∧
 ((@Eq (Bool) true true)∧
 (@Eq (List TV) [av,(an l),aE,(an l),(ae (↑(length l):Int)),aE] [av,(an l),aE,(an l),(ae (↑(length l):Int)),aE])))))))∧
 (bif ok
 then (∀n:Int,Q aF ap)
 else (∀n:Int,(∀j:Int,Q av ap)))))):=by kernel_rfl
abbrev B9 (more:Bs)(l:Bs)(j:Int):List TV:=(Sm more l (↑(length l):Int) j)
theorem Lj (pas j n c s k:Int)(l more b B L d:Bs)(o o2 o3:VO)(tok:Tok)(Q:Exit→List TV→List VO→Nat→fR→List Nat→Nat→Prop):vx prog aS (aI [(nR,yI o2 L c s d),(nT,ES (il pas (an B) c s (an d) n) L c s d),(lz,EN),(qp,EM),(vX,yC),(yA,K7 B.length),(vU,yJ c s d),(sF,K8 n),(qt,wT k),(ER,ET k)]) (bc [(999998,.dead,none),(39,.elt [.vec 1 b tok],none)]) 300 aG none 0 (cM prog nI 0) (aJ 169 uI (nU more l j)) ⟨[o,o3],[]⟩ [] (de uI (λe vs T D m=>Q e vs (T.objs.take 2) T.objs.length T.tails D m))=
 (bif decide (j<(↑(length l):Int))
 then (ba prog (λkk=>(bif beq kk (0:Nat) then (.some iC) else .none)) (.indexAddr 42 (.tmp 35) (.tmp 37)) [(35,(an l)),(37,(ae j))] (.elt [(.vec 1 b tok)])∧
 (wR 0 0 (o) (b) (o2) (L) (c) (s) (d)∧
 (NI 0 1 (o3) (b) (nK pas B c s d n) (L) (c) (s) (d)∧
 (Ah (L)∧
 (NH (L) (L)∧
 (Ab (tP c s d) (tP c s d)∧
 (VH 0 0 (o2) ((↑(length B):Int))∧
 ((True  ∧
 ((@Eq (Option TV) (.some (an B)) (.some (an B)))∧
 True))∧
 (bif aq neq (k6 (↑(length B):Int) (↑(length B):Int))
 then Q .ret (B9 more l j) [(o2),(nK pas B c s d n)] 4 [] [] 169
 else (ID 0 0 (o2) (c) (s) (d)∧
 (((@Eq (Option TV) (.some (wt c s d)) (.some (wt c s d)))∧
 (True  ∧
 ((@Eq (Option TV) (.some (an B)) (.some (an B)))∧
 True)))∧
 (Ab (tP c s d) (tP c s d)∧
 (VI 0 0 (o2) (n)∧
 (((@Eq (Option TV) (.some (ae n)) (.some (ae n)))∧
 True)∧
 (bif aq neq (k6 n n)
 then Q .ret (B9 more l j) [(o2),(nK pas B c s d n)] 4 [] [] 169
 else (NJ 0 0 (o2) (k)∧
 (VM 0 1 (nK pas B c s d n) (k)∧
 (bif aq neq (k6 k k)
 then Q .ret (B9 more l j) [(o2),(nK pas B c s d n)] 4 [] [] 169
 else Q .normal (Sm more l (↑(length l):Int) (wrap i64 (j+(1:Int)))) [(o2),(nK pas B c s d n)] 4 [] [] 169))))))))))))))))))
 else Q (.exit 0) (B9 more l j) [(o),(o3)] 2 [] [] 169):=by kernel_rfl
theorem VU (pas n c s c2 s2 n2:Int)(ok:Bool)(l more B L2 d d2 B2:Bs)(o0 o o2 o5:VO)(Q:TV→VT→Prop):au prog aS (aI [(mg,Ai ok),(vy,uW),(uy,Bh o0),(Lf,IF),(Lg,IG),(nR,yI o2 L2 c2 s2 d2),(nT,ES (il pas (an B2) c2 s2 (an d2) n2) L2 c2 s2 d2),(lz,EN),(qp,EM),(vX,yC),(yA,Ph),(sF,Pi),(Lh,II o5),(vU,yJ 0 0 []),(qt,wT 19)]) (bc [(999998,.dead,none)]) 300 (cG [(0,dB 169 uI [] (nU more l 0) ⟨[o0,Xo pas],[]⟩ (λK=>K .normal (aJ 169 uI (nU more l l.length)) ⟨[o,il pas (.vec 1 B .none) c s (.vec 1 d .none) n],[]⟩ []),aA prog nI 0)]) 0 nI [.val (.int .i64 pas),.vec 1 l .none,.vec 1 more .none] ap Q=
 (IE (l) (ok)∧
 (bif !ok
 then Q aF ap
 else (bif decide ((↑(length more):Int)>(5000:Int))
 then Q aF ap
 else (IC (o0) (pas)∧
 ((aA prog nI (0:Nat)=aA prog nI (0:Nat))∧
 (((@Eq (Option Nat) .none .none)∧
 ((@Eq (Nat) 0 0)∧
 ((@Eq (List Nat) [] [])∧
 (True  ∧
 ((@Eq (VT) (W0 o0 pas) (W0 o0 pas))∧
 ((@Eq (Bool) true true)∧
 (@Eq (List TV) [av,(an more),eV,eG,(an l),(ae (↑(length l):Int)),aE] [av,(an more),eV,eG,(an l),(ae (↑(length l):Int)),aE])))))))∧
 (NK 0 0 (o)∧
 (VN 0 1 (nK pas B c s d n)∧
 (wR 0 2 (o) (more) (o2) (L2) (c2) (s2) (d2)∧
 (NI 0 3 (nK pas B c s d n) (more) (nK pas B2 c2 s2 d2 n2) (L2) (c2) (s2) (d2)∧
 (Ah (L2)∧
 (NH (L2) (L2)∧
 (Ab (tP c2 s2 d2) (tP c2 s2 d2)∧
 (uH 0 0 (o)∧
 ((True  ∧
 ((@Eq (Option TV) (.some (an B)) (.some (an B)))∧
 True))∧
 (bif aq neq (k6 (yL o) (↑(length B):Int))
 then Q av (NW o pas B c s d n o2 pas B2 c2 s2 d2 n2 c2 s2 d2 c2 s2 d2)
 else (uH 0 0 (o)∧
 (((@Eq (Option TV) (.some (ae n)) (.some (ae n)))∧
 (True  ∧
 ((@Eq (Option TV) (.some (an B)) (.some (an B)))∧
 True)))∧
 (bif aq neq (k6 (B8 o) n)
 then Q av (NW o pas B c s d n o2 pas B2 c2 s2 d2 n2 c2 s2 d2 c2 s2 d2)
 else (VP 0 0 (o) (o5)∧
 (uH 0 0 (o5)∧
 (uH 0 0 (o5)∧
 (bif aq eql (k6 (wrap i64 (yL o5+B8 o5)) (0:Int))
 then (ID 0 0 (o5) 0 0 []∧
 (NJ 0 0 (o5) 19∧
 Q aF (NW o5 pas B c s d n o2 pas B2 c2 s2 d2 n2 c2 s2 d2 c2 s2 d2)))
 else Q av (NW o5 pas B c s d n o2 pas B2 c2 s2 d2 n2 c2 s2 d2 c2 s2 d2)))))))))))))))))))))))):=by kernel_rfl
theorem VV (pas:Int)(ok:Bool)(l more:Bs)(Q:TV→VT→Prop):au prog aS (aI [(mg,Ai ok),(vy,uW),(uy,λ_ _ _ _=>False)]) (bc [(999998,.dead,none)]) 300 (cG [(0,λ_ _ _ _ _ _=>False,aA prog nI 0)]) 0 nI [.val (.int .i64 pas),.vec 1 l .none,.vec 1 more .none] ap Q=
 (IE (l) (ok)∧
 (bif !ok
 then Q aF ap
 else (bif decide ((↑(length more):Int)>(5000:Int))
 then Q aF ap
 else False))):=by kernel_rfl
theorem GD (pas:Int):cT pas []=fk pas (.vec 1 [] .none) 0 0 (.vec 1 [] .none) 0:=by
 rw [pD (by rw [cS pas (by simp)]),cS pas (by simp)];rfl
theorem RY (pas:Int):iQ pas []=il pas (.vec 1 [] .none) 0 0 (.vec 1 [] .none) 0:=by
 rw [wM (by rw [cS pas (by simp)]),cS pas (by simp)];rfl
theorem XI:bk prog aS (aI [(sZ,sJ)]):=aQ λp hp=>by
 obtain rfl:=mem_singleton.1 hp
 intro ro ys T K hw
 replace hw:sJ ro ys T K:=hw
 unfold sJ at hw
 split at hw
 ·rename_i b tok
  obtain ⟨hb,hk⟩:=hw
  refine VCx.loosePure bH (Ut hb) (by simp [cA]) (by simp [aB,TV.ren,hb.ren,Tok.ren]) (lv hb) ?_
  cases hh:cK b<;>rw [hh] at hk
  ·rw [rz hh];exact hk
  ·rw [ry hh];exact hk
 ·exact hw.elim
theorem Pk:bk prog ah (aI [(jU,sJ)]):=aQ λp hp=>by
 obtain rfl:=mem_singleton.1 hp
 intro ro ys T K hw
 replace hw:sJ ro ys T K:=hw
 unfold sJ at hw
 split at hw
 ·rename_i b tok
  obtain ⟨hb,hk⟩:=hw
  refine VCx.loosePure aP (vm hb) (by simp [cA]) (by simp [aB,TV.ren,hb.ren,Tok.ren]) (lv hb) ?_
  cases hh:cK b<;>rw [hh] at hk
  ·rw [rz hh];exact hk
  ·rw [ry hh];exact hk
 ·exact hw.elim
section
variable {w:Bs}{pas:Int}
theorem ng {o:VO}{os:List VO}{tl:fR}(hr:∀f g,o.ren f g=o):(⟨o::os,tl⟩:VT).keep 1 0=⟨[o],[]⟩:=by
 simp only [VT.keep,List.take_succ_cons,take_zero,map_cons,map_nil,hr]
theorem VW (hw:IsB w):VCx prog aS 0 qt [.ptr 0 0] ⟨[cT pas w],[]⟩ λx T'=>x=.val (.int .i64 (jV w pas))∧T'=⟨[cT pas w],[]⟩:=by
 have hR:=λf g=>ew (pas:=pas) hw f g
 have hr:=jI (pas:=pas) hw
 refine VCx.keepQ 1 0 (le_refl _) (le_refl _) ?_
 cases hf:(aW w pas).2.2 with
 |some p=>
  obtain ⟨c,s,d⟩:=p
  rw [sG hw hf] at hR ⊢
  exact aj ag ac am ai (VQ pas _ s c [] d _) ⟨by unfold jV;rw [hf];rfl,ng hR⟩
 |none=>
  rw [pD hf] at hR ⊢
  refine aj ag ac XI ai (WQ pas _ 0 _ [] _) ?_
  unfold jV
  rw [hf]
  refine ak (λc1=>⟨?_,ng hR⟩) (λc1=>⟨hr,ak (λc2=>⟨?_,ng hR⟩) (λc2=>⟨?_,ng hR⟩)⟩)
  ·rw [if_pos (of_decide_eq_true c1)];rfl
  ·rw [if_neg (of_decide_eq_false c1),c2];rfl
  ·rw [if_neg (of_decide_eq_false c1),c2];rfl
theorem VX (hw:IsB w):VCx prog ah 0 ER [.ptr 0 0] ⟨[iQ pas w],[]⟩ λx T'=>x=.val (.int .i64 (jV w pas))∧T'=⟨[iQ pas w],[]⟩:=by
 have hR:=λf g=>oE (pas:=pas) hw f g
 have hr:=jI (pas:=pas) hw
 refine VCx.keepQ 1 0 (le_refl _) (le_refl _) ?_
 cases hf:(aW w pas).2.2 with
 |some p=>
  obtain ⟨c,s,d⟩:=p
  rw [wN hw hf] at hR ⊢
  refine aj ag ac Pk ai (VS pas _ s c [] d _) ⟨.nil,?_⟩
  have e:TV.val (.int .i64 (jV w pas))=.val (.int .i64 0):=by unfold jV;rw [hf]
  rw [e]
  exact ak (λ_=>⟨rfl,ng hR⟩) (λ_=>⟨rfl,ng hR⟩)
 |none=>
  rw [wM hf] at hR ⊢
  refine aj ag ac Pk ai (WR pas _ 0 _ [] _) ⟨hr,?_⟩
  unfold jV
  rw [hf]
  refine ak (λc2=>ak (λc1=>⟨?_,ng hR⟩) (λc1=>⟨?_,ng hR⟩)) (λc2=>ak (λc1=>⟨?_,ng hR⟩) (λc1=>⟨?_,ng hR⟩))
  ·rw [if_pos (of_decide_eq_true c1)];rfl
  ·rw [if_neg (of_decide_eq_false c1),c2];rfl
  ·rw [if_pos (of_decide_eq_true c1)];rfl
  ·rw [if_neg (of_decide_eq_false c1),c2];rfl
theorem RZ (hw:IsB w):VCx prog aS 0 Lf [.ptr 0 0] ⟨[cT pas w],[]⟩ λx T'=>x=.ptr 1 0∧T'=⟨[cT pas w,cT pas w],[]⟩:=by
 have hS:bk prog aS (aI [(uy,Bh (fk pas (.vec 1 [] .none) 0 0 (.vec 1 [] .none) 0)),(lQ,jE),(vU,yJ (ep w pas) (dv w pas) (dn w pas))]):=aQ λp hp=>by
  rcases mem_cons.1 hp with rfl | hp;exact EO _
  rcases mem_cons.1 hp with rfl | hp;exact λro ys T K h=>VCx.anyG (lp ro ys T K h)
  obtain rfl:=mem_singleton.1 hp;exact yK _ _ _
 exact aj ag ac hS ai (WS pas _ _ _ _ _ _) ⟨(GD pas).symm,jI hw,⟨pas,w,le_refl _,hw,rfl,rfl,rfl,rfl⟩,rfl,rfl⟩
theorem R0 (hw:IsB w):VCx prog ah 0 Lg [.ptr 0 0] ⟨[iQ pas w],[]⟩ λx T'=>x=.ptr 1 0∧T'=⟨[iQ pas w,iQ pas w],[]⟩:=by
 have hr:=jI (pas:=pas) hw
 have hd:=jH (pas:=pas) hw
 refine VCx.keepQ 2 0 (Nat.le_succ _) (le_refl _) (aj ag ac am ai (WT pas _ _ _ _ _ _) ⟨mJ _ _ hr.2 7 11 rfl,⟨rfl,rfl,rfl,rfl,trivial⟩,rfl,?_⟩)
 simp only [VT.keep,List.take_succ_cons,take_zero,map_cons,map_nil,VO.ren,aB,TV.ren,hr.ren,hd.ren,Tok.ren,iQ,il]
 rfl
theorem R1 (hw:IsB w):VCx prog ah 0 Lh [.ptr 0 0] ⟨[cT pas w],[]⟩ λx T'=>x=.tup []∧T'=⟨[cT pas []],[]⟩:=by
 rw [GD]
 exact VCx.cellsLe 0 (aj ag ac am ai (WU pas _ _ _ _ _ _) ⟨_,[.val (.bool true),.val (.int .i64 pas),.vec 1 [] .none,.val (.int .i64 0),.val (.int .i64 0),.vec 1 [] .none,.val (.int .i64 0)],rfl,⟨.refl _,.refl _,.nil 1,.refl _,.refl _,.nil 1,.refl _,trivial⟩,rfl,rfl⟩)
end
theorem VWx.cellsLe {P:Program}{G:aV}{T:VT}{c:Code}{σ:List TV}{D:List Nat}{i:Nat}{cs cs':List TV}{Q:KX}(hi:T.objs[i]?=some (.cells cs))(hl:TVleL cs cs')(h:VWx P G none 0 c σ {T with objs:=T.objs.set i (.cells cs')} D Q):VWx P G none 0 c σ T D Q:=by
 intro r g w a rw0 hG hσ hd hD hr
 have r':=rw0.objLe hi rfl (o':=.cells cs') rfl λb ⟨us,t,h1,h2,h3⟩=>⟨us,t,h1,hl.vrs h2,h3⟩
 refine wpIn_mono (h r g w a r' hG hσ hd hD hr) ?_
 rintro e a' w' ⟨g',σ',T',D',hq,e',r2,hσ',hd',hD',hfx⟩
 refine ⟨g',σ',T',D',hq,e',r2,hσ',hd',hD',⟨?_,λi hi=>absurd hi (Nat.not_lt_zero i),λi o b hi=>absurd hi (Nat.not_lt_zero i)⟩⟩
 have:=hfx.len
 simpa using this
theorem XJ {f:FuncId}{ro p:Nat}{o:VO}{y:TV}{T:VT}{K:TV→VT→Prop}(hro:ro≤p)(ho:T.objs[p]?=some o)(hl:o.live=true)(hr:∀f g,o.ren f g=o)(hy:∀f g,y.ren f g=y)(h:VCx prog aS 0 f [.ptr 0 0] ⟨[o],[]⟩ λx T'=>x=y∧T'=⟨[o],[]⟩)(hk:K y T):VCx prog aS ro f [.ptr p 0] T K:=by
 refine VCx.at1 (Q:=λx o' l'=>x=y∧o'=o∧l'= []) bH hro ho hl (hr _ _) (ys1:= [.ptr 0 0]) (by simp [aB,TV.ren,bb]) (h.mono λx T' ⟨h1,h2⟩=>⟨_,_,h2,h1,rfl,rfl⟩) ?_
 rintro x o' l' ⟨rfl,rfl,rfl⟩
 rw [hy,hr,jC ho]
 simpa using hk
theorem VY {f:FuncId}{ro p:Nat}{o:VO}{T:VT}{K:TV→VT→Prop}(hro:ro≤p)(ho:T.objs[p]?=some o)(hl:o.live=true)(hr:∀f g,o.ren f g=o)(h:VCx prog aS 0 f [.ptr 0 0] ⟨[o],[]⟩ λx T'=>x=.ptr 1 0∧T'=⟨[o,o],[]⟩)(hk:K (.ptr T.objs.length 0) {T with objs:=T.objs++ [o]}):VCx prog aS ro f [.ptr p 0] T K:=by
 refine VCx.at1 (Q:=λx o' l'=>x=.ptr 1 0∧o'=o∧l'= [o]) bH hro ho hl (hr _ _) (ys1:= [.ptr 0 0]) (by simp [aB,TV.ren,bb]) (h.mono λx T' ⟨h1,h2⟩=>⟨_,_,h2,h1,rfl,rfl⟩) ?_
 rintro x o' l' ⟨rfl,rfl,rfl⟩
 rw [hr,jC ho]
 simp only [map_cons,map_nil,hr]
 simpa [TV.ren,bd] using hk
theorem EU (o2:VO)(L:Bs)(c s:Int)(d:Bs):∀ro ys T K,ES o2 L c s d ro ys T K→VCx prog aS ro nT ys T K:=by
 intro ro ys T K hw
 unfold ES at hw
 split at hw
 ·rename_i p b tok
  split at hw
  ·rename_i o ho
   obtain ⟨⟨pas,w,hro,rfl,hw2,rfl,rfl,rfl,rfl,rfl⟩,hk⟩:=hw
   have hw1:=pE hw2
   refine VCx.at1 (Q:=λx o' l'=>x=rD w b pas∧o'=iQ pas (w++b)∧l'= []) bH hro ho rfl (oE hw1 _ _) (ys1:= [.ptr 0 0,.vec 1 b (tok.ren (bb [p]) (bb []))]) ?_ ((VCx.anyG (Vz hw2 _)).mono λx T' ⟨h1,h2⟩=>⟨_,_,h2,h1,rfl,rfl⟩) ?_
   ·simp [aB,TV.ren,bb,(qo hw2).ren]
   ·rintro x o' l' ⟨rfl,rfl,rfl⟩
    rw [Gw hw2,oE hw2]
    simp only [map_nil,append_nil]
    exact hk
  ·exact hw.elim
 ·exact hw.elim
theorem Aj (n:Int):∀ro ys T K,wT n ro ys T K→VCx prog aS ro qt ys T K:=by
 intro ro ys T K hw
 unfold wT at hw
 split at hw
 ·split at hw
  ·rename_i o ho
   obtain ⟨⟨pas,w,hro,hw,rfl,rfl⟩,hk⟩:=hw
   exact XJ hro ho rfl (ew hw) (λ_ _=>rfl) (VW hw) hk
  ·exact hw.elim
 ·exact hw.elim
theorem GE (n:Int):∀ro ys T K,ET n ro ys T K→VCx prog aS ro ER ys T K:=by
 intro ro ys T K hw
 unfold ET at hw
 split at hw
 ·split at hw
  ·rename_i o ho
   obtain ⟨⟨pas,w,hro,hw,rfl,rfl⟩,hk⟩:=hw
   exact wS hro ho rfl (oE hw) (λ_ _=>rfl) (VX hw) hk
  ·exact hw.elim
 ·exact hw.elim
theorem R2:∀ro ys T K,IF ro ys T K→VCx prog aS ro Lf ys T K:=by
 intro ro ys T K hw
 unfold IF at hw
 split at hw
 ·split at hw
  ·rename_i o ho
   obtain ⟨⟨pas,w,hro,hw,rfl⟩,hk⟩:=hw
   exact VY hro ho rfl (ew hw) (RZ hw) hk
  ·exact hw.elim
 ·exact hw.elim
theorem R3:∀ro ys T K,IG ro ys T K→VCx prog aS ro Lg ys T K:=by
 intro ro ys T K hw
 unfold IG at hw
 split at hw
 ·split at hw
  ·rename_i o ho
   obtain ⟨⟨pas,w,hro,hw,rfl⟩,hk⟩:=hw
   exact VY hro ho rfl (oE hw) (VCx.anyG (R0 hw)) hk
  ·exact hw.elim
 ·exact hw.elim
theorem R4 (o2:VO):∀ro ys T K,II o2 ro ys T K→VCx prog aS ro Lh ys T K:=by
 intro ro ys T K hw
 unfold II at hw
 split at hw
 ·split at hw
  ·rename_i o ho
   obtain ⟨⟨pas,w,hro,hw,rfl,rfl⟩,hk⟩:=hw
   refine VCx.at1 (Q:=λx o' l'=>x=.tup []∧o'=cT pas []∧l'= []) bH hro ho rfl (ew hw _ _) (ys1:= [.ptr 0 0]) (by simp [aB,TV.ren,bb]) ((VCx.anyG (R1 hw)).mono λx T' ⟨h1,h2⟩=>⟨_,_,h2,h1,rfl,rfl⟩) ?_
   rintro x o' l' ⟨rfl,rfl,rfl⟩
   rw [ew .nil]
   simpa [TV.ren,aB] using hk
  ·exact hw.elim
 ·exact hw.elim
theorem VZ:∀ro ys T K,Ph ro ys T K→VCx prog aS ro yA ys T K:=by
 intro ro ys T K hw
 unfold Ph at hw
 split at hw
 ·split at hw
  ·rename_i o ho
   obtain ⟨⟨pas,w,hro,hw,rfl⟩,hk⟩:=hw
   exact wS hro ho rfl (ew hw) (λ_ _=>rfl) K9 hk
  ·exact hw.elim
 ·exact hw.elim
theorem V0:∀ro ys T K,Pi ro ys T K→VCx prog aS ro sF ys T K:=by
 intro ro ys T K hw
 unfold Pi at hw
 split at hw
 ·split at hw
  ·rename_i o ho
   obtain ⟨⟨pas,w,hro,hw,rfl⟩,hk⟩:=hw
   exact wS hro ho rfl (ew hw) (λ_ _=>rfl) GB hk
  ·exact hw.elim
 ·exact hw.elim
theorem Lk {ls:List Bs}(h:∀b∈ls,b.length≤140737488355328∧∀f g,bm f g b=b)(f g:Nat→Option Nat):bm f g (ls.map dL)=ls.map dL:=by
 induction ls with
 |nil=>rfl
 |cons b l ih=>
  have h1:=h b mem_cons_self
  rw [map_cons,bm,ih λx hx=>h x (mem_cons_of_mem _ hx)]
  simp only [dL,aB,TV.ren,h1.2,Tok.ren]
theorem WW:∃inf:TypeInfo,prog.info? 22=some inf∧inf.size=1:=⟨(prog.info? 22).getD default,by kernel_rfl,by kernel_rfl⟩
theorem V1 {G:aV}{x i:Nat}{l:List (Nat × TV)}{ls:List Bs}{j:Nat}(hj:j<ls.length)(hx:aL G l (.tmp x)=.vec 1 (ls.map dL) .none)(hi:aL G l (.tmp i)=.val (.int .i64 (j:Int))):ba prog G (.indexAddr 42 (.tmp x) (.tmp i)) l (.elt (dL ls[j])):=by
 obtain ⟨inf,i1,i2⟩:=WW
 exact dZ (inf:=inf) underlying42 i1 (by rw [i2];exact hx) hi (by omega) (by rw [toNat_natCast,getElem?_map,getElem?_eq_getElem hj];rfl)
def Xp (ls:List Bs)(e:Exit)(vs:List TV)(T:VT):Prop:=T=⟨[],[]⟩∧((e=.normal∧kO 0 ls=true∧∃n:Int,vs=uF (ls.map dL) n ls.length)∨(e=.ret∧kO 0 ls=false∧∃n j:Int,vs=uF (ls.map dL) n j))
theorem NL {ls:List Bs}(h:∀b∈ls,b.length≤140737488355328∧∀f g,bm f g b=b)(hl:ls.length≤140737488355328)(K:KX)(hK:∀e vs T,Xp ls e vs T→K e (aJ 22 uE vs) T []):
  VWx prog ah none 0 (aA prog mg 0) (aJ 22 uE (uF (ls.map dL) 0 0)) ⟨[],[]⟩ [] K:=by
 refine dW (f:=mg) (id:=0) (by kernel_rfl) 22 uE (λs:Nat × Nat=>ls.length-s.1) (λs=>uF (ls.map dL) s.2 s.1) (λ_=>⟨[],[]⟩) (λs=>s.1≤ls.length∧s.2≤30000∧kO 0 ls=kO s.2 (ls.drop s.1)) 0 0 (λ_ _=>⟨le_refl _,le_refl _⟩) (Xp ls) (λs hs=> ?_) (0,0) ⟨zero_le _,zero_le _,rfl⟩ K hK
 obtain ⟨j,n⟩:=s
 obtain ⟨hj,hn,hgo⟩:=hs
 simp only at hj hn hgo
 by_cases hlt:j<ls.length
 ·have hb:=h _ (getElem_mem hlt)
  have e1:wrap i64 ((n:Int)+(ls[j].length:Int))=((n+ls[j].length:Nat):Int):=by rw [bE (by omega) (by omega)];rfl
  have e2:kO n (ls.drop j)=(!decide (n+ls[j].length>30000)&&kO (n+ls[j].length) (ls.drop (j+1))):=by
   rw [List.drop_eq_getElem_cons hlt];rfl
  refine cg ag ac am ai (Li (ls.map dL) ls[j] n j .none _) ?_
  refine aU (decide_eq_true (by rw [length_map];omega)) ⟨V1 hlt rfl rfl,?_⟩
  rw [e1]
  refine ak (λc1=> ?_) (λc1=> ?_)
  ·have c1:=of_decide_eq_true c1
   refine ⟨rfl,rfl,rfl,.inr ⟨rfl,?_,_,_,rfl⟩⟩
   rw [hgo,e2,decide_eq_true (show n+ls[j].length>30000 by omega)];rfl
  ·have c1:=of_decide_eq_false c1
   refine ⟨rfl,rfl,(j+1,n+ls[j].length),⟨hlt,by show n+ls[j].length≤30000;omega,?_⟩,by show ls.length-(j+1)<ls.length-j;omega,.inl ⟨rfl,?_⟩⟩
   ·rw [hgo,e2,decide_eq_false (show ¬n+ls[j].length>30000 by omega)];rfl
   ·rw [bE (by omega) (by omega)];rfl
 ·obtain rfl:j=ls.length:=by omega
  refine cg ag ac am ai (Li (ls.map dL) [] n ls.length .none _) ?_
  refine aO (decide_eq_false (by rw [length_map];omega)) ⟨rfl,rfl,rfl,.inl ⟨rfl,?_,(n:Int),rfl⟩⟩
  rw [hgo,List.drop_length];rfl
theorem R5 {ls:List Bs}(hl:ls.length≤140737488355328)(h:∀b∈ls,b.length≤140737488355328∧∀f g,bm f g b=b):VCx prog ah 0 mg [.vec 1 (ls.map dL) .none] ⟨[],[]⟩ λx T'=>x=.val (.bool (uG ls))∧T'=⟨[],[]⟩:=by
 have hL:dD prog ah (cG [(0,dB 22 uE [] (uF (ls.map dL) 0 0) ⟨[],[]⟩ (λK=>bif kO 0 ls then ∀n:Int,K .normal (aJ 22 uE (uF (ls.map dL) n (ls.map dL).length)) ⟨[],[]⟩ [] else ∀n j:Int,K .ret (aJ 22 uE (uF (ls.map dL) n j)) ⟨[],[]⟩ []),aA prog mg 0)]):=bL λp hp=>by
  obtain rfl:=mem_singleton.1 hp
  refine ce λK hK=>NL h hl K ?_
  rintro e vs T ⟨rfl,⟨rfl,h1,n,rfl⟩ | ⟨rfl,h1,n,j,rfl⟩⟩
  ·have:=hK;rw [h1,cond_true,length_map] at this;exact this n
  ·have:=hK;rw [h1,cond_false] at this;exact this n j
 refine aj ag ac am hL (WV (ls.map dL) (kO 0 ls) _) ?_
 unfold uG
 refine ak (λc1=> ?_) (λc1=> ?_)
 ·have c1:=of_decide_eq_true c1
  rw [length_map] at c1
  rw [decide_eq_false (show ¬ls.length≤100 by omega)]
  exact ⟨rfl,rfl⟩
 ·have c1:=of_decide_eq_false c1
  rw [length_map] at c1
  rw [decide_eq_true (show ls.length≤100 by omega),Bool.true_and]
  exact ⟨rfl,⟨rfl,rfl,rfl,trivial,rfl,rfl,rfl⟩,ak (λc _=>⟨by rw [c],rfl⟩) (λc _ _=>⟨by rw [c],rfl⟩)⟩
theorem GF (ok:Bool):∀ro ys T K,Ai ok ro ys T K→VCx prog aS ro mg ys T K:=by
 intro ro ys T K hw
 unfold Ai at hw
 split at hw
 ·obtain ⟨⟨ls,rfl,hl,h,rfl⟩,hk⟩:=hw
  exact VCx.loosePure bH (VCx.anyG (R5 hl h)) (by simp [cA]) (by simp only [aB,TV.ren,Lk h,Tok.ren]) (λ_ _=>rfl) hk
 ·exact hw.elim
theorem uJ:IsB im:=⟨⟨_,rfl,λz hz=>by
 rcases mem_append.1 hz with h | h
 ·rw [List.eq_of_mem_replicate h];decide
 ·simp at h;omega⟩,by decide⟩
theorem rE:im.length=19:=by decide
theorem WX (Q:Option (Nat × Bs)→Prop):(NV prog aS (λ_=>none) 3000 (λ_=>none) 0 Le [] ap λx T'=>Q (Hs x T'))=Q (some (1,im)):=by kernel_rfl
theorem V2:VCx prog aS 0 Le [] ⟨[],[]⟩ λx T'=>x=.vec 1 im .none∧T'=⟨[],[]⟩:=
 VCx.freezeRow (λf g=>uJ.ren f g) (LX ag ac am ai (by rw [WX λo=>o=some (1,im)]))
theorem V3:∀ro ys T K,Pe ro ys T K→VCx prog aS ro Le ys T K:=by
 intro ro ys T K hw
 unfold Pe at hw
 split at hw
 ·exact VCx.liftPure bH V2 rfl (λf g=>by simp only [TV.ren,uJ.ren,Tok.ren]) hw
 ·exact hw.elim
theorem NM {pas:Int}{w:Bs}(hl:w.length<19):cT pas w=.cells [.val (.bool true),.val (.int .i64 pas),.vec 1 w .none,.val (.int .i64 0),.val (.int .i64 0),.vec 1 [] .none,.val (.int .i64 0)]:=by
 unfold cT fk ep iP dv dn cn
 rw [cS pas hl];rfl
theorem NN {pas:Int}{w:Bs}(hl:w.length<19):VCx prog ah 0 qt [.ptr 0 0] ⟨[cT pas w],[]⟩ λx T'=>x=.val (.int .i64 (19-(w.length:Int)))∧T'=⟨[cT pas w],[]⟩:=by
 rw [NM hl]
 exact aj ag ac (aQ (l:= [(26,λ_ _ _ _=>False)]) λp hp=>by obtain rfl:=mem_singleton.1 hp;exact λ_ _ _ _ h=>h.elim) ai (RX pas _ _ w _) (aU (decide_eq_true (by omega)) ⟨by rw [bE (by omega) (by omega)],rfl⟩)
theorem V4 (n:Int):∀ro ys T K,Pf n ro ys T K→VCx prog aS ro qt ys T K:=by
 intro ro ys T K hw
 unfold Pf at hw
 split at hw
 ·split at hw
  ·rename_i o ho
   obtain ⟨⟨pas,w,hro,hw,hl,rfl,rfl⟩,hk⟩:=hw
   exact wS hro ho rfl (ew hw) (λ_ _=>rfl) (NN hl) hk
  ·exact hw.elim
 ·exact hw.elim
theorem V5 (o2 o3:VO)(M:List TV):∀ro ys T K,Pg o2 o3 M ro ys T K→VCx prog aS ro nR ys T K:=by
 intro ro ys T K hw
 unfold Pg at hw
 split at hw
 ·split at hw
  ·rename_i o ho
   refine uD o2 [] 0 0 [] ro _ T K ?_
   unfold yI
   simp only [ho,List.getElem?_cons_zero] at hw ⊢
   exact hw
  ·rename_i o _ ho
   refine uD o3 [M] 0 0 [] ro _ T K ?_
   unfold yI
   simp only [ho,List.getElem?_cons_zero] at hw ⊢
   exact hw
  ·exact hw.elim
 ·exact hw.elim
def Pm:MsgS:=⟨4,⟨0,0,0,[]⟩,⟨[],0,[],0,0,false,[]⟩,0,0,[]⟩
theorem WY:aW im 0=([Pm],[],none):=by
 have h:=mV (w:=im) (pas:=0) (M:=Pm) (by rw [rE];decide) (by kernel_rfl) (by rw [show bA im=19 by kernel_rfl,rE];decide) (by rw [show bA im=19 by kernel_rfl];kernel_rfl)
 rw [h,show bA im=19 by kernel_rfl,show im.drop (Int.toNat 19)= [] by kernel_rfl,cS 0 (by simp)]
theorem GG:VCx prog aS 0 vy [] ⟨[],[]⟩ mE:=by
 have h9:(im.take 9).length=9:=by rw [length_take,rE];rfl
 have hx9:aW (im.take 9) 0=([],im.take 9,none):=cS 0 (by omega)
 have hx0:aW ([]:Bs) 0=([],[],none):=cS 0 (by simp)
 have hall:=WY
 have hS:bk prog aS (aI [(uy,Bh (cT 0 [])),(Le,Pe),(nR,Pg (cT 0 (im.take 9)) (cT 0 im) Pm.cells),(qt,Pf 10)]):=aQ λp hp=>by
  rcases mem_cons.1 hp with rfl | hp;exact EO _
  rcases mem_cons.1 hp with rfl | hp;exact V3
  rcases mem_cons.1 hp with rfl | hp;exact V5 _ _ _
  obtain rfl:=mem_singleton.1 hp;exact V4 _
 refine aj ag ac hS ai (WP (im.take 9) (im.drop 9) Pm.cells 10 _ _ _ _) ⟨rfl,?_,⟨0,[],le_refl _,rfl,uJ.take _,rfl,?_,?_,?_,?_⟩,⟨0,im.take 9,le_refl _,uJ.take _,by omega,rfl,by rw [h9];rfl⟩,?_,⟨0,im.take 9,le_refl _,rfl,?_,?_,?_,?_,?_,?_⟩,aU (yn _ _) trivial⟩
 ·exact Lc (G:=aS) (x:=.tmp 10) (i:=.const (.int .i64 9)) (l:= [(10,.vec 1 im .none)]) (es:=im) (tok:=.none) (k:=.i64) (z:=9) rfl rfl (by omega) (by rw [rE];decide)
 ·unfold gm cn;rw [nil_append,hx9,hx0];rfl
 ·unfold ep iP;rw [nil_append,hx9];rfl
 ·unfold dv;rw [nil_append,hx9]
 ·unfold dn;rw [nil_append,hx9]
 ·exact Ld (G:=aS) (x:=.tmp 19) (i:=.const (.int .i64 9)) (l:= [(19,.vec 1 im .none)]) (es:=im) (tok:=.none) (k:=.i64) (z:=9) rfl rfl (by omega) (by rw [rE];decide)
 ·rw [take_append_drop];exact uJ
 ·rw [take_append_drop]
 ·unfold gm cn;rw [take_append_drop,hx9,hall];rfl
 ·unfold ep iP;rw [take_append_drop,hall];rfl
 ·unfold dv;rw [take_append_drop,hall]
 ·unfold dn;rw [take_append_drop,hall]
def mX (b:Bs):Prop:=∃l:List Int,b=bV l∧∀z∈l,0≤z∧z<256
theorem EV {b:Bs}(h:mX b)(f g:Nat→Option Nat):bm f g b=b:=by
 obtain ⟨l,rfl,hz⟩:=h
 clear hz
 induction l with
 |nil=>rfl
 |cons z l ih=>simp only [bV,map_cons] at ih ⊢;rw [bm,ih];rfl
theorem Bi:∀{ls:List Bs},(∀b∈ls,mX b)→mX ls.flatten
 |[],_=>⟨[],rfl,λ_ h=>by cases h⟩
 |b::ls,h=>by
  obtain ⟨x,hx,h1⟩:=h b mem_cons_self
  obtain ⟨y,hy,h2⟩:=Bi λc hc=>h c (mem_cons_of_mem _ hc)
  refine ⟨x++y,?_,λz hz=> ?_⟩
  ·rw [flatten_cons,hx,hy];simp [bV]
  ·rcases mem_append.1 hz with hz | hz
   ·exact h1 z hz
   ·exact h2 z hz
theorem GH:∀(ls:List Bs) (n:Nat),n≤30000→kO n ls=true→n+ls.flatten.length≤30000
 |[],n,h,_=>by simpa using h
 |b::ls,n,h,hg=>by
  simp only [kO,and_eq_true,Bool.not_eq_true',decide_eq_false_iff_not] at hg
  have:=GH ls (n+b.length) (by omega) hg.2
  rw [flatten_cons,length_append]
  omega
def co (ls:List Bs)(j:Nat):Bs:=(ls.take j).flatten
section
variable {ls:List Bs}{pas:Int}
theorem NO {j:Nat}(h:j<ls.length):co ls (j+1)=co ls j++ls[j]:=by
 unfold co
 rw [take_add_one,getElem?_eq_getElem h,List.flatten_append]
 simp
theorem yM (hb:IsB ls.flatten)(j:Nat):IsB (co ls j):=by
 have e:ls.flatten=co ls j++(ls.drop j).flatten:=by unfold co;rw [←List.flatten_append,take_append_drop]
 rw [e] at hb
 exact pE hb
def rF (ls:List Bs)(pas:Int)(j:Nat):List VO:= [cT pas (co ls j),iQ pas (co ls j)]
def V6 (ls:List Bs)(pas:Int)(more:Bs)(j:Nat)(e:Exit)(vs:List TV)(os:List VO)(on:Nat)(tl:fR)(D:List Nat)(m:Nat):Prop:=D= []∧m=169∧tl= []∧match e with
 | .normal=>j<ls.length∧vs=nU more (ls.map dL) (j+1:Nat)∧os=rF ls pas (j+1)
 | .exit i=>i=0∧j=ls.length∧vs=nU more (ls.map dL) j∧os=rF ls pas j∧on=2
 |_=>False
theorem R6 {more:Bs}(hb:IsB ls.flatten)(hlen:ls.flatten.length≤30000)(hl:ls.length≤100)(hm:∀f g,bm f g more=more)(hr:∀b∈ls,b.length≤140737488355328∧∀f g,bm f g b=b)(K:KX)
  (hK:K .normal (aJ 169 uI (nU more (ls.map dL) ls.length)) ⟨rF ls pas ls.length,[]⟩ []):
  VWx prog aS none 0 (aA prog nI 0) (aJ 169 uI (nU more (ls.map dL) 0)) ⟨rF ls pas 0,[]⟩ [] K:=by
 refine dW (f:=nI) (id:=0) (by kernel_rfl) 169 uI (λj:Nat=>ls.length-j) (λj:Nat=>nU more (ls.map dL) j) (λj=>⟨rF ls pas j,[]⟩) (λj=>j≤ls.length) 2 0 (λ_ _=>⟨le_refl _,le_refl _⟩) (λe vs T=>e=.normal∧vs=nU more (ls.map dL) ls.length∧T=⟨rF ls pas ls.length,[]⟩) (λj hj=> ?_) 0 (zero_le _) K (λe vs T ⟨h1,h2,h3⟩=>by subst h1 h2 h3;exact hK)
 have hvs:∀j:Nat,aB (ax 2) (ax 0) (nU more (ls.map dL) j)=nU more (ls.map dL) j:=λj=>by
  simp only [nU,aB,TV.ren,hm,Lk hr,Tok.ren];rfl
 have hos:∀j,(rF ls pas j).map (VO.ren (ax 2) (ax 0))=rF ls pas j:=λj=>by
  simp only [rF,map_cons,map_nil,ew (yM hb j),oE (yM hb j)]
 have conv:∀e σ T D,de uI (λe vs T D m=>V6 ls pas more j e vs (T.objs.take 2) T.objs.length T.tails D m) e σ T D→de uI (Hq 169 0 (λj:Nat=>ls.length-j) (λj:Nat=>nU more (ls.map dL) j) (λj=>⟨rF ls pas j,[]⟩) (λj=>j≤ls.length) 2 0 j (λe vs T=>e=.normal∧vs=nU more (ls.map dL) ls.length∧T=⟨rF ls pas ls.length,[]⟩)) e σ T D:=by
  intro e σ T D h
  obtain ⟨h1,h2,h3,h4⟩:=h
  refine ⟨h1,h2,?_⟩
  obtain ⟨objs,tails⟩:=T
  simp only at h3 h4
  subst h3
  cases e
  case normal=>
   obtain ⟨hlt,a1,a2⟩:=h4
   refine ⟨j+1,hlt,by show ls.length-(j+1)<ls.length-j;omega,.inr ⟨?_,by rw [a1];exact hvs _⟩⟩
   show (⟨(objs.take 2).map _,_⟩:VT)=_
   rw [a2,hos];rfl
  case exit i=>
   obtain ⟨rfl,rfl,a1,a2,a3⟩:=h4
   refine ⟨rfl,a1,?_⟩
   rw [List.take_of_length_le (by omega)] at a2
   rw [a2]
  all_goals exact h4.elim
 by_cases hlt:j<ls.length
 ·have hw:=NO hlt
  have hw2:=yM hb (j+1)
  have hwj:IsB (co ls j++ls[j]):=hw▸hw2
  have hln:(cn (co ls j++ls[j]) pas).length≤32000000:=le_trans (GC hwj) hwj.2
  have hS:bk prog aS (aI [(nR,yI (cT pas (co ls j++ls[j])) ((gm (co ls j) ls[j] pas).map MsgS.cells) (ep (co ls j++ls[j]) pas) (dv (co ls j++ls[j]) pas) (dn (co ls j++ls[j]) pas)),(nT,ES (il pas (.vec 1 (aW (co ls j++ls[j]) pas).2.1 .none) (ep (co ls j++ls[j]) pas) (dv (co ls j++ls[j]) pas) (.vec 1 (dn (co ls j++ls[j]) pas) .none) ((cn (co ls j++ls[j]) pas).length:Nat)) ((gm (co ls j) ls[j] pas).map MsgS.cells) (ep (co ls j++ls[j]) pas) (dv (co ls j++ls[j]) pas) (dn (co ls j++ls[j]) pas)),(lz,EN),(qp,EM),(vX,yC),(yA,K7 (aW (co ls j++ls[j]) pas).2.1.length),(vU,yJ (ep (co ls j++ls[j]) pas) (dv (co ls j++ls[j]) pas) (dn (co ls j++ls[j]) pas)),(sF,K8 ((cn (co ls j++ls[j]) pas).length:Nat)),(qt,wT (jV (co ls j++ls[j]) pas)),(ER,ET (jV (co ls j++ls[j]) pas))]):=aQ λp hp=>by
   rcases mem_cons.1 hp with rfl | hp;exact uD _ _ _ _ _
   rcases mem_cons.1 hp with rfl | hp;exact EU _ _ _ _ _
   rcases mem_cons.1 hp with rfl | hp;exact EQ
   rcases mem_cons.1 hp with rfl | hp;exact EP
   rcases mem_cons.1 hp with rfl | hp;exact yF bH
   rcases mem_cons.1 hp with rfl | hp;exact La _
   rcases mem_cons.1 hp with rfl | hp;exact yK _ _ _
   rcases mem_cons.1 hp with rfl | hp;exact Lb _
   rcases mem_cons.1 hp with rfl | hp;exact Aj _
   obtain rfl:=mem_singleton.1 hp;exact GE _
  have hml:Ah ((gm (co ls j) ls[j] pas).map MsgS.cells):=⟨_,Ae hwj,by unfold gm;rw [length_drop];omega,rfl⟩
  have hft:Ab [.val (.int .i64 (ep (co ls j++ls[j]) pas)),.val (.int .i64 (dv (co ls j++ls[j]) pas)),.vec 1 (dn (co ls j++ls[j]) pas) .none] [.val (.int .i64 (ep (co ls j++ls[j]) pas)),.val (.int .i64 (dv (co ls j++ls[j]) pas)),.vec 1 (dn (co ls j++ls[j]) pas) .none]:=⟨rfl,_,_,_,jH hwj,rfl⟩
  refine VWx.mono (cg ag ac hS ai (Lj pas j _ _ _ _ (ls.map dL) more ls[j] _ _ _ (cT pas (co ls j)) _ (iQ pas (co ls j)) .none (V6 ls pas more j)) ?_) conv
  refine aU (decide_eq_true (by rw [length_map];omega)) ⟨V1 hlt rfl rfl,⟨pas,_,zero_le _,rfl,hwj,rfl,rfl,rfl,rfl,rfl⟩,⟨pas,_,zero_le _,rfl,hwj,rfl,rfl,rfl,rfl,rfl⟩,hml,⟨rfl,hml⟩,hft,⟨pas,_,zero_le _,hwj,rfl,rfl⟩,⟨trivial,rfl,trivial⟩,aO (fj _ _) ⟨⟨pas,_,zero_le _,hwj,rfl,rfl,rfl,rfl⟩,⟨rfl,trivial,rfl,trivial⟩,hft,⟨pas,_,zero_le _,hwj,rfl,rfl⟩,⟨rfl,trivial⟩,aO (fj _ _) ⟨⟨pas,_,zero_le _,hwj,rfl,rfl⟩,⟨pas,_,zero_le _,hwj,rfl,rfl⟩,aO (fj _ _) ⟨rfl,rfl,rfl,hlt,?_,?_⟩⟩⟩⟩
  ·rw [bE (by omega) (by omega)];rfl
  ·unfold rF;rw [hw];rfl
 ·obtain rfl:j=ls.length:=by omega
  have hS:bk prog aS (aI [(nR,yI .gone [] 0 0 []),(nT,ES (il pas (.vec 1 [] .none) 0 0 (.vec 1 [] .none) 0) [] 0 0 []),(lz,EN),(qp,EM),(vX,yC),(yA,K7 (([]:Bs).length:Nat)),(vU,yJ 0 0 []),(sF,K8 0),(qt,wT 0),(ER,ET 0)]):=aQ λp hp=>by
   rcases mem_cons.1 hp with rfl | hp;exact uD _ _ _ _ _
   rcases mem_cons.1 hp with rfl | hp;exact EU _ _ _ _ _
   rcases mem_cons.1 hp with rfl | hp;exact EQ
   rcases mem_cons.1 hp with rfl | hp;exact EP
   rcases mem_cons.1 hp with rfl | hp;exact yF bH
   rcases mem_cons.1 hp with rfl | hp;exact La _
   rcases mem_cons.1 hp with rfl | hp;exact yK _ _ _
   rcases mem_cons.1 hp with rfl | hp;exact Lb _
   rcases mem_cons.1 hp with rfl | hp;exact Aj _
   obtain rfl:=mem_singleton.1 hp;exact GE _
  refine VWx.mono (cg ag ac hS ai (Lj pas ls.length _ _ _ _ (ls.map dL) more [] _ _ _ (cT pas (co ls ls.length)) _ (iQ pas (co ls ls.length)) .none (V6 ls pas more ls.length)) ?_) conv
  exact aO (decide_eq_false (by rw [length_map];omega)) ⟨rfl,rfl,rfl,rfl,rfl,rfl,rfl,rfl⟩
theorem V7 {more:Bs}(hl:ls.length≤140737488355328)(h:∀b∈ls,b.length≤140737488355328∧mX b)(hm:mX more)(pas:Int):VCx prog aS 0 nI [.val (.int .i64 pas),.vec 1 (ls.map dL) .none,.vec 1 more .none] ⟨[],[]⟩ mE:=by
 have hr:∀b∈ls,b.length≤140737488355328∧∀f g,bm f g b=b:=λb hb=>⟨(h b hb).1,EV (h b hb).2⟩
 have hlt:IE (ls.map dL) (uG ls):=⟨ls,rfl,hl,hr,rfl⟩
 by_cases hgo:uG ls=true∧more.length≤5000
 ·obtain ⟨hgo,hml⟩:=hgo
  have hg2:=hgo
  unfold uG at hg2
  simp only [and_eq_true,decide_eq_true_eq] at hg2
  have hlen:=GH ls 0 (zero_le _) hg2.2
  rw [Nat.zero_add] at hlen
  have hb:IsB ls.flatten:=⟨Bi λb hb=>(h b hb).2,by omega⟩
  have hmB:IsB more:=⟨hm,by omega⟩
  have hW:IsB (co ls ls.length):=yM hb _
  have hWl:(co ls ls.length).length≤30000:=by unfold co;rw [take_length];exact hlen
  have hWm:IsB (co ls ls.length++more):=hW.append hmB (by rw [length_append];omega)
  have hln:(cn (co ls ls.length++more) pas).length≤32000000:=le_trans (GC hWm) hWm.2
  have hmw:Ah ((gm (co ls ls.length) more pas).map MsgS.cells):=⟨_,Ae hWm,by unfold gm;rw [length_drop];omega,rfl⟩
  have hS:bk prog aS (aI [(mg,Ai (uG ls)),(vy,uW),(uy,Bh (cT pas [])),(Lf,IF),(Lg,IG),(nR,yI (cT pas (co ls ls.length++more)) ((gm (co ls ls.length) more pas).map MsgS.cells) (ep (co ls ls.length++more) pas) (dv (co ls ls.length++more) pas) (dn (co ls ls.length++more) pas)),(nT,ES (il pas (.vec 1 (aW (co ls ls.length++more) pas).2.1 .none) (ep (co ls ls.length++more) pas) (dv (co ls ls.length++more) pas) (.vec 1 (dn (co ls ls.length++more) pas) .none) ((cn (co ls ls.length++more) pas).length:Nat)) ((gm (co ls ls.length) more pas).map MsgS.cells) (ep (co ls ls.length++more) pas) (dv (co ls ls.length++more) pas) (dn (co ls ls.length++more) pas)),(lz,EN),(qp,EM),(vX,yC),(yA,Ph),(sF,Pi),(Lh,II (cT pas [])),(vU,yJ 0 0 []),(qt,wT 19)]):=aQ λp hp=>by
   rcases mem_cons.1 hp with rfl | hp;exact GF _
   rcases mem_cons.1 hp with rfl | hp;exact CW bH GG
   rcases mem_cons.1 hp with rfl | hp;exact EO _
   rcases mem_cons.1 hp with rfl | hp;exact R2
   rcases mem_cons.1 hp with rfl | hp;exact R3
   rcases mem_cons.1 hp with rfl | hp;exact uD _ _ _ _ _
   rcases mem_cons.1 hp with rfl | hp;exact EU _ _ _ _ _
   rcases mem_cons.1 hp with rfl | hp;exact EQ
   rcases mem_cons.1 hp with rfl | hp;exact EP
   rcases mem_cons.1 hp with rfl | hp;exact yF bH
   rcases mem_cons.1 hp with rfl | hp;exact VZ
   rcases mem_cons.1 hp with rfl | hp;exact V0
   rcases mem_cons.1 hp with rfl | hp;exact R4 _
   rcases mem_cons.1 hp with rfl | hp;exact yK _ _ _
   obtain rfl:=mem_singleton.1 hp;exact Aj _
  have hL:dD prog aS (cG [(0,dB 169 uI [] (nU more (ls.map dL) 0) ⟨[cT pas [],Xo pas],[]⟩ (λK=>K .normal (aJ 169 uI (nU more (ls.map dL) (ls.map dL).length)) ⟨[cT pas (co ls ls.length),il pas (.vec 1 (aW (co ls ls.length) pas).2.1 .none) (ep (co ls ls.length) pas) (dv (co ls ls.length) pas) (.vec 1 (dn (co ls ls.length) pas) .none) ((cn (co ls ls.length) pas).length:Nat)],[]⟩ []),aA prog nI 0)]):=bL λp hp=>by
   obtain rfl:=mem_singleton.1 hp
   refine ce λK hK=> ?_
   refine VWx.cellsLe (i:=1) (cs':= [.val (.int .i64 pas),.vec 1 [] .none,.val (.int .i64 0),.val (.int .i64 0),.vec 1 [] .none,.val (.int .i64 0)]) rfl ⟨.refl _,.nil 1,.refl _,.refl _,.nil 1,.refl _,trivial⟩ ?_
   have hh:=R6 (pas:=pas) (more:=more) hb hlen hg2.1 (EV hm) hr K (by rw [length_map] at hK;exact hK)
   have e:rF ls pas 0= [cT pas [],iQ pas []]:=rfl
   rw [e,RY] at hh
   exact hh
  have st0:uH 0 0 (cT pas (co ls ls.length)):=⟨pas,_,le_refl _,hW,rfl⟩
  have st1:uH 0 0 (cT pas []):=⟨pas,_,le_refl _,.nil,rfl⟩
  have hz:=cS (w:= []) pas (by simp)
  have l0:yL (cT pas [])=0:=by show (((aW [] pas).2.1.length:Nat):Int)=0;rw [hz];rfl
  have c0:B8 (cT pas [])=0:=by show (((cn [] pas).length:Nat):Int)=0;unfold cn;rw [hz];rfl
  have n0:jV [] pas=19:=by unfold jV;rw [hz];decide
  refine aj ag ac hS hL (VU pas _ _ _ _ _ _ (uG ls) (ls.map dL) more _ _ _ _ _ _ _ _ _ _) ⟨hlt,aO (by rw [hgo];rfl) (aO (decide_eq_false (by omega)) ⟨rfl,rfl,⟨rfl,rfl,rfl,trivial,rfl,rfl,rfl⟩,⟨pas,_,le_refl _,hW,rfl⟩,⟨pas,_,zero_le _,hW,rfl⟩,⟨pas,_,zero_le _,rfl,hWm,rfl,rfl,rfl,rfl,rfl⟩,⟨pas,_,zero_le _,rfl,hWm,rfl,rfl,rfl,rfl,rfl⟩,hmw,⟨rfl,hmw⟩,⟨rfl,_,_,_,jH hWm,rfl⟩,st0,⟨trivial,rfl,trivial⟩,aO (fj _ _) ⟨st0,⟨rfl,trivial,rfl,trivial⟩,aO (fj _ _) ⟨⟨pas,_,le_refl _,hW,rfl,rfl⟩,st1,st1,?_⟩⟩⟩)⟩
  rw [l0,c0]
  refine aU (by decide) ⟨⟨pas,[],le_refl _,.nil,rfl,?_,?_,?_⟩,⟨pas,[],le_refl _,.nil,rfl,n0.symm⟩,trivial⟩
  ·unfold ep iP;rw [hz];rfl
  ·unfold dv;rw [hz]
  ·unfold dn;rw [hz]
 ·refine aj ag ac (aQ (l:= [(mg,Ai (uG ls)),(vy,uW),(uy,λ_ _ _ _=>False)]) λp hp=> ?_) (bL (l:= [(0,λ_ _ _ _ _ _=>False,aA prog nI 0)]) λp hp=>by
   obtain rfl:=mem_singleton.1 hp
   exact λrd ro σ T D K h=>h.elim) (VV pas (uG ls) (ls.map dL) more _) ⟨hlt,ak (λ_=>trivial) (λc1=>ak (λ_=>trivial) (λc2=>absurd ⟨(by cases hc:uG ls<;>rw [hc] at c1<;>first | rfl | (cases c1)),by have:=of_decide_eq_false c2;omega⟩ hgo))⟩
  rcases mem_cons.1 hp with rfl | hp;exact GF _
  rcases mem_cons.1 hp with rfl | hp;exact CW bH GG
  obtain rfl:=mem_singleton.1 hp;exact λ_ _ _ _ h=>h.elim
end
section
open Go.ChangeShapes Go.WideShapes Go.ChangeAt Go.RowKit Go.Joins Go.Deep
theorem wU {α:Type}{k:Nat}:∀(l:List (List α)),(∀x∈l,x.length=k)→∀(j:Nat) u,l.flatten[j]?=some u→∃i c x,c<k∧j=i*k+c∧l[i]?=some x∧x[c]?=some u
 |[],_,j,u,h=>by simp at h
 |a::r,hz,j,u,h=>by
  have ha:=hz a (by simp)
  rw [flatten_cons] at h
  rcases Nat.lt_or_ge j a.length with hj | hj
  ·rw [List.getElem?_append_left hj] at h
   exact ⟨0,j,a,by omega,by omega,rfl,h⟩
  ·rw [List.getElem?_append_right hj] at h
   obtain ⟨i,c,x,h1,h2,h3,h4⟩:=wU r (λx hx=>hz x (by simp [hx])) _ u h
   refine ⟨i+1,c,x,h1,?_,by simpa using h3,h4⟩
   rw [Nat.add_mul];omega
section
variable {P:Program}{H:Type}{enc:TypeId × Value→H}{w:World}{base:Nat}{spare:Nat→Bool}{held:Bool}
end
end
section
open Go.ChangeShapes Go.WideShapes Go.ChangeAt Go.RowKit Go.Joins Go.Deep
inductive SH where
 |int (k:IntKind)
 |bool
 |str
 |slice (es:List SH)
mutual
def SH.Fits:SH→TV→Prop
 | .int k,x=>∃z,x=.val (.int k z)∧(Lit.int k z).wf=true
 | .bool,x=>∃b,x=.val (.bool b)
 | .str,x=>∃s:ByteArray,x=.val (.string s)∧s.size≤maxLen
 | .slice es,x=>∃l:List (List TV),x=.vec es.length l .none∧l.length≤maxLen∧∀e∈l,gZ es e
def gZ:List SH→List TV→Prop
 |[],[]=>True
 |s::ss,x::xs=>s.Fits x∧gZ ss xs
 |_,_=>False
end
theorem Bj:∀{ss:List SH} {xs:List TV},gZ ss xs→xs.length=ss.length
 |[],[],_=>rfl
 |[],_::_,h=>by simp [gZ] at h
 |_::_,[],h=>by simp [gZ] at h
 |s::ss,x::xs,h=>by
  simp only [gZ] at h
  simp [Bj h.2]
theorem yN {s:SH}{ss:List SH}{xs:List TV}(h:gZ (s::ss) xs):∃x r,xs=x::r∧s.Fits x∧gZ ss r:=by
 cases xs with
 |nil=>simp [gZ] at h
 |cons x r=>simp only [gZ] at h;exact ⟨x,r,rfl,h⟩
theorem Bk {xs:List TV}(h:gZ [] xs):xs= []:=by
 cases xs with
 |nil=>rfl
 |cons x r=>simp [gZ] at h
theorem NP {k:IntKind}{x:TV}(h:SH.Fits (.int k) x):∃z,x=.val (.int k z)∧(Lit.int k z).wf=true:=by simpa [SH.Fits] using h
theorem sK {es:List SH}{x:TV}(h:SH.Fits (.slice es) x):∃l:List (List TV),x=.vec es.length l .none∧l.length≤maxLen∧∀e∈l,gZ es e:=by simpa [SH.Fits] using h
def yO (f:TypeId→Option SH):List TypeId→Option (List SH)
 |[]=>some []
 |t::r=>match f t,yO f r with
  |some s,some l=>some (s::l)
  |_,_=>none
theorem GI {f:TypeId→Option SH}:∀{ts:List TypeId} {ss:List SH},yO f ts=some ss→ss.length=ts.length
 |[],ss,h=>by simp [yO] at h;subst h;rfl
 |t::r,ss,h=>by
  simp only [yO] at h
  split at h
  ·rename_i s l h1 h2
   injection h with h;subst h
   simp [GI h2]
  ·cases h
def EW (P:Program):Nat→TypeId→Option SH
 | 0,_=>none
 |n+1,t=>match P.underlying t with
  |some (.int k)=>some (.int k)
  |some .bool=>some .bool
  |some .string=>some .str
  |some (.slice e)=>match qX P n e with
   |some ts=>bif beq (P.cellsOf e) ts.length&&ble 1 ts.length then (yO (EW P n) ts).map .slice else none
   |none=>none
  |_=>none
section
variable {P:Program}{H:Type}{enc:TypeId × Value→H}{w:World}{base:Nat}{held:Bool}
abbrev EX (enc:TypeId × Value→H)(P:Program)(w:World)(base:Nat)(held:Bool)(t:TypeId)(sh:SH):Prop:=∀u m y,trod enc P w base (λ_=>true) held m t [u]=some y→u.oneCell'=true∧∃x,VR (kR w) w x u∧sh.Fits x
theorem EY {f:TypeId→Option SH}(hf:∀t sh,f t=some sh→EX enc P w base held t sh):∀(ts:List TypeId) (ss:List SH) (cs:List Value),yO f ts=some ss→cs.length=ts.length→
  (∀(j:Nat) t',ts[j]?=some t'→∃u m y,cs[j]?=some u∧trod enc P w base (λ_=>true) held m t' [u]=some y)→(∀u∈cs,u.oneCell'=true)∧∃xs,VRs (kR w) w xs cs∧gZ ss xs
 |[],ss,cs,h,hl,_=>by
  simp [yO] at h;subst h
  have:=List.eq_nil_of_length_eq_zero hl
  subst this
  exact ⟨by simp,[],VRs.nil _ _,trivial⟩
 |t::r,ss,[],h,hl,_=>by simp at hl
 |t::r,ss,c::cs,h,hl,hj=>by
  simp only [yO] at h
  split at h
  ·rename_i s l h1 h2
   injection h with h;subst h
   obtain ⟨u,m,y,k1,k2⟩:=hj 0 t rfl
   simp at k1;subst k1
   obtain ⟨a1,x,a2,a3⟩:=hf t s h1 _ m y k2
   obtain ⟨b1,xs,b2,b3⟩:=EY hf r l cs h2 (by simpa using hl) λj t' ht'=>by
    obtain ⟨u,m,y,k1,k2⟩:=hj (j+1) t' (by simpa using ht')
    exact ⟨u,m,y,by simpa using k1,k2⟩
   refine ⟨λu hu=> ?_,x::xs,VRs.cons a2 b2,a3,b3⟩
   rcases mem_cons.1 hu with rfl | hu
   ·exact a1
   ·exact b1 u hu
  ·cases h
theorem yP {e:TypeId}{n:Nat}{ts:List TypeId}{f:TypeId→Option SH}{ss:List SH}(hf:∀t sh,f t=some sh→EX enc P w base held t sh)(hts:qX P n e=some ts)(hss:yO f ts=some ss):
    ∀(rows:List (List Value)),(∀x∈rows,x.length=ts.length∧∃m y,trod enc P w base (λ_=>true) held m e x=some y)→
      (∀u∈rows.flatten,u.oneCell'=true)∧∃l:List (List TV),l.length=rows.length∧VRs (kR w) w l.flatten rows.flatten∧∀x∈l,gZ ss x
  |[],_=>⟨by simp,[],rfl,VRs.nil _ _,by simp⟩
  |r::rows,h=>by
    obtain ⟨h1,m,y,h2⟩:=h r mem_cons_self
    obtain ⟨a1,xs,a2,a3⟩:=EY hf ts ss r hss h1 (AG n m e ts r y hts h1 h2)
    obtain ⟨b1,l,b2,b3,b4⟩:=yP hf hts hss rows λx hx=>h x (mem_cons_of_mem _ hx)
    refine ⟨λu hu=> ?_,xs::l,by simp [b2],by rw [flatten_cons,flatten_cons];exact a2.app b3,λx hx=> ?_⟩
    · rw [flatten_cons] at hu
      rcases mem_append.1 hu with hu | hu
      · exact a1 u hu
      · exact b1 u hu
    · rcases mem_cons.1 hx with rfl | hx
      · exact a3
      · exact b4 x hx
theorem Bl:∀(n:Nat) (t:TypeId) (sh:SH),EW P n t=some sh→EX enc P w base held t sh
 | 0,_,_,h=>by simp [EW] at h
 |n+1,t,sh,h=>by
  intro u m y hy
  simp only [EW] at h
  split at h
  ·rename_i k hk
   injection h with h;subst h
   obtain ⟨z,rfl,wz⟩:=LY hk hy
   exact ⟨rfl,_,.val _,z,rfl,wz⟩
  ·rename_i hk
   injection h with h;subst h
   obtain ⟨b,e,_⟩:=DataW.trod_bool hk hy
   injection e with e;subst e
   exact ⟨rfl,_,.val _,b,rfl⟩
  ·rename_i hk
   injection h with h;subst h
   obtain ⟨s,e,_,hs⟩:=DataW.trod_string hk hy
   injection e with e;subst e
   exact ⟨rfl,_,.val _,s,rfl,hs⟩
  ·rename_i e ht
   split at h
   ·rename_i ts hts
    cases hb:(beq (P.cellsOf e) ts.length&&ble 1 ts.length) with
    |false=>rw [hb] at h;cases h
    |true=>
     rw [hb] at h
     simp only [and_eq_true] at hb
     have hk:=Nat.eq_of_beq_eq_true hb.1
     have hpos:=le_of_ble_eq_true hb.2
     simp only [cond_true,Option.map_eq_some_iff] at h
     obtain ⟨ss,hss,rfl⟩:=h
     have hsl:=GI hss
     rcases open_slice ht hy with ⟨hcs,_⟩ | ⟨a,len,cap,m',n',D,Pl,hcs,hbb,hl,hm,hmm,hx,hall⟩
     ·injection hcs with hcs;subst hcs
      exact ⟨rfl,.vec ss.length [] .none,.nil trivial,[],rfl,zero_le _,by simp⟩
     ·injection hcs with hcs;subst hcs
      simp only [if_true] at hmm
      subst hmm
      rw [hk] at hall
      obtain ⟨b,o,sp⟩:=a
      rcases Nat.eq_zero_or_pos m' with hc0 | hc0
      ·subst hc0
       have:len=0:=by omega
       subst this
       exact ⟨rfl,.vec ss.length [] .none,.odd _ trivial,[],rfl,zero_le _,by simp⟩
      ·have hsp:sp=none:=by
        obtain ⟨cs',h1,_⟩:=hall 0 hc0
        obtain ⟨_,h3,h4⟩:=cells?_some h1
        have h5:=h4 0 hpos
        rw [getElem?_eq_getElem (by omega)] at h5
        cases sp with
        |none=>rfl
        |some s=>simp [World.cell?,Addr.add] at h5;split at h5<;>cases h5
       subst hsp
       obtain ⟨V,hV⟩:=choose_lt (α:=List Value) (p:=λi cs'=>w.cells? base ((⟨b,o,none⟩:Addr).add (i*ts.length)) ts.length=some cs'∧trod enc P w base (λ_=>true) held n' e cs'=some (D i,Pl i)) (λi hi=>hall i hi)
       have each:∀i,i<len→(V i).length=ts.length∧(∀c,c<ts.length→w.cell? ⟨b,o+(i*ts.length+c),none⟩=(V i)[c]?)∧∃y,trod enc P w base (λ_=>true) held n' e (V i)=some y:=λi hi=>by
        obtain ⟨h1,h2⟩:=hV i (by omega)
        obtain ⟨_,h3,h4⟩:=cells?_some h1
        refine ⟨h3,λc hc=> ?_,_,h2⟩
        rw [←h4 c hc]
        congr 1
        simp [Addr.add_none,Nat.add_assoc]
       have at1:∀(i:Nat) x,((List.range len).map V)[i]?=some x→i<len∧x=V i:=λi x hx=>by
        rw [getElem?_map] at hx
        rcases Nat.lt_or_ge i len with hi | hi
        ·rw [List.getElem?_range hi] at hx
         injection hx with hx
         exact ⟨hi,hx.symm⟩
        ·rw [List.getElem?_eq_none (by simpa using hi)] at hx;cases hx
       have hz:∀x∈(List.range len).map V,x.length=ts.length:=λx hx=>by
        obtain ⟨i,hi,rfl⟩:=mem_map.1 hx
        exact (each i (mem_range.1 hi)).1
       obtain ⟨k1,l,k2,k3,k4⟩:=yP (λt sh h=>Bl n t sh h) hts hss ((List.range len).map V) λx hx=>by
        obtain ⟨i,hi,rfl⟩:=mem_map.1 hx
        obtain ⟨e1,_,y,e3⟩:=each i (mem_range.1 hi)
        exact ⟨e1,n',y,e3⟩
       have hlen:l.length=len:=by rw [k2];simp
       refine ⟨rfl,.vec ss.length l .none,?_,l,rfl,by omega,k4⟩
       refine .mk_vec hlen.symm hl hm (λx hx=>Bj (k4 x hx)) trivial k3 (λj hj=> ?_) (λj u hu=> ?_) k1
       ·rw [←k3.1] at hj
        obtain ⟨i,c,x,h1,h2,h3,h4⟩:=wU _ hz j _ (getElem?_eq_getElem hj)
        obtain ⟨hi,rfl⟩:=at1 i x h3
        show (w.cell? ⟨b,o+j,none⟩).isSome=true
        rw [h2,(each i hi).2.1 c h1,h4];rfl
       ·obtain ⟨i,c,x,h1,h2,h3,h4⟩:=wU _ hz j u hu
        obtain ⟨hi,rfl⟩:=at1 i x h3
        rw [h2,(each i hi).2.1 c h1,h4]
   ·cases h
  ·cases h
theorem yQ {m:Nat}{t:TypeId}{sh:SH}{r:Reach}{b0:Nat}{v:Value}{d:DataW H}{p:List MemPlace}(hs:EW P m t=some sh)
  (hv:okWide P w r b0 t v) (h:Trod enc P w base (λ_=>true) held t v d p):∃x,VR (kR w) w x v∧sh.Fits x:=by
 have hc:v.cells.toList= [v]:=by
  cases m with
  |zero=>simp [EW] at hs
  |succ m=>
   simp only [EW] at hs
   unfold okWide at hv
   split at hs
   ·rename_i k hk
    rw [hk] at hv
    simp only [Cell.okWide,hk] at hv
    cases v<;>simp [Cell.ok,hk] at hv<;>rfl
   ·rename_i hk
    rw [hk] at hv
    simp only [Cell.okWide,hk] at hv
    cases v<;>simp [Cell.ok,hk] at hv<;>rfl
   ·rename_i hk
    rw [hk] at hv
    simp only [Cell.okWide,hk] at hv
    cases v<;>simp [Cell.ok,hk] at hv<;>rfl
   ·rename_i e hk
    obtain ⟨qq,n,c,rfl⟩:=okWide_slice hk (by unfold okWide;exact hv)
    rfl
   ·cases hs
 obtain ⟨fuel,hf⟩:=h
 rw [hc] at hf
 exact (Bl m t sh hs v fuel _ hf).2
end
end
section
open Go.RowKit Go.Deep Go.WideShapes Go.ChangeAt
def NQ (l:List Nat):Prop:=∀n∈l,n≤reachBytes
theorem pF {g:Gh}{w:World}{size:Nat}{es:List (List TV)}{tok:Tok}{a:Option Addr}{n c:Nat}(h:VR g w (.vec size es tok) (.slice a n c)):es.length=n:=by
 rcases h.vec_inv with ⟨h1,rfl,_⟩ | ⟨b,o,c',us,h1,_⟩ | ⟨a',h1,rfl,_⟩
 ·injection h1 with _ h2;rw [h2];rfl
 ·injection h1 with _ h2;exact h2.symm
 ·injection h1 with _ h2;rw [h2];rfl
section
variable {H:Type}{enc:TypeId × Value→H}{w:World}{base:Nat}{held:Bool}
theorem Ll {t e:TypeId}{n:Nat}{u:Value}{y:DataW H × List MemPlace}{g:Gh}{size:Nat}{es:List (List TV)}{tok:Tok}(ht:prog.underlying t=some (.slice e))(hb:1≤prog.bytesOf e)
  (h:trod enc prog w base (λ_=>true) held n t [u]=some y) (hr:NQ (y.1.weights prog t)) (hv:VR g w (.vec size es tok) u):es.length≤reachBytes:=by
 rcases open_slice ht h with ⟨hcs,_⟩ | ⟨a,len,cap,m',n',D,Pl,hcs,_,_,_,_,rfl,_⟩
 ·injection hcs with hcs;subst hcs
  rw [pF hv];exact zero_le _
 ·injection hcs with hcs;subst hcs
  rw [pF hv]
  unfold weights at hr
  rw [ht] at hr
  have h1:=hr _ mem_cons_self
  rw [length_map,List.length_range] at h1
  exact le_trans (le_trans (Nat.le_mul_of_pos_right _ hb) (Nat.mul_le_mul_right _ (Nat.le_add_right _ _))) h1
theorem EZ:reachBytes≤140737488355328:=by decide
theorem rG {P:Program}{e:TypeId}{d:DataW H}{n:Nat}(hn:n∈d.weights P e):∀{l:List (DataW H)},d∈l→n∈DataW.weightsAll P e l
 |x::l,hd=>by
  simp only [DataW.weightsAll]
  rcases mem_cons.1 hd with rfl | hd
  ·exact List.mem_append_left _ hn
  ·exact List.mem_append_right _ (rG hn hd)
theorem GJ {l:List (List TV)}(h:∀e∈l,gZ [.int .u8] e):mX l:=by
 induction l with
 |nil=>exact ⟨[],rfl,λ_ h=>by cases h⟩
 |cons x l ih=>
  obtain ⟨zs,h1,h2⟩:=ih λy hy=>h y (mem_cons_of_mem _ hy)
  obtain ⟨x0,r,rfl,h3,h4⟩:=yN (h x mem_cons_self)
  obtain rfl:=Bk h4
  obtain ⟨z,rfl,hz⟩:=NP h3
  refine ⟨z::zs,by simp only [bV,map_cons] at h1 ⊢;rw [h1];rfl,λy hy=> ?_⟩
  rcases mem_cons.1 hy with rfl | hy
  ·simp [Lit.wf] at hz
   have e0:u8.min=0:=by decide
   have e1:u8.max=255:=by decide
   omega
  ·exact h2 y hy
theorem Fh {b0:Nat}{v:Value}{d:DataW H}{p:List MemPlace}(hv:okWide prog w .any b0 42 v)(h:Trod enc prog w base (λ_=>true) held 42 v d p)(hr:NQ (d.weights prog 42)):
  ∃ls:List Bs,VR (kR w) w (.vec 1 (ls.map dL) .none) v∧ls.length≤140737488355328∧∀b∈ls,b.length≤140737488355328∧mX b:=by
 obtain ⟨x,h1,h2⟩:=yQ (m:=5) (sh:=.slice [.slice [.int .u8]]) (by kernel_rfl) hv h
 obtain ⟨l,rfl,_,hl⟩:=sK h2
 have hrow:∀e∈l,∃b:Bs,e=dL b∧mX b:=λe he=>by
  obtain ⟨x0,r,rfl,h3,h4⟩:=yN (hl e he)
  obtain rfl:=Bk h4
  obtain ⟨b,rfl,_,hb⟩:=sK h3
  exact ⟨b,rfl,GJ hb⟩
 have hex:∀l:List (List TV),(∀e∈l,∃b:Bs,e=dL b∧mX b)→∃ls:List Bs,l=ls.map dL∧∀b∈ls,mX b:=λl=>by
  induction l with
  |nil=>exact λ_=>⟨[],rfl,λ_ h=>by cases h⟩
  |cons e l ih=>
   intro hh
   obtain ⟨b,rfl,hb⟩:=hh e mem_cons_self
   obtain ⟨ls,rfl,hls⟩:=ih λx hx=>hh x (mem_cons_of_mem _ hx)
   exact ⟨b::ls,rfl,λc hc=>by
    rcases mem_cons.1 hc with rfl | hc
    ·exact hb
    ·exact hls c hc⟩
 obtain ⟨ls,rfl,hz⟩:=hex l hrow
 obtain ⟨fuel,hf⟩:=h
 obtain ⟨qq,n,c,rfl⟩:=okWide_slice underlying42 hv
 have hf':trod enc prog w base (λ_=>true) held fuel 42 [.slice qq n c]=some (d,p):=hf
 refine ⟨ls,h1,?_,λb hb=>⟨?_,hz b hb⟩⟩
 ·have:=Ll underlying42 (le_of_ble_eq_true (by kernel_rfl)) hf' hr h1
  rw [length_map] at this
  exact le_trans this EZ
 ·obtain ⟨j,hj,rfl⟩:=List.mem_iff_getElem.1 hb
  have hn:=pF h1
  rw [length_map] at hn
  rcases open_slice underlying42 hf' with ⟨hcs,hx⟩ | ⟨a,len,cap,m',n',D,Pl,hcs,_,hle,_,hm,hx,hall⟩
  ·injection hcs with hcs;injection hcs with _ e2;omega
  ·injection hcs with hcs;injection hcs with e1 e2 e3;subst e1 e2 e3
   injection hx with hx _;subst hx
   simp only [if_true] at hm
   have hk:prog.cellsOf 22=1:=by kernel_rfl
   obtain ⟨cs',g1,g2⟩:=hall j (by omega)
   rw [hk] at g1
   obtain ⟨_,g3,g4⟩:=cells?_some g1
   rcases h1.vec_inv with ⟨hh,_⟩ | ⟨b,o,c',us,hh,_,_,_,_,⟨hul,huv⟩,_,hus,_⟩ | ⟨a',hh,he,_⟩
   ·cases hh
   ·injection hh with hh _ _;injection hh with hh;subst hh
    have hfl:(ls.map dL).flatten[j]?=some (.vec 1 ls[j] .none):=by
     have e:∀l:List Bs,(l.map dL).flatten=l.map λb=>TV.vec 1 b .none:=λl=>by
      induction l with
      |nil=>rfl
      |cons x l ih=>rw [map_cons,flatten_cons,ih];rfl
     rw [e,getElem?_map,getElem?_eq_getElem hj];rfl
    have hju:j<us.length:=by rw [hul];exact (List.getElem?_eq_some_iff.1 hfl).1
    have hvj:=huv j _ _ hfl (getElem?_eq_getElem hju)
    have hcell:=hus j _ (getElem?_eq_getElem hju)
    have hc0:=g4 0 (by omega)
    obtain ⟨u,rfl⟩:∃u,cs'= [u]:=by
     match cs',g3 with
     |[u],_=>exact ⟨u,rfl⟩
    have hu:us[j]=u:=by
     have e:(((⟨b,o,none⟩:Addr).add (j*1)).add 0)=⟨b,o+j,none⟩:=by simp [Addr.add_none]
     rw [e,hcell] at hc0
     simpa using hc0
    rw [hu] at hvj
    refine le_trans (Ll underlying22 (le_of_ble_eq_true (by kernel_rfl)) g2 (λz hz=>hr z ?_) hvj) EZ
    unfold weights
    rw [underlying42]
    exact mem_cons_of_mem _ (List.mem_append_left _ (rG hz (List.mem_map_of_mem (f:=D) (mem_range.2 (by omega)))))
   ·rw [List.map_eq_nil_iff] at he;rw [he] at hj;cases hj
theorem Lm {b0:Nat}{v:Value}{d:DataW H}{p:List MemPlace}(hv:okWide prog w .any b0 22 v)(h:Trod enc prog w base (λ_=>true) held 22 v d p):∃b:Bs,VR (kR w) w (.vec 1 b .none) v∧mX b:=by
 obtain ⟨x,h1,h2⟩:=yQ (m:=5) (sh:=.slice [.int .u8]) (by kernel_rfl) hv h
 obtain ⟨l,rfl,_,hl⟩:=sK h2
 exact ⟨l,h1,GJ hl⟩
end
theorem R7 (pas:Int)(ls:List Bs)(hl:ls.length≤140737488355328)(h:∀b∈ls,b.length≤140737488355328∧mX b)(more:Bs)(hm:mX more)(v u:Value)(w:World)(hG:GOk aS (kR w) w)(hv:VR (kR w) w (.vec 1 (ls.map dL) .none) v)(hu:VR (kR w) w (.vec 1 more .none) u):
  Calls prog 4 #[.int .i64 pas,v,u] w λe w'=>e=.returned (.bool true)∧Gr w w':=
 VCx.topK (us:= [.int .i64 pas,v,u]) (V7 hl h hm pas) w hG (VRs.cons (.val _) (VRs.cons hv (VRs.cons hu (VRs.nil _ _))))
theorem E0 {W:World}(h:laidMetH prog Rows.frameFeedsRow.laid W):Lib.TabIs prog W "fairway/message.least" .i64 po:=by
 have h':laidMet prog [("fairway/message.least",Lib.tabData .i64 po)] W:=h
 exact Lib.tabIs_of_head yi (by kernel_rfl) Tryz.underlying112 Tryz.underlying3 (by kernel_rfl) (by kernel_rfl) h'
end
section
open Go.ChangeShapes Go.WideShapes Go.ChangeAt Go.RowKit Go.Joins Go.Deep
theorem s5 (H:Type)(enc:TypeId × Value→H)(W:World)(base:Nat)(args:Array Value)(ds gs:List (DataW H))(before:List MemPlace)
  (hval0:∀(j:Nat) t v,Tryz.f4.params[j]?=some t→args[j]?=some v→okWide prog W .any base t v)
  (hW:DataW.Whole enc prog Tryz.f4.params.toList Rows.frameFeedsSpec.vars false W args.toList ds gs before) (hk:(DataW.weightsEach prog (Tryz.f4.params.toList++(ofChange Rows.frameFeedsSpec).bare.plain.varTypes prog) (ds++gs)).all (· ≤reachBytes)=true) (hL:laidMetH prog Rows.frameFeedsRow.laid W):
  Calls prog 4 args W λe W'=>∃v,e=.returned v∧Rows.frameFeedsSpec.post enc prog Tryz.f4 false true false false W args v W':=by
 have hval:∀(j:Nat) t v,Tryz.f4.params[j]?=some t→args[j]?=some v→okWide prog W .any base t v:=hval0
 have hW':=hW
 obtain ⟨p,q,hA0,hV,rfl,hfz,hnd⟩:=hW
 have hA:DataW.TrodAll enc prog W 0 (λ_=>true) true Tryz.f4.params.toList args.toList ds p:=hA0
 rw [params4] at hA hval
 obtain ⟨v0,vs0,d0,ds0,p0,q0,hargs,rfl,rfl,h0,r0⟩:=trodAll_cons hA
 obtain ⟨v1,vs1,d1,ds1,p1,q1,rfl,rfl,rfl,h1,r1⟩:=trodAll_cons r0
 obtain ⟨v2,vs2,d2,ds2,p2,q2,rfl,rfl,rfl,h2,r2⟩:=trodAll_cons r1
 obtain ⟨rfl,rfl,rfl⟩:=trodAll_nil r2
 obtain rfl:args= #[v0,v1,v2]:=by cases args;simp_all
 obtain ⟨rfl,rfl⟩:=trodVars_none hV
 have lt0:∀x∈p0,x.block<W.heap.size:=by obtain ⟨m,hm⟩:=h0;exact trod_lt m _ _ _ hm
 have lt1:∀x∈p1,x.block<W.heap.size:=by obtain ⟨m,hm⟩:=h1;exact trod_lt m _ _ _ hm
 have lt2:∀x∈p2,x.block<W.heap.size:=by obtain ⟨m,hm⟩:=h2;exact trod_lt m _ _ _ hm
 have hr:NQ (d1.weights prog 42):=λn hn=>by
  rw [params4] at hk
  have hm:n∈d0.weights prog 3++(d1.weights prog 42++DataW.weightsEach prog (22::(ofChange Rows.frameFeedsSpec).bare.plain.varTypes prog) ([d2]++ [])):=List.mem_append_right _ (List.mem_append_left _ hn)
  exact of_decide_eq_true (List.all_eq_true.1 hk n hm)
 obtain ⟨x0z,rfl,_,_,x0w⟩:=open_int Tryz.underlying3 (hval 0 3 v0 rfl rfl) h0
 obtain ⟨x1,x1v,x1l,x1b⟩:=Fh (hval 1 42 v1 rfl rfl) h1 hr
 obtain ⟨x2,x2v,x2b⟩:=Lm (hval 2 22 v2 rfl rfl) h2
 clear hA0 hval0
 refine (R7 x0z x1 x1l x1b x2 x2b v1 v2 W (Kp (E0 hL)) x1v x2v).mono λe W' ⟨he,bel⟩=> ?_
 subst he
 exact ⟨_,rfl,_,_,_,[],_,[],hW',trodAll_mk1 (shut_bool Tryz.underlying4 _),(trodAll_cons_mk (Below.trod ug (by kernel_rfl) (of_decide_eq_true (by kernel_rfl)) h0 bel lt0) (trodAll_cons_mk (Below.trod ug (by kernel_rfl) (of_decide_eq_true (by kernel_rfl)) h1 bel lt1) (trodAll_cons_mk (Below.trod ug (by kernel_rfl) (of_decide_eq_true (by kernel_rfl)) h2 bel lt2) trodAll_mk0))),rfl,Below.frame bel _,λh=>by cases h⟩
theorem R8 {H:Type}{enc:TypeId × Value→H}{C:Checked}{os:Os}{f:FuncId}{fn:Func}{s:OpenSpec}{conds:List PathCond}{apart:Bool}{laid:List (String × DataW Unit)}(w0:World)(args:Array Value)(hos:w0.os=os)
  (hsh:(w0.forCall (λ_ _=>0) ⟨#[],args,[]⟩).Shaped C.prog) (hok:Input.okWideB C.prog (w0.forCall (λ_ _=>0) ⟨#[],args,[]⟩) f ⟨#[],args,[]⟩=true)
  (hrow:s.preRow enc C.prog fn conds apart laid (w0.forCall (λ_ _=>0) ⟨#[],args,[]⟩).memory args):
  ∃(w:World) (tape:Tape) (i:Input),w.os=os∧(w.forCall tape i).Shaped C.prog∧i.vars= []∧Input.okWide C.prog (w.forCall tape i) .any w.heap.size f i∧
   s.preRow enc C.prog fn conds apart laid (w.forCall tape i).memory i.args∧({}:Assume).holds C.prog (lone (Frame.enter C.prog f i.args .normal) [] (w.forCall tape i)):=
 ⟨w0,λ_ _=>0,⟨#[],args,[]⟩,hos,hsh,(Input.okWide_of_okWideB (base:=0) hok).1,(Input.okWide_of_okWideB hok).2,hrow,by
  simp only [Assume.holds]
  exact ⟨by simp,by simp,λ_=>Modest.zero,by simp,by simp⟩⟩
theorem vz (os:Os)(started:os.Started)(H:Type)(enc:TypeId × Value→H)(F:Interp):
  ReturnsInHanded {} checked os 4 .any ((ofChange Rows.frameFeedsSpec).preRow enc prog Tryz.f4 Rows.frameFeedsRow.domain false Rows.frameFeedsRow.laid)
   (((ofChange Rows.frameFeedsSpec).at F).post enc prog Tryz.f4 false true false false):=by
 refine returnsInHanded_of_row (C:=checked) (s:=ofChange Rows.frameFeedsSpec) Nu started (by kernel_rfl) func4
  (R8 (enc:=enc) (C:=checked) (os:=os) (World.laidAll prog os Rows.frameFeedsRow.laid) #[.int .i64 0,.slice none 0 0,.slice none 0 0] (World.laidAll_os _ _ _) (World.shaped_of_ZipB (by kernel_rfl) (by kernel_rfl)) (by kernel_rfl)
   (OpenSpec.preRow_of_cond (x:=([.lit (.int .i64 0),.nil,.nil],[],[])) 8 (by kernel_rfl) (by kernel_rfl) (λk hk=>by cases hk) (by kernel_rfl) (by rw [MakeChecks.laidMetH_plain _ _ _ (by kernel_rfl)];exact laidMet_laidAll _ (by kernel_rfl) (by kernel_rfl)))) ?_
 intro W base args ds gs before hval hW _ _ hk hL _ _
 exact s5 H enc W base args ds gs before hval hW hk hL
end
section
open Go
theorem kb:pinned.checked=checked:=rfl
theorem mh:checked.prog=prog:=rfl
set_option maxHeartbeats 10000000 in
theorem vA:joinedFacts prog 4 Tryz.f4 Rows.frameFeedsSpec Rows.frameFeedsRow=true:=by
 unfold joinedFacts
 repeat' rw [and_eq_true]
 repeat' apply And.intro
 all_goals (as_aux_lemma=>kernel_rfl)
theorem wV:joinedFacts pinned.checked.prog 4 Tryz.f4 Rows.frameFeedsSpec Rows.frameFeedsRow=true:=by
 rw [kb,mh];exact vA
theorem yR:Tryz.f4.isInstance pinned.checked.prog Rows.frameFeedsRow.origin Rows.frameFeedsRow.targs:=(of_decide_eq_true (by kernel_rfl))
theorem yS:Tryz.f4.isWrapper pinned.checked.prog Rows.frameFeedsRow.wrapper Rows.frameFeedsRow.mainSum:=by unfold Func.isWrapper;first | (rw [if_pos (by decide+kernel)];kernel_rfl) | (rw [if_neg (by decide+kernel)];exact ⟨rfl,rfl⟩)
theorem qu:pinned.checked.prog.funcNamed Rows.frameFeedsRow.func=some 4:=by kernel_rfl
theorem s3:pinned.checked.prog.funcs[(4:Nat)]?=some Tryz.f4:=by
 rw [kb,mh];exact func4
theorem yT (os:Os)(started:os.Started)(H:Type)(enc:TypeId × Value→H)(F:Interp):
  ReturnsInHanded Rows.frameFeedsRow.assume pinned.checked os 4 .any ((ofChange Rows.frameFeedsSpec).preRow enc pinned.checked.prog Tryz.f4 Rows.frameFeedsRow.domain Rows.frameFeedsRow.apart Rows.frameFeedsRow.laid)
   (((ofChange Rows.frameFeedsSpec).at F).post enc pinned.checked.prog Tryz.f4 Rows.frameFeedsRow.apart Rows.frameFeedsRow.fresh Rows.frameFeedsRow.handsOn Rows.frameFeedsRow.again):=by
 rw [kb,mh]
 exact vz os started H enc F
theorem frameFeeds_holds:Rows.FrameFeedsSaid:=
 OpenClaim.holds_of_cond 4 Tryz.f4 rfl rfl rfl rfl rfl rfl rfl ⟨rfl,rfl,rfl,rfl,rfl⟩ rfl rfl rfl rfl rfl qu s3 wV yR yS
  (λos started H enc _ F=>by rw [OpenClaim.pre_eq_preRow];exact yT os started H enc F)
theorem Bp:Rows.frameFeedsRow.wfByText (ofChange Rows.frameFeedsSpec)=true:=by kernel_rfl
theorem yU:pinned.checked.prog.mainIs=some (true,("d86007e5bf9bb8b38bd9514c41c46ca1a94da96a85d6c67eb6aa7af7ccdc133f" :String).toList):=by kernel_rfl
theorem yV:false=Rows.frameFeedsRow.goesBy pinned.checked.prog:=by kernel_rfl
theorem wW:true=pinned.checked.prog.looks []:=by kernel_rfl
theorem wX:([3,42,22].all λu=> !Tryz.pinned.checked.prog.wantsStandIn u)=true:=by kernel_rfl
theorem Bq:Tryz.f4.params= #[3,42,22]:=params4
theorem frameFeedsCard_holds:Rows.FrameFeedsCardSaid:=
 Claim7.holds_tied_plain_at .later [] [.data] true (true, "d86007e5bf9bb8b38bd9514c41c46ca1a94da96a85d6c67eb6aa7af7ccdc133f") true
  frameFeeds_holds (λ_ h=>by cases h) Bp (λ_ h=>by cases h) frameFeeds_row_tie rfl ⟨rfl,rfl⟩ yU rfl
  (λf fn hf hfn=>by
   obtain rfl:f=4:=Option.some.inj (hf.symm.trans qu)
   obtain rfl:fn=Tryz.f4:=Option.some.inj (hfn.symm.trans s3)
   refine ⟨wW,λj t ht=> ?_⟩
   rw [Bq] at ht
   have hm:t∈ [3,42,22]:=by simpa using Array.mem_of_getElem? ht
   have:=List.all_eq_true.1 wX t hm
   simpa using this)
  yV
#print axioms frameFeedsCard_holds
end
end Go.Proofs.YtogbdjlelkepcaaGreatDoor