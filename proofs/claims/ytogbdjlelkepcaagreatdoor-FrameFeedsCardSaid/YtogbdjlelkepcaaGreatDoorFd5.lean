/-Part 5 of the proof of frameFeedsCard_holds:Vle,MsR,MsS ... No condition. -/
import Derived.Test.YtogbdjlelkepcaaGreatDoorFd1
import Derived.Test.YtogbdjlelkepcaaGreatDoorFd2
import Derived.Test.YtogbdjlelkepcaaGreatDoorFd3
import Derived.Test.YtogbdjlelkepcaaGreatDoorFd4
set_option maxRecDepth 100000
namespace Go.Proofs.YtogbdjlelkepcaaGreatDoor
open Go.RowKit
open Go.BinOp (eql neq)
open _root_.BitVec (ofInt toNat)
open _root_.Bool (and_eq_true)
open Go.IntKind (i64 u32 u8 wrap)
open _root_.List (append_nil drop getElem?_eq_getElem length length_append length_cons length_drop length_map length_nil map_append map_cons map_nil mem_append mem_cons mem_singleton take_succ_cons take_zero)
open _root_.Nat (ble le_of_ble_eq_true le_refl mul_le_mul not_lt_zero zero_le)
open _root_.Option (getD_some isSome_none isSome_some)
open Go.Proofs.Tryz (prog)
def TVle (x y:TV):Prop:=∀g w u,VR g w x u→VR g w y u
def TVleL:List TV→List TV→Prop
 |[],[]=>True
 |x::l,y::m=>TVle x y∧TVleL l m
 |_,_=>False
theorem TVle.refl (x:TV):TVle x x:=λ_ _ _ h=>h
theorem TVle.of_eq {x y:TV}(h:x=y):TVle x y:=h▸TVle.refl x
theorem TVle.nil (size:Nat):TVle (.val (.slice none 0 0)) (.vec size [] .none):=λ_ _ _ h=>by
 obtain rfl:=h.val_inv
 exact .nil trivial
theorem TVle.vec (size:Nat)(es:List (List TV))(tok:Tok):TVle (.vec size es tok) (.vec size es .none):=λ_ _ _ h=>sd h
theorem TVleL.refl:∀l,TVleL l l
 |[]=>trivial
 |x::l=>⟨TVle.refl x,TVleL.refl l⟩
theorem TVleL.at:∀{l m:List TV},TVleL l m→l.length=m.length∧∀(j:Nat) x y,l[j]?=some x→m[j]?=some y→TVle x y
 |[],[],_=>⟨rfl,λj _ _ h=>by simp at h⟩
 |a::l,b::m,h=>by
  obtain ⟨h1,h2⟩:=TVleL.at h.2
  refine ⟨by simp [h1],λj x y hx hy=> ?_⟩
  cases j with
  |zero=>simp at hx hy;subst hx hy;exact h.1
  |succ j=>exact h2 j x y (by simpa using hx) (by simpa using hy)
 |[],_::_,h=>h.elim
 |_::_,[],h=>h.elim
theorem TVleL.vrs {l m:List TV}(h:TVleL l m){g:Gh}{w:World}{us:List Value}(hv:VRs g w l us):VRs g w m us:=by
 obtain ⟨h1,h2⟩:=h.at
 refine ⟨by rw [hv.1,h1],λj y u hy hu=> ?_⟩
 have hj:j<l.length:=by rw [h1];exact (List.getElem?_eq_some_iff.1 hy).1
 exact h2 j _ y (getElem?_eq_getElem hj) hy g w u (hv.2 j _ u (getElem?_eq_getElem hj) hu)
theorem TVle.tup {l m:List TV}(h:TVleL l m):TVle (.tup l) (.tup m):=λg w u hu=>by
 obtain ⟨us,rfl,hv⟩:=hu.tup_inv
 obtain ⟨h1,h2⟩:=h.vrs hv
 exact .tup h1 h2
theorem TVle.agg {l m:List TV}(h:TVleL l m):TVle (.agg l) (.agg m):=λg w u hu=>by
 cases hu with
 |agg hl hv=>
  obtain ⟨h1,h2⟩:=h.vrs ⟨hl,hv⟩
  exact .agg h1 h2
theorem VCx.toLe {P:Program}{G:aV}{f:FuncId}{xs:List TV}{T:VT}{y:TV}{Q:VT→Prop}(h:VCx P G 0 f xs T λx T'=>TVle x y∧Q T'):VCx P G 0 f xs T λx T'=>x=y∧Q T':=by
 intro g w us rw0 hG hx
 refine Calls.mono (h g w us rw0 hG hx) ?_
 rintro e w' ⟨v,x,g',T',he,⟨hq,hQ⟩,e',r',hv,hfx⟩
 exact ⟨v,_,g',T',he,⟨rfl,hQ⟩,e',r',hq _ _ _ hv,hfx⟩
def Oo:be:=λro ys T K=>match ys with
 |[.ptr k 0]=>match T.objs[k]? with
  |some (.cells [.val (.bool true),.vec 1 b .none,.val (.int .i64 a),.val (.int .i64 e)])=>(ble ro k=true∧IsB b)∧K (.tup [.agg [.val (.int .u32 (bJ b e)),.val (.int .i64 (bK b e))],.val (.bool (bp b e))]) {T with objs:=T.objs.set k (aN (ek b e) (ig b e a) (dQ b e))}
  |_=>False
 |_=>False
def Oq:be:=λro ys T K=>match ys with
 |[.ptr j 0]=>match T.objs[j]? with
  |some (.cells [.vec 1 B .none,.val (.int .i64 n),.val (.int .i64 e)])=>(ble ro j=true∧IsB B∧bq B n)∧K (.tup [.agg [.val (.int .u32 (bJ (aa B n) e)),.val (.int .i64 (bK (aa B n) e))],.val (.bool (bp (aa B n) e))]) {T with objs:=T.objs.set j (bf B (fX B n e) (dQ (aa B n) e))}
  |_=>False
 |_=>False
def fc (p:Int × Int):List TV:= [.val (.int .u32 p.1),.val (.int .i64 p.2)]
def sS:List Nat:= [2,3,4,5]
def nu (L:Bs):List TV:= [.val (.slice none 0 0),.val (.bool false),.ptr 0 0,.vec 2 L (.tail 0 L.length)]
def Or (O:Bs→Int→Int→VO)(L:Bs)(ok:Bool)(K:KX):Prop:=∀(bz Lz:Bs) (az ez cz dz:Int),bif ok then K .normal (aJ 25 sS (nu L)) ⟨[O bz az ez],[(L.length,2,true)]⟩ [] else K .ret (aJ 25 sS (nu Lz)) ⟨[O bz az ez,.cells [.val (.int .u32 cz),.val (.int .i64 dz)]],[(Lz.length,2,true)]⟩ []
def Ot (O:Bs→Int→Int→VO)(b L:Bs)(ok:Bool)(c0:Code):Nat→Option (cB × Code):=cG [(0,dB 25 sS [(5,2)] (nu []) ⟨[O b 0 0],[(0,2,true)]⟩ (Or O L ok),c0)]
theorem Wg (b L:Bs)(ok:Bool)(Q:TV→VT→Prop):au prog ah (aI [(kS,nr)]) aM 300 (Ot aN b L ok (aA prog o8 0)) 0 o8 [.vec 1 b .none] ap Q=
 (IsB (b)∧
 ((aA prog o8 (0:Nat)=aA prog o8 (0:Nat))∧
 (((@Eq (Option Nat) .none .none)∧
 ((@Eq (Nat) 0 0)∧
 ((@Eq (List Nat) [] [])∧
 (((@Eq (Option TV) (.some aY) (.some aY))∧
 True)∧
 ((@Eq (VT) ⟨[(.cells [aF,(an b),aE,aE])],[(0,(2,true))]⟩ ⟨[(.cells [aF,(an b),aE,aE])],[(0,(2,true))]⟩)∧
 ((@Eq (Bool) true true)∧
 (@Eq (List TV) BO BO)))))))∧
 (∀bz:Bs,(∀Lz:Bs,(∀az:Int,(∀ez:Int,(∀cz:Int,(∀dz:Int,(bif ok
 then Q (.tup [(eM L (length L)),aF]) ⟨[(.cells [aF,(an bz),(ae az),(ae ez)])],[((length L),(2,true))]⟩
 else Q u6 ⟨[(.cells [aF,(an bz),(ae az),(ae ez)]),(eY cz dz)],[((length Lz),(2,true))]⟩)))))))))):=by kernel_rfl
abbrev xU (b:Bs):VO:=(eY (bJ b (0:Int)) (bK b (0:Int)))
theorem Tj (b L:Bs)(a:Int)(Q:Exit→List TV→VT→List Nat→Nat→Prop):vx prog ah (aI [(kT,nJ),(lS,Oo)]) (bc [(999999,.dead,none),(23,.vec 2 (L++ [fc (bJ b 0,bK b 0)]) (.tail 0 (L.length+1)),some λT=>{T with tails:= [(L.length+1,2,true)]})]) 300 aG none 0 (cM prog o8 0) (aJ 25 sS (nu L)) ⟨[aN b a 0],[(L.length,2,true)]⟩ [] (de sS Q)=
 (((@Eq (Bool) true true)∧
 IsB (b))∧
 (bif decide (bo b (0:Int)>(0:Int))
 then (((@Eq (Bool) true true)∧
 IsB (b))∧
 (bif !bp b (0:Int)
 then Q .ret (u5 L (length L)) ⟨[(.cells [aF,(an (ek b (0:Int))),(ae (ig b (0:Int) a)),(ae (dQ b (0:Int)))]),(xU b)],[((length L),(2,true))]⟩ [] 25
 else (br prog (λ_=>.none) 0 ⟨[(.cells [aF,(an (ek b (0:Int))),(ae (ig b (0:Int) a)),(ae (dQ b (0:Int)))]),(xU b)],[((length L),(2,true))]⟩ (.call ⟨(.builtin .append),#[(.tmp 20),(.tmp 22)],#[58,58]⟩) [(20,(eM L (length L))),(22,(.vec 2 [[(.val (.int .u32 (bJ b (0:Int)))),(.val (.int .i64 (bK b (0:Int))))]] .full))] (eM (L++ [fc (bJ b (0:Int),bK b (0:Int))]) (length L+(1:Nat))) ⟨[(.cells [aF,(an (ek b (0:Int))),(ae (ig b (0:Int) a)),(ae (dQ b (0:Int)))]),(xU b)],[((length L+(1:Nat)),(2,true))]⟩∧
 Q .normal (u5 (L++ [fc (bJ b (0:Int),bK b (0:Int))]) (length L+(1:Nat))) ⟨[(.cells [aF,(an (ek b (0:Int))),(ae (ig b (0:Int) a)),(ae (dQ b (0:Int)))]),(xU b)],[((length L+(1:Nat)),(2,true))]⟩ [] 25)))
 else Q (.exit 0) (u5 L (length L)) ⟨[(.cells [aF,(an b),(ae a),aE])],[((length L),(2,true))]⟩ [] 25)):=by kernel_rfl
theorem Wh (b L:Bs)(ok:Bool)(Q:TV→VT→Prop):au prog ah (aI [(nC,iJ)]) aM 300 (Ot bf b L ok (aA prog o9 0)) 0 o9 [.vec 1 b .none] ap Q=
 ((IsB (b)∧
 oT (b))∧
 ((aA prog o9 (0:Nat)=aA prog o9 (0:Nat))∧
 (((@Eq (Option Nat) .none .none)∧
 ((@Eq (Nat) 0 0)∧
 ((@Eq (List Nat) [] [])∧
 (((@Eq (Option TV) (.some aY) (.some aY))∧
 True)∧
 ((@Eq (VT) ⟨[(.cells [(an b),aE,aE])],[(0,(2,true))]⟩ ⟨[(.cells [(an b),aE,aE])],[(0,(2,true))]⟩)∧
 ((@Eq (Bool) true true)∧
 (@Eq (List TV) BO BO)))))))∧
 (∀bz:Bs,(∀Lz:Bs,(∀az:Int,(∀ez:Int,(∀cz:Int,(∀dz:Int,(bif ok
 then Q (.tup [(eM L (length L)),aF]) ⟨[(.cells [(an bz),(ae az),(ae ez)])],[((length L),(2,true))]⟩
 else Q u6 ⟨[(.cells [(an bz),(ae az),(ae ez)]),(eY cz dz)],[((length Lz),(2,true))]⟩)))))))))):=by kernel_rfl
abbrev xV (B:Bs)(n:Int):VO:=(eY (bJ (aa B n) (0:Int)) (bK (aa B n) (0:Int)))
abbrev xW (B:Bs)(n:Int):TV:=(ae (dQ (aa B n) (0:Int)))
theorem Tk (B L:Bs)(n:Int)(Q:Exit→List TV→VT→List Nat→Nat→Prop):vx prog ah (aI [(j6,ns),(lT,Oq)]) (bc [(999999,.dead,none),(23,.vec 2 (L++ [fc (bJ (aa B n) 0,bK (aa B n) 0)]) (.tail 0 (L.length+1)),some λT=>{T with tails:= [(L.length+1,2,true)]})]) 300 aG none 0 (cM prog o9 0) (aJ 25 sS (nu L)) ⟨[bf B n 0],[(L.length,2,true)]⟩ [] (de sS Q)=
 (((@Eq (Bool) true true)∧
 (IsB (B)∧
 bq (B) (n)))∧
 (bif decide (bo (aa B n) (0:Int)>(0:Int))
 then (((@Eq (Bool) true true)∧
 (IsB (B)∧
 bq (B) (n)))∧
 (bif !bp (aa B n) (0:Int)
 then Q .ret (u5 L (length L)) ⟨[(.cells [(an B),(ae (fX B n (0:Int))),(xW B n)]),(xV B n)],[((length L),(2,true))]⟩ [] 25
 else (br prog (λ_=>.none) 0 ⟨[(.cells [(an B),(ae (fX B n (0:Int))),(xW B n)]),(xV B n)],[((length L),(2,true))]⟩ (.call ⟨(.builtin .append),#[(.tmp 20),(.tmp 22)],#[58,58]⟩) [(20,(eM L (length L))),(22,(.vec 2 [[(.val (.int .u32 (bJ (aa B n) (0:Int)))),(.val (.int .i64 (bK (aa B n) (0:Int))))]] .full))] (eM (L++ [fc (bJ (aa B n) (0:Int),bK (aa B n) (0:Int))]) (length L+(1:Nat))) ⟨[(.cells [(an B),(ae (fX B n (0:Int))),(xW B n)]),(xV B n)],[((length L+(1:Nat)),(2,true))]⟩∧
 Q .normal (u5 (L++ [fc (bJ (aa B n) (0:Int),bK (aa B n) (0:Int))]) (length L+(1:Nat))) ⟨[(.cells [(an B),(ae (fX B n (0:Int))),(xW B n)]),(xV B n)],[((length L+(1:Nat)),(2,true))]⟩ [] 25)))
 else Q (.exit 0) (u5 L (length L)) ⟨[(.cells [(an B),(ae n),aE])],[((length L),(2,true))]⟩ [] 25)):=by kernel_rfl
theorem Tm:∀ro ys T K,Oo ro ys T K→VCx prog ah ro lS ys T K:=by
 intro ro ys T K hw
 unfold Oo at hw
 split at hw
 ·rename_i k
  split at hw
  ·rename_i b a e ho
   obtain ⟨⟨hro,hb⟩,hk⟩:=hw
   refine VCx.at1 (Q:=λx o' l'=>x=cY b e∧o'=aN (ek b e) (ig b e a) (dQ b e)∧l'= []) aP (le_of_ble_eq_true hro) ho rfl (bW hb a e _ _) (ys1:= [.ptr 0 0]) (by simp [aB,TV.ren,bb]) ((QA hb a e).mono λx T' ⟨h1,h2⟩=>⟨_,_,h2,h1,rfl,rfl⟩) ?_
   rintro x o' l' ⟨rfl,rfl,rfl⟩
   rw [bW (Dd hb)]
   simpa [TV.ren,cY,aB] using hk
  ·exact hw.elim
 ·exact hw.elim
theorem Tn:∀ro ys T K,Oq ro ys T K→VCx prog ah ro lT ys T K:=by
 intro ro ys T K hw
 unfold Oq at hw
 split at hw
 ·rename_i j
  split at hw
  ·rename_i B n e ho
   obtain ⟨⟨hro,hB,hn⟩,hk⟩:=hw
   refine VCx.at1 (Q:=λx o' l'=>x=cY (aa B n) e∧o'=bf B (fX B n e) (dQ (aa B n) e)∧l'= []) aP (le_of_ble_eq_true hro) ho rfl (cl hB n e _ _) (ys1:= [.ptr 0 0]) (by simp [aB,TV.ren,bb]) ((QB hB hn e).mono λx T' ⟨h1,h2⟩=>⟨_,_,h2,h1,rfl,rfl⟩) ?_
   rintro x o' l' ⟨rfl,rfl,rfl⟩
   rw [cl hB]
   simpa [TV.ren,cY,aB] using hk
  ·exact hw.elim
 ·exact hw.elim
def j7:Nat→Bs→List (Int × Int)→Option (List (Int × Int))
 | 0,_,_=>none
 |k+1,b,acc=>bif decide (bo b 0>0) then (bif bp b 0 then j7 k (ek b 0) (acc++ [(bJ b 0,bK b 0)]) else none) else some acc
def xX (b:Bs):Option (List (Int × Int)):=j7 (b.length+1) b []
def aK (b:Bs):Bs:=((xX b).getD []).map fc
def fQ (b:Bs):Bool:=(xX b).isSome
def xY (b:Bs):TV:=.tup [.vec 2 (aK b) .none,.val (.bool (fQ b))]
theorem XK (b:Bs):bo b 0=b.length:=rfl
theorem JE {b:Bs}(h:bp b 0=true):dQ b 0=0:=by
 simp only [bp,and_eq_true,decide_eq_true_eq] at h
 simp only [dQ,h.1,cond_true,h.2]
theorem kr {n:Int}{b:Bs}{e:Int}:(aC n b e).length≤b.length:=by
 unfold aC;cases cJ n b e
 ·exact le_refl _
 ·simp only [cond_true,length_drop];omega
theorem tW {b:Bs}(hl:bo b 0>0):(ek b 0).length<b.length:=by
 have h1:(aC 1 b 0).length<b.length:=by
  rw [XK] at hl
  have hk:cJ 1 b 0=true:=by simp only [cJ,decide_true,decide_eq_true (show (1:Int)≤b.length by omega)];rfl
  unfold aC
  rw [hk]
  simp only [cond_true,length_drop]
  omega
 unfold ek;cases bU b 0
 ·exact h1
 ·exact Nat.lt_of_le_of_lt kr h1
theorem AP:∀(k j:Nat) (b:Bs) (acc:List (Int × Int)),b.length<k→b.length<j→j7 k b acc=j7 j b acc
 | 0,_,_,_,h,_=>absurd h (not_lt_zero _)
 |_,0,_,_,_,h=>absurd h (not_lt_zero _)
 |k+1,j+1,b,acc,h1,h2=>by
  unfold j7
  by_cases hl:bo b 0>0
  ·have:=tW hl
   rw [decide_eq_true hl,AP k j (ek b 0) _ (by omega) (by omega)]
  ·rw [decide_eq_false hl];rfl
theorem AQ {b:Bs}{acc:List (Int × Int)}(hl:bo b 0>0)(ho:bp b 0=true):j7 (b.length+1) b acc=j7 ((ek b 0).length+1) (ek b 0) (acc++ [(bJ b 0,bK b 0)]):=by
 have:=tW hl
 rw [AP ((ek b 0).length+1) b.length (ek b 0) _ (by omega) (by omega)]
 simp only [j7,decide_eq_true hl,ho,cond_true]
theorem Dh {b:Bs}{acc:List (Int × Int)}(hl:bo b 0>0)(ho:bp b 0=false):j7 (b.length+1) b acc=none:=by
 simp only [j7,decide_eq_true hl,ho,cond_true,cond_false]
theorem Di {b:Bs}{acc:List (Int × Int)}(hl:¬bo b 0>0):j7 (b.length+1) b acc=some acc:=by
 simp only [j7,decide_eq_false hl,cond_false]
theorem Dj:∃inf:TypeInfo,prog.info? 186=some inf∧inf.size=2∧inf.bytes+1≤1000∧inf.zero=some (.agg #[.int .u32 0,.int .i64 0]):=
 ⟨(prog.info? 186).getD default,by kernel_rfl,by kernel_rfl,le_of_ble_eq_true (by kernel_rfl),by kernel_rfl⟩
theorem Dk {T T1:VT}{s x:Operand}{l:List (Nat × TV)}{es es2:List (List TV)}{k n:Nat}{bn:Bool}(hs:cE T 2 (aL ah l s)=some (es,k,n,bn,T1))(hx:gf 2 (aL ah l x)=some es2)(hb:es.length+es2.length≤32000001):
    br prog ah 0 T (.call ⟨.builtin .append,#[s,x],#[58,58]⟩) l (.vec 2 (es++es2) (.tail k (n+es2.length))) {T1 with tails:=T1.tails.set k (n+es2.length,2,bn)}:=by
  obtain ⟨inf,i1,i2,i3,i4⟩:=Dj
  have h:=fb (inf:=inf) (P:=prog) (G:=ah) (ro:=0) (T:=T) (T1:=T1) (t:=58) (tx:=58) (s:=s) (x:=x) (l:=l) (es:=es) (es2:=es2) (k:=k) (n:=n) (bn:=bn) Tryz.underlying58 i1 i4 (by rw [i2];rfl) (by rw [i2];decide) (by kernel_rfl) (by rw [i2];exact hs) (by rw [i2];exact hx)
    (by have h1:=i3
        have h2:=mul_le_mul hb h1
        omega)
  rw [i2] at h
  exact h
theorem pc (f g:Nat→Option Nat):∀l:List (Int × Int),bm f g (l.map fc)=l.map fc
 |[]=>rfl
 |a::l=>by simp only [map_cons,bm,pc f g l];rfl
theorem xZ:∀(l:List (Int × Int)) p,((l++ [p]).map fc)=l.map fc++ [fc p]:=λl p=>by rw [map_append];rfl
def Dl (O:Bs→Int→Int→VO)(b0:Bs)(e:Exit)(vs:List TV)(T:VT):Prop:=
 (∃(acc:List (Int × Int)) (bz:Bs) (az ez:Int),xX b0=some acc∧e=.normal∧vs=nu (acc.map fc)∧T=⟨[O bz az ez],[(acc.length,2,true)]⟩)∨
 (∃(Lz bz:Bs) (az ez cz dz:Int),xX b0=none∧e=.ret∧vs=nu Lz∧T=⟨[O bz az ez,.cells [.val (.int .u32 cz),.val (.int .i64 dz)]],[(Lz.length,2,true)]⟩)
theorem AR {O:Bs→Int→Int→VO}{b0:Bs}{K:KX}(hK:Or O (aK b0) (fQ b0) K){e:Exit}{vs:List TV}{T:VT}(h:Dl O b0 e vs T):K e (aJ 25 sS vs) T []:=by
 rcases h with ⟨acc,bz,az,ez,h1,rfl,rfl,rfl⟩ | ⟨Lz,bz,az,ez,cz,dz,h1,rfl,rfl,rfl⟩
 ·have:=hK bz [] az ez 0 0
  simp only [fQ,h1,isSome_some,cond_true,aK,getD_some,length_map] at this
  exact this
 ·have:=hK bz Lz az ez cz dz
  simp only [fQ,h1,isSome_none,cond_false] at this
  exact this
structure To where
 b:Bs
 a:Int
 acc:List (Int × Int)
theorem MZ {b0:Bs}(h0:IsB b0)(K:KX)(hK:Or aN (aK b0) (fQ b0) K):VWx prog ah none 0 (aA prog o8 0) (aJ 25 sS (nu [])) ⟨[aN b0 0 0],[(0,2,true)]⟩ [] K:=by
 let sl:To→List TV:=λs=>nu (s.acc.map fc)
 let TT:To→VT:=λs=>⟨[aN s.b s.a 0],[(s.acc.length,2,true)]⟩
 refine dW (f:=o8) (id:=0) (by kernel_rfl) 25 sS (λs:To=>s.b.length) sl TT (λs=>IsB s.b∧s.acc.length+s.b.length≤b0.length∧j7 (s.b.length+1) s.b s.acc=xX b0) 1 1 (λ_ _=>⟨le_refl _,le_refl _⟩)
  (Dl aN b0) (λs hs=> ?_) ⟨b0,0,[]⟩ ⟨h0,by simp,rfl⟩ K (λe vs T hq=>AR hK hq)
 obtain ⟨b,a,acc⟩:=s
 obtain ⟨hb,hlen,hgo⟩:=hs
 have hsm:=h0.small
 simp only at hb hlen hgo
 have hS:bk prog ah (aI [(kT,nJ),(lS,Oo)]):=aQ λp hp=>by
  rcases mem_cons.1 hp with rfl | hp;exact oY
  obtain rfl:=mem_singleton.1 hp;exact Tm
 have hv:=Tj b (acc.map fc) a
 rw [length_map] at hv
 refine cg ag ac hS ai (hv _) ?_
 refine ⟨⟨rfl,hb⟩,?_⟩
 by_cases hl:bo b 0>0
 ·refine aU (decide_eq_true hl) ⟨⟨rfl,hb⟩,?_⟩
  cases ho:bp b 0
  ·exact aU rfl ⟨rfl,rfl,.inr ⟨acc.map fc,_,_,_,_,_,by rw [←hgo];exact Dh hl ho,rfl,by simp only [nu,length_map],by rw [length_map];rfl⟩⟩
  ·have hlt:=tW hl
   have he:=JE ho
   try delta xU
   rw [he]
   refine aO rfl ⟨?_,rfl,rfl,⟨ek b 0,ig b 0 a,acc++ [(bJ b 0,bK b 0)]⟩,⟨Dd hb,by simp only [length_append,length_cons,length_nil];omega,by rw [←hgo];exact (AQ hl ho).symm⟩,hlt,.inr ⟨?_,?_⟩⟩
   ·have h:=Dk (T:=⟨[aN (ek b 0) (ig b 0 a) 0,.cells [.val (.int .u32 (bJ b 0)),.val (.int .i64 (bK b 0))]],[(acc.length,2,true)]⟩) (T1:=⟨[aN (ek b 0) (ig b 0 a) 0,.cells [.val (.int .u32 (bJ b 0)),.val (.int .i64 (bK b 0))]],[(acc.length,2,true)]⟩) (s:=.tmp 20) (x:=.tmp 22) (l:= [(20,.vec 2 (acc.map fc) (.tail 0 acc.length)),(22,.vec 2 [fc (bJ b 0,bK b 0)] .full)]) (es:=acc.map fc) (es2:= [fc (bJ b 0,bK b 0)]) (k:=0) (n:=acc.length) (bn:=true)
     (by simp [aL,dT,cE]) rfl (by simp only [length_map,length_cons,length_nil];omega)
    exact h
   ·simp only [VT.keep,take_succ_cons,take_zero,map_cons,map_nil]
    rw [show VO.cells [.val (.bool true),.vec 1 (ek b 0) .none,.val (.int .i64 (ig b 0 a)),.val (.int .i64 0)]=aN (ek b 0) (ig b 0 a) 0 from rfl,bW (Dd hb)]
    simp only [TT,length_append,length_cons,length_nil]
   ·have e1:=pc (ax 1) (ax 1) (acc++ [(bJ b 0,bK b 0)])
    rw [xZ] at e1
    simp only [aB,TV.ren,e1,Tok.ren]
    simp only [sl,nu,xZ,length_append,length_map,length_cons,length_nil]
    rfl
 ·exact aO (decide_eq_false hl) ⟨rfl,rfl,.inl ⟨acc,b,a,0,by rw [←hgo];exact Di hl,rfl,by simp only [nu,length_map],rfl⟩⟩
structure Tq where
 n:Int
 acc:List (Int × Int)
theorem M0 {B:Bs}(h0:IsB B)(K:KX)(hK:Or bf (aK B) (fQ B) K):VWx prog ah none 0 (aA prog o9 0) (aJ 25 sS (nu [])) ⟨[bf B 0 0],[(0,2,true)]⟩ [] K:=by
 let sl:Tq→List TV:=λs=>nu (s.acc.map fc)
 let TT:Tq→VT:=λs=>⟨[bf B s.n 0],[(s.acc.length,2,true)]⟩
 refine dW (f:=o9) (id:=0) (by kernel_rfl) 25 sS (λs:Tq=>(aa B s.n).length) sl TT (λs=>bq B s.n∧s.acc.length+(aa B s.n).length≤B.length∧j7 ((aa B s.n).length+1) (aa B s.n) s.acc=xX B) 1 1 (λ_ _=>⟨le_refl _,le_refl _⟩)
  (Dl bf B) (λs hs=> ?_) ⟨0,[]⟩ ⟨⟨Int.le_refl _,Int.natCast_nonneg _,h0.small⟩,by simp [aa],rfl⟩ K (λe vs T hq=>AR hK hq)
 obtain ⟨n,acc⟩:=s
 obtain ⟨hn,hlen,hgo⟩:=hs
 have hsm:=h0.small
 simp only at hn hlen hgo
 have hS:bk prog ah (aI [(j6,ns),(lT,Oq)]):=aQ λp hp=>by
  rcases mem_cons.1 hp with rfl | hp;exact o7
  obtain rfl:=mem_singleton.1 hp;exact Tn
 have hv:=Tk B (acc.map fc) n
 rw [length_map] at hv
 refine cg ag ac hS ai (hv _) ?_
 refine ⟨⟨rfl,h0,hn⟩,?_⟩
 have hr:=Qz hn 0
 have hn2:=Tf hn 0
 by_cases hl:bo (aa B n) 0>0
 ·refine aU (decide_eq_true hl) ⟨⟨rfl,h0,hn⟩,?_⟩
  cases ho:bp (aa B n) 0
  ·exact aU rfl ⟨rfl,rfl,.inr ⟨acc.map fc,_,_,_,_,_,by rw [←hgo];exact Dh hl ho,rfl,by simp only [nu,length_map],by rw [length_map];rfl⟩⟩
  ·have hlt:=tW hl
   have he:=JE ho
   try delta xV xW
   rw [he]
   refine aO rfl ⟨?_,rfl,rfl,⟨fX B n 0,acc++ [(bJ (aa B n) 0,bK (aa B n) 0)]⟩,⟨hn2,by simp only [hr,length_append,length_cons,length_nil];omega,by simp only [hr];rw [←hgo];exact (AQ hl ho).symm⟩,by simp only [hr];exact hlt,.inr ⟨?_,?_⟩⟩
   ·have h:=Dk (T:=⟨[bf B (fX B n 0) 0,.cells [.val (.int .u32 (bJ (aa B n) 0)),.val (.int .i64 (bK (aa B n) 0))]],[(acc.length,2,true)]⟩) (T1:=⟨[bf B (fX B n 0) 0,.cells [.val (.int .u32 (bJ (aa B n) 0)),.val (.int .i64 (bK (aa B n) 0))]],[(acc.length,2,true)]⟩) (s:=.tmp 20) (x:=.tmp 22) (l:= [(20,.vec 2 (acc.map fc) (.tail 0 acc.length)),(22,.vec 2 [fc (bJ (aa B n) 0,bK (aa B n) 0)] .full)]) (es:=acc.map fc) (es2:= [fc (bJ (aa B n) 0,bK (aa B n) 0)]) (k:=0) (n:=acc.length) (bn:=true)
     (by simp [aL,dT,cE]) rfl (by simp only [length_map,length_cons,length_nil];omega)
    exact h
   ·simp only [VT.keep,take_succ_cons,take_zero,map_cons,map_nil]
    rw [show VO.cells [.vec 1 B .none,.val (.int .i64 (fX B n 0)),.val (.int .i64 0)]=bf B (fX B n 0) 0 from rfl,cl h0]
    simp only [TT,length_append,length_cons,length_nil]
   ·have e1:=pc (ax 1) (ax 1) (acc++ [(bJ (aa B n) 0,bK (aa B n) 0)])
    rw [xZ] at e1
    simp only [aB,TV.ren,e1,Tok.ren]
    simp only [sl,nu,xZ,length_append,length_map,length_cons,length_nil]
    rfl
 ·exact aO (decide_eq_false hl) ⟨rfl,rfl,.inl ⟨acc,B,n,0,by rw [←hgo];exact Di hl,rfl,by simp only [nu,length_map],rfl⟩⟩
theorem QC {b:Bs}(h:IsB b):dD prog ah (Ot aN b (aK b) (fQ b) (aA prog o8 0)):=bL λp hp=>by
 obtain rfl:=mem_singleton.1 hp
 exact ce λK hK=>MZ h K hK
theorem QD {b:Bs}(h:IsB b):dD prog ah (Ot bf b (aK b) (fQ b) (aA prog o9 0)):=bL λp hp=>by
 obtain rfl:=mem_singleton.1 hp
 exact ce λK hK=>M0 h K hK
theorem QE {b:Bs}(h:fQ b=false):aK b= []:=by
 unfold aK fQ at*
 cases hc:xX b with
 |none=>rfl
 |some l=>rw [hc] at h;cases h
theorem mK (b:Bs)(f g:Nat→Option Nat):bm f g (aK b)=aK b:=pc f g _
theorem x3 {b:Bs}{x:TV}{ok:Bool}(h:ok=fQ b)(hx:x=(bif ok then .tup [.vec 2 (aK b) (.tail 0 (aK b).length),.val (.bool true)] else .tup [.val (.slice none 0 0),.val (.bool false)])):TVle (x.ren (ax 0) (ax 0)) (xY b):=by
 subst h hx
 unfold xY
 cases h:fQ b
 ·rw [QE h]
  exact TVle.tup ⟨TVle.nil 2,TVle.refl _,trivial⟩
 ·refine TVle.of_eq ?_
  simp only [cond_true,TV.ren,aB,mK,Tok.ren]
  rfl
theorem Tr {b:Bs}(hb:IsB b):VCx prog ah 0 o8 [.vec 1 b .none] ⟨[],[]⟩ λx T'=>x=xY b∧T'=⟨[],[]⟩:=by
 refine VCx.toLe (Q:=λT'=>T'=⟨[],[]⟩) (VCx.keepQ 0 0 (le_refl _) (le_refl _) (aj ag ac (aQ λp hp=>by obtain rfl:=mem_singleton.1 hp;exact u9) (QC hb) (Wg b (aK b) (fQ b) _) ?_))
 refine ⟨hb,rfl,⟨rfl,rfl,rfl,⟨rfl,trivial⟩,rfl,rfl,rfl⟩,λbz Lz az ez cz dz=> ?_⟩
 cases h:fQ b
 ·exact ⟨x3 h.symm rfl,rfl⟩
 ·exact ⟨x3 h.symm rfl,rfl⟩
theorem Tt {b:Bs}(hb:IsB b):VCx prog ah 0 o9 [.vec 1 b .none] ⟨[],[]⟩ λx T'=>x=xY b∧T'=⟨[],[]⟩:=by
 refine VCx.toLe (Q:=λT'=>T'=⟨[],[]⟩) (VCx.keepQ 0 0 (le_refl _) (le_refl _) (aj ag ac (aQ λp hp=>by obtain rfl:=mem_singleton.1 hp;exact oA) (QD hb) (Wh b (aK b) (fQ b) _) ?_))
 refine ⟨⟨hb,hb.small⟩,rfl,⟨rfl,rfl,rfl,⟨rfl,trivial⟩,rfl,rfl,rfl⟩,λbz Lz az ez cz dz=> ?_⟩
 cases h:fQ b
 ·exact ⟨x3 h.symm rfl,rfl⟩
 ·exact ⟨x3 h.symm rfl,rfl⟩
theorem QF (b:Bs)(f g:Nat→Option Nat):(xY b).ren f g=xY b:=by
 simp only [xY,TV.ren,aB,mK,Tok.ren]
def mm (kind:IntKind)(n:Nat):be:=λro ys T K=>match ys with
 |[.ptr k 0]=>match T.objs[k]? with
  |some (.cells [.val (.bool true),.vec 1 b .none,.val (.int .i64 a),.val (.int .i64 e)])=>(ble ro k=true∧IsB b)∧∀(z:Int) (bz:Bs) (az ez:Int),(z=aw n b e∧bz=aC n b e∧ez=ar n b e)→K (.val (.int kind z)) {T with objs:=T.objs.set k (aN bz az ez)}
  |_=>False
 |_=>False
def AS:be:=λro ys T K=>match ys with
 |[.ptr k 0,.val (.int .i64 n)]=>match T.objs[k]? with
  |some (.cells [.val (.bool true),.vec 1 b .none,.val (.int .i64 a),.val (.int .i64 e)])=>(ble ro k=true∧IsB b)∧∀(v bz:Bs) (az ez:Int),(v=bv n b e∧bz=aC n b e∧ez=ar n b e)→K (.vec 1 v .none) {T with objs:=T.objs.set k (aN bz az ez)}
  |_=>False
 |_=>False
def BT:be:=λro ys T K=>match ys with
 |[.ptr k 0,.val (.int .i64 n)]=>match T.objs[k]? with
  |some (.cells [.val (.bool true),.vec 1 b .none,.val (.int .i64 a),.val (.int .i64 e)])=>(ble ro k=true∧IsB b)∧∀(v bz:Bs) (az ez:Int),(v=bv n b e∧bz=aC n b e∧ez=ar n b e)→K (.ptr T.objs.length 0) {T with objs:=T.objs.set k (aN bz az ez)++ [aN v 0 0]}
  |_=>False
 |_=>False
def x4:be:=λro ys T K=>match ys with
 |[.ptr k 0]=>match T.objs[k]? with
  |some (.cells [.val (.bool true),.vec 1 b .none,.val (.int .i64 a),.val (.int .i64 e)])=>(ble ro k=true∧IsB b)∧∀(v bz:Bs) (az ez:Int),(v=bv (bo b e) b e∧bz=aC (bo b e) b e∧ez=ar (bo b e) b e)→K (.vec 1 v .none) {T with objs:=T.objs.set k (aN bz az ez)}
  |_=>False
 |_=>False
def ku (kind:IntKind)(m:Nat):be:=λro ys T K=>match ys with
 |[.ptr j 0]=>match T.objs[j]? with
  |some (.cells [.vec 1 B .none,.val (.int .i64 n),.val (.int .i64 e)])=>(ble ro j=true∧IsB B∧bq B n)∧∀(z nz ez:Int),(z=aw m (aa B n) e∧nz=aX m B n e∧ez=ar m (aa B n) e)→K (.val (.int kind z)) {T with objs:=T.objs.set j (bf B nz ez)}
  |_=>False
 |_=>False
def AT:be:=λro ys T K=>match ys with
 |[.ptr j 0,.val (.int .i64 m)]=>match T.objs[j]? with
  |some (.cells [.vec 1 B .none,.val (.int .i64 n),.val (.int .i64 e)])=>(ble ro j=true∧IsB B∧bq B n)∧∀(v:Bs) (nz ez:Int),(v=bv m (aa B n) e∧nz=aX m B n e∧ez=ar m (aa B n) e)→K (.vec 1 v .none) {T with objs:=T.objs.set j (bf B nz ez)}
  |_=>False
 |_=>False
def BU:be:=λro ys T K=>match ys with
 |[.ptr j 0,.val (.int .i64 m)]=>match T.objs[j]? with
  |some (.cells [.vec 1 B .none,.val (.int .i64 n),.val (.int .i64 e)])=>(ble ro j=true∧IsB B∧bq B n)∧∀(v:Bs) (nz ez:Int),(v=bv m (aa B n) e∧nz=aX m B n e∧ez=ar m (aa B n) e)→K (.ptr T.objs.length 0) {T with objs:=T.objs.set j (bf B nz ez)++ [bf v 0 0]}
  |_=>False
 |_=>False
def x5:be:=λro ys T K=>match ys with
 |[.ptr j 0]=>match T.objs[j]? with
  |some (.cells [.vec 1 B .none,.val (.int .i64 n),.val (.int .i64 e)])=>(ble ro j=true∧IsB B∧bq B n)∧∀(v:Bs) (nz ez:Int),(v=bv (bo (aa B n) e) (aa B n) e∧nz=aX (bo (aa B n) e) B n e∧ez=ar (bo (aa B n) e) (aa B n) e)→K (.vec 1 v .none) {T with objs:=T.objs.set j (bf B nz ez)}
  |_=>False
 |_=>False
theorem nv {kind:IntKind}{n:Nat}{ro:Nat}{ys:List TV}{T:VT}{K:TV→VT→Prop}(h:mm kind n ro ys T K):mi kind n ro ys T K:=by
 unfold mm at h
 split at h
 ·split at h
  ·rename_i ho
   unfold mi
   simp only [ho]
   exact ⟨h.1,h.2 _ _ _ _ ⟨rfl,rfl,rfl⟩⟩
  ·exact h.elim
 ·exact h.elim
theorem Dm {ro:Nat}{ys:List TV}{T:VT}{K:TV→VT→Prop}(h:AS ro ys T K):C1 ro ys T K:=by
 unfold AS at h
 split at h
 ·split at h
  ·rename_i ho
   unfold C1
   simp only [ho]
   exact ⟨h.1,h.2 _ _ _ _ ⟨rfl,rfl,rfl⟩⟩
  ·exact h.elim
 ·exact h.elim
theorem M1 {ro:Nat}{ys:List TV}{T:VT}{K:TV→VT→Prop}(h:BT ro ys T K):xH ro ys T K:=by
 unfold BT at h
 split at h
 ·split at h
  ·rename_i ho
   unfold xH
   simp only [ho]
   exact ⟨h.1,h.2 _ _ _ _ ⟨rfl,rfl,rfl⟩⟩
  ·exact h.elim
 ·exact h.elim
theorem JF {ro:Nat}{ys:List TV}{T:VT}{K:TV→VT→Prop}(h:x4 ro ys T K):tM ro ys T K:=by
 unfold x4 at h
 split at h
 ·split at h
  ·rename_i ho
   unfold tM
   simp only [ho]
   exact ⟨h.1,h.2 _ _ _ _ ⟨rfl,rfl,rfl⟩⟩
  ·exact h.elim
 ·exact h.elim
theorem nw {kind:IntKind}{n:Nat}{ro:Nat}{ys:List TV}{T:VT}{K:TV→VT→Prop}(h:ku kind n ro ys T K):ml kind n ro ys T K:=by
 unfold ku at h
 split at h
 ·split at h
  ·rename_i ho
   unfold ml
   simp only [ho]
   exact ⟨h.1,h.2 _ _ _ ⟨rfl,rfl,rfl⟩⟩
  ·exact h.elim
 ·exact h.elim
theorem Dn {ro:Nat}{ys:List TV}{T:VT}{K:TV→VT→Prop}(h:AT ro ys T K):xI ro ys T K:=by
 unfold AT at h
 split at h
 ·split at h
  ·rename_i ho
   unfold xI
   simp only [ho]
   exact ⟨h.1,h.2 _ _ _ ⟨rfl,rfl,rfl⟩⟩
  ·exact h.elim
 ·exact h.elim
theorem M3 {ro:Nat}{ys:List TV}{T:VT}{K:TV→VT→Prop}(h:BU ro ys T K):xJ ro ys T K:=by
 unfold BU at h
 split at h
 ·split at h
  ·rename_i ho
   unfold xJ
   simp only [ho]
   exact ⟨h.1,h.2 _ _ _ ⟨rfl,rfl,rfl⟩⟩
  ·exact h.elim
 ·exact h.elim
theorem JG {ro:Nat}{ys:List TV}{T:VT}{K:TV→VT→Prop}(h:x5 ro ys T K):tN ro ys T K:=by
 unfold x5 at h
 split at h
 ·split at h
  ·rename_i ho
   unfold tN
   simp only [ho]
   exact ⟨h.1,h.2 _ _ _ ⟨rfl,rfl,rfl⟩⟩
  ·exact h.elim
 ·exact h.elim
def iK (b:Bs)(e:Int):Int:=aw 1 b e
def FH (b:Bs)(e:Int):Int:=aw 1 (aC 1 b e) (ar 1 b e)
def dA (b:Bs)(e:Int):Bs:=bv (FH b e) (aC 1 (aC 1 b e) (ar 1 b e)) (ar 1 (aC 1 b e) (ar 1 b e))
def iL (b:Bs)(e:Int):Bs:=aC (FH b e) (aC 1 (aC 1 b e) (ar 1 b e)) (ar 1 (aC 1 b e) (ar 1 b e))
def jl (b:Bs)(e:Int):Int:=ar (FH b e) (aC 1 (aC 1 b e) (ar 1 b e)) (ar 1 (aC 1 b e) (ar 1 b e))
def gi:Nat→Bs→Int→List (Int × Bs)→Bs × Int × List (Int × Bs)
 | 0,b,e,acc=>(b,e,acc)
 |k+1,b,e,acc=>bif decide (bo b e>0) then gi k (iL b e) (jl b e) (acc++ [(iK b e,dA b e)]) else (b,e,acc)
def JH (b:Bs)(e:Int):=gi (b.length+1) b e []
def bS (p:Int × Bs):List TV:= [.val (.int .i64 p.1),.vec 1 p.2 .none]
def pd (b:Bs)(e:Int):Bs:=(JH b e).1
def nx (b:Bs)(e:Int):Int:=(JH b e).2.1
def jX (b:Bs)(e:Int):List (Int × Bs):=(JH b e).2.2
def lq (b:Bs)(e:Int):Bs:=(jX b e).map bS
def mn (b:Bs)(e:Int):Bool:=decide (nx b e=0)
def j8:Nat→Bs→Int→List (Int × Bs)→Except Int (List (Int × Bs))
 | 0,_,_,_=>.error 0
 |k+1,b,e,acc=>bif decide (bo b e>0) then (bif decide (jl b e=0) then (bif decide (iK b e=2) then (bif mn (dA b e) 0 then j8 k (iL b e) (jl b e) (acc++jX (dA b e) 0) else .error 0) else .error 4) else .error 0) else .ok acc
def nM (b:Bs)(e:Int):=j8 (b.length+1) b e []
def eA (b:Bs)(e:Int):Bool:=match nM b e with
 | .ok _=>true
 | .error _=>false
def gj (b:Bs)(e:Int):Bs:=match nM b e with
 | .ok l=>l.map bS
 | .error _=> []
def gO (b:Bs)(e:Int):Int:=match nM b e with
 | .ok _=>0
 | .error s=>s
abbrev Do:=49
abbrev H0:=52
abbrev nD:=114
abbrev nE:=77
abbrev FI:=47
def W3 (T:VT)(n s:Nat):VT:={T with tails:= [(n,s,true)]}
def wx:List Nat:= [0,2,3,4]
def sk (L:Bs):List TV:= [.ptr 0 0,.val (.slice none 0 0),.val (.bool false),.vec 2 L (.tail 0 L.length)]
def Tu (b bz L:Bs)(a e ez:Int)(c0:Code):Nat→Option (cB × Code):=cG [(0,dB 25 wx [(4,2)] (sk []) ⟨[aN b a e],[(0,2,true)]⟩ (λK=>∀az:Int,K .normal (aJ 25 wx (sk L)) ⟨[aN bz az ez],[(L.length,2,true)]⟩ []),c0)]
def H1:be:=λro ys T K=>match ys with
 |[.ptr k 0]=>match T.objs[k]? with
  |some (.cells [.val (.bool true),.vec 1 b .none,.val (.int .i64 a),.val (.int .i64 e)])=>(ble ro k=true∧IsB b)∧∀az:Int,K (.tup [.vec 2 (lq b e) .none,.val (.bool (mn b e))]) {T with objs:=T.objs.set k (aN (pd b e) az (nx b e))}
  |_=>False
 |_=>False
def tX:List Nat:= [0,2,3,4,5]
def mL (L:Bs)(s:Int):List TV:= [.ptr 0 0,.val (.slice none 0 0),.val (.int .i64 s),.val (.bool false),.vec 2 L (.tail 0 L.length)]
def M4 (L:Bs)(s:Int)(ok:Bool)(K:KX):Prop:=∀(bz Lz by':Bs) (az ez ay ey:Int),bif ok then K .normal (aJ 37 tX (mL L 0)) ⟨[aN bz az ez],[(L.length,2,true)]⟩ [] else K .ret (aJ 37 tX (mL Lz s)) ⟨[aN bz az ez,aN by' ay ey],[(Lz.length,2,true)]⟩ []
def Tv (b L:Bs)(a e s:Int)(ok:Bool)(c0:Code):Nat→Option (cB × Code):=cG [(0,dB 37 tX [(5,2)] (mL [] 0) ⟨[aN b a e],[(0,2,true)]⟩ (M4 L s ok),c0)]
def Ou:be:=λro ys T K=>match ys with
 |[.ptr k 0]=>match T.objs[k]? with
  |some (.cells [.val (.bool true),.vec 1 b .none,.val (.int .i64 a),.val (.int .i64 e)])=>(ble ro k=true∧IsB b)∧∀(bz:Bs) (az ez:Int),bif eA b e then K (.tup [.vec 2 (gj b e) .none,.val (.int .i64 0),.val (.bool true)]) {T with objs:=T.objs.set k (aN bz az ez)} else K (.tup [.vec 2 [] .none,.val (.int .i64 (gO b e)),.val (.bool false)]) {T with objs:=T.objs.set k (aN bz az ez)}
  |_=>False
 |_=>False
abbrev H2 (b:Bs):TV:=(eI (drop (2:Nat) b) (length (drop (2:Nat) b)))
theorem JI (b:Bs)(z0 z1:Int)(Q:TV→VT→Prop):au prog ah aZ (bc [(999999,.dead,none),(15,.elt (bT z0),none),(21,.elt (bT z0),none),(25,.elt (bT z1),none),(30,.vec 1 (b.drop 2) .none,none),(31,.vec 1 (b.drop 2) (.tail 0 (b.drop 2).length),some λT=>{T with tails:= [((b.drop 2).length,1,false)]})]) 300 aG 0 H0 [.vec 1 b .none] ap Q=
 (bif decide ((↑(length b):Int)<(2:Int))
 then Q kK u4
 else (bif decide (wrap i64 ((↑(length b):Int)-(2:Int))>(4075:Int))
 then Q kK u4
 else (ba prog (λ_=>.none) (.indexAddr 22 (.tmp 14) (.const (.int .i64 0))) [(14,(an b))] (xR z0)∧
 (bif aq eql (aT (Value.int u8 z0) (Value.int u8 (0:Int)))
 then Q kK u4
 else (ba prog (λ_=>.none) (.indexAddr 22 (.tmp 20) (.const (.int .i64 0))) [(20,(an b))] (xR z0)∧
 (ba prog (λ_=>.none) (.indexAddr 22 (.tmp 24) (.const (.int .i64 1))) [(24,(an b))] (xR z1)∧
 (ba prog (λ_=>.none) (.slice 22 (.tmp 29) (.some (.const (.int .i64 2))) .none .none) [(29,(an b))] (an (drop (2:Nat) b))∧
 (br prog (λ_=>.none) 1 u4 (.call ⟨(.builtin .append),#[(.tmp 28),(.tmp 30)],#[22,22]⟩) [(28,lP),(30,(an (drop (2:Nat) b)))] (H2 b) ⟨[bh],[((length (drop (2:Nat) b)),(1,false))]⟩∧
 Q (.tup [(.agg [(ae (wrap i64 z0)),(ae (wrap i64 z1)),(H2 b)]),aF]) ⟨[(.cells [(ae (wrap i64 z0)),(ae (wrap i64 z1)),(H2 b)])],[((length (drop (2:Nat) b)),(1,false))]⟩)))))))):=by kernel_rfl
theorem Tw (b bz L:Bs)(a e ez:Int)(Q:TV→VT→Prop):au prog ah (aI [(jD,mj)]) aM 300 (Tu b bz L a e ez (aA prog nD 0)) 0 nD [.ptr 0 0] (bC (aN b a e)) Q=
 ((aA prog nD (0:Nat)=aA prog nD (0:Nat))∧
 (((@Eq (Option Nat) .none .none)∧
 ((@Eq (Nat) 0 0)∧
 ((@Eq (List Nat) [] [])∧
 (((@Eq (Option TV) (.some aY) (.some aY))∧
 True)∧
 ((@Eq (VT) ⟨[(.cells [aF,(an b),(ae a),(ae e)])],[(0,(2,true))]⟩ ⟨[(.cells [aF,(an b),(ae a),(ae e)])],[(0,(2,true))]⟩)∧
 ((@Eq (Bool) true true)∧
 (@Eq (List TV) [eV,aY,av,BN] [eV,aY,av,BN])))))))∧
 (∀az:Int,(((@Eq (Bool) true true)∧
 IsB (bz))∧
 Q (.tup [(eM L (length L)),(ei (aq eql (k6 ez (0:Int))))]) ⟨[(.cells [aF,(an bz),(ae az),(ae ez)])],[((length L),(2,true))]⟩)))):=by kernel_rfl
theorem QG (b L:Bs)(p:List TV)(a e:Int)(Q:Exit→List TV→VT→List Nat→Nat→Prop):vx prog ah (aI [(kT,nJ),(jb,mm .i64 1),(j5,AS)]) (bc [(999999,.dead,none),(20,.vec 2 (L++ [p]) (.tail 0 (L.length+1)),some λT=>W3 T (L.length+1) 2)]) 300 aG none 0 (cM prog nD 0) (aJ 25 wx (sk L)) ⟨[aN b a e],[(L.length,2,true)]⟩ [] (de wx Q)=
 (((@Eq (Bool) true true)∧
 IsB (b))∧
 (bif decide (bo b e>(0:Int))
 then (((@Eq (Bool) true true)∧
 IsB (b))∧
 (∀z:Int,(∀bz:Bs,(∀az:Int,(∀ez:Int,(((@Eq (Int) (z) (aw (1:Nat) b e))∧
 ((@Eq (Bs) (bz) (aC (↑(1:Nat):Int) b e))∧
 (@Eq (Int) (ez) (ar (↑(1:Nat):Int) b e))))→(((@Eq (Bool) true true)∧
 IsB (bz))∧
 (∀z_11:Int,(∀bz_12:Bs,(∀az_13:Int,(∀ez_14:Int,(((@Eq (Int) (z_11) (aw (1:Nat) bz ez))∧
 ((@Eq (Bs) (bz_12) (aC (↑(1:Nat):Int) bz ez))∧
 (@Eq (Int) (ez_14) (ar (↑(1:Nat):Int) bz ez))))→(((@Eq (Bool) true true)∧
 IsB (bz_12))∧
 (∀v:Bs,(∀bz_17:Bs,(∀az_18:Int,(∀ez_19:Int,(((@Eq (Bs) (v) (bv z_11 bz_12 ez_14))∧
 ((@Eq (Bs) (bz_17) (aC z_11 bz_12 ez_14))∧
 (@Eq (Int) (ez_19) (ar z_11 bz_12 ez_14))))→(br prog (λ_=>.none) 0 ⟨[(.cells [aF,(an bz_17),(ae az_18),(ae ez_19)]),(nc z v)],[((length L),(2,true))]⟩ (.call ⟨(.builtin .append),#[(.tmp 17),(.tmp 19)],#[55,55]⟩) [(17,(eM L (length L))),(19,(.vec 2 [[(.val (.int .i64 (z))),(.vec 1 (v) .none)]] .full))] (eM (L++ [p]) (length L+(1:Nat))) ⟨[(.cells [aF,(an bz_17),(ae az_18),(ae ez_19)]),(nc z v)],[((length L+(1:Nat)),(2,true))]⟩∧
 Q .normal [eV,aY,av,(eM (L++ [p]) (length L+(1:Nat)))] ⟨[(.cells [aF,(an bz_17),(ae az_18),(ae ez_19)]),(nc z v)],[((length L+(1:Nat)),(2,true))]⟩ [] 25)))))))))))))))))))
 else Q (.exit 0) [eV,aY,av,(eM L (length L))] ⟨[(.cells [aF,(an b),(ae a),(ae e)])],[((length L),(2,true))]⟩ [] 25)):=by kernel_rfl
theorem Tx (b L:Bs)(a e s:Int)(ok:Bool)(Q:TV→VT→Prop):au prog ah aZ aM 300 (Tv b L a e s ok (aA prog nE 0)) 0 nE [.ptr 0 0] (bC (aN b a e)) Q=
 ((aA prog nE (0:Nat)=aA prog nE (0:Nat))∧
 (((@Eq (Option Nat) .none .none)∧
 ((@Eq (Nat) 0 0)∧
 ((@Eq (List Nat) [] [])∧
 (((@Eq (Option TV) (.some aY) (.some aY))∧
 True)∧
 ((@Eq (VT) ⟨[(.cells [aF,(an b),(ae a),(ae e)])],[(0,(2,true))]⟩ ⟨[(.cells [aF,(an b),(ae a),(ae e)])],[(0,(2,true))]⟩)∧
 ((@Eq (Bool) true true)∧
 (@Eq (List TV) Oi Oi)))))))∧
 (∀bz:Bs,(∀Lz:Bs,(∀by':Bs,(∀az:Int,(∀ez:Int,(∀ay:Int,(∀ey:Int,(bif ok
 then Q (.tup [(eM L (length L)),aE,aF]) ⟨[(.cells [aF,(an bz),(ae az),(ae ez)])],[((length L),(2,true))]⟩
 else Q (.tup [aY,(ae s),av]) ⟨[(.cells [aF,(an bz),(ae az),(ae ez)]),(.cells [aF,(an by'),(ae ay),(ae ey)])],[((length Lz),(2,true))]⟩)))))))))):=by kernel_rfl
theorem QH (b L C:Bs)(a e:Int)(Q:Exit→List TV→VT→List Nat→Nat→Prop):vx prog ah (aI [(kT,nJ),(jb,mm .i64 1),(HT,BT),(jD,mj),(nD,H1)]) (bc [(999999,.dead,none),(35,.vec 2 (L++C) (.tail 0 (L.length+C.length)),some λT=>W3 T (L.length+C.length) 2)]) 300 aG none 0 (cM prog nE 0) (aJ 37 tX (mL L 0)) ⟨[aN b a e],[(L.length,2,true)]⟩ [] (de tX Q)=
 (((@Eq (Bool) true true)∧
 IsB (b))∧
 (bif decide (bo b e>(0:Int))
 then (((@Eq (Bool) true true)∧
 IsB (b))∧
 (∀z:Int,(∀bz:Bs,(∀az:Int,(∀ez:Int,(((@Eq (Int) (z) (aw (1:Nat) b e))∧
 ((@Eq (Bs) (bz) (aC (↑(1:Nat):Int) b e))∧
 (@Eq (Int) (ez) (ar (↑(1:Nat):Int) b e))))→(((@Eq (Bool) true true)∧
 IsB (bz))∧
 (∀z_11:Int,(∀bz_12:Bs,(∀az_13:Int,(∀ez_14:Int,(((@Eq (Int) (z_11) (aw (1:Nat) bz ez))∧
 ((@Eq (Bs) (bz_12) (aC (↑(1:Nat):Int) bz ez))∧
 (@Eq (Int) (ez_14) (ar (↑(1:Nat):Int) bz ez))))→(((@Eq (Bool) true true)∧
 IsB (bz_12))∧
 (∀v:Bs,(∀bz_17:Bs,(∀az_18:Int,(∀ez_19:Int,(((@Eq (Bs) (v) (bv z_11 bz_12 ez_14))∧
 ((@Eq (Bs) (bz_17) (aC z_11 bz_12 ez_14))∧
 (@Eq (Int) (ez_19) (ar z_11 bz_12 ez_14))))→(((@Eq (Bool) true true)∧
 IsB (bz_17))∧
 (bif aq neq (k6 ez_19 (0:Int))
 then Q .ret (BM L (length L)) ⟨[(.cells [aF,(an bz_17),(ae az_18),(ae ez_19)]),(.cells [aF,(an v),aE,aE])],[((length L),(2,true))]⟩ [] 37
 else (bif aq neq (k6 z (2:Int))
 then Q .ret [eV,aY,gW,av,(eM L (length L))] ⟨[(.cells [aF,(an bz_17),(ae az_18),(ae ez_19)]),(.cells [aF,(an v),aE,aE])],[((length L),(2,true))]⟩ [] 37
 else (((@Eq (Bool) true true)∧
 IsB (v))∧
 (∀az_21:Int,(bif !mn v (0:Int)
 then Q .ret (BM L (length L)) ⟨[(.cells [aF,(an bz_17),(ae az_18),(ae ez_19)]),(.cells [aF,(an (pd v (0:Int))),(ae az_21),(ae (nx v (0:Int)))])],[((length L),(2,true))]⟩ [] 37
 else (br prog (λ_=>.none) 0 ⟨[(.cells [aF,(an bz_17),(ae az_18),(ae ez_19)]),(.cells [aF,(an (pd v (0:Int))),(ae az_21),(ae (nx v (0:Int)))])],[((length L),(2,true))]⟩ (.call ⟨(.builtin .append),#[(.tmp 33),(.tmp 34)],#[55,55]⟩) [(33,(eM L (length L))),(34,(bD (lq v (0:Int))))] (eM (L++C) (length L+length C)) ⟨[(.cells [aF,(an bz_17),(ae az_18),(ae ez_19)]),(.cells [aF,(an (pd v (0:Int))),(ae az_21),(ae (nx v (0:Int)))])],[((length L+length C),(2,true))]⟩∧
 Q .normal (BM (L++C) (length L+length C)) ⟨[(.cells [aF,(an bz_17),(ae az_18),(ae ez_19)]),(.cells [aF,(an (pd v (0:Int))),(ae az_21),(ae (nx v (0:Int)))])],[((length L+length C),(2,true))]⟩ [] 37)))))))))))))))))))))))))
 else Q (.exit 0) (BM L (length L)) ⟨[(.cells [aF,(an b),(ae a),(ae e)])],[((length L),(2,true))]⟩ [] 37)):=by kernel_rfl
theorem Dp {b:Bs}{e:Int}(h:bo b e>0):e=0∧0<b.length:=by
 unfold bo at h
 by_cases he:e=0
 ·rw [decide_eq_true he] at h;simp only [cond_true] at h;exact ⟨he,by omega⟩
 ·rw [decide_eq_false he] at h;simp only [cond_false] at h;omega
theorem JJ (n:Int)(b:Bs)(e:Int):(bv n b e).length+(aC n b e).length≤b.length:=by
 unfold bv aC;cases h:cJ n b e
 ·simp only [cond_false,length_nil];omega
 ·simp only [cond_true,List.length_take,length_drop];omega
theorem zw {b:Bs}{e:Int}(h:bo b e>0):(aC 1 b e).length<b.length:=by
 obtain ⟨rfl,hp⟩:=Dp h
 have hk:cJ 1 b 0=true:=by simp only [cJ,decide_true,decide_eq_true (show (1:Int)≤b.length by omega)];rfl
 unfold aC
 rw [hk]
 simp only [cond_true,length_drop]
 omega
theorem kw {b:Bs}{e:Int}(h:bo b e>0):(dA b e).length+(iL b e).length<b.length:=by
 have h1:=zw h
 have h2:=kr (n:=1) (b:=aC 1 b e) (e:=ar 1 b e)
 have h3:=JJ (FH b e) (aC 1 (aC 1 b e) (ar 1 b e)) (ar 1 (aC 1 b e) (ar 1 b e))
 unfold dA iL
 omega
theorem pf {b:Bs}{e:Int}(h:IsB b):IsB (dA b e):=eg (aH (aH h))
theorem tY {b:Bs}{e:Int}(h:IsB b):IsB (iL b e):=aH (aH (aH h))
theorem x6:∀(k j:Nat) (b:Bs) (e:Int) (acc:List (Int × Bs)),b.length<k→b.length<j→gi k b e acc=gi j b e acc
 | 0,_,_,_,_,h,_=>absurd h (not_lt_zero _)
 |_,0,_,_,_,_,h=>absurd h (not_lt_zero _)
 |k+1,j+1,b,e,acc,h1,h2=>by
  unfold gi
  by_cases hl:bo b e>0
  ·have:=kw hl
   rw [decide_eq_true hl,x6 k j (iL b e) _ _ (by omega) (by omega)]
  ·rw [decide_eq_false hl];rfl
theorem x7 {b:Bs}{e:Int}{acc:List (Int × Bs)}(hl:bo b e>0):gi (b.length+1) b e acc=gi ((iL b e).length+1) (iL b e) (jl b e) (acc++ [(iK b e,dA b e)]):=by
 have:=kw hl
 rw [x6 ((iL b e).length+1) b.length (iL b e) _ _ (by omega) (by omega)]
 simp only [gi,decide_eq_true hl,cond_true]
theorem AU {b:Bs}{e:Int}{acc:List (Int × Bs)}(hl:¬bo b e>0):gi (b.length+1) b e acc=(b,e,acc):=by
 simp only [gi,decide_eq_false hl,cond_false]
def AllB (l:List (Int × Bs)):Prop:=∀p∈l,IsB p.2
theorem AllB.app {l m:List (Int × Bs)}(h:AllB l)(k:AllB m):AllB (l++m):=λp hp=>by
 rcases mem_append.1 hp with h1 | h1
 ·exact h p h1
 ·exact k p h1
theorem AllB.one {c:Int}{v:Bs}(h:IsB v):AllB [(c,v)]:=λp hp=>by obtain rfl:=mem_singleton.1 hp;exact h
theorem AllB.nil:AllB []:=λp hp=>by simp at hp
theorem Dq:∀(k:Nat) (b:Bs) (e:Int) (acc:List (Int × Bs)),b.length<k→IsB b→AllB acc→IsB (gi k b e acc).1∧AllB (gi k b e acc).2.2∧(gi k b e acc).2.2.length≤acc.length+b.length
 | 0,_,_,_,h,_,_=>absurd h (not_lt_zero _)
 |k+1,b,e,acc,h1,hb,ha=>by
  unfold gi
  by_cases hl:bo b e>0
  ·have:=kw hl
   rw [decide_eq_true hl]
   obtain ⟨h2,h3,h4⟩:=Dq k (iL b e) (jl b e) (acc++ [(iK b e,dA b e)]) (by omega) (tY hb) (ha.app (.one (pf hb)))
   refine ⟨h2,h3,?_⟩
   simp only [length_append,length_cons,length_nil] at h4
   simp only [cond_true]
   omega
  ·rw [decide_eq_false hl]
   exact ⟨hb,ha,Nat.le_add_right _ _⟩
theorem rg {b:Bs}(e:Int)(h:IsB b):IsB (pd b e)∧AllB (jX b e)∧(jX b e).length≤b.length:=by
 obtain ⟨h1,h2,h3⟩:=Dq (b.length+1) b e [] (Nat.lt_succ_self _) h .nil
 exact ⟨h1,h2,Nat.le_trans h3 (by simp)⟩
theorem fY (f g:Nat→Option Nat):∀{l:List (Int × Bs)},AllB l→bm f g (l.map bS)=l.map bS
 |[],_=>rfl
 |a::l,h=>by
  have h1:=fY f g (l:=l) λp hp=>h p (List.mem_cons_of_mem _ hp)
  have h2:=(h a List.mem_cons_self).ren f g
  simp only [map_cons,bm,h1,bS,aB,TV.ren,h2,Tok.ren]
theorem AV:∀(k j:Nat) (b:Bs) (e:Int) (acc:List (Int × Bs)),b.length<k→b.length<j→j8 k b e acc=j8 j b e acc
 | 0,_,_,_,_,h,_=>absurd h (not_lt_zero _)
 |_,0,_,_,_,_,h=>absurd h (not_lt_zero _)
 |k+1,j+1,b,e,acc,h1,h2=>by
  unfold j8
  by_cases hl:bo b e>0
  ·have:=kw hl
   rw [decide_eq_true hl,AV k j (iL b e) _ _ (by omega) (by omega)]
  ·rw [decide_eq_false hl];rfl
theorem AW {b:Bs}{e:Int}{acc:List (Int × Bs)}(hl:bo b e>0):j8 (b.length+1) b e acc=bif decide (jl b e=0) then (bif decide (iK b e=2) then (bif mn (dA b e) 0 then j8 ((iL b e).length+1) (iL b e) (jl b e) (acc++jX (dA b e) 0) else .error 0) else .error 4) else .error 0:=by
 have:=kw hl
 rw [AV ((iL b e).length+1) b.length (iL b e) _ _ (by omega) (by omega)]
 simp only [j8,decide_eq_true hl,cond_true]
theorem Dr {b:Bs}{e:Int}{acc:List (Int × Bs)}(hl:¬bo b e>0):j8 (b.length+1) b e acc=.ok acc:=by
 simp only [j8,decide_eq_false hl,cond_false]
def fv (b:Bs):Bool:=decide (2≤b.length)&&(decide ((b.drop 2).length≤4075)&& !decide (hZ (b[0]?.getD [])=0))
def tZ (b:Bs):TV:=bif fv b then .tup [.agg [.val (.int .i64 (hZ (b[0]?.getD []))),.val (.int .i64 (hZ (b[1]?.getD []))),.vec 1 (b.drop 2) .none],.val (.bool true)] else .tup [.agg [.val (.int .i64 0),.val (.int .i64 0),.vec 1 [] .none],.val (.bool false)]
theorem Ty:TVle (.tup [.agg [.val (.int .i64 0),.val (.int .i64 0),.val (.slice none 0 0)],.val (.bool false)]) (.tup [.agg [.val (.int .i64 0),.val (.int .i64 0),.vec 1 [] .none],.val (.bool false)]):=
 .tup ⟨.agg ⟨.refl _,.refl _,.nil 1,trivial⟩,.refl _,trivial⟩
theorem H3 {b:Bs}(h:fv b=false):TVle (.tup [.agg [.val (.int .i64 0),.val (.int .i64 0),.val (.slice none 0 0)],.val (.bool false)]) (tZ b):=by
 unfold tZ;rw [h];exact Ty
theorem Tz {b:Bs}(h:b.length<2):fv b=false:=by unfold fv;rw [decide_eq_false (by omega)];rfl
theorem TA {b:Bs}(hb:IsB b)(h:2≤b.length):∃z0 z1,(0≤z0∧z0<256)∧(0≤z1∧z1<256)∧b[0]?=some (bT z0)∧b[1]?=some (bT z1):=by
 obtain ⟨z0,h0,h1⟩:=hb.at (getElem?_eq_getElem (show 0<b.length by omega))
 obtain ⟨z1,h2,h3⟩:=hb.at (getElem?_eq_getElem (show 1<b.length by omega))
 exact ⟨z0,z1,h1,h3,by rw [getElem?_eq_getElem (show 0<b.length by omega),h0],by rw [getElem?_eq_getElem (show 1<b.length by omega),h2]⟩
theorem Ov {b:Bs}{z0:Int}(e0:b[0]?=some (bT z0)):fv b=(decide (2≤b.length)&&(decide ((b.drop 2).length≤4075)&& !decide (z0=0))):=by unfold fv;rw [e0];rfl
theorem QI {b:Bs}(hb:IsB b):VCx prog ah 0 H0 [.vec 1 b .none] ⟨[],[]⟩ λx T'=>x=tZ b∧T'=⟨[],[]⟩:=by
 have hsm:=hb.small
 by_cases h2:b.length<2
 ·refine VCx.toLe (Q:=λT'=>T'=⟨[],[]⟩) (VCx.keepQ 0 0 (le_refl _) (le_refl _) (aj ag ac am ai (JI b 0 0 _) ?_))
  exact aU (decide_eq_true (by omega)) ⟨H3 (Tz h2),rfl⟩
 ·obtain ⟨z0,z1,⟨a0,a1⟩,⟨c0,c1⟩,e0,e1⟩:=TA hb (by omega)
  refine VCx.toLe (Q:=λT'=>T'=⟨[],[]⟩) (VCx.keepQ 0 0 (le_refl _) (le_refl _) (aj ag ac am ai (JI b z0 z1 _) ?_))
  refine aO (decide_eq_false (by omega)) ?_
  have hdl:(b.drop 2).length=b.length-2:=length_drop
  rw [bE (z:=(b.length:Int)-2) (by omega) (by omega),bE (z:=z0) (by omega) (by omega),bE (z:=z1) (by omega) (by omega)]
  by_cases hd:(b.drop 2).length≤4075
  ·refine aO (decide_eq_false (by omega)) ⟨q9 rfl rfl (by decide) e0,?_⟩
   by_cases hz:z0=0
   ·have ho:fv b=false:=by rw [Ov e0,decide_eq_true (show z0=0 by omega),Bool.not_true,Bool.and_false,Bool.and_false]
    exact aU (by rw [tT];exact decide_eq_true hz) ⟨H3 ho,rfl⟩
   ·have ho:fv b=true:=by rw [Ov e0,decide_eq_true (show 2≤b.length by omega),decide_eq_true hd,decide_eq_false hz];rfl
    refine aO (by rw [tT];exact decide_eq_false hz) ⟨q9 rfl rfl (by decide) e0,q9 rfl rfl (by decide) e1,tU rfl rfl (by decide) rfl (by omega),mJ _ _ (by omega) 28 30 rfl,?_,rfl⟩
    unfold tZ;rw [ho,e0,e1]
    refine TVle.of_eq ?_
    simp only [TV.ren,aB,(hb.drop 2).ren,Tok.ren,cond_true,getD_some,hZ,bT]
    rfl
  ·have ho:fv b=false:=by unfold fv;rw [decide_eq_false hd,Bool.false_and,Bool.and_false]
   exact aU (decide_eq_true (by omega)) ⟨H3 ho,rfl⟩
theorem Ds:∃inf:TypeInfo,prog.info? 101=some inf∧inf.size=2∧inf.bytes+1≤1000∧inf.zero=some (.agg #[.int .i64 0,.slice none 0 0]):=
 ⟨(prog.info? 101).getD default,by kernel_rfl,by kernel_rfl,le_of_ble_eq_true (by kernel_rfl),by kernel_rfl⟩
theorem Dt {ro:Nat}{T T1:VT}{s x:Operand}{l:List (Nat × TV)}{es es2:List (List TV)}{k n:Nat}{bn:Bool}(hs:cE T 2 (aL ah l s)=some (es,k,n,bn,T1))(hx:gf 2 (aL ah l x)=some es2)(hb:es.length+es2.length≤64000001):
    br prog ah ro T (.call ⟨.builtin .append,#[s,x],#[55,55]⟩) l (.vec 2 (es++es2) (.tail k (n+es2.length))) {T1 with tails:=T1.tails.set k (n+es2.length,2,bn)}:=by
  obtain ⟨inf,i1,i2,i3,i4⟩:=Ds
  have h:=fb (inf:=inf) (P:=prog) (G:=ah) (ro:=ro) (T:=T) (T1:=T1) (t:=55) (tx:=55) (s:=s) (x:=x) (l:=l) (es:=es) (es2:=es2) (k:=k) (n:=n) (bn:=bn) Tryz.underlying55 i1 i4 (by rw [i2];rfl) (by rw [i2];decide) (by kernel_rfl) (by rw [i2];exact hs) (by rw [i2];exact hx)
    (by have h1:=i3
        have h2:=mul_le_mul hb h1
        omega)
  rw [i2] at h
  exact h
structure TB where
 b:Bs
 a:Int
 e:Int
 acc:List (Int × Bs)
theorem JK {b0:Bs}(h0:IsB b0)(a0 e0:Int)(K:KX)(hK:∀az:Int,K .normal (aJ 25 wx (sk (lq b0 e0))) ⟨[aN (pd b0 e0) az (nx b0 e0)],[((lq b0 e0).length,2,true)]⟩ []):VWx prog ah none 0 (aA prog nD 0) (aJ 25 wx (sk [])) ⟨[aN b0 a0 e0],[(0,2,true)]⟩ [] K:=by
 let sl:TB→List TV:=λs=>sk (s.acc.map bS)
 let TT:TB→VT:=λs=>⟨[aN s.b s.a s.e],[(s.acc.length,2,true)]⟩
 let Post:Exit→List TV→VT→Prop:=λe vs T=>e=.normal∧∃az:Int,vs=sk (lq b0 e0)∧T=⟨[aN (pd b0 e0) az (nx b0 e0)],[((lq b0 e0).length,2,true)]⟩
 refine dW (f:=nD) (id:=0) (by kernel_rfl) 25 wx (λs:TB=>s.b.length) sl TT (λs=>IsB s.b∧AllB s.acc∧s.acc.length+s.b.length≤b0.length∧gi (s.b.length+1) s.b s.e s.acc=JH b0 e0) 1 1 (λ_ _=>⟨le_refl _,le_refl _⟩)
  Post (λs hs=> ?_) ⟨b0,a0,e0,[]⟩ ⟨h0,.nil,by simp,rfl⟩ K (λe vs T ⟨h1,az,h2,h3⟩=>by subst h1 h2 h3;exact hK az)
 obtain ⟨b,a,e,acc⟩:=s
 obtain ⟨hb,ha,hlen,hgo⟩:=hs
 have hsm:=h0.small
 simp only at hb ha hlen hgo
 have hS:bk prog ah (aI [(kT,nJ),(jb,mm .i64 1),(j5,AS)]):=aQ λp hp=>by
  rcases mem_cons.1 hp with rfl | hp;exact oY
  rcases mem_cons.1 hp with rfl | hp;exact λro ys T K h=>ra _ _ _ _ (nv h)
  obtain rfl:=mem_singleton.1 hp;exact λro ys T K h=>tV _ _ _ _ (Dm h)
 have hv:=QG b (acc.map bS) (bS (iK b e,dA b e)) a e
 rw [length_map] at hv
 refine cg ag ac hS ai (hv _) ?_
 refine ⟨⟨rfl,hb⟩,?_⟩
 by_cases hl:bo b e>0
 ·refine aU (decide_eq_true hl) ⟨⟨rfl,hb⟩,?_⟩
  rintro z bz az ez ⟨rfl,rfl,rfl⟩
  refine ⟨⟨rfl,aH hb⟩,?_⟩
  rintro z bz az ez ⟨rfl,rfl,rfl⟩
  refine ⟨⟨rfl,aH (aH hb)⟩,?_⟩
  rintro v bz az ez ⟨rfl,rfl,rfl⟩
  have hlt:=kw hl
  have hb2:=tY (e:=e) hb
  have ha2:=ha.app (.one (c:=iK b e) (pf (e:=e) hb))
  have e1:(acc++ [(iK b e,dA b e)]).map bS=acc.map bS++ [bS (iK b e,dA b e)]:=by rw [map_append];rfl
  refine ⟨?_,rfl,rfl,⟨iL b e,az,jl b e,acc++ [(iK b e,dA b e)]⟩,⟨hb2,ha2,by simp only [length_append,length_cons,length_nil];omega,by rw [←hgo];exact (x7 hl).symm⟩,by simp only;omega,.inr ⟨?_,?_⟩⟩
  ·have h:=Dt (ro:=0) (T:=⟨[aN (iL b e) az (jl b e),.cells (bS (iK b e,dA b e))],[(acc.length,2,true)]⟩) (T1:=⟨[aN (iL b e) az (jl b e),.cells (bS (iK b e,dA b e))],[(acc.length,2,true)]⟩) (s:=.tmp 17) (x:=.tmp 19) (l:= [(17,.vec 2 (acc.map bS) (.tail 0 acc.length)),(19,.vec 2 [bS (iK b e,dA b e)] .full)]) (es:=acc.map bS) (es2:= [bS (iK b e,dA b e)]) (k:=0) (n:=acc.length) (bn:=true)
    (by simp [aL,dT,cE]) rfl (by simp only [length_map,length_cons,length_nil];omega)
   exact h
  ·refine (show VT.keep ⟨aN (iL b e) az (jl b e)::_,_⟩ 1 1=_ from ?_)
   simp only [VT.keep,take_succ_cons,take_zero,map_cons,map_nil,bW hb2]
   simp only [TT,length_append,length_cons,length_nil]
  ·have e2:=fY (ax 1) (ax 1) ha2
   rw [e1] at e2
   simp only [aB,TV.ren,e2,Tok.ren]
   simp only [sl,sk,e1,length_append,length_map,length_cons,length_nil]
   rfl
 ·have hE:=(AU (acc:=acc) hl).symm.trans hgo
  refine aO (decide_eq_false hl) ⟨rfl,rfl,rfl,a,?_,?_⟩
  ·simp only [sk,lq,jX,←hE,length_map]
  ·simp only [pd,nx,lq,jX,←hE,length_map];rfl
theorem M5 {b:Bs}(h:IsB b)(a e:Int):dD prog ah (Tu b (pd b e) (lq b e) a e (nx b e) (aA prog nD 0)):=bL λp hp=>by
 obtain rfl:=mem_singleton.1 hp
 exact ce λK hK=>JK h a e K hK
theorem QJ {b:Bs}(hb:IsB b)(a e:Int):VCx prog ah 0 nD [.ptr 0 0] ⟨[aN b a e],[]⟩ λx T'=>x=.tup [.vec 2 (lq b e) .none,.val (.bool (mn b e))]∧∃az,T'=⟨[aN (pd b e) az (nx b e)],[]⟩:=by
 obtain ⟨h1,h2,h3⟩:=rg e hb
 refine VCx.keepQ 1 0 (le_refl _) (le_refl _) (aj ag ac (aQ λp hp=>by obtain rfl:=mem_singleton.1 hp;exact rc) (M5 hb a e) (Tw b (pd b e) (lq b e) a e (nx b e) _) ?_)
 refine ⟨rfl,⟨rfl,rfl,rfl,⟨rfl,trivial⟩,rfl,rfl,rfl⟩,λaz=>⟨⟨rfl,h1⟩,?_,az,gY h1 _ _ _ _⟩⟩
 have e2:bm (ax 1) (ax 0) (lq b e)=lq b e:=fY _ _ h2
 simp only [TV.ren,aB,e2,Tok.ren,tT]
 rfl
theorem QK:∀ro ys T K,H1 ro ys T K→VCx prog ah ro nD ys T K:=by
 intro ro ys T K hw
 unfold H1 at hw
 split at hw
 ·rename_i k
  split at hw
  ·rename_i b a e ho
   obtain ⟨⟨hro,hb⟩,hk⟩:=hw
   obtain ⟨h1,h2,h3⟩:=rg e hb
   refine VCx.at1 (Q:=λx o' l'=>x=.tup [.vec 2 (lq b e) .none,.val (.bool (mn b e))]∧(∃az,o'=aN (pd b e) az (nx b e))∧l'= []) aP (le_of_ble_eq_true hro) ho rfl (bW hb a e _ _) (ys1:= [.ptr 0 0]) (by simp [aB,TV.ren,bb]) ((QJ hb a e).mono λx T' ⟨h1,az,h2⟩=>⟨_,_,h2,h1,⟨az,rfl⟩,rfl⟩) ?_
   rintro x o' l' ⟨rfl,⟨az,rfl⟩,rfl⟩
   rw [bW h1]
   have e2:=fY (bd T.objs.length [k]) (bd T.tails.length []) h2
   simpa [TV.ren,aB,Tok.ren,lq,e2] using hk az
  ·exact hw.elim
 ·exact hw.elim
--bumped 32
structure M6 where
 b:Bs
 a:Int
 e:Int
 acc:List (Int × Bs)
def FJ (b0:Bs)(e0:Int)(e:Exit)(vs:List TV)(T:VT):Prop:=
 (∃(l:List (Int × Bs)) (bz:Bs) (az ez:Int),nM b0 e0=.ok l∧e=.normal∧vs=mL (l.map bS) 0∧T=⟨[aN bz az ez],[(l.length,2,true)]⟩)∨
 (∃(s:Int) (Lz bz bY:Bs) (az ez ay ey:Int),nM b0 e0=.error s∧e=.ret∧vs=mL Lz s∧T=⟨[aN bz az ez,aN bY ay ey],[(Lz.length,2,true)]⟩)
theorem t1 {b:Bs}{e:Int}{l:List (Int × Bs)}(h:nM b e=.ok l):eA b e=true∧gj b e=l.map bS:=by
 unfold eA gj;rw [h];exact ⟨rfl,rfl⟩
theorem mM {b:Bs}{e s:Int}(h:nM b e=.error s):eA b e=false∧gj b e= []∧gO b e=s:=by
 unfold eA gj gO;rw [h];exact ⟨rfl,rfl,rfl⟩
theorem H4 {b0:Bs}{e0:Int}{K:KX}(hK:M4 (gj b0 e0) (gO b0 e0) (eA b0 e0) K){e:Exit}{vs:List TV}{T:VT}(h:FJ b0 e0 e vs T):K e (aJ 37 tX vs) T []:=by
 rcases h with ⟨l,bz,az,ez,h1,rfl,rfl,rfl⟩ | ⟨s,Lz,bz,bY,az,ez,ay,ey,h1,rfl,rfl,rfl⟩
 ·obtain ⟨h2,h3⟩:=t1 h1
  have:=hK bz [] [] az ez 0 0
  simp only [h2,cond_true,h3,length_map] at this
  exact this
 ·obtain ⟨h2,_,h3⟩:=mM h1
  have:=hK bz Lz bY az ez ay ey
  simp only [h2,cond_false,h3] at this
  exact this
theorem JL {b0:Bs}(h0:IsB b0)(a0 e0:Int)(K:KX)(hK:M4 (gj b0 e0) (gO b0 e0) (eA b0 e0) K):VWx prog ah none 0 (aA prog nE 0) (aJ 37 tX (mL [] 0)) ⟨[aN b0 a0 e0],[(0,2,true)]⟩ [] K:=by
 let sl:M6→List TV:=λs=>mL (s.acc.map bS) 0
 let TT:M6→VT:=λs=>⟨[aN s.b s.a s.e],[(s.acc.length,2,true)]⟩
 refine dW (f:=nE) (id:=0) (by kernel_rfl) 37 tX (λs:M6=>s.b.length) sl TT (λs=>IsB s.b∧AllB s.acc∧s.acc.length+s.b.length≤b0.length∧j8 (s.b.length+1) s.b s.e s.acc=nM b0 e0) 1 1 (λ_ _=>⟨le_refl _,le_refl _⟩)
  (FJ b0 e0) (λs hs=> ?_) ⟨b0,a0,e0,[]⟩ ⟨h0,.nil,by simp,rfl⟩ K (λe vs T h=>H4 hK h)
 obtain ⟨b,a,e,acc⟩:=s
 obtain ⟨hb,ha,hlen,hgo⟩:=hs
 have hsm:=h0.small
 simp only at hb ha hlen hgo
 have hS:bk prog ah (aI [(kT,nJ),(jb,mm .i64 1),(HT,BT),(jD,mj),(nD,H1)]):=aQ λp hp=>by
  rcases mem_cons.1 hp with rfl | hp;exact oY
  rcases mem_cons.1 hp with rfl | hp;exact λro ys T K h=>ra _ _ _ _ (nv h)
  rcases mem_cons.1 hp with rfl | hp;exact λro ys T K h=>S6 _ _ _ _ (M1 h)
  rcases mem_cons.1 hp with rfl | hp;exact rc
  obtain rfl:=mem_singleton.1 hp;exact QK
 have hv:=QH b (acc.map bS) (lq (dA b e) 0) a e
 rw [length_map] at hv
 refine cg ag ac hS ai (hv _) ?_
 refine ⟨⟨rfl,hb⟩,?_⟩
 by_cases hl:bo b e>0
 ·refine aU (decide_eq_true hl) ⟨⟨rfl,hb⟩,?_⟩
  rintro z bz az ez ⟨rfl,rfl,rfl⟩
  refine ⟨⟨rfl,aH hb⟩,?_⟩
  rintro z bz az ez ⟨rfl,rfl,rfl⟩
  refine ⟨⟨rfl,aH (aH hb)⟩,?_⟩
  rintro v bz az ez ⟨rfl,rfl,rfl⟩
  have hlt:=kw hl
  have hb2:=tY (e:=e) hb
  have hv2:=pf (e:=e) hb
  have hst:=AW (acc:=acc) hl
  rw [hgo] at hst
  refine ⟨⟨rfl,hb2⟩,?_⟩
  by_cases hz:jl b e=0
  ·rw [decide_eq_true hz,cond_true] at hst
   refine aO (by rw [cC];exact congrArg Bool.not (decide_eq_true hz)) ?_
   by_cases hc:iK b e=2
   ·rw [decide_eq_true hc,cond_true] at hst
    refine aO (by rw [cC];exact congrArg Bool.not (decide_eq_true hc)) ⟨⟨rfl,hv2⟩,λay=> ?_⟩
    obtain ⟨i1,i2,i3⟩:=rg 0 hv2
    cases ho:mn (dA b e) 0
    ·rw [ho,cond_false] at hst
     exact aU (congrArg Bool.not ho) ⟨rfl,rfl,.inr ⟨0,acc.map bS,_,_,_,_,_,_,hst,rfl,by simp only [mL,length_map],by rw [length_map];rfl⟩⟩
    ·rw [ho,cond_true] at hst
     have ha2:=ha.app i2
     have e1:(acc++jX (dA b e) 0).map bS=acc.map bS++lq (dA b e) 0:=by rw [map_append];rfl
     have hcl:(lq (dA b e) 0).length=(jX (dA b e) 0).length:=length_map _
     refine aO (congrArg Bool.not ho) ⟨?_,rfl,rfl,⟨iL b e,az,jl b e,acc++jX (dA b e) 0⟩,⟨hb2,ha2,by simp only [length_append];omega,by rw [hst]⟩,by simp only;omega,.inr ⟨?_,?_⟩⟩
     ·have h:=Dt (ro:=0) (T:=⟨[aN (iL b e) az (jl b e),aN (pd (dA b e) 0) ay (nx (dA b e) 0)],[(acc.length,2,true)]⟩) (T1:=⟨[aN (iL b e) az (jl b e),aN (pd (dA b e) 0) ay (nx (dA b e) 0)],[(acc.length,2,true)]⟩) (s:=.tmp 33) (x:=.tmp 34) (l:= [(33,.vec 2 (acc.map bS) (.tail 0 acc.length)),(34,.vec 2 (lq (dA b e) 0) .none)]) (es:=acc.map bS) (es2:=lq (dA b e) 0) (k:=0) (n:=acc.length) (bn:=true)
       (by simp [aL,dT,cE]) rfl (by rw [hcl,length_map];omega)
      exact h
     ·refine (show VT.keep ⟨aN (iL b e) az (jl b e)::_,_⟩ 1 1=_ from ?_)
      simp only [VT.keep,take_succ_cons,take_zero,map_cons,map_nil,bW hb2]
      simp only [TT,length_append,hcl]
     ·have e2:=fY (ax 1) (ax 1) ha2
      rw [e1] at e2
      simp only [aB,TV.ren,e2,Tok.ren]
      simp only [sl,mL,e1,length_append,length_map,hcl]
      rfl
   ·rw [decide_eq_false hc,cond_false] at hst
    exact aU (by rw [cC];exact congrArg Bool.not (decide_eq_false hc)) ⟨rfl,rfl,.inr ⟨4,acc.map bS,_,_,_,_,_,_,hst,rfl,by simp only [mL,length_map],by rw [length_map];rfl⟩⟩
  ·rw [decide_eq_false hz,cond_false] at hst
   exact aU (by rw [cC];exact congrArg Bool.not (decide_eq_false hz)) ⟨rfl,rfl,.inr ⟨0,acc.map bS,_,_,_,_,_,_,hst,rfl,by simp only [mL,length_map],by rw [length_map];rfl⟩⟩
 ·have hE:=(Dr (acc:=acc) hl).symm.trans hgo
  exact aO (decide_eq_false hl) ⟨rfl,rfl,.inl ⟨acc,b,a,e,hE.symm,rfl,by simp only [mL,length_map],rfl⟩⟩
theorem M7 {b:Bs}(h:IsB b)(a e:Int):dD prog ah (Tv b (gj b e) a e (gO b e) (eA b e) (aA prog nE 0)):=bL λp hp=>by
 obtain rfl:=mem_singleton.1 hp
 exact ce λK hK=>JL h a e K hK
theorem ve:∀(k:Nat) (b:Bs) (e:Int) (acc:List (Int × Bs)),IsB b→AllB acc→∀l,j8 k b e acc=.ok l→AllB l
 | 0,_,_,_,_,_,l,h=>by cases h
 |k+1,b,e,acc,hb,ha,l,h=>by
  unfold j8 at h
  cases h1:decide (bo b e>0)<;>rw [h1] at h
  ·injection h with h;subst h;exact ha
  ·cases h2:decide (jl b e=0)<;>rw [h2] at h
   ·cases h
   ·cases h3:decide (iK b e=2)<;>rw [h3] at h
    ·cases h
    ·cases h4:mn (dA b e) 0<;>rw [h4] at h
     ·cases h
     ·exact ve k _ _ _ (tY hb) (ha.app (rg 0 (pf hb)).2.1) l h
theorem zx {b:Bs}(hb:IsB b)(e:Int)(f g:Nat→Option Nat):bm f g (gj b e)=gj b e:=by
 cases h:nM b e with
 |ok l=>rw [(t1 h).2];exact fY f g (ve _ _ _ _ hb .nil l h)
 |error s=>rw [(mM h).2.1];rfl
theorem FL {b:Bs}{e:Int}(h:eA b e=false):gj b e= []:=by
 cases hc:nM b e with
 |ok l=>rw [(t1 hc).1] at h;cases h
 |error s=>exact (mM hc).2.1
def JM (b:Bs)(e:Int):TV:=.tup [.vec 2 (gj b e) .none,.val (.int .i64 (bif eA b e then 0 else gO b e)),.val (.bool (eA b e))]
theorem QL {b:Bs}(hb:IsB b)(a e:Int):VCx prog ah 0 nE [.ptr 0 0] ⟨[aN b a e],[]⟩ λx T'=>x=JM b e∧∃bz az ez,T'=⟨[aN bz az ez],[]⟩:=by
 refine VCx.toLe (Q:=λT'=>∃bz az ez,T'=⟨[aN bz az ez],[]⟩) (VCx.keepQ 1 0 (le_refl _) (le_refl _) (aj ag ac am (M7 hb a e) (Tx b (gj b e) a e (gO b e) (eA b e) _) ?_))
 refine ⟨rfl,⟨rfl,rfl,rfl,⟨rfl,trivial⟩,rfl,rfl,rfl⟩,λbz Lz bY az ez ay ey=> ?_⟩
 cases h:eA b e
 ·refine ⟨?_,_,az,ez,rfl⟩
  unfold JM
  rw [FL h,h]
  exact TVle.tup ⟨TVle.nil 2,TVle.refl _,TVle.refl _,trivial⟩
 ·refine ⟨TVle.of_eq ?_,_,az,ez,rfl⟩
  unfold JM
  rw [h]
  simp only [TV.ren,aB,zx hb e,Tok.ren,cond_true]
  rfl
theorem TC:∀ro ys T K,Ou ro ys T K→VCx prog ah ro nE ys T K:=by
 intro ro ys T K hw
 unfold Ou at hw
 split at hw
 ·rename_i k
  split at hw
  ·rename_i b a e ho
   obtain ⟨⟨hro,hb⟩,hk⟩:=hw
   refine VCx.at1 (Q:=λx o' l'=>x=JM b e∧(∃bz az ez,o'=aN bz az ez)∧l'= []) aP (le_of_ble_eq_true hro) ho rfl (bW hb a e _ _) (ys1:= [.ptr 0 0]) (by simp [aB,TV.ren,bb]) ((QL hb a e).mono λx T' ⟨h1,bz,az,ez,h2⟩=>⟨_,_,h2,h1,⟨bz,az,ez,rfl⟩,rfl⟩) ?_
   rintro x o' l' ⟨rfl,⟨bz,az,ez,rfl⟩,rfl⟩
   have hk2:=hk (bm (bd T.objs.length [k]) (bd T.tails.length []) bz) az ez
   have e2:=zx hb e (bd T.objs.length [k]) (bd T.tails.length [])
   unfold JM
   cases h:eA b e<;>rw [h] at hk2
   ·rw [FL h]
    simp only [map_nil,append_nil,TV.ren,aB,cond_false]
    exact hk2
   ·simp only [map_nil,append_nil,TV.ren,aB,cond_true,e2,Tok.ren]
    exact hk2
  ·exact hw.elim
 ·exact hw.elim
def en (s:Int)(d:Bs):TV:=.tup [.agg [.val (.int .i64 0),.val (.int .i64 0),.val (.int .u32 0),.vec 2 [] .none],.agg [.val (.int .i64 2),.val (.int .i64 s),.vec 1 d .none]]
def rh (n h i:Int)(l:Bs):TV:=.tup [.agg [.val (.int .i64 n),.val (.int .i64 h),.val (.int .u32 i),.vec 2 l .none],.agg [.val (.int .i64 0),.val (.int .i64 0),.vec 1 [] .none]]
def fJ (n h i k:Int)(b:Bs)(e pas:Int):TV:=
 if n=0 then en 2 [] else if pas≥1∧¬n=pas then en 2 [] else if ¬(h=0∨(h≥3∧h≤65535)) then en 6 [] else if i=0 then en 3 []
 else if ¬k=bo b e then en 0 [] else bif eA b e then rh n h i (gj b e) else en (gO b e) []
def n9 (b:Bs)(e pas:Int):TV:=
 fJ (aw 2 b e) (aw 2 (aC 2 b e) (ar 2 b e)) (aw 4 (aC 2 (aC 2 b e) (ar 2 b e)) (ar 2 (aC 2 b e) (ar 2 b e)))
  (aw 1 (aC 4 (aC 2 (aC 2 b e) (ar 2 b e)) (ar 2 (aC 2 b e) (ar 2 b e))) (ar 4 (aC 2 (aC 2 b e) (ar 2 b e)) (ar 2 (aC 2 b e) (ar 2 b e))))
  (aC 1 (aC 4 (aC 2 (aC 2 b e) (ar 2 b e)) (ar 2 (aC 2 b e) (ar 2 b e))) (ar 4 (aC 2 (aC 2 b e) (ar 2 b e)) (ar 2 (aC 2 b e) (ar 2 b e))))
  (ar 1 (aC 4 (aC 2 (aC 2 b e) (ar 2 b e)) (ar 2 (aC 2 b e) (ar 2 b e))) (ar 4 (aC 2 (aC 2 b e) (ar 2 b e)) (ar 2 (aC 2 b e) (ar 2 b e)))) pas
def fZ (b:Bs)(pas:Int):TV:=if b.length<10 then en 0 [] else if ¬aw 1 b 0=4 then en 1 [bT 0,bT 4] else n9 (aC 1 b 0) (ar 1 b 0) pas
theorem bw (s:Int):TVle (.tup [.agg [.val (.int .i64 0),.val (.int .i64 0),.val (.int .u32 0),.val (.slice none 0 0)],.agg [.val (.int .i64 2),.val (.int .i64 s),.val (.slice none 0 0)]]) (en s []):=
 .tup ⟨.agg ⟨.refl _,.refl _,.refl _,.nil 2,trivial⟩,.agg ⟨.refl _,.refl _,.nil 1,trivial⟩,trivial⟩
theorem wy (tok:Tok):TVle (.tup [.agg [.val (.int .i64 0),.val (.int .i64 0),.val (.int .u32 0),.val (.slice none 0 0)],.agg [.val (.int .i64 2),.val (.int .i64 1),.vec 1 [bT 0,bT 4] tok]]) (en 1 [bT 0,bT 4]):=
 .tup ⟨.agg ⟨.refl _,.refl _,.refl _,.nil 2,trivial⟩,.agg ⟨.refl _,.refl _,.vec 1 _ _,trivial⟩,trivial⟩
theorem oB (n h i:Int)(l:Bs)(tok:Tok):TVle (.tup [.agg [.val (.int .i64 n),.val (.int .i64 h),.val (.int .u32 i),.vec 2 l tok],.agg [.val (.int .i64 0),.val (.int .i64 0),.val (.slice none 0 0)]]) (rh n h i l):=
 .tup ⟨.agg ⟨.refl _,.refl _,.refl _,.vec 2 _ _,trivial⟩,.agg ⟨.refl _,.refl _,.nil 1,trivial⟩,trivial⟩
theorem bM {q:IntKind}{x y:Int}(h:aq eql (aT (.int q x) (.int q y))=true):x=y:=by rw [tT] at h;exact of_decide_eq_true h
theorem bB {q:IntKind}{x y:Int}(h:aq eql (aT (.int q x) (.int q y))=false):¬x=y:=by rw [tT] at h;exact of_decide_eq_false h
theorem bX {q:IntKind}{x y:Int}(h:aq neq (aT (.int q x) (.int q y))=true):¬x=y:=by rw [cC] at h;exact of_decide_eq_false (by simpa using h)
theorem bZ {q:IntKind}{x y:Int}(h:aq neq (aT (.int q x) (.int q y))=false):x=y:=by rw [cC] at h;exact of_decide_eq_true (by simpa using h)
section
variable {n h i k:Int}{b:Bs}{e pas:Int}
theorem H5 (h1:n=0):fJ n h i k b e pas=en 2 []:=by unfold fJ;rw [if_pos h1]
theorem H6 (h1:¬n=0)(h2:pas≥1)(h3:¬n=pas):fJ n h i k b e pas=en 2 []:=by unfold fJ;rw [if_neg h1,if_pos ⟨h2,h3⟩]
theorem kL (h1:¬n=0)(h2:¬(pas≥1∧¬n=pas))(h3:¬(h=0∨(h≥3∧h≤65535))):fJ n h i k b e pas=en 6 []:=by unfold fJ;rw [if_neg h1,if_neg h2,if_pos h3]
theorem qb (h1:¬n=0)(h2:¬(pas≥1∧¬n=pas))(h3:h=0∨(h≥3∧h≤65535))(h4:i=0):fJ n h i k b e pas=en 3 []:=by unfold fJ;rw [if_neg h1,if_neg h2,if_neg (λc=>c h3),if_pos h4]
theorem qc (h1:¬n=0)(h2:¬(pas≥1∧¬n=pas))(h3:h=0∨(h≥3∧h≤65535))(h4:¬i=0)(h5:¬k=bo b e):fJ n h i k b e pas=en 0 []:=by unfold fJ;rw [if_neg h1,if_neg h2,if_neg (λc=>c h3),if_neg h4,if_pos h5]
theorem qd (h1:¬n=0)(h2:¬(pas≥1∧¬n=pas))(h3:h=0∨(h≥3∧h≤65535))(h4:¬i=0)(h5:k=bo b e):fJ n h i k b e pas=bif eA b e then rh n h i (gj b e) else en (gO b e) []:=by unfold fJ;rw [if_neg h1,if_neg h2,if_neg (λc=>c h3),if_neg h4,if_neg (λc=>c h5)]
end
abbrev ir:=50
abbrev mo:=List (Nat × Nat × Bool)
def zO:VO:=.cells [.val (.int .i64 0),.val (.int .i64 0),.val (.int .u32 0),.val (.slice none 0 0)]
def zF:VO:=.cells [.val (.int .i64 0),.val (.int .i64 0),.val (.slice none 0 0)]
def fF (s:Int):VO:=.cells [.val (.int .i64 2),.val (.int .i64 s),.val (.slice none 0 0)]
def oC (a h i:Int)(x:TV):VO:=.cells [.val (.int .i64 a),.val (.int .i64 h),.val (.int .u32 i),x]
def AX:List Nat:= [4,5,6,7]
def AY:List TV:= [.ptr 0 0,.ptr 1 0,.ptr 2 0,.ptr 3 0]
def AZ:List Nat:= [4,5,6,7,10]
def A0:List TV:= [.ptr 0 0,.ptr 1 0,.ptr 2 0,.ptr 3 0,.ptr 4 0]
def Ow (B C:Bs)(n e a h i:Int)(x1:TV)(jW:mo)(ok:Bool)(K:KX):Prop:=bif ok then (∀mz ez:Int,K .normal (aJ 122 AZ A0) ⟨[zO,zF,bf B n e,oC a h i x1,bf C mz ez],jW⟩ []) else ∀(rest:List VO) (tlz:mo),K .ret (aJ 122 AZ A0) ⟨zO::fF 0::rest,tlz⟩ []
def W4 (B C:Bs)(n e a h i:Int)(x x1:TV)(tl jW:mo)(ok:Bool)(c0:Code):Nat→Option (cB × Code):=cG [(3,dB 122 AZ [] A0 ⟨[zO,zF,bf B n e,oC a h i x,bf C 0 0],tl⟩ (Ow B C n e a h i x1 jW ok),c0)]
def Ox (B:Bs)(s a h i:Int)(x1:TV)(jW:mo)(ok:Bool)(K:KX):Prop:=bif ok then (∀nz ez:Int,K .normal (aJ 122 AX AY) ⟨[zO,zF,bf B nz ez,oC a h i x1],jW⟩ []) else ∀(rest:List VO) (tlz:mo),K .ret (aJ 122 AX AY) ⟨zO::fF s::rest,tlz⟩ []
def TD (B:Bs)(n e s a h i:Int)(x1:TV)(jW:mo)(ok:Bool)(c0:Code):Nat→Option (cB × Code):=cG [(1,dB 122 AX [] AY ⟨[zO,zF,bf B n e,oC a h i (.val (.slice none 0 0))],[]⟩ (Ox B s a h i x1 jW ok),c0)]
theorem Wi (B C:Bs)(n e m a h i:Int)(x:TV)(Y:Bs)(ky:Nat)(tl tl2:mo)(Q:Exit→List TV→VT→List Nat→Nat→Prop):vx prog ah (aI [(j6,ns),(iE,ku .i64 1),(iD,AT)]) (bc [(999999,.dead,none),(118,.vec 2 Y (.tail 0 ky),some λT=>{T with tails:=tl2})]) 300 aG none 0 (cM prog ir 3) (aJ 122 AZ A0) ⟨[zO,zF,bf B n e,oC a h i x,bf C m 0],tl⟩ [] (de AZ Q)=
 (((@Eq (Bool) true true)∧
 (IsB (C)∧
 bq (C) (m)))∧
 (bif decide (bo (aa C m) (0:Int)>(0:Int))
 then (((@Eq (Bool) true true)∧
 (IsB (C)∧
 bq (C) (m)))∧
 (∀z:Int,(∀nz:Int,(∀ez:Int,(((@Eq (Int) (z) (aw (1:Nat) (aa C m) (0:Int)))∧
 ((@Eq (Int) (nz) (aX (↑(1:Nat):Int) C m (0:Int)))∧
 (@Eq (Int) (ez) (ar (↑(1:Nat):Int) (aa C m) (0:Int)))))→(((@Eq (Bool) true true)∧
 (IsB (C)∧
 bq (C) (nz)))∧
 (∀z_18:Int,(∀nz_19:Int,(∀ez_20:Int,(((@Eq (Int) (z_18) (aw (1:Nat) (aa C nz) ez))∧
 ((@Eq (Int) (nz_19) (aX (↑(1:Nat):Int) C nz ez))∧
 (@Eq (Int) (ez_20) (ar (↑(1:Nat):Int) (aa C nz) ez))))→(((@Eq (Bool) true true)∧
 (IsB (C)∧
 bq (C) (nz_19)))∧
 (∀v:Bs,(∀nz_23:Int,(∀ez_24:Int,(((@Eq (Bs) (v) (bv z_18 (aa C nz_19) ez_20))∧
 ((@Eq (Int) (nz_23) (aX z_18 C nz_19 ez_20))∧
 (@Eq (Int) (ez_24) (ar z_18 (aa C nz_19) ez_20))))→(bif aq neq (k6 ez_24 (0:Int))
 then Q .ret xP ⟨[bg,gB,(.cells [(an B),(ae n),(ae e)]),(nb a h i x),(.cells [(an C),(ae nz_23),(ae ez_24)]),(nc z v)],tl⟩ [] 122
 else (br prog (λ_=>.none) 0 ⟨[bg,bh,(.cells [(an B),(ae n),(ae e)]),(nb a h i x),(.cells [(an C),(ae nz_23),(ae ez_24)]),(nc z v)],tl⟩ (.call ⟨(.builtin .append),#[(.tmp 115),(.tmp 117)],#[68,68]⟩) [(115,(x)),(117,(.vec 2 [[(.val (.int .i64 (z))),(.vec 1 (v) .none)]] .full))] (eM Y ky) ⟨[bg,bh,(.cells [(an B),(ae n),(ae e)]),(nb a h i x),(.cells [(an C),(ae nz_23),(ae ez_24)]),(nc z v)],tl2⟩∧
 Q .normal xP ⟨[bg,bh,(.cells [(an B),(ae n),(ae e)]),(xO a h i Y ky),(.cells [(an C),(ae nz_23),(ae ez_24)]),(nc z v)],tl2⟩ [] 122)))))))))))))))))
 else Q (.exit 3) xP ⟨[bg,bh,(.cells [(an B),(ae n),(ae e)]),(nb a h i x),(.cells [(an C),(ae m),aE])],tl⟩ [] 122)):=by kernel_rfl
theorem Wj (B C:Bs)(n e n3 e3 a h i:Int)(x x1:TV)(tl jW:mo)(ok:Bool)(Q:Exit→List TV→VT→List Nat→Nat→Prop):vx prog ah (aI [(j6,ns),(iE,ku .i64 1),(HV,BU)]) (bc [(999999,.dead,none)]) 300 (W4 B C n3 e3 a h i x x1 tl jW ok (aA prog ir 3)) none 0 (cM prog ir 1) (aJ 122 AX AY) ⟨[zO,zF,bf B n e,oC a h i x],tl⟩ [] (de AX Q)=
 (((@Eq (Bool) true true)∧
 (IsB (B)∧
 bq (B) (n)))∧
 (bif decide (bo (aa B n) e>(0:Int))
 then (((@Eq (Bool) true true)∧
 (IsB (B)∧
 bq (B) (n)))∧
 (∀z:Int,(∀nz:Int,(∀ez:Int,(((@Eq (Int) (z) (aw (1:Nat) (aa B n) e))∧
 ((@Eq (Int) (nz) (aX (↑(1:Nat):Int) B n e))∧
 (@Eq (Int) (ez) (ar (↑(1:Nat):Int) (aa B n) e))))→(((@Eq (Bool) true true)∧
 (IsB (B)∧
 bq (B) (nz)))∧
 (∀z_19:Int,(∀nz_20:Int,(∀ez_21:Int,(((@Eq (Int) (z_19) (aw (1:Nat) (aa B nz) ez))∧
 ((@Eq (Int) (nz_20) (aX (↑(1:Nat):Int) B nz ez))∧
 (@Eq (Int) (ez_21) (ar (↑(1:Nat):Int) (aa B nz) ez))))→(((@Eq (Bool) true true)∧
 (IsB (B)∧
 bq (B) (nz_20)))∧
 (∀v:Bs,(∀nz_24:Int,(∀ez_25:Int,(((@Eq (Bs) (v) (bv z_19 (aa B nz_20) ez_21))∧
 ((@Eq (Int) (nz_24) (aX z_19 B nz_20 ez_21))∧
 (@Eq (Int) (ez_25) (ar z_19 (aa B nz_20) ez_21))))→(bif aq neq (k6 ez_25 (0:Int))
 then Q .ret jR ⟨[bg,gB,(.cells [(an B),(ae nz_24),(ae ez_25)]),(nb a h i x),(.cells [(an v),aE,aE])],tl⟩ [] 122
 else (bif aq neq (k6 z (2:Int))
 then Q .ret jR ⟨[bg,(.cells [dK,gW,aY]),(.cells [(an B),(ae nz_24),(ae ez_25)]),(nb a h i x),(.cells [(an v),aE,aE])],tl⟩ [] 122
 else ((aA prog ir (3:Nat)=aA prog ir (3:Nat))∧
 (((@Eq (Option Nat) .none .none)∧
 ((@Eq (Nat) 0 0)∧
 ((@Eq (List Nat) [] [])∧
 (True  ∧
 ((@Eq (VT) ⟨[bg,bh,(.cells [(an B),(ae nz_24),(ae ez_25)]),(nb a h i x),(.cells [(an v),aE,aE])],tl⟩ ⟨[bg,bh,(.cells [(an B),(ae n3),(ae e3)]),(nb a h i x),(.cells [(an C),aE,aE])],tl⟩)∧
 ((@Eq (Bool) true true)∧
 (@Eq (List TV) xP xP)))))))∧
 (bif ok
 then (∀mz:Int,(∀ez_28:Int,Q .normal jR ⟨[bg,bh,(.cells [(an B),(ae n3),(ae e3)]),(nb a h i x1),(.cells [(an C),(ae mz),(ae ez_28)])],jW⟩ [] 122))
 else (∀rest:List VO,(∀tlz:mo,Q .ret jR ⟨[(.cells [(.val (.int .i64 0)),(.val (.int .i64 0)),(.val (.int .u32 0)),(.val (.slice .none 0 0))]),(.cells [(.val (.int .i64 2)),(.val (.int .i64 0)),(.val (.slice .none 0 0))])]++rest,tlz⟩ [] 122))))))))))))))))))))))
 else Q (.exit 1) jR ⟨[bg,bh,(.cells [(an B),(ae n),(ae e)]),(nb a h i x)],tl⟩ [] 122)):=by kernel_rfl
theorem Wk (B:Bs)(n e s a h i pas:Int)(jW:mo)(ok:Bool)(Q:TV→VT→Prop):au prog ah (aI [(nC,iJ),(iE,ku .i64 1),(lR,ku .i64 2),(xS,ku .u32 4),(j6,ns)]) (bc [(999999,.dead,none)]) 300 (TD B n e s a h i (.val (.slice none 0 0)) jW ok (aA prog ir 1)) 0 ir [.vec 1 B .none,.val (.int .i64 pas)] ap Q=
 (bif decide ((↑(length B):Int)<(10:Int))
 then Q lO Oh
 else ((IsB (B)∧
 oT (B))∧
 (((@Eq (Bool) true true)∧
 (IsB (B)∧
 bq (B) 0))∧
 (∀z:Int,(∀nz:Int,(∀ez:Int,(((@Eq (Int) (z) (aw (1:Nat) (aa B (0:Int)) (0:Int)))∧
 ((@Eq (Int) (nz) (aX (↑(1:Nat):Int) B (0:Int) (0:Int)))∧
 (@Eq (Int) (ez) (ar (↑(1:Nat):Int) (aa B (0:Int)) (0:Int)))))→(bif aq neq (k6 z (4:Int))
 then Q (HP [[(.val (.int .u8 0))],[(.val (.int .u8 4))]]) ⟨[bg,(BL [[(.val (.int .u8 0))],[(.val (.int .u8 4))]]),(.cells [(an B),(ae nz),(ae ez)])],[]⟩
 else (((@Eq (Bool) true true)∧
 (IsB (B)∧
 bq (B) (nz)))∧
 (∀z_15:Int,(∀nz_16:Int,(∀ez_17:Int,(((@Eq (Int) (z_15) (aw (2:Nat) (aa B nz) ez))∧
 ((@Eq (Int) (nz_16) (aX (↑(2:Nat):Int) B nz ez))∧
 (@Eq (Int) (ez_17) (ar (↑(2:Nat):Int) (aa B nz) ez))))→(((@Eq (Bool) true true)∧
 (IsB (B)∧
 bq (B) (nz_16)))∧
 (∀z_19:Int,(∀nz_20:Int,(∀ez_21:Int,(((@Eq (Int) (z_19) (aw (2:Nat) (aa B nz_16) ez_17))∧
 ((@Eq (Int) (nz_20) (aX (↑(2:Nat):Int) B nz_16 ez_17))∧
 (@Eq (Int) (ez_21) (ar (↑(2:Nat):Int) (aa B nz_16) ez_17))))→(((@Eq (Bool) true true)∧
 (IsB (B)∧
 bq (B) (nz_20)))∧
 (∀z_23:Int,(∀nz_24:Int,(∀ez_25:Int,(((@Eq (Int) (z_23) (aw (4:Nat) (aa B nz_20) ez_21))∧
 ((@Eq (Int) (nz_24) (aX (↑(4:Nat):Int) B nz_20 ez_21))∧
 (@Eq (Int) (ez_25) (ar (↑(4:Nat):Int) (aa B nz_20) ez_21))))→(((@Eq (Bool) true true)∧
 (IsB (B)∧
 bq (B) (nz_24)))∧
 (∀z_27:Int,(∀nz_28:Int,(∀ez_29:Int,(((@Eq (Int) (z_27) (aw (1:Nat) (aa B nz_24) ez_25))∧
 ((@Eq (Int) (nz_28) (aX (↑(1:Nat):Int) B nz_24 ez_25))∧
 (@Eq (Int) (ez_29) (ar (↑(1:Nat):Int) (aa B nz_24) ez_25))))→(bif aq eql (k6 z_15 (0:Int))
 then Q u3 ⟨[bg,p9,(.cells [(an B),(ae nz_28),(ae ez_29)]),(bP z_15 z_19 z_23)],[]⟩
 else (bif decide (pas≥(1:Int))
 then (bif aq neq (k6 z_15 pas)
 then Q u3 ⟨[bg,p9,(.cells [(an B),(ae nz_28),(ae ez_29)]),(bP z_15 z_19 z_23)],[]⟩
 else (bif aq eql (k6 z_19 (1:Int))
 then Q kJ ⟨[bg,gX,(.cells [(an B),(ae nz_28),(ae ez_29)]),(bP z_15 z_19 z_23)],[]⟩
 else (bif aq eql (k6 z_19 (2:Int))
 then Q kJ ⟨[bg,gX,(.cells [(an B),(ae nz_28),(ae ez_29)]),(bP z_15 z_19 z_23)],[]⟩
 else (bif aq eql (aT (Value.int u32 z_23) (Value.int u32 (0:Int)))
 then Q pZ ⟨[bg,kI,(.cells [(an B),(ae nz_28),(ae ez_29)]),(bP z_15 z_19 z_23)],[]⟩
 else (((@Eq (Bool) true true)∧
 (IsB (B)∧
 bq (B) (nz_28)))∧
 (bif aq neq (k6 z_27 (bo (aa B nz_28) ez_29))
 then Q lO ⟨[bg,gB,(.cells [(an B),(ae nz_28),(ae ez_29)]),(bP z_15 z_19 z_23)],[]⟩
 else ((aA prog ir (1:Nat)=aA prog ir (1:Nat))∧
 (((@Eq (Option Nat) .none .none)∧
 ((@Eq (Nat) 0 0)∧
 ((@Eq (List Nat) [] [])∧
 (True  ∧
 ((@Eq (VT) ⟨[bg,bh,(.cells [(an B),(ae nz_28),(ae ez_29)]),(bP z_15 z_19 z_23)],[]⟩ ⟨[bg,bh,(.cells [(an B),(ae n),(ae e)]),(bP a h i)],[]⟩)∧
 ((@Eq (Bool) true true)∧
 (@Eq (List TV) jR jR)))))))∧
 (bif ok
 then (∀nz_31:Int,(∀ez_32:Int,Q (Og a h i) ⟨[(bP a h i),bh,(.cells [(an B),(ae nz_31),(ae ez_32)]),(bP a h i)],jW⟩))
 else (∀rest:List VO,(∀tlz:mo,Q (pY s) ⟨[(.cells [(.val (.int .i64 0)),(.val (.int .i64 0)),(.val (.int .u32 0)),(.val (.slice .none 0 0))]),(.cells [(.val (.int .i64 2)),(.val (.int .i64 (s))),(.val (.slice .none 0 0))])]++rest,tlz⟩)))))))))))
 else (bif aq eql (k6 z_19 (1:Int))
 then Q kJ ⟨[bg,gX,(.cells [(an B),(ae nz_28),(ae ez_29)]),(bP z_15 z_19 z_23)],[]⟩
 else (bif aq eql (k6 z_19 (2:Int))
 then Q kJ ⟨[bg,gX,(.cells [(an B),(ae nz_28),(ae ez_29)]),(bP z_15 z_19 z_23)],[]⟩
 else (bif aq eql (aT (Value.int u32 z_23) (Value.int u32 (0:Int)))
 then Q pZ ⟨[bg,kI,(.cells [(an B),(ae nz_28),(ae ez_29)]),(bP z_15 z_19 z_23)],[]⟩
 else (((@Eq (Bool) true true)∧
 (IsB (B)∧
 bq (B) (nz_28)))∧
 (bif aq neq (k6 z_27 (bo (aa B nz_28) ez_29))
 then Q lO ⟨[bg,gB,(.cells [(an B),(ae nz_28),(ae ez_29)]),(bP z_15 z_19 z_23)],[]⟩
 else ((aA prog ir (1:Nat)=aA prog ir (1:Nat))∧
 (((@Eq (Option Nat) .none .none)∧
 ((@Eq (Nat) 0 0)∧
 ((@Eq (List Nat) [] [])∧
 (True  ∧
 ((@Eq (VT) ⟨[bg,bh,(.cells [(an B),(ae nz_28),(ae ez_29)]),(bP z_15 z_19 z_23)],[]⟩ ⟨[bg,bh,(.cells [(an B),(ae n),(ae e)]),(bP a h i)],[]⟩)∧
 ((@Eq (Bool) true true)∧
 (@Eq (List TV) jR jR)))))))∧
 (bif ok
 then (∀nz_31:Int,(∀ez_32:Int,Q (Og a h i) ⟨[(bP a h i),bh,(.cells [(an B),(ae nz_31),(ae ez_32)]),(bP a h i)],jW⟩))
 else (∀rest:List VO,(∀tlz:mo,Q (pY s) ⟨[(.cells [(.val (.int .i64 0)),(.val (.int .i64 0)),(.val (.int .u32 0)),(.val (.slice .none 0 0))]),(.cells [(.val (.int .i64 2)),(.val (.int .i64 (s))),(.val (.slice .none 0 0))])]++rest,tlz⟩)))))))))))))))))))))))))))))))))))))))):=by kernel_rfl
theorem Wl (B:Bs)(n e s a h i pas:Int)(X:Bs)(kx:Nat)(jW:mo)(ok:Bool)(Q:TV→VT→Prop):au prog ah (aI [(nC,iJ),(iE,ku .i64 1),(lR,ku .i64 2),(xS,ku .u32 4),(j6,ns)]) (bc [(999999,.dead,none)]) 300 (TD B n e s a h i (eM X kx) jW ok (aA prog ir 1)) 0 ir [.vec 1 B .none,.val (.int .i64 pas)] ap Q=
 (bif decide ((↑(length B):Int)<(10:Int))
 then Q lO Oh
 else ((IsB (B)∧
 oT (B))∧
 (((@Eq (Bool) true true)∧
 (IsB (B)∧
 bq (B) 0))∧
 (∀z:Int,(∀nz:Int,(∀ez:Int,(((@Eq (Int) (z) (aw (1:Nat) (aa B (0:Int)) (0:Int)))∧
 ((@Eq (Int) (nz) (aX (↑(1:Nat):Int) B (0:Int) (0:Int)))∧
 (@Eq (Int) (ez) (ar (↑(1:Nat):Int) (aa B (0:Int)) (0:Int)))))→(bif aq neq (k6 z (4:Int))
 then Q (HP [[(.val (.int .u8 0))],[(.val (.int .u8 4))]]) ⟨[bg,(BL [[(.val (.int .u8 0))],[(.val (.int .u8 4))]]),(.cells [(an B),(ae nz),(ae ez)])],[]⟩
 else (((@Eq (Bool) true true)∧
 (IsB (B)∧
 bq (B) (nz)))∧
 (∀z_17:Int,(∀nz_18:Int,(∀ez_19:Int,(((@Eq (Int) (z_17) (aw (2:Nat) (aa B nz) ez))∧
 ((@Eq (Int) (nz_18) (aX (↑(2:Nat):Int) B nz ez))∧
 (@Eq (Int) (ez_19) (ar (↑(2:Nat):Int) (aa B nz) ez))))→(((@Eq (Bool) true true)∧
 (IsB (B)∧
 bq (B) (nz_18)))∧
 (∀z_21:Int,(∀nz_22:Int,(∀ez_23:Int,(((@Eq (Int) (z_21) (aw (2:Nat) (aa B nz_18) ez_19))∧
 ((@Eq (Int) (nz_22) (aX (↑(2:Nat):Int) B nz_18 ez_19))∧
 (@Eq (Int) (ez_23) (ar (↑(2:Nat):Int) (aa B nz_18) ez_19))))→(((@Eq (Bool) true true)∧
 (IsB (B)∧
 bq (B) (nz_22)))∧
 (∀z_25:Int,(∀nz_26:Int,(∀ez_27:Int,(((@Eq (Int) (z_25) (aw (4:Nat) (aa B nz_22) ez_23))∧
 ((@Eq (Int) (nz_26) (aX (↑(4:Nat):Int) B nz_22 ez_23))∧
 (@Eq (Int) (ez_27) (ar (↑(4:Nat):Int) (aa B nz_22) ez_23))))→(((@Eq (Bool) true true)∧
 (IsB (B)∧
 bq (B) (nz_26)))∧
 (∀z_29:Int,(∀nz_30:Int,(∀ez_31:Int,(((@Eq (Int) (z_29) (aw (1:Nat) (aa B nz_26) ez_27))∧
 ((@Eq (Int) (nz_30) (aX (↑(1:Nat):Int) B nz_26 ez_27))∧
 (@Eq (Int) (ez_31) (ar (↑(1:Nat):Int) (aa B nz_26) ez_27))))→(bif aq eql (k6 z_17 (0:Int))
 then Q u3 ⟨[bg,p9,(.cells [(an B),(ae nz_30),(ae ez_31)]),(bP z_17 z_21 z_25)],[]⟩
 else (bif decide (pas≥(1:Int))
 then (bif aq neq (k6 z_17 pas)
 then Q u3 ⟨[bg,p9,(.cells [(an B),(ae nz_30),(ae ez_31)]),(bP z_17 z_21 z_25)],[]⟩
 else (bif aq eql (k6 z_21 (1:Int))
 then Q kJ ⟨[bg,gX,(.cells [(an B),(ae nz_30),(ae ez_31)]),(bP z_17 z_21 z_25)],[]⟩
 else (bif aq eql (k6 z_21 (2:Int))
 then Q kJ ⟨[bg,gX,(.cells [(an B),(ae nz_30),(ae ez_31)]),(bP z_17 z_21 z_25)],[]⟩
 else (bif aq eql (aT (Value.int u32 z_25) (Value.int u32 (0:Int)))
 then Q pZ ⟨[bg,kI,(.cells [(an B),(ae nz_30),(ae ez_31)]),(bP z_17 z_21 z_25)],[]⟩
 else (((@Eq (Bool) true true)∧
 (IsB (B)∧
 bq (B) (nz_30)))∧
 (bif aq neq (k6 z_29 (bo (aa B nz_30) ez_31))
 then Q lO ⟨[bg,gB,(.cells [(an B),(ae nz_30),(ae ez_31)]),(bP z_17 z_21 z_25)],[]⟩
 else ((aA prog ir (1:Nat)=aA prog ir (1:Nat))∧
 (((@Eq (Option Nat) .none .none)∧
 ((@Eq (Nat) 0 0)∧
 ((@Eq (List Nat) [] [])∧
 (True  ∧
 ((@Eq (VT) ⟨[bg,bh,(.cells [(an B),(ae nz_30),(ae ez_31)]),(bP z_17 z_21 z_25)],[]⟩ ⟨[bg,bh,(.cells [(an B),(ae n),(ae e)]),(bP a h i)],[]⟩)∧
 ((@Eq (Bool) true true)∧
 (@Eq (List TV) jR jR)))))))∧
 (bif ok
 then (∀nz_33:Int,(∀ez_34:Int,Q (.tup [(.agg [(ae a),(ae h),(cc i),(eM X kx)]),iA]) ⟨[(xO a h i X kx),bh,(.cells [(an B),(ae nz_33),(ae ez_34)]),(xO a h i X kx)],jW⟩))
 else (∀rest:List VO,(∀tlz:mo,Q (pY s) ⟨[(.cells [(.val (.int .i64 0)),(.val (.int .i64 0)),(.val (.int .u32 0)),(.val (.slice .none 0 0))]),(.cells [(.val (.int .i64 2)),(.val (.int .i64 (s))),(.val (.slice .none 0 0))])]++rest,tlz⟩)))))))))))
 else (bif aq eql (k6 z_21 (1:Int))
 then Q kJ ⟨[bg,gX,(.cells [(an B),(ae nz_30),(ae ez_31)]),(bP z_17 z_21 z_25)],[]⟩
 else (bif aq eql (k6 z_21 (2:Int))
 then Q kJ ⟨[bg,gX,(.cells [(an B),(ae nz_30),(ae ez_31)]),(bP z_17 z_21 z_25)],[]⟩
 else (bif aq eql (aT (Value.int u32 z_25) (Value.int u32 (0:Int)))
 then Q pZ ⟨[bg,kI,(.cells [(an B),(ae nz_30),(ae ez_31)]),(bP z_17 z_21 z_25)],[]⟩
 else (((@Eq (Bool) true true)∧
 (IsB (B)∧
 bq (B) (nz_30)))∧
 (bif aq neq (k6 z_29 (bo (aa B nz_30) ez_31))
 then Q lO ⟨[bg,gB,(.cells [(an B),(ae nz_30),(ae ez_31)]),(bP z_17 z_21 z_25)],[]⟩
 else ((aA prog ir (1:Nat)=aA prog ir (1:Nat))∧
 (((@Eq (Option Nat) .none .none)∧
 ((@Eq (Nat) 0 0)∧
 ((@Eq (List Nat) [] [])∧
 (True  ∧
 ((@Eq (VT) ⟨[bg,bh,(.cells [(an B),(ae nz_30),(ae ez_31)]),(bP z_17 z_21 z_25)],[]⟩ ⟨[bg,bh,(.cells [(an B),(ae n),(ae e)]),(bP a h i)],[]⟩)∧
 ((@Eq (Bool) true true)∧
 (@Eq (List TV) jR jR)))))))∧
 (bif ok
 then (∀nz_33:Int,(∀ez_34:Int,Q (.tup [(.agg [(ae a),(ae h),(cc i),(eM X kx)]),iA]) ⟨[(xO a h i X kx),bh,(.cells [(an B),(ae nz_33),(ae ez_34)]),(xO a h i X kx)],jW⟩))
 else (∀rest:List VO,(∀tlz:mo,Q (pY s) ⟨[(.cells [(.val (.int .i64 0)),(.val (.int .i64 0)),(.val (.int .u32 0)),(.val (.slice .none 0 0))]),(.cells [(.val (.int .i64 2)),(.val (.int .i64 (s))),(.val (.slice .none 0 0))])]++rest,tlz⟩)))))))))))))))))))))))))))))))))))))))):=by kernel_rfl
def xF:List (Int × Bs)→TV
 |[]=>.val (.slice none 0 0)
 |p::l=>.vec 2 ((p::l).map bS) (.tail 0 (p::l).length)
def tF:List (Int × Bs)→mo
 |[]=> []
 |p::l=> [((p::l).length,2,true)]
theorem Du (l:List (Int × Bs)):(tF l).length≤1:=by cases l<;>simp [tF]
theorem TE (l:List (Int × Bs))(p:Int × Bs):xF (l++ [p])=.vec 2 ((l++ [p]).map bS) (.tail 0 (l++ [p]).length):=by cases l<;>rfl
theorem TF (l:List (Int × Bs))(p:Int × Bs):tF (l++ [p])= [((l++ [p]).length,2,true)]:=by cases l<;>rfl
theorem TG {l:List (Int × Bs)}(h:AllB l)(f:Nat→Option Nat):(xF l).ren f (ax 1)=xF l:=by
 cases l with
 |nil=>rfl
 |cons p l=>simp only [xF,TV.ren,fY _ _ h,Tok.ren];rfl
theorem QM (l:List (Int × Bs)):(tF l).take 1=tF l:=List.take_of_length_le (Du l)
theorem JN {l:List (Int × Bs)}(h:AllB l)(f:Nat→Option Nat)(a b i:Int):(oC a b i (xF l)).ren f (ax 1)=oC a b i (xF l):=by
 simp only [oC,VO.ren,aB,TG h];rfl
theorem M8:∃inf:TypeInfo,prog.info? 102=some inf∧inf.size=2∧inf.bytes+1≤1000∧inf.zero=some (.agg #[.int .i64 0,.slice none 0 0]):=
 ⟨(prog.info? 102).getD default,by kernel_rfl,by kernel_rfl,le_of_ble_eq_true (by kernel_rfl),by kernel_rfl⟩
theorem M9 {ro:Nat}{T T1:VT}{s x:Operand}{l:List (Nat × TV)}{es es2:List (List TV)}{k n:Nat}{bn:Bool}(hs:cE T 2 (aL ah l s)=some (es,k,n,bn,T1))(hx:gf 2 (aL ah l x)=some es2)(hb:es.length+es2.length≤64000001):
    br prog ah ro T (.call ⟨.builtin .append,#[s,x],#[68,68]⟩) l (.vec 2 (es++es2) (.tail k (n+es2.length))) {T1 with tails:=T1.tails.set k (n+es2.length,2,bn)}:=by
  obtain ⟨inf,i1,i2,i3,i4⟩:=M8
  have h:=fb (inf:=inf) (P:=prog) (G:=ah) (ro:=ro) (T:=T) (T1:=T1) (t:=68) (tx:=68) (s:=s) (x:=x) (l:=l) (es:=es) (es2:=es2) (k:=k) (n:=n) (bn:=bn) Tryz.underlying68 i1 i4 (by rw [i2];rfl) (by rw [i2];decide) (by kernel_rfl) (by rw [i2];exact hs) (by rw [i2];exact hx)
    (by have h1:=i3
        have h2:=mul_le_mul hb h1
        omega)
  rw [i2] at h
  exact h
theorem TH (objs:List VO)(l:List (Int × Bs))(p:Int × Bs)(h:l.length≤64000000):br prog ah 0 ⟨objs,tF l⟩ (.call ⟨.builtin .append,#[.tmp 115,.tmp 117],#[68,68]⟩) [(115,xF l),(117,.vec 2 [bS p] .full)] (.vec 2 ((l++ [p]).map bS) (.tail 0 (l++ [p]).length)) ⟨objs,[((l++ [p]).length,2,true)]⟩:=by
 have h1:=M9 (ro:=0) (T:=⟨objs,tF l⟩) (T1:=⟨objs,[(l.length,2,true)]⟩) (s:=.tmp 115) (x:=.tmp 117) (l:= [(115,xF l),(117,.vec 2 [bS p] .full)]) (es:=l.map bS) (es2:= [bS p]) (k:=0) (n:=l.length) (bn:=true)
  (by cases l<;>simp [aL,dT,cE,xF,tF]) rfl (by simp only [length_map,length_cons,length_nil];omega)
 rw [show (l++ [p]).map bS=l.map bS++ [bS p] by rw [map_append];rfl,show (l++ [p]).length=l.length+ [bS p].length by simp]
 exact h1
theorem H7 {k:Nat}{b:Bs}{e:Int}{acc:List (Int × Bs)}(h:¬e=0):gi (k+1) b e acc=(b,e,acc):=by
 have:¬bo b e>0:=λc=>h (Dp c).1
 simp only [gi,decide_eq_false this,cond_false]
def x8 (B:Bs)(n e:Int):Int:=aX (FH (aa B n) e) B (aX 1 B (aX 1 B n e) (ar 1 (aa B n) e)) (ar 1 (aC 1 (aa B n) e) (ar 1 (aa B n) e))
theorem JO {B:Bs}{n:Int}(h:bq B n)(e:Int):bq B (x8 B n e):=bF (bF (bF h _ _) _ _) _ _
theorem W5 {B:Bs}{n:Int}(h:bq B n)(e:Int):aa B (aX 1 B (aX 1 B n e) (ar 1 (aa B n) e))=aC 1 (aC 1 (aa B n) e) (ar 1 (aa B n) e):=by
 rw [cm (bF h 1 e) 1,cm h 1 e]
theorem FN {B:Bs}{n:Int}(h:bq B n)(e:Int):aa B (x8 B n e)=iL (aa B n) e:=by
 unfold x8
 rw [cm (bF (bF h 1 e) 1 _),W5 h e];rfl
theorem JP {B:Bs}{n:Int}(h:bq B n){e z nz ez z2 n2 e2 n3 e3:Int}{v:Bs}(h1:z=aw (1:Nat) (aa B n) e∧nz=aX (1:Nat) B n e∧ez=ar (1:Nat) (aa B n) e)(h2:z2=aw (1:Nat) (aa B nz) ez∧n2=aX (1:Nat) B nz ez∧e2=ar (1:Nat) (aa B nz) ez)(h3:v=bv z2 (aa B n2) e2∧n3=aX z2 B n2 e2∧e3=ar z2 (aa B n2) e2):
  z=iK (aa B n) e∧v=dA (aa B n) e∧n3=x8 B n e∧e3=jl (aa B n) e∧bq B nz∧bq B n2:=by
 obtain ⟨rfl,rfl,rfl⟩:=h1
 have r1:aa B (aX (1:Nat) B n e)=aC 1 (aa B n) e:=cm h 1 e
 rw [r1] at h2
 obtain ⟨rfl,rfl,rfl⟩:=h2
 have r2:aa B (aX (1:Nat) B (aX (1:Nat) B n e) (ar (1:Nat) (aa B n) e))=aC 1 (aC 1 (aa B n) e) (ar 1 (aa B n) e):=W5 h e
 rw [r2] at h3
 obtain ⟨rfl,rfl,rfl⟩:=h3
 exact ⟨rfl,rfl,rfl,rfl,bF h _ _,bF (bF h _ _) _ _⟩
structure XL where
 m:Int
 acc:List (Int × Bs)
def TI (B C:Bs)(n e a h i:Int)(l:List (Int × Bs))(m:Int):VT:=⟨[zO,zF,bf B n e,oC a h i (xF l),bf C m 0],tF l⟩
def JQ (B C:Bs)(n e a h i:Int)(l0:List (Int × Bs))(ex:Exit)(vs:List TV)(T:VT):Prop:=
 (mn C 0=true∧ex=.normal∧vs=A0∧∃mz ez:Int,T=⟨[zO,zF,bf B n e,oC a h i (xF (l0++jX C 0)),bf C mz ez],tF (l0++jX C 0)⟩)∨
 (mn C 0=false∧ex=.ret∧vs=A0∧∃(rest:List VO) (tlz:mo),T=⟨zO::fF 0::rest,tlz⟩)
theorem JR {B C:Bs}{n e a h i:Int}{l0:List (Int × Bs)}{K:KX}(hK:Ow B C n e a h i (xF (l0++jX C 0)) (tF (l0++jX C 0)) (mn C 0) K){ex:Exit}{vs:List TV}{T:VT}(hp:JQ B C n e a h i l0 ex vs T):K ex (aJ 122 AZ vs) T []:=by
 unfold Ow at hK
 rcases hp with ⟨h1,rfl,rfl,mz,ez,rfl⟩ | ⟨h1,rfl,rfl,rest,tlz,rfl⟩
 ·rw [h1] at hK;exact hK mz ez
 ·rw [h1] at hK;exact hK rest tlz
theorem Na {B C:Bs}(hB:IsB B)(hC:IsB C)(n e a h i:Int){l0:List (Int × Bs)}(hl0:AllB l0)(hlen0:l0.length+C.length≤32000000)(K:KX)(hK:Ow B C n e a h i (xF (l0++jX C 0)) (tF (l0++jX C 0)) (mn C 0) K):
  VWx prog ah none 0 (aA prog ir 3) (aJ 122 AZ A0) ⟨[zO,zF,bf B n e,oC a h i (xF l0),bf C 0 0],tF l0⟩ [] K:=by
 refine dW (f:=ir) (id:=3) (by kernel_rfl) 122 AZ (λs:XL=>(aa C s.m).length) (λ_=>A0) (λs=>TI B C n e a h i (l0++s.acc) s.m) (λs=>bq C s.m∧AllB s.acc∧s.acc.length+(aa C s.m).length≤C.length∧gi ((aa C s.m).length+1) (aa C s.m) 0 s.acc=JH C 0) 5 1 (λ_ _=>⟨le_refl _,Du _⟩)
  (JQ B C n e a h i l0) (λs hs=> ?_) ⟨0,[]⟩ ⟨⟨Int.le_refl _,Int.natCast_nonneg _,hC.small⟩,.nil,by simp [aa],rfl⟩ K (λex vs T hp=>JR hK hp) |>(λw=>by simpa only [TI,append_nil] using w)
 obtain ⟨m,acc⟩:=s
 obtain ⟨hm,ha,hlen,hgo⟩:=hs
 simp only at hm ha hlen hgo
 have hS:bk prog ah (aI [(j6,ns),(iE,ku .i64 1),(iD,AT)]):=aQ λp hp=>by
  rcases mem_cons.1 hp with rfl | hp;exact o7
  rcases mem_cons.1 hp with rfl | hp;exact λro ys T K h=>re _ _ _ _ (nw h)
  obtain rfl:=mem_singleton.1 hp;exact λro ys T K h=>oZ _ _ _ _ (Dn h)
 have hv:=Wi B C n e m a h i (xF (l0++acc)) ((l0++acc++ [(iK (aa C m) 0,dA (aa C m) 0)]).map bS) (l0++acc++ [(iK (aa C m) 0,dA (aa C m) 0)]).length (tF (l0++acc)) [((l0++acc++ [(iK (aa C m) 0,dA (aa C m) 0)]).length,2,true)]
 refine cg ag ac hS ai (hv _) ?_
 have hrem:=dy hC m
 refine ⟨⟨rfl,hC,hm⟩,?_⟩
 by_cases hl:bo (aa C m) 0>0
 ·refine aU (decide_eq_true hl) ⟨⟨rfl,hC,hm⟩,?_⟩
  intro z nz ez hq1
  refine ⟨⟨rfl,hC,by rw [hq1.2.1];exact bF hm _ _⟩,?_⟩
  intro z2 n2 e2 hq2
  refine ⟨⟨rfl,hC,by rw [hq2.2.1,hq1.2.1];exact bF (bF hm _ _) _ _⟩,?_⟩
  intro v n3 e3 hq3
  obtain ⟨rfl,rfl,rfl,rfl,_,_⟩:=JP hm hq1 hq2 hq3
  have hlt:=kw hl
  have hst:=(x7 (acc:=acc) hl).symm.trans hgo
  have hv2:=pf (e:=0) hrem
  by_cases hz:jl (aa C m) 0=0
  ·refine aO (by rw [cC];exact congrArg Bool.not (decide_eq_true hz)) ?_
   have ha2:=ha.app (.one (c:=iK (aa C m) 0) hv2)
   have hr:=FN hm 0
   rw [hz] at hst ⊢
   have hAll:=hl0.app ha2
   rw [←List.append_assoc] at hAll
   refine ⟨TH _ (l0++acc) (iK (aa C m) 0,dA (aa C m) 0) (by simp only [length_append];omega),rfl,rfl,⟨x8 C m 0,acc++ [(iK (aa C m) 0,dA (aa C m) 0)]⟩,⟨JO hm 0,ha2,by simp only [hr,length_append,length_cons,length_nil];omega,by simp only [hr];exact hst⟩,by simp only [hr];omega,.inr ⟨?_,rfl⟩⟩
   refine (show VT.keep ⟨zO::zF::bf B n e::oC a h i (.vec 2 _ _)::bf C (x8 C m 0) 0::_,_⟩ 5 1=_ from ?_)
   rw [←TE]
   simp only [VT.keep,take_succ_cons,take_zero,map_cons,map_nil,cl hB,cl hC,JN hAll]
   unfold TI
   rw [←List.append_assoc,TF]
   rfl
  ·refine aU (by rw [cC];exact congrArg Bool.not (decide_eq_false hz)) ⟨rfl,rfl,.inr ⟨?_,rfl,rfl,_,_,rfl⟩⟩
   rw [H7 hz] at hst
   unfold mn nx
   rw [←hst]
   exact decide_eq_false hz
 ·have hE:=(AU (acc:=acc) hl).symm.trans hgo
  refine aO (decide_eq_false hl) ⟨rfl,rfl,.inl ⟨?_,rfl,rfl,m,0,?_⟩⟩
  ·unfold mn nx;rw [←hE];rfl
  ·unfold jX;rw [←hE];rfl
theorem QN {B C:Bs}(hB:IsB B)(hC:IsB C)(n e a h i:Int){l0:List (Int × Bs)}(hl0:AllB l0)(hlen0:l0.length+C.length≤32000000):dD prog ah (W4 B C n e a h i (xF l0) (xF (l0++jX C 0)) (tF l0) (tF (l0++jX C 0)) (mn C 0) (aA prog ir 3)):=bL λp hp=>by
 obtain rfl:=mem_singleton.1 hp
 exact ce λK hK=>Na hB hC n e a h i hl0 hlen0 K hK
structure XM where
 n:Int
 e:Int
 acc:List (Int × Bs)
def pg (b:Bs)(e:Int):List (Int × Bs):=match nM b e with
 | .ok l=>l
 | .error _=> []
theorem TJ {b:Bs}{e:Int}{l:List (Int × Bs)}(h:nM b e=.ok l):pg b e=l:=by unfold pg;rw [h]
theorem x9 (b:Bs)(e:Int):gj b e=(pg b e).map bS:=by unfold gj pg;cases nM b e<;>rfl
def JS (B:Bs)(n0 e0 a h i:Int)(ex:Exit)(vs:List TV)(T:VT):Prop:=
 (eA (aa B n0) e0=true∧ex=.normal∧vs=AY∧∃nz ez:Int,T=⟨[zO,zF,bf B nz ez,oC a h i (xF (pg (aa B n0) e0))],tF (pg (aa B n0) e0)⟩)∨
 (eA (aa B n0) e0=false∧ex=.ret∧vs=AY∧∃(rest:List VO) (tlz:mo),T=⟨zO::fF (gO (aa B n0) e0)::rest,tlz⟩)
theorem JT {B:Bs}{n0 e0 a h i:Int}{K:KX}(hK:Ox B (gO (aa B n0) e0) a h i (xF (pg (aa B n0) e0)) (tF (pg (aa B n0) e0)) (eA (aa B n0) e0) K){ex:Exit}{vs:List TV}{T:VT}(hp:JS B n0 e0 a h i ex vs T):K ex (aJ 122 AX vs) T []:=by
 unfold Ox at hK
 rcases hp with ⟨h1,rfl,rfl,mz,ez,rfl⟩ | ⟨h1,rfl,rfl,rest,tlz,rfl⟩
 ·rw [h1] at hK;exact hK mz ez
 ·rw [h1] at hK;exact hK rest tlz
theorem Nb {B:Bs}(hB:IsB B){n0:Int}(hn0:bq B n0)(e0 a h i:Int)(K:KX)(hK:Ox B (gO (aa B n0) e0) a h i (xF (pg (aa B n0) e0)) (tF (pg (aa B n0) e0)) (eA (aa B n0) e0) K):
  VWx prog ah none 0 (aA prog ir 1) (aJ 122 AX AY) ⟨[zO,zF,bf B n0 e0,oC a h i (.val (.slice none 0 0))],[]⟩ [] K:=by
 refine dW (f:=ir) (id:=1) (by kernel_rfl) 122 AX (λs:XM=>(aa B s.n).length) (λ_=>AY) (λs=>⟨[zO,zF,bf B s.n s.e,oC a h i (xF s.acc)],tF s.acc⟩) (λs=>bq B s.n∧AllB s.acc∧s.acc.length+(aa B s.n).length≤B.length∧j8 ((aa B s.n).length+1) (aa B s.n) s.e s.acc=nM (aa B n0) e0) 4 1 (λ_ _=>⟨le_refl _,Du _⟩)
  (JS B n0 e0 a h i) (λs hs=> ?_) ⟨n0,e0,[]⟩ ⟨hn0,.nil,by simp [aa],rfl⟩ K (λex vs T hp=>JT hK hp)
 obtain ⟨n,e,acc⟩:=s
 obtain ⟨hn,ha,hlen,hgo⟩:=hs
 have hsm:=hB.small
 simp only at hn ha hlen hgo
 have hS:bk prog ah (aI [(j6,ns),(iE,ku .i64 1),(HV,BU)]):=aQ λp hp=>by
  rcases mem_cons.1 hp with rfl | hp;exact o7
  rcases mem_cons.1 hp with rfl | hp;exact λro ys T K h=>re _ _ _ _ (nw h)
  obtain rfl:=mem_singleton.1 hp;exact λro ys T K h=>S8 _ _ _ _ (M3 h)
 have hrem:=dy hB n
 have hC:=pf (e:=e) hrem
 have hCl:acc.length+(dA (aa B n) e).length≤32000000:=by
  have h1:(dA (aa B n) e).length≤(aa B n).length:=by
   have h2:=kr (n:=1) (b:=aa B n) (e:=e)
   have h3:=kr (n:=1) (b:=aC 1 (aa B n) e) (e:=ar 1 (aa B n) e)
   have h4:=JJ (FH (aa B n) e) (aC 1 (aC 1 (aa B n) e) (ar 1 (aa B n) e)) (ar 1 (aC 1 (aa B n) e) (ar 1 (aa B n) e))
   unfold dA
   omega
  omega
 have hv:=Wj B (dA (aa B n) e) n e (x8 B n e) (jl (aa B n) e) a h i (xF acc) (xF (acc++jX (dA (aa B n) e) 0)) (tF acc) (tF (acc++jX (dA (aa B n) e) 0)) (mn (dA (aa B n) e) 0)
 refine cg ag ac hS (QN hB hC _ _ a h i ha hCl) (hv _) ?_
 refine ⟨⟨rfl,hB,hn⟩,?_⟩
 by_cases hl:bo (aa B n) e>0
 ·refine aU (decide_eq_true hl) ⟨⟨rfl,hB,hn⟩,?_⟩
  intro z nz ez hq1
  refine ⟨⟨rfl,hB,by rw [hq1.2.1];exact bF hn _ _⟩,?_⟩
  intro z2 n2 e2 hq2
  refine ⟨⟨rfl,hB,by rw [hq2.2.1,hq1.2.1];exact bF (bF hn _ _) _ _⟩,?_⟩
  intro v n3 e3 hq3
  obtain ⟨rfl,rfl,rfl,rfl,_,_⟩:=JP hn hq1 hq2 hq3
  have hlt:=kw hl
  have hst:=AW (acc:=acc) hl
  rw [hgo] at hst
  by_cases hz:jl (aa B n) e=0
  ·rw [decide_eq_true hz,cond_true] at hst
   refine aO (by rw [cC];exact congrArg Bool.not (decide_eq_true hz)) ?_
   by_cases hc:iK (aa B n) e=2
   ·rw [decide_eq_true hc,cond_true] at hst
    obtain ⟨i1,i2,i3⟩:=rg 0 hC
    refine aO (by rw [cC];exact congrArg Bool.not (decide_eq_true hc)) ⟨rfl,⟨rfl,rfl,rfl,trivial,rfl,rfl,rfl⟩,?_⟩
    cases ho:mn (dA (aa B n) e) 0
    ·rw [ho,cond_false] at hst
     obtain ⟨g1,_,g2⟩:=mM hst
     exact λrest tlz=>⟨rfl,rfl,.inr ⟨g1,rfl,rfl,rest,tlz,by rw [g2];rfl⟩⟩
    ·rw [ho,cond_true] at hst
     have ha2:=ha.app i2
     have hr:=FN hn e
     refine λmz ez2=>⟨rfl,rfl,⟨x8 B n e,jl (aa B n) e,acc++jX (dA (aa B n) e) 0⟩,⟨JO hn e,ha2,by simp only [hr,length_append];omega,by simp only [hr];exact hst.symm⟩,by simp only [hr];omega,.inr ⟨?_,rfl⟩⟩
     refine (show VT.keep ⟨zO::zF::bf B (x8 B n e) (jl (aa B n) e)::oC a h i (xF _)::_,_⟩ 4 1=_ from ?_)
     simp only [VT.keep,take_succ_cons,take_zero,map_cons,map_nil,cl hB,JN ha2,QM]
     rfl
   ·rw [decide_eq_false hc,cond_false] at hst
    obtain ⟨g1,_,g2⟩:=mM hst
    exact aU (by rw [cC];exact congrArg Bool.not (decide_eq_false hc)) ⟨rfl,rfl,.inr ⟨g1,rfl,rfl,_,_,by rw [g2];rfl⟩⟩
  ·rw [decide_eq_false hz,cond_false] at hst
   obtain ⟨g1,_,g2⟩:=mM hst
   exact aU (by rw [cC];exact congrArg Bool.not (decide_eq_false hz)) ⟨rfl,rfl,.inr ⟨g1,rfl,rfl,_,_,by rw [g2];rfl⟩⟩
 ·have hE:=(Dr (acc:=acc) hl).symm.trans hgo
  refine aO (decide_eq_false hl) ⟨rfl,rfl,.inl ⟨(t1 hE.symm).1,rfl,rfl,n,e,?_⟩⟩
  rw [TJ hE.symm]
  rfl
theorem QO {B:Bs}(hB:IsB B){n:Int}(hn:bq B n)(e a h i:Int):dD prog ah (TD B n e (gO (aa B n) e) a h i (xF (pg (aa B n) e)) (tF (pg (aa B n) e)) (eA (aa B n) e) (aA prog ir 1)):=bL λp hp=>by
 obtain rfl:=mem_singleton.1 hp
 exact ce λK hK=>Nb hB hn e a h i K hK
--bumped 32
theorem TK (B:Bs):aa B 0=B:=rfl
theorem Dv {B:Bs}(h:IsB B):bq B 0:=⟨Int.le_refl _,Int.natCast_nonneg _,h.small⟩
theorem vO {B R:Bs}{m:Nat}{n e z nz ez N E:Int}(hN:n=N)(hE:e=E)(hR:aa B N=R)(hq:z=aw m (aa B n) e∧nz=aX m B n e∧ez=ar m (aa B n) e):z=aw m R E∧nz=aX m B N E∧ez=ar m R E:=by
 subst hN hE hR;exact hq
def o1 (B:Bs):Bs:=aC (1:Nat) B 0
def g1 (B:Bs):Int:=ar (1:Nat) B 0
def m1 (B:Bs):Int:=aX (1:Nat) B 0 0
theorem BV {B:Bs}(h:IsB B):bq B (m1 B):=bF (Dv h) _ _
theorem Dw {B:Bs}(h:IsB B):aa B (m1 B)=o1 B:=by
 unfold m1
 rw [cm (Dv h)];rfl
def o2 (B:Bs):Bs:=aC (2:Nat) (o1 B) (g1 B)
def g2 (B:Bs):Int:=ar (2:Nat) (o1 B) (g1 B)
def m2 (B:Bs):Int:=aX (2:Nat) B (m1 B) (g1 B)
theorem BW {B:Bs}(h:IsB B):bq B (m2 B):=bF (BV h) _ _
theorem Dx {B:Bs}(h:IsB B):aa B (m2 B)=o2 B:=by
 unfold m2
 rw [cm (BV h)]
 rw [Dw h];rfl
def o3 (B:Bs):Bs:=aC (2:Nat) (o2 B) (g2 B)
def g3 (B:Bs):Int:=ar (2:Nat) (o2 B) (g2 B)
def m3 (B:Bs):Int:=aX (2:Nat) B (m2 B) (g2 B)
theorem BX {B:Bs}(h:IsB B):bq B (m3 B):=bF (BW h) _ _
theorem Dy {B:Bs}(h:IsB B):aa B (m3 B)=o3 B:=by
 unfold m3
 rw [cm (BW h)]
 rw [Dx h];rfl
def o4 (B:Bs):Bs:=aC (4:Nat) (o3 B) (g3 B)
def g4 (B:Bs):Int:=ar (4:Nat) (o3 B) (g3 B)
def m4 (B:Bs):Int:=aX (4:Nat) B (m3 B) (g3 B)
theorem BY {B:Bs}(h:IsB B):bq B (m4 B):=bF (BX h) _ _
theorem Dz {B:Bs}(h:IsB B):aa B (m4 B)=o4 B:=by
 unfold m4
 rw [cm (BX h)]
 rw [Dy h];rfl
def o5 (B:Bs):Bs:=aC (1:Nat) (o4 B) (g4 B)
def g5 (B:Bs):Int:=ar (1:Nat) (o4 B) (g4 B)
def m5 (B:Bs):Int:=aX (1:Nat) B (m4 B) (g4 B)
theorem ya {B:Bs}(h:IsB B):bq B (m5 B):=bF (BY h) _ _
theorem t2 {B:Bs}(h:IsB B):aa B (m5 B)=o5 B:=by
 unfold m5
 rw [cm (BY h)]
 rw [Dz h];rfl
theorem Oy {B:Bs}(h:IsB B):IsB (o2 B):=aH (aH h)
theorem Wm {B:Bs}(h:IsB B):IsB (o5 B):=aH (aH (aH (aH (aH h))))
theorem TL:bk prog ah (aI [(nC,iJ),(iE,ku .i64 1),(lR,ku .i64 2),(xS,ku .u32 4),(j6,ns)]):=aQ λp hp=>by
 rcases mem_cons.1 hp with rfl | hp;exact oA
 rcases mem_cons.1 hp with rfl | hp;exact λro ys T K h=>re _ _ _ _ (nw h)
 rcases mem_cons.1 hp with rfl | hp;exact λro ys T K h=>vc _ _ _ _ (nw h)
 rcases mem_cons.1 hp with rfl | hp;exact λro ys T K h=>PW _ _ _ _ (nw h)
 obtain rfl:=mem_singleton.1 hp;exact o7
theorem TM {b:Bs}(hb:IsB b)(e:Int):AllB (pg b e):=by
 unfold pg
 cases h:nM b e with
 |ok l=>exact ve _ _ _ _ hb .nil l h
 |error s=>exact .nil
set_option maxHeartbeats 1000000 in
theorem TN {B:Bs}(hB:IsB B)(pas:Int):VCx prog ah 0 ir [.vec 1 B .none,.val (.int .i64 pas)] ⟨[],[]⟩ λx T'=>x=fZ B pas∧T'=⟨[],[]⟩:=by
 have hLoop:=QO hB (ya hB) (g5 B) (aw 2 (o1 B) (g1 B)) (aw 2 (o2 B) (g2 B)) (aw 4 (o3 B) (g3 B))
 rw [t2 hB] at hLoop
 cases hA:pg (o5 B) (g5 B) with
 |nil=>
  rw [hA] at hLoop
  refine VCx.toLe (Q:=λT'=>T'=⟨[],[]⟩) (VCx.keepQ 0 0 (le_refl _) (le_refl _) (aj ag ac TL hLoop (Wk B (m5 B) (g5 B) (gO (o5 B) (g5 B)) (aw 2 (o1 B) (g1 B)) (aw 2 (o2 B) (g2 B)) (aw 4 (o3 B) (g3 B)) pas [] (eA (o5 B) (g5 B)) _) ?_))
  by_cases h10:B.length<10
  ·refine aU (decide_eq_true (by omega)) ⟨?_,rfl⟩
   unfold fZ;rw [if_pos h10];exact bw 0
  refine aO (decide_eq_false (by omega)) ⟨⟨hB,hB.small⟩,⟨rfl,hB,Dv hB⟩,?_⟩
  intro z n1 e1 hq
  obtain ⟨hz,hN1,hE1⟩:=vO (m:=1) rfl rfl (TK B) hq
  replace hN1:n1=m1 B:=hN1
  replace hE1:e1=g1 B:=hE1
  refine ak (λc=> ?_) (λc=> ?_)
  ·refine ⟨?_,rfl⟩
   have h4:=bX c;rw [hz] at h4
   unfold fZ;rw [if_neg h10,if_pos h4];exact wy _
  have h4:=bZ c;rw [hz] at h4
  have hX:fZ B pas=n9 (o1 B) (g1 B) pas:=by unfold fZ;rw [if_neg h10,if_neg (λc=>c h4)];rfl
  rw [hX]
  refine ⟨⟨rfl,hB,by rw [hN1];exact BV hB⟩,?_⟩
  intro n n2 e2 hq2
  obtain ⟨hz2,hN2,hE2⟩:=vO (m:=2) hN1 hE1 (Dw hB) hq2
  replace hN2:n2=m2 B:=hN2
  replace hE2:e2=g2 B:=hE2
  refine ⟨⟨rfl,hB,by rw [hN2];exact BW hB⟩,?_⟩
  intro hh n3 e3 hq3
  obtain ⟨hz3,hN3,hE3⟩:=vO (m:=2) hN2 hE2 (Dx hB) hq3
  replace hN3:n3=m3 B:=hN3
  replace hE3:e3=g3 B:=hE3
  refine ⟨⟨rfl,hB,by rw [hN3];exact BX hB⟩,?_⟩
  intro i n4 e4 hq4
  obtain ⟨hz4,hN4,hE4⟩:=vO (m:=4) hN3 hE3 (Dy hB) hq4
  replace hN4:n4=m4 B:=hN4
  replace hE4:e4=g4 B:=hE4
  refine ⟨⟨rfl,hB,by rw [hN4];exact BY hB⟩,?_⟩
  intro k n5 e5 hq5
  obtain ⟨hz5,hN5,hE5⟩:=vO (m:=1) hN4 hE4 (Dz hB) hq5
  replace hN5:n5=m5 B:=hN5
  replace hE5:e5=g5 B:=hE5
  have hM:n9 (o1 B) (g1 B) pas=fJ n hh i k (o5 B) (g5 B) pas:=by rw [hz2,hz3,hz4,hz5];rfl
  rw [hM]
  have hhb:0≤hh∧hh<65536:=by rw [hz3,qZ];exact q8 (n:=2) (Oy hB) (g2 B)
  clear hq hq2 hq3 hq4 hq5 hM hX
  refine ak (λc1=> ?_) (λc1=> ?_)
  ·rw [H5 (bM c1)];exact ⟨bw 2,rfl⟩
  have d1:=bB c1
  refine ak (λc2=> ?_) (λc2=> ?_)
  ·have d2:=of_decide_eq_true c2
   refine ak (λc3=> ?_) (λc3=> ?_)
   ·rw [H6 d1 d2 (bX c3)];exact ⟨bw 2,rfl⟩
   ·have d3:¬(pas≥1∧¬n=pas):=λc=>c.2 (bZ c3)
    refine ak (λc4=> ?_) (λc4=> ?_)
    ·have d4:¬(hh=0∨(hh≥3∧hh≤65535)):=by have:=bM c4;omega
     rw [kL d1 d3 d4];exact ⟨bw 6,rfl⟩
    refine ak (λc4a=> ?_) (λc4a=> ?_)
    ·have d4:¬(hh=0∨(hh≥3∧hh≤65535)):=by have:=bM c4a;omega
     rw [kL d1 d3 d4];exact ⟨bw 6,rfl⟩
    have d4:hh=0∨(hh≥3∧hh≤65535):=by
     have:=bB c4
     have:=bB c4a
     omega
    refine ak (λc5=> ?_) (λc5=> ?_)
    ·rw [qb d1 d3 d4 (bM c5)];exact ⟨bw 3,rfl⟩
    refine ⟨⟨rfl,hB,by rw [hN5];exact ya hB⟩,?_⟩
    rw [hN5,hE5,t2 hB]
    refine ak (λc6=> ?_) (λc6=> ?_)
    ·rw [qc d1 d3 d4 (bB c5) (bX c6)];exact ⟨bw 0,rfl⟩
    rw [qd d1 d3 d4 (bB c5) (bZ c6)]
    refine ⟨rfl,⟨rfl,rfl,rfl,trivial,by rw [hz2,hz3,hz4],rfl,rfl⟩,?_⟩
    cases hO:eA (o5 B) (g5 B)
    ·exact λrest tlz=>⟨bw _,rfl⟩
    ·refine λnz ez=>⟨?_,rfl⟩
     rw [cond_true,x9,hA,hz2,hz3,hz4]
     exact TVle.tup ⟨.agg ⟨.refl _,.refl _,.refl _,.nil 2,trivial⟩,.agg ⟨.refl _,.refl _,.nil 1,trivial⟩,trivial⟩
  ·have d3:¬(pas≥1∧¬n=pas):=λc=>of_decide_eq_false c2 c.1
   refine ak (λc4=> ?_) (λc4=> ?_)
   ·have d4:¬(hh=0∨(hh≥3∧hh≤65535)):=by have:=bM c4;omega
    rw [kL d1 d3 d4];exact ⟨bw 6,rfl⟩
   refine ak (λc4a=> ?_) (λc4a=> ?_)
   ·have d4:¬(hh=0∨(hh≥3∧hh≤65535)):=by have:=bM c4a;omega
    rw [kL d1 d3 d4];exact ⟨bw 6,rfl⟩
   have d4:hh=0∨(hh≥3∧hh≤65535):=by
    have:=bB c4
    have:=bB c4a
    omega
   refine ak (λc5=> ?_) (λc5=> ?_)
   ·rw [qb d1 d3 d4 (bM c5)];exact ⟨bw 3,rfl⟩
   refine ⟨⟨rfl,hB,by rw [hN5];exact ya hB⟩,?_⟩
   rw [hN5,hE5,t2 hB]
   refine ak (λc6=> ?_) (λc6=> ?_)
   ·rw [qc d1 d3 d4 (bB c5) (bX c6)];exact ⟨bw 0,rfl⟩
   rw [qd d1 d3 d4 (bB c5) (bZ c6)]
   refine ⟨rfl,⟨rfl,rfl,rfl,trivial,by rw [hz2,hz3,hz4],rfl,rfl⟩,?_⟩
   cases hO:eA (o5 B) (g5 B)
   ·exact λrest tlz=>⟨bw _,rfl⟩
   ·refine λnz ez=>⟨?_,rfl⟩
    rw [cond_true,x9,hA,hz2,hz3,hz4]
    exact TVle.tup ⟨.agg ⟨.refl _,.refl _,.refl _,.nil 2,trivial⟩,.agg ⟨.refl _,.refl _,.nil 1,trivial⟩,trivial⟩
 |cons p0 l0=>
  have hAll:=TM (Wm hB) (g5 B)
  rw [hA] at hLoop hAll
  refine VCx.toLe (Q:=λT'=>T'=⟨[],[]⟩) (VCx.keepQ 0 0 (le_refl _) (le_refl _) (aj ag ac TL hLoop (Wl B (m5 B) (g5 B) (gO (o5 B) (g5 B)) (aw 2 (o1 B) (g1 B)) (aw 2 (o2 B) (g2 B)) (aw 4 (o3 B) (g3 B)) pas ((p0::l0).map bS) (p0::l0).length [((p0::l0).length,2,true)] (eA (o5 B) (g5 B)) _) ?_))
  by_cases h10:B.length<10
  ·refine aU (decide_eq_true (by omega)) ⟨?_,rfl⟩
   unfold fZ;rw [if_pos h10];exact bw 0
  refine aO (decide_eq_false (by omega)) ⟨⟨hB,hB.small⟩,⟨rfl,hB,Dv hB⟩,?_⟩
  intro z n1 e1 hq
  obtain ⟨hz,hN1,hE1⟩:=vO (m:=1) rfl rfl (TK B) hq
  replace hN1:n1=m1 B:=hN1
  replace hE1:e1=g1 B:=hE1
  refine ak (λc=> ?_) (λc=> ?_)
  ·refine ⟨?_,rfl⟩
   have h4:=bX c;rw [hz] at h4
   unfold fZ;rw [if_neg h10,if_pos h4];exact wy _
  have h4:=bZ c;rw [hz] at h4
  have hX:fZ B pas=n9 (o1 B) (g1 B) pas:=by unfold fZ;rw [if_neg h10,if_neg (λc=>c h4)];rfl
  rw [hX]
  refine ⟨⟨rfl,hB,by rw [hN1];exact BV hB⟩,?_⟩
  intro n n2 e2 hq2
  obtain ⟨hz2,hN2,hE2⟩:=vO (m:=2) hN1 hE1 (Dw hB) hq2
  replace hN2:n2=m2 B:=hN2
  replace hE2:e2=g2 B:=hE2
  refine ⟨⟨rfl,hB,by rw [hN2];exact BW hB⟩,?_⟩
  intro hh n3 e3 hq3
  obtain ⟨hz3,hN3,hE3⟩:=vO (m:=2) hN2 hE2 (Dx hB) hq3
  replace hN3:n3=m3 B:=hN3
  replace hE3:e3=g3 B:=hE3
  refine ⟨⟨rfl,hB,by rw [hN3];exact BX hB⟩,?_⟩
  intro i n4 e4 hq4
  obtain ⟨hz4,hN4,hE4⟩:=vO (m:=4) hN3 hE3 (Dy hB) hq4
  replace hN4:n4=m4 B:=hN4
  replace hE4:e4=g4 B:=hE4
  refine ⟨⟨rfl,hB,by rw [hN4];exact BY hB⟩,?_⟩
  intro k n5 e5 hq5
  obtain ⟨hz5,hN5,hE5⟩:=vO (m:=1) hN4 hE4 (Dz hB) hq5
  replace hN5:n5=m5 B:=hN5
  replace hE5:e5=g5 B:=hE5
  have hM:n9 (o1 B) (g1 B) pas=fJ n hh i k (o5 B) (g5 B) pas:=by rw [hz2,hz3,hz4,hz5];rfl
  rw [hM]
  have hhb:0≤hh∧hh<65536:=by rw [hz3,qZ];exact q8 (n:=2) (Oy hB) (g2 B)
  clear hq hq2 hq3 hq4 hq5 hM hX
  refine ak (λc1=> ?_) (λc1=> ?_)
  ·rw [H5 (bM c1)];exact ⟨bw 2,rfl⟩
  have d1:=bB c1
  refine ak (λc2=> ?_) (λc2=> ?_)
  ·have d2:=of_decide_eq_true c2
   refine ak (λc3=> ?_) (λc3=> ?_)
   ·rw [H6 d1 d2 (bX c3)];exact ⟨bw 2,rfl⟩
   ·have d3:¬(pas≥1∧¬n=pas):=λc=>c.2 (bZ c3)
    refine ak (λc4=> ?_) (λc4=> ?_)
    ·have d4:¬(hh=0∨(hh≥3∧hh≤65535)):=by have:=bM c4;omega
     rw [kL d1 d3 d4];exact ⟨bw 6,rfl⟩
    refine ak (λc4a=> ?_) (λc4a=> ?_)
    ·have d4:¬(hh=0∨(hh≥3∧hh≤65535)):=by have:=bM c4a;omega
     rw [kL d1 d3 d4];exact ⟨bw 6,rfl⟩
    have d4:hh=0∨(hh≥3∧hh≤65535):=by
     have:=bB c4
     have:=bB c4a
     omega
    refine ak (λc5=> ?_) (λc5=> ?_)
    ·rw [qb d1 d3 d4 (bM c5)];exact ⟨bw 3,rfl⟩
    refine ⟨⟨rfl,hB,by rw [hN5];exact ya hB⟩,?_⟩
    rw [hN5,hE5,t2 hB]
    refine ak (λc6=> ?_) (λc6=> ?_)
    ·rw [qc d1 d3 d4 (bB c5) (bX c6)];exact ⟨bw 0,rfl⟩
    rw [qd d1 d3 d4 (bB c5) (bZ c6)]
    refine ⟨rfl,⟨rfl,rfl,rfl,trivial,by rw [hz2,hz3,hz4],rfl,rfl⟩,?_⟩
    cases hO:eA (o5 B) (g5 B)
    ·exact λrest tlz=>⟨bw _,rfl⟩
    ·refine λnz ez=>⟨?_,rfl⟩
     rw [cond_true,x9,hA,hz2,hz3,hz4]
     simp only [TV.ren,aB,fY _ _ hAll]
     exact oB _ _ _ _ _
  ·have d3:¬(pas≥1∧¬n=pas):=λc=>of_decide_eq_false c2 c.1
   refine ak (λc4=> ?_) (λc4=> ?_)
   ·have d4:¬(hh=0∨(hh≥3∧hh≤65535)):=by have:=bM c4;omega
    rw [kL d1 d3 d4];exact ⟨bw 6,rfl⟩
   refine ak (λc4a=> ?_) (λc4a=> ?_)
   ·have d4:¬(hh=0∨(hh≥3∧hh≤65535)):=by have:=bM c4a;omega
    rw [kL d1 d3 d4];exact ⟨bw 6,rfl⟩
   have d4:hh=0∨(hh≥3∧hh≤65535):=by
    have:=bB c4
    have:=bB c4a
    omega
   refine ak (λc5=> ?_) (λc5=> ?_)
   ·rw [qb d1 d3 d4 (bM c5)];exact ⟨bw 3,rfl⟩
   refine ⟨⟨rfl,hB,by rw [hN5];exact ya hB⟩,?_⟩
   rw [hN5,hE5,t2 hB]
   refine ak (λc6=> ?_) (λc6=> ?_)
   ·rw [qc d1 d3 d4 (bB c5) (bX c6)];exact ⟨bw 0,rfl⟩
   rw [qd d1 d3 d4 (bB c5) (bZ c6)]
   refine ⟨rfl,⟨rfl,rfl,rfl,trivial,by rw [hz2,hz3,hz4],rfl,rfl⟩,?_⟩
   cases hO:eA (o5 B) (g5 B)
   ·exact λrest tlz=>⟨bw _,rfl⟩
   ·refine λnz ez=>⟨?_,rfl⟩
    rw [cond_true,x9,hA,hz2,hz3,hz4]
    simp only [TV.ren,aB,fY _ _ hAll]
    exact oB _ _ _ _ _
abbrev t3:=117
abbrev pi:=123
def z7:VO:=.cells [.val (.int .i64 0),.val (.int .i64 0),.val (.slice none 0 0)]
def f7 (s:Int):VO:=.cells [.val (.int .i64 3),.val (.int .i64 s),.val (.slice none 0 0)]
abbrev fR:=List (Nat × Nat × Bool)
def sT:List Nat:= [2,3,4,5]
def kz (L:Bs):List TV:= [.val (.slice none 0 0),.ptr 0 0,.ptr 1 0,.vec 3 L (.tail 0 L.length)]
def JU (N:Nat)(O:Bs→Int→Int→VO)(L:Bs)(ok:Bool)(K:KX):Prop:=bif ok then (∀(bz:Bs) (az ez:Int),K .normal (aJ N sT (kz L)) ⟨[z7,O bz az ez],[(L.length,3,true)]⟩ []) else ∀(rest:List VO) (tlz:fR) (Lz:Bs),K .ret (aJ N sT (kz Lz)) ⟨f7 1::rest,tlz⟩ []
def Oz (N:Nat)(O:Bs→Int→Int→VO)(b L:Bs)(ok:Bool)(c0:Code):Nat→Option (cB × Code):=cG [(0,dB N sT [(5,3)] (kz []) ⟨[z7,O b 0 0],[(0,3,true)]⟩ (JU N O L ok),c0)]
theorem Wn (b L:Bs)(ok:Bool)(Q:TV→VT→Prop):au prog ah (aI [(kS,nr)]) aM 300 (Oz 41 aN b L ok (aA prog t3 0)) 0 t3 [.vec 1 b .none] ap Q=
 (IsB (b)∧
 ((aA prog t3 (0:Nat)=aA prog t3 (0:Nat))∧
 (((@Eq (Option Nat) .none .none)∧
 ((@Eq (Nat) 0 0)∧
 ((@Eq (List Nat) [] [])∧
 (((@Eq (Option TV) (.some aY) (.some aY))∧
 True)∧
 ((@Eq (VT) ⟨[bh,(.cells [aF,(an b),aE,aE])],[(0,(3,true))]⟩ ⟨[bh,(.cells [aF,(an b),aE,aE])],[(0,(3,true))]⟩)∧
 ((@Eq (Bool) true true)∧
 (@Eq (List TV) BK BK)))))))∧
 (bif ok
 then (∀bz:Bs,(∀az:Int,(∀ez:Int,Q (.tup [(lN L (length L)),iA]) ⟨[bh,(.cells [aF,(an bz),(ae az),(ae ez)])],[((length L),(3,true))]⟩)))
 else (∀rest:List VO,(∀tlz:fR,(∀Lz:Bs,Q Of ⟨[(.cells [(.val (.int .i64 3)),(.val (.int .i64 1)),(.val (.slice .none 0 0))])]++rest,tlz⟩))))))):=by kernel_rfl
theorem TO (b L:Bs)(p:List TV)(a:Int)(Q:Exit→List TV→VT→List Nat→Nat→Prop):vx prog ah (aI [(kT,nJ),(jb,mm .i64 1),(ne,mm .i64 2),(j5,AS),(jD,mj)]) (bc [(999999,.dead,none),(38,.vec 3 (L++ [p]) (.tail 0 (L.length+1)),some λT=>{T with tails:= [(L.length+1,3,true)]})]) 300 aG none 0 (cM prog t3 0) (aJ 41 sT (kz L)) ⟨[z7,aN b a 0],[(L.length,3,true)]⟩ [] (de sT Q)=
 (((@Eq (Bool) true true)∧
 IsB (b))∧
 (bif decide (bo b (0:Int)>(0:Int))
 then (((@Eq (Bool) true true)∧
 IsB (b))∧
 (∀z:Int,(∀bz:Bs,(∀az:Int,(∀ez:Int,(((@Eq (Int) (z) (aw (1:Nat) b (0:Int)))∧
 ((@Eq (Bs) (bz) (aC (↑(1:Nat):Int) b (0:Int)))∧
 (@Eq (Int) (ez) (ar (↑(1:Nat):Int) b (0:Int)))))→(((@Eq (Bool) true true)∧
 IsB (bz))∧
 (∀z_10:Int,(∀bz_11:Bs,(∀az_12:Int,(∀ez_13:Int,(((@Eq (Int) (z_10) (aw (1:Nat) bz ez))∧
 ((@Eq (Bs) (bz_11) (aC (↑(1:Nat):Int) bz ez))∧
 (@Eq (Int) (ez_13) (ar (↑(1:Nat):Int) bz ez))))→(bif aq neq (k6 (wrap i64 (↑(toNat (ofInt (IntKind.bits i64) z&&&ofInt (IntKind.bits i64) (16:Int))):Int)) (0:Int))
 then (((@Eq (Bool) true true)∧
 IsB (bz_11))∧
 (∀z_15:Int,(∀bz_16:Bs,(∀az_17:Int,(∀ez_18:Int,(((@Eq (Int) (z_15) (aw (2:Nat) bz_11 ez_13))∧
 ((@Eq (Bs) (bz_16) (aC (↑(2:Nat):Int) bz_11 ez_13))∧
 (@Eq (Int) (ez_18) (ar (↑(2:Nat):Int) bz_11 ez_13))))→(((@Eq (Bool) true true)∧
 IsB (bz_16))∧
 (∀v:Bs,(∀bz_21:Bs,(∀az_22:Int,(∀ez_23:Int,(((@Eq (Bs) (v) (bv z_15 bz_16 ez_18))∧
 ((@Eq (Bs) (bz_21) (aC z_15 bz_16 ez_18))∧
 (@Eq (Int) (ez_23) (ar z_15 bz_16 ez_18))))→(((@Eq (Bool) true true)∧
 IsB (bz_21))∧
 (bif aq neq (k6 ez_23 (0:Int))
 then Q .ret (na L (length L)) ⟨[jQ,(.cells [aF,(an bz_21),(ae az_22),(ae ez_23)]),(dX z z_10 v)],[((length L),(3,true))]⟩ [] 41
 else (br prog (λ_=>.none) 0 ⟨[bh,(.cells [aF,(an bz_21),(ae az_22),(ae ez_23)]),(dX z z_10 v)],[((length L),(3,true))]⟩ (.call ⟨(.builtin .append),#[(.tmp 35),(.tmp 37)],#[199,199]⟩) [(35,(lN L (length L))),(37,(.vec 3 [[(.val (.int .i64 (z))),(.val (.int .i64 (z_10))),(.vec 1 (v) .none)]] .full))] (lN (L++ [p]) (length L+(1:Nat))) ⟨[bh,(.cells [aF,(an bz_21),(ae az_22),(ae ez_23)]),(dX z z_10 v)],[((length L+(1:Nat)),(3,true))]⟩∧
 Q .normal (na (L++ [p]) (length L+(1:Nat))) ⟨[bh,(.cells [aF,(an bz_21),(ae az_22),(ae ez_23)]),(dX z z_10 v)],[((length L+(1:Nat)),(3,true))]⟩ [] 41)))))))))))))))
 else (((@Eq (Bool) true true)∧
 IsB (bz_11))∧
 (∀z_15:Int,(∀bz_16:Bs,(∀az_17:Int,(∀ez_18:Int,(((@Eq (Int) (z_15) (aw (1:Nat) bz_11 ez_13))∧
 ((@Eq (Bs) (bz_16) (aC (↑(1:Nat):Int) bz_11 ez_13))∧
 (@Eq (Int) (ez_18) (ar (↑(1:Nat):Int) bz_11 ez_13))))→(((@Eq (Bool) true true)∧
 IsB (bz_16))∧
 (∀v:Bs,(∀bz_21:Bs,(∀az_22:Int,(∀ez_23:Int,(((@Eq (Bs) (v) (bv z_15 bz_16 ez_18))∧
 ((@Eq (Bs) (bz_21) (aC z_15 bz_16 ez_18))∧
 (@Eq (Int) (ez_23) (ar z_15 bz_16 ez_18))))→(((@Eq (Bool) true true)∧
 IsB (bz_21))∧
 (bif aq neq (k6 ez_23 (0:Int))
 then Q .ret (na L (length L)) ⟨[jQ,(.cells [aF,(an bz_21),(ae az_22),(ae ez_23)]),(dX z z_10 v)],[((length L),(3,true))]⟩ [] 41
 else (br prog (λ_=>.none) 0 ⟨[bh,(.cells [aF,(an bz_21),(ae az_22),(ae ez_23)]),(dX z z_10 v)],[((length L),(3,true))]⟩ (.call ⟨(.builtin .append),#[(.tmp 35),(.tmp 37)],#[199,199]⟩) [(35,(lN L (length L))),(37,(.vec 3 [[(.val (.int .i64 (z))),(.val (.int .i64 (z_10))),(.vec 1 (v) .none)]] .full))] (lN (L++ [p]) (length L+(1:Nat))) ⟨[bh,(.cells [aF,(an bz_21),(ae az_22),(ae ez_23)]),(dX z z_10 v)],[((length L+(1:Nat)),(3,true))]⟩∧
 Q .normal (na (L++ [p]) (length L+(1:Nat))) ⟨[bh,(.cells [aF,(an bz_21),(ae az_22),(ae ez_23)]),(dX z z_10 v)],[((length L+(1:Nat)),(3,true))]⟩ [] 41))))))))))))))))))))))))))))
 else Q (.exit 0) (na L (length L)) ⟨[bh,(.cells [aF,(an b),(ae a),aE])],[((length L),(3,true))]⟩ [] 41)):=by kernel_rfl
theorem TP (b L:Bs)(ok:Bool)(Q:TV→VT→Prop):au prog ah (aI [(nC,iJ)]) aM 300 (Oz 43 bf b L ok (aA prog pi 0)) 0 pi [.vec 1 b .none] ap Q=
 ((IsB (b)∧
 oT (b))∧
 ((aA prog pi (0:Nat)=aA prog pi (0:Nat))∧
 (((@Eq (Option Nat) .none .none)∧
 ((@Eq (Nat) 0 0)∧
 ((@Eq (List Nat) [] [])∧
 (((@Eq (Option TV) (.some aY) (.some aY))∧
 True)∧
 ((@Eq (VT) ⟨[bh,(.cells [(an b),aE,aE])],[(0,(3,true))]⟩ ⟨[bh,(.cells [(an b),aE,aE])],[(0,(3,true))]⟩)∧
 ((@Eq (Bool) true true)∧
 (@Eq (List TV) BK BK)))))))∧
 (bif ok
 then (∀bz:Bs,(∀az:Int,(∀ez:Int,Q (.tup [(lN L (length L)),iA]) ⟨[bh,(.cells [(an bz),(ae az),(ae ez)])],[((length L),(3,true))]⟩)))
 else (∀rest:List VO,(∀tlz:fR,(∀Lz:Bs,Q Of ⟨[(.cells [(.val (.int .i64 3)),(.val (.int .i64 1)),(.val (.slice .none 0 0))])]++rest,tlz⟩))))))):=by kernel_rfl
theorem QP (B L:Bs)(p:List TV)(n:Int)(Q:Exit→List TV→VT→List Nat→Nat→Prop):vx prog ah (aI [(j6,ns),(iE,ku .i64 1),(lR,ku .i64 2),(iD,AT)]) (bc [(999999,.dead,none),(40,.vec 3 (L++ [p]) (.tail 0 (L.length+1)),some λT=>{T with tails:= [(L.length+1,3,true)]})]) 300 aG none 0 (cM prog pi 0) (aJ 43 sT (kz L)) ⟨[z7,bf B n 0],[(L.length,3,true)]⟩ [] (de sT Q)=
 (((@Eq (Bool) true true)∧
 (IsB (B)∧
 bq (B) (n)))∧
 (bif decide (bo (aa B n) (0:Int)>(0:Int))
 then (((@Eq (Bool) true true)∧
 (IsB (B)∧
 bq (B) (n)))∧
 (∀z:Int,(∀nz:Int,(∀ez:Int,(((@Eq (Int) (z) (aw (1:Nat) (aa B n) (0:Int)))∧
 ((@Eq (Int) (nz) (aX (↑(1:Nat):Int) B n (0:Int)))∧
 (@Eq (Int) (ez) (ar (↑(1:Nat):Int) (aa B n) (0:Int)))))→(((@Eq (Bool) true true)∧
 (IsB (B)∧
 bq (B) (nz)))∧
 (∀z_9:Int,(∀nz_10:Int,(∀ez_11:Int,(((@Eq (Int) (z_9) (aw (1:Nat) (aa B nz) ez))∧
 ((@Eq (Int) (nz_10) (aX (↑(1:Nat):Int) B nz ez))∧
 (@Eq (Int) (ez_11) (ar (↑(1:Nat):Int) (aa B nz) ez))))→(bif aq neq (k6 (wrap i64 (↑(toNat (ofInt (IntKind.bits i64) z&&&ofInt (IntKind.bits i64) (16:Int))):Int)) (0:Int))
 then (((@Eq (Bool) true true)∧
 (IsB (B)∧
 bq (B) (nz_10)))∧
 (∀z_13:Int,(∀nz_14:Int,(∀ez_15:Int,(((@Eq (Int) (z_13) (aw (2:Nat) (aa B nz_10) ez_11))∧
 ((@Eq (Int) (nz_14) (aX (↑(2:Nat):Int) B nz_10 ez_11))∧
 (@Eq (Int) (ez_15) (ar (↑(2:Nat):Int) (aa B nz_10) ez_11))))→(((@Eq (Bool) true true)∧
 (IsB (B)∧
 bq (B) (nz_14)))∧
 (∀v:Bs,(∀nz_18:Int,(∀ez_19:Int,(((@Eq (Bs) (v) (bv z_13 (aa B nz_14) ez_15))∧
 ((@Eq (Int) (nz_18) (aX z_13 B nz_14 ez_15))∧
 (@Eq (Int) (ez_19) (ar z_13 (aa B nz_14) ez_15))))→(bif aq neq (k6 ez_19 (0:Int))
 then Q .ret (na L (length L)) ⟨[jQ,(.cells [(an B),(ae nz_18),(ae ez_19)]),(dX z z_9 v),jQ],[((length L),(3,true))]⟩ [] 43
 else (br prog (λ_=>.none) 0 ⟨[bh,(.cells [(an B),(ae nz_18),(ae ez_19)]),(dX z z_9 v)],[((length L),(3,true))]⟩ (.call ⟨(.builtin .append),#[(.tmp 37),(.tmp 39)],#[209,209]⟩) [(37,(lN L (length L))),(39,(.vec 3 [[(.val (.int .i64 (z))),(.val (.int .i64 (z_9))),(.vec 1 (v) .none)]] .full))] (lN (L++ [p]) (length L+(1:Nat))) ⟨[bh,(.cells [(an B),(ae nz_18),(ae ez_19)]),(dX z z_9 v)],[((length L+(1:Nat)),(3,true))]⟩∧
 Q .normal (na (L++ [p]) (length L+(1:Nat))) ⟨[bh,(.cells [(an B),(ae nz_18),(ae ez_19)]),(dX z z_9 v)],[((length L+(1:Nat)),(3,true))]⟩ [] 43))))))))))))
 else (((@Eq (Bool) true true)∧
 (IsB (B)∧
 bq (B) (nz_10)))∧
 (∀z_13:Int,(∀nz_14:Int,(∀ez_15:Int,(((@Eq (Int) (z_13) (aw (1:Nat) (aa B nz_10) ez_11))∧
 ((@Eq (Int) (nz_14) (aX (↑(1:Nat):Int) B nz_10 ez_11))∧
 (@Eq (Int) (ez_15) (ar (↑(1:Nat):Int) (aa B nz_10) ez_11))))→(((@Eq (Bool) true true)∧
 (IsB (B)∧
 bq (B) (nz_14)))∧
 (∀v:Bs,(∀nz_18:Int,(∀ez_19:Int,(((@Eq (Bs) (v) (bv z_13 (aa B nz_14) ez_15))∧
 ((@Eq (Int) (nz_18) (aX z_13 B nz_14 ez_15))∧
 (@Eq (Int) (ez_19) (ar z_13 (aa B nz_14) ez_15))))→(bif aq neq (k6 ez_19 (0:Int))
 then Q .ret (na L (length L)) ⟨[jQ,(.cells [(an B),(ae nz_18),(ae ez_19)]),(dX z z_9 v),jQ],[((length L),(3,true))]⟩ [] 43
 else (br prog (λ_=>.none) 0 ⟨[bh,(.cells [(an B),(ae nz_18),(ae ez_19)]),(dX z z_9 v)],[((length L),(3,true))]⟩ (.call ⟨(.builtin .append),#[(.tmp 37),(.tmp 39)],#[209,209]⟩) [(37,(lN L (length L))),(39,(.vec 3 [[(.val (.int .i64 (z))),(.val (.int .i64 (z_9))),(.vec 1 (v) .none)]] .full))] (lN (L++ [p]) (length L+(1:Nat))) ⟨[bh,(.cells [(an B),(ae nz_18),(ae ez_19)]),(dX z z_9 v)],[((length L+(1:Nat)),(3,true))]⟩∧
 Q .normal (na (L++ [p]) (length L+(1:Nat))) ⟨[bh,(.cells [(an B),(ae nz_18),(ae ez_19)]),(dX z z_9 v)],[((length L+(1:Nat)),(3,true))]⟩ [] 43)))))))))))))))))))))))
 else Q (.exit 0) (na L (length L)) ⟨[bh,(.cells [(an B),(ae n),aE])],[((length L),(3,true))]⟩ [] 43)):=by kernel_rfl
def jF (z:Int):Bool:=aq neq (aT (Value.int i64 (wrap i64 (toNat (ofInt (IntKind.bits i64) z&&&ofInt (IntKind.bits i64) (16:Int)):Nat))) (Value.int i64 (0:Int)))
def dG (b:Bs):Int:=aw 1 b 0
def pj (b:Bs):Nat:=bif jF (dG b) then 2 else 1
def eB (b:Bs):Int:=aw 1 (aC 1 b 0) (ar 1 b 0)
def t4 (b:Bs):Bs:=aC 1 (aC 1 b 0) (ar 1 b 0)
def zy (b:Bs):Int:=ar 1 (aC 1 b 0) (ar 1 b 0)
def DA (b:Bs):Int:=aw (pj b) (t4 b) (zy b)
def wA (b:Bs):Bs:=aC (pj b) (t4 b) (zy b)
def DB (b:Bs):Int:=ar (pj b) (t4 b) (zy b)
def dU (b:Bs):Bs:=bv (DA b) (wA b) (DB b)
def lV (b:Bs):Bs:=aC (DA b) (wA b) (DB b)
def sU (b:Bs):Int:=ar (DA b) (wA b) (DB b)
abbrev gQ:=Int × Int × Bs
def ii:Nat→Bs→List gQ→Option (List gQ)
 | 0,_,_=>none
 |k+1,b,acc=>bif decide (bo b 0>0) then (bif decide (sU b=0) then ii k (lV b) (acc++ [(dG b,eB b,dU b)]) else none) else some acc
def vP (b:Bs):Option (List gQ):=ii (b.length+1) b []
def dk (p:gQ):List TV:= [.val (.int .i64 p.1),.val (.int .i64 p.2.1),.vec 1 p.2.2 .none]
def eo (b:Bs):List gQ:=(vP b).getD []
def dl (b:Bs):Bs:=(eo b).map dk
def ij (b:Bs):Bool:=(vP b).isSome
def t5 (b:Bs):TV:=.tup [.vec 3 (dl b) .none,.agg [.val (.int .i64 (bif ij b then 0 else 3)),.val (.int .i64 (bif ij b then 0 else 1)),.vec 1 [] .none]]
def All3 (l:List gQ):Prop:=∀p∈l,IsB p.2.2
theorem All3.nil:All3 []:=λp hp=>by simp at hp
theorem All3.snoc {l:List gQ}(h:All3 l){c t:Int}{v:Bs}(hv:IsB v):All3 (l++ [(c,t,v)]):=λp hp=>by
 rcases mem_append.1 hp with h1 | h1
 ·exact h p h1
 ·obtain rfl:=mem_singleton.1 h1;exact hv
theorem mN (f g:Nat→Option Nat):∀{l:List gQ},All3 l→bm f g (l.map dk)=l.map dk
 |[],_=>rfl
 |a::l,h=>by
  have h1:=mN f g (l:=l) λp hp=>h p (List.mem_cons_of_mem _ hp)
  have h2:=(h a List.mem_cons_self).ren f g
  simp only [map_cons,bm,h1,dk,aB,TV.ren,h2,Tok.ren]
theorem ri {b:Bs}(h:IsB b):IsB (dU b):=eg (aH (aH (aH h)))
theorem JV {b:Bs}(h:IsB b):IsB (lV b):=aH (aH (aH (aH h)))
theorem t6 {b:Bs}(h:bo b 0>0):(lV b).length<b.length:=by
 have h1:=zw h
 have h2:=kr (n:=1) (b:=aC 1 b 0) (e:=ar 1 b 0)
 have h3:=kr (n:=pj b) (b:=t4 b) (e:=zy b)
 have h4:=kr (n:=DA b) (b:=wA b) (e:=DB b)
 unfold lV
 unfold t4 at h3
 unfold wA t4 at h4
 unfold wA t4
 omega
theorem A1:∀(k j:Nat) (b:Bs) (acc:List gQ),b.length<k→b.length<j→ii k b acc=ii j b acc
 | 0,_,_,_,h,_=>absurd h (not_lt_zero _)
 |_,0,_,_,_,h=>absurd h (not_lt_zero _)
 |k+1,j+1,b,acc,h1,h2=>by
  unfold ii
  by_cases hl:bo b 0>0
  ·have:=t6 hl
   rw [decide_eq_true hl,A1 k j (lV b) _ (by omega) (by omega)]
  ·rw [decide_eq_false hl];rfl
theorem qe {b:Bs}{acc:List gQ}(hl:bo b 0>0)(hz:sU b=0):ii (b.length+1) b acc=ii ((lV b).length+1) (lV b) (acc++ [(dG b,eB b,dU b)]):=by
 have:=t6 hl
 rw [A1 ((lV b).length+1) b.length (lV b) _ (by omega) (by omega)]
 simp only [ii,decide_eq_true hl,decide_eq_true hz,cond_true]
theorem sn {b:Bs}{acc:List gQ}(hl:bo b 0>0)(hz:¬sU b=0):ii (b.length+1) b acc=none:=by
 simp only [ii,decide_eq_true hl,decide_eq_false hz,cond_true,cond_false]
theorem DC {b:Bs}{acc:List gQ}(hl:¬bo b 0>0):ii (b.length+1) b acc=some acc:=by
 simp only [ii,decide_eq_false hl,cond_false]
theorem FO:∀(k:Nat) (b:Bs) (acc:List gQ),IsB b→All3 acc→∀l,ii k b acc=some l→All3 l
 | 0,_,_,_,_,l,h=>by cases h
 |k+1,b,acc,hb,ha,l,h=>by
  unfold ii at h
  cases h1:decide (bo b 0>0)<;>rw [h1] at h
  ·injection h with h;subst h;exact ha
  ·cases h2:decide (sU b=0)<;>rw [h2] at h
   ·cases h
   ·exact FO k _ _ (JV hb) (ha.snoc (ri hb)) l h
theorem TQ {b:Bs}(hb:IsB b):All3 (eo b):=by
 unfold eo
 cases h:vP b with
 |none=>exact .nil
 |some l=>exact FO _ _ _ hb .nil l h
theorem DD {b:Bs}{k:Nat}(hk:pj b=k){z ez z2 e2 z3 e3 e4:Int}{bz b2 b3 v b4:Bs}(h1:z=aw (1:Nat) b 0∧bz=aC (1:Nat) b 0∧ez=ar (1:Nat) b 0)(h2:z2=aw (1:Nat) bz ez∧b2=aC (1:Nat) bz ez∧e2=ar (1:Nat) bz ez)(h3:z3=aw k b2 e2∧b3=aC k b2 e2∧e3=ar k b2 e2)(h4:v=bv z3 b3 e3∧b4=aC z3 b3 e3∧e4=ar z3 b3 e3):
  z=dG b∧z2=eB b∧v=dU b∧b4=lV b∧e4=sU b:=by
 obtain ⟨rfl,rfl,rfl⟩:=h1
 obtain ⟨rfl,rfl,rfl⟩:=h2
 subst hk
 obtain ⟨rfl,rfl,rfl⟩:=h3
 obtain ⟨rfl,rfl,rfl⟩:=h4
 exact ⟨rfl,rfl,rfl,rfl,rfl⟩
theorem JW {B:Bs}{n:Int}(hn:bq B n){k:Nat}(hk:pj (aa B n)=k){z nz ez z2 n2 e2 z3 n3 e3 n4 e4:Int}{v:Bs}(h1:z=aw (1:Nat) (aa B n) 0∧nz=aX (1:Nat) B n 0∧ez=ar (1:Nat) (aa B n) 0)(h2:z2=aw (1:Nat) (aa B nz) ez∧n2=aX (1:Nat) B nz ez∧e2=ar (1:Nat) (aa B nz) ez)(h3:z3=aw k (aa B n2) e2∧n3=aX k B n2 e2∧e3=ar k (aa B n2) e2)(h4:v=bv z3 (aa B n3) e3∧n4=aX z3 B n3 e3∧e4=ar z3 (aa B n3) e3):
  z=dG (aa B n)∧z2=eB (aa B n)∧v=dU (aa B n)∧aa B n4=lV (aa B n)∧e4=sU (aa B n)∧bq B n4:=by
 have i1:=bF hn (1:Nat) 0
 obtain ⟨a1,a2,a3⟩:=h1
 rw [←a2] at i1
 have r1:aa B nz=aC (1:Nat) (aa B n) 0:=by rw [a2];exact cm hn 1 0
 have i2:=bF i1 (1:Nat) ez
 rw [←h2.2.1] at i2
 have r2:aa B n2=aC (1:Nat) (aa B nz) ez:=by rw [h2.2.1];exact cm i1 1 ez
 have i3:=bF i2 k e2
 rw [←h3.2.1] at i3
 have r3:aa B n3=aC k (aa B n2) e2:=by rw [h3.2.1];exact cm i2 k e2
 have i4:=bF i3 z3 e3
 rw [←h4.2.1] at i4
 have r4:aa B n4=aC z3 (aa B n3) e3:=by rw [h4.2.1];exact cm i3 z3 e3
 obtain ⟨g1,g2,g3,g4,g5⟩:=DD hk ⟨a1,r1,a3⟩ ⟨h2.1,r2,h2.2.2⟩ ⟨h3.1,r3,h3.2.2⟩ ⟨h4.1,r4,h4.2.2⟩
 exact ⟨g1,g2,g3,g4,g5,i4⟩
theorem DE:∃inf:TypeInfo,prog.info? 204=some inf∧inf.size=3∧inf.bytes+1≤1000∧inf.zero=some (.agg #[.int .i64 0,.int .i64 0,.slice none 0 0]):=
 ⟨(prog.info? 204).getD default,by kernel_rfl,by kernel_rfl,le_of_ble_eq_true (by kernel_rfl),by kernel_rfl⟩
theorem DF {ro:Nat}{T T1:VT}{s x:Operand}{l:List (Nat × TV)}{es es2:List (List TV)}{k n:Nat}{bn:Bool}(hs:cE T 3 (aL ah l s)=some (es,k,n,bn,T1))(hx:gf 3 (aL ah l x)=some es2)(hb:es.length+es2.length≤64000001):
    br prog ah ro T (.call ⟨.builtin .append,#[s,x],#[199,199]⟩) l (.vec 3 (es++es2) (.tail k (n+es2.length))) {T1 with tails:=T1.tails.set k (n+es2.length,3,bn)}:=by
  obtain ⟨inf,i1,i2,i3,i4⟩:=DE
  have h:=fb (inf:=inf) (P:=prog) (G:=ah) (ro:=ro) (T:=T) (T1:=T1) (t:=199) (tx:=199) (s:=s) (x:=x) (l:=l) (es:=es) (es2:=es2) (k:=k) (n:=n) (bn:=bn) Tryz.underlying199 i1 i4 (by rw [i2];rfl) (by rw [i2];decide) (by kernel_rfl) (by rw [i2];exact hs) (by rw [i2];exact hx)
    (by have h1:=i3
        have h2:=mul_le_mul hb h1
        omega)
  rw [i2] at h
  exact h
theorem DG:∃inf:TypeInfo,prog.info? 212=some inf∧inf.size=3∧inf.bytes+1≤1000∧inf.zero=some (.agg #[.int .i64 0,.int .i64 0,.slice none 0 0]):=
 ⟨(prog.info? 212).getD default,by kernel_rfl,by kernel_rfl,le_of_ble_eq_true (by kernel_rfl),by kernel_rfl⟩
theorem DH {ro:Nat}{T T1:VT}{s x:Operand}{l:List (Nat × TV)}{es es2:List (List TV)}{k n:Nat}{bn:Bool}(hs:cE T 3 (aL ah l s)=some (es,k,n,bn,T1))(hx:gf 3 (aL ah l x)=some es2)(hb:es.length+es2.length≤64000001):
    br prog ah ro T (.call ⟨.builtin .append,#[s,x],#[209,209]⟩) l (.vec 3 (es++es2) (.tail k (n+es2.length))) {T1 with tails:=T1.tails.set k (n+es2.length,3,bn)}:=by
  obtain ⟨inf,i1,i2,i3,i4⟩:=DG
  have h:=fb (inf:=inf) (P:=prog) (G:=ah) (ro:=ro) (T:=T) (T1:=T1) (t:=209) (tx:=209) (s:=s) (x:=x) (l:=l) (es:=es) (es2:=es2) (k:=k) (n:=n) (bn:=bn) Tryz.underlying209 i1 i4 (by rw [i2];rfl) (by rw [i2];decide) (by kernel_rfl) (by rw [i2];exact hs) (by rw [i2];exact hx)
    (by have h1:=i3
        have h2:=mul_le_mul hb h1
        omega)
  rw [i2] at h
  exact h
def DI (N:Nat)(O:Bs→Int→Int→VO)(b0:Bs)(ex:Exit)(vs:List TV)(T:VT):Prop:=
 (∃(l:List gQ) (bz:Bs) (az ez:Int),vP b0=some l∧ex=.normal∧vs=kz (l.map dk)∧T=⟨[z7,O bz az ez],[(l.length,3,true)]⟩)∨
 (∃(rest:List VO) (tlz:fR) (Lz:Bs),vP b0=none∧ex=.ret∧vs=kz Lz∧T=⟨f7 1::rest,tlz⟩)
theorem A3 {N:Nat}{O:Bs→Int→Int→VO}{b0:Bs}{K:KX}(hK:JU N O (dl b0) (ij b0) K){ex:Exit}{vs:List TV}{T:VT}(h:DI N O b0 ex vs T):K ex (aJ N sT vs) T []:=by
 unfold JU at hK
 rcases h with ⟨l,bz,az,ez,h1,rfl,rfl,rfl⟩ | ⟨rest,tlz,Lz,h1,rfl,rfl,rfl⟩
 ·simp only [ij,h1,isSome_some,cond_true,dl,eo,getD_some,length_map] at hK
  exact hK bz az ez
 ·simp only [ij,h1,isSome_none,cond_false] at hK
  exact hK rest tlz Lz
theorem Nc {b0:Bs}(h0:IsB b0)(K:KX)(hK:JU 41 aN (dl b0) (ij b0) K):VWx prog ah none 0 (aA prog t3 0) (aJ 41 sT (kz [])) ⟨[z7,aN b0 0 0],[(0,3,true)]⟩ [] K:=by
 let sl:Bs × Int × List gQ→List TV:=λs=>kz (s.2.2.map dk)
 let TT:Bs × Int × List gQ→VT:=λs=>⟨[z7,aN s.1 s.2.1 0],[(s.2.2.length,3,true)]⟩
 refine dW (f:=t3) (id:=0) (by kernel_rfl) 41 sT (λs:Bs × Int × List gQ=>s.1.length) sl TT (λs=>IsB s.1∧All3 s.2.2∧s.2.2.length+s.1.length≤b0.length∧ii (s.1.length+1) s.1 s.2.2=vP b0) 2 1 (λ_ _=>⟨le_refl _,le_refl _⟩)
  (DI 41 aN b0) (λs hs=> ?_) ⟨b0,0,[]⟩ ⟨h0,.nil,by simp,rfl⟩ K (λex vs T h=>A3 hK h)
 obtain ⟨b,a,acc⟩:=s
 obtain ⟨hrem,ha,hlen,hgo⟩:=hs
 have hsm:=h0.small
 simp only at hrem ha hlen hgo
 have hS:bk prog ah (aI [(kT,nJ),(jb,mm .i64 1),(ne,mm .i64 2),(j5,AS),(jD,mj)]):=aQ λp hp=>by
  rcases mem_cons.1 hp with rfl | hp;exact oY
  rcases mem_cons.1 hp with rfl | hp;exact λro ys T K h=>ra _ _ _ _ (nv h)
  rcases mem_cons.1 hp with rfl | hp;exact λro ys T K h=>va _ _ _ _ (nv h)
  rcases mem_cons.1 hp with rfl | hp;exact λro ys T K h=>tV _ _ _ _ (Dm h)
  obtain rfl:=mem_singleton.1 hp;exact rc
 have hv:=TO b (acc.map dk) (dk (dG b,eB b,dU b)) a
 rw [length_map] at hv
 refine cg ag ac hS ai (hv _) ?_
 refine ⟨⟨rfl,hrem⟩,?_⟩
 by_cases hl:bo b 0>0
 ·have hlt:=t6 hl
  refine aU (decide_eq_true hl) ⟨⟨rfl,hrem⟩,?_⟩
  intro z bz az ez hq1
  have hbz:IsB bz:=by rw [hq1.2.1];exact aH hrem
  refine ⟨⟨rfl,hbz⟩,?_⟩
  intro z2 b2 a2 e2 hq2
  have hb2:IsB b2:=by rw [hq2.2.1];exact aH hbz
  have hzc:z=dG b:=hq1.1
  refine ak (λhx=> ?_) (λhx=> ?_)
  ·rw [hzc] at hx
   have hk:pj b=2:=by unfold pj;rw [show jF (dG b)=true from hx];rfl
   refine ⟨⟨rfl,hb2⟩,?_⟩
   intro z3 b3 a3 e3 hq3
   have hb3:IsB b3:=by rw [hq3.2.1];exact aH hb2
   refine ⟨⟨rfl,hb3⟩,?_⟩
   intro v b4 a4 e4 hq4
   have hb4:IsB b4:=by rw [hq4.2.1];exact aH hb3
   obtain ⟨rfl,rfl,rfl,rfl,rfl⟩:=DD hk hq1 hq2 hq3 hq4
   refine ⟨⟨rfl,hb4⟩,?_⟩
   by_cases hz:sU b=0
   ·have ha2:All3 (acc++ [(dG b,eB b,dU b)]):=ha.snoc (ri hrem)
    have e1:(acc++ [(dG b,eB b,dU b)]).map dk=acc.map dk++ [dk (dG b,eB b,dU b)]:=by rw [map_append];rfl
    rw [hz]
    refine aO (by rw [cC];rfl) ⟨?_,rfl,rfl,⟨lV b,a4,acc++ [(dG b,eB b,dU b)]⟩,⟨hb4,ha2,by simp only [length_append,length_cons,length_nil];omega,by rw [←hgo];exact (qe hl hz).symm⟩,hlt,.inr ⟨?_,?_⟩⟩
    ·have h:=DF (ro:=0) (T:=⟨[z7,aN (lV b) a4 0,.cells (dk (dG b,eB b,dU b))],[(acc.length,3,true)]⟩) (T1:=⟨[z7,aN (lV b) a4 0,.cells (dk (dG b,eB b,dU b))],[(acc.length,3,true)]⟩) (s:=.tmp 35) (x:=.tmp 37) (l:= [(35,.vec 3 (acc.map dk) (.tail 0 acc.length)),(37,.vec 3 [dk (dG b,eB b,dU b)] .full)]) (es:=acc.map dk) (es2:= [dk (dG b,eB b,dU b)]) (k:=0) (n:=acc.length) (bn:=true)
      (by simp [aL,dT,cE]) rfl (by simp only [length_map,length_cons,length_nil];omega)
     exact h
    ·refine (show VT.keep ⟨z7::aN (lV b) a4 0::_,_⟩ 2 1=_ from ?_)
     simp only [VT.keep,take_succ_cons,take_zero,map_cons,map_nil,bW hb4]
     simp only [TT,length_append,length_cons,length_nil]
     rfl
    ·have e2:=mN (ax 2) (ax 1) ha2
     rw [e1] at e2
     simp only [aB,TV.ren,e2,Tok.ren]
     simp only [sl,kz,e1,length_append,length_map,length_cons,length_nil]
     rfl
   ·refine aU (by rw [cC];exact congrArg Bool.not (decide_eq_false hz)) ⟨rfl,rfl,.inr ⟨_,_,acc.map dk,by rw [←hgo];exact sn hl hz,rfl,by simp only [kz,length_map],rfl⟩⟩
  ·rw [hzc] at hx
   have hk:pj b=1:=by unfold pj;rw [show jF (dG b)=false from hx];rfl
   refine ⟨⟨rfl,hb2⟩,?_⟩
   intro z3 b3 a3 e3 hq3
   have hb3:IsB b3:=by rw [hq3.2.1];exact aH hb2
   refine ⟨⟨rfl,hb3⟩,?_⟩
   intro v b4 a4 e4 hq4
   have hb4:IsB b4:=by rw [hq4.2.1];exact aH hb3
   obtain ⟨rfl,rfl,rfl,rfl,rfl⟩:=DD hk hq1 hq2 hq3 hq4
   refine ⟨⟨rfl,hb4⟩,?_⟩
   by_cases hz:sU b=0
   ·have ha2:All3 (acc++ [(dG b,eB b,dU b)]):=ha.snoc (ri hrem)
    have e1:(acc++ [(dG b,eB b,dU b)]).map dk=acc.map dk++ [dk (dG b,eB b,dU b)]:=by rw [map_append];rfl
    rw [hz]
    refine aO (by rw [cC];rfl) ⟨?_,rfl,rfl,⟨lV b,a4,acc++ [(dG b,eB b,dU b)]⟩,⟨hb4,ha2,by simp only [length_append,length_cons,length_nil];omega,by rw [←hgo];exact (qe hl hz).symm⟩,hlt,.inr ⟨?_,?_⟩⟩
    ·have h:=DF (ro:=0) (T:=⟨[z7,aN (lV b) a4 0,.cells (dk (dG b,eB b,dU b))],[(acc.length,3,true)]⟩) (T1:=⟨[z7,aN (lV b) a4 0,.cells (dk (dG b,eB b,dU b))],[(acc.length,3,true)]⟩) (s:=.tmp 35) (x:=.tmp 37) (l:= [(35,.vec 3 (acc.map dk) (.tail 0 acc.length)),(37,.vec 3 [dk (dG b,eB b,dU b)] .full)]) (es:=acc.map dk) (es2:= [dk (dG b,eB b,dU b)]) (k:=0) (n:=acc.length) (bn:=true)
      (by simp [aL,dT,cE]) rfl (by simp only [length_map,length_cons,length_nil];omega)
     exact h
    ·refine (show VT.keep ⟨z7::aN (lV b) a4 0::_,_⟩ 2 1=_ from ?_)
     simp only [VT.keep,take_succ_cons,take_zero,map_cons,map_nil,bW hb4]
     simp only [TT,length_append,length_cons,length_nil]
     rfl
    ·have e2:=mN (ax 2) (ax 1) ha2
     rw [e1] at e2
     simp only [aB,TV.ren,e2,Tok.ren]
     simp only [sl,kz,e1,length_append,length_map,length_cons,length_nil]
     rfl
   ·refine aU (by rw [cC];exact congrArg Bool.not (decide_eq_false hz)) ⟨rfl,rfl,.inr ⟨_,_,acc.map dk,by rw [←hgo];exact sn hl hz,rfl,by simp only [kz,length_map],rfl⟩⟩
 ·exact aO (decide_eq_false hl) ⟨rfl,rfl,.inl ⟨acc,b,a,0,by rw [←hgo];exact DC hl,rfl,by simp only [kz,length_map],rfl⟩⟩
theorem JX {B:Bs}(hB:IsB B)(K:KX)(hK:JU 43 bf (dl B) (ij B) K):VWx prog ah none 0 (aA prog pi 0) (aJ 43 sT (kz [])) ⟨[z7,bf B 0 0],[(0,3,true)]⟩ [] K:=by
 let sl:Int × List gQ→List TV:=λs=>kz (s.2.map dk)
 let TT:Int × List gQ→VT:=λs=>⟨[z7,bf B s.1 0],[(s.2.length,3,true)]⟩
 refine dW (f:=pi) (id:=0) (by kernel_rfl) 43 sT (λs:Int × List gQ=>(aa B s.1).length) sl TT (λs=>bq B s.1∧All3 s.2∧s.2.length+(aa B s.1).length≤B.length∧ii ((aa B s.1).length+1) (aa B s.1) s.2=vP B) 2 1 (λ_ _=>⟨le_refl _,le_refl _⟩)
  (DI 43 bf B) (λs hs=> ?_) ⟨0,[]⟩ ⟨Dv hB,.nil,by simp [aa],rfl⟩ K (λex vs T h=>A3 hK h)
 obtain ⟨n,acc⟩:=s
 obtain ⟨hn,ha,hlen,hgo⟩:=hs
 have hsm:=hB.small
 simp only at hn ha hlen hgo
 have hrem:=dy hB n
 have hS:bk prog ah (aI [(j6,ns),(iE,ku .i64 1),(lR,ku .i64 2),(iD,AT)]):=aQ λp hp=>by
  rcases mem_cons.1 hp with rfl | hp;exact o7
  rcases mem_cons.1 hp with rfl | hp;exact λro ys T K h=>re _ _ _ _ (nw h)
  rcases mem_cons.1 hp with rfl | hp;exact λro ys T K h=>vc _ _ _ _ (nw h)
  obtain rfl:=mem_singleton.1 hp;exact λro ys T K h=>oZ _ _ _ _ (Dn h)
 have hv:=QP B (acc.map dk) (dk (dG (aa B n),eB (aa B n),dU (aa B n))) n
 rw [length_map] at hv
 refine cg ag ac hS ai (hv _) ?_
 refine ⟨⟨rfl,hB,hn⟩,?_⟩
 by_cases hl:bo (aa B n) 0>0
 ·have hlt:=t6 hl
  refine aU (decide_eq_true hl) ⟨⟨rfl,hB,hn⟩,?_⟩
  intro z nz ez hq1
  have hnz:bq B nz:=by rw [hq1.2.1];exact bF hn _ _
  refine ⟨⟨rfl,hB,hnz⟩,?_⟩
  intro z2 n2 e2 hq2
  have hn2:bq B n2:=by rw [hq2.2.1];exact bF hnz _ _
  have hzc:z=dG (aa B n):=hq1.1
  refine ak (λhx=> ?_) (λhx=> ?_)
  ·rw [hzc] at hx
   have hk:pj (aa B n)=2:=by unfold pj;rw [show jF (dG (aa B n))=true from hx];rfl
   refine ⟨⟨rfl,hB,hn2⟩,?_⟩
   intro z3 n3 e3 hq3
   have hn3:bq B n3:=by rw [hq3.2.1];exact bF hn2 _ _
   refine ⟨⟨rfl,hB,hn3⟩,?_⟩
   intro v n4 e4 hq4
   obtain ⟨rfl,rfl,rfl,hr,rfl,hn4⟩:=JW hn hk hq1 hq2 hq3 hq4
   by_cases hz:sU (aa B n)=0
   ·have ha2:All3 (acc++ [(dG (aa B n),eB (aa B n),dU (aa B n))]):=ha.snoc (ri hrem)
    have e1:(acc++ [(dG (aa B n),eB (aa B n),dU (aa B n))]).map dk=acc.map dk++ [dk (dG (aa B n),eB (aa B n),dU (aa B n))]:=by rw [map_append];rfl
    rw [hz]
    refine aO (by rw [cC];rfl) ⟨?_,rfl,rfl,⟨n4,acc++ [(dG (aa B n),eB (aa B n),dU (aa B n))]⟩,⟨hn4,ha2,by simp only [hr,length_append,length_cons,length_nil];omega,by simp only [hr];rw [←hgo];exact (qe hl hz).symm⟩,by simp only [hr];exact hlt,.inr ⟨?_,?_⟩⟩
    ·have h:=DH (ro:=0) (T:=⟨[z7,bf B n4 0,.cells (dk (dG (aa B n),eB (aa B n),dU (aa B n)))],[(acc.length,3,true)]⟩) (T1:=⟨[z7,bf B n4 0,.cells (dk (dG (aa B n),eB (aa B n),dU (aa B n)))],[(acc.length,3,true)]⟩) (s:=.tmp 37) (x:=.tmp 39) (l:= [(37,.vec 3 (acc.map dk) (.tail 0 acc.length)),(39,.vec 3 [dk (dG (aa B n),eB (aa B n),dU (aa B n))] .full)]) (es:=acc.map dk) (es2:= [dk (dG (aa B n),eB (aa B n),dU (aa B n))]) (k:=0) (n:=acc.length) (bn:=true)
      (by simp [aL,dT,cE]) rfl (by simp only [length_map,length_cons,length_nil];omega)
     exact h
    ·refine (show VT.keep ⟨z7::bf B n4 0::_,_⟩ 2 1=_ from ?_)
     simp only [VT.keep,take_succ_cons,take_zero,map_cons,map_nil,cl hB]
     simp only [TT,length_append,length_cons,length_nil]
     rfl
    ·have e2:=mN (ax 2) (ax 1) ha2
     rw [e1] at e2
     simp only [aB,TV.ren,e2,Tok.ren]
     simp only [sl,kz,e1,length_append,length_map,length_cons,length_nil]
     rfl
   ·refine aU (by rw [cC];exact congrArg Bool.not (decide_eq_false hz)) ⟨rfl,rfl,.inr ⟨_,_,acc.map dk,by rw [←hgo];exact sn hl hz,rfl,by simp only [kz,length_map],rfl⟩⟩
  ·rw [hzc] at hx
   have hk:pj (aa B n)=1:=by unfold pj;rw [show jF (dG (aa B n))=false from hx];rfl
   refine ⟨⟨rfl,hB,hn2⟩,?_⟩
   intro z3 n3 e3 hq3
   have hn3:bq B n3:=by rw [hq3.2.1];exact bF hn2 _ _
   refine ⟨⟨rfl,hB,hn3⟩,?_⟩
   intro v n4 e4 hq4
   obtain ⟨rfl,rfl,rfl,hr,rfl,hn4⟩:=JW hn hk hq1 hq2 hq3 hq4
   by_cases hz:sU (aa B n)=0
   ·have ha2:All3 (acc++ [(dG (aa B n),eB (aa B n),dU (aa B n))]):=ha.snoc (ri hrem)
    have e1:(acc++ [(dG (aa B n),eB (aa B n),dU (aa B n))]).map dk=acc.map dk++ [dk (dG (aa B n),eB (aa B n),dU (aa B n))]:=by rw [map_append];rfl
    rw [hz]
    refine aO (by rw [cC];rfl) ⟨?_,rfl,rfl,⟨n4,acc++ [(dG (aa B n),eB (aa B n),dU (aa B n))]⟩,⟨hn4,ha2,by simp only [hr,length_append,length_cons,length_nil];omega,by simp only [hr];rw [←hgo];exact (qe hl hz).symm⟩,by simp only [hr];exact hlt,.inr ⟨?_,?_⟩⟩
    ·have h:=DH (ro:=0) (T:=⟨[z7,bf B n4 0,.cells (dk (dG (aa B n),eB (aa B n),dU (aa B n)))],[(acc.length,3,true)]⟩) (T1:=⟨[z7,bf B n4 0,.cells (dk (dG (aa B n),eB (aa B n),dU (aa B n)))],[(acc.length,3,true)]⟩) (s:=.tmp 37) (x:=.tmp 39) (l:= [(37,.vec 3 (acc.map dk) (.tail 0 acc.length)),(39,.vec 3 [dk (dG (aa B n),eB (aa B n),dU (aa B n))] .full)]) (es:=acc.map dk) (es2:= [dk (dG (aa B n),eB (aa B n),dU (aa B n))]) (k:=0) (n:=acc.length) (bn:=true)
      (by simp [aL,dT,cE]) rfl (by simp only [length_map,length_cons,length_nil];omega)
     exact h
    ·refine (show VT.keep ⟨z7::bf B n4 0::_,_⟩ 2 1=_ from ?_)
     simp only [VT.keep,take_succ_cons,take_zero,map_cons,map_nil,cl hB]
     simp only [TT,length_append,length_cons,length_nil]
     rfl
    ·have e2:=mN (ax 2) (ax 1) ha2
     rw [e1] at e2
     simp only [aB,TV.ren,e2,Tok.ren]
     simp only [sl,kz,e1,length_append,length_map,length_cons,length_nil]
     rfl
   ·refine aU (by rw [cC];exact congrArg Bool.not (decide_eq_false hz)) ⟨rfl,rfl,.inr ⟨_,_,acc.map dk,by rw [←hgo];exact sn hl hz,rfl,by simp only [kz,length_map],rfl⟩⟩
 ·exact aO (decide_eq_false hl) ⟨rfl,rfl,.inl ⟨acc,B,n,0,by rw [←hgo];exact DC hl,rfl,by simp only [kz,length_map],rfl⟩⟩
theorem QR {b:Bs}(h:IsB b):dD prog ah (Oz 41 aN b (dl b) (ij b) (aA prog t3 0)):=bL λp hp=>by
 obtain rfl:=mem_singleton.1 hp
 exact ce λK hK=>Nc h K hK
theorem Nd {b:Bs}(h:IsB b):dD prog ah (Oz 43 bf b (dl b) (ij b) (aA prog pi 0)):=bL λp hp=>by
 obtain rfl:=mem_singleton.1 hp
 exact ce λK hK=>JX h K hK
theorem JY {b:Bs}(h:ij b=false):TVle (.tup [.val (.slice none 0 0),.agg [.val (.int .i64 3),.val (.int .i64 1),.val (.slice none 0 0)]]) (t5 b):=by
 have hl:dl b= []:=by
  unfold dl eo
  unfold ij at h
  cases hc:vP b with
  |none=>rfl
  |some l=>rw [hc] at h;cases h
 unfold t5
 rw [h,hl]
 exact .tup ⟨.nil 3,.agg ⟨.refl _,.refl _,.nil 1,trivial⟩,trivial⟩
theorem FP {b:Bs}(h:ij b=true)(tok:Tok):TVle (.tup [.vec 3 (dl b) tok,.agg [.val (.int .i64 0),.val (.int .i64 0),.val (.slice none 0 0)]]) (t5 b):=by
 unfold t5
 rw [h]
 exact .tup ⟨.vec 3 _ _,.agg ⟨.refl _,.refl _,.nil 1,trivial⟩,trivial⟩
theorem rj {b:Bs}(hb:IsB b)(f g:Nat→Option Nat):bm f g (dl b)=dl b:=mN f g (TQ hb)
theorem TR {b:Bs}(hb:IsB b):VCx prog ah 0 t3 [.vec 1 b .none] ⟨[],[]⟩ λx T'=>x=t5 b∧T'=⟨[],[]⟩:=by
 refine VCx.toLe (Q:=λT'=>T'=⟨[],[]⟩) (VCx.keepQ 0 0 (le_refl _) (le_refl _) (aj ag ac (aQ λp hp=>by obtain rfl:=mem_singleton.1 hp;exact u9) (QR hb) (Wn b (dl b) (ij b) _) ?_))
 refine ⟨hb,rfl,⟨rfl,rfl,rfl,⟨rfl,trivial⟩,rfl,rfl,rfl⟩,?_⟩
 cases h:ij b
 ·exact λrest tlz Lz=>⟨JY h,rfl⟩
 ·refine λbz az ez=>⟨?_,rfl⟩
  simp only [TV.ren,aB,rj hb]
  exact FP h _
theorem QS {b:Bs}(hb:IsB b):VCx prog ah 0 pi [.vec 1 b .none] ⟨[],[]⟩ λx T'=>x=t5 b∧T'=⟨[],[]⟩:=by
 refine VCx.toLe (Q:=λT'=>T'=⟨[],[]⟩) (VCx.keepQ 0 0 (le_refl _) (le_refl _) (aj ag ac (aQ λp hp=>by obtain rfl:=mem_singleton.1 hp;exact oA) (Nd hb) (TP b (dl b) (ij b) _) ?_))
 refine ⟨⟨hb,hb.small⟩,rfl,⟨rfl,rfl,rfl,⟨rfl,trivial⟩,rfl,rfl,rfl⟩,?_⟩
 cases h:ij b
 ·exact λrest tlz Lz=>⟨JY h,rfl⟩
 ·refine λbz az ez=>⟨?_,rfl⟩
  simp only [TV.ren,aB,rj hb]
  exact FP h _
--bumped 32
abbrev kA:=160
abbrev jc:=144
abbrev JZ:=178
abbrev yb:=184
def iT (z:Int):List TV:= [.val (.int .i64 z)]
def iV (l:List Int):Bs:=l.map iT
def FQ:List Nat:= [0,1,4,6,7,8]
def A4 (L:Bs)(v r j:Int):List TV:= [.vec 1 L .none,.val (.int .i64 v),.val (.int .i64 r),.vec 1 L .none,.val (.int .i64 L.length),.val (.int .i64 j)]
def W6 (L:Bs)(v r j:Int)(hit:Bool)(c0:Code):Nat→Option (cB × Code):=cG [(0,dB 19 FQ [] (A4 L v 0 0) ⟨[],[]⟩ λK=>bif hit then K .ret (aJ 19 FQ (A4 L v r j)) ⟨[],[]⟩ [] else K .normal (aJ 19 FQ (A4 L v 0 L.length)) ⟨[],[]⟩ [],c0)]
def has0 (L:Bs):Bool:=L.any λr=>decide (hZ r=0)
def W7 (L:Bs):Prop:=∃l:List Int,L=iV l∧l.length≤1000
def OA:be:=λ_ ys T K=>match ys with
 |[.vec 1 L _,.val (.int .i64 0)]=>W7 L∧K (.val (.bool (has0 L))) T
 |_=>False
def nN:List Nat:= [2,3,4,5]
def nO (L:Bs):List TV:= [.val (.slice none 0 0),.val (.bool false),.ptr 0 0,.vec 1 L (.tail 0 L.length)]
def wB:List Nat:= [2,3,4,5,35,36]
def A5 (L:Bs)(n j:Int):List TV:= [.val (.slice none 0 0),.val (.bool false),.ptr 0 0,.vec 1 L (.tail 0 L.length),.val (.int .i64 n),.val (.int .i64 j)]
def TS (b b' L L':Bs)(a e a' e' n:Int)(c0:Code):Nat→Option (cB × Code):=cG [(2,dB 55 wB [] (A5 L n 0) ⟨[aN b a e],[(L.length,1,true)]⟩ (λK=>K .normal (aJ 55 wB (A5 L' n n)) ⟨[aN b' a' e'],[(L'.length,1,true)]⟩ []),c0)]
def TU (P:Bs→Int→Prop)(N:Prop)(K:KX):Prop:=(∀(L bz:Bs) (az ez:Int),(IsB bz∧P L ez)→K .normal (aJ 55 nN (nO L)) ⟨[aN bz az ez],[(L.length,1,true)]⟩ [])∧(∀(rest:List VO) (tlz:List (Nat × Nat × Bool)) (Lz:Bs),N→K .ret (aJ 55 nN (nO Lz)) ⟨rest,tlz⟩ [])
def W8 (b:Bs)(P:Bs→Int→Prop)(N:Prop)(c0:Code):Nat→Option (cB × Code):=cG [(0,dB 55 nN [(5,1)] (nO []) ⟨[aN b 0 0],[(0,1,true)]⟩ (TU P N),c0)]
def t7:List Nat:= [2,3,4,5,7]
def yc (L:Bs)(n:Int):List TV:= [.val (.slice none 0 0),.val (.bool false),.ptr 0 0,.vec 1 L (.tail 0 L.length),.val (.int .i64 n)]
def H8 (B L':Bs)(n':Int)(ok:Bool)(K:KX):Prop:=bif ok then K .normal (aJ 58 t7 (yc L' 0)) ⟨[bf B n' 0],[(L'.length,1,true)]⟩ [] else ∀(rest:List VO) (tlz:List (Nat × Nat × Bool)) (Lz:Bs) (nz:Int),K .ret (aJ 58 t7 (yc Lz nz)) ⟨rest,tlz⟩ []
def TW (B L L':Bs)(m n' k:Int)(ok:Bool)(c0:Code):Nat→Option (cB × Code):=cG [(2,dB 58 t7 [] (yc L k) ⟨[bf B m 0],[(L.length,1,true)]⟩ (H8 B L' n' ok),c0)]
def OB (B L:Bs)(ok:Bool)(K:KX):Prop:=bif ok then (∀nz:Int,K .normal (aJ 58 nN (nO L)) ⟨[bf B nz 0],[(L.length,1,true)]⟩ []) else ∀(rest:List VO) (tlz:List (Nat × Nat × Bool)) (Lz:Bs),K .ret (aJ 58 nN (nO Lz)) ⟨rest,tlz⟩ []
def W9 (B L:Bs)(ok:Bool)(c0:Code):Nat→Option (cB × Code):=cG [(0,dB 58 nN [(5,1)] (nO []) ⟨[bf B 0 0],[(0,1,true)]⟩ (OB B L ok),c0)]
theorem Wo (L:Bs)(v r j:Int)(hit:Bool)(Q:TV→VT→Prop):au prog ah aZ aM 300 (W6 L v r j hit (aA prog yb 0)) 0 yb [.vec 1 L .none,.val (.int .i64 v)] ap Q=
 ((aA prog yb (0:Nat)=aA prog yb (0:Nat))∧
 (((@Eq (Option Nat) .none .none)∧
 ((@Eq (Nat) 0 0)∧
 ((@Eq (List Nat) [] [])∧
 (True  ∧
 ((@Eq (VT) ap ap)∧
 ((@Eq (Bool) true true)∧
 (@Eq (List TV) [(an L),(ae v),aE,(an L),(ae (↑(length L):Int)),aE] [(an L),(ae v),aE,(an L),(ae (↑(length L):Int)),aE])))))))∧
 (bif hit
 then Q (ae r) ap
 else Q (ae (-1)) ap))):=by kernel_rfl
theorem J0 (L:Bs)(v r z:Int)(j:Nat)(Q:Exit→List TV→VT→List Nat→Nat→Prop):vx prog ah aZ (bc [(999998,.dead,none),(14,.elt (iT z),none)]) 300 aG none 0 (cM prog yb 0) (aJ 19 FQ (A4 L v r j)) ap [] (de FQ Q)=
 (bif decide ((↑j:Int)<(↑(length L):Int))
 then (ba prog (λ_=>.none) (.indexAddr 59 (.tmp 12) (.tmp 13)) [(12,(an L)),(13,(ae (↑j:Int)))] (.elt [(ae z)])∧
 (bif aq eql (k6 v z)
 then Q .ret (HO L v (↑j:Int) L (↑(length L):Int) (↑j:Int)) ap [] 19
 else Q .normal (HO L v r L (↑(length L):Int) (wrap i64 ((↑j:Int)+(1:Int)))) ap [] 19))
 else Q (.exit 0) (HO L v r L (↑(length L):Int) (↑j:Int)) ap [] 19):=by kernel_rfl
theorem Wp (L:Bs)(v r:Int)(Q:TV→VT→Prop):au prog ah (aI [(yb,Jr [.vec 1 L .none,.val (.int .i64 v)] (ae r))]) aM 300 aG 0 JZ [.vec 1 L .none,.val (.int .i64 v)] ap Q=
 ((@Eq (List TV) [(an L),(ae v)] [(an L),(ae v)])∧
 Q (ei (decide (r≥(0:Int)))) ap):=by kernel_rfl
theorem TX (b L:Bs)(a e n:Int)(j:Nat)(Q:Exit→List TV→VT→List Nat→Nat→Prop):vx prog ah (aI [(ne,mi .i64 2)]) (bc [(999999,.dead,none),(42,.vec 1 (L++ [iT (aw 2 b e)]) (.tail 0 (L.length+1)),some λT=>{T with tails:= [(L.length+1,1,true)]})]) 300 aG none 0 (cM prog kA 2) (aJ 55 wB (A5 L n j)) ⟨[aN b a e],[(L.length,1,true)]⟩ [] (de wB Q)=
 (bif decide ((↑j:Int)<n)
 then (((@Eq (Bool) true true)∧
 IsB (b))∧
 (br prog (λ_=>.none) 0 ⟨[(.cells [aF,(an (aC (↑(2:Nat):Int) b e)),(ae (bN (↑(2:Nat):Int) b e a)),(ae (ar (↑(2:Nat):Int) b e))])],[((length L),(1,true))]⟩ (.call ⟨(.builtin .append),#[(.tmp 38),(.tmp 41)],#[59,59]⟩) [(38,(eI L (length L))),(41,(tR [[(.val (.int .i64 (aw (2:Nat) b e)))]]))] (eI (L++ [iT (aw (2:Nat) b e)]) (length L+(1:Nat))) ⟨[(.cells [aF,(an (aC (↑(2:Nat):Int) b e)),(ae (bN (↑(2:Nat):Int) b e a)),(ae (ar (↑(2:Nat):Int) b e))])],[((length L+(1:Nat)),(1,true))]⟩∧
 Q .normal [aY,av,eV,(eI (L++ [iT (aw (2:Nat) b e)]) (length L+(1:Nat))),(ae n),(ae (wrap i64 ((↑j:Int)+(1:Int))))] ⟨[(.cells [aF,(an (aC (↑(2:Nat):Int) b e)),(ae (bN (↑(2:Nat):Int) b e a)),(ae (ar (↑(2:Nat):Int) b e))])],[((length L+(1:Nat)),(1,true))]⟩ [] 55))
 else Q (.exit 2) [aY,av,eV,(eI L (length L)),(ae n),(ae (↑j:Int))] ⟨[(.cells [aF,(an b),(ae a),(ae e)])],[((length L),(1,true))]⟩ [] 55):=by kernel_rfl
abbrev sq (b:Bs)(e:Int)(a:Int):TV:=(ae (bN (↑(1:Nat):Int) (aC (↑(1:Nat):Int) b e) (ar (↑(1:Nat):Int) b e) (bN (↑(1:Nat):Int) b e a)))
abbrev su (b:Bs)(e:Int):TV:=(an (aC (↑(1:Nat):Int) (aC (↑(1:Nat):Int) b e) (ar (↑(1:Nat):Int) b e)))
abbrev sv (b:Bs)(e:Int):TV:=(ae (ar (↑(1:Nat):Int) (aC (↑(1:Nat):Int) b e) (ar (↑(1:Nat):Int) b e)))
abbrev OC (L:Bs)(b:Bs)(e:Int):List TV:=(HN L (length L) (aw (1:Nat) (aC (↑(1:Nat):Int) b e) (ar (↑(1:Nat):Int) b e)))
theorem J1 (b b2 b' L L':Bs)(a e a2 e2 a' e' n:Int)(Q:Exit→List TV→VT→List Nat→Nat→Prop):vx prog ah (aI [(kT,nJ),(jb,mi .i64 1)]) (bc [(999999,.dead,none)]) 300 (TS b2 b' L L' a2 e2 a' e' n (aA prog kA 2)) none 0 (cM prog kA 0) (aJ 55 nN (nO L)) ⟨[aN b a e],[(L.length,1,true)]⟩ [] (de nN Q)=
 (((@Eq (Bool) true true)∧
 IsB (b))∧
 (bif decide (bo b e>(0:Int))
 then (((@Eq (Bool) true true)∧
 IsB (b))∧
 (((@Eq (Bool) true true)∧
 IsB (aC (↑(1:Nat):Int) b e))∧
 (bif aq neq (k6 (aw (1:Nat) b e) (1:Int))
 then (bif aq neq (k6 (aw (1:Nat) b e) (2:Int))
 then Q .ret (jk L (length L)) ⟨[(.cells [aF,(su b e),(sq b e a),(sv b e)])],[((length L),(1,true))]⟩ [] 55
 else (bif aq eql (k6 (aw (1:Nat) (aC (↑(1:Nat):Int) b e) (ar (↑(1:Nat):Int) b e)) (0:Int))
 then Q .ret (jk L (length L)) ⟨[(.cells [aF,(su b e),(sq b e a),(sv b e)])],[((length L),(1,true))]⟩ [] 55
 else (bif decide (wrap i64 ((↑(length L):Int)+aw (1:Nat) (aC (↑(1:Nat):Int) b e) (ar (↑(1:Nat):Int) b e))>(16:Int))
 then Q .ret (jk L (length L)) ⟨[(.cells [aF,(su b e),(sq b e a),(sv b e)])],[((length L),(1,true))]⟩ [] 55
 else ((aA prog kA (2:Nat)=aA prog kA (2:Nat))∧
 (((@Eq (Option Nat) .none .none)∧
 ((@Eq (Nat) 0 0)∧
 ((@Eq (List Nat) [] [])∧
 (True  ∧
 ((@Eq (VT) ⟨[(.cells [aF,(su b e),(sq b e a),(sv b e)])],[((length L),(1,true))]⟩ ⟨[(.cells [aF,(an b2),(ae a2),(ae e2)])],[((length L),(1,true))]⟩)∧
 ((@Eq (Bool) true true)∧
 (@Eq (List TV) (OC L b e) (HN L (length L) n))))))))∧
 Q .normal (jk L' (length L')) ⟨[(.cells [aF,(an b'),(ae a'),(ae e')])],[((length L'),(1,true))]⟩ [] 55)))))
 else (bif aq eql (k6 (aw (1:Nat) (aC (↑(1:Nat):Int) b e) (ar (↑(1:Nat):Int) b e)) (0:Int))
 then Q .ret (jk L (length L)) ⟨[(.cells [aF,(su b e),(sq b e a),(sv b e)])],[((length L),(1,true))]⟩ [] 55
 else (bif decide (wrap i64 ((↑(length L):Int)+aw (1:Nat) (aC (↑(1:Nat):Int) b e) (ar (↑(1:Nat):Int) b e))>(16:Int))
 then Q .ret (jk L (length L)) ⟨[(.cells [aF,(su b e),(sq b e a),(sv b e)])],[((length L),(1,true))]⟩ [] 55
 else ((aA prog kA (2:Nat)=aA prog kA (2:Nat))∧
 (((@Eq (Option Nat) .none .none)∧
 ((@Eq (Nat) 0 0)∧
 ((@Eq (List Nat) [] [])∧
 (True  ∧
 ((@Eq (VT) ⟨[(.cells [aF,(su b e),(sq b e a),(sv b e)])],[((length L),(1,true))]⟩ ⟨[(.cells [aF,(an b2),(ae a2),(ae e2)])],[((length L),(1,true))]⟩)∧
 ((@Eq (Bool) true true)∧
 (@Eq (List TV) (OC L b e) (HN L (length L) n))))))))∧
 Q .normal (jk L' (length L')) ⟨[(.cells [aF,(an b'),(ae a'),(ae e')])],[((length L'),(1,true))]⟩ [] 55)))))))
 else Q (.exit 0) (jk L (length L)) ⟨[(.cells [aF,(an b),(ae a),(ae e)])],[((length L),(1,true))]⟩ [] 55)):=by kernel_rfl
theorem Wq (b:Bs)(P:Bs→Int→Prop)(N:Prop)(Q:TV→VT→Prop):au prog ah (aI [(kS,nr),(jD,mj),(JZ,OA)]) (bc [(999999,.dead,none)]) 300 (W8 b P N (aA prog kA 0)) 0 kA [.vec 1 b .none] ap Q=
 (IsB (b)∧
 ((aA prog kA (0:Nat)=aA prog kA (0:Nat))∧
 (((@Eq (Option Nat) .none .none)∧
 ((@Eq (Nat) 0 0)∧
 ((@Eq (List Nat) [] [])∧
 (((@Eq (Option TV) (.some aY) (.some aY))∧
 True)∧
 ((@Eq (VT) ⟨[(.cells [aF,(an b),aE,aE])],[(0,(1,true))]⟩ ⟨[(.cells [aF,(an b),aE,aE])],[(0,(1,true))]⟩)∧
 ((@Eq (Bool) true true)∧
 (@Eq (List TV) BJ BJ)))))))∧
 ((∀L:Bs,(∀bz:Bs,(∀az:Int,(∀ez:Int,((IsB (bz)∧
 P (L) (ez))→(((@Eq (Bool) true true)∧
 IsB (bz))∧
 (bif aq eql (k6 ez (0:Int))
 then (W7 (L)∧
 (bif !!has0 L
 then Q u6 ⟨[(.cells [aF,(an bz),(ae az),(ae ez)])],[((length L),(1,true))]⟩
 else Q (.tup [(eI L (length L)),aF]) ⟨[(.cells [aF,(an bz),(ae az),(ae ez)])],[((length L),(1,true))]⟩))
 else Q u6 ⟨[(.cells [aF,(an bz),(ae az),(ae ez)])],[((length L),(1,true))]⟩)))))))∧
 (∀rest:List VO,(∀tlz:List (Nat × Nat × Bool),(∀Lz:Bs,(N  →Q u6 ⟨(rest),(tlz)⟩)))))))):=by kernel_rfl
abbrev vg (B:Bs)(m:Int):TV:=(ae (ar (↑(2:Nat):Int) (aa B m) (0:Int)))
abbrev vh (B:Bs)(m:Int):TV:=(ae (aX (↑(2:Nat):Int) B m (0:Int)))
theorem TY (B L:Bs)(m k:Int)(Q:Exit→List TV→VT→List Nat→Nat→Prop):vx prog ah (aI [(lR,ml .i64 2)]) (bc [(999999,.dead,none),(51,.vec 1 (L++ [iT (aw 2 (aa B m) 0)]) (.tail 0 (L.length+1)),some λT=>{T with tails:= [(L.length+1,1,true)]})]) 300 aG none 0 (cM prog jc 2) (aJ 58 t7 (yc L k)) ⟨[bf B m 0],[(L.length,1,true)]⟩ [] (de t7 Q)=
 (bif decide (k>(0:Int))
 then (((@Eq (Bool) true true)∧
 (IsB (B)∧
 bq (B) (m)))∧
 (bif aq neq (k6 (ar (↑(2:Nat):Int) (aa B m) (0:Int)) (0:Int))
 then Q .ret (sg L (length L) k) ⟨[(.cells [(an B),(vh B m),(vg B m)])],[((length L),(1,true))]⟩ [] 58
 else (bif aq eql (k6 (aw (2:Nat) (aa B m) (0:Int)) (0:Int))
 then Q .ret (sg L (length L) k) ⟨[(.cells [(an B),(vh B m),(vg B m)])],[((length L),(1,true))]⟩ [] 58
 else (bif aq eql (k6 (↑(length L):Int) (16:Int))
 then Q .ret (sg L (length L) k) ⟨[(.cells [(an B),(vh B m),(vg B m)])],[((length L),(1,true))]⟩ [] 58
 else (br prog (λ_=>.none) 0 ⟨[(.cells [(an B),(vh B m),(vg B m)])],[((length L),(1,true))]⟩ (.call ⟨(.builtin .append),#[(.tmp 48),(.tmp 50)],#[59,59]⟩) [(48,(eI L (length L))),(50,(tR [[(.val (.int .i64 (aw (2:Nat) (aa B m) (0:Int))))]]))] (eI (L++ [iT (aw (2:Nat) (aa B m) (0:Int))]) (length L+(1:Nat))) ⟨[(.cells [(an B),(vh B m),(vg B m)])],[((length L+(1:Nat)),(1,true))]⟩∧
 Q .normal (sg (L++ [iT (aw (2:Nat) (aa B m) (0:Int))]) (length L+(1:Nat)) (wrap i64 (k-(1:Int)))) ⟨[(.cells [(an B),(vh B m),(vg B m)])],[((length L+(1:Nat)),(1,true))]⟩ [] 58)))))
 else Q (.exit 2) (sg L (length L) k) ⟨[(.cells [(an B),(ae m),aE])],[((length L),(1,true))]⟩ [] 58):=by kernel_rfl
abbrev yd (B:Bs)(m:Int):TV:=(ae (ar (↑(1:Nat):Int) (aa B (aX (↑(1:Nat):Int) B m (0:Int))) (ar (↑(1:Nat):Int) (aa B m) (0:Int))))
abbrev ye (B:Bs)(m:Int):TV:=(ae (aX (↑(1:Nat):Int) B (aX (↑(1:Nat):Int) B m (0:Int)) (ar (↑(1:Nat):Int) (aa B m) (0:Int))))
theorem TZ (B L L':Bs)(m m2 n' k:Int)(ok:Bool)(Q:Exit→List TV→VT→List Nat→Nat→Prop):vx prog ah (aI [(j6,ns),(iE,ml .i64 1)]) (bc [(999999,.dead,none)]) 300 (TW B L L' m2 n' k ok (aA prog jc 2)) none 0 (cM prog jc 0) (aJ 58 nN (nO L)) ⟨[bf B m 0],[(L.length,1,true)]⟩ [] (de nN Q)=
 (((@Eq (Bool) true true)∧
 (IsB (B)∧
 bq (B) (m)))∧
 (bif decide (bo (aa B m) (0:Int)>(0:Int))
 then (((@Eq (Bool) true true)∧
 (IsB (B)∧
 bq (B) (m)))∧
 (((@Eq (Bool) true true)∧
 (IsB (B)∧
 bq (B) (aX (↑(1:Nat):Int) B m (0:Int))))∧
 (bif decide (aw (1:Nat) (aa B m) (0:Int)<(1:Int))
 then Q .ret (jk L (length L)) ⟨[(.cells [(an B),(ye B m),(yd B m)])],[((length L),(1,true))]⟩ [] 58
 else (bif decide (aw (1:Nat) (aa B m) (0:Int)>(2:Int))
 then Q .ret (jk L (length L)) ⟨[(.cells [(an B),(ye B m),(yd B m)])],[((length L),(1,true))]⟩ [] 58
 else (bif aq eql (k6 (aw (1:Nat) (aa B (aX (↑(1:Nat):Int) B m (0:Int))) (ar (↑(1:Nat):Int) (aa B m) (0:Int))) (0:Int))
 then Q .ret (jk L (length L)) ⟨[(.cells [(an B),(ye B m),(yd B m)])],[((length L),(1,true))]⟩ [] 58
 else ((aA prog jc (2:Nat)=aA prog jc (2:Nat))∧
 (((@Eq (Option Nat) .none .none)∧
 ((@Eq (Nat) 0 0)∧
 ((@Eq (List Nat) [] [])∧
 (True  ∧
 ((@Eq (VT) ⟨[(.cells [(an B),(ye B m),(yd B m)])],[((length L),(1,true))]⟩ ⟨[(.cells [(an B),(ae m2),aE])],[((length L),(1,true))]⟩)∧
 ((@Eq (Bool) true true)∧
 (@Eq (List TV) (sg L (length L) (aw (1:Nat) (aa B (aX (↑(1:Nat):Int) B m (0:Int))) (ar (↑(1:Nat):Int) (aa B m) (0:Int)))) (sg L (length L) k))))))))∧
 (bif ok
 then Q .normal (jk L' (length L')) ⟨[(.cells [(an B),(ae n'),aE])],[((length L'),(1,true))]⟩ [] 58
 else (∀rest:List VO,(∀tlz:List (Nat × Nat × Bool),(∀Lz:Bs,(∀nz:Int,Q .ret (jk Lz (length Lz)) ⟨(rest),(tlz)⟩ [] 58))))))))))))
 else Q (.exit 0) (jk L (length L)) ⟨[(.cells [(an B),(ae m),aE])],[((length L),(1,true))]⟩ [] 58)):=by kernel_rfl
theorem Wr (B L:Bs)(ok:Bool)(Q:TV→VT→Prop):au prog ah (aI [(nC,iJ)]) (bc [(999999,.dead,none)]) 300 (W9 B L ok (aA prog jc 0)) 0 jc [.vec 1 B .none] ap Q=
 ((IsB (B)∧
 oT (B))∧
 ((aA prog jc (0:Nat)=aA prog jc (0:Nat))∧
 (((@Eq (Option Nat) .none .none)∧
 ((@Eq (Nat) 0 0)∧
 ((@Eq (List Nat) [] [])∧
 (((@Eq (Option TV) (.some aY) (.some aY))∧
 True)∧
 ((@Eq (VT) ⟨[(.cells [(an B),aE,aE])],[(0,(1,true))]⟩ ⟨[(.cells [(an B),aE,aE])],[(0,(1,true))]⟩)∧
 ((@Eq (Bool) true true)∧
 (@Eq (List TV) BJ BJ)))))))∧
 (bif ok
 then (∀nz:Int,Q (.tup [(eI L (length L)),aF]) ⟨[(.cells [(an B),(ae nz),aE])],[((length L),(1,true))]⟩)
 else (∀rest:List VO,(∀tlz:List (Nat × Nat × Bool),(∀Lz:Bs,Q u6 ⟨(rest),(tlz)⟩))))))):=by kernel_rfl
def fD:Nat→Bs→List Int→Option (Bs × List Int)
 | 0,b,l=>some (b,l)
 |k+1,b,l=>bif decide (ar 2 b 0=0)&&(!decide (aw 2 b 0=0)&& !decide (l.length=16)) then fD k (aC 2 b 0) (l++ [aw 2 b 0]) else none
def kB (b:Bs):Int:=aw 1 b 0
def cZ (b:Bs):Int:=aw 1 (aC 1 b 0) (ar 1 b 0)
def kC (b:Bs):Bs:=aC 1 (aC 1 b 0) (ar 1 b 0)
def A6 (b:Bs):Int:=ar 1 (aC 1 b 0) (ar 1 b 0)
def jm (b:Bs):Bool:=(decide (kB b=1) || decide (kB b=2))&& !decide (cZ b=0)
def iG:Nat→Bs→List Int→Option (List Int)
 | 0,_,_=>none
 |k+1,b,l=>bif decide (bo b 0>0) then (bif jm b then (match fD (cZ b).toNat (kC b) l with
  |some (b',l')=>iG k b' l'
  |none=>none) else none) else some l
def lW (b:Bs):Option (List Int):=iG (b.length+1) b []
def lr (b:Bs):Bool:=(lW b).isSome
def sV (b:Bs):List Int:=(lW b).getD []
def vQ (b:Bs):TV:=.tup [.vec 1 (iV (sV b)) .none,.val (.bool (lr b))]
theorem iM (l:List Int):(iV l).length=l.length:=length_map _
theorem rl (l:List Int)(z:Int):iV (l++ [z])=iV l++ [iT z]:=by simp [iV]
theorem eP (f g:Nat→Option Nat):∀l:List Int,bm f g (iV l)=iV l
 |[]=>rfl
 |a::l=>by
  have h:=eP f g l
  simp only [iV,map_cons,bm] at h ⊢
  rw [h];rfl
theorem DJ {k:Nat}{b:Bs}{e:Int}(h:¬aw k b e=0):ar k b e=0:=by
 unfold aw at h
 cases hc:cJ k b e
 ·rw [hc] at h;exact absurd rfl h
 ·simp only [cJ,and_eq_true,decide_eq_true_eq] at hc
  unfold ar
  rw [decide_eq_true hc.1.1,decide_eq_false (show ¬((k:Nat):Int)<0 by omega),decide_eq_true hc.2];rfl
theorem t8 {b:Bs}(h:bo b 0>0):(kC b).length<b.length:=by
 have h1:=zw h
 have h2:=kr (n:=1) (b:=aC 1 b 0) (e:=ar 1 b 0)
 unfold kC
 omega
theorem DK {b:Bs}(h:IsB b):IsB (kC b):=aH (aH h)
theorem rp:∀(k:Nat) (b:Bs) (l:List Int) (b':Bs) (l':List Int),fD k b l=some (b',l')→b'.length≤b.length∧l'.length=l.length+k
 | 0,b,l,b',l',h=>by
  simp only [fD,Option.some.injEq,Prod.mk.injEq] at h
  obtain ⟨rfl,rfl⟩:=h
  exact ⟨le_refl _,rfl⟩
 |k+1,b,l,b',l',h=>by
  unfold fD at h
  cases hc:(decide (ar 2 b 0=0)&&(!decide (aw 2 b 0=0)&& !decide (l.length=16)))<;>rw [hc] at h
  ·cases h
  ·obtain ⟨h1,h2⟩:=rp k _ _ _ _ h
   have h3:=kr (n:=2) (b:=b) (e:=0)
   refine ⟨Nat.le_trans h1 h3,?_⟩
   rw [h2,length_append,length_cons,length_nil];omega
theorem yf:∀(k:Nat) (b:Bs) (l:List Int) (b':Bs) (l':List Int),l.length≤16→fD k b l=some (b',l')→l'.length≤16
 | 0,b,l,b',l',h0,h=>by
  simp only [fD,Option.some.injEq,Prod.mk.injEq] at h
  rw [←h.2];exact h0
 |k+1,b,l,b',l',h0,h=>by
  unfold fD at h
  cases hc:(decide (ar 2 b 0=0)&&(!decide (aw 2 b 0=0)&& !decide (l.length=16)))<;>rw [hc] at h
  ·cases h
  ·simp only [and_eq_true,Bool.not_eq_true',decide_eq_false_iff_not] at hc
   exact yf k _ _ _ _ (by rw [length_append,length_cons,length_nil];omega) h
theorem DL {k:Nat}{b:Bs}{l:List Int}(h0:l.length≤16)(h:l.length+k>16):fD k b l=none:=by
 cases hc:fD k b l with
 |none=>rfl
 |some p=>
  obtain ⟨b',l'⟩:=p
  have h1:=(rp k b l b' l' hc).2
  have h2:=yf k b l b' l' h0 hc
  omega
theorem A7:∀(k j:Nat) (b:Bs) (l:List Int),b.length<k→b.length<j→iG k b l=iG j b l
 | 0,_,_,_,h,_=>absurd h (not_lt_zero _)
 |_,0,_,_,_,h=>absurd h (not_lt_zero _)
 |k+1,j+1,b,l,h1,h2=>by
  unfold iG
  by_cases hl:bo b 0>0
  ·have hb:=t8 hl
   rw [decide_eq_true hl]
   cases hi:fD (cZ b).toNat (kC b) l with
   |none=>rfl
   |some p=>
    obtain ⟨b',l'⟩:=p
    have h3:=(rp _ _ _ _ _ hi).1
    simp only [A7 k j b' l' (by omega) (by omega)]
  ·rw [decide_eq_false hl];rfl
theorem mO {b:Bs}{l:List Int}(hl:bo b 0>0)(hh:jm b=false):iG (b.length+1) b l=none:=by
 simp only [iG,decide_eq_true hl,hh,cond_true,cond_false]
theorem qf {b:Bs}{l:List Int}(hl:bo b 0>0)(hi:fD (cZ b).toNat (kC b) l=none):iG (b.length+1) b l=none:=by
 simp only [iG,decide_eq_true hl,hi,cond_true]
 cases jm b<;>rfl
theorem A8 {b b':Bs}{l l':List Int}(hl:bo b 0>0)(hh:jm b=true)(hi:fD (cZ b).toNat (kC b) l=some (b',l')):iG (b.length+1) b l=iG (b'.length+1) b' l':=by
 have h1:=t8 hl
 have h2:=(rp _ _ _ _ _ hi).1
 rw [A7 (b'.length+1) b.length b' l' (by omega) (by omega)]
 simp only [iG,decide_eq_true hl,hh,hi,cond_true]
theorem DM {b:Bs}{l:List Int}(hl:¬bo b 0>0):iG (b.length+1) b l=some l:=by
 simp only [iG,decide_eq_false hl,cond_false]
def cX:Nat→Bs × Int × Int × List Int→Bs × Int × Int × List Int
 | 0,s=>s
 |k+1,(b,a,e,l)=>cX k (aC 2 b e,bN 2 b e a,ar 2 b e,l++ [aw 2 b e])
theorem DN:∀(k:Nat) (s:Bs × Int × Int × List Int),IsB s.1→IsB (cX k s).1∧(cX k s).1.length≤s.1.length∧(cX k s).2.2.2.length=s.2.2.2.length+k
 | 0,s,h=>⟨h,le_refl _,rfl⟩
 |k+1,(b,a,e,l),h=>by
  obtain ⟨h1,h2,h3⟩:=DN k (aC 2 b e,bN 2 b e a,ar 2 b e,l++ [aw 2 b e]) (aH h)
  have h4:=kr (n:=2) (b:=b) (e:=e)
  simp only [length_append,length_cons,length_nil] at h2 h3
  refine ⟨h1,?_,?_⟩
  ·simp only [cX];omega
  ·simp only [cX];omega
theorem T3 {n:Int}{b:Bs}{e:Int}(h:¬e=0):ar n b e=e:=by unfold ar;rw [decide_eq_false h];rfl
theorem FR:∀(k:Nat) (s:Bs × Int × Int × List Int),¬s.2.2.1=0→¬(cX k s).2.2.1=0
 | 0,_,h=>h
 |k+1,(b,a,e,l),h=>by
  simp only [cX]
  exact FR k _ (by simp only;rw [T3 h];exact h)
theorem sw:∀(k:Nat) (s:Bs × Int × Int × List Int),0∈s.2.2.2→0∈(cX k s).2.2.2
 | 0,_,h=>h
 |k+1,(b,a,e,l),h=>by
  simp only [cX]
  exact sw k _ (List.mem_append_left _ h)
theorem J2:∀(k:Nat) (b:Bs) (a:Int) (l:List Int),l.length+k≤16→(∃b' l',fD k b l=some (b',l')∧(cX k (b,a,0,l)).1=b'∧(cX k (b,a,0,l)).2.2.1=0∧(cX k (b,a,0,l)).2.2.2=l'∧(¬0∈l→¬0∈l'))∨
  (fD k b l=none∧(¬(cX k (b,a,0,l)).2.2.1=0∨0∈(cX k (b,a,0,l)).2.2.2))
 | 0,b,a,l,_=>.inl ⟨b,l,rfl,rfl,rfl,rfl,λh=>h⟩
 |k+1,b,a,l,h=>by
  have h16:¬l.length=16:=by omega
  by_cases he:ar 2 b 0=0
  ·by_cases hz:aw 2 b 0=0
   ·refine .inr ⟨by simp only [fD,decide_eq_true he,decide_eq_true hz,Bool.not_true,Bool.false_and,Bool.and_false,cond_false],.inr ?_⟩
    simp only [cX]
    refine sw k _ (List.mem_append_right _ ?_)
    rw [show aw 2 b 0=0 from hz];exact List.mem_cons_self
   ·have e1:fD (k+1) b l=fD k (aC 2 b 0) (l++ [aw 2 b 0]):=by
     simp only [fD,decide_eq_true he,decide_eq_false hz,decide_eq_false h16,Bool.not_false,Bool.and_self,cond_true]
    have e2:cX (k+1) (b,a,0,l)=cX k (aC 2 b 0,bN 2 b 0 a,0,l++ [aw 2 b 0]):=by
     show cX k (aC (2:Int) b 0,bN 2 b 0 a,ar 2 b 0,l++ [aw 2 b 0])=_
     rw [he]
    rw [e1,e2]
    rcases J2 k (aC 2 b 0) (bN 2 b 0 a) (l++ [aw 2 b 0]) (by rw [length_append,length_cons,length_nil];omega) with ⟨b',l',g1,g2,g3,g4,g5⟩ | g
    ·refine .inl ⟨b',l',g1,g2,g3,g4,λhn=>g5 λhm=> ?_⟩
     rcases mem_append.1 hm with hm | hm
     ·exact hn hm
     ·exact hz (mem_singleton.1 hm).symm
    ·exact .inr g
  ·refine .inr ⟨by simp only [fD,decide_eq_false he,Bool.false_and,cond_false],.inl ?_⟩
   simp only [cX]
   exact FR k _ he
theorem FS (l:List Int):has0 (iV l)=decide (0∈l):=by
 induction l with
 |nil=>rfl
 |cons a l ih=>
  have e:has0 (iV (a::l))=(decide (a=0) || has0 (iV l)):=rfl
  rw [e,ih]
  by_cases ha:a=0
  ·subst ha;simp
  ·have:¬(0:Int)=a:=λh=>ha h.symm
   simp [ha,this]
theorem DO:∃inf:TypeInfo,prog.info? 3=some inf∧inf.size=1∧inf.bytes+1≤1000∧inf.zero=some (.int .i64 0):=
 ⟨(prog.info? 3).getD default,by kernel_rfl,by kernel_rfl,le_of_ble_eq_true (by kernel_rfl),by kernel_rfl⟩
theorem DP {ro:Nat}{T T1:VT}{s x:Operand}{l:List (Nat × TV)}{es es2:List (List TV)}{k n:Nat}{bn:Bool}(hs:cE T 1 (aL ah l s)=some (es,k,n,bn,T1))(hx:gf 1 (aL ah l x)=some es2)(hb:es.length+es2.length≤64000001):
    br prog ah ro T (.call ⟨.builtin .append,#[s,x],#[59,59]⟩) l (.vec 1 (es++es2) (.tail k (n+es2.length))) {T1 with tails:=T1.tails.set k (n+es2.length,1,bn)}:=by
  obtain ⟨inf,i1,i2,i3,i4⟩:=DO
  have h:=fb (inf:=inf) (P:=prog) (G:=ah) (ro:=ro) (T:=T) (T1:=T1) (t:=59) (tx:=59) (s:=s) (x:=x) (l:=l) (es:=es) (es2:=es2) (k:=k) (n:=n) (bn:=bn) Tryz.underlying59 i1 i4 (by rw [i2];rfl) (by rw [i2];decide) (by kernel_rfl) (by rw [i2];exact hs) (by rw [i2];exact hx)
    (by have h1:=i3
        have h2:=mul_le_mul hb h1
        omega)
  rw [i2] at h
  exact h
theorem wC {x i:Operand}{l:List (Nat × TV)}{b:Bs}{tok:Tok}{k:IntKind}{z:Int}{e:List TV}(hx:aL ah l x=.vec 1 b tok)(hz:aL ah l i=.val (.int k z))(h0:0≤z)(he:b[z.toNat]?=some e):
  ba prog ah (.indexAddr 59 x i) l (.elt e):=by
 obtain ⟨inf,i1,i2,_,_⟩:=DO
 exact dZ (inf:=inf) Tryz.underlying59 i1 (by rw [i2];exact hx) hz h0 he
def vR (l:List Int)(v:Int):Int:=match l.findIdx? (λz=>decide (v=z)) with
 |some k=>k
 |none=>-1
theorem T4 (l:List Int)(hl:l.length≤1000)(v:Int):VCx prog ah 0 yb [.vec 1 (iV l) .none,.val (.int .i64 v)] ⟨[],[]⟩ λx T'=>x=.val (.int .i64 (vR l v))∧T'=⟨[],[]⟩:=by
 have hloop:dD prog ah (W6 (iV l) v (vR l v) (vR l v) (l.findIdx? (λz=>decide (v=z))).isSome (aA prog yb 0)):=bL λp hp=>by
  obtain rfl:=mem_singleton.1 hp
  refine ce λK hK=> ?_
  let Post:Exit→List TV→VT→Prop:=λe vs T=>(∃k:Nat,l.findIdx? (λz=>decide (v=z))=some k∧e=.ret∧vs=A4 (iV l) v k k∧T=⟨[],[]⟩)∨(l.findIdx? (λz=>decide (v=z))=none∧e=.normal∧vs=A4 (iV l) v 0 l.length∧T=⟨[],[]⟩)
  refine dW (f:=yb) (id:=0) (by kernel_rfl) 19 FQ (λj:Nat=>l.length-j) (λj=>A4 (iV l) v 0 j) (λ_=>⟨[],[]⟩) (λj=>j≤l.length∧∀k z,k<j→l[k]?=some z→v≠z) 0 0 (λ_ _=>⟨le_refl _,le_refl _⟩)
   Post (λj hj=> ?_) 0 ⟨zero_le _,λk _ hk=>absurd hk (not_lt_zero k)⟩ K (λe vs T hq=> ?_)
  ·obtain ⟨hj,hne⟩:=hj
   by_cases hlt:j<l.length
   ·have hs:l[j]?=some l[j]:=getElem?_eq_getElem hlt
    generalize hzz:l[j]=z at hs
    have hw:=Bu j (by omega)
    refine cg ag ac am ai (J0 (iV l) v 0 z j _) ?_
    refine aU (decide_eq_true (by rw [iM];omega)) ⟨wC rfl rfl (Int.natCast_nonneg _) (by rw [Int.toNat_natCast];simp only [iV,List.getElem?_map,hs];rfl),?_⟩
    by_cases he:v=z
    ·refine aU (by rw [tT];exact decide_eq_true he) ⟨rfl,rfl,.inl ⟨j,?_,rfl,rfl,rfl⟩⟩
     refine List.findIdx?_eq_some_iff_getElem.2 ⟨hlt,by rw [hzz];exact decide_eq_true he,λk hk=> ?_⟩
     have:=hne k _ hk (getElem?_eq_getElem (by omega))
     simpa using this
    ·refine aO (by rw [tT];exact decide_eq_false he) ⟨rfl,rfl,j+1,⟨hlt,λk z' hk hz'=> ?_⟩,by simp only;omega,.inr ⟨rfl,?_⟩⟩
     ·rcases Nat.lt_or_ge k j with h | h
      ·exact hne k z' h hz'
      ·obtain rfl:k=j:=by omega
       rw [hs] at hz';injection hz' with hz';subst hz';exact he
     ·rw [hw]
      simp only [aB,TV.ren,eP,Tok.ren,A4]
   ·obtain rfl:j=l.length:=by omega
    refine cg ag ac am ai (J0 (iV l) v 0 0 l.length _) ?_
    refine aO (decide_eq_false (by rw [iM];omega)) ⟨rfl,rfl,.inr ⟨?_,rfl,rfl,rfl⟩⟩
    refine List.findIdx?_eq_none_iff.2 λz hz=> ?_
    obtain ⟨k,hk,rfl⟩:=List.getElem_of_mem hz
    simpa using hne k _ hk (getElem?_eq_getElem hk)
  ·rcases hq with ⟨k,h1,rfl,rfl,rfl⟩ | ⟨h1,rfl,rfl,rfl⟩
   ·simp only [h1,isSome_some,cond_true,vR] at hK
    exact hK
   ·simp only [h1,isSome_none,cond_false,iM] at hK
    exact hK
 refine aj ag ac am hloop (Wo (iV l) v (vR l v) (vR l v) _ _) ⟨rfl,⟨rfl,rfl,rfl,trivial,rfl,rfl,rfl⟩,?_⟩
 unfold vR
 cases h:l.findIdx? (λz=>decide (v=z)) with
 |none=>exact aO rfl ⟨rfl,rfl⟩
 |some k=>exact aU rfl ⟨rfl,rfl⟩
theorem Ws (l:List Int):decide (vR l 0≥0)=decide (0∈l):=by
 unfold vR
 cases h:l.findIdx? (λz=>decide (0=z)) with
 |none=>
  have h1:=List.findIdx?_eq_none_iff.1 h
  have h2:¬(0:Int)∈l:=λhm=>by simpa using h1 0 hm
  simp [h2]
 |some k=>
  obtain ⟨hk,h1,_⟩:=List.findIdx?_eq_some_iff_getElem.1 h
  have h2:(0:Int)∈l:=by
   have e:(0:Int)=l[k]:=of_decide_eq_true h1
   rw [e];exact List.getElem_mem hk
  have h3:((k:Nat):Int)≥0:=by omega
  rw [decide_eq_true h2];exact decide_eq_true h3
theorem T5 (l:List Int)(hl:l.length≤1000):VCx prog ah 0 JZ [.vec 1 (iV l) .none,.val (.int .i64 0)] ⟨[],[]⟩ λx T'=>x=.val (.bool (has0 (iV l)))∧T'=⟨[],[]⟩:=by
 refine aj ag ac (aQ λp hp=>by
  obtain rfl:=mem_singleton.1 hp
  exact Js aP (by simp [aB,TV.ren,eP,Tok.ren]) (λ_ _=>rfl) (T4 l hl 0)) ai (Wp (iV l) 0 (vR l 0) _) ⟨rfl,?_,rfl⟩
 rw [FS,Ws]
theorem T6:∀ro ys T K,OA ro ys T K→VCx prog ah ro JZ ys T K:=by
 intro ro ys T K hw
 unfold OA at hw
 split at hw
 ·rename_i L tok
  obtain ⟨⟨l,rfl,hl⟩,hk⟩:=hw
  exact VCx.loosePure aP (T5 l hl) (by simp [cA]) (by simp [aB,TV.ren,eP,Tok.ren]) (λf h=>rfl) hk
 ·exact hw.elim
--bumped 32
abbrev qE:=Bs × Int × Int × List Int
theorem J3 (s0:qE)(h0:IsB s0.1)(n:Nat)(hn:s0.2.2.2.length+n≤1000)(K:KX)
  (hK:K .normal (aJ 55 wB (A5 (iV (cX n s0).2.2.2) n n)) ⟨[aN (cX n s0).1 (cX n s0).2.1 (cX n s0).2.2.1],[((iV (cX n s0).2.2.2).length,1,true)]⟩ []):
  VWx prog ah none 0 (aA prog kA 2) (aJ 55 wB (A5 (iV s0.2.2.2) n 0)) ⟨[aN s0.1 s0.2.1 s0.2.2.1],[((iV s0.2.2.2).length,1,true)]⟩ [] K:=by
 let sl:Nat × qE→List TV:=λs=>A5 (iV s.2.2.2.2) n s.1
 let TT:Nat × qE→VT:=λs=>⟨[aN s.2.1 s.2.2.1 s.2.2.2.1],[((iV s.2.2.2.2).length,1,true)]⟩
 let Post:Exit→List TV→VT→Prop:=λe vs T=>e=.normal∧vs=A5 (iV (cX n s0).2.2.2) n n∧T=⟨[aN (cX n s0).1 (cX n s0).2.1 (cX n s0).2.2.1],[((iV (cX n s0).2.2.2).length,1,true)]⟩
 refine dW (f:=kA) (id:=2) (by kernel_rfl) 55 wB (λs:Nat × qE=>n-s.1) sl TT (λs=>s.1≤n∧IsB s.2.1∧s.2.2.2.2.length=s0.2.2.2.length+s.1∧cX (n-s.1) s.2=cX n s0) 1 1 (λ_ _=>⟨le_refl _,le_refl _⟩)
  Post (λs hs=> ?_) (0,s0) ⟨zero_le _,h0,rfl,rfl⟩ K (λe vs T ⟨h1,h2,h3⟩=>by subst h1 h2 h3;exact hK)
 obtain ⟨j,b,a,e,l⟩:=s
 obtain ⟨hj,hb,hlen,hgo⟩:=hs
 simp only at hj hb hlen hgo
 have hS:bk prog ah (aI [(ne,mi .i64 2)]):=aQ λp hp=>by obtain rfl:=mem_singleton.1 hp;exact va
 refine cg ag ac hS ai (TX b (iV l) a e n j _) ?_
 by_cases hlt:j<n
 ·have hw:=Bu j (by omega)
  refine aU (decide_eq_true (by omega)) ⟨⟨rfl,hb⟩,?_,rfl,rfl,(j+1,aC 2 b e,bN 2 b e a,ar 2 b e,l++ [aw 2 b e]),⟨hlt,aH hb,by simp only [length_append,length_cons,length_nil];omega,?_⟩,by simp only;omega,.inr ⟨?_,?_⟩⟩
  ·have h:=DP (ro:=0) (T:=⟨[aN (aC 2 b e) (bN 2 b e a) (ar 2 b e)],[((iV l).length,1,true)]⟩) (T1:=⟨[aN (aC 2 b e) (bN 2 b e a) (ar 2 b e)],[((iV l).length,1,true)]⟩) (s:=.tmp 38) (x:=.tmp 41) (l:= [(38,.vec 1 (iV l) (.tail 0 (iV l).length)),(41,.vec 1 [iT (aw 2 b e)] .full)]) (es:=iV l) (es2:= [iT (aw 2 b e)]) (k:=0) (n:=(iV l).length) (bn:=true)
    (by simp [aL,dT,cE]) rfl (by rw [iM];simp only [length_cons,length_nil];omega)
   exact h
  ·rw [←hgo,show n-j=(n-(j+1))+1 by omega];rfl
  ·refine (show VT.keep ⟨aN (aC 2 b e) (bN 2 b e a) (ar 2 b e)::_,_⟩ 1 1=_ from ?_)
   simp only [VT.keep,take_succ_cons,take_zero,map_cons,map_nil,bW (aH hb)]
   simp only [TT,rl,length_append,length_cons,length_nil]
  ·have e2:=eP (ax 1) (ax 1) (l++ [aw 2 b e])
   rw [rl] at e2
   have e3:bm (ax 1) (ax 1) (iV l++ [iT (aw ((2:Nat)) b e)])=iV l++ [iT (aw 2 b e)]:=e2
   rw [hw]
   simp only [aB,TV.ren,e3,Tok.ren]
   simp only [sl,A5,rl,length_append,length_cons,length_nil]
   rfl
 ·obtain rfl:j=n:=by omega
  rw [Nat.sub_self] at hgo
  refine aO (decide_eq_false (by omega)) ⟨rfl,rfl,rfl,?_,?_⟩
  ·rw [←hgo];rfl
  ·rw [←hgo];rfl
def PInv (b0 b:Bs)(e:Int)(l:List Int):Prop:=l.length≤16∧((e=0∧¬0∈l∧iG (b.length+1) b l=lW b0)∨((¬e=0∨0∈l)∧lW b0=none))
def DQ (b0:Bs)(L:Bs)(ez:Int):Prop:=∃l:List Int,L=iV l∧l.length≤16∧((ez=0∧¬0∈l∧lW b0=some l)∨((¬ez=0∨0∈l)∧lW b0=none))
def J4 (b0:Bs)(ex:Exit)(vs:List TV)(T:VT):Prop:=
 (∃(L bz:Bs) (az ez:Int),(IsB bz∧DQ b0 L ez)∧ex=.normal∧vs=nO L∧T=⟨[aN bz az ez],[(L.length,1,true)]⟩)∨
 (∃(rest:List VO) (tlz:List (Nat × Nat × Bool)) (Lz:Bs),lW b0=none∧ex=.ret∧vs=nO Lz∧T=⟨rest,tlz⟩)
theorem J5 {b0:Bs}{K:KX}(hK:TU (DQ b0) (lW b0=none) K){ex:Exit}{vs:List TV}{T:VT}(h:J4 b0 ex vs T):K ex (aJ 55 nN vs) T []:=by
 rcases h with ⟨L,bz,az,ez,h1,rfl,rfl,rfl⟩ | ⟨rest,tlz,Lz,h1,rfl,rfl,rfl⟩
 ·exact hK.1 L bz az ez h1
 ·exact hK.2 rest tlz Lz h1
theorem PInv.ret {b0 b:Bs}{l:List Int}(h:PInv b0 b 0 l)(hn:iG (b.length+1) b l=none):lW b0=none:=by
 rcases h.2 with ⟨_,_,h3⟩ | ⟨_,h3⟩
 ·rw [←h3];exact hn
 ·exact h3
theorem PInv.step {b0 b:Bs}{l:List Int}(h:PInv b0 b 0 l)(hl:bo b 0>0)(hh:jm b=true)(h16:l.length+(cZ b).toNat≤16)(a:Int):PInv b0 (cX (cZ b).toNat (kC b,a,0,l)).1 (cX (cZ b).toNat (kC b,a,0,l)).2.2.1 (cX (cZ b).toNat (kC b,a,0,l)).2.2.2:=by
 have hln:∀(k:Nat) (s:qE),(cX k s).2.2.2.length=s.2.2.2.length+k:=by
  intro k
  induction k with
  |zero=>intro s;rfl
  |succ k ih=>
   rintro ⟨b,a,e,l⟩
   simp only [cX]
   rw [ih]
   simp only [length_append,length_cons,length_nil];omega
 refine ⟨by rw [hln];exact h16,?_⟩
 rcases h.2 with ⟨_,h2,h3⟩ | ⟨h2,h3⟩
 ·rcases J2 (cZ b).toNat (kC b) a l h16 with ⟨b',l',g1,g2,g3,g4,g5⟩ | ⟨g1,g2⟩
  ·refine .inl ⟨g3,by rw [g4];exact g5 h2,?_⟩
   rw [g2,g4,←A8 hl hh g1];exact h3
  ·exact .inr ⟨g2,by rw [←h3];exact qf hl g1⟩
 ·refine .inr ⟨.inr ?_,h3⟩
  rcases h2 with h2 | h2
  ·exact absurd rfl h2
  ·exact sw _ _ h2
theorem DR (s0:qE)(h0:IsB s0.1)(n:Int)(h1:0≤n)(hn:s0.2.2.2.length+n.toNat≤1000):dD prog ah (TS s0.1 (cX n.toNat s0).1 (iV s0.2.2.2) (iV (cX n.toNat s0).2.2.2) s0.2.1 s0.2.2.1 (cX n.toNat s0).2.1 (cX n.toNat s0).2.2.1 n (aA prog kA 2)):=bL λp hp=>by
 obtain rfl:=mem_singleton.1 hp
 refine ce λK hK=> ?_
 have h:=J3 s0 h0 n.toNat hn K
 rw [show ((n.toNat:Nat):Int)=n by omega] at h
 exact h hK
theorem OD {b:Bs}(hb:IsB b)(a e:Int)(k:Nat):VT.keep ⟨[aN b a e],[(k,1,true)]⟩ 1 1=⟨[aN b a e],[(k,1,true)]⟩:=by
 simp only [VT.keep,take_succ_cons,take_zero,map_cons,map_nil,bW hb]
theorem Xa {l:List Int}{n:Int}(hwr:wrap .i64 ((l.length:Int)+n)=(l.length:Int)+n)(h:decide (wrap .i64 (((iV l).length:Int)+n)>16)=true):(l.length:Int)+n>16:=by
 rw [iM,hwr] at h;exact of_decide_eq_true h
theorem Xb {l:List Int}{n:Int}(hwr:wrap .i64 ((l.length:Int)+n)=(l.length:Int)+n)(h:decide (wrap .i64 (((iV l).length:Int)+n)>16)=false):¬(l.length:Int)+n>16:=by
 rw [iM,hwr] at h;exact of_decide_eq_false h
theorem Nf {b0:Bs}(h0:IsB b0)(K:KX)(hK:TU (DQ b0) (lW b0=none) K):VWx prog ah none 0 (aA prog kA 0) (aJ 55 nN (nO [])) ⟨[aN b0 0 0],[(0,1,true)]⟩ [] K:=by
 let sl:qE→List TV:=λs=>nO (iV s.2.2.2)
 let TT:qE→VT:=λs=>⟨[aN s.1 s.2.1 s.2.2.1],[((iV s.2.2.2).length,1,true)]⟩
 refine dW (f:=kA) (id:=0) (by kernel_rfl) 55 nN (λs:qE=>s.1.length) sl TT (λs=>IsB s.1∧PInv b0 s.1 s.2.2.1 s.2.2.2) 1 1 (λ_ _=>⟨le_refl _,le_refl _⟩)
  (J4 b0) (λs hs=> ?_) (b0,0,0,[]) ⟨h0,⟨zero_le _,.inl ⟨rfl,by simp,rfl⟩⟩⟩ K (λe vs T h=>J5 hK h)
 obtain ⟨b,a,e,l⟩:=s
 obtain ⟨hb,hI⟩:=hs
 simp only at hb hI
 have hS:bk prog ah (aI [(kT,nJ),(jb,mi .i64 1)]):=aQ λp hp=>by
  rcases mem_cons.1 hp with rfl | hp;exact oY
  obtain rfl:=mem_singleton.1 hp;exact ra
 by_cases hl:bo b e>0
 ·obtain ⟨rfl,_⟩:=Dp hl
  let S0:qE:=(kC b,bN 1 (aC 1 b 0) (ar 1 b 0) (bN 1 b 0 a),A6 b,l)
  have hnb:0≤cZ b∧cZ b<256:=rf (aH hb) _
  have hnb2:0≤aw 1 (aC 1 b 0) (ar 1 b 0)∧aw 1 (aC 1 b 0) (ar 1 b 0)<256:=hnb
  have hl16:=hI.1
  have hwr:wrap .i64 ((l.length:Int)+cZ b)=(l.length:Int)+cZ b:=bE (by omega) (by omega)
  refine cg ag ac hS (DR S0 (DK hb) (cZ b) hnb.1 (show l.length+(cZ b).toNat≤1000 by omega)) (J1 b (kC b) (cX (cZ b).toNat S0).1 (iV l) (iV (cX (cZ b).toNat S0).2.2.2) a 0 (bN 1 (aC 1 b 0) (ar 1 b 0) (bN 1 b 0 a)) (A6 b) (cX (cZ b).toNat S0).2.1 (cX (cZ b).toNat S0).2.2.1 (cZ b) _) ?_
  refine ⟨⟨rfl,hb⟩,?_⟩
  refine aU (decide_eq_true hl) ⟨⟨rfl,hb⟩,⟨rfl,aH hb⟩,?_⟩
  refine ak (λc1=> ?_) (λc1=> ?_)
  ·refine ak (λc1b=> ?_) (λc1b=> ?_)
   ·have hH:jm b=false:=by
     unfold jm kB
     rw [decide_eq_false (show ¬aw 1 b 0=1 from bX c1),decide_eq_false (show ¬aw 1 b 0=2 from bX c1b)];rfl
    exact ⟨rfl,rfl,.inr ⟨_,_,iV l,hI.ret (mO hl hH),rfl,rfl,rfl⟩⟩
   ·have hC:(decide (kB b=1) || decide (kB b=2))=true:=by rw [decide_eq_true (show kB b=2 from bZ c1b),Bool.or_true]
    refine ak (λc2=> ?_) (λc2=> ?_)
    ·have hH:jm b=false:=by unfold jm cZ;rw [decide_eq_true (show aw 1 (aC 1 b 0) (ar 1 b 0)=0 from bM c2)];simp
     exact ⟨rfl,rfl,.inr ⟨_,_,iV l,hI.ret (mO hl hH),rfl,rfl,rfl⟩⟩
    have d2:¬cZ b=0:=bB c2
    refine ak (λc3=> ?_) (λc3=> ?_)
    ·have d3:(l.length:Int)+cZ b>16:=Xa hwr c3
     exact ⟨rfl,rfl,.inr ⟨_,_,iV l,hI.ret (qf hl (DL hI.1 (by omega))),rfl,rfl,rfl⟩⟩
    have d3:¬(l.length:Int)+cZ b>16:=Xb hwr c3
    have h16:l.length+(cZ b).toNat≤16:=by omega
    have hE:A6 b=0:=DJ d2
    have hH:jm b=true:=by unfold jm;rw [decide_eq_false d2,hC];rfl
    have hst:=hI.step hl hH h16 (bN 1 (aC 1 b 0) (ar 1 b 0) (bN 1 b 0 a))
    have hps:cX (cZ b).toNat (kC b,bN 1 (aC 1 b 0) (ar 1 b 0) (bN 1 b 0 a),0,l)=cX (cZ b).toNat S0:=by
     show cX (cZ b).toNat (kC b,bN 1 (aC 1 b 0) (ar 1 b 0) (bN 1 b 0 a),0,l)=cX (cZ b).toNat (kC b,bN 1 (aC 1 b 0) (ar 1 b 0) (bN 1 b 0 a),A6 b,l)
     rw [hE]
    rw [hps] at hst
    obtain ⟨i1,i2,_⟩:=DN (cZ b).toNat S0 (DK hb)
    have hlt:=t8 hl
    refine ⟨rfl,⟨rfl,rfl,rfl,trivial,rfl,rfl,rfl⟩,rfl,rfl,cX (cZ b).toNat S0,⟨i1,hst⟩,Nat.lt_of_le_of_lt i2 hlt,.inr ⟨?_,?_⟩⟩
    ·exact OD i1 _ _ _
    ·have e2:=eP (ax 1) (ax 1) (cX (cZ b).toNat S0).2.2.2
     simp only [aB,TV.ren,e2,Tok.ren]
     rfl
  ·have hC:(decide (kB b=1) || decide (kB b=2))=true:=by rw [decide_eq_true (show kB b=1 from bZ c1),Bool.true_or]
   refine ak (λc2=> ?_) (λc2=> ?_)
   ·have hH:jm b=false:=by unfold jm cZ;rw [decide_eq_true (show aw 1 (aC 1 b 0) (ar 1 b 0)=0 from bM c2)];simp
    exact ⟨rfl,rfl,.inr ⟨_,_,iV l,hI.ret (mO hl hH),rfl,rfl,rfl⟩⟩
   have d2:¬cZ b=0:=bB c2
   refine ak (λc3=> ?_) (λc3=> ?_)
   ·have d3:(l.length:Int)+cZ b>16:=Xa hwr c3
    exact ⟨rfl,rfl,.inr ⟨_,_,iV l,hI.ret (qf hl (DL hI.1 (by omega))),rfl,rfl,rfl⟩⟩
   have d3:¬(l.length:Int)+cZ b>16:=Xb hwr c3
   have h16:l.length+(cZ b).toNat≤16:=by omega
   have hE:A6 b=0:=DJ d2
   have hH:jm b=true:=by unfold jm;rw [decide_eq_false d2,hC];rfl
   have hst:=hI.step hl hH h16 (bN 1 (aC 1 b 0) (ar 1 b 0) (bN 1 b 0 a))
   have hps:cX (cZ b).toNat (kC b,bN 1 (aC 1 b 0) (ar 1 b 0) (bN 1 b 0 a),0,l)=cX (cZ b).toNat S0:=by
    show cX (cZ b).toNat (kC b,bN 1 (aC 1 b 0) (ar 1 b 0) (bN 1 b 0 a),0,l)=cX (cZ b).toNat (kC b,bN 1 (aC 1 b 0) (ar 1 b 0) (bN 1 b 0 a),A6 b,l)
    rw [hE]
   rw [hps] at hst
   obtain ⟨i1,i2,_⟩:=DN (cZ b).toNat S0 (DK hb)
   have hlt:=t8 hl
   refine ⟨rfl,⟨rfl,rfl,rfl,trivial,rfl,rfl,rfl⟩,rfl,rfl,cX (cZ b).toNat S0,⟨i1,hst⟩,Nat.lt_of_le_of_lt i2 hlt,.inr ⟨?_,?_⟩⟩
   ·exact OD i1 _ _ _
   ·have e2:=eP (ax 1) (ax 1) (cX (cZ b).toNat S0).2.2.2
    simp only [aB,TV.ren,e2,Tok.ren]
    rfl
 ·refine cg ag ac hS (DR (b,a,e,l) hb 0 (Int.le_refl _) (show l.length+0≤1000 by have:=hI.1;omega)) (J1 b b b (iV l) (iV l) a e a e a e 0 _) ?_
  refine ⟨⟨rfl,hb⟩,aO (decide_eq_false hl) ⟨rfl,rfl,.inl ⟨iV l,b,a,e,⟨hb,l,rfl,hI.1,?_⟩,rfl,rfl,rfl⟩⟩⟩
  rcases hI.2 with ⟨rfl,h2,h3⟩ | h
  ·exact .inl ⟨rfl,h2,by rw [←h3];exact DM hl⟩
  ·exact .inr h
theorem QT {b:Bs}(h:IsB b):dD prog ah (W8 b (DQ b) (lW b=none) (aA prog kA 0)):=bL λp hp=>by
 obtain rfl:=mem_singleton.1 hp
 exact ce λK hK=>Nf h K hK
theorem yg {b:Bs}(h:lW b=none):TVle (.tup [.val (.slice none 0 0),.val (.bool false)]) (vQ b):=by
 unfold vQ lr sV
 rw [h]
 exact .tup ⟨.nil 1,.refl _,trivial⟩
theorem FT {b:Bs}{l:List Int}(h:lW b=some l)(tok:Tok):TVle (.tup [.vec 1 (iV l) tok,.val (.bool true)]) (vQ b):=by
 unfold vQ lr sV
 rw [h]
 exact .tup ⟨.vec 1 _ _,.refl _,trivial⟩
theorem T7 {b:Bs}(hb:IsB b):VCx prog ah 0 kA [.vec 1 b .none] ⟨[],[]⟩ λx T'=>x=vQ b∧T'=⟨[],[]⟩:=by
 have hS:bk prog ah (aI [(kS,nr),(jD,mj),(JZ,OA)]):=aQ λp hp=>by
  rcases mem_cons.1 hp with rfl | hp;exact u9
  rcases mem_cons.1 hp with rfl | hp;exact rc
  obtain rfl:=mem_singleton.1 hp;exact T6
 refine VCx.toLe (Q:=λT'=>T'=⟨[],[]⟩) (VCx.keepQ 0 0 (le_refl _) (le_refl _) (aj ag ac hS (QT hb) (Wq b (DQ b) (lW b=none) _) ?_))
 refine ⟨hb,rfl,⟨rfl,rfl,rfl,⟨rfl,trivial⟩,rfl,rfl,rfl⟩,?_,λrest tlz Lz hN=>⟨yg hN,rfl⟩⟩
 rintro L bz az ez ⟨hbz,l,rfl,h16,hd⟩
 refine ⟨⟨rfl,hbz⟩,?_⟩
 refine ak (λc1=> ?_) (λc1=> ?_)
 ·have he:=bM c1
  refine ⟨⟨l,rfl,by omega⟩,?_⟩
  rw [FS]
  rcases hd with ⟨_,h2,h3⟩ | ⟨h2,h3⟩
  ·rw [decide_eq_false h2]
   refine ⟨?_,rfl⟩
   simp only [TV.ren,aB,eP]
   exact FT h3 _
  ·have h4:(0:Int)∈l:=by
    rcases h2 with h2 | h2
    ·exact absurd he h2
    ·exact h2
   rw [decide_eq_true h4]
   exact ⟨yg h3,rfl⟩
 ·have he:=bB c1
  rcases hd with ⟨h1,_,_⟩ | ⟨_,h3⟩
  ·exact absurd h1 he
  ·exact ⟨yg h3,rfl⟩
def sW (B:Bs):Nat→Int→Int
 | 0,m=>m
 |k+1,m=>sW B k (aX 2 B m 0)
def J6 (B:Bs)(m0:Int)(k0:Nat)(l0:List Int)(ex:Exit)(vs:List TV)(T:VT):Prop:=
 (∃b' l',fD k0 (aa B m0) l0=some (b',l')∧ex=.normal∧vs=yc (iV l') 0∧T=⟨[bf B (sW B k0 m0) 0],[((iV l').length,1,true)]⟩)∨
 (∃(rest:List VO) (tlz:List (Nat × Nat × Bool)) (Lz:Bs) (nz:Int),fD k0 (aa B m0) l0=none∧ex=.ret∧vs=yc Lz nz∧T=⟨rest,tlz⟩)
def FU (B:Bs)(m0:Int)(k0:Nat)(l0:List Int):List Int:=match fD k0 (aa B m0) l0 with
 |some p=>p.2
 |none=> []
def FV (B:Bs)(m0:Int)(k0:Nat)(l0:List Int):Bool:=(fD k0 (aa B m0) l0).isSome
theorem J7 {B:Bs}{m0:Int}{k0:Nat}{l0:List Int}{K:KX}(hK:H8 B (iV (FU B m0 k0 l0)) (sW B k0 m0) (FV B m0 k0 l0) K){ex:Exit}{vs:List TV}{T:VT}(h:J6 B m0 k0 l0 ex vs T):K ex (aJ 58 t7 vs) T []:=by
 unfold H8 FU FV at hK
 rcases h with ⟨b',l',h1,rfl,rfl,rfl⟩ | ⟨rest,tlz,Lz,nz,h1,rfl,rfl,rfl⟩
 ·simp only [h1,isSome_some,cond_true] at hK
  exact hK
 ·simp only [h1,isSome_none,cond_false] at hK
  exact hK rest tlz Lz nz
theorem J8 {B:Bs}(hB:IsB B){m0:Int}(hm0:bq B m0)(k0:Nat)(hk0:k0≤1000)(l0:List Int)(hl0:l0.length≤16)(K:KX)(hK:H8 B (iV (FU B m0 k0 l0)) (sW B k0 m0) (FV B m0 k0 l0) K):
  VWx prog ah none 0 (aA prog jc 2) (aJ 58 t7 (yc (iV l0) k0)) ⟨[bf B m0 0],[((iV l0).length,1,true)]⟩ [] K:=by
 let sl:Nat × Int × List Int→List TV:=λs=>yc (iV s.2.2) s.1
 let TT:Nat × Int × List Int→VT:=λs=>⟨[bf B s.2.1 0],[((iV s.2.2).length,1,true)]⟩
 refine dW (f:=jc) (id:=2) (by kernel_rfl) 58 t7 (λs:Nat × Int × List Int=>s.1) sl TT (λs=>s.1≤1000∧bq B s.2.1∧s.2.2.length≤16∧fD s.1 (aa B s.2.1) s.2.2=fD k0 (aa B m0) l0∧sW B s.1 s.2.1=sW B k0 m0) 1 1 (λ_ _=>⟨le_refl _,le_refl _⟩)
  (J6 B m0 k0 l0) (λs hs=> ?_) (k0,m0,l0) ⟨hk0,hm0,hl0,rfl,rfl⟩ K (λex vs T h=>J7 hK h)
 obtain ⟨k,m,l⟩:=s
 obtain ⟨hk,hm,hl,hgo,hqn⟩:=hs
 simp only at hk hm hl hgo hqn
 have hS:bk prog ah (aI [(lR,ml .i64 2)]):=aQ λp hp=>by obtain rfl:=mem_singleton.1 hp;exact vc
 refine cg ag ac hS ai (TY B (iV l) m k _) ?_
 cases k with
 |zero=>
  refine aO (decide_eq_false (by omega)) ⟨rfl,rfl,.inl ⟨aa B m,l,hgo.symm,rfl,rfl,?_⟩⟩
  rw [←hqn];rfl
 |succ k=>
  refine aU (decide_eq_true (by omega)) ⟨⟨rfl,hB,hm⟩,?_⟩
  have bad:(decide (ar 2 (aa B m) 0=0)&&(!decide (aw 2 (aa B m) 0=0)&& !decide (l.length=16)))=false→fD k0 (aa B m0) l0=none:=λh=>by
   rw [←hgo];simp only [fD,h,cond_false]
  refine ak (λc1=> ?_) (λc1=> ?_)
  ·exact ⟨rfl,rfl,.inr ⟨_,_,iV l,_,bad (by rw [decide_eq_false (show ¬ar 2 (aa B m) 0=0 from bX c1)];rfl),rfl,rfl,rfl⟩⟩
  have d1:ar 2 (aa B m) 0=0:=bZ c1
  refine ak (λc2=> ?_) (λc2=> ?_)
  ·exact ⟨rfl,rfl,.inr ⟨_,_,iV l,_,bad (by rw [decide_eq_true (show aw 2 (aa B m) 0=0 from bM c2),Bool.not_true,Bool.false_and,Bool.and_false]),rfl,rfl,rfl⟩⟩
  have d2:¬aw 2 (aa B m) 0=0:=bB c2
  refine ak (λc3=> ?_) (λc3=> ?_)
  ·have d3:=bM c3
   rw [iM] at d3
   exact ⟨rfl,rfl,.inr ⟨_,_,iV l,_,bad (by rw [decide_eq_true (show l.length=16 by omega),Bool.not_true,Bool.and_false,Bool.and_false]),rfl,rfl,rfl⟩⟩
  have d3:=bB c3
  rw [iM] at d3
  have hg:(decide (ar 2 (aa B m) 0=0)&&(!decide (aw 2 (aa B m) 0=0)&& !decide (l.length=16)))=true:=by
   rw [decide_eq_true d1,decide_eq_false d2,decide_eq_false (show ¬l.length=16 by omega)];rfl
  have hr:aa B (aX 2 B m 0)=aC 2 (aa B m) 0:=cm hm 2 0
  have hz:wrap .i64 (((k+1:Nat):Int)-1)=((k:Nat):Int):=by rw [bE (by omega) (by omega)];omega
  refine ⟨?_,rfl,rfl,(k,aX 2 B m 0,l++ [aw 2 (aa B m) 0]),⟨by omega,bF hm 2 0,by rw [length_append,length_cons,length_nil];omega,?_,hqn⟩,Nat.lt_succ_self _,.inr ⟨?_,?_⟩⟩
  ·have h:=DP (ro:=0) (T:=⟨[bf B (aX 2 B m 0) (ar 2 (aa B m) 0)],[((iV l).length,1,true)]⟩) (T1:=⟨[bf B (aX 2 B m 0) (ar 2 (aa B m) 0)],[((iV l).length,1,true)]⟩) (s:=.tmp 48) (x:=.tmp 50) (l:= [(48,.vec 1 (iV l) (.tail 0 (iV l).length)),(50,.vec 1 [iT (aw 2 (aa B m) 0)] .full)]) (es:=iV l) (es2:= [iT (aw 2 (aa B m) 0)]) (k:=0) (n:=(iV l).length) (bn:=true)
    (by simp [aL,dT,cE]) rfl (by rw [iM];simp only [length_cons,length_nil];omega)
   exact h
  ·simp only
   rw [←hgo,hr];simp only [fD,hg,cond_true]
  ·refine (show VT.keep ⟨bf B (aX 2 B m 0) (ar 2 (aa B m) 0)::_,_⟩ 1 1=_ from ?_)
   rw [d1]
   simp only [VT.keep,take_succ_cons,take_zero,map_cons,map_nil,cl hB]
   simp only [TT,rl,length_append,length_cons,length_nil]
  ·have e2:=eP (ax 1) (ax 1) (l++ [aw 2 (aa B m) 0])
   rw [rl] at e2
   have e3:bm (ax 1) (ax 1) (iV l++ [iT (aw ((2:Nat)) (aa B m) 0)])=iV l++ [iT (aw 2 (aa B m) 0)]:=e2
   rw [hz]
   simp only [aB,TV.ren,e3,Tok.ren]
   simp only [sl,yc,rl,length_append,length_cons,length_nil]
   rfl
theorem Ng {B:Bs}(hB:IsB B){m:Int}(hm:bq B m){k:Int}(hk0:0≤k)(hk:k≤1000)(l:List Int)(hl:l.length≤16):dD prog ah (TW B (iV l) (iV (FU B m k.toNat l)) m (sW B k.toNat m) k (FV B m k.toNat l) (aA prog jc 2)):=bL λp hp=>by
 obtain rfl:=mem_singleton.1 hp
 refine ce λK hK=> ?_
 have h:=J8 hB hm k.toNat (by omega) l hl K hK
 rw [show ((k.toNat:Nat):Int)=k by omega] at h
 exact h
theorem FW {B:Bs}:∀(k:Nat) (m:Int) (l:List Int) (b':Bs) (l':List Int),bq B m→fD k (aa B m) l=some (b',l')→aa B (sW B k m)=b'∧bq B (sW B k m)
 | 0,m,l,b',l',hm,h=>by
  simp only [fD,Option.some.injEq,Prod.mk.injEq] at h
  exact ⟨h.1,hm⟩
 |k+1,m,l,b',l',hm,h=>by
  unfold fD at h
  have hr:aa B (aX 2 B m 0)=aC 2 (aa B m) 0:=cm hm 2 0
  cases hc:(decide (ar 2 (aa B m) 0=0)&&(!decide (aw 2 (aa B m) 0=0)&& !decide (l.length=16)))<;>rw [hc] at h
  ·cases h
  ·rw [cond_true,←hr] at h
   exact FW k _ _ _ _ (bF hm 2 0) h
def J9 (B:Bs)(ex:Exit)(vs:List TV)(T:VT):Prop:=
 (∃(l:List Int) (nz:Int),lW B=some l∧ex=.normal∧vs=nO (iV l)∧T=⟨[bf B nz 0],[((iV l).length,1,true)]⟩)∨
 (∃(rest:List VO) (tlz:List (Nat × Nat × Bool)) (Lz:Bs),lW B=none∧ex=.ret∧vs=nO Lz∧T=⟨rest,tlz⟩)
theorem Ka {B:Bs}{K:KX}(hK:OB B (iV (sV B)) (lr B) K){ex:Exit}{vs:List TV}{T:VT}(h:J9 B ex vs T):K ex (aJ 58 nN vs) T []:=by
 unfold OB sV lr at hK
 rcases h with ⟨l,nz,h1,rfl,rfl,rfl⟩ | ⟨rest,tlz,Lz,h1,rfl,rfl,rfl⟩
 ·simp only [h1,isSome_some,cond_true,getD_some] at hK
  exact hK nz
 ·simp only [h1,isSome_none,cond_false] at hK
  exact hK rest tlz Lz
theorem Nh {B:Bs}(hB:IsB B)(K:KX)(hK:OB B (iV (sV B)) (lr B) K):VWx prog ah none 0 (aA prog jc 0) (aJ 58 nN (nO [])) ⟨[bf B 0 0],[(0,1,true)]⟩ [] K:=by
 let sl:Int × List Int→List TV:=λs=>nO (iV s.2)
 let TT:Int × List Int→VT:=λs=>⟨[bf B s.1 0],[((iV s.2).length,1,true)]⟩
 refine dW (f:=jc) (id:=0) (by kernel_rfl) 58 nN (λs:Int × List Int=>(aa B s.1).length) sl TT (λs=>bq B s.1∧s.2.length≤16∧iG ((aa B s.1).length+1) (aa B s.1) s.2=lW B) 1 1 (λ_ _=>⟨le_refl _,le_refl _⟩)
  (J9 B) (λs hs=> ?_) (0,[]) ⟨Dv hB,zero_le _,rfl⟩ K (λex vs T h=>Ka hK h)
 obtain ⟨m,l⟩:=s
 obtain ⟨hm,hl16,hgo⟩:=hs
 simp only at hm hl16 hgo
 have hrem:=dy hB m
 have hS:bk prog ah (aI [(j6,ns),(iE,ml .i64 1)]):=aQ λp hp=>by
  rcases mem_cons.1 hp with rfl | hp;exact o7
  obtain rfl:=mem_singleton.1 hp;exact re
 have i1:=bF hm 1 0
 have r1:aa B (aX 1 B m 0)=aC 1 (aa B m) 0:=cm hm 1 0
 have i2:=bF i1 1 (ar 1 (aa B m) 0)
 have r2:aa B (aX 1 B (aX 1 B m 0) (ar 1 (aa B m) 0))=kC (aa B m):=by rw [cm i1 1,r1];rfl
 have hnb:0≤cZ (aa B m)∧cZ (aa B m)<256:=rf (aH hrem) _
 have hLI:=Ng hB i2 hnb.1 (by omega) l hl16
 refine cg ag ac hS hLI (TZ B (iV l) (iV (FU B (aX 1 B (aX 1 B m 0) (ar 1 (aa B m) 0)) (cZ (aa B m)).toNat l)) m (aX 1 B (aX 1 B m 0) (ar 1 (aa B m) 0)) (sW B (cZ (aa B m)).toNat (aX 1 B (aX 1 B m 0) (ar 1 (aa B m) 0))) (cZ (aa B m)) (FV B (aX 1 B (aX 1 B m 0) (ar 1 (aa B m) 0)) (cZ (aa B m)).toNat l) _) ?_
 refine ⟨⟨rfl,hB,hm⟩,?_⟩
 by_cases hl:bo (aa B m) 0>0
 ·refine aU (decide_eq_true hl) ⟨⟨rfl,hB,hm⟩,⟨rfl,hB,i1⟩,?_⟩
  refine ak (λc1=> ?_) (λc1=> ?_)
  ·have d1:kB (aa B m)<1:=of_decide_eq_true c1
   have hH:jm (aa B m)=false:=by unfold jm;rw [decide_eq_false (show ¬kB (aa B m)=1 by omega),decide_eq_false (show ¬kB (aa B m)=2 by omega)];rfl
   exact ⟨rfl,rfl,.inr ⟨_,_,iV l,by rw [←hgo];exact mO hl hH,rfl,rfl,rfl⟩⟩
  have d1:¬kB (aa B m)<1:=of_decide_eq_false c1
  refine ak (λc2=> ?_) (λc2=> ?_)
  ·have d2:kB (aa B m)>2:=of_decide_eq_true c2
   have hH:jm (aa B m)=false:=by unfold jm;rw [decide_eq_false (show ¬kB (aa B m)=1 by omega),decide_eq_false (show ¬kB (aa B m)=2 by omega)];rfl
   exact ⟨rfl,rfl,.inr ⟨_,_,iV l,by rw [←hgo];exact mO hl hH,rfl,rfl,rfl⟩⟩
  have d2:¬kB (aa B m)>2:=of_decide_eq_false c2
  have hC:(decide (kB (aa B m)=1) || decide (kB (aa B m)=2))=true:=by
   rcases (show kB (aa B m)=1∨kB (aa B m)=2 by omega) with h | h
   ·rw [decide_eq_true h];rfl
   ·rw [decide_eq_true h,Bool.or_true]
  have hN:aw (1:Nat) (aa B (aX (1:Nat) B m 0)) (ar (1:Nat) (aa B m) 0)=cZ (aa B m):=congrArg (λy=>aw 1 y (ar 1 (aa B m) 0)) r1
  have hE:ar (1:Nat) (aa B (aX (1:Nat) B m 0)) (ar (1:Nat) (aa B m) 0)=A6 (aa B m):=congrArg (λy=>ar 1 y (ar 1 (aa B m) 0)) r1
  try delta yd ye
  rw [hN,hE]
  refine ak (λc3=> ?_) (λc3=> ?_)
  ·have hH:jm (aa B m)=false:=by unfold jm;rw [decide_eq_true (bM c3),Bool.not_true,Bool.and_false]
   exact ⟨rfl,rfl,.inr ⟨_,_,iV l,by rw [←hgo];exact mO hl hH,rfl,rfl,rfl⟩⟩
  have d3:¬cZ (aa B m)=0:=bB c3
  have hH:jm (aa B m)=true:=by unfold jm;rw [hC,decide_eq_false d3];rfl
  have hE0:A6 (aa B m)=0:=DJ d3
  rw [hE0]
  refine ⟨rfl,⟨rfl,rfl,rfl,trivial,rfl,rfl,rfl⟩,?_⟩
  unfold FV FU
  rw [r2]
  cases hi:fD (cZ (aa B m)).toNat (kC (aa B m)) l with
  |none=>
   exact λrest tlz Lz nz=>⟨rfl,rfl,.inr ⟨rest,tlz,Lz,by rw [←hgo];exact qf hl hi,rfl,rfl,rfl⟩⟩
  |some p=>
   obtain ⟨b',l'⟩:=p
   obtain ⟨g1,g2⟩:=FW _ _ _ b' l' i2 (by rw [r2];exact hi)
   have h16:=yf _ _ _ _ _ hl16 hi
   have hlt:=t8 hl
   have hle:=(rp _ _ _ _ _ hi).1
   refine ⟨rfl,rfl,(sW B (cZ (aa B m)).toNat (aX 1 B (aX 1 B m 0) (ar 1 (aa B m) 0)),l'),⟨g2,h16,by simp only [g1];rw [←hgo];exact (A8 hl hH hi).symm⟩,by simp only [g1];omega,.inr ⟨?_,?_⟩⟩
   ·refine (show VT.keep ⟨bf B (sW B (cZ (aa B m)).toNat (aX 1 B (aX 1 B m 0) (ar 1 (aa B m) 0))) 0::_,_⟩ 1 1=_ from ?_)
    simp only [VT.keep,take_succ_cons,take_zero,map_cons,map_nil,cl hB]
    rfl
   ·have e2:=eP (ax 1) (ax 1) l'
    simp only [aB,TV.ren,e2,Tok.ren]
    rfl
 ·exact aO (decide_eq_false hl) ⟨rfl,rfl,.inl ⟨l,m,by rw [←hgo];exact DM hl,rfl,rfl,rfl⟩⟩
theorem QU {b:Bs}(h:IsB b):dD prog ah (W9 b (iV (sV b)) (lr b) (aA prog jc 0)):=bL λp hp=>by
 obtain rfl:=mem_singleton.1 hp
 exact ce λK hK=>Nh h K hK
theorem T8 {b:Bs}(hb:IsB b):VCx prog ah 0 jc [.vec 1 b .none] ⟨[],[]⟩ λx T'=>x=vQ b∧T'=⟨[],[]⟩:=by
 refine VCx.toLe (Q:=λT'=>T'=⟨[],[]⟩) (VCx.keepQ 0 0 (le_refl _) (le_refl _) (aj ag ac (aQ λp hp=>by obtain rfl:=mem_singleton.1 hp;exact oA) (QU hb) (Wr b (iV (sV b)) (lr b) _) ?_))
 refine ⟨⟨hb,hb.small⟩,rfl,⟨rfl,rfl,rfl,⟨rfl,trivial⟩,rfl,rfl,rfl⟩,?_⟩
 unfold lr sV
 cases h:lW b with
 |none=>exact λrest tlz Lz=>⟨yg h,rfl⟩
 |some l=>
  refine λnz=>⟨?_,rfl⟩
  simp only [TV.ren,aB,getD_some,eP]
  exact FT h _
end Go.Proofs.YtogbdjlelkepcaaGreatDoor