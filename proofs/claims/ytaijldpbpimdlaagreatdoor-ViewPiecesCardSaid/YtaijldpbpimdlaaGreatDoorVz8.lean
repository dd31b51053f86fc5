/-Part 8 of the proof of viewPiecesCard_holds:WwH,WwI,WwR ... No condition. -/
import Derived.ProofKit
import Derived.OpenShut
import Derived.Lib.SmallJoins
import Derived.Lib.LaidTab
import Derived.LaidHandle
import Derived.ChangeVars
import Derived.JoinedOf
import Derived.Stop.Joined
import Derived.LaidMore
import Derived.Lay
import Derived.Test.YtaijldpbpimdlaaGreatDoorTie
import Derived.Test.YtaijldpbpimdlaaGreatDoorCards
import Derived.SevenTiedAt
import Derived.Test.YtaijldpbpimdlaaGreatDoorVz1
import Derived.Test.YtaijldpbpimdlaaGreatDoorVz2
import Derived.Test.YtaijldpbpimdlaaGreatDoorVz3
import Derived.Test.YtaijldpbpimdlaaGreatDoorVz4
import Derived.Test.YtaijldpbpimdlaaGreatDoorVz5
import Derived.Test.YtaijldpbpimdlaaGreatDoorVz6
import Derived.Test.YtaijldpbpimdlaaGreatDoorVz7
set_option maxRecDepth 100000
set_option maxRecDepth 100000
namespace Go.Proofs.YtaijldpbpimdlaaGreatDoor
open Go.RowKit
open Go.RowKit.Below (trod)
open Go.BinOp (eql neq)
open Go.DataW (trod_lt)
open _root_.Int (toNat_natCast)
open Go.IntKind (i64 u32 u8 wrap)
open Go.Lib (TabIs)
open _root_.List (append_assoc append_nil findIdx? getElem?_eq_getElem getElem?_map idxOf? length length_append length_cons length_drop length_map length_nil length_take map_append map_cons map_nil mem_cons mem_of_getElem? mem_singleton nil_append nodup_nil not_mem_nil take_add_one take_length take_of_length_le)
open _root_.Nat (beq le_refl zero_le)
open Go.OpenSpec (ofChange)
open _root_.Option (getD_some)
open Go.Proofs.Tryz (checked func4 params4 prog underlying22)
open Go.Proofs.YtaijldpbpimdlaaGreatDoor.Tryz (pinned)
section
open Go.RowKit Go.Maps Go.Sort
def xM:List MsgS→TV
 |[]=>.val (.slice none 0 0)
 |M::l=>.vec 15 ((M::l).map MsgS.cells) (.tail 0 (M::l).length)
def tM:List MsgS→bq
 |[]=> []
 |M::l=> [((M::l).length,15,true)]
theorem ue (A:List MsgS):(tM A).length≤1:=by cases A<;>simp [tM]
theorem HL {A:List MsgS}(h:gi A):yj (xM A) (tM A):=λn m hm=>by
 cases A with
 |nil=>rfl
 |cons M l=>
  have h0:ap m 0=some 0:=iQ (by simp only [tM,length_cons,length_nil] at hm;omega)
  simp only [xM,TV.ren,hU h,Tok.ren,h0]
theorem DS (A:List MsgS)(M:MsgS):xM (A++ [M])=.vec 15 ((A++ [M]).map MsgS.cells) (.tail 0 (A++ [M]).length):=by cases A<;>rfl
theorem Tm (A:List MsgS)(M:MsgS):tM (A++ [M])= [((A++ [M]).length,15,true)]:=by cases A<;>rfl
theorem Tn {G:aP}(objs:List VO)(A:List MsgS)(M:MsgS)(h:A.length≤60000000):bp prog G 0 ⟨objs,tM A⟩ (.call ⟨.builtin .append,#[.tmp 32,.tmp 34],#[25,25]⟩) [(32,xM A),(34,.vec 15 [M.cells] .full)] (.vec 15 ((A++ [M]).map MsgS.cells) (.tail 0 (A++ [M]).length)) ⟨objs,tM (A++ [M])⟩:=by
  obtain ⟨inf,z,i1,i2,i3,i4,i5⟩:=wo
  have h1:=fq (inf:=inf) (P:=prog) (G:=G) (ro:=0) (T:=⟨objs,tM A⟩) (T1:=⟨objs,[(A.length,15,true)]⟩) (t:=25) (tx:=25) (s:=.tmp 32) (x:=.tmp 34) (l:= [(32,xM A),(34,.vec 15 [M.cells] .full)]) (es:=A.map MsgS.cells) (es2:= [M.cells]) (k:=0) (n:=A.length) (bn:=true) Tryz.underlying25 i1 i4 (by rw [i2];exact i5) (by rw [i2];decide) (by kernel_rfl)
    (by rw [i2];cases A<;>simp [aA,eF,cR,xM,tM]) (by rw [i2];rfl)
    (by have h1:=i3
        have h2:=Nat.mul_le_mul (show (A.map MsgS.cells).length+ [M.cells].length≤64000001 by simp only [length_map,length_cons,length_nil];omega) h1
        omega)
  rw [i2] at h1
  rw [Tm,map_append,length_append]
  exact h1
theorem To {G:aP}{x i:Operand}{l:List (Nat × TV)}{L:List (List TV)}{tok:Tok}{k:IntKind}{z:Int}{a:List TV}(hx:aA G l x=.vec 15 L tok)(hz:aA G l i=.val (.int k z))(h0:0≤z)(he:L[z.toNat]?=some a):aS prog G (.indexAddr 25 x i) l (.elt a):=by
 obtain ⟨inf,z0,i1,i2,_⟩:=wo
 exact fp (inf:=inf) Tryz.underlying25 i1 (by rw [i2];exact hx) hz h0 he
section
variable {o:VO}{lk:bF}{es:bw}{ck:Nat}{x:TV}{d u:Int}{tl:bq}{W:List bA}{r1 r2 r3:VO}{A N:List MsgS}
theorem Tq (ho:∀f g,o.ren f g=o)(hx:yj x tl)(M:MsgS)(hb:BxOk r1 r2 r3 M.u)(hT:TbOk W lk es ck)(hn:W.length+M.u.n.length≤20000):∀ro ys T K,DP (λul T=>ul=M.u.cells∧T=cZ o lk es ck x d u [r1,r2,r3] tl) (λ_ _ _ lk' es' ck' _=>TbOk (j5 W M.u) lk' es' ck') ro ys T K→VCx prog aM ro Fs ys T K:=by
 intro ro ys T K h
 unfold DP at h
 split at h
 ·obtain ⟨⟨rfl,rfl,rfl⟩,hK⟩:=h
  refine VCx.anyG ((Tk ho hx hb hT hn tl.length (le_refl _)).mono ?_)
  rintro y T' ⟨rfl,d',u',lk',es',ck',h2,rfl⟩
  exact hK d' u' lk' es' ck' h2
 ·exact h.elim
theorem mJ {α:Type}{l:List α}{j:Nat}{a:α}(h:l[j]?=some a):l.take (j+1)=l.take j++ [a]:=by
 rw [take_add_one,h];rfl
theorem Tt {M:MsgS}(h:MsWf M)(f g:Nat→Option Nat):VO.ren f g (.cells M.cells)=.cells M.cells:=by
 simp only [VO.ren,h.ren f g]
theorem P3 (ho:∀f g,o.ren f g=o)(h1:∀f g,r1.ren f g=r1)(h2:∀f g,r2.ren f g=r2)(hA:gi (A++N))(hT:TbOk W lk es ck)(hn:W.length+oO N≤20000)(hl:A.length+N.length≤60000000):
  ∀K:KX,(∀(y:TV) (d' u':Int) (lk':bF) (es':bw) (ck':Nat) (tl':bq),(y=xM (A++N)∧tl'=tM (A++N)∧TbOk (kO W N) lk' es' ck')→K .normal (aI 44 rO (sf (N.map MsgS.cells) (N.map MsgS.cells).length)) (MB (cZ o lk es ck (xM A) d u [r1,r2] (tM A)) y d' u' lk' es' ck' tl') [])→VWx prog aM none 0 (aE prog mI 0) (aI 44 rO (sf (N.map MsgS.cells) 0)) (cZ o lk es ck (xM A) d u [r1,r2] (tM A)) [] K:=by
 intro K hK
 have hlen:(N.map MsgS.cells).length=N.length:=length_map _
 have hN:gi N:=λM hM=>hA M (List.mem_append_right _ hM)
 refine Eq.mp (congrArg (λB=>VWx prog aM none 0 (aE prog mI 0) (aI 44 rO (sf (N.map MsgS.cells) 0)) (cZ o lk es ck (xM B) d u [r1,r2] (tM B)) [] K) (append_nil A)) ?_
 refine dM (ι:=Nat × bF × bw × Nat × Int × Int) (f:=mI) (id:=0) (by kernel_rfl) 44 rO (λs=>N.length-s.1) (λs=>sf (N.map MsgS.cells) s.1) (λs=>cZ o s.2.1 s.2.2.1 s.2.2.2.1 (xM (A++N.take s.1)) s.2.2.2.2.1 s.2.2.2.2.2 [r1,r2] (tM (A++N.take s.1))) (λs=>s.1≤N.length∧TbOk (kO W (N.take s.1)) s.2.1 s.2.2.1 s.2.2.2.1) 5 1 (λs _=>⟨le_refl _,ue _⟩)
  (λe vs T=>e=.normal∧vs=sf (N.map MsgS.cells) (N.map MsgS.cells).length∧∃d' u' lk' es' ck',TbOk (kO W N) lk' es' ck'∧T=cZ o lk' es' ck' (xM (A++N)) d' u' [r1,r2] (tM (A++N))) (λs hs=> ?_) (0,lk,es,ck,d,u) ⟨zero_le _,hT⟩ K (λe vs T hq=> ?_)
 ·obtain ⟨j,lk,es,ck,d,u⟩:=s
  obtain ⟨hj,hT⟩:=hs
  simp only at hj hT
  by_cases hlt:j<N.length
  ·obtain ⟨M,hM⟩:∃M,N[j]?=some M:=⟨_,getElem?_eq_getElem hlt⟩
   have hMw:=hN M (mem_of_getElem? hM)
   have hM':(N.map MsgS.cells)[j]?=some M.cells:=by rw [getElem?_map,hM];rfl
   have et:=mJ hM
   have eA:A++N.take (j+1)=(A++N.take j)++ [M]:=by rw [et,append_assoc]
   have hAj:gi ((A++N.take j)++ [M]):=λm hm=>by
    rw [←eA] at hm
    rcases List.mem_append.1 hm with h | h
    ·exact hA m (List.mem_append_left _ h)
    ·exact hN m (List.mem_of_mem_take h)
   have hx:=HL hAj
   have hle:(A++N.take j).length≤60000000:=by rw [length_append,length_take];omega
   have hb:BxOk r1 r2 (.cells M.cells) M.u:=⟨h1,h2,Tt hMw,hMw.2.1⟩
   have hw:(kO W (N.take j)).length+M.u.n.length≤20000:=by
    have q1:=zu (N.take j) W
    have q2:=MD N (j+1)
    rw [et,zv] at q2
    simp only [oO,map_cons,map_nil,List.sum_cons,List.sum_nil] at q1 q2 hn
    omega
   have hC:bu prog aM (aT [(Fs,DP (λul T=>ul=M.u.cells∧T=cZ o lk es ck (xM ((A++N.take j)++ [M])) d u [r1,r2,.cells M.cells] (tM ((A++N.take j)++ [M]))) (λ_ _ _ lk' es' ck' _=>TbOk (j5 (kO W (N.take j)) M.u) lk' es' ck'))]):=aZ λq hq=>by
    obtain rfl:=mem_singleton.1 hq
    exact Tq ho hx M hb hT hw
   refine bU ac aa hC ag (Ka o lk es ck (xM (A++N.take j)) d u r1 r2 (tM (A++N.take j)) (N.map MsgS.cells) (((A++N.take j)++ [M]).map MsgS.cells) ((A++N.take j)++ [M]).length (tM ((A++N.take j)++ [M])) M j _ _ _) ?_
   refine bd (decide_eq_true (by rw [hlen];omega)) ⟨To rfl rfl (Int.natCast_nonneg _) (by rw [toNat_natCast];exact hM'),Tn _ (A++N.take j) M hle,⟨rfl,rfl,?_⟩,λd' u' lk' es' ck' h3=> ?_⟩
   ·rw [DS];rfl
   ·have e3:kO W (N.take (j+1))=j5 (kO W (N.take j)) M.u:=by rw [et,Fx];rfl
    rw [←e3] at h3
    refine ⟨rfl,rfl,(j+1,lk',es',ck',d',u'),⟨hlt,h3⟩,by simp only;omega,.inr ⟨?_,?_⟩⟩
    ·have hk:=mc (d:=d') (u:=u') ho hx h3 (l:= [r1,r2]) 5 1 (ue _) rfl (λv hv=>by
      simp only [mem_cons,not_mem_nil,or_false] at hv
      rcases hv with rfl | rfl
      ·exact h1 _ _
      ·exact h2 _ _) [.cells M.cells]
     show VT.keep _ 5 1=cZ o lk' es' ck' (xM (A++N.take (j+1))) d' u' [r1,r2] (tM (A++N.take (j+1)))
     rw [eA,DS]
     rw [DS] at hk
     exact hk
    ·rw [pB hlt (by omega)]
     simp only [sf,aw,TV.ren,hU hN,Tok.ren,iQ (show 2<5 by decide),iQ (show 3<5 by decide),iQ (show 4<5 by decide)]
  ·obtain rfl:j=N.length:=by omega
   rw [take_length] at hT
   refine bU ac aa (aZ (l:= [(Fs,DP (λ_ _=>False) (λ_ _ _ _ _ _ _=>True))]) λq hq=>by
    obtain rfl:=mem_singleton.1 hq
    intro ro ys T K h
    have h':DP (λ_ _=>False) (λ_ _ _ _ _ _ _=>True) ro ys T K:=h
    unfold DP at h'
    split at h'
    ·exact h'.1.2.elim
    ·exact h'.elim) ag (Ka o lk es ck (xM (A++N.take N.length)) d u r1 r2 (tM (A++N.take N.length)) (N.map MsgS.cells) [] 0 [] m0 N.length _ _ _) ?_
   refine bg (decide_eq_false (by rw [hlen];omega)) ⟨rfl,rfl,rfl,(show sf (N.map MsgS.cells) (N.length:Int)=sf (N.map MsgS.cells) ((N.map MsgS.cells).length:Int) by rw [hlen]),d,u,lk,es,ck,hT,?_⟩
   rw [take_length];rfl
 ·obtain ⟨rfl,rfl,d',u',lk',es',ck',h3,rfl⟩:=hq
  exact hK _ d' u' lk' es' ck' _ ⟨rfl,rfl,h3⟩
end
def nc (w:Bs):List bA:=kO [] (bN w 0)
def Kg (w:Bs)(lk:bF)(es:bw)(ck:Nat)(d u:Int):VT:=cZ (de 0 w) lk es ck (xM (bN w 0)) d u [] (tM (bN w 0))
theorem Tu {w b:Bs}(hw:IsB (w++b))(hn:oO (bN (w++b) 0)≤20000){lk:bF}{es:bw}{ck:Nat}{d u:Int}(hT:TbOk (nc w) lk es ck)(tok:Tok):VCx prog aM 0 mI [.ptr 2 0,.vec 1 b tok] (Kg w lk es ck d u) λy T'=>y=x8 (w++b) 0∧∃d' u' lk' es' ck',TbOk (nc (w++b)) lk' es' ck'∧T'=Kg (w++b) lk' es' ck' d' u':=by
 have hw1:=lY hw
 have hLw:=zn (w:=w) (b:=b) (pas:=0)
 have hAll:gi (bN w 0++eU w b 0):=by rw [←hLw];exact ji hw
 have hC:bu prog aM (aT [(vA,No (de 0 (w++b)) ((eU w b 0).map MsgS.cells) (r9 (w++b) 0) (jI (w++b) 0) (iq (w++b) 0))]):=aZ λq hq=>by
  obtain rfl:=mem_singleton.1 hq
  exact SB _ _ _ _ _
 have hlen:=PT (pas:=0) hw
 have hsm:=hw.small
 have hn2:(nc w).length+oO (eU w b 0)≤20000:=by
  have q1:=zu (bN w 0) []
  rw [hLw,zv] at hn
  simp only [length_nil] at q1
  show (kO [] (bN w 0)).length+_≤_
  omega
 let r1:VO:=.cells [.val (.int .i64 0),.val (.int .i64 0),.val (.slice none 0 0)]
 let r2:VO:=.cells [.val (.int .i64 (r9 (w++b) 0)),.val (.int .i64 (jI (w++b) 0)),.vec 1 (iq (w++b) 0) .none]
 have hd:=tK (pas:=0) hw
 have hL:dy prog aM (bX [(0,VD ((eU w b 0).map MsgS.cells) (λT=>T=cZ (de 0 (w++b)) lk es ck (xM (bN w 0)) d u [r1,r2] (tM (bN w 0))) (λy _ _ lk' es' ck' tl'=>y=xM (bN w 0++eU w b 0)∧tl'=tM (bN w 0++eU w b 0)∧TbOk (kO (nc w) (eU w b 0)) lk' es' ck'),aE prog mI 0)]):=bO λq hq=>by
  obtain rfl:=mem_singleton.1 hq
  rintro rd ro σ T D K ⟨⟨rfl,rfl,rfl,hn',hpk,rfl⟩,hK⟩
  exact cd (ad:= []) (R:=λK=>∀(y:TV) (d' u':Int) (lk':bF) (es':bw) (ck':Nat) (tl':bq),(y=xM (bN w 0++eU w b 0)∧tl'=tM (bN w 0++eU w b 0)∧TbOk (kO (nc w) (eU w b 0)) lk' es' ck')→K .normal (aI 44 rO (sf ((eU w b 0).map MsgS.cells) ((eU w b 0).map MsgS.cells).length)) (MB (cZ (de 0 (w++b)) lk es ck (xM (bN w 0)) d u [r1,r2] (tM (bN w 0))) y d' u' lk' es' ck' tl') []) (λK hK=>P3 (jE hw) (λ_ _=>rfl) (λf g=>by simp only [r2,VO.ren,aw,TV.ren,hd.ren,Tok.ren]) hAll hT hn2 (by rw [←length_append,←hLw];omega) K hK) none 0 σ _ [] K ⟨⟨rfl,rfl,rfl,trivial,rfl,hn',hpk⟩,hK⟩
 refine VCx.keepQ 3 1 (le_refl _) (ue _) (aj ac aa hC hL (UT (de 0 w) (de 0 (w++b)) lk es ck (xM (bN w 0)) d u (tM (bN w 0)) b ((eU w b 0).map MsgS.cells) tok (r9 (w++b) 0) (jI (w++b) 0) (iq (w++b) 0) _ _ _) ?_)
 refine ⟨⟨0,w,zero_le _,rfl,hw,rfl,rfl,rfl,rfl,rfl⟩,rfl,⟨rfl,rfl,rfl,rfl,rfl,rfl⟩,λy d' u' lk' es' ck' tl' h3=> ?_⟩
 obtain ⟨rfl,rfl,h3⟩:=h3
 have e1:kO (nc w) (eU w b 0)=nc (w++b):=by unfold nc;rw [hLw,Fx]
 rw [e1] at h3
 refine ⟨uU hw _ _,d',u',lk',es',ck',h3,?_⟩
 rw [←hLw]
 have hx:=HL (A:=bN (w++b) 0) (ji hw)
 exact mc (jE hw) hx h3 (l:= []) 3 1 (ue _) rfl (λv hv=>by cases hv) [r1,r2]
end
set_option maxRecDepth 100000
section
open Go.RowKit Go.Maps Go.Sort
theorem mK {α:Type}{l:List α}{i:Nat}{a:α}(h:l[i]?=some a):l.set i a=l:=List.ext_getElem? λj=>by
 rw [List.getElem?_set]
 split
 ·rename_i e;subst e
  obtain ⟨hlt,_⟩:=List.getElem?_eq_some_iff.1 h
  rw [if_pos hlt,h]
 ·rfl
theorem VCx.toLeX {α:Type}{P:Program}{G:aP}{f:FuncId}{xs:List TV}{T:VT}{Pr:α→Prop}{fx:α→TV}{Q:VT→Prop}(h:VCx P G 0 f xs T λx T'=>∃l,Pr l∧TVle x (fx l)∧Q T'):VCx P G 0 f xs T λx T'=>∃l,Pr l∧x=fx l∧Q T':=by
 intro g w us r hG hx
 refine Calls.mono (h g w us r hG hx) ?_
 rintro e w' ⟨v,x,g',T',he,⟨l,hl,hq,hQ⟩,e',r',hv,hfx⟩
 exact ⟨v,_,g',T',he,⟨l,hl,rfl,hQ⟩,e',r',hq _ _ _ hv,hfx⟩
theorem Tv:∀ro ys T K,Nv ro ys T K→VCx prog ae ro J2 ys T K:=by
 intro ro ys T K hw
 unfold Nv at hw
 split at hw
 ·rename_i f b
  split at hw
  ·rename_i m hb
   split at hw
   ·rename_i sh lk es ck hm
    obtain ⟨⟨⟨hr1,hr2⟩,⟨hf,rfl⟩,h⟩,hk⟩:=hw
    have hf':f=gm:=Nat.eq_of_beq_eq_true hf
    subst hf'
    have h:MkOk lk es ck:=h
    have hne:m≠b:=λe=>by subst e;rw [hm] at hb;cases hb
    have i0:aL [m,b] m=some 0:=by simp [aL,idxOf?,findIdx?,findIdx?.go]
    have i1:aL [m,b] b=some 1:=by simp [aL,idxOf?,findIdx?,findIdx?.go,hne]
    have hg:T.give [m,b] []=⟨[.map kP lk es ck,.cells [.map 0]],[]⟩:=by
     simp only [VT.give,map_cons,map_nil,hm,hb,getD_some,h.ren]
     simp only [VO.ren,aw,TV.ren,i0]
    refine (VCx.lift (xs:= [.fn (.func gm) [] [.ptr 1 0]]) [m,b] [] aV (by simp [hne]) nodup_nil (λk hk=> ?_) (by simp) (λi hi=> ?_) ?_ (by rw [hg];exact VCx.toLeX (Pr:=λl:List Px=>l.Perm (sa es)) (fx:=λl=>.vec 2 (l.map aK) .none) (Q:=λT'=>T'=⟨[.map kP lk es ck,.cells [.map 0]],[]⟩) (S5 h)) (λx T' hq=> ?_)).mono ?_
    ·simp only [mem_cons,not_mem_nil,or_false] at hk
     rcases hk with rfl | rfl
     ·exact ⟨_,hm,rfl⟩
     ·exact ⟨_,hb,rfl⟩
    ·simp only [mem_cons,not_mem_nil,or_false] at hi
     rcases hi with rfl | rfl
     ·exact Nat.le_of_ble_eq_true hr2
     ·exact Nat.le_of_ble_eq_true hr1
    ·simp only [aw,TV.ren,i1]
    ·obtain ⟨l,_,_,rfl⟩:=hq
     exact ⟨le_refl _,zero_le _⟩
    ·rintro x T' ⟨y,T2,⟨l,hl,rfl,rfl⟩,rfl,rfl⟩
     have o0:aJ T.objs.length [m,b] 0=some m:=rfl
     have hbk:T.back [m,b] [] ⟨[.map kP lk es ck,.cells [.map 0]],[]⟩=T:=by
      simp only [VT.back,map_cons,map_nil,h.ren]
      simp only [VO.ren,aw,TV.ren,o0,bJ,append_nil,mK hm,mK hb]
     rw [hbk]
     simp only [TV.ren,eS,Tok.ren]
     exact hk _ ⟨l,rfl,hl⟩
   ·exact hw.elim
  ·exact hw.elim
 ·exact hw.elim
theorem Tw:∀ro ys T K,Nw ro ys T K→VCx prog ae ro S6 ys T K:=by
 intro ro ys T K hw
 unfold Nw at hw
 split at hw
 ·obtain ⟨⟨l,rfl,hl⟩,hk⟩:=hw
  unfold AK at hk
  rw [yk] at hk
  exact VCx.loosePure aV (PZ l hl) (by simp [ea]) (by simp only [aw,TV.ren,eS,Tok.ren]) (λf g=>by simp only [TV.ren,eS,Tok.ren]) hk
 ·exact hw.elim
theorem Kh {W:List bA}{lk:bF}{es:bw}{ck:Nat}(h:TbOk W lk es ck){l:List Px}(hl:l.Perm (sa es)):cO (gt l)=W.map (·.1):=by
 have hp:l.Perm (W.map (·.1)):=hl.trans h.esP
 refine yd (Dz (DB l)) ?_ λx=> ?_
 ·exact List.pairwise_map.2 h.srt
 ·rw [JZ]
  have h1:(gt l).Perm l:=List.mergeSort_perm _ _
  rw [h1.mem_iff,hp.mem_iff]
theorem Fy (r:bA)(f g:Nat→Option Nat):aw f g (bf r)=bf r:=by
 obtain ⟨⟨a,n⟩,at'⟩:=r
 simp only [bf,aK,AtV.cells,List.cons_append,nil_append,aw,TV.ren,dW,Tok.ren]
theorem dB (f g:Nat→Option Nat):∀l:List bA,br f g (l.map bf)=l.map bf
 |[]=>rfl
 |r::l=>by simp only [map_cons,br,Fy,dB f g l]
def xR (k:Nat):List bA→TV
 |[]=>.val (.slice none 0 0)
 |r::l=>.vec 7 ((r::l).map bf) (.tail k (r::l).length)
def tR (tl:bq):List bA→bq
 |[]=>tl
 |r::l=>tl++ [((r::l).length,7,true)]
theorem yl (k:Nat)(R:List bA)(r:bA):xR k (R++ [r])=.vec 7 ((R++ [r]).map bf) (.tail k (R++ [r]).length):=by cases R<;>rfl
theorem DT (tl:bq)(R:List bA)(r:bA):tR tl (R++ [r])=tl++ [((R++ [r]).length,7,true)]:=by cases R<;>rfl
theorem Ki:∃(inf:TypeInfo) (z:Value),prog.info? 102=some inf∧inf.size=7∧inf.bytes+1≤1000∧inf.zero=some z∧z.cells.size=7:=
 ⟨(prog.info? 102).getD default,((prog.info? 102).getD default).zero.getD default,by kernel_rfl,by kernel_rfl,Nat.le_of_ble_eq_true (by kernel_rfl),by kernel_rfl,by kernel_rfl⟩
theorem Tx (objs:List VO)(A:List MsgS)(R:List bA)(r:bA)(h:R.length≤1000000):bp prog ae 0 ⟨objs,tR (tM A) R⟩ (.call ⟨.builtin .append,#[.tmp 21,.tmp 30],#[42,42]⟩) [(21,xR (tM A).length R),(30,.vec 7 [bf r] .full)] (.vec 7 ((R++ [r]).map bf) (.tail (tM A).length (R++ [r]).length)) ⟨objs,tR (tM A) (R++ [r])⟩:=by
  obtain ⟨inf,z,i1,i2,i3,i4,i5⟩:=Ki
  have h1:=fq (inf:=inf) (P:=prog) (G:=ae) (ro:=0) (T:=⟨objs,tR (tM A) R⟩) (T1:=⟨objs,tM A++ [(R.length,7,true)]⟩) (t:=42) (tx:=42) (s:=.tmp 21) (x:=.tmp 30) (l:= [(21,xR (tM A).length R),(30,.vec 7 [bf r] .full)]) (es:=R.map bf) (es2:= [bf r]) (k:=(tM A).length) (n:=R.length) (bn:=true) Tryz.underlying42 i1 i4 (by rw [i2];exact i5) (by rw [i2];decide) (by kernel_rfl)
    (by rw [i2];cases A<;>cases R<;>simp [aA,eF,cR,xR,tR,tM]) (by rw [i2];rfl)
    (by have h1:=i3
        have h2:=Nat.mul_le_mul (show (R.map bf).length+ [bf r].length≤1000001 by simp only [length_map,length_cons,length_nil];omega) h1
        omega)
  rw [i2] at h1
  rw [DT,map_append,length_append]
  have e:(tM A++ [(R.length,7,true)]).set (tM A).length (R.length+ [bf r].length,7,true)=tM A++ [(R.length+ [r].length,7,true)]:=by
    cases A<;>rfl
  rw [e] at h1
  exact h1
def VK:Value:=.agg #[.int .i64 0,.slice none 0 0,.int .u32 0,.int .i64 0,.bool false]
theorem P4 {T:VT}{lk:bF}{es:bw}{ck id:Nat}{p:Px}(hid:T.objs[id]?=some (.map kP lk es ck))(ok:Bool):fA prog T 96 (.map id) (.agg (aK p)) ok=some (jw ok (lk (dA p)) VK):=by
 have h:∀o:Option VO,o=some (.map kP lk es ck)→(match prog.underlying 96,cL (.agg (aK p)) with
   |some (.map kt et),some kv=>match dq prog kt,prog.info? et with
    |some sh,some i=>match i.zero with
     |some zz=>bif sh.fits kv then (match o with
       |some (.map sh' look _ _)=>bif j6 sh sh' then some (jw ok (look kv) zz) else none
       |_=>none) else none
     |none=>none
    |_,_=>none
   |_,_=>none)=some (jw ok (lk (dA p)) VK):=by
  rintro _ rfl
  kernel_rfl
 exact h _ hid
theorem ME {G:aP}{T:VT}{t:TypeId}{m k:Operand}{ok:Bool}{l:List (Nat × TV)}{y:TV}(h:fA prog T t (aA G l m) (aA G l k) ok=some y):mh prog G T false (.lookup t m k ok) l y:=by
 refine ⟨?_⟩
 have h1:aW prog (.lookup t m k ok) (aA G l)=none:=by simp [aW,cN]
 simp only [qj,h1,cond_false,aY,h]
def mL (W:List bA):List Px:=W.map λr=>r.1
section
variable {o:VO}{lk:bF}{es:bw}{ck:Nat}{d u:Int}{W:List bA}{A:List MsgS}
set_option maxHeartbeats 4000000 in
theorem Ty (ho:∀f g,o.ren f g=o)(hA:gi A)(hT:TbOk W lk es ck):VCx prog ae 0 qJ [.ptr 2 0] (cZ o lk es ck (xM A) d u [] (tM A)) λy T'=>y=.vec 7 (W.map bf) .none∧T'=cZ o lk es ck (xM A) d u [] (tM A):=by
 have hC:bu prog ae (aT [(J2,Nv),(S6,Nw)]):=aZ λq hq=>by
  simp only [mem_cons,not_mem_nil,or_false] at hq
  rcases hq with rfl | rfl
  ·exact Tv
  ·exact Tw
 have hx:=HL hA
 let Tr:List bA→VT:=λR=>cZ o lk es ck (xM A) d u [.cells [.map 1]] (tR (tM A) R)
 have hkeep:∀R l2,VT.keep (cZ o lk es ck (xM A) d u ([.cells [.map 1]]++l2) (tR (tM A) R)) 4 ((tM A).length+1)=Tr R:=λR l2=>by
  have hx2:yj (xM A) (tR (tM A) R):=λn m hm=>hx n m (by cases R<;>simp only [tR,length_append] at hm<;>omega)
  exact mc ho hx2 hT (l:= [.cells [.map 1]]) 4 ((tM A).length+1) (by cases R<;>simp [tR]) rfl (λv hv=>by rw [mem_singleton.1 hv];rfl) l2
 have hxr:∀R,(xR (tM A).length R).ren (ap 4) (ap ((tM A).length+1))=xR (tM A).length R:=λR=>by
  cases R with
  |nil=>rfl
  |cons r R=>simp only [xR,TV.ren,dB,Tok.ren,iQ (show (tM A).length<(tM A).length+1 by omega)]
 have hL:dy prog ae (bX [(0,Nx [] (λP T=>P=(mL W).map aK∧T=Tr []) (λ_ x _ T'=>x=xR (tM A).length W∧T'.tails=tR (tM A) W),aE prog qJ 0)]):=bO λq hq=>by
  obtain rfl:=mem_singleton.1 hq
  intro rd ro σ T D K h
  have h':Nx [] (λP T=>P=(mL W).map aK∧T=Tr []) (λ_ x _ T'=>x=xR (tM A).length W∧T'.tails=tR (tM A) W) rd ro σ T D K:=h
  clear h
  unfold Nx at h'
  split at h'
  ·rename_i t3 P n j he
   obtain ⟨⟨rfl,rfl,rfl,hn,rfl,rfl,rfl,rfl,rfl⟩,hK⟩:=h'
   refine cd (ad:= []) (R:=λK=>∀(x:TV) (tl:bq),(x=xR (tM A).length W∧tl=tR (tM A) W)→K .normal (aI 34 zr (vG x ((mL W).map aK) ((mL W).map aK).length)) {Tr [] with tails:=tl} []) (λK hK=> ?_) none 0 σ _ [] K ⟨⟨rfl,rfl,rfl,trivial,rfl,hn,he⟩,hK⟩
   have hlen:((mL W).map aK).length=W.length:=by rw [length_map];exact length_map _
   have hfew:=hT.few
   refine dM (ι:=Nat) (f:=qJ) (id:=0) (by kernel_rfl) 34 zr (λj=>W.length-j) (λj=>vG (xR (tM A).length (W.take j)) ((mL W).map aK) j) (λj=>Tr (W.take j)) (λj=>j≤W.length) 4 ((tM A).length+1) (λj _=>⟨le_refl _,by show (tR (tM A) (W.take j)).length≤_;cases W.take j<;>simp [tR]⟩)
    (λe vs T=>e=.normal∧vs=vG (xR (tM A).length W) ((mL W).map aK) ((mL W).map aK).length∧T=Tr W) (λj hj=> ?_) 0 (zero_le _) K (λe vs T hq=> ?_)
   ·by_cases hlt:j<W.length
    ·obtain ⟨r,hr⟩:∃r,W[j]?=some r:=⟨_,getElem?_eq_getElem hlt⟩
     have hp':((mL W).map aK)[j]?=some (aK r.1):=by unfold mL;rw [getElem?_map,getElem?_map,hr];rfl
     have hrm:(r.1,r.2)∈W:=mem_of_getElem? hr
     have hlk:lk (dA r.1)=some (ma r.2):=by rw [hT.look,rN hT.srt hrm];rfl
     have et:=mJ hr
     have hle:(W.take j).length≤1000000:=by rw [length_take];omega
     have ren:∀j':Int,aw (ap 4) (ap ((tM A).length+1)) (vG (xR (tM A).length (W.take (j+1))) ((mL W).map aK) j')=vG (xR (tM A).length (W.take (j+1))) ((mL W).map aK) j':=λj'=>by
      simp only [vG,aw,hxr,TV.ren,eS,Tok.ren,iQ (show 2<4 by decide)]
     refine bU ac aa ai ag (Kb o lk es ck (xM A) d u (.cells [.map 1]) (tR (tM A) (W.take j)) ((mL W).map aK) (xR (tM A).length (W.take j)) j r.1 r.2 ((W.take j++ [r]).map bf) (tM A).length (W.take j++ [r]).length (tR (tM A) (W.take j++ [r])) _) ?_
     refine bd (decide_eq_true (by rw [hlen];omega)) ⟨DR rfl rfl (Int.natCast_nonneg _) (by rw [toNat_natCast];exact hp'),ME ((P4 (lk:=lk) (es:=es) (ck:=ck) (p:=r.1) rfl false).trans (by rw [hlk];rfl)),Tx _ A (W.take j) r hle,?_⟩
     refine ⟨rfl,rfl,j+1,hlt,by simp only;omega,.inr ⟨?_,?_⟩⟩
     ·have hk:=hkeep (W.take j++ [r]) [.cells (aK r.1)]
      show _=Tr (W.take (j+1))
      rw [et]
      exact hk
     ·have e1:=pB hlt (by omega)
      have e2:=ren ((j+1:Nat):Int)
      rw [et,yl] at e2
      rw [e1]
      show _=vG (xR (tM A).length (W.take (j+1))) ((mL W).map aK) ((j+1:Nat):Int)
      rw [et,yl]
      exact e2
    ·have hjl:j=W.length:=by omega
     refine bU ac aa ai ag (Kb o lk es ck (xM A) d u (.cells [.map 1]) (tR (tM A) (W.take j)) ((mL W).map aK) (xR (tM A).length (W.take j)) j (0,0) ⟨0,[],0,0,false⟩ [] 0 0 [] _) ?_
     refine bg (decide_eq_false (by rw [hlen];omega)) ⟨rfl,rfl,rfl,?_,?_⟩
     ·show vG (xR (tM A).length (W.take j)) ((mL W).map aK) (j:Int)=_
      rw [hjl,take_length,hlen]
     ·show Tr (W.take j)=_
      rw [hjl,take_length]
   ·obtain ⟨rfl,rfl,rfl⟩:=hq
    exact hK _ _ ⟨rfl,rfl⟩
  ·exact h'.elim
 refine VCx.toLe (Q:=λT'=>T'=cZ o lk es ck (xM A) d u [] (tM A)) (VCx.keepQ 3 (tM A).length (le_refl _) (le_refl _) (aj ac aa hC hL (UU o lk es ck (xM A) d u (tM A) _ _ _) ?_))
 refine ⟨⟨⟨rfl,rfl⟩,⟨rfl,rfl⟩,hT.mk_ok⟩,λP hP=> ?_⟩
 obtain ⟨l,rfl,hl⟩:=hP
 have hll:l.length≤20000:=by
  have h1:=hl.length_eq
  have h2:(sa es).length=es.length:=length_map _
  have h3:=hT.len
  have h4:=hT.few
  omega
 have eP:AK (l.map aK)=(mL W).map aK:=by unfold AK;rw [yk,Kh hT hl];rfl
 refine ⟨⟨l,rfl,hll⟩,rfl,⟨rfl,rfl,rfl,rfl,rfl,rfl,rfl,eP,rfl⟩,λy tl hw=> ?_⟩
 obtain ⟨rfl,hw⟩:=hw
 have hw':tl=tR (tM A) W:=hw
 subst hw'
 refine ⟨?_,?_⟩
 ·cases W with
  |nil=>exact .nil 7
  |cons r W=>
   simp only [xR,TV.ren,dB,Tok.ren]
   exact .vec 7 _ _
 ·have hx2:yj (xM A) (tM A):=hx
  have e1:VT.keep (cZ o lk es ck (xM A) d u [.cells [.map 1]] (tR (tM A) W)) 3 (tM A).length=VT.keep (cZ o lk es ck (xM A) d u ([]++ [.cells [.map 1]]) (tM A)) 3 (tM A).length:=by
   simp only [VT.keep,cZ]
   congr 1
   cases W with
   |nil=>rfl
   |cons r W=>
    simp only [tR]
    rw [List.take_left' rfl,take_length]
  exact e1.trans (mc ho hx2 hT (l:= []) 3 (tM A).length (le_refl _) rfl (λv hv=>by cases hv) [.cells [.map 1]])
end
end
section
abbrev AP:=40
def zw:List Nat:= [4,2,3,43,44]
def AQ (p:Bs)(j:Int):List TV:= [.val (.bool false),.ptr 0 0,.ptr 1 0,.val (.int .i64 p.length),.val (.int .i64 j)]
noncomputable def VL (a b:AtV)(ok:Bool)(c0:Code):Nat→Option (bW × Code):=bX [(0,gn 59 zw [] (AQ (iV a.p) 0) ⟨[.cells a.cells,.cells b.cells],[]⟩ (λK=>(@Eq Nat (iV a.p).length (iV b.p).length)∧∀z:Int,bif ok then K .normal (aI 59 zw (AQ (iV a.p) (iV a.p).length)) ⟨[.cells a.cells,.cells b.cells],[]⟩ [] else K .ret (aI 59 zw (AQ (iV a.p) z)) ⟨[.cells a.cells,.cells b.cells],[]⟩ []),c0)]
theorem U3 (a b:AtV)(ok:Bool)(Q:TV→VT→Prop):ax prog ae bo (bB [(999998,.dead,none)]) 300 (VL a b ok (aE prog AP 0)) 0 AP [.agg a.cells,.agg b.cells] ⟨[],[]⟩ Q=
 (bif av neq (aq (Value.int i64 (AtV.o a)) (Value.int i64 (AtV.o b)))
 then Q (.val (.bool false)) ⟨[(.cells [(.val (.int .i64 (AtV.o a))),(.vec 1 (iV (AtV.p a)) .none),(.val (.int .u32 (AtV.h a))),(.val (.int .i64 (AtV.m a))),(.val (.bool (AtV.hm a)))]),(.cells [(.val (.int .i64 (AtV.o b))),(.vec 1 (iV (AtV.p b)) .none),(.val (.int .u32 (AtV.h b))),(.val (.int .i64 (AtV.m b))),(.val (.bool (AtV.hm b)))])],[]⟩
 else (bif av neq (aq (Value.int u32 (AtV.h a)) (Value.int u32 (AtV.h b)))
 then Q (.val (.bool false)) ⟨[(.cells [(.val (.int .i64 (AtV.o a))),(.vec 1 (iV (AtV.p a)) .none),(.val (.int .u32 (AtV.h a))),(.val (.int .i64 (AtV.m a))),(.val (.bool (AtV.hm a)))]),(.cells [(.val (.int .i64 (AtV.o b))),(.vec 1 (iV (AtV.p b)) .none),(.val (.int .u32 (AtV.h b))),(.val (.int .i64 (AtV.m b))),(.val (.bool (AtV.hm b)))])],[]⟩
 else (bif av neq (aq (Value.int i64 (AtV.m a)) (Value.int i64 (AtV.m b)))
 then Q (.val (.bool false)) ⟨[(.cells [(.val (.int .i64 (AtV.o a))),(.vec 1 (iV (AtV.p a)) .none),(.val (.int .u32 (AtV.h a))),(.val (.int .i64 (AtV.m a))),(.val (.bool (AtV.hm a)))]),(.cells [(.val (.int .i64 (AtV.o b))),(.vec 1 (iV (AtV.p b)) .none),(.val (.int .u32 (AtV.h b))),(.val (.int .i64 (AtV.m b))),(.val (.bool (AtV.hm b)))])],[]⟩
 else (bif av neq (aq (Value.bool (AtV.hm a)) (Value.bool (AtV.hm b)))
 then Q (.val (.bool false)) ⟨[(.cells [(.val (.int .i64 (AtV.o a))),(.vec 1 (iV (AtV.p a)) .none),(.val (.int .u32 (AtV.h a))),(.val (.int .i64 (AtV.m a))),(.val (.bool (AtV.hm a)))]),(.cells [(.val (.int .i64 (AtV.o b))),(.vec 1 (iV (AtV.p b)) .none),(.val (.int .u32 (AtV.h b))),(.val (.int .i64 (AtV.m b))),(.val (.bool (AtV.hm b)))])],[]⟩
 else (bif av neq (aq (Value.int i64 (↑(length (iV (AtV.p a))):Int)) (Value.int i64 (↑(length (iV (AtV.p b))):Int)))
 then Q (.val (.bool false)) ⟨[(.cells [(.val (.int .i64 (AtV.o a))),(.vec 1 (iV (AtV.p a)) .none),(.val (.int .u32 (AtV.h a))),(.val (.int .i64 (AtV.m a))),(.val (.bool (AtV.hm a)))]),(.cells [(.val (.int .i64 (AtV.o b))),(.vec 1 (iV (AtV.p b)) .none),(.val (.int .u32 (AtV.h b))),(.val (.int .i64 (AtV.m b))),(.val (.bool (AtV.hm b)))])],[]⟩
 else ((aE prog AP (0:Nat)=aE prog AP (0:Nat))∧
 (((@Eq (Option Nat) .none .none)∧
 ((@Eq (Nat) 0 0)∧
 ((@Eq (List Nat) [] [])∧
 (True  ∧
 ((@Eq (VT) ⟨[(.cells [(.val (.int .i64 (AtV.o a))),(.vec 1 (iV (AtV.p a)) .none),(.val (.int .u32 (AtV.h a))),(.val (.int .i64 (AtV.m a))),(.val (.bool (AtV.hm a)))]),(.cells [(.val (.int .i64 (AtV.o b))),(.vec 1 (iV (AtV.p b)) .none),(.val (.int .u32 (AtV.h b))),(.val (.int .i64 (AtV.m b))),(.val (.bool (AtV.hm b)))])],[]⟩ ⟨[(.cells [(.val (.int .i64 (AtV.o a))),(.vec 1 (iV (AtV.p a)) .none),(.val (.int .u32 (AtV.h a))),(.val (.int .i64 (AtV.m a))),(.val (.bool (AtV.hm a)))]),(.cells [(.val (.int .i64 (AtV.o b))),(.vec 1 (iV (AtV.p b)) .none),(.val (.int .u32 (AtV.h b))),(.val (.int .i64 (AtV.m b))),(.val (.bool (AtV.hm b)))])],[]⟩)∧
 ((@Eq (Bool) true true)∧
 (@Eq (List TV) [(.val (.bool false)),(.ptr 0 0),(.ptr 1 0),(.val (.int .i64 ((↑(length (iV (AtV.p a))):Int)))),(.val (.int .i64 0))] [(.val (.bool false)),(.ptr 0 0),(.ptr 1 0),(.val (.int .i64 ((↑(length (iV (AtV.p a))):Int)))),(.val (.int .i64 0))])))))))∧
 ((@Eq (Nat) (length (iV (AtV.p a))) (length (iV (AtV.p b))))∧
 (∀z:Int,(bif ok
 then Q (.val (.bool true)) ⟨[(.cells [(.val (.int .i64 (AtV.o a))),(.vec 1 (iV (AtV.p a)) .none),(.val (.int .u32 (AtV.h a))),(.val (.int .i64 (AtV.m a))),(.val (.bool (AtV.hm a)))]),(.cells [(.val (.int .i64 (AtV.o b))),(.vec 1 (iV (AtV.p b)) .none),(.val (.int .u32 (AtV.h b))),(.val (.int .i64 (AtV.m b))),(.val (.bool (AtV.hm b)))])],[]⟩
 else Q (.val (.bool false)) ⟨[(.cells [(.val (.int .i64 (AtV.o a))),(.vec 1 (iV (AtV.p a)) .none),(.val (.int .u32 (AtV.h a))),(.val (.int .i64 (AtV.m a))),(.val (.bool (AtV.hm a)))]),(.cells [(.val (.int .i64 (AtV.o b))),(.vec 1 (iV (AtV.p b)) .none),(.val (.int .u32 (AtV.h b))),(.val (.int .i64 (AtV.m b))),(.val (.bool (AtV.hm b)))])],[]⟩)))))))))):=by kernel_rfl
theorem Kj (a b:AtV)(z y:Int)(j:Nat)(Q:Exit→List TV→VT→List Nat→Nat→Prop):vx prog ae bo (bB [(999998,.dead,none),(50,.elt [.val (.int .i64 z)],none),(55,.elt [.val (.int .i64 y)],none)]) 300 aU none 0 (cC prog AP 0) (aI 59 zw (AQ (iV a.p) j)) ⟨[.cells a.cells,.cells b.cells],[]⟩ [] (dw zw Q)=
 (bif decide ((↑j:Int)<(↑(length (iV (AtV.p a))):Int))
 then (aS prog (λ_=>.none) (.indexAddr 71 (.tmp 48) (.tmp 49)) [(48,(.vec 1 (iV (AtV.p a)) .none)),(49,(.val (.int .i64 ((↑j:Int)))))] (.elt [(.val (.int .i64 (z)))])∧
 (aS prog (λ_=>.none) (.indexAddr 71 (.tmp 53) (.tmp 54)) [(53,(.vec 1 (iV (AtV.p b)) .none)),(54,(.val (.int .i64 ((↑j:Int)))))] (.elt [(.val (.int .i64 (y)))])∧
 (bif av neq (aq (Value.int i64 z) (Value.int i64 y))
 then Q .ret [(.val (.bool false)),(.ptr 0 0),(.ptr 1 0),(.val (.int .i64 ((↑(length (iV (AtV.p a))):Int)))),(.val (.int .i64 ((↑j:Int))))] ⟨[(.cells [(.val (.int .i64 (AtV.o a))),(.vec 1 (iV (AtV.p a)) .none),(.val (.int .u32 (AtV.h a))),(.val (.int .i64 (AtV.m a))),(.val (.bool (AtV.hm a)))]),(.cells [(.val (.int .i64 (AtV.o b))),(.vec 1 (iV (AtV.p b)) .none),(.val (.int .u32 (AtV.h b))),(.val (.int .i64 (AtV.m b))),(.val (.bool (AtV.hm b)))])],[]⟩ [] 59
 else Q .normal [(.val (.bool false)),(.ptr 0 0),(.ptr 1 0),(.val (.int .i64 ((↑(length (iV (AtV.p a))):Int)))),(.val (.int .i64 (wrap i64 ((↑j:Int)+(1:Int)))))] ⟨[(.cells [(.val (.int .i64 (AtV.o a))),(.vec 1 (iV (AtV.p a)) .none),(.val (.int .u32 (AtV.h a))),(.val (.int .i64 (AtV.m a))),(.val (.bool (AtV.hm a)))]),(.cells [(.val (.int .i64 (AtV.o b))),(.vec 1 (iV (AtV.p b)) .none),(.val (.int .u32 (AtV.h b))),(.val (.int .i64 (AtV.m b))),(.val (.bool (AtV.hm b)))])],[]⟩ [] 59)))
 else Q (.exit 0) [(.val (.bool false)),(.ptr 0 0),(.ptr 1 0),(.val (.int .i64 ((↑(length (iV (AtV.p a))):Int)))),(.val (.int .i64 ((↑j:Int))))] ⟨[(.cells [(.val (.int .i64 (AtV.o a))),(.vec 1 (iV (AtV.p a)) .none),(.val (.int .u32 (AtV.h a))),(.val (.int .i64 (AtV.m a))),(.val (.bool (AtV.hm a)))]),(.cells [(.val (.int .i64 (AtV.o b))),(.vec 1 (iV (AtV.p b)) .none),(.val (.int .u32 (AtV.h b))),(.val (.int .i64 (AtV.m b))),(.val (.bool (AtV.hm b)))])],[]⟩ [] 59):=by kernel_rfl
set_option maxRecDepth 100000
theorem P5 {a b:AtV}(hn:a.p.length≤9223372036854775807):dy prog ae (VL a b (decide (a.p=b.p)) (aE prog AP 0)):=bO λp hp=>by
 obtain rfl:=mem_singleton.1 hp
 have hL:∀l:List Int,(iV l).length=l.length:=λl=>length_map _
 refine cd λK hK=> ?_
 obtain ⟨hlm,hK⟩:=hK
 rw [hL,hL] at hlm
 refine dM (f:=AP) (id:=0) (by kernel_rfl) 59 zw (λj:Nat=>a.p.length-j) (λj:Nat=>AQ (iV a.p) j) (λ_=>⟨[.cells a.cells,.cells b.cells],[]⟩) (λj=>j≤a.p.length∧a.p.take j=b.p.take j) 2 0 (λ_ _=>⟨le_refl _,le_refl _⟩)
  (λe vs T=>T=⟨[.cells a.cells,.cells b.cells],[]⟩∧((e=.normal∧a.p=b.p∧vs=AQ (iV a.p) (iV a.p).length)∨(e=.ret∧a.p≠b.p∧∃z:Int,vs=AQ (iV a.p) z))) (λj hj=> ?_) 0 ⟨zero_le _,rfl⟩ K ?_
 ·obtain ⟨hj,hall⟩:=hj
  by_cases hlt:j<a.p.length
  ·have hlt2:j<b.p.length:=by omega
   have hat:(iV a.p)[((j:Nat):Int).toNat]?=some (iT a.p[j]):=by rw [toNat_natCast];show (a.p.map _)[j]?=_;rw [getElem?_map,getElem?_eq_getElem hlt];rfl
   have hat2:(iV b.p)[((j:Nat):Int).toNat]?=some (iT b.p[j]):=by rw [toNat_natCast];show (b.p.map _)[j]?=_;rw [getElem?_map,getElem?_eq_getElem hlt2];rfl
   refine bU ac aa ai ag (Kj a b a.p[j] b.p[j] j _) ?_
   refine bd (decide_eq_true (by rw [hL];omega)) ⟨oy rfl rfl (by omega) hat,oy rfl rfl (by omega) hat2,?_⟩
   rw [dJ]
   refine am (λc1=> ?_) (λc1=> ?_)
   ·refine ⟨rfl,rfl,rfl,.inr ⟨rfl,λh=> ?_,j,rfl⟩⟩
    have he:a.p[j]?=b.p[j]?:=by rw [h]
    rw [getElem?_eq_getElem hlt,getElem?_eq_getElem hlt2] at he
    injection he with he
    simp [he] at c1
   ·refine ⟨rfl,rfl,j+1,⟨hlt,?_⟩,by show a.p.length-(j+1)<a.p.length-j;omega,.inl ⟨rfl,by rw [JW hlt hn];rfl⟩⟩
    have he:a.p[j]=b.p[j]:=by simpa using c1
    rw [take_add_one,getElem?_eq_getElem hlt,take_add_one,getElem?_eq_getElem hlt2,hall,he]
  ·have hj2:j=a.p.length:=by omega
   subst hj2
   rw [take_length,hlm,take_length] at hall
   refine bU ac aa ai ag (Kj a b 0 0 a.p.length _) ?_
   exact bg (decide_eq_false (by rw [hL];omega)) ⟨rfl,rfl,rfl,.inl ⟨rfl,hall,by simp only [AQ,hL]⟩⟩
 ·rintro e vs T ⟨rfl,⟨rfl,h1,rfl⟩ | ⟨rfl,h1,z,rfl⟩⟩
  ·have:=hK 0;rw [decide_eq_true h1] at this;exact this
  ·have:=hK z;rw [decide_eq_false h1] at this;exact this
theorem Wq (x y:Bool):av neq (aq (.bool x) (.bool y))= !decide (x=y):=by
 cases x<;>cases y<;>rfl
theorem Tz {a b:AtV}(hn:a.p.length≤9223372036854775807):VCx prog ae 0 AP [.agg a.cells,.agg b.cells] ⟨[],[]⟩ λx T'=>x=.val (.bool (decide (a=b)))∧T'=⟨[],[]⟩:=by
 have hL:∀l:List Int,(iV l).length=l.length:=λl=>length_map _
 have no:∀l:List VO,a≠b→(TV.ren (ap 0) (ap 0) (.val (.bool false))=.val (.bool (decide (a=b)))∧VT.keep ⟨l,[]⟩ 0 0=⟨[],[]⟩):=λl h=>by rw [decide_eq_false h];exact ⟨rfl,rfl⟩
 refine VCx.keepQ 0 0 (le_refl _) (le_refl _) ?_
 refine aj ac aa ai (P5 hn) (U3 a b (decide (a.p=b.p)) _) ?_
 rw [dJ,dJ,dJ,Wq,dJ,hL,hL]
 refine am (λh=>no _ λe=> ?_) (λh1=>am (λh=>no _ λe=> ?_) (λh2=>am (λh=>no _ λe=> ?_) (λh3=>am (λh=>no _ λe=> ?_) (λh4=>am (λh=>no _ λe=> ?_) (λh0=> ?_)))))
 ·rw [e] at h;simp at h
 ·rw [e] at h;simp at h
 ·rw [e] at h;simp at h
 ·rw [e] at h;simp at h
 ·rw [e] at h;simp at h
 have hlm:a.p.length=b.p.length:=by
  have:=h0
  simp only [Bool.not_eq_false',decide_eq_true_eq] at this
  omega
 refine ⟨rfl,⟨rfl,rfl,rfl,trivial,rfl,rfl,by rw [←hL a.p]⟩,hlm,λz=> ?_⟩
 have e1:a.o=b.o:=by simpa using h1
 have e2:a.h=b.h:=by simpa using h2
 have e3:a.m=b.m:=by simpa using h3
 have e4:a.hm=b.hm:=by simpa using h4
 refine am (λh=> ?_) (λh=>no _ λe=> ?_)
 ·have e5:=of_decide_eq_true h
  have e:a=b:=by
   obtain ⟨o,p,h,m,hm⟩:=a
   obtain ⟨o2,p2,h2,m2,hm2⟩:=b
   simp only at e1 e2 e3 e4 e5
   rw [e1,e2,e3,e4,e5]
  rw [decide_eq_true e];exact ⟨rfl,rfl⟩
 ·exact of_decide_eq_false h (by rw [e])
end
set_option maxRecDepth 100000
section
open Go.RowKit Go.Maps Go.Sort
theorem TA (p q:Px):av eql (aq (.agg #[.int .u32 p.1,.int .i64 p.2]) (.agg #[.int .u32 q.1,.int .i64 q.2]))=decide (p=q):=by
 rw [←HH p q];rfl
theorem TB (p q:Px):av neq (aq (.agg #[.int .u32 p.1,.int .i64 p.2]) (.agg #[.int .u32 q.1,.int .i64 q.2]))= !decide (p=q):=by
 rw [←HH p q];rfl
theorem U4 (ok:Bool):∀ro ys T K,Ft ok ro ys T K→VCx prog ae ro Ns ys T K:=by
 intro ro ys T K hw
 unfold Ft at hw
 split at hw
 ·obtain ⟨⟨a,b,⟨rfl,rfl⟩,⟨hn,hn2⟩,rfl⟩,hk⟩:=hw
  exact VCx.liftPure aV (SH a b (by omega) (by omega)) (by simp only [aw,TV.ren,AtV.ren]) (λ_ _=>rfl) hk
 ·exact hw.elim
theorem NE (ok:Bool):∀ro ys T K,Ft ok ro ys T K→VCx prog ae ro VC ys T K:=by
 intro ro ys T K hw
 unfold Ft at hw
 split at hw
 ·obtain ⟨⟨a,b,⟨rfl,rfl⟩,⟨hn,hn2⟩,rfl⟩,hk⟩:=hw
  exact VCx.liftPure aV (Tz (a:=a) (b:=b) (by omega)) (by simp only [aw,TV.ren,AtV.ren]) (λ_ _=>rfl) hk
 ·exact hw.elim
theorem U5 {r s:bA}(h:r.1=s.1):decide (r.2=s.2)=decide (r=s):=by
 obtain ⟨p,a⟩:=r
 obtain ⟨q,b⟩:=s
 simp only at h
 subst h
 simp
theorem TC {r s:bA}(hr:tX r)(hs:tX s):VCx prog ae 0 yg [.agg (bf r),.agg (bf s)] ⟨[],[]⟩ λx T'=>x=.val (.bool (decide (r=s)))∧T'=⟨[],[]⟩:=by
 refine VCx.keepQ 0 0 (le_refl _) (le_refl _) (aj ac aa (aZ λq hq=>by obtain rfl:=mem_singleton.1 hq;exact U4 (decide (r.2=s.2))) ag (UV r.1 s.1 r.2 s.2 (decide (r.2=s.2)) _) ?_)
 refine am (λh=> ?_) (λh=> ?_)
 ·have h1:=of_decide_eq_true ((TA r.1 s.1).symm.trans h)
  exact ⟨⟨r.2,s.2,⟨rfl,rfl⟩,⟨hr,hs⟩,rfl⟩,by rw [U5 h1];rfl,rfl⟩
 ·have h1:=of_decide_eq_false ((TA r.1 s.1).symm.trans h)
  refine ⟨?_,rfl⟩
  rw [decide_eq_false λe:r=s=>h1 (by rw [e])];rfl
theorem Kk (ok:Bool):∀ro ys T K,Td ok ro ys T K→VCx prog ae ro yg ys T K:=by
 intro ro ys T K hw
 unfold Td at hw
 split at hw
 ·obtain ⟨⟨r,s,⟨rfl,rfl⟩,⟨hr,hs⟩,rfl⟩,hk⟩:=hw
  exact VCx.liftPure aV (TC hr hs) (by simp only [aw,TV.ren,Fy]) (λ_ _=>rfl) hk
 ·exact hw.elim
theorem DU {x i:Operand}{l:List (Nat × TV)}{L:List (List TV)}{tok:Tok}{k:IntKind}{z:Int}{a:List TV}(hx:aA ae l x=.vec 7 L tok)(hz:aA ae l i=.val (.int k z))(h0:0≤z)(he:L[z.toNat]?=some a):aS prog ae (.indexAddr 42 x i) l (.elt a):=by
 obtain ⟨inf,z0,i1,i2,_⟩:=Ki
 exact fp (inf:=inf) Tryz.underlying42 i1 (by rw [i2];exact hx) hz h0 he
theorem Kl:∃(inf:TypeInfo) (z:Value),prog.info? 110=some inf∧inf.size=7∧inf.bytes+1≤1000∧inf.zero=some z∧z.cells.size=7:=
 ⟨(prog.info? 110).getD default,((prog.info? 110).getD default).zero.getD default,by kernel_rfl,by kernel_rfl,Nat.le_of_ble_eq_true (by kernel_rfl),by kernel_rfl,by kernel_rfl⟩
theorem ym {x i:Operand}{l:List (Nat × TV)}{L:List (List TV)}{tok:Tok}{k:IntKind}{z:Int}{a:List TV}(hx:aA ae l x=.vec 7 L tok)(hz:aA ae l i=.val (.int k z))(h0:0≤z)(he:L[z.toNat]?=some a):aS prog ae (.indexAddr 51 x i) l (.elt a):=by
 obtain ⟨inf,z0,i1,i2,_⟩:=Kl
 exact fp (inf:=inf) Tryz.underlying51 i1 (by rw [i2];exact hx) hz h0 he
section
variable {W W2:List bA}
theorem yn {j:Nat}(h:j<W.length):∃r,W[j]?=some r∧r∈W∧(W.map bf)[((j:Nat):Int).toNat]?=some (bf r):=by
 have e:W[j]?=some W[j]:=getElem?_eq_getElem h
 exact ⟨_,e,mem_of_getElem? e,by rw [toNat_natCast,getElem?_map,e];rfl⟩
theorem uf {j:Nat}{r s:bA}(hr:W[j]?=some r)(hs:W2[j]?=some s)(h:W.take j=W2.take j)(e:r=s):W.take (j+1)=W2.take (j+1):=by
 rw [mJ hr,mJ hs,h,e]
theorem P6 (h1:ia W)(h2:ia W2):dy prog ae (bX [(0,VE (W.map bf) (W2.map bf) (decide (W=W2)) (λT=>T=⟨[],[]⟩),aE prog vE 0)]):=bO λq hq=>by
 obtain rfl:=mem_singleton.1 hq
 rintro rd ro σ T D K ⟨⟨rfl,rfl,rfl,hn,hpk,rfl⟩,hlm,hK⟩
 have hL:∀W:List bA,(W.map bf).length=W.length:=λW=>length_map _
 rw [hL,hL] at hlm
 have hw:=h1.1
 refine cd (ad:= []) (R:=λK=>∀(z:Int) (bx:List VO),bif decide (W=W2) then K .normal (aI 32 tY (qK (W.map bf) (W2.map bf) (W.map bf).length)) ⟨[],[]⟩ [] else K .ret (aI 32 tY (qK (W.map bf) (W2.map bf) z)) ⟨[]++bx,[]⟩ []) (λK hK=> ?_) none 0 σ _ [] K ⟨⟨rfl,rfl,rfl,trivial,rfl,hn,hpk⟩,hK⟩
 refine dM (ι:=Nat) (f:=vE) (id:=0) (by kernel_rfl) 32 tY (λj=>W.length-j) (λj=>qK (W.map bf) (W2.map bf) j) (λ_=>⟨[],[]⟩) (λj=>j≤W.length∧W.take j=W2.take j) 0 0 (λ_ _=>⟨le_refl _,le_refl _⟩)
  (λe vs T=>(e=.normal∧W=W2∧vs=qK (W.map bf) (W2.map bf) (W.map bf).length∧T=⟨[],[]⟩)∨(e=.ret∧W≠W2∧∃(z:Int) (bx:List VO),vs=qK (W.map bf) (W2.map bf) z∧T=⟨bx,[]⟩)) (λj hj=> ?_) 0 ⟨zero_le _,rfl⟩ K ?_
 ·obtain ⟨hj,hall⟩:=hj
  have ren:∀z:Int,aw (ap 0) (ap 0) (qK (W.map bf) (W2.map bf) z)=qK (W.map bf) (W2.map bf) z:=λz=>by
   simp only [qK,aw,TV.ren,dB,Tok.ren]
  by_cases hlt:j<W.length
  ·obtain ⟨r,r1,r2,r3⟩:=yn hlt
   obtain ⟨s,s1,s2,s3⟩:=yn (W:=W2) (j:=j) (by omega)
   refine bU ac aa (aZ λq hq=>by obtain rfl:=mem_singleton.1 hq;exact Kk (decide (r=s))) ag (Kc (W.map bf) (W2.map bf) r.1 s.1 r.2 s.2 (decide (r=s)) j _) ?_
   refine bd (decide_eq_true (by rw [hL];omega)) ⟨DU rfl rfl (by omega) r3,DU rfl rfl (by omega) s3,⟨r,s,⟨rfl,rfl⟩,⟨h1.2 r r2,h2.2 s s2⟩,rfl⟩,?_⟩
   refine am (λc=> ?_) (λc=> ?_)
   ·have hne:r≠s:=by simpa using c
    refine ⟨rfl,rfl,.inr ⟨rfl,λe=>hne ?_,j,_,rfl,rfl⟩⟩
    rw [e,s1] at r1
    injection r1 with r1
    exact r1.symm
   ·have he:r=s:=by simpa using c
    refine ⟨rfl,rfl,j+1,⟨hlt,uf r1 s1 hall he⟩,by show W.length-(j+1)<W.length-j;omega,.inr ⟨rfl,?_⟩⟩
    rw [pB hlt (by omega)]
    exact ren _
  ·have hj2:j=W.length:=by omega
   refine bU ac aa (aZ λq hq=>by obtain rfl:=mem_singleton.1 hq;exact Kk true) ag (Kc (W.map bf) (W2.map bf) (0,0) (0,0) ⟨0,[],0,0,false⟩ ⟨0,[],0,0,false⟩ true j _) ?_
   refine bg (decide_eq_false (by rw [hL];omega)) ⟨rfl,rfl,.inl ⟨rfl,?_,by rw [hj2,←hL W];rfl,rfl⟩⟩
   have e1:=take_of_length_le (show W.length≤j by omega)
   have e2:=take_of_length_le (show W2.length≤j by omega)
   rw [←e1,←e2];exact hall
 ·rintro e vs T (⟨rfl,h3,rfl,rfl⟩ | ⟨rfl,h3,z,bx,rfl,rfl⟩)
  ·have:=hK 0 [];rw [decide_eq_true h3] at this;exact this
  ·have:=hK z bx;rw [decide_eq_false h3] at this;exact this
theorem TD (h1:ia W)(h2:ia W2):VCx prog ae 0 vE [.vec 7 (W.map bf) .none,.vec 7 (W2.map bf) .none,.fn (.func yg) [] []] ⟨[],[]⟩ λx T'=>x=.val (.bool (decide (W=W2)))∧T'=⟨[],[]⟩:=by
 have hL:∀W:List bA,(W.map bf).length=W.length:=λW=>length_map _
 refine VCx.keepQ 0 0 (le_refl _) (le_refl _) (aj ac aa ai (P6 h1 h2) (UW (W.map bf) (W2.map bf) (decide (W=W2)) (λT=>T=⟨[],[]⟩) _) ?_)
 rw [hL,hL]
 have nz:av neq (aq (.int .i64 (W.length:Int)) (.int .i64 (W2.length:Int)))= !decide ((W.length:Int)=(W2.length:Int)):=dJ .i64 _ _
 refine am (λh=> ?_) (λh=> ?_)
 ·have hne:W.length≠W2.length:=by
   have:=nz.symm.trans h
   simp only [Bool.not_eq_true',decide_eq_false_iff_not] at this
   omega
  refine ⟨?_,rfl⟩
  rw [decide_eq_false λe:W=W2=>hne (by rw [e])];rfl
 ·have he:W.length=W2.length:=by
   have:=nz.symm.trans h
   simp only [Bool.not_eq_false',decide_eq_true_eq] at this
   omega
  refine ⟨rfl,⟨rfl,rfl,rfl,rfl,?_,rfl⟩,?_,λz bx=> ?_⟩
  ·simp only [qK,hL]
  ·exact he
  ·cases decide (W=W2)
   ·exact ⟨rfl,rfl⟩
   ·exact ⟨rfl,rfl⟩
end
end
set_option maxRecDepth 100000
section
open Go.RowKit Go.Maps Go.Sort
section
variable {W W2:List bA}
theorem P7 (h1:ia W)(h2:ia W2):dy prog ae (bX [(0,VF (W.map bf) (W2.map bf) (decide (W=W2)) (λT=>T=⟨[],[]⟩),aE prog tV 0)]):=bO λq hq=>by
 obtain rfl:=mem_singleton.1 hq
 rintro rd ro σ T D K ⟨⟨rfl,rfl,rfl,hn,hpk,rfl⟩,hlm,hK⟩
 have hL:∀W:List bA,(W.map bf).length=W.length:=λW=>length_map _
 rw [hL,hL] at hlm
 have hw:=h1.1
 refine cd (ad:= []) (R:=λK=>∀z:Int,bif decide (W=W2) then K .normal (aI 42 tZ (qL (W.map bf) (W2.map bf) (W.map bf).length)) ⟨[],[]⟩ [] else K .ret (aI 42 tZ (qL (W.map bf) (W2.map bf) z)) ⟨[],[]⟩ []) (λK hK=> ?_) none 0 σ _ [] K ⟨⟨rfl,rfl,rfl,trivial,rfl,hn,hpk⟩,hK⟩
 refine dM (ι:=Nat) (f:=tV) (id:=0) (by kernel_rfl) 42 tZ (λj=>W.length-j) (λj=>qL (W.map bf) (W2.map bf) j) (λ_=>⟨[],[]⟩) (λj=>j≤W.length∧W.take j=W2.take j) 0 0 (λ_ _=>⟨le_refl _,le_refl _⟩)
  (λe vs T=>(e=.normal∧W=W2∧vs=qL (W.map bf) (W2.map bf) (W.map bf).length∧T=⟨[],[]⟩)∨(e=.ret∧W≠W2∧∃z:Int,vs=qL (W.map bf) (W2.map bf) z∧T=⟨[],[]⟩)) (λj hj=> ?_) 0 ⟨zero_le _,rfl⟩ K ?_
 ·obtain ⟨hj,hall⟩:=hj
  have ren:∀z:Int,aw (ap 0) (ap 0) (qL (W.map bf) (W2.map bf) z)=qL (W.map bf) (W2.map bf) z:=λz=>by
   simp only [qL,aw,TV.ren,dB,Tok.ren]
  by_cases hlt:j<W.length
  ·obtain ⟨r,r1,r2,r3⟩:=yn hlt
   obtain ⟨s,s1,s2,s3⟩:=yn (W:=W2) (j:=j) (by omega)
   refine bU ac aa (aZ λq hq=>by obtain rfl:=mem_singleton.1 hq;exact NE (decide (r.2=s.2))) ag (Kd (W.map bf) (W2.map bf) r.1 s.1 r.2 s.2 (decide (r.2=s.2)) j _) ?_
   have nope:r≠s→W≠W2:=λhne e=>hne (by
    rw [e,s1] at r1
    injection r1 with r1
    exact r1.symm)
   refine bd (decide_eq_true (by rw [hL];omega)) ⟨ym rfl rfl (by omega) r3,ym rfl rfl (by omega) s3,am (λc=> ?_) (λc=> ?_)⟩
   ·have c1:=(TB r.1 s.1).symm.trans c
    have hne:r.1≠s.1:=by simpa using c1
    exact ⟨rfl,rfl,.inr ⟨rfl,nope λe=>hne (by rw [e]),j,rfl,rfl⟩⟩
   ·have c1:=(TB r.1 s.1).symm.trans c
    have hpe:r.1=s.1:=by simpa using c1
    refine ⟨ym rfl rfl (by omega) r3,ym rfl rfl (by omega) s3,⟨r.2,s.2,⟨rfl,rfl⟩,⟨h1.2 r r2,h2.2 s s2⟩,rfl⟩,am (λc=> ?_) (λc=> ?_)⟩
    ·have hne:r.2≠s.2:=by simpa using c
     exact ⟨rfl,rfl,.inr ⟨rfl,nope λe=>hne (by rw [e]),j,rfl,rfl⟩⟩
    ·have he2:r.2=s.2:=by simpa using c
     have he:r=s:=Prod.ext hpe he2
     refine ⟨rfl,rfl,j+1,⟨hlt,uf r1 s1 hall he⟩,by show W.length-(j+1)<W.length-j;omega,.inr ⟨rfl,?_⟩⟩
     rw [pB hlt (by omega)]
     exact ren _
  ·have hj2:j=W.length:=by omega
   refine bU ac aa (aZ λq hq=>by obtain rfl:=mem_singleton.1 hq;exact NE true) ag (Kd (W.map bf) (W2.map bf) (0,0) (0,0) ⟨0,[],0,0,false⟩ ⟨0,[],0,0,false⟩ true j _) ?_
   refine bg (decide_eq_false (by rw [hL];omega)) ⟨rfl,rfl,.inl ⟨rfl,?_,by rw [hj2,←hL W];rfl,rfl⟩⟩
   have e1:=take_of_length_le (show W.length≤j by omega)
   have e2:=take_of_length_le (show W2.length≤j by omega)
   rw [←e1,←e2];exact hall
 ·rintro e vs T (⟨rfl,h3,rfl,rfl⟩ | ⟨rfl,h3,z,rfl,rfl⟩)
  ·have:=hK 0;rw [decide_eq_true h3] at this;exact this
  ·have:=hK z;rw [decide_eq_false h3] at this;exact this
theorem TE (h1:ia W)(h2:ia W2):VCx prog ae 0 tV [.vec 7 (W.map bf) .none,.vec 7 (W2.map bf) .none] ⟨[],[]⟩ λx T'=>x=.val (.bool (decide (W=W2)))∧T'=⟨[],[]⟩:=by
 have hL:∀W:List bA,(W.map bf).length=W.length:=λW=>length_map _
 refine VCx.keepQ 0 0 (le_refl _) (le_refl _) (aj ac aa ai (P7 h1 h2) (UY (W.map bf) (W2.map bf) (decide (W=W2)) (λT=>T=⟨[],[]⟩) _) ?_)
 rw [hL,hL]
 have nz:av neq (aq (.int .i64 (W.length:Int)) (.int .i64 (W2.length:Int)))= !decide ((W.length:Int)=(W2.length:Int)):=dJ .i64 _ _
 refine am (λh=> ?_) (λh=> ?_)
 ·have hne:W.length≠W2.length:=by
   have:=nz.symm.trans h
   simp only [Bool.not_eq_true',decide_eq_false_iff_not] at this
   omega
  refine ⟨?_,rfl⟩
  rw [decide_eq_false λe:W=W2=>hne (by rw [e])];rfl
 ·have he:W.length=W2.length:=by
   have:=nz.symm.trans h
   simp only [Bool.not_eq_false',decide_eq_true_eq] at this
   omega
  refine ⟨rfl,⟨rfl,rfl,rfl,rfl,?_,rfl⟩,?_,λz=> ?_⟩
  ·simp only [qL,hL]
  ·exact he
  ·cases decide (W=W2)
   ·exact ⟨rfl,rfl⟩
   ·exact ⟨rfl,rfl⟩
theorem TF (ok:Bool):∀ro ys T K,Tf ok ro ys T K→VCx prog ae ro vE ys T K:=by
 intro ro ys T K hw
 unfold Tf at hw
 split at hw
 ·rename_i l t1 m t2 f
  obtain ⟨⟨hf,W,W2,⟨rfl,rfl⟩,⟨h1,h2⟩,rfl⟩,hk⟩:=hw
  have hf':f=yg:=Nat.eq_of_beq_eq_true hf
  subst hf'
  exact VCx.loosePure aV (TD h1 h2) rfl (by simp only [aw,TV.ren,dB,Tok.ren]) (λ_ _=>rfl) hk
 ·exact hw.elim
theorem TG (h1:ia W)(h2:ia W2):VCx prog ae 0 J7 [.vec 7 (W.map bf) .none,.vec 7 (W2.map bf) .none] ⟨[],[]⟩ λx T'=>x=.val (.bool (decide (W=W2)))∧T'=⟨[],[]⟩:=
 aj ac aa (aZ λq hq=>by obtain rfl:=mem_singleton.1 hq;exact TF (decide (W=W2))) ag (UX (W.map bf) (W2.map bf) (decide (W=W2)) _) ⟨⟨rfl,W,W2,⟨rfl,rfl⟩,⟨h1,h2⟩,rfl⟩,rfl,rfl⟩
theorem yp (l:List bA):(l.map bf).map Nz=l:=by
 rw [List.map_map]
 refine (List.map_congr_left λr _=> ?_).trans (List.map_id l)
 obtain ⟨⟨a,n⟩,o,p,h,m,hm⟩:=r
 simp only [Function.comp,bf,aK,AtV.cells,List.cons_append,nil_append,Nz,HK,id]
theorem U6:∀ro ys T K,AM ro ys T K→VCx prog ae ro J7 ys T K:=by
 intro ro ys T K hw
 unfold AM at hw
 split at hw
 ·obtain ⟨⟨⟨W,rfl,h1⟩,W2,rfl,h2⟩,hk⟩:=hw
  unfold Fw at hk
  rw [yp,yp] at hk
  exact VCx.loosePure aV (TG h1 h2) rfl (by simp only [aw,TV.ren,dB,Tok.ren]) (λ_ _=>rfl) hk
 ·exact hw.elim
theorem U7:∀ro ys T K,AM ro ys T K→VCx prog ae ro tV ys T K:=by
 intro ro ys T K hw
 unfold AM at hw
 split at hw
 ·obtain ⟨⟨⟨W,rfl,h1⟩,W2,rfl,h2⟩,hk⟩:=hw
  unfold Fw at hk
  rw [yp,yp] at hk
  exact VCx.loosePure aV (TE h1 h2) rfl (by simp only [aw,TV.ren,dB,Tok.ren]) (λ_ _=>rfl) hk
 ·exact hw.elim
theorem TH (objs:List VO)(R:List bA)(r:bA)(h:R.length≤1000000):bp prog ae 0 ⟨objs,tR [] R⟩ (.call ⟨.builtin .append,#[.tmp 12,.tmp 18],#[51,51]⟩) [(12,xR 0 R),(18,.vec 7 [bf r] .full)] (.vec 7 ((R++ [r]).map bf) (.tail 0 (R++ [r]).length)) ⟨objs,tR [] (R++ [r])⟩:=by
  obtain ⟨inf,z,i1,i2,i3,i4,i5⟩:=Kl
  have h1:=fq (inf:=inf) (P:=prog) (G:=ae) (ro:=0) (T:=⟨objs,tR [] R⟩) (T1:=⟨objs,[(R.length,7,true)]⟩) (t:=51) (tx:=51) (s:=.tmp 12) (x:=.tmp 18) (l:= [(12,xR 0 R),(18,.vec 7 [bf r] .full)]) (es:=R.map bf) (es2:= [bf r]) (k:=0) (n:=R.length) (bn:=true) Tryz.underlying51 i1 i4 (by rw [i2];exact i5) (by rw [i2];decide) (by kernel_rfl)
    (by rw [i2];cases R<;>simp [aA,eF,cR,xR,tR]) (by rw [i2];rfl)
    (by have h1:=i3
        have h2:=Nat.mul_le_mul (show (R.map bf).length+ [bf r].length≤1000001 by simp only [length_map,length_cons,length_nil];omega) h1
        omega)
  rw [i2] at h1
  rw [DT,map_append,length_append]
  exact h1
theorem TI (h1:ia W):VCx prog ae 0 tW [.vec 7 (W.map bf) .none] ⟨[],[]⟩ λx T'=>x=.vec 7 (W.map bf) .none∧T'=⟨[],[]⟩:=by
 have hlen:(W.map bf).length=W.length:=length_map _
 have hw:=h1.1
 have hxr:∀R,(xR 0 R).ren (ap 0) (ap 1)=xR 0 R:=λR=>by
  cases R with
  |nil=>rfl
  |cons r R=>simp only [xR,TV.ren,dB,Tok.ren,iQ (show 0<1 by decide)]
 have hL:dy prog ae (bX [(0,VG (W.map bf) (λx tl=>x=xR 0 W∧tl=tR [] W),aE prog tW 0)]):=bO λq hq=>by
  obtain rfl:=mem_singleton.1 hq
  rintro rd ro σ T D K ⟨⟨rfl,rfl,rfl,hn,hpk,rfl⟩,hK⟩
  refine cd (ad:= []) (R:=λK=>∀(x:TV) (tl:bq),(x=xR 0 W∧tl=tR [] W)→K .normal (aI 22 zt (t6 x (W.map bf) (W.map bf).length)) ⟨[],tl⟩ []) (λK hK=> ?_) none 0 σ _ [] K ⟨⟨rfl,rfl,rfl,trivial,rfl,hn,hpk⟩,hK⟩
  refine dM (ι:=Nat) (f:=tW) (id:=0) (by kernel_rfl) 22 zt (λj=>W.length-j) (λj=>t6 (xR 0 (W.take j)) (W.map bf) j) (λj=>⟨[],tR [] (W.take j)⟩) (λj=>j≤W.length) 0 1 (λj _=>⟨le_refl _,by show (tR [] (W.take j)).length≤_;cases W.take j<;>simp [tR]⟩)
   (λe vs T=>e=.normal∧vs=t6 (xR 0 W) (W.map bf) (W.map bf).length∧T=⟨[],tR [] W⟩) (λj hj=> ?_) 0 (zero_le _) K (λe vs T hq=> ?_)
  ·by_cases hlt:j<W.length
   ·obtain ⟨r,r1,r2,r3⟩:=yn hlt
    have et:=mJ r1
    have ren:∀j':Int,aw (ap 0) (ap 1) (t6 (xR 0 (W.take (j+1))) (W.map bf) j')=t6 (xR 0 (W.take (j+1))) (W.map bf) j':=λj'=>by
     simp only [t6,aw,hxr,TV.ren,dB,Tok.ren]
    refine bU ac aa ai ag (Ke (W.map bf) ((W.take j++ [r]).map bf) (xR 0 (W.take j)) (tR [] (W.take j)) (tR [] (W.take j++ [r])) (W.take j++ [r]).length r.1 r.2 j _) ?_
    refine bd (decide_eq_true (by rw [hlen];omega)) ⟨DU rfl rfl (by omega) r3,TH _ (W.take j) r (by rw [length_take];omega),?_⟩
    refine ⟨rfl,rfl,j+1,hlt,by simp only;omega,.inr ⟨?_,?_⟩⟩
    ·show VT.keep ⟨_,_⟩ 0 1=(⟨[],tR [] (W.take (j+1))⟩:VT)
     rw [et,DT]
     rfl
    ·have e1:=pB hlt (by omega)
     have e2:=ren ((j+1:Nat):Int)
     rw [et,yl] at e2
     rw [e1]
     show _=t6 (xR 0 (W.take (j+1))) (W.map bf) ((j+1:Nat):Int)
     rw [et,yl]
     exact e2
   ·have hjl:j=W.length:=by omega
    refine bU ac aa ai ag (Ke (W.map bf) [] (xR 0 (W.take j)) (tR [] (W.take j)) [] 0 (0,0) ⟨0,[],0,0,false⟩ j _) ?_
    refine bg (decide_eq_false (by rw [hlen];omega)) ⟨rfl,rfl,rfl,?_,?_⟩
    ·show t6 (xR 0 (W.take j)) (W.map bf) (j:Int)=_
     rw [hjl,take_length,hlen]
    ·show (⟨[],tR [] (W.take j)⟩:VT)=_
     rw [hjl,take_length]
  ·obtain ⟨rfl,rfl,rfl⟩:=hq
   exact hK _ _ ⟨rfl,rfl⟩
 refine VCx.toLe (Q:=λT'=>T'=⟨[],[]⟩) (VCx.keepQ 0 0 (le_refl _) (le_refl _) (aj ac aa ai hL (UZ (W.map bf) _ _) ?_))
 refine ⟨rfl,⟨rfl,rfl,rfl,rfl,rfl,rfl⟩,λx tl h=> ?_⟩
 obtain ⟨rfl,rfl⟩:=h
 refine ⟨?_,rfl⟩
 cases W with
 |nil=>exact .nil 7
 |cons r W=>
  simp only [xR,TV.ren,dB,Tok.ren]
  exact .vec 7 _ _
theorem TJ:∀ro ys T K,NA ro ys T K→VCx prog ae ro tW ys T K:=by
 intro ro ys T K hw
 unfold NA at hw
 split at hw
 ·obtain ⟨⟨W,rfl,h1⟩,hk⟩:=hw
  exact VCx.loosePure aV (TI h1) rfl (by simp only [aw,TV.ren,dB,Tok.ren]) (λf g=>by simp only [TV.ren,dB,Tok.ren]) hk
 ·exact hw.elim
end
end
set_option maxRecDepth 100000
section
open Go.RowKit Go.Maps Go.Sort
def zx (k:Nat)(u:UpS):Prop:=u.n.length≤k
theorem TK {n:Int}{b:Bs}{e:Int}:(b9 n b e).length≤b.length:=by
 unfold b9
 cases cU n b e
 ·exact zero_le _
 ·rw [cond_true,length_take];omega
theorem P8 {b:Bs}:(dQ b).length≤b.length:=by
 have h1:(dQ b).length≤(zf b).length:=TK
 have h2:(zf b).length≤(ar (2:Nat) (lh b) (oz b)).length:=ii
 have h3:(ar (2:Nat) (lh b) (oz b)).length≤(lh b).length:=ii
 have h4:(lh b).length≤(ar (2:Nat) b 0).length:=ii
 have h5:(ar (2:Nat) b 0).length≤b.length:=ii
 omega
theorem TL (b:Bs):(aX b).length≤b.length:=by
 have e:(aX b).length=((vn b).getD []).length:=length_map _
 rw [e]
 cases h:vn b with
 |none=>exact zero_le _
 |some l=>have:=wm _ _ _ _ h;simp only [length_nil] at this;simp only [getD_some];omega
theorem TM (b:Bs):zx b.length (lm b):=by
 have hn:zx b.length {kK with n:=aX (dQ b)}:=Nat.le_trans (TL _) P8
 have e1:zx b.length {kK with w:=aX (gJ b),n:=aX (dQ b)}:=hn
 have e2:zx b.length ⟨aX (gJ b),mS (cm b),iF (cm b),mT (cm b),mU (cm b),mV (cm b),aX (dQ b)⟩:=hn
 unfold lm
 split
 ·rename_i u h
  unfold iL at h
  split at h
  ·cases h
  cases g1:gk (gJ b)<;>simp only [g1,cond_true,cond_false] at h
  ·cases h
  cases g2:gk (dQ b)<;>simp only [g2,cond_true,cond_false] at h
  ·cases h
  split at h
  ·injection h with h;exact h▸e1
  cases g3:g8 (cm b)<;>simp only [g3,cond_true,cond_false] at h
  ·split at h
   ·cases h
   split at h
   ·injection h with h;exact h▸e1
   ·cases h
  ·split at h
   ·injection h with h;exact h▸e2
   ·injection h with h;exact h▸e1
 ·exact (show zx b.length kK from zero_le _)
theorem TN {b:Bs}{pas:Int}{M:MsgS}(h:fa b pas=.inr M):M.u.n.length≤b.length:=by
 have h0:∀{M:MsgS},M.u=kK→M.u.n.length≤b.length:=λh=>by rw [h];exact zero_le _
 unfold fa at h
 cases hb:dm b
 ·rw [hb,cond_false] at h;cases h
 rw [hb,cond_true] at h
 split at h
 ·cases h
 split at h
 ·cases h
 split at h
 ·cases ho:iG (b.drop 19) pas<;>rw [ho] at h<;>simp only [cond_true,cond_false] at h
  ·cases h
  ·injection h with h;subst h;exact h0 rfl
 split at h
 ·cases ho:jg (b.drop 19)<;>rw [ho] at h<;>simp only [cond_true,cond_false] at h
  ·cases h
  ·injection h with h;subst h
   have:=TM (b.drop 19)
   unfold zx at this
   rw [length_drop] at this
   show (lm (b.drop 19)).n.length≤b.length
   omega
 split at h
 ·cases ho:jU (b.drop 19)<;>rw [ho] at h<;>simp only [cond_true,cond_false] at h
  ·cases h
  ·injection h with h;subst h;exact h0 rfl
 ·injection h with h;subst h;exact h0 rfl
theorem TO (pas:Int):∀(n:Nat) (w:Bs),w.length≤n→IsB w→oO (ba w pas).1≤w.length:=by
 intro n
 induction n with
 |zero=>
  intro w hw hb
  rw [fu pas (by omega)]
  exact zero_le _
 |succ n ih=>
  intro w hw hb
  by_cases hl:w.length<19
  ·rw [fu pas hl];exact zero_le _
  cases h1:dm w
  ·rw [nK pas hl h1];exact zero_le _
  by_cases h2:bM w>w.length
  ·rw [oH pas hl h1 h2];exact zero_le _
  cases h3:fa (w.take (bM w).toNat) pas with
  |inl p=>
   obtain ⟨c,s,d⟩:=p
   rw [kN hl h1 h2 h3];exact zero_le _
  |inr M=>
   have h4:=(rD hl h1).2.1
   have hi:=ih (w.drop (bM w).toNat) (by rw [length_drop];omega) (hb.drop _)
   rw [oI hl h1 h2 h3]
   have h5:=TN h3
   rw [length_take] at h5
   rw [length_drop] at hi
   simp only [oO,map_cons,List.sum_cons] at hi ⊢
   omega
theorem Km {w:Bs}(hw:IsB w)(h:w.length≤20000):oO (bN w 0)≤20000:=Nat.le_trans (TO 0 _ w (le_refl _) hw) h
noncomputable def FW:VwF:=⟨de 0,λw=>r9 w 0,λw=>jI w 0,λw=>iq w 0,λw=>(nc w).map bf⟩
def VfQ (w:Bs)(lk:bF)(es:bw)(ck:Nat)(x:TV)(tl:bq):Prop:=TbOk (nc w) lk es ck∧x=xM (bN w 0)∧tl=tM (bN w 0)
def vH (w:Bs)(o:VO)(lk:bF)(es:bw)(ck:Nat)(x:TV)(tl:bq)(b:Bs):Prop:=o=de 0 w∧(IsB (w++b)∧(w++b).length≤20000)∧VfQ w lk es ck x tl
def Kn (w:Bs)(o:VO)(lk:bF)(es:bw)(ck:Nat)(x:TV)(tl:bq):Prop:=o=de 0 w∧IsB w∧VfQ w lk es ck x tl
section
variable {A N:List MsgS}
theorem U8 (hA:gi A)(f:Nat→Option Nat):(xM A).ren f (aL (List.range (tM A).length))=xM A:=by
 cases A with
 |nil=>rfl
 |cons M l=>simp only [xM,TV.ren,hU hA,Tok.ren];rfl
theorem TP (hA:gi (A++N))(f:Nat→Option Nat):(xM (A++N)).ren f (aJ (tM A).length (List.range (tM A).length))=xM (A++N):=by
 cases A with
 |nil=>
  cases N with
  |nil=>rfl
  |cons M l=>
   have hA':gi (M::l):=hA
   simp only [nil_append,xM,TV.ren,hU hA',Tok.ren];rfl
 |cons M l=>
  show (TV.vec 15 ((M::(l++N)).map MsgS.cells) (.tail 0 (M::(l++N)).length)).ren _ _=.vec 15 ((M::(l++N)).map MsgS.cells) (.tail 0 (M::(l++N)).length)
  have hA':gi (M::(l++N)):=hA
  simp only [TV.ren,hU hA',Tok.ren];rfl
theorem U9:(List.range (tM A).length).map (λk=>((tM A)[k]?).getD (0,0,false))=tM A:=by cases A<;>rfl
theorem TQ:bJ (tM A) (List.range (tM A).length) (tM (A++N))=tM (A++N):=by
 cases A with
 |nil=>show bJ ([]:bq) [] (tM N)=tM N;simp [bJ]
 |cons M l=>rfl
theorem Va:(List.range (tM A).length).length≤(tM (A++N)).length:=by
 cases A with
 |nil=>exact zero_le _
 |cons M l=>exact le_refl _
end
theorem Fz {a b:Nat}(h:beq a b=false):a≠b:=λe=>by subst e;rw [Nat.beq_refl] at h;cases h
theorem FA {T:VT}{s m p:Nat}{w:Bs}{lk:bF}{es:bw}{ck:Nat}{d u:Int}(hw:IsB w)(hT:TbOk (nc w) lk es ck)(n1:s≠m)(n2:s≠p)(n3:m≠p)(hs:T.objs[s]?=some (de 0 w))(hm:T.objs[m]?=some (.map kP lk es ck))(hp:T.objs[p]?=some (lq s m (xM (bN w 0)) d u))(ht:T.tails=tM (bN w 0)):T.give [s,m,p] (List.range (tM (bN w 0)).length)=Kg w lk es ck d u:=by
 have i0:aL [s,m,p] s=some 0:=by simp [aL,idxOf?,findIdx?,findIdx?.go]
 have i1:aL [s,m,p] m=some 1:=by simp [aL,idxOf?,findIdx?,findIdx?.go,n1]
 have e3:VO.ren (aL [s,m,p]) (aL (List.range (tM (bN w 0)).length)) (lq s m (xM (bN w 0)) d u)=lq 0 1 (xM (bN w 0)) d u:=by
  simp only [lq,VO.ren,aw,TV.ren,i0,i1,U8 (A:=bN w 0) (ji hw)]
 simp only [VT.give,map_cons,map_nil,hs,hm,hp,getD_some,jE hw,hT.ren,e3,ht,U9]
 rfl
theorem FB {T:VT}{s m p:Nat}{w:Bs}{lk:bF}{es:bw}{ck:Nat}{x:TV}{d u:Int}(hs:T.objs[s]?=some (de 0 w))(hm:T.objs[m]?=some (.map kP lk es ck))(hp:T.objs[p]?=some (lq s m x d u)):∀k∈ [s,m,p],∃o,T.objs[k]?=some o∧o.live=true:=λk hk=>by
 simp only [mem_cons,not_mem_nil,or_false] at hk
 rcases hk with rfl | rfl | rfl
 ·exact ⟨_,hs,rfl⟩
 ·exact ⟨_,hm,rfl⟩
 ·exact ⟨_,hp,rfl⟩
theorem FC {T:VT}{s m p:Nat}{w b:Bs}{lk:bF}{es:bw}{ck:Nat}{d u:Int}(hw:IsB (w++b))(hT:TbOk (nc (w++b)) lk es ck)(ht:T.tails=tM (bN w 0)):T.back [s,m,p] (List.range (tM (bN w 0)).length) (Kg (w++b) lk es ck d u)=⟨((T.objs.set s (de 0 (w++b))).set m (.map kP lk es ck)).set p (lq s m (xM (bN (w++b) 0)) d u),tM (bN (w++b) 0)⟩:=by
 have hL:=zn (w:=w) (b:=b) (pas:=0)
 have hA:gi (bN w 0++eU w b 0):=by rw [←hL];exact ji hw
 have o0:aJ T.objs.length [s,m,p] 0=some s:=rfl
 have o1:aJ T.objs.length [s,m,p] 1=some m:=rfl
 have ex:=TP hA (aJ T.objs.length [s,m,p])
 rw [←hL] at ex
 have e3:VO.ren (aJ T.objs.length [s,m,p]) (aJ (tM (bN w 0)).length (List.range (tM (bN w 0)).length)) (lq 0 1 (xM (bN (w++b) 0)) d u)=lq s m (xM (bN (w++b) 0)) d u:=by
  simp only [lq,VO.ren,aw,TV.ren,o0,o1,ex]
 have et:=TQ (A:=bN w 0) (N:=eU w b 0)
 rw [←hL] at et
 simp only [VT.back,Kg,cZ,yh,map_cons,map_nil,ht,jE hw,hT.ren,e3,bJ,append_nil,et]
theorem DV:∀ro ys T K,AL FW vH VfQ ro ys T K→VCx prog aM ro mI ys T K:=by
 intro ro ys T K hw
 unfold AL at hw
 split at hw
 ·rename_i p b tok
  split at hw
  ·rename_i s m x d0 u0 hp
   split at hw
   ·rename_i o sh lk es ck hs hm
    obtain ⟨w,⟨⟨rfl,n1,n2,n3⟩,rfl,rfl,⟨hI,hn⟩,hT,rfl,ht⟩,hk⟩:=hw
    have hw1:=lY hI
    have hb:=tN hI
    have n1:=Fz n1
    have n2:=Fz n2
    have n3:=Fz n3
    have hg:=FA hw1 hT n1 n2 n3 hs hm hp ht
    have i2:aL [s,m,p] p=some 2:=by simp [aL,idxOf?,findIdx?,findIdx?.go,n2,n3]
    refine (VCx.lift (xs:= [.ptr 2 0,.vec 1 b (tok.ren (aL [s,m,p]) (aL (List.range (tM (bN w 0)).length)))]) [s,m,p] (List.range (tM (bN w 0)).length) bc (by simp [n1,n2,n3]) List.nodup_range (FB hs hm hp) (λk hk=>by rw [ht];exact List.mem_range.1 hk) (λ_ _=>zero_le _) (by simp only [aw,TV.ren,i2,hb.ren]) (by rw [hg];exact Tu hI (Km hI hn) hT _) (λy T' hq=> ?_)).mono ?_
    ·obtain ⟨_,d',u',lk',es',ck',_,rfl⟩:=hq
     refine ⟨le_refl 3,?_⟩
     show _≤(tM (bN (w++b) 0)).length
     rw [zn]
     exact Va
    ·rintro y T' ⟨x',T2,⟨rfl,d',u',lk',es',ck',h2,rfl⟩,rfl,rfl⟩
     rw [FC hI h2 ht,uU hI]
     exact hk lk' es' ck' _ d' u' _ ⟨h2,rfl,rfl⟩
   ·exact hw.elim
  ·exact hw.elim
 ·exact hw.elim
theorem Ko:∀ro ys T K,Fv FW Kn ro ys T K→VCx prog aM ro qJ ys T K:=by
 intro ro ys T K hw
 unfold Fv at hw
 split at hw
 ·rename_i p
  split at hw
  ·rename_i s m x d0 u0 hp
   split at hw
   ·rename_i o sh lk es ck hs hm
    obtain ⟨w,⟨⟨rfl,n1,n2,n3⟩,rfl,rfl,hI,hT,rfl,ht⟩,hk⟩:=hw
    have n1:=Fz n1
    have n2:=Fz n2
    have n3:=Fz n3
    have hg:=FA hI hT n1 n2 n3 hs hm hp ht
    have i2:aL [s,m,p] p=some 2:=by simp [aL,idxOf?,findIdx?,findIdx?.go,n2,n3]
    refine (VCx.lift (xs:= [.ptr 2 0]) [s,m,p] (List.range (tM (bN w 0)).length) bc (by simp [n1,n2,n3]) List.nodup_range (FB hs hm hp) (λk hk=>by rw [ht];exact List.mem_range.1 hk) (λ_ _=>zero_le _) (by simp only [aw,TV.ren,i2]) (by rw [hg];exact VCx.anyG (Ty (jE hI) (ji hI) hT)) (λy T' hq=> ?_)).mono ?_
    ·obtain ⟨_,rfl⟩:=hq
     exact ⟨le_refl 3,by rw [List.length_range];exact le_refl _⟩
    ·rintro y T' ⟨x',T2,⟨rfl,rfl⟩,rfl,rfl⟩
     have hI0:IsB (w++ []):=by rw [append_nil];exact hI
     have hb:=FC (T:=T) (s:=s) (m:=m) (p:=p) (w:=w) (b:= []) (lk:=lk) (es:=es) (ck:=ck) (d:=d0) (u:=u0) hI0 (by rw [append_nil];exact hT) ht
     rw [append_nil] at hb
     have hb':T.back [s,m,p] (List.range (tM (bN w 0)).length) (cZ (de 0 w) lk es ck (xM (bN w 0)) d0 u0 [] (tM (bN w 0)))=_:=hb
     have hp':T.objs[p]?=some (lq s m (xM (bN w 0)) d0 u0):=hp
     rw [hb',mK hs,mK hm,mK hp',←ht]
     simp only [TV.ren,dB,Tok.ren]
     exact hk
   ·exact hw.elim
  ·exact hw.elim
 ·exact hw.elim
theorem TR:VCx prog aM 0 DO [] ⟨[],[]⟩ λx T'=>x=.ptr 2 0∧T'=⟨[de 0 [],.map kP (λ_=>none) [] 0,lq 0 1 (.val (.slice none 0 0)) 0 0],[]⟩:=
 aj ac aa (aZ λq hq=>by obtain rfl:=mem_singleton.1 hq;exact SA (de 0 [])) ag (U0 (de 0 []) _) ⟨rfl,rfl,rfl⟩
theorem Kp:∀ro ys T K,Fu (de 0 []) ro ys T K→VCx prog aM ro DO ys T K:=by
 intro ro ys T K hw
 unfold Fu at hw
 split at hw
 ·refine (VCx.lift (T:=T) [] [] bc nodup_nil nodup_nil (by simp) (by simp) (by simp) rfl (by rw [VT.give_nil];exact TR) (λ_ _ _=>⟨zero_le _,zero_le _⟩)).mono ?_
  rintro z T' ⟨x,T'',⟨rfl,rfl⟩,rfl,rfl⟩
  rw [VT.back_nil]
  have e1:TV.ren (aJ T.objs.length []) (aJ T.tails.length []) (.ptr 2 0)=.ptr (T.objs.length+2) 0:=by simp [TV.ren,aJ]
  have e2:VO.ren (aJ T.objs.length []) (aJ T.tails.length []) (lq 0 1 (.val (.slice none 0 0)) 0 0)=lq T.objs.length (T.objs.length+1) (.val (.slice none 0 0)) 0 0:=by simp [lq,VO.ren,aw,TV.ren,aJ]
  have e3:VO.ren (aJ T.objs.length []) (aJ T.tails.length []) (.map kP (λ_=>none) [] 0)=.map kP (λ_=>none) [] 0:=rfl
  simp only [map_cons,map_nil,jE .nil,e1,e2,e3,append_nil]
  exact hw
 ·exact hw.elim
end
section
open Go Go.RowKit
theorem dG:prog.follows .mixedOrders=true:=by kernel_rfl
theorem da:eQ prog=true:=by kernel_rfl
def TS:cK:=⟨[(.agg [(.val (.int .i64 0)),(.val (.slice none 0 0)),(.val (.int .u32 9)),(.val (.int .i64 0)),(.val (.bool false))])],⟨[],[]⟩,(.row 1 0 0 14),⟨[(.row [(.val (.int .u8 64)),(.val (.int .u8 1)),(.val (.int .u8 1)),(.val (.int .u8 0)),(.val (.int .u8 64)),(.val (.int .u8 2)),(.val (.int .u8 0)),(.val (.int .u8 64)),(.val (.int .u8 3)),(.val (.int .u8 4)),(.val (.int .u8 0)),(.val (.int .u8 0)),(.val (.int .u8 0)),(.val (.int .u8 9))])],[]⟩⟩
def TU:cK:=⟨[(.agg [(.val (.slice none 0 0)),(.val (.int .i64 0)),(.val (.slice none 0 0)),(.val (.int .u32 9)),(.val (.int .i64 0)),(.val (.bool false)),(.vec 2 [[(.val (.int .u32 16777216)),(.val (.int .i64 8))]] .none)])],⟨[],[]⟩,(.row 1 0 0 20),⟨[(.row [(.val (.int .u8 0)),(.val (.int .u8 0)),(.val (.int .u8 0)),(.val (.int .u8 14)),(.val (.int .u8 64)),(.val (.int .u8 1)),(.val (.int .u8 1)),(.val (.int .u8 0)),(.val (.int .u8 64)),(.val (.int .u8 2)),(.val (.int .u8 0)),(.val (.int .u8 64)),(.val (.int .u8 3)),(.val (.int .u8 4)),(.val (.int .u8 0)),(.val (.int .u8 0)),(.val (.int .u8 0)),(.val (.int .u8 9)),(.val (.int .u8 8)),(.val (.int .u8 1))])],[]⟩⟩
def TW:cK:=⟨[(.agg [(.val (.slice none 0 0)),(.val (.int .i64 0)),(.val (.slice none 0 0)),(.val (.int .u32 9)),(.val (.int .i64 0)),(.val (.bool false)),(.vec 2 [[(.val (.int .u32 16777216)),(.val (.int .i64 8))]] .none)])],⟨[],[]⟩,(.row 1 0 0 20),⟨[(.row [(.val (.int .u8 0)),(.val (.int .u8 0)),(.val (.int .u8 0)),(.val (.int .u8 14)),(.val (.int .u8 64)),(.val (.int .u8 1)),(.val (.int .u8 1)),(.val (.int .u8 0)),(.val (.int .u8 64)),(.val (.int .u8 2)),(.val (.int .u8 0)),(.val (.int .u8 64)),(.val (.int .u8 3)),(.val (.int .u8 4)),(.val (.int .u8 0)),(.val (.int .u8 0)),(.val (.int .u8 0)),(.val (.int .u8 9)),(.val (.int .u8 8)),(.val (.int .u8 1))])],[]⟩⟩
def TX:cK:=⟨[(.agg [(.val (.int .i64 2)),(.val (.int .i64 0)),(.val (.int .i64 0)),(.val (.int .u32 0)),(.val (.slice none 0 0)),(.val (.slice none 0 0)),(.val (.int .i64 0)),(.val (.slice none 0 0)),(.val (.int .u32 9)),(.val (.int .i64 0)),(.val (.bool false)),(.vec 2 [[(.val (.int .u32 16777216)),(.val (.int .i64 8))]] .none),(.val (.int .i64 0)),(.val (.int .i64 0)),(.val (.slice none 0 0))])],⟨[],[]⟩,(.row 1 0 0 39),⟨[(.row [(.val (.int .u8 255)),(.val (.int .u8 255)),(.val (.int .u8 255)),(.val (.int .u8 255)),(.val (.int .u8 255)),(.val (.int .u8 255)),(.val (.int .u8 255)),(.val (.int .u8 255)),(.val (.int .u8 255)),(.val (.int .u8 255)),(.val (.int .u8 255)),(.val (.int .u8 255)),(.val (.int .u8 255)),(.val (.int .u8 255)),(.val (.int .u8 255)),(.val (.int .u8 255)),(.val (.int .u8 0)),(.val (.int .u8 39)),(.val (.int .u8 2)),(.val (.int .u8 0)),(.val (.int .u8 0)),(.val (.int .u8 0)),(.val (.int .u8 14)),(.val (.int .u8 64)),(.val (.int .u8 1)),(.val (.int .u8 1)),(.val (.int .u8 0)),(.val (.int .u8 64)),(.val (.int .u8 2)),(.val (.int .u8 0)),(.val (.int .u8 64)),(.val (.int .u8 3)),(.val (.int .u8 4)),(.val (.int .u8 0)),(.val (.int .u8 0)),(.val (.int .u8 0)),(.val (.int .u8 9)),(.val (.int .u8 8)),(.val (.int .u8 1))])],[]⟩⟩
def MF:cK:=⟨[(.ptr 0 0)],⟨[(.cells [(.val (.bool true)),(.row 1 1 0 2),(.val (.int .i64 0)),(.val (.int .i64 0))]),(.row [(.val (.int .u8 8)),(.val (.int .u8 1))])],[]⟩,(.tup [(.agg [(.val (.int .u32 16777216)),(.val (.int .i64 8))]),(.val (.bool true))]),⟨[(.cells [(.val (.bool true)),(.vec 1 [] (.past 1 2)),(.val (.int .i64 2)),(.val (.int .i64 0))]),(.row [(.val (.int .u8 8)),(.val (.int .u8 1))])],[]⟩⟩
def TY:cK:=⟨[(.row 1 0 0 14)],⟨[(.row [(.val (.int .u8 64)),(.val (.int .u8 1)),(.val (.int .u8 1)),(.val (.int .u8 0)),(.val (.int .u8 64)),(.val (.int .u8 2)),(.val (.int .u8 0)),(.val (.int .u8 64)),(.val (.int .u8 3)),(.val (.int .u8 4)),(.val (.int .u8 0)),(.val (.int .u8 0)),(.val (.int .u8 0)),(.val (.int .u8 9))])],[]⟩,(.tup [(.row 3 1 0 3),(.agg [(.val (.int .i64 0)),(.val (.int .i64 0)),(.val (.slice none 0 0))])]),⟨[(.row [(.val (.int .u8 64)),(.val (.int .u8 1)),(.val (.int .u8 1)),(.val (.int .u8 0)),(.val (.int .u8 64)),(.val (.int .u8 2)),(.val (.int .u8 0)),(.val (.int .u8 64)),(.val (.int .u8 3)),(.val (.int .u8 4)),(.val (.int .u8 0)),(.val (.int .u8 0)),(.val (.int .u8 0)),(.val (.int .u8 9))]),(.row [(.val (.int .i64 64)),(.val (.int .i64 1)),(.row 1 2 0 1),(.val (.int .i64 64)),(.val (.int .i64 2)),(.vec 1 [] .none),(.val (.int .i64 64)),(.val (.int .i64 3)),(.row 1 3 0 4)]),(.row [(.val (.int .u8 0))]),(.row [(.val (.int .u8 0)),(.val (.int .u8 0)),(.val (.int .u8 0)),(.val (.int .u8 9))])],[]⟩⟩
def TZ:cK:=⟨[(.row 1 0 0 14)],⟨[(.row [(.val (.int .u8 64)),(.val (.int .u8 1)),(.val (.int .u8 1)),(.val (.int .u8 0)),(.val (.int .u8 64)),(.val (.int .u8 2)),(.val (.int .u8 0)),(.val (.int .u8 64)),(.val (.int .u8 3)),(.val (.int .u8 4)),(.val (.int .u8 0)),(.val (.int .u8 0)),(.val (.int .u8 0)),(.val (.int .u8 9))])],[]⟩,(.tup [(.agg [(.val (.int .i64 0)),(.val (.slice none 0 0)),(.val (.int .u32 9)),(.val (.int .i64 0)),(.val (.bool false))]),(.agg [(.val (.int .i64 0)),(.val (.int .i64 0)),(.val (.slice none 0 0))])]),⟨[(.row [(.val (.int .u8 64)),(.val (.int .u8 1)),(.val (.int .u8 1)),(.val (.int .u8 0)),(.val (.int .u8 64)),(.val (.int .u8 2)),(.val (.int .u8 0)),(.val (.int .u8 64)),(.val (.int .u8 3)),(.val (.int .u8 4)),(.val (.int .u8 0)),(.val (.int .u8 0)),(.val (.int .u8 0)),(.val (.int .u8 9))])],[]⟩⟩
def T4:cK:=⟨[(.row 1 0 19 20)],⟨[(.row [(.val (.int .u8 255)),(.val (.int .u8 255)),(.val (.int .u8 255)),(.val (.int .u8 255)),(.val (.int .u8 255)),(.val (.int .u8 255)),(.val (.int .u8 255)),(.val (.int .u8 255)),(.val (.int .u8 255)),(.val (.int .u8 255)),(.val (.int .u8 255)),(.val (.int .u8 255)),(.val (.int .u8 255)),(.val (.int .u8 255)),(.val (.int .u8 255)),(.val (.int .u8 255)),(.val (.int .u8 0)),(.val (.int .u8 39)),(.val (.int .u8 2)),(.val (.int .u8 0)),(.val (.int .u8 0)),(.val (.int .u8 0)),(.val (.int .u8 14)),(.val (.int .u8 64)),(.val (.int .u8 1)),(.val (.int .u8 1)),(.val (.int .u8 0)),(.val (.int .u8 64)),(.val (.int .u8 2)),(.val (.int .u8 0)),(.val (.int .u8 64)),(.val (.int .u8 3)),(.val (.int .u8 4)),(.val (.int .u8 0)),(.val (.int .u8 0)),(.val (.int .u8 0)),(.val (.int .u8 9)),(.val (.int .u8 8)),(.val (.int .u8 1))])],[]⟩,(.tup [(.agg [(.val (.slice none 0 0)),(.val (.int .i64 0)),(.val (.slice none 0 0)),(.val (.int .u32 9)),(.val (.int .i64 0)),(.val (.bool false)),(.row 2 1 0 1)]),(.agg [(.val (.int .i64 0)),(.val (.int .i64 0)),(.val (.slice none 0 0))])]),⟨[(.row [(.val (.int .u8 255)),(.val (.int .u8 255)),(.val (.int .u8 255)),(.val (.int .u8 255)),(.val (.int .u8 255)),(.val (.int .u8 255)),(.val (.int .u8 255)),(.val (.int .u8 255)),(.val (.int .u8 255)),(.val (.int .u8 255)),(.val (.int .u8 255)),(.val (.int .u8 255)),(.val (.int .u8 255)),(.val (.int .u8 255)),(.val (.int .u8 255)),(.val (.int .u8 255)),(.val (.int .u8 0)),(.val (.int .u8 39)),(.val (.int .u8 2)),(.val (.int .u8 0)),(.val (.int .u8 0)),(.val (.int .u8 0)),(.val (.int .u8 14)),(.val (.int .u8 64)),(.val (.int .u8 1)),(.val (.int .u8 1)),(.val (.int .u8 0)),(.val (.int .u8 64)),(.val (.int .u8 2)),(.val (.int .u8 0)),(.val (.int .u8 64)),(.val (.int .u8 3)),(.val (.int .u8 4)),(.val (.int .u8 0)),(.val (.int .u8 0)),(.val (.int .u8 0)),(.val (.int .u8 9)),(.val (.int .u8 8)),(.val (.int .u8 1))]),(.row [(.val (.int .u32 16777216)),(.val (.int .i64 8))])],[]⟩⟩
def T5:cK:=⟨[(.row 1 0 0 39),(.val (.int .i64 0))],⟨[(.row [(.val (.int .u8 255)),(.val (.int .u8 255)),(.val (.int .u8 255)),(.val (.int .u8 255)),(.val (.int .u8 255)),(.val (.int .u8 255)),(.val (.int .u8 255)),(.val (.int .u8 255)),(.val (.int .u8 255)),(.val (.int .u8 255)),(.val (.int .u8 255)),(.val (.int .u8 255)),(.val (.int .u8 255)),(.val (.int .u8 255)),(.val (.int .u8 255)),(.val (.int .u8 255)),(.val (.int .u8 0)),(.val (.int .u8 39)),(.val (.int .u8 2)),(.val (.int .u8 0)),(.val (.int .u8 0)),(.val (.int .u8 0)),(.val (.int .u8 14)),(.val (.int .u8 64)),(.val (.int .u8 1)),(.val (.int .u8 1)),(.val (.int .u8 0)),(.val (.int .u8 64)),(.val (.int .u8 2)),(.val (.int .u8 0)),(.val (.int .u8 64)),(.val (.int .u8 3)),(.val (.int .u8 4)),(.val (.int .u8 0)),(.val (.int .u8 0)),(.val (.int .u8 0)),(.val (.int .u8 9)),(.val (.int .u8 8)),(.val (.int .u8 1))])],[]⟩,(.tup [(.agg [(.val (.int .i64 2)),(.val (.int .i64 0)),(.val (.int .i64 0)),(.val (.int .u32 0)),(.val (.slice none 0 0)),(.val (.slice none 0 0)),(.val (.int .i64 0)),(.val (.slice none 0 0)),(.val (.int .u32 9)),(.val (.int .i64 0)),(.val (.bool false)),(.row 2 1 0 1),(.val (.int .i64 0)),(.val (.int .i64 0)),(.val (.slice none 0 0))]),(.agg [(.val (.int .i64 0)),(.val (.int .i64 0)),(.val (.slice none 0 0))])]),⟨[(.row [(.val (.int .u8 255)),(.val (.int .u8 255)),(.val (.int .u8 255)),(.val (.int .u8 255)),(.val (.int .u8 255)),(.val (.int .u8 255)),(.val (.int .u8 255)),(.val (.int .u8 255)),(.val (.int .u8 255)),(.val (.int .u8 255)),(.val (.int .u8 255)),(.val (.int .u8 255)),(.val (.int .u8 255)),(.val (.int .u8 255)),(.val (.int .u8 255)),(.val (.int .u8 255)),(.val (.int .u8 0)),(.val (.int .u8 39)),(.val (.int .u8 2)),(.val (.int .u8 0)),(.val (.int .u8 0)),(.val (.int .u8 0)),(.val (.int .u8 14)),(.val (.int .u8 64)),(.val (.int .u8 1)),(.val (.int .u8 1)),(.val (.int .u8 0)),(.val (.int .u8 64)),(.val (.int .u8 2)),(.val (.int .u8 0)),(.val (.int .u8 64)),(.val (.int .u8 3)),(.val (.int .u8 4)),(.val (.int .u8 0)),(.val (.int .u8 0)),(.val (.int .u8 0)),(.val (.int .u8 9)),(.val (.int .u8 8)),(.val (.int .u8 1))]),(.row [(.val (.int .u32 16777216)),(.val (.int .i64 8))])],[]⟩⟩
def T6:cK:=⟨[(.ptr 0 0),(.row 1 1 0 39)],⟨[(.cells [(.val (.bool true)),(.val (.int .i64 0)),(.val (.slice none 0 0)),(.val (.int .i64 0)),(.val (.int .i64 0)),(.val (.slice none 0 0)),(.val (.int .i64 0))]),(.row [(.val (.int .u8 255)),(.val (.int .u8 255)),(.val (.int .u8 255)),(.val (.int .u8 255)),(.val (.int .u8 255)),(.val (.int .u8 255)),(.val (.int .u8 255)),(.val (.int .u8 255)),(.val (.int .u8 255)),(.val (.int .u8 255)),(.val (.int .u8 255)),(.val (.int .u8 255)),(.val (.int .u8 255)),(.val (.int .u8 255)),(.val (.int .u8 255)),(.val (.int .u8 255)),(.val (.int .u8 0)),(.val (.int .u8 39)),(.val (.int .u8 2)),(.val (.int .u8 0)),(.val (.int .u8 0)),(.val (.int .u8 0)),(.val (.int .u8 14)),(.val (.int .u8 64)),(.val (.int .u8 1)),(.val (.int .u8 1)),(.val (.int .u8 0)),(.val (.int .u8 64)),(.val (.int .u8 2)),(.val (.int .u8 0)),(.val (.int .u8 64)),(.val (.int .u8 3)),(.val (.int .u8 4)),(.val (.int .u8 0)),(.val (.int .u8 0)),(.val (.int .u8 0)),(.val (.int .u8 9)),(.val (.int .u8 8)),(.val (.int .u8 1))])],[]⟩,(.tup [(.row 15 2 0 1),(.agg [(.val (.int .i64 0)),(.val (.int .i64 0)),(.val (.slice none 0 0))])]),⟨[(.cells [(.val (.bool true)),(.val (.int .i64 0)),(.row 1 4 0 0),(.val (.int .i64 0)),(.val (.int .i64 0)),(.val (.slice none 0 0)),(.val (.int .i64 1))]),(.row [(.val (.int .u8 255)),(.val (.int .u8 255)),(.val (.int .u8 255)),(.val (.int .u8 255)),(.val (.int .u8 255)),(.val (.int .u8 255)),(.val (.int .u8 255)),(.val (.int .u8 255)),(.val (.int .u8 255)),(.val (.int .u8 255)),(.val (.int .u8 255)),(.val (.int .u8 255)),(.val (.int .u8 255)),(.val (.int .u8 255)),(.val (.int .u8 255)),(.val (.int .u8 255)),(.val (.int .u8 0)),(.val (.int .u8 39)),(.val (.int .u8 2)),(.val (.int .u8 0)),(.val (.int .u8 0)),(.val (.int .u8 0)),(.val (.int .u8 14)),(.val (.int .u8 64)),(.val (.int .u8 1)),(.val (.int .u8 1)),(.val (.int .u8 0)),(.val (.int .u8 64)),(.val (.int .u8 2)),(.val (.int .u8 0)),(.val (.int .u8 64)),(.val (.int .u8 3)),(.val (.int .u8 4)),(.val (.int .u8 0)),(.val (.int .u8 0)),(.val (.int .u8 0)),(.val (.int .u8 9)),(.val (.int .u8 8)),(.val (.int .u8 1))]),(.row [(.val (.int .i64 2)),(.val (.int .i64 0)),(.val (.int .i64 0)),(.val (.int .u32 0)),(.val (.slice none 0 0)),(.val (.slice none 0 0)),(.val (.int .i64 0)),(.val (.slice none 0 0)),(.val (.int .u32 9)),(.val (.int .i64 0)),(.val (.bool false)),(.row 2 3 0 1),(.val (.int .i64 0)),(.val (.int .i64 0)),(.val (.slice none 0 0))]),(.row [(.val (.int .u32 16777216)),(.val (.int .i64 8))]),(.row [(.val (.int .u8 255)),(.val (.int .u8 255)),(.val (.int .u8 255)),(.val (.int .u8 255)),(.val (.int .u8 255)),(.val (.int .u8 255)),(.val (.int .u8 255)),(.val (.int .u8 255)),(.val (.int .u8 255)),(.val (.int .u8 255)),(.val (.int .u8 255)),(.val (.int .u8 255)),(.val (.int .u8 255)),(.val (.int .u8 255)),(.val (.int .u8 255)),(.val (.int .u8 255)),(.val (.int .u8 0)),(.val (.int .u8 39)),(.val (.int .u8 2)),(.val (.int .u8 0)),(.val (.int .u8 0)),(.val (.int .u8 0)),(.val (.int .u8 14)),(.val (.int .u8 64)),(.val (.int .u8 1)),(.val (.int .u8 1)),(.val (.int .u8 0)),(.val (.int .u8 64)),(.val (.int .u8 2)),(.val (.int .u8 0)),(.val (.int .u8 64)),(.val (.int .u8 3)),(.val (.int .u8 4)),(.val (.int .u8 0)),(.val (.int .u8 0)),(.val (.int .u8 0)),(.val (.int .u8 9)),(.val (.int .u8 8)),(.val (.int .u8 1))])],[]⟩⟩
def NF:cK:=⟨[(.agg [(.vec 2 [[(.val (.int .u32 16777216)),(.val (.int .i64 8))]] .none),(.val (.int .i64 0)),(.val (.slice none 0 0)),(.val (.int .u32 0)),(.val (.int .i64 0)),(.val (.bool false)),(.val (.slice none 0 0))])],⟨[],[]⟩,(.row 1 0 0 6),⟨[(.row [(.val (.int .u8 0)),(.val (.int .u8 2)),(.val (.int .u8 8)),(.val (.int .u8 1)),(.val (.int .u8 0)),(.val (.int .u8 0))])],[]⟩⟩
def NG:cK:=⟨[(.agg [(.vec 2 [[(.val (.int .u32 16777216)),(.val (.int .i64 8))]] .none),(.val (.int .i64 0)),(.val (.slice none 0 0)),(.val (.int .u32 0)),(.val (.int .i64 0)),(.val (.bool false)),(.val (.slice none 0 0))])],⟨[],[]⟩,(.row 1 0 0 6),⟨[(.row [(.val (.int .u8 0)),(.val (.int .u8 2)),(.val (.int .u8 8)),(.val (.int .u8 1)),(.val (.int .u8 0)),(.val (.int .u8 0))])],[]⟩⟩
def NH:cK:=⟨[(.agg [(.val (.int .i64 2)),(.val (.int .i64 0)),(.val (.int .i64 0)),(.val (.int .u32 0)),(.val (.slice none 0 0)),(.vec 2 [[(.val (.int .u32 16777216)),(.val (.int .i64 8))]] .none),(.val (.int .i64 0)),(.val (.slice none 0 0)),(.val (.int .u32 0)),(.val (.int .i64 0)),(.val (.bool false)),(.val (.slice none 0 0)),(.val (.int .i64 0)),(.val (.int .i64 0)),(.val (.slice none 0 0))])],⟨[],[]⟩,(.row 1 0 0 25),⟨[(.row [(.val (.int .u8 255)),(.val (.int .u8 255)),(.val (.int .u8 255)),(.val (.int .u8 255)),(.val (.int .u8 255)),(.val (.int .u8 255)),(.val (.int .u8 255)),(.val (.int .u8 255)),(.val (.int .u8 255)),(.val (.int .u8 255)),(.val (.int .u8 255)),(.val (.int .u8 255)),(.val (.int .u8 255)),(.val (.int .u8 255)),(.val (.int .u8 255)),(.val (.int .u8 255)),(.val (.int .u8 0)),(.val (.int .u8 25)),(.val (.int .u8 2)),(.val (.int .u8 0)),(.val (.int .u8 2)),(.val (.int .u8 8)),(.val (.int .u8 1)),(.val (.int .u8 0)),(.val (.int .u8 0))])],[]⟩⟩
def NI:cK:=⟨[(.row 1 0 19 6)],⟨[(.row [(.val (.int .u8 255)),(.val (.int .u8 255)),(.val (.int .u8 255)),(.val (.int .u8 255)),(.val (.int .u8 255)),(.val (.int .u8 255)),(.val (.int .u8 255)),(.val (.int .u8 255)),(.val (.int .u8 255)),(.val (.int .u8 255)),(.val (.int .u8 255)),(.val (.int .u8 255)),(.val (.int .u8 255)),(.val (.int .u8 255)),(.val (.int .u8 255)),(.val (.int .u8 255)),(.val (.int .u8 0)),(.val (.int .u8 25)),(.val (.int .u8 2)),(.val (.int .u8 0)),(.val (.int .u8 2)),(.val (.int .u8 8)),(.val (.int .u8 1)),(.val (.int .u8 0)),(.val (.int .u8 0))])],[]⟩,(.tup [(.agg [(.row 2 1 0 1),(.val (.int .i64 0)),(.val (.slice none 0 0)),(.val (.int .u32 0)),(.val (.int .i64 0)),(.val (.bool false)),(.val (.slice none 0 0))]),(.agg [(.val (.int .i64 0)),(.val (.int .i64 0)),(.val (.slice none 0 0))])]),⟨[(.row [(.val (.int .u8 255)),(.val (.int .u8 255)),(.val (.int .u8 255)),(.val (.int .u8 255)),(.val (.int .u8 255)),(.val (.int .u8 255)),(.val (.int .u8 255)),(.val (.int .u8 255)),(.val (.int .u8 255)),(.val (.int .u8 255)),(.val (.int .u8 255)),(.val (.int .u8 255)),(.val (.int .u8 255)),(.val (.int .u8 255)),(.val (.int .u8 255)),(.val (.int .u8 255)),(.val (.int .u8 0)),(.val (.int .u8 25)),(.val (.int .u8 2)),(.val (.int .u8 0)),(.val (.int .u8 2)),(.val (.int .u8 8)),(.val (.int .u8 1)),(.val (.int .u8 0)),(.val (.int .u8 0))]),(.row [(.val (.int .u32 16777216)),(.val (.int .i64 8))])],[]⟩⟩
def NJ:cK:=⟨[(.row 1 0 0 25),(.val (.int .i64 0))],⟨[(.row [(.val (.int .u8 255)),(.val (.int .u8 255)),(.val (.int .u8 255)),(.val (.int .u8 255)),(.val (.int .u8 255)),(.val (.int .u8 255)),(.val (.int .u8 255)),(.val (.int .u8 255)),(.val (.int .u8 255)),(.val (.int .u8 255)),(.val (.int .u8 255)),(.val (.int .u8 255)),(.val (.int .u8 255)),(.val (.int .u8 255)),(.val (.int .u8 255)),(.val (.int .u8 255)),(.val (.int .u8 0)),(.val (.int .u8 25)),(.val (.int .u8 2)),(.val (.int .u8 0)),(.val (.int .u8 2)),(.val (.int .u8 8)),(.val (.int .u8 1)),(.val (.int .u8 0)),(.val (.int .u8 0))])],[]⟩,(.tup [(.agg [(.val (.int .i64 2)),(.val (.int .i64 0)),(.val (.int .i64 0)),(.val (.int .u32 0)),(.val (.slice none 0 0)),(.row 2 1 0 1),(.val (.int .i64 0)),(.val (.slice none 0 0)),(.val (.int .u32 0)),(.val (.int .i64 0)),(.val (.bool false)),(.val (.slice none 0 0)),(.val (.int .i64 0)),(.val (.int .i64 0)),(.val (.slice none 0 0))]),(.agg [(.val (.int .i64 0)),(.val (.int .i64 0)),(.val (.slice none 0 0))])]),⟨[(.row [(.val (.int .u8 255)),(.val (.int .u8 255)),(.val (.int .u8 255)),(.val (.int .u8 255)),(.val (.int .u8 255)),(.val (.int .u8 255)),(.val (.int .u8 255)),(.val (.int .u8 255)),(.val (.int .u8 255)),(.val (.int .u8 255)),(.val (.int .u8 255)),(.val (.int .u8 255)),(.val (.int .u8 255)),(.val (.int .u8 255)),(.val (.int .u8 255)),(.val (.int .u8 255)),(.val (.int .u8 0)),(.val (.int .u8 25)),(.val (.int .u8 2)),(.val (.int .u8 0)),(.val (.int .u8 2)),(.val (.int .u8 8)),(.val (.int .u8 1)),(.val (.int .u8 0)),(.val (.int .u8 0))]),(.row [(.val (.int .u32 16777216)),(.val (.int .i64 8))])],[]⟩⟩
def NK:cK:=⟨[(.ptr 0 0),(.row 1 2 0 25)],⟨[(.cells [(.val (.bool true)),(.val (.int .i64 0)),(.row 1 1 0 0),(.val (.int .i64 0)),(.val (.int .i64 0)),(.val (.slice none 0 0)),(.val (.int .i64 1))]),(.row [(.val (.int .u8 255)),(.val (.int .u8 255)),(.val (.int .u8 255)),(.val (.int .u8 255)),(.val (.int .u8 255)),(.val (.int .u8 255)),(.val (.int .u8 255)),(.val (.int .u8 255)),(.val (.int .u8 255)),(.val (.int .u8 255)),(.val (.int .u8 255)),(.val (.int .u8 255)),(.val (.int .u8 255)),(.val (.int .u8 255)),(.val (.int .u8 255)),(.val (.int .u8 255)),(.val (.int .u8 0)),(.val (.int .u8 39)),(.val (.int .u8 2)),(.val (.int .u8 0)),(.val (.int .u8 0)),(.val (.int .u8 0)),(.val (.int .u8 14)),(.val (.int .u8 64)),(.val (.int .u8 1)),(.val (.int .u8 1)),(.val (.int .u8 0)),(.val (.int .u8 64)),(.val (.int .u8 2)),(.val (.int .u8 0)),(.val (.int .u8 64)),(.val (.int .u8 3)),(.val (.int .u8 4)),(.val (.int .u8 0)),(.val (.int .u8 0)),(.val (.int .u8 0)),(.val (.int .u8 9)),(.val (.int .u8 8)),(.val (.int .u8 1))]),(.row [(.val (.int .u8 255)),(.val (.int .u8 255)),(.val (.int .u8 255)),(.val (.int .u8 255)),(.val (.int .u8 255)),(.val (.int .u8 255)),(.val (.int .u8 255)),(.val (.int .u8 255)),(.val (.int .u8 255)),(.val (.int .u8 255)),(.val (.int .u8 255)),(.val (.int .u8 255)),(.val (.int .u8 255)),(.val (.int .u8 255)),(.val (.int .u8 255)),(.val (.int .u8 255)),(.val (.int .u8 0)),(.val (.int .u8 25)),(.val (.int .u8 2)),(.val (.int .u8 0)),(.val (.int .u8 2)),(.val (.int .u8 8)),(.val (.int .u8 1)),(.val (.int .u8 0)),(.val (.int .u8 0))])],[]⟩,(.tup [(.row 15 3 0 1),(.agg [(.val (.int .i64 0)),(.val (.int .i64 0)),(.val (.slice none 0 0))])]),⟨[(.cells [(.val (.bool true)),(.val (.int .i64 0)),(.row 1 5 0 0),(.val (.int .i64 0)),(.val (.int .i64 0)),(.val (.slice none 0 0)),(.val (.int .i64 2))]),(.row [(.val (.int .u8 255)),(.val (.int .u8 255)),(.val (.int .u8 255)),(.val (.int .u8 255)),(.val (.int .u8 255)),(.val (.int .u8 255)),(.val (.int .u8 255)),(.val (.int .u8 255)),(.val (.int .u8 255)),(.val (.int .u8 255)),(.val (.int .u8 255)),(.val (.int .u8 255)),(.val (.int .u8 255)),(.val (.int .u8 255)),(.val (.int .u8 255)),(.val (.int .u8 255)),(.val (.int .u8 0)),(.val (.int .u8 39)),(.val (.int .u8 2)),(.val (.int .u8 0)),(.val (.int .u8 0)),(.val (.int .u8 0)),(.val (.int .u8 14)),(.val (.int .u8 64)),(.val (.int .u8 1)),(.val (.int .u8 1)),(.val (.int .u8 0)),(.val (.int .u8 64)),(.val (.int .u8 2)),(.val (.int .u8 0)),(.val (.int .u8 64)),(.val (.int .u8 3)),(.val (.int .u8 4)),(.val (.int .u8 0)),(.val (.int .u8 0)),(.val (.int .u8 0)),(.val (.int .u8 9)),(.val (.int .u8 8)),(.val (.int .u8 1))]),(.row [(.val (.int .u8 255)),(.val (.int .u8 255)),(.val (.int .u8 255)),(.val (.int .u8 255)),(.val (.int .u8 255)),(.val (.int .u8 255)),(.val (.int .u8 255)),(.val (.int .u8 255)),(.val (.int .u8 255)),(.val (.int .u8 255)),(.val (.int .u8 255)),(.val (.int .u8 255)),(.val (.int .u8 255)),(.val (.int .u8 255)),(.val (.int .u8 255)),(.val (.int .u8 255)),(.val (.int .u8 0)),(.val (.int .u8 25)),(.val (.int .u8 2)),(.val (.int .u8 0)),(.val (.int .u8 2)),(.val (.int .u8 8)),(.val (.int .u8 1)),(.val (.int .u8 0)),(.val (.int .u8 0))]),(.row [(.val (.int .i64 2)),(.val (.int .i64 0)),(.val (.int .i64 0)),(.val (.int .u32 0)),(.val (.slice none 0 0)),(.row 2 4 0 1),(.val (.int .i64 0)),(.val (.slice none 0 0)),(.val (.int .u32 0)),(.val (.int .i64 0)),(.val (.bool false)),(.val (.slice none 0 0)),(.val (.int .i64 0)),(.val (.int .i64 0)),(.val (.slice none 0 0))]),(.row [(.val (.int .u32 16777216)),(.val (.int .i64 8))]),(.row [(.val (.int .u8 255)),(.val (.int .u8 255)),(.val (.int .u8 255)),(.val (.int .u8 255)),(.val (.int .u8 255)),(.val (.int .u8 255)),(.val (.int .u8 255)),(.val (.int .u8 255)),(.val (.int .u8 255)),(.val (.int .u8 255)),(.val (.int .u8 255)),(.val (.int .u8 255)),(.val (.int .u8 255)),(.val (.int .u8 255)),(.val (.int .u8 255)),(.val (.int .u8 255)),(.val (.int .u8 0)),(.val (.int .u8 25)),(.val (.int .u8 2)),(.val (.int .u8 0)),(.val (.int .u8 2)),(.val (.int .u8 8)),(.val (.int .u8 1)),(.val (.int .u8 0)),(.val (.int .u8 0))])],[]⟩⟩
theorem Vb:eo prog aM 127 TS:=dn (C:=fh []) dG da (cY bc cX) (by kernel_rfl) (X:=True) trivial (by kernel_rfl)
theorem Vc:eo prog aM 100 TU:=dn (C:=fh [(127,TS)]) dG da (cY bc (cD Vb cX)) (by kernel_rfl) (X:=True) trivial (by kernel_rfl)
theorem Vd:eo prog aM 72 TW:=dn (C:=fh [(100,TU)]) dG da (cY bc (cD Vc cX)) (by kernel_rfl) (X:=True) trivial (by kernel_rfl)
theorem Ve:eo prog aM 32 TX:=dn (C:=fh [(72,TW)]) dG da (cY bc (cD Vd cX)) (by kernel_rfl) (X:=True) trivial (by kernel_rfl)
theorem NL:eo prog aM 119 MF:=dn (C:=fh []) dG da (cY bc cX) (by kernel_rfl) (X:=True) trivial (by kernel_rfl)
theorem Vf:eo prog aM 120 TY:=dn (C:=fh []) dG da (cY bc cX) (by kernel_rfl) (X:=True) trivial (by kernel_rfl)
theorem Vg:eo prog aM 96 TZ:=dn (C:=fh [(120,TY)]) dG da (cY bc (cD Vf cX)) (by kernel_rfl) (X:=(True∧True)) ⟨trivial,trivial⟩ (by kernel_rfl)
theorem Vh:eo prog aM 67 T4:=dn (C:=fh [(119,MF),(96,TZ)]) dG da (cY bc (cD NL (cD Vg cX))) (by kernel_rfl) (X:=True) trivial (by kernel_rfl)
theorem Vi:eo prog aM 44 T5:=dn (C:=fh [(67,T4)]) dG da (cY bc (cD Vh cX)) (by kernel_rfl) (X:=True) trivial (by kernel_rfl)
theorem Vj:eo prog aM 8 T6:=dn (C:=fh [(44,T5)]) dG da (cY bc (cD Vi cX)) (by kernel_rfl) (X:=True) trivial (by kernel_rfl)
theorem T7:eo prog aM 100 NF:=dn (C:=fh []) dG da (cY bc cX) (by kernel_rfl) (X:=True) trivial (by kernel_rfl)
theorem T8:eo prog aM 72 NG:=dn (C:=fh [(100,NF)]) dG da (cY bc (cD T7 cX)) (by kernel_rfl) (X:=True) trivial (by kernel_rfl)
theorem T9:eo prog aM 32 NH:=dn (C:=fh [(72,NG)]) dG da (cY bc (cD T8 cX)) (by kernel_rfl) (X:=True) trivial (by kernel_rfl)
theorem Ua:eo prog aM 67 NI:=dn (C:=fh [(119,MF)]) dG da (cY bc (cD NL cX)) (by kernel_rfl) (X:=((True∧True)∧(True∧True))) ⟨⟨trivial,trivial⟩,⟨trivial,trivial⟩⟩ (by kernel_rfl)
theorem Ub:eo prog aM 44 NJ:=dn (C:=fh [(67,NI)]) dG da (cY bc (cD Ua cX)) (by kernel_rfl) (X:=True) trivial (by kernel_rfl)
theorem Uc:eo prog aM 8 NK:=dn (C:=fh [(44,NJ)]) dG da (cY bc (cD Ub cX)) (by kernel_rfl) (X:=True) trivial (by kernel_rfl)
theorem P9:VCx prog aM 0 15 [] ⟨[],[]⟩ iz:=Gq (C:=fh [(8,NK),(32,NH),(8,T6),(32,TX)]) dG da (cY bc (cD Uc (cD T9 (cD Vj (cD Ve cX))))) (X:=True) (by kernel_rfl) trivial
end
set_option maxRecDepth 100000
section
open Go.RowKit Go.Maps Go.Sort
theorem Qa:bN ([]:Bs) 0= []:=by unfold bN;rw [fu 0 (by simp)]
theorem VfQ.empty:VfQ [] (λ_=>none) [] 0 (.val (.slice none 0 0)) []:=by
 unfold VfQ nc
 rw [Qa]
 exact ⟨TbOk.empty 0,rfl,rfl⟩
def vI (b:Bs):Prop:=IsB b∧b.length≤20000
theorem Kq {b:Bs}(h:IsB b)(f g:Nat→Option Nat):(FW.ft b).ren f g=FW.ft b:=uU h f g
theorem Kr (b:Bs)(f g:Nat→Option Nat):br f g (FW.rx b)=FW.rx b:=dB f g (nc b)
theorem Ud {b:Bs}(hb:vI b)(tok:Tok):VCx prog aM 0 J6 [.vec 1 b tok] ⟨[],[]⟩ λx T'=>x=.tup [.vec 7 (FW.rx b) .none,FW.ft b]∧T'=⟨[],[]⟩:=by
 have hC:bu prog aM (aT [(DO,Fu (de 0 [])),(mI,AL FW vH VfQ),(qJ,Fv FW Kn)]):=aZ λq hq=>by
  simp only [mem_cons,not_mem_nil,or_false] at hq
  rcases hq with rfl | rfl | rfl
  ·exact Kp
  ·exact DV
  ·exact Ko
 refine VCx.keepQ 0 0 (le_refl _) (le_refl _) (aj ac aa hC ag (U1 (de 0 []) FW b tok vH VfQ Kn _) ?_)
 refine ⟨[],⟨⟨rfl,rfl,rfl,rfl⟩,rfl,rfl,hb,VfQ.empty⟩,λlk' es' ck' x' d u tl hq=>⟨b,⟨⟨rfl,rfl,rfl,rfl⟩,rfl,rfl,hb.1,hq⟩,⟨rfl,trivial⟩,?_,rfl⟩⟩
 have e1:=Kq hb.1 (ap 0) (ap 0)
 have e2:=Kr b (ap 0) (ap 0)
 show TV.tup [TV.vec 7 (br _ _ (FW.rx b)) (Tok.ren _ _ .none),(FW.ft b).ren _ _]=_
 rw [e1,e2]
 rfl
theorem Ue:∀ro ys T K,Ny FW vI ro ys T K→VCx prog aM ro J6 ys T K:=by
 intro ro ys T K hw
 unfold Ny at hw
 split at hw
 ·rename_i b tok
  obtain ⟨hb,hk⟩:=hw
  refine VCx.liftPure bc (Ud hb (tok.ren (aL []) (aL []))) (by simp only [aw,TV.ren,hb.1.ren]) (λf g=> ?_) hk
  simp only [TV.ren,aw,Kq hb.1,Kr,Tok.ren]
 ·exact hw.elim
theorem AR {G:aP}{x i:Operand}{l:List (Nat × TV)}{es:Bs}{tok:Tok}{k:IntKind}{z:Int}(hx:aA G l x=.vec 1 es tok)(hz:aA G l i=.val (.int k z))(h0:0≤z)(he:z.toNat≤es.length):aS prog G (.slice 22 x none (some i) none) l (.vec 1 (es.take z.toNat) .none):=by
 obtain ⟨inf,i1,i2,_,_⟩:=cJ
 have h:=Ci (P:=prog) (G:=G) (t:=22) (x:=x) (i:=i) (l:=l) (inf:=inf) (es:=es) (tok:=tok) underlying22 i1 (by rw [i2];exact hx) hz h0 he
 rw [i2] at h;exact h
theorem AS {G:aP}{x i:Operand}{l:List (Nat × TV)}{es:Bs}{tok:Tok}{k:IntKind}{z:Int}(hx:aA G l x=.vec 1 es tok)(hz:aA G l i=.val (.int k z))(h0:0≤z)(he:z.toNat≤es.length):aS prog G (.slice 22 x (some i) none none) l (.vec 1 (es.drop z.toNat) tok):=by
 obtain ⟨inf,i1,i2,_,_⟩:=cJ
 have h:=Cj (P:=prog) (G:=G) (t:=22) (x:=x) (i:=i) (l:=l) (inf:=inf) (es:=es) (tok:=tok) underlying22 i1 (by rw [i2];exact hx) hz h0 he
 rw [i2] at h;exact h
theorem Ks {G:aP}{x i:Operand}{l:List (Nat × TV)}{es:Bs}{tok:Tok}{k:IntKind}{z:Int}{cs:List TV}(hx:aA G l x=.vec 1 es tok)(hz:aA G l i=.val (.int k z))(h0:0≤z)(he:es[z.toNat]?=some cs):aS prog G (.indexAddr 22 x i) l (.elt cs):=by
 obtain ⟨inf,i1,i2,_,_⟩:=cJ
 exact fp (inf:=inf) underlying22 i1 (by rw [i2];exact hx) hz h0 he
section
variable {f1 f2:VO}{R R2 b:Bs}{zs:List Int}
def yq (b w rb:Bs)(lk:bF)(es:bw)(ck:Nat)(x:TV)(tl:bq):Prop:=b=w++rb∧VfQ w lk es ck x tl
def Uf (b:Bs)(o:VO)(lk:bF)(es:bw)(ck:Nat)(x:TV)(tl:bq):Prop:=o=de 0 []∧vI b∧VfQ [] lk es ck x tl
structure NM where
 j:Nat
 w:Bs
 rb:Bs
 lk:bF
 es:bw
 ck:Nat
 x:TV
 d:Int
 u:Int
 tl:bq
theorem VfQ.tlen {w:Bs}{lk:bF}{es:bw}{ck:Nat}{x:TV}{tl:bq}(h:VfQ w lk es ck x tl):tl.length≤1:=by
 rw [h.2.2];exact ue _
theorem Qb (hb:vI b)(hz:∀z∈zs,0≤z∧z<256)(hl:zs.length≤100){lk:bF}{es:bw}{ck:Nat}{x:TV}{d u:Int}{tl:bq}(hQ:VfQ [] lk es ck x tl):∀K:KX,(∀(w rb:Bs) (lk':bF) (es':bw) (ck':Nat) (x':TV) (d u:Int) (tl':bq),yq b w rb lk' es' ck' x' tl'→K .normal (aI 92 t7 (t8 R R2 rb (bV zs) (bV zs).length)) (uc f1 f2 (FW.so w) lk' es' ck' x' d u tl') [])→VWx prog aM none 0 (aE prog vF 0) (aI 92 t7 (t8 R R2 b (bV zs) 0)) (uc f1 f2 (de 0 []) lk es ck x d u tl) [] K:=by
 intro K hK
 have hlen:(bV zs).length=zs.length:=length_map _
 have hC:bu prog aM (aT [(mI,AL FW vH VfQ)]):=aZ λq hq=>by
  obtain rfl:=mem_singleton.1 hq
  exact DV
 refine dM (ι:=NM) (f:=vF) (id:=0) (by kernel_rfl) 92 t7 (λs=>zs.length-s.j) (λs=>t8 R R2 s.rb (bV zs) s.j) (λs=>uc f1 f2 (de 0 s.w) s.lk s.es s.ck s.x s.d s.u s.tl) (λs=>s.j≤zs.length∧yq b s.w s.rb s.lk s.es s.ck s.x s.tl) 5 1 (λs hs=>⟨le_refl _,hs.2.2.tlen⟩)
  (λe vs T=>e=.normal∧∃s:NM,yq b s.w s.rb s.lk s.es s.ck s.x s.tl∧vs=t8 R R2 s.rb (bV zs) (bV zs).length∧T=uc f1 f2 (de 0 s.w) s.lk s.es s.ck s.x s.d s.u s.tl) (λs hs=> ?_) ⟨0,[],b,lk,es,ck,x,d,u,tl⟩ ⟨zero_le _,rfl,hQ⟩ K (λe vs T hq=> ?_)
 ·obtain ⟨j,w,rb,lk,es,ck,x,d,u,tl⟩:=s
  obtain ⟨hj,hbw,hQ⟩:=hs
  simp only at hj hbw hQ
  by_cases hlt:j<zs.length
  ·obtain ⟨z,hzj⟩:∃z,zs[j]?=some z:=⟨_,getElem?_eq_getElem hlt⟩
   have hz2:=hz z (mem_of_getElem? hzj)
   have hat:(bV zs)[((j:Nat):Int).toNat]?=some [.val (.int .u8 z)]:=by
    rw [toNat_natCast]
    unfold bV
    rw [getElem?_map,hzj];rfl
   have hwz:wrap i64 z=z:=dE (by omega) (by omega)
   have fin:∀(k:Nat),k≤rb.length→∀(lk':bF) (es':bw) (ck':Nat) (x':TV) (d u:Int) (tl':bq),VfQ (w++rb.take k) lk' es' ck' x' tl'→Gs 92 0 (λs:NM=>zs.length-s.j) (λs=>t8 R R2 s.rb (bV zs) s.j) (λs=>uc f1 f2 (de 0 s.w) s.lk s.es s.ck s.x s.d s.u s.tl) (λs=>s.j≤zs.length∧yq b s.w s.rb s.lk s.es s.ck s.x s.tl) 5 1 ⟨j,w,rb,lk,es,ck,x,d,u,tl⟩ (λe vs T=>e=.normal∧∃s:NM,yq b s.w s.rb s.lk s.es s.ck s.x s.tl∧vs=t8 R R2 s.rb (bV zs) (bV zs).length∧T=uc f1 f2 (de 0 s.w) s.lk s.es s.ck s.x s.d s.u s.tl) .normal (t8 R R2 (rb.drop k) (bV zs) (wrap i64 ((j:Int)+1))) (uc f1 f2 (FW.so (w++rb.take k)) lk' es' ck' x' d u tl') [] 92:=λk hk lk' es' ck' x' d u tl' h=>by
    refine ⟨rfl,rfl,⟨j+1,w++rb.take k,rb.drop k,lk',es',ck',x',d,u,tl'⟩,⟨hlt,?_,h⟩,by simp only;omega,.inl ⟨rfl,?_⟩⟩
    ·rw [hbw,append_assoc,List.take_append_drop]
    ·rw [pB hlt (by omega)]
   have hpre:∀k,vH w (de 0 w) lk es ck x tl (rb.take k):=λk=>by
    have e:w++rb=(w++rb.take k)++rb.drop k:=by rw [append_assoc,List.take_append_drop]
    have h1:IsB ((w++rb.take k)++rb.drop k):=by rw [←e,←hbw];exact hb.1
    have h2:=hb.2
    rw [hbw,e,length_append] at h2
    exact ⟨rfl,⟨lY h1,by omega⟩,hQ⟩
   by_cases hc:wrap i64 z>(rb.length:Int)
   ·refine bU ac aa hC ag (DQ f1 f2 (de 0 w) FW lk es ck x d u tl R R2 rb (rb.take rb.length) (rb.drop rb.length) (bV zs) z j vH VfQ _) ?_
    refine bd (decide_eq_true (by rw [hlen];omega)) ⟨Ks rfl rfl (by omega) hat,bd (decide_eq_true hc) ⟨?_,w,⟨⟨rfl,rfl,rfl,rfl⟩,rfl,hpre rb.length⟩,λlk' es' ck' x' d' u' tl' h=>⟨?_,fin rb.length (le_refl _) lk' es' ck' x' d' u' tl' h⟩⟩⟩
    ·exact AR (G:=aM) (x:=.tmp 58) (i:=.tmp 59) (l:= [(58,.vec 1 rb .none),(59,.val (.int .i64 (rb.length:Int)))]) (es:=rb) (tok:=.none) (k:=.i64) (z:=(rb.length:Int)) rfl rfl (by omega) (by simp)
    ·exact AS (G:=aM) (x:=.tmp 62) (i:=.tmp 63) (l:= [(62,.vec 1 rb .none),(63,.val (.int .i64 (rb.length:Int)))]) (es:=rb) (tok:=.none) (k:=.i64) (z:=(rb.length:Int)) rfl rfl (by omega) (by simp)
   ·refine bU ac aa hC ag (DQ f1 f2 (de 0 w) FW lk es ck x d u tl R R2 rb (rb.take z.toNat) (rb.drop z.toNat) (bV zs) z j vH VfQ _) ?_
    refine bd (decide_eq_true (by rw [hlen];omega)) ⟨Ks rfl rfl (by omega) hat,bg (decide_eq_false hc) ⟨?_,w,⟨⟨rfl,rfl,rfl,rfl⟩,rfl,hpre z.toNat⟩,λlk' es' ck' x' d' u' tl' h=>⟨?_,fin z.toNat (by rw [hwz] at hc;omega) lk' es' ck' x' d' u' tl' h⟩⟩⟩
    ·rw [hwz] at hc ⊢
     exact AR (G:=aM) (x:=.tmp 58) (i:=.tmp 59) (l:= [(58,.vec 1 rb .none),(59,.val (.int .i64 z))]) (es:=rb) (tok:=.none) (k:=.i64) (z:=z) rfl rfl (by omega) (by omega)
    ·rw [hwz] at hc ⊢
     exact AS (G:=aM) (x:=.tmp 62) (i:=.tmp 63) (l:= [(62,.vec 1 rb .none),(63,.val (.int .i64 z))]) (es:=rb) (tok:=.none) (k:=.i64) (z:=z) rfl rfl (by omega) (by omega)
  ·have hjl:j=zs.length:=by omega
   refine bU ac aa hC ag (DQ f1 f2 (de 0 w) FW lk es ck x d u tl R R2 rb [] [] (bV zs) 0 j vH VfQ _) ?_
   refine bg (decide_eq_false (by rw [hlen];omega)) ⟨rfl,rfl,rfl,⟨j,w,rb,lk,es,ck,x,d,u,tl⟩,⟨hbw,hQ⟩,?_,rfl⟩
   show t8 R R2 rb (bV zs) (j:Int)=_
   rw [hjl,hlen]
 ·obtain ⟨rfl,s,h,rfl,rfl⟩:=hq
  exact hK _ _ _ _ _ _ _ _ _ h
end
theorem AT {r:bA}:∀{ps:List Px} {W:List bA},r∈gu W ps→r∈W
 |[],_,h=>h
 |_::ps,_,h=>(dP.1 (AT (ps:=ps) h)).1
theorem AU {r:bA}{a:AtV}:∀{ps:List Px} {W:List bA},r∈j4 W ps a→r∈W∨r.2=a
 |[],_,h=>.inl h
 |p::ps,W,h=>by
  rcases AU (ps:=ps) (W:=jF W (p,a)) h with h | h
  ·rcases gN.1 h with h | h
   ·exact .inr (by rw [h])
   ·exact .inl h.1
  ·exact .inr h
theorem Kt:∀{A:List MsgS} {W:List bA},gi A→(∀r∈W,tX r)→∀r∈kO W A,tX r
 |[],_,_,h=>h
 |M::A,W,hA,h=>by
  refine Kt (A:=A) (W:=j5 W M.u) (λm hm=>hA m (List.mem_cons_of_mem _ hm)) λr hr=> ?_
  obtain ⟨_,_,_,_,hx⟩:=ND (hA M List.mem_cons_self).2.1
  rcases AU hr with h1 | h1
  ·exact h r (AT h1)
  ·unfold tX;rw [h1];exact hx
theorem Ug {b:Bs}(h:vI b):ia (nc b):=by
 refine ⟨?_,Kt (ji h.1) λr hr=>by cases hr⟩
 have h1:=zu (bN b 0) []
 have h2:=Km h.1 h.2
 simp only [length_nil] at h1
 show (kO [] (bN b 0)).length≤_
 omega
theorem pC {b:Bs}(h:vI b):mY (FW.rx b):=⟨nc b,rfl,Ug h⟩
theorem Uh {b c2:Bs}{zs:List Int}(hb:b.length≤20000→IsB b)(hc:c2.length≤20000→IsB c2)(hz:∀z∈zs,0≤z∧z<256):VCx prog aM 0 vF [.vec 1 b .none,.vec 1 c2 .none,.vec 1 (bV zs) .none] ⟨[],[]⟩ iz:=by
 have hlen:(bV zs).length=zs.length:=length_map _
 have hC:bu prog aM (aT [(Nt,A9),(J6,Ny FW vI),(DO,Fu (de 0 [])),(mI,AL FW vH VfQ),(qJ,Fv FW Kn),(J7,AM),(tW,NA),(tV,AM),(S7,Nn)]):=aZ λq hq=>by
  simp only [mem_cons,not_mem_nil,or_false] at hq
  rcases hq with rfl | rfl | rfl | rfl | rfl | rfl | rfl | rfl | rfl
  ·exact K5 bc P9
  ·exact Ue
  ·exact Kp
  ·exact DV
  ·exact Ko
  ·exact λro ys T K h=>VCx.anyG (U6 ro ys T K h)
  ·exact λro ys T K h=>VCx.anyG (TJ ro ys T K h)
  ·exact λro ys T K h=>VCx.anyG (U7 ro ys T K h)
  ·exact Sv bc
 have hL:dy prog aM (bX [(0,NB FW (bV zs) (λb o lk es ck x tl=>zs.length≤100∧Uf b o lk es ck x tl) (λb w rb lk es ck x tl=>yq b w rb lk es ck x tl),aE prog vF 0)]):=bO λq hq=>by
  obtain rfl:=mem_singleton.1 hq
  intro rd ro σ T D K h
  have h':NB FW (bV zs) (λb o lk es ck x tl=>zs.length≤100∧Uf b o lk es ck x tl) (λb w rb lk es ck x tl=>yq b w rb lk es ck x tl) rd ro σ T D K:=h
  clear h
  unfold NB at h'
  split at h'
  ·rename_i R p8 R2 p11 b cs n j f1 f2 o sh lk es ck s m x d0 u0 he hT
   obtain ⟨⟨rfl,rfl,rfl,hn,rfl,rfl,rfl,rfl,rfl,rfl,rfl,rfl,hzl,rfl,hb,hQ⟩,hK⟩:=h'
   obtain ⟨objs,tls⟩:=T
   simp only at hT hQ
   subst hT
   exact cd (ad:= []) (T0:=uc f1 f2 (de 0 []) lk es ck x d0 u0 tls) (R:=λK=>∀(w rb:Bs) (lk':bF) (es':bw) (ck':Nat) (x':TV) (d u:Int) (tl':bq),yq b w rb lk' es' ck' x' tl'→K .normal (aI 92 t7 (t8 R R2 rb (bV zs) (bV zs).length)) (uc f1 f2 (FW.so w) lk' es' ck' x' d u tl') []) (λK hK=>Qb hb hz hzl hQ K hK) none 0 σ _ [] K ⟨⟨rfl,rfl,rfl,trivial,rfl,hn,he⟩,hK⟩
  ·exact h'.elim
 refine aj ac aa hC hL (U2 (de 0 []) FW b c2 (bV zs) vH VfQ Kn vI (λb o lk es ck x tl=>zs.length≤100∧Uf b o lk es ck x tl) (λb w rb lk es ck x tl=>yq b w rb lk es ck x tl) iz) ?_
 refine am (λ_=>trivial) λc1=>am (λ_=>trivial) λc3=>am (λ_=>trivial) λc5=> ?_
 have c1:=of_decide_eq_false c1
 have c3:=of_decide_eq_false c3
 have c5:=of_decide_eq_false c5
 rw [hlen] at c5
 have hb:vI b:=⟨hb (by omega),by omega⟩
 have hc:vI c2:=⟨hc (by omega),by omega⟩
 refine ⟨hb,hc,rfl,⟨rfl,rfl,rfl,rfl,rfl,rfl,rfl,rfl,rfl,rfl,rfl,rfl,by omega,rfl,hb,VfQ.empty⟩,λw rb lk' es' ck' x' d u tl h=> ?_⟩
 obtain ⟨hbw,hQ⟩:=h
 have hw:IsB w:=lY (b:=rb) (by rw [←hbw];exact hb.1)
 refine ⟨w,⟨⟨rfl,rfl,rfl,rfl⟩,rfl,rfl,by rw [←hbw];exact hb,hQ⟩,λlk2 es2 ck2 x2 d2 u2 tl2 h2=> ?_⟩
 rw [←hbw] at h2
 refine ⟨⟨by rw [←hbw],_,_,_,tK hb.1,rfl⟩,⟨b,⟨⟨rfl,rfl,rfl,rfl⟩,rfl,?_,hb.1,h2⟩,⟨pC hb,pC hb⟩,bd (decide_eq_true rfl) ⟨⟨pC hb,pC hc⟩,pC hb,pC hc,⟨pC hb,pC hc⟩,bd ?_ trivial⟩⟩⟩
 ·rw [←hbw];rfl
 ·simp [av,aq,cl]
end
section
open Go.ChangeShapes Go.WideShapes Go.ChangeAt Go.RowKit Go.Joins Go.Deep
section
variable {P:Program}{H:Type}{enc:TypeId × Value→H}{w:World}{base:Nat}{spare:Nat→Bool}{held:Bool}
end
end
section
open Go.ChangeShapes Go.WideShapes Go.ChangeAt Go.RowKit Go.Joins
theorem MG:ownKnob prog.godebug=none:=by kernel_rfl
theorem ug:laidOutB prog=true:=by kernel_rfl
end
section
open Go.ChangeShapes Go.WideShapes Go.ChangeAt Go.RowKit Go.Joins Go.Deep
def oP:List Int:= [0,29,23,21,19]
theorem yr:prog.globalNamed "fairway/message.least" =some 0:=by kernel_rfl
theorem Ku {w:World}(h:TabIs prog w "fairway/message.least" .i64 oP):GOk aM (lM w) w:=by
 intro n cs hn
 unfold aM at hn
 cases hb:beq n 0 with
 |false=>rw [hb] at hn;cases hn
 |true=>
  rw [hb] at hn
  have:=Nat.eq_of_beq_eq_true hb
  subst this
  injection hn with hn;subst hn
  have cell:∀(j:Nat) u,(oP.map λz=>Value.int .i64 z)[j]?=some u→w.cell? ⟨0,0+j,none⟩=some u:=λj u hj=>by
   have hlt:j<oP.length:=by
    have:=(List.getElem?_eq_some_iff.1 hj).1
    simpa using this
   have h1:=h.cell yr j hlt
   rw [Nat.zero_add,h1,←hj,getElem?_map,List.getD_eq_getElem?_getD,getElem?_eq_getElem hlt]
   rfl
  refine VR.mk_elt (us:=oP.map λz=>Value.int .i64 z) (VRs.vals (lM w) w [.int .i64 0,.int .i64 29,.int .i64 23,.int .i64 21,.int .i64 19]) (λj hj=> ?_) cell (λu hu=> ?_)
  ·show (w.cell? ⟨_,0+j,none⟩).isSome=true
   have hj':j<(oP.map λz=>Value.int .i64 z).length:=hj
   rw [cell j _ (getElem?_eq_getElem hj')];rfl
  ·obtain ⟨z,_,rfl⟩:=List.mem_map.1 hu
   rfl
theorem NN {l:List (List TV)}(h:∀x∈l,∃z,x= [.val (.int .u8 z)]∧(Lit.int .u8 z).wf=true):∃zs:List Int,l=bV zs∧∀z∈zs,0≤z∧z<256:=by
 induction l with
 |nil=>exact ⟨[],rfl,λ_ h=>by simp at h⟩
 |cons x l ih=>
  obtain ⟨zs,h1,h2⟩:=ih λy hy=>h y (List.mem_cons_of_mem _ hy)
  obtain ⟨z,rfl,hz⟩:=h x List.mem_cons_self
  refine ⟨z::zs,by simp only [bV,map_cons] at h1 ⊢;rw [h1];rfl,λy hy=> ?_⟩
  rcases mem_cons.1 hy with rfl | hy
  ·simp [Lit.wf] at hz
   have e0:u8.min=0:=by decide
   have e1:u8.max=255:=by decide
   omega
  ·exact h2 y hy
theorem FD {l:List (List TV)}(h:∀x∈l,∃z,x= [.val (.int .u8 z)]∧(Lit.int .u8 z).wf=true)(hl:l.length≤20000):IsB l:=by
 refine ⟨?_,by omega⟩
 obtain ⟨zs,h1,h2⟩:=NN h
 exact ⟨zs,h1,h2⟩
theorem Qc (b:Bs)(hb:∀x∈b,∃z,x= [.val (.int .u8 z)]∧(Lit.int .u8 z).wf=true)(c:Bs)(hc:∀x∈c,∃z,x= [.val (.int .u8 z)]∧(Lit.int .u8 z).wf=true)(q:Bs)(hq:∀x∈q,∃z,x= [.val (.int .u8 z)]∧(Lit.int .u8 z).wf=true)(v u t:Value)(w:World)(hG:GOk aM (lM w) w)(hv:VR (lM w) w (.vec 1 b .none) v)(hu:VR (lM w) w (.vec 1 c .none) u)(ht:VR (lM w) w (.vec 1 q .none) t):
  Calls prog vF #[v,u,t] w λe w'=>e=.returned (.bool true)∧Gr w w':=by
 obtain ⟨zs,rfl,hz⟩:=NN hq
 exact VCx.topK (us:= [v,u,t]) (Uh (FD hb) (FD hc) hz) w hG (VRs.cons hv (VRs.cons hu (VRs.cons ht (VRs.nil _ _))))
theorem DW {W:World}(h:laidMetH prog Rows.viewPiecesRow.laid W):TabIs prog W "fairway/message.least" .i64 oP:=by
 have h':laidMet prog [("fairway/message.least",Lib.tabData .i64 oP)] W:=h
 exact Lib.tabIs_of_head yr (by kernel_rfl) Tryz.underlying141 Tryz.underlying3 (by kernel_rfl) (by kernel_rfl) h'
theorem pU {H:Type}{enc:TypeId × Value→H}{w:World}{b0 base:Nat}{spare:Nat→Bool}{held:Bool}{v:Value}{d:DataW H}{p:List MemPlace}
  (hv:Value.okWide prog w .any b0 22 v) (h:DataW.Trod enc prog w base spare held 22 v d p):∃l:List (List TV),VR (lM w) w (.vec 1 l .none) v∧∀x∈l,∃z,x= [.val (.int .u8 z)]∧(Lit.int .u8 z).wf=true:=by
 obtain ⟨fuel,hf⟩:=h
 obtain ⟨qq,n,c,rfl⟩:=okWide_slice underlying22 hv
 have okc:Cell.okWide prog w .any b0 22 (.slice qq n c):=by
  unfold Value.okWide at hv
  rw [underlying22] at hv
  exact hv
 exact Pf underlying22 Tryz.underlying5 (by kernel_rfl) okc hf
end
section
open Go.ChangeShapes Go.WideShapes Go.ChangeAt Go.RowKit Go.Joins Go.Deep
theorem uV (os:Os)(started:os.Started)(H:Type)(enc:TypeId × Value→H):
  ReturnsInHanded {} checked os 4 .any (λw args=>(Rows.viewPiecesSpec.pre enc prog Tryz.f4 [] false w args∧laidMetH prog Rows.viewPiecesRow.laid w)∧sizedMet enc prog Tryz.f4 (ofChange Rows.viewPiecesSpec) false w args)
   (Rows.viewPiecesSpec.post enc prog Tryz.f4 false true false false):=by
 refine returnsInHanded_of_change_and (C:=checked) (X:=λw _=>laidMetH prog Rows.viewPiecesRow.laid w) (λ_ _ _ hh h=>h.of_heap hh) MG started (by kernel_rfl) func4
  (ChangeSpec.witness_shaped (enc:=enc) (C:=checked) (os:=os) (X:=λw _=>laidMetH prog Rows.viewPiecesRow.laid w) false (World.laidAll prog os Rows.viewPiecesRow.laid) #[.slice none 0 0,.slice none 0 0,.slice none 0 0] 8 (World.laidAll_os _ _ _)
   (World.shaped_of_ZipB (by kernel_rfl) (by kernel_rfl)) (by kernel_rfl) (by kernel_rfl) (by kernel_rfl)
   (by rw [MakeChecks.laidMetH_plain _ _ _ (by kernel_rfl)];exact laidMet_laidAll _ (by kernel_rfl) (by kernel_rfl))) ?_
 intro W base args ds gs before hval0 hW _ _ hL _
 have hval:∀(j:Nat) t v,Tryz.f4.params[j]?=some t→args[j]?=some v→Value.okWide prog W .any base t v:=hval0
 have hW':=hW
 obtain ⟨p,q,hA0,hV,rfl,hfz,hnd⟩:=hW
 have hA:DataW.TrodAll enc prog W 0 (λ_=>true) true Tryz.f4.params.toList args.toList ds p:=hA0
 rw [params4] at hA hval
 obtain ⟨v0,vs0,d0,ds0,p0,q0,hargs,rfl,rfl,h0,r0⟩:=trodAll_cons hA
 obtain ⟨v1,vs1,d1,ds1,p1,q1,rfl,rfl,rfl,h1,r1⟩:=trodAll_cons r0
 obtain ⟨v2,vs2,d2,ds2,p2,q2,rfl,rfl,rfl,h2,r2⟩:=trodAll_cons r1
 obtain ⟨rfl,rfl,rfl⟩:=trodAll_nil r2
 obtain rfl:args= #[v0,v1,v2]:=by cases args;simp_all
 obtain ⟨rfl,rfl⟩:=trodVars_none hV
 have lt0:∀x∈p0,x.block<W.heap.size:=by obtain ⟨m,hm⟩:=h0;exact trod_lt m _ _ _ hm
 have lt1:∀x∈p1,x.block<W.heap.size:=by obtain ⟨m,hm⟩:=h1;exact trod_lt m _ _ _ hm
 have lt2:∀x∈p2,x.block<W.heap.size:=by obtain ⟨m,hm⟩:=h2;exact trod_lt m _ _ _ hm
 obtain ⟨x0,x0v,x0h⟩:=pU (hval 0 22 v0 rfl rfl) h0
 obtain ⟨x1,x1v,x1h⟩:=pU (hval 1 22 v1 rfl rfl) h1
 obtain ⟨x2,x2v,x2h⟩:=pU (hval 2 22 v2 rfl rfl) h2
 clear hA0 hval0
 refine (Qc x0 x0h x1 x1h x2 x2h v0 v1 v2 W (Ku (DW hL)) x0v x1v x2v).mono λe W' ⟨he,bel⟩=> ?_
 subst he
 exact ⟨_,rfl,_,_,_,[],_,[],hW',trodAll_mk1 (shut_bool Tryz.underlying4 _),(trodAll_cons_mk (trod ug (by kernel_rfl) (of_decide_eq_true (by kernel_rfl)) h0 bel lt0) (trodAll_cons_mk (trod ug (by kernel_rfl) (of_decide_eq_true (by kernel_rfl)) h1 bel lt1) (trodAll_cons_mk (trod ug (by kernel_rfl) (of_decide_eq_true (by kernel_rfl)) h2 bel lt2) trodAll_mk0))),rfl,Below.frame bel _,λh=>by cases h⟩
end
section
open Go
theorem jO:pinned.checked=checked:=rfl
theorem lr:checked.prog=prog:=rfl
theorem zy {H:Type}(enc:TypeId × Value→H)(P:Program)(fn:Func):
 Rows.viewPiecesRow.pre enc P fn (ofChange Rows.viewPiecesSpec)=λw args=>(Rows.viewPiecesSpec.pre enc P fn [] false w args∧laidMetH P Rows.viewPiecesRow.laid w)∧sizedMet enc P fn (ofChange Rows.viewPiecesSpec) false w args:=rfl
set_option maxHeartbeats 10000000 in
theorem uW:joinedFacts prog 4 Tryz.f4 Rows.viewPiecesSpec Rows.viewPiecesRow=true:=by
 unfold joinedFacts
 repeat' rw [Bool.and_eq_true]
 repeat' apply And.intro
 all_goals (as_aux_lemma=>kernel_rfl)
theorem wC:joinedFacts pinned.checked.prog 4 Tryz.f4 Rows.viewPiecesSpec Rows.viewPiecesRow=true:=by
 rw [jO,lr];exact uW
theorem yu:Tryz.f4.isInstance pinned.checked.prog Rows.viewPiecesRow.origin Rows.viewPiecesRow.targs:=(of_decide_eq_true (by kernel_rfl))
theorem yv:Tryz.f4.isWrapper pinned.checked.prog Rows.viewPiecesRow.wrapper Rows.viewPiecesRow.mainSum:=by unfold Func.isWrapper;first | (rw [if_pos (by decide+kernel)];kernel_rfl) | (rw [if_neg (by decide+kernel)];exact ⟨rfl,rfl⟩)
theorem pD:pinned.checked.prog.funcNamed Rows.viewPiecesRow.func=some 4:=by kernel_rfl
theorem sg:pinned.checked.prog.funcs[(4:Nat)]?=some Tryz.f4:=by
 rw [jO,lr];exact func4
theorem yw (os:Os)(started:os.Started)(H:Type)(enc:TypeId × Value→H):
  ReturnsInHanded Rows.viewPiecesRow.assume pinned.checked os 4 .any (Rows.viewPiecesRow.pre enc pinned.checked.prog Tryz.f4 (ofChange Rows.viewPiecesSpec))
   (Rows.viewPiecesSpec.post enc pinned.checked.prog Tryz.f4 Rows.viewPiecesRow.apart Rows.viewPiecesRow.fresh Rows.viewPiecesRow.handsOn Rows.viewPiecesRow.again):=by
 rw [zy,jO,lr]
 exact uV os started H enc
theorem viewPieces_holds:Rows.ViewPiecesSaid:=
 OpenClaim.holds_of_wide 4 Tryz.f4 rfl rfl rfl rfl rfl rfl rfl ⟨rfl,rfl,rfl,rfl,rfl⟩ rfl rfl rfl rfl rfl pD sg wC yu yv
  (λos started H enc _=>yw os started H enc)
theorem AZ:Rows.viewPiecesRow.wfByText (ofChange Rows.viewPiecesSpec)=true:=by kernel_rfl
theorem yx:pinned.checked.prog.mainIs=some (true,("ae6bfa48ff874209fb91ee4d6b8200c209cef8b63efeab03834c9486fb22d5ca" :String).toList):=by kernel_rfl
theorem yy:false=Rows.viewPiecesRow.goesBy pinned.checked.prog:=by kernel_rfl
theorem wD:false=pinned.checked.prog.looks []:=by kernel_rfl
theorem wE:([22,22,22].all λu=> !Tryz.pinned.checked.prog.wantsStandIn u)=true:=by kernel_rfl
theorem A0:Tryz.f4.params= #[22,22,22]:=params4
theorem viewPiecesCard_holds:Rows.ViewPiecesCardSaid:=
 Claim7.holds_tied_plain_at .later [] [.data] true (true, "ae6bfa48ff874209fb91ee4d6b8200c209cef8b63efeab03834c9486fb22d5ca") false
  viewPieces_holds (λ_ h=>by cases h) AZ (λ_ h=>by cases h) viewPieces_row_tie rfl ⟨rfl,rfl⟩ yx rfl
  (λf fn hf hfn=>by
   obtain rfl:f=4:=Option.some.inj (hf.symm.trans pD)
   obtain rfl:fn=Tryz.f4:=Option.some.inj (hfn.symm.trans sg)
   refine ⟨wD,λj t ht=> ?_⟩
   rw [A0] at ht
   have hm:t∈ [22,22,22]:=by simpa using Array.mem_of_getElem? ht
   have:=List.all_eq_true.1 wE t hm
   simpa using this)
  yy
#print axioms viewPiecesCard_holds
end
end Go.Proofs.YtaijldpbpimdlaaGreatDoor